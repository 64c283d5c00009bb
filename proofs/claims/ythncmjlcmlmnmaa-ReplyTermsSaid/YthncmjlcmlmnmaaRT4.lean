/- Regions whose order is open: whatever order is drawn. Conditions: none. -/
import Derived.Test.YthncmjlcmlmnmaaRT3
import Derived.Orders
namespace Go.Proofs.Ythncmjlcmlmnmaa.V
open Go Go.RowKit
theorem Ob.same_refl (o : Option Ob) : Ob.same o o := by
 cases o with
 | none => trivial
 | some o => cases o <;> simp [Ob.same]
theorem Ob.same_trans {a b c : Option Ob} (h : Ob.same a b) (k : Ob.same b c) : Ob.same a c := by
 cases a with
 | none => cases b with
  | none => exact k
  | some b => exact h.elim
 | some a => cases b with
  | none => cases a <;> exact h.elim
  | some b => cases c with
   | none => cases b <;> exact k.elim
   | some c => cases a <;> cases b <;> cases c <;> simp_all [Ob.same]
theorem Agree.refl (wr : List Nat) (m : Mem) : Agree wr m m := ⟨Nat.le_refl _, fun _ _ _ h => by rw [h]; exact Ob.same_refl _⟩
theorem Agree.trans {wr : List Nat} {a b c : Mem} (h : Agree wr a b) (k : Agree wr b c) : Agree wr a c := ⟨Nat.le_trans h.1 k.1, fun id ob hi hg => by
 have h1 := h.2 id ob hi hg
 cases hb : b.get id with
 | none => rw [hb] at h1; cases ob <;> exact h1.elim
 | some ob' => rw [hb] at h1; exact Ob.same_trans h1 (k.2 id ob' hi hb)⟩
theorem Agree.blk {wr : List Nat} {m m' : Mem} (h : Agree wr m m') {id v : Nat} {cs : List AV} (hi : id ∉ wr) (hg : m.get id = some (.blk v cs)) : m'.get id = some (.blk v cs) := by
 have := h.2 id _ hi hg
 cases hg' : m'.get id with
 | none => rw [hg'] at this; exact this.elim
 | some ob => rw [hg'] at this; cases ob with
  | blk v' cs' => obtain ⟨rfl, rfl⟩ := this; rfl
  | arr _ _ _ _ _ => exact this.elim
theorem Agree.arr {wr : List Nat} {m m' : Mem} (h : Agree wr m m') {id v sz : Nat} {es : List (List CV)} {cap : Option Nat} {pub : Bool} (hi : id ∉ wr) (hg : m.get id = some (.arr v sz es cap pub)) : ∃ pub', m'.get id = some (.arr v sz es cap pub') := by
 have := h.2 id _ hi hg
 cases hg' : m'.get id with
 | none => rw [hg'] at this; exact this.elim
 | some ob => rw [hg'] at this; cases ob with
  | blk _ _ => exact this.elim
  | arr v' sz' es' cap' pub' => obtain ⟨rfl, rfl, rfl, rfl⟩ := this; exact ⟨_, rfl⟩
section
variable {T : Tab} {G : Glob} {D : Spec} {wr : List Nat}
def k1g (T : Tab) (G : Glob) (tm tm' : List AV) (o : Oper) : Prop := ∀ x ∈ o.op.operands, ∀ ty, evO T G tm' ty x = evO T G tm ty x
theorem w6j {tm tm' : List AV} : ∀ (xs : List Operand) (tys : List TypeId), (∀ x ∈ xs, ∀ ty, evO T G tm' ty x = evO T G tm ty x) → evL T G tm' xs tys = evL T G tm xs tys
 | [], _, _ => rfl
 | x :: xs, tys, h => by simp only [evL]; rw [h x (by simp), w6j xs tys.tail (fun y hy => h y (by simp [hy]))]
theorem w0c {tm tm' : List AV} (ps : Array (Nat × Operand)) (h : ∀ x ∈ (ps.toList.map (·.2)), ∀ ty, evO T G tm' ty x = evO T G tm ty x) :
  (ps.toList.map fun p => (p.1, evO T G tm' 0 p.2)) = (ps.toList.map fun p => (p.1, evO T G tm 0 p.2)) := by
 apply List.map_congr_left
 intro p hp
 rw [h p.2 (List.mem_map.2 ⟨p, hp, rfl⟩)]
theorem w1a {tm tm' : List AV} (x : Option Operand) (h : ∀ y ∈ x.toArray, ∀ ty, evO T G tm' ty y = evO T G tm ty y) : x.map (evO T G tm' 0) = x.map (evO T G tm 0) := by
 cases x with
 | none => rfl
 | some x => simp only [Option.map_some]; rw [h x (by simp)]
theorem w2p {tm tm' : List AV} (o : Oper) (h : k1g T G tm tm' o) (m : Mem) (K : KK) : opW T G D tm' o m K = opW T G D tm o m K := by
 unfold k1g at h
 unfold opW
 dsimp only
 split <;> rename_i ho <;> (try rw [ho] at h) <;> (try simp only [Op.operands] at h)
 case h_1 x => rw [h x (by simp)]
 case h_2 x => rw [h x (by simp)]
 case h_3 c a b => rw [h c (by simp), h a (by simp), h b (by simp)]
 case h_5 e x => rw [h x (by simp)]
 case h_6 t ps => rw [w0c ps (fun x hx => h x (by simpa using hx))]
 case h_7 t len ps => rw [w0c ps (fun x hx => h x (by simpa using hx))]
 case h_8 t x => rw [h x (by simp)]
 case h_9 t x y => rw [h x (by simp), h y (by simp)]
 case h_10 x => rw [h x (by simp)]
 case h_11 op t x y _ => rw [h x (by simp), h y (by simp)]
 case h_12 x => rw [h x (by simp)]
 case h_13 s d x => rw [h x (by simp)]
 case h_14 t l c => rw [h l (by simp), h c (by simp)]
 case h_15 t x lo hi mx => rw [h x (by simp), w1a lo (fun y hy => h y (by simp at hy ⊢; simp [hy])), w1a hi (fun y hy => h y (by simp at hy ⊢; simp [hy])), w1a mx (fun y hy => h y (by simp at hy ⊢; simp [hy]))]
 case h_16 s x f => rw [h x (by simp)]
 case h_17 t x f => rw [h x (by simp)]
 case h_18 t x i => rw [h x (by simp), h i (by simp)]
 case h_19 t x i => rw [h x (by simp), h i (by simp)]
 case h_20 x i => rw [h x (by simp)]
 case h_21 c =>
  have hargs : ∀ x ∈ c.args.toList, ∀ ty, evO T G tm' ty x = evO T G tm ty x := fun x hx => h x (by unfold Call.operands; simp at hx; simp [hx])
  rw [w6j _ _ hargs]
  split
  ·rfl
  ·rename_i f hf
   have := h f (by unfold Call.operands; rw [hf]; simp)
   rw [this]
  ·rfl
 case h_22 => rfl
def Quiet (T : Tab) (G : Glob) (D : Spec) (wr : List Nat) (tm : List AV) (o : Oper) (m : Mem) (v : AV) : Prop := ∀ m', (memOp o = true → Agree wr m m') → ∀ K : KK, K v m' → opW T G D tm o m' K
theorem z7x {agg : Bool} {s : Nat} {cs : List AV} {K : AV → Prop} (h : readA agg s cs K) : ∃ v, K v ∧ ∀ K' : AV → Prop, K' v → readA agg s cs K' := by
 unfold readA at h ⊢
 split at h
 ·rename_i ha; exact ⟨_, h.2, fun K' hk => by rw [if_pos ha]; exact ⟨h.1, hk⟩⟩
 ·rename_i ha
  cases cs with
  | nil => exact h.elim
  | cons x r => exact ⟨x, h, fun K' hk => by rw [if_neg ha]; exact hk⟩
theorem w8l {op : BinOp} {a b : Value} {K : Value → Prop} (h : sBin op a b K) : ∃ v, K v ∧ ∀ K' : Value → Prop, K' v → sBin op a b K' := by
 cases a <;> cases b <;> simp only [sBin] at h ⊢ <;> try exact h.elim
 case int.int k x k' y =>
  cases op <;> simp only at h ⊢ <;> first
   | exact ⟨_, h.2.2, fun K' hk => ⟨h.1, h.2.1, hk⟩⟩
   | exact ⟨_, h.2, fun K' hk => ⟨h.1, hk⟩⟩
 case string.string x y =>
  cases op <;> simp only at h ⊢ <;> first
   | exact h.elim
   | exact ⟨_, h.2, fun K' hk => ⟨h.1, hk⟩⟩
   | exact ⟨_, h, fun K' hk => hk⟩
theorem w0n {d : Int} {x : Option AV} {K : Int → Prop} (h : bnd d x K) : ∃ n, K n ∧ ∀ K' : Int → Prop, K' n → bnd d x K' := by
 unfold bnd at h ⊢
 split at h
 ·exact ⟨_, h, fun K' hk => hk⟩
 ·exact ⟨_, h, fun K' hk => hk⟩
 ·exact h.elim
theorem binW_ex {op : BinOp} {k : TK} {m : Mem} {x y : AV} {K : AV → Prop} (h : binW op k m x y fun v _ => K v) : ∃ v, K v ∧ ∀ (m' : Mem) (K' : KK), K' v m' → binW op k m' x y K' := by
 unfold binW at h
 split at h
 ·split at h
  ·exact ⟨_, h, fun m' K' h => h⟩
  ·exact ⟨_, h, fun m' K' h => h⟩
  ·exact h.elim
 ·obtain ⟨v, h1, h2⟩ := w8l h
  exact ⟨_, h1, fun m' K' h => h2 (fun r => K' (.c (.v r)) m') h⟩
 ·obtain ⟨v, h1, h2⟩ := w8l h
  exact ⟨_, h1, fun m' K' h => h2 (fun r => K' (.c (.v r)) m') h⟩
 ·split at h
  ·rename_i n1 n2
   refine ⟨_, h.2, fun m' K' hk => ?_⟩
   unfold binW
   split
   ·simp [isNil] at n1
   ·simp [isNil] at n1
   ·simp [isNil] at n1
   ·rw [n1, n2]; exact ⟨h.1, hk⟩
  ·rename_i n1 n2
   refine ⟨_, h.2, fun m' K' hk => ?_⟩
   unfold binW
   split
   ·simp [isNil] at n1
   ·simp [isNil] at n1
   ·simp [isNil] at n1
   ·rw [n1, n2]; exact ⟨h.1, hk⟩
  ·exact h.elim
theorem w6b {agg : Bool} {s : Nat} {m : Mem} {x : AV} {K : AV → Prop} (hx : (∃ y, x = .c y) ∨ ∃ id ver o, x = .p id ver o ∧ id ∉ wr) (h : loadW agg s m x fun v _ => K v) :
  ∃ v, K v ∧ ∀ m', Agree wr m m' → ∀ K' : KK, K' v m' → loadW agg s m' x K' := by
 rcases hx with ⟨y, rfl⟩ | ⟨id, ver, o, rfl, hi⟩
 ·cases y with
  | rp cs =>
   obtain ⟨v, h1, h2⟩ := z7x h
   exact ⟨v, h1, fun m' _ K' hk => h2 (fun y => K' y m') hk⟩
  | _ => exact h.elim
 ·simp only [loadW] at h ⊢
  split at h
  ·rename_i v cs hg
   obtain ⟨v', h1, h2⟩ := z7x h.2
   exact ⟨v', h1, fun m' ha K' hk => by rw [ha.blk hi hg]; exact ⟨h.1, h2 (fun y => K' y m') hk⟩⟩
  ·exact h.elim
theorem z6q {k : TK} {m : Mem} {x i : AV} {K : AV → Prop} (hx : (∀ id ver n, x ≠ .t id ver n) ∨ ∃ id ver n, x = .t id ver n ∧ id ∉ wr) (h : z1g k m x i fun v _ => K v) :
  ∃ v, K v ∧ ∀ m', Agree wr m m' → ∀ K' : KK, K' v m' → z1g k m' x i K' := by
 unfold z1g at h
 split at h
 ·split at h
  ·exact ⟨_, h.2.2.2, fun m' _ K' hk => ⟨h.1, h.2.1, h.2.2.1, hk⟩⟩
  ·exact ⟨_, h.2.2.2, fun m' _ K' hk => ⟨h.1, h.2.1, h.2.2.1, hk⟩⟩
  ·exact ⟨_, h.2.2.2, fun m' _ K' hk => ⟨h.1, h.2.1, h.2.2.1, hk⟩⟩
  ·rename_i id ver n
   have hi : id ∉ wr := by
    rcases hx with hx | ⟨id', ver', n', e, hi⟩
    ·exact absurd rfl (hx _ _ _)
    ·injection e with e1; subst e1; exact hi
   split at h
   ·rename_i hg
    refine ⟨_, h.2.2.2.2.2, fun m' ha K' hk => ?_⟩
    obtain ⟨pub', hg'⟩ := ha.arr hi hg
    simp only [z1g, hg']
    exact ⟨h.1, h.2.1, h.2.2.1, h.2.2.2.1, h.2.2.2.2.1, hk⟩
   ·exact h.elim
  ·exact h.elim
 ·exact h.elim
theorem w9y {k : TK} {m : Mem} {x i : AV} {K : AV → Prop} (h : z6p k m x i fun v _ => K v) : ∃ v, K v ∧ ∀ (m' : Mem) (K' : KK), K' v m' → z6p k m' x i K' := by
 unfold z6p at h
 split at h
 ·split at h
  ·exact ⟨_, h.2.2, fun m' K' hk => ⟨h.1, h.2.1, hk⟩⟩
  ·obtain ⟨v, h1, h2⟩ := z7x h.2.2
   exact ⟨v, h1, fun m' K' hk => ⟨h.1, h.2.1, h2 (fun y => K' y m') hk⟩⟩
  ·exact h.elim
 ·exact h.elim
theorem k1i {esz : Nat} {m : Mem} {x : AV} {F : List (List CV) → Prop} (hx : (∃ y, x = .c y) ∨ ∃ id ver n, x = .t id ver n ∧ id ∉ wr) (h : viewS esz m x F) : ∃ es, F es ∧ ∀ m', Agree wr m m' → ∀ F', F' es → viewS esz m' x F' := by
 rcases hx with ⟨y, rfl⟩ | ⟨id, ver, n, rfl, hi⟩
 ·cases y with
  | sl sz es sp => exact ⟨_, h.2, fun m' _ F' hf => ⟨h.1, hf⟩⟩
  | _ => exact h.elim
 ·simp only [viewS] at h ⊢
  split at h
  ·rename_i hg
   refine ⟨_, h.2.2.2, fun m' ha F' hf => ?_⟩
   obtain ⟨pub', hg'⟩ := ha.arr hi hg
   rw [hg']; exact ⟨h.1, h.2.1, h.2.2.1, hf⟩
  ·exact h.elim
theorem k0n {src : TK} {k : IntKind} {site : Nat} {m : Mem} {x : AV} {K : AV → Prop} (h : convW src (.int k) site m x fun v _ => K v) : ∃ v, K v ∧ ∀ (m' : Mem) (site' : Nat) (K' : KK), K' v m' → convW src (.int k) site' m' x K' := by
 cases src with
 | int k0 =>
  cases x with
  | c y => cases y with
   | v u => cases u with
    | int k1 n => exact ⟨_, h, fun m' site' K' hk => hk⟩
    | _ => exact h.elim
   | _ => exact h.elim
  | _ => exact h.elim
 | sl a b c d =>
  exfalso
  unfold convW at h
  split at h <;> simp_all
 | _ => exact h.elim
theorem w3m {src : TK} {site : Nat} {m : Mem} {x : AV} {K : AV → Prop} (hx : (∃ y, x = .c y) ∨ ∃ id ver n, x = .t id ver n ∧ id ∉ wr) (h : convW src .str site m x fun v _ => K v) :
  ∃ v, K v ∧ ∀ m', Agree wr m m' → ∀ (site' : Nat) (K' : KK), K' v m' → convW src .str site' m' x K' := by
 cases src with
 | str =>
  cases x with
  | c y => cases y with
   | v u => cases u with
    | string st => exact ⟨_, h, fun m' _ site' K' hk => hk⟩
    | _ => exact h.elim
   | _ => exact h.elim
  | _ => exact h.elim
 | sl a b c d =>
  by_cases hs : a = 1 ∧ b = false ∧ c = 1 ∧ d = true
  ·obtain ⟨rfl, rfl, rfl, rfl⟩ := hs
   have h' : viewS 1 m x fun es => match bytesOf es with | some b => K (.c (.v (.string ⟨b.toArray⟩))) | none => False := h
   obtain ⟨es, h1, h2⟩ := k1i (wr := wr) hx h'
   split at h1
   ·rename_i b hb
    exact ⟨_, h1, fun m' ha site' K' hk => h2 m' ha (fun es => match bytesOf es with | some b => K' (.c (.v (.string ⟨b.toArray⟩))) m' | none => False) (by simp only [hb]; exact hk)⟩
   ·exact h1.elim
  ·exfalso
   unfold convW at h
   split at h <;> simp_all
 | _ => exact h.elim
theorem w7a {k : TK} {m : Mem} {y : CV} {lo hi mx : Option AV} {K : AV → Prop} (h : z3l k m (.c y) lo hi mx fun v _ => K v) : ∃ v, K v ∧ ∀ (m' : Mem) (K' : KK), K' v m' → z3l k m' (.c y) lo hi mx K' := by
 unfold z3l at h
 split at h
 ·rename_i s he
  injection he with he; subst he
  obtain ⟨hm, h⟩ := h
  obtain ⟨l, h, r1⟩ := w0n h
  obtain ⟨hh, h, r2⟩ := w0n h
  exact ⟨_, h.2.2.2, fun m' K' hk => ⟨hm, r1 _ (r2 _ ⟨h.1, h.2.1, h.2.2.1, hk⟩)⟩⟩
 ·rename_i esz ea eb u8 sz es sp he
  injection he with he; subst he
  obtain ⟨hsz, h⟩ := h
  obtain ⟨l, h, r1⟩ := w0n h
  obtain ⟨hh, h, r2⟩ := w0n h
  cases mx with
  | none =>
   obtain ⟨h1, h2, h⟩ := h
   cases sp with
   | none => exact ⟨_, h.2, fun m' K' hk => ⟨hsz, r1 _ (r2 _ ⟨h1, h2, h.1, hk⟩)⟩⟩
   | some sp => exact ⟨_, h.2, fun m' K' hk => ⟨hsz, r1 _ (r2 _ ⟨h1, h2, h.1, hk⟩)⟩⟩
  | some mx =>
   obtain ⟨h1, h⟩ := h
   obtain ⟨c, h, r3⟩ := w0n h
   exact ⟨_, h.2.2.2.2, fun m' K' hk => ⟨hsz, r1 _ (r2 _ ⟨h1, r3 _ ⟨h.1, h.2.1, h.2.2.1, h.2.2.2.1, hk⟩⟩)⟩⟩
 ·rename_i he; simp at he
 ·exact h.elim
theorem w6z {k : TK} {m : Mem} {id ver n : Nat} (hi0 : id ∉ wr) {hi mx : Option AV} {K : AV → Prop} (h : z3l k m (.t id ver n) none hi mx fun v _ => K v) :
  ∃ v, K v ∧ ∀ m', Agree wr m m' → ∀ K' : KK, K' v m' → z3l k m' (.t id ver n) none hi mx K' := by
 cases k with
 | sl esz ea eb u8 =>
  simp only [z3l] at h ⊢
  split at h
  ·rename_i hg
   obtain ⟨h1, h2, h3, h4, h⟩ := h
   obtain ⟨hh, h, r2⟩ := w0n h
   refine ⟨_, h.2.2, fun m' ha K' hk => ?_⟩
   obtain ⟨pub', hg'⟩ := ha.arr hi0 hg
   rw [hg']; exact ⟨h1, h2, h3, h4, r2 _ ⟨h.1, h.2.1, hk⟩⟩
  ·exact h.elim
 | _ => simp [z3l] at h
theorem z5v {T : Tab} {m : Mem} {b : Builtin} (hb : b = .len ∨ b = .min ∨ b = .max) {tys : List TypeId} {xs : List AV} {K : AV → Prop} {site : Nat} (h : z1i T site m b tys xs fun v _ => K v) :
  ∃ v, K v ∧ ∀ (m' : Mem) (site' : Nat) (K' : KK), K' v m' → z1i T site' m' b tys xs K' := by
 have mm : ∀ mx, z3c mx m xs (fun v _ => K v) → ∃ v, K v ∧ ∀ (m' : Mem) (K' : KK), K' v m' → z3c mx m' xs K' := fun mx h => by
  unfold z3c at h
  split at h
  ·exact ⟨_, h.2, fun m' K' hk => ⟨h.1, hk⟩⟩
  ·exact h.elim
 rcases hb with rfl | rfl | rfl
 ·rcases xs with _ | ⟨x, _ | ⟨y, r⟩⟩
  ·exact h.elim
  ·rcases tys with _ | ⟨t, _ | ⟨t2, q⟩⟩
   ·exact h.elim
   ·simp only [z1i] at h ⊢
    unfold lenW at h
    split at h
    ·rename_i hk2; exact ⟨_, h, fun m' site' K' hk => by simp only [lenW, hk2]; exact hk⟩
    ·rename_i hk2; exact ⟨_, h, fun m' site' K' hk => by simp only [lenW, hk2]; exact hk⟩
    ·rename_i hk2; exact ⟨_, h, fun m' site' K' hk => by simp only [lenW, hk2]; exact hk⟩
    ·rename_i hk2; exact ⟨_, h, fun m' site' K' hk => by simp only [lenW, hk2]; exact hk⟩
    ·exact h.elim
   ·exact h.elim
  ·exact h.elim
 ·have h' : z3c false m xs (fun v _ => K v) := by
   unfold z1i at h; exact h
  obtain ⟨v, h1, h2⟩ := mm false h'
  exact ⟨v, h1, fun m' site' K' hk => by unfold z1i; exact h2 m' K' hk⟩
 ·have h' : z3c true m xs (fun v _ => K v) := by
   unfold z1i at h; exact h
  obtain ⟨v, h1, h2⟩ := mm true h'
  exact ⟨v, h1, fun m' site' K' hk => by unfold z1i; exact h2 m' K' hk⟩
theorem w4p {tm : List AV} {o : Oper} {m : Mem} {K : AV → Prop} (hk : z6r T G wr tm o m K) : ∃ v, K v ∧ Quiet T G D wr tm o m v := by
 unfold z6r at hk
 unfold Quiet opW
 dsimp only at hk ⊢
 split at hk <;> rename_i ho
 case h_1 x => exact ⟨_, hk, fun m' _ K' h => by rw [ho]; exact h⟩
 case h_2 x => exact ⟨_, hk, fun m' _ K' h => by rw [ho]; exact h⟩
 case h_3 c a b =>
  unfold condB at hk
  split at hk
  ·rename_i bb hb
   cases bb with
   | true => exact ⟨_, hk.1 rfl, fun m' _ K' h => by rw [ho]; unfold condB; simp only [hb]; exact ⟨fun _ => h, fun q => by simp at q⟩⟩
   | false => exact ⟨_, hk.2 rfl, fun m' _ K' h => by rw [ho]; unfold condB; simp only [hb]; exact ⟨fun q => by simp at q, fun _ => h⟩⟩
  ·exact hk.elim
 case h_4 x =>
  unfold z1p at hk
  split at hk
  ·rename_i he; exact ⟨_, hk, fun m' _ K' h => by rw [ho]; unfold z1p; simp only [he]; exact h⟩
  ·rename_i he; exact ⟨_, hk, fun m' _ K' h => by rw [ho]; unfold z1p; simp only [he]; exact h⟩
  ·rename_i he; exact ⟨_, hk, fun m' _ K' h => by rw [ho]; unfold z1p; simp only [he]; exact h⟩
  ·rename_i he; exact ⟨_, hk.2, fun m' _ K' h => by rw [ho]; unfold z1p; simp only [he]; exact ⟨hk.1, h⟩⟩
  ·exact hk.elim
 case h_5 s x f =>
  split at hk
  ·rename_i fs hfs
   split at hk
   ·rename_i off n ea hf
    unfold z1l at hk
    split at hk
    ·rename_i he; exact ⟨_, hk, fun m' _ K' h => by rw [ho]; simp only [hfs, hf]; unfold z1l; simp only [he]; exact h⟩
    ·rename_i he; exact ⟨_, hk, fun m' _ K' h => by rw [ho]; simp only [hfs, hf]; unfold z1l; simp only [he]; exact h⟩
    ·rename_i he; exact ⟨_, hk, fun m' _ K' h => by rw [ho]; simp only [hfs, hf]; unfold z1l; simp only [he]; exact h⟩
    ·exact hk.elim
   ·exact hk.elim
   ·exact hk.elim
  ·exact hk.elim
 case h_6 t x f =>
  split at hk
  ·rename_i fs hfs
   split at hk
   ·rename_i fd hf
    unfold z7o at hk
    split at hk
    ·rename_i cs he
     obtain ⟨v, h1, h2⟩ := z7x hk
     exact ⟨v, h1, fun m' _ K' h => by rw [ho]; simp only [hfs, hf]; unfold z7o; simp only [he]; exact h2 (fun y => K' y m') h⟩
    ·exact hk.elim
   ·exact hk.elim
  ·exact hk.elim
 case h_7 x i =>
  unfold z3q at hk
  split at hk
  ·rename_i cs he
   split at hk
   ·rename_i y hy; exact ⟨y, hk, fun m' _ K' h => by rw [ho]; unfold z3q; simp only [he, hy]; exact h⟩
   ·exact hk.elim
  ·exact hk.elim
 case h_8 op t x y _ =>
  split at hk
  ·rename_i p hp
   unfold eqW at hk
   split at hk
   ·rename_i q1 q2
    split at hk
    ·rename_i q3; exact ⟨_, hk, fun m' _ K' h => by rw [ho]; unfold eqW; simp only [hp, q1, q2, q3]; exact h⟩
    ·rename_i q3; exact ⟨_, hk, fun m' _ K' h => by rw [ho]; unfold eqW; simp only [hp, q1, q2, q3]; exact h⟩
    ·exact hk.elim
   ·exact hk.elim
  ·rename_i hp
   obtain ⟨v, h1, h2⟩ := binW_ex hk
   exact ⟨v, h1, fun m' _ K' h => by rw [ho]; simp only [hp]; exact h2 m' K' h⟩
 case h_9 op _ x =>
  unfold unW at hk
  split at hk
  ·rename_i he; exact ⟨_, hk, fun m' _ K' h => by rw [ho]; unfold unW; simp only [he]; exact h⟩
  ·rename_i he; exact ⟨_, hk, fun m' _ K' h => by rw [ho]; unfold unW; simp only [he]; exact h⟩
  ·rename_i he; exact ⟨_, hk, fun m' _ K' h => by rw [ho]; unfold unW; simp only [he]; exact h⟩
  ·exact hk.elim
 case h_10 t x =>
  split at hk
  ·exact hk.elim
  ·rename_i n hn
   split at hk
   ·rename_i id ver q he
    obtain ⟨v, h1, h2⟩ := w6b (wr := wr) (.inr ⟨_, _, _, rfl, hk.1⟩) hk.2
    exact ⟨v, h1, fun m' ha K' h => by have ha := ha (by simp [memOp, ho]); rw [ho]; simp only [hn, he]; exact h2 m' ha K' h⟩
   ·rename_i y he
    obtain ⟨v, h1, h2⟩ := w6b (wr := wr) (.inl ⟨_, rfl⟩) hk
    exact ⟨v, h1, fun m' ha K' h => by have ha := ha (by simp [memOp, ho]); rw [ho]; simp only [hn, he]; exact h2 m' ha K' h⟩
   ·exact hk.elim
 case h_11 t x i =>
  split at hk
  ·rename_i id ver n he
   obtain ⟨v, h1, h2⟩ := z6q (wr := wr) (.inr ⟨_, _, _, rfl, hk.1⟩) hk.2
   exact ⟨v, h1, fun m' ha K' h => by have ha := ha (by simp [memOp, ho]); rw [ho]; simp only [he]; exact h2 m' ha K' h⟩
  ·rename_i hne
   obtain ⟨v, h1, h2⟩ := z6q (wr := wr) (.inl (fun id ver n e => hne id ver n e)) hk
   exact ⟨v, h1, fun m' ha K' h => by have ha := ha (by simp [memOp, ho]); rw [ho]; exact h2 m' ha K' h⟩
 case h_12 t x i =>
  obtain ⟨v, h1, h2⟩ := w9y hk
  exact ⟨v, h1, fun m' _ K' h => by rw [ho]; exact h2 m' K' h⟩
 case h_13 s d x =>
  split at hk
  ·rename_i k y hd he
   obtain ⟨v, h1, h2⟩ := k0n hk
   exact ⟨v, h1, fun m' _ K' h => by rw [ho]; simp only [hd, he]; exact h2 m' _ K' h⟩
  ·rename_i y hd he
   obtain ⟨v, h1, h2⟩ := w3m (wr := wr) (.inl ⟨_, rfl⟩) hk
   exact ⟨v, h1, fun m' ha K' h => by have ha := ha (by simp [memOp, ho]); rw [ho]; simp only [hd, he]; exact h2 m' ha _ K' h⟩
  ·rename_i id ver n hd he
   obtain ⟨v, h1, h2⟩ := w3m (wr := wr) (.inr ⟨_, _, _, rfl, hk.1⟩) hk.2
   exact ⟨v, h1, fun m' ha K' h => by have ha := ha (by simp [memOp, ho]); rw [ho]; simp only [hd, he]; exact h2 m' ha _ K' h⟩
  ·exact hk.elim
 case h_14 t x lo hi mx =>
  split at hk
  ·rename_i y he
   obtain ⟨v, h1, h2⟩ := w7a hk
   exact ⟨v, h1, fun m' _ K' h => by rw [ho]; simp only [he]; exact h2 m' K' h⟩
  ·rename_i id ver n he
   obtain ⟨rfl, hi0, hk⟩ := hk
   obtain ⟨v, h1, h2⟩ := w6z hi0 hk
   exact ⟨v, h1, fun m' ha K' h => by have ha := ha (by simp [memOp, ho]); rw [ho]; simp only [he, Option.map_none]; exact h2 m' ha K' h⟩
  ·exact hk.elim
 case h_15 c =>
  split at hk
  ·rename_i hb
   obtain ⟨v, h1, h2⟩ := z5v (.inl rfl) hk
   exact ⟨v, h1, fun m' _ K' h => by rw [ho]; simp only [hb]; exact h2 m' _ K' h⟩
  ·rename_i hb
   obtain ⟨v, h1, h2⟩ := z5v (.inr (.inl rfl)) hk
   exact ⟨v, h1, fun m' _ K' h => by rw [ho]; simp only [hb]; exact h2 m' _ K' h⟩
  ·rename_i hb
   obtain ⟨v, h1, h2⟩ := z5v (.inr (.inr rfl)) hk
   exact ⟨v, h1, fun m' _ K' h => by rw [ho]; simp only [hb]; exact h2 m' _ K' h⟩
  ·exact hk.elim
 case h_16 t ps =>
  split at hk
  ·rename_i fs hfs
   unfold z2t at hk
   split at hk
   ·rename_i cs hc; exact ⟨_, hk, fun m' _ K' h => by rw [ho]; simp only [hfs]; unfold z2t; simp only [hc]; exact h⟩
   ·exact hk.elim
  ·rename_i n esz ea hfs
   unfold z2t at hk
   split at hk
   ·rename_i cs hc; exact ⟨_, hk, fun m' _ K' h => by rw [ho]; simp only [hfs]; unfold z2t; simp only [hc]; exact h⟩
   ·exact hk.elim
  ·exact hk.elim
 case h_17 => exact hk.elim
theorem z3d {all : List Oper} {tm : List AV} {g : Option (Nat × Bool)} {A A' B B' : Prop} (hA : A → A') (hB : B → B') (h : z2a all tm g A B) : z2a all tm g A' B' := by
 unfold z2a at h ⊢
 split at h
 ·exact hA h
 ·rename_i j want
  split at h
  ·rename_i d hd
   generalize tm.getD d .dead = q at h ⊢
   cases hq : z6o q with
   | true => rw [hq] at h; exact hB h
   | false =>
    rw [hq] at h
    dsimp only at h ⊢
    unfold condB at h ⊢
    split at h
    ·cases want
     ·exact ⟨fun e => hB (h.1 e), fun e => hA (h.2 e)⟩
     ·exact ⟨fun e => hA (h.1 e), fun e => hB (h.2 e)⟩
    ·exact h.elim
  ·exact h.elim
def stepA (T : Tab) (G : Glob) (D : Spec) (wr : List Nat) (all : List Oper) (o : Oper) (tm : List AV) (m : Mem) (F : List AV → Mem → Prop) : Prop :=
 z2a all tm o.guard (∃ R : KK, opW T G D tm o m R ∧ ∀ v m', R v m' → (z4p all o = true ∨ Agree wr m m') ∧ F (setO tm o.dst v) m') (F (setO tm o.dst skipA) m)
def anyA (T : Tab) (G : Glob) (D : Spec) (wr : List Nat) (ops : Array Oper) (K : List AV → Mem → Prop) : Nat → Array Bool → List AV → Mem → Prop
 | 0, listed, tm, m => Region.ready .any ops listed = [] ∧ K tm m
 | n + 1, listed, tm, m => (Region.ready .any ops listed = [] → K tm m) ∧ ∀ i ∈ Region.ready .any ops listed, ∀ o, ops[i]? = some o → stepA T G D wr ops.toList o tm m (anyA T G D wr ops K n (listed.setIfInBounds i true))
theorem w6x {all : List Oper} {o : Oper} {tm : List AV} {m : Mem} {F F' : List AV → Mem → Prop} (hF : ∀ tm m, F tm m → F' tm m) (h : stepA T G D wr all o tm m F) : stepA T G D wr all o tm m F' :=
 z3d (fun ⟨R, h1, h2⟩ => ⟨R, h1, fun v m' hr => ⟨(h2 v m' hr).1, hF _ _ (h2 v m' hr).2⟩⟩) (hF _ _) h
theorem w1x {d e : Option Tmp} (h : ∀ x, d = some x → e ≠ some x) (tm : List AV) (v u : AV) : setO (setO tm d v) e u = setO (setO tm e u) d v := by
 cases d with
 | none => rfl
 | some x => cases e with
  | none => rfl
  | some y => exact List.set_comm _ _ (fun q => h x rfl (by rw [q]))
theorem w3a {d : Option Tmp} {t : Nat} (h : ∀ x, d = some x → x ≠ t) (tm : List AV) (v : AV) : (setO tm d v).getD t .dead = tm.getD t .dead := by
 cases d with
 | none => rfl
 | some x => simp only [setO, List.getD, List.getElem?_set_ne (h x rfl)]
theorem w3g {ops : Array Oper} {tm tm' : List AV} {o : Oper} (h : ∀ t ∈ o.looksAt ops, tm'.getD t .dead = tm.getD t .dead) : k1g T G tm tm' o := fun x hx ty => by
 cases x with
 | tmp t => exact h t (by unfold Oper.looksAt; refine List.mem_append_left _ (List.mem_filterMap.2 ⟨.tmp t, by simpa using hx, rfl⟩))
 | _ => rfl
theorem w7r {ops : Array Oper} {tm tm' : List AV} {o : Oper} (h : ∀ t ∈ o.looksAt ops, tm'.getD t .dead = tm.getD t .dead) (A B : Prop) : z2a ops.toList tm' o.guard A B = z2a ops.toList tm o.guard A B := by
 unfold z2a
 split
 ·rfl
 ·rename_i j want hg
  split
  ·rename_i d hd
   rw [h d (by
    unfold Oper.looksAt
    refine List.mem_append_right _ ?_
    rw [hg]
    have : (ops[j]?).bind (·.dst) = some d := by rw [← Array.getElem?_toList]; exact hd
    simp [this])]
  ·rfl
def QS (T : Tab) (G : Glob) (D : Spec) (wr : List Nat) (ops : Array Oper) (o : Oper) (v : AV) (tm : List AV) (m : Mem) : Prop :=
 ∀ tm' m', (∀ t ∈ o.looksAt ops, tm'.getD t .dead = tm.getD t .dead) → (memOp o = true → Agree wr m m') → ∀ F : List AV → Mem → Prop, F (setO tm' o.dst v) m' → stepA T G D wr ops.toList o tm' m' F
theorem qs_of {ops : Array Oper} {o : Oper} {tm : List AV} {m : Mem} {F : AV → Prop} (h : z2a ops.toList tm o.guard (z6r T G wr tm o m F) (F skipA)) : ∃ v, F v ∧ QS T G D wr ops o v tm m := by
 have run : z6r T G wr tm o m F → ∃ v, F v ∧ ∀ tm' m', (∀ t ∈ o.looksAt ops, tm'.getD t .dead = tm.getD t .dead) → (memOp o = true → Agree wr m m') → ∀ F' : List AV → Mem → Prop, F' (setO tm' o.dst v) m' →
   ∃ R : KK, opW T G D tm' o m' R ∧ ∀ v m'', R v m'' → (z4p ops.toList o = true ∨ Agree wr m' m'') ∧ F' (setO tm' o.dst v) m'' := fun hk => by
  obtain ⟨v, h1, h2⟩ := w4p (D := D) hk
  refine ⟨v, h1, fun tm' m' ht ha F' hf => ⟨fun v' m'' => v' = v ∧ m'' = m', ?_, ?_⟩⟩
  ·rw [w2p o (w3g ht)]; exact h2 m' ha _ ⟨rfl, rfl⟩
  ·rintro v' m'' ⟨rfl, rfl⟩; exact ⟨.inr (Agree.refl _ _), hf⟩
 unfold z2a at h
 split at h
 ·rename_i hg
  obtain ⟨v, h1, h2⟩ := run h
  exact ⟨v, h1, fun tm' m' ht ha F' hf => by unfold stepA z2a; rw [hg]; exact h2 tm' m' ht ha F' hf⟩
 ·rename_i j want hg
  split at h
  ·rename_i d hd
   have hl : d ∈ o.looksAt ops := by
    unfold Oper.looksAt
    refine List.mem_append_right _ ?_
    rw [hg]
    have : (ops[j]?).bind (·.dst) = some d := by rw [← Array.getElem?_toList]; exact hd
    simp [this]
   cases hsk : z6o (tm.getD d .dead) with
   | true =>
    rw [hsk] at h
    exact ⟨skipA, h, fun tm' m' ht ha F' hf => by unfold stepA z2a; rw [hg]; simp only [hd, ht d hl, hsk]; exact hf⟩
   | false =>
   rw [hsk] at h
   dsimp only at h
   unfold condB at h
   split at h
   ·rename_i b hb
    have hit : ∀ {v : AV} {tm' : List AV} {m' : Mem} {F' : List AV → Mem → Prop}, (∀ t ∈ o.looksAt ops, tm'.getD t .dead = tm.getD t .dead) → (b = want → ∃ R : KK, opW T G D tm' o m' R ∧ ∀ v m'', R v m'' → (z4p ops.toList o = true ∨ Agree wr m' m'') ∧ F' (setO tm' o.dst v) m'') →
      (b ≠ want → F' (setO tm' o.dst skipA) m') → stepA T G D wr ops.toList o tm' m' F' := fun {v tm' m' F'} ht h1 h2 => by
     unfold stepA z2a condB
     rw [hg]
     simp only [hd, ht d hl, hb, z6o]
     cases b <;> cases want <;> simp_all
    by_cases hbw : b = want
    ·have hh : z6r T G wr tm o m F := by
      subst hbw
      cases b
      ·exact h.2 rfl
      ·exact h.1 rfl
     obtain ⟨v, h1, h2⟩ := run hh
     exact ⟨v, h1, fun tm' m' ht ha F' hf => hit (v := v) ht (fun _ => h2 tm' m' ht ha F' hf) (fun q => absurd hbw q)⟩
    ·have hh : F skipA := by
      cases b <;> cases want <;> first | exact absurd rfl hbw | exact h.1 rfl | exact h.2 rfl
     exact ⟨skipA, hh, fun tm' m' ht ha F' hf => hit (v := skipA) ht (fun q => absurd q hbw) (fun _ => hf)⟩
   ·exact h.elim
  ·exact h.elim
theorem w8h {ops : Array Oper} {oi oj : Oper} (hap : oi.apart ops oj = true) {v : AV} {tm : List AV} {m : Mem} {F : List AV → Mem → Prop} (h : stepA T G D wr ops.toList oj (setO tm oi.dst v) m F) :
  stepA T G D wr ops.toList oj tm m fun tm' m' => (z4p ops.toList oj = true ∨ Agree wr m m') ∧ (∀ t ∈ oi.looksAt ops, tm'.getD t .dead = tm.getD t .dead) ∧ F (setO tm' oi.dst v) m' := by
 obtain ⟨h1, h2, h3⟩ := Oper.apart_spec hap
 have hlook : ∀ t ∈ oj.looksAt ops, (setO tm oi.dst v).getD t .dead = tm.getD t .dead := fun t ht => w3a (fun x hx q => h1 x hx (by rw [q]; exact ht)) tm v
 have hlook2 : ∀ (u : AV), ∀ t ∈ oi.looksAt ops, (setO tm oj.dst u).getD t .dead = tm.getD t .dead := fun u t ht => w3a (fun x hx q => h3 x hx (by rw [q]; exact ht)) tm u
 unfold stepA at h ⊢
 rw [w7r hlook] at h
 refine z3d ?_ ?_ h
 ·rintro ⟨R, g1, g2⟩
  rw [w2p oj (w3g hlook)] at g1
  refine ⟨R, g1, fun u m' hr => ?_⟩
  obtain ⟨g3, g4⟩ := g2 u m' hr
  exact ⟨g3, g3, hlook2 u, by rw [w1x (fun x hx q => h2 x hx q)] at g4; exact g4⟩
 ·intro g
  exact ⟨.inr (Agree.refl _ _), hlook2 _, by rw [w1x (fun x hx q => h2 x hx q)] at g; exact g⟩
def ClosedL (ops : Array Oper) (listed : Array Bool) : Prop := ∀ (k : Nat) ok, ops[k]? = some ok → listed.getD k false = true → ∀ e ∈ ok.after, Region.binds .any e = true → listed.getD e.on false = true
theorem w0o {ops : Array Oper} {listed : Array Bool} (hc : ClosedL ops listed) {k : Nat} : ∀ (n : Nat) (o : Oper), (∀ e ∈ o.after, Region.binds .any e = true → listed.getD e.on false = true) → befW ops.toList n o k = true → listed.getD k false = true
 | 0, _, _, h => by simp [befW] at h
 | n + 1, o, hr, h => by
  simp only [befW, Array.any_eq_true'] at h
  obtain ⟨e, he, hb⟩ := h
  simp only [Bool.and_eq_true, Bool.or_eq_true, beq_iff_eq] at hb
  obtain ⟨hb, hb2⟩ := hb
  have hl := hr e he hb
  rcases hb2 with rfl | hb2
  ·exact hl
  ·split at hb2
   ·rename_i p hp
    exact w0o hc n p (hc e.on p (by rw [← Array.getElem?_toList]; exact hp) hl) hb2
   ·cases hb2
theorem z8z {listed : Array Bool} {j k : Nat} (h : listed.getD k false = true) : (listed.setIfInBounds j true).getD k false = true := by
 by_cases hjk : j = k
 ·subst hjk
  rw [Array.getD_eq_getD_getElem?] at h ⊢
  rcases Nat.lt_or_ge j listed.size with h' | h'
  ·simp [h']
  ·simp [Array.getElem?_eq_none h'] at h
 ·rw [getD_set_ne false hjk]; exact h
theorem ClosedL.put {ops : Array Oper} {listed : Array Bool} (hc : ClosedL ops listed) {j : Nat} (hj : j ∈ Region.ready .any ops listed) : ClosedL ops (listed.setIfInBounds j true) := by
 intro k ok hk hl e he hb
 by_cases hjk : j = k
 ·subst hjk
  obtain ⟨_, oj, hoj, hall⟩ := mem_ready.1 hj
  rw [hoj] at hk; injection hk with hk; subst hk
  exact z8z (hall e he hb)
 ·rw [getD_set_ne false hjk] at hl
  exact z8z (hc k ok hk hl e he hb)
theorem ClosedL.none (ops : Array Oper) (n : Nat) : ClosedL ops (Array.replicate n false) := by
 intro k ok hk hl
 rw [Array.getD_eq_getD_getElem?, Array.getElem?_replicate] at hl
 split at hl <;> simp at hl
theorem w9x {ops : Array Oper} {listed : Array Bool} (hc : ClosedL ops listed) {i : Nat} {oi oj : Oper} (hi : ops[i]? = some oi) (hun : listed.getD i true = false) (hr : ∀ e ∈ oj.after, Region.binds .any e = true → listed.getD e.on false = true) (hm : memOp oi = true) (hl : z4p ops.toList oj = true) : False := by
 unfold z4p at hl
 rw [List.all_eq_true] at hl
 have hlt : i < ops.size := (Array.getElem?_eq_some_iff.1 hi).1
 have := hl i (List.mem_range.2 (by simpa using hlt))
 have hi' : ops.toList[i]? = some oi := by rw [Array.getElem?_toList]; exact hi
 rw [hi'] at this
 simp only [hm, Bool.not_true, Bool.false_or] at this
 have h1 := w0o hc _ _ hr this
 rw [Array.getD_eq_getD_getElem?] at h1 hun
 cases hg : listed[i]? with
 | none => rw [hg] at hun; simp at hun
 | some b => rw [hg] at h1 hun; simp at h1 hun; rw [h1] at hun; cases hun
theorem w0q {ops : Array Oper} {K : List AV → Mem → Prop} {i : Nat} {oi : Oper} {v : AV} (hi : ops[i]? = some oi) : ∀ (n : Nat) (listed : Array Bool) (tm : List AV) (m : Mem),
  (∀ j oj, ops[j]? = some oj → j ≠ i → listed.getD j true = false → (∀ e ∈ oj.after, Region.binds .any e = true → e.on ≠ i) → oi.apart ops oj = true) →
  ClosedL ops listed → i ∈ Region.ready .any ops listed → QS T G D wr ops oi v tm m → anyA T G D wr ops K n (listed.setIfInBounds i true) (setO tm oi.dst v) m → anyA T G D wr ops K (n + 1) listed tm m := by
 intro n
 induction n with
 | zero =>
  intro listed tm m _ hcl hr hq H
  refine ⟨fun h => (by rw [h] at hr; cases hr), fun j hj o ho => ?_⟩
  by_cases hji : j = i
  ·subst hji; rw [hi] at ho; injection ho with ho; subst ho; exact hq tm m (fun _ _ => rfl) (fun _ => Agree.refl _ _) _ H
  ·have := ready_mono hj hji
   rw [H.1] at this
   cases this
 | succ n ih =>
  intro listed tm m hfree hcl hr hq H
  refine ⟨fun h => (by rw [h] at hr; cases hr), fun j hj oj hoj => ?_⟩
  by_cases hji : j = i
  ·subst hji; rw [hi] at hoj; injection hoj with hoj; subst hoj; exact hq tm m (fun _ _ => rfl) (fun _ => Agree.refl _ _) _ H
  ·have h1 := H.2 j (ready_mono hj hji) oj hoj
   obtain ⟨hjun, oj', hoj', hall⟩ := mem_ready.1 hj
   rw [hoj] at hoj'; injection hoj' with hoj'; subst hoj'
   have hnot : ∀ e ∈ oj.after, Region.binds .any e = true → e.on ≠ i := fun e he hb heq => by
    have h1 := hall e he hb
    have h0 := (mem_ready.1 hr).1
    rw [heq] at h1
    rcases Nat.lt_or_ge i listed.size with h' | h'
    ·simp [h'] at h0 h1; rw [h0] at h1; cases h1
    ·simp [Array.getElem?_eq_none h'] at h1
   have h2 := w8h (hfree j oj hoj hji hjun hnot) h1
   have hfree' : ∀ k ok, ops[k]? = some ok → k ≠ i → (listed.setIfInBounds j true).getD k true = false →
     (∀ e ∈ ok.after, Region.binds .any e = true → e.on ≠ i) → oi.apart ops ok = true := fun k ok hk hki hun hno => by
    refine hfree k ok hk hki ?_ hno
    by_cases hjk : j = k
    ·subst hjk; exact hjun
    ·rw [getD_set_ne true hjk] at hun; exact hun
   refine w6x (fun tm' m' h3 => ih (listed.setIfInBounds j true) tm' m' hfree' (hcl.put hj) (ready_mono hr (Ne.symm hji)) (fun tm'' m'' ht ha F hF => hq tm'' m'' (fun t h => (ht t h).trans (h3.2.1 t h)) (fun hmo => (h3.1.resolve_left (fun hl => w9x hcl hi (mem_ready.1 hr).1 hall hmo hl)).trans (ha hmo)) F hF) ?_) h2
   rw [Array.setIfInBounds_comm _ _ hji]
   exact h3.2.2
theorem Agree.wider {a b : List Nat} (h : ∀ x ∈ b, x ∈ a) {m m' : Mem} (g : Agree b m m') : Agree a m m' := ⟨g.1, fun id ob hi hg => g.2 id ob (fun q => hi (h id q)) hg⟩
theorem z9j {a b : List Nat} (h : ∀ x ∈ b, x ∈ a) {ops : Array Oper} {K : List AV → Mem → Prop} : ∀ (n : Nat) (listed : Array Bool) (tm : List AV) (m : Mem), anyA T G D b ops K n listed tm m → anyA T G D a ops K n listed tm m
 | 0, _, _, _, H => H
 | n + 1, listed, tm, m, H => ⟨H.1, fun i hi o ho => z3d (fun ⟨R, h1, h2⟩ => ⟨R, h1, fun v m' hr => ⟨(h2 v m' hr).1.imp (fun q => q) (Agree.wider h), z9j h n _ _ _ (h2 v m' hr).2⟩⟩) (fun g => z9j h n _ _ _ g) (H.2 i hi o ho)⟩
theorem w4v (wr : List (List Nat)) : ∀ x ∈ (dnW wr).headD [], x ∈ wr.headD [] := by
 intro x hx
 match wr, hx with
 | [], hx => exact hx
 | [a], hx => exact hx
 | a :: b :: r, hx =>
  simp only [dnW] at hx
  split at hx
  ·rename_i hb
   rw [List.all_eq_true] at hb
   have := hb x hx
   simpa using this
  ·exact hx
theorem z6k {wr : List (List Nat)} {ops : Array Oper} {K : List AV → Mem → Prop} : ∀ (n : Nat) (listed : Array Bool) (ord : List (Nat × Bool)) (tm : List AV) (m : Mem), plan T ops n listed = some ord → ClosedL ops listed → planW T G D wr ops.toList ord tm m K → anyA T G D (wr.headD []) ops K n listed tm m
 | 0, listed, ord, tm, m, hp, hcl, hk => by
  simp only [plan] at hp
  split at hp
  ·rename_i he; injection hp with hp; subst hp
   exact ⟨by simpa using he, hk⟩
  ·simp at hp
 | n + 1, listed, ord, tm, m, hp, hcl, hk => by
  simp only [plan] at hp
  split at hp
  ·rename_i i hf
   have hmem := List.mem_of_find?_eq_some hf
   have hpr := List.find?_some hf
   simp only [Bool.and_eq_true] at hpr
   obtain ⟨ord', hp', rfl⟩ := Option.map_eq_some_iff.1 hp
   have hoi : ∃ o, ops[i]? = some o := by obtain ⟨_, o, ho, _⟩ := mem_ready.1 hmem; exact ⟨o, ho⟩
   obtain ⟨o, ho⟩ := hoi
   have ho' : ops.toList[i]? = some o := by rw [Array.getElem?_toList]; exact ho
   simp only [planW, ho', if_true] at hk
   obtain ⟨v, h1, h2⟩ := qs_of (D := D) (F := fun v => planW T G D wr ops.toList ord' (setO tm o.dst v) m K) hk
   exact w0q ho n listed tm m (Region.free_spec ho hpr.2) hcl hmem h2 (z6k n _ ord' _ m hp' (hcl.put hmem) h1)
  ·split at hp
   ·rename_i hrs; injection hp with hp; subst hp
    exact ⟨fun _ => hk, fun i hi => by rw [hrs] at hi; simp at hi⟩
   ·rename_i i hrs
    obtain ⟨ord', hp', rfl⟩ := Option.map_eq_some_iff.1 hp
    refine ⟨fun h => by rw [h] at hrs; simp at hrs, fun j hj o ho => ?_⟩
    rw [hrs] at hj
    have : j = i := by simpa using hj
    subst this
    have ho' : ops.toList[j]? = some o := by rw [Array.getElem?_toList]; exact ho
    simp only [planW, ho', Bool.false_eq_true, if_false] at hk
    exact z3d (fun h => ⟨_, h, fun v m' hr => ⟨hr.1, z9j (w4v wr) n _ _ m' (z6k n _ ord' _ m' hp' (hcl.put (by rw [hrs]; simp)) hr.2)⟩⟩) (fun h => z9j (w4v wr) n _ _ m (z6k n _ ord' _ m hp' (hcl.put (by rw [hrs]; simp)) h)) hk
   ·simp at hp
theorem w4k {wr : List Nat} {ops : Array Oper} {o : Oper} {tm : List AV} {m : Mem} {F F' : List AV → Mem → Prop} (h : nhW T G D wr ops.toList o tm m F) (hf : ∀ tm m, F tm m → F' tm m) : stepA T G D wr ops.toList o tm m F' := by
 unfold nhW at h
 unfold stepA
 exact z3d (fun h => ⟨_, h, fun v m' hr => ⟨hr.1, hf _ _ hr.2⟩⟩) (fun h => hf _ _ h) h
theorem z3z {ops : Array Oper} {K : List AV → Mem → Prop} : ∀ (t : PL) (wr : List (List Nat)) (n : Nat) (listed : Array Bool) (tm : List AV) (m : Mem), z3k T ops listed t = true → t.deep ≤ n → ClosedL ops listed → z3o T G D ops.toList wr t tm m K → anyA T G D (wr.headD []) ops K n listed tm m
 | .nil, wr, 0, listed, tm, m, ht, _, _, hk => by
  simp only [z3k, List.isEmpty_iff] at ht
  exact ⟨ht, hk⟩
 | .nil, wr, n + 1, listed, tm, m, ht, _, _, hk => by
  simp only [z3k, List.isEmpty_iff] at ht
  exact ⟨fun _ => hk, fun i hi => by rw [ht] at hi; cases hi⟩
 | .op i true lb r, wr, 0, listed, tm, m, ht, hd, hcl, hk => by simp [PL.deep] at hd
 | .op i false lb r, wr, 0, listed, tm, m, ht, hd, hcl, hk => by simp [PL.deep] at hd
 | .alt i j li lj a b, wr, 0, listed, tm, m, ht, hd, hcl, hk => by simp [PL.deep] at hd
 | .op i true lb r, wr, n + 1, listed, tm, m, ht, hd, hcl, hk => by
  simp only [z3k, Bool.and_eq_true] at ht
  obtain ⟨⟨⟨hmem, hho⟩, hfr⟩, ht⟩ := ht
  have hmem : i ∈ Region.ready .any ops listed := by simpa using hmem
  obtain ⟨o, ho⟩ : ∃ o, ops[i]? = some o := by obtain ⟨_, o, ho, _⟩ := mem_ready.1 hmem; exact ⟨o, ho⟩
  have ho' : ops.toList[i]? = some o := by rw [Array.getElem?_toList]; exact ho
  simp only [z3o, ho'] at hk
  obtain ⟨v, h1, h2⟩ := qs_of (D := D) (F := fun v => z3o T G D ops.toList wr r (setO tm o.dst v) m K) hk
  exact w0q ho n listed tm m (Region.free_spec ho hfr) hcl hmem h2 (z3z r wr n _ _ m ht (by simpa [PL.deep] using hd) (hcl.put hmem) h1)
 | .op i false lb r, wr, n + 1, listed, tm, m, ht, hd, hcl, hk => by
  simp only [z3k, Bool.and_eq_true, beq_iff_eq] at ht
  obtain ⟨⟨hrs, _⟩, ht⟩ := ht
  refine ⟨fun h => (by rw [h] at hrs; cases hrs), fun j hj o ho => ?_⟩
  have hj' := hj
  rw [hrs] at hj
  have : j = i := by simpa using hj
  subst this
  have ho' : ops.toList[j]? = some o := by rw [Array.getElem?_toList]; exact ho
  simp only [z3o, ho'] at hk
  exact w4k hk fun tm' m' hq => z9j (w4v wr) n _ _ m' (z3z r (dnW wr) n _ _ m' ht (by simpa [PL.deep] using hd) (hcl.put hj') hq)
 | .alt i j li lj a b, wr, n + 1, listed, tm, m, ht, hd, hcl, hk => by
  simp only [z3k, Bool.and_eq_true, beq_iff_eq] at ht
  obtain ⟨⟨⟨⟨hrs, _⟩, _⟩, ht1⟩, ht2⟩ := ht
  refine ⟨fun h => (by rw [h] at hrs; cases hrs), fun k hk' o ho => ?_⟩
  have hj' := hk'
  rw [hrs] at hk'
  have ho' : ops.toList[k]? = some o := by rw [Array.getElem?_toList]; exact ho
  simp only [z3o] at hk
  have hda : a.deep ≤ n ∧ b.deep ≤ n := by simp only [PL.deep] at hd; omega
  rcases List.mem_cons.1 hk' with rfl | hk'
  ·rw [ho'] at hk
   split at hk
   ·rename_i oi oj hoi hoj
    injection hoi with hoi; subst hoi
    exact w4k hk.1 fun tm' m' hq => z3z a wr n _ _ m' ht1 hda.1 (hcl.put hj') hq
   ·exact hk.elim
  ·have : k = j := by simpa using hk'
   subst this
   rw [ho'] at hk
   split at hk
   ·rename_i oi oj hoi hoj
    injection hoj with hoj; subst hoj
    exact w4k hk.2 fun tm' m' hq => z3z b wr n _ _ m' ht2 hda.2 (hcl.put hj') hq
   ·exact hk.elim
end
end Go.Proofs.Ythncmjlcmlmnmaa.V
namespace Go.Proofs.Ythncmjlcmlmnmaa.V
open Go Go.RowKit
section
variable {P : Program} {T : Tab} {X : Ctx} {pins : List (AV × Value)}
def At (X : Ctx) (pins : List (AV × Value)) (tm : List AV) (m : Mem) (a : Act) (w : World) : Prop := ∃ S pl, St X S pl w m ∧ TmR S pl w m tm a ∧ ∀ p ∈ pins, RelV S pl w m p.1 p.2
theorem w3z {ops : Array Oper} {Q : Exit → Act → World → Prop} {i : Nat} {rest : List Nat} {a : Act} {w : World} {o : Oper} (ho : ops[i]? = some o) :
  wpOps P ops Q (i :: rest) a w = if Region.wanted o (yielded ops a.tmps) then o.wp P a w (wpOps P ops Q rest) Q ∨ (o.asks P a w ∧ LetsOut Q) else wpOps P ops Q rest (a.put o.dst undef) w := by
 simp only [wpOps, ho]
theorem Oper.wp_mono' {o : Oper} {a : Act} {w : World} {K K' : Act → World → Prop} {Q : Exit → Act → World → Prop} (h : ∀ a w, K a w → K' a w) (hk : o.wp P a w K Q) : o.wp P a w K' Q := by
 unfold Oper.wp at hk ⊢
 cases hr : (execOp a.eval o).run P w with
 | halt x w' => rw [hr] at hk; cases x <;> exact hk
 | ok n w' =>
  rw [hr] at hk
  cases n <;> first
   | exact h _ _ hk
   | exact hk.elim
   | (refine Calls.mono hk ?_; intro e w'' he; cases e <;> first | exact h _ _ he | exact he)
   | (refine Rows.mono hk ?_; intro e w'' he; exact h _ _ he)
   | exact hk
theorem z7n {S : Area} {pl : Place} {w : World} {m : Mem} {tm : List AV} {a : Act} (h : TmR S pl w m tm a) {ops : Array Oper} {o : Oper} {A B : Prop} (hk : z2a ops.toList tm o.guard A B) :
  (Region.wanted o (yielded ops a.tmps) = true ∧ A) ∨ (Region.wanted o (yielded ops a.tmps) = false ∧ B) := by
 unfold z2a at hk
 unfold Region.wanted
 split at hk
 ·rename_i hg; rw [hg]; exact .inl ⟨rfl, hk⟩
 ·rename_i j want hg
  rw [hg]
  split at hk
  ·rename_i d hd
   have hy : yielded ops a.tmps j = (match (some d : Option Nat).bind (a.tmps[·]?) with | some (.bool b) => some b | _ => none) := by
    unfold yielded
    have : (ops[j]?).bind (·.dst) = some d := by rw [← Array.getElem?_toList]; exact hd
    rw [this]; rfl
   have hrel : RelV S pl w m (tm.getD d .dead) (a.tmps.getD d undef) := by
    by_cases ht : d < tm.length
    ·have hx : tm[d]? = some tm[d] := List.getElem?_eq_getElem ht
     have := h.rel d _ hx
     simpa [List.getD, hx] using this
    ·simp [List.getD, List.getElem?_eq_none (Nat.not_lt.1 ht)]; exact .dead _
   cases hsk : z6o (tm.getD d .dead) with
   | true =>
    rw [hsk] at hk
    refine .inr ⟨?_, hk⟩
    have hu : a.tmps.getD d undef = .tuple #[] := by
     generalize tm.getD d .dead = q at hsk hrel
     generalize a.tmps.getD d undef = u at hrel ⊢
     cases q with
     | tup cs =>
      cases cs with
      | nil =>
       cases hrel with | tup _ us hl _ =>
       have : us = [] := by simpa using hl
       rw [this]
      | cons x l => simp [z6o] at hsk
     | _ => simp [z6o] at hsk
    dsimp only
    rw [hy]
    rw [Array.getD_eq_getD_getElem?] at hu
    cases hq : a.tmps[d]? with
    | none => simp [hq]
    | some v => rw [hq] at hu; simp at hu; subst hu; simp [hq]
   | false =>
   rw [hsk] at hk
   dsimp only at hk
   obtain ⟨b, hb, h1, h2⟩ := z5t hrel hk
   have hyb : yielded ops a.tmps j = some b := by
    rw [hy]
    rw [Array.getD_eq_getD_getElem?] at hb
    cases hq : a.tmps[d]? with
    | none => rw [hq] at hb; simp [undef] at hb
    | some v => rw [hq] at hb; simp at hb; subst hb; simp [hq]
   simp only [hyb]
   cases b <;> cases want <;> first
    | exact .inl ⟨rfl, h1 rfl⟩
    | exact .inl ⟨rfl, h2 rfl⟩
    | exact .inr ⟨rfl, h1 rfl⟩
    | exact .inr ⟨rfl, h2 rfl⟩
  ·exact hk.elim
theorem z2x {D : Spec} (hT : TabOk P T) (hD : ∀ f os Q, D f os Q → Den P X.G f os Q) {ops : Array Oper} {Q : Exit → Act → World → Prop} :
  ∀ (l : List Oper) (i : Nat) (tm : List AV) (m : Mem) (a : Act) (w : World) {K : List AV → Mem → Prop}, ops.toList.drop i = l → At X pins tm m a w → opsW T X.G D ops.toList l tm m K → (∀ tm m a w, K tm m → At X pins tm m a w → Q .normal a w) →
   wpOps P ops Q (List.range' i l.length) a w
 | [], i, tm, m, a, w, K, _, ha, hk, hq => by simp only [List.length_nil, List.range'_zero, wpOps]; exact hq tm m a w hk ha
 | o :: l, i, tm, m, a, w, K, hd, ⟨S, pl, hs, h, hpin⟩, hk, hq => by
  have ho : ops[i]? = some o := by
   rw [← Array.getElem?_toList]
   have := congrArg (·[0]?) hd
   simpa using this
  have hd' : ops.toList.drop (i + 1) = l := by rw [← List.drop_drop, hd]; rfl
  rw [List.length_cons, List.range'_succ, w3z ho]
  simp only [opsW] at hk
  cases hmv : mvT o tm with
  | some s =>
   rw [hmv] at hk
   dsimp only at hk
   unfold mvT at hmv
   split at hmv <;> first | (simp at hmv; done) | skip
   rename_i hgu
   split at hmv <;> first | (simp at hmv; done) | skip
   rename_i s' hop
   split at hmv <;> first | (simp at hmv; done) | skip
   rename_i id ver n hv
   injection hmv with hmv; subst hmv
   have hw : Region.wanted o (yielded ops a.tmps) = true := by unfold Region.wanted; rw [hgu]
   rw [hw, if_pos rfl]
   rcases hk with hk | hk
   ·refine .inl (Oper.wp_mono' ?_ (z8o hT hD hs h o hk))
    rintro a' w' ⟨v, S', pl', m', hK, hst, hkp, htm⟩
    exact z2x hT hD l (i + 1) _ m' a' w' hd' ⟨S', pl', hst, htm, fun p hp => (hpin p hp).mono hkp⟩ hK hq
   ·have hrel : RelV S pl w m (tm.getD s' .dead) (a.tmps.getD s' undef) := by
     by_cases ht : s' < tm.length
     ·have hx : tm[s']? = some tm[s'] := List.getElem?_eq_getElem ht
      have := h.rel s' _ hx
      simpa [List.getD, hx] using this
     ·simp [List.getD, List.getElem?_eq_none (Nat.not_lt.1 ht)]; exact .dead _
    obtain ⟨S', y, m', hK, hy, hst, hkp, _⟩ := z2w hs hrel hk
    have hself : a.put (some s') (a.tmps.getD s' undef) = a := by
     unfold Act.put
     have : a.tmps.setIfInBounds s' (a.tmps.getD s' undef) = a.tmps := by
      apply Array.ext_getElem?
      intro j
      rw [Array.getElem?_setIfInBounds]
      split
      ·rename_i hj
       subst hj
       split
       ·rename_i hlt
        rw [Array.getElem?_eq_getElem hlt]; rfl
       ·rename_i hlt
        rw [Array.getElem?_eq_none (by omega)]
      ·rfl
     dsimp only
     rw [this]
    have h1 : TmR S' pl w m' (setO tm (some s') (.c y)) a := by
     have := (h.mono hkp).put (.c y _ hy) (some s')
     rwa [hself] at this
    have h2 := h1.put (hrel.mono hkp) o.dst
    refine .inl ?_
    refine w5i (u := a.tmps.getD s' undef) (w' := w) o (s := pure (a.tmps.getD s' undef)) ?_ rfl ?_
    ·unfold execOp; rw [hop]; rfl
    ·exact z2x hT hD l (i + 1) _ m' _ w hd' ⟨S', pl, hst, h2, fun p hp => (hpin p hp).mono hkp⟩ hK hq
  | none =>
  rw [hmv] at hk
  dsimp only at hk
  rcases z7n h hk with ⟨hw, hk⟩ | ⟨hw, hk⟩
  ·rw [hw, if_pos rfl]
   refine .inl (Oper.wp_mono' ?_ (z8o hT hD hs h o hk))
   rintro a' w' ⟨v, S', pl', m', hK, hst, hkp, htm⟩
   exact z2x hT hD l (i + 1) _ m' a' w' hd' ⟨S', pl', hst, htm, fun p hp => (hpin p hp).mono hkp⟩ hK hq
  ·rw [hw, if_neg (by simp)]
   exact z2x hT hD l (i + 1) _ m _ w hd' ⟨S, pl, hs, h.put (x := skipA) (u := undef) (.tup [] [] rfl (fun i x u hx => by simp at hx)) o.dst, hpin⟩ hk hq
theorem z5i {D : Spec} (hT : TabOk P T) (hD : ∀ f os Q, D f os Q → Den P X.G f os Q) {wr : List Nat} {ops : Array Oper} {Q : Exit → Act → World → Prop} {K : List AV → Mem → Prop} (hq : ∀ tm m a w, K tm m → At X pins tm m a w → Q .normal a w) :
  ∀ (n : Nat) (listed : Array Bool) (tm : List AV) (m : Mem) (a : Act) (w : World), At X pins tm m a w → anyA T X.G D wr ops K n listed tm m → wpAny P .any ops Q n listed a w
 | 0, listed, tm, m, a, w, ha, hk => ⟨hk.1, hq tm m a w hk.2 ha⟩
 | n + 1, listed, tm, m, a, w, ⟨S, pl, hs, h, hpin⟩, hk => by
  refine ⟨fun he => hq tm m a w (hk.1 he) ⟨S, pl, hs, h, hpin⟩, fun i hi => ?_⟩
  obtain ⟨_, o, ho, _⟩ := mem_ready.1 hi
  have hst := hk.2 i hi o ho
  unfold wpOp
  simp only [ho]
  rcases z7n h hst with ⟨hw, R, h1, h2⟩ | ⟨hw, h1⟩
  ·rw [hw, if_pos rfl]
   refine .inl (Oper.wp_mono' ?_ (z8o hT hD hs h o h1))
   rintro a' w' ⟨v, S', pl', m', hR, hst', hkp, htm⟩
   exact z5i hT hD hq n _ _ m' a' w' ⟨S', pl', hst', htm, fun p hp => (hpin p hp).mono hkp⟩ (h2 v m' hR).2
  ·rw [hw, if_neg (by simp)]
   exact z5i hT hD hq n _ _ m _ w ⟨S, pl, hs, h.put (x := skipA) (u := undef) (.tup [] [] rfl (fun i x u hx => by simp at hx)) o.dst, hpin⟩ h1
theorem k0c (ids : List Nat) (l : List (Nat × Ob)) (j : Nat) : getL (keepL ids l) j = if j ∈ ids then getL l j else none := by
 induction l with
 | nil => simp [keepL, getL]
 | cons a r ih =>
  obtain ⟨k, p⟩ := a
  simp only [keepL]
  by_cases hk : k ∈ ids
  ·rw [if_pos hk]; simp only [getL, ih]
   by_cases h : j = k
   ·subst h; simp [hk]
   ·simp [h]
  ·rw [if_neg hk, ih]; simp only [getL]
   by_cases h : j = k
   ·subst h; simp [hk]
   ·simp [h]
theorem k1z (ids : List Nat) (m : Mem) (j : Nat) : (m.keep ids).get j = if j ∈ ids then m.get j else none := k0c _ _ _
theorem St.keep {S : Area} {pl : Place} {w : World} {m : Mem} (h : St X S pl w m) (ids : List Nat) : St X S pl w (m.keep ids) ∧ Keeps S S pl pl w w m (m.keep ids) := by
 have hne : ∀ id ob, (m.keep ids).get id = some ob → m.get id = some ob := fun id ob hg => by
  rw [k1z] at hg; split at hg
  ·exact hg
  ·simp at hg
 have k : Keeps S S pl pl w w m (m.keep ids) := ⟨fun _ _ h => h, fun _ _ _ => rfl, fun _ _ h => h, Nat.le_refl _, fun id ob hob _ => ⟨ob, hne id ob hob, by cases ob <;> simp [Ob.alike], rfl⟩⟩
 have e : Ext (fun _ _ => False) w w := Ext.refl _ _
 refine ⟨⟨⟨fun id ob hob => ⟨(h.inv.ob id ob (hne id ob hob)).1, (h.inv.ob id ob (hne id ob hob)).2.keep k (Nat.le_refl _) e.frz e.shape (fun _ _ _ _ => rfl)⟩,
  fun id id' ob ob' h1 h2 => h.inv.apart id id' ob ob' (hne _ _ h1) (hne _ _ h2), fun id ob hg => h.inv.free id ob (hne _ _ hg), h.inv.low⟩,
  h.ext, h.sub, h.only, fun id ob hg => h.own id ob (hne _ _ hg), h.glob⟩, k⟩
theorem z6n : ∀ (l : List AV) (i : Nat) (live : List Nat) (j : Nat) (x : AV), (killT i live l)[j]? = some x → x = .dead ∨ l[j]? = some x
 | [], _, _, j, x, h => by simp [killT] at h
 | y :: l, i, [], 0, x, h => by simp [killT] at h; exact .inl h.symm
 | y :: l, i, [], j + 1, x, h => by
  simp only [killT, List.getElem?_cons_succ] at h ⊢; exact z6n l _ _ j x h
 | y :: l, i, k :: ks, 0, x, h => by
  simp only [killT] at h; split at h
  ·exact .inr (by simpa using h)
  ·simp at h; exact .inl h.symm
 | y :: l, i, k :: ks, j + 1, x, h => by
  simp only [killT] at h; split at h
  ·simp only [List.getElem?_cons_succ] at h ⊢; exact z6n l _ _ j x h
  ·simp only [List.getElem?_cons_succ] at h ⊢; exact z6n l _ _ j x h
theorem z4z : ∀ (l : List AV) (i : Nat) (live : List Nat), (killT i live l).length = l.length
 | [], _, _ => rfl
 | y :: l, i, [] => by simp [killT, z4z l]
 | y :: l, i, k :: ks => by simp only [killT]; split <;> simp [z4z l]
inductive Low (B : Nat) : AV → Prop
 | c (x : CV) : Low B (.c x)
 | t (id ver n : Nat) (h : ver < B) : Low B (.t id ver n)
 | p (id ver o : Nat) (h : ver < B) : Low B (.p id ver o)
 | tp (id ver i o : Nat) (h : ver < B) : Low B (.tp id ver i o)
 | agg (cs : List AV) (h : ∀ x ∈ cs, Low B x) : Low B (.agg cs)
 | tup (cs : List AV) (h : ∀ x ∈ cs, Low B x) : Low B (.tup cs)
 | dead : Low B .dead
theorem RelV.low {S : Area} {pl : Place} {w : World} {m : Mem} {x : AV} {u : Value} (h : RelV S pl w m x u) : Low m.clk x := by
 induction h with
 | c x u h => exact .c x
 | t id ver n b capn hv hn h => exact .t _ _ _ hv
 | p id ver off b o hv h => exact .p _ _ _ hv
 | tp id ver i off b o hv h => exact .tp _ _ _ _ hv
 | agg cs us hl h ih =>
  refine .agg _ fun x hx => ?_
  obtain ⟨i, hi⟩ := List.mem_iff_getElem?.1 hx
  have hlt := (List.getElem?_eq_some_iff.1 hi).1
  exact ih i x us[i] hi (List.getElem?_eq_getElem (by omega))
 | tup cs us hl h ih =>
  refine .tup _ fun x hx => ?_
  obtain ⟨i, hi⟩ := List.mem_iff_getElem?.1 hx
  have hlt := (List.getElem?_eq_some_iff.1 hi).1
  exact ih i x us[i] hi (List.getElem?_eq_getElem (by omega))
 | dead u => exact .dead
theorem getL_cn (B : Nat) (m : Mem) (caps : List Nat) (l : List (Nat × Ob)) (j : Nat) : getL (cnObs B m caps l) j = (getL l j).map (cnOb B m caps j) := by
 induction l with
 | nil => rfl
 | cons a r ih =>
  obtain ⟨k, p⟩ := a
  simp only [cnObs, getL, ih]
  by_cases h : j = k
  ·subst h; simp
  ·simp [h]
theorem z3e (B : Nat) (caps : List Nat) (m : Mem) (j : Nat) : (m.canon B caps).get j = (m.get j).map (cnOb B m caps j) := getL_cn _ _ _ _ _
theorem z7d (B : Nat) (m : Mem) : ∀ (l : List AV) (i : Nat), (cnL B m l)[i]? = (l[i]?).map (cnA B m)
 | [], i => by simp [cnL]
 | x :: l, 0 => by simp [cnL]
 | x :: l, i + 1 => by simp only [cnL, List.getElem?_cons_succ]; exact z7d B m l i
theorem z5f (B : Nat) (m : Mem) : ∀ (l : List AV), (cnL B m l).length = l.length
 | [] => rfl
 | x :: l => by simp only [cnL, List.length_cons, z5f B m l]
theorem k2s (v B : Nat) : (bif Nat.ble v B then v else B) ≤ B := by
 cases h : Nat.ble v B
 ·simp
 ·simpa using h
theorem RelV.canon {S : Area} {pl : Place} {w : World} {m : Mem} (B : Nat) (caps : List Nat) {x : AV} {u : Value} (h : RelV S pl w m x u) : RelV S pl w (m.canon B caps) (cnA B m x) u := by
 have hclk : (m.canon B caps).clk = B + 1 := rfl
 induction h with
 | c x u h => simp only [cnA]; exact .c x u h
 | t id ver n b capn hv hn h =>
  simp only [cnA]
  split
  ·rename_i v sz es cap pub hg
   split
   ·rename_i he
    have he := Nat.eq_of_beq_eq_true he; subst he
    obtain ⟨sz', es', cap', pub', e, heq, h1, h2, h3⟩ := h _ hg rfl
    refine .t id B n b capn (by rw [hclk]; omega) hn (fun ob hob _ => ?_)
    rw [z3e, hg] at hob
    simp only [Option.map_some, cnOb, Option.some.injEq] at hob
    subst hob
    injection heq with q1 q2 q3 q4 q5; subst q2 q3 q4 q5
    exact ⟨_, _, _, _, e, rfl, h1, h2, h3⟩
   ·exact .dead _
  ·exact .dead _
 | p id ver off b o hv h =>
  simp only [cnA]
  split
  ·rename_i v cs hg
   split
   ·rename_i he
    have he := Nat.eq_of_beq_eq_true he; subst he
    obtain ⟨_, h2⟩ := h _ hg rfl
    refine .p id _ off b o (by rw [hclk]; have := k2s v B; omega) (fun ob hob _ => ?_)
    rw [z3e, hg] at hob
    simp only [Option.map_some, cnOb, Option.some.injEq] at hob
    subst hob
    exact ⟨⟨_, rfl⟩, h2⟩
   ·exact .dead _
  ·exact .dead _
 | tp id ver i off b o hv h =>
  simp only [cnA]
  split
  ·rename_i v sz es cap pub hg
   split
   ·rename_i he
    have he := Nat.eq_of_beq_eq_true he; subst he
    obtain ⟨sz', es', cap', pub', heq, h1, h2, h3⟩ := h _ hg rfl
    refine .tp id B i off b o (by rw [hclk]; omega) (fun ob hob _ => ?_)
    rw [z3e, hg] at hob
    simp only [Option.map_some, cnOb, Option.some.injEq] at hob
    subst hob
    injection heq with q1 q2 q3 q4 q5; subst q2 q3 q4 q5
    exact ⟨_, _, _, _, rfl, h1, h2, h3⟩
   ·exact .dead _
  ·exact .dead _
 | agg cs us hl h ih =>
  simp only [cnA]
  refine .agg _ us (by rw [z5f]; exact hl) (fun i x u hx hu => ?_)
  rw [z7d] at hx
  cases hy : cs[i]? with
  | none => rw [hy] at hx; simp at hx
  | some y => rw [hy] at hx; simp only [Option.map_some, Option.some.injEq] at hx; subst hx; exact ih i y u hy hu
 | tup cs us hl h ih =>
  simp only [cnA]
  refine .tup _ us (by rw [z5f]; exact hl) (fun i x u hx hu => ?_)
  rw [z7d] at hx
  cases hy : cs[i]? with
  | none => rw [hy] at hx; simp at hx
  | some y => rw [hy] at hx; simp only [Option.map_some, Option.some.injEq] at hx; subst hx; exact ih i y u hy hu
 | dead u => simp only [cnA]; exact .dead u
theorem w9r {v ver B : Nat} (h : (bif Nat.ble v B then v else B) = ver) (hv : ver < B) : v = ver := by
 cases hb : Nat.ble v B
 ·rw [hb] at h; simp at h; omega
 ·rw [hb] at h; simpa using h
theorem RelV.canonLow {S : Area} {pl : Place} {w : World} {m : Mem} (B : Nat) (caps : List Nat) {x : AV} {u : Value} (h : RelV S pl w m x u) (hl : Low B x) : RelV S pl w (m.canon B caps) x u := by
 have hclk : (m.canon B caps).clk = B + 1 := rfl
 induction h with
 | c x u h => exact .c x u h
 | t id ver n b capn hv hn h =>
  cases hl with | t _ _ _ hl =>
  refine .t id ver n b capn (by rw [hclk]; omega) hn (fun ob hob he => ?_)
  rw [z3e] at hob
  cases hg : m.get id with
  | none => rw [hg] at hob; simp at hob
  | some ob' =>
   rw [hg] at hob; simp only [Option.map_some, Option.some.injEq] at hob; subst hob
   cases ob' with
   | blk v cs =>
    simp only [cnOb, Ob.ver] at he
    have := w9r he hl
    obtain ⟨_, _, _, _, _, q, _⟩ := h _ hg (by simpa [Ob.ver] using this)
    simp at q
   | arr v sz es cap pub => simp only [cnOb, Ob.ver] at he; omega
 | p id ver off b o hv h =>
  cases hl with | p _ _ _ hl =>
  refine .p id ver off b o (by rw [hclk]; omega) (fun ob hob he => ?_)
  rw [z3e] at hob
  cases hg : m.get id with
  | none => rw [hg] at hob; simp at hob
  | some ob' =>
   rw [hg] at hob; simp only [Option.map_some, Option.some.injEq] at hob; subst hob
   cases ob' with
   | blk v cs =>
    simp only [cnOb, Ob.ver] at he
    have hv' := w9r he hl
    obtain ⟨_, h2⟩ := h _ hg (by simpa [Ob.ver] using hv')
    exact ⟨⟨cnL B m cs, by simp only [cnOb, he]⟩, h2⟩
   | arr v sz es cap pub => simp only [cnOb, Ob.ver] at he; omega
 | tp id ver i off b o hv h =>
  cases hl with | tp _ _ _ _ hl =>
  refine .tp id ver i off b o (by rw [hclk]; omega) (fun ob hob he => ?_)
  rw [z3e] at hob
  cases hg : m.get id with
  | none => rw [hg] at hob; simp at hob
  | some ob' =>
   rw [hg] at hob; simp only [Option.map_some, Option.some.injEq] at hob; subst hob
   cases ob' with
   | blk v cs =>
    simp only [cnOb, Ob.ver] at he
    have := w9r he hl
    obtain ⟨_, _, _, _, q, _⟩ := h _ hg (by simpa [Ob.ver] using this)
    simp at q
   | arr v sz es cap pub => simp only [cnOb, Ob.ver] at he; omega
 | agg cs us hlen h ih =>
  cases hl with | agg _ hl =>
  exact .agg cs us hlen (fun i x u hx hu => ih i x u hx hu (hl x (List.mem_of_getElem? hx)))
 | tup cs us hlen h ih =>
  cases hl with | tup _ hl =>
  exact .tup cs us hlen (fun i x u hx hu => ih i x u hx hu (hl x (List.mem_of_getElem? hx)))
 | dead u => exact .dead u
theorem k2e (B : Nat) (m : Mem) (x : AV) (h : (cnA B m x).isDead = false) : x.isDead = false := by
 cases x with
 | dead => simp [cnA, AV.isDead] at h
 | _ => rfl
theorem z6u {B : Nat} {m : Mem} {caps : List Nat} {i : Nat} {ob : Ob} {q : Nat × Nat} {b o : Nat} (h : (cnOb B m caps i ob).foot q b o) : ob.foot q b o := by
 cases ob with
 | arr v sz es cap pub => exact h
 | blk v cs =>
  obtain ⟨h1, j, x, hx, hd, ho⟩ := h
  rw [z7d] at hx
  cases hy : cs[j]? with
  | none => rw [hy] at hx; simp at hx
  | some y => rw [hy] at hx; simp only [Option.map_some, Option.some.injEq] at hx; subst hx; exact ⟨h1, j, y, hy, k2e B m y hd, ho⟩
theorem St.canon {S : Area} {pl : Place} {w : World} {m : Mem} (h : St X S pl w m) (B : Nat) (caps : List Nat) : St X S pl w (m.canon B caps) := by
 have hget : ∀ id ob, (m.canon B caps).get id = some ob → ∃ ob', m.get id = some ob' ∧ ob = cnOb B m caps id ob' := fun id ob hg => by
  rw [z3e] at hg
  cases hq : m.get id with
  | none => rw [hq] at hg; simp at hg
  | some ob' => rw [hq] at hg; simp only [Option.map_some, Option.some.injEq] at hg; exact ⟨ob', rfl, hg.symm⟩
 refine ⟨⟨fun id ob hob => ?_, fun id id' ob ob' h1 h2 hne b o hf => ?_, fun id ob hg b o hf => ?_, h.inv.low⟩, h.ext, h.sub, h.only, fun id ob hg b o hf => ?_, h.glob⟩
 ·obtain ⟨ob', hg, rfl⟩ := hget id ob hob
  obtain ⟨hv, hok⟩ := h.inv.ob id ob' hg
  cases ob' with
  | blk v cs =>
   refine ⟨by have := k2s v B; show (bif Nat.ble v B then v else B) < B + 1; omega, ?_⟩
   obtain ⟨h1, h2, h3⟩ := hok
   refine ⟨h1, h2, fun j x hx => ?_⟩
   rw [z7d] at hx
   cases hy : cs[j]? with
   | none => rw [hy] at hx; simp at hx
   | some y =>
    rw [hy] at hx; simp only [Option.map_some, Option.some.injEq] at hx; subst hx
    obtain ⟨u, hc, hr⟩ := h3 j y hy
    exact ⟨u, hc, hr.canon B caps⟩
  | arr v sz es cap pub =>
   refine ⟨Nat.lt_succ_self _, ?_⟩
   obtain ⟨h0, h1, h2, ⟨e, capn, h3, h4, h5⟩, h6, h7⟩ := hok
   refine ⟨h0, h1, h2, ⟨e, capn, h3, h4, fun c hc => h5 c ?_⟩, h6, h7⟩
   revert hc
   cases caps.contains id <;> simp
 ·obtain ⟨o1, g1, rfl⟩ := hget id ob h1
  obtain ⟨o2, g2, rfl⟩ := hget id' ob' h2
  exact fun hf2 => h.inv.apart id id' o1 o2 g1 g2 hne b o (z6u hf) (z6u hf2)
 ·obtain ⟨o1, g1, rfl⟩ := hget id ob hg
  exact h.inv.free id o1 g1 b o (z6u hf)
 ·obtain ⟨o1, g1, rfl⟩ := hget id ob hg
  exact h.own id o1 g1 b o (z6u hf)
theorem At.head {B : Nat} {tm : List AV} {m : Mem} {a : Act} {w : World} (h : At X pins tm m a w) (hl : ∀ p ∈ pins, Low B p.1) (live ids caps : List Nat) : At X pins (fgT B live ids tm m) (fgM B ids caps m) a w := by
 obtain ⟨S, pl, hs, ht, hp⟩ := h
 obtain ⟨h1, k⟩ := hs.keep ids
 refine ⟨S, pl, h1.canon B caps, ⟨ht.defers, ?_, fun i x hx => ?_⟩, fun p hq => ((hp p hq).mono k).canonLow B caps (hl p hq)⟩
 ·rw [fgT, z5f, z4z]; exact ht.size
 ·unfold fgT at hx
  rw [z7d] at hx
  cases hy : (killT 0 live tm)[i]? with
  | none => rw [hy] at hx; simp at hx
  | some y =>
   rw [hy] at hx; simp only [Option.map_some, Option.some.injEq] at hx; subst hx
   rcases z6n _ _ _ _ _ hy with rfl | hx
   ·simp only [cnA]; exact .dead _
   ·exact ((ht.rel i y hx).mono k).canon B caps
def exOf : Exit → Option EX
 | .normal => some .norm
 | .ret => some .ret
 | .exit i => some (.ex i)
 | _ => none
def PostX (X : Ctx) (pins : List (AV × Value)) (K : KX) (e : Exit) (a : Act) (w : World) : Prop := ∃ ex tm m, exOf e = some ex ∧ K ex tm m ∧ At X pins tm m a w
theorem w4s {D : Spec} {B : Nat} (hl : ∀ p ∈ pins, Low B p.1) (hm : P.follows .mixedOrders = true) (hT : TabOk P T) (hD : ∀ f os Q, D f os Q → Den P X.G f os Q) (c : Code) : ∀ (tm : List AV) (m : Mem) (K : KX) (a : Act) (w : World), At X pins tm m a w → execW B T X.G D c tm m K → c.wp P (PostX X pins K) a w := by
 induction c with
 | skip => intro tm m K a w ha hk; exact wp_skip ⟨.norm, tm, m, rfl, hk, ha⟩
 | label l => intro tm m K a w ha hk; exact wp_label ⟨.norm, tm, m, rfl, hk, ha⟩
 | region id ops draw =>
  intro tm m K a w ha hk
  have joined : ∀ tm m a w, Join B (K .norm) tm m → At X pins tm m a w → PostX X pins K .normal a w := fun tm m a w h1 h2 => by
   rcases h1 with h1 | ⟨live, ids, caps, h1⟩
   ·exact ⟨.norm, tm, m, rfl, h1, h2⟩
   ·exact ⟨.norm, _, _, rfl, h1, h2.head hl live ids caps⟩
  cases draw with
  | false =>
   refine wp_region ?_
   rw [List.range_eq_range', ← Array.length_toList]
   cases hg : hasG ops.toList with
   | true =>
    simp only [execW, hg] at hk
    exact z2x (P := P) hT hD (Q := PostX X pins K) ops.toList 0 tm m a w rfl ha hk joined
   | false =>
    simp only [execW, hg] at hk
    exact z2x (P := P) hT hD (Q := PostX X pins K) ops.toList 0 tm m a w rfl ha hk (fun tm m a w h1 h2 => ⟨.norm, tm, m, rfl, h1, h2⟩)
  | true =>
   have hk' : z7p T X.G D ops tm m (Join B (K .norm)) := hk
   unfold z7p at hk'
   obtain ⟨hns, hk'⟩ := hk'
   rcases hk' with hk' | ⟨t, wr, hto, htd, hk'⟩
   ·split at hk'
    ·rename_i ord hord
     obtain ⟨wr, hk'⟩ := hk'
     obtain ⟨S, pl, hs, h, hpin⟩ := ha
     obtain ⟨hst, hkp⟩ := hs.draw (w.drawn + 1)
     exact wp_region_any hm (z5i hT hD (fun tm m a w h1 h2 => joined tm m a w h1 h2) _ _ tm m a _ ⟨S, pl, hst, h.mono hkp, fun p hp => (hpin p hp).mono hkp⟩ (z6k _ _ ord tm m hord (ClosedL.none _ _) hk'))
    ·exact hk'.elim
   ·obtain ⟨S, pl, hs, h, hpin⟩ := ha
    obtain ⟨hst, hkp⟩ := hs.draw (w.drawn + 1)
    exact wp_region_any hm (z5i hT hD (fun tm m a w h1 h2 => joined tm m a w h1 h2) _ _ tm m a _ ⟨S, pl, hst, h.mono hkp, fun p hp => (hpin p hp).mono hkp⟩ (z3z t wr _ _ tm m hto htd (ClosedL.none _ _) hk'))
 | seq x y ihx ihy =>
  intro tm m K a w ha hk
  refine wp_seq (wp_mono (ihx tm m _ a w ha hk) ?_)
  rintro e a w ⟨ex, tm, m, he, hk, ha⟩
  cases e <;> simp [exOf] at he <;> subst he
  ·exact ihy tm m K a w ha hk
  ·exact ⟨_, tm, m, rfl, hk, ha⟩
  ·exact ⟨_, tm, m, rfl, hk, ha⟩
 | cond c x y ihx ihy =>
  intro tm m K a w ha hk
  obtain ⟨S, pl, hs, h, hpin⟩ := ha
  obtain ⟨b, hb, h1, h2⟩ := z5t (z0n hs h 0 c) hk
  have post : ∀ e a w, PostX X pins (fun e tm m => match e with | .norm => Join B (K .norm) tm m | .ret => K .ret tm m | .ex i => K (.ex i) tm m) e a w → PostX X pins K e a w := by
   rintro e a w ⟨ex, tm, m, he, hk, ha⟩
   cases ex with
   | norm =>
    rcases hk with hk | ⟨live, ids, caps, hk⟩
    ·exact ⟨_, tm, m, he, hk, ha⟩
    ·exact ⟨_, _, _, he, hk, ha.head hl live ids caps⟩
   | ret => exact ⟨_, tm, m, he, hk, ha⟩
   | ex i => exact ⟨_, tm, m, he, hk, ha⟩
  exact wp_cond_split hb (fun e => wp_mono (ihx tm m _ a w ⟨S, pl, hs, h, hpin⟩ (h1 e)) post) (fun e => wp_mono (ihy tm m _ a w ⟨S, pl, hs, h, hpin⟩ (h2 e)) post)
 | block id c ih =>
  intro tm m K a w ha hk
  refine wp_block (wp_mono (ih tm m _ a w ha hk) ?_)
  rintro e a w ⟨ex, tm, m, he, hk, ha⟩
  cases e <;> simp [exOf] at he <;> subst he
  ·exact ⟨_, tm, m, rfl, hk, ha⟩
  ·rename_i i
   simp only [Exit.inBlock]
   by_cases hi : i = id
   ·simp only [hi, if_true] at hk ⊢; exact ⟨_, tm, m, rfl, hk, ha⟩
   ·simp only [hi, if_false] at hk ⊢; exact ⟨_, tm, m, rfl, hk, ha⟩
  ·exact ⟨_, tm, m, rfl, hk, ha⟩
 | loop c ih =>
  intro tm m K a w ha hk
  obtain ⟨live, ids, caps, n, hk⟩ := hk
  refine wp_loop_rounds n ?_
  induction n generalizing tm m a w with
  | zero => exact hk.elim
  | succ n ihn =>
   rw [rounds_succ]
   refine wp_mono (ih _ _ _ a w (ha.head hl live ids caps) hk) ?_
   rintro e a w ⟨ex, tm, m, he, hk, ha⟩
   cases e <;> simp [exOf] at he <;> subst he
   ·exact ihn tm m a w ha hk
   ·exact ⟨_, tm, m, rfl, hk, ha⟩
   ·exact ⟨_, tm, m, rfl, hk, ha⟩
 | exit id => intro tm m K a w ha hk; exact wp_exit ⟨.ex id, tm, m, rfl, hk, ha⟩
 | ret => intro tm m K a w ha hk; exact wp_ret ⟨.ret, tm, m, rfl, hk, ha⟩
 | _ => intro tm m K a w ha hk; exact hk.elim
end
end Go.Proofs.Ythncmjlcmlmnmaa.V
namespace Go.Proofs.Ythncmjlcmlmnmaa.V
open Go Go.RowKit
section
variable {P : Program} {T : Tab} {X : Ctx}
theorem z3v (hT : TabOk P T) {S : Area} {pl : Place} {w : World} {m : Mem} {tm : List AV} {a : Act} (hs : St X S pl w m) (h : TmR S pl w m tm a) : ∀ (rs : List ResultVar) {K : List AV → Prop}, z2k T tm m rs K →
  ∃ xs us, K xs ∧ us.length = xs.length ∧ (rs.mapM fun r => (match r with | .tmp t => pure (a.tmps.getD t undef) | .cell ad t => do loadVar t (← asAddr (a.tmps.getD ad undef)) : Sem Value)).run P w = .ok us w ∧ ∀ (j : Nat) x u, xs[j]? = some x → us[j]? = some u → RelV S pl w m x u
 | [], K, hk => ⟨[], [], hk, rfl, rfl, fun j x u hx => by simp at hx⟩
 | .tmp t :: rs, K, hk => by
  obtain ⟨xs, us, h1, h2, h3, h4⟩ := z3v hT hs h rs hk
  refine ⟨_, a.tmps.getD t undef :: us, h1, by simp [h2], ?_, fun j x u hx hu => ?_⟩
  ·rw [List.mapM_cons]
   simp only [Sem.run_bind, Sem.run_pure, Result.andThen_ok, h3]
  ·cases j with
   | succ j => exact h4 j x u (by simpa using hx) (by simpa using hu)
   | zero => simp at hx hu; subst hx hu; have := z0n (T := T) hs h 0 (.tmp t); simpa [evO, Act.eval] using this
 | .cell ad t :: rs, K, hk => by
  simp only [z2k] at hk
  split at hk
  ·exact hk.elim
  ·rename_i s hs2
   obtain ⟨u, y, h1, h2, h3⟩ := z7m (P := P) (K := fun x _ => z2k T tm m rs fun l => K (x :: l)) hT hs hs2 (z0n (T := T) hs h 0 (.tmp ad)) hk
   obtain ⟨xs, us, g1, g2, g3, g4⟩ := z3v hT hs h rs h2
   have hrun : (do loadVar t (← asAddr (a.tmps.getD ad undef)) : Sem Value).run P w = .ok u w := by
    simp only [Act.eval] at h1
    generalize a.tmps.getD ad undef = q at h1 ⊢
    cases q with
    | pointer p =>
     cases p with
     | some p => exact h1
     | none => simp [Instr.loadAt, Instr.sureAddr, stuck] at h1
    | _ => simp [Instr.loadAt, Instr.sureAddr, stuck] at h1
   refine ⟨y :: xs, u :: us, g1, by simp [g2], ?_, fun j x v hx hu => ?_⟩
   ·rw [List.mapM_cons]
    simp only [Sem.run_bind] at hrun ⊢
    simp only [hrun, Result.andThen_ok, g3, Sem.run_pure]
   ·cases j with
    | succ j => exact g4 j x v (by simpa using hx) (by simpa using hu)
    | zero => simp at hx hu; subst hx hu; exact h3
def oneV : List Value → Value
 | [u] => u
 | l => .tuple l.toArray
theorem w4h {fn : Func} {a : Act} {w : World} {us : List Value} (h : (fn.results.toList.mapM fun r => (match r with | .tmp t => pure (a.tmps.getD t undef) | .cell ad t => do loadVar t (← asAddr (a.tmps.getD ad undef)) : Sem Value)).run P w = .ok us w) :
  (results fn a.tmps).run P w = .ok (oneV us) w := by
 unfold results
 rw [Array.mapM_eq_mapM_toList]
 simp only [Sem.run_bind, Sem.run_map]
 generalize hq : Sem.run P (List.mapM _ _) w = q
 have hq2 : q = .ok us w := hq.symm.trans h
 subst hq2
 simp only [Result.andThen_ok, Sem.run_pure]
 match us with
 | [] => rfl
 | [u] => rfl
 | u :: v :: r => simp [oneV]
theorem z5q {w : World} : ∀ (os : List OV) (xs : List AV) (us : List Value) {S : Area} {pl : Place} {m : Mem} {K : List OV → Mem → Prop}, St X S pl w m → os.length = us.length → (∀ (j : Nat) x u, xs[j]? = some x → us[j]? = some u → RelV S pl w m x u) → outsW m os xs K →
  ∃ S' bs m' F, K bs m' ∧ OwnP S' w F os us bs ∧ Packed X S S' pl w m m' F
 | [], _, [], S, pl, m, K, h, _, _, hk => ⟨S, [], m, _, by simpa only [outsW] using hk, .nil, ⟨h, Keeps.refl _ _ _ _, Shrinks.refl _ _ _, fun _ _ q => q.elim, fun _ _ q => q.elim⟩⟩
 | [], _, _ :: _, _, _, _, _, _, hl, _, _ => by simp at hl
 | _ :: _, _, [], _, _, _, _, _, hl, _, _ => by simp at hl
 | o :: os, xs, u :: us, S, pl, m, K, h, hl, hr, hk => by
  have skip : (∀ cs, o ≠ .ptr cs) → (outsW m os xs.tail fun l m => K (o :: l) m) → ∃ S' bs m' F, K bs m' ∧ OwnP S' w F (o :: os) (u :: us) bs ∧ Packed X S S' pl w m m' F := fun hn hk => by
   obtain ⟨S', bs, m', F, h1, h2, h3⟩ := z5q os xs.tail us h (by simpa using hl) (fun j x v hx hv => hr (j + 1) x v (by rw [List.getElem?_tail] at hx; exact hx) (by simpa using hv)) hk
   exact ⟨S', _, m', F, h1, .skip o o u os us bs F hn h2, h3⟩
  cases o with
  | ptr cs0 =>
   cases xs with
   | nil => simp [outsW] at hk
   | cons x xs =>
    cases x with
    | p id ver off =>
     cases off with
     | succ off => simp [outsW] at hk
     | zero =>
      simp only [outsW] at hk
      split at hk
      ·rename_i v cs hg
       obtain ⟨rfl, hk⟩ := hk
       have hrel := hr 0 _ u rfl rfl
       cases hrel with | p _ _ _ b q hv hrel =>
       obtain ⟨_, hb⟩ := hrel _ hg rfl
       obtain ⟨hv', h1, h2, hrow⟩ := h.inv.ob id _ hg
       obtain ⟨vs, hul, huc, hur⟩ := hrow.list
       have hb1 : (pl id).1 = b := by rw [← hb]
       have hb2 : (pl id).2 = q := by rw [← hb]
       obtain ⟨hst, hkp⟩ := h.del id
       obtain ⟨f1, f2⟩ := w1i h.inv hg
       obtain ⟨hlive, _⟩ := z4b (w5x depth) cs hk
       obtain ⟨S1, ps, m1, F1, hk1, ho, hp⟩ := z2d (z4j depth) cs vs hst hul (fun j x u hx hu => (hur j x u hx hu).mono hkp) hk
       have hreg : ∀ b' o', (b' = b ∧ q ≤ o' ∧ o' < q + vs.length) → (Ob.blk v cs).foot (pl id) b' o' := fun b' o' ⟨q1, q2, q3⟩ => by
        have hj : o' - q < cs.length := by omega
        have hx : cs[o' - q]? = some cs[o' - q] := List.getElem?_eq_getElem hj
        exact ⟨by rw [q1, hb1], o' - q, _, hx, hlive _ (List.mem_of_getElem? hx), by rw [hb2]; omega⟩
       rw [hb1] at h1 h2 huc
       rw [hb2] at huc
       have hown : Own S1 w _ (.ptr ps) (.pointer (some ⟨b, q, none⟩)) := .ptr ps vs b q F1 ho h1 h2 huc (fun b' o' q1 q2 => (f2 b' o' (hreg b' o' q2)).2 (hp.off b' o' q1).1)
       have kp1 := hkp.trans hp.kp
       obtain ⟨S2, bs, m2, F2, hk2, ho2, p2⟩ := z5q os xs us hp.st (by simpa using hl) (fun j x v hx hv => (hr (j + 1) x v (by simpa using hx) (by simpa using hv)).mono kp1) hk1
       have hoff : ∀ b' o', (F1 b' o' ∨ b' = b ∧ q ≤ o' ∧ o' < q + vs.length) → Feet pl m b' o' ∧ ¬ Feet pl m1 b' o' ∧ ¬ S1 b' o' := fun b' o' q1 => by
        rcases q1 with q1 | q1
        ·exact ⟨f1 _ _ (hp.off b' o' q1).1, (hp.off b' o' q1).2, hp.no b' o' q1⟩
        ·obtain ⟨g1, g2⟩ := f2 b' o' (hreg b' o' q1)
         exact ⟨g1, fun q' => g2 (hp.sh.feet _ _ q'), fun hs => (hp.sh.grow b' o' hs).elim (h.inv.free id _ hg b' o' (hreg b' o' q1)) g2⟩
       refine ⟨S2, _, m2, _, hk2, .ptr cs0 ps _ os us bs _ F2 (hown.keep (p2.still _)) ho2 (fun b' o' q1 q2 => (hoff b' o' q1).2.1 (p2.off b' o' q2).1), p2.st, kp1.trans p2.kp, ⟨fun b' o' hs => ?_, fun b' o' hf => f1 _ _ (hp.sh.feet _ _ (p2.sh.feet _ _ hf))⟩, fun b' o' q1 => ?_, fun b' o' q1 => ?_⟩
       ·rcases p2.sh.grow b' o' hs with g | g
        ·exact (hp.sh.grow b' o' g).imp (fun q => q) (f1 b' o')
        ·exact .inr (f1 _ _ (hp.sh.feet _ _ g))
       ·rcases q1 with q1 | q1
        ·exact ⟨(hoff b' o' q1).1, fun q' => (hoff b' o' q1).2.1 (p2.sh.feet _ _ q')⟩
        ·exact ⟨f1 _ _ (hp.sh.feet _ _ (p2.off b' o' q1).1), (p2.off b' o' q1).2⟩
       ·rcases q1 with q1 | q1
        ·exact fun hs => (p2.sh.grow b' o' hs).elim (hoff b' o' q1).2.2 (hoff b' o' q1).2.1
        ·exact p2.no b' o' q1
      ·exact hk.elim
    | _ => simp [outsW] at hk
  | c y => exact skip (by simp) (by simpa only [outsW] using hk)
  | arr sz es cap pub n => exact skip (by simp) (by simpa only [outsW] using hk)
  | agg cs => exact skip (by simp) (by simpa only [outsW] using hk)
  | tup cs => exact skip (by simp) (by simpa only [outsW] using hk)
theorem w9o {S : Area} {pl : Place} {w : World} {m : Mem} : ∀ (xs : List AV) (us : List Value), us.length = xs.length → (∀ (j : Nat) x u, xs[j]? = some x → us[j]? = some u → RelV S pl w m x u) → RelV S pl w m (oneOf xs) (oneV us)
 | [], [], h, hr => .tup [] [] h hr
 | [x], [u], _, hr => hr 0 x u rfl rfl
 | x :: y :: r, u :: v :: s, h, hr => .tup _ _ h hr
 | [], _ :: _, h, _ => by simp at h
 | _ :: _, [], h, _ => by simp at h
 | [_], _ :: _ :: _, h, _ => by simp at h
 | _ :: _ :: _, [_], h, _ => by simp at h
theorem w4f {S : Area} {pl : Place} {w : World} {m : Mem} (h : St X S pl w m) {x : AV} {u : Value} (hr : RelV S pl w m x u) {K : AV → Mem → Prop} (hk : shutA m x K) :
  ∃ S' y m', K y m' ∧ RelV S' pl w m' y u ∧ St X S' pl w m' ∧ Keeps S S' pl pl w w m m' := by
 cases x with
 | agg cs =>
  cases hr with | agg _ us hl hr =>
  obtain ⟨S', ys, m', h1, h2, h3, h4, h5⟩ := z5b cs us h hl hr hk
  refine ⟨S', _, m', h1, .agg _ us (by simp [h2, hl]) (fun i x u hx hu => ?_), h4, h5⟩
  rw [List.getElem?_map] at hx
  cases hy : ys[i]? with
  | none => rw [hy] at hx; simp at hx
  | some y => rw [hy] at hx; simp at hx; subst hx; exact .c _ _ (h3 i y u hy hu)
 | c x => cases hr with | c _ _ hr => exact ⟨S, _, m, hk, .c _ _ hr.norm, h, Keeps.refl _ _ _ _⟩
 | t id ver n =>
  obtain ⟨S', y, m', h1, h2, h3, h4⟩ := w3p (K := fun y m => K (.c y) m) h hr hk
  exact ⟨S', _, m', h1, .c _ _ h2, h3, h4⟩
 | p => exact ⟨S, _, m, hk, hr, h, Keeps.refl _ _ _ _⟩
 | tp => exact ⟨S, _, m, hk, hr, h, Keeps.refl _ _ _ _⟩
 | tup => exact ⟨S, _, m, hk, hr, h, Keeps.refl _ _ _ _⟩
 | dead => exact ⟨S, _, m, hk, hr, h, Keeps.refl _ _ _ _⟩
theorem z7h {w : World} : ∀ (xs : List AV) (us : List Value) {S : Area} {pl : Place} {m : Mem} (_ : St X S pl w m) (_ : us.length = xs.length) (_ : ∀ (j : Nat) x u, xs[j]? = some x → us[j]? = some u → RelV S pl w m x u)
  {K : List AV → Mem → Prop} (_ : w1v m xs K), ∃ S' ys m', K ys m' ∧ ys.length = xs.length ∧ (∀ (j : Nat) y u, ys[j]? = some y → us[j]? = some u → RelV S' pl w m' y u) ∧ St X S' pl w m' ∧ Keeps S S' pl pl w w m m'
 | [], _, S, _, m, h, _, _, K, hk => ⟨S, [], m, hk, rfl, fun j y u hy => by simp at hy, h, Keeps.refl _ _ _ _⟩
 | x :: xs, [], _, _, _, _, hl, _, _, _ => by simp at hl
 | x :: xs, u :: us, S, pl, m, h, hl, hr, K, hk => by
  obtain ⟨S1, y, m1, hk1, hy, h1, k1⟩ := w4f h (hr 0 x u rfl rfl) hk
  obtain ⟨S2, ys, m2, hk2, hlen, hys, h2, k2⟩ := z7h xs us h1 (by simpa using hl) (fun j x u hx hu => (hr (j + 1) x u hx hu).mono k1) hk1
  refine ⟨S2, y :: ys, m2, hk2, by simp [hlen], fun j y' u' hy' hu' => ?_, h2, k1.trans k2⟩
  cases j with
  | zero => simp at hy' hu'; subst hy' hu'; exact hy.mono k2
  | succ j => exact hys j y' u' (by simpa using hy') (by simpa using hu')
theorem w1u {w : World} (sh : Bool) (xs : List AV) (us : List Value) {S : Area} {pl : Place} {m : Mem} (h : St X S pl w m) (hl : us.length = xs.length) (hr : ∀ (j : Nat) x u, xs[j]? = some x → us[j]? = some u → RelV S pl w m x u)
  {K : List AV → Mem → Prop} (hk : w5o sh m xs K) : ∃ S' ys m', K ys m' ∧ ys.length = xs.length ∧ (∀ (j : Nat) y u, ys[j]? = some y → us[j]? = some u → RelV S' pl w m' y u) ∧ St X S' pl w m' ∧ Keeps S S' pl pl w w m m' := by
 cases sh with
 | true => exact z7h xs us h hl hr hk
 | false => exact ⟨S, xs, m, hk, rfl, hr, h, Keeps.refl _ _ _ _⟩
theorem den_of (hm : P.follows .mixedOrders = true) (hT : TabOk P T) {G : Glob} {D : Spec} (hD : ∀ f os Q, D f os Q → Den P G f os Q) {f : FuncId} {fn : Func} {body : Code} (hf : P.funcs[f]? = some fn) (hb : fn.body = some body) (hname : (fn.name == "runtime.NumGoroutine") = false)
  {os : List OV} {Q : OV → List OV → Prop} (hlen : os.length ≤ fn.ntmps) {sh : Bool} (hk : FnW T G D fn body os Q sh) : Den P G f os Q := by
 refine ⟨⟨fn, hf, by rw [hb]; rfl, hname⟩, fun S F w us hS hF hG ho => ?_⟩
 let X : Ctx := ⟨S, F, w, G⟩
 have hus := ho.length
 have st0 : St X S (fun _ => (0, 0)) w ⟨[], 0⟩ := ⟨⟨fun id ob h => by simp [Mem.get, getL] at h, fun id id' ob ob' h => by simp [Mem.get, getL] at h, fun id ob h => by simp [Mem.get, getL] at h, hS⟩,
  Ext.refl _ _, fun _ _ h => h, fun b o h => .inl h, fun id ob h => by simp [Mem.get, getL] at h, hG⟩
 obtain ⟨pl, l1, r1⟩ := z1s (X := X) (z3j depth) os us 0 st0 ho (fun b o hf => ⟨.inl hf, (hF b o hf).2, fun ⟨id, ob, hg, _⟩ => by simp [Mem.get, getL] at hg⟩)
 unfold FnW at hk
 dsimp only at hk
 have hul := z1k (z1c depth) os 0 ⟨[], 0⟩
 generalize hu : z0x (z1c depth) 0 ⟨[], 0⟩ os = U at l1 r1 hk hul
 refine calls_of_wp hf hb ?_
 have tm0 : TmR S pl w U.2.2 (U.1 ++ List.replicate (fn.ntmps - os.length) .dead) { tmps := us.toArray ++ Array.replicate (fn.ntmps - us.toArray.size) undef, defers := [] } := by
  refine ⟨rfl, by simp; omega, fun i x hx => ?_⟩
  by_cases hi : i < U.1.length
  ·rw [List.getElem?_append_left hi] at hx
   have hiu : i < us.length := by omega
   have hui : us[i]? = some us[i] := List.getElem?_eq_getElem hiu
   have := r1 i x _ hx hui
   rw [Array.getD_eq_getD_getElem?, Array.getElem?_append_left (by simpa using hiu)]
   simpa [hui] using this
  ·rw [List.getElem?_append_right (by omega), List.getElem?_replicate] at hx
   split at hx
   ·injection hx with hx; subst hx; exact .dead _
   ·simp at hx
 have hlow : ∀ p ∈ U.1.zip us, Low U.2.2.clk p.1 := fun p hp => by
  obtain ⟨j, hj⟩ := List.mem_iff_getElem?.1 hp
  rw [List.getElem?_zip_eq_some] at hj
  exact (r1 j p.1 p.2 hj.1 hj.2).low
 refine wp_mono (w4s (pins := U.1.zip us) (B := U.2.2.clk) hlow hm hT hD body _ _ _ _ w ⟨S, pl, l1.st, tm0, fun p hp => by
  obtain ⟨j, hj⟩ := List.mem_iff_getElem?.1 hp
  rw [List.getElem?_zip_eq_some] at hj
  exact r1 j p.1 p.2 hj.1 hj.2⟩ hk) ?_
 rintro e a w' ⟨ex, tm, m, he, hk, S2, pl2, hst, htm, hpin⟩
 have fin : (z2k T tm m fn.results.toList fun rs => w5o sh m rs fun rs m => packW depth m (oneOf rs) fun r m => outsW m os U.1 fun bs _ => Q r bs) → a.defers = [] ∧ ∃ v, (results fn a.tmps).run P w' = .ok v w' ∧
   ∃ v_1 r bs S' Fr Fb, Ending.returned v = .returned v_1 ∧ Q r bs ∧ Own S' w' Fr r v_1 ∧ OwnP S' w' Fb os us bs ∧ Ended S F w w' S' Fr Fb := fun hk => by
  obtain ⟨xs0, vs, h1, h2, h3, h4⟩ := z3v hT hst htm fn.results.toList hk
  obtain ⟨S2, xs, m, h1, hlen, h4, hst, hks⟩ := w1u sh xs0 vs hst h2 h4 h1
  replace h2 : vs.length = xs.length := by omega
  replace hpin := fun p hp => (hpin p hp).mono hks
  refine ⟨htm.defers, _, w4h h3, ?_⟩
  obtain ⟨S3, r, m3, Fr, hk3, hor, p3⟩ := z4j depth hst (w9o xs vs h2 h4) h1
  obtain ⟨S4, bs, m4, Fb, hq, hob, p4⟩ := z5q os U.1 us p3.st (by omega) (fun j x u hx hu => (hpin (x, u) (List.mem_of_getElem? (i := j) (by rw [List.getElem?_zip_eq_some]; exact ⟨hx, hu⟩))).mono p3.kp) hk3
  have hmine : ∀ b o, Feet pl2 m b o → F b o ∨ w.heap.size ≤ b := fun b o ⟨id, ob, hg, hf⟩ => hst.own id ob hg b o hf
  refine ⟨_, r, bs, S4, Fr, Fb, rfl, hq, hor.keep (p4.still _), hob, ⟨p4.st.ext, p4.st.sub, fun b o hs => ⟨p4.st.inv.low b o hs, p4.st.only b o hs⟩, fun b o h1 h2 => (p3.off b o h1).2 (p4.off b o h2).1, fun b o h => ?_⟩⟩
  rcases h with h | h
  ·exact ⟨fun hs => (p4.sh.grow b o hs).elim (p3.no b o h) (p3.off b o h).2, hmine b o (p3.off b o h).1⟩
  ·exact ⟨p4.no b o h, hmine b o (p3.sh.feet _ _ (p4.off b o h).1)⟩
 cases e <;> simp [exOf] at he <;> subst he
 ·exact fin hk
 ·exact hk.elim
 ·exact fin hk
end
end Go.Proofs.Ythncmjlcmlmnmaa.V
namespace Go.Proofs.Ythncmjlcmlmnmaa.V
open Go
abbrev EL := List (List CV)
structure Ops where
 wrap : IntKind → Int → Int
 bin : BinOp → IntKind → Int → Int → Int
 cmp : BinOp → Int → Int → Bool
 un : UnOp → IntKind → Int → Int
 bnot : Bool → Bool
 beq2 : Bool → Bool → Bool
 least : Bool → Int → Int → Int
 nz : Int → Prop
 ile : Int → Int → Prop
 ilt : Int → Int → Prop
 nle : Nat → Nat → Prop
 plus : Nat → Nat → Nat
 times : Nat → Nat → Nat
 itimes : Int → Nat → Int
 toN : Int → Nat
 least2 : Nat → Nat → Nat
 sadd : ByteArray → ByteArray → ByteArray
 scmp : BinOp → ByteArray → ByteArray → Bool
 ssz : ByteArray → Nat
 sext : ByteArray → Nat → Nat → ByteArray
 sget : ByteArray → Nat → Int
 ofb : ByteArray → EL
 tob : EL → (ByteArray → Prop) → Prop
 len : EL → Nat
 take : Nat → EL → EL
 view : Nat → EL → (EL → Prop) → Prop
 drop : Nat → EL → EL
 app : EL → EL → EL
 rep : Nat → List CV → EL
 setE : EL → Nat → Nat → List CV → EL
 width : EL → Nat → Nat
 over : EL → EL → Nat → EL
 elem : EL → Nat → (List CV → Prop) → Prop
 emp : EL → (Unit → Prop) → (Unit → Prop) → Prop
 br : Bool → (Unit → Prop) → (Unit → Prop) → Prop
 agree : List Nat → Mem → Mem → Prop
 call : Nat → Mem → FuncId → List AV → KK → Prop
 loop : Code → List AV → Mem → KX → Prop
 sub : List CV → Nat → Nat → (List CV → Prop) → Prop
 drawn : Array Oper → List AV → Mem → (List AV → Mem → Prop) → Prop
 reg : Array Oper → List AV → Mem → (List AV → Mem → Prop) → Prop
 join : (List AV → Mem → Prop) → List AV → Mem → Prop
 toI : Nat → Int
 neq : Nat → Nat → Prop
 hiOk : Bool → Int → Nat → Nat → Prop
 nat : Nat → Nat → (Nat → Prop) → Prop
 and2 : Bool → Bool → Bool
 alt : (Unit → Prop) → (Unit → Prop) → Prop
 lzE : (Unit → EL) → EL
 lzI : (Unit → Int) → Int
 lzN : (Unit → Nat) → Nat
 lzS : (Unit → ByteArray) → ByteArray
 lzB : (Unit → Bool) → Bool
def bOr (n : Nat) (a b : Int) : Nat := (BitVec.ofInt n a ||| BitVec.ofInt n b).toNat
def bAnd (n : Nat) (a b : Int) : Nat := (BitVec.ofInt n a &&& BitVec.ofInt n b).toNat
def bXor (n : Nat) (a b : Int) : Nat := (BitVec.ofInt n a ^^^ BitVec.ofInt n b).toNat
def bAndNot (n : Nat) (a b : Int) : Nat := (BitVec.ofInt n a &&& ~~~ BitVec.ofInt n b).toNat
def z0d (op : BinOp) (k : IntKind) (a b : Int) : Int := match op with
 | .shl => k.wrap (a * 2 ^ (min b.toNat k.bits))
 | .shr => a.fdiv (2 ^ (min b.toNat k.bits))
 | .add => k.wrap (a + b)
 | .sub => k.wrap (a - b)
 | .mul => k.wrap (a * b)
 | .quo => k.wrap (a.tdiv b)
 | .rem => a.tmod b
 | .and => k.wrap (bAnd k.bits a b)
 | .or => k.wrap (bOr k.bits a b)
 | .xor => k.wrap (bXor k.bits a b)
 | .andNot => k.wrap (bAndNot k.bits a b)
 | _ => 0
def z0a (op : BinOp) (a b : Int) : Bool := match op with
 | .eql => a == b
 | .neq => a != b
 | .lss => decide (a < b)
 | .leq => decide (a ≤ b)
 | .gtr => decide (a > b)
 | .geq => decide (a ≥ b)
 | _ => false
def z2f (op : BinOp) (a b : ByteArray) : Bool := match op with
 | .eql => a.toList == b.toList
 | .neq => !(a.toList == b.toList)
 | .lss => Op.bytesLess a.toList b.toList
 | .leq => Op.bytesLess a.toList b.toList || a.toList == b.toList
 | .gtr => !(Op.bytesLess a.toList b.toList || a.toList == b.toList)
 | .geq => !(Op.bytesLess a.toList b.toList)
 | _ => false
def unStd (op : UnOp) (k : IntKind) (n : Int) : Int := match op with
 | .neg => k.wrap (0 - n)
 | .xor => k.wrap (BitVec.ofInt k.bits (if k.signed then -1 else k.max) ^^^ BitVec.ofInt k.bits n).toNat
 | _ => 0
def std (B : Nat) (T : Tab) (G : Glob) (D : Spec) : Ops where
 wrap k n := k.wrap n
 bin := z0d
 cmp := z0a
 un := unStd
 bnot b := !b
 beq2 a b := a == b
 least mx a b := if mx then (if b > a then b else a) else (if b < a then b else a)
 nz b := b ≠ 0
 ile a b := a ≤ b
 ilt a b := a < b
 nle a b := a ≤ b
 plus a b := a + b
 times a b := a * b
 itimes a b := a * b
 toN a := a.toNat
 least2 a b := min a b
 sadd a b := a ++ b
 scmp := z2f
 ssz s := s.size
 sext s l h := s.extract l h
 sget s i := ((s.data.toList.getD i 0).toNat : Nat)
 ofb s := encB s.data.toList
 tob es K := match bytesOf es with | some b => K ⟨b.toArray⟩ | none => False
 len es := es.length
 take n es := es.take n
 view n es K := n ≤ es.length ∧ K (es.take n)
 drop n es := es.drop n
 app a b := a ++ b
 rep n z := List.replicate n z
 setE es i o ys := es.set i (putAt (es.getD i []) o ys)
 width es i := (es.getD i []).length
 over ns es n := ns.take n ++ es.drop n
 elem es i K := K (es.getD i [])
 emp es A B := if es = [] then A () else B ()
 br v A B := (v = true → A ()) ∧ (v = false → B ())
 agree := Agree
 call site m f args K := callW D site m f args K
 loop c tm m K := execW B T G D (.loop c) tm m K
 sub cs i z K := K (cs.drop (i * z))
 drawn ops tm m K := z7p T G D ops tm m (Join B K)
 reg ops tm m K := opsW T G D ops.toList ops.toList tm m (Join B K)
 join := Join B
 toI n := n
 neq a b := a = b
 hiOk c h n l := h ≤ n ∨ c = true ∧ h ≤ l
 nat j _ K := K j
 and2 a b := a && b
 alt A B := A () ∨ B ()
 lzE f := f ()
 lzI f := f ()
 lzN f := f ()
 lzS f := f ()
 lzB f := f ()
end Go.Proofs.Ythncmjlcmlmnmaa.V
