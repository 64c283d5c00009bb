/- Regions whose order is open: whatever order is drawn. Conditions: none. -/
import Derived.Test.YthncmjlcmlmnmaaCR6
import Derived.Orders
namespace Go.Proofs.Ythncmjlcmlmnmaa.V
open Go Go.RowKit

theorem Ob.same_refl (o : Option Ob) : Ob.same o o := by
  cases o with
  | none => trivial
  | some o => cases o <;> simp [Ob.same]
theorem Ob.same_trans {a b c : Option Ob} (h : Ob.same a b) (k : Ob.same b c) : Ob.same a c := by
  cases a with
  | none => cases b with
    | none => exact k
    | some b => exact h.elim
  | some a => cases b with
    | none => cases a <;> exact h.elim
    | some b => cases c with
      | none => cases b <;> exact k.elim
      | some c => cases a <;> cases b <;> cases c <;> simp_all [Ob.same]
theorem Agree.refl (wr : List Nat) (m : Mem) : Agree wr m m := ⟨Nat.le_refl _, fun _ _ _ h => by rw [h]; exact Ob.same_refl _⟩
theorem Agree.trans {wr : List Nat} {a b c : Mem} (h : Agree wr a b) (k : Agree wr b c) : Agree wr a c := ⟨Nat.le_trans h.1 k.1, fun id ob hi hg => by
  have h1 := h.2 id ob hi hg
  cases hb : b.get id with
  | none => rw [hb] at h1; cases ob <;> exact h1.elim
  | some ob' => rw [hb] at h1; exact Ob.same_trans h1 (k.2 id ob' hi hb)⟩
theorem Agree.blk {wr : List Nat} {m m' : Mem} (h : Agree wr m m') {id v : Nat} {cs : List AV} (hi : id ∉ wr) (hg : m.get id = some (.blk v cs)) : m'.get id = some (.blk v cs) := by
  have := h.2 id _ hi hg
  cases hg' : m'.get id with
  | none => rw [hg'] at this; exact this.elim
  | some ob => rw [hg'] at this; cases ob with
    | blk v' cs' => obtain ⟨rfl, rfl⟩ := this; rfl
    | arr _ _ _ _ _ => exact this.elim
theorem Agree.arr {wr : List Nat} {m m' : Mem} (h : Agree wr m m') {id v sz : Nat} {es : List (List CV)} {cap : Option Nat} {pub : Bool} (hi : id ∉ wr) (hg : m.get id = some (.arr v sz es cap pub)) : ∃ pub', m'.get id = some (.arr v sz es cap pub') := by
  have := h.2 id _ hi hg
  cases hg' : m'.get id with
  | none => rw [hg'] at this; exact this.elim
  | some ob => rw [hg'] at this; cases ob with
    | blk _ _ => exact this.elim
    | arr v' sz' es' cap' pub' => obtain ⟨rfl, rfl, rfl, rfl⟩ := this; exact ⟨_, rfl⟩

section
variable {T : Tab} {G : Glob} {D : Spec} {wr : List Nat}

def EvSame (T : Tab) (G : Glob) (tm tm' : List AV) (o : Oper) : Prop := ∀ x ∈ o.op.operands, ∀ ty, evO T G tm' ty x = evO T G tm ty x
theorem evL_same {tm tm' : List AV} : ∀ (xs : List Operand) (tys : List TypeId), (∀ x ∈ xs, ∀ ty, evO T G tm' ty x = evO T G tm ty x) → evL T G tm' xs tys = evL T G tm xs tys
  | [], _, _ => rfl
  | x :: xs, tys, h => by simp only [evL]; rw [h x (by simp), evL_same xs tys.tail (fun y hy => h y (by simp [hy]))]
theorem pairs_same {tm tm' : List AV} (ps : Array (Nat × Operand)) (h : ∀ x ∈ (ps.toList.map (·.2)), ∀ ty, evO T G tm' ty x = evO T G tm ty x) :
    (ps.toList.map fun p => (p.1, evO T G tm' 0 p.2)) = (ps.toList.map fun p => (p.1, evO T G tm 0 p.2)) := by
  apply List.map_congr_left
  intro p hp
  rw [h p.2 (List.mem_map.2 ⟨p, hp, rfl⟩)]
theorem opt_same {tm tm' : List AV} (x : Option Operand) (h : ∀ y ∈ x.toArray, ∀ ty, evO T G tm' ty y = evO T G tm ty y) : x.map (evO T G tm' 0) = x.map (evO T G tm 0) := by
  cases x with
  | none => rfl
  | some x => simp only [Option.map_some]; rw [h x (by simp)]

theorem opW_congr {tm tm' : List AV} (o : Oper) (h : EvSame T G tm tm' o) (m : Mem) (K : KK) : opW T G D tm' o m K = opW T G D tm o m K := by
  unfold EvSame at h
  unfold opW
  dsimp only
  split <;> rename_i ho <;> (try rw [ho] at h) <;> (try simp only [Op.operands] at h)
  case h_1 x => rw [h x (by simp)]
  case h_2 x => rw [h x (by simp)]
  case h_3 c a b => rw [h c (by simp), h a (by simp), h b (by simp)]
  case h_5 e x => rw [h x (by simp)]
  case h_6 t ps => rw [pairs_same ps (fun x hx => h x (by simpa using hx))]
  case h_7 t len ps => rw [pairs_same ps (fun x hx => h x (by simpa using hx))]
  case h_8 t x => rw [h x (by simp)]
  case h_9 t x y => rw [h x (by simp), h y (by simp)]
  case h_10 x => rw [h x (by simp)]
  case h_11 op t x y _ => rw [h x (by simp), h y (by simp)]
  case h_12 x => rw [h x (by simp)]
  case h_13 s d x => rw [h x (by simp)]
  case h_14 t l c => rw [h l (by simp), h c (by simp)]
  case h_15 t x lo hi mx => rw [h x (by simp), opt_same lo (fun y hy => h y (by simp at hy ⊢; simp [hy])), opt_same hi (fun y hy => h y (by simp at hy ⊢; simp [hy])), opt_same mx (fun y hy => h y (by simp at hy ⊢; simp [hy]))]
  case h_16 s x f => rw [h x (by simp)]
  case h_17 t x f => rw [h x (by simp)]
  case h_18 t x i => rw [h x (by simp), h i (by simp)]
  case h_19 t x i => rw [h x (by simp), h i (by simp)]
  case h_20 x i => rw [h x (by simp)]
  case h_21 c =>
    have hargs : ∀ x ∈ c.args.toList, ∀ ty, evO T G tm' ty x = evO T G tm ty x := fun x hx => h x (by unfold Call.operands; simp at hx; simp [hx])
    rw [evL_same _ _ hargs]
    split
    · rfl
    · rename_i f hf
      have := h f (by unfold Call.operands; rw [hf]; simp)
      rw [this]
    · rfl
  case h_22 => rfl

/-- Whatever others that write in 'wr' alone have done: it comes to v. -/
def Quiet (T : Tab) (G : Glob) (D : Spec) (wr : List Nat) (tm : List AV) (o : Oper) (m : Mem) (v : AV) : Prop := ∀ m', (memOp o = true → Agree wr m m') → ∀ K : KK, K v m' → opW T G D tm o m' K

theorem readA_ex {agg : Bool} {s : Nat} {cs : List AV} {K : AV → Prop} (h : readA agg s cs K) : ∃ v, K v ∧ ∀ K' : AV → Prop, K' v → readA agg s cs K' := by
  unfold readA at h ⊢
  split at h
  · rename_i ha; exact ⟨_, h.2, fun K' hk => by rw [if_pos ha]; exact ⟨h.1, hk⟩⟩
  · rename_i ha
    cases cs with
    | nil => exact h.elim
    | cons x r => exact ⟨x, h, fun K' hk => by rw [if_neg ha]; exact hk⟩
theorem sBin_ex {op : BinOp} {a b : Value} {K : Value → Prop} (h : sBin op a b K) : ∃ v, K v ∧ ∀ K' : Value → Prop, K' v → sBin op a b K' := by
  cases a <;> cases b <;> simp only [sBin] at h ⊢ <;> try exact h.elim
  case int.int k x k' y =>
    cases op <;> simp only at h ⊢ <;> first
      | exact ⟨_, h.2.2, fun K' hk => ⟨h.1, h.2.1, hk⟩⟩
      | exact ⟨_, h.2, fun K' hk => ⟨h.1, hk⟩⟩
  case string.string x y =>
    cases op <;> simp only at h ⊢ <;> first
      | exact h.elim
      | exact ⟨_, h.2, fun K' hk => ⟨h.1, hk⟩⟩
      | exact ⟨_, h, fun K' hk => hk⟩
theorem bnd_ex {d : Int} {x : Option AV} {K : Int → Prop} (h : bnd d x K) : ∃ n, K n ∧ ∀ K' : Int → Prop, K' n → bnd d x K' := by
  unfold bnd at h ⊢
  split at h
  · exact ⟨_, h, fun K' hk => hk⟩
  · exact ⟨_, h, fun K' hk => hk⟩
  · exact h.elim

theorem binW_ex {op : BinOp} {k : TK} {m : Mem} {x y : AV} {K : AV → Prop} (h : binW op k m x y fun v _ => K v) : ∃ v, K v ∧ ∀ (m' : Mem) (K' : KK), K' v m' → binW op k m' x y K' := by
  unfold binW at h
  split at h
  · split at h
    · exact ⟨_, h, fun m' K' h => h⟩
    · exact ⟨_, h, fun m' K' h => h⟩
    · exact h.elim
  · obtain ⟨v, h1, h2⟩ := sBin_ex h
    exact ⟨_, h1, fun m' K' h => h2 (fun r => K' (.c (.v r)) m') h⟩
  · obtain ⟨v, h1, h2⟩ := sBin_ex h
    exact ⟨_, h1, fun m' K' h => h2 (fun r => K' (.c (.v r)) m') h⟩
  · split at h
    · rename_i n1 n2
      refine ⟨_, h.2, fun m' K' hk => ?_⟩
      unfold binW
      split
      · simp [isNil] at n1
      · simp [isNil] at n1
      · simp [isNil] at n1
      · rw [n1, n2]; exact ⟨h.1, hk⟩
    · rename_i n1 n2
      refine ⟨_, h.2, fun m' K' hk => ?_⟩
      unfold binW
      split
      · simp [isNil] at n1
      · simp [isNil] at n1
      · simp [isNil] at n1
      · rw [n1, n2]; exact ⟨h.1, hk⟩
    · exact h.elim

theorem loadW_ex {agg : Bool} {s : Nat} {m : Mem} {x : AV} {K : AV → Prop} (hx : (∃ y, x = .c y) ∨ ∃ id ver o, x = .p id ver o ∧ id ∉ wr) (h : loadW agg s m x fun v _ => K v) :
    ∃ v, K v ∧ ∀ m', Agree wr m m' → ∀ K' : KK, K' v m' → loadW agg s m' x K' := by
  rcases hx with ⟨y, rfl⟩ | ⟨id, ver, o, rfl, hi⟩
  · cases y with
    | rp cs =>
      obtain ⟨v, h1, h2⟩ := readA_ex h
      exact ⟨v, h1, fun m' _ K' hk => h2 (fun y => K' y m') hk⟩
    | _ => exact h.elim
  · simp only [loadW] at h ⊢
    split at h
    · rename_i v cs hg
      obtain ⟨v', h1, h2⟩ := readA_ex h.2
      exact ⟨v', h1, fun m' ha K' hk => by rw [ha.blk hi hg]; exact ⟨h.1, h2 (fun y => K' y m') hk⟩⟩
    · exact h.elim

theorem indexAddrW_ex {k : TK} {m : Mem} {x i : AV} {K : AV → Prop} (hx : (∀ id ver n, x ≠ .t id ver n) ∨ ∃ id ver n, x = .t id ver n ∧ id ∉ wr) (h : indexAddrW k m x i fun v _ => K v) :
    ∃ v, K v ∧ ∀ m', Agree wr m m' → ∀ K' : KK, K' v m' → indexAddrW k m' x i K' := by
  unfold indexAddrW at h
  split at h
  · split at h
    · exact ⟨_, h.2.2.2, fun m' _ K' hk => ⟨h.1, h.2.1, h.2.2.1, hk⟩⟩
    · exact ⟨_, h.2.2.2, fun m' _ K' hk => ⟨h.1, h.2.1, h.2.2.1, hk⟩⟩
    · exact ⟨_, h.2.2.2, fun m' _ K' hk => ⟨h.1, h.2.1, h.2.2.1, hk⟩⟩
    · rename_i id ver n
      have hi : id ∉ wr := by
        rcases hx with hx | ⟨id', ver', n', e, hi⟩
        · exact absurd rfl (hx _ _ _)
        · injection e with e1; subst e1; exact hi
      split at h
      · rename_i hg
        refine ⟨_, h.2.2.2.2.2, fun m' ha K' hk => ?_⟩
        obtain ⟨pub', hg'⟩ := ha.arr hi hg
        simp only [indexAddrW, hg']
        exact ⟨h.1, h.2.1, h.2.2.1, h.2.2.2.1, h.2.2.2.2.1, hk⟩
      · exact h.elim
    · exact h.elim
  · exact h.elim

theorem indexW_ex {k : TK} {m : Mem} {x i : AV} {K : AV → Prop} (h : indexW k m x i fun v _ => K v) : ∃ v, K v ∧ ∀ (m' : Mem) (K' : KK), K' v m' → indexW k m' x i K' := by
  unfold indexW at h
  split at h
  · split at h
    · exact ⟨_, h.2.2, fun m' K' hk => ⟨h.1, h.2.1, hk⟩⟩
    · obtain ⟨v, h1, h2⟩ := readA_ex h.2.2
      exact ⟨v, h1, fun m' K' hk => ⟨h.1, h.2.1, h2 (fun y => K' y m') hk⟩⟩
    · exact h.elim
  · exact h.elim

theorem viewS_ex {esz : Nat} {m : Mem} {x : AV} {F : List (List CV) → Prop} (hx : (∃ y, x = .c y) ∨ ∃ id ver n, x = .t id ver n ∧ id ∉ wr) (h : viewS esz m x F) : ∃ es, F es ∧ ∀ m', Agree wr m m' → ∀ F', F' es → viewS esz m' x F' := by
  rcases hx with ⟨y, rfl⟩ | ⟨id, ver, n, rfl, hi⟩
  · cases y with
    | sl sz es sp => exact ⟨_, h.2, fun m' _ F' hf => ⟨h.1, hf⟩⟩
    | _ => exact h.elim
  · simp only [viewS] at h ⊢
    split at h
    · rename_i hg
      refine ⟨_, h.2.2.2, fun m' ha F' hf => ?_⟩
      obtain ⟨pub', hg'⟩ := ha.arr hi hg
      rw [hg']; exact ⟨h.1, h.2.1, h.2.2.1, hf⟩
    · exact h.elim

theorem convW_exI {src : TK} {k : IntKind} {site : Nat} {m : Mem} {x : AV} {K : AV → Prop} (h : convW src (.int k) site m x fun v _ => K v) : ∃ v, K v ∧ ∀ (m' : Mem) (site' : Nat) (K' : KK), K' v m' → convW src (.int k) site' m' x K' := by
  cases src with
  | int k0 =>
    cases x with
    | c y => cases y with
      | v u => cases u with
        | int k1 n => exact ⟨_, h, fun m' site' K' hk => hk⟩
        | _ => exact h.elim
      | _ => exact h.elim
    | _ => exact h.elim
  | sl a b c d =>
    exfalso
    unfold convW at h
    split at h <;> simp_all
  | _ => exact h.elim
theorem convW_exS {src : TK} {site : Nat} {m : Mem} {x : AV} {K : AV → Prop} (hx : (∃ y, x = .c y) ∨ ∃ id ver n, x = .t id ver n ∧ id ∉ wr) (h : convW src .str site m x fun v _ => K v) :
    ∃ v, K v ∧ ∀ m', Agree wr m m' → ∀ (site' : Nat) (K' : KK), K' v m' → convW src .str site' m' x K' := by
  cases src with
  | str =>
    cases x with
    | c y => cases y with
      | v u => cases u with
        | string st => exact ⟨_, h, fun m' _ site' K' hk => hk⟩
        | _ => exact h.elim
      | _ => exact h.elim
    | _ => exact h.elim
  | sl a b c d =>
    by_cases hs : a = 1 ∧ b = false ∧ c = 1 ∧ d = true
    · obtain ⟨rfl, rfl, rfl, rfl⟩ := hs
      have h' : viewS 1 m x fun es => match bytesOf es with | some b => K (.c (.v (.string ⟨b.toArray⟩))) | none => False := h
      obtain ⟨es, h1, h2⟩ := viewS_ex (wr := wr) hx h'
      split at h1
      · rename_i b hb
        exact ⟨_, h1, fun m' ha site' K' hk => h2 m' ha (fun es => match bytesOf es with | some b => K' (.c (.v (.string ⟨b.toArray⟩))) m' | none => False) (by simp only [hb]; exact hk)⟩
      · exact h1.elim
    · exfalso
      unfold convW at h
      split at h <;> simp_all
  | _ => exact h.elim
theorem sliceW_exC {k : TK} {m : Mem} {y : CV} {lo hi mx : Option AV} {K : AV → Prop} (h : sliceW k m (.c y) lo hi mx fun v _ => K v) : ∃ v, K v ∧ ∀ (m' : Mem) (K' : KK), K' v m' → sliceW k m' (.c y) lo hi mx K' := by
  unfold sliceW at h
  split at h
  · rename_i s he
    injection he with he; subst he
    obtain ⟨hm, h⟩ := h
    obtain ⟨l, h, r1⟩ := bnd_ex h
    obtain ⟨hh, h, r2⟩ := bnd_ex h
    exact ⟨_, h.2.2.2, fun m' K' hk => ⟨hm, r1 _ (r2 _ ⟨h.1, h.2.1, h.2.2.1, hk⟩)⟩⟩
  · rename_i esz ea eb u8 sz es sp he
    injection he with he; subst he
    obtain ⟨hsz, h⟩ := h
    obtain ⟨l, h, r1⟩ := bnd_ex h
    obtain ⟨hh, h, r2⟩ := bnd_ex h
    cases mx with
    | none =>
      obtain ⟨h1, h2, h⟩ := h
      cases sp with
      | none => exact ⟨_, h.2, fun m' K' hk => ⟨hsz, r1 _ (r2 _ ⟨h1, h2, h.1, hk⟩)⟩⟩
      | some sp => exact ⟨_, h.2, fun m' K' hk => ⟨hsz, r1 _ (r2 _ ⟨h1, h2, h.1, hk⟩)⟩⟩
    | some mx =>
      obtain ⟨h1, h⟩ := h
      obtain ⟨c, h, r3⟩ := bnd_ex h
      exact ⟨_, h.2.2.2.2, fun m' K' hk => ⟨hsz, r1 _ (r2 _ ⟨h1, r3 _ ⟨h.1, h.2.1, h.2.2.1, h.2.2.2.1, hk⟩⟩)⟩⟩
  · rename_i he; simp at he
  · exact h.elim
theorem sliceW_exT {k : TK} {m : Mem} {id ver n : Nat} (hi0 : id ∉ wr) {hi mx : Option AV} {K : AV → Prop} (h : sliceW k m (.t id ver n) none hi mx fun v _ => K v) :
    ∃ v, K v ∧ ∀ m', Agree wr m m' → ∀ K' : KK, K' v m' → sliceW k m' (.t id ver n) none hi mx K' := by
  cases k with
  | sl esz ea eb u8 =>
    simp only [sliceW] at h ⊢
    split at h
    · rename_i hg
      obtain ⟨h1, h2, h3, h4, h⟩ := h
      obtain ⟨hh, h, r2⟩ := bnd_ex h
      refine ⟨_, h.2.2, fun m' ha K' hk => ?_⟩
      obtain ⟨pub', hg'⟩ := ha.arr hi0 hg
      rw [hg']; exact ⟨h1, h2, h3, h4, r2 _ ⟨h.1, h.2.1, hk⟩⟩
    · exact h.elim
  | _ => simp [sliceW] at h
theorem builtinW_ex {T : Tab} {m : Mem} {b : Builtin} (hb : b = .len ∨ b = .min ∨ b = .max) {tys : List TypeId} {xs : List AV} {K : AV → Prop} {site : Nat} (h : builtinW T site m b tys xs fun v _ => K v) :
    ∃ v, K v ∧ ∀ (m' : Mem) (site' : Nat) (K' : KK), K' v m' → builtinW T site' m' b tys xs K' := by
  have mm : ∀ mx, minmaxW mx m xs (fun v _ => K v) → ∃ v, K v ∧ ∀ (m' : Mem) (K' : KK), K' v m' → minmaxW mx m' xs K' := fun mx h => by
    unfold minmaxW at h
    split at h
    · exact ⟨_, h.2, fun m' K' hk => ⟨h.1, hk⟩⟩
    · exact h.elim
  rcases hb with rfl | rfl | rfl
  · rcases xs with _ | ⟨x, _ | ⟨y, r⟩⟩
    · exact h.elim
    · rcases tys with _ | ⟨t, _ | ⟨t2, q⟩⟩
      · exact h.elim
      · simp only [builtinW] at h ⊢
        unfold lenW at h
        split at h
        · rename_i hk2; exact ⟨_, h, fun m' site' K' hk => by simp only [lenW, hk2]; exact hk⟩
        · rename_i hk2; exact ⟨_, h, fun m' site' K' hk => by simp only [lenW, hk2]; exact hk⟩
        · rename_i hk2; exact ⟨_, h, fun m' site' K' hk => by simp only [lenW, hk2]; exact hk⟩
        · rename_i hk2; exact ⟨_, h, fun m' site' K' hk => by simp only [lenW, hk2]; exact hk⟩
        · exact h.elim
      · exact h.elim
    · exact h.elim
  · have h' : minmaxW false m xs (fun v _ => K v) := by
      unfold builtinW at h; exact h
    obtain ⟨v, h1, h2⟩ := mm false h'
    exact ⟨v, h1, fun m' site' K' hk => by unfold builtinW; exact h2 m' K' hk⟩
  · have h' : minmaxW true m xs (fun v _ => K v) := by
      unfold builtinW at h; exact h
    obtain ⟨v, h1, h2⟩ := mm true h'
    exact ⟨v, h1, fun m' site' K' hk => by unfold builtinW; exact h2 m' K' hk⟩

theorem hoist_quiet {tm : List AV} {o : Oper} {m : Mem} {K : AV → Prop} (hk : hoistW T G wr tm o m K) : ∃ v, K v ∧ Quiet T G D wr tm o m v := by
  unfold hoistW at hk
  unfold Quiet opW
  dsimp only at hk ⊢
  split at hk <;> rename_i ho
  case h_1 x => exact ⟨_, hk, fun m' _ K' h => by rw [ho]; exact h⟩
  case h_2 x => exact ⟨_, hk, fun m' _ K' h => by rw [ho]; exact h⟩
  case h_3 c a b =>
    unfold condB at hk
    split at hk
    · rename_i bb hb
      cases bb with
      | true => exact ⟨_, hk.1 rfl, fun m' _ K' h => by rw [ho]; unfold condB; simp only [hb]; exact ⟨fun _ => h, fun q => by simp at q⟩⟩
      | false => exact ⟨_, hk.2 rfl, fun m' _ K' h => by rw [ho]; unfold condB; simp only [hb]; exact ⟨fun q => by simp at q, fun _ => h⟩⟩
    · exact hk.elim
  case h_4 x =>
    unfold nilCheckW at hk
    split at hk
    · rename_i he; exact ⟨_, hk, fun m' _ K' h => by rw [ho]; unfold nilCheckW; simp only [he]; exact h⟩
    · rename_i he; exact ⟨_, hk, fun m' _ K' h => by rw [ho]; unfold nilCheckW; simp only [he]; exact h⟩
    · rename_i he; exact ⟨_, hk, fun m' _ K' h => by rw [ho]; unfold nilCheckW; simp only [he]; exact h⟩
    · rename_i he; exact ⟨_, hk.2, fun m' _ K' h => by rw [ho]; unfold nilCheckW; simp only [he]; exact ⟨hk.1, h⟩⟩
    · exact hk.elim
  case h_5 s x f =>
    split at hk
    · rename_i fs hfs
      split at hk
      · rename_i off n ea hf
        unfold fieldAddrW at hk
        split at hk
        · rename_i he; exact ⟨_, hk, fun m' _ K' h => by rw [ho]; simp only [hfs, hf]; unfold fieldAddrW; simp only [he]; exact h⟩
        · rename_i he; exact ⟨_, hk, fun m' _ K' h => by rw [ho]; simp only [hfs, hf]; unfold fieldAddrW; simp only [he]; exact h⟩
        · rename_i he; exact ⟨_, hk, fun m' _ K' h => by rw [ho]; simp only [hfs, hf]; unfold fieldAddrW; simp only [he]; exact h⟩
        · exact hk.elim
      · exact hk.elim
      · exact hk.elim
    · exact hk.elim
  case h_6 t x f =>
    split at hk
    · rename_i fs hfs
      split at hk
      · rename_i fd hf
        unfold fieldW at hk
        split at hk
        · rename_i cs he
          obtain ⟨v, h1, h2⟩ := readA_ex hk
          exact ⟨v, h1, fun m' _ K' h => by rw [ho]; simp only [hfs, hf]; unfold fieldW; simp only [he]; exact h2 (fun y => K' y m') h⟩
        · exact hk.elim
      · exact hk.elim
    · exact hk.elim
  case h_7 x i =>
    unfold extractW at hk
    split at hk
    · rename_i cs he
      split at hk
      · rename_i y hy; exact ⟨y, hk, fun m' _ K' h => by rw [ho]; unfold extractW; simp only [he, hy]; exact h⟩
      · exact hk.elim
    · exact hk.elim
  case h_8 op t x y _ =>
    split at hk
    · rename_i p hp
      unfold eqW at hk
      split at hk
      · rename_i q1 q2
        split at hk
        · rename_i q3; exact ⟨_, hk, fun m' _ K' h => by rw [ho]; unfold eqW; simp only [hp, q1, q2, q3]; exact h⟩
        · rename_i q3; exact ⟨_, hk, fun m' _ K' h => by rw [ho]; unfold eqW; simp only [hp, q1, q2, q3]; exact h⟩
        · exact hk.elim
      · exact hk.elim
    · rename_i hp
      obtain ⟨v, h1, h2⟩ := binW_ex hk
      exact ⟨v, h1, fun m' _ K' h => by rw [ho]; simp only [hp]; exact h2 m' K' h⟩
  case h_9 op _ x =>
    unfold unW at hk
    split at hk
    · rename_i he; exact ⟨_, hk, fun m' _ K' h => by rw [ho]; unfold unW; simp only [he]; exact h⟩
    · rename_i he; exact ⟨_, hk, fun m' _ K' h => by rw [ho]; unfold unW; simp only [he]; exact h⟩
    · rename_i he; exact ⟨_, hk, fun m' _ K' h => by rw [ho]; unfold unW; simp only [he]; exact h⟩
    · exact hk.elim
  case h_10 t x =>
    split at hk
    · exact hk.elim
    · rename_i n hn
      split at hk
      · rename_i id ver q he
        obtain ⟨v, h1, h2⟩ := loadW_ex (wr := wr) (.inr ⟨_, _, _, rfl, hk.1⟩) hk.2
        exact ⟨v, h1, fun m' ha K' h => by have ha := ha (by simp [memOp, ho]); rw [ho]; simp only [hn, he]; exact h2 m' ha K' h⟩
      · rename_i y he
        obtain ⟨v, h1, h2⟩ := loadW_ex (wr := wr) (.inl ⟨_, rfl⟩) hk
        exact ⟨v, h1, fun m' ha K' h => by have ha := ha (by simp [memOp, ho]); rw [ho]; simp only [hn, he]; exact h2 m' ha K' h⟩
      · exact hk.elim
  case h_11 t x i =>
    split at hk
    · rename_i id ver n he
      obtain ⟨v, h1, h2⟩ := indexAddrW_ex (wr := wr) (.inr ⟨_, _, _, rfl, hk.1⟩) hk.2
      exact ⟨v, h1, fun m' ha K' h => by have ha := ha (by simp [memOp, ho]); rw [ho]; simp only [he]; exact h2 m' ha K' h⟩
    · rename_i hne
      obtain ⟨v, h1, h2⟩ := indexAddrW_ex (wr := wr) (.inl (fun id ver n e => hne id ver n e)) hk
      exact ⟨v, h1, fun m' ha K' h => by have ha := ha (by simp [memOp, ho]); rw [ho]; exact h2 m' ha K' h⟩
  case h_12 t x i =>
    obtain ⟨v, h1, h2⟩ := indexW_ex hk
    exact ⟨v, h1, fun m' _ K' h => by rw [ho]; exact h2 m' K' h⟩
  case h_13 s d x =>
    split at hk
    · rename_i k y hd he
      obtain ⟨v, h1, h2⟩ := convW_exI hk
      exact ⟨v, h1, fun m' _ K' h => by rw [ho]; simp only [hd, he]; exact h2 m' _ K' h⟩
    · rename_i y hd he
      obtain ⟨v, h1, h2⟩ := convW_exS (wr := wr) (.inl ⟨_, rfl⟩) hk
      exact ⟨v, h1, fun m' ha K' h => by have ha := ha (by simp [memOp, ho]); rw [ho]; simp only [hd, he]; exact h2 m' ha _ K' h⟩
    · rename_i id ver n hd he
      obtain ⟨v, h1, h2⟩ := convW_exS (wr := wr) (.inr ⟨_, _, _, rfl, hk.1⟩) hk.2
      exact ⟨v, h1, fun m' ha K' h => by have ha := ha (by simp [memOp, ho]); rw [ho]; simp only [hd, he]; exact h2 m' ha _ K' h⟩
    · exact hk.elim
  case h_14 t x lo hi mx =>
    split at hk
    · rename_i y he
      obtain ⟨v, h1, h2⟩ := sliceW_exC hk
      exact ⟨v, h1, fun m' _ K' h => by rw [ho]; simp only [he]; exact h2 m' K' h⟩
    · rename_i id ver n he
      obtain ⟨rfl, hi0, hk⟩ := hk
      obtain ⟨v, h1, h2⟩ := sliceW_exT hi0 hk
      exact ⟨v, h1, fun m' ha K' h => by have ha := ha (by simp [memOp, ho]); rw [ho]; simp only [he, Option.map_none]; exact h2 m' ha K' h⟩
    · exact hk.elim
  case h_15 c =>
    split at hk
    · rename_i hb
      obtain ⟨v, h1, h2⟩ := builtinW_ex (.inl rfl) hk
      exact ⟨v, h1, fun m' _ K' h => by rw [ho]; simp only [hb]; exact h2 m' _ K' h⟩
    · rename_i hb
      obtain ⟨v, h1, h2⟩ := builtinW_ex (.inr (.inl rfl)) hk
      exact ⟨v, h1, fun m' _ K' h => by rw [ho]; simp only [hb]; exact h2 m' _ K' h⟩
    · rename_i hb
      obtain ⟨v, h1, h2⟩ := builtinW_ex (.inr (.inr rfl)) hk
      exact ⟨v, h1, fun m' _ K' h => by rw [ho]; simp only [hb]; exact h2 m' _ K' h⟩
    · exact hk.elim
  case h_16 t ps =>
    split at hk
    · rename_i fs hfs
      unfold buildW at hk
      split at hk
      · rename_i cs hc; exact ⟨_, hk, fun m' _ K' h => by rw [ho]; simp only [hfs]; unfold buildW; simp only [hc]; exact h⟩
      · exact hk.elim
    · rename_i n esz ea hfs
      unfold buildW at hk
      split at hk
      · rename_i cs hc; exact ⟨_, hk, fun m' _ K' h => by rw [ho]; simp only [hfs]; unfold buildW; simp only [hc]; exact h⟩
      · exact hk.elim
    · exact hk.elim
  case h_17 => exact hk.elim

theorem guardW_mono {all : List Oper} {tm : List AV} {g : Option (Nat × Bool)} {A A' B B' : Prop} (hA : A → A') (hB : B → B') (h : guardW all tm g A B) : guardW all tm g A' B' := by
  unfold guardW at h ⊢
  split at h
  · exact hA h
  · rename_i j want
    split at h
    · rename_i d hd
      generalize tm.getD d .dead = q at h ⊢
      cases hq : isSkip q with
      | true => rw [hq] at h; exact hB h
      | false =>
        rw [hq] at h
        dsimp only at h ⊢
        unfold condB at h ⊢
        split at h
        · cases want
          · exact ⟨fun e => hB (h.1 e), fun e => hA (h.2 e)⟩
          · exact ⟨fun e => hA (h.1 e), fun e => hB (h.2 e)⟩
        · exact h.elim
    · exact h.elim

def stepA (T : Tab) (G : Glob) (D : Spec) (wr : List Nat) (all : List Oper) (o : Oper) (tm : List AV) (m : Mem) (F : List AV → Mem → Prop) : Prop :=
  guardW all tm o.guard (∃ R : KK, opW T G D tm o m R ∧ ∀ v m', R v m' → (isLast all o = true ∨ Agree wr m m') ∧ F (setO tm o.dst v) m') (F (setO tm o.dst skipA) m)
def anyA (T : Tab) (G : Glob) (D : Spec) (wr : List Nat) (ops : Array Oper) (K : List AV → Mem → Prop) : Nat → Array Bool → List AV → Mem → Prop
  | 0, listed, tm, m => Region.ready .any ops listed = [] ∧ K tm m
  | n + 1, listed, tm, m => (Region.ready .any ops listed = [] → K tm m) ∧ ∀ i ∈ Region.ready .any ops listed, ∀ o, ops[i]? = some o → stepA T G D wr ops.toList o tm m (anyA T G D wr ops K n (listed.setIfInBounds i true))

theorem stepA_mono {all : List Oper} {o : Oper} {tm : List AV} {m : Mem} {F F' : List AV → Mem → Prop} (hF : ∀ tm m, F tm m → F' tm m) (h : stepA T G D wr all o tm m F) : stepA T G D wr all o tm m F' :=
  guardW_mono (fun ⟨R, h1, h2⟩ => ⟨R, h1, fun v m' hr => ⟨(h2 v m' hr).1, hF _ _ (h2 v m' hr).2⟩⟩) (hF _ _) h

theorem setO_comm {d e : Option Tmp} (h : ∀ x, d = some x → e ≠ some x) (tm : List AV) (v u : AV) : setO (setO tm d v) e u = setO (setO tm e u) d v := by
  cases d with
  | none => rfl
  | some x => cases e with
    | none => rfl
    | some y => exact List.set_comm _ _ (fun q => h x rfl (by rw [q]))
theorem getD_setO {d : Option Tmp} {t : Nat} (h : ∀ x, d = some x → x ≠ t) (tm : List AV) (v : AV) : (setO tm d v).getD t .dead = tm.getD t .dead := by
  cases d with
  | none => rfl
  | some x => simp only [setO, List.getD, List.getElem?_set_ne (h x rfl)]

theorem evSame_of {ops : Array Oper} {tm tm' : List AV} {o : Oper} (h : ∀ t ∈ o.looksAt ops, tm'.getD t .dead = tm.getD t .dead) : EvSame T G tm tm' o := fun x hx ty => by
  cases x with
  | tmp t => exact h t (by unfold Oper.looksAt; refine List.mem_append_left _ (List.mem_filterMap.2 ⟨.tmp t, by simpa using hx, rfl⟩))
  | _ => rfl
theorem guard_same {ops : Array Oper} {tm tm' : List AV} {o : Oper} (h : ∀ t ∈ o.looksAt ops, tm'.getD t .dead = tm.getD t .dead) (A B : Prop) : guardW ops.toList tm' o.guard A B = guardW ops.toList tm o.guard A B := by
  unfold guardW
  split
  · rfl
  · rename_i j want hg
    split
    · rename_i d hd
      rw [h d (by
        unfold Oper.looksAt
        refine List.mem_append_right _ ?_
        rw [hg]
        have : (ops[j]?).bind (·.dst) = some d := by rw [← Array.getElem?_toList]; exact hd
        simp [this])]
    · rfl

/-- An operation that may come first: whatever the others have done. -/
def QS (T : Tab) (G : Glob) (D : Spec) (wr : List Nat) (ops : Array Oper) (o : Oper) (v : AV) (tm : List AV) (m : Mem) : Prop :=
  ∀ tm' m', (∀ t ∈ o.looksAt ops, tm'.getD t .dead = tm.getD t .dead) → (memOp o = true → Agree wr m m') → ∀ F : List AV → Mem → Prop, F (setO tm' o.dst v) m' → stepA T G D wr ops.toList o tm' m' F

theorem qs_of {ops : Array Oper} {o : Oper} {tm : List AV} {m : Mem} {F : AV → Prop} (h : guardW ops.toList tm o.guard (hoistW T G wr tm o m F) (F skipA)) : ∃ v, F v ∧ QS T G D wr ops o v tm m := by
  have run : hoistW T G wr tm o m F → ∃ v, F v ∧ ∀ tm' m', (∀ t ∈ o.looksAt ops, tm'.getD t .dead = tm.getD t .dead) → (memOp o = true → Agree wr m m') → ∀ F' : List AV → Mem → Prop, F' (setO tm' o.dst v) m' →
      ∃ R : KK, opW T G D tm' o m' R ∧ ∀ v m'', R v m'' → (isLast ops.toList o = true ∨ Agree wr m' m'') ∧ F' (setO tm' o.dst v) m'' := fun hk => by
    obtain ⟨v, h1, h2⟩ := hoist_quiet (D := D) hk
    refine ⟨v, h1, fun tm' m' ht ha F' hf => ⟨fun v' m'' => v' = v ∧ m'' = m', ?_, ?_⟩⟩
    · rw [opW_congr o (evSame_of ht)]; exact h2 m' ha _ ⟨rfl, rfl⟩
    · rintro v' m'' ⟨rfl, rfl⟩; exact ⟨.inr (Agree.refl _ _), hf⟩
  unfold guardW at h
  split at h
  · rename_i hg
    obtain ⟨v, h1, h2⟩ := run h
    exact ⟨v, h1, fun tm' m' ht ha F' hf => by unfold stepA guardW; rw [hg]; exact h2 tm' m' ht ha F' hf⟩
  · rename_i j want hg
    split at h
    · rename_i d hd
      have hl : d ∈ o.looksAt ops := by
        unfold Oper.looksAt
        refine List.mem_append_right _ ?_
        rw [hg]
        have : (ops[j]?).bind (·.dst) = some d := by rw [← Array.getElem?_toList]; exact hd
        simp [this]
      cases hsk : isSkip (tm.getD d .dead) with
      | true =>
        rw [hsk] at h
        exact ⟨skipA, h, fun tm' m' ht ha F' hf => by unfold stepA guardW; rw [hg]; simp only [hd, ht d hl, hsk]; exact hf⟩
      | false =>
      rw [hsk] at h
      dsimp only at h
      unfold condB at h
      split at h
      · rename_i b hb
        have hit : ∀ {v : AV} {tm' : List AV} {m' : Mem} {F' : List AV → Mem → Prop}, (∀ t ∈ o.looksAt ops, tm'.getD t .dead = tm.getD t .dead) → (b = want → ∃ R : KK, opW T G D tm' o m' R ∧ ∀ v m'', R v m'' → (isLast ops.toList o = true ∨ Agree wr m' m'') ∧ F' (setO tm' o.dst v) m'') →
            (b ≠ want → F' (setO tm' o.dst skipA) m') → stepA T G D wr ops.toList o tm' m' F' := fun {v tm' m' F'} ht h1 h2 => by
          unfold stepA guardW condB
          rw [hg]
          simp only [hd, ht d hl, hb, isSkip]
          cases b <;> cases want <;> simp_all
        by_cases hbw : b = want
        · have hh : hoistW T G wr tm o m F := by
            subst hbw
            cases b
            · exact h.2 rfl
            · exact h.1 rfl
          obtain ⟨v, h1, h2⟩ := run hh
          exact ⟨v, h1, fun tm' m' ht ha F' hf => hit (v := v) ht (fun _ => h2 tm' m' ht ha F' hf) (fun q => absurd hbw q)⟩
        · have hh : F skipA := by
            cases b <;> cases want <;> first | exact absurd rfl hbw | exact h.1 rfl | exact h.2 rfl
          exact ⟨skipA, hh, fun tm' m' ht ha F' hf => hit (v := skipA) ht (fun q => absurd q hbw) (fun _ => hf)⟩
      · exact h.elim
    · exact h.elim

theorem stepA_put {ops : Array Oper} {oi oj : Oper} (hap : oi.apart ops oj = true) {v : AV} {tm : List AV} {m : Mem} {F : List AV → Mem → Prop} (h : stepA T G D wr ops.toList oj (setO tm oi.dst v) m F) :
    stepA T G D wr ops.toList oj tm m fun tm' m' => (isLast ops.toList oj = true ∨ Agree wr m m') ∧ (∀ t ∈ oi.looksAt ops, tm'.getD t .dead = tm.getD t .dead) ∧ F (setO tm' oi.dst v) m' := by
  obtain ⟨h1, h2, h3⟩ := Oper.apart_spec hap
  have hlook : ∀ t ∈ oj.looksAt ops, (setO tm oi.dst v).getD t .dead = tm.getD t .dead := fun t ht => getD_setO (fun x hx q => h1 x hx (by rw [q]; exact ht)) tm v
  have hlook2 : ∀ (u : AV), ∀ t ∈ oi.looksAt ops, (setO tm oj.dst u).getD t .dead = tm.getD t .dead := fun u t ht => getD_setO (fun x hx q => h3 x hx (by rw [q]; exact ht)) tm u
  unfold stepA at h ⊢
  rw [guard_same hlook] at h
  refine guardW_mono ?_ ?_ h
  · rintro ⟨R, g1, g2⟩
    rw [opW_congr oj (evSame_of hlook)] at g1
    refine ⟨R, g1, fun u m' hr => ?_⟩
    obtain ⟨g3, g4⟩ := g2 u m' hr
    exact ⟨g3, g3, hlook2 u, by rw [setO_comm (fun x hx q => h2 x hx q)] at g4; exact g4⟩
  · intro g
    exact ⟨.inr (Agree.refl _ _), hlook2 _, by rw [setO_comm (fun x hx q => h2 x hx q)] at g; exact g⟩

def ClosedL (ops : Array Oper) (listed : Array Bool) : Prop := ∀ (k : Nat) ok, ops[k]? = some ok → listed.getD k false = true → ∀ e ∈ ok.after, Region.binds .any e = true → listed.getD e.on false = true
theorem bef_listed {ops : Array Oper} {listed : Array Bool} (hc : ClosedL ops listed) {k : Nat} : ∀ (n : Nat) (o : Oper), (∀ e ∈ o.after, Region.binds .any e = true → listed.getD e.on false = true) → befW ops.toList n o k = true → listed.getD k false = true
  | 0, _, _, h => by simp [befW] at h
  | n + 1, o, hr, h => by
    simp only [befW, Array.any_eq_true'] at h
    obtain ⟨e, he, hb⟩ := h
    simp only [Bool.and_eq_true, Bool.or_eq_true, beq_iff_eq] at hb
    obtain ⟨hb, hb2⟩ := hb
    have hl := hr e he hb
    rcases hb2 with rfl | hb2
    · exact hl
    · split at hb2
      · rename_i p hp
        exact bef_listed hc n p (hc e.on p (by rw [← Array.getElem?_toList]; exact hp) hl) hb2
      · cases hb2
theorem getD_set_up {listed : Array Bool} {j k : Nat} (h : listed.getD k false = true) : (listed.setIfInBounds j true).getD k false = true := by
  by_cases hjk : j = k
  · subst hjk
    rw [Array.getD_eq_getD_getElem?] at h ⊢
    rcases Nat.lt_or_ge j listed.size with h' | h'
    · simp [h']
    · simp [Array.getElem?_eq_none h'] at h
  · rw [getD_set_ne false hjk]; exact h
theorem ClosedL.put {ops : Array Oper} {listed : Array Bool} (hc : ClosedL ops listed) {j : Nat} (hj : j ∈ Region.ready .any ops listed) : ClosedL ops (listed.setIfInBounds j true) := by
  intro k ok hk hl e he hb
  by_cases hjk : j = k
  · subst hjk
    obtain ⟨_, oj, hoj, hall⟩ := mem_ready.1 hj
    rw [hoj] at hk; injection hk with hk; subst hk
    exact getD_set_up (hall e he hb)
  · rw [getD_set_ne false hjk] at hl
    exact getD_set_up (hc k ok hk hl e he hb)
theorem ClosedL.none (ops : Array Oper) (n : Nat) : ClosedL ops (Array.replicate n false) := by
  intro k ok hk hl
  rw [Array.getD_eq_getD_getElem?, Array.getElem?_replicate] at hl
  split at hl <;> simp at hl
theorem isLast_no {ops : Array Oper} {listed : Array Bool} (hc : ClosedL ops listed) {i : Nat} {oi oj : Oper} (hi : ops[i]? = some oi) (hun : listed.getD i true = false) (hr : ∀ e ∈ oj.after, Region.binds .any e = true → listed.getD e.on false = true) (hm : memOp oi = true) (hl : isLast ops.toList oj = true) : False := by
  unfold isLast at hl
  rw [List.all_eq_true] at hl
  have hlt : i < ops.size := (Array.getElem?_eq_some_iff.1 hi).1
  have := hl i (List.mem_range.2 (by simpa using hlt))
  have hi' : ops.toList[i]? = some oi := by rw [Array.getElem?_toList]; exact hi
  rw [hi'] at this
  simp only [hm, Bool.not_true, Bool.false_or] at this
  have h1 := bef_listed hc _ _ hr this
  rw [Array.getD_eq_getD_getElem?] at h1 hun
  cases hg : listed[i]? with
  | none => rw [hg] at hun; simp at hun
  | some b => rw [hg] at h1 hun; simp at h1 hun; rw [h1] at hun; cases hun
theorem anyA_first {ops : Array Oper} {K : List AV → Mem → Prop} {i : Nat} {oi : Oper} {v : AV} (hi : ops[i]? = some oi) : ∀ (n : Nat) (listed : Array Bool) (tm : List AV) (m : Mem),
    (∀ j oj, ops[j]? = some oj → j ≠ i → listed.getD j true = false → (∀ e ∈ oj.after, Region.binds .any e = true → e.on ≠ i) → oi.apart ops oj = true) →
    ClosedL ops listed → i ∈ Region.ready .any ops listed → QS T G D wr ops oi v tm m → anyA T G D wr ops K n (listed.setIfInBounds i true) (setO tm oi.dst v) m → anyA T G D wr ops K (n + 1) listed tm m := by
  intro n
  induction n with
  | zero =>
    intro listed tm m _ hcl hr hq H
    refine ⟨fun h => (by rw [h] at hr; cases hr), fun j hj o ho => ?_⟩
    by_cases hji : j = i
    · subst hji; rw [hi] at ho; injection ho with ho; subst ho; exact hq tm m (fun _ _ => rfl) (fun _ => Agree.refl _ _) _ H
    · have := ready_mono hj hji
      rw [H.1] at this
      cases this
  | succ n ih =>
    intro listed tm m hfree hcl hr hq H
    refine ⟨fun h => (by rw [h] at hr; cases hr), fun j hj oj hoj => ?_⟩
    by_cases hji : j = i
    · subst hji; rw [hi] at hoj; injection hoj with hoj; subst hoj; exact hq tm m (fun _ _ => rfl) (fun _ => Agree.refl _ _) _ H
    · have h1 := H.2 j (ready_mono hj hji) oj hoj
      obtain ⟨hjun, oj', hoj', hall⟩ := mem_ready.1 hj
      rw [hoj] at hoj'; injection hoj' with hoj'; subst hoj'
      have hnot : ∀ e ∈ oj.after, Region.binds .any e = true → e.on ≠ i := fun e he hb heq => by
        have h1 := hall e he hb
        have h0 := (mem_ready.1 hr).1
        rw [heq] at h1
        rcases Nat.lt_or_ge i listed.size with h' | h'
        · simp [h'] at h0 h1; rw [h0] at h1; cases h1
        · simp [Array.getElem?_eq_none h'] at h1
      have h2 := stepA_put (hfree j oj hoj hji hjun hnot) h1
      have hfree' : ∀ k ok, ops[k]? = some ok → k ≠ i → (listed.setIfInBounds j true).getD k true = false →
          (∀ e ∈ ok.after, Region.binds .any e = true → e.on ≠ i) → oi.apart ops ok = true := fun k ok hk hki hun hno => by
        refine hfree k ok hk hki ?_ hno
        by_cases hjk : j = k
        · subst hjk; exact hjun
        · rw [getD_set_ne true hjk] at hun; exact hun
      refine stepA_mono (fun tm' m' h3 => ih (listed.setIfInBounds j true) tm' m' hfree' (hcl.put hj) (ready_mono hr (Ne.symm hji)) (fun tm'' m'' ht ha F hF => hq tm'' m'' (fun t h => (ht t h).trans (h3.2.1 t h)) (fun hmo => (h3.1.resolve_left (fun hl => isLast_no hcl hi (mem_ready.1 hr).1 hall hmo hl)).trans (ha hmo)) F hF) ?_) h2
      rw [Array.setIfInBounds_comm _ _ hji]
      exact h3.2.2

theorem Agree.wider {a b : List Nat} (h : ∀ x ∈ b, x ∈ a) {m m' : Mem} (g : Agree b m m') : Agree a m m' := ⟨g.1, fun id ob hi hg => g.2 id ob (fun q => hi (h id q)) hg⟩
theorem anyA_wr {a b : List Nat} (h : ∀ x ∈ b, x ∈ a) {ops : Array Oper} {K : List AV → Mem → Prop} : ∀ (n : Nat) (listed : Array Bool) (tm : List AV) (m : Mem), anyA T G D b ops K n listed tm m → anyA T G D a ops K n listed tm m
  | 0, _, _, _, H => H
  | n + 1, listed, tm, m, H => ⟨H.1, fun i hi o ho => guardW_mono (fun ⟨R, h1, h2⟩ => ⟨R, h1, fun v m' hr => ⟨(h2 v m' hr).1.imp (fun q => q) (Agree.wider h), anyA_wr h n _ _ _ (h2 v m' hr).2⟩⟩) (fun g => anyA_wr h n _ _ _ g) (H.2 i hi o ho)⟩
theorem dnW_sub (wr : List (List Nat)) : ∀ x ∈ (dnW wr).headD [], x ∈ wr.headD [] := by
  intro x hx
  match wr, hx with
  | [], hx => exact hx
  | [a], hx => exact hx
  | a :: b :: r, hx =>
    simp only [dnW] at hx
    split at hx
    · rename_i hb
      rw [List.all_eq_true] at hb
      have := hb x hx
      simpa using this
    · exact hx
theorem planW_any {wr : List (List Nat)} {ops : Array Oper} {K : List AV → Mem → Prop} : ∀ (n : Nat) (listed : Array Bool) (ord : List (Nat × Bool)) (tm : List AV) (m : Mem), plan T ops n listed = some ord → ClosedL ops listed → planW T G D wr ops.toList ord tm m K → anyA T G D (wr.headD []) ops K n listed tm m
  | 0, listed, ord, tm, m, hp, hcl, hk => by
    simp only [plan] at hp
    split at hp
    · rename_i he; injection hp with hp; subst hp
      exact ⟨by simpa using he, hk⟩
    · simp at hp
  | n + 1, listed, ord, tm, m, hp, hcl, hk => by
    simp only [plan] at hp
    split at hp
    · rename_i i hf
      have hmem := List.mem_of_find?_eq_some hf
      have hpr := List.find?_some hf
      simp only [Bool.and_eq_true] at hpr
      obtain ⟨ord', hp', rfl⟩ := Option.map_eq_some_iff.1 hp
      have hoi : ∃ o, ops[i]? = some o := by obtain ⟨_, o, ho, _⟩ := mem_ready.1 hmem; exact ⟨o, ho⟩
      obtain ⟨o, ho⟩ := hoi
      have ho' : ops.toList[i]? = some o := by rw [Array.getElem?_toList]; exact ho
      simp only [planW, ho', if_true] at hk
      obtain ⟨v, h1, h2⟩ := qs_of (D := D) (F := fun v => planW T G D wr ops.toList ord' (setO tm o.dst v) m K) hk
      exact anyA_first ho n listed tm m (Region.free_spec ho hpr.2) hcl hmem h2 (planW_any n _ ord' _ m hp' (hcl.put hmem) h1)
    · split at hp
      · rename_i hrs; injection hp with hp; subst hp
        exact ⟨fun _ => hk, fun i hi => by rw [hrs] at hi; simp at hi⟩
      · rename_i i hrs
        obtain ⟨ord', hp', rfl⟩ := Option.map_eq_some_iff.1 hp
        refine ⟨fun h => by rw [h] at hrs; simp at hrs, fun j hj o ho => ?_⟩
        rw [hrs] at hj
        have : j = i := by simpa using hj
        subst this
        have ho' : ops.toList[j]? = some o := by rw [Array.getElem?_toList]; exact ho
        simp only [planW, ho', Bool.false_eq_true, if_false] at hk
        exact guardW_mono (fun h => ⟨_, h, fun v m' hr => ⟨hr.1, anyA_wr (dnW_sub wr) n _ _ m' (planW_any n _ ord' _ m' hp' (hcl.put (by rw [hrs]; simp)) hr.2)⟩⟩) (fun h => anyA_wr (dnW_sub wr) n _ _ m (planW_any n _ ord' _ m hp' (hcl.put (by rw [hrs]; simp)) h)) hk
      · simp at hp
end
end Go.Proofs.Ythncmjlcmlmnmaa.V

namespace Go.Proofs.Ythncmjlcmlmnmaa.V
open Go Go.RowKit
section
variable {P : Program} {T : Tab} {X : Ctx} {pins : List (AV × Value)}

/-- A frame that the abstract one tells of. -/
def At (X : Ctx) (pins : List (AV × Value)) (tm : List AV) (m : Mem) (a : Act) (w : World) : Prop := ∃ S pl, St X S pl w m ∧ TmR S pl w m tm a ∧ ∀ p ∈ pins, RelV S pl w m p.1 p.2

theorem wpOps_cons' {ops : Array Oper} {Q : Exit → Act → World → Prop} {i : Nat} {rest : List Nat} {a : Act} {w : World} {o : Oper} (ho : ops[i]? = some o) :
    wpOps P ops Q (i :: rest) a w = if Region.wanted o (yielded ops a.tmps) then o.wp P a w (wpOps P ops Q rest) Q ∨ (o.asks P a w ∧ LetsOut Q) else wpOps P ops Q rest (a.put o.dst undef) w := by
  simp only [wpOps, ho]

theorem Oper.wp_mono' {o : Oper} {a : Act} {w : World} {K K' : Act → World → Prop} {Q : Exit → Act → World → Prop} (h : ∀ a w, K a w → K' a w) (hk : o.wp P a w K Q) : o.wp P a w K' Q := by
  unfold Oper.wp at hk ⊢
  cases hr : (execOp a.eval o).run P w with
  | halt x w' => rw [hr] at hk; cases x <;> exact hk
  | ok n w' =>
    rw [hr] at hk
    cases n <;> first
      | exact h _ _ hk
      | exact hk.elim
      | (refine Calls.mono hk ?_; intro e w'' he; cases e <;> first | exact h _ _ he | exact he)
      | (refine Rows.mono hk ?_; intro e w'' he; exact h _ _ he)
      | exact hk

/-- the guard of an operation: told, or not wanted -/
theorem guardW_sound {S : Area} {pl : Place} {w : World} {m : Mem} {tm : List AV} {a : Act} (h : TmR S pl w m tm a) {ops : Array Oper} {o : Oper} {A B : Prop} (hk : guardW ops.toList tm o.guard A B) :
    (Region.wanted o (yielded ops a.tmps) = true ∧ A) ∨ (Region.wanted o (yielded ops a.tmps) = false ∧ B) := by
  unfold guardW at hk
  unfold Region.wanted
  split at hk
  · rename_i hg; rw [hg]; exact .inl ⟨rfl, hk⟩
  · rename_i j want hg
    rw [hg]
    split at hk
    · rename_i d hd
      have hy : yielded ops a.tmps j = (match (some d : Option Nat).bind (a.tmps[·]?) with | some (.bool b) => some b | _ => none) := by
        unfold yielded
        have : (ops[j]?).bind (·.dst) = some d := by rw [← Array.getElem?_toList]; exact hd
        rw [this]; rfl
      have hrel : RelV S pl w m (tm.getD d .dead) (a.tmps.getD d undef) := by
        by_cases ht : d < tm.length
        · have hx : tm[d]? = some tm[d] := List.getElem?_eq_getElem ht
          have := h.rel d _ hx
          simpa [List.getD, hx] using this
        · simp [List.getD, List.getElem?_eq_none (Nat.not_lt.1 ht)]; exact .dead _
      cases hsk : isSkip (tm.getD d .dead) with
      | true =>
        rw [hsk] at hk
        refine .inr ⟨?_, hk⟩
        have hu : a.tmps.getD d undef = .tuple #[] := by
          generalize tm.getD d .dead = q at hsk hrel
          generalize a.tmps.getD d undef = u at hrel ⊢
          cases q with
          | tup cs =>
            cases cs with
            | nil =>
              cases hrel with | tup _ us hl _ =>
              have : us = [] := by simpa using hl
              rw [this]
            | cons x l => simp [isSkip] at hsk
          | _ => simp [isSkip] at hsk
        dsimp only
        rw [hy]
        rw [Array.getD_eq_getD_getElem?] at hu
        cases hq : a.tmps[d]? with
        | none => simp [hq]
        | some v => rw [hq] at hu; simp at hu; subst hu; simp [hq]
      | false =>
      rw [hsk] at hk
      dsimp only at hk
      obtain ⟨b, hb, h1, h2⟩ := condB_sound hrel hk
      have hyb : yielded ops a.tmps j = some b := by
        rw [hy]
        rw [Array.getD_eq_getD_getElem?] at hb
        cases hq : a.tmps[d]? with
        | none => rw [hq] at hb; simp [undef] at hb
        | some v => rw [hq] at hb; simp at hb; subst hb; simp [hq]
      simp only [hyb]
      cases b <;> cases want <;> first
        | exact .inl ⟨rfl, h1 rfl⟩
        | exact .inl ⟨rfl, h2 rfl⟩
        | exact .inr ⟨rfl, h1 rfl⟩
        | exact .inr ⟨rfl, h2 rfl⟩
    · exact hk.elim

theorem opsW_sound {D : Spec} (hT : TabOk P T) (hD : ∀ f os Q, D f os Q → Den P X.G f os Q) {ops : Array Oper} {Q : Exit → Act → World → Prop} :
    ∀ (l : List Oper) (i : Nat) (tm : List AV) (m : Mem) (a : Act) (w : World) {K : List AV → Mem → Prop}, ops.toList.drop i = l → At X pins tm m a w → opsW T X.G D ops.toList l tm m K → (∀ tm m a w, K tm m → At X pins tm m a w → Q .normal a w) →
      wpOps P ops Q (List.range' i l.length) a w
  | [], i, tm, m, a, w, K, _, ha, hk, hq => by simp only [List.length_nil, List.range'_zero, wpOps]; exact hq tm m a w hk ha
  | o :: l, i, tm, m, a, w, K, hd, ⟨S, pl, hs, h, hpin⟩, hk, hq => by
    have ho : ops[i]? = some o := by
      rw [← Array.getElem?_toList]
      have := congrArg (·[0]?) hd
      simpa using this
    have hd' : ops.toList.drop (i + 1) = l := by rw [← List.drop_drop, hd]; rfl
    rw [List.length_cons, List.range'_succ, wpOps_cons' ho]
    simp only [opsW] at hk
    cases hmv : mvT o tm with
    | some s =>
      rw [hmv] at hk
      dsimp only at hk
      unfold mvT at hmv
      split at hmv <;> first | (simp at hmv; done) | skip
      rename_i hgu
      split at hmv <;> first | (simp at hmv; done) | skip
      rename_i s' hop
      split at hmv <;> first | (simp at hmv; done) | skip
      rename_i id ver n hv
      injection hmv with hmv; subst hmv
      have hw : Region.wanted o (yielded ops a.tmps) = true := by unfold Region.wanted; rw [hgu]
      rw [hw, if_pos rfl]
      rcases hk with hk | hk
      · refine .inl (Oper.wp_mono' ?_ (opW_sound hT hD hs h o hk))
        rintro a' w' ⟨v, S', pl', m', hK, hst, hkp, htm⟩
        exact opsW_sound hT hD l (i + 1) _ m' a' w' hd' ⟨S', pl', hst, htm, fun p hp => (hpin p hp).mono hkp⟩ hK hq
      · have hrel : RelV S pl w m (tm.getD s' .dead) (a.tmps.getD s' undef) := by
          by_cases ht : s' < tm.length
          · have hx : tm[s']? = some tm[s'] := List.getElem?_eq_getElem ht
            have := h.rel s' _ hx
            simpa [List.getD, hx] using this
          · simp [List.getD, List.getElem?_eq_none (Nat.not_lt.1 ht)]; exact .dead _
        obtain ⟨S', y, m', hK, hy, hst, hkp, _⟩ := closeA_sound2 hs hrel hk
        have hself : a.put (some s') (a.tmps.getD s' undef) = a := by
          unfold Act.put
          have : a.tmps.setIfInBounds s' (a.tmps.getD s' undef) = a.tmps := by
            apply Array.ext_getElem?
            intro j
            rw [Array.getElem?_setIfInBounds]
            split
            · rename_i hj
              subst hj
              split
              · rename_i hlt
                rw [Array.getElem?_eq_getElem hlt]; rfl
              · rename_i hlt
                rw [Array.getElem?_eq_none (by omega)]
            · rfl
          dsimp only
          rw [this]
        have h1 : TmR S' pl w m' (setO tm (some s') (.c y)) a := by
          have := (h.mono hkp).put (.c y _ hy) (some s')
          rwa [hself] at this
        have h2 := h1.put (hrel.mono hkp) o.dst
        refine .inl ?_
        refine wp_value (u := a.tmps.getD s' undef) (w' := w) o (s := pure (a.tmps.getD s' undef)) ?_ rfl ?_
        · unfold execOp; rw [hop]; rfl
        · exact opsW_sound hT hD l (i + 1) _ m' _ w hd' ⟨S', pl, hst, h2, fun p hp => (hpin p hp).mono hkp⟩ hK hq
    | none =>
    rw [hmv] at hk
    dsimp only at hk
    rcases guardW_sound h hk with ⟨hw, hk⟩ | ⟨hw, hk⟩
    · rw [hw, if_pos rfl]
      refine .inl (Oper.wp_mono' ?_ (opW_sound hT hD hs h o hk))
      rintro a' w' ⟨v, S', pl', m', hK, hst, hkp, htm⟩
      exact opsW_sound hT hD l (i + 1) _ m' a' w' hd' ⟨S', pl', hst, htm, fun p hp => (hpin p hp).mono hkp⟩ hK hq
    · rw [hw, if_neg (by simp)]
      exact opsW_sound hT hD l (i + 1) _ m _ w hd' ⟨S, pl, hs, h.put (x := skipA) (u := undef) (.tup [] [] rfl (fun i x u hx => by simp at hx)) o.dst, hpin⟩ hk hq

theorem anyA_sound {D : Spec} (hT : TabOk P T) (hD : ∀ f os Q, D f os Q → Den P X.G f os Q) {wr : List Nat} {ops : Array Oper} {Q : Exit → Act → World → Prop} {K : List AV → Mem → Prop} (hq : ∀ tm m a w, K tm m → At X pins tm m a w → Q .normal a w) :
    ∀ (n : Nat) (listed : Array Bool) (tm : List AV) (m : Mem) (a : Act) (w : World), At X pins tm m a w → anyA T X.G D wr ops K n listed tm m → wpAny P .any ops Q n listed a w
  | 0, listed, tm, m, a, w, ha, hk => ⟨hk.1, hq tm m a w hk.2 ha⟩
  | n + 1, listed, tm, m, a, w, ⟨S, pl, hs, h, hpin⟩, hk => by
    refine ⟨fun he => hq tm m a w (hk.1 he) ⟨S, pl, hs, h, hpin⟩, fun i hi => ?_⟩
    obtain ⟨_, o, ho, _⟩ := mem_ready.1 hi
    have hst := hk.2 i hi o ho
    unfold wpOp
    simp only [ho]
    rcases guardW_sound h hst with ⟨hw, R, h1, h2⟩ | ⟨hw, h1⟩
    · rw [hw, if_pos rfl]
      refine .inl (Oper.wp_mono' ?_ (opW_sound hT hD hs h o h1))
      rintro a' w' ⟨v, S', pl', m', hR, hst', hkp, htm⟩
      exact anyA_sound hT hD hq n _ _ m' a' w' ⟨S', pl', hst', htm, fun p hp => (hpin p hp).mono hkp⟩ (h2 v m' hR).2
    · rw [hw, if_neg (by simp)]
      exact anyA_sound hT hD hq n _ _ m _ w ⟨S, pl, hs, h.put (x := skipA) (u := undef) (.tup [] [] rfl (fun i x u hx => by simp at hx)) o.dst, hpin⟩ h1

theorem getL_keep (ids : List Nat) (l : List (Nat × Ob)) (j : Nat) : getL (keepL ids l) j = if j ∈ ids then getL l j else none := by
  induction l with
  | nil => simp [keepL, getL]
  | cons a r ih =>
    obtain ⟨k, p⟩ := a
    simp only [keepL]
    by_cases hk : k ∈ ids
    · rw [if_pos hk]; simp only [getL, ih]
      by_cases h : j = k
      · subst h; simp [hk]
      · simp [h]
    · rw [if_neg hk, ih]; simp only [getL]
      by_cases h : j = k
      · subst h; simp [hk]
      · simp [h]
theorem get_keep (ids : List Nat) (m : Mem) (j : Nat) : (m.keep ids).get j = if j ∈ ids then m.get j else none := getL_keep _ _ _
theorem St.keep {S : Area} {pl : Place} {w : World} {m : Mem} (h : St X S pl w m) (ids : List Nat) : St X S pl w (m.keep ids) ∧ Keeps S S pl pl w w m (m.keep ids) := by
  have hne : ∀ id ob, (m.keep ids).get id = some ob → m.get id = some ob := fun id ob hg => by
    rw [get_keep] at hg; split at hg
    · exact hg
    · simp at hg
  have k : Keeps S S pl pl w w m (m.keep ids) := ⟨fun _ _ h => h, fun _ _ _ => rfl, fun _ _ h => h, Nat.le_refl _, fun id ob hob _ => ⟨ob, hne id ob hob, by cases ob <;> simp [Ob.alike], rfl⟩⟩
  have e : Ext (fun _ _ => False) w w := Ext.refl _ _
  refine ⟨⟨⟨fun id ob hob => ⟨(h.inv.ob id ob (hne id ob hob)).1, (h.inv.ob id ob (hne id ob hob)).2.keep k (Nat.le_refl _) e.frz e.shape (fun _ _ _ _ => rfl)⟩,
    fun id id' ob ob' h1 h2 => h.inv.apart id id' ob ob' (hne _ _ h1) (hne _ _ h2), fun id ob hg => h.inv.free id ob (hne _ _ hg), h.inv.low⟩,
    h.ext, h.sub, h.only, fun id ob hg => h.own id ob (hne _ _ hg), h.glob⟩, k⟩
theorem killT_get : ∀ (l : List AV) (i : Nat) (live : List Nat) (j : Nat) (x : AV), (killT i live l)[j]? = some x → x = .dead ∨ l[j]? = some x
  | [], _, _, j, x, h => by simp [killT] at h
  | y :: l, i, [], 0, x, h => by simp [killT] at h; exact .inl h.symm
  | y :: l, i, [], j + 1, x, h => by
    simp only [killT, List.getElem?_cons_succ] at h ⊢; exact killT_get l _ _ j x h
  | y :: l, i, k :: ks, 0, x, h => by
    simp only [killT] at h; split at h
    · exact .inr (by simpa using h)
    · simp at h; exact .inl h.symm
  | y :: l, i, k :: ks, j + 1, x, h => by
    simp only [killT] at h; split at h
    · simp only [List.getElem?_cons_succ] at h ⊢; exact killT_get l _ _ j x h
    · simp only [List.getElem?_cons_succ] at h ⊢; exact killT_get l _ _ j x h
theorem killT_length : ∀ (l : List AV) (i : Nat) (live : List Nat), (killT i live l).length = l.length
  | [], _, _ => rfl
  | y :: l, i, [] => by simp [killT, killT_length l]
  | y :: l, i, k :: ks => by simp only [killT]; split <;> simp [killT_length l]
/-- below B -/
inductive Low (B : Nat) : AV → Prop
  | c (x : CV) : Low B (.c x)
  | t (id ver n : Nat) (h : ver < B) : Low B (.t id ver n)
  | p (id ver o : Nat) (h : ver < B) : Low B (.p id ver o)
  | tp (id ver i o : Nat) (h : ver < B) : Low B (.tp id ver i o)
  | agg (cs : List AV) (h : ∀ x ∈ cs, Low B x) : Low B (.agg cs)
  | tup (cs : List AV) (h : ∀ x ∈ cs, Low B x) : Low B (.tup cs)
  | dead : Low B .dead
theorem RelV.low {S : Area} {pl : Place} {w : World} {m : Mem} {x : AV} {u : Value} (h : RelV S pl w m x u) : Low m.clk x := by
  induction h with
  | c x u h => exact .c x
  | t id ver n b capn hv hn h => exact .t _ _ _ hv
  | p id ver off b o hv h => exact .p _ _ _ hv
  | tp id ver i off b o hv h => exact .tp _ _ _ _ hv
  | agg cs us hl h ih =>
    refine .agg _ fun x hx => ?_
    obtain ⟨i, hi⟩ := List.mem_iff_getElem?.1 hx
    have hlt := (List.getElem?_eq_some_iff.1 hi).1
    exact ih i x us[i] hi (List.getElem?_eq_getElem (by omega))
  | tup cs us hl h ih =>
    refine .tup _ fun x hx => ?_
    obtain ⟨i, hi⟩ := List.mem_iff_getElem?.1 hx
    have hlt := (List.getElem?_eq_some_iff.1 hi).1
    exact ih i x us[i] hi (List.getElem?_eq_getElem (by omega))
  | dead u => exact .dead
theorem getL_cn (B : Nat) (m : Mem) (caps : List Nat) (l : List (Nat × Ob)) (j : Nat) : getL (cnObs B m caps l) j = (getL l j).map (cnOb B m caps j) := by
  induction l with
  | nil => rfl
  | cons a r ih =>
    obtain ⟨k, p⟩ := a
    simp only [cnObs, getL, ih]
    by_cases h : j = k
    · subst h; simp
    · simp [h]
theorem get_canon (B : Nat) (caps : List Nat) (m : Mem) (j : Nat) : (m.canon B caps).get j = (m.get j).map (cnOb B m caps j) := getL_cn _ _ _ _ _
theorem cnL_get (B : Nat) (m : Mem) : ∀ (l : List AV) (i : Nat), (cnL B m l)[i]? = (l[i]?).map (cnA B m)
  | [], i => by simp [cnL]
  | x :: l, 0 => by simp [cnL]
  | x :: l, i + 1 => by simp only [cnL, List.getElem?_cons_succ]; exact cnL_get B m l i
theorem cnL_length (B : Nat) (m : Mem) : ∀ (l : List AV), (cnL B m l).length = l.length
  | [] => rfl
  | x :: l => by simp only [cnL, List.length_cons, cnL_length B m l]
theorem min_le (v B : Nat) : (bif Nat.ble v B then v else B) ≤ B := by
  cases h : Nat.ble v B
  · simp
  · simpa using h
/-- What a value says, under versions begun anew. -/
theorem RelV.canon {S : Area} {pl : Place} {w : World} {m : Mem} (B : Nat) (caps : List Nat) {x : AV} {u : Value} (h : RelV S pl w m x u) : RelV S pl w (m.canon B caps) (cnA B m x) u := by
  have hclk : (m.canon B caps).clk = B + 1 := rfl
  induction h with
  | c x u h => simp only [cnA]; exact .c x u h
  | t id ver n b capn hv hn h =>
    simp only [cnA]
    split
    · rename_i v sz es cap pub hg
      split
      · rename_i he
        have he := Nat.eq_of_beq_eq_true he; subst he
        obtain ⟨sz', es', cap', pub', e, heq, h1, h2, h3⟩ := h _ hg rfl
        refine .t id B n b capn (by rw [hclk]; omega) hn (fun ob hob _ => ?_)
        rw [get_canon, hg] at hob
        simp only [Option.map_some, cnOb, Option.some.injEq] at hob
        subst hob
        injection heq with q1 q2 q3 q4 q5; subst q2 q3 q4 q5
        exact ⟨_, _, _, _, e, rfl, h1, h2, h3⟩
      · exact .dead _
    · exact .dead _
  | p id ver off b o hv h =>
    simp only [cnA]
    split
    · rename_i v cs hg
      split
      · rename_i he
        have he := Nat.eq_of_beq_eq_true he; subst he
        obtain ⟨_, h2⟩ := h _ hg rfl
        refine .p id _ off b o (by rw [hclk]; have := min_le v B; omega) (fun ob hob _ => ?_)
        rw [get_canon, hg] at hob
        simp only [Option.map_some, cnOb, Option.some.injEq] at hob
        subst hob
        exact ⟨⟨_, rfl⟩, h2⟩
      · exact .dead _
    · exact .dead _
  | tp id ver i off b o hv h =>
    simp only [cnA]
    split
    · rename_i v sz es cap pub hg
      split
      · rename_i he
        have he := Nat.eq_of_beq_eq_true he; subst he
        obtain ⟨sz', es', cap', pub', heq, h1, h2, h3⟩ := h _ hg rfl
        refine .tp id B i off b o (by rw [hclk]; omega) (fun ob hob _ => ?_)
        rw [get_canon, hg] at hob
        simp only [Option.map_some, cnOb, Option.some.injEq] at hob
        subst hob
        injection heq with q1 q2 q3 q4 q5; subst q2 q3 q4 q5
        exact ⟨_, _, _, _, rfl, h1, h2, h3⟩
      · exact .dead _
    · exact .dead _
  | agg cs us hl h ih =>
    simp only [cnA]
    refine .agg _ us (by rw [cnL_length]; exact hl) (fun i x u hx hu => ?_)
    rw [cnL_get] at hx
    cases hy : cs[i]? with
    | none => rw [hy] at hx; simp at hx
    | some y => rw [hy] at hx; simp only [Option.map_some, Option.some.injEq] at hx; subst hx; exact ih i y u hy hu
  | tup cs us hl h ih =>
    simp only [cnA]
    refine .tup _ us (by rw [cnL_length]; exact hl) (fun i x u hx hu => ?_)
    rw [cnL_get] at hx
    cases hy : cs[i]? with
    | none => rw [hy] at hx; simp at hx
    | some y => rw [hy] at hx; simp only [Option.map_some, Option.some.injEq] at hx; subst hx; exact ih i y u hy hu
  | dead u => simp only [cnA]; exact .dead u
theorem min_lt {v ver B : Nat} (h : (bif Nat.ble v B then v else B) = ver) (hv : ver < B) : v = ver := by
  cases hb : Nat.ble v B
  · rw [hb] at h; simp at h; omega
  · rw [hb] at h; simpa using h
/-- What was pinned below B stays. -/
theorem RelV.canonLow {S : Area} {pl : Place} {w : World} {m : Mem} (B : Nat) (caps : List Nat) {x : AV} {u : Value} (h : RelV S pl w m x u) (hl : Low B x) : RelV S pl w (m.canon B caps) x u := by
  have hclk : (m.canon B caps).clk = B + 1 := rfl
  induction h with
  | c x u h => exact .c x u h
  | t id ver n b capn hv hn h =>
    cases hl with | t _ _ _ hl =>
    refine .t id ver n b capn (by rw [hclk]; omega) hn (fun ob hob he => ?_)
    rw [get_canon] at hob
    cases hg : m.get id with
    | none => rw [hg] at hob; simp at hob
    | some ob' =>
      rw [hg] at hob; simp only [Option.map_some, Option.some.injEq] at hob; subst hob
      cases ob' with
      | blk v cs =>
        simp only [cnOb, Ob.ver] at he
        have := min_lt he hl
        obtain ⟨_, _, _, _, _, q, _⟩ := h _ hg (by simpa [Ob.ver] using this)
        simp at q
      | arr v sz es cap pub => simp only [cnOb, Ob.ver] at he; omega
  | p id ver off b o hv h =>
    cases hl with | p _ _ _ hl =>
    refine .p id ver off b o (by rw [hclk]; omega) (fun ob hob he => ?_)
    rw [get_canon] at hob
    cases hg : m.get id with
    | none => rw [hg] at hob; simp at hob
    | some ob' =>
      rw [hg] at hob; simp only [Option.map_some, Option.some.injEq] at hob; subst hob
      cases ob' with
      | blk v cs =>
        simp only [cnOb, Ob.ver] at he
        have hv' := min_lt he hl
        obtain ⟨_, h2⟩ := h _ hg (by simpa [Ob.ver] using hv')
        exact ⟨⟨cnL B m cs, by simp only [cnOb, he]⟩, h2⟩
      | arr v sz es cap pub => simp only [cnOb, Ob.ver] at he; omega
  | tp id ver i off b o hv h =>
    cases hl with | tp _ _ _ _ hl =>
    refine .tp id ver i off b o (by rw [hclk]; omega) (fun ob hob he => ?_)
    rw [get_canon] at hob
    cases hg : m.get id with
    | none => rw [hg] at hob; simp at hob
    | some ob' =>
      rw [hg] at hob; simp only [Option.map_some, Option.some.injEq] at hob; subst hob
      cases ob' with
      | blk v cs =>
        simp only [cnOb, Ob.ver] at he
        have := min_lt he hl
        obtain ⟨_, _, _, _, q, _⟩ := h _ hg (by simpa [Ob.ver] using this)
        simp at q
      | arr v sz es cap pub => simp only [cnOb, Ob.ver] at he; omega
  | agg cs us hlen h ih =>
    cases hl with | agg _ hl =>
    exact .agg cs us hlen (fun i x u hx hu => ih i x u hx hu (hl x (List.mem_of_getElem? hx)))
  | tup cs us hlen h ih =>
    cases hl with | tup _ hl =>
    exact .tup cs us hlen (fun i x u hx hu => ih i x u hx hu (hl x (List.mem_of_getElem? hx)))
  | dead u => exact .dead u
theorem cnA_dead (B : Nat) (m : Mem) (x : AV) (h : (cnA B m x).isDead = false) : x.isDead = false := by
  cases x with
  | dead => simp [cnA, AV.isDead] at h
  | _ => rfl
theorem cnOb_foot {B : Nat} {m : Mem} {caps : List Nat} {i : Nat} {ob : Ob} {q : Nat × Nat} {b o : Nat} (h : (cnOb B m caps i ob).foot q b o) : ob.foot q b o := by
  cases ob with
  | arr v sz es cap pub => exact h
  | blk v cs =>
    obtain ⟨h1, j, x, hx, hd, ho⟩ := h
    rw [cnL_get] at hx
    cases hy : cs[j]? with
    | none => rw [hy] at hx; simp at hx
    | some y => rw [hy] at hx; simp only [Option.map_some, Option.some.injEq] at hx; subst hx; exact ⟨h1, j, y, hy, cnA_dead B m y hd, ho⟩
theorem St.canon {S : Area} {pl : Place} {w : World} {m : Mem} (h : St X S pl w m) (B : Nat) (caps : List Nat) : St X S pl w (m.canon B caps) := by
  have hget : ∀ id ob, (m.canon B caps).get id = some ob → ∃ ob', m.get id = some ob' ∧ ob = cnOb B m caps id ob' := fun id ob hg => by
    rw [get_canon] at hg
    cases hq : m.get id with
    | none => rw [hq] at hg; simp at hg
    | some ob' => rw [hq] at hg; simp only [Option.map_some, Option.some.injEq] at hg; exact ⟨ob', rfl, hg.symm⟩
  refine ⟨⟨fun id ob hob => ?_, fun id id' ob ob' h1 h2 hne b o hf => ?_, fun id ob hg b o hf => ?_, h.inv.low⟩, h.ext, h.sub, h.only, fun id ob hg b o hf => ?_, h.glob⟩
  · obtain ⟨ob', hg, rfl⟩ := hget id ob hob
    obtain ⟨hv, hok⟩ := h.inv.ob id ob' hg
    cases ob' with
    | blk v cs =>
      refine ⟨by have := min_le v B; show (bif Nat.ble v B then v else B) < B + 1; omega, ?_⟩
      obtain ⟨h1, h2, h3⟩ := hok
      refine ⟨h1, h2, fun j x hx => ?_⟩
      rw [cnL_get] at hx
      cases hy : cs[j]? with
      | none => rw [hy] at hx; simp at hx
      | some y =>
        rw [hy] at hx; simp only [Option.map_some, Option.some.injEq] at hx; subst hx
        obtain ⟨u, hc, hr⟩ := h3 j y hy
        exact ⟨u, hc, hr.canon B caps⟩
    | arr v sz es cap pub =>
      refine ⟨Nat.lt_succ_self _, ?_⟩
      obtain ⟨h0, h1, h2, ⟨e, capn, h3, h4, h5⟩, h6, h7⟩ := hok
      refine ⟨h0, h1, h2, ⟨e, capn, h3, h4, fun c hc => h5 c ?_⟩, h6, h7⟩
      revert hc
      cases caps.contains id <;> simp
  · obtain ⟨o1, g1, rfl⟩ := hget id ob h1
    obtain ⟨o2, g2, rfl⟩ := hget id' ob' h2
    exact fun hf2 => h.inv.apart id id' o1 o2 g1 g2 hne b o (cnOb_foot hf) (cnOb_foot hf2)
  · obtain ⟨o1, g1, rfl⟩ := hget id ob hg
    exact h.inv.free id o1 g1 b o (cnOb_foot hf)
  · obtain ⟨o1, g1, rfl⟩ := hget id ob hg
    exact h.own id o1 g1 b o (cnOb_foot hf)
theorem At.head {B : Nat} {tm : List AV} {m : Mem} {a : Act} {w : World} (h : At X pins tm m a w) (hl : ∀ p ∈ pins, Low B p.1) (live ids caps : List Nat) : At X pins (fgT B live ids tm m) (fgM B ids caps m) a w := by
  obtain ⟨S, pl, hs, ht, hp⟩ := h
  obtain ⟨h1, k⟩ := hs.keep ids
  refine ⟨S, pl, h1.canon B caps, ⟨ht.defers, ?_, fun i x hx => ?_⟩, fun p hq => ((hp p hq).mono k).canonLow B caps (hl p hq)⟩
  · rw [fgT, cnL_length, killT_length]; exact ht.size
  · unfold fgT at hx
    rw [cnL_get] at hx
    cases hy : (killT 0 live tm)[i]? with
    | none => rw [hy] at hx; simp at hx
    | some y =>
      rw [hy] at hx; simp only [Option.map_some, Option.some.injEq] at hx; subst hx
      rcases killT_get _ _ _ _ _ hy with rfl | hx
      · simp only [cnA]; exact .dead _
      · exact ((ht.rel i y hx).mono k).canon B caps

/-- Ways to leave, told alike. -/
def exOf : Exit → Option EX
  | .normal => some .norm
  | .ret => some .ret
  | .exit i => some (.ex i)
  | _ => none
def PostX (X : Ctx) (pins : List (AV × Value)) (K : KX) (e : Exit) (a : Act) (w : World) : Prop := ∃ ex tm m, exOf e = some ex ∧ K ex tm m ∧ At X pins tm m a w

theorem execW_sound {D : Spec} {B : Nat} (hl : ∀ p ∈ pins, Low B p.1) (hm : P.follows .mixedOrders = true) (hT : TabOk P T) (hD : ∀ f os Q, D f os Q → Den P X.G f os Q) (c : Code) : ∀ (tm : List AV) (m : Mem) (K : KX) (a : Act) (w : World), At X pins tm m a w → execW B T X.G D c tm m K → c.wp P (PostX X pins K) a w := by
  induction c with
  | skip => intro tm m K a w ha hk; exact wp_skip ⟨.norm, tm, m, rfl, hk, ha⟩
  | label l => intro tm m K a w ha hk; exact wp_label ⟨.norm, tm, m, rfl, hk, ha⟩
  | region id ops draw =>
    intro tm m K a w ha hk
    have joined : ∀ tm m a w, Join B (K .norm) tm m → At X pins tm m a w → PostX X pins K .normal a w := fun tm m a w h1 h2 => by
      rcases h1 with h1 | ⟨live, ids, caps, h1⟩
      · exact ⟨.norm, tm, m, rfl, h1, h2⟩
      · exact ⟨.norm, _, _, rfl, h1, h2.head hl live ids caps⟩
    cases draw with
    | false =>
      refine wp_region ?_
      rw [List.range_eq_range', ← Array.length_toList]
      cases hg : hasG ops.toList with
      | true =>
        simp only [execW, hg] at hk
        exact opsW_sound (P := P) hT hD (Q := PostX X pins K) ops.toList 0 tm m a w rfl ha hk joined
      | false =>
        simp only [execW, hg] at hk
        exact opsW_sound (P := P) hT hD (Q := PostX X pins K) ops.toList 0 tm m a w rfl ha hk (fun tm m a w h1 h2 => ⟨.norm, tm, m, rfl, h1, h2⟩)
    | true =>
      have hk' : drawnW T X.G D ops tm m (Join B (K .norm)) := hk
      unfold drawnW at hk'
      split at hk'
      · rename_i ord hns hord
        obtain ⟨wr, hk'⟩ := hk'
        obtain ⟨S, pl, hs, h, hpin⟩ := ha
        obtain ⟨hst, hkp⟩ := hs.draw (w.drawn + 1)
        exact wp_region_any hm (anyA_sound hT hD (fun tm m a w h1 h2 => joined tm m a w h1 h2) _ _ tm m a _ ⟨S, pl, hst, h.mono hkp, fun p hp => (hpin p hp).mono hkp⟩ (planW_any _ _ ord tm m hord (ClosedL.none _ _) hk'))
      · exact hk'.elim
  | seq x y ihx ihy =>
    intro tm m K a w ha hk
    refine wp_seq (wp_mono (ihx tm m _ a w ha hk) ?_)
    rintro e a w ⟨ex, tm, m, he, hk, ha⟩
    cases e <;> simp [exOf] at he <;> subst he
    · exact ihy tm m K a w ha hk
    · exact ⟨_, tm, m, rfl, hk, ha⟩
    · exact ⟨_, tm, m, rfl, hk, ha⟩
  | cond c x y ihx ihy =>
    intro tm m K a w ha hk
    obtain ⟨S, pl, hs, h, hpin⟩ := ha
    obtain ⟨b, hb, h1, h2⟩ := condB_sound (evO_sound hs h 0 c) hk
    have post : ∀ e a w, PostX X pins (fun e tm m => match e with | .norm => Join B (K .norm) tm m | .ret => K .ret tm m | .ex i => K (.ex i) tm m) e a w → PostX X pins K e a w := by
      rintro e a w ⟨ex, tm, m, he, hk, ha⟩
      cases ex with
      | norm =>
        rcases hk with hk | ⟨live, ids, caps, hk⟩
        · exact ⟨_, tm, m, he, hk, ha⟩
        · exact ⟨_, _, _, he, hk, ha.head hl live ids caps⟩
      | ret => exact ⟨_, tm, m, he, hk, ha⟩
      | ex i => exact ⟨_, tm, m, he, hk, ha⟩
    exact wp_cond_split hb (fun e => wp_mono (ihx tm m _ a w ⟨S, pl, hs, h, hpin⟩ (h1 e)) post) (fun e => wp_mono (ihy tm m _ a w ⟨S, pl, hs, h, hpin⟩ (h2 e)) post)
  | block id c ih =>
    intro tm m K a w ha hk
    refine wp_block (wp_mono (ih tm m _ a w ha hk) ?_)
    rintro e a w ⟨ex, tm, m, he, hk, ha⟩
    cases e <;> simp [exOf] at he <;> subst he
    · exact ⟨_, tm, m, rfl, hk, ha⟩
    · rename_i i
      simp only [Exit.inBlock]
      by_cases hi : i = id
      · simp only [hi, if_true] at hk ⊢; exact ⟨_, tm, m, rfl, hk, ha⟩
      · simp only [hi, if_false] at hk ⊢; exact ⟨_, tm, m, rfl, hk, ha⟩
    · exact ⟨_, tm, m, rfl, hk, ha⟩
  | loop c ih =>
    intro tm m K a w ha hk
    obtain ⟨live, ids, caps, n, hk⟩ := hk
    refine wp_loop_rounds n ?_
    induction n generalizing tm m a w with
    | zero => exact hk.elim
    | succ n ihn =>
      rw [rounds_succ]
      refine wp_mono (ih _ _ _ a w (ha.head hl live ids caps) hk) ?_
      rintro e a w ⟨ex, tm, m, he, hk, ha⟩
      cases e <;> simp [exOf] at he <;> subst he
      · exact ihn tm m a w ha hk
      · exact ⟨_, tm, m, rfl, hk, ha⟩
      · exact ⟨_, tm, m, rfl, hk, ha⟩
  | exit id => intro tm m K a w ha hk; exact wp_exit ⟨.ex id, tm, m, rfl, hk, ha⟩
  | ret => intro tm m K a w ha hk; exact wp_ret ⟨.ret, tm, m, rfl, hk, ha⟩
  | _ => intro tm m K a w ha hk; exact hk.elim
end
end Go.Proofs.Ythncmjlcmlmnmaa.V

