/- What a call is known to come to, and that a caller may go by it. Conditions: none. -/
import Derived.Test.YthncmjlcmlmnmaaCR5
import Derived.LoopN
namespace Go.Proofs.Ythncmjlcmlmnmaa.V
open Go Go.RowKit

def GlobOk (G : Glob) (S : Area) (w : World) : Prop := ∀ g cs, G g = some cs → RelC S w (.rp cs) (.pointer (some ⟨g, 0, none⟩))

/-- What pointers that went in lead to behind a call. -/
inductive OwnP (S : Area) (w : World) : Area → List OV → List Value → List OV → Prop
  | nil : OwnP S w (fun _ _ => False) [] [] []
  | ptr (cs cs' : List OV) (u : Value) (os : List OV) (us : List Value) (bs : List OV) (F1 F2 : Area) (h1 : Own S w F1 (.ptr cs') u) (h2 : OwnP S w F2 os us bs) (hd : ∀ b o, F1 b o → ¬ F2 b o) :
      OwnP S w (fun b o => F1 b o ∨ F2 b o) (.ptr cs :: os) (u :: us) (.ptr cs' :: bs)
  | skip (o o' : OV) (u : Value) (os : List OV) (us : List Value) (bs : List OV) (F : Area) (hn : ∀ cs, o ≠ .ptr cs) (h : OwnP S w F os us bs) : OwnP S w F (o :: os) (u :: us) (o' :: bs)

/-- What stands behind a call, of the caller's side. -/
structure Ended (S : Area) (F : Area) (w w' : World) (S' Fr Fb : Area) : Prop where
  ext : Ext F w w'
  sub : ∀ b o, S b o → S' b o
  grow : ∀ b o, S' b o → b < w'.heap.size ∧ (S b o ∨ F b o ∨ w.heap.size ≤ b)
  apart : ∀ b o, Fr b o → ¬ Fb b o
  mine : ∀ b o, Fr b o ∨ Fb b o → ¬ S' b o ∧ (F b o ∨ w.heap.size ≤ b)

/-- THE CONTRACT: called with values that read as 'os', the function returns, its result reads as some r, and what its pointers lead to as bs, of which Q holds. -/
def Den (P : Program) (G : Glob) (f : FuncId) (os : List OV) (Q : OV → List OV → Prop) : Prop :=
  (∃ fn, P.funcs[f]? = some fn ∧ fn.body.isSome = true ∧ (fn.name == "runtime.NumGoroutine") = false) ∧
  ∀ (S F : Area) (w : World) (us : List Value), (∀ b o, S b o → b < w.heap.size) → (∀ b o, F b o → b < w.heap.size ∧ ¬ S b o) → GlobOk G S w → OwnL S w F os us →
    Calls P f us.toArray w fun e w' => ∃ v r bs S' Fr Fb, e = .returned v ∧ Q r bs ∧ Own S' w' Fr r v ∧ OwnP S' w' Fb os us bs ∧ Ended S F w w' S' Fr Fb

section
variable {P : Program} {X : Ctx} {S : Area} {pl : Place} {w : World} {m : Mem}

def RefOk : List Mode → List OV → Prop
  | .ref _ :: ms, o :: os => (∃ cs, o = .ptr cs) ∧ RefOk ms os
  | _ :: ms, _ :: os => RefOk ms os
  | _, _ => True

theorem own_closed {F : Area} : ∀ (ys : List CV) (us : List Value), us.length = ys.length → (∀ (j : Nat) y u, ys[j]? = some y → us[j]? = some u → RelC S w y u) → ∃ F, OwnL S w F (ys.map .c) us ∧ ∀ b o, ¬ F b o
  | [], [], _, _ => ⟨_, .nil, fun _ _ q => q⟩
  | [], _ :: _, h, _ => by simp at h
  | _ :: _, [], h, _ => by simp at h
  | y :: ys, u :: us, h, hr => by
    obtain ⟨F', hF, hn⟩ := own_closed (F := F) ys us (by simpa using h) (fun j y u hy hu => hr (j + 1) y u (by simpa using hy) (by simpa using hu))
    exact ⟨_, .cons _ u _ us _ F' (.c y u (hr 0 y u rfl rfl)) hF (fun _ _ q => q.elim), fun b o q => q.elim (fun q => q) (hn b o)⟩

theorem region_foot {v : Nat} {cs : List AV} {o s : Nat} (hle : o + s ≤ cs.length) (hlive : ∀ x ∈ (cs.drop o).take s, x.isDead = false) {q : Nat × Nat} {b c : Nat} (h : b = q.1 ∧ q.2 + o ≤ c ∧ c < q.2 + o + s) : (Ob.blk v cs).foot q b c := by
  have hj : c - q.2 < cs.length := by omega
  have hx : cs[c - q.2]? = some cs[c - q.2] := List.getElem?_eq_getElem hj
  refine ⟨h.1, c - q.2, _, hx, hlive _ ?_, by omega⟩
  apply List.mem_of_getElem? (i := c - q.2 - o)
  rw [List.getElem?_take_of_lt (by omega), List.getElem?_drop, ← hx]; congr 1; omega

theorem lend (h : St X S pl w m) {i v : Nat} {cs : List AV} (hg : m.get i = some (.blk v cs)) (o s : Nat) (hle : o + s ≤ cs.length) (hlive : ∀ x ∈ (cs.drop o).take s, x.isDead = false) :
    St X S pl w (m.upd i (.blk v (putAt cs o (List.replicate s .dead)))) ∧ Keeps S S pl pl w w m (m.upd i (.blk v (putAt cs o (List.replicate s .dead)))) ∧
    (∀ b q, Feet pl (m.upd i (.blk v (putAt cs o (List.replicate s .dead)))) b q → Feet pl m b q ∧ ¬ (b = (pl i).1 ∧ (pl i).2 + o ≤ q ∧ q < (pl i).2 + o + s)) := by
  obtain ⟨hv, hb, ht, hrow⟩ := h.inv.ob i _ hg
  have hlen : o + (List.replicate s AV.dead).length ≤ cs.length := by simpa using hle
  have hget : ∀ (j : Nat) x, (putAt cs o (List.replicate s .dead))[j]? = some x → x.isDead = false → cs[j]? = some x ∧ (j < o ∨ o + s ≤ j) := fun j x hx hd => by
    rw [putAt_get _ _ _ hlen] at hx
    split at hx
    · exact ⟨hx, .inl (by assumption)⟩
    · split at hx
      · rw [List.getElem?_replicate] at hx
        split at hx
        · injection hx with hx; subst hx; simp [AV.isDead] at hd
        · simp at hx
      · rename_i h2; simp at h2; exact ⟨hx, .inr (by omega)⟩
  obtain ⟨st, kp⟩ := h.setBlkF (fun _ _ => False) (cs' := putAt cs o (List.replicate s .dead)) hg (Ext.refl _ _) (fun _ _ q => q.elim) (fun b q ⟨h1, j, x, hx, hd, h2⟩ => .inl ⟨h1, j, x, (hget j x hx hd).1, hd, h2⟩)
    (fun {pl'' m''} hpl hm k j x hx => by
      rw [putAt_get _ _ _ hlen] at hx
      split at hx
      · obtain ⟨u, hc, hr⟩ := hrow j x hx; exact ⟨u, hc, hr.mono k⟩
      · split at hx
        · rename_i h2
          simp at h2
          obtain ⟨u, hc, _⟩ := hrow j cs[j] (List.getElem?_eq_getElem (by omega))
          rw [List.getElem?_replicate] at hx
          split at hx
          · injection hx with hx; subst hx; exact ⟨u, hc, .dead u⟩
          · simp at hx
        · obtain ⟨u, hc, hr⟩ := hrow j x hx; exact ⟨u, hc, hr.mono k⟩)
  refine ⟨st, kp, fun b q ⟨id, ob, hg', hf⟩ => ?_⟩
  rw [get_upd] at hg'
  by_cases hi : id = i
  · subst hi; rw [if_pos rfl] at hg'; injection hg' with hg'; subst hg'
    obtain ⟨h1, j, x, hx, hd, h2⟩ := hf
    obtain ⟨h3, h4⟩ := hget j x hx hd
    exact ⟨⟨id, _, hg, h1, j, x, h3, hd, h2⟩, fun ⟨_, h5, h6⟩ => by omega⟩
  · rw [if_neg hi] at hg'
    exact ⟨⟨id, ob, hg', hf⟩, fun h1 => h.inv.apart id i ob _ hg' hg hi b q hf (region_foot hle hlive h1)⟩

theorem feet_upd_sub {i v : Nat} {cs : List AV} {b o : Nat} (h : Feet pl (m.upd i (.blk v cs)) b o) : Feet pl m b o ∨ (Ob.blk v cs).foot (pl i) b o := by
  obtain ⟨id, ob, hg, hf⟩ := h
  rw [get_upd] at hg
  by_cases hi : id = i
  · subst hi; rw [if_pos rfl] at hg; injection hg with hg; subst hg; exact .inr hf
  · rw [if_neg hi] at hg; exact .inl ⟨id, ob, hg, hf⟩

theorem argW_sound (h : St X S pl w m) (md : Mode) {x : AV} {u : Value} (hr : RelV S pl w m x u) {K : OV → Mem → Prop} (hk : argW md m x K) :
    ∃ S' o m' F, K o m' ∧ Own S' w F o u ∧ Packed X S S' pl w m m' F ∧ (∀ s, md = .ref s → ∃ cs, o = .ptr cs) := by
  have shut : ∀ {y : AV} {u : Value} {K : OV → Mem → Prop}, RelV S pl w m y u → closeA m y (fun y m => K (.c y) m) → ∃ S' o m' F, K o m' ∧ Own S' w F o u ∧ Packed X S S' pl w m m' F := by
    intro y u K hr hk
    obtain ⟨S', z, m', hk, hz, st, kp, sh⟩ := closeA_sound2 h hr hk
    exact ⟨S', .c z, m', _, hk, .c z u hz, st, kp, sh, fun _ _ q => q.elim, fun _ _ q => q.elim⟩
  cases md with
  | shut =>
    refine Exists.elim (?_ : ∃ S' o m' F, K o m' ∧ Own S' w F o u ∧ Packed X S S' pl w m m' F) fun S' ⟨o, m', F, h1, h2, h3⟩ => ⟨S', o, m', F, h1, h2, h3, by simp⟩
    cases x with
    | agg cs =>
      cases hr with | agg _ us hl hr =>
      obtain ⟨S', ys, m', hk, hlen, hys, st, kp, sh⟩ := closeL_sound2 cs us h hl hr hk
      obtain ⟨F, hF, hn⟩ := own_closed (F := fun _ _ => False) ys us (by omega) hys
      exact ⟨S', _, m', F, hk, .agg _ us F hF, st, kp, sh, fun b o q => absurd q (hn b o), fun b o q => absurd q (hn b o)⟩
    | c y => exact shut hr hk
    | t id ver n => exact shut hr hk
    | p id ver o => exact shut hr hk
    | tp id ver i o => exact shut hr hk
    | tup cs => exact shut hr hk
    | dead => exact shut hr hk
  | keep =>
    cases x with
    | c y =>
      cases hr with | c _ _ hr =>
      exact ⟨S, _, m, _, hk, .c y u hr, ⟨h, Keeps.refl _ _ _ _, Shrinks.refl _ _ _, fun _ _ q => q.elim, fun _ _ q => q.elim⟩, by simp⟩
    | _ => exact hk.elim
  | own =>
    obtain ⟨S', o, m', F, h1, h2, h3⟩ := packW_sound depth h hr hk
    exact ⟨S', o, m', F, h1, h2, h3, by simp⟩
  | ref s =>
    cases x with
    | p id ver o =>
      simp only [argW] at hk
      split at hk
      · rename_i v cs hg
        obtain ⟨rfl, hle, hlive, hk⟩ := hk
        cases hr with | p _ _ _ b q hv hr =>
        obtain ⟨_, hb⟩ := hr _ hg rfl
        obtain ⟨hv', h1, h2, hrow⟩ := h.inv.ob id _ hg
        have hb1 : (pl id).1 = b := by rw [← hb]
        have hb2 : (pl id).2 = q := by rw [← hb]
        have hrow' : RowA S pl w m b (q + o) ((cs.drop o).take s) := fun j x hx => by
          have hj : j < s := by have := (List.getElem?_eq_some_iff.1 hx).1; rw [List.length_take] at this; omega
          rw [List.getElem?_take_of_lt hj, List.getElem?_drop] at hx
          have := hrow _ x hx
          rwa [hb1, hb2, ← Nat.add_assoc] at this
        obtain ⟨us, hul, huc, hur⟩ := hrow'.list
        obtain ⟨st, kp, hfeet⟩ := lend h hg o s hle hlive
        obtain ⟨S', os, m', F, hk, ho, hp⟩ := packLW_sound (packW_sound depth) _ us st hul (fun j x u hx hu => (hur j x u hx hu).mono kp) hk
        have hus : us.length = s := by rw [hul, List.length_take, List.length_drop]; omega
        rw [hb1] at h1 h2
        refine ⟨S', _, m', _, hk, .ptr os us b (q + o) F ho h1 h2 huc (fun b' o' q1 q2 => ?_), ⟨hp.st, kp.trans hp.kp, ⟨fun b' o' q1 => (hp.sh.grow b' o' q1).imp (fun q => q) (fun q2 => (hfeet b' o' q2).1), fun b' o' q1 => (hfeet b' o' (hp.sh.feet _ _ q1)).1⟩, fun b' o' q1 => ?_, fun b' o' q1 => ?_⟩, by simp⟩
        · exact (hfeet b' o' (hp.off b' o' q1).1).2 (by rw [hb1, hb2]; exact ⟨q2.1, q2.2.1, by omega⟩)
        · rcases q1 with q1 | q1
          · exact ⟨(hfeet _ _ (hp.off b' o' q1).1).1, (hp.off b' o' q1).2⟩
          · have hreg : b' = (pl id).1 ∧ (pl id).2 + o ≤ o' ∧ o' < (pl id).2 + o + s := by rw [hb1, hb2]; exact ⟨q1.1, q1.2.1, by omega⟩
            exact ⟨⟨id, _, hg, region_foot hle hlive hreg⟩, fun q2 => (hfeet _ _ (hp.sh.feet _ _ q2)).2 hreg⟩
        · rcases q1 with q1 | q1
          · exact hp.no _ _ q1
          · have hreg : b' = (pl id).1 ∧ (pl id).2 + o ≤ o' ∧ o' < (pl id).2 + o + s := by rw [hb1, hb2]; exact ⟨q1.1, q1.2.1, by omega⟩
            exact fun hs => (hp.sh.grow _ _ hs).elim (h.inv.free id _ hg _ _ (region_foot hle hlive hreg)) (fun q2 => (hfeet _ _ q2).2 hreg)
      · exact hk.elim
    | _ => exact hk.elim

theorem argsW_sound : ∀ (mds : List Mode) (xs : List AV) (us : List Value) {S : Area} {m : Mem} {K : List OV → Mem → Prop}, St X S pl w m → us.length = xs.length → (∀ (j : Nat) x u, xs[j]? = some x → us[j]? = some u → RelV S pl w m x u) →
    argsW m mds xs K → ∃ S' os m' F, K os m' ∧ OwnL S' w F os us ∧ Packed X S S' pl w m m' F ∧ RefOk mds os
  | [], [], [], S, m, K, h, _, _, hk => ⟨S, [], m, _, hk, .nil, ⟨h, Keeps.refl _ _ _ _, Shrinks.refl _ _ _, fun _ _ q => q.elim, fun _ _ q => q.elim⟩, trivial⟩
  | [], [], _ :: _, _, _, _, _, hl, _, _ => by simp at hl
  | [], _ :: _, _, _, _, _, _, _, _, hk => hk.elim
  | _ :: _, [], _, _, _, _, _, _, _, hk => hk.elim
  | _ :: _, _ :: _, [], _, _, _, _, hl, _, _ => by simp at hl
  | md :: mds, x :: xs, u :: us, S, m, K, h, hl, hr, hk => by
    obtain ⟨S1, o, m1, F1, hk1, ho, p1, r1⟩ := argW_sound h md (hr 0 x u rfl rfl) hk
    obtain ⟨S2, os, m2, F2, hk2, hos, p2, r2⟩ := argsW_sound mds xs us p1.st (by simpa using hl) (fun j x u hx hu => (hr (j + 1) x u (by simpa using hx) (by simpa using hu)).mono p1.kp) hk1
    refine ⟨S2, o :: os, m2, _, hk2, .cons o u os us F1 F2 (ho.keep (p2.still _)) hos (fun b q h1 h2 => (p1.off b q h1).2 (p2.off b q h2).1), ⟨p2.st, p1.kp.trans p2.kp, p1.sh.trans p2.sh, fun b q hf => ?_, fun b q hf => ?_⟩, ?_⟩
    rotate_left
    · rcases hf with hf | hf
      · exact fun hs => (p2.sh.grow b q hs).elim (p1.no b q hf) (p1.off b q hf).2
      · exact p2.no b q hf
    rotate_left
    · rcases hf with hf | hf
      · exact ⟨(p1.off b q hf).1, fun q' => (p1.off b q hf).2 (p2.sh.feet b q q')⟩
      · exact ⟨p1.sh.feet b q (p2.off b q hf).1, (p2.off b q hf).2⟩
    · cases md with
      | ref s => exact ⟨r1 s rfl, r2⟩
      | _ => exact r2

/-- The world goes on under a memory that it does not touch. -/
theorem St.world {S' F : Area} {w' : World} (h : St X S pl w m) (hext : Ext F w w') (hF : ∀ b o, F b o → (X.F0 b o ∨ X.w0.heap.size ≤ b) ∧ ¬ S b o ∧ ¬ Feet pl m b o) (hsub : ∀ b o, S b o → S' b o)
    (hgrow : ∀ b o, S' b o → b < w'.heap.size ∧ (S b o ∨ F b o ∨ w.heap.size ≤ b)) : St X S' pl w' m ∧ Keeps S S' pl pl w w' m m := by
  have k : Keeps S S' pl pl w w' m m := ⟨hsub, fun b o hs => hext.cell b o (h.inv.low b o hs) (fun hf => (hF b o hf).2.1 hs), fun b s hs => by rw [hext.shape b (shape_lt hs)]; exact hs, Nat.le_refl _,
    fun id ob hg _ => ⟨ob, hg, by cases ob <;> simp [Ob.alike], rfl⟩⟩
  have hx := h.ext.size
  refine ⟨⟨⟨fun id ob hg => ⟨(h.inv.ob id ob hg).1, (h.inv.ob id ob hg).2.keep k hext.size hext.frz hext.shape (fun b o hf hb => hext.cell b o hb (fun q => (hF b o q).2.2 ⟨id, ob, hg, hf⟩))⟩, h.inv.apart, fun id ob hg b o hf hs => ?_, fun b o hs => (hgrow b o hs).1⟩,
    h.ext.trans hext (fun b o q => (hF b o q).1), fun b o hs => hsub _ _ (h.sub b o hs), fun b o hs => ?_, h.own, fun g cs hg => (h.glob g cs hg).mono k.sub k.cell⟩, k⟩
  · rcases (hgrow b o hs).2 with q | q | q
    · exact h.inv.free id ob hg b o hf q
    · exact (hF b o q).2.2 ⟨id, ob, hg, hf⟩
    · have := h.inv.foot_lt hg hf; omega
  · rcases (hgrow b o hs).2 with q | q | q
    · exact h.only b o q
    · exact ((hF b o q).1).elim (fun q => .inr (.inl q)) (fun q => .inr (.inr q))
    · exact .inr (.inr (by omega))

/-- Cells that came back are a block's again. -/
theorem giveBack (h : St X S pl w m) {i v : Nat} {cs xs : List AV} (hg : m.get i = some (.blk v cs)) (o : Nat) (us : List Value) (hl : us.length = xs.length) (hle : o + xs.length ≤ cs.length)
    (hc : ∀ (j : Nat) u, us[j]? = some u → cellAt w (pl i).1 ((pl i).2 + o + j) = some u) (hr : ∀ (j : Nat) x u, xs[j]? = some x → us[j]? = some u → RelV S pl w m x u)
    (hm : Mine X S pl m (fun b q => b = (pl i).1 ∧ (pl i).2 + o ≤ q ∧ q < (pl i).2 + o + us.length)) :
    Laid X S pl pl w m (m.upd i (.blk v (putAt cs o xs))) (fun b q => b = (pl i).1 ∧ (pl i).2 + o ≤ q ∧ q < (pl i).2 + o + us.length) := by
  obtain ⟨hv, hb, ht, hrow⟩ := h.inv.ob i _ hg
  obtain ⟨st, kp⟩ := h.setBlkF (fun b q => b = (pl i).1 ∧ (pl i).2 + o ≤ q ∧ q < (pl i).2 + o + us.length) (cs' := putAt cs o xs) hg (Ext.refl _ _) (fun b q hf => by
      obtain ⟨h1, h2, h3⟩ := hm b q hf
      exact ⟨h1, h2, fun id ob hi hg' hf' => h3 ⟨id, ob, hg', hf'⟩⟩) (fun b q hf => by rw [hl]; exact foot_put hle hf)
    (fun {pl'' m''} hpl hm' k j x hx => by
      rw [putAt_get _ _ _ hle] at hx
      split at hx
      · obtain ⟨u, hc, hr⟩ := hrow j x hx; exact ⟨u, hc, hr.mono k⟩
      · split at hx
        · have hj : j - o < us.length := by omega
          have hu : us[j - o]? = some us[j - o] := List.getElem?_eq_getElem hj
          have := hc _ _ hu
          rw [show (pl i).2 + o + (j - o) = (pl i).2 + j by omega] at this
          exact ⟨_, this, (hr _ x _ hx hu).mono k⟩
        · obtain ⟨u, hc, hr⟩ := hrow j x hx; exact ⟨u, hc, hr.mono k⟩)
  refine ⟨st, kp, fun b q hf => ?_⟩
  rcases feet_upd_sub hf with h1 | h1
  · exact .inl h1
  · rcases foot_put hle h1 with h2 | h2
    · exact .inl ⟨i, _, hg, h2⟩
    · exact .inr (by rw [hl]; exact h2)

theorem backW_sound : ∀ (mds : List Mode) (xs : List AV) (os : List OV) (us : List Value) (bs : List OV) (id : Nat) {S : Area} {pl : Place} {m : Mem} {F : Area} {K : Nat → Mem → Prop}, St X S pl w m → (∀ (j : Nat) x u, xs[j]? = some x → us[j]? = some u → RelV S pl w m x u) →
    RefOk mds os → OwnP S w F os us bs → Mine X S pl m F → backW id m mds xs bs K → ∃ pl' id' m', K id' m' ∧ Laid X S pl pl' w m m' F
  | [], [], _, _, [], id, S, pl, m, F, K, h, _, _, _, _, hk => ⟨pl, id, m, hk, h, Keeps.refl _ _ _ _, fun _ _ q => .inl q⟩
  | [], [], _, _, _ :: _, _, _, _, _, _, _, _, _, _, _, _, hk => by simp [backW] at hk
  | [], _ :: _, _, _, _, _, _, _, _, _, _, _, _, _, _, _, hk => by simp [backW] at hk
  | md :: mds, [], _, _, _, _, _, _, _, _, _, _, _, _, _, _, hk => by cases md <;> simp [backW] at hk
  | md :: mds, x :: xs, os, us, [], _, _, _, _, _, _, _, _, _, _, _, hk => by cases md <;> simp [backW] at hk
  | md :: mds, x :: xs, os, us, b :: bs, id, S, pl, m, F, K, h, hr, hro, ho, hm, hk => by
    cases ho with
    | skip o o' u os us bs F hn ho =>
      cases md with
      | ref s => obtain ⟨⟨cs, q⟩, _⟩ := hro; exact absurd q (hn cs)
      | _ => exact backW_sound mds xs os us bs id h (fun j x u hx hu => hr (j + 1) x u (by simpa using hx) (by simpa using hu)) hro ho hm (by simpa only [backW] using hk)
    | ptr cs0 cs' u os us bs F1 F2 h1 h2 hd =>
      have skip : backW id m mds xs bs K → RefOk mds os → ∃ pl' id' m', K id' m' ∧ Laid X S pl pl' w m m' (fun b o => F1 b o ∨ F2 b o) := fun hk hro => by
        obtain ⟨pl', id', m', g1, g2⟩ := backW_sound mds xs os us bs id h (fun j x u hx hu => hr (j + 1) x u (by simpa using hx) (by simpa using hu)) hro h2 (fun b q hf => hm b q (.inr hf)) hk
        exact ⟨pl', id', m', g1, g2.st, g2.kp, fun b q hf => (g2.feet b q hf).imp (fun q => q) .inr⟩
      cases md with
      | ref s =>
        cases x with
        | p i ver o =>
          simp only [backW] at hk
          obtain ⟨hs, hk⟩ := hk
          cases h1 with | ptr _ vs b q F' hL hb ht hc hdj =>
          obtain ⟨pl1, l1, r1⟩ := unpackL_sound (unpack_sound depth) cs' vs (1000000 * (i + 1)) h hL (fun b' o' hf => hm b' o' (.inl (.inl hf)))
          generalize hq : unpackL (unpack depth) (1000000 * (i + 1)) m cs' = U at l1 r1 hk
          have hUl : U.1.length = cs'.length := by rw [← hq, unpackL_length]
          split at hk
          · rename_i v cs hg
            obtain ⟨rfl, hle, hk⟩ := hk
            have hx := (hr 0 _ _ rfl rfl).mono l1.kp
            have hloc : b = (pl1 i).1 ∧ q = (pl1 i).2 + o := by
              generalize hu : Value.pointer (some ⟨b, q, none⟩) = uu at hx
              cases hx with | p _ _ _ b2 o2 hv hx =>
              obtain ⟨_, hb2⟩ := hx _ hg rfl
              injection hu with hu; injection hu with hu; injection hu with e1 e2
              rw [← hb2]; exact ⟨e1, e2⟩
            obtain ⟨hb1, hq1⟩ := hloc
            have hvl : vs.length = U.1.length := by rw [hUl, hL.length]
            have hmine : Mine X S pl1 U.2.2 (fun b' q' => b' = (pl1 i).1 ∧ (pl1 i).2 + o ≤ q' ∧ q' < (pl1 i).2 + o + vs.length) := fun b' q' hf => by
              have hf' : b' = b ∧ q ≤ q' ∧ q' < q + vs.length := by rw [hb1, hq1]; exact hf
              obtain ⟨g1, g2, g3⟩ := hm b' q' (.inl (.inr hf'))
              exact ⟨g1, g2, fun hft => (l1.feet b' q' hft).elim g3 (fun hf1 => hdj b' q' hf1 hf')⟩
            have l2 := giveBack l1.st hg o vs hvl (by omega) (fun j u hu => by rw [← hb1, ← hq1]; exact hc j u hu) r1 hmine
            have kp12 := l1.kp.trans l2.kp
            have hmine2 : Mine X S pl1 (U.2.2.upd i (.blk v (putAt cs o U.1))) F2 := fun b' q' hf => by
              obtain ⟨g1, g2, g3⟩ := hm b' q' (.inr hf)
              refine ⟨g1, g2, fun hft => ?_⟩
              rcases l2.feet b' q' hft with hft | hft
              · exact (l1.feet b' q' hft).elim g3 (fun hf1 => hd b' q' (.inl hf1) hf)
              · exact hd b' q' (.inr (by rw [hb1, hq1]; exact hft)) hf
            obtain ⟨pl', id', m', g1, g2⟩ := backW_sound mds xs os us bs id l2.st (fun j x u hx hu => (hr (j + 1) x u (by simpa using hx) (by simpa using hu)).mono kp12) hro.2 h2 hmine2 hk
            refine ⟨pl', id', m', g1, g2.st, kp12.trans g2.kp, fun b' q' hft => ?_⟩
            rcases g2.feet b' q' hft with hft | hft
            · rcases l2.feet b' q' hft with hft | hft
              · exact (l1.feet b' q' hft).imp (fun q => q) (fun q => .inl (.inl q))
              · exact .inr (.inl (.inr (by rw [hb1, hq1]; exact hft)))
            · exact .inr (.inr hft)
          · exact hk.elim
        | _ => simp [backW] at hk
      | _ => exact skip (by simpa only [backW] using hk) hro

theorem callKW_sound {D : Spec} (hD : ∀ f os Q, D f os Q → Den P X.G f os Q) (h : St X S pl w m) {site f : Nat} {xs : List AV} {us : List Value} (hl : us.length = xs.length) (hr : ∀ (j : Nat) x u, xs[j]? = some x → us[j]? = some u → RelV S pl w m x u)
    {K : KK} (hk : callKW D site m f xs K) : (∃ fn, P.funcs[f]? = some fn ∧ fn.body.isSome = true ∧ (fn.name == "runtime.NumGoroutine") = false) ∧ Calls P f us.toArray w fun e w' => ∃ v, e = .returned v ∧ ∃ S' pl' r m', K r m' ∧ RelV S' pl' w' m' r v ∧ St X S' pl' w' m' ∧ Keeps S S' pl pl' w w' m m' := by
  obtain ⟨mds, hk⟩ := hk
  obtain ⟨S1, os, m1, F, ⟨Q, hden, hk⟩, ho, hp, hro⟩ := argsW_sound mds xs us h hl hr hk
  have hmine : ∀ b o, F b o → (X.F0 b o ∨ X.w0.heap.size ≤ b) ∧ ¬ S1 b o ∧ ¬ Feet pl m1 b o ∧ b < w.heap.size := fun b o hf => by
    obtain ⟨⟨id, ob, hg, hf1⟩, hf2⟩ := hp.off b o hf
    exact ⟨h.own id ob hg b o hf1, hp.no b o hf, hf2, h.inv.foot_lt hg hf1⟩
  refine ⟨(hD f os Q hden).1, ?_⟩
  refine ((hD f os Q hden).2 S1 F w us hp.st.inv.low (fun b o hf => ⟨(hmine b o hf).2.2.2, (hmine b o hf).2.1⟩) hp.st.glob ho).mono ?_
  rintro e w' ⟨v, r, bs, S', Fr, Fb, rfl, hq, hor, hob, hend⟩
  refine ⟨v, rfl, ?_⟩
  obtain ⟨st2, kp2⟩ := hp.st.world hend.ext (fun b o hf => ⟨(hmine b o hf).1, (hmine b o hf).2.1, (hmine b o hf).2.2.1⟩) hend.sub hend.grow
  have hx := h.ext.size
  have hm : ∀ b o, Fr b o ∨ Fb b o → (X.F0 b o ∨ X.w0.heap.size ≤ b) ∧ ¬ S' b o ∧ ¬ Feet pl m1 b o := fun b o hf => by
    obtain ⟨h1, h2⟩ := hend.mine b o hf
    rcases h2 with h2 | h2
    · exact ⟨(hmine b o h2).1, h1, (hmine b o h2).2.2.1⟩
    · exact ⟨.inr (by omega), h1, fun ⟨id, ob, hg, hf'⟩ => by have := hp.st.inv.foot_lt hg hf'; omega⟩
  obtain ⟨pl3, id3, m3, hk3, l3⟩ := backW_sound mds xs os us bs site st2 (fun j x u hx hu => ((hr j x u hx hu).mono hp.kp).mono kp2) hro hob (fun b o hf => hm b o (.inr hf)) (hk r bs hq)
  obtain ⟨pl4, l4, r4⟩ := unpack_sound depth id3 l3.st hor (fun b o hf => by
    obtain ⟨g1, g2, g3⟩ := hm b o (.inl hf)
    exact ⟨g1, g2, fun hft => (l3.feet b o hft).elim g3 (hend.apart b o hf)⟩)
  exact ⟨S', pl4, _, _, hk3, r4, l4.st, ((hp.kp.trans kp2).trans l3.kp).trans l4.kp⟩

-- ---------------------------------------------------------------- byte rows that are lent
theorem isU8_of {S : Area} {w : World} {x : CV} {z : Int} (h : RelC S w x (.int .u8 z)) : isU8 x = true := by
  cases h; rfl
theorem safeR_get : ∀ {l : List CV} {j : Nat} {x : CV}, safeR l = true → l[j]? = some x → isU8 x = false ∧ safeC x = true
  | [], _, _, _, h => by simp at h
  | y :: l, j, x, hs, h => by
    simp only [safeR, Bool.and_eq_true, Bool.not_eq_true'] at hs
    cases j with
    | zero => simp at h; subst h; exact ⟨hs.1, hs.2.1⟩
    | succ j => exact safeR_get hs.2.2 (by simpa using h)
theorem safeE_get : ∀ {l : List (List CV)} {j : Nat} {x : List CV}, safeE l = true → l[j]? = some x → safeR x = true
  | [], _, _, _, h => by simp at h
  | y :: l, j, x, hs, h => by
    simp only [safeE, Bool.and_eq_true] at hs
    cases j with
    | zero => simp at h; subst h; exact hs.1
    | succ j => exact safeE_get hs.2 (by simpa using h)
theorem safeE_append : ∀ {a b : List (List CV)}, safeE a = true → safeE b = true → safeE (a ++ b) = true
  | [], _, _, h => h
  | x :: a, b, h, k => by
    simp only [safeE, Bool.and_eq_true, List.cons_append] at *
    exact ⟨h.1, safeE_append h.2 k⟩
/-- What is safe does not lie in cells that hold bytes. -/
theorem RelC.apart {S U : Area} {w : World} (hU : ∀ b o, U b o → ∃ z, cellAt w b o = some (.int .u8 z)) {x : CV} {u : Value} (h : RelC S w x u) : safeC x = true → RelC (fun b o => S b o ∧ ¬ U b o) w x u := by
  induction h with
  | v y hy => exact fun _ => .v _ hy
  | sl sz es sp a cap b o f hcap hsp ha hl hs hc hr ih =>
    intro hsafe
    simp only [safeC, Bool.and_eq_true] at hsafe
    have hE : safeE (es ++ sp.getD []) = true := safeE_append hsafe.1 (by
      cases sp with
      | none => rfl
      | some s => exact hsafe.2)
    have hcell : ∀ k, k < (es ++ sp.getD []).length * sz → ∃ i j e x, (es ++ sp.getD [])[i]? = some e ∧ e[j]? = some x ∧ k = i * sz + j := fun k hk => by
      have hpos : 0 < sz := by
        rcases Nat.eq_zero_or_pos sz with h0 | h0
        · subst h0; simp at hk
        · exact h0
      have h1 : k / sz < (es ++ sp.getD []).length := (Nat.div_lt_iff_lt_mul hpos).2 hk
      have h2 := hl _ _ (List.getElem?_eq_getElem h1)
      have h3 : k % sz < ((es ++ sp.getD [])[k / sz]).length := by rw [h2]; exact Nat.mod_lt _ hpos
      exact ⟨k / sz, k % sz, _, _, List.getElem?_eq_getElem h1, List.getElem?_eq_getElem h3, by rw [Nat.mul_comm]; exact (Nat.div_add_mod _ _).symm⟩
    refine .sl sz es sp a cap b o f hcap hsp ha hl (fun k hk => ⟨hs k hk, fun hu => ?_⟩) hc (fun i j e x he hx => ih i j e x he hx (safeR_get (safeE_get hE he) hx).2)
    obtain ⟨i, j, e, x, he, hx, rfl⟩ := hcell k hk
    obtain ⟨z, hz⟩ := hU _ _ hu
    have h1 := hr i j e x he hx
    have h2 := hc _ hk
    rw [hz] at h2; injection h2 with h2
    rw [← h2] at h1
    have := isU8_of h1
    rw [(safeR_get (safeE_get hE he) hx).1] at this; cases this
  | rp cs b o f hs hc hr ih =>
    intro hsafe
    simp only [safeC] at hsafe
    refine .rp cs b o f (fun i hi => ⟨hs i hi, fun hu => ?_⟩) hc (fun i x hx => ih i x hx (safeR_get hsafe hx).2)
    obtain ⟨z, hz⟩ := hU _ _ hu
    have hx : cs[i]? = some cs[i] := List.getElem?_eq_getElem hi
    have h1 := hr i _ hx
    have h2 := hc _ hi
    rw [hz] at h2; injection h2 with h2
    rw [← h2] at h1
    have := isU8_of h1
    rw [(safeR_get hsafe hx).1] at this; cases this
mutual
theorem Own.apart {S U : Area} {w : World} (hU : ∀ b o, U b o → ∃ z, cellAt w b o = some (.int .u8 z)) : ∀ {o : OV} {u : Value} {F : Area}, Own S w F o u → safeO o = true → Own (fun b o => S b o ∧ ¬ U b o) w F o u
  | _, _, _, .c x u h, hs => .c x u (h.apart hU hs)
  | _, _, _, .arr sz es cap pub n b capn h, hs => by
    simp only [safeO, Bool.and_eq_true, Bool.not_eq_true'] at hs
    obtain ⟨hp, hs⟩ := hs
    subst hp
    obtain ⟨h1, h2, h3, h4, h5, ⟨hl, f, hc, hr⟩, h7, h8⟩ := h
    refine .arr sz es cap false n b capn ⟨h1, h2, h3, h4, h5, ⟨hl, f, hc, fun i j e x he hx => (hr i j e x he hx).apart hU ?_⟩, (by intro q; cases q), h8⟩
    exact List.all_eq_true.1 (List.all_eq_true.1 hs e (List.mem_of_getElem? he)) x (List.mem_of_getElem? hx)
  | _, _, _, .ptr cs us b o F h hb ht hc hd, hs => by simp [safeO] at hs
  | _, _, _, .agg cs us F h, hs => .agg cs us F (OwnL.apart hU h (by simpa [safeO] using hs))
  | _, _, _, .tup cs us F h, hs => .tup cs us F (OwnL.apart hU h (by simpa [safeO] using hs))
theorem OwnL.apart {S U : Area} {w : World} (hU : ∀ b o, U b o → ∃ z, cellAt w b o = some (.int .u8 z)) : ∀ {os : List OV} {us : List Value} {F : Area}, OwnL S w F os us → safeOs os = true → OwnL (fun b o => S b o ∧ ¬ U b o) w F os us
  | _, _, _, .nil, _ => .nil
  | _, _, _, .cons o u os us F1 F2 h1 h2 hd, hs => by
    simp only [safeOs, Bool.and_eq_true] at hs
    exact .cons o u os us F1 F2 (Own.apart hU h1 hs.1) (OwnL.apart hU h2 hs.2) hd
end
/-- The cells of byte rows that could be lent. -/
def Lends (pl : Place) (m : Mem) : Area := fun b o => ∃ id v sz es cap, m.get id = some (.arr v sz es cap false) ∧ u8E es = true ∧ b = (pl id).1 ∧ o < es.length * sz
theorem lends_foot {b o : Nat} (h : Lends pl m b o) : Feet pl m b o := by
  obtain ⟨id, v, sz, es, cap, hg, _, hb, _⟩ := h
  exact ⟨id, _, hg, hb, fun q => by cases q⟩
theorem lends_u8 (h : St X S pl w m) {b o : Nat} (hu : Lends pl m b o) : ∃ z, cellAt w b o = some (.int .u8 z) := by
  obtain ⟨id, v, sz, es, cap, hg, h8, rfl, ho⟩ := hu
  obtain ⟨_, _, hpos, _, _, ⟨hl, f, hc, hr⟩, _⟩ := h.inv.ob id _ hg
  have h1 : o / sz < es.length := (Nat.div_lt_iff_lt_mul hpos).2 ho
  have h2 := hl _ _ (List.getElem?_eq_getElem h1)
  have h3 : o % sz < (es[o / sz]).length := by rw [h2]; exact Nat.mod_lt _ hpos
  have h4 := hr _ _ _ _ (List.getElem?_eq_getElem h1) (List.getElem?_eq_getElem h3)
  have h5 : o / sz * sz + o % sz = o := by rw [Nat.mul_comm]; exact Nat.div_add_mod _ _
  rw [h5] at h4
  have h6 : isU8 (es[o / sz])[o % sz] = true := List.all_eq_true.1 (List.all_eq_true.1 h8 _ (List.getElem_mem h1)) _ (List.getElem_mem h3)
  generalize (es[o / sz])[o % sz] = x at h4 h6
  cases x with
  | v y =>
    cases y with
    | int k z =>
      cases k <;> simp [isU8] at h6
      generalize hq : f o = q at h4
      cases h4; exact ⟨z, (hc o ho).trans (by rw [hq])⟩
    | _ => simp [isU8] at h6
  | _ => simp [isU8] at h6
theorem lendA_sound (h : St X S pl w m) {x : AV} {z : CV} {u : Value} (hr : RelV S pl w m x u) (hk : lendA m x z) : RelC (fun b o => S b o ∨ Lends pl m b o) w z u := by
  cases x with
  | c y =>
    cases hr with | c _ _ hr =>
    have hr' : RelC (fun b o => S b o ∨ Lends pl m b o) w y u := hr.mono (fun _ _ q => .inl q) (fun _ _ _ => rfl)
    have hk' : z = y ∨ z = normC y := hk
    rcases hk' with rfl | rfl
    · exact hr'
    · exact hr'.norm
  | t id ver n =>
    cases z with
    | sl sz es' sp' =>
      simp only [lendA] at hk
      split at hk
      · rename_i v sz' es cap hg
        obtain ⟨rfl, rfl, hn, h8, rfl, hsp⟩ := hk
        cases hr with | t _ _ _ b capn hv hnc hr =>
        obtain ⟨sz2, es2, cap2, pub2, e, heq, hn', rfl, hs⟩ := hr _ hg rfl
        injection heq with _ h1 h2 h3 h4; subst h1 h2 h3 h4
        obtain ⟨h0, hpos, hth, hsh, ⟨hl, f, hc, hrr⟩, _⟩ := (h.inv.ob id _ hg).2
        have hok : ObOk (fun b o => S b o ∨ Lends pl m b o) pl w m (pl id) (.arr v sz es cap true) :=
          ⟨h0, hpos, ⟨hth.1, (by intro q; cases q)⟩, hsh, ⟨hl, f, hc, fun i j e x he hx => (hrr i j e x he hx).mono (fun _ _ q => .inl q) (fun _ _ _ => rfl)⟩, fun _ o ho => .inr ⟨id, v, sz, es, cap, hg, h8, rfl, ho⟩⟩
        have key := RelC.of_arr hok hn hs
        rcases hsp with rfl | ⟨hcc, rfl⟩
        · exact key.norm
        · rw [if_pos hcc] at key; exact key
      · exact hk.elim
    | _ => exact hk.elim
  | _ => cases z <;> exact hk.elim
theorem lendC_sound (h : St X S pl w m) : ∀ (xs : List AV) (zs : List OV) (us : List Value), us.length = xs.length → (∀ (j : Nat) x u, xs[j]? = some x → us[j]? = some u → RelV S pl w m x u) → lendC xs zs →
    ∃ F, OwnL (fun b o => S b o ∨ Lends pl m b o) w F zs us ∧ ∀ b o, ¬ F b o
  | [], [], [], _, _, _ => ⟨_, .nil, fun _ _ q => q⟩
  | [], [], _ :: _, hl, _, _ => by simp at hl
  | [], _ :: _, _, _, _, hk => hk.elim
  | _ :: _, _, [], hl, _, _ => by simp at hl
  | x :: xs, [], _ :: _, _, _, hk => by cases x <;> exact hk.elim
  | x :: xs, o :: zs, u :: us, hl, hr, hk => by
    cases x with
    | c y =>
      cases o with
      | c z =>
        obtain ⟨h1, h2⟩ := hk
        obtain ⟨F, hF, hn⟩ := lendC_sound h xs zs us (by simpa using hl) (fun j x u hx hu => hr (j + 1) x u (by simpa using hx) (by simpa using hu)) h2
        exact ⟨_, .cons _ u _ us _ F (.c z u (lendA_sound h (hr 0 _ u rfl rfl) h1)) hF (fun _ _ q => q.elim), fun b o q => q.elim (fun q => q) (hn b o)⟩
      | _ => exact hk.elim
    | _ => cases o <;> exact hk.elim
theorem lendL_sound (h : St X S pl w m) : ∀ (xs : List AV) (zs : List OV) (us : List Value), us.length = xs.length → (∀ (j : Nat) x u, xs[j]? = some x → us[j]? = some u → RelV S pl w m x u) → lendL m xs zs →
    ∃ F, OwnL (fun b o => S b o ∨ Lends pl m b o) w F zs us ∧ ∀ b o, ¬ F b o
  | [], [], [], _, _, _ => ⟨_, .nil, fun _ _ q => q⟩
  | [], [], _ :: _, hl, _, _ => by simp at hl
  | [], _ :: _, _, _, _, hk => by simp [lendL] at hk
  | _ :: _, _, [], hl, _, _ => by simp at hl
  | x :: xs, [], _ :: _, _, _, hk => by cases x <;> simp [lendL] at hk
  | x :: xs, o :: zs, u :: us, hl, hr, hk => by
    have rest : lendL m xs zs → ∃ F, OwnL (fun b o => S b o ∨ Lends pl m b o) w F zs us ∧ ∀ b o, ¬ F b o := fun h2 =>
      lendL_sound h xs zs us (by simpa using hl) (fun j x u hx hu => hr (j + 1) x u (by simpa using hx) (by simpa using hu)) h2
    have one : ∀ z, o = .c z → lendA m x z → lendL m xs zs → ∃ F, OwnL (fun b o => S b o ∨ Lends pl m b o) w F (o :: zs) (u :: us) ∧ ∀ b o, ¬ F b o := fun z ho h1 h2 => by
      subst ho
      obtain ⟨F, hF, hn⟩ := rest h2
      exact ⟨_, .cons _ u _ us _ F (.c z u (lendA_sound h (hr 0 _ u rfl rfl) h1)) hF (fun _ _ q => q.elim), fun b o q => q.elim (fun q => q) (hn b o)⟩
    cases o with
    | c z => cases x <;> exact one z rfl hk.1 hk.2
    | agg ws =>
      cases x with
      | agg cs =>
        obtain ⟨h1, h2⟩ := hk
        have h0 := hr 0 _ u rfl rfl
        cases h0 with | agg _ vs hvl hvr =>
        obtain ⟨F1, hF1, hn1⟩ := lendC_sound h cs ws vs hvl hvr h1
        obtain ⟨F, hF, hn⟩ := rest h2
        exact ⟨_, .cons _ _ _ us F1 F (.agg _ vs F1 hF1) hF (fun b o q => absurd q (hn1 b o)), fun b o q => q.elim (hn1 b o) (hn b o)⟩
      | _ => simp [lendL] at hk
    | _ => cases x <;> simp [lendL] at hk
theorem callLW_sound {D : Spec} (hD : ∀ f os Q, D f os Q → Den P X.G f os Q) (h : St X S pl w m) {site f : Nat} {xs : List AV} {us : List Value} (hl : us.length = xs.length) (hr : ∀ (j : Nat) x u, xs[j]? = some x → us[j]? = some u → RelV S pl w m x u)
    {K : KK} (hk : callLW D site m f xs K) : (∃ fn, P.funcs[f]? = some fn ∧ fn.body.isSome = true ∧ (fn.name == "runtime.NumGoroutine") = false) ∧ Calls P f us.toArray w fun e w' => ∃ v, e = .returned v ∧ ∃ S' pl' r m', K r m' ∧ RelV S' pl' w' m' r v ∧ St X S' pl' w' m' ∧ Keeps S S' pl pl' w w' m m' := by
  obtain ⟨os, hlend, Q, hden, hk⟩ := hk
  obtain ⟨F, ho, hF⟩ := lendL_sound h xs os us hl hr hlend
  refine ⟨(hD f os Q hden).1, ?_⟩
  have hlow : ∀ b o, (S b o ∨ Lends pl m b o) → b < w.heap.size := fun b o q => by
    rcases q with q | q
    · exact h.inv.low b o q
    · obtain ⟨z, hz⟩ := lends_u8 h q; exact cell_lt hz
  refine ((hD f os Q hden).2 _ F w us hlow (fun b o q => absurd q (hF b o)) (fun g cs hg => (h.glob g cs hg).mono (fun _ _ q => .inl q) (fun _ _ _ => rfl)) ho).mono ?_
  rintro e w' ⟨v, r, bs, S', Fr, Fb, rfl, hq, hor, hob, hend⟩
  refine ⟨v, rfl, ?_⟩
  obtain ⟨hsafe, hK⟩ := hk r bs hq
  have hU : ∀ b o, Lends pl m b o → ∃ z, cellAt w' b o = some (.int .u8 z) := fun b o q => by
    obtain ⟨z, hz⟩ := lends_u8 h q
    exact ⟨z, by rw [hend.ext.cell b o (cell_lt hz) (hF b o)]; exact hz⟩
  have hor2 := Own.apart hU hor hsafe
  obtain ⟨st2, kp2⟩ := h.world (S' := fun b o => S' b o ∧ ¬ Lends pl m b o) hend.ext (fun b o q => absurd q (hF b o)) (fun b o hs => ⟨hend.sub b o (.inl hs), fun q => by
      obtain ⟨id, ob, hg, hf⟩ := lends_foot q
      exact h.inv.free id ob hg b o hf hs⟩) (fun b o hs => by
      obtain ⟨h1, h2⟩ := hend.grow b o hs.1
      refine ⟨h1, ?_⟩
      rcases h2 with (h2 | h2) | h2 | h2
      · exact .inl h2
      · exact absurd h2 hs.2
      · exact absurd h2 (hF b o)
      · exact .inr (.inr h2))
  have hx := h.ext.size
  have hm : ∀ b o, Fr b o → (X.F0 b o ∨ X.w0.heap.size ≤ b) ∧ ¬ (S' b o ∧ ¬ Lends pl m b o) ∧ ¬ Feet pl m b o := fun b o hf => by
    obtain ⟨h1, h2⟩ := hend.mine b o (.inl hf)
    rcases h2 with h2 | h2
    · exact absurd h2 (hF b o)
    · exact ⟨.inr (by omega), fun q => h1 q.1, fun ⟨id, ob, hg, hf'⟩ => by have := h.inv.foot_lt hg hf'; omega⟩
  obtain ⟨pl4, l4, r4⟩ := unpack_sound depth site st2 hor2 hm
  exact ⟨_, pl4, _, _, hK, r4, l4.st, kp2.trans l4.kp⟩
theorem callW_sound {D : Spec} (hD : ∀ f os Q, D f os Q → Den P X.G f os Q) (h : St X S pl w m) {site f : Nat} {xs : List AV} {us : List Value} (hl : us.length = xs.length) (hr : ∀ (j : Nat) x u, xs[j]? = some x → us[j]? = some u → RelV S pl w m x u)
    {K : KK} (hk : callW D site m f xs K) : (∃ fn, P.funcs[f]? = some fn ∧ fn.body.isSome = true ∧ (fn.name == "runtime.NumGoroutine") = false) ∧ Calls P f us.toArray w fun e w' => ∃ v, e = .returned v ∧ ∃ S' pl' r m', K r m' ∧ RelV S' pl' w' m' r v ∧ St X S' pl' w' m' ∧ Keeps S S' pl pl' w w' m m' := by
  rcases hk with hk | hk
  · exact callKW_sound hD h hl hr hk
  · exact callLW_sound hD h hl hr hk
end
end Go.Proofs.Ythncmjlcmlmnmaa.V

namespace Go.Proofs.Ythncmjlcmlmnmaa.V
open Go Go.RowKit

structure TmR (S : Area) (pl : Place) (w : World) (m : Mem) (tm : List AV) (a : Act) : Prop where
  defers : a.defers = []
  size : a.tmps.size = tm.length
  rel : ∀ (i : Nat) x, tm[i]? = some x → RelV S pl w m x (a.tmps.getD i undef)

section
variable {P : Program} {T : Tab} {X : Ctx} {S : Area} {pl : Place} {w : World} {m : Mem} {tm : List AV} {a : Act}

theorem TmR.mono {S' : Area} {pl' : Place} {w' : World} {m' : Mem} (k : Keeps S S' pl pl' w w' m m') (h : TmR S pl w m tm a) : TmR S' pl' w' m' tm a := ⟨h.defers, h.size, fun i x hx => (h.rel i x hx).mono k⟩
theorem TmR.put (h : TmR S pl w m tm a) {x : AV} {u : Value} (hr : RelV S pl w m x u) (d : Option Tmp) : TmR S pl w m (setO tm d x) (a.put d u) := by
  cases d with
  | none => exact h
  | some d =>
    refine ⟨h.defers, by simp [setO, Act.put, h.size], fun i y hy => ?_⟩
    simp only [setO, List.getElem?_set] at hy
    simp only [Act.put]
    by_cases hi : d = i
    · subst hi
      rw [if_pos rfl] at hy
      split at hy
      · injection hy with hy; subst hy
        rename_i hlt
        have : (a.tmps.setIfInBounds d u).getD d undef = u := by simp [Array.getD, h.size, hlt]
        rw [this]; exact hr
      · simp at hy
    · rw [if_neg hi] at hy
      have : (a.tmps.setIfInBounds d u).getD i undef = a.tmps.getD i undef := by
        rw [Array.getD_eq_getD_getElem?, Array.getD_eq_getD_getElem?, Array.getElem?_setIfInBounds_ne hi]
      rw [this]; exact h.rel i y hy

theorem evO_sound (hs : St X S pl w m) (h : TmR S pl w m tm a) (ty : Nat) (x : Operand) : RelV S pl w m (evO T X.G tm ty x) (a.eval x) := by
  cases x with
  | tmp t =>
    simp only [evO, Act.eval]
    by_cases ht : t < tm.length
    · have hx : tm[t]? = some tm[t] := List.getElem?_eq_getElem ht
      have := h.rel t _ hx
      simpa [List.getD, hx] using this
    · simp [List.getD, List.getElem?_eq_none (Nat.not_lt.1 ht)]; exact .dead _
  | const v =>
    simp only [evO, Act.eval]
    unfold constA
    split
    · exact .c _ _ (.sl _ [] (some []) none 0 0 0 (fun _ => .nilFunc) (Nat.le_refl _) (fun s h => by injection h with h; subst h; rfl) (fun h => absurd rfl h) (fun i e h => by simp at h) (fun k h => by simp at h) (fun k h => by simp at h) (fun i j e x h => by simp at h))
    · split
      · exact .c _ _ (.v _ (by assumption))
      · exact .dead _
  | global g =>
    simp only [evO, Act.eval]
    split
    · rename_i cs hg; exact .c _ _ (hs.glob g cs hg)
    · exact .dead _
  | func f => exact .c _ _ (.v _ rfl)

theorem evL_sound (hs : St X S pl w m) (h : TmR S pl w m tm a) : ∀ (xs : List Operand) (tys : List TypeId), (xs.map a.eval).length = (evL T X.G tm xs tys).length ∧ ∀ (j : Nat) x u, (evL T X.G tm xs tys)[j]? = some x → (xs.map a.eval)[j]? = some u → RelV S pl w m x u
  | [], _ => ⟨rfl, fun j x u hx => by simp [evL] at hx⟩
  | x :: xs, tys => by
    obtain ⟨h1, h2⟩ := evL_sound hs h xs tys.tail
    refine ⟨by simp only [List.map_cons, List.length_cons, evL]; rw [h1], fun j y u hy hu => ?_⟩
    cases j with
    | zero => simp [evL] at hy hu; subst hy hu; exact evO_sound hs h _ x
    | succ j => exact h2 j y u (by simpa [evL] using hy) (by simpa using hu)


theorem condB_sound {x : AV} {u : Value} (h : RelV S pl w m x u) {A B : Prop} (hk : condB x A B) : ∃ b, u = .bool b ∧ (b = true → A) ∧ (b = false → B) := by
  unfold condB at hk
  split at hk
  · exact ⟨_, relV_v h, hk⟩
  · exact hk.elim

/-- An operation that makes a value. -/
theorem wp_value (o : Oper) {next : Act → World → Prop} {Q : Exit → Act → World → Prop} {s : Sem Value} {u : Value} {w' : World} (he : (execOp a.eval o).run P w = ((do pure (Next.value (← s)) : Sem Next)).run P w) (hr : s.run P w = .ok u w') (hn : next (a.put o.dst u) w') : o.wp P a w next Q := by
  unfold Oper.wp
  rw [he, Sem.run_bind, hr]
  exact hn

/-- What stands behind an operation. -/
def After (X : Ctx) (S : Area) (pl : Place) (w : World) (m : Mem) (tm : List AV) (d : Option Tmp) (K : KK) (a' : Act) (w' : World) : Prop :=
  ∃ v S' pl' m', K v m' ∧ St X S' pl' w' m' ∧ Keeps S S' pl pl' w w' m m' ∧ TmR S' pl' w' m' (setO tm d v) a'

theorem Did.next {K : KK} {d : Option Tmp} (h : TmR S pl w m tm a) {s : Sem Value} (hd : Did X S pl w m (s.run P w) K) : ∃ u w', s.run P w = .ok u w' ∧ After X S pl w m tm d K (a.put d u) w' := by
  obtain ⟨u, w', S', pl', v, m', e1, e2, e3, e4, e5⟩ := hd
  exact ⟨u, w', e1, v, S', pl', m', e2, e4, e5, (h.mono e5).put e3 d⟩

theorem pairs_rel (hs : St X S pl w m) (h : TmR S pl w m tm a) (ps : Array (Nat × Operand)) :
    (ps.toList.map fun p => (p.1, a.eval p.2)).length = (ps.toList.map fun p => (p.1, evO T X.G tm 0 p.2)).length ∧
    ∀ (j : Nat) p q, (ps.toList.map fun p => (p.1, evO T X.G tm 0 p.2))[j]? = some p → (ps.toList.map fun p => (p.1, a.eval p.2))[j]? = some q → p.1 = q.1 ∧ RelV S pl w m p.2 q.2 := by
  refine ⟨by simp, fun j p q hp hq => ?_⟩
  rw [List.getElem?_map] at hp hq
  cases hj : ps.toList[j]? with
  | none => rw [hj] at hp; simp at hp
  | some x => rw [hj] at hp hq; simp at hp hq; subst hp hq; exact ⟨rfl, evO_sound hs h 0 x.2⟩

theorem bndRel (hs : St X S pl w m) (h : TmR S pl w m tm a) (x : Option Operand) : BndRel S pl w m (x.map (evO T X.G tm 0)) (x.map a.eval) := by
  cases x with
  | none => trivial
  | some x => exact evO_sound hs h 0 x

theorem builtinW_sound (hT : TabOk P T) (hs : St X S pl w m) (site : Nat) (b : Builtin) (tys : List TypeId) (ty : TypeId) (consts : Array Bool) {xs : List AV} {us : List Value} (hl : us.length = xs.length)
    (hr : ∀ (j : Nat) x u, xs[j]? = some x → us[j]? = some u → RelV S pl w m x u) {K : KK} (hk : builtinW T site m b tys xs K) :
    ∃ s : Sem Value, (builtin b tys.toArray ty consts us.toArray) = (do pure (Next.value (← s)) : Sem Next) ∧ Did X S pl w m (s.run P w) K := by
  unfold builtinW at hk
  split at hk
  · rename_i x t
    match us, hl with
    | [u], _ => exact ⟨_, rfl, lenW_sound hT hs (tys := #[t]) rfl (hr 0 x u rfl rfl) hk⟩
  · rename_i x t
    match us, hl with
    | [u], _ => exact ⟨_, rfl, capW_sound hT hs (tys := #[t]) rfl (hr 0 x u rfl rfl) hk⟩
  · rename_i tys; exact ⟨Builtin.min_ tys.toArray ty us.toArray, rfl, minmaxW_sound (tys := tys.toArray) (ty := ty) hs hl hr false hk⟩
  · rename_i tys; exact ⟨Builtin.max_ tys.toArray ty us.toArray, rfl, minmaxW_sound (tys := tys.toArray) (ty := ty) hs hl hr true hk⟩
  · rename_i x y t t2
    match us, hl with
    | [u, v], _ =>
      split at hk
      · rename_i h1 h2; exact ⟨_, rfl, appendW_sound hT hs h1 (.inl ⟨_, _, _, _, h2⟩) site (hr 0 x u rfl rfl) (hr 1 y v rfl rfl) hk⟩
      · rename_i h1 h2; exact ⟨_, rfl, appendW_sound hT hs h1 (.inr h2) site (hr 0 x u rfl rfl) (hr 1 y v rfl rfl) hk⟩
      · exact hk.elim
  · rename_i x y t t2
    match us, hl with
    | [u, v], _ =>
      split at hk
      · rename_i h1; exact ⟨_, rfl, copyW_sound hT hs h1 (hr 0 x u rfl rfl) (hr 1 y v rfl rfl) hk⟩
      · exact hk.elim
  · exact hk.elim

theorem opW_sound {D : Spec} (hT : TabOk P T) (hD : ∀ f os Q, D f os Q → Den P X.G f os Q) (hs : St X S pl w m) (h : TmR S pl w m tm a) (o : Oper) {K : KK} (hk : opW T X.G D tm o m K) {Q : Exit → Act → World → Prop} :
    o.wp P a w (After X S pl w m tm o.dst K) Q := by
  have fin : ∀ {s : Sem Value}, (execOp a.eval o).run P w = ((do pure (Next.value (← s)) : Sem Next)).run P w → Did X S pl w m (s.run P w) K → o.wp P a w (After X S pl w m tm o.dst K) Q := fun he hd => by
    obtain ⟨u, w', h1, h2⟩ := hd.next (tm := tm) (a := a) (d := o.dst) h
    exact wp_value o he h1 h2
  have pureS : ∀ {x : AV} {u : Value}, (execOp a.eval o).run P w = .ok (.value u) w → RelV S pl w m x u → K x m → o.wp P a w (After X S pl w m tm o.dst K) Q := fun {x u} he hr hk => by
    unfold Oper.wp
    rw [he]
    exact ⟨x, S, pl, m, hk, hs, Keeps.refl _ _ _ _, h.put hr o.dst⟩
  unfold opW at hk
  dsimp only at hk
  split at hk
  · rename_i x ho; exact pureS (x := evO T X.G tm o.type x) (u := a.eval x) (by unfold execOp; rw [ho]; rfl) (evO_sound hs h _ x) hk
  · rename_i x ho; exact pureS (x := evO T X.G tm o.type x) (u := a.eval x) (by unfold execOp; rw [ho]; rfl) (evO_sound hs h _ x) hk
  · rename_i c x y ho
    obtain ⟨b, hb, h1, h2⟩ := condB_sound (evO_sound hs h 0 c) hk
    cases b with
    | true => exact pureS (x := evO T X.G tm o.type x) (u := a.eval x) (by unfold execOp; rw [ho]; simp only [hb]; rfl) (evO_sound hs h _ x) (h1 rfl)
    | false => exact pureS (x := evO T X.G tm o.type y) (u := a.eval y) (by unfold execOp; rw [ho]; simp only [hb]; rfl) (evO_sound hs h _ y) (h2 rfl)
  · rename_i e ho
    split at hk
    · exact hk.elim
    · rename_i n hn; exact fin (by unfold execOp; rw [ho]) (allocW_sound hT hs hn _ hk)
  · rename_i e x ho; exact fin (by unfold execOp; rw [ho]) (boxW_sound hs e _ (evO_sound hs h e x) hk)
  · rename_i t ps ho
    obtain ⟨h1, h2⟩ := pairs_rel (T := T) hs h ps
    refine fin (s := Instr.build t (ps.map fun (i, x) => (i, a.eval x))) (by unfold execOp; rw [ho]) ?_
    have := buildW_sound (K := K) hT hs (t := t) h1 h2 (by
      split at hk
      · rename_i hk2; rw [hk2]; exact hk
      · rename_i hk2; rw [hk2]; exact hk
      · exact hk.elim)
    have e : (ps.map fun (i, x) => (i, a.eval x)) = (ps.toList.map fun p => (p.1, a.eval p.2)).toArray := by apply Array.ext'; simp
    rw [e]; exact this
  · rename_i t len ps ho
    obtain ⟨h1, h2⟩ := pairs_rel (T := T) hs h ps
    split at hk
    · rename_i hk2
      refine fin (s := Instr.buildSlice t len (ps.map fun (i, x) => (i, a.eval x))) (by unfold execOp; rw [ho]) ?_
      have e : (ps.map fun (i, x) => (i, a.eval x)) = (ps.toList.map fun p => (p.1, a.eval p.2)).toArray := by apply Array.ext'; simp
      rw [e]; exact buildSliceW_sound hT hs hk2 _ h1 h2 hk
    · exact hk.elim
  · rename_i t x ho
    split at hk
    · exact hk.elim
    · rename_i n hn; exact fin (by unfold execOp; rw [ho]) (loadW_sound hT hs hn (evO_sound hs h 0 x) hk)
  · rename_i t x y ho
    split at hk
    · exact hk.elim
    · rename_i n hn
      obtain ⟨w', S', m', h1, h2, h3, h4⟩ := storeW_sound hT hs hn (evO_sound hs h 0 x) (evO_sound hs h t y) hk
      unfold Oper.wp
      have : (execOp a.eval o).run P w = .ok .skip w' := by
        unfold execOp; rw [ho]
        simp only [Sem.run_bind, h1, Result.andThen_ok, Sem.run_pure]
      rw [this]
      exact ⟨.dead, S', pl, m', h2, h3, h4, (h.mono h4).put (.dead undef) o.dst⟩
  · rename_i x ho
    obtain ⟨u, v, h1, h2, h3⟩ := nilCheckW_sound (P := P) o x a.eval ho (evO_sound hs h 0 x) hk
    exact pureS h1 h3 h2
  · rename_i op t x y _ ho
    split at hk
    · rename_i p hp
      have hxa := evO_sound (T := T) hs h t x
      have hya := evO_sound (T := T) hs h t y
      obtain ⟨xs, ys⟩ := p
      unfold aggs at hp
      split at hp
      · rename_i q1 q2
        injection hp with hp; injection hp with e1 e2; subst e1 e2
        rw [q1] at hxa; rw [q2] at hya
        exact fin (s := do eqGuard op t x y (a.eval x) (a.eval y); binOp op t (a.eval x) (a.eval y)) (by unfold execOp; rw [ho]) (eqW_sound hT hs op t x y hxa hya hk)
      · simp at hp
    · exact fin (s := do eqGuard op t x y (a.eval x) (a.eval y); binOp op t (a.eval x) (a.eval y)) (by unfold execOp; rw [ho]) (binW_sound hT hs op t x y (evO_sound hs h t x) (evO_sound hs h t y) hk)
  · rename_i op _ x ho; exact fin (by unfold execOp; rw [ho]) (unW_sound hs op (evO_sound hs h 0 x) hk)
  · rename_i s d x ho; exact fin (by unfold execOp; rw [ho]) (convW_sound hT hs _ (evO_sound hs h s x) hk)
  · rename_i t l c ho
    split at hk
    · rename_i hk2; exact fin (by unfold execOp; rw [ho]) (makeSliceW_sound hT hs hk2 _ (evO_sound hs h 0 l) (evO_sound hs h 0 c) hk)
    · exact hk.elim
  · rename_i t x lo hi mx ho
    exact fin (by unfold execOp; rw [ho]) (sliceW_sound hT hs (evO_sound hs h t x) (bndRel hs h lo) (bndRel hs h hi) (bndRel hs h mx) hk)
  · rename_i s x f ho
    split at hk
    · rename_i fs hk2
      split at hk
      · rename_i hf; exact fin (by unfold execOp; rw [ho]) (fieldAddrW_sound hs hT hk2 hf (evO_sound hs h 0 x) hk)
      · exact hk.elim
      · exact hk.elim
    · exact hk.elim
  · rename_i t x f ho
    split at hk
    · rename_i fs hk2
      split at hk
      · rename_i hf; exact fin (by unfold execOp; rw [ho]) (fieldW_sound hT hs hk2 hf (evO_sound hs h 0 x) hk)
      · exact hk.elim
    · exact hk.elim
  · rename_i t x i ho; exact fin (by unfold execOp; rw [ho]) (indexAddrW_sound hT hs (evO_sound hs h t x) (evO_sound hs h 0 i) hk)
  · rename_i t x i ho; exact fin (by unfold execOp; rw [ho]) (indexW_sound hT hs (evO_sound hs h t x) (evO_sound hs h 0 i) hk)
  · rename_i x i ho; exact fin (by unfold execOp; rw [ho]) (extractW_sound hs (evO_sound hs h 0 x) hk)
  · rename_i c ho
    obtain ⟨hl, hr⟩ := evL_sound (T := T) hs h c.args.toList c.argTypes.toList
    have hargs : c.args.map a.eval = (c.args.toList.map a.eval).toArray := by apply Array.ext'; simp
    split at hk
    · rename_i b hb
      obtain ⟨s, h1, h2⟩ := builtinW_sound hT hs (siteOf o.dst) b c.argTypes.toList o.type (c.args.map fun | .const _ => true | _ => false) hl hr hk
      refine fin (s := s) ?_ h2
      rw [← h1]
      unfold execOp; rw [ho]
      simp only [Sem.run_bind, resolve, hb, Sem.run_pure, Result.andThen_ok, invoke, ← hargs, Array.toArray_toList]
      rfl
    · rename_i f hf
      have hfr := evO_sound (T := T) hs h 0 f
      split at hk
      · rename_i g first captured hev
        obtain ⟨rfl, rfl, hk⟩ := hk
        rw [hev] at hfr
        have hfv := relV_v hfr
        obtain ⟨⟨fn, hfn, hbody, hname⟩, hcall⟩ := callW_sound hD hs hl hr hk
        unfold Oper.wp
        have hrun : (execOp a.eval o).run P w = .ok (.enter g (c.args.toList.map a.eval).toArray) w := by
          unfold execOp; rw [ho]
          have hnone : fn.body.isNone = false := by cases hq : fn.body <;> simp_all
          simp only [Sem.run_bind, resolve, hf, hfv, Deferred.ofValue, Sem.run_pure, Result.andThen_ok, invoke, callFunc, run_program, hfn, hname, Bool.false_eq_true, if_false, hnone, hargs]
          simp
        rw [hrun, Oper.upon_enter]
        refine hcall.mono ?_
        rintro e w' ⟨v, rfl, S', pl', r, m', hK, hrel, hst, hkp⟩
        exact ⟨r, S', pl', m', hK, hst, hkp, (h.mono hkp).put hrel o.dst⟩
      · exact hk.elim
    · exact hk.elim
  · exact hk.elim
end
end Go.Proofs.Ythncmjlcmlmnmaa.V

