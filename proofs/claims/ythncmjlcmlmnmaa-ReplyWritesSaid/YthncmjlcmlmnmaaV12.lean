/- Owned values: what is handed into a call, and out of it. Conditions: none. -/
import Derived.Test.YthncmjlcmlmnmaaV11
namespace Go.Proofs.Ythncmjlcmlmnmaa.V
open Go Go.RowKit

def ArrOk (S : Area) (w : World) (b sz : Nat) (es : List (List CV)) (cap : Option Nat) (pub : Bool) (n capn : Nat) : Prop :=
  0 < sz ∧ ThawA w b pub sz ∧ (∃ e, w.shape? b = some (e, capn * sz)) ∧ es.length ≤ capn ∧ (∀ c, cap = some c → capn = c) ∧ RowE S w b sz es ∧ (pub = true → ∀ o, o < es.length * sz → S b o) ∧ n ≤ es.length

mutual
/-- A value of the model, read as an owned value; the cells that it alone may write. -/
inductive Own (S : Area) (w : World) : Area → OV → Value → Prop
  | c (x : CV) (u : Value) (h : RelC S w x u) : Own S w (fun _ _ => False) (.c x) u
  | arr (sz : Nat) (es : List (List CV)) (cap : Option Nat) (pub : Bool) (n b capn : Nat) (h : ArrOk S w b sz es cap pub n capn) :
      Own S w (fun b' o => b' = b ∧ (pub = true → es.length * sz ≤ o)) (.arr sz es cap pub n) (.slice (some ⟨b, 0, none⟩) n capn)
  | ptr (cs : List OV) (us : List Value) (b o : Nat) (F : Area) (h : OwnL S w F cs us) (hb : b < w.heap.size) (ht : Thawed w b)
      (hc : ∀ (j : Nat) u, us[j]? = some u → cellAt w b (o + j) = some u) (hd : ∀ b' o', F b' o' → ¬ (b' = b ∧ o ≤ o' ∧ o' < o + us.length)) :
      Own S w (fun b' o' => F b' o' ∨ b' = b ∧ o ≤ o' ∧ o' < o + us.length) (.ptr cs) (.pointer (some ⟨b, o, none⟩))
  | agg (cs : List OV) (us : List Value) (F : Area) (h : OwnL S w F cs us) : Own S w F (.agg cs) (.agg us.toArray)
  | tup (cs : List OV) (us : List Value) (F : Area) (h : OwnL S w F cs us) : Own S w F (.tup cs) (.tuple us.toArray)
inductive OwnL (S : Area) (w : World) : Area → List OV → List Value → Prop
  | nil : OwnL S w (fun _ _ => False) [] []
  | cons (o : OV) (u : Value) (os : List OV) (us : List Value) (F1 F2 : Area) (h1 : Own S w F1 o u) (h2 : OwnL S w F2 os us) (hd : ∀ b o, F1 b o → ¬ F2 b o) :
      OwnL S w (fun b o => F1 b o ∨ F2 b o) (o :: os) (u :: us)
end

theorem OwnL.length {S : Area} {w : World} : ∀ {os : List OV} {us : List Value} {F : Area}, OwnL S w F os us → us.length = os.length
  | [], _, _, h => by cases h; rfl
  | _ :: os, _, _, h => by cases h with | cons _ _ _ _ _ _ _ h2 _ => simp [h2.length]

section keep
variable {S S' : Area} {w w' : World}
/-- Kept, where nothing of its own is written. -/
structure Still (S S' : Area) (w w' : World) (F : Area) : Prop where
  sub : ∀ b o, S b o → S' b o
  cell : ∀ b o, S b o → cellAt w' b o = cellAt w b o
  own : ∀ b o, F b o → cellAt w' b o = cellAt w b o
  size : w.heap.size ≤ w'.heap.size
  shape : ∀ b, b < w.heap.size → w'.shape? b = w.shape? b
  frz : ∀ b o, b < w.heap.size → w'.frozen? ⟨b, o, none⟩ = w.frozen? ⟨b, o, none⟩
theorem Still.of {F F' : Area} (h : Still S S' w w' F) (hF : ∀ b o, F' b o → F b o) : Still S S' w w' F' := ⟨h.sub, h.cell, fun b o q => h.own b o (hF b o q), h.size, h.shape, h.frz⟩
theorem Still.thaw {F : Area} (h : Still S S' w w' F) {b : Nat} (hb : b < w.heap.size) (ht : Thawed w b) : Thawed w' b :=
  fun o hz e s hs => ht o (by rw [← h.frz b o hb]; exact hz) e s (by rw [← h.shape b hb]; exact hs)
theorem ArrOk.keep {b sz : Nat} {es : List (List CV)} {cap : Option Nat} {pub : Bool} {n capn : Nat} (hs : Still S S' w w' (fun b' o => b' = b ∧ (pub = true → es.length * sz ≤ o))) (h : ArrOk S w b sz es cap pub n capn) : ArrOk S' w' b sz es cap pub n capn := by
  obtain ⟨h1, h2, ⟨e, h3⟩, h4, h5, ⟨hl, f, hc, hr⟩, h7, h8⟩ := h
  have hb := shape_lt h3
  refine ⟨h1, ⟨hs.thaw hb h2.1, by rw [hs.shape b hb]; exact h2.2⟩, ⟨e, by rw [hs.shape b hb]; exact h3⟩, h4, h5, ⟨hl, f, fun k hk => ?_, fun i j e x he hx => (hr i j e x he hx).mono hs.sub hs.cell⟩, fun hp o ho => hs.sub _ _ (h7 hp o ho), h8⟩
  cases pub with
  | true => exact (hs.cell _ _ (h7 rfl _ hk)).trans (hc k hk)
  | false => exact (hs.own _ _ ⟨rfl, by simp⟩).trans (hc k hk)
mutual
theorem Own.keep : ∀ {o : OV} {u : Value} {F : Area}, Own S w F o u → Still S S' w w' F → Own S' w' F o u
  | _, _, _, .c x u h, hs => .c x u (h.mono hs.sub hs.cell)
  | _, _, _, .arr sz es cap pub n b capn h, hs => .arr sz es cap pub n b capn (h.keep hs)
  | _, _, _, .ptr cs us b o F h hb ht hc hd, hs => .ptr cs us b o F (h.keep (hs.of fun _ _ q => .inl q)) (Nat.lt_of_lt_of_le hb hs.size) (hs.thaw hb ht)
      (fun j u hu => (hs.own _ _ (.inr ⟨rfl, by omega, by have := (List.getElem?_eq_some_iff.1 hu).1; omega⟩)).trans (hc j u hu)) hd
  | _, _, _, .agg cs us F h, hs => .agg cs us F (h.keep hs)
  | _, _, _, .tup cs us F h, hs => .tup cs us F (h.keep hs)
theorem OwnL.keep : ∀ {os : List OV} {us : List Value} {F : Area}, OwnL S w F os us → Still S S' w w' F → OwnL S' w' F os us
  | _, _, _, .nil, _ => .nil
  | _, _, _, .cons o u os us F1 F2 h1 h2 hd, hs => .cons o u os us F1 F2 (h1.keep (hs.of fun _ _ q => .inl q)) (h2.keep (hs.of fun _ _ q => .inr q)) hd
end
end keep

section
variable {X : Ctx} {w : World}
/-- What packing leaves. -/
structure Packed (X : Ctx) (S S' : Area) (pl : Place) (w : World) (m m' : Mem) (F : Area) : Prop where
  st : St X S' pl w m'
  kp : Keeps S S' pl pl w w m m'
  sh : Shrinks S S' pl m m'
  off : ∀ b o, F b o → Feet pl m b o ∧ ¬ Feet pl m' b o
  no : ∀ b o, F b o → ¬ S' b o

theorem Packed.still {S S' : Area} {pl : Place} {m m' : Mem} {F : Area} (h : Packed X S S' pl w m m' F) (F' : Area) : Still S S' w w F' :=
  ⟨h.kp.sub, fun _ _ _ => rfl, fun _ _ _ => rfl, Nat.le_refl _, fun _ _ => rfl, fun _ _ _ => rfl⟩

def PackOk (X : Ctx) (w : World) (pk : Mem → AV → (OV → Mem → Prop) → Prop) : Prop :=
  ∀ {S : Area} {pl : Place} {m : Mem} {x : AV} {u : Value} {K : OV → Mem → Prop}, St X S pl w m → RelV S pl w m x u → pk m x K → ∃ S' o m' F, K o m' ∧ Own S' w F o u ∧ Packed X S S' pl w m m' F

theorem packLW_sound {pk : Mem → AV → (OV → Mem → Prop) → Prop} (hp : PackOk X w pk) : ∀ (xs : List AV) (us : List Value) {S : Area} {pl : Place} {m : Mem} {K : List OV → Mem → Prop}, St X S pl w m → us.length = xs.length →
    (∀ (j : Nat) x u, xs[j]? = some x → us[j]? = some u → RelV S pl w m x u) → packLW pk m xs K → ∃ S' os m' F, K os m' ∧ OwnL S' w F os us ∧ Packed X S S' pl w m m' F
  | [], [], S, pl, m, K, h, _, _, hk => ⟨S, [], m, _, hk, .nil, h, Keeps.refl _ _ _ _, Shrinks.refl _ _ _, fun _ _ q => q.elim, fun _ _ q => q.elim⟩
  | [], _ :: _, _, _, _, _, _, hl, _, _ => by simp at hl
  | _ :: _, [], _, _, _, _, _, hl, _, _ => by simp at hl
  | x :: xs, u :: us, S, pl, m, K, h, hl, hr, hk => by
    obtain ⟨S1, o, m1, F1, hk1, ho, p1⟩ := hp h (hr 0 x u rfl rfl) hk
    obtain ⟨S2, os, m2, F2, hk2, hos, p2⟩ := packLW_sound hp xs us p1.st (by simpa using hl) (fun j x u hx hu => (hr (j + 1) x u (by simpa using hx) (by simpa using hu)).mono p1.kp) hk1
    refine ⟨S2, o :: os, m2, _, hk2, .cons o u os us F1 F2 (ho.keep (p2.still _)) hos (fun b q h1 h2 => (p1.off b q h1).2 (p2.off b q h2).1), p2.st, p1.kp.trans p2.kp, p1.sh.trans p2.sh, fun b q hf => ?_, fun b q hf => ?_⟩
    rotate_left
    · rcases hf with hf | hf
      · exact fun hs => (p2.sh.grow b q hs).elim (p1.no b q hf) (p1.off b q hf).2
      · exact p2.no b q hf
    rcases hf with hf | hf
    · exact ⟨(p1.off b q hf).1, fun q' => (p1.off b q hf).2 (p2.sh.feet b q q')⟩
    · exact ⟨p1.sh.feet b q (p2.off b q hf).1, (p2.off b q hf).2⟩

theorem feet_del {S : Area} {pl : Place} {m : Mem} (h : Inv S pl w m) {i : Nat} {ob : Ob} (hob : m.get i = some ob) : (∀ b o, Feet pl (m.del i) b o → Feet pl m b o) ∧ ∀ b o, ob.foot (pl i) b o → Feet pl m b o ∧ ¬ Feet pl (m.del i) b o := by
  have hne : ∀ id ob, (m.del i).get id = some ob → m.get id = some ob ∧ id ≠ i := fun id ob hg => by
    rw [get_del] at hg; split at hg
    · simp at hg
    · exact ⟨hg, by assumption⟩
  refine ⟨fun b o ⟨id, ob', hg, hf⟩ => ⟨id, ob', (hne id ob' hg).1, hf⟩, fun b o hf => ⟨⟨i, ob, hob, hf⟩, fun ⟨id, ob', hg, hf'⟩ => h.apart id i ob' ob (hne id ob' hg).1 hob (hne id ob' hg).2 b o hf' hf⟩⟩

def PackEx (pk : Mem → AV → (OV → Mem → Prop) → Prop) : Prop := ∀ {m : Mem} {x : AV} {K : OV → Mem → Prop}, pk m x K → x.isDead = false ∧ ∃ o m', K o m'
theorem packLW_ex {pk : Mem → AV → (OV → Mem → Prop) → Prop} (hp : PackEx pk) : ∀ (xs : List AV) {m : Mem} {K : List OV → Mem → Prop}, packLW pk m xs K → (∀ x ∈ xs, x.isDead = false) ∧ ∃ os m', K os m'
  | [], m, _, hk => ⟨fun x hx => by simp at hx, _, m, hk⟩
  | x :: xs, _, _, hk => by
    obtain ⟨h1, o, m1, hk1⟩ := hp hk
    obtain ⟨h2, os, m2, hk2⟩ := packLW_ex hp xs hk1
    refine ⟨fun y hy => ?_, _, m2, hk2⟩
    rcases List.mem_cons.1 hy with rfl | hy
    · exact h1
    · exact h2 y hy
theorem packW_ex (k : Nat) : PackEx (packW k) := by
  induction k with
  | zero => intro m x K hk; exact hk.elim
  | succ k ih =>
    intro m x K hk
    cases x with
    | c x => exact ⟨rfl, _, m, hk⟩
    | t id ver n =>
      simp only [packW] at hk
      split at hk
      · exact ⟨rfl, _, _, hk.2.2⟩
      · exact hk.elim
    | p id ver off =>
      cases off with
      | succ off => simp only [packW] at hk
      | zero =>
        simp only [packW] at hk
        split at hk
        · obtain ⟨_, os, m', h⟩ := packLW_ex ih _ hk.2; exact ⟨rfl, _, m', h⟩
        · exact hk.elim
    | agg cs => obtain ⟨_, os, m', h⟩ := packLW_ex ih _ hk; exact ⟨rfl, _, m', h⟩
    | tup cs => obtain ⟨_, os, m', h⟩ := packLW_ex ih _ hk; exact ⟨rfl, _, m', h⟩
    | _ => simp only [packW] at hk

/-- A row of related cells, as a list of values. -/
theorem RowA.list {S : Area} {pl : Place} {m : Mem} {b o : Nat} {cs : List AV} (h : RowA S pl w m b o cs) : ∃ us : List Value, us.length = cs.length ∧ (∀ (j : Nat) u, us[j]? = some u → cellAt w b (o + j) = some u) ∧
    ∀ (j : Nat) x u, cs[j]? = some x → us[j]? = some u → RelV S pl w m x u := by
  refine ⟨(List.range cs.length).map fun j => (cellAt w b (o + j)).getD undef, by simp, fun j u hu => ?_, fun j x u hx hu => ?_⟩
  · rw [List.getElem?_map] at hu
    by_cases hj : j < cs.length
    · rw [List.getElem?_range hj] at hu
      obtain ⟨v, hv, _⟩ := h j _ (List.getElem?_eq_getElem hj)
      simp [hv] at hu; subst hu; exact hv
    · rw [List.getElem?_eq_none (by simp; omega)] at hu; simp at hu
  · have hj := (List.getElem?_eq_some_iff.1 hx).1
    rw [List.getElem?_map, List.getElem?_range hj] at hu
    obtain ⟨v, hv, hr⟩ := h j x hx
    simp [hv] at hu; subst hu; exact hr

theorem packW_sound (k : Nat) : PackOk X w (packW k) := by
  induction k with
  | zero => intro S pl m x u K _ _ hk; exact hk.elim
  | succ k ih =>
    intro S pl m x u K h hr hk
    cases x with
    | c x => cases hr with | c _ _ hr => exact ⟨S, _, m, _, hk, .c _ _ hr, h, Keeps.refl _ _ _ _, Shrinks.refl _ _ _, fun _ _ q => q.elim, fun _ _ q => q.elim⟩
    | t id ver n =>
      simp only [packW] at hk
      split at hk
      · rename_i v sz es cap pub hg
        obtain ⟨rfl, hn, hk⟩ := hk
        cases hr with | t _ _ _ b capn hv hnc hr =>
        obtain ⟨sz', es', cap', pub', e, heq, _, hb, hs⟩ := hr _ hg rfl
        injection heq with _ q1 q2 q3 q4; subst q1 q2 q3 q4
        obtain ⟨hv', h0, h1, h2, ⟨e3, capn3, hs3, hle3, hcap3⟩, hrow, hp⟩ := h.inv.ob id _ hg
        rw [← hb] at h2 hs3 hrow hp
        have hcc : capn3 = capn := by
          rw [hs] at hs3; injection hs3 with hs3; injection hs3 with _ hs3
          exact (Nat.eq_of_mul_eq_mul_right h1 hs3).symm
        subst hcc
        obtain ⟨hst, hkp⟩ := h.del id
        obtain ⟨f1, f2⟩ := feet_del h.inv hg
        exact ⟨S, _, _, _, hk, .arr sz es cap pub n b capn3 ⟨h1, h2, ⟨e, hs⟩, hle3, hcap3, hrow, hp, hn⟩, hst, hkp, ⟨fun _ _ q => .inl q, f1⟩, fun b' o hf => f2 b' o ⟨by rw [← hb]; exact hf.1, hf.2⟩, fun b' o hf => h.inv.free id _ hg b' o ⟨by rw [← hb]; exact hf.1, hf.2⟩⟩
      · exact hk.elim
    | p id ver off =>
      cases off with
      | succ off => simp only [packW] at hk
      | zero =>
        simp only [packW] at hk
        split at hk
        · rename_i v cs hg
          obtain ⟨rfl, hk⟩ := hk
          cases hr with | p _ _ _ b o hv hr =>
          obtain ⟨_, hb⟩ := hr _ hg rfl
          obtain ⟨hv', h1, h2, hrow⟩ := h.inv.ob id _ hg
          obtain ⟨us, hul, huc, hur⟩ := hrow.list
          have hb1 : (pl id).1 = b := by rw [← hb]
          have hb2 : (pl id).2 = o := by rw [← hb]
          obtain ⟨hst, hkp⟩ := h.del id
          obtain ⟨f1, f2⟩ := feet_del h.inv hg
          obtain ⟨hlive, _⟩ := packLW_ex (packW_ex k) cs hk
          obtain ⟨S', os, m', F, hk, ho, hp⟩ := packLW_sound ih cs us hst hul (fun j x u hx hu => (hur j x u hx hu).mono hkp) hk
          have hreg : ∀ b' o', (b' = b ∧ o ≤ o' ∧ o' < o + us.length) → (Ob.blk v cs).foot (pl id) b' o' := fun b' o' ⟨q1, q2, q3⟩ => by
            have hj : o' - o < cs.length := by omega
            have hx : cs[o' - o]? = some cs[o' - o] := List.getElem?_eq_getElem hj
            exact ⟨by rw [q1, hb1], o' - o, _, hx, hlive _ (List.mem_of_getElem? hx), by rw [hb2]; omega⟩
          rw [hb1] at h1 h2 huc
          rw [hb2] at huc
          refine ⟨S', _, m', _, hk, .ptr os us b o F ho h1 h2 huc (fun b' o' q1 q2 => ?_), hp.st, hkp.trans hp.kp, ⟨fun b' o' q => ?_, fun b' o' q => f1 _ _ (hp.sh.feet _ _ q)⟩, fun b' o' q => ?_, fun b' o' q => ?_⟩
          · exact (f2 b' o' (hreg b' o' q2)).2 (hp.off b' o' q1).1
          · exact (hp.sh.grow b' o' q).imp (fun q => q) (f1 b' o')
          · rcases q with q | q
            · exact ⟨f1 _ _ (hp.off b' o' q).1, (hp.off b' o' q).2⟩
            · obtain ⟨g1, g2⟩ := f2 b' o' (hreg b' o' q)
              exact ⟨g1, fun q' => g2 (hp.sh.feet _ _ q')⟩
          · rcases q with q | q
            · exact hp.no b' o' q
            · exact fun hs => (hp.sh.grow b' o' hs).elim (h.inv.free id _ hg b' o' (hreg b' o' q)) (f2 b' o' (hreg b' o' q)).2
        · exact hk.elim
    | agg cs =>
      cases hr with | agg _ us hl hr =>
      obtain ⟨S', os, m', F, hk, ho, hp⟩ := packLW_sound ih cs us h hl hr hk
      exact ⟨S', _, m', F, hk, .agg os us F ho, hp⟩
    | tup cs =>
      cases hr with | tup _ us hl hr =>
      obtain ⟨S', os, m', F, hk, ho, hp⟩ := packLW_sound ih cs us h hl hr hk
      exact ⟨S', _, m', F, hk, .tup os us F ho, hp⟩
    | _ => simp only [packW] at hk
end
end Go.Proofs.Ythncmjlcmlmnmaa.V
