/- Owned values laid into a frame's memory. Conditions: none. -/
import Derived.Test.YthncmjlcmlmnmaaV12
namespace Go.Proofs.Ythncmjlcmlmnmaa.V
open Go Go.RowKit
section
variable {X : Ctx} {w : World}

/-- What unpacking makes of a state: objects whose cells lie in F. -/
structure Laid (X : Ctx) (S : Area) (pl pl' : Place) (w : World) (m m' : Mem) (F : Area) : Prop where
  st : St X S pl' w m'
  kp : Keeps S S pl pl' w w m m'
  feet : ∀ b o, Feet pl' m' b o → Feet pl m b o ∨ F b o

/-- An object comes into the memory; its cells were nobody's. -/
theorem St.adopt {S : Area} {pl : Place} {m : Mem} (h : St X S pl w m) (id : Nat) (f : Nat → Ob) (q : Nat × Nat) (F : Area) (hv : (f m.clk).ver = m.clk)
    (hF : ∀ b o, F b o → (X.F0 b o ∨ X.w0.heap.size ≤ b) ∧ ¬ S b o ∧ ¬ Feet pl m b o) (hfoot : ∀ b o, (f m.clk).foot q b o → F b o)
    (hok : ∀ {pl' m'}, Keeps S S pl pl' w w m m' → ObOk S pl' w m' q (f m.clk)) : Laid X S pl (plAt pl id q) w m (m.new id f) F := by
  have hne : ∀ i ob, i ≠ id → (m.new id f).get i = some ob → m.get i = some ob := fun i ob hi hg => by rw [get_new, if_neg hi] at hg; exact hg
  have k : Keeps S S pl (plAt pl id q) w w m (m.new id f) :=
    ⟨fun _ _ h => h, fun _ _ _ => rfl, fun _ _ h => h, by rw [clk_new]; omega, fun i ob hg hlt => by
      by_cases hi : i = id
      · subst hi; rw [get_new, if_pos rfl] at hg; injection hg with hg; subst hg; rw [hv] at hlt; exact absurd hlt (Nat.lt_irrefl _)
      · exact ⟨ob, hne i ob hi hg, by cases ob <;> simp [Ob.alike], by simp [plAt, hi]⟩⟩
  have hpl : plAt pl id q id = q := by simp [plAt]
  refine ⟨h.step1 id (fun _ _ => False) k (Ext.refl _ _) (fun _ _ hf => hf.elim) (fun b o hs => ⟨h.inv.low b o hs, .inl hs⟩) (fun i ob hi hg => ⟨hne i ob hi hg, by simp [plAt, hi]⟩)
    (fun i ob hi hg b o hf => ⟨fun hf => hf, h.inv.free i ob (hne i ob hi hg) b o hf⟩) (fun ob hg => ?_), k, fun b o ⟨i, ob, hg, hf⟩ => ?_⟩
  · rw [get_new, if_pos rfl] at hg; injection hg with hg; subst hg
    rw [hpl]
    refine ⟨by rw [hv, clk_new]; exact Nat.lt_succ_self _, hok k, fun b o hf => ?_⟩
    obtain ⟨h1, h2, h3⟩ := hF b o (hfoot b o hf)
    exact ⟨h1, h2, fun i ob' hi hg hf2 => h3 ⟨i, ob', hne i ob' hi hg, hf2⟩⟩
  · by_cases hi : i = id
    · subst hi; rw [get_new, if_pos rfl] at hg; injection hg with hg; subst hg
      rw [hpl] at hf; exact .inr (hfoot b o hf)
    · exact .inl ⟨i, ob, hne i ob hi hg, by simpa [plAt, hi] using hf⟩

def Mine (X : Ctx) (S : Area) (pl : Place) (m : Mem) (F : Area) : Prop := ∀ b o, F b o → (X.F0 b o ∨ X.w0.heap.size ≤ b) ∧ ¬ S b o ∧ ¬ Feet pl m b o

def UnpackOk (X : Ctx) (w : World) (un : Nat → Mem → OV → AV × Nat × Mem) : Prop :=
  ∀ (id : Nat) {S : Area} {pl : Place} {m : Mem} {o : OV} {u : Value} {F : Area}, St X S pl w m → Own S w F o u → Mine X S pl m F → ∃ pl', Laid X S pl pl' w m (un id m o).2.2 F ∧ RelV S pl' w (un id m o).2.2 (un id m o).1 u

theorem unpackL_length (un : Nat → Mem → OV → AV × Nat × Mem) : ∀ (os : List OV) (id : Nat) (m : Mem), (unpackL un id m os).1.length = os.length
  | [], _, _ => rfl
  | o :: os, id, m => by simp only [unpackL, List.length_cons]; rw [unpackL_length un os]

theorem unpackL_sound {un : Nat → Mem → OV → AV × Nat × Mem} (hu : UnpackOk X w un) : ∀ (os : List OV) (us : List Value) (id : Nat) {S : Area} {pl : Place} {m : Mem} {F : Area}, St X S pl w m → OwnL S w F os us → Mine X S pl m F →
    ∃ pl', Laid X S pl pl' w m (unpackL un id m os).2.2 F ∧ ∀ (j : Nat) x u, (unpackL un id m os).1[j]? = some x → us[j]? = some u → RelV S pl' w (unpackL un id m os).2.2 x u
  | [], us, id, S, pl, m, F, h, ho, _ => ⟨pl, ⟨h, Keeps.refl _ _ _ _, fun _ _ q => .inl q⟩, fun j x u hx => by simp [unpackL] at hx⟩
  | o :: os, us, id, S, pl, m, F, h, ho, hm => by
    cases ho with | cons _ u _ us F1 F2 h1 h2 hd =>
    obtain ⟨pl1, l1, r1⟩ := hu id h h1 (fun b q hf => hm b q (.inl hf))
    obtain ⟨pl2, l2, r2⟩ := unpackL_sound hu os us (un id m o).2.1 l1.st h2 (fun b q hf => by
      obtain ⟨g1, g2, g3⟩ := hm b q (.inr hf)
      exact ⟨g1, g2, fun hf' => (l1.feet b q hf').elim g3 (fun hf1 => hd b q hf1 hf)⟩)
    refine ⟨pl2, ⟨l2.st, l1.kp.trans l2.kp, fun b q hf => ?_⟩, fun j x v hx hv => ?_⟩
    · rcases l2.feet b q hf with g | g
      · exact (l1.feet b q g).imp (fun q => q) .inl
      · exact .inr (.inr g)
    · cases j with
      | zero => simp [unpackL] at hx hv; subst hx hv; exact r1.mono l2.kp
      | succ j => exact r2 j x v (by simpa [unpackL] using hx) (by simpa using hv)

theorem unpack_sound (k : Nat) : UnpackOk X w (unpack k) := by
  induction k with
  | zero => intro id S pl m o u F h _ _; exact ⟨pl, ⟨h, Keeps.refl _ _ _ _, fun _ _ q => .inl q⟩, .dead u⟩
  | succ k ih =>
    intro id S pl m o u F h ho hm
    cases ho with
    | c x u hr => exact ⟨pl, ⟨h, Keeps.refl _ _ _ _, fun _ _ q => .inl q⟩, .c _ _ hr⟩
    | arr sz es cap pub n b capn ha =>
      obtain ⟨h1, h2, ⟨e, h3⟩, h4, h5, ⟨hl, f, hc, hr⟩, h7, h8⟩ := ha
      refine ⟨plAt pl id (b, 0), h.adopt id (fun v => .arr v sz es cap pub) (b, 0) _ rfl hm (fun b' o' hf => hf) (fun {pl' m'} kp => ⟨rfl, h1, h2, ⟨e, capn, h3, h4, h5⟩, ⟨hl, f, hc, hr⟩, h7⟩), ?_⟩
      exact .t id m.clk n b capn (by rw [unpack]; simp [clk_new]) (by omega) (fun ob hg _ => by
        simp only [unpack] at hg
        rw [get_new, if_pos rfl] at hg; injection hg with hg; subst hg
        exact ⟨sz, es, cap, pub, e, rfl, h8, by simp [plAt], h3⟩)
    | ptr cs us b o' F' hL hb ht hc hd =>
      obtain ⟨pl1, l1, r1⟩ := unpackL_sound ih cs us (1000000 * (id + 1)) h hL (fun b q hf => hm b q (.inl hf))
      simp only [unpack]
      generalize hq : unpackL (unpack k) (1000000 * (id + 1)) m cs = q at l1 r1
      have hlen : us.length = q.1.length := by rw [← hq, unpackL_length, hL.length]
      have hreg : Mine X S pl1 q.2.2 (fun b' o'' => b' = b ∧ o' ≤ o'' ∧ o'' < o' + us.length) := fun b' o'' hf => by
        obtain ⟨g1, g2, g3⟩ := hm b' o'' (.inr hf)
        exact ⟨g1, g2, fun hf' => (l1.feet b' o'' hf').elim g3 (fun hf1 => hd b' o'' hf1 hf)⟩
      have l2 := l1.st.adopt id (fun v => .blk v q.1) (b, o') _ rfl hreg (fun b' o'' hf => by
        obtain ⟨q1, j, x, hx, _, q2⟩ := hf
        have hj := (List.getElem?_eq_some_iff.1 hx).1
        exact ⟨q1, by omega, by omega⟩) (fun {pl' m'} kp => ⟨hb, ht, fun j x hx => by
          have hj := (List.getElem?_eq_some_iff.1 hx).1
          have hu : us[j]? = some us[j] := List.getElem?_eq_getElem (by omega)
          exact ⟨_, hc j _ hu, (r1 j x _ hx hu).mono kp⟩⟩)
      refine ⟨_, ⟨l2.st, l1.kp.trans l2.kp, fun b' o'' hf => ?_⟩, ?_⟩
      · rcases l2.feet b' o'' hf with g | g
        · exact (l1.feet b' o'' g).imp (fun q => q) .inl
        · exact .inr (.inr g)
      · have := RelV.p (S := S) (pl := plAt pl1 id (b, o')) (w := w) (m := q.2.2.new id fun v => .blk v q.1) id q.2.2.clk 0 b o' (by rw [clk_new]; exact Nat.lt_succ_self _) (fun ob hg _ => by
          rw [get_new, if_pos rfl] at hg; injection hg with hg; subst hg
          exact ⟨⟨_, rfl⟩, by simp [plAt]⟩)
        simpa using this
    | agg cs us F hL =>
      obtain ⟨pl1, l1, r1⟩ := unpackL_sound ih cs us id h hL hm
      exact ⟨pl1, l1, .agg _ us (by rw [unpackL_length, hL.length]) r1⟩
    | tup cs us F hL =>
      obtain ⟨pl1, l1, r1⟩ := unpackL_sound ih cs us id h hL hm
      exact ⟨pl1, l1, .tup _ us (by rw [unpackL_length, hL.length]) r1⟩
end
end Go.Proofs.Ythncmjlcmlmnmaa.V
