/- Cuts; new blocks; stores. Conditions: none. -/
import Derived.Test.YthncmjlcmlmnmaaV7
namespace Go.Proofs.Ythncmjlcmlmnmaa.V
open Go Go.RowKit
section
variable {P : Program} {T : Tab} {X : Ctx} {S : Area} {pl : Place} {w : World} {m : Mem} {K : KK}

/-- a bound and its value -/
def BndRel (S : Area) (pl : Place) (w : World) (m : Mem) : Option AV → Option Value → Prop
  | none, none => True
  | some x, some u => RelV S pl w m x u
  | _, _ => False

theorem bnd_some {d : Int} {x : Option AV} {u : Option Value} (hr : BndRel S pl w m x u) {K : Int → Prop} (hk : bnd d x K) : (x = none ∧ u = none ∧ K d) ∨ ∃ k n, u = some (.int k n) ∧ x.isSome = true ∧ K n := by
  unfold bnd at hk
  split at hk
  · cases u with
    | none => exact .inl ⟨rfl, rfl, hk⟩
    | some u => exact hr.elim
  · cases u with
    | none => exact hr.elim
    | some u => have e1 := relV_v hr; subst e1; exact .inr ⟨_, _, rfl, rfl, hk⟩
  · exact hk.elim

theorem run_sliceBound {k : IntKind} {n : Int} {y : Nat} {c : BoundsCode} (h0 : 0 ≤ n) (h1 : n ≤ y) : (Instr.sliceBound (.int k n) y c).run P w = .ok n.toNat w := by
  unfold Instr.sliceBound
  simp only [asIntOf, Sem.run_bind, Sem.run_pure, Result.andThen_ok]
  rw [if_pos ⟨h0, h1⟩]; rfl

/-- the bounds of a cut without a third index -/
theorem run_bounds2 (isSlice : Bool) (len cap : Nat) (lo hi : Option Value) (l h : Int) (hlo : (lo = none ∧ l = 0) ∨ ∃ k, lo = some (.int k l)) (hhi : (hi = none ∧ h = len) ∨ ∃ k, hi = some (.int k h))
    (h0 : 0 ≤ l) (h1 : l ≤ h) (h2 : h ≤ cap) : (Instr.sliceBounds isSlice len cap lo hi none).run P w = .ok (l.toNat, h.toNat, cap) w := by
  unfold Instr.sliceBounds
  have hh : h.toNat = h := Int.toNat_of_nonneg (by omega)
  rcases hhi with ⟨rfl, rfl⟩ | ⟨k, rfl⟩ <;> rcases hlo with ⟨rfl, rfl⟩ | ⟨k', rfl⟩
  · simp
  · simp only [Sem.run_bind, Sem.run_pure, Result.andThen_ok]
    rw [run_sliceBound h0 h1]; simp
  · simp only [Sem.run_bind, Sem.run_pure, Result.andThen_ok]
    rw [run_sliceBound (by omega) h2]; simp
  · simp only [Sem.run_bind, Sem.run_pure, Result.andThen_ok]
    rw [run_sliceBound (by omega) h2]
    simp only [Result.andThen_ok]
    rw [run_sliceBound h0 (by omega)]; simp
theorem run_bounds3 (isSlice : Bool) (len cap : Nat) (lo : Option Value) (hk ck : IntKind) (l h c : Int) (hlo : (lo = none ∧ l = 0) ∨ ∃ k, lo = some (.int k l))
    (h0 : 0 ≤ l) (h1 : l ≤ h) (h2 : h ≤ c) (h3 : c ≤ cap) : (Instr.sliceBounds isSlice len cap lo (some (.int hk h)) (some (.int ck c))).run P w = .ok (l.toNat, h.toNat, c.toNat) w := by
  unfold Instr.sliceBounds
  simp only [Sem.run_bind]
  rw [run_sliceBound (by omega) h3]
  simp only [Result.andThen_ok]
  rw [run_sliceBound (by omega) (by omega)]
  simp only [Result.andThen_ok]
  rcases hlo with ⟨rfl, rfl⟩ | ⟨k', rfl⟩
  · simp
  · simp only [Sem.run_bind]
    rw [run_sliceBound h0 (by omega)]; simp

/-- a cut of a closed slice is a closed slice -/
theorem RelC.cut {sz : Nat} {es : List (List CV)} {sp : Option (List (List CV))} {a : Option Addr} {n cap l h c : Nat} (hr : RelC S w (.sl sz es sp) (.slice a n cap)) (sp' : Option (List (List CV)))
    (hlh : l ≤ h) (hhc : h ≤ c) (hh : h ≤ (es ++ sp.getD []).length) (hsp : ∀ s, sp' = some s → s = ((es ++ sp.getD []).drop h).take (c - h) ∧ c ≤ (es ++ sp.getD []).length) :
    RelC S w (.sl sz (((es ++ sp.getD []).take h).drop l) sp') (.slice (if c = l then a else a.map (·.add (l * sz))) (h - l) (c - l)) := by
  generalize hall : es ++ sp.getD [] = all at *
  cases hr with | sl _ _ _ _ _ b o f hcap' hsp0 ha hl hS hc hr =>
  rw [hall] at ha hl hS hc hr
  have hadd : ∀ b o k : Nat, (⟨b, o, none⟩ : Addr).add k = ⟨b, o + k, none⟩ := fun b o k => by unfold Addr.add; split <;> simp_all
  have hlen : ((all.take h).drop l).length = h - l := by rw [List.length_drop, List.length_take]; omega
  have hget : ∀ (j : Nat) x, ((all.take h).drop l ++ sp'.getD [])[j]? = some x → all[l + j]? = some x := by
    intro j x hx
    by_cases hj : j < h - l
    · rw [List.getElem?_append_left (by omega), List.getElem?_drop, List.getElem?_take_of_lt (by omega)] at hx; exact hx
    · rw [List.getElem?_append_right (by omega), hlen] at hx
      cases hs : sp' with
      | none => rw [hs] at hx; simp at hx
      | some s =>
        rw [hs] at hx
        obtain ⟨rfl, _⟩ := hsp s hs
        have hjl : j - (h - l) < c - h := by have := (List.getElem?_eq_some_iff.1 hx).1; simp only [Option.getD_some, List.length_take] at this; omega
        simp only [Option.getD_some] at hx
        rw [List.getElem?_take_of_lt hjl, List.getElem?_drop] at hx
        rw [← hx]; congr 1; omega
  have hlenA : ((all.take h).drop l ++ sp'.getD []).length ≤ all.length - l := by
    rw [List.length_append, hlen]
    cases hs : sp' with
    | none => simp; omega
    | some s => obtain ⟨rfl, hcl⟩ := hsp s hs; simp only [Option.getD_some, List.length_take, List.length_drop]; omega
  have hmul : ∀ k, k < ((all.take h).drop l ++ sp'.getD []).length * sz → l * sz + k < all.length * sz := fun k hk => by
    have h1 : ((all.take h).drop l ++ sp'.getD []).length * sz ≤ (all.length - l) * sz := Nat.mul_le_mul_right sz hlenA
    have h2 : (all.length - l) * sz + l * sz = all.length * sz := by rw [← Nat.add_mul]; congr 1; omega
    omega
  have := RelC.sl (S := S) (w := w) sz ((all.take h).drop l) sp' (if c = l then a else a.map (·.add (l * sz))) (c - l) b (o + l * sz) (fun k => f (l * sz + k)) (by rw [hlen]; omega)
    (fun s hs => by obtain ⟨rfl, hcl⟩ := hsp s hs; rw [hlen]; simp only [List.length_take, List.length_drop]; omega)
    (fun hne => by
      have h1 : 0 < ((all.take h).drop l ++ sp'.getD []).length := List.length_pos_iff.2 hne
      have hal : all ≠ [] := by intro e; have e2 := congrArg List.length e; rw [List.length_nil] at e2; omega
      obtain ⟨rfl, hpos⟩ := ha hal
      refine ⟨?_, hpos⟩
      have hcl : c ≠ l := by
        intro e; subst e
        rw [List.length_append, hlen] at h1
        cases hs : sp' with
        | none => rw [hs] at h1; simp at h1; omega
        | some s => obtain ⟨rfl, _⟩ := hsp s hs; rw [hs] at h1; simp only [Option.getD_some, List.length_take] at h1; omega
      rw [if_neg hcl]; simp [hadd])
    (fun j x hx => hl _ x (hget j x hx)) (fun k hk => by have := hS _ (hmul k hk); rwa [← Nat.add_assoc] at this) (fun k hk => by have := hc _ (hmul k hk); rwa [← Nat.add_assoc] at this)
    (fun j t x y hx hy => by have := hr _ t x y (hget j x hx) hy; rwa [Nat.add_mul, Nat.add_assoc] at this)
  rwa [hlen] at this

theorem sliceW_sound (hT : TabOk P T) (h : St X S pl w m) {t : Nat} {x : AV} {lo hi mx : Option AV} {a : Value} {l' h' m' : Option Value} (hx : RelV S pl w m x a) (hlo : BndRel S pl w m lo l') (hhi : BndRel S pl w m hi h') (hmx : BndRel S pl w m mx m')
    (hk : sliceW (T.at t).k m x lo hi mx K) : Did X S pl w m ((Instr.sliceAt t a l' h' m').run P w) K := by
  unfold sliceW at hk
  split at hk
  · rename_i s hk2
    have hu := str_under hT hk2
    obtain ⟨hmn, hk⟩ := hk
    have e1 := relV_v hx; subst e1
    cases mx with
    | some _ => simp at hmn
    | none =>
      cases m' with
      | some _ => exact hmx.elim
      | none =>
        have key : ∀ (l h : Int), ((l' = none ∧ l = 0) ∨ ∃ k, l' = some (.int k l)) → ((h' = none ∧ h = s.size) ∨ ∃ k, h' = some (.int k h)) → 0 ≤ l → l ≤ h → h ≤ s.size → K (.c (.v (.string (s.extract l.toNat h.toNat)))) m →
            Did X S pl w m ((Instr.sliceAt t (.string s) l' h' none).run P w) K := by
          intro l hh h1 h2 h3 h4 h5 hK
          unfold Instr.sliceAt
          simp only [Sem.run_bind, run_underlying hu, Result.andThen_ok, Instr.slice, Option.isSome_none, Bool.false_eq_true, if_false, Sem.run_pure]
          rw [run_bounds2 false s.size s.size l' h' l hh h1 h2 h3 h4 h5]
          exact Did.lit h rfl hK
        rcases bnd_some hlo hk with ⟨_, rfl, hk⟩ | ⟨k1, n1, rfl, _, hk⟩ <;> rcases bnd_some hhi hk with ⟨_, rfl, hk⟩ | ⟨k2, n2, rfl, _, hk⟩ <;> obtain ⟨h3, h4, h5, hK⟩ := hk
        · exact key _ _ (.inl ⟨rfl, rfl⟩) (.inl ⟨rfl, rfl⟩) h3 h4 h5 hK
        · exact key _ _ (.inl ⟨rfl, rfl⟩) (.inr ⟨_, rfl⟩) h3 h4 h5 hK
        · exact key _ _ (.inr ⟨_, rfl⟩) (.inl ⟨rfl, rfl⟩) h3 h4 h5 hK
        · exact key _ _ (.inr ⟨_, rfl⟩) (.inr ⟨_, rfl⟩) h3 h4 h5 hK
  · rename_i esz ea eb u8 sz es sp hk2
    obtain ⟨e, hu, hsz, _, hkn, hpos, _⟩ := sl_under hT hk2
    obtain ⟨rfl, hk⟩ := hk
    cases hx with | c _ _ hx =>
    have hxr := hx
    cases hx with | sl _ _ _ ad cap b o f hcap hsp ha hl hS hc hr =>
    clear hl hS hc hr
    have fin : ∀ (lo hi c : Nat) (sp' : Option (List (List CV))), (Instr.sliceBounds true es.length cap l' h' m').run P w = .ok (lo, hi, c) w → lo ≤ hi → hi ≤ c → c ≤ cap → hi ≤ (es ++ sp.getD []).length →
        (∀ s, sp' = some s → s = ((es ++ sp.getD []).drop hi).take (c - hi) ∧ c ≤ (es ++ sp.getD []).length) → K (.c (.sl sz (((es ++ sp.getD []).take hi).drop lo) sp')) m →
        Did X S pl w m ((Instr.sliceAt t (.slice ad es.length cap) l' h' m').run P w) K := by
      intro lo hi c sp' hb h1 h2 h3 h4 h5 hK
      unfold Instr.sliceAt
      simp only [Sem.run_bind, run_underlying hu, Result.andThen_ok, Instr.slice, hb, run_size_of hkn, Sem.run_pure, hsz]
      exact Did.same h hK (.c _ _ (hxr.cut sp' h1 h2 h4 h5))
    have key2 : mx = none → ∀ (lo hi : Int), ((l' = none ∧ lo = 0) ∨ ∃ k, l' = some (.int k lo)) → ((h' = none ∧ hi = es.length) ∨ ∃ k, h' = some (.int k hi)) → 0 ≤ lo → lo ≤ hi →
        (∀ s, sp = some s → hi ≤ es.length + s.length ∧ K (.c (.sl sz (((es ++ s).take hi.toNat).drop lo.toNat) (some ((es ++ s).drop hi.toNat)))) m) →
        (sp = none → hi ≤ es.length ∧ K (.c (.sl sz ((es.take hi.toNat).drop lo.toNat) none)) m) → Did X S pl w m ((Instr.sliceAt t (.slice ad es.length cap) l' h' m').run P w) K := by
      intro hm lo hi h1 h2 h3 h4 hs hn
      have hm' : m' = none := by
        subst hm
        cases m' with
        | none => rfl
        | some _ => exact hmx.elim
      subst hm'
      cases hspc : sp with
      | none =>
        obtain ⟨h5, hK⟩ := hn hspc
        refine fin lo.toNat hi.toNat cap none (run_bounds2 true es.length cap l' h' lo hi h1 h2 h3 h4 (by omega)) (by omega) (by omega) (by omega) (by rw [hspc]; simp; omega) (by simp) (by rw [hspc]; simpa using hK)
      | some s =>
        obtain ⟨h5, hK⟩ := hs s hspc
        have hcs := hsp s hspc
        refine fin lo.toNat hi.toNat cap (some ((es ++ s).drop hi.toNat)) (run_bounds2 true es.length cap l' h' lo hi h1 h2 h3 h4 (by omega)) (by omega) (by omega) (by omega) (by rw [hspc]; simp; omega) (fun q hq => ?_) (by rw [hspc]; simpa using hK)
        injection hq with hq; subst hq
        rw [hspc]
        refine ⟨?_, by simp; omega⟩
        rw [List.take_of_length_le (by simp; omega)]; rfl
    have key3 : ∀ (lo hi c : Int) (k2 k3 : IntKind), ((l' = none ∧ lo = 0) ∨ ∃ k, l' = some (.int k lo)) → h' = some (.int k2 hi) → m' = some (.int k3 c) → 0 ≤ lo → lo ≤ hi → hi ≤ c → c ≤ es.length →
        K (.c (.sl sz ((es.take hi.toNat).drop lo.toNat) (some ((es.take c.toNat).drop hi.toNat)))) m → Did X S pl w m ((Instr.sliceAt t (.slice ad es.length cap) l' h' m').run P w) K := by
      intro lo hi c k2 k3 h1 h2 hm h3 h4 h5 h6 hK
      subst h2 hm
      refine fin lo.toNat hi.toNat c.toNat (some ((es.take c.toNat).drop hi.toNat)) (run_bounds3 true es.length cap l' k2 k3 lo hi c h1 h3 h4 h5 (by omega)) (by omega) (by omega) (by omega) (by simp; omega) (fun q hq => ?_) ?_
      · injection hq with hq; subst hq
        refine ⟨?_, by simp; omega⟩
        rw [← List.drop_take, List.take_append_of_le_length (by omega)]
      · rw [List.take_append_of_le_length (by omega)]; exact hK
    clear fin hxr ha
    have lok : ∃ lo' : Int, ((l' = none ∧ lo' = 0) ∨ ∃ k, l' = some (.int k lo')) ∧ (bnd es.length hi fun h => match (generalizing := false) mx with
        | none => 0 ≤ lo' ∧ lo' ≤ h ∧ match (generalizing := false) sp with
          | some sp => h ≤ es.length + sp.length ∧ K (.c (.sl sz (((es ++ sp).take h.toNat).drop lo'.toNat) (some ((es ++ sp).drop h.toNat)))) m
          | none => h ≤ es.length ∧ K (.c (.sl sz ((es.take h.toNat).drop lo'.toNat) none)) m
        | some mx => hi.isSome ∧ bnd 0 (some mx) fun c => 0 ≤ lo' ∧ lo' ≤ h ∧ h ≤ c ∧ c ≤ es.length ∧ K (.c (.sl sz ((es.take h.toNat).drop lo'.toNat) (some ((es.take c.toNat).drop h.toNat)))) m) := by
      rcases bnd_some hlo hk with ⟨_, e1, hk⟩ | ⟨k1, n1, e1, _, hk⟩
      · exact ⟨0, .inl ⟨e1, rfl⟩, hk⟩
      · exact ⟨n1, .inr ⟨_, e1⟩, hk⟩
    clear hk
    obtain ⟨lo', hlo', hk⟩ := lok
    cases hmxc : mx with
    | none =>
      subst hmxc
      rcases bnd_some hhi hk with ⟨e1, e2, hk⟩ | ⟨k2, n2, e2, _, hk⟩
      · exact key2 rfl lo' _ hlo' (.inl ⟨e2, rfl⟩) hk.1 hk.2.1 (fun s hs => by subst hs; exact hk.2.2) (fun hs => by subst hs; exact hk.2.2)
      · exact key2 rfl lo' _ hlo' (.inr ⟨_, e2⟩) hk.1 hk.2.1 (fun s hs => by subst hs; exact hk.2.2) (fun hs => by subst hs; exact hk.2.2)
    | some mxv =>
      subst hmxc
      rcases bnd_some hhi hk with ⟨e1, e2, hk⟩ | ⟨k2, n2, e2, _, hk⟩
      · subst e1; exact absurd hk.1 (by simp)
      · rcases bnd_some hmx hk.2 with ⟨q, _, _⟩ | ⟨k3, n3, e3, _, hk⟩
        · simp at q
        · exact key3 lo' _ _ _ _ hlo' e2 e3 hk.1 hk.2.1 hk.2.2.1 hk.2.2.2.1 hk.2.2.2.2
  · rename_i esz ea eb u8 id ver n hk2
    obtain ⟨e, hu, hsz, _, hkn, hpos, _⟩ := sl_under hT hk2
    split at hk
    · rename_i v sz es cap pub hg
      obtain ⟨rfl, rfl, hne, hmn, hk⟩ := hk
      have hxr := hx
      cases hx with | t _ _ _ b capn hv hn hx =>
      obtain ⟨sz', es', cap', pub', e', heq, _, hb, hs⟩ := hx _ hg rfl
      injection heq with _ q1 q2 q3 q4; subst q1 q2 q3 q4
      have hm' : m' = none := by
        cases mx with
        | some _ => simp at hmn
        | none => cases m' with
          | none => rfl
          | some _ => exact hmx.elim
      subst hm'
      obtain ⟨_, _, _, _, ⟨e3, capn3, hs3, hle3, hcap3⟩, _⟩ := h.inv.ob id _ hg
      have hcc : capn3 = capn := by
        rw [← hb] at hs3; rw [hs] at hs3; injection hs3 with hs3; injection hs3 with _ hs3
        exact (Nat.eq_of_mul_eq_mul_right hpos hs3).symm
      subst hcc
      have run : ∀ (lo hi : Int), ((l' = none ∧ lo = 0) ∨ ∃ k, l' = some (.int k lo)) → ((h' = none ∧ hi = n) ∨ ∃ k, h' = some (.int k hi)) → 0 ≤ lo → lo ≤ hi → hi ≤ capn3 →
          (Instr.sliceAt t (.slice (some ⟨b, 0, none⟩) n capn3) l' h' none).run P w = .ok (.slice (if capn3 = lo.toNat then some ⟨b, 0, none⟩ else (some (⟨b, 0, none⟩ : Addr)).map (·.add (lo.toNat * sz))) (hi.toNat - lo.toNat) (capn3 - lo.toNat)) w := by
        intro lo hi h1 h2 h3 h4 h5
        unfold Instr.sliceAt
        simp only [Sem.run_bind, run_underlying hu, Result.andThen_ok, Instr.slice, run_bounds2 true n capn3 l' h' lo hi h1 h2 h3 h4 h5, run_size_of hkn, Sem.run_pure, hsz]
      have hhi' : ∃ hi' : Int, ((h' = none ∧ hi' = n) ∨ ∃ k, h' = some (.int k hi')) ∧ (match (generalizing := false) lo with
          | none => 0 ≤ hi' ∧ (hi' ≤ n ∨ cap.isSome ∧ hi' ≤ es.length) ∧ K (.t id v hi'.toNat) m
          | some _ => bnd 0 lo fun l => 0 ≤ l ∧ l ≤ hi' ∧ hi' ≤ n ∧ K (.c (.sl sz ((es.take hi'.toNat).drop l.toNat) none)) (m.upd id (.arr v sz es cap true))) := by
        rcases bnd_some hhi hk with ⟨_, e1, hk⟩ | ⟨k1, n1, e1, _, hk⟩
        · exact ⟨n, .inl ⟨e1, rfl⟩, hk⟩
        · exact ⟨n1, .inr ⟨_, e1⟩, hk⟩
      clear hk
      obtain ⟨hi', hh', hk⟩ := hhi'
      cases hloc : lo with
      | none =>
        subst hloc
        have hl' : l' = none := by cases l' with | none => rfl | some _ => exact hlo.elim
        obtain ⟨h0, h1, hK⟩ := hk
        have hle : hi' ≤ es.length := by omega
        rw [run 0 hi' (.inl ⟨hl', rfl⟩) hh' (Int.le_refl 0) h0 (by omega)]
        refine Did.same h hK ?_
        have : (if capn3 = (0 : Int).toNat then some (⟨b, 0, none⟩ : Addr) else (some (⟨b, 0, none⟩ : Addr)).map (·.add ((0 : Int).toNat * sz))) = some ⟨b, 0, none⟩ := by
          split
          · rfl
          · simp [Addr.add]
        rw [this]
        exact .t id v _ b capn3 hv (by omega) (fun ob hob he => by
          rw [hg] at hob; injection hob with hob; subst hob
          exact ⟨_, _, _, _, _, rfl, by omega, hb, hs⟩)
      | some lov =>
        subst hloc
        have hlo' : ∃ lo' : Int, (∃ k, l' = some (.int k lo')) ∧ (0 ≤ lo' ∧ lo' ≤ hi' ∧ hi' ≤ n ∧ K (.c (.sl sz ((es.take hi'.toNat).drop lo'.toNat) none)) (m.upd id (.arr v sz es cap true))) := by
          rcases bnd_some hlo hk with ⟨q, _, _⟩ | ⟨k3, n3, e3, _, hk⟩
          · simp at q
          · exact ⟨n3, ⟨_, e3⟩, hk⟩
        obtain ⟨lo', ⟨k3, e3⟩, h3, h4, h5, hK⟩ := hlo'
        rw [run lo' hi' (.inr ⟨_, e3⟩) hh' h3 h4 (by omega)]
        obtain ⟨hst, hkp⟩ := h.pub hg
        have hok := (hst.inv.ob id _ (by rw [get_upd, if_pos rfl])).2
        have hrel := RelC.of_arr hok hne (by rw [← hb]; exact hs)
        have hrel2 := hrel.cut (l := lo'.toNat) (h := hi'.toNat) (c := capn3) none (by omega) (by omega) (by rw [List.length_append, List.length_take]; omega) (by simp)
        rw [List.take_append_of_le_length (by rw [List.length_take]; omega), List.take_take, Nat.min_eq_left (by omega)] at hrel2
        rw [hb]
        exact ⟨_, w, _, pl, _, _, rfl, hK, .c _ _ hrel2, hst, hkp⟩
    · exact hk.elim
  · exact hk.elim
end
end Go.Proofs.Ythncmjlcmlmnmaa.V
