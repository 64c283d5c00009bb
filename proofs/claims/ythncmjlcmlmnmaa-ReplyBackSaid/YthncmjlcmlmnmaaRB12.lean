/- Which terms may be written: what the document's guard comes to, told whole. Conditions: none. -/
import Derived.Test.YthncmjlcmlmnmaaRB11
import Derived.Test.YthncmjlcmlmnmaaG
import Derived.Test.YthncmjlcmlmnmaaPR
import Derived.Test.YthncmjlcmlmnmaaRB4
import Derived.Test.YthncmjlcmlmnmaaRB6
import Derived.Test.YthncmjlcmlmnmaaRB5
namespace Go.Proofs.Ythncmjlcmlmnmaa
open Go V
set_option maxRecDepth 100000
set_option maxHeartbeats 2000000
/-- A walk over a row: each element's check, or false. -/
theorem may_levels {ρ : Type} (fail : ρ) : ∀ (d : Nat), d ≤ 100 → ∀ (fu : Nat) (t : Tm), d + 220 ≤ fu → t.whole → t.dep d → BO (fun K : Bool → ρ => p61 fail fu K t.k t.n t.nm (Lv.rows t.ls) (Tm.rows t.args)) (∃ P : Tm → Prop, P t ∧ ∀ u, P u → u.ls.length ≤ 4 ∧ (∀ l ∈ u.ls, l.good 32 ∧ l.parts ≤ 64) ∧ ∀ v ∈ u.args, P v) := by
  intro d
  induction d with
  | zero => intro _ fu t _ _ hd; exact hd.elim
  | succ d ih =>
    intro hd fu t hf hw hdep
    obtain ⟨k, n, s, l, a⟩ := t
    obtain ⟨m, rfl⟩ : ∃ m, fu = m + 1 := ⟨fu - 1, by omega⟩
    simp only [Tm.k, Tm.n, Tm.nm, Tm.ls, Tm.args]
    have ha3 := partOk_args hw.1
    generalize hs : p61 fail m = sf
    by_cases c4 : l.length ≤ 4
    · have loopA : ∀ (r i j : Nat), i + r = a.length → r < j → BO (fun K : Bool → ρ => p61_1L fail m sf K (Tm.rows a) j ((i : Nat) : Int)) (∀ v ∈ a.drop i, ∃ P : Tm → Prop, P v ∧ ∀ u, P u → u.ls.length ≤ 4 ∧ (∀ l ∈ u.ls, l.good 32 ∧ l.parts ≤ 64) ∧ ∀ v ∈ u.args, P v) := by
        intro r
        induction r with
        | zero =>
          intro i j hi hj
          obtain ⟨j, rfl⟩ : ∃ j', j = j' + 1 := ⟨j - 1, by omega⟩
          refine ⟨true, fun K => ?_, fun _ x hx => ?_⟩
          · dsimp only; rw [p61_1L, p61_1, Tm.rows_len, lssF (by omega), cond_false]
          · rw [List.drop_eq_nil_of_le (by omega)] at hx; simp at hx
        | succ r ihr =>
          intro i j hi hj
          obtain ⟨j, rfl⟩ : ∃ j', j = j' + 1 := ⟨j - 1, by omega⟩
          have hlt : i < a.length := by omega
          have hdr : a.drop i = a[i] :: a.drop (i + 1) := List.drop_eq_getElem_cons hlt
          obtain ⟨b, hb, hb2⟩ := ih (by omega) m a[i] (by omega) (Tm.wholes_mem hw.2 (List.getElem_mem hlt)) (hdep _ (List.getElem_mem hlt))
          dsimp only at hb
          rw [hs] at hb
          have h2 : ∀ K : Bool → ρ, p61_1L fail m sf K (Tm.rows a) (j + 1) ((i : Nat) : Int) = bif (!b) then K false else p61_1L fail m sf K (Tm.rows a) j ((i + 1 : Nat) : Int) := fun K => by
            rw [p61_1L, p61_1, Tm.rows_len, lssT (by omega), cond_true, gd_y (by omega), gd_y (by omega), tm_row fail a i hlt, hb, addZ (by omega) (by omega), show ((i : Nat) : Int) + 1 = ((i + 1 : Nat) : Int) by omega]
          cases b with
          | false => exact ⟨false, fun K => h2 K, fun h => by cases h⟩
          | true =>
            obtain ⟨b', g1, g2⟩ := ihr (i + 1) j (by omega) (by omega)
            refine ⟨b', fun K => (h2 K).trans (g1 K), fun hb' x hx => ?_⟩
            rw [hdr] at hx
            rcases List.mem_cons.1 hx with rfl | hx
            · exact hb2 rfl
            · exact g2 hb' x hx
      obtain ⟨bA, gA1, gA2⟩ := loopA a.length 0 m (by omega) (by omega)
      dsimp only at gA1
      have loopL : ∀ (r i j : Nat), i + r = l.length → r < j → BO (fun K : Bool → ρ => p61_2L fail m sf K (Lv.rows l) (Tm.rows a) j ((i : Nat) : Int)) ((∀ x ∈ l.drop i, x.good 32 ∧ x.parts ≤ 64) ∧ bA = true) := by
        intro r
        induction r with
        | zero =>
          intro i j hi hj
          obtain ⟨j, rfl⟩ : ∃ j', j = j' + 1 := ⟨j - 1, by omega⟩
          refine ⟨bA, fun K => ?_, fun h => ⟨fun x hx => ?_, h⟩⟩
          · dsimp only; rw [p61_2L, p61_2, Lv.rows_len, lssF (by omega), cond_false]; exact gA1 K
          · rw [List.drop_eq_nil_of_le (by omega)] at hx; simp at hx
        | succ r ihr =>
          intro i j hi hj
          obtain ⟨j, rfl⟩ : ∃ j', j = j' + 1 := ⟨j - 1, by omega⟩
          have hlt : i < l.length := by omega
          have hdr : l.drop i = l[i] :: l.drop (i + 1) := List.drop_eq_getElem_cons hlt
          obtain ⟨b, hb, hb2⟩ := lmay fail m (by omega) l[i]
          dsimp only at hb
          have h2 : ∀ K : Bool → ρ, p61_2L fail m sf K (Lv.rows l) (Tm.rows a) (j + 1) ((i : Nat) : Int) = bif (!b) then K false else p61_2L fail m sf K (Lv.rows l) (Tm.rows a) j ((i + 1 : Nat) : Int) := fun K => by
            rw [p61_2L, p61_2, Lv.rows_len, lssT (by omega), cond_true, gd_y (by omega), gd_y (by omega), lv_row fail l i hlt, hb, addZ (by omega) (by omega), show ((i : Nat) : Int) + 1 = ((i + 1 : Nat) : Int) by omega]
          cases b with
          | false => exact ⟨false, fun K => h2 K, fun h => by cases h⟩
          | true =>
            obtain ⟨b', g1, g2⟩ := ihr (i + 1) j (by omega) (by omega)
            refine ⟨b', fun K => (h2 K).trans (g1 K), fun hb' => ⟨fun x hx => ?_, (g2 hb').2⟩⟩
            rw [hdr] at hx
            rcases List.mem_cons.1 hx with rfl | hx
            · exact hb2 rfl
            · exact (g2 hb').1 x hx
      obtain ⟨b, g1, g2⟩ := loopL l.length 0 m (by omega) (by omega)
      dsimp only at g1
      refine ⟨b, fun K => ?_, fun hb => ?_⟩
      · dsimp only
        rw [p61, p61_b, hs, Lv.rows_len, gtrF (by omega), cond_false]; exact g1 K
      · obtain ⟨q1, q2⟩ := g2 hb
        have q3 := gA2 q2
        refine ⟨fun u => u = .mk k n s l a ∨ ∃ v ∈ a, ∃ P : Tm → Prop, P v ∧ (∀ u, P u → u.ls.length ≤ 4 ∧ (∀ l ∈ u.ls, l.good 32 ∧ l.parts ≤ 64) ∧ ∀ v ∈ u.args, P v) ∧ P u, .inl rfl, ?_⟩
        rintro u (rfl | ⟨v, hv, P, hP1, hP2, hP3⟩)
        · refine ⟨c4, fun x hx => q1 x (by simpa using hx), fun v hv => ?_⟩
          obtain ⟨P, p1, p2⟩ := q3 v (by simpa using hv)
          exact .inr ⟨v, hv, P, p1, p2, p1⟩
        · obtain ⟨r1, r2, r3⟩ := hP2 u hP3
          exact ⟨r1, r2, fun w hw => .inr ⟨v, hv, P, hP1, hP2, r3 w hw⟩⟩
    · refine ⟨false, fun K => ?_, fun h => by cases h⟩
      dsimp only
      rw [p61, p61_b, Lv.rows_len, gtrT (by omega), cond_true]
theorem may_names {ρ : Type} (fail : ρ) : ∀ (d : Nat), d ≤ 100 → ∀ (fu : Nat) (t : Tm), d + 20 ≤ fu → t.whole → t.dep d → BO (fun K : Bool → ρ => p62 fail fu K t.k t.n t.nm (Lv.rows t.ls) (Tm.rows t.args)) (∃ P : Tm → Prop, P t ∧ ∀ u, P u → u.nm.size ≤ 24 ∧ ∀ v ∈ u.args, P v) := by
  intro d
  induction d with
  | zero => intro _ fu t _ _ hd; exact hd.elim
  | succ d ih =>
    intro hd fu t hf hw hdep
    obtain ⟨k, n, s, l, a⟩ := t
    obtain ⟨m, rfl⟩ : ∃ m, fu = m + 1 := ⟨fu - 1, by omega⟩
    simp only [Tm.k, Tm.n, Tm.nm, Tm.ls, Tm.args]
    have ha3 := partOk_args hw.1
    generalize hs : p62 fail m = sf
    by_cases c4 : s.size ≤ 24
    · have loopA : ∀ (r i j : Nat), i + r = a.length → r < j → BO (fun K : Bool → ρ => p62_1L fail m sf K (Tm.rows a) j ((i : Nat) : Int)) (∀ v ∈ a.drop i, ∃ P : Tm → Prop, P v ∧ ∀ u, P u → u.nm.size ≤ 24 ∧ ∀ v ∈ u.args, P v) := by
        intro r
        induction r with
        | zero =>
          intro i j hi hj
          obtain ⟨j, rfl⟩ : ∃ j', j = j' + 1 := ⟨j - 1, by omega⟩
          refine ⟨true, fun K => ?_, fun _ x hx => ?_⟩
          · dsimp only; rw [p62_1L, p62_1, Tm.rows_len, lssF (by omega), cond_false]
          · rw [List.drop_eq_nil_of_le (by omega)] at hx; simp at hx
        | succ r ihr =>
          intro i j hi hj
          obtain ⟨j, rfl⟩ : ∃ j', j = j' + 1 := ⟨j - 1, by omega⟩
          have hlt : i < a.length := by omega
          have hdr : a.drop i = a[i] :: a.drop (i + 1) := List.drop_eq_getElem_cons hlt
          obtain ⟨b, hb, hb2⟩ := ih (by omega) m a[i] (by omega) (Tm.wholes_mem hw.2 (List.getElem_mem hlt)) (hdep _ (List.getElem_mem hlt))
          dsimp only at hb
          rw [hs] at hb
          have h2 : ∀ K : Bool → ρ, p62_1L fail m sf K (Tm.rows a) (j + 1) ((i : Nat) : Int) = bif (!b) then K false else p62_1L fail m sf K (Tm.rows a) j ((i + 1 : Nat) : Int) := fun K => by
            rw [p62_1L, p62_1, Tm.rows_len, lssT (by omega), cond_true, gd_y (by omega), gd_y (by omega), tm_row fail a i hlt, hb, addZ (by omega) (by omega), show ((i : Nat) : Int) + 1 = ((i + 1 : Nat) : Int) by omega]
          cases b with
          | false => exact ⟨false, fun K => h2 K, fun h => by cases h⟩
          | true =>
            obtain ⟨b', g1, g2⟩ := ihr (i + 1) j (by omega) (by omega)
            refine ⟨b', fun K => (h2 K).trans (g1 K), fun hb' x hx => ?_⟩
            rw [hdr] at hx
            rcases List.mem_cons.1 hx with rfl | hx
            · exact hb2 rfl
            · exact g2 hb' x hx
      obtain ⟨b, g1, g2⟩ := loopA a.length 0 m (by omega) (by omega)
      dsimp only at g1
      refine ⟨b, fun K => ?_, fun hb => ?_⟩
      · dsimp only
        rw [p62, p62_b, hs, gtrF (by omega), cond_false]; exact g1 K
      · have q3 := g2 hb
        refine ⟨fun u => u = .mk k n s l a ∨ ∃ v ∈ a, ∃ P : Tm → Prop, P v ∧ (∀ u, P u → u.nm.size ≤ 24 ∧ ∀ v ∈ u.args, P v) ∧ P u, .inl rfl, ?_⟩
        rintro u (rfl | ⟨v, hv, P, hP1, hP2, hP3⟩)
        · refine ⟨c4, fun v hv => ?_⟩
          obtain ⟨P, p1, p2⟩ := q3 v (by simpa using hv)
          exact .inr ⟨v, hv, P, p1, p2, p1⟩
        · obtain ⟨r1, r3⟩ := hP2 u hP3
          exact ⟨r1, fun w hw => .inr ⟨v, hv, P, hP1, hP2, r3 w hw⟩⟩
    · refine ⟨false, fun K => ?_, fun h => by cases h⟩
      dsimp only
      rw [p62, p62_b, gtrT (by omega), cond_true]
theorem good_of {P Q : Tm → Prop} (hP : ∀ u, P u → u.ls.length ≤ 4 ∧ (∀ l ∈ u.ls, l.good 32 ∧ l.parts ≤ 64) ∧ ∀ v ∈ u.args, P v) (hQ : ∀ u, Q u → u.nm.size ≤ 24 ∧ ∀ v ∈ u.args, Q v) : ∀ (d : Nat) (t : Tm), t.whole → t.dep d → P t → Q t → t.good d
  | 0, _, _, h, _, _ => h
  | d + 1, .mk k n s l a, hw, hd, hp, hq => by
    obtain ⟨p1, p2, p3⟩ := hP _ hp
    obtain ⟨q1, q2⟩ := hQ _ hq
    refine ⟨?_, p2, fun b hb => good_of hP hQ d b (Tm.wholes_mem hw.2 hb) (hd b hb) (p3 b hb) (q2 b hb)⟩
    rcases hw.1 with ⟨h1, h2, h3, h4, h5, h6⟩ | ⟨h1, h2, h3, h4, h5⟩ | ⟨h1, h2, h3⟩ | ⟨h1, h2, h3, h4, h5, h6⟩
    · exact .inl ⟨h1, h2, h3, h4, List.length_eq_zero_iff.1 h5, List.length_eq_zero_iff.1 h6⟩
    · exact .inr (.inl ⟨h1, h2, h3, h4, List.length_eq_zero_iff.1 h5⟩)
    · exact .inr (.inr (.inl ⟨h1, h2, q1, p1, List.length_eq_zero_iff.1 h3⟩))
    · exact .inr (.inr (.inr ⟨h1, h2, h3, h4, List.length_eq_zero_iff.1 h5, h6⟩))
/-- The guard: such terms as may be written, and read again. -/
theorem mayTerm_eq {ρ : Type} (fail : ρ) (fu : Nat) (hf : 3000 ≤ fu) (t : Tm) : BO (fun K : Bool → ρ => p16 fail fu K t.k t.n t.nm (Lv.rows t.ls) (Tm.rows t.args)) (t.good 100 ∧ t.parts ≤ 2000) := by
  obtain ⟨w, hw, hw2⟩ := whole_may fail 2000 (by omega) fu t (by omega)
  have e2000 : (2000 : Int) = ((2000 : Nat) : Int) := rfl
  have e100 : (100 : Int) = ((100 : Nat) : Int) := rfl
  cases w with
  | none =>
    refine ⟨false, fun K => ?_, fun h => by cases h⟩
    dsimp only
    rw [p16, e2000, hw, cond_false, p16_1]
  | some q =>
    obtain ⟨g1, g2⟩ := hw2 q rfl
    obtain ⟨d, h1, h2, h3⟩ := depth_may fail 100 (by omega) fu t (by omega) g2
    by_cases c : d ≤ 100
    · obtain ⟨b, hb, hb2⟩ := may_levels fail 100 (by omega) fu t (by omega) g2 (h3 c)
      obtain ⟨b', hb', hb2'⟩ := may_names fail 100 (by omega) fu t (by omega) g2 (h3 c)
      dsimp only at hb hb'
      cases b with
      | false =>
        refine ⟨false, fun K => ?_, fun h => by cases h⟩
        dsimp only
        rw [p16, e2000, hw]
        dsimp only
        rw [cond_true, e100, h1, leqT (by omega), cond_true, hb, cond_false, p16_1]
      | true =>
        refine ⟨b', fun K => ?_, fun h => ?_⟩
        · dsimp only
          rw [p16, e2000, hw]
          dsimp only
          rw [cond_true, e100, h1, leqT (by omega), cond_true, hb, cond_true, hb', p16_1]
        · obtain ⟨P, p1, p2⟩ := hb2 rfl
          obtain ⟨Q, q1, q2⟩ := hb2' h
          exact ⟨good_of p2 q2 100 t g2 (h3 c) p1 q1, by omega⟩
    · refine ⟨false, fun K => ?_, fun h => by cases h⟩
      dsimp only
      rw [p16, e2000, hw]
      dsimp only
      rw [cond_true, e100, h1, leqF (by omega), cond_false, p16_1]
mutual
theorem Lv.sz_parts : ∀ l : Lv, l.sz + 1 = 2 * l.parts
  | .mk k n l => by have := Lv.szs_parts l; simp only [Lv.sz, Lv.parts]; omega
theorem Lv.szs_parts : ∀ l : List Lv, Lv.szs l = 2 * Lv.partss l
  | [] => rfl
  | a :: l => by have := Lv.sz_parts a; have h2 := Lv.szs_parts l; simp only [Lv.szs, Lv.partss]; omega
end
theorem levels_sz : ∀ (l : List Lv), (∀ b ∈ l, Lv.good 32 b ∧ b.parts ≤ 64) → Lv.szs l ≤ 128 * l.length
  | [], _ => Nat.le_refl _
  | a :: l, h => by
    have h1 := (h a (by simp)).2
    have h2 := Lv.sz_parts a
    have h3 := levels_sz l fun b hb => h b (by simp [hb])
    simp only [Lv.szs, List.length_cons]; omega
theorem rows_sz {d : Nat} (hd : ∀ t : Tm, t.good d → t.sz + 1 ≤ 600 * t.parts) : ∀ (a : List Tm), (∀ b ∈ a, Tm.good d b) → Tm.szs a ≤ 600 * Tm.partss a
  | [], _ => Nat.le_refl _
  | b :: a, h => by
    have h1 := hd b (h b (by simp))
    have h2 := rows_sz hd a fun c hc => h c (by simp [hc])
    simp only [Tm.szs, Tm.partss]; omega
theorem good_sz : ∀ (d : Nat) (t : Tm), t.good d → t.sz + 1 ≤ 600 * t.parts
  | 0, _, h => h.elim
  | d + 1, .mk k n s l a, h => by
    obtain ⟨hk, hl, ha⟩ := h
    have h1 := levels_sz l hl
    have h2 := rows_sz (good_sz d) a ha
    simp only [Tm.sz, Tm.parts]
    have h3 : s.size ≤ 24 ∧ l.length ≤ 4 := by
      rcases hk with ⟨_, _, _, h, h', _⟩ | ⟨_, _, h, h', _⟩ | ⟨_, _, h, h', _⟩ | ⟨_, _, _, h, h', _⟩
      · rw [h']; exact ⟨by omega, Nat.zero_le _⟩
      · omega
      · omega
      · rw [h']; exact ⟨by omega, Nat.zero_le _⟩
    omega
theorem good_lvs {d : Nat} (hd : ∀ t : Tm, t.good d → t.lvOk) : ∀ (a : List Tm), (∀ b ∈ a, Tm.good d b) → Tm.lvOks a
  | [], _ => trivial
  | b :: a, h => ⟨hd b (h b (by simp)), good_lvs hd a fun c hc => h c (by simp [hc])⟩
theorem good_lv : ∀ (d : Nat) (t : Tm), t.good d → t.lvOk
  | 0, _, h => h.elim
  | d + 1, .mk k n s l a, h => by
    obtain ⟨hk, hl, ha⟩ := h
    refine ⟨fun h1 => ?_, fun h1 h2 => ?_, good_lvs (good_lv d) a ha⟩
    · rcases hk with ⟨h, _⟩ | ⟨_, _, _, h, _⟩ | ⟨h, _⟩ | ⟨h, _⟩ <;> omega
    · rcases hk with ⟨_, _, _, _, h, _⟩ | ⟨h, _⟩ | ⟨h, _⟩ | ⟨_, _, _, _, h, _⟩
      · exact h
      · omega
      · omega
      · exact h
end Go.Proofs.Ythncmjlcmlmnmaa

namespace Go.Proofs.Ythncmjlcmlmnmaa
open Go V
set_option maxRecDepth 100000
set_option maxHeartbeats 4000000
def p82_1 {ρ : Type} (fail : ρ) (fu : Nat)  (K0 : Bool → ρ)   (j1 : Bool) : ρ :=
  K0 j1
/-- ref25.small -/
def p82 {ρ : Type} (fail : ρ) (fu : Nat)  (K0 : Bool → ρ) (x0 : Int) : ρ :=
  bif (cmpStd .geq x0 0) then (p82_1 fail fu  K0  (cmpStd .leq x0 1073741824)) else (p82_1 fail fu  K0  false)
theorem d_p82 (fu : Nat)  {K0 : Bool → Prop} (L : EL → Nat) (hN : L = List.length) {x0 : Int} (h : p82 False fu K0 x0) : Den Try.prog G0 82 [.c (.v (.int .i64 x0))] (fun r bs => (∃ (y0 : Bool) (o0 : OV), (r = .c (.v (.bool y0)) ∧ bs = [o0]) ∧ K0 y0)) := by
  obtain ⟨O, hO⟩ : ∃ O, O = std 0 T G0 (Den Try.prog G0) := ⟨_, rfl⟩
  have hLO : L = O.len := by rw [hN, hO]; rfl
  subst hLO
  refine den_h hO tiA mixed tabOk (fn := Try.f82) (sh := true) (by kernel_rfl) rfl rfl rfl rfl ?_
  intro Q hQ
  unfold p82 at h
  conv => cbv
  refine reg_join hO tiA [2] [] [] (fun tm m => ∃ (j1 : Bool), ((tm = frame 0 9 [(2, .c (.v (.bool j1)))] ∧ m = ⟨[], 1⟩)) ∧ p82_1 False fu  K0  j1) (fun L hL_1 => ?_) ?_
  · conv => cbv
    refine br_h hO h (by subst hO; rfl) (fun hc1 h => ?_) (fun hc1 h => ?_)
    · conv => cbv
      refine br_t hO hc1 ?_
      conv => cbv
      refine br_t hO hc1 ?_
      conv => cbv
      exact hL_1 _ _ ⟨(cmpStd .leq x0 1073741824), ⟨(by (conv => lhs; cbv) <;> (subst hO; rfl)), (by (conv => lhs; cbv) <;> (subst hO; rfl))⟩, h⟩
    · conv => cbv
      refine br_f hO hc1 ?_
      conv => cbv
      refine br_f hO hc1 ?_
      conv => cbv
      exact hL_1 _ _ ⟨false, ⟨(by (conv => lhs; cbv) <;> (subst hO; rfl)), (by (conv => lhs; cbv) <;> (subst hO; rfl))⟩, h⟩
  · rintro tm m ⟨j1, hs, h⟩
    unfold p82_1 at h
    obtain ⟨rfl, rfl⟩ := hs
    conv => cbv
    rw [hQ]
    exact ⟨j1, _, ⟨(by subst hO; rfl), (by subst hO; rfl)⟩, h⟩
end Go.Proofs.Ythncmjlcmlmnmaa

namespace Go.Proofs.Ythncmjlcmlmnmaa
open Go V
set_option maxRecDepth 100000
set_option maxHeartbeats 4000000
def p42_1 {ρ : Type} (fail : ρ) (fu : Nat)  (K0 : Bool → ρ) (rec1 : Int → ρ) (x12 : EL) (z2 : Int) : ρ :=
  bif (cmpStd .lss z2 ((x12.length : Nat) : Int)) then (gd ((0 : Int) ≤ z2) fail (gd ((z2 : Int) < (x12.length : Nat)) fail (rw_s fail (List.getD x12 ((z2 : Int).toNat) []) (fun c3 => bif (cmpStd .gtr ((c3.size : Nat) : Int) 24) then (K0 false) else (rec1 (binStd .add .i64 z2 1)))))) else (K0 true)
def p42_1L {ρ : Type} (fail : ρ) (fu : Nat)  (K0 : Bool → ρ)  (x12 : EL) : Nat → Int → ρ
  | 0, _ => fail
  | n + 1, z2 => p42_1 fail fu  K0 (p42_1L fail fu  K0  x12 n) x12 z2
def p42_2 {ρ : Type} (fail : ρ) (fu : Nat)  (K0 : Bool → ρ)  (x12 : EL) (j1 : Bool) : ρ :=
  bif j1 then (K0 false) else (p42_1L fail fu  K0 x12 fu 0)
/-- ref25.MayReply -/
def p42 {ρ : Type} (fail : ρ) (fu : Nat)  (K0 : Bool → ρ) (x0 : Int) (x1 : Int) (x2 : Int) (x3 : Int) (x4 : Int) (x5 : Bool) (x6 : Int) (x7 : Int) (x8 : ByteArray) (x9 : EL) (x10 : EL) (x11 : Int) (x12 : EL) : ρ :=
  p82 fail fu (fun y4 => bif (!y4) then (p42_2 fail fu  K0 x12 true) else (p82 fail fu (fun y5 => bif (!y5) then (p42_2 fail fu  K0 x12 true) else (p82 fail fu (fun y6 => bif (!y6) then (p42_2 fail fu  K0 x12 true) else (p82 fail fu (fun y7 => bif (!y7) then (p42_2 fail fu  K0 x12 true) else (bif (cmpStd .gtr ((x12.length : Nat) : Int) 65536) then (p42_2 fail fu  K0 x12 true) else (p16 fail fu (fun y8 => p42_2 fail fu  K0 x12 (!y8)) x6 x7 x8 x9 x10))) x11)) x4)) x3)) x0
theorem d_p42 (fu : Nat)  {K0 : Bool → Prop} (L : EL → Nat) (hN : L = List.length) {x0 : Int} {x1 : Int} {x2 : Int} {x3 : Int} {x4 : Int} {x5 : Bool} {x6 : Int} {x7 : Int} {x8 : ByteArray} {x9 : EL} {x10 : EL} {x11 : Int} {x12 : EL} (h : p42 False fu K0 x0 x1 x2 x3 x4 x5 x6 x7 x8 x9 x10 x11 x12) : Den Try.prog G0 42 [.agg [.c (.v (.int .i64 x0)), .c (.v (.int .u64 x1)), .c (.v (.int .u64 x2)), .c (.v (.int .i64 x3)), .c (.v (.int .i64 x4)), .c (.v (.bool x5)), .c (.v (.int .i64 x6)), .c (.v (.int .i64 x7)), .c (.v (.string x8)), .c (.sl 3 x9 none), .c (.sl 5 x10 none), .c (.v (.int .i64 x11)), .c (.sl 1 x12 none)]] (fun r bs => (∃ (y0 : Bool) (o0 : OV), (r = .c (.v (.bool y0)) ∧ bs = [o0]) ∧ K0 y0)) := by
  obtain ⟨O, hO⟩ : ∃ O, O = std 0 T G0 (Den Try.prog G0) := ⟨_, rfl⟩
  have hLO : L = O.len := by rw [hN, hO]; rfl
  subst hLO
  refine den_h hO tiA mixed tabOk (fn := Try.f42) (sh := true) (by kernel_rfl) rfl rfl rfl rfl ?_
  intro Q hQ
  unfold p42 at h
  conv => cbv
  refine reg_join hO tiA [1, 37] [2000] [] (fun tm m => ∃ (j1 : Bool), ((tm = frame 0 52 [(1, .p 2000 0 0), (37, .c (.v (.bool j1)))] ∧ m = ⟨[(2000, .blk 0 [.c (.v (.int .i64 x0)), .c (.v (.int .u64 x1)), .c (.v (.int .u64 x2)), .c (.v (.int .i64 x3)), .c (.v (.int .i64 x4)), .c (.v (.bool x5)), .c (.v (.int .i64 x6)), .c (.v (.int .i64 x7)), .c (.v (.string x8)), .c (.sl 3 x9 none), .c (.sl 5 x10 none), .c (.v (.int .i64 x11)), .c (.sl 1 x12 none)])], 1⟩)) ∧ p42_2 False fu  K0 x12 j1) (fun L hL_2 => ?_) ?_
  · conv => cbv
    refine call_h hO [.shut] (d_p82 fu O.len hN h) ?_
    intro os Q hos hQ
    conv => cbv
    refine ⟨(by (rw [hos]) <;> (subst hO; rfl)), ?_⟩
    intro r bs hq
    rw [hQ] at hq
    clear hos hQ h
    obtain ⟨y4, _, ⟨rfl, rfl⟩, h⟩ := hq
    conv => cbv
    refine br_h hO h (by subst hO; rfl) (fun hc4 h => ?_) (fun hc4 h => ?_)
    · conv => cbv
      refine br_t hO hc4 ?_
      conv => cbv
      refine br_t hO hc4 ?_
      conv => cbv
      refine br_t hO hc4 ?_
      conv => cbv
      refine br_t hO hc4 ?_
      conv => cbv
      refine br_t hO rfl ?_
      conv => cbv
      refine br_t hO rfl ?_
      conv => cbv
      refine br_t hO rfl ?_
      conv => cbv
      refine br_t hO rfl ?_
      conv => cbv
      refine br_t hO rfl ?_
      conv => cbv
      refine br_t hO rfl ?_
      conv => cbv
      refine br_t hO rfl ?_
      conv => cbv
      refine br_t hO rfl ?_
      conv => cbv
      refine br_t hO rfl ?_
      conv => cbv
      refine br_t hO rfl ?_
      conv => cbv
      refine br_t hO rfl ?_
      conv => cbv
      refine br_t hO rfl ?_
      conv => cbv
      refine br_t hO rfl ?_
      conv => cbv
      refine br_t hO rfl ?_
      conv => cbv
      refine br_t hO rfl ?_
      conv => cbv
      refine br_t hO rfl ?_
      conv => cbv
      refine br_t hO rfl ?_
      conv => cbv
      refine br_t hO rfl ?_
      conv => cbv
      refine br_t hO rfl ?_
      conv => cbv
      refine br_t hO rfl ?_
      conv => cbv
      exact hL_2 _ _ ⟨true, ⟨(by (conv => lhs; cbv) <;> (subst hO; rfl)), (by (conv => lhs; cbv) <;> (subst hO; rfl))⟩, h⟩
    · conv => cbv
      refine br_f hO hc4 ?_
      conv => cbv
      refine br_f hO hc4 ?_
      conv => cbv
      refine call_h hO [.shut] (d_p82 fu O.len hN h) ?_
      intro os Q hos hQ
      conv => cbv
      refine ⟨(by (rw [hos]) <;> (subst hO; rfl)), ?_⟩
      intro r bs hq
      rw [hQ] at hq
      clear hos hQ h
      obtain ⟨y5, _, ⟨rfl, rfl⟩, h⟩ := hq
      conv => cbv
      refine br_f hO hc4 ?_
      conv => cbv
      refine br_f hO hc4 ?_
      conv => cbv
      refine br_h hO h (by subst hO; rfl) (fun hc5 h => ?_) (fun hc5 h => ?_)
      · conv => cbv
        refine br_t hO hc5 ?_
        conv => cbv
        refine br_t hO hc5 ?_
        conv => cbv
        refine br_t hO hc5 ?_
        conv => cbv
        refine br_t hO hc5 ?_
        conv => cbv
        refine br_t hO rfl ?_
        conv => cbv
        refine br_t hO rfl ?_
        conv => cbv
        refine br_t hO rfl ?_
        conv => cbv
        refine br_t hO rfl ?_
        conv => cbv
        refine br_t hO rfl ?_
        conv => cbv
        refine br_t hO rfl ?_
        conv => cbv
        refine br_t hO rfl ?_
        conv => cbv
        refine br_t hO rfl ?_
        conv => cbv
        refine br_t hO rfl ?_
        conv => cbv
        refine br_t hO rfl ?_
        conv => cbv
        refine br_t hO rfl ?_
        conv => cbv
        refine br_t hO rfl ?_
        conv => cbv
        refine br_t hO rfl ?_
        conv => cbv
        refine br_t hO rfl ?_
        conv => cbv
        refine br_t hO rfl ?_
        conv => cbv
        exact hL_2 _ _ ⟨true, ⟨(by (conv => lhs; cbv) <;> (subst hO; rfl)), (by (conv => lhs; cbv) <;> (subst hO; rfl))⟩, h⟩
      · conv => cbv
        refine br_f hO hc5 ?_
        conv => cbv
        refine br_f hO hc5 ?_
        conv => cbv
        refine call_h hO [.shut] (d_p82 fu O.len hN h) ?_
        intro os Q hos hQ
        conv => cbv
        refine ⟨(by (rw [hos]) <;> (subst hO; rfl)), ?_⟩
        intro r bs hq
        rw [hQ] at hq
        clear hos hQ h
        obtain ⟨y6, _, ⟨rfl, rfl⟩, h⟩ := hq
        conv => cbv
        refine br_f hO hc5 ?_
        conv => cbv
        refine br_f hO hc5 ?_
        conv => cbv
        refine br_h hO h (by subst hO; rfl) (fun hc6 h => ?_) (fun hc6 h => ?_)
        · conv => cbv
          refine br_t hO hc6 ?_
          conv => cbv
          refine br_t hO hc6 ?_
          conv => cbv
          refine br_t hO hc6 ?_
          conv => cbv
          refine br_t hO hc6 ?_
          conv => cbv
          refine br_t hO rfl ?_
          conv => cbv
          refine br_t hO rfl ?_
          conv => cbv
          refine br_t hO rfl ?_
          conv => cbv
          refine br_t hO rfl ?_
          conv => cbv
          refine br_t hO rfl ?_
          conv => cbv
          refine br_t hO rfl ?_
          conv => cbv
          refine br_t hO rfl ?_
          conv => cbv
          refine br_t hO rfl ?_
          conv => cbv
          refine br_t hO rfl ?_
          conv => cbv
          refine br_t hO rfl ?_
          conv => cbv
          exact hL_2 _ _ ⟨true, ⟨(by (conv => lhs; cbv) <;> (subst hO; rfl)), (by (conv => lhs; cbv) <;> (subst hO; rfl))⟩, h⟩
        · conv => cbv
          refine br_f hO hc6 ?_
          conv => cbv
          refine br_f hO hc6 ?_
          conv => cbv
          refine call_h hO [.shut] (d_p82 fu O.len hN h) ?_
          intro os Q hos hQ
          conv => cbv
          refine ⟨(by (rw [hos]) <;> (subst hO; rfl)), ?_⟩
          intro r bs hq
          rw [hQ] at hq
          clear hos hQ h
          obtain ⟨y7, _, ⟨rfl, rfl⟩, h⟩ := hq
          conv => cbv
          refine br_f hO hc6 ?_
          conv => cbv
          refine br_f hO hc6 ?_
          conv => cbv
          refine br_h hO h (by subst hO; rfl) (fun hc7 h => ?_) (fun hc7 h => ?_)
          · conv => cbv
            refine br_t hO hc7 ?_
            conv => cbv
            refine br_t hO hc7 ?_
            conv => cbv
            refine br_t hO hc7 ?_
            conv => cbv
            refine br_t hO hc7 ?_
            conv => cbv
            refine br_t hO rfl ?_
            conv => cbv
            refine br_t hO rfl ?_
            conv => cbv
            refine br_t hO rfl ?_
            conv => cbv
            refine br_t hO rfl ?_
            conv => cbv
            refine br_t hO rfl ?_
            conv => cbv
            exact hL_2 _ _ ⟨true, ⟨(by (conv => lhs; cbv) <;> (subst hO; rfl)), (by (conv => lhs; cbv) <;> (subst hO; rfl))⟩, h⟩
          · conv => cbv
            refine br_f hO hc7 ?_
            conv => cbv
            refine br_f hO hc7 ?_
            conv => cbv
            refine br_f hO hc7 ?_
            conv => cbv
            refine br_f hO hc7 ?_
            conv => cbv
            refine br_h hO h (by subst hO; rfl) (fun hc8 h => ?_) (fun hc8 h => ?_)
            · conv => cbv
              refine br_t hO hc8 ?_
              conv => cbv
              refine br_t hO hc8 ?_
              conv => cbv
              refine br_t hO hc8 ?_
              conv => cbv
              refine br_t hO hc8 ?_
              conv => cbv
              exact hL_2 _ _ ⟨true, ⟨(by (conv => lhs; cbv) <;> (subst hO; rfl)), (by (conv => lhs; cbv) <;> (subst hO; rfl))⟩, h⟩
            · conv => cbv
              refine br_f hO hc8 ?_
              conv => cbv
              refine br_f hO hc8 ?_
              conv => cbv
              refine call_h hO [.shut] (d_p16 fu O.len hN h) ?_
              intro os Q hos hQ
              conv => cbv
              refine ⟨(by (rw [hos]) <;> (subst hO; rfl)), ?_⟩
              intro r bs hq
              rw [hQ] at hq
              clear hos hQ h
              obtain ⟨y8, _, ⟨rfl, rfl⟩, h⟩ := hq
              conv => cbv
              refine br_f hO hc8 ?_
              conv => cbv
              refine br_f hO hc8 ?_
              conv => cbv
              exact hL_2 _ _ ⟨(!y8), ⟨(by (conv => lhs; cbv) <;> (subst hO; rfl)), (by (conv => lhs; cbv) <;> (subst hO; rfl))⟩, h⟩
  · rintro tm m ⟨j1, hs, h⟩
    unfold p42_2 at h
    obtain ⟨rfl, rfl⟩ := hs
    conv => cbv
    refine br_h hO h (by subst hO; rfl) (fun hc1 h => ?_) (fun hc1 h => ?_)
    · conv => cbv
      rw [hQ]
      exact ⟨false, _, ⟨(by subst hO; rfl), (by subst hO; rfl)⟩, h⟩
    · conv => cbv
      refine join_all hO ?_
      conv => cbv
      refine loop_of hO tiA [1, 3] [2000] [] (fun (n : Nat) tm m => ∃ (z2 : Int), ((tm = frame 0 52 [(1, .p 2000 0 0), (3, .c (.v (.int .i64 z2)))] ∧ m = ⟨[(2000, .blk 0 [.c (.v (.int .i64 x0)), .c (.v (.int .u64 x1)), .c (.v (.int .u64 x2)), .c (.v (.int .i64 x3)), .c (.v (.int .i64 x4)), .c (.v (.bool x5)), .c (.v (.int .i64 x6)), .c (.v (.int .i64 x7)), .c (.v (.string x8)), .c (.sl 3 x9 none), .c (.sl 5 x10 none), .c (.v (.int .i64 x11)), .c (.sl 1 x12 none)])], 1⟩)) ∧ p42_1L False fu  K0 x12 n z2) (fun n => n) fu ⟨0, ⟨(by (conv => lhs; cbv) <;> (subst hO; rfl)), (by (conv => lhs; cbv) <;> (subst hO; rfl))⟩, h⟩ ?_
      rintro n1 tm m L ⟨z2, hs, h⟩ hLn1
      cases n1 with
      | zero => rw [p42_1L] at h; exact h.elim
      | succ n1 =>
        rw [p42_1L] at h
        unfold p42_1 at h
        obtain ⟨rfl, rfl⟩ := hs
        conv => cbv
        refine br_h hO h (by subst hO; rfl) (fun hc2 h => ?_) (fun hc2 h => ?_)
        · conv => cbv
          refine join_all hO ?_
          conv => cbv
          refine and_h h (fun g => (by subst hO; exact g)) (fun h => ?_)
          refine and_h h (fun g => (by subst hO; exact g)) (fun h => ?_)
          obtain ⟨c3, hr, h⟩ := rw_s_inv h
          refine elem_of hO _ (by subst hO; exact hr) ?_
          clear hr
          conv => cbv
          refine br_h hO h (by subst hO; rfl) (fun hc3 h => ?_) (fun hc3 h => ?_)
          · conv => cbv
            rw [hQ]
            exact ⟨false, _, ⟨(by subst hO; rfl), (by subst hO; rfl)⟩, h⟩
          · conv => cbv
            refine join_all hO ?_
            conv => cbv
            exact hLn1 n1 _ _ (Nat.lt_succ_self n1) ⟨binStd .add .i64 z2 1, ⟨(by (conv => lhs; cbv) <;> (subst hO; rfl)), (by (conv => lhs; cbv) <;> (subst hO; rfl))⟩, h⟩
        · conv => cbv
          rw [hQ]
          exact ⟨true, _, ⟨(by subst hO; rfl), (by subst hO; rfl)⟩, h⟩
end Go.Proofs.Ythncmjlcmlmnmaa

namespace Go.Proofs.Ythncmjlcmlmnmaa
open Go V
set_option maxRecDepth 100000
set_option maxHeartbeats 4000000
def p84_1 {ρ : Type} (fail : ρ) (fu : Nat)  (K0 : EL → ρ) (rec1 : EL → Int → ρ) (x1 : Int) (z2 : EL) (z3 : Int) : ρ :=
  bif (cmpStd .geq z3 0) then (gd ((0 : Int) ≤ (IntKind.u64.wrap z3)) fail (gd (1 ≤ [[(CV.v (.int .u8 (IntKind.u8.wrap (binStd .shr .u64 x1 (IntKind.u64.wrap z3)))))]].length) fail (gd ((z2.length + (List.take 1 [[(CV.v (.int .u8 (IntKind.u8.wrap (binStd .shr .u64 x1 (IntKind.u64.wrap z3)))))]]).length) * 1 ≤ 35184372088832) fail (rec1 (z2 ++ (List.take 1 [[(CV.v (.int .u8 (IntKind.u8.wrap (binStd .shr .u64 x1 (IntKind.u64.wrap z3)))))]])) (binStd .sub .i64 z3 8))))) else (K0 z2)
def p84_1L {ρ : Type} (fail : ρ) (fu : Nat)  (K0 : EL → ρ)  (x1 : Int) : Nat → EL → Int → ρ
  | 0, _, _ => fail
  | n + 1, z2, z3 => p84_1 fail fu  K0 (p84_1L fail fu  K0  x1 n) x1 z2 z3
/-- octet.Eight -/
def p84 {ρ : Type} (fail : ρ) (fu : Nat)  (K0 : EL → ρ) (x0 : EL) (x1 : Int) : ρ :=
  p120 fail fu (fun y1 => p84_1L fail fu  K0 x1 fu y1 56) x0 8
theorem d_p84 (fu : Nat)  {K0 : EL → Prop} (L : EL → Nat) (hN : L = List.length) {x0 : EL} {x1 : Int} (h : p84 False fu K0 x0 x1) : Den Try.prog G0 84 [.c (.sl 1 x0 none), .c (.v (.int .u64 x1))] (fun r bs => (∃ (y0 : EL) (o0 : OV) (o1 : OV), (r = .arr 1 y0 none false (L y0) ∧ bs = [o0, o1]) ∧ K0 y0)) := by
  obtain ⟨O, hO⟩ : ∃ O, O = std 0 T G0 (Den Try.prog G0) := ⟨_, rfl⟩
  have hLO : L = O.len := by rw [hN, hO]; rfl
  subst hLO
  refine den_h hO tiA mixed tabOk (fn := Try.f84) (sh := false) (by kernel_rfl) rfl rfl rfl rfl ?_
  intro Q hQ
  unfold p84 at h
  conv => cbv
  refine call_h hO [.shut, .shut] (d_p120 fu O.len hN h) ?_
  intro os Q hos hQ
  conv => cbv
  refine ⟨(by (rw [hos]) <;> (subst hO; rfl)), ?_⟩
  intro r bs hq
  rw [hQ] at hq
  clear hos hQ h
  obtain ⟨y1, _, _, ⟨rfl, rfl⟩, h⟩ := hq
  conv => cbv
  refine loop_of hO tiA [1, 5, 6] [9000] [] (fun (n : Nat) tm m => ∃ (z2 : EL) (z3 : Int), ((tm = frame 0 22 [(1, .c (.v (.int .u64 x1))), (5, .t 9000 0 (O.len z2)), (6, .c (.v (.int .i64 z3)))] ∧ m = ⟨[(9000, .arr 0 1 z2 none false)], 1⟩)) ∧ p84_1L False fu  K0 x1 n z2 z3) (fun n => n) fu ⟨y1, 56, ⟨(by (conv => lhs; cbv) <;> (subst hO; rfl)), (by (conv => lhs; cbv) <;> (subst hO; rfl))⟩, h⟩ ?_
  rintro n1 tm m L ⟨z2, z3, hs, h⟩ hLn1
  cases n1 with
  | zero => rw [p84_1L] at h; exact h.elim
  | succ n1 =>
    rw [p84_1L] at h
    unfold p84_1 at h
    obtain ⟨rfl, rfl⟩ := hs
    conv => cbv
    refine br_h hO h (by subst hO; rfl) (fun hc1 h => ?_) (fun hc1 h => ?_)
    · conv => cbv
      refine join_all hO ?_
      conv => cbv
      refine alt_l hO ?_
      conv => cbv
      refine and_h h (fun g => (by subst hO; exact g)) (fun h => ?_)
      refine view_h hO h (fun g => (by subst hO; exact g)) (fun h => ?_)
      conv => cbv
      refine ⟨(by subst hO; rfl), ?_⟩
      refine and_h h (fun g => (by subst hO; exact g)) (fun h => ?_)
      exact hLn1 n1 _ _ (Nat.lt_succ_self n1) ⟨(z2 ++ (List.take 1 [[(CV.v (.int .u8 (IntKind.u8.wrap (binStd .shr .u64 x1 (IntKind.u64.wrap z3)))))]])), binStd .sub .i64 z3 8, ⟨(by (conv => lhs; cbv) <;> (subst hO; rfl)), (by (conv => lhs; cbv) <;> (subst hO; rfl))⟩, h⟩
    · conv => cbv
      refine alt_l hO ?_
      conv => cbv
      refine ⟨(by subst hO; exact Nat.le_refl _), ?_⟩
      rw [hQ]
      exact ⟨z2, _, _, ⟨(by subst hO; rfl), (by subst hO; rfl)⟩, h⟩
end Go.Proofs.Ythncmjlcmlmnmaa

namespace Go.Proofs.Ythncmjlcmlmnmaa
open Go V
set_option maxRecDepth 100000
set_option maxHeartbeats 4000000
def p85_1 {ρ : Type} (fail : ρ) (fu : Nat)  (K0 : EL → ρ)   (j1 : EL) : ρ :=
  K0 j1
/-- reply.flag -/
def p85 {ρ : Type} (fail : ρ) (fu : Nat)  (K0 : EL → ρ) (x0 : EL) (x1 : Bool) : ρ :=
  bif x1 then (gd (1 ≤ [[(CV.v (.int .i64 1))]].length) fail (p83 fail fu (fun y2 => p85_1 fail fu  K0  y2) x0 (List.take 1 [[(CV.v (.int .i64 1))]]))) else (gd (1 ≤ [[(CV.v (.int .i64 0))]].length) fail (p83 fail fu (fun y3 => p85_1 fail fu  K0  y3) x0 (List.take 1 [[(CV.v (.int .i64 0))]])))
theorem d_p85 (fu : Nat)  {K0 : EL → Prop} (L : EL → Nat) (hN : L = List.length) {x0 : EL} {x1 : Bool} (h : p85 False fu K0 x0 x1) : Den Try.prog G0 85 [.ptr [.arr 1 x0 none false (L x0)], .c (.v (.bool x1))] (fun r bs => (∃ (y0 : EL) (o1 : OV), (r = .tup [] ∧ bs = [.ptr [.arr 1 y0 none false (L y0)], o1]) ∧ K0 y0)) := by
  obtain ⟨O, hO⟩ : ∃ O, O = std 2 T G0 (Den Try.prog G0) := ⟨_, rfl⟩
  have hLO : L = O.len := by rw [hN, hO]; rfl
  subst hLO
  refine den_h hO tiA mixed tabOk (fn := Try.f85) (sh := true) (by kernel_rfl) rfl rfl rfl rfl ?_
  intro Q hQ
  unfold p85 at h
  conv => cbv
  refine br_join_h hO tiA h (by subst hO; rfl) [] [0, 1000000] [] (fun tm m => ∃ (j1 : EL), ((tm = frame 0 11 [] ∧ m = ⟨[(0, .blk 1 [.t 1000000 2 (O.len j1)]), (1000000, .arr 2 1 j1 none false)], 3⟩)) ∧ p85_1 False fu  K0  j1) (fun hc1 h L hL_1 => ?_) (fun hc1 h L hL_1 => ?_) ?_
  · conv => cbv
    obtain ⟨hc2, h⟩ := gd_inv h
    refine call_h hO [.ref 1, .shut] (d_p83 fu O.len hN h) ?_
    intro os Q hos hQ
    conv => cbv
    refine ⟨(by subst hO; exact Nat.le_refl _), ?_⟩
    refine view_of hO (by subst hO; exact hc2) ?_
    conv => cbv
    refine ⟨(by (rw [hos]) <;> (subst hO; rfl)), ?_⟩
    intro r bs hq
    rw [hQ] at hq
    clear hos hQ h
    obtain ⟨y2, _, ⟨rfl, rfl⟩, h⟩ := hq
    conv => cbv
    exact hL_1 _ _ ⟨y2, ⟨(by (conv => lhs; cbv) <;> (subst hO; rfl)), (by (conv => lhs; cbv) <;> (subst hO; rfl))⟩, h⟩
  · conv => cbv
    obtain ⟨hc3, h⟩ := gd_inv h
    refine call_h hO [.ref 1, .shut] (d_p83 fu O.len hN h) ?_
    intro os Q hos hQ
    conv => cbv
    refine ⟨(by subst hO; exact Nat.le_refl _), ?_⟩
    refine view_of hO (by subst hO; exact hc3) ?_
    conv => cbv
    refine ⟨(by (rw [hos]) <;> (subst hO; rfl)), ?_⟩
    intro r bs hq
    rw [hQ] at hq
    clear hos hQ h
    obtain ⟨y3, _, ⟨rfl, rfl⟩, h⟩ := hq
    conv => cbv
    exact hL_1 _ _ ⟨y3, ⟨(by (conv => lhs; cbv) <;> (subst hO; rfl)), (by (conv => lhs; cbv) <;> (subst hO; rfl))⟩, h⟩
  · rintro tm m ⟨j1, hs, h⟩
    unfold p85_1 at h
    obtain ⟨rfl, rfl⟩ := hs
    conv => cbv
    refine ⟨(by subst hO; exact Nat.le_refl _), ?_⟩
    rw [hQ]
    exact ⟨j1, _, ⟨(by subst hO; rfl), (by subst hO; rfl)⟩, h⟩
end Go.Proofs.Ythncmjlcmlmnmaa

namespace Go.Proofs.Ythncmjlcmlmnmaa
open Go V
set_option maxRecDepth 100000
set_option maxHeartbeats 4000000
def p43_1 {ρ : Type} (fail : ρ) (fu : Nat)  (K0 : EL → ρ) (rec1 : EL → Int → Int → ρ) (x13 : EL) (z11 : EL) (z12 : Int) (z13 : Int) : ρ :=
  bif (cmpStd .lss z13 z12) then (gd ((0 : Int) ≤ z13) fail (gd ((z13 : Int) < (x13.length : Nat)) fail (rw_s fail (List.getD x13 ((z13 : Int).toNat) []) (fun c14 => gd (c14.size ≤ (encB c14.data.toList).length) fail (p87 fail fu (fun y15 => rec1 y15 z12 (binStd .add .i64 z13 1)) z11 (List.take c14.size (encB c14.data.toList))))))) else (K0 z11)
def p43_1L {ρ : Type} (fail : ρ) (fu : Nat)  (K0 : EL → ρ)  (x13 : EL) : Nat → EL → Int → Int → ρ
  | 0, _, _, _ => fail
  | n + 1, z11, z12, z13 => p43_1 fail fu  K0 (p43_1L fail fu  K0  x13 n) x13 z11 z12 z13
def p43_2 {ρ : Type} (fail : ρ) (fu : Nat)  (K0 : EL → ρ)  (x12 : Int) (x13 : EL) (j9 : EL) : ρ :=
  gd (2 ≤ [[(CV.v (.int .i64 x12))], [(CV.v (.int .i64 ((x13.length : Nat) : Int)))]].length) fail (p83 fail fu (fun y10 => p43_1L fail fu  K0 x13 fu y10 ((x13.length : Nat) : Int) 0) j9 (List.take 2 [[(CV.v (.int .i64 x12))], [(CV.v (.int .i64 ((x13.length : Nat) : Int)))]]))
/-- reply.Put -/
def p43 {ρ : Type} (fail : ρ) (fu : Nat)  (K0 : EL → ρ) (x0 : EL) (x1 : Int) (x2 : Int) (x3 : Int) (x4 : Int) (x5 : Int) (x6 : Bool) (x7 : Int) (x8 : Int) (x9 : ByteArray) (x10 : EL) (x11 : EL) (x12 : Int) (x13 : EL) : ρ :=
  p63 fail fu (fun y1 => gd (1 ≤ [[(CV.v (.int .i64 x1))]].length) fail (p83 fail fu (fun y2 => p84 fail fu (fun y3 => p84 fail fu (fun y4 => gd (2 ≤ [[(CV.v (.int .i64 x4))], [(CV.v (.int .i64 x5))]].length) fail (p83 fail fu (fun y5 => p85 fail fu (fun y6 => p86 fail fu (fun y7 => p85 fail fu (fun y8 => bif (!y7) then (p64 fail fu (fun y16 => p43_2 fail fu  K0 x12 x13 y16) y8 x7 x8 x9 x10 x11) else (p43_2 fail fu  K0 x12 x13 y8)) y6 (!y7)) x7 x8 x9 x10 x11 0 0 ⟨#[]⟩ nilE nilE) y5 x6) y4 (List.take 2 [[(CV.v (.int .i64 x4))], [(CV.v (.int .i64 x5))]]))) y3 x3) y2 x2) y1 (List.take 1 [[(CV.v (.int .i64 x1))]]))) x0
theorem d_p43 (fu : Nat)  {K0 : EL → Prop} (L : EL → Nat) (hN : L = List.length) {x0 : EL} {x1 : Int} {x2 : Int} {x3 : Int} {x4 : Int} {x5 : Int} {x6 : Bool} {x7 : Int} {x8 : Int} {x9 : ByteArray} {x10 : EL} {x11 : EL} {x12 : Int} {x13 : EL} (h : p43 False fu K0 x0 x1 x2 x3 x4 x5 x6 x7 x8 x9 x10 x11 x12 x13) : Den Try.prog G0 43 [.c (.sl 1 x0 none), .agg [.c (.v (.int .i64 x1)), .c (.v (.int .u64 x2)), .c (.v (.int .u64 x3)), .c (.v (.int .i64 x4)), .c (.v (.int .i64 x5)), .c (.v (.bool x6)), .c (.v (.int .i64 x7)), .c (.v (.int .i64 x8)), .c (.v (.string x9)), .c (.sl 3 x10 none), .c (.sl 5 x11 none), .c (.v (.int .i64 x12)), .c (.sl 1 x13 none)]] (fun r bs => (∃ (y0 : EL) (o0 : OV) (o1 : OV), (r = .c (.sl 1 y0 none) ∧ bs = [o0, o1]) ∧ K0 y0)) := by
  obtain ⟨O, hO⟩ : ∃ O, O = std 0 T G0 (Den Try.prog G0) := ⟨_, rfl⟩
  have hLO : L = O.len := by rw [hN, hO]; rfl
  subst hLO
  refine den_h hO tiA mixed tabOk (fn := Try.f43) (sh := true) (by kernel_rfl) rfl rfl rfl rfl ?_
  intro Q hQ
  unfold p43 at h
  conv => cbv
  refine call_h hO [.shut] (d_p63 fu O.len hN h) ?_
  intro os Q hos hQ
  conv => cbv
  refine ⟨(by (rw [hos]) <;> (subst hO; rfl)), ?_⟩
  intro r bs hq
  rw [hQ] at hq
  clear hos hQ h
  obtain ⟨y1, _, ⟨rfl, rfl⟩, h⟩ := hq
  conv => cbv
  obtain ⟨hc6, h⟩ := gd_inv h
  refine call_h hO [.ref 1, .shut] (d_p83 fu O.len hN h) ?_
  intro os Q hos hQ
  conv => cbv
  refine ⟨(by subst hO; exact Nat.le_refl _), ?_⟩
  refine view_of hO (by subst hO; exact hc6) ?_
  conv => cbv
  refine ⟨(by (rw [hos]) <;> (subst hO; rfl)), ?_⟩
  intro r bs hq
  rw [hQ] at hq
  clear hos hQ h
  obtain ⟨y2, _, ⟨rfl, rfl⟩, h⟩ := hq
  conv => cbv
  refine drawn_of hO tiA [[11001000000], [], [], []] [(0, true, false), (1, true, false), (2, true, false), (3, true, false), (4, true, false), (5, true, false), (6, true, false), (7, true, false), (9, true, false), (10, true, false), (11, true, false), (8, false, false), (12, false, true), (13, true, true), (14, true, true), (15, false, true)] (by kernel_rfl) ?_
  conv => cbv
  refine call_h hO [.shut, .shut] (d_p84 fu O.len hN h) ?_
  intro os Q hos hQ
  conv => cbv
  refine view_full hO ?_
  conv => cbv
  refine ⟨(by (rw [hos]) <;> (subst hO; rfl)), ?_⟩
  intro r bs hq
  rw [hQ] at hq
  clear hos hQ h
  obtain ⟨y3, _, _, ⟨rfl, rfl⟩, h⟩ := hq
  conv => cbv
  refine ⟨agree_of hO (Nat.le_of_ble_eq_true rfl) rfl, ?_⟩
  refine call_h hO [.shut, .shut] (d_p84 fu O.len hN h) ?_
  intro os Q hos hQ
  conv => cbv
  refine view_full hO ?_
  conv => cbv
  refine ⟨(by (rw [hos]) <;> (subst hO; rfl)), ?_⟩
  intro r bs hq
  rw [hQ] at hq
  clear hos hQ h
  obtain ⟨y4, _, _, ⟨rfl, rfl⟩, h⟩ := hq
  conv => cbv
  refine join_all hO ?_
  conv => cbv
  obtain ⟨hc5, h⟩ := gd_inv h
  refine call_h hO [.ref 1, .shut] (d_p83 fu O.len hN h) ?_
  intro os Q hos hQ
  conv => cbv
  refine ⟨(by subst hO; exact Nat.le_refl _), ?_⟩
  refine view_of hO (by subst hO; exact hc5) ?_
  conv => cbv
  refine ⟨(by (rw [hos]) <;> (subst hO; rfl)), ?_⟩
  intro r bs hq
  rw [hQ] at hq
  clear hos hQ h
  obtain ⟨y5, _, ⟨rfl, rfl⟩, h⟩ := hq
  conv => cbv
  refine call_h hO [.ref 1, .shut] (d_p85 fu O.len hN h) ?_
  intro os Q hos hQ
  conv => cbv
  refine ⟨(by subst hO; exact Nat.le_refl _), ?_⟩
  refine ⟨(by (rw [hos]) <;> (subst hO; rfl)), ?_⟩
  intro r bs hq
  rw [hQ] at hq
  clear hos hQ h
  obtain ⟨y6, _, ⟨rfl, rfl⟩, h⟩ := hq
  conv => cbv
  refine call_h hO [.shut, .shut] (d_p86 fu O.len hN h) ?_
  intro os Q hos hQ
  conv => cbv
  refine ⟨(by (rw [hos]) <;> (subst hO; rfl)), ?_⟩
  intro r bs hq
  rw [hQ] at hq
  clear hos hQ h
  obtain ⟨y7, _, _, ⟨rfl, rfl⟩, h⟩ := hq
  conv => cbv
  refine call_h hO [.ref 1, .shut] (d_p85 fu O.len hN h) ?_
  intro os Q hos hQ
  conv => cbv
  refine ⟨(by subst hO; exact Nat.le_refl _), ?_⟩
  refine ⟨(by (rw [hos]) <;> (subst hO; rfl)), ?_⟩
  intro r bs hq
  rw [hQ] at hq
  clear hos hQ h
  obtain ⟨y8, _, ⟨rfl, rfl⟩, h⟩ := hq
  conv => cbv
  refine br_join_h hO tiA h (by subst hO; rfl) [3, 5] [4000, 11000, 11001000000] [] (fun tm m => ∃ (j9 : EL), ((tm = frame 0 79 [(3, .p 4000 0 0), (5, .p 11000 0 0)] ∧ m = ⟨[(4000, .blk 0 [.c (.v (.int .i64 x1)), .c (.v (.int .u64 x2)), .c (.v (.int .u64 x3)), .c (.v (.int .i64 x4)), .c (.v (.int .i64 x5)), .c (.v (.bool x6)), .c (.v (.int .i64 x7)), .c (.v (.int .i64 x8)), .c (.v (.string x9)), .c (.sl 3 x10 none), .c (.sl 5 x11 none), .c (.v (.int .i64 x12)), .c (.sl 1 x13 none)]), (11000, .blk 0 [.t 11001000000 0 (O.len j9)]), (11001000000, .arr 0 1 j9 none false)], 1⟩)) ∧ p43_2 False fu  K0 x12 x13 j9) (fun hc4 h L hL_2 => ?_) (fun hc4 h L hL_2 => ?_) ?_
  · conv => cbv
    refine call_h hO [.ref 1, .shut] (d_p64 fu O.len hN h) ?_
    intro os Q hos hQ
    conv => cbv
    refine ⟨(by subst hO; exact Nat.le_refl _), ?_⟩
    refine ⟨(by (rw [hos]) <;> (subst hO; rfl)), ?_⟩
    intro r bs hq
    rw [hQ] at hq
    clear hos hQ h
    obtain ⟨y16, _, ⟨rfl, rfl⟩, h⟩ := hq
    conv => cbv
    exact hL_2 _ _ ⟨y16, ⟨(by (conv => lhs; cbv) <;> (subst hO; rfl)), (by (conv => lhs; cbv) <;> (subst hO; rfl))⟩, h⟩
  · conv => cbv
    exact hL_2 _ _ ⟨y8, ⟨(by (conv => lhs; cbv) <;> (subst hO; rfl)), (by (conv => lhs; cbv) <;> (subst hO; rfl))⟩, h⟩
  · rintro tm m ⟨j9, hs, h⟩
    unfold p43_2 at h
    obtain ⟨rfl, rfl⟩ := hs
    conv => cbv
    obtain ⟨hc3, h⟩ := gd_inv h
    refine call_h hO [.ref 1, .shut] (d_p83 fu O.len hN h) ?_
    intro os Q hos hQ
    conv => cbv
    refine ⟨(by subst hO; exact Nat.le_refl _), ?_⟩
    refine view_of hO (by subst hO; exact hc3) ?_
    conv => cbv
    refine ⟨(by (rw [hos]) <;> (subst hO; rfl)), ?_⟩
    intro r bs hq
    rw [hQ] at hq
    clear hos hQ h
    obtain ⟨y10, _, ⟨rfl, rfl⟩, h⟩ := hq
    conv => cbv
    refine loop_of hO tiA [5, 64, 65, 66] [11000, 11001000000] [] (fun (n : Nat) tm m => ∃ (z11 : EL) (z12 : Int) (z13 : Int), ((tm = frame 0 79 [(5, .p 11000 0 0), (64, .c (.sl 1 x13 none)), (65, .c (.v (.int .i64 z12))), (66, .c (.v (.int .i64 z13)))] ∧ m = ⟨[(11000, .blk 0 [.t 11001000000 0 (O.len z11)]), (11001000000, .arr 0 1 z11 none false)], 1⟩)) ∧ p43_1L False fu  K0 x13 n z11 z12 z13) (fun n => n) fu ⟨y10, ((x13.length : Nat) : Int), 0, ⟨(by (conv => lhs; cbv) <;> (subst hO; rfl)), (by (conv => lhs; cbv) <;> (subst hO; rfl))⟩, h⟩ ?_
    rintro n1 tm m L ⟨z11, z12, z13, hs, h⟩ hLn1
    cases n1 with
    | zero => rw [p43_1L] at h; exact h.elim
    | succ n1 =>
      rw [p43_1L] at h
      unfold p43_1 at h
      obtain ⟨rfl, rfl⟩ := hs
      conv => cbv
      refine br_h hO h (by subst hO; rfl) (fun hc1 h => ?_) (fun hc1 h => ?_)
      · conv => cbv
        refine join_all hO ?_
        conv => cbv
        refine and_h h (fun g => (by subst hO; exact g)) (fun h => ?_)
        refine and_h h (fun g => (by subst hO; exact g)) (fun h => ?_)
        obtain ⟨c14, hr, h⟩ := rw_s_inv h
        refine elem_of hO _ (by subst hO; exact hr) ?_
        clear hr
        conv => cbv
        obtain ⟨hc2, h⟩ := gd_inv h
        refine call_h hO [.ref 1, .shut] (d_p87 fu O.len hN h) ?_
        intro os Q hos hQ
        conv => cbv
        refine ⟨(by subst hO; exact Nat.le_refl _), ?_⟩
        refine view_of hO (by subst hO; exact hc2) ?_
        conv => cbv
        refine ⟨(by (rw [hos]) <;> (subst hO; rfl)), ?_⟩
        intro r bs hq
        rw [hQ] at hq
        clear hos hQ h
        obtain ⟨y15, _, ⟨rfl, rfl⟩, h⟩ := hq
        conv => cbv
        exact hLn1 n1 _ _ (Nat.lt_succ_self n1) ⟨y15, z12, binStd .add .i64 z13 1, ⟨(by (conv => lhs; cbv) <;> (subst hO; rfl)), (by (conv => lhs; cbv) <;> (subst hO; rfl))⟩, h⟩
      · conv => cbv
        refine view_full hO ?_
        conv => cbv
        rw [hQ]
        exact ⟨z11, _, _, ⟨(by subst hO; rfl), (by subst hO; rfl)⟩, h⟩
end Go.Proofs.Ythncmjlcmlmnmaa

namespace Go.Proofs.Ythncmjlcmlmnmaa
open Go V
set_option maxRecDepth 100000
set_option maxHeartbeats 4000000
def p40_1 {ρ : Type} (fail : ρ) (fu : Nat)  (K0 : Int → ρ)   (j1 : Int) : ρ :=
  K0 j1
/-- law0.Place -/
def p40 {ρ : Type} (fail : ρ) (fu : Nat)  (K0 : Int → ρ) (x0 : Int) (x1 : Int) : ρ :=
  bif (cmpStd .lss x1 1) then (K0 0) else (gd ((x1 : Int) ≠ 0) fail (bif (cmpStd .lss (binStd .rem .i64 x0 x1) 0) then (p40_1 fail fu  K0  (binStd .add .i64 (binStd .rem .i64 x0 x1) x1)) else (p40_1 fail fu  K0  (binStd .rem .i64 x0 x1))))
theorem d_p40 (fu : Nat)  {K0 : Int → Prop} (L : EL → Nat) (hN : L = List.length) {x0 : Int} {x1 : Int} (h : p40 False fu K0 x0 x1) : Den Try.prog G0 40 [.c (.v (.int .i64 x0)), .c (.v (.int .i64 x1))] (fun r bs => (∃ (y0 : Int) (o0 : OV) (o1 : OV), (r = .c (.v (.int .i64 y0)) ∧ bs = [o0, o1]) ∧ K0 y0)) := by
  obtain ⟨O, hO⟩ : ∃ O, O = std 0 T G0 (Den Try.prog G0) := ⟨_, rfl⟩
  have hLO : L = O.len := by rw [hN, hO]; rfl
  subst hLO
  refine den_h hO tiA mixed tabOk (fn := Try.f40) (sh := true) (by kernel_rfl) rfl rfl rfl rfl ?_
  intro Q hQ
  unfold p40 at h
  conv => cbv
  refine br_h hO h (by subst hO; rfl) (fun hc1 h => ?_) (fun hc1 h => ?_)
  · conv => cbv
    rw [hQ]
    exact ⟨0, _, _, ⟨(by subst hO; rfl), (by subst hO; rfl)⟩, h⟩
  · conv => cbv
    refine join_all hO ?_
    conv => cbv
    refine and_h h (fun g => (by subst hO; exact g)) (fun h => ?_)
    refine br_join_h hO tiA h (by subst hO; rfl) [0] [] [] (fun tm m => ∃ (j1 : Int), ((tm = frame 0 16 [(0, .c (.v (.int .i64 j1)))] ∧ m = ⟨[], 1⟩)) ∧ p40_1 False fu  K0  j1) (fun hc2 h L hL_1 => ?_) (fun hc2 h L hL_1 => ?_) ?_
    · conv => cbv
      exact hL_1 _ _ ⟨binStd .add .i64 (binStd .rem .i64 x0 x1) x1, ⟨(by (conv => lhs; cbv) <;> (subst hO; rfl)), (by (conv => lhs; cbv) <;> (subst hO; rfl))⟩, h⟩
    · conv => cbv
      exact hL_1 _ _ ⟨binStd .rem .i64 x0 x1, ⟨(by (conv => lhs; cbv) <;> (subst hO; rfl)), (by (conv => lhs; cbv) <;> (subst hO; rfl))⟩, h⟩
    · rintro tm m ⟨j1, hs, h⟩
      unfold p40_1 at h
      obtain ⟨rfl, rfl⟩ := hs
      conv => cbv
      rw [hQ]
      exact ⟨j1, _, _, ⟨(by subst hO; rfl), (by subst hO; rfl)⟩, h⟩
end Go.Proofs.Ythncmjlcmlmnmaa
