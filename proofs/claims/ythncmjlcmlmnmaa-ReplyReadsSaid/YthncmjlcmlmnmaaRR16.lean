/- Both readers of replies answer alike. Conditions: none. -/
import Derived.Test.YthncmjlcmlmnmaaRR15
import Derived.Test.YthncmjlcmlmnmaaG
import Derived.Test.YthncmjlcmlmnmaaPR
import Derived.Test.YthncmjlcmlmnmaaRR4
import Derived.Test.YthncmjlcmlmnmaaRR6
import Derived.Test.YthncmjlcmlmnmaaRR5
import Derived.Test.YthncmjlcmlmnmaaRR7
import Derived.Test.YthncmjlcmlmnmaaRR13
import Derived.Test.YthncmjlcmlmnmaaRR8
import Derived.KernelRfl
namespace Go.Proofs.Ythncmjlcmlmnmaa
open Go V
set_option maxRecDepth 100000
set_option maxHeartbeats 2000000
def rf6 (all : List UInt8) (err : Int) (hi lo : Nat) (fuel cells : Int) (yes : Bool) (has : Nat) (bs : List UInt8) : Option Rp :=
  if has = 1 then (match rdTerm bs with
    | .error _ => none
    | .ok (t, bs) => chk all err hi lo fuel cells yes t (rfR5 bs))
  else chk all err hi lo fuel cells yes tm0 (rfR5 bs)
def rfTake (all bs : List UInt8) : Option Rp :=
  opt (rdNum bs) fun (err, b) => opt (rdHd b) fun ((hi, lo), b) => opt (rdNum b) fun (fuel, b) => opt (rdNum b) fun (cells, b) => opt (rdNum b) fun (yes, b) => opt (rdNum b) fun (has, b) =>
    rf6 all (err : Nat) hi lo (fuel : Nat) (cells : Nat) (decide (yes = 1)) has b
theorem tm0_ok : tm0.sz = 1 ∧ tm0.lvOk ∧ tm0.enc.length = 2 := ⟨rfl, ⟨fun h => absurd h (by decide), fun _ _ => rfl, trivial⟩, by
  simp only [tm0, Tm.enc, Lv.encs, Tm.encs, show uv 0 = 0 from rfl, if_pos, varB_lt (show 0 < 128 by omega)]; rfl⟩
theorem rdHd_ok {bs r : List UInt8} {hi lo : Nat} (h : rdHd bs = .ok ((hi, lo), r)) : hi < 2 ^ 64 ∧ lo < 2 ^ 64 ∧ bs = lowB 8 hi ++ (lowB 8 lo ++ r) ∧ 16 ≤ bs.length := by
  unfold rdHd at h; split at h
  · cases h
  · injection h with h; injection h with h1 h2; injection h1 with h1 h3; subst h1 h3 h2
    have l1 : (bs.take 8).length = 8 := by rw [List.length_take]; omega
    have l2 : ((bs.drop 8).take 8).length = 8 := by rw [List.length_take, List.length_drop]; omega
    refine ⟨be_lt 8 _ l1, be_lt 8 _ l2, ?_, by omega⟩
    rw [lowB_be 8 _ l1, lowB_be 8 _ l2, show bs.drop 16 = (bs.drop 8).drop 8 by rw [List.drop_drop], List.take_append_drop, List.take_append_drop]
section
variable {ρ : Type} (fail : ρ) (fu : Nat) (all : List UInt8) (hall : all.length ≤ 4000) (hfu : 20000 ≤ fu)
include hall hfu
theorem rf4_rd (err : Int) (hi lo : Nat) (fuel cells : Int) (yes : Bool) (t : Tm) (hhi : hi < 2 ^ 64) (hlo : lo < 2 ^ 64) (ht1 : t.sz ≤ 10000) (ht3 : t.lvOk) (ht4 : t.enc.length ≤ 100000) (bs : List UInt8) (hs : Sfx all bs) :
    Gd (fun K : RK14 ρ => p46_4 fail fu K (encB all) err (hi : Nat) (lo : Nat) fuel cells yes (encB all) (atR all bs) 0 t.k t.n t.nm (Lv.rows t.ls) (Tm.rows t.args)) (chk all err hi lo fuel cells yes t (rfR5 bs)) := by
  have hl := hs.len
  obtain ⟨m, hm⟩ : ∃ m, fu = m + 1 := ⟨fu - 1, by omega⟩
  have dead : ∀ (K : RK14 ρ) (pa n a e : Int), e ≠ 0 → ∀ m', m' = m + 1 → p46_3L fail fu K (encB all) err (hi : Nat) (lo : Nat) fuel cells yes t.k t.n t.nm (Lv.rows t.ls) (Tm.rows t.args) pa n m' (encB all) a e nilE 0 = rpOut none K := fun K pa n a e he m' h => by
    subst h; exact rf_dead fail fu all K _ _ _ _ _ _ _ _ _ _ _ _ _ _ _ _ _ _ he m
  have hn1 := rnum_eq (ρ := ρ) fail fu all (by omega) (by omega) bs hs
  unfold rfR5
  cases h1 : rdNum bs with
  | error e =>
    rw [h1] at hn1
    obtain ⟨he, a, hB⟩ := hn1
    dsimp only at hB
    intro K
    dsimp only
    rw [p46_4, hB, rnumE _ _ _ _ _ _ he]
    exact dead K _ _ a e he fu hm
  | ok x =>
    obtain ⟨pa, bs1⟩ := x
    have h1s := rdNum_ok h1
    have hs1 : Sfx all bs1 := hs.of h1s.2.2
    rw [h1] at hn1
    simp only [KO6] at hn1
    have hn2 := rnum_eq (ρ := ρ) fail fu all (by omega) (by omega) bs1 hs1
    dsimp only
    cases h2 : rdNum bs1 with
    | error e =>
      rw [h2] at hn2
      obtain ⟨he, a, hB⟩ := hn2
      dsimp only at hB
      intro K
      dsimp only
      rw [p46_4, hn1, hB]
      exact dead K _ _ a e he fu hm
    | ok x =>
      obtain ⟨n, bs2⟩ := x
      have h2s := rdNum_ok h2
      have hs2 : Sfx all bs2 := hs1.of h2s.2.2
      have hl2 := hs2.len
      rw [h2] at hn2
      simp only [KO6] at hn2
      have := rfLoop (ρ := ρ) fail fu all hall err hi lo fuel cells yes t (by omega) ((pa : Nat) : Int) n bs2.length fu bs2 0 nilE hs2 (Nat.le_refl _) (by omega) (by omega) (by simp)
      have hstep : ∀ K : RK14 ρ, p46_4 fail fu K (encB all) err (hi : Nat) (lo : Nat) fuel cells yes (encB all) (atR all bs) 0 t.k t.n t.nm (Lv.rows t.ls) (Tm.rows t.args) = p46_3L fail fu K (encB all) err (hi : Nat) (lo : Nat) fuel cells yes t.k t.n t.nm (Lv.rows t.ls) (Tm.rows t.args) ((pa : Nat) : Int) ((n : Nat) : Int) fu (encB all) (atR all bs2) 0 nilE ((0 : Nat) : Int) := fun K => by
        rw [p46_4, hn1, hn2]; rfl
      rw [Nat.sub_zero] at this
      dsimp only
      cases hmn : many rdName n 0 bs2 with
      | error e => rw [hmn] at this; intro K; dsimp only; rw [hstep, this]; rfl
      | ok x =>
        obtain ⟨l, bs3, q⟩ := x
        rw [hmn] at this
        obtain ⟨n1, n2, n3⟩ := names_sz _ _ _ _ _ _ hmn
        have hax : (axB l).length ≤ 4000 := by have : bs2.length = (axB l).length + bs3.length := by rw [n2, List.length_append]
                                               omega
        have hal := axSz_len l
        intro K
        dsimp only
        have u1 := varB_10 (uv_lt err)
        have u2 := varB_10 (uv_lt fuel)
        have u3 := varB_10 (uv_lt cells)
        have u4 := varB_10 (uv_lt ((pa : Nat) : Int))
        have u5 := varB_10 (show l.length < 2 ^ 64 by omega)
        have hy : (varB (if yes = true then 1 else 0)).length ≤ 10 := by split <;> exact varB_10 (by omega)
        have hv1 : (varB 1).length ≤ 10 := varB_10 (by omega)
        have hv0 : (varB 0).length ≤ 10 := varB_10 (by omega)
        have hif : (if isZ t = true then varB 0 else varB 1 ++ t.enc).length ≤ 100010 := by
          split
          · omega
          · rw [List.length_append]; omega
        rw [hstep, this, List.nil_append, fin_eq fail fu all err hi lo fuel cells yes t hhi hlo (by omega) (by omega) ht3 pa l (by omega) (by omega) (by
          simp only [rpEnc, List.length_append, lowB_len]; omega)]
theorem rf5_rd (err : Int) (hi lo : Nat) (fuel cells : Int) (yes : Bool) (hhi : hi < 2 ^ 64) (hlo : lo < 2 ^ 64) (has : Nat) (bs : List UInt8) (hs : Sfx all bs) :
    Gd (fun K : RK14 ρ => bif (cmpStd .eql ((has : Nat) : Int) 1) then (p46_5 fail fu K (encB all) err (hi : Nat) (lo : Nat) fuel cells (encB all) (atR all bs) 0 yes (cmpStd .eql (0 : Int) 0)) else (p46_5 fail fu K (encB all) err (hi : Nat) (lo : Nat) fuel cells (encB all) (atR all bs) 0 yes false)) (rf6 all err hi lo fuel cells yes has bs) := by
  have hl := hs.len
  unfold rf6
  by_cases h1 : has = 1
  · rw [if_pos h1]
    have htm := rTerm_rd (ρ := ρ) fail fu all (by omega) (by omega) bs hs
    have hst : ∀ K : RK14 ρ, (bif (cmpStd .eql ((has : Nat) : Int) 1) then (p46_5 fail fu K (encB all) err (hi : Nat) (lo : Nat) fuel cells (encB all) (atR all bs) 0 yes (cmpStd .eql (0 : Int) 0)) else (p46_5 fail fu K (encB all) err (hi : Nat) (lo : Nat) fuel cells (encB all) (atR all bs) 0 yes false)) = p75 fail fu (fun y57 y58 y59 y60 y61 y62 y63 y64 => p46_4 fail fu K (encB all) err (hi : Nat) (lo : Nat) fuel cells yes y62 y63 y64 y57 y58 y59 y60 y61) (encB all) (atR all bs) 0 := fun K => by
      rw [eqlT (show ((has : Nat) : Int) = 1 by omega), cond_true, eqlT rfl, p46_5, cond_true]
    cases htt : rdTerm bs with
    | error e =>
      rw [htt] at htm
      obtain ⟨he, a, b, c, l, g, B, at', hB⟩ := htm
      dsimp only at hB
      intro K
      dsimp only
      rw [hst, hB, p46_4, rnumE _ _ _ _ _ _ he, rnumE _ _ _ _ _ _ he]
      obtain ⟨m, hm⟩ : ∃ m, fu = m + 1 := ⟨fu - 1, by omega⟩
      have : ∀ m', m' = m + 1 → p46_3L fail fu K (encB all) err (hi : Nat) (lo : Nat) fuel cells yes a b c l g 0 0 m' B at' e nilE 0 = rpOut none K := fun m' h => by
        subst h; exact rf_dead fail fu all K _ _ _ _ _ _ _ _ _ _ _ _ _ _ _ _ _ _ he m
      exact this fu hm
    | ok x =>
      obtain ⟨t, bs1⟩ := x
      have ho := rdTerm_only htt
      have hsz := rdTerm_sz htt
      have hte : bs.length = t.enc.length + bs1.length := by rw [ho, List.length_append]
      rw [htt] at htm
      simp only [TmO8] at htm
      intro K
      dsimp only
      rw [hst, htm]
      exact rf4_rd fail fu all hall hfu err hi lo fuel cells yes t hhi hlo (by omega) (rdTerm_lv htt) (by omega) bs1 (hs.of ho) K
  · rw [if_neg h1]
    intro K
    dsimp only
    rw [eqlF (by omega), cond_false, p46_5, cond_false]
    have h0 := tm0_ok
    exact rf4_rd fail fu all hall hfu err hi lo fuel cells yes tm0 hhi hlo (by rw [h0.1]; omega) h0.2.1 (by rw [h0.2.2]; omega) bs hs K
omit hall in
theorem rf5_dead (err y5 y6 fuel cells : Int) (yes : Bool) (has a e : Int) (he : e ≠ 0) : Gd (fun K : RK14 ρ => bif (cmpStd .eql has 1) then (p46_5 fail fu K (encB all) err y5 y6 fuel cells (encB all) a e yes (cmpStd .eql e 0)) else (p46_5 fail fu K (encB all) err y5 y6 fuel cells (encB all) a e yes false)) none := fun K => by
  have h4 : p46_5 fail fu K (encB all) err y5 y6 fuel cells (encB all) a e yes false = rpOut none K := by
    rw [p46_5, cond_false, p46_4, rnumE _ _ _ _ _ _ he, rnumE _ _ _ _ _ _ he]
    obtain ⟨m, hm⟩ : ∃ m, fu = m + 1 := ⟨fu - 1, by omega⟩
    have : ∀ m', m' = m + 1 → p46_3L fail fu K (encB all) err y5 y6 fuel cells yes 0 0 ⟨#[]⟩ nilE nilE 0 0 m' (encB all) a e nilE 0 = rpOut none K := fun m' h => by
      subst h; exact rf_dead fail fu all K _ _ _ _ _ _ _ _ _ _ _ _ _ _ _ _ _ _ he m
    exact this fu hm
  dsimp only
  rw [eqlF he]
  cases cmpStd .eql has 1 <;> exact h4
def t6 (K0 : RK14 ρ) (y1 y5 y6 y10 y14 y18 : Int) (a e : Int) : ρ := p96 fail fu (fun y65 y66 y67 y68 => bif (cmpStd .eql y65 1) then (p46_5 fail fu K0 (encB all) y1 y5 y6 y10 y14 y66 y67 y68 (cmpStd .eql y18 1) (cmpStd .eql y68 0)) else (p46_5 fail fu K0 (encB all) y1 y5 y6 y10 y14 y66 y67 y68 (cmpStd .eql y18 1) false)) (encB all) a e
omit hall hfu in
theorem Gd.step6 {q : (Int → EL → Int → Int → ρ) → ρ} {x : Except Int (Nat × List UInt8)} (h : KO6 all q x) {c : RK14 ρ → Int → EL → Int → Int → ρ} {f : Nat × List UInt8 → Option Rp} (h1 : ∀ v r, x = .ok (v, r) → Gd (fun K => c K (v : Nat) (encB all) (atR all r) 0) (f (v, r))) (h2 : ∀ a e, e ≠ 0 → Gd (fun K => c K 0 (encB all) a e) none) : Gd (fun K => q (c K)) (opt x f) := by
  cases x with
  | error e =>
    obtain ⟨he, a, hB⟩ := h
    intro K
    exact (hB _).trans (h2 a e he K)
  | ok x =>
    obtain ⟨v, r⟩ := x
    intro K
    exact (h _).trans (h1 v r rfl K)
abbrev C1 (K : RK14 ρ) (y1 : Int) (B : EL) (a e : Int) : ρ := p97 fail fu (fun y5 y6 y7 y8 y9 => p96 fail fu (fun y10 y11 y12 y13 => p96 fail fu (fun y14 y15 y16 y17 => p96 fail fu (fun y18 y19 y20 y21 => p96 fail fu (fun y65 y66 y67 y68 => bif (cmpStd .eql y65 1) then (p46_5 fail fu K (encB all) y1 y5 y6 y10 y14 y66 y67 y68 (cmpStd .eql y18 1) (cmpStd .eql y68 0)) else (p46_5 fail fu K (encB all) y1 y5 y6 y10 y14 y66 y67 y68 (cmpStd .eql y18 1) false)) y19 y20 y21) y15 y16 y17) y11 y12 y13) y7 y8 y9) B a e
abbrev C2 (K : RK14 ρ) (y1 y5 y6 : Int) (B : EL) (a e : Int) : ρ := p96 fail fu (fun y10 y11 y12 y13 => p96 fail fu (fun y14 y15 y16 y17 => p96 fail fu (fun y18 y19 y20 y21 => p96 fail fu (fun y65 y66 y67 y68 => bif (cmpStd .eql y65 1) then (p46_5 fail fu K (encB all) y1 y5 y6 y10 y14 y66 y67 y68 (cmpStd .eql y18 1) (cmpStd .eql y68 0)) else (p46_5 fail fu K (encB all) y1 y5 y6 y10 y14 y66 y67 y68 (cmpStd .eql y18 1) false)) y19 y20 y21) y15 y16 y17) y11 y12 y13) B a e
abbrev C3 (K : RK14 ρ) (y1 y5 y6 y10 : Int) (B : EL) (a e : Int) : ρ := p96 fail fu (fun y14 y15 y16 y17 => p96 fail fu (fun y18 y19 y20 y21 => p96 fail fu (fun y65 y66 y67 y68 => bif (cmpStd .eql y65 1) then (p46_5 fail fu K (encB all) y1 y5 y6 y10 y14 y66 y67 y68 (cmpStd .eql y18 1) (cmpStd .eql y68 0)) else (p46_5 fail fu K (encB all) y1 y5 y6 y10 y14 y66 y67 y68 (cmpStd .eql y18 1) false)) y19 y20 y21) y15 y16 y17) B a e
abbrev C4 (K : RK14 ρ) (y1 y5 y6 y10 y14 : Int) (B : EL) (a e : Int) : ρ := p96 fail fu (fun y18 y19 y20 y21 => p96 fail fu (fun y65 y66 y67 y68 => bif (cmpStd .eql y65 1) then (p46_5 fail fu K (encB all) y1 y5 y6 y10 y14 y66 y67 y68 (cmpStd .eql y18 1) (cmpStd .eql y68 0)) else (p46_5 fail fu K (encB all) y1 y5 y6 y10 y14 y66 y67 y68 (cmpStd .eql y18 1) false)) y19 y20 y21) B a e
abbrev C5 (K : RK14 ρ) (y1 y5 y6 y10 y14 y18 : Int) (B : EL) (a e : Int) : ρ := p96 fail fu (fun y65 y66 y67 y68 => bif (cmpStd .eql y65 1) then (p46_5 fail fu K (encB all) y1 y5 y6 y10 y14 y66 y67 y68 (cmpStd .eql y18 1) (cmpStd .eql y68 0)) else (p46_5 fail fu K (encB all) y1 y5 y6 y10 y14 y66 y67 y68 (cmpStd .eql y18 1) false)) B a e
omit hall in
theorem D5 (y1 y5 y6 y10 y14 y18 a e : Int) (he : e ≠ 0) : Gd (fun K : RK14 ρ => C5 fail fu all K y1 y5 y6 y10 y14 y18 (encB all) a e) none := fun K => (rnumE fail fu _ _ _ _ he).trans (rf5_dead fail fu all hfu _ _ _ _ _ _ _ a e he K)
omit hall in
theorem D4 (y1 y5 y6 y10 y14 a e : Int) (he : e ≠ 0) : Gd (fun K : RK14 ρ => C4 fail fu all K y1 y5 y6 y10 y14 (encB all) a e) none := fun K => (rnumE fail fu _ _ _ _ he).trans (D5 fail fu all hfu _ _ _ _ _ _ a e he K)
omit hall in
theorem D3 (y1 y5 y6 y10 a e : Int) (he : e ≠ 0) : Gd (fun K : RK14 ρ => C3 fail fu all K y1 y5 y6 y10 (encB all) a e) none := fun K => (rnumE fail fu _ _ _ _ he).trans (D4 fail fu all hfu _ _ _ _ _ a e he K)
omit hall in
theorem D2 (y1 y5 y6 a e : Int) (he : e ≠ 0) : Gd (fun K : RK14 ρ => C2 fail fu all K y1 y5 y6 (encB all) a e) none := fun K => (rnumE fail fu _ _ _ _ he).trans (D3 fail fu all hfu _ _ _ _ a e he K)
omit hall in
theorem D1 (y1 a e : Int) (he : e ≠ 0) : Gd (fun K : RK14 ρ => C1 fail fu all K y1 (encB all) a e) none := fun K => (takenE fail fu _ _ _ _ he).trans (D2 fail fu all hfu _ _ _ a e he K)
theorem takeReply_eq : Gd (fun K : RK14 ρ => p46 fail fu K (encB all)) (rfTake all all) := by
  have h0 : Sfx all all := Sfx.refl all
  have ha0 : atR all all = 0 := by unfold atR; simp
  have hh : all.length ≤ 1099511627776 := by omega
  have e1 := rnum_eq (ρ := ρ) fail fu all hh (by omega) all h0
  rw [ha0] at e1
  refine Gd.step6 all e1 (c := fun K y1 B a e => C1 fail fu all K y1 B a e) (fun err b1 g1 => ?_) (fun a e he => D1 fail fu all hfu _ a e he)
  have s1 : Sfx all b1 := h0.of (rdNum_ok g1).2.2
  have e2 := taken_eq (ρ := ρ) fail fu all hall (by omega) b1 s1
  dsimp only
  cases g2 : rdHd b1 with
  | error e =>
    rw [g2] at e2
    obtain ⟨he, a, hB⟩ := e2
    dsimp only at hB
    intro K
    exact (hB _).trans (D2 fail fu all hfu _ _ _ a e he K)
  | ok x =>
    obtain ⟨⟨hi, lo⟩, b2⟩ := x
    rw [g2] at e2
    simp only [HO6] at e2
    obtain ⟨q1, q2, q3, q4⟩ := rdHd_ok g2
    have s2 : Sfx all b2 := by rw [← List.append_assoc] at q3; exact s1.of q3
    intro K
    refine (e2 _).trans ?_
    revert K
    refine Gd.step6 all (rnum_eq (ρ := ρ) fail fu all hh (by omega) b2 s2) (c := fun K y1 B a e => C3 fail fu all K (err : Nat) (hi : Nat) (lo : Nat) y1 B a e) (fun fuel b3 g3 => ?_) (fun a e he => D3 fail fu all hfu _ _ _ _ a e he)
    have s3 : Sfx all b3 := s2.of (rdNum_ok g3).2.2
    refine Gd.step6 all (rnum_eq (ρ := ρ) fail fu all hh (by omega) b3 s3) (c := fun K y1 B a e => C4 fail fu all K (err : Nat) (hi : Nat) (lo : Nat) (fuel : Nat) y1 B a e) (fun cells b4 g4 => ?_) (fun a e he => D4 fail fu all hfu _ _ _ _ _ a e he)
    have s4 : Sfx all b4 := s3.of (rdNum_ok g4).2.2
    refine Gd.step6 all (rnum_eq (ρ := ρ) fail fu all hh (by omega) b4 s4) (c := fun K y1 B a e => C5 fail fu all K (err : Nat) (hi : Nat) (lo : Nat) (fuel : Nat) (cells : Nat) y1 B a e) (fun yes b5 g5 => ?_) (fun a e he => D5 fail fu all hfu _ _ _ _ _ _ a e he)
    have s5 : Sfx all b5 := s4.of (rdNum_ok g5).2.2
    have hy : cmpStd .eql ((yes : Nat) : Int) 1 = decide (yes = 1) := by
      by_cases q : yes = 1
      · rw [eqlT (by omega), decide_eq_true q]
      · rw [eqlF (by omega), decide_eq_false q]
    refine Gd.step6 all (rnum_eq (ρ := ρ) fail fu all hh (by omega) b5 s5) (c := fun K y65 y66 y67 y68 => bif (cmpStd .eql y65 1) then (p46_5 fail fu K (encB all) (err : Nat) (hi : Nat) (lo : Nat) (fuel : Nat) (cells : Nat) y66 y67 y68 (cmpStd .eql ((yes : Nat) : Int) 1) (cmpStd .eql y68 0)) else (p46_5 fail fu K (encB all) (err : Nat) (hi : Nat) (lo : Nat) (fuel : Nat) (cells : Nat) y66 y67 y68 (cmpStd .eql ((yes : Nat) : Int) 1) false)) (fun has b6 g6 => ?_) (fun a e he => rf5_dead fail fu all hfu _ _ _ _ _ _ _ a e he)
    have s6 : Sfx all b6 := s5.of (rdNum_ok g6).2.2
    rw [hy]
    exact rf5_rd fail fu all hall hfu _ hi lo _ _ _ q1 q2 has b6 s6
end
end Go.Proofs.Ythncmjlcmlmnmaa

namespace Go.Proofs.Ythncmjlcmlmnmaa
open Go V
set_option maxRecDepth 100000
set_option maxHeartbeats 4000000
def p84_1 {ρ : Type} (fail : ρ) (fu : Nat)  (K0 : EL → ρ) (rec1 : EL → Int → ρ) (x1 : Int) (z2 : EL) (z3 : Int) : ρ :=
  bif (cmpStd .geq z3 0) then (gd ((0 : Int) ≤ (IntKind.u64.wrap z3)) fail (gd (1 ≤ [[(CV.v (.int .u8 (IntKind.u8.wrap (binStd .shr .u64 x1 (IntKind.u64.wrap z3)))))]].length) fail (gd ((z2.length + (List.take 1 [[(CV.v (.int .u8 (IntKind.u8.wrap (binStd .shr .u64 x1 (IntKind.u64.wrap z3)))))]]).length) * 1 ≤ 35184372088832) fail (rec1 (z2 ++ (List.take 1 [[(CV.v (.int .u8 (IntKind.u8.wrap (binStd .shr .u64 x1 (IntKind.u64.wrap z3)))))]])) (binStd .sub .i64 z3 8))))) else (K0 z2)
def p84_1L {ρ : Type} (fail : ρ) (fu : Nat)  (K0 : EL → ρ)  (x1 : Int) : Nat → EL → Int → ρ
  | 0, _, _ => fail
  | n + 1, z2, z3 => p84_1 fail fu  K0 (p84_1L fail fu  K0  x1 n) x1 z2 z3
/-- octet.Eight -/
def p84 {ρ : Type} (fail : ρ) (fu : Nat)  (K0 : EL → ρ) (x0 : EL) (x1 : Int) : ρ :=
  p120 fail fu (fun y1 => p84_1L fail fu  K0 x1 fu y1 56) x0 8
theorem d_p84 (fu : Nat)  {K0 : EL → Prop} (L : EL → Nat) (hN : L = List.length) {x0 : EL} {x1 : Int} (h : p84 False fu K0 x0 x1) : Den Try.prog G0 84 [.c (.sl 1 x0 none), .c (.v (.int .u64 x1))] (fun r bs => (∃ (y0 : EL) (o0 : OV) (o1 : OV), (r = .arr 1 y0 none false (L y0) ∧ bs = [o0, o1]) ∧ K0 y0)) := by
  obtain ⟨O, hO⟩ : ∃ O, O = std 0 T G0 (Den Try.prog G0) := ⟨_, rfl⟩
  have hLO : L = O.len := by rw [hN, hO]; rfl
  subst hLO
  refine den_h hO tiA mixed tabOk (fn := Try.f84) (sh := false) (by kernel_rfl) rfl rfl rfl rfl ?_
  intro Q hQ
  unfold p84 at h
  conv => cbv
  refine call_h hO [.shut, .shut] (d_p120 fu O.len hN h) ?_
  intro os Q hos hQ
  conv => cbv
  refine ⟨(by (rw [hos]) <;> (subst hO; rfl)), ?_⟩
  intro r bs hq
  rw [hQ] at hq
  clear hos hQ h
  obtain ⟨y1, _, _, ⟨rfl, rfl⟩, h⟩ := hq
  conv => cbv
  refine loop_of hO tiA [1, 5, 6] [9000] [] (fun (n : Nat) tm m => ∃ (z2 : EL) (z3 : Int), ((tm = frame 0 22 [(1, .c (.v (.int .u64 x1))), (5, .t 9000 0 (O.len z2)), (6, .c (.v (.int .i64 z3)))] ∧ m = ⟨[(9000, .arr 0 1 z2 none false)], 1⟩)) ∧ p84_1L False fu  K0 x1 n z2 z3) (fun n => n) fu ⟨y1, 56, ⟨(by (conv => lhs; cbv) <;> (subst hO; rfl)), (by (conv => lhs; cbv) <;> (subst hO; rfl))⟩, h⟩ ?_
  rintro n1 tm m L ⟨z2, z3, hs, h⟩ hLn1
  cases n1 with
  | zero => rw [p84_1L] at h; exact h.elim
  | succ n1 =>
    rw [p84_1L] at h
    unfold p84_1 at h
    obtain ⟨rfl, rfl⟩ := hs
    conv => cbv
    refine br_h hO h (by subst hO; rfl) (fun hc1 h => ?_) (fun hc1 h => ?_)
    · conv => cbv
      refine join_all hO ?_
      conv => cbv
      refine alt_l hO ?_
      conv => cbv
      refine and_h h (fun g => (by subst hO; exact g)) (fun h => ?_)
      refine view_h hO h (fun g => (by subst hO; exact g)) (fun h => ?_)
      conv => cbv
      refine ⟨(by subst hO; rfl), ?_⟩
      refine and_h h (fun g => (by subst hO; exact g)) (fun h => ?_)
      exact hLn1 n1 _ _ (Nat.lt_succ_self n1) ⟨(z2 ++ (List.take 1 [[(CV.v (.int .u8 (IntKind.u8.wrap (binStd .shr .u64 x1 (IntKind.u64.wrap z3)))))]])), binStd .sub .i64 z3 8, ⟨(by (conv => lhs; cbv) <;> (subst hO; rfl)), (by (conv => lhs; cbv) <;> (subst hO; rfl))⟩, h⟩
    · conv => cbv
      refine alt_l hO ?_
      conv => cbv
      refine ⟨(by subst hO; exact Nat.le_refl _), ?_⟩
      rw [hQ]
      exact ⟨z2, _, _, ⟨(by subst hO; rfl), (by subst hO; rfl)⟩, h⟩
end Go.Proofs.Ythncmjlcmlmnmaa

namespace Go.Proofs.Ythncmjlcmlmnmaa
open Go V
set_option maxRecDepth 100000
set_option maxHeartbeats 4000000
def p85_1 {ρ : Type} (fail : ρ) (fu : Nat)  (K0 : EL → ρ)   (j1 : EL) : ρ :=
  K0 j1
/-- reply.flag -/
def p85 {ρ : Type} (fail : ρ) (fu : Nat)  (K0 : EL → ρ) (x0 : EL) (x1 : Bool) : ρ :=
  bif x1 then (gd (1 ≤ [[(CV.v (.int .i64 1))]].length) fail (p83 fail fu (fun y2 => p85_1 fail fu  K0  y2) x0 (List.take 1 [[(CV.v (.int .i64 1))]]))) else (gd (1 ≤ [[(CV.v (.int .i64 0))]].length) fail (p83 fail fu (fun y3 => p85_1 fail fu  K0  y3) x0 (List.take 1 [[(CV.v (.int .i64 0))]])))
theorem d_p85 (fu : Nat)  {K0 : EL → Prop} (L : EL → Nat) (hN : L = List.length) {x0 : EL} {x1 : Bool} (h : p85 False fu K0 x0 x1) : Den Try.prog G0 85 [.ptr [.arr 1 x0 none false (L x0)], .c (.v (.bool x1))] (fun r bs => (∃ (y0 : EL) (o1 : OV), (r = .tup [] ∧ bs = [.ptr [.arr 1 y0 none false (L y0)], o1]) ∧ K0 y0)) := by
  obtain ⟨O, hO⟩ : ∃ O, O = std 2 T G0 (Den Try.prog G0) := ⟨_, rfl⟩
  have hLO : L = O.len := by rw [hN, hO]; rfl
  subst hLO
  refine den_h hO tiA mixed tabOk (fn := Try.f85) (sh := true) (by kernel_rfl) rfl rfl rfl rfl ?_
  intro Q hQ
  unfold p85 at h
  conv => cbv
  refine br_join_h hO tiA h (by subst hO; rfl) [] [0, 1000000] [] (fun tm m => ∃ (j1 : EL), ((tm = frame 0 11 [] ∧ m = ⟨[(0, .blk 1 [.t 1000000 2 (O.len j1)]), (1000000, .arr 2 1 j1 none false)], 3⟩)) ∧ p85_1 False fu  K0  j1) (fun hc1 h L hL_1 => ?_) (fun hc1 h L hL_1 => ?_) ?_
  · conv => cbv
    obtain ⟨hc2, h⟩ := gd_inv h
    refine call_h hO [.ref 1, .shut] (d_p83 fu O.len hN h) ?_
    intro os Q hos hQ
    conv => cbv
    refine ⟨(by subst hO; exact Nat.le_refl _), ?_⟩
    refine view_of hO (by subst hO; exact hc2) ?_
    conv => cbv
    refine ⟨(by (rw [hos]) <;> (subst hO; rfl)), ?_⟩
    intro r bs hq
    rw [hQ] at hq
    clear hos hQ h
    obtain ⟨y2, _, ⟨rfl, rfl⟩, h⟩ := hq
    conv => cbv
    exact hL_1 _ _ ⟨y2, ⟨(by (conv => lhs; cbv) <;> (subst hO; rfl)), (by (conv => lhs; cbv) <;> (subst hO; rfl))⟩, h⟩
  · conv => cbv
    obtain ⟨hc3, h⟩ := gd_inv h
    refine call_h hO [.ref 1, .shut] (d_p83 fu O.len hN h) ?_
    intro os Q hos hQ
    conv => cbv
    refine ⟨(by subst hO; exact Nat.le_refl _), ?_⟩
    refine view_of hO (by subst hO; exact hc3) ?_
    conv => cbv
    refine ⟨(by (rw [hos]) <;> (subst hO; rfl)), ?_⟩
    intro r bs hq
    rw [hQ] at hq
    clear hos hQ h
    obtain ⟨y3, _, ⟨rfl, rfl⟩, h⟩ := hq
    conv => cbv
    exact hL_1 _ _ ⟨y3, ⟨(by (conv => lhs; cbv) <;> (subst hO; rfl)), (by (conv => lhs; cbv) <;> (subst hO; rfl))⟩, h⟩
  · rintro tm m ⟨j1, hs, h⟩
    unfold p85_1 at h
    obtain ⟨rfl, rfl⟩ := hs
    conv => cbv
    refine ⟨(by subst hO; exact Nat.le_refl _), ?_⟩
    rw [hQ]
    exact ⟨j1, _, ⟨(by subst hO; rfl), (by subst hO; rfl)⟩, h⟩
end Go.Proofs.Ythncmjlcmlmnmaa

namespace Go.Proofs.Ythncmjlcmlmnmaa
open Go V
set_option maxRecDepth 100000
set_option maxHeartbeats 4000000
def p43_1 {ρ : Type} (fail : ρ) (fu : Nat)  (K0 : EL → ρ) (rec1 : EL → Int → Int → ρ) (x13 : EL) (z11 : EL) (z12 : Int) (z13 : Int) : ρ :=
  bif (cmpStd .lss z13 z12) then (gd ((0 : Int) ≤ z13) fail (gd ((z13 : Int) < (x13.length : Nat)) fail (rw_s fail (List.getD x13 ((z13 : Int).toNat) []) (fun c14 => gd (c14.size ≤ (encB c14.data.toList).length) fail (p87 fail fu (fun y15 => rec1 y15 z12 (binStd .add .i64 z13 1)) z11 (List.take c14.size (encB c14.data.toList))))))) else (K0 z11)
def p43_1L {ρ : Type} (fail : ρ) (fu : Nat)  (K0 : EL → ρ)  (x13 : EL) : Nat → EL → Int → Int → ρ
  | 0, _, _, _ => fail
  | n + 1, z11, z12, z13 => p43_1 fail fu  K0 (p43_1L fail fu  K0  x13 n) x13 z11 z12 z13
def p43_2 {ρ : Type} (fail : ρ) (fu : Nat)  (K0 : EL → ρ)  (x12 : Int) (x13 : EL) (j9 : EL) : ρ :=
  gd (2 ≤ [[(CV.v (.int .i64 x12))], [(CV.v (.int .i64 ((x13.length : Nat) : Int)))]].length) fail (p83 fail fu (fun y10 => p43_1L fail fu  K0 x13 fu y10 ((x13.length : Nat) : Int) 0) j9 (List.take 2 [[(CV.v (.int .i64 x12))], [(CV.v (.int .i64 ((x13.length : Nat) : Int)))]]))
/-- reply.Put -/
def p43 {ρ : Type} (fail : ρ) (fu : Nat)  (K0 : EL → ρ) (x0 : EL) (x1 : Int) (x2 : Int) (x3 : Int) (x4 : Int) (x5 : Int) (x6 : Bool) (x7 : Int) (x8 : Int) (x9 : ByteArray) (x10 : EL) (x11 : EL) (x12 : Int) (x13 : EL) : ρ :=
  p63 fail fu (fun y1 => gd (1 ≤ [[(CV.v (.int .i64 x1))]].length) fail (p83 fail fu (fun y2 => p84 fail fu (fun y3 => p84 fail fu (fun y4 => gd (2 ≤ [[(CV.v (.int .i64 x4))], [(CV.v (.int .i64 x5))]].length) fail (p83 fail fu (fun y5 => p85 fail fu (fun y6 => p86 fail fu (fun y7 => p85 fail fu (fun y8 => bif (!y7) then (p64 fail fu (fun y16 => p43_2 fail fu  K0 x12 x13 y16) y8 x7 x8 x9 x10 x11) else (p43_2 fail fu  K0 x12 x13 y8)) y6 (!y7)) x7 x8 x9 x10 x11 0 0 ⟨#[]⟩ nilE nilE) y5 x6) y4 (List.take 2 [[(CV.v (.int .i64 x4))], [(CV.v (.int .i64 x5))]]))) y3 x3) y2 x2) y1 (List.take 1 [[(CV.v (.int .i64 x1))]]))) x0
theorem d_p43 (fu : Nat)  {K0 : EL → Prop} (L : EL → Nat) (hN : L = List.length) {x0 : EL} {x1 : Int} {x2 : Int} {x3 : Int} {x4 : Int} {x5 : Int} {x6 : Bool} {x7 : Int} {x8 : Int} {x9 : ByteArray} {x10 : EL} {x11 : EL} {x12 : Int} {x13 : EL} (h : p43 False fu K0 x0 x1 x2 x3 x4 x5 x6 x7 x8 x9 x10 x11 x12 x13) : Den Try.prog G0 43 [.c (.sl 1 x0 none), .agg [.c (.v (.int .i64 x1)), .c (.v (.int .u64 x2)), .c (.v (.int .u64 x3)), .c (.v (.int .i64 x4)), .c (.v (.int .i64 x5)), .c (.v (.bool x6)), .c (.v (.int .i64 x7)), .c (.v (.int .i64 x8)), .c (.v (.string x9)), .c (.sl 3 x10 none), .c (.sl 5 x11 none), .c (.v (.int .i64 x12)), .c (.sl 1 x13 none)]] (fun r bs => (∃ (y0 : EL) (o0 : OV) (o1 : OV), (r = .c (.sl 1 y0 none) ∧ bs = [o0, o1]) ∧ K0 y0)) := by
  obtain ⟨O, hO⟩ : ∃ O, O = std 0 T G0 (Den Try.prog G0) := ⟨_, rfl⟩
  have hLO : L = O.len := by rw [hN, hO]; rfl
  subst hLO
  refine den_h hO tiA mixed tabOk (fn := Try.f43) (sh := true) (by kernel_rfl) rfl rfl rfl rfl ?_
  intro Q hQ
  unfold p43 at h
  conv => cbv
  refine call_h hO [.shut] (d_p63 fu O.len hN h) ?_
  intro os Q hos hQ
  conv => cbv
  refine ⟨(by (rw [hos]) <;> (subst hO; rfl)), ?_⟩
  intro r bs hq
  rw [hQ] at hq
  clear hos hQ h
  obtain ⟨y1, _, ⟨rfl, rfl⟩, h⟩ := hq
  conv => cbv
  obtain ⟨hc6, h⟩ := gd_inv h
  refine call_h hO [.ref 1, .shut] (d_p83 fu O.len hN h) ?_
  intro os Q hos hQ
  conv => cbv
  refine ⟨(by subst hO; exact Nat.le_refl _), ?_⟩
  refine view_of hO (by subst hO; exact hc6) ?_
  conv => cbv
  refine ⟨(by (rw [hos]) <;> (subst hO; rfl)), ?_⟩
  intro r bs hq
  rw [hQ] at hq
  clear hos hQ h
  obtain ⟨y2, _, ⟨rfl, rfl⟩, h⟩ := hq
  conv => cbv
  refine drawn_of hO tiA [[11001000000], [], [], []] [(0, true, false), (1, true, false), (2, true, false), (3, true, false), (4, true, false), (5, true, false), (6, true, false), (7, true, false), (9, true, false), (10, true, false), (11, true, false), (8, false, false), (12, false, true), (13, true, true), (14, true, true), (15, false, true)] (by kernel_rfl) ?_
  conv => cbv
  refine call_h hO [.shut, .shut] (d_p84 fu O.len hN h) ?_
  intro os Q hos hQ
  conv => cbv
  refine view_full hO ?_
  conv => cbv
  refine ⟨(by (rw [hos]) <;> (subst hO; rfl)), ?_⟩
  intro r bs hq
  rw [hQ] at hq
  clear hos hQ h
  obtain ⟨y3, _, _, ⟨rfl, rfl⟩, h⟩ := hq
  conv => cbv
  refine ⟨agree_of hO (Nat.le_of_ble_eq_true rfl) rfl, ?_⟩
  refine call_h hO [.shut, .shut] (d_p84 fu O.len hN h) ?_
  intro os Q hos hQ
  conv => cbv
  refine view_full hO ?_
  conv => cbv
  refine ⟨(by (rw [hos]) <;> (subst hO; rfl)), ?_⟩
  intro r bs hq
  rw [hQ] at hq
  clear hos hQ h
  obtain ⟨y4, _, _, ⟨rfl, rfl⟩, h⟩ := hq
  conv => cbv
  refine join_all hO ?_
  conv => cbv
  obtain ⟨hc5, h⟩ := gd_inv h
  refine call_h hO [.ref 1, .shut] (d_p83 fu O.len hN h) ?_
  intro os Q hos hQ
  conv => cbv
  refine ⟨(by subst hO; exact Nat.le_refl _), ?_⟩
  refine view_of hO (by subst hO; exact hc5) ?_
  conv => cbv
  refine ⟨(by (rw [hos]) <;> (subst hO; rfl)), ?_⟩
  intro r bs hq
  rw [hQ] at hq
  clear hos hQ h
  obtain ⟨y5, _, ⟨rfl, rfl⟩, h⟩ := hq
  conv => cbv
  refine call_h hO [.ref 1, .shut] (d_p85 fu O.len hN h) ?_
  intro os Q hos hQ
  conv => cbv
  refine ⟨(by subst hO; exact Nat.le_refl _), ?_⟩
  refine ⟨(by (rw [hos]) <;> (subst hO; rfl)), ?_⟩
  intro r bs hq
  rw [hQ] at hq
  clear hos hQ h
  obtain ⟨y6, _, ⟨rfl, rfl⟩, h⟩ := hq
  conv => cbv
  refine call_h hO [.shut, .shut] (d_p86 fu O.len hN h) ?_
  intro os Q hos hQ
  conv => cbv
  refine ⟨(by (rw [hos]) <;> (subst hO; rfl)), ?_⟩
  intro r bs hq
  rw [hQ] at hq
  clear hos hQ h
  obtain ⟨y7, _, _, ⟨rfl, rfl⟩, h⟩ := hq
  conv => cbv
  refine call_h hO [.ref 1, .shut] (d_p85 fu O.len hN h) ?_
  intro os Q hos hQ
  conv => cbv
  refine ⟨(by subst hO; exact Nat.le_refl _), ?_⟩
  refine ⟨(by (rw [hos]) <;> (subst hO; rfl)), ?_⟩
  intro r bs hq
  rw [hQ] at hq
  clear hos hQ h
  obtain ⟨y8, _, ⟨rfl, rfl⟩, h⟩ := hq
  conv => cbv
  refine br_join_h hO tiA h (by subst hO; rfl) [3, 5] [4000, 11000, 11001000000] [] (fun tm m => ∃ (j9 : EL), ((tm = frame 0 79 [(3, .p 4000 0 0), (5, .p 11000 0 0)] ∧ m = ⟨[(4000, .blk 0 [.c (.v (.int .i64 x1)), .c (.v (.int .u64 x2)), .c (.v (.int .u64 x3)), .c (.v (.int .i64 x4)), .c (.v (.int .i64 x5)), .c (.v (.bool x6)), .c (.v (.int .i64 x7)), .c (.v (.int .i64 x8)), .c (.v (.string x9)), .c (.sl 3 x10 none), .c (.sl 5 x11 none), .c (.v (.int .i64 x12)), .c (.sl 1 x13 none)]), (11000, .blk 0 [.t 11001000000 0 (O.len j9)]), (11001000000, .arr 0 1 j9 none false)], 1⟩)) ∧ p43_2 False fu  K0 x12 x13 j9) (fun hc4 h L hL_2 => ?_) (fun hc4 h L hL_2 => ?_) ?_
  · conv => cbv
    refine call_h hO [.ref 1, .shut] (d_p64 fu O.len hN h) ?_
    intro os Q hos hQ
    conv => cbv
    refine ⟨(by subst hO; exact Nat.le_refl _), ?_⟩
    refine ⟨(by (rw [hos]) <;> (subst hO; rfl)), ?_⟩
    intro r bs hq
    rw [hQ] at hq
    clear hos hQ h
    obtain ⟨y16, _, ⟨rfl, rfl⟩, h⟩ := hq
    conv => cbv
    exact hL_2 _ _ ⟨y16, ⟨(by (conv => lhs; cbv) <;> (subst hO; rfl)), (by (conv => lhs; cbv) <;> (subst hO; rfl))⟩, h⟩
  · conv => cbv
    exact hL_2 _ _ ⟨y8, ⟨(by (conv => lhs; cbv) <;> (subst hO; rfl)), (by (conv => lhs; cbv) <;> (subst hO; rfl))⟩, h⟩
  · rintro tm m ⟨j9, hs, h⟩
    unfold p43_2 at h
    obtain ⟨rfl, rfl⟩ := hs
    conv => cbv
    obtain ⟨hc3, h⟩ := gd_inv h
    refine call_h hO [.ref 1, .shut] (d_p83 fu O.len hN h) ?_
    intro os Q hos hQ
    conv => cbv
    refine ⟨(by subst hO; exact Nat.le_refl _), ?_⟩
    refine view_of hO (by subst hO; exact hc3) ?_
    conv => cbv
    refine ⟨(by (rw [hos]) <;> (subst hO; rfl)), ?_⟩
    intro r bs hq
    rw [hQ] at hq
    clear hos hQ h
    obtain ⟨y10, _, ⟨rfl, rfl⟩, h⟩ := hq
    conv => cbv
    refine loop_of hO tiA [5, 64, 65, 66] [11000, 11001000000] [] (fun (n : Nat) tm m => ∃ (z11 : EL) (z12 : Int) (z13 : Int), ((tm = frame 0 79 [(5, .p 11000 0 0), (64, .c (.sl 1 x13 none)), (65, .c (.v (.int .i64 z12))), (66, .c (.v (.int .i64 z13)))] ∧ m = ⟨[(11000, .blk 0 [.t 11001000000 0 (O.len z11)]), (11001000000, .arr 0 1 z11 none false)], 1⟩)) ∧ p43_1L False fu  K0 x13 n z11 z12 z13) (fun n => n) fu ⟨y10, ((x13.length : Nat) : Int), 0, ⟨(by (conv => lhs; cbv) <;> (subst hO; rfl)), (by (conv => lhs; cbv) <;> (subst hO; rfl))⟩, h⟩ ?_
    rintro n1 tm m L ⟨z11, z12, z13, hs, h⟩ hLn1
    cases n1 with
    | zero => rw [p43_1L] at h; exact h.elim
    | succ n1 =>
      rw [p43_1L] at h
      unfold p43_1 at h
      obtain ⟨rfl, rfl⟩ := hs
      conv => cbv
      refine br_h hO h (by subst hO; rfl) (fun hc1 h => ?_) (fun hc1 h => ?_)
      · conv => cbv
        refine join_all hO ?_
        conv => cbv
        refine and_h h (fun g => (by subst hO; exact g)) (fun h => ?_)
        refine and_h h (fun g => (by subst hO; exact g)) (fun h => ?_)
        obtain ⟨c14, hr, h⟩ := rw_s_inv h
        refine elem_of hO _ (by subst hO; exact hr) ?_
        clear hr
        conv => cbv
        obtain ⟨hc2, h⟩ := gd_inv h
        refine call_h hO [.ref 1, .shut] (d_p87 fu O.len hN h) ?_
        intro os Q hos hQ
        conv => cbv
        refine ⟨(by subst hO; exact Nat.le_refl _), ?_⟩
        refine view_of hO (by subst hO; exact hc2) ?_
        conv => cbv
        refine ⟨(by (rw [hos]) <;> (subst hO; rfl)), ?_⟩
        intro r bs hq
        rw [hQ] at hq
        clear hos hQ h
        obtain ⟨y15, _, ⟨rfl, rfl⟩, h⟩ := hq
        conv => cbv
        exact hLn1 n1 _ _ (Nat.lt_succ_self n1) ⟨y15, z12, binStd .add .i64 z13 1, ⟨(by (conv => lhs; cbv) <;> (subst hO; rfl)), (by (conv => lhs; cbv) <;> (subst hO; rfl))⟩, h⟩
      · conv => cbv
        refine view_full hO ?_
        conv => cbv
        rw [hQ]
        exact ⟨z11, _, _, ⟨(by subst hO; rfl), (by subst hO; rfl)⟩, h⟩
end Go.Proofs.Ythncmjlcmlmnmaa

namespace Go.Proofs.Ythncmjlcmlmnmaa
open Go V
set_option maxRecDepth 100000
set_option maxHeartbeats 4000000
def p41_1 {ρ : Type} (fail : ρ) (fu : Nat)  (K0 : Bool → ρ)   (j16 : Bool) : ρ :=
  K0 j16
/-- law26.begun -/
def p41 {ρ : Type} (fail : ρ) (fu : Nat)  (K0 : Bool → ρ)  : ρ :=
  p43 fail fu (fun y1 => p45 fail fu (fun y2 y3 y4 y5 y6 y7 y8 y9 y10 y11 y12 y13 y14 y15 => bif (cmpStd .eql ((y1.length : Nat) : Int) 23) then (gd ((0 : Int) ≤ 0) fail (gd ((0 : Int) < (y1.length : Nat)) fail (rw_u8 fail (List.getD y1 ((0 : Int).toNat) []) (fun c17 => bif (cmpStd .eql c17 3) then (bif (cmpStd .eql y15 0) then (p41_1 fail fu  K0  (cmpStd .eql y2 3)) else (p41_1 fail fu  K0  false)) else (p41_1 fail fu  K0  false))))) else (p41_1 fail fu  K0  false)) y1) nilE 3 0 0 0 0 false 0 0 ⟨#[]⟩ nilE nilE 0 nilE
theorem d_p41 (fu : Nat)  {K0 : Bool → Prop} (L : EL → Nat) (hN : L = List.length)  (h : p41 False fu K0 ) : Den Try.prog G0 41 [] (fun r bs => (∃ (y0 : Bool), (r = .c (.v (.bool y0)) ∧ bs = []) ∧ K0 y0)) := by
  obtain ⟨O, hO⟩ : ∃ O, O = std 0 T G0 (Den Try.prog G0) := ⟨_, rfl⟩
  have hLO : L = O.len := by rw [hN, hO]; rfl
  subst hLO
  refine den_h hO tiA mixed tabOk (fn := Try.f41) (sh := true) (by kernel_rfl) rfl rfl rfl rfl ?_
  intro Q hQ
  unfold p41 at h
  conv => cbv
  refine call_h hO [.shut, .shut] (d_p43 fu O.len hN h) ?_
  intro os Q hos hQ
  conv => cbv
  refine ⟨(by (rw [hos]) <;> (subst hO; rfl)), ?_⟩
  intro r bs hq
  rw [hQ] at hq
  clear hos hQ h
  obtain ⟨y1, _, _, ⟨rfl, rfl⟩, h⟩ := hq
  conv => cbv
  refine call_h hO [.shut] (d_p45 fu O.len hN h) ?_
  intro os Q hos hQ
  conv => cbv
  refine ⟨(by (rw [hos]) <;> (subst hO; rfl)), ?_⟩
  intro r bs hq
  rw [hQ] at hq
  clear hos hQ h
  obtain ⟨y2, y3, y4, y5, y6, y7, y8, y9, y10, y11, y12, y13, y14, y15, _, ⟨rfl, rfl⟩, h⟩ := hq
  conv => cbv
  refine reg_join hO tiA [0] [] [] (fun tm m => ∃ (j16 : Bool), ((tm = frame 0 29 [(0, .c (.v (.bool j16)))] ∧ m = ⟨[], 1⟩)) ∧ p41_1 False fu  K0  j16) (fun L hL_1 => ?_) ?_
  · conv => cbv
    refine br_h hO h (by subst hO; rfl) (fun hc1 h => ?_) (fun hc1 h => ?_)
    · conv => cbv
      refine br_t hO hc1 ?_
      conv => cbv
      refine and_h h (fun g => (by subst hO; exact g)) (fun h => ?_)
      refine and_h h (fun g => (by subst hO; exact g)) (fun h => ?_)
      obtain ⟨c17, hr, h⟩ := rw_u8_inv h
      refine elem_of hO _ (by subst hO; exact hr) ?_
      clear hr
      conv => cbv
      refine br_t hO hc1 ?_
      conv => cbv
      refine br_t hO hc1 ?_
      conv => cbv
      refine br_t hO hc1 ?_
      conv => cbv
      refine br_h hO h (by subst hO; rfl) (fun hc2 h => ?_) (fun hc2 h => ?_)
      · conv => cbv
        refine br_t hO hc2 ?_
        conv => cbv
        refine br_t hO hc2 ?_
        conv => cbv
        refine br_h hO h (by subst hO; rfl) (fun hc3 h => ?_) (fun hc3 h => ?_)
        · conv => cbv
          refine br_t hO hc3 ?_
          conv => cbv
          refine br_t hO hc3 ?_
          conv => cbv
          refine br_t hO hc3 ?_
          conv => cbv
          exact hL_1 _ _ ⟨(cmpStd .eql y2 3), ⟨(by (conv => lhs; cbv) <;> (subst hO; rfl)), (by (conv => lhs; cbv) <;> (subst hO; rfl))⟩, h⟩
        · conv => cbv
          refine br_f hO hc3 ?_
          conv => cbv
          refine br_f hO hc3 ?_
          conv => cbv
          refine br_f hO hc3 ?_
          conv => cbv
          exact hL_1 _ _ ⟨false, ⟨(by (conv => lhs; cbv) <;> (subst hO; rfl)), (by (conv => lhs; cbv) <;> (subst hO; rfl))⟩, h⟩
      · conv => cbv
        refine br_f hO hc2 ?_
        conv => cbv
        refine br_f hO hc2 ?_
        conv => cbv
        refine br_f hO rfl ?_
        conv => cbv
        refine br_f hO rfl ?_
        conv => cbv
        refine br_f hO rfl ?_
        conv => cbv
        refine br_f hO rfl ?_
        conv => cbv
        exact hL_1 _ _ ⟨false, ⟨(by (conv => lhs; cbv) <;> (subst hO; rfl)), (by (conv => lhs; cbv) <;> (subst hO; rfl))⟩, h⟩
    · conv => cbv
      refine br_f hO hc1 ?_
      conv => cbv
      refine br_f hO hc1 ?_
      conv => cbv
      refine br_f hO hc1 ?_
      conv => cbv
      refine br_f hO hc1 ?_
      conv => cbv
      refine br_f hO rfl ?_
      conv => cbv
      refine br_f hO rfl ?_
      conv => cbv
      refine br_f hO rfl ?_
      conv => cbv
      refine br_f hO rfl ?_
      conv => cbv
      refine br_f hO rfl ?_
      conv => cbv
      refine br_f hO rfl ?_
      conv => cbv
      refine br_f hO rfl ?_
      conv => cbv
      exact hL_1 _ _ ⟨false, ⟨(by (conv => lhs; cbv) <;> (subst hO; rfl)), (by (conv => lhs; cbv) <;> (subst hO; rfl))⟩, h⟩
  · rintro tm m ⟨j16, hs, h⟩
    unfold p41_1 at h
    obtain ⟨rfl, rfl⟩ := hs
    conv => cbv
    rw [hQ]
    exact ⟨j16, ⟨(by subst hO; rfl), (by subst hO; rfl)⟩, h⟩
end Go.Proofs.Ythncmjlcmlmnmaa

namespace Go.Proofs.Ythncmjlcmlmnmaa
open Go V
set_option maxRecDepth 100000
set_option maxHeartbeats 4000000
def p10_1 {ρ : Type} (fail : ρ) (fu : Nat)  (K0 : Bool → ρ)   (j30 : Bool) : ρ :=
  K0 j30
/-- law26.ReplyReads -/
def p10 {ρ : Type} (fail : ρ) (fu : Nat)  (K0 : Bool → ρ) (x0 : EL) : ρ :=
  p41 fail fu (fun y1 => bif (!y1) then (K0 false) else (bif (cmpStd .gtr ((x0.length : Nat) : Int) 4000) then (K0 true) else (p45 fail fu (fun y2 y3 y4 y5 y6 y7 y8 y9 y10 y11 y12 y13 y14 y15 => p46 fail fu (fun y16 y17 y18 y19 y20 y21 y22 y23 y24 y25 y26 y27 y28 y29 => bif (cmpStd .eql y15 y29) then (p47 fail fu (fun y31 => p10_1 fail fu  K0  y31) y2 y3 y4 y5 y6 y7 y8 y9 y10 y11 y12 y13 y14 y16 y17 y18 y19 y20 y21 y22 y23 y24 y25 y26 y27 y28) else (p10_1 fail fu  K0  false)) x0) x0))) 
theorem d_p10 (fu : Nat)  {K0 : Bool → Prop} (L : EL → Nat) (hN : L = List.length) {x0 : EL} (h : p10 False fu K0 x0) : Den Try.prog G0 10 [.c (.sl 1 x0 none)] (fun r bs => (∃ (y0 : Bool) (o0 : OV), (r = .c (.v (.bool y0)) ∧ bs = [o0]) ∧ K0 y0)) := by
  obtain ⟨O, hO⟩ : ∃ O, O = std 0 T G0 (Den Try.prog G0) := ⟨_, rfl⟩
  have hLO : L = O.len := by rw [hN, hO]; rfl
  subst hLO
  refine den_h hO tiA mixed tabOk (fn := Try.f10) (sh := true) (by kernel_rfl) rfl rfl rfl rfl ?_
  intro Q hQ
  unfold p10 at h
  conv => cbv
  refine call_h hO [] (d_p41 fu O.len hN h) ?_
  intro os Q hos hQ
  conv => cbv
  refine ⟨(by (rw [hos]) <;> (subst hO; rfl)), ?_⟩
  intro r bs hq
  rw [hQ] at hq
  clear hos hQ h
  obtain ⟨y1, ⟨rfl, rfl⟩, h⟩ := hq
  conv => cbv
  refine br_h hO h (by subst hO; rfl) (fun hc1 h => ?_) (fun hc1 h => ?_)
  · conv => cbv
    rw [hQ]
    exact ⟨false, _, ⟨(by subst hO; rfl), (by subst hO; rfl)⟩, h⟩
  · conv => cbv
    refine join_all hO ?_
    conv => cbv
    refine br_h hO h (by subst hO; rfl) (fun hc2 h => ?_) (fun hc2 h => ?_)
    · conv => cbv
      rw [hQ]
      exact ⟨true, _, ⟨(by subst hO; rfl), (by subst hO; rfl)⟩, h⟩
    · conv => cbv
      refine join_all hO ?_
      conv => cbv
      refine call_h hO [.shut] (d_p45 fu O.len hN h) ?_
      intro os Q hos hQ
      conv => cbv
      refine ⟨(by (rw [hos]) <;> (subst hO; rfl)), ?_⟩
      intro r bs hq
      rw [hQ] at hq
      clear hos hQ h
      obtain ⟨y2, y3, y4, y5, y6, y7, y8, y9, y10, y11, y12, y13, y14, y15, _, ⟨rfl, rfl⟩, h⟩ := hq
      conv => cbv
      refine call_h hO [.shut] (d_p46 fu O.len hN h) ?_
      intro os Q hos hQ
      conv => cbv
      refine ⟨(by (rw [hos]) <;> (subst hO; rfl)), ?_⟩
      intro r bs hq
      rw [hQ] at hq
      clear hos hQ h
      obtain ⟨y16, y17, y18, y19, y20, y21, y22, y23, y24, y25, y26, y27, y28, y29, _, ⟨rfl, rfl⟩, h⟩ := hq
      conv => cbv
      refine reg_join hO tiA [2] [] [] (fun tm m => ∃ (j30 : Bool), ((tm = frame 0 30 [(2, .c (.v (.bool j30)))] ∧ m = ⟨[], 1⟩)) ∧ p10_1 False fu  K0  j30) (fun L hL_1 => ?_) ?_
      · conv => cbv
        refine br_h hO h (by subst hO; rfl) (fun hc3 h => ?_) (fun hc3 h => ?_)
        · conv => cbv
          refine br_t hO hc3 ?_
          conv => cbv
          refine br_t hO hc3 ?_
          conv => cbv
          refine call_h hO [.shut, .shut] (d_p47 fu O.len hN h) ?_
          intro os Q hos hQ
          conv => cbv
          refine ⟨(by (rw [hos]) <;> (subst hO; rfl)), ?_⟩
          intro r bs hq
          rw [hQ] at hq
          clear hos hQ h
          obtain ⟨y31, _, _, ⟨rfl, rfl⟩, h⟩ := hq
          conv => cbv
          refine br_t hO hc3 ?_
          conv => cbv
          exact hL_1 _ _ ⟨y31, ⟨(by (conv => lhs; cbv) <;> (subst hO; rfl)), (by (conv => lhs; cbv) <;> (subst hO; rfl))⟩, h⟩
        · conv => cbv
          refine br_f hO hc3 ?_
          conv => cbv
          refine br_f hO hc3 ?_
          conv => cbv
          refine br_f hO hc3 ?_
          conv => cbv
          exact hL_1 _ _ ⟨false, ⟨(by (conv => lhs; cbv) <;> (subst hO; rfl)), (by (conv => lhs; cbv) <;> (subst hO; rfl))⟩, h⟩
      · rintro tm m ⟨j30, hs, h⟩
        unfold p10_1 at h
        obtain ⟨rfl, rfl⟩ := hs
        conv => cbv
        rw [hQ]
        exact ⟨j30, _, ⟨(by subst hO; rfl), (by subst hO; rfl)⟩, h⟩
end Go.Proofs.Ythncmjlcmlmnmaa

namespace Go.Proofs.Ythncmjlcmlmnmaa
open Go V
set_option maxRecDepth 100000
set_option maxHeartbeats 2000000
theorem varB_ne {v w : Nat} {X Y : List UInt8} (hv : v < 2 ^ 64) (hw : w < 2 ^ 64) (h : v ≠ w) : varB v ++ X ≠ varB w ++ Y := fun q => by
  have h1 := tv_back v 0 X (by omega) (by simpa using hv) (by omega)
  have h2 := tv_back w 0 Y (by omega) (by simpa using hw) (by omega)
  rw [q, h2] at h1
  injection h1 with h1; injection h1 with h1 _
  exact h h1.symm
/-- The head of a reply's bytes. -/
def hdB (err hi lo fuel cells : Nat) : List UInt8 := varB err ++ (lowB 8 hi ++ (lowB 8 lo ++ (varB fuel ++ varB cells)))
theorem rpEnc_hd (err hi lo fuel cells : Nat) (h1 : err < 2 ^ 64) (h2 : fuel < 2 ^ 64) (h3 : cells < 2 ^ 64) (yes : Bool) (t : Tm) (pa : Nat) (h4 : pa < 2 ^ 64) (l : List ByteArray) :
    rpEnc (err : Nat) hi lo (fuel : Nat) (cells : Nat) yes t (pa : Nat) l = hdB err hi lo fuel cells ++ (varB (if yes then 1 else 0) ++ ((if isZ t = true then varB 0 else varB 1 ++ t.enc) ++ (varB pa ++ (varB l.length ++ axB l)))) := by
  simp only [rpEnc, hdB, uv_nat _ h1, uv_nat _ h2, uv_nat _ h3, uv_nat _ h4, List.append_assoc]
theorem rfR5_lt {bs : List UInt8} {pa : Nat} {l : List ByteArray} (h : rfR5 bs = some (pa, l)) : pa < 2 ^ 64 := by
  unfold rfR5 at h; split at h
  · cases h
  · rename_i pa' bs1 hpa
    have := (rdNum_ok hpa).1
    split at h
    · cases h
    · split at h
      · cases h
      · injection h with h; injection h with h1 h2; omega
/-- Where what is written would part, the check fails. -/
theorem chk_none {all : List UInt8} {err hi lo fuel cells : Nat} {yes : Bool} {t : Tm} (x : Option (Nat × List ByteArray)) (h : ∀ pa l, x = some (pa, l) → rpEnc (err : Nat) hi lo (fuel : Nat) (cells : Nat) yes t (pa : Nat) l ≠ all) : chk all (err : Nat) hi lo (fuel : Nat) (cells : Nat) yes t x = none := by
  cases x with
  | none => rfl
  | some x =>
    obtain ⟨pa, l⟩ := x
    simp only [chk]
    rw [if_neg (h pa l rfl)]
/-- Where the head is as it must be, both tails answer alike. -/
theorem tails {all P bs : List UInt8} {err hi lo fuel cells : Nat} {yes : Bool} {t : Tm} (hall : all.length ≤ 4000) (hP : all = P ++ bs) (hE : ∀ pa l, pa < 2 ^ 64 → rpEnc (err : Nat) hi lo (fuel : Nat) (cells : Nat) yes t (pa : Nat) l = P ++ (varB pa ++ (varB l.length ++ axB l))) :
    tail5 (err : Nat) (hi : Nat) (lo : Nat) (fuel : Nat) (cells : Nat) yes t (rdR5 bs) = chk all (err : Nat) hi lo (fuel : Nat) (cells : Nat) yes t (rfR5 bs) := by
  have hbl : bs.length ≤ 4000 := by have := hall; rw [hP, List.length_append] at this; omega
  unfold rdR5 rfR5
  cases h1 : rdNum bs with
  | error e => rfl
  | ok x =>
    obtain ⟨pa, b1⟩ := x
    obtain ⟨p1, p2, p3⟩ := rdNum_ok h1
    dsimp only
    cases h2 : rdNum b1 with
    | error e => rfl
    | ok x =>
      obtain ⟨n, b2⟩ := x
      obtain ⟨n1, n2, n3⟩ := rdNum_ok h2
      dsimp only
      cases h3 : many rdName n 0 b2 with
      | error e => by_cases c : 65536 < n <;> simp [c, chk, tail5]
      | ok x =>
        obtain ⟨l, b3, q⟩ := x
        obtain ⟨m1, m2, m3⟩ := names_sz _ _ _ _ _ _ h3
        have hal := axSz_len l
        rw [if_neg (by omega)]
        dsimp only
        have hall2 : all = (P ++ (varB pa ++ (varB l.length ++ axB l))) ++ b3 := by
          rw [hP, p3, n3, m2, m3]; simp only [List.append_assoc]
        simp only [chk]
        rw [hE pa l (by omega)]
        by_cases c : b3.length = 0
        · have hb3 : b3 = [] := List.length_eq_zero_iff.1 c
          rw [if_pos c, if_pos (by rw [hall2, hb3, List.append_nil])]
        · rw [if_neg c, if_neg (fun q => c (by
            have e1 := congrArg List.length hall2
            rw [List.length_append] at e1
            have e2 := congrArg List.length q
            omega))]
theorem readers_alike (all : List UInt8) (hall : all.length ≤ 4000) : rdRep all = rfTake all all := by
  unfold rdRep rfTake
  cases g1 : rdNum all with
  | error e => rfl
  | ok x =>
  obtain ⟨err, b1⟩ := x
  obtain ⟨a1, a2, a3⟩ := rdNum_ok g1
  simp only [opt]
  unfold rdHd
  cases g2 : rdEight b1 with
  | error e =>
    have : b1.length < 16 := by unfold rdEight at g2; split at g2
                                · omega
                                · cases g2
    rw [if_pos this]
  | ok x =>
  obtain ⟨hi, b2⟩ := x
  obtain ⟨e1, e2, e3, e4, e5⟩ := rdEight_ok g2
  dsimp only
  cases g3 : rdEight b2 with
  | error e =>
    have : b1.length < 16 := by
      unfold rdEight at g3; split at g3
      · rename_i h; rw [e5, List.length_drop] at h; omega
      · cases g3
    rw [if_pos this]
  | ok x =>
  obtain ⟨lo, b3⟩ := x
  obtain ⟨f1, f2, f3, f4, f5⟩ := rdEight_ok g3
  have h16 : ¬ b1.length < 16 := by rw [e5, List.length_drop] at f3; omega
  have hb3 : b1.drop 16 = b3 := by rw [f5, e5, List.drop_drop]
  rw [if_neg h16, ← e4, ← e5, ← f4, hb3]
  have hb1 : b1 = lowB 8 hi ++ (lowB 8 lo ++ b3) := by
    rw [e4, f4, lowB_be 8 _ (by rw [List.length_take]; omega), lowB_be 8 _ (by rw [List.length_take]; omega), f5, List.take_append_drop, e5, List.take_append_drop]
  dsimp only
  cases g4 : rdNum b3 with
  | error e => rfl
  | ok x =>
  obtain ⟨fuel, b4⟩ := x
  obtain ⟨c1, c2, c3⟩ := rdNum_ok g4
  dsimp only
  cases g5 : rdNum b4 with
  | error e => rfl
  | ok x =>
  obtain ⟨cells, b5⟩ := x
  obtain ⟨d1, d2, d3⟩ := rdNum_ok g5
  dsimp only
  have hall5 : all = hdB err hi lo fuel cells ++ b5 := by
    rw [a3, hb1, c3, d3]; simp only [hdB, List.append_assoc]
  have H := fun (yes : Bool) (t : Tm) (pa : Nat) (h4 : pa < 2 ^ 64) (l : List ByteArray) => rpEnc_hd err hi lo fuel cells (by omega) (by omega) (by omega) yes t pa h4 l
  unfold rdKind rdNum
  cases g6 : rdV b5 with
  | error e => rfl
  | ok x =>
  obtain ⟨yes, b6⟩ := x
  obtain ⟨i1, i2, i3⟩ := rdV_ok g6
  dsimp only
  by_cases cy : 1 < yes
  · rw [if_pos (.inr cy)]
    by_cases cy2 : 1073741824 < yes
    · rw [if_pos cy2]
    · rw [if_neg cy2]
      dsimp only
      have hd : decide (yes = 1) = false := decide_eq_false (by omega)
      rw [hd]
      have key : ∀ (t : Tm) (x : Option (Nat × List ByteArray)), (∀ pa l, x = some (pa, l) → pa < 2 ^ 64) → chk all (err : Nat) hi lo (fuel : Nat) (cells : Nat) false t x = none := fun t x hx => chk_none x fun pa l h => by
        rw [H false t pa (hx pa l h) l, hall5, i3]
        exact fun q => varB_ne (by decide) i1 (show (0 : Nat) ≠ yes by omega) (List.append_cancel_left q)
      cases rdV b6 with
      | error e => rfl
      | ok x =>
        obtain ⟨has, b7⟩ := x
        dsimp only
        by_cases ch : 1073741824 < has
        · rw [if_pos ch]
        · rw [if_neg ch]
          dsimp only
          unfold rf6
          by_cases c1 : has = 1
          · rw [if_pos c1]
            cases rdTerm b7 with
            | error e => rfl
            | ok x =>
              obtain ⟨t, b8⟩ := x
              exact (key t _ fun pa l h => rfR5_lt h).symm
          · rw [if_neg c1]
            exact (key tm0 _ fun pa l h => rfR5_lt h).symm
  · rw [if_neg (by omega), if_neg (by omega)]
    dsimp only
    have hyb : (if (decide (yes = 1)) = true then 1 else 0) = yes := by
      by_cases c : yes = 1
      · rw [decide_eq_true c, if_pos rfl]; exact c.symm
      · rw [decide_eq_false c, if_neg (by decide)]; omega
    cases g7 : rdV b6 with
    | error e => rfl
    | ok x =>
    obtain ⟨has, b7⟩ := x
    obtain ⟨j1, j2, j3⟩ := rdV_ok g7
    have hall7 : all = (hdB err hi lo fuel cells ++ varB yes) ++ (varB has ++ b7) := by
      rw [hall5, i3, j3]; simp only [List.append_assoc]
    have H2 : ∀ (t : Tm) (pa : Nat) (_ : pa < 2 ^ 64) (l : List ByteArray), rpEnc (err : Nat) hi lo (fuel : Nat) (cells : Nat) (decide (yes = 1)) t (pa : Nat) l = (hdB err hi lo fuel cells ++ varB yes) ++ ((if isZ t = true then varB 0 else varB 1 ++ t.enc) ++ (varB pa ++ (varB l.length ++ axB l))) := fun t pa hp l => by
      rw [H _ t pa hp l, hyb, List.append_assoc]
    dsimp only
    by_cases ch : 1 < has
    · rw [if_pos (.inr ch)]
      by_cases ch2 : 1073741824 < has
      · rw [if_pos ch2]
      · rw [if_neg ch2]
        dsimp only
        unfold rf6
        rw [if_neg (by omega)]
        refine (chk_none _ fun pa l h => ?_).symm
        rw [H2 tm0 pa (rfR5_lt h) l, if_pos (show isZ tm0 = true from rfl), hall7]
        exact fun q => varB_ne (by decide) j1 (show (0 : Nat) ≠ has by omega) (List.append_cancel_left q)
    · rw [if_neg (by omega), if_neg (by omega)]
      dsimp only
      unfold rf6 rdR6
      by_cases c1 : has = 1
      · rw [if_pos c1, if_pos c1]
        cases gt : rdTerm b7 with
        | error e => rfl
        | ok x =>
        obtain ⟨t, b8⟩ := x
        have ho := rdTerm_only gt
        dsimp only
        by_cases cz : isZ t = true
        · rw [if_pos cz]
          refine (chk_none _ fun pa l h => ?_).symm
          rw [H2 t pa (rfR5_lt h) l, if_pos cz, hall7]
          exact fun q => varB_ne (by decide) j1 (show (0 : Nat) ≠ has by omega) (List.append_cancel_left q)
        · rw [if_neg cz]
          have := tails (all := all) (P := (hdB err hi lo fuel cells ++ varB yes) ++ (varB 1 ++ t.enc)) (bs := b8) (err := err) (hi := hi) (lo := lo) (fuel := fuel) (cells := cells) (yes := decide (yes = 1)) (t := t) hall (by
            rw [hall7, c1, ho]; simp only [List.append_assoc]) (fun pa l hp => by rw [H2 t pa hp l, if_neg cz]; simp only [List.append_assoc])
          rw [← this]
          cases rdR5 b8 <;> rfl
      · rw [if_neg c1, if_neg c1]
        have c0 : has = 0 := by omega
        have := tails (all := all) (P := (hdB err hi lo fuel cells ++ varB yes) ++ varB 0) (bs := b7) (err := err) (hi := hi) (lo := lo) (fuel := fuel) (cells := cells) (yes := decide (yes = 1)) (t := tm0) hall (by
          rw [hall7, c0]; simp only [List.append_assoc]) (fun pa l hp => by rw [H2 tm0 pa hp l, if_pos (show isZ tm0 = true from rfl)]; simp only [List.append_assoc])
        rw [← this]
        cases rdR5 b7 <;> rfl
theorem begun26_80000 (K : Bool → Prop) : p41 (ρ := Prop) False 80000 K = K true := by kernel_rfl
theorem rdR5_sz {bs : List UInt8} {pa : Nat} {l : List ByteArray} (h : rdR5 bs = some (pa, l)) : l.length ≤ bs.length := by
  unfold rdR5 at h; split at h
  · cases h
  · rename_i pa' b1 h1
    have g1 := (rdNum_ok h1).2.1
    split at h
    · cases h
    · rename_i n b2 h2
      have g2 := (rdNum_ok h2).2.1
      split at h
      · cases h
      · split at h
        · cases h
        · rename_i l' b3 q h3
          obtain ⟨m1, m2, m3⟩ := names_sz _ _ _ _ _ _ h3
          have hal := axSz_len l'
          split at h
          · injection h with h; injection h with _ h; subst h; omega
          · cases h
theorem rdR6_sz {has : Nat} {bs : List UInt8} {t : Tm} {pa : Nat} {l : List ByteArray} (h : rdR6 has bs = some (t, pa, l)) : t.sz ≤ 2 * bs.length + 1 ∧ l.length ≤ bs.length := by
  unfold rdR6 at h; split at h
  · split at h
    · cases h
    · rename_i t' b1 h1
      have g1 := rdTerm_sz h1
      split at h
      · cases h
      · split at h
        · cases h
        · rename_i pa' l' h2
          have g2 := rdR5_sz h2
          injection h with h; injection h with e1 h; injection h with e2 e3; subst e1 e3
          omega
  · split at h
    · cases h
    · rename_i pa' l' h2
      have g2 := rdR5_sz h2
      injection h with h; injection h with e1 h; injection h with e2 e3; subst e1 e3
      have : tm0.sz = 1 := rfl
      omega
theorem opt_some {α β : Type} {x : Except Int α} {f : α → Option β} {b : β} (h : opt x f = some b) : ∃ a, x = .ok a ∧ f a = some b := by
  cases x with
  | error e => cases h
  | ok a => exact ⟨a, rfl, h⟩
theorem rdRep_sz {bs : List UInt8} {r : Rp} (hb : bs.length ≤ 4000) (h : rdRep bs = some r) : r.t.sz ≤ 10000 ∧ r.ax.length ≤ 10000 := by
  unfold rdRep at h
  obtain ⟨⟨v1, b1⟩, g1, h⟩ := opt_some h
  obtain ⟨⟨v2, b2⟩, g2, h⟩ := opt_some h
  obtain ⟨⟨v3, b3⟩, g3, h⟩ := opt_some h
  obtain ⟨⟨v4, b4⟩, g4, h⟩ := opt_some h
  obtain ⟨⟨v5, b5⟩, g5, h⟩ := opt_some h
  obtain ⟨⟨v6, b6⟩, g6, h⟩ := opt_some h
  obtain ⟨⟨v7, b7⟩, g7, h⟩ := opt_some h
  have l1 := (rdNum_ok g1).2.1
  have l2 := (rdEight_ok g2).2.1
  have l3 := (rdEight_ok g3).2.1
  have l4 := (rdNum_ok g4).2.1
  have l5 := (rdNum_ok g5).2.1
  have l6 := (rdKind_ok g6).2.2.1
  have l7 := (rdKind_ok g7).2.2.1
  dsimp only at h
  split at h
  · cases h
  · rename_i t pa l h8
    have g8 := rdR6_sz h8
    injection h with h
    rw [← h]
    exact ⟨by show t.sz ≤ _; omega, by show l.length ≤ _; omega⟩
theorem replyReads_pure (bs : List UInt8) : p10 (ρ := Prop) False 80000 (fun y => y = true) (encB bs) := by
  rw [p10, begun26_80000, Bool.not_true, cond_false, encB_length]
  by_cases h4 : 4000 < bs.length
  · rw [gtrT (by omega), cond_true]
  rw [gtrF (by omega), cond_false]
  have h1 := take_eq (ρ := Prop) False 80000 (by omega) bs (by omega)
  have h2 := takeReply_eq (ρ := Prop) False 80000 bs (by omega) (by omega)
  rw [← readers_alike bs (by omega)] at h2
  cases hr : rdRep bs with
  | none =>
    rw [hr] at h1 h2
    refine (h1 _).mpr ?_
    simp only [rpOut]
    refine (h2 _).mpr ?_
    simp only [rpOut]
    rw [eqlT rfl, cond_true]
    have := reply_same False 80000 (fun y31 => p10_1 False 80000 (fun y => y = true) y31) ⟨0, 0, 0, 0, 0, false, tm0, 0, []⟩ (by decide) (by decide) (by decide) (by decide)
    exact this.mpr rfl
  | some r =>
    rw [hr] at h1 h2
    obtain ⟨z1, z2⟩ := rdRep_sz (by omega) hr
    refine (h1 _).mpr ?_
    simp only [rpOut]
    refine (h2 _).mpr ?_
    simp only [rpOut]
    rw [eqlT rfl, cond_true]
    have := reply_same False 80000 (fun y31 => p10_1 False 80000 (fun y => y = true) y31) r (by omega) (by omega) (by omega) (by omega)
    exact this.mpr rfl
end Go.Proofs.Ythncmjlcmlmnmaa
