/- What the document's words on terms and replies share; what is the same is told so. Conditions: none. -/
import Derived.Test.YthncmjlcmlmnmaaCR13
import Derived.Test.YthncmjlcmlmnmaaCR9
namespace Go.Proofs.Ythncmjlcmlmnmaa
open Go V
set_option maxRecDepth 100000
set_option maxHeartbeats 2000000
def nkN (k : Nat) : Nat := if k ≤ 2 then 0 else tmN k
theorem rargs_eq {ρ : Type} (fail : ρ) (fu : Nat) (K : Int → ρ) (k : Nat) (h : k ≤ 6) : p136 fail fu K ((k : Nat) : Int) = K ((nkN k : Nat) : Int) := by
  have : k = 0 ∨ k = 1 ∨ k = 2 ∨ k = 3 ∨ k = 4 ∨ k = 5 ∨ k = 6 := by omega
  rcases this with rfl | rfl | rfl | rfl | rfl | rfl | rfl <;> rfl
theorem scmp_nrefl (s : ByteArray) : scmpStd .neq s s = false := by simp [scmpStd]
theorem lv_same {ρ : Type} (fail : ρ) : ∀ (N : Nat) (l : Lv), l.sz ≤ N → ∀ (fu : Nat) (K : Bool → ρ), l.sz + 20 ≤ fu → l.sz < 1099511627776 → p37 fail fu K l.k l.n (Lv.rows l.args) l.k l.n (Lv.rows l.args) = K true := by
  intro N
  induction N with
  | zero => intro l h; cases l; simp [Lv.sz] at h
  | succ N ih =>
    intro l hN fu K hf hsz
    obtain ⟨k, n, l⟩ := l
    obtain ⟨m, rfl⟩ : ∃ m, fu = m + 1 := ⟨fu - 1, by omega⟩
    simp only [Lv.sz] at hN hf hsz
    simp only [Lv.k, Lv.n, Lv.args]
    have hl := Lv.szs_len l
    rw [p37, p37_b]
    generalize hs : p37 fail m = s
    have loop : ∀ (r i j : Nat), i + r = l.length → r < j → p37_1L fail m s K (Lv.rows l) (Lv.rows l) j ((i : Nat) : Int) = K true := by
      intro r
      induction r with
      | zero =>
        intro i j hi hj
        obtain ⟨j, rfl⟩ : ∃ j', j = j' + 1 := ⟨j - 1, by omega⟩
        rw [p37_1L, p37_1, Lv.rows_len, lssF (by omega), cond_false]
      | succ r ihr =>
        intro i j hi hj
        obtain ⟨j, rfl⟩ : ∃ j', j = j' + 1 := ⟨j - 1, by omega⟩
        have hlt : i < l.length := by omega
        have h3 := Lv.szs_mem (List.getElem_mem hlt)
        have h4 := ih l[i] (by omega) m (fun y9 => bif (!y9) then (K false) else (p37_1L fail m s K (Lv.rows l) (Lv.rows l) j (binStd .add .i64 ((i : Nat) : Int) 1))) (by omega) (by omega)
        rw [hs] at h4
        rw [p37_1L, p37_1, Lv.rows_len, lssT (by omega), cond_true, gd_y (by omega), gd_y (by omega), lv_row fail l i hlt, gd_y (by omega), gd_y (by omega), lv_row fail l i hlt, h4, Bool.not_true, cond_false, addZ (by omega) (by omega), show ((i : Nat) : Int) + 1 = ((i + 1 : Nat) : Int) by omega]
        exact ihr (i + 1) j (by omega) (by omega)
    rw [neqF rfl, cond_false, neqF rfl, cond_false, neqF rfl, p37_2, cond_false]
    exact loop l.length 0 m (by omega) (by omega)
theorem tm_same {ρ : Type} (fail : ρ) : ∀ (N : Nat) (t : Tm), t.sz ≤ N → ∀ (fu : Nat) (K : Bool → ρ), t.sz + 30 ≤ fu → t.sz < 1099511627776 → p19 fail fu K t.k t.n t.nm (Lv.rows t.ls) (Tm.rows t.args) t.k t.n t.nm (Lv.rows t.ls) (Tm.rows t.args) = K true := by
  intro N
  induction N with
  | zero => intro l h; cases l; simp [Tm.sz] at h
  | succ N ih =>
    intro t hN fu K hf hsz
    obtain ⟨k, n, sn, l, a⟩ := t
    obtain ⟨m, rfl⟩ : ∃ m, fu = m + 1 := ⟨fu - 1, by omega⟩
    simp only [Tm.sz] at hN hf hsz
    simp only [Tm.k, Tm.n, Tm.nm, Tm.ls, Tm.args]
    have hl := Lv.szs_len l
    have ha := Tm.szs_len a
    rw [p19, p19_b]
    generalize hs : p19 fail m = s
    have loop : ∀ (r i j : Nat), i + r = a.length → r < j → p19_1L fail m s K (Tm.rows a) (Tm.rows a) j ((i : Nat) : Int) = K true := by
      intro r
      induction r with
      | zero =>
        intro i j hi hj
        obtain ⟨j, rfl⟩ : ∃ j', j = j' + 1 := ⟨j - 1, by omega⟩
        rw [p19_1L, p19_1, Tm.rows_len, lssF (by omega), cond_false]
      | succ r ihr =>
        intro i j hi hj
        obtain ⟨j, rfl⟩ : ∃ j', j = j' + 1 := ⟨j - 1, by omega⟩
        have hlt : i < a.length := by omega
        have h3 := Tm.szs_mem (List.getElem_mem hlt)
        have h4 := ih a[i] (by omega) m (fun y9 => bif (!y9) then (K false) else (p19_1L fail m s K (Tm.rows a) (Tm.rows a) j (binStd .add .i64 ((i : Nat) : Int) 1))) (by omega) (by omega)
        rw [hs] at h4
        rw [p19_1L, p19_1, Tm.rows_len, lssT (by omega), cond_true, gd_y (by omega), gd_y (by omega), tm_row fail a i hlt, gd_y (by omega), gd_y (by omega), tm_row fail a i hlt, h4, Bool.not_true, cond_false, addZ (by omega) (by omega), show ((i : Nat) : Int) + 1 = ((i + 1 : Nat) : Int) by omega]
        exact ihr (i + 1) j (by omega) (by omega)
    have loop2 : ∀ (r i j : Nat), i + r = l.length → r < j → p19_2L fail m s K (Lv.rows l) (Tm.rows a) (Lv.rows l) (Tm.rows a) j ((i : Nat) : Int) = K true := by
      intro r
      induction r with
      | zero =>
        intro i j hi hj
        obtain ⟨j, rfl⟩ : ∃ j', j = j' + 1 := ⟨j - 1, by omega⟩
        rw [p19_2L, p19_2, Lv.rows_len, lssF (by omega), cond_false]
        exact loop a.length 0 m (by omega) (by omega)
      | succ r ihr =>
        intro i j hi hj
        obtain ⟨j, rfl⟩ : ∃ j', j = j' + 1 := ⟨j - 1, by omega⟩
        have hlt : i < l.length := by omega
        have h3 := Lv.szs_mem (List.getElem_mem hlt)
        rw [p19_2L, p19_2, Lv.rows_len, lssT (by omega), cond_true, gd_y (by omega), gd_y (by omega), lv_row fail l i hlt, gd_y (by omega), gd_y (by omega), lv_row fail l i hlt, lv_same fail _ l[i] (Nat.le_refl _) m _ (by omega) (by omega), Bool.not_true, cond_false, addZ (by omega) (by omega), show ((i : Nat) : Int) + 1 = ((i + 1 : Nat) : Int) by omega]
        exact ihr (i + 1) j (by omega) (by omega)
    rw [neqF rfl, cond_false, neqF rfl, cond_false, scmp_nrefl, cond_false, neqF rfl, cond_false, neqF rfl, p19_3, cond_false]
    exact loop2 l.length 0 m (by omega) (by omega)
end Go.Proofs.Ythncmjlcmlmnmaa

namespace Go.Proofs.Ythncmjlcmlmnmaa
open Go V
set_option maxRecDepth 100000
set_option maxHeartbeats 4000000
def p25_1 {ρ : Type} (fail : ρ) (fu : Nat)  (K0 : EL → Nat → Nat → ρ) (rec1 : EL → Nat → Nat → Int → ρ) (x0 : EL) (z1 : EL) (z2 : Nat) (z3 : Nat) (z4 : Int) : ρ :=
  bif (cmpStd .lss z4 ((z3 : Nat) : Int)) then (gd (z3 ≤ z1.length) fail (gd ((0 : Int) ≤ z4) fail (gd ((z4 : Int) < (z3 : Nat)) fail (gd (((z4 : Int).toNat) + 1 ≤ z1.length) fail (gd (0 + 1 ≤ (List.getD z1 ((z4 : Int).toNat) []).length) fail (rec1 (List.set z1 ((z4 : Int).toNat) (putAt (List.getD z1 ((z4 : Int).toNat) []) 0 [(CV.v (.int .u8 229))])) z2 z3 (binStd .add .i64 z4 1))))))) else (gd (z3 ≤ z1.length) fail (gd ((0 : Int) ≤ ((x0.length : Nat) : Int)) fail (gd ((((x0.length : Nat) : Int) : Int) ≤ (z3 : Nat) ∨ true = true ∧ (((x0.length : Nat) : Int) : Int) ≤ (z1.length : Nat)) fail (gd (((((x0.length : Nat) : Int) : Int).toNat) ≤ z1.length) fail (K0 z1 z2 ((((x0.length : Nat) : Int) : Int).toNat))))))
def p25_1L {ρ : Type} (fail : ρ) (fu : Nat)  (K0 : EL → Nat → Nat → ρ)  (x0 : EL) : Nat → EL → Nat → Nat → Int → ρ
  | 0, _, _, _, _ => fail
  | n + 1, z1, z2, z3, z4 => p25_1 fail fu  K0 (p25_1L fail fu  K0  x0 n) x0 z1 z2 z3 z4
/-- law0.Twin -/
def p25 {ρ : Type} (fail : ρ) (fu : Nat)  (K0 : EL → Nat → Nat → ρ) (x0 : EL) : ρ :=
  gd ((0 : Int) ≤ (binStd .add .i64 ((x0.length : Nat) : Int) 3)) fail (gd ((binStd .add .i64 ((x0.length : Nat) : Int) 3 : Int) ≤ (binStd .add .i64 ((x0.length : Nat) : Int) 3)) fail (gd ((binStd .add .i64 ((x0.length : Nat) : Int) 3 : Int) * (1 : Nat) ≤ 70368744177664) fail (gd (((binStd .add .i64 ((x0.length : Nat) : Int) 3 : Int).toNat) ≤ (List.replicate ((binStd .add .i64 ((x0.length : Nat) : Int) 3 : Int).toNat) [(CV.v (.int .u8 0))]).length) fail (p25_1L fail fu  K0 x0 fu (List.take (min x0.length ((binStd .add .i64 ((x0.length : Nat) : Int) 3 : Int).toNat)) x0 ++ List.drop (min x0.length ((binStd .add .i64 ((x0.length : Nat) : Int) 3 : Int).toNat)) (List.replicate ((binStd .add .i64 ((x0.length : Nat) : Int) 3 : Int).toNat) [(CV.v (.int .u8 0))])) ((binStd .add .i64 ((x0.length : Nat) : Int) 3 : Int).toNat) ((binStd .add .i64 ((x0.length : Nat) : Int) 3 : Int).toNat) ((x0.length : Nat) : Int)))))
theorem d_p25 (fu : Nat)  {K0 : EL → Nat → Nat → Prop} (L : EL → Nat) (hN : L = List.length) {x0 : EL} (h : p25 False fu K0 x0) : Den Try.prog G0 25 [.c (.sl 1 x0 none)] (fun r bs => (∃ (y0 : EL) (y1 : Nat) (y2 : Nat) (o0 : OV), (r = .arr 1 y0 (some y1) false y2 ∧ bs = [o0]) ∧ K0 y0 y1 y2)) := by
  obtain ⟨O, hO⟩ : ∃ O, O = std 0 T G0 (Den Try.prog G0) := ⟨_, rfl⟩
  have hLO : L = O.len := by rw [hN, hO]; rfl
  subst hLO
  refine den_h hO tiA mixed tabOk (fn := Try.f25) (sh := false) (by kernel_rfl) rfl rfl rfl rfl ?_
  intro Q hQ
  unfold p25 at h
  conv => cbv
  refine and_h h (fun g => (by subst hO; exact g)) (fun h => ?_)
  refine and_h h (fun g => (by subst hO; exact g)) (fun h => ?_)
  refine and_h h (fun g => (by subst hO; exact g)) (fun h => ?_)
  refine alt_l hO ?_
  conv => cbv
  refine and_h h (fun g => (by subst hO; exact g)) (fun h => ?_)
  refine loop_of hO tiA [0, 3, 4] [9000] [] (fun (n : Nat) tm m => ∃ (z1 : EL) (z2 : Nat) (z3 : Nat) (z4 : Int), ((tm = frame 0 27 [(0, .c (.sl 1 x0 none)), (3, .t 9000 0 z3), (4, .c (.v (.int .i64 z4)))] ∧ m = ⟨[(9000, .arr 0 1 z1 (some z2) false)], 1⟩)) ∧ p25_1L False fu  K0 x0 n z1 z2 z3 z4) (fun n => n) fu ⟨(List.take (min x0.length ((binStd .add .i64 ((x0.length : Nat) : Int) 3 : Int).toNat)) x0 ++ List.drop (min x0.length ((binStd .add .i64 ((x0.length : Nat) : Int) 3 : Int).toNat)) (List.replicate ((binStd .add .i64 ((x0.length : Nat) : Int) 3 : Int).toNat) [(CV.v (.int .u8 0))])), ((binStd .add .i64 ((x0.length : Nat) : Int) 3 : Int).toNat), ((binStd .add .i64 ((x0.length : Nat) : Int) 3 : Int).toNat), ((x0.length : Nat) : Int), ⟨(by (conv => lhs; cbv) <;> (subst hO; rfl)), (by (conv => lhs; cbv) <;> (subst hO; rfl))⟩, h⟩ ?_
  rintro n1 tm m L ⟨z1, z2, z3, z4, hs, h⟩ hLn1
  cases n1 with
  | zero => rw [p25_1L] at h; exact h.elim
  | succ n1 =>
    rw [p25_1L] at h
    unfold p25_1 at h
    obtain ⟨rfl, rfl⟩ := hs
    conv => cbv
    refine alt_l hO ?_
    conv => cbv
    refine br_h hO h (by subst hO; rfl) (fun hc1 h => ?_) (fun hc1 h => ?_)
    · conv => cbv
      refine join_all hO ?_
      conv => cbv
      refine alt_l hO ?_
      conv => cbv
      refine and_h h (fun g => (by subst hO; exact g)) (fun h => ?_)
      refine and_h h (fun g => (by subst hO; exact g)) (fun h => ?_)
      refine and_h h (fun g => (by subst hO; exact g)) (fun h => ?_)
      refine and_h h (fun g => (by subst hO; exact g)) (fun h => ?_)
      refine and_h h (fun g => (by subst hO; exact g)) (fun h => ?_)
      exact hLn1 n1 _ _ (Nat.lt_succ_self n1) ⟨List.set z1 ((z4 : Int).toNat) (putAt (List.getD z1 ((z4 : Int).toNat) []) 0 [(CV.v (.int .u8 229))]), z2, z3, binStd .add .i64 z4 1, ⟨(by (conv => lhs; cbv) <;> (subst hO; rfl)), (by (conv => lhs; cbv) <;> (subst hO; rfl))⟩, h⟩
    · conv => cbv
      refine alt_l hO ?_
      conv => cbv
      refine and_h h (fun g => (by subst hO; exact g)) (fun h => ?_)
      refine and_h h (fun g => (by subst hO; exact g)) (fun h => ?_)
      refine and_h h (fun g => (by subst hO; exact g)) (fun h => ?_)
      refine and_h h (fun g => (by subst hO; exact g)) (fun h => ?_)
      rw [hQ]
      exact ⟨z1, z2, ((((x0.length : Nat) : Int) : Int).toNat), _, ⟨(by subst hO; rfl), (by subst hO; rfl)⟩, h⟩
end Go.Proofs.Ythncmjlcmlmnmaa

namespace Go.Proofs.Ythncmjlcmlmnmaa
open Go V
set_option maxRecDepth 100000
set_option maxHeartbeats 4000000
def p31_1 {ρ : Type} (fail : ρ) (fu : Nat)  (K0 : Bool → ρ) (rec1 : Int → ρ) (x2 : EL) (j1 : EL) (z4 : Int) : ρ :=
  bif (cmpStd .lss z4 (binStd .add .i64 ((x2.length : Nat) : Int) 3)) then (gd ((0 : Int) ≤ z4) fail (gd ((z4 : Int) < (j1.length : Nat)) fail (rw_u8 fail (List.getD j1 ((z4 : Int).toNat) []) (fun c5 => bif (cmpStd .neq c5 229) then (K0 false) else (rec1 (binStd .add .i64 z4 1)))))) else (K0 true)
def p31_1L {ρ : Type} (fail : ρ) (fu : Nat)  (K0 : Bool → ρ)  (x2 : EL) (j1 : EL) : Nat → Int → ρ
  | 0, _ => fail
  | n + 1, z4 => p31_1 fail fu  K0 (p31_1L fail fu  K0  x2 j1 n) x2 j1 z4
def p31_2 {ρ : Type} (fail : ρ) (fu : Nat)  (K0 : Bool → ρ)  (x2 : EL) (j1 : EL) (j2 : EL) (j3 : Bool) : ρ :=
  bif j3 then (K0 false) else (p31_1L fail fu  K0 x2 j1 fu ((x2.length : Nat) : Int))
/-- law0.Kept -/
def p31 {ρ : Type} (fail : ρ) (fu : Nat)  (K0 : Bool → ρ) (x0 : EL) (x1 : EL) (x2 : EL) : ρ :=
  gd ((0 : Int) ≤ 0) fail (gd ((0 : Int) ≤ ((x0.length + x1.length : Nat) : Int)) fail (gd ((((x0.length + x1.length : Nat) : Int) : Int) ≤ (x0.length + x1.length : Nat)) fail (tobP fail x0 (fun s6 => tobP fail x2 (fun s7 => bif (scmpStd .neq s6 s7) then (p31_2 fail fu  K0 x2 (List.drop ((0 : Int).toNat) (List.take ((((x0.length + x1.length : Nat) : Int) : Int).toNat) (x0 ++ x1))) (List.drop ((((x0.length + x1.length : Nat) : Int) : Int).toNat) (x0 ++ x1)) true) else (p31_2 fail fu  K0 x2 (List.drop ((0 : Int).toNat) (List.take ((((x0.length + x1.length : Nat) : Int) : Int).toNat) (x0 ++ x1))) (List.drop ((((x0.length + x1.length : Nat) : Int) : Int).toNat) (x0 ++ x1)) (cmpStd .lss (((List.drop ((0 : Int).toNat) (List.take ((((x0.length + x1.length : Nat) : Int) : Int).toNat) (x0 ++ x1))).length : Nat) : Int) (binStd .add .i64 ((x2.length : Nat) : Int) 3))))))))
theorem d_p31 (fu : Nat)  {K0 : Bool → Prop} (L : EL → Nat) (hN : L = List.length) {x0 : EL} {x1 : EL} {x2 : EL} (h : p31 False fu K0 x0 x1 x2) : Den Try.prog G0 31 [.c (.sl 1 x0 (some x1)), .c (.sl 1 x2 none)] (fun r bs => (∃ (y0 : Bool) (o0 : OV) (o1 : OV), (r = .c (.v (.bool y0)) ∧ bs = [o0, o1]) ∧ K0 y0)) := by
  obtain ⟨O, hO⟩ : ∃ O, O = std 0 T G0 (Den Try.prog G0) := ⟨_, rfl⟩
  have hLO : L = O.len := by rw [hN, hO]; rfl
  subst hLO
  refine den_h hO tiA mixed tabOk (fn := Try.f31) (sh := true) (by kernel_rfl) rfl rfl rfl rfl ?_
  intro Q hQ
  unfold p31 at h
  conv => cbv
  refine and_h h (fun g => (by subst hO; exact g)) (fun h => ?_)
  refine and_h h (fun g => (by subst hO; exact g)) (fun h => ?_)
  refine and_h h (fun g => (by subst hO; exact g)) (fun h => ?_)
  refine reg_join hO tiA [1, 5, 23] [] [] (fun tm m => ∃ (j1 : EL) (j2 : EL) (j3 : Bool), ((tm = frame 0 38 [(1, .c (.sl 1 x2 none)), (5, .c (.sl 1 j1 (some j2))), (23, .c (.v (.bool j3)))] ∧ m = ⟨[], 1⟩)) ∧ p31_2 False fu  K0 x2 j1 j2 j3) (fun L hL_2 => ?_) ?_
  · conv => cbv
    refine tob_h hO h (by subst hO; rfl) (fun s6 h => ?_)
    conv => cbv
    refine tob_h hO h (by subst hO; rfl) (fun s7 h => ?_)
    conv => cbv
    refine br_h hO h (by subst hO; rfl) (fun hc4 h => ?_) (fun hc4 h => ?_)
    · conv => cbv
      refine br_t hO hc4 ?_
      conv => cbv
      refine br_t hO hc4 ?_
      conv => cbv
      refine br_t hO hc4 ?_
      conv => cbv
      refine br_t hO hc4 ?_
      conv => cbv
      refine br_t hO hc4 ?_
      conv => cbv
      refine br_t hO hc4 ?_
      conv => cbv
      exact hL_2 _ _ ⟨List.drop ((0 : Int).toNat) (List.take ((((x0.length + x1.length : Nat) : Int) : Int).toNat) (x0 ++ x1)), List.drop ((((x0.length + x1.length : Nat) : Int) : Int).toNat) (x0 ++ x1), true, ⟨(by (conv => lhs; cbv) <;> (subst hO; rfl)), (by (conv => lhs; cbv) <;> (subst hO; rfl))⟩, h⟩
    · conv => cbv
      refine br_f hO hc4 ?_
      conv => cbv
      refine br_f hO hc4 ?_
      conv => cbv
      refine br_f hO hc4 ?_
      conv => cbv
      refine br_f hO hc4 ?_
      conv => cbv
      refine br_f hO hc4 ?_
      conv => cbv
      refine br_f hO hc4 ?_
      conv => cbv
      exact hL_2 _ _ ⟨List.drop ((0 : Int).toNat) (List.take ((((x0.length + x1.length : Nat) : Int) : Int).toNat) (x0 ++ x1)), List.drop ((((x0.length + x1.length : Nat) : Int) : Int).toNat) (x0 ++ x1), (cmpStd .lss (((List.drop ((0 : Int).toNat) (List.take ((((x0.length + x1.length : Nat) : Int) : Int).toNat) (x0 ++ x1))).length : Nat) : Int) (binStd .add .i64 ((x2.length : Nat) : Int) 3)), ⟨(by (conv => lhs; cbv) <;> (subst hO; rfl)), (by (conv => lhs; cbv) <;> (subst hO; rfl))⟩, h⟩
  · rintro tm m ⟨j1, j2, j3, hs, h⟩
    unfold p31_2 at h
    obtain ⟨rfl, rfl⟩ := hs
    conv => cbv
    refine br_h hO h (by subst hO; rfl) (fun hc1 h => ?_) (fun hc1 h => ?_)
    · conv => cbv
      rw [hQ]
      exact ⟨false, _, _, ⟨(by subst hO; rfl), (by subst hO; rfl)⟩, h⟩
    · conv => cbv
      refine join_all hO ?_
      conv => cbv
      refine loop_of hO tiA [1, 5, 6] [] [] (fun (n : Nat) tm m => ∃ (z4 : Int), ((tm = frame 0 38 [(1, .c (.sl 1 x2 none)), (5, .c (.sl 1 j1 (some j2))), (6, .c (.v (.int .i64 z4)))] ∧ m = ⟨[], 1⟩)) ∧ p31_1L False fu  K0 x2 j1 n z4) (fun n => n) fu ⟨((x2.length : Nat) : Int), ⟨(by (conv => lhs; cbv) <;> (subst hO; rfl)), (by (conv => lhs; cbv) <;> (subst hO; rfl))⟩, h⟩ ?_
      rintro n1 tm m L ⟨z4, hs, h⟩ hLn1
      cases n1 with
      | zero => rw [p31_1L] at h; exact h.elim
      | succ n1 =>
        rw [p31_1L] at h
        unfold p31_1 at h
        obtain ⟨rfl, rfl⟩ := hs
        conv => cbv
        refine br_h hO h (by subst hO; rfl) (fun hc2 h => ?_) (fun hc2 h => ?_)
        · conv => cbv
          refine join_all hO ?_
          conv => cbv
          refine and_h h (fun g => (by subst hO; exact g)) (fun h => ?_)
          refine and_h h (fun g => (by subst hO; exact g)) (fun h => ?_)
          obtain ⟨c5, hr, h⟩ := rw_u8_inv h
          refine elem_of hO _ (by subst hO; exact hr) ?_
          clear hr
          conv => cbv
          refine br_h hO h (by subst hO; rfl) (fun hc3 h => ?_) (fun hc3 h => ?_)
          · conv => cbv
            rw [hQ]
            exact ⟨false, _, _, ⟨(by subst hO; rfl), (by subst hO; rfl)⟩, h⟩
          · conv => cbv
            refine join_all hO ?_
            conv => cbv
            exact hLn1 n1 _ _ (Nat.lt_succ_self n1) ⟨binStd .add .i64 z4 1, ⟨(by (conv => lhs; cbv) <;> (subst hO; rfl)), (by (conv => lhs; cbv) <;> (subst hO; rfl))⟩, h⟩
        · conv => cbv
          rw [hQ]
          exact ⟨true, _, _, ⟨(by subst hO; rfl), (by subst hO; rfl)⟩, h⟩
end Go.Proofs.Ythncmjlcmlmnmaa

namespace Go.Proofs.Ythncmjlcmlmnmaa
open Go V
set_option maxRecDepth 100000
set_option maxHeartbeats 2000000
theorem u8E_enc (b : List UInt8) : u8E (encB b) = true := by
  simp [u8E, encB, isU8]
theorem lv_safes (l : List Lv) (h : ∀ a ∈ l, safeR a.row = true) : safeE (Lv.rows l) = true := by
  induction l with
  | nil => rfl
  | cons a l ih => rw [Lv.rows, safeE, h a (by simp), ih fun x hx => h x (by simp [hx])]; rfl
mutual
theorem Lv.safe : ∀ l : Lv, safeR l.row = true
  | .mk k n l => by rw [Lv.row]; simp [safeR, isU8, safeC, safeP, Lv.safes l]
theorem Lv.safes : ∀ l : List Lv, safeE (Lv.rows l) = true
  | [] => rfl
  | a :: l => by rw [Lv.rows, safeE, Lv.safe a, Lv.safes l]; rfl
end
mutual
theorem Tm.safe : ∀ l : Tm, safeR l.row = true
  | .mk k n s l a => by rw [Tm.row]; simp [safeR, isU8, safeC, safeP, Lv.safes l, Tm.safes a]
theorem Tm.safes : ∀ l : List Tm, safeE (Tm.rows l) = true
  | [] => rfl
  | a :: l => by rw [Tm.rows, safeE, Tm.safe a, Tm.safes l]; rfl
end
theorem set_enc (b l : List UInt8) (k : Nat) (hk : k < l.length) : List.set (encB (b ++ l)) (b.length + k) (putAt (List.getD (encB (b ++ l)) (b.length + k) []) 0 [CV.v (.int .u8 229)]) = encB (b ++ l.set k 229) := by
  rw [encB_get (by rw [List.length_append]; omega)]
  show List.set (encB (b ++ l)) (b.length + k) [CV.v (.int .u8 229)] = _
  unfold encB
  rw [show ([CV.v (.int .u8 229)] : List CV) = (fun c : UInt8 => [CV.v (.int .u8 (c.toNat : Int))]) 229 from rfl, ← List.map_set]
  congr 1
  rw [List.set_append_right _ _ (by omega)]
  congr 2
  omega
/-- A row and three bytes more. -/
def twinB (b : List UInt8) : List UInt8 := b ++ [229, 229, 229]
theorem twin_w {ρ : Type} (fail : ρ) (fu : Nat) (hf : 10 ≤ fu) (K : EL → Nat → Nat → ρ) (b : List UInt8) (hb : b.length ≤ 1099511627776) : p25 fail fu K (encB b) = K (encB (twinB b)) (b.length + 3) b.length := by
  have step : ∀ (j k : Nat) (l : List UInt8), l.length = 3 → k < 3 → p25_1L fail fu K (encB b) (j + 1) (encB (b ++ l)) (b.length + 3) (b.length + 3) ((b.length + k : Nat) : Int) = p25_1L fail fu K (encB b) j (encB (b ++ l.set k 229)) (b.length + 3) (b.length + 3) ((b.length + (k + 1) : Nat) : Int) := fun j k l hl hk => by
    have hlen : (encB (b ++ l)).length = b.length + 3 := by rw [encB_length, List.length_append, hl]
    rw [p25_1L, p25_1, lssT (by omega), cond_true, gd_y (by omega), gd_y (by omega), gd_y (by omega), gd_y (by rw [hlen]; omega), gd_y (by rw [Int.toNat_natCast, encB_get (by rw [List.length_append]; omega)]; simp), addZ (by omega) (by omega), Int.toNat_natCast, set_enc b l k (by omega), show ((b.length + k : Nat) : Int) + 1 = ((b.length + (k + 1) : Nat) : Int) by omega]
  have e3 : binStd .add .i64 ((b.length : Nat) : Int) 3 = ((b.length + 3 : Nat) : Int) := by rw [addZ (by omega) (by omega)]; omega
  have hinit : (List.take (min b.length (b.length + 3)) (encB b) ++ List.drop (min b.length (b.length + 3)) (List.replicate (b.length + 3) [CV.v (.int .u8 0)])) = encB (b ++ [0, 0, 0]) := by
    rw [Nat.min_eq_left (by omega), List.take_of_length_le (by rw [encB_length]; exact Nat.le_refl _), List.drop_replicate, show b.length + 3 - b.length = 3 by omega, encB_append]; rfl
  obtain ⟨j, rfl⟩ : ∃ j, fu = j + 4 := ⟨fu - 4, by omega⟩
  rw [p25, encB_length, e3, gd_y (by omega), gd_y (by omega), gd_y (by omega), gd_y (by rw [List.length_replicate]; omega), Int.toNat_natCast, hinit]
  refine (step (j + 3) 0 [0, 0, 0] rfl (by omega)).trans ?_
  rw [step (j + 2) 1 _ rfl (by omega), step (j + 1) 2 _ rfl (by omega)]
  have hend : p25_1L fail (j + 4) K (encB b) (j + 1) (encB (b ++ (([0, 0, 0].set 0 229).set (0 + 1) 229).set 2 229)) (b.length + 3) (b.length + 3) ((b.length + (2 + 1) : Nat) : Int) = K (encB (twinB b)) (b.length + 3) b.length := by
    have hl2 : (encB (twinB b)).length = b.length + 3 := by rw [encB_length, twinB, List.length_append]; rfl
    show p25_1L fail (j + 4) K (encB b) (j + 1) (encB (twinB b)) (b.length + 3) (b.length + 3) ((b.length + (2 + 1) : Nat) : Int) = _
    rw [p25_1L, p25_1, lssF (by omega), cond_false, gd_y (by rw [hl2]; omega), encB_length, gd_y (by omega), gd_y (by left; omega), gd_y (by rw [hl2, Int.toNat_natCast]; omega), Int.toNat_natCast]
  exact hend
theorem twin_take (b : List UInt8) : List.take b.length (encB (twinB b)) = encB b := by
  rw [encB_take, twinB, List.take_left]
theorem twin_drop (b : List UInt8) : List.drop b.length (encB (twinB b)) = encB [229, 229, 229] := by
  rw [encB_drop, twinB, List.drop_left]
theorem twin_len (b : List UInt8) : (encB (twinB b)).length = b.length + 3 := by
  rw [encB_length, twinB, List.length_append]; rfl
theorem kept_w {ρ : Type} (fail : ρ) (fu : Nat) (hf : 10 ≤ fu) (K : Bool → ρ) (b : List UInt8) (hb : b.length ≤ 1099511627776) : p31 fail fu K (encB b) (encB [229, 229, 229]) (encB b) = K true := by
  have hal : encB b ++ encB [229, 229, 229] = encB (twinB b) := by rw [twinB, encB_append]
  have hlen : ((encB b).length + (encB [229, 229, 229]).length : Nat) = b.length + 3 := by rw [encB_length]; rfl
  have e3 : binStd .add .i64 ((b.length : Nat) : Int) 3 = ((b.length + 3 : Nat) : Int) := by rw [addZ (by omega) (by omega)]; omega
  have hj : List.drop (Int.toNat 0) (List.take (((b.length + 3 : Nat) : Int)).toNat (encB (twinB b))) = encB (twinB b) := by
    rw [Int.toNat_natCast, List.take_of_length_le (by rw [twin_len]; exact Nat.le_refl _)]; rfl
  have step : ∀ (j k : Nat), k < 3 → p31_1L fail fu K (encB b) (encB (twinB b)) (j + 1) ((b.length + k : Nat) : Int) = p31_1L fail fu K (encB b) (encB (twinB b)) j ((b.length + (k + 1) : Nat) : Int) := fun j k hk => by
    have hg : ∀ c : Int → ρ, rw_u8 fail (List.getD (encB (twinB b)) ((b.length + k : Nat) : Int).toNat []) c = c 229 := fun c => by
      have hlt : b.length + k < (twinB b).length := by rw [twinB, List.length_append]; show _ < _ + 3; omega
      have h9 : (twinB b)[b.length + k] = 229 := by
        have : k = 0 ∨ k = 1 ∨ k = 2 := by omega
        simp only [twinB]
        rw [List.getElem_append_right (by omega)]
        rcases this with rfl | rfl | rfl <;> simp
      rw [rw_byte fail _ _ hlt, h9]; rfl
    rw [p31_1L, p31_1, encB_length, e3, lssT (by omega), cond_true, gd_y (by omega), gd_y (by rw [twin_len]; omega), hg, neqF rfl, cond_false, addZ (by omega) (by omega), show ((b.length + k : Nat) : Int) + 1 = ((b.length + (k + 1) : Nat) : Int) by omega]
  obtain ⟨j, rfl⟩ : ∃ j, fu = j + 4 := ⟨fu - 4, by omega⟩
  rw [p31, hlen, gd_y (by omega), gd_y (by omega), gd_y (by omega), tobP_enc, tobP_enc, scmp_nrefl, cond_false, hal, hj, twin_len, encB_length, e3, lssF (by omega), p31_2, cond_false, encB_length]
  refine (step (j + 3) 0 (by omega)).trans ?_
  rw [step (j + 2) 1 (by omega), step (j + 1) 2 (by omega), p31_1L, p31_1, encB_length, e3, lssF (by omega), cond_false]
end Go.Proofs.Ythncmjlcmlmnmaa

namespace Go.Proofs.Ythncmjlcmlmnmaa
open Go V
set_option maxRecDepth 100000
set_option maxHeartbeats 4000000
def p141_1 {ρ : Type} (fail : ρ) (fu : Nat)  (K0 : Int → Int → Int → ρ)  (z3 : Int) (j7 : Int) (j8 : Bool) : ρ :=
  bif j8 then (K0 0 0 5) else (K0 j7 (binStd .add .i64 z3 1) 0)
def p141_2 {ρ : Type} (fail : ρ) (fu : Nat)  (K0 : Int → Int → Int → ρ) (rec1 : Int → Int → Int → ρ) (x0 : EL) (z1 : Int) (z2 : Int) (z3 : Int) (j4 : Bool) : ρ :=
  bif j4 then (K0 0 0 4) else (gd ((0 : Int) ≤ z3) fail (gd ((z3 : Int) < (x0.length : Nat)) fail (rw_u8 fail (List.getD x0 ((z3 : Int).toNat) []) (fun c5 => gd ((128 : Int) ≠ 0) fail (gd ((0 : Int) ≤ z3) fail (gd ((z3 : Int) < (x0.length : Nat)) fail (rw_u8 fail (List.getD x0 ((z3 : Int).toNat) []) (fun c6 => bif (cmpStd .lss c6 128) then (gd ((0 : Int) ≤ z3) fail (gd ((z3 : Int) < (x0.length : Nat)) fail (rw_u8 fail (List.getD x0 ((z3 : Int).toNat) []) (fun c9 => bif (cmpStd .eql c9 0) then (p141_1 fail fu  K0 z3 (binStd .add .u64 z1 (binStd .mul .u64 (IntKind.u64.wrap (binStd .rem .u8 c5 128)) z2)) (cmpStd .gtr z3 0)) else (p141_1 fail fu  K0 z3 (binStd .add .u64 z1 (binStd .mul .u64 (IntKind.u64.wrap (binStd .rem .u8 c5 128)) z2)) false))))) else (rec1 (binStd .add .u64 z1 (binStd .mul .u64 (IntKind.u64.wrap (binStd .rem .u8 c5 128)) z2)) (binStd .mul .u64 z2 128) (binStd .add .i64 z3 1))))))))))
def p141_3 {ρ : Type} (fail : ρ) (fu : Nat)  (K0 : Int → Int → Int → ρ) (rec1 : Int → Int → Int → ρ) (x0 : EL) (z1 : Int) (z2 : Int) (z3 : Int) : ρ :=
  bif (cmpStd .lss z3 10) then (bif (cmpStd .geq z3 ((x0.length : Nat) : Int)) then (K0 0 0 2) else (bif (cmpStd .eql z3 9) then (gd ((0 : Int) ≤ z3) fail (gd ((z3 : Int) < (x0.length : Nat)) fail (rw_u8 fail (List.getD x0 ((z3 : Int).toNat) []) (fun c10 => p141_2 fail fu  K0 rec1 x0 z1 z2 z3 (cmpStd .gtr c10 1))))) else (p141_2 fail fu  K0 rec1 x0 z1 z2 z3 false))) else (K0 0 0 4)
def p141_3L {ρ : Type} (fail : ρ) (fu : Nat)  (K0 : Int → Int → Int → ρ)  (x0 : EL) : Nat → Int → Int → Int → ρ
  | 0, _, _, _ => fail
  | n + 1, z1, z2, z3 => p141_3 fail fu  K0 (p141_3L fail fu  K0  x0 n) x0 z1 z2 z3
/-- ref1.TakeVar -/
def p141 {ρ : Type} (fail : ρ) (fu : Nat)  (K0 : Int → Int → Int → ρ) (x0 : EL) : ρ :=
  p141_3L fail fu  K0 x0 fu 0 1 0
theorem d_p141 (fu : Nat)  {K0 : Int → Int → Int → Prop} (L : EL → Nat) (hN : L = List.length) {x0 : EL} (h : p141 False fu K0 x0) : Den Try.prog G0 141 [.c (.sl 1 x0 none)] (fun r bs => (∃ (y0 : Int) (y1 : Int) (y2 : Int) (o0 : OV), (r = .tup [.c (.v (.int .u64 y0)), .c (.v (.int .i64 y1)), .c (.v (.int .i64 y2))] ∧ bs = [o0]) ∧ K0 y0 y1 y2)) := by
  obtain ⟨O, hO⟩ : ∃ O, O = std 0 T G0 (Den Try.prog G0) := ⟨_, rfl⟩
  have hLO : L = O.len := by rw [hN, hO]; rfl
  subst hLO
  refine den_h hO tiA mixed tabOk (fn := Try.f141) (sh := true) (by kernel_rfl) rfl rfl rfl rfl ?_
  intro Q hQ
  unfold p141 at h
  conv => cbv
  refine loop_of hO tiA [0, 5, 6, 7] [] [] (fun (n : Nat) tm m => ∃ (z1 : Int) (z2 : Int) (z3 : Int), ((tm = frame 0 54 [(0, .c (.sl 1 x0 none)), (5, .c (.v (.int .u64 z1))), (6, .c (.v (.int .u64 z2))), (7, .c (.v (.int .i64 z3)))] ∧ m = ⟨[], 1⟩)) ∧ p141_3L False fu  K0 x0 n z1 z2 z3) (fun n => n) fu ⟨0, 1, 0, ⟨(by (conv => lhs; cbv) <;> (subst hO; rfl)), (by (conv => lhs; cbv) <;> (subst hO; rfl))⟩, h⟩ ?_
  rintro n1 tm m L ⟨z1, z2, z3, hs, h⟩ hLn1
  cases n1 with
  | zero => rw [p141_3L] at h; exact h.elim
  | succ n1 =>
    rw [p141_3L] at h
    unfold p141_3 at h
    obtain ⟨rfl, rfl⟩ := hs
    conv => cbv
    refine br_h hO h (by subst hO; rfl) (fun hc1 h => ?_) (fun hc1 h => ?_)
    · conv => cbv
      refine join_all hO ?_
      conv => cbv
      refine br_h hO h (by subst hO; rfl) (fun hc2 h => ?_) (fun hc2 h => ?_)
      · conv => cbv
        rw [hQ]
        exact ⟨0, 0, 2, _, ⟨(by subst hO; rfl), (by subst hO; rfl)⟩, h⟩
      · conv => cbv
        refine join_all hO ?_
        conv => cbv
        refine reg_join hO tiA [0, 5, 6, 7, 24] [] [] (fun tm m => ∃ (j4 : Bool), ((tm = frame 0 54 [(0, .c (.sl 1 x0 none)), (5, .c (.v (.int .u64 z1))), (6, .c (.v (.int .u64 z2))), (7, .c (.v (.int .i64 z3))), (24, .c (.v (.bool j4)))] ∧ m = ⟨[], 1⟩)) ∧ p141_2 False fu  K0 (p141_3L False fu  K0  x0 n1) x0 z1 z2 z3 j4) (fun L hL_2 => ?_) ?_
        · conv => cbv
          refine br_h hO h (by subst hO; rfl) (fun hc7 h => ?_) (fun hc7 h => ?_)
          · conv => cbv
            refine br_t hO hc7 ?_
            conv => cbv
            refine br_t hO hc7 ?_
            conv => cbv
            refine and_h h (fun g => (by subst hO; exact g)) (fun h => ?_)
            refine and_h h (fun g => (by subst hO; exact g)) (fun h => ?_)
            obtain ⟨c10, hr, h⟩ := rw_u8_inv h
            refine elem_of hO _ (by subst hO; exact hr) ?_
            clear hr
            conv => cbv
            refine br_t hO hc7 ?_
            conv => cbv
            refine br_t hO hc7 ?_
            conv => cbv
            refine br_t hO hc7 ?_
            conv => cbv
            exact hL_2 _ _ ⟨(cmpStd .gtr c10 1), ⟨(by (conv => lhs; cbv) <;> (subst hO; rfl)), (by (conv => lhs; cbv) <;> (subst hO; rfl))⟩, h⟩
          · conv => cbv
            refine br_f hO hc7 ?_
            conv => cbv
            refine br_f hO hc7 ?_
            conv => cbv
            refine br_f hO hc7 ?_
            conv => cbv
            refine br_f hO hc7 ?_
            conv => cbv
            refine br_f hO hc7 ?_
            conv => cbv
            exact hL_2 _ _ ⟨false, ⟨(by (conv => lhs; cbv) <;> (subst hO; rfl)), (by (conv => lhs; cbv) <;> (subst hO; rfl))⟩, h⟩
        · rintro tm m ⟨j4, hs, h⟩
          unfold p141_2 at h
          obtain ⟨rfl, rfl⟩ := hs
          conv => cbv
          refine br_h hO h (by subst hO; rfl) (fun hc3 h => ?_) (fun hc3 h => ?_)
          · conv => cbv
            rw [hQ]
            exact ⟨0, 0, 4, _, ⟨(by subst hO; rfl), (by subst hO; rfl)⟩, h⟩
          · conv => cbv
            refine join_all hO ?_
            conv => cbv
            refine and_h h (fun g => (by subst hO; exact g)) (fun h => ?_)
            refine and_h h (fun g => (by subst hO; exact g)) (fun h => ?_)
            obtain ⟨c5, hr, h⟩ := rw_u8_inv h
            refine elem_of hO _ (by subst hO; exact hr) ?_
            clear hr
            conv => cbv
            refine and_h h (fun g => (by subst hO; exact g)) (fun h => ?_)
            refine and_h h (fun g => (by subst hO; exact g)) (fun h => ?_)
            refine and_h h (fun g => (by subst hO; exact g)) (fun h => ?_)
            obtain ⟨c6, hr, h⟩ := rw_u8_inv h
            refine elem_of hO _ (by subst hO; exact hr) ?_
            clear hr
            conv => cbv
            refine br_h hO h (by subst hO; rfl) (fun hc4 h => ?_) (fun hc4 h => ?_)
            · conv => cbv
              refine reg_join hO tiA [5, 7, 50] [] [] (fun tm m => ∃ (j7 : Int) (j8 : Bool), ((tm = frame 0 54 [(5, .c (.v (.int .u64 j7))), (7, .c (.v (.int .i64 z3))), (50, .c (.v (.bool j8)))] ∧ m = ⟨[], 1⟩)) ∧ p141_1 False fu  K0 z3 j7 j8) (fun L hL_1 => ?_) ?_
              · conv => cbv
                refine and_h h (fun g => (by subst hO; exact g)) (fun h => ?_)
                refine and_h h (fun g => (by subst hO; exact g)) (fun h => ?_)
                obtain ⟨c9, hr, h⟩ := rw_u8_inv h
                refine elem_of hO _ (by subst hO; exact hr) ?_
                clear hr
                conv => cbv
                refine br_h hO h (by subst hO; rfl) (fun hc6 h => ?_) (fun hc6 h => ?_)
                · conv => cbv
                  refine br_t hO hc6 ?_
                  conv => cbv
                  refine br_t hO hc6 ?_
                  conv => cbv
                  exact hL_1 _ _ ⟨binStd .add .u64 z1 (binStd .mul .u64 (IntKind.u64.wrap (binStd .rem .u8 c5 128)) z2), (cmpStd .gtr z3 0), ⟨(by (conv => lhs; cbv) <;> (subst hO; rfl)), (by (conv => lhs; cbv) <;> (subst hO; rfl))⟩, h⟩
                · conv => cbv
                  refine br_f hO hc6 ?_
                  conv => cbv
                  refine br_f hO hc6 ?_
                  conv => cbv
                  exact hL_1 _ _ ⟨binStd .add .u64 z1 (binStd .mul .u64 (IntKind.u64.wrap (binStd .rem .u8 c5 128)) z2), false, ⟨(by (conv => lhs; cbv) <;> (subst hO; rfl)), (by (conv => lhs; cbv) <;> (subst hO; rfl))⟩, h⟩
              · rintro tm m ⟨j7, j8, hs, h⟩
                unfold p141_1 at h
                obtain ⟨rfl, rfl⟩ := hs
                conv => cbv
                refine br_h hO h (by subst hO; rfl) (fun hc5 h => ?_) (fun hc5 h => ?_)
                · conv => cbv
                  rw [hQ]
                  exact ⟨0, 0, 5, _, ⟨(by subst hO; rfl), (by subst hO; rfl)⟩, h⟩
                · conv => cbv
                  refine join_all hO ?_
                  conv => cbv
                  rw [hQ]
                  exact ⟨j7, binStd .add .i64 z3 1, 0, _, ⟨(by subst hO; rfl), (by subst hO; rfl)⟩, h⟩
            · conv => cbv
              refine join_all hO ?_
              conv => cbv
              exact hLn1 n1 _ _ (Nat.lt_succ_self n1) ⟨binStd .add .u64 z1 (binStd .mul .u64 (IntKind.u64.wrap (binStd .rem .u8 c5 128)) z2), binStd .mul .u64 z2 128, binStd .add .i64 z3 1, ⟨(by (conv => lhs; cbv) <;> (subst hO; rfl)), (by (conv => lhs; cbv) <;> (subst hO; rfl))⟩, h⟩
    · conv => cbv
      rw [hQ]
      exact ⟨0, 0, 4, _, ⟨(by subst hO; rfl), (by subst hO; rfl)⟩, h⟩
end Go.Proofs.Ythncmjlcmlmnmaa

namespace Go.Proofs.Ythncmjlcmlmnmaa
open Go V
set_option maxRecDepth 100000
set_option maxHeartbeats 4000000
def p118_1 {ρ : Type} (fail : ρ) (fu : Nat)  (K0 : EL → Int → Int → ρ)  (x0 : EL) (x1 : Int) (j1 : Int) : ρ :=
  K0 x0 x1 j1
/-- (*ref6.Reader).fail -/
def p118 {ρ : Type} (fail : ρ) (fu : Nat)  (K0 : EL → Int → Int → ρ) (x0 : EL) (x1 : Int) (x2 : Int) (x3 : Int) : ρ :=
  bif (cmpStd .eql x2 0) then (p118_1 fail fu  K0 x0 x1 x3) else (p118_1 fail fu  K0 x0 x1 x2)
theorem d_p118 (fu : Nat)  {K0 : EL → Int → Int → Prop} (L : EL → Nat) (hN : L = List.length) {x0 : EL} {x1 : Int} {x2 : Int} {x3 : Int} (h : p118 False fu K0 x0 x1 x2 x3) : Den Try.prog G0 118 [.ptr [.c (.sl 1 x0 none), .c (.v (.int .i64 x1)), .c (.v (.int .i64 x2))], .c (.v (.int .i64 x3))] (fun r bs => (∃ (y0 : EL) (y1 : Int) (y2 : Int) (o1 : OV), (r = .tup [] ∧ bs = [.ptr [.c (.sl 1 y0 none), .c (.v (.int .i64 y1)), .c (.v (.int .i64 y2))], o1]) ∧ K0 y0 y1 y2)) := by
  obtain ⟨O, hO⟩ : ∃ O, O = std 1 T G0 (Den Try.prog G0) := ⟨_, rfl⟩
  have hLO : L = O.len := by rw [hN, hO]; rfl
  subst hLO
  refine den_h hO tiA mixed tabOk (fn := Try.f118) (sh := true) (by kernel_rfl) rfl rfl rfl rfl ?_
  intro Q hQ
  unfold p118 at h
  conv => cbv
  refine br_join_h hO tiA h (by subst hO; rfl) [] [0] [] (fun tm m => ∃ (j1 : Int), ((tm = frame 0 13 [] ∧ m = ⟨[(0, .blk 0 [.c (.sl 1 x0 none), .c (.v (.int .i64 x1)), .c (.v (.int .i64 j1))])], 2⟩)) ∧ p118_1 False fu  K0 x0 x1 j1) (fun hc1 h L hL_1 => ?_) (fun hc1 h L hL_1 => ?_) ?_
  · conv => cbv
    exact hL_1 _ _ ⟨x3, ⟨(by (conv => lhs; cbv) <;> (subst hO; rfl)), (by (conv => lhs; cbv) <;> (subst hO; rfl))⟩, h⟩
  · conv => cbv
    exact hL_1 _ _ ⟨x2, ⟨(by (conv => lhs; cbv) <;> (subst hO; rfl)), (by (conv => lhs; cbv) <;> (subst hO; rfl))⟩, h⟩
  · rintro tm m ⟨j1, hs, h⟩
    unfold p118_1 at h
    obtain ⟨rfl, rfl⟩ := hs
    conv => cbv
    rw [hQ]
    exact ⟨x0, x1, j1, _, ⟨(by subst hO; rfl), (by subst hO; rfl)⟩, h⟩
end Go.Proofs.Ythncmjlcmlmnmaa

namespace Go.Proofs.Ythncmjlcmlmnmaa
open Go V
set_option maxRecDepth 100000
set_option maxHeartbeats 4000000
/-- (*ref6.Reader).any -/
def p127 {ρ : Type} (fail : ρ) (fu : Nat)  (K0 : Int → EL → Int → Int → ρ) (x0 : EL) (x1 : Int) (x2 : Int) : ρ :=
  bif (cmpStd .neq x2 0) then (K0 0 x0 x1 x2) else (gd ((0 : Int) ≤ x1) fail (gd ((x1 : Int) ≤ (x0.length : Nat)) fail (gd (((x0.length : Nat) : Int) ≤ (x0.length : Nat)) fail (p141 fail fu (fun y1 y2 y3 => bif (cmpStd .neq y3 0) then (p118 fail fu (fun y4 y5 y6 => K0 0 y4 y5 y6) x0 x1 x2 y3) else (K0 y1 x0 (binStd .add .i64 x1 y2) x2)) (List.drop ((x1 : Int).toNat) (List.take (((x0.length : Nat) : Int).toNat) x0))))))
theorem d_p127 (fu : Nat)  {K0 : Int → EL → Int → Int → Prop} (L : EL → Nat) (hN : L = List.length) {x0 : EL} {x1 : Int} {x2 : Int} (h : p127 False fu K0 x0 x1 x2) : Den Try.prog G0 127 [.ptr [.c (.sl 1 x0 none), .c (.v (.int .i64 x1)), .c (.v (.int .i64 x2))]] (fun r bs => (∃ (y0 : Int) (y1 : EL) (y2 : Int) (y3 : Int), (r = .c (.v (.int .u64 y0)) ∧ bs = [.ptr [.c (.sl 1 y1 none), .c (.v (.int .i64 y2)), .c (.v (.int .i64 y3))]]) ∧ K0 y0 y1 y2 y3)) := by
  obtain ⟨O, hO⟩ : ∃ O, O = std 1 T G0 (Den Try.prog G0) := ⟨_, rfl⟩
  have hLO : L = O.len := by rw [hN, hO]; rfl
  subst hLO
  refine den_h hO tiA mixed tabOk (fn := Try.f127) (sh := true) (by kernel_rfl) rfl rfl rfl rfl ?_
  intro Q hQ
  unfold p127 at h
  conv => cbv
  refine br_h hO h (by subst hO; rfl) (fun hc1 h => ?_) (fun hc1 h => ?_)
  · conv => cbv
    rw [hQ]
    exact ⟨0, x0, x1, x2, ⟨(by subst hO; rfl), (by subst hO; rfl)⟩, h⟩
  · conv => cbv
    refine join_all hO ?_
    conv => cbv
    refine drawn_of hO tiA [[], []] [(0, true, false), (1, true, false), (2, true, false), (3, true, false), (4, true, false), (5, true, false), (6, true, false), (7, true, false), (8, true, false), (9, false, true), (10, true, true), (11, true, true), (12, true, true), (13, true, true), (14, true, true), (15, true, true), (16, true, true)] (by kernel_rfl) ?_
    conv => cbv
    refine and_h h (fun g => (by subst hO; exact g)) (fun h => ?_)
    refine and_h h (fun g => (by subst hO; exact g)) (fun h => ?_)
    refine and_h h (fun g => (by subst hO; exact g)) (fun h => ?_)
    refine call_h hO [.shut] (d_p141 fu O.len hN h) ?_
    intro os Q hos hQ
    conv => cbv
    refine ⟨(by (rw [hos]) <;> (subst hO; rfl)), ?_⟩
    intro r bs hq
    rw [hQ] at hq
    clear hos hQ h
    obtain ⟨y1, y2, y3, _, ⟨rfl, rfl⟩, h⟩ := hq
    conv => cbv
    refine join_all hO ?_
    conv => cbv
    refine br_h hO h (by subst hO; rfl) (fun hc2 h => ?_) (fun hc2 h => ?_)
    · conv => cbv
      refine call_h hO [.ref 3, .shut] (d_p118 fu O.len hN h) ?_
      intro os Q hos hQ
      conv => cbv
      refine ⟨(by (rw [hos]) <;> (subst hO; rfl)), ?_⟩
      intro r bs hq
      rw [hQ] at hq
      clear hos hQ h
      obtain ⟨y4, y5, y6, _, ⟨rfl, rfl⟩, h⟩ := hq
      conv => cbv
      rw [hQ]
      exact ⟨0, y4, y5, y6, ⟨(by subst hO; rfl), (by subst hO; rfl)⟩, h⟩
    · conv => cbv
      refine join_all hO ?_
      conv => cbv
      rw [hQ]
      exact ⟨y1, x0, binStd .add .i64 x1 y2, x2, ⟨(by subst hO; rfl), (by subst hO; rfl)⟩, h⟩
end Go.Proofs.Ythncmjlcmlmnmaa

namespace Go.Proofs.Ythncmjlcmlmnmaa
open Go V
set_option maxRecDepth 100000
set_option maxHeartbeats 4000000
/-- (*ref6.Reader).Num -/
def p96 {ρ : Type} (fail : ρ) (fu : Nat)  (K0 : Int → EL → Int → Int → ρ) (x0 : EL) (x1 : Int) (x2 : Int) : ρ :=
  p127 fail fu (fun y1 y2 y3 y4 => bif (cmpStd .gtr y1 1073741824) then (p118 fail fu (fun y5 y6 y7 => K0 0 y5 y6 y7) y2 y3 y4 4) else (K0 (IntKind.i64.wrap y1) y2 y3 y4)) x0 x1 x2
theorem d_p96 (fu : Nat)  {K0 : Int → EL → Int → Int → Prop} (L : EL → Nat) (hN : L = List.length) {x0 : EL} {x1 : Int} {x2 : Int} (h : p96 False fu K0 x0 x1 x2) : Den Try.prog G0 96 [.ptr [.c (.sl 1 x0 none), .c (.v (.int .i64 x1)), .c (.v (.int .i64 x2))]] (fun r bs => (∃ (y0 : Int) (y1 : EL) (y2 : Int) (y3 : Int), (r = .c (.v (.int .i64 y0)) ∧ bs = [.ptr [.c (.sl 1 y1 none), .c (.v (.int .i64 y2)), .c (.v (.int .i64 y3))]]) ∧ K0 y0 y1 y2 y3)) := by
  obtain ⟨O, hO⟩ : ∃ O, O = std 1 T G0 (Den Try.prog G0) := ⟨_, rfl⟩
  have hLO : L = O.len := by rw [hN, hO]; rfl
  subst hLO
  refine den_h hO tiA mixed tabOk (fn := Try.f96) (sh := true) (by kernel_rfl) rfl rfl rfl rfl ?_
  intro Q hQ
  unfold p96 at h
  conv => cbv
  refine call_h hO [.ref 3] (d_p127 fu O.len hN h) ?_
  intro os Q hos hQ
  conv => cbv
  refine ⟨(by (rw [hos]) <;> (subst hO; rfl)), ?_⟩
  intro r bs hq
  rw [hQ] at hq
  clear hos hQ h
  obtain ⟨y1, y2, y3, y4, ⟨rfl, rfl⟩, h⟩ := hq
  conv => cbv
  refine br_h hO h (by subst hO; rfl) (fun hc1 h => ?_) (fun hc1 h => ?_)
  · conv => cbv
    refine call_h hO [.ref 3, .shut] (d_p118 fu O.len hN h) ?_
    intro os Q hos hQ
    conv => cbv
    refine ⟨(by (rw [hos]) <;> (subst hO; rfl)), ?_⟩
    intro r bs hq
    rw [hQ] at hq
    clear hos hQ h
    obtain ⟨y5, y6, y7, _, ⟨rfl, rfl⟩, h⟩ := hq
    conv => cbv
    rw [hQ]
    exact ⟨0, y5, y6, y7, ⟨(by subst hO; rfl), (by subst hO; rfl)⟩, h⟩
  · conv => cbv
    refine join_all hO ?_
    conv => cbv
    rw [hQ]
    exact ⟨IntKind.i64.wrap y1, y2, y3, y4, ⟨(by subst hO; rfl), (by subst hO; rfl)⟩, h⟩
end Go.Proofs.Ythncmjlcmlmnmaa

namespace Go.Proofs.Ythncmjlcmlmnmaa
open Go V
set_option maxRecDepth 100000
set_option maxHeartbeats 4000000
def p117_1 {ρ : Type} (fail : ρ) (fu : Nat)  (K0 : Int → EL → Int → Int → ρ)  (y1 : Int) (j6 : EL) (j7 : Int) (j8 : Int) : ρ :=
  bif (cmpStd .neq j8 0) then (K0 0 j6 j7 j8) else (K0 (IntKind.i64.wrap y1) j6 j7 j8)
def p117_2 {ρ : Type} (fail : ρ) (fu : Nat)  (K0 : Int → EL → Int → Int → ρ)  (y1 : Int) (y2 : EL) (y3 : Int) (y4 : Int) (j5 : Bool) : ρ :=
  bif j5 then (p118 fail fu (fun y9 y10 y11 => p117_1 fail fu  K0 y1 y9 y10 y11) y2 y3 y4 5) else (p117_1 fail fu  K0 y1 y2 y3 y4)
/-- (*ref6.Reader).kind -/
def p117 {ρ : Type} (fail : ρ) (fu : Nat)  (K0 : Int → EL → Int → Int → ρ) (x0 : EL) (x1 : Int) (x2 : Int) (x3 : Int) (x4 : Int) : ρ :=
  p127 fail fu (fun y1 y2 y3 y4 => bif (cmpStd .eql y4 0) then (bif (cmpStd .lss y1 x3) then (p117_2 fail fu  K0 y1 y2 y3 y4 true) else (p117_2 fail fu  K0 y1 y2 y3 y4 (cmpStd .gtr y1 x4))) else (p117_2 fail fu  K0 y1 y2 y3 y4 false)) x0 x1 x2
theorem d_p117 (fu : Nat)  {K0 : Int → EL → Int → Int → Prop} (L : EL → Nat) (hN : L = List.length) {x0 : EL} {x1 : Int} {x2 : Int} {x3 : Int} {x4 : Int} (h : p117 False fu K0 x0 x1 x2 x3 x4) : Den Try.prog G0 117 [.ptr [.c (.sl 1 x0 none), .c (.v (.int .i64 x1)), .c (.v (.int .i64 x2))], .c (.v (.int .u64 x3)), .c (.v (.int .u64 x4))] (fun r bs => (∃ (y0 : Int) (y1 : EL) (y2 : Int) (y3 : Int) (o1 : OV) (o2 : OV), (r = .c (.v (.int .i64 y0)) ∧ bs = [.ptr [.c (.sl 1 y1 none), .c (.v (.int .i64 y2)), .c (.v (.int .i64 y3))], o1, o2]) ∧ K0 y0 y1 y2 y3)) := by
  obtain ⟨O, hO⟩ : ∃ O, O = std 1 T G0 (Den Try.prog G0) := ⟨_, rfl⟩
  have hLO : L = O.len := by rw [hN, hO]; rfl
  subst hLO
  refine den_h hO tiA mixed tabOk (fn := Try.f117) (sh := true) (by kernel_rfl) rfl rfl rfl rfl ?_
  intro Q hQ
  unfold p117 at h
  conv => cbv
  refine call_h hO [.ref 3] (d_p127 fu O.len hN h) ?_
  intro os Q hos hQ
  conv => cbv
  refine ⟨(by (rw [hos]) <;> (subst hO; rfl)), ?_⟩
  intro r bs hq
  rw [hQ] at hq
  clear hos hQ h
  obtain ⟨y1, y2, y3, y4, ⟨rfl, rfl⟩, h⟩ := hq
  conv => cbv
  refine reg_join hO tiA [0, 7, 24] [0] [] (fun tm m => ∃ (j5 : Bool), ((tm = frame 0 34 [(0, .p 0 0 0), (7, .c (.v (.int .u64 y1))), (24, .c (.v (.bool j5)))] ∧ m = ⟨[(0, .blk 0 [.c (.sl 1 y2 none), .c (.v (.int .i64 y3)), .c (.v (.int .i64 y4))])], 2⟩)) ∧ p117_2 False fu  K0 y1 y2 y3 y4 j5) (fun L hL_2 => ?_) ?_
  · conv => cbv
    refine br_h hO h (by subst hO; rfl) (fun hc3 h => ?_) (fun hc3 h => ?_)
    · conv => cbv
      refine br_t hO hc3 ?_
      conv => cbv
      refine br_t hO hc3 ?_
      conv => cbv
      refine br_t hO hc3 ?_
      conv => cbv
      refine br_h hO h (by subst hO; rfl) (fun hc4 h => ?_) (fun hc4 h => ?_)
      · conv => cbv
        refine br_t hO hc4 ?_
        conv => cbv
        refine br_t hO hc4 ?_
        conv => cbv
        refine br_t hO hc3 ?_
        conv => cbv
        refine br_t hO hc4 ?_
        conv => cbv
        refine br_t hO hc3 ?_
        conv => cbv
        exact hL_2 _ _ ⟨true, ⟨(by (conv => lhs; cbv) <;> (subst hO; rfl)), (by (conv => lhs; cbv) <;> (subst hO; rfl))⟩, h⟩
      · conv => cbv
        refine br_f hO hc4 ?_
        conv => cbv
        refine br_f hO hc4 ?_
        conv => cbv
        refine br_t hO hc3 ?_
        conv => cbv
        refine br_f hO hc4 ?_
        conv => cbv
        refine br_t hO hc3 ?_
        conv => cbv
        exact hL_2 _ _ ⟨(cmpStd .gtr y1 x4), ⟨(by (conv => lhs; cbv) <;> (subst hO; rfl)), (by (conv => lhs; cbv) <;> (subst hO; rfl))⟩, h⟩
    · conv => cbv
      refine br_f hO hc3 ?_
      conv => cbv
      refine br_f hO hc3 ?_
      conv => cbv
      refine br_f hO hc3 ?_
      conv => cbv
      refine br_f hO hc3 ?_
      conv => cbv
      refine br_f hO hc3 ?_
      conv => cbv
      exact hL_2 _ _ ⟨false, ⟨(by (conv => lhs; cbv) <;> (subst hO; rfl)), (by (conv => lhs; cbv) <;> (subst hO; rfl))⟩, h⟩
  · rintro tm m ⟨j5, hs, h⟩
    unfold p117_2 at h
    obtain ⟨rfl, rfl⟩ := hs
    conv => cbv
    refine br_join_h hO tiA h (by subst hO; rfl) [0, 7] [0] [] (fun tm m => ∃ (j6 : EL) (j7 : Int) (j8 : Int), ((tm = frame 0 34 [(0, .p 0 0 0), (7, .c (.v (.int .u64 y1)))] ∧ m = ⟨[(0, .blk 0 [.c (.sl 1 j6 none), .c (.v (.int .i64 j7)), .c (.v (.int .i64 j8))])], 2⟩)) ∧ p117_1 False fu  K0 y1 j6 j7 j8) (fun hc2 h L hL_1 => ?_) (fun hc2 h L hL_1 => ?_) ?_
    · conv => cbv
      refine call_h hO [.ref 3, .shut] (d_p118 fu O.len hN h) ?_
      intro os Q hos hQ
      conv => cbv
      refine ⟨(by (rw [hos]) <;> (subst hO; rfl)), ?_⟩
      intro r bs hq
      rw [hQ] at hq
      clear hos hQ h
      obtain ⟨y9, y10, y11, _, ⟨rfl, rfl⟩, h⟩ := hq
      conv => cbv
      exact hL_1 _ _ ⟨y9, y10, y11, ⟨(by (conv => lhs; cbv) <;> (subst hO; rfl)), (by (conv => lhs; cbv) <;> (subst hO; rfl))⟩, h⟩
    · conv => cbv
      exact hL_1 _ _ ⟨y2, y3, y4, ⟨(by (conv => lhs; cbv) <;> (subst hO; rfl)), (by (conv => lhs; cbv) <;> (subst hO; rfl))⟩, h⟩
    · rintro tm m ⟨j6, j7, j8, hs, h⟩
      unfold p117_1 at h
      obtain ⟨rfl, rfl⟩ := hs
      conv => cbv
      refine br_h hO h (by subst hO; rfl) (fun hc1 h => ?_) (fun hc1 h => ?_)
      · conv => cbv
        rw [hQ]
        exact ⟨0, j6, j7, j8, _, _, ⟨(by subst hO; rfl), (by subst hO; rfl)⟩, h⟩
      · conv => cbv
        refine join_all hO ?_
        conv => cbv
        rw [hQ]
        exact ⟨IntKind.i64.wrap y1, j6, j7, j8, _, _, ⟨(by subst hO; rfl), (by subst hO; rfl)⟩, h⟩
end Go.Proofs.Ythncmjlcmlmnmaa

