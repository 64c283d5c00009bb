/- Functions without memory, and that the Go functions are followed by them. Printed by gen.py. Conditions: none. -/
import Derived.Test.YthncmjlcmlmnmaaCW9
import Derived.Test.YthncmjlcmlmnmaaCW10
namespace Go.Proofs.Ythncmjlcmlmnmaa
open Go V
set_option maxRecDepth 100000
set_option maxHeartbeats 4000000
/-- codec.TakeTerm -/
def p18 {ρ : Type} (fail : ρ) (fu : Nat)  (K0 : Int → Int → ByteArray → EL → EL → Int → Int → ρ) (x0 : EL) : ρ :=
  p65 fail fu (fun y1 y2 y3 y4 y5 y6 y7 => p66 fail fu (fun y8 y9 y10 y11 => bif (cmpStd .neq y9 0) then (K0 0 0 ⟨#[]⟩ nilE nilE 0 y9) else (K0 y1 y2 y3 y4 y5 y8 0)) y6 y7 x0) x0 0
theorem d_p18 (fu : Nat)  {K0 : Int → Int → ByteArray → EL → EL → Int → Int → Prop} (L : EL → Nat) (hN : L = List.length) {x0 : EL} (h : p18 False fu K0 x0) : Den Try.prog G0 18 [.c (.sl 1 x0 none)] (fun r bs => (∃ (y0 : Int) (y1 : Int) (y2 : ByteArray) (y3 : EL) (y4 : EL) (y5 : Int) (y6 : Int) (o0 : OV), (r = .tup [.agg [.c (.v (.int .i64 y0)), .c (.v (.int .i64 y1)), .c (.v (.string y2)), .c (.sl 3 y3 none), .c (.sl 5 y4 none)], .c (.v (.int .i64 y5)), .c (.v (.int .i64 y6))] ∧ bs = [o0]) ∧ K0 y0 y1 y2 y3 y4 y5 y6)) := by
  obtain ⟨O, hO⟩ : ∃ O, O = std 0 T G0 (Den Try.prog G0) := ⟨_, rfl⟩
  have hLO : L = O.len := by rw [hN, hO]; rfl
  subst hLO
  refine den_h hO tiA mixed tabOk (fn := Try.f18) (sh := true) (by kernel_rfl) rfl rfl rfl rfl ?_
  intro Q hQ
  unfold p18 at h
  conv => cbv
  refine call_h hO [.ref 2] (d_p65 fu O.len hN h) ?_
  intro os Q hos hQ
  conv => cbv
  refine ⟨(by (rw [hos]) <;> (subst hO; rfl)), ?_⟩
  intro r bs hq
  rw [hQ] at hq
  clear hos hQ h
  obtain ⟨y1, y2, y3, y4, y5, y6, y7, ⟨rfl, rfl⟩, h⟩ := hq
  conv => cbv
  refine call_h hO [.ref 2, .shut] (d_p66 fu O.len hN h) ?_
  intro os Q hos hQ
  conv => cbv
  refine ⟨(by (rw [hos]) <;> (subst hO; rfl)), ?_⟩
  intro r bs hq
  rw [hQ] at hq
  clear hos hQ h
  obtain ⟨y8, y9, y10, y11, _, ⟨rfl, rfl⟩, h⟩ := hq
  conv => cbv
  refine br_h hO h (by subst hO; rfl) (fun hc1 h => ?_) (fun hc1 h => ?_)
  · conv => cbv
    rw [hQ]
    exact ⟨0, 0, ⟨#[]⟩, nilE, nilE, 0, y9, _, ⟨(by subst hO; rfl), (by subst hO; rfl)⟩, h⟩
  · conv => cbv
    refine join_all hO ?_
    conv => cbv
    rw [hQ]
    exact ⟨y1, y2, y3, y4, y5, y8, 0, _, ⟨(by subst hO; rfl), (by subst hO; rfl)⟩, h⟩
end Go.Proofs.Ythncmjlcmlmnmaa

namespace Go.Proofs.Ythncmjlcmlmnmaa
open Go V
set_option maxRecDepth 100000
set_option maxHeartbeats 2000000
inductive Tm where
  | mk (k n : Int) (nm : ByteArray) (ls : List Lv) (args : List Tm)
def Tm.k : Tm → Int
  | .mk k _ _ _ _ => k
def Tm.n : Tm → Int
  | .mk _ n _ _ _ => n
def Tm.nm : Tm → ByteArray
  | .mk _ _ s _ _ => s
def Tm.ls : Tm → List Lv
  | .mk _ _ _ l _ => l
def Tm.args : Tm → List Tm
  | .mk _ _ _ _ l => l
mutual
def Tm.row : Tm → List CV
  | .mk k n s l a => [.v (.int .i64 k), .v (.int .i64 n), .v (.string s), .sl 3 (Lv.rows l) none, .sl 5 (Tm.rows a) none]
def Tm.rows : List Tm → EL
  | [] => []
  | a :: l => Tm.row a :: Tm.rows l
end
theorem Tm.row_eq (t : Tm) : t.row = [.v (.int .i64 t.k), .v (.int .i64 t.n), .v (.string t.nm), .sl 3 (Lv.rows t.ls) none, .sl 5 (Tm.rows t.args) none] := by cases t; rfl
theorem Tm.rows_len : ∀ l : List Tm, (Tm.rows l).length = l.length
  | [] => rfl
  | _ :: l => by simp [Tm.rows, Tm.rows_len l]
theorem Tm.rows_get {l : List Tm} {i : Nat} (h : i < l.length) : (Tm.rows l).getD i [] = l[i].row := by
  induction l generalizing i with
  | nil => simp at h
  | cons a l ih => cases i with
    | zero => rfl
    | succ i => simpa [Tm.rows] using ih (by simpa using h)
theorem tobP_enc {ρ : Type} (fail : ρ) (s : List UInt8) (k : ByteArray → ρ) : tobP fail (encB s) k = k ⟨s.toArray⟩ := by
  unfold tobP; rw [bytesOf_encB]
/-- How many Args a term's kind has. -/
def tmN (k : Nat) : Nat := if k = 6 then 3 else 2
/-- What the reading of a term comes to. -/
abbrev TK8 (ρ : Type) := Int → Int → ByteArray → EL → EL → EL → Int → Int → ρ
section
variable {ρ : Type} (fail : ρ) (fu : Nat) (s : TK8 ρ → EL → Int → Int → Int → ρ)
end
end Go.Proofs.Ythncmjlcmlmnmaa

namespace Go.Proofs.Ythncmjlcmlmnmaa
open Go V
set_option maxRecDepth 100000
set_option maxHeartbeats 4000000
/-- codec.After -/
def p63 {ρ : Type} (fail : ρ) (fu : Nat)  (K0 : EL → ρ) (x0 : EL) : ρ :=
  gd (0 = nilE.length) fail (gd ((nilE.length + x0.length) * 1 ≤ 35184372088832) fail (K0 (nilE ++ x0)))
theorem d_p63 (fu : Nat)  {K0 : EL → Prop} (L : EL → Nat) (hN : L = List.length) {x0 : EL} (h : p63 False fu K0 x0) : Den Try.prog G0 63 [.c (.sl 1 x0 none)] (fun r bs => (∃ (y0 : EL) (o0 : OV), (r = .ptr [.arr 1 y0 none false (L y0)] ∧ bs = [o0]) ∧ K0 y0)) := by
  obtain ⟨O, hO⟩ : ∃ O, O = std 0 T G0 (Den Try.prog G0) := ⟨_, rfl⟩
  have hLO : L = O.len := by rw [hN, hO]; rfl
  subst hLO
  refine den_h hO tiA mixed tabOk (fn := Try.f63) (sh := true) (by kernel_rfl) rfl rfl rfl rfl ?_
  intro Q hQ
  unfold p63 at h
  conv => cbv
  refine and_h h (fun g => (by subst hO; exact g)) (fun h => ?_)
  refine and_h h (fun g => (by subst hO; exact g)) (fun h => ?_)
  refine ⟨(by subst hO; exact Nat.le_refl _), ?_⟩
  rw [hQ]
  exact ⟨(nilE ++ x0), _, ⟨(by subst hO; rfl), (by subst hO; rfl)⟩, h⟩
end Go.Proofs.Ythncmjlcmlmnmaa

namespace Go.Proofs.Ythncmjlcmlmnmaa
open Go V
set_option maxRecDepth 100000
set_option maxHeartbeats 4000000
/-- octet.room -/
def p120 {ρ : Type} (fail : ρ) (fu : Nat)  (K0 : EL → ρ) (x0 : EL) (x1 : Int) : ρ :=
  gd ((0 : Int) ≤ 0) fail (gd ((0 : Int) ≤ (binStd .add .i64 ((x0.length : Nat) : Int) x1)) fail (gd ((binStd .add .i64 ((x0.length : Nat) : Int) x1 : Int) * (1 : Nat) ≤ 70368744177664) fail (gd (((0 : Int).toNat) = (List.replicate ((0 : Int).toNat) [(CV.v (.int .u8 0))]).length) fail (gd (((List.replicate ((0 : Int).toNat) [(CV.v (.int .u8 0))]).length + x0.length) * 1 ≤ 35184372088832) fail (K0 ((List.replicate ((0 : Int).toNat) [(CV.v (.int .u8 0))]) ++ x0))))))
theorem d_p120 (fu : Nat)  {K0 : EL → Prop} (L : EL → Nat) (hN : L = List.length) {x0 : EL} {x1 : Int} (h : p120 False fu K0 x0 x1) : Den Try.prog G0 120 [.c (.sl 1 x0 none), .c (.v (.int .i64 x1))] (fun r bs => (∃ (y0 : EL) (o0 : OV) (o1 : OV), (r = .arr 1 y0 none false (L y0) ∧ bs = [o0, o1]) ∧ K0 y0)) := by
  obtain ⟨O, hO⟩ : ∃ O, O = std 0 T G0 (Den Try.prog G0) := ⟨_, rfl⟩
  have hLO : L = O.len := by rw [hN, hO]; rfl
  subst hLO
  refine den_h hO tiA mixed tabOk (fn := Try.f120) (sh := false) (by kernel_rfl) rfl rfl rfl rfl ?_
  intro Q hQ
  unfold p120 at h
  conv => cbv
  refine and_h h (fun g => (by subst hO; exact g)) (fun h => ?_)
  refine and_h h (fun g => (by subst hO; exact g)) (fun h => ?_)
  refine and_h h (fun g => (by subst hO; exact g)) (fun h => ?_)
  refine and_h h (fun g => (by subst hO; exact g)) (fun h => ?_)
  refine and_h h (fun g => (by subst hO; exact g)) (fun h => ?_)
  refine ⟨(by subst hO; exact Nat.le_refl _), ?_⟩
  rw [hQ]
  exact ⟨((List.replicate ((0 : Int).toNat) [(CV.v (.int .u8 0))]) ++ x0), _, _, ⟨(by subst hO; rfl), (by subst hO; rfl)⟩, h⟩
end Go.Proofs.Ythncmjlcmlmnmaa

namespace Go.Proofs.Ythncmjlcmlmnmaa
open Go V
set_option maxRecDepth 100000
set_option maxHeartbeats 4000000
def p140_1 {ρ : Type} (fail : ρ) (fu : Nat)  (K0 : EL → ρ) (rec1 : Int → EL → ρ)  (z2 : Int) (z3 : EL) : ρ :=
  bif (cmpStd .geq z2 128) then (gd (1 ≤ [[(CV.v (.int .u8 (binStd .or .u8 (IntKind.u8.wrap z2) 128)))]].length) fail (gd ((z3.length + (List.take 1 [[(CV.v (.int .u8 (binStd .or .u8 (IntKind.u8.wrap z2) 128)))]]).length) * 1 ≤ 35184372088832) fail (gd ((0 : Int) ≤ 7) fail (rec1 (binStd .shr .u64 z2 7) (z3 ++ (List.take 1 [[(CV.v (.int .u8 (binStd .or .u8 (IntKind.u8.wrap z2) 128)))]])))))) else (gd (1 ≤ [[(CV.v (.int .u8 (IntKind.u8.wrap z2)))]].length) fail (gd ((z3.length + (List.take 1 [[(CV.v (.int .u8 (IntKind.u8.wrap z2)))]]).length) * 1 ≤ 35184372088832) fail (K0 (z3 ++ (List.take 1 [[(CV.v (.int .u8 (IntKind.u8.wrap z2)))]])))))
def p140_1L {ρ : Type} (fail : ρ) (fu : Nat)  (K0 : EL → ρ)   : Nat → Int → EL → ρ
  | 0, _, _ => fail
  | n + 1, z2, z3 => p140_1 fail fu  K0 (p140_1L fail fu  K0   n)  z2 z3
/-- octet.Var -/
def p140 {ρ : Type} (fail : ρ) (fu : Nat)  (K0 : EL → ρ) (x0 : EL) (x1 : Int) : ρ :=
  p120 fail fu (fun y1 => p140_1L fail fu  K0  fu x1 y1) x0 10
theorem d_p140 (fu : Nat)  {K0 : EL → Prop} (L : EL → Nat) (hN : L = List.length) {x0 : EL} {x1 : Int} (h : p140 False fu K0 x0 x1) : Den Try.prog G0 140 [.c (.sl 1 x0 none), .c (.v (.int .u64 x1))] (fun r bs => (∃ (y0 : EL) (o0 : OV) (o1 : OV), (r = .c (.sl 1 y0 none) ∧ bs = [o0, o1]) ∧ K0 y0)) := by
  obtain ⟨O, hO⟩ : ∃ O, O = std 0 T G0 (Den Try.prog G0) := ⟨_, rfl⟩
  have hLO : L = O.len := by rw [hN, hO]; rfl
  subst hLO
  refine den_h hO tiA mixed tabOk (fn := Try.f140) (sh := true) (by kernel_rfl) rfl rfl rfl rfl ?_
  intro Q hQ
  unfold p140 at h
  conv => cbv
  refine call_h hO [.shut, .shut] (d_p120 fu O.len hN h) ?_
  intro os Q hos hQ
  conv => cbv
  refine ⟨(by (rw [hos]) <;> (subst hO; rfl)), ?_⟩
  intro r bs hq
  rw [hQ] at hq
  clear hos hQ h
  obtain ⟨y1, _, _, ⟨rfl, rfl⟩, h⟩ := hq
  conv => cbv
  refine loop_of hO tiA [1, 5] [8000] [] (fun (n : Nat) tm m => ∃ (z2 : Int) (z3 : EL), ((tm = frame 0 23 [(1, .c (.v (.int .u64 z2))), (5, .t 8000 0 (O.len z3))] ∧ m = ⟨[(8000, .arr 0 1 z3 none false)], 1⟩)) ∧ p140_1L False fu  K0  n z2 z3) (fun n => n) fu ⟨x1, y1, ⟨(by (conv => lhs; cbv) <;> (subst hO; rfl)), (by (conv => lhs; cbv) <;> (subst hO; rfl))⟩, h⟩ ?_
  rintro n1 tm m L ⟨z2, z3, hs, h⟩ hLn1
  cases n1 with
  | zero => rw [p140_1L] at h; exact h.elim
  | succ n1 =>
    rw [p140_1L] at h
    unfold p140_1 at h
    obtain ⟨rfl, rfl⟩ := hs
    conv => cbv
    refine br_h hO h (by subst hO; rfl) (fun hc1 h => ?_) (fun hc1 h => ?_)
    · conv => cbv
      refine join_all hO ?_
      conv => cbv
      refine alt_l hO ?_
      conv => cbv
      refine view_h hO h (fun g => (by subst hO; exact g)) (fun h => ?_)
      conv => cbv
      refine ⟨(by subst hO; rfl), ?_⟩
      refine and_h h (fun g => (by subst hO; exact g)) (fun h => ?_)
      refine and_h h (fun g => (by subst hO; exact g)) (fun h => ?_)
      exact hLn1 n1 _ _ (Nat.lt_succ_self n1) ⟨binStd .shr .u64 z2 7, (z3 ++ (List.take 1 [[(CV.v (.int .u8 (binStd .or .u8 (IntKind.u8.wrap z2) 128)))]])), ⟨(by (conv => lhs; cbv) <;> (subst hO; rfl)), (by (conv => lhs; cbv) <;> (subst hO; rfl))⟩, h⟩
    · conv => cbv
      refine alt_l hO ?_
      conv => cbv
      refine view_h hO h (fun g => (by subst hO; exact g)) (fun h => ?_)
      conv => cbv
      refine ⟨(by subst hO; rfl), ?_⟩
      refine and_h h (fun g => (by subst hO; exact g)) (fun h => ?_)
      refine view_full hO ?_
      conv => cbv
      rw [hQ]
      exact ⟨(z3 ++ (List.take 1 [[(CV.v (.int .u8 (IntKind.u8.wrap z2)))]])), _, _, ⟨(by subst hO; rfl), (by subst hO; rfl)⟩, h⟩
end Go.Proofs.Ythncmjlcmlmnmaa

namespace Go.Proofs.Ythncmjlcmlmnmaa
open Go V
set_option maxRecDepth 100000
set_option maxHeartbeats 4000000
/-- (*codec.Writer).Raw -/
def p119 {ρ : Type} (fail : ρ) (fu : Nat)  (K0 : EL → ρ) (x0 : EL) (x1 : Int) : ρ :=
  p140 fail fu (fun y1 => gd ((x0.length + y1.length) * 1 ≤ 35184372088832) fail (K0 (x0 ++ y1))) nilE x1
theorem d_p119 (fu : Nat)  {K0 : EL → Prop} (L : EL → Nat) (hN : L = List.length) {x0 : EL} {x1 : Int} (h : p119 False fu K0 x0 x1) : Den Try.prog G0 119 [.ptr [.arr 1 x0 none false (L x0)], .c (.v (.int .u64 x1))] (fun r bs => (∃ (y0 : EL) (o1 : OV), (r = .tup [] ∧ bs = [.ptr [.arr 1 y0 none false (L y0)], o1]) ∧ K0 y0)) := by
  obtain ⟨O, hO⟩ : ∃ O, O = std 2 T G0 (Den Try.prog G0) := ⟨_, rfl⟩
  have hLO : L = O.len := by rw [hN, hO]; rfl
  subst hLO
  refine den_h hO tiA mixed tabOk (fn := Try.f119) (sh := true) (by kernel_rfl) rfl rfl rfl rfl ?_
  intro Q hQ
  unfold p119 at h
  conv => cbv
  refine drawn_of hO tiA [[], [], [], []] [(0, true, false), (1, true, false), (2, true, false), (3, true, false), (4, true, false), (5, true, false), (6, false, false), (7, false, true), (8, true, true), (9, true, true), (10, false, true)] (by kernel_rfl) ?_
  conv => cbv
  refine call_h hO [.shut, .shut] (d_p140 fu O.len hN h) ?_
  intro os Q hos hQ
  conv => cbv
  refine ⟨(by (rw [hos]) <;> (subst hO; rfl)), ?_⟩
  intro r bs hq
  rw [hQ] at hq
  clear hos hQ h
  obtain ⟨y1, _, _, ⟨rfl, rfl⟩, h⟩ := hq
  conv => cbv
  refine ⟨agree_of hO (Nat.le_of_ble_eq_true rfl) rfl, ?_⟩
  refine ⟨(by subst hO; rfl), ?_⟩
  refine and_h h (fun g => (by subst hO; exact g)) (fun h => ?_)
  refine join_all hO ?_
  conv => cbv
  refine ⟨(by subst hO; exact Nat.le_refl _), ?_⟩
  rw [hQ]
  exact ⟨(x0 ++ y1), _, ⟨(by subst hO; rfl), (by subst hO; rfl)⟩, h⟩
end Go.Proofs.Ythncmjlcmlmnmaa

namespace Go.Proofs.Ythncmjlcmlmnmaa
open Go V
set_option maxRecDepth 100000
set_option maxHeartbeats 4000000
def p83_1 {ρ : Type} (fail : ρ) (fu : Nat)  (K0 : EL → ρ) (rec1 : EL → Int → Int → ρ) (x1 : EL) (z1 : EL) (z2 : Int) (z3 : Int) : ρ :=
  bif (cmpStd .lss z3 z2) then (gd ((0 : Int) ≤ z3) fail (gd ((z3 : Int) < (x1.length : Nat)) fail (rw_i64 fail (List.getD x1 ((z3 : Int).toNat) []) (fun c4 => p119 fail fu (fun y5 => rec1 y5 z2 (binStd .add .i64 z3 1)) z1 (IntKind.u64.wrap c4))))) else (K0 z1)
def p83_1L {ρ : Type} (fail : ρ) (fu : Nat)  (K0 : EL → ρ)  (x1 : EL) : Nat → EL → Int → Int → ρ
  | 0, _, _, _ => fail
  | n + 1, z1, z2, z3 => p83_1 fail fu  K0 (p83_1L fail fu  K0  x1 n) x1 z1 z2 z3
/-- (*codec.Writer).Num -/
def p83 {ρ : Type} (fail : ρ) (fu : Nat)  (K0 : EL → ρ) (x0 : EL) (x1 : EL) : ρ :=
  p83_1L fail fu  K0 x1 fu x0 ((x1.length : Nat) : Int) 0
theorem d_p83 (fu : Nat)  {K0 : EL → Prop} (L : EL → Nat) (hN : L = List.length) {x0 : EL} {x1 : EL} (h : p83 False fu K0 x0 x1) : Den Try.prog G0 83 [.ptr [.arr 1 x0 none false (L x0)], .c (.sl 1 x1 none)] (fun r bs => (∃ (y0 : EL) (o1 : OV), (r = .tup [] ∧ bs = [.ptr [.arr 1 y0 none false (L y0)], o1]) ∧ K0 y0)) := by
  obtain ⟨O, hO⟩ : ∃ O, O = std 2 T G0 (Den Try.prog G0) := ⟨_, rfl⟩
  have hLO : L = O.len := by rw [hN, hO]; rfl
  subst hLO
  refine den_h hO tiA mixed tabOk (fn := Try.f83) (sh := true) (by kernel_rfl) rfl rfl rfl rfl ?_
  intro Q hQ
  unfold p83 at h
  conv => cbv
  refine loop_of hO tiA [0, 6, 7, 8] [0, 1000000] [] (fun (n : Nat) tm m => ∃ (z1 : EL) (z2 : Int) (z3 : Int), ((tm = frame 0 17 [(0, .p 0 1 0), (6, .c (.sl 1 x1 none)), (7, .c (.v (.int .i64 z2))), (8, .c (.v (.int .i64 z3)))] ∧ m = ⟨[(0, .blk 1 [.t 1000000 2 (O.len z1)]), (1000000, .arr 2 1 z1 none false)], 3⟩)) ∧ p83_1L False fu  K0 x1 n z1 z2 z3) (fun n => n) fu ⟨x0, ((x1.length : Nat) : Int), 0, ⟨(by (conv => lhs; cbv) <;> (subst hO; rfl)), (by (conv => lhs; cbv) <;> (subst hO; rfl))⟩, h⟩ ?_
  rintro n1 tm m L ⟨z1, z2, z3, hs, h⟩ hLn1
  cases n1 with
  | zero => rw [p83_1L] at h; exact h.elim
  | succ n1 =>
    rw [p83_1L] at h
    unfold p83_1 at h
    obtain ⟨rfl, rfl⟩ := hs
    conv => cbv
    refine br_h hO h (by subst hO; rfl) (fun hc1 h => ?_) (fun hc1 h => ?_)
    · conv => cbv
      refine join_all hO ?_
      conv => cbv
      refine and_h h (fun g => (by subst hO; exact g)) (fun h => ?_)
      refine and_h h (fun g => (by subst hO; exact g)) (fun h => ?_)
      obtain ⟨c4, hr, h⟩ := rw_i64_inv h
      refine elem_of hO _ (by subst hO; exact hr) ?_
      clear hr
      conv => cbv
      refine call_h hO [.ref 1, .shut] (d_p119 fu O.len hN h) ?_
      intro os Q hos hQ
      conv => cbv
      refine ⟨(by subst hO; exact Nat.le_refl _), ?_⟩
      refine ⟨(by (rw [hos]) <;> (subst hO; rfl)), ?_⟩
      intro r bs hq
      rw [hQ] at hq
      clear hos hQ h
      obtain ⟨y5, _, ⟨rfl, rfl⟩, h⟩ := hq
      conv => cbv
      exact hLn1 n1 _ _ (Nat.lt_succ_self n1) ⟨y5, z2, binStd .add .i64 z3 1, ⟨(by (conv => lhs; cbv) <;> (subst hO; rfl)), (by (conv => lhs; cbv) <;> (subst hO; rfl))⟩, h⟩
    · conv => cbv
      refine ⟨(by subst hO; exact Nat.le_refl _), ?_⟩
      rw [hQ]
      exact ⟨z1, _, ⟨(by subst hO; rfl), (by subst hO; rfl)⟩, h⟩
end Go.Proofs.Ythncmjlcmlmnmaa

namespace Go.Proofs.Ythncmjlcmlmnmaa
open Go V
set_option maxRecDepth 100000
set_option maxHeartbeats 4000000
/-- (*codec.Writer).Text -/
def p87 {ρ : Type} (fail : ρ) (fu : Nat)  (K0 : EL → ρ) (x0 : EL) (x1 : EL) : ρ :=
  p119 fail fu (fun y1 => gd ((y1.length + x1.length) * 1 ≤ 35184372088832) fail (K0 (y1 ++ x1))) x0 (IntKind.u64.wrap ((x1.length : Nat) : Int))
theorem d_p87 (fu : Nat)  {K0 : EL → Prop} (L : EL → Nat) (hN : L = List.length) {x0 : EL} {x1 : EL} (h : p87 False fu K0 x0 x1) : Den Try.prog G0 87 [.ptr [.arr 1 x0 none false (L x0)], .c (.sl 1 x1 none)] (fun r bs => (∃ (y0 : EL) (o1 : OV), (r = .tup [] ∧ bs = [.ptr [.arr 1 y0 none false (L y0)], o1]) ∧ K0 y0)) := by
  obtain ⟨O, hO⟩ : ∃ O, O = std 2 T G0 (Den Try.prog G0) := ⟨_, rfl⟩
  have hLO : L = O.len := by rw [hN, hO]; rfl
  subst hLO
  refine den_h hO tiA mixed tabOk (fn := Try.f87) (sh := true) (by kernel_rfl) rfl rfl rfl rfl ?_
  intro Q hQ
  unfold p87 at h
  conv => cbv
  refine call_h hO [.ref 1, .shut] (d_p119 fu O.len hN h) ?_
  intro os Q hos hQ
  conv => cbv
  refine ⟨(by subst hO; exact Nat.le_refl _), ?_⟩
  refine ⟨(by (rw [hos]) <;> (subst hO; rfl)), ?_⟩
  intro r bs hq
  rw [hQ] at hq
  clear hos hQ h
  obtain ⟨y1, _, ⟨rfl, rfl⟩, h⟩ := hq
  conv => cbv
  refine ⟨(by subst hO; rfl), ?_⟩
  refine and_h h (fun g => (by subst hO; exact g)) (fun h => ?_)
  refine ⟨(by subst hO; exact Nat.le_refl _), ?_⟩
  rw [hQ]
  exact ⟨(y1 ++ x1), _, ⟨(by subst hO; rfl), (by subst hO; rfl)⟩, h⟩
end Go.Proofs.Ythncmjlcmlmnmaa

namespace Go.Proofs.Ythncmjlcmlmnmaa
open Go V
set_option maxRecDepth 100000
set_option maxHeartbeats 4000000
def p70_1 {ρ : Type} (fail : ρ) (fu : Nat) (s_p70 : (EL → ρ) → EL → Int → Int → EL → ρ) (K0 : EL → ρ) (rec1 : EL → Int → Int → ρ) (x3 : EL) (z3 : EL) (z4 : Int) (z5 : Int) : ρ :=
  bif (cmpStd .lss z5 z4) then (gd ((0 : Int) ≤ z5) fail (gd ((z5 : Int) < (x3.length : Nat)) fail (rw_i64_i64_l3 fail (List.getD x3 ((z5 : Int).toNat) []) (fun c6 c7 c8 => s_p70 (fun y9 => rec1 y9 z4 (binStd .add .i64 z5 1)) z3 c6 c7 c8)))) else (K0 z3)
def p70_1L {ρ : Type} (fail : ρ) (fu : Nat) (s_p70 : (EL → ρ) → EL → Int → Int → EL → ρ) (K0 : EL → ρ)  (x3 : EL) : Nat → EL → Int → Int → ρ
  | 0, _, _, _ => fail
  | n + 1, z3, z4, z5 => p70_1 fail fu s_p70 K0 (p70_1L fail fu s_p70 K0  x3 n) x3 z3 z4 z5
def p70_2 {ρ : Type} (fail : ρ) (fu : Nat) (s_p70 : (EL → ρ) → EL → Int → Int → EL → ρ) (K0 : EL → ρ)  (x3 : EL) (j2 : EL) : ρ :=
  p70_1L fail fu s_p70 K0 x3 fu j2 ((x3.length : Nat) : Int) 0
/-- (*codec.Writer).Level -/
def p70_b {ρ : Type} (fail : ρ) (fu : Nat) (s_p70 : (EL → ρ) → EL → Int → Int → EL → ρ) (K0 : EL → ρ) (x0 : EL) (x1 : Int) (x2 : Int) (x3 : EL) : ρ :=
  gd (1 ≤ [[(CV.v (.int .i64 x1))]].length) fail (p83 fail fu (fun y1 => bif (cmpStd .eql x1 4) then (gd (1 ≤ [[(CV.v (.int .i64 x2))]].length) fail (p83 fail fu (fun y10 => p70_2 fail fu s_p70 K0 x3 y10) y1 (List.take 1 [[(CV.v (.int .i64 x2))]]))) else (p70_2 fail fu s_p70 K0 x3 y1)) x0 (List.take 1 [[(CV.v (.int .i64 x1))]]))
def p70 {ρ : Type} (fail : ρ) : Nat → (EL → ρ) → EL → Int → Int → EL → ρ
  | 0, _, _, _, _, _ => fail
  | n + 1, K0, x0, x1, x2, x3 => p70_b fail n (p70 fail n) K0 x0 x1 x2 x3
def D_p70 (fu : Nat) : Prop := ∀ {K0 : EL → Prop} (L : EL → Nat) (_ : L = List.length) {x0 : EL} {x1 : Int} {x2 : Int} {x3 : EL} (_ : p70 False fu K0 x0 x1 x2 x3), Den Try.prog G0 70 [.ptr [.arr 1 x0 none false (L x0)], .agg [.c (.v (.int .i64 x1)), .c (.v (.int .i64 x2)), .c (.sl 3 x3 none)]] (fun r bs => (∃ (y0 : EL) (o1 : OV), (r = .tup [] ∧ bs = [.ptr [.arr 1 y0 none false (L y0)], o1]) ∧ K0 y0))
theorem b_p70 (fu : Nat) (ih_p70 : D_p70 fu) {K0 : EL → Prop} (L : EL → Nat) (hN : L = List.length) {x0 : EL} {x1 : Int} {x2 : Int} {x3 : EL} (h : p70_b False fu (p70 False fu) K0 x0 x1 x2 x3) : Den Try.prog G0 70 [.ptr [.arr 1 x0 none false (L x0)], .agg [.c (.v (.int .i64 x1)), .c (.v (.int .i64 x2)), .c (.sl 3 x3 none)]] (fun r bs => (∃ (y0 : EL) (o1 : OV), (r = .tup [] ∧ bs = [.ptr [.arr 1 y0 none false (L y0)], o1]) ∧ K0 y0)) := by
  obtain ⟨O, hO⟩ : ∃ O, O = std 2 T G0 (Den Try.prog G0) := ⟨_, rfl⟩
  have hLO : L = O.len := by rw [hN, hO]; rfl
  subst hLO
  refine den_h hO tiA mixed tabOk (fn := Try.f70) (sh := true) (by kernel_rfl) rfl rfl rfl rfl ?_
  intro Q hQ
  unfold p70_b at h
  conv => cbv
  obtain ⟨hc4, h⟩ := gd_inv h
  refine call_h hO [.ref 1, .shut] (d_p83 fu O.len hN h) ?_
  intro os Q hos hQ
  conv => cbv
  refine ⟨(by subst hO; exact Nat.le_refl _), ?_⟩
  refine view_of hO (by subst hO; exact hc4) ?_
  conv => cbv
  refine ⟨(by (rw [hos]) <;> (subst hO; rfl)), ?_⟩
  intro r bs hq
  rw [hQ] at hq
  clear hos hQ h
  obtain ⟨y1, _, ⟨rfl, rfl⟩, h⟩ := hq
  conv => cbv
  refine br_join_h hO tiA h (by subst hO; rfl) [0, 3] [0, 4000, 1000000] [] (fun tm m => ∃ (j2 : EL), ((tm = frame 0 30 [(0, .p 0 1 0), (3, .p 4000 2 0)] ∧ m = ⟨[(0, .blk 1 [.t 1000000 2 (O.len j2)]), (4000, .blk 2 [.c (.v (.int .i64 x1)), .c (.v (.int .i64 x2)), .c (.sl 3 x3 none)]), (1000000, .arr 2 1 j2 none false)], 3⟩)) ∧ p70_2 False fu (p70 False fu) K0 x3 j2) (fun hc2 h L hL_2 => ?_) (fun hc2 h L hL_2 => ?_) ?_
  · conv => cbv
    obtain ⟨hc3, h⟩ := gd_inv h
    refine call_h hO [.ref 1, .shut] (d_p83 fu O.len hN h) ?_
    intro os Q hos hQ
    conv => cbv
    refine ⟨(by subst hO; exact Nat.le_refl _), ?_⟩
    refine view_of hO (by subst hO; exact hc3) ?_
    conv => cbv
    refine ⟨(by (rw [hos]) <;> (subst hO; rfl)), ?_⟩
    intro r bs hq
    rw [hQ] at hq
    clear hos hQ h
    obtain ⟨y10, _, ⟨rfl, rfl⟩, h⟩ := hq
    conv => cbv
    exact hL_2 _ _ ⟨y10, ⟨(by (conv => lhs; cbv) <;> (subst hO; rfl)), (by (conv => lhs; cbv) <;> (subst hO; rfl))⟩, h⟩
  · conv => cbv
    exact hL_2 _ _ ⟨y1, ⟨(by (conv => lhs; cbv) <;> (subst hO; rfl)), (by (conv => lhs; cbv) <;> (subst hO; rfl))⟩, h⟩
  · rintro tm m ⟨j2, hs, h⟩
    unfold p70_2 at h
    obtain ⟨rfl, rfl⟩ := hs
    conv => cbv
    refine loop_of hO tiA [0, 20, 21, 22] [0, 1000000] [] (fun (n : Nat) tm m => ∃ (z3 : EL) (z4 : Int) (z5 : Int), ((tm = frame 0 30 [(0, .p 0 1 0), (20, .c (.sl 3 x3 none)), (21, .c (.v (.int .i64 z4))), (22, .c (.v (.int .i64 z5)))] ∧ m = ⟨[(0, .blk 1 [.t 1000000 2 (O.len z3)]), (1000000, .arr 2 1 z3 none false)], 3⟩)) ∧ p70_1L False fu (p70 False fu) K0 x3 n z3 z4 z5) (fun n => n) fu ⟨j2, ((x3.length : Nat) : Int), 0, ⟨(by (conv => lhs; cbv) <;> (subst hO; rfl)), (by (conv => lhs; cbv) <;> (subst hO; rfl))⟩, h⟩ ?_
    rintro n1 tm m L ⟨z3, z4, z5, hs, h⟩ hLn1
    cases n1 with
    | zero => rw [p70_1L] at h; exact h.elim
    | succ n1 =>
      rw [p70_1L] at h
      unfold p70_1 at h
      obtain ⟨rfl, rfl⟩ := hs
      conv => cbv
      refine br_h hO h (by subst hO; rfl) (fun hc1 h => ?_) (fun hc1 h => ?_)
      · conv => cbv
        refine join_all hO ?_
        conv => cbv
        refine and_h h (fun g => (by subst hO; exact g)) (fun h => ?_)
        refine and_h h (fun g => (by subst hO; exact g)) (fun h => ?_)
        obtain ⟨c6, c7, c8, hr, h⟩ := rw_i64_i64_l3_inv h
        refine elem_of hO _ (by subst hO; exact hr) ?_
        clear hr
        conv => cbv
        refine call_h hO [.ref 1, .shut] (ih_p70 O.len hN h) ?_
        intro os Q hos hQ
        conv => cbv
        refine ⟨(by subst hO; exact Nat.le_refl _), ?_⟩
        refine ⟨(by (rw [hos]) <;> (subst hO; rfl)), ?_⟩
        intro r bs hq
        rw [hQ] at hq
        clear hos hQ h
        obtain ⟨y9, _, ⟨rfl, rfl⟩, h⟩ := hq
        conv => cbv
        exact hLn1 n1 _ _ (Nat.lt_succ_self n1) ⟨y9, z4, binStd .add .i64 z5 1, ⟨(by (conv => lhs; cbv) <;> (subst hO; rfl)), (by (conv => lhs; cbv) <;> (subst hO; rfl))⟩, h⟩
      · conv => cbv
        refine ⟨(by subst hO; exact Nat.le_refl _), ?_⟩
        rw [hQ]
        exact ⟨z3, _, ⟨(by subst hO; rfl), (by subst hO; rfl)⟩, h⟩
theorem dd_p70 (fu : Nat) : D_p70 fu := by
  induction fu with
  | zero => unfold D_p70; intros; rename_i h; rw [p70] at h; exact h.elim
  | succ n ih =>
    exact (by unfold D_p70; intro K0 L hN x0 x1 x2 x3 h; exact b_p70 n ih L hN (by rw [p70] at h; exact h))
theorem d_p70 (fu : Nat) {K0 : EL → Prop} (L : EL → Nat) (hL : L = List.length) {x0 : EL} {x1 : Int} {x2 : Int} {x3 : EL} (h : p70 False fu K0 x0 x1 x2 x3) : Den Try.prog G0 70 [.ptr [.arr 1 x0 none false (L x0)], .agg [.c (.v (.int .i64 x1)), .c (.v (.int .i64 x2)), .c (.sl 3 x3 none)]] (fun r bs => (∃ (y0 : EL) (o1 : OV), (r = .tup [] ∧ bs = [.ptr [.arr 1 y0 none false (L y0)], o1]) ∧ K0 y0)) := dd_p70 fu L hL h
end Go.Proofs.Ythncmjlcmlmnmaa

namespace Go.Proofs.Ythncmjlcmlmnmaa
open Go V
set_option maxRecDepth 100000
set_option maxHeartbeats 4000000
def p64_1 {ρ : Type} (fail : ρ) (fu : Nat) (s_p64 : (EL → ρ) → EL → Int → Int → ByteArray → EL → EL → ρ) (K0 : EL → ρ) (rec2 : EL → Int → Int → ρ) (x5 : EL) (z10 : EL) (z11 : Int) (z12 : Int) : ρ :=
  bif (cmpStd .lss z12 z11) then (gd ((0 : Int) ≤ z12) fail (gd ((z12 : Int) < (x5.length : Nat)) fail (rw_i64_i64_s_l3_l5 fail (List.getD x5 ((z12 : Int).toNat) []) (fun c13 c14 c15 c16 c17 => s_p64 (fun y18 => rec2 y18 z11 (binStd .add .i64 z12 1)) z10 c13 c14 c15 c16 c17)))) else (K0 z10)
def p64_1L {ρ : Type} (fail : ρ) (fu : Nat) (s_p64 : (EL → ρ) → EL → Int → Int → ByteArray → EL → EL → ρ) (K0 : EL → ρ)  (x5 : EL) : Nat → EL → Int → Int → ρ
  | 0, _, _, _ => fail
  | n + 1, z10, z11, z12 => p64_1 fail fu s_p64 K0 (p64_1L fail fu s_p64 K0  x5 n) x5 z10 z11 z12
def p64_2 {ρ : Type} (fail : ρ) (fu : Nat) (s_p64 : (EL → ρ) → EL → Int → Int → ByteArray → EL → EL → ρ) (K0 : EL → ρ) (rec1 : EL → Int → Int → ρ) (x4 : EL) (x5 : EL) (z3 : EL) (z4 : Int) (z5 : Int) : ρ :=
  bif (cmpStd .lss z5 z4) then (gd ((0 : Int) ≤ z5) fail (gd ((z5 : Int) < (x4.length : Nat)) fail (rw_i64_i64_l3 fail (List.getD x4 ((z5 : Int).toNat) []) (fun c6 c7 c8 => p70 fail fu (fun y9 => rec1 y9 z4 (binStd .add .i64 z5 1)) z3 c6 c7 c8)))) else (p64_1L fail fu s_p64 K0 x5 fu z3 ((x5.length : Nat) : Int) 0)
def p64_2L {ρ : Type} (fail : ρ) (fu : Nat) (s_p64 : (EL → ρ) → EL → Int → Int → ByteArray → EL → EL → ρ) (K0 : EL → ρ)  (x4 : EL) (x5 : EL) : Nat → EL → Int → Int → ρ
  | 0, _, _, _ => fail
  | n + 1, z3, z4, z5 => p64_2 fail fu s_p64 K0 (p64_2L fail fu s_p64 K0  x4 x5 n) x4 x5 z3 z4 z5
def p64_3 {ρ : Type} (fail : ρ) (fu : Nat) (s_p64 : (EL → ρ) → EL → Int → Int → ByteArray → EL → EL → ρ) (K0 : EL → ρ)  (x4 : EL) (x5 : EL) (j2 : EL) : ρ :=
  p64_2L fail fu s_p64 K0 x4 x5 fu j2 ((x4.length : Nat) : Int) 0
def p64_4 {ρ : Type} (fail : ρ) (fu : Nat) (s_p64 : (EL → ρ) → EL → Int → Int → ByteArray → EL → EL → ρ) (K0 : EL → ρ)  (x4 : EL) (x5 : EL) (j20 : EL) : ρ :=
  p64_3 fail fu s_p64 K0 x4 x5 j20
/-- (*codec.Writer).Term -/
def p64_b {ρ : Type} (fail : ρ) (fu : Nat) (s_p64 : (EL → ρ) → EL → Int → Int → ByteArray → EL → EL → ρ) (K0 : EL → ρ) (x0 : EL) (x1 : Int) (x2 : Int) (x3 : ByteArray) (x4 : EL) (x5 : EL) : ρ :=
  gd (1 ≤ [[(CV.v (.int .i64 x1))]].length) fail (p83 fail fu (fun y1 => bif (cmpStd .eql x1 0) then (gd (1 ≤ [[(CV.v (.int .i64 x2))]].length) fail (p83 fail fu (fun y19 => p64_3 fail fu s_p64 K0 x4 x5 y19) y1 (List.take 1 [[(CV.v (.int .i64 x2))]]))) else (bif (cmpStd .eql x1 2) then (gd (x3.size ≤ (encB x3.data.toList).length) fail (p87 fail fu (fun y21 => gd (1 ≤ [[(CV.v (.int .i64 ((x4.length : Nat) : Int)))]].length) fail (p83 fail fu (fun y22 => p64_4 fail fu s_p64 K0 x4 x5 y22) y21 (List.take 1 [[(CV.v (.int .i64 ((x4.length : Nat) : Int)))]]))) y1 (List.take x3.size (encB x3.data.toList)))) else (p64_4 fail fu s_p64 K0 x4 x5 y1))) x0 (List.take 1 [[(CV.v (.int .i64 x1))]]))
def p64 {ρ : Type} (fail : ρ) : Nat → (EL → ρ) → EL → Int → Int → ByteArray → EL → EL → ρ
  | 0, _, _, _, _, _, _, _ => fail
  | n + 1, K0, x0, x1, x2, x3, x4, x5 => p64_b fail n (p64 fail n) K0 x0 x1 x2 x3 x4 x5
def D_p64 (fu : Nat) : Prop := ∀ {K0 : EL → Prop} (L : EL → Nat) (_ : L = List.length) {x0 : EL} {x1 : Int} {x2 : Int} {x3 : ByteArray} {x4 : EL} {x5 : EL} (_ : p64 False fu K0 x0 x1 x2 x3 x4 x5), Den Try.prog G0 64 [.ptr [.arr 1 x0 none false (L x0)], .agg [.c (.v (.int .i64 x1)), .c (.v (.int .i64 x2)), .c (.v (.string x3)), .c (.sl 3 x4 none), .c (.sl 5 x5 none)]] (fun r bs => (∃ (y0 : EL) (o1 : OV), (r = .tup [] ∧ bs = [.ptr [.arr 1 y0 none false (L y0)], o1]) ∧ K0 y0))
theorem b_p64 (fu : Nat) (ih_p64 : D_p64 fu) {K0 : EL → Prop} (L : EL → Nat) (hN : L = List.length) {x0 : EL} {x1 : Int} {x2 : Int} {x3 : ByteArray} {x4 : EL} {x5 : EL} (h : p64_b False fu (p64 False fu) K0 x0 x1 x2 x3 x4 x5) : Den Try.prog G0 64 [.ptr [.arr 1 x0 none false (L x0)], .agg [.c (.v (.int .i64 x1)), .c (.v (.int .i64 x2)), .c (.v (.string x3)), .c (.sl 3 x4 none), .c (.sl 5 x5 none)]] (fun r bs => (∃ (y0 : EL) (o1 : OV), (r = .tup [] ∧ bs = [.ptr [.arr 1 y0 none false (L y0)], o1]) ∧ K0 y0)) := by
  obtain ⟨O, hO⟩ : ∃ O, O = std 2 T G0 (Den Try.prog G0) := ⟨_, rfl⟩
  have hLO : L = O.len := by rw [hN, hO]; rfl
  subst hLO
  refine den_h hO tiA mixed tabOk (fn := Try.f64) (sh := true) (by kernel_rfl) rfl rfl rfl rfl ?_
  intro Q hQ
  unfold p64_b at h
  conv => cbv
  obtain ⟨hc8, h⟩ := gd_inv h
  refine call_h hO [.ref 1, .shut] (d_p83 fu O.len hN h) ?_
  intro os Q hos hQ
  conv => cbv
  refine ⟨(by subst hO; exact Nat.le_refl _), ?_⟩
  refine view_of hO (by subst hO; exact hc8) ?_
  conv => cbv
  refine ⟨(by (rw [hos]) <;> (subst hO; rfl)), ?_⟩
  intro r bs hq
  rw [hQ] at hq
  clear hos hQ h
  obtain ⟨y1, _, ⟨rfl, rfl⟩, h⟩ := hq
  conv => cbv
  refine br_join_h hO tiA h (by subst hO; rfl) [0, 3] [0, 4000, 1000000] [] (fun tm m => ∃ (j2 : EL), ((tm = frame 0 57 [(0, .p 0 1 0), (3, .p 4000 2 0)] ∧ m = ⟨[(0, .blk 1 [.t 1000000 2 (O.len j2)]), (4000, .blk 2 [.c (.v (.int .i64 x1)), .c (.v (.int .i64 x2)), .c (.v (.string x3)), .c (.sl 3 x4 none), .c (.sl 5 x5 none)]), (1000000, .arr 2 1 j2 none false)], 3⟩)) ∧ p64_3 False fu (p64 False fu) K0 x4 x5 j2) (fun hc3 h L hL_3 => ?_) (fun hc3 h L hL_3 => ?_) ?_
  · conv => cbv
    obtain ⟨hc4, h⟩ := gd_inv h
    refine call_h hO [.ref 1, .shut] (d_p83 fu O.len hN h) ?_
    intro os Q hos hQ
    conv => cbv
    refine ⟨(by subst hO; exact Nat.le_refl _), ?_⟩
    refine view_of hO (by subst hO; exact hc4) ?_
    conv => cbv
    refine ⟨(by (rw [hos]) <;> (subst hO; rfl)), ?_⟩
    intro r bs hq
    rw [hQ] at hq
    clear hos hQ h
    obtain ⟨y19, _, ⟨rfl, rfl⟩, h⟩ := hq
    conv => cbv
    exact hL_3 _ _ ⟨y19, ⟨(by (conv => lhs; cbv) <;> (subst hO; rfl)), (by (conv => lhs; cbv) <;> (subst hO; rfl))⟩, h⟩
  · conv => cbv
    refine br_join_h hO tiA h (by subst hO; rfl) [0, 3] [0, 4000, 1000000] [] (fun tm m => ∃ (j20 : EL), ((tm = frame 0 57 [(0, .p 0 1 0), (3, .p 4000 2 0)] ∧ m = ⟨[(0, .blk 1 [.t 1000000 2 (O.len j20)]), (4000, .blk 2 [.c (.v (.int .i64 x1)), .c (.v (.int .i64 x2)), .c (.v (.string x3)), .c (.sl 3 x4 none), .c (.sl 5 x5 none)]), (1000000, .arr 2 1 j20 none false)], 3⟩)) ∧ p64_4 False fu (p64 False fu) K0 x4 x5 j20) (fun hc5 h L hL_4 => ?_) (fun hc5 h L hL_4 => ?_) ?_
    · conv => cbv
      obtain ⟨hc7, h⟩ := gd_inv h
      refine call_h hO [.ref 1, .shut] (d_p87 fu O.len hN h) ?_
      intro os Q hos hQ
      conv => cbv
      refine ⟨(by subst hO; exact Nat.le_refl _), ?_⟩
      refine view_of hO (by subst hO; exact hc7) ?_
      conv => cbv
      refine ⟨(by (rw [hos]) <;> (subst hO; rfl)), ?_⟩
      intro r bs hq
      rw [hQ] at hq
      clear hos hQ h
      obtain ⟨y21, _, ⟨rfl, rfl⟩, h⟩ := hq
      conv => cbv
      obtain ⟨hc6, h⟩ := gd_inv h
      refine call_h hO [.ref 1, .shut] (d_p83 fu O.len hN h) ?_
      intro os Q hos hQ
      conv => cbv
      refine ⟨(by subst hO; exact Nat.le_refl _), ?_⟩
      refine view_of hO (by subst hO; exact hc6) ?_
      conv => cbv
      refine ⟨(by (rw [hos]) <;> (subst hO; rfl)), ?_⟩
      intro r bs hq
      rw [hQ] at hq
      clear hos hQ h
      obtain ⟨y22, _, ⟨rfl, rfl⟩, h⟩ := hq
      conv => cbv
      exact hL_4 _ _ ⟨y22, ⟨(by (conv => lhs; cbv) <;> (subst hO; rfl)), (by (conv => lhs; cbv) <;> (subst hO; rfl))⟩, h⟩
    · conv => cbv
      exact hL_4 _ _ ⟨y1, ⟨(by (conv => lhs; cbv) <;> (subst hO; rfl)), (by (conv => lhs; cbv) <;> (subst hO; rfl))⟩, h⟩
    · rintro tm m ⟨j20, hs, h⟩
      unfold p64_4 at h
      obtain ⟨rfl, rfl⟩ := hs
      conv => cbv
      exact hL_3 _ _ ⟨j20, ⟨(by (conv => lhs; cbv) <;> (subst hO; rfl)), (by (conv => lhs; cbv) <;> (subst hO; rfl))⟩, h⟩
  · rintro tm m ⟨j2, hs, h⟩
    unfold p64_3 at h
    obtain ⟨rfl, rfl⟩ := hs
    conv => cbv
    refine loop_of hO tiA [0, 3, 36, 37, 38] [0, 4000, 1000000] [] (fun (n : Nat) tm m => ∃ (z3 : EL) (z4 : Int) (z5 : Int), ((tm = frame 0 57 [(0, .p 0 1 0), (3, .p 4000 2 0), (36, .c (.sl 3 x4 none)), (37, .c (.v (.int .i64 z4))), (38, .c (.v (.int .i64 z5)))] ∧ m = ⟨[(0, .blk 1 [.t 1000000 2 (O.len z3)]), (4000, .blk 2 [.c (.v (.int .i64 x1)), .c (.v (.int .i64 x2)), .c (.v (.string x3)), .c (.sl 3 x4 none), .c (.sl 5 x5 none)]), (1000000, .arr 2 1 z3 none false)], 3⟩)) ∧ p64_2L False fu (p64 False fu) K0 x4 x5 n z3 z4 z5) (fun n => n) fu ⟨j2, ((x4.length : Nat) : Int), 0, ⟨(by (conv => lhs; cbv) <;> (subst hO; rfl)), (by (conv => lhs; cbv) <;> (subst hO; rfl))⟩, h⟩ ?_
    rintro n1 tm m L ⟨z3, z4, z5, hs, h⟩ hLn1
    cases n1 with
    | zero => rw [p64_2L] at h; exact h.elim
    | succ n1 =>
      rw [p64_2L] at h
      unfold p64_2 at h
      obtain ⟨rfl, rfl⟩ := hs
      conv => cbv
      refine br_h hO h (by subst hO; rfl) (fun hc1 h => ?_) (fun hc1 h => ?_)
      · conv => cbv
        refine join_all hO ?_
        conv => cbv
        refine and_h h (fun g => (by subst hO; exact g)) (fun h => ?_)
        refine and_h h (fun g => (by subst hO; exact g)) (fun h => ?_)
        obtain ⟨c6, c7, c8, hr, h⟩ := rw_i64_i64_l3_inv h
        refine elem_of hO _ (by subst hO; exact hr) ?_
        clear hr
        conv => cbv
        refine call_h hO [.ref 1, .shut] (d_p70 fu O.len hN h) ?_
        intro os Q hos hQ
        conv => cbv
        refine ⟨(by subst hO; exact Nat.le_refl _), ?_⟩
        refine ⟨(by (rw [hos]) <;> (subst hO; rfl)), ?_⟩
        intro r bs hq
        rw [hQ] at hq
        clear hos hQ h
        obtain ⟨y9, _, ⟨rfl, rfl⟩, h⟩ := hq
        conv => cbv
        exact hLn1 n1 _ _ (Nat.lt_succ_self n1) ⟨y9, z4, binStd .add .i64 z5 1, ⟨(by (conv => lhs; cbv) <;> (subst hO; rfl)), (by (conv => lhs; cbv) <;> (subst hO; rfl))⟩, h⟩
      · conv => cbv
        refine loop_of hO tiA [0, 47, 48, 49] [0, 1000000] [] (fun (n : Nat) tm m => ∃ (z10 : EL) (z11 : Int) (z12 : Int), ((tm = frame 0 57 [(0, .p 0 1 0), (47, .c (.sl 5 x5 none)), (48, .c (.v (.int .i64 z11))), (49, .c (.v (.int .i64 z12)))] ∧ m = ⟨[(0, .blk 1 [.t 1000000 2 (O.len z10)]), (1000000, .arr 2 1 z10 none false)], 3⟩)) ∧ p64_1L False fu (p64 False fu) K0 x5 n z10 z11 z12) (fun n => n) fu ⟨z3, ((x5.length : Nat) : Int), 0, ⟨(by (conv => lhs; cbv) <;> (subst hO; rfl)), (by (conv => lhs; cbv) <;> (subst hO; rfl))⟩, h⟩ ?_
        rintro n2 tm m L ⟨z10, z11, z12, hs, h⟩ hLn2
        cases n2 with
        | zero => rw [p64_1L] at h; exact h.elim
        | succ n2 =>
          rw [p64_1L] at h
          unfold p64_1 at h
          obtain ⟨rfl, rfl⟩ := hs
          conv => cbv
          refine br_h hO h (by subst hO; rfl) (fun hc2 h => ?_) (fun hc2 h => ?_)
          · conv => cbv
            refine join_all hO ?_
            conv => cbv
            refine and_h h (fun g => (by subst hO; exact g)) (fun h => ?_)
            refine and_h h (fun g => (by subst hO; exact g)) (fun h => ?_)
            obtain ⟨c13, c14, c15, c16, c17, hr, h⟩ := rw_i64_i64_s_l3_l5_inv h
            refine elem_of hO _ (by subst hO; exact hr) ?_
            clear hr
            conv => cbv
            refine call_h hO [.ref 1, .shut] (ih_p64 O.len hN h) ?_
            intro os Q hos hQ
            conv => cbv
            refine ⟨(by subst hO; exact Nat.le_refl _), ?_⟩
            refine ⟨(by (rw [hos]) <;> (subst hO; rfl)), ?_⟩
            intro r bs hq
            rw [hQ] at hq
            clear hos hQ h
            obtain ⟨y18, _, ⟨rfl, rfl⟩, h⟩ := hq
            conv => cbv
            exact hLn2 n2 _ _ (Nat.lt_succ_self n2) ⟨y18, z11, binStd .add .i64 z12 1, ⟨(by (conv => lhs; cbv) <;> (subst hO; rfl)), (by (conv => lhs; cbv) <;> (subst hO; rfl))⟩, h⟩
          · conv => cbv
            refine ⟨(by subst hO; exact Nat.le_refl _), ?_⟩
            rw [hQ]
            exact ⟨z10, _, ⟨(by subst hO; rfl), (by subst hO; rfl)⟩, h⟩
theorem dd_p64 (fu : Nat) : D_p64 fu := by
  induction fu with
  | zero => unfold D_p64; intros; rename_i h; rw [p64] at h; exact h.elim
  | succ n ih =>
    exact (by unfold D_p64; intro K0 L hN x0 x1 x2 x3 x4 x5 h; exact b_p64 n ih L hN (by rw [p64] at h; exact h))
theorem d_p64 (fu : Nat) {K0 : EL → Prop} (L : EL → Nat) (hL : L = List.length) {x0 : EL} {x1 : Int} {x2 : Int} {x3 : ByteArray} {x4 : EL} {x5 : EL} (h : p64 False fu K0 x0 x1 x2 x3 x4 x5) : Den Try.prog G0 64 [.ptr [.arr 1 x0 none false (L x0)], .agg [.c (.v (.int .i64 x1)), .c (.v (.int .i64 x2)), .c (.v (.string x3)), .c (.sl 3 x4 none), .c (.sl 5 x5 none)]] (fun r bs => (∃ (y0 : EL) (o1 : OV), (r = .tup [] ∧ bs = [.ptr [.arr 1 y0 none false (L y0)], o1]) ∧ K0 y0)) := dd_p64 fu L hL h
end Go.Proofs.Ythncmjlcmlmnmaa

namespace Go.Proofs.Ythncmjlcmlmnmaa
open Go V
set_option maxRecDepth 100000
set_option maxHeartbeats 4000000
/-- codec.Term -/
def p17 {ρ : Type} (fail : ρ) (fu : Nat)  (K0 : EL → ρ) (x0 : EL) (x1 : Int) (x2 : Int) (x3 : ByteArray) (x4 : EL) (x5 : EL) : ρ :=
  p63 fail fu (fun y1 => p64 fail fu (fun y2 => K0 y2) y1 x1 x2 x3 x4 x5) x0
theorem d_p17 (fu : Nat)  {K0 : EL → Prop} (L : EL → Nat) (hN : L = List.length) {x0 : EL} {x1 : Int} {x2 : Int} {x3 : ByteArray} {x4 : EL} {x5 : EL} (h : p17 False fu K0 x0 x1 x2 x3 x4 x5) : Den Try.prog G0 17 [.c (.sl 1 x0 none), .agg [.c (.v (.int .i64 x1)), .c (.v (.int .i64 x2)), .c (.v (.string x3)), .c (.sl 3 x4 none), .c (.sl 5 x5 none)]] (fun r bs => (∃ (y0 : EL) (o0 : OV) (o1 : OV), (r = .arr 1 y0 none false (L y0) ∧ bs = [o0, o1]) ∧ K0 y0)) := by
  obtain ⟨O, hO⟩ : ∃ O, O = std 0 T G0 (Den Try.prog G0) := ⟨_, rfl⟩
  have hLO : L = O.len := by rw [hN, hO]; rfl
  subst hLO
  refine den_h hO tiA mixed tabOk (fn := Try.f17) (sh := false) (by kernel_rfl) rfl rfl rfl rfl ?_
  intro Q hQ
  unfold p17 at h
  conv => cbv
  refine call_h hO [.shut] (d_p63 fu O.len hN h) ?_
  intro os Q hos hQ
  conv => cbv
  refine ⟨(by (rw [hos]) <;> (subst hO; rfl)), ?_⟩
  intro r bs hq
  rw [hQ] at hq
  clear hos hQ h
  obtain ⟨y1, _, ⟨rfl, rfl⟩, h⟩ := hq
  conv => cbv
  refine call_h hO [.ref 1, .shut] (d_p64 fu O.len hN h) ?_
  intro os Q hos hQ
  conv => cbv
  refine ⟨(by subst hO; exact Nat.le_refl _), ?_⟩
  refine ⟨(by (rw [hos]) <;> (subst hO; rfl)), ?_⟩
  intro r bs hq
  rw [hQ] at hq
  clear hos hQ h
  obtain ⟨y2, _, ⟨rfl, rfl⟩, h⟩ := hq
  conv => cbv
  refine ⟨(by subst hO; exact Nat.le_refl _), ?_⟩
  rw [hQ]
  exact ⟨y2, _, _, ⟨(by subst hO; rfl), (by subst hO; rfl)⟩, h⟩
end Go.Proofs.Ythncmjlcmlmnmaa

namespace Go.Proofs.Ythncmjlcmlmnmaa
open Go V
set_option maxRecDepth 100000
set_option maxHeartbeats 4000000
/-- codec.Level -/
def p26 {ρ : Type} (fail : ρ) (fu : Nat)  (K0 : EL → ρ) (x0 : EL) (x1 : Int) (x2 : Int) (x3 : EL) : ρ :=
  p63 fail fu (fun y1 => p70 fail fu (fun y2 => K0 y2) y1 x1 x2 x3) x0
theorem d_p26 (fu : Nat)  {K0 : EL → Prop} (L : EL → Nat) (hN : L = List.length) {x0 : EL} {x1 : Int} {x2 : Int} {x3 : EL} (h : p26 False fu K0 x0 x1 x2 x3) : Den Try.prog G0 26 [.c (.sl 1 x0 none), .agg [.c (.v (.int .i64 x1)), .c (.v (.int .i64 x2)), .c (.sl 3 x3 none)]] (fun r bs => (∃ (y0 : EL) (o0 : OV) (o1 : OV), (r = .arr 1 y0 none false (L y0) ∧ bs = [o0, o1]) ∧ K0 y0)) := by
  obtain ⟨O, hO⟩ : ∃ O, O = std 0 T G0 (Den Try.prog G0) := ⟨_, rfl⟩
  have hLO : L = O.len := by rw [hN, hO]; rfl
  subst hLO
  refine den_h hO tiA mixed tabOk (fn := Try.f26) (sh := false) (by kernel_rfl) rfl rfl rfl rfl ?_
  intro Q hQ
  unfold p26 at h
  conv => cbv
  refine call_h hO [.shut] (d_p63 fu O.len hN h) ?_
  intro os Q hos hQ
  conv => cbv
  refine ⟨(by (rw [hos]) <;> (subst hO; rfl)), ?_⟩
  intro r bs hq
  rw [hQ] at hq
  clear hos hQ h
  obtain ⟨y1, _, ⟨rfl, rfl⟩, h⟩ := hq
  conv => cbv
  refine call_h hO [.ref 1, .shut] (d_p70 fu O.len hN h) ?_
  intro os Q hos hQ
  conv => cbv
  refine ⟨(by subst hO; exact Nat.le_refl _), ?_⟩
  refine ⟨(by (rw [hos]) <;> (subst hO; rfl)), ?_⟩
  intro r bs hq
  rw [hQ] at hq
  clear hos hQ h
  obtain ⟨y2, _, ⟨rfl, rfl⟩, h⟩ := hq
  conv => cbv
  refine ⟨(by subst hO; exact Nat.le_refl _), ?_⟩
  rw [hQ]
  exact ⟨y2, _, _, ⟨(by subst hO; rfl), (by subst hO; rfl)⟩, h⟩
end Go.Proofs.Ythncmjlcmlmnmaa

namespace Go.Proofs.Ythncmjlcmlmnmaa
open Go V
set_option maxRecDepth 100000
set_option maxHeartbeats 2000000
theorem varB_max : ∀ (n v : Nat), v < 128 ^ (n + 1) → (varB v).length ≤ n + 1
  | 0, v, h => by rw [varB_lt (by simpa using h)]; simp
  | n + 1, v, h => by
    by_cases h1 : v < 128
    · rw [varB_lt h1]; simp
    · rw [varB_ge (by omega), List.length_cons]
      have := varB_max n (v / 128) (by rw [Nat.pow_succ] at h; exact Nat.div_lt_of_lt_mul (by rw [Nat.mul_comm]; exact h))
      omega
theorem varB_10 {v : Nat} (h : v < 2 ^ 64) : (varB v).length ≤ 10 := varB_max 9 v (Nat.lt_of_lt_of_le h (by decide))
theorem varB_step {w : Nat} (h : 128 ≤ w) : [[CV.v (.int .u8 (IntKind.u8.wrap ((w % 128 + 128 : Nat) : Int)))]] ++ encB (varB (w / 128)) = encB (varB w) := by
  rw [varB_ge h, encB_u8, ← encB_append]; rfl
theorem raw_w {ρ : Type} (fail : ρ) (fu : Nat) (hf : 10 ≤ fu) (K : EL → ρ) (z : EL) (v : Nat) (hv : v < 2 ^ 64) (hz : z.length + 10 ≤ 35184372088832) : p119 fail fu K z (v : Nat) = K (z ++ encB (varB v)) := by
  obtain ⟨m, rfl⟩ : ∃ m, fu = m + 1 := ⟨fu - 1, by omega⟩
  have hv2 : v < 128 ^ (m + 1) := Nat.lt_of_lt_of_le hv (Nat.le_trans (show 2 ^ 64 ≤ 128 ^ 10 by decide) (Nat.pow_le_pow_right (by omega) (by omega)))
  have h10 := varB_10 hv
  have hloop : ∀ (K : EL → ρ), p140_1L fail (m + 1) K (m + 1) (v : Nat) [] = K (encB (varB v)) := fun K => by
    have h9 : ∀ (j : Nat) (w : Nat) (y : EL), w < 128 ^ 10 → y.length + (varB w).length ≤ 100 → (varB w).length ≤ j → p140_1L fail (m + 1) K j (w : Nat) y = K (y ++ encB (varB w)) := by
      intro j
      induction j with
      | zero => intro w y _ _ h; have := varB_len w; omega
      | succ j ih =>
        intro w y hw hy hj
        rw [p140_1L, p140_1]
        by_cases h1 : w < 128
        · rw [geqF (by omega), cond_false, gd_y (by simp), gd_y (by simp; omega), varB_lt h1, ← encB_u8]; rfl
        · have hs : binStd .shr .u64 ((w : Nat) : Int) 7 = ((w / 128 : Nat) : Int) := by
            show ((w : Nat) : Int).fdiv (2 ^ 7) = _
            rw [fdiv_nn _ _ (by decide)]; simp
          have ho : binStd .or .u8 (IntKind.u8.wrap ((w : Nat) : Int)) 128 = IntKind.u8.wrap ((w % 128 + 128 : Nat) : Int) := by
            show IntKind.u8.wrap (bOr 8 (IntKind.u8.wrap ((w : Nat) : Int)) 128 : Nat) = _
            rw [or128]
          rw [varB_ge (by omega), List.length_cons] at hy hj
          rw [geqT (by omega), cond_true, gd_y (by simp), gd_y (by simp; omega), gd_y (by omega), hs, ho]
          have := ih (w / 128) (y ++ List.take 1 [[CV.v (.int .u8 (IntKind.u8.wrap ((w % 128 + 128 : Nat) : Int)))]]) (by omega) (by simp; omega) (by omega)
          rw [this, List.append_assoc]
          exact congrArg (fun q => K (y ++ q)) (varB_step (by omega))
    have := h9 (m + 1) v [] (Nat.lt_of_lt_of_le hv (by decide)) (by simp; omega) (by omega)
    simpa using this
  have hadd : binStd .add .i64 (((nilE : EL).length : Nat) : Int) 10 = 10 := by decide
  rw [p119, p140, p120, hadd, gd_y (by omega), gd_y (by omega), gd_y (by decide), gd_y (by decide), gd_y (by decide)]
  have e0 : List.replicate (Int.toNat 0) [CV.v (.int .u8 0)] ++ (nilE : EL) = [] := rfl
  rw [e0, hloop, gd_y (by rw [encB_length]; omega)]
/-- Numbers' bytes. -/
def numsB (l : List Int) : List UInt8 := l.flatMap fun n => varB (uv n)
theorem numsB_cons (n : Int) (l : List Int) : numsB (n :: l) = varB (uv n) ++ numsB l := by unfold numsB; rw [List.flatMap_cons]
theorem numsB_len : ∀ l : List Int, (numsB l).length ≤ 10 * l.length
  | [] => Nat.zero_le _
  | n :: l => by
    have := numsB_len l
    have h2 := varB_10 (uv_lt n)
    simp only [numsB, List.flatMap_cons, List.length_append, List.length_cons] at this ⊢
    omega
theorem num_w {ρ : Type} (fail : ρ) (fu : Nat) (K : EL → ρ) (l : List Int) (hf : l.length + 10 ≤ fu) (z : EL) (hz : z.length + 10 * l.length ≤ 35184372088832) : p83 fail fu K z (encI l) = K (z ++ encB (numsB l)) := by
  have loop : ∀ (r i n : Nat) (z : EL), i + r = l.length → r < n → z.length + 10 * r ≤ 35184372088832 → p83_1L fail fu K (encI l) n z ((l.length : Nat) : Int) ((i : Nat) : Int) = K (z ++ encB (numsB (l.drop i))) := by
    intro r
    induction r with
    | zero =>
      intro i n z hi hn hz
      obtain ⟨n, rfl⟩ : ∃ m, n = m + 1 := ⟨n - 1, by omega⟩
      rw [p83_1L, p83_1, lssF (by omega), cond_false, List.drop_eq_nil_of_le (by omega), show numsB [] = [] from rfl, encB_nil, List.append_nil]
    | succ r ih =>
      intro i n z hi hn hz
      obtain ⟨n, rfl⟩ : ∃ m, n = m + 1 := ⟨n - 1, by omega⟩
      have hlt : i < l.length := by omega
      have hr : ∀ k : Int → ρ, rw_i64 fail (List.getD (encI l) (((i : Nat) : Int)).toNat []) k = k l[i] := fun k => by rw [Int.toNat_natCast, encI_get hlt]; rfl
      have h10 := varB_10 (uv_lt l[i])
      rw [p83_1L, p83_1, lssT (by omega), cond_true, gd_y (by omega), gd_y (by rw [encI_length]; omega), hr, u64_uv, raw_w fail fu (by omega) _ z _ (uv_lt _) (by omega), addZ (by omega) (by omega), show ((i : Nat) : Int) + 1 = ((i + 1 : Nat) : Int) by omega]
      rw [ih (i + 1) n _ (by omega) (by omega) (by rw [List.length_append, encB_length]; omega), List.drop_eq_getElem_cons hlt, List.append_assoc, ← encB_append, numsB_cons]
  rw [p83, encI_length]
  have := loop l.length 0 fu z (by omega) (by omega) (by omega)
  simpa using this
theorem num_w1 {ρ : Type} (fail : ρ) (fu : Nat) (hf : 11 ≤ fu) (K : EL → ρ) (v : Int) (z : EL) (hz : z.length + 10 ≤ 35184372088832) : p83 fail fu K z (List.take 1 [[.v (.int .i64 v)]]) = K (z ++ encB (varB (uv v))) := by
  have := num_w fail fu K [v] (by simp only [List.length_singleton]; omega) z (by simp only [List.length_singleton]; omega)
  simp only [numsB, List.flatMap_cons, List.flatMap_nil, List.append_nil] at this
  exact this
/-- A text's bytes. -/
def txB (s : ByteArray) : List UInt8 := varB s.size ++ s.data.toList
theorem sz_data (s : ByteArray) : s.data.toList.length = s.size := Array.length_toList
theorem text_w {ρ : Type} (fail : ρ) (fu : Nat) (hf : 10 ≤ fu) (K : EL → ρ) (s : ByteArray) (z : EL) (hs : s.size < 1099511627776) (hz : z.length + 10 + s.size ≤ 35184372088832) : p87 fail fu K z (List.take s.size (encB s.data.toList)) = K (z ++ encB (txB s)) := by
  have ht : List.take s.size (encB s.data.toList) = encB s.data.toList := List.take_of_length_le (by rw [encB_length, sz_data]; exact Nat.le_refl _)
  have h10 := varB_10 (show s.size < 2 ^ 64 by omega)
  rw [ht, p87, encB_length, sz_data, u64_nat _ (by omega), raw_w fail fu hf _ z _ (by omega) (by omega), gd_y (by rw [List.length_append, encB_length]; omega), List.append_assoc, ← encB_append]
  rfl
mutual
def Lv.enc : Lv → List UInt8
  | .mk k n l => varB (uv k) ++ ((if k = 4 then varB (uv n) else []) ++ Lv.encs l)
def Lv.encs : List Lv → List UInt8
  | [] => []
  | a :: l => Lv.enc a ++ Lv.encs l
end
mutual
def Lv.sz : Lv → Nat
  | .mk _ _ l => 1 + Lv.szs l
def Lv.szs : List Lv → Nat
  | [] => 0
  | a :: l => 1 + Lv.sz a + Lv.szs l
end
theorem Lv.szs_len : ∀ l : List Lv, l.length ≤ Lv.szs l
  | [] => Nat.zero_le _
  | a :: l => by have := Lv.szs_len l; simp only [Lv.szs, List.length_cons]; omega
theorem lv_row {ρ : Type} (fail : ρ) (l : List Lv) (i : Nat) (h : i < l.length) (k : Int → Int → EL → ρ) : rw_i64_i64_l3 fail (List.getD (Lv.rows l) (((i : Nat) : Int)).toNat []) k = k l[i].k l[i].n (Lv.rows l[i].args) := by
  rw [Int.toNat_natCast, Lv.rows_get h, Lv.row_eq]; rfl
/-- Args that are written, one by one. -/
theorem lvw_loop {ρ : Type} (fail : ρ) (fu : Nat) (K : EL → ρ) (s : (EL → ρ) → EL → Int → Int → EL → ρ) (l : List Lv) (B : Nat) (hs : ∀ a ∈ l, ∀ (K : EL → ρ) (z : EL), z.length + a.enc.length ≤ B → s K z a.k a.n (Lv.rows a.args) = K (z ++ encB a.enc)) :
    ∀ (r i n : Nat) (z : EL), l.length < 1099511627776 → i + r = l.length → r < n → z.length + (Lv.encs (l.drop i)).length ≤ B → p70_1L fail fu s K (Lv.rows l) n z ((l.length : Nat) : Int) ((i : Nat) : Int) = K (z ++ encB (Lv.encs (l.drop i))) := by
  intro r
  induction r with
  | zero =>
    intro i n z hl hi hn hz
    obtain ⟨n, rfl⟩ : ∃ m, n = m + 1 := ⟨n - 1, by omega⟩
    rw [p70_1L, p70_1, lssF (by omega), cond_false, List.drop_eq_nil_of_le (by omega)]
    simp [Lv.encs]
  | succ r ih =>
    intro i n z hl hi hn hz
    obtain ⟨n, rfl⟩ : ∃ m, n = m + 1 := ⟨n - 1, by omega⟩
    have hlt : i < l.length := by omega
    have hd : l.drop i = l[i] :: l.drop (i + 1) := List.drop_eq_getElem_cons hlt
    rw [hd] at hz ⊢
    simp only [Lv.encs, List.length_append] at hz ⊢
    rw [p70_1L, p70_1, lssT (by omega), cond_true, gd_y (by omega), gd_y (by rw [Lv.rows_len]; omega), lv_row fail l i hlt, hs _ (List.getElem_mem hlt) _ z (by omega), addZ (by omega) (by omega), show ((i : Nat) : Int) + 1 = ((i + 1 : Nat) : Int) by omega]
    rw [ih (i + 1) n _ hl (by omega) (by omega) (by rw [List.length_append, encB_length]; omega), List.append_assoc, ← encB_append]
theorem Lv.szs_mem : ∀ {l : List Lv} {a : Lv}, a ∈ l → 1 + a.sz ≤ Lv.szs l
  | b :: l, a, h => by
    simp only [Lv.szs]
    rcases List.mem_cons.1 h with rfl | h
    · omega
    · have := Lv.szs_mem h; omega
theorem level_w {ρ : Type} (fail : ρ) : ∀ (N : Nat) (l : Lv), l.sz ≤ N → ∀ (fu : Nat) (K : EL → ρ) (z : EL), l.sz + 20 ≤ fu → l.sz < 1099511627776 → z.length + l.enc.length ≤ 35184372088000 → p70 fail fu K z l.k l.n (Lv.rows l.args) = K (z ++ encB l.enc) := by
  intro N
  induction N with
  | zero => intro l h; cases l; simp [Lv.sz] at h
  | succ N ih =>
    intro l hN fu K z hf hsz hz
    obtain ⟨k, n, l⟩ := l
    obtain ⟨m, rfl⟩ : ∃ m, fu = m + 1 := ⟨fu - 1, by omega⟩
    simp only [Lv.sz, Lv.enc, List.length_append] at hN hf hsz hz
    simp only [Lv.k, Lv.n, Lv.args, Lv.enc]
    have hl := Lv.szs_len l
    rw [p70, p70_b]
    generalize hs : p70 fail m = s
    have h10 := varB_10 (uv_lt k)
    have h11 := varB_10 (uv_lt n)
    have loop : ∀ y : EL, y.length + (Lv.encs l).length ≤ 35184372088000 → p70_2 fail m s K (Lv.rows l) y = K (y ++ encB (Lv.encs l)) := fun y hy => by
      rw [p70_2, Lv.rows_len]
      have := lvw_loop fail m K s l 35184372088000 (fun a ha K z hz => by
        have h3 := Lv.szs_mem ha
        rw [← hs]; exact ih a (by omega) m K z (by omega) (by omega) hz) l.length 0 m y (by omega) (by omega) (by omega) (by simpa using hy)
      simpa using this
    rw [gd_y (by simp), num_w1 fail m (by omega) _ k z (by omega)]
    by_cases h4 : k = 4
    · rw [if_pos h4] at hz ⊢
      rw [eqlT h4, cond_true, gd_y (by simp), num_w1 fail m (by omega) _ n _ (by rw [List.length_append, encB_length]; omega), loop _ (by simp only [List.length_append, encB_length]; omega)]
      simp [List.append_assoc]
    · rw [if_neg h4] at hz ⊢
      rw [eqlF h4, cond_false, loop _ (by simp only [List.length_append, encB_length]; simp at hz; omega)]
      simp [List.append_assoc]
mutual
def Tm.enc : Tm → List UInt8
  | .mk k n s l a => varB (uv k) ++ ((if k = 0 then varB (uv n) else if k = 2 then txB s ++ varB l.length else []) ++ (Lv.encs l ++ Tm.encs a))
def Tm.encs : List Tm → List UInt8
  | [] => []
  | a :: l => Tm.enc a ++ Tm.encs l
end
mutual
def Tm.sz : Tm → Nat
  | .mk _ _ s l a => 1 + s.size + Lv.szs l + Tm.szs a
def Tm.szs : List Tm → Nat
  | [] => 0
  | a :: l => 1 + Tm.sz a + Tm.szs l
end
theorem Tm.szs_len : ∀ l : List Tm, l.length ≤ Tm.szs l
  | [] => Nat.zero_le _
  | a :: l => by have := Tm.szs_len l; simp only [Tm.szs, List.length_cons]; omega
theorem Tm.szs_mem : ∀ {l : List Tm} {a : Tm}, a ∈ l → 1 + a.sz ≤ Tm.szs l
  | b :: l, a, h => by
    simp only [Tm.szs]
    rcases List.mem_cons.1 h with rfl | h
    · omega
    · have := Tm.szs_mem h; omega
theorem tm_row {ρ : Type} (fail : ρ) (l : List Tm) (i : Nat) (h : i < l.length) (k : Int → Int → ByteArray → EL → EL → ρ) : rw_i64_i64_s_l3_l5 fail (List.getD (Tm.rows l) (((i : Nat) : Int)).toNat []) k = k l[i].k l[i].n l[i].nm (Lv.rows l[i].ls) (Tm.rows l[i].args) := by
  rw [Int.toNat_natCast, Tm.rows_get h, Tm.row_eq]; rfl
theorem tmw_loop {ρ : Type} (fail : ρ) (fu : Nat) (K : EL → ρ) (s : (EL → ρ) → EL → Int → Int → ByteArray → EL → EL → ρ) (l : List Tm) (B : Nat) (hs : ∀ a ∈ l, ∀ (K : EL → ρ) (z : EL), z.length + a.enc.length ≤ B → s K z a.k a.n a.nm (Lv.rows a.ls) (Tm.rows a.args) = K (z ++ encB a.enc)) :
    ∀ (r i n : Nat) (z : EL), l.length < 1099511627776 → i + r = l.length → r < n → z.length + (Tm.encs (l.drop i)).length ≤ B → p64_1L fail fu s K (Tm.rows l) n z ((l.length : Nat) : Int) ((i : Nat) : Int) = K (z ++ encB (Tm.encs (l.drop i))) := by
  intro r
  induction r with
  | zero =>
    intro i n z hl hi hn hz
    obtain ⟨n, rfl⟩ : ∃ m, n = m + 1 := ⟨n - 1, by omega⟩
    rw [p64_1L, p64_1, lssF (by omega), cond_false, List.drop_eq_nil_of_le (by omega)]
    simp [Tm.encs]
  | succ r ih =>
    intro i n z hl hi hn hz
    obtain ⟨n, rfl⟩ : ∃ m, n = m + 1 := ⟨n - 1, by omega⟩
    have hlt : i < l.length := by omega
    have hd : l.drop i = l[i] :: l.drop (i + 1) := List.drop_eq_getElem_cons hlt
    rw [hd] at hz ⊢
    simp only [Tm.encs, List.length_append] at hz ⊢
    rw [p64_1L, p64_1, lssT (by omega), cond_true, gd_y (by omega), gd_y (by rw [Tm.rows_len]; omega), tm_row fail l i hlt, hs _ (List.getElem_mem hlt) _ z (by omega), addZ (by omega) (by omega), show ((i : Nat) : Int) + 1 = ((i + 1 : Nat) : Int) by omega]
    rw [ih (i + 1) n _ hl (by omega) (by omega) (by rw [List.length_append, encB_length]; omega), List.append_assoc, ← encB_append]
theorem tmw_levels {ρ : Type} (fail : ρ) (fu : Nat) (K : EL → ρ) (s : (EL → ρ) → EL → Int → Int → ByteArray → EL → EL → ρ) (l : List Lv) (A : EL) (hfu : Lv.szs l + 20 ≤ fu) (hsz : Lv.szs l < 1099511627776) :
    ∀ (r i n : Nat) (z : EL), i + r = l.length → r < n → z.length + (Lv.encs (l.drop i)).length ≤ 35184372088000 → p64_2L fail fu s K (Lv.rows l) A n z ((l.length : Nat) : Int) ((i : Nat) : Int) = p64_1L fail fu s K A fu (z ++ encB (Lv.encs (l.drop i))) ((A.length : Nat) : Int) 0 := by
  have hl := Lv.szs_len l
  intro r
  induction r with
  | zero =>
    intro i n z hi hn hz
    obtain ⟨n, rfl⟩ : ∃ m, n = m + 1 := ⟨n - 1, by omega⟩
    rw [p64_2L, p64_2, lssF (by omega), cond_false, List.drop_eq_nil_of_le (by omega)]
    simp [Lv.encs]
  | succ r ih =>
    intro i n z hi hn hz
    obtain ⟨n, rfl⟩ : ∃ m, n = m + 1 := ⟨n - 1, by omega⟩
    have hlt : i < l.length := by omega
    have hm := Lv.szs_mem (List.getElem_mem hlt)
    have hd : l.drop i = l[i] :: l.drop (i + 1) := List.drop_eq_getElem_cons hlt
    rw [hd] at hz ⊢
    simp only [Lv.encs, List.length_append] at hz ⊢
    rw [p64_2L, p64_2, lssT (by omega), cond_true, gd_y (by omega), gd_y (by rw [Lv.rows_len]; omega), lv_row fail l i hlt, level_w fail _ l[i] (Nat.le_refl _) fu _ z (by omega) (by omega) (by omega), addZ (by omega) (by omega), show ((i : Nat) : Int) + 1 = ((i + 1 : Nat) : Int) by omega]
    rw [ih (i + 1) n _ (by omega) (by omega) (by rw [List.length_append, encB_length]; omega), List.append_assoc, ← encB_append]
theorem term_w {ρ : Type} (fail : ρ) : ∀ (N : Nat) (l : Tm), l.sz ≤ N → ∀ (fu : Nat) (K : EL → ρ) (z : EL), l.sz + 30 ≤ fu → l.sz < 1099511627776 → z.length + l.enc.length ≤ 35184372087000 → p64 fail fu K z l.k l.n l.nm (Lv.rows l.ls) (Tm.rows l.args) = K (z ++ encB l.enc) := by
  intro N
  induction N with
  | zero => intro l h; cases l; simp [Tm.sz] at h
  | succ N ih =>
    intro t hN fu K z hf hsz hz
    obtain ⟨k, n, sn, l, a⟩ := t
    obtain ⟨m, rfl⟩ : ∃ m, fu = m + 1 := ⟨fu - 1, by omega⟩
    simp only [Tm.sz, Tm.enc, List.length_append] at hN hf hsz hz
    simp only [Tm.k, Tm.n, Tm.nm, Tm.ls, Tm.args, Tm.enc]
    have hl := Lv.szs_len l
    have ha := Tm.szs_len a
    rw [p64, p64_b]
    generalize hs : p64 fail m = s
    have h10 := varB_10 (uv_lt k)
    have h11 := varB_10 (uv_lt n)
    have h12 := varB_10 (show l.length < 2 ^ 64 by omega)
    have loop : ∀ y : EL, y.length + (Lv.encs l).length + (Tm.encs a).length ≤ 35184372087000 → p64_3 fail m s K (Lv.rows l) (Tm.rows a) y = K (y ++ encB (Lv.encs l ++ Tm.encs a)) := fun y hy => by
      rw [p64_3, Lv.rows_len]
      have h1 := tmw_levels fail m K s l (Tm.rows a) (by omega) (by omega) l.length 0 m y (by omega) (by omega) (by simp; omega)
      rw [show ((0 : Nat) : Int) = 0 from rfl] at h1
      rw [h1, Tm.rows_len]
      have := tmw_loop fail m K s a 35184372087000 (fun b hb K z hz => by
        have h3 := Tm.szs_mem hb
        rw [← hs]; exact ih b (by omega) m K z (by omega) (by omega) hz) a.length 0 m (y ++ encB (Lv.encs l)) (by omega) (by omega) (by omega) (by simp; omega)
      rw [List.drop_zero] at this
      rw [List.drop_zero, encB_append, ← List.append_assoc]
      exact this
    rw [gd_y (by simp), num_w1 fail m (by omega) _ k z (by omega)]
    by_cases h0 : k = 0
    · rw [if_pos h0] at hz ⊢
      rw [eqlT h0, cond_true, gd_y (by simp), num_w1 fail m (by omega) _ n _ (by rw [List.length_append, encB_length]; omega), loop _ (by simp only [List.length_append, encB_length]; omega)]
      simp [List.append_assoc]
    · rw [if_neg h0] at hz ⊢
      rw [eqlF h0, cond_false]
      by_cases h2 : k = 2
      · rw [if_pos h2] at hz ⊢
        simp only [txB, List.length_append, sz_data] at hz
        have hg : uv ((l.length : Nat) : Int) = l.length := uv_nat _ (by omega)
        rw [eqlT h2, cond_true, gd_y (by rw [encB_length, sz_data]; exact Nat.le_refl _), text_w fail m (by omega) _ sn _ (by omega) (by rw [List.length_append, encB_length]; omega), gd_y (by simp), Lv.rows_len, num_w1 fail m (by omega) _ _ _ (by simp only [txB, List.length_append, encB_length, sz_data]; omega), hg, p64_4,
          loop _ (by simp only [txB, List.length_append, encB_length, sz_data]; omega)]
        simp [List.append_assoc]
      · rw [if_neg h2] at hz ⊢
        rw [eqlF h2, cond_false, p64_4, loop _ (by simp only [List.length_append, encB_length]; simp at hz; omega)]
        simp [List.append_assoc]
end Go.Proofs.Ythncmjlcmlmnmaa

namespace Go.Proofs.Ythncmjlcmlmnmaa
open Go V
set_option maxRecDepth 100000
set_option maxHeartbeats 2000000
theorem gsz {ρ : Type} (s : ByteArray) (f k : ρ) : gd (s.size ≤ (encB s.data.toList).length) f k = k := gd_y (by rw [encB_length, sz_data]; exact Nat.le_refl _)
def tm0 : Tm := .mk 0 0 ⟨#[]⟩ [] []
end Go.Proofs.Ythncmjlcmlmnmaa

namespace Go.Proofs.Ythncmjlcmlmnmaa
open Go V
set_option maxRecDepth 100000
set_option maxHeartbeats 4000000
def p125_1 {ρ : Type} (fail : ρ) (fu : Nat)  (K0 : Int → Int → ρ) (rec1 : Int → EL → Int → Int → ρ)  (z1 : Int) (z2 : EL) (z3 : Int) (z4 : Int) : ρ :=
  bif (cmpStd .lss z4 z3) then (gd ((0 : Int) ≤ z4) fail (gd ((z4 : Int) < (z2.length : Nat)) fail (rw_u8 fail (List.getD z2 ((z4 : Int).toNat) []) (fun c5 => gd ((0 : Int) ≤ 8) fail (rec1 (binStd .or .u64 (binStd .shl .u64 z1 8) (IntKind.u64.wrap c5)) z2 z3 (binStd .add .i64 z4 1)))))) else (K0 z1 0)
def p125_1L {ρ : Type} (fail : ρ) (fu : Nat)  (K0 : Int → Int → ρ)   : Nat → Int → EL → Int → Int → ρ
  | 0, _, _, _, _ => fail
  | n + 1, z1, z2, z3, z4 => p125_1 fail fu  K0 (p125_1L fail fu  K0   n)  z1 z2 z3 z4
/-- octet.TakeEight -/
def p125 {ρ : Type} (fail : ρ) (fu : Nat)  (K0 : Int → Int → ρ) (x0 : EL) : ρ :=
  bif (cmpStd .lss ((x0.length : Nat) : Int) 8) then (K0 0 2) else (gd ((0 : Int) ≤ 0) fail (gd ((0 : Int) ≤ 8) fail (gd ((8 : Int) ≤ (x0.length : Nat)) fail (p125_1L fail fu  K0  fu 0 (List.drop ((0 : Int).toNat) (List.take ((8 : Int).toNat) x0)) (((List.drop ((0 : Int).toNat) (List.take ((8 : Int).toNat) x0)).length : Nat) : Int) 0))))
end Go.Proofs.Ythncmjlcmlmnmaa

namespace Go.Proofs.Ythncmjlcmlmnmaa
open Go V
set_option maxRecDepth 100000
set_option maxHeartbeats 4000000
/-- (*reply.reader).eight -/
def p92 {ρ : Type} (fail : ρ) (fu : Nat)  (K0 : Int → EL → Int → ρ) (x0 : EL) (x1 : Int) : ρ :=
  bif (cmpStd .neq x1 0) then (K0 0 x0 x1) else (p125 fail fu (fun y1 y2 => p94 fail fu (fun y3 y4 => bif (cmpStd .neq y2 0) then (K0 0 y3 y4) else (gd ((0 : Int) ≤ 8) fail (gd ((8 : Int) ≤ (y3.length : Nat)) fail (gd (((y3.length : Nat) : Int) ≤ (y3.length : Nat)) fail (K0 y1 (List.drop ((8 : Int).toNat) (List.take (((y3.length : Nat) : Int).toNat) y3)) y4))))) x0 x1 y2) x0)
end Go.Proofs.Ythncmjlcmlmnmaa

namespace Go.Proofs.Ythncmjlcmlmnmaa
open Go V
set_option maxRecDepth 100000
set_option maxHeartbeats 4000000
def p122b_1 {ρ : Type} (fail : ρ) (fu : Nat) (s_p122b : (Bool → ρ) → Int → Int → EL → Int → Int → EL → ρ) (s_p121 : (Bool → ρ) → EL → EL → ρ) (K0 : Bool → ρ)   (j1 : Bool) : ρ :=
  K0 j1
/-- level.Equal -/
def p122b_b {ρ : Type} (fail : ρ) (fu : Nat) (s_p122b : (Bool → ρ) → Int → Int → EL → Int → Int → EL → ρ) (s_p121 : (Bool → ρ) → EL → EL → ρ) (K0 : Bool → ρ) (x0 : Int) (x1 : Int) (x2 : EL) (x3 : Int) (x4 : Int) (x5 : EL) : ρ :=
  bif (cmpStd .eql x0 x3) then (bif (cmpStd .eql x1 x4) then (s_p121 (fun y2 => p122b_1 fail fu s_p122b s_p121 K0  y2) x2 x5) else (p122b_1 fail fu s_p122b s_p121 K0  false)) else (p122b_1 fail fu s_p122b s_p121 K0  false)
def p121_1 {ρ : Type} (fail : ρ) (fu : Nat) (s_p122b : (Bool → ρ) → Int → Int → EL → Int → Int → EL → ρ) (s_p121 : (Bool → ρ) → EL → EL → ρ) (K0 : Bool → ρ) (rec1 : Int → Int → ρ) (x0 : EL) (x1 : EL) (z1 : Int) (z2 : Int) : ρ :=
  bif (cmpStd .lss z2 z1) then (gd ((0 : Int) ≤ z2) fail (gd ((z2 : Int) < (x0.length : Nat)) fail (rw_i64_i64_l3 fail (List.getD x0 ((z2 : Int).toNat) []) (fun c3 c4 c5 => gd ((0 : Int) ≤ z2) fail (gd ((z2 : Int) < (x1.length : Nat)) fail (rw_i64_i64_l3 fail (List.getD x1 ((z2 : Int).toNat) []) (fun c6 c7 c8 => s_p122b (fun y9 => bif (!y9) then (K0 false) else (rec1 z1 (binStd .add .i64 z2 1))) c3 c4 c5 c6 c7 c8))))))) else (K0 true)
def p121_1L {ρ : Type} (fail : ρ) (fu : Nat) (s_p122b : (Bool → ρ) → Int → Int → EL → Int → Int → EL → ρ) (s_p121 : (Bool → ρ) → EL → EL → ρ) (K0 : Bool → ρ)  (x0 : EL) (x1 : EL) : Nat → Int → Int → ρ
  | 0, _, _ => fail
  | n + 1, z1, z2 => p121_1 fail fu s_p122b s_p121 K0 (p121_1L fail fu s_p122b s_p121 K0  x0 x1 n) x0 x1 z1 z2
/-- slices.EqualFunc[[]api.Level,[]api.Level,api.Level,api.Level] -/
def p121_b {ρ : Type} (fail : ρ) (fu : Nat) (s_p122b : (Bool → ρ) → Int → Int → EL → Int → Int → EL → ρ) (s_p121 : (Bool → ρ) → EL → EL → ρ) (K0 : Bool → ρ) (x0 : EL) (x1 : EL) : ρ :=
  bif (cmpStd .neq ((x0.length : Nat) : Int) ((x1.length : Nat) : Int)) then (K0 false) else (p121_1L fail fu s_p122b s_p121 K0 x0 x1 fu ((x0.length : Nat) : Int) 0)
mutual
def p122b {ρ : Type} (fail : ρ) : Nat → (Bool → ρ) → Int → Int → EL → Int → Int → EL → ρ
  | 0, _, _, _, _, _, _, _ => fail
  | n + 1, K0, x0, x1, x2, x3, x4, x5 => p122b_b fail n (p122b fail n) (p121 fail n) K0 x0 x1 x2 x3 x4 x5
def p121 {ρ : Type} (fail : ρ) : Nat → (Bool → ρ) → EL → EL → ρ
  | 0, _, _, _ => fail
  | n + 1, K0, x0, x1 => p121_b fail n (p122b fail n) (p121 fail n) K0 x0 x1
end
end Go.Proofs.Ythncmjlcmlmnmaa

namespace Go.Proofs.Ythncmjlcmlmnmaa
open Go V
set_option maxRecDepth 100000
set_option maxHeartbeats 4000000
def p123b_1 {ρ : Type} (fail : ρ) (fu : Nat) (s_p123b : (Bool → ρ) → EL → EL → ρ) (s_p86 : (Bool → ρ) → Int → Int → ByteArray → EL → EL → Int → Int → ByteArray → EL → EL → ρ) (K0 : Bool → ρ) (rec1 : Int → Int → ρ) (x0 : EL) (x1 : EL) (z1 : Int) (z2 : Int) : ρ :=
  bif (cmpStd .lss z2 z1) then (gd ((0 : Int) ≤ z2) fail (gd ((z2 : Int) < (x0.length : Nat)) fail (rw_i64_i64_s_l3_l5 fail (List.getD x0 ((z2 : Int).toNat) []) (fun c3 c4 c5 c6 c7 => gd ((0 : Int) ≤ z2) fail (gd ((z2 : Int) < (x1.length : Nat)) fail (rw_i64_i64_s_l3_l5 fail (List.getD x1 ((z2 : Int).toNat) []) (fun c8 c9 c10 c11 c12 => s_p86 (fun y13 => bif (!y13) then (K0 false) else (rec1 z1 (binStd .add .i64 z2 1))) c3 c4 c5 c6 c7 c8 c9 c10 c11 c12))))))) else (K0 true)
def p123b_1L {ρ : Type} (fail : ρ) (fu : Nat) (s_p123b : (Bool → ρ) → EL → EL → ρ) (s_p86 : (Bool → ρ) → Int → Int → ByteArray → EL → EL → Int → Int → ByteArray → EL → EL → ρ) (K0 : Bool → ρ)  (x0 : EL) (x1 : EL) : Nat → Int → Int → ρ
  | 0, _, _ => fail
  | n + 1, z1, z2 => p123b_1 fail fu s_p123b s_p86 K0 (p123b_1L fail fu s_p123b s_p86 K0  x0 x1 n) x0 x1 z1 z2
/-- slices.EqualFunc[[]api.Term,[]api.Term,api.Term,api.Term] -/
def p123b_b {ρ : Type} (fail : ρ) (fu : Nat) (s_p123b : (Bool → ρ) → EL → EL → ρ) (s_p86 : (Bool → ρ) → Int → Int → ByteArray → EL → EL → Int → Int → ByteArray → EL → EL → ρ) (K0 : Bool → ρ) (x0 : EL) (x1 : EL) : ρ :=
  bif (cmpStd .neq ((x0.length : Nat) : Int) ((x1.length : Nat) : Int)) then (K0 false) else (p123b_1L fail fu s_p123b s_p86 K0 x0 x1 fu ((x0.length : Nat) : Int) 0)
def p86_1 {ρ : Type} (fail : ρ) (fu : Nat) (s_p123b : (Bool → ρ) → EL → EL → ρ) (s_p86 : (Bool → ρ) → Int → Int → ByteArray → EL → EL → Int → Int → ByteArray → EL → EL → ρ) (K0 : Bool → ρ)   (j1 : Bool) : ρ :=
  K0 j1
/-- term.Equal -/
def p86_b {ρ : Type} (fail : ρ) (fu : Nat) (s_p123b : (Bool → ρ) → EL → EL → ρ) (s_p86 : (Bool → ρ) → Int → Int → ByteArray → EL → EL → Int → Int → ByteArray → EL → EL → ρ) (K0 : Bool → ρ) (x0 : Int) (x1 : Int) (x2 : ByteArray) (x3 : EL) (x4 : EL) (x5 : Int) (x6 : Int) (x7 : ByteArray) (x8 : EL) (x9 : EL) : ρ :=
  bif (cmpStd .eql x0 x5) then (bif (cmpStd .eql x1 x6) then (bif (scmpStd .eql x2 x7) then (p121 fail fu (fun y2 => bif y2 then (s_p123b (fun y3 => p86_1 fail fu s_p123b s_p86 K0  y3) x4 x9) else (p86_1 fail fu s_p123b s_p86 K0  false)) x3 x8) else (p86_1 fail fu s_p123b s_p86 K0  false)) else (p86_1 fail fu s_p123b s_p86 K0  false)) else (p86_1 fail fu s_p123b s_p86 K0  false)
mutual
def p123b {ρ : Type} (fail : ρ) : Nat → (Bool → ρ) → EL → EL → ρ
  | 0, _, _, _ => fail
  | n + 1, K0, x0, x1 => p123b_b fail n (p123b fail n) (p86 fail n) K0 x0 x1
def p86 {ρ : Type} (fail : ρ) : Nat → (Bool → ρ) → Int → Int → ByteArray → EL → EL → Int → Int → ByteArray → EL → EL → ρ
  | 0, _, _, _, _, _, _, _, _, _, _, _ => fail
  | n + 1, K0, x0, x1, x2, x3, x4, x5, x6, x7, x8, x9 => p86_b fail n (p123b fail n) (p86 fail n) K0 x0 x1 x2 x3 x4 x5 x6 x7 x8 x9
end
end Go.Proofs.Ythncmjlcmlmnmaa

