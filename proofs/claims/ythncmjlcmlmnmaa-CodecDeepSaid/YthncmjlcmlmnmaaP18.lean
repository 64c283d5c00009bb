/- Functions without memory, and that the Go functions are followed by them. Printed by gen.py. Conditions: none. -/
import Derived.Test.YthncmjlcmlmnmaaP17
namespace Go.Proofs.Ythncmjlcmlmnmaa
open Go V
set_option maxRecDepth 100000
set_option maxHeartbeats 4000000
/-- (*codec.Reader).Term -/
def p65 {ρ : Type} (fail : ρ) (fu : Nat)  (K0 : Int → Int → ByteArray → EL → EL → EL → Int → ρ) (x0 : EL) (x1 : Int) : ρ :=
  p109 fail fu (fun y1 y2 y3 y4 y5 y6 y7 y8 => K0 y1 y2 y3 y4 y5 y6 y7) x0 x1 1 0
theorem d_p65 (fu : Nat)  {K0 : Int → Int → ByteArray → EL → EL → EL → Int → Prop} (L : EL → Nat) (hN : L = List.length) {x0 : EL} {x1 : Int} (h : p65 False fu K0 x0 x1) : Den Try.prog G0 65 [.ptr [.c (.sl 1 x0 none), .c (.v (.int .i64 x1))]] (fun r bs => (∃ (y0 : Int) (y1 : Int) (y2 : ByteArray) (y3 : EL) (y4 : EL) (y5 : EL) (y6 : Int), (r = .agg [.c (.v (.int .i64 y0)), .c (.v (.int .i64 y1)), .c (.v (.string y2)), .c (.sl 3 y3 none), .c (.sl 5 y4 none)] ∧ bs = [.ptr [.c (.sl 1 y5 none), .c (.v (.int .i64 y6))]]) ∧ K0 y0 y1 y2 y3 y4 y5 y6)) := by
  obtain ⟨O, hO⟩ : ∃ O, O = std 1 T G0 (Den Try.prog G0) := ⟨_, rfl⟩
  have hLO : L = O.len := by rw [hN, hO]; rfl
  subst hLO
  refine den_h hO tiA mixed tabOk (fn := Try.f65) (sh := true) (by kernel_rfl) rfl rfl rfl rfl ?_
  intro Q hQ
  unfold p65 at h
  conv => cbv
  refine call_h hO [.ref 2, .shut, .ref 1] (d_p109 fu O.len hN h) ?_
  intro os Q hos hQ
  conv => cbv
  refine ⟨(by (rw [hos]) <;> (subst hO; rfl)), ?_⟩
  intro r bs hq
  rw [hQ] at hq
  clear hos hQ h
  obtain ⟨y1, y2, y3, y4, y5, y6, y7, y8, _, ⟨rfl, rfl⟩, h⟩ := hq
  conv => cbv
  rw [hQ]
  exact ⟨y1, y2, y3, y4, y5, y6, y7, ⟨(by subst hO; rfl), (by subst hO; rfl)⟩, h⟩
/-- (*codec.Reader).took -/
def p66 {ρ : Type} (fail : ρ) (fu : Nat)  (K0 : Int → Int → EL → Int → ρ) (x0 : EL) (x1 : Int) (x2 : EL) : ρ :=
  bif (cmpStd .neq x1 0) then (K0 0 x1 x0 x1) else (K0 (binStd .sub .i64 ((x2.length : Nat) : Int) ((x0.length : Nat) : Int)) 0 x0 x1)
theorem d_p66 (fu : Nat)  {K0 : Int → Int → EL → Int → Prop} (L : EL → Nat) (hN : L = List.length) {x0 : EL} {x1 : Int} {x2 : EL} (h : p66 False fu K0 x0 x1 x2) : Den Try.prog G0 66 [.ptr [.c (.sl 1 x0 none), .c (.v (.int .i64 x1))], .c (.sl 1 x2 none)] (fun r bs => (∃ (y0 : Int) (y1 : Int) (y2 : EL) (y3 : Int) (o1 : OV), (r = .tup [.c (.v (.int .i64 y0)), .c (.v (.int .i64 y1))] ∧ bs = [.ptr [.c (.sl 1 y2 none), .c (.v (.int .i64 y3))], o1]) ∧ K0 y0 y1 y2 y3)) := by
  obtain ⟨O, hO⟩ : ∃ O, O = std 1 T G0 (Den Try.prog G0) := ⟨_, rfl⟩
  have hLO : L = O.len := by rw [hN, hO]; rfl
  subst hLO
  refine den_h hO tiA mixed tabOk (fn := Try.f66) (sh := true) (by kernel_rfl) rfl rfl rfl rfl ?_
  intro Q hQ
  unfold p66 at h
  conv => cbv
  refine br_h hO h (by subst hO; rfl) (fun hc1 h => ?_) (fun hc1 h => ?_)
  · conv => cbv
    refine drawn_of hO tiA [] [(0, true, false), (1, true, false), (2, true, false), (3, true, false), (4, true, false), (5, true, true)] (by kernel_rfl) ?_
    conv => cbv
    refine join_all hO ?_
    conv => cbv
    rw [hQ]
    exact ⟨0, x1, x0, x1, _, ⟨(by subst hO; rfl), (by subst hO; rfl)⟩, h⟩
  · conv => cbv
    refine join_all hO ?_
    conv => cbv
    rw [hQ]
    exact ⟨binStd .sub .i64 ((x2.length : Nat) : Int) ((x0.length : Nat) : Int), 0, x0, x1, _, ⟨(by subst hO; rfl), (by subst hO; rfl)⟩, h⟩
/-- codec.TakeTerm -/
def p18 {ρ : Type} (fail : ρ) (fu : Nat)  (K0 : Int → Int → ByteArray → EL → EL → Int → Int → ρ) (x0 : EL) : ρ :=
  p65 fail fu (fun y1 y2 y3 y4 y5 y6 y7 => p66 fail fu (fun y8 y9 y10 y11 => bif (cmpStd .neq y9 0) then (K0 0 0 ⟨#[]⟩ nilE nilE 0 y9) else (K0 y1 y2 y3 y4 y5 y8 0)) y6 y7 x0) x0 0
theorem d_p18 (fu : Nat)  {K0 : Int → Int → ByteArray → EL → EL → Int → Int → Prop} (L : EL → Nat) (hN : L = List.length) {x0 : EL} (h : p18 False fu K0 x0) : Den Try.prog G0 18 [.c (.sl 1 x0 none)] (fun r bs => (∃ (y0 : Int) (y1 : Int) (y2 : ByteArray) (y3 : EL) (y4 : EL) (y5 : Int) (y6 : Int) (o0 : OV), (r = .tup [.agg [.c (.v (.int .i64 y0)), .c (.v (.int .i64 y1)), .c (.v (.string y2)), .c (.sl 3 y3 none), .c (.sl 5 y4 none)], .c (.v (.int .i64 y5)), .c (.v (.int .i64 y6))] ∧ bs = [o0]) ∧ K0 y0 y1 y2 y3 y4 y5 y6)) := by
  obtain ⟨O, hO⟩ : ∃ O, O = std 0 T G0 (Den Try.prog G0) := ⟨_, rfl⟩
  have hLO : L = O.len := by rw [hN, hO]; rfl
  subst hLO
  refine den_h hO tiA mixed tabOk (fn := Try.f18) (sh := true) (by kernel_rfl) rfl rfl rfl rfl ?_
  intro Q hQ
  unfold p18 at h
  conv => cbv
  refine call_h hO [.ref 2] (d_p65 fu O.len hN h) ?_
  intro os Q hos hQ
  conv => cbv
  refine ⟨(by (rw [hos]) <;> (subst hO; rfl)), ?_⟩
  intro r bs hq
  rw [hQ] at hq
  clear hos hQ h
  obtain ⟨y1, y2, y3, y4, y5, y6, y7, ⟨rfl, rfl⟩, h⟩ := hq
  conv => cbv
  refine call_h hO [.ref 2, .shut] (d_p66 fu O.len hN h) ?_
  intro os Q hos hQ
  conv => cbv
  refine ⟨(by (rw [hos]) <;> (subst hO; rfl)), ?_⟩
  intro r bs hq
  rw [hQ] at hq
  clear hos hQ h
  obtain ⟨y8, y9, y10, y11, _, ⟨rfl, rfl⟩, h⟩ := hq
  conv => cbv
  refine br_h hO h (by subst hO; rfl) (fun hc1 h => ?_) (fun hc1 h => ?_)
  · conv => cbv
    rw [hQ]
    exact ⟨0, 0, ⟨#[]⟩, nilE, nilE, 0, y9, _, ⟨(by subst hO; rfl), (by subst hO; rfl)⟩, h⟩
  · conv => cbv
    refine join_all hO ?_
    conv => cbv
    rw [hQ]
    exact ⟨y1, y2, y3, y4, y5, y8, 0, _, ⟨(by subst hO; rfl), (by subst hO; rfl)⟩, h⟩
end Go.Proofs.Ythncmjlcmlmnmaa
