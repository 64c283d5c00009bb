/- Functions without memory, and that the Go functions are followed by them. Printed by gen.py. Conditions: none. -/
import Derived.Test.YthncmjlcmlmnmaaCPD
namespace Go.Proofs.Ythncmjlcmlmnmaa
open Go V
set_option maxRecDepth 100000
set_option maxHeartbeats 4000000
def p4_1 {ρ : Type} (fail : ρ) (fu : Nat)  (K0 : Bool → ρ)   (j9 : Bool) : ρ :=
  K0 j9
def p4_2 {ρ : Type} (fail : ρ) (fu : Nat)  (K0 : Bool → ρ)   (j17 : Bool) : ρ :=
  K0 j17
def p4_3 {ρ : Type} (fail : ρ) (fu : Nat)  (K0 : Bool → ρ)  (x1 : Int) (j2 : EL) (j3 : Int) : ρ :=
  gd ((4 : Int) ≠ 0) fail (bif (cmpStd .eql (binStd .rem .u8 x1 4) 0) then (p20 fail fu (fun y4 y5 y6 y7 y8 => bif ((cmpStd .eql y8 0) == (cmpStd .leq j3 0)) then (bif (cmpStd .eql y8 0) then (p4_1 fail fu  K0  true) else (p4_1 fail fu  K0  (cmpStd .eql y8 6))) else (p4_1 fail fu  K0  false)) j2) else (p18 fail fu (fun y10 y11 y12 y13 y14 y15 y16 => bif ((cmpStd .eql y16 0) == (cmpStd .leq j3 0)) then (bif (cmpStd .eql y16 0) then (p4_2 fail fu  K0  true) else (p4_2 fail fu  K0  (cmpStd .eql y16 6))) else (p4_2 fail fu  K0  false)) j2))
def p4_4 {ρ : Type} (fail : ρ) (fu : Nat)  (K0 : Bool → ρ) (rec1 : EL → Int → Int → ρ) (x1 : Int) (z18 : EL) (z19 : Int) (z20 : Int) : ρ :=
  bif (cmpStd .lss z20 (binStd .add .i64 32 z19)) then (gd (1 ≤ [[(CV.v (.int .u8 1))]].length) fail (gd ((z18.length + (List.take 1 [[(CV.v (.int .u8 1))]]).length) * 1 ≤ 35184372088832) fail (rec1 (z18 ++ (List.take 1 [[(CV.v (.int .u8 1))]])) z19 (binStd .add .i64 z20 1)))) else (gd (1 ≤ [[(CV.v (.int .u8 0))]].length) fail (gd ((z18.length + (List.take 1 [[(CV.v (.int .u8 0))]]).length) * 1 ≤ 35184372088832) fail (p4_3 fail fu  K0 x1 (z18 ++ (List.take 1 [[(CV.v (.int .u8 0))]])) z19)))
def p4_4L {ρ : Type} (fail : ρ) (fu : Nat)  (K0 : Bool → ρ)  (x1 : Int) : Nat → EL → Int → Int → ρ
  | 0, _, _, _ => fail
  | n + 1, z18, z19, z20 => p4_4 fail fu  K0 (p4_4L fail fu  K0  x1 n) x1 z18 z19 z20
def p4_5 {ρ : Type} (fail : ρ) (fu : Nat)  (K0 : Bool → ρ)  (x1 : Int) (j21 : EL) (j22 : Int) : ρ :=
  p4_3 fail fu  K0 x1 j21 j22
def p4_6 {ρ : Type} (fail : ρ) (fu : Nat)  (K0 : Bool → ρ) (rec2 : EL → Int → Int → ρ) (x1 : Int) (z23 : EL) (z24 : Int) (z25 : Int) : ρ :=
  bif (cmpStd .lss z25 (binStd .add .i64 100 z24)) then (gd (3 ≤ [[(CV.v (.int .u8 4))], [(CV.v (.int .u8 0))], [(CV.v (.int .u8 0))]].length) fail (gd ((z23.length + (List.take 3 [[(CV.v (.int .u8 4))], [(CV.v (.int .u8 0))], [(CV.v (.int .u8 0))]]).length) * 1 ≤ 35184372088832) fail (rec2 (z23 ++ (List.take 3 [[(CV.v (.int .u8 4))], [(CV.v (.int .u8 0))], [(CV.v (.int .u8 0))]])) z24 (binStd .add .i64 z25 1)))) else (gd (2 ≤ [[(CV.v (.int .u8 0))], [(CV.v (.int .u8 0))]].length) fail (gd ((z23.length + (List.take 2 [[(CV.v (.int .u8 0))], [(CV.v (.int .u8 0))]]).length) * 1 ≤ 35184372088832) fail (p4_5 fail fu  K0 x1 (z23 ++ (List.take 2 [[(CV.v (.int .u8 0))], [(CV.v (.int .u8 0))]])) z24)))
def p4_6L {ρ : Type} (fail : ρ) (fu : Nat)  (K0 : Bool → ρ)  (x1 : Int) : Nat → EL → Int → Int → ρ
  | 0, _, _, _ => fail
  | n + 1, z23, z24, z25 => p4_6 fail fu  K0 (p4_6L fail fu  K0  x1 n) x1 z23 z24 z25
def p4_7 {ρ : Type} (fail : ρ) (fu : Nat)  (K0 : Bool → ρ)   (j34 : Bool) : ρ :=
  K0 j34
def p4_8 {ρ : Type} (fail : ρ) (fu : Nat)  (K0 : Bool → ρ) (rec3 : EL → Int → Int → ρ)  (z26 : EL) (z27 : Int) (z28 : Int) : ρ :=
  gd ((2 : Int) ≠ 0) fail (bif (cmpStd .lss z28 (binStd .quo .i64 (binStd .add .i64 64 z27) 2)) then (gd (2 ≤ [[(CV.v (.int .u8 2))], [(CV.v (.int .u8 0))]].length) fail (gd ((z26.length + (List.take 2 [[(CV.v (.int .u8 2))], [(CV.v (.int .u8 0))]]).length) * 1 ≤ 35184372088832) fail (rec3 (z26 ++ (List.take 2 [[(CV.v (.int .u8 2))], [(CV.v (.int .u8 0))]])) z27 (binStd .add .i64 z28 1)))) else (gd (1 ≤ [[(CV.v (.int .u8 0))]].length) fail (gd ((z26.length + (List.take 1 [[(CV.v (.int .u8 0))]]).length) * 1 ≤ 35184372088832) fail (p20 fail fu (fun y29 y30 y31 y32 y33 => gd ((2 : Int) ≠ 0) fail (bif (cmpStd .gtr (binStd .add .i64 (binStd .quo .i64 (binStd .add .i64 64 z27) 2) 1) 32) then (bif (cmpStd .eql y33 6) then (p4_7 fail fu  K0  true) else (p4_7 fail fu  K0  (cmpStd .eql y33 3))) else (K0 (cmpStd .eql y33 0)))) (z26 ++ (List.take 1 [[(CV.v (.int .u8 0))]]))))))
def p4_8L {ρ : Type} (fail : ρ) (fu : Nat)  (K0 : Bool → ρ)   : Nat → EL → Int → Int → ρ
  | 0, _, _, _ => fail
  | n + 1, z26, z27, z28 => p4_8 fail fu  K0 (p4_8L fail fu  K0   n)  z26 z27 z28
def p4_9 {ρ : Type} (fail : ρ) (fu : Nat)  (K0 : Bool → ρ)   (j48 : Bool) : ρ :=
  K0 j48
/-- law6.CodecDeep -/
def p4 {ρ : Type} (fail : ρ) (fu : Nat)  (K0 : Bool → ρ) (x0 : Int) (x1 : Int) : ρ :=
  p13 fail fu (fun y1 => bif (!y1) then (K0 false) else (gd ((6 : Int) ≠ 0) fail (gd ((4 : Int) ≠ 0) fail (bif (cmpStd .eql (binStd .rem .u8 x1 4) 0) then (p4_4L fail fu  K0 x1 fu nilE (binStd .sub .i64 (IntKind.i64.wrap (binStd .rem .u8 x0 6)) 3) 1) else (bif (cmpStd .eql (binStd .rem .u8 x1 4) 1) then (p4_6L fail fu  K0 x1 fu nilE (binStd .sub .i64 (IntKind.i64.wrap (binStd .rem .u8 x0 6)) 3) 1) else (bif (cmpStd .eql (binStd .rem .u8 x1 4) 2) then (p4_8L fail fu  K0  fu nilE (binStd .sub .i64 (IntKind.i64.wrap (binStd .rem .u8 x0 6)) 3) 0) else (gd ((3 : Int) ≠ 0) fail (p21 fail fu (fun y35 y36 y37 y38 y39 => p17 fail fu (fun y40 => p18 fail fu (fun y41 y42 y43 y44 y45 y46 y47 => p22 fail fu (fun y49 => bif ((cmpStd .eql y47 0) == (cmpStd .leq y49 2000)) then (bif (cmpStd .eql y47 0) then (p4_9 fail fu  K0  true) else (p4_9 fail fu  K0  (cmpStd .eql y47 3))) else (p4_9 fail fu  K0  false)) y35 y36 y37 y38 y39 1048576) y40) nilE y35 y36 y37 y38 y39) (binStd .add .i64 10 (IntKind.i64.wrap (binStd .rem .u8 x0 3))))))))))) 
theorem d_p4 (fu : Nat)  {K0 : Bool → Prop} (L : EL → Nat) (hN : L = List.length) {x0 : Int} {x1 : Int} (h : p4 False fu K0 x0 x1) : Den Try.prog G0 4 [.c (.v (.int .u8 x0)), .c (.v (.int .u8 x1))] (fun r bs => (∃ (y0 : Bool) (o0 : OV) (o1 : OV), (r = .c (.v (.bool y0)) ∧ bs = [o0, o1]) ∧ K0 y0)) := by
  obtain ⟨O, hO⟩ : ∃ O, O = std 0 T G0 (Den Try.prog G0) := ⟨_, rfl⟩
  have hLO : L = O.len := by rw [hN, hO]; rfl
  subst hLO
  refine den_h hO tiA mixed tabOk (fn := Try.f4) (sh := true) (by kernel_rfl) rfl rfl rfl rfl ?_
  intro Q hQ
  unfold p4 at h
  conv => cbv
  refine call_h hO [] (d_p13 fu O.len hN h) ?_
  intro os Q hos hQ
  conv => cbv
  refine ⟨(by (rw [hos]) <;> (subst hO; rfl)), ?_⟩
  intro r bs hq
  rw [hQ] at hq
  clear hos hQ h
  obtain ⟨y1, ⟨rfl, rfl⟩, h⟩ := hq
  conv => cbv
  refine br_h hO h (by subst hO; rfl) (fun hc1 h => ?_) (fun hc1 h => ?_)
  · conv => cbv
    rw [hQ]
    exact ⟨false, _, _, ⟨(by subst hO; rfl), (by subst hO; rfl)⟩, h⟩
  · conv => cbv
    refine join_all hO ?_
    conv => cbv
    refine and_h h (fun g => (by subst hO; exact g)) (fun h => ?_)
    refine and_h h (fun g => (by subst hO; exact g)) (fun h => ?_)
    refine br_join_h hO tiA h (by subst hO; rfl) [1, 5, 7, 8] [73000, 76000, 88000, 91000] [] (fun tm m => ∃ (j2 : EL) (j3 : Int), ((tm = frame 0 172 [(1, .c (.v (.int .u8 x1))), (5, .t 76000 0 (O.len j2)), (7, .c (.v (.int .i64 6))), (8, .c (.v (.int .i64 j3)))] ∧ m = ⟨[(76000, .arr 0 1 j2 none false)], 1⟩) ∨ (tm = frame 0 172 [(1, .c (.v (.int .u8 x1))), (5, .t 73000 0 (O.len j2)), (7, .c (.v (.int .i64 6))), (8, .c (.v (.int .i64 j3)))] ∧ m = ⟨[(73000, .arr 0 1 j2 none false)], 1⟩) ∨ (tm = frame 0 172 [(1, .c (.v (.int .u8 x1))), (5, .t 91000 0 (O.len j2)), (7, .c (.v (.int .i64 6))), (8, .c (.v (.int .i64 j3)))] ∧ m = ⟨[(91000, .arr 0 1 j2 none false)], 1⟩) ∨ (tm = frame 0 172 [(1, .c (.v (.int .u8 x1))), (5, .t 88000 0 (O.len j2)), (7, .c (.v (.int .i64 6))), (8, .c (.v (.int .i64 j3)))] ∧ m = ⟨[(88000, .arr 0 1 j2 none false)], 1⟩)) ∧ p4_3 False fu  K0 x1 j2 j3) (fun hc7 h L hL_3 => ?_) (fun hc7 h L hL_3 => ?_) ?_
    · conv => cbv
      refine loop_of hO tiA [1, 5, 6, 7, 8, 9] [73000] [] (fun (n : Nat) tm m => ∃ (z18 : EL) (z19 : Int) (z20 : Int), ((z18 = [] ∧ tm = frame 0 172 [(1, .c (.v (.int .u8 x1))), (5, .c (.sl 1 [] (some []))), (6, .c (.v (.int .i64 32))), (7, .c (.v (.int .i64 6))), (8, .c (.v (.int .i64 z19))), (9, .c (.v (.int .i64 z20)))] ∧ m = ⟨[], 1⟩) ∨ (tm = frame 0 172 [(1, .c (.v (.int .u8 x1))), (5, .t 73000 0 (O.len z18)), (6, .c (.v (.int .i64 32))), (7, .c (.v (.int .i64 6))), (8, .c (.v (.int .i64 z19))), (9, .c (.v (.int .i64 z20)))] ∧ m = ⟨[(73000, .arr 0 1 z18 none false)], 1⟩)) ∧ p4_4L False fu  K0 x1 n z18 z19 z20) (fun n => n) fu ⟨nilE, binStd .sub .i64 (IntKind.i64.wrap (binStd .rem .u8 x0 6)) 3, 1, (.inl ⟨rfl, (by (conv => lhs; cbv) <;> (subst hO; rfl)), (by (conv => lhs; cbv) <;> (subst hO; rfl))⟩), h⟩ ?_
      rintro n1 tm m L ⟨z18, z19, z20, hs, h⟩ hLn1
      cases n1 with
      | zero => rw [p4_4L] at h; exact h.elim
      | succ n1 =>
        rw [p4_4L] at h
        unfold p4_4 at h
        rcases hs with hs | hs
        · obtain ⟨rfl, rfl, rfl⟩ := hs
          conv => cbv
          refine br_h hO h (by subst hO; rfl) (fun hc8 h => ?_) (fun hc8 h => ?_)
          · conv => cbv
            refine join_all hO ?_
            conv => cbv
            refine view_h hO h (fun g => (by subst hO; exact g)) (fun h => ?_)
            conv => cbv
            refine and_h h (fun g => (by subst hO; exact g)) (fun h => ?_)
            refine emp_no hO (by subst hO; exact List.cons_ne_nil _ _) ?_
            conv => cbv
            exact hLn1 n1 _ _ (Nat.lt_succ_self n1) ⟨(nilE ++ (List.take 1 [[(CV.v (.int .u8 1))]])), z19, binStd .add .i64 z20 1, (.inr ⟨(by (conv => lhs; cbv) <;> (subst hO; rfl)), (by (conv => lhs; cbv) <;> (subst hO; rfl))⟩), h⟩
          · conv => cbv
            refine view_h hO h (fun g => (by subst hO; exact g)) (fun h => ?_)
            conv => cbv
            refine and_h h (fun g => (by subst hO; exact g)) (fun h => ?_)
            refine emp_no hO (by subst hO; exact List.cons_ne_nil _ _) ?_
            conv => cbv
            exact hL_3 _ _ ⟨(nilE ++ (List.take 1 [[(CV.v (.int .u8 0))]])), z19, (.inl ⟨(by (conv => lhs; cbv) <;> (subst hO; rfl)), (by (conv => lhs; cbv) <;> (subst hO; rfl))⟩), h⟩
        · obtain ⟨rfl, rfl⟩ := hs
          conv => cbv
          refine br_h hO h (by subst hO; rfl) (fun hc8 h => ?_) (fun hc8 h => ?_)
          · conv => cbv
            refine join_all hO ?_
            conv => cbv
            refine alt_l hO ?_
            conv => cbv
            refine view_h hO h (fun g => (by subst hO; exact g)) (fun h => ?_)
            conv => cbv
            refine ⟨(by subst hO; rfl), ?_⟩
            refine and_h h (fun g => (by subst hO; exact g)) (fun h => ?_)
            exact hLn1 n1 _ _ (Nat.lt_succ_self n1) ⟨(z18 ++ (List.take 1 [[(CV.v (.int .u8 1))]])), z19, binStd .add .i64 z20 1, (.inr ⟨(by (conv => lhs; cbv) <;> (subst hO; rfl)), (by (conv => lhs; cbv) <;> (subst hO; rfl))⟩), h⟩
          · conv => cbv
            refine alt_l hO ?_
            conv => cbv
            refine view_h hO h (fun g => (by subst hO; exact g)) (fun h => ?_)
            conv => cbv
            refine ⟨(by subst hO; rfl), ?_⟩
            refine and_h h (fun g => (by subst hO; exact g)) (fun h => ?_)
            exact hL_3 _ _ ⟨(z18 ++ (List.take 1 [[(CV.v (.int .u8 0))]])), z19, (.inr (.inl ⟨(by (conv => lhs; cbv) <;> (subst hO; rfl)), (by (conv => lhs; cbv) <;> (subst hO; rfl))⟩)), h⟩
    · conv => cbv
      refine br_join_h hO tiA h (by subst hO; rfl) [1, 5, 7, 8] [88000, 91000] [] (fun tm m => ∃ (j21 : EL) (j22 : Int), ((tm = frame 0 172 [(1, .c (.v (.int .u8 x1))), (5, .t 91000 0 (O.len j21)), (7, .c (.v (.int .i64 6))), (8, .c (.v (.int .i64 j22)))] ∧ m = ⟨[(91000, .arr 0 1 j21 none false)], 1⟩) ∨ (tm = frame 0 172 [(1, .c (.v (.int .u8 x1))), (5, .t 88000 0 (O.len j21)), (7, .c (.v (.int .i64 6))), (8, .c (.v (.int .i64 j22)))] ∧ m = ⟨[(88000, .arr 0 1 j21 none false)], 1⟩)) ∧ p4_5 False fu  K0 x1 j21 j22) (fun hc9 h L hL_5 => ?_) (fun hc9 h L hL_5 => ?_) ?_
      · conv => cbv
        refine loop_of hO tiA [1, 5, 6, 7, 8, 10] [88000] [] (fun (n : Nat) tm m => ∃ (z23 : EL) (z24 : Int) (z25 : Int), ((z23 = [] ∧ tm = frame 0 172 [(1, .c (.v (.int .u8 x1))), (5, .c (.sl 1 [] (some []))), (6, .c (.v (.int .i64 100))), (7, .c (.v (.int .i64 6))), (8, .c (.v (.int .i64 z24))), (10, .c (.v (.int .i64 z25)))] ∧ m = ⟨[], 1⟩) ∨ (tm = frame 0 172 [(1, .c (.v (.int .u8 x1))), (5, .t 88000 0 (O.len z23)), (6, .c (.v (.int .i64 100))), (7, .c (.v (.int .i64 6))), (8, .c (.v (.int .i64 z24))), (10, .c (.v (.int .i64 z25)))] ∧ m = ⟨[(88000, .arr 0 1 z23 none false)], 1⟩)) ∧ p4_6L False fu  K0 x1 n z23 z24 z25) (fun n => n) fu ⟨nilE, binStd .sub .i64 (IntKind.i64.wrap (binStd .rem .u8 x0 6)) 3, 1, (.inl ⟨rfl, (by (conv => lhs; cbv) <;> (subst hO; rfl)), (by (conv => lhs; cbv) <;> (subst hO; rfl))⟩), h⟩ ?_
        rintro n2 tm m L ⟨z23, z24, z25, hs, h⟩ hLn2
        cases n2 with
        | zero => rw [p4_6L] at h; exact h.elim
        | succ n2 =>
          rw [p4_6L] at h
          unfold p4_6 at h
          rcases hs with hs | hs
          · obtain ⟨rfl, rfl, rfl⟩ := hs
            conv => cbv
            refine br_h hO h (by subst hO; rfl) (fun hc10 h => ?_) (fun hc10 h => ?_)
            · conv => cbv
              refine join_all hO ?_
              conv => cbv
              refine view_h hO h (fun g => (by subst hO; exact g)) (fun h => ?_)
              conv => cbv
              refine and_h h (fun g => (by subst hO; exact g)) (fun h => ?_)
              refine emp_no hO (by subst hO; exact List.cons_ne_nil _ _) ?_
              conv => cbv
              exact hLn2 n2 _ _ (Nat.lt_succ_self n2) ⟨(nilE ++ (List.take 3 [[(CV.v (.int .u8 4))], [(CV.v (.int .u8 0))], [(CV.v (.int .u8 0))]])), z24, binStd .add .i64 z25 1, (.inr ⟨(by (conv => lhs; cbv) <;> (subst hO; rfl)), (by (conv => lhs; cbv) <;> (subst hO; rfl))⟩), h⟩
            · conv => cbv
              refine view_h hO h (fun g => (by subst hO; exact g)) (fun h => ?_)
              conv => cbv
              refine and_h h (fun g => (by subst hO; exact g)) (fun h => ?_)
              refine emp_no hO (by subst hO; exact List.cons_ne_nil _ _) ?_
              conv => cbv
              exact hL_5 _ _ ⟨(nilE ++ (List.take 2 [[(CV.v (.int .u8 0))], [(CV.v (.int .u8 0))]])), z24, (.inl ⟨(by (conv => lhs; cbv) <;> (subst hO; rfl)), (by (conv => lhs; cbv) <;> (subst hO; rfl))⟩), h⟩
          · obtain ⟨rfl, rfl⟩ := hs
            conv => cbv
            refine br_h hO h (by subst hO; rfl) (fun hc10 h => ?_) (fun hc10 h => ?_)
            · conv => cbv
              refine join_all hO ?_
              conv => cbv
              refine alt_l hO ?_
              conv => cbv
              refine view_h hO h (fun g => (by subst hO; exact g)) (fun h => ?_)
              conv => cbv
              refine ⟨(by subst hO; rfl), ?_⟩
              refine and_h h (fun g => (by subst hO; exact g)) (fun h => ?_)
              exact hLn2 n2 _ _ (Nat.lt_succ_self n2) ⟨(z23 ++ (List.take 3 [[(CV.v (.int .u8 4))], [(CV.v (.int .u8 0))], [(CV.v (.int .u8 0))]])), z24, binStd .add .i64 z25 1, (.inr ⟨(by (conv => lhs; cbv) <;> (subst hO; rfl)), (by (conv => lhs; cbv) <;> (subst hO; rfl))⟩), h⟩
            · conv => cbv
              refine alt_l hO ?_
              conv => cbv
              refine view_h hO h (fun g => (by subst hO; exact g)) (fun h => ?_)
              conv => cbv
              refine ⟨(by subst hO; rfl), ?_⟩
              refine and_h h (fun g => (by subst hO; exact g)) (fun h => ?_)
              exact hL_5 _ _ ⟨(z23 ++ (List.take 2 [[(CV.v (.int .u8 0))], [(CV.v (.int .u8 0))]])), z24, (.inr ⟨(by (conv => lhs; cbv) <;> (subst hO; rfl)), (by (conv => lhs; cbv) <;> (subst hO; rfl))⟩), h⟩
      · conv => cbv
        refine br_h hO h (by subst hO; rfl) (fun hc11 h => ?_) (fun hc11 h => ?_)
        · conv => cbv
          refine loop_of hO tiA [5, 6, 7, 8, 11] [104000] [] (fun (n : Nat) tm m => ∃ (z26 : EL) (z27 : Int) (z28 : Int), ((z26 = [] ∧ tm = frame 0 172 [(5, .c (.sl 1 [] (some []))), (6, .c (.v (.int .i64 64))), (7, .c (.v (.int .i64 3))), (8, .c (.v (.int .i64 z27))), (11, .c (.v (.int .i64 z28)))] ∧ m = ⟨[], 1⟩) ∨ (tm = frame 0 172 [(5, .t 104000 0 (O.len z26)), (6, .c (.v (.int .i64 64))), (7, .c (.v (.int .i64 3))), (8, .c (.v (.int .i64 z27))), (11, .c (.v (.int .i64 z28)))] ∧ m = ⟨[(104000, .arr 0 1 z26 none false)], 1⟩)) ∧ p4_8L False fu  K0  n z26 z27 z28) (fun n => n) fu ⟨nilE, binStd .sub .i64 (IntKind.i64.wrap (binStd .rem .u8 x0 6)) 3, 0, (.inl ⟨rfl, (by (conv => lhs; cbv) <;> (subst hO; rfl)), (by (conv => lhs; cbv) <;> (subst hO; rfl))⟩), h⟩ ?_
          rintro n3 tm m L ⟨z26, z27, z28, hs, h⟩ hLn3
          cases n3 with
          | zero => rw [p4_8L] at h; exact h.elim
          | succ n3 =>
            rw [p4_8L] at h
            unfold p4_8 at h
            rcases hs with hs | hs
            · obtain ⟨rfl, rfl, rfl⟩ := hs
              conv => cbv
              refine and_h h (fun g => (by subst hO; exact g)) (fun h => ?_)
              refine br_h hO h (by subst hO; rfl) (fun hc12 h => ?_) (fun hc12 h => ?_)
              · conv => cbv
                refine join_all hO ?_
                conv => cbv
                refine view_h hO h (fun g => (by subst hO; exact g)) (fun h => ?_)
                conv => cbv
                refine and_h h (fun g => (by subst hO; exact g)) (fun h => ?_)
                refine emp_no hO (by subst hO; exact List.cons_ne_nil _ _) ?_
                conv => cbv
                exact hLn3 n3 _ _ (Nat.lt_succ_self n3) ⟨(nilE ++ (List.take 2 [[(CV.v (.int .u8 2))], [(CV.v (.int .u8 0))]])), z27, binStd .add .i64 z28 1, (.inr ⟨(by (conv => lhs; cbv) <;> (subst hO; rfl)), (by (conv => lhs; cbv) <;> (subst hO; rfl))⟩), h⟩
              · conv => cbv
                refine view_h hO h (fun g => (by subst hO; exact g)) (fun h => ?_)
                conv => cbv
                refine and_h h (fun g => (by subst hO; exact g)) (fun h => ?_)
                refine emp_no hO (by subst hO; exact List.cons_ne_nil _ _) ?_
                conv => cbv
                refine alt_l hO ?_
                conv => cbv
                refine call_h hO [.shut] (d_p20 fu O.len hN h) ?_
                intro os Q hos hQ
                conv => cbv
                refine view_full hO ?_
                conv => cbv
                refine ⟨(by (rw [hos]) <;> (subst hO; rfl)), ?_⟩
                intro r bs hq
                rw [hQ] at hq
                clear hos hQ h
                obtain ⟨y29, y30, y31, y32, y33, _, ⟨rfl, rfl⟩, h⟩ := hq
                conv => cbv
                refine and_h h (fun g => (by subst hO; exact g)) (fun h => ?_)
                refine br_h hO h (by subst hO; rfl) (fun hc13 h => ?_) (fun hc13 h => ?_)
                · conv => cbv
                  refine reg_join hO tiA [4] [] [] (fun tm m => ∃ (j34 : Bool), ((tm = frame 0 172 [(4, .c (.v (.bool j34)))] ∧ m = ⟨[], 1⟩)) ∧ p4_7 False fu  K0  j34) (fun L hL_7 => ?_) ?_
                  · conv => cbv
                    refine br_h hO h (by subst hO; rfl) (fun hc14 h => ?_) (fun hc14 h => ?_)
                    · conv => cbv
                      refine br_t hO hc14 ?_
                      conv => cbv
                      refine br_t hO hc14 ?_
                      conv => cbv
                      refine br_t hO hc14 ?_
                      conv => cbv
                      exact hL_7 _ _ ⟨true, ⟨(by (conv => lhs; cbv) <;> (subst hO; rfl)), (by (conv => lhs; cbv) <;> (subst hO; rfl))⟩, h⟩
                    · conv => cbv
                      refine br_f hO hc14 ?_
                      conv => cbv
                      refine br_f hO hc14 ?_
                      conv => cbv
                      refine br_f hO hc14 ?_
                      conv => cbv
                      exact hL_7 _ _ ⟨(cmpStd .eql y33 3), ⟨(by (conv => lhs; cbv) <;> (subst hO; rfl)), (by (conv => lhs; cbv) <;> (subst hO; rfl))⟩, h⟩
                  · rintro tm m ⟨j34, hs, h⟩
                    unfold p4_7 at h
                    obtain ⟨rfl, rfl⟩ := hs
                    conv => cbv
                    rw [hQ]
                    exact ⟨j34, _, _, ⟨(by subst hO; rfl), (by subst hO; rfl)⟩, h⟩
                · conv => cbv
                  refine join_all hO ?_
                  conv => cbv
                  rw [hQ]
                  exact ⟨(cmpStd .eql y33 0), _, _, ⟨(by subst hO; rfl), (by subst hO; rfl)⟩, h⟩
            · obtain ⟨rfl, rfl⟩ := hs
              conv => cbv
              refine and_h h (fun g => (by subst hO; exact g)) (fun h => ?_)
              refine br_h hO h (by subst hO; rfl) (fun hc12 h => ?_) (fun hc12 h => ?_)
              · conv => cbv
                refine join_all hO ?_
                conv => cbv
                refine alt_l hO ?_
                conv => cbv
                refine view_h hO h (fun g => (by subst hO; exact g)) (fun h => ?_)
                conv => cbv
                refine ⟨(by subst hO; rfl), ?_⟩
                refine and_h h (fun g => (by subst hO; exact g)) (fun h => ?_)
                exact hLn3 n3 _ _ (Nat.lt_succ_self n3) ⟨(z26 ++ (List.take 2 [[(CV.v (.int .u8 2))], [(CV.v (.int .u8 0))]])), z27, binStd .add .i64 z28 1, (.inr ⟨(by (conv => lhs; cbv) <;> (subst hO; rfl)), (by (conv => lhs; cbv) <;> (subst hO; rfl))⟩), h⟩
              · conv => cbv
                refine alt_l hO ?_
                conv => cbv
                refine view_h hO h (fun g => (by subst hO; exact g)) (fun h => ?_)
                conv => cbv
                refine ⟨(by subst hO; rfl), ?_⟩
                refine and_h h (fun g => (by subst hO; exact g)) (fun h => ?_)
                refine alt_l hO ?_
                conv => cbv
                refine call_h hO [.shut] (d_p20 fu O.len hN h) ?_
                intro os Q hos hQ
                conv => cbv
                refine view_full hO ?_
                conv => cbv
                refine ⟨(by (rw [hos]) <;> (subst hO; rfl)), ?_⟩
                intro r bs hq
                rw [hQ] at hq
                clear hos hQ h
                obtain ⟨y29, y30, y31, y32, y33, _, ⟨rfl, rfl⟩, h⟩ := hq
                conv => cbv
                refine and_h h (fun g => (by subst hO; exact g)) (fun h => ?_)
                refine br_h hO h (by subst hO; rfl) (fun hc13 h => ?_) (fun hc13 h => ?_)
                · conv => cbv
                  refine reg_join hO tiA [4] [] [] (fun tm m => ∃ (j34 : Bool), ((tm = frame 0 172 [(4, .c (.v (.bool j34)))] ∧ m = ⟨[], 1⟩)) ∧ p4_7 False fu  K0  j34) (fun L hL_7 => ?_) ?_
                  · conv => cbv
                    refine br_h hO h (by subst hO; rfl) (fun hc14 h => ?_) (fun hc14 h => ?_)
                    · conv => cbv
                      refine br_t hO hc14 ?_
                      conv => cbv
                      refine br_t hO hc14 ?_
                      conv => cbv
                      refine br_t hO hc14 ?_
                      conv => cbv
                      exact hL_7 _ _ ⟨true, ⟨(by (conv => lhs; cbv) <;> (subst hO; rfl)), (by (conv => lhs; cbv) <;> (subst hO; rfl))⟩, h⟩
                    · conv => cbv
                      refine br_f hO hc14 ?_
                      conv => cbv
                      refine br_f hO hc14 ?_
                      conv => cbv
                      refine br_f hO hc14 ?_
                      conv => cbv
                      exact hL_7 _ _ ⟨(cmpStd .eql y33 3), ⟨(by (conv => lhs; cbv) <;> (subst hO; rfl)), (by (conv => lhs; cbv) <;> (subst hO; rfl))⟩, h⟩
                  · rintro tm m ⟨j34, hs, h⟩
                    unfold p4_7 at h
                    obtain ⟨rfl, rfl⟩ := hs
                    conv => cbv
                    rw [hQ]
                    exact ⟨j34, _, _, ⟨(by subst hO; rfl), (by subst hO; rfl)⟩, h⟩
                · conv => cbv
                  refine join_all hO ?_
                  conv => cbv
                  rw [hQ]
                  exact ⟨(cmpStd .eql y33 0), _, _, ⟨(by subst hO; rfl), (by subst hO; rfl)⟩, h⟩
        · conv => cbv
          refine and_h h (fun g => (by subst hO; exact g)) (fun h => ?_)
          refine call_h hO [.shut] (d_p21 fu O.len hN h) ?_
          intro os Q hos hQ
          conv => cbv
          refine ⟨(by (rw [hos]) <;> (subst hO; rfl)), ?_⟩
          intro r bs hq
          rw [hQ] at hq
          clear hos hQ h
          obtain ⟨y35, y36, y37, y38, y39, _, ⟨rfl, rfl⟩, h⟩ := hq
          conv => cbv
          refine call_h hO [.shut, .shut] (d_p17 fu O.len hN h) ?_
          intro os Q hos hQ
          conv => cbv
          refine ⟨(by (rw [hos]) <;> (subst hO; rfl)), ?_⟩
          intro r bs hq
          rw [hQ] at hq
          clear hos hQ h
          obtain ⟨y40, _, _, ⟨rfl, rfl⟩, h⟩ := hq
          conv => cbv
          refine alt_l hO ?_
          conv => cbv
          refine call_h hO [.shut] (d_p18 fu O.len hN h) ?_
          intro os Q hos hQ
          conv => cbv
          refine view_full hO ?_
          conv => cbv
          refine ⟨(by (rw [hos]) <;> (subst hO; rfl)), ?_⟩
          intro r bs hq
          rw [hQ] at hq
          clear hos hQ h
          obtain ⟨y41, y42, y43, y44, y45, y46, y47, _, ⟨rfl, rfl⟩, h⟩ := hq
          conv => cbv
          refine reg_join hO tiA [4] [] [] (fun tm m => ∃ (j48 : Bool), ((tm = frame 0 172 [(4, .c (.v (.bool j48)))] ∧ m = ⟨[], 1⟩)) ∧ p4_9 False fu  K0  j48) (fun L hL_9 => ?_) ?_
          · conv => cbv
            refine call_h hO [.shut, .shut] (d_p22 fu O.len hN h) ?_
            intro os Q hos hQ
            conv => cbv
            refine ⟨(by (rw [hos]) <;> (subst hO; rfl)), ?_⟩
            intro r bs hq
            rw [hQ] at hq
            clear hos hQ h
            obtain ⟨y49, _, _, ⟨rfl, rfl⟩, h⟩ := hq
            conv => cbv
            refine br_h hO h (by subst hO; rfl) (fun hc15 h => ?_) (fun hc15 h => ?_)
            · conv => cbv
              refine br_t hO hc15 ?_
              conv => cbv
              refine br_t hO hc15 ?_
              conv => cbv
              refine br_h hO h (by subst hO; rfl) (fun hc16 h => ?_) (fun hc16 h => ?_)
              · conv => cbv
                refine br_t hO hc16 ?_
                conv => cbv
                refine br_t hO hc15 ?_
                conv => cbv
                refine br_t hO hc16 ?_
                conv => cbv
                refine br_t hO hc15 ?_
                conv => cbv
                exact hL_9 _ _ ⟨true, ⟨(by (conv => lhs; cbv) <;> (subst hO; rfl)), (by (conv => lhs; cbv) <;> (subst hO; rfl))⟩, h⟩
              · conv => cbv
                refine br_f hO hc16 ?_
                conv => cbv
                refine br_t hO hc15 ?_
                conv => cbv
                refine br_f hO hc16 ?_
                conv => cbv
                refine br_t hO hc15 ?_
                conv => cbv
                exact hL_9 _ _ ⟨(cmpStd .eql y47 3), ⟨(by (conv => lhs; cbv) <;> (subst hO; rfl)), (by (conv => lhs; cbv) <;> (subst hO; rfl))⟩, h⟩
            · conv => cbv
              refine br_f hO hc15 ?_
              conv => cbv
              refine br_f hO hc15 ?_
              conv => cbv
              refine br_f hO hc15 ?_
              conv => cbv
              refine br_f hO hc15 ?_
              conv => cbv
              exact hL_9 _ _ ⟨false, ⟨(by (conv => lhs; cbv) <;> (subst hO; rfl)), (by (conv => lhs; cbv) <;> (subst hO; rfl))⟩, h⟩
          · rintro tm m ⟨j48, hs, h⟩
            unfold p4_9 at h
            obtain ⟨rfl, rfl⟩ := hs
            conv => cbv
            rw [hQ]
            exact ⟨j48, _, _, ⟨(by subst hO; rfl), (by subst hO; rfl)⟩, h⟩
      · rintro tm m ⟨j21, j22, hs, h⟩
        unfold p4_5 at h
        rcases hs with hs | hs
        · obtain ⟨rfl, rfl⟩ := hs
          conv => cbv
          exact hL_3 _ _ ⟨j21, j22, (.inr (.inr (.inl ⟨(by (conv => lhs; cbv) <;> (subst hO; rfl)), (by (conv => lhs; cbv) <;> (subst hO; rfl))⟩))), h⟩
        · obtain ⟨rfl, rfl⟩ := hs
          conv => cbv
          exact hL_3 _ _ ⟨j21, j22, (.inr (.inr (.inr ⟨(by (conv => lhs; cbv) <;> (subst hO; rfl)), (by (conv => lhs; cbv) <;> (subst hO; rfl))⟩))), h⟩
    · rintro tm m ⟨j2, j3, hs, h⟩
      unfold p4_3 at h
      rcases hs with hs | hs | hs | hs
      · obtain ⟨rfl, rfl⟩ := hs
        conv => cbv
        refine and_h h (fun g => (by subst hO; exact g)) (fun h => ?_)
        refine br_h hO h (by subst hO; rfl) (fun hc2 h => ?_) (fun hc2 h => ?_)
        · conv => cbv
          refine alt_l hO ?_
          conv => cbv
          refine call_h hO [.shut] (d_p20 fu O.len hN h) ?_
          intro os Q hos hQ
          conv => cbv
          refine view_full hO ?_
          conv => cbv
          refine ⟨(by (rw [hos]) <;> (subst hO; rfl)), ?_⟩
          intro r bs hq
          rw [hQ] at hq
          clear hos hQ h
          obtain ⟨y4, y5, y6, y7, y8, _, ⟨rfl, rfl⟩, h⟩ := hq
          conv => cbv
          refine reg_join hO tiA [4] [] [] (fun tm m => ∃ (j9 : Bool), ((tm = frame 0 172 [(4, .c (.v (.bool j9)))] ∧ m = ⟨[], 1⟩)) ∧ p4_1 False fu  K0  j9) (fun L hL_1 => ?_) ?_
          · conv => cbv
            refine br_h hO h (by subst hO; rfl) (fun hc3 h => ?_) (fun hc3 h => ?_)
            · conv => cbv
              refine br_t hO hc3 ?_
              conv => cbv
              refine br_t hO hc3 ?_
              conv => cbv
              refine br_h hO h (by subst hO; rfl) (fun hc4 h => ?_) (fun hc4 h => ?_)
              · conv => cbv
                refine br_t hO hc4 ?_
                conv => cbv
                refine br_t hO hc4 ?_
                conv => cbv
                refine br_t hO hc3 ?_
                conv => cbv
                refine br_t hO hc4 ?_
                conv => cbv
                refine br_t hO hc3 ?_
                conv => cbv
                exact hL_1 _ _ ⟨true, ⟨(by (conv => lhs; cbv) <;> (subst hO; rfl)), (by (conv => lhs; cbv) <;> (subst hO; rfl))⟩, h⟩
              · conv => cbv
                refine br_f hO hc4 ?_
                conv => cbv
                refine br_f hO hc4 ?_
                conv => cbv
                refine br_t hO hc3 ?_
                conv => cbv
                refine br_f hO hc4 ?_
                conv => cbv
                refine br_t hO hc3 ?_
                conv => cbv
                exact hL_1 _ _ ⟨(cmpStd .eql y8 6), ⟨(by (conv => lhs; cbv) <;> (subst hO; rfl)), (by (conv => lhs; cbv) <;> (subst hO; rfl))⟩, h⟩
            · conv => cbv
              refine br_f hO hc3 ?_
              conv => cbv
              refine br_f hO hc3 ?_
              conv => cbv
              refine br_f hO hc3 ?_
              conv => cbv
              refine br_f hO hc3 ?_
              conv => cbv
              exact hL_1 _ _ ⟨false, ⟨(by (conv => lhs; cbv) <;> (subst hO; rfl)), (by (conv => lhs; cbv) <;> (subst hO; rfl))⟩, h⟩
          · rintro tm m ⟨j9, hs, h⟩
            unfold p4_1 at h
            obtain ⟨rfl, rfl⟩ := hs
            conv => cbv
            rw [hQ]
            exact ⟨j9, _, _, ⟨(by subst hO; rfl), (by subst hO; rfl)⟩, h⟩
        · conv => cbv
          refine join_all hO ?_
          conv => cbv
          refine alt_l hO ?_
          conv => cbv
          refine call_h hO [.shut] (d_p18 fu O.len hN h) ?_
          intro os Q hos hQ
          conv => cbv
          refine view_full hO ?_
          conv => cbv
          refine ⟨(by (rw [hos]) <;> (subst hO; rfl)), ?_⟩
          intro r bs hq
          rw [hQ] at hq
          clear hos hQ h
          obtain ⟨y10, y11, y12, y13, y14, y15, y16, _, ⟨rfl, rfl⟩, h⟩ := hq
          conv => cbv
          refine reg_join hO tiA [4] [] [] (fun tm m => ∃ (j17 : Bool), ((tm = frame 0 172 [(4, .c (.v (.bool j17)))] ∧ m = ⟨[], 1⟩)) ∧ p4_2 False fu  K0  j17) (fun L hL_2 => ?_) ?_
          · conv => cbv
            refine br_h hO h (by subst hO; rfl) (fun hc5 h => ?_) (fun hc5 h => ?_)
            · conv => cbv
              refine br_t hO hc5 ?_
              conv => cbv
              refine br_t hO hc5 ?_
              conv => cbv
              refine br_h hO h (by subst hO; rfl) (fun hc6 h => ?_) (fun hc6 h => ?_)
              · conv => cbv
                refine br_t hO hc6 ?_
                conv => cbv
                refine br_t hO hc6 ?_
                conv => cbv
                refine br_t hO hc5 ?_
                conv => cbv
                refine br_t hO hc6 ?_
                conv => cbv
                refine br_t hO hc5 ?_
                conv => cbv
                exact hL_2 _ _ ⟨true, ⟨(by (conv => lhs; cbv) <;> (subst hO; rfl)), (by (conv => lhs; cbv) <;> (subst hO; rfl))⟩, h⟩
              · conv => cbv
                refine br_f hO hc6 ?_
                conv => cbv
                refine br_f hO hc6 ?_
                conv => cbv
                refine br_t hO hc5 ?_
                conv => cbv
                refine br_f hO hc6 ?_
                conv => cbv
                refine br_t hO hc5 ?_
                conv => cbv
                exact hL_2 _ _ ⟨(cmpStd .eql y16 6), ⟨(by (conv => lhs; cbv) <;> (subst hO; rfl)), (by (conv => lhs; cbv) <;> (subst hO; rfl))⟩, h⟩
            · conv => cbv
              refine br_f hO hc5 ?_
              conv => cbv
              refine br_f hO hc5 ?_
              conv => cbv
              refine br_f hO hc5 ?_
              conv => cbv
              refine br_f hO hc5 ?_
              conv => cbv
              exact hL_2 _ _ ⟨false, ⟨(by (conv => lhs; cbv) <;> (subst hO; rfl)), (by (conv => lhs; cbv) <;> (subst hO; rfl))⟩, h⟩
          · rintro tm m ⟨j17, hs, h⟩
            unfold p4_2 at h
            obtain ⟨rfl, rfl⟩ := hs
            conv => cbv
            rw [hQ]
            exact ⟨j17, _, _, ⟨(by subst hO; rfl), (by subst hO; rfl)⟩, h⟩
      · obtain ⟨rfl, rfl⟩ := hs
        conv => cbv
        refine and_h h (fun g => (by subst hO; exact g)) (fun h => ?_)
        refine br_h hO h (by subst hO; rfl) (fun hc2 h => ?_) (fun hc2 h => ?_)
        · conv => cbv
          refine alt_l hO ?_
          conv => cbv
          refine call_h hO [.shut] (d_p20 fu O.len hN h) ?_
          intro os Q hos hQ
          conv => cbv
          refine view_full hO ?_
          conv => cbv
          refine ⟨(by (rw [hos]) <;> (subst hO; rfl)), ?_⟩
          intro r bs hq
          rw [hQ] at hq
          clear hos hQ h
          obtain ⟨y4, y5, y6, y7, y8, _, ⟨rfl, rfl⟩, h⟩ := hq
          conv => cbv
          refine reg_join hO tiA [4] [] [] (fun tm m => ∃ (j9 : Bool), ((tm = frame 0 172 [(4, .c (.v (.bool j9)))] ∧ m = ⟨[], 1⟩)) ∧ p4_1 False fu  K0  j9) (fun L hL_1 => ?_) ?_
          · conv => cbv
            refine br_h hO h (by subst hO; rfl) (fun hc3 h => ?_) (fun hc3 h => ?_)
            · conv => cbv
              refine br_t hO hc3 ?_
              conv => cbv
              refine br_t hO hc3 ?_
              conv => cbv
              refine br_h hO h (by subst hO; rfl) (fun hc4 h => ?_) (fun hc4 h => ?_)
              · conv => cbv
                refine br_t hO hc4 ?_
                conv => cbv
                refine br_t hO hc4 ?_
                conv => cbv
                refine br_t hO hc3 ?_
                conv => cbv
                refine br_t hO hc4 ?_
                conv => cbv
                refine br_t hO hc3 ?_
                conv => cbv
                exact hL_1 _ _ ⟨true, ⟨(by (conv => lhs; cbv) <;> (subst hO; rfl)), (by (conv => lhs; cbv) <;> (subst hO; rfl))⟩, h⟩
              · conv => cbv
                refine br_f hO hc4 ?_
                conv => cbv
                refine br_f hO hc4 ?_
                conv => cbv
                refine br_t hO hc3 ?_
                conv => cbv
                refine br_f hO hc4 ?_
                conv => cbv
                refine br_t hO hc3 ?_
                conv => cbv
                exact hL_1 _ _ ⟨(cmpStd .eql y8 6), ⟨(by (conv => lhs; cbv) <;> (subst hO; rfl)), (by (conv => lhs; cbv) <;> (subst hO; rfl))⟩, h⟩
            · conv => cbv
              refine br_f hO hc3 ?_
              conv => cbv
              refine br_f hO hc3 ?_
              conv => cbv
              refine br_f hO hc3 ?_
              conv => cbv
              refine br_f hO hc3 ?_
              conv => cbv
              exact hL_1 _ _ ⟨false, ⟨(by (conv => lhs; cbv) <;> (subst hO; rfl)), (by (conv => lhs; cbv) <;> (subst hO; rfl))⟩, h⟩
          · rintro tm m ⟨j9, hs, h⟩
            unfold p4_1 at h
            obtain ⟨rfl, rfl⟩ := hs
            conv => cbv
            rw [hQ]
            exact ⟨j9, _, _, ⟨(by subst hO; rfl), (by subst hO; rfl)⟩, h⟩
        · conv => cbv
          refine join_all hO ?_
          conv => cbv
          refine alt_l hO ?_
          conv => cbv
          refine call_h hO [.shut] (d_p18 fu O.len hN h) ?_
          intro os Q hos hQ
          conv => cbv
          refine view_full hO ?_
          conv => cbv
          refine ⟨(by (rw [hos]) <;> (subst hO; rfl)), ?_⟩
          intro r bs hq
          rw [hQ] at hq
          clear hos hQ h
          obtain ⟨y10, y11, y12, y13, y14, y15, y16, _, ⟨rfl, rfl⟩, h⟩ := hq
          conv => cbv
          refine reg_join hO tiA [4] [] [] (fun tm m => ∃ (j17 : Bool), ((tm = frame 0 172 [(4, .c (.v (.bool j17)))] ∧ m = ⟨[], 1⟩)) ∧ p4_2 False fu  K0  j17) (fun L hL_2 => ?_) ?_
          · conv => cbv
            refine br_h hO h (by subst hO; rfl) (fun hc5 h => ?_) (fun hc5 h => ?_)
            · conv => cbv
              refine br_t hO hc5 ?_
              conv => cbv
              refine br_t hO hc5 ?_
              conv => cbv
              refine br_h hO h (by subst hO; rfl) (fun hc6 h => ?_) (fun hc6 h => ?_)
              · conv => cbv
                refine br_t hO hc6 ?_
                conv => cbv
                refine br_t hO hc6 ?_
                conv => cbv
                refine br_t hO hc5 ?_
                conv => cbv
                refine br_t hO hc6 ?_
                conv => cbv
                refine br_t hO hc5 ?_
                conv => cbv
                exact hL_2 _ _ ⟨true, ⟨(by (conv => lhs; cbv) <;> (subst hO; rfl)), (by (conv => lhs; cbv) <;> (subst hO; rfl))⟩, h⟩
              · conv => cbv
                refine br_f hO hc6 ?_
                conv => cbv
                refine br_f hO hc6 ?_
                conv => cbv
                refine br_t hO hc5 ?_
                conv => cbv
                refine br_f hO hc6 ?_
                conv => cbv
                refine br_t hO hc5 ?_
                conv => cbv
                exact hL_2 _ _ ⟨(cmpStd .eql y16 6), ⟨(by (conv => lhs; cbv) <;> (subst hO; rfl)), (by (conv => lhs; cbv) <;> (subst hO; rfl))⟩, h⟩
            · conv => cbv
              refine br_f hO hc5 ?_
              conv => cbv
              refine br_f hO hc5 ?_
              conv => cbv
              refine br_f hO hc5 ?_
              conv => cbv
              refine br_f hO hc5 ?_
              conv => cbv
              exact hL_2 _ _ ⟨false, ⟨(by (conv => lhs; cbv) <;> (subst hO; rfl)), (by (conv => lhs; cbv) <;> (subst hO; rfl))⟩, h⟩
          · rintro tm m ⟨j17, hs, h⟩
            unfold p4_2 at h
            obtain ⟨rfl, rfl⟩ := hs
            conv => cbv
            rw [hQ]
            exact ⟨j17, _, _, ⟨(by subst hO; rfl), (by subst hO; rfl)⟩, h⟩
      · obtain ⟨rfl, rfl⟩ := hs
        conv => cbv
        refine and_h h (fun g => (by subst hO; exact g)) (fun h => ?_)
        refine br_h hO h (by subst hO; rfl) (fun hc2 h => ?_) (fun hc2 h => ?_)
        · conv => cbv
          refine alt_l hO ?_
          conv => cbv
          refine call_h hO [.shut] (d_p20 fu O.len hN h) ?_
          intro os Q hos hQ
          conv => cbv
          refine view_full hO ?_
          conv => cbv
          refine ⟨(by (rw [hos]) <;> (subst hO; rfl)), ?_⟩
          intro r bs hq
          rw [hQ] at hq
          clear hos hQ h
          obtain ⟨y4, y5, y6, y7, y8, _, ⟨rfl, rfl⟩, h⟩ := hq
          conv => cbv
          refine reg_join hO tiA [4] [] [] (fun tm m => ∃ (j9 : Bool), ((tm = frame 0 172 [(4, .c (.v (.bool j9)))] ∧ m = ⟨[], 1⟩)) ∧ p4_1 False fu  K0  j9) (fun L hL_1 => ?_) ?_
          · conv => cbv
            refine br_h hO h (by subst hO; rfl) (fun hc3 h => ?_) (fun hc3 h => ?_)
            · conv => cbv
              refine br_t hO hc3 ?_
              conv => cbv
              refine br_t hO hc3 ?_
              conv => cbv
              refine br_h hO h (by subst hO; rfl) (fun hc4 h => ?_) (fun hc4 h => ?_)
              · conv => cbv
                refine br_t hO hc4 ?_
                conv => cbv
                refine br_t hO hc4 ?_
                conv => cbv
                refine br_t hO hc3 ?_
                conv => cbv
                refine br_t hO hc4 ?_
                conv => cbv
                refine br_t hO hc3 ?_
                conv => cbv
                exact hL_1 _ _ ⟨true, ⟨(by (conv => lhs; cbv) <;> (subst hO; rfl)), (by (conv => lhs; cbv) <;> (subst hO; rfl))⟩, h⟩
              · conv => cbv
                refine br_f hO hc4 ?_
                conv => cbv
                refine br_f hO hc4 ?_
                conv => cbv
                refine br_t hO hc3 ?_
                conv => cbv
                refine br_f hO hc4 ?_
                conv => cbv
                refine br_t hO hc3 ?_
                conv => cbv
                exact hL_1 _ _ ⟨(cmpStd .eql y8 6), ⟨(by (conv => lhs; cbv) <;> (subst hO; rfl)), (by (conv => lhs; cbv) <;> (subst hO; rfl))⟩, h⟩
            · conv => cbv
              refine br_f hO hc3 ?_
              conv => cbv
              refine br_f hO hc3 ?_
              conv => cbv
              refine br_f hO hc3 ?_
              conv => cbv
              refine br_f hO hc3 ?_
              conv => cbv
              exact hL_1 _ _ ⟨false, ⟨(by (conv => lhs; cbv) <;> (subst hO; rfl)), (by (conv => lhs; cbv) <;> (subst hO; rfl))⟩, h⟩
          · rintro tm m ⟨j9, hs, h⟩
            unfold p4_1 at h
            obtain ⟨rfl, rfl⟩ := hs
            conv => cbv
            rw [hQ]
            exact ⟨j9, _, _, ⟨(by subst hO; rfl), (by subst hO; rfl)⟩, h⟩
        · conv => cbv
          refine join_all hO ?_
          conv => cbv
          refine alt_l hO ?_
          conv => cbv
          refine call_h hO [.shut] (d_p18 fu O.len hN h) ?_
          intro os Q hos hQ
          conv => cbv
          refine view_full hO ?_
          conv => cbv
          refine ⟨(by (rw [hos]) <;> (subst hO; rfl)), ?_⟩
          intro r bs hq
          rw [hQ] at hq
          clear hos hQ h
          obtain ⟨y10, y11, y12, y13, y14, y15, y16, _, ⟨rfl, rfl⟩, h⟩ := hq
          conv => cbv
          refine reg_join hO tiA [4] [] [] (fun tm m => ∃ (j17 : Bool), ((tm = frame 0 172 [(4, .c (.v (.bool j17)))] ∧ m = ⟨[], 1⟩)) ∧ p4_2 False fu  K0  j17) (fun L hL_2 => ?_) ?_
          · conv => cbv
            refine br_h hO h (by subst hO; rfl) (fun hc5 h => ?_) (fun hc5 h => ?_)
            · conv => cbv
              refine br_t hO hc5 ?_
              conv => cbv
              refine br_t hO hc5 ?_
              conv => cbv
              refine br_h hO h (by subst hO; rfl) (fun hc6 h => ?_) (fun hc6 h => ?_)
              · conv => cbv
                refine br_t hO hc6 ?_
                conv => cbv
                refine br_t hO hc6 ?_
                conv => cbv
                refine br_t hO hc5 ?_
                conv => cbv
                refine br_t hO hc6 ?_
                conv => cbv
                refine br_t hO hc5 ?_
                conv => cbv
                exact hL_2 _ _ ⟨true, ⟨(by (conv => lhs; cbv) <;> (subst hO; rfl)), (by (conv => lhs; cbv) <;> (subst hO; rfl))⟩, h⟩
              · conv => cbv
                refine br_f hO hc6 ?_
                conv => cbv
                refine br_f hO hc6 ?_
                conv => cbv
                refine br_t hO hc5 ?_
                conv => cbv
                refine br_f hO hc6 ?_
                conv => cbv
                refine br_t hO hc5 ?_
                conv => cbv
                exact hL_2 _ _ ⟨(cmpStd .eql y16 6), ⟨(by (conv => lhs; cbv) <;> (subst hO; rfl)), (by (conv => lhs; cbv) <;> (subst hO; rfl))⟩, h⟩
            · conv => cbv
              refine br_f hO hc5 ?_
              conv => cbv
              refine br_f hO hc5 ?_
              conv => cbv
              refine br_f hO hc5 ?_
              conv => cbv
              refine br_f hO hc5 ?_
              conv => cbv
              exact hL_2 _ _ ⟨false, ⟨(by (conv => lhs; cbv) <;> (subst hO; rfl)), (by (conv => lhs; cbv) <;> (subst hO; rfl))⟩, h⟩
          · rintro tm m ⟨j17, hs, h⟩
            unfold p4_2 at h
            obtain ⟨rfl, rfl⟩ := hs
            conv => cbv
            rw [hQ]
            exact ⟨j17, _, _, ⟨(by subst hO; rfl), (by subst hO; rfl)⟩, h⟩
      · obtain ⟨rfl, rfl⟩ := hs
        conv => cbv
        refine and_h h (fun g => (by subst hO; exact g)) (fun h => ?_)
        refine br_h hO h (by subst hO; rfl) (fun hc2 h => ?_) (fun hc2 h => ?_)
        · conv => cbv
          refine alt_l hO ?_
          conv => cbv
          refine call_h hO [.shut] (d_p20 fu O.len hN h) ?_
          intro os Q hos hQ
          conv => cbv
          refine view_full hO ?_
          conv => cbv
          refine ⟨(by (rw [hos]) <;> (subst hO; rfl)), ?_⟩
          intro r bs hq
          rw [hQ] at hq
          clear hos hQ h
          obtain ⟨y4, y5, y6, y7, y8, _, ⟨rfl, rfl⟩, h⟩ := hq
          conv => cbv
          refine reg_join hO tiA [4] [] [] (fun tm m => ∃ (j9 : Bool), ((tm = frame 0 172 [(4, .c (.v (.bool j9)))] ∧ m = ⟨[], 1⟩)) ∧ p4_1 False fu  K0  j9) (fun L hL_1 => ?_) ?_
          · conv => cbv
            refine br_h hO h (by subst hO; rfl) (fun hc3 h => ?_) (fun hc3 h => ?_)
            · conv => cbv
              refine br_t hO hc3 ?_
              conv => cbv
              refine br_t hO hc3 ?_
              conv => cbv
              refine br_h hO h (by subst hO; rfl) (fun hc4 h => ?_) (fun hc4 h => ?_)
              · conv => cbv
                refine br_t hO hc4 ?_
                conv => cbv
                refine br_t hO hc4 ?_
                conv => cbv
                refine br_t hO hc3 ?_
                conv => cbv
                refine br_t hO hc4 ?_
                conv => cbv
                refine br_t hO hc3 ?_
                conv => cbv
                exact hL_1 _ _ ⟨true, ⟨(by (conv => lhs; cbv) <;> (subst hO; rfl)), (by (conv => lhs; cbv) <;> (subst hO; rfl))⟩, h⟩
              · conv => cbv
                refine br_f hO hc4 ?_
                conv => cbv
                refine br_f hO hc4 ?_
                conv => cbv
                refine br_t hO hc3 ?_
                conv => cbv
                refine br_f hO hc4 ?_
                conv => cbv
                refine br_t hO hc3 ?_
                conv => cbv
                exact hL_1 _ _ ⟨(cmpStd .eql y8 6), ⟨(by (conv => lhs; cbv) <;> (subst hO; rfl)), (by (conv => lhs; cbv) <;> (subst hO; rfl))⟩, h⟩
            · conv => cbv
              refine br_f hO hc3 ?_
              conv => cbv
              refine br_f hO hc3 ?_
              conv => cbv
              refine br_f hO hc3 ?_
              conv => cbv
              refine br_f hO hc3 ?_
              conv => cbv
              exact hL_1 _ _ ⟨false, ⟨(by (conv => lhs; cbv) <;> (subst hO; rfl)), (by (conv => lhs; cbv) <;> (subst hO; rfl))⟩, h⟩
          · rintro tm m ⟨j9, hs, h⟩
            unfold p4_1 at h
            obtain ⟨rfl, rfl⟩ := hs
            conv => cbv
            rw [hQ]
            exact ⟨j9, _, _, ⟨(by subst hO; rfl), (by subst hO; rfl)⟩, h⟩
        · conv => cbv
          refine join_all hO ?_
          conv => cbv
          refine alt_l hO ?_
          conv => cbv
          refine call_h hO [.shut] (d_p18 fu O.len hN h) ?_
          intro os Q hos hQ
          conv => cbv
          refine view_full hO ?_
          conv => cbv
          refine ⟨(by (rw [hos]) <;> (subst hO; rfl)), ?_⟩
          intro r bs hq
          rw [hQ] at hq
          clear hos hQ h
          obtain ⟨y10, y11, y12, y13, y14, y15, y16, _, ⟨rfl, rfl⟩, h⟩ := hq
          conv => cbv
          refine reg_join hO tiA [4] [] [] (fun tm m => ∃ (j17 : Bool), ((tm = frame 0 172 [(4, .c (.v (.bool j17)))] ∧ m = ⟨[], 1⟩)) ∧ p4_2 False fu  K0  j17) (fun L hL_2 => ?_) ?_
          · conv => cbv
            refine br_h hO h (by subst hO; rfl) (fun hc5 h => ?_) (fun hc5 h => ?_)
            · conv => cbv
              refine br_t hO hc5 ?_
              conv => cbv
              refine br_t hO hc5 ?_
              conv => cbv
              refine br_h hO h (by subst hO; rfl) (fun hc6 h => ?_) (fun hc6 h => ?_)
              · conv => cbv
                refine br_t hO hc6 ?_
                conv => cbv
                refine br_t hO hc6 ?_
                conv => cbv
                refine br_t hO hc5 ?_
                conv => cbv
                refine br_t hO hc6 ?_
                conv => cbv
                refine br_t hO hc5 ?_
                conv => cbv
                exact hL_2 _ _ ⟨true, ⟨(by (conv => lhs; cbv) <;> (subst hO; rfl)), (by (conv => lhs; cbv) <;> (subst hO; rfl))⟩, h⟩
              · conv => cbv
                refine br_f hO hc6 ?_
                conv => cbv
                refine br_f hO hc6 ?_
                conv => cbv
                refine br_t hO hc5 ?_
                conv => cbv
                refine br_f hO hc6 ?_
                conv => cbv
                refine br_t hO hc5 ?_
                conv => cbv
                exact hL_2 _ _ ⟨(cmpStd .eql y16 6), ⟨(by (conv => lhs; cbv) <;> (subst hO; rfl)), (by (conv => lhs; cbv) <;> (subst hO; rfl))⟩, h⟩
            · conv => cbv
              refine br_f hO hc5 ?_
              conv => cbv
              refine br_f hO hc5 ?_
              conv => cbv
              refine br_f hO hc5 ?_
              conv => cbv
              refine br_f hO hc5 ?_
              conv => cbv
              exact hL_2 _ _ ⟨false, ⟨(by (conv => lhs; cbv) <;> (subst hO; rfl)), (by (conv => lhs; cbv) <;> (subst hO; rfl))⟩, h⟩
          · rintro tm m ⟨j17, hs, h⟩
            unfold p4_2 at h
            obtain ⟨rfl, rfl⟩ := hs
            conv => cbv
            rw [hQ]
            exact ⟨j17, _, _, ⟨(by subst hO; rfl), (by subst hO; rfl)⟩, h⟩
end Go.Proofs.Ythncmjlcmlmnmaa
