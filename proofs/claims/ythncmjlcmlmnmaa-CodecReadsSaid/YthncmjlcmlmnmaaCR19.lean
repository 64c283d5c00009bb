/- Functions without memory, and that the Go functions are followed by them. Printed by gen.py. Conditions: none. -/
import Derived.Test.YthncmjlcmlmnmaaCR9
import Derived.Test.YthncmjlcmlmnmaaCR18
import Derived.Test.YthncmjlcmlmnmaaCR11
import Derived.Test.YthncmjlcmlmnmaaCR13
import Derived.Test.YthncmjlcmlmnmaaCR12
namespace Go.Proofs.Ythncmjlcmlmnmaa
open Go V
set_option maxRecDepth 100000
set_option maxHeartbeats 4000000
/-- codec.TakeDecl -/
def p35 {ρ : Type} (fail : ρ) (fu : Nat)  (K0 : Int → Int → Int → ByteArray → ByteArray → Int → Int → ByteArray → EL → EL → Int → Int → ByteArray → EL → EL → EL → Int → Int → ρ) (x0 : EL) : ρ :=
  p76 fail fu (fun y1 y2 y3 y4 y5 y6 y7 y8 y9 y10 y11 y12 y13 y14 y15 y16 y17 y18 => p66 fail fu (fun y19 y20 y21 y22 => bif (cmpStd .neq y20 0) then (K0 0 0 0 ⟨#[]⟩ ⟨#[]⟩ 0 0 ⟨#[]⟩ nilE nilE 0 0 ⟨#[]⟩ nilE nilE nilE 0 y20) else (K0 y1 y2 y3 y4 y5 y6 y7 y8 y9 y10 y11 y12 y13 y14 y15 y16 y19 0)) y17 y18 x0) x0 0
theorem d_p35 (fu : Nat)  {K0 : Int → Int → Int → ByteArray → ByteArray → Int → Int → ByteArray → EL → EL → Int → Int → ByteArray → EL → EL → EL → Int → Int → Prop} (L : EL → Nat) (hN : L = List.length) {x0 : EL} (h : p35 False fu K0 x0) : Den Try.prog G0 35 [.c (.sl 1 x0 none)] (fun r bs => (∃ (y0 : Int) (y1 : Int) (y2 : Int) (y3 : ByteArray) (y4 : ByteArray) (y5 : Int) (y6 : Int) (y7 : ByteArray) (y8 : EL) (y9 : EL) (y10 : Int) (y11 : Int) (y12 : ByteArray) (y13 : EL) (y14 : EL) (y15 : EL) (y16 : Int) (y17 : Int) (o0 : OV), (r = .tup [.agg [.c (.v (.int .i64 y0)), .c (.v (.int .i64 y1)), .c (.v (.int .i64 y2)), .c (.v (.string y3)), .c (.v (.string y4)), .c (.v (.int .i64 y5)), .c (.v (.int .i64 y6)), .c (.v (.string y7)), .c (.sl 3 y8 none), .c (.sl 5 y9 none), .c (.v (.int .i64 y10)), .c (.v (.int .i64 y11)), .c (.v (.string y12)), .c (.sl 3 y13 none), .c (.sl 5 y14 none), .c (.sl 6 y15 none)], .c (.v (.int .i64 y16)), .c (.v (.int .i64 y17))] ∧ bs = [o0]) ∧ K0 y0 y1 y2 y3 y4 y5 y6 y7 y8 y9 y10 y11 y12 y13 y14 y15 y16 y17)) := by
  obtain ⟨O, hO⟩ : ∃ O, O = std 0 T G0 (Den Try.prog G0) := ⟨_, rfl⟩
  have hLO : L = O.len := by rw [hN, hO]; rfl
  subst hLO
  refine den_h hO tiA mixed tabOk (fn := Try.f35) (sh := true) (by kernel_rfl) rfl rfl rfl rfl ?_
  intro Q hQ
  unfold p35 at h
  conv => cbv
  refine call_h hO [.ref 2] (d_p76 fu O.len hN h) ?_
  intro os Q hos hQ
  conv => cbv
  refine ⟨(by (rw [hos]) <;> (subst hO; rfl)), ?_⟩
  intro r bs hq
  rw [hQ] at hq
  clear hos hQ h
  obtain ⟨y1, y2, y3, y4, y5, y6, y7, y8, y9, y10, y11, y12, y13, y14, y15, y16, y17, y18, ⟨rfl, rfl⟩, h⟩ := hq
  conv => cbv
  refine call_h hO [.ref 2, .shut] (d_p66 fu O.len hN h) ?_
  intro os Q hos hQ
  conv => cbv
  refine ⟨(by (rw [hos]) <;> (subst hO; rfl)), ?_⟩
  intro r bs hq
  rw [hQ] at hq
  clear hos hQ h
  obtain ⟨y19, y20, y21, y22, _, ⟨rfl, rfl⟩, h⟩ := hq
  conv => cbv
  refine br_h hO h (by subst hO; rfl) (fun hc1 h => ?_) (fun hc1 h => ?_)
  · conv => cbv
    rw [hQ]
    exact ⟨0, 0, 0, ⟨#[]⟩, ⟨#[]⟩, 0, 0, ⟨#[]⟩, nilE, nilE, 0, 0, ⟨#[]⟩, nilE, nilE, nilE, 0, y20, _, ⟨(by subst hO; rfl), (by subst hO; rfl)⟩, h⟩
  · conv => cbv
    refine join_all hO ?_
    conv => cbv
    rw [hQ]
    exact ⟨y1, y2, y3, y4, y5, y6, y7, y8, y9, y10, y11, y12, y13, y14, y15, y16, y19, 0, _, ⟨(by subst hO; rfl), (by subst hO; rfl)⟩, h⟩
end Go.Proofs.Ythncmjlcmlmnmaa

namespace Go.Proofs.Ythncmjlcmlmnmaa
open Go V
set_option maxRecDepth 100000
set_option maxHeartbeats 2000000
/-- A constructor's row. -/
def ctRow (c : ByteArray × Tm) : List CV := [.v (.string c.1), .v (.int .i64 c.2.k), .v (.int .i64 c.2.n), .v (.string c.2.nm), .sl 3 (Lv.rows c.2.ls) none, .sl 5 (Tm.rows c.2.args) none]
structure Dc where
  k : Int
  pa : Int
  ct : Int
  nm : ByteArray
  fam : ByteArray
  ty : Tm
  val : Tm
  cs : List (ByteArray × Tm)
def rdCt (p : Nat) (bs : List UInt8) : Except Int ((ByteArray × Tm) × List UInt8 × Nat) := match rdTxt 24 bs with
  | .error e => .error e
  | .ok (s, bs) => match rdTerm bs with
    | .error e => .error e
    | .ok (t, bs) => .ok ((⟨s.toArray⟩, t), bs, p)
def rdVal (k : Nat) (bs : List UInt8) : Except Int (Tm × List UInt8) := match rdV bs with
  | .error e => .error e
  | .ok (v, bs) => if 1 < v ∨ ((v = 1) ↔ ¬ (k = 2)) then .error 5 else if v = 1 then rdTerm bs else .ok (tm0, bs)
def rdCts (bs : List UInt8) : Except Int (List (ByteArray × Tm) × List UInt8) := match rdNum bs with
  | .error e => .error e
  | .ok (n, bs) => if 5 < n then .error 3 else match many rdCt n 0 bs with
    | .error e => .error e
    | .ok (l, bs, _) => .ok (l, bs)
/-- The value and the constructors. -/
def rdTail (k : Nat) (bs : List UInt8) : Except Int (Tm × List (ByteArray × Tm) × List UInt8) := match rdVal k bs with
  | .error e => .error e
  | .ok (val, bs) => match rdCts bs with
    | .error e => .error e
    | .ok (cs, bs) => .ok (val, cs, bs)
def rdD6 (k : Nat) (bs : List UInt8) : Except Int (Tm × Tm × List (ByteArray × Tm) × List UInt8) := match rdTerm bs with
  | .error e => .error e
  | .ok (ty, bs) => match rdTail k bs with
    | .error e => .error e
    | .ok (val, cs, bs) => .ok (ty, val, cs, bs)
def rdD5 (k : Nat) (bs : List UInt8) : Except Int (ByteArray × Tm × Tm × List (ByteArray × Tm) × List UInt8) := match rdTxt 24 bs with
  | .error e => .error e
  | .ok (s, bs) => match rdD6 k bs with
    | .error e => .error e
    | .ok x => .ok (⟨s.toArray⟩, x)
def rdD4 (k : Nat) (bs : List UInt8) : Except Int (ByteArray × ByteArray × Tm × Tm × List (ByteArray × Tm) × List UInt8) := match rdTxt 24 bs with
  | .error e => .error e
  | .ok (s, bs) => match rdD5 k bs with
    | .error e => .error e
    | .ok x => .ok (⟨s.toArray⟩, x)
def rdD3 (k : Nat) (bs : List UInt8) : Except Int (Nat × ByteArray × ByteArray × Tm × Tm × List (ByteArray × Tm) × List UInt8) := match rdNum bs with
  | .error e => .error e
  | .ok (n, bs) => match rdD4 k bs with
    | .error e => .error e
    | .ok x => .ok (n, x)
def rdD2 (k : Nat) (bs : List UInt8) : Except Int (Nat × Nat × ByteArray × ByteArray × Tm × Tm × List (ByteArray × Tm) × List UInt8) := match rdNum bs with
  | .error e => .error e
  | .ok (n, bs) => match rdD3 k bs with
    | .error e => .error e
    | .ok x => .ok (n, x)
/-- A declaration that begins bytes. -/
def rdDecl (bs : List UInt8) : Except Int (Dc × List UInt8) := match rdKind 1 5 bs with
  | .error e => .error e
  | .ok (k, bs) => match rdD2 k bs with
    | .error e => .error e
    | .ok (pa, ct, nm, fam, ty, val, cs, bs) => .ok (⟨(k : Nat), (pa : Nat), (ct : Nat), nm, fam, ty, val, cs⟩, bs)
abbrev DK (ρ : Type) := Int → Int → Int → ByteArray → ByteArray → Int → Int → ByteArray → EL → EL → Int → Int → ByteArray → EL → EL → EL → EL → Int → ρ
def DErr {ρ : Type} (p : DK ρ → ρ) (e : Int) : Prop := e ≠ 0 ∧ ∃ a b c d f g h i j k l m n o q r s, ∀ K : DK ρ, p K = K a b c d f g h i j k l m n o q r s e
def DOut {ρ : Type} (p : DK ρ → ρ) : Except Int (Dc × List UInt8) → Prop
  | .ok (d, bs) => ∀ K : DK ρ, p K = K d.k d.pa d.ct d.nm d.fam d.ty.k d.ty.n d.ty.nm (Lv.rows d.ty.ls) (Tm.rows d.ty.args) d.val.k d.val.n d.val.nm (Lv.rows d.val.ls) (Tm.rows d.val.args) (d.cs.map ctRow) (encB bs) 0
  | .error e => DErr p e
theorem DErr.of {ρ : Type} {p : DK ρ → ρ} {e : Int} (he : e ≠ 0) {a b c : Int} {d f : ByteArray} {g h : Int} {i : ByteArray} {j k : EL} {l m : Int} {n : ByteArray} {o q r s : EL} (hp : ∀ K : DK ρ, p K = K a b c d f g h i j k l m n o q r s e) : DErr p e := ⟨he, a, b, c, d, f, g, h, i, j, k, l, m, n, o, q, r, s, hp⟩
theorem DErr.eq {ρ : Type} {p p' : DK ρ → ρ} {e : Int} (h : DErr p' e) (hp : ∀ K, p K = p' K) : DErr p e := by
  obtain ⟨he, a, b, c, d, f, g, h, i, j, k, l, m, n, o, q, r, s, h1⟩ := h
  exact DErr.of he fun K => (hp K).trans (h1 K)
section
variable {ρ : Type} (fail : ρ) (fu : Nat) (hfu : 200 ≤ fu)
section
variable (y1 y4 y7 : Int) (s13 s17 : ByteArray) (j20 j21 : Int) (j22 : ByteArray) (j23 j24 : EL)
section
variable (j34 j35 : Int) (j36 : ByteArray) (j37 j38 : EL)
include hfu
theorem ctLoop (N : Nat) (hN : N ≤ 1099511627776) : ∀ (r n : Nat) (bs : List UInt8) (p : Nat) (z : EL) (i : Nat), bs.length ≤ N → z.length ≤ i → i + r ≤ 1000 → r < n →
    match many rdCt r p bs with
    | .ok (l, bs', _) => ∀ K : DK ρ, p76_2L fail fu K y1 y4 y7 s13 s17 j20 j21 j22 j23 j24 j34 j35 j36 j37 j38 ((i + r : Nat) : Int) n (encB bs) 0 z (i : Nat) = K y1 y4 y7 s13 s17 j20 j21 j22 j23 j24 j34 j35 j36 j37 j38 (z ++ l.map ctRow) (encB bs') 0
    | .error e => DErr (fun K => p76_2L fail fu K y1 y4 y7 s13 s17 j20 j21 j22 j23 j24 j34 j35 j36 j37 j38 ((i + r : Nat) : Int) n (encB bs) 0 z (i : Nat)) e
  | 0, n + 1, bs, p, z, i, hb, hz, hi, hn => by
    simp only [many]
    intro K
    rw [p76_2L, p76_2, lssF (by omega), cond_false]
    simp
  | r + 1, n + 1, bs, p, z, i, hb, hz, hi, hn => by
    have htxt := text_eq (ρ := ρ) fail fu (by omega) bs (by omega) 24 (by omega)
    simp only [many]
    have step : ∀ K : DK ρ, p76_2L fail fu K y1 y4 y7 s13 s17 j20 j21 j22 j23 j24 j34 j35 j36 j37 j38 ((i + (r + 1) : Nat) : Int) (n + 1) (encB bs) 0 z (i : Nat) = p95 fail fu (fun y48 y49 y50 => tobP fail y48 (fun s51 => bif (cmpStd .eql y50 0) then (p65 fail fu (fun y59 y60 y61 y62 y63 y64 y65 => p76_2L fail fu K y1 y4 y7 s13 s17 j20 j21 j22 j23 j24 j34 j35 j36 j37 j38 ((i + 1 + r : Nat) : Int) n y64 y65 (z ++ [[.v (.string s51), .v (.int .i64 y59), .v (.int .i64 y60), .v (.string y61), .sl 3 y62 none, .sl 5 y63 none]]) ((i + 1 : Nat) : Int)) y49 y50) else (p76_2L fail fu K y1 y4 y7 s13 s17 j20 j21 j22 j23 j24 j34 j35 j36 j37 j38 ((i + 1 + r : Nat) : Int) n y49 y50 (z ++ [[.v (.string s51), .v (.int .i64 0), .v (.int .i64 0), .v (.string ⟨#[]⟩), .sl 3 nilE none, .sl 5 nilE none]]) ((i + 1 : Nat) : Int)))) (encB bs) 0 ((24 : Nat) : Int) := fun K => by
      have h1 : ∀ (a : ByteArray) (b c : Int) (d : ByteArray) (l g B : EL) (e : Int), p76_1 fail fu K (p76_2L fail fu K y1 y4 y7 s13 s17 j20 j21 j22 j23 j24 j34 j35 j36 j37 j38 ((i + 1 + r : Nat) : Int) n) z ((i : Nat) : Int) a B e b c d l g = p76_2L fail fu K y1 y4 y7 s13 s17 j20 j21 j22 j23 j24 j34 j35 j36 j37 j38 ((i + 1 + r : Nat) : Int) n B e (z ++ [[.v (.string a), .v (.int .i64 b), .v (.int .i64 c), .v (.string d), .sl 3 l none, .sl 5 g none]]) ((i + 1 : Nat) : Int) := fun a b c d l g B e => by
        rw [p76_1, gd_y (by simp), gd_y (by simp; omega), addZ (by omega) (by omega), show ((i : Nat) : Int) + 1 = ((i + 1 : Nat) : Int) by omega]
        rfl
      rw [p76_2L, p76_2, lssT (by omega), cond_true, neqF rfl, cond_false, show i + (r + 1) = i + 1 + r by omega]
      simp only [h1]
      rfl
    have dead : ∀ (B : EL) (e : Int) (w : EL), e ≠ 0 → ∀ K : DK ρ, p76_2L fail fu K y1 y4 y7 s13 s17 j20 j21 j22 j23 j24 j34 j35 j36 j37 j38 ((i + 1 + r : Nat) : Int) n B e w ((i + 1 : Nat) : Int) = K y1 y4 y7 s13 s17 j20 j21 j22 j23 j24 j34 j35 j36 j37 j38 w B e := fun B e w he K => by
      obtain ⟨n, rfl⟩ : ∃ n', n = n' + 1 := ⟨n - 1, by omega⟩
      rw [p76_2L, p76_2]
      by_cases h0 : r = 0
      · rw [lssF (by omega), cond_false]
      · rw [lssT (by omega), cond_true, neqT he, cond_true]
    unfold rdCt
    cases ht : rdTxt 24 bs with
    | error e =>
      rw [ht] at htxt
      obtain ⟨he, B, hB⟩ := htxt
      dsimp only at hB
      refine DErr.of (a := y1) (b := y4) (c := y7) (d := s13) (f := s17) (g := j20) (h := j21) (i := j22) (j := j23) (k := j24) (l := j34) (m := j35) (n := j36) (o := j37) (q := j38) (r := z ++ [[.v (.string ⟨#[]⟩), .v (.int .i64 0), .v (.int .i64 0), .v (.string ⟨#[]⟩), .sl 3 nilE none, .sl 5 nilE none]]) (s := B) he fun K => ?_
      exact (step K).trans ((hB _).trans (by rw [show (nilE : EL) = encB [] from rfl, tobP_enc, eqlF he, cond_false]; exact dead B e _ he K))
    | ok x =>
      obtain ⟨sx, bs1⟩ := x
      have ht1 := rdTxt_ok ht
      rw [ht] at htxt
      simp only [SOut] at htxt
      have htm := Term_rd (ρ := ρ) fail fu (by omega) bs1 (by omega)
      have step2 : ∀ K : DK ρ, p76_2L fail fu K y1 y4 y7 s13 s17 j20 j21 j22 j23 j24 j34 j35 j36 j37 j38 ((i + (r + 1) : Nat) : Int) (n + 1) (encB bs) 0 z (i : Nat) = p65 fail fu (fun y59 y60 y61 y62 y63 y64 y65 => p76_2L fail fu K y1 y4 y7 s13 s17 j20 j21 j22 j23 j24 j34 j35 j36 j37 j38 ((i + 1 + r : Nat) : Int) n y64 y65 (z ++ [[.v (.string ⟨sx.toArray⟩), .v (.int .i64 y59), .v (.int .i64 y60), .v (.string y61), .sl 3 y62 none, .sl 5 y63 none]]) ((i + 1 : Nat) : Int)) (encB bs1) 0 := fun K => by
        rw [step, htxt, tobP_enc, eqlT rfl, cond_true]
      try dsimp only
      cases htt : rdTerm bs1 with
      | error e =>
        rw [htt] at htm
        obtain ⟨he, a, b, c, l, g, B, hB⟩ := htm
        dsimp only at hB
        refine DErr.of (a := y1) (b := y4) (c := y7) (d := s13) (f := s17) (g := j20) (h := j21) (i := j22) (j := j23) (k := j24) (l := j34) (m := j35) (n := j36) (o := j37) (q := j38) (r := z ++ [[.v (.string ⟨sx.toArray⟩), .v (.int .i64 a), .v (.int .i64 b), .v (.string c), .sl 3 l none, .sl 5 g none]]) (s := B) he fun K => ?_
        exact (step2 K).trans ((hB _).trans (dead B e _ he K))
      | ok x =>
        obtain ⟨t, bs2⟩ := x
        have hsub := rdTerm_sub htt
        rw [htt] at htm
        simp only [TmO2] at htm
        have ih := ctLoop N hN r n bs2 p (z ++ [ctRow (⟨sx.toArray⟩, t)]) (i + 1) (by omega) (by simp; omega) (by omega) (by omega)
        have hrow : ∀ K : DK ρ, p76_2L fail fu K y1 y4 y7 s13 s17 j20 j21 j22 j23 j24 j34 j35 j36 j37 j38 ((i + (r + 1) : Nat) : Int) (n + 1) (encB bs) 0 z (i : Nat) = p76_2L fail fu K y1 y4 y7 s13 s17 j20 j21 j22 j23 j24 j34 j35 j36 j37 j38 ((i + 1 + r : Nat) : Int) n (encB bs2) 0 (z ++ [ctRow (⟨sx.toArray⟩, t)]) ((i + 1 : Nat) : Int) := fun K => by
          rw [step2, htm]; rfl
        try dsimp only
        have hfold : many (fun p bs => match rdTxt 24 bs with | .error e => Except.error e | .ok (s, bs) => match rdTerm bs with | .error e => .error e | .ok (t, bs) => .ok (((⟨s.toArray⟩ : ByteArray), t), bs, p)) r p bs2 = many rdCt r p bs2 := rfl
        rw [hfold]
        cases hm : many rdCt r p bs2 with
        | error e =>
          rw [hm] at ih
          exact DErr.eq ih hrow
        | ok x =>
          obtain ⟨l, bs3, p2⟩ := x
          rw [hm] at ih
          intro K
          rw [hrow, ih, List.append_assoc]; rfl
/-- Behind an error nothing more is read: the constructors. -/
theorem dead4 (B : EL) (e : Int) (he : e ≠ 0) (K : DK ρ) : p76_4 fail fu K y1 y4 y7 s13 s17 j20 j21 j22 j23 j24 B e j34 j35 j36 j37 j38 = K y1 y4 y7 s13 s17 j20 j21 j22 j23 j24 j34 j35 j36 j37 j38 nilE B e := by
  rw [p76_4, numE _ _ _ _ _ he, gtrF (by omega), cond_false, p76_3]
  obtain ⟨m, hm⟩ : ∃ m, fu = m + 1 := ⟨fu - 1, by omega⟩
  have : ∀ m', m' = m + 1 → p76_2L fail fu K y1 y4 y7 s13 s17 j20 j21 j22 j23 j24 j34 j35 j36 j37 j38 0 m' B e nilE 0 = K y1 y4 y7 s13 s17 j20 j21 j22 j23 j24 j34 j35 j36 j37 j38 nilE B e := fun m' h => by
    subst h; rw [p76_2L, p76_2, lssF (by omega), cond_false]
  exact this fu hm
theorem cts_rd (bs : List UInt8) (hb : bs.length ≤ 1099511627776) : match rdCts bs with
    | .ok (l, bs') => ∀ K : DK ρ, p76_4 fail fu K y1 y4 y7 s13 s17 j20 j21 j22 j23 j24 (encB bs) 0 j34 j35 j36 j37 j38 = K y1 y4 y7 s13 s17 j20 j21 j22 j23 j24 j34 j35 j36 j37 j38 (l.map ctRow) (encB bs') 0
    | .error e => DErr (fun K => p76_4 fail fu K y1 y4 y7 s13 s17 j20 j21 j22 j23 j24 (encB bs) 0 j34 j35 j36 j37 j38) e := by
  have hnum := num_eq (ρ := ρ) fail fu (by omega) bs hb
  unfold rdCts
  cases hn : rdNum bs with
  | error e =>
    rw [hn] at hnum
    obtain ⟨he, B, hB⟩ := hnum
    dsimp only at hB
    refine DErr.of (a := y1) (b := y4) (c := y7) (d := s13) (f := s17) (g := j20) (h := j21) (i := j22) (j := j23) (k := j24) (l := j34) (m := j35) (n := j36) (o := j37) (q := j38) (r := nilE) (s := B) he fun K => ?_
    try dsimp only
    rw [p76_4, hB, gtrF (by omega), cond_false, p76_3]
    obtain ⟨m, hm⟩ : ∃ m, fu = m + 1 := ⟨fu - 1, by omega⟩
    have : ∀ m', m' = m + 1 → p76_2L fail fu K y1 y4 y7 s13 s17 j20 j21 j22 j23 j24 j34 j35 j36 j37 j38 0 m' B e nilE 0 = K y1 y4 y7 s13 s17 j20 j21 j22 j23 j24 j34 j35 j36 j37 j38 nilE B e := fun m' h => by
      subst h; rw [p76_2L, p76_2, lssF (by omega), cond_false]
    exact this fu hm
  | ok x =>
    obtain ⟨n, bs1⟩ := x
    have hn1 := rdNum_ok hn
    rw [hn] at hnum
    simp only [KOut] at hnum
    try dsimp only
    by_cases h5 : 5 < n
    · rw [if_pos h5]
      refine DErr.of (a := y1) (b := y4) (c := y7) (d := s13) (f := s17) (g := j20) (h := j21) (i := j22) (j := j23) (k := j24) (l := j34) (m := j35) (n := j36) (o := j37) (q := j38) (r := nilE) (s := encB bs1) (show (3 : Int) ≠ 0 by decide) fun K => ?_
      try dsimp only
      rw [p76_4, hnum, gtrT (by omega), cond_true, fails0, p76_3]
      obtain ⟨m, hm⟩ : ∃ m, fu = m + 1 := ⟨fu - 1, by omega⟩
      have : ∀ m', m' = m + 1 → p76_2L fail fu K y1 y4 y7 s13 s17 j20 j21 j22 j23 j24 j34 j35 j36 j37 j38 ((n : Nat) : Int) m' (encB bs1) 3 nilE 0 = K y1 y4 y7 s13 s17 j20 j21 j22 j23 j24 j34 j35 j36 j37 j38 nilE (encB bs1) 3 := fun m' h => by
        subst h; rw [p76_2L, p76_2, lssT (by omega), cond_true, neqT (by omega), cond_true]
      exact this fu hm
    · rw [if_neg h5]
      have hstep : ∀ K : DK ρ, p76_4 fail fu K y1 y4 y7 s13 s17 j20 j21 j22 j23 j24 (encB bs) 0 j34 j35 j36 j37 j38 = p76_2L fail fu K y1 y4 y7 s13 s17 j20 j21 j22 j23 j24 j34 j35 j36 j37 j38 ((0 + n : Nat) : Int) fu (encB bs1) 0 nilE ((0 : Nat) : Int) := fun K => by
        rw [p76_4, hnum, gtrF (by omega), cond_false, p76_3, Nat.zero_add]; rfl
      have := ctLoop (ρ := ρ) fail fu hfu y1 y4 y7 s13 s17 j20 j21 j22 j23 j24 j34 j35 j36 j37 j38 1099511627776 (by omega) n fu bs1 0 nilE 0 (by omega) (by simp) (by omega) (by omega)
      cases hm : many rdCt n 0 bs1 with
      | error e =>
        rw [hm] at this
        exact DErr.eq this hstep
      | ok x =>
        obtain ⟨l, bs2, p2⟩ := x
        rw [hm] at this
        intro K
        rw [hstep, this K]; rfl
end
include hfu
theorem dead8 (B : EL) (e : Int) (he : e ≠ 0) (K : DK ρ) : p76_8 fail fu K y1 y4 y7 s13 s17 B e j20 j21 j22 j23 j24 = K y1 y4 y7 s13 s17 j20 j21 j22 j23 j24 0 0 ⟨#[]⟩ nilE nilE nilE B e := by
  rw [p76_8, rawE _ _ _ _ _ he, gtrF (by omega), cond_false, p76_7]
  cases (!((cmpStd .eql 0 1) == (cmpStd .eql y1 2))) with
  | true => rw [cond_true, failsE _ _ _ _ _ _ he, p76_6, eqlF he, cond_false, p76_5, cond_false, dead4 fail fu hfu _ _ _ _ _ _ _ _ _ _ _ _ _ _ _ B e he]
  | false => rw [cond_false, p76_6, eqlF he, cond_false, p76_5, cond_false, dead4 fail fu hfu _ _ _ _ _ _ _ _ _ _ _ _ _ _ _ B e he]
theorem tail_rd (k : Nat) (hk : k ≤ 5) (hy : y1 = (k : Nat)) (bs : List UInt8) (hb : bs.length ≤ 1099511627776) : match rdTail k bs with
    | .ok (val, l, bs') => ∀ K : DK ρ, p76_8 fail fu K y1 y4 y7 s13 s17 (encB bs) 0 j20 j21 j22 j23 j24 = K y1 y4 y7 s13 s17 j20 j21 j22 j23 j24 val.k val.n val.nm (Lv.rows val.ls) (Tm.rows val.args) (l.map ctRow) (encB bs') 0
    | .error e => DErr (fun K => p76_8 fail fu K y1 y4 y7 s13 s17 (encB bs) 0 j20 j21 j22 j23 j24) e := by
  have hraw := fun K => raw_eq (ρ := ρ) fail fu (by omega) K bs hb
  unfold rdTail rdVal
  cases hr : rdV bs with
  | error e =>
    have he := rdV_err hr
    rw [hr] at hraw
    have he0 : e ≠ 0 := by omega
    refine DErr.of (a := y1) (b := y4) (c := y7) (d := s13) (f := s17) (g := j20) (h := j21) (i := j22) (j := j23) (k := j24) (l := 0) (m := 0) (n := ⟨#[]⟩) (o := nilE) (q := nilE) (r := nilE) (s := encB bs) he0 fun K => ?_
    try dsimp only
    rw [p76_8, hraw]
    simp only [rdK]
    rw [gtrF (by omega), cond_false, p76_7]
    cases (!((cmpStd .eql 0 1) == (cmpStd .eql y1 2))) with
    | true => rw [cond_true, failsE _ _ _ _ _ _ he0, p76_6, eqlF he0, cond_false, p76_5, cond_false, dead4 fail fu hfu _ _ _ _ _ _ _ _ _ _ _ _ _ _ _ (encB bs) e he0]
    | false => rw [cond_false, p76_6, eqlF he0, cond_false, p76_5, cond_false, dead4 fail fu hfu _ _ _ _ _ _ _ _ _ _ _ _ _ _ _ (encB bs) e he0]
  | ok x =>
    obtain ⟨v, bs1⟩ := x
    have hv := rdV_ok hr
    rw [hr] at hraw
    try dsimp only
    have hc : ∀ K : DK ρ, p76_8 fail fu K y1 y4 y7 s13 s17 (encB bs) 0 j20 j21 j22 j23 j24 = p76_7 fail fu K y1 y4 y7 s13 s17 j20 j21 j22 j23 j24 ((v : Nat) : Int) (encB bs1) 0 (decide (1 < v ∨ ((v = 1) ↔ ¬ (k = 2)))) := fun K => by
      rw [p76_8, hraw]
      simp only [rdK]
      by_cases h1 : 1 < v
      · rw [gtrT (by omega), cond_true, decide_eq_true (.inl h1)]
      · rw [gtrF (by omega), cond_false]
        have e1 : cmpStd .eql ((v : Nat) : Int) 1 = decide (v = 1) := by
          by_cases q : v = 1
          · rw [eqlT (by omega), decide_eq_true q]
          · rw [eqlF (by omega), decide_eq_false q]
        have e2 : cmpStd .eql y1 2 = decide (k = 2) := by
          by_cases q : k = 2
          · rw [eqlT (by omega), decide_eq_true q]
          · rw [eqlF (by omega), decide_eq_false q]
        rw [e1, e2]
        congr 1
        by_cases hv1 : v = 1 <;> by_cases hk2 : k = 2 <;> simp [hv1, hk2, h1]
    by_cases hbad : 1 < v ∨ ((v = 1) ↔ ¬ (k = 2))
    · rw [if_pos hbad]
      have he0 : (5 : Int) ≠ 0 := by decide
      refine DErr.of (a := y1) (b := y4) (c := y7) (d := s13) (f := s17) (g := j20) (h := j21) (i := j22) (j := j23) (k := j24) (l := 0) (m := 0) (n := ⟨#[]⟩) (o := nilE) (q := nilE) (r := nilE) (s := encB bs1) he0 fun K => ?_
      try dsimp only
      rw [hc, decide_eq_true hbad, p76_7, cond_true, fails0, p76_6, eqlF he0, cond_false, p76_5, cond_false, dead4 fail fu hfu _ _ _ _ _ _ _ _ _ _ _ _ _ _ _ (encB bs1) 5 he0]
    · rw [if_neg hbad]
      have hc2 : ∀ K : DK ρ, p76_8 fail fu K y1 y4 y7 s13 s17 (encB bs) 0 j20 j21 j22 j23 j24 = p76_5 fail fu K y1 y4 y7 s13 s17 j20 j21 j22 j23 j24 (encB bs1) 0 (cmpStd .eql ((v : Nat) : Int) 1) := fun K => by
        rw [hc, decide_eq_false hbad, p76_7, cond_false, p76_6, eqlT rfl, cond_true]
      by_cases hv1 : v = 1
      · rw [if_pos hv1]
        have htm := Term_rd (ρ := ρ) fail fu (by omega) bs1 (by omega)
        have hc3 : ∀ K : DK ρ, p76_8 fail fu K y1 y4 y7 s13 s17 (encB bs) 0 j20 j21 j22 j23 j24 = p65 fail fu (fun y68 y69 y70 y71 y72 y73 y74 => p76_4 fail fu K y1 y4 y7 s13 s17 j20 j21 j22 j23 j24 y73 y74 y68 y69 y70 y71 y72) (encB bs1) 0 := fun K => by
          rw [hc2, eqlT (by omega), p76_5, cond_true]
        cases htt : rdTerm bs1 with
        | error e =>
          rw [htt] at htm
          obtain ⟨he, a, b, c, l, g, B, hB⟩ := htm
          dsimp only at hB
          refine DErr.of (a := y1) (b := y4) (c := y7) (d := s13) (f := s17) (g := j20) (h := j21) (i := j22) (j := j23) (k := j24) (l := a) (m := b) (n := c) (o := l) (q := g) (r := nilE) (s := B) he fun K => ?_
          exact (hc3 K).trans ((hB _).trans (dead4 fail fu hfu _ _ _ _ _ _ _ _ _ _ _ _ _ _ _ B e he K))
        | ok x =>
          obtain ⟨t, bs2⟩ := x
          have hsub := rdTerm_sub htt
          rw [htt] at htm
          simp only [TmO2] at htm
          have hcts := cts_rd (ρ := ρ) fail fu hfu y1 y4 y7 s13 s17 j20 j21 j22 j23 j24 t.k t.n t.nm (Lv.rows t.ls) (Tm.rows t.args) bs2 (by omega)
          have hc4 : ∀ K : DK ρ, p76_8 fail fu K y1 y4 y7 s13 s17 (encB bs) 0 j20 j21 j22 j23 j24 = p76_4 fail fu K y1 y4 y7 s13 s17 j20 j21 j22 j23 j24 (encB bs2) 0 t.k t.n t.nm (Lv.rows t.ls) (Tm.rows t.args) := fun K => by rw [hc3, htm]
          try dsimp only
          cases hcc : rdCts bs2 with
          | error e => rw [hcc] at hcts; exact DErr.eq hcts hc4
          | ok x => obtain ⟨l, bs3⟩ := x; rw [hcc] at hcts; intro K; rw [hc4, hcts K]
      · rw [if_neg hv1]
        have hcts := cts_rd (ρ := ρ) fail fu hfu y1 y4 y7 s13 s17 j20 j21 j22 j23 j24 0 0 ⟨#[]⟩ nilE nilE bs1 (by omega)
        have hc3 : ∀ K : DK ρ, p76_8 fail fu K y1 y4 y7 s13 s17 (encB bs) 0 j20 j21 j22 j23 j24 = p76_4 fail fu K y1 y4 y7 s13 s17 j20 j21 j22 j23 j24 (encB bs1) 0 0 0 ⟨#[]⟩ nilE nilE := fun K => by
          rw [hc2, eqlF (by omega), p76_5, cond_false]
        try dsimp only
        cases hcc : rdCts bs1 with
        | error e => rw [hcc] at hcts; exact DErr.eq hcts hc3
        | ok x => obtain ⟨l, bs3⟩ := x; rw [hcc] at hcts; intro K; rw [hc3, hcts K]; rfl
end
end
end Go.Proofs.Ythncmjlcmlmnmaa

