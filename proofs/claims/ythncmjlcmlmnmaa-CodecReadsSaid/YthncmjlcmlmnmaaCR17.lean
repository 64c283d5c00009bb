/- Functions without memory, and that the Go functions are followed by them. Printed by gen.py. Conditions: none. -/
import Derived.Test.YthncmjlcmlmnmaaCR9
import Derived.Test.YthncmjlcmlmnmaaCR16
import Derived.Test.YthncmjlcmlmnmaaCR13
import Derived.Test.YthncmjlcmlmnmaaCR14
import Derived.Test.YthncmjlcmlmnmaaCR15
namespace Go.Proofs.Ythncmjlcmlmnmaa
open Go V
set_option maxRecDepth 100000
set_option maxHeartbeats 4000000
/-- (*ref6.Reader).Term -/
def p75 {ρ : Type} (fail : ρ) (fu : Nat)  (K0 : Int → Int → ByteArray → EL → EL → EL → Int → Int → ρ) (x0 : EL) (x1 : Int) (x2 : Int) : ρ :=
  p115 fail fu (fun y1 y2 y3 y4 y5 y6 y7 y8 y9 => K0 y1 y2 y3 y4 y5 y6 y7 y8) x0 x1 x2 1 2000
theorem d_p75 (fu : Nat)  {K0 : Int → Int → ByteArray → EL → EL → EL → Int → Int → Prop} (L : EL → Nat) (hN : L = List.length) {x0 : EL} {x1 : Int} {x2 : Int} (h : p75 False fu K0 x0 x1 x2) : Den Try.prog G0 75 [.ptr [.c (.sl 1 x0 none), .c (.v (.int .i64 x1)), .c (.v (.int .i64 x2))]] (fun r bs => (∃ (y0 : Int) (y1 : Int) (y2 : ByteArray) (y3 : EL) (y4 : EL) (y5 : EL) (y6 : Int) (y7 : Int), (r = .agg [.c (.v (.int .i64 y0)), .c (.v (.int .i64 y1)), .c (.v (.string y2)), .c (.sl 3 y3 none), .c (.sl 5 y4 none)] ∧ bs = [.ptr [.c (.sl 1 y5 none), .c (.v (.int .i64 y6)), .c (.v (.int .i64 y7))]]) ∧ K0 y0 y1 y2 y3 y4 y5 y6 y7)) := by
  obtain ⟨O, hO⟩ : ∃ O, O = std 1 T G0 (Den Try.prog G0) := ⟨_, rfl⟩
  have hLO : L = O.len := by rw [hN, hO]; rfl
  subst hLO
  refine den_h hO tiA mixed tabOk (fn := Try.f75) (sh := true) (by kernel_rfl) rfl rfl rfl rfl ?_
  intro Q hQ
  unfold p75 at h
  conv => cbv
  refine call_h hO [.ref 3, .shut, .ref 1] (d_p115 fu O.len hN h) ?_
  intro os Q hos hQ
  conv => cbv
  refine ⟨(by (rw [hos]) <;> (subst hO; rfl)), ?_⟩
  intro r bs hq
  rw [hQ] at hq
  clear hos hQ h
  obtain ⟨y1, y2, y3, y4, y5, y6, y7, y8, y9, _, ⟨rfl, rfl⟩, h⟩ := hq
  conv => cbv
  rw [hQ]
  exact ⟨y1, y2, y3, y4, y5, y6, y7, y8, ⟨(by subst hO; rfl), (by subst hO; rfl)⟩, h⟩
end Go.Proofs.Ythncmjlcmlmnmaa

namespace Go.Proofs.Ythncmjlcmlmnmaa
open Go V
set_option maxRecDepth 100000
set_option maxHeartbeats 2000000
theorem rem128 (c : UInt8) : binStd .rem .u8 ((c.toNat : Nat) : Int) 128 = ((c.toNat % 128 : Nat) : Int) := by
  have : ∀ x : Fin 256, binStd .rem .u8 ((x.val : Nat) : Int) 128 = ((x.val % 128 : Nat) : Int) := by decide +kernel
  exact this ⟨c.toNat, c.toNat_lt⟩
theorem mulU (a b : Nat) (h : a * b < 2 ^ 64) : binStd .mul .u64 (a : Nat) (b : Nat) = ((a * b : Nat) : Int) := by
  show IntKind.u64.wrap ((a : Int) * (b : Int)) = _
  rw [show (a : Int) * (b : Int) = ((a * b : Nat) : Int) by push_cast; rfl, u64_nat _ h]
theorem addU (a b : Nat) (h : a + b < 2 ^ 64) : binStd .add .u64 (a : Nat) (b : Nat) = ((a + b : Nat) : Int) := by
  show IntKind.u64.wrap ((a : Int) + (b : Int)) = _
  rw [show (a : Int) + (b : Int) = ((a + b : Nat) : Int) by push_cast; rfl, u64_nat _ h]
theorem refVar_loop {ρ : Type} (fail : ρ) (fu : Nat) (K : Int → Int → Int → ρ) (bs : List UInt8) (hl : bs.length ≤ 1099511627776) : ∀ (n i a : Nat) (u : Int), i ≤ 9 → i ≤ bs.length → 11 ≤ n + i → a < 2 ^ (7 * i) → u = ((2 ^ (7 * i) : Nat) : Int) →
    p141_3L fail fu K (encB bs) n (a : Nat) u (i : Nat) = tvK i a K (tv i (bs.drop i)) := by
  intro n
  induction n with
  | zero => intro i a u hi; omega
  | succ n ih =>
    intro i a u hi hib hn ha hu
    rw [p141_3L, p141_3, lssT (by omega), cond_true, encB_length]
    by_cases hlt : i < bs.length
    · have hd : bs.drop i = bs[i] :: bs.drop (i + 1) := List.drop_eq_getElem_cons hlt
      rw [geqF (by omega), cond_false, hd]
      have hr : ∀ k : Int → ρ, rw_u8 fail (List.getD (encB bs) ((i : Int).toNat) []) k = k ((bs[i]).toNat : Nat) := fun k => rw_byte fail bs i hlt k
      generalize bs[i] = c at hr
      have hc := c.toNat_lt
      have h9 : ∀ b : Bool, (b = decide (i = 9 ∧ 1 < c.toNat)) → p141_2 fail fu K (p141_3L fail fu K (encB bs) n) (encB bs) (a : Nat) u (i : Nat) b = tvK i a K (tv i (c :: bs.drop (i + 1))) := fun b hb => by
        rw [p141_2]
        simp only [tv]
        by_cases h9 : i = 9 ∧ 1 < c.toNat
        · rw [hb, decide_eq_true h9, cond_true, if_pos h9]; rfl
        · rw [hb, decide_eq_false h9, cond_false, if_neg h9]
          have hu64 : IntKind.u64.wrap ((c.toNat % 128 : Nat) : Int) = ((c.toNat % 128 : Nat) : Int) := u64_nat _ (by omega)
          have hm64 : c.toNat % 128 * 2 ^ (7 * i) < 2 ^ 64 ∧ a + c.toNat % 128 * 2 ^ (7 * i) < 2 ^ 64 := by
            by_cases hi9 : i = 9
            · subst hi9
              have : c.toNat ≤ 1 := by rcases Nat.lt_or_ge 1 c.toNat with q | q; exact absurd ⟨rfl, q⟩ h9; exact q
              have h63 : (2 : Nat) ^ 64 = 2 * 2 ^ (7 * 9) := by decide
              have h2 : c.toNat % 128 ≤ 1 := by omega
              have := Nat.mul_le_mul_right (2 ^ (7 * 9)) h2
              omega
            · have hp : 2 ^ (7 * (i + 1)) = 128 * 2 ^ (7 * i) := by rw [show 7 * (i + 1) = 7 * i + 7 by omega, Nat.pow_add]; omega
              have hm64 : 128 * 2 ^ (7 * i) ≤ 2 ^ 64 := by rw [← hp]; exact Nat.pow_le_pow_right (by omega) (by omega)
              have : c.toNat % 128 * 2 ^ (7 * i) ≤ 127 * 2 ^ (7 * i) := Nat.mul_le_mul_right _ (by omega)
              omega
          have hacc : binStd .add .u64 ((a : Nat) : Int) (binStd .mul .u64 (IntKind.u64.wrap (binStd .rem .u8 ((c.toNat : Nat) : Int) 128)) u) = ((a + c.toNat % 128 * 2 ^ (7 * i) : Nat) : Int) := by
            rw [rem128, hu64, hu, mulU _ _ hm64.1, addU _ _ hm64.2]
          rw [gd_y (by omega), gd_y (by rw [encB_length]; omega), hr, gd_y (by decide), gd_y (by omega), gd_y (by rw [encB_length]; omega), hr, hacc]
          by_cases hc2 : 128 ≤ c.toNat
          · have hi9 : i ≠ 9 := fun q => h9 ⟨q, by omega⟩
            have hp : 2 ^ (7 * (i + 1)) = 128 * 2 ^ (7 * i) := by rw [show 7 * (i + 1) = 7 * i + 7 by omega, Nat.pow_add]; omega
            have hsum : a + c.toNat % 128 * 2 ^ (7 * i) < 2 ^ (7 * (i + 1)) := by
              rw [hp]
              have : c.toNat % 128 * 2 ^ (7 * i) ≤ 127 * 2 ^ (7 * i) := Nat.mul_le_mul_right _ (by omega)
              omega
            have hu2 : binStd .mul .u64 u 128 = ((2 ^ (7 * (i + 1)) : Nat) : Int) := by
              have h8 : (2 : Nat) ^ (7 * (i + 1)) < 2 ^ 64 := Nat.pow_lt_pow_right (by omega) (by omega)
              rw [hu, show (128 : Int) = ((128 : Nat) : Int) from rfl, mulU _ _ (by omega), hp, Nat.mul_comm]
            rw [lssF (by omega), cond_false, if_pos hc2, hu2, addZ (by omega) (by omega)]
            have := ih (i + 1) (a + c.toNat % 128 * 2 ^ (7 * i)) _ (by omega) (by omega) (by omega) hsum rfl
            rw [show ((i : Nat) : Int) + 1 = ((i + 1 : Nat) : Int) by omega, this]
            cases tv (i + 1) (bs.drop (i + 1)) with
            | error e => rfl
            | ok x =>
              obtain ⟨v, k⟩ := x
              simp only [tvK]
              rw [show a + c.toNat % 128 * 2 ^ (7 * i) + v * 2 ^ (7 * (i + 1)) = a + (c.toNat - 128 + 128 * v) * 2 ^ (7 * i) by
                rw [hp, show c.toNat % 128 = c.toNat - 128 by omega, Nat.add_mul, Nat.mul_comm 128 v, Nat.mul_assoc v 128]; omega, show i + 1 + k = i + (k + 1) by omega]
          · rw [lssT (by omega), cond_true, if_neg hc2, gd_y (by omega), gd_y (by rw [encB_length]; omega), hr]
            have hmod : c.toNat % 128 = c.toNat := by omega
            rw [hmod]
            by_cases hz : c.toNat = 0
            · rw [eqlT (by omega), cond_true, p141_1]
              by_cases h0 : 0 < i
              · rw [gtrT (by omega), cond_true, if_pos ⟨hz, h0⟩]; rfl
              · rw [gtrF (by omega), cond_false, if_neg (fun q => h0 q.2), addZ (by omega) (by omega)]; rfl
            · rw [eqlF (by omega), cond_false, p141_1, cond_false, if_neg (fun q => hz q.1), addZ (by omega) (by omega)]; rfl
      by_cases hi9 : i = 9
      · rw [eqlT (by omega), cond_true, gd_y (by omega), gd_y (by omega), hr]
        exact h9 _ (by rw [Bool.eq_iff_iff]; simp [cmpStd, hi9]; omega)
      · rw [eqlF (by omega), cond_false]
        exact h9 _ (by simp [hi9])
    · rw [geqT (by omega), cond_true, List.drop_eq_nil_of_le (by omega)]; rfl
theorem refVar_eq {ρ : Type} (fail : ρ) (fu : Nat) (hf : 11 ≤ fu) (K : Int → Int → Int → ρ) (bs : List UInt8) (hl : bs.length ≤ 1099511627776) : p141 fail fu K (encB bs) = tvK 0 0 K (tv 0 bs) := by
  rw [p141]
  exact refVar_loop fail fu K bs hl fu 0 0 1 (by omega) (by omega) (by omega) (by omega) (by simp)
/-- Bytes that end others. -/
def Sfx (all bs : List UInt8) : Prop := ∃ pre, all = pre ++ bs
def atR (all bs : List UInt8) : Int := ((all.length - bs.length : Nat) : Int)
theorem Sfx.len {all bs : List UInt8} (h : Sfx all bs) : bs.length ≤ all.length := by obtain ⟨p, rfl⟩ := h; simp
theorem Sfx.drop {all bs : List UInt8} (h : Sfx all bs) : all.drop (all.length - bs.length) = bs := by
  obtain ⟨p, rfl⟩ := h; simp
theorem Sfx.app {all c r : List UInt8} (h : Sfx all (c ++ r)) : Sfx all r := by obtain ⟨p, rfl⟩ := h; exact ⟨p ++ c, by simp⟩
theorem Sfx.refl (bs : List UInt8) : Sfx bs bs := ⟨[], rfl⟩
section
variable {ρ : Type} (fail : ρ) (fu : Nat) (all : List UInt8) (hall : all.length ≤ 1099511627776)
theorem rfail0 (K : EL → Int → Int → ρ) (B : EL) (a e : Int) : p118 fail fu K B a 0 e = K B a e := by
  rw [p118, eqlT rfl, cond_true, p118_1]
theorem rfailE (K : EL → Int → Int → ρ) (B : EL) (a e e' : Int) (h : e ≠ 0) : p118 fail fu K B a e e' = K B a e := by
  rw [p118, eqlF h, cond_false, p118_1]
/-- What a step of the document's reader comes to. -/
def KO6 {ρ : Type} (all : List UInt8) (p : (Int → EL → Int → Int → ρ) → ρ) : Except Int (Nat × List UInt8) → Prop
  | .ok (v, r) => ∀ K : Int → EL → Int → Int → ρ, p K = K (v : Nat) (encB all) (atR all r) 0
  | .error e => e ≠ 0 ∧ ∃ a, ∀ K : Int → EL → Int → Int → ρ, p K = K 0 (encB all) a e
theorem dropAll (_ : all.length ≤ 1099511627776) {bs : List UInt8} (hs : Sfx all bs) : List.drop ((atR all bs).toNat) (List.take ((((encB all).length : Nat) : Int).toNat) (encB all)) = encB bs := by
  rw [Int.toNat_natCast, List.take_of_length_le (Nat.le_refl _), atR, Int.toNat_natCast, encB_drop, hs.drop]
include hall
theorem any_eq (hf : 11 ≤ fu) (bs : List UInt8) (hs : Sfx all bs) : KO6 all (fun K => p127 fail fu K (encB all) (atR all bs) 0) (rdV bs) := by
  have hl := hs.len
  have hv := fun K => refVar_eq (ρ := ρ) fail fu hf K bs (by omega)
  have h1 : ∀ K, p127 fail fu K (encB all) (atR all bs) 0 = p141 fail fu (fun y1 y2 y3 => bif (cmpStd .neq y3 0) then (p118 fail fu (fun y4 y5 y6 => K 0 y4 y5 y6) (encB all) (atR all bs) 0 y3) else (K y1 (encB all) (binStd .add .i64 (atR all bs) y2) 0)) (encB bs) := fun K => by
    rw [p127, neqF rfl, cond_false, gd_y (by unfold atR; omega), gd_y (by rw [encB_length]; unfold atR; omega), gd_y (by omega), dropAll all hall hs]
  unfold rdV
  cases ht : tv 0 bs with
  | error e =>
    have he := tv_err _ _ _ ht
    rw [ht] at hv
    refine ⟨by omega, atR all bs, fun K => ?_⟩
    dsimp only
    rw [h1, hv]
    simp only [tvK]
    rw [neqT (by omega), cond_true, rfail0]
  | ok x =>
    obtain ⟨v, k⟩ := x
    have hk := tv_pos _ _ _ _ ht
    rw [ht] at hv
    intro K
    dsimp only
    rw [h1, hv]
    simp only [tvK]
    rw [neqF rfl, cond_false, addZ (by unfold atR; omega) (by omega)]
    simp only [Nat.pow_zero, Nat.mul_one, Nat.zero_add, Nat.mul_zero]
    congr 1
    unfold atR
    rw [List.length_drop]; omega
omit hall in
theorem anyE (K : Int → EL → Int → Int → ρ) (B : EL) (a e : Int) (h : e ≠ 0) : p127 fail fu K B a e = K 0 B a e := by
  rw [p127, neqT h, cond_true]
theorem rnum_eq (hf : 11 ≤ fu) (bs : List UInt8) (hs : Sfx all bs) : KO6 all (fun K => p96 fail fu K (encB all) (atR all bs) 0) (rdNum bs) := by
  have ha := any_eq (ρ := ρ) fail fu all hall hf bs hs
  unfold rdNum
  cases hr : rdV bs with
  | error e =>
    rw [hr] at ha
    obtain ⟨he, a, hA⟩ := ha
    dsimp only at hA
    refine ⟨he, a, fun K => ?_⟩
    dsimp only
    rw [p96, hA, gtrF (by omega), cond_false, i64_id (by omega)]
  | ok x =>
    obtain ⟨v, r⟩ := x
    rw [hr] at ha
    simp only [KO6] at ha
    dsimp only
    by_cases hv : 1073741824 < v
    · rw [if_pos hv]
      refine ⟨by decide, atR all r, fun K => ?_⟩
      dsimp only
      rw [p96, ha, gtrT (by omega), cond_true, rfail0]
    · rw [if_neg hv]
      intro K
      dsimp only
      rw [p96, ha, gtrF (by omega), cond_false, i64_id (by omega)]
omit hall in
theorem rnumE (K : Int → EL → Int → Int → ρ) (B : EL) (a e : Int) (h : e ≠ 0) : p96 fail fu K B a e = K 0 B a e := by
  rw [p96, anyE _ _ _ _ _ _ h, gtrF (by omega), cond_false, i64_id (by omega)]
theorem rkind_eq (hf : 11 ≤ fu) (bs : List UInt8) (hs : Sfx all bs) (lo hi : Nat) (h2 : hi ≤ 100) : KO6 all (fun K => p117 fail fu K (encB all) (atR all bs) 0 (lo : Nat) (hi : Nat)) (rdKind lo hi bs) := by
  have ha := any_eq (ρ := ρ) fail fu all hall hf bs hs
  unfold rdKind
  cases hr : rdV bs with
  | error e =>
    rw [hr] at ha
    obtain ⟨he, a, hA⟩ := ha
    dsimp only at hA
    refine ⟨he, a, fun K => ?_⟩
    dsimp only
    rw [p117, hA, eqlF he, cond_false, p117_2, cond_false, p117_1, neqT he, cond_true]
  | ok x =>
    obtain ⟨v, r⟩ := x
    rw [hr] at ha
    simp only [KO6] at ha
    dsimp only
    by_cases hlo : v < lo
    · rw [if_pos (.inl hlo)]
      refine ⟨by decide, atR all r, fun K => ?_⟩
      dsimp only
      rw [p117, ha, eqlT rfl, cond_true, lssT (by omega), cond_true, p117_2, cond_true, rfail0, p117_1, neqT (by decide), cond_true]
    · by_cases hhi : hi < v
      · rw [if_pos (.inr hhi)]
        refine ⟨by decide, atR all r, fun K => ?_⟩
        dsimp only
        rw [p117, ha, eqlT rfl, cond_true, lssF (by omega), cond_false, gtrT (by omega), p117_2, cond_true, rfail0, p117_1, neqT (by decide), cond_true]
      · rw [if_neg (by omega)]
        intro K
        dsimp only
        rw [p117, ha, eqlT rfl, cond_true, lssF (by omega), cond_false, gtrF (by omega), p117_2, cond_false, p117_1, neqF rfl, cond_false, i64_id (by omega)]
omit hall in
theorem rkindE (K : Int → EL → Int → Int → ρ) (B : EL) (a e : Int) (h : e ≠ 0) (lo hi : Int) : p117 fail fu K B a e lo hi = K 0 B a e := by
  rw [p117, anyE _ _ _ _ _ _ h, eqlF h, cond_false, p117_2, cond_false, p117_1, neqT h, cond_true]
def NO6 {ρ : Type} (all : List UInt8) (p : (ByteArray → EL → Int → Int → ρ) → ρ) : Except Int (List UInt8 × List UInt8) → Prop
  | .ok (s, r) => ∀ K : ByteArray → EL → Int → Int → ρ, p K = K ⟨s.toArray⟩ (encB all) (atR all r) 0
  | .error e => e ≠ 0 ∧ ∃ a, ∀ K : ByteArray → EL → Int → Int → ρ, p K = K ⟨#[]⟩ (encB all) a e
theorem rname_eq (hf : 11 ≤ fu) (bs : List UInt8) (hs : Sfx all bs) : NO6 all (fun K => p98 fail fu K (encB all) (atR all bs) 0) (rdTxt 24 bs) := by
  have hl := hs.len
  have hv := fun K => refVar_eq (ρ := ρ) fail fu hf K bs (by omega)
  have h1 : ∀ K, p98 fail fu K (encB all) (atR all bs) 0 = p129 fail fu (fun y1 y2 y3 => bif (cmpStd .neq y3 0) then (p118 fail fu (fun y4 y5 y6 => K ⟨#[]⟩ y4 y5 y6) (encB all) (atR all bs) 0 y3) else (tobP fail y1 (fun s7 => K s7 (encB all) (binStd .add .i64 (atR all bs) y2) 0))) (encB bs) 24 := fun K => by
    rw [p98, neqF rfl, cond_false, gd_y (by unfold atR; omega), gd_y (by rw [encB_length]; unfold atR; omega), gd_y (by omega), dropAll all hall hs]
  have hw24 : IntKind.u64.wrap (if (0 : Int) > 24 then 0 else 24) = ((24 : Nat) : Int) := by decide
  unfold rdTxt rdV
  cases ht : tv 0 bs with
  | error e =>
    have he := tv_err _ _ _ ht
    rw [ht] at hv
    refine ⟨by omega, atR all bs, fun K => ?_⟩
    dsimp only
    rw [h1, p129, hv]
    simp only [tvK]
    rw [neqT (show e ≠ 0 by omega), cond_true, cond_true, rfail0]
  | ok x =>
    obtain ⟨v, k⟩ := x
    have hk := tv_pos _ _ _ _ ht
    have hv64 := tv_u64 ht
    rw [ht] at hv
    dsimp only
    have h2 : ∀ K, p129 fail fu K (encB bs) 24 = bif cmpStd .gtr ((v : Nat) : Int) ((24 : Nat) : Int) then K nilE 0 3 else bif cmpStd .lss (((bs.length : Nat) : Int) - ((k : Nat) : Int)) ((v : Nat) : Int) then K nilE 0 2 else K (encB ((bs.drop k).take v)) ((k + v : Nat) : Int) 0 := fun K => by
      rw [p129, hv]
      simp only [tvK]
      rw [neqF rfl, cond_false, hw24, encB_length]
      simp only [Nat.pow_zero, Nat.mul_one, Nat.zero_add, Nat.mul_zero]
      rw [subZ (by omega) (by omega), u64_id (show 0 ≤ ((bs.length : Nat) : Int) - ((k : Nat) : Int) ∧ ((bs.length : Nat) : Int) - ((k : Nat) : Int) ≤ 18446744073709551615 by omega)]
      by_cases c1 : 24 < v
      · rw [gtrT (by omega), cond_true, cond_true]
      · rw [gtrF (show ((v : Nat) : Int) ≤ ((24 : Nat) : Int) by omega), cond_false, cond_false]
        by_cases c2 : bs.length - k < v
        · rw [lssT (by omega), cond_true, cond_true]
        · rw [lssF (show ((v : Nat) : Int) ≤ ((bs.length : Nat) : Int) - ((k : Nat) : Int) by omega), cond_false, cond_false, i64_id (show -9223372036854775808 ≤ ((v : Nat) : Int) ∧ ((v : Nat) : Int) ≤ 9223372036854775807 by omega), addZ (by omega) (by omega)]
          have hd : List.drop (((k : Nat) : Int)).toNat (List.take ((((k : Nat) : Int) + ((v : Nat) : Int))).toNat (encB bs)) = encB ((bs.drop k).take v) := by
            rw [encB_take, encB_drop, Int.toNat_natCast, show (((k : Nat) : Int) + ((v : Nat) : Int)).toNat = k + v by omega, List.drop_take]
            congr 2; omega
          rw [hd, gd_y (by omega), gd_y (by omega), gd_y (by omega), gd_y (by simp), gd_y (by simp; omega), List.nil_append, show ((k : Nat) : Int) + ((v : Nat) : Int) = ((k + v : Nat) : Int) by omega]
    by_cases c1 : 24 < v
    · rw [if_pos c1]
      refine ⟨by decide, atR all bs, fun K => ?_⟩
      dsimp only
      rw [h1, h2, gtrT (by omega), cond_true, neqT (by decide), cond_true, rfail0]
    · rw [if_neg c1]
      by_cases c2 : (bs.drop k).length < v
      · rw [if_pos c2]
        rw [List.length_drop] at c2
        refine ⟨by decide, atR all bs, fun K => ?_⟩
        dsimp only
        rw [h1, h2, gtrF (by omega), cond_false, lssT (by omega), cond_true, neqT (by decide), cond_true, rfail0]
      · rw [if_neg c2]
        rw [List.length_drop] at c2
        intro K
        dsimp only
        rw [h1, h2, gtrF (by omega), cond_false, lssF (by omega), cond_false, neqF rfl, cond_false, tobP_enc, addZ (by unfold atR; omega) (by omega)]
        congr 1
        unfold atR
        rw [List.length_drop, List.length_drop]; omega
omit hall in
theorem rnameE (K : ByteArray → EL → Int → Int → ρ) (B : EL) (a e : Int) (h : e ≠ 0) : p98 fail fu K B a e = K ⟨#[]⟩ B a e := by
  rw [p98, neqT h, cond_true]
end
end Go.Proofs.Ythncmjlcmlmnmaa

namespace Go.Proofs.Ythncmjlcmlmnmaa
open Go V
set_option maxRecDepth 100000
set_option maxHeartbeats 2000000
theorem Sfx.sub {all c r : List UInt8} (h : Sfx all c) (k : c = (c.take (c.length - r.length)) ++ r) : Sfx all r := by rw [k] at h; exact h.app
theorem Sfx.of {all bs c r : List UInt8} (h : Sfx all bs) (k : bs = c ++ r) : Sfx all r := by rw [k] at h; exact h.app
abbrev LK7 (ρ : Type) := Int → Int → EL → EL → Int → Int → Int → ρ
def LvO7 {ρ : Type} (all : List UInt8) (p : LK7 ρ → ρ) : Except Int (Lv × List UInt8 × Nat) → Prop
  | .ok (l, bs, q) => ∀ K : LK7 ρ, p K = K l.k l.n (Lv.rows l.args) (encB all) (atR all bs) 0 ((64 - q : Nat) : Int)
  | .error e => e ≠ 0 ∧ ∃ a b c B at' q, ∀ K : LK7 ρ, p K = K a b c B at' e q
section
variable {ρ : Type} (fail : ρ) (fu : Nat) (all : List UInt8) (hall : all.length ≤ 1099511627776)
section
variable (s : LK7 ρ → EL → Int → Int → Int → Int → ρ)
theorem rl_end (K : LK7 ρ) (d k j n : Int) (B : EL) (a e q : Int) (z : EL) (i : Int) (h : ¬ i < n ∨ e ≠ 0) (m : Nat) : p114_2L fail fu s K d k j n (m + 1) B a e q z i = K k j z B a e q := by
  rw [p114_2L, p114_2]
  rcases h with h | h
  · rw [lssF (by omega), cond_false, p114_1, cond_false]
  · by_cases h2 : i < n
    · rw [lssT h2, cond_true, eqlF h, p114_1, cond_false]
    · rw [lssF (by omega), cond_false, p114_1, cond_false]
theorem rlLoop (f : Nat → List UInt8 → Except Int (Lv × List UInt8 × Nat)) (d : Int) (k j : Int)
    (hf : ∀ p bs a r q, p ≤ 64 → Sfx all bs → f p bs = .ok (a, r, q) → Sfx all r ∧ q ≤ 64) (hs : ∀ bs p, Sfx all bs → p ≤ 64 → LvO7 all (fun K => s K (encB all) (atR all bs) 0 (binStd .add .i64 d 1) ((64 - p : Nat) : Int)) (f p bs)) :
    ∀ (r n : Nat) (bs : List UInt8) (p : Nat) (z : EL) (i : Nat), Sfx all bs → p ≤ 64 → z.length ≤ i → i + r ≤ 1000 → r < n →
      match many f r p bs with
      | .ok (l, bs', q) => ∀ K : LK7 ρ, p114_2L fail fu s K d k j ((i + r : Nat) : Int) n (encB all) (atR all bs) 0 ((64 - p : Nat) : Int) z (i : Nat) = K k j (z ++ Lv.rows l) (encB all) (atR all bs') 0 ((64 - q : Nat) : Int)
      | .error e => e ≠ 0 ∧ ∃ c B a q, ∀ K : LK7 ρ, p114_2L fail fu s K d k j ((i + r : Nat) : Int) n (encB all) (atR all bs) 0 ((64 - p : Nat) : Int) z (i : Nat) = K k j c B a e q
  | 0, n + 1, bs, p, z, i, hb, hp, hz, hi, hn => by
    simp only [many]
    intro K
    rw [rl_end fail fu s K d k j _ _ _ _ _ z _ (.inl (by omega)) n]
    simp [Lv.rows]
  | r + 1, n + 1, bs, p, z, i, hb, hp, hz, hi, hn => by
    have h1 := hs bs p hb hp
    simp only [many]
    have step : ∀ K : LK7 ρ, p114_2L fail fu s K d k j ((i + (r + 1) : Nat) : Int) (n + 1) (encB all) (atR all bs) 0 ((64 - p : Nat) : Int) z (i : Nat) = s (fun a b c B at' e q =>
        p114_2L fail fu s K d k j ((i + 1 + r : Nat) : Int) n B at' e q (z ++ [[.v (.int .i64 a), .v (.int .i64 b), .sl 3 c none]]) ((i + 1 : Nat) : Int)) (encB all) (atR all bs) 0 (binStd .add .i64 d 1) ((64 - p : Nat) : Int) := fun K => by
      rw [p114_2L, p114_2, lssT (by omega), cond_true, eqlT rfl, p114_1, cond_true]
      congr 1
      funext a b c B at' e q
      rw [gd_y (by simp), gd_y (by simp; omega), addZ (by omega) (by omega), show ((i : Nat) : Int) + 1 = ((i + 1 : Nat) : Int) by omega, show i + (r + 1) = i + 1 + r by omega]
      rfl
    cases hfv : f p bs with
    | error e =>
      rw [hfv] at h1
      obtain ⟨he, a, b, c, B, at', q, h1⟩ := h1
      dsimp only at h1
      obtain ⟨n, rfl⟩ : ∃ n', n = n' + 1 := ⟨n - 1, by omega⟩
      exact ⟨he, z ++ [[.v (.int .i64 a), .v (.int .i64 b), .sl 3 c none]], B, at', q, fun K => (step K).trans ((h1 _).trans (rl_end fail fu s K d k j _ B at' e q _ _ (.inr he) n))⟩
    | ok x =>
      obtain ⟨a, bs1, p1⟩ := x
      rw [hfv] at h1
      simp only [LvO7] at h1
      have h2 := hf _ _ _ _ _ hp hb hfv
      have ih := rlLoop f d k j hf hs r n bs1 p1 (z ++ [a.row]) (i + 1) h2.1 h2.2 (by simp; omega) (by omega) (by omega)
      have hrow : ∀ K : LK7 ρ, p114_2L fail fu s K d k j ((i + (r + 1) : Nat) : Int) (n + 1) (encB all) (atR all bs) 0 ((64 - p : Nat) : Int) z (i : Nat) = p114_2L fail fu s K d k j ((i + 1 + r : Nat) : Int) n (encB all) (atR all bs1) 0 ((64 - p1 : Nat) : Int) (z ++ [a.row]) ((i + 1 : Nat) : Int) := fun K => by
        rw [step, h1, Lv.row_eq]
      dsimp only
      cases hm : many f r p1 bs1 with
      | error e =>
        rw [hm] at ih
        obtain ⟨he, c, B, at', q, h3⟩ := ih
        exact ⟨he, c, B, at', q, fun K => by rw [hrow, h3]⟩
      | ok x =>
        obtain ⟨l, bs2, p2⟩ := x
        rw [hm] at ih
        intro K
        rw [hrow, ih, List.append_assoc]; rfl
theorem rl_dead (hfu : 2 ≤ fu) (K : LK7 ρ) (d lf : Int) (B : EL) (a e : Int) (he : e ≠ 0) : p114_8 fail fu s K d lf B a e = K 0 0 nilE B a e (binStd .sub .i64 lf 1) := by
  obtain ⟨m, hm⟩ : ∃ m, fu = m + 1 := ⟨fu - 1, by omega⟩
  have : ∀ m', m' = m + 1 → p114_2L fail fu s K d 0 0 0 m' B a e (binStd .sub .i64 lf 1) nilE 0 = K 0 0 nilE B a e (binStd .sub .i64 lf 1) := fun m' h => by
    subst h; exact rl_end fail fu s K d 0 0 0 B a e _ nilE 0 (.inr he) m
  rw [p114_8, rkindE _ _ _ _ _ _ he, eqlF (by decide), cond_false, eqlF (by decide), cond_false, eqlF (by decide), p114_7, cond_false, eqlF (by decide), cond_false, p114_5, p114_4, p114_3]
  exact this fu hm
end
theorem rdLv_sfx (left p : Nat) (bs : List UInt8) (l : Lv) (r : List UInt8) (q : Nat) (hp : p ≤ 64) (hs : Sfx all bs) (h : rdLv left p bs = .ok (l, r, q)) : Sfx all r ∧ q ≤ 64 :=
  ⟨hs.of (rdLv_only _ _ _ _ _ _ h), (rdLv_sub _ _ _ _ _ _ hp h).2⟩
include hall
theorem rlevel_rd : ∀ (left fu : Nat), left + 14 ≤ fu → left ≤ 32 → ∀ (bs : List UInt8) (p : Nat), Sfx all bs → p ≤ 64 →
    LvO7 all (fun K : LK7 ρ => p114 fail fu K (encB all) (atR all bs) 0 ((33 - left : Nat) : Int) ((64 - p : Nat) : Int)) (rdLv left p bs) := by
  intro left
  induction left with
  | zero =>
    intro fu hf hl bs p hb hp
    obtain ⟨m, rfl⟩ : ∃ m, fu = m + 1 := ⟨fu - 1, by omega⟩
    simp only [rdLv]
    by_cases h1 : 64 < p + 1
    · rw [if_pos h1]
      refine ⟨by decide, 0, 0, nilE, encB all, atR all bs, binStd .sub .i64 ((64 - p : Nat) : Int) 1, fun K => ?_⟩
      dsimp only
      rw [p114, p114_b, eqlT (by omega), cond_true, rfail0, p114_9, gtrT (by omega), cond_true, rfailE _ _ _ _ _ _ _ (by decide), rl_dead fail m _ (by omega) K _ _ _ _ _ (by decide)]
    · rw [if_neg h1]
      refine ⟨by decide, 0, 0, nilE, encB all, atR all bs, binStd .sub .i64 ((64 - p : Nat) : Int) 1, fun K => ?_⟩
      dsimp only
      rw [p114, p114_b, eqlF (by omega), cond_false, p114_9, gtrT (by omega), cond_true, rfail0, rl_dead fail m _ (by omega) K _ _ _ _ _ (by decide)]
  | succ left ih =>
    intro fu hf hl bs p hb hp
    obtain ⟨m, rfl⟩ : ∃ m, fu = m + 1 := ⟨fu - 1, by omega⟩
    have hkind := rkind_eq (ρ := ρ) fail m all hall (by omega) bs hb 0 4 (by omega)
    simp only [rdLv]
    by_cases h1 : 64 < p + 1
    · rw [if_pos h1]
      refine ⟨by decide, 0, 0, nilE, encB all, atR all bs, binStd .sub .i64 ((64 - p : Nat) : Int) 1, fun K => ?_⟩
      dsimp only
      rw [p114, p114_b, eqlT (by omega), cond_true, rfail0, p114_9, gtrF (by omega), cond_false, rl_dead fail m _ (by omega) K _ _ _ _ _ (by decide)]
    · rw [if_neg h1]
      generalize hs : p114 fail m = s
      generalize hd0 : ((33 - (left + 1) : Nat) : Int) = d
      have hd : binStd .add .i64 d 1 = ((33 - left : Nat) : Int) := by subst hd0; rw [addZ (by omega) (by omega)]; omega
      have hq : binStd .sub .i64 ((64 - p : Nat) : Int) 1 = ((64 - (p + 1) : Nat) : Int) := by rw [subZ (by omega) (by omega)]; omega
      generalize hq0 : ((64 - (p + 1) : Nat) : Int) = q at hq
      have hb1 : ∀ K : LK7 ρ, p114 fail (m + 1) K (encB all) (atR all bs) 0 d ((64 - p : Nat) : Int) = p117 fail m (fun y7 y8 y9 y10 => bif (cmpStd .eql y7 1) then (p114_3 fail m s K d y7 y8 y9 y10 q 0 1) else (bif (cmpStd .eql y7 2) then (p114_7 fail m s K d y7 y8 y9 y10 q (cmpStd .eql y7 2)) else (p114_7 fail m s K d y7 y8 y9 y10 q (cmpStd .eql y7 3)))) (encB all) (atR all bs) 0 ((0 : Nat) : Int) ((4 : Nat) : Int) := fun K => by
        rw [p114, p114_b, hs, eqlF (by omega), cond_false, p114_9, gtrF (by subst hd0; omega), cond_false, p114_8, hq]; rfl
      have end0 : ∀ (K : LK7 ρ) (k j : Int) (B : EL) (a e : Int), p114_2L fail m s K d k j 0 m B a e q nilE 0 = K k j nilE B a e q := fun K k j B a e => by
        obtain ⟨m', hm'⟩ : ∃ m', m = m' + 1 := ⟨m - 1, by omega⟩
        have : ∀ m'', m'' = m' + 1 → p114_2L fail m s K d k j 0 m'' B a e q nilE 0 = K k j nilE B a e q := fun m'' h => by
          subst h; exact rl_end fail m s K d k j 0 B a e q nilE 0 (.inl (by omega)) m'
        exact this m hm'
      cases hk : rdKind 0 4 bs with
      | error e =>
        rw [hk] at hkind
        obtain ⟨he, a, hB⟩ := hkind
        dsimp only at hB
        refine ⟨he, 0, 0, nilE, encB all, a, q, fun K => ?_⟩
        dsimp only
        rw [hb1, hB, eqlF (by decide), cond_false, eqlF (by decide), cond_false, eqlF (by decide), p114_7, cond_false, eqlF (by decide), cond_false, p114_5, p114_4, p114_3]
        exact end0 K 0 0 _ a e
      | ok x =>
        obtain ⟨k, bs1⟩ := x
        have hk1 := rdKind_ok hk
        have hs1 : Sfx all bs1 := hb.of hk1.2.2.2
        rw [hk] at hkind
        simp only [KO6] at hkind
        have hb2 : ∀ K : LK7 ρ, p114 fail (m + 1) K (encB all) (atR all bs) 0 d ((64 - p : Nat) : Int) = bif (cmpStd .eql (k : Nat) 1) then (p114_3 fail m s K d (k : Nat) (encB all) (atR all bs1) 0 q 0 1) else (bif (cmpStd .eql (k : Nat) 2) then (p114_7 fail m s K d (k : Nat) (encB all) (atR all bs1) 0 q (cmpStd .eql (k : Nat) 2)) else (p114_7 fail m s K d (k : Nat) (encB all) (atR all bs1) 0 q (cmpStd .eql (k : Nat) 3))) := fun K => by
          rw [hb1, hkind]
        have loop : ∀ r, r = lvN k → (∀ K : LK7 ρ, p114 fail (m + 1) K (encB all) (atR all bs) 0 d ((64 - p : Nat) : Int) = p114_2L fail m s K d (k : Nat) 0 ((r : Nat) : Int) m (encB all) (atR all bs1) 0 q nilE 0) →
            LvO7 all (fun K => p114 fail (m + 1) K (encB all) (atR all bs) 0 d ((64 - p : Nat) : Int)) (match many (rdLv left) (lvN k) (p + 1) bs1 with
              | .error e => .error e
              | .ok (l, bs, p) => .ok (.mk (k : Nat) 0 l, bs, p)) := fun r hr hloop => by
          have hN : lvN k ≤ 2 := by unfold lvN; split <;> (try split) <;> (try split) <;> omega
          have := rlLoop fail m all s (rdLv left) d (k : Nat) 0 (fun p bs a r q hp hs h => rdLv_sfx all left p bs a r q hp hs h) (fun bs p hb hp => by rw [hd, ← hs]; exact ih m (by omega) (by omega) bs p hb hp) (lvN k) m bs1 (p + 1) nilE 0 hs1 (by omega) (by simp) (by omega) (by omega)
          rw [Nat.zero_add, hq0, ← hr] at this
          rw [← hr]
          cases hm : many (rdLv left) r (p + 1) bs1 with
          | error e =>
            rw [hm] at this
            obtain ⟨he, c, B, a, q', h⟩ := this
            exact ⟨he, _, _, c, B, a, q', fun K => by dsimp only; rw [hloop]; exact h K⟩
          | ok x =>
            obtain ⟨l2, bs2, p2⟩ := x
            rw [hm] at this
            intro K
            dsimp only
            rw [hloop]; exact this K
        dsimp only
        by_cases k1 : k = 1
        · subst k1
          rw [if_neg (by omega)]
          exact loop 1 rfl (fun K => by rw [hb2, eqlT (by omega), cond_true, p114_3]; rfl)
        by_cases k2 : k = 2
        · subst k2
          rw [if_neg (by omega)]
          exact loop 2 rfl (fun K => by rw [hb2, eqlF (by omega), cond_false, eqlT (by omega), cond_true, p114_7, cond_true, p114_4, p114_3]; rfl)
        by_cases k3 : k = 3
        · subst k3
          rw [if_neg (by omega)]
          exact loop 2 rfl (fun K => by rw [hb2, eqlF (by omega), cond_false, eqlF (by omega), cond_false, eqlT (by omega), p114_7, cond_true, p114_4, p114_3]; rfl)
        by_cases k4 : k = 4
        · subst k4
          rw [if_pos rfl]
          have hb3 : ∀ K : LK7 ρ, p114 fail (m + 1) K (encB all) (atR all bs) 0 d ((64 - p : Nat) : Int) = p96 fail m (fun y42 y43 y44 y45 => bif (cmpStd .geq y42 4) then (p118 fail m (fun y49 y50 y51 => p114_6 fail m s K d 4 q y42 y49 y50 y51) y43 y44 y45 7) else (p114_6 fail m s K d 4 q y42 y43 y44 y45)) (encB all) (atR all bs1) 0 := fun K => by
            rw [hb2, eqlF (by omega), cond_false, eqlF (by omega), cond_false, eqlF (by omega), p114_7, cond_false, eqlT (by omega), cond_true]
            rfl
          have hnum := rnum_eq (ρ := ρ) fail m all hall (by omega) bs1 hs1
          cases hn : rdNum bs1 with
          | error e =>
            rw [hn] at hnum
            obtain ⟨he, a, hB⟩ := hnum
            dsimp only at hB
            refine ⟨he, 4, 0, nilE, encB all, a, q, fun K => ?_⟩
            dsimp only
            rw [hb3, hB, geqF (by omega), cond_false, p114_6, p114_5, p114_4, p114_3]
            exact end0 K _ _ _ a e
          | ok x =>
            obtain ⟨n, bs2⟩ := x
            rw [hn] at hnum
            simp only [KO6] at hnum
            dsimp only
            by_cases h4 : 4 ≤ n
            · rw [if_pos h4]
              refine ⟨by decide, 4, ((n : Nat) : Int), nilE, encB all, atR all bs2, q, fun K => ?_⟩
              dsimp only
              rw [hb3, hnum, geqT (by omega), cond_true, rfail0, p114_6, p114_5, p114_4, p114_3]
              exact end0 K _ _ _ _ 7
            · rw [if_neg h4]
              intro K
              dsimp only
              rw [hb3, hnum, geqF (by omega), cond_false, p114_6, p114_5, p114_4, p114_3, end0 K, hq0]
              rfl
        · have k0 : k = 0 := by omega
          subst k0
          rw [if_neg (by omega)]
          exact loop 0 rfl (fun K => by rw [hb2, eqlF (by omega), cond_false, eqlF (by omega), cond_false, eqlF (by omega), p114_7, cond_false, eqlF (by omega), cond_false, p114_5, p114_4, p114_3]; rfl)
def LvO5 {ρ : Type} (all : List UInt8) (p : (Int → Int → EL → EL → Int → Int → ρ) → ρ) : Except Int (Lv × List UInt8) → Prop
  | .ok (l, bs) => ∀ K : Int → Int → EL → EL → Int → Int → ρ, p K = K l.k l.n (Lv.rows l.args) (encB all) (atR all bs) 0
  | .error e => e ≠ 0 ∧ ∃ a b c B at', ∀ K : Int → Int → EL → EL → Int → Int → ρ, p K = K a b c B at' e
theorem rLevel_rd (hf : 50 ≤ fu) (bs : List UInt8) (hs : Sfx all bs) : LvO5 all (fun K => p74 fail fu K (encB all) (atR all bs) 0) (rdLevel bs) := by
  have := rlevel_rd (ρ := ρ) fail all hall 32 fu (by omega) (by omega) bs 0 hs (by omega)
  unfold rdLevel
  cases h : rdLv 32 0 bs with
  | error e =>
    rw [h] at this
    obtain ⟨he, a, b, c, B, at', q, h1⟩ := this
    dsimp only at h1
    exact ⟨he, a, b, c, B, at', fun K => by dsimp only; rw [p74]; exact h1 _⟩
  | ok x =>
    obtain ⟨l, r, q⟩ := x
    rw [h] at this
    intro K
    dsimp only
    rw [p74]; exact this _
end
end Go.Proofs.Ythncmjlcmlmnmaa

namespace Go.Proofs.Ythncmjlcmlmnmaa
open Go V
set_option maxRecDepth 100000
set_option maxHeartbeats 2000000
abbrev TK9 (ρ : Type) := Int → Int → ByteArray → EL → EL → EL → Int → Int → Int → ρ
def TmO9 {ρ : Type} (all : List UInt8) (p : TK9 ρ → ρ) : Except Int (Tm × List UInt8 × Nat) → Prop
  | .ok (t, bs, q) => ∀ K : TK9 ρ, p K = K t.k t.n t.nm (Lv.rows t.ls) (Tm.rows t.args) (encB all) (atR all bs) 0 ((2000 - q : Nat) : Int)
  | .error e => e ≠ 0 ∧ ∃ a b c l g B at' q, ∀ K : TK9 ρ, p K = K a b c l g B at' e q
section
variable {ρ : Type} (fail : ρ) (fu : Nat) (all : List UInt8) (hall : all.length ≤ 1099511627776)
section
variable (s : TK9 ρ → EL → Int → Int → Int → Int → ρ)
theorem rt_end (K : TK9 ρ) (d : Int) (k : Nat) (hk : k ≤ 6) (nm : ByteArray) (L : EL) (B : EL) (a e q : Int) (z : EL) (i : Int) (h : ¬ i < (nkN k : Nat) ∨ e ≠ 0) (m : Nat) : p115_6L fail fu s K d (k : Nat) nm L (m + 1) B a e q z i = K (k : Nat) 0 nm L z B a e q := by
  rw [p115_6L, p115_6, rargs_eq fail fu _ k hk]
  rcases h with h | h
  · rw [lssF (by omega), cond_false, p115_5, cond_false]
  · by_cases h2 : i < (nkN k : Nat)
    · rw [lssT h2, cond_true, eqlF h, p115_5, cond_false]
    · rw [lssF (by omega), cond_false, p115_5, cond_false]
theorem rt_end' (hfu : 2 ≤ fu) (K : TK9 ρ) (d : Int) (k : Nat) (hk : k ≤ 6) (nm : ByteArray) (L : EL) (B : EL) (a e q : Int) (z : EL) (i : Int) (h : ¬ i < (nkN k : Nat) ∨ e ≠ 0) : p115_6L fail fu s K d (k : Nat) nm L fu B a e q z i = K (k : Nat) 0 nm L z B a e q := by
  obtain ⟨m, hm⟩ : ∃ m, fu = m + 1 := ⟨fu - 1, by omega⟩
  have : ∀ m', m' = m + 1 → p115_6L fail fu s K d (k : Nat) nm L m' B a e q z i = K (k : Nat) 0 nm L z B a e q := fun m' h' => by
    subst h'; exact rt_end fail fu s K d k hk nm L B a e q z i h m
  exact this fu hm
theorem rtLoop (f : Nat → List UInt8 → Except Int (Tm × List UInt8 × Nat)) (d : Int) (k : Nat) (hk : k ≤ 6) (nm : ByteArray) (L : EL)
    (hf : ∀ p bs a r q, p ≤ 2000 → Sfx all bs → f p bs = .ok (a, r, q) → Sfx all r ∧ q ≤ 2000) (hs : ∀ bs p, Sfx all bs → p ≤ 2000 → TmO9 all (fun K => s K (encB all) (atR all bs) 0 (binStd .add .i64 d 1) ((2000 - p : Nat) : Int)) (f p bs)) :
    ∀ (r n : Nat) (bs : List UInt8) (p : Nat) (z : EL) (i : Nat), Sfx all bs → p ≤ 2000 → z.length ≤ i → i + r ≤ 1000 → i + r = nkN k → r < n →
      match many f r p bs with
      | .ok (l, bs', q) => ∀ K : TK9 ρ, p115_6L fail fu s K d (k : Nat) nm L n (encB all) (atR all bs) 0 ((2000 - p : Nat) : Int) z (i : Nat) = K (k : Nat) 0 nm L (z ++ Tm.rows l) (encB all) (atR all bs') 0 ((2000 - q : Nat) : Int)
      | .error e => e ≠ 0 ∧ ∃ g B a q, ∀ K : TK9 ρ, p115_6L fail fu s K d (k : Nat) nm L n (encB all) (atR all bs) 0 ((2000 - p : Nat) : Int) z (i : Nat) = K (k : Nat) 0 nm L g B a e q
  | 0, n + 1, bs, p, z, i, hb, hp, hz, hi, hk2, hn => by
    simp only [many]
    intro K
    rw [rt_end fail fu s K d k hk nm L _ _ _ _ z _ (.inl (by omega)) n]
    simp [Tm.rows]
  | r + 1, n + 1, bs, p, z, i, hb, hp, hz, hi, hk2, hn => by
    have h1 := hs bs p hb hp
    simp only [many]
    have step : ∀ K : TK9 ρ, p115_6L fail fu s K d (k : Nat) nm L (n + 1) (encB all) (atR all bs) 0 ((2000 - p : Nat) : Int) z (i : Nat) = s (fun a b c l g B at' e q =>
        p115_6L fail fu s K d (k : Nat) nm L n B at' e q (z ++ [[.v (.int .i64 a), .v (.int .i64 b), .v (.string c), .sl 3 l none, .sl 5 g none]]) ((i + 1 : Nat) : Int)) (encB all) (atR all bs) 0 (binStd .add .i64 d 1) ((2000 - p : Nat) : Int) := fun K => by
      rw [p115_6L, p115_6, rargs_eq fail fu _ k hk, lssT (by omega), cond_true, eqlT rfl, p115_5, cond_true]
      congr 1
      funext a b c l g B at' e q
      rw [gd_y (by simp), gd_y (by simp; omega), addZ (by omega) (by omega), show ((i : Nat) : Int) + 1 = ((i + 1 : Nat) : Int) by omega]
      rfl
    cases hfv : f p bs with
    | error e =>
      rw [hfv] at h1
      obtain ⟨he, a, b, c, l, g, B, at', q, h1⟩ := h1
      dsimp only at h1
      obtain ⟨n, rfl⟩ : ∃ n', n = n' + 1 := ⟨n - 1, by omega⟩
      exact ⟨he, z ++ [[.v (.int .i64 a), .v (.int .i64 b), .v (.string c), .sl 3 l none, .sl 5 g none]], B, at', q, fun K => (step K).trans ((h1 _).trans (rt_end fail fu s K d k hk nm L B at' e q _ _ (.inr he) n))⟩
    | ok x =>
      obtain ⟨a, bs1, p1⟩ := x
      rw [hfv] at h1
      simp only [TmO9] at h1
      have h2 := hf _ _ _ _ _ hp hb hfv
      have ih := rtLoop f d k hk nm L hf hs r n bs1 p1 (z ++ [a.row]) (i + 1) h2.1 h2.2 (by simp; omega) (by omega) (by omega) (by omega)
      have hrow : ∀ K : TK9 ρ, p115_6L fail fu s K d (k : Nat) nm L (n + 1) (encB all) (atR all bs) 0 ((2000 - p : Nat) : Int) z (i : Nat) = p115_6L fail fu s K d (k : Nat) nm L n (encB all) (atR all bs1) 0 ((2000 - p1 : Nat) : Int) (z ++ [a.row]) ((i + 1 : Nat) : Int) := fun K => by
        rw [step, h1, Tm.row_eq]
      dsimp only
      cases hm : many f r p1 bs1 with
      | error e =>
        rw [hm] at ih
        obtain ⟨he, c, B, at', q, h3⟩ := ih
        exact ⟨he, c, B, at', q, fun K => by rw [hrow, h3]⟩
      | ok x =>
        obtain ⟨l, bs2, p2⟩ := x
        rw [hm] at ih
        intro K
        rw [hrow, ih, List.append_assoc]; rfl
include hall
theorem rtLevels (hfu : 50 ≤ fu) (d q0 : Int) (nm : ByteArray) : ∀ (r n : Nat) (bs : List UInt8) (p : Nat) (z : EL) (i : Nat), Sfx all bs → z.length ≤ i → i + r ≤ 1000 → r < n →
      match many rdLevelP r p bs with
      | .ok (l, bs', _) => ∀ K : TK9 ρ, p115_9L fail fu s K d ((2 : Nat) : Int) nm ((i + r : Nat) : Int) q0 n (encB all) (atR all bs) 0 z (i : Nat) = K ((2 : Nat) : Int) 0 nm (z ++ Lv.rows l) nilE (encB all) (atR all bs') 0 q0
      | .error e => e ≠ 0 ∧ ∃ l B a, ∀ K : TK9 ρ, p115_9L fail fu s K d ((2 : Nat) : Int) nm ((i + r : Nat) : Int) q0 n (encB all) (atR all bs) 0 z (i : Nat) = K ((2 : Nat) : Int) 0 nm l nilE B a e q0
  | 0, n + 1, bs, p, z, i, hb, hz, hi, hn => by
    simp only [many]
    intro K
    rw [p115_9L, p115_9, lssF (by omega), cond_false, p115_8, cond_false, p115_7, rt_end' fail fu s (by omega) K d 2 (by omega) nm _ _ _ _ _ _ _ (.inl (by decide))]
    simp [Lv.rows]
  | r + 1, n + 1, bs, p, z, i, hb, hz, hi, hn => by
    have h1 := rLevel_rd (ρ := ρ) fail fu all hall hfu bs hb
    simp only [many]
    have step : ∀ K : TK9 ρ, p115_9L fail fu s K d ((2 : Nat) : Int) nm ((i + (r + 1) : Nat) : Int) q0 (n + 1) (encB all) (atR all bs) 0 z (i : Nat) = p74 fail fu (fun a b c B at' e =>
        p115_9L fail fu s K d ((2 : Nat) : Int) nm ((i + 1 + r : Nat) : Int) q0 n B at' e (z ++ [[.v (.int .i64 a), .v (.int .i64 b), .sl 3 c none]]) ((i + 1 : Nat) : Int)) (encB all) (atR all bs) 0 := fun K => by
      rw [p115_9L, p115_9, lssT (by omega), cond_true, eqlT rfl, p115_8, cond_true]
      congr 1
      funext a b c B at' e
      rw [gd_y (by simp), gd_y (by simp; omega), addZ (by omega) (by omega), show ((i : Nat) : Int) + 1 = ((i + 1 : Nat) : Int) by omega, show i + (r + 1) = i + 1 + r by omega]
      rfl
    cases hfv : rdLevel bs with
    | error e =>
      have hP : rdLevelP p bs = .error e := by unfold rdLevelP; rw [hfv]
      rw [hP]
      rw [hfv] at h1
      obtain ⟨he, a, b, c, B, at', h1⟩ := h1
      dsimp only at h1
      refine ⟨he, z ++ [[.v (.int .i64 a), .v (.int .i64 b), .sl 3 c none]], B, at', fun K => ?_⟩
      refine (step K).trans ((h1 _).trans ?_)
      obtain ⟨n, rfl⟩ : ∃ n', n = n' + 1 := ⟨n - 1, by omega⟩
      rw [p115_9L, p115_9]
      cases r with
      | zero => rw [lssF (by omega), cond_false, p115_8, cond_false, p115_7, rt_end' fail fu s (by omega) K d 2 (by omega) nm _ _ _ _ _ _ _ (.inl (by decide))]
      | succ r => rw [lssT (by omega), cond_true, eqlF he, p115_8, cond_false, p115_7, rt_end' fail fu s (by omega) K d 2 (by omega) nm _ _ _ _ _ _ _ (.inl (by decide))]
    | ok x =>
      obtain ⟨a, bs1⟩ := x
      have hP : rdLevelP p bs = .ok (a, bs1, p) := by unfold rdLevelP; rw [hfv]
      rw [hP]
      rw [hfv] at h1
      simp only [LvO5] at h1
      have h2 : Sfx all bs1 := hb.of (rdLevel_only hfv)
      have ih := rtLevels hfu d q0 nm r n bs1 p (z ++ [a.row]) (i + 1) h2 (by simp; omega) (by omega) (by omega)
      have hrow : ∀ K : TK9 ρ, p115_9L fail fu s K d ((2 : Nat) : Int) nm ((i + (r + 1) : Nat) : Int) q0 (n + 1) (encB all) (atR all bs) 0 z (i : Nat) = p115_9L fail fu s K d ((2 : Nat) : Int) nm ((i + 1 + r : Nat) : Int) q0 n (encB all) (atR all bs1) 0 (z ++ [a.row]) ((i + 1 : Nat) : Int) := fun K => by
        rw [step, h1, Lv.row_eq]
      dsimp only
      cases hm : many rdLevelP r p bs1 with
      | error e =>
        rw [hm] at ih
        obtain ⟨he, c, B, at', h3⟩ := ih
        exact ⟨he, c, B, at', fun K => by rw [hrow, h3]⟩
      | ok x =>
        obtain ⟨l, bs2, p2⟩ := x
        rw [hm] at ih
        intro K
        rw [hrow, ih, List.append_assoc]; rfl
end
theorem rdTm_sfx (left p : Nat) (bs : List UInt8) (l : Tm) (r : List UInt8) (q : Nat) (hp : p ≤ 2000) (hs : Sfx all bs) (h : rdTm left p bs = .ok (l, r, q)) : Sfx all r ∧ q ≤ 2000 :=
  ⟨hs.of (rdTm_only _ _ _ _ _ _ h), (rdTm_sub _ _ _ _ _ _ hp h).2⟩
include hall
theorem rterm_rd : ∀ (left fu : Nat), left + 70 ≤ fu → left ≤ 100 → ∀ (bs : List UInt8) (p : Nat), Sfx all bs → p ≤ 2000 →
    TmO9 all (fun K : TK9 ρ => p115 fail fu K (encB all) (atR all bs) 0 ((101 - left : Nat) : Int) ((2000 - p : Nat) : Int)) (rdTm left p bs) := by
  intro left
  induction left with
  | zero =>
    intro fu hf hl bs p hb hp
    obtain ⟨m, rfl⟩ : ∃ m, fu = m + 1 := ⟨fu - 1, by omega⟩
    have dead : ∀ (K : TK9 ρ) (s : TK9 ρ → EL → Int → Int → Int → Int → ρ) (d lf : Int) (B : EL) (a e : Int), e ≠ 0 → p115_11 fail m s K d lf B a e = K 0 0 ⟨#[]⟩ nilE nilE B a e (binStd .sub .i64 lf 1) := fun K s d lf B a e he => by
      rw [p115_11, rkindE _ _ _ _ _ _ he, neqT he, cond_true]
    simp only [rdTm]
    by_cases h1 : 2000 < p + 1
    · rw [if_pos h1]
      refine ⟨by decide, 0, 0, ⟨#[]⟩, nilE, nilE, encB all, atR all bs, binStd .sub .i64 ((2000 - p : Nat) : Int) 1, fun K => ?_⟩
      dsimp only
      rw [p115, p115_b, eqlT (by omega), cond_true, rfail0, p115_12, gtrT (by omega), cond_true, rfailE _ _ _ _ _ _ _ (by decide), dead K _ _ _ _ _ _ (by decide)]
    · rw [if_neg h1]
      refine ⟨by decide, 0, 0, ⟨#[]⟩, nilE, nilE, encB all, atR all bs, binStd .sub .i64 ((2000 - p : Nat) : Int) 1, fun K => ?_⟩
      dsimp only
      rw [p115, p115_b, eqlF (by omega), cond_false, p115_12, gtrT (by omega), cond_true, rfail0, dead K _ _ _ _ _ _ (by decide)]
  | succ left ih =>
    intro fu hf hl bs p hb hp
    obtain ⟨m, rfl⟩ : ∃ m, fu = m + 1 := ⟨fu - 1, by omega⟩
    have dead : ∀ (K : TK9 ρ) (s : TK9 ρ → EL → Int → Int → Int → Int → ρ) (d lf : Int) (B : EL) (a e : Int), e ≠ 0 → p115_11 fail m s K d lf B a e = K 0 0 ⟨#[]⟩ nilE nilE B a e (binStd .sub .i64 lf 1) := fun K s d lf B a e he => by
      rw [p115_11, rkindE _ _ _ _ _ _ he, neqT he, cond_true]
    have hkind := rkind_eq (ρ := ρ) fail m all hall (by omega) bs hb 0 6 (by omega)
    simp only [rdTm]
    by_cases h1 : 2000 < p + 1
    · rw [if_pos h1]
      refine ⟨by decide, 0, 0, ⟨#[]⟩, nilE, nilE, encB all, atR all bs, binStd .sub .i64 ((2000 - p : Nat) : Int) 1, fun K => ?_⟩
      dsimp only
      rw [p115, p115_b, eqlT (by omega), cond_true, rfail0, p115_12, gtrF (by omega), cond_false, dead K _ _ _ _ _ _ (by decide)]
    · rw [if_neg h1]
      generalize hs : p115 fail m = s
      generalize hd0 : ((101 - (left + 1) : Nat) : Int) = d
      have hd : binStd .add .i64 d 1 = ((101 - left : Nat) : Int) := by subst hd0; rw [addZ (by omega) (by omega)]; omega
      have hq : binStd .sub .i64 ((2000 - p : Nat) : Int) 1 = ((2000 - (p + 1) : Nat) : Int) := by rw [subZ (by omega) (by omega)]; omega
      generalize hq0 : ((2000 - (p + 1) : Nat) : Int) = q at hq
      have hb1 : ∀ K : TK9 ρ, p115 fail (m + 1) K (encB all) (atR all bs) 0 d ((2000 - p : Nat) : Int) = p117 fail m (fun y7 y8 y9 y10 => bif (cmpStd .neq y10 0) then (K y7 0 ⟨#[]⟩ nilE nilE y8 y9 y10 q) else (bif (cmpStd .eql y7 0) then (p96 fail m (fun y11 y12 y13 y14 => p115_2L fail m s K d y7 y11 m y12 y13 y14 q nilE 0) y8 y9 y10) else (bif (cmpStd .eql y7 1) then (p74 fail m (fun y32 y33 y34 y35 y36 y37 => p115_4L fail m s K d y7 m y35 y36 y37 q [[(CV.v (.int .i64 y32)), (CV.v (.int .i64 y33)), (CV.sl 3 y34 none)]] nilE 0) y8 y9 y10) else (bif (cmpStd .eql y7 2) then (p98 fail m (fun y79 y80 y81 y82 => p96 fail m (fun y83 y84 y85 y86 => bif (cmpStd .gtr y83 4) then (p118 fail m (fun y103 y104 y105 => p115_10 fail m s K d y7 y79 y83 y103 y104 y105 q) y84 y85 y86 7) else (p115_10 fail m s K d y7 y79 y83 y84 y85 y86 q)) y80 y81 y82) y8 y9 y10) else (p115_7 fail m s K d y7 y8 y9 y10 q ⟨#[]⟩ nilE))))) (encB all) (atR all bs) 0 ((0 : Nat) : Int) ((6 : Nat) : Int) := fun K => by
        rw [p115, p115_b, hs, eqlF (by omega), cond_false, p115_12, gtrF (by subst hd0; omega), cond_false, p115_11, hq]; rfl
      cases hk : rdKind 0 6 bs with
      | error e =>
        rw [hk] at hkind
        obtain ⟨he, a, hB⟩ := hkind
        dsimp only at hB
        exact ⟨he, 0, 0, ⟨#[]⟩, nilE, nilE, encB all, a, q, fun K => by dsimp only; rw [hb1, hB, neqT he, cond_true]⟩
      | ok x =>
        obtain ⟨k, bs1⟩ := x
        have hk1 := rdKind_ok hk
        have hs1 : Sfx all bs1 := hb.of hk1.2.2.2
        rw [hk] at hkind
        simp only [KO6] at hkind
        dsimp only
        by_cases k0 : k = 0
        · subst k0
          rw [if_pos rfl]
          have hnum := rnum_eq (ρ := ρ) fail m all hall (by omega) bs1 hs1
          have h2L : ∀ (K : TK9 ρ) (n a e : Int) (B : EL), p115_2L fail m s K d ((0 : Nat) : Int) n m B a e q nilE 0 = K ((0 : Nat) : Int) n ⟨#[]⟩ nilE nilE B a e q := fun K n a e B => by
            obtain ⟨m', hm'⟩ : ∃ m', m = m' + 1 := ⟨m - 1, by omega⟩
            have : ∀ m'', m'' = m' + 1 → p115_2L fail m s K d ((0 : Nat) : Int) n m'' B a e q nilE 0 = K ((0 : Nat) : Int) n ⟨#[]⟩ nilE nilE B a e q := fun m'' h => by
              subst h; rw [p115_2L, p115_2, rargs_eq fail m _ 0 (by omega), lssF (by decide), cond_false, p115_1, cond_false]
            exact this m hm'
          have hb3 : ∀ K : TK9 ρ, p115 fail (m + 1) K (encB all) (atR all bs) 0 d ((2000 - p : Nat) : Int) = p96 fail m (fun y11 y12 y13 y14 => p115_2L fail m s K d ((0 : Nat) : Int) y11 m y12 y13 y14 q nilE 0) (encB all) (atR all bs1) 0 := fun K => by
            rw [hb1, hkind, neqF rfl, cond_false, eqlT (by omega), cond_true]
          cases hn : rdNum bs1 with
          | error e =>
            rw [hn] at hnum
            obtain ⟨he, a, hB⟩ := hnum
            dsimp only at hB
            exact ⟨he, ((0 : Nat) : Int), 0, ⟨#[]⟩, nilE, nilE, encB all, a, q, fun K => by dsimp only; rw [hb3, hB, h2L]⟩
          | ok x =>
            obtain ⟨n, bs2⟩ := x
            rw [hn] at hnum
            simp only [KO6] at hnum
            intro K
            dsimp only
            rw [hb3, hnum, h2L, hq0]; rfl
        rw [if_neg k0]
        by_cases k1 : k = 1
        · subst k1
          rw [if_pos rfl]
          have hlv := rLevel_rd (ρ := ρ) fail m all hall (by omega) bs1 hs1
          have h4L : ∀ (K : TK9 ρ) (row : List CV) (a e : Int) (B : EL), p115_4L fail m s K d ((1 : Nat) : Int) m B a e q [row] nilE 0 = K ((1 : Nat) : Int) 0 ⟨#[]⟩ [row] nilE B a e q := fun K row a e B => by
            obtain ⟨m', hm'⟩ : ∃ m', m = m' + 1 := ⟨m - 1, by omega⟩
            have : ∀ m'', m'' = m' + 1 → p115_4L fail m s K d ((1 : Nat) : Int) m'' B a e q [row] nilE 0 = K ((1 : Nat) : Int) 0 ⟨#[]⟩ [row] nilE B a e q := fun m'' h => by
              subst h; rw [p115_4L, p115_4, rargs_eq fail m _ 1 (by omega), lssF (by decide), cond_false, p115_3, cond_false, gd_y (by simp)]; rfl
            exact this m hm'
          have hb3 : ∀ K : TK9 ρ, p115 fail (m + 1) K (encB all) (atR all bs) 0 d ((2000 - p : Nat) : Int) = p74 fail m (fun y32 y33 y34 y35 y36 y37 => p115_4L fail m s K d ((1 : Nat) : Int) m y35 y36 y37 q [[(CV.v (.int .i64 y32)), (CV.v (.int .i64 y33)), (CV.sl 3 y34 none)]] nilE 0) (encB all) (atR all bs1) 0 := fun K => by
            rw [hb1, hkind, neqF rfl, cond_false, eqlF (by omega), cond_false, eqlT (by omega), cond_true]
          simp only [many, rdLevelP]
          cases hv : rdLevel bs1 with
          | error e =>
            rw [hv] at hlv
            obtain ⟨he, a, b, c, B, at', hB⟩ := hlv
            dsimp only at hB
            exact ⟨he, ((1 : Nat) : Int), 0, ⟨#[]⟩, [[(CV.v (.int .i64 a)), (CV.v (.int .i64 b)), (CV.sl 3 c none)]], nilE, B, at', q, fun K => by dsimp only; rw [hb3, hB, h4L]⟩
          | ok x =>
            obtain ⟨l, bs2⟩ := x
            rw [hv] at hlv
            simp only [LvO5] at hlv
            intro K
            dsimp only
            rw [hb3, hlv, h4L, hq0, ← Lv.row_eq]; rfl
        rw [if_neg k1]
        by_cases k2 : k = 2
        · subst k2
          rw [if_pos rfl]
          have hnm := rname_eq (ρ := ρ) fail m all hall (by omega) bs1 hs1
          have hb3 : ∀ K : TK9 ρ, p115 fail (m + 1) K (encB all) (atR all bs) 0 d ((2000 - p : Nat) : Int) = p98 fail m (fun y79 y80 y81 y82 => p96 fail m (fun y83 y84 y85 y86 => bif (cmpStd .gtr y83 4) then (p118 fail m (fun y103 y104 y105 => p115_10 fail m s K d ((2 : Nat) : Int) y79 y83 y103 y104 y105 q) y84 y85 y86 7) else (p115_10 fail m s K d ((2 : Nat) : Int) y79 y83 y84 y85 y86 q)) y80 y81 y82) (encB all) (atR all bs1) 0 := fun K => by
            rw [hb1, hkind, neqF rfl, cond_false, eqlF (by omega), cond_false, eqlF (by omega), cond_false, eqlT (by omega), cond_true]
          have dead9 : ∀ (K : TK9 ρ) (nm : ByteArray) (n a e : Int) (B : EL), e ≠ 0 → p115_10 fail m s K d ((2 : Nat) : Int) nm n B a e q = K ((2 : Nat) : Int) 0 nm nilE nilE B a e q := fun K nm n a e B he => by
            rw [p115_10]
            obtain ⟨m', hm'⟩ : ∃ m', m = m' + 1 := ⟨m - 1, by omega⟩
            have : ∀ m'', m'' = m' + 1 → p115_9L fail m s K d ((2 : Nat) : Int) nm n q m'' B a e nilE 0 = K ((2 : Nat) : Int) 0 nm nilE nilE B a e q := fun m'' h => by
              subst h; rw [p115_9L, p115_9]
              by_cases h0 : 0 < n
              · rw [lssT h0, cond_true, eqlF he, p115_8, cond_false, p115_7, rt_end' fail m s (by omega) K d 2 (by omega) nm _ _ _ _ _ _ _ (.inr he)]
              · rw [lssF (by omega), cond_false, p115_8, cond_false, p115_7, rt_end' fail m s (by omega) K d 2 (by omega) nm _ _ _ _ _ _ _ (.inr he)]
            exact this m hm'
          cases ht : rdTxt 24 bs1 with
          | error e =>
            rw [ht] at hnm
            obtain ⟨he, a, hB⟩ := hnm
            dsimp only at hB
            exact ⟨he, ((2 : Nat) : Int), 0, ⟨#[]⟩, nilE, nilE, encB all, a, q, fun K => by dsimp only; rw [hb3, hB, rnumE _ _ _ _ _ _ he, gtrF (by decide), cond_false, dead9 K _ _ _ _ _ he]⟩
          | ok x =>
            obtain ⟨sx, bs2⟩ := x
            have ht1 := rdTxt_ok ht
            have hs2 : Sfx all bs2 := by have h9 := ht1.2.2.1; rw [← List.append_assoc] at h9; exact hs1.of h9
            rw [ht] at hnm
            simp only [NO6] at hnm
            dsimp only
            have hnum := rnum_eq (ρ := ρ) fail m all hall (by omega) bs2 hs2
            cases hn : rdNum bs2 with
            | error e =>
              rw [hn] at hnum
              obtain ⟨he, a, hB⟩ := hnum
              dsimp only at hB
              exact ⟨he, ((2 : Nat) : Int), 0, ⟨sx.toArray⟩, nilE, nilE, encB all, a, q, fun K => by dsimp only; rw [hb3, hnm, hB, gtrF (by decide), cond_false, dead9 K _ _ _ _ _ he]⟩
            | ok x =>
              obtain ⟨n, bs3⟩ := x
              have hn1 := rdNum_ok hn
              have hs3 : Sfx all bs3 := hs2.of hn1.2.2
              rw [hn] at hnum
              simp only [KO6] at hnum
              dsimp only
              by_cases h4 : 4 < n
              · rw [if_pos h4]
                exact ⟨by decide, ((2 : Nat) : Int), 0, ⟨sx.toArray⟩, nilE, nilE, encB all, atR all bs3, q, fun K => by dsimp only; rw [hb3, hnm, hnum, gtrT (by omega), cond_true, rfail0, dead9 K _ _ _ _ _ (by decide)]⟩
              · rw [if_neg h4]
                have hb5 : ∀ K : TK9 ρ, p115 fail (m + 1) K (encB all) (atR all bs) 0 d ((2000 - p : Nat) : Int) = p115_9L fail m s K d ((2 : Nat) : Int) ⟨sx.toArray⟩ ((0 + n : Nat) : Int) q m (encB all) (atR all bs3) 0 nilE ((0 : Nat) : Int) := fun K => by
                  rw [hb3, hnm, hnum, gtrF (by omega), cond_false, p115_10, Nat.zero_add]; rfl
                have h3 := rtLevels fail m all hall s (by omega) d q ⟨sx.toArray⟩ n m bs3 (p + 1) nilE 0 hs3 (by simp) (by omega) (by omega)
                cases hm : many rdLevelP n (p + 1) bs3 with
                | error e =>
                  rw [hm] at h3
                  obtain ⟨he, l, B, a, h3⟩ := h3
                  exact ⟨he, _, _, _, l, nilE, B, a, q, fun K => by dsimp only; rw [hb5]; exact h3 K⟩
                | ok x =>
                  obtain ⟨l, bs4, p2⟩ := x
                  rw [hm] at h3
                  have hp2 : p2 = p + 1 := levelP_same _ _ _ _ _ _ hm
                  intro K
                  dsimp only
                  rw [hb5, h3 K, List.nil_append, hp2, hq0]; rfl
        rw [if_neg k2]
        have hnk : nkN k = tmN k := by unfold nkN; rw [if_neg (by omega)]
        have htN : tmN k ≤ 3 := by unfold tmN; split <;> omega
        have hb3 : ∀ K : TK9 ρ, p115 fail (m + 1) K (encB all) (atR all bs) 0 d ((2000 - p : Nat) : Int) = p115_6L fail m s K d ((k : Nat) : Int) ⟨#[]⟩ nilE m (encB all) (atR all bs1) 0 q nilE ((0 : Nat) : Int) := fun K => by
          rw [hb1, hkind, neqF rfl, cond_false, eqlF (by omega), cond_false, eqlF (by omega), cond_false, eqlF (by omega), cond_false, p115_7]; rfl
        have h4 := rtLoop fail m all s (rdTm left) d k (by omega) ⟨#[]⟩ nilE (fun p bs a r q hp hs h => rdTm_sfx all left p bs a r q hp hs h) (fun bs p hb hp => by rw [hd, ← hs]; exact ih m (by omega) (by omega) bs p hb hp) (tmN k) m bs1 (p + 1) nilE 0 hs1 (by omega) (by simp) (by omega) (by omega) (by omega)
        rw [hq0] at h4
        cases hm : many (rdTm left) (tmN k) (p + 1) bs1 with
        | error e =>
          rw [hm] at h4
          obtain ⟨he, g, B, a, q', h4⟩ := h4
          exact ⟨he, _, _, _, nilE, g, B, a, q', fun K => by dsimp only; rw [hb3]; exact h4 K⟩
        | ok x =>
          obtain ⟨l, bs2, p2⟩ := x
          rw [hm] at h4
          intro K
          dsimp only
          rw [hb3]; exact h4 K
abbrev TK8b (ρ : Type) := Int → Int → ByteArray → EL → EL → EL → Int → Int → ρ
def TmO8 {ρ : Type} (all : List UInt8) (p : TK8b ρ → ρ) : Except Int (Tm × List UInt8) → Prop
  | .ok (t, bs) => ∀ K : TK8b ρ, p K = K t.k t.n t.nm (Lv.rows t.ls) (Tm.rows t.args) (encB all) (atR all bs) 0
  | .error e => e ≠ 0 ∧ ∃ a b c l g B at', ∀ K : TK8b ρ, p K = K a b c l g B at' e
theorem rTerm_rd (hf : 170 ≤ fu) (bs : List UInt8) (hs : Sfx all bs) : TmO8 all (fun K => p75 fail fu K (encB all) (atR all bs) 0) (rdTerm bs) := by
  have := rterm_rd (ρ := ρ) fail all hall 100 fu (by omega) (by omega) bs 0 hs (by omega)
  unfold rdTerm
  cases h : rdTm 100 0 bs with
  | error e =>
    rw [h] at this
    obtain ⟨he, a, b, c, l, g, B, at', q, h1⟩ := this
    dsimp only at h1
    exact ⟨he, a, b, c, l, g, B, at', fun K => by dsimp only; rw [p75]; exact h1 _⟩
  | ok x =>
    obtain ⟨l, r, q⟩ := x
    rw [h] at this
    intro K
    dsimp only
    rw [p75]; exact this _
end
end Go.Proofs.Ythncmjlcmlmnmaa

