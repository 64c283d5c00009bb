/- Eight bytes, equal trees, and how the program reads a reply. Conditions: none. -/
import Derived.Test.YthncmjlcmlmnmaaRW5
import Derived.Test.YthncmjlcmlmnmaaRW7
import Derived.Test.YthncmjlcmlmnmaaRW8
import Derived.Test.YthncmjlcmlmnmaaG
import Derived.Test.YthncmjlcmlmnmaaPR
namespace Go.Proofs.Ythncmjlcmlmnmaa
open Go V
set_option maxRecDepth 100000
set_option maxHeartbeats 2000000
/-- A number in bytes, the greatest first. -/
def be (l : List UInt8) : Nat := l.foldl (fun v c => v * 256 + c.toNat) 0
theorem be_snoc (l : List UInt8) (c : UInt8) : be (l ++ [c]) = be l * 256 + c.toNat := by simp [be, List.foldl_append]
theorem be_lt : ∀ (n : Nat) (l : List UInt8), l.length = n → be l < 2 ^ (8 * n) := by
  intro n
  induction n with
  | zero => intro l h; rw [List.length_eq_zero_iff.1 h]; decide
  | succ n ih =>
    intro l h
    have hne : l ≠ [] := fun q => by rw [q] at h; simp at h
    have hl := List.dropLast_concat_getLast hne
    have h1 := ih l.dropLast (by rw [List.length_dropLast]; omega)
    have hc := (l.getLast hne).toNat_lt
    rw [← hl, be_snoc, show 8 * (n + 1) = 8 * n + 8 by omega, Nat.pow_add]
    omega
theorem or_byte (a : Nat) (c : UInt8) (ha : a * 256 + c.toNat < 2 ^ 64) : binStd .or .u64 (binStd .shl .u64 (a : Nat) 8) (IntKind.u64.wrap ((c.toNat : Nat) : Int)) = ((a * 256 + c.toNat : Nat) : Int) := by
  have hc := c.toNat_lt
  have hs : binStd .shl .u64 (a : Nat) 8 = ((a * 256 : Nat) : Int) := by
    show IntKind.u64.wrap ((a : Int) * 2 ^ (min ((8 : Int)).toNat 64)) = _
    have hp : (a : Int) * 2 ^ (min ((8 : Int)).toNat 64) = ((a * 256 : Nat) : Int) := by
      rw [show min ((8 : Int)).toNat 64 = 8 from rfl]; push_cast; rfl
    rw [hp, u64_nat _ (by omega)]
  rw [hs, u64_nat _ (by omega)]
  show IntKind.u64.wrap (bOr 64 _ _ : Nat) = _
  rw [bOr_nat 64 _ _ (by omega) (by omega)]
  have h1 : a * 256 ||| c.toNat = a * 256 + c.toNat := by
    have := Nat.shiftLeft_add_eq_or_of_lt (show c.toNat < 2 ^ 8 from hc) a
    rw [Nat.shiftLeft_eq] at this
    exact this.symm
  rw [h1, u64_nat _ ha]
def rdEight (bs : List UInt8) : Except Int (Nat × List UInt8) := if bs.length < 8 then .error 2 else .ok (be (bs.take 8), bs.drop 8)
theorem eight_loop {ρ : Type} (fail : ρ) (fu : Nat) (K : Int → Int → ρ) (l : List UInt8) (hl : l.length = 8) : ∀ (r i n : Nat), i + r = 8 → r < n →
    p125_1L fail fu K n ((be (l.take i) : Nat) : Int) (encB l) ((l.length : Nat) : Int) ((i : Nat) : Int) = K ((be l : Nat) : Int) 0 := by
  intro r
  induction r with
  | zero =>
    intro i n hi hn
    obtain ⟨n, rfl⟩ : ∃ m, n = m + 1 := ⟨n - 1, by omega⟩
    rw [p125_1L, p125_1, lssF (by omega), cond_false, List.take_of_length_le (by omega)]
  | succ r ih =>
    intro i n hi hn
    obtain ⟨n, rfl⟩ : ∃ m, n = m + 1 := ⟨n - 1, by omega⟩
    have hlt : i < l.length := by omega
    have hb : be (l.take (i + 1)) = be (l.take i) * 256 + (l[i]).toNat := by rw [List.take_succ_eq_append_getElem hlt, be_snoc]
    have h64 : be (l.take (i + 1)) < 2 ^ 64 := Nat.lt_of_lt_of_le (be_lt (i + 1) _ (by rw [List.length_take]; omega)) (Nat.pow_le_pow_right (by omega) (by omega))
    rw [p125_1L, p125_1, lssT (by omega), cond_true, gd_y (by omega), gd_y (by rw [encB_length]; omega), rw_byte fail l i hlt, gd_y (by omega), or_byte _ _ (by rw [← hb]; exact h64), ← hb, addZ (by omega) (by omega), show ((i : Nat) : Int) + 1 = ((i + 1 : Nat) : Int) by omega]
    exact ih (i + 1) n (by omega) (by omega)
theorem eight_eq {ρ : Type} (fail : ρ) (fu : Nat) (hf : 10 ≤ fu) (bs : List UInt8) (hb : bs.length ≤ 1099511627776) : KOut (fun K => p92 fail fu K (encB bs) 0) 0 (rdEight bs) := by
  unfold rdEight
  by_cases h8 : bs.length < 8
  · rw [if_pos h8]
    refine ⟨by omega, encB bs, fun K => ?_⟩
    dsimp only
    rw [p92, neqF rfl, cond_false, p125, encB_length, lssT (by omega), cond_true, fails0, neqT (by omega), cond_true]
  · rw [if_neg h8]
    intro K
    dsimp only
    have ht : List.drop (0 : Int).toNat (List.take (8 : Int).toNat (encB bs)) = encB (bs.take 8) := by rw [encB_take]; rfl
    have := eight_loop fail fu (fun y1 y2 => p94 fail fu (fun y3 y4 => bif (cmpStd .neq y2 0) then (K 0 y3 y4) else (gd ((0 : Int) ≤ 8) fail (gd ((8 : Int) ≤ (y3.length : Nat)) fail (gd (((y3.length : Nat) : Int) ≤ (y3.length : Nat)) fail (K y1 (List.drop ((8 : Int).toNat) (List.take (((y3.length : Nat) : Int).toNat) y3)) y4))))) (encB bs) 0 y2) (bs.take 8) (by rw [List.length_take]; omega) 8 0 fu (by omega) (by omega)
    rw [p92, neqF rfl, cond_false, p125, encB_length, lssF (by omega), cond_false, gd_y (by omega), gd_y (by omega), gd_y (by omega), ht, encB_length]
    refine Eq.trans this ?_
    try dsimp only
    rw [fails0, neqF rfl, cond_false, gd_y (by omega), gd_y (by rw [encB_length]; omega), gd_y (by omega), Int.toNat_natCast, List.take_of_length_le (Nat.le_refl _)]
    rw [encB_drop]; rfl
theorem eightE {ρ : Type} (fail : ρ) (fu : Nat) (K : Int → EL → Int → ρ) (B : EL) (e : Int) (h : e ≠ 0) : p92 fail fu K B e = K 0 B e := by
  rw [p92, neqT h, cond_true]
-- ---------------------------------------------------------------- equal trees
theorem scmp_nil (s : ByteArray) : scmpStd .eql s ⟨#[]⟩ = decide (s.size = 0) := by
  show (s.toList == (⟨#[]⟩ : ByteArray).toList) = _
  rw [ByteArray.toList_eq, ByteArray.toList_eq, ← sz_data]
  cases s.data.toList <;> simp
theorem ba_nil {s : ByteArray} (h : s.size = 0) : s = ⟨#[]⟩ := by
  obtain ⟨d⟩ := s
  have : d = #[] := Array.size_eq_zero_iff.1 h
  rw [this]
/-- Is it the zero term? -/
def isZ (t : Tm) : Bool := decide (t.k = 0) && (decide (t.n = 0) && (decide (t.nm.size = 0) && (decide (t.ls.length = 0) && decide (t.args.length = 0))))
theorem isZ_iff (t : Tm) : isZ t = true ↔ t = tm0 := by
  obtain ⟨k, n, s, l, a⟩ := t
  constructor
  · intro h
    simp only [isZ, Tm.k, Tm.n, Tm.nm, Tm.ls, Tm.args, Bool.and_eq_true] at h
    obtain ⟨h1, h2, h3, h4, h5⟩ := h
    have g1 := of_decide_eq_true h1
    have g2 := of_decide_eq_true h2
    have g3 := ba_nil (of_decide_eq_true h3)
    have g4 := List.length_eq_zero_iff.1 (of_decide_eq_true h4)
    have g5 := List.length_eq_zero_iff.1 (of_decide_eq_true h5)
    rw [g1, g2, g3, g4, g5]; rfl
  · intro h; rw [h]; rfl
theorem bif_and {ρ : Type} (a b : Bool) (x y : ρ) : (bif a then (bif b then x else y) else y) = bif (a && b) then x else y := by cases a <;> rfl
theorem lvNil {ρ : Type} (fail : ρ) (fu : Nat) (hf : 10 ≤ fu) (K : Bool → ρ) (L : EL) : p121 fail fu K L nilE = K (decide (L.length = 0)) := by
  obtain ⟨m, rfl⟩ : ∃ m, fu = m + 2 := ⟨fu - 2, by omega⟩
  rw [p121, p121_b]
  cases L with
  | nil => rw [neqF rfl, cond_false]; rfl
  | cons a l => rw [neqT (by simp only [List.length_cons, List.length_nil]; omega), cond_true]; rfl
theorem tmNil {ρ : Type} (fail : ρ) (fu : Nat) (hf : 10 ≤ fu) (K : Bool → ρ) (L : EL) : p123b fail fu K L nilE = K (decide (L.length = 0)) := by
  obtain ⟨m, rfl⟩ : ∃ m, fu = m + 2 := ⟨fu - 2, by omega⟩
  rw [p123b, p123b_b]
  cases L with
  | nil => rw [neqF rfl, cond_false]; rfl
  | cons a l => rw [neqT (by simp only [List.length_cons, List.length_nil]; omega), cond_true]; rfl
theorem term_isZ0 {ρ : Type} (fail : ρ) (fu : Nat) (hf : 20 ≤ fu) (K : Bool → ρ) (k n : Int) (s : ByteArray) (L A : EL) : p86 fail fu K k n s L A 0 0 ⟨#[]⟩ nilE nilE = K (decide (k = 0) && (decide (n = 0) && (decide (s.size = 0) && (decide (L.length = 0) && decide (A.length = 0))))) := by
  obtain ⟨m, rfl⟩ : ∃ m, fu = m + 2 := ⟨fu - 2, by omega⟩
  rw [p86, p86_b, scmp_nil]
  by_cases c1 : k = 0
  · rw [eqlT c1, cond_true, decide_eq_true c1, Bool.true_and]
    by_cases c2 : n = 0
    · rw [eqlT c2, cond_true, decide_eq_true c2, Bool.true_and]
      by_cases c3 : s.size = 0
      · rw [decide_eq_true c3, cond_true, Bool.true_and, lvNil fail (m + 1) (by omega)]
        by_cases c4 : L.length = 0
        · rw [decide_eq_true c4, cond_true, Bool.true_and, tmNil fail (m + 1) (by omega)]; rfl
        · rw [decide_eq_false c4, cond_false]; rfl
      · rw [decide_eq_false c3, cond_false]; rfl
    · rw [eqlF c2, cond_false, decide_eq_false c2]; rfl
  · rw [eqlF c1, cond_false, decide_eq_false c1]; rfl
theorem term_isZ {ρ : Type} (fail : ρ) (fu : Nat) (hf : 20 ≤ fu) (K : Bool → ρ) (t : Tm) : p86 fail fu K t.k t.n t.nm (Lv.rows t.ls) (Tm.rows t.args) 0 0 ⟨#[]⟩ nilE nilE = K (isZ t) := by
  rw [term_isZ0 fail fu hf, Lv.rows_len, Tm.rows_len]; rfl
end Go.Proofs.Ythncmjlcmlmnmaa

namespace Go.Proofs.Ythncmjlcmlmnmaa
open Go V
set_option maxRecDepth 100000
set_option maxHeartbeats 2000000
/-- A reply. -/
structure Rp where
  err : Int
  hi : Int
  lo : Int
  fuel : Int
  cells : Int
  yes : Bool
  t : Tm
  params : Int
  ax : List ByteArray
def strRow (s : ByteArray) : List CV := [.v (.string s)]
abbrev RK14 (ρ : Type) := Int → Int → Int → Int → Int → Bool → Int → Int → ByteArray → EL → EL → Int → EL → Int → ρ
def rpOut {ρ : Type} : Option Rp → RK14 ρ → ρ
  | some r, K => K r.err r.hi r.lo r.fuel r.cells r.yes r.t.k r.t.n r.t.nm (Lv.rows r.t.ls) (Tm.rows r.t.args) r.params (r.ax.map strRow) 0
  | none, K => K 0 0 0 0 0 false 0 0 ⟨#[]⟩ nilE nilE 0 nilE 5
/-- p comes to x. -/
def Gd {ρ : Type} (p : RK14 ρ → ρ) (x : Option Rp) : Prop := ∀ K : RK14 ρ, p K = rpOut x K
def rdName (p : Nat) (bs : List UInt8) : Except Int (ByteArray × List UInt8 × Nat) := match rdTxt 24 bs with
  | .error e => .error e
  | .ok (s, r) => .ok (⟨s.toArray⟩, r, p)
/-- The parameters and the axioms, and nothing behind. -/
def rdR5 (bs : List UInt8) : Option (Nat × List ByteArray) := match rdNum bs with
  | .error _ => none
  | .ok (pa, bs) => match rdNum bs with
    | .error _ => none
    | .ok (n, bs) => if 65536 < n then none else match many rdName n 0 bs with
      | .error _ => none
      | .ok (l, bs, _) => if bs.length = 0 then some (pa, l) else none
/-- The term, if there is one. -/
def rdR6 (has : Nat) (bs : List UInt8) : Option (Tm × Nat × List ByteArray) :=
  if has = 1 then (match rdTerm bs with
    | .error _ => none
    | .ok (t, bs) => if isZ t = true then none else match rdR5 bs with
      | none => none
      | some (pa, l) => some (t, pa, l))
  else match rdR5 bs with
    | none => none
    | some (pa, l) => some (tm0, pa, l)
def opt {α β : Type} (x : Except Int α) (f : α → Option β) : Option β := match x with | .ok a => f a | .error _ => none
/-- A reply that bytes are. -/
def rdRep (bs : List UInt8) : Option Rp :=
  opt (rdNum bs) fun (err, bs) => opt (rdEight bs) fun (hi, bs) => opt (rdEight bs) fun (lo, bs) => opt (rdNum bs) fun (fuel, bs) => opt (rdNum bs) fun (cells, bs) =>
    opt (rdKind 0 1 bs) fun (yes, bs) => opt (rdKind 0 1 bs) fun (has, bs) => match rdR6 has bs with
      | none => none
      | some (t, pa, l) => some ⟨(err : Nat), (hi : Nat), (lo : Nat), (fuel : Nat), (cells : Nat), decide (yes = 1), t, (pa : Nat), l⟩
theorem rdEight_ok {bs r : List UInt8} {v : Nat} (h : rdEight bs = .ok (v, r)) : v < 2 ^ 64 ∧ r.length < bs.length ∧ 8 ≤ bs.length ∧ v = be (bs.take 8) ∧ r = bs.drop 8 := by
  unfold rdEight at h; split at h
  · cases h
  · injection h with h; injection h with h1 h2; subst h1 h2
    exact ⟨be_lt 8 _ (by rw [List.length_take]; omega), by rw [List.length_drop]; omega, by omega, rfl, rfl⟩
section
variable {ρ : Type} (fail : ρ) (fu : Nat)
section
variable (y1 y4 y7 y10 y13 : Int) (j21 : Bool) (t : Tm)
abbrev tail5 (y1 y4 y7 y10 y13 : Int) (j21 : Bool) (t : Tm) : Option (Nat × List ByteArray) → Option Rp
  | none => none
  | some (pa, l) => some ⟨y1, y4, y7, y10, y13, j21, t, (pa : Nat), l⟩
theorem axLoop (hfu : 20 ≤ fu) (y30 : Int) (k n0 : Int) (nm : ByteArray) (L A : EL) : ∀ (r n : Nat) (bs : List UInt8) (p : Nat) (z : EL), bs.length ≤ 1099511627776 → z.length + r ≤ 1000000 → r < n →
    match many rdName r p bs with
    | .ok (l, bs', _) => ∀ K : RK14 ρ, p45_3L fail fu K y1 y4 y7 y10 y13 j21 k n0 nm L A y30 n (encB bs) 0 z ((r : Nat) : Int) = if bs'.length = 0 then K y1 y4 y7 y10 y13 j21 k n0 nm L A y30 (z ++ l.map strRow) 0 else rpOut none K
    | .error _ => ∀ K : RK14 ρ, p45_3L fail fu K y1 y4 y7 y10 y13 j21 k n0 nm L A y30 n (encB bs) 0 z ((r : Nat) : Int) = rpOut none K
  | 0, n + 1, bs, p, z, hb, hz, hn => by
    simp only [many]
    intro K
    rw [p45_3L, p45_3, gtrF (by omega), cond_false, p45_2, cond_false, neqF rfl, cond_false, encB_length]
    by_cases h0 : bs.length = 0
    · rw [gtrF (by omega), p45_1, cond_false, if_pos h0]; simp
    · rw [gtrT (by omega), p45_1, cond_true, if_neg h0]; rfl
  | r + 1, n + 1, bs, p, z, hb, hz, hn => by
    have htx := text_eq (ρ := ρ) fail fu (by omega) bs hb 24 (by omega)
    have step : ∀ K : RK14 ρ, p45_3L fail fu K y1 y4 y7 y10 y13 j21 k n0 nm L A y30 (n + 1) (encB bs) 0 z ((r + 1 : Nat) : Int) = p95 fail fu (fun y43 y44 y45 => tobP fail y43 (fun s46 => p45_3L fail fu K y1 y4 y7 y10 y13 j21 k n0 nm L A y30 n y44 y45 (z ++ [strRow s46]) ((r : Nat) : Int))) (encB bs) 0 ((24 : Nat) : Int) := fun K => by
      rw [p45_3L, p45_3, gtrT (by omega), cond_true, eqlT rfl, p45_2, cond_true]
      congr 1
      funext y43 y44 y45
      congr 1
      funext s46
      rw [gd_y (by simp), gd_y (by simp; omega), subZ (by omega) (by omega), show ((r + 1 : Nat) : Int) - 1 = ((r : Nat) : Int) by omega]
      rfl
    simp only [many]
    unfold rdName
    cases ht : rdTxt 24 bs with
    | error e =>
      rw [ht] at htx
      obtain ⟨he, B, hB⟩ := htx
      dsimp only at hB
      intro K
      rw [step, hB, show (nilE : EL) = encB [] from rfl, tobP_enc]
      obtain ⟨n, rfl⟩ : ∃ n', n = n' + 1 := ⟨n - 1, by omega⟩
      rw [p45_3L, p45_3]
      by_cases h0 : r = 0
      · rw [gtrF (by omega), cond_false, p45_2, cond_false, neqT he, cond_true, p45_1, cond_true]; rfl
      · rw [gtrT (by omega), cond_true, eqlF he, p45_2, cond_false, neqT he, cond_true, p45_1, cond_true]; rfl
    | ok x =>
      obtain ⟨s, bs1⟩ := x
      have ht1 := rdTxt_ok ht
      rw [ht] at htx
      simp only [SOut] at htx
      have ih := axLoop hfu y30 k n0 nm L A r n bs1 p (z ++ [strRow ⟨s.toArray⟩]) (by omega) (by simp; omega) (by omega)
      dsimp only
      have hfold : many (fun p bs => match rdTxt 24 bs with | .error e => Except.error e | .ok (s, r) => .ok ((⟨s.toArray⟩ : ByteArray), r, p)) r p bs1 = many rdName r p bs1 := rfl
      rw [hfold]
      have h2 : ∀ K : RK14 ρ, p45_3L fail fu K y1 y4 y7 y10 y13 j21 k n0 nm L A y30 (n + 1) (encB bs) 0 z ((r + 1 : Nat) : Int) = p45_3L fail fu K y1 y4 y7 y10 y13 j21 k n0 nm L A y30 n (encB bs1) 0 (z ++ [strRow ⟨s.toArray⟩]) ((r : Nat) : Int) := fun K => by rw [step, htx, tobP_enc]
      cases hm : many rdName r p bs1 with
      | error e => rw [hm] at ih; intro K; rw [h2, ih]
      | ok x =>
        obtain ⟨l, bs2, p2⟩ := x
        rw [hm] at ih
        intro K
        rw [h2, ih, List.append_assoc]; rfl
variable (hfu : 70000 ≤ fu)
include hfu
theorem r5_dead (k n0 : Int) (nm : ByteArray) (L A B : EL) (e : Int) (he : e ≠ 0) : Gd (fun K : RK14 ρ => p45_5 fail fu K y1 y4 y7 y10 y13 j21 B e k n0 nm L A) none := fun K => by
  dsimp only
  rw [p45_5, numE _ _ _ _ _ he, numE _ _ _ _ _ he, gtrF (by omega), cond_false, p45_4]
  obtain ⟨m, hm⟩ : ∃ m, fu = m + 1 := ⟨fu - 1, by omega⟩
  have : ∀ m', m' = m + 1 → p45_3L fail fu K y1 y4 y7 y10 y13 j21 k n0 nm L A 0 m' B e nilE 0 = rpOut none K := fun m' h => by
    subst h; rw [p45_3L, p45_3, gtrF (by omega), cond_false, p45_2, cond_false, neqT he, cond_true, p45_1, cond_true]; rfl
  exact this fu hm
theorem r5_rd (bs : List UInt8) (hb : bs.length ≤ 1099511627776) : Gd (fun K : RK14 ρ => p45_5 fail fu K y1 y4 y7 y10 y13 j21 (encB bs) 0 t.k t.n t.nm (Lv.rows t.ls) (Tm.rows t.args)) (tail5 y1 y4 y7 y10 y13 j21 t (rdR5 bs)) := by
  have hn1 := num_eq (ρ := ρ) fail fu (by omega) bs hb
  obtain ⟨m, hm⟩ : ∃ m, fu = m + 1 := ⟨fu - 1, by omega⟩
  have dead : ∀ (K : RK14 ρ) (pa n : Int) (B : EL) (e : Int), e ≠ 0 → ∀ m', m' = m + 1 → p45_3L fail fu K y1 y4 y7 y10 y13 j21 t.k t.n t.nm (Lv.rows t.ls) (Tm.rows t.args) pa m' B e nilE n = rpOut none K := fun K pa n B e he m' h => by
    subst h; rw [p45_3L, p45_3]
    by_cases h0 : n > 0
    · rw [gtrT h0, cond_true, eqlF he, p45_2, cond_false, neqT he, cond_true, p45_1, cond_true]; rfl
    · rw [gtrF (by omega), cond_false, p45_2, cond_false, neqT he, cond_true, p45_1, cond_true]; rfl
  unfold rdR5
  cases h1 : rdNum bs with
  | error e =>
    rw [h1] at hn1
    obtain ⟨he, B, hB⟩ := hn1
    dsimp only at hB
    intro K
    dsimp only
    rw [p45_5, hB, numE _ _ _ _ _ he, gtrF (by omega), cond_false, p45_4]
    exact dead K _ _ B e he fu hm
  | ok x =>
    obtain ⟨pa, bs1⟩ := x
    have h1s := rdNum_ok h1
    rw [h1] at hn1
    simp only [KOut] at hn1
    have hn2 := num_eq (ρ := ρ) fail fu (by omega) bs1 (by omega)
    dsimp only
    cases h2 : rdNum bs1 with
    | error e =>
      rw [h2] at hn2
      obtain ⟨he, B, hB⟩ := hn2
      dsimp only at hB
      intro K
      dsimp only
      rw [p45_5, hn1, hB, gtrF (by omega), cond_false, p45_4]
      exact dead K _ _ B e he fu hm
    | ok x =>
      obtain ⟨n, bs2⟩ := x
      have h2s := rdNum_ok h2
      rw [h2] at hn2
      simp only [KOut] at hn2
      dsimp only
      by_cases h6 : 65536 < n
      · rw [if_pos h6]
        intro K
        dsimp only
        rw [p45_5, hn1, hn2, gtrT (by omega), cond_true, fails0, p45_4]
        exact dead K _ _ _ 5 (by decide) fu hm
      · rw [if_neg h6]
        have := axLoop fail fu y1 y4 y7 y10 y13 j21 (by omega) ((pa : Nat) : Int) t.k t.n t.nm (Lv.rows t.ls) (Tm.rows t.args) n fu bs2 0 nilE (by omega) (by simp; omega) (by omega)
        have hs : ∀ K : RK14 ρ, p45_5 fail fu K y1 y4 y7 y10 y13 j21 (encB bs) 0 t.k t.n t.nm (Lv.rows t.ls) (Tm.rows t.args) = p45_3L fail fu K y1 y4 y7 y10 y13 j21 t.k t.n t.nm (Lv.rows t.ls) (Tm.rows t.args) ((pa : Nat) : Int) fu (encB bs2) 0 nilE ((n : Nat) : Int) := fun K => by
          rw [p45_5, hn1, hn2, gtrF (by omega), cond_false, p45_4]
        cases hmn : many rdName n 0 bs2 with
        | error e => rw [hmn] at this; intro K; dsimp only; rw [hs, this]
        | ok x =>
          obtain ⟨l, bs3, q⟩ := x
          rw [hmn] at this
          intro K
          dsimp only
          rw [hs, this]
          by_cases h0 : bs3.length = 0
          · rw [if_pos h0, if_pos h0]; rfl
          · rw [if_neg h0, if_neg h0]
end
variable (hfu : 70000 ≤ fu)
include hfu
section
variable (y1 y4 y7 y10 y13 : Int) (j21 : Bool)
theorem r6_rd (has : Nat) (bs : List UInt8) (hb : bs.length ≤ 1099511627776) : Gd (fun K : RK14 ρ => bif (cmpStd .eql ((has : Nat) : Int) 1) then (p45_7 fail fu K y1 y4 y7 y10 y13 (encB bs) 0 j21 (cmpStd .eql (0 : Int) 0)) else (p45_7 fail fu K y1 y4 y7 y10 y13 (encB bs) 0 j21 false))
    (match rdR6 has bs with | none => none | some (t, pa, l) => some ⟨y1, y4, y7, y10, y13, j21, t, (pa : Nat), l⟩) := by
  unfold rdR6
  by_cases h1 : has = 1
  · rw [if_pos h1]
    have htm := Term_rd (ρ := ρ) fail fu (by omega) bs hb
    have hs : ∀ K : RK14 ρ, (bif (cmpStd .eql ((has : Nat) : Int) 1) then (p45_7 fail fu K y1 y4 y7 y10 y13 (encB bs) 0 j21 (cmpStd .eql (0 : Int) 0)) else (p45_7 fail fu K y1 y4 y7 y10 y13 (encB bs) 0 j21 false)) = p65 fail fu (fun y50 y51 y52 y53 y54 y55 y56 => p86 fail fu (fun y57 => bif y57 then (p94 fail fu (fun y60 y61 => p45_6 fail fu K y1 y4 y7 y10 y13 j21 y50 y51 y52 y53 y54 y60 y61) y55 y56 5) else (p45_6 fail fu K y1 y4 y7 y10 y13 j21 y50 y51 y52 y53 y54 y55 y56)) y50 y51 y52 y53 y54 0 0 ⟨#[]⟩ nilE nilE) (encB bs) 0 := fun K => by
      rw [eqlT (show ((has : Nat) : Int) = 1 by omega), cond_true, eqlT rfl, p45_7, cond_true]
    cases htt : rdTerm bs with
    | error e =>
      rw [htt] at htm
      obtain ⟨he, a, b, c, l, g, B, hB⟩ := htm
      dsimp only at hB
      intro K
      dsimp only
      rw [hs, hB, term_isZ0 fail fu (by omega)]
      cases (decide (a = 0) && (decide (b = 0) && (decide (c.size = 0) && (decide (l.length = 0) && decide (g.length = 0))))) with
      | true => rw [cond_true, failsE _ _ _ _ _ _ he, p45_6]; exact r5_dead fail fu y1 y4 y7 y10 y13 j21 hfu _ _ _ _ _ _ e he K
      | false => rw [cond_false, p45_6]; exact r5_dead fail fu y1 y4 y7 y10 y13 j21 hfu _ _ _ _ _ _ e he K
    | ok x =>
      obtain ⟨t, bs1⟩ := x
      have hsub := rdTerm_sub htt
      rw [htt] at htm
      simp only [TmO2] at htm
      have hz := fun K => term_isZ (ρ := ρ) fail fu (by omega) K t
      dsimp only
      by_cases c : isZ t = true
      · rw [if_pos c]
        intro K
        dsimp only
        rw [hs, htm, hz, c, cond_true, fails0, p45_6]
        exact r5_dead fail fu y1 y4 y7 y10 y13 j21 hfu _ _ _ _ _ _ 5 (by decide) K
      · rw [if_neg c]
        intro K
        dsimp only
        rw [hs, htm, hz, Bool.eq_false_iff.2 c, cond_false, p45_6]
        refine (r5_rd fail fu y1 y4 y7 y10 y13 j21 t hfu bs1 (by omega) K).trans ?_
        cases rdR5 bs1 <;> rfl
  · rw [if_neg h1]
    intro K
    dsimp only
    rw [eqlF (by omega), cond_false, p45_7, cond_false]
    refine (r5_rd fail fu y1 y4 y7 y10 y13 j21 tm0 hfu bs hb K).trans ?_
    cases rdR5 bs <;> rfl
theorem r7_dead (has : Int) (y16 : Bool) (B : EL) (e : Int) (he : e ≠ 0) : Gd (fun K : RK14 ρ => bif (cmpStd .eql has 1) then (p45_7 fail fu K y1 y4 y7 y10 y13 B e y16 (cmpStd .eql e 0)) else (p45_7 fail fu K y1 y4 y7 y10 y13 B e y16 false)) none := fun K => by
  dsimp only
  rw [eqlF he]
  cases cmpStd .eql has 1 <;> (simp only [cond_true, cond_false]; rw [p45_7, cond_false]; exact r5_dead fail fu y1 y4 y7 y10 y13 y16 hfu _ _ _ _ _ B e he K)
end
/-- Stages, from the last one on. -/
def s7 (K0 : RK14 ρ) (y1 y4 y7 y10 y13 : Int) (y16 : Int) (B : EL) (e : Int) : ρ := p93 fail fu (fun y62 y63 y64 => bif (cmpStd .eql y62 1) then (p45_7 fail fu K0 y1 y4 y7 y10 y13 y63 y64 (cmpStd .eql y16 1) (cmpStd .eql y64 0)) else (p45_7 fail fu K0 y1 y4 y7 y10 y13 y63 y64 (cmpStd .eql y16 1) false)) B e 0 1
def s6 (K0 : RK14 ρ) (y1 y4 y7 y10 y13 : Int) (B : EL) (e : Int) : ρ := p93 fail fu (fun y16 y17 y18 => s7 fail fu K0 y1 y4 y7 y10 y13 y16 y17 y18) B e 0 1
def s5 (K0 : RK14 ρ) (y1 y4 y7 y10 : Int) (B : EL) (e : Int) : ρ := p91 fail fu (fun y13 y14 y15 => s6 fail fu K0 y1 y4 y7 y10 y13 y14 y15) B e
def s4 (K0 : RK14 ρ) (y1 y4 y7 : Int) (B : EL) (e : Int) : ρ := p91 fail fu (fun y10 y11 y12 => s5 fail fu K0 y1 y4 y7 y10 y11 y12) B e
def s3 (K0 : RK14 ρ) (y1 y4 : Int) (B : EL) (e : Int) : ρ := p92 fail fu (fun y7 y8 y9 => s4 fail fu K0 y1 y4 y7 y8 y9) B e
def s2 (K0 : RK14 ρ) (y1 : Int) (B : EL) (e : Int) : ρ := p92 fail fu (fun y4 y5 y6 => s3 fail fu K0 y1 y4 y5 y6) B e
omit hfu in
theorem take_s (K0 : RK14 ρ) (B : EL) : p45 fail fu K0 B = p91 fail fu (fun y1 y2 y3 => s2 fail fu K0 y1 y2 y3) B 0 := rfl
section
variable (B : EL) (e : Int) (he : e ≠ 0)
include he
theorem s7_dead (y1 y4 y7 y10 y13 y16 : Int) : Gd (fun K : RK14 ρ => s7 fail fu K y1 y4 y7 y10 y13 y16 B e) none := fun K =>
  (kindE fail fu _ B e he 0 1 (by decide) (by decide)).trans (r7_dead fail fu hfu y1 y4 y7 y10 y13 _ _ B e he K)
theorem s6_dead (y1 y4 y7 y10 y13 : Int) : Gd (fun K : RK14 ρ => s6 fail fu K y1 y4 y7 y10 y13 B e) none := fun K =>
  (kindE fail fu _ B e he 0 1 (by decide) (by decide)).trans (s7_dead fail fu hfu B e he y1 y4 y7 y10 y13 _ K)
theorem s5_dead (y1 y4 y7 y10 : Int) : Gd (fun K : RK14 ρ => s5 fail fu K y1 y4 y7 y10 B e) none := fun K =>
  (numE fail fu _ B e he).trans (s6_dead fail fu hfu B e he y1 y4 y7 y10 _ K)
theorem s4_dead (y1 y4 y7 : Int) : Gd (fun K : RK14 ρ => s4 fail fu K y1 y4 y7 B e) none := fun K =>
  (numE fail fu _ B e he).trans (s5_dead fail fu hfu B e he y1 y4 y7 _ K)
theorem s3_dead (y1 y4 : Int) : Gd (fun K : RK14 ρ => s3 fail fu K y1 y4 B e) none := fun K =>
  (eightE fail fu _ B e he).trans (s4_dead fail fu hfu B e he y1 y4 _ K)
theorem s2_dead (y1 : Int) : Gd (fun K : RK14 ρ => s2 fail fu K y1 B e) none := fun K =>
  (eightE fail fu _ B e he).trans (s3_dead fail fu hfu B e he y1 _ K)
end
omit hfu in
/-- A step, and what follows. -/
theorem Gd.step {q : (Int → EL → Int → ρ) → ρ} {j : Int} {x : Except Int (Nat × List UInt8)} (h : KOut q j x) {c : RK14 ρ → Int → EL → Int → ρ} {f : Nat × List UInt8 → Option Rp} (h1 : ∀ v r, x = .ok (v, r) → Gd (fun K => c K (v : Nat) (encB r) 0) (f (v, r))) (h2 : ∀ B e, e ≠ 0 → Gd (fun K => c K j B e) none) : Gd (fun K => q (c K)) (opt x f) := by
  cases x with
  | error e =>
    obtain ⟨he, B, hB⟩ := h
    intro K
    exact (hB _).trans (h2 B e he K)
  | ok x =>
    obtain ⟨v, r⟩ := x
    intro K
    exact (h _).trans (h1 v r rfl K)
theorem take_eq (bs : List UInt8) (hb : bs.length ≤ 1099511627776) : Gd (fun K : RK14 ρ => p45 fail fu K (encB bs)) (rdRep bs) := by
  have e1 : ∀ K : RK14 ρ, p45 fail fu K (encB bs) = _ := fun K => take_s fail fu K (encB bs)
  have := Gd.step (num_eq (ρ := ρ) fail fu (by omega) bs hb) (c := fun K y1 y2 y3 => s2 fail fu K y1 y2 y3) (f := fun (err, bs) => opt (rdEight bs) fun (hi, bs) => opt (rdEight bs) fun (lo, bs) => opt (rdNum bs) fun (fuel, bs) => opt (rdNum bs) fun (cells, bs) =>
    opt (rdKind 0 1 bs) fun (yes, bs) => opt (rdKind 0 1 bs) fun (has, bs) => match rdR6 has bs with
      | none => none
      | some (t, pa, l) => some ⟨(err : Nat), (hi : Nat), (lo : Nat), (fuel : Nat), (cells : Nat), decide (yes = 1), t, (pa : Nat), l⟩) (fun err b1 h1 => ?_) (fun B e he => s2_dead fail fu hfu B e he _)
  · exact this
  have l1 := (rdNum_ok h1).2.1
  refine Gd.step (eight_eq (ρ := ρ) fail fu (by omega) b1 (by omega)) (c := fun K y1 y2 y3 => s3 fail fu K (err : Nat) y1 y2 y3) (fun hi b2 h2 => ?_) (fun B e he => s3_dead fail fu hfu B e he _ _)
  have l2 := (rdEight_ok h2).2.1
  refine Gd.step (eight_eq (ρ := ρ) fail fu (by omega) b2 (by omega)) (c := fun K y1 y2 y3 => s4 fail fu K (err : Nat) (hi : Nat) y1 y2 y3) (fun lo b3 h3 => ?_) (fun B e he => s4_dead fail fu hfu B e he _ _ _)
  have l3 := (rdEight_ok h3).2.1
  refine Gd.step (num_eq (ρ := ρ) fail fu (by omega) b3 (by omega)) (c := fun K y1 y2 y3 => s5 fail fu K (err : Nat) (hi : Nat) (lo : Nat) y1 y2 y3) (fun fuel b4 h4 => ?_) (fun B e he => s5_dead fail fu hfu B e he _ _ _ _)
  have l4 := (rdNum_ok h4).2.1
  refine Gd.step (num_eq (ρ := ρ) fail fu (by omega) b4 (by omega)) (c := fun K y1 y2 y3 => s6 fail fu K (err : Nat) (hi : Nat) (lo : Nat) (fuel : Nat) y1 y2 y3) (fun cells b5 h5 => ?_) (fun B e he => s6_dead fail fu hfu B e he _ _ _ _ _)
  have l5 := (rdNum_ok h5).2.1
  refine Gd.step (kind_eq (ρ := ρ) fail fu (by omega) b5 (by omega) 0 1 (by decide) (by decide)) (c := fun K y1 y2 y3 => s7 fail fu K (err : Nat) (hi : Nat) (lo : Nat) (fuel : Nat) (cells : Nat) y1 y2 y3) (fun yes b6 h6 => ?_) (fun B e he => s7_dead fail fu hfu B e he _ _ _ _ _ _)
  have l6 := (rdKind_ok h6).2.2.1
  have hy : cmpStd .eql ((yes : Nat) : Int) 1 = decide (yes = 1) := by
    by_cases q : yes = 1
    · rw [eqlT (by omega), decide_eq_true q]
    · rw [eqlF (by omega), decide_eq_false q]
  refine Gd.step (kind_eq (ρ := ρ) fail fu (by omega) b6 (by omega) 0 1 (by decide) (by decide)) (c := fun K y62 y63 y64 => bif (cmpStd .eql y62 1) then (p45_7 fail fu K (err : Nat) (hi : Nat) (lo : Nat) (fuel : Nat) (cells : Nat) y63 y64 (cmpStd .eql ((yes : Nat) : Int) 1) (cmpStd .eql y64 0)) else (p45_7 fail fu K (err : Nat) (hi : Nat) (lo : Nat) (fuel : Nat) (cells : Nat) y63 y64 (cmpStd .eql ((yes : Nat) : Int) 1) false)) (fun has b7 h7 => ?_) (fun B e he => r7_dead fail fu hfu _ _ _ _ _ _ _ B e he)
  have l7 := (rdKind_ok h7).2.2.1
  rw [hy]
  exact r6_rd fail fu hfu _ _ _ _ _ _ has b7 (by omega)
end
end Go.Proofs.Ythncmjlcmlmnmaa

namespace Go.Proofs.Ythncmjlcmlmnmaa
open Go V
set_option maxRecDepth 100000
set_option maxHeartbeats 4000000
def p136_1 {ρ : Type} (fail : ρ) (fu : Nat)  (K0 : Int → ρ)  (x0 : Int) (j2 : Bool) : ρ :=
  bif j2 then (K0 2) else (bif (cmpStd .eql x0 6) then (K0 3) else (K0 (-1)))
def p136_2 {ρ : Type} (fail : ρ) (fu : Nat)  (K0 : Int → ρ)  (x0 : Int) (j3 : Bool) : ρ :=
  p136_1 fail fu  K0 x0 j3
def p136_3 {ρ : Type} (fail : ρ) (fu : Nat)  (K0 : Int → ρ)  (x0 : Int) (j1 : Bool) : ρ :=
  bif j1 then (K0 0) else (bif (cmpStd .eql x0 3) then (p136_1 fail fu  K0 x0 (cmpStd .eql x0 3)) else (bif (cmpStd .eql x0 4) then (p136_2 fail fu  K0 x0 (cmpStd .eql x0 4)) else (p136_2 fail fu  K0 x0 (cmpStd .eql x0 5))))
def p136_4 {ρ : Type} (fail : ρ) (fu : Nat)  (K0 : Int → ρ)  (x0 : Int) (j4 : Bool) : ρ :=
  p136_3 fail fu  K0 x0 j4
/-- ref5.Args -/
def p136 {ρ : Type} (fail : ρ) (fu : Nat)  (K0 : Int → ρ) (x0 : Int) : ρ :=
  bif (cmpStd .eql x0 0) then (p136_3 fail fu  K0 x0 (cmpStd .eql x0 0)) else (bif (cmpStd .eql x0 1) then (p136_4 fail fu  K0 x0 (cmpStd .eql x0 1)) else (p136_4 fail fu  K0 x0 (cmpStd .eql x0 2)))
theorem d_p136 (fu : Nat)  {K0 : Int → Prop} (L : EL → Nat) (hN : L = List.length) {x0 : Int} (h : p136 False fu K0 x0) : Den Try.prog G0 136 [.c (.v (.int .i64 x0))] (fun r bs => (∃ (y0 : Int) (o0 : OV), (r = .c (.v (.int .i64 y0)) ∧ bs = [o0]) ∧ K0 y0)) := by
  obtain ⟨O, hO⟩ : ∃ O, O = std 0 T G0 (Den Try.prog G0) := ⟨_, rfl⟩
  have hLO : L = O.len := by rw [hN, hO]; rfl
  subst hLO
  refine den_h hO tiA mixed tabOk (fn := Try.f136) (sh := true) (by kernel_rfl) rfl rfl rfl rfl ?_
  intro Q hQ
  unfold p136 at h
  conv => cbv
  refine br_join_h hO tiA h (by subst hO; rfl) [3, 4] [] [] (fun tm m => ∃ (j1 : Bool), ((tm = frame 0 14 [(3, .c (.v (.int .i64 x0))), (4, .c (.v (.bool j1)))] ∧ m = ⟨[], 1⟩)) ∧ p136_3 False fu  K0 x0 j1) (fun hc6 h L hL_3 => ?_) (fun hc6 h L hL_3 => ?_) ?_
  · conv => cbv
    exact hL_3 _ _ ⟨(cmpStd .eql x0 0), ⟨(by (conv => lhs; cbv) <;> (subst hO; rfl)), (by (conv => lhs; cbv) <;> (subst hO; rfl))⟩, h⟩
  · conv => cbv
    refine br_join_h hO tiA h (by subst hO; rfl) [3, 4] [] [] (fun tm m => ∃ (j4 : Bool), ((tm = frame 0 14 [(3, .c (.v (.int .i64 x0))), (4, .c (.v (.bool j4)))] ∧ m = ⟨[], 1⟩)) ∧ p136_4 False fu  K0 x0 j4) (fun hc7 h L hL_4 => ?_) (fun hc7 h L hL_4 => ?_) ?_
    · conv => cbv
      exact hL_4 _ _ ⟨(cmpStd .eql x0 1), ⟨(by (conv => lhs; cbv) <;> (subst hO; rfl)), (by (conv => lhs; cbv) <;> (subst hO; rfl))⟩, h⟩
    · conv => cbv
      exact hL_4 _ _ ⟨(cmpStd .eql x0 2), ⟨(by (conv => lhs; cbv) <;> (subst hO; rfl)), (by (conv => lhs; cbv) <;> (subst hO; rfl))⟩, h⟩
    · rintro tm m ⟨j4, hs, h⟩
      unfold p136_4 at h
      obtain ⟨rfl, rfl⟩ := hs
      conv => cbv
      exact hL_3 _ _ ⟨j4, ⟨(by (conv => lhs; cbv) <;> (subst hO; rfl)), (by (conv => lhs; cbv) <;> (subst hO; rfl))⟩, h⟩
  · rintro tm m ⟨j1, hs, h⟩
    unfold p136_3 at h
    obtain ⟨rfl, rfl⟩ := hs
    conv => cbv
    refine br_h hO h (by subst hO; rfl) (fun hc1 h => ?_) (fun hc1 h => ?_)
    · conv => cbv
      rw [hQ]
      exact ⟨0, _, ⟨(by subst hO; rfl), (by subst hO; rfl)⟩, h⟩
    · conv => cbv
      refine br_join_h hO tiA h (by subst hO; rfl) [3, 8] [] [] (fun tm m => ∃ (j2 : Bool), ((tm = frame 0 14 [(3, .c (.v (.int .i64 x0))), (8, .c (.v (.bool j2)))] ∧ m = ⟨[], 1⟩)) ∧ p136_1 False fu  K0 x0 j2) (fun hc4 h L hL_1 => ?_) (fun hc4 h L hL_1 => ?_) ?_
      · conv => cbv
        exact hL_1 _ _ ⟨(cmpStd .eql x0 3), ⟨(by (conv => lhs; cbv) <;> (subst hO; rfl)), (by (conv => lhs; cbv) <;> (subst hO; rfl))⟩, h⟩
      · conv => cbv
        refine br_join_h hO tiA h (by subst hO; rfl) [3, 8] [] [] (fun tm m => ∃ (j3 : Bool), ((tm = frame 0 14 [(3, .c (.v (.int .i64 x0))), (8, .c (.v (.bool j3)))] ∧ m = ⟨[], 1⟩)) ∧ p136_2 False fu  K0 x0 j3) (fun hc5 h L hL_2 => ?_) (fun hc5 h L hL_2 => ?_) ?_
        · conv => cbv
          exact hL_2 _ _ ⟨(cmpStd .eql x0 4), ⟨(by (conv => lhs; cbv) <;> (subst hO; rfl)), (by (conv => lhs; cbv) <;> (subst hO; rfl))⟩, h⟩
        · conv => cbv
          exact hL_2 _ _ ⟨(cmpStd .eql x0 5), ⟨(by (conv => lhs; cbv) <;> (subst hO; rfl)), (by (conv => lhs; cbv) <;> (subst hO; rfl))⟩, h⟩
        · rintro tm m ⟨j3, hs, h⟩
          unfold p136_2 at h
          obtain ⟨rfl, rfl⟩ := hs
          conv => cbv
          exact hL_1 _ _ ⟨j3, ⟨(by (conv => lhs; cbv) <;> (subst hO; rfl)), (by (conv => lhs; cbv) <;> (subst hO; rfl))⟩, h⟩
      · rintro tm m ⟨j2, hs, h⟩
        unfold p136_1 at h
        obtain ⟨rfl, rfl⟩ := hs
        conv => cbv
        refine br_h hO h (by subst hO; rfl) (fun hc2 h => ?_) (fun hc2 h => ?_)
        · conv => cbv
          rw [hQ]
          exact ⟨2, _, ⟨(by subst hO; rfl), (by subst hO; rfl)⟩, h⟩
        · conv => cbv
          refine br_h hO h (by subst hO; rfl) (fun hc3 h => ?_) (fun hc3 h => ?_)
          · conv => cbv
            rw [hQ]
            exact ⟨3, _, ⟨(by subst hO; rfl), (by subst hO; rfl)⟩, h⟩
          · conv => cbv
            refine join_all hO ?_
            conv => cbv
            refine join_all hO ?_
            conv => cbv
            refine join_all hO ?_
            conv => cbv
            rw [hQ]
            exact ⟨(-1), _, ⟨(by subst hO; rfl), (by subst hO; rfl)⟩, h⟩
end Go.Proofs.Ythncmjlcmlmnmaa

namespace Go.Proofs.Ythncmjlcmlmnmaa
open Go V
set_option maxRecDepth 100000
set_option maxHeartbeats 2000000
def nkN (k : Nat) : Nat := if k ≤ 2 then 0 else tmN k
theorem rargs_eq {ρ : Type} (fail : ρ) (fu : Nat) (K : Int → ρ) (k : Nat) (h : k ≤ 6) : p136 fail fu K ((k : Nat) : Int) = K ((nkN k : Nat) : Int) := by
  have : k = 0 ∨ k = 1 ∨ k = 2 ∨ k = 3 ∨ k = 4 ∨ k = 5 ∨ k = 6 := by omega
  rcases this with rfl | rfl | rfl | rfl | rfl | rfl | rfl <;> rfl
def lowB : Nat → Nat → List UInt8
  | 0, _ => []
  | m + 1, v => lowB m (v / 256) ++ [UInt8.ofNat (v % 256)]
theorem lowB_len : ∀ m v, (lowB m v).length = m
  | 0, _ => rfl
  | m + 1, v => by simp [lowB, lowB_len m]
theorem lowB_be : ∀ (m : Nat) (l : List UInt8), l.length = m → lowB m (be l) = l := by
  intro m
  induction m with
  | zero => intro l h; rw [List.length_eq_zero_iff.1 h]; rfl
  | succ m ih =>
    intro l h
    have hne : l ≠ [] := fun q => by rw [q] at h; simp at h
    have hl := List.dropLast_concat_getLast hne
    have hc := (l.getLast hne).toNat_lt
    have h1 := ih l.dropLast (by rw [List.length_dropLast]; omega)
    have hb : be l = be l.dropLast * 256 + (l.getLast hne).toNat := by rw [← be_snoc, hl]
    rw [lowB, hb, show (be l.dropLast * 256 + (l.getLast hne).toNat) / 256 = be l.dropLast by omega, show (be l.dropLast * 256 + (l.getLast hne).toNat) % 256 = (l.getLast hne).toNat by omega, h1, UInt8.ofNat_toNat, hl]
theorem be_lowB : ∀ (m v : Nat), v < 256 ^ m → be (lowB m v) = v := by
  intro m
  induction m with
  | zero => intro v h; simp at h; subst h; rfl
  | succ m ih =>
    intro v h
    rw [lowB, be_snoc, ih (v / 256) (by rw [Nat.pow_succ] at h; exact Nat.div_lt_of_lt_mul (by rw [Nat.mul_comm]; exact h)), u8_nat (by omega)]
    omega
mutual
/-- Has each part its levels? -/
def Tm.lvOk : Tm → Prop
  | .mk k _ _ l a => (k = 1 → l.length = 1) ∧ (k ≠ 1 → k ≠ 2 → l = []) ∧ Tm.lvOks a
def Tm.lvOks : List Tm → Prop
  | [] => True
  | a :: l => Tm.lvOk a ∧ Tm.lvOks l
end
theorem Tm.lvOks_mem : ∀ {l : List Tm} {a : Tm}, Tm.lvOks l → a ∈ l → a.lvOk
  | b :: l, a, h, ha => by
    rcases List.mem_cons.1 ha with rfl | ha
    · exact h.1
    · exact Tm.lvOks_mem h.2 ha
theorem scmp_nrefl (s : ByteArray) : scmpStd .neq s s = false := by simp [scmpStd]
theorem lv_same {ρ : Type} (fail : ρ) : ∀ (N : Nat) (l : Lv), l.sz ≤ N → ∀ (fu : Nat) (K : Bool → ρ), l.sz + 20 ≤ fu → l.sz < 1099511627776 → p37 fail fu K l.k l.n (Lv.rows l.args) l.k l.n (Lv.rows l.args) = K true := by
  intro N
  induction N with
  | zero => intro l h; cases l; simp [Lv.sz] at h
  | succ N ih =>
    intro l hN fu K hf hsz
    obtain ⟨k, n, l⟩ := l
    obtain ⟨m, rfl⟩ : ∃ m, fu = m + 1 := ⟨fu - 1, by omega⟩
    simp only [Lv.sz] at hN hf hsz
    simp only [Lv.k, Lv.n, Lv.args]
    have hl := Lv.szs_len l
    rw [p37, p37_b]
    generalize hs : p37 fail m = s
    have loop : ∀ (r i j : Nat), i + r = l.length → r < j → p37_1L fail m s K (Lv.rows l) (Lv.rows l) j ((i : Nat) : Int) = K true := by
      intro r
      induction r with
      | zero =>
        intro i j hi hj
        obtain ⟨j, rfl⟩ : ∃ j', j = j' + 1 := ⟨j - 1, by omega⟩
        rw [p37_1L, p37_1, Lv.rows_len, lssF (by omega), cond_false]
      | succ r ihr =>
        intro i j hi hj
        obtain ⟨j, rfl⟩ : ∃ j', j = j' + 1 := ⟨j - 1, by omega⟩
        have hlt : i < l.length := by omega
        have h3 := Lv.szs_mem (List.getElem_mem hlt)
        have h4 := ih l[i] (by omega) m (fun y9 => bif (!y9) then (K false) else (p37_1L fail m s K (Lv.rows l) (Lv.rows l) j (binStd .add .i64 ((i : Nat) : Int) 1))) (by omega) (by omega)
        rw [hs] at h4
        rw [p37_1L, p37_1, Lv.rows_len, lssT (by omega), cond_true, gd_y (by omega), gd_y (by omega), lv_row fail l i hlt, gd_y (by omega), gd_y (by omega), lv_row fail l i hlt, h4, Bool.not_true, cond_false, addZ (by omega) (by omega), show ((i : Nat) : Int) + 1 = ((i + 1 : Nat) : Int) by omega]
        exact ihr (i + 1) j (by omega) (by omega)
    rw [neqF rfl, cond_false, neqF rfl, cond_false, neqF rfl, p37_2, cond_false]
    exact loop l.length 0 m (by omega) (by omega)
theorem tm_same {ρ : Type} (fail : ρ) : ∀ (N : Nat) (t : Tm), t.sz ≤ N → ∀ (fu : Nat) (K : Bool → ρ), t.sz + 30 ≤ fu → t.sz < 1099511627776 → p19 fail fu K t.k t.n t.nm (Lv.rows t.ls) (Tm.rows t.args) t.k t.n t.nm (Lv.rows t.ls) (Tm.rows t.args) = K true := by
  intro N
  induction N with
  | zero => intro l h; cases l; simp [Tm.sz] at h
  | succ N ih =>
    intro t hN fu K hf hsz
    obtain ⟨k, n, sn, l, a⟩ := t
    obtain ⟨m, rfl⟩ : ∃ m, fu = m + 1 := ⟨fu - 1, by omega⟩
    simp only [Tm.sz] at hN hf hsz
    simp only [Tm.k, Tm.n, Tm.nm, Tm.ls, Tm.args]
    have hl := Lv.szs_len l
    have ha := Tm.szs_len a
    rw [p19, p19_b]
    generalize hs : p19 fail m = s
    have loop : ∀ (r i j : Nat), i + r = a.length → r < j → p19_1L fail m s K (Tm.rows a) (Tm.rows a) j ((i : Nat) : Int) = K true := by
      intro r
      induction r with
      | zero =>
        intro i j hi hj
        obtain ⟨j, rfl⟩ : ∃ j', j = j' + 1 := ⟨j - 1, by omega⟩
        rw [p19_1L, p19_1, Tm.rows_len, lssF (by omega), cond_false]
      | succ r ihr =>
        intro i j hi hj
        obtain ⟨j, rfl⟩ : ∃ j', j = j' + 1 := ⟨j - 1, by omega⟩
        have hlt : i < a.length := by omega
        have h3 := Tm.szs_mem (List.getElem_mem hlt)
        have h4 := ih a[i] (by omega) m (fun y9 => bif (!y9) then (K false) else (p19_1L fail m s K (Tm.rows a) (Tm.rows a) j (binStd .add .i64 ((i : Nat) : Int) 1))) (by omega) (by omega)
        rw [hs] at h4
        rw [p19_1L, p19_1, Tm.rows_len, lssT (by omega), cond_true, gd_y (by omega), gd_y (by omega), tm_row fail a i hlt, gd_y (by omega), gd_y (by omega), tm_row fail a i hlt, h4, Bool.not_true, cond_false, addZ (by omega) (by omega), show ((i : Nat) : Int) + 1 = ((i + 1 : Nat) : Int) by omega]
        exact ihr (i + 1) j (by omega) (by omega)
    have loop2 : ∀ (r i j : Nat), i + r = l.length → r < j → p19_2L fail m s K (Lv.rows l) (Tm.rows a) (Lv.rows l) (Tm.rows a) j ((i : Nat) : Int) = K true := by
      intro r
      induction r with
      | zero =>
        intro i j hi hj
        obtain ⟨j, rfl⟩ : ∃ j', j = j' + 1 := ⟨j - 1, by omega⟩
        rw [p19_2L, p19_2, Lv.rows_len, lssF (by omega), cond_false]
        exact loop a.length 0 m (by omega) (by omega)
      | succ r ihr =>
        intro i j hi hj
        obtain ⟨j, rfl⟩ : ∃ j', j = j' + 1 := ⟨j - 1, by omega⟩
        have hlt : i < l.length := by omega
        have h3 := Lv.szs_mem (List.getElem_mem hlt)
        rw [p19_2L, p19_2, Lv.rows_len, lssT (by omega), cond_true, gd_y (by omega), gd_y (by omega), lv_row fail l i hlt, gd_y (by omega), gd_y (by omega), lv_row fail l i hlt, lv_same fail _ l[i] (Nat.le_refl _) m _ (by omega) (by omega), Bool.not_true, cond_false, addZ (by omega) (by omega), show ((i : Nat) : Int) + 1 = ((i + 1 : Nat) : Int) by omega]
        exact ihr (i + 1) j (by omega) (by omega)
    rw [neqF rfl, cond_false, neqF rfl, cond_false, scmp_nrefl, cond_false, neqF rfl, cond_false, neqF rfl, p19_3, cond_false]
    exact loop2 l.length 0 m (by omega) (by omega)
theorem nscmp_nil (s : ByteArray) : scmpStd .neq s ⟨#[]⟩ = !decide (s.size = 0) := by
  rw [← scmp_nil]; rfl
/-- Held against the zero term. -/
theorem rterm_isZ0 {ρ : Type} (fail : ρ) (fu : Nat) (hf : 20 ≤ fu) (K : Bool → ρ) (k n : Int) (s : ByteArray) (l a : EL) : p19 fail fu K k n s l a 0 0 ⟨#[]⟩ nilE nilE = K (decide (k = 0) && (decide (n = 0) && (decide (s.size = 0) && (decide (l.length = 0) && decide (a.length = 0))))) := by
  obtain ⟨m, rfl⟩ : ∃ m, fu = m + 1 := ⟨fu - 1, by omega⟩
  rw [p19, p19_b, nscmp_nil]
  by_cases c1 : k = 0
  · rw [neqF c1, cond_false, decide_eq_true c1, Bool.true_and]
    by_cases c2 : n = 0
    · rw [neqF c2, cond_false, decide_eq_true c2, Bool.true_and]
      by_cases c3 : s.size = 0
      · rw [decide_eq_true c3, Bool.not_true, cond_false, Bool.true_and]
        by_cases c4 : l.length = 0
        · have hl := List.length_eq_zero_iff.1 c4
          subst hl
          rw [neqF rfl, cond_false, decide_eq_true c4, Bool.true_and]
          by_cases c5 : a.length = 0
          · have ha := List.length_eq_zero_iff.1 c5
            subst ha
            obtain ⟨q, rfl⟩ : ∃ q, m = q + 1 := ⟨m - 1, by omega⟩
            rw [neqF rfl, p19_3, cond_false]; rfl
          · rw [neqT (by simp only [List.length_nil]; omega), p19_3, cond_true, decide_eq_false c5]
        · rw [neqT (by simp only [List.length_nil]; omega), cond_true, p19_3, cond_true, decide_eq_false c4]; rfl
      · rw [decide_eq_false c3, Bool.not_false, cond_true, p19_3, cond_true]; rfl
    · rw [neqT c2, cond_true, p19_3, cond_true, decide_eq_false c2]; rfl
  · rw [neqT c1, cond_true, p19_3, cond_true, decide_eq_false c1]; rfl
theorem rterm_isZ {ρ : Type} (fail : ρ) (fu : Nat) (hf : 20 ≤ fu) (K : Bool → ρ) (t : Tm) : p19 fail fu K t.k t.n t.nm (Lv.rows t.ls) (Tm.rows t.args) 0 0 ⟨#[]⟩ nilE nilE = K (isZ t) := by
  rw [rterm_isZ0 fail fu hf, Lv.rows_len, Tm.rows_len]; rfl
theorem str_row {ρ : Type} (fail : ρ) (l : List ByteArray) (i : Nat) (h : i < l.length) (k : ByteArray → ρ) : rw_s fail (List.getD (l.map strRow) (((i : Nat) : Int)).toNat []) k = k l[i] := by
  rw [Int.toNat_natCast, List.getD, List.getElem?_map, List.getElem?_eq_getElem h]; rfl
theorem names_same {ρ : Type} (fail : ρ) (fu : Nat) (K : Bool → ρ) (l : List ByteArray) (hf : l.length + 5 ≤ fu) (hl : l.length < 1099511627776) : p130 fail fu K (l.map strRow) (l.map strRow) = K true := by
  have loop : ∀ (r i j : Nat), i + r = l.length → r < j → p130_1L fail fu K (l.map strRow) (l.map strRow) j ((i : Nat) : Int) = K true := by
    intro r
    induction r with
    | zero =>
      intro i j hi hj
      obtain ⟨j, rfl⟩ : ∃ j', j = j' + 1 := ⟨j - 1, by omega⟩
      rw [p130_1L, p130_1, List.length_map, lssF (by omega), cond_false]
    | succ r ihr =>
      intro i j hi hj
      obtain ⟨j, rfl⟩ : ∃ j', j = j' + 1 := ⟨j - 1, by omega⟩
      have hlt : i < l.length := by omega
      rw [p130_1L, p130_1, List.length_map, lssT (by omega), cond_true, gd_y (by omega), gd_y (by omega), str_row fail l i hlt, gd_y (by omega), gd_y (by omega), str_row fail l i hlt, scmp_nrefl, cond_false, addZ (by omega) (by omega), show ((i : Nat) : Int) + 1 = ((i + 1 : Nat) : Int) by omega]
      exact ihr (i + 1) j (by omega) (by omega)
  rw [p130, neqF rfl, cond_false]
  exact loop l.length 0 fu (by omega) (by omega)
theorem reply_same {ρ : Type} (fail : ρ) (fu : Nat) (K : Bool → ρ) (r : Rp) (h1 : r.t.sz + 30 ≤ fu) (h2 : r.t.sz < 1099511627776) (h3 : r.ax.length + 5 ≤ fu) (h4 : r.ax.length < 1099511627776) :
    p47 fail fu K r.err r.hi r.lo r.fuel r.cells r.yes r.t.k r.t.n r.t.nm (Lv.rows r.t.ls) (Tm.rows r.t.args) r.params (r.ax.map strRow) r.err r.hi r.lo r.fuel r.cells r.yes r.t.k r.t.n r.t.nm (Lv.rows r.t.ls) (Tm.rows r.t.args) r.params (r.ax.map strRow) = K true := by
  have hb : (r.yes == r.yes) = true := by simp
  have hh : ((cmpStd .eql r.hi r.hi) && ((cmpStd .eql r.lo r.lo) && true)) = true := by rw [eqlT rfl, eqlT rfl]; rfl
  rw [p47, p99, eqlT rfl, cond_true, hh, cond_true, eqlT rfl, cond_true, eqlT rfl, cond_true, hb, cond_true, eqlT rfl, cond_true, tm_same fail _ r.t (Nat.le_refl _) fu _ h1 h2, cond_true, names_same fail fu _ r.ax h3 h4, p99_1]
-- ---------------------------------------------------------------- a reply's bytes
def axB : List ByteArray → List UInt8
  | [] => []
  | s :: l => txB s ++ axB l
def axSz : List ByteArray → Nat
  | [] => 0
  | s :: l => 1 + s.size + axSz l
def rpEnc (err : Int) (hi lo : Nat) (fuel cells : Int) (yes : Bool) (t : Tm) (pa : Int) (ax : List ByteArray) : List UInt8 :=
  varB (uv err) ++ (lowB 8 hi ++ (lowB 8 lo ++ (varB (uv fuel) ++ (varB (uv cells) ++ (varB (if yes then 1 else 0) ++ ((if isZ t = true then varB 0 else varB 1 ++ t.enc) ++ (varB (uv pa) ++ (varB ax.length ++ axB ax))))))))
theorem axSz_len : ∀ l : List ByteArray, l.length ≤ axSz l
  | [] => Nat.zero_le _
  | a :: l => by have := axSz_len l; simp only [axSz, List.length_cons]; omega
theorem axSz_mem : ∀ {l : List ByteArray} {a : ByteArray}, a ∈ l → a.size ≤ axSz l
  | b :: l, a, h => by
    simp only [axSz]
    rcases List.mem_cons.1 h with rfl | h
    · omega
    · have := axSz_mem h; omega
end Go.Proofs.Ythncmjlcmlmnmaa

namespace Go.Proofs.Ythncmjlcmlmnmaa
open Go V
set_option maxRecDepth 100000
set_option maxHeartbeats 4000000
def p25_1 {ρ : Type} (fail : ρ) (fu : Nat)  (K0 : EL → Nat → Nat → ρ) (rec1 : EL → Nat → Nat → Int → ρ) (x0 : EL) (z1 : EL) (z2 : Nat) (z3 : Nat) (z4 : Int) : ρ :=
  bif (cmpStd .lss z4 ((z3 : Nat) : Int)) then (gd (z3 ≤ z1.length) fail (gd ((0 : Int) ≤ z4) fail (gd ((z4 : Int) < (z3 : Nat)) fail (gd (((z4 : Int).toNat) + 1 ≤ z1.length) fail (gd (0 + 1 ≤ (List.getD z1 ((z4 : Int).toNat) []).length) fail (rec1 (List.set z1 ((z4 : Int).toNat) (putAt (List.getD z1 ((z4 : Int).toNat) []) 0 [(CV.v (.int .u8 229))])) z2 z3 (binStd .add .i64 z4 1))))))) else (gd (z3 ≤ z1.length) fail (gd ((0 : Int) ≤ ((x0.length : Nat) : Int)) fail (gd ((((x0.length : Nat) : Int) : Int) ≤ (z3 : Nat) ∨ true = true ∧ (((x0.length : Nat) : Int) : Int) ≤ (z1.length : Nat)) fail (gd (((((x0.length : Nat) : Int) : Int).toNat) ≤ z1.length) fail (K0 z1 z2 ((((x0.length : Nat) : Int) : Int).toNat))))))
def p25_1L {ρ : Type} (fail : ρ) (fu : Nat)  (K0 : EL → Nat → Nat → ρ)  (x0 : EL) : Nat → EL → Nat → Nat → Int → ρ
  | 0, _, _, _, _ => fail
  | n + 1, z1, z2, z3, z4 => p25_1 fail fu  K0 (p25_1L fail fu  K0  x0 n) x0 z1 z2 z3 z4
/-- law0.Twin -/
def p25 {ρ : Type} (fail : ρ) (fu : Nat)  (K0 : EL → Nat → Nat → ρ) (x0 : EL) : ρ :=
  gd ((0 : Int) ≤ (binStd .add .i64 ((x0.length : Nat) : Int) 3)) fail (gd ((binStd .add .i64 ((x0.length : Nat) : Int) 3 : Int) ≤ (binStd .add .i64 ((x0.length : Nat) : Int) 3)) fail (gd ((binStd .add .i64 ((x0.length : Nat) : Int) 3 : Int) * (1 : Nat) ≤ 70368744177664) fail (gd (((binStd .add .i64 ((x0.length : Nat) : Int) 3 : Int).toNat) ≤ (List.replicate ((binStd .add .i64 ((x0.length : Nat) : Int) 3 : Int).toNat) [(CV.v (.int .u8 0))]).length) fail (p25_1L fail fu  K0 x0 fu (List.take (min x0.length ((binStd .add .i64 ((x0.length : Nat) : Int) 3 : Int).toNat)) x0 ++ List.drop (min x0.length ((binStd .add .i64 ((x0.length : Nat) : Int) 3 : Int).toNat)) (List.replicate ((binStd .add .i64 ((x0.length : Nat) : Int) 3 : Int).toNat) [(CV.v (.int .u8 0))])) ((binStd .add .i64 ((x0.length : Nat) : Int) 3 : Int).toNat) ((binStd .add .i64 ((x0.length : Nat) : Int) 3 : Int).toNat) ((x0.length : Nat) : Int)))))
theorem d_p25 (fu : Nat)  {K0 : EL → Nat → Nat → Prop} (L : EL → Nat) (hN : L = List.length) {x0 : EL} (h : p25 False fu K0 x0) : Den Try.prog G0 25 [.c (.sl 1 x0 none)] (fun r bs => (∃ (y0 : EL) (y1 : Nat) (y2 : Nat) (o0 : OV), (r = .arr 1 y0 (some y1) false y2 ∧ bs = [o0]) ∧ K0 y0 y1 y2)) := by
  obtain ⟨O, hO⟩ : ∃ O, O = std 0 T G0 (Den Try.prog G0) := ⟨_, rfl⟩
  have hLO : L = O.len := by rw [hN, hO]; rfl
  subst hLO
  refine den_h hO tiA mixed tabOk (fn := Try.f25) (sh := false) (by kernel_rfl) rfl rfl rfl rfl ?_
  intro Q hQ
  unfold p25 at h
  conv => cbv
  refine and_h h (fun g => (by subst hO; exact g)) (fun h => ?_)
  refine and_h h (fun g => (by subst hO; exact g)) (fun h => ?_)
  refine and_h h (fun g => (by subst hO; exact g)) (fun h => ?_)
  refine alt_l hO ?_
  conv => cbv
  refine and_h h (fun g => (by subst hO; exact g)) (fun h => ?_)
  refine loop_of hO tiA [0, 3, 4] [9000] [] (fun (n : Nat) tm m => ∃ (z1 : EL) (z2 : Nat) (z3 : Nat) (z4 : Int), ((tm = frame 0 27 [(0, .c (.sl 1 x0 none)), (3, .t 9000 0 z3), (4, .c (.v (.int .i64 z4)))] ∧ m = ⟨[(9000, .arr 0 1 z1 (some z2) false)], 1⟩)) ∧ p25_1L False fu  K0 x0 n z1 z2 z3 z4) (fun n => n) fu ⟨(List.take (min x0.length ((binStd .add .i64 ((x0.length : Nat) : Int) 3 : Int).toNat)) x0 ++ List.drop (min x0.length ((binStd .add .i64 ((x0.length : Nat) : Int) 3 : Int).toNat)) (List.replicate ((binStd .add .i64 ((x0.length : Nat) : Int) 3 : Int).toNat) [(CV.v (.int .u8 0))])), ((binStd .add .i64 ((x0.length : Nat) : Int) 3 : Int).toNat), ((binStd .add .i64 ((x0.length : Nat) : Int) 3 : Int).toNat), ((x0.length : Nat) : Int), ⟨(by (conv => lhs; cbv) <;> (subst hO; rfl)), (by (conv => lhs; cbv) <;> (subst hO; rfl))⟩, h⟩ ?_
  rintro n1 tm m L ⟨z1, z2, z3, z4, hs, h⟩ hLn1
  cases n1 with
  | zero => rw [p25_1L] at h; exact h.elim
  | succ n1 =>
    rw [p25_1L] at h
    unfold p25_1 at h
    obtain ⟨rfl, rfl⟩ := hs
    conv => cbv
    refine alt_l hO ?_
    conv => cbv
    refine br_h hO h (by subst hO; rfl) (fun hc1 h => ?_) (fun hc1 h => ?_)
    · conv => cbv
      refine join_all hO ?_
      conv => cbv
      refine alt_l hO ?_
      conv => cbv
      refine and_h h (fun g => (by subst hO; exact g)) (fun h => ?_)
      refine and_h h (fun g => (by subst hO; exact g)) (fun h => ?_)
      refine and_h h (fun g => (by subst hO; exact g)) (fun h => ?_)
      refine and_h h (fun g => (by subst hO; exact g)) (fun h => ?_)
      refine and_h h (fun g => (by subst hO; exact g)) (fun h => ?_)
      exact hLn1 n1 _ _ (Nat.lt_succ_self n1) ⟨List.set z1 ((z4 : Int).toNat) (putAt (List.getD z1 ((z4 : Int).toNat) []) 0 [(CV.v (.int .u8 229))]), z2, z3, binStd .add .i64 z4 1, ⟨(by (conv => lhs; cbv) <;> (subst hO; rfl)), (by (conv => lhs; cbv) <;> (subst hO; rfl))⟩, h⟩
    · conv => cbv
      refine alt_l hO ?_
      conv => cbv
      refine and_h h (fun g => (by subst hO; exact g)) (fun h => ?_)
      refine and_h h (fun g => (by subst hO; exact g)) (fun h => ?_)
      refine and_h h (fun g => (by subst hO; exact g)) (fun h => ?_)
      refine and_h h (fun g => (by subst hO; exact g)) (fun h => ?_)
      rw [hQ]
      exact ⟨z1, z2, ((((x0.length : Nat) : Int) : Int).toNat), _, ⟨(by subst hO; rfl), (by subst hO; rfl)⟩, h⟩
end Go.Proofs.Ythncmjlcmlmnmaa

namespace Go.Proofs.Ythncmjlcmlmnmaa
open Go V
set_option maxRecDepth 100000
set_option maxHeartbeats 4000000
def p31_1 {ρ : Type} (fail : ρ) (fu : Nat)  (K0 : Bool → ρ) (rec1 : Int → ρ) (x2 : EL) (j1 : EL) (z4 : Int) : ρ :=
  bif (cmpStd .lss z4 (binStd .add .i64 ((x2.length : Nat) : Int) 3)) then (gd ((0 : Int) ≤ z4) fail (gd ((z4 : Int) < (j1.length : Nat)) fail (rw_u8 fail (List.getD j1 ((z4 : Int).toNat) []) (fun c5 => bif (cmpStd .neq c5 229) then (K0 false) else (rec1 (binStd .add .i64 z4 1)))))) else (K0 true)
def p31_1L {ρ : Type} (fail : ρ) (fu : Nat)  (K0 : Bool → ρ)  (x2 : EL) (j1 : EL) : Nat → Int → ρ
  | 0, _ => fail
  | n + 1, z4 => p31_1 fail fu  K0 (p31_1L fail fu  K0  x2 j1 n) x2 j1 z4
def p31_2 {ρ : Type} (fail : ρ) (fu : Nat)  (K0 : Bool → ρ)  (x2 : EL) (j1 : EL) (j2 : EL) (j3 : Bool) : ρ :=
  bif j3 then (K0 false) else (p31_1L fail fu  K0 x2 j1 fu ((x2.length : Nat) : Int))
/-- law0.Kept -/
def p31 {ρ : Type} (fail : ρ) (fu : Nat)  (K0 : Bool → ρ) (x0 : EL) (x1 : EL) (x2 : EL) : ρ :=
  gd ((0 : Int) ≤ 0) fail (gd ((0 : Int) ≤ ((x0.length + x1.length : Nat) : Int)) fail (gd ((((x0.length + x1.length : Nat) : Int) : Int) ≤ (x0.length + x1.length : Nat)) fail (tobP fail x0 (fun s6 => tobP fail x2 (fun s7 => bif (scmpStd .neq s6 s7) then (p31_2 fail fu  K0 x2 (List.drop ((0 : Int).toNat) (List.take ((((x0.length + x1.length : Nat) : Int) : Int).toNat) (x0 ++ x1))) (List.drop ((((x0.length + x1.length : Nat) : Int) : Int).toNat) (x0 ++ x1)) true) else (p31_2 fail fu  K0 x2 (List.drop ((0 : Int).toNat) (List.take ((((x0.length + x1.length : Nat) : Int) : Int).toNat) (x0 ++ x1))) (List.drop ((((x0.length + x1.length : Nat) : Int) : Int).toNat) (x0 ++ x1)) (cmpStd .lss (((List.drop ((0 : Int).toNat) (List.take ((((x0.length + x1.length : Nat) : Int) : Int).toNat) (x0 ++ x1))).length : Nat) : Int) (binStd .add .i64 ((x2.length : Nat) : Int) 3))))))))
theorem d_p31 (fu : Nat)  {K0 : Bool → Prop} (L : EL → Nat) (hN : L = List.length) {x0 : EL} {x1 : EL} {x2 : EL} (h : p31 False fu K0 x0 x1 x2) : Den Try.prog G0 31 [.c (.sl 1 x0 (some x1)), .c (.sl 1 x2 none)] (fun r bs => (∃ (y0 : Bool) (o0 : OV) (o1 : OV), (r = .c (.v (.bool y0)) ∧ bs = [o0, o1]) ∧ K0 y0)) := by
  obtain ⟨O, hO⟩ : ∃ O, O = std 0 T G0 (Den Try.prog G0) := ⟨_, rfl⟩
  have hLO : L = O.len := by rw [hN, hO]; rfl
  subst hLO
  refine den_h hO tiA mixed tabOk (fn := Try.f31) (sh := true) (by kernel_rfl) rfl rfl rfl rfl ?_
  intro Q hQ
  unfold p31 at h
  conv => cbv
  refine and_h h (fun g => (by subst hO; exact g)) (fun h => ?_)
  refine and_h h (fun g => (by subst hO; exact g)) (fun h => ?_)
  refine and_h h (fun g => (by subst hO; exact g)) (fun h => ?_)
  refine reg_join hO tiA [1, 5, 23] [] [] (fun tm m => ∃ (j1 : EL) (j2 : EL) (j3 : Bool), ((tm = frame 0 38 [(1, .c (.sl 1 x2 none)), (5, .c (.sl 1 j1 (some j2))), (23, .c (.v (.bool j3)))] ∧ m = ⟨[], 1⟩)) ∧ p31_2 False fu  K0 x2 j1 j2 j3) (fun L hL_2 => ?_) ?_
  · conv => cbv
    refine tob_h hO h (by subst hO; rfl) (fun s6 h => ?_)
    conv => cbv
    refine tob_h hO h (by subst hO; rfl) (fun s7 h => ?_)
    conv => cbv
    refine br_h hO h (by subst hO; rfl) (fun hc4 h => ?_) (fun hc4 h => ?_)
    · conv => cbv
      refine br_t hO hc4 ?_
      conv => cbv
      refine br_t hO hc4 ?_
      conv => cbv
      refine br_t hO hc4 ?_
      conv => cbv
      refine br_t hO hc4 ?_
      conv => cbv
      refine br_t hO hc4 ?_
      conv => cbv
      refine br_t hO hc4 ?_
      conv => cbv
      exact hL_2 _ _ ⟨List.drop ((0 : Int).toNat) (List.take ((((x0.length + x1.length : Nat) : Int) : Int).toNat) (x0 ++ x1)), List.drop ((((x0.length + x1.length : Nat) : Int) : Int).toNat) (x0 ++ x1), true, ⟨(by (conv => lhs; cbv) <;> (subst hO; rfl)), (by (conv => lhs; cbv) <;> (subst hO; rfl))⟩, h⟩
    · conv => cbv
      refine br_f hO hc4 ?_
      conv => cbv
      refine br_f hO hc4 ?_
      conv => cbv
      refine br_f hO hc4 ?_
      conv => cbv
      refine br_f hO hc4 ?_
      conv => cbv
      refine br_f hO hc4 ?_
      conv => cbv
      refine br_f hO hc4 ?_
      conv => cbv
      exact hL_2 _ _ ⟨List.drop ((0 : Int).toNat) (List.take ((((x0.length + x1.length : Nat) : Int) : Int).toNat) (x0 ++ x1)), List.drop ((((x0.length + x1.length : Nat) : Int) : Int).toNat) (x0 ++ x1), (cmpStd .lss (((List.drop ((0 : Int).toNat) (List.take ((((x0.length + x1.length : Nat) : Int) : Int).toNat) (x0 ++ x1))).length : Nat) : Int) (binStd .add .i64 ((x2.length : Nat) : Int) 3)), ⟨(by (conv => lhs; cbv) <;> (subst hO; rfl)), (by (conv => lhs; cbv) <;> (subst hO; rfl))⟩, h⟩
  · rintro tm m ⟨j1, j2, j3, hs, h⟩
    unfold p31_2 at h
    obtain ⟨rfl, rfl⟩ := hs
    conv => cbv
    refine br_h hO h (by subst hO; rfl) (fun hc1 h => ?_) (fun hc1 h => ?_)
    · conv => cbv
      rw [hQ]
      exact ⟨false, _, _, ⟨(by subst hO; rfl), (by subst hO; rfl)⟩, h⟩
    · conv => cbv
      refine join_all hO ?_
      conv => cbv
      refine loop_of hO tiA [1, 5, 6] [] [] (fun (n : Nat) tm m => ∃ (z4 : Int), ((tm = frame 0 38 [(1, .c (.sl 1 x2 none)), (5, .c (.sl 1 j1 (some j2))), (6, .c (.v (.int .i64 z4)))] ∧ m = ⟨[], 1⟩)) ∧ p31_1L False fu  K0 x2 j1 n z4) (fun n => n) fu ⟨((x2.length : Nat) : Int), ⟨(by (conv => lhs; cbv) <;> (subst hO; rfl)), (by (conv => lhs; cbv) <;> (subst hO; rfl))⟩, h⟩ ?_
      rintro n1 tm m L ⟨z4, hs, h⟩ hLn1
      cases n1 with
      | zero => rw [p31_1L] at h; exact h.elim
      | succ n1 =>
        rw [p31_1L] at h
        unfold p31_1 at h
        obtain ⟨rfl, rfl⟩ := hs
        conv => cbv
        refine br_h hO h (by subst hO; rfl) (fun hc2 h => ?_) (fun hc2 h => ?_)
        · conv => cbv
          refine join_all hO ?_
          conv => cbv
          refine and_h h (fun g => (by subst hO; exact g)) (fun h => ?_)
          refine and_h h (fun g => (by subst hO; exact g)) (fun h => ?_)
          obtain ⟨c5, hr, h⟩ := rw_u8_inv h
          refine elem_of hO _ (by subst hO; exact hr) ?_
          clear hr
          conv => cbv
          refine br_h hO h (by subst hO; rfl) (fun hc3 h => ?_) (fun hc3 h => ?_)
          · conv => cbv
            rw [hQ]
            exact ⟨false, _, _, ⟨(by subst hO; rfl), (by subst hO; rfl)⟩, h⟩
          · conv => cbv
            refine join_all hO ?_
            conv => cbv
            exact hLn1 n1 _ _ (Nat.lt_succ_self n1) ⟨binStd .add .i64 z4 1, ⟨(by (conv => lhs; cbv) <;> (subst hO; rfl)), (by (conv => lhs; cbv) <;> (subst hO; rfl))⟩, h⟩
        · conv => cbv
          rw [hQ]
          exact ⟨true, _, _, ⟨(by subst hO; rfl), (by subst hO; rfl)⟩, h⟩
end Go.Proofs.Ythncmjlcmlmnmaa
