/- Eight bytes, equal trees, and how the program reads a reply. Conditions: none. -/
import Derived.Test.YthncmjlcmlmnmaaRR5
import Derived.Test.YthncmjlcmlmnmaaRR7
import Derived.Test.YthncmjlcmlmnmaaRR8
import Derived.Test.YthncmjlcmlmnmaaG
import Derived.Test.YthncmjlcmlmnmaaPR
namespace Go.Proofs.Ythncmjlcmlmnmaa
open Go V
set_option maxRecDepth 100000
set_option maxHeartbeats 2000000
/-- A number in bytes, the greatest first. -/
def be (l : List UInt8) : Nat := l.foldl (fun v c => v * 256 + c.toNat) 0
theorem be_snoc (l : List UInt8) (c : UInt8) : be (l ++ [c]) = be l * 256 + c.toNat := by simp [be, List.foldl_append]
theorem be_lt : ∀ (n : Nat) (l : List UInt8), l.length = n → be l < 2 ^ (8 * n) := by
  intro n
  induction n with
  | zero => intro l h; rw [List.length_eq_zero_iff.1 h]; decide
  | succ n ih =>
    intro l h
    have hne : l ≠ [] := fun q => by rw [q] at h; simp at h
    have hl := List.dropLast_concat_getLast hne
    have h1 := ih l.dropLast (by rw [List.length_dropLast]; omega)
    have hc := (l.getLast hne).toNat_lt
    rw [← hl, be_snoc, show 8 * (n + 1) = 8 * n + 8 by omega, Nat.pow_add]
    omega
theorem or_byte (a : Nat) (c : UInt8) (ha : a * 256 + c.toNat < 2 ^ 64) : binStd .or .u64 (binStd .shl .u64 (a : Nat) 8) (IntKind.u64.wrap ((c.toNat : Nat) : Int)) = ((a * 256 + c.toNat : Nat) : Int) := by
  have hc := c.toNat_lt
  have hs : binStd .shl .u64 (a : Nat) 8 = ((a * 256 : Nat) : Int) := by
    show IntKind.u64.wrap ((a : Int) * 2 ^ (min ((8 : Int)).toNat 64)) = _
    have hp : (a : Int) * 2 ^ (min ((8 : Int)).toNat 64) = ((a * 256 : Nat) : Int) := by
      rw [show min ((8 : Int)).toNat 64 = 8 from rfl]; push_cast; rfl
    rw [hp, u64_nat _ (by omega)]
  rw [hs, u64_nat _ (by omega)]
  show IntKind.u64.wrap (bOr 64 _ _ : Nat) = _
  rw [bOr_nat 64 _ _ (by omega) (by omega)]
  have h1 : a * 256 ||| c.toNat = a * 256 + c.toNat := by
    have := Nat.shiftLeft_add_eq_or_of_lt (show c.toNat < 2 ^ 8 from hc) a
    rw [Nat.shiftLeft_eq] at this
    exact this.symm
  rw [h1, u64_nat _ ha]
def rdEight (bs : List UInt8) : Except Int (Nat × List UInt8) := if bs.length < 8 then .error 2 else .ok (be (bs.take 8), bs.drop 8)
theorem eight_loop {ρ : Type} (fail : ρ) (fu : Nat) (K : Int → Int → ρ) (l : List UInt8) (hl : l.length = 8) : ∀ (r i n : Nat), i + r = 8 → r < n →
    p125_1L fail fu K n ((be (l.take i) : Nat) : Int) (encB l) ((l.length : Nat) : Int) ((i : Nat) : Int) = K ((be l : Nat) : Int) 0 := by
  intro r
  induction r with
  | zero =>
    intro i n hi hn
    obtain ⟨n, rfl⟩ : ∃ m, n = m + 1 := ⟨n - 1, by omega⟩
    rw [p125_1L, p125_1, lssF (by omega), cond_false, List.take_of_length_le (by omega)]
  | succ r ih =>
    intro i n hi hn
    obtain ⟨n, rfl⟩ : ∃ m, n = m + 1 := ⟨n - 1, by omega⟩
    have hlt : i < l.length := by omega
    have hb : be (l.take (i + 1)) = be (l.take i) * 256 + (l[i]).toNat := by rw [List.take_succ_eq_append_getElem hlt, be_snoc]
    have h64 : be (l.take (i + 1)) < 2 ^ 64 := Nat.lt_of_lt_of_le (be_lt (i + 1) _ (by rw [List.length_take]; omega)) (Nat.pow_le_pow_right (by omega) (by omega))
    rw [p125_1L, p125_1, lssT (by omega), cond_true, gd_y (by omega), gd_y (by rw [encB_length]; omega), rw_byte fail l i hlt, gd_y (by omega), or_byte _ _ (by rw [← hb]; exact h64), ← hb, addZ (by omega) (by omega), show ((i : Nat) : Int) + 1 = ((i + 1 : Nat) : Int) by omega]
    exact ih (i + 1) n (by omega) (by omega)
theorem eight_eq {ρ : Type} (fail : ρ) (fu : Nat) (hf : 10 ≤ fu) (bs : List UInt8) (hb : bs.length ≤ 1099511627776) : KOut (fun K => p92 fail fu K (encB bs) 0) 0 (rdEight bs) := by
  unfold rdEight
  by_cases h8 : bs.length < 8
  · rw [if_pos h8]
    refine ⟨by omega, encB bs, fun K => ?_⟩
    dsimp only
    rw [p92, neqF rfl, cond_false, p125, encB_length, lssT (by omega), cond_true, fails0, neqT (by omega), cond_true]
  · rw [if_neg h8]
    intro K
    dsimp only
    have ht : List.drop (0 : Int).toNat (List.take (8 : Int).toNat (encB bs)) = encB (bs.take 8) := by rw [encB_take]; rfl
    have := eight_loop fail fu (fun y1 y2 => p94 fail fu (fun y3 y4 => bif (cmpStd .neq y2 0) then (K 0 y3 y4) else (gd ((0 : Int) ≤ 8) fail (gd ((8 : Int) ≤ (y3.length : Nat)) fail (gd (((y3.length : Nat) : Int) ≤ (y3.length : Nat)) fail (K y1 (List.drop ((8 : Int).toNat) (List.take (((y3.length : Nat) : Int).toNat) y3)) y4))))) (encB bs) 0 y2) (bs.take 8) (by rw [List.length_take]; omega) 8 0 fu (by omega) (by omega)
    rw [p92, neqF rfl, cond_false, p125, encB_length, lssF (by omega), cond_false, gd_y (by omega), gd_y (by omega), gd_y (by omega), ht, encB_length]
    refine Eq.trans this ?_
    try dsimp only
    rw [fails0, neqF rfl, cond_false, gd_y (by omega), gd_y (by rw [encB_length]; omega), gd_y (by omega), Int.toNat_natCast, List.take_of_length_le (Nat.le_refl _)]
    rw [encB_drop]; rfl
theorem eightE {ρ : Type} (fail : ρ) (fu : Nat) (K : Int → EL → Int → ρ) (B : EL) (e : Int) (h : e ≠ 0) : p92 fail fu K B e = K 0 B e := by
  rw [p92, neqT h, cond_true]
-- ---------------------------------------------------------------- equal trees
theorem scmp_nil (s : ByteArray) : scmpStd .eql s ⟨#[]⟩ = decide (s.size = 0) := by
  show (s.toList == (⟨#[]⟩ : ByteArray).toList) = _
  rw [ByteArray.toList_eq, ByteArray.toList_eq, ← sz_data]
  cases s.data.toList <;> simp
theorem ba_nil {s : ByteArray} (h : s.size = 0) : s = ⟨#[]⟩ := by
  obtain ⟨d⟩ := s
  have : d = #[] := Array.size_eq_zero_iff.1 h
  rw [this]
/-- Is it the zero term? -/
def isZ (t : Tm) : Bool := decide (t.k = 0) && (decide (t.n = 0) && (decide (t.nm.size = 0) && (decide (t.ls.length = 0) && decide (t.args.length = 0))))
theorem isZ_iff (t : Tm) : isZ t = true ↔ t = tm0 := by
  obtain ⟨k, n, s, l, a⟩ := t
  constructor
  · intro h
    simp only [isZ, Tm.k, Tm.n, Tm.nm, Tm.ls, Tm.args, Bool.and_eq_true] at h
    obtain ⟨h1, h2, h3, h4, h5⟩ := h
    have g1 := of_decide_eq_true h1
    have g2 := of_decide_eq_true h2
    have g3 := ba_nil (of_decide_eq_true h3)
    have g4 := List.length_eq_zero_iff.1 (of_decide_eq_true h4)
    have g5 := List.length_eq_zero_iff.1 (of_decide_eq_true h5)
    rw [g1, g2, g3, g4, g5]; rfl
  · intro h; rw [h]; rfl
theorem bif_and {ρ : Type} (a b : Bool) (x y : ρ) : (bif a then (bif b then x else y) else y) = bif (a && b) then x else y := by cases a <;> rfl
theorem lvNil {ρ : Type} (fail : ρ) (fu : Nat) (hf : 10 ≤ fu) (K : Bool → ρ) (L : EL) : p121 fail fu K L nilE = K (decide (L.length = 0)) := by
  obtain ⟨m, rfl⟩ : ∃ m, fu = m + 2 := ⟨fu - 2, by omega⟩
  rw [p121, p121_b]
  cases L with
  | nil => rw [neqF rfl, cond_false]; rfl
  | cons a l => rw [neqT (by simp only [List.length_cons, List.length_nil]; omega), cond_true]; rfl
theorem tmNil {ρ : Type} (fail : ρ) (fu : Nat) (hf : 10 ≤ fu) (K : Bool → ρ) (L : EL) : p123b fail fu K L nilE = K (decide (L.length = 0)) := by
  obtain ⟨m, rfl⟩ : ∃ m, fu = m + 2 := ⟨fu - 2, by omega⟩
  rw [p123b, p123b_b]
  cases L with
  | nil => rw [neqF rfl, cond_false]; rfl
  | cons a l => rw [neqT (by simp only [List.length_cons, List.length_nil]; omega), cond_true]; rfl
theorem term_isZ0 {ρ : Type} (fail : ρ) (fu : Nat) (hf : 20 ≤ fu) (K : Bool → ρ) (k n : Int) (s : ByteArray) (L A : EL) : p86 fail fu K k n s L A 0 0 ⟨#[]⟩ nilE nilE = K (decide (k = 0) && (decide (n = 0) && (decide (s.size = 0) && (decide (L.length = 0) && decide (A.length = 0))))) := by
  obtain ⟨m, rfl⟩ : ∃ m, fu = m + 2 := ⟨fu - 2, by omega⟩
  rw [p86, p86_b, scmp_nil]
  by_cases c1 : k = 0
  · rw [eqlT c1, cond_true, decide_eq_true c1, Bool.true_and]
    by_cases c2 : n = 0
    · rw [eqlT c2, cond_true, decide_eq_true c2, Bool.true_and]
      by_cases c3 : s.size = 0
      · rw [decide_eq_true c3, cond_true, Bool.true_and, lvNil fail (m + 1) (by omega)]
        by_cases c4 : L.length = 0
        · rw [decide_eq_true c4, cond_true, Bool.true_and, tmNil fail (m + 1) (by omega)]; rfl
        · rw [decide_eq_false c4, cond_false]; rfl
      · rw [decide_eq_false c3, cond_false]; rfl
    · rw [eqlF c2, cond_false, decide_eq_false c2]; rfl
  · rw [eqlF c1, cond_false, decide_eq_false c1]; rfl
theorem term_isZ {ρ : Type} (fail : ρ) (fu : Nat) (hf : 20 ≤ fu) (K : Bool → ρ) (t : Tm) : p86 fail fu K t.k t.n t.nm (Lv.rows t.ls) (Tm.rows t.args) 0 0 ⟨#[]⟩ nilE nilE = K (isZ t) := by
  rw [term_isZ0 fail fu hf, Lv.rows_len, Tm.rows_len]; rfl
end Go.Proofs.Ythncmjlcmlmnmaa

namespace Go.Proofs.Ythncmjlcmlmnmaa
open Go V
set_option maxRecDepth 100000
set_option maxHeartbeats 2000000
/-- A reply. -/
structure Rp where
  err : Int
  hi : Int
  lo : Int
  fuel : Int
  cells : Int
  yes : Bool
  t : Tm
  params : Int
  ax : List ByteArray
def strRow (s : ByteArray) : List CV := [.v (.string s)]
abbrev RK14 (ρ : Type) := Int → Int → Int → Int → Int → Bool → Int → Int → ByteArray → EL → EL → Int → EL → Int → ρ
def rpOut {ρ : Type} : Option Rp → RK14 ρ → ρ
  | some r, K => K r.err r.hi r.lo r.fuel r.cells r.yes r.t.k r.t.n r.t.nm (Lv.rows r.t.ls) (Tm.rows r.t.args) r.params (r.ax.map strRow) 0
  | none, K => K 0 0 0 0 0 false 0 0 ⟨#[]⟩ nilE nilE 0 nilE 5
/-- p comes to x. -/
def Gd {ρ : Type} (p : RK14 ρ → ρ) (x : Option Rp) : Prop := ∀ K : RK14 ρ, p K = rpOut x K
def rdName (p : Nat) (bs : List UInt8) : Except Int (ByteArray × List UInt8 × Nat) := match rdTxt 24 bs with
  | .error e => .error e
  | .ok (s, r) => .ok (⟨s.toArray⟩, r, p)
/-- The parameters and the axioms, and nothing behind. -/
def rdR5 (bs : List UInt8) : Option (Nat × List ByteArray) := match rdNum bs with
  | .error _ => none
  | .ok (pa, bs) => match rdNum bs with
    | .error _ => none
    | .ok (n, bs) => if 65536 < n then none else match many rdName n 0 bs with
      | .error _ => none
      | .ok (l, bs, _) => if bs.length = 0 then some (pa, l) else none
/-- The term, if there is one. -/
def rdR6 (has : Nat) (bs : List UInt8) : Option (Tm × Nat × List ByteArray) :=
  if has = 1 then (match rdTerm bs with
    | .error _ => none
    | .ok (t, bs) => if isZ t = true then none else match rdR5 bs with
      | none => none
      | some (pa, l) => some (t, pa, l))
  else match rdR5 bs with
    | none => none
    | some (pa, l) => some (tm0, pa, l)
def opt {α β : Type} (x : Except Int α) (f : α → Option β) : Option β := match x with | .ok a => f a | .error _ => none
/-- A reply that bytes are. -/
def rdRep (bs : List UInt8) : Option Rp :=
  opt (rdNum bs) fun (err, bs) => opt (rdEight bs) fun (hi, bs) => opt (rdEight bs) fun (lo, bs) => opt (rdNum bs) fun (fuel, bs) => opt (rdNum bs) fun (cells, bs) =>
    opt (rdKind 0 1 bs) fun (yes, bs) => opt (rdKind 0 1 bs) fun (has, bs) => match rdR6 has bs with
      | none => none
      | some (t, pa, l) => some ⟨(err : Nat), (hi : Nat), (lo : Nat), (fuel : Nat), (cells : Nat), decide (yes = 1), t, (pa : Nat), l⟩
theorem rdEight_ok {bs r : List UInt8} {v : Nat} (h : rdEight bs = .ok (v, r)) : v < 2 ^ 64 ∧ r.length < bs.length ∧ 8 ≤ bs.length ∧ v = be (bs.take 8) ∧ r = bs.drop 8 := by
  unfold rdEight at h; split at h
  · cases h
  · injection h with h; injection h with h1 h2; subst h1 h2
    exact ⟨be_lt 8 _ (by rw [List.length_take]; omega), by rw [List.length_drop]; omega, by omega, rfl, rfl⟩
section
variable {ρ : Type} (fail : ρ) (fu : Nat)
section
variable (y1 y4 y7 y10 y13 : Int) (j21 : Bool) (t : Tm)
abbrev tail5 (y1 y4 y7 y10 y13 : Int) (j21 : Bool) (t : Tm) : Option (Nat × List ByteArray) → Option Rp
  | none => none
  | some (pa, l) => some ⟨y1, y4, y7, y10, y13, j21, t, (pa : Nat), l⟩
theorem axLoop (hfu : 20 ≤ fu) (y30 : Int) (k n0 : Int) (nm : ByteArray) (L A : EL) : ∀ (r n : Nat) (bs : List UInt8) (p : Nat) (z : EL), bs.length ≤ 1099511627776 → z.length + r ≤ 1000000 → r < n →
    match many rdName r p bs with
    | .ok (l, bs', _) => ∀ K : RK14 ρ, p45_3L fail fu K y1 y4 y7 y10 y13 j21 k n0 nm L A y30 n (encB bs) 0 z ((r : Nat) : Int) = if bs'.length = 0 then K y1 y4 y7 y10 y13 j21 k n0 nm L A y30 (z ++ l.map strRow) 0 else rpOut none K
    | .error _ => ∀ K : RK14 ρ, p45_3L fail fu K y1 y4 y7 y10 y13 j21 k n0 nm L A y30 n (encB bs) 0 z ((r : Nat) : Int) = rpOut none K
  | 0, n + 1, bs, p, z, hb, hz, hn => by
    simp only [many]
    intro K
    rw [p45_3L, p45_3, gtrF (by omega), cond_false, p45_2, cond_false, neqF rfl, cond_false, encB_length]
    by_cases h0 : bs.length = 0
    · rw [gtrF (by omega), p45_1, cond_false, if_pos h0]; simp
    · rw [gtrT (by omega), p45_1, cond_true, if_neg h0]; rfl
  | r + 1, n + 1, bs, p, z, hb, hz, hn => by
    have htx := text_eq (ρ := ρ) fail fu (by omega) bs hb 24 (by omega)
    have step : ∀ K : RK14 ρ, p45_3L fail fu K y1 y4 y7 y10 y13 j21 k n0 nm L A y30 (n + 1) (encB bs) 0 z ((r + 1 : Nat) : Int) = p95 fail fu (fun y43 y44 y45 => tobP fail y43 (fun s46 => p45_3L fail fu K y1 y4 y7 y10 y13 j21 k n0 nm L A y30 n y44 y45 (z ++ [strRow s46]) ((r : Nat) : Int))) (encB bs) 0 ((24 : Nat) : Int) := fun K => by
      rw [p45_3L, p45_3, gtrT (by omega), cond_true, eqlT rfl, p45_2, cond_true]
      congr 1
      funext y43 y44 y45
      congr 1
      funext s46
      rw [gd_y (by simp), gd_y (by simp; omega), subZ (by omega) (by omega), show ((r + 1 : Nat) : Int) - 1 = ((r : Nat) : Int) by omega]
      rfl
    simp only [many]
    unfold rdName
    cases ht : rdTxt 24 bs with
    | error e =>
      rw [ht] at htx
      obtain ⟨he, B, hB⟩ := htx
      dsimp only at hB
      intro K
      rw [step, hB, show (nilE : EL) = encB [] from rfl, tobP_enc]
      obtain ⟨n, rfl⟩ : ∃ n', n = n' + 1 := ⟨n - 1, by omega⟩
      rw [p45_3L, p45_3]
      by_cases h0 : r = 0
      · rw [gtrF (by omega), cond_false, p45_2, cond_false, neqT he, cond_true, p45_1, cond_true]; rfl
      · rw [gtrT (by omega), cond_true, eqlF he, p45_2, cond_false, neqT he, cond_true, p45_1, cond_true]; rfl
    | ok x =>
      obtain ⟨s, bs1⟩ := x
      have ht1 := rdTxt_ok ht
      rw [ht] at htx
      simp only [SOut] at htx
      have ih := axLoop hfu y30 k n0 nm L A r n bs1 p (z ++ [strRow ⟨s.toArray⟩]) (by omega) (by simp; omega) (by omega)
      dsimp only
      have hfold : many (fun p bs => match rdTxt 24 bs with | .error e => Except.error e | .ok (s, r) => .ok ((⟨s.toArray⟩ : ByteArray), r, p)) r p bs1 = many rdName r p bs1 := rfl
      rw [hfold]
      have h2 : ∀ K : RK14 ρ, p45_3L fail fu K y1 y4 y7 y10 y13 j21 k n0 nm L A y30 (n + 1) (encB bs) 0 z ((r + 1 : Nat) : Int) = p45_3L fail fu K y1 y4 y7 y10 y13 j21 k n0 nm L A y30 n (encB bs1) 0 (z ++ [strRow ⟨s.toArray⟩]) ((r : Nat) : Int) := fun K => by rw [step, htx, tobP_enc]
      cases hm : many rdName r p bs1 with
      | error e => rw [hm] at ih; intro K; rw [h2, ih]
      | ok x =>
        obtain ⟨l, bs2, p2⟩ := x
        rw [hm] at ih
        intro K
        rw [h2, ih, List.append_assoc]; rfl
variable (hfu : 70000 ≤ fu)
include hfu
theorem r5_dead (k n0 : Int) (nm : ByteArray) (L A B : EL) (e : Int) (he : e ≠ 0) : Gd (fun K : RK14 ρ => p45_5 fail fu K y1 y4 y7 y10 y13 j21 B e k n0 nm L A) none := fun K => by
  dsimp only
  rw [p45_5, numE _ _ _ _ _ he, numE _ _ _ _ _ he, gtrF (by omega), cond_false, p45_4]
  obtain ⟨m, hm⟩ : ∃ m, fu = m + 1 := ⟨fu - 1, by omega⟩
  have : ∀ m', m' = m + 1 → p45_3L fail fu K y1 y4 y7 y10 y13 j21 k n0 nm L A 0 m' B e nilE 0 = rpOut none K := fun m' h => by
    subst h; rw [p45_3L, p45_3, gtrF (by omega), cond_false, p45_2, cond_false, neqT he, cond_true, p45_1, cond_true]; rfl
  exact this fu hm
theorem r5_rd (bs : List UInt8) (hb : bs.length ≤ 1099511627776) : Gd (fun K : RK14 ρ => p45_5 fail fu K y1 y4 y7 y10 y13 j21 (encB bs) 0 t.k t.n t.nm (Lv.rows t.ls) (Tm.rows t.args)) (tail5 y1 y4 y7 y10 y13 j21 t (rdR5 bs)) := by
  have hn1 := num_eq (ρ := ρ) fail fu (by omega) bs hb
  obtain ⟨m, hm⟩ : ∃ m, fu = m + 1 := ⟨fu - 1, by omega⟩
  have dead : ∀ (K : RK14 ρ) (pa n : Int) (B : EL) (e : Int), e ≠ 0 → ∀ m', m' = m + 1 → p45_3L fail fu K y1 y4 y7 y10 y13 j21 t.k t.n t.nm (Lv.rows t.ls) (Tm.rows t.args) pa m' B e nilE n = rpOut none K := fun K pa n B e he m' h => by
    subst h; rw [p45_3L, p45_3]
    by_cases h0 : n > 0
    · rw [gtrT h0, cond_true, eqlF he, p45_2, cond_false, neqT he, cond_true, p45_1, cond_true]; rfl
    · rw [gtrF (by omega), cond_false, p45_2, cond_false, neqT he, cond_true, p45_1, cond_true]; rfl
  unfold rdR5
  cases h1 : rdNum bs with
  | error e =>
    rw [h1] at hn1
    obtain ⟨he, B, hB⟩ := hn1
    dsimp only at hB
    intro K
    dsimp only
    rw [p45_5, hB, numE _ _ _ _ _ he, gtrF (by omega), cond_false, p45_4]
    exact dead K _ _ B e he fu hm
  | ok x =>
    obtain ⟨pa, bs1⟩ := x
    have h1s := rdNum_ok h1
    rw [h1] at hn1
    simp only [KOut] at hn1
    have hn2 := num_eq (ρ := ρ) fail fu (by omega) bs1 (by omega)
    dsimp only
    cases h2 : rdNum bs1 with
    | error e =>
      rw [h2] at hn2
      obtain ⟨he, B, hB⟩ := hn2
      dsimp only at hB
      intro K
      dsimp only
      rw [p45_5, hn1, hB, gtrF (by omega), cond_false, p45_4]
      exact dead K _ _ B e he fu hm
    | ok x =>
      obtain ⟨n, bs2⟩ := x
      have h2s := rdNum_ok h2
      rw [h2] at hn2
      simp only [KOut] at hn2
      dsimp only
      by_cases h6 : 65536 < n
      · rw [if_pos h6]
        intro K
        dsimp only
        rw [p45_5, hn1, hn2, gtrT (by omega), cond_true, fails0, p45_4]
        exact dead K _ _ _ 5 (by decide) fu hm
      · rw [if_neg h6]
        have := axLoop fail fu y1 y4 y7 y10 y13 j21 (by omega) ((pa : Nat) : Int) t.k t.n t.nm (Lv.rows t.ls) (Tm.rows t.args) n fu bs2 0 nilE (by omega) (by simp; omega) (by omega)
        have hs : ∀ K : RK14 ρ, p45_5 fail fu K y1 y4 y7 y10 y13 j21 (encB bs) 0 t.k t.n t.nm (Lv.rows t.ls) (Tm.rows t.args) = p45_3L fail fu K y1 y4 y7 y10 y13 j21 t.k t.n t.nm (Lv.rows t.ls) (Tm.rows t.args) ((pa : Nat) : Int) fu (encB bs2) 0 nilE ((n : Nat) : Int) := fun K => by
          rw [p45_5, hn1, hn2, gtrF (by omega), cond_false, p45_4]
        cases hmn : many rdName n 0 bs2 with
        | error e => rw [hmn] at this; intro K; dsimp only; rw [hs, this]
        | ok x =>
          obtain ⟨l, bs3, q⟩ := x
          rw [hmn] at this
          intro K
          dsimp only
          rw [hs, this]
          by_cases h0 : bs3.length = 0
          · rw [if_pos h0, if_pos h0]; rfl
          · rw [if_neg h0, if_neg h0]
end
variable (hfu : 70000 ≤ fu)
include hfu
section
variable (y1 y4 y7 y10 y13 : Int) (j21 : Bool)
theorem r6_rd (has : Nat) (bs : List UInt8) (hb : bs.length ≤ 1099511627776) : Gd (fun K : RK14 ρ => bif (cmpStd .eql ((has : Nat) : Int) 1) then (p45_7 fail fu K y1 y4 y7 y10 y13 (encB bs) 0 j21 (cmpStd .eql (0 : Int) 0)) else (p45_7 fail fu K y1 y4 y7 y10 y13 (encB bs) 0 j21 false))
    (match rdR6 has bs with | none => none | some (t, pa, l) => some ⟨y1, y4, y7, y10, y13, j21, t, (pa : Nat), l⟩) := by
  unfold rdR6
  by_cases h1 : has = 1
  · rw [if_pos h1]
    have htm := Term_rd (ρ := ρ) fail fu (by omega) bs hb
    have hs : ∀ K : RK14 ρ, (bif (cmpStd .eql ((has : Nat) : Int) 1) then (p45_7 fail fu K y1 y4 y7 y10 y13 (encB bs) 0 j21 (cmpStd .eql (0 : Int) 0)) else (p45_7 fail fu K y1 y4 y7 y10 y13 (encB bs) 0 j21 false)) = p65 fail fu (fun y50 y51 y52 y53 y54 y55 y56 => p86 fail fu (fun y57 => bif y57 then (p94 fail fu (fun y60 y61 => p45_6 fail fu K y1 y4 y7 y10 y13 j21 y50 y51 y52 y53 y54 y60 y61) y55 y56 5) else (p45_6 fail fu K y1 y4 y7 y10 y13 j21 y50 y51 y52 y53 y54 y55 y56)) y50 y51 y52 y53 y54 0 0 ⟨#[]⟩ nilE nilE) (encB bs) 0 := fun K => by
      rw [eqlT (show ((has : Nat) : Int) = 1 by omega), cond_true, eqlT rfl, p45_7, cond_true]
    cases htt : rdTerm bs with
    | error e =>
      rw [htt] at htm
      obtain ⟨he, a, b, c, l, g, B, hB⟩ := htm
      dsimp only at hB
      intro K
      dsimp only
      rw [hs, hB, term_isZ0 fail fu (by omega)]
      cases (decide (a = 0) && (decide (b = 0) && (decide (c.size = 0) && (decide (l.length = 0) && decide (g.length = 0))))) with
      | true => rw [cond_true, failsE _ _ _ _ _ _ he, p45_6]; exact r5_dead fail fu y1 y4 y7 y10 y13 j21 hfu _ _ _ _ _ _ e he K
      | false => rw [cond_false, p45_6]; exact r5_dead fail fu y1 y4 y7 y10 y13 j21 hfu _ _ _ _ _ _ e he K
    | ok x =>
      obtain ⟨t, bs1⟩ := x
      have hsub := rdTerm_sub htt
      rw [htt] at htm
      simp only [TmO2] at htm
      have hz := fun K => term_isZ (ρ := ρ) fail fu (by omega) K t
      dsimp only
      by_cases c : isZ t = true
      · rw [if_pos c]
        intro K
        dsimp only
        rw [hs, htm, hz, c, cond_true, fails0, p45_6]
        exact r5_dead fail fu y1 y4 y7 y10 y13 j21 hfu _ _ _ _ _ _ 5 (by decide) K
      · rw [if_neg c]
        intro K
        dsimp only
        rw [hs, htm, hz, Bool.eq_false_iff.2 c, cond_false, p45_6]
        refine (r5_rd fail fu y1 y4 y7 y10 y13 j21 t hfu bs1 (by omega) K).trans ?_
        cases rdR5 bs1 <;> rfl
  · rw [if_neg h1]
    intro K
    dsimp only
    rw [eqlF (by omega), cond_false, p45_7, cond_false]
    refine (r5_rd fail fu y1 y4 y7 y10 y13 j21 tm0 hfu bs hb K).trans ?_
    cases rdR5 bs <;> rfl
theorem r7_dead (has : Int) (y16 : Bool) (B : EL) (e : Int) (he : e ≠ 0) : Gd (fun K : RK14 ρ => bif (cmpStd .eql has 1) then (p45_7 fail fu K y1 y4 y7 y10 y13 B e y16 (cmpStd .eql e 0)) else (p45_7 fail fu K y1 y4 y7 y10 y13 B e y16 false)) none := fun K => by
  dsimp only
  rw [eqlF he]
  cases cmpStd .eql has 1 <;> (simp only [cond_true, cond_false]; rw [p45_7, cond_false]; exact r5_dead fail fu y1 y4 y7 y10 y13 y16 hfu _ _ _ _ _ B e he K)
end
/-- Stages, from the last one on. -/
def s7 (K0 : RK14 ρ) (y1 y4 y7 y10 y13 : Int) (y16 : Int) (B : EL) (e : Int) : ρ := p93 fail fu (fun y62 y63 y64 => bif (cmpStd .eql y62 1) then (p45_7 fail fu K0 y1 y4 y7 y10 y13 y63 y64 (cmpStd .eql y16 1) (cmpStd .eql y64 0)) else (p45_7 fail fu K0 y1 y4 y7 y10 y13 y63 y64 (cmpStd .eql y16 1) false)) B e 0 1
def s6 (K0 : RK14 ρ) (y1 y4 y7 y10 y13 : Int) (B : EL) (e : Int) : ρ := p93 fail fu (fun y16 y17 y18 => s7 fail fu K0 y1 y4 y7 y10 y13 y16 y17 y18) B e 0 1
def s5 (K0 : RK14 ρ) (y1 y4 y7 y10 : Int) (B : EL) (e : Int) : ρ := p91 fail fu (fun y13 y14 y15 => s6 fail fu K0 y1 y4 y7 y10 y13 y14 y15) B e
def s4 (K0 : RK14 ρ) (y1 y4 y7 : Int) (B : EL) (e : Int) : ρ := p91 fail fu (fun y10 y11 y12 => s5 fail fu K0 y1 y4 y7 y10 y11 y12) B e
def s3 (K0 : RK14 ρ) (y1 y4 : Int) (B : EL) (e : Int) : ρ := p92 fail fu (fun y7 y8 y9 => s4 fail fu K0 y1 y4 y7 y8 y9) B e
def s2 (K0 : RK14 ρ) (y1 : Int) (B : EL) (e : Int) : ρ := p92 fail fu (fun y4 y5 y6 => s3 fail fu K0 y1 y4 y5 y6) B e
omit hfu in
theorem take_s (K0 : RK14 ρ) (B : EL) : p45 fail fu K0 B = p91 fail fu (fun y1 y2 y3 => s2 fail fu K0 y1 y2 y3) B 0 := rfl
section
variable (B : EL) (e : Int) (he : e ≠ 0)
include he
theorem s7_dead (y1 y4 y7 y10 y13 y16 : Int) : Gd (fun K : RK14 ρ => s7 fail fu K y1 y4 y7 y10 y13 y16 B e) none := fun K =>
  (kindE fail fu _ B e he 0 1 (by decide) (by decide)).trans (r7_dead fail fu hfu y1 y4 y7 y10 y13 _ _ B e he K)
theorem s6_dead (y1 y4 y7 y10 y13 : Int) : Gd (fun K : RK14 ρ => s6 fail fu K y1 y4 y7 y10 y13 B e) none := fun K =>
  (kindE fail fu _ B e he 0 1 (by decide) (by decide)).trans (s7_dead fail fu hfu B e he y1 y4 y7 y10 y13 _ K)
theorem s5_dead (y1 y4 y7 y10 : Int) : Gd (fun K : RK14 ρ => s5 fail fu K y1 y4 y7 y10 B e) none := fun K =>
  (numE fail fu _ B e he).trans (s6_dead fail fu hfu B e he y1 y4 y7 y10 _ K)
theorem s4_dead (y1 y4 y7 : Int) : Gd (fun K : RK14 ρ => s4 fail fu K y1 y4 y7 B e) none := fun K =>
  (numE fail fu _ B e he).trans (s5_dead fail fu hfu B e he y1 y4 y7 _ K)
theorem s3_dead (y1 y4 : Int) : Gd (fun K : RK14 ρ => s3 fail fu K y1 y4 B e) none := fun K =>
  (eightE fail fu _ B e he).trans (s4_dead fail fu hfu B e he y1 y4 _ K)
theorem s2_dead (y1 : Int) : Gd (fun K : RK14 ρ => s2 fail fu K y1 B e) none := fun K =>
  (eightE fail fu _ B e he).trans (s3_dead fail fu hfu B e he y1 _ K)
end
omit hfu in
/-- A step, and what follows. -/
theorem Gd.step {q : (Int → EL → Int → ρ) → ρ} {j : Int} {x : Except Int (Nat × List UInt8)} (h : KOut q j x) {c : RK14 ρ → Int → EL → Int → ρ} {f : Nat × List UInt8 → Option Rp} (h1 : ∀ v r, x = .ok (v, r) → Gd (fun K => c K (v : Nat) (encB r) 0) (f (v, r))) (h2 : ∀ B e, e ≠ 0 → Gd (fun K => c K j B e) none) : Gd (fun K => q (c K)) (opt x f) := by
  cases x with
  | error e =>
    obtain ⟨he, B, hB⟩ := h
    intro K
    exact (hB _).trans (h2 B e he K)
  | ok x =>
    obtain ⟨v, r⟩ := x
    intro K
    exact (h _).trans (h1 v r rfl K)
theorem take_eq (bs : List UInt8) (hb : bs.length ≤ 1099511627776) : Gd (fun K : RK14 ρ => p45 fail fu K (encB bs)) (rdRep bs) := by
  have e1 : ∀ K : RK14 ρ, p45 fail fu K (encB bs) = _ := fun K => take_s fail fu K (encB bs)
  have := Gd.step (num_eq (ρ := ρ) fail fu (by omega) bs hb) (c := fun K y1 y2 y3 => s2 fail fu K y1 y2 y3) (f := fun (err, bs) => opt (rdEight bs) fun (hi, bs) => opt (rdEight bs) fun (lo, bs) => opt (rdNum bs) fun (fuel, bs) => opt (rdNum bs) fun (cells, bs) =>
    opt (rdKind 0 1 bs) fun (yes, bs) => opt (rdKind 0 1 bs) fun (has, bs) => match rdR6 has bs with
      | none => none
      | some (t, pa, l) => some ⟨(err : Nat), (hi : Nat), (lo : Nat), (fuel : Nat), (cells : Nat), decide (yes = 1), t, (pa : Nat), l⟩) (fun err b1 h1 => ?_) (fun B e he => s2_dead fail fu hfu B e he _)
  · exact this
  have l1 := (rdNum_ok h1).2.1
  refine Gd.step (eight_eq (ρ := ρ) fail fu (by omega) b1 (by omega)) (c := fun K y1 y2 y3 => s3 fail fu K (err : Nat) y1 y2 y3) (fun hi b2 h2 => ?_) (fun B e he => s3_dead fail fu hfu B e he _ _)
  have l2 := (rdEight_ok h2).2.1
  refine Gd.step (eight_eq (ρ := ρ) fail fu (by omega) b2 (by omega)) (c := fun K y1 y2 y3 => s4 fail fu K (err : Nat) (hi : Nat) y1 y2 y3) (fun lo b3 h3 => ?_) (fun B e he => s4_dead fail fu hfu B e he _ _ _)
  have l3 := (rdEight_ok h3).2.1
  refine Gd.step (num_eq (ρ := ρ) fail fu (by omega) b3 (by omega)) (c := fun K y1 y2 y3 => s5 fail fu K (err : Nat) (hi : Nat) (lo : Nat) y1 y2 y3) (fun fuel b4 h4 => ?_) (fun B e he => s5_dead fail fu hfu B e he _ _ _ _)
  have l4 := (rdNum_ok h4).2.1
  refine Gd.step (num_eq (ρ := ρ) fail fu (by omega) b4 (by omega)) (c := fun K y1 y2 y3 => s6 fail fu K (err : Nat) (hi : Nat) (lo : Nat) (fuel : Nat) y1 y2 y3) (fun cells b5 h5 => ?_) (fun B e he => s6_dead fail fu hfu B e he _ _ _ _ _)
  have l5 := (rdNum_ok h5).2.1
  refine Gd.step (kind_eq (ρ := ρ) fail fu (by omega) b5 (by omega) 0 1 (by decide) (by decide)) (c := fun K y1 y2 y3 => s7 fail fu K (err : Nat) (hi : Nat) (lo : Nat) (fuel : Nat) (cells : Nat) y1 y2 y3) (fun yes b6 h6 => ?_) (fun B e he => s7_dead fail fu hfu B e he _ _ _ _ _ _)
  have l6 := (rdKind_ok h6).2.2.1
  have hy : cmpStd .eql ((yes : Nat) : Int) 1 = decide (yes = 1) := by
    by_cases q : yes = 1
    · rw [eqlT (by omega), decide_eq_true q]
    · rw [eqlF (by omega), decide_eq_false q]
  refine Gd.step (kind_eq (ρ := ρ) fail fu (by omega) b6 (by omega) 0 1 (by decide) (by decide)) (c := fun K y62 y63 y64 => bif (cmpStd .eql y62 1) then (p45_7 fail fu K (err : Nat) (hi : Nat) (lo : Nat) (fuel : Nat) (cells : Nat) y63 y64 (cmpStd .eql ((yes : Nat) : Int) 1) (cmpStd .eql y64 0)) else (p45_7 fail fu K (err : Nat) (hi : Nat) (lo : Nat) (fuel : Nat) (cells : Nat) y63 y64 (cmpStd .eql ((yes : Nat) : Int) 1) false)) (fun has b7 h7 => ?_) (fun B e he => r7_dead fail fu hfu _ _ _ _ _ _ _ B e he)
  have l7 := (rdKind_ok h7).2.2.1
  rw [hy]
  exact r6_rd fail fu hfu _ _ _ _ _ _ has b7 (by omega)
end
end Go.Proofs.Ythncmjlcmlmnmaa

namespace Go.Proofs.Ythncmjlcmlmnmaa
open Go V
set_option maxRecDepth 100000
set_option maxHeartbeats 4000000
def p141_1 {ρ : Type} (fail : ρ) (fu : Nat)  (K0 : Int → Int → Int → ρ)  (z3 : Int) (j7 : Int) (j8 : Bool) : ρ :=
  bif j8 then (K0 0 0 5) else (K0 j7 (binStd .add .i64 z3 1) 0)
def p141_2 {ρ : Type} (fail : ρ) (fu : Nat)  (K0 : Int → Int → Int → ρ) (rec1 : Int → Int → Int → ρ) (x0 : EL) (z1 : Int) (z2 : Int) (z3 : Int) (j4 : Bool) : ρ :=
  bif j4 then (K0 0 0 4) else (gd ((0 : Int) ≤ z3) fail (gd ((z3 : Int) < (x0.length : Nat)) fail (rw_u8 fail (List.getD x0 ((z3 : Int).toNat) []) (fun c5 => gd ((128 : Int) ≠ 0) fail (gd ((0 : Int) ≤ z3) fail (gd ((z3 : Int) < (x0.length : Nat)) fail (rw_u8 fail (List.getD x0 ((z3 : Int).toNat) []) (fun c6 => bif (cmpStd .lss c6 128) then (gd ((0 : Int) ≤ z3) fail (gd ((z3 : Int) < (x0.length : Nat)) fail (rw_u8 fail (List.getD x0 ((z3 : Int).toNat) []) (fun c9 => bif (cmpStd .eql c9 0) then (p141_1 fail fu  K0 z3 (binStd .add .u64 z1 (binStd .mul .u64 (IntKind.u64.wrap (binStd .rem .u8 c5 128)) z2)) (cmpStd .gtr z3 0)) else (p141_1 fail fu  K0 z3 (binStd .add .u64 z1 (binStd .mul .u64 (IntKind.u64.wrap (binStd .rem .u8 c5 128)) z2)) false))))) else (rec1 (binStd .add .u64 z1 (binStd .mul .u64 (IntKind.u64.wrap (binStd .rem .u8 c5 128)) z2)) (binStd .mul .u64 z2 128) (binStd .add .i64 z3 1))))))))))
def p141_3 {ρ : Type} (fail : ρ) (fu : Nat)  (K0 : Int → Int → Int → ρ) (rec1 : Int → Int → Int → ρ) (x0 : EL) (z1 : Int) (z2 : Int) (z3 : Int) : ρ :=
  bif (cmpStd .lss z3 10) then (bif (cmpStd .geq z3 ((x0.length : Nat) : Int)) then (K0 0 0 2) else (bif (cmpStd .eql z3 9) then (gd ((0 : Int) ≤ z3) fail (gd ((z3 : Int) < (x0.length : Nat)) fail (rw_u8 fail (List.getD x0 ((z3 : Int).toNat) []) (fun c10 => p141_2 fail fu  K0 rec1 x0 z1 z2 z3 (cmpStd .gtr c10 1))))) else (p141_2 fail fu  K0 rec1 x0 z1 z2 z3 false))) else (K0 0 0 4)
def p141_3L {ρ : Type} (fail : ρ) (fu : Nat)  (K0 : Int → Int → Int → ρ)  (x0 : EL) : Nat → Int → Int → Int → ρ
  | 0, _, _, _ => fail
  | n + 1, z1, z2, z3 => p141_3 fail fu  K0 (p141_3L fail fu  K0  x0 n) x0 z1 z2 z3
/-- ref1.TakeVar -/
def p141 {ρ : Type} (fail : ρ) (fu : Nat)  (K0 : Int → Int → Int → ρ) (x0 : EL) : ρ :=
  p141_3L fail fu  K0 x0 fu 0 1 0
theorem d_p141 (fu : Nat)  {K0 : Int → Int → Int → Prop} (L : EL → Nat) (hN : L = List.length) {x0 : EL} (h : p141 False fu K0 x0) : Den Try.prog G0 141 [.c (.sl 1 x0 none)] (fun r bs => (∃ (y0 : Int) (y1 : Int) (y2 : Int) (o0 : OV), (r = .tup [.c (.v (.int .u64 y0)), .c (.v (.int .i64 y1)), .c (.v (.int .i64 y2))] ∧ bs = [o0]) ∧ K0 y0 y1 y2)) := by
  obtain ⟨O, hO⟩ : ∃ O, O = std 0 T G0 (Den Try.prog G0) := ⟨_, rfl⟩
  have hLO : L = O.len := by rw [hN, hO]; rfl
  subst hLO
  refine den_h hO tiA mixed tabOk (fn := Try.f141) (sh := true) (by kernel_rfl) rfl rfl rfl rfl ?_
  intro Q hQ
  unfold p141 at h
  conv => cbv
  refine loop_of hO tiA [0, 5, 6, 7] [] [] (fun (n : Nat) tm m => ∃ (z1 : Int) (z2 : Int) (z3 : Int), ((tm = frame 0 54 [(0, .c (.sl 1 x0 none)), (5, .c (.v (.int .u64 z1))), (6, .c (.v (.int .u64 z2))), (7, .c (.v (.int .i64 z3)))] ∧ m = ⟨[], 1⟩)) ∧ p141_3L False fu  K0 x0 n z1 z2 z3) (fun n => n) fu ⟨0, 1, 0, ⟨(by (conv => lhs; cbv) <;> (subst hO; rfl)), (by (conv => lhs; cbv) <;> (subst hO; rfl))⟩, h⟩ ?_
  rintro n1 tm m L ⟨z1, z2, z3, hs, h⟩ hLn1
  cases n1 with
  | zero => rw [p141_3L] at h; exact h.elim
  | succ n1 =>
    rw [p141_3L] at h
    unfold p141_3 at h
    obtain ⟨rfl, rfl⟩ := hs
    conv => cbv
    refine br_h hO h (by subst hO; rfl) (fun hc1 h => ?_) (fun hc1 h => ?_)
    · conv => cbv
      refine join_all hO ?_
      conv => cbv
      refine br_h hO h (by subst hO; rfl) (fun hc2 h => ?_) (fun hc2 h => ?_)
      · conv => cbv
        rw [hQ]
        exact ⟨0, 0, 2, _, ⟨(by subst hO; rfl), (by subst hO; rfl)⟩, h⟩
      · conv => cbv
        refine join_all hO ?_
        conv => cbv
        refine reg_join hO tiA [0, 5, 6, 7, 24] [] [] (fun tm m => ∃ (j4 : Bool), ((tm = frame 0 54 [(0, .c (.sl 1 x0 none)), (5, .c (.v (.int .u64 z1))), (6, .c (.v (.int .u64 z2))), (7, .c (.v (.int .i64 z3))), (24, .c (.v (.bool j4)))] ∧ m = ⟨[], 1⟩)) ∧ p141_2 False fu  K0 (p141_3L False fu  K0  x0 n1) x0 z1 z2 z3 j4) (fun L hL_2 => ?_) ?_
        · conv => cbv
          refine br_h hO h (by subst hO; rfl) (fun hc7 h => ?_) (fun hc7 h => ?_)
          · conv => cbv
            refine br_t hO hc7 ?_
            conv => cbv
            refine br_t hO hc7 ?_
            conv => cbv
            refine and_h h (fun g => (by subst hO; exact g)) (fun h => ?_)
            refine and_h h (fun g => (by subst hO; exact g)) (fun h => ?_)
            obtain ⟨c10, hr, h⟩ := rw_u8_inv h
            refine elem_of hO _ (by subst hO; exact hr) ?_
            clear hr
            conv => cbv
            refine br_t hO hc7 ?_
            conv => cbv
            refine br_t hO hc7 ?_
            conv => cbv
            refine br_t hO hc7 ?_
            conv => cbv
            exact hL_2 _ _ ⟨(cmpStd .gtr c10 1), ⟨(by (conv => lhs; cbv) <;> (subst hO; rfl)), (by (conv => lhs; cbv) <;> (subst hO; rfl))⟩, h⟩
          · conv => cbv
            refine br_f hO hc7 ?_
            conv => cbv
            refine br_f hO hc7 ?_
            conv => cbv
            refine br_f hO hc7 ?_
            conv => cbv
            refine br_f hO hc7 ?_
            conv => cbv
            refine br_f hO hc7 ?_
            conv => cbv
            exact hL_2 _ _ ⟨false, ⟨(by (conv => lhs; cbv) <;> (subst hO; rfl)), (by (conv => lhs; cbv) <;> (subst hO; rfl))⟩, h⟩
        · rintro tm m ⟨j4, hs, h⟩
          unfold p141_2 at h
          obtain ⟨rfl, rfl⟩ := hs
          conv => cbv
          refine br_h hO h (by subst hO; rfl) (fun hc3 h => ?_) (fun hc3 h => ?_)
          · conv => cbv
            rw [hQ]
            exact ⟨0, 0, 4, _, ⟨(by subst hO; rfl), (by subst hO; rfl)⟩, h⟩
          · conv => cbv
            refine join_all hO ?_
            conv => cbv
            refine and_h h (fun g => (by subst hO; exact g)) (fun h => ?_)
            refine and_h h (fun g => (by subst hO; exact g)) (fun h => ?_)
            obtain ⟨c5, hr, h⟩ := rw_u8_inv h
            refine elem_of hO _ (by subst hO; exact hr) ?_
            clear hr
            conv => cbv
            refine and_h h (fun g => (by subst hO; exact g)) (fun h => ?_)
            refine and_h h (fun g => (by subst hO; exact g)) (fun h => ?_)
            refine and_h h (fun g => (by subst hO; exact g)) (fun h => ?_)
            obtain ⟨c6, hr, h⟩ := rw_u8_inv h
            refine elem_of hO _ (by subst hO; exact hr) ?_
            clear hr
            conv => cbv
            refine br_h hO h (by subst hO; rfl) (fun hc4 h => ?_) (fun hc4 h => ?_)
            · conv => cbv
              refine reg_join hO tiA [5, 7, 50] [] [] (fun tm m => ∃ (j7 : Int) (j8 : Bool), ((tm = frame 0 54 [(5, .c (.v (.int .u64 j7))), (7, .c (.v (.int .i64 z3))), (50, .c (.v (.bool j8)))] ∧ m = ⟨[], 1⟩)) ∧ p141_1 False fu  K0 z3 j7 j8) (fun L hL_1 => ?_) ?_
              · conv => cbv
                refine and_h h (fun g => (by subst hO; exact g)) (fun h => ?_)
                refine and_h h (fun g => (by subst hO; exact g)) (fun h => ?_)
                obtain ⟨c9, hr, h⟩ := rw_u8_inv h
                refine elem_of hO _ (by subst hO; exact hr) ?_
                clear hr
                conv => cbv
                refine br_h hO h (by subst hO; rfl) (fun hc6 h => ?_) (fun hc6 h => ?_)
                · conv => cbv
                  refine br_t hO hc6 ?_
                  conv => cbv
                  refine br_t hO hc6 ?_
                  conv => cbv
                  exact hL_1 _ _ ⟨binStd .add .u64 z1 (binStd .mul .u64 (IntKind.u64.wrap (binStd .rem .u8 c5 128)) z2), (cmpStd .gtr z3 0), ⟨(by (conv => lhs; cbv) <;> (subst hO; rfl)), (by (conv => lhs; cbv) <;> (subst hO; rfl))⟩, h⟩
                · conv => cbv
                  refine br_f hO hc6 ?_
                  conv => cbv
                  refine br_f hO hc6 ?_
                  conv => cbv
                  exact hL_1 _ _ ⟨binStd .add .u64 z1 (binStd .mul .u64 (IntKind.u64.wrap (binStd .rem .u8 c5 128)) z2), false, ⟨(by (conv => lhs; cbv) <;> (subst hO; rfl)), (by (conv => lhs; cbv) <;> (subst hO; rfl))⟩, h⟩
              · rintro tm m ⟨j7, j8, hs, h⟩
                unfold p141_1 at h
                obtain ⟨rfl, rfl⟩ := hs
                conv => cbv
                refine br_h hO h (by subst hO; rfl) (fun hc5 h => ?_) (fun hc5 h => ?_)
                · conv => cbv
                  rw [hQ]
                  exact ⟨0, 0, 5, _, ⟨(by subst hO; rfl), (by subst hO; rfl)⟩, h⟩
                · conv => cbv
                  refine join_all hO ?_
                  conv => cbv
                  rw [hQ]
                  exact ⟨j7, binStd .add .i64 z3 1, 0, _, ⟨(by subst hO; rfl), (by subst hO; rfl)⟩, h⟩
            · conv => cbv
              refine join_all hO ?_
              conv => cbv
              exact hLn1 n1 _ _ (Nat.lt_succ_self n1) ⟨binStd .add .u64 z1 (binStd .mul .u64 (IntKind.u64.wrap (binStd .rem .u8 c5 128)) z2), binStd .mul .u64 z2 128, binStd .add .i64 z3 1, ⟨(by (conv => lhs; cbv) <;> (subst hO; rfl)), (by (conv => lhs; cbv) <;> (subst hO; rfl))⟩, h⟩
    · conv => cbv
      rw [hQ]
      exact ⟨0, 0, 4, _, ⟨(by subst hO; rfl), (by subst hO; rfl)⟩, h⟩
end Go.Proofs.Ythncmjlcmlmnmaa

namespace Go.Proofs.Ythncmjlcmlmnmaa
open Go V
set_option maxRecDepth 100000
set_option maxHeartbeats 4000000
def p118_1 {ρ : Type} (fail : ρ) (fu : Nat)  (K0 : EL → Int → Int → ρ)  (x0 : EL) (x1 : Int) (j1 : Int) : ρ :=
  K0 x0 x1 j1
/-- (*ref6.Reader).fail -/
def p118 {ρ : Type} (fail : ρ) (fu : Nat)  (K0 : EL → Int → Int → ρ) (x0 : EL) (x1 : Int) (x2 : Int) (x3 : Int) : ρ :=
  bif (cmpStd .eql x2 0) then (p118_1 fail fu  K0 x0 x1 x3) else (p118_1 fail fu  K0 x0 x1 x2)
theorem d_p118 (fu : Nat)  {K0 : EL → Int → Int → Prop} (L : EL → Nat) (hN : L = List.length) {x0 : EL} {x1 : Int} {x2 : Int} {x3 : Int} (h : p118 False fu K0 x0 x1 x2 x3) : Den Try.prog G0 118 [.ptr [.c (.sl 1 x0 none), .c (.v (.int .i64 x1)), .c (.v (.int .i64 x2))], .c (.v (.int .i64 x3))] (fun r bs => (∃ (y0 : EL) (y1 : Int) (y2 : Int) (o1 : OV), (r = .tup [] ∧ bs = [.ptr [.c (.sl 1 y0 none), .c (.v (.int .i64 y1)), .c (.v (.int .i64 y2))], o1]) ∧ K0 y0 y1 y2)) := by
  obtain ⟨O, hO⟩ : ∃ O, O = std 1 T G0 (Den Try.prog G0) := ⟨_, rfl⟩
  have hLO : L = O.len := by rw [hN, hO]; rfl
  subst hLO
  refine den_h hO tiA mixed tabOk (fn := Try.f118) (sh := true) (by kernel_rfl) rfl rfl rfl rfl ?_
  intro Q hQ
  unfold p118 at h
  conv => cbv
  refine br_join_h hO tiA h (by subst hO; rfl) [] [0] [] (fun tm m => ∃ (j1 : Int), ((tm = frame 0 13 [] ∧ m = ⟨[(0, .blk 0 [.c (.sl 1 x0 none), .c (.v (.int .i64 x1)), .c (.v (.int .i64 j1))])], 2⟩)) ∧ p118_1 False fu  K0 x0 x1 j1) (fun hc1 h L hL_1 => ?_) (fun hc1 h L hL_1 => ?_) ?_
  · conv => cbv
    exact hL_1 _ _ ⟨x3, ⟨(by (conv => lhs; cbv) <;> (subst hO; rfl)), (by (conv => lhs; cbv) <;> (subst hO; rfl))⟩, h⟩
  · conv => cbv
    exact hL_1 _ _ ⟨x2, ⟨(by (conv => lhs; cbv) <;> (subst hO; rfl)), (by (conv => lhs; cbv) <;> (subst hO; rfl))⟩, h⟩
  · rintro tm m ⟨j1, hs, h⟩
    unfold p118_1 at h
    obtain ⟨rfl, rfl⟩ := hs
    conv => cbv
    rw [hQ]
    exact ⟨x0, x1, j1, _, ⟨(by subst hO; rfl), (by subst hO; rfl)⟩, h⟩
end Go.Proofs.Ythncmjlcmlmnmaa

namespace Go.Proofs.Ythncmjlcmlmnmaa
open Go V
set_option maxRecDepth 100000
set_option maxHeartbeats 4000000
/-- (*ref6.Reader).any -/
def p127 {ρ : Type} (fail : ρ) (fu : Nat)  (K0 : Int → EL → Int → Int → ρ) (x0 : EL) (x1 : Int) (x2 : Int) : ρ :=
  bif (cmpStd .neq x2 0) then (K0 0 x0 x1 x2) else (gd ((0 : Int) ≤ x1) fail (gd ((x1 : Int) ≤ (x0.length : Nat)) fail (gd (((x0.length : Nat) : Int) ≤ (x0.length : Nat)) fail (p141 fail fu (fun y1 y2 y3 => bif (cmpStd .neq y3 0) then (p118 fail fu (fun y4 y5 y6 => K0 0 y4 y5 y6) x0 x1 x2 y3) else (K0 y1 x0 (binStd .add .i64 x1 y2) x2)) (List.drop ((x1 : Int).toNat) (List.take (((x0.length : Nat) : Int).toNat) x0))))))
theorem d_p127 (fu : Nat)  {K0 : Int → EL → Int → Int → Prop} (L : EL → Nat) (hN : L = List.length) {x0 : EL} {x1 : Int} {x2 : Int} (h : p127 False fu K0 x0 x1 x2) : Den Try.prog G0 127 [.ptr [.c (.sl 1 x0 none), .c (.v (.int .i64 x1)), .c (.v (.int .i64 x2))]] (fun r bs => (∃ (y0 : Int) (y1 : EL) (y2 : Int) (y3 : Int), (r = .c (.v (.int .u64 y0)) ∧ bs = [.ptr [.c (.sl 1 y1 none), .c (.v (.int .i64 y2)), .c (.v (.int .i64 y3))]]) ∧ K0 y0 y1 y2 y3)) := by
  obtain ⟨O, hO⟩ : ∃ O, O = std 1 T G0 (Den Try.prog G0) := ⟨_, rfl⟩
  have hLO : L = O.len := by rw [hN, hO]; rfl
  subst hLO
  refine den_h hO tiA mixed tabOk (fn := Try.f127) (sh := true) (by kernel_rfl) rfl rfl rfl rfl ?_
  intro Q hQ
  unfold p127 at h
  conv => cbv
  refine br_h hO h (by subst hO; rfl) (fun hc1 h => ?_) (fun hc1 h => ?_)
  · conv => cbv
    rw [hQ]
    exact ⟨0, x0, x1, x2, ⟨(by subst hO; rfl), (by subst hO; rfl)⟩, h⟩
  · conv => cbv
    refine join_all hO ?_
    conv => cbv
    refine drawn_of hO tiA [[], []] [(0, true, false), (1, true, false), (2, true, false), (3, true, false), (4, true, false), (5, true, false), (6, true, false), (7, true, false), (8, true, false), (9, false, true), (10, true, true), (11, true, true), (12, true, true), (13, true, true), (14, true, true), (15, true, true), (16, true, true)] (by kernel_rfl) ?_
    conv => cbv
    refine and_h h (fun g => (by subst hO; exact g)) (fun h => ?_)
    refine and_h h (fun g => (by subst hO; exact g)) (fun h => ?_)
    refine and_h h (fun g => (by subst hO; exact g)) (fun h => ?_)
    refine call_h hO [.shut] (d_p141 fu O.len hN h) ?_
    intro os Q hos hQ
    conv => cbv
    refine ⟨(by (rw [hos]) <;> (subst hO; rfl)), ?_⟩
    intro r bs hq
    rw [hQ] at hq
    clear hos hQ h
    obtain ⟨y1, y2, y3, _, ⟨rfl, rfl⟩, h⟩ := hq
    conv => cbv
    refine join_all hO ?_
    conv => cbv
    refine br_h hO h (by subst hO; rfl) (fun hc2 h => ?_) (fun hc2 h => ?_)
    · conv => cbv
      refine call_h hO [.ref 3, .shut] (d_p118 fu O.len hN h) ?_
      intro os Q hos hQ
      conv => cbv
      refine ⟨(by (rw [hos]) <;> (subst hO; rfl)), ?_⟩
      intro r bs hq
      rw [hQ] at hq
      clear hos hQ h
      obtain ⟨y4, y5, y6, _, ⟨rfl, rfl⟩, h⟩ := hq
      conv => cbv
      rw [hQ]
      exact ⟨0, y4, y5, y6, ⟨(by subst hO; rfl), (by subst hO; rfl)⟩, h⟩
    · conv => cbv
      refine join_all hO ?_
      conv => cbv
      rw [hQ]
      exact ⟨y1, x0, binStd .add .i64 x1 y2, x2, ⟨(by subst hO; rfl), (by subst hO; rfl)⟩, h⟩
end Go.Proofs.Ythncmjlcmlmnmaa

namespace Go.Proofs.Ythncmjlcmlmnmaa
open Go V
set_option maxRecDepth 100000
set_option maxHeartbeats 4000000
/-- (*ref6.Reader).Num -/
def p96 {ρ : Type} (fail : ρ) (fu : Nat)  (K0 : Int → EL → Int → Int → ρ) (x0 : EL) (x1 : Int) (x2 : Int) : ρ :=
  p127 fail fu (fun y1 y2 y3 y4 => bif (cmpStd .gtr y1 1073741824) then (p118 fail fu (fun y5 y6 y7 => K0 0 y5 y6 y7) y2 y3 y4 4) else (K0 (IntKind.i64.wrap y1) y2 y3 y4)) x0 x1 x2
theorem d_p96 (fu : Nat)  {K0 : Int → EL → Int → Int → Prop} (L : EL → Nat) (hN : L = List.length) {x0 : EL} {x1 : Int} {x2 : Int} (h : p96 False fu K0 x0 x1 x2) : Den Try.prog G0 96 [.ptr [.c (.sl 1 x0 none), .c (.v (.int .i64 x1)), .c (.v (.int .i64 x2))]] (fun r bs => (∃ (y0 : Int) (y1 : EL) (y2 : Int) (y3 : Int), (r = .c (.v (.int .i64 y0)) ∧ bs = [.ptr [.c (.sl 1 y1 none), .c (.v (.int .i64 y2)), .c (.v (.int .i64 y3))]]) ∧ K0 y0 y1 y2 y3)) := by
  obtain ⟨O, hO⟩ : ∃ O, O = std 1 T G0 (Den Try.prog G0) := ⟨_, rfl⟩
  have hLO : L = O.len := by rw [hN, hO]; rfl
  subst hLO
  refine den_h hO tiA mixed tabOk (fn := Try.f96) (sh := true) (by kernel_rfl) rfl rfl rfl rfl ?_
  intro Q hQ
  unfold p96 at h
  conv => cbv
  refine call_h hO [.ref 3] (d_p127 fu O.len hN h) ?_
  intro os Q hos hQ
  conv => cbv
  refine ⟨(by (rw [hos]) <;> (subst hO; rfl)), ?_⟩
  intro r bs hq
  rw [hQ] at hq
  clear hos hQ h
  obtain ⟨y1, y2, y3, y4, ⟨rfl, rfl⟩, h⟩ := hq
  conv => cbv
  refine br_h hO h (by subst hO; rfl) (fun hc1 h => ?_) (fun hc1 h => ?_)
  · conv => cbv
    refine call_h hO [.ref 3, .shut] (d_p118 fu O.len hN h) ?_
    intro os Q hos hQ
    conv => cbv
    refine ⟨(by (rw [hos]) <;> (subst hO; rfl)), ?_⟩
    intro r bs hq
    rw [hQ] at hq
    clear hos hQ h
    obtain ⟨y5, y6, y7, _, ⟨rfl, rfl⟩, h⟩ := hq
    conv => cbv
    rw [hQ]
    exact ⟨0, y5, y6, y7, ⟨(by subst hO; rfl), (by subst hO; rfl)⟩, h⟩
  · conv => cbv
    refine join_all hO ?_
    conv => cbv
    rw [hQ]
    exact ⟨IntKind.i64.wrap y1, y2, y3, y4, ⟨(by subst hO; rfl), (by subst hO; rfl)⟩, h⟩
end Go.Proofs.Ythncmjlcmlmnmaa

namespace Go.Proofs.Ythncmjlcmlmnmaa
open Go V
set_option maxRecDepth 100000
set_option maxHeartbeats 4000000
def p128_1 {ρ : Type} (fail : ρ) (fu : Nat)  (K0 : Int → Int → ρ) (rec1 : Int → Int → ρ) (x0 : EL) (z1 : Int) (z2 : Int) : ρ :=
  bif (cmpStd .lss z2 8) then (gd ((0 : Int) ≤ z2) fail (gd ((z2 : Int) < (x0.length : Nat)) fail (rw_u8 fail (List.getD x0 ((z2 : Int).toNat) []) (fun c3 => rec1 (binStd .add .u64 (binStd .mul .u64 z1 256) (IntKind.u64.wrap c3)) (binStd .add .i64 z2 1))))) else (K0 z1 0)
def p128_1L {ρ : Type} (fail : ρ) (fu : Nat)  (K0 : Int → Int → ρ)  (x0 : EL) : Nat → Int → Int → ρ
  | 0, _, _ => fail
  | n + 1, z1, z2 => p128_1 fail fu  K0 (p128_1L fail fu  K0  x0 n) x0 z1 z2
/-- ref1.TakeEight -/
def p128 {ρ : Type} (fail : ρ) (fu : Nat)  (K0 : Int → Int → ρ) (x0 : EL) : ρ :=
  bif (cmpStd .lss ((x0.length : Nat) : Int) 8) then (K0 0 2) else (p128_1L fail fu  K0 x0 fu 0 0)
theorem d_p128 (fu : Nat)  {K0 : Int → Int → Prop} (L : EL → Nat) (hN : L = List.length) {x0 : EL} (h : p128 False fu K0 x0) : Den Try.prog G0 128 [.c (.sl 1 x0 none)] (fun r bs => (∃ (y0 : Int) (y1 : Int) (o0 : OV), (r = .tup [.c (.v (.int .u64 y0)), .c (.v (.int .i64 y1))] ∧ bs = [o0]) ∧ K0 y0 y1)) := by
  obtain ⟨O, hO⟩ : ∃ O, O = std 0 T G0 (Den Try.prog G0) := ⟨_, rfl⟩
  have hLO : L = O.len := by rw [hN, hO]; rfl
  subst hLO
  refine den_h hO tiA mixed tabOk (fn := Try.f128) (sh := true) (by kernel_rfl) rfl rfl rfl rfl ?_
  intro Q hQ
  unfold p128 at h
  conv => cbv
  refine br_h hO h (by subst hO; rfl) (fun hc1 h => ?_) (fun hc1 h => ?_)
  · conv => cbv
    rw [hQ]
    exact ⟨0, 2, _, ⟨(by subst hO; rfl), (by subst hO; rfl)⟩, h⟩
  · conv => cbv
    refine join_all hO ?_
    conv => cbv
    refine loop_of hO tiA [0, 4, 5] [] [] (fun (n : Nat) tm m => ∃ (z1 : Int) (z2 : Int), ((tm = frame 0 22 [(0, .c (.sl 1 x0 none)), (4, .c (.v (.int .u64 z1))), (5, .c (.v (.int .i64 z2)))] ∧ m = ⟨[], 1⟩)) ∧ p128_1L False fu  K0 x0 n z1 z2) (fun n => n) fu ⟨0, 0, ⟨(by (conv => lhs; cbv) <;> (subst hO; rfl)), (by (conv => lhs; cbv) <;> (subst hO; rfl))⟩, h⟩ ?_
    rintro n1 tm m L ⟨z1, z2, hs, h⟩ hLn1
    cases n1 with
    | zero => rw [p128_1L] at h; exact h.elim
    | succ n1 =>
      rw [p128_1L] at h
      unfold p128_1 at h
      obtain ⟨rfl, rfl⟩ := hs
      conv => cbv
      refine br_h hO h (by subst hO; rfl) (fun hc2 h => ?_) (fun hc2 h => ?_)
      · conv => cbv
        refine join_all hO ?_
        conv => cbv
        refine and_h h (fun g => (by subst hO; exact g)) (fun h => ?_)
        refine and_h h (fun g => (by subst hO; exact g)) (fun h => ?_)
        obtain ⟨c3, hr, h⟩ := rw_u8_inv h
        refine elem_of hO _ (by subst hO; exact hr) ?_
        clear hr
        conv => cbv
        exact hLn1 n1 _ _ (Nat.lt_succ_self n1) ⟨binStd .add .u64 (binStd .mul .u64 z1 256) (IntKind.u64.wrap c3), binStd .add .i64 z2 1, ⟨(by (conv => lhs; cbv) <;> (subst hO; rfl)), (by (conv => lhs; cbv) <;> (subst hO; rfl))⟩, h⟩
      · conv => cbv
        rw [hQ]
        exact ⟨z1, 0, _, ⟨(by subst hO; rfl), (by subst hO; rfl)⟩, h⟩
end Go.Proofs.Ythncmjlcmlmnmaa

namespace Go.Proofs.Ythncmjlcmlmnmaa
open Go V
set_option maxRecDepth 100000
set_option maxHeartbeats 4000000
/-- ref25.taken -/
def p97 {ρ : Type} (fail : ρ) (fu : Nat)  (K0 : Int → Int → EL → Int → Int → ρ) (x0 : EL) (x1 : Int) (x2 : Int) : ρ :=
  bif (cmpStd .neq x2 0) then (K0 0 0 x0 x1 x2) else (bif (cmpStd .lss (binStd .sub .i64 ((x0.length : Nat) : Int) x1) 16) then (K0 0 0 x0 x1 2) else (gd ((0 : Int) ≤ x1) fail (gd ((x1 : Int) ≤ (x0.length : Nat)) fail (gd (((x0.length : Nat) : Int) ≤ (x0.length : Nat)) fail (p128 fail fu (fun y1 y2 => gd ((0 : Int) ≤ (binStd .add .i64 x1 8)) fail (gd ((binStd .add .i64 x1 8 : Int) ≤ (x0.length : Nat)) fail (gd (((x0.length : Nat) : Int) ≤ (x0.length : Nat)) fail (p128 fail fu (fun y3 y4 => K0 y1 y3 x0 (binStd .add .i64 x1 16) x2) (List.drop ((binStd .add .i64 x1 8 : Int).toNat) (List.take (((x0.length : Nat) : Int).toNat) x0)))))) (List.drop ((x1 : Int).toNat) (List.take (((x0.length : Nat) : Int).toNat) x0)))))))
theorem d_p97 (fu : Nat)  {K0 : Int → Int → EL → Int → Int → Prop} (L : EL → Nat) (hN : L = List.length) {x0 : EL} {x1 : Int} {x2 : Int} (h : p97 False fu K0 x0 x1 x2) : Den Try.prog G0 97 [.ptr [.c (.sl 1 x0 none), .c (.v (.int .i64 x1)), .c (.v (.int .i64 x2))]] (fun r bs => (∃ (y0 : Int) (y1 : Int) (y2 : EL) (y3 : Int) (y4 : Int), (r = .agg [.c (.v (.int .u64 y0)), .c (.v (.int .u64 y1))] ∧ bs = [.ptr [.c (.sl 1 y2 none), .c (.v (.int .i64 y3)), .c (.v (.int .i64 y4))]]) ∧ K0 y0 y1 y2 y3 y4)) := by
  obtain ⟨O, hO⟩ : ∃ O, O = std 1 T G0 (Den Try.prog G0) := ⟨_, rfl⟩
  have hLO : L = O.len := by rw [hN, hO]; rfl
  subst hLO
  refine den_h hO tiA mixed tabOk (fn := Try.f97) (sh := true) (by kernel_rfl) rfl rfl rfl rfl ?_
  intro Q hQ
  unfold p97 at h
  conv => cbv
  refine br_h hO h (by subst hO; rfl) (fun hc1 h => ?_) (fun hc1 h => ?_)
  · conv => cbv
    rw [hQ]
    exact ⟨0, 0, x0, x1, x2, ⟨(by subst hO; rfl), (by subst hO; rfl)⟩, h⟩
  · conv => cbv
    refine join_all hO ?_
    conv => cbv
    refine drawn_of hO tiA [[]] [(0, true, false), (1, true, false), (2, true, false), (3, true, false), (4, true, false), (5, true, false), (6, true, false), (7, true, false), (8, true, false), (9, true, true), (10, true, true)] (by kernel_rfl) ?_
    conv => cbv
    refine join_all hO ?_
    conv => cbv
    refine br_h hO h (by subst hO; rfl) (fun hc2 h => ?_) (fun hc2 h => ?_)
    · conv => cbv
      rw [hQ]
      exact ⟨0, 0, x0, x1, 2, ⟨(by subst hO; rfl), (by subst hO; rfl)⟩, h⟩
    · conv => cbv
      refine join_all hO ?_
      conv => cbv
      refine drawn_of hO tiA [[], []] [(0, true, false), (1, true, false), (2, true, false), (3, true, false), (4, true, false), (5, true, false), (6, true, false), (7, true, false), (8, true, false), (9, false, true), (10, true, true), (11, true, true), (12, true, true), (13, true, true), (14, true, true)] (by kernel_rfl) ?_
      conv => cbv
      refine and_h h (fun g => (by subst hO; exact g)) (fun h => ?_)
      refine and_h h (fun g => (by subst hO; exact g)) (fun h => ?_)
      refine and_h h (fun g => (by subst hO; exact g)) (fun h => ?_)
      refine call_h hO [.shut] (d_p128 fu O.len hN h) ?_
      intro os Q hos hQ
      conv => cbv
      refine ⟨(by (rw [hos]) <;> (subst hO; rfl)), ?_⟩
      intro r bs hq
      rw [hQ] at hq
      clear hos hQ h
      obtain ⟨y1, y2, _, ⟨rfl, rfl⟩, h⟩ := hq
      conv => cbv
      refine join_all hO ?_
      conv => cbv
      refine drawn_of hO tiA [[], []] [(0, true, false), (1, true, false), (2, true, false), (3, true, false), (4, true, false), (5, true, false), (6, true, false), (7, true, false), (8, true, false), (9, true, false), (10, false, true), (11, true, true), (12, true, false), (13, true, false), (14, true, true), (15, true, true)] (by kernel_rfl) ?_
      conv => cbv
      refine and_h h (fun g => (by subst hO; exact g)) (fun h => ?_)
      refine and_h h (fun g => (by subst hO; exact g)) (fun h => ?_)
      refine and_h h (fun g => (by subst hO; exact g)) (fun h => ?_)
      refine call_h hO [.shut] (d_p128 fu O.len hN h) ?_
      intro os Q hos hQ
      conv => cbv
      refine ⟨(by (rw [hos]) <;> (subst hO; rfl)), ?_⟩
      intro r bs hq
      rw [hQ] at hq
      clear hos hQ h
      obtain ⟨y3, y4, _, ⟨rfl, rfl⟩, h⟩ := hq
      conv => cbv
      refine join_all hO ?_
      conv => cbv
      rw [hQ]
      exact ⟨y1, y3, x0, binStd .add .i64 x1 16, x2, ⟨(by subst hO; rfl), (by subst hO; rfl)⟩, h⟩
end Go.Proofs.Ythncmjlcmlmnmaa
