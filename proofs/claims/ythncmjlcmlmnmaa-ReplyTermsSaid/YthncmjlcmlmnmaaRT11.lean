/- Eight bytes, equal trees, and how the program reads a reply. Conditions: none. -/
import Derived.Test.YthncmjlcmlmnmaaRT9
import Derived.Test.YthncmjlcmlmnmaaRT10
import Derived.Test.YthncmjlcmlmnmaaRT5
namespace Go.Proofs.Ythncmjlcmlmnmaa
open Go V
set_option maxRecDepth 100000
set_option maxHeartbeats 4000000
def be (l : List UInt8) : Nat := l.foldl (fun v c => v * 256 + c.toNat) 0
theorem w5d (l : List UInt8) (c : UInt8) : be (l ++ [c]) = be l * 256 + c.toNat := by simp [be, List.foldl_append]
theorem be_lt : ∀ (n : Nat) (l : List UInt8), l.length = n → be l < 2 ^ (8 * n) := by
 intro n
 induction n with
 | zero => intro l h; rw [List.length_eq_zero_iff.1 h]; decide
 | succ n ih =>
  intro l h
  have hne : l ≠ [] := fun q => by rw [q] at h; simp at h
  have hl := List.dropLast_concat_getLast hne
  have h1 := ih l.dropLast (by rw [List.length_dropLast]; omega)
  have hc := (l.getLast hne).toNat_lt
  rw [← hl, w5d, show 8 * (n + 1) = 8 * n + 8 by omega, Nat.pow_add]
  omega
theorem or_byte (a : Nat) (c : UInt8) (ha : a * 256 + c.toNat < 2 ^ 64) : z0d .or .u64 (z0d .shl .u64 (a : Nat) 8) (IntKind.u64.wrap ((c.toNat : Nat) : Int)) = ((a * 256 + c.toNat : Nat) : Int) := by
 have hc := c.toNat_lt
 have hs : z0d .shl .u64 (a : Nat) 8 = ((a * 256 : Nat) : Int) := by
  show IntKind.u64.wrap ((a : Int) * 2 ^ (min ((8 : Int)).toNat 64)) = _
  have hp : (a : Int) * 2 ^ (min ((8 : Int)).toNat 64) = ((a * 256 : Nat) : Int) := by
   rw [show min ((8 : Int)).toNat 64 = 8 from rfl]; push_cast; rfl
  rw [hp, z3u _ (by omega)]
 rw [hs, z3u _ (by omega)]
 show IntKind.u64.wrap (bOr 64 _ _ : Nat) = _
 rw [w5f 64 _ _ (by omega) (by omega)]
 have h1 : a * 256 ||| c.toNat = a * 256 + c.toNat := by
  have := Nat.shiftLeft_add_eq_or_of_lt (show c.toNat < 2 ^ 8 from hc) a
  rw [Nat.shiftLeft_eq] at this
  exact this.symm
 rw [h1, z3u _ ha]
def z3w (bs : List UInt8) : Except Int (Nat × List UInt8) := if bs.length < 8 then .error 2 else .ok (be (bs.take 8), bs.drop 8)
theorem w7s {ρ : Type} (fail : ρ) (fu : Nat) (K : Int → Int → ρ) (l : List UInt8) (hl : l.length = 8) : ∀ (r i n : Nat), i + r = 8 → r < n →
  p125_1L fail fu K n ((be (l.take i) : Nat) : Int) (encB l) ((l.length : Nat) : Int) ((i : Nat) : Int) = K ((be l : Nat) : Int) 0 := by
 intro r
 induction r with
 | zero =>
  intro i n hi hn
  obtain ⟨n, rfl⟩ : ∃ m, n = m + 1 := ⟨n - 1, by omega⟩
  rw [p125_1L, p125_1, lssF (by omega), cond_false, List.take_of_length_le (by omega)]
 | succ r ih =>
  intro i n hi hn
  obtain ⟨n, rfl⟩ : ∃ m, n = m + 1 := ⟨n - 1, by omega⟩
  have hlt : i < l.length := by omega
  have hb : be (l.take (i + 1)) = be (l.take i) * 256 + (l[i]).toNat := by rw [List.take_succ_eq_append_getElem hlt, w5d]
  have h64 : be (l.take (i + 1)) < 2 ^ 64 := Nat.lt_of_lt_of_le (be_lt (i + 1) _ (by rw [List.length_take]; omega)) (Nat.pow_le_pow_right (by omega) (by omega))
  rw [p125_1L, p125_1, lssT (by omega), cond_true, gd_y (by omega), gd_y (by rw [z0f]; omega), w8s fail l i hlt, gd_y (by omega), or_byte _ _ (by rw [← hb]; exact h64), ← hb, addZ (by omega) (by omega), show ((i : Nat) : Int) + 1 = ((i + 1 : Nat) : Int) by omega]
  exact ih (i + 1) n (by omega) (by omega)
theorem w6m {ρ : Type} (fail : ρ) (fu : Nat) (hf : 10 ≤ fu) (bs : List UInt8) (hb : bs.length ≤ 1099511627776) : KOut (fun K => p92 fail fu K (encB bs) 0) 0 (z3w bs) := by
 unfold z3w
 by_cases h8 : bs.length < 8
 ·rw [if_pos h8]
  refine ⟨by omega, encB bs, fun K => ?_⟩
  dsimp only
  rw [p92, neqF rfl, cond_false, p125, z0f, lssT (by omega), cond_true, z2o, neqT (by omega), cond_true]
 ·rw [if_neg h8]
  intro K
  dsimp only
  have ht : List.drop (0 : Int).toNat (List.take (8 : Int).toNat (encB bs)) = encB (bs.take 8) := by rw [w3j]; rfl
  have := w7s fail fu (fun y1 y2 => p94 fail fu (fun y3 y4 => bif (z0a .neq y2 0) then (K 0 y3 y4) else (gd ((0 : Int) ≤ 8) fail (gd ((8 : Int) ≤ (y3.length : Nat)) fail (gd (((y3.length : Nat) : Int) ≤ (y3.length : Nat)) fail (K y1 (List.drop ((8 : Int).toNat) (List.take (((y3.length : Nat) : Int).toNat) y3)) y4))))) (encB bs) 0 y2) (bs.take 8) (by rw [List.length_take]; omega) 8 0 fu (by omega) (by omega)
  rw [p92, neqF rfl, cond_false, p125, z0f, lssF (by omega), cond_false, gd_y (by omega), gd_y (by omega), gd_y (by omega), ht, z0f]
  refine Eq.trans this ?_
  try dsimp only
  rw [z2o, neqF rfl, cond_false, gd_y (by omega), gd_y (by rw [z0f]; omega), gd_y (by omega), Int.toNat_natCast, List.take_of_length_le (Nat.le_refl _)]
  rw [w3k]; rfl
theorem k2v {ρ : Type} (fail : ρ) (fu : Nat) (K : Int → EL → Int → ρ) (B : EL) (e : Int) (h : e ≠ 0) : p92 fail fu K B e = K 0 B e := by
 rw [p92, neqT h, cond_true]
theorem w5p (s : ByteArray) : z2f .eql s ⟨#[]⟩ = decide (s.size = 0) := by
 show (s.toList == (⟨#[]⟩ : ByteArray).toList) = _
 rw [ByteArray.toList_eq, ByteArray.toList_eq, ← z2q]
 cases s.data.toList <;> simp
theorem ba_nil {s : ByteArray} (h : s.size = 0) : s = ⟨#[]⟩ := by
 obtain ⟨d⟩ := s
 have : d = #[] := Array.size_eq_zero_iff.1 h
 rw [this]
def isZ (t : Tm) : Bool := decide (t.k = 0) && (decide (t.n = 0) && (decide (t.nm.size = 0) && (decide (t.ls.length = 0) && decide (t.args.length = 0))))
theorem isZ_iff (t : Tm) : isZ t = true ↔ t = tm0 := by
 obtain ⟨k, n, s, l, a⟩ := t
 constructor
 ·intro h
  simp only [isZ, Tm.k, Tm.n, Tm.nm, Tm.ls, Tm.args, Bool.and_eq_true] at h
  obtain ⟨h1, h2, h3, h4, h5⟩ := h
  have g1 := of_decide_eq_true h1
  have g2 := of_decide_eq_true h2
  have g3 := ba_nil (of_decide_eq_true h3)
  have g4 := List.length_eq_zero_iff.1 (of_decide_eq_true h4)
  have g5 := List.length_eq_zero_iff.1 (of_decide_eq_true h5)
  rw [g1, g2, g3, g4, g5]; rfl
 ·intro h; rw [h]; rfl
theorem lvNil {ρ : Type} (fail : ρ) (fu : Nat) (hf : 10 ≤ fu) (K : Bool → ρ) (L : EL) : p121 fail fu K L nilE = K (decide (L.length = 0)) := by
 obtain ⟨m, rfl⟩ : ∃ m, fu = m + 2 := ⟨fu - 2, by omega⟩
 rw [p121, p121_b]
 cases L with
 | nil => rw [neqF rfl, cond_false]; rfl
 | cons a l => rw [neqT (by simp only [List.length_cons, List.length_nil]; omega), cond_true]; rfl
theorem tmNil {ρ : Type} (fail : ρ) (fu : Nat) (hf : 10 ≤ fu) (K : Bool → ρ) (L : EL) : p123b fail fu K L nilE = K (decide (L.length = 0)) := by
 obtain ⟨m, rfl⟩ : ∃ m, fu = m + 2 := ⟨fu - 2, by omega⟩
 rw [p123b, p123b_b]
 cases L with
 | nil => rw [neqF rfl, cond_false]; rfl
 | cons a l => rw [neqT (by simp only [List.length_cons, List.length_nil]; omega), cond_true]; rfl
theorem w1o {ρ : Type} (fail : ρ) (fu : Nat) (hf : 20 ≤ fu) (K : Bool → ρ) (k n : Int) (s : ByteArray) (L A : EL) : p86 fail fu K k n s L A 0 0 ⟨#[]⟩ nilE nilE = K (decide (k = 0) && (decide (n = 0) && (decide (s.size = 0) && (decide (L.length = 0) && decide (A.length = 0))))) := by
 obtain ⟨m, rfl⟩ : ∃ m, fu = m + 2 := ⟨fu - 2, by omega⟩
 rw [p86, p86_b, w5p]
 by_cases c1 : k = 0
 ·rw [eqlT c1, cond_true, decide_eq_true c1, Bool.true_and]
  by_cases c2 : n = 0
  ·rw [eqlT c2, cond_true, decide_eq_true c2, Bool.true_and]
   by_cases c3 : s.size = 0
   ·rw [decide_eq_true c3, cond_true, Bool.true_and, lvNil fail (m + 1) (by omega)]
    by_cases c4 : L.length = 0
    ·rw [decide_eq_true c4, cond_true, Bool.true_and, tmNil fail (m + 1) (by omega)]; rfl
    ·rw [decide_eq_false c4, cond_false]; rfl
   ·rw [decide_eq_false c3, cond_false]; rfl
  ·rw [eqlF c2, cond_false, decide_eq_false c2]; rfl
 ·rw [eqlF c1, cond_false, decide_eq_false c1]; rfl
theorem w5m {ρ : Type} (fail : ρ) (fu : Nat) (hf : 20 ≤ fu) (K : Bool → ρ) (t : Tm) : p86 fail fu K t.k t.n t.nm (Lv.rows t.ls) (Tm.rows t.args) 0 0 ⟨#[]⟩ nilE nilE = K (isZ t) := by
 rw [w1o fail fu hf, Lv.rows_len, Tm.rows_len]; rfl
structure Rp where
 err : Int
 hi : Int
 lo : Int
 fuel : Int
 cells : Int
 yes : Bool
 t : Tm
 params : Int
 ax : List ByteArray
def z1y (s : ByteArray) : List CV := [.v (.string s)]
abbrev RK14 (ρ : Type) := Int → Int → Int → Int → Int → Bool → Int → Int → ByteArray → EL → EL → Int → EL → Int → ρ
def rpOut {ρ : Type} : Option Rp → RK14 ρ → ρ
 | some r, K => K r.err r.hi r.lo r.fuel r.cells r.yes r.t.k r.t.n r.t.nm (Lv.rows r.t.ls) (Tm.rows r.t.args) r.params (r.ax.map z1y) 0
 | none, K => K 0 0 0 0 0 false 0 0 ⟨#[]⟩ nilE nilE 0 nilE 5
def Gd {ρ : Type} (p : RK14 ρ → ρ) (x : Option Rp) : Prop := ∀ K : RK14 ρ, p K = rpOut x K
def z6h (p : Nat) (bs : List UInt8) : Except Int (ByteArray × List UInt8 × Nat) := match rdTxt 24 bs with
 | .error e => .error e
 | .ok (s, r) => .ok (⟨s.toArray⟩, r, p)
def rdR5 (bs : List UInt8) : Option (Nat × List ByteArray) := match rdNum bs with
 | .error _ => none
 | .ok (pa, bs) => match rdNum bs with
  | .error _ => none
  | .ok (n, bs) => if 65536 < n then none else match many z6h n 0 bs with
   | .error _ => none
   | .ok (l, bs, _) => if bs.length = 0 then some (pa, l) else none
def rdR6 (has : Nat) (bs : List UInt8) : Option (Tm × Nat × List ByteArray) :=
 if has = 1 then (match z6g bs with
  | .error _ => none
  | .ok (t, bs) => if isZ t = true then none else match rdR5 bs with
   | none => none
   | some (pa, l) => some (t, pa, l))
 else match rdR5 bs with
  | none => none
  | some (pa, l) => some (tm0, pa, l)
def opt {α β : Type} (x : Except Int α) (f : α → Option β) : Option β := match x with | .ok a => f a | .error _ => none
def rdRep (bs : List UInt8) : Option Rp :=
 opt (rdNum bs) fun (err, bs) => opt (z3w bs) fun (hi, bs) => opt (z3w bs) fun (lo, bs) => opt (rdNum bs) fun (fuel, bs) => opt (rdNum bs) fun (cells, bs) =>
  opt (z3m 0 1 bs) fun (yes, bs) => opt (z3m 0 1 bs) fun (has, bs) => match rdR6 has bs with
   | none => none
   | some (t, pa, l) => some ⟨(err : Nat), (hi : Nat), (lo : Nat), (fuel : Nat), (cells : Nat), decide (yes = 1), t, (pa : Nat), l⟩
theorem w0a {bs r : List UInt8} {v : Nat} (h : z3w bs = .ok (v, r)) : v < 2 ^ 64 ∧ r.length < bs.length ∧ 8 ≤ bs.length ∧ v = be (bs.take 8) ∧ r = bs.drop 8 := by
 unfold z3w at h; split at h
 ·cases h
 ·injection h with h; injection h with h1 h2; subst h1 h2
  exact ⟨be_lt 8 _ (by rw [List.length_take]; omega), by rw [List.length_drop]; omega, by omega, rfl, rfl⟩
section
variable {ρ : Type} (fail : ρ) (fu : Nat)
section
variable (y1 y4 y7 y10 y13 : Int) (j21 : Bool) (t : Tm)
abbrev tail5 (y1 y4 y7 y10 y13 : Int) (j21 : Bool) (t : Tm) : Option (Nat × List ByteArray) → Option Rp
 | none => none
 | some (pa, l) => some ⟨y1, y4, y7, y10, y13, j21, t, (pa : Nat), l⟩
theorem k2z (hfu : 20 ≤ fu) (y30 : Int) (k n0 : Int) (nm : ByteArray) (L A : EL) : ∀ (r n : Nat) (bs : List UInt8) (p : Nat) (z : EL), bs.length ≤ 1099511627776 → z.length + r ≤ 1000000 → r < n →
  match many z6h r p bs with
  | .ok (l, bs', _) => ∀ K : RK14 ρ, p45_3L fail fu K y1 y4 y7 y10 y13 j21 k n0 nm L A y30 n (encB bs) 0 z ((r : Nat) : Int) = if bs'.length = 0 then K y1 y4 y7 y10 y13 j21 k n0 nm L A y30 (z ++ l.map z1y) 0 else rpOut none K
  | .error _ => ∀ K : RK14 ρ, p45_3L fail fu K y1 y4 y7 y10 y13 j21 k n0 nm L A y30 n (encB bs) 0 z ((r : Nat) : Int) = rpOut none K
 | 0, n + 1, bs, p, z, hb, hz, hn => by
  simp only [many]
  intro K
  rw [p45_3L, p45_3, gtrF (by omega), cond_false, p45_2, cond_false, neqF rfl, cond_false, z0f]
  by_cases h0 : bs.length = 0
  ·rw [gtrF (by omega), p45_1, cond_false, if_pos h0]; simp
  ·rw [gtrT (by omega), p45_1, cond_true, if_neg h0]; rfl
 | r + 1, n + 1, bs, p, z, hb, hz, hn => by
  have htx := w8f (ρ := ρ) fail fu (by omega) bs hb 24 (by omega)
  have step : ∀ K : RK14 ρ, p45_3L fail fu K y1 y4 y7 y10 y13 j21 k n0 nm L A y30 (n + 1) (encB bs) 0 z ((r + 1 : Nat) : Int) = p95 fail fu (fun y43 y44 y45 => tobP fail y43 (fun s46 => p45_3L fail fu K y1 y4 y7 y10 y13 j21 k n0 nm L A y30 n y44 y45 (z ++ [z1y s46]) ((r : Nat) : Int))) (encB bs) 0 ((24 : Nat) : Int) := fun K => by
   rw [p45_3L, p45_3, gtrT (by omega), cond_true, eqlT rfl, p45_2, cond_true]
   congr 1
   funext y43 y44 y45
   congr 1
   funext s46
   rw [gd_y (by simp), gd_y (by simp; omega), subZ (by omega) (by omega), show ((r + 1 : Nat) : Int) - 1 = ((r : Nat) : Int) by omega]
   rfl
  simp only [many]
  unfold z6h
  cases ht : rdTxt 24 bs with
  | error e =>
   rw [ht] at htx
   obtain ⟨he, B, hB⟩ := htx
   dsimp only at hB
   intro K
   rw [step, hB, show (nilE : EL) = encB [] from rfl, z5y]
   obtain ⟨n, rfl⟩ : ∃ n', n = n' + 1 := ⟨n - 1, by omega⟩
   rw [p45_3L, p45_3]
   by_cases h0 : r = 0
   ·rw [gtrF (by omega), cond_false, p45_2, cond_false, neqT he, cond_true, p45_1, cond_true]; rfl
   ·rw [gtrT (by omega), cond_true, eqlF he, p45_2, cond_false, neqT he, cond_true, p45_1, cond_true]; rfl
  | ok x =>
   obtain ⟨s, bs1⟩ := x
   have ht1 := z7y ht
   rw [ht] at htx
   simp only [SOut] at htx
   have ih := k2z hfu y30 k n0 nm L A r n bs1 p (z ++ [z1y ⟨s.toArray⟩]) (by omega) (by simp; omega) (by omega)
   dsimp only
   have hfold : many (fun p bs => match rdTxt 24 bs with | .error e => Except.error e | .ok (s, r) => .ok ((⟨s.toArray⟩ : ByteArray), r, p)) r p bs1 = many z6h r p bs1 := rfl
   rw [hfold]
   have h2 : ∀ K : RK14 ρ, p45_3L fail fu K y1 y4 y7 y10 y13 j21 k n0 nm L A y30 (n + 1) (encB bs) 0 z ((r + 1 : Nat) : Int) = p45_3L fail fu K y1 y4 y7 y10 y13 j21 k n0 nm L A y30 n (encB bs1) 0 (z ++ [z1y ⟨s.toArray⟩]) ((r : Nat) : Int) := fun K => by rw [step, htx, z5y]
   cases hm : many z6h r p bs1 with
   | error e => rw [hm] at ih; intro K; rw [h2, ih]
   | ok x =>
    obtain ⟨l, bs2, p2⟩ := x
    rw [hm] at ih
    intro K
    rw [h2, ih, List.append_assoc]; rfl
variable (hfu : 70000 ≤ fu)
include hfu
theorem w0w (k n0 : Int) (nm : ByteArray) (L A B : EL) (e : Int) (he : e ≠ 0) : Gd (fun K : RK14 ρ => p45_5 fail fu K y1 y4 y7 y10 y13 j21 B e k n0 nm L A) none := fun K => by
 dsimp only
 rw [p45_5, numE _ _ _ _ _ he, numE _ _ _ _ _ he, gtrF (by omega), cond_false, p45_4]
 obtain ⟨m, hm⟩ : ∃ m, fu = m + 1 := ⟨fu - 1, by omega⟩
 have : ∀ m', m' = m + 1 → p45_3L fail fu K y1 y4 y7 y10 y13 j21 k n0 nm L A 0 m' B e nilE 0 = rpOut none K := fun m' h => by
  subst h; rw [p45_3L, p45_3, gtrF (by omega), cond_false, p45_2, cond_false, neqT he, cond_true, p45_1, cond_true]; rfl
 exact this fu hm
theorem r5_rd (bs : List UInt8) (hb : bs.length ≤ 1099511627776) : Gd (fun K : RK14 ρ => p45_5 fail fu K y1 y4 y7 y10 y13 j21 (encB bs) 0 t.k t.n t.nm (Lv.rows t.ls) (Tm.rows t.args)) (tail5 y1 y4 y7 y10 y13 j21 t (rdR5 bs)) := by
 have hn1 := z7l (ρ := ρ) fail fu (by omega) bs hb
 obtain ⟨m, hm⟩ : ∃ m, fu = m + 1 := ⟨fu - 1, by omega⟩
 have dead : ∀ (K : RK14 ρ) (pa n : Int) (B : EL) (e : Int), e ≠ 0 → ∀ m', m' = m + 1 → p45_3L fail fu K y1 y4 y7 y10 y13 j21 t.k t.n t.nm (Lv.rows t.ls) (Tm.rows t.args) pa m' B e nilE n = rpOut none K := fun K pa n B e he m' h => by
  subst h; rw [p45_3L, p45_3]
  by_cases h0 : n > 0
  ·rw [gtrT h0, cond_true, eqlF he, p45_2, cond_false, neqT he, cond_true, p45_1, cond_true]; rfl
  ·rw [gtrF (by omega), cond_false, p45_2, cond_false, neqT he, cond_true, p45_1, cond_true]; rfl
 unfold rdR5
 cases h1 : rdNum bs with
 | error e =>
  rw [h1] at hn1
  obtain ⟨he, B, hB⟩ := hn1
  dsimp only at hB
  intro K
  dsimp only
  rw [p45_5, hB, numE _ _ _ _ _ he, gtrF (by omega), cond_false, p45_4]
  exact dead K _ _ B e he fu hm
 | ok x =>
  obtain ⟨pa, bs1⟩ := x
  have h1s := z1m h1
  rw [h1] at hn1
  simp only [KOut] at hn1
  have hn2 := z7l (ρ := ρ) fail fu (by omega) bs1 (by omega)
  dsimp only
  cases h2 : rdNum bs1 with
  | error e =>
   rw [h2] at hn2
   obtain ⟨he, B, hB⟩ := hn2
   dsimp only at hB
   intro K
   dsimp only
   rw [p45_5, hn1, hB, gtrF (by omega), cond_false, p45_4]
   exact dead K _ _ B e he fu hm
  | ok x =>
   obtain ⟨n, bs2⟩ := x
   have h2s := z1m h2
   rw [h2] at hn2
   simp only [KOut] at hn2
   dsimp only
   by_cases h6 : 65536 < n
   ·rw [if_pos h6]
    intro K
    dsimp only
    rw [p45_5, hn1, hn2, gtrT (by omega), cond_true, z2o, p45_4]
    exact dead K _ _ _ 5 (by decide) fu hm
   ·rw [if_neg h6]
    have := k2z fail fu y1 y4 y7 y10 y13 j21 (by omega) ((pa : Nat) : Int) t.k t.n t.nm (Lv.rows t.ls) (Tm.rows t.args) n fu bs2 0 nilE (by omega) (by simp; omega) (by omega)
    have hs : ∀ K : RK14 ρ, p45_5 fail fu K y1 y4 y7 y10 y13 j21 (encB bs) 0 t.k t.n t.nm (Lv.rows t.ls) (Tm.rows t.args) = p45_3L fail fu K y1 y4 y7 y10 y13 j21 t.k t.n t.nm (Lv.rows t.ls) (Tm.rows t.args) ((pa : Nat) : Int) fu (encB bs2) 0 nilE ((n : Nat) : Int) := fun K => by
     rw [p45_5, hn1, hn2, gtrF (by omega), cond_false, p45_4]
    cases hmn : many z6h n 0 bs2 with
    | error e => rw [hmn] at this; intro K; dsimp only; rw [hs, this]
    | ok x =>
     obtain ⟨l, bs3, q⟩ := x
     rw [hmn] at this
     intro K
     dsimp only
     rw [hs, this]
     by_cases h0 : bs3.length = 0
     ·rw [if_pos h0, if_pos h0]; rfl
     ·rw [if_neg h0, if_neg h0]
end
variable (hfu : 70000 ≤ fu)
include hfu
section
variable (y1 y4 y7 y10 y13 : Int) (j21 : Bool)
theorem r6_rd (has : Nat) (bs : List UInt8) (hb : bs.length ≤ 1099511627776) : Gd (fun K : RK14 ρ => bif (z0a .eql ((has : Nat) : Int) 1) then (p45_7 fail fu K y1 y4 y7 y10 y13 (encB bs) 0 j21 (z0a .eql (0 : Int) 0)) else (p45_7 fail fu K y1 y4 y7 y10 y13 (encB bs) 0 j21 false))
  (match rdR6 has bs with | none => none | some (t, pa, l) => some ⟨y1, y4, y7, y10, y13, j21, t, (pa : Nat), l⟩) := by
 unfold rdR6
 by_cases h1 : has = 1
 ·rw [if_pos h1]
  have htm := Term_rd (ρ := ρ) fail fu (by omega) bs hb
  have hs : ∀ K : RK14 ρ, (bif (z0a .eql ((has : Nat) : Int) 1) then (p45_7 fail fu K y1 y4 y7 y10 y13 (encB bs) 0 j21 (z0a .eql (0 : Int) 0)) else (p45_7 fail fu K y1 y4 y7 y10 y13 (encB bs) 0 j21 false)) = p65 fail fu (fun y50 y51 y52 y53 y54 y55 y56 => p86 fail fu (fun y57 => bif y57 then (p94 fail fu (fun y60 y61 => p45_6 fail fu K y1 y4 y7 y10 y13 j21 y50 y51 y52 y53 y54 y60 y61) y55 y56 5) else (p45_6 fail fu K y1 y4 y7 y10 y13 j21 y50 y51 y52 y53 y54 y55 y56)) y50 y51 y52 y53 y54 0 0 ⟨#[]⟩ nilE nilE) (encB bs) 0 := fun K => by
   rw [eqlT (show ((has : Nat) : Int) = 1 by omega), cond_true, eqlT rfl, p45_7, cond_true]
  cases htt : z6g bs with
  | error e =>
   rw [htt] at htm
   obtain ⟨he, a, b, c, l, g, B, hB⟩ := htm
   dsimp only at hB
   intro K
   dsimp only
   rw [hs, hB, w1o fail fu (by omega)]
   cases (decide (a = 0) && (decide (b = 0) && (decide (c.size = 0) && (decide (l.length = 0) && decide (g.length = 0))))) with
   | true => rw [cond_true, k0f _ _ _ _ _ _ he, p45_6]; exact w0w fail fu y1 y4 y7 y10 y13 j21 hfu _ _ _ _ _ _ e he K
   | false => rw [cond_false, p45_6]; exact w0w fail fu y1 y4 y7 y10 y13 j21 hfu _ _ _ _ _ _ e he K
  | ok x =>
   obtain ⟨t, bs1⟩ := x
   have hsub := w7e htt
   rw [htt] at htm
   simp only [TmO2] at htm
   have hz := fun K => w5m (ρ := ρ) fail fu (by omega) K t
   dsimp only
   by_cases c : isZ t = true
   ·rw [if_pos c]
    intro K
    dsimp only
    rw [hs, htm, hz, c, cond_true, z2o, p45_6]
    exact w0w fail fu y1 y4 y7 y10 y13 j21 hfu _ _ _ _ _ _ 5 (by decide) K
   ·rw [if_neg c]
    intro K
    dsimp only
    rw [hs, htm, hz, Bool.eq_false_iff.2 c, cond_false, p45_6]
    refine (r5_rd fail fu y1 y4 y7 y10 y13 j21 t hfu bs1 (by omega) K).trans ?_
    cases rdR5 bs1 <;> rfl
 ·rw [if_neg h1]
  intro K
  dsimp only
  rw [eqlF (by omega), cond_false, p45_7, cond_false]
  refine (r5_rd fail fu y1 y4 y7 y10 y13 j21 tm0 hfu bs hb K).trans ?_
  cases rdR5 bs <;> rfl
theorem w8z (has : Int) (y16 : Bool) (B : EL) (e : Int) (he : e ≠ 0) : Gd (fun K : RK14 ρ => bif (z0a .eql has 1) then (p45_7 fail fu K y1 y4 y7 y10 y13 B e y16 (z0a .eql e 0)) else (p45_7 fail fu K y1 y4 y7 y10 y13 B e y16 false)) none := fun K => by
 dsimp only
 rw [eqlF he]
 cases z0a .eql has 1 <;> (simp only [cond_true, cond_false]; rw [p45_7, cond_false]; exact w0w fail fu y1 y4 y7 y10 y13 y16 hfu _ _ _ _ _ B e he K)
end
def s7 (K0 : RK14 ρ) (y1 y4 y7 y10 y13 : Int) (y16 : Int) (B : EL) (e : Int) : ρ := p93 fail fu (fun y62 y63 y64 => bif (z0a .eql y62 1) then (p45_7 fail fu K0 y1 y4 y7 y10 y13 y63 y64 (z0a .eql y16 1) (z0a .eql y64 0)) else (p45_7 fail fu K0 y1 y4 y7 y10 y13 y63 y64 (z0a .eql y16 1) false)) B e 0 1
def s6 (K0 : RK14 ρ) (y1 y4 y7 y10 y13 : Int) (B : EL) (e : Int) : ρ := p93 fail fu (fun y16 y17 y18 => s7 fail fu K0 y1 y4 y7 y10 y13 y16 y17 y18) B e 0 1
def s5 (K0 : RK14 ρ) (y1 y4 y7 y10 : Int) (B : EL) (e : Int) : ρ := p91 fail fu (fun y13 y14 y15 => s6 fail fu K0 y1 y4 y7 y10 y13 y14 y15) B e
def s4 (K0 : RK14 ρ) (y1 y4 y7 : Int) (B : EL) (e : Int) : ρ := p91 fail fu (fun y10 y11 y12 => s5 fail fu K0 y1 y4 y7 y10 y11 y12) B e
def s3 (K0 : RK14 ρ) (y1 y4 : Int) (B : EL) (e : Int) : ρ := p92 fail fu (fun y7 y8 y9 => s4 fail fu K0 y1 y4 y7 y8 y9) B e
def s2 (K0 : RK14 ρ) (y1 : Int) (B : EL) (e : Int) : ρ := p92 fail fu (fun y4 y5 y6 => s3 fail fu K0 y1 y4 y5 y6) B e
omit hfu in
theorem take_s (K0 : RK14 ρ) (B : EL) : p45 fail fu K0 B = p91 fail fu (fun y1 y2 y3 => s2 fail fu K0 y1 y2 y3) B 0 := rfl
section
variable (B : EL) (e : Int) (he : e ≠ 0)
include he
theorem w8n (y1 y4 y7 y10 y13 y16 : Int) : Gd (fun K : RK14 ρ => s7 fail fu K y1 y4 y7 y10 y13 y16 B e) none := fun K =>
 (kindE fail fu _ B e he 0 1 (by decide) (by decide)).trans (w8z fail fu hfu y1 y4 y7 y10 y13 _ _ B e he K)
theorem w8o (y1 y4 y7 y10 y13 : Int) : Gd (fun K : RK14 ρ => s6 fail fu K y1 y4 y7 y10 y13 B e) none := fun K =>
 (kindE fail fu _ B e he 0 1 (by decide) (by decide)).trans (w8n fail fu hfu B e he y1 y4 y7 y10 y13 _ K)
theorem w8p (y1 y4 y7 y10 : Int) : Gd (fun K : RK14 ρ => s5 fail fu K y1 y4 y7 y10 B e) none := fun K =>
 (numE fail fu _ B e he).trans (w8o fail fu hfu B e he y1 y4 y7 y10 _ K)
theorem w8q (y1 y4 y7 : Int) : Gd (fun K : RK14 ρ => s4 fail fu K y1 y4 y7 B e) none := fun K =>
 (numE fail fu _ B e he).trans (w8p fail fu hfu B e he y1 y4 y7 _ K)
theorem w8r (y1 y4 : Int) : Gd (fun K : RK14 ρ => s3 fail fu K y1 y4 B e) none := fun K =>
 (k2v fail fu _ B e he).trans (w8q fail fu hfu B e he y1 y4 _ K)
theorem s2_dead (y1 : Int) : Gd (fun K : RK14 ρ => s2 fail fu K y1 B e) none := fun K =>
 (k2v fail fu _ B e he).trans (w8r fail fu hfu B e he y1 _ K)
end
omit hfu in
theorem Gd.step {q : (Int → EL → Int → ρ) → ρ} {j : Int} {x : Except Int (Nat × List UInt8)} (h : KOut q j x) {c : RK14 ρ → Int → EL → Int → ρ} {f : Nat × List UInt8 → Option Rp} (h1 : ∀ v r, x = .ok (v, r) → Gd (fun K => c K (v : Nat) (encB r) 0) (f (v, r))) (h2 : ∀ B e, e ≠ 0 → Gd (fun K => c K j B e) none) : Gd (fun K => q (c K)) (opt x f) := by
 cases x with
 | error e =>
  obtain ⟨he, B, hB⟩ := h
  intro K
  exact (hB _).trans (h2 B e he K)
 | ok x =>
  obtain ⟨v, r⟩ := x
  intro K
  exact (h _).trans (h1 v r rfl K)
theorem take_eq (bs : List UInt8) (hb : bs.length ≤ 1099511627776) : Gd (fun K : RK14 ρ => p45 fail fu K (encB bs)) (rdRep bs) := by
 have e1 : ∀ K : RK14 ρ, p45 fail fu K (encB bs) = _ := fun K => take_s fail fu K (encB bs)
 have := Gd.step (z7l (ρ := ρ) fail fu (by omega) bs hb) (c := fun K y1 y2 y3 => s2 fail fu K y1 y2 y3) (f := fun (err, bs) => opt (z3w bs) fun (hi, bs) => opt (z3w bs) fun (lo, bs) => opt (rdNum bs) fun (fuel, bs) => opt (rdNum bs) fun (cells, bs) =>
  opt (z3m 0 1 bs) fun (yes, bs) => opt (z3m 0 1 bs) fun (has, bs) => match rdR6 has bs with
   | none => none
   | some (t, pa, l) => some ⟨(err : Nat), (hi : Nat), (lo : Nat), (fuel : Nat), (cells : Nat), decide (yes = 1), t, (pa : Nat), l⟩) (fun err b1 h1 => ?_) (fun B e he => s2_dead fail fu hfu B e he _)
 ·exact this
 have l1 := (z1m h1).2.1
 refine Gd.step (w6m (ρ := ρ) fail fu (by omega) b1 (by omega)) (c := fun K y1 y2 y3 => s3 fail fu K (err : Nat) y1 y2 y3) (fun hi b2 h2 => ?_) (fun B e he => w8r fail fu hfu B e he _ _)
 have l2 := (w0a h2).2.1
 refine Gd.step (w6m (ρ := ρ) fail fu (by omega) b2 (by omega)) (c := fun K y1 y2 y3 => s4 fail fu K (err : Nat) (hi : Nat) y1 y2 y3) (fun lo b3 h3 => ?_) (fun B e he => w8q fail fu hfu B e he _ _ _)
 have l3 := (w0a h3).2.1
 refine Gd.step (z7l (ρ := ρ) fail fu (by omega) b3 (by omega)) (c := fun K y1 y2 y3 => s5 fail fu K (err : Nat) (hi : Nat) (lo : Nat) y1 y2 y3) (fun fuel b4 h4 => ?_) (fun B e he => w8p fail fu hfu B e he _ _ _ _)
 have l4 := (z1m h4).2.1
 refine Gd.step (z7l (ρ := ρ) fail fu (by omega) b4 (by omega)) (c := fun K y1 y2 y3 => s6 fail fu K (err : Nat) (hi : Nat) (lo : Nat) (fuel : Nat) y1 y2 y3) (fun cells b5 h5 => ?_) (fun B e he => w8o fail fu hfu B e he _ _ _ _ _)
 have l5 := (z1m h5).2.1
 refine Gd.step (w1f (ρ := ρ) fail fu (by omega) b5 (by omega) 0 1 (by decide) (by decide)) (c := fun K y1 y2 y3 => s7 fail fu K (err : Nat) (hi : Nat) (lo : Nat) (fuel : Nat) (cells : Nat) y1 y2 y3) (fun yes b6 h6 => ?_) (fun B e he => w8n fail fu hfu B e he _ _ _ _ _ _)
 have l6 := (z2n h6).2.2.1
 have hy : z0a .eql ((yes : Nat) : Int) 1 = decide (yes = 1) := by
  by_cases q : yes = 1
  ·rw [eqlT (by omega), decide_eq_true q]
  ·rw [eqlF (by omega), decide_eq_false q]
 refine Gd.step (w1f (ρ := ρ) fail fu (by omega) b6 (by omega) 0 1 (by decide) (by decide)) (c := fun K y62 y63 y64 => bif (z0a .eql y62 1) then (p45_7 fail fu K (err : Nat) (hi : Nat) (lo : Nat) (fuel : Nat) (cells : Nat) y63 y64 (z0a .eql ((yes : Nat) : Int) 1) (z0a .eql y64 0)) else (p45_7 fail fu K (err : Nat) (hi : Nat) (lo : Nat) (fuel : Nat) (cells : Nat) y63 y64 (z0a .eql ((yes : Nat) : Int) 1) false)) (fun has b7 h7 => ?_) (fun B e he => w8z fail fu hfu _ _ _ _ _ _ _ B e he)
 have l7 := (z2n h7).2.2.1
 rw [hy]
 exact r6_rd fail fu hfu _ _ _ _ _ _ has b7 (by omega)
end
def p136_1 {ρ : Type} (fail : ρ) (fu : Nat) (K0 : Int → ρ) (x0 : Int) (j2 : Bool) : ρ :=
 bif j2 then (K0 2) else (bif (z0a .eql x0 6) then (K0 3) else (K0 (-1)))
def p136_2 {ρ : Type} (fail : ρ) (fu : Nat) (K0 : Int → ρ) (x0 : Int) (j3 : Bool) : ρ :=
 p136_1 fail fu K0 x0 j3
def p136_3 {ρ : Type} (fail : ρ) (fu : Nat) (K0 : Int → ρ) (x0 : Int) (j1 : Bool) : ρ :=
 bif j1 then (K0 0) else (bif (z0a .eql x0 3) then (p136_1 fail fu K0 x0 (z0a .eql x0 3)) else (bif (z0a .eql x0 4) then (p136_2 fail fu K0 x0 (z0a .eql x0 4)) else (p136_2 fail fu K0 x0 (z0a .eql x0 5))))
def p136_4 {ρ : Type} (fail : ρ) (fu : Nat) (K0 : Int → ρ) (x0 : Int) (j4 : Bool) : ρ :=
 p136_3 fail fu K0 x0 j4
def p136 {ρ : Type} (fail : ρ) (fu : Nat) (K0 : Int → ρ) (x0 : Int) : ρ :=
 bif (z0a .eql x0 0) then (p136_3 fail fu K0 x0 (z0a .eql x0 0)) else (bif (z0a .eql x0 1) then (p136_4 fail fu K0 x0 (z0a .eql x0 1)) else (p136_4 fail fu K0 x0 (z0a .eql x0 2)))
theorem d_p136 (fu : Nat) {K0 : Int → Prop} (L : EL → Nat) (hN : L = List.length) {x0 : Int} (h : p136 False fu K0 x0) : Den Try.prog G0 136 [.c (.v (.int .i64 x0))] (fun r bs => (∃ (y0 : Int) (o0 : OV),(r = .c (.v (.int .i64 y0)) ∧ bs = [o0]) ∧ K0 y0)) := by
 obtain ⟨O,hO⟩ : ∃ O,O = std 0 T G0 (Den Try.prog G0) := ⟨_,rfl⟩
 have hLO : L = O.len := by rw [hN,hO]; rfl
 subst hLO
 refine den_h hO tiA mixed tabOk (fn := Try.f136) (sh := true) (by kernel_rfl) rfl rfl rfl rfl ?_
 intro Q hQ
 unfold p136 at h
 conv => cbv
 refine z0h hO tiA h (by subst hO; rfl) [3,4] [] [] (fun tm m => ∃ (j1 : Bool),((tm = frame 0 14 [(3,.c (.v (.int .i64 x0))),(4,.c (.v (.bool j1)))] ∧ m = ⟨[],1⟩)) ∧ p136_3 False fu K0 x0 j1) (fun hc6 h L hL_3 => ?_) (fun hc6 h L hL_3 => ?_) ?_
 conv => cbv
 exact hL_3 _ _ ⟨(z0a .eql x0 0),⟨(by (conv => lhs; cbv) <;> (subst hO; rfl)),(by (conv => lhs; cbv) <;> (subst hO; rfl))⟩,h⟩
 conv => cbv
 refine z0h hO tiA h (by subst hO; rfl) [3,4] [] [] (fun tm m => ∃ (j4 : Bool),((tm = frame 0 14 [(3,.c (.v (.int .i64 x0))),(4,.c (.v (.bool j4)))] ∧ m = ⟨[],1⟩)) ∧ p136_4 False fu K0 x0 j4) (fun hc7 h L hL_4 => ?_) (fun hc7 h L hL_4 => ?_) ?_
 conv => cbv
 exact hL_4 _ _ ⟨(z0a .eql x0 1),⟨(by (conv => lhs; cbv) <;> (subst hO; rfl)),(by (conv => lhs; cbv) <;> (subst hO; rfl))⟩,h⟩
 conv => cbv
 exact hL_4 _ _ ⟨(z0a .eql x0 2),⟨(by (conv => lhs; cbv) <;> (subst hO; rfl)),(by (conv => lhs; cbv) <;> (subst hO; rfl))⟩,h⟩
 rintro tm m ⟨j4,hs,h⟩
 unfold p136_4 at h
 obtain ⟨rfl,rfl⟩ := hs
 conv => cbv
 exact hL_3 _ _ ⟨j4,⟨(by (conv => lhs; cbv) <;> (subst hO; rfl)),(by (conv => lhs; cbv) <;> (subst hO; rfl))⟩,h⟩
 rintro tm m ⟨j1,hs,h⟩
 unfold p136_3 at h
 obtain ⟨rfl,rfl⟩ := hs
 conv => cbv
 refine br_h hO h (by subst hO; rfl) (fun hc1 h => ?_) (fun hc1 h => ?_)
 conv => cbv
 rw [hQ]
 exact ⟨0,_,⟨(by subst hO; rfl),(by subst hO; rfl)⟩,h⟩
 conv => cbv
 refine z0h hO tiA h (by subst hO; rfl) [3,8] [] [] (fun tm m => ∃ (j2 : Bool),((tm = frame 0 14 [(3,.c (.v (.int .i64 x0))),(8,.c (.v (.bool j2)))] ∧ m = ⟨[],1⟩)) ∧ p136_1 False fu K0 x0 j2) (fun hc4 h L hL_1 => ?_) (fun hc4 h L hL_1 => ?_) ?_
 conv => cbv
 exact hL_1 _ _ ⟨(z0a .eql x0 3),⟨(by (conv => lhs; cbv) <;> (subst hO; rfl)),(by (conv => lhs; cbv) <;> (subst hO; rfl))⟩,h⟩
 conv => cbv
 refine z0h hO tiA h (by subst hO; rfl) [3,8] [] [] (fun tm m => ∃ (j3 : Bool),((tm = frame 0 14 [(3,.c (.v (.int .i64 x0))),(8,.c (.v (.bool j3)))] ∧ m = ⟨[],1⟩)) ∧ p136_2 False fu K0 x0 j3) (fun hc5 h L hL_2 => ?_) (fun hc5 h L hL_2 => ?_) ?_
 conv => cbv
 exact hL_2 _ _ ⟨(z0a .eql x0 4),⟨(by (conv => lhs; cbv) <;> (subst hO; rfl)),(by (conv => lhs; cbv) <;> (subst hO; rfl))⟩,h⟩
 conv => cbv
 exact hL_2 _ _ ⟨(z0a .eql x0 5),⟨(by (conv => lhs; cbv) <;> (subst hO; rfl)),(by (conv => lhs; cbv) <;> (subst hO; rfl))⟩,h⟩
 rintro tm m ⟨j3,hs,h⟩
 unfold p136_2 at h
 obtain ⟨rfl,rfl⟩ := hs
 conv => cbv
 exact hL_1 _ _ ⟨j3,⟨(by (conv => lhs; cbv) <;> (subst hO; rfl)),(by (conv => lhs; cbv) <;> (subst hO; rfl))⟩,h⟩
 rintro tm m ⟨j2,hs,h⟩
 unfold p136_1 at h
 obtain ⟨rfl,rfl⟩ := hs
 conv => cbv
 refine br_h hO h (by subst hO; rfl) (fun hc2 h => ?_) (fun hc2 h => ?_)
 conv => cbv
 rw [hQ]
 exact ⟨2,_,⟨(by subst hO; rfl),(by subst hO; rfl)⟩,h⟩
 conv => cbv
 refine br_h hO h (by subst hO; rfl) (fun hc3 h => ?_) (fun hc3 h => ?_)
 conv => cbv
 rw [hQ]
 exact ⟨3,_,⟨(by subst hO; rfl),(by subst hO; rfl)⟩,h⟩
 conv => cbv
 refine z0b hO ?_
 conv => cbv
 refine z0b hO ?_
 conv => cbv
 refine z0b hO ?_
 conv => cbv
 rw [hQ]
 exact ⟨(-1),_,⟨(by subst hO; rfl),(by subst hO; rfl)⟩,h⟩
def nkN (k : Nat) : Nat := if k ≤ 2 then 0 else tmN k
theorem k1p {ρ : Type} (fail : ρ) (fu : Nat) (K : Int → ρ) (k : Nat) (h : k ≤ 6) : p136 fail fu K ((k : Nat) : Int) = K ((nkN k : Nat) : Int) := by
 have : k = 0 ∨ k = 1 ∨ k = 2 ∨ k = 3 ∨ k = 4 ∨ k = 5 ∨ k = 6 := by omega
 rcases this with rfl | rfl | rfl | rfl | rfl | rfl | rfl <;> rfl
def lowB : Nat → Nat → List UInt8
 | 0, _ => []
 | m + 1, v => lowB m (v / 256) ++ [UInt8.ofNat (v % 256)]
theorem z6m : ∀ m v, (lowB m v).length = m
 | 0, _ => rfl
 | m + 1, v => by simp [lowB, z6m m]
theorem be_lowB : ∀ (m v : Nat), v < 256 ^ m → be (lowB m v) = v := by
 intro m
 induction m with
 | zero => intro v h; simp at h; subst h; rfl
 | succ m ih =>
  intro v h
  rw [lowB, w5d, ih (v / 256) (by rw [Nat.pow_succ] at h; exact Nat.div_lt_of_lt_mul (by rw [Nat.mul_comm]; exact h)), w8c (by omega)]
  omega
theorem z9u (s : ByteArray) : z2f .neq s s = false := by simp [z2f]
theorem lv_same {ρ : Type} (fail : ρ) : ∀ (N : Nat) (l : Lv), l.sz ≤ N → ∀ (fu : Nat) (K : Bool → ρ), l.sz + 20 ≤ fu → l.sz < 1099511627776 → p37 fail fu K l.k l.n (Lv.rows l.args) l.k l.n (Lv.rows l.args) = K true := by
 intro N
 induction N with
 | zero => intro l h; cases l; simp [Lv.sz] at h
 | succ N ih =>
  intro l hN fu K hf hsz
  obtain ⟨k, n, l⟩ := l
  obtain ⟨m, rfl⟩ : ∃ m, fu = m + 1 := ⟨fu - 1, by omega⟩
  simp only [Lv.sz] at hN hf hsz
  simp only [Lv.k, Lv.n, Lv.args]
  have hl := Lv.szs_len l
  rw [p37, p37_b]
  generalize hs : p37 fail m = s
  have loop : ∀ (r i j : Nat), i + r = l.length → r < j → p37_1L fail m s K (Lv.rows l) (Lv.rows l) j ((i : Nat) : Int) = K true := by
   intro r
   induction r with
   | zero =>
    intro i j hi hj
    obtain ⟨j, rfl⟩ : ∃ j', j = j' + 1 := ⟨j - 1, by omega⟩
    rw [p37_1L, p37_1, Lv.rows_len, lssF (by omega), cond_false]
   | succ r ihr =>
    intro i j hi hj
    obtain ⟨j, rfl⟩ : ∃ j', j = j' + 1 := ⟨j - 1, by omega⟩
    have hlt : i < l.length := by omega
    have h3 := Lv.szs_mem (List.getElem_mem hlt)
    have h4 := ih l[i] (by omega) m (fun y9 => bif (!y9) then (K false) else (p37_1L fail m s K (Lv.rows l) (Lv.rows l) j (z0d .add .i64 ((i : Nat) : Int) 1))) (by omega) (by omega)
    rw [hs] at h4
    rw [p37_1L, p37_1, Lv.rows_len, lssT (by omega), cond_true, gd_y (by omega), gd_y (by omega), z4y fail l i hlt, gd_y (by omega), gd_y (by omega), z4y fail l i hlt, h4, Bool.not_true, cond_false, addZ (by omega) (by omega), show ((i : Nat) : Int) + 1 = ((i + 1 : Nat) : Int) by omega]
    exact ihr (i + 1) j (by omega) (by omega)
  rw [neqF rfl, cond_false, neqF rfl, cond_false, neqF rfl, p37_2, cond_false]
  exact loop l.length 0 m (by omega) (by omega)
theorem tm_same {ρ : Type} (fail : ρ) : ∀ (N : Nat) (t : Tm), t.sz ≤ N → ∀ (fu : Nat) (K : Bool → ρ), t.sz + 30 ≤ fu → t.sz < 1099511627776 → p19 fail fu K t.k t.n t.nm (Lv.rows t.ls) (Tm.rows t.args) t.k t.n t.nm (Lv.rows t.ls) (Tm.rows t.args) = K true := by
 intro N
 induction N with
 | zero => intro l h; cases l; simp [Tm.sz] at h
 | succ N ih =>
  intro t hN fu K hf hsz
  obtain ⟨k, n, sn, l, a⟩ := t
  obtain ⟨m, rfl⟩ : ∃ m, fu = m + 1 := ⟨fu - 1, by omega⟩
  simp only [Tm.sz] at hN hf hsz
  simp only [Tm.k, Tm.n, Tm.nm, Tm.ls, Tm.args]
  have hl := Lv.szs_len l
  have ha := Tm.szs_len a
  rw [p19, p19_b]
  generalize hs : p19 fail m = s
  have loop : ∀ (r i j : Nat), i + r = a.length → r < j → p19_1L fail m s K (Tm.rows a) (Tm.rows a) j ((i : Nat) : Int) = K true := by
   intro r
   induction r with
   | zero =>
    intro i j hi hj
    obtain ⟨j, rfl⟩ : ∃ j', j = j' + 1 := ⟨j - 1, by omega⟩
    rw [p19_1L, p19_1, Tm.rows_len, lssF (by omega), cond_false]
   | succ r ihr =>
    intro i j hi hj
    obtain ⟨j, rfl⟩ : ∃ j', j = j' + 1 := ⟨j - 1, by omega⟩
    have hlt : i < a.length := by omega
    have h3 := Tm.szs_mem (List.getElem_mem hlt)
    have h4 := ih a[i] (by omega) m (fun y9 => bif (!y9) then (K false) else (p19_1L fail m s K (Tm.rows a) (Tm.rows a) j (z0d .add .i64 ((i : Nat) : Int) 1))) (by omega) (by omega)
    rw [hs] at h4
    rw [p19_1L, p19_1, Tm.rows_len, lssT (by omega), cond_true, gd_y (by omega), gd_y (by omega), z5j fail a i hlt, gd_y (by omega), gd_y (by omega), z5j fail a i hlt, h4, Bool.not_true, cond_false, addZ (by omega) (by omega), show ((i : Nat) : Int) + 1 = ((i + 1 : Nat) : Int) by omega]
    exact ihr (i + 1) j (by omega) (by omega)
  have loop2 : ∀ (r i j : Nat), i + r = l.length → r < j → p19_2L fail m s K (Lv.rows l) (Tm.rows a) (Lv.rows l) (Tm.rows a) j ((i : Nat) : Int) = K true := by
   intro r
   induction r with
   | zero =>
    intro i j hi hj
    obtain ⟨j, rfl⟩ : ∃ j', j = j' + 1 := ⟨j - 1, by omega⟩
    rw [p19_2L, p19_2, Lv.rows_len, lssF (by omega), cond_false]
    exact loop a.length 0 m (by omega) (by omega)
   | succ r ihr =>
    intro i j hi hj
    obtain ⟨j, rfl⟩ : ∃ j', j = j' + 1 := ⟨j - 1, by omega⟩
    have hlt : i < l.length := by omega
    have h3 := Lv.szs_mem (List.getElem_mem hlt)
    rw [p19_2L, p19_2, Lv.rows_len, lssT (by omega), cond_true, gd_y (by omega), gd_y (by omega), z4y fail l i hlt, gd_y (by omega), gd_y (by omega), z4y fail l i hlt, lv_same fail _ l[i] (Nat.le_refl _) m _ (by omega) (by omega), Bool.not_true, cond_false, addZ (by omega) (by omega), show ((i : Nat) : Int) + 1 = ((i + 1 : Nat) : Int) by omega]
    exact ihr (i + 1) j (by omega) (by omega)
  rw [neqF rfl, cond_false, neqF rfl, cond_false, z9u, cond_false, neqF rfl, cond_false, neqF rfl, p19_3, cond_false]
  exact loop2 l.length 0 m (by omega) (by omega)
theorem w2r (s : ByteArray) : z2f .neq s ⟨#[]⟩ = !decide (s.size = 0) := by
 rw [← w5p]; rfl
theorem w4c {ρ : Type} (fail : ρ) (l : List ByteArray) (i : Nat) (h : i < l.length) (k : ByteArray → ρ) : rw_s fail (List.getD (l.map z1y) (((i : Nat) : Int)).toNat []) k = k l[i] := by
 rw [Int.toNat_natCast, List.getD, List.getElem?_map, List.getElem?_eq_getElem h]; rfl
theorem w7h {ρ : Type} (fail : ρ) (fu : Nat) (K : Bool → ρ) (l : List ByteArray) (hf : l.length + 5 ≤ fu) (hl : l.length < 1099511627776) : p130 fail fu K (l.map z1y) (l.map z1y) = K true := by
 have loop : ∀ (r i j : Nat), i + r = l.length → r < j → p130_1L fail fu K (l.map z1y) (l.map z1y) j ((i : Nat) : Int) = K true := by
  intro r
  induction r with
  | zero =>
   intro i j hi hj
   obtain ⟨j, rfl⟩ : ∃ j', j = j' + 1 := ⟨j - 1, by omega⟩
   rw [p130_1L, p130_1, List.length_map, lssF (by omega), cond_false]
  | succ r ihr =>
   intro i j hi hj
   obtain ⟨j, rfl⟩ : ∃ j', j = j' + 1 := ⟨j - 1, by omega⟩
   have hlt : i < l.length := by omega
   rw [p130_1L, p130_1, List.length_map, lssT (by omega), cond_true, gd_y (by omega), gd_y (by omega), w4c fail l i hlt, gd_y (by omega), gd_y (by omega), w4c fail l i hlt, z9u, cond_false, addZ (by omega) (by omega), show ((i : Nat) : Int) + 1 = ((i + 1 : Nat) : Int) by omega]
   exact ihr (i + 1) j (by omega) (by omega)
 rw [p130, neqF rfl, cond_false]
 exact loop l.length 0 fu (by omega) (by omega)
theorem z9y {ρ : Type} (fail : ρ) (fu : Nat) (K : Bool → ρ) (r : Rp) (h1 : r.t.sz + 30 ≤ fu) (h2 : r.t.sz < 1099511627776) (h3 : r.ax.length + 5 ≤ fu) (h4 : r.ax.length < 1099511627776) :
  p47 fail fu K r.err r.hi r.lo r.fuel r.cells r.yes r.t.k r.t.n r.t.nm (Lv.rows r.t.ls) (Tm.rows r.t.args) r.params (r.ax.map z1y) r.err r.hi r.lo r.fuel r.cells r.yes r.t.k r.t.n r.t.nm (Lv.rows r.t.ls) (Tm.rows r.t.args) r.params (r.ax.map z1y) = K true := by
 have hb : (r.yes == r.yes) = true := by simp
 have hh : ((z0a .eql r.hi r.hi) && ((z0a .eql r.lo r.lo) && true)) = true := by rw [eqlT rfl, eqlT rfl]; rfl
 rw [p47, p99, eqlT rfl, cond_true, hh, cond_true, eqlT rfl, cond_true, eqlT rfl, cond_true, hb, cond_true, eqlT rfl, cond_true, tm_same fail _ r.t (Nat.le_refl _) fu _ h1 h2, cond_true, w7h fail fu _ r.ax h3 h4, p99_1]
def axB : List ByteArray → List UInt8
 | [] => []
 | s :: l => txB s ++ axB l
def axSz : List ByteArray → Nat
 | [] => 0
 | s :: l => 1 + s.size + axSz l
def rpEnc (err : Int) (hi lo : Nat) (fuel cells : Int) (yes : Bool) (t : Tm) (pa : Int) (ax : List ByteArray) : List UInt8 :=
 varB (uv err) ++ (lowB 8 hi ++ (lowB 8 lo ++ (varB (uv fuel) ++ (varB (uv cells) ++ (varB (if yes then 1 else 0) ++ ((if isZ t = true then varB 0 else varB 1 ++ t.enc) ++ (varB (uv pa) ++ (varB ax.length ++ axB ax))))))))
theorem w1j : ∀ l : List ByteArray, l.length ≤ axSz l
 | [] => Nat.zero_le _
 | a :: l => by have := w1j l; simp only [axSz, List.length_cons]; omega
theorem w6r : ∀ {l : List ByteArray} {a : ByteArray}, a ∈ l → a.size ≤ axSz l
 | b :: l, a, h => by
  simp only [axSz]
  rcases List.mem_cons.1 h with rfl | h
  ·omega
  ·have := w6r h; omega
def p108_1 {ρ : Type} (fail : ρ) (fu : Nat) (K0 : Bool → ρ) (j2 : Bool) : ρ :=
 K0 j2
def p108_2 {ρ : Type} (fail : ρ) (fu : Nat) (K0 : Bool → ρ) (x0 : Int) (x3 : EL) (j1 : Bool) : ρ :=
 bif j1 then (K0 false) else (bif (z0a .eql x0 2) then (p108_1 fail fu K0 true) else (bif (z0a .eql x0 1) then (bif (z0a .eql ((x3.length : Nat) : Int) 1) then (p108_1 fail fu K0 true) else (p108_1 fail fu K0 false)) else (p108_1 fail fu K0 (z0a .eql ((x3.length : Nat) : Int) 0))))
def p108 {ρ : Type} (fail : ρ) (fu : Nat) (K0 : Bool → ρ) (x0 x1 : Int) (x2 : ByteArray) (x3 x4 : EL) : ρ :=
 p136 fail fu (fun y3 => bif (z0a .neq y3 ((x4.length : Nat) : Int)) then (p108_2 fail fu K0 x0 x3 true) else (bif (z0a .neq x0 0) then (bif (z0a .neq x1 0) then (p108_2 fail fu K0 x0 x3 true) else (bif (z0a .lss x1 0) then (p108_2 fail fu K0 x0 x3 true) else (bif (z0a .gtr x1 1073741824) then (p108_2 fail fu K0 x0 x3 true) else (bif (z0a .neq x0 2) then (p108_2 fail fu K0 x0 x3 (z2f .neq x2 ⟨#[]⟩)) else (p108_2 fail fu K0 x0 x3 false))))) else (bif (z0a .lss x1 0) then (p108_2 fail fu K0 x0 x3 true) else (bif (z0a .gtr x1 1073741824) then (p108_2 fail fu K0 x0 x3 true) else (bif (z0a .neq x0 2) then (p108_2 fail fu K0 x0 x3 (z2f .neq x2 ⟨#[]⟩)) else (p108_2 fail fu K0 x0 x3 false)))))) x0
def p59_1 {ρ : Type} (fail : ρ) (fu : Nat) (s_p59 : (Int → Bool → ρ) → Int → Int → ByteArray → EL → EL → Int → ρ) (K0 : Int → Bool → ρ) (rec1 : Int → Int → ρ) (x4 : EL) (z3 z4 : Int) : ρ :=
 bif (z0a .lss z4 ((x4.length : Nat) : Int)) then (gd ((0 : Int) ≤ z4) fail (gd ((z4 : Int) < (x4.length : Nat)) fail (z0j fail (List.getD x4 ((z4 : Int).toNat) []) (fun c5 c6 c7 c8 c9 => s_p59 (fun y10 y11 => bif (!y11) then (K0 (-1) false) else (rec1 y10 (z0d .add .i64 z4 1))) c5 c6 c7 c8 c9 z3)))) else (K0 z3 true)
def p59_1L {ρ : Type} (fail : ρ) (fu : Nat) (s_p59 : (Int → Bool → ρ) → Int → Int → ByteArray → EL → EL → Int → ρ) (K0 : Int → Bool → ρ) (x4 : EL) : Nat → Int → Int → ρ
 | 0,_,_ => fail
 | n + 1,z3,z4 => p59_1 fail fu s_p59 K0 (p59_1L fail fu s_p59 K0 x4 n) x4 z3 z4
def p59_2 {ρ : Type} (fail : ρ) (fu : Nat) (s_p59 : (Int → Bool → ρ) → Int → Int → ByteArray → EL → EL → Int → ρ) (K0 : Int → Bool → ρ) (x4 : EL) (j1 : Int) (j2 : Bool) : ρ :=
 bif j2 then (K0 (-1) false) else (p59_1L fail fu s_p59 K0 x4 fu j1 0)
def p59_b {ρ : Type} (fail : ρ) (fu : Nat) (s_p59 : (Int → Bool → ρ) → Int → Int → ByteArray → EL → EL → Int → ρ) (K0 : Int → Bool → ρ) (x0 x1 : Int) (x2 : ByteArray) (x3 x4 : EL) (x5 : Int) : ρ :=
 bif (z0a .lss (z0d .sub .i64 x5 1) 0) then (p59_2 fail fu s_p59 K0 x4 (z0d .sub .i64 x5 1) true) else (p108 fail fu (fun y12 => p59_2 fail fu s_p59 K0 x4 (z0d .sub .i64 x5 1) (!y12)) x0 x1 x2 x3 x4)
def p59 {ρ : Type} (fail : ρ) : Nat → (Int → Bool → ρ) → Int → Int → ByteArray → EL → EL → Int → ρ
 | 0,_,_,_,_,_,_,_ => fail
 | n + 1,K0,x0,x1,x2,x3,x4,x5 => p59_b fail n (p59 fail n) K0 x0 x1 x2 x3 x4 x5
def p60_1 {ρ : Type} (fail : ρ) (fu : Nat) (s_p60 : (Int → ρ) → Int → Int → ByteArray → EL → EL → Int → ρ) (K0 : Int → ρ) (rec1 : Int → Int → Int → ρ) (x4 : EL) (z1 z2 z3 : Int) : ρ :=
 bif (z0a .lss z3 ((x4.length : Nat) : Int)) then (gd ((0 : Int) ≤ z3) fail (gd ((z3 : Int) < (x4.length : Nat)) fail (z0j fail (List.getD x4 ((z3 : Int).toNat) []) (fun c4 c5 c6 c7 c8 => s_p60 (fun y9 => rec1 z1 (if y9 > z2 then y9 else z2) (z0d .add .i64 z3 1)) c4 c5 c6 c7 c8 (z0d .sub .i64 z1 1))))) else (K0 (z0d .add .i64 z2 1))
def p60_1L {ρ : Type} (fail : ρ) (fu : Nat) (s_p60 : (Int → ρ) → Int → Int → ByteArray → EL → EL → Int → ρ) (K0 : Int → ρ) (x4 : EL) : Nat → Int → Int → Int → ρ
 | 0,_,_,_ => fail
 | n + 1,z1,z2,z3 => p60_1 fail fu s_p60 K0 (p60_1L fail fu s_p60 K0 x4 n) x4 z1 z2 z3
def p60_b {ρ : Type} (fail : ρ) (fu : Nat) (s_p60 : (Int → ρ) → Int → Int → ByteArray → EL → EL → Int → ρ) (K0 : Int → ρ) (x0 x1 : Int) (x2 : ByteArray) (x3 x4 : EL) (x5 : Int) : ρ :=
 bif (z0a .eql (if 0 > x5 then 0 else x5) 0) then (K0 1) else (p60_1L fail fu s_p60 K0 x4 fu (if 0 > x5 then 0 else x5) 0 0)
def p60 {ρ : Type} (fail : ρ) : Nat → (Int → ρ) → Int → Int → ByteArray → EL → EL → Int → ρ
 | 0,_,_,_,_,_,_,_ => fail
 | n + 1,K0,x0,x1,x2,x3,x4,x5 => p60_b fail n (p60 fail n) K0 x0 x1 x2 x3 x4 x5
def p111_1 {ρ : Type} (fail : ρ) (fu : Nat) (s_p111 : (Int → ρ) → Int → Int → EL → Int → ρ) (K0 : Int → ρ) (rec1 : Int → Int → ρ) (x2 : EL) (x3 z1 z2 : Int) (j3 : Bool) : ρ :=
 bif j3 then (gd ((0 : Int) ≤ z2) fail (gd ((z2 : Int) < (x2.length : Nat)) fail (z0q fail (List.getD x2 ((z2 : Int).toNat) []) (fun c4 c5 c6 => s_p111 (fun y7 => rec1 (z0d .add .i64 z1 y7) (z0d .add .i64 z2 1)) c4 c5 c6 (z0d .sub .i64 x3 z1))))) else (K0 (if z0d .add .i64 x3 1 < z1 then z0d .add .i64 x3 1 else z1))
def p111_2 {ρ : Type} (fail : ρ) (fu : Nat) (s_p111 : (Int → ρ) → Int → Int → EL → Int → ρ) (K0 : Int → ρ) (rec1 : Int → Int → ρ) (x2 : EL) (x3 z1 z2 : Int) : ρ :=
 bif (z0a .lss z2 ((x2.length : Nat) : Int)) then (p111_1 fail fu s_p111 K0 rec1 x2 x3 z1 z2 (z0a .leq z1 x3)) else (p111_1 fail fu s_p111 K0 rec1 x2 x3 z1 z2 false)
def p111_2L {ρ : Type} (fail : ρ) (fu : Nat) (s_p111 : (Int → ρ) → Int → Int → EL → Int → ρ) (K0 : Int → ρ) (x2 : EL) (x3 : Int) : Nat → Int → Int → ρ
 | 0,_,_ => fail
 | n + 1,z1,z2 => p111_2 fail fu s_p111 K0 (p111_2L fail fu s_p111 K0 x2 x3 n) x2 x3 z1 z2
def p111_b {ρ : Type} (fail : ρ) (fu : Nat) (s_p111 : (Int → ρ) → Int → Int → EL → Int → ρ) (K0 : Int → ρ) (x0 x1 : Int) (x2 : EL) (x3 : Int) : ρ :=
 p111_2L fail fu s_p111 K0 x2 x3 fu 1 0
def p111 {ρ : Type} (fail : ρ) : Nat → (Int → ρ) → Int → Int → EL → Int → ρ
 | 0,_,_,_,_,_ => fail
 | n + 1,K0,x0,x1,x2,x3 => p111_b fail n (p111 fail n) K0 x0 x1 x2 x3
def p138_1 {ρ : Type} (fail : ρ) (fu : Nat) (K0 : Int → ρ) (j2 : Bool) : ρ :=
 bif j2 then (K0 2) else (K0 (-1))
def p138_2 {ρ : Type} (fail : ρ) (fu : Nat) (K0 : Int → ρ) (x0 : Int) (j1 : Bool) : ρ :=
 bif j1 then (K0 0) else (bif (z0a .eql x0 1) then (K0 1) else (bif (z0a .eql x0 2) then (p138_1 fail fu K0 (z0a .eql x0 2)) else (p138_1 fail fu K0 (z0a .eql x0 3))))
def p138 {ρ : Type} (fail : ρ) (fu : Nat) (K0 : Int → ρ) (x0 : Int) : ρ :=
 bif (z0a .eql x0 0) then (p138_2 fail fu K0 x0 (z0a .eql x0 0)) else (p138_2 fail fu K0 x0 (z0a .eql x0 4))
def p112_1 {ρ : Type} (fail : ρ) (fu : Nat) (s_p112 : (Bool → ρ) → Int → Int → EL → Int → Int → ρ) (K0 : Bool → ρ) (rec1 : Int → ρ) (x2 : EL) (x3 x4 z3 : Int) : ρ :=
 bif (z0a .lss z3 ((x2.length : Nat) : Int)) then (gd ((0 : Int) ≤ z3) fail (gd ((z3 : Int) < (x2.length : Nat)) fail (z0q fail (List.getD x2 ((z3 : Int).toNat) []) (fun c4 c5 c6 => s_p112 (fun y7 => bif (!y7) then (K0 false) else (rec1 (z0d .add .i64 z3 1))) c4 c5 c6 x3 (z0d .add .i64 x4 1))))) else (K0 true)
def p112_1L {ρ : Type} (fail : ρ) (fu : Nat) (s_p112 : (Bool → ρ) → Int → Int → EL → Int → Int → ρ) (K0 : Bool → ρ) (x2 : EL) (x3 x4 : Int) : Nat → Int → ρ
 | 0,_ => fail
 | n + 1,z3 => p112_1 fail fu s_p112 K0 (p112_1L fail fu s_p112 K0 x2 x3 x4 n) x2 x3 x4 z3
def p112_2 {ρ : Type} (fail : ρ) (fu : Nat) (s_p112 : (Bool → ρ) → Int → Int → EL → Int → Int → ρ) (K0 : Bool → ρ) (x2 : EL) (x3 x4 : Int) (j2 : Bool) : ρ :=
 bif j2 then (K0 false) else (p112_1L fail fu s_p112 K0 x2 x3 x4 fu 0)
def p112_3 {ρ : Type} (fail : ρ) (fu : Nat) (s_p112 : (Bool → ρ) → Int → Int → EL → Int → Int → ρ) (K0 : Bool → ρ) (x0 x1 : Int) (x2 : EL) (x3 x4 : Int) (j1 : Bool) : ρ :=
 bif j1 then (K0 false) else (bif (z0a .eql x0 4) then (bif (z0a .lss x1 0) then (p112_2 fail fu s_p112 K0 x2 x3 x4 true) else (bif (z0a .geq x1 x3) then (p112_2 fail fu s_p112 K0 x2 x3 x4 true) else (p112_2 fail fu s_p112 K0 x2 x3 x4 false))) else (p112_2 fail fu s_p112 K0 x2 x3 x4 (z0a .neq x1 0)))
def p112_b {ρ : Type} (fail : ρ) (fu : Nat) (s_p112 : (Bool → ρ) → Int → Int → EL → Int → Int → ρ) (K0 : Bool → ρ) (x0 x1 : Int) (x2 : EL) (x3 x4 : Int) : ρ :=
 bif (z0a .gtr x4 32) then (p112_3 fail fu s_p112 K0 x0 x1 x2 x3 x4 true) else (p138 fail fu (fun y8 => p112_3 fail fu s_p112 K0 x0 x1 x2 x3 x4 (z0a .neq y8 ((x2.length : Nat) : Int))) x0)
def p112 {ρ : Type} (fail : ρ) : Nat → (Bool → ρ) → Int → Int → EL → Int → Int → ρ
 | 0,_,_,_,_,_,_ => fail
 | n + 1,K0,x0,x1,x2,x3,x4 => p112_b fail n (p112 fail n) K0 x0 x1 x2 x3 x4
def p69_1 {ρ : Type} (fail : ρ) (fu : Nat) (K0 : Bool → ρ) (j1 : Bool) : ρ :=
 K0 j1
def p69 {ρ : Type} (fail : ρ) (fu : Nat) (K0 : Bool → ρ) (x0 x1 : Int) (x2 : EL) (x3 : Int) : ρ :=
 p111 fail fu (fun y2 => bif (z0a .leq y2 64) then (p112 fail fu (fun y3 => p69_1 fail fu K0 y3) x0 x1 x2 (if 4 < (if 0 > x3 then 0 else x3) then 4 else (if 0 > x3 then 0 else x3)) 1) else (p69_1 fail fu K0 false)) x0 x1 x2 64
def p61_1 {ρ : Type} (fail : ρ) (fu : Nat) (s_p61 : (Bool → ρ) → Int → Int → ByteArray → EL → EL → ρ) (K0 : Bool → ρ) (rec2 : Int → ρ) (x4 : EL) (z6 : Int) : ρ :=
 bif (z0a .lss z6 ((x4.length : Nat) : Int)) then (gd ((0 : Int) ≤ z6) fail (gd ((z6 : Int) < (x4.length : Nat)) fail (z0j fail (List.getD x4 ((z6 : Int).toNat) []) (fun c7 c8 c9 c10 c11 => s_p61 (fun y12 => bif (!y12) then (K0 false) else (rec2 (z0d .add .i64 z6 1))) c7 c8 c9 c10 c11)))) else (K0 true)
def p61_1L {ρ : Type} (fail : ρ) (fu : Nat) (s_p61 : (Bool → ρ) → Int → Int → ByteArray → EL → EL → ρ) (K0 : Bool → ρ) (x4 : EL) : Nat → Int → ρ
 | 0,_ => fail
 | n + 1,z6 => p61_1 fail fu s_p61 K0 (p61_1L fail fu s_p61 K0 x4 n) x4 z6
def p61_2 {ρ : Type} (fail : ρ) (fu : Nat) (s_p61 : (Bool → ρ) → Int → Int → ByteArray → EL → EL → ρ) (K0 : Bool → ρ) (rec1 : Int → ρ) (x3 x4 : EL) (z1 : Int) : ρ :=
 bif (z0a .lss z1 ((x3.length : Nat) : Int)) then (gd ((0 : Int) ≤ z1) fail (gd ((z1 : Int) < (x3.length : Nat)) fail (z0q fail (List.getD x3 ((z1 : Int).toNat) []) (fun c2 c3 c4 => p69 fail fu (fun y5 => bif (!y5) then (K0 false) else (rec1 (z0d .add .i64 z1 1))) c2 c3 c4 4)))) else (p61_1L fail fu s_p61 K0 x4 fu 0)
def p61_2L {ρ : Type} (fail : ρ) (fu : Nat) (s_p61 : (Bool → ρ) → Int → Int → ByteArray → EL → EL → ρ) (K0 : Bool → ρ) (x3 x4 : EL) : Nat → Int → ρ
 | 0,_ => fail
 | n + 1,z1 => p61_2 fail fu s_p61 K0 (p61_2L fail fu s_p61 K0 x3 x4 n) x3 x4 z1
def p61_b {ρ : Type} (fail : ρ) (fu : Nat) (s_p61 : (Bool → ρ) → Int → Int → ByteArray → EL → EL → ρ) (K0 : Bool → ρ) (x0 x1 : Int) (x2 : ByteArray) (x3 x4 : EL) : ρ :=
 bif (z0a .gtr ((x3.length : Nat) : Int) 4) then (K0 false) else (p61_2L fail fu s_p61 K0 x3 x4 fu 0)
def p61 {ρ : Type} (fail : ρ) : Nat → (Bool → ρ) → Int → Int → ByteArray → EL → EL → ρ
 | 0,_,_,_,_,_,_ => fail
 | n + 1,K0,x0,x1,x2,x3,x4 => p61_b fail n (p61 fail n) K0 x0 x1 x2 x3 x4
def p62_1 {ρ : Type} (fail : ρ) (fu : Nat) (s_p62 : (Bool → ρ) → Int → Int → ByteArray → EL → EL → ρ) (K0 : Bool → ρ) (rec1 : Int → ρ) (x4 : EL) (z1 : Int) : ρ :=
 bif (z0a .lss z1 ((x4.length : Nat) : Int)) then (gd ((0 : Int) ≤ z1) fail (gd ((z1 : Int) < (x4.length : Nat)) fail (z0j fail (List.getD x4 ((z1 : Int).toNat) []) (fun c2 c3 c4 c5 c6 => s_p62 (fun y7 => bif (!y7) then (K0 false) else (rec1 (z0d .add .i64 z1 1))) c2 c3 c4 c5 c6)))) else (K0 true)
def p62_1L {ρ : Type} (fail : ρ) (fu : Nat) (s_p62 : (Bool → ρ) → Int → Int → ByteArray → EL → EL → ρ) (K0 : Bool → ρ) (x4 : EL) : Nat → Int → ρ
 | 0,_ => fail
 | n + 1,z1 => p62_1 fail fu s_p62 K0 (p62_1L fail fu s_p62 K0 x4 n) x4 z1
def p62_b {ρ : Type} (fail : ρ) (fu : Nat) (s_p62 : (Bool → ρ) → Int → Int → ByteArray → EL → EL → ρ) (K0 : Bool → ρ) (x0 x1 : Int) (x2 : ByteArray) (x3 x4 : EL) : ρ :=
 bif (z0a .gtr ((x2.size : Nat) : Int) 24) then (K0 false) else (p62_1L fail fu s_p62 K0 x4 fu 0)
def p62 {ρ : Type} (fail : ρ) : Nat → (Bool → ρ) → Int → Int → ByteArray → EL → EL → ρ
 | 0,_,_,_,_,_,_ => fail
 | n + 1,K0,x0,x1,x2,x3,x4 => p62_b fail n (p62 fail n) K0 x0 x1 x2 x3 x4
def p16_1 {ρ : Type} (fail : ρ) (fu : Nat) (K0 : Bool → ρ) (j3 : Bool) : ρ :=
 K0 j3
def p16 {ρ : Type} (fail : ρ) (fu : Nat) (K0 : Bool → ρ) (x0 x1 : Int) (x2 : ByteArray) (x3 x4 : EL) : ρ :=
 p59 fail fu (fun y1 y2 => bif y2 then (p60 fail fu (fun y4 => bif (z0a .leq y4 100) then (p61 fail fu (fun y5 => bif y5 then (p62 fail fu (fun y6 => p16_1 fail fu K0 y6) x0 x1 x2 x3 x4) else (p16_1 fail fu K0 false)) x0 x1 x2 x3 x4) else (p16_1 fail fu K0 false)) x0 x1 x2 x3 x4 100) else (p16_1 fail fu K0 false)) x0 x1 x2 x3 x4 2000
theorem d_p108 (fu : Nat) {K0 : Bool → Prop} (L : EL → Nat) (hN : L = List.length) {x0 x1 : Int} {x2 : ByteArray} {x3 x4 : EL} (h : p108 False fu K0 x0 x1 x2 x3 x4) : Den Try.prog G0 108 [.agg [.c (.v (.int .i64 x0)),.c (.v (.int .i64 x1)),.c (.v (.string x2)),.c (.sl 3 x3 none),.c (.sl 5 x4 none)]] (fun r bs => (∃ (y0 : Bool) (o0 : OV),(r = .c (.v (.bool y0)) ∧ bs = [o0]) ∧ K0 y0)) := by
 obtain ⟨O,hO⟩ : ∃ O,O = std 0 T G0 (Den Try.prog G0) := ⟨_,rfl⟩
 have hLO : L = O.len := by rw [hN,hO]; rfl
 subst hLO
 refine den_h hO tiA mixed tabOk (fn := Try.f108) (sh := true) (by kernel_rfl) rfl rfl rfl rfl ?_
 intro Q hQ
 unfold p108 at h
 conv => cbv
 refine z0y hO tiA [[],[]] [(0,true,false),(1,true,false),(3,true,false),(4,true,false),(5,true,false),(2,false,false),(6,true,false),(7,true,false),(8,true,false),(9,true,false),(10,true,false),(11,true,false),(12,true,false),(13,true,false),(14,true,false),(15,true,false),(16,true,false),(17,true,false),(18,true,false),(19,true,false),(20,true,false),(21,true,false),(22,true,false),(23,true,false),(24,true,false),(25,true,false),(26,true,false),(27,true,false),(28,true,false),(29,true,false),(30,true,false),(31,true,false),(32,true,false),(33,true,false),(34,true,false),(35,true,false),(36,true,false)] (by kernel_rfl) [1,39] [2000] [] (fun tm m => ∃ (j1 : Bool),((tm = frame 0 65 [(1,.p 2000 0 0),(39,.c (.v (.bool j1)))] ∧ m = ⟨[(2000,.blk 0 [.c (.v (.int .i64 x0)),.c (.v (.int .i64 x1)),.c (.v (.string x2)),.c (.sl 3 x3 none),.c (.sl 5 x4 none)])],1⟩)) ∧ p108_2 False fu K0 x0 x3 j1) (fun L hL_2 => ?_) ?_
 conv => cbv
 refine z0c hO [.shut] (d_p136 fu O.len hN h) ?_
 intro os Q hos hQ
 conv => cbv
 refine ⟨(by (rw [hos]) <;> (subst hO; rfl)),?_⟩
 intro r bs hq
 rw [hQ] at hq
 clear hos hQ h
 obtain ⟨y3,_,⟨rfl,rfl⟩,h⟩ := hq
 conv => cbv
 refine ⟨z0e hO (Nat.le_of_ble_eq_true rfl) rfl,?_⟩
 refine br_h hO h (by subst hO; rfl) (fun hc5 h => ?_) (fun hc5 h => ?_)
 conv => cbv
 refine br_t hO hc5 ?_
 conv => cbv
 refine br_t hO hc5 ?_
 conv => cbv
 refine br_t hO hc5 ?_
 conv => cbv
 refine br_t hO hc5 ?_
 conv => cbv
 refine br_t hO hc5 ?_
 conv => cbv
 refine br_t hO rfl ?_
 conv => cbv
 refine br_t hO rfl ?_
 conv => cbv
 refine br_t hO rfl ?_
 conv => cbv
 refine br_t hO rfl ?_
 conv => cbv
 refine br_t hO rfl ?_
 conv => cbv
 refine br_t hO rfl ?_
 conv => cbv
 refine br_t hO rfl ?_
 conv => cbv
 refine br_t hO rfl ?_
 conv => cbv
 refine br_t hO rfl ?_
 conv => cbv
 refine br_t hO rfl ?_
 conv => cbv
 refine br_t hO rfl ?_
 conv => cbv
 refine br_t hO rfl ?_
 conv => cbv
 refine br_t hO rfl ?_
 conv => cbv
 refine br_t hO rfl ?_
 conv => cbv
 exact hL_2 _ _ ⟨true,⟨(by (conv => lhs; cbv) <;> (subst hO; rfl)),(by (conv => lhs; cbv) <;> (subst hO; rfl))⟩,h⟩
 conv => cbv
 refine br_f hO hc5 ?_
 conv => cbv
 refine br_f hO hc5 ?_
 conv => cbv
 refine br_f hO hc5 ?_
 conv => cbv
 refine br_h hO h (by subst hO; rfl) (fun hc6 h => ?_) (fun hc6 h => ?_)
 conv => cbv
 refine br_t hO hc6 ?_
 conv => cbv
 refine br_t hO hc6 ?_
 conv => cbv
 refine br_f hO hc5 ?_
 conv => cbv
 refine br_t hO hc6 ?_
 conv => cbv
 refine br_f hO hc5 ?_
 conv => cbv
 refine br_h hO h (by subst hO; rfl) (fun hc7 h => ?_) (fun hc7 h => ?_)
 conv => cbv
 refine br_t hO hc7 ?_
 conv => cbv
 refine br_t hO hc7 ?_
 conv => cbv
 refine br_t hO hc7 ?_
 conv => cbv
 refine br_t hO rfl ?_
 conv => cbv
 refine br_t hO rfl ?_
 conv => cbv
 refine br_t hO rfl ?_
 conv => cbv
 refine br_t hO rfl ?_
 conv => cbv
 refine br_t hO rfl ?_
 conv => cbv
 refine br_t hO rfl ?_
 conv => cbv
 refine br_t hO rfl ?_
 conv => cbv
 refine br_t hO rfl ?_
 conv => cbv
 refine br_t hO rfl ?_
 conv => cbv
 refine br_t hO rfl ?_
 conv => cbv
 exact hL_2 _ _ ⟨true,⟨(by (conv => lhs; cbv) <;> (subst hO; rfl)),(by (conv => lhs; cbv) <;> (subst hO; rfl))⟩,h⟩
 conv => cbv
 refine br_f hO hc7 ?_
 conv => cbv
 refine br_f hO hc7 ?_
 conv => cbv
 refine br_f hO hc7 ?_
 conv => cbv
 refine br_h hO h (by subst hO; rfl) (fun hc8 h => ?_) (fun hc8 h => ?_)
 conv => cbv
 refine br_t hO hc8 ?_
 conv => cbv
 refine br_t hO hc8 ?_
 conv => cbv
 refine br_t hO hc8 ?_
 conv => cbv
 refine br_t hO rfl ?_
 conv => cbv
 refine br_t hO rfl ?_
 conv => cbv
 refine br_t hO rfl ?_
 conv => cbv
 refine br_t hO rfl ?_
 conv => cbv
 refine br_t hO rfl ?_
 conv => cbv
 refine br_t hO rfl ?_
 conv => cbv
 exact hL_2 _ _ ⟨true,⟨(by (conv => lhs; cbv) <;> (subst hO; rfl)),(by (conv => lhs; cbv) <;> (subst hO; rfl))⟩,h⟩
 conv => cbv
 refine br_f hO hc8 ?_
 conv => cbv
 refine br_f hO hc8 ?_
 conv => cbv
 refine br_f hO hc8 ?_
 conv => cbv
 refine br_h hO h (by subst hO; rfl) (fun hc9 h => ?_) (fun hc9 h => ?_)
 conv => cbv
 refine br_t hO hc9 ?_
 conv => cbv
 refine br_t hO hc9 ?_
 conv => cbv
 refine br_t hO hc9 ?_
 conv => cbv
 refine br_t hO hc9 ?_
 conv => cbv
 refine br_t hO hc9 ?_
 conv => cbv
 exact hL_2 _ _ ⟨true,⟨(by (conv => lhs; cbv) <;> (subst hO; rfl)),(by (conv => lhs; cbv) <;> (subst hO; rfl))⟩,h⟩
 conv => cbv
 refine br_f hO hc9 ?_
 conv => cbv
 refine br_f hO hc9 ?_
 conv => cbv
 refine br_f hO hc9 ?_
 conv => cbv
 refine br_h hO h (by subst hO; rfl) (fun hc10 h => ?_) (fun hc10 h => ?_)
 conv => cbv
 refine br_t hO hc10 ?_
 conv => cbv
 refine br_t hO hc10 ?_
 conv => cbv
 refine br_f hO hc9 ?_
 conv => cbv
 refine br_t hO hc10 ?_
 conv => cbv
 refine br_f hO hc9 ?_
 conv => cbv
 exact hL_2 _ _ ⟨(z2f .neq x2 ⟨#[]⟩),⟨(by (conv => lhs; cbv) <;> (subst hO; rfl)),(by (conv => lhs; cbv) <;> (subst hO; rfl))⟩,h⟩
 conv => cbv
 refine br_f hO hc10 ?_
 conv => cbv
 refine br_f hO hc10 ?_
 conv => cbv
 refine br_f hO hc9 ?_
 conv => cbv
 refine br_f hO hc10 ?_
 conv => cbv
 refine br_f hO hc9 ?_
 conv => cbv
 exact hL_2 _ _ ⟨false,⟨(by (conv => lhs; cbv) <;> (subst hO; rfl)),(by (conv => lhs; cbv) <;> (subst hO; rfl))⟩,h⟩
 conv => cbv
 refine br_f hO hc6 ?_
 conv => cbv
 refine br_f hO hc6 ?_
 conv => cbv
 refine br_f hO hc5 ?_
 conv => cbv
 refine br_f hO hc6 ?_
 conv => cbv
 refine br_f hO hc5 ?_
 conv => cbv
 refine br_f hO rfl ?_
 conv => cbv
 refine br_f hO rfl ?_
 conv => cbv
 refine br_f hO rfl ?_
 conv => cbv
 refine br_f hO rfl ?_
 conv => cbv
 refine br_h hO h (by subst hO; rfl) (fun hc11 h => ?_) (fun hc11 h => ?_)
 conv => cbv
 refine br_t hO hc11 ?_
 conv => cbv
 refine br_t hO hc11 ?_
 conv => cbv
 refine br_t hO hc11 ?_
 conv => cbv
 refine br_t hO rfl ?_
 conv => cbv
 refine br_t hO rfl ?_
 conv => cbv
 refine br_t hO rfl ?_
 conv => cbv
 refine br_t hO rfl ?_
 conv => cbv
 refine br_t hO rfl ?_
 conv => cbv
 refine br_t hO rfl ?_
 conv => cbv
 exact hL_2 _ _ ⟨true,⟨(by (conv => lhs; cbv) <;> (subst hO; rfl)),(by (conv => lhs; cbv) <;> (subst hO; rfl))⟩,h⟩
 conv => cbv
 refine br_f hO hc11 ?_
 conv => cbv
 refine br_f hO hc11 ?_
 conv => cbv
 refine br_f hO hc11 ?_
 conv => cbv
 refine br_h hO h (by subst hO; rfl) (fun hc12 h => ?_) (fun hc12 h => ?_)
 conv => cbv
 refine br_t hO hc12 ?_
 conv => cbv
 refine br_t hO hc12 ?_
 conv => cbv
 refine br_t hO hc12 ?_
 conv => cbv
 refine br_t hO hc12 ?_
 conv => cbv
 refine br_t hO hc12 ?_
 conv => cbv
 exact hL_2 _ _ ⟨true,⟨(by (conv => lhs; cbv) <;> (subst hO; rfl)),(by (conv => lhs; cbv) <;> (subst hO; rfl))⟩,h⟩
 conv => cbv
 refine br_f hO hc12 ?_
 conv => cbv
 refine br_f hO hc12 ?_
 conv => cbv
 refine br_f hO hc12 ?_
 conv => cbv
 refine br_h hO h (by subst hO; rfl) (fun hc13 h => ?_) (fun hc13 h => ?_)
 conv => cbv
 refine br_t hO hc13 ?_
 conv => cbv
 refine br_t hO hc13 ?_
 conv => cbv
 refine br_f hO hc12 ?_
 conv => cbv
 refine br_t hO hc13 ?_
 conv => cbv
 refine br_f hO hc12 ?_
 conv => cbv
 exact hL_2 _ _ ⟨(z2f .neq x2 ⟨#[]⟩),⟨(by (conv => lhs; cbv) <;> (subst hO; rfl)),(by (conv => lhs; cbv) <;> (subst hO; rfl))⟩,h⟩
 conv => cbv
 refine br_f hO hc13 ?_
 conv => cbv
 refine br_f hO hc13 ?_
 conv => cbv
 refine br_f hO hc12 ?_
 conv => cbv
 refine br_f hO hc13 ?_
 conv => cbv
 refine br_f hO hc12 ?_
 conv => cbv
 exact hL_2 _ _ ⟨false,⟨(by (conv => lhs; cbv) <;> (subst hO; rfl)),(by (conv => lhs; cbv) <;> (subst hO; rfl))⟩,h⟩
 rintro tm m ⟨j1,hs,h⟩
 unfold p108_2 at h
 obtain ⟨rfl,rfl⟩ := hs
 conv => cbv
 refine br_h hO h (by subst hO; rfl) (fun hc1 h => ?_) (fun hc1 h => ?_)
 conv => cbv
 rw [hQ]
 exact ⟨false,_,⟨(by subst hO; rfl),(by subst hO; rfl)⟩,h⟩
 conv => cbv
 refine z0b hO ?_
 conv => cbv
 refine z0l hO tiA [2] [] [] (fun tm m => ∃ (j2 : Bool),((tm = frame 0 65 [(2,.c (.v (.bool j2)))] ∧ m = ⟨[],1⟩)) ∧ p108_1 False fu K0 j2) (fun L hL_1 => ?_) ?_
 conv => cbv
 refine br_h hO h (by subst hO; rfl) (fun hc2 h => ?_) (fun hc2 h => ?_)
 conv => cbv
 refine br_t hO hc2 ?_
 conv => cbv
 refine br_t hO hc2 ?_
 conv => cbv
 refine br_t hO hc2 ?_
 conv => cbv
 refine br_t hO hc2 ?_
 conv => cbv
 refine br_t hO hc2 ?_
 conv => cbv
 refine br_t hO rfl ?_
 conv => cbv
 refine br_t hO rfl ?_
 conv => cbv
 refine br_t hO rfl ?_
 conv => cbv
 refine br_t hO rfl ?_
 conv => cbv
 refine br_t hO rfl ?_
 conv => cbv
 refine br_t hO rfl ?_
 conv => cbv
 exact hL_1 _ _ ⟨true,⟨(by (conv => lhs; cbv) <;> (subst hO; rfl)),(by (conv => lhs; cbv) <;> (subst hO; rfl))⟩,h⟩
 conv => cbv
 refine br_f hO hc2 ?_
 conv => cbv
 refine br_f hO hc2 ?_
 conv => cbv
 refine br_f hO hc2 ?_
 conv => cbv
 refine br_h hO h (by subst hO; rfl) (fun hc3 h => ?_) (fun hc3 h => ?_)
 conv => cbv
 refine br_t hO hc3 ?_
 conv => cbv
 refine br_t hO hc3 ?_
 conv => cbv
 refine br_t hO hc3 ?_
 conv => cbv
 refine br_f hO hc2 ?_
 conv => cbv
 refine br_t hO hc3 ?_
 conv => cbv
 refine br_f hO hc2 ?_
 conv => cbv
 refine br_h hO h (by subst hO; rfl) (fun hc4 h => ?_) (fun hc4 h => ?_)
 conv => cbv
 refine br_t hO hc4 ?_
 conv => cbv
 refine br_t hO hc4 ?_
 conv => cbv
 refine br_t hO hc4 ?_
 conv => cbv
 refine br_t hO hc4 ?_
 conv => cbv
 refine br_t hO hc4 ?_
 conv => cbv
 exact hL_1 _ _ ⟨true,⟨(by (conv => lhs; cbv) <;> (subst hO; rfl)),(by (conv => lhs; cbv) <;> (subst hO; rfl))⟩,h⟩
 conv => cbv
 refine br_f hO hc4 ?_
 conv => cbv
 refine br_f hO hc4 ?_
 conv => cbv
 refine br_f hO hc4 ?_
 conv => cbv
 refine br_f hO (z2h hO .eql .neq rfl rfl rfl hc3) ?_
 conv => cbv
 refine br_f hO (z2h hO .eql .neq rfl rfl rfl hc3) ?_
 conv => cbv
 refine br_f hO (z2h hO .eql .neq rfl rfl rfl hc3) ?_
 conv => cbv
 refine br_f hO (z2h hO .eql .neq rfl rfl rfl hc3) ?_
 conv => cbv
 refine br_f hO hc4 ?_
 conv => cbv
 refine br_f hO (z2h hO .eql .neq rfl rfl rfl hc3) ?_
 conv => cbv
 refine br_f hO hc4 ?_
 conv => cbv
 exact hL_1 _ _ ⟨false,⟨(by (conv => lhs; cbv) <;> (subst hO; rfl)),(by (conv => lhs; cbv) <;> (subst hO; rfl))⟩,h⟩
 conv => cbv
 refine br_f hO hc3 ?_
 conv => cbv
 refine br_f hO hc3 ?_
 conv => cbv
 refine br_f hO hc3 ?_
 conv => cbv
 refine br_f hO hc2 ?_
 conv => cbv
 refine br_f hO hc3 ?_
 conv => cbv
 refine br_f hO hc2 ?_
 conv => cbv
 refine br_f hO rfl ?_
 conv => cbv
 refine br_f hO rfl ?_
 conv => cbv
 refine br_f hO rfl ?_
 conv => cbv
 refine br_f hO rfl ?_
 conv => cbv
 refine br_t hO (z2h hO .eql .neq rfl rfl rfl hc3) ?_
 conv => cbv
 refine br_t hO (z2h hO .eql .neq rfl rfl rfl hc3) ?_
 conv => cbv
 refine br_t hO (z2h hO .eql .neq rfl rfl rfl hc3) ?_
 conv => cbv
 refine br_t hO (z2h hO .eql .neq rfl rfl rfl hc3) ?_
 conv => cbv
 refine br_f hO rfl ?_
 conv => cbv
 refine br_t hO (z2h hO .eql .neq rfl rfl rfl hc3) ?_
 conv => cbv
 refine br_f hO rfl ?_
 conv => cbv
 exact hL_1 _ _ ⟨(z0a .eql ((x3.length : Nat) : Int) 0),⟨(by (conv => lhs; cbv) <;> (subst hO; rfl)),(by (conv => lhs; cbv) <;> (subst hO; rfl))⟩,h⟩
 rintro tm m ⟨j2,hs,h⟩
 unfold p108_1 at h
 obtain ⟨rfl,rfl⟩ := hs
 conv => cbv
 rw [hQ]
 exact ⟨j2,_,⟨(by subst hO; rfl),(by subst hO; rfl)⟩,h⟩
def D_p59 (fu : Nat) : Prop := ∀ {K0 : Int → Bool → Prop} (L : EL → Nat) (_ : L = List.length) {x0 x1 : Int} {x2 : ByteArray} {x3 x4 : EL} {x5 : Int} (_ : p59 False fu K0 x0 x1 x2 x3 x4 x5),Den Try.prog G0 59 [.agg [.c (.v (.int .i64 x0)),.c (.v (.int .i64 x1)),.c (.v (.string x2)),.c (.sl 3 x3 none),.c (.sl 5 x4 none)],.c (.v (.int .i64 x5))] (fun r bs => (∃ (y0 : Int) (y1 : Bool) (o0 o1 : OV),(r = .tup [.c (.v (.int .i64 y0)),.c (.v (.bool y1))] ∧ bs = [o0,o1]) ∧ K0 y0 y1))
theorem b_p59 (fu : Nat) (ih_p59 : D_p59 fu) {K0 : Int → Bool → Prop} (L : EL → Nat) (hN : L = List.length) {x0 x1 : Int} {x2 : ByteArray} {x3 x4 : EL} {x5 : Int} (h : p59_b False fu (p59 False fu) K0 x0 x1 x2 x3 x4 x5) : Den Try.prog G0 59 [.agg [.c (.v (.int .i64 x0)),.c (.v (.int .i64 x1)),.c (.v (.string x2)),.c (.sl 3 x3 none),.c (.sl 5 x4 none)],.c (.v (.int .i64 x5))] (fun r bs => (∃ (y0 : Int) (y1 : Bool) (o0 o1 : OV),(r = .tup [.c (.v (.int .i64 y0)),.c (.v (.bool y1))] ∧ bs = [o0,o1]) ∧ K0 y0 y1)) := by
 obtain ⟨O,hO⟩ : ∃ O,O = std 0 T G0 (Den Try.prog G0) := ⟨_,rfl⟩
 have hLO : L = O.len := by rw [hN,hO]; rfl
 subst hLO
 refine den_h hO tiA mixed tabOk (fn := Try.f59) (sh := true) (by kernel_rfl) rfl rfl rfl rfl ?_
 intro Q hQ
 unfold p59_b at h
 conv => cbv
 refine z0l hO tiA [1,2,17] [3000] [] (fun tm m => ∃ (j1 : Int) (j2 : Bool),((tm = frame 0 39 [(1,.c (.v (.int .i64 j1))),(2,.p 3000 0 0),(17,.c (.v (.bool j2)))] ∧ m = ⟨[(3000,.blk 0 [.c (.v (.int .i64 x0)),.c (.v (.int .i64 x1)),.c (.v (.string x2)),.c (.sl 3 x3 none),.c (.sl 5 x4 none)])],1⟩)) ∧ p59_2 False fu (p59 False fu) K0 x4 j1 j2) (fun L hL_2 => ?_) ?_
 conv => cbv
 refine br_h hO h (by subst hO; rfl) (fun hc4 h => ?_) (fun hc4 h => ?_)
 conv => cbv
 refine br_t hO hc4 ?_
 conv => cbv
 refine br_t hO hc4 ?_
 conv => cbv
 refine br_t hO hc4 ?_
 conv => cbv
 exact hL_2 _ _ ⟨z0d .sub .i64 x5 1,true,⟨(by (conv => lhs; cbv) <;> (subst hO; rfl)),(by (conv => lhs; cbv) <;> (subst hO; rfl))⟩,h⟩
 conv => cbv
 refine br_f hO hc4 ?_
 conv => cbv
 refine z0c hO [.shut] (d_p108 fu O.len hN h) ?_
 intro os Q hos hQ
 conv => cbv
 refine ⟨(by (rw [hos]) <;> (subst hO; rfl)),?_⟩
 intro r bs hq
 rw [hQ] at hq
 clear hos hQ h
 obtain ⟨y12,_,⟨rfl,rfl⟩,h⟩ := hq
 conv => cbv
 refine br_f hO hc4 ?_
 conv => cbv
 refine br_f hO hc4 ?_
 conv => cbv
 exact hL_2 _ _ ⟨z0d .sub .i64 x5 1,(!y12),⟨(by (conv => lhs; cbv) <;> (subst hO; rfl)),(by (conv => lhs; cbv) <;> (subst hO; rfl))⟩,h⟩
 rintro tm m ⟨j1,j2,hs,h⟩
 unfold p59_2 at h
 obtain ⟨rfl,rfl⟩ := hs
 conv => cbv
 refine br_h hO h (by subst hO; rfl) (fun hc1 h => ?_) (fun hc1 h => ?_)
 conv => cbv
 rw [hQ]
 exact ⟨(-1),false,_,_,⟨(by subst hO; rfl),(by subst hO; rfl)⟩,h⟩
 conv => cbv
 refine z0b hO ?_
 conv => cbv
 refine z0s hO tiA [1,2,6] [3000] [] (fun (n : Nat) tm m => ∃ (z3 : Int) (z4 : Int),((tm = frame 0 39 [(1,.c (.v (.int .i64 z3))),(2,.p 3000 0 0),(6,.c (.v (.int .i64 z4)))] ∧ m = ⟨[(3000,.blk 0 [.c (.v (.int .i64 x0)),.c (.v (.int .i64 x1)),.c (.v (.string x2)),.c (.sl 3 x3 none),.c (.sl 5 x4 none)])],1⟩)) ∧ p59_1L False fu (p59 False fu) K0 x4 n z3 z4) (fun n => n) fu ⟨j1,0,⟨(by (conv => lhs; cbv) <;> (subst hO; rfl)),(by (conv => lhs; cbv) <;> (subst hO; rfl))⟩,h⟩ ?_
 rintro n1 tm m L ⟨z3,z4,hs,h⟩ hLn1
 (cases n1 with
 | zero => rw [p59_1L] at h; exact h.elim
 | succ n1 =>
 rw [p59_1L] at h
 unfold p59_1 at h
 obtain ⟨rfl,rfl⟩ := hs
 conv => cbv
 refine br_h hO h (by subst hO; rfl) (fun hc2 h => ?_) (fun hc2 h => ?_)
 conv => cbv
 refine z0b hO ?_
 conv => cbv
 refine and_h h (fun g => (by subst hO; exact g)) (fun h => ?_)
 refine and_h h (fun g => (by subst hO; exact g)) (fun h => ?_)
 obtain ⟨c5,c6,c7,c8,c9,hr,h⟩ := z0g h
 refine z0o hO _ (by subst hO; exact hr) ?_
 clear hr
 conv => cbv
 refine z0c hO [.shut,.shut] (ih_p59 O.len hN h) ?_
 intro os Q hos hQ
 conv => cbv
 refine ⟨(by (rw [hos]) <;> (subst hO; rfl)),?_⟩
 intro r bs hq
 rw [hQ] at hq
 clear hos hQ h
 obtain ⟨y10,y11,_,_,⟨rfl,rfl⟩,h⟩ := hq
 conv => cbv
 refine br_h hO h (by subst hO; rfl) (fun hc3 h => ?_) (fun hc3 h => ?_)
 conv => cbv
 rw [hQ]
 exact ⟨(-1),false,_,_,⟨(by subst hO; rfl),(by subst hO; rfl)⟩,h⟩
 conv => cbv
 refine z0b hO ?_
 conv => cbv
 exact hLn1 n1 _ _ (Nat.lt_succ_self n1) ⟨y10,z0d .add .i64 z4 1,⟨(by (conv => lhs; cbv) <;> (subst hO; rfl)),(by (conv => lhs; cbv) <;> (subst hO; rfl))⟩,h⟩
 conv => cbv
 rw [hQ]
 exact ⟨z3,true,_,_,⟨(by subst hO; rfl),(by subst hO; rfl)⟩,h⟩)
theorem dd_p59 (fu : Nat) : D_p59 fu := by
 induction fu with
 | zero => unfold D_p59; intros; rename_i h; rw [p59] at h; exact h.elim
 | succ n ih =>
  exact (by unfold D_p59; intro K0 L hN x0 x1 x2 x3 x4 x5 h; exact b_p59 n ih L hN (by rw [p59] at h; exact h))
theorem d_p59 (fu : Nat) : D_p59 fu := dd_p59 fu
def D_p60 (fu : Nat) : Prop := ∀ {K0 : Int → Prop} (L : EL → Nat) (_ : L = List.length) {x0 x1 : Int} {x2 : ByteArray} {x3 x4 : EL} {x5 : Int} (_ : p60 False fu K0 x0 x1 x2 x3 x4 x5),Den Try.prog G0 60 [.agg [.c (.v (.int .i64 x0)),.c (.v (.int .i64 x1)),.c (.v (.string x2)),.c (.sl 3 x3 none),.c (.sl 5 x4 none)],.c (.v (.int .i64 x5))] (fun r bs => (∃ (y0 : Int) (o0 o1 : OV),(r = .c (.v (.int .i64 y0)) ∧ bs = [o0,o1]) ∧ K0 y0))
theorem b_p60 (fu : Nat) (ih_p60 : D_p60 fu) {K0 : Int → Prop} (L : EL → Nat) (hN : L = List.length) {x0 x1 : Int} {x2 : ByteArray} {x3 x4 : EL} {x5 : Int} (h : p60_b False fu (p60 False fu) K0 x0 x1 x2 x3 x4 x5) : Den Try.prog G0 60 [.agg [.c (.v (.int .i64 x0)),.c (.v (.int .i64 x1)),.c (.v (.string x2)),.c (.sl 3 x3 none),.c (.sl 5 x4 none)],.c (.v (.int .i64 x5))] (fun r bs => (∃ (y0 : Int) (o0 o1 : OV),(r = .c (.v (.int .i64 y0)) ∧ bs = [o0,o1]) ∧ K0 y0)) := by
 obtain ⟨O,hO⟩ : ∃ O,O = std 0 T G0 (Den Try.prog G0) := ⟨_,rfl⟩
 have hLO : L = O.len := by rw [hN,hO]; rfl
 subst hLO
 refine den_h hO tiA mixed tabOk (fn := Try.f60) (sh := true) (by kernel_rfl) rfl rfl rfl rfl ?_
 intro Q hQ
 unfold p60_b at h
 conv => cbv
 refine br_h hO h (by subst hO; rfl) (fun hc1 h => ?_) (fun hc1 h => ?_)
 conv => cbv
 rw [hQ]
 exact ⟨1,_,_,⟨(by subst hO; rfl),(by subst hO; rfl)⟩,h⟩
 conv => cbv
 refine z0b hO ?_
 conv => cbv
 refine z0s hO tiA [1,2,5,6] [3000] [] (fun (n : Nat) tm m => ∃ (z1 : Int) (z2 : Int) (z3 : Int),((tm = frame 0 30 [(1,.c (.v (.int .i64 z1))),(2,.p 3000 0 0),(5,.c (.v (.int .i64 z2))),(6,.c (.v (.int .i64 z3)))] ∧ m = ⟨[(3000,.blk 0 [.c (.v (.int .i64 x0)),.c (.v (.int .i64 x1)),.c (.v (.string x2)),.c (.sl 3 x3 none),.c (.sl 5 x4 none)])],1⟩)) ∧ p60_1L False fu (p60 False fu) K0 x4 n z1 z2 z3) (fun n => n) fu ⟨(if 0 > x5 then 0 else x5),0,0,⟨(by (conv => lhs; cbv) <;> (subst hO; rfl)),(by (conv => lhs; cbv) <;> (subst hO; rfl))⟩,h⟩ ?_
 rintro n1 tm m L ⟨z1,z2,z3,hs,h⟩ hLn1
 (cases n1 with
 | zero => rw [p60_1L] at h; exact h.elim
 | succ n1 =>
 rw [p60_1L] at h
 unfold p60_1 at h
 obtain ⟨rfl,rfl⟩ := hs
 conv => cbv
 refine br_h hO h (by subst hO; rfl) (fun hc2 h => ?_) (fun hc2 h => ?_)
 conv => cbv
 refine z0b hO ?_
 conv => cbv
 refine and_h h (fun g => (by subst hO; exact g)) (fun h => ?_)
 refine and_h h (fun g => (by subst hO; exact g)) (fun h => ?_)
 obtain ⟨c4,c5,c6,c7,c8,hr,h⟩ := z0g h
 refine z0o hO _ (by subst hO; exact hr) ?_
 clear hr
 conv => cbv
 refine z0c hO [.shut,.shut] (ih_p60 O.len hN h) ?_
 intro os Q hos hQ
 conv => cbv
 refine ⟨(by (rw [hos]) <;> (subst hO; rfl)),?_⟩
 intro r bs hq
 rw [hQ] at hq
 clear hos hQ h
 obtain ⟨y9,_,_,⟨rfl,rfl⟩,h⟩ := hq
 conv => cbv
 exact hLn1 n1 _ _ (Nat.lt_succ_self n1) ⟨z1,(if y9 > z2 then y9 else z2),z0d .add .i64 z3 1,⟨(by (conv => lhs; cbv) <;> (subst hO; rfl)),(by (conv => lhs; cbv) <;> (subst hO; rfl))⟩,h⟩
 conv => cbv
 rw [hQ]
 exact ⟨z0d .add .i64 z2 1,_,_,⟨(by subst hO; rfl),(by subst hO; rfl)⟩,h⟩)
theorem dd_p60 (fu : Nat) : D_p60 fu := by
 induction fu with
 | zero => unfold D_p60; intros; rename_i h; rw [p60] at h; exact h.elim
 | succ n ih =>
  exact (by unfold D_p60; intro K0 L hN x0 x1 x2 x3 x4 x5 h; exact b_p60 n ih L hN (by rw [p60] at h; exact h))
theorem d_p60 (fu : Nat) : D_p60 fu := dd_p60 fu
def D_p111 (fu : Nat) : Prop := ∀ {K0 : Int → Prop} (L : EL → Nat) (_ : L = List.length) {x0 x1 : Int} {x2 : EL} {x3 : Int} (_ : p111 False fu K0 x0 x1 x2 x3),Den Try.prog G0 111 [.agg [.c (.v (.int .i64 x0)),.c (.v (.int .i64 x1)),.c (.sl 3 x2 none)],.c (.v (.int .i64 x3))] (fun r bs => (∃ (y0 : Int) (o0 o1 : OV),(r = .c (.v (.int .i64 y0)) ∧ bs = [o0,o1]) ∧ K0 y0))
theorem b_p111 (fu : Nat) (ih_p111 : D_p111 fu) {K0 : Int → Prop} (L : EL → Nat) (hN : L = List.length) {x0 x1 : Int} {x2 : EL} {x3 : Int} (h : p111_b False fu (p111 False fu) K0 x0 x1 x2 x3) : Den Try.prog G0 111 [.agg [.c (.v (.int .i64 x0)),.c (.v (.int .i64 x1)),.c (.sl 3 x2 none)],.c (.v (.int .i64 x3))] (fun r bs => (∃ (y0 : Int) (o0 o1 : OV),(r = .c (.v (.int .i64 y0)) ∧ bs = [o0,o1]) ∧ K0 y0)) := by
 obtain ⟨O,hO⟩ : ∃ O,O = std 0 T G0 (Den Try.prog G0) := ⟨_,rfl⟩
 have hLO : L = O.len := by rw [hN,hO]; rfl
 subst hLO
 refine den_h hO tiA mixed tabOk (fn := Try.f111) (sh := true) (by kernel_rfl) rfl rfl rfl rfl ?_
 intro Q hQ
 unfold p111_b at h
 conv => cbv
 refine z0s hO tiA [1,2,5,6] [3000] [] (fun (n : Nat) tm m => ∃ (z1 : Int) (z2 : Int),((tm = frame 0 34 [(1,.c (.v (.int .i64 x3))),(2,.p 3000 0 0),(5,.c (.v (.int .i64 z1))),(6,.c (.v (.int .i64 z2)))] ∧ m = ⟨[(3000,.blk 0 [.c (.v (.int .i64 x0)),.c (.v (.int .i64 x1)),.c (.sl 3 x2 none)])],1⟩)) ∧ p111_2L False fu (p111 False fu) K0 x2 x3 n z1 z2) (fun n => n) fu ⟨1,0,⟨(by (conv => lhs; cbv) <;> (subst hO; rfl)),(by (conv => lhs; cbv) <;> (subst hO; rfl))⟩,h⟩ ?_
 rintro n1 tm m L ⟨z1,z2,hs,h⟩ hLn1
 (cases n1 with
 | zero => rw [p111_2L] at h; exact h.elim
 | succ n1 =>
 rw [p111_2L] at h
 unfold p111_2 at h
 obtain ⟨rfl,rfl⟩ := hs
 conv => cbv
 refine z0l hO tiA [1,2,5,6,16] [3000] [] (fun tm m => ∃ (j3 : Bool),((tm = frame 0 34 [(1,.c (.v (.int .i64 x3))),(2,.p 3000 0 0),(5,.c (.v (.int .i64 z1))),(6,.c (.v (.int .i64 z2))),(16,.c (.v (.bool j3)))] ∧ m = ⟨[(3000,.blk 0 [.c (.v (.int .i64 x0)),.c (.v (.int .i64 x1)),.c (.sl 3 x2 none)])],1⟩)) ∧ p111_1 False fu (p111 False fu) K0 (p111_2L False fu (p111 False fu) K0 x2 x3 n1) x2 x3 z1 z2 j3) (fun L hL_1 => ?_) ?_
 conv => cbv
 refine br_h hO h (by subst hO; rfl) (fun hc2 h => ?_) (fun hc2 h => ?_)
 conv => cbv
 refine br_t hO hc2 ?_
 conv => cbv
 refine br_t hO hc2 ?_
 conv => cbv
 refine br_t hO hc2 ?_
 conv => cbv
 exact hL_1 _ _ ⟨(z0a .leq z1 x3),⟨(by (conv => lhs; cbv) <;> (subst hO; rfl)),(by (conv => lhs; cbv) <;> (subst hO; rfl))⟩,h⟩
 conv => cbv
 refine br_f hO hc2 ?_
 conv => cbv
 refine br_f hO hc2 ?_
 conv => cbv
 refine br_f hO hc2 ?_
 conv => cbv
 exact hL_1 _ _ ⟨false,⟨(by (conv => lhs; cbv) <;> (subst hO; rfl)),(by (conv => lhs; cbv) <;> (subst hO; rfl))⟩,h⟩
 rintro tm m ⟨j3,hs,h⟩
 unfold p111_1 at h
 obtain ⟨rfl,rfl⟩ := hs
 conv => cbv
 refine br_h hO h (by subst hO; rfl) (fun hc1 h => ?_) (fun hc1 h => ?_)
 conv => cbv
 refine z0b hO ?_
 conv => cbv
 refine and_h h (fun g => (by subst hO; exact g)) (fun h => ?_)
 refine and_h h (fun g => (by subst hO; exact g)) (fun h => ?_)
 obtain ⟨c4,c5,c6,hr,h⟩ := z0k h
 refine z0o hO _ (by subst hO; exact hr) ?_
 clear hr
 conv => cbv
 refine z0c hO [.shut,.shut] (ih_p111 O.len hN h) ?_
 intro os Q hos hQ
 conv => cbv
 refine ⟨(by (rw [hos]) <;> (subst hO; rfl)),?_⟩
 intro r bs hq
 rw [hQ] at hq
 clear hos hQ h
 obtain ⟨y7,_,_,⟨rfl,rfl⟩,h⟩ := hq
 conv => cbv
 exact hLn1 n1 _ _ (Nat.lt_succ_self n1) ⟨z0d .add .i64 z1 y7,z0d .add .i64 z2 1,⟨(by (conv => lhs; cbv) <;> (subst hO; rfl)),(by (conv => lhs; cbv) <;> (subst hO; rfl))⟩,h⟩
 conv => cbv
 rw [hQ]
 exact ⟨(if z0d .add .i64 x3 1 < z1 then z0d .add .i64 x3 1 else z1),_,_,⟨(by subst hO; rfl),(by subst hO; rfl)⟩,h⟩)
theorem dd_p111 (fu : Nat) : D_p111 fu := by
 induction fu with
 | zero => unfold D_p111; intros; rename_i h; rw [p111] at h; exact h.elim
 | succ n ih =>
  exact (by unfold D_p111; intro K0 L hN x0 x1 x2 x3 h; exact b_p111 n ih L hN (by rw [p111] at h; exact h))
theorem d_p111 (fu : Nat) : D_p111 fu := dd_p111 fu
theorem d_p138 (fu : Nat) {K0 : Int → Prop} (L : EL → Nat) (hN : L = List.length) {x0 : Int} (h : p138 False fu K0 x0) : Den Try.prog G0 138 [.c (.v (.int .i64 x0))] (fun r bs => (∃ (y0 : Int) (o0 : OV),(r = .c (.v (.int .i64 y0)) ∧ bs = [o0]) ∧ K0 y0)) := by
 obtain ⟨O,hO⟩ : ∃ O,O = std 0 T G0 (Den Try.prog G0) := ⟨_,rfl⟩
 have hLO : L = O.len := by rw [hN,hO]; rfl
 subst hLO
 refine den_h hO tiA mixed tabOk (fn := Try.f138) (sh := true) (by kernel_rfl) rfl rfl rfl rfl ?_
 intro Q hQ
 unfold p138 at h
 conv => cbv
 refine z0h hO tiA h (by subst hO; rfl) [3,4] [] [] (fun tm m => ∃ (j1 : Bool),((tm = frame 0 12 [(3,.c (.v (.int .i64 x0))),(4,.c (.v (.bool j1)))] ∧ m = ⟨[],1⟩)) ∧ p138_2 False fu K0 x0 j1) (fun hc5 h L hL_2 => ?_) (fun hc5 h L hL_2 => ?_) ?_
 conv => cbv
 exact hL_2 _ _ ⟨(z0a .eql x0 0),⟨(by (conv => lhs; cbv) <;> (subst hO; rfl)),(by (conv => lhs; cbv) <;> (subst hO; rfl))⟩,h⟩
 conv => cbv
 exact hL_2 _ _ ⟨(z0a .eql x0 4),⟨(by (conv => lhs; cbv) <;> (subst hO; rfl)),(by (conv => lhs; cbv) <;> (subst hO; rfl))⟩,h⟩
 rintro tm m ⟨j1,hs,h⟩
 unfold p138_2 at h
 obtain ⟨rfl,rfl⟩ := hs
 conv => cbv
 refine br_h hO h (by subst hO; rfl) (fun hc1 h => ?_) (fun hc1 h => ?_)
 conv => cbv
 rw [hQ]
 exact ⟨0,_,⟨(by subst hO; rfl),(by subst hO; rfl)⟩,h⟩
 conv => cbv
 refine br_h hO h (by subst hO; rfl) (fun hc2 h => ?_) (fun hc2 h => ?_)
 conv => cbv
 rw [hQ]
 exact ⟨1,_,⟨(by subst hO; rfl),(by subst hO; rfl)⟩,h⟩
 conv => cbv
 refine z0h hO tiA h (by subst hO; rfl) [9] [] [] (fun tm m => ∃ (j2 : Bool),((tm = frame 0 12 [(9,.c (.v (.bool j2)))] ∧ m = ⟨[],1⟩)) ∧ p138_1 False fu K0 j2) (fun hc4 h L hL_1 => ?_) (fun hc4 h L hL_1 => ?_) ?_
 conv => cbv
 exact hL_1 _ _ ⟨(z0a .eql x0 2),⟨(by (conv => lhs; cbv) <;> (subst hO; rfl)),(by (conv => lhs; cbv) <;> (subst hO; rfl))⟩,h⟩
 conv => cbv
 exact hL_1 _ _ ⟨(z0a .eql x0 3),⟨(by (conv => lhs; cbv) <;> (subst hO; rfl)),(by (conv => lhs; cbv) <;> (subst hO; rfl))⟩,h⟩
 rintro tm m ⟨j2,hs,h⟩
 unfold p138_1 at h
 obtain ⟨rfl,rfl⟩ := hs
 conv => cbv
 refine br_h hO h (by subst hO; rfl) (fun hc3 h => ?_) (fun hc3 h => ?_)
 conv => cbv
 rw [hQ]
 exact ⟨2,_,⟨(by subst hO; rfl),(by subst hO; rfl)⟩,h⟩
 conv => cbv
 refine z0b hO ?_
 conv => cbv
 refine z0b hO ?_
 conv => cbv
 refine z0b hO ?_
 conv => cbv
 rw [hQ]
 exact ⟨(-1),_,⟨(by subst hO; rfl),(by subst hO; rfl)⟩,h⟩
def D_p112 (fu : Nat) : Prop := ∀ {K0 : Bool → Prop} (L : EL → Nat) (_ : L = List.length) {x0 x1 : Int} {x2 : EL} {x3 x4 : Int} (_ : p112 False fu K0 x0 x1 x2 x3 x4),Den Try.prog G0 112 [.agg [.c (.v (.int .i64 x0)),.c (.v (.int .i64 x1)),.c (.sl 3 x2 none)],.c (.v (.int .i64 x3)),.c (.v (.int .i64 x4))] (fun r bs => (∃ (y0 : Bool) (o0 o1 o2 : OV),(r = .c (.v (.bool y0)) ∧ bs = [o0,o1,o2]) ∧ K0 y0))
theorem b_p112 (fu : Nat) (ih_p112 : D_p112 fu) {K0 : Bool → Prop} (L : EL → Nat) (hN : L = List.length) {x0 x1 : Int} {x2 : EL} {x3 x4 : Int} (h : p112_b False fu (p112 False fu) K0 x0 x1 x2 x3 x4) : Den Try.prog G0 112 [.agg [.c (.v (.int .i64 x0)),.c (.v (.int .i64 x1)),.c (.sl 3 x2 none)],.c (.v (.int .i64 x3)),.c (.v (.int .i64 x4))] (fun r bs => (∃ (y0 : Bool) (o0 o1 o2 : OV),(r = .c (.v (.bool y0)) ∧ bs = [o0,o1,o2]) ∧ K0 y0)) := by
 obtain ⟨O,hO⟩ : ∃ O,O = std 0 T G0 (Den Try.prog G0) := ⟨_,rfl⟩
 have hLO : L = O.len := by rw [hN,hO]; rfl
 subst hLO
 refine den_h hO tiA mixed tabOk (fn := Try.f112) (sh := true) (by kernel_rfl) rfl rfl rfl rfl ?_
 intro Q hQ
 unfold p112_b at h
 conv => cbv
 refine z0y hO tiA [[],[]] [(0,true,false),(1,true,false),(2,true,false),(3,true,false),(4,true,false),(6,true,false),(7,true,false),(8,true,false),(5,false,false),(9,true,true),(10,true,true)] (by kernel_rfl) [1,2,3,18] [4000] [] (fun tm m => ∃ (j1 : Bool),((tm = frame 0 60 [(1,.c (.v (.int .i64 x3))),(2,.c (.v (.int .i64 x4))),(3,.p 4000 0 0),(18,.c (.v (.bool j1)))] ∧ m = ⟨[(4000,.blk 0 [.c (.v (.int .i64 x0)),.c (.v (.int .i64 x1)),.c (.sl 3 x2 none)])],1⟩)) ∧ p112_3 False fu (p112 False fu) K0 x0 x1 x2 x3 x4 j1) (fun L hL_3 => ?_) ?_
 conv => cbv
 refine br_h hO h (by subst hO; rfl) (fun hc8 h => ?_) (fun hc8 h => ?_)
 conv => cbv
 refine br_t hO hc8 ?_
 conv => cbv
 refine br_t hO hc8 ?_
 conv => cbv
 refine br_t hO hc8 ?_
 conv => cbv
 refine br_t hO hc8 ?_
 conv => cbv
 refine br_t hO hc8 ?_
 conv => cbv
 refine br_t hO hc8 ?_
 conv => cbv
 refine br_t hO hc8 ?_
 conv => cbv
 exact hL_3 _ _ ⟨true,⟨(by (conv => lhs; cbv) <;> (subst hO; rfl)),(by (conv => lhs; cbv) <;> (subst hO; rfl))⟩,h⟩
 conv => cbv
 refine br_f hO hc8 ?_
 conv => cbv
 refine br_f hO hc8 ?_
 conv => cbv
 refine br_f hO hc8 ?_
 conv => cbv
 refine br_f hO hc8 ?_
 conv => cbv
 refine br_f hO hc8 ?_
 conv => cbv
 refine z0c hO [.shut] (d_p138 fu O.len hN h) ?_
 intro os Q hos hQ
 conv => cbv
 refine ⟨(by (rw [hos]) <;> (subst hO; rfl)),?_⟩
 intro r bs hq
 rw [hQ] at hq
 clear hos hQ h
 obtain ⟨y8,_,⟨rfl,rfl⟩,h⟩ := hq
 conv => cbv
 refine ⟨z0e hO (Nat.le_of_ble_eq_true rfl) rfl,?_⟩
 refine br_f hO hc8 ?_
 conv => cbv
 refine br_f hO hc8 ?_
 conv => cbv
 exact hL_3 _ _ ⟨(z0a .neq y8 ((x2.length : Nat) : Int)),⟨(by (conv => lhs; cbv) <;> (subst hO; rfl)),(by (conv => lhs; cbv) <;> (subst hO; rfl))⟩,h⟩
 rintro tm m ⟨j1,hs,h⟩
 unfold p112_3 at h
 obtain ⟨rfl,rfl⟩ := hs
 conv => cbv
 refine br_h hO h (by subst hO; rfl) (fun hc1 h => ?_) (fun hc1 h => ?_)
 conv => cbv
 rw [hQ]
 exact ⟨false,_,_,_,⟨(by subst hO; rfl),(by subst hO; rfl)⟩,h⟩
 conv => cbv
 refine z0b hO ?_
 conv => cbv
 refine z0l hO tiA [1,2,3,42] [4000] [] (fun tm m => ∃ (j2 : Bool),((tm = frame 0 60 [(1,.c (.v (.int .i64 x3))),(2,.c (.v (.int .i64 x4))),(3,.p 4000 0 0),(42,.c (.v (.bool j2)))] ∧ m = ⟨[(4000,.blk 0 [.c (.v (.int .i64 x0)),.c (.v (.int .i64 x1)),.c (.sl 3 x2 none)])],1⟩)) ∧ p112_2 False fu (p112 False fu) K0 x2 x3 x4 j2) (fun L hL_2 => ?_) ?_
 conv => cbv
 refine br_h hO h (by subst hO; rfl) (fun hc5 h => ?_) (fun hc5 h => ?_)
 conv => cbv
 refine br_t hO hc5 ?_
 conv => cbv
 refine br_t hO hc5 ?_
 conv => cbv
 refine br_t hO hc5 ?_
 conv => cbv
 refine br_h hO h (by subst hO; rfl) (fun hc6 h => ?_) (fun hc6 h => ?_)
 conv => cbv
 refine br_t hO hc6 ?_
 conv => cbv
 refine br_t hO hc6 ?_
 conv => cbv
 refine br_t hO hc6 ?_
 conv => cbv
 refine br_t hO hc5 ?_
 conv => cbv
 refine br_t hO hc6 ?_
 conv => cbv
 refine br_t hO hc5 ?_
 conv => cbv
 refine br_t hO rfl ?_
 conv => cbv
 refine br_t hO rfl ?_
 conv => cbv
 refine br_t hO rfl ?_
 conv => cbv
 refine br_t hO rfl ?_
 conv => cbv
 refine br_t hO rfl ?_
 conv => cbv
 refine br_t hO rfl ?_
 conv => cbv
 exact hL_2 _ _ ⟨true,⟨(by (conv => lhs; cbv) <;> (subst hO; rfl)),(by (conv => lhs; cbv) <;> (subst hO; rfl))⟩,h⟩
 conv => cbv
 refine br_f hO hc6 ?_
 conv => cbv
 refine br_f hO hc6 ?_
 conv => cbv
 refine br_f hO hc6 ?_
 conv => cbv
 refine br_t hO hc5 ?_
 conv => cbv
 refine br_f hO hc6 ?_
 conv => cbv
 refine br_t hO hc5 ?_
 conv => cbv
 refine br_h hO h (by subst hO; rfl) (fun hc7 h => ?_) (fun hc7 h => ?_)
 conv => cbv
 refine br_t hO hc7 ?_
 conv => cbv
 refine br_t hO hc7 ?_
 conv => cbv
 refine br_t hO hc7 ?_
 conv => cbv
 refine br_t hO hc7 ?_
 conv => cbv
 refine br_t hO hc7 ?_
 conv => cbv
 exact hL_2 _ _ ⟨true,⟨(by (conv => lhs; cbv) <;> (subst hO; rfl)),(by (conv => lhs; cbv) <;> (subst hO; rfl))⟩,h⟩
 conv => cbv
 refine br_f hO hc7 ?_
 conv => cbv
 refine br_f hO hc7 ?_
 conv => cbv
 refine br_f hO hc7 ?_
 conv => cbv
 refine br_f hO (z2h hO .eql .neq rfl rfl rfl hc5) ?_
 conv => cbv
 refine br_f hO (z2h hO .eql .neq rfl rfl rfl hc5) ?_
 conv => cbv
 refine br_f hO (z2h hO .eql .neq rfl rfl rfl hc5) ?_
 conv => cbv
 refine br_f hO hc7 ?_
 conv => cbv
 refine br_f hO (z2h hO .eql .neq rfl rfl rfl hc5) ?_
 conv => cbv
 refine br_f hO hc7 ?_
 conv => cbv
 exact hL_2 _ _ ⟨false,⟨(by (conv => lhs; cbv) <;> (subst hO; rfl)),(by (conv => lhs; cbv) <;> (subst hO; rfl))⟩,h⟩
 conv => cbv
 refine br_f hO hc5 ?_
 conv => cbv
 refine br_f hO hc5 ?_
 conv => cbv
 refine br_f hO hc5 ?_
 conv => cbv
 refine br_f hO hc5 ?_
 conv => cbv
 refine br_f hO hc5 ?_
 conv => cbv
 refine br_f hO rfl ?_
 conv => cbv
 refine br_f hO rfl ?_
 conv => cbv
 refine br_f hO rfl ?_
 conv => cbv
 refine br_f hO rfl ?_
 conv => cbv
 refine br_t hO (z2h hO .eql .neq rfl rfl rfl hc5) ?_
 conv => cbv
 refine br_t hO (z2h hO .eql .neq rfl rfl rfl hc5) ?_
 conv => cbv
 refine br_t hO (z2h hO .eql .neq rfl rfl rfl hc5) ?_
 conv => cbv
 refine br_f hO rfl ?_
 conv => cbv
 refine br_t hO (z2h hO .eql .neq rfl rfl rfl hc5) ?_
 conv => cbv
 refine br_f hO rfl ?_
 conv => cbv
 exact hL_2 _ _ ⟨(z0a .neq x1 0),⟨(by (conv => lhs; cbv) <;> (subst hO; rfl)),(by (conv => lhs; cbv) <;> (subst hO; rfl))⟩,h⟩
 rintro tm m ⟨j2,hs,h⟩
 unfold p112_2 at h
 obtain ⟨rfl,rfl⟩ := hs
 conv => cbv
 refine br_h hO h (by subst hO; rfl) (fun hc2 h => ?_) (fun hc2 h => ?_)
 conv => cbv
 rw [hQ]
 exact ⟨false,_,_,_,⟨(by subst hO; rfl),(by subst hO; rfl)⟩,h⟩
 conv => cbv
 refine z0b hO ?_
 conv => cbv
 refine z0s hO tiA [1,2,3,7] [4000] [] (fun (n : Nat) tm m => ∃ (z3 : Int),((tm = frame 0 60 [(1,.c (.v (.int .i64 x3))),(2,.c (.v (.int .i64 x4))),(3,.p 4000 0 0),(7,.c (.v (.int .i64 z3)))] ∧ m = ⟨[(4000,.blk 0 [.c (.v (.int .i64 x0)),.c (.v (.int .i64 x1)),.c (.sl 3 x2 none)])],1⟩)) ∧ p112_1L False fu (p112 False fu) K0 x2 x3 x4 n z3) (fun n => n) fu ⟨0,⟨(by (conv => lhs; cbv) <;> (subst hO; rfl)),(by (conv => lhs; cbv) <;> (subst hO; rfl))⟩,h⟩ ?_
 rintro n1 tm m L ⟨z3,hs,h⟩ hLn1
 (cases n1 with
 | zero => rw [p112_1L] at h; exact h.elim
 | succ n1 =>
 rw [p112_1L] at h
 unfold p112_1 at h
 obtain ⟨rfl,rfl⟩ := hs
 conv => cbv
 refine br_h hO h (by subst hO; rfl) (fun hc3 h => ?_) (fun hc3 h => ?_)
 conv => cbv
 refine z0b hO ?_
 conv => cbv
 refine and_h h (fun g => (by subst hO; exact g)) (fun h => ?_)
 refine and_h h (fun g => (by subst hO; exact g)) (fun h => ?_)
 obtain ⟨c4,c5,c6,hr,h⟩ := z0k h
 refine z0o hO _ (by subst hO; exact hr) ?_
 clear hr
 conv => cbv
 refine z0c hO [.shut,.shut,.shut] (ih_p112 O.len hN h) ?_
 intro os Q hos hQ
 conv => cbv
 refine ⟨(by (rw [hos]) <;> (subst hO; rfl)),?_⟩
 intro r bs hq
 rw [hQ] at hq
 clear hos hQ h
 obtain ⟨y7,_,_,_,⟨rfl,rfl⟩,h⟩ := hq
 conv => cbv
 refine br_h hO h (by subst hO; rfl) (fun hc4 h => ?_) (fun hc4 h => ?_)
 conv => cbv
 rw [hQ]
 exact ⟨false,_,_,_,⟨(by subst hO; rfl),(by subst hO; rfl)⟩,h⟩
 conv => cbv
 refine z0b hO ?_
 conv => cbv
 exact hLn1 n1 _ _ (Nat.lt_succ_self n1) ⟨z0d .add .i64 z3 1,⟨(by (conv => lhs; cbv) <;> (subst hO; rfl)),(by (conv => lhs; cbv) <;> (subst hO; rfl))⟩,h⟩
 conv => cbv
 rw [hQ]
 exact ⟨true,_,_,_,⟨(by subst hO; rfl),(by subst hO; rfl)⟩,h⟩)
theorem dd_p112 (fu : Nat) : D_p112 fu := by
 induction fu with
 | zero => unfold D_p112; intros; rename_i h; rw [p112] at h; exact h.elim
 | succ n ih =>
  exact (by unfold D_p112; intro K0 L hN x0 x1 x2 x3 x4 h; exact b_p112 n ih L hN (by rw [p112] at h; exact h))
theorem d_p112 (fu : Nat) : D_p112 fu := dd_p112 fu
theorem d_p69 (fu : Nat) {K0 : Bool → Prop} (L : EL → Nat) (hN : L = List.length) {x0 x1 : Int} {x2 : EL} {x3 : Int} (h : p69 False fu K0 x0 x1 x2 x3) : Den Try.prog G0 69 [.agg [.c (.v (.int .i64 x0)),.c (.v (.int .i64 x1)),.c (.sl 3 x2 none)],.c (.v (.int .i64 x3))] (fun r bs => (∃ (y0 : Bool) (o0 o1 : OV),(r = .c (.v (.bool y0)) ∧ bs = [o0,o1]) ∧ K0 y0)) := by
 obtain ⟨O,hO⟩ : ∃ O,O = std 0 T G0 (Den Try.prog G0) := ⟨_,rfl⟩
 have hLO : L = O.len := by rw [hN,hO]; rfl
 subst hLO
 refine den_h hO tiA mixed tabOk (fn := Try.f69) (sh := true) (by kernel_rfl) rfl rfl rfl rfl ?_
 intro Q hQ
 unfold p69 at h
 conv => cbv
 refine z0l hO tiA [4] [] [] (fun tm m => ∃ (j1 : Bool),((tm = frame 0 15 [(4,.c (.v (.bool j1)))] ∧ m = ⟨[],1⟩)) ∧ p69_1 False fu K0 j1) (fun L hL_1 => ?_) ?_
 conv => cbv
 refine z0c hO [.shut,.shut] (d_p111 fu O.len hN h) ?_
 intro os Q hos hQ
 conv => cbv
 refine ⟨(by (rw [hos]) <;> (subst hO; rfl)),?_⟩
 intro r bs hq
 rw [hQ] at hq
 clear hos hQ h
 obtain ⟨y2,_,_,⟨rfl,rfl⟩,h⟩ := hq
 conv => cbv
 refine br_h hO h (by subst hO; rfl) (fun hc1 h => ?_) (fun hc1 h => ?_)
 conv => cbv
 refine br_t hO hc1 ?_
 conv => cbv
 refine br_t hO hc1 ?_
 conv => cbv
 refine br_t hO hc1 ?_
 conv => cbv
 refine br_t hO hc1 ?_
 conv => cbv
 refine z0c hO [.shut,.shut,.shut] (d_p112 fu O.len hN h) ?_
 intro os Q hos hQ
 conv => cbv
 refine ⟨(by (rw [hos]) <;> (subst hO; rfl)),?_⟩
 intro r bs hq
 rw [hQ] at hq
 clear hos hQ h
 obtain ⟨y3,_,_,_,⟨rfl,rfl⟩,h⟩ := hq
 conv => cbv
 refine br_t hO hc1 ?_
 conv => cbv
 exact hL_1 _ _ ⟨y3,⟨(by (conv => lhs; cbv) <;> (subst hO; rfl)),(by (conv => lhs; cbv) <;> (subst hO; rfl))⟩,h⟩
 conv => cbv
 refine br_f hO hc1 ?_
 conv => cbv
 refine br_f hO hc1 ?_
 conv => cbv
 refine br_f hO hc1 ?_
 conv => cbv
 refine br_f hO hc1 ?_
 conv => cbv
 refine br_f hO hc1 ?_
 conv => cbv
 exact hL_1 _ _ ⟨false,⟨(by (conv => lhs; cbv) <;> (subst hO; rfl)),(by (conv => lhs; cbv) <;> (subst hO; rfl))⟩,h⟩
 rintro tm m ⟨j1,hs,h⟩
 unfold p69_1 at h
 obtain ⟨rfl,rfl⟩ := hs
 conv => cbv
 rw [hQ]
 exact ⟨j1,_,_,⟨(by subst hO; rfl),(by subst hO; rfl)⟩,h⟩
def D_p61 (fu : Nat) : Prop := ∀ {K0 : Bool → Prop} (L : EL → Nat) (_ : L = List.length) {x0 x1 : Int} {x2 : ByteArray} {x3 x4 : EL} (_ : p61 False fu K0 x0 x1 x2 x3 x4),Den Try.prog G0 61 [.agg [.c (.v (.int .i64 x0)),.c (.v (.int .i64 x1)),.c (.v (.string x2)),.c (.sl 3 x3 none),.c (.sl 5 x4 none)]] (fun r bs => (∃ (y0 : Bool) (o0 : OV),(r = .c (.v (.bool y0)) ∧ bs = [o0]) ∧ K0 y0))
theorem b_p61 (fu : Nat) (ih_p61 : D_p61 fu) {K0 : Bool → Prop} (L : EL → Nat) (hN : L = List.length) {x0 x1 : Int} {x2 : ByteArray} {x3 x4 : EL} (h : p61_b False fu (p61 False fu) K0 x0 x1 x2 x3 x4) : Den Try.prog G0 61 [.agg [.c (.v (.int .i64 x0)),.c (.v (.int .i64 x1)),.c (.v (.string x2)),.c (.sl 3 x3 none),.c (.sl 5 x4 none)]] (fun r bs => (∃ (y0 : Bool) (o0 : OV),(r = .c (.v (.bool y0)) ∧ bs = [o0]) ∧ K0 y0)) := by
 obtain ⟨O,hO⟩ : ∃ O,O = std 0 T G0 (Den Try.prog G0) := ⟨_,rfl⟩
 have hLO : L = O.len := by rw [hN,hO]; rfl
 subst hLO
 refine den_h hO tiA mixed tabOk (fn := Try.f61) (sh := true) (by kernel_rfl) rfl rfl rfl rfl ?_
 intro Q hQ
 unfold p61_b at h
 conv => cbv
 refine br_h hO h (by subst hO; rfl) (fun hc1 h => ?_) (fun hc1 h => ?_)
 conv => cbv
 rw [hQ]
 exact ⟨false,_,⟨(by subst hO; rfl),(by subst hO; rfl)⟩,h⟩
 conv => cbv
 refine z0b hO ?_
 conv => cbv
 refine z0s hO tiA [1,3] [2000] [] (fun (n : Nat) tm m => ∃ (z1 : Int),((tm = frame 0 37 [(1,.p 2000 0 0),(3,.c (.v (.int .i64 z1)))] ∧ m = ⟨[(2000,.blk 0 [.c (.v (.int .i64 x0)),.c (.v (.int .i64 x1)),.c (.v (.string x2)),.c (.sl 3 x3 none),.c (.sl 5 x4 none)])],1⟩)) ∧ p61_2L False fu (p61 False fu) K0 x3 x4 n z1) (fun n => n) fu ⟨0,⟨(by (conv => lhs; cbv) <;> (subst hO; rfl)),(by (conv => lhs; cbv) <;> (subst hO; rfl))⟩,h⟩ ?_
 rintro n1 tm m L ⟨z1,hs,h⟩ hLn1
 (cases n1 with
 | zero => rw [p61_2L] at h; exact h.elim
 | succ n1 =>
 rw [p61_2L] at h
 unfold p61_2 at h
 obtain ⟨rfl,rfl⟩ := hs
 conv => cbv
 refine br_h hO h (by subst hO; rfl) (fun hc2 h => ?_) (fun hc2 h => ?_)
 conv => cbv
 refine z0b hO ?_
 conv => cbv
 refine and_h h (fun g => (by subst hO; exact g)) (fun h => ?_)
 refine and_h h (fun g => (by subst hO; exact g)) (fun h => ?_)
 obtain ⟨c2,c3,c4,hr,h⟩ := z0k h
 refine z0o hO _ (by subst hO; exact hr) ?_
 clear hr
 conv => cbv
 refine z0c hO [.shut,.shut] (d_p69 fu O.len hN h) ?_
 intro os Q hos hQ
 conv => cbv
 refine ⟨(by (rw [hos]) <;> (subst hO; rfl)),?_⟩
 intro r bs hq
 rw [hQ] at hq
 clear hos hQ h
 obtain ⟨y5,_,_,⟨rfl,rfl⟩,h⟩ := hq
 conv => cbv
 refine br_h hO h (by subst hO; rfl) (fun hc3 h => ?_) (fun hc3 h => ?_)
 conv => cbv
 rw [hQ]
 exact ⟨false,_,⟨(by subst hO; rfl),(by subst hO; rfl)⟩,h⟩
 conv => cbv
 refine z0b hO ?_
 conv => cbv
 exact hLn1 n1 _ _ (Nat.lt_succ_self n1) ⟨z0d .add .i64 z1 1,⟨(by (conv => lhs; cbv) <;> (subst hO; rfl)),(by (conv => lhs; cbv) <;> (subst hO; rfl))⟩,h⟩
 conv => cbv
 refine z0s hO tiA [1,4] [2000] [] (fun (n : Nat) tm m => ∃ (z6 : Int),((tm = frame 0 37 [(1,.p 2000 0 0),(4,.c (.v (.int .i64 z6)))] ∧ m = ⟨[(2000,.blk 0 [.c (.v (.int .i64 x0)),.c (.v (.int .i64 x1)),.c (.v (.string x2)),.c (.sl 3 x3 none),.c (.sl 5 x4 none)])],1⟩)) ∧ p61_1L False fu (p61 False fu) K0 x4 n z6) (fun n => n) fu ⟨0,⟨(by (conv => lhs; cbv) <;> (subst hO; rfl)),(by (conv => lhs; cbv) <;> (subst hO; rfl))⟩,h⟩ ?_
 rintro n2 tm m L ⟨z6,hs,h⟩ hLn2
 (cases n2 with
 | zero => rw [p61_1L] at h; exact h.elim
 | succ n2 =>
 rw [p61_1L] at h
 unfold p61_1 at h
 obtain ⟨rfl,rfl⟩ := hs
 conv => cbv
 refine br_h hO h (by subst hO; rfl) (fun hc4 h => ?_) (fun hc4 h => ?_)
 conv => cbv
 refine z0b hO ?_
 conv => cbv
 refine and_h h (fun g => (by subst hO; exact g)) (fun h => ?_)
 refine and_h h (fun g => (by subst hO; exact g)) (fun h => ?_)
 obtain ⟨c7,c8,c9,c10,c11,hr,h⟩ := z0g h
 refine z0o hO _ (by subst hO; exact hr) ?_
 clear hr
 conv => cbv
 refine z0c hO [.shut] (ih_p61 O.len hN h) ?_
 intro os Q hos hQ
 conv => cbv
 refine ⟨(by (rw [hos]) <;> (subst hO; rfl)),?_⟩
 intro r bs hq
 rw [hQ] at hq
 clear hos hQ h
 obtain ⟨y12,_,⟨rfl,rfl⟩,h⟩ := hq
 conv => cbv
 refine br_h hO h (by subst hO; rfl) (fun hc5 h => ?_) (fun hc5 h => ?_)
 conv => cbv
 rw [hQ]
 exact ⟨false,_,⟨(by subst hO; rfl),(by subst hO; rfl)⟩,h⟩
 conv => cbv
 refine z0b hO ?_
 conv => cbv
 exact hLn2 n2 _ _ (Nat.lt_succ_self n2) ⟨z0d .add .i64 z6 1,⟨(by (conv => lhs; cbv) <;> (subst hO; rfl)),(by (conv => lhs; cbv) <;> (subst hO; rfl))⟩,h⟩
 conv => cbv
 rw [hQ]
 exact ⟨true,_,⟨(by subst hO; rfl),(by subst hO; rfl)⟩,h⟩))
theorem dd_p61 (fu : Nat) : D_p61 fu := by
 induction fu with
 | zero => unfold D_p61; intros; rename_i h; rw [p61] at h; exact h.elim
 | succ n ih =>
  exact (by unfold D_p61; intro K0 L hN x0 x1 x2 x3 x4 h; exact b_p61 n ih L hN (by rw [p61] at h; exact h))
theorem d_p61 (fu : Nat) : D_p61 fu := dd_p61 fu
def D_p62 (fu : Nat) : Prop := ∀ {K0 : Bool → Prop} (L : EL → Nat) (_ : L = List.length) {x0 x1 : Int} {x2 : ByteArray} {x3 x4 : EL} (_ : p62 False fu K0 x0 x1 x2 x3 x4),Den Try.prog G0 62 [.agg [.c (.v (.int .i64 x0)),.c (.v (.int .i64 x1)),.c (.v (.string x2)),.c (.sl 3 x3 none),.c (.sl 5 x4 none)]] (fun r bs => (∃ (y0 : Bool) (o0 : OV),(r = .c (.v (.bool y0)) ∧ bs = [o0]) ∧ K0 y0))
theorem b_p62 (fu : Nat) (ih_p62 : D_p62 fu) {K0 : Bool → Prop} (L : EL → Nat) (hN : L = List.length) {x0 x1 : Int} {x2 : ByteArray} {x3 x4 : EL} (h : p62_b False fu (p62 False fu) K0 x0 x1 x2 x3 x4) : Den Try.prog G0 62 [.agg [.c (.v (.int .i64 x0)),.c (.v (.int .i64 x1)),.c (.v (.string x2)),.c (.sl 3 x3 none),.c (.sl 5 x4 none)]] (fun r bs => (∃ (y0 : Bool) (o0 : OV),(r = .c (.v (.bool y0)) ∧ bs = [o0]) ∧ K0 y0)) := by
 obtain ⟨O,hO⟩ : ∃ O,O = std 0 T G0 (Den Try.prog G0) := ⟨_,rfl⟩
 have hLO : L = O.len := by rw [hN,hO]; rfl
 subst hLO
 refine den_h hO tiA mixed tabOk (fn := Try.f62) (sh := true) (by kernel_rfl) rfl rfl rfl rfl ?_
 intro Q hQ
 unfold p62_b at h
 conv => cbv
 refine br_h hO h (by subst hO; rfl) (fun hc1 h => ?_) (fun hc1 h => ?_)
 conv => cbv
 rw [hQ]
 exact ⟨false,_,⟨(by subst hO; rfl),(by subst hO; rfl)⟩,h⟩
 conv => cbv
 refine z0b hO ?_
 conv => cbv
 refine z0s hO tiA [1,3] [2000] [] (fun (n : Nat) tm m => ∃ (z1 : Int),((tm = frame 0 22 [(1,.p 2000 0 0),(3,.c (.v (.int .i64 z1)))] ∧ m = ⟨[(2000,.blk 0 [.c (.v (.int .i64 x0)),.c (.v (.int .i64 x1)),.c (.v (.string x2)),.c (.sl 3 x3 none),.c (.sl 5 x4 none)])],1⟩)) ∧ p62_1L False fu (p62 False fu) K0 x4 n z1) (fun n => n) fu ⟨0,⟨(by (conv => lhs; cbv) <;> (subst hO; rfl)),(by (conv => lhs; cbv) <;> (subst hO; rfl))⟩,h⟩ ?_
 rintro n1 tm m L ⟨z1,hs,h⟩ hLn1
 (cases n1 with
 | zero => rw [p62_1L] at h; exact h.elim
 | succ n1 =>
 rw [p62_1L] at h
 unfold p62_1 at h
 obtain ⟨rfl,rfl⟩ := hs
 conv => cbv
 refine br_h hO h (by subst hO; rfl) (fun hc2 h => ?_) (fun hc2 h => ?_)
 conv => cbv
 refine z0b hO ?_
 conv => cbv
 refine and_h h (fun g => (by subst hO; exact g)) (fun h => ?_)
 refine and_h h (fun g => (by subst hO; exact g)) (fun h => ?_)
 obtain ⟨c2,c3,c4,c5,c6,hr,h⟩ := z0g h
 refine z0o hO _ (by subst hO; exact hr) ?_
 clear hr
 conv => cbv
 refine z0c hO [.shut] (ih_p62 O.len hN h) ?_
 intro os Q hos hQ
 conv => cbv
 refine ⟨(by (rw [hos]) <;> (subst hO; rfl)),?_⟩
 intro r bs hq
 rw [hQ] at hq
 clear hos hQ h
 obtain ⟨y7,_,⟨rfl,rfl⟩,h⟩ := hq
 conv => cbv
 refine br_h hO h (by subst hO; rfl) (fun hc3 h => ?_) (fun hc3 h => ?_)
 conv => cbv
 rw [hQ]
 exact ⟨false,_,⟨(by subst hO; rfl),(by subst hO; rfl)⟩,h⟩
 conv => cbv
 refine z0b hO ?_
 conv => cbv
 exact hLn1 n1 _ _ (Nat.lt_succ_self n1) ⟨z0d .add .i64 z1 1,⟨(by (conv => lhs; cbv) <;> (subst hO; rfl)),(by (conv => lhs; cbv) <;> (subst hO; rfl))⟩,h⟩
 conv => cbv
 rw [hQ]
 exact ⟨true,_,⟨(by subst hO; rfl),(by subst hO; rfl)⟩,h⟩)
theorem dd_p62 (fu : Nat) : D_p62 fu := by
 induction fu with
 | zero => unfold D_p62; intros; rename_i h; rw [p62] at h; exact h.elim
 | succ n ih =>
  exact (by unfold D_p62; intro K0 L hN x0 x1 x2 x3 x4 h; exact b_p62 n ih L hN (by rw [p62] at h; exact h))
theorem d_p62 (fu : Nat) : D_p62 fu := dd_p62 fu
end Go.Proofs.Ythncmjlcmlmnmaa
