/- Terms as trees; how the program reads one. Conditions: none. -/
import Derived.Test.YthncmjlcmlmnmaaRT6
import Derived.Test.YthncmjlcmlmnmaaRT5
namespace Go.Proofs.Ythncmjlcmlmnmaa
open Go V
set_option maxRecDepth 100000
set_option maxHeartbeats 4000000
inductive Tm where
 | mk (k n : Int) (nm : ByteArray) (ls : List Lv) (args : List Tm)
def Tm.k : Tm → Int
 | .mk k _ _ _ _ => k
def Tm.n : Tm → Int
 | .mk _ n _ _ _ => n
def Tm.nm : Tm → ByteArray
 | .mk _ _ s _ _ => s
def Tm.ls : Tm → List Lv
 | .mk _ _ _ l _ => l
def Tm.args : Tm → List Tm
 | .mk _ _ _ _ l => l
mutual
def Tm.row : Tm → List CV
 | .mk k n s l a => [.v (.int .i64 k), .v (.int .i64 n), .v (.string s), .sl 3 (Lv.rows l) none, .sl 5 (Tm.rows a) none]
def Tm.rows : List Tm → EL
 | [] => []
 | a :: l => Tm.row a :: Tm.rows l
end
theorem Tm.row_eq (t : Tm) : t.row = [.v (.int .i64 t.k), .v (.int .i64 t.n), .v (.string t.nm), .sl 3 (Lv.rows t.ls) none, .sl 5 (Tm.rows t.args) none] := by cases t; rfl
theorem Tm.rows_len : ∀ l : List Tm, (Tm.rows l).length = l.length
 | [] => rfl
 | _ :: l => by simp [Tm.rows, Tm.rows_len l]
theorem Tm.rows_append : ∀ a b : List Tm, Tm.rows (a ++ b) = Tm.rows a ++ Tm.rows b
 | [], _ => rfl
 | x :: a, b => by simp [Tm.rows, Tm.rows_append a b]
theorem Tm.rows_get {l : List Tm} {i : Nat} (h : i < l.length) : (Tm.rows l).getD i [] = l[i].row := by
 induction l generalizing i with
 | nil => simp at h
 | cons a l ih => cases i with
  | zero => rfl
  | succ i => simpa [Tm.rows] using ih (by simpa using h)
theorem z5y {ρ : Type} (fail : ρ) (s : List UInt8) (k : ByteArray → ρ) : tobP fail (encB s) k = k ⟨s.toArray⟩ := by
 unfold tobP; rw [z7r]
def z1d (p : Nat) (bs : List UInt8) : Except Int (Lv × List UInt8 × Nat) := match z2r bs with
 | .ok (l, r) => .ok (l, r, p)
 | .error e => .error e
theorem z8l {bs r : List UInt8} {l : Lv} (h : z2r bs = .ok (l, r)) : r.length ≤ bs.length := by
 unfold z2r at h; split at h
 ·rename_i l' r' q h'
  injection h with h; injection h with h1 h2; subst h1 h2
  exact (w0v _ _ _ _ _ _ (by omega) h').1
 ·cases h
theorem z2m {m : Nat} (p : Nat) (bs : List UInt8) (a : Lv) (r : List UInt8) (q : Nat) (hp : p ≤ m) (h : z1d p bs = .ok (a, r, q)) : r.length ≤ bs.length ∧ q ≤ m := by
 unfold z1d at h; split at h
 ·rename_i l' r' h'
  injection h with h; injection h with h1 h; injection h with h2 h3; subst h1 h2 h3
  exact ⟨z8l h', hp⟩
 ·cases h
theorem z5r : ∀ (n p : Nat) (bs : List UInt8) (l : List Lv) (r : List UInt8) (q : Nat), many z1d n p bs = .ok (l, r, q) → q = p
 | 0, p, bs, l, r, q, h => by simp only [many] at h; injection h with h; injection h with _ h; injection h with _ h; exact h.symm
 | n + 1, p, bs, l, r, q, h => by
  simp only [many] at h
  split at h
  ·cases h
  ·rename_i a bs1 p1 h1
   have hp1 : p1 = p := by
    unfold z1d at h1; split at h1
    ·injection h1 with h1; injection h1 with _ h1; injection h1 with _ h1; exact h1.symm
    ·cases h1
   split at h
   ·cases h
   ·rename_i l' bs2 p2 h2
    injection h with h; injection h with _ h; injection h with _ h
    have := z5r n p1 bs1 l' bs2 p2 h2
    omega
def tmN (k : Nat) : Nat := if k = 6 then 3 else 2
def rdTm : Nat → Nat → List UInt8 → Except Int (Tm × List UInt8 × Nat)
 | 0, p, _ => if 2000 < p + 1 then .error 3 else .error 6
 | left + 1, p, bs => if 2000 < p + 1 then .error 3 else match z3m 0 6 bs with
  | .error e => .error e
  | .ok (k, bs) =>
   if k = 0 then (match rdNum bs with
    | .error e => .error e
    | .ok (n, bs) => .ok (.mk 0 (n : Nat) ⟨#[]⟩ [] [], bs, p + 1))
   else if k = 1 then (match many z1d 1 (p + 1) bs with
    | .error e => .error e
    | .ok (l, bs, q) => .ok (.mk 1 0 ⟨#[]⟩ l [], bs, q))
   else if k = 2 then (match rdTxt 24 bs with
    | .error e => .error e
    | .ok (s, bs) => match rdNum bs with
     | .error e => .error e
     | .ok (n, bs) => if 4 < n then .error 7 else match many z1d n (p + 1) bs with
      | .error e => .error e
      | .ok (l, bs, q) => .ok (.mk 2 0 ⟨s.toArray⟩ l [], bs, q))
   else match many (rdTm left) (tmN k) (p + 1) bs with
    | .error e => .error e
    | .ok (l, bs, q) => .ok (.mk (k : Nat) 0 ⟨#[]⟩ [] l, bs, q)
theorem z7y {m : Nat} {bs s r : List UInt8} (h : rdTxt m bs = .ok (s, r)) : s.length ≤ m ∧ r.length < bs.length ∧ bs = varB s.length ++ (s ++ r) ∧ s.length < 2 ^ 64 := by
 unfold rdTxt at h; split at h
 ·rename_i v r' hr
  split at h
  ·cases h
  ·split at h
   ·cases h
   ·injection h with h; injection h with h1 h2; subst h1; subst h2
    obtain ⟨h1, h2, h3⟩ := w2b hr
    have hl : (r'.take v).length = v := by rw [List.length_take]; omega
    refine ⟨by omega, by rw [List.length_drop]; omega, ?_, by omega⟩
    rw [hl, List.take_append_drop]; exact h3
 ·cases h
theorem z6f : ∀ (left p : Nat) (bs : List UInt8) (l : Tm) (r : List UInt8) (q : Nat), p ≤ 2000 → rdTm left p bs = .ok (l, r, q) → r.length ≤ bs.length ∧ q ≤ 2000
 | 0, p, bs, l, r, q, hp, h => by simp only [rdTm] at h; split at h <;> cases h
 | left + 1, p, bs, l, r, q, hp, h => by
  simp only [rdTm] at h
  split at h
  ·cases h
  ·split at h
   ·cases h
   ·rename_i k bs1 hk
    have h1 := z2n hk
    split at h
    ·split at h
     ·cases h
     ·rename_i n bs2 hn
      have h2 := z1m hn
      injection h with h; injection h with _ h; injection h with h3 h4; subst h3 h4; exact ⟨by omega, by omega⟩
    ·split at h
     ·split at h
      ·cases h
      ·rename_i l2 bs2 p2 hm
       injection h with h; injection h with _ h; injection h with h3 h4; subst h3 h4
       have := z3p (m := 2000) z2m _ _ _ _ _ _ (by omega) hm
       exact ⟨by omega, this.2.1⟩
     ·split at h
      ·split at h
       ·cases h
       ·rename_i s bs2 hs
        have h2 := z7y hs
        split at h
        ·cases h
        ·rename_i n bs3 hn
         have h3 := z1m hn
         split at h
         ·cases h
         ·split at h
          ·cases h
          ·rename_i l2 bs4 p2 hm
           injection h with h; injection h with _ h; injection h with h4 h5; subst h4 h5
           have := z3p (m := 2000) z2m _ _ _ _ _ _ (by omega) hm
           exact ⟨by omega, this.2.1⟩
      ·split at h
       ·cases h
       ·rename_i l2 bs2 p2 hm
        injection h with h; injection h with _ h; injection h with h3 h4; subst h3 h4
        have := z3p (m := 2000) (fun p bs a r q => z6f left p bs a r q) _ _ _ _ _ _ (by omega) hm
        exact ⟨by omega, this.2.1⟩
abbrev TK8 (ρ : Type) := Int → Int → ByteArray → EL → EL → EL → Int → Int → ρ
def TmOut {ρ : Type} (p : TK8 ρ → ρ) : Except Int (Tm × List UInt8 × Nat) → Prop
 | .ok (t, bs, q) => ∀ K : TK8 ρ, p K = K t.k t.n t.nm (Lv.rows t.ls) (Tm.rows t.args) (encB bs) 0 (q : Nat)
 | .error e => e ≠ 0 ∧ ∃ a b c l g B q, ∀ K : TK8 ρ, p K = K a b c l g B e q
section
variable {ρ : Type} (fail : ρ) (fu : Nat) (s : TK8 ρ → EL → Int → Int → Int → ρ)
theorem w1m (f : Nat → List UInt8 → Except Int (Tm × List UInt8 × Nat)) (d : Int) (k n0 : Int) (nm : ByteArray) (L : EL)
  (hf : ∀ p bs a r q, p ≤ 2000 → f p bs = .ok (a, r, q) → r.length ≤ bs.length ∧ q ≤ 2000) (N : Nat) (hs : ∀ bs p, bs.length ≤ N → p ≤ 2000 → TmOut (fun K => s K (encB bs) 0 (z0d .add .i64 d 1) (p : Nat)) (f p bs)) :
  ∀ (r n : Nat) (bs : List UInt8) (p : Nat) (z : EL) (i : Nat), bs.length ≤ N → p ≤ 2000 → z.length ≤ i → i + r ≤ 1000 → r < n →
   match many f r p bs with
   | .ok (l, bs', q) => ∀ K : TK8 ρ, p109_1L fail fu s K d k n0 nm ((i + r : Nat) : Int) L n (encB bs) 0 (p : Nat) z (i : Nat) = K k n0 nm L (z ++ Tm.rows l) (encB bs') 0 (q : Nat)
   | .error e => e ≠ 0 ∧ ∃ g B q, ∀ K : TK8 ρ, p109_1L fail fu s K d k n0 nm ((i + r : Nat) : Int) L n (encB bs) 0 (p : Nat) z (i : Nat) = K k n0 nm L g B e q
 | 0, n + 1, bs, p, z, i, hb, hp, hz, hi, hn => by
  simp only [many]
  intro K
  rw [p109_1L, p109_1, lssF (by omega), cond_false]
  simp [Tm.rows]
 | r + 1, n + 1, bs, p, z, i, hb, hp, hz, hi, hn => by
  have h1 := hs bs p hb hp
  simp only [many]
  have step : ∀ K : TK8 ρ, p109_1L fail fu s K d k n0 nm ((i + (r + 1) : Nat) : Int) L (n + 1) (encB bs) 0 (p : Nat) z (i : Nat) = s (fun a b c l g B e q =>
    p109_1L fail fu s K d k n0 nm ((i + 1 + r : Nat) : Int) L n B e q (z ++ [[.v (.int .i64 a), .v (.int .i64 b), .v (.string c), .sl 3 l none, .sl 5 g none]]) ((i + 1 : Nat) : Int)) (encB bs) 0 (z0d .add .i64 d 1) (p : Nat) := fun K => by
   rw [p109_1L, p109_1, lssT (by omega), cond_true, neqF rfl, cond_false]
   congr 1
   funext a b c l g B e q
   rw [gd_y (by simp), gd_y (by simp; omega), addZ (by omega) (by omega), show ((i : Nat) : Int) + 1 = ((i + 1 : Nat) : Int) by omega, show i + (r + 1) = i + 1 + r by omega]
   rfl
  cases hfv : f p bs with
  | error e =>
   rw [hfv] at h1
   obtain ⟨he, a, b, c, l, g, B, q, h1⟩ := h1
   dsimp only at h1
   refine ⟨he, z ++ [[.v (.int .i64 a), .v (.int .i64 b), .v (.string c), .sl 3 l none, .sl 5 g none]], B, q, fun K => ?_⟩
   try dsimp only
   rw [step, h1]
   obtain ⟨n, rfl⟩ : ∃ n', n = n' + 1 := ⟨n - 1, by omega⟩
   rw [p109_1L, p109_1]
   cases r with
   | zero => rw [lssF (by omega), cond_false]
   | succ r => rw [lssT (by omega), cond_true, neqT he, cond_true]
  | ok x =>
   obtain ⟨a, bs1, p1⟩ := x
   rw [hfv] at h1
   simp only [TmOut] at h1
   have h2 := hf _ _ _ _ _ hp hfv
   have ih := w1m f d k n0 nm L hf N hs r n bs1 p1 (z ++ [a.row]) (i + 1) (by omega) h2.2 (by simp; omega) (by omega) (by omega)
   have hrow : ∀ K : TK8 ρ, p109_1L fail fu s K d k n0 nm ((i + (r + 1) : Nat) : Int) L (n + 1) (encB bs) 0 (p : Nat) z (i : Nat) = p109_1L fail fu s K d k n0 nm ((i + 1 + r : Nat) : Int) L n (encB bs1) 0 (p1 : Nat) (z ++ [a.row]) ((i + 1 : Nat) : Int) := fun K => by
    rw [step, h1, Tm.row_eq]
   dsimp only
   cases hm : many f r p1 bs1 with
   | error e =>
    rw [hm] at ih
    obtain ⟨he, c, B, q, h3⟩ := ih
    exact ⟨he, c, B, q, fun K => by rw [hrow, h3]⟩
   | ok x =>
    obtain ⟨l, bs2, p2⟩ := x
    rw [hm] at ih
    intro K
    rw [hrow, ih, List.append_assoc]; rfl
theorem z5z (hfu : 50 ≤ fu) (d y3 : Int) (k n0 : Int) (nm : ByteArray) (na : Int) (N : Nat) (hN : N ≤ 1099511627776) :
  ∀ (r n : Nat) (bs : List UInt8) (p : Nat) (z : EL) (i : Nat), bs.length ≤ N → z.length ≤ i → i + r ≤ 1000 → r < n →
   match many z1d r p bs with
   | .ok (l, bs', q) => ∀ K : TK8 ρ, p109_2L fail fu s K d y3 k n0 nm na ((i + r : Nat) : Int) n (encB bs) 0 z (i : Nat) = p109_1L fail fu s K d k n0 nm na (z ++ Lv.rows l) fu (encB bs') 0 y3 nilE 0
   | .error e => e ≠ 0 ∧ ∃ l B, ∀ K : TK8 ρ, na = 0 → p109_2L fail fu s K d y3 k n0 nm na ((i + r : Nat) : Int) n (encB bs) 0 z (i : Nat) = K k n0 nm l nilE B e y3
 | 0, n + 1, bs, p, z, i, hb, hz, hi, hn => by
  simp only [many]
  intro K
  rw [p109_2L, p109_2, lssF (by omega), cond_false]
  simp [Lv.rows]
 | r + 1, n + 1, bs, p, z, i, hb, hz, hi, hn => by
  have h1 := k2j fail fu hfu bs (by omega)
  simp only [many]
  have step : ∀ K : TK8 ρ, p109_2L fail fu s K d y3 k n0 nm na ((i + (r + 1) : Nat) : Int) (n + 1) (encB bs) 0 z (i : Nat) = p67 fail fu (fun a b c B e =>
    p109_2L fail fu s K d y3 k n0 nm na ((i + 1 + r : Nat) : Int) n B e (z ++ [[.v (.int .i64 a), .v (.int .i64 b), .sl 3 c none]]) ((i + 1 : Nat) : Int)) (encB bs) 0 := fun K => by
   rw [p109_2L, p109_2, lssT (by omega), cond_true, neqF rfl, cond_false]
   congr 1
   funext a b c B e
   rw [gd_y (by simp), gd_y (by simp; omega), addZ (by omega) (by omega), show ((i : Nat) : Int) + 1 = ((i + 1 : Nat) : Int) by omega, show i + (r + 1) = i + 1 + r by omega]
   rfl
  unfold z1d
  cases hfv : z2r bs with
  | error e =>
   rw [hfv] at h1
   obtain ⟨he, a, b, c, B, h1⟩ := h1
   dsimp only at h1
   refine ⟨he, z ++ [[.v (.int .i64 a), .v (.int .i64 b), .sl 3 c none]], B, fun K hna => ?_⟩
   try dsimp only
   rw [step, h1]
   obtain ⟨n, rfl⟩ : ∃ n', n = n' + 1 := ⟨n - 1, by omega⟩
   rw [p109_2L, p109_2]
   cases r with
   | zero =>
    rw [lssF (by omega), cond_false]
    obtain ⟨m, hm⟩ : ∃ m, fu = m + 1 := ⟨fu - 1, by omega⟩
    have : ∀ m', m' = m + 1 → p109_1L fail fu s K d k n0 nm na (z ++ [[.v (.int .i64 a), .v (.int .i64 b), .sl 3 c none]]) m' B e y3 nilE 0 = K k n0 nm (z ++ [[.v (.int .i64 a), .v (.int .i64 b), .sl 3 c none]]) nilE B e y3 := fun m' h => by
     subst h; rw [p109_1L, p109_1, lssF (by omega), cond_false]
    exact this fu hm
   | succ r => rw [lssT (by omega), cond_true, neqT he, cond_true]
  | ok x =>
   obtain ⟨a, bs1⟩ := x
   rw [hfv] at h1
   simp only [LvO2] at h1
   have h2 := z8l hfv
   have ih := z5z hfu d y3 k n0 nm na N hN r n bs1 p (z ++ [a.row]) (i + 1) (by omega) (by simp; omega) (by omega) (by omega)
   have hrow : ∀ K : TK8 ρ, p109_2L fail fu s K d y3 k n0 nm na ((i + (r + 1) : Nat) : Int) (n + 1) (encB bs) 0 z (i : Nat) = p109_2L fail fu s K d y3 k n0 nm na ((i + 1 + r : Nat) : Int) n (encB bs1) 0 (z ++ [a.row]) ((i + 1 : Nat) : Int) := fun K => by
    rw [step, h1, Lv.row_eq]
   dsimp only
   cases hm : many z1d r p bs1 with
   | error e =>
    rw [hm] at ih
    obtain ⟨he, c, B, h3⟩ := ih
    have hm' : many (fun p bs => match z2r bs with | .ok (l, r) => Except.ok (l, r, p) | .error e => .error e) r p bs1 = .error e := hm
    rw [hm']
    exact ⟨he, c, B, fun K hna => by rw [hrow, h3 K hna]⟩
   | ok x =>
    obtain ⟨l, bs2, p2⟩ := x
    rw [hm] at ih
    have hm' : many (fun p bs => match z2r bs with | .ok (l, r) => Except.ok (l, r, p) | .error e => .error e) r p bs1 = .ok (l, bs2, p2) := hm
    rw [hm']
    intro K
    rw [hrow, ih, List.append_assoc]; rfl
theorem w1n (hfu : 2 ≤ fu) (K : TK8 ρ) (d y3 k n0 : Int) (nm : ByteArray) (na nl : Int) (B : EL) (e : Int) (he : e ≠ 0) (hna : 0 ≤ na) (hnl : 0 ≤ nl) : p109_2L fail fu s K d y3 k n0 nm na nl fu B e nilE 0 = K k n0 nm nilE nilE B e y3 := by
 obtain ⟨m, hm⟩ : ∃ m, fu = m + 1 := ⟨fu - 1, by omega⟩
 have h1 : ∀ m', m' = m + 1 → p109_1L fail fu s K d k n0 nm na nilE m' B e y3 nilE 0 = K k n0 nm nilE nilE B e y3 := fun m' h => by
  subst h; rw [p109_1L, p109_1]
  by_cases h0 : 0 < na
  ·rw [lssT h0, cond_true, neqT he, cond_true]
  ·rw [lssF (by omega), cond_false]
 have h2 : ∀ m', m' = m + 1 → p109_2L fail fu s K d y3 k n0 nm na nl m' B e nilE 0 = K k n0 nm nilE nilE B e y3 := fun m' h => by
  subst h; rw [p109_2L, p109_2]
  by_cases h0 : 0 < nl
  ·rw [lssT h0, cond_true, neqT he, cond_true]
  ·rw [lssF (by omega), cond_false]; exact h1 fu hm
 exact h2 fu hm
end
theorem term_rd {ρ : Type} (fail : ρ) : ∀ (left fu : Nat), left + 60 ≤ fu → left ≤ 100 → ∀ (bs : List UInt8) (p : Nat), bs.length ≤ 1099511627776 → p ≤ 2000 →
  TmOut (fun K => p109 fail fu K (encB bs) 0 ((101 - left : Nat) : Int) (p : Nat)) (rdTm left p bs) := by
 intro left
 induction left with
 | zero =>
  intro fu hf hl bs p hb hp
  obtain ⟨m, rfl⟩ : ∃ m, fu = m + 1 := ⟨fu - 1, by omega⟩
  have hpart := fun K => w0z (ρ := ρ) fail m K (encB bs) p 2000 101 100 (by omega)
  simp only [rdTm]
  by_cases h1 : 2000 < p + 1
  ·rw [if_pos h1]
   refine ⟨by omega, 0, 0, ⟨#[]⟩, nilE, nilE, encB bs, ((p + 1 : Nat) : Int), fun K => ?_⟩
   try dsimp only
   rw [p109, p109_b]
   erw [hpart]
   rw [if_pos h1, neqT (by omega), cond_true]
  ·rw [if_neg h1]
   refine ⟨by omega, 0, 0, ⟨#[]⟩, nilE, nilE, encB bs, ((p + 1 : Nat) : Int), fun K => ?_⟩
   try dsimp only
   rw [p109, p109_b]
   erw [hpart]
   rw [if_neg h1, if_pos (by omega), neqT (by omega), cond_true]
 | succ left ih =>
  intro fu hf hl bs p hb hp
  obtain ⟨m, rfl⟩ : ∃ m, fu = m + 1 := ⟨fu - 1, by omega⟩
  have hpart := fun K => w0z (ρ := ρ) fail m K (encB bs) p 2000 (101 - (left + 1)) 100 (by omega)
  have hkind := w1f (ρ := ρ) fail m (by omega) bs hb 0 6 (by omega) (by omega)
  simp only [rdTm]
  by_cases h1 : 2000 < p + 1
  ·rw [if_pos h1]
   refine ⟨by omega, 0, 0, ⟨#[]⟩, nilE, nilE, encB bs, ((p + 1 : Nat) : Int), fun K => ?_⟩
   try dsimp only
   rw [p109, p109_b]
   erw [hpart]
   rw [if_pos h1, neqT (by omega), cond_true]
  ·rw [if_neg h1]
   generalize hs : p109 fail m = s
   generalize hd0 : ((101 - (left + 1) : Nat) : Int) = d at hpart
   have hd : z0d .add .i64 d 1 = ((101 - left : Nat) : Int) := by subst hd0; rw [addZ (by omega) (by omega)]; omega
   generalize hq0 : ((p + 1 : Nat) : Int) = q at hpart
   have hb1 : ∀ K : TK8 ρ, p109 fail (m + 1) K (encB bs) 0 d (p : Nat) = p93 fail m (fun y4 y5 y6 => bif (z0a .eql y4 0) then (p91 fail m (fun y35 y36 y37 => p109_3 fail m s K d q y4 y36 y37 y35 ⟨#[]⟩ 0 0) y5 y6) else (bif (z0a .eql y4 1) then (p109_4 fail m s K d q y4 y5 y6 ⟨#[]⟩ 0 1) else (bif (z0a .eql y4 2) then (p95 fail m (fun y48 y49 y50 => tobP fail y48 (fun s51 => p91 fail m (fun y52 y53 y54 => bif (z0a .gtr y52 4) then (p94 fail m (fun y57 y58 => p109_6 fail m s K d q y4 s51 y52 y57 y58) y53 y54 7) else (p109_6 fail m s K d q y4 s51 y52 y53 y54)) y49 y50)) y5 y6 24) else (bif (z0a .eql y4 6) then (p109_7 fail m s K d q y4 y5 y6 3) else (p109_7 fail m s K d q y4 y5 y6 2))))) (encB bs) 0 ((0 : Nat) : Int) ((6 : Nat) : Int) := fun K => by
    rw [p109, p109_b, hs]
    erw [hpart]
    rw [if_neg h1, if_neg (by omega), neqF rfl, cond_false]
    rfl
   cases hk : z3m 0 6 bs with
   | error e =>
    rw [hk] at hkind
    obtain ⟨he, B, hB⟩ := hkind
    dsimp only at hB
    refine ⟨he, 0, 0, ⟨#[]⟩, nilE, nilE, B, q, fun K => ?_⟩
    try dsimp only
    rw [hb1, hB]
    rw [eqlT (by omega), cond_true, numE _ _ _ _ _ he, p109_3]
    exact w1n fail m s (by omega) K d q _ _ _ 0 0 B e he (by omega) (by omega)
   | ok x =>
    obtain ⟨k, bs1⟩ := x
    have hk1 := z2n hk
    rw [hk] at hkind
    simp only [KOut] at hkind
    dsimp only
    by_cases k0 : k = 0
    ·subst k0
     rw [if_pos rfl]
     have hb3 : ∀ K : TK8 ρ, p109 fail (m + 1) K (encB bs) 0 d (p : Nat) = p91 fail m (fun y35 y36 y37 => p109_3 fail m s K d q ((0 : Nat) : Int) y36 y37 y35 ⟨#[]⟩ 0 0) (encB bs1) 0 := fun K => by
      rw [hb1, hkind, eqlT (by omega), cond_true]
     have hnum := z7l (ρ := ρ) fail m (by omega) bs1 (by omega)
     cases hn : rdNum bs1 with
     | error e =>
      rw [hn] at hnum
      obtain ⟨he, B, hB⟩ := hnum
      dsimp only at hB
      refine ⟨he, ((0 : Nat) : Int), 0, ⟨#[]⟩, nilE, nilE, B, q, fun K => ?_⟩
      try dsimp only
      rw [hb3, hB, p109_3]
      exact w1n fail m s (by omega) K d q _ _ _ 0 0 B e he (by omega) (by omega)
     | ok x =>
      obtain ⟨n, bs2⟩ := x
      rw [hn] at hnum
      simp only [KOut] at hnum
      intro K
      dsimp only
      rw [hb3, hnum, p109_3]
      have h3 := z5z fail m s (by omega) d q ((0 : Nat) : Int) ((n : Nat) : Int) ⟨#[]⟩ 0 1099511627776 (by omega) 0 m bs2 (p + 1) nilE 0 (by have := z1m hn; omega) (by simp) (by omega) (by omega)
      simp only [many] at h3
      have h4 := w1m fail m s (rdTm left) d ((0 : Nat) : Int) ((n : Nat) : Int) ⟨#[]⟩ nilE (fun p bs a r q => z6f left p bs a r q) 1099511627776 (fun bs p hb hp => by rw [hd, ← hs]; exact ih m (by omega) (by omega) bs p hb hp) 0 m bs2 (p + 1) nilE 0 (by have := z1m hn; omega) (by omega) (by simp) (by omega) (by omega)
      simp only [many] at h4
      rw [hq0] at h4 ⊢
      exact (h3 K).trans (h4 K)
    rw [if_neg k0]
    by_cases k1 : k = 1
    ·subst k1
     rw [if_pos rfl]
     have hb3 : ∀ K : TK8 ρ, p109 fail (m + 1) K (encB bs) 0 d (p : Nat) = p109_2L fail m s K d q ((1 : Nat) : Int) 0 ⟨#[]⟩ 0 ((0 + 1 : Nat) : Int) m (encB bs1) 0 nilE ((0 : Nat) : Int) := fun K => by
      rw [hb1, hkind, eqlF (by omega), cond_false, eqlT (by omega), cond_true, p109_4, p109_3]; rfl
     have h3 := z5z fail m s (by omega) d q ((1 : Nat) : Int) 0 ⟨#[]⟩ 0 1099511627776 (by omega) 1 m bs1 (p + 1) nilE 0 (by omega) (by simp) (by omega) (by omega)
     cases hm : many z1d 1 (p + 1) bs1 with
     | error e =>
      rw [hm] at h3
      obtain ⟨he, l, B, h3⟩ := h3
      exact ⟨he, _, _, _, l, nilE, B, q, fun K => by dsimp only; rw [hb3]; exact h3 K rfl⟩
     | ok x =>
      obtain ⟨l, bs2, p2⟩ := x
      rw [hm] at h3
      have hsub := z3p (m := 2000) z2m _ _ _ _ _ _ (by omega) hm
      have hp2 : p2 = p + 1 := z5r _ _ _ _ _ _ hm
      intro K
      dsimp only
      have h4 := w1m fail m s (rdTm left) d ((1 : Nat) : Int) 0 ⟨#[]⟩ (Lv.rows l) (fun p bs a r q => z6f left p bs a r q) 1099511627776 (fun bs p hb hp => by rw [hd, ← hs]; exact ih m (by omega) (by omega) bs p hb hp) 0 m bs2 (p + 1) nilE 0 (by omega) (by omega) (by simp) (by omega) (by omega)
      simp only [many] at h4
      rw [hb3, h3 K, List.nil_append, hp2]
      rw [hq0] at h4 ⊢
      exact h4 K
    rw [if_neg k1]
    by_cases k2 : k = 2
    ·subst k2
     rw [if_pos rfl]
     have htxt := w8f (ρ := ρ) fail m (by omega) bs1 (by omega) 24 (by omega)
     have hb3 : ∀ K : TK8 ρ, p109 fail (m + 1) K (encB bs) 0 d (p : Nat) = p95 fail m (fun y48 y49 y50 => tobP fail y48 (fun s51 => p91 fail m (fun y52 y53 y54 => bif (z0a .gtr y52 4) then (p94 fail m (fun y57 y58 => p109_6 fail m s K d q ((2 : Nat) : Int) s51 y52 y57 y58) y53 y54 7) else (p109_6 fail m s K d q ((2 : Nat) : Int) s51 y52 y53 y54)) y49 y50)) (encB bs1) 0 ((24 : Nat) : Int) := fun K => by
      rw [hb1, hkind, eqlF (by omega), cond_false, eqlF (by omega), cond_false, eqlT (by omega), cond_true]; rfl
     cases ht : rdTxt 24 bs1 with
     | error e =>
      rw [ht] at htxt
      obtain ⟨he, B, hB⟩ := htxt
      dsimp only at hB
      refine ⟨he, ((2 : Nat) : Int), 0, ⟨#[]⟩, nilE, nilE, B, q, fun K => ?_⟩
      try dsimp only
      rw [hb3, hB, show (nilE : EL) = encB [] from rfl, z5y, numE _ _ _ _ _ he, gtrF (by omega), cond_false, p109_6, p109_5, p109_4, p109_3]
      exact w1n fail m s (by omega) K d q _ _ _ 0 0 B e he (by omega) (by omega)
     | ok x =>
      obtain ⟨sx, bs2⟩ := x
      have ht1 := z7y ht
      rw [ht] at htxt
      simp only [SOut] at htxt
      dsimp only
      have hb4 : ∀ K : TK8 ρ, p109 fail (m + 1) K (encB bs) 0 d (p : Nat) = p91 fail m (fun y52 y53 y54 => bif (z0a .gtr y52 4) then (p94 fail m (fun y57 y58 => p109_6 fail m s K d q ((2 : Nat) : Int) ⟨sx.toArray⟩ y52 y57 y58) y53 y54 7) else (p109_6 fail m s K d q ((2 : Nat) : Int) ⟨sx.toArray⟩ y52 y53 y54)) (encB bs2) 0 := fun K => by
       rw [hb3, htxt, z5y]
      have hnum := z7l (ρ := ρ) fail m (by omega) bs2 (by omega)
      cases hn : rdNum bs2 with
      | error e =>
       rw [hn] at hnum
       obtain ⟨he, B, hB⟩ := hnum
       dsimp only at hB
       refine ⟨he, ((2 : Nat) : Int), 0, ⟨sx.toArray⟩, nilE, nilE, B, q, fun K => ?_⟩
       try dsimp only
       rw [hb4, hB, gtrF (by omega), cond_false, p109_6, p109_5, p109_4, p109_3]
       exact w1n fail m s (by omega) K d q _ _ _ 0 0 B e he (by omega) (by omega)
      | ok x =>
       obtain ⟨n, bs3⟩ := x
       have hn1 := z1m hn
       rw [hn] at hnum
       simp only [KOut] at hnum
       dsimp only
       by_cases h4 : 4 < n
       ·rw [if_pos h4]
        refine ⟨by omega, ((2 : Nat) : Int), 0, ⟨sx.toArray⟩, nilE, nilE, encB bs3, q, fun K => ?_⟩
        try dsimp only
        rw [hb4, hnum, gtrT (by omega), cond_true, z2o, p109_6, p109_5, p109_4, p109_3]
        exact w1n fail m s (by omega) K d q _ _ _ 0 _ (encB bs3) 7 (by omega) (by omega) (by omega)
       ·rw [if_neg h4]
        have hb5 : ∀ K : TK8 ρ, p109 fail (m + 1) K (encB bs) 0 d (p : Nat) = p109_2L fail m s K d q ((2 : Nat) : Int) 0 ⟨sx.toArray⟩ 0 ((0 + n : Nat) : Int) m (encB bs3) 0 nilE ((0 : Nat) : Int) := fun K => by
         rw [hb4, hnum, gtrF (by omega), cond_false, p109_6, p109_5, p109_4, p109_3, Nat.zero_add]; rfl
        have h3 := z5z fail m s (by omega) d q ((2 : Nat) : Int) 0 ⟨sx.toArray⟩ 0 1099511627776 (by omega) n m bs3 (p + 1) nilE 0 (by omega) (by simp) (by omega) (by omega)
        cases hm : many z1d n (p + 1) bs3 with
        | error e =>
         rw [hm] at h3
         obtain ⟨he, l, B, h3⟩ := h3
         exact ⟨he, _, _, _, l, nilE, B, q, fun K => by dsimp only; rw [hb5]; exact h3 K rfl⟩
        | ok x =>
         obtain ⟨l, bs4, p2⟩ := x
         rw [hm] at h3
         have hsub := z3p (m := 2000) z2m _ _ _ _ _ _ (by omega) hm
         have hp2 : p2 = p + 1 := z5r _ _ _ _ _ _ hm
         intro K
         dsimp only
         have h5 := w1m fail m s (rdTm left) d ((2 : Nat) : Int) 0 ⟨sx.toArray⟩ (Lv.rows l) (fun p bs a r q => z6f left p bs a r q) 1099511627776 (fun bs p hb hp => by rw [hd, ← hs]; exact ih m (by omega) (by omega) bs p hb hp) 0 m bs4 (p + 1) nilE 0 (by omega) (by omega) (by simp) (by omega) (by omega)
         simp only [many] at h5
         rw [hb5, h3 K, List.nil_append, hp2]
         rw [hq0] at h5 ⊢
         exact h5 K
    rw [if_neg k2]
    have hb3 : ∀ K : TK8 ρ, p109 fail (m + 1) K (encB bs) 0 d (p : Nat) = p109_2L fail m s K d q ((k : Nat) : Int) 0 ⟨#[]⟩ ((0 + tmN k : Nat) : Int) ((0 + 0 : Nat) : Int) m (encB bs1) 0 nilE ((0 : Nat) : Int) := fun K => by
     rw [hb1, hkind, eqlF (by omega), cond_false, eqlF (by omega), cond_false, eqlF (by omega), cond_false]
     by_cases k6 : k = 6
     ·rw [eqlT (by omega), cond_true, p109_7, p109_5, p109_4, p109_3, tmN, if_pos k6]; rfl
     ·rw [eqlF (by omega), cond_false, p109_7, p109_5, p109_4, p109_3, tmN, if_neg k6]; rfl
    have htN : tmN k ≤ 3 := by unfold tmN; split <;> omega
    have h3 := z5z fail m s (by omega) d q ((k : Nat) : Int) 0 ⟨#[]⟩ ((0 + tmN k : Nat) : Int) 1099511627776 (by omega) 0 m bs1 (p + 1) nilE 0 (by omega) (by simp) (by omega) (by omega)
    simp only [many] at h3
    have h4 := w1m fail m s (rdTm left) d ((k : Nat) : Int) 0 ⟨#[]⟩ nilE (fun p bs a r q => z6f left p bs a r q) 1099511627776 (fun bs p hb hp => by rw [hd, ← hs]; exact ih m (by omega) (by omega) bs p hb hp) (tmN k) m bs1 (p + 1) nilE 0 (by omega) (by omega) (by simp) (by omega) (by omega)
    rw [hq0] at h4
    cases hm : many (rdTm left) (tmN k) (p + 1) bs1 with
    | error e =>
     rw [hm] at h4
     obtain ⟨he, g, B, q', h4⟩ := h4
     exact ⟨he, _, _, _, nilE, g, B, q', fun K => by dsimp only; rw [hb3, h3 K]; exact h4 K⟩
    | ok x =>
     obtain ⟨l, bs2, p2⟩ := x
     rw [hm] at h4
     intro K
     dsimp only
     rw [hb3, h3 K]; exact h4 K
def z6g (bs : List UInt8) : Except Int (Tm × List UInt8) := match rdTm 100 0 bs with
 | .ok (l, r, _) => .ok (l, r)
 | .error e => .error e
abbrev TK7 (ρ : Type) := Int → Int → ByteArray → EL → EL → EL → Int → ρ
def TmO2 {ρ : Type} (p : TK7 ρ → ρ) : Except Int (Tm × List UInt8) → Prop
 | .ok (t, bs) => ∀ K : TK7 ρ, p K = K t.k t.n t.nm (Lv.rows t.ls) (Tm.rows t.args) (encB bs) 0
 | .error e => e ≠ 0 ∧ ∃ a b c l g B, ∀ K : TK7 ρ, p K = K a b c l g B e
theorem Term_rd {ρ : Type} (fail : ρ) (fu : Nat) (hf : 170 ≤ fu) (bs : List UInt8) (hb : bs.length ≤ 1099511627776) : TmO2 (fun K => p65 fail fu K (encB bs) 0) (z6g bs) := by
 have := term_rd fail 100 fu (by omega) (by omega) bs 0 hb (by omega)
 unfold z6g
 cases h : rdTm 100 0 bs with
 | error e =>
  rw [h] at this
  obtain ⟨he, a, b, c, l, g, B, q, h1⟩ := this
  dsimp only at h1
  refine ⟨he, a, b, c, l, g, B, fun K => ?_⟩
  try dsimp only
  rw [p65]; exact h1 _
 | ok x =>
  obtain ⟨l, r, q⟩ := x
  rw [h] at this
  intro K
  dsimp only
  rw [p65]; exact this _
def p63 {ρ : Type} (fail : ρ) (fu : Nat) (K0 : EL → ρ) (x0 : EL) : ρ :=
 gd (0 = nilE.length) fail (gd ((nilE.length + x0.length) * 1 ≤ 35184372088832) fail (K0 (nilE ++ x0)))
def p120 {ρ : Type} (fail : ρ) (fu : Nat) (K0 : EL → ρ) (x0 : EL) (x1 : Int) : ρ :=
 gd ((0 : Int) ≤ 0) fail (gd ((0 : Int) ≤ (z0d .add .i64 ((x0.length : Nat) : Int) x1)) fail (gd ((z0d .add .i64 ((x0.length : Nat) : Int) x1 : Int) * (1 : Nat) ≤ 70368744177664) fail (gd (((0 : Int).toNat) = (List.replicate ((0 : Int).toNat) [(CV.v (.int .u8 0))]).length) fail (gd (((List.replicate ((0 : Int).toNat) [(CV.v (.int .u8 0))]).length + x0.length) * 1 ≤ 35184372088832) fail (K0 ((List.replicate ((0 : Int).toNat) [(CV.v (.int .u8 0))]) ++ x0))))))
def p140_1 {ρ : Type} (fail : ρ) (fu : Nat) (K0 : EL → ρ) (rec1 : Int → EL → ρ) (z2 : Int) (z3 : EL) : ρ :=
 bif (z0a .geq z2 128) then (gd (1 ≤ [[(CV.v (.int .u8 (z0d .or .u8 (IntKind.u8.wrap z2) 128)))]].length) fail (gd ((z3.length + (List.take 1 [[(CV.v (.int .u8 (z0d .or .u8 (IntKind.u8.wrap z2) 128)))]]).length) * 1 ≤ 35184372088832) fail (gd ((0 : Int) ≤ 7) fail (rec1 (z0d .shr .u64 z2 7) (z3 ++ (List.take 1 [[(CV.v (.int .u8 (z0d .or .u8 (IntKind.u8.wrap z2) 128)))]])))))) else (gd (1 ≤ [[(CV.v (.int .u8 (IntKind.u8.wrap z2)))]].length) fail (gd ((z3.length + (List.take 1 [[(CV.v (.int .u8 (IntKind.u8.wrap z2)))]]).length) * 1 ≤ 35184372088832) fail (K0 (z3 ++ (List.take 1 [[(CV.v (.int .u8 (IntKind.u8.wrap z2)))]])))))
def p140_1L {ρ : Type} (fail : ρ) (fu : Nat) (K0 : EL → ρ) : Nat → Int → EL → ρ
 | 0,_,_ => fail
 | n + 1,z2,z3 => p140_1 fail fu K0 (p140_1L fail fu K0 n) z2 z3
def p140 {ρ : Type} (fail : ρ) (fu : Nat) (K0 : EL → ρ) (x0 : EL) (x1 : Int) : ρ :=
 p120 fail fu (fun y1 => p140_1L fail fu K0 fu x1 y1) x0 10
def p119 {ρ : Type} (fail : ρ) (fu : Nat) (K0 : EL → ρ) (x0 : EL) (x1 : Int) : ρ :=
 p140 fail fu (fun y1 => gd ((x0.length + y1.length) * 1 ≤ 35184372088832) fail (K0 (x0 ++ y1))) nilE x1
def p83_1 {ρ : Type} (fail : ρ) (fu : Nat) (K0 : EL → ρ) (rec1 : EL → Int → Int → ρ) (x1 z1 : EL) (z2 z3 : Int) : ρ :=
 bif (z0a .lss z3 z2) then (gd ((0 : Int) ≤ z3) fail (gd ((z3 : Int) < (x1.length : Nat)) fail (w5q fail (List.getD x1 ((z3 : Int).toNat) []) (fun c4 => p119 fail fu (fun y5 => rec1 y5 z2 (z0d .add .i64 z3 1)) z1 (IntKind.u64.wrap c4))))) else (K0 z1)
def p83_1L {ρ : Type} (fail : ρ) (fu : Nat) (K0 : EL → ρ) (x1 : EL) : Nat → EL → Int → Int → ρ
 | 0,_,_,_ => fail
 | n + 1,z1,z2,z3 => p83_1 fail fu K0 (p83_1L fail fu K0 x1 n) x1 z1 z2 z3
def p83 {ρ : Type} (fail : ρ) (fu : Nat) (K0 : EL → ρ) (x0 x1 : EL) : ρ :=
 p83_1L fail fu K0 x1 fu x0 ((x1.length : Nat) : Int) 0
def p87 {ρ : Type} (fail : ρ) (fu : Nat) (K0 : EL → ρ) (x0 x1 : EL) : ρ :=
 p119 fail fu (fun y1 => gd ((y1.length + x1.length) * 1 ≤ 35184372088832) fail (K0 (y1 ++ x1))) x0 (IntKind.u64.wrap ((x1.length : Nat) : Int))
def p70_1 {ρ : Type} (fail : ρ) (fu : Nat) (s_p70 : (EL → ρ) → EL → Int → Int → EL → ρ) (K0 : EL → ρ) (rec1 : EL → Int → Int → ρ) (x3 z3 : EL) (z4 z5 : Int) : ρ :=
 bif (z0a .lss z5 z4) then (gd ((0 : Int) ≤ z5) fail (gd ((z5 : Int) < (x3.length : Nat)) fail (z0q fail (List.getD x3 ((z5 : Int).toNat) []) (fun c6 c7 c8 => s_p70 (fun y9 => rec1 y9 z4 (z0d .add .i64 z5 1)) z3 c6 c7 c8)))) else (K0 z3)
def p70_1L {ρ : Type} (fail : ρ) (fu : Nat) (s_p70 : (EL → ρ) → EL → Int → Int → EL → ρ) (K0 : EL → ρ) (x3 : EL) : Nat → EL → Int → Int → ρ
 | 0,_,_,_ => fail
 | n + 1,z3,z4,z5 => p70_1 fail fu s_p70 K0 (p70_1L fail fu s_p70 K0 x3 n) x3 z3 z4 z5
def p70_2 {ρ : Type} (fail : ρ) (fu : Nat) (s_p70 : (EL → ρ) → EL → Int → Int → EL → ρ) (K0 : EL → ρ) (x3 j2 : EL) : ρ :=
 p70_1L fail fu s_p70 K0 x3 fu j2 ((x3.length : Nat) : Int) 0
def p70_b {ρ : Type} (fail : ρ) (fu : Nat) (s_p70 : (EL → ρ) → EL → Int → Int → EL → ρ) (K0 : EL → ρ) (x0 : EL) (x1 x2 : Int) (x3 : EL) : ρ :=
 gd (1 ≤ [[(CV.v (.int .i64 x1))]].length) fail (p83 fail fu (fun y1 => bif (z0a .eql x1 4) then (gd (1 ≤ [[(CV.v (.int .i64 x2))]].length) fail (p83 fail fu (fun y10 => p70_2 fail fu s_p70 K0 x3 y10) y1 (List.take 1 [[(CV.v (.int .i64 x2))]]))) else (p70_2 fail fu s_p70 K0 x3 y1)) x0 (List.take 1 [[(CV.v (.int .i64 x1))]]))
def p70 {ρ : Type} (fail : ρ) : Nat → (EL → ρ) → EL → Int → Int → EL → ρ
 | 0,_,_,_,_,_ => fail
 | n + 1,K0,x0,x1,x2,x3 => p70_b fail n (p70 fail n) K0 x0 x1 x2 x3
def p64_1 {ρ : Type} (fail : ρ) (fu : Nat) (s_p64 : (EL → ρ) → EL → Int → Int → ByteArray → EL → EL → ρ) (K0 : EL → ρ) (rec2 : EL → Int → Int → ρ) (x5 z10 : EL) (z11 z12 : Int) : ρ :=
 bif (z0a .lss z12 z11) then (gd ((0 : Int) ≤ z12) fail (gd ((z12 : Int) < (x5.length : Nat)) fail (z0j fail (List.getD x5 ((z12 : Int).toNat) []) (fun c13 c14 c15 c16 c17 => s_p64 (fun y18 => rec2 y18 z11 (z0d .add .i64 z12 1)) z10 c13 c14 c15 c16 c17)))) else (K0 z10)
def p64_1L {ρ : Type} (fail : ρ) (fu : Nat) (s_p64 : (EL → ρ) → EL → Int → Int → ByteArray → EL → EL → ρ) (K0 : EL → ρ) (x5 : EL) : Nat → EL → Int → Int → ρ
 | 0,_,_,_ => fail
 | n + 1,z10,z11,z12 => p64_1 fail fu s_p64 K0 (p64_1L fail fu s_p64 K0 x5 n) x5 z10 z11 z12
def p64_2 {ρ : Type} (fail : ρ) (fu : Nat) (s_p64 : (EL → ρ) → EL → Int → Int → ByteArray → EL → EL → ρ) (K0 : EL → ρ) (rec1 : EL → Int → Int → ρ) (x4 x5 z3 : EL) (z4 z5 : Int) : ρ :=
 bif (z0a .lss z5 z4) then (gd ((0 : Int) ≤ z5) fail (gd ((z5 : Int) < (x4.length : Nat)) fail (z0q fail (List.getD x4 ((z5 : Int).toNat) []) (fun c6 c7 c8 => p70 fail fu (fun y9 => rec1 y9 z4 (z0d .add .i64 z5 1)) z3 c6 c7 c8)))) else (p64_1L fail fu s_p64 K0 x5 fu z3 ((x5.length : Nat) : Int) 0)
def p64_2L {ρ : Type} (fail : ρ) (fu : Nat) (s_p64 : (EL → ρ) → EL → Int → Int → ByteArray → EL → EL → ρ) (K0 : EL → ρ) (x4 x5 : EL) : Nat → EL → Int → Int → ρ
 | 0,_,_,_ => fail
 | n + 1,z3,z4,z5 => p64_2 fail fu s_p64 K0 (p64_2L fail fu s_p64 K0 x4 x5 n) x4 x5 z3 z4 z5
def p64_3 {ρ : Type} (fail : ρ) (fu : Nat) (s_p64 : (EL → ρ) → EL → Int → Int → ByteArray → EL → EL → ρ) (K0 : EL → ρ) (x4 x5 j2 : EL) : ρ :=
 p64_2L fail fu s_p64 K0 x4 x5 fu j2 ((x4.length : Nat) : Int) 0
def p64_4 {ρ : Type} (fail : ρ) (fu : Nat) (s_p64 : (EL → ρ) → EL → Int → Int → ByteArray → EL → EL → ρ) (K0 : EL → ρ) (x4 x5 j20 : EL) : ρ :=
 p64_3 fail fu s_p64 K0 x4 x5 j20
def p64_b {ρ : Type} (fail : ρ) (fu : Nat) (s_p64 : (EL → ρ) → EL → Int → Int → ByteArray → EL → EL → ρ) (K0 : EL → ρ) (x0 : EL) (x1 x2 : Int) (x3 : ByteArray) (x4 x5 : EL) : ρ :=
 gd (1 ≤ [[(CV.v (.int .i64 x1))]].length) fail (p83 fail fu (fun y1 => bif (z0a .eql x1 0) then (gd (1 ≤ [[(CV.v (.int .i64 x2))]].length) fail (p83 fail fu (fun y19 => p64_3 fail fu s_p64 K0 x4 x5 y19) y1 (List.take 1 [[(CV.v (.int .i64 x2))]]))) else (bif (z0a .eql x1 2) then (gd (x3.size ≤ (encB x3.data.toList).length) fail (p87 fail fu (fun y21 => gd (1 ≤ [[(CV.v (.int .i64 ((x4.length : Nat) : Int)))]].length) fail (p83 fail fu (fun y22 => p64_4 fail fu s_p64 K0 x4 x5 y22) y21 (List.take 1 [[(CV.v (.int .i64 ((x4.length : Nat) : Int)))]]))) y1 (List.take x3.size (encB x3.data.toList)))) else (p64_4 fail fu s_p64 K0 x4 x5 y1))) x0 (List.take 1 [[(CV.v (.int .i64 x1))]]))
def p64 {ρ : Type} (fail : ρ) : Nat → (EL → ρ) → EL → Int → Int → ByteArray → EL → EL → ρ
 | 0,_,_,_,_,_,_,_ => fail
 | n + 1,K0,x0,x1,x2,x3,x4,x5 => p64_b fail n (p64 fail n) K0 x0 x1 x2 x3 x4 x5
theorem d_p63 (fu : Nat) {K0 : EL → Prop} (L : EL → Nat) (hN : L = List.length) {x0 : EL} (h : p63 False fu K0 x0) : Den Try.prog G0 63 [.c (.sl 1 x0 none)] (fun r bs => (∃ (y0 : EL) (o0 : OV),(r = .ptr [.arr 1 y0 none false (L y0)] ∧ bs = [o0]) ∧ K0 y0)) := by
 obtain ⟨O,hO⟩ : ∃ O,O = std 0 T G0 (Den Try.prog G0) := ⟨_,rfl⟩
 have hLO : L = O.len := by rw [hN,hO]; rfl
 subst hLO
 refine den_h hO tiA mixed tabOk (fn := Try.f63) (sh := true) (by kernel_rfl) rfl rfl rfl rfl ?_
 intro Q hQ
 unfold p63 at h
 conv => cbv
 refine and_h h (fun g => (by subst hO; exact g)) (fun h => ?_)
 refine and_h h (fun g => (by subst hO; exact g)) (fun h => ?_)
 refine ⟨(by subst hO; exact Nat.le_refl _),?_⟩
 rw [hQ]
 exact ⟨(nilE ++ x0),_,⟨(by subst hO; rfl),(by subst hO; rfl)⟩,h⟩
theorem d_p120 (fu : Nat) {K0 : EL → Prop} (L : EL → Nat) (hN : L = List.length) {x0 : EL} {x1 : Int} (h : p120 False fu K0 x0 x1) : Den Try.prog G0 120 [.c (.sl 1 x0 none),.c (.v (.int .i64 x1))] (fun r bs => (∃ (y0 : EL) (o0 o1 : OV),(r = .arr 1 y0 none false (L y0) ∧ bs = [o0,o1]) ∧ K0 y0)) := by
 obtain ⟨O,hO⟩ : ∃ O,O = std 0 T G0 (Den Try.prog G0) := ⟨_,rfl⟩
 have hLO : L = O.len := by rw [hN,hO]; rfl
 subst hLO
 refine den_h hO tiA mixed tabOk (fn := Try.f120) (sh := false) (by kernel_rfl) rfl rfl rfl rfl ?_
 intro Q hQ
 unfold p120 at h
 conv => cbv
 refine and_h h (fun g => (by subst hO; exact g)) (fun h => ?_)
 refine and_h h (fun g => (by subst hO; exact g)) (fun h => ?_)
 refine and_h h (fun g => (by subst hO; exact g)) (fun h => ?_)
 refine and_h h (fun g => (by subst hO; exact g)) (fun h => ?_)
 refine and_h h (fun g => (by subst hO; exact g)) (fun h => ?_)
 refine ⟨(by subst hO; exact Nat.le_refl _),?_⟩
 rw [hQ]
 exact ⟨((List.replicate ((0 : Int).toNat) [(CV.v (.int .u8 0))]) ++ x0),_,_,⟨(by subst hO; rfl),(by subst hO; rfl)⟩,h⟩
theorem d_p140 (fu : Nat) {K0 : EL → Prop} (L : EL → Nat) (hN : L = List.length) {x0 : EL} {x1 : Int} (h : p140 False fu K0 x0 x1) : Den Try.prog G0 140 [.c (.sl 1 x0 none),.c (.v (.int .u64 x1))] (fun r bs => (∃ (y0 : EL) (o0 o1 : OV),(r = .c (.sl 1 y0 none) ∧ bs = [o0,o1]) ∧ K0 y0)) := by
 obtain ⟨O,hO⟩ : ∃ O,O = std 0 T G0 (Den Try.prog G0) := ⟨_,rfl⟩
 have hLO : L = O.len := by rw [hN,hO]; rfl
 subst hLO
 refine den_h hO tiA mixed tabOk (fn := Try.f140) (sh := true) (by kernel_rfl) rfl rfl rfl rfl ?_
 intro Q hQ
 unfold p140 at h
 conv => cbv
 refine z0c hO [.shut,.shut] (d_p120 fu O.len hN h) ?_
 intro os Q hos hQ
 conv => cbv
 refine ⟨(by (rw [hos]) <;> (subst hO; rfl)),?_⟩
 intro r bs hq
 rw [hQ] at hq
 clear hos hQ h
 obtain ⟨y1,_,_,⟨rfl,rfl⟩,h⟩ := hq
 conv => cbv
 refine z0s hO tiA [1,5] [8000] [] (fun (n : Nat) tm m => ∃ (z2 : Int) (z3 : EL),((tm = frame 0 23 [(1,.c (.v (.int .u64 z2))),(5,.t 8000 0 (O.len z3))] ∧ m = ⟨[(8000,.arr 0 1 z3 none false)],1⟩)) ∧ p140_1L False fu K0 n z2 z3) (fun n => n) fu ⟨x1,y1,⟨(by (conv => lhs; cbv) <;> (subst hO; rfl)),(by (conv => lhs; cbv) <;> (subst hO; rfl))⟩,h⟩ ?_
 rintro n1 tm m L ⟨z2,z3,hs,h⟩ hLn1
 (cases n1 with
 | zero => rw [p140_1L] at h; exact h.elim
 | succ n1 =>
 rw [p140_1L] at h
 unfold p140_1 at h
 obtain ⟨rfl,rfl⟩ := hs
 conv => cbv
 refine br_h hO h (by subst hO; rfl) (fun hc1 h => ?_) (fun hc1 h => ?_)
 conv => cbv
 refine z0b hO ?_
 conv => cbv
 refine alt_l hO ?_
 conv => cbv
 refine z0v hO h (fun g => (by subst hO; exact g)) (fun h => ?_)
 conv => cbv
 refine ⟨(by subst hO; rfl),?_⟩
 refine and_h h (fun g => (by subst hO; exact g)) (fun h => ?_)
 refine and_h h (fun g => (by subst hO; exact g)) (fun h => ?_)
 exact hLn1 n1 _ _ (Nat.lt_succ_self n1) ⟨z0d .shr .u64 z2 7,(z3 ++ (List.take 1 [[(CV.v (.int .u8 (z0d .or .u8 (IntKind.u8.wrap z2) 128)))]])),⟨(by (conv => lhs; cbv) <;> (subst hO; rfl)),(by (conv => lhs; cbv) <;> (subst hO; rfl))⟩,h⟩
 conv => cbv
 refine alt_l hO ?_
 conv => cbv
 refine z0v hO h (fun g => (by subst hO; exact g)) (fun h => ?_)
 conv => cbv
 refine ⟨(by subst hO; rfl),?_⟩
 refine and_h h (fun g => (by subst hO; exact g)) (fun h => ?_)
 refine z0m hO ?_
 conv => cbv
 rw [hQ]
 exact ⟨(z3 ++ (List.take 1 [[(CV.v (.int .u8 (IntKind.u8.wrap z2)))]])),_,_,⟨(by subst hO; rfl),(by subst hO; rfl)⟩,h⟩)
theorem d_p119 (fu : Nat) {K0 : EL → Prop} (L : EL → Nat) (hN : L = List.length) {x0 : EL} {x1 : Int} (h : p119 False fu K0 x0 x1) : Den Try.prog G0 119 [.ptr [.arr 1 x0 none false (L x0)],.c (.v (.int .u64 x1))] (fun r bs => (∃ (y0 : EL) (o1 : OV),(r = .tup [] ∧ bs = [.ptr [.arr 1 y0 none false (L y0)],o1]) ∧ K0 y0)) := by
 obtain ⟨O,hO⟩ : ∃ O,O = std 2 T G0 (Den Try.prog G0) := ⟨_,rfl⟩
 have hLO : L = O.len := by rw [hN,hO]; rfl
 subst hLO
 refine den_h hO tiA mixed tabOk (fn := Try.f119) (sh := true) (by kernel_rfl) rfl rfl rfl rfl ?_
 intro Q hQ
 unfold p119 at h
 conv => cbv
 refine z0i hO tiA [[],[],[],[]] [(0,true,false),(1,true,false),(2,true,false),(3,true,false),(4,true,false),(5,true,false),(6,false,false),(7,false,true),(8,true,true),(9,true,true),(10,false,true)] (by kernel_rfl) ?_
 conv => cbv
 refine z0c hO [.shut,.shut] (d_p140 fu O.len hN h) ?_
 intro os Q hos hQ
 conv => cbv
 refine ⟨(by (rw [hos]) <;> (subst hO; rfl)),?_⟩
 intro r bs hq
 rw [hQ] at hq
 clear hos hQ h
 obtain ⟨y1,_,_,⟨rfl,rfl⟩,h⟩ := hq
 conv => cbv
 refine ⟨z0e hO (Nat.le_of_ble_eq_true rfl) rfl,?_⟩
 refine ⟨(by subst hO; rfl),?_⟩
 refine and_h h (fun g => (by subst hO; exact g)) (fun h => ?_)
 refine z0b hO ?_
 conv => cbv
 refine ⟨(by subst hO; exact Nat.le_refl _),?_⟩
 rw [hQ]
 exact ⟨(x0 ++ y1),_,⟨(by subst hO; rfl),(by subst hO; rfl)⟩,h⟩
theorem d_p83 (fu : Nat) {K0 : EL → Prop} (L : EL → Nat) (hN : L = List.length) {x0 x1 : EL} (h : p83 False fu K0 x0 x1) : Den Try.prog G0 83 [.ptr [.arr 1 x0 none false (L x0)],.c (.sl 1 x1 none)] (fun r bs => (∃ (y0 : EL) (o1 : OV),(r = .tup [] ∧ bs = [.ptr [.arr 1 y0 none false (L y0)],o1]) ∧ K0 y0)) := by
 obtain ⟨O,hO⟩ : ∃ O,O = std 2 T G0 (Den Try.prog G0) := ⟨_,rfl⟩
 have hLO : L = O.len := by rw [hN,hO]; rfl
 subst hLO
 refine den_h hO tiA mixed tabOk (fn := Try.f83) (sh := true) (by kernel_rfl) rfl rfl rfl rfl ?_
 intro Q hQ
 unfold p83 at h
 conv => cbv
 refine z0s hO tiA [0,6,7,8] [0,1000000] [] (fun (n : Nat) tm m => ∃ (z1 : EL) (z2 : Int) (z3 : Int),((tm = frame 0 17 [(0,.p 0 1 0),(6,.c (.sl 1 x1 none)),(7,.c (.v (.int .i64 z2))),(8,.c (.v (.int .i64 z3)))] ∧ m = ⟨[(0,.blk 1 [.t 1000000 2 (O.len z1)]),(1000000,.arr 2 1 z1 none false)],3⟩)) ∧ p83_1L False fu K0 x1 n z1 z2 z3) (fun n => n) fu ⟨x0,((x1.length : Nat) : Int),0,⟨(by (conv => lhs; cbv) <;> (subst hO; rfl)),(by (conv => lhs; cbv) <;> (subst hO; rfl))⟩,h⟩ ?_
 rintro n1 tm m L ⟨z1,z2,z3,hs,h⟩ hLn1
 (cases n1 with
 | zero => rw [p83_1L] at h; exact h.elim
 | succ n1 =>
 rw [p83_1L] at h
 unfold p83_1 at h
 obtain ⟨rfl,rfl⟩ := hs
 conv => cbv
 refine br_h hO h (by subst hO; rfl) (fun hc1 h => ?_) (fun hc1 h => ?_)
 conv => cbv
 refine z0b hO ?_
 conv => cbv
 refine and_h h (fun g => (by subst hO; exact g)) (fun h => ?_)
 refine and_h h (fun g => (by subst hO; exact g)) (fun h => ?_)
 obtain ⟨c4,hr,h⟩ := w7d h
 refine z0o hO _ (by subst hO; exact hr) ?_
 clear hr
 conv => cbv
 refine z0c hO [.ref 1,.shut] (d_p119 fu O.len hN h) ?_
 intro os Q hos hQ
 conv => cbv
 refine ⟨(by subst hO; exact Nat.le_refl _),?_⟩
 refine ⟨(by (rw [hos]) <;> (subst hO; rfl)),?_⟩
 intro r bs hq
 rw [hQ] at hq
 clear hos hQ h
 obtain ⟨y5,_,⟨rfl,rfl⟩,h⟩ := hq
 conv => cbv
 exact hLn1 n1 _ _ (Nat.lt_succ_self n1) ⟨y5,z2,z0d .add .i64 z3 1,⟨(by (conv => lhs; cbv) <;> (subst hO; rfl)),(by (conv => lhs; cbv) <;> (subst hO; rfl))⟩,h⟩
 conv => cbv
 refine ⟨(by subst hO; exact Nat.le_refl _),?_⟩
 rw [hQ]
 exact ⟨z1,_,⟨(by subst hO; rfl),(by subst hO; rfl)⟩,h⟩)
theorem d_p87 (fu : Nat) {K0 : EL → Prop} (L : EL → Nat) (hN : L = List.length) {x0 x1 : EL} (h : p87 False fu K0 x0 x1) : Den Try.prog G0 87 [.ptr [.arr 1 x0 none false (L x0)],.c (.sl 1 x1 none)] (fun r bs => (∃ (y0 : EL) (o1 : OV),(r = .tup [] ∧ bs = [.ptr [.arr 1 y0 none false (L y0)],o1]) ∧ K0 y0)) := by
 obtain ⟨O,hO⟩ : ∃ O,O = std 2 T G0 (Den Try.prog G0) := ⟨_,rfl⟩
 have hLO : L = O.len := by rw [hN,hO]; rfl
 subst hLO
 refine den_h hO tiA mixed tabOk (fn := Try.f87) (sh := true) (by kernel_rfl) rfl rfl rfl rfl ?_
 intro Q hQ
 unfold p87 at h
 conv => cbv
 refine z0c hO [.ref 1,.shut] (d_p119 fu O.len hN h) ?_
 intro os Q hos hQ
 conv => cbv
 refine ⟨(by subst hO; exact Nat.le_refl _),?_⟩
 refine ⟨(by (rw [hos]) <;> (subst hO; rfl)),?_⟩
 intro r bs hq
 rw [hQ] at hq
 clear hos hQ h
 obtain ⟨y1,_,⟨rfl,rfl⟩,h⟩ := hq
 conv => cbv
 refine ⟨(by subst hO; rfl),?_⟩
 refine and_h h (fun g => (by subst hO; exact g)) (fun h => ?_)
 refine ⟨(by subst hO; exact Nat.le_refl _),?_⟩
 rw [hQ]
 exact ⟨(y1 ++ x1),_,⟨(by subst hO; rfl),(by subst hO; rfl)⟩,h⟩
def D_p70 (fu : Nat) : Prop := ∀ {K0 : EL → Prop} (L : EL → Nat) (_ : L = List.length) {x0 : EL} {x1 x2 : Int} {x3 : EL} (_ : p70 False fu K0 x0 x1 x2 x3),Den Try.prog G0 70 [.ptr [.arr 1 x0 none false (L x0)],.agg [.c (.v (.int .i64 x1)),.c (.v (.int .i64 x2)),.c (.sl 3 x3 none)]] (fun r bs => (∃ (y0 : EL) (o1 : OV),(r = .tup [] ∧ bs = [.ptr [.arr 1 y0 none false (L y0)],o1]) ∧ K0 y0))
theorem b_p70 (fu : Nat) (ih_p70 : D_p70 fu) {K0 : EL → Prop} (L : EL → Nat) (hN : L = List.length) {x0 : EL} {x1 x2 : Int} {x3 : EL} (h : p70_b False fu (p70 False fu) K0 x0 x1 x2 x3) : Den Try.prog G0 70 [.ptr [.arr 1 x0 none false (L x0)],.agg [.c (.v (.int .i64 x1)),.c (.v (.int .i64 x2)),.c (.sl 3 x3 none)]] (fun r bs => (∃ (y0 : EL) (o1 : OV),(r = .tup [] ∧ bs = [.ptr [.arr 1 y0 none false (L y0)],o1]) ∧ K0 y0)) := by
 obtain ⟨O,hO⟩ : ∃ O,O = std 2 T G0 (Den Try.prog G0) := ⟨_,rfl⟩
 have hLO : L = O.len := by rw [hN,hO]; rfl
 subst hLO
 refine den_h hO tiA mixed tabOk (fn := Try.f70) (sh := true) (by kernel_rfl) rfl rfl rfl rfl ?_
 intro Q hQ
 unfold p70_b at h
 conv => cbv
 have hz := z0u h
 have hc4 := hz.1
 replace h := hz.2
 clear hz
 refine z0c hO [.ref 1,.shut] (d_p83 fu O.len hN h) ?_
 intro os Q hos hQ
 conv => cbv
 refine ⟨(by subst hO; exact Nat.le_refl _),?_⟩
 refine z0r hO (by subst hO; exact hc4) ?_
 conv => cbv
 refine ⟨(by (rw [hos]) <;> (subst hO; rfl)),?_⟩
 intro r bs hq
 rw [hQ] at hq
 clear hos hQ h
 obtain ⟨y1,_,⟨rfl,rfl⟩,h⟩ := hq
 conv => cbv
 refine z0h hO tiA h (by subst hO; rfl) [0,3] [0,4000,1000000] [] (fun tm m => ∃ (j2 : EL),((tm = frame 0 30 [(0,.p 0 1 0),(3,.p 4000 2 0)] ∧ m = ⟨[(0,.blk 1 [.t 1000000 2 (O.len j2)]),(4000,.blk 2 [.c (.v (.int .i64 x1)),.c (.v (.int .i64 x2)),.c (.sl 3 x3 none)]),(1000000,.arr 2 1 j2 none false)],3⟩)) ∧ p70_2 False fu (p70 False fu) K0 x3 j2) (fun hc2 h L hL_2 => ?_) (fun hc2 h L hL_2 => ?_) ?_
 conv => cbv
 have hz := z0u h
 have hc3 := hz.1
 replace h := hz.2
 clear hz
 refine z0c hO [.ref 1,.shut] (d_p83 fu O.len hN h) ?_
 intro os Q hos hQ
 conv => cbv
 refine ⟨(by subst hO; exact Nat.le_refl _),?_⟩
 refine z0r hO (by subst hO; exact hc3) ?_
 conv => cbv
 refine ⟨(by (rw [hos]) <;> (subst hO; rfl)),?_⟩
 intro r bs hq
 rw [hQ] at hq
 clear hos hQ h
 obtain ⟨y10,_,⟨rfl,rfl⟩,h⟩ := hq
 conv => cbv
 exact hL_2 _ _ ⟨y10,⟨(by (conv => lhs; cbv) <;> (subst hO; rfl)),(by (conv => lhs; cbv) <;> (subst hO; rfl))⟩,h⟩
 conv => cbv
 exact hL_2 _ _ ⟨y1,⟨(by (conv => lhs; cbv) <;> (subst hO; rfl)),(by (conv => lhs; cbv) <;> (subst hO; rfl))⟩,h⟩
 rintro tm m ⟨j2,hs,h⟩
 unfold p70_2 at h
 obtain ⟨rfl,rfl⟩ := hs
 conv => cbv
 refine z0s hO tiA [0,20,21,22] [0,1000000] [] (fun (n : Nat) tm m => ∃ (z3 : EL) (z4 : Int) (z5 : Int),((tm = frame 0 30 [(0,.p 0 1 0),(20,.c (.sl 3 x3 none)),(21,.c (.v (.int .i64 z4))),(22,.c (.v (.int .i64 z5)))] ∧ m = ⟨[(0,.blk 1 [.t 1000000 2 (O.len z3)]),(1000000,.arr 2 1 z3 none false)],3⟩)) ∧ p70_1L False fu (p70 False fu) K0 x3 n z3 z4 z5) (fun n => n) fu ⟨j2,((x3.length : Nat) : Int),0,⟨(by (conv => lhs; cbv) <;> (subst hO; rfl)),(by (conv => lhs; cbv) <;> (subst hO; rfl))⟩,h⟩ ?_
 rintro n1 tm m L ⟨z3,z4,z5,hs,h⟩ hLn1
 (cases n1 with
 | zero => rw [p70_1L] at h; exact h.elim
 | succ n1 =>
 rw [p70_1L] at h
 unfold p70_1 at h
 obtain ⟨rfl,rfl⟩ := hs
 conv => cbv
 refine br_h hO h (by subst hO; rfl) (fun hc1 h => ?_) (fun hc1 h => ?_)
 conv => cbv
 refine z0b hO ?_
 conv => cbv
 refine and_h h (fun g => (by subst hO; exact g)) (fun h => ?_)
 refine and_h h (fun g => (by subst hO; exact g)) (fun h => ?_)
 obtain ⟨c6,c7,c8,hr,h⟩ := z0k h
 refine z0o hO _ (by subst hO; exact hr) ?_
 clear hr
 conv => cbv
 refine z0c hO [.ref 1,.shut] (ih_p70 O.len hN h) ?_
 intro os Q hos hQ
 conv => cbv
 refine ⟨(by subst hO; exact Nat.le_refl _),?_⟩
 refine ⟨(by (rw [hos]) <;> (subst hO; rfl)),?_⟩
 intro r bs hq
 rw [hQ] at hq
 clear hos hQ h
 obtain ⟨y9,_,⟨rfl,rfl⟩,h⟩ := hq
 conv => cbv
 exact hLn1 n1 _ _ (Nat.lt_succ_self n1) ⟨y9,z4,z0d .add .i64 z5 1,⟨(by (conv => lhs; cbv) <;> (subst hO; rfl)),(by (conv => lhs; cbv) <;> (subst hO; rfl))⟩,h⟩
 conv => cbv
 refine ⟨(by subst hO; exact Nat.le_refl _),?_⟩
 rw [hQ]
 exact ⟨z3,_,⟨(by subst hO; rfl),(by subst hO; rfl)⟩,h⟩)
theorem dd_p70 (fu : Nat) : D_p70 fu := by
 induction fu with
 | zero => unfold D_p70; intros; rename_i h; rw [p70] at h; exact h.elim
 | succ n ih =>
  exact (by unfold D_p70; intro K0 L hN x0 x1 x2 x3 h; exact b_p70 n ih L hN (by rw [p70] at h; exact h))
theorem d_p70 (fu : Nat) : D_p70 fu := dd_p70 fu
def D_p64 (fu : Nat) : Prop := ∀ {K0 : EL → Prop} (L : EL → Nat) (_ : L = List.length) {x0 : EL} {x1 x2 : Int} {x3 : ByteArray} {x4 x5 : EL} (_ : p64 False fu K0 x0 x1 x2 x3 x4 x5),Den Try.prog G0 64 [.ptr [.arr 1 x0 none false (L x0)],.agg [.c (.v (.int .i64 x1)),.c (.v (.int .i64 x2)),.c (.v (.string x3)),.c (.sl 3 x4 none),.c (.sl 5 x5 none)]] (fun r bs => (∃ (y0 : EL) (o1 : OV),(r = .tup [] ∧ bs = [.ptr [.arr 1 y0 none false (L y0)],o1]) ∧ K0 y0))
theorem b_p64 (fu : Nat) (ih_p64 : D_p64 fu) {K0 : EL → Prop} (L : EL → Nat) (hN : L = List.length) {x0 : EL} {x1 x2 : Int} {x3 : ByteArray} {x4 x5 : EL} (h : p64_b False fu (p64 False fu) K0 x0 x1 x2 x3 x4 x5) : Den Try.prog G0 64 [.ptr [.arr 1 x0 none false (L x0)],.agg [.c (.v (.int .i64 x1)),.c (.v (.int .i64 x2)),.c (.v (.string x3)),.c (.sl 3 x4 none),.c (.sl 5 x5 none)]] (fun r bs => (∃ (y0 : EL) (o1 : OV),(r = .tup [] ∧ bs = [.ptr [.arr 1 y0 none false (L y0)],o1]) ∧ K0 y0)) := by
 obtain ⟨O,hO⟩ : ∃ O,O = std 2 T G0 (Den Try.prog G0) := ⟨_,rfl⟩
 have hLO : L = O.len := by rw [hN,hO]; rfl
 subst hLO
 refine den_h hO tiA mixed tabOk (fn := Try.f64) (sh := true) (by kernel_rfl) rfl rfl rfl rfl ?_
 intro Q hQ
 unfold p64_b at h
 conv => cbv
 have hz := z0u h
 have hc8 := hz.1
 replace h := hz.2
 clear hz
 refine z0c hO [.ref 1,.shut] (d_p83 fu O.len hN h) ?_
 intro os Q hos hQ
 conv => cbv
 refine ⟨(by subst hO; exact Nat.le_refl _),?_⟩
 refine z0r hO (by subst hO; exact hc8) ?_
 conv => cbv
 refine ⟨(by (rw [hos]) <;> (subst hO; rfl)),?_⟩
 intro r bs hq
 rw [hQ] at hq
 clear hos hQ h
 obtain ⟨y1,_,⟨rfl,rfl⟩,h⟩ := hq
 conv => cbv
 refine z0h hO tiA h (by subst hO; rfl) [0,3] [0,4000,1000000] [] (fun tm m => ∃ (j2 : EL),((tm = frame 0 57 [(0,.p 0 1 0),(3,.p 4000 2 0)] ∧ m = ⟨[(0,.blk 1 [.t 1000000 2 (O.len j2)]),(4000,.blk 2 [.c (.v (.int .i64 x1)),.c (.v (.int .i64 x2)),.c (.v (.string x3)),.c (.sl 3 x4 none),.c (.sl 5 x5 none)]),(1000000,.arr 2 1 j2 none false)],3⟩)) ∧ p64_3 False fu (p64 False fu) K0 x4 x5 j2) (fun hc3 h L hL_3 => ?_) (fun hc3 h L hL_3 => ?_) ?_
 conv => cbv
 have hz := z0u h
 have hc4 := hz.1
 replace h := hz.2
 clear hz
 refine z0c hO [.ref 1,.shut] (d_p83 fu O.len hN h) ?_
 intro os Q hos hQ
 conv => cbv
 refine ⟨(by subst hO; exact Nat.le_refl _),?_⟩
 refine z0r hO (by subst hO; exact hc4) ?_
 conv => cbv
 refine ⟨(by (rw [hos]) <;> (subst hO; rfl)),?_⟩
 intro r bs hq
 rw [hQ] at hq
 clear hos hQ h
 obtain ⟨y19,_,⟨rfl,rfl⟩,h⟩ := hq
 conv => cbv
 exact hL_3 _ _ ⟨y19,⟨(by (conv => lhs; cbv) <;> (subst hO; rfl)),(by (conv => lhs; cbv) <;> (subst hO; rfl))⟩,h⟩
 conv => cbv
 refine z0h hO tiA h (by subst hO; rfl) [0,3] [0,4000,1000000] [] (fun tm m => ∃ (j20 : EL),((tm = frame 0 57 [(0,.p 0 1 0),(3,.p 4000 2 0)] ∧ m = ⟨[(0,.blk 1 [.t 1000000 2 (O.len j20)]),(4000,.blk 2 [.c (.v (.int .i64 x1)),.c (.v (.int .i64 x2)),.c (.v (.string x3)),.c (.sl 3 x4 none),.c (.sl 5 x5 none)]),(1000000,.arr 2 1 j20 none false)],3⟩)) ∧ p64_4 False fu (p64 False fu) K0 x4 x5 j20) (fun hc5 h L hL_4 => ?_) (fun hc5 h L hL_4 => ?_) ?_
 conv => cbv
 have hz := z0u h
 have hc7 := hz.1
 replace h := hz.2
 clear hz
 refine z0c hO [.ref 1,.shut] (d_p87 fu O.len hN h) ?_
 intro os Q hos hQ
 conv => cbv
 refine ⟨(by subst hO; exact Nat.le_refl _),?_⟩
 refine z0r hO (by subst hO; exact hc7) ?_
 conv => cbv
 refine ⟨(by (rw [hos]) <;> (subst hO; rfl)),?_⟩
 intro r bs hq
 rw [hQ] at hq
 clear hos hQ h
 obtain ⟨y21,_,⟨rfl,rfl⟩,h⟩ := hq
 conv => cbv
 have hz := z0u h
 have hc6 := hz.1
 replace h := hz.2
 clear hz
 refine z0c hO [.ref 1,.shut] (d_p83 fu O.len hN h) ?_
 intro os Q hos hQ
 conv => cbv
 refine ⟨(by subst hO; exact Nat.le_refl _),?_⟩
 refine z0r hO (by subst hO; exact hc6) ?_
 conv => cbv
 refine ⟨(by (rw [hos]) <;> (subst hO; rfl)),?_⟩
 intro r bs hq
 rw [hQ] at hq
 clear hos hQ h
 obtain ⟨y22,_,⟨rfl,rfl⟩,h⟩ := hq
 conv => cbv
 exact hL_4 _ _ ⟨y22,⟨(by (conv => lhs; cbv) <;> (subst hO; rfl)),(by (conv => lhs; cbv) <;> (subst hO; rfl))⟩,h⟩
 conv => cbv
 exact hL_4 _ _ ⟨y1,⟨(by (conv => lhs; cbv) <;> (subst hO; rfl)),(by (conv => lhs; cbv) <;> (subst hO; rfl))⟩,h⟩
 rintro tm m ⟨j20,hs,h⟩
 unfold p64_4 at h
 obtain ⟨rfl,rfl⟩ := hs
 conv => cbv
 exact hL_3 _ _ ⟨j20,⟨(by (conv => lhs; cbv) <;> (subst hO; rfl)),(by (conv => lhs; cbv) <;> (subst hO; rfl))⟩,h⟩
 rintro tm m ⟨j2,hs,h⟩
 unfold p64_3 at h
 obtain ⟨rfl,rfl⟩ := hs
 conv => cbv
 refine z0s hO tiA [0,3,36,37,38] [0,4000,1000000] [] (fun (n : Nat) tm m => ∃ (z3 : EL) (z4 : Int) (z5 : Int),((tm = frame 0 57 [(0,.p 0 1 0),(3,.p 4000 2 0),(36,.c (.sl 3 x4 none)),(37,.c (.v (.int .i64 z4))),(38,.c (.v (.int .i64 z5)))] ∧ m = ⟨[(0,.blk 1 [.t 1000000 2 (O.len z3)]),(4000,.blk 2 [.c (.v (.int .i64 x1)),.c (.v (.int .i64 x2)),.c (.v (.string x3)),.c (.sl 3 x4 none),.c (.sl 5 x5 none)]),(1000000,.arr 2 1 z3 none false)],3⟩)) ∧ p64_2L False fu (p64 False fu) K0 x4 x5 n z3 z4 z5) (fun n => n) fu ⟨j2,((x4.length : Nat) : Int),0,⟨(by (conv => lhs; cbv) <;> (subst hO; rfl)),(by (conv => lhs; cbv) <;> (subst hO; rfl))⟩,h⟩ ?_
 rintro n1 tm m L ⟨z3,z4,z5,hs,h⟩ hLn1
 (cases n1 with
 | zero => rw [p64_2L] at h; exact h.elim
 | succ n1 =>
 rw [p64_2L] at h
 unfold p64_2 at h
 obtain ⟨rfl,rfl⟩ := hs
 conv => cbv
 refine br_h hO h (by subst hO; rfl) (fun hc1 h => ?_) (fun hc1 h => ?_)
 conv => cbv
 refine z0b hO ?_
 conv => cbv
 refine and_h h (fun g => (by subst hO; exact g)) (fun h => ?_)
 refine and_h h (fun g => (by subst hO; exact g)) (fun h => ?_)
 obtain ⟨c6,c7,c8,hr,h⟩ := z0k h
 refine z0o hO _ (by subst hO; exact hr) ?_
 clear hr
 conv => cbv
 refine z0c hO [.ref 1,.shut] (d_p70 fu O.len hN h) ?_
 intro os Q hos hQ
 conv => cbv
 refine ⟨(by subst hO; exact Nat.le_refl _),?_⟩
 refine ⟨(by (rw [hos]) <;> (subst hO; rfl)),?_⟩
 intro r bs hq
 rw [hQ] at hq
 clear hos hQ h
 obtain ⟨y9,_,⟨rfl,rfl⟩,h⟩ := hq
 conv => cbv
 exact hLn1 n1 _ _ (Nat.lt_succ_self n1) ⟨y9,z4,z0d .add .i64 z5 1,⟨(by (conv => lhs; cbv) <;> (subst hO; rfl)),(by (conv => lhs; cbv) <;> (subst hO; rfl))⟩,h⟩
 conv => cbv
 refine z0s hO tiA [0,47,48,49] [0,1000000] [] (fun (n : Nat) tm m => ∃ (z10 : EL) (z11 : Int) (z12 : Int),((tm = frame 0 57 [(0,.p 0 1 0),(47,.c (.sl 5 x5 none)),(48,.c (.v (.int .i64 z11))),(49,.c (.v (.int .i64 z12)))] ∧ m = ⟨[(0,.blk 1 [.t 1000000 2 (O.len z10)]),(1000000,.arr 2 1 z10 none false)],3⟩)) ∧ p64_1L False fu (p64 False fu) K0 x5 n z10 z11 z12) (fun n => n) fu ⟨z3,((x5.length : Nat) : Int),0,⟨(by (conv => lhs; cbv) <;> (subst hO; rfl)),(by (conv => lhs; cbv) <;> (subst hO; rfl))⟩,h⟩ ?_
 rintro n2 tm m L ⟨z10,z11,z12,hs,h⟩ hLn2
 (cases n2 with
 | zero => rw [p64_1L] at h; exact h.elim
 | succ n2 =>
 rw [p64_1L] at h
 unfold p64_1 at h
 obtain ⟨rfl,rfl⟩ := hs
 conv => cbv
 refine br_h hO h (by subst hO; rfl) (fun hc2 h => ?_) (fun hc2 h => ?_)
 conv => cbv
 refine z0b hO ?_
 conv => cbv
 refine and_h h (fun g => (by subst hO; exact g)) (fun h => ?_)
 refine and_h h (fun g => (by subst hO; exact g)) (fun h => ?_)
 obtain ⟨c13,c14,c15,c16,c17,hr,h⟩ := z0g h
 refine z0o hO _ (by subst hO; exact hr) ?_
 clear hr
 conv => cbv
 refine z0c hO [.ref 1,.shut] (ih_p64 O.len hN h) ?_
 intro os Q hos hQ
 conv => cbv
 refine ⟨(by subst hO; exact Nat.le_refl _),?_⟩
 refine ⟨(by (rw [hos]) <;> (subst hO; rfl)),?_⟩
 intro r bs hq
 rw [hQ] at hq
 clear hos hQ h
 obtain ⟨y18,_,⟨rfl,rfl⟩,h⟩ := hq
 conv => cbv
 exact hLn2 n2 _ _ (Nat.lt_succ_self n2) ⟨y18,z11,z0d .add .i64 z12 1,⟨(by (conv => lhs; cbv) <;> (subst hO; rfl)),(by (conv => lhs; cbv) <;> (subst hO; rfl))⟩,h⟩
 conv => cbv
 refine ⟨(by subst hO; exact Nat.le_refl _),?_⟩
 rw [hQ]
 exact ⟨z10,_,⟨(by subst hO; rfl),(by subst hO; rfl)⟩,h⟩))
theorem dd_p64 (fu : Nat) : D_p64 fu := by
 induction fu with
 | zero => unfold D_p64; intros; rename_i h; rw [p64] at h; exact h.elim
 | succ n ih =>
  exact (by unfold D_p64; intro K0 L hN x0 x1 x2 x3 x4 x5 h; exact b_p64 n ih L hN (by rw [p64] at h; exact h))
theorem d_p64 (fu : Nat) : D_p64 fu := dd_p64 fu
theorem w5j : ∀ (n v : Nat), v < 128 ^ (n + 1) → (varB v).length ≤ n + 1
 | 0, v, h => by rw [z5n (by simpa using h)]; simp
 | n + 1, v, h => by
  by_cases h1 : v < 128
  ·rw [z5n h1]; simp
  ·rw [z8e (by omega), List.length_cons]
   have := w5j n (v / 128) (by rw [Nat.pow_succ] at h; exact Nat.div_lt_of_lt_mul (by rw [Nat.mul_comm]; exact h))
   omega
theorem z0w {v : Nat} (h : v < 2 ^ 64) : (varB v).length ≤ 10 := w5j 9 v (Nat.lt_of_lt_of_le h (by decide))
theorem w7z {w : Nat} (h : 128 ≤ w) : [[CV.v (.int .u8 (IntKind.u8.wrap ((w % 128 + 128 : Nat) : Int)))]] ++ encB (varB (w / 128)) = encB (varB w) := by
 rw [z8e h, w4u, ← z1r]; rfl
theorem raw_w {ρ : Type} (fail : ρ) (fu : Nat) (hf : 10 ≤ fu) (K : EL → ρ) (z : EL) (v : Nat) (hv : v < 2 ^ 64) (hz : z.length + 10 ≤ 35184372088832) : p119 fail fu K z (v : Nat) = K (z ++ encB (varB v)) := by
 obtain ⟨m, rfl⟩ : ∃ m, fu = m + 1 := ⟨fu - 1, by omega⟩
 have hv2 : v < 128 ^ (m + 1) := Nat.lt_of_lt_of_le hv (Nat.le_trans (show 2 ^ 64 ≤ 128 ^ 10 by decide) (Nat.pow_le_pow_right (by omega) (by omega)))
 have h10 := z0w hv
 have hloop : ∀ (K : EL → ρ), p140_1L fail (m + 1) K (m + 1) (v : Nat) [] = K (encB (varB v)) := fun K => by
  have h9 : ∀ (j : Nat) (w : Nat) (y : EL), w < 128 ^ 10 → y.length + (varB w).length ≤ 100 → (varB w).length ≤ j → p140_1L fail (m + 1) K j (w : Nat) y = K (y ++ encB (varB w)) := by
   intro j
   induction j with
   | zero => intro w y _ _ h; have := k1j w; omega
   | succ j ih =>
    intro w y hw hy hj
    rw [p140_1L, p140_1]
    by_cases h1 : w < 128
    ·rw [geqF (by omega), cond_false, gd_y (by simp), gd_y (by simp; omega), z5n h1, ← w4u]; rfl
    ·have hs : z0d .shr .u64 ((w : Nat) : Int) 7 = ((w / 128 : Nat) : Int) := by
      show ((w : Nat) : Int).fdiv (2 ^ 7) = _
      rw [k0e _ _ (by decide)]; simp
     have ho : z0d .or .u8 (IntKind.u8.wrap ((w : Nat) : Int)) 128 = IntKind.u8.wrap ((w % 128 + 128 : Nat) : Int) := by
      show IntKind.u8.wrap (bOr 8 (IntKind.u8.wrap ((w : Nat) : Int)) 128 : Nat) = _
      rw [or128]
     rw [z8e (by omega), List.length_cons] at hy hj
     rw [geqT (by omega), cond_true, gd_y (by simp), gd_y (by simp; omega), gd_y (by omega), hs, ho]
     have := ih (w / 128) (y ++ List.take 1 [[CV.v (.int .u8 (IntKind.u8.wrap ((w % 128 + 128 : Nat) : Int)))]]) (by omega) (by simp; omega) (by omega)
     rw [this, List.append_assoc]
     exact congrArg (fun q => K (y ++ q)) (w7z (by omega))
  have := h9 (m + 1) v [] (Nat.lt_of_lt_of_le hv (by decide)) (by simp; omega) (by omega)
  simpa using this
 have hadd : z0d .add .i64 (((nilE : EL).length : Nat) : Int) 10 = 10 := by decide
 rw [p119, p140, p120, hadd, gd_y (by omega), gd_y (by omega), gd_y (by decide), gd_y (by decide), gd_y (by decide)]
 have e0 : List.replicate (Int.toNat 0) [CV.v (.int .u8 0)] ++ (nilE : EL) = [] := rfl
 rw [e0, hloop, gd_y (by rw [z0f]; omega)]
def numsB (l : List Int) : List UInt8 := l.flatMap fun n => varB (uv n)
theorem z1u (n : Int) (l : List Int) : numsB (n :: l) = varB (uv n) ++ numsB l := by unfold numsB; rw [List.flatMap_cons]
theorem num_w {ρ : Type} (fail : ρ) (fu : Nat) (K : EL → ρ) (l : List Int) (hf : l.length + 10 ≤ fu) (z : EL) (hz : z.length + 10 * l.length ≤ 35184372088832) : p83 fail fu K z (encI l) = K (z ++ encB (numsB l)) := by
 have loop : ∀ (r i n : Nat) (z : EL), i + r = l.length → r < n → z.length + 10 * r ≤ 35184372088832 → p83_1L fail fu K (encI l) n z ((l.length : Nat) : Int) ((i : Nat) : Int) = K (z ++ encB (numsB (l.drop i))) := by
  intro r
  induction r with
  | zero =>
   intro i n z hi hn hz
   obtain ⟨n, rfl⟩ : ∃ m, n = m + 1 := ⟨n - 1, by omega⟩
   rw [p83_1L, p83_1, lssF (by omega), cond_false, List.drop_eq_nil_of_le (by omega), show numsB [] = [] from rfl, k2d, List.append_nil]
  | succ r ih =>
   intro i n z hi hn hz
   obtain ⟨n, rfl⟩ : ∃ m, n = m + 1 := ⟨n - 1, by omega⟩
   have hlt : i < l.length := by omega
   have hr : ∀ k : Int → ρ, w5q fail (List.getD (encI l) (((i : Nat) : Int)).toNat []) k = k l[i] := fun k => by rw [Int.toNat_natCast, k2c hlt]; rfl
   have h10 := z0w (uv_lt l[i])
   rw [p83_1L, p83_1, lssT (by omega), cond_true, gd_y (by omega), gd_y (by rw [z9b]; omega), hr, u64_uv, raw_w fail fu (by omega) _ z _ (uv_lt _) (by omega), addZ (by omega) (by omega), show ((i : Nat) : Int) + 1 = ((i + 1 : Nat) : Int) by omega]
   rw [ih (i + 1) n _ (by omega) (by omega) (by rw [List.length_append, z0f]; omega), List.drop_eq_getElem_cons hlt, List.append_assoc, ← z1r, z1u]
 rw [p83, z9b]
 have := loop l.length 0 fu z (by omega) (by omega) (by omega)
 simpa using this
theorem z7k {ρ : Type} (fail : ρ) (fu : Nat) (hf : 11 ≤ fu) (K : EL → ρ) (v : Int) (z : EL) (hz : z.length + 10 ≤ 35184372088832) : p83 fail fu K z (List.take 1 [[.v (.int .i64 v)]]) = K (z ++ encB (varB (uv v))) := by
 have := num_w fail fu K [v] (by simp only [List.length_singleton]; omega) z (by simp only [List.length_singleton]; omega)
 simp only [numsB, List.flatMap_cons, List.flatMap_nil, List.append_nil] at this
 exact this
def txB (s : ByteArray) : List UInt8 := varB s.size ++ s.data.toList
theorem z2q (s : ByteArray) : s.data.toList.length = s.size := Array.length_toList
theorem k2l {ρ : Type} (fail : ρ) (fu : Nat) (hf : 10 ≤ fu) (K : EL → ρ) (s : ByteArray) (z : EL) (hs : s.size < 1099511627776) (hz : z.length + 10 + s.size ≤ 35184372088832) : p87 fail fu K z (List.take s.size (encB s.data.toList)) = K (z ++ encB (txB s)) := by
 have ht : List.take s.size (encB s.data.toList) = encB s.data.toList := List.take_of_length_le (by rw [z0f, z2q]; exact Nat.le_refl _)
 have h10 := z0w (show s.size < 2 ^ 64 by omega)
 rw [ht, p87, z0f, z2q, z3u _ (by omega), raw_w fail fu hf _ z _ (by omega) (by omega), gd_y (by rw [List.length_append, z0f]; omega), List.append_assoc, ← z1r]
 rfl
mutual
def Lv.enc : Lv → List UInt8
 | .mk k n l => varB (uv k) ++ ((if k = 4 then varB (uv n) else []) ++ Lv.encs l)
def Lv.encs : List Lv → List UInt8
 | [] => []
 | a :: l => Lv.enc a ++ Lv.encs l
end
mutual
def Lv.sz : Lv → Nat
 | .mk _ _ l => 1 + Lv.szs l
def Lv.szs : List Lv → Nat
 | [] => 0
 | a :: l => 1 + Lv.sz a + Lv.szs l
end
theorem Lv.szs_len : ∀ l : List Lv, l.length ≤ Lv.szs l
 | [] => Nat.zero_le _
 | a :: l => by have := Lv.szs_len l; simp only [Lv.szs, List.length_cons]; omega
theorem z4y {ρ : Type} (fail : ρ) (l : List Lv) (i : Nat) (h : i < l.length) (k : Int → Int → EL → ρ) : z0q fail (List.getD (Lv.rows l) (((i : Nat) : Int)).toNat []) k = k l[i].k l[i].n (Lv.rows l[i].args) := by
 rw [Int.toNat_natCast, Lv.rows_get h, Lv.row_eq]; rfl
theorem k1v {ρ : Type} (fail : ρ) (fu : Nat) (K : EL → ρ) (s : (EL → ρ) → EL → Int → Int → EL → ρ) (l : List Lv) (B : Nat) (hs : ∀ a ∈ l, ∀ (K : EL → ρ) (z : EL), z.length + a.enc.length ≤ B → s K z a.k a.n (Lv.rows a.args) = K (z ++ encB a.enc)) :
  ∀ (r i n : Nat) (z : EL), l.length < 1099511627776 → i + r = l.length → r < n → z.length + (Lv.encs (l.drop i)).length ≤ B → p70_1L fail fu s K (Lv.rows l) n z ((l.length : Nat) : Int) ((i : Nat) : Int) = K (z ++ encB (Lv.encs (l.drop i))) := by
 intro r
 induction r with
 | zero =>
  intro i n z hl hi hn hz
  obtain ⟨n, rfl⟩ : ∃ m, n = m + 1 := ⟨n - 1, by omega⟩
  rw [p70_1L, p70_1, lssF (by omega), cond_false, List.drop_eq_nil_of_le (by omega)]
  simp [Lv.encs]
 | succ r ih =>
  intro i n z hl hi hn hz
  obtain ⟨n, rfl⟩ : ∃ m, n = m + 1 := ⟨n - 1, by omega⟩
  have hlt : i < l.length := by omega
  have hd : l.drop i = l[i] :: l.drop (i + 1) := List.drop_eq_getElem_cons hlt
  rw [hd] at hz ⊢
  simp only [Lv.encs, List.length_append] at hz ⊢
  rw [p70_1L, p70_1, lssT (by omega), cond_true, gd_y (by omega), gd_y (by rw [Lv.rows_len]; omega), z4y fail l i hlt, hs _ (List.getElem_mem hlt) _ z (by omega), addZ (by omega) (by omega), show ((i : Nat) : Int) + 1 = ((i + 1 : Nat) : Int) by omega]
  rw [ih (i + 1) n _ hl (by omega) (by omega) (by rw [List.length_append, z0f]; omega), List.append_assoc, ← z1r]
theorem Lv.szs_mem : ∀ {l : List Lv} {a : Lv}, a ∈ l → 1 + a.sz ≤ Lv.szs l
 | b :: l, a, h => by
  simp only [Lv.szs]
  rcases List.mem_cons.1 h with rfl | h
  ·omega
  ·have := Lv.szs_mem h; omega
theorem level_w {ρ : Type} (fail : ρ) : ∀ (N : Nat) (l : Lv), l.sz ≤ N → ∀ (fu : Nat) (K : EL → ρ) (z : EL), l.sz + 20 ≤ fu → l.sz < 1099511627776 → z.length + l.enc.length ≤ 35184372088000 → p70 fail fu K z l.k l.n (Lv.rows l.args) = K (z ++ encB l.enc) := by
 intro N
 induction N with
 | zero => intro l h; cases l; simp [Lv.sz] at h
 | succ N ih =>
  intro l hN fu K z hf hsz hz
  obtain ⟨k, n, l⟩ := l
  obtain ⟨m, rfl⟩ : ∃ m, fu = m + 1 := ⟨fu - 1, by omega⟩
  simp only [Lv.sz, Lv.enc, List.length_append] at hN hf hsz hz
  simp only [Lv.k, Lv.n, Lv.args, Lv.enc]
  have hl := Lv.szs_len l
  rw [p70, p70_b]
  generalize hs : p70 fail m = s
  have h10 := z0w (uv_lt k)
  have h11 := z0w (uv_lt n)
  have loop : ∀ y : EL, y.length + (Lv.encs l).length ≤ 35184372088000 → p70_2 fail m s K (Lv.rows l) y = K (y ++ encB (Lv.encs l)) := fun y hy => by
   rw [p70_2, Lv.rows_len]
   have := k1v fail m K s l 35184372088000 (fun a ha K z hz => by
    have h3 := Lv.szs_mem ha
    rw [← hs]; exact ih a (by omega) m K z (by omega) (by omega) hz) l.length 0 m y (by omega) (by omega) (by omega) (by simpa using hy)
   simpa using this
  rw [gd_y (by simp), z7k fail m (by omega) _ k z (by omega)]
  by_cases h4 : k = 4
  ·rw [if_pos h4] at hz ⊢
   rw [eqlT h4, cond_true, gd_y (by simp), z7k fail m (by omega) _ n _ (by rw [List.length_append, z0f]; omega), loop _ (by simp only [List.length_append, z0f]; omega)]
   simp [List.append_assoc]
  ·rw [if_neg h4] at hz ⊢
   rw [eqlF h4, cond_false, loop _ (by simp only [List.length_append, z0f]; simp at hz; omega)]
   simp [List.append_assoc]
mutual
def Tm.enc : Tm → List UInt8
 | .mk k n s l a => varB (uv k) ++ ((if k = 0 then varB (uv n) else if k = 2 then txB s ++ varB l.length else []) ++ (Lv.encs l ++ Tm.encs a))
def Tm.encs : List Tm → List UInt8
 | [] => []
 | a :: l => Tm.enc a ++ Tm.encs l
end
mutual
def Tm.sz : Tm → Nat
 | .mk _ _ s l a => 1 + s.size + Lv.szs l + Tm.szs a
def Tm.szs : List Tm → Nat
 | [] => 0
 | a :: l => 1 + Tm.sz a + Tm.szs l
end
theorem Tm.szs_len : ∀ l : List Tm, l.length ≤ Tm.szs l
 | [] => Nat.zero_le _
 | a :: l => by have := Tm.szs_len l; simp only [Tm.szs, List.length_cons]; omega
theorem Tm.szs_mem : ∀ {l : List Tm} {a : Tm}, a ∈ l → 1 + a.sz ≤ Tm.szs l
 | b :: l, a, h => by
  simp only [Tm.szs]
  rcases List.mem_cons.1 h with rfl | h
  ·omega
  ·have := Tm.szs_mem h; omega
theorem z5j {ρ : Type} (fail : ρ) (l : List Tm) (i : Nat) (h : i < l.length) (k : Int → Int → ByteArray → EL → EL → ρ) : z0j fail (List.getD (Tm.rows l) (((i : Nat) : Int)).toNat []) k = k l[i].k l[i].n l[i].nm (Lv.rows l[i].ls) (Tm.rows l[i].args) := by
 rw [Int.toNat_natCast, Tm.rows_get h, Tm.row_eq]; rfl
theorem k1l {ρ : Type} (fail : ρ) (fu : Nat) (K : EL → ρ) (s : (EL → ρ) → EL → Int → Int → ByteArray → EL → EL → ρ) (l : List Tm) (B : Nat) (hs : ∀ a ∈ l, ∀ (K : EL → ρ) (z : EL), z.length + a.enc.length ≤ B → s K z a.k a.n a.nm (Lv.rows a.ls) (Tm.rows a.args) = K (z ++ encB a.enc)) :
  ∀ (r i n : Nat) (z : EL), l.length < 1099511627776 → i + r = l.length → r < n → z.length + (Tm.encs (l.drop i)).length ≤ B → p64_1L fail fu s K (Tm.rows l) n z ((l.length : Nat) : Int) ((i : Nat) : Int) = K (z ++ encB (Tm.encs (l.drop i))) := by
 intro r
 induction r with
 | zero =>
  intro i n z hl hi hn hz
  obtain ⟨n, rfl⟩ : ∃ m, n = m + 1 := ⟨n - 1, by omega⟩
  rw [p64_1L, p64_1, lssF (by omega), cond_false, List.drop_eq_nil_of_le (by omega)]
  simp [Tm.encs]
 | succ r ih =>
  intro i n z hl hi hn hz
  obtain ⟨n, rfl⟩ : ∃ m, n = m + 1 := ⟨n - 1, by omega⟩
  have hlt : i < l.length := by omega
  have hd : l.drop i = l[i] :: l.drop (i + 1) := List.drop_eq_getElem_cons hlt
  rw [hd] at hz ⊢
  simp only [Tm.encs, List.length_append] at hz ⊢
  rw [p64_1L, p64_1, lssT (by omega), cond_true, gd_y (by omega), gd_y (by rw [Tm.rows_len]; omega), z5j fail l i hlt, hs _ (List.getElem_mem hlt) _ z (by omega), addZ (by omega) (by omega), show ((i : Nat) : Int) + 1 = ((i + 1 : Nat) : Int) by omega]
  rw [ih (i + 1) n _ hl (by omega) (by omega) (by rw [List.length_append, z0f]; omega), List.append_assoc, ← z1r]
theorem w6v {ρ : Type} (fail : ρ) (fu : Nat) (K : EL → ρ) (s : (EL → ρ) → EL → Int → Int → ByteArray → EL → EL → ρ) (l : List Lv) (A : EL) (hfu : Lv.szs l + 20 ≤ fu) (hsz : Lv.szs l < 1099511627776) :
  ∀ (r i n : Nat) (z : EL), i + r = l.length → r < n → z.length + (Lv.encs (l.drop i)).length ≤ 35184372088000 → p64_2L fail fu s K (Lv.rows l) A n z ((l.length : Nat) : Int) ((i : Nat) : Int) = p64_1L fail fu s K A fu (z ++ encB (Lv.encs (l.drop i))) ((A.length : Nat) : Int) 0 := by
 have hl := Lv.szs_len l
 intro r
 induction r with
 | zero =>
  intro i n z hi hn hz
  obtain ⟨n, rfl⟩ : ∃ m, n = m + 1 := ⟨n - 1, by omega⟩
  rw [p64_2L, p64_2, lssF (by omega), cond_false, List.drop_eq_nil_of_le (by omega)]
  simp [Lv.encs]
 | succ r ih =>
  intro i n z hi hn hz
  obtain ⟨n, rfl⟩ : ∃ m, n = m + 1 := ⟨n - 1, by omega⟩
  have hlt : i < l.length := by omega
  have hm := Lv.szs_mem (List.getElem_mem hlt)
  have hd : l.drop i = l[i] :: l.drop (i + 1) := List.drop_eq_getElem_cons hlt
  rw [hd] at hz ⊢
  simp only [Lv.encs, List.length_append] at hz ⊢
  rw [p64_2L, p64_2, lssT (by omega), cond_true, gd_y (by omega), gd_y (by rw [Lv.rows_len]; omega), z4y fail l i hlt, level_w fail _ l[i] (Nat.le_refl _) fu _ z (by omega) (by omega) (by omega), addZ (by omega) (by omega), show ((i : Nat) : Int) + 1 = ((i + 1 : Nat) : Int) by omega]
  rw [ih (i + 1) n _ (by omega) (by omega) (by rw [List.length_append, z0f]; omega), List.append_assoc, ← z1r]
theorem term_w {ρ : Type} (fail : ρ) : ∀ (N : Nat) (l : Tm), l.sz ≤ N → ∀ (fu : Nat) (K : EL → ρ) (z : EL), l.sz + 30 ≤ fu → l.sz < 1099511627776 → z.length + l.enc.length ≤ 35184372087000 → p64 fail fu K z l.k l.n l.nm (Lv.rows l.ls) (Tm.rows l.args) = K (z ++ encB l.enc) := by
 intro N
 induction N with
 | zero => intro l h; cases l; simp [Tm.sz] at h
 | succ N ih =>
  intro t hN fu K z hf hsz hz
  obtain ⟨k, n, sn, l, a⟩ := t
  obtain ⟨m, rfl⟩ : ∃ m, fu = m + 1 := ⟨fu - 1, by omega⟩
  simp only [Tm.sz, Tm.enc, List.length_append] at hN hf hsz hz
  simp only [Tm.k, Tm.n, Tm.nm, Tm.ls, Tm.args, Tm.enc]
  have hl := Lv.szs_len l
  have ha := Tm.szs_len a
  rw [p64, p64_b]
  generalize hs : p64 fail m = s
  have h10 := z0w (uv_lt k)
  have h11 := z0w (uv_lt n)
  have h12 := z0w (show l.length < 2 ^ 64 by omega)
  have loop : ∀ y : EL, y.length + (Lv.encs l).length + (Tm.encs a).length ≤ 35184372087000 → p64_3 fail m s K (Lv.rows l) (Tm.rows a) y = K (y ++ encB (Lv.encs l ++ Tm.encs a)) := fun y hy => by
   rw [p64_3, Lv.rows_len]
   have h1 := w6v fail m K s l (Tm.rows a) (by omega) (by omega) l.length 0 m y (by omega) (by omega) (by simp; omega)
   rw [show ((0 : Nat) : Int) = 0 from rfl] at h1
   rw [h1, Tm.rows_len]
   have := k1l fail m K s a 35184372087000 (fun b hb K z hz => by
    have h3 := Tm.szs_mem hb
    rw [← hs]; exact ih b (by omega) m K z (by omega) (by omega) hz) a.length 0 m (y ++ encB (Lv.encs l)) (by omega) (by omega) (by omega) (by simp; omega)
   rw [List.drop_zero] at this
   rw [List.drop_zero, z1r, ← List.append_assoc]
   exact this
  rw [gd_y (by simp), z7k fail m (by omega) _ k z (by omega)]
  by_cases h0 : k = 0
  ·rw [if_pos h0] at hz ⊢
   rw [eqlT h0, cond_true, gd_y (by simp), z7k fail m (by omega) _ n _ (by rw [List.length_append, z0f]; omega), loop _ (by simp only [List.length_append, z0f]; omega)]
   simp [List.append_assoc]
  ·rw [if_neg h0] at hz ⊢
   rw [eqlF h0, cond_false]
   by_cases h2 : k = 2
   ·rw [if_pos h2] at hz ⊢
    simp only [txB, List.length_append, z2q] at hz
    have hg : uv ((l.length : Nat) : Int) = l.length := z3i _ (by omega)
    rw [eqlT h2, cond_true, gd_y (by rw [z0f, z2q]; exact Nat.le_refl _), k2l fail m (by omega) _ sn _ (by omega) (by rw [List.length_append, z0f]; omega), gd_y (by simp), Lv.rows_len, z7k fail m (by omega) _ _ _ (by simp only [txB, List.length_append, z0f, z2q]; omega), hg, p64_4,
     loop _ (by simp only [txB, List.length_append, z0f, z2q]; omega)]
    simp [List.append_assoc]
   ·rw [if_neg h2] at hz ⊢
    rw [eqlF h2, cond_false, p64_4, loop _ (by simp only [List.length_append, z0f]; simp at hz; omega)]
    simp [List.append_assoc]
def p132b_1 {ρ : Type} (fail : ρ) (fu : Nat) (s_p132b : (Int → Int → EL → ρ) → Int → Int → EL → EL → ρ) (s_p101 : (Int → Int → EL → ρ) → Int → Int → EL → ρ) (K0 : Int → Int → EL → ρ) (rec1 : EL → Int → ρ) (x0 x1 : Int) (x2 x3 z8 : EL) (z9 : Int) : ρ :=
 bif (z0a .lss z9 ((x2.length : Nat) : Int)) then (gd ((0 : Int) ≤ z9) fail (gd ((z9 : Int) < (x2.length : Nat)) fail (z0q fail (List.getD x2 ((z9 : Int).toNat) []) (fun c10 c11 c12 => s_p132b (fun y13 y14 y15 => gd (1 ≤ [[(CV.v (.int .i64 y13)),(CV.v (.int .i64 y14)),(CV.sl 3 y15 none)]].length) fail (gd ((z8.length + (List.take 1 [[(CV.v (.int .i64 y13)),(CV.v (.int .i64 y14)),(CV.sl 3 y15 none)]]).length) * 40 ≤ 35184372088832) fail (rec1 (z8 ++ (List.take 1 [[(CV.v (.int .i64 y13)),(CV.v (.int .i64 y14)),(CV.sl 3 y15 none)]])) (z0d .add .i64 z9 1)))) c10 c11 c12 x3)))) else (K0 x0 x1 z8)
def p132b_1L {ρ : Type} (fail : ρ) (fu : Nat) (s_p132b : (Int → Int → EL → ρ) → Int → Int → EL → EL → ρ) (s_p101 : (Int → Int → EL → ρ) → Int → Int → EL → ρ) (K0 : Int → Int → EL → ρ) (x0 x1 : Int) (x2 x3 : EL) : Nat → EL → Int → ρ
 | 0,_,_ => fail
 | n + 1,z8,z9 => p132b_1 fail fu s_p132b s_p101 K0 (p132b_1L fail fu s_p132b s_p101 K0 x0 x1 x2 x3 n) x0 x1 x2 x3 z8 z9
def p132b_2 {ρ : Type} (fail : ρ) (fu : Nat) (s_p132b : (Int → Int → EL → ρ) → Int → Int → EL → EL → ρ) (s_p101 : (Int → Int → EL → ρ) → Int → Int → EL → ρ) (K0 : Int → Int → EL → ρ) (x0 x1 : Int) (x2 x3 : EL) (j1 : Bool) : ρ :=
 bif j1 then (gd ((0 : Int) ≤ x1) fail (gd ((x1 : Int) < (x3.length : Nat)) fail (z0q fail (List.getD x3 ((x1 : Int).toNat) []) (fun c2 c3 c4 => s_p101 (fun y5 y6 y7 => K0 y5 y6 y7) c2 c3 c4)))) else (p132b_1L fail fu s_p132b s_p101 K0 x0 x1 x2 x3 fu nilE 0)
def p132b_b {ρ : Type} (fail : ρ) (fu : Nat) (s_p132b : (Int → Int → EL → ρ) → Int → Int → EL → EL → ρ) (s_p101 : (Int → Int → EL → ρ) → Int → Int → EL → ρ) (K0 : Int → Int → EL → ρ) (x0 x1 : Int) (x2 x3 : EL) : ρ :=
 bif (z0a .eql x0 4) then (bif (z0a .geq x1 0) then (p132b_2 fail fu s_p132b s_p101 K0 x0 x1 x2 x3 (z0a .lss x1 ((x3.length : Nat) : Int))) else (p132b_2 fail fu s_p132b s_p101 K0 x0 x1 x2 x3 false)) else (p132b_2 fail fu s_p132b s_p101 K0 x0 x1 x2 x3 false)
def p101_b {ρ : Type} (fail : ρ) (fu : Nat) (s_p132b : (Int → Int → EL → ρ) → Int → Int → EL → EL → ρ) (s_p101 : (Int → Int → EL → ρ) → Int → Int → EL → ρ) (K0 : Int → Int → EL → ρ) (x0 x1 : Int) (x2 : EL) : ρ :=
 s_p132b (fun y1 y2 y3 => K0 y1 y2 y3) x0 x1 x2 nilE
mutual
def p132b {ρ : Type} (fail : ρ) : Nat → (Int → Int → EL → ρ) → Int → Int → EL → EL → ρ
 | 0,_,_,_,_,_ => fail
 | n + 1,K0,x0,x1,x2,x3 => p132b_b fail n (p132b fail n) (p101 fail n) K0 x0 x1 x2 x3
def p101 {ρ : Type} (fail : ρ) : Nat → (Int → Int → EL → ρ) → Int → Int → EL → ρ
 | 0,_,_,_,_ => fail
 | n + 1,K0,x0,x1,x2 => p101_b fail n (p132b fail n) (p101 fail n) K0 x0 x1 x2
end
def p135_1 {ρ : Type} (fail : ρ) (fu : Nat) (K0 : Int → Int → ByteArray → EL → EL → ρ) (rec1 : EL → Int → ρ) (x0 x1 : Int) (x2 : ByteArray) (x3 z1 : EL) (z2 : Int) : ρ :=
 bif (z0a .lss z2 ((x3.length : Nat) : Int)) then (gd ((0 : Int) ≤ z2) fail (gd ((z2 : Int) < (x3.length : Nat)) fail (z0q fail (List.getD x3 ((z2 : Int).toNat) []) (fun c3 c4 c5 => p101 fail fu (fun y6 y7 y8 => gd (1 ≤ [[(CV.v (.int .i64 y6)),(CV.v (.int .i64 y7)),(CV.sl 3 y8 none)]].length) fail (gd ((z1.length + (List.take 1 [[(CV.v (.int .i64 y6)),(CV.v (.int .i64 y7)),(CV.sl 3 y8 none)]]).length) * 40 ≤ 35184372088832) fail (rec1 (z1 ++ (List.take 1 [[(CV.v (.int .i64 y6)),(CV.v (.int .i64 y7)),(CV.sl 3 y8 none)]])) (z0d .add .i64 z2 1)))) c3 c4 c5)))) else (K0 x0 x1 x2 z1 nilE)
def p135_1L {ρ : Type} (fail : ρ) (fu : Nat) (K0 : Int → Int → ByteArray → EL → EL → ρ) (x0 x1 : Int) (x2 : ByteArray) (x3 : EL) : Nat → EL → Int → ρ
 | 0,_,_ => fail
 | n + 1,z1,z2 => p135_1 fail fu K0 (p135_1L fail fu K0 x0 x1 x2 x3 n) x0 x1 x2 x3 z1 z2
def p135 {ρ : Type} (fail : ρ) (fu : Nat) (K0 : Int → Int → ByteArray → EL → EL → ρ) (x0 x1 : Int) (x2 : ByteArray) (x3 x4 : EL) : ρ :=
 p135_1L fail fu K0 x0 x1 x2 x3 fu nilE 0
def p142_1 {ρ : Type} (fail : ρ) (fu : Nat) (K0 : Int → ρ) (j1 : Bool) : ρ :=
 bif j1 then (K0 1) else (K0 0)
def p142 {ρ : Type} (fail : ρ) (fu : Nat) (K0 : Int → ρ) (x0 x1 : Int) : ρ :=
 bif (z0a .eql x0 4) then (bif (z0a .eql x1 1) then (p142_1 fail fu K0 true) else (bif (z0a .eql x0 6) then (p142_1 fail fu K0 (z0a .eql x1 2)) else (p142_1 fail fu K0 false))) else (bif (z0a .eql x0 5) then (bif (z0a .eql x1 1) then (p142_1 fail fu K0 true) else (bif (z0a .eql x0 6) then (p142_1 fail fu K0 (z0a .eql x1 2)) else (p142_1 fail fu K0 false))) else (bif (z0a .eql x0 6) then (p142_1 fail fu K0 (z0a .eql x1 2)) else (p142_1 fail fu K0 false)))
def p131_1 {ρ : Type} (fail : ρ) (fu : Nat) (s_p131 : (Int → Int → ByteArray → EL → EL → ρ) → Int → Int → ByteArray → EL → EL → Int → Int → ρ) (K0 : Int → Int → ByteArray → EL → EL → ρ) (rec1 : EL → Int → ρ) (x0 : Int) (x4 : EL) (x5 x6 y1 : Int) (y3 : ByteArray) (y4 : EL) (j7 : Int) (z8 : EL) (z9 : Int) : ρ :=
 bif (z0a .lss z9 ((x4.length : Nat) : Int)) then (gd ((0 : Int) ≤ z9) fail (gd ((z9 : Int) < (x4.length : Nat)) fail (z0j fail (List.getD x4 ((z9 : Int).toNat) []) (fun c10 c11 c12 c13 c14 => p142 fail fu (fun y15 => s_p131 (fun y16 y17 y18 y19 y20 => gd (1 ≤ [[(CV.v (.int .i64 y16)),(CV.v (.int .i64 y17)),(CV.v (.string y18)),(CV.sl 3 y19 none),(CV.sl 5 y20 none)]].length) fail (gd ((z8.length + (List.take 1 [[(CV.v (.int .i64 y16)),(CV.v (.int .i64 y17)),(CV.v (.string y18)),(CV.sl 3 y19 none),(CV.sl 5 y20 none)]]).length) * 80 ≤ 35184372088832) fail (rec1 (z8 ++ (List.take 1 [[(CV.v (.int .i64 y16)),(CV.v (.int .i64 y17)),(CV.v (.string y18)),(CV.sl 3 y19 none),(CV.sl 5 y20 none)]])) (z0d .add .i64 z9 1)))) c10 c11 c12 c13 c14 x5 (z0d .add .i64 x6 y15)) x0 z9)))) else (K0 y1 j7 y3 y4 z8)
def p131_1L {ρ : Type} (fail : ρ) (fu : Nat) (s_p131 : (Int → Int → ByteArray → EL → EL → ρ) → Int → Int → ByteArray → EL → EL → Int → Int → ρ) (K0 : Int → Int → ByteArray → EL → EL → ρ) (x0 : Int) (x4 : EL) (x5 x6 y1 : Int) (y3 : ByteArray) (y4 : EL) (j7 : Int) : Nat → EL → Int → ρ
 | 0,_,_ => fail
 | n + 1,z8,z9 => p131_1 fail fu s_p131 K0 (p131_1L fail fu s_p131 K0 x0 x4 x5 x6 y1 y3 y4 j7 n) x0 x4 x5 x6 y1 y3 y4 j7 z8 z9
def p131_2 {ρ : Type} (fail : ρ) (fu : Nat) (s_p131 : (Int → Int → ByteArray → EL → EL → ρ) → Int → Int → ByteArray → EL → EL → Int → Int → ρ) (K0 : Int → Int → ByteArray → EL → EL → ρ) (x0 : Int) (x4 : EL) (x5 x6 y1 : Int) (y3 : ByteArray) (y4 y5 : EL) (j7 : Int) : ρ :=
 p131_1L fail fu s_p131 K0 x0 x4 x5 x6 y1 y3 y4 j7 fu y5 0
def p131_3 {ρ : Type} (fail : ρ) (fu : Nat) (s_p131 : (Int → Int → ByteArray → EL → EL → ρ) → Int → Int → ByteArray → EL → EL → Int → Int → ρ) (K0 : Int → Int → ByteArray → EL → EL → ρ) (x0 x1 : Int) (x4 : EL) (x5 x6 y1 y2 : Int) (y3 : ByteArray) (y4 y5 : EL) (j6 : Bool) : ρ :=
 bif j6 then (p131_2 fail fu s_p131 K0 x0 x4 x5 x6 y1 y3 y4 y5 (z0d .add .i64 x1 x5)) else (p131_2 fail fu s_p131 K0 x0 x4 x5 x6 y1 y3 y4 y5 y2)
def p131_b {ρ : Type} (fail : ρ) (fu : Nat) (s_p131 : (Int → Int → ByteArray → EL → EL → ρ) → Int → Int → ByteArray → EL → EL → Int → Int → ρ) (K0 : Int → Int → ByteArray → EL → EL → ρ) (x0 x1 : Int) (x2 : ByteArray) (x3 x4 : EL) (x5 x6 : Int) : ρ :=
 p135 fail fu (fun y1 y2 y3 y4 y5 => bif (z0a .eql x0 0) then (p131_3 fail fu s_p131 K0 x0 x1 x4 x5 x6 y1 y2 y3 y4 y5 (z0a .geq x1 x6)) else (p131_3 fail fu s_p131 K0 x0 x1 x4 x5 x6 y1 y2 y3 y4 y5 false)) x0 x1 x2 x3 x4
def p131 {ρ : Type} (fail : ρ) : Nat → (Int → Int → ByteArray → EL → EL → ρ) → Int → Int → ByteArray → EL → EL → Int → Int → ρ
 | 0,_,_,_,_,_,_,_,_ => fail
 | n + 1,K0,x0,x1,x2,x3,x4,x5,x6 => p131_b fail n (p131 fail n) K0 x0 x1 x2 x3 x4 x5 x6
def p100 {ρ : Type} (fail : ρ) (fu : Nat) (K0 : Int → Int → ByteArray → EL → EL → ρ) (x0 x1 : Int) (x2 : ByteArray) (x3 x4 : EL) : ρ :=
 p131 fail fu (fun y1 y2 y3 y4 y5 => K0 y1 y2 y3 y4 y5) x0 x1 x2 x3 x4 0 0
def p68 {ρ : Type} (fail : ρ) (fu : Nat) (K0 : Int → Int → ByteArray → EL → EL → ρ) (x0 x1 : Int) (x2 : ByteArray) (x3 x4 : EL) (x5 x6 : Int) (x7 : ByteArray) (x8 x9 : EL) : ρ :=
 p100 fail fu (fun y1 y2 y3 y4 y5 => gd (2 ≤ [[(CV.v (.int .i64 x0)),(CV.v (.int .i64 x1)),(CV.v (.string x2)),(CV.sl 3 x3 none),(CV.sl 5 x4 none)],[(CV.v (.int .i64 y1)),(CV.v (.int .i64 y2)),(CV.v (.string y3)),(CV.sl 3 y4 none),(CV.sl 5 y5 none)]].length) fail (K0 3 0 ⟨#[]⟩ nilE (List.take 2 [[(CV.v (.int .i64 x0)),(CV.v (.int .i64 x1)),(CV.v (.string x2)),(CV.sl 3 x3 none),(CV.sl 5 x4 none)],[(CV.v (.int .i64 y1)),(CV.v (.int .i64 y2)),(CV.v (.string y3)),(CV.sl 3 y4 none),(CV.sl 5 y5 none)]]))) x5 x6 x7 x8 x9
def p133_1 {ρ : Type} (fail : ρ) (fu : Nat) (K0 : Int → Int → ByteArray → EL → EL → ρ) (rec1 : Int → Int → ByteArray → EL → EL → Int → ρ) (x5 : EL) (z6 z7 : Int) (z8 : ByteArray) (z9 z10 : EL) (z11 : Int) : ρ :=
 bif (z0a .lss z11 ((x5.length : Nat) : Int)) then (gd ((0 : Int) ≤ z11) fail (gd ((z11 : Int) < (x5.length : Nat)) fail (z0j fail (List.getD x5 ((z11 : Int).toNat) []) (fun c12 c13 c14 c15 c16 => p68 fail fu (fun y17 y18 y19 y20 y21 => rec1 y17 y18 y19 y20 y21 (z0d .add .i64 z11 1)) z6 z7 z8 z9 z10 c12 c13 c14 c15 c16)))) else (K0 z6 z7 z8 z9 z10)
def p133_1L {ρ : Type} (fail : ρ) (fu : Nat) (K0 : Int → Int → ByteArray → EL → EL → ρ) (x5 : EL) : Nat → Int → Int → ByteArray → EL → EL → Int → ρ
 | 0,_,_,_,_,_,_ => fail
 | n + 1,z6,z7,z8,z9,z10,z11 => p133_1 fail fu K0 (p133_1L fail fu K0 x5 n) x5 z6 z7 z8 z9 z10 z11
def p133 {ρ : Type} (fail : ρ) (fu : Nat) (K0 : Int → Int → ByteArray → EL → EL → ρ) (x0 x1 : Int) (x2 : ByteArray) (x3 x4 x5 : EL) : ρ :=
 p100 fail fu (fun y1 y2 y3 y4 y5 => p133_1L fail fu K0 x5 fu y1 y2 y3 y4 y5 0) x0 x1 x2 x3 x4
def p131b_1 {ρ : Type} (fail : ρ) (fu : Nat) (K0 : Int → Int → ByteArray → EL → EL → ρ) (rec1 : EL → Int → ρ) (x0 : Int) (x4 : EL) (x5 x6 y1 : Int) (y3 : ByteArray) (y4 : EL) (j7 : Int) (z8 : EL) (z9 : Int) : ρ :=
 bif (z0a .lss z9 ((x4.length : Nat) : Int)) then (gd ((0 : Int) ≤ z9) fail (gd ((z9 : Int) < (x4.length : Nat)) fail (z0j fail (List.getD x4 ((z9 : Int).toNat) []) (fun c10 c11 c12 c13 c14 => p142 fail fu (fun y15 => p131 fail fu (fun y16 y17 y18 y19 y20 => gd (1 ≤ [[(CV.v (.int .i64 y16)),(CV.v (.int .i64 y17)),(CV.v (.string y18)),(CV.sl 3 y19 none),(CV.sl 5 y20 none)]].length) fail (gd ((z8.length + (List.take 1 [[(CV.v (.int .i64 y16)),(CV.v (.int .i64 y17)),(CV.v (.string y18)),(CV.sl 3 y19 none),(CV.sl 5 y20 none)]]).length) * 80 ≤ 35184372088832) fail (rec1 (z8 ++ (List.take 1 [[(CV.v (.int .i64 y16)),(CV.v (.int .i64 y17)),(CV.v (.string y18)),(CV.sl 3 y19 none),(CV.sl 5 y20 none)]])) (z0d .add .i64 z9 1)))) c10 c11 c12 c13 c14 x5 (z0d .add .i64 x6 y15)) x0 z9)))) else (K0 y1 j7 y3 y4 z8)
def p131b_1L {ρ : Type} (fail : ρ) (fu : Nat) (K0 : Int → Int → ByteArray → EL → EL → ρ) (x0 : Int) (x4 : EL) (x5 x6 y1 : Int) (y3 : ByteArray) (y4 : EL) (j7 : Int) : Nat → EL → Int → ρ
 | 0,_,_ => fail
 | n + 1,z8,z9 => p131b_1 fail fu K0 (p131b_1L fail fu K0 x0 x4 x5 x6 y1 y3 y4 j7 n) x0 x4 x5 x6 y1 y3 y4 j7 z8 z9
def p131b_2 {ρ : Type} (fail : ρ) (fu : Nat) (K0 : Int → Int → ByteArray → EL → EL → ρ) (x0 : Int) (x4 : EL) (x5 x6 y1 : Int) (y3 : ByteArray) (y4 y5 : EL) (j7 : Int) : ρ :=
 p131b_1L fail fu K0 x0 x4 x5 x6 y1 y3 y4 j7 fu y5 0
def p131b_3 {ρ : Type} (fail : ρ) (fu : Nat) (K0 : Int → Int → ByteArray → EL → EL → ρ) (x0 x1 : Int) (x4 : EL) (x5 x6 y1 y2 : Int) (y3 : ByteArray) (y4 y5 : EL) (j6 : Bool) : ρ :=
 bif j6 then (p131b_2 fail fu K0 x0 x4 x5 x6 y1 y3 y4 y5 (z0d .add .i64 x1 x5)) else (p131b_2 fail fu K0 x0 x4 x5 x6 y1 y3 y4 y5 y2)
def p131b {ρ : Type} (fail : ρ) (fu : Nat) (K0 : Int → Int → ByteArray → EL → EL → ρ) (x0 x1 : Int) (x2 : ByteArray) (x3 x4 : EL) (x5 x6 : Int) : ρ :=
 p135 fail fu (fun y1 y2 y3 y4 y5 => bif (z0a .eql x0 0) then (p131b_3 fail fu K0 x0 x1 x4 x5 x6 y1 y2 y3 y4 y5 (z0a .geq x1 x6)) else (p131b_3 fail fu K0 x0 x1 x4 x5 x6 y1 y2 y3 y4 y5 false)) x0 x1 x2 x3 x4
def p100b {ρ : Type} (fail : ρ) (fu : Nat) (K0 : Int → Int → ByteArray → EL → EL → ρ) (x0 x1 : Int) (x2 : ByteArray) (x3 x4 : EL) : ρ :=
 p131b fail fu (fun y1 y2 y3 y4 y5 => K0 y1 y2 y3 y4 y5) x0 x1 x2 x3 x4 0 0
def p106 {ρ : Type} (fail : ρ) (fu : Nat) (K0 : Int → Int → ByteArray → EL → EL → ρ) (x0 x1 : Int) (x2 : ByteArray) (x3 x4 : EL) (x5 x6 : Int) : ρ :=
 p131 fail fu (fun y1 y2 y3 y4 y5 => K0 y1 y2 y3 y4 y5) x0 x1 x2 x3 x4 (if 1073741824 < (if 0 > x5 then 0 else x5) then 1073741824 else (if 0 > x5 then 0 else x5)) (if 1073741824 < (if 0 > x6 then 0 else x6) then 1073741824 else (if 0 > x6 then 0 else x6))
def p103 {ρ : Type} (fail : ρ) (fu : Nat) (K0 : Int → Int → ByteArray → EL → EL → ρ) (x0 x1 : Int) (x2 : ByteArray) (x3 x4 : EL) (x5 x6 : Int) (x7 : ByteArray) (x8 x9 : EL) : ρ :=
 p100 fail fu (fun y1 y2 y3 y4 y5 => gd (2 ≤ [[(CV.v (.int .i64 y1)),(CV.v (.int .i64 y2)),(CV.v (.string y3)),(CV.sl 3 y4 none),(CV.sl 5 y5 none)],[(CV.v (.int .i64 x5)),(CV.v (.int .i64 x6)),(CV.v (.string x7)),(CV.sl 3 x8 none),(CV.sl 5 x9 none)]].length) fail (K0 4 0 ⟨#[]⟩ nilE (List.take 2 [[(CV.v (.int .i64 y1)),(CV.v (.int .i64 y2)),(CV.v (.string y3)),(CV.sl 3 y4 none),(CV.sl 5 y5 none)],[(CV.v (.int .i64 x5)),(CV.v (.int .i64 x6)),(CV.v (.string x7)),(CV.sl 3 x8 none),(CV.sl 5 x9 none)]]))) x0 x1 x2 x3 x4
def p48 {ρ : Type} (fail : ρ) (fu : Nat) (K0 : Int → Int → ByteArray → EL → EL → ρ) (x0 x1 : Int) (x2 : ByteArray) (x3 x4 : EL) (x5 x6 : Int) (x7 : ByteArray) (x8 x9 : EL) : ρ :=
 p100 fail fu (fun y1 y2 y3 y4 y5 => gd (2 ≤ [[(CV.v (.int .i64 y1)),(CV.v (.int .i64 y2)),(CV.v (.string y3)),(CV.sl 3 y4 none),(CV.sl 5 y5 none)],[(CV.v (.int .i64 x5)),(CV.v (.int .i64 x6)),(CV.v (.string x7)),(CV.sl 3 x8 none),(CV.sl 5 x9 none)]].length) fail (K0 5 0 ⟨#[]⟩ nilE (List.take 2 [[(CV.v (.int .i64 y1)),(CV.v (.int .i64 y2)),(CV.v (.string y3)),(CV.sl 3 y4 none),(CV.sl 5 y5 none)],[(CV.v (.int .i64 x5)),(CV.v (.int .i64 x6)),(CV.v (.string x7)),(CV.sl 3 x8 none),(CV.sl 5 x9 none)]]))) x0 x1 x2 x3 x4
def p107 {ρ : Type} (fail : ρ) (fu : Nat) (K0 : Int → Int → ByteArray → EL → EL → ρ) (x0 : ByteArray) (x1 : EL) : ρ :=
 p135 fail fu (fun y1 y2 y3 y4 y5 => K0 y1 y2 y3 y4 y5) 2 0 x0 x1 nilE
def p49 {ρ : Type} (fail : ρ) (fu : Nat) (K0 : Int → Int → ByteArray → EL → EL → ρ) (x0 x1 : Int) (x2 : EL) : ρ :=
 p101 fail fu (fun y1 y2 y3 => gd (1 ≤ [[(CV.v (.int .i64 y1)),(CV.v (.int .i64 y2)),(CV.sl 3 y3 none)]].length) fail (K0 1 0 ⟨#[]⟩ (List.take 1 [[(CV.v (.int .i64 y1)),(CV.v (.int .i64 y2)),(CV.sl 3 y3 none)]]) nilE)) x0 x1 x2
end Go.Proofs.Ythncmjlcmlmnmaa
