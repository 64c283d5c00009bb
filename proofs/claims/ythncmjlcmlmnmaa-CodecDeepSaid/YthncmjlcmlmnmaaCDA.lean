/- Wide terms: an App of two of the same, so deep; how they are copied, written, read, counted. Conditions: none. -/
import Derived.Test.YthncmjlcmlmnmaaP26
namespace Go.Proofs.Ythncmjlcmlmnmaa
open Go V
set_option maxRecDepth 100000
set_option maxHeartbeats 1000000
def wK : Nat → Int
  | 0 => 0
  | _ + 1 => 3
mutual
def wRow : Nat → List CV
  | 0 => [.v (.int .i64 0), .v (.int .i64 0), .v (.string ⟨#[]⟩), .sl 3 [] none, .sl 5 [] none]
  | n + 1 => [.v (.int .i64 3), .v (.int .i64 0), .v (.string ⟨#[]⟩), .sl 3 [] none, .sl 5 [wRow n, wRow n] none]
end
def wArgs : Nat → EL
  | 0 => []
  | n + 1 => [wRow n, wRow n]
theorem wRow_eq (n : Nat) : wRow n = [.v (.int .i64 (wK n)), .v (.int .i64 0), .v (.string ⟨#[]⟩), .sl 3 [] none, .sl 5 (wArgs n) none] := by
  cases n <;> rfl
theorem rw_wRow {ρ : Type} (fail : ρ) (n : Nat) (k : Int → Int → ByteArray → EL → EL → ρ) : rw_i64_i64_s_l3_l5 fail (wRow n) k = k (wK n) 0 ⟨#[]⟩ [] (wArgs n) := by
  rw [wRow_eq]; rfl
theorem a00 : binStd .add .i64 0 0 = 0 := by decide
theorem a01 : binStd .add .i64 0 1 = 1 := by decide
theorem a11 : binStd .add .i64 1 1 = 2 := by decide
theorem lift_w0 {ρ : Type} (fail : ρ) (k : Nat) (s : (Int → Int → ByteArray → EL → EL → ρ) → Int → Int → ByteArray → EL → EL → Int → Int → ρ) (K : Int → Int → ByteArray → EL → EL → ρ) : p131_b fail (k + 4) s K 0 0 ⟨#[]⟩ [] [] 0 0 = K 0 0 ⟨#[]⟩ [] [] := by
  simp [p131_b, p135, p135_1L, p135_1, p131_3, p131_2, p131_1L, p131_1, cmpStd, a00]
theorem lift_w1 {ρ : Type} (fail : ρ) (k : Nat) (s : (Int → Int → ByteArray → EL → EL → ρ) → Int → Int → ByteArray → EL → EL → Int → Int → ρ) (K : Int → Int → ByteArray → EL → EL → ρ) (kk : Int) (aa : EL)
    (h1 : ∀ K : Int → Int → ByteArray → EL → EL → ρ, s K kk 0 ⟨#[]⟩ [] aa 0 0 = K kk 0 ⟨#[]⟩ [] aa) (row : List CV) (hr : row = [.v (.int .i64 kk), .v (.int .i64 0), .v (.string ⟨#[]⟩), .sl 3 [] none, .sl 5 aa none]) :
    p131_b fail (k + 4) s K 3 0 ⟨#[]⟩ [] [row, row] 0 0 = K 3 0 ⟨#[]⟩ [] [row, row] := by
  have hw : ∀ k : Int → Int → ByteArray → EL → EL → ρ, rw_i64_i64_s_l3_l5 fail row k = k kk 0 ⟨#[]⟩ [] aa := fun k => by rw [hr]; rfl
  simp [p131_b, p135, p135_1L, p135_1, p131_3, p131_2, p131_1L, p131_1, cmpStd, gd, hw, p142, p142_1, a00, a01, a11, h1, ← hr]
/-- ref5.lift by 0: a copy. -/
theorem lift_w {ρ : Type} (fail : ρ) : ∀ (n fu : Nat), n + 5 ≤ fu → ∀ K : Int → Int → ByteArray → EL → EL → ρ, p131 fail fu K (wK n) 0 ⟨#[]⟩ [] (wArgs n) 0 0 = K (wK n) 0 ⟨#[]⟩ [] (wArgs n) := by
  intro n
  induction n with
  | zero =>
    intro fu hf K
    obtain ⟨k, rfl⟩ : ∃ k, fu = k + 4 + 1 := ⟨fu - 5, by omega⟩
    rw [p131]
    exact lift_w0 fail k _ K
  | succ n ih =>
    intro fu hf K
    obtain ⟨k, rfl⟩ : ∃ k, fu = k + 4 + 1 := ⟨fu - 5, by omega⟩
    rw [p131]
    exact lift_w1 fail k _ K (wK n) (wArgs n) (ih (k + 4) (by omega)) (wRow n) (wRow_eq n)
theorem app_w {ρ : Type} (fail : ρ) (n fu : Nat) (hf : n + 5 ≤ fu) (K : Int → Int → ByteArray → EL → EL → ρ) : p68 fail fu K (wK n) 0 ⟨#[]⟩ [] (wArgs n) (wK n) 0 ⟨#[]⟩ [] (wArgs n) = K (wK (n + 1)) 0 ⟨#[]⟩ [] (wArgs (n + 1)) := by
  show _ = K 3 0 ⟨#[]⟩ [] [wRow n, wRow n]
  have hr := wRow_eq n
  have h1 := lift_w fail n fu hf
  generalize wRow n = row at hr ⊢
  generalize wK n = kk at h1 hr ⊢
  generalize wArgs n = aa at h1 hr ⊢
  simp [p68, p100, h1, gd, ← hr]
theorem add1 (z : Int) (h : 0 ≤ z) (h2 : z ≤ 100000000) : binStd .add .i64 z 1 = z + 1 := by
  show IntKind.i64.wrap (z + 1) = z + 1; exact i64_id (by omega)
theorem wide_loop {ρ : Type} (fail : ρ) (fu : Nat) (K : Int → Int → ByteArray → EL → EL → ρ) : ∀ (r j i : Nat) (z x0 : Int), 0 ≤ z → z + r = x0 → x0 ≤ 1000 → r < j → i + r + 5 ≤ fu →
    p21_1L fail fu K x0 j (wK i) 0 ⟨#[]⟩ [] (wArgs i) z = K (wK (i + r)) 0 ⟨#[]⟩ [] (wArgs (i + r)) := by
  intro r
  induction r with
  | zero =>
    intro j i z x0 h0 h1 h2 h3 h4
    obtain ⟨j, rfl⟩ : ∃ k, j = k + 1 := ⟨j - 1, by omega⟩
    have : ¬ z < x0 := by omega
    simp [p21_1L, p21_1, cmpStd, this]
  | succ r ih =>
    intro j i z x0 h0 h1 h2 h3 h4
    obtain ⟨j, rfl⟩ : ∃ k, j = k + 1 := ⟨j - 1, by omega⟩
    have hz : z < x0 := by omega
    have := ih j (i + 1) (z + 1) x0 (by omega) (by omega) h2 (by omega) (by omega)
    simp only [p21_1L, p21_1, cmpStd, hz, decide_true, cond_true, app_w fail i fu (by omega), add1 z h0 (by omega), this]
    rw [show i + 1 + r = i + (r + 1) by omega]
theorem wide_w {ρ : Type} (fail : ρ) (fu : Nat) (K : Int → Int → ByteArray → EL → EL → ρ) (m : Nat) (h1 : 1 ≤ m) (h2 : m ≤ 50) (h3 : 100 ≤ fu) : p21 fail fu K (m : Int) = K (wK (m - 1)) 0 ⟨#[]⟩ [] (wArgs (m - 1)) := by
  have := wide_loop fail fu K (m - 1) fu 0 1 m (by omega) (by omega) (by omega) (by omega) (by omega)
  simp only [Nat.zero_add] at this
  simp only [p21, p51]
  exact this
end Go.Proofs.Ythncmjlcmlmnmaa

namespace Go.Proofs.Ythncmjlcmlmnmaa
open Go V
set_option maxRecDepth 100000
set_option maxHeartbeats 1000000
theorem u80 : IntKind.u8.wrap 0 = 0 := by decide
theorem u83 : IntKind.u8.wrap 3 = 3 := by decide
theorem q640 : IntKind.u64.wrap 0 = 0 := by decide
theorem q643 : IntKind.u64.wrap 3 = 3 := by decide
theorem a010 : binStd .add .i64 0 10 = 10 := by decide
theorem raw_lit {ρ : Type} (fail : ρ) (v : Int) (hv : v = 0 ∨ v = 3) (b : EL) (hb : b.length ≤ 1073741824) (fu : Nat) (hf : 1 ≤ fu) (K : EL → ρ) : p119 fail fu K b v = K (b ++ [[.v (.int .u8 v)]]) := by
  obtain ⟨k, rfl⟩ : ∃ k, fu = k + 1 := ⟨fu - 1, by omega⟩
  have hb2 : b.length + 1 ≤ 35184372088832 := by omega
  rcases hv with rfl | rfl <;> simp [p119, p140, p120, p140_1L, p140_1, gd, cmpStd, a010, u80, u83, hb2]
theorem num_lit {ρ : Type} (fail : ρ) (v : Int) (hv : v = 0 ∨ v = 3) (b : EL) (hb : b.length ≤ 1073741824) (fu : Nat) (hf : 2 ≤ fu) (K : EL → ρ) : p83 fail fu K b (List.take 1 [[.v (.int .i64 v)]]) = K (b ++ [[.v (.int .u8 v)]]) := by
  obtain ⟨k, rfl⟩ : ∃ k, fu = k + 2 := ⟨fu - 2, by omega⟩
  have hw : IntKind.u64.wrap v = v := by rcases hv with rfl | rfl <;> decide
  simp [p83, p83_1L, p83_1, gd, cmpStd, rw_i64, hw, raw_lit fail v hv b hb, a01]
def bW : Nat → EL
  | 0 => [[.v (.int .u8 0)], [.v (.int .u8 0)]]
  | n + 1 => [.v (.int .u8 3)] :: (bW n ++ bW n)
theorem bW_len : ∀ n, (bW n).length + 1 = 3 * 2 ^ n
  | 0 => rfl
  | n + 1 => by have := bW_len n; simp only [bW, List.length_cons, List.length_append]; rw [Nat.pow_succ]; omega
theorem num_lit' {ρ : Type} (fail : ρ) (v : Int) (hv : v = 0 ∨ v = 3) (b : EL) (hb : b.length ≤ 1073741824) (fu : Nat) (hf : 2 ≤ fu) (K : EL → ρ) : p83 fail fu K b [[.v (.int .i64 v)]] = K (b ++ [[.v (.int .u8 v)]]) := num_lit fail v hv b hb fu hf K
theorem write_w0 {ρ : Type} (fail : ρ) (k : Nat) (s : (EL → ρ) → EL → Int → Int → ByteArray → EL → EL → ρ) (b : EL) (hb : b.length ≤ 1073741000) (K : EL → ρ) :
    p64_b fail (k + 7) s K b 0 0 ⟨#[]⟩ [] [] = K (b ++ [[.v (.int .u8 0)], [.v (.int .u8 0)]]) := by
  have h1 := fun K => num_lit' fail 0 (.inl rfl) b (by omega) (k + 7) (by omega) (K : EL → ρ)
  have h2 := fun K => num_lit' fail 0 (.inl rfl) (b ++ [[.v (.int .u8 0)]]) (by simp; omega) (k + 7) (by omega) (K : EL → ρ)
  simp [p64_b, p64_3, p64_2L, p64_2, p64_1L, p64_1, gd, cmpStd, h1, h2]
theorem write_w1 {ρ : Type} (fail : ρ) (k : Nat) (s : (EL → ρ) → EL → Int → Int → ByteArray → EL → EL → ρ) (b x : EL) (hb : b.length ≤ 1073741000) (K : EL → ρ) (kk : Int) (aa : EL)
    (row : List CV) (hr : row = [.v (.int .i64 kk), .v (.int .i64 0), .v (.string ⟨#[]⟩), .sl 3 [] none, .sl 5 aa none])
    (h2 : ∀ K : EL → ρ, s K (b ++ [[.v (.int .u8 3)]]) kk 0 ⟨#[]⟩ [] aa = K (b ++ [[.v (.int .u8 3)]] ++ x)) (h3 : ∀ K : EL → ρ, s K (b ++ [[.v (.int .u8 3)]] ++ x) kk 0 ⟨#[]⟩ [] aa = K (b ++ [[.v (.int .u8 3)]] ++ x ++ x)) :
    p64_b fail (k + 7) s K b 3 0 ⟨#[]⟩ [] [row, row] = K (b ++ [[.v (.int .u8 3)]] ++ x ++ x) := by
  have hw : ∀ k : Int → Int → ByteArray → EL → EL → ρ, rw_i64_i64_s_l3_l5 fail row k = k kk 0 ⟨#[]⟩ [] aa := fun k => by rw [hr]; rfl
  have h1 := fun K => num_lit' fail 3 (.inr rfl) b (by omega) (k + 7) (by omega) (K : EL → ρ)
  generalize b ++ [[.v (.int .u8 3)]] = b' at h1 h2 h3 ⊢
  generalize hb'' : b' ++ x = b'' at h2 h3 ⊢
  generalize b'' ++ x = b3 at h3 ⊢
  simp [p64_b, p64_4, p64_3, p64_2L, p64_2, p64_1L, p64_1, gd, cmpStd, h1, h2, h3, hw, a01, a11]
theorem write_w {ρ : Type} (fail : ρ) : ∀ (n fu : Nat), n + 8 ≤ fu → ∀ (b : EL) (K : EL → ρ), b.length + 3 * 2 ^ n ≤ 1073741000 →
    p64 fail fu K b (wK n) 0 ⟨#[]⟩ [] (wArgs n) = K (b ++ bW n) := by
  intro n
  induction n with
  | zero =>
    intro fu hf b K hb
    obtain ⟨k, rfl⟩ : ∃ k, fu = k + 7 + 1 := ⟨fu - 8, by omega⟩
    rw [p64]
    exact write_w0 fail k _ b (by omega) K
  | succ n ih =>
    intro fu hf b K hb
    rw [Nat.pow_succ] at hb
    obtain ⟨k, rfl⟩ : ∃ k, fu = k + 7 + 1 := ⟨fu - 8, by omega⟩
    have hl := bW_len n
    have hpos : 1 ≤ 2 ^ n := Nat.one_le_two_pow
    rw [p64]
    have := write_w1 fail k (p64 fail (k + 7)) b (bW n) (by omega) K (wK n) (wArgs n) (wRow n) (wRow_eq n) (fun K => ih (k + 7) (by omega) _ K (by simp only [List.length_append, List.length_singleton]; omega))
      (fun K => ih (k + 7) (by omega) _ K (by simp only [List.length_append, List.length_singleton]; omega))
    simp only [List.append_assoc] at this
    exact this
theorem codecTerm_w {ρ : Type} (fail : ρ) (n fu : Nat) (hf : n + 8 ≤ fu) (hn : n ≤ 20) (K : EL → ρ) : p17 fail fu K nilE (wK n) 0 ⟨#[]⟩ [] (wArgs n) = K (bW n) := by
  have hp : 3 * 2 ^ n ≤ 3 * 2 ^ 20 := Nat.mul_le_mul_left 3 (Nat.pow_le_pow_right (by omega) hn)
  have := fun K => write_w fail n fu hf [] (K : EL → ρ) (by simp; omega)
  simp only [List.nil_append] at this
  simp [p17, p63, gd, this]
end Go.Proofs.Ythncmjlcmlmnmaa

namespace Go.Proofs.Ythncmjlcmlmnmaa
open Go V
set_option maxRecDepth 100000
set_option maxHeartbeats 2000000
theorem m70 : binStd .mul .i64 7 0 = 0 := by decide
theorem an0 : binStd .andNot .u8 0 128 = 0 := by decide
theorem an3 : binStd .andNot .u8 3 128 = 3 := by decide
theorem sh0 : binStd .shl .u64 0 0 = 0 := by decide
theorem sh3 : binStd .shl .u64 3 0 = 3 := by decide
theorem or0 : binStd .or .u64 0 0 = 0 := by decide
theorem or3 : binStd .or .u64 0 3 = 3 := by decide
theorem i640 : IntKind.i64.wrap 0 = 0 := by decide
theorem i643 : IntKind.i64.wrap 3 = 3 := by decide
theorem q646 : IntKind.u64.wrap 6 = 6 := by decide
theorem takeVar_lit {ρ : Type} (fail : ρ) (c : Int) (hc : c = 0 ∨ c = 3) (r : EL) (fu : Nat) (hf : 1 ≤ fu) (K : Int → Int → Int → ρ) : p139 fail fu K ([.v (.int .u8 c)] :: r) = K c 1 0 := by
  obtain ⟨k, rfl⟩ : ∃ k, fu = k + 1 := ⟨fu - 1, by omega⟩
  have h1 : (0 : Int) < (r.length : Int) + 1 := by omega
  rcases hc with rfl | rfl <;> simp [p139, p139_3L, p139_3, p139_2, p139_1, gd, cmpStd, rw_u8, m70, an0, an3, sh0, sh3, or0, or3, q640, q643, a01, h1]
theorem raw_rd {ρ : Type} (fail : ρ) (c : Int) (hc : c = 0 ∨ c = 3) (r : EL) (fu : Nat) (hf : 1 ≤ fu) (K : Int → EL → Int → ρ) : p116 fail fu K ([.v (.int .u8 c)] :: r) 0 = K c r 0 := by
  have h := fun K => takeVar_lit fail c hc r fu hf K
  have h1 : (1 : Int) ≤ (r.length : Int) + 1 := by omega
  simp [p116, p94, p94_1, gd, cmpStd, h, h1]
theorem kind_rd {ρ : Type} (fail : ρ) (c : Int) (hc : c = 0 ∨ c = 3) (r : EL) (fu : Nat) (hf : 1 ≤ fu) (K : Int → EL → Int → ρ) : p93 fail fu K ([.v (.int .u8 c)] :: r) 0 0 6 = K c r 0 := by
  have h := fun K => raw_rd fail c hc r fu hf K
  rcases hc with rfl | rfl <;> simp [p93, p93_1, cmpStd, h, q640, q646, i640, i643]
theorem num_rd {ρ : Type} (fail : ρ) (r : EL) (fu : Nat) (hf : 1 ≤ fu) (K : Int → EL → Int → ρ) : p91 fail fu K ([.v (.int .u8 0)] :: r) 0 = K 0 r 0 := by
  have h := fun K => raw_rd fail 0 (.inl rfl) r fu hf K
  simp [p91, cmpStd, h, i640]
theorem part_ok {ρ : Type} (fail : ρ) (fu : Nat) (B : EL) (p d : Int) (hp : 0 ≤ p) (hp2 : p + 1 ≤ 2000) (hd : d ≤ 100) (K : EL → Int → Int → ρ) : p137 fail fu K B 0 p 2000 d 100 = K B 0 (p + 1) := by
  have h1 : ¬ 2000 < p + 1 := by omega
  have h2 : ¬ 100 < d := by omega
  simp [p137, p137_1, p137_2, cmpStd, add1 p hp (by omega), h1, h2]
theorem part_long {ρ : Type} (fail : ρ) (fu : Nat) (B : EL) (p d : Int) (hp : 0 ≤ p) (hp1 : p ≤ 2000) (hp2 : 2000 < p + 1) (K : EL → Int → Int → ρ) : p137 fail fu K B 0 p 2000 d 100 = K B 3 (p + 1) := by
  simp [p137, p137_1, p94, p94_1, cmpStd, add1 p hp (by omega), hp2]
abbrev RK (ρ : Type) := Int → Int → ByteArray → EL → EL → EL → Int → Int → ρ
theorem term_long {ρ : Type} (fail : ρ) (fu : Nat) (s : RK ρ → EL → Int → Int → Int → ρ) (B : EL) (p d : Int) (hp : 0 ≤ p) (hp1 : p ≤ 2000) (hp2 : 2000 < p + 1) (K : RK ρ) :
    p109_b fail fu s K B 0 d p = K 0 0 ⟨#[]⟩ [] [] B 3 (p + 1) := by
  have h := fun K => part_long fail fu B p d hp hp1 hp2 K
  simp [p109_b, cmpStd, h]
end Go.Proofs.Ythncmjlcmlmnmaa

namespace Go.Proofs.Ythncmjlcmlmnmaa
open Go V
set_option maxRecDepth 100000
set_option maxHeartbeats 2000000
theorem gd_t {ρ : Type} {p : Prop} [Decidable p] {f k : ρ} (h : p) : gd p f k = k := if_pos h
theorem N00 : cmpStd .neq (0 : Int) 0 = false := rfl
theorem N30 : cmpStd .neq (3 : Int) 0 = true := rfl
theorem E00 : cmpStd .eql (0 : Int) 0 = true := rfl
theorem E30 : cmpStd .eql (3 : Int) 0 = false := rfl
theorem E31 : cmpStd .eql (3 : Int) 1 = false := rfl
theorem E32 : cmpStd .eql (3 : Int) 2 = false := rfl
theorem E36 : cmpStd .eql (3 : Int) 6 = false := rfl
theorem L00 : cmpStd .lss (0 : Int) 0 = false := rfl
theorem L02 : cmpStd .lss (0 : Int) 2 = true := rfl
theorem L12 : cmpStd .lss (1 : Int) 2 = true := rfl
theorem L22 : cmpStd .lss (2 : Int) 2 = false := rfl
theorem term_w0 {ρ : Type} (fail : ρ) (k : Nat) (s : RK ρ → EL → Int → Int → Int → ρ) (R : EL) (p d : Int) (hp : 0 ≤ p) (hp2 : p + 1 ≤ 2000) (hd : d ≤ 100) (K : RK ρ) :
    p109_b fail (k + 4) s K ([.v (.int .u8 0)] :: [.v (.int .u8 0)] :: R) 0 d p = K 0 0 ⟨#[]⟩ [] [] R 0 (p + 1) := by
  rw [p109_b, part_ok fail (k + 4) _ p d hp hp2 hd, N00, cond_false, kind_rd fail 0 (.inl rfl) _ (k + 4) (by omega), E00, cond_true, num_rd fail _ (k + 4) (by omega), p109_3, p109_2L, p109_2, L00, cond_false, p109_1L, p109_1, L00, cond_false]
theorem term_w1 {ρ : Type} (fail : ρ) (k : Nat) (s : RK ρ → EL → Int → Int → Int → ρ) (B : EL) (p d : Int) (hp : 0 ≤ p) (hp2 : p + 1 ≤ 2000) (hd0 : 0 ≤ d) (hd : d ≤ 100) (K : RK ρ) (kk : Int) (aa : EL)
    (row : List CV) (hr : row = [.v (.int .i64 kk), .v (.int .i64 0), .v (.string ⟨#[]⟩), .sl 3 [] none, .sl 5 aa none]) (B1 B2 : EL) (q1 q2 : Int)
    (h1 : ∀ K : RK ρ, s K B 0 (d + 1) (p + 1) = K kk 0 ⟨#[]⟩ [] aa B1 0 q1) (h2 : ∀ K : RK ρ, s K B1 0 (d + 1) q1 = K kk 0 ⟨#[]⟩ [] aa B2 0 q2) :
    p109_b fail (k + 4) s K ([.v (.int .u8 3)] :: B) 0 d p = K 3 0 ⟨#[]⟩ [] [row, row] B2 0 q2 := by
  have e3 := add1 d hd0 (by omega)
  rw [p109_b, part_ok fail (k + 4) _ p d hp hp2 hd, N00, cond_false, kind_rd fail 3 (.inr rfl) _ (k + 4) (by omega), E30, cond_false, E31, cond_false, E32, cond_false, E36, cond_false, p109_7, p109_5, p109_4, p109_3, p109_2L, p109_2, L00, cond_false,
    p109_1L, p109_1, L02, cond_true, N00, cond_false, e3, h1, gd_t (by simp), gd_t (by simp), p109_1L, p109_1, a01, L12, cond_true, N00, cond_false, e3, h2, gd_t (by simp), gd_t (by simp), p109_1L, p109_1, a11, L22, cond_false, hr]
  rfl
/-- the first of two is too long -/
theorem term_w1a {ρ : Type} (fail : ρ) (k : Nat) (s : RK ρ → EL → Int → Int → Int → ρ) (B : EL) (p d : Int) (hp : 0 ≤ p) (hp2 : p + 1 ≤ 2000) (hd0 : 0 ≤ d) (hd : d ≤ 100) (K : RK ρ) (a b : Int) (c : ByteArray) (l g B1 : EL) (q1 : Int)
    (h1 : ∀ K : RK ρ, s K B 0 (d + 1) (p + 1) = K a b c l g B1 3 q1) :
    p109_b fail (k + 4) s K ([.v (.int .u8 3)] :: B) 0 d p = K 3 0 ⟨#[]⟩ [] [[.v (.int .i64 a), .v (.int .i64 b), .v (.string c), .sl 3 l none, .sl 5 g none]] B1 3 q1 := by
  have e3 := add1 d hd0 (by omega)
  rw [p109_b, part_ok fail (k + 4) _ p d hp hp2 hd, N00, cond_false, kind_rd fail 3 (.inr rfl) _ (k + 4) (by omega), E30, cond_false, E31, cond_false, E32, cond_false, E36, cond_false, p109_7, p109_5, p109_4, p109_3, p109_2L, p109_2, L00, cond_false,
    p109_1L, p109_1, L02, cond_true, N00, cond_false, e3, h1, gd_t (by simp), gd_t (by simp), p109_1L, p109_1, a01, L12, cond_true, N30, cond_true]
  rfl
/-- the second one is -/
theorem term_w1b {ρ : Type} (fail : ρ) (k : Nat) (s : RK ρ → EL → Int → Int → Int → ρ) (B : EL) (p d : Int) (hp : 0 ≤ p) (hp2 : p + 1 ≤ 2000) (hd0 : 0 ≤ d) (hd : d ≤ 100) (K : RK ρ) (kk : Int) (aa : EL) (a b : Int) (c : ByteArray) (l g B1 B2 : EL) (q1 q2 : Int)
    (h1 : ∀ K : RK ρ, s K B 0 (d + 1) (p + 1) = K kk 0 ⟨#[]⟩ [] aa B1 0 q1) (h2 : ∀ K : RK ρ, s K B1 0 (d + 1) q1 = K a b c l g B2 3 q2) :
    p109_b fail (k + 4) s K ([.v (.int .u8 3)] :: B) 0 d p = K 3 0 ⟨#[]⟩ [] [[.v (.int .i64 kk), .v (.int .i64 0), .v (.string ⟨#[]⟩), .sl 3 [] none, .sl 5 aa none], [.v (.int .i64 a), .v (.int .i64 b), .v (.string c), .sl 3 l none, .sl 5 g none]] B2 3 q2 := by
  have e3 := add1 d hd0 (by omega)
  rw [p109_b, part_ok fail (k + 4) _ p d hp hp2 hd, N00, cond_false, kind_rd fail 3 (.inr rfl) _ (k + 4) (by omega), E30, cond_false, E31, cond_false, E32, cond_false, E36, cond_false, p109_7, p109_5, p109_4, p109_3, p109_2L, p109_2, L00, cond_false,
    p109_1L, p109_1, L02, cond_true, N00, cond_false, e3, h1, gd_t (by simp), gd_t (by simp), p109_1L, p109_1, a01, L12, cond_true, N00, cond_false, e3, h2, gd_t (by simp), gd_t (by simp), p109_1L, p109_1, a11, L22, cond_false]
  rfl
end Go.Proofs.Ythncmjlcmlmnmaa

namespace Go.Proofs.Ythncmjlcmlmnmaa
open Go V
set_option maxRecDepth 100000
set_option maxHeartbeats 2000000
def sz : Nat → Nat
  | 0 => 1
  | n + 1 => 1 + sz n + sz n
theorem read_good {ρ : Type} (fail : ρ) : ∀ (n fu : Nat), n + 5 ≤ fu → ∀ (R : EL) (p d : Int), 0 ≤ p → p + (sz n : Nat) ≤ 2000 → 0 ≤ d → d + (n : Nat) ≤ 100 → ∀ K : RK ρ,
    p109 fail fu K (bW n ++ R) 0 d p = K (wK n) 0 ⟨#[]⟩ [] (wArgs n) R 0 (p + (sz n : Nat)) := by
  intro n
  induction n with
  | zero =>
    intro fu hf R p d hp h2 hd hd2 K
    obtain ⟨k, rfl⟩ : ∃ k, fu = k + 4 + 1 := ⟨fu - 5, by omega⟩
    rw [p109]
    exact term_w0 fail k _ R p d hp (by simp [sz] at h2; omega) (by omega) K
  | succ n ih =>
    intro fu hf R p d hp h2 hd hd2 K
    obtain ⟨k, rfl⟩ : ∃ k, fu = k + 4 + 1 := ⟨fu - 5, by omega⟩
    have hs : ((sz (n + 1) : Nat) : Int) = 1 + (sz n : Nat) + (sz n : Nat) := by simp [sz]
    rw [hs] at h2 ⊢
    rw [p109]
    have := term_w1 fail k (p109 fail (k + 4)) (bW n ++ (bW n ++ R)) p d hp (by omega) hd (by omega) K (wK n) (wArgs n) (wRow n) (wRow_eq n) (bW n ++ R) R (p + 1 + (sz n : Nat)) (p + 1 + (sz n : Nat) + (sz n : Nat))
      (fun K => ih (k + 4) (by omega) _ (p + 1) (d + 1) (by omega) (by omega) (by omega) (by omega) K)
      (fun K => ih (k + 4) (by omega) _ (p + 1 + (sz n : Nat)) (d + 1) (by omega) (by omega) (by omega) (by omega) K)
    have hb : bW (n + 1) ++ R = [.v (.int .u8 3)] :: (bW n ++ (bW n ++ R)) := by simp only [bW, List.cons_append, List.append_assoc]
    rw [show p + (1 + ((sz n : Nat) : Int) + (sz n : Nat)) = p + 1 + (sz n : Nat) + (sz n : Nat) by omega, hb]
    exact this
theorem read_bad {ρ : Type} (fail : ρ) : ∀ (n fu : Nat), n + 5 ≤ fu → ∀ (R : EL) (p d : Int), 0 ≤ p → p ≤ 2000 → 2000 < p + (sz n : Nat) → 0 ≤ d → d + (n : Nat) ≤ 100 →
    ∃ a b c l g B q, ∀ K : RK ρ, p109 fail fu K (bW n ++ R) 0 d p = K a b c l g B 3 q := by
  intro n
  induction n with
  | zero =>
    intro fu hf R p d hp h1 h2 hd hd2
    obtain ⟨k, rfl⟩ : ∃ k, fu = k + 4 + 1 := ⟨fu - 5, by omega⟩
    exact ⟨_, _, _, _, _, _, _, fun K => by rw [p109]; exact term_long fail (k + 4) _ _ p d hp h1 (by simp [sz] at h2; omega) K⟩
  | succ n ih =>
    intro fu hf R p d hp h1 h2 hd hd2
    obtain ⟨k, rfl⟩ : ∃ k, fu = k + 4 + 1 := ⟨fu - 5, by omega⟩
    have hs : ((sz (n + 1) : Nat) : Int) = 1 + (sz n : Nat) + (sz n : Nat) := by simp [sz]
    rw [hs] at h2
    have hb : bW (n + 1) ++ R = [.v (.int .u8 3)] :: (bW n ++ (bW n ++ R)) := by simp only [bW, List.cons_append, List.append_assoc]
    by_cases c1 : 2000 < p + 1
    · exact ⟨_, _, _, _, _, _, _, fun K => by rw [p109]; exact term_long fail (k + 4) _ _ p d hp h1 c1 K⟩
    · by_cases c2 : 2000 < p + 1 + (sz n : Nat)
      · obtain ⟨a, b, c, l, g, B, q, h⟩ := ih (k + 4) (by omega) (bW n ++ R) (p + 1) (d + 1) (by omega) (by omega) c2 (by omega) (by omega)
        exact ⟨_, _, _, _, _, _, _, fun K => by rw [p109, hb]; exact term_w1a fail k _ _ p d hp (by omega) hd (by omega) K a b c l g B q h⟩
      · obtain ⟨a, b, c, l, g, B, q, h⟩ := ih (k + 4) (by omega) R (p + 1 + (sz n : Nat)) (d + 1) (by omega) (by omega) (by omega) (by omega) (by omega)
        have hg := fun K => read_good fail n (k + 4) (by omega) (bW n ++ R) (p + 1) (d + 1) (by omega) (by omega) (by omega) (by omega) K
        exact ⟨_, _, _, _, _, _, _, fun K => by rw [p109, hb]; exact term_w1b fail k _ _ p d hp (by omega) hd (by omega) K (wK n) (wArgs n) a b c l g (bW n ++ R) B _ q hg h⟩
theorem addI (a b : Int) (h : 0 ≤ a ∧ 0 ≤ b ∧ a + b ≤ 100000000) : binStd .add .i64 a b = a + b := by
  show IntKind.i64.wrap (a + b) = a + b; exact i64_id (by omega)
theorem subI (a b : Int) (h : 0 ≤ b ∧ b ≤ a ∧ a ≤ 100000000) : binStd .sub .i64 a b = a - b := by
  show IntKind.i64.wrap (a - b) = a - b; exact i64_id (by omega)
theorem leq_t {a b : Int} (h : a ≤ b) : cmpStd .leq a b = true := decide_eq_true h
theorem gtr_f {a b : Int} (h : a ≤ b) : cmpStd .gtr a b = false := decide_eq_false (by omega)
theorem size_w0 {ρ : Type} (fail : ρ) (k : Nat) (s : (Int → ρ) → Int → Int → ByteArray → EL → EL → Int → ρ) (most : Int) (h : 1 ≤ most) (K : Int → ρ) :
    p22_b fail (k + 4) s K 0 0 ⟨#[]⟩ [] [] most = K 1 := by
  have h0 : (if 0 > most then 0 else most) = most := if_neg (by omega)
  rw [p22_b, h0, p22_2L, p22_2, show ((([] : EL).length : Nat) : Int) = 0 from rfl, L00, cond_false, p22_1, cond_false, gtr_f h, cond_false]
theorem size_w1 {ρ : Type} (fail : ρ) (k : Nat) (s : (Int → ρ) → Int → Int → ByteArray → EL → EL → Int → ρ) (most z : Int) (hz : 1 ≤ z) (h : 1 + z + z ≤ most) (hm : most ≤ 1048576) (K : Int → ρ) (kk : Int) (aa : EL) (row : List CV)
    (hw : ∀ k : Int → Int → ByteArray → EL → EL → ρ, rw_i64_i64_s_l3_l5 fail row k = k kk 0 ⟨#[]⟩ [] aa)
    (h1 : ∀ K : Int → ρ, s K kk 0 ⟨#[]⟩ [] aa (most - 1) = K z) (h2 : ∀ K : Int → ρ, s K kk 0 ⟨#[]⟩ [] aa (most - (1 + z)) = K z) :
    p22_b fail (k + 4) s K 3 0 ⟨#[]⟩ [] [row, row] most = K (1 + z + z) := by
  have h0 : (if 0 > most then 0 else most) = most := if_neg (by omega)
  have e1 : binStd .add .i64 1 z = 1 + z := addI 1 z (by omega)
  have e2 : binStd .add .i64 (1 + z) z = 1 + z + z := addI (1 + z) z (by omega)
  have e3 : binStd .sub .i64 most 1 = most - 1 := subI most 1 (by omega)
  have e4 : binStd .sub .i64 most (1 + z) = most - (1 + z) := subI most (1 + z) (by omega)
  have hl : ((([row, row] : EL).length : Nat) : Int) = 2 := rfl
  rw [p22_b, h0, p22_2L, p22_2, hl, L02, cond_true, leq_t (show (1 : Int) ≤ most by omega), p22_1, cond_true, gd_t (by simp), gd_t (by simp), show List.getD ([row, row] : EL) ((0 : Int).toNat) [] = row from rfl, hw, e3, h1, e1, a01,
    p22_2L, p22_2, hl, L12, cond_true, leq_t (show (1 : Int) + z ≤ most by omega), p22_1, cond_true, gd_t (by simp), gd_t (by simp), show List.getD ([row, row] : EL) ((1 : Int).toNat) [] = row from rfl, hw, e4, h2, e2, a11,
    p22_2L, p22_2, hl, L22, cond_false, p22_1, cond_false, gtr_f h, cond_false]
theorem sz_pos : ∀ n, 1 ≤ sz n
  | 0 => Nat.le_refl _
  | n + 1 => by simp [sz]; omega
theorem size_w {ρ : Type} (fail : ρ) : ∀ (n fu : Nat), n + 5 ≤ fu → ∀ (most : Int), (sz n : Nat) ≤ most → most ≤ 1048576 → ∀ K : Int → ρ, p22 fail fu K (wK n) 0 ⟨#[]⟩ [] (wArgs n) most = K (sz n : Nat) := by
  intro n
  induction n with
  | zero =>
    intro fu hf most h hm K
    obtain ⟨k, rfl⟩ : ∃ k, fu = k + 4 + 1 := ⟨fu - 5, by omega⟩
    rw [p22]
    exact size_w0 fail k _ most (by simpa [sz] using h) K
  | succ n ih =>
    intro fu hf most h hm K
    obtain ⟨k, rfl⟩ : ∃ k, fu = k + 4 + 1 := ⟨fu - 5, by omega⟩
    have hs : ((sz (n + 1) : Nat) : Int) = 1 + (sz n : Nat) + (sz n : Nat) := by simp [sz]
    have hp := sz_pos n
    rw [hs] at h ⊢
    rw [p22]
    exact size_w1 fail k (p22 fail (k + 4)) most (sz n : Nat) (by omega) h hm K (wK n) (wArgs n) (wRow n) (fun k => rw_wRow fail n k) (fun K => ih (k + 4) (by omega) _ (by omega) (by omega) K) (fun K => ih (k + 4) (by omega) _ (by omega) (by omega) K)
end Go.Proofs.Ythncmjlcmlmnmaa
