/- How the document writes numbers, texts, levels, terms and replies. Conditions: none. -/
import Derived.Test.YthncmjlcmlmnmaaRR14
namespace Go.Proofs.Ythncmjlcmlmnmaa
open Go V
set_option maxRecDepth 100000
set_option maxHeartbeats 2000000
theorem remU (v : Nat) (h : v < 2 ^ 64) : binStd .rem .u64 ((v : Nat) : Int) 128 = ((v % 128 : Nat) : Int) := by
  show ((v : Nat) : Int).tmod 128 = _
  rw [Int.tmod_eq_emod_of_nonneg (by omega)]; omega
theorem quoU (v : Nat) (h : v < 2 ^ 64) : binStd .quo .u64 ((v : Nat) : Int) 128 = ((v / 128 : Nat) : Int) := by
  show IntKind.u64.wrap (((v : Nat) : Int).tdiv 128) = _
  rw [Int.tdiv_eq_ediv_of_nonneg (by omega), show ((v : Nat) : Int) / 128 = ((v / 128 : Nat) : Int) by omega, u64_nat _ (by omega)]
theorem addU8 (n : Nat) (h : n < 128) : binStd .add .u8 (IntKind.u8.wrap ((n : Nat) : Int)) 128 = IntKind.u8.wrap ((n + 128 : Nat) : Int) := by
  show IntKind.u8.wrap (IntKind.u8.wrap ((n : Nat) : Int) + 128) = _
  have h1 : IntKind.u8.wrap ((n : Nat) : Int) = ((n : Nat) : Int) := u8_id (by omega)
  rw [h1, show ((n : Nat) : Int) + 128 = ((n + 128 : Nat) : Int) by omega]
theorem rvar_w {ρ : Type} (fail : ρ) (fu : Nat) (hf : 10 ≤ fu) (K : EL → ρ) (z : EL) (v : Nat) (hv : v < 2 ^ 64) (hz : z.length + 10 ≤ 35184372088832) : p113 fail fu K z (v : Nat) = K (z ++ encB (varB v)) := by
  have h9 : ∀ (j : Nat) (w : Nat) (y : EL), w < 2 ^ 64 → y.length + (varB w).length ≤ 35184372088832 → (varB w).length ≤ j → p113_1L fail fu K j (w : Nat) y = K (y ++ encB (varB w)) := by
    intro j
    induction j with
    | zero => intro w y _ _ h; have := varB_len w; omega
    | succ j ih =>
      intro w y hw hy hj
      rw [p113_1L, p113_1]
      by_cases h1 : w < 128
      · rw [varB_lt h1] at hy
        rw [geqF (by omega), cond_false, gd_y (by simp), gd_y (by simp at hy ⊢; omega), varB_lt h1, ← encB_u8]; rfl
      · rw [varB_ge (by omega), List.length_cons] at hy hj
        rw [geqT (by omega), cond_true, gd_y (by decide), gd_y (by simp), gd_y (by simp; omega), gd_y (by decide), remU w hw, addU8 _ (by omega), quoU w hw]
        have := ih (w / 128) (y ++ List.take 1 [[CV.v (.int .u8 (IntKind.u8.wrap ((w % 128 + 128 : Nat) : Int)))]]) (by omega) (by simp; omega) (by omega)
        rw [this, List.append_assoc]
        exact congrArg (fun q => K (y ++ q)) (varB_step (by omega))
  have h10 := varB_10 hv
  rw [p113, gd_y (by rfl), gd_y (by simp; omega), List.nil_append]
  exact h9 fu v z hv (by omega) (by omega)
theorem rnum_w {ρ : Type} (fail : ρ) (fu : Nat) (hf : 10 ≤ fu) (K : EL → ρ) (z : EL) (v : Int) (hz : z.length + 10 ≤ 35184372088832) : p72 fail fu K z v = K (z ++ encB (varB (uv v))) := by
  rw [p72, u64_uv, rvar_w fail fu hf _ z _ (uv_lt v) hz]
theorem rnum_w2 {ρ : Type} (fail : ρ) (fu : Nat) (hf : 10 ≤ fu) (K : EL → ρ) (z : EL) (v : Int) (hz : z.length + 10 ≤ 35184372088832) : p88 fail fu K z v = K (z ++ encB (varB (uv v))) := by
  rw [p88, u64_uv, rvar_w fail fu hf _ z _ (uv_lt v) hz]
theorem rText_w {ρ : Type} (fail : ρ) (fu : Nat) (hf : 10 ≤ fu) (K : EL → ρ) (s : ByteArray) (z : EL) (hs : s.size < 1099511627776) (hz : z.length + 10 + s.size ≤ 35184372088832) : p90 fail fu K z (List.take s.size (encB s.data.toList)) = K (z ++ encB (txB s)) := by
  have ht : List.take s.size (encB s.data.toList) = encB s.data.toList := List.take_of_length_le (by rw [encB_length, sz_data]; exact Nat.le_refl _)
  have h10 := varB_10 (show s.size < 2 ^ 64 by omega)
  rw [ht, p90, encB_length, sz_data, u64_nat _ (by omega), rvar_w fail fu hf _ z _ (by omega) (by omega), gd_y (by rw [List.length_append, encB_length]; omega), List.append_assoc, ← encB_append]
  rfl
theorem rtext_w {ρ : Type} (fail : ρ) (fu : Nat) (hf : 10 ≤ fu) (K : EL → ρ) (s : ByteArray) (z : EL) (hs : s.size < 1099511627776) (hz : z.length + 10 + s.size ≤ 35184372088832) : p73 fail fu K z s = K (z ++ encB (txB s)) := by
  rw [p73, gsz, rText_w fail fu hf _ s z hs hz]
-- ---------------------------------------------------------------- eight bytes
def lowB : Nat → Nat → List UInt8
  | 0, _ => []
  | m + 1, v => lowB m (v / 256) ++ [UInt8.ofNat (v % 256)]
theorem lowB_len : ∀ m v, (lowB m v).length = m
  | 0, _ => rfl
  | m + 1, v => by simp [lowB, lowB_len m]
theorem lowB_be : ∀ (m : Nat) (l : List UInt8), l.length = m → lowB m (be l) = l := by
  intro m
  induction m with
  | zero => intro l h; rw [List.length_eq_zero_iff.1 h]; rfl
  | succ m ih =>
    intro l h
    have hne : l ≠ [] := fun q => by rw [q] at h; simp at h
    have hl := List.dropLast_concat_getLast hne
    have hc := (l.getLast hne).toNat_lt
    have h1 := ih l.dropLast (by rw [List.length_dropLast]; omega)
    have hb : be l = be l.dropLast * 256 + (l.getLast hne).toNat := by rw [← be_snoc, hl]
    rw [lowB, hb, show (be l.dropLast * 256 + (l.getLast hne).toNat) / 256 = be l.dropLast by omega, show (be l.dropLast * 256 + (l.getLast hne).toNat) % 256 = (l.getLast hne).toNat by omega, h1, UInt8.ofNat_toNat, hl]
theorem be_lowB : ∀ (m v : Nat), v < 256 ^ m → be (lowB m v) = v := by
  intro m
  induction m with
  | zero => intro v h; simp at h; subst h; rfl
  | succ m ih =>
    intro v h
    rw [lowB, be_snoc, ih (v / 256) (by rw [Nat.pow_succ] at h; exact Nat.div_lt_of_lt_mul (by rw [Nat.mul_comm]; exact h)), u8_nat (by omega)]
    omega
def zrow : List CV := [.v (.int .u8 0)]
theorem rEight_loop {ρ : Type} (fail : ρ) (fu : Nat) (K : EL → ρ) (x0 : EL) (hx : x0.length + 8 ≤ 35184372088832) : ∀ (m n v : Nat) (T : EL), m + T.length = 8 → m < n → v < 2 ^ 64 →
    p124_1L fail fu K x0 n (v : Nat) (List.replicate m zrow ++ T) 8 8 ((m : Int) - 1) = K (x0 ++ (encB (lowB m v) ++ T)) := by
  intro m
  induction m with
  | zero =>
    intro n v T hT hn hv
    obtain ⟨n, rfl⟩ : ∃ n', n = n' + 1 := ⟨n - 1, by omega⟩
    have ht : List.take 8 T = T := List.take_of_length_le (by omega)
    rw [p124_1L, p124_1, geqF (by omega), cond_false, List.replicate_zero, List.nil_append, gd_y (by rfl), gd_y (by simp; omega), gd_y (by omega), gd_y (by simp; omega), ht]
    rfl
  | succ m ih =>
    intro n v T hT hn hv
    obtain ⟨n, rfl⟩ : ∃ n', n = n' + 1 := ⟨n - 1, by omega⟩
    have hi : ((m + 1 : Nat) : Int) - 1 = ((m : Nat) : Int) := by omega
    have hlen : (List.replicate (m + 1) zrow ++ T).length = 8 := by simp; omega
    have hrep : List.replicate (m + 1) zrow ++ T = List.replicate m zrow ++ (zrow :: T) := by rw [List.replicate_succ', List.append_assoc]; rfl
    have hget : List.getD (List.replicate (m + 1) zrow ++ T) m [] = zrow := by
      rw [hrep, List.getD, List.getElem?_append_right (by simp)]; simp
    have hset : ∀ r, List.set (List.replicate (m + 1) zrow ++ T) m r = List.replicate m zrow ++ (r :: T) := fun r => by
      rw [hrep, List.set_append_right _ _ (by simp)]; simp
    have hm : binStd .rem .u64 ((v : Nat) : Int) 256 = ((v % 256 : Nat) : Int) := by
      show ((v : Nat) : Int).tmod 256 = _
      rw [Int.tmod_eq_emod_of_nonneg (by omega)]; omega
    have hq : binStd .quo .u64 ((v : Nat) : Int) 256 = ((v / 256 : Nat) : Int) := by
      show IntKind.u64.wrap (((v : Nat) : Int).tdiv 256) = _
      rw [Int.tdiv_eq_ediv_of_nonneg (by omega), show ((v : Nat) : Int) / 256 = ((v / 256 : Nat) : Int) by omega, u64_nat _ (by omega)]
    rw [hi, p124_1L, p124_1, geqT (by omega), cond_true, gd_y (by decide), gd_y (by omega), gd_y (by omega), gd_y (by omega), Int.toNat_natCast, gd_y (by omega), hget, gd_y (by decide), gd_y (by decide), hm, hq, hset, subZ (by omega) (by omega), u8_id (by omega)]
    have := ih n (v / 256) ([.v (.int .u8 ((v % 256 : Nat) : Int))] :: T) (by simp; omega) (by omega) (by omega)
    refine Eq.trans ?_ (this.trans ?_)
    · rfl
    · rw [lowB, encB_append, List.append_assoc]
      have he : encB [UInt8.ofNat (v % 256)] = [[.v (.int .u8 ((v % 256 : Nat) : Int))]] := by rw [encB_cons, u8_nat (by omega)]; rfl
      rw [he]; rfl
theorem rEight_w {ρ : Type} (fail : ρ) (fu : Nat) (hf : 10 ≤ fu) (K : EL → ρ) (x0 : EL) (hx : x0.length + 8 ≤ 35184372088832) (v : Nat) (hv : v < 2 ^ 64) : p124 fail fu K x0 (v : Nat) = K (x0 ++ encB (lowB 8 v)) := by
  rw [p124, gd_y (by decide), gd_y (by decide), gd_y (by decide)]
  have := rEight_loop fail fu K x0 hx 8 fu v [] (by simp) (by omega) hv
  rw [List.append_nil, List.append_nil] at this
  exact this
-- ---------------------------------------------------------------- levels and terms
theorem rlw_loop {ρ : Type} (fail : ρ) (fu : Nat) (K : EL → ρ) (s : (EL → ρ) → EL → Int → Int → EL → ρ) (l : List Lv) (B : Nat) (hs : ∀ a ∈ l, ∀ (K : EL → ρ) (z : EL), z.length + a.enc.length ≤ B → s K z a.k a.n (Lv.rows a.args) = K (z ++ encB a.enc)) :
    ∀ (r i n : Nat) (z : EL), l.length < 1099511627776 → i + r = l.length → r < n → z.length + (Lv.encs (l.drop i)).length ≤ B → p28_1L fail fu s K (Lv.rows l) n z ((i : Nat) : Int) = K (z ++ encB (Lv.encs (l.drop i))) := by
  intro r
  induction r with
  | zero =>
    intro i n z hl hi hn hz
    obtain ⟨n, rfl⟩ : ∃ m, n = m + 1 := ⟨n - 1, by omega⟩
    rw [p28_1L, p28_1, Lv.rows_len, lssF (by omega), cond_false, List.drop_eq_nil_of_le (by omega)]
    simp [Lv.encs]
  | succ r ih =>
    intro i n z hl hi hn hz
    obtain ⟨n, rfl⟩ : ∃ m, n = m + 1 := ⟨n - 1, by omega⟩
    have hlt : i < l.length := by omega
    have hd : l.drop i = l[i] :: l.drop (i + 1) := List.drop_eq_getElem_cons hlt
    rw [hd] at hz ⊢
    simp only [Lv.encs, List.length_append] at hz ⊢
    rw [p28_1L, p28_1, Lv.rows_len, lssT (by omega), cond_true, gd_y (by omega), gd_y (by omega), lv_row fail l i hlt, hs _ (List.getElem_mem hlt) _ z (by omega), addZ (by omega) (by omega), show ((i : Nat) : Int) + 1 = ((i + 1 : Nat) : Int) by omega]
    rw [ih (i + 1) n _ hl (by omega) (by omega) (by rw [List.length_append, encB_length]; omega), List.append_assoc, ← encB_append]
theorem rlevel_w {ρ : Type} (fail : ρ) : ∀ (N : Nat) (l : Lv), l.sz ≤ N → ∀ (fu : Nat) (K : EL → ρ) (z : EL), l.sz + 20 ≤ fu → l.sz < 1099511627776 → z.length + l.enc.length ≤ 35184372088000 → p28 fail fu K z l.k l.n (Lv.rows l.args) = K (z ++ encB l.enc) := by
  intro N
  induction N with
  | zero => intro l h; cases l; simp [Lv.sz] at h
  | succ N ih =>
    intro l hN fu K z hf hsz hz
    obtain ⟨k, n, l⟩ := l
    obtain ⟨m, rfl⟩ : ∃ m, fu = m + 1 := ⟨fu - 1, by omega⟩
    simp only [Lv.sz, Lv.enc, List.length_append] at hN hf hsz hz
    simp only [Lv.k, Lv.n, Lv.args, Lv.enc]
    have hl := Lv.szs_len l
    rw [p28, p28_b]
    generalize hs : p28 fail m = s
    have h10 := varB_10 (uv_lt k)
    have h11 := varB_10 (uv_lt n)
    have loop : ∀ y : EL, y.length + (Lv.encs l).length ≤ 35184372088000 → p28_2 fail m s K (Lv.rows l) y = K (y ++ encB (Lv.encs l)) := fun y hy => by
      rw [p28_2]
      have := rlw_loop fail m K s l 35184372088000 (fun a ha K z hz => by
        have h3 := Lv.szs_mem ha
        rw [← hs]; exact ih a (by omega) m K z (by omega) (by omega) hz) l.length 0 m y (by omega) (by omega) (by omega) (by simpa using hy)
      simpa using this
    rw [rnum_w fail m (by omega) _ z k (by omega)]
    by_cases h4 : k = 4
    · rw [if_pos h4] at hz ⊢
      rw [eqlT h4, cond_true, rnum_w fail m (by omega) _ _ n (by rw [List.length_append, encB_length]; omega), loop _ (by simp only [List.length_append, encB_length]; omega)]
      simp [List.append_assoc]
    · rw [if_neg h4] at hz ⊢
      rw [eqlF h4, cond_false, loop _ (by simp only [List.length_append, encB_length]; simp at hz; omega)]
      simp [List.append_assoc]
mutual
/-- Has each part its levels? -/
def Tm.lvOk : Tm → Prop
  | .mk k _ _ l a => (k = 1 → l.length = 1) ∧ (k ≠ 1 → k ≠ 2 → l = []) ∧ Tm.lvOks a
def Tm.lvOks : List Tm → Prop
  | [] => True
  | a :: l => Tm.lvOk a ∧ Tm.lvOks l
end
theorem Tm.lvOks_mem : ∀ {l : List Tm} {a : Tm}, Tm.lvOks l → a ∈ l → a.lvOk
  | b :: l, a, h, ha => by
    rcases List.mem_cons.1 ha with rfl | ha
    · exact h.1
    · exact Tm.lvOks_mem h.2 ha
theorem many_all {α : Type} {f : Nat → List UInt8 → Except Int (α × List UInt8 × Nat)} {Q : List α → Prop} {q : α → Prop} (h0 : Q []) (h1 : ∀ a l, q a → Q l → Q (a :: l)) (hf : ∀ p bs a r p', f p bs = .ok (a, r, p') → q a) : ∀ (n p : Nat) (bs : List UInt8) (l : List α) (r : List UInt8) (p' : Nat), many f n p bs = .ok (l, r, p') → Q l
  | 0, p, bs, l, r, p', h => by simp only [many] at h; injection h with h; injection h with h _; subst h; exact h0
  | n + 1, p, bs, l, r, p', h => by
    simp only [many] at h
    split at h
    · cases h
    · rename_i a bs1 p1 ha
      split at h
      · cases h
      · rename_i l' bs2 p2 h2
        injection h with h; injection h with h _; subst h
        exact h1 _ _ (hf _ _ _ _ _ ha) (many_all h0 h1 hf n p1 bs1 l' bs2 p2 h2)
theorem rdTm_lv : ∀ (left p : Nat) (bs : List UInt8) (t : Tm) (r : List UInt8) (q : Nat), rdTm left p bs = .ok (t, r, q) → t.lvOk
  | 0, p, bs, t, r, q, h => by simp only [rdTm] at h; split at h <;> cases h
  | left + 1, p, bs, t, r, q, h => by
    simp only [rdTm] at h
    split at h
    · cases h
    · split at h
      · cases h
      · rename_i k bs1 hk
        split at h
        · split at h
          · cases h
          · injection h with h; injection h with h5 h; subst h5
            exact ⟨fun h => absurd h (by decide), fun _ _ => rfl, trivial⟩
        · split at h
          · split at h
            · cases h
            · rename_i l2 bs2 p2 hm
              injection h with h; injection h with h5 h; subst h5
              exact ⟨fun _ => levelP_len _ _ _ _ _ _ hm, fun h => absurd rfl h, trivial⟩
          · split at h
            · split at h
              · cases h
              · split at h
                · cases h
                · split at h
                  · cases h
                  · split at h
                    · cases h
                    · injection h with h; injection h with h5 h; subst h5
                      exact ⟨fun h => absurd h (by decide), fun _ h => absurd rfl h, trivial⟩
            · rename_i k1 k2
              split at h
              · cases h
              · rename_i l2 bs2 p2 hm
                injection h with h; injection h with h5 h; subst h5
                exact ⟨fun h => absurd h (by omega), fun _ _ => rfl, many_all (Q := Tm.lvOks) (q := Tm.lvOk) trivial (fun _ _ h1 h2 => ⟨h1, h2⟩) (fun p bs a r p' h => rdTm_lv left p bs a r p' h) _ _ _ _ _ _ hm⟩
theorem rdTerm_lv {bs r : List UInt8} {t : Tm} (h : rdTerm bs = .ok (t, r)) : t.lvOk := by
  unfold rdTerm at h; split at h
  · rename_i l' r' q h'
    injection h with h; injection h with h1 h2; subst h1 h2
    exact rdTm_lv _ _ _ _ _ _ h'
  · cases h
theorem rtw_loop {ρ : Type} (fail : ρ) (fu : Nat) (K : EL → ρ) (s : (EL → ρ) → EL → Int → Int → ByteArray → EL → EL → ρ) (l : List Tm) (B : Nat) (hs : ∀ a ∈ l, ∀ (K : EL → ρ) (z : EL), z.length + a.enc.length ≤ B → s K z a.k a.n a.nm (Lv.rows a.ls) (Tm.rows a.args) = K (z ++ encB a.enc)) :
    ∀ (r i n : Nat) (z : EL), l.length < 1099511627776 → i + r = l.length → r < n → z.length + (Tm.encs (l.drop i)).length ≤ B → p29_1L fail fu s K (Tm.rows l) n z ((i : Nat) : Int) = K (z ++ encB (Tm.encs (l.drop i))) := by
  intro r
  induction r with
  | zero =>
    intro i n z hl hi hn hz
    obtain ⟨n, rfl⟩ : ∃ m, n = m + 1 := ⟨n - 1, by omega⟩
    rw [p29_1L, p29_1, Tm.rows_len, lssF (by omega), cond_false, List.drop_eq_nil_of_le (by omega)]
    simp [Tm.encs]
  | succ r ih =>
    intro i n z hl hi hn hz
    obtain ⟨n, rfl⟩ : ∃ m, n = m + 1 := ⟨n - 1, by omega⟩
    have hlt : i < l.length := by omega
    have hd : l.drop i = l[i] :: l.drop (i + 1) := List.drop_eq_getElem_cons hlt
    rw [hd] at hz ⊢
    simp only [Tm.encs, List.length_append] at hz ⊢
    rw [p29_1L, p29_1, Tm.rows_len, lssT (by omega), cond_true, gd_y (by omega), gd_y (by omega), tm_row fail l i hlt, hs _ (List.getElem_mem hlt) _ z (by omega), addZ (by omega) (by omega), show ((i : Nat) : Int) + 1 = ((i + 1 : Nat) : Int) by omega]
    rw [ih (i + 1) n _ hl (by omega) (by omega) (by rw [List.length_append, encB_length]; omega), List.append_assoc, ← encB_append]
theorem rtw_levels {ρ : Type} (fail : ρ) (fu : Nat) (K : EL → ρ) (s : (EL → ρ) → EL → Int → Int → ByteArray → EL → EL → ρ) (l : List Lv) (A : EL) (hfu : Lv.szs l + 20 ≤ fu) (hsz : Lv.szs l < 1099511627776) :
    ∀ (r i n : Nat) (z : EL), i + r = l.length → r < n → z.length + (Lv.encs (l.drop i)).length ≤ 35184372088000 → p29_5L fail fu s K (Lv.rows l) A n z ((i : Nat) : Int) = p29_4 fail fu s K A (z ++ encB (Lv.encs (l.drop i))) := by
  have hl := Lv.szs_len l
  intro r
  induction r with
  | zero =>
    intro i n z hi hn hz
    obtain ⟨n, rfl⟩ : ∃ m, n = m + 1 := ⟨n - 1, by omega⟩
    rw [p29_5L, p29_5, Lv.rows_len, lssF (by omega), cond_false, List.drop_eq_nil_of_le (by omega)]
    simp [Lv.encs]
  | succ r ih =>
    intro i n z hi hn hz
    obtain ⟨n, rfl⟩ : ∃ m, n = m + 1 := ⟨n - 1, by omega⟩
    have hlt : i < l.length := by omega
    have hm := Lv.szs_mem (List.getElem_mem hlt)
    have hd : l.drop i = l[i] :: l.drop (i + 1) := List.drop_eq_getElem_cons hlt
    rw [hd] at hz ⊢
    simp only [Lv.encs, List.length_append] at hz ⊢
    rw [p29_5L, p29_5, Lv.rows_len, lssT (by omega), cond_true, gd_y (by omega), gd_y (by omega), lv_row fail l i hlt, rlevel_w fail _ l[i] (Nat.le_refl _) fu _ z (by omega) (by omega) (by omega), addZ (by omega) (by omega), show ((i : Nat) : Int) + 1 = ((i + 1 : Nat) : Int) by omega]
    rw [ih (i + 1) n _ (by omega) (by omega) (by rw [List.length_append, encB_length]; omega), List.append_assoc, ← encB_append]
theorem rterm_w {ρ : Type} (fail : ρ) : ∀ (N : Nat) (l : Tm), l.sz ≤ N → l.lvOk → ∀ (fu : Nat) (K : EL → ρ) (z : EL), l.sz + 30 ≤ fu → l.sz < 1099511627776 → z.length + l.enc.length ≤ 35184372087000 → p29 fail fu K z l.k l.n l.nm (Lv.rows l.ls) (Tm.rows l.args) = K (z ++ encB l.enc) := by
  intro N
  induction N with
  | zero => intro l h; cases l; simp [Tm.sz] at h
  | succ N ih =>
    intro t hN hok fu K z hf hsz hz
    obtain ⟨k, n, sn, l, a⟩ := t
    obtain ⟨m, rfl⟩ : ∃ m, fu = m + 1 := ⟨fu - 1, by omega⟩
    obtain ⟨ok1, ok2, ok3⟩ := hok
    simp only [Tm.sz, Tm.enc, List.length_append] at hN hf hsz hz
    simp only [Tm.k, Tm.n, Tm.nm, Tm.ls, Tm.args, Tm.enc]
    have hl := Lv.szs_len l
    have ha := Tm.szs_len a
    rw [p29, p29_b]
    generalize hs : p29 fail m = s
    have h10 := varB_10 (uv_lt k)
    have h11 := varB_10 (uv_lt n)
    have h12 := varB_10 (show l.length < 2 ^ 64 by omega)
    have loop : ∀ y : EL, y.length + (Tm.encs a).length ≤ 35184372087000 → p29_2 fail m s K (Tm.rows a) y = K (y ++ encB (Tm.encs a)) := fun y hy => by
      rw [p29_2]
      have := rtw_loop fail m K s a 35184372087000 (fun b hb K z hz => by
        have h3 := Tm.szs_mem hb
        rw [← hs]; exact ih b (by omega) (Tm.lvOks_mem ok3 hb) m K z (by omega) (by omega) hz) a.length 0 m y (by omega) (by omega) (by omega) (by simpa using hy)
      simpa using this
    rw [rnum_w fail m (by omega) _ z k (by omega)]
    by_cases h0 : k = 0
    · have hln := ok2 (by omega) (by omega)
      subst hln
      rw [if_pos h0] at hz ⊢
      rw [eqlT h0, cond_true, rnum_w fail m (by omega) _ _ n (by rw [List.length_append, encB_length]; omega), loop _ (by simp only [List.length_append, encB_length]; simp [Lv.encs] at hz; omega)]
      simp [List.append_assoc, Lv.encs]
    · rw [if_neg h0] at hz ⊢
      rw [eqlF h0, cond_false]
      by_cases h1 : k = 1
      · have hl1 := ok1 h1
        obtain ⟨b, rfl⟩ : ∃ b, l = [b] := by
          match l, hl1 with
          | [b], _ => exact ⟨b, rfl⟩
        rw [if_neg (by omega)] at hz ⊢
        simp only [Lv.encs, Lv.szs, List.length_append, List.length_nil] at hz hf hsz
        have hr : ∀ q : Int → Int → EL → ρ, rw_i64_i64_l3 fail (List.getD (Lv.rows [b]) ((0 : Int)).toNat []) q = q b.k b.n (Lv.rows b.args) := fun q => lv_row fail [b] 0 (by simp) q
        rw [eqlT h1, cond_true, gd_y (by decide), gd_y (by rw [Lv.rows_len]; simp), hr, rlevel_w fail _ b (Nat.le_refl _) m _ _ (by omega) (by omega) (by rw [List.length_append, encB_length]; omega), p29_3, loop _ (by simp only [List.length_append, encB_length]; omega)]
        simp [List.append_assoc, Lv.encs]
      · rw [eqlF h1, cond_false]
        by_cases h2 : k = 2
        · rw [if_pos h2] at hz ⊢
          simp only [txB, List.length_append, sz_data] at hz
          have hg : uv ((l.length : Nat) : Int) = l.length := uv_nat _ (by omega)
          have hlv := rtw_levels fail m K s l (Tm.rows a) (by omega) (by omega) l.length 0 m ((z ++ encB (varB (uv k))) ++ encB (txB sn) ++ encB (varB l.length)) (by omega) (by omega) (by simp only [txB, List.length_append, encB_length, sz_data, List.drop_zero]; omega)
          rw [show ((0 : Nat) : Int) = 0 from rfl] at hlv
          rw [eqlT h2, cond_true, rtext_w fail m (by omega) _ sn _ (by omega) (by rw [List.length_append, encB_length]; omega), Lv.rows_len, rnum_w fail m (by omega) _ _ _ (by simp only [txB, List.length_append, encB_length, sz_data]; omega), hg, hlv, List.drop_zero, p29_4, p29_3,
            loop _ (by simp only [txB, List.length_append, encB_length, sz_data]; omega)]
          simp [List.append_assoc]
        · have hln := ok2 h1 h2
          subst hln
          rw [if_neg h2] at hz ⊢
          rw [eqlF h2, cond_false, p29_4, p29_3, loop _ (by simp only [List.length_append, encB_length]; simp [Lv.encs] at hz; omega)]
          simp [List.append_assoc, Lv.encs]
end Go.Proofs.Ythncmjlcmlmnmaa

namespace Go.Proofs.Ythncmjlcmlmnmaa
open Go V
set_option maxRecDepth 100000
set_option maxHeartbeats 2000000
theorem scmp_nrefl (s : ByteArray) : scmpStd .neq s s = false := by simp [scmpStd]
theorem lv_same {ρ : Type} (fail : ρ) : ∀ (N : Nat) (l : Lv), l.sz ≤ N → ∀ (fu : Nat) (K : Bool → ρ), l.sz + 20 ≤ fu → l.sz < 1099511627776 → p37 fail fu K l.k l.n (Lv.rows l.args) l.k l.n (Lv.rows l.args) = K true := by
  intro N
  induction N with
  | zero => intro l h; cases l; simp [Lv.sz] at h
  | succ N ih =>
    intro l hN fu K hf hsz
    obtain ⟨k, n, l⟩ := l
    obtain ⟨m, rfl⟩ : ∃ m, fu = m + 1 := ⟨fu - 1, by omega⟩
    simp only [Lv.sz] at hN hf hsz
    simp only [Lv.k, Lv.n, Lv.args]
    have hl := Lv.szs_len l
    rw [p37, p37_b]
    generalize hs : p37 fail m = s
    have loop : ∀ (r i j : Nat), i + r = l.length → r < j → p37_1L fail m s K (Lv.rows l) (Lv.rows l) j ((i : Nat) : Int) = K true := by
      intro r
      induction r with
      | zero =>
        intro i j hi hj
        obtain ⟨j, rfl⟩ : ∃ j', j = j' + 1 := ⟨j - 1, by omega⟩
        rw [p37_1L, p37_1, Lv.rows_len, lssF (by omega), cond_false]
      | succ r ihr =>
        intro i j hi hj
        obtain ⟨j, rfl⟩ : ∃ j', j = j' + 1 := ⟨j - 1, by omega⟩
        have hlt : i < l.length := by omega
        have h3 := Lv.szs_mem (List.getElem_mem hlt)
        have h4 := ih l[i] (by omega) m (fun y9 => bif (!y9) then (K false) else (p37_1L fail m s K (Lv.rows l) (Lv.rows l) j (binStd .add .i64 ((i : Nat) : Int) 1))) (by omega) (by omega)
        rw [hs] at h4
        rw [p37_1L, p37_1, Lv.rows_len, lssT (by omega), cond_true, gd_y (by omega), gd_y (by omega), lv_row fail l i hlt, gd_y (by omega), gd_y (by omega), lv_row fail l i hlt, h4, Bool.not_true, cond_false, addZ (by omega) (by omega), show ((i : Nat) : Int) + 1 = ((i + 1 : Nat) : Int) by omega]
        exact ihr (i + 1) j (by omega) (by omega)
    rw [neqF rfl, cond_false, neqF rfl, cond_false, neqF rfl, p37_2, cond_false]
    exact loop l.length 0 m (by omega) (by omega)
theorem tm_same {ρ : Type} (fail : ρ) : ∀ (N : Nat) (t : Tm), t.sz ≤ N → ∀ (fu : Nat) (K : Bool → ρ), t.sz + 30 ≤ fu → t.sz < 1099511627776 → p19 fail fu K t.k t.n t.nm (Lv.rows t.ls) (Tm.rows t.args) t.k t.n t.nm (Lv.rows t.ls) (Tm.rows t.args) = K true := by
  intro N
  induction N with
  | zero => intro l h; cases l; simp [Tm.sz] at h
  | succ N ih =>
    intro t hN fu K hf hsz
    obtain ⟨k, n, sn, l, a⟩ := t
    obtain ⟨m, rfl⟩ : ∃ m, fu = m + 1 := ⟨fu - 1, by omega⟩
    simp only [Tm.sz] at hN hf hsz
    simp only [Tm.k, Tm.n, Tm.nm, Tm.ls, Tm.args]
    have hl := Lv.szs_len l
    have ha := Tm.szs_len a
    rw [p19, p19_b]
    generalize hs : p19 fail m = s
    have loop : ∀ (r i j : Nat), i + r = a.length → r < j → p19_1L fail m s K (Tm.rows a) (Tm.rows a) j ((i : Nat) : Int) = K true := by
      intro r
      induction r with
      | zero =>
        intro i j hi hj
        obtain ⟨j, rfl⟩ : ∃ j', j = j' + 1 := ⟨j - 1, by omega⟩
        rw [p19_1L, p19_1, Tm.rows_len, lssF (by omega), cond_false]
      | succ r ihr =>
        intro i j hi hj
        obtain ⟨j, rfl⟩ : ∃ j', j = j' + 1 := ⟨j - 1, by omega⟩
        have hlt : i < a.length := by omega
        have h3 := Tm.szs_mem (List.getElem_mem hlt)
        have h4 := ih a[i] (by omega) m (fun y9 => bif (!y9) then (K false) else (p19_1L fail m s K (Tm.rows a) (Tm.rows a) j (binStd .add .i64 ((i : Nat) : Int) 1))) (by omega) (by omega)
        rw [hs] at h4
        rw [p19_1L, p19_1, Tm.rows_len, lssT (by omega), cond_true, gd_y (by omega), gd_y (by omega), tm_row fail a i hlt, gd_y (by omega), gd_y (by omega), tm_row fail a i hlt, h4, Bool.not_true, cond_false, addZ (by omega) (by omega), show ((i : Nat) : Int) + 1 = ((i + 1 : Nat) : Int) by omega]
        exact ihr (i + 1) j (by omega) (by omega)
    have loop2 : ∀ (r i j : Nat), i + r = l.length → r < j → p19_2L fail m s K (Lv.rows l) (Tm.rows a) (Lv.rows l) (Tm.rows a) j ((i : Nat) : Int) = K true := by
      intro r
      induction r with
      | zero =>
        intro i j hi hj
        obtain ⟨j, rfl⟩ : ∃ j', j = j' + 1 := ⟨j - 1, by omega⟩
        rw [p19_2L, p19_2, Lv.rows_len, lssF (by omega), cond_false]
        exact loop a.length 0 m (by omega) (by omega)
      | succ r ihr =>
        intro i j hi hj
        obtain ⟨j, rfl⟩ : ∃ j', j = j' + 1 := ⟨j - 1, by omega⟩
        have hlt : i < l.length := by omega
        have h3 := Lv.szs_mem (List.getElem_mem hlt)
        rw [p19_2L, p19_2, Lv.rows_len, lssT (by omega), cond_true, gd_y (by omega), gd_y (by omega), lv_row fail l i hlt, gd_y (by omega), gd_y (by omega), lv_row fail l i hlt, lv_same fail _ l[i] (Nat.le_refl _) m _ (by omega) (by omega), Bool.not_true, cond_false, addZ (by omega) (by omega), show ((i : Nat) : Int) + 1 = ((i + 1 : Nat) : Int) by omega]
        exact ihr (i + 1) j (by omega) (by omega)
    rw [neqF rfl, cond_false, neqF rfl, cond_false, scmp_nrefl, cond_false, neqF rfl, cond_false, neqF rfl, p19_3, cond_false]
    exact loop2 l.length 0 m (by omega) (by omega)
theorem nscmp_nil (s : ByteArray) : scmpStd .neq s ⟨#[]⟩ = !decide (s.size = 0) := by
  rw [← scmp_nil]; rfl
/-- Held against the zero term. -/
theorem rterm_isZ0 {ρ : Type} (fail : ρ) (fu : Nat) (hf : 20 ≤ fu) (K : Bool → ρ) (k n : Int) (s : ByteArray) (l a : EL) : p19 fail fu K k n s l a 0 0 ⟨#[]⟩ nilE nilE = K (decide (k = 0) && (decide (n = 0) && (decide (s.size = 0) && (decide (l.length = 0) && decide (a.length = 0))))) := by
  obtain ⟨m, rfl⟩ : ∃ m, fu = m + 1 := ⟨fu - 1, by omega⟩
  rw [p19, p19_b, nscmp_nil]
  by_cases c1 : k = 0
  · rw [neqF c1, cond_false, decide_eq_true c1, Bool.true_and]
    by_cases c2 : n = 0
    · rw [neqF c2, cond_false, decide_eq_true c2, Bool.true_and]
      by_cases c3 : s.size = 0
      · rw [decide_eq_true c3, Bool.not_true, cond_false, Bool.true_and]
        by_cases c4 : l.length = 0
        · have hl := List.length_eq_zero_iff.1 c4
          subst hl
          rw [neqF rfl, cond_false, decide_eq_true c4, Bool.true_and]
          by_cases c5 : a.length = 0
          · have ha := List.length_eq_zero_iff.1 c5
            subst ha
            obtain ⟨q, rfl⟩ : ∃ q, m = q + 1 := ⟨m - 1, by omega⟩
            rw [neqF rfl, p19_3, cond_false]; rfl
          · rw [neqT (by simp only [List.length_nil]; omega), p19_3, cond_true, decide_eq_false c5]
        · rw [neqT (by simp only [List.length_nil]; omega), cond_true, p19_3, cond_true, decide_eq_false c4]; rfl
      · rw [decide_eq_false c3, Bool.not_false, cond_true, p19_3, cond_true]; rfl
    · rw [neqT c2, cond_true, p19_3, cond_true, decide_eq_false c2]; rfl
  · rw [neqT c1, cond_true, p19_3, cond_true, decide_eq_false c1]; rfl
theorem rterm_isZ {ρ : Type} (fail : ρ) (fu : Nat) (hf : 20 ≤ fu) (K : Bool → ρ) (t : Tm) : p19 fail fu K t.k t.n t.nm (Lv.rows t.ls) (Tm.rows t.args) 0 0 ⟨#[]⟩ nilE nilE = K (isZ t) := by
  rw [rterm_isZ0 fail fu hf, Lv.rows_len, Tm.rows_len]; rfl
theorem str_row {ρ : Type} (fail : ρ) (l : List ByteArray) (i : Nat) (h : i < l.length) (k : ByteArray → ρ) : rw_s fail (List.getD (l.map strRow) (((i : Nat) : Int)).toNat []) k = k l[i] := by
  rw [Int.toNat_natCast, List.getD, List.getElem?_map, List.getElem?_eq_getElem h]; rfl
theorem names_same {ρ : Type} (fail : ρ) (fu : Nat) (K : Bool → ρ) (l : List ByteArray) (hf : l.length + 5 ≤ fu) (hl : l.length < 1099511627776) : p130 fail fu K (l.map strRow) (l.map strRow) = K true := by
  have loop : ∀ (r i j : Nat), i + r = l.length → r < j → p130_1L fail fu K (l.map strRow) (l.map strRow) j ((i : Nat) : Int) = K true := by
    intro r
    induction r with
    | zero =>
      intro i j hi hj
      obtain ⟨j, rfl⟩ : ∃ j', j = j' + 1 := ⟨j - 1, by omega⟩
      rw [p130_1L, p130_1, List.length_map, lssF (by omega), cond_false]
    | succ r ihr =>
      intro i j hi hj
      obtain ⟨j, rfl⟩ : ∃ j', j = j' + 1 := ⟨j - 1, by omega⟩
      have hlt : i < l.length := by omega
      rw [p130_1L, p130_1, List.length_map, lssT (by omega), cond_true, gd_y (by omega), gd_y (by omega), str_row fail l i hlt, gd_y (by omega), gd_y (by omega), str_row fail l i hlt, scmp_nrefl, cond_false, addZ (by omega) (by omega), show ((i : Nat) : Int) + 1 = ((i + 1 : Nat) : Int) by omega]
      exact ihr (i + 1) j (by omega) (by omega)
  rw [p130, neqF rfl, cond_false]
  exact loop l.length 0 fu (by omega) (by omega)
theorem reply_same {ρ : Type} (fail : ρ) (fu : Nat) (K : Bool → ρ) (r : Rp) (h1 : r.t.sz + 30 ≤ fu) (h2 : r.t.sz < 1099511627776) (h3 : r.ax.length + 5 ≤ fu) (h4 : r.ax.length < 1099511627776) :
    p47 fail fu K r.err r.hi r.lo r.fuel r.cells r.yes r.t.k r.t.n r.t.nm (Lv.rows r.t.ls) (Tm.rows r.t.args) r.params (r.ax.map strRow) r.err r.hi r.lo r.fuel r.cells r.yes r.t.k r.t.n r.t.nm (Lv.rows r.t.ls) (Tm.rows r.t.args) r.params (r.ax.map strRow) = K true := by
  have hb : (r.yes == r.yes) = true := by simp
  have hh : ((cmpStd .eql r.hi r.hi) && ((cmpStd .eql r.lo r.lo) && true)) = true := by rw [eqlT rfl, eqlT rfl]; rfl
  rw [p47, p99, eqlT rfl, cond_true, hh, cond_true, eqlT rfl, cond_true, eqlT rfl, cond_true, hb, cond_true, eqlT rfl, cond_true, tm_same fail _ r.t (Nat.le_refl _) fu _ h1 h2, cond_true, names_same fail fu _ r.ax h3 h4, p99_1]
-- ---------------------------------------------------------------- a reply's bytes
def axB : List ByteArray → List UInt8
  | [] => []
  | s :: l => txB s ++ axB l
def axSz : List ByteArray → Nat
  | [] => 0
  | s :: l => 1 + s.size + axSz l
def rpEnc (err : Int) (hi lo : Nat) (fuel cells : Int) (yes : Bool) (t : Tm) (pa : Int) (ax : List ByteArray) : List UInt8 :=
  varB (uv err) ++ (lowB 8 hi ++ (lowB 8 lo ++ (varB (uv fuel) ++ (varB (uv cells) ++ (varB (if yes then 1 else 0) ++ ((if isZ t = true then varB 0 else varB 1 ++ t.enc) ++ (varB (uv pa) ++ (varB ax.length ++ axB ax))))))))
theorem axSz_len : ∀ l : List ByteArray, l.length ≤ axSz l
  | [] => Nat.zero_le _
  | a :: l => by have := axSz_len l; simp only [axSz, List.length_cons]; omega
theorem axSz_mem : ∀ {l : List ByteArray} {a : ByteArray}, a ∈ l → a.size ≤ axSz l
  | b :: l, a, h => by
    simp only [axSz]
    rcases List.mem_cons.1 h with rfl | h
    · omega
    · have := axSz_mem h; omega
theorem rax_w {ρ : Type} (fail : ρ) (fu : Nat) (K : EL → ρ) (l : List ByteArray) (hfu : axSz l + 20 ≤ fu) (hsz : axSz l < 1099511627776) :
    ∀ (r i n : Nat) (z : EL), i + r = l.length → r < n → z.length + (axB (l.drop i)).length ≤ 35184372087000 → p44_1L fail fu K (l.map strRow) n z ((i : Nat) : Int) = K (z ++ encB (axB (l.drop i))) := by
  have hl := axSz_len l
  intro r
  induction r with
  | zero =>
    intro i n z hi hn hz
    obtain ⟨n, rfl⟩ : ∃ m, n = m + 1 := ⟨n - 1, by omega⟩
    rw [p44_1L, p44_1, List.length_map, lssF (by omega), cond_false, List.drop_eq_nil_of_le (by omega)]
    simp [axB]
  | succ r ih =>
    intro i n z hi hn hz
    obtain ⟨n, rfl⟩ : ∃ m, n = m + 1 := ⟨n - 1, by omega⟩
    have hlt : i < l.length := by omega
    have hm := axSz_mem (List.getElem_mem hlt)
    have hd : l.drop i = l[i] :: l.drop (i + 1) := List.drop_eq_getElem_cons hlt
    rw [hd] at hz ⊢
    simp only [axB, List.length_append] at hz ⊢
    have htx : (txB l[i]).length = (varB l[i].size).length + l[i].size := by simp [txB, sz_data]
    have h10 := varB_10 (show l[i].size < 2 ^ 64 by omega)
    rw [p44_1L, p44_1, List.length_map, lssT (by omega), cond_true, gd_y (by omega), gd_y (by omega), str_row fail l i hlt, gsz, rText_w fail fu (by omega) _ _ z (by omega) (by omega), addZ (by omega) (by omega), show ((i : Nat) : Int) + 1 = ((i + 1 : Nat) : Int) by omega]
    rw [ih (i + 1) n _ (by omega) (by omega) (by simp only [List.length_append, encB_length]; omega)]
    simp [List.append_assoc]
theorem rreply_w {ρ : Type} (fail : ρ) (fu : Nat) (K : EL → ρ) (err : Int) (hi lo : Nat) (fuel cells : Int) (yes : Bool) (t : Tm) (pa : Int) (ax : List ByteArray) (hhi : hi < 2 ^ 64) (hlo : lo < 2 ^ 64) (ht1 : t.sz + 60 ≤ fu) (ht2 : t.sz < 1099511627776) (ht3 : t.lvOk) (ha1 : axSz ax + 60 ≤ fu) (ha2 : axSz ax < 1099511627776)
    (hz : (rpEnc err hi lo fuel cells yes t pa ax).length ≤ 35184372086000) : p44 fail fu K nilE err (hi : Nat) (lo : Nat) fuel cells yes t.k t.n t.nm (Lv.rows t.ls) (Tm.rows t.args) pa (ax.map strRow) = K (encB (rpEnc err hi lo fuel cells yes t pa ax)) := by
  have hal := axSz_len ax
  have u1 := varB_10 (uv_lt err)
  have u2 := varB_10 (uv_lt fuel)
  have u3 := varB_10 (uv_lt cells)
  have u4 := varB_10 (uv_lt pa)
  have u5 := varB_10 (show ax.length < 2 ^ 64 by omega)
  have l1 := lowB_len 8 hi
  have l2 := lowB_len 8 lo
  have hv1 : (varB 1).length = 1 := by rw [varB_lt (by omega)]; rfl
  have hv0 : (varB 0).length = 1 := by rw [varB_lt (by omega)]; rfl
  have hy : (varB (if yes = true then 1 else 0)).length = 1 := by split <;> assumption
  have hg : uv ((ax.length : Nat) : Int) = ax.length := uv_nat _ (by omega)
  simp only [rpEnc, List.length_append] at hz
  have tail : ∀ y : EL, y.length + (varB (uv pa)).length + (varB ax.length).length + (axB ax).length ≤ 35184372086900 → p44_2 fail fu K pa (ax.map strRow) y = K (y ++ encB (varB (uv pa) ++ (varB ax.length ++ axB ax))) := fun y hy => by
    have := rax_w fail fu K ax (by omega) ha2 ax.length 0 fu (y ++ encB (varB (uv pa)) ++ encB (varB ax.length)) (by omega) (by omega) (by simp only [List.length_append, encB_length, List.drop_zero]; omega)
    rw [show ((0 : Nat) : Int) = 0 from rfl] at this
    rw [p44_2, rnum_w2 fail fu (by omega) _ y pa (by omega), List.length_map, rnum_w2 fail fu (by omega) _ _ _ (by simp only [List.length_append, encB_length]; omega), hg, this, List.drop_zero]
    simp [List.append_assoc]
  have mid : ∀ (y : EL) (j : Int), uv j = (if yes = true then 1 else 0) → y.length + (varB (if yes = true then 1 else 0)).length + (if isZ t = true then varB 0 else varB 1 ++ t.enc).length + (varB (uv pa)).length + (varB ax.length).length + (axB ax).length ≤ 35184372086900 →
      p44_3 fail fu K t.k t.n t.nm (Lv.rows t.ls) (Tm.rows t.args) pa (ax.map strRow) y j = K (y ++ encB (varB (if yes = true then 1 else 0) ++ ((if isZ t = true then varB 0 else varB 1 ++ t.enc) ++ (varB (uv pa) ++ (varB ax.length ++ axB ax))))) := fun y j hj hyl => by
    rw [p44_3, rnum_w2 fail fu (by omega) _ y j (by omega), hj, rterm_isZ fail fu (by omega)]
    by_cases c : isZ t = true
    · rw [if_pos c] at hyl ⊢
      rw [c, cond_true, rnum_w2 fail fu (by omega) _ _ _ (by simp only [List.length_append, encB_length]; omega), show uv 0 = 0 from rfl, tail _ (by simp only [List.length_append, encB_length]; omega)]
      simp [List.append_assoc]
    · rw [if_neg c] at hyl ⊢
      simp only [List.length_append] at hyl
      rw [Bool.eq_false_iff.2 c, cond_false, rnum_w2 fail fu (by omega) _ _ _ (by simp only [List.length_append, encB_length]; omega), show uv 1 = 1 from rfl, rterm_w fail _ t (Nat.le_refl _) ht3 fu _ _ (by omega) ht2 (by simp only [List.length_append, encB_length]; omega), tail _ (by simp only [List.length_append, encB_length]; omega)]
      simp [List.append_assoc]
  rw [p44, rnum_w2 fail fu (by omega) _ _ err (by simp), p89, rEight_w fail fu (by omega) _ _ (by simp only [List.length_append, encB_length, List.length_nil]; omega) hi hhi, rEight_w fail fu (by omega) _ _ (by simp only [List.length_append, encB_length, List.length_nil]; omega) lo hlo,
    rnum_w2 fail fu (by omega) _ _ fuel (by simp only [List.length_append, encB_length, List.length_nil]; omega), rnum_w2 fail fu (by omega) _ _ cells (by simp only [List.length_append, encB_length, List.length_nil]; omega)]
  have fin : ∀ j : Int, uv j = (if yes = true then 1 else 0) → p44_3 fail fu K t.k t.n t.nm (Lv.rows t.ls) (Tm.rows t.args) pa (ax.map strRow) ((((([] ++ encB (varB (uv err))) ++ encB (lowB 8 hi)) ++ encB (lowB 8 lo)) ++ encB (varB (uv fuel))) ++ encB (varB (uv cells))) j = K (encB (rpEnc err hi lo fuel cells yes t pa ax)) := fun j hj => by
    rw [mid _ j hj (by simp only [List.length_append, encB_length, List.length_nil]; omega), rpEnc]
    simp [List.append_assoc]
  cases hyes : yes with
  | true => rw [cond_true]; subst hyes; exact fin 1 rfl
  | false => rw [cond_false]; subst hyes; exact fin 0 rfl
end Go.Proofs.Ythncmjlcmlmnmaa

namespace Go.Proofs.Ythncmjlcmlmnmaa
open Go V
set_option maxRecDepth 100000
set_option maxHeartbeats 2000000
theorem scmp_arr (a b : List UInt8) : scmpStd .neq ⟨a.toArray⟩ ⟨b.toArray⟩ = !decide (a = b) := by
  show (!((⟨a.toArray⟩ : ByteArray).toList == (⟨b.toArray⟩ : ByteArray).toList)) = _
  rw [ByteArray.toList_mk, ByteArray.toList_mk]
  by_cases h : a = b
  · rw [h]; simp
  · simp [h]
theorem rdName_only (p : Nat) (bs : List UInt8) (a : ByteArray) (r : List UInt8) (q : Nat) (h : rdName p bs = .ok (a, r, q)) : bs = txB a ++ r ∧ 1 + a.size + r.length ≤ bs.length := by
  unfold rdName at h; split at h
  · cases h
  · rename_i s r' hs
    obtain ⟨h1, h2, h3, h4⟩ := rdTxt_ok hs
    injection h with h; injection h with h5 h; injection h with h6 h7; subst h5 h6 h7
    have hl := varB_len s.length
    refine ⟨by rw [txB_of, h3, List.append_assoc], ?_⟩
    rw [bsz, h3]; simp only [List.length_append]; omega
theorem names_sz : ∀ (n p : Nat) (bs : List UInt8) (l : List ByteArray) (r : List UInt8) (q : Nat), many rdName n p bs = .ok (l, r, q) → axSz l + r.length ≤ bs.length ∧ bs = axB l ++ r ∧ l.length = n
  | 0, p, bs, l, r, q, h => by simp only [many] at h; injection h with h; injection h with h1 h; injection h with h2 _; subst h1 h2; exact ⟨by simp [axSz], rfl, rfl⟩
  | n + 1, p, bs, l, r, q, h => by
    simp only [many] at h
    split at h
    · cases h
    · rename_i a bs1 p1 ha
      split at h
      · cases h
      · rename_i l' bs2 p2 h2
        injection h with h; injection h with h3 h; injection h with h4 h5; subst h3 h4 h5
        obtain ⟨h6, h7⟩ := rdName_only _ _ _ _ _ ha
        obtain ⟨h8, h9, h10⟩ := names_sz n p1 bs1 l' bs2 p2 h2
        exact ⟨by simp only [axSz]; omega, by rw [h6, h9]; simp [axB, List.append_assoc], by simp [h10]⟩
def rdHd (bs : List UInt8) : Except Int ((Nat × Nat) × List UInt8) := if bs.length < 16 then .error 2 else .ok ((be (bs.take 8), be ((bs.drop 8).take 8)), bs.drop 16)
theorem teight_loop {ρ : Type} (fail : ρ) (fu : Nat) (K : Int → Int → ρ) (l : List UInt8) (hl : 8 ≤ l.length) : ∀ (r i n : Nat), i + r = 8 → r < n →
    p128_1L fail fu K (encB l) n ((be (l.take i) : Nat) : Int) ((i : Nat) : Int) = K ((be (l.take 8) : Nat) : Int) 0 := by
  intro r
  induction r with
  | zero =>
    intro i n hi hn
    obtain ⟨n, rfl⟩ : ∃ m, n = m + 1 := ⟨n - 1, by omega⟩
    rw [p128_1L, p128_1, lssF (by omega), cond_false, show i = 8 by omega]
  | succ r ih =>
    intro i n hi hn
    obtain ⟨n, rfl⟩ : ∃ m, n = m + 1 := ⟨n - 1, by omega⟩
    have hlt : i < l.length := by omega
    have hb : be (l.take (i + 1)) = be (l.take i) * 256 + (l[i]).toNat := by rw [List.take_succ_eq_append_getElem hlt, be_snoc]
    have hc := (l[i]).toNat_lt
    have h64 : be (l.take (i + 1)) < 2 ^ 64 := Nat.lt_of_lt_of_le (be_lt (i + 1) _ (by rw [List.length_take]; omega)) (Nat.pow_le_pow_right (by omega) (by omega))
    have hacc : binStd .add .u64 (binStd .mul .u64 ((be (l.take i) : Nat) : Int) 256) (IntKind.u64.wrap (((l[i]).toNat : Nat) : Int)) = ((be (l.take (i + 1)) : Nat) : Int) := by
      rw [show (256 : Int) = ((256 : Nat) : Int) from rfl, mulU _ _ (by omega), u64_nat _ (by omega), addU _ _ (by omega), hb]
    rw [p128_1L, p128_1, lssT (by omega), cond_true, gd_y (by omega), gd_y (by rw [encB_length]; omega), rw_byte fail l i hlt, hacc, addZ (by omega) (by omega), show ((i : Nat) : Int) + 1 = ((i + 1 : Nat) : Int) by omega]
    exact ih (i + 1) n (by omega) (by omega)
theorem teight_eq {ρ : Type} (fail : ρ) (fu : Nat) (hf : 10 ≤ fu) (K : Int → Int → ρ) (l : List UInt8) (hl : 8 ≤ l.length) : p128 fail fu K (encB l) = K ((be (l.take 8) : Nat) : Int) 0 := by
  rw [p128, encB_length, lssF (by omega), cond_false]
  exact teight_loop fail fu K l hl 8 0 fu (by omega) (by omega)
section
variable {ρ : Type} (fail : ρ) (fu : Nat) (all : List UInt8) (hall : all.length ≤ 4000)
def HO6 {ρ : Type} (all : List UInt8) (p : (Int → Int → EL → Int → Int → ρ) → ρ) : Except Int ((Nat × Nat) × List UInt8) → Prop
  | .ok ((h, l), r) => ∀ K : Int → Int → EL → Int → Int → ρ, p K = K (h : Nat) (l : Nat) (encB all) (atR all r) 0
  | .error e => e ≠ 0 ∧ ∃ a, ∀ K : Int → Int → EL → Int → Int → ρ, p K = K 0 0 (encB all) a e
include hall in
theorem taken_eq (hf : 10 ≤ fu) (bs : List UInt8) (hs : Sfx all bs) : HO6 all (fun K => p97 fail fu K (encB all) (atR all bs) 0) (rdHd bs) := by
  have hl := hs.len
  have hall' : all.length ≤ 1099511627776 := by omega
  have hat : atR all bs = ((all.length - bs.length : Nat) : Int) := rfl
  unfold rdHd
  by_cases h : bs.length < 16
  · rw [if_pos h]
    refine ⟨by decide, atR all bs, fun K => ?_⟩
    dsimp only
    rw [p97, neqF rfl, cond_false, encB_length, subZ (by omega) (by omega), lssT (by omega), cond_true]
  · rw [if_neg h]
    intro K
    dsimp only
    have hd8 : Sfx all (bs.drop 8) := hs.dropn 8
    have hat8 : binStd .add .i64 (atR all bs) 8 = atR all (bs.drop 8) := by rw [addZ (by omega) (by omega), hat]; unfold atR; rw [List.length_drop]; omega
    have hat16 : binStd .add .i64 (atR all bs) 16 = atR all (bs.drop 16) := by rw [addZ (by omega) (by omega), hat]; unfold atR; rw [List.length_drop]; omega
    have hat8' : atR all (bs.drop 8) = ((all.length - (bs.length - 8) : Nat) : Int) := by unfold atR; rw [List.length_drop]
    rw [p97, neqF rfl, cond_false, encB_length, subZ (by omega) (by omega), lssF (by omega), cond_false, gd_y (by omega), gd_y (by omega), gd_y (by omega)]
    have e1 := dropAll all hall' hs
    have e2 := dropAll all hall' hd8
    rw [encB_length] at e1 e2
    rw [e1, teight_eq fail fu hf _ bs (by omega), hat8, gd_y (by omega), gd_y (by omega), gd_y (by omega), e2, teight_eq fail fu hf _ _ (by rw [List.length_drop]; omega), hat16]
theorem takenE (K : Int → Int → EL → Int → Int → ρ) (B : EL) (a e : Int) (h : e ≠ 0) : p97 fail fu K B a e = K 0 0 B a e := by
  rw [p97, neqT h, cond_true]
section
variable (err : Int) (hi lo : Nat) (fuel cells : Int) (yes : Bool) (t : Tm)
/-- What is read must be what is written of it. -/
def chk (all : List UInt8) (err : Int) (hi lo : Nat) (fuel cells : Int) (yes : Bool) (t : Tm) : Option (Nat × List ByteArray) → Option Rp
  | none => none
  | some (pa, l) => if rpEnc err hi lo fuel cells yes t (pa : Nat) l = all then some ⟨err, hi, lo, fuel, cells, yes, t, (pa : Nat), l⟩ else none
def rfR5 (bs : List UInt8) : Option (Nat × List ByteArray) := match rdNum bs with
  | .error _ => none
  | .ok (pa, bs) => match rdNum bs with
    | .error _ => none
    | .ok (n, bs) => match many rdName n 0 bs with
      | .error _ => none
      | .ok (l, _, _) => some (pa, l)
def fin46 (K : RK14 ρ) (pa : Int) (z : EL) : ρ := tobP fail (encB all) (fun s54 => p44 fail fu (fun y55 => tobP fail y55 (fun s56 => p46_1 fail fu K err (hi : Nat) (lo : Nat) fuel cells yes t.k t.n t.nm (Lv.rows t.ls) (Tm.rows t.args) pa z (scmpStd .neq s56 s54))) nilE err (hi : Nat) (lo : Nat) fuel cells yes t.k t.n t.nm (Lv.rows t.ls) (Tm.rows t.args) pa z)
theorem rf_dead (K : RK14 ρ) (y1 y5 y6 y10 y14 : Int) (j25 : Bool) (j30 j31 : Int) (j32 : ByteArray) (j33 j34 : EL) (pa n : Int) (B : EL) (a e : Int) (z : EL) (i : Int) (he : e ≠ 0) (m : Nat) : p46_3L fail fu K (encB all) y1 y5 y6 y10 y14 j25 j30 j31 j32 j33 j34 pa n (m + 1) B a e z i = rpOut none K := by
  have h2 : p46_2 fail fu K (p46_3L fail fu K (encB all) y1 y5 y6 y10 y14 j25 j30 j31 j32 j33 j34 pa n m) (encB all) y1 y5 y6 y10 y14 j25 j30 j31 j32 j33 j34 pa B a e z i false = rpOut none K := by
    rw [p46_2, cond_false, neqT he, cond_true, p46_1, cond_true]; rfl
  rw [p46_3L, p46_3]
  by_cases c1 : i < n
  · rw [lssT c1, cond_true]
    by_cases c2 : i ≤ 65536
    · rw [leqT c2, cond_true, eqlF he]; exact h2
    · rw [leqF (by omega), cond_false]; exact h2
  · rw [lssF (by omega), cond_false]; exact h2
include hall in
theorem rfLoop (hfu : 20 ≤ fu) (pa : Int) (n : Nat) : ∀ (L j : Nat) (bs : List UInt8) (i : Nat) (z : EL), Sfx all bs → bs.length ≤ L → L + 2 ≤ j → i + L ≤ 10000 → z.length ≤ i →
    match many rdName (n - i) 0 bs with
    | .ok (l, _, _) => ∀ K : RK14 ρ, p46_3L fail fu K (encB all) err (hi : Nat) (lo : Nat) fuel cells yes t.k t.n t.nm (Lv.rows t.ls) (Tm.rows t.args) pa (n : Nat) j (encB all) (atR all bs) 0 z (i : Nat) = fin46 fail fu all err hi lo fuel cells yes t K pa (z ++ l.map strRow)
    | .error _ => ∀ K : RK14 ρ, p46_3L fail fu K (encB all) err (hi : Nat) (lo : Nat) fuel cells yes t.k t.n t.nm (Lv.rows t.ls) (Tm.rows t.args) pa (n : Nat) j (encB all) (atR all bs) 0 z (i : Nat) = rpOut none K := by
  intro L
  induction L with
  | zero =>
    intro j bs i z hs hL hj hi0 hz
    obtain ⟨j, rfl⟩ : ∃ j', j = j' + 2 := ⟨j - 2, by omega⟩
    have hbs : bs = [] := List.length_eq_zero_iff.1 (by omega)
    by_cases hin : n ≤ i
    · rw [show n - i = 0 by omega]
      simp only [many]
      intro K
      rw [p46_3L, p46_3, lssF (by omega), cond_false, p46_2, cond_false, neqF rfl, cond_false]
      simp [fin46]
    · obtain ⟨r, hr⟩ : ∃ r, n - i = r + 1 := ⟨n - i - 1, by omega⟩
      have hnm := rname_eq (ρ := ρ) fail fu all (by omega) (by omega) bs hs
      have hte : rdTxt 24 bs = .error 2 := by rw [hbs]; rfl
      have hne : rdName 0 bs = .error 2 := by unfold rdName; rw [hte]
      rw [hr]
      simp only [many]
      rw [hne]
      rw [hte] at hnm
      obtain ⟨he, a, hB⟩ := hnm
      dsimp only at hB ⊢
      intro K
      rw [p46_3L, p46_3, lssT (by omega), cond_true, leqT (by omega), cond_true, eqlT rfl, p46_2, cond_true, hB, gd_y (by simp), gd_y (by simp; omega)]
      exact rf_dead fail fu all K _ _ _ _ _ _ _ _ _ _ _ _ _ _ _ _ _ _ he j
  | succ L ih =>
    intro j bs i z hs hL hj hi0 hz
    obtain ⟨j, rfl⟩ : ∃ j', j = j' + 2 := ⟨j - 2, by omega⟩
    by_cases hin : n ≤ i
    · rw [show n - i = 0 by omega]
      simp only [many]
      intro K
      rw [p46_3L, p46_3, lssF (by omega), cond_false, p46_2, cond_false, neqF rfl, cond_false]
      simp [fin46]
    · obtain ⟨r, hr⟩ : ∃ r, n - i = r + 1 := ⟨n - i - 1, by omega⟩
      have hr' : n - (i + 1) = r := by omega
      have hnm := rname_eq (ρ := ρ) fail fu all (by omega) (by omega) bs hs
      have step : ∀ K : RK14 ρ, p46_3L fail fu K (encB all) err (hi : Nat) (lo : Nat) fuel cells yes t.k t.n t.nm (Lv.rows t.ls) (Tm.rows t.args) pa (n : Nat) (j + 2) (encB all) (atR all bs) 0 z (i : Nat) = p98 fail fu (fun y49 y50 y51 y52 => p46_3L fail fu K (encB all) err (hi : Nat) (lo : Nat) fuel cells yes t.k t.n t.nm (Lv.rows t.ls) (Tm.rows t.args) pa (n : Nat) (j + 1) y50 y51 y52 (z ++ [strRow y49]) ((i + 1 : Nat) : Int)) (encB all) (atR all bs) 0 := fun K => by
        rw [p46_3L, p46_3, lssT (by omega), cond_true, leqT (by omega), cond_true, eqlT rfl, p46_2, cond_true]
        congr 1
        funext y49 y50 y51 y52
        rw [gd_y (by simp), gd_y (by simp; omega), addZ (by omega) (by omega), show ((i : Nat) : Int) + 1 = ((i + 1 : Nat) : Int) by omega]
        rfl
      rw [hr]
      simp only [many]
      cases ht : rdTxt 24 bs with
      | error e =>
        have hne : rdName 0 bs = .error e := by unfold rdName; rw [ht]
        rw [hne]
        rw [ht] at hnm
        obtain ⟨he, a, hB⟩ := hnm
        dsimp only at hB ⊢
        intro K
        rw [step, hB]
        exact rf_dead fail fu all K _ _ _ _ _ _ _ _ _ _ _ _ _ _ _ _ _ _ he j
      | ok x =>
        obtain ⟨s, bs1⟩ := x
        have hne : rdName 0 bs = .ok (⟨s.toArray⟩, bs1, 0) := by unfold rdName; rw [ht]
        have ht1 := rdTxt_ok ht
        have hs2 : Sfx all bs1 := by have h9 := ht1.2.2.1; rw [← List.append_assoc] at h9; exact hs.of h9
        rw [hne]
        rw [ht] at hnm
        simp only [NO6] at hnm
        have hrec := ih (j + 1) bs1 (i + 1) (z ++ [strRow ⟨s.toArray⟩]) hs2 (by omega) (by omega) (by omega) (by simp; omega)
        rw [hr'] at hrec
        dsimp only
        cases hm : many rdName r 0 bs1 with
        | error e => rw [hm] at hrec; intro K; rw [step, hnm, hrec]
        | ok x =>
          obtain ⟨l, bs2, p2⟩ := x
          rw [hm] at hrec
          intro K
          rw [step, hnm, hrec, List.append_assoc]; rfl
theorem fin_eq (hhi : hi < 2 ^ 64) (hlo : lo < 2 ^ 64) (ht1 : t.sz + 60 ≤ fu) (ht2 : t.sz < 1099511627776) (ht3 : t.lvOk) (pa : Nat) (l : List ByteArray) (ha1 : axSz l + 60 ≤ fu) (ha2 : axSz l < 1099511627776) (hz : (rpEnc err hi lo fuel cells yes t (pa : Nat) l).length ≤ 35184372086000) (K : RK14 ρ) :
    fin46 fail fu all err hi lo fuel cells yes t K (pa : Nat) (l.map strRow) = rpOut (chk all err hi lo fuel cells yes t (some (pa, l))) K := by
  rw [fin46, tobP_enc, rreply_w fail fu _ err hi lo fuel cells yes t (pa : Nat) l hhi hlo ht1 ht2 ht3 ha1 ha2 hz, tobP_enc, scmp_arr, chk]
  by_cases h : rpEnc err hi lo fuel cells yes t (pa : Nat) l = all
  · rw [if_pos h, decide_eq_true h, Bool.not_true, p46_1, cond_false]; rfl
  · rw [if_neg h, decide_eq_false h, Bool.not_false, p46_1, cond_true]; rfl
end
end
end Go.Proofs.Ythncmjlcmlmnmaa
