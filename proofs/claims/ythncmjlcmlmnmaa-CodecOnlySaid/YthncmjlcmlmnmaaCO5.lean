/- Functions without memory, and that the Go functions are followed by them. Printed by gen.py. Conditions: none. -/
import Derived.Test.YthncmjlcmlmnmaaG
import Derived.Test.YthncmjlcmlmnmaaPR
import Derived.Test.YthncmjlcmlmnmaaCO4
namespace Go.Proofs.Ythncmjlcmlmnmaa
open Go V
set_option maxRecDepth 100000
set_option maxHeartbeats 4000000
/-- codec.Level -/
def p26 {ρ : Type} (fail : ρ) (fu : Nat)  (K0 : EL → ρ) (x0 : EL) (x1 : Int) (x2 : Int) (x3 : EL) : ρ :=
  p63 fail fu (fun y1 => p70 fail fu (fun y2 => K0 y2) y1 x1 x2 x3) x0
theorem d_p26 (fu : Nat)  {K0 : EL → Prop} (L : EL → Nat) (hN : L = List.length) {x0 : EL} {x1 : Int} {x2 : Int} {x3 : EL} (h : p26 False fu K0 x0 x1 x2 x3) : Den Try.prog G0 26 [.c (.sl 1 x0 none), .agg [.c (.v (.int .i64 x1)), .c (.v (.int .i64 x2)), .c (.sl 3 x3 none)]] (fun r bs => (∃ (y0 : EL) (o0 : OV) (o1 : OV), (r = .c (.sl 1 y0 none) ∧ bs = [o0, o1]) ∧ K0 y0)) := by
  obtain ⟨O, hO⟩ : ∃ O, O = std 0 T G0 (Den Try.prog G0) := ⟨_, rfl⟩
  have hLO : L = O.len := by rw [hN, hO]; rfl
  subst hLO
  refine den_h hO tiA mixed tabOk (fn := Try.f26) (sh := true) (by kernel_rfl) rfl rfl rfl rfl ?_
  intro Q hQ
  unfold p26 at h
  conv => cbv
  refine call_h hO [.shut] (d_p63 fu O.len hN h) ?_
  intro os Q hos hQ
  conv => cbv
  refine ⟨(by (rw [hos]) <;> (subst hO; rfl)), ?_⟩
  intro r bs hq
  rw [hQ] at hq
  clear hos hQ h
  obtain ⟨y1, _, ⟨rfl, rfl⟩, h⟩ := hq
  conv => cbv
  refine call_h hO [.ref 1, .shut] (d_p70 fu O.len hN h) ?_
  intro os Q hos hQ
  conv => cbv
  refine ⟨(by subst hO; exact Nat.le_refl _), ?_⟩
  refine ⟨(by (rw [hos]) <;> (subst hO; rfl)), ?_⟩
  intro r bs hq
  rw [hQ] at hq
  clear hos hQ h
  obtain ⟨y2, _, ⟨rfl, rfl⟩, h⟩ := hq
  conv => cbv
  refine view_full hO ?_
  conv => cbv
  rw [hQ]
  exact ⟨y2, _, _, ⟨(by subst hO; rfl), (by subst hO; rfl)⟩, h⟩
end Go.Proofs.Ythncmjlcmlmnmaa

namespace Go.Proofs.Ythncmjlcmlmnmaa
open Go V
set_option maxRecDepth 100000
set_option maxHeartbeats 2000000
theorem varB_max : ∀ (n v : Nat), v < 128 ^ (n + 1) → (varB v).length ≤ n + 1
  | 0, v, h => by rw [varB_lt (by simpa using h)]; simp
  | n + 1, v, h => by
    by_cases h1 : v < 128
    · rw [varB_lt h1]; simp
    · rw [varB_ge (by omega), List.length_cons]
      have := varB_max n (v / 128) (by rw [Nat.pow_succ] at h; exact Nat.div_lt_of_lt_mul (by rw [Nat.mul_comm]; exact h))
      omega
theorem varB_10 {v : Nat} (h : v < 2 ^ 64) : (varB v).length ≤ 10 := varB_max 9 v (Nat.lt_of_lt_of_le h (by decide))
theorem varB_step {w : Nat} (h : 128 ≤ w) : [[CV.v (.int .u8 (IntKind.u8.wrap ((w % 128 + 128 : Nat) : Int)))]] ++ encB (varB (w / 128)) = encB (varB w) := by
  rw [varB_ge h, encB_u8, ← encB_append]; rfl
theorem raw_w {ρ : Type} (fail : ρ) (fu : Nat) (hf : 10 ≤ fu) (K : EL → ρ) (z : EL) (v : Nat) (hv : v < 2 ^ 64) (hz : z.length + 10 ≤ 35184372088832) : p119 fail fu K z (v : Nat) = K (z ++ encB (varB v)) := by
  obtain ⟨m, rfl⟩ : ∃ m, fu = m + 1 := ⟨fu - 1, by omega⟩
  have hv2 : v < 128 ^ (m + 1) := Nat.lt_of_lt_of_le hv (Nat.le_trans (show 2 ^ 64 ≤ 128 ^ 10 by decide) (Nat.pow_le_pow_right (by omega) (by omega)))
  have h10 := varB_10 hv
  have hloop : ∀ (K : EL → ρ), p140_1L fail (m + 1) K (m + 1) (v : Nat) [] = K (encB (varB v)) := fun K => by
    have h9 : ∀ (j : Nat) (w : Nat) (y : EL), w < 128 ^ 10 → y.length + (varB w).length ≤ 100 → (varB w).length ≤ j → p140_1L fail (m + 1) K j (w : Nat) y = K (y ++ encB (varB w)) := by
      intro j
      induction j with
      | zero => intro w y _ _ h; have := varB_len w; omega
      | succ j ih =>
        intro w y hw hy hj
        rw [p140_1L, p140_1]
        by_cases h1 : w < 128
        · rw [geqF (by omega), cond_false, gd_y (by simp), gd_y (by simp; omega), varB_lt h1, ← encB_u8]; rfl
        · have hs : binStd .shr .u64 ((w : Nat) : Int) 7 = ((w / 128 : Nat) : Int) := by
            show ((w : Nat) : Int).fdiv (2 ^ 7) = _
            rw [fdiv_nn _ _ (by decide)]; simp
          have ho : binStd .or .u8 (IntKind.u8.wrap ((w : Nat) : Int)) 128 = IntKind.u8.wrap ((w % 128 + 128 : Nat) : Int) := by
            show IntKind.u8.wrap (bOr 8 (IntKind.u8.wrap ((w : Nat) : Int)) 128 : Nat) = _
            rw [or128]
          rw [varB_ge (by omega), List.length_cons] at hy hj
          rw [geqT (by omega), cond_true, gd_y (by simp), gd_y (by simp; omega), gd_y (by omega), hs, ho]
          have := ih (w / 128) (y ++ List.take 1 [[CV.v (.int .u8 (IntKind.u8.wrap ((w % 128 + 128 : Nat) : Int)))]]) (by omega) (by simp; omega) (by omega)
          rw [this, List.append_assoc]
          exact congrArg (fun q => K (y ++ q)) (varB_step (by omega))
    have := h9 (m + 1) v [] (Nat.lt_of_lt_of_le hv (by decide)) (by simp; omega) (by omega)
    simpa using this
  have hadd : binStd .add .i64 (((nilE : EL).length : Nat) : Int) 10 = 10 := by decide
  rw [p119, p140, p120, hadd, gd_y (by omega), gd_y (by omega), gd_y (by decide), gd_y (by decide), gd_y (by decide)]
  have e0 : List.replicate (Int.toNat 0) [CV.v (.int .u8 0)] ++ (nilE : EL) = [] := rfl
  rw [e0, hloop, gd_y (by rw [encB_length]; omega)]
/-- Numbers' bytes. -/
def numsB (l : List Int) : List UInt8 := l.flatMap fun n => varB (uv n)
theorem numsB_cons (n : Int) (l : List Int) : numsB (n :: l) = varB (uv n) ++ numsB l := by unfold numsB; rw [List.flatMap_cons]
theorem numsB_len : ∀ l : List Int, (numsB l).length ≤ 10 * l.length
  | [] => Nat.zero_le _
  | n :: l => by
    have := numsB_len l
    have h2 := varB_10 (uv_lt n)
    simp only [numsB, List.flatMap_cons, List.length_append, List.length_cons] at this ⊢
    omega
theorem num_w {ρ : Type} (fail : ρ) (fu : Nat) (K : EL → ρ) (l : List Int) (hf : l.length + 10 ≤ fu) (z : EL) (hz : z.length + 10 * l.length ≤ 35184372088832) : p83 fail fu K z (encI l) = K (z ++ encB (numsB l)) := by
  have loop : ∀ (r i n : Nat) (z : EL), i + r = l.length → r < n → z.length + 10 * r ≤ 35184372088832 → p83_1L fail fu K (encI l) n z ((l.length : Nat) : Int) ((i : Nat) : Int) = K (z ++ encB (numsB (l.drop i))) := by
    intro r
    induction r with
    | zero =>
      intro i n z hi hn hz
      obtain ⟨n, rfl⟩ : ∃ m, n = m + 1 := ⟨n - 1, by omega⟩
      rw [p83_1L, p83_1, lssF (by omega), cond_false, List.drop_eq_nil_of_le (by omega), show numsB [] = [] from rfl, encB_nil, List.append_nil]
    | succ r ih =>
      intro i n z hi hn hz
      obtain ⟨n, rfl⟩ : ∃ m, n = m + 1 := ⟨n - 1, by omega⟩
      have hlt : i < l.length := by omega
      have hr : ∀ k : Int → ρ, rw_i64 fail (List.getD (encI l) (((i : Nat) : Int)).toNat []) k = k l[i] := fun k => by rw [Int.toNat_natCast, encI_get hlt]; rfl
      have h10 := varB_10 (uv_lt l[i])
      rw [p83_1L, p83_1, lssT (by omega), cond_true, gd_y (by omega), gd_y (by rw [encI_length]; omega), hr, u64_uv, raw_w fail fu (by omega) _ z _ (uv_lt _) (by omega), addZ (by omega) (by omega), show ((i : Nat) : Int) + 1 = ((i + 1 : Nat) : Int) by omega]
      rw [ih (i + 1) n _ (by omega) (by omega) (by rw [List.length_append, encB_length]; omega), List.drop_eq_getElem_cons hlt, List.append_assoc, ← encB_append, numsB_cons]
  rw [p83, encI_length]
  have := loop l.length 0 fu z (by omega) (by omega) (by omega)
  simpa using this
theorem num_w1 {ρ : Type} (fail : ρ) (fu : Nat) (hf : 11 ≤ fu) (K : EL → ρ) (v : Int) (z : EL) (hz : z.length + 10 ≤ 35184372088832) : p83 fail fu K z (List.take 1 [[.v (.int .i64 v)]]) = K (z ++ encB (varB (uv v))) := by
  have := num_w fail fu K [v] (by simp only [List.length_singleton]; omega) z (by simp only [List.length_singleton]; omega)
  simp only [numsB, List.flatMap_cons, List.flatMap_nil, List.append_nil] at this
  exact this
/-- A text's bytes. -/
def txB (s : ByteArray) : List UInt8 := varB s.size ++ s.data.toList
theorem sz_data (s : ByteArray) : s.data.toList.length = s.size := Array.length_toList
theorem text_w {ρ : Type} (fail : ρ) (fu : Nat) (hf : 10 ≤ fu) (K : EL → ρ) (s : ByteArray) (z : EL) (hs : s.size < 1099511627776) (hz : z.length + 10 + s.size ≤ 35184372088832) : p87 fail fu K z (List.take s.size (encB s.data.toList)) = K (z ++ encB (txB s)) := by
  have ht : List.take s.size (encB s.data.toList) = encB s.data.toList := List.take_of_length_le (by rw [encB_length, sz_data]; exact Nat.le_refl _)
  have h10 := varB_10 (show s.size < 2 ^ 64 by omega)
  rw [ht, p87, encB_length, sz_data, u64_nat _ (by omega), raw_w fail fu hf _ z _ (by omega) (by omega), gd_y (by rw [List.length_append, encB_length]; omega), List.append_assoc, ← encB_append]
  rfl
mutual
def Lv.enc : Lv → List UInt8
  | .mk k n l => varB (uv k) ++ ((if k = 4 then varB (uv n) else []) ++ Lv.encs l)
def Lv.encs : List Lv → List UInt8
  | [] => []
  | a :: l => Lv.enc a ++ Lv.encs l
end
mutual
def Lv.sz : Lv → Nat
  | .mk _ _ l => 1 + Lv.szs l
def Lv.szs : List Lv → Nat
  | [] => 0
  | a :: l => 1 + Lv.sz a + Lv.szs l
end
theorem Lv.szs_len : ∀ l : List Lv, l.length ≤ Lv.szs l
  | [] => Nat.zero_le _
  | a :: l => by have := Lv.szs_len l; simp only [Lv.szs, List.length_cons]; omega
mutual
theorem Lv.sz_enc : ∀ l : Lv, l.sz + 1 ≤ 2 * l.enc.length
  | .mk k n l => by
    have := Lv.szs_enc l
    have h2 := varB_len (uv k)
    simp only [Lv.sz, Lv.enc, List.length_append]; omega
theorem Lv.szs_enc : ∀ l : List Lv, Lv.szs l ≤ 2 * (Lv.encs l).length
  | [] => Nat.zero_le _
  | a :: l => by
    have := Lv.sz_enc a
    have h2 := Lv.szs_enc l
    simp only [Lv.szs, Lv.encs, List.length_append]; omega
end
theorem lv_row {ρ : Type} (fail : ρ) (l : List Lv) (i : Nat) (h : i < l.length) (k : Int → Int → EL → ρ) : rw_i64_i64_l3 fail (List.getD (Lv.rows l) (((i : Nat) : Int)).toNat []) k = k l[i].k l[i].n (Lv.rows l[i].args) := by
  rw [Int.toNat_natCast, Lv.rows_get h, Lv.row_eq]; rfl
/-- Args that are written, one by one. -/
theorem lvw_loop {ρ : Type} (fail : ρ) (fu : Nat) (K : EL → ρ) (s : (EL → ρ) → EL → Int → Int → EL → ρ) (l : List Lv) (B : Nat) (hs : ∀ a ∈ l, ∀ (K : EL → ρ) (z : EL), z.length + a.enc.length ≤ B → s K z a.k a.n (Lv.rows a.args) = K (z ++ encB a.enc)) :
    ∀ (r i n : Nat) (z : EL), l.length < 1099511627776 → i + r = l.length → r < n → z.length + (Lv.encs (l.drop i)).length ≤ B → p70_1L fail fu s K (Lv.rows l) n z ((l.length : Nat) : Int) ((i : Nat) : Int) = K (z ++ encB (Lv.encs (l.drop i))) := by
  intro r
  induction r with
  | zero =>
    intro i n z hl hi hn hz
    obtain ⟨n, rfl⟩ : ∃ m, n = m + 1 := ⟨n - 1, by omega⟩
    rw [p70_1L, p70_1, lssF (by omega), cond_false, List.drop_eq_nil_of_le (by omega)]
    simp [Lv.encs]
  | succ r ih =>
    intro i n z hl hi hn hz
    obtain ⟨n, rfl⟩ : ∃ m, n = m + 1 := ⟨n - 1, by omega⟩
    have hlt : i < l.length := by omega
    have hd : l.drop i = l[i] :: l.drop (i + 1) := List.drop_eq_getElem_cons hlt
    rw [hd] at hz ⊢
    simp only [Lv.encs, List.length_append] at hz ⊢
    rw [p70_1L, p70_1, lssT (by omega), cond_true, gd_y (by omega), gd_y (by rw [Lv.rows_len]; omega), lv_row fail l i hlt, hs _ (List.getElem_mem hlt) _ z (by omega), addZ (by omega) (by omega), show ((i : Nat) : Int) + 1 = ((i + 1 : Nat) : Int) by omega]
    rw [ih (i + 1) n _ hl (by omega) (by omega) (by rw [List.length_append, encB_length]; omega), List.append_assoc, ← encB_append]
theorem Lv.szs_mem : ∀ {l : List Lv} {a : Lv}, a ∈ l → 1 + a.sz ≤ Lv.szs l
  | b :: l, a, h => by
    simp only [Lv.szs]
    rcases List.mem_cons.1 h with rfl | h
    · omega
    · have := Lv.szs_mem h; omega
theorem level_w {ρ : Type} (fail : ρ) : ∀ (N : Nat) (l : Lv), l.sz ≤ N → ∀ (fu : Nat) (K : EL → ρ) (z : EL), l.sz + 20 ≤ fu → l.sz < 1099511627776 → z.length + l.enc.length ≤ 35184372088000 → p70 fail fu K z l.k l.n (Lv.rows l.args) = K (z ++ encB l.enc) := by
  intro N
  induction N with
  | zero => intro l h; cases l; simp [Lv.sz] at h
  | succ N ih =>
    intro l hN fu K z hf hsz hz
    obtain ⟨k, n, l⟩ := l
    obtain ⟨m, rfl⟩ : ∃ m, fu = m + 1 := ⟨fu - 1, by omega⟩
    simp only [Lv.sz, Lv.enc, List.length_append] at hN hf hsz hz
    simp only [Lv.k, Lv.n, Lv.args, Lv.enc]
    have hl := Lv.szs_len l
    rw [p70, p70_b]
    generalize hs : p70 fail m = s
    have h10 := varB_10 (uv_lt k)
    have h11 := varB_10 (uv_lt n)
    have loop : ∀ y : EL, y.length + (Lv.encs l).length ≤ 35184372088000 → p70_2 fail m s K (Lv.rows l) y = K (y ++ encB (Lv.encs l)) := fun y hy => by
      rw [p70_2, Lv.rows_len]
      have := lvw_loop fail m K s l 35184372088000 (fun a ha K z hz => by
        have h3 := Lv.szs_mem ha
        rw [← hs]; exact ih a (by omega) m K z (by omega) (by omega) hz) l.length 0 m y (by omega) (by omega) (by omega) (by simpa using hy)
      simpa using this
    rw [gd_y (by simp), num_w1 fail m (by omega) _ k z (by omega)]
    by_cases h4 : k = 4
    · rw [if_pos h4] at hz ⊢
      rw [eqlT h4, cond_true, gd_y (by simp), num_w1 fail m (by omega) _ n _ (by rw [List.length_append, encB_length]; omega), loop _ (by simp only [List.length_append, encB_length]; omega)]
      simp [List.append_assoc]
    · rw [if_neg h4] at hz ⊢
      rw [eqlF h4, cond_false, loop _ (by simp only [List.length_append, encB_length]; simp at hz; omega)]
      simp [List.append_assoc]
mutual
def Tm.enc : Tm → List UInt8
  | .mk k n s l a => varB (uv k) ++ ((if k = 0 then varB (uv n) else if k = 2 then txB s ++ varB l.length else []) ++ (Lv.encs l ++ Tm.encs a))
def Tm.encs : List Tm → List UInt8
  | [] => []
  | a :: l => Tm.enc a ++ Tm.encs l
end
mutual
def Tm.sz : Tm → Nat
  | .mk _ _ s l a => 1 + s.size + Lv.szs l + Tm.szs a
def Tm.szs : List Tm → Nat
  | [] => 0
  | a :: l => 1 + Tm.sz a + Tm.szs l
end
theorem Tm.szs_len : ∀ l : List Tm, l.length ≤ Tm.szs l
  | [] => Nat.zero_le _
  | a :: l => by have := Tm.szs_len l; simp only [Tm.szs, List.length_cons]; omega
theorem Tm.szs_mem : ∀ {l : List Tm} {a : Tm}, a ∈ l → 1 + a.sz ≤ Tm.szs l
  | b :: l, a, h => by
    simp only [Tm.szs]
    rcases List.mem_cons.1 h with rfl | h
    · omega
    · have := Tm.szs_mem h; omega
theorem tm_row {ρ : Type} (fail : ρ) (l : List Tm) (i : Nat) (h : i < l.length) (k : Int → Int → ByteArray → EL → EL → ρ) : rw_i64_i64_s_l3_l5 fail (List.getD (Tm.rows l) (((i : Nat) : Int)).toNat []) k = k l[i].k l[i].n l[i].nm (Lv.rows l[i].ls) (Tm.rows l[i].args) := by
  rw [Int.toNat_natCast, Tm.rows_get h, Tm.row_eq]; rfl
theorem tmw_loop {ρ : Type} (fail : ρ) (fu : Nat) (K : EL → ρ) (s : (EL → ρ) → EL → Int → Int → ByteArray → EL → EL → ρ) (l : List Tm) (B : Nat) (hs : ∀ a ∈ l, ∀ (K : EL → ρ) (z : EL), z.length + a.enc.length ≤ B → s K z a.k a.n a.nm (Lv.rows a.ls) (Tm.rows a.args) = K (z ++ encB a.enc)) :
    ∀ (r i n : Nat) (z : EL), l.length < 1099511627776 → i + r = l.length → r < n → z.length + (Tm.encs (l.drop i)).length ≤ B → p64_1L fail fu s K (Tm.rows l) n z ((l.length : Nat) : Int) ((i : Nat) : Int) = K (z ++ encB (Tm.encs (l.drop i))) := by
  intro r
  induction r with
  | zero =>
    intro i n z hl hi hn hz
    obtain ⟨n, rfl⟩ : ∃ m, n = m + 1 := ⟨n - 1, by omega⟩
    rw [p64_1L, p64_1, lssF (by omega), cond_false, List.drop_eq_nil_of_le (by omega)]
    simp [Tm.encs]
  | succ r ih =>
    intro i n z hl hi hn hz
    obtain ⟨n, rfl⟩ : ∃ m, n = m + 1 := ⟨n - 1, by omega⟩
    have hlt : i < l.length := by omega
    have hd : l.drop i = l[i] :: l.drop (i + 1) := List.drop_eq_getElem_cons hlt
    rw [hd] at hz ⊢
    simp only [Tm.encs, List.length_append] at hz ⊢
    rw [p64_1L, p64_1, lssT (by omega), cond_true, gd_y (by omega), gd_y (by rw [Tm.rows_len]; omega), tm_row fail l i hlt, hs _ (List.getElem_mem hlt) _ z (by omega), addZ (by omega) (by omega), show ((i : Nat) : Int) + 1 = ((i + 1 : Nat) : Int) by omega]
    rw [ih (i + 1) n _ hl (by omega) (by omega) (by rw [List.length_append, encB_length]; omega), List.append_assoc, ← encB_append]
theorem tmw_levels {ρ : Type} (fail : ρ) (fu : Nat) (K : EL → ρ) (s : (EL → ρ) → EL → Int → Int → ByteArray → EL → EL → ρ) (l : List Lv) (A : EL) (hfu : Lv.szs l + 20 ≤ fu) (hsz : Lv.szs l < 1099511627776) :
    ∀ (r i n : Nat) (z : EL), i + r = l.length → r < n → z.length + (Lv.encs (l.drop i)).length ≤ 35184372088000 → p64_2L fail fu s K (Lv.rows l) A n z ((l.length : Nat) : Int) ((i : Nat) : Int) = p64_1L fail fu s K A fu (z ++ encB (Lv.encs (l.drop i))) ((A.length : Nat) : Int) 0 := by
  have hl := Lv.szs_len l
  intro r
  induction r with
  | zero =>
    intro i n z hi hn hz
    obtain ⟨n, rfl⟩ : ∃ m, n = m + 1 := ⟨n - 1, by omega⟩
    rw [p64_2L, p64_2, lssF (by omega), cond_false, List.drop_eq_nil_of_le (by omega)]
    simp [Lv.encs]
  | succ r ih =>
    intro i n z hi hn hz
    obtain ⟨n, rfl⟩ : ∃ m, n = m + 1 := ⟨n - 1, by omega⟩
    have hlt : i < l.length := by omega
    have hm := Lv.szs_mem (List.getElem_mem hlt)
    have hd : l.drop i = l[i] :: l.drop (i + 1) := List.drop_eq_getElem_cons hlt
    rw [hd] at hz ⊢
    simp only [Lv.encs, List.length_append] at hz ⊢
    rw [p64_2L, p64_2, lssT (by omega), cond_true, gd_y (by omega), gd_y (by rw [Lv.rows_len]; omega), lv_row fail l i hlt, level_w fail _ l[i] (Nat.le_refl _) fu _ z (by omega) (by omega) (by omega), addZ (by omega) (by omega), show ((i : Nat) : Int) + 1 = ((i + 1 : Nat) : Int) by omega]
    rw [ih (i + 1) n _ (by omega) (by omega) (by rw [List.length_append, encB_length]; omega), List.append_assoc, ← encB_append]
theorem term_w {ρ : Type} (fail : ρ) : ∀ (N : Nat) (l : Tm), l.sz ≤ N → ∀ (fu : Nat) (K : EL → ρ) (z : EL), l.sz + 30 ≤ fu → l.sz < 1099511627776 → z.length + l.enc.length ≤ 35184372087000 → p64 fail fu K z l.k l.n l.nm (Lv.rows l.ls) (Tm.rows l.args) = K (z ++ encB l.enc) := by
  intro N
  induction N with
  | zero => intro l h; cases l; simp [Tm.sz] at h
  | succ N ih =>
    intro t hN fu K z hf hsz hz
    obtain ⟨k, n, sn, l, a⟩ := t
    obtain ⟨m, rfl⟩ : ∃ m, fu = m + 1 := ⟨fu - 1, by omega⟩
    simp only [Tm.sz, Tm.enc, List.length_append] at hN hf hsz hz
    simp only [Tm.k, Tm.n, Tm.nm, Tm.ls, Tm.args, Tm.enc]
    have hl := Lv.szs_len l
    have ha := Tm.szs_len a
    rw [p64, p64_b]
    generalize hs : p64 fail m = s
    have h10 := varB_10 (uv_lt k)
    have h11 := varB_10 (uv_lt n)
    have h12 := varB_10 (show l.length < 2 ^ 64 by omega)
    have loop : ∀ y : EL, y.length + (Lv.encs l).length + (Tm.encs a).length ≤ 35184372087000 → p64_3 fail m s K (Lv.rows l) (Tm.rows a) y = K (y ++ encB (Lv.encs l ++ Tm.encs a)) := fun y hy => by
      rw [p64_3, Lv.rows_len]
      have h1 := tmw_levels fail m K s l (Tm.rows a) (by omega) (by omega) l.length 0 m y (by omega) (by omega) (by simp; omega)
      rw [show ((0 : Nat) : Int) = 0 from rfl] at h1
      rw [h1, Tm.rows_len]
      have := tmw_loop fail m K s a 35184372087000 (fun b hb K z hz => by
        have h3 := Tm.szs_mem hb
        rw [← hs]; exact ih b (by omega) m K z (by omega) (by omega) hz) a.length 0 m (y ++ encB (Lv.encs l)) (by omega) (by omega) (by omega) (by simp; omega)
      rw [List.drop_zero] at this
      rw [List.drop_zero, encB_append, ← List.append_assoc]
      exact this
    rw [gd_y (by simp), num_w1 fail m (by omega) _ k z (by omega)]
    by_cases h0 : k = 0
    · rw [if_pos h0] at hz ⊢
      rw [eqlT h0, cond_true, gd_y (by simp), num_w1 fail m (by omega) _ n _ (by rw [List.length_append, encB_length]; omega), loop _ (by simp only [List.length_append, encB_length]; omega)]
      simp [List.append_assoc]
    · rw [if_neg h0] at hz ⊢
      rw [eqlF h0, cond_false]
      by_cases h2 : k = 2
      · rw [if_pos h2] at hz ⊢
        simp only [txB, List.length_append, sz_data] at hz
        have hg : uv ((l.length : Nat) : Int) = l.length := uv_nat _ (by omega)
        rw [eqlT h2, cond_true, gd_y (by rw [encB_length, sz_data]; exact Nat.le_refl _), text_w fail m (by omega) _ sn _ (by omega) (by rw [List.length_append, encB_length]; omega), gd_y (by simp), Lv.rows_len, num_w1 fail m (by omega) _ _ _ (by simp only [txB, List.length_append, encB_length, sz_data]; omega), hg, p64_4,
          loop _ (by simp only [txB, List.length_append, encB_length, sz_data]; omega)]
        simp [List.append_assoc]
      · rw [if_neg h2] at hz ⊢
        rw [eqlF h2, cond_false, p64_4, loop _ (by simp only [List.length_append, encB_length]; simp at hz; omega)]
        simp [List.append_assoc]
end Go.Proofs.Ythncmjlcmlmnmaa
