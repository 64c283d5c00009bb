/- Twins of byte rows; what is lent and comes back. Conditions: none. -/
import Derived.Test.YthncmjlcmlmnmaaRW9
import Derived.Test.YthncmjlcmlmnmaaRW5
import Derived.Test.YthncmjlcmlmnmaaG
import Derived.Test.YthncmjlcmlmnmaaPR
namespace Go.Proofs.Ythncmjlcmlmnmaa
open Go V
set_option maxRecDepth 100000
set_option maxHeartbeats 2000000
theorem u8E_enc (b : List UInt8) : u8E (encB b) = true := by
  simp [u8E, encB, isU8]
theorem safeT_enc (b : List UInt8) : safeT (encB b) = true := by
  simp [safeT, encB, safeC]
theorem lv_safes (l : List Lv) (h : ∀ a ∈ l, safeR a.row = true) : safeE (Lv.rows l) = true := by
  induction l with
  | nil => rfl
  | cons a l ih => rw [Lv.rows, safeE, h a (by simp), ih fun x hx => h x (by simp [hx])]; rfl
mutual
theorem Lv.safe : ∀ l : Lv, safeR l.row = true
  | .mk k n l => by rw [Lv.row]; simp [safeR, isU8, safeC, safeP, Lv.safes l]
theorem Lv.safes : ∀ l : List Lv, safeE (Lv.rows l) = true
  | [] => rfl
  | a :: l => by rw [Lv.rows, safeE, Lv.safe a, Lv.safes l]; rfl
end
mutual
theorem Tm.safe : ∀ l : Tm, safeR l.row = true
  | .mk k n s l a => by rw [Tm.row]; simp [safeR, isU8, safeC, safeP, Lv.safes l, Tm.safes a]
theorem Tm.safes : ∀ l : List Tm, safeE (Tm.rows l) = true
  | [] => rfl
  | a :: l => by rw [Tm.rows, safeE, Tm.safe a, Tm.safes l]; rfl
end
theorem set_enc (b l : List UInt8) (k : Nat) (hk : k < l.length) : List.set (encB (b ++ l)) (b.length + k) (putAt (List.getD (encB (b ++ l)) (b.length + k) []) 0 [CV.v (.int .u8 229)]) = encB (b ++ l.set k 229) := by
  rw [encB_get (by rw [List.length_append]; omega)]
  show List.set (encB (b ++ l)) (b.length + k) [CV.v (.int .u8 229)] = _
  unfold encB
  rw [show ([CV.v (.int .u8 229)] : List CV) = (fun c : UInt8 => [CV.v (.int .u8 (c.toNat : Int))]) 229 from rfl, ← List.map_set]
  congr 1
  rw [List.set_append_right _ _ (by omega)]
  congr 2
  omega
/-- A row and three bytes more. -/
def twinB (b : List UInt8) : List UInt8 := b ++ [229, 229, 229]
theorem twin_w {ρ : Type} (fail : ρ) (fu : Nat) (hf : 10 ≤ fu) (K : EL → Nat → Nat → ρ) (b : List UInt8) (hb : b.length ≤ 1099511627776) : p25 fail fu K (encB b) = K (encB (twinB b)) (b.length + 3) b.length := by
  have step : ∀ (j k : Nat) (l : List UInt8), l.length = 3 → k < 3 → p25_1L fail fu K (encB b) (j + 1) (encB (b ++ l)) (b.length + 3) (b.length + 3) ((b.length + k : Nat) : Int) = p25_1L fail fu K (encB b) j (encB (b ++ l.set k 229)) (b.length + 3) (b.length + 3) ((b.length + (k + 1) : Nat) : Int) := fun j k l hl hk => by
    have hlen : (encB (b ++ l)).length = b.length + 3 := by rw [encB_length, List.length_append, hl]
    rw [p25_1L, p25_1, lssT (by omega), cond_true, gd_y (by omega), gd_y (by omega), gd_y (by omega), gd_y (by rw [hlen]; omega), gd_y (by rw [Int.toNat_natCast, encB_get (by rw [List.length_append]; omega)]; simp), addZ (by omega) (by omega), Int.toNat_natCast, set_enc b l k (by omega), show ((b.length + k : Nat) : Int) + 1 = ((b.length + (k + 1) : Nat) : Int) by omega]
  have e3 : binStd .add .i64 ((b.length : Nat) : Int) 3 = ((b.length + 3 : Nat) : Int) := by rw [addZ (by omega) (by omega)]; omega
  have hinit : (List.take (min b.length (b.length + 3)) (encB b) ++ List.drop (min b.length (b.length + 3)) (List.replicate (b.length + 3) [CV.v (.int .u8 0)])) = encB (b ++ [0, 0, 0]) := by
    rw [Nat.min_eq_left (by omega), List.take_of_length_le (by rw [encB_length]; exact Nat.le_refl _), List.drop_replicate, show b.length + 3 - b.length = 3 by omega, encB_append]; rfl
  obtain ⟨j, rfl⟩ : ∃ j, fu = j + 4 := ⟨fu - 4, by omega⟩
  rw [p25, encB_length, e3, gd_y (by omega), gd_y (by omega), gd_y (by omega), gd_y (by rw [List.length_replicate]; omega), Int.toNat_natCast, hinit]
  refine (step (j + 3) 0 [0, 0, 0] rfl (by omega)).trans ?_
  rw [step (j + 2) 1 _ rfl (by omega), step (j + 1) 2 _ rfl (by omega)]
  have hend : p25_1L fail (j + 4) K (encB b) (j + 1) (encB (b ++ (([0, 0, 0].set 0 229).set (0 + 1) 229).set 2 229)) (b.length + 3) (b.length + 3) ((b.length + (2 + 1) : Nat) : Int) = K (encB (twinB b)) (b.length + 3) b.length := by
    have hl2 : (encB (twinB b)).length = b.length + 3 := by rw [encB_length, twinB, List.length_append]; rfl
    show p25_1L fail (j + 4) K (encB b) (j + 1) (encB (twinB b)) (b.length + 3) (b.length + 3) ((b.length + (2 + 1) : Nat) : Int) = _
    rw [p25_1L, p25_1, lssF (by omega), cond_false, gd_y (by rw [hl2]; omega), encB_length, gd_y (by omega), gd_y (by left; omega), gd_y (by rw [hl2, Int.toNat_natCast]; omega), Int.toNat_natCast]
  exact hend
theorem twin_take (b : List UInt8) : List.take b.length (encB (twinB b)) = encB b := by
  rw [encB_take, twinB, List.take_left]
theorem twin_drop (b : List UInt8) : List.drop b.length (encB (twinB b)) = encB [229, 229, 229] := by
  rw [encB_drop, twinB, List.drop_left]
theorem twin_len (b : List UInt8) : (encB (twinB b)).length = b.length + 3 := by
  rw [encB_length, twinB, List.length_append]; rfl
theorem kept_w {ρ : Type} (fail : ρ) (fu : Nat) (hf : 10 ≤ fu) (K : Bool → ρ) (b : List UInt8) (hb : b.length ≤ 1099511627776) : p31 fail fu K (encB b) (encB [229, 229, 229]) (encB b) = K true := by
  have hal : encB b ++ encB [229, 229, 229] = encB (twinB b) := by rw [twinB, encB_append]
  have hlen : ((encB b).length + (encB [229, 229, 229]).length : Nat) = b.length + 3 := by rw [encB_length]; rfl
  have e3 : binStd .add .i64 ((b.length : Nat) : Int) 3 = ((b.length + 3 : Nat) : Int) := by rw [addZ (by omega) (by omega)]; omega
  have hj : List.drop (Int.toNat 0) (List.take (((b.length + 3 : Nat) : Int)).toNat (encB (twinB b))) = encB (twinB b) := by
    rw [Int.toNat_natCast, List.take_of_length_le (by rw [twin_len]; exact Nat.le_refl _)]; rfl
  have step : ∀ (j k : Nat), k < 3 → p31_1L fail fu K (encB b) (encB (twinB b)) (j + 1) ((b.length + k : Nat) : Int) = p31_1L fail fu K (encB b) (encB (twinB b)) j ((b.length + (k + 1) : Nat) : Int) := fun j k hk => by
    have hg : ∀ c : Int → ρ, rw_u8 fail (List.getD (encB (twinB b)) ((b.length + k : Nat) : Int).toNat []) c = c 229 := fun c => by
      have hlt : b.length + k < (twinB b).length := by rw [twinB, List.length_append]; show _ < _ + 3; omega
      have h9 : (twinB b)[b.length + k] = 229 := by
        have : k = 0 ∨ k = 1 ∨ k = 2 := by omega
        simp only [twinB]
        rw [List.getElem_append_right (by omega)]
        rcases this with rfl | rfl | rfl <;> simp
      rw [rw_byte fail _ _ hlt, h9]; rfl
    rw [p31_1L, p31_1, encB_length, e3, lssT (by omega), cond_true, gd_y (by omega), gd_y (by rw [twin_len]; omega), hg, neqF rfl, cond_false, addZ (by omega) (by omega), show ((b.length + k : Nat) : Int) + 1 = ((b.length + (k + 1) : Nat) : Int) by omega]
  obtain ⟨j, rfl⟩ : ∃ j, fu = j + 4 := ⟨fu - 4, by omega⟩
  rw [p31, hlen, gd_y (by omega), gd_y (by omega), gd_y (by omega), tobP_enc, tobP_enc, scmp_nrefl, cond_false, hal, hj, twin_len, encB_length, e3, lssF (by omega), p31_2, cond_false, encB_length]
  refine (step (j + 3) 0 (by omega)).trans ?_
  rw [step (j + 2) 1 (by omega), step (j + 1) 2 (by omega), p31_1L, p31_1, encB_length, e3, lssF (by omega), cond_false]
end Go.Proofs.Ythncmjlcmlmnmaa

namespace Go.Proofs.Ythncmjlcmlmnmaa
open Go V
set_option maxRecDepth 100000
set_option maxHeartbeats 2000000
theorem rdV_back (v : Nat) (h : v < 2 ^ 64) (r : List UInt8) : rdV (varB v ++ r) = .ok (v, r) := by
  unfold rdV
  rw [tv_back v 0 r (by omega) (by simpa using h) (by omega)]
  simp
theorem rdKind_back (lo hi v : Nat) (h1 : lo ≤ v) (h2 : v ≤ hi) (h3 : v < 2 ^ 64) (r : List UInt8) : rdKind lo hi (varB v ++ r) = .ok (v, r) := by
  unfold rdKind
  rw [rdV_back v h3]
  dsimp only
  rw [if_neg (by omega)]
theorem rdNum_back (v : Nat) (h : v ≤ 1073741824) (r : List UInt8) : rdNum (varB v ++ r) = .ok (v, r) := by
  unfold rdNum
  rw [rdV_back v (by omega)]
  dsimp only
  rw [if_neg (by omega)]
theorem rdTxt_back (m : Nat) (s : ByteArray) (h : s.size ≤ m) (hm : m ≤ 1000000) (r : List UInt8) : rdTxt m (txB s ++ r) = .ok (s.data.toList, r) := by
  unfold rdTxt
  rw [txB, List.append_assoc, rdV_back _ (by omega)]
  have hl := sz_data s
  dsimp only
  rw [if_neg (by omega), if_neg (by rw [List.length_append]; omega), ← hl, List.take_left, List.drop_left]
theorem ba_data (s : ByteArray) : (⟨s.data.toList.toArray⟩ : ByteArray) = s := by
  obtain ⟨d⟩ := s; simp
theorem ba_nil' {s : ByteArray} (h : s.size = 0) : s = ⟨#[]⟩ := by
  obtain ⟨d⟩ := s
  have : d = #[] := Array.size_eq_zero_iff.1 h
  rw [this]
/-- Is it such a level as may be, so deep? -/
def Lv.good : Nat → Lv → Prop
  | 0, _ => False
  | d + 1, .mk k n l => ((k = 4 ∧ 0 ≤ n ∧ n < 4 ∧ l = []) ∨ (0 ≤ k ∧ k ≤ 3 ∧ n = 0 ∧ l.length = lvN k.toNat)) ∧ ∀ a ∈ l, Lv.good d a
mutual
def Lv.parts : Lv → Nat
  | .mk _ _ l => 1 + Lv.partss l
def Lv.partss : List Lv → Nat
  | [] => 0
  | a :: l => Lv.parts a + Lv.partss l
end
theorem many_back {α : Type} {f : Nat → List UInt8 → Except Int (α × List UInt8 × Nat)} {g : α → List UInt8} {gs : List α → List UInt8} {c : α → Nat} {cs : List α → Nat} (h0 : gs [] = []) (h1 : ∀ a l, gs (a :: l) = g a ++ gs l) (k0 : cs [] = 0) (k1 : ∀ a l, cs (a :: l) = c a + cs l) {m : Nat} :
    ∀ (l : List α) (p : Nat) (r : List UInt8), (∀ a ∈ l, ∀ p r, p + c a ≤ m → f p (g a ++ r) = .ok (a, r, p + c a)) → p + cs l ≤ m → many f l.length p (gs l ++ r) = .ok (l, r, p + cs l)
  | [], p, r, _, _ => by simp only [many, h0, k0, List.length_nil, List.nil_append, Nat.add_zero]
  | a :: l, p, r, hf, hm => by
    rw [k1] at hm
    simp only [many, List.length_cons, h1, List.append_assoc]
    rw [hf a (by simp) p _ (by omega)]
    dsimp only
    rw [many_back h0 h1 k0 k1 l (p + c a) r (fun b hb => hf b (by simp [hb])) (by omega)]
    dsimp only
    rw [k1, Nat.add_assoc]
theorem rdLv_back : ∀ (d : Nat) (l : Lv), l.good d → ∀ (p : Nat) (r : List UInt8), p + l.parts ≤ 64 → rdLv d p (l.enc ++ r) = .ok (l, r, p + l.parts)
  | 0, _, h, _, _, _ => h.elim
  | d + 1, .mk k n l, h, p, r, hp => by
    obtain ⟨hk, ha⟩ := h
    simp only [Lv.parts] at hp ⊢
    simp only [rdLv, Lv.enc, List.append_assoc]
    rw [if_neg (by omega)]
    have hks : 0 ≤ k ∧ k ≤ 4 := by omega
    obtain ⟨kn, rfl⟩ : ∃ kn : Nat, k = kn := ⟨k.toNat, by omega⟩
    have hu : uv (kn : Int) = kn := uv_nat _ (by omega)
    rw [hu, rdKind_back 0 4 kn (by omega) (by omega) (by omega)]
    dsimp only
    rcases hk with ⟨h4, hn0, hn4, rfl⟩ | ⟨_, h3, rfl, hl⟩
    · obtain ⟨nn, rfl⟩ : ∃ nn : Nat, n = nn := ⟨n.toNat, by omega⟩
      have hk4 : kn = 4 := by omega
      subst hk4
      rw [if_pos rfl, if_pos h4, uv_nat nn (by omega), Lv.encs, List.nil_append, rdNum_back nn (by omega)]
      dsimp only
      rw [if_neg (by omega)]
      rfl
    · rw [if_neg (by omega), if_neg (show ¬ ((kn : Nat) : Int) = 4 by omega), List.nil_append]
      rw [Int.toNat_natCast] at hl
      rw [← hl, many_back (g := Lv.enc) (gs := Lv.encs) (c := Lv.parts) (cs := Lv.partss) rfl (fun _ _ => rfl) rfl (fun _ _ => rfl) (m := 64) l (p + 1) r (fun a hm p r hp => rdLv_back d a (ha a hm) p r hp) (by omega)]
      dsimp only
      rw [show p + 1 + Lv.partss l = p + (1 + Lv.partss l) by omega]
theorem rdLevel_back (l : Lv) (h : l.good 32) (hp : l.parts ≤ 64) (r : List UInt8) : rdLevel (l.enc ++ r) = .ok (l, r) := by
  unfold rdLevel
  rw [rdLv_back 32 l h 0 r (by omega)]
/-- Is it such a term as may be, so deep? -/
def Tm.good : Nat → Tm → Prop
  | 0, _ => False
  | d + 1, .mk k n s l a =>
    ((k = 0 ∧ 0 ≤ n ∧ n ≤ 1073741824 ∧ s.size = 0 ∧ l = [] ∧ a = []) ∨ (k = 1 ∧ n = 0 ∧ s.size = 0 ∧ l.length = 1 ∧ a = []) ∨ (k = 2 ∧ n = 0 ∧ s.size ≤ 24 ∧ l.length ≤ 4 ∧ a = []) ∨ (3 ≤ k ∧ k ≤ 6 ∧ n = 0 ∧ s.size = 0 ∧ l = [] ∧ a.length = tmN k.toNat)) ∧
    (∀ b ∈ l, Lv.good 32 b ∧ b.parts ≤ 64) ∧ ∀ b ∈ a, Tm.good d b
mutual
def Tm.parts : Tm → Nat
  | .mk _ _ _ _ a => 1 + Tm.partss a
def Tm.partss : List Tm → Nat
  | [] => 0
  | a :: l => Tm.parts a + Tm.partss l
end
theorem levels_back (l : List Lv) (h : ∀ b ∈ l, Lv.good 32 b ∧ b.parts ≤ 64) (p : Nat) (r : List UInt8) : many rdLevelP l.length p (Lv.encs l ++ r) = .ok (l, r, p) := by
  have hz : ∀ l : List Lv, (fun _ : List Lv => 0) l = 0 := fun _ => rfl
  have := many_back (f := rdLevelP) (g := Lv.enc) (gs := Lv.encs) (c := fun _ => 0) (cs := fun _ => 0) rfl (fun _ _ => rfl) rfl (fun _ _ => rfl) (m := p) l p r (fun a ha p r _ => by
    unfold rdLevelP; rw [rdLevel_back a (h a ha).1 (h a ha).2]; rfl) (by omega)
  simpa using this
theorem rdTm_back : ∀ (d : Nat) (t : Tm), t.good d → ∀ (p : Nat) (r : List UInt8), p + t.parts ≤ 2000 → rdTm d p (t.enc ++ r) = .ok (t, r, p + t.parts)
  | 0, _, h, _, _, _ => h.elim
  | d + 1, .mk k n s l a, h, p, r, hp => by
    obtain ⟨hk, hl, ha⟩ := h
    simp only [Tm.parts] at hp ⊢
    simp only [rdTm, Tm.enc, List.append_assoc]
    rw [if_neg (by omega)]
    have hks : 0 ≤ k ∧ k ≤ 6 := by omega
    obtain ⟨kn, rfl⟩ : ∃ kn : Nat, k = kn := ⟨k.toNat, by omega⟩
    have hu : uv (kn : Int) = kn := uv_nat _ (by omega)
    rw [hu, rdKind_back 0 6 kn (by omega) (by omega) (by omega)]
    dsimp only
    rcases hk with ⟨h0, hn0, hn1, hs, rfl, rfl⟩ | ⟨h1, rfl, hs, hll, rfl⟩ | ⟨h2, rfl, hs, hll, rfl⟩ | ⟨h3, h6, rfl, hs, rfl, hal⟩
    · obtain ⟨nn, rfl⟩ : ∃ nn : Nat, n = nn := ⟨n.toNat, by omega⟩
      have hk0 : kn = 0 := by omega
      subst hk0
      have hs0 := ba_nil' hs
      subst hs0
      rw [if_pos rfl, if_pos h0, uv_nat nn (by omega), Lv.encs, Tm.encs, List.nil_append, List.nil_append, rdNum_back nn (by omega)]
      rfl
    · have hk1 : kn = 1 := by omega
      subst hk1
      have hs0 := ba_nil' hs
      subst hs0
      rw [if_neg (by omega), if_pos rfl, if_neg (by omega), if_neg (by omega), List.nil_append, Tm.encs, List.nil_append]
      have := levels_back l hl (p + 1) r
      rw [hll] at this
      rw [this]
      rfl
    · have hk2 : kn = 2 := by omega
      subst hk2
      rw [if_neg (by omega), if_neg (by omega), if_pos rfl, if_neg (by omega), if_pos h2, Tm.encs, List.nil_append, List.append_assoc, rdTxt_back 24 s hs (by omega)]
      dsimp only
      rw [rdNum_back _ (by omega)]
      dsimp only
      rw [if_neg (by omega), levels_back l hl (p + 1) r]
      dsimp only
      rw [ba_data]
      rfl
    · have hs0 := ba_nil' hs
      subst hs0
      rw [Int.toNat_natCast] at hal
      rw [if_neg (by omega), if_neg (by omega), if_neg (by omega), if_neg (by omega), if_neg (by omega), Lv.encs, List.nil_append, List.nil_append, ← hal, many_back (g := Tm.enc) (gs := Tm.encs) (c := Tm.parts) (cs := Tm.partss) rfl (fun _ _ => rfl) rfl (fun _ _ => rfl) (m := 2000) a (p + 1) r (fun b hm p r hp => rdTm_back d b (ha b hm) p r hp) (by omega)]
      dsimp only
      rw [show p + 1 + Tm.partss a = p + (1 + Tm.partss a) by omega]
theorem rdTerm_back (t : Tm) (h : t.good 100) (hp : t.parts ≤ 2000) (r : List UInt8) : rdTerm (t.enc ++ r) = .ok (t, r) := by
  unfold rdTerm
  rw [rdTm_back 100 t h 0 r (by omega)]
-- ---------------------------------------------------------------- more bytes behind
theorem tv_more : ∀ (bs : List UInt8) (i v k : Nat) (m : List UInt8), tv i bs = .ok (v, k) → tv i (bs ++ m) = .ok (v, k)
  | [], _, _, _, _, h => by simp [tv] at h
  | c :: cs, i, v, k, m, h => by
    simp only [tv, List.cons_append] at h ⊢
    split at h
    · cases h
    · rename_i h9
      rw [if_neg h9]
      split at h
      · rename_i h128
        rw [if_pos h128]
        split at h
        · rename_i v' k' h'
          rw [tv_more cs (i + 1) v' k' m h']
          exact h
        · cases h
      · rename_i h128
        rw [if_neg h128]
        split at h
        · cases h
        · rename_i hz; rw [if_neg hz]; exact h
theorem rdV_more {bs r : List UInt8} {v : Nat} (m : List UInt8) (h : rdV bs = .ok (v, r)) : rdV (bs ++ m) = .ok (v, r ++ m) := by
  unfold rdV at h ⊢; split at h
  · rename_i v' k h'
    injection h with h; injection h with h1 h2; subst h1 h2
    rw [tv_more _ _ _ _ m h']
    have := tv_pos _ _ _ _ h'
    dsimp only
    rw [List.drop_append_of_le_length this.2]
  · cases h
theorem rdKind_more {lo hi : Nat} {bs r : List UInt8} {v : Nat} (m : List UInt8) (h : rdKind lo hi bs = .ok (v, r)) : rdKind lo hi (bs ++ m) = .ok (v, r ++ m) := by
  unfold rdKind at h ⊢; split at h
  · rename_i v' r' h'
    rw [rdV_more m h']
    dsimp only
    split at h
    · cases h
    · rename_i hc; rw [if_neg hc]; injection h with h; injection h with h1 h2; subst h1 h2; rfl
  · cases h
theorem rdNum_more {bs r : List UInt8} {v : Nat} (m : List UInt8) (h : rdNum bs = .ok (v, r)) : rdNum (bs ++ m) = .ok (v, r ++ m) := by
  unfold rdNum at h ⊢; split at h
  · rename_i v' r' h'
    rw [rdV_more m h']
    dsimp only
    split at h
    · cases h
    · rename_i hc; rw [if_neg hc]; injection h with h; injection h with h1 h2; subst h1 h2; rfl
  · cases h
theorem rdTxt_more {mx : Nat} {bs r s : List UInt8} (m : List UInt8) (h : rdTxt mx bs = .ok (s, r)) : rdTxt mx (bs ++ m) = .ok (s, r ++ m) := by
  unfold rdTxt at h ⊢; split at h
  · rename_i v' r' h'
    rw [rdV_more m h']
    dsimp only
    split at h
    · cases h
    · rename_i hc
      rw [if_neg hc]
      split at h
      · cases h
      · rename_i hc2
        rw [if_neg (by rw [List.length_append]; omega)]
        injection h with h; injection h with h1 h2; subst h1 h2
        rw [List.take_append_of_le_length (by omega), List.drop_append_of_le_length (by omega)]
  · cases h
theorem many_more {α : Type} {f : Nat → List UInt8 → Except Int (α × List UInt8 × Nat)} (m : List UInt8) (hf : ∀ p bs a r q, f p bs = .ok (a, r, q) → f p (bs ++ m) = .ok (a, r ++ m, q)) : ∀ (n p : Nat) (bs : List UInt8) (l : List α) (r : List UInt8) (q : Nat), many f n p bs = .ok (l, r, q) → many f n p (bs ++ m) = .ok (l, r ++ m, q)
  | 0, p, bs, l, r, q, h => by simp only [many] at h ⊢; injection h with h; injection h with h1 h; injection h with h2 h3; subst h1 h2 h3; rfl
  | n + 1, p, bs, l, r, q, h => by
    simp only [many] at h ⊢
    split at h
    · cases h
    · rename_i a bs1 p1 ha
      rw [hf _ _ _ _ _ ha]
      dsimp only
      split at h
      · cases h
      · rename_i l' bs2 p2 h2
        rw [many_more m hf n p1 bs1 l' bs2 p2 h2]
        injection h with h; injection h with h3 h; injection h with h4 h5; subst h3 h4 h5; rfl
theorem rdLv_more (m : List UInt8) : ∀ (left p : Nat) (bs : List UInt8) (l : Lv) (r : List UInt8) (q : Nat), rdLv left p bs = .ok (l, r, q) → rdLv left p (bs ++ m) = .ok (l, r ++ m, q)
  | 0, p, bs, l, r, q, h => by simp only [rdLv] at h; split at h <;> cases h
  | left + 1, p, bs, l, r, q, h => by
    simp only [rdLv] at h ⊢
    split at h
    · cases h
    · rename_i hc
      rw [if_neg hc]
      split at h
      · cases h
      · rename_i k bs1 hk
        rw [rdKind_more m hk]
        dsimp only
        split at h
        · rename_i k4
          rw [if_pos k4]
          split at h
          · cases h
          · rename_i n bs2 hn
            rw [rdNum_more m hn]
            dsimp only
            split at h
            · cases h
            · rename_i hc2; rw [if_neg hc2]; injection h with h; injection h with h1 h; injection h with h2 h3; subst h1 h2 h3; rfl
        · rename_i k4
          rw [if_neg k4]
          split at h
          · cases h
          · rename_i l2 bs2 p2 hm
            rw [many_more m (fun p bs a r q h => rdLv_more m left p bs a r q h) _ _ _ _ _ _ hm]
            injection h with h; injection h with h1 h; injection h with h2 h3; subst h1 h2 h3; rfl
theorem rdLevel_more {bs r : List UInt8} {l : Lv} (m : List UInt8) (h : rdLevel bs = .ok (l, r)) : rdLevel (bs ++ m) = .ok (l, r ++ m) := by
  unfold rdLevel at h ⊢; split at h
  · rename_i l' r' q h'
    rw [rdLv_more m _ _ _ _ _ _ h']
    injection h with h; injection h with h1 h2; subst h1 h2; rfl
  · cases h
theorem rdLevelP_more (m : List UInt8) (p : Nat) (bs : List UInt8) (a : Lv) (r : List UInt8) (q : Nat) (h : rdLevelP p bs = .ok (a, r, q)) : rdLevelP p (bs ++ m) = .ok (a, r ++ m, q) := by
  unfold rdLevelP at h ⊢; split at h
  · rename_i l' r' h'
    rw [rdLevel_more m h']
    injection h with h; injection h with h1 h; injection h with h2 h3; subst h1 h2 h3; rfl
  · cases h
theorem rdTm_more (m : List UInt8) : ∀ (left p : Nat) (bs : List UInt8) (t : Tm) (r : List UInt8) (q : Nat), rdTm left p bs = .ok (t, r, q) → rdTm left p (bs ++ m) = .ok (t, r ++ m, q)
  | 0, p, bs, t, r, q, h => by simp only [rdTm] at h; split at h <;> cases h
  | left + 1, p, bs, t, r, q, h => by
    simp only [rdTm] at h ⊢
    split at h
    · cases h
    · rename_i hc
      rw [if_neg hc]
      split at h
      · cases h
      · rename_i k bs1 hk
        rw [rdKind_more m hk]
        dsimp only
        split at h
        · rename_i k0
          rw [if_pos k0]
          split at h
          · cases h
          · rename_i n bs2 hn
            rw [rdNum_more m hn]
            injection h with h; injection h with h1 h; injection h with h2 h3; subst h1 h2 h3; rfl
        · rename_i k0
          rw [if_neg k0]
          split at h
          · rename_i k1
            rw [if_pos k1]
            split at h
            · cases h
            · rename_i l2 bs2 p2 hm
              rw [many_more m (rdLevelP_more m) _ _ _ _ _ _ hm]
              injection h with h; injection h with h1 h; injection h with h2 h3; subst h1 h2 h3; rfl
          · rename_i k1
            rw [if_neg k1]
            split at h
            · rename_i k2
              rw [if_pos k2]
              split at h
              · cases h
              · rename_i s bs2 hs
                rw [rdTxt_more m hs]
                dsimp only
                split at h
                · cases h
                · rename_i n bs3 hn
                  rw [rdNum_more m hn]
                  dsimp only
                  split at h
                  · cases h
                  · rename_i hc2
                    rw [if_neg hc2]
                    split at h
                    · cases h
                    · rename_i l2 bs4 p2 hm
                      rw [many_more m (rdLevelP_more m) _ _ _ _ _ _ hm]
                      injection h with h; injection h with h1 h; injection h with h2 h3; subst h1 h2 h3; rfl
            · rename_i k2
              rw [if_neg k2]
              split at h
              · cases h
              · rename_i l2 bs2 p2 hm
                rw [many_more m (fun p bs a r q h => rdTm_more m left p bs a r q h) _ _ _ _ _ _ hm]
                injection h with h; injection h with h1 h; injection h with h2 h3; subst h1 h2 h3; rfl
theorem rdTerm_more {bs r : List UInt8} {t : Tm} (m : List UInt8) (h : rdTerm bs = .ok (t, r)) : rdTerm (bs ++ m) = .ok (t, r ++ m) := by
  unfold rdTerm at h ⊢; split at h
  · rename_i l' r' q h'
    rw [rdTm_more m _ _ _ _ _ _ h']
    injection h with h; injection h with h1 h2; subst h1 h2; rfl
  · cases h
end Go.Proofs.Ythncmjlcmlmnmaa

namespace Go.Proofs.Ythncmjlcmlmnmaa
open Go V
set_option maxRecDepth 100000
set_option maxHeartbeats 4000000
def p108_1 {ρ : Type} (fail : ρ) (fu : Nat)  (K0 : Bool → ρ)   (j2 : Bool) : ρ :=
  K0 j2
def p108_2 {ρ : Type} (fail : ρ) (fu : Nat)  (K0 : Bool → ρ)  (x0 : Int) (x3 : EL) (j1 : Bool) : ρ :=
  bif j1 then (K0 false) else (bif (cmpStd .eql x0 2) then (p108_1 fail fu  K0  true) else (bif (cmpStd .eql x0 1) then (bif (cmpStd .eql ((x3.length : Nat) : Int) 1) then (p108_1 fail fu  K0  true) else (p108_1 fail fu  K0  false)) else (p108_1 fail fu  K0  (cmpStd .eql ((x3.length : Nat) : Int) 0))))
/-- ref5.part -/
def p108 {ρ : Type} (fail : ρ) (fu : Nat)  (K0 : Bool → ρ) (x0 : Int) (x1 : Int) (x2 : ByteArray) (x3 : EL) (x4 : EL) : ρ :=
  p136 fail fu (fun y3 => bif (cmpStd .neq y3 ((x4.length : Nat) : Int)) then (p108_2 fail fu  K0 x0 x3 true) else (bif (cmpStd .neq x0 0) then (bif (cmpStd .neq x1 0) then (p108_2 fail fu  K0 x0 x3 true) else (bif (cmpStd .lss x1 0) then (p108_2 fail fu  K0 x0 x3 true) else (bif (cmpStd .gtr x1 1073741824) then (p108_2 fail fu  K0 x0 x3 true) else (bif (cmpStd .neq x0 2) then (p108_2 fail fu  K0 x0 x3 (scmpStd .neq x2 ⟨#[]⟩)) else (p108_2 fail fu  K0 x0 x3 false))))) else (bif (cmpStd .lss x1 0) then (p108_2 fail fu  K0 x0 x3 true) else (bif (cmpStd .gtr x1 1073741824) then (p108_2 fail fu  K0 x0 x3 true) else (bif (cmpStd .neq x0 2) then (p108_2 fail fu  K0 x0 x3 (scmpStd .neq x2 ⟨#[]⟩)) else (p108_2 fail fu  K0 x0 x3 false)))))) x0
theorem d_p108 (fu : Nat)  {K0 : Bool → Prop} (L : EL → Nat) (hN : L = List.length) {x0 : Int} {x1 : Int} {x2 : ByteArray} {x3 : EL} {x4 : EL} (h : p108 False fu K0 x0 x1 x2 x3 x4) : Den Try.prog G0 108 [.agg [.c (.v (.int .i64 x0)), .c (.v (.int .i64 x1)), .c (.v (.string x2)), .c (.sl 3 x3 none), .c (.sl 5 x4 none)]] (fun r bs => (∃ (y0 : Bool) (o0 : OV), (r = .c (.v (.bool y0)) ∧ bs = [o0]) ∧ K0 y0)) := by
  obtain ⟨O, hO⟩ : ∃ O, O = std 0 T G0 (Den Try.prog G0) := ⟨_, rfl⟩
  have hLO : L = O.len := by rw [hN, hO]; rfl
  subst hLO
  refine den_h hO tiA mixed tabOk (fn := Try.f108) (sh := true) (by kernel_rfl) rfl rfl rfl rfl ?_
  intro Q hQ
  unfold p108 at h
  conv => cbv
  refine drawn_join hO tiA [[], []] [(0, true, false), (1, true, false), (3, true, false), (4, true, false), (5, true, false), (2, false, false), (6, true, false), (7, true, false), (8, true, false), (9, true, false), (10, true, false), (11, true, false), (12, true, false), (13, true, false), (14, true, false), (15, true, false), (16, true, false), (17, true, false), (18, true, false), (19, true, false), (20, true, false), (21, true, false), (22, true, false), (23, true, false), (24, true, false), (25, true, false), (26, true, false), (27, true, false), (28, true, false), (29, true, false), (30, true, false), (31, true, false), (32, true, false), (33, true, false), (34, true, false), (35, true, false), (36, true, false)] (by kernel_rfl) [1, 39] [2000] [] (fun tm m => ∃ (j1 : Bool), ((tm = frame 0 65 [(1, .p 2000 0 0), (39, .c (.v (.bool j1)))] ∧ m = ⟨[(2000, .blk 0 [.c (.v (.int .i64 x0)), .c (.v (.int .i64 x1)), .c (.v (.string x2)), .c (.sl 3 x3 none), .c (.sl 5 x4 none)])], 1⟩)) ∧ p108_2 False fu  K0 x0 x3 j1) (fun L hL_2 => ?_) ?_
  · conv => cbv
    refine call_h hO [.shut] (d_p136 fu O.len hN h) ?_
    intro os Q hos hQ
    conv => cbv
    refine ⟨(by (rw [hos]) <;> (subst hO; rfl)), ?_⟩
    intro r bs hq
    rw [hQ] at hq
    clear hos hQ h
    obtain ⟨y3, _, ⟨rfl, rfl⟩, h⟩ := hq
    conv => cbv
    refine ⟨agree_of hO (Nat.le_of_ble_eq_true rfl) rfl, ?_⟩
    refine br_h hO h (by subst hO; rfl) (fun hc5 h => ?_) (fun hc5 h => ?_)
    · conv => cbv
      refine br_t hO hc5 ?_
      conv => cbv
      refine br_t hO hc5 ?_
      conv => cbv
      refine br_t hO hc5 ?_
      conv => cbv
      refine br_t hO hc5 ?_
      conv => cbv
      refine br_t hO hc5 ?_
      conv => cbv
      refine br_t hO rfl ?_
      conv => cbv
      refine br_t hO rfl ?_
      conv => cbv
      refine br_t hO rfl ?_
      conv => cbv
      refine br_t hO rfl ?_
      conv => cbv
      refine br_t hO rfl ?_
      conv => cbv
      refine br_t hO rfl ?_
      conv => cbv
      refine br_t hO rfl ?_
      conv => cbv
      refine br_t hO rfl ?_
      conv => cbv
      refine br_t hO rfl ?_
      conv => cbv
      refine br_t hO rfl ?_
      conv => cbv
      refine br_t hO rfl ?_
      conv => cbv
      refine br_t hO rfl ?_
      conv => cbv
      refine br_t hO rfl ?_
      conv => cbv
      refine br_t hO rfl ?_
      conv => cbv
      exact hL_2 _ _ ⟨true, ⟨(by (conv => lhs; cbv) <;> (subst hO; rfl)), (by (conv => lhs; cbv) <;> (subst hO; rfl))⟩, h⟩
    · conv => cbv
      refine br_f hO hc5 ?_
      conv => cbv
      refine br_f hO hc5 ?_
      conv => cbv
      refine br_f hO hc5 ?_
      conv => cbv
      refine br_h hO h (by subst hO; rfl) (fun hc6 h => ?_) (fun hc6 h => ?_)
      · conv => cbv
        refine br_t hO hc6 ?_
        conv => cbv
        refine br_t hO hc6 ?_
        conv => cbv
        refine br_f hO hc5 ?_
        conv => cbv
        refine br_t hO hc6 ?_
        conv => cbv
        refine br_f hO hc5 ?_
        conv => cbv
        refine br_h hO h (by subst hO; rfl) (fun hc7 h => ?_) (fun hc7 h => ?_)
        · conv => cbv
          refine br_t hO hc7 ?_
          conv => cbv
          refine br_t hO hc7 ?_
          conv => cbv
          refine br_t hO hc7 ?_
          conv => cbv
          refine br_t hO rfl ?_
          conv => cbv
          refine br_t hO rfl ?_
          conv => cbv
          refine br_t hO rfl ?_
          conv => cbv
          refine br_t hO rfl ?_
          conv => cbv
          refine br_t hO rfl ?_
          conv => cbv
          refine br_t hO rfl ?_
          conv => cbv
          refine br_t hO rfl ?_
          conv => cbv
          refine br_t hO rfl ?_
          conv => cbv
          refine br_t hO rfl ?_
          conv => cbv
          refine br_t hO rfl ?_
          conv => cbv
          exact hL_2 _ _ ⟨true, ⟨(by (conv => lhs; cbv) <;> (subst hO; rfl)), (by (conv => lhs; cbv) <;> (subst hO; rfl))⟩, h⟩
        · conv => cbv
          refine br_f hO hc7 ?_
          conv => cbv
          refine br_f hO hc7 ?_
          conv => cbv
          refine br_f hO hc7 ?_
          conv => cbv
          refine br_h hO h (by subst hO; rfl) (fun hc8 h => ?_) (fun hc8 h => ?_)
          · conv => cbv
            refine br_t hO hc8 ?_
            conv => cbv
            refine br_t hO hc8 ?_
            conv => cbv
            refine br_t hO hc8 ?_
            conv => cbv
            refine br_t hO rfl ?_
            conv => cbv
            refine br_t hO rfl ?_
            conv => cbv
            refine br_t hO rfl ?_
            conv => cbv
            refine br_t hO rfl ?_
            conv => cbv
            refine br_t hO rfl ?_
            conv => cbv
            refine br_t hO rfl ?_
            conv => cbv
            exact hL_2 _ _ ⟨true, ⟨(by (conv => lhs; cbv) <;> (subst hO; rfl)), (by (conv => lhs; cbv) <;> (subst hO; rfl))⟩, h⟩
          · conv => cbv
            refine br_f hO hc8 ?_
            conv => cbv
            refine br_f hO hc8 ?_
            conv => cbv
            refine br_f hO hc8 ?_
            conv => cbv
            refine br_h hO h (by subst hO; rfl) (fun hc9 h => ?_) (fun hc9 h => ?_)
            · conv => cbv
              refine br_t hO hc9 ?_
              conv => cbv
              refine br_t hO hc9 ?_
              conv => cbv
              refine br_t hO hc9 ?_
              conv => cbv
              refine br_t hO hc9 ?_
              conv => cbv
              refine br_t hO hc9 ?_
              conv => cbv
              exact hL_2 _ _ ⟨true, ⟨(by (conv => lhs; cbv) <;> (subst hO; rfl)), (by (conv => lhs; cbv) <;> (subst hO; rfl))⟩, h⟩
            · conv => cbv
              refine br_f hO hc9 ?_
              conv => cbv
              refine br_f hO hc9 ?_
              conv => cbv
              refine br_f hO hc9 ?_
              conv => cbv
              refine br_h hO h (by subst hO; rfl) (fun hc10 h => ?_) (fun hc10 h => ?_)
              · conv => cbv
                refine br_t hO hc10 ?_
                conv => cbv
                refine br_t hO hc10 ?_
                conv => cbv
                refine br_f hO hc9 ?_
                conv => cbv
                refine br_t hO hc10 ?_
                conv => cbv
                refine br_f hO hc9 ?_
                conv => cbv
                exact hL_2 _ _ ⟨(scmpStd .neq x2 ⟨#[]⟩), ⟨(by (conv => lhs; cbv) <;> (subst hO; rfl)), (by (conv => lhs; cbv) <;> (subst hO; rfl))⟩, h⟩
              · conv => cbv
                refine br_f hO hc10 ?_
                conv => cbv
                refine br_f hO hc10 ?_
                conv => cbv
                refine br_f hO hc9 ?_
                conv => cbv
                refine br_f hO hc10 ?_
                conv => cbv
                refine br_f hO hc9 ?_
                conv => cbv
                exact hL_2 _ _ ⟨false, ⟨(by (conv => lhs; cbv) <;> (subst hO; rfl)), (by (conv => lhs; cbv) <;> (subst hO; rfl))⟩, h⟩
      · conv => cbv
        refine br_f hO hc6 ?_
        conv => cbv
        refine br_f hO hc6 ?_
        conv => cbv
        refine br_f hO hc5 ?_
        conv => cbv
        refine br_f hO hc6 ?_
        conv => cbv
        refine br_f hO hc5 ?_
        conv => cbv
        refine br_f hO rfl ?_
        conv => cbv
        refine br_f hO rfl ?_
        conv => cbv
        refine br_f hO rfl ?_
        conv => cbv
        refine br_f hO rfl ?_
        conv => cbv
        refine br_h hO h (by subst hO; rfl) (fun hc11 h => ?_) (fun hc11 h => ?_)
        · conv => cbv
          refine br_t hO hc11 ?_
          conv => cbv
          refine br_t hO hc11 ?_
          conv => cbv
          refine br_t hO hc11 ?_
          conv => cbv
          refine br_t hO rfl ?_
          conv => cbv
          refine br_t hO rfl ?_
          conv => cbv
          refine br_t hO rfl ?_
          conv => cbv
          refine br_t hO rfl ?_
          conv => cbv
          refine br_t hO rfl ?_
          conv => cbv
          refine br_t hO rfl ?_
          conv => cbv
          exact hL_2 _ _ ⟨true, ⟨(by (conv => lhs; cbv) <;> (subst hO; rfl)), (by (conv => lhs; cbv) <;> (subst hO; rfl))⟩, h⟩
        · conv => cbv
          refine br_f hO hc11 ?_
          conv => cbv
          refine br_f hO hc11 ?_
          conv => cbv
          refine br_f hO hc11 ?_
          conv => cbv
          refine br_h hO h (by subst hO; rfl) (fun hc12 h => ?_) (fun hc12 h => ?_)
          · conv => cbv
            refine br_t hO hc12 ?_
            conv => cbv
            refine br_t hO hc12 ?_
            conv => cbv
            refine br_t hO hc12 ?_
            conv => cbv
            refine br_t hO hc12 ?_
            conv => cbv
            refine br_t hO hc12 ?_
            conv => cbv
            exact hL_2 _ _ ⟨true, ⟨(by (conv => lhs; cbv) <;> (subst hO; rfl)), (by (conv => lhs; cbv) <;> (subst hO; rfl))⟩, h⟩
          · conv => cbv
            refine br_f hO hc12 ?_
            conv => cbv
            refine br_f hO hc12 ?_
            conv => cbv
            refine br_f hO hc12 ?_
            conv => cbv
            refine br_h hO h (by subst hO; rfl) (fun hc13 h => ?_) (fun hc13 h => ?_)
            · conv => cbv
              refine br_t hO hc13 ?_
              conv => cbv
              refine br_t hO hc13 ?_
              conv => cbv
              refine br_f hO hc12 ?_
              conv => cbv
              refine br_t hO hc13 ?_
              conv => cbv
              refine br_f hO hc12 ?_
              conv => cbv
              exact hL_2 _ _ ⟨(scmpStd .neq x2 ⟨#[]⟩), ⟨(by (conv => lhs; cbv) <;> (subst hO; rfl)), (by (conv => lhs; cbv) <;> (subst hO; rfl))⟩, h⟩
            · conv => cbv
              refine br_f hO hc13 ?_
              conv => cbv
              refine br_f hO hc13 ?_
              conv => cbv
              refine br_f hO hc12 ?_
              conv => cbv
              refine br_f hO hc13 ?_
              conv => cbv
              refine br_f hO hc12 ?_
              conv => cbv
              exact hL_2 _ _ ⟨false, ⟨(by (conv => lhs; cbv) <;> (subst hO; rfl)), (by (conv => lhs; cbv) <;> (subst hO; rfl))⟩, h⟩
  · rintro tm m ⟨j1, hs, h⟩
    unfold p108_2 at h
    obtain ⟨rfl, rfl⟩ := hs
    conv => cbv
    refine br_h hO h (by subst hO; rfl) (fun hc1 h => ?_) (fun hc1 h => ?_)
    · conv => cbv
      rw [hQ]
      exact ⟨false, _, ⟨(by subst hO; rfl), (by subst hO; rfl)⟩, h⟩
    · conv => cbv
      refine join_all hO ?_
      conv => cbv
      refine reg_join hO tiA [2] [] [] (fun tm m => ∃ (j2 : Bool), ((tm = frame 0 65 [(2, .c (.v (.bool j2)))] ∧ m = ⟨[], 1⟩)) ∧ p108_1 False fu  K0  j2) (fun L hL_1 => ?_) ?_
      · conv => cbv
        refine br_h hO h (by subst hO; rfl) (fun hc2 h => ?_) (fun hc2 h => ?_)
        · conv => cbv
          refine br_t hO hc2 ?_
          conv => cbv
          refine br_t hO hc2 ?_
          conv => cbv
          refine br_t hO hc2 ?_
          conv => cbv
          refine br_t hO hc2 ?_
          conv => cbv
          refine br_t hO hc2 ?_
          conv => cbv
          refine br_t hO rfl ?_
          conv => cbv
          refine br_t hO rfl ?_
          conv => cbv
          refine br_t hO rfl ?_
          conv => cbv
          refine br_t hO rfl ?_
          conv => cbv
          refine br_t hO rfl ?_
          conv => cbv
          refine br_t hO rfl ?_
          conv => cbv
          exact hL_1 _ _ ⟨true, ⟨(by (conv => lhs; cbv) <;> (subst hO; rfl)), (by (conv => lhs; cbv) <;> (subst hO; rfl))⟩, h⟩
        · conv => cbv
          refine br_f hO hc2 ?_
          conv => cbv
          refine br_f hO hc2 ?_
          conv => cbv
          refine br_f hO hc2 ?_
          conv => cbv
          refine br_h hO h (by subst hO; rfl) (fun hc3 h => ?_) (fun hc3 h => ?_)
          · conv => cbv
            refine br_t hO hc3 ?_
            conv => cbv
            refine br_t hO hc3 ?_
            conv => cbv
            refine br_t hO hc3 ?_
            conv => cbv
            refine br_f hO hc2 ?_
            conv => cbv
            refine br_t hO hc3 ?_
            conv => cbv
            refine br_f hO hc2 ?_
            conv => cbv
            refine br_h hO h (by subst hO; rfl) (fun hc4 h => ?_) (fun hc4 h => ?_)
            · conv => cbv
              refine br_t hO hc4 ?_
              conv => cbv
              refine br_t hO hc4 ?_
              conv => cbv
              refine br_t hO hc4 ?_
              conv => cbv
              refine br_t hO hc4 ?_
              conv => cbv
              refine br_t hO hc4 ?_
              conv => cbv
              exact hL_1 _ _ ⟨true, ⟨(by (conv => lhs; cbv) <;> (subst hO; rfl)), (by (conv => lhs; cbv) <;> (subst hO; rfl))⟩, h⟩
            · conv => cbv
              refine br_f hO hc4 ?_
              conv => cbv
              refine br_f hO hc4 ?_
              conv => cbv
              refine br_f hO hc4 ?_
              conv => cbv
              refine br_f hO (opp_of hO .eql .neq rfl rfl rfl hc3) ?_
              conv => cbv
              refine br_f hO (opp_of hO .eql .neq rfl rfl rfl hc3) ?_
              conv => cbv
              refine br_f hO (opp_of hO .eql .neq rfl rfl rfl hc3) ?_
              conv => cbv
              refine br_f hO (opp_of hO .eql .neq rfl rfl rfl hc3) ?_
              conv => cbv
              refine br_f hO hc4 ?_
              conv => cbv
              refine br_f hO (opp_of hO .eql .neq rfl rfl rfl hc3) ?_
              conv => cbv
              refine br_f hO hc4 ?_
              conv => cbv
              exact hL_1 _ _ ⟨false, ⟨(by (conv => lhs; cbv) <;> (subst hO; rfl)), (by (conv => lhs; cbv) <;> (subst hO; rfl))⟩, h⟩
          · conv => cbv
            refine br_f hO hc3 ?_
            conv => cbv
            refine br_f hO hc3 ?_
            conv => cbv
            refine br_f hO hc3 ?_
            conv => cbv
            refine br_f hO hc2 ?_
            conv => cbv
            refine br_f hO hc3 ?_
            conv => cbv
            refine br_f hO hc2 ?_
            conv => cbv
            refine br_f hO rfl ?_
            conv => cbv
            refine br_f hO rfl ?_
            conv => cbv
            refine br_f hO rfl ?_
            conv => cbv
            refine br_f hO rfl ?_
            conv => cbv
            refine br_t hO (opp_of hO .eql .neq rfl rfl rfl hc3) ?_
            conv => cbv
            refine br_t hO (opp_of hO .eql .neq rfl rfl rfl hc3) ?_
            conv => cbv
            refine br_t hO (opp_of hO .eql .neq rfl rfl rfl hc3) ?_
            conv => cbv
            refine br_t hO (opp_of hO .eql .neq rfl rfl rfl hc3) ?_
            conv => cbv
            refine br_f hO rfl ?_
            conv => cbv
            refine br_t hO (opp_of hO .eql .neq rfl rfl rfl hc3) ?_
            conv => cbv
            refine br_f hO rfl ?_
            conv => cbv
            exact hL_1 _ _ ⟨(cmpStd .eql ((x3.length : Nat) : Int) 0), ⟨(by (conv => lhs; cbv) <;> (subst hO; rfl)), (by (conv => lhs; cbv) <;> (subst hO; rfl))⟩, h⟩
      · rintro tm m ⟨j2, hs, h⟩
        unfold p108_1 at h
        obtain ⟨rfl, rfl⟩ := hs
        conv => cbv
        rw [hQ]
        exact ⟨j2, _, ⟨(by subst hO; rfl), (by subst hO; rfl)⟩, h⟩
end Go.Proofs.Ythncmjlcmlmnmaa

namespace Go.Proofs.Ythncmjlcmlmnmaa
open Go V
set_option maxRecDepth 100000
set_option maxHeartbeats 4000000
def p59_1 {ρ : Type} (fail : ρ) (fu : Nat) (s_p59 : (Int → Bool → ρ) → Int → Int → ByteArray → EL → EL → Int → ρ) (K0 : Int → Bool → ρ) (rec1 : Int → Int → ρ) (x4 : EL) (z3 : Int) (z4 : Int) : ρ :=
  bif (cmpStd .lss z4 ((x4.length : Nat) : Int)) then (gd ((0 : Int) ≤ z4) fail (gd ((z4 : Int) < (x4.length : Nat)) fail (rw_i64_i64_s_l3_l5 fail (List.getD x4 ((z4 : Int).toNat) []) (fun c5 c6 c7 c8 c9 => s_p59 (fun y10 y11 => bif (!y11) then (K0 (-1) false) else (rec1 y10 (binStd .add .i64 z4 1))) c5 c6 c7 c8 c9 z3)))) else (K0 z3 true)
def p59_1L {ρ : Type} (fail : ρ) (fu : Nat) (s_p59 : (Int → Bool → ρ) → Int → Int → ByteArray → EL → EL → Int → ρ) (K0 : Int → Bool → ρ)  (x4 : EL) : Nat → Int → Int → ρ
  | 0, _, _ => fail
  | n + 1, z3, z4 => p59_1 fail fu s_p59 K0 (p59_1L fail fu s_p59 K0  x4 n) x4 z3 z4
def p59_2 {ρ : Type} (fail : ρ) (fu : Nat) (s_p59 : (Int → Bool → ρ) → Int → Int → ByteArray → EL → EL → Int → ρ) (K0 : Int → Bool → ρ)  (x4 : EL) (j1 : Int) (j2 : Bool) : ρ :=
  bif j2 then (K0 (-1) false) else (p59_1L fail fu s_p59 K0 x4 fu j1 0)
/-- ref5.Whole -/
def p59_b {ρ : Type} (fail : ρ) (fu : Nat) (s_p59 : (Int → Bool → ρ) → Int → Int → ByteArray → EL → EL → Int → ρ) (K0 : Int → Bool → ρ) (x0 : Int) (x1 : Int) (x2 : ByteArray) (x3 : EL) (x4 : EL) (x5 : Int) : ρ :=
  bif (cmpStd .lss (binStd .sub .i64 x5 1) 0) then (p59_2 fail fu s_p59 K0 x4 (binStd .sub .i64 x5 1) true) else (p108 fail fu (fun y12 => p59_2 fail fu s_p59 K0 x4 (binStd .sub .i64 x5 1) (!y12)) x0 x1 x2 x3 x4)
def p59 {ρ : Type} (fail : ρ) : Nat → (Int → Bool → ρ) → Int → Int → ByteArray → EL → EL → Int → ρ
  | 0, _, _, _, _, _, _, _ => fail
  | n + 1, K0, x0, x1, x2, x3, x4, x5 => p59_b fail n (p59 fail n) K0 x0 x1 x2 x3 x4 x5
def D_p59 (fu : Nat) : Prop := ∀ {K0 : Int → Bool → Prop} (L : EL → Nat) (_ : L = List.length) {x0 : Int} {x1 : Int} {x2 : ByteArray} {x3 : EL} {x4 : EL} {x5 : Int} (_ : p59 False fu K0 x0 x1 x2 x3 x4 x5), Den Try.prog G0 59 [.agg [.c (.v (.int .i64 x0)), .c (.v (.int .i64 x1)), .c (.v (.string x2)), .c (.sl 3 x3 none), .c (.sl 5 x4 none)], .c (.v (.int .i64 x5))] (fun r bs => (∃ (y0 : Int) (y1 : Bool) (o0 : OV) (o1 : OV), (r = .tup [.c (.v (.int .i64 y0)), .c (.v (.bool y1))] ∧ bs = [o0, o1]) ∧ K0 y0 y1))
theorem b_p59 (fu : Nat) (ih_p59 : D_p59 fu) {K0 : Int → Bool → Prop} (L : EL → Nat) (hN : L = List.length) {x0 : Int} {x1 : Int} {x2 : ByteArray} {x3 : EL} {x4 : EL} {x5 : Int} (h : p59_b False fu (p59 False fu) K0 x0 x1 x2 x3 x4 x5) : Den Try.prog G0 59 [.agg [.c (.v (.int .i64 x0)), .c (.v (.int .i64 x1)), .c (.v (.string x2)), .c (.sl 3 x3 none), .c (.sl 5 x4 none)], .c (.v (.int .i64 x5))] (fun r bs => (∃ (y0 : Int) (y1 : Bool) (o0 : OV) (o1 : OV), (r = .tup [.c (.v (.int .i64 y0)), .c (.v (.bool y1))] ∧ bs = [o0, o1]) ∧ K0 y0 y1)) := by
  obtain ⟨O, hO⟩ : ∃ O, O = std 0 T G0 (Den Try.prog G0) := ⟨_, rfl⟩
  have hLO : L = O.len := by rw [hN, hO]; rfl
  subst hLO
  refine den_h hO tiA mixed tabOk (fn := Try.f59) (sh := true) (by kernel_rfl) rfl rfl rfl rfl ?_
  intro Q hQ
  unfold p59_b at h
  conv => cbv
  refine reg_join hO tiA [1, 2, 17] [3000] [] (fun tm m => ∃ (j1 : Int) (j2 : Bool), ((tm = frame 0 39 [(1, .c (.v (.int .i64 j1))), (2, .p 3000 0 0), (17, .c (.v (.bool j2)))] ∧ m = ⟨[(3000, .blk 0 [.c (.v (.int .i64 x0)), .c (.v (.int .i64 x1)), .c (.v (.string x2)), .c (.sl 3 x3 none), .c (.sl 5 x4 none)])], 1⟩)) ∧ p59_2 False fu (p59 False fu) K0 x4 j1 j2) (fun L hL_2 => ?_) ?_
  · conv => cbv
    refine br_h hO h (by subst hO; rfl) (fun hc4 h => ?_) (fun hc4 h => ?_)
    · conv => cbv
      refine br_t hO hc4 ?_
      conv => cbv
      refine br_t hO hc4 ?_
      conv => cbv
      refine br_t hO hc4 ?_
      conv => cbv
      exact hL_2 _ _ ⟨binStd .sub .i64 x5 1, true, ⟨(by (conv => lhs; cbv) <;> (subst hO; rfl)), (by (conv => lhs; cbv) <;> (subst hO; rfl))⟩, h⟩
    · conv => cbv
      refine br_f hO hc4 ?_
      conv => cbv
      refine call_h hO [.shut] (d_p108 fu O.len hN h) ?_
      intro os Q hos hQ
      conv => cbv
      refine ⟨(by (rw [hos]) <;> (subst hO; rfl)), ?_⟩
      intro r bs hq
      rw [hQ] at hq
      clear hos hQ h
      obtain ⟨y12, _, ⟨rfl, rfl⟩, h⟩ := hq
      conv => cbv
      refine br_f hO hc4 ?_
      conv => cbv
      refine br_f hO hc4 ?_
      conv => cbv
      exact hL_2 _ _ ⟨binStd .sub .i64 x5 1, (!y12), ⟨(by (conv => lhs; cbv) <;> (subst hO; rfl)), (by (conv => lhs; cbv) <;> (subst hO; rfl))⟩, h⟩
  · rintro tm m ⟨j1, j2, hs, h⟩
    unfold p59_2 at h
    obtain ⟨rfl, rfl⟩ := hs
    conv => cbv
    refine br_h hO h (by subst hO; rfl) (fun hc1 h => ?_) (fun hc1 h => ?_)
    · conv => cbv
      rw [hQ]
      exact ⟨(-1), false, _, _, ⟨(by subst hO; rfl), (by subst hO; rfl)⟩, h⟩
    · conv => cbv
      refine join_all hO ?_
      conv => cbv
      refine loop_of hO tiA [1, 2, 6] [3000] [] (fun (n : Nat) tm m => ∃ (z3 : Int) (z4 : Int), ((tm = frame 0 39 [(1, .c (.v (.int .i64 z3))), (2, .p 3000 0 0), (6, .c (.v (.int .i64 z4)))] ∧ m = ⟨[(3000, .blk 0 [.c (.v (.int .i64 x0)), .c (.v (.int .i64 x1)), .c (.v (.string x2)), .c (.sl 3 x3 none), .c (.sl 5 x4 none)])], 1⟩)) ∧ p59_1L False fu (p59 False fu) K0 x4 n z3 z4) (fun n => n) fu ⟨j1, 0, ⟨(by (conv => lhs; cbv) <;> (subst hO; rfl)), (by (conv => lhs; cbv) <;> (subst hO; rfl))⟩, h⟩ ?_
      rintro n1 tm m L ⟨z3, z4, hs, h⟩ hLn1
      cases n1 with
      | zero => rw [p59_1L] at h; exact h.elim
      | succ n1 =>
        rw [p59_1L] at h
        unfold p59_1 at h
        obtain ⟨rfl, rfl⟩ := hs
        conv => cbv
        refine br_h hO h (by subst hO; rfl) (fun hc2 h => ?_) (fun hc2 h => ?_)
        · conv => cbv
          refine join_all hO ?_
          conv => cbv
          refine and_h h (fun g => (by subst hO; exact g)) (fun h => ?_)
          refine and_h h (fun g => (by subst hO; exact g)) (fun h => ?_)
          obtain ⟨c5, c6, c7, c8, c9, hr, h⟩ := rw_i64_i64_s_l3_l5_inv h
          refine elem_of hO _ (by subst hO; exact hr) ?_
          clear hr
          conv => cbv
          refine call_h hO [.shut, .shut] (ih_p59 O.len hN h) ?_
          intro os Q hos hQ
          conv => cbv
          refine ⟨(by (rw [hos]) <;> (subst hO; rfl)), ?_⟩
          intro r bs hq
          rw [hQ] at hq
          clear hos hQ h
          obtain ⟨y10, y11, _, _, ⟨rfl, rfl⟩, h⟩ := hq
          conv => cbv
          refine br_h hO h (by subst hO; rfl) (fun hc3 h => ?_) (fun hc3 h => ?_)
          · conv => cbv
            rw [hQ]
            exact ⟨(-1), false, _, _, ⟨(by subst hO; rfl), (by subst hO; rfl)⟩, h⟩
          · conv => cbv
            refine join_all hO ?_
            conv => cbv
            exact hLn1 n1 _ _ (Nat.lt_succ_self n1) ⟨y10, binStd .add .i64 z4 1, ⟨(by (conv => lhs; cbv) <;> (subst hO; rfl)), (by (conv => lhs; cbv) <;> (subst hO; rfl))⟩, h⟩
        · conv => cbv
          rw [hQ]
          exact ⟨z3, true, _, _, ⟨(by subst hO; rfl), (by subst hO; rfl)⟩, h⟩
theorem dd_p59 (fu : Nat) : D_p59 fu := by
  induction fu with
  | zero => unfold D_p59; intros; rename_i h; rw [p59] at h; exact h.elim
  | succ n ih =>
    exact (by unfold D_p59; intro K0 L hN x0 x1 x2 x3 x4 x5 h; exact b_p59 n ih L hN (by rw [p59] at h; exact h))
theorem d_p59 (fu : Nat) {K0 : Int → Bool → Prop} (L : EL → Nat) (hL : L = List.length) {x0 : Int} {x1 : Int} {x2 : ByteArray} {x3 : EL} {x4 : EL} {x5 : Int} (h : p59 False fu K0 x0 x1 x2 x3 x4 x5) : Den Try.prog G0 59 [.agg [.c (.v (.int .i64 x0)), .c (.v (.int .i64 x1)), .c (.v (.string x2)), .c (.sl 3 x3 none), .c (.sl 5 x4 none)], .c (.v (.int .i64 x5))] (fun r bs => (∃ (y0 : Int) (y1 : Bool) (o0 : OV) (o1 : OV), (r = .tup [.c (.v (.int .i64 y0)), .c (.v (.bool y1))] ∧ bs = [o0, o1]) ∧ K0 y0 y1)) := dd_p59 fu L hL h
end Go.Proofs.Ythncmjlcmlmnmaa

namespace Go.Proofs.Ythncmjlcmlmnmaa
open Go V
set_option maxRecDepth 100000
set_option maxHeartbeats 4000000
def p60_1 {ρ : Type} (fail : ρ) (fu : Nat) (s_p60 : (Int → ρ) → Int → Int → ByteArray → EL → EL → Int → ρ) (K0 : Int → ρ) (rec1 : Int → Int → Int → ρ) (x4 : EL) (z1 : Int) (z2 : Int) (z3 : Int) : ρ :=
  bif (cmpStd .lss z3 ((x4.length : Nat) : Int)) then (gd ((0 : Int) ≤ z3) fail (gd ((z3 : Int) < (x4.length : Nat)) fail (rw_i64_i64_s_l3_l5 fail (List.getD x4 ((z3 : Int).toNat) []) (fun c4 c5 c6 c7 c8 => s_p60 (fun y9 => rec1 z1 (if y9 > z2 then y9 else z2) (binStd .add .i64 z3 1)) c4 c5 c6 c7 c8 (binStd .sub .i64 z1 1))))) else (K0 (binStd .add .i64 z2 1))
def p60_1L {ρ : Type} (fail : ρ) (fu : Nat) (s_p60 : (Int → ρ) → Int → Int → ByteArray → EL → EL → Int → ρ) (K0 : Int → ρ)  (x4 : EL) : Nat → Int → Int → Int → ρ
  | 0, _, _, _ => fail
  | n + 1, z1, z2, z3 => p60_1 fail fu s_p60 K0 (p60_1L fail fu s_p60 K0  x4 n) x4 z1 z2 z3
/-- ref5.Depth -/
def p60_b {ρ : Type} (fail : ρ) (fu : Nat) (s_p60 : (Int → ρ) → Int → Int → ByteArray → EL → EL → Int → ρ) (K0 : Int → ρ) (x0 : Int) (x1 : Int) (x2 : ByteArray) (x3 : EL) (x4 : EL) (x5 : Int) : ρ :=
  bif (cmpStd .eql (if 0 > x5 then 0 else x5) 0) then (K0 1) else (p60_1L fail fu s_p60 K0 x4 fu (if 0 > x5 then 0 else x5) 0 0)
def p60 {ρ : Type} (fail : ρ) : Nat → (Int → ρ) → Int → Int → ByteArray → EL → EL → Int → ρ
  | 0, _, _, _, _, _, _, _ => fail
  | n + 1, K0, x0, x1, x2, x3, x4, x5 => p60_b fail n (p60 fail n) K0 x0 x1 x2 x3 x4 x5
def D_p60 (fu : Nat) : Prop := ∀ {K0 : Int → Prop} (L : EL → Nat) (_ : L = List.length) {x0 : Int} {x1 : Int} {x2 : ByteArray} {x3 : EL} {x4 : EL} {x5 : Int} (_ : p60 False fu K0 x0 x1 x2 x3 x4 x5), Den Try.prog G0 60 [.agg [.c (.v (.int .i64 x0)), .c (.v (.int .i64 x1)), .c (.v (.string x2)), .c (.sl 3 x3 none), .c (.sl 5 x4 none)], .c (.v (.int .i64 x5))] (fun r bs => (∃ (y0 : Int) (o0 : OV) (o1 : OV), (r = .c (.v (.int .i64 y0)) ∧ bs = [o0, o1]) ∧ K0 y0))
theorem b_p60 (fu : Nat) (ih_p60 : D_p60 fu) {K0 : Int → Prop} (L : EL → Nat) (hN : L = List.length) {x0 : Int} {x1 : Int} {x2 : ByteArray} {x3 : EL} {x4 : EL} {x5 : Int} (h : p60_b False fu (p60 False fu) K0 x0 x1 x2 x3 x4 x5) : Den Try.prog G0 60 [.agg [.c (.v (.int .i64 x0)), .c (.v (.int .i64 x1)), .c (.v (.string x2)), .c (.sl 3 x3 none), .c (.sl 5 x4 none)], .c (.v (.int .i64 x5))] (fun r bs => (∃ (y0 : Int) (o0 : OV) (o1 : OV), (r = .c (.v (.int .i64 y0)) ∧ bs = [o0, o1]) ∧ K0 y0)) := by
  obtain ⟨O, hO⟩ : ∃ O, O = std 0 T G0 (Den Try.prog G0) := ⟨_, rfl⟩
  have hLO : L = O.len := by rw [hN, hO]; rfl
  subst hLO
  refine den_h hO tiA mixed tabOk (fn := Try.f60) (sh := true) (by kernel_rfl) rfl rfl rfl rfl ?_
  intro Q hQ
  unfold p60_b at h
  conv => cbv
  refine br_h hO h (by subst hO; rfl) (fun hc1 h => ?_) (fun hc1 h => ?_)
  · conv => cbv
    rw [hQ]
    exact ⟨1, _, _, ⟨(by subst hO; rfl), (by subst hO; rfl)⟩, h⟩
  · conv => cbv
    refine join_all hO ?_
    conv => cbv
    refine loop_of hO tiA [1, 2, 5, 6] [3000] [] (fun (n : Nat) tm m => ∃ (z1 : Int) (z2 : Int) (z3 : Int), ((tm = frame 0 30 [(1, .c (.v (.int .i64 z1))), (2, .p 3000 0 0), (5, .c (.v (.int .i64 z2))), (6, .c (.v (.int .i64 z3)))] ∧ m = ⟨[(3000, .blk 0 [.c (.v (.int .i64 x0)), .c (.v (.int .i64 x1)), .c (.v (.string x2)), .c (.sl 3 x3 none), .c (.sl 5 x4 none)])], 1⟩)) ∧ p60_1L False fu (p60 False fu) K0 x4 n z1 z2 z3) (fun n => n) fu ⟨(if 0 > x5 then 0 else x5), 0, 0, ⟨(by (conv => lhs; cbv) <;> (subst hO; rfl)), (by (conv => lhs; cbv) <;> (subst hO; rfl))⟩, h⟩ ?_
    rintro n1 tm m L ⟨z1, z2, z3, hs, h⟩ hLn1
    cases n1 with
    | zero => rw [p60_1L] at h; exact h.elim
    | succ n1 =>
      rw [p60_1L] at h
      unfold p60_1 at h
      obtain ⟨rfl, rfl⟩ := hs
      conv => cbv
      refine br_h hO h (by subst hO; rfl) (fun hc2 h => ?_) (fun hc2 h => ?_)
      · conv => cbv
        refine join_all hO ?_
        conv => cbv
        refine and_h h (fun g => (by subst hO; exact g)) (fun h => ?_)
        refine and_h h (fun g => (by subst hO; exact g)) (fun h => ?_)
        obtain ⟨c4, c5, c6, c7, c8, hr, h⟩ := rw_i64_i64_s_l3_l5_inv h
        refine elem_of hO _ (by subst hO; exact hr) ?_
        clear hr
        conv => cbv
        refine call_h hO [.shut, .shut] (ih_p60 O.len hN h) ?_
        intro os Q hos hQ
        conv => cbv
        refine ⟨(by (rw [hos]) <;> (subst hO; rfl)), ?_⟩
        intro r bs hq
        rw [hQ] at hq
        clear hos hQ h
        obtain ⟨y9, _, _, ⟨rfl, rfl⟩, h⟩ := hq
        conv => cbv
        exact hLn1 n1 _ _ (Nat.lt_succ_self n1) ⟨z1, (if y9 > z2 then y9 else z2), binStd .add .i64 z3 1, ⟨(by (conv => lhs; cbv) <;> (subst hO; rfl)), (by (conv => lhs; cbv) <;> (subst hO; rfl))⟩, h⟩
      · conv => cbv
        rw [hQ]
        exact ⟨binStd .add .i64 z2 1, _, _, ⟨(by subst hO; rfl), (by subst hO; rfl)⟩, h⟩
theorem dd_p60 (fu : Nat) : D_p60 fu := by
  induction fu with
  | zero => unfold D_p60; intros; rename_i h; rw [p60] at h; exact h.elim
  | succ n ih =>
    exact (by unfold D_p60; intro K0 L hN x0 x1 x2 x3 x4 x5 h; exact b_p60 n ih L hN (by rw [p60] at h; exact h))
theorem d_p60 (fu : Nat) {K0 : Int → Prop} (L : EL → Nat) (hL : L = List.length) {x0 : Int} {x1 : Int} {x2 : ByteArray} {x3 : EL} {x4 : EL} {x5 : Int} (h : p60 False fu K0 x0 x1 x2 x3 x4 x5) : Den Try.prog G0 60 [.agg [.c (.v (.int .i64 x0)), .c (.v (.int .i64 x1)), .c (.v (.string x2)), .c (.sl 3 x3 none), .c (.sl 5 x4 none)], .c (.v (.int .i64 x5))] (fun r bs => (∃ (y0 : Int) (o0 : OV) (o1 : OV), (r = .c (.v (.int .i64 y0)) ∧ bs = [o0, o1]) ∧ K0 y0)) := dd_p60 fu L hL h
end Go.Proofs.Ythncmjlcmlmnmaa
