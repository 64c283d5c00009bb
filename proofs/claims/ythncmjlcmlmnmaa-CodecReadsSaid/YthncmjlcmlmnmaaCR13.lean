/- How the program writes numbers, texts, levels and terms. Conditions: none. -/
import Derived.Test.YthncmjlcmlmnmaaCR12
import Derived.Test.YthncmjlcmlmnmaaCR9
import Derived.Test.YthncmjlcmlmnmaaCR11
namespace Go.Proofs.Ythncmjlcmlmnmaa
open Go V
set_option maxRecDepth 100000
set_option maxHeartbeats 2000000
/-- Numbers' bytes. -/
def numsB (l : List Int) : List UInt8 := l.flatMap fun n => varB (uv n)
theorem numsB_cons (n : Int) (l : List Int) : numsB (n :: l) = varB (uv n) ++ numsB l := by unfold numsB; rw [List.flatMap_cons]
/-- A text's bytes. -/
def txB (s : ByteArray) : List UInt8 := varB s.size ++ s.data.toList
mutual
def Lv.enc : Lv → List UInt8
  | .mk k n l => varB (uv k) ++ ((if k = 4 then varB (uv n) else []) ++ Lv.encs l)
def Lv.encs : List Lv → List UInt8
  | [] => []
  | a :: l => Lv.enc a ++ Lv.encs l
end
mutual
def Lv.sz : Lv → Nat
  | .mk _ _ l => 1 + Lv.szs l
def Lv.szs : List Lv → Nat
  | [] => 0
  | a :: l => 1 + Lv.sz a + Lv.szs l
end
theorem Lv.szs_len : ∀ l : List Lv, l.length ≤ Lv.szs l
  | [] => Nat.zero_le _
  | a :: l => by have := Lv.szs_len l; simp only [Lv.szs, List.length_cons]; omega
mutual
theorem Lv.sz_enc : ∀ l : Lv, l.sz + 1 ≤ 2 * l.enc.length
  | .mk k n l => by
    have := Lv.szs_enc l
    have h2 := varB_len (uv k)
    simp only [Lv.sz, Lv.enc, List.length_append]; omega
theorem Lv.szs_enc : ∀ l : List Lv, Lv.szs l ≤ 2 * (Lv.encs l).length
  | [] => Nat.zero_le _
  | a :: l => by
    have := Lv.sz_enc a
    have h2 := Lv.szs_enc l
    simp only [Lv.szs, Lv.encs, List.length_append]; omega
end
theorem lv_row {ρ : Type} (fail : ρ) (l : List Lv) (i : Nat) (h : i < l.length) (k : Int → Int → EL → ρ) : rw_i64_i64_l3 fail (List.getD (Lv.rows l) (((i : Nat) : Int)).toNat []) k = k l[i].k l[i].n (Lv.rows l[i].args) := by
  rw [Int.toNat_natCast, Lv.rows_get h, Lv.row_eq]; rfl
theorem Lv.szs_mem : ∀ {l : List Lv} {a : Lv}, a ∈ l → 1 + a.sz ≤ Lv.szs l
  | b :: l, a, h => by
    simp only [Lv.szs]
    rcases List.mem_cons.1 h with rfl | h
    · omega
    · have := Lv.szs_mem h; omega
mutual
def Tm.enc : Tm → List UInt8
  | .mk k n s l a => varB (uv k) ++ ((if k = 0 then varB (uv n) else if k = 2 then txB s ++ varB l.length else []) ++ (Lv.encs l ++ Tm.encs a))
def Tm.encs : List Tm → List UInt8
  | [] => []
  | a :: l => Tm.enc a ++ Tm.encs l
end
mutual
def Tm.sz : Tm → Nat
  | .mk _ _ s l a => 1 + s.size + Lv.szs l + Tm.szs a
def Tm.szs : List Tm → Nat
  | [] => 0
  | a :: l => 1 + Tm.sz a + Tm.szs l
end
theorem Tm.szs_len : ∀ l : List Tm, l.length ≤ Tm.szs l
  | [] => Nat.zero_le _
  | a :: l => by have := Tm.szs_len l; simp only [Tm.szs, List.length_cons]; omega
theorem Tm.szs_mem : ∀ {l : List Tm} {a : Tm}, a ∈ l → 1 + a.sz ≤ Tm.szs l
  | b :: l, a, h => by
    simp only [Tm.szs]
    rcases List.mem_cons.1 h with rfl | h
    · omega
    · have := Tm.szs_mem h; omega
theorem tm_row {ρ : Type} (fail : ρ) (l : List Tm) (i : Nat) (h : i < l.length) (k : Int → Int → ByteArray → EL → EL → ρ) : rw_i64_i64_s_l3_l5 fail (List.getD (Tm.rows l) (((i : Nat) : Int)).toNat []) k = k l[i].k l[i].n l[i].nm (Lv.rows l[i].ls) (Tm.rows l[i].args) := by
  rw [Int.toNat_natCast, Tm.rows_get h, Tm.row_eq]; rfl
end Go.Proofs.Ythncmjlcmlmnmaa

namespace Go.Proofs.Ythncmjlcmlmnmaa
open Go V
set_option maxRecDepth 100000
set_option maxHeartbeats 2000000
theorem many_only {α : Type} {f : Nat → List UInt8 → Except Int (α × List UInt8 × Nat)} {g : α → List UInt8} {gs : List α → List UInt8} (h0 : gs [] = []) (h1 : ∀ a l, gs (a :: l) = g a ++ gs l) (hf : ∀ p bs a r q, f p bs = .ok (a, r, q) → bs = g a ++ r) :
    ∀ (n p : Nat) (bs : List UInt8) (l : List α) (r : List UInt8) (q : Nat), many f n p bs = .ok (l, r, q) → bs = gs l ++ r
  | 0, p, bs, l, r, q, h => by simp only [many] at h; injection h with h; injection h with h2 h; injection h with h3 _; subst h2 h3; rw [h0]; rfl
  | n + 1, p, bs, l, r, q, h => by
    simp only [many] at h
    split at h
    · cases h
    · rename_i a bs1 p1 ha
      split at h
      · cases h
      · rename_i l' bs2 p2 h2
        injection h with h; injection h with h3 h; injection h with h4 h5; subst h3 h4 h5
        rw [h1, hf _ _ _ _ _ ha, many_only h0 h1 hf n p1 bs1 l' bs2 p2 h2, List.append_assoc]
theorem rdLv_only : ∀ (left p : Nat) (bs : List UInt8) (l : Lv) (r : List UInt8) (q : Nat), rdLv left p bs = .ok (l, r, q) → bs = l.enc ++ r
  | 0, p, bs, l, r, q, h => by simp only [rdLv] at h; split at h <;> cases h
  | left + 1, p, bs, l, r, q, h => by
    simp only [rdLv] at h
    split at h
    · cases h
    · split at h
      · cases h
      · rename_i k bs1 hk
        obtain ⟨_, h1, _, h2⟩ := rdKind_ok hk
        split at h
        · rename_i k4
          split at h
          · cases h
          · rename_i n bs2 hn
            obtain ⟨h3, _, h4⟩ := rdNum_ok hn
            split at h
            · cases h
            · injection h with h; injection h with h5 h; injection h with h6 h7; subst h5 h6 h7
              rw [h2, h4, k4]
              simp only [Lv.enc, Lv.encs, if_pos, uv_nat n (by omega), List.append_nil, List.append_assoc]
              rfl
        · rename_i k4
          split at h
          · cases h
          · rename_i l2 bs2 p2 hm
            injection h with h; injection h with h5 h; injection h with h6 h7; subst h5 h6 h7
            have := many_only (g := Lv.enc) (gs := Lv.encs) rfl (fun _ _ => rfl) (fun p bs a r q => rdLv_only left p bs a r q) _ _ _ _ _ _ hm
            rw [h2, this]
            simp only [Lv.enc, uv_nat k (by omega), if_neg (show ¬ ((k : Nat) : Int) = 4 by omega), List.nil_append, List.append_assoc]
theorem rdLevel_only {bs r : List UInt8} {l : Lv} (h : rdLevel bs = .ok (l, r)) : bs = l.enc ++ r := by
  unfold rdLevel at h; split at h
  · rename_i l' r' q h'
    injection h with h; injection h with h1 h2; subst h1 h2
    exact rdLv_only _ _ _ _ _ _ h'
  · cases h
theorem rdLevelP_only (p : Nat) (bs : List UInt8) (a : Lv) (r : List UInt8) (q : Nat) (h : rdLevelP p bs = .ok (a, r, q)) : bs = a.enc ++ r := by
  unfold rdLevelP at h; split at h
  · rename_i l' r' h'
    injection h with h; injection h with h1 h; injection h with h2 h3; subst h1 h2 h3
    exact rdLevel_only h'
  · cases h
theorem levelP_len : ∀ (n p : Nat) (bs : List UInt8) (l : List Lv) (r : List UInt8) (q : Nat), many rdLevelP n p bs = .ok (l, r, q) → l.length = n := fun n p bs l r q h =>
  (many_sub (m := p) rdLevelP_sub n p bs l r q (Nat.le_refl _) h).2.2
theorem rdTm_only : ∀ (left p : Nat) (bs : List UInt8) (t : Tm) (r : List UInt8) (q : Nat), rdTm left p bs = .ok (t, r, q) → bs = t.enc ++ r
  | 0, p, bs, t, r, q, h => by simp only [rdTm] at h; split at h <;> cases h
  | left + 1, p, bs, t, r, q, h => by
    simp only [rdTm] at h
    split at h
    · cases h
    · split at h
      · cases h
      · rename_i k bs1 hk
        obtain ⟨_, h1, _, h2⟩ := rdKind_ok hk
        split at h
        · rename_i k0
          split at h
          · cases h
          · rename_i n bs2 hn
            obtain ⟨h3, _, h4⟩ := rdNum_ok hn
            injection h with h; injection h with h5 h; injection h with h6 h7; subst h5 h6 h7
            rw [h2, h4, k0]
            simp only [Tm.enc, Tm.encs, Lv.encs, if_pos, uv_nat n (by omega), List.append_nil, List.append_assoc]
            rfl
        · rename_i k0
          split at h
          · rename_i k1
            split at h
            · cases h
            · rename_i l2 bs2 p2 hm
              injection h with h; injection h with h5 h; injection h with h6 h7; subst h5 h6 h7
              have := many_only (g := Lv.enc) (gs := Lv.encs) rfl (fun _ _ => rfl) rdLevelP_only _ _ _ _ _ _ hm
              rw [h2, this, k1]
              simp only [Tm.enc, Tm.encs, List.append_nil, List.append_assoc]
              rfl
          · rename_i k1
            split at h
            · rename_i k2
              split at h
              · cases h
              · rename_i s bs2 hs
                obtain ⟨h3, _, h4, h5⟩ := rdTxt_ok hs
                split at h
                · cases h
                · rename_i n bs3 hn
                  obtain ⟨h6, _, h7⟩ := rdNum_ok hn
                  split at h
                  · cases h
                  · split at h
                    · cases h
                    · rename_i l2 bs4 p2 hm
                      injection h with h; injection h with h8 h; injection h with h9 h10; subst h8 h9 h10
                      have := many_only (g := Lv.enc) (gs := Lv.encs) rfl (fun _ _ => rfl) rdLevelP_only _ _ _ _ _ _ hm
                      have hl := levelP_len _ _ _ _ _ _ hm
                      have hsz : (⟨s.toArray⟩ : ByteArray).size = s.length := by simp [ByteArray.size]
                      rw [h2, h4, h7, this, k2]
                      simp only [Tm.enc, Tm.encs, txB, hsz, hl, List.append_nil, List.append_assoc]
                      rw [if_neg (show ¬ (2 : Int) = 0 by decide), if_pos trivial, show uv 2 = 2 from rfl]
                      simp only [List.append_assoc]
            · rename_i k2
              split at h
              · cases h
              · rename_i l2 bs2 p2 hm
                injection h with h; injection h with h5 h; injection h with h6 h7; subst h5 h6 h7
                have := many_only (g := Tm.enc) (gs := Tm.encs) rfl (fun _ _ => rfl) (fun p bs a r q => rdTm_only left p bs a r q) _ _ _ _ _ _ hm
                rw [h2, this]
                simp only [Tm.enc, Lv.encs, uv_nat k (by omega), if_neg (show ¬ ((k : Nat) : Int) = 0 by omega), if_neg (show ¬ ((k : Nat) : Int) = 2 by omega), List.nil_append, List.append_assoc]
theorem rdTerm_only {bs r : List UInt8} {t : Tm} (h : rdTerm bs = .ok (t, r)) : bs = t.enc ++ r := by
  unfold rdTerm at h; split at h
  · rename_i l' r' q h'
    injection h with h; injection h with h1 h2; subst h1 h2
    exact rdTm_only _ _ _ _ _ _ h'
  · cases h
theorem rdTerm_sub {bs r : List UInt8} {t : Tm} (h : rdTerm bs = .ok (t, r)) : r.length ≤ bs.length := by
  rw [rdTerm_only h, List.length_append]; omega
/-- How great what was read is. -/
theorem many_sz {α : Type} {f : Nat → List UInt8 → Except Int (α × List UInt8 × Nat)} {g : α → Nat} {gs : List α → Nat} (h0 : gs [] = 0) (h1 : ∀ a l, gs (a :: l) = 1 + g a + gs l) (hf : ∀ p bs a r q, f p bs = .ok (a, r, q) → 1 + g a + 2 * r.length ≤ 2 * bs.length) :
    ∀ (n p : Nat) (bs : List UInt8) (l : List α) (r : List UInt8) (q : Nat), many f n p bs = .ok (l, r, q) → gs l + 2 * r.length ≤ 2 * bs.length
  | 0, p, bs, l, r, q, h => by simp only [many] at h; injection h with h; injection h with h2 h; injection h with h3 _; subst h2 h3; rw [h0]; omega
  | n + 1, p, bs, l, r, q, h => by
    simp only [many] at h
    split at h
    · cases h
    · rename_i a bs1 p1 ha
      split at h
      · cases h
      · rename_i l' bs2 p2 h2
        injection h with h; injection h with h3 h; injection h with h4 h5; subst h3 h4 h5
        have := hf _ _ _ _ _ ha
        have h6 := many_sz h0 h1 hf n p1 bs1 l' bs2 p2 h2
        rw [h1]; omega
theorem rdLevelP_sz (p : Nat) (bs : List UInt8) (a : Lv) (r : List UInt8) (q : Nat) (h : rdLevelP p bs = .ok (a, r, q)) : 1 + a.sz + 2 * r.length ≤ 2 * bs.length := by
  have := Lv.sz_enc a
  rw [rdLevelP_only _ _ _ _ _ h, List.length_append]; omega
theorem rdTm_sz : ∀ (left p : Nat) (bs : List UInt8) (t : Tm) (r : List UInt8) (q : Nat), rdTm left p bs = .ok (t, r, q) → 1 + t.sz + 2 * r.length ≤ 2 * bs.length
  | 0, p, bs, t, r, q, h => by simp only [rdTm] at h; split at h <;> cases h
  | left + 1, p, bs, t, r, q, h => by
    simp only [rdTm] at h
    split at h
    · cases h
    · split at h
      · cases h
      · rename_i k bs1 hk
        obtain ⟨_, h1, h2, _⟩ := rdKind_ok hk
        split at h
        · split at h
          · cases h
          · rename_i n bs2 hn
            obtain ⟨h3, h4, _⟩ := rdNum_ok hn
            injection h with h; injection h with h5 h; injection h with h6 h7; subst h5 h6 h7
            simp only [Tm.sz, Lv.szs, Tm.szs]
            have : (⟨#[]⟩ : ByteArray).size = 0 := rfl
            omega
        · split at h
          · split at h
            · cases h
            · rename_i l2 bs2 p2 hm
              injection h with h; injection h with h5 h; injection h with h6 h7; subst h5 h6 h7
              have := many_sz (g := Lv.sz) (gs := Lv.szs) rfl (fun _ _ => rfl) rdLevelP_sz _ _ _ _ _ _ hm
              simp only [Tm.sz, Tm.szs]
              have : (⟨#[]⟩ : ByteArray).size = 0 := rfl
              omega
          · split at h
            · split at h
              · cases h
              · rename_i s bs2 hs
                obtain ⟨h3, _, h4, h5⟩ := rdTxt_ok hs
                split at h
                · cases h
                · rename_i n bs3 hn
                  obtain ⟨h6, h7, _⟩ := rdNum_ok hn
                  split at h
                  · cases h
                  · split at h
                    · cases h
                    · rename_i l2 bs4 p2 hm
                      injection h with h; injection h with h8 h; injection h with h9 h10; subst h8 h9 h10
                      have := many_sz (g := Lv.sz) (gs := Lv.szs) rfl (fun _ _ => rfl) rdLevelP_sz _ _ _ _ _ _ hm
                      have hsz : (⟨s.toArray⟩ : ByteArray).size = s.length := by simp [ByteArray.size]
                      have hb1 : bs1.length = (varB s.length).length + (s.length + bs2.length) := by rw [h4]; simp
                      simp only [Tm.sz, Tm.szs, hsz]
                      omega
            · split at h
              · cases h
              · rename_i l2 bs2 p2 hm
                injection h with h; injection h with h5 h; injection h with h6 h7; subst h5 h6 h7
                have := many_sz (g := Tm.sz) (gs := Tm.szs) rfl (fun _ _ => rfl) (fun p bs a r q => rdTm_sz left p bs a r q) _ _ _ _ _ _ hm
                simp only [Tm.sz, Lv.szs]
                have : (⟨#[]⟩ : ByteArray).size = 0 := rfl
                omega
theorem rdTerm_sz {bs r : List UInt8} {t : Tm} (h : rdTerm bs = .ok (t, r)) : 1 + t.sz + 2 * r.length ≤ 2 * bs.length := by
  unfold rdTerm at h; split at h
  · rename_i l' r' q h'
    injection h with h; injection h with h1 h2; subst h1 h2
    exact rdTm_sz _ _ _ _ _ _ h'
  · cases h
theorem bsz (s : List UInt8) : (⟨s.toArray⟩ : ByteArray).size = s.length := by simp [ByteArray.size]
theorem txB_of (s : List UInt8) : txB ⟨s.toArray⟩ = varB s.length ++ s := by simp [txB, bsz]
def tm0 : Tm := .mk 0 0 ⟨#[]⟩ [] []
end Go.Proofs.Ythncmjlcmlmnmaa

namespace Go.Proofs.Ythncmjlcmlmnmaa
open Go V
set_option maxRecDepth 100000
set_option maxHeartbeats 4000000
def p125_1 {ρ : Type} (fail : ρ) (fu : Nat)  (K0 : Int → Int → ρ) (rec1 : Int → EL → Int → Int → ρ)  (z1 : Int) (z2 : EL) (z3 : Int) (z4 : Int) : ρ :=
  bif (cmpStd .lss z4 z3) then (gd ((0 : Int) ≤ z4) fail (gd ((z4 : Int) < (z2.length : Nat)) fail (rw_u8 fail (List.getD z2 ((z4 : Int).toNat) []) (fun c5 => gd ((0 : Int) ≤ 8) fail (rec1 (binStd .or .u64 (binStd .shl .u64 z1 8) (IntKind.u64.wrap c5)) z2 z3 (binStd .add .i64 z4 1)))))) else (K0 z1 0)
def p125_1L {ρ : Type} (fail : ρ) (fu : Nat)  (K0 : Int → Int → ρ)   : Nat → Int → EL → Int → Int → ρ
  | 0, _, _, _, _ => fail
  | n + 1, z1, z2, z3, z4 => p125_1 fail fu  K0 (p125_1L fail fu  K0   n)  z1 z2 z3 z4
/-- octet.TakeEight -/
def p125 {ρ : Type} (fail : ρ) (fu : Nat)  (K0 : Int → Int → ρ) (x0 : EL) : ρ :=
  bif (cmpStd .lss ((x0.length : Nat) : Int) 8) then (K0 0 2) else (gd ((0 : Int) ≤ 0) fail (gd ((0 : Int) ≤ 8) fail (gd ((8 : Int) ≤ (x0.length : Nat)) fail (p125_1L fail fu  K0  fu 0 (List.drop ((0 : Int).toNat) (List.take ((8 : Int).toNat) x0)) (((List.drop ((0 : Int).toNat) (List.take ((8 : Int).toNat) x0)).length : Nat) : Int) 0))))
end Go.Proofs.Ythncmjlcmlmnmaa

namespace Go.Proofs.Ythncmjlcmlmnmaa
open Go V
set_option maxRecDepth 100000
set_option maxHeartbeats 4000000
/-- (*reply.reader).eight -/
def p92 {ρ : Type} (fail : ρ) (fu : Nat)  (K0 : Int → EL → Int → ρ) (x0 : EL) (x1 : Int) : ρ :=
  bif (cmpStd .neq x1 0) then (K0 0 x0 x1) else (p125 fail fu (fun y1 y2 => p94 fail fu (fun y3 y4 => bif (cmpStd .neq y2 0) then (K0 0 y3 y4) else (gd ((0 : Int) ≤ 8) fail (gd ((8 : Int) ≤ (y3.length : Nat)) fail (gd (((y3.length : Nat) : Int) ≤ (y3.length : Nat)) fail (K0 y1 (List.drop ((8 : Int).toNat) (List.take (((y3.length : Nat) : Int).toNat) y3)) y4))))) x0 x1 y2) x0)
end Go.Proofs.Ythncmjlcmlmnmaa

namespace Go.Proofs.Ythncmjlcmlmnmaa
open Go V
set_option maxRecDepth 100000
set_option maxHeartbeats 4000000
def p122b_1 {ρ : Type} (fail : ρ) (fu : Nat) (s_p122b : (Bool → ρ) → Int → Int → EL → Int → Int → EL → ρ) (s_p121 : (Bool → ρ) → EL → EL → ρ) (K0 : Bool → ρ)   (j1 : Bool) : ρ :=
  K0 j1
/-- level.Equal -/
def p122b_b {ρ : Type} (fail : ρ) (fu : Nat) (s_p122b : (Bool → ρ) → Int → Int → EL → Int → Int → EL → ρ) (s_p121 : (Bool → ρ) → EL → EL → ρ) (K0 : Bool → ρ) (x0 : Int) (x1 : Int) (x2 : EL) (x3 : Int) (x4 : Int) (x5 : EL) : ρ :=
  bif (cmpStd .eql x0 x3) then (bif (cmpStd .eql x1 x4) then (s_p121 (fun y2 => p122b_1 fail fu s_p122b s_p121 K0  y2) x2 x5) else (p122b_1 fail fu s_p122b s_p121 K0  false)) else (p122b_1 fail fu s_p122b s_p121 K0  false)
def p121_1 {ρ : Type} (fail : ρ) (fu : Nat) (s_p122b : (Bool → ρ) → Int → Int → EL → Int → Int → EL → ρ) (s_p121 : (Bool → ρ) → EL → EL → ρ) (K0 : Bool → ρ) (rec1 : Int → Int → ρ) (x0 : EL) (x1 : EL) (z1 : Int) (z2 : Int) : ρ :=
  bif (cmpStd .lss z2 z1) then (gd ((0 : Int) ≤ z2) fail (gd ((z2 : Int) < (x0.length : Nat)) fail (rw_i64_i64_l3 fail (List.getD x0 ((z2 : Int).toNat) []) (fun c3 c4 c5 => gd ((0 : Int) ≤ z2) fail (gd ((z2 : Int) < (x1.length : Nat)) fail (rw_i64_i64_l3 fail (List.getD x1 ((z2 : Int).toNat) []) (fun c6 c7 c8 => s_p122b (fun y9 => bif (!y9) then (K0 false) else (rec1 z1 (binStd .add .i64 z2 1))) c3 c4 c5 c6 c7 c8))))))) else (K0 true)
def p121_1L {ρ : Type} (fail : ρ) (fu : Nat) (s_p122b : (Bool → ρ) → Int → Int → EL → Int → Int → EL → ρ) (s_p121 : (Bool → ρ) → EL → EL → ρ) (K0 : Bool → ρ)  (x0 : EL) (x1 : EL) : Nat → Int → Int → ρ
  | 0, _, _ => fail
  | n + 1, z1, z2 => p121_1 fail fu s_p122b s_p121 K0 (p121_1L fail fu s_p122b s_p121 K0  x0 x1 n) x0 x1 z1 z2
/-- slices.EqualFunc[[]api.Level,[]api.Level,api.Level,api.Level] -/
def p121_b {ρ : Type} (fail : ρ) (fu : Nat) (s_p122b : (Bool → ρ) → Int → Int → EL → Int → Int → EL → ρ) (s_p121 : (Bool → ρ) → EL → EL → ρ) (K0 : Bool → ρ) (x0 : EL) (x1 : EL) : ρ :=
  bif (cmpStd .neq ((x0.length : Nat) : Int) ((x1.length : Nat) : Int)) then (K0 false) else (p121_1L fail fu s_p122b s_p121 K0 x0 x1 fu ((x0.length : Nat) : Int) 0)
mutual
def p122b {ρ : Type} (fail : ρ) : Nat → (Bool → ρ) → Int → Int → EL → Int → Int → EL → ρ
  | 0, _, _, _, _, _, _, _ => fail
  | n + 1, K0, x0, x1, x2, x3, x4, x5 => p122b_b fail n (p122b fail n) (p121 fail n) K0 x0 x1 x2 x3 x4 x5
def p121 {ρ : Type} (fail : ρ) : Nat → (Bool → ρ) → EL → EL → ρ
  | 0, _, _, _ => fail
  | n + 1, K0, x0, x1 => p121_b fail n (p122b fail n) (p121 fail n) K0 x0 x1
end
end Go.Proofs.Ythncmjlcmlmnmaa

namespace Go.Proofs.Ythncmjlcmlmnmaa
open Go V
set_option maxRecDepth 100000
set_option maxHeartbeats 4000000
def p123b_1 {ρ : Type} (fail : ρ) (fu : Nat) (s_p123b : (Bool → ρ) → EL → EL → ρ) (s_p86 : (Bool → ρ) → Int → Int → ByteArray → EL → EL → Int → Int → ByteArray → EL → EL → ρ) (K0 : Bool → ρ) (rec1 : Int → Int → ρ) (x0 : EL) (x1 : EL) (z1 : Int) (z2 : Int) : ρ :=
  bif (cmpStd .lss z2 z1) then (gd ((0 : Int) ≤ z2) fail (gd ((z2 : Int) < (x0.length : Nat)) fail (rw_i64_i64_s_l3_l5 fail (List.getD x0 ((z2 : Int).toNat) []) (fun c3 c4 c5 c6 c7 => gd ((0 : Int) ≤ z2) fail (gd ((z2 : Int) < (x1.length : Nat)) fail (rw_i64_i64_s_l3_l5 fail (List.getD x1 ((z2 : Int).toNat) []) (fun c8 c9 c10 c11 c12 => s_p86 (fun y13 => bif (!y13) then (K0 false) else (rec1 z1 (binStd .add .i64 z2 1))) c3 c4 c5 c6 c7 c8 c9 c10 c11 c12))))))) else (K0 true)
def p123b_1L {ρ : Type} (fail : ρ) (fu : Nat) (s_p123b : (Bool → ρ) → EL → EL → ρ) (s_p86 : (Bool → ρ) → Int → Int → ByteArray → EL → EL → Int → Int → ByteArray → EL → EL → ρ) (K0 : Bool → ρ)  (x0 : EL) (x1 : EL) : Nat → Int → Int → ρ
  | 0, _, _ => fail
  | n + 1, z1, z2 => p123b_1 fail fu s_p123b s_p86 K0 (p123b_1L fail fu s_p123b s_p86 K0  x0 x1 n) x0 x1 z1 z2
/-- slices.EqualFunc[[]api.Term,[]api.Term,api.Term,api.Term] -/
def p123b_b {ρ : Type} (fail : ρ) (fu : Nat) (s_p123b : (Bool → ρ) → EL → EL → ρ) (s_p86 : (Bool → ρ) → Int → Int → ByteArray → EL → EL → Int → Int → ByteArray → EL → EL → ρ) (K0 : Bool → ρ) (x0 : EL) (x1 : EL) : ρ :=
  bif (cmpStd .neq ((x0.length : Nat) : Int) ((x1.length : Nat) : Int)) then (K0 false) else (p123b_1L fail fu s_p123b s_p86 K0 x0 x1 fu ((x0.length : Nat) : Int) 0)
def p86_1 {ρ : Type} (fail : ρ) (fu : Nat) (s_p123b : (Bool → ρ) → EL → EL → ρ) (s_p86 : (Bool → ρ) → Int → Int → ByteArray → EL → EL → Int → Int → ByteArray → EL → EL → ρ) (K0 : Bool → ρ)   (j1 : Bool) : ρ :=
  K0 j1
/-- term.Equal -/
def p86_b {ρ : Type} (fail : ρ) (fu : Nat) (s_p123b : (Bool → ρ) → EL → EL → ρ) (s_p86 : (Bool → ρ) → Int → Int → ByteArray → EL → EL → Int → Int → ByteArray → EL → EL → ρ) (K0 : Bool → ρ) (x0 : Int) (x1 : Int) (x2 : ByteArray) (x3 : EL) (x4 : EL) (x5 : Int) (x6 : Int) (x7 : ByteArray) (x8 : EL) (x9 : EL) : ρ :=
  bif (cmpStd .eql x0 x5) then (bif (cmpStd .eql x1 x6) then (bif (scmpStd .eql x2 x7) then (p121 fail fu (fun y2 => bif y2 then (s_p123b (fun y3 => p86_1 fail fu s_p123b s_p86 K0  y3) x4 x9) else (p86_1 fail fu s_p123b s_p86 K0  false)) x3 x8) else (p86_1 fail fu s_p123b s_p86 K0  false)) else (p86_1 fail fu s_p123b s_p86 K0  false)) else (p86_1 fail fu s_p123b s_p86 K0  false)
mutual
def p123b {ρ : Type} (fail : ρ) : Nat → (Bool → ρ) → EL → EL → ρ
  | 0, _, _, _ => fail
  | n + 1, K0, x0, x1 => p123b_b fail n (p123b fail n) (p86 fail n) K0 x0 x1
def p86 {ρ : Type} (fail : ρ) : Nat → (Bool → ρ) → Int → Int → ByteArray → EL → EL → Int → Int → ByteArray → EL → EL → ρ
  | 0, _, _, _, _, _, _, _, _, _, _, _ => fail
  | n + 1, K0, x0, x1, x2, x3, x4, x5, x6, x7, x8, x9 => p86_b fail n (p123b fail n) (p86 fail n) K0 x0 x1 x2 x3 x4 x5 x6 x7 x8 x9
end
end Go.Proofs.Ythncmjlcmlmnmaa

namespace Go.Proofs.Ythncmjlcmlmnmaa
open Go V
set_option maxRecDepth 100000
set_option maxHeartbeats 4000000
def p45_1 {ρ : Type} (fail : ρ) (fu : Nat)  (K0 : Int → Int → Int → Int → Int → Bool → Int → Int → ByteArray → EL → EL → Int → EL → Int → ρ)  (y1 : Int) (y4 : Int) (y7 : Int) (y10 : Int) (y13 : Int) (j21 : Bool) (j25 : Int) (j26 : Int) (j27 : ByteArray) (j28 : EL) (j29 : EL) (y30 : Int) (z40 : EL) (j47 : Bool) : ρ :=
  bif j47 then (K0 0 0 0 0 0 false 0 0 ⟨#[]⟩ nilE nilE 0 nilE 5) else (K0 y1 y4 y7 y10 y13 j21 j25 j26 j27 j28 j29 y30 z40 0)
def p45_2 {ρ : Type} (fail : ρ) (fu : Nat)  (K0 : Int → Int → Int → Int → Int → Bool → Int → Int → ByteArray → EL → EL → Int → EL → Int → ρ) (rec1 : EL → Int → EL → Int → ρ) (y1 : Int) (y4 : Int) (y7 : Int) (y10 : Int) (y13 : Int) (j21 : Bool) (j25 : Int) (j26 : Int) (j27 : ByteArray) (j28 : EL) (j29 : EL) (y30 : Int) (z38 : EL) (z39 : Int) (z40 : EL) (z41 : Int) (j42 : Bool) : ρ :=
  bif j42 then (p95 fail fu (fun y43 y44 y45 => tobP fail y43 (fun s46 => gd (1 ≤ [[(CV.v (.string s46))]].length) fail (gd ((z40.length + (List.take 1 [[(CV.v (.string s46))]]).length) * 16 ≤ 35184372088832) fail (rec1 y44 y45 (z40 ++ (List.take 1 [[(CV.v (.string s46))]])) (binStd .sub .i64 z41 1))))) z38 z39 24) else (bif (cmpStd .neq z39 0) then (p45_1 fail fu  K0 y1 y4 y7 y10 y13 j21 j25 j26 j27 j28 j29 y30 z40 true) else (p45_1 fail fu  K0 y1 y4 y7 y10 y13 j21 j25 j26 j27 j28 j29 y30 z40 (cmpStd .gtr ((z38.length : Nat) : Int) 0)))
def p45_3 {ρ : Type} (fail : ρ) (fu : Nat)  (K0 : Int → Int → Int → Int → Int → Bool → Int → Int → ByteArray → EL → EL → Int → EL → Int → ρ) (rec1 : EL → Int → EL → Int → ρ) (y1 : Int) (y4 : Int) (y7 : Int) (y10 : Int) (y13 : Int) (j21 : Bool) (j25 : Int) (j26 : Int) (j27 : ByteArray) (j28 : EL) (j29 : EL) (y30 : Int) (z38 : EL) (z39 : Int) (z40 : EL) (z41 : Int) : ρ :=
  bif (cmpStd .gtr z41 0) then (p45_2 fail fu  K0 rec1 y1 y4 y7 y10 y13 j21 j25 j26 j27 j28 j29 y30 z38 z39 z40 z41 (cmpStd .eql z39 0)) else (p45_2 fail fu  K0 rec1 y1 y4 y7 y10 y13 j21 j25 j26 j27 j28 j29 y30 z38 z39 z40 z41 false)
def p45_3L {ρ : Type} (fail : ρ) (fu : Nat)  (K0 : Int → Int → Int → Int → Int → Bool → Int → Int → ByteArray → EL → EL → Int → EL → Int → ρ)  (y1 : Int) (y4 : Int) (y7 : Int) (y10 : Int) (y13 : Int) (j21 : Bool) (j25 : Int) (j26 : Int) (j27 : ByteArray) (j28 : EL) (j29 : EL) (y30 : Int) : Nat → EL → Int → EL → Int → ρ
  | 0, _, _, _, _ => fail
  | n + 1, z38, z39, z40, z41 => p45_3 fail fu  K0 (p45_3L fail fu  K0  y1 y4 y7 y10 y13 j21 j25 j26 j27 j28 j29 y30 n) y1 y4 y7 y10 y13 j21 j25 j26 j27 j28 j29 y30 z38 z39 z40 z41
def p45_4 {ρ : Type} (fail : ρ) (fu : Nat)  (K0 : Int → Int → Int → Int → Int → Bool → Int → Int → ByteArray → EL → EL → Int → EL → Int → ρ)  (y1 : Int) (y4 : Int) (y7 : Int) (y10 : Int) (y13 : Int) (j21 : Bool) (j25 : Int) (j26 : Int) (j27 : ByteArray) (j28 : EL) (j29 : EL) (y30 : Int) (y33 : Int) (j36 : EL) (j37 : Int) : ρ :=
  p45_3L fail fu  K0 y1 y4 y7 y10 y13 j21 j25 j26 j27 j28 j29 y30 fu j36 j37 nilE y33
def p45_5 {ρ : Type} (fail : ρ) (fu : Nat)  (K0 : Int → Int → Int → Int → Int → Bool → Int → Int → ByteArray → EL → EL → Int → EL → Int → ρ)  (y1 : Int) (y4 : Int) (y7 : Int) (y10 : Int) (y13 : Int) (j21 : Bool) (j23 : EL) (j24 : Int) (j25 : Int) (j26 : Int) (j27 : ByteArray) (j28 : EL) (j29 : EL) : ρ :=
  p91 fail fu (fun y30 y31 y32 => p91 fail fu (fun y33 y34 y35 => bif (cmpStd .gtr y33 65536) then (p94 fail fu (fun y48 y49 => p45_4 fail fu  K0 y1 y4 y7 y10 y13 j21 j25 j26 j27 j28 j29 y30 y33 y48 y49) y34 y35 5) else (p45_4 fail fu  K0 y1 y4 y7 y10 y13 j21 j25 j26 j27 j28 j29 y30 y33 y34 y35)) y31 y32) j23 j24
def p45_6 {ρ : Type} (fail : ρ) (fu : Nat)  (K0 : Int → Int → Int → Int → Int → Bool → Int → Int → ByteArray → EL → EL → Int → EL → Int → ρ)  (y1 : Int) (y4 : Int) (y7 : Int) (y10 : Int) (y13 : Int) (j21 : Bool) (y50 : Int) (y51 : Int) (y52 : ByteArray) (y53 : EL) (y54 : EL) (j58 : EL) (j59 : Int) : ρ :=
  p45_5 fail fu  K0 y1 y4 y7 y10 y13 j21 j58 j59 y50 y51 y52 y53 y54
def p45_7 {ρ : Type} (fail : ρ) (fu : Nat)  (K0 : Int → Int → Int → Int → Int → Bool → Int → Int → ByteArray → EL → EL → Int → EL → Int → ρ)  (y1 : Int) (y4 : Int) (y7 : Int) (y10 : Int) (y13 : Int) (j19 : EL) (j20 : Int) (j21 : Bool) (j22 : Bool) : ρ :=
  bif j22 then (p65 fail fu (fun y50 y51 y52 y53 y54 y55 y56 => p86 fail fu (fun y57 => bif y57 then (p94 fail fu (fun y60 y61 => p45_6 fail fu  K0 y1 y4 y7 y10 y13 j21 y50 y51 y52 y53 y54 y60 y61) y55 y56 5) else (p45_6 fail fu  K0 y1 y4 y7 y10 y13 j21 y50 y51 y52 y53 y54 y55 y56)) y50 y51 y52 y53 y54 0 0 ⟨#[]⟩ nilE nilE) j19 j20) else (p45_5 fail fu  K0 y1 y4 y7 y10 y13 j21 j19 j20 0 0 ⟨#[]⟩ nilE nilE)
end Go.Proofs.Ythncmjlcmlmnmaa

namespace Go.Proofs.Ythncmjlcmlmnmaa
open Go V
set_option maxRecDepth 100000
set_option maxHeartbeats 4000000
def p37_1 {ρ : Type} (fail : ρ) (fu : Nat) (s_p37 : (Bool → ρ) → Int → Int → EL → Int → Int → EL → ρ) (K0 : Bool → ρ) (rec1 : Int → ρ) (x2 : EL) (x5 : EL) (z2 : Int) : ρ :=
  bif (cmpStd .lss z2 ((x2.length : Nat) : Int)) then (gd ((0 : Int) ≤ z2) fail (gd ((z2 : Int) < (x2.length : Nat)) fail (rw_i64_i64_l3 fail (List.getD x2 ((z2 : Int).toNat) []) (fun c3 c4 c5 => gd ((0 : Int) ≤ z2) fail (gd ((z2 : Int) < (x5.length : Nat)) fail (rw_i64_i64_l3 fail (List.getD x5 ((z2 : Int).toNat) []) (fun c6 c7 c8 => s_p37 (fun y9 => bif (!y9) then (K0 false) else (rec1 (binStd .add .i64 z2 1))) c3 c4 c5 c6 c7 c8))))))) else (K0 true)
def p37_1L {ρ : Type} (fail : ρ) (fu : Nat) (s_p37 : (Bool → ρ) → Int → Int → EL → Int → Int → EL → ρ) (K0 : Bool → ρ)  (x2 : EL) (x5 : EL) : Nat → Int → ρ
  | 0, _ => fail
  | n + 1, z2 => p37_1 fail fu s_p37 K0 (p37_1L fail fu s_p37 K0  x2 x5 n) x2 x5 z2
def p37_2 {ρ : Type} (fail : ρ) (fu : Nat) (s_p37 : (Bool → ρ) → Int → Int → EL → Int → Int → EL → ρ) (K0 : Bool → ρ)  (x2 : EL) (x5 : EL) (j1 : Bool) : ρ :=
  bif j1 then (K0 false) else (p37_1L fail fu s_p37 K0 x2 x5 fu 0)
/-- ref4.Equal -/
def p37_b {ρ : Type} (fail : ρ) (fu : Nat) (s_p37 : (Bool → ρ) → Int → Int → EL → Int → Int → EL → ρ) (K0 : Bool → ρ) (x0 : Int) (x1 : Int) (x2 : EL) (x3 : Int) (x4 : Int) (x5 : EL) : ρ :=
  bif (cmpStd .neq x0 x3) then (p37_2 fail fu s_p37 K0 x2 x5 true) else (bif (cmpStd .neq x1 x4) then (p37_2 fail fu s_p37 K0 x2 x5 true) else (p37_2 fail fu s_p37 K0 x2 x5 (cmpStd .neq ((x2.length : Nat) : Int) ((x5.length : Nat) : Int))))
def p37 {ρ : Type} (fail : ρ) : Nat → (Bool → ρ) → Int → Int → EL → Int → Int → EL → ρ
  | 0, _, _, _, _, _, _, _ => fail
  | n + 1, K0, x0, x1, x2, x3, x4, x5 => p37_b fail n (p37 fail n) K0 x0 x1 x2 x3 x4 x5
def D_p37 (fu : Nat) : Prop := ∀ {K0 : Bool → Prop} (L : EL → Nat) (_ : L = List.length) {x0 : Int} {x1 : Int} {x2 : EL} {x3 : Int} {x4 : Int} {x5 : EL} (_ : p37 False fu K0 x0 x1 x2 x3 x4 x5), Den Try.prog G0 37 [.agg [.c (.v (.int .i64 x0)), .c (.v (.int .i64 x1)), .c (.sl 3 x2 none)], .agg [.c (.v (.int .i64 x3)), .c (.v (.int .i64 x4)), .c (.sl 3 x5 none)]] (fun r bs => (∃ (y0 : Bool) (o0 : OV) (o1 : OV), (r = .c (.v (.bool y0)) ∧ bs = [o0, o1]) ∧ K0 y0))
theorem b_p37 (fu : Nat) (ih_p37 : D_p37 fu) {K0 : Bool → Prop} (L : EL → Nat) (hN : L = List.length) {x0 : Int} {x1 : Int} {x2 : EL} {x3 : Int} {x4 : Int} {x5 : EL} (h : p37_b False fu (p37 False fu) K0 x0 x1 x2 x3 x4 x5) : Den Try.prog G0 37 [.agg [.c (.v (.int .i64 x0)), .c (.v (.int .i64 x1)), .c (.sl 3 x2 none)], .agg [.c (.v (.int .i64 x3)), .c (.v (.int .i64 x4)), .c (.sl 3 x5 none)]] (fun r bs => (∃ (y0 : Bool) (o0 : OV) (o1 : OV), (r = .c (.v (.bool y0)) ∧ bs = [o0, o1]) ∧ K0 y0)) := by
  obtain ⟨O, hO⟩ : ∃ O, O = std 0 T G0 (Den Try.prog G0) := ⟨_, rfl⟩
  have hLO : L = O.len := by rw [hN, hO]; rfl
  subst hLO
  refine den_h hO tiA mixed tabOk (fn := Try.f37) (sh := true) (by kernel_rfl) rfl rfl rfl rfl ?_
  intro Q hQ
  unfold p37_b at h
  conv => cbv
  refine reg_join hO tiA [2, 3, 26] [3000, 4000] [] (fun tm m => ∃ (j1 : Bool), ((tm = frame 0 46 [(2, .p 3000 0 0), (3, .p 4000 0 0), (26, .c (.v (.bool j1)))] ∧ m = ⟨[(3000, .blk 0 [.c (.v (.int .i64 x0)), .c (.v (.int .i64 x1)), .c (.sl 3 x2 none)]), (4000, .blk 0 [.c (.v (.int .i64 x3)), .c (.v (.int .i64 x4)), .c (.sl 3 x5 none)])], 1⟩)) ∧ p37_2 False fu (p37 False fu) K0 x2 x5 j1) (fun L hL_2 => ?_) ?_
  · conv => cbv
    refine br_h hO h (by subst hO; rfl) (fun hc4 h => ?_) (fun hc4 h => ?_)
    · conv => cbv
      refine br_t hO hc4 ?_
      conv => cbv
      refine br_t hO hc4 ?_
      conv => cbv
      refine br_t hO hc4 ?_
      conv => cbv
      refine br_t hO hc4 ?_
      conv => cbv
      refine br_t hO hc4 ?_
      conv => cbv
      refine br_t hO rfl ?_
      conv => cbv
      refine br_t hO rfl ?_
      conv => cbv
      refine br_t hO rfl ?_
      conv => cbv
      refine br_t hO rfl ?_
      conv => cbv
      refine br_t hO rfl ?_
      conv => cbv
      refine br_t hO rfl ?_
      conv => cbv
      refine br_t hO rfl ?_
      conv => cbv
      refine br_t hO rfl ?_
      conv => cbv
      exact hL_2 _ _ ⟨true, ⟨(by (conv => lhs; cbv) <;> (subst hO; rfl)), (by (conv => lhs; cbv) <;> (subst hO; rfl))⟩, h⟩
    · conv => cbv
      refine br_f hO hc4 ?_
      conv => cbv
      refine br_f hO hc4 ?_
      conv => cbv
      refine br_f hO hc4 ?_
      conv => cbv
      refine br_f hO hc4 ?_
      conv => cbv
      refine br_f hO hc4 ?_
      conv => cbv
      refine br_h hO h (by subst hO; rfl) (fun hc5 h => ?_) (fun hc5 h => ?_)
      · conv => cbv
        refine br_t hO hc5 ?_
        conv => cbv
        refine br_t hO hc5 ?_
        conv => cbv
        refine br_t hO hc5 ?_
        conv => cbv
        refine br_t hO hc5 ?_
        conv => cbv
        refine br_t hO hc5 ?_
        conv => cbv
        refine br_t hO hc5 ?_
        conv => cbv
        refine br_t hO hc5 ?_
        conv => cbv
        exact hL_2 _ _ ⟨true, ⟨(by (conv => lhs; cbv) <;> (subst hO; rfl)), (by (conv => lhs; cbv) <;> (subst hO; rfl))⟩, h⟩
      · conv => cbv
        refine br_f hO hc5 ?_
        conv => cbv
        refine br_f hO hc5 ?_
        conv => cbv
        refine br_f hO hc5 ?_
        conv => cbv
        refine br_f hO hc5 ?_
        conv => cbv
        refine br_f hO hc5 ?_
        conv => cbv
        refine br_f hO hc5 ?_
        conv => cbv
        refine br_f hO hc5 ?_
        conv => cbv
        exact hL_2 _ _ ⟨(cmpStd .neq ((x2.length : Nat) : Int) ((x5.length : Nat) : Int)), ⟨(by (conv => lhs; cbv) <;> (subst hO; rfl)), (by (conv => lhs; cbv) <;> (subst hO; rfl))⟩, h⟩
  · rintro tm m ⟨j1, hs, h⟩
    unfold p37_2 at h
    obtain ⟨rfl, rfl⟩ := hs
    conv => cbv
    refine br_h hO h (by subst hO; rfl) (fun hc1 h => ?_) (fun hc1 h => ?_)
    · conv => cbv
      rw [hQ]
      exact ⟨false, _, _, ⟨(by subst hO; rfl), (by subst hO; rfl)⟩, h⟩
    · conv => cbv
      refine join_all hO ?_
      conv => cbv
      refine loop_of hO tiA [2, 3, 5] [3000, 4000] [] (fun (n : Nat) tm m => ∃ (z2 : Int), ((tm = frame 0 46 [(2, .p 3000 0 0), (3, .p 4000 0 0), (5, .c (.v (.int .i64 z2)))] ∧ m = ⟨[(3000, .blk 0 [.c (.v (.int .i64 x0)), .c (.v (.int .i64 x1)), .c (.sl 3 x2 none)]), (4000, .blk 0 [.c (.v (.int .i64 x3)), .c (.v (.int .i64 x4)), .c (.sl 3 x5 none)])], 1⟩)) ∧ p37_1L False fu (p37 False fu) K0 x2 x5 n z2) (fun n => n) fu ⟨0, ⟨(by (conv => lhs; cbv) <;> (subst hO; rfl)), (by (conv => lhs; cbv) <;> (subst hO; rfl))⟩, h⟩ ?_
      rintro n1 tm m L ⟨z2, hs, h⟩ hLn1
      cases n1 with
      | zero => rw [p37_1L] at h; exact h.elim
      | succ n1 =>
        rw [p37_1L] at h
        unfold p37_1 at h
        obtain ⟨rfl, rfl⟩ := hs
        conv => cbv
        refine br_h hO h (by subst hO; rfl) (fun hc2 h => ?_) (fun hc2 h => ?_)
        · conv => cbv
          refine join_all hO ?_
          conv => cbv
          refine drawn_of hO tiA [[], []] [(0, true, false), (1, true, false), (2, true, false), (3, true, false), (4, true, false), (5, true, false), (6, true, false), (7, true, false), (8, true, false), (9, true, false), (10, false, true), (11, true, true)] (by kernel_rfl) ?_
          conv => cbv
          refine and_h h (fun g => (by subst hO; exact g)) (fun h => ?_)
          refine and_h h (fun g => (by subst hO; exact g)) (fun h => ?_)
          obtain ⟨c3, c4, c5, hr, h⟩ := rw_i64_i64_l3_inv h
          refine elem_of hO _ (by subst hO; exact hr) ?_
          clear hr
          conv => cbv
          refine and_h h (fun g => (by subst hO; exact g)) (fun h => ?_)
          refine and_h h (fun g => (by subst hO; exact g)) (fun h => ?_)
          obtain ⟨c6, c7, c8, hr, h⟩ := rw_i64_i64_l3_inv h
          refine elem_of hO _ (by subst hO; exact hr) ?_
          clear hr
          conv => cbv
          refine call_h hO [.shut, .shut] (ih_p37 O.len hN h) ?_
          intro os Q hos hQ
          conv => cbv
          refine ⟨(by (rw [hos]) <;> (subst hO; rfl)), ?_⟩
          intro r bs hq
          rw [hQ] at hq
          clear hos hQ h
          obtain ⟨y9, _, _, ⟨rfl, rfl⟩, h⟩ := hq
          conv => cbv
          refine join_all hO ?_
          conv => cbv
          refine br_h hO h (by subst hO; rfl) (fun hc3 h => ?_) (fun hc3 h => ?_)
          · conv => cbv
            rw [hQ]
            exact ⟨false, _, _, ⟨(by subst hO; rfl), (by subst hO; rfl)⟩, h⟩
          · conv => cbv
            refine join_all hO ?_
            conv => cbv
            exact hLn1 n1 _ _ (Nat.lt_succ_self n1) ⟨binStd .add .i64 z2 1, ⟨(by (conv => lhs; cbv) <;> (subst hO; rfl)), (by (conv => lhs; cbv) <;> (subst hO; rfl))⟩, h⟩
        · conv => cbv
          rw [hQ]
          exact ⟨true, _, _, ⟨(by subst hO; rfl), (by subst hO; rfl)⟩, h⟩
theorem dd_p37 (fu : Nat) : D_p37 fu := by
  induction fu with
  | zero => unfold D_p37; intros; rename_i h; rw [p37] at h; exact h.elim
  | succ n ih =>
    exact (by unfold D_p37; intro K0 L hN x0 x1 x2 x3 x4 x5 h; exact b_p37 n ih L hN (by rw [p37] at h; exact h))
theorem d_p37 (fu : Nat) {K0 : Bool → Prop} (L : EL → Nat) (hL : L = List.length) {x0 : Int} {x1 : Int} {x2 : EL} {x3 : Int} {x4 : Int} {x5 : EL} (h : p37 False fu K0 x0 x1 x2 x3 x4 x5) : Den Try.prog G0 37 [.agg [.c (.v (.int .i64 x0)), .c (.v (.int .i64 x1)), .c (.sl 3 x2 none)], .agg [.c (.v (.int .i64 x3)), .c (.v (.int .i64 x4)), .c (.sl 3 x5 none)]] (fun r bs => (∃ (y0 : Bool) (o0 : OV) (o1 : OV), (r = .c (.v (.bool y0)) ∧ bs = [o0, o1]) ∧ K0 y0)) := dd_p37 fu L hL h
end Go.Proofs.Ythncmjlcmlmnmaa

namespace Go.Proofs.Ythncmjlcmlmnmaa
open Go V
set_option maxRecDepth 100000
set_option maxHeartbeats 4000000
def p19_1 {ρ : Type} (fail : ρ) (fu : Nat) (s_p19 : (Bool → ρ) → Int → Int → ByteArray → EL → EL → Int → Int → ByteArray → EL → EL → ρ) (K0 : Bool → ρ) (rec2 : Int → ρ) (x4 : EL) (x9 : EL) (z10 : Int) : ρ :=
  bif (cmpStd .lss z10 ((x4.length : Nat) : Int)) then (gd ((0 : Int) ≤ z10) fail (gd ((z10 : Int) < (x4.length : Nat)) fail (rw_i64_i64_s_l3_l5 fail (List.getD x4 ((z10 : Int).toNat) []) (fun c11 c12 c13 c14 c15 => gd ((0 : Int) ≤ z10) fail (gd ((z10 : Int) < (x9.length : Nat)) fail (rw_i64_i64_s_l3_l5 fail (List.getD x9 ((z10 : Int).toNat) []) (fun c16 c17 c18 c19 c20 => s_p19 (fun y21 => bif (!y21) then (K0 false) else (rec2 (binStd .add .i64 z10 1))) c11 c12 c13 c14 c15 c16 c17 c18 c19 c20))))))) else (K0 true)
def p19_1L {ρ : Type} (fail : ρ) (fu : Nat) (s_p19 : (Bool → ρ) → Int → Int → ByteArray → EL → EL → Int → Int → ByteArray → EL → EL → ρ) (K0 : Bool → ρ)  (x4 : EL) (x9 : EL) : Nat → Int → ρ
  | 0, _ => fail
  | n + 1, z10 => p19_1 fail fu s_p19 K0 (p19_1L fail fu s_p19 K0  x4 x9 n) x4 x9 z10
def p19_2 {ρ : Type} (fail : ρ) (fu : Nat) (s_p19 : (Bool → ρ) → Int → Int → ByteArray → EL → EL → Int → Int → ByteArray → EL → EL → ρ) (K0 : Bool → ρ) (rec1 : Int → ρ) (x3 : EL) (x4 : EL) (x8 : EL) (x9 : EL) (z2 : Int) : ρ :=
  bif (cmpStd .lss z2 ((x3.length : Nat) : Int)) then (gd ((0 : Int) ≤ z2) fail (gd ((z2 : Int) < (x3.length : Nat)) fail (rw_i64_i64_l3 fail (List.getD x3 ((z2 : Int).toNat) []) (fun c3 c4 c5 => gd ((0 : Int) ≤ z2) fail (gd ((z2 : Int) < (x8.length : Nat)) fail (rw_i64_i64_l3 fail (List.getD x8 ((z2 : Int).toNat) []) (fun c6 c7 c8 => p37 fail fu (fun y9 => bif (!y9) then (K0 false) else (rec1 (binStd .add .i64 z2 1))) c3 c4 c5 c6 c7 c8))))))) else (p19_1L fail fu s_p19 K0 x4 x9 fu 0)
def p19_2L {ρ : Type} (fail : ρ) (fu : Nat) (s_p19 : (Bool → ρ) → Int → Int → ByteArray → EL → EL → Int → Int → ByteArray → EL → EL → ρ) (K0 : Bool → ρ)  (x3 : EL) (x4 : EL) (x8 : EL) (x9 : EL) : Nat → Int → ρ
  | 0, _ => fail
  | n + 1, z2 => p19_2 fail fu s_p19 K0 (p19_2L fail fu s_p19 K0  x3 x4 x8 x9 n) x3 x4 x8 x9 z2
def p19_3 {ρ : Type} (fail : ρ) (fu : Nat) (s_p19 : (Bool → ρ) → Int → Int → ByteArray → EL → EL → Int → Int → ByteArray → EL → EL → ρ) (K0 : Bool → ρ)  (x3 : EL) (x4 : EL) (x8 : EL) (x9 : EL) (j1 : Bool) : ρ :=
  bif j1 then (K0 false) else (p19_2L fail fu s_p19 K0 x3 x4 x8 x9 fu 0)
/-- ref5.Equal -/
def p19_b {ρ : Type} (fail : ρ) (fu : Nat) (s_p19 : (Bool → ρ) → Int → Int → ByteArray → EL → EL → Int → Int → ByteArray → EL → EL → ρ) (K0 : Bool → ρ) (x0 : Int) (x1 : Int) (x2 : ByteArray) (x3 : EL) (x4 : EL) (x5 : Int) (x6 : Int) (x7 : ByteArray) (x8 : EL) (x9 : EL) : ρ :=
  bif (cmpStd .neq x0 x5) then (p19_3 fail fu s_p19 K0 x3 x4 x8 x9 true) else (bif (cmpStd .neq x1 x6) then (p19_3 fail fu s_p19 K0 x3 x4 x8 x9 true) else (bif (scmpStd .neq x2 x7) then (p19_3 fail fu s_p19 K0 x3 x4 x8 x9 true) else (bif (cmpStd .neq ((x3.length : Nat) : Int) ((x8.length : Nat) : Int)) then (p19_3 fail fu s_p19 K0 x3 x4 x8 x9 true) else (p19_3 fail fu s_p19 K0 x3 x4 x8 x9 (cmpStd .neq ((x4.length : Nat) : Int) ((x9.length : Nat) : Int))))))
def p19 {ρ : Type} (fail : ρ) : Nat → (Bool → ρ) → Int → Int → ByteArray → EL → EL → Int → Int → ByteArray → EL → EL → ρ
  | 0, _, _, _, _, _, _, _, _, _, _, _ => fail
  | n + 1, K0, x0, x1, x2, x3, x4, x5, x6, x7, x8, x9 => p19_b fail n (p19 fail n) K0 x0 x1 x2 x3 x4 x5 x6 x7 x8 x9
def D_p19 (fu : Nat) : Prop := ∀ {K0 : Bool → Prop} (L : EL → Nat) (_ : L = List.length) {x0 : Int} {x1 : Int} {x2 : ByteArray} {x3 : EL} {x4 : EL} {x5 : Int} {x6 : Int} {x7 : ByteArray} {x8 : EL} {x9 : EL} (_ : p19 False fu K0 x0 x1 x2 x3 x4 x5 x6 x7 x8 x9), Den Try.prog G0 19 [.agg [.c (.v (.int .i64 x0)), .c (.v (.int .i64 x1)), .c (.v (.string x2)), .c (.sl 3 x3 none), .c (.sl 5 x4 none)], .agg [.c (.v (.int .i64 x5)), .c (.v (.int .i64 x6)), .c (.v (.string x7)), .c (.sl 3 x8 none), .c (.sl 5 x9 none)]] (fun r bs => (∃ (y0 : Bool) (o0 : OV) (o1 : OV), (r = .c (.v (.bool y0)) ∧ bs = [o0, o1]) ∧ K0 y0))
theorem b_p19 (fu : Nat) (ih_p19 : D_p19 fu) {K0 : Bool → Prop} (L : EL → Nat) (hN : L = List.length) {x0 : Int} {x1 : Int} {x2 : ByteArray} {x3 : EL} {x4 : EL} {x5 : Int} {x6 : Int} {x7 : ByteArray} {x8 : EL} {x9 : EL} (h : p19_b False fu (p19 False fu) K0 x0 x1 x2 x3 x4 x5 x6 x7 x8 x9) : Den Try.prog G0 19 [.agg [.c (.v (.int .i64 x0)), .c (.v (.int .i64 x1)), .c (.v (.string x2)), .c (.sl 3 x3 none), .c (.sl 5 x4 none)], .agg [.c (.v (.int .i64 x5)), .c (.v (.int .i64 x6)), .c (.v (.string x7)), .c (.sl 3 x8 none), .c (.sl 5 x9 none)]] (fun r bs => (∃ (y0 : Bool) (o0 : OV) (o1 : OV), (r = .c (.v (.bool y0)) ∧ bs = [o0, o1]) ∧ K0 y0)) := by
  obtain ⟨O, hO⟩ : ∃ O, O = std 0 T G0 (Den Try.prog G0) := ⟨_, rfl⟩
  have hLO : L = O.len := by rw [hN, hO]; rfl
  subst hLO
  refine den_h hO tiA mixed tabOk (fn := Try.f19) (sh := true) (by kernel_rfl) rfl rfl rfl rfl ?_
  intro Q hQ
  unfold p19_b at h
  conv => cbv
  refine reg_join hO tiA [2, 3, 43] [3000, 4000] [] (fun tm m => ∃ (j1 : Bool), ((tm = frame 0 82 [(2, .p 3000 0 0), (3, .p 4000 0 0), (43, .c (.v (.bool j1)))] ∧ m = ⟨[(3000, .blk 0 [.c (.v (.int .i64 x0)), .c (.v (.int .i64 x1)), .c (.v (.string x2)), .c (.sl 3 x3 none), .c (.sl 5 x4 none)]), (4000, .blk 0 [.c (.v (.int .i64 x5)), .c (.v (.int .i64 x6)), .c (.v (.string x7)), .c (.sl 3 x8 none), .c (.sl 5 x9 none)])], 1⟩)) ∧ p19_3 False fu (p19 False fu) K0 x3 x4 x8 x9 j1) (fun L hL_3 => ?_) ?_
  · conv => cbv
    refine br_h hO h (by subst hO; rfl) (fun hc6 h => ?_) (fun hc6 h => ?_)
    · conv => cbv
      refine br_t hO hc6 ?_
      conv => cbv
      refine br_t hO hc6 ?_
      conv => cbv
      refine br_t hO hc6 ?_
      conv => cbv
      refine br_t hO hc6 ?_
      conv => cbv
      refine br_t hO hc6 ?_
      conv => cbv
      refine br_t hO rfl ?_
      conv => cbv
      refine br_t hO rfl ?_
      conv => cbv
      refine br_t hO rfl ?_
      conv => cbv
      refine br_t hO rfl ?_
      conv => cbv
      refine br_t hO rfl ?_
      conv => cbv
      refine br_t hO rfl ?_
      conv => cbv
      refine br_t hO rfl ?_
      conv => cbv
      refine br_t hO rfl ?_
      conv => cbv
      refine br_t hO rfl ?_
      conv => cbv
      refine br_t hO rfl ?_
      conv => cbv
      refine br_t hO rfl ?_
      conv => cbv
      refine br_t hO rfl ?_
      conv => cbv
      refine br_t hO rfl ?_
      conv => cbv
      refine br_t hO rfl ?_
      conv => cbv
      refine br_t hO rfl ?_
      conv => cbv
      refine br_t hO rfl ?_
      conv => cbv
      refine br_t hO rfl ?_
      conv => cbv
      refine br_t hO rfl ?_
      conv => cbv
      refine br_t hO rfl ?_
      conv => cbv
      refine br_t hO rfl ?_
      conv => cbv
      refine br_t hO rfl ?_
      conv => cbv
      refine br_t hO rfl ?_
      conv => cbv
      exact hL_3 _ _ ⟨true, ⟨(by (conv => lhs; cbv) <;> (subst hO; rfl)), (by (conv => lhs; cbv) <;> (subst hO; rfl))⟩, h⟩
    · conv => cbv
      refine br_f hO hc6 ?_
      conv => cbv
      refine br_f hO hc6 ?_
      conv => cbv
      refine br_f hO hc6 ?_
      conv => cbv
      refine br_f hO hc6 ?_
      conv => cbv
      refine br_f hO hc6 ?_
      conv => cbv
      refine br_h hO h (by subst hO; rfl) (fun hc7 h => ?_) (fun hc7 h => ?_)
      · conv => cbv
        refine br_t hO hc7 ?_
        conv => cbv
        refine br_t hO hc7 ?_
        conv => cbv
        refine br_t hO hc7 ?_
        conv => cbv
        refine br_t hO hc7 ?_
        conv => cbv
        refine br_t hO hc7 ?_
        conv => cbv
        refine br_t hO rfl ?_
        conv => cbv
        refine br_t hO rfl ?_
        conv => cbv
        refine br_t hO rfl ?_
        conv => cbv
        refine br_t hO rfl ?_
        conv => cbv
        refine br_t hO rfl ?_
        conv => cbv
        refine br_t hO rfl ?_
        conv => cbv
        refine br_t hO rfl ?_
        conv => cbv
        refine br_t hO rfl ?_
        conv => cbv
        refine br_t hO rfl ?_
        conv => cbv
        refine br_t hO rfl ?_
        conv => cbv
        refine br_t hO rfl ?_
        conv => cbv
        refine br_t hO rfl ?_
        conv => cbv
        refine br_t hO rfl ?_
        conv => cbv
        refine br_t hO rfl ?_
        conv => cbv
        refine br_t hO rfl ?_
        conv => cbv
        refine br_t hO rfl ?_
        conv => cbv
        exact hL_3 _ _ ⟨true, ⟨(by (conv => lhs; cbv) <;> (subst hO; rfl)), (by (conv => lhs; cbv) <;> (subst hO; rfl))⟩, h⟩
      · conv => cbv
        refine br_f hO hc7 ?_
        conv => cbv
        refine br_f hO hc7 ?_
        conv => cbv
        refine br_f hO hc7 ?_
        conv => cbv
        refine br_f hO hc7 ?_
        conv => cbv
        refine br_f hO hc7 ?_
        conv => cbv
        refine br_h hO h (by subst hO; rfl) (fun hc8 h => ?_) (fun hc8 h => ?_)
        · conv => cbv
          refine br_t hO hc8 ?_
          conv => cbv
          refine br_t hO hc8 ?_
          conv => cbv
          refine br_t hO hc8 ?_
          conv => cbv
          refine br_t hO hc8 ?_
          conv => cbv
          refine br_t hO hc8 ?_
          conv => cbv
          refine br_t hO hc8 ?_
          conv => cbv
          refine br_t hO hc8 ?_
          conv => cbv
          refine br_t hO rfl ?_
          conv => cbv
          refine br_t hO rfl ?_
          conv => cbv
          refine br_t hO rfl ?_
          conv => cbv
          refine br_t hO rfl ?_
          conv => cbv
          refine br_t hO rfl ?_
          conv => cbv
          refine br_t hO rfl ?_
          conv => cbv
          refine br_t hO rfl ?_
          conv => cbv
          refine br_t hO rfl ?_
          conv => cbv
          exact hL_3 _ _ ⟨true, ⟨(by (conv => lhs; cbv) <;> (subst hO; rfl)), (by (conv => lhs; cbv) <;> (subst hO; rfl))⟩, h⟩
        · conv => cbv
          refine br_f hO hc8 ?_
          conv => cbv
          refine br_f hO hc8 ?_
          conv => cbv
          refine br_f hO hc8 ?_
          conv => cbv
          refine br_f hO hc8 ?_
          conv => cbv
          refine br_f hO hc8 ?_
          conv => cbv
          refine br_f hO hc8 ?_
          conv => cbv
          refine br_f hO hc8 ?_
          conv => cbv
          refine br_h hO h (by subst hO; rfl) (fun hc9 h => ?_) (fun hc9 h => ?_)
          · conv => cbv
            refine br_t hO hc9 ?_
            conv => cbv
            refine br_t hO hc9 ?_
            conv => cbv
            refine br_t hO hc9 ?_
            conv => cbv
            refine br_t hO hc9 ?_
            conv => cbv
            refine br_t hO hc9 ?_
            conv => cbv
            refine br_t hO hc9 ?_
            conv => cbv
            refine br_t hO hc9 ?_
            conv => cbv
            exact hL_3 _ _ ⟨true, ⟨(by (conv => lhs; cbv) <;> (subst hO; rfl)), (by (conv => lhs; cbv) <;> (subst hO; rfl))⟩, h⟩
          · conv => cbv
            refine br_f hO hc9 ?_
            conv => cbv
            refine br_f hO hc9 ?_
            conv => cbv
            refine br_f hO hc9 ?_
            conv => cbv
            refine br_f hO hc9 ?_
            conv => cbv
            refine br_f hO hc9 ?_
            conv => cbv
            refine br_f hO hc9 ?_
            conv => cbv
            refine br_f hO hc9 ?_
            conv => cbv
            exact hL_3 _ _ ⟨(cmpStd .neq ((x4.length : Nat) : Int) ((x9.length : Nat) : Int)), ⟨(by (conv => lhs; cbv) <;> (subst hO; rfl)), (by (conv => lhs; cbv) <;> (subst hO; rfl))⟩, h⟩
  · rintro tm m ⟨j1, hs, h⟩
    unfold p19_3 at h
    obtain ⟨rfl, rfl⟩ := hs
    conv => cbv
    refine br_h hO h (by subst hO; rfl) (fun hc1 h => ?_) (fun hc1 h => ?_)
    · conv => cbv
      rw [hQ]
      exact ⟨false, _, _, ⟨(by subst hO; rfl), (by subst hO; rfl)⟩, h⟩
    · conv => cbv
      refine join_all hO ?_
      conv => cbv
      refine loop_of hO tiA [2, 3, 5] [3000, 4000] [] (fun (n : Nat) tm m => ∃ (z2 : Int), ((tm = frame 0 82 [(2, .p 3000 0 0), (3, .p 4000 0 0), (5, .c (.v (.int .i64 z2)))] ∧ m = ⟨[(3000, .blk 0 [.c (.v (.int .i64 x0)), .c (.v (.int .i64 x1)), .c (.v (.string x2)), .c (.sl 3 x3 none), .c (.sl 5 x4 none)]), (4000, .blk 0 [.c (.v (.int .i64 x5)), .c (.v (.int .i64 x6)), .c (.v (.string x7)), .c (.sl 3 x8 none), .c (.sl 5 x9 none)])], 1⟩)) ∧ p19_2L False fu (p19 False fu) K0 x3 x4 x8 x9 n z2) (fun n => n) fu ⟨0, ⟨(by (conv => lhs; cbv) <;> (subst hO; rfl)), (by (conv => lhs; cbv) <;> (subst hO; rfl))⟩, h⟩ ?_
      rintro n1 tm m L ⟨z2, hs, h⟩ hLn1
      cases n1 with
      | zero => rw [p19_2L] at h; exact h.elim
      | succ n1 =>
        rw [p19_2L] at h
        unfold p19_2 at h
        obtain ⟨rfl, rfl⟩ := hs
        conv => cbv
        refine br_h hO h (by subst hO; rfl) (fun hc2 h => ?_) (fun hc2 h => ?_)
        · conv => cbv
          refine join_all hO ?_
          conv => cbv
          refine drawn_of hO tiA [[], []] [(0, true, false), (1, true, false), (2, true, false), (3, true, false), (4, true, false), (5, true, false), (6, true, false), (7, true, false), (8, true, false), (9, true, false), (10, false, true), (11, true, true)] (by kernel_rfl) ?_
          conv => cbv
          refine and_h h (fun g => (by subst hO; exact g)) (fun h => ?_)
          refine and_h h (fun g => (by subst hO; exact g)) (fun h => ?_)
          obtain ⟨c3, c4, c5, hr, h⟩ := rw_i64_i64_l3_inv h
          refine elem_of hO _ (by subst hO; exact hr) ?_
          clear hr
          conv => cbv
          refine and_h h (fun g => (by subst hO; exact g)) (fun h => ?_)
          refine and_h h (fun g => (by subst hO; exact g)) (fun h => ?_)
          obtain ⟨c6, c7, c8, hr, h⟩ := rw_i64_i64_l3_inv h
          refine elem_of hO _ (by subst hO; exact hr) ?_
          clear hr
          conv => cbv
          refine call_h hO [.shut, .shut] (d_p37 fu O.len hN h) ?_
          intro os Q hos hQ
          conv => cbv
          refine ⟨(by (rw [hos]) <;> (subst hO; rfl)), ?_⟩
          intro r bs hq
          rw [hQ] at hq
          clear hos hQ h
          obtain ⟨y9, _, _, ⟨rfl, rfl⟩, h⟩ := hq
          conv => cbv
          refine join_all hO ?_
          conv => cbv
          refine br_h hO h (by subst hO; rfl) (fun hc3 h => ?_) (fun hc3 h => ?_)
          · conv => cbv
            rw [hQ]
            exact ⟨false, _, _, ⟨(by subst hO; rfl), (by subst hO; rfl)⟩, h⟩
          · conv => cbv
            refine join_all hO ?_
            conv => cbv
            exact hLn1 n1 _ _ (Nat.lt_succ_self n1) ⟨binStd .add .i64 z2 1, ⟨(by (conv => lhs; cbv) <;> (subst hO; rfl)), (by (conv => lhs; cbv) <;> (subst hO; rfl))⟩, h⟩
        · conv => cbv
          refine loop_of hO tiA [2, 3, 6] [3000, 4000] [] (fun (n : Nat) tm m => ∃ (z10 : Int), ((tm = frame 0 82 [(2, .p 3000 0 0), (3, .p 4000 0 0), (6, .c (.v (.int .i64 z10)))] ∧ m = ⟨[(3000, .blk 0 [.c (.v (.int .i64 x0)), .c (.v (.int .i64 x1)), .c (.v (.string x2)), .c (.sl 3 x3 none), .c (.sl 5 x4 none)]), (4000, .blk 0 [.c (.v (.int .i64 x5)), .c (.v (.int .i64 x6)), .c (.v (.string x7)), .c (.sl 3 x8 none), .c (.sl 5 x9 none)])], 1⟩)) ∧ p19_1L False fu (p19 False fu) K0 x4 x9 n z10) (fun n => n) fu ⟨0, ⟨(by (conv => lhs; cbv) <;> (subst hO; rfl)), (by (conv => lhs; cbv) <;> (subst hO; rfl))⟩, h⟩ ?_
          rintro n2 tm m L ⟨z10, hs, h⟩ hLn2
          cases n2 with
          | zero => rw [p19_1L] at h; exact h.elim
          | succ n2 =>
            rw [p19_1L] at h
            unfold p19_1 at h
            obtain ⟨rfl, rfl⟩ := hs
            conv => cbv
            refine br_h hO h (by subst hO; rfl) (fun hc4 h => ?_) (fun hc4 h => ?_)
            · conv => cbv
              refine join_all hO ?_
              conv => cbv
              refine drawn_of hO tiA [[], []] [(0, true, false), (1, true, false), (2, true, false), (3, true, false), (4, true, false), (5, true, false), (6, true, false), (7, true, false), (8, true, false), (9, true, false), (10, false, true), (11, true, true)] (by kernel_rfl) ?_
              conv => cbv
              refine and_h h (fun g => (by subst hO; exact g)) (fun h => ?_)
              refine and_h h (fun g => (by subst hO; exact g)) (fun h => ?_)
              obtain ⟨c11, c12, c13, c14, c15, hr, h⟩ := rw_i64_i64_s_l3_l5_inv h
              refine elem_of hO _ (by subst hO; exact hr) ?_
              clear hr
              conv => cbv
              refine and_h h (fun g => (by subst hO; exact g)) (fun h => ?_)
              refine and_h h (fun g => (by subst hO; exact g)) (fun h => ?_)
              obtain ⟨c16, c17, c18, c19, c20, hr, h⟩ := rw_i64_i64_s_l3_l5_inv h
              refine elem_of hO _ (by subst hO; exact hr) ?_
              clear hr
              conv => cbv
              refine call_h hO [.shut, .shut] (ih_p19 O.len hN h) ?_
              intro os Q hos hQ
              conv => cbv
              refine ⟨(by (rw [hos]) <;> (subst hO; rfl)), ?_⟩
              intro r bs hq
              rw [hQ] at hq
              clear hos hQ h
              obtain ⟨y21, _, _, ⟨rfl, rfl⟩, h⟩ := hq
              conv => cbv
              refine join_all hO ?_
              conv => cbv
              refine br_h hO h (by subst hO; rfl) (fun hc5 h => ?_) (fun hc5 h => ?_)
              · conv => cbv
                rw [hQ]
                exact ⟨false, _, _, ⟨(by subst hO; rfl), (by subst hO; rfl)⟩, h⟩
              · conv => cbv
                refine join_all hO ?_
                conv => cbv
                exact hLn2 n2 _ _ (Nat.lt_succ_self n2) ⟨binStd .add .i64 z10 1, ⟨(by (conv => lhs; cbv) <;> (subst hO; rfl)), (by (conv => lhs; cbv) <;> (subst hO; rfl))⟩, h⟩
            · conv => cbv
              rw [hQ]
              exact ⟨true, _, _, ⟨(by subst hO; rfl), (by subst hO; rfl)⟩, h⟩
theorem dd_p19 (fu : Nat) : D_p19 fu := by
  induction fu with
  | zero => unfold D_p19; intros; rename_i h; rw [p19] at h; exact h.elim
  | succ n ih =>
    exact (by unfold D_p19; intro K0 L hN x0 x1 x2 x3 x4 x5 x6 x7 x8 x9 h; exact b_p19 n ih L hN (by rw [p19] at h; exact h))
theorem d_p19 (fu : Nat) {K0 : Bool → Prop} (L : EL → Nat) (hL : L = List.length) {x0 : Int} {x1 : Int} {x2 : ByteArray} {x3 : EL} {x4 : EL} {x5 : Int} {x6 : Int} {x7 : ByteArray} {x8 : EL} {x9 : EL} (h : p19 False fu K0 x0 x1 x2 x3 x4 x5 x6 x7 x8 x9) : Den Try.prog G0 19 [.agg [.c (.v (.int .i64 x0)), .c (.v (.int .i64 x1)), .c (.v (.string x2)), .c (.sl 3 x3 none), .c (.sl 5 x4 none)], .agg [.c (.v (.int .i64 x5)), .c (.v (.int .i64 x6)), .c (.v (.string x7)), .c (.sl 3 x8 none), .c (.sl 5 x9 none)]] (fun r bs => (∃ (y0 : Bool) (o0 : OV) (o1 : OV), (r = .c (.v (.bool y0)) ∧ bs = [o0, o1]) ∧ K0 y0)) := dd_p19 fu L hL h
end Go.Proofs.Ythncmjlcmlmnmaa

namespace Go.Proofs.Ythncmjlcmlmnmaa
open Go V
set_option maxRecDepth 100000
set_option maxHeartbeats 2000000
/-- A reply. -/
structure Rp where
  err : Int
  hi : Int
  lo : Int
  fuel : Int
  cells : Int
  yes : Bool
  t : Tm
  params : Int
  ax : List ByteArray
def strRow (s : ByteArray) : List CV := [.v (.string s)]
abbrev RK14 (ρ : Type) := Int → Int → Int → Int → Int → Bool → Int → Int → ByteArray → EL → EL → Int → EL → Int → ρ
def rpOut {ρ : Type} : Option Rp → RK14 ρ → ρ
  | some r, K => K r.err r.hi r.lo r.fuel r.cells r.yes r.t.k r.t.n r.t.nm (Lv.rows r.t.ls) (Tm.rows r.t.args) r.params (r.ax.map strRow) 0
  | none, K => K 0 0 0 0 0 false 0 0 ⟨#[]⟩ nilE nilE 0 nilE 5
/-- p comes to x. -/
def Gd {ρ : Type} (p : RK14 ρ → ρ) (x : Option Rp) : Prop := ∀ K : RK14 ρ, p K = rpOut x K
def opt {α β : Type} (x : Except Int α) (f : α → Option β) : Option β := match x with | .ok a => f a | .error _ => none
section
variable {ρ : Type} (fail : ρ) (fu : Nat)
section
variable (y1 y4 y7 y10 y13 : Int) (j21 : Bool) (t : Tm)
variable (hfu : 70000 ≤ fu)
include hfu
end
variable (hfu : 70000 ≤ fu)
include hfu
section
variable (y1 y4 y7 y10 y13 : Int) (j21 : Bool)
end
/-- Stages, from the last one on. -/
def s7 (K0 : RK14 ρ) (y1 y4 y7 y10 y13 : Int) (y16 : Int) (B : EL) (e : Int) : ρ := p93 fail fu (fun y62 y63 y64 => bif (cmpStd .eql y62 1) then (p45_7 fail fu K0 y1 y4 y7 y10 y13 y63 y64 (cmpStd .eql y16 1) (cmpStd .eql y64 0)) else (p45_7 fail fu K0 y1 y4 y7 y10 y13 y63 y64 (cmpStd .eql y16 1) false)) B e 0 1
def s6 (K0 : RK14 ρ) (y1 y4 y7 y10 y13 : Int) (B : EL) (e : Int) : ρ := p93 fail fu (fun y16 y17 y18 => s7 fail fu K0 y1 y4 y7 y10 y13 y16 y17 y18) B e 0 1
def s5 (K0 : RK14 ρ) (y1 y4 y7 y10 : Int) (B : EL) (e : Int) : ρ := p91 fail fu (fun y13 y14 y15 => s6 fail fu K0 y1 y4 y7 y10 y13 y14 y15) B e
def s4 (K0 : RK14 ρ) (y1 y4 y7 : Int) (B : EL) (e : Int) : ρ := p91 fail fu (fun y10 y11 y12 => s5 fail fu K0 y1 y4 y7 y10 y11 y12) B e
def s3 (K0 : RK14 ρ) (y1 y4 : Int) (B : EL) (e : Int) : ρ := p92 fail fu (fun y7 y8 y9 => s4 fail fu K0 y1 y4 y7 y8 y9) B e
def s2 (K0 : RK14 ρ) (y1 : Int) (B : EL) (e : Int) : ρ := p92 fail fu (fun y4 y5 y6 => s3 fail fu K0 y1 y4 y5 y6) B e
section
variable (B : EL) (e : Int) (he : e ≠ 0)
include he
end
omit hfu in
/-- A step, and what follows. -/
theorem Gd.step {q : (Int → EL → Int → ρ) → ρ} {j : Int} {x : Except Int (Nat × List UInt8)} (h : KOut q j x) {c : RK14 ρ → Int → EL → Int → ρ} {f : Nat × List UInt8 → Option Rp} (h1 : ∀ v r, x = .ok (v, r) → Gd (fun K => c K (v : Nat) (encB r) 0) (f (v, r))) (h2 : ∀ B e, e ≠ 0 → Gd (fun K => c K j B e) none) : Gd (fun K => q (c K)) (opt x f) := by
  cases x with
  | error e =>
    obtain ⟨he, B, hB⟩ := h
    intro K
    exact (hB _).trans (h2 B e he K)
  | ok x =>
    obtain ⟨v, r⟩ := x
    intro K
    exact (h _).trans (h1 v r rfl K)
end
end Go.Proofs.Ythncmjlcmlmnmaa

namespace Go.Proofs.Ythncmjlcmlmnmaa
open Go V
set_option maxRecDepth 100000
set_option maxHeartbeats 4000000
def p136_1 {ρ : Type} (fail : ρ) (fu : Nat)  (K0 : Int → ρ)  (x0 : Int) (j2 : Bool) : ρ :=
  bif j2 then (K0 2) else (bif (cmpStd .eql x0 6) then (K0 3) else (K0 (-1)))
def p136_2 {ρ : Type} (fail : ρ) (fu : Nat)  (K0 : Int → ρ)  (x0 : Int) (j3 : Bool) : ρ :=
  p136_1 fail fu  K0 x0 j3
def p136_3 {ρ : Type} (fail : ρ) (fu : Nat)  (K0 : Int → ρ)  (x0 : Int) (j1 : Bool) : ρ :=
  bif j1 then (K0 0) else (bif (cmpStd .eql x0 3) then (p136_1 fail fu  K0 x0 (cmpStd .eql x0 3)) else (bif (cmpStd .eql x0 4) then (p136_2 fail fu  K0 x0 (cmpStd .eql x0 4)) else (p136_2 fail fu  K0 x0 (cmpStd .eql x0 5))))
def p136_4 {ρ : Type} (fail : ρ) (fu : Nat)  (K0 : Int → ρ)  (x0 : Int) (j4 : Bool) : ρ :=
  p136_3 fail fu  K0 x0 j4
/-- ref5.Args -/
def p136 {ρ : Type} (fail : ρ) (fu : Nat)  (K0 : Int → ρ) (x0 : Int) : ρ :=
  bif (cmpStd .eql x0 0) then (p136_3 fail fu  K0 x0 (cmpStd .eql x0 0)) else (bif (cmpStd .eql x0 1) then (p136_4 fail fu  K0 x0 (cmpStd .eql x0 1)) else (p136_4 fail fu  K0 x0 (cmpStd .eql x0 2)))
theorem d_p136 (fu : Nat)  {K0 : Int → Prop} (L : EL → Nat) (hN : L = List.length) {x0 : Int} (h : p136 False fu K0 x0) : Den Try.prog G0 136 [.c (.v (.int .i64 x0))] (fun r bs => (∃ (y0 : Int) (o0 : OV), (r = .c (.v (.int .i64 y0)) ∧ bs = [o0]) ∧ K0 y0)) := by
  obtain ⟨O, hO⟩ : ∃ O, O = std 0 T G0 (Den Try.prog G0) := ⟨_, rfl⟩
  have hLO : L = O.len := by rw [hN, hO]; rfl
  subst hLO
  refine den_h hO tiA mixed tabOk (fn := Try.f136) (sh := true) (by kernel_rfl) rfl rfl rfl rfl ?_
  intro Q hQ
  unfold p136 at h
  conv => cbv
  refine br_join_h hO tiA h (by subst hO; rfl) [3, 4] [] [] (fun tm m => ∃ (j1 : Bool), ((tm = frame 0 14 [(3, .c (.v (.int .i64 x0))), (4, .c (.v (.bool j1)))] ∧ m = ⟨[], 1⟩)) ∧ p136_3 False fu  K0 x0 j1) (fun hc6 h L hL_3 => ?_) (fun hc6 h L hL_3 => ?_) ?_
  · conv => cbv
    exact hL_3 _ _ ⟨(cmpStd .eql x0 0), ⟨(by (conv => lhs; cbv) <;> (subst hO; rfl)), (by (conv => lhs; cbv) <;> (subst hO; rfl))⟩, h⟩
  · conv => cbv
    refine br_join_h hO tiA h (by subst hO; rfl) [3, 4] [] [] (fun tm m => ∃ (j4 : Bool), ((tm = frame 0 14 [(3, .c (.v (.int .i64 x0))), (4, .c (.v (.bool j4)))] ∧ m = ⟨[], 1⟩)) ∧ p136_4 False fu  K0 x0 j4) (fun hc7 h L hL_4 => ?_) (fun hc7 h L hL_4 => ?_) ?_
    · conv => cbv
      exact hL_4 _ _ ⟨(cmpStd .eql x0 1), ⟨(by (conv => lhs; cbv) <;> (subst hO; rfl)), (by (conv => lhs; cbv) <;> (subst hO; rfl))⟩, h⟩
    · conv => cbv
      exact hL_4 _ _ ⟨(cmpStd .eql x0 2), ⟨(by (conv => lhs; cbv) <;> (subst hO; rfl)), (by (conv => lhs; cbv) <;> (subst hO; rfl))⟩, h⟩
    · rintro tm m ⟨j4, hs, h⟩
      unfold p136_4 at h
      obtain ⟨rfl, rfl⟩ := hs
      conv => cbv
      exact hL_3 _ _ ⟨j4, ⟨(by (conv => lhs; cbv) <;> (subst hO; rfl)), (by (conv => lhs; cbv) <;> (subst hO; rfl))⟩, h⟩
  · rintro tm m ⟨j1, hs, h⟩
    unfold p136_3 at h
    obtain ⟨rfl, rfl⟩ := hs
    conv => cbv
    refine br_h hO h (by subst hO; rfl) (fun hc1 h => ?_) (fun hc1 h => ?_)
    · conv => cbv
      rw [hQ]
      exact ⟨0, _, ⟨(by subst hO; rfl), (by subst hO; rfl)⟩, h⟩
    · conv => cbv
      refine br_join_h hO tiA h (by subst hO; rfl) [3, 8] [] [] (fun tm m => ∃ (j2 : Bool), ((tm = frame 0 14 [(3, .c (.v (.int .i64 x0))), (8, .c (.v (.bool j2)))] ∧ m = ⟨[], 1⟩)) ∧ p136_1 False fu  K0 x0 j2) (fun hc4 h L hL_1 => ?_) (fun hc4 h L hL_1 => ?_) ?_
      · conv => cbv
        exact hL_1 _ _ ⟨(cmpStd .eql x0 3), ⟨(by (conv => lhs; cbv) <;> (subst hO; rfl)), (by (conv => lhs; cbv) <;> (subst hO; rfl))⟩, h⟩
      · conv => cbv
        refine br_join_h hO tiA h (by subst hO; rfl) [3, 8] [] [] (fun tm m => ∃ (j3 : Bool), ((tm = frame 0 14 [(3, .c (.v (.int .i64 x0))), (8, .c (.v (.bool j3)))] ∧ m = ⟨[], 1⟩)) ∧ p136_2 False fu  K0 x0 j3) (fun hc5 h L hL_2 => ?_) (fun hc5 h L hL_2 => ?_) ?_
        · conv => cbv
          exact hL_2 _ _ ⟨(cmpStd .eql x0 4), ⟨(by (conv => lhs; cbv) <;> (subst hO; rfl)), (by (conv => lhs; cbv) <;> (subst hO; rfl))⟩, h⟩
        · conv => cbv
          exact hL_2 _ _ ⟨(cmpStd .eql x0 5), ⟨(by (conv => lhs; cbv) <;> (subst hO; rfl)), (by (conv => lhs; cbv) <;> (subst hO; rfl))⟩, h⟩
        · rintro tm m ⟨j3, hs, h⟩
          unfold p136_2 at h
          obtain ⟨rfl, rfl⟩ := hs
          conv => cbv
          exact hL_1 _ _ ⟨j3, ⟨(by (conv => lhs; cbv) <;> (subst hO; rfl)), (by (conv => lhs; cbv) <;> (subst hO; rfl))⟩, h⟩
      · rintro tm m ⟨j2, hs, h⟩
        unfold p136_1 at h
        obtain ⟨rfl, rfl⟩ := hs
        conv => cbv
        refine br_h hO h (by subst hO; rfl) (fun hc2 h => ?_) (fun hc2 h => ?_)
        · conv => cbv
          rw [hQ]
          exact ⟨2, _, ⟨(by subst hO; rfl), (by subst hO; rfl)⟩, h⟩
        · conv => cbv
          refine br_h hO h (by subst hO; rfl) (fun hc3 h => ?_) (fun hc3 h => ?_)
          · conv => cbv
            rw [hQ]
            exact ⟨3, _, ⟨(by subst hO; rfl), (by subst hO; rfl)⟩, h⟩
          · conv => cbv
            refine join_all hO ?_
            conv => cbv
            refine join_all hO ?_
            conv => cbv
            refine join_all hO ?_
            conv => cbv
            rw [hQ]
            exact ⟨(-1), _, ⟨(by subst hO; rfl), (by subst hO; rfl)⟩, h⟩
end Go.Proofs.Ythncmjlcmlmnmaa

