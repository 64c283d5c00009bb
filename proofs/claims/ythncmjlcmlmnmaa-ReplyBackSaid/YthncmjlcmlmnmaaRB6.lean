/- What is written is read again; what is read stays read whatever comes behind. Conditions: none. -/
import Derived.Test.YthncmjlcmlmnmaaRB5
import Derived.Test.YthncmjlcmlmnmaaG
import Derived.Test.YthncmjlcmlmnmaaPR
import Derived.Test.YthncmjlcmlmnmaaRB1
namespace Go.Proofs.Ythncmjlcmlmnmaa
open Go V
set_option maxRecDepth 100000
set_option maxHeartbeats 2000000
theorem rdV_back (v : Nat) (h : v < 2 ^ 64) (r : List UInt8) : rdV (varB v ++ r) = .ok (v, r) := by
  unfold rdV
  rw [tv_back v 0 r (by omega) (by simpa using h) (by omega)]
  simp
theorem rdKind_back (lo hi v : Nat) (h1 : lo ≤ v) (h2 : v ≤ hi) (h3 : v < 2 ^ 64) (r : List UInt8) : rdKind lo hi (varB v ++ r) = .ok (v, r) := by
  unfold rdKind
  rw [rdV_back v h3]
  dsimp only
  rw [if_neg (by omega)]
theorem rdNum_back (v : Nat) (h : v ≤ 1073741824) (r : List UInt8) : rdNum (varB v ++ r) = .ok (v, r) := by
  unfold rdNum
  rw [rdV_back v (by omega)]
  dsimp only
  rw [if_neg (by omega)]
theorem rdTxt_back (m : Nat) (s : ByteArray) (h : s.size ≤ m) (hm : m ≤ 1000000) (r : List UInt8) : rdTxt m (txB s ++ r) = .ok (s.data.toList, r) := by
  unfold rdTxt
  rw [txB, List.append_assoc, rdV_back _ (by omega)]
  have hl := sz_data s
  dsimp only
  rw [if_neg (by omega), if_neg (by rw [List.length_append]; omega), ← hl, List.take_left, List.drop_left]
theorem ba_data (s : ByteArray) : (⟨s.data.toList.toArray⟩ : ByteArray) = s := by
  obtain ⟨d⟩ := s; simp
theorem ba_nil' {s : ByteArray} (h : s.size = 0) : s = ⟨#[]⟩ := by
  obtain ⟨d⟩ := s
  have : d = #[] := Array.size_eq_zero_iff.1 h
  rw [this]
/-- Is it such a level as may be, so deep? -/
def Lv.good : Nat → Lv → Prop
  | 0, _ => False
  | d + 1, .mk k n l => ((k = 4 ∧ 0 ≤ n ∧ n < 4 ∧ l = []) ∨ (0 ≤ k ∧ k ≤ 3 ∧ n = 0 ∧ l.length = lvN k.toNat)) ∧ ∀ a ∈ l, Lv.good d a
mutual
def Lv.parts : Lv → Nat
  | .mk _ _ l => 1 + Lv.partss l
def Lv.partss : List Lv → Nat
  | [] => 0
  | a :: l => Lv.parts a + Lv.partss l
end
theorem many_back {α : Type} {f : Nat → List UInt8 → Except Int (α × List UInt8 × Nat)} {g : α → List UInt8} {gs : List α → List UInt8} {c : α → Nat} {cs : List α → Nat} (h0 : gs [] = []) (h1 : ∀ a l, gs (a :: l) = g a ++ gs l) (k0 : cs [] = 0) (k1 : ∀ a l, cs (a :: l) = c a + cs l) {m : Nat} :
    ∀ (l : List α) (p : Nat) (r : List UInt8), (∀ a ∈ l, ∀ p r, p + c a ≤ m → f p (g a ++ r) = .ok (a, r, p + c a)) → p + cs l ≤ m → many f l.length p (gs l ++ r) = .ok (l, r, p + cs l)
  | [], p, r, _, _ => by simp only [many, h0, k0, List.length_nil, List.nil_append, Nat.add_zero]
  | a :: l, p, r, hf, hm => by
    rw [k1] at hm
    simp only [many, List.length_cons, h1, List.append_assoc]
    rw [hf a (by simp) p _ (by omega)]
    dsimp only
    rw [many_back h0 h1 k0 k1 l (p + c a) r (fun b hb => hf b (by simp [hb])) (by omega)]
    dsimp only
    rw [k1, Nat.add_assoc]
theorem rdLv_back : ∀ (d : Nat) (l : Lv), l.good d → ∀ (p : Nat) (r : List UInt8), p + l.parts ≤ 64 → rdLv d p (l.enc ++ r) = .ok (l, r, p + l.parts)
  | 0, _, h, _, _, _ => h.elim
  | d + 1, .mk k n l, h, p, r, hp => by
    obtain ⟨hk, ha⟩ := h
    simp only [Lv.parts] at hp ⊢
    simp only [rdLv, Lv.enc, List.append_assoc]
    rw [if_neg (by omega)]
    have hks : 0 ≤ k ∧ k ≤ 4 := by omega
    obtain ⟨kn, rfl⟩ : ∃ kn : Nat, k = kn := ⟨k.toNat, by omega⟩
    have hu : uv (kn : Int) = kn := uv_nat _ (by omega)
    rw [hu, rdKind_back 0 4 kn (by omega) (by omega) (by omega)]
    dsimp only
    rcases hk with ⟨h4, hn0, hn4, rfl⟩ | ⟨_, h3, rfl, hl⟩
    · obtain ⟨nn, rfl⟩ : ∃ nn : Nat, n = nn := ⟨n.toNat, by omega⟩
      have hk4 : kn = 4 := by omega
      subst hk4
      rw [if_pos rfl, if_pos h4, uv_nat nn (by omega), Lv.encs, List.nil_append, rdNum_back nn (by omega)]
      dsimp only
      rw [if_neg (by omega)]
      rfl
    · rw [if_neg (by omega), if_neg (show ¬ ((kn : Nat) : Int) = 4 by omega), List.nil_append]
      rw [Int.toNat_natCast] at hl
      rw [← hl, many_back (g := Lv.enc) (gs := Lv.encs) (c := Lv.parts) (cs := Lv.partss) rfl (fun _ _ => rfl) rfl (fun _ _ => rfl) (m := 64) l (p + 1) r (fun a hm p r hp => rdLv_back d a (ha a hm) p r hp) (by omega)]
      dsimp only
      rw [show p + 1 + Lv.partss l = p + (1 + Lv.partss l) by omega]
theorem rdLevel_back (l : Lv) (h : l.good 32) (hp : l.parts ≤ 64) (r : List UInt8) : rdLevel (l.enc ++ r) = .ok (l, r) := by
  unfold rdLevel
  rw [rdLv_back 32 l h 0 r (by omega)]
/-- Is it such a term as may be, so deep? -/
def Tm.good : Nat → Tm → Prop
  | 0, _ => False
  | d + 1, .mk k n s l a =>
    ((k = 0 ∧ 0 ≤ n ∧ n ≤ 1073741824 ∧ s.size = 0 ∧ l = [] ∧ a = []) ∨ (k = 1 ∧ n = 0 ∧ s.size = 0 ∧ l.length = 1 ∧ a = []) ∨ (k = 2 ∧ n = 0 ∧ s.size ≤ 24 ∧ l.length ≤ 4 ∧ a = []) ∨ (3 ≤ k ∧ k ≤ 6 ∧ n = 0 ∧ s.size = 0 ∧ l = [] ∧ a.length = tmN k.toNat)) ∧
    (∀ b ∈ l, Lv.good 32 b ∧ b.parts ≤ 64) ∧ ∀ b ∈ a, Tm.good d b
mutual
def Tm.parts : Tm → Nat
  | .mk _ _ _ _ a => 1 + Tm.partss a
def Tm.partss : List Tm → Nat
  | [] => 0
  | a :: l => Tm.parts a + Tm.partss l
end
theorem levels_back (l : List Lv) (h : ∀ b ∈ l, Lv.good 32 b ∧ b.parts ≤ 64) (p : Nat) (r : List UInt8) : many rdLevelP l.length p (Lv.encs l ++ r) = .ok (l, r, p) := by
  have hz : ∀ l : List Lv, (fun _ : List Lv => 0) l = 0 := fun _ => rfl
  have := many_back (f := rdLevelP) (g := Lv.enc) (gs := Lv.encs) (c := fun _ => 0) (cs := fun _ => 0) rfl (fun _ _ => rfl) rfl (fun _ _ => rfl) (m := p) l p r (fun a ha p r _ => by
    unfold rdLevelP; rw [rdLevel_back a (h a ha).1 (h a ha).2]; rfl) (by omega)
  simpa using this
theorem rdTm_back : ∀ (d : Nat) (t : Tm), t.good d → ∀ (p : Nat) (r : List UInt8), p + t.parts ≤ 2000 → rdTm d p (t.enc ++ r) = .ok (t, r, p + t.parts)
  | 0, _, h, _, _, _ => h.elim
  | d + 1, .mk k n s l a, h, p, r, hp => by
    obtain ⟨hk, hl, ha⟩ := h
    simp only [Tm.parts] at hp ⊢
    simp only [rdTm, Tm.enc, List.append_assoc]
    rw [if_neg (by omega)]
    have hks : 0 ≤ k ∧ k ≤ 6 := by omega
    obtain ⟨kn, rfl⟩ : ∃ kn : Nat, k = kn := ⟨k.toNat, by omega⟩
    have hu : uv (kn : Int) = kn := uv_nat _ (by omega)
    rw [hu, rdKind_back 0 6 kn (by omega) (by omega) (by omega)]
    dsimp only
    rcases hk with ⟨h0, hn0, hn1, hs, rfl, rfl⟩ | ⟨h1, rfl, hs, hll, rfl⟩ | ⟨h2, rfl, hs, hll, rfl⟩ | ⟨h3, h6, rfl, hs, rfl, hal⟩
    · obtain ⟨nn, rfl⟩ : ∃ nn : Nat, n = nn := ⟨n.toNat, by omega⟩
      have hk0 : kn = 0 := by omega
      subst hk0
      have hs0 := ba_nil' hs
      subst hs0
      rw [if_pos rfl, if_pos h0, uv_nat nn (by omega), Lv.encs, Tm.encs, List.nil_append, List.nil_append, rdNum_back nn (by omega)]
      rfl
    · have hk1 : kn = 1 := by omega
      subst hk1
      have hs0 := ba_nil' hs
      subst hs0
      rw [if_neg (by omega), if_pos rfl, if_neg (by omega), if_neg (by omega), List.nil_append, Tm.encs, List.nil_append]
      have := levels_back l hl (p + 1) r
      rw [hll] at this
      rw [this]
      rfl
    · have hk2 : kn = 2 := by omega
      subst hk2
      rw [if_neg (by omega), if_neg (by omega), if_pos rfl, if_neg (by omega), if_pos h2, Tm.encs, List.nil_append, List.append_assoc, rdTxt_back 24 s hs (by omega)]
      dsimp only
      rw [rdNum_back _ (by omega)]
      dsimp only
      rw [if_neg (by omega), levels_back l hl (p + 1) r]
      dsimp only
      rw [ba_data]
      rfl
    · have hs0 := ba_nil' hs
      subst hs0
      rw [Int.toNat_natCast] at hal
      rw [if_neg (by omega), if_neg (by omega), if_neg (by omega), if_neg (by omega), if_neg (by omega), Lv.encs, List.nil_append, List.nil_append, ← hal, many_back (g := Tm.enc) (gs := Tm.encs) (c := Tm.parts) (cs := Tm.partss) rfl (fun _ _ => rfl) rfl (fun _ _ => rfl) (m := 2000) a (p + 1) r (fun b hm p r hp => rdTm_back d b (ha b hm) p r hp) (by omega)]
      dsimp only
      rw [show p + 1 + Tm.partss a = p + (1 + Tm.partss a) by omega]
theorem rdTerm_back (t : Tm) (h : t.good 100) (hp : t.parts ≤ 2000) (r : List UInt8) : rdTerm (t.enc ++ r) = .ok (t, r) := by
  unfold rdTerm
  rw [rdTm_back 100 t h 0 r (by omega)]
-- ---------------------------------------------------------------- more bytes behind
theorem tv_more : ∀ (bs : List UInt8) (i v k : Nat) (m : List UInt8), tv i bs = .ok (v, k) → tv i (bs ++ m) = .ok (v, k)
  | [], _, _, _, _, h => by simp [tv] at h
  | c :: cs, i, v, k, m, h => by
    simp only [tv, List.cons_append] at h ⊢
    split at h
    · cases h
    · rename_i h9
      rw [if_neg h9]
      split at h
      · rename_i h128
        rw [if_pos h128]
        split at h
        · rename_i v' k' h'
          rw [tv_more cs (i + 1) v' k' m h']
          exact h
        · cases h
      · rename_i h128
        rw [if_neg h128]
        split at h
        · cases h
        · rename_i hz; rw [if_neg hz]; exact h
theorem rdV_more {bs r : List UInt8} {v : Nat} (m : List UInt8) (h : rdV bs = .ok (v, r)) : rdV (bs ++ m) = .ok (v, r ++ m) := by
  unfold rdV at h ⊢; split at h
  · rename_i v' k h'
    injection h with h; injection h with h1 h2; subst h1 h2
    rw [tv_more _ _ _ _ m h']
    have := tv_pos _ _ _ _ h'
    dsimp only
    rw [List.drop_append_of_le_length this.2]
  · cases h
theorem rdKind_more {lo hi : Nat} {bs r : List UInt8} {v : Nat} (m : List UInt8) (h : rdKind lo hi bs = .ok (v, r)) : rdKind lo hi (bs ++ m) = .ok (v, r ++ m) := by
  unfold rdKind at h ⊢; split at h
  · rename_i v' r' h'
    rw [rdV_more m h']
    dsimp only
    split at h
    · cases h
    · rename_i hc; rw [if_neg hc]; injection h with h; injection h with h1 h2; subst h1 h2; rfl
  · cases h
theorem rdNum_more {bs r : List UInt8} {v : Nat} (m : List UInt8) (h : rdNum bs = .ok (v, r)) : rdNum (bs ++ m) = .ok (v, r ++ m) := by
  unfold rdNum at h ⊢; split at h
  · rename_i v' r' h'
    rw [rdV_more m h']
    dsimp only
    split at h
    · cases h
    · rename_i hc; rw [if_neg hc]; injection h with h; injection h with h1 h2; subst h1 h2; rfl
  · cases h
theorem rdTxt_more {mx : Nat} {bs r s : List UInt8} (m : List UInt8) (h : rdTxt mx bs = .ok (s, r)) : rdTxt mx (bs ++ m) = .ok (s, r ++ m) := by
  unfold rdTxt at h ⊢; split at h
  · rename_i v' r' h'
    rw [rdV_more m h']
    dsimp only
    split at h
    · cases h
    · rename_i hc
      rw [if_neg hc]
      split at h
      · cases h
      · rename_i hc2
        rw [if_neg (by rw [List.length_append]; omega)]
        injection h with h; injection h with h1 h2; subst h1 h2
        rw [List.take_append_of_le_length (by omega), List.drop_append_of_le_length (by omega)]
  · cases h
theorem many_more {α : Type} {f : Nat → List UInt8 → Except Int (α × List UInt8 × Nat)} (m : List UInt8) (hf : ∀ p bs a r q, f p bs = .ok (a, r, q) → f p (bs ++ m) = .ok (a, r ++ m, q)) : ∀ (n p : Nat) (bs : List UInt8) (l : List α) (r : List UInt8) (q : Nat), many f n p bs = .ok (l, r, q) → many f n p (bs ++ m) = .ok (l, r ++ m, q)
  | 0, p, bs, l, r, q, h => by simp only [many] at h ⊢; injection h with h; injection h with h1 h; injection h with h2 h3; subst h1 h2 h3; rfl
  | n + 1, p, bs, l, r, q, h => by
    simp only [many] at h ⊢
    split at h
    · cases h
    · rename_i a bs1 p1 ha
      rw [hf _ _ _ _ _ ha]
      dsimp only
      split at h
      · cases h
      · rename_i l' bs2 p2 h2
        rw [many_more m hf n p1 bs1 l' bs2 p2 h2]
        injection h with h; injection h with h3 h; injection h with h4 h5; subst h3 h4 h5; rfl
theorem rdLv_more (m : List UInt8) : ∀ (left p : Nat) (bs : List UInt8) (l : Lv) (r : List UInt8) (q : Nat), rdLv left p bs = .ok (l, r, q) → rdLv left p (bs ++ m) = .ok (l, r ++ m, q)
  | 0, p, bs, l, r, q, h => by simp only [rdLv] at h; split at h <;> cases h
  | left + 1, p, bs, l, r, q, h => by
    simp only [rdLv] at h ⊢
    split at h
    · cases h
    · rename_i hc
      rw [if_neg hc]
      split at h
      · cases h
      · rename_i k bs1 hk
        rw [rdKind_more m hk]
        dsimp only
        split at h
        · rename_i k4
          rw [if_pos k4]
          split at h
          · cases h
          · rename_i n bs2 hn
            rw [rdNum_more m hn]
            dsimp only
            split at h
            · cases h
            · rename_i hc2; rw [if_neg hc2]; injection h with h; injection h with h1 h; injection h with h2 h3; subst h1 h2 h3; rfl
        · rename_i k4
          rw [if_neg k4]
          split at h
          · cases h
          · rename_i l2 bs2 p2 hm
            rw [many_more m (fun p bs a r q h => rdLv_more m left p bs a r q h) _ _ _ _ _ _ hm]
            injection h with h; injection h with h1 h; injection h with h2 h3; subst h1 h2 h3; rfl
theorem rdLevel_more {bs r : List UInt8} {l : Lv} (m : List UInt8) (h : rdLevel bs = .ok (l, r)) : rdLevel (bs ++ m) = .ok (l, r ++ m) := by
  unfold rdLevel at h ⊢; split at h
  · rename_i l' r' q h'
    rw [rdLv_more m _ _ _ _ _ _ h']
    injection h with h; injection h with h1 h2; subst h1 h2; rfl
  · cases h
theorem rdLevelP_more (m : List UInt8) (p : Nat) (bs : List UInt8) (a : Lv) (r : List UInt8) (q : Nat) (h : rdLevelP p bs = .ok (a, r, q)) : rdLevelP p (bs ++ m) = .ok (a, r ++ m, q) := by
  unfold rdLevelP at h ⊢; split at h
  · rename_i l' r' h'
    rw [rdLevel_more m h']
    injection h with h; injection h with h1 h; injection h with h2 h3; subst h1 h2 h3; rfl
  · cases h
theorem rdTm_more (m : List UInt8) : ∀ (left p : Nat) (bs : List UInt8) (t : Tm) (r : List UInt8) (q : Nat), rdTm left p bs = .ok (t, r, q) → rdTm left p (bs ++ m) = .ok (t, r ++ m, q)
  | 0, p, bs, t, r, q, h => by simp only [rdTm] at h; split at h <;> cases h
  | left + 1, p, bs, t, r, q, h => by
    simp only [rdTm] at h ⊢
    split at h
    · cases h
    · rename_i hc
      rw [if_neg hc]
      split at h
      · cases h
      · rename_i k bs1 hk
        rw [rdKind_more m hk]
        dsimp only
        split at h
        · rename_i k0
          rw [if_pos k0]
          split at h
          · cases h
          · rename_i n bs2 hn
            rw [rdNum_more m hn]
            injection h with h; injection h with h1 h; injection h with h2 h3; subst h1 h2 h3; rfl
        · rename_i k0
          rw [if_neg k0]
          split at h
          · rename_i k1
            rw [if_pos k1]
            split at h
            · cases h
            · rename_i l2 bs2 p2 hm
              rw [many_more m (rdLevelP_more m) _ _ _ _ _ _ hm]
              injection h with h; injection h with h1 h; injection h with h2 h3; subst h1 h2 h3; rfl
          · rename_i k1
            rw [if_neg k1]
            split at h
            · rename_i k2
              rw [if_pos k2]
              split at h
              · cases h
              · rename_i s bs2 hs
                rw [rdTxt_more m hs]
                dsimp only
                split at h
                · cases h
                · rename_i n bs3 hn
                  rw [rdNum_more m hn]
                  dsimp only
                  split at h
                  · cases h
                  · rename_i hc2
                    rw [if_neg hc2]
                    split at h
                    · cases h
                    · rename_i l2 bs4 p2 hm
                      rw [many_more m (rdLevelP_more m) _ _ _ _ _ _ hm]
                      injection h with h; injection h with h1 h; injection h with h2 h3; subst h1 h2 h3; rfl
            · rename_i k2
              rw [if_neg k2]
              split at h
              · cases h
              · rename_i l2 bs2 p2 hm
                rw [many_more m (fun p bs a r q h => rdTm_more m left p bs a r q h) _ _ _ _ _ _ hm]
                injection h with h; injection h with h1 h; injection h with h2 h3; subst h1 h2 h3; rfl
theorem rdTerm_more {bs r : List UInt8} {t : Tm} (m : List UInt8) (h : rdTerm bs = .ok (t, r)) : rdTerm (bs ++ m) = .ok (t, r ++ m) := by
  unfold rdTerm at h ⊢; split at h
  · rename_i l' r' q h'
    rw [rdTm_more m _ _ _ _ _ _ h']
    injection h with h; injection h with h1 h2; subst h1 h2; rfl
  · cases h
end Go.Proofs.Ythncmjlcmlmnmaa

namespace Go.Proofs.Ythncmjlcmlmnmaa
open Go V
set_option maxRecDepth 100000
set_option maxHeartbeats 4000000
def p125_1 {ρ : Type} (fail : ρ) (fu : Nat)  (K0 : Int → Int → ρ) (rec1 : Int → EL → Int → Int → ρ)  (z1 : Int) (z2 : EL) (z3 : Int) (z4 : Int) : ρ :=
  bif (cmpStd .lss z4 z3) then (gd ((0 : Int) ≤ z4) fail (gd ((z4 : Int) < (z2.length : Nat)) fail (rw_u8 fail (List.getD z2 ((z4 : Int).toNat) []) (fun c5 => gd ((0 : Int) ≤ 8) fail (rec1 (binStd .or .u64 (binStd .shl .u64 z1 8) (IntKind.u64.wrap c5)) z2 z3 (binStd .add .i64 z4 1)))))) else (K0 z1 0)
def p125_1L {ρ : Type} (fail : ρ) (fu : Nat)  (K0 : Int → Int → ρ)   : Nat → Int → EL → Int → Int → ρ
  | 0, _, _, _, _ => fail
  | n + 1, z1, z2, z3, z4 => p125_1 fail fu  K0 (p125_1L fail fu  K0   n)  z1 z2 z3 z4
/-- octet.TakeEight -/
def p125 {ρ : Type} (fail : ρ) (fu : Nat)  (K0 : Int → Int → ρ) (x0 : EL) : ρ :=
  bif (cmpStd .lss ((x0.length : Nat) : Int) 8) then (K0 0 2) else (gd ((0 : Int) ≤ 0) fail (gd ((0 : Int) ≤ 8) fail (gd ((8 : Int) ≤ (x0.length : Nat)) fail (p125_1L fail fu  K0  fu 0 (List.drop ((0 : Int).toNat) (List.take ((8 : Int).toNat) x0)) (((List.drop ((0 : Int).toNat) (List.take ((8 : Int).toNat) x0)).length : Nat) : Int) 0))))
theorem d_p125 (fu : Nat)  {K0 : Int → Int → Prop} (L : EL → Nat) (hN : L = List.length) {x0 : EL} (h : p125 False fu K0 x0) : Den Try.prog G0 125 [.c (.sl 1 x0 none)] (fun r bs => (∃ (y0 : Int) (y1 : Int) (o0 : OV), (r = .tup [.c (.v (.int .u64 y0)), .c (.v (.int .i64 y1))] ∧ bs = [o0]) ∧ K0 y0 y1)) := by
  obtain ⟨O, hO⟩ : ∃ O, O = std 0 T G0 (Den Try.prog G0) := ⟨_, rfl⟩
  have hLO : L = O.len := by rw [hN, hO]; rfl
  subst hLO
  refine den_h hO tiA mixed tabOk (fn := Try.f125) (sh := true) (by kernel_rfl) rfl rfl rfl rfl ?_
  intro Q hQ
  unfold p125 at h
  conv => cbv
  refine br_h hO h (by subst hO; rfl) (fun hc1 h => ?_) (fun hc1 h => ?_)
  · conv => cbv
    rw [hQ]
    exact ⟨0, 2, _, ⟨(by subst hO; rfl), (by subst hO; rfl)⟩, h⟩
  · conv => cbv
    refine join_all hO ?_
    conv => cbv
    refine and_h h (fun g => (by subst hO; exact g)) (fun h => ?_)
    refine and_h h (fun g => (by subst hO; exact g)) (fun h => ?_)
    refine and_h h (fun g => (by subst hO; exact g)) (fun h => ?_)
    refine loop_of hO tiA [2, 10, 11, 12] [] [] (fun (n : Nat) tm m => ∃ (z1 : Int) (z2 : EL) (z3 : Int) (z4 : Int), ((tm = frame 0 23 [(2, .c (.v (.int .u64 z1))), (10, .c (.sl 1 z2 none)), (11, .c (.v (.int .i64 z3))), (12, .c (.v (.int .i64 z4)))] ∧ m = ⟨[], 1⟩)) ∧ p125_1L False fu  K0  n z1 z2 z3 z4) (fun n => n) fu ⟨0, List.drop ((0 : Int).toNat) (List.take ((8 : Int).toNat) x0), (((List.drop ((0 : Int).toNat) (List.take ((8 : Int).toNat) x0)).length : Nat) : Int), 0, ⟨(by (conv => lhs; cbv) <;> (subst hO; rfl)), (by (conv => lhs; cbv) <;> (subst hO; rfl))⟩, h⟩ ?_
    rintro n1 tm m L ⟨z1, z2, z3, z4, hs, h⟩ hLn1
    cases n1 with
    | zero => rw [p125_1L] at h; exact h.elim
    | succ n1 =>
      rw [p125_1L] at h
      unfold p125_1 at h
      obtain ⟨rfl, rfl⟩ := hs
      conv => cbv
      refine br_h hO h (by subst hO; rfl) (fun hc2 h => ?_) (fun hc2 h => ?_)
      · conv => cbv
        refine join_all hO ?_
        conv => cbv
        refine and_h h (fun g => (by subst hO; exact g)) (fun h => ?_)
        refine and_h h (fun g => (by subst hO; exact g)) (fun h => ?_)
        obtain ⟨c5, hr, h⟩ := rw_u8_inv h
        refine elem_of hO _ (by subst hO; exact hr) ?_
        clear hr
        conv => cbv
        refine and_h h (fun g => (by subst hO; exact g)) (fun h => ?_)
        exact hLn1 n1 _ _ (Nat.lt_succ_self n1) ⟨binStd .or .u64 (binStd .shl .u64 z1 8) (IntKind.u64.wrap c5), z2, z3, binStd .add .i64 z4 1, ⟨(by (conv => lhs; cbv) <;> (subst hO; rfl)), (by (conv => lhs; cbv) <;> (subst hO; rfl))⟩, h⟩
      · conv => cbv
        rw [hQ]
        exact ⟨z1, 0, _, ⟨(by subst hO; rfl), (by subst hO; rfl)⟩, h⟩
end Go.Proofs.Ythncmjlcmlmnmaa

namespace Go.Proofs.Ythncmjlcmlmnmaa
open Go V
set_option maxRecDepth 100000
set_option maxHeartbeats 4000000
/-- (*reply.reader).eight -/
def p92 {ρ : Type} (fail : ρ) (fu : Nat)  (K0 : Int → EL → Int → ρ) (x0 : EL) (x1 : Int) : ρ :=
  bif (cmpStd .neq x1 0) then (K0 0 x0 x1) else (p125 fail fu (fun y1 y2 => p94 fail fu (fun y3 y4 => bif (cmpStd .neq y2 0) then (K0 0 y3 y4) else (gd ((0 : Int) ≤ 8) fail (gd ((8 : Int) ≤ (y3.length : Nat)) fail (gd (((y3.length : Nat) : Int) ≤ (y3.length : Nat)) fail (K0 y1 (List.drop ((8 : Int).toNat) (List.take (((y3.length : Nat) : Int).toNat) y3)) y4))))) x0 x1 y2) x0)
theorem d_p92 (fu : Nat)  {K0 : Int → EL → Int → Prop} (L : EL → Nat) (hN : L = List.length) {x0 : EL} {x1 : Int} (h : p92 False fu K0 x0 x1) : Den Try.prog G0 92 [.ptr [.c (.sl 1 x0 none), .c (.v (.int .i64 x1))]] (fun r bs => (∃ (y0 : Int) (y1 : EL) (y2 : Int), (r = .c (.v (.int .u64 y0)) ∧ bs = [.ptr [.c (.sl 1 y1 none), .c (.v (.int .i64 y2))]]) ∧ K0 y0 y1 y2)) := by
  obtain ⟨O, hO⟩ : ∃ O, O = std 1 T G0 (Den Try.prog G0) := ⟨_, rfl⟩
  have hLO : L = O.len := by rw [hN, hO]; rfl
  subst hLO
  refine den_h hO tiA mixed tabOk (fn := Try.f92) (sh := true) (by kernel_rfl) rfl rfl rfl rfl ?_
  intro Q hQ
  unfold p92 at h
  conv => cbv
  refine br_h hO h (by subst hO; rfl) (fun hc1 h => ?_) (fun hc1 h => ?_)
  · conv => cbv
    rw [hQ]
    exact ⟨0, x0, x1, ⟨(by subst hO; rfl), (by subst hO; rfl)⟩, h⟩
  · conv => cbv
    refine join_all hO ?_
    conv => cbv
    refine call_h hO [.shut] (d_p125 fu O.len hN h) ?_
    intro os Q hos hQ
    conv => cbv
    refine ⟨(by (rw [hos]) <;> (subst hO; rfl)), ?_⟩
    intro r bs hq
    rw [hQ] at hq
    clear hos hQ h
    obtain ⟨y1, y2, _, ⟨rfl, rfl⟩, h⟩ := hq
    conv => cbv
    refine call_h hO [.ref 2, .shut] (d_p94 fu O.len hN h) ?_
    intro os Q hos hQ
    conv => cbv
    refine ⟨(by (rw [hos]) <;> (subst hO; rfl)), ?_⟩
    intro r bs hq
    rw [hQ] at hq
    clear hos hQ h
    obtain ⟨y3, y4, _, ⟨rfl, rfl⟩, h⟩ := hq
    conv => cbv
    refine br_h hO h (by subst hO; rfl) (fun hc2 h => ?_) (fun hc2 h => ?_)
    · conv => cbv
      rw [hQ]
      exact ⟨0, y3, y4, ⟨(by subst hO; rfl), (by subst hO; rfl)⟩, h⟩
    · conv => cbv
      refine join_all hO ?_
      conv => cbv
      refine and_h h (fun g => (by subst hO; exact g)) (fun h => ?_)
      refine and_h h (fun g => (by subst hO; exact g)) (fun h => ?_)
      refine and_h h (fun g => (by subst hO; exact g)) (fun h => ?_)
      rw [hQ]
      exact ⟨y1, List.drop ((8 : Int).toNat) (List.take (((y3.length : Nat) : Int).toNat) y3), y4, ⟨(by subst hO; rfl), (by subst hO; rfl)⟩, h⟩
end Go.Proofs.Ythncmjlcmlmnmaa

namespace Go.Proofs.Ythncmjlcmlmnmaa
open Go V
set_option maxRecDepth 100000
set_option maxHeartbeats 4000000
def p122b_1 {ρ : Type} (fail : ρ) (fu : Nat) (s_p122b : (Bool → ρ) → Int → Int → EL → Int → Int → EL → ρ) (s_p121 : (Bool → ρ) → EL → EL → ρ) (K0 : Bool → ρ)   (j1 : Bool) : ρ :=
  K0 j1
/-- level.Equal -/
def p122b_b {ρ : Type} (fail : ρ) (fu : Nat) (s_p122b : (Bool → ρ) → Int → Int → EL → Int → Int → EL → ρ) (s_p121 : (Bool → ρ) → EL → EL → ρ) (K0 : Bool → ρ) (x0 : Int) (x1 : Int) (x2 : EL) (x3 : Int) (x4 : Int) (x5 : EL) : ρ :=
  bif (cmpStd .eql x0 x3) then (bif (cmpStd .eql x1 x4) then (s_p121 (fun y2 => p122b_1 fail fu s_p122b s_p121 K0  y2) x2 x5) else (p122b_1 fail fu s_p122b s_p121 K0  false)) else (p122b_1 fail fu s_p122b s_p121 K0  false)
def p121_1 {ρ : Type} (fail : ρ) (fu : Nat) (s_p122b : (Bool → ρ) → Int → Int → EL → Int → Int → EL → ρ) (s_p121 : (Bool → ρ) → EL → EL → ρ) (K0 : Bool → ρ) (rec1 : Int → Int → ρ) (x0 : EL) (x1 : EL) (z1 : Int) (z2 : Int) : ρ :=
  bif (cmpStd .lss z2 z1) then (gd ((0 : Int) ≤ z2) fail (gd ((z2 : Int) < (x0.length : Nat)) fail (rw_i64_i64_l3 fail (List.getD x0 ((z2 : Int).toNat) []) (fun c3 c4 c5 => gd ((0 : Int) ≤ z2) fail (gd ((z2 : Int) < (x1.length : Nat)) fail (rw_i64_i64_l3 fail (List.getD x1 ((z2 : Int).toNat) []) (fun c6 c7 c8 => s_p122b (fun y9 => bif (!y9) then (K0 false) else (rec1 z1 (binStd .add .i64 z2 1))) c3 c4 c5 c6 c7 c8))))))) else (K0 true)
def p121_1L {ρ : Type} (fail : ρ) (fu : Nat) (s_p122b : (Bool → ρ) → Int → Int → EL → Int → Int → EL → ρ) (s_p121 : (Bool → ρ) → EL → EL → ρ) (K0 : Bool → ρ)  (x0 : EL) (x1 : EL) : Nat → Int → Int → ρ
  | 0, _, _ => fail
  | n + 1, z1, z2 => p121_1 fail fu s_p122b s_p121 K0 (p121_1L fail fu s_p122b s_p121 K0  x0 x1 n) x0 x1 z1 z2
/-- slices.EqualFunc[[]api.Level,[]api.Level,api.Level,api.Level] -/
def p121_b {ρ : Type} (fail : ρ) (fu : Nat) (s_p122b : (Bool → ρ) → Int → Int → EL → Int → Int → EL → ρ) (s_p121 : (Bool → ρ) → EL → EL → ρ) (K0 : Bool → ρ) (x0 : EL) (x1 : EL) : ρ :=
  bif (cmpStd .neq ((x0.length : Nat) : Int) ((x1.length : Nat) : Int)) then (K0 false) else (p121_1L fail fu s_p122b s_p121 K0 x0 x1 fu ((x0.length : Nat) : Int) 0)
mutual
def p122b {ρ : Type} (fail : ρ) : Nat → (Bool → ρ) → Int → Int → EL → Int → Int → EL → ρ
  | 0, _, _, _, _, _, _, _ => fail
  | n + 1, K0, x0, x1, x2, x3, x4, x5 => p122b_b fail n (p122b fail n) (p121 fail n) K0 x0 x1 x2 x3 x4 x5
def p121 {ρ : Type} (fail : ρ) : Nat → (Bool → ρ) → EL → EL → ρ
  | 0, _, _, _ => fail
  | n + 1, K0, x0, x1 => p121_b fail n (p122b fail n) (p121 fail n) K0 x0 x1
end
def D_p122b (fu : Nat) : Prop := ∀ {K0 : Bool → Prop} (L : EL → Nat) (_ : L = List.length) {x0 : Int} {x1 : Int} {x2 : EL} {x3 : Int} {x4 : Int} {x5 : EL} (_ : p122b False fu K0 x0 x1 x2 x3 x4 x5), Den Try.prog G0 122 [.agg [.c (.v (.int .i64 x0)), .c (.v (.int .i64 x1)), .c (.sl 3 x2 none)], .agg [.c (.v (.int .i64 x3)), .c (.v (.int .i64 x4)), .c (.sl 3 x5 none)]] (fun r bs => (∃ (y0 : Bool) (o0 : OV) (o1 : OV), (r = .c (.v (.bool y0)) ∧ bs = [o0, o1]) ∧ K0 y0))
def D_p121 (fu : Nat) : Prop := ∀ {K0 : Bool → Prop} (L : EL → Nat) (_ : L = List.length) {x0 : EL} {x1 : EL} (_ : p121 False fu K0 x0 x1), Den Try.prog G0 121 [.c (.sl 3 x0 none), .c (.sl 3 x1 none), .c (.v (.func (.func 122) #[] #[]))] (fun r bs => (∃ (y0 : Bool) (o0 : OV) (o1 : OV) (o2 : OV), (r = .c (.v (.bool y0)) ∧ bs = [o0, o1, o2]) ∧ K0 y0))
theorem b_p122b (fu : Nat) (ih_p122b : D_p122b fu) (ih_p121 : D_p121 fu) {K0 : Bool → Prop} (L : EL → Nat) (hN : L = List.length) {x0 : Int} {x1 : Int} {x2 : EL} {x3 : Int} {x4 : Int} {x5 : EL} (h : p122b_b False fu (p122b False fu) (p121 False fu) K0 x0 x1 x2 x3 x4 x5) : Den Try.prog G0 122 [.agg [.c (.v (.int .i64 x0)), .c (.v (.int .i64 x1)), .c (.sl 3 x2 none)], .agg [.c (.v (.int .i64 x3)), .c (.v (.int .i64 x4)), .c (.sl 3 x5 none)]] (fun r bs => (∃ (y0 : Bool) (o0 : OV) (o1 : OV), (r = .c (.v (.bool y0)) ∧ bs = [o0, o1]) ∧ K0 y0)) := by
  obtain ⟨O, hO⟩ : ∃ O, O = std 0 T G0 (Den Try.prog G0) := ⟨_, rfl⟩
  have hLO : L = O.len := by rw [hN, hO]; rfl
  subst hLO
  refine den_h hO tiA mixed tabOk (fn := Try.f122) (sh := true) (by kernel_rfl) rfl rfl rfl rfl ?_
  intro Q hQ
  unfold p122b_b at h
  conv => cbv
  refine reg_join hO tiA [4] [] [] (fun tm m => ∃ (j1 : Bool), ((tm = frame 0 24 [(4, .c (.v (.bool j1)))] ∧ m = ⟨[], 1⟩)) ∧ p122b_1 False fu (p122b False fu) (p121 False fu) K0  j1) (fun L hL_1 => ?_) ?_
  · conv => cbv
    refine br_h hO h (by subst hO; rfl) (fun hc1 h => ?_) (fun hc1 h => ?_)
    · conv => cbv
      refine br_t hO hc1 ?_
      conv => cbv
      refine br_t hO hc1 ?_
      conv => cbv
      refine br_t hO hc1 ?_
      conv => cbv
      refine br_t hO hc1 ?_
      conv => cbv
      refine br_t hO hc1 ?_
      conv => cbv
      refine br_h hO h (by subst hO; rfl) (fun hc2 h => ?_) (fun hc2 h => ?_)
      · conv => cbv
        refine br_t hO hc2 ?_
        conv => cbv
        refine br_t hO hc2 ?_
        conv => cbv
        refine br_t hO hc2 ?_
        conv => cbv
        refine br_t hO hc2 ?_
        conv => cbv
        refine call_h hO [.shut, .shut, .shut] (ih_p121 O.len hN h) ?_
        intro os Q hos hQ
        conv => cbv
        refine ⟨(by (rw [hos]) <;> (subst hO; rfl)), ?_⟩
        intro r bs hq
        rw [hQ] at hq
        clear hos hQ h
        obtain ⟨y2, _, _, _, ⟨rfl, rfl⟩, h⟩ := hq
        conv => cbv
        refine br_t hO hc2 ?_
        conv => cbv
        exact hL_1 _ _ ⟨y2, ⟨(by (conv => lhs; cbv) <;> (subst hO; rfl)), (by (conv => lhs; cbv) <;> (subst hO; rfl))⟩, h⟩
      · conv => cbv
        refine br_f hO hc2 ?_
        conv => cbv
        refine br_f hO hc2 ?_
        conv => cbv
        refine br_f hO hc2 ?_
        conv => cbv
        refine br_f hO hc2 ?_
        conv => cbv
        refine br_f hO hc2 ?_
        conv => cbv
        exact hL_1 _ _ ⟨false, ⟨(by (conv => lhs; cbv) <;> (subst hO; rfl)), (by (conv => lhs; cbv) <;> (subst hO; rfl))⟩, h⟩
    · conv => cbv
      refine br_f hO hc1 ?_
      conv => cbv
      refine br_f hO hc1 ?_
      conv => cbv
      refine br_f hO hc1 ?_
      conv => cbv
      refine br_f hO hc1 ?_
      conv => cbv
      refine br_f hO hc1 ?_
      conv => cbv
      refine br_f hO rfl ?_
      conv => cbv
      refine br_f hO rfl ?_
      conv => cbv
      refine br_f hO rfl ?_
      conv => cbv
      refine br_f hO rfl ?_
      conv => cbv
      refine br_f hO rfl ?_
      conv => cbv
      refine br_f hO rfl ?_
      conv => cbv
      exact hL_1 _ _ ⟨false, ⟨(by (conv => lhs; cbv) <;> (subst hO; rfl)), (by (conv => lhs; cbv) <;> (subst hO; rfl))⟩, h⟩
  · rintro tm m ⟨j1, hs, h⟩
    unfold p122b_1 at h
    obtain ⟨rfl, rfl⟩ := hs
    conv => cbv
    rw [hQ]
    exact ⟨j1, _, _, ⟨(by subst hO; rfl), (by subst hO; rfl)⟩, h⟩
theorem b_p121 (fu : Nat) (ih_p122b : D_p122b fu) (ih_p121 : D_p121 fu) {K0 : Bool → Prop} (L : EL → Nat) (hN : L = List.length) {x0 : EL} {x1 : EL} (h : p121_b False fu (p122b False fu) (p121 False fu) K0 x0 x1) : Den Try.prog G0 121 [.c (.sl 3 x0 none), .c (.sl 3 x1 none), .c (.v (.func (.func 122) #[] #[]))] (fun r bs => (∃ (y0 : Bool) (o0 : OV) (o1 : OV) (o2 : OV), (r = .c (.v (.bool y0)) ∧ bs = [o0, o1, o2]) ∧ K0 y0)) := by
  obtain ⟨O, hO⟩ : ∃ O, O = std 0 T G0 (Den Try.prog G0) := ⟨_, rfl⟩
  have hLO : L = O.len := by rw [hN, hO]; rfl
  subst hLO
  refine den_h hO tiA mixed tabOk (fn := Try.f121) (sh := true) (by kernel_rfl) rfl rfl rfl rfl ?_
  intro Q hQ
  unfold p121_b at h
  conv => cbv
  refine br_h hO h (by subst hO; rfl) (fun hc1 h => ?_) (fun hc1 h => ?_)
  · conv => cbv
    rw [hQ]
    exact ⟨false, _, _, _, ⟨(by subst hO; rfl), (by subst hO; rfl)⟩, h⟩
  · conv => cbv
    refine join_all hO ?_
    conv => cbv
    refine loop_of hO tiA [1, 2, 15, 16, 17] [] [] (fun (n : Nat) tm m => ∃ (z1 : Int) (z2 : Int), ((tm = frame 0 32 [(1, .c (.sl 3 x1 none)), (2, .c (.v (.func (.func 122) #[] #[]))), (15, .c (.sl 3 x0 none)), (16, .c (.v (.int .i64 z1))), (17, .c (.v (.int .i64 z2)))] ∧ m = ⟨[], 1⟩)) ∧ p121_1L False fu (p122b False fu) (p121 False fu) K0 x0 x1 n z1 z2) (fun n => n) fu ⟨((x0.length : Nat) : Int), 0, ⟨(by (conv => lhs; cbv) <;> (subst hO; rfl)), (by (conv => lhs; cbv) <;> (subst hO; rfl))⟩, h⟩ ?_
    rintro n1 tm m L ⟨z1, z2, hs, h⟩ hLn1
    cases n1 with
    | zero => rw [p121_1L] at h; exact h.elim
    | succ n1 =>
      rw [p121_1L] at h
      unfold p121_1 at h
      obtain ⟨rfl, rfl⟩ := hs
      conv => cbv
      refine br_h hO h (by subst hO; rfl) (fun hc2 h => ?_) (fun hc2 h => ?_)
      · conv => cbv
        refine join_all hO ?_
        conv => cbv
        refine and_h h (fun g => (by subst hO; exact g)) (fun h => ?_)
        refine and_h h (fun g => (by subst hO; exact g)) (fun h => ?_)
        obtain ⟨c3, c4, c5, hr, h⟩ := rw_i64_i64_l3_inv h
        refine elem_of hO _ (by subst hO; exact hr) ?_
        clear hr
        conv => cbv
        refine and_h h (fun g => (by subst hO; exact g)) (fun h => ?_)
        refine and_h h (fun g => (by subst hO; exact g)) (fun h => ?_)
        obtain ⟨c6, c7, c8, hr, h⟩ := rw_i64_i64_l3_inv h
        refine elem_of hO _ (by subst hO; exact hr) ?_
        clear hr
        conv => cbv
        refine call_h hO [.shut, .shut] (ih_p122b O.len hN h) ?_
        intro os Q hos hQ
        conv => cbv
        refine ⟨(by (rw [hos]) <;> (subst hO; rfl)), ?_⟩
        intro r bs hq
        rw [hQ] at hq
        clear hos hQ h
        obtain ⟨y9, _, _, ⟨rfl, rfl⟩, h⟩ := hq
        conv => cbv
        refine br_h hO h (by subst hO; rfl) (fun hc3 h => ?_) (fun hc3 h => ?_)
        · conv => cbv
          rw [hQ]
          exact ⟨false, _, _, _, ⟨(by subst hO; rfl), (by subst hO; rfl)⟩, h⟩
        · conv => cbv
          refine join_all hO ?_
          conv => cbv
          exact hLn1 n1 _ _ (Nat.lt_succ_self n1) ⟨z1, binStd .add .i64 z2 1, ⟨(by (conv => lhs; cbv) <;> (subst hO; rfl)), (by (conv => lhs; cbv) <;> (subst hO; rfl))⟩, h⟩
      · conv => cbv
        rw [hQ]
        exact ⟨true, _, _, _, ⟨(by subst hO; rfl), (by subst hO; rfl)⟩, h⟩
theorem dd_p122b (fu : Nat) : D_p122b fu ∧ D_p121 fu := by
  induction fu with
  | zero => exact ⟨(by unfold D_p122b; intros; rename_i h; rw [p122b] at h; exact h.elim), (by unfold D_p121; intros; rename_i h; rw [p121] at h; exact h.elim)⟩
  | succ n ih =>
    obtain ⟨i0, i1⟩ := ih
    exact ⟨(by unfold D_p122b; intro K0 L hN x0 x1 x2 x3 x4 x5 h; exact b_p122b n i0 i1 L hN (by rw [p122b] at h; exact h)), (by unfold D_p121; intro K0 L hN x0 x1 h; exact b_p121 n i0 i1 L hN (by rw [p121] at h; exact h))⟩
theorem d_p122b (fu : Nat) {K0 : Bool → Prop} (L : EL → Nat) (hL : L = List.length) {x0 : Int} {x1 : Int} {x2 : EL} {x3 : Int} {x4 : Int} {x5 : EL} (h : p122b False fu K0 x0 x1 x2 x3 x4 x5) : Den Try.prog G0 122 [.agg [.c (.v (.int .i64 x0)), .c (.v (.int .i64 x1)), .c (.sl 3 x2 none)], .agg [.c (.v (.int .i64 x3)), .c (.v (.int .i64 x4)), .c (.sl 3 x5 none)]] (fun r bs => (∃ (y0 : Bool) (o0 : OV) (o1 : OV), (r = .c (.v (.bool y0)) ∧ bs = [o0, o1]) ∧ K0 y0)) := (dd_p122b fu).1 L hL h
theorem d_p121 (fu : Nat) {K0 : Bool → Prop} (L : EL → Nat) (hL : L = List.length) {x0 : EL} {x1 : EL} (h : p121 False fu K0 x0 x1) : Den Try.prog G0 121 [.c (.sl 3 x0 none), .c (.sl 3 x1 none), .c (.v (.func (.func 122) #[] #[]))] (fun r bs => (∃ (y0 : Bool) (o0 : OV) (o1 : OV) (o2 : OV), (r = .c (.v (.bool y0)) ∧ bs = [o0, o1, o2]) ∧ K0 y0)) := (dd_p122b fu).2 L hL h
end Go.Proofs.Ythncmjlcmlmnmaa

namespace Go.Proofs.Ythncmjlcmlmnmaa
open Go V
set_option maxRecDepth 100000
set_option maxHeartbeats 4000000
def p123b_1 {ρ : Type} (fail : ρ) (fu : Nat) (s_p123b : (Bool → ρ) → EL → EL → ρ) (s_p86 : (Bool → ρ) → Int → Int → ByteArray → EL → EL → Int → Int → ByteArray → EL → EL → ρ) (K0 : Bool → ρ) (rec1 : Int → Int → ρ) (x0 : EL) (x1 : EL) (z1 : Int) (z2 : Int) : ρ :=
  bif (cmpStd .lss z2 z1) then (gd ((0 : Int) ≤ z2) fail (gd ((z2 : Int) < (x0.length : Nat)) fail (rw_i64_i64_s_l3_l5 fail (List.getD x0 ((z2 : Int).toNat) []) (fun c3 c4 c5 c6 c7 => gd ((0 : Int) ≤ z2) fail (gd ((z2 : Int) < (x1.length : Nat)) fail (rw_i64_i64_s_l3_l5 fail (List.getD x1 ((z2 : Int).toNat) []) (fun c8 c9 c10 c11 c12 => s_p86 (fun y13 => bif (!y13) then (K0 false) else (rec1 z1 (binStd .add .i64 z2 1))) c3 c4 c5 c6 c7 c8 c9 c10 c11 c12))))))) else (K0 true)
def p123b_1L {ρ : Type} (fail : ρ) (fu : Nat) (s_p123b : (Bool → ρ) → EL → EL → ρ) (s_p86 : (Bool → ρ) → Int → Int → ByteArray → EL → EL → Int → Int → ByteArray → EL → EL → ρ) (K0 : Bool → ρ)  (x0 : EL) (x1 : EL) : Nat → Int → Int → ρ
  | 0, _, _ => fail
  | n + 1, z1, z2 => p123b_1 fail fu s_p123b s_p86 K0 (p123b_1L fail fu s_p123b s_p86 K0  x0 x1 n) x0 x1 z1 z2
/-- slices.EqualFunc[[]api.Term,[]api.Term,api.Term,api.Term] -/
def p123b_b {ρ : Type} (fail : ρ) (fu : Nat) (s_p123b : (Bool → ρ) → EL → EL → ρ) (s_p86 : (Bool → ρ) → Int → Int → ByteArray → EL → EL → Int → Int → ByteArray → EL → EL → ρ) (K0 : Bool → ρ) (x0 : EL) (x1 : EL) : ρ :=
  bif (cmpStd .neq ((x0.length : Nat) : Int) ((x1.length : Nat) : Int)) then (K0 false) else (p123b_1L fail fu s_p123b s_p86 K0 x0 x1 fu ((x0.length : Nat) : Int) 0)
def p86_1 {ρ : Type} (fail : ρ) (fu : Nat) (s_p123b : (Bool → ρ) → EL → EL → ρ) (s_p86 : (Bool → ρ) → Int → Int → ByteArray → EL → EL → Int → Int → ByteArray → EL → EL → ρ) (K0 : Bool → ρ)   (j1 : Bool) : ρ :=
  K0 j1
/-- term.Equal -/
def p86_b {ρ : Type} (fail : ρ) (fu : Nat) (s_p123b : (Bool → ρ) → EL → EL → ρ) (s_p86 : (Bool → ρ) → Int → Int → ByteArray → EL → EL → Int → Int → ByteArray → EL → EL → ρ) (K0 : Bool → ρ) (x0 : Int) (x1 : Int) (x2 : ByteArray) (x3 : EL) (x4 : EL) (x5 : Int) (x6 : Int) (x7 : ByteArray) (x8 : EL) (x9 : EL) : ρ :=
  bif (cmpStd .eql x0 x5) then (bif (cmpStd .eql x1 x6) then (bif (scmpStd .eql x2 x7) then (p121 fail fu (fun y2 => bif y2 then (s_p123b (fun y3 => p86_1 fail fu s_p123b s_p86 K0  y3) x4 x9) else (p86_1 fail fu s_p123b s_p86 K0  false)) x3 x8) else (p86_1 fail fu s_p123b s_p86 K0  false)) else (p86_1 fail fu s_p123b s_p86 K0  false)) else (p86_1 fail fu s_p123b s_p86 K0  false)
mutual
def p123b {ρ : Type} (fail : ρ) : Nat → (Bool → ρ) → EL → EL → ρ
  | 0, _, _, _ => fail
  | n + 1, K0, x0, x1 => p123b_b fail n (p123b fail n) (p86 fail n) K0 x0 x1
def p86 {ρ : Type} (fail : ρ) : Nat → (Bool → ρ) → Int → Int → ByteArray → EL → EL → Int → Int → ByteArray → EL → EL → ρ
  | 0, _, _, _, _, _, _, _, _, _, _, _ => fail
  | n + 1, K0, x0, x1, x2, x3, x4, x5, x6, x7, x8, x9 => p86_b fail n (p123b fail n) (p86 fail n) K0 x0 x1 x2 x3 x4 x5 x6 x7 x8 x9
end
def D_p123b (fu : Nat) : Prop := ∀ {K0 : Bool → Prop} (L : EL → Nat) (_ : L = List.length) {x0 : EL} {x1 : EL} (_ : p123b False fu K0 x0 x1), Den Try.prog G0 123 [.c (.sl 5 x0 none), .c (.sl 5 x1 none), .c (.v (.func (.func 86) #[] #[]))] (fun r bs => (∃ (y0 : Bool) (o0 : OV) (o1 : OV) (o2 : OV), (r = .c (.v (.bool y0)) ∧ bs = [o0, o1, o2]) ∧ K0 y0))
def D_p86 (fu : Nat) : Prop := ∀ {K0 : Bool → Prop} (L : EL → Nat) (_ : L = List.length) {x0 : Int} {x1 : Int} {x2 : ByteArray} {x3 : EL} {x4 : EL} {x5 : Int} {x6 : Int} {x7 : ByteArray} {x8 : EL} {x9 : EL} (_ : p86 False fu K0 x0 x1 x2 x3 x4 x5 x6 x7 x8 x9), Den Try.prog G0 86 [.agg [.c (.v (.int .i64 x0)), .c (.v (.int .i64 x1)), .c (.v (.string x2)), .c (.sl 3 x3 none), .c (.sl 5 x4 none)], .agg [.c (.v (.int .i64 x5)), .c (.v (.int .i64 x6)), .c (.v (.string x7)), .c (.sl 3 x8 none), .c (.sl 5 x9 none)]] (fun r bs => (∃ (y0 : Bool) (o0 : OV) (o1 : OV), (r = .c (.v (.bool y0)) ∧ bs = [o0, o1]) ∧ K0 y0))
theorem b_p123b (fu : Nat) (ih_p123b : D_p123b fu) (ih_p86 : D_p86 fu) {K0 : Bool → Prop} (L : EL → Nat) (hN : L = List.length) {x0 : EL} {x1 : EL} (h : p123b_b False fu (p123b False fu) (p86 False fu) K0 x0 x1) : Den Try.prog G0 123 [.c (.sl 5 x0 none), .c (.sl 5 x1 none), .c (.v (.func (.func 86) #[] #[]))] (fun r bs => (∃ (y0 : Bool) (o0 : OV) (o1 : OV) (o2 : OV), (r = .c (.v (.bool y0)) ∧ bs = [o0, o1, o2]) ∧ K0 y0)) := by
  obtain ⟨O, hO⟩ : ∃ O, O = std 0 T G0 (Den Try.prog G0) := ⟨_, rfl⟩
  have hLO : L = O.len := by rw [hN, hO]; rfl
  subst hLO
  refine den_h hO tiA mixed tabOk (fn := Try.f123) (sh := true) (by kernel_rfl) rfl rfl rfl rfl ?_
  intro Q hQ
  unfold p123b_b at h
  conv => cbv
  refine br_h hO h (by subst hO; rfl) (fun hc1 h => ?_) (fun hc1 h => ?_)
  · conv => cbv
    rw [hQ]
    exact ⟨false, _, _, _, ⟨(by subst hO; rfl), (by subst hO; rfl)⟩, h⟩
  · conv => cbv
    refine join_all hO ?_
    conv => cbv
    refine loop_of hO tiA [1, 2, 15, 16, 17] [] [] (fun (n : Nat) tm m => ∃ (z1 : Int) (z2 : Int), ((tm = frame 0 32 [(1, .c (.sl 5 x1 none)), (2, .c (.v (.func (.func 86) #[] #[]))), (15, .c (.sl 5 x0 none)), (16, .c (.v (.int .i64 z1))), (17, .c (.v (.int .i64 z2)))] ∧ m = ⟨[], 1⟩)) ∧ p123b_1L False fu (p123b False fu) (p86 False fu) K0 x0 x1 n z1 z2) (fun n => n) fu ⟨((x0.length : Nat) : Int), 0, ⟨(by (conv => lhs; cbv) <;> (subst hO; rfl)), (by (conv => lhs; cbv) <;> (subst hO; rfl))⟩, h⟩ ?_
    rintro n1 tm m L ⟨z1, z2, hs, h⟩ hLn1
    cases n1 with
    | zero => rw [p123b_1L] at h; exact h.elim
    | succ n1 =>
      rw [p123b_1L] at h
      unfold p123b_1 at h
      obtain ⟨rfl, rfl⟩ := hs
      conv => cbv
      refine br_h hO h (by subst hO; rfl) (fun hc2 h => ?_) (fun hc2 h => ?_)
      · conv => cbv
        refine join_all hO ?_
        conv => cbv
        refine and_h h (fun g => (by subst hO; exact g)) (fun h => ?_)
        refine and_h h (fun g => (by subst hO; exact g)) (fun h => ?_)
        obtain ⟨c3, c4, c5, c6, c7, hr, h⟩ := rw_i64_i64_s_l3_l5_inv h
        refine elem_of hO _ (by subst hO; exact hr) ?_
        clear hr
        conv => cbv
        refine and_h h (fun g => (by subst hO; exact g)) (fun h => ?_)
        refine and_h h (fun g => (by subst hO; exact g)) (fun h => ?_)
        obtain ⟨c8, c9, c10, c11, c12, hr, h⟩ := rw_i64_i64_s_l3_l5_inv h
        refine elem_of hO _ (by subst hO; exact hr) ?_
        clear hr
        conv => cbv
        refine call_h hO [.shut, .shut] (ih_p86 O.len hN h) ?_
        intro os Q hos hQ
        conv => cbv
        refine ⟨(by (rw [hos]) <;> (subst hO; rfl)), ?_⟩
        intro r bs hq
        rw [hQ] at hq
        clear hos hQ h
        obtain ⟨y13, _, _, ⟨rfl, rfl⟩, h⟩ := hq
        conv => cbv
        refine br_h hO h (by subst hO; rfl) (fun hc3 h => ?_) (fun hc3 h => ?_)
        · conv => cbv
          rw [hQ]
          exact ⟨false, _, _, _, ⟨(by subst hO; rfl), (by subst hO; rfl)⟩, h⟩
        · conv => cbv
          refine join_all hO ?_
          conv => cbv
          exact hLn1 n1 _ _ (Nat.lt_succ_self n1) ⟨z1, binStd .add .i64 z2 1, ⟨(by (conv => lhs; cbv) <;> (subst hO; rfl)), (by (conv => lhs; cbv) <;> (subst hO; rfl))⟩, h⟩
      · conv => cbv
        rw [hQ]
        exact ⟨true, _, _, _, ⟨(by subst hO; rfl), (by subst hO; rfl)⟩, h⟩
theorem b_p86 (fu : Nat) (ih_p123b : D_p123b fu) (ih_p86 : D_p86 fu) {K0 : Bool → Prop} (L : EL → Nat) (hN : L = List.length) {x0 : Int} {x1 : Int} {x2 : ByteArray} {x3 : EL} {x4 : EL} {x5 : Int} {x6 : Int} {x7 : ByteArray} {x8 : EL} {x9 : EL} (h : p86_b False fu (p123b False fu) (p86 False fu) K0 x0 x1 x2 x3 x4 x5 x6 x7 x8 x9) : Den Try.prog G0 86 [.agg [.c (.v (.int .i64 x0)), .c (.v (.int .i64 x1)), .c (.v (.string x2)), .c (.sl 3 x3 none), .c (.sl 5 x4 none)], .agg [.c (.v (.int .i64 x5)), .c (.v (.int .i64 x6)), .c (.v (.string x7)), .c (.sl 3 x8 none), .c (.sl 5 x9 none)]] (fun r bs => (∃ (y0 : Bool) (o0 : OV) (o1 : OV), (r = .c (.v (.bool y0)) ∧ bs = [o0, o1]) ∧ K0 y0)) := by
  obtain ⟨O, hO⟩ : ∃ O, O = std 0 T G0 (Den Try.prog G0) := ⟨_, rfl⟩
  have hLO : L = O.len := by rw [hN, hO]; rfl
  subst hLO
  refine den_h hO tiA mixed tabOk (fn := Try.f86) (sh := true) (by kernel_rfl) rfl rfl rfl rfl ?_
  intro Q hQ
  unfold p86_b at h
  conv => cbv
  refine reg_join hO tiA [4] [] [] (fun tm m => ∃ (j1 : Bool), ((tm = frame 0 38 [(4, .c (.v (.bool j1)))] ∧ m = ⟨[], 1⟩)) ∧ p86_1 False fu (p123b False fu) (p86 False fu) K0  j1) (fun L hL_1 => ?_) ?_
  · conv => cbv
    refine br_h hO h (by subst hO; rfl) (fun hc1 h => ?_) (fun hc1 h => ?_)
    · conv => cbv
      refine br_t hO hc1 ?_
      conv => cbv
      refine br_t hO hc1 ?_
      conv => cbv
      refine br_t hO hc1 ?_
      conv => cbv
      refine br_t hO hc1 ?_
      conv => cbv
      refine br_t hO hc1 ?_
      conv => cbv
      refine br_h hO h (by subst hO; rfl) (fun hc2 h => ?_) (fun hc2 h => ?_)
      · conv => cbv
        refine br_t hO hc2 ?_
        conv => cbv
        refine br_t hO hc2 ?_
        conv => cbv
        refine br_t hO hc2 ?_
        conv => cbv
        refine br_t hO hc2 ?_
        conv => cbv
        refine br_t hO hc2 ?_
        conv => cbv
        refine br_h hO h (by subst hO; rfl) (fun hc3 h => ?_) (fun hc3 h => ?_)
        · conv => cbv
          refine br_t hO hc3 ?_
          conv => cbv
          refine br_t hO hc3 ?_
          conv => cbv
          refine br_t hO hc3 ?_
          conv => cbv
          refine br_t hO hc3 ?_
          conv => cbv
          refine call_h hO [.shut, .shut, .shut] (d_p121 fu O.len hN h) ?_
          intro os Q hos hQ
          conv => cbv
          refine ⟨(by (rw [hos]) <;> (subst hO; rfl)), ?_⟩
          intro r bs hq
          rw [hQ] at hq
          clear hos hQ h
          obtain ⟨y2, _, _, _, ⟨rfl, rfl⟩, h⟩ := hq
          conv => cbv
          refine br_t hO hc3 ?_
          conv => cbv
          refine br_h hO h (by subst hO; rfl) (fun hc4 h => ?_) (fun hc4 h => ?_)
          · conv => cbv
            refine br_t hO hc4 ?_
            conv => cbv
            refine br_t hO hc4 ?_
            conv => cbv
            refine br_t hO hc4 ?_
            conv => cbv
            refine br_t hO hc4 ?_
            conv => cbv
            refine call_h hO [.shut, .shut, .shut] (ih_p123b O.len hN h) ?_
            intro os Q hos hQ
            conv => cbv
            refine ⟨(by (rw [hos]) <;> (subst hO; rfl)), ?_⟩
            intro r bs hq
            rw [hQ] at hq
            clear hos hQ h
            obtain ⟨y3, _, _, _, ⟨rfl, rfl⟩, h⟩ := hq
            conv => cbv
            refine br_t hO hc4 ?_
            conv => cbv
            exact hL_1 _ _ ⟨y3, ⟨(by (conv => lhs; cbv) <;> (subst hO; rfl)), (by (conv => lhs; cbv) <;> (subst hO; rfl))⟩, h⟩
          · conv => cbv
            refine br_f hO hc4 ?_
            conv => cbv
            refine br_f hO hc4 ?_
            conv => cbv
            refine br_f hO hc4 ?_
            conv => cbv
            refine br_f hO hc4 ?_
            conv => cbv
            refine br_f hO hc4 ?_
            conv => cbv
            exact hL_1 _ _ ⟨false, ⟨(by (conv => lhs; cbv) <;> (subst hO; rfl)), (by (conv => lhs; cbv) <;> (subst hO; rfl))⟩, h⟩
        · conv => cbv
          refine br_f hO hc3 ?_
          conv => cbv
          refine br_f hO hc3 ?_
          conv => cbv
          refine br_f hO hc3 ?_
          conv => cbv
          refine br_f hO hc3 ?_
          conv => cbv
          refine br_f hO hc3 ?_
          conv => cbv
          refine br_f hO rfl ?_
          conv => cbv
          refine br_f hO rfl ?_
          conv => cbv
          refine br_f hO rfl ?_
          conv => cbv
          refine br_f hO rfl ?_
          conv => cbv
          refine br_f hO rfl ?_
          conv => cbv
          refine br_f hO rfl ?_
          conv => cbv
          exact hL_1 _ _ ⟨false, ⟨(by (conv => lhs; cbv) <;> (subst hO; rfl)), (by (conv => lhs; cbv) <;> (subst hO; rfl))⟩, h⟩
      · conv => cbv
        refine br_f hO hc2 ?_
        conv => cbv
        refine br_f hO hc2 ?_
        conv => cbv
        refine br_f hO hc2 ?_
        conv => cbv
        refine br_f hO hc2 ?_
        conv => cbv
        refine br_f hO hc2 ?_
        conv => cbv
        refine br_f hO rfl ?_
        conv => cbv
        refine br_f hO rfl ?_
        conv => cbv
        refine br_f hO rfl ?_
        conv => cbv
        refine br_f hO rfl ?_
        conv => cbv
        refine br_f hO rfl ?_
        conv => cbv
        refine br_f hO rfl ?_
        conv => cbv
        refine br_f hO rfl ?_
        conv => cbv
        refine br_f hO rfl ?_
        conv => cbv
        refine br_f hO rfl ?_
        conv => cbv
        refine br_f hO rfl ?_
        conv => cbv
        refine br_f hO rfl ?_
        conv => cbv
        refine br_f hO rfl ?_
        conv => cbv
        exact hL_1 _ _ ⟨false, ⟨(by (conv => lhs; cbv) <;> (subst hO; rfl)), (by (conv => lhs; cbv) <;> (subst hO; rfl))⟩, h⟩
    · conv => cbv
      refine br_f hO hc1 ?_
      conv => cbv
      refine br_f hO hc1 ?_
      conv => cbv
      refine br_f hO hc1 ?_
      conv => cbv
      refine br_f hO hc1 ?_
      conv => cbv
      refine br_f hO hc1 ?_
      conv => cbv
      refine br_f hO rfl ?_
      conv => cbv
      refine br_f hO rfl ?_
      conv => cbv
      refine br_f hO rfl ?_
      conv => cbv
      refine br_f hO rfl ?_
      conv => cbv
      refine br_f hO rfl ?_
      conv => cbv
      refine br_f hO rfl ?_
      conv => cbv
      refine br_f hO rfl ?_
      conv => cbv
      refine br_f hO rfl ?_
      conv => cbv
      refine br_f hO rfl ?_
      conv => cbv
      refine br_f hO rfl ?_
      conv => cbv
      refine br_f hO rfl ?_
      conv => cbv
      refine br_f hO rfl ?_
      conv => cbv
      refine br_f hO rfl ?_
      conv => cbv
      refine br_f hO rfl ?_
      conv => cbv
      refine br_f hO rfl ?_
      conv => cbv
      refine br_f hO rfl ?_
      conv => cbv
      refine br_f hO rfl ?_
      conv => cbv
      refine br_f hO rfl ?_
      conv => cbv
      exact hL_1 _ _ ⟨false, ⟨(by (conv => lhs; cbv) <;> (subst hO; rfl)), (by (conv => lhs; cbv) <;> (subst hO; rfl))⟩, h⟩
  · rintro tm m ⟨j1, hs, h⟩
    unfold p86_1 at h
    obtain ⟨rfl, rfl⟩ := hs
    conv => cbv
    rw [hQ]
    exact ⟨j1, _, _, ⟨(by subst hO; rfl), (by subst hO; rfl)⟩, h⟩
theorem dd_p123b (fu : Nat) : D_p123b fu ∧ D_p86 fu := by
  induction fu with
  | zero => exact ⟨(by unfold D_p123b; intros; rename_i h; rw [p123b] at h; exact h.elim), (by unfold D_p86; intros; rename_i h; rw [p86] at h; exact h.elim)⟩
  | succ n ih =>
    obtain ⟨i0, i1⟩ := ih
    exact ⟨(by unfold D_p123b; intro K0 L hN x0 x1 h; exact b_p123b n i0 i1 L hN (by rw [p123b] at h; exact h)), (by unfold D_p86; intro K0 L hN x0 x1 x2 x3 x4 x5 x6 x7 x8 x9 h; exact b_p86 n i0 i1 L hN (by rw [p86] at h; exact h))⟩
theorem d_p123b (fu : Nat) {K0 : Bool → Prop} (L : EL → Nat) (hL : L = List.length) {x0 : EL} {x1 : EL} (h : p123b False fu K0 x0 x1) : Den Try.prog G0 123 [.c (.sl 5 x0 none), .c (.sl 5 x1 none), .c (.v (.func (.func 86) #[] #[]))] (fun r bs => (∃ (y0 : Bool) (o0 : OV) (o1 : OV) (o2 : OV), (r = .c (.v (.bool y0)) ∧ bs = [o0, o1, o2]) ∧ K0 y0)) := (dd_p123b fu).1 L hL h
theorem d_p86 (fu : Nat) {K0 : Bool → Prop} (L : EL → Nat) (hL : L = List.length) {x0 : Int} {x1 : Int} {x2 : ByteArray} {x3 : EL} {x4 : EL} {x5 : Int} {x6 : Int} {x7 : ByteArray} {x8 : EL} {x9 : EL} (h : p86 False fu K0 x0 x1 x2 x3 x4 x5 x6 x7 x8 x9) : Den Try.prog G0 86 [.agg [.c (.v (.int .i64 x0)), .c (.v (.int .i64 x1)), .c (.v (.string x2)), .c (.sl 3 x3 none), .c (.sl 5 x4 none)], .agg [.c (.v (.int .i64 x5)), .c (.v (.int .i64 x6)), .c (.v (.string x7)), .c (.sl 3 x8 none), .c (.sl 5 x9 none)]] (fun r bs => (∃ (y0 : Bool) (o0 : OV) (o1 : OV), (r = .c (.v (.bool y0)) ∧ bs = [o0, o1]) ∧ K0 y0)) := (dd_p123b fu).2 L hL h
end Go.Proofs.Ythncmjlcmlmnmaa
