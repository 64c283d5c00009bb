/- How the program reads a whole declaration. Conditions: none. -/
import Derived.Test.YthncmjlcmlmnmaaCR19
import Derived.Test.YthncmjlcmlmnmaaCR9
import Derived.Test.YthncmjlcmlmnmaaCR10
import Derived.Test.YthncmjlcmlmnmaaCR11
import Derived.ProofKit
import Derived.WalkKit
import Derived.LoopTactic
import Derived.Lib.Hide
import Derived.KernelRfl
namespace Go.Proofs.Ythncmjlcmlmnmaa
open Go V
set_option maxRecDepth 100000
set_option maxHeartbeats 2000000
section
variable {ρ : Type} (fail : ρ) (fu : Nat)
def q6 (K0 : DK ρ) (y1 y4 y7 : Int) (s13 s17 : ByteArray) (B : EL) (e : Int) : ρ := bif (cmpStd .eql e 0) then (p65 fail fu (fun y77 y78 y79 y80 y81 y82 y83 => p76_8 fail fu K0 y1 y4 y7 s13 s17 y82 y83 y77 y78 y79 y80 y81) B e) else (p76_8 fail fu K0 y1 y4 y7 s13 s17 B e 0 0 ⟨#[]⟩ nilE nilE)
def q5 (K0 : DK ρ) (y1 y4 y7 : Int) (s13 : ByteArray) (B : EL) (e : Int) : ρ := p95 fail fu (fun y14 y15 y16 => tobP fail y14 (fun s17 => q6 fail fu K0 y1 y4 y7 s13 s17 y15 y16)) B e 24
def q4 (K0 : DK ρ) (y1 y4 y7 : Int) (B : EL) (e : Int) : ρ := p95 fail fu (fun y10 y11 y12 => tobP fail y10 (fun s13 => q5 fail fu K0 y1 y4 y7 s13 y11 y12)) B e 24
def q3 (K0 : DK ρ) (y1 y4 : Int) (B : EL) (e : Int) : ρ := p91 fail fu (fun y7 y8 y9 => q4 fail fu K0 y1 y4 y7 y8 y9) B e
def q2 (K0 : DK ρ) (y1 : Int) (B : EL) (e : Int) : ρ := p91 fail fu (fun y4 y5 y6 => q3 fail fu K0 y1 y4 y5 y6) B e
theorem decl_q (K0 : DK ρ) (B : EL) (e : Int) : p76 fail fu K0 B e = p93 fail fu (fun y1 y2 y3 => q2 fail fu K0 y1 y2 y3) B e 1 5 := rfl
variable (hfu : 200 ≤ fu)
include hfu
section
variable (K : DK ρ) (B : EL) (e : Int) (he : e ≠ 0)
include he
theorem dead6 (y1 y4 y7 : Int) (s13 s17 : ByteArray) : q6 fail fu K y1 y4 y7 s13 s17 B e = K y1 y4 y7 s13 s17 0 0 ⟨#[]⟩ nilE nilE 0 0 ⟨#[]⟩ nilE nilE nilE B e := by
  rw [q6, eqlF he, cond_false, dead8 fail fu hfu _ _ _ _ _ _ _ _ _ _ B e he]
theorem dead5 (y1 y4 y7 : Int) (s13 : ByteArray) : q5 fail fu K y1 y4 y7 s13 B e = K y1 y4 y7 s13 ⟨#[]⟩ 0 0 ⟨#[]⟩ nilE nilE 0 0 ⟨#[]⟩ nilE nilE nilE B e := by
  rw [q5, textE _ _ _ _ _ he, show (nilE : EL) = encB [] from rfl, tobP_enc]; exact dead6 fail fu hfu K B e he _ _ _ _ _
theorem deadq4 (y1 y4 y7 : Int) : q4 fail fu K y1 y4 y7 B e = K y1 y4 y7 ⟨#[]⟩ ⟨#[]⟩ 0 0 ⟨#[]⟩ nilE nilE 0 0 ⟨#[]⟩ nilE nilE nilE B e := by
  rw [q4, textE _ _ _ _ _ he, show (nilE : EL) = encB [] from rfl, tobP_enc]; exact dead5 fail fu hfu K B e he _ _ _ _
theorem dead3 (y1 y4 : Int) : q3 fail fu K y1 y4 B e = K y1 y4 0 ⟨#[]⟩ ⟨#[]⟩ 0 0 ⟨#[]⟩ nilE nilE 0 0 ⟨#[]⟩ nilE nilE nilE B e := by
  rw [q3, numE _ _ _ _ _ he]; exact deadq4 fail fu hfu K B e he _ _ _
theorem dead2 (y1 : Int) : q2 fail fu K y1 B e = K y1 0 0 ⟨#[]⟩ ⟨#[]⟩ 0 0 ⟨#[]⟩ nilE nilE 0 0 ⟨#[]⟩ nilE nilE nilE B e := by
  rw [q2, numE _ _ _ _ _ he]; exact dead3 fail fu hfu K B e he _ _
end
variable (k : Nat) (hk : k ≤ 5) (bs : List UInt8) (hb : bs.length ≤ 1099511627776)
include hk hb
theorem q6_rd (y4 y7 : Int) (s13 s17 : ByteArray) : match rdD6 k bs with
    | .ok (ty, val, l, bs') => ∀ K : DK ρ, q6 fail fu K (k : Nat) y4 y7 s13 s17 (encB bs) 0 = K (k : Nat) y4 y7 s13 s17 ty.k ty.n ty.nm (Lv.rows ty.ls) (Tm.rows ty.args) val.k val.n val.nm (Lv.rows val.ls) (Tm.rows val.args) (l.map ctRow) (encB bs') 0
    | .error e => DErr (fun K => q6 fail fu K (k : Nat) y4 y7 s13 s17 (encB bs) 0) e := by
  have htm := Term_rd (ρ := ρ) fail fu (by omega) bs hb
  have h1 : ∀ K : DK ρ, q6 fail fu K (k : Nat) y4 y7 s13 s17 (encB bs) 0 = p65 fail fu (fun y77 y78 y79 y80 y81 y82 y83 => p76_8 fail fu K (k : Nat) y4 y7 s13 s17 y82 y83 y77 y78 y79 y80 y81) (encB bs) 0 := fun K => by rw [q6, eqlT rfl, cond_true]
  unfold rdD6
  cases htt : rdTerm bs with
  | error e =>
    rw [htt] at htm
    obtain ⟨he, a, b, c, l, g, B, hB⟩ := htm
    dsimp only at hB
    exact DErr.of he fun K => (h1 K).trans ((hB _).trans (dead8 fail fu hfu _ _ _ _ _ _ _ _ _ _ B e he K))
  | ok x =>
    obtain ⟨t, bs2⟩ := x
    have hsub := rdTerm_sub htt
    rw [htt] at htm
    simp only [TmO2] at htm
    have ht := tail_rd (ρ := ρ) fail fu hfu (k : Nat) y4 y7 s13 s17 t.k t.n t.nm (Lv.rows t.ls) (Tm.rows t.args) k hk rfl bs2 (by omega)
    have h2 : ∀ K : DK ρ, q6 fail fu K (k : Nat) y4 y7 s13 s17 (encB bs) 0 = _ := fun K => (h1 K).trans (htm _)
    dsimp only
    cases hcc : rdTail k bs2 with
    | error e => rw [hcc] at ht; exact DErr.eq ht h2
    | ok x => obtain ⟨v, l, bs3⟩ := x; rw [hcc] at ht; intro K; exact (h2 K).trans (ht K)
theorem q5_rd (y4 y7 : Int) (s13 : ByteArray) : match rdD5 k bs with
    | .ok (s17, ty, val, l, bs') => ∀ K : DK ρ, q5 fail fu K (k : Nat) y4 y7 s13 (encB bs) 0 = K (k : Nat) y4 y7 s13 s17 ty.k ty.n ty.nm (Lv.rows ty.ls) (Tm.rows ty.args) val.k val.n val.nm (Lv.rows val.ls) (Tm.rows val.args) (l.map ctRow) (encB bs') 0
    | .error e => DErr (fun K => q5 fail fu K (k : Nat) y4 y7 s13 (encB bs) 0) e := by
  have htx := text_eq (ρ := ρ) fail fu (by omega) bs hb 24 (by omega)
  unfold rdD5
  cases htt : rdTxt 24 bs with
  | error e =>
    rw [htt] at htx
    obtain ⟨he, B, hB⟩ := htx
    dsimp only at hB
    exact DErr.of he fun K => (hB _).trans ((tobP_enc fail [] _).trans (dead6 fail fu hfu K B e he _ _ _ _ _))
  | ok x =>
    obtain ⟨s, bs2⟩ := x
    have hsub := rdTxt_ok htt
    rw [htt] at htx
    simp only [SOut] at htx
    have h2 : ∀ K : DK ρ, q5 fail fu K (k : Nat) y4 y7 s13 (encB bs) 0 = q6 fail fu K (k : Nat) y4 y7 s13 ⟨s.toArray⟩ (encB bs2) 0 := fun K => (htx _).trans (tobP_enc fail s _)
    have ht := q6_rd (ρ := ρ) fail fu hfu k hk bs2 (by omega) y4 y7 s13 ⟨s.toArray⟩
    dsimp only
    cases hcc : rdD6 k bs2 with
    | error e => rw [hcc] at ht; exact DErr.eq ht h2
    | ok x => obtain ⟨t, v, l, bs3⟩ := x; rw [hcc] at ht; intro K; exact (h2 K).trans (ht K)
theorem q4_rd (y4 y7 : Int) : match rdD4 k bs with
    | .ok (s13, s17, ty, val, l, bs') => ∀ K : DK ρ, q4 fail fu K (k : Nat) y4 y7 (encB bs) 0 = K (k : Nat) y4 y7 s13 s17 ty.k ty.n ty.nm (Lv.rows ty.ls) (Tm.rows ty.args) val.k val.n val.nm (Lv.rows val.ls) (Tm.rows val.args) (l.map ctRow) (encB bs') 0
    | .error e => DErr (fun K => q4 fail fu K (k : Nat) y4 y7 (encB bs) 0) e := by
  have htx := text_eq (ρ := ρ) fail fu (by omega) bs hb 24 (by omega)
  unfold rdD4
  cases htt : rdTxt 24 bs with
  | error e =>
    rw [htt] at htx
    obtain ⟨he, B, hB⟩ := htx
    dsimp only at hB
    exact DErr.of he fun K => (hB _).trans ((tobP_enc fail [] _).trans (dead5 fail fu hfu K B e he _ _ _ _))
  | ok x =>
    obtain ⟨s, bs2⟩ := x
    have hsub := rdTxt_ok htt
    rw [htt] at htx
    simp only [SOut] at htx
    have h2 : ∀ K : DK ρ, q4 fail fu K (k : Nat) y4 y7 (encB bs) 0 = q5 fail fu K (k : Nat) y4 y7 ⟨s.toArray⟩ (encB bs2) 0 := fun K => (htx _).trans (tobP_enc fail s _)
    have ht := q5_rd (ρ := ρ) fail fu hfu k hk bs2 (by omega) y4 y7 ⟨s.toArray⟩
    dsimp only
    cases hcc : rdD5 k bs2 with
    | error e => rw [hcc] at ht; exact DErr.eq ht h2
    | ok x => obtain ⟨s2, t, v, l, bs3⟩ := x; rw [hcc] at ht; intro K; exact (h2 K).trans (ht K)
theorem q3_rd (y4 : Int) : match rdD3 k bs with
    | .ok (ct, s13, s17, ty, val, l, bs') => ∀ K : DK ρ, q3 fail fu K (k : Nat) y4 (encB bs) 0 = K (k : Nat) y4 (ct : Nat) s13 s17 ty.k ty.n ty.nm (Lv.rows ty.ls) (Tm.rows ty.args) val.k val.n val.nm (Lv.rows val.ls) (Tm.rows val.args) (l.map ctRow) (encB bs') 0
    | .error e => DErr (fun K => q3 fail fu K (k : Nat) y4 (encB bs) 0) e := by
  have htx := num_eq (ρ := ρ) fail fu (by omega) bs hb
  unfold rdD3
  cases htt : rdNum bs with
  | error e =>
    rw [htt] at htx
    obtain ⟨he, B, hB⟩ := htx
    dsimp only at hB
    exact DErr.of he fun K => (hB _).trans (deadq4 fail fu hfu K B e he _ _ _)
  | ok x =>
    obtain ⟨n, bs2⟩ := x
    have hsub := rdNum_ok htt
    rw [htt] at htx
    simp only [KOut] at htx
    have h2 : ∀ K : DK ρ, q3 fail fu K (k : Nat) y4 (encB bs) 0 = q4 fail fu K (k : Nat) y4 (n : Nat) (encB bs2) 0 := fun K => htx _
    have ht := q4_rd (ρ := ρ) fail fu hfu k hk bs2 (by omega) y4 (n : Nat)
    dsimp only
    cases hcc : rdD4 k bs2 with
    | error e => rw [hcc] at ht; exact DErr.eq ht h2
    | ok x => obtain ⟨s1, s2, t, v, l, bs3⟩ := x; rw [hcc] at ht; intro K; exact (h2 K).trans (ht K)
theorem q2_rd : match rdD2 k bs with
    | .ok (pa, ct, s13, s17, ty, val, l, bs') => ∀ K : DK ρ, q2 fail fu K (k : Nat) (encB bs) 0 = K (k : Nat) (pa : Nat) (ct : Nat) s13 s17 ty.k ty.n ty.nm (Lv.rows ty.ls) (Tm.rows ty.args) val.k val.n val.nm (Lv.rows val.ls) (Tm.rows val.args) (l.map ctRow) (encB bs') 0
    | .error e => DErr (fun K => q2 fail fu K (k : Nat) (encB bs) 0) e := by
  have htx := num_eq (ρ := ρ) fail fu (by omega) bs hb
  unfold rdD2
  cases htt : rdNum bs with
  | error e =>
    rw [htt] at htx
    obtain ⟨he, B, hB⟩ := htx
    dsimp only at hB
    exact DErr.of he fun K => (hB _).trans (dead3 fail fu hfu K B e he _ _)
  | ok x =>
    obtain ⟨n, bs2⟩ := x
    have hsub := rdNum_ok htt
    rw [htt] at htx
    simp only [KOut] at htx
    have h2 : ∀ K : DK ρ, q2 fail fu K (k : Nat) (encB bs) 0 = q3 fail fu K (k : Nat) (n : Nat) (encB bs2) 0 := fun K => htx _
    have ht := q3_rd (ρ := ρ) fail fu hfu k hk bs2 (by omega) (n : Nat)
    dsimp only
    cases hcc : rdD3 k bs2 with
    | error e => rw [hcc] at ht; exact DErr.eq ht h2
    | ok x => obtain ⟨ct, s1, s2, t, v, l, bs3⟩ := x; rw [hcc] at ht; intro K; exact (h2 K).trans (ht K)
omit hk in
omit k in
theorem Decl_rd : DOut (fun K => p76 fail fu K (encB bs) 0) (rdDecl bs) := by
  have hkind := kind_eq (ρ := ρ) fail fu (by omega) bs hb 1 5 (by omega) (by omega)
  unfold rdDecl
  cases hk : rdKind 1 5 bs with
  | error e =>
    rw [hk] at hkind
    obtain ⟨he, B, hB⟩ := hkind
    dsimp only at hB
    exact DErr.of he fun K => (decl_q fail fu K _ _).trans ((hB _).trans (dead2 fail fu hfu K B e he _))
  | ok x =>
    obtain ⟨k, bs2⟩ := x
    have hk1 := rdKind_ok hk
    rw [hk] at hkind
    simp only [KOut] at hkind
    have h2 : ∀ K : DK ρ, p76 fail fu K (encB bs) 0 = q2 fail fu K (k : Nat) (encB bs2) 0 := fun K => (decl_q fail fu K _ _).trans (hkind _)
    have ht := q2_rd (ρ := ρ) fail fu hfu k (by omega) bs2 (by omega)
    dsimp only
    cases hcc : rdD2 k bs2 with
    | error e => rw [hcc] at ht; exact DErr.eq ht h2
    | ok x => obtain ⟨pa, ct, s1, s2, t, v, l, bs3⟩ := x; rw [hcc] at ht; intro K; exact (h2 K).trans (ht K)
end
end Go.Proofs.Ythncmjlcmlmnmaa

namespace Go.Proofs.Ythncmjlcmlmnmaa
open Go V
set_option maxRecDepth 100000
set_option maxHeartbeats 2000000
def ctsB : List (ByteArray × Tm) → List UInt8
  | [] => []
  | c :: l => (txB c.1 ++ c.2.enc) ++ ctsB l
def ctsSz : List (ByteArray × Tm) → Nat
  | [] => 0
  | c :: l => 1 + (c.1.size + c.2.sz) + ctsSz l
def Dc.enc (d : Dc) : List UInt8 := numsB [d.k, d.pa, d.ct] ++ (txB d.nm ++ (txB d.fam ++ (d.ty.enc ++ ((if d.k = 2 then varB 1 ++ d.val.enc else varB 0) ++ (varB d.cs.length ++ ctsB d.cs)))))
def Dc.sz (d : Dc) : Nat := d.nm.size + d.fam.size + d.ty.sz + d.val.sz + ctsSz d.cs
theorem rdCt_only (p : Nat) (bs : List UInt8) (a : ByteArray × Tm) (r : List UInt8) (q : Nat) (h : rdCt p bs = .ok (a, r, q)) : bs = (txB a.1 ++ a.2.enc) ++ r ∧ 1 + (a.1.size + a.2.sz) + 2 * r.length ≤ 2 * bs.length := by
  unfold rdCt at h; split at h
  · cases h
  · rename_i s bs1 hs
    obtain ⟨h1, h2, h3, h4⟩ := rdTxt_ok hs
    split at h
    · cases h
    · rename_i t bs2 ht
      injection h with h; injection h with h5 h; injection h with h6 h7; subst h5 h6 h7
      have h8 := rdTerm_only ht
      have h9 := rdTerm_sz ht
      refine ⟨?_, ?_⟩
      · dsimp only
        rw [txB_of, h3]
        simp only [List.append_assoc]
        rw [← h8]
      · dsimp only
        rw [bsz, h3]; simp only [List.length_append]; omega
theorem rdVal_only {k : Nat} {bs r : List UInt8} {t : Tm} (h : rdVal k bs = .ok (t, r)) : bs = (if k = 2 then varB 1 ++ t.enc else varB 0) ++ r ∧ t.sz + 2 * r.length ≤ 2 * bs.length ∧ (k ≠ 2 → t = tm0) := by
  unfold rdVal at h; split at h
  · cases h
  · rename_i v bs1 hv
    obtain ⟨h1, h2, h3⟩ := rdV_ok hv
    split at h
    · cases h
    · rename_i hbad
      split at h
      · rename_i hv1
        have hk : k = 2 := by
          rcases Nat.lt_or_ge 1 v with q | q
          · exact absurd (.inl q) hbad
          · by_cases hk : k = 2
            · exact hk
            · exact absurd (.inr ⟨fun _ => hk, fun _ => hv1⟩) hbad
        have h8 := rdTerm_only h
        have h9 := rdTerm_sz h
        refine ⟨?_, by omega, fun q => absurd hk q⟩
        rw [if_pos hk, h3, hv1, List.append_assoc, ← h8]
      · rename_i hv1
        injection h with h; injection h with h5 h6; subst h5 h6
        have hk : k ≠ 2 := fun hk => hbad (.inr ⟨fun q => absurd q hv1, fun q => absurd hk q⟩)
        have hv0 : v = 0 := by
          rcases Nat.lt_or_ge 1 v with q | q
          · exact absurd (.inl q) hbad
          · omega
        refine ⟨?_, ?_, fun _ => rfl⟩
        · rw [if_neg hk, h3, hv0]
        · have : tm0.sz = 1 := rfl
          omega
theorem rdCts_only {bs r : List UInt8} {l : List (ByteArray × Tm)} (h : rdCts bs = .ok (l, r)) : bs = (varB l.length ++ ctsB l) ++ r ∧ ctsSz l + 2 * r.length ≤ 2 * bs.length ∧ l.length ≤ 5 := by
  unfold rdCts at h; split at h
  · cases h
  · rename_i n bs1 hn
    obtain ⟨h1, h2, h3⟩ := rdNum_ok hn
    split at h
    · cases h
    · rename_i h5
      split at h
      · cases h
      · rename_i l' bs2 q hm
        injection h with h; injection h with h6 h7; subst h6 h7
        have h8 := many_only (g := fun c => txB c.1 ++ c.2.enc) (gs := ctsB) rfl (fun _ _ => rfl) (fun p bs a r q h => (rdCt_only p bs a r q h).1) _ _ _ _ _ _ hm
        have h9 := many_sz (g := fun c => c.1.size + c.2.sz) (gs := ctsSz) rfl (fun _ _ => rfl) (fun p bs a r q h => (rdCt_only p bs a r q h).2) _ _ _ _ _ _ hm
        have h10 := (many_sub (m := 0) (f := rdCt) (fun p bs a r q hp h => by
          have := (rdCt_only p bs a r q h).2
          refine ⟨by omega, ?_⟩
          unfold rdCt at h; split at h
          · cases h
          · split at h
            · cases h
            · injection h with h; injection h with _ h; injection h with _ h; omega) _ _ _ _ _ _ (Nat.le_refl _) hm).2.2
        refine ⟨?_, by omega, by omega⟩
        rw [h10, h3, List.append_assoc, ← h8]
theorem rdDecl_only {bs r : List UInt8} {d : Dc} (h : rdDecl bs = .ok (d, r)) : bs = d.enc ++ r ∧ d.sz + 2 * r.length ≤ 2 * bs.length ∧ d.cs.length ≤ 5 := by
  unfold rdDecl at h; split at h
  · cases h
  · rename_i k bs1 hk
    obtain ⟨k1, k2, k3, k4⟩ := rdKind_ok hk
    split at h
    · cases h
    · rename_i pa ct nm fam ty val cs bs' h2
      injection h with h; injection h with h5 h6; subst h5 h6
      unfold rdD2 at h2; split at h2
      · cases h2
      · rename_i pa' bs2 hpa
        obtain ⟨p1, p2, p3⟩ := rdNum_ok hpa
        split at h2
        · cases h2
        · rename_i x3 h3
          injection h2 with h2; injection h2 with e1 e2; subst e1 e2
          unfold rdD3 at h3; split at h3
          · cases h3
          · rename_i ct' bs3 hct
            obtain ⟨c1, c2, c3⟩ := rdNum_ok hct
            split at h3
            · cases h3
            · rename_i x4 h4
              injection h3 with h3; injection h3 with e1 e2; subst e1 e2
              unfold rdD4 at h4; split at h4
              · cases h4
              · rename_i s1 bs4 hs1
                obtain ⟨s11, s12, s13, s14⟩ := rdTxt_ok hs1
                split at h4
                · cases h4
                · rename_i x5 h5
                  injection h4 with h4; injection h4 with e1 e2; subst e1 e2
                  unfold rdD5 at h5; split at h5
                  · cases h5
                  · rename_i s2 bs5 hs2
                    obtain ⟨s21, s22, s23, s24⟩ := rdTxt_ok hs2
                    split at h5
                    · cases h5
                    · rename_i x6 h6
                      injection h5 with h5; injection h5 with e1 e2; subst e1 e2
                      unfold rdD6 at h6; split at h6
                      · cases h6
                      · rename_i t bs6 ht
                        have t1 := rdTerm_only ht
                        have t2 := rdTerm_sz ht
                        split at h6
                        · cases h6
                        · rename_i v l bs7 h7
                          injection h6 with h6; injection h6 with e1 h6; injection h6 with e2 h6; injection h6 with e3 e4; subst e1 e2 e3 e4
                          unfold rdTail at h7; split at h7
                          · cases h7
                          · rename_i v' bs8 hv
                            obtain ⟨v1, v2, _⟩ := rdVal_only hv
                            split at h7
                            · cases h7
                            · rename_i l' bs9 hl
                              injection h7 with h7; injection h7 with e1 h7; injection h7 with e2 e3; subst e1 e2 e3
                              obtain ⟨l1, l2, l3⟩ := rdCts_only hl
                              refine ⟨?_, ?_, l3⟩
                              · simp only [Dc.enc, numsB_cons, show numsB [] = [] from rfl, txB_of, List.append_nil, uv_nat k (by omega), uv_nat pa' (by omega), uv_nat ct' (by omega), List.append_assoc]
                                rw [k4, p3, c3, s13, s23, t1, v1, l1]
                                simp only [List.append_assoc]
                                by_cases k2 : k = 2
                                · rw [if_pos k2, if_pos (show ((k : Nat) : Int) = 2 by omega)]
                                · rw [if_neg k2, if_neg (show ¬ ((k : Nat) : Int) = 2 by omega)]
                              · simp only [Dc.sz, bsz]
                                have a1 : bs3.length = (varB s1.length).length + (s1.length + bs4.length) := by rw [s13]; simp only [List.length_append]
                                have a2 : bs4.length = (varB s2.length).length + (s2.length + bs5.length) := by rw [s23]; simp only [List.length_append]
                                omega
theorem ct_row {ρ : Type} (fail : ρ) (l : List (ByteArray × Tm)) (i : Nat) (h : i < l.length) (k : ByteArray → Int → Int → ByteArray → EL → EL → ρ) : rw_s_i64_i64_s_l3_l5 fail (List.getD (l.map ctRow) (((i : Nat) : Int)).toNat []) k = k l[i].1 l[i].2.k l[i].2.n l[i].2.nm (Lv.rows l[i].2.ls) (Tm.rows l[i].2.args) := by
  rw [Int.toNat_natCast, List.getD, List.getElem?_map, List.getElem?_eq_getElem h]; rfl
theorem ctsSz_mem : ∀ {l : List (ByteArray × Tm)} {a : ByteArray × Tm}, a ∈ l → 1 + (a.1.size + a.2.sz) ≤ ctsSz l
  | b :: l, a, h => by
    simp only [ctsSz]
    rcases List.mem_cons.1 h with rfl | h
    · omega
    · have := ctsSz_mem h; omega
theorem ctsSz_len : ∀ l : List (ByteArray × Tm), l.length ≤ ctsSz l
  | [] => Nat.zero_le _
  | a :: l => by have := ctsSz_len l; simp only [ctsSz, List.length_cons]; omega
end Go.Proofs.Ythncmjlcmlmnmaa

namespace Go.Proofs.Ythncmjlcmlmnmaa
open Go V
set_option maxRecDepth 100000
set_option maxHeartbeats 4000000
/-- codec.TakeLevel -/
def p20 {ρ : Type} (fail : ρ) (fu : Nat)  (K0 : Int → Int → EL → Int → Int → ρ) (x0 : EL) : ρ :=
  p67 fail fu (fun y1 y2 y3 y4 y5 => p66 fail fu (fun y6 y7 y8 y9 => bif (cmpStd .neq y7 0) then (K0 0 0 nilE 0 y7) else (K0 y1 y2 y3 y6 0)) y4 y5 x0) x0 0
theorem d_p20 (fu : Nat)  {K0 : Int → Int → EL → Int → Int → Prop} (L : EL → Nat) (hN : L = List.length) {x0 : EL} (h : p20 False fu K0 x0) : Den Try.prog G0 20 [.c (.sl 1 x0 none)] (fun r bs => (∃ (y0 : Int) (y1 : Int) (y2 : EL) (y3 : Int) (y4 : Int) (o0 : OV), (r = .tup [.agg [.c (.v (.int .i64 y0)), .c (.v (.int .i64 y1)), .c (.sl 3 y2 none)], .c (.v (.int .i64 y3)), .c (.v (.int .i64 y4))] ∧ bs = [o0]) ∧ K0 y0 y1 y2 y3 y4)) := by
  obtain ⟨O, hO⟩ : ∃ O, O = std 0 T G0 (Den Try.prog G0) := ⟨_, rfl⟩
  have hLO : L = O.len := by rw [hN, hO]; rfl
  subst hLO
  refine den_h hO tiA mixed tabOk (fn := Try.f20) (sh := true) (by kernel_rfl) rfl rfl rfl rfl ?_
  intro Q hQ
  unfold p20 at h
  conv => cbv
  refine call_h hO [.ref 2] (d_p67 fu O.len hN h) ?_
  intro os Q hos hQ
  conv => cbv
  refine ⟨(by (rw [hos]) <;> (subst hO; rfl)), ?_⟩
  intro r bs hq
  rw [hQ] at hq
  clear hos hQ h
  obtain ⟨y1, y2, y3, y4, y5, ⟨rfl, rfl⟩, h⟩ := hq
  conv => cbv
  refine call_h hO [.ref 2, .shut] (d_p66 fu O.len hN h) ?_
  intro os Q hos hQ
  conv => cbv
  refine ⟨(by (rw [hos]) <;> (subst hO; rfl)), ?_⟩
  intro r bs hq
  rw [hQ] at hq
  clear hos hQ h
  obtain ⟨y6, y7, y8, y9, _, ⟨rfl, rfl⟩, h⟩ := hq
  conv => cbv
  refine br_h hO h (by subst hO; rfl) (fun hc1 h => ?_) (fun hc1 h => ?_)
  · conv => cbv
    rw [hQ]
    exact ⟨0, 0, nilE, 0, y7, _, ⟨(by subst hO; rfl), (by subst hO; rfl)⟩, h⟩
  · conv => cbv
    refine join_all hO ?_
    conv => cbv
    rw [hQ]
    exact ⟨y1, y2, y3, y6, 0, _, ⟨(by subst hO; rfl), (by subst hO; rfl)⟩, h⟩
end Go.Proofs.Ythncmjlcmlmnmaa

namespace Go.Proofs.Ythncmjlcmlmnmaa
open Go V
set_option maxRecDepth 100000
set_option maxHeartbeats 2000000
section
variable {ρ : Type} (fail : ρ) (fu : Nat) (hfu : 200 ≤ fu) (bs : List UInt8) (hb : bs.length ≤ 1099511627776)
include hfu hb
theorem takeLevel_eq : (∃ l r, rdLevel bs = .ok (l, r) ∧ bs = l.enc ++ r ∧ ∀ K, p20 fail fu K (encB bs) = K l.k l.n (Lv.rows l.args) ((l.enc.length : Nat) : Int) 0) ∨
    (∃ e, rdLevel bs = .error e ∧ e ≠ 0 ∧ ∀ K, p20 fail fu K (encB bs) = K 0 0 nilE 0 e) := by
  have h := Level_rd (ρ := ρ) fail fu (by omega) bs hb
  cases hr : rdLevel bs with
  | error e =>
    rw [hr] at h
    obtain ⟨he, a, b, c, B, h⟩ := h
    dsimp only at h
    right
    exact ⟨e, rfl, he, fun K => by rw [p20, h, p66, neqT he, cond_true, cond_true]⟩
  | ok x =>
    obtain ⟨l, r⟩ := x
    rw [hr] at h
    simp only [LvO2] at h
    have ho := rdLevel_only hr
    left
    refine ⟨l, r, rfl, ho, fun K => ?_⟩
    have hl : bs.length = l.enc.length + r.length := by rw [ho, List.length_append]
    rw [p20, h, p66, neqF rfl, cond_false, cond_false, encB_length, encB_length, subZ (by omega) (by omega)]
    congr 1; omega
theorem takeTerm_eq : (∃ t r, rdTerm bs = .ok (t, r) ∧ bs = t.enc ++ r ∧ t.sz ≤ 2 * bs.length ∧ ∀ K, p18 fail fu K (encB bs) = K t.k t.n t.nm (Lv.rows t.ls) (Tm.rows t.args) ((t.enc.length : Nat) : Int) 0) ∨
    (∃ e, rdTerm bs = .error e ∧ e ≠ 0 ∧ ∀ K, p18 fail fu K (encB bs) = K 0 0 ⟨#[]⟩ nilE nilE 0 e) := by
  have h := Term_rd (ρ := ρ) fail fu (by omega) bs hb
  cases hr : rdTerm bs with
  | error e =>
    rw [hr] at h
    obtain ⟨he, a, b, c, l, g, B, h⟩ := h
    dsimp only at h
    right
    exact ⟨e, rfl, he, fun K => by rw [p18, h, p66, neqT he, cond_true, cond_true]⟩
  | ok x =>
    obtain ⟨l, r⟩ := x
    rw [hr] at h
    simp only [TmO2] at h
    have ho := rdTerm_only hr
    have hs := rdTerm_sz hr
    left
    refine ⟨l, r, rfl, ho, by omega, fun K => ?_⟩
    have hl : bs.length = l.enc.length + r.length := by rw [ho, List.length_append]
    rw [p18, h, p66, neqF rfl, cond_false, cond_false, encB_length, encB_length, subZ (by omega) (by omega)]
    congr 1; omega
theorem takeDecl_eq : (∃ d r, rdDecl bs = .ok (d, r) ∧ bs = d.enc ++ r ∧ d.sz ≤ 2 * bs.length ∧ ∀ K, p35 fail fu K (encB bs) = K d.k d.pa d.ct d.nm d.fam d.ty.k d.ty.n d.ty.nm (Lv.rows d.ty.ls) (Tm.rows d.ty.args) d.val.k d.val.n d.val.nm (Lv.rows d.val.ls) (Tm.rows d.val.args) (d.cs.map ctRow) ((d.enc.length : Nat) : Int) 0) ∨
    (∃ e, rdDecl bs = .error e ∧ e ≠ 0 ∧ ∀ K, p35 fail fu K (encB bs) = K 0 0 0 ⟨#[]⟩ ⟨#[]⟩ 0 0 ⟨#[]⟩ nilE nilE 0 0 ⟨#[]⟩ nilE nilE nilE 0 e) := by
  have h := Decl_rd (ρ := ρ) fail fu hfu bs hb
  cases hr : rdDecl bs with
  | error e =>
    rw [hr] at h
    obtain ⟨he, a, b, c, d, f, g, hh, i, j, k, l, m, n, o, q, r, s, h⟩ := h
    dsimp only at h
    right
    exact ⟨e, rfl, he, fun K => by rw [p35, h, p66, neqT he, cond_true, cond_true]⟩
  | ok x =>
    obtain ⟨l, r⟩ := x
    rw [hr] at h
    simp only [DOut] at h
    obtain ⟨ho, hs, _⟩ := rdDecl_only hr
    left
    refine ⟨l, r, rfl, ho, by omega, fun K => ?_⟩
    have hl : bs.length = l.enc.length + r.length := by rw [ho, List.length_append]
    rw [p35, h, p66, neqF rfl, cond_false, cond_false, encB_length, encB_length, subZ (by omega) (by omega)]
    congr 1; omega
end
section
variable {ρ : Type} (fail : ρ) (fu : Nat) (K : EL → ρ) (b : List UInt8)
end
end Go.Proofs.Ythncmjlcmlmnmaa

namespace Go.Proofs.Ythncmjlcmlmnmaa
open Go V
open Go.RowKit
set_option maxRecDepth 100000
def Spt (b capn : Nat) (w wr : World) : Prop := Ext (fun b' _ => b' = b) w wr ∧ (∀ k, k < capn → ∃ v, wr.cell? ⟨b, k, none⟩ = some v) ∧ (∀ k, k < capn → wr.frozen? ⟨b, k, none⟩ = false)
theorem spt_step {b capn i : Nat} {w wr : World} (hx : Ext (fun b' _ => b' = b) w wr) (hcell : ∀ k, k < capn → ∃ v, wr.cell? ⟨b, k, none⟩ = some v) (hfr : ∀ k, k < capn → wr.frozen? ⟨b, k, none⟩ = false) (hi : i < capn) :
    Spt b capn w (wr.setCell ⟨b, i, none⟩ (.int .u8 90)) := by
  have h1 : Ext (fun b' _ => b' = b) wr (wr.setCell ⟨b, i, none⟩ (.int .u8 90)) := (Ext.setCells wr b i [.int .u8 90]).mono fun x o h => h.1
  refine ⟨hx.trans h1 fun x o h => .inl h, fun k hk => ?_, fun k hk => ?_⟩
  · by_cases e : k = i
    · subst e
      obtain ⟨v, hv⟩ := hcell k hk
      exact ⟨_, World.cell?_setCell_same wr _ _ hv⟩
    · obtain ⟨v, hv⟩ := hcell k hk
      exact ⟨v, (cellAt_setCells_out b i [.int .u8 90] wr b k (fun _ => by simp; omega)).trans hv⟩
  · rw [World.frozen?_setCell]; exact hfr k hk
theorem spoil_any (b n capn : Nat) (w : World) (hn : n ≤ capn) (hc : capn ≤ 9223372036854775807) (hw : Spt b capn w w) :
    Calls Try.prog 32 #[.slice (some ⟨b, 0, none⟩) n capn] w fun e w' => e = .returned (.tuple #[]) ∧ Spt b capn w w' := by
  go_enter Try.func32, Try.ntmps32
  go_wp2
  go_loopw [3] (fun si wr => ∃ (i : Nat), i ≤ capn ∧ si = .int .i64 i ∧ Spt b capn w wr)
    (fun si _ => capn - (intOf si).toNat)
  case atStart => exact ⟨0, Nat.zero_le _, rfl, hw⟩
  case round =>
    obtain ⟨i, hil, rfl, hx, hcell, hfr⟩ := hrel
    by_cases hlt : i < capn
    · obtain ⟨v, hv⟩ := hcell i hlt
      have hf := hfr i hlt
      have hcell' := Lib.hid hcell
      have hfr' := Lib.hid hfr
      clear hcell hfr
      go_wp2
      refine ⟨⟨i + 1, hlt, by push_cast; rfl, spt_step hx hcell'.out hfr'.out hlt⟩, ?_⟩
      simp [intOf]; omega
    · have hcell' := Lib.hid hcell
      have hfr' := Lib.hid hfr
      clear hcell hfr
      go_wp2
      refine ⟨rfl, .tuple #[], ?_, rfl, hx, hcell'.out, hfr'.out⟩
      unfold results; rw [Try.results32]; simp [go_sem]
/-- Whatever it is handed, it writes it over. -/
theorem spoil_den (es : EL) (cap : Option Nat) (n : Nat) : Den Try.prog G0 32 [.arr 1 es cap false n] (fun r bs => ∃ o0 : OV, r = .tup [] ∧ bs = [o0]) := by
  refine ⟨⟨_, Try.func32, by kernel_rfl, by kernel_rfl⟩, fun S F w us hS hF hG ho => ?_⟩
  cases ho with | cons _ u _ us F1 F2 h1 h2 hd =>
  cases h2
  cases h1 with | arr _ _ _ _ _ b capn h =>
  obtain ⟨_, ⟨ht, hb⟩, ⟨e, h3⟩, h4, _, _, _, h8⟩ := h
  have hbig := hb rfl _ _ h3
  have hcell : ∀ k, k < capn → ∃ v, w.cell? ⟨b, k, none⟩ = some v := fun k hk => by
    unfold World.shape? at h3
    unfold World.cell?
    cases hh : w.heap[b]? with
    | none => rw [hh] at h3; simp at h3
    | some ob =>
      rw [hh] at h3
      cases ob with
      | cells cc e' fr =>
        simp only [Option.some.injEq, Prod.mk.injEq] at h3
        have : k < cc.size := by rw [h3.2]; omega
        exact ⟨cc[k], by simp [Array.getElem?_eq_getElem this]⟩
      | _ => simp at h3
  have hfr : ∀ k, k < capn → w.frozen? ⟨b, k, none⟩ = false := fun k hk => by
    cases hz : w.frozen? ⟨b, k, none⟩ with
    | false => rfl
    | true => have := ht _ hz _ _ h3; omega
  refine (spoil_any b n capn w (by omega) (by omega) ⟨Ext.refl _ _, hcell, hfr⟩).mono ?_
  rintro e w' ⟨rfl, hx, _, _⟩
  refine ⟨_, .tup [], [.tup []], S, _, _, rfl, ⟨_, rfl, rfl⟩, .tup [] [] _ .nil, .skip _ _ _ _ _ _ _ (by simp) .nil, ⟨hx.mono fun x o q => .inl ⟨q, by simp⟩, fun _ _ q => q, fun x o q => ⟨Nat.lt_of_lt_of_le (hS x o q) hx.size, .inl q⟩, fun _ _ q => q.elim, fun _ _ q => (q.elim id id).elim⟩⟩
end Go.Proofs.Ythncmjlcmlmnmaa

namespace Go.Proofs.Ythncmjlcmlmnmaa
open Go V
set_option maxRecDepth 100000
set_option maxHeartbeats 4000000
/-- ref4.Zero -/
def p50 {ρ : Type} (fail : ρ) (fu : Nat)  (K0 : Int → Int → EL → ρ)  : ρ :=
  K0 0 0 nilE
theorem d_p50 (fu : Nat)  {K0 : Int → Int → EL → Prop} (L : EL → Nat) (hN : L = List.length)  (h : p50 False fu K0 ) : Den Try.prog G0 50 [] (fun r bs => (∃ (y0 : Int) (y1 : Int) (y2 : EL), (r = .agg [.c (.v (.int .i64 y0)), .c (.v (.int .i64 y1)), .c (.sl 3 y2 none)] ∧ bs = []) ∧ K0 y0 y1 y2)) := by
  obtain ⟨O, hO⟩ : ∃ O, O = std 0 T G0 (Den Try.prog G0) := ⟨_, rfl⟩
  have hLO : L = O.len := by rw [hN, hO]; rfl
  subst hLO
  refine den_h hO tiA mixed tabOk (fn := Try.f50) (sh := true) (by kernel_rfl) rfl rfl rfl rfl ?_
  intro Q hQ
  unfold p50 at h
  conv => cbv
  rw [hQ]
  exact ⟨0, 0, nilE, ⟨(by subst hO; rfl), (by subst hO; rfl)⟩, h⟩
end Go.Proofs.Ythncmjlcmlmnmaa

namespace Go.Proofs.Ythncmjlcmlmnmaa
open Go V
set_option maxRecDepth 100000
set_option maxHeartbeats 4000000
def p132b_1 {ρ : Type} (fail : ρ) (fu : Nat) (s_p132b : (Int → Int → EL → ρ) → Int → Int → EL → EL → ρ) (s_p101 : (Int → Int → EL → ρ) → Int → Int → EL → ρ) (K0 : Int → Int → EL → ρ) (rec1 : EL → Int → ρ) (x0 : Int) (x1 : Int) (x2 : EL) (x3 : EL) (z8 : EL) (z9 : Int) : ρ :=
  bif (cmpStd .lss z9 ((x2.length : Nat) : Int)) then (gd ((0 : Int) ≤ z9) fail (gd ((z9 : Int) < (x2.length : Nat)) fail (rw_i64_i64_l3 fail (List.getD x2 ((z9 : Int).toNat) []) (fun c10 c11 c12 => s_p132b (fun y13 y14 y15 => gd (1 ≤ [[(CV.v (.int .i64 y13)), (CV.v (.int .i64 y14)), (CV.sl 3 y15 none)]].length) fail (gd ((z8.length + (List.take 1 [[(CV.v (.int .i64 y13)), (CV.v (.int .i64 y14)), (CV.sl 3 y15 none)]]).length) * 40 ≤ 35184372088832) fail (rec1 (z8 ++ (List.take 1 [[(CV.v (.int .i64 y13)), (CV.v (.int .i64 y14)), (CV.sl 3 y15 none)]])) (binStd .add .i64 z9 1)))) c10 c11 c12 x3)))) else (K0 x0 x1 z8)
def p132b_1L {ρ : Type} (fail : ρ) (fu : Nat) (s_p132b : (Int → Int → EL → ρ) → Int → Int → EL → EL → ρ) (s_p101 : (Int → Int → EL → ρ) → Int → Int → EL → ρ) (K0 : Int → Int → EL → ρ)  (x0 : Int) (x1 : Int) (x2 : EL) (x3 : EL) : Nat → EL → Int → ρ
  | 0, _, _ => fail
  | n + 1, z8, z9 => p132b_1 fail fu s_p132b s_p101 K0 (p132b_1L fail fu s_p132b s_p101 K0  x0 x1 x2 x3 n) x0 x1 x2 x3 z8 z9
def p132b_2 {ρ : Type} (fail : ρ) (fu : Nat) (s_p132b : (Int → Int → EL → ρ) → Int → Int → EL → EL → ρ) (s_p101 : (Int → Int → EL → ρ) → Int → Int → EL → ρ) (K0 : Int → Int → EL → ρ)  (x0 : Int) (x1 : Int) (x2 : EL) (x3 : EL) (j1 : Bool) : ρ :=
  bif j1 then (gd ((0 : Int) ≤ x1) fail (gd ((x1 : Int) < (x3.length : Nat)) fail (rw_i64_i64_l3 fail (List.getD x3 ((x1 : Int).toNat) []) (fun c2 c3 c4 => s_p101 (fun y5 y6 y7 => K0 y5 y6 y7) c2 c3 c4)))) else (p132b_1L fail fu s_p132b s_p101 K0 x0 x1 x2 x3 fu nilE 0)
/-- ref4.Put -/
def p132b_b {ρ : Type} (fail : ρ) (fu : Nat) (s_p132b : (Int → Int → EL → ρ) → Int → Int → EL → EL → ρ) (s_p101 : (Int → Int → EL → ρ) → Int → Int → EL → ρ) (K0 : Int → Int → EL → ρ) (x0 : Int) (x1 : Int) (x2 : EL) (x3 : EL) : ρ :=
  bif (cmpStd .eql x0 4) then (bif (cmpStd .geq x1 0) then (p132b_2 fail fu s_p132b s_p101 K0 x0 x1 x2 x3 (cmpStd .lss x1 ((x3.length : Nat) : Int))) else (p132b_2 fail fu s_p132b s_p101 K0 x0 x1 x2 x3 false)) else (p132b_2 fail fu s_p132b s_p101 K0 x0 x1 x2 x3 false)
/-- ref4.Copy -/
def p101_b {ρ : Type} (fail : ρ) (fu : Nat) (s_p132b : (Int → Int → EL → ρ) → Int → Int → EL → EL → ρ) (s_p101 : (Int → Int → EL → ρ) → Int → Int → EL → ρ) (K0 : Int → Int → EL → ρ) (x0 : Int) (x1 : Int) (x2 : EL) : ρ :=
  s_p132b (fun y1 y2 y3 => K0 y1 y2 y3) x0 x1 x2 nilE
mutual
def p132b {ρ : Type} (fail : ρ) : Nat → (Int → Int → EL → ρ) → Int → Int → EL → EL → ρ
  | 0, _, _, _, _, _ => fail
  | n + 1, K0, x0, x1, x2, x3 => p132b_b fail n (p132b fail n) (p101 fail n) K0 x0 x1 x2 x3
def p101 {ρ : Type} (fail : ρ) : Nat → (Int → Int → EL → ρ) → Int → Int → EL → ρ
  | 0, _, _, _, _ => fail
  | n + 1, K0, x0, x1, x2 => p101_b fail n (p132b fail n) (p101 fail n) K0 x0 x1 x2
end
def D_p132b (fu : Nat) : Prop := ∀ {K0 : Int → Int → EL → Prop} (L : EL → Nat) (_ : L = List.length) {x0 : Int} {x1 : Int} {x2 : EL} {x3 : EL} (_ : p132b False fu K0 x0 x1 x2 x3), Den Try.prog G0 132 [.agg [.c (.v (.int .i64 x0)), .c (.v (.int .i64 x1)), .c (.sl 3 x2 none)], .c (.sl 3 x3 none)] (fun r bs => (∃ (y0 : Int) (y1 : Int) (y2 : EL) (o0 : OV) (o1 : OV), (r = .agg [.c (.v (.int .i64 y0)), .c (.v (.int .i64 y1)), .c (.sl 3 y2 none)] ∧ bs = [o0, o1]) ∧ K0 y0 y1 y2))
def D_p101 (fu : Nat) : Prop := ∀ {K0 : Int → Int → EL → Prop} (L : EL → Nat) (_ : L = List.length) {x0 : Int} {x1 : Int} {x2 : EL} (_ : p101 False fu K0 x0 x1 x2), Den Try.prog G0 101 [.agg [.c (.v (.int .i64 x0)), .c (.v (.int .i64 x1)), .c (.sl 3 x2 none)]] (fun r bs => (∃ (y0 : Int) (y1 : Int) (y2 : EL) (o0 : OV), (r = .agg [.c (.v (.int .i64 y0)), .c (.v (.int .i64 y1)), .c (.sl 3 y2 none)] ∧ bs = [o0]) ∧ K0 y0 y1 y2))
theorem b_p132b (fu : Nat) (ih_p132b : D_p132b fu) (ih_p101 : D_p101 fu) {K0 : Int → Int → EL → Prop} (L : EL → Nat) (hN : L = List.length) {x0 : Int} {x1 : Int} {x2 : EL} {x3 : EL} (h : p132b_b False fu (p132b False fu) (p101 False fu) K0 x0 x1 x2 x3) : Den Try.prog G0 132 [.agg [.c (.v (.int .i64 x0)), .c (.v (.int .i64 x1)), .c (.sl 3 x2 none)], .c (.sl 3 x3 none)] (fun r bs => (∃ (y0 : Int) (y1 : Int) (y2 : EL) (o0 : OV) (o1 : OV), (r = .agg [.c (.v (.int .i64 y0)), .c (.v (.int .i64 y1)), .c (.sl 3 y2 none)] ∧ bs = [o0, o1]) ∧ K0 y0 y1 y2)) := by
  obtain ⟨O, hO⟩ : ∃ O, O = std 0 T G0 (Den Try.prog G0) := ⟨_, rfl⟩
  have hLO : L = O.len := by rw [hN, hO]; rfl
  subst hLO
  refine den_h hO tiA mixed tabOk (fn := Try.f132) (sh := true) (by kernel_rfl) rfl rfl rfl rfl ?_
  intro Q hQ
  unfold p132b_b at h
  conv => cbv
  refine reg_join hO tiA [1, 2, 4, 21] [3000, 5000] [] (fun tm m => ∃ (j1 : Bool), ((tm = frame 0 53 [(1, .c (.sl 3 x3 none)), (2, .p 3000 0 0), (4, .p 5000 0 0), (21, .c (.v (.bool j1)))] ∧ m = ⟨[(3000, .blk 0 [.c (.v (.int .i64 x0)), .c (.v (.int .i64 x1)), .c (.sl 3 x2 none)]), (5000, .blk 0 [.c (.v (.int .i64 0)), .c (.v (.int .i64 0)), .c (.sl 3 [] (some []))])], 1⟩)) ∧ p132b_2 False fu (p132b False fu) (p101 False fu) K0 x0 x1 x2 x3 j1) (fun L hL_2 => ?_) ?_
  · conv => cbv
    refine br_h hO h (by subst hO; rfl) (fun hc3 h => ?_) (fun hc3 h => ?_)
    · conv => cbv
      refine br_t hO hc3 ?_
      conv => cbv
      refine br_t hO hc3 ?_
      conv => cbv
      refine br_t hO hc3 ?_
      conv => cbv
      refine br_h hO h (by subst hO; rfl) (fun hc4 h => ?_) (fun hc4 h => ?_)
      · conv => cbv
        refine br_t hO hc4 ?_
        conv => cbv
        refine br_t hO hc4 ?_
        conv => cbv
        refine br_t hO hc4 ?_
        conv => cbv
        refine br_t hO hc4 ?_
        conv => cbv
        refine br_t hO hc4 ?_
        conv => cbv
        exact hL_2 _ _ ⟨(cmpStd .lss x1 ((x3.length : Nat) : Int)), ⟨(by (conv => lhs; cbv) <;> (subst hO; rfl)), (by (conv => lhs; cbv) <;> (subst hO; rfl))⟩, h⟩
      · conv => cbv
        refine br_f hO hc4 ?_
        conv => cbv
        refine br_f hO hc4 ?_
        conv => cbv
        refine br_f hO hc4 ?_
        conv => cbv
        refine br_f hO hc4 ?_
        conv => cbv
        refine br_f hO hc4 ?_
        conv => cbv
        exact hL_2 _ _ ⟨false, ⟨(by (conv => lhs; cbv) <;> (subst hO; rfl)), (by (conv => lhs; cbv) <;> (subst hO; rfl))⟩, h⟩
    · conv => cbv
      refine br_f hO hc3 ?_
      conv => cbv
      refine br_f hO hc3 ?_
      conv => cbv
      refine br_f hO hc3 ?_
      conv => cbv
      refine br_f hO rfl ?_
      conv => cbv
      refine br_f hO rfl ?_
      conv => cbv
      refine br_f hO rfl ?_
      conv => cbv
      refine br_f hO rfl ?_
      conv => cbv
      refine br_f hO rfl ?_
      conv => cbv
      refine br_f hO rfl ?_
      conv => cbv
      exact hL_2 _ _ ⟨false, ⟨(by (conv => lhs; cbv) <;> (subst hO; rfl)), (by (conv => lhs; cbv) <;> (subst hO; rfl))⟩, h⟩
  · rintro tm m ⟨j1, hs, h⟩
    unfold p132b_2 at h
    obtain ⟨rfl, rfl⟩ := hs
    conv => cbv
    refine br_h hO h (by subst hO; rfl) (fun hc1 h => ?_) (fun hc1 h => ?_)
    · conv => cbv
      refine and_h h (fun g => (by subst hO; exact g)) (fun h => ?_)
      refine and_h h (fun g => (by subst hO; exact g)) (fun h => ?_)
      obtain ⟨c2, c3, c4, hr, h⟩ := rw_i64_i64_l3_inv h
      refine elem_of hO _ (by subst hO; exact hr) ?_
      clear hr
      conv => cbv
      refine call_h hO [.shut] (ih_p101 O.len hN h) ?_
      intro os Q hos hQ
      conv => cbv
      refine ⟨(by (rw [hos]) <;> (subst hO; rfl)), ?_⟩
      intro r bs hq
      rw [hQ] at hq
      clear hos hQ h
      obtain ⟨y5, y6, y7, _, ⟨rfl, rfl⟩, h⟩ := hq
      conv => cbv
      rw [hQ]
      exact ⟨y5, y6, y7, _, _, ⟨(by subst hO; rfl), (by subst hO; rfl)⟩, h⟩
    · conv => cbv
      refine join_all hO ?_
      conv => cbv
      refine loop_of hO tiA [1, 2, 4, 5, 6] [3000, 5000, 6000, 51000] [] (fun (n : Nat) tm m => ∃ (z8 : EL) (z9 : Int), ((z8 = [] ∧ tm = frame 0 53 [(1, .c (.sl 3 x3 none)), (2, .p 3000 0 0), (4, .p 5000 0 0), (5, .p 6000 0 0), (6, .c (.v (.int .i64 z9)))] ∧ m = ⟨[(3000, .blk 0 [.c (.v (.int .i64 x0)), .c (.v (.int .i64 x1)), .c (.sl 3 x2 none)]), (5000, .blk 0 [.c (.v (.int .i64 0)), .c (.v (.int .i64 0)), .c (.sl 3 [] (some []))]), (6000, .blk 0 [.c (.v (.int .i64 x0)), .c (.v (.int .i64 x1)), .c (.sl 3 [] (some []))])], 1⟩) ∨ (tm = frame 0 53 [(1, .c (.sl 3 x3 none)), (2, .p 3000 0 0), (4, .p 5000 0 0), (5, .p 6000 0 0), (6, .c (.v (.int .i64 z9)))] ∧ m = ⟨[(3000, .blk 0 [.c (.v (.int .i64 x0)), .c (.v (.int .i64 x1)), .c (.sl 3 x2 none)]), (5000, .blk 0 [.c (.v (.int .i64 0)), .c (.v (.int .i64 0)), .c (.sl 3 [] (some []))]), (6000, .blk 0 [.c (.v (.int .i64 x0)), .c (.v (.int .i64 x1)), .t 51000 0 (O.len z8)]), (51000, .arr 0 3 z8 none false)], 1⟩)) ∧ p132b_1L False fu (p132b False fu) (p101 False fu) K0 x0 x1 x2 x3 n z8 z9) (fun n => n) fu ⟨nilE, 0, (.inl ⟨rfl, (by (conv => lhs; cbv) <;> (subst hO; rfl)), (by (conv => lhs; cbv) <;> (subst hO; rfl))⟩), h⟩ ?_
      rintro n1 tm m L ⟨z8, z9, hs, h⟩ hLn1
      cases n1 with
      | zero => rw [p132b_1L] at h; exact h.elim
      | succ n1 =>
        rw [p132b_1L] at h
        unfold p132b_1 at h
        rcases hs with hs | hs
        · obtain ⟨rfl, rfl, rfl⟩ := hs
          conv => cbv
          refine br_h hO h (by subst hO; rfl) (fun hc2 h => ?_) (fun hc2 h => ?_)
          · conv => cbv
            refine join_all hO ?_
            conv => cbv
            refine drawn_of hO tiA [[], [], [], [], []] [(0, true, false), (1, true, false), (2, true, false), (3, true, false), (4, true, false), (5, true, false), (6, true, false), (7, true, false), (8, false, false), (9, false, false), (10, false, true), (11, true, true), (12, false, true)] (by kernel_rfl) ?_
            conv => cbv
            refine and_h h (fun g => (by subst hO; exact g)) (fun h => ?_)
            refine and_h h (fun g => (by subst hO; exact g)) (fun h => ?_)
            obtain ⟨c10, c11, c12, hr, h⟩ := rw_i64_i64_l3_inv h
            refine elem_of hO _ (by subst hO; exact hr) ?_
            clear hr
            conv => cbv
            refine call_h hO [.shut, .shut] (ih_p132b O.len hN h) ?_
            intro os Q hos hQ
            conv => cbv
            refine ⟨(by (rw [hos]) <;> (subst hO; rfl)), ?_⟩
            intro r bs hq
            rw [hQ] at hq
            clear hos hQ h
            obtain ⟨y13, y14, y15, _, _, ⟨rfl, rfl⟩, h⟩ := hq
            conv => cbv
            refine ⟨agree_of hO (Nat.le_of_ble_eq_true rfl) rfl, ?_⟩
            refine ⟨agree_of hO (Nat.le_of_ble_eq_true rfl) rfl, ?_⟩
            refine view_h hO h (fun g => (by subst hO; exact g)) (fun h => ?_)
            conv => cbv
            refine and_h h (fun g => (by subst hO; exact g)) (fun h => ?_)
            refine emp_no hO (by subst hO; exact List.cons_ne_nil _ _) ?_
            conv => cbv
            refine join_all hO ?_
            conv => cbv
            exact hLn1 n1 _ _ (Nat.lt_succ_self n1) ⟨(nilE ++ (List.take 1 [[(CV.v (.int .i64 y13)), (CV.v (.int .i64 y14)), (CV.sl 3 y15 none)]])), binStd .add .i64 z9 1, (.inr ⟨(by (conv => lhs; cbv) <;> (subst hO; rfl)), (by (conv => lhs; cbv) <;> (subst hO; rfl))⟩), h⟩
          · conv => cbv
            rw [hQ]
            exact ⟨x0, x1, nilE, _, _, ⟨(by subst hO; rfl), (by subst hO; rfl)⟩, h⟩
        · obtain ⟨rfl, rfl⟩ := hs
          conv => cbv
          refine br_h hO h (by subst hO; rfl) (fun hc2 h => ?_) (fun hc2 h => ?_)
          · conv => cbv
            refine join_all hO ?_
            conv => cbv
            refine drawn_of hO tiA [[], [], [], [], []] [(0, true, false), (1, true, false), (2, true, false), (3, true, false), (4, true, false), (5, true, false), (6, true, false), (7, true, false), (8, false, false), (9, false, false), (10, false, true), (11, true, true), (12, false, true)] (by kernel_rfl) ?_
            conv => cbv
            refine and_h h (fun g => (by subst hO; exact g)) (fun h => ?_)
            refine and_h h (fun g => (by subst hO; exact g)) (fun h => ?_)
            obtain ⟨c10, c11, c12, hr, h⟩ := rw_i64_i64_l3_inv h
            refine elem_of hO _ (by subst hO; exact hr) ?_
            clear hr
            conv => cbv
            refine call_h hO [.shut, .shut] (ih_p132b O.len hN h) ?_
            intro os Q hos hQ
            conv => cbv
            refine ⟨(by (rw [hos]) <;> (subst hO; rfl)), ?_⟩
            intro r bs hq
            rw [hQ] at hq
            clear hos hQ h
            obtain ⟨y13, y14, y15, _, _, ⟨rfl, rfl⟩, h⟩ := hq
            conv => cbv
            refine ⟨agree_of hO (Nat.le_of_ble_eq_true rfl) rfl, ?_⟩
            refine ⟨agree_of hO (Nat.le_of_ble_eq_true rfl) rfl, ?_⟩
            refine view_h hO h (fun g => (by subst hO; exact g)) (fun h => ?_)
            conv => cbv
            refine ⟨(by subst hO; rfl), ?_⟩
            refine and_h h (fun g => (by subst hO; exact g)) (fun h => ?_)
            refine join_all hO ?_
            conv => cbv
            exact hLn1 n1 _ _ (Nat.lt_succ_self n1) ⟨(z8 ++ (List.take 1 [[(CV.v (.int .i64 y13)), (CV.v (.int .i64 y14)), (CV.sl 3 y15 none)]])), binStd .add .i64 z9 1, (.inr ⟨(by (conv => lhs; cbv) <;> (subst hO; rfl)), (by (conv => lhs; cbv) <;> (subst hO; rfl))⟩), h⟩
          · conv => cbv
            refine view_full hO ?_
            conv => cbv
            rw [hQ]
            exact ⟨x0, x1, z8, _, _, ⟨(by subst hO; rfl), (by subst hO; rfl)⟩, h⟩
theorem b_p101 (fu : Nat) (ih_p132b : D_p132b fu) (ih_p101 : D_p101 fu) {K0 : Int → Int → EL → Prop} (L : EL → Nat) (hN : L = List.length) {x0 : Int} {x1 : Int} {x2 : EL} (h : p101_b False fu (p132b False fu) (p101 False fu) K0 x0 x1 x2) : Den Try.prog G0 101 [.agg [.c (.v (.int .i64 x0)), .c (.v (.int .i64 x1)), .c (.sl 3 x2 none)]] (fun r bs => (∃ (y0 : Int) (y1 : Int) (y2 : EL) (o0 : OV), (r = .agg [.c (.v (.int .i64 y0)), .c (.v (.int .i64 y1)), .c (.sl 3 y2 none)] ∧ bs = [o0]) ∧ K0 y0 y1 y2)) := by
  obtain ⟨O, hO⟩ : ∃ O, O = std 0 T G0 (Den Try.prog G0) := ⟨_, rfl⟩
  have hLO : L = O.len := by rw [hN, hO]; rfl
  subst hLO
  refine den_h hO tiA mixed tabOk (fn := Try.f101) (sh := true) (by kernel_rfl) rfl rfl rfl rfl ?_
  intro Q hQ
  unfold p101_b at h
  conv => cbv
  refine call_h hO [.shut, .shut] (ih_p132b O.len hN h) ?_
  intro os Q hos hQ
  conv => cbv
  refine ⟨(by (rw [hos]) <;> (subst hO; rfl)), ?_⟩
  intro r bs hq
  rw [hQ] at hq
  clear hos hQ h
  obtain ⟨y1, y2, y3, _, _, ⟨rfl, rfl⟩, h⟩ := hq
  conv => cbv
  rw [hQ]
  exact ⟨y1, y2, y3, _, ⟨(by subst hO; rfl), (by subst hO; rfl)⟩, h⟩
theorem dd_p132b (fu : Nat) : D_p132b fu ∧ D_p101 fu := by
  induction fu with
  | zero => exact ⟨(by unfold D_p132b; intros; rename_i h; rw [p132b] at h; exact h.elim), (by unfold D_p101; intros; rename_i h; rw [p101] at h; exact h.elim)⟩
  | succ n ih =>
    obtain ⟨i0, i1⟩ := ih
    exact ⟨(by unfold D_p132b; intro K0 L hN x0 x1 x2 x3 h; exact b_p132b n i0 i1 L hN (by rw [p132b] at h; exact h)), (by unfold D_p101; intro K0 L hN x0 x1 x2 h; exact b_p101 n i0 i1 L hN (by rw [p101] at h; exact h))⟩
theorem d_p101 (fu : Nat) {K0 : Int → Int → EL → Prop} (L : EL → Nat) (hL : L = List.length) {x0 : Int} {x1 : Int} {x2 : EL} (h : p101 False fu K0 x0 x1 x2) : Den Try.prog G0 101 [.agg [.c (.v (.int .i64 x0)), .c (.v (.int .i64 x1)), .c (.sl 3 x2 none)]] (fun r bs => (∃ (y0 : Int) (y1 : Int) (y2 : EL) (o0 : OV), (r = .agg [.c (.v (.int .i64 y0)), .c (.v (.int .i64 y1)), .c (.sl 3 y2 none)] ∧ bs = [o0]) ∧ K0 y0 y1 y2)) := (dd_p132b fu).2 L hL h
end Go.Proofs.Ythncmjlcmlmnmaa

namespace Go.Proofs.Ythncmjlcmlmnmaa
open Go V
set_option maxRecDepth 100000
set_option maxHeartbeats 4000000
/-- ref5.Sort -/
def p49 {ρ : Type} (fail : ρ) (fu : Nat)  (K0 : Int → Int → ByteArray → EL → EL → ρ) (x0 : Int) (x1 : Int) (x2 : EL) : ρ :=
  p101 fail fu (fun y1 y2 y3 => gd (1 ≤ [[(CV.v (.int .i64 y1)), (CV.v (.int .i64 y2)), (CV.sl 3 y3 none)]].length) fail (K0 1 0 ⟨#[]⟩ (List.take 1 [[(CV.v (.int .i64 y1)), (CV.v (.int .i64 y2)), (CV.sl 3 y3 none)]]) nilE)) x0 x1 x2
theorem d_p49 (fu : Nat)  {K0 : Int → Int → ByteArray → EL → EL → Prop} (L : EL → Nat) (hN : L = List.length) {x0 : Int} {x1 : Int} {x2 : EL} (h : p49 False fu K0 x0 x1 x2) : Den Try.prog G0 49 [.agg [.c (.v (.int .i64 x0)), .c (.v (.int .i64 x1)), .c (.sl 3 x2 none)]] (fun r bs => (∃ (y0 : Int) (y1 : Int) (y2 : ByteArray) (y3 : EL) (y4 : EL) (o0 : OV), (r = .agg [.c (.v (.int .i64 y0)), .c (.v (.int .i64 y1)), .c (.v (.string y2)), .c (.sl 3 y3 none), .c (.sl 5 y4 none)] ∧ bs = [o0]) ∧ K0 y0 y1 y2 y3 y4)) := by
  obtain ⟨O, hO⟩ : ∃ O, O = std 0 T G0 (Den Try.prog G0) := ⟨_, rfl⟩
  have hLO : L = O.len := by rw [hN, hO]; rfl
  subst hLO
  refine den_h hO tiA mixed tabOk (fn := Try.f49) (sh := true) (by kernel_rfl) rfl rfl rfl rfl ?_
  intro Q hQ
  unfold p49 at h
  conv => cbv
  refine call_h hO [.shut] (d_p101 fu O.len hN h) ?_
  intro os Q hos hQ
  conv => cbv
  refine ⟨(by (rw [hos]) <;> (subst hO; rfl)), ?_⟩
  intro r bs hq
  rw [hQ] at hq
  clear hos hQ h
  obtain ⟨y1, y2, y3, _, ⟨rfl, rfl⟩, h⟩ := hq
  conv => cbv
  refine view_h hO h (fun g => (by subst hO; exact g)) (fun h => ?_)
  conv => cbv
  rw [hQ]
  exact ⟨1, 0, ⟨#[]⟩, List.take 1 [[(CV.v (.int .i64 y1)), (CV.v (.int .i64 y2)), (CV.sl 3 y3 none)]], nilE, _, ⟨(by subst hO; rfl), (by subst hO; rfl)⟩, h⟩
end Go.Proofs.Ythncmjlcmlmnmaa

namespace Go.Proofs.Ythncmjlcmlmnmaa
open Go V
set_option maxRecDepth 100000
set_option maxHeartbeats 4000000
/-- ref5.Var -/
def p51 {ρ : Type} (fail : ρ) (fu : Nat)  (K0 : Int → Int → ByteArray → EL → EL → ρ) (x0 : Int) : ρ :=
  K0 0 x0 ⟨#[]⟩ nilE nilE
theorem d_p51 (fu : Nat)  {K0 : Int → Int → ByteArray → EL → EL → Prop} (L : EL → Nat) (hN : L = List.length) {x0 : Int} (h : p51 False fu K0 x0) : Den Try.prog G0 51 [.c (.v (.int .i64 x0))] (fun r bs => (∃ (y0 : Int) (y1 : Int) (y2 : ByteArray) (y3 : EL) (y4 : EL) (o0 : OV), (r = .agg [.c (.v (.int .i64 y0)), .c (.v (.int .i64 y1)), .c (.v (.string y2)), .c (.sl 3 y3 none), .c (.sl 5 y4 none)] ∧ bs = [o0]) ∧ K0 y0 y1 y2 y3 y4)) := by
  obtain ⟨O, hO⟩ : ∃ O, O = std 0 T G0 (Den Try.prog G0) := ⟨_, rfl⟩
  have hLO : L = O.len := by rw [hN, hO]; rfl
  subst hLO
  refine den_h hO tiA mixed tabOk (fn := Try.f51) (sh := true) (by kernel_rfl) rfl rfl rfl rfl ?_
  intro Q hQ
  unfold p51 at h
  conv => cbv
  rw [hQ]
  exact ⟨0, x0, ⟨#[]⟩, nilE, nilE, _, ⟨(by subst hO; rfl), (by subst hO; rfl)⟩, h⟩
end Go.Proofs.Ythncmjlcmlmnmaa

namespace Go.Proofs.Ythncmjlcmlmnmaa
open Go V
set_option maxRecDepth 100000
set_option maxHeartbeats 4000000
def p135_1 {ρ : Type} (fail : ρ) (fu : Nat)  (K0 : Int → Int → ByteArray → EL → EL → ρ) (rec1 : EL → Int → ρ) (x0 : Int) (x1 : Int) (x2 : ByteArray) (x3 : EL) (z1 : EL) (z2 : Int) : ρ :=
  bif (cmpStd .lss z2 ((x3.length : Nat) : Int)) then (gd ((0 : Int) ≤ z2) fail (gd ((z2 : Int) < (x3.length : Nat)) fail (rw_i64_i64_l3 fail (List.getD x3 ((z2 : Int).toNat) []) (fun c3 c4 c5 => p101 fail fu (fun y6 y7 y8 => gd (1 ≤ [[(CV.v (.int .i64 y6)), (CV.v (.int .i64 y7)), (CV.sl 3 y8 none)]].length) fail (gd ((z1.length + (List.take 1 [[(CV.v (.int .i64 y6)), (CV.v (.int .i64 y7)), (CV.sl 3 y8 none)]]).length) * 40 ≤ 35184372088832) fail (rec1 (z1 ++ (List.take 1 [[(CV.v (.int .i64 y6)), (CV.v (.int .i64 y7)), (CV.sl 3 y8 none)]])) (binStd .add .i64 z2 1)))) c3 c4 c5)))) else (K0 x0 x1 x2 z1 nilE)
def p135_1L {ρ : Type} (fail : ρ) (fu : Nat)  (K0 : Int → Int → ByteArray → EL → EL → ρ)  (x0 : Int) (x1 : Int) (x2 : ByteArray) (x3 : EL) : Nat → EL → Int → ρ
  | 0, _, _ => fail
  | n + 1, z1, z2 => p135_1 fail fu  K0 (p135_1L fail fu  K0  x0 x1 x2 x3 n) x0 x1 x2 x3 z1 z2
/-- ref5.leaf -/
def p135 {ρ : Type} (fail : ρ) (fu : Nat)  (K0 : Int → Int → ByteArray → EL → EL → ρ) (x0 : Int) (x1 : Int) (x2 : ByteArray) (x3 : EL) (x4 : EL) : ρ :=
  p135_1L fail fu  K0 x0 x1 x2 x3 fu nilE 0
theorem d_p135 (fu : Nat)  {K0 : Int → Int → ByteArray → EL → EL → Prop} (L : EL → Nat) (hN : L = List.length) {x0 : Int} {x1 : Int} {x2 : ByteArray} {x3 : EL} {x4 : EL} (h : p135 False fu K0 x0 x1 x2 x3 x4) : Den Try.prog G0 135 [.agg [.c (.v (.int .i64 x0)), .c (.v (.int .i64 x1)), .c (.v (.string x2)), .c (.sl 3 x3 none), .c (.sl 5 x4 none)]] (fun r bs => (∃ (y0 : Int) (y1 : Int) (y2 : ByteArray) (y3 : EL) (y4 : EL) (o0 : OV), (y3 = [] ∧ y4 = [] ∧ r = .agg [.c (.v (.int .i64 y0)), .c (.v (.int .i64 y1)), .c (.v (.string y2)), .c (.sl 3 [] (some [])), .c (.sl 5 [] (some []))] ∧ bs = [o0]) ∧ K0 y0 y1 y2 y3 y4) ∨ (∃ (y0 : Int) (y1 : Int) (y2 : ByteArray) (y3 : EL) (y4 : EL) (o0 : OV), (y4 = [] ∧ r = .agg [.c (.v (.int .i64 y0)), .c (.v (.int .i64 y1)), .c (.v (.string y2)), .arr 3 y3 none false (L y3), .c (.sl 5 [] (some []))] ∧ bs = [o0]) ∧ K0 y0 y1 y2 y3 y4)) := by
  obtain ⟨O, hO⟩ : ∃ O, O = std 0 T G0 (Den Try.prog G0) := ⟨_, rfl⟩
  have hLO : L = O.len := by rw [hN, hO]; rfl
  subst hLO
  refine den_h hO tiA mixed tabOk (fn := Try.f135) (sh := false) (by kernel_rfl) rfl rfl rfl rfl ?_
  intro Q hQ
  unfold p135 at h
  conv => cbv
  refine loop_of hO tiA [1, 2, 3, 4] [2000, 3000, 4000, 29000] [] (fun (n : Nat) tm m => ∃ (z1 : EL) (z2 : Int), ((z1 = [] ∧ tm = frame 0 31 [(1, .p 2000 0 0), (2, .p 3000 0 0), (3, .p 4000 0 0), (4, .c (.v (.int .i64 z2)))] ∧ m = ⟨[(2000, .blk 0 [.c (.v (.int .i64 x0)), .c (.v (.int .i64 x1)), .c (.v (.string x2)), .c (.sl 3 x3 none), .c (.sl 5 x4 none)]), (3000, .blk 0 [.c (.v (.int .i64 0)), .c (.v (.int .i64 0)), .c (.v (.string ⟨#[]⟩)), .c (.sl 3 [] (some [])), .c (.sl 5 [] (some []))]), (4000, .blk 0 [.c (.v (.int .i64 x0)), .c (.v (.int .i64 x1)), .c (.v (.string x2)), .c (.sl 3 [] (some [])), .c (.sl 5 [] (some []))])], 1⟩) ∨ (tm = frame 0 31 [(1, .p 2000 0 0), (2, .p 3000 0 0), (3, .p 4000 0 0), (4, .c (.v (.int .i64 z2)))] ∧ m = ⟨[(2000, .blk 0 [.c (.v (.int .i64 x0)), .c (.v (.int .i64 x1)), .c (.v (.string x2)), .c (.sl 3 x3 none), .c (.sl 5 x4 none)]), (3000, .blk 0 [.c (.v (.int .i64 0)), .c (.v (.int .i64 0)), .c (.v (.string ⟨#[]⟩)), .c (.sl 3 [] (some [])), .c (.sl 5 [] (some []))]), (4000, .blk 0 [.c (.v (.int .i64 x0)), .c (.v (.int .i64 x1)), .c (.v (.string x2)), .t 29000 0 (O.len z1), .c (.sl 5 [] (some []))]), (29000, .arr 0 3 z1 none false)], 1⟩)) ∧ p135_1L False fu  K0 x0 x1 x2 x3 n z1 z2) (fun n => n) fu ⟨nilE, 0, (.inl ⟨rfl, (by (conv => lhs; cbv) <;> (subst hO; rfl)), (by (conv => lhs; cbv) <;> (subst hO; rfl))⟩), h⟩ ?_
  rintro n1 tm m L ⟨z1, z2, hs, h⟩ hLn1
  cases n1 with
  | zero => rw [p135_1L] at h; exact h.elim
  | succ n1 =>
    rw [p135_1L] at h
    unfold p135_1 at h
    rcases hs with hs | hs
    · obtain ⟨rfl, rfl, rfl⟩ := hs
      conv => cbv
      refine br_h hO h (by subst hO; rfl) (fun hc1 h => ?_) (fun hc1 h => ?_)
      · conv => cbv
        refine join_all hO ?_
        conv => cbv
        refine drawn_of hO tiA [[], [], [], [], []] [(0, true, false), (1, true, false), (2, true, false), (3, true, false), (4, true, false), (5, true, false), (6, true, false), (7, false, false), (8, false, false), (9, false, true), (10, true, true), (11, false, true)] (by kernel_rfl) ?_
        conv => cbv
        refine and_h h (fun g => (by subst hO; exact g)) (fun h => ?_)
        refine and_h h (fun g => (by subst hO; exact g)) (fun h => ?_)
        obtain ⟨c3, c4, c5, hr, h⟩ := rw_i64_i64_l3_inv h
        refine elem_of hO _ (by subst hO; exact hr) ?_
        clear hr
        conv => cbv
        refine call_h hO [.shut] (d_p101 fu O.len hN h) ?_
        intro os Q hos hQ
        conv => cbv
        refine ⟨(by (rw [hos]) <;> (subst hO; rfl)), ?_⟩
        intro r bs hq
        rw [hQ] at hq
        clear hos hQ h
        obtain ⟨y6, y7, y8, _, ⟨rfl, rfl⟩, h⟩ := hq
        conv => cbv
        refine ⟨agree_of hO (Nat.le_of_ble_eq_true rfl) rfl, ?_⟩
        refine ⟨agree_of hO (Nat.le_of_ble_eq_true rfl) rfl, ?_⟩
        refine view_h hO h (fun g => (by subst hO; exact g)) (fun h => ?_)
        conv => cbv
        refine and_h h (fun g => (by subst hO; exact g)) (fun h => ?_)
        refine emp_no hO (by subst hO; exact List.cons_ne_nil _ _) ?_
        conv => cbv
        refine join_all hO ?_
        conv => cbv
        exact hLn1 n1 _ _ (Nat.lt_succ_self n1) ⟨(nilE ++ (List.take 1 [[(CV.v (.int .i64 y6)), (CV.v (.int .i64 y7)), (CV.sl 3 y8 none)]])), binStd .add .i64 z2 1, (.inr ⟨(by (conv => lhs; cbv) <;> (subst hO; rfl)), (by (conv => lhs; cbv) <;> (subst hO; rfl))⟩), h⟩
      · conv => cbv
        rw [hQ]
        exact (.inl ⟨x0, x1, x2, nilE, nilE, _, ⟨rfl, rfl, (by subst hO; rfl), (by subst hO; rfl)⟩, h⟩)
    · obtain ⟨rfl, rfl⟩ := hs
      conv => cbv
      refine br_h hO h (by subst hO; rfl) (fun hc1 h => ?_) (fun hc1 h => ?_)
      · conv => cbv
        refine join_all hO ?_
        conv => cbv
        refine drawn_of hO tiA [[], [], [], [], []] [(0, true, false), (1, true, false), (2, true, false), (3, true, false), (4, true, false), (5, true, false), (6, true, false), (7, false, false), (8, false, false), (9, false, true), (10, true, true), (11, false, true)] (by kernel_rfl) ?_
        conv => cbv
        refine and_h h (fun g => (by subst hO; exact g)) (fun h => ?_)
        refine and_h h (fun g => (by subst hO; exact g)) (fun h => ?_)
        obtain ⟨c3, c4, c5, hr, h⟩ := rw_i64_i64_l3_inv h
        refine elem_of hO _ (by subst hO; exact hr) ?_
        clear hr
        conv => cbv
        refine call_h hO [.shut] (d_p101 fu O.len hN h) ?_
        intro os Q hos hQ
        conv => cbv
        refine ⟨(by (rw [hos]) <;> (subst hO; rfl)), ?_⟩
        intro r bs hq
        rw [hQ] at hq
        clear hos hQ h
        obtain ⟨y6, y7, y8, _, ⟨rfl, rfl⟩, h⟩ := hq
        conv => cbv
        refine ⟨agree_of hO (Nat.le_of_ble_eq_true rfl) rfl, ?_⟩
        refine ⟨agree_of hO (Nat.le_of_ble_eq_true rfl) rfl, ?_⟩
        refine view_h hO h (fun g => (by subst hO; exact g)) (fun h => ?_)
        conv => cbv
        refine ⟨(by subst hO; rfl), ?_⟩
        refine and_h h (fun g => (by subst hO; exact g)) (fun h => ?_)
        refine join_all hO ?_
        conv => cbv
        exact hLn1 n1 _ _ (Nat.lt_succ_self n1) ⟨(z1 ++ (List.take 1 [[(CV.v (.int .i64 y6)), (CV.v (.int .i64 y7)), (CV.sl 3 y8 none)]])), binStd .add .i64 z2 1, (.inr ⟨(by (conv => lhs; cbv) <;> (subst hO; rfl)), (by (conv => lhs; cbv) <;> (subst hO; rfl))⟩), h⟩
      · conv => cbv
        refine ⟨(by subst hO; exact Nat.le_refl _), ?_⟩
        rw [hQ]
        exact (.inr ⟨x0, x1, x2, z1, nilE, _, ⟨rfl, (by subst hO; rfl), (by subst hO; rfl)⟩, h⟩)
end Go.Proofs.Ythncmjlcmlmnmaa

namespace Go.Proofs.Ythncmjlcmlmnmaa
open Go V
set_option maxRecDepth 100000
set_option maxHeartbeats 4000000
def p142_1 {ρ : Type} (fail : ρ) (fu : Nat)  (K0 : Int → ρ)   (j1 : Bool) : ρ :=
  bif j1 then (K0 1) else (K0 0)
/-- ref5.Binds -/
def p142 {ρ : Type} (fail : ρ) (fu : Nat)  (K0 : Int → ρ) (x0 : Int) (x1 : Int) : ρ :=
  bif (cmpStd .eql x0 4) then (bif (cmpStd .eql x1 1) then (p142_1 fail fu  K0  true) else (bif (cmpStd .eql x0 6) then (p142_1 fail fu  K0  (cmpStd .eql x1 2)) else (p142_1 fail fu  K0  false))) else (bif (cmpStd .eql x0 5) then (bif (cmpStd .eql x1 1) then (p142_1 fail fu  K0  true) else (bif (cmpStd .eql x0 6) then (p142_1 fail fu  K0  (cmpStd .eql x1 2)) else (p142_1 fail fu  K0  false))) else (bif (cmpStd .eql x0 6) then (p142_1 fail fu  K0  (cmpStd .eql x1 2)) else (p142_1 fail fu  K0  false)))
theorem d_p142 (fu : Nat)  {K0 : Int → Prop} (L : EL → Nat) (hN : L = List.length) {x0 : Int} {x1 : Int} (h : p142 False fu K0 x0 x1) : Den Try.prog G0 142 [.c (.v (.int .i64 x0)), .c (.v (.int .i64 x1))] (fun r bs => (∃ (y0 : Int) (o0 : OV) (o1 : OV), (r = .c (.v (.int .i64 y0)) ∧ bs = [o0, o1]) ∧ K0 y0)) := by
  obtain ⟨O, hO⟩ : ∃ O, O = std 0 T G0 (Den Try.prog G0) := ⟨_, rfl⟩
  have hLO : L = O.len := by rw [hN, hO]; rfl
  subst hLO
  refine den_h hO tiA mixed tabOk (fn := Try.f142) (sh := true) (by kernel_rfl) rfl rfl rfl rfl ?_
  intro Q hQ
  unfold p142 at h
  conv => cbv
  refine reg_join hO tiA [22] [] [] (fun tm m => ∃ (j1 : Bool), ((tm = frame 0 23 [(22, .c (.v (.bool j1)))] ∧ m = ⟨[], 1⟩)) ∧ p142_1 False fu  K0  j1) (fun L hL_1 => ?_) ?_
  · conv => cbv
    refine br_h hO h (by subst hO; rfl) (fun hc2 h => ?_) (fun hc2 h => ?_)
    · conv => cbv
      refine br_t hO hc2 ?_
      conv => cbv
      refine br_t hO hc2 ?_
      conv => cbv
      refine br_t hO rfl ?_
      conv => cbv
      refine br_t hO rfl ?_
      conv => cbv
      refine br_t hO rfl ?_
      conv => cbv
      refine br_h hO h (by subst hO; rfl) (fun hc3 h => ?_) (fun hc3 h => ?_)
      · conv => cbv
        refine br_t hO hc3 ?_
        conv => cbv
        refine br_t hO hc3 ?_
        conv => cbv
        refine br_t hO hc3 ?_
        conv => cbv
        refine br_t hO hc3 ?_
        conv => cbv
        exact hL_1 _ _ ⟨true, ⟨(by (conv => lhs; cbv) <;> (subst hO; rfl)), (by (conv => lhs; cbv) <;> (subst hO; rfl))⟩, h⟩
      · conv => cbv
        refine br_f hO hc3 ?_
        conv => cbv
        refine br_f hO hc3 ?_
        conv => cbv
        refine br_h hO h (by subst hO; rfl) (fun hc4 h => ?_) (fun hc4 h => ?_)
        · conv => cbv
          refine br_t hO hc4 ?_
          conv => cbv
          refine br_f hO hc3 ?_
          conv => cbv
          refine br_t hO hc4 ?_
          conv => cbv
          refine br_f hO hc3 ?_
          conv => cbv
          exact hL_1 _ _ ⟨(cmpStd .eql x1 2), ⟨(by (conv => lhs; cbv) <;> (subst hO; rfl)), (by (conv => lhs; cbv) <;> (subst hO; rfl))⟩, h⟩
        · conv => cbv
          refine br_f hO hc4 ?_
          conv => cbv
          refine br_f hO hc3 ?_
          conv => cbv
          refine br_f hO hc4 ?_
          conv => cbv
          refine br_f hO hc3 ?_
          conv => cbv
          exact hL_1 _ _ ⟨false, ⟨(by (conv => lhs; cbv) <;> (subst hO; rfl)), (by (conv => lhs; cbv) <;> (subst hO; rfl))⟩, h⟩
    · conv => cbv
      refine br_f hO hc2 ?_
      conv => cbv
      refine br_f hO hc2 ?_
      conv => cbv
      refine br_h hO h (by subst hO; rfl) (fun hc5 h => ?_) (fun hc5 h => ?_)
      · conv => cbv
        refine br_t hO hc5 ?_
        conv => cbv
        refine br_t hO hc5 ?_
        conv => cbv
        refine br_h hO h (by subst hO; rfl) (fun hc6 h => ?_) (fun hc6 h => ?_)
        · conv => cbv
          refine br_t hO hc6 ?_
          conv => cbv
          refine br_t hO hc6 ?_
          conv => cbv
          refine br_t hO hc6 ?_
          conv => cbv
          refine br_t hO hc6 ?_
          conv => cbv
          exact hL_1 _ _ ⟨true, ⟨(by (conv => lhs; cbv) <;> (subst hO; rfl)), (by (conv => lhs; cbv) <;> (subst hO; rfl))⟩, h⟩
        · conv => cbv
          refine br_f hO hc6 ?_
          conv => cbv
          refine br_f hO hc6 ?_
          conv => cbv
          refine br_h hO h (by subst hO; rfl) (fun hc7 h => ?_) (fun hc7 h => ?_)
          · conv => cbv
            refine br_t hO hc7 ?_
            conv => cbv
            refine br_f hO hc6 ?_
            conv => cbv
            refine br_t hO hc7 ?_
            conv => cbv
            refine br_f hO hc6 ?_
            conv => cbv
            exact hL_1 _ _ ⟨(cmpStd .eql x1 2), ⟨(by (conv => lhs; cbv) <;> (subst hO; rfl)), (by (conv => lhs; cbv) <;> (subst hO; rfl))⟩, h⟩
          · conv => cbv
            refine br_f hO hc7 ?_
            conv => cbv
            refine br_f hO hc6 ?_
            conv => cbv
            refine br_f hO hc7 ?_
            conv => cbv
            refine br_f hO hc6 ?_
            conv => cbv
            exact hL_1 _ _ ⟨false, ⟨(by (conv => lhs; cbv) <;> (subst hO; rfl)), (by (conv => lhs; cbv) <;> (subst hO; rfl))⟩, h⟩
      · conv => cbv
        refine br_f hO hc5 ?_
        conv => cbv
        refine br_f hO hc5 ?_
        conv => cbv
        refine br_f hO rfl ?_
        conv => cbv
        refine br_f hO rfl ?_
        conv => cbv
        refine br_f hO rfl ?_
        conv => cbv
        refine br_h hO h (by subst hO; rfl) (fun hc8 h => ?_) (fun hc8 h => ?_)
        · conv => cbv
          refine br_t hO hc8 ?_
          conv => cbv
          refine br_f hO rfl ?_
          conv => cbv
          refine br_t hO hc8 ?_
          conv => cbv
          refine br_f hO rfl ?_
          conv => cbv
          exact hL_1 _ _ ⟨(cmpStd .eql x1 2), ⟨(by (conv => lhs; cbv) <;> (subst hO; rfl)), (by (conv => lhs; cbv) <;> (subst hO; rfl))⟩, h⟩
        · conv => cbv
          refine br_f hO hc8 ?_
          conv => cbv
          refine br_f hO rfl ?_
          conv => cbv
          refine br_f hO hc8 ?_
          conv => cbv
          refine br_f hO rfl ?_
          conv => cbv
          exact hL_1 _ _ ⟨false, ⟨(by (conv => lhs; cbv) <;> (subst hO; rfl)), (by (conv => lhs; cbv) <;> (subst hO; rfl))⟩, h⟩
  · rintro tm m ⟨j1, hs, h⟩
    unfold p142_1 at h
    obtain ⟨rfl, rfl⟩ := hs
    conv => cbv
    refine br_h hO h (by subst hO; rfl) (fun hc1 h => ?_) (fun hc1 h => ?_)
    · conv => cbv
      rw [hQ]
      exact ⟨1, _, _, ⟨(by subst hO; rfl), (by subst hO; rfl)⟩, h⟩
    · conv => cbv
      refine join_all hO ?_
      conv => cbv
      rw [hQ]
      exact ⟨0, _, _, ⟨(by subst hO; rfl), (by subst hO; rfl)⟩, h⟩
end Go.Proofs.Ythncmjlcmlmnmaa

