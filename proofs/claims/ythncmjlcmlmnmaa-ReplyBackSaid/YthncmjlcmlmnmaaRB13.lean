/- How the program writes a reply; what is written is read again. Conditions: none. -/
import Derived.Test.YthncmjlcmlmnmaaRB12
import Derived.Test.YthncmjlcmlmnmaaG
import Derived.Test.YthncmjlcmlmnmaaPR
import Derived.Test.YthncmjlcmlmnmaaRB7
import Derived.Test.YthncmjlcmlmnmaaRB8
import Derived.KernelRfl
import Derived.Test.YthncmjlcmlmnmaaVB
import Derived.Test.YthncmjlcmlmnmaaProg
import Derived.ProofKit
import Derived.Test.YthncmjlcmlmnmaaRB9
namespace Go.Proofs.Ythncmjlcmlmnmaa
open Go V
set_option maxRecDepth 100000
set_option maxHeartbeats 2000000
theorem lowB_head : ∀ (m v : Nat), lowB (m + 1) v = UInt8.ofNat (v / 256 ^ m % 256) :: lowB m v
  | 0, v => by simp [lowB]
  | m + 1, v => by
    rw [lowB, lowB_head m (v / 256)]
    rw [Nat.div_div_eq_div_mul, show 256 * 256 ^ m = 256 ^ (m + 1) by rw [Nat.pow_succ, Nat.mul_comm]]
    rw [List.cons_append]
    congr 1
theorem ofNat_mod (n : Nat) : UInt8.ofNat n = UInt8.ofNat (n % 256) := by
  apply UInt8.toNat_inj.1; simp
theorem eight_loop_w {ρ : Type} (fail : ρ) (fu : Nat) (K : EL → ρ) (v : Nat) : ∀ (m n : Nat) (z : EL), m ≤ 8 → m < n → z.length + m ≤ 35184372088832 → p84_1L fail fu K (v : Nat) n z ((8 * m : Nat) - 8 : Int) = K (z ++ encB (lowB m v)) := by
  intro m
  induction m with
  | zero =>
    intro n z _ hn _
    obtain ⟨n, rfl⟩ : ∃ n', n = n' + 1 := ⟨n - 1, by omega⟩
    rw [p84_1L, p84_1, geqF (by omega), cond_false]; simp [lowB]
  | succ m ih =>
    intro n z hm hn hz
    obtain ⟨n, rfl⟩ : ∃ n', n = n' + 1 := ⟨n - 1, by omega⟩
    have e0 : ((8 * (m + 1) : Nat) - 8 : Int) = ((8 * m : Nat) : Int) := by omega
    have e1 : IntKind.u64.wrap ((8 * m : Nat) : Int) = ((8 * m : Nat) : Int) := u64_nat _ (by omega)
    have e2 : binStd .shr .u64 ((v : Nat) : Int) ((8 * m : Nat) : Int) = ((v / 256 ^ m : Nat) : Int) := by
      show ((v : Nat) : Int).fdiv (2 ^ (min (((8 * m : Nat) : Int)).toNat 64)) = _
      have : min (((8 * m : Nat) : Int)).toNat 64 = 8 * m := by rw [Int.toNat_natCast]; omega
      rw [this, fdiv_nn _ _ (Int.le_of_lt (Int.pow_pos (by decide)))]
      have h2 : (2 : Int) ^ (8 * m) = ((256 ^ m : Nat) : Int) := by
        rw [show (256 : Nat) = 2 ^ 8 from rfl, ← Nat.pow_mul, Int.natCast_pow]; rfl
      rw [h2]; rfl
    rw [e0, p84_1L, p84_1, geqT (by omega), cond_true, e1, gd_y (by omega), gd_y (by simp), gd_y (by simp; omega), e2, subZ (by omega) (by omega)]
    have := ih n (z ++ List.take 1 [[CV.v (.int .u8 (IntKind.u8.wrap ((v / 256 ^ m : Nat) : Int)))]]) (by omega) (by omega) (by simp; omega)
    rw [this, List.append_assoc, lowB_head, ← ofNat_mod]
    refine congrArg (fun q => K (z ++ q)) ?_
    show [[CV.v (.int .u8 (IntKind.u8.wrap ((v / 256 ^ m : Nat) : Int)))]] ++ _ = _
    rw [encB_u8, ← encB_append]; rfl
theorem eight_w {ρ : Type} (fail : ρ) (fu : Nat) (hf : 10 ≤ fu) (K : EL → ρ) (v : Nat) (z : EL) (hz : z.length + 16 ≤ 35184372088832) : p84 fail fu K z (v : Nat) = K (z ++ encB (lowB 8 v)) := by
  have e0 : ∀ y : EL, List.replicate (Int.toNat 0) [CV.v (.int .u8 0)] ++ y = y := fun _ => rfl
  rw [p84, p120, addZ (by omega) (by omega), gd_y (by omega), gd_y (by omega), gd_y (by omega), gd_y (by decide), gd_y (by simp; omega), e0]
  exact eight_loop_w fail fu K v 8 fu z (by omega) (by omega) (by omega)
theorem flag_w {ρ : Type} (fail : ρ) (fu : Nat) (hf : 11 ≤ fu) (K : EL → ρ) (b : Bool) (z : EL) (hz : z.length + 10 ≤ 35184372088832) : p85 fail fu K z b = K (z ++ encB (varB (if b = true then 1 else 0))) := by
  cases b with
  | true => rw [p85, cond_true, gd_y (by simp), num_w1 fail fu hf _ 1 z hz, p85_1]; rfl
  | false => rw [p85, cond_false, gd_y (by simp), num_w1 fail fu hf _ 0 z hz, p85_1]; rfl
theorem ax_w {ρ : Type} (fail : ρ) (fu : Nat) (K : EL → ρ) (l : List ByteArray) (hfu : axSz l + 20 ≤ fu) (hsz : axSz l < 1099511627776) :
    ∀ (r i n : Nat) (z : EL), i + r = l.length → r < n → z.length + (axB (l.drop i)).length ≤ 35184372087000 → p43_1L fail fu K (l.map strRow) n z ((l.length : Nat) : Int) ((i : Nat) : Int) = K (z ++ encB (axB (l.drop i))) := by
  have hl := axSz_len l
  intro r
  induction r with
  | zero =>
    intro i n z hi hn hz
    obtain ⟨n, rfl⟩ : ∃ m, n = m + 1 := ⟨n - 1, by omega⟩
    rw [p43_1L, p43_1, lssF (by omega), cond_false, List.drop_eq_nil_of_le (by omega)]
    simp [axB]
  | succ r ih =>
    intro i n z hi hn hz
    obtain ⟨n, rfl⟩ : ∃ m, n = m + 1 := ⟨n - 1, by omega⟩
    have hlt : i < l.length := by omega
    have hm := axSz_mem (List.getElem_mem hlt)
    have hd : l.drop i = l[i] :: l.drop (i + 1) := List.drop_eq_getElem_cons hlt
    rw [hd] at hz ⊢
    simp only [axB, List.length_append] at hz ⊢
    have htx : (txB l[i]).length = (varB l[i].size).length + l[i].size := by simp [txB, sz_data]
    have h10 := varB_10 (show l[i].size < 2 ^ 64 by omega)
    rw [p43_1L, p43_1, lssT (by omega), cond_true, gd_y (by omega), gd_y (by rw [List.length_map]; omega), str_row fail l i hlt, gsz, text_w fail fu (by omega) _ _ z (by omega) (by omega), addZ (by omega) (by omega), show ((i : Nat) : Int) + 1 = ((i + 1 : Nat) : Int) by omega]
    rw [ih (i + 1) n _ (by omega) (by omega) (by simp only [List.length_append, encB_length]; omega)]
    simp [List.append_assoc]
theorem after_eq2 {ρ : Type} (fail : ρ) (fu : Nat) (K : EL → ρ) (b : List UInt8) (hb : b.length ≤ 35184372088832) : p63 fail fu K (encB b) = K (encB b) := by
  rw [p63, gd_y (by rfl), gd_y (by rw [encB_length]; simp; omega)]; rfl
theorem opt_some' {α β : Type} {x : Except Int α} {f : α → Option β} {b : β} (h : opt x f = some b) : ∃ a, x = .ok a ∧ f a = some b := by
  cases x with
  | error e => cases h
  | ok a => exact ⟨a, rfl, h⟩
theorem put_w {ρ : Type} (fail : ρ) (fu : Nat) (K : EL → ρ) (err : Int) (hi lo : Nat) (fuel cells : Int) (yes : Bool) (t : Tm) (pa : Int) (ax : List ByteArray) (ht1 : t.sz + 60 ≤ fu) (ht2 : t.sz < 1099511627776) (ha1 : axSz ax + 60 ≤ fu) (ha2 : axSz ax < 1099511627776)
    (hz : (rpEnc err hi lo fuel cells yes t pa ax).length ≤ 35184372086000) : p43 fail fu K nilE err (hi : Nat) (lo : Nat) fuel cells yes t.k t.n t.nm (Lv.rows t.ls) (Tm.rows t.args) pa (ax.map strRow) = K (encB (rpEnc err hi lo fuel cells yes t pa ax)) := by
  have hal := axSz_len ax
  have u1 := varB_10 (uv_lt err)
  have u2 := varB_10 (uv_lt fuel)
  have u3 := varB_10 (uv_lt cells)
  have u4 := varB_10 (uv_lt pa)
  have u5 := varB_10 (show ax.length < 2 ^ 64 by omega)
  have l1 := lowB_len 8 hi
  have l2 := lowB_len 8 lo
  have hv1 : (varB 1).length = 1 := by rw [varB_lt (by omega)]; rfl
  have hv0 : (varB 0).length = 1 := by rw [varB_lt (by omega)]; rfl
  have hy : (varB (if yes = true then 1 else 0)).length = 1 := by split <;> assumption
  have hg : uv ((ax.length : Nat) : Int) = ax.length := uv_nat _ (by omega)
  simp only [rpEnc, List.length_append] at hz
  have tail : ∀ y : EL, y.length + (varB (uv pa)).length + (varB ax.length).length + (axB ax).length ≤ 35184372086900 → p43_2 fail fu K pa (ax.map strRow) y = K (y ++ encB (varB (uv pa) ++ (varB ax.length ++ axB ax))) := fun y hy => by
    have h2 : List.take 2 [[CV.v (.int .i64 pa)], [CV.v (.int .i64 (((ax.map strRow).length : Nat) : Int))]] = encI [pa, ((ax.length : Nat) : Int)] := by rw [List.length_map]; rfl
    have := ax_w fail fu K ax (by omega) ha2 ax.length 0 fu (y ++ encB (varB (uv pa) ++ varB ax.length)) (by omega) (by omega) (by simp only [List.length_append, encB_length, List.drop_zero]; omega)
    rw [show ((0 : Nat) : Int) = 0 from rfl] at this
    rw [p43_2, gd_y (by simp), h2, num_w fail fu _ _ (by simp only [List.length_cons, List.length_nil]; omega) y (by simp only [List.length_cons, List.length_nil]; omega), List.length_map]
    simp only [numsB_cons, show numsB [] = [] from rfl, List.append_nil, hg]
    rw [this, List.drop_zero]
    simp [List.append_assoc]
  have h2 : List.take 2 [[CV.v (.int .i64 fuel)], [CV.v (.int .i64 cells)]] = encI [fuel, cells] := rfl
  have e0 : (nilE : EL) = encB [] := rfl
  have hz1 := fun K => term_isZ (ρ := ρ) fail fu (by omega) K t
  rw [p43, e0, after_eq2 _ _ _ _ (by simp), gd_y (by simp), num_w1 fail fu (by omega) _ err _ (by simp), eight_w fail fu (by omega) _ hi _ (by simp only [List.length_append, encB_length, List.length_nil]; omega), eight_w fail fu (by omega) _ lo _ (by simp only [List.length_append, encB_length, List.length_nil]; omega), gd_y (by simp), h2,
    num_w fail fu _ _ (by simp only [List.length_cons, List.length_nil]; omega) _ (by simp only [List.length_append, encB_length, List.length_cons, List.length_nil]; omega), flag_w fail fu (by omega) _ yes _ (by simp only [List.length_append, encB_length, numsB_cons, show numsB [] = [] from rfl, List.length_nil]; omega), ← e0, hz1, flag_w fail fu (by omega) _ _ _ (by simp only [List.length_append, encB_length, numsB_cons, show numsB [] = [] from rfl, List.length_nil]; omega)]
  by_cases c : isZ t = true
  · rw [if_pos c] at hz
    rw [c, Bool.not_true, cond_false, show (if false = true then 1 else 0 : Nat) = 0 from rfl, tail _ (by simp only [List.length_append, encB_length, numsB_cons, show numsB [] = [] from rfl, List.length_nil]; omega)]
    simp [rpEnc, c, numsB_cons, show numsB [] = [] from rfl, List.append_assoc]
  · rw [if_neg c] at hz
    simp only [List.length_append] at hz
    have c' : isZ t = false := Bool.eq_false_iff.2 c
    rw [c', Bool.not_false, cond_true, show (if true = true then 1 else 0 : Nat) = 1 from rfl, term_w fail _ t (Nat.le_refl _) fu _ _ (by omega) ht2 (by simp only [List.length_append, encB_length, numsB_cons, show numsB [] = [] from rfl, List.length_nil]; omega), tail _ (by simp only [List.length_append, encB_length, numsB_cons, show numsB [] = [] from rfl, List.length_nil]; omega)]
    simp [rpEnc, c', numsB_cons, show numsB [] = [] from rfl, List.append_assoc]
-- ---------------------------------------------------------------- read again
theorem rdEight_back (v : Nat) (h : v < 2 ^ 64) (r : List UInt8) : rdEight (lowB 8 v ++ r) = .ok (v, r) := by
  have hl := lowB_len 8 v
  unfold rdEight
  rw [if_neg (by rw [List.length_append]; omega)]
  have h1 : (lowB 8 v ++ r).take 8 = lowB 8 v := by rw [← hl]; exact List.take_left
  have h2 : (lowB 8 v ++ r).drop 8 = r := by rw [← hl]; exact List.drop_left
  rw [h1, h2, be_lowB 8 v (Nat.lt_of_lt_of_le h (by decide))]
theorem rdEight_more {bs r : List UInt8} {v : Nat} (m : List UInt8) (h : rdEight bs = .ok (v, r)) : rdEight (bs ++ m) = .ok (v, r ++ m) := by
  unfold rdEight at h ⊢; split at h
  · cases h
  · rename_i hc
    injection h with h; injection h with h1 h2; subst h1 h2
    rw [if_neg (by rw [List.length_append]; omega), List.take_append_of_le_length (by omega), List.drop_append_of_le_length (by omega)]
theorem rdName_more (m : List UInt8) (p : Nat) (bs : List UInt8) (a : ByteArray) (r : List UInt8) (q : Nat) (h : rdName p bs = .ok (a, r, q)) : rdName p (bs ++ m) = .ok (a, r ++ m, q) := by
  unfold rdName at h ⊢; split at h
  · cases h
  · rename_i s r' h'
    rw [rdTxt_more m h']
    injection h with h; injection h with h1 h; injection h with h2 h3; subst h1 h2 h3; rfl
theorem names_back (l : List ByteArray) (h : ∀ s ∈ l, s.size ≤ 24) (p : Nat) (r : List UInt8) : many rdName l.length p (axB l ++ r) = .ok (l, r, p) := by
  have := many_back (f := rdName) (g := txB) (gs := axB) (c := fun _ => 0) (cs := fun _ => 0) rfl (fun _ _ => rfl) rfl (fun _ _ => rfl) (m := p) l p r (fun a ha p r _ => by
    unfold rdName; rw [rdTxt_back 24 a (h a ha) (by omega)]; dsimp only; rw [ba_data]; rfl) (by omega)
  simpa using this
theorem rdR5_back (pa : Nat) (hpa : pa ≤ 1073741824) (l : List ByteArray) (h : ∀ s ∈ l, s.size ≤ 24) (hl : l.length ≤ 65536) (m : List UInt8) : rdR5 (varB pa ++ (varB l.length ++ axB l) ++ m) = if m.length = 0 then some (pa, l) else none := by
  unfold rdR5
  rw [List.append_assoc, rdNum_back pa hpa]
  dsimp only
  rw [List.append_assoc, rdNum_back _ (by omega)]
  dsimp only
  rw [if_neg (by omega), names_back l h]
theorem rdR5_more {bs : List UInt8} {pa : Nat} {l : List ByteArray} (m : List UInt8) (hm : m ≠ []) (h : rdR5 bs = some (pa, l)) : rdR5 (bs ++ m) = none := by
  unfold rdR5 at h ⊢; split at h
  · cases h
  · rename_i pa' b1 h1
    rw [rdNum_more m h1]
    dsimp only
    split at h
    · cases h
    · rename_i n b2 h2
      rw [rdNum_more m h2]
      dsimp only
      split at h
      · cases h
      · rename_i hc
        rw [if_neg hc]
        split at h
        · cases h
        · rename_i l' b3 q h3
          rw [many_more m (rdName_more m) _ _ _ _ _ _ h3]
          dsimp only
          rw [if_neg (by rw [List.length_append]; have := List.length_pos_iff.2 hm; omega)]
theorem rdR6_more {has : Nat} {bs : List UInt8} {x : Tm × Nat × List ByteArray} (m : List UInt8) (hm : m ≠ []) (h : rdR6 has bs = some x) : rdR6 has (bs ++ m) = none := by
  unfold rdR6 at h ⊢; split at h
  · rename_i h1
    rw [if_pos h1]
    split at h
    · cases h
    · rename_i t b1 ht
      rw [rdTerm_more m ht]
      dsimp only
      split at h
      · cases h
      · rename_i hz
        rw [if_neg hz]
        split at h
        · cases h
        · rename_i pa l h5
          rw [rdR5_more m hm h5]
  · rename_i h1
    rw [if_neg h1]
    split at h
    · cases h
    · rename_i pa l h5
      rw [rdR5_more m hm h5]
/-- A reply with bytes behind it is none. -/
theorem rdRep_more {bs : List UInt8} {r : Rp} (m : List UInt8) (hm : m ≠ []) (h : rdRep bs = some r) : rdRep (bs ++ m) = none := by
  unfold rdRep at h ⊢
  obtain ⟨⟨v1, b1⟩, g1, h⟩ := opt_some' h
  obtain ⟨⟨v2, b2⟩, g2, h⟩ := opt_some' h
  obtain ⟨⟨v3, b3⟩, g3, h⟩ := opt_some' h
  obtain ⟨⟨v4, b4⟩, g4, h⟩ := opt_some' h
  obtain ⟨⟨v5, b5⟩, g5, h⟩ := opt_some' h
  obtain ⟨⟨v6, b6⟩, g6, h⟩ := opt_some' h
  obtain ⟨⟨v7, b7⟩, g7, h⟩ := opt_some' h
  rw [rdNum_more m g1]; simp only [opt]
  rw [rdEight_more m g2]; dsimp only
  rw [rdEight_more m g3]; dsimp only
  rw [rdNum_more m g4]; dsimp only
  rw [rdNum_more m g5]; dsimp only
  rw [rdKind_more m g6]; dsimp only
  rw [rdKind_more m g7]; dsimp only
  dsimp only at h
  split at h
  · cases h
  · rename_i t pa l h8
    rw [rdR6_more m hm h8]
theorem rdRep_back (err hi lo fuel cells : Nat) (h1 : err ≤ 1073741824) (h2 : hi < 2 ^ 64) (h3 : lo < 2 ^ 64) (h4 : fuel ≤ 1073741824) (h5 : cells ≤ 1073741824) (yes : Bool) (t : Tm) (ht : t.good 100) (htp : t.parts ≤ 2000) (pa : Nat) (h6 : pa ≤ 1073741824) (ax : List ByteArray) (h7 : ∀ s ∈ ax, s.size ≤ 24) (h8 : ax.length ≤ 65536) :
    rdRep (rpEnc (err : Nat) hi lo (fuel : Nat) (cells : Nat) yes t (pa : Nat) ax) = some ⟨(err : Nat), (hi : Nat), (lo : Nat), (fuel : Nat), (cells : Nat), yes, t, (pa : Nat), ax⟩ := by
  unfold rdRep
  have hy : (if yes = true then 1 else 0) ≤ 1 := by split <;> omega
  have r5 := rdR5_back pa h6 ax h7 h8 []
  rw [List.append_nil] at r5
  simp only [rpEnc, uv_nat err (by omega), uv_nat fuel (by omega), uv_nat cells (by omega), uv_nat pa (by omega)]
  rw [rdNum_back err h1]; simp only [opt]
  rw [rdEight_back hi h2]; dsimp only
  rw [rdEight_back lo h3]; dsimp only
  rw [rdNum_back fuel h4]; dsimp only
  rw [rdNum_back cells h5]; dsimp only
  rw [rdKind_back 0 1 _ (by omega) hy (by omega)]; dsimp only
  have hyb : decide ((if yes = true then 1 else 0) = 1) = yes := by cases yes <;> rfl
  by_cases c : isZ t = true
  · rw [if_pos c, rdKind_back 0 1 0 (by omega) (by omega) (by omega)]; dsimp only
    unfold rdR6
    rw [if_neg (by omega), r5, hyb, (isZ_iff t).1 c]; rfl
  · rw [if_neg c, List.append_assoc, rdKind_back 0 1 1 (by omega) (by omega) (by omega)]; dsimp only
    unfold rdR6
    rw [if_pos rfl, rdTerm_back t ht htp]
    dsimp only
    rw [if_neg c, r5, hyb]; rfl
end Go.Proofs.Ythncmjlcmlmnmaa

namespace Go.Proofs.Ythncmjlcmlmnmaa
open Go V
set_option maxRecDepth 100000
set_option maxHeartbeats 4000000
def p41_1 {ρ : Type} (fail : ρ) (fu : Nat)  (K0 : Bool → ρ)   (j16 : Bool) : ρ :=
  K0 j16
/-- law26.begun -/
def p41 {ρ : Type} (fail : ρ) (fu : Nat)  (K0 : Bool → ρ)  : ρ :=
  p43 fail fu (fun y1 => p45 fail fu (fun y2 y3 y4 y5 y6 y7 y8 y9 y10 y11 y12 y13 y14 y15 => bif (cmpStd .eql ((y1.length : Nat) : Int) 23) then (gd ((0 : Int) ≤ 0) fail (gd ((0 : Int) < (y1.length : Nat)) fail (rw_u8 fail (List.getD y1 ((0 : Int).toNat) []) (fun c17 => bif (cmpStd .eql c17 3) then (bif (cmpStd .eql y15 0) then (p41_1 fail fu  K0  (cmpStd .eql y2 3)) else (p41_1 fail fu  K0  false)) else (p41_1 fail fu  K0  false))))) else (p41_1 fail fu  K0  false)) y1) nilE 3 0 0 0 0 false 0 0 ⟨#[]⟩ nilE nilE 0 nilE
theorem d_p41 (fu : Nat)  {K0 : Bool → Prop} (L : EL → Nat) (hN : L = List.length)  (h : p41 False fu K0 ) : Den Try.prog G0 41 [] (fun r bs => (∃ (y0 : Bool), (r = .c (.v (.bool y0)) ∧ bs = []) ∧ K0 y0)) := by
  obtain ⟨O, hO⟩ : ∃ O, O = std 0 T G0 (Den Try.prog G0) := ⟨_, rfl⟩
  have hLO : L = O.len := by rw [hN, hO]; rfl
  subst hLO
  refine den_h hO tiA mixed tabOk (fn := Try.f41) (sh := true) (by kernel_rfl) rfl rfl rfl rfl ?_
  intro Q hQ
  unfold p41 at h
  conv => cbv
  refine call_h hO [.shut, .shut] (d_p43 fu O.len hN h) ?_
  intro os Q hos hQ
  conv => cbv
  refine ⟨(by (rw [hos]) <;> (subst hO; rfl)), ?_⟩
  intro r bs hq
  rw [hQ] at hq
  clear hos hQ h
  obtain ⟨y1, _, _, ⟨rfl, rfl⟩, h⟩ := hq
  conv => cbv
  refine call_h hO [.shut] (d_p45 fu O.len hN h) ?_
  intro os Q hos hQ
  conv => cbv
  refine ⟨(by (rw [hos]) <;> (subst hO; rfl)), ?_⟩
  intro r bs hq
  rw [hQ] at hq
  clear hos hQ h
  obtain ⟨y2, y3, y4, y5, y6, y7, y8, y9, y10, y11, y12, y13, y14, y15, _, ⟨rfl, rfl⟩, h⟩ := hq
  conv => cbv
  refine reg_join hO tiA [0] [] [] (fun tm m => ∃ (j16 : Bool), ((tm = frame 0 29 [(0, .c (.v (.bool j16)))] ∧ m = ⟨[], 1⟩)) ∧ p41_1 False fu  K0  j16) (fun L hL_1 => ?_) ?_
  · conv => cbv
    refine br_h hO h (by subst hO; rfl) (fun hc1 h => ?_) (fun hc1 h => ?_)
    · conv => cbv
      refine br_t hO hc1 ?_
      conv => cbv
      refine and_h h (fun g => (by subst hO; exact g)) (fun h => ?_)
      refine and_h h (fun g => (by subst hO; exact g)) (fun h => ?_)
      obtain ⟨c17, hr, h⟩ := rw_u8_inv h
      refine elem_of hO _ (by subst hO; exact hr) ?_
      clear hr
      conv => cbv
      refine br_t hO hc1 ?_
      conv => cbv
      refine br_t hO hc1 ?_
      conv => cbv
      refine br_t hO hc1 ?_
      conv => cbv
      refine br_h hO h (by subst hO; rfl) (fun hc2 h => ?_) (fun hc2 h => ?_)
      · conv => cbv
        refine br_t hO hc2 ?_
        conv => cbv
        refine br_t hO hc2 ?_
        conv => cbv
        refine br_h hO h (by subst hO; rfl) (fun hc3 h => ?_) (fun hc3 h => ?_)
        · conv => cbv
          refine br_t hO hc3 ?_
          conv => cbv
          refine br_t hO hc3 ?_
          conv => cbv
          refine br_t hO hc3 ?_
          conv => cbv
          exact hL_1 _ _ ⟨(cmpStd .eql y2 3), ⟨(by (conv => lhs; cbv) <;> (subst hO; rfl)), (by (conv => lhs; cbv) <;> (subst hO; rfl))⟩, h⟩
        · conv => cbv
          refine br_f hO hc3 ?_
          conv => cbv
          refine br_f hO hc3 ?_
          conv => cbv
          refine br_f hO hc3 ?_
          conv => cbv
          exact hL_1 _ _ ⟨false, ⟨(by (conv => lhs; cbv) <;> (subst hO; rfl)), (by (conv => lhs; cbv) <;> (subst hO; rfl))⟩, h⟩
      · conv => cbv
        refine br_f hO hc2 ?_
        conv => cbv
        refine br_f hO hc2 ?_
        conv => cbv
        refine br_f hO rfl ?_
        conv => cbv
        refine br_f hO rfl ?_
        conv => cbv
        refine br_f hO rfl ?_
        conv => cbv
        refine br_f hO rfl ?_
        conv => cbv
        exact hL_1 _ _ ⟨false, ⟨(by (conv => lhs; cbv) <;> (subst hO; rfl)), (by (conv => lhs; cbv) <;> (subst hO; rfl))⟩, h⟩
    · conv => cbv
      refine br_f hO hc1 ?_
      conv => cbv
      refine br_f hO hc1 ?_
      conv => cbv
      refine br_f hO hc1 ?_
      conv => cbv
      refine br_f hO hc1 ?_
      conv => cbv
      refine br_f hO rfl ?_
      conv => cbv
      refine br_f hO rfl ?_
      conv => cbv
      refine br_f hO rfl ?_
      conv => cbv
      refine br_f hO rfl ?_
      conv => cbv
      refine br_f hO rfl ?_
      conv => cbv
      refine br_f hO rfl ?_
      conv => cbv
      refine br_f hO rfl ?_
      conv => cbv
      exact hL_1 _ _ ⟨false, ⟨(by (conv => lhs; cbv) <;> (subst hO; rfl)), (by (conv => lhs; cbv) <;> (subst hO; rfl))⟩, h⟩
  · rintro tm m ⟨j16, hs, h⟩
    unfold p41_1 at h
    obtain ⟨rfl, rfl⟩ := hs
    conv => cbv
    rw [hQ]
    exact ⟨j16, ⟨(by subst hO; rfl), (by subst hO; rfl)⟩, h⟩
end Go.Proofs.Ythncmjlcmlmnmaa

namespace Go.Proofs.Ythncmjlcmlmnmaa
open Go V
set_option maxRecDepth 100000
set_option maxHeartbeats 4000000
def p11_1 {ρ : Type} (fail : ρ) (fu : Nat)  (K0 : Bool → ρ)   (j47 : Bool) : ρ :=
  K0 j47
def p11_2 {ρ : Type} (fail : ρ) (fu : Nat)  (K0 : Bool → ρ)  (x0 : Int) (x1 : Int) (x2 : Int) (x3 : Int) (x4 : Int) (x5 : Bool) (x6 : Int) (x7 : Int) (x8 : ByteArray) (x9 : EL) (x10 : EL) (x11 : Int) (x12 : EL) (x13 : Int) (x14 : Int) (j2 : Bool) : ρ :=
  bif j2 then (K0 true) else (p43 fail fu (fun y3 => p45 fail fu (fun y4 y5 y6 y7 y8 y9 y10 y11 y12 y13 y14 y15 y16 y17 => gd (0 = nilE.length) fail (gd ((nilE.length + y3.length) * 1 ≤ 35184372088832) fail (gd (1 ≤ [[(CV.v (.int .u8 x13))]].length) fail (gd (((nilE ++ y3).length + (List.take 1 [[(CV.v (.int .u8 x13))]]).length) * 1 ≤ 35184372088832) fail (p45 fail fu (fun y18 y19 y20 y21 y22 y23 y24 y25 y26 y27 y28 y29 y30 y31 => p40 fail fu (fun y32 => gd ((0 : Int) ≤ 0) fail (gd ((0 : Int) ≤ y32) fail (gd ((y32 : Int) ≤ (y3.length : Nat)) fail (p45 fail fu (fun y33 y34 y35 y36 y37 y38 y39 y40 y41 y42 y43 y44 y45 y46 => bif (cmpStd .eql y17 0) then (p47 fail fu (fun y48 => bif y48 then (bif (cmpStd .eql y31 5) then (p11_1 fail fu  K0  (cmpStd .eql y46 5)) else (p11_1 fail fu  K0  false)) else (p11_1 fail fu  K0  false)) x0 x1 x2 x3 x4 x5 x6 x7 x8 x9 x10 x11 x12 y4 y5 y6 y7 y8 y9 y10 y11 y12 y13 y14 y15 y16) else (p11_1 fail fu  K0  false)) (List.drop ((0 : Int).toNat) (List.take ((y32 : Int).toNat) y3)))))) x14 ((y3.length : Nat) : Int)) ((nilE ++ y3) ++ (List.take 1 [[(CV.v (.int .u8 x13))]]))))))) y3) nilE x0 x1 x2 x3 x4 x5 x6 x7 x8 x9 x10 x11 x12)
/-- law26.ReplyBack -/
def p11 {ρ : Type} (fail : ρ) (fu : Nat)  (K0 : Bool → ρ) (x0 : Int) (x1 : Int) (x2 : Int) (x3 : Int) (x4 : Int) (x5 : Bool) (x6 : Int) (x7 : Int) (x8 : ByteArray) (x9 : EL) (x10 : EL) (x11 : Int) (x12 : EL) (x13 : Int) (x14 : Int) : ρ :=
  p41 fail fu (fun y1 => bif (!y1) then (K0 false) else (bif (cmpStd .gtr ((x12.length : Nat) : Int) 1024) then (p11_2 fail fu  K0 x0 x1 x2 x3 x4 x5 x6 x7 x8 x9 x10 x11 x12 x13 x14 true) else (p42 fail fu (fun y49 => p11_2 fail fu  K0 x0 x1 x2 x3 x4 x5 x6 x7 x8 x9 x10 x11 x12 x13 x14 (!y49)) x0 x1 x2 x3 x4 x5 x6 x7 x8 x9 x10 x11 x12))) 
theorem d_p11 (fu : Nat)  {K0 : Bool → Prop} (L : EL → Nat) (hN : L = List.length) {x0 : Int} {x1 : Int} {x2 : Int} {x3 : Int} {x4 : Int} {x5 : Bool} {x6 : Int} {x7 : Int} {x8 : ByteArray} {x9 : EL} {x10 : EL} {x11 : Int} {x12 : EL} {x13 : Int} {x14 : Int} (h : p11 False fu K0 x0 x1 x2 x3 x4 x5 x6 x7 x8 x9 x10 x11 x12 x13 x14) : Den Try.prog G0 11 [.agg [.c (.v (.int .i64 x0)), .c (.v (.int .u64 x1)), .c (.v (.int .u64 x2)), .c (.v (.int .i64 x3)), .c (.v (.int .i64 x4)), .c (.v (.bool x5)), .c (.v (.int .i64 x6)), .c (.v (.int .i64 x7)), .c (.v (.string x8)), .c (.sl 3 x9 none), .c (.sl 5 x10 none), .c (.v (.int .i64 x11)), .c (.sl 1 x12 none)], .c (.v (.int .u8 x13)), .c (.v (.int .i64 x14))] (fun r bs => (∃ (y0 : Bool) (o0 : OV) (o1 : OV) (o2 : OV), (r = .c (.v (.bool y0)) ∧ bs = [o0, o1, o2]) ∧ K0 y0)) := by
  obtain ⟨O, hO⟩ : ∃ O, O = std 0 T G0 (Den Try.prog G0) := ⟨_, rfl⟩
  have hLO : L = O.len := by rw [hN, hO]; rfl
  subst hLO
  refine den_h hO tiA mixed tabOk (fn := Try.f11) (sh := true) (by kernel_rfl) rfl rfl rfl rfl ?_
  intro Q hQ
  unfold p11 at h
  conv => cbv
  refine call_h hO [] (d_p41 fu O.len hN h) ?_
  intro os Q hos hQ
  conv => cbv
  refine ⟨(by (rw [hos]) <;> (subst hO; rfl)), ?_⟩
  intro r bs hq
  rw [hQ] at hq
  clear hos hQ h
  obtain ⟨y1, ⟨rfl, rfl⟩, h⟩ := hq
  conv => cbv
  refine br_h hO h (by subst hO; rfl) (fun hc1 h => ?_) (fun hc1 h => ?_)
  · conv => cbv
    rw [hQ]
    exact ⟨false, _, _, _, ⟨(by subst hO; rfl), (by subst hO; rfl)⟩, h⟩
  · conv => cbv
    refine join_all hO ?_
    conv => cbv
    refine reg_join hO tiA [1, 2, 3, 24] [4000] [] (fun tm m => ∃ (j2 : Bool), ((tm = frame 0 67 [(1, .c (.v (.int .u8 x13))), (2, .c (.v (.int .i64 x14))), (3, .p 4000 0 0), (24, .c (.v (.bool j2)))] ∧ m = ⟨[(4000, .blk 0 [.c (.v (.int .i64 x0)), .c (.v (.int .u64 x1)), .c (.v (.int .u64 x2)), .c (.v (.int .i64 x3)), .c (.v (.int .i64 x4)), .c (.v (.bool x5)), .c (.v (.int .i64 x6)), .c (.v (.int .i64 x7)), .c (.v (.string x8)), .c (.sl 3 x9 none), .c (.sl 5 x10 none), .c (.v (.int .i64 x11)), .c (.sl 1 x12 none)])], 1⟩)) ∧ p11_2 False fu  K0 x0 x1 x2 x3 x4 x5 x6 x7 x8 x9 x10 x11 x12 x13 x14 j2) (fun L hL_2 => ?_) ?_
    · conv => cbv
      refine br_h hO h (by subst hO; rfl) (fun hc6 h => ?_) (fun hc6 h => ?_)
      · conv => cbv
        refine br_t hO hc6 ?_
        conv => cbv
        refine br_t hO hc6 ?_
        conv => cbv
        refine br_t hO hc6 ?_
        conv => cbv
        exact hL_2 _ _ ⟨true, ⟨(by (conv => lhs; cbv) <;> (subst hO; rfl)), (by (conv => lhs; cbv) <;> (subst hO; rfl))⟩, h⟩
      · conv => cbv
        refine br_f hO hc6 ?_
        conv => cbv
        refine call_h hO [.shut] (d_p42 fu O.len hN h) ?_
        intro os Q hos hQ
        conv => cbv
        refine ⟨(by (rw [hos]) <;> (subst hO; rfl)), ?_⟩
        intro r bs hq
        rw [hQ] at hq
        clear hos hQ h
        obtain ⟨y49, _, ⟨rfl, rfl⟩, h⟩ := hq
        conv => cbv
        refine br_f hO hc6 ?_
        conv => cbv
        refine br_f hO hc6 ?_
        conv => cbv
        exact hL_2 _ _ ⟨(!y49), ⟨(by (conv => lhs; cbv) <;> (subst hO; rfl)), (by (conv => lhs; cbv) <;> (subst hO; rfl))⟩, h⟩
    · rintro tm m ⟨j2, hs, h⟩
      unfold p11_2 at h
      obtain ⟨rfl, rfl⟩ := hs
      conv => cbv
      refine br_h hO h (by subst hO; rfl) (fun hc2 h => ?_) (fun hc2 h => ?_)
      · conv => cbv
        rw [hQ]
        exact ⟨true, _, _, _, ⟨(by subst hO; rfl), (by subst hO; rfl)⟩, h⟩
      · conv => cbv
        refine join_all hO ?_
        conv => cbv
        refine call_h hO [.shut, .shut] (d_p43 fu O.len hN h) ?_
        intro os Q hos hQ
        conv => cbv
        refine ⟨(by (rw [hos]) <;> (subst hO; rfl)), ?_⟩
        intro r bs hq
        rw [hQ] at hq
        clear hos hQ h
        obtain ⟨y3, _, _, ⟨rfl, rfl⟩, h⟩ := hq
        conv => cbv
        refine call_h hO [.shut] (d_p45 fu O.len hN h) ?_
        intro os Q hos hQ
        conv => cbv
        refine ⟨(by (rw [hos]) <;> (subst hO; rfl)), ?_⟩
        intro r bs hq
        rw [hQ] at hq
        clear hos hQ h
        obtain ⟨y4, y5, y6, y7, y8, y9, y10, y11, y12, y13, y14, y15, y16, y17, _, ⟨rfl, rfl⟩, h⟩ := hq
        conv => cbv
        refine and_h h (fun g => (by subst hO; exact g)) (fun h => ?_)
        refine and_h h (fun g => (by subst hO; exact g)) (fun h => ?_)
        refine view_h hO h (fun g => (by subst hO; exact g)) (fun h => ?_)
        conv => cbv
        refine ⟨(by subst hO; rfl), ?_⟩
        refine and_h h (fun g => (by subst hO; exact g)) (fun h => ?_)
        refine call_h hO [.shut] (d_p45 fu O.len hN h) ?_
        intro os Q hos hQ
        conv => cbv
        refine view_full hO ?_
        conv => cbv
        refine ⟨(by (rw [hos]) <;> (subst hO; rfl)), ?_⟩
        intro r bs hq
        rw [hQ] at hq
        clear hos hQ h
        obtain ⟨y18, y19, y20, y21, y22, y23, y24, y25, y26, y27, y28, y29, y30, y31, _, ⟨rfl, rfl⟩, h⟩ := hq
        conv => cbv
        refine call_h hO [.shut, .shut] (d_p40 fu O.len hN h) ?_
        intro os Q hos hQ
        conv => cbv
        refine ⟨(by (rw [hos]) <;> (subst hO; rfl)), ?_⟩
        intro r bs hq
        rw [hQ] at hq
        clear hos hQ h
        obtain ⟨y32, _, _, ⟨rfl, rfl⟩, h⟩ := hq
        conv => cbv
        refine and_h h (fun g => (by subst hO; exact g)) (fun h => ?_)
        refine and_h h (fun g => (by subst hO; exact g)) (fun h => ?_)
        refine and_h h (fun g => (by subst hO; exact g)) (fun h => ?_)
        refine call_h hO [.shut] (d_p45 fu O.len hN h) ?_
        intro os Q hos hQ
        conv => cbv
        refine ⟨(by (rw [hos]) <;> (subst hO; rfl)), ?_⟩
        intro r bs hq
        rw [hQ] at hq
        clear hos hQ h
        obtain ⟨y33, y34, y35, y36, y37, y38, y39, y40, y41, y42, y43, y44, y45, y46, _, ⟨rfl, rfl⟩, h⟩ := hq
        conv => cbv
        refine reg_join hO tiA [6] [] [] (fun tm m => ∃ (j47 : Bool), ((tm = frame 0 67 [(6, .c (.v (.bool j47)))] ∧ m = ⟨[], 1⟩)) ∧ p11_1 False fu  K0  j47) (fun L hL_1 => ?_) ?_
        · conv => cbv
          refine br_h hO h (by subst hO; rfl) (fun hc3 h => ?_) (fun hc3 h => ?_)
          · conv => cbv
            refine br_t hO hc3 ?_
            conv => cbv
            refine br_t hO hc3 ?_
            conv => cbv
            refine call_h hO [.shut, .shut] (d_p47 fu O.len hN h) ?_
            intro os Q hos hQ
            conv => cbv
            refine ⟨(by (rw [hos]) <;> (subst hO; rfl)), ?_⟩
            intro r bs hq
            rw [hQ] at hq
            clear hos hQ h
            obtain ⟨y48, _, _, ⟨rfl, rfl⟩, h⟩ := hq
            conv => cbv
            refine br_t hO hc3 ?_
            conv => cbv
            refine br_h hO h (by subst hO; rfl) (fun hc4 h => ?_) (fun hc4 h => ?_)
            · conv => cbv
              refine br_t hO hc4 ?_
              conv => cbv
              refine br_t hO hc4 ?_
              conv => cbv
              refine br_h hO h (by subst hO; rfl) (fun hc5 h => ?_) (fun hc5 h => ?_)
              · conv => cbv
                refine br_t hO hc5 ?_
                conv => cbv
                refine br_t hO hc5 ?_
                conv => cbv
                exact hL_1 _ _ ⟨(cmpStd .eql y46 5), ⟨(by (conv => lhs; cbv) <;> (subst hO; rfl)), (by (conv => lhs; cbv) <;> (subst hO; rfl))⟩, h⟩
              · conv => cbv
                refine br_f hO hc5 ?_
                conv => cbv
                refine br_f hO hc5 ?_
                conv => cbv
                exact hL_1 _ _ ⟨false, ⟨(by (conv => lhs; cbv) <;> (subst hO; rfl)), (by (conv => lhs; cbv) <;> (subst hO; rfl))⟩, h⟩
            · conv => cbv
              refine br_f hO hc4 ?_
              conv => cbv
              refine br_f hO hc4 ?_
              conv => cbv
              refine br_f hO rfl ?_
              conv => cbv
              refine br_f hO rfl ?_
              conv => cbv
              refine br_f hO rfl ?_
              conv => cbv
              exact hL_1 _ _ ⟨false, ⟨(by (conv => lhs; cbv) <;> (subst hO; rfl)), (by (conv => lhs; cbv) <;> (subst hO; rfl))⟩, h⟩
          · conv => cbv
            refine br_f hO hc3 ?_
            conv => cbv
            refine br_f hO hc3 ?_
            conv => cbv
            refine br_f hO hc3 ?_
            conv => cbv
            refine br_f hO rfl ?_
            conv => cbv
            refine br_f hO rfl ?_
            conv => cbv
            refine br_f hO rfl ?_
            conv => cbv
            refine br_f hO rfl ?_
            conv => cbv
            refine br_f hO rfl ?_
            conv => cbv
            refine br_f hO rfl ?_
            conv => cbv
            exact hL_1 _ _ ⟨false, ⟨(by (conv => lhs; cbv) <;> (subst hO; rfl)), (by (conv => lhs; cbv) <;> (subst hO; rfl))⟩, h⟩
        · rintro tm m ⟨j47, hs, h⟩
          unfold p11_1 at h
          obtain ⟨rfl, rfl⟩ := hs
          conv => cbv
          rw [hQ]
          exact ⟨j47, _, _, _, ⟨(by subst hO; rfl), (by subst hO; rfl)⟩, h⟩
end Go.Proofs.Ythncmjlcmlmnmaa

namespace Go.Proofs.Ythncmjlcmlmnmaa
open Go V
set_option maxRecDepth 100000
set_option maxHeartbeats 2000000
theorem begun26_2000000 (K : Bool → Prop) : p41 (ρ := Prop) False 2000000 K = K true := by kernel_rfl
theorem small_may {ρ : Type} (fail : ρ) (fu : Nat) (x : Int) : BO (fun K : Bool → ρ => p82 fail fu K x) (0 ≤ x ∧ x ≤ 1073741824) := by
  by_cases h : 0 ≤ x ∧ x ≤ 1073741824
  · refine ⟨true, fun K => ?_, fun _ => h⟩
    dsimp only
    rw [p82, geqT h.1, cond_true, leqT h.2, p82_1]
  · refine ⟨false, fun K => ?_, fun h => by cases h⟩
    dsimp only
    by_cases h1 : 0 ≤ x
    · rw [p82, geqT h1, cond_true, leqF (by omega), p82_1]
    · rw [p82, geqF (by omega), cond_false, p82_1]
theorem mayReply_eq {ρ : Type} (fail : ρ) (fu : Nat) (hf : 5000 ≤ fu) (err : Int) (hi lo fuel cells : Int) (yes : Bool) (t : Tm) (pa : Int) (ax : List ByteArray) (hax : ax.length ≤ 1024) :
    BO (fun K : Bool → ρ => p42 fail fu K err hi lo fuel cells yes t.k t.n t.nm (Lv.rows t.ls) (Tm.rows t.args) pa (ax.map strRow))
      ((0 ≤ err ∧ err ≤ 1073741824) ∧ (0 ≤ fuel ∧ fuel ≤ 1073741824) ∧ (0 ≤ cells ∧ cells ≤ 1073741824) ∧ (0 ≤ pa ∧ pa ≤ 1073741824) ∧ (t.good 100 ∧ t.parts ≤ 2000) ∧ ∀ s ∈ ax, s.size ≤ 24) := by
  have bad : ∀ K : Bool → ρ, p42_2 fail fu K (ax.map strRow) true = K false := fun K => by rw [p42_2, cond_true]
  have loop : ∀ (r i j : Nat), i + r = ax.length → r < j → BO (fun K : Bool → ρ => p42_1L fail fu K (ax.map strRow) j ((i : Nat) : Int)) (∀ s ∈ ax.drop i, s.size ≤ 24) := by
    intro r
    induction r with
    | zero =>
      intro i j hi hj
      obtain ⟨j, rfl⟩ : ∃ j', j = j' + 1 := ⟨j - 1, by omega⟩
      refine ⟨true, fun K => ?_, fun _ x hx => ?_⟩
      · dsimp only; rw [p42_1L, p42_1, List.length_map, lssF (by omega), cond_false]
      · rw [List.drop_eq_nil_of_le (by omega)] at hx; simp at hx
    | succ r ihr =>
      intro i j hi hj
      obtain ⟨j, rfl⟩ : ∃ j', j = j' + 1 := ⟨j - 1, by omega⟩
      have hlt : i < ax.length := by omega
      have hdr : ax.drop i = ax[i] :: ax.drop (i + 1) := List.drop_eq_getElem_cons hlt
      have h2 : ∀ K : Bool → ρ, p42_1L fail fu K (ax.map strRow) (j + 1) ((i : Nat) : Int) = bif cmpStd .gtr ((ax[i].size : Nat) : Int) 24 then K false else p42_1L fail fu K (ax.map strRow) j ((i + 1 : Nat) : Int) := fun K => by
        rw [p42_1L, p42_1, List.length_map, lssT (by omega), cond_true, gd_y (by omega), gd_y (by omega), str_row fail ax i hlt, addZ (by omega) (by omega), show ((i : Nat) : Int) + 1 = ((i + 1 : Nat) : Int) by omega]
      by_cases c : ax[i].size ≤ 24
      · obtain ⟨b', g1, g2⟩ := ihr (i + 1) j (by omega) (by omega)
        refine ⟨b', fun K => ?_, fun hb' x hx => ?_⟩
        · dsimp only
          rw [h2, gtrF (by omega), cond_false]; exact g1 K
        · rw [hdr] at hx
          rcases List.mem_cons.1 hx with rfl | hx
          · exact c
          · exact g2 hb' x hx
      · refine ⟨false, fun K => ?_, fun h => by cases h⟩
        dsimp only
        rw [h2, gtrT (by omega), cond_true]
  obtain ⟨b1, h1, k1⟩ := small_may fail fu err
  obtain ⟨b2, h2, k2⟩ := small_may fail fu fuel
  obtain ⟨b3, h3, k3⟩ := small_may fail fu cells
  obtain ⟨b4, h4, k4⟩ := small_may fail fu pa
  obtain ⟨b5, h5, k5⟩ := mayTerm_eq fail fu (by omega) t
  obtain ⟨b6, h6, k6⟩ := loop ax.length 0 fu (by omega) (by omega)
  dsimp only at h1 h2 h3 h4 h5 h6
  have hmain : ∀ K : Bool → ρ, p42 fail fu K err hi lo fuel cells yes t.k t.n t.nm (Lv.rows t.ls) (Tm.rows t.args) pa (ax.map strRow) = bif (!b1) then K false else bif (!b2) then K false else bif (!b3) then K false else bif (!b4) then K false else bif (!b5) then K false else K b6 := fun K => by
    rw [p42, h1]
    cases b1 with
    | false => rw [Bool.not_false, cond_true, cond_true, bad]
    | true =>
      rw [Bool.not_true, cond_false, cond_false, h2]
      cases b2 with
      | false => rw [Bool.not_false, cond_true, cond_true, bad]
      | true =>
        rw [Bool.not_true, cond_false, cond_false, h3]
        cases b3 with
        | false => rw [Bool.not_false, cond_true, cond_true, bad]
        | true =>
          rw [Bool.not_true, cond_false, cond_false, h4]
          cases b4 with
          | false => rw [Bool.not_false, cond_true, cond_true, bad]
          | true =>
            rw [Bool.not_true, cond_false, cond_false, List.length_map, gtrF (by omega), cond_false, h5]
            cases b5 with
            | false => rw [Bool.not_false, cond_true, bad]
            | true => rw [Bool.not_true, cond_false, p42_2, cond_false]; exact h6 K
  cases b1 with
  | false => exact ⟨false, hmain, fun h => by cases h⟩
  | true =>
  cases b2 with
  | false => exact ⟨false, hmain, fun h => by cases h⟩
  | true =>
  cases b3 with
  | false => exact ⟨false, hmain, fun h => by cases h⟩
  | true =>
  cases b4 with
  | false => exact ⟨false, hmain, fun h => by cases h⟩
  | true =>
  cases b5 with
  | false => exact ⟨false, hmain, fun h => by cases h⟩
  | true => exact ⟨b6, hmain, fun hb => ⟨k1 rfl, k2 rfl, k3 rfl, k4 rfl, k5 rfl, fun s hs => k6 hb s (by simpa using hs)⟩⟩
theorem place_eq {ρ : Type} (fail : ρ) (fu : Nat) (k : Int) (n : Nat) (hn : 1 ≤ n) (hn2 : n ≤ 1099511627776) : ∃ q : Nat, q < n ∧ ∀ K : Int → ρ, p40 fail fu K k ((n : Nat) : Int) = K ((q : Nat) : Int) := by
  have hr : binStd .rem .i64 k ((n : Nat) : Int) = k.tmod (n : Int) := rfl
  have h1 := Int.tmod_lt_of_pos k (show (0 : Int) < n by omega)
  have h2 : -(n : Int) < k.tmod n := by
    have := Int.lt_tmod_of_pos k (show (0 : Int) < n by omega)
    exact this
  by_cases h0 : k.tmod (n : Int) < 0
  · refine ⟨(k.tmod (n : Int) + n).toNat, by omega, fun K => ?_⟩
    rw [p40, lssF (by omega), cond_false, gd_y (by omega), hr, lssT h0, cond_true, p40_1, addZ (by omega) (by omega)]
    congr 1; omega
  · refine ⟨(k.tmod (n : Int)).toNat, by omega, fun K => ?_⟩
    rw [p40, lssF (by omega), cond_false, gd_y (by omega), hr, lssF (by omega), cond_false, p40_1]
    congr 1; omega
mutual
theorem Lv.enc_sz : ∀ l : Lv, l.enc.length ≤ 20 * l.sz
  | .mk k n l => by
    have := Lv.encs_sz l
    have h1 := varB_10 (uv_lt k)
    have h2 := varB_10 (uv_lt n)
    have h3 : (if k = 4 then varB (uv n) else []).length ≤ 10 := by
      split
      · exact h2
      · exact Nat.zero_le _
    simp only [Lv.sz, Lv.enc, List.length_append]; omega
theorem Lv.encs_sz : ∀ l : List Lv, (Lv.encs l).length ≤ 20 * Lv.szs l
  | [] => Nat.zero_le _
  | a :: l => by
    have := Lv.enc_sz a
    have h2 := Lv.encs_sz l
    simp only [Lv.szs, Lv.encs, List.length_append]; omega
end
mutual
theorem Tm.enc_sz : ∀ t : Tm, t.sz < 1099511627776 → t.enc.length ≤ 40 * t.sz
  | .mk k n s l a, h => by
    simp only [Tm.sz] at h
    have := Tm.encs_sz a (by omega)
    have h0 := Lv.encs_sz l
    have hl := Lv.szs_len l
    have h1 := varB_10 (uv_lt k)
    have h2 := varB_10 (uv_lt n)
    have h4 := varB_10 (show s.size < 2 ^ 64 by omega)
    have h5 := varB_10 (show l.length < 2 ^ 64 by omega)
    have h3 : (if k = 0 then varB (uv n) else if k = 2 then txB s ++ varB l.length else []).length ≤ 20 + s.size := by
      split
      · omega
      · split
        · simp only [txB, List.length_append, sz_data]; omega
        · simp
    simp only [Tm.sz, Tm.enc, List.length_append]; omega
theorem Tm.encs_sz : ∀ l : List Tm, Tm.szs l < 1099511627776 → (Tm.encs l).length ≤ 40 * Tm.szs l
  | [], _ => Nat.zero_le _
  | a :: l, h => by
    simp only [Tm.szs] at h
    have := Tm.enc_sz a (by omega)
    have h2 := Tm.encs_sz l (by omega)
    simp only [Tm.szs, Tm.encs, List.length_append]; omega
end
theorem ax_small : ∀ (l : List ByteArray), (∀ s ∈ l, s.size ≤ 24) → axSz l ≤ 25 * l.length ∧ (axB l).length ≤ 34 * l.length
  | [], _ => ⟨Nat.le_refl _, Nat.le_refl _⟩
  | s :: l, h => by
    obtain ⟨h1, h2⟩ := ax_small l fun x hx => h x (by simp [hx])
    have h3 := h s (by simp)
    have h4 := varB_10 (show s.size < 2 ^ 64 by omega)
    simp only [axSz, axB, List.length_append, List.length_cons, txB, sz_data]; omega
theorem replyBack_pure (err : Int) (hi lo : Nat) (hhi : hi < 2 ^ 64) (hlo : lo < 2 ^ 64) (fuel cells : Int) (yes : Bool) (t : Tm) (pa : Int) (ax : List ByteArray) (c cut : Int) (hc : 0 ≤ c ∧ c ≤ 255) :
    p11 (ρ := Prop) False 2000000 (fun y => y = true) err (hi : Nat) (lo : Nat) fuel cells yes t.k t.n t.nm (Lv.rows t.ls) (Tm.rows t.args) pa (ax.map strRow) c cut := by
  rw [p11, begun26_2000000, Bool.not_true, cond_false, List.length_map]
  by_cases h4 : 1024 < ax.length
  · rw [gtrT (by omega), cond_true, p11_2, cond_true]
  rw [gtrF (by omega), cond_false]
  obtain ⟨b, hb, hb2⟩ := mayReply_eq (ρ := Prop) False 2000000 (by omega) err (hi : Nat) (lo : Nat) fuel cells yes t pa ax (by omega)
  dsimp only at hb
  rw [hb]
  cases b with
  | false => rw [Bool.not_false, p11_2, cond_true]
  | true =>
  obtain ⟨⟨a1, a2⟩, ⟨a3, a4⟩, ⟨a5, a6⟩, ⟨a7, a8⟩, ⟨tg, tp⟩, axs⟩ := hb2 rfl
  obtain ⟨err, rfl⟩ : ∃ q : Nat, err = q := ⟨err.toNat, by omega⟩
  obtain ⟨fuel, rfl⟩ : ∃ q : Nat, fuel = q := ⟨fuel.toNat, by omega⟩
  obtain ⟨cells, rfl⟩ : ∃ q : Nat, cells = q := ⟨cells.toNat, by omega⟩
  obtain ⟨pa, rfl⟩ : ∃ q : Nat, pa = q := ⟨pa.toNat, by omega⟩
  have tsz := good_sz 100 t tg
  obtain ⟨ax1, ax2⟩ := ax_small ax axs
  have tenc := Tm.enc_sz t (by omega)
  have hE : (rpEnc (err : Nat) hi lo (fuel : Nat) (cells : Nat) yes t (pa : Nat) ax).length ≤ 1000000000 := by
    have u1 := varB_10 (uv_lt ((err : Nat) : Int))
    have u2 := varB_10 (uv_lt ((fuel : Nat) : Int))
    have u3 := varB_10 (uv_lt ((cells : Nat) : Int))
    have u4 := varB_10 (uv_lt ((pa : Nat) : Int))
    have u5 := varB_10 (show ax.length < 2 ^ 64 by omega)
    have hv1 : (varB 1).length ≤ 10 := varB_10 (by omega)
    have hv0 : (varB 0).length ≤ 10 := varB_10 (by omega)
    have hy : (varB (if yes = true then 1 else 0)).length ≤ 10 := by split <;> assumption
    have hif : (if isZ t = true then varB 0 else varB 1 ++ t.enc).length ≤ 10 + t.enc.length := by
      split
      · omega
      · rw [List.length_append]; omega
    simp only [rpEnc, List.length_append, lowB_len]; omega
  have hback := rdRep_back err hi lo fuel cells (by omega) hhi hlo (by omega) (by omega) yes t tg tp pa (by omega) ax axs (by omega)
  have hput := fun K => put_w (ρ := Prop) False 2000000 K (err : Nat) hi lo (fuel : Nat) (cells : Nat) yes t (pa : Nat) ax (by omega) (by omega) (by omega) (by omega) (by omega)
  have h16 : 16 ≤ (rpEnc (err : Nat) hi lo (fuel : Nat) (cells : Nat) yes t (pa : Nat) ax).length := by simp only [rpEnc, List.length_append, lowB_len]; omega
  generalize hEE : rpEnc (err : Nat) hi lo (fuel : Nat) (cells : Nat) yes t (pa : Nat) ax = E at hE hback hput h16
  have t1 := take_eq (ρ := Prop) False 2000000 (by omega) E (by omega)
  rw [hback] at t1
  have hcb : [[CV.v (.int .u8 c)]] = encB [UInt8.ofNat c.toNat] := by rw [encB_cons, u8_nat (by omega), show ((c.toNat : Nat) : Int) = c by omega]; rfl
  have t2 := take_eq (ρ := Prop) False 2000000 (by omega) (E ++ [UInt8.ofNat c.toNat]) (by simp; omega)
  rw [rdRep_more _ (by simp) hback] at t2
  obtain ⟨q, hq, hplace⟩ := place_eq (ρ := Prop) False 2000000 cut E.length (by omega) (by omega)
  have hcut : rdRep (E.take q) = none := by
    cases hr : rdRep (E.take q) with
    | none => rfl
    | some r' =>
      have := rdRep_more (E.drop q) (by
        intro h
        have := congrArg List.length h
        rw [List.length_drop] at this; simp at this; omega) hr
      rw [List.take_append_drop, hback] at this
      cases this
  have t3 := take_eq (ρ := Prop) False 2000000 (by omega) (E.take q) (by rw [List.length_take]; omega)
  rw [hcut] at t3
  rw [Bool.not_true, p11_2, cond_false, hput]
  refine (t1 _).mpr ?_
  simp only [rpOut]
  have ht1 : List.take 1 [[CV.v (.int .u8 c)]] = encB [UInt8.ofNat c.toNat] := hcb
  rw [gd_y (by rfl), gd_y (by simp; omega), gd_y (by simp), ht1, gd_y (by simp; omega), List.nil_append, ← encB_append]
  refine (t2 _).mpr ?_
  simp only [rpOut]
  rw [encB_length, hplace, gd_y (by omega), gd_y (by omega), gd_y (by omega)]
  have hd : List.drop (Int.toNat 0) (List.take (((q : Nat) : Int)).toNat (encB E)) = encB (E.take q) := by rw [Int.toNat_natCast, encB_take]; rfl
  rw [hd]
  refine (t3 _).mpr ?_
  simp only [rpOut]
  rw [eqlT rfl, cond_true]
  have := reply_same (ρ := Prop) False 2000000 (fun y48 => bif y48 then (bif (cmpStd .eql (5 : Int) 5) then (p11_1 False 2000000 (fun y => y = true) (cmpStd .eql (5 : Int) 5)) else (p11_1 False 2000000 (fun y => y = true) false)) else (p11_1 False 2000000 (fun y => y = true) false)) ⟨(err : Nat), (hi : Nat), (lo : Nat), (fuel : Nat), (cells : Nat), yes, t, (pa : Nat), ax⟩ (by show t.sz + 30 ≤ _; omega) (by show t.sz < _; omega) (by show ax.length + 5 ≤ _; omega) (by show ax.length < _; omega)
  refine this.mpr ?_
  rw [eqlT rfl, cond_true, cond_true, p11_1]
end Go.Proofs.Ythncmjlcmlmnmaa

namespace Go.Proofs.Ythncmjlcmlmnmaa
open Go V
open Go.ChangeShapes Go.WideShapes Go.ChangeAt Go.RowKit
theorem Try.own : ownKnob Try.prog.godebug = none := by kernel_rfl
theorem Try.laidOut : laidOutB Try.prog = true := by kernel_rfl
set_option maxRecDepth 100000
theorem u8_of {n : Int} (h : (Lit.int .u8 n).wf = true) : 0 ≤ n ∧ n ≤ 255 := by
  have h' : (decide (IntKind.u8.min ≤ n) && decide (n ≤ IntKind.u8.max)) = true := h
  have h1 : IntKind.u8.min = 0 := by decide
  have h2 : IntKind.u8.max = 255 := by decide
  rw [Bool.and_eq_true, h1, h2] at h'
  exact ⟨of_decide_eq_true h'.1, of_decide_eq_true h'.2⟩
theorem bytes_of : ∀ (es : List (List CV)), (∀ r ∈ es, ∃ z, r = [.v (.int .u8 z)] ∧ (Lit.int .u8 z).wf = true) → ∃ bs : List UInt8, es = encB bs
  | [], _ => ⟨[], rfl⟩
  | r :: es, h => by
    obtain ⟨z, hz, hw⟩ := h r (by simp)
    obtain ⟨bs, hbs⟩ := bytes_of es (fun r hr => h r (by simp [hr]))
    have h1 := u8_of hw
    refine ⟨UInt8.ofNat z.toNat :: bs, ?_⟩
    rw [hz, hbs, encB_cons]
    have : (UInt8.ofNat z.toNat).toNat = z.toNat := by simp; omega
    rw [this, show ((z.toNat : Nat) : Int) = z by omega]
section
variable {H : Type} {enc : TypeId × Value → H} {w : World} {base : Nat} {spare : Nat → Bool} {held : Bool}
theorem cells_slice {t e : TypeId} {v : Value} {r : Reach} (hu : Try.prog.underlying t = some (.slice e)) (hv : Value.okWide Try.prog w r base t v) : v.cells = #[v] := by
  unfold Value.okWide at hv
  rw [hu] at hv
  unfold Cell.okWide at hv
  rw [hu] at hv
  unfold Cell.ok at hv
  rw [hu] at hv
  cases v <;> first | rfl | exact hv.elim
theorem bytes_arg {v : Value} {r : Reach} {d : DataW H} {ps : List MemPlace} {base' : Nat} (hv : Value.okWide Try.prog w r base' 24 v) (h : DataW.Trod enc Try.prog w base spare held 24 v d ps) :
    ∃ bs : List UInt8, RelC (allS w) w (.sl 1 (encB bs) none) v ∧ bs.length ≤ maxLen := by
  have hu : Try.prog.underlying 24 = some (.slice 5) := by kernel_rfl
  have hu8 : Try.prog.underlying 5 = some (.int .u8) := by kernel_rfl
  have hc1 : Try.prog.cellsOf 5 = 1 := by kernel_rfl
  obtain ⟨n, y, hr, hs⟩ := trod_own (l := [5, 24]) (by kernel_rfl) (by simp) h (cells_slice hu hv)
  cases n with
  | zero => exact hs.elim
  | succ n =>
    simp only [Shp, hu] at hs
    obtain ⟨es, he, hl, hall⟩ := hs
    injection he with he _
    subst he
    obtain ⟨bs, rfl⟩ := bytes_of es (fun r hr => by
      have := hall r hr
      cases n with
      | zero => exact this.elim
      | succ n => simp only [Shp, hu8] at this; exact this)
    rw [hc1] at hr
    exact ⟨bs, hr, by simpa using hl⟩
end
end Go.Proofs.Ythncmjlcmlmnmaa

namespace Go.Proofs.Ythncmjlcmlmnmaa
open Go V
open Go.ChangeShapes Go.WideShapes Go.ChangeAt Go.RowKit
set_option maxRecDepth 100000
/-- The types that a reply leans on. -/
def rpTys : List TypeId := [3, 4, 9, 65, 25, 26, 68, 28, 40, 34, 67, 70]
theorem rpTys_closed : closedT Try.prog rpTys = true := by kernel_rfl
def fldOf (P : Program) (t : TypeId) : List TypeId := match P.underlying t with
  | some (.struct fs) => fs.toList.map (·.type)
  | _ => []
theorem shp_struct {n : Nat} {t : TypeId} {ys : List CV} {l : List TypeId} (h : Shp Try.prog (n + 1) t ys) (hk : (match Try.prog.underlying t with | some (.struct _) => true | _ => false) = true) (hl : fldOf Try.prog t = l) : ShpL (Shp Try.prog n) l ys := by
  subst hl
  unfold fldOf
  simp only [Shp] at h
  split at hk
  · rename_i fs hu
    rw [hu] at h
    exact h
  · cases hk
theorem shp_int {n : Nat} {t : TypeId} {ys : List CV} (hu : Try.prog.underlying t = some (.int .i64)) (h : Shp Try.prog n t ys) : ∃ z : Int, ys = [.v (.int .i64 z)] := by
  cases n with
  | zero => exact h.elim
  | succ n => simp only [Shp, hu] at h; obtain ⟨z, hz, _⟩ := h; exact ⟨z, hz⟩
theorem shp_u64 {n : Nat} {t : TypeId} {ys : List CV} (hu : Try.prog.underlying t = some (.int .u64)) (h : Shp Try.prog n t ys) : ∃ z : Nat, ys = [.v (.int .u64 (z : Nat))] ∧ z < 2 ^ 64 := by
  cases n with
  | zero => exact h.elim
  | succ n =>
    simp only [Shp, hu] at h
    obtain ⟨z, hz, hw⟩ := h
    have h' : (decide (IntKind.u64.min ≤ z) && decide (z ≤ IntKind.u64.max)) = true := hw
    have h1 : IntKind.u64.min = 0 := by decide
    have h2 : IntKind.u64.max = 18446744073709551615 := by decide
    rw [Bool.and_eq_true, h1, h2] at h'
    have h3 := of_decide_eq_true h'.1
    have h4 := of_decide_eq_true h'.2
    refine ⟨z.toNat, ?_, by omega⟩
    rw [hz, show ((z.toNat : Nat) : Int) = z by omega]
theorem shp_bool {n : Nat} {t : TypeId} {ys : List CV} (hu : Try.prog.underlying t = some .bool) (h : Shp Try.prog n t ys) : ∃ z : Bool, ys = [.v (.bool z)] := by
  cases n with
  | zero => exact h.elim
  | succ n => simp only [Shp, hu] at h; exact h
theorem shp_string {n : Nat} {t : TypeId} {ys : List CV} (hu : Try.prog.underlying t = some .string) (h : Shp Try.prog n t ys) : ∃ z : ByteArray, ys = [.v (.string z)] := by
  cases n with
  | zero => exact h.elim
  | succ n => simp only [Shp, hu] at h; obtain ⟨z, hz, _⟩ := h; exact ⟨z, hz⟩
theorem shp_slice {n : Nat} {t e : TypeId} {c : Nat} {ys : List CV} (hu : Try.prog.underlying t = some (.slice e)) (hc : Try.prog.cellsOf e = c) (h : Shp Try.prog n t ys) : ∃ m es, n = m + 1 ∧ ys = [.sl c es none] ∧ ∀ r ∈ es, Shp Try.prog m e r := by
  cases n with
  | zero => exact h.elim
  | succ n => simp only [Shp, hu, hc] at h; obtain ⟨es, h1, _, h2⟩ := h; exact ⟨n, es, rfl, h1, h2⟩
theorem lv_rows_of : ∀ (es : EL), (∀ r ∈ es, ∃ l : Lv, r = l.row) → ∃ ls, es = Lv.rows ls
  | [], _ => ⟨[], rfl⟩
  | r :: es, h => by
    obtain ⟨l, hl⟩ := h r (by simp)
    obtain ⟨ls, hls⟩ := lv_rows_of es fun r hr => h r (by simp [hr])
    exact ⟨l :: ls, by rw [hl, hls, Lv.rows]⟩
theorem tm_rows_of : ∀ (es : EL), (∀ r ∈ es, ∃ l : Tm, r = l.row) → ∃ ls, es = Tm.rows ls
  | [], _ => ⟨[], rfl⟩
  | r :: es, h => by
    obtain ⟨l, hl⟩ := h r (by simp)
    obtain ⟨ls, hls⟩ := tm_rows_of es fun r hr => h r (by simp [hr])
    exact ⟨l :: ls, by rw [hl, hls, Tm.rows]⟩
theorem str_rows_of : ∀ (es : EL), (∀ r ∈ es, ∃ s : ByteArray, r = strRow s) → ∃ ls : List ByteArray, es = ls.map strRow
  | [], _ => ⟨[], rfl⟩
  | r :: es, h => by
    obtain ⟨l, hl⟩ := h r (by simp)
    obtain ⟨ls, hls⟩ := str_rows_of es fun r hr => h r (by simp [hr])
    exact ⟨l :: ls, by rw [hl, hls, List.map_cons]⟩
theorem un_int : Try.prog.underlying 3 = some (.int .i64) := by kernel_rfl
theorem un_bool : Try.prog.underlying 4 = some .bool := by kernel_rfl
theorem un_string : Try.prog.underlying 9 = some .string := by kernel_rfl
theorem un_u64 : Try.prog.underlying 65 = some (.int .u64) := by kernel_rfl
theorem un_errno : Try.prog.underlying 34 = some (.int .i64) := by kernel_rfl
theorem un_levels : Try.prog.underlying 26 = some (.slice 40) := by kernel_rfl
theorem un_terms : Try.prog.underlying 25 = some (.slice 28) := by kernel_rfl
theorem un_strings : Try.prog.underlying 68 = some (.slice 9) := by kernel_rfl
theorem ce_level : Try.prog.cellsOf 40 = 3 := by kernel_rfl
theorem ce_term : Try.prog.cellsOf 28 = 5 := by kernel_rfl
theorem ce_string : Try.prog.cellsOf 9 = 1 := by kernel_rfl
theorem fl_level : fldOf Try.prog 40 = [3, 3, 26] := by kernel_rfl
theorem fl_term : fldOf Try.prog 28 = [3, 3, 9, 26, 25] := by kernel_rfl
theorem fl_handle : fldOf Try.prog 67 = [65, 65] := by kernel_rfl
theorem fl_reply : fldOf Try.prog 70 = [34, 67, 3, 3, 4, 28, 3, 68] := by kernel_rfl
theorem shp_level : ∀ (n : Nat) (ys : List CV), Shp Try.prog n 40 ys → ∃ l : Lv, ys = l.row := by
  intro n
  induction n using Nat.strongRecOn with
  | ind n ih =>
    intro ys h
    cases n with
    | zero => exact h.elim
    | succ n =>
      obtain ⟨a, b, rfl, ha, c, d, rfl, hc, e, f, rfl, he, rfl⟩ := shp_struct h (by kernel_rfl) fl_level
      obtain ⟨k, rfl⟩ := shp_int un_int ha
      obtain ⟨m, rfl⟩ := shp_int un_int hc
      obtain ⟨q, es, rfl, rfl, hes⟩ := shp_slice un_levels ce_level he
      obtain ⟨ls, rfl⟩ := lv_rows_of es fun r hr => ih q (by omega) r (hes r hr)
      exact ⟨.mk k m ls, by rw [Lv.row]; rfl⟩
theorem shp_levels {n : Nat} {ys : List CV} (h : Shp Try.prog n 26 ys) : ∃ ls : List Lv, ys = [.sl 3 (Lv.rows ls) none] := by
  obtain ⟨q, es, rfl, rfl, hes⟩ := shp_slice un_levels ce_level h
  obtain ⟨ls, rfl⟩ := lv_rows_of es fun r hr => shp_level q r (hes r hr)
  exact ⟨ls, rfl⟩
theorem shp_term : ∀ (n : Nat) (ys : List CV), Shp Try.prog n 28 ys → ∃ t : Tm, ys = t.row := by
  intro n
  induction n using Nat.strongRecOn with
  | ind n ih =>
    intro ys h
    cases n with
    | zero => exact h.elim
    | succ n =>
      obtain ⟨a, b, rfl, ha, c, d, rfl, hc, e, f, rfl, he, g, i, rfl, hg, j, k, rfl, hj, rfl⟩ := shp_struct h (by kernel_rfl) fl_term
      obtain ⟨k, rfl⟩ := shp_int un_int ha
      obtain ⟨m, rfl⟩ := shp_int un_int hc
      obtain ⟨s, rfl⟩ := shp_string un_string he
      obtain ⟨ls, rfl⟩ := shp_levels hg
      obtain ⟨q, es, rfl, rfl, hes⟩ := shp_slice un_terms ce_term hj
      obtain ⟨ts, rfl⟩ := tm_rows_of es fun r hr => ih q (by omega) r (hes r hr)
      exact ⟨.mk k m s ls ts, by rw [Tm.row]; rfl⟩
theorem shp_strings {n : Nat} {ys : List CV} (h : Shp Try.prog n 68 ys) : ∃ ls : List ByteArray, ys = [.sl 1 (ls.map strRow) none] := by
  obtain ⟨q, es, rfl, rfl, hes⟩ := shp_slice un_strings ce_string h
  obtain ⟨ls, rfl⟩ := str_rows_of es fun r hr => shp_string un_string (hes r hr)
  exact ⟨ls, rfl⟩
theorem shp_reply {n : Nat} {ys : List CV} (h : Shp Try.prog n 70 ys) :
    ∃ (err : Int) (hi lo : Nat) (fuel cells : Int) (yes : Bool) (t : Tm) (pa : Int) (ax : List ByteArray), hi < 2 ^ 64 ∧ lo < 2 ^ 64 ∧
      ys = [.v (.int .i64 err), .v (.int .u64 (hi : Nat)), .v (.int .u64 (lo : Nat)), .v (.int .i64 fuel), .v (.int .i64 cells), .v (.bool yes), .v (.int .i64 t.k), .v (.int .i64 t.n), .v (.string t.nm), .sl 3 (Lv.rows t.ls) none, .sl 5 (Tm.rows t.args) none, .v (.int .i64 pa), .sl 1 (ax.map strRow) none] := by
  cases n with
  | zero => exact h.elim
  | succ n =>
    obtain ⟨a0, b0, rfl, h0, a1, b1, rfl, h1, a2, b2, rfl, h2, a3, b3, rfl, h3, a4, b4, rfl, h4, a5, b5, rfl, h5, a6, b6, rfl, h6, a7, b7, rfl, h7, rfl⟩ := shp_struct h (by kernel_rfl) fl_reply
    obtain ⟨err, rfl⟩ := shp_int un_errno h0
    cases n with
    | zero => exact h1.elim
    | succ n =>
      obtain ⟨c0, d0, rfl, g0, c1, d1, rfl, g1, rfl⟩ := shp_struct h1 (by kernel_rfl) fl_handle
      obtain ⟨hi, rfl, hhi⟩ := shp_u64 un_u64 g0
      obtain ⟨lo, rfl, hlo⟩ := shp_u64 un_u64 g1
      obtain ⟨fuel, rfl⟩ := shp_int un_int h2
      obtain ⟨cells, rfl⟩ := shp_int un_int h3
      obtain ⟨yes, rfl⟩ := shp_bool un_bool h4
      obtain ⟨t, rfl⟩ := shp_term _ _ h5
      obtain ⟨pa, rfl⟩ := shp_int un_int h6
      obtain ⟨ax, rfl⟩ := shp_strings h7
      exact ⟨err, hi, lo, fuel, cells, yes, t, pa, ax, hhi, hlo, by rw [Tm.row_eq]; rfl⟩
end Go.Proofs.Ythncmjlcmlmnmaa
