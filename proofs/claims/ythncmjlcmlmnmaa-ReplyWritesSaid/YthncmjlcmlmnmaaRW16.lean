/- The law 'ReplyWrites' answers true, in plain Lean. Conditions: none. -/
import Derived.Test.YthncmjlcmlmnmaaRW10
import Derived.Test.YthncmjlcmlmnmaaRW14
import Derived.Test.YthncmjlcmlmnmaaRW15
import Derived.Test.YthncmjlcmlmnmaaVB
import Derived.Test.YthncmjlcmlmnmaaProg
import Derived.ProofKit
import Derived.Test.YthncmjlcmlmnmaaRW9
namespace Go.Proofs.Ythncmjlcmlmnmaa
open Go V
set_option maxRecDepth 100000
set_option maxHeartbeats 2000000
theorem put_wz {ρ : Type} (fail : ρ) (fu : Nat) (K : EL → ρ) (b : List UInt8) (err : Int) (hi lo : Nat) (fuel cells : Int) (yes : Bool) (t : Tm) (pa : Int) (ax : List ByteArray) (ht1 : t.sz + 60 ≤ fu) (ht2 : t.sz < 1099511627776) (ha1 : axSz ax + 60 ≤ fu) (ha2 : axSz ax < 1099511627776)
    (hz : b.length + (rpEnc err hi lo fuel cells yes t pa ax).length ≤ 35184372086000) : p43 fail fu K (encB b) err (hi : Nat) (lo : Nat) fuel cells yes t.k t.n t.nm (Lv.rows t.ls) (Tm.rows t.args) pa (ax.map strRow) = K (encB (b ++ rpEnc err hi lo fuel cells yes t pa ax)) := by
  have hal := axSz_len ax
  have u1 := varB_10 (uv_lt err)
  have u2 := varB_10 (uv_lt fuel)
  have u3 := varB_10 (uv_lt cells)
  have u4 := varB_10 (uv_lt pa)
  have u5 := varB_10 (show ax.length < 2 ^ 64 by omega)
  have l1 := lowB_len 8 hi
  have l2 := lowB_len 8 lo
  have hv1 : (varB 1).length = 1 := by rw [varB_lt (by omega)]; rfl
  have hv0 : (varB 0).length = 1 := by rw [varB_lt (by omega)]; rfl
  have hy : (varB (if yes = true then 1 else 0)).length = 1 := by split <;> assumption
  have hg : uv ((ax.length : Nat) : Int) = ax.length := uv_nat _ (by omega)
  simp only [rpEnc, List.length_append] at hz
  have tail : ∀ y : EL, y.length + (varB (uv pa)).length + (varB ax.length).length + (axB ax).length ≤ 35184372086900 → p43_2 fail fu K pa (ax.map strRow) y = K (y ++ encB (varB (uv pa) ++ (varB ax.length ++ axB ax))) := fun y hy => by
    have h2 : List.take 2 [[CV.v (.int .i64 pa)], [CV.v (.int .i64 (((ax.map strRow).length : Nat) : Int))]] = encI [pa, ((ax.length : Nat) : Int)] := by rw [List.length_map]; rfl
    have := ax_w fail fu K ax (by omega) ha2 ax.length 0 fu (y ++ encB (varB (uv pa) ++ varB ax.length)) (by omega) (by omega) (by simp only [List.length_append, encB_length, List.drop_zero]; omega)
    rw [show ((0 : Nat) : Int) = 0 from rfl] at this
    rw [p43_2, gd_y (by simp), h2, num_w fail fu _ _ (by simp only [List.length_cons, List.length_nil]; omega) y (by simp only [List.length_cons, List.length_nil]; omega), List.length_map]
    simp only [numsB_cons, show numsB [] = [] from rfl, List.append_nil, hg]
    rw [this, List.drop_zero]
    simp [List.append_assoc]
  have h2 : List.take 2 [[CV.v (.int .i64 fuel)], [CV.v (.int .i64 cells)]] = encI [fuel, cells] := rfl
  have hz1 := fun K => term_isZ (ρ := ρ) fail fu (by omega) K t
  rw [p43, after_eq2 _ _ _ _ (by omega), gd_y (by simp), num_w1 fail fu (by omega) _ err _ (by rw [encB_length]; omega), eight_w fail fu (by omega) _ hi _ (by simp only [List.length_append, encB_length, List.length_nil]; omega), eight_w fail fu (by omega) _ lo _ (by simp only [List.length_append, encB_length, List.length_nil]; omega), gd_y (by simp), h2,
    num_w fail fu _ _ (by simp only [List.length_cons, List.length_nil]; omega) _ (by simp only [List.length_append, encB_length, List.length_cons, List.length_nil]; omega), flag_w fail fu (by omega) _ yes _ (by simp only [List.length_append, encB_length, numsB_cons, show numsB [] = [] from rfl, List.length_nil]; omega), hz1, flag_w fail fu (by omega) _ _ _ (by simp only [List.length_append, encB_length, numsB_cons, show numsB [] = [] from rfl, List.length_nil]; omega)]
  by_cases c : isZ t = true
  · rw [if_pos c] at hz
    rw [c, Bool.not_true, cond_false, show (if false = true then 1 else 0 : Nat) = 0 from rfl, tail _ (by simp only [List.length_append, encB_length, numsB_cons, show numsB [] = [] from rfl, List.length_nil]; omega)]
    simp [rpEnc, c, numsB_cons, show numsB [] = [] from rfl, List.append_assoc]
  · rw [if_neg c] at hz
    simp only [List.length_append] at hz
    have c' : isZ t = false := Bool.eq_false_iff.2 c
    rw [c', Bool.not_false, cond_true, show (if true = true then 1 else 0 : Nat) = 1 from rfl, term_w fail _ t (Nat.le_refl _) fu _ _ (by omega) ht2 (by simp only [List.length_append, encB_length, numsB_cons, show numsB [] = [] from rfl, List.length_nil]; omega), tail _ (by simp only [List.length_append, encB_length, numsB_cons, show numsB [] = [] from rfl, List.length_nil]; omega)]
    simp [rpEnc, c', numsB_cons, show numsB [] = [] from rfl, List.append_assoc]
theorem rreply_wz {ρ : Type} (fail : ρ) (fu : Nat) (K : EL → ρ) (b : List UInt8) (err : Int) (hi lo : Nat) (fuel cells : Int) (yes : Bool) (t : Tm) (pa : Int) (ax : List ByteArray) (hhi : hi < 2 ^ 64) (hlo : lo < 2 ^ 64) (ht1 : t.sz + 60 ≤ fu) (ht2 : t.sz < 1099511627776) (ht3 : t.lvOk) (ha1 : axSz ax + 60 ≤ fu) (ha2 : axSz ax < 1099511627776)
    (hz : b.length + (rpEnc err hi lo fuel cells yes t pa ax).length ≤ 35184372086000) : p44 fail fu K (encB b) err (hi : Nat) (lo : Nat) fuel cells yes t.k t.n t.nm (Lv.rows t.ls) (Tm.rows t.args) pa (ax.map strRow) = K (encB (b ++ rpEnc err hi lo fuel cells yes t pa ax)) := by
  have hal := axSz_len ax
  have u1 := varB_10 (uv_lt err)
  have u2 := varB_10 (uv_lt fuel)
  have u3 := varB_10 (uv_lt cells)
  have u4 := varB_10 (uv_lt pa)
  have u5 := varB_10 (show ax.length < 2 ^ 64 by omega)
  have l1 := lowB_len 8 hi
  have l2 := lowB_len 8 lo
  have hv1 : (varB 1).length = 1 := by rw [varB_lt (by omega)]; rfl
  have hv0 : (varB 0).length = 1 := by rw [varB_lt (by omega)]; rfl
  have hy : (varB (if yes = true then 1 else 0)).length = 1 := by split <;> assumption
  have hg : uv ((ax.length : Nat) : Int) = ax.length := uv_nat _ (by omega)
  simp only [rpEnc, List.length_append] at hz
  have tail : ∀ y : EL, y.length + (varB (uv pa)).length + (varB ax.length).length + (axB ax).length ≤ 35184372086900 → p44_2 fail fu K pa (ax.map strRow) y = K (y ++ encB (varB (uv pa) ++ (varB ax.length ++ axB ax))) := fun y hy => by
    have := rax_w fail fu K ax (by omega) ha2 ax.length 0 fu (y ++ encB (varB (uv pa)) ++ encB (varB ax.length)) (by omega) (by omega) (by simp only [List.length_append, encB_length, List.drop_zero]; omega)
    rw [show ((0 : Nat) : Int) = 0 from rfl] at this
    rw [p44_2, rnum_w2 fail fu (by omega) _ y pa (by omega), List.length_map, rnum_w2 fail fu (by omega) _ _ _ (by simp only [List.length_append, encB_length]; omega), hg, this, List.drop_zero]
    simp [List.append_assoc]
  have mid : ∀ (y : EL) (j : Int), uv j = (if yes = true then 1 else 0) → y.length + (varB (if yes = true then 1 else 0)).length + (if isZ t = true then varB 0 else varB 1 ++ t.enc).length + (varB (uv pa)).length + (varB ax.length).length + (axB ax).length ≤ 35184372086900 →
      p44_3 fail fu K t.k t.n t.nm (Lv.rows t.ls) (Tm.rows t.args) pa (ax.map strRow) y j = K (y ++ encB (varB (if yes = true then 1 else 0) ++ ((if isZ t = true then varB 0 else varB 1 ++ t.enc) ++ (varB (uv pa) ++ (varB ax.length ++ axB ax))))) := fun y j hj hyl => by
    rw [p44_3, rnum_w2 fail fu (by omega) _ y j (by omega), hj, rterm_isZ fail fu (by omega)]
    by_cases c : isZ t = true
    · rw [if_pos c] at hyl ⊢
      rw [c, cond_true, rnum_w2 fail fu (by omega) _ _ _ (by simp only [List.length_append, encB_length]; omega), show uv 0 = 0 from rfl, tail _ (by simp only [List.length_append, encB_length]; omega)]
      simp [List.append_assoc]
    · rw [if_neg c] at hyl ⊢
      simp only [List.length_append] at hyl
      rw [Bool.eq_false_iff.2 c, cond_false, rnum_w2 fail fu (by omega) _ _ _ (by simp only [List.length_append, encB_length]; omega), show uv 1 = 1 from rfl, rterm_w fail _ t (Nat.le_refl _) ht3 fu _ _ (by omega) ht2 (by simp only [List.length_append, encB_length]; omega), tail _ (by simp only [List.length_append, encB_length]; omega)]
      simp [List.append_assoc]
  rw [p44, rnum_w2 fail fu (by omega) _ _ err (by rw [encB_length]; omega), p89, rEight_w fail fu (by omega) _ _ (by simp only [List.length_append, encB_length, List.length_nil]; omega) hi hhi, rEight_w fail fu (by omega) _ _ (by simp only [List.length_append, encB_length, List.length_nil]; omega) lo hlo,
    rnum_w2 fail fu (by omega) _ _ fuel (by simp only [List.length_append, encB_length, List.length_nil]; omega), rnum_w2 fail fu (by omega) _ _ cells (by simp only [List.length_append, encB_length, List.length_nil]; omega)]
  have fin : ∀ j : Int, uv j = (if yes = true then 1 else 0) → p44_3 fail fu K t.k t.n t.nm (Lv.rows t.ls) (Tm.rows t.args) pa (ax.map strRow) (((((encB b ++ encB (varB (uv err))) ++ encB (lowB 8 hi)) ++ encB (lowB 8 lo)) ++ encB (varB (uv fuel))) ++ encB (varB (uv cells))) j = K (encB (b ++ rpEnc err hi lo fuel cells yes t pa ax)) := fun j hj => by
    rw [mid _ j hj (by simp only [List.length_append, encB_length, List.length_nil]; omega), rpEnc]
    simp [List.append_assoc]
  cases hyes : yes with
  | true => rw [cond_true]; subst hyes; exact fin 1 rfl
  | false => rw [cond_false]; subst hyes; exact fin 0 rfl
theorem scmp_erefl (s : ByteArray) : scmpStd .eql s s = true := by simp [scmpStd]
theorem replyWrites_pure (b : List UInt8) (err : Int) (hi lo : Nat) (hhi : hi < 2 ^ 64) (hlo : lo < 2 ^ 64) (fuel cells : Int) (yes : Bool) (t : Tm) (pa : Int) (ax : List ByteArray) :
    p9 (ρ := Prop) False 2000000 (fun y => y = true) (encB b) err (hi : Nat) (lo : Nat) fuel cells yes t.k t.n t.nm (Lv.rows t.ls) (Tm.rows t.args) pa (ax.map strRow) := by
  rw [p9, begun26_2000000, Bool.not_true, cond_false, encB_length, List.length_map]
  by_cases h0 : 1000 < b.length
  · rw [gtrT (by omega), cond_true, p9_3, cond_true]
  rw [gtrF (by omega), cond_false]
  by_cases h4 : 1024 < ax.length
  · rw [gtrT (by omega), cond_true, p9_3, cond_true]
  rw [gtrF (by omega), cond_false]
  obtain ⟨bb, hb, hb2⟩ := mayReply_eq (ρ := Prop) False 2000000 (by omega) err (hi : Nat) (lo : Nat) fuel cells yes t pa ax (by omega)
  dsimp only at hb
  rw [hb]
  cases bb with
  | false => rw [Bool.not_false, p9_3, cond_true]
  | true =>
  obtain ⟨⟨a1, a2⟩, ⟨a3, a4⟩, ⟨a5, a6⟩, ⟨a7, a8⟩, ⟨tg, tp⟩, axs⟩ := hb2 rfl
  have tsz := good_sz 100 t tg
  obtain ⟨ax1, ax2⟩ := ax_small ax axs
  have tenc := Tm.enc_sz t (by omega)
  have hE : (rpEnc err hi lo fuel cells yes t pa ax).length ≤ 1000000000 := by
    have u1 := varB_10 (uv_lt err)
    have u2 := varB_10 (uv_lt fuel)
    have u3 := varB_10 (uv_lt cells)
    have u4 := varB_10 (uv_lt pa)
    have u5 := varB_10 (show ax.length < 2 ^ 64 by omega)
    have hv1 : (varB 1).length ≤ 10 := varB_10 (by omega)
    have hv0 : (varB 0).length ≤ 10 := varB_10 (by omega)
    have hy : (varB (if yes = true then 1 else 0)).length ≤ 10 := by split <;> assumption
    have hif : (if isZ t = true then varB 0 else varB 1 ++ t.enc).length ≤ 10 + t.enc.length := by
      split
      · omega
      · rw [List.length_append]; omega
    simp only [rpEnc, List.length_append, lowB_len]; omega
  have hput := fun K => put_wz (ρ := Prop) False 2000000 K b err hi lo fuel cells yes t pa ax (by omega) (by omega) (by omega) (by omega) (by omega)
  have href := fun K => rreply_wz (ρ := Prop) False 2000000 K b err hi lo fuel cells yes t pa ax hhi hlo (by omega) (by omega) (good_lv 100 t tg) (by omega) (by omega) (by omega)
  generalize b ++ rpEnc err hi lo fuel cells yes t pa ax = E at hput href
  rw [Bool.not_true, p9_3, cond_false, twin_w _ _ (by omega) _ b (by omega), gd_y (by rw [twin_len]; omega), gd_y (u8E_enc _), twin_take, hput, gd_y (safeT_enc _), tobP_enc, gd_y (by rfl), gd_y (by rw [encB_length]; simp; omega), show nilE ++ encB b = encB b from rfl, href, tobP_enc, scmp_erefl, cond_true,
    gd_y (by rw [twin_len]; omega), gd_y (u8E_enc _), gd_y (by rw [twin_len]), gd_y (by rw [twin_len]; omega), twin_drop, kept_w _ _ (by omega) _ b (by omega), p9_2, cond_true,
    gd_y (by rw [twin_len]; omega), gd_y (u8E_enc _), gd_y (by rw [twin_len]), gd_y (by rw [twin_len]; omega), twin_take, twin_drop, kept_w _ _ (by omega) _ b (by omega), p9_1]
end Go.Proofs.Ythncmjlcmlmnmaa

namespace Go.Proofs.Ythncmjlcmlmnmaa
open Go V
open Go.ChangeShapes Go.WideShapes Go.ChangeAt Go.RowKit
theorem Try.own : ownKnob Try.prog.godebug = none := by kernel_rfl
theorem Try.laidOut : laidOutB Try.prog = true := by kernel_rfl
set_option maxRecDepth 100000
theorem u8_of {n : Int} (h : (Lit.int .u8 n).wf = true) : 0 ≤ n ∧ n ≤ 255 := by
  have h' : (decide (IntKind.u8.min ≤ n) && decide (n ≤ IntKind.u8.max)) = true := h
  have h1 : IntKind.u8.min = 0 := by decide
  have h2 : IntKind.u8.max = 255 := by decide
  rw [Bool.and_eq_true, h1, h2] at h'
  exact ⟨of_decide_eq_true h'.1, of_decide_eq_true h'.2⟩
theorem bytes_of : ∀ (es : List (List CV)), (∀ r ∈ es, ∃ z, r = [.v (.int .u8 z)] ∧ (Lit.int .u8 z).wf = true) → ∃ bs : List UInt8, es = encB bs
  | [], _ => ⟨[], rfl⟩
  | r :: es, h => by
    obtain ⟨z, hz, hw⟩ := h r (by simp)
    obtain ⟨bs, hbs⟩ := bytes_of es (fun r hr => h r (by simp [hr]))
    have h1 := u8_of hw
    refine ⟨UInt8.ofNat z.toNat :: bs, ?_⟩
    rw [hz, hbs, encB_cons]
    have : (UInt8.ofNat z.toNat).toNat = z.toNat := by simp; omega
    rw [this, show ((z.toNat : Nat) : Int) = z by omega]
section
variable {H : Type} {enc : TypeId × Value → H} {w : World} {base : Nat} {spare : Nat → Bool} {held : Bool}
theorem cells_slice {t e : TypeId} {v : Value} {r : Reach} (hu : Try.prog.underlying t = some (.slice e)) (hv : Value.okWide Try.prog w r base t v) : v.cells = #[v] := by
  unfold Value.okWide at hv
  rw [hu] at hv
  unfold Cell.okWide at hv
  rw [hu] at hv
  unfold Cell.ok at hv
  rw [hu] at hv
  cases v <;> first | rfl | exact hv.elim
theorem bytes_arg {v : Value} {r : Reach} {d : DataW H} {ps : List MemPlace} {base' : Nat} (hv : Value.okWide Try.prog w r base' 24 v) (h : DataW.Trod enc Try.prog w base spare held 24 v d ps) :
    ∃ bs : List UInt8, RelC (allS w) w (.sl 1 (encB bs) none) v ∧ bs.length ≤ maxLen := by
  have hu : Try.prog.underlying 24 = some (.slice 5) := by kernel_rfl
  have hu8 : Try.prog.underlying 5 = some (.int .u8) := by kernel_rfl
  have hc1 : Try.prog.cellsOf 5 = 1 := by kernel_rfl
  obtain ⟨n, y, hr, hs⟩ := trod_own (l := [5, 24]) (by kernel_rfl) (by simp) h (cells_slice hu hv)
  cases n with
  | zero => exact hs.elim
  | succ n =>
    simp only [Shp, hu] at hs
    obtain ⟨es, he, hl, hall⟩ := hs
    injection he with he _
    subst he
    obtain ⟨bs, rfl⟩ := bytes_of es (fun r hr => by
      have := hall r hr
      cases n with
      | zero => exact this.elim
      | succ n => simp only [Shp, hu8] at this; exact this)
    rw [hc1] at hr
    exact ⟨bs, hr, by simpa using hl⟩
end
end Go.Proofs.Ythncmjlcmlmnmaa

namespace Go.Proofs.Ythncmjlcmlmnmaa
open Go V
open Go.ChangeShapes Go.WideShapes Go.ChangeAt Go.RowKit
set_option maxRecDepth 100000
/-- The types that a reply leans on. -/
def rpTys : List TypeId := [3, 4, 9, 65, 25, 26, 68, 28, 40, 34, 67, 70]
theorem rpTys_closed : closedT Try.prog rpTys = true := by kernel_rfl
def fldOf (P : Program) (t : TypeId) : List TypeId := match P.underlying t with
  | some (.struct fs) => fs.toList.map (·.type)
  | _ => []
theorem shp_struct {n : Nat} {t : TypeId} {ys : List CV} {l : List TypeId} (h : Shp Try.prog (n + 1) t ys) (hk : (match Try.prog.underlying t with | some (.struct _) => true | _ => false) = true) (hl : fldOf Try.prog t = l) : ShpL (Shp Try.prog n) l ys := by
  subst hl
  unfold fldOf
  simp only [Shp] at h
  split at hk
  · rename_i fs hu
    rw [hu] at h
    exact h
  · cases hk
theorem shp_int {n : Nat} {t : TypeId} {ys : List CV} (hu : Try.prog.underlying t = some (.int .i64)) (h : Shp Try.prog n t ys) : ∃ z : Int, ys = [.v (.int .i64 z)] := by
  cases n with
  | zero => exact h.elim
  | succ n => simp only [Shp, hu] at h; obtain ⟨z, hz, _⟩ := h; exact ⟨z, hz⟩
theorem shp_u64 {n : Nat} {t : TypeId} {ys : List CV} (hu : Try.prog.underlying t = some (.int .u64)) (h : Shp Try.prog n t ys) : ∃ z : Nat, ys = [.v (.int .u64 (z : Nat))] ∧ z < 2 ^ 64 := by
  cases n with
  | zero => exact h.elim
  | succ n =>
    simp only [Shp, hu] at h
    obtain ⟨z, hz, hw⟩ := h
    have h' : (decide (IntKind.u64.min ≤ z) && decide (z ≤ IntKind.u64.max)) = true := hw
    have h1 : IntKind.u64.min = 0 := by decide
    have h2 : IntKind.u64.max = 18446744073709551615 := by decide
    rw [Bool.and_eq_true, h1, h2] at h'
    have h3 := of_decide_eq_true h'.1
    have h4 := of_decide_eq_true h'.2
    refine ⟨z.toNat, ?_, by omega⟩
    rw [hz, show ((z.toNat : Nat) : Int) = z by omega]
theorem shp_bool {n : Nat} {t : TypeId} {ys : List CV} (hu : Try.prog.underlying t = some .bool) (h : Shp Try.prog n t ys) : ∃ z : Bool, ys = [.v (.bool z)] := by
  cases n with
  | zero => exact h.elim
  | succ n => simp only [Shp, hu] at h; exact h
theorem shp_string {n : Nat} {t : TypeId} {ys : List CV} (hu : Try.prog.underlying t = some .string) (h : Shp Try.prog n t ys) : ∃ z : ByteArray, ys = [.v (.string z)] := by
  cases n with
  | zero => exact h.elim
  | succ n => simp only [Shp, hu] at h; obtain ⟨z, hz, _⟩ := h; exact ⟨z, hz⟩
theorem shp_slice {n : Nat} {t e : TypeId} {c : Nat} {ys : List CV} (hu : Try.prog.underlying t = some (.slice e)) (hc : Try.prog.cellsOf e = c) (h : Shp Try.prog n t ys) : ∃ m es, n = m + 1 ∧ ys = [.sl c es none] ∧ ∀ r ∈ es, Shp Try.prog m e r := by
  cases n with
  | zero => exact h.elim
  | succ n => simp only [Shp, hu, hc] at h; obtain ⟨es, h1, _, h2⟩ := h; exact ⟨n, es, rfl, h1, h2⟩
theorem lv_rows_of : ∀ (es : EL), (∀ r ∈ es, ∃ l : Lv, r = l.row) → ∃ ls, es = Lv.rows ls
  | [], _ => ⟨[], rfl⟩
  | r :: es, h => by
    obtain ⟨l, hl⟩ := h r (by simp)
    obtain ⟨ls, hls⟩ := lv_rows_of es fun r hr => h r (by simp [hr])
    exact ⟨l :: ls, by rw [hl, hls, Lv.rows]⟩
theorem tm_rows_of : ∀ (es : EL), (∀ r ∈ es, ∃ l : Tm, r = l.row) → ∃ ls, es = Tm.rows ls
  | [], _ => ⟨[], rfl⟩
  | r :: es, h => by
    obtain ⟨l, hl⟩ := h r (by simp)
    obtain ⟨ls, hls⟩ := tm_rows_of es fun r hr => h r (by simp [hr])
    exact ⟨l :: ls, by rw [hl, hls, Tm.rows]⟩
theorem str_rows_of : ∀ (es : EL), (∀ r ∈ es, ∃ s : ByteArray, r = strRow s) → ∃ ls : List ByteArray, es = ls.map strRow
  | [], _ => ⟨[], rfl⟩
  | r :: es, h => by
    obtain ⟨l, hl⟩ := h r (by simp)
    obtain ⟨ls, hls⟩ := str_rows_of es fun r hr => h r (by simp [hr])
    exact ⟨l :: ls, by rw [hl, hls, List.map_cons]⟩
theorem un_int : Try.prog.underlying 3 = some (.int .i64) := by kernel_rfl
theorem un_bool : Try.prog.underlying 4 = some .bool := by kernel_rfl
theorem un_string : Try.prog.underlying 9 = some .string := by kernel_rfl
theorem un_u64 : Try.prog.underlying 65 = some (.int .u64) := by kernel_rfl
theorem un_errno : Try.prog.underlying 34 = some (.int .i64) := by kernel_rfl
theorem un_levels : Try.prog.underlying 26 = some (.slice 40) := by kernel_rfl
theorem un_terms : Try.prog.underlying 25 = some (.slice 28) := by kernel_rfl
theorem un_strings : Try.prog.underlying 68 = some (.slice 9) := by kernel_rfl
theorem ce_level : Try.prog.cellsOf 40 = 3 := by kernel_rfl
theorem ce_term : Try.prog.cellsOf 28 = 5 := by kernel_rfl
theorem ce_string : Try.prog.cellsOf 9 = 1 := by kernel_rfl
theorem fl_level : fldOf Try.prog 40 = [3, 3, 26] := by kernel_rfl
theorem fl_term : fldOf Try.prog 28 = [3, 3, 9, 26, 25] := by kernel_rfl
theorem fl_handle : fldOf Try.prog 67 = [65, 65] := by kernel_rfl
theorem fl_reply : fldOf Try.prog 70 = [34, 67, 3, 3, 4, 28, 3, 68] := by kernel_rfl
theorem shp_level : ∀ (n : Nat) (ys : List CV), Shp Try.prog n 40 ys → ∃ l : Lv, ys = l.row := by
  intro n
  induction n using Nat.strongRecOn with
  | ind n ih =>
    intro ys h
    cases n with
    | zero => exact h.elim
    | succ n =>
      obtain ⟨a, b, rfl, ha, c, d, rfl, hc, e, f, rfl, he, rfl⟩ := shp_struct h (by kernel_rfl) fl_level
      obtain ⟨k, rfl⟩ := shp_int un_int ha
      obtain ⟨m, rfl⟩ := shp_int un_int hc
      obtain ⟨q, es, rfl, rfl, hes⟩ := shp_slice un_levels ce_level he
      obtain ⟨ls, rfl⟩ := lv_rows_of es fun r hr => ih q (by omega) r (hes r hr)
      exact ⟨.mk k m ls, by rw [Lv.row]; rfl⟩
theorem shp_levels {n : Nat} {ys : List CV} (h : Shp Try.prog n 26 ys) : ∃ ls : List Lv, ys = [.sl 3 (Lv.rows ls) none] := by
  obtain ⟨q, es, rfl, rfl, hes⟩ := shp_slice un_levels ce_level h
  obtain ⟨ls, rfl⟩ := lv_rows_of es fun r hr => shp_level q r (hes r hr)
  exact ⟨ls, rfl⟩
theorem shp_term : ∀ (n : Nat) (ys : List CV), Shp Try.prog n 28 ys → ∃ t : Tm, ys = t.row := by
  intro n
  induction n using Nat.strongRecOn with
  | ind n ih =>
    intro ys h
    cases n with
    | zero => exact h.elim
    | succ n =>
      obtain ⟨a, b, rfl, ha, c, d, rfl, hc, e, f, rfl, he, g, i, rfl, hg, j, k, rfl, hj, rfl⟩ := shp_struct h (by kernel_rfl) fl_term
      obtain ⟨k, rfl⟩ := shp_int un_int ha
      obtain ⟨m, rfl⟩ := shp_int un_int hc
      obtain ⟨s, rfl⟩ := shp_string un_string he
      obtain ⟨ls, rfl⟩ := shp_levels hg
      obtain ⟨q, es, rfl, rfl, hes⟩ := shp_slice un_terms ce_term hj
      obtain ⟨ts, rfl⟩ := tm_rows_of es fun r hr => ih q (by omega) r (hes r hr)
      exact ⟨.mk k m s ls ts, by rw [Tm.row]; rfl⟩
theorem shp_strings {n : Nat} {ys : List CV} (h : Shp Try.prog n 68 ys) : ∃ ls : List ByteArray, ys = [.sl 1 (ls.map strRow) none] := by
  obtain ⟨q, es, rfl, rfl, hes⟩ := shp_slice un_strings ce_string h
  obtain ⟨ls, rfl⟩ := str_rows_of es fun r hr => shp_string un_string (hes r hr)
  exact ⟨ls, rfl⟩
theorem shp_reply {n : Nat} {ys : List CV} (h : Shp Try.prog n 70 ys) :
    ∃ (err : Int) (hi lo : Nat) (fuel cells : Int) (yes : Bool) (t : Tm) (pa : Int) (ax : List ByteArray), hi < 2 ^ 64 ∧ lo < 2 ^ 64 ∧
      ys = [.v (.int .i64 err), .v (.int .u64 (hi : Nat)), .v (.int .u64 (lo : Nat)), .v (.int .i64 fuel), .v (.int .i64 cells), .v (.bool yes), .v (.int .i64 t.k), .v (.int .i64 t.n), .v (.string t.nm), .sl 3 (Lv.rows t.ls) none, .sl 5 (Tm.rows t.args) none, .v (.int .i64 pa), .sl 1 (ax.map strRow) none] := by
  cases n with
  | zero => exact h.elim
  | succ n =>
    obtain ⟨a0, b0, rfl, h0, a1, b1, rfl, h1, a2, b2, rfl, h2, a3, b3, rfl, h3, a4, b4, rfl, h4, a5, b5, rfl, h5, a6, b6, rfl, h6, a7, b7, rfl, h7, rfl⟩ := shp_struct h (by kernel_rfl) fl_reply
    obtain ⟨err, rfl⟩ := shp_int un_errno h0
    cases n with
    | zero => exact h1.elim
    | succ n =>
      obtain ⟨c0, d0, rfl, g0, c1, d1, rfl, g1, rfl⟩ := shp_struct h1 (by kernel_rfl) fl_handle
      obtain ⟨hi, rfl, hhi⟩ := shp_u64 un_u64 g0
      obtain ⟨lo, rfl, hlo⟩ := shp_u64 un_u64 g1
      obtain ⟨fuel, rfl⟩ := shp_int un_int h2
      obtain ⟨cells, rfl⟩ := shp_int un_int h3
      obtain ⟨yes, rfl⟩ := shp_bool un_bool h4
      obtain ⟨t, rfl⟩ := shp_term _ _ h5
      obtain ⟨pa, rfl⟩ := shp_int un_int h6
      obtain ⟨ax, rfl⟩ := shp_strings h7
      exact ⟨err, hi, lo, fuel, cells, yes, t, pa, ax, hhi, hlo, by rw [Tm.row_eq]; rfl⟩
end Go.Proofs.Ythncmjlcmlmnmaa
