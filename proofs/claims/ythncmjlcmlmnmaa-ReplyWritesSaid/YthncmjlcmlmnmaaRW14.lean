/- The law 'ReplyBack' answers true, in plain Lean. Conditions: none. -/
import Derived.Test.YthncmjlcmlmnmaaRW13
import Derived.KernelRfl
import Derived.Test.YthncmjlcmlmnmaaG
import Derived.Test.YthncmjlcmlmnmaaPR
namespace Go.Proofs.Ythncmjlcmlmnmaa
open Go V
set_option maxRecDepth 100000
set_option maxHeartbeats 2000000
theorem begun26_2000000 (K : Bool → Prop) : p41 (ρ := Prop) False 2000000 K = K true := by kernel_rfl
theorem small_may {ρ : Type} (fail : ρ) (fu : Nat) (x : Int) : BO (fun K : Bool → ρ => p82 fail fu K x) (0 ≤ x ∧ x ≤ 1073741824) := by
  by_cases h : 0 ≤ x ∧ x ≤ 1073741824
  · refine ⟨true, fun K => ?_, fun _ => h⟩
    dsimp only
    rw [p82, geqT h.1, cond_true, leqT h.2, p82_1]
  · refine ⟨false, fun K => ?_, fun h => by cases h⟩
    dsimp only
    by_cases h1 : 0 ≤ x
    · rw [p82, geqT h1, cond_true, leqF (by omega), p82_1]
    · rw [p82, geqF (by omega), cond_false, p82_1]
theorem mayReply_eq {ρ : Type} (fail : ρ) (fu : Nat) (hf : 5000 ≤ fu) (err : Int) (hi lo fuel cells : Int) (yes : Bool) (t : Tm) (pa : Int) (ax : List ByteArray) (hax : ax.length ≤ 1024) :
    BO (fun K : Bool → ρ => p42 fail fu K err hi lo fuel cells yes t.k t.n t.nm (Lv.rows t.ls) (Tm.rows t.args) pa (ax.map strRow))
      ((0 ≤ err ∧ err ≤ 1073741824) ∧ (0 ≤ fuel ∧ fuel ≤ 1073741824) ∧ (0 ≤ cells ∧ cells ≤ 1073741824) ∧ (0 ≤ pa ∧ pa ≤ 1073741824) ∧ (t.good 100 ∧ t.parts ≤ 2000) ∧ ∀ s ∈ ax, s.size ≤ 24) := by
  have bad : ∀ K : Bool → ρ, p42_2 fail fu K (ax.map strRow) true = K false := fun K => by rw [p42_2, cond_true]
  have loop : ∀ (r i j : Nat), i + r = ax.length → r < j → BO (fun K : Bool → ρ => p42_1L fail fu K (ax.map strRow) j ((i : Nat) : Int)) (∀ s ∈ ax.drop i, s.size ≤ 24) := by
    intro r
    induction r with
    | zero =>
      intro i j hi hj
      obtain ⟨j, rfl⟩ : ∃ j', j = j' + 1 := ⟨j - 1, by omega⟩
      refine ⟨true, fun K => ?_, fun _ x hx => ?_⟩
      · dsimp only; rw [p42_1L, p42_1, List.length_map, lssF (by omega), cond_false]
      · rw [List.drop_eq_nil_of_le (by omega)] at hx; simp at hx
    | succ r ihr =>
      intro i j hi hj
      obtain ⟨j, rfl⟩ : ∃ j', j = j' + 1 := ⟨j - 1, by omega⟩
      have hlt : i < ax.length := by omega
      have hdr : ax.drop i = ax[i] :: ax.drop (i + 1) := List.drop_eq_getElem_cons hlt
      have h2 : ∀ K : Bool → ρ, p42_1L fail fu K (ax.map strRow) (j + 1) ((i : Nat) : Int) = bif cmpStd .gtr ((ax[i].size : Nat) : Int) 24 then K false else p42_1L fail fu K (ax.map strRow) j ((i + 1 : Nat) : Int) := fun K => by
        rw [p42_1L, p42_1, List.length_map, lssT (by omega), cond_true, gd_y (by omega), gd_y (by omega), str_row fail ax i hlt, addZ (by omega) (by omega), show ((i : Nat) : Int) + 1 = ((i + 1 : Nat) : Int) by omega]
      by_cases c : ax[i].size ≤ 24
      · obtain ⟨b', g1, g2⟩ := ihr (i + 1) j (by omega) (by omega)
        refine ⟨b', fun K => ?_, fun hb' x hx => ?_⟩
        · dsimp only
          rw [h2, gtrF (by omega), cond_false]; exact g1 K
        · rw [hdr] at hx
          rcases List.mem_cons.1 hx with rfl | hx
          · exact c
          · exact g2 hb' x hx
      · refine ⟨false, fun K => ?_, fun h => by cases h⟩
        dsimp only
        rw [h2, gtrT (by omega), cond_true]
  obtain ⟨b1, h1, k1⟩ := small_may fail fu err
  obtain ⟨b2, h2, k2⟩ := small_may fail fu fuel
  obtain ⟨b3, h3, k3⟩ := small_may fail fu cells
  obtain ⟨b4, h4, k4⟩ := small_may fail fu pa
  obtain ⟨b5, h5, k5⟩ := mayTerm_eq fail fu (by omega) t
  obtain ⟨b6, h6, k6⟩ := loop ax.length 0 fu (by omega) (by omega)
  dsimp only at h1 h2 h3 h4 h5 h6
  have hmain : ∀ K : Bool → ρ, p42 fail fu K err hi lo fuel cells yes t.k t.n t.nm (Lv.rows t.ls) (Tm.rows t.args) pa (ax.map strRow) = bif (!b1) then K false else bif (!b2) then K false else bif (!b3) then K false else bif (!b4) then K false else bif (!b5) then K false else K b6 := fun K => by
    rw [p42, h1]
    cases b1 with
    | false => rw [Bool.not_false, cond_true, cond_true, bad]
    | true =>
      rw [Bool.not_true, cond_false, cond_false, h2]
      cases b2 with
      | false => rw [Bool.not_false, cond_true, cond_true, bad]
      | true =>
        rw [Bool.not_true, cond_false, cond_false, h3]
        cases b3 with
        | false => rw [Bool.not_false, cond_true, cond_true, bad]
        | true =>
          rw [Bool.not_true, cond_false, cond_false, h4]
          cases b4 with
          | false => rw [Bool.not_false, cond_true, cond_true, bad]
          | true =>
            rw [Bool.not_true, cond_false, cond_false, List.length_map, gtrF (by omega), cond_false, h5]
            cases b5 with
            | false => rw [Bool.not_false, cond_true, bad]
            | true => rw [Bool.not_true, cond_false, p42_2, cond_false]; exact h6 K
  cases b1 with
  | false => exact ⟨false, hmain, fun h => by cases h⟩
  | true =>
  cases b2 with
  | false => exact ⟨false, hmain, fun h => by cases h⟩
  | true =>
  cases b3 with
  | false => exact ⟨false, hmain, fun h => by cases h⟩
  | true =>
  cases b4 with
  | false => exact ⟨false, hmain, fun h => by cases h⟩
  | true =>
  cases b5 with
  | false => exact ⟨false, hmain, fun h => by cases h⟩
  | true => exact ⟨b6, hmain, fun hb => ⟨k1 rfl, k2 rfl, k3 rfl, k4 rfl, k5 rfl, fun s hs => k6 hb s (by simpa using hs)⟩⟩
theorem place_eq {ρ : Type} (fail : ρ) (fu : Nat) (k : Int) (n : Nat) (hn : 1 ≤ n) (hn2 : n ≤ 1099511627776) : ∃ q : Nat, q < n ∧ ∀ K : Int → ρ, p40 fail fu K k ((n : Nat) : Int) = K ((q : Nat) : Int) := by
  have hr : binStd .rem .i64 k ((n : Nat) : Int) = k.tmod (n : Int) := rfl
  have h1 := Int.tmod_lt_of_pos k (show (0 : Int) < n by omega)
  have h2 : -(n : Int) < k.tmod n := by
    have := Int.lt_tmod_of_pos k (show (0 : Int) < n by omega)
    exact this
  by_cases h0 : k.tmod (n : Int) < 0
  · refine ⟨(k.tmod (n : Int) + n).toNat, by omega, fun K => ?_⟩
    rw [p40, lssF (by omega), cond_false, gd_y (by omega), hr, lssT h0, cond_true, p40_1, addZ (by omega) (by omega)]
    congr 1; omega
  · refine ⟨(k.tmod (n : Int)).toNat, by omega, fun K => ?_⟩
    rw [p40, lssF (by omega), cond_false, gd_y (by omega), hr, lssF (by omega), cond_false, p40_1]
    congr 1; omega
mutual
theorem Lv.enc_sz : ∀ l : Lv, l.enc.length ≤ 20 * l.sz
  | .mk k n l => by
    have := Lv.encs_sz l
    have h1 := varB_10 (uv_lt k)
    have h2 := varB_10 (uv_lt n)
    have h3 : (if k = 4 then varB (uv n) else []).length ≤ 10 := by
      split
      · exact h2
      · exact Nat.zero_le _
    simp only [Lv.sz, Lv.enc, List.length_append]; omega
theorem Lv.encs_sz : ∀ l : List Lv, (Lv.encs l).length ≤ 20 * Lv.szs l
  | [] => Nat.zero_le _
  | a :: l => by
    have := Lv.enc_sz a
    have h2 := Lv.encs_sz l
    simp only [Lv.szs, Lv.encs, List.length_append]; omega
end
mutual
theorem Tm.enc_sz : ∀ t : Tm, t.sz < 1099511627776 → t.enc.length ≤ 40 * t.sz
  | .mk k n s l a, h => by
    simp only [Tm.sz] at h
    have := Tm.encs_sz a (by omega)
    have h0 := Lv.encs_sz l
    have hl := Lv.szs_len l
    have h1 := varB_10 (uv_lt k)
    have h2 := varB_10 (uv_lt n)
    have h4 := varB_10 (show s.size < 2 ^ 64 by omega)
    have h5 := varB_10 (show l.length < 2 ^ 64 by omega)
    have h3 : (if k = 0 then varB (uv n) else if k = 2 then txB s ++ varB l.length else []).length ≤ 20 + s.size := by
      split
      · omega
      · split
        · simp only [txB, List.length_append, sz_data]; omega
        · simp
    simp only [Tm.sz, Tm.enc, List.length_append]; omega
theorem Tm.encs_sz : ∀ l : List Tm, Tm.szs l < 1099511627776 → (Tm.encs l).length ≤ 40 * Tm.szs l
  | [], _ => Nat.zero_le _
  | a :: l, h => by
    simp only [Tm.szs] at h
    have := Tm.enc_sz a (by omega)
    have h2 := Tm.encs_sz l (by omega)
    simp only [Tm.szs, Tm.encs, List.length_append]; omega
end
theorem ax_small : ∀ (l : List ByteArray), (∀ s ∈ l, s.size ≤ 24) → axSz l ≤ 25 * l.length ∧ (axB l).length ≤ 34 * l.length
  | [], _ => ⟨Nat.le_refl _, Nat.le_refl _⟩
  | s :: l, h => by
    obtain ⟨h1, h2⟩ := ax_small l fun x hx => h x (by simp [hx])
    have h3 := h s (by simp)
    have h4 := varB_10 (show s.size < 2 ^ 64 by omega)
    simp only [axSz, axB, List.length_append, List.length_cons, txB, sz_data]; omega
theorem replyBack_pure (err : Int) (hi lo : Nat) (hhi : hi < 2 ^ 64) (hlo : lo < 2 ^ 64) (fuel cells : Int) (yes : Bool) (t : Tm) (pa : Int) (ax : List ByteArray) (c cut : Int) (hc : 0 ≤ c ∧ c ≤ 255) :
    p11 (ρ := Prop) False 2000000 (fun y => y = true) err (hi : Nat) (lo : Nat) fuel cells yes t.k t.n t.nm (Lv.rows t.ls) (Tm.rows t.args) pa (ax.map strRow) c cut := by
  rw [p11, begun26_2000000, Bool.not_true, cond_false, List.length_map]
  by_cases h4 : 1024 < ax.length
  · rw [gtrT (by omega), cond_true, p11_2, cond_true]
  rw [gtrF (by omega), cond_false]
  obtain ⟨b, hb, hb2⟩ := mayReply_eq (ρ := Prop) False 2000000 (by omega) err (hi : Nat) (lo : Nat) fuel cells yes t pa ax (by omega)
  dsimp only at hb
  rw [hb]
  cases b with
  | false => rw [Bool.not_false, p11_2, cond_true]
  | true =>
  obtain ⟨⟨a1, a2⟩, ⟨a3, a4⟩, ⟨a5, a6⟩, ⟨a7, a8⟩, ⟨tg, tp⟩, axs⟩ := hb2 rfl
  obtain ⟨err, rfl⟩ : ∃ q : Nat, err = q := ⟨err.toNat, by omega⟩
  obtain ⟨fuel, rfl⟩ : ∃ q : Nat, fuel = q := ⟨fuel.toNat, by omega⟩
  obtain ⟨cells, rfl⟩ : ∃ q : Nat, cells = q := ⟨cells.toNat, by omega⟩
  obtain ⟨pa, rfl⟩ : ∃ q : Nat, pa = q := ⟨pa.toNat, by omega⟩
  have tsz := good_sz 100 t tg
  obtain ⟨ax1, ax2⟩ := ax_small ax axs
  have tenc := Tm.enc_sz t (by omega)
  have hE : (rpEnc (err : Nat) hi lo (fuel : Nat) (cells : Nat) yes t (pa : Nat) ax).length ≤ 1000000000 := by
    have u1 := varB_10 (uv_lt ((err : Nat) : Int))
    have u2 := varB_10 (uv_lt ((fuel : Nat) : Int))
    have u3 := varB_10 (uv_lt ((cells : Nat) : Int))
    have u4 := varB_10 (uv_lt ((pa : Nat) : Int))
    have u5 := varB_10 (show ax.length < 2 ^ 64 by omega)
    have hv1 : (varB 1).length ≤ 10 := varB_10 (by omega)
    have hv0 : (varB 0).length ≤ 10 := varB_10 (by omega)
    have hy : (varB (if yes = true then 1 else 0)).length ≤ 10 := by split <;> assumption
    have hif : (if isZ t = true then varB 0 else varB 1 ++ t.enc).length ≤ 10 + t.enc.length := by
      split
      · omega
      · rw [List.length_append]; omega
    simp only [rpEnc, List.length_append, lowB_len]; omega
  have hback := rdRep_back err hi lo fuel cells (by omega) hhi hlo (by omega) (by omega) yes t tg tp pa (by omega) ax axs (by omega)
  have hput := fun K => put_w (ρ := Prop) False 2000000 K (err : Nat) hi lo (fuel : Nat) (cells : Nat) yes t (pa : Nat) ax (by omega) (by omega) (by omega) (by omega) (by omega)
  have h16 : 16 ≤ (rpEnc (err : Nat) hi lo (fuel : Nat) (cells : Nat) yes t (pa : Nat) ax).length := by simp only [rpEnc, List.length_append, lowB_len]; omega
  generalize hEE : rpEnc (err : Nat) hi lo (fuel : Nat) (cells : Nat) yes t (pa : Nat) ax = E at hE hback hput h16
  have t1 := take_eq (ρ := Prop) False 2000000 (by omega) E (by omega)
  rw [hback] at t1
  have hcb : [[CV.v (.int .u8 c)]] = encB [UInt8.ofNat c.toNat] := by rw [encB_cons, u8_nat (by omega), show ((c.toNat : Nat) : Int) = c by omega]; rfl
  have t2 := take_eq (ρ := Prop) False 2000000 (by omega) (E ++ [UInt8.ofNat c.toNat]) (by simp; omega)
  rw [rdRep_more _ (by simp) hback] at t2
  obtain ⟨q, hq, hplace⟩ := place_eq (ρ := Prop) False 2000000 cut E.length (by omega) (by omega)
  have hcut : rdRep (E.take q) = none := by
    cases hr : rdRep (E.take q) with
    | none => rfl
    | some r' =>
      have := rdRep_more (E.drop q) (by
        intro h
        have := congrArg List.length h
        rw [List.length_drop] at this; simp at this; omega) hr
      rw [List.take_append_drop, hback] at this
      cases this
  have t3 := take_eq (ρ := Prop) False 2000000 (by omega) (E.take q) (by rw [List.length_take]; omega)
  rw [hcut] at t3
  rw [Bool.not_true, p11_2, cond_false, hput]
  refine (t1 _).mpr ?_
  simp only [rpOut]
  have ht1 : List.take 1 [[CV.v (.int .u8 c)]] = encB [UInt8.ofNat c.toNat] := hcb
  rw [gd_y (by rfl), gd_y (by simp; omega), gd_y (by simp), ht1, gd_y (by simp; omega), List.nil_append, ← encB_append]
  refine (t2 _).mpr ?_
  simp only [rpOut]
  rw [encB_length, hplace, gd_y (by omega), gd_y (by omega), gd_y (by omega)]
  have hd : List.take (((q : Nat) : Int)).toNat (encB E) = encB (E.take q) := by rw [Int.toNat_natCast, encB_take]
  rw [hd]
  refine (t3 _).mpr ?_
  simp only [rpOut]
  rw [eqlT rfl, cond_true]
  have := reply_same (ρ := Prop) False 2000000 (fun y48 => bif y48 then (bif (cmpStd .eql (5 : Int) 5) then (p11_1 False 2000000 (fun y => y = true) (cmpStd .eql (5 : Int) 5)) else (p11_1 False 2000000 (fun y => y = true) false)) else (p11_1 False 2000000 (fun y => y = true) false)) ⟨(err : Nat), (hi : Nat), (lo : Nat), (fuel : Nat), (cells : Nat), yes, t, (pa : Nat), ax⟩ (by show t.sz + 30 ≤ _; omega) (by show t.sz < _; omega) (by show ax.length + 5 ≤ _; omega) (by show ax.length < _; omega)
  refine this.mpr ?_
  rw [eqlT rfl, cond_true, cond_true, p11_1]
end Go.Proofs.Ythncmjlcmlmnmaa

namespace Go.Proofs.Ythncmjlcmlmnmaa
open Go V
set_option maxRecDepth 100000
set_option maxHeartbeats 4000000
def p113_1 {ρ : Type} (fail : ρ) (fu : Nat)  (K0 : EL → ρ) (rec1 : Int → EL → ρ)  (z1 : Int) (z2 : EL) : ρ :=
  bif (cmpStd .geq z1 128) then (gd ((128 : Int) ≠ 0) fail (gd (1 ≤ [[(CV.v (.int .u8 (binStd .add .u8 (IntKind.u8.wrap (binStd .rem .u64 z1 128)) 128)))]].length) fail (gd ((z2.length + (List.take 1 [[(CV.v (.int .u8 (binStd .add .u8 (IntKind.u8.wrap (binStd .rem .u64 z1 128)) 128)))]]).length) * 1 ≤ 35184372088832) fail (gd ((128 : Int) ≠ 0) fail (rec1 (binStd .quo .u64 z1 128) (z2 ++ (List.take 1 [[(CV.v (.int .u8 (binStd .add .u8 (IntKind.u8.wrap (binStd .rem .u64 z1 128)) 128)))]]))))))) else (gd (1 ≤ [[(CV.v (.int .u8 (IntKind.u8.wrap z1)))]].length) fail (gd ((z2.length + (List.take 1 [[(CV.v (.int .u8 (IntKind.u8.wrap z1)))]]).length) * 1 ≤ 35184372088832) fail (K0 (z2 ++ (List.take 1 [[(CV.v (.int .u8 (IntKind.u8.wrap z1)))]])))))
def p113_1L {ρ : Type} (fail : ρ) (fu : Nat)  (K0 : EL → ρ)   : Nat → Int → EL → ρ
  | 0, _, _ => fail
  | n + 1, z1, z2 => p113_1 fail fu  K0 (p113_1L fail fu  K0   n)  z1 z2
/-- ref1.Var -/
def p113 {ρ : Type} (fail : ρ) (fu : Nat)  (K0 : EL → ρ) (x0 : EL) (x1 : Int) : ρ :=
  gd (0 = nilE.length) fail (gd ((nilE.length + x0.length) * 1 ≤ 35184372088832) fail (p113_1L fail fu  K0  fu x1 (nilE ++ x0)))
theorem d_p113 (fu : Nat)  {K0 : EL → Prop} (L : EL → Nat) (hN : L = List.length) {x0 : EL} {x1 : Int} (h : p113 False fu K0 x0 x1) : Den Try.prog G0 113 [.c (.sl 1 x0 none), .c (.v (.int .u64 x1))] (fun r bs => (∃ (y0 : EL) (o0 : OV) (o1 : OV), (r = .arr 1 y0 none false (L y0) ∧ bs = [o0, o1]) ∧ K0 y0)) := by
  obtain ⟨O, hO⟩ : ∃ O, O = std 0 T G0 (Den Try.prog G0) := ⟨_, rfl⟩
  have hLO : L = O.len := by rw [hN, hO]; rfl
  subst hLO
  refine den_h hO tiA mixed tabOk (fn := Try.f113) (sh := false) (by kernel_rfl) rfl rfl rfl rfl ?_
  intro Q hQ
  unfold p113 at h
  conv => cbv
  refine and_h h (fun g => (by subst hO; exact g)) (fun h => ?_)
  refine and_h h (fun g => (by subst hO; exact g)) (fun h => ?_)
  refine loop_of hO tiA [1, 5] [7000] [] (fun (n : Nat) tm m => ∃ (z1 : Int) (z2 : EL), ((tm = frame 0 25 [(1, .c (.v (.int .u64 z1))), (5, .t 7000 0 (O.len z2))] ∧ m = ⟨[(7000, .arr 0 1 z2 none false)], 1⟩)) ∧ p113_1L False fu  K0  n z1 z2) (fun n => n) fu ⟨x1, (nilE ++ x0), ⟨(by (conv => lhs; cbv) <;> (subst hO; rfl)), (by (conv => lhs; cbv) <;> (subst hO; rfl))⟩, h⟩ ?_
  rintro n1 tm m L ⟨z1, z2, hs, h⟩ hLn1
  cases n1 with
  | zero => rw [p113_1L] at h; exact h.elim
  | succ n1 =>
    rw [p113_1L] at h
    unfold p113_1 at h
    obtain ⟨rfl, rfl⟩ := hs
    conv => cbv
    refine br_h hO h (by subst hO; rfl) (fun hc1 h => ?_) (fun hc1 h => ?_)
    · conv => cbv
      refine join_all hO ?_
      conv => cbv
      refine alt_l hO ?_
      conv => cbv
      refine and_h h (fun g => (by subst hO; exact g)) (fun h => ?_)
      refine view_h hO h (fun g => (by subst hO; exact g)) (fun h => ?_)
      conv => cbv
      refine ⟨(by subst hO; rfl), ?_⟩
      refine and_h h (fun g => (by subst hO; exact g)) (fun h => ?_)
      refine and_h h (fun g => (by subst hO; exact g)) (fun h => ?_)
      exact hLn1 n1 _ _ (Nat.lt_succ_self n1) ⟨binStd .quo .u64 z1 128, (z2 ++ (List.take 1 [[(CV.v (.int .u8 (binStd .add .u8 (IntKind.u8.wrap (binStd .rem .u64 z1 128)) 128)))]])), ⟨(by (conv => lhs; cbv) <;> (subst hO; rfl)), (by (conv => lhs; cbv) <;> (subst hO; rfl))⟩, h⟩
    · conv => cbv
      refine alt_l hO ?_
      conv => cbv
      refine view_h hO h (fun g => (by subst hO; exact g)) (fun h => ?_)
      conv => cbv
      refine ⟨(by subst hO; rfl), ?_⟩
      refine and_h h (fun g => (by subst hO; exact g)) (fun h => ?_)
      refine ⟨(by subst hO; exact Nat.le_refl _), ?_⟩
      rw [hQ]
      exact ⟨(z2 ++ (List.take 1 [[(CV.v (.int .u8 (IntKind.u8.wrap z1)))]])), _, _, ⟨(by subst hO; rfl), (by subst hO; rfl)⟩, h⟩
end Go.Proofs.Ythncmjlcmlmnmaa

namespace Go.Proofs.Ythncmjlcmlmnmaa
open Go V
set_option maxRecDepth 100000
set_option maxHeartbeats 4000000
/-- ref25.num -/
def p88 {ρ : Type} (fail : ρ) (fu : Nat)  (K0 : EL → ρ) (x0 : EL) (x1 : Int) : ρ :=
  p113 fail fu (fun y1 => K0 y1) x0 (IntKind.u64.wrap x1)
theorem d_p88 (fu : Nat)  {K0 : EL → Prop} (L : EL → Nat) (hN : L = List.length) {x0 : EL} {x1 : Int} (h : p88 False fu K0 x0 x1) : Den Try.prog G0 88 [.c (.sl 1 x0 none), .c (.v (.int .i64 x1))] (fun r bs => (∃ (y0 : EL) (o0 : OV) (o1 : OV), (r = .c (.sl 1 y0 none) ∧ bs = [o0, o1]) ∧ K0 y0)) := by
  obtain ⟨O, hO⟩ : ∃ O, O = std 0 T G0 (Den Try.prog G0) := ⟨_, rfl⟩
  have hLO : L = O.len := by rw [hN, hO]; rfl
  subst hLO
  refine den_h hO tiA mixed tabOk (fn := Try.f88) (sh := true) (by kernel_rfl) rfl rfl rfl rfl ?_
  intro Q hQ
  unfold p88 at h
  conv => cbv
  refine call_h hO [.shut, .shut] (d_p113 fu O.len hN h) ?_
  intro os Q hos hQ
  conv => cbv
  refine ⟨(by (rw [hos]) <;> (subst hO; rfl)), ?_⟩
  intro r bs hq
  rw [hQ] at hq
  clear hos hQ h
  obtain ⟨y1, _, _, ⟨rfl, rfl⟩, h⟩ := hq
  conv => cbv
  refine view_full hO ?_
  conv => cbv
  rw [hQ]
  exact ⟨y1, _, _, ⟨(by subst hO; rfl), (by subst hO; rfl)⟩, h⟩
end Go.Proofs.Ythncmjlcmlmnmaa

namespace Go.Proofs.Ythncmjlcmlmnmaa
open Go V
set_option maxRecDepth 100000
set_option maxHeartbeats 4000000
def p124_1 {ρ : Type} (fail : ρ) (fu : Nat)  (K0 : EL → ρ) (rec1 : Int → EL → Nat → Nat → Int → ρ) (x0 : EL) (z1 : Int) (z2 : EL) (z3 : Nat) (z4 : Nat) (z5 : Int) : ρ :=
  bif (cmpStd .geq z5 0) then (gd ((256 : Int) ≠ 0) fail (gd (z4 ≤ z2.length) fail (gd ((0 : Int) ≤ z5) fail (gd ((z5 : Int) < (z4 : Nat)) fail (gd (((z5 : Int).toNat) + 1 ≤ z2.length) fail (gd (0 + 1 ≤ (List.getD z2 ((z5 : Int).toNat) []).length) fail (gd ((256 : Int) ≠ 0) fail (rec1 (binStd .quo .u64 z1 256) (List.set z2 ((z5 : Int).toNat) (putAt (List.getD z2 ((z5 : Int).toNat) []) 0 [(CV.v (.int .u8 (IntKind.u8.wrap (binStd .rem .u64 z1 256))))])) z3 z4 (binStd .sub .i64 z5 1))))))))) else (gd (0 = nilE.length) fail (gd ((nilE.length + x0.length) * 1 ≤ 35184372088832) fail (gd (z4 ≤ z2.length) fail (gd (((nilE ++ x0).length + (List.take z4 z2).length) * 1 ≤ 35184372088832) fail (K0 ((nilE ++ x0) ++ (List.take z4 z2)))))))
def p124_1L {ρ : Type} (fail : ρ) (fu : Nat)  (K0 : EL → ρ)  (x0 : EL) : Nat → Int → EL → Nat → Nat → Int → ρ
  | 0, _, _, _, _, _ => fail
  | n + 1, z1, z2, z3, z4, z5 => p124_1 fail fu  K0 (p124_1L fail fu  K0  x0 n) x0 z1 z2 z3 z4 z5
/-- ref1.Eight -/
def p124 {ρ : Type} (fail : ρ) (fu : Nat)  (K0 : EL → ρ) (x0 : EL) (x1 : Int) : ρ :=
  gd ((0 : Int) ≤ 8) fail (gd ((8 : Int) ≤ 8) fail (gd ((8 : Int) * (1 : Nat) ≤ 70368744177664) fail (p124_1L fail fu  K0 x0 fu x1 (List.replicate ((8 : Int).toNat) [(CV.v (.int .u8 0))]) ((8 : Int).toNat) ((8 : Int).toNat) 7)))
theorem d_p124 (fu : Nat)  {K0 : EL → Prop} (L : EL → Nat) (hN : L = List.length) {x0 : EL} {x1 : Int} (h : p124 False fu K0 x0 x1) : Den Try.prog G0 124 [.c (.sl 1 x0 none), .c (.v (.int .u64 x1))] (fun r bs => (∃ (y0 : EL) (o0 : OV) (o1 : OV), (r = .c (.sl 1 y0 none) ∧ bs = [o0, o1]) ∧ K0 y0)) := by
  obtain ⟨O, hO⟩ : ∃ O, O = std 0 T G0 (Den Try.prog G0) := ⟨_, rfl⟩
  have hLO : L = O.len := by rw [hN, hO]; rfl
  subst hLO
  refine den_h hO tiA mixed tabOk (fn := Try.f124) (sh := true) (by kernel_rfl) rfl rfl rfl rfl ?_
  intro Q hQ
  unfold p124 at h
  conv => cbv
  refine and_h h (fun g => (by subst hO; exact g)) (fun h => ?_)
  refine and_h h (fun g => (by subst hO; exact g)) (fun h => ?_)
  refine and_h h (fun g => (by subst hO; exact g)) (fun h => ?_)
  refine loop_of hO tiA [0, 1, 5, 6] [8000] [] (fun (n : Nat) tm m => ∃ (z1 : Int) (z2 : EL) (z3 : Nat) (z4 : Nat) (z5 : Int), ((tm = frame 0 25 [(0, .c (.sl 1 x0 none)), (1, .c (.v (.int .u64 z1))), (5, .t 8000 0 z4), (6, .c (.v (.int .i64 z5)))] ∧ m = ⟨[(8000, .arr 0 1 z2 (some z3) false)], 1⟩)) ∧ p124_1L False fu  K0 x0 n z1 z2 z3 z4 z5) (fun n => n) fu ⟨x1, List.replicate ((8 : Int).toNat) [(CV.v (.int .u8 0))], ((8 : Int).toNat), ((8 : Int).toNat), 7, ⟨(by (conv => lhs; cbv) <;> (subst hO; rfl)), (by (conv => lhs; cbv) <;> (subst hO; rfl))⟩, h⟩ ?_
  rintro n1 tm m L ⟨z1, z2, z3, z4, z5, hs, h⟩ hLn1
  cases n1 with
  | zero => rw [p124_1L] at h; exact h.elim
  | succ n1 =>
    rw [p124_1L] at h
    unfold p124_1 at h
    obtain ⟨rfl, rfl⟩ := hs
    conv => cbv
    refine br_h hO h (by subst hO; rfl) (fun hc1 h => ?_) (fun hc1 h => ?_)
    · conv => cbv
      refine join_all hO ?_
      conv => cbv
      refine alt_l hO ?_
      conv => cbv
      refine and_h h (fun g => (by subst hO; exact g)) (fun h => ?_)
      refine and_h h (fun g => (by subst hO; exact g)) (fun h => ?_)
      refine and_h h (fun g => (by subst hO; exact g)) (fun h => ?_)
      refine and_h h (fun g => (by subst hO; exact g)) (fun h => ?_)
      refine and_h h (fun g => (by subst hO; exact g)) (fun h => ?_)
      refine and_h h (fun g => (by subst hO; exact g)) (fun h => ?_)
      refine and_h h (fun g => (by subst hO; exact g)) (fun h => ?_)
      exact hLn1 n1 _ _ (Nat.lt_succ_self n1) ⟨binStd .quo .u64 z1 256, List.set z2 ((z5 : Int).toNat) (putAt (List.getD z2 ((z5 : Int).toNat) []) 0 [(CV.v (.int .u8 (IntKind.u8.wrap (binStd .rem .u64 z1 256))))]), z3, z4, binStd .sub .i64 z5 1, ⟨(by (conv => lhs; cbv) <;> (subst hO; rfl)), (by (conv => lhs; cbv) <;> (subst hO; rfl))⟩, h⟩
    · conv => cbv
      refine and_h h (fun g => (by subst hO; exact g)) (fun h => ?_)
      refine and_h h (fun g => (by subst hO; exact g)) (fun h => ?_)
      refine alt_l hO ?_
      conv => cbv
      refine view_h hO h (fun g => (by subst hO; exact g)) (fun h => ?_)
      conv => cbv
      refine ⟨(by subst hO; rfl), ?_⟩
      refine and_h h (fun g => (by subst hO; exact g)) (fun h => ?_)
      refine view_full hO ?_
      conv => cbv
      rw [hQ]
      exact ⟨((nilE ++ x0) ++ (List.take z4 z2)), _, _, ⟨(by subst hO; rfl), (by subst hO; rfl)⟩, h⟩
end Go.Proofs.Ythncmjlcmlmnmaa

namespace Go.Proofs.Ythncmjlcmlmnmaa
open Go V
set_option maxRecDepth 100000
set_option maxHeartbeats 4000000
/-- ref25.handle -/
def p89 {ρ : Type} (fail : ρ) (fu : Nat)  (K0 : EL → ρ) (x0 : EL) (x1 : Int) (x2 : Int) : ρ :=
  p124 fail fu (fun y1 => p124 fail fu (fun y2 => K0 y2) y1 x2) x0 x1
theorem d_p89 (fu : Nat)  {K0 : EL → Prop} (L : EL → Nat) (hN : L = List.length) {x0 : EL} {x1 : Int} {x2 : Int} (h : p89 False fu K0 x0 x1 x2) : Den Try.prog G0 89 [.c (.sl 1 x0 none), .agg [.c (.v (.int .u64 x1)), .c (.v (.int .u64 x2))]] (fun r bs => (∃ (y0 : EL) (o0 : OV) (o1 : OV), (r = .c (.sl 1 y0 none) ∧ bs = [o0, o1]) ∧ K0 y0)) := by
  obtain ⟨O, hO⟩ : ∃ O, O = std 0 T G0 (Den Try.prog G0) := ⟨_, rfl⟩
  have hLO : L = O.len := by rw [hN, hO]; rfl
  subst hLO
  refine den_h hO tiA mixed tabOk (fn := Try.f89) (sh := true) (by kernel_rfl) rfl rfl rfl rfl ?_
  intro Q hQ
  unfold p89 at h
  conv => cbv
  refine drawn_of hO tiA [[], [], []] [(0, true, false), (1, true, false), (2, true, false), (4, true, false), (5, true, false), (3, false, false), (6, false, true), (7, true, true)] (by kernel_rfl) ?_
  conv => cbv
  refine call_h hO [.shut, .shut] (d_p124 fu O.len hN h) ?_
  intro os Q hos hQ
  conv => cbv
  refine ⟨(by (rw [hos]) <;> (subst hO; rfl)), ?_⟩
  intro r bs hq
  rw [hQ] at hq
  clear hos hQ h
  obtain ⟨y1, _, _, ⟨rfl, rfl⟩, h⟩ := hq
  conv => cbv
  refine ⟨agree_of hO (Nat.le_of_ble_eq_true rfl) rfl, ?_⟩
  refine call_h hO [.shut, .shut] (d_p124 fu O.len hN h) ?_
  intro os Q hos hQ
  conv => cbv
  refine ⟨(by (rw [hos]) <;> (subst hO; rfl)), ?_⟩
  intro r bs hq
  rw [hQ] at hq
  clear hos hQ h
  obtain ⟨y2, _, _, ⟨rfl, rfl⟩, h⟩ := hq
  conv => cbv
  refine join_all hO ?_
  conv => cbv
  rw [hQ]
  exact ⟨y2, _, _, ⟨(by subst hO; rfl), (by subst hO; rfl)⟩, h⟩
end Go.Proofs.Ythncmjlcmlmnmaa

namespace Go.Proofs.Ythncmjlcmlmnmaa
open Go V
set_option maxRecDepth 100000
set_option maxHeartbeats 4000000
/-- ref6.num -/
def p72 {ρ : Type} (fail : ρ) (fu : Nat)  (K0 : EL → ρ) (x0 : EL) (x1 : Int) : ρ :=
  p113 fail fu (fun y1 => K0 y1) x0 (IntKind.u64.wrap x1)
theorem d_p72 (fu : Nat)  {K0 : EL → Prop} (L : EL → Nat) (hN : L = List.length) {x0 : EL} {x1 : Int} (h : p72 False fu K0 x0 x1) : Den Try.prog G0 72 [.c (.sl 1 x0 none), .c (.v (.int .i64 x1))] (fun r bs => (∃ (y0 : EL) (o0 : OV) (o1 : OV), (r = .c (.sl 1 y0 none) ∧ bs = [o0, o1]) ∧ K0 y0)) := by
  obtain ⟨O, hO⟩ : ∃ O, O = std 0 T G0 (Den Try.prog G0) := ⟨_, rfl⟩
  have hLO : L = O.len := by rw [hN, hO]; rfl
  subst hLO
  refine den_h hO tiA mixed tabOk (fn := Try.f72) (sh := true) (by kernel_rfl) rfl rfl rfl rfl ?_
  intro Q hQ
  unfold p72 at h
  conv => cbv
  refine call_h hO [.shut, .shut] (d_p113 fu O.len hN h) ?_
  intro os Q hos hQ
  conv => cbv
  refine ⟨(by (rw [hos]) <;> (subst hO; rfl)), ?_⟩
  intro r bs hq
  rw [hQ] at hq
  clear hos hQ h
  obtain ⟨y1, _, _, ⟨rfl, rfl⟩, h⟩ := hq
  conv => cbv
  refine view_full hO ?_
  conv => cbv
  rw [hQ]
  exact ⟨y1, _, _, ⟨(by subst hO; rfl), (by subst hO; rfl)⟩, h⟩
end Go.Proofs.Ythncmjlcmlmnmaa

namespace Go.Proofs.Ythncmjlcmlmnmaa
open Go V
set_option maxRecDepth 100000
set_option maxHeartbeats 4000000
def p28_1 {ρ : Type} (fail : ρ) (fu : Nat) (s_p28 : (EL → ρ) → EL → Int → Int → EL → ρ) (K0 : EL → ρ) (rec1 : EL → Int → ρ) (x3 : EL) (z3 : EL) (z4 : Int) : ρ :=
  bif (cmpStd .lss z4 ((x3.length : Nat) : Int)) then (gd ((0 : Int) ≤ z4) fail (gd ((z4 : Int) < (x3.length : Nat)) fail (rw_i64_i64_l3 fail (List.getD x3 ((z4 : Int).toNat) []) (fun c5 c6 c7 => s_p28 (fun y8 => rec1 y8 (binStd .add .i64 z4 1)) z3 c5 c6 c7)))) else (K0 z3)
def p28_1L {ρ : Type} (fail : ρ) (fu : Nat) (s_p28 : (EL → ρ) → EL → Int → Int → EL → ρ) (K0 : EL → ρ)  (x3 : EL) : Nat → EL → Int → ρ
  | 0, _, _ => fail
  | n + 1, z3, z4 => p28_1 fail fu s_p28 K0 (p28_1L fail fu s_p28 K0  x3 n) x3 z3 z4
def p28_2 {ρ : Type} (fail : ρ) (fu : Nat) (s_p28 : (EL → ρ) → EL → Int → Int → EL → ρ) (K0 : EL → ρ)  (x3 : EL) (j2 : EL) : ρ :=
  p28_1L fail fu s_p28 K0 x3 fu j2 0
/-- ref6.Level -/
def p28_b {ρ : Type} (fail : ρ) (fu : Nat) (s_p28 : (EL → ρ) → EL → Int → Int → EL → ρ) (K0 : EL → ρ) (x0 : EL) (x1 : Int) (x2 : Int) (x3 : EL) : ρ :=
  p72 fail fu (fun y1 => bif (cmpStd .eql x1 4) then (p72 fail fu (fun y9 => p28_2 fail fu s_p28 K0 x3 y9) y1 x2) else (p28_2 fail fu s_p28 K0 x3 y1)) x0 x1
def p28 {ρ : Type} (fail : ρ) : Nat → (EL → ρ) → EL → Int → Int → EL → ρ
  | 0, _, _, _, _, _ => fail
  | n + 1, K0, x0, x1, x2, x3 => p28_b fail n (p28 fail n) K0 x0 x1 x2 x3
def D_p28 (fu : Nat) : Prop := ∀ {K0 : EL → Prop} (L : EL → Nat) (_ : L = List.length) {x0 : EL} {x1 : Int} {x2 : Int} {x3 : EL} (_ : p28 False fu K0 x0 x1 x2 x3), Den Try.prog G0 28 [.c (.sl 1 x0 none), .agg [.c (.v (.int .i64 x1)), .c (.v (.int .i64 x2)), .c (.sl 3 x3 none)]] (fun r bs => (∃ (y0 : EL) (o0 : OV) (o1 : OV), (r = .c (.sl 1 y0 none) ∧ bs = [o0, o1]) ∧ K0 y0))
theorem b_p28 (fu : Nat) (ih_p28 : D_p28 fu) {K0 : EL → Prop} (L : EL → Nat) (hN : L = List.length) {x0 : EL} {x1 : Int} {x2 : Int} {x3 : EL} (h : p28_b False fu (p28 False fu) K0 x0 x1 x2 x3) : Den Try.prog G0 28 [.c (.sl 1 x0 none), .agg [.c (.v (.int .i64 x1)), .c (.v (.int .i64 x2)), .c (.sl 3 x3 none)]] (fun r bs => (∃ (y0 : EL) (o0 : OV) (o1 : OV), (r = .c (.sl 1 y0 none) ∧ bs = [o0, o1]) ∧ K0 y0)) := by
  obtain ⟨O, hO⟩ : ∃ O, O = std 0 T G0 (Den Try.prog G0) := ⟨_, rfl⟩
  have hLO : L = O.len := by rw [hN, hO]; rfl
  subst hLO
  refine den_h hO tiA mixed tabOk (fn := Try.f28) (sh := true) (by kernel_rfl) rfl rfl rfl rfl ?_
  intro Q hQ
  unfold p28_b at h
  conv => cbv
  refine call_h hO [.shut, .shut] (d_p72 fu O.len hN h) ?_
  intro os Q hos hQ
  conv => cbv
  refine ⟨(by (rw [hos]) <;> (subst hO; rfl)), ?_⟩
  intro r bs hq
  rw [hQ] at hq
  clear hos hQ h
  obtain ⟨y1, _, _, ⟨rfl, rfl⟩, h⟩ := hq
  conv => cbv
  refine br_join_h hO tiA h (by subst hO; rfl) [0, 3] [4000] [] (fun tm m => ∃ (j2 : EL), ((tm = frame 0 32 [(0, .c (.sl 1 j2 none)), (3, .p 4000 0 0)] ∧ m = ⟨[(4000, .blk 0 [.c (.v (.int .i64 x1)), .c (.v (.int .i64 x2)), .c (.sl 3 x3 none)])], 1⟩)) ∧ p28_2 False fu (p28 False fu) K0 x3 j2) (fun hc2 h L hL_2 => ?_) (fun hc2 h L hL_2 => ?_) ?_
  · conv => cbv
    refine call_h hO [.shut, .shut] (d_p72 fu O.len hN h) ?_
    intro os Q hos hQ
    conv => cbv
    refine ⟨(by (rw [hos]) <;> (subst hO; rfl)), ?_⟩
    intro r bs hq
    rw [hQ] at hq
    clear hos hQ h
    obtain ⟨y9, _, _, ⟨rfl, rfl⟩, h⟩ := hq
    conv => cbv
    exact hL_2 _ _ ⟨y9, ⟨(by (conv => lhs; cbv) <;> (subst hO; rfl)), (by (conv => lhs; cbv) <;> (subst hO; rfl))⟩, h⟩
  · conv => cbv
    exact hL_2 _ _ ⟨y1, ⟨(by (conv => lhs; cbv) <;> (subst hO; rfl)), (by (conv => lhs; cbv) <;> (subst hO; rfl))⟩, h⟩
  · rintro tm m ⟨j2, hs, h⟩
    unfold p28_2 at h
    obtain ⟨rfl, rfl⟩ := hs
    conv => cbv
    refine loop_of hO tiA [0, 3, 5] [4000] [] (fun (n : Nat) tm m => ∃ (z3 : EL) (z4 : Int), ((tm = frame 0 32 [(0, .c (.sl 1 z3 none)), (3, .p 4000 0 0), (5, .c (.v (.int .i64 z4)))] ∧ m = ⟨[(4000, .blk 0 [.c (.v (.int .i64 x1)), .c (.v (.int .i64 x2)), .c (.sl 3 x3 none)])], 1⟩)) ∧ p28_1L False fu (p28 False fu) K0 x3 n z3 z4) (fun n => n) fu ⟨j2, 0, ⟨(by (conv => lhs; cbv) <;> (subst hO; rfl)), (by (conv => lhs; cbv) <;> (subst hO; rfl))⟩, h⟩ ?_
    rintro n1 tm m L ⟨z3, z4, hs, h⟩ hLn1
    cases n1 with
    | zero => rw [p28_1L] at h; exact h.elim
    | succ n1 =>
      rw [p28_1L] at h
      unfold p28_1 at h
      obtain ⟨rfl, rfl⟩ := hs
      conv => cbv
      refine br_h hO h (by subst hO; rfl) (fun hc1 h => ?_) (fun hc1 h => ?_)
      · conv => cbv
        refine join_all hO ?_
        conv => cbv
        refine and_h h (fun g => (by subst hO; exact g)) (fun h => ?_)
        refine and_h h (fun g => (by subst hO; exact g)) (fun h => ?_)
        obtain ⟨c5, c6, c7, hr, h⟩ := rw_i64_i64_l3_inv h
        refine elem_of hO _ (by subst hO; exact hr) ?_
        clear hr
        conv => cbv
        refine call_h hO [.shut, .shut] (ih_p28 O.len hN h) ?_
        intro os Q hos hQ
        conv => cbv
        refine ⟨(by (rw [hos]) <;> (subst hO; rfl)), ?_⟩
        intro r bs hq
        rw [hQ] at hq
        clear hos hQ h
        obtain ⟨y8, _, _, ⟨rfl, rfl⟩, h⟩ := hq
        conv => cbv
        exact hLn1 n1 _ _ (Nat.lt_succ_self n1) ⟨y8, binStd .add .i64 z4 1, ⟨(by (conv => lhs; cbv) <;> (subst hO; rfl)), (by (conv => lhs; cbv) <;> (subst hO; rfl))⟩, h⟩
      · conv => cbv
        rw [hQ]
        exact ⟨z3, _, _, ⟨(by subst hO; rfl), (by subst hO; rfl)⟩, h⟩
theorem dd_p28 (fu : Nat) : D_p28 fu := by
  induction fu with
  | zero => unfold D_p28; intros; rename_i h; rw [p28] at h; exact h.elim
  | succ n ih =>
    exact (by unfold D_p28; intro K0 L hN x0 x1 x2 x3 h; exact b_p28 n ih L hN (by rw [p28] at h; exact h))
theorem d_p28 (fu : Nat) {K0 : EL → Prop} (L : EL → Nat) (hL : L = List.length) {x0 : EL} {x1 : Int} {x2 : Int} {x3 : EL} (h : p28 False fu K0 x0 x1 x2 x3) : Den Try.prog G0 28 [.c (.sl 1 x0 none), .agg [.c (.v (.int .i64 x1)), .c (.v (.int .i64 x2)), .c (.sl 3 x3 none)]] (fun r bs => (∃ (y0 : EL) (o0 : OV) (o1 : OV), (r = .c (.sl 1 y0 none) ∧ bs = [o0, o1]) ∧ K0 y0)) := dd_p28 fu L hL h
end Go.Proofs.Ythncmjlcmlmnmaa

namespace Go.Proofs.Ythncmjlcmlmnmaa
open Go V
set_option maxRecDepth 100000
set_option maxHeartbeats 4000000
/-- ref1.Text -/
def p90 {ρ : Type} (fail : ρ) (fu : Nat)  (K0 : EL → ρ) (x0 : EL) (x1 : EL) : ρ :=
  p113 fail fu (fun y1 => gd ((y1.length + x1.length) * 1 ≤ 35184372088832) fail (K0 (y1 ++ x1))) x0 (IntKind.u64.wrap ((x1.length : Nat) : Int))
theorem d_p90 (fu : Nat)  {K0 : EL → Prop} (L : EL → Nat) (hN : L = List.length) {x0 : EL} {x1 : EL} (h : p90 False fu K0 x0 x1) : Den Try.prog G0 90 [.c (.sl 1 x0 none), .c (.sl 1 x1 none)] (fun r bs => (∃ (y0 : EL) (o0 : OV) (o1 : OV), (r = .c (.sl 1 y0 none) ∧ bs = [o0, o1]) ∧ K0 y0)) := by
  obtain ⟨O, hO⟩ : ∃ O, O = std 0 T G0 (Den Try.prog G0) := ⟨_, rfl⟩
  have hLO : L = O.len := by rw [hN, hO]; rfl
  subst hLO
  refine den_h hO tiA mixed tabOk (fn := Try.f90) (sh := true) (by kernel_rfl) rfl rfl rfl rfl ?_
  intro Q hQ
  unfold p90 at h
  conv => cbv
  refine call_h hO [.shut, .shut] (d_p113 fu O.len hN h) ?_
  intro os Q hos hQ
  conv => cbv
  refine ⟨(by (rw [hos]) <;> (subst hO; rfl)), ?_⟩
  intro r bs hq
  rw [hQ] at hq
  clear hos hQ h
  obtain ⟨y1, _, _, ⟨rfl, rfl⟩, h⟩ := hq
  conv => cbv
  refine ⟨(by subst hO; rfl), ?_⟩
  refine and_h h (fun g => (by subst hO; exact g)) (fun h => ?_)
  refine view_full hO ?_
  conv => cbv
  rw [hQ]
  exact ⟨(y1 ++ x1), _, _, ⟨(by subst hO; rfl), (by subst hO; rfl)⟩, h⟩
end Go.Proofs.Ythncmjlcmlmnmaa

namespace Go.Proofs.Ythncmjlcmlmnmaa
open Go V
set_option maxRecDepth 100000
set_option maxHeartbeats 4000000
/-- ref6.text -/
def p73 {ρ : Type} (fail : ρ) (fu : Nat)  (K0 : EL → ρ) (x0 : EL) (x1 : ByteArray) : ρ :=
  gd (x1.size ≤ (encB x1.data.toList).length) fail (p90 fail fu (fun y1 => K0 y1) x0 (List.take x1.size (encB x1.data.toList)))
theorem d_p73 (fu : Nat)  {K0 : EL → Prop} (L : EL → Nat) (hN : L = List.length) {x0 : EL} {x1 : ByteArray} (h : p73 False fu K0 x0 x1) : Den Try.prog G0 73 [.c (.sl 1 x0 none), .c (.v (.string x1))] (fun r bs => (∃ (y0 : EL) (o0 : OV) (o1 : OV), (r = .c (.sl 1 y0 none) ∧ bs = [o0, o1]) ∧ K0 y0)) := by
  obtain ⟨O, hO⟩ : ∃ O, O = std 0 T G0 (Den Try.prog G0) := ⟨_, rfl⟩
  have hLO : L = O.len := by rw [hN, hO]; rfl
  subst hLO
  refine den_h hO tiA mixed tabOk (fn := Try.f73) (sh := true) (by kernel_rfl) rfl rfl rfl rfl ?_
  intro Q hQ
  unfold p73 at h
  conv => cbv
  obtain ⟨hc1, h⟩ := gd_inv h
  refine call_h hO [.shut, .shut] (d_p90 fu O.len hN h) ?_
  intro os Q hos hQ
  conv => cbv
  refine view_of hO (by subst hO; exact hc1) ?_
  conv => cbv
  refine ⟨(by (rw [hos]) <;> (subst hO; rfl)), ?_⟩
  intro r bs hq
  rw [hQ] at hq
  clear hos hQ h
  obtain ⟨y1, _, _, ⟨rfl, rfl⟩, h⟩ := hq
  conv => cbv
  rw [hQ]
  exact ⟨y1, _, _, ⟨(by subst hO; rfl), (by subst hO; rfl)⟩, h⟩
end Go.Proofs.Ythncmjlcmlmnmaa

namespace Go.Proofs.Ythncmjlcmlmnmaa
open Go V
set_option maxRecDepth 100000
set_option maxHeartbeats 4000000
def p29_1 {ρ : Type} (fail : ρ) (fu : Nat) (s_p29 : (EL → ρ) → EL → Int → Int → ByteArray → EL → EL → ρ) (K0 : EL → ρ) (rec1 : EL → Int → ρ) (x5 : EL) (z3 : EL) (z4 : Int) : ρ :=
  bif (cmpStd .lss z4 ((x5.length : Nat) : Int)) then (gd ((0 : Int) ≤ z4) fail (gd ((z4 : Int) < (x5.length : Nat)) fail (rw_i64_i64_s_l3_l5 fail (List.getD x5 ((z4 : Int).toNat) []) (fun c5 c6 c7 c8 c9 => s_p29 (fun y10 => rec1 y10 (binStd .add .i64 z4 1)) z3 c5 c6 c7 c8 c9)))) else (K0 z3)
def p29_1L {ρ : Type} (fail : ρ) (fu : Nat) (s_p29 : (EL → ρ) → EL → Int → Int → ByteArray → EL → EL → ρ) (K0 : EL → ρ)  (x5 : EL) : Nat → EL → Int → ρ
  | 0, _, _ => fail
  | n + 1, z3, z4 => p29_1 fail fu s_p29 K0 (p29_1L fail fu s_p29 K0  x5 n) x5 z3 z4
def p29_2 {ρ : Type} (fail : ρ) (fu : Nat) (s_p29 : (EL → ρ) → EL → Int → Int → ByteArray → EL → EL → ρ) (K0 : EL → ρ)  (x5 : EL) (j2 : EL) : ρ :=
  p29_1L fail fu s_p29 K0 x5 fu j2 0
def p29_3 {ρ : Type} (fail : ρ) (fu : Nat) (s_p29 : (EL → ρ) → EL → Int → Int → ByteArray → EL → EL → ρ) (K0 : EL → ρ)  (x5 : EL) (j12 : EL) : ρ :=
  p29_2 fail fu s_p29 K0 x5 j12
def p29_4 {ρ : Type} (fail : ρ) (fu : Nat) (s_p29 : (EL → ρ) → EL → Int → Int → ByteArray → EL → EL → ρ) (K0 : EL → ρ)  (x5 : EL) (j17 : EL) : ρ :=
  p29_3 fail fu s_p29 K0 x5 j17
def p29_5 {ρ : Type} (fail : ρ) (fu : Nat) (s_p29 : (EL → ρ) → EL → Int → Int → ByteArray → EL → EL → ρ) (K0 : EL → ρ) (rec2 : EL → Int → ρ) (x4 : EL) (x5 : EL) (z20 : EL) (z21 : Int) : ρ :=
  bif (cmpStd .lss z21 ((x4.length : Nat) : Int)) then (gd ((0 : Int) ≤ z21) fail (gd ((z21 : Int) < (x4.length : Nat)) fail (rw_i64_i64_l3 fail (List.getD x4 ((z21 : Int).toNat) []) (fun c22 c23 c24 => p28 fail fu (fun y25 => rec2 y25 (binStd .add .i64 z21 1)) z20 c22 c23 c24)))) else (p29_4 fail fu s_p29 K0 x5 z20)
def p29_5L {ρ : Type} (fail : ρ) (fu : Nat) (s_p29 : (EL → ρ) → EL → Int → Int → ByteArray → EL → EL → ρ) (K0 : EL → ρ)  (x4 : EL) (x5 : EL) : Nat → EL → Int → ρ
  | 0, _, _ => fail
  | n + 1, z20, z21 => p29_5 fail fu s_p29 K0 (p29_5L fail fu s_p29 K0  x4 x5 n) x4 x5 z20 z21
/-- ref6.Term -/
def p29_b {ρ : Type} (fail : ρ) (fu : Nat) (s_p29 : (EL → ρ) → EL → Int → Int → ByteArray → EL → EL → ρ) (K0 : EL → ρ) (x0 : EL) (x1 : Int) (x2 : Int) (x3 : ByteArray) (x4 : EL) (x5 : EL) : ρ :=
  p72 fail fu (fun y1 => bif (cmpStd .eql x1 0) then (p72 fail fu (fun y11 => p29_2 fail fu s_p29 K0 x5 y11) y1 x2) else (bif (cmpStd .eql x1 1) then (gd ((0 : Int) ≤ 0) fail (gd ((0 : Int) < (x4.length : Nat)) fail (rw_i64_i64_l3 fail (List.getD x4 ((0 : Int).toNat) []) (fun c13 c14 c15 => p28 fail fu (fun y16 => p29_3 fail fu s_p29 K0 x5 y16) y1 c13 c14 c15)))) else (bif (cmpStd .eql x1 2) then (p73 fail fu (fun y18 => p72 fail fu (fun y19 => p29_5L fail fu s_p29 K0 x4 x5 fu y19 0) y18 ((x4.length : Nat) : Int)) y1 x3) else (p29_4 fail fu s_p29 K0 x5 y1)))) x0 x1
def p29 {ρ : Type} (fail : ρ) : Nat → (EL → ρ) → EL → Int → Int → ByteArray → EL → EL → ρ
  | 0, _, _, _, _, _, _, _ => fail
  | n + 1, K0, x0, x1, x2, x3, x4, x5 => p29_b fail n (p29 fail n) K0 x0 x1 x2 x3 x4 x5
def D_p29 (fu : Nat) : Prop := ∀ {K0 : EL → Prop} (L : EL → Nat) (_ : L = List.length) {x0 : EL} {x1 : Int} {x2 : Int} {x3 : ByteArray} {x4 : EL} {x5 : EL} (_ : p29 False fu K0 x0 x1 x2 x3 x4 x5), Den Try.prog G0 29 [.c (.sl 1 x0 none), .agg [.c (.v (.int .i64 x1)), .c (.v (.int .i64 x2)), .c (.v (.string x3)), .c (.sl 3 x4 none), .c (.sl 5 x5 none)]] (fun r bs => (∃ (y0 : EL) (o0 : OV) (o1 : OV), (r = .c (.sl 1 y0 none) ∧ bs = [o0, o1]) ∧ K0 y0))
theorem b_p29 (fu : Nat) (ih_p29 : D_p29 fu) {K0 : EL → Prop} (L : EL → Nat) (hN : L = List.length) {x0 : EL} {x1 : Int} {x2 : Int} {x3 : ByteArray} {x4 : EL} {x5 : EL} (h : p29_b False fu (p29 False fu) K0 x0 x1 x2 x3 x4 x5) : Den Try.prog G0 29 [.c (.sl 1 x0 none), .agg [.c (.v (.int .i64 x1)), .c (.v (.int .i64 x2)), .c (.v (.string x3)), .c (.sl 3 x4 none), .c (.sl 5 x5 none)]] (fun r bs => (∃ (y0 : EL) (o0 : OV) (o1 : OV), (r = .c (.sl 1 y0 none) ∧ bs = [o0, o1]) ∧ K0 y0)) := by
  obtain ⟨O, hO⟩ : ∃ O, O = std 0 T G0 (Den Try.prog G0) := ⟨_, rfl⟩
  have hLO : L = O.len := by rw [hN, hO]; rfl
  subst hLO
  refine den_h hO tiA mixed tabOk (fn := Try.f29) (sh := true) (by kernel_rfl) rfl rfl rfl rfl ?_
  intro Q hQ
  unfold p29_b at h
  conv => cbv
  refine call_h hO [.shut, .shut] (d_p72 fu O.len hN h) ?_
  intro os Q hos hQ
  conv => cbv
  refine ⟨(by (rw [hos]) <;> (subst hO; rfl)), ?_⟩
  intro r bs hq
  rw [hQ] at hq
  clear hos hQ h
  obtain ⟨y1, _, _, ⟨rfl, rfl⟩, h⟩ := hq
  conv => cbv
  refine br_join_h hO tiA h (by subst hO; rfl) [0, 3] [4000] [] (fun tm m => ∃ (j2 : EL), ((tm = frame 0 66 [(0, .c (.sl 1 j2 none)), (3, .p 4000 0 0)] ∧ m = ⟨[(4000, .blk 0 [.c (.v (.int .i64 x1)), .c (.v (.int .i64 x2)), .c (.v (.string x3)), .c (.sl 3 x4 none), .c (.sl 5 x5 none)])], 1⟩)) ∧ p29_2 False fu (p29 False fu) K0 x5 j2) (fun hc2 h L hL_2 => ?_) (fun hc2 h L hL_2 => ?_) ?_
  · conv => cbv
    refine call_h hO [.shut, .shut] (d_p72 fu O.len hN h) ?_
    intro os Q hos hQ
    conv => cbv
    refine ⟨(by (rw [hos]) <;> (subst hO; rfl)), ?_⟩
    intro r bs hq
    rw [hQ] at hq
    clear hos hQ h
    obtain ⟨y11, _, _, ⟨rfl, rfl⟩, h⟩ := hq
    conv => cbv
    exact hL_2 _ _ ⟨y11, ⟨(by (conv => lhs; cbv) <;> (subst hO; rfl)), (by (conv => lhs; cbv) <;> (subst hO; rfl))⟩, h⟩
  · conv => cbv
    refine br_join_h hO tiA h (by subst hO; rfl) [0, 3] [4000] [] (fun tm m => ∃ (j12 : EL), ((tm = frame 0 66 [(0, .c (.sl 1 j12 none)), (3, .p 4000 0 0)] ∧ m = ⟨[(4000, .blk 0 [.c (.v (.int .i64 x1)), .c (.v (.int .i64 x2)), .c (.v (.string x3)), .c (.sl 3 x4 none), .c (.sl 5 x5 none)])], 1⟩)) ∧ p29_3 False fu (p29 False fu) K0 x5 j12) (fun hc3 h L hL_3 => ?_) (fun hc3 h L hL_3 => ?_) ?_
    · conv => cbv
      refine and_h h (fun g => (by subst hO; exact g)) (fun h => ?_)
      refine and_h h (fun g => (by subst hO; exact g)) (fun h => ?_)
      obtain ⟨c13, c14, c15, hr, h⟩ := rw_i64_i64_l3_inv h
      refine elem_of hO _ (by subst hO; exact hr) ?_
      clear hr
      conv => cbv
      refine call_h hO [.shut, .shut] (d_p28 fu O.len hN h) ?_
      intro os Q hos hQ
      conv => cbv
      refine ⟨(by (rw [hos]) <;> (subst hO; rfl)), ?_⟩
      intro r bs hq
      rw [hQ] at hq
      clear hos hQ h
      obtain ⟨y16, _, _, ⟨rfl, rfl⟩, h⟩ := hq
      conv => cbv
      exact hL_3 _ _ ⟨y16, ⟨(by (conv => lhs; cbv) <;> (subst hO; rfl)), (by (conv => lhs; cbv) <;> (subst hO; rfl))⟩, h⟩
    · conv => cbv
      refine br_join_h hO tiA h (by subst hO; rfl) [0, 3] [4000] [] (fun tm m => ∃ (j17 : EL), ((tm = frame 0 66 [(0, .c (.sl 1 j17 none)), (3, .p 4000 0 0)] ∧ m = ⟨[(4000, .blk 0 [.c (.v (.int .i64 x1)), .c (.v (.int .i64 x2)), .c (.v (.string x3)), .c (.sl 3 x4 none), .c (.sl 5 x5 none)])], 1⟩)) ∧ p29_4 False fu (p29 False fu) K0 x5 j17) (fun hc4 h L hL_4 => ?_) (fun hc4 h L hL_4 => ?_) ?_
      · conv => cbv
        refine drawn_of hO tiA [[], [], []] [(0, true, false), (1, true, false), (2, true, false), (4, true, false), (5, true, false), (6, true, false), (3, false, false), (7, false, true), (8, true, true)] (by kernel_rfl) ?_
        conv => cbv
        refine call_h hO [.shut, .shut] (d_p73 fu O.len hN h) ?_
        intro os Q hos hQ
        conv => cbv
        refine ⟨(by (rw [hos]) <;> (subst hO; rfl)), ?_⟩
        intro r bs hq
        rw [hQ] at hq
        clear hos hQ h
        obtain ⟨y18, _, _, ⟨rfl, rfl⟩, h⟩ := hq
        conv => cbv
        refine ⟨agree_of hO (Nat.le_of_ble_eq_true rfl) rfl, ?_⟩
        refine call_h hO [.shut, .shut] (d_p72 fu O.len hN h) ?_
        intro os Q hos hQ
        conv => cbv
        refine ⟨(by (rw [hos]) <;> (subst hO; rfl)), ?_⟩
        intro r bs hq
        rw [hQ] at hq
        clear hos hQ h
        obtain ⟨y19, _, _, ⟨rfl, rfl⟩, h⟩ := hq
        conv => cbv
        refine join_all hO ?_
        conv => cbv
        refine loop_of hO tiA [0, 3, 5] [4000] [] (fun (n : Nat) tm m => ∃ (z20 : EL) (z21 : Int), ((tm = frame 0 66 [(0, .c (.sl 1 z20 none)), (3, .p 4000 0 0), (5, .c (.v (.int .i64 z21)))] ∧ m = ⟨[(4000, .blk 0 [.c (.v (.int .i64 x1)), .c (.v (.int .i64 x2)), .c (.v (.string x3)), .c (.sl 3 x4 none), .c (.sl 5 x5 none)])], 1⟩)) ∧ p29_5L False fu (p29 False fu) K0 x4 x5 n z20 z21) (fun n => n) fu ⟨y19, 0, ⟨(by (conv => lhs; cbv) <;> (subst hO; rfl)), (by (conv => lhs; cbv) <;> (subst hO; rfl))⟩, h⟩ ?_
        rintro n2 tm m L ⟨z20, z21, hs, h⟩ hLn2
        cases n2 with
        | zero => rw [p29_5L] at h; exact h.elim
        | succ n2 =>
          rw [p29_5L] at h
          unfold p29_5 at h
          obtain ⟨rfl, rfl⟩ := hs
          conv => cbv
          refine br_h hO h (by subst hO; rfl) (fun hc5 h => ?_) (fun hc5 h => ?_)
          · conv => cbv
            refine join_all hO ?_
            conv => cbv
            refine and_h h (fun g => (by subst hO; exact g)) (fun h => ?_)
            refine and_h h (fun g => (by subst hO; exact g)) (fun h => ?_)
            obtain ⟨c22, c23, c24, hr, h⟩ := rw_i64_i64_l3_inv h
            refine elem_of hO _ (by subst hO; exact hr) ?_
            clear hr
            conv => cbv
            refine call_h hO [.shut, .shut] (d_p28 fu O.len hN h) ?_
            intro os Q hos hQ
            conv => cbv
            refine ⟨(by (rw [hos]) <;> (subst hO; rfl)), ?_⟩
            intro r bs hq
            rw [hQ] at hq
            clear hos hQ h
            obtain ⟨y25, _, _, ⟨rfl, rfl⟩, h⟩ := hq
            conv => cbv
            exact hLn2 n2 _ _ (Nat.lt_succ_self n2) ⟨y25, binStd .add .i64 z21 1, ⟨(by (conv => lhs; cbv) <;> (subst hO; rfl)), (by (conv => lhs; cbv) <;> (subst hO; rfl))⟩, h⟩
          · conv => cbv
            exact hL_4 _ _ ⟨z20, ⟨(by (conv => lhs; cbv) <;> (subst hO; rfl)), (by (conv => lhs; cbv) <;> (subst hO; rfl))⟩, h⟩
      · conv => cbv
        exact hL_4 _ _ ⟨y1, ⟨(by (conv => lhs; cbv) <;> (subst hO; rfl)), (by (conv => lhs; cbv) <;> (subst hO; rfl))⟩, h⟩
      · rintro tm m ⟨j17, hs, h⟩
        unfold p29_4 at h
        obtain ⟨rfl, rfl⟩ := hs
        conv => cbv
        exact hL_3 _ _ ⟨j17, ⟨(by (conv => lhs; cbv) <;> (subst hO; rfl)), (by (conv => lhs; cbv) <;> (subst hO; rfl))⟩, h⟩
    · rintro tm m ⟨j12, hs, h⟩
      unfold p29_3 at h
      obtain ⟨rfl, rfl⟩ := hs
      conv => cbv
      exact hL_2 _ _ ⟨j12, ⟨(by (conv => lhs; cbv) <;> (subst hO; rfl)), (by (conv => lhs; cbv) <;> (subst hO; rfl))⟩, h⟩
  · rintro tm m ⟨j2, hs, h⟩
    unfold p29_2 at h
    obtain ⟨rfl, rfl⟩ := hs
    conv => cbv
    refine loop_of hO tiA [0, 3, 6] [4000] [] (fun (n : Nat) tm m => ∃ (z3 : EL) (z4 : Int), ((tm = frame 0 66 [(0, .c (.sl 1 z3 none)), (3, .p 4000 0 0), (6, .c (.v (.int .i64 z4)))] ∧ m = ⟨[(4000, .blk 0 [.c (.v (.int .i64 x1)), .c (.v (.int .i64 x2)), .c (.v (.string x3)), .c (.sl 3 x4 none), .c (.sl 5 x5 none)])], 1⟩)) ∧ p29_1L False fu (p29 False fu) K0 x5 n z3 z4) (fun n => n) fu ⟨j2, 0, ⟨(by (conv => lhs; cbv) <;> (subst hO; rfl)), (by (conv => lhs; cbv) <;> (subst hO; rfl))⟩, h⟩ ?_
    rintro n1 tm m L ⟨z3, z4, hs, h⟩ hLn1
    cases n1 with
    | zero => rw [p29_1L] at h; exact h.elim
    | succ n1 =>
      rw [p29_1L] at h
      unfold p29_1 at h
      obtain ⟨rfl, rfl⟩ := hs
      conv => cbv
      refine br_h hO h (by subst hO; rfl) (fun hc1 h => ?_) (fun hc1 h => ?_)
      · conv => cbv
        refine join_all hO ?_
        conv => cbv
        refine and_h h (fun g => (by subst hO; exact g)) (fun h => ?_)
        refine and_h h (fun g => (by subst hO; exact g)) (fun h => ?_)
        obtain ⟨c5, c6, c7, c8, c9, hr, h⟩ := rw_i64_i64_s_l3_l5_inv h
        refine elem_of hO _ (by subst hO; exact hr) ?_
        clear hr
        conv => cbv
        refine call_h hO [.shut, .shut] (ih_p29 O.len hN h) ?_
        intro os Q hos hQ
        conv => cbv
        refine ⟨(by (rw [hos]) <;> (subst hO; rfl)), ?_⟩
        intro r bs hq
        rw [hQ] at hq
        clear hos hQ h
        obtain ⟨y10, _, _, ⟨rfl, rfl⟩, h⟩ := hq
        conv => cbv
        exact hLn1 n1 _ _ (Nat.lt_succ_self n1) ⟨y10, binStd .add .i64 z4 1, ⟨(by (conv => lhs; cbv) <;> (subst hO; rfl)), (by (conv => lhs; cbv) <;> (subst hO; rfl))⟩, h⟩
      · conv => cbv
        rw [hQ]
        exact ⟨z3, _, _, ⟨(by subst hO; rfl), (by subst hO; rfl)⟩, h⟩
theorem dd_p29 (fu : Nat) : D_p29 fu := by
  induction fu with
  | zero => unfold D_p29; intros; rename_i h; rw [p29] at h; exact h.elim
  | succ n ih =>
    exact (by unfold D_p29; intro K0 L hN x0 x1 x2 x3 x4 x5 h; exact b_p29 n ih L hN (by rw [p29] at h; exact h))
theorem d_p29 (fu : Nat) {K0 : EL → Prop} (L : EL → Nat) (hL : L = List.length) {x0 : EL} {x1 : Int} {x2 : Int} {x3 : ByteArray} {x4 : EL} {x5 : EL} (h : p29 False fu K0 x0 x1 x2 x3 x4 x5) : Den Try.prog G0 29 [.c (.sl 1 x0 none), .agg [.c (.v (.int .i64 x1)), .c (.v (.int .i64 x2)), .c (.v (.string x3)), .c (.sl 3 x4 none), .c (.sl 5 x5 none)]] (fun r bs => (∃ (y0 : EL) (o0 : OV) (o1 : OV), (r = .c (.sl 1 y0 none) ∧ bs = [o0, o1]) ∧ K0 y0)) := dd_p29 fu L hL h
end Go.Proofs.Ythncmjlcmlmnmaa
