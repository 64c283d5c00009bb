/- More operations that read: fields, parts of tuples, lengths, indexes, cuts, conversions of numbers. Conditions: none. -/
import Derived.Test.YthncmjlcmlmnmaaV6
namespace Go.Proofs.Ythncmjlcmlmnmaa.V
open Go Go.RowKit
section
variable {P : Program} {T : Tab} {X : Ctx} {S : Area} {pl : Place} {w : World} {m : Mem} {K : KK}

theorem part_sound {t : TypeId} (hkn : known P t = true) {cs : List AV} {us : List Value} (hl : us.length = cs.length) (hr : ∀ (i : Nat) x u, cs[i]? = some x → us[i]? = some u → RelV S pl w m x u) (off : Nat)
    {K : AV → Prop} (hk : readA (aggB P t) (P.cellsOf t) (cs.drop off) K) : ∃ u y, (part t us.toArray off).run P w = .ok u w ∧ K y ∧ RelV S pl w m y u := by
  have hr' : ∀ (j : Nat) x, (cs.drop off)[j]? = some x → RelV S pl w m x (us.getD (off + j) undef) := fun j x hx => by
    rw [List.getElem?_drop] at hx
    have hj : off + j < cs.length := (List.getElem?_eq_some_iff.1 hx).1
    have hu : us[off + j]? = some us[off + j] := List.getElem?_eq_getElem (by omega)
    have := hr _ x _ hx hu
    simpa [List.getD, hu] using this
  obtain ⟨hle, y, hy, hrel⟩ := readA_rel hr' hk
  rw [List.length_drop] at hle
  unfold part
  simp only [Sem.run_bind, run_agg_of hkn, Result.andThen_ok]
  cases hag : aggB P t with
  | true =>
    rw [hag] at hrel hle
    simp only [if_true] at hrel hle
    simp only [if_true, Sem.run_bind, run_size_of hkn, Result.andThen_ok, Sem.run_pure]
    refine ⟨_, y, rfl, hy, ?_⟩
    have : us.toArray.extract off (off + P.cellsOf t) = ((List.range (P.cellsOf t)).map fun j => us.getD (off + j) undef).toArray := by
      apply Array.ext'
      rw [Array.toList_extract]
      simp only [List.extract, Nat.add_sub_cancel_left]
      apply List.ext_getElem?
      intro j
      by_cases hj : j < P.cellsOf t
      · rw [List.getElem?_take_of_lt hj, List.getElem?_drop, List.getElem?_map, List.getElem?_range hj]
        have hu : us[off + j]? = some us[off + j] := List.getElem?_eq_getElem (by omega)
        simp [List.getD, hu]
      · rw [List.getElem?_eq_none (by rw [List.length_take]; omega), List.getElem?_eq_none (by simp; omega)]
    rw [this]; exact hrel
  | false =>
    rw [hag] at hrel hle
    simp only [Bool.false_eq_true, if_false] at hrel hle ⊢
    have hu : us[off]? = some us[off] := List.getElem?_eq_getElem (by omega)
    rw [show us.toArray[off]? = some us[off] by simp]
    refine ⟨_, y, rfl, hy, ?_⟩
    simpa [List.getD, hu] using hrel

theorem fieldW_sound (hT : TabOk P T) (h : St X S pl w m) {t f : Nat} {fs : List (Nat × Nat × Bool)} (hs : (T.at t).k = .st fs) {fd : Nat × Nat × Bool} (hf : fs[f]? = some fd) {x : AV} {a : Value} (hx : RelV S pl w m x a)
    (hk : fieldW fd m x K) : Did X S pl w m ((Instr.field t a f).run P w) K := by
  have ht := (hT.tk (t := t) (by rw [hs]; rfl)).1
  rw [hs] at ht; simp only [tkOk] at ht
  split at ht
  · rename_i fields hu
    simp only [Bool.and_eq_true, beq_iff_eq, List.all_eq_true] at ht
    obtain ⟨hmap, hall⟩ := ht
    have hfi : (fields.toList.map (fieldRow P))[f]? = some fd := by rw [hmap]; exact hf
    rw [List.getElem?_map] at hfi
    cases hfl : fields.toList[f]? with
    | none => rw [hfl] at hfi; simp at hfi
    | some g =>
      rw [hfl] at hfi
      simp only [Option.map_some, Option.some.injEq] at hfi
      subst hfi
      have hfa : fields[f]? = some g := by rw [← Array.getElem?_toList]; exact hfl
      unfold fieldW at hk
      split at hk
      · cases hx with | agg cs us hl hr =>
        obtain ⟨u, y, hrun, hy, hrel⟩ := part_sound (hall g (List.mem_of_getElem? hfl)) hl hr g.offset hk
        unfold Instr.field
        simp only [Sem.run_bind, run_underlying hu, Result.andThen_ok, hfa, asAgg, Sem.run_pure, hrun]
        exact Did.same h hy hrel
      · exact hk.elim
  · simp at ht

theorem extractW_sound (h : St X S pl w m) {i : Nat} {x : AV} {a : Value} (hx : RelV S pl w m x a) (hk : extractW i m x K) : Did X S pl w m ((Instr.extract a i).run P w) K := by
  unfold extractW at hk
  split at hk
  · cases hx with | tup cs us hl hr =>
    split at hk
    · rename_i y hy
      have hi : i < us.length := by rw [hl]; exact (List.getElem?_eq_some_iff.1 hy).1
      have hu : us[i]? = some us[i] := List.getElem?_eq_getElem hi
      unfold Instr.extract
      simp only [show us.toArray[i]? = some us[i] by simp, Sem.run_pure]
      exact Did.same h hk (hr i y _ hy hu)
    · exact hk.elim
  · exact hk.elim

theorem sl_under (hT : TabOk P T) {t esz eb : Nat} {ea u8 : Bool} (hs : (T.at t).k = .sl esz ea eb u8) : ∃ e, P.underlying t = some (.slice e) ∧ P.cellsOf e = esz ∧ P.bytesOf e = eb ∧ known P e = true ∧ 0 < esz ∧ eb ≤ 2 ^ 30 ∧ 0 < eb ∧
    (zeroOk P e (T.at t).ezero = true ∧ (T.at t).ezero.length = esz) ∧ (u8 = true → P.underlying e = some (.int .u8)) := by
  have ht := (hT.tk (t := t) (by rw [hs]; rfl)).1
  rw [hs] at ht; simp only [tkOk] at ht
  split at ht
  · rename_i e hu
    simp only [Bool.and_eq_true, beq_iff_eq, decide_eq_true_eq, Bool.or_eq_true, Bool.not_eq_true'] at ht
    obtain ⟨⟨⟨⟨⟨⟨⟨⟨h1, h2⟩, h3⟩, h4⟩, h5⟩, h6⟩, h7⟩, h8⟩, h9⟩ := ht
    refine ⟨e, hu, h1, h3, h4, h5, h6, h7, h8, fun hu8 => ?_⟩
    rcases h9 with h9 | h9
    · rw [hu8] at h9; simp at h9
    · split at h9
      · assumption
      · simp at h9
  · simp at ht
theorem ar_under (hT : TabOk P T) {t n esz : Nat} {ea : Bool} (hs : (T.at t).k = .ar n esz ea) : ∃ e, P.underlying t = some (.array n e) ∧ P.cellsOf e = esz ∧ aggB P e = ea ∧ known P e = true ∧ 0 < esz := by
  have ht := (hT.tk (t := t) (by rw [hs]; rfl)).1
  rw [hs] at ht; simp only [tkOk] at ht
  split at ht
  · rename_i n' e hu
    simp only [Bool.and_eq_true, beq_iff_eq, decide_eq_true_eq] at ht
    obtain ⟨⟨⟨⟨h1, h2⟩, h3⟩, h4⟩, h5⟩ := ht
    subst h1
    exact ⟨e, hu, h2, h3, h4, h5⟩
  · simp at ht
theorem str_under (hT : TabOk P T) {t : Nat} (hs : (T.at t).k = .str) : P.underlying t = some .string := by
  have ht := (hT.tk (t := t) (by rw [hs]; rfl)).1
  rw [hs] at ht; simp only [tkOk] at ht
  split at ht
  · assumption
  · simp at ht
theorem int_under (hT : TabOk P T) {t : Nat} {k : IntKind} (hs : (T.at t).k = .int k) : P.underlying t = some (.int k) := by
  have ht := (hT.tk (t := t) (by rw [hs]; rfl)).1
  rw [hs] at ht; simp only [tkOk] at ht
  split at ht
  · rename_i k' hu
    have := beq_iff_eq.1 ht; subst this; exact hu
  · simp at ht

theorem lenW_sound (hT : TabOk P T) (h : St X S pl w m) {t ty : Nat} {tys : Array TypeId} (ht : tys[0]? = some t) {x : AV} {a : Value} (hx : RelV S pl w m x a) (hk : lenW (T.at t).k m x K) :
    Did X S pl w m ((Builtin.len_ tys ty #[a]).run P w) K := by
  have h0 : (#[a] : Array Value)[0]? = some a := rfl
  unfold lenW at hk
  split at hk
  · rename_i hk2
    have e1 := relV_v hx; subst e1
    unfold Builtin.len_
    simp only [ht, h0, Sem.run_bind, run_underlying (str_under hT hk2), Result.andThen_ok, Sem.run_pure]
    exact Did.lit h rfl hk
  · rename_i hk2
    obtain ⟨e, hu, _⟩ := ar_under hT hk2
    unfold Builtin.len_
    simp only [ht, h0, Sem.run_bind, run_underlying hu, Result.andThen_ok, Sem.run_pure]
    exact Did.lit h rfl hk
  · rename_i hk2
    obtain ⟨e, hu, _⟩ := sl_under hT hk2
    cases hx with | c _ _ hx =>
    cases hx with | sl _ _ _ a cap b o f hcap hsp ha hl hS hc hr =>
    unfold Builtin.len_
    simp only [ht, h0, Sem.run_bind, run_underlying hu, Result.andThen_ok, Sem.run_pure]
    exact Did.lit h rfl hk
  · rename_i hk2
    obtain ⟨e, hu, _⟩ := sl_under hT hk2
    cases hx with | t _ _ _ b capn hv hn hx =>
    unfold Builtin.len_
    simp only [ht, h0, Sem.run_bind, run_underlying hu, Result.andThen_ok, Sem.run_pure]
    exact Did.lit h rfl hk
  · exact hk.elim

theorem arr_cap (h : St X S pl w m) {id v sz n b capn c : Nat} {es : List (List CV)} {pub : Bool} (hg : m.get id = some (.arr v sz es (some c) pub)) (hx : RelV S pl w m (.t id v n) (.slice (some ⟨b, 0, none⟩) n capn)) : capn = c := by
  cases hx with | t _ _ _ _ _ hv hn hx =>
  obtain ⟨sz', es', cap', pub', e, heq, hne, hb, hs⟩ := hx _ hg rfl
  injection heq with _ e1 e2 e3 _; subst e1 e2 e3
  obtain ⟨_, h0, h1, h2, ⟨e2, capn2, hs2, hle2, hcap2⟩, _⟩ := h.inv.ob id _ hg
  rw [← hb] at hs2
  rw [hs] at hs2; injection hs2 with hs2; injection hs2 with _ hs2
  have := Nat.eq_of_mul_eq_mul_right h1 hs2
  rw [this]; exact hcap2 c rfl

theorem capW_sound (hT : TabOk P T) (h : St X S pl w m) {t ty : Nat} {tys : Array TypeId} (ht : tys[0]? = some t) {x : AV} {a : Value} (hx : RelV S pl w m x a) (hk : capW (T.at t).k m x K) :
    Did X S pl w m ((Builtin.cap_ tys ty #[a]).run P w) K := by
  have h0 : (#[a] : Array Value)[0]? = some a := rfl
  unfold capW at hk
  split at hk
  · rename_i es sp hk2
    obtain ⟨e, hu, _⟩ := sl_under hT hk2
    cases hx with | c _ _ hx =>
    cases hx with | sl _ _ _ a cap b o f hcap hsp ha hl hS hc hr =>
    have := hsp sp rfl
    subst this
    unfold Builtin.cap_
    simp only [ht, h0, Sem.run_bind, run_underlying hu, Result.andThen_ok, Sem.run_pure]
    exact Did.lit h rfl (by simpa [goInt] using hk)
  · rename_i id ver _ hk2
    obtain ⟨e, hu, _⟩ := sl_under hT hk2
    split at hk
    · rename_i v sz es c pub hg
      obtain ⟨rfl, hk⟩ := hk
      have hx' := hx
      cases hx with | t _ _ _ b capn hv hn hx =>
      have := arr_cap h hg hx'
      subst this
      unfold Builtin.cap_
      simp only [ht, h0, Sem.run_bind, run_underlying hu, Result.andThen_ok, Sem.run_pure]
      exact Did.lit h rfl hk
    · exact hk.elim
  · exact hk.elim

theorem minmaxW_sound (h : St X S pl w m) {tys : Array TypeId} {ty : Nat} {xs : List AV} {as : List Value} (hl : as.length = xs.length) (hr : ∀ (i : Nat) x u, xs[i]? = some x → as[i]? = some u → RelV S pl w m x u) (mx : Bool)
    (hk : minmaxW mx m xs K) : Did X S pl w m ((if mx then Builtin.max_ tys ty as.toArray else Builtin.min_ tys ty as.toArray).run P w) K := by
  unfold minmaxW at hk
  split at hk
  · rename_i k a k' b
    obtain ⟨rfl, hk⟩ := hk
    match as, hl with
    | [u, v], _ =>
      have e1 := relV_v (hr 0 _ u rfl rfl); subst e1
      have e2 := relV_v (hr 1 _ v rfl rfl); subst e2
      cases mx with
      | true => exact Did.lit h rfl hk
      | false => exact Did.lit h rfl hk
  · exact hk.elim

theorem indexAddrW_sound (hT : TabOk P T) (h : St X S pl w m) {t : Nat} {x i : AV} {a ia : Value} (hx : RelV S pl w m x a) (hi : RelV S pl w m i ia) (hk : indexAddrW (T.at t).k m x i K) :
    Did X S pl w m ((Instr.indexAt t a ia).run P w) K := by
  have hadd : ∀ b o k : Nat, (⟨b, o, none⟩ : Addr).add k = ⟨b, o + k, none⟩ := fun b o k => by unfold Addr.add; split <;> simp_all
  unfold indexAddrW at hk
  split at hk
  · rename_i ik i
    have e1 := relV_v hi; subst e1
    split at hk
    · rename_i n esz ea id ver o hk2
      obtain ⟨h1, h2, h3, hk⟩ := hk
      obtain ⟨e, hu, hsz, _, hkn, _⟩ := ar_under hT hk2
      cases hx with | p _ _ _ b q hv hx =>
      unfold Instr.indexAt
      simp only [asIntOf, Sem.run_bind, Sem.run_pure, run_underlying hu, Result.andThen_ok, Instr.sureAddr]
      rw [if_pos ⟨h2, h3⟩]
      simp only [Sem.run_bind, run_size_of hkn, Result.andThen_ok, Sem.run_pure, hsz, hadd, Nat.add_assoc]
      exact Did.same h hk (.p _ _ _ _ _ hv hx)
    · rename_i n esz ea cs hk2
      obtain ⟨h1, h2, h3, hk⟩ := hk
      obtain ⟨e, hu, hsz, _, hkn, _⟩ := ar_under hT hk2
      cases hx with | c _ _ hx =>
      cases hx with | rp _ b q g hS hc hr =>
      unfold Instr.indexAt
      simp only [asIntOf, Sem.run_bind, Sem.run_pure, run_underlying hu, Result.andThen_ok, Instr.sureAddr]
      rw [if_pos ⟨h2, h3⟩]
      simp only [Sem.run_bind, run_size_of hkn, Result.andThen_ok, Sem.run_pure, hsz, hadd]
      refine Did.same h hk (.c _ _ (.rp _ b _ (fun j => g (i.toNat * esz + j)) (fun j hj => ?_) (fun j hj => ?_) (fun j x hx => ?_)))
      · rw [List.length_drop] at hj; have := hS (i.toNat * esz + j) (by omega); rwa [← Nat.add_assoc] at this
      · rw [List.length_drop] at hj; have := hc (i.toNat * esz + j) (by omega); rwa [← Nat.add_assoc] at this
      · rw [List.getElem?_drop] at hx; exact hr _ x hx
    · rename_i esz ea eb u8 sz es sp hk2
      obtain ⟨rfl, h2, h3, hk⟩ := hk
      obtain ⟨e, hu, hsz, _, hkn, _⟩ := sl_under hT hk2
      cases hx with | c _ _ hx =>
      cases hx with | sl _ _ _ ad cap b o f hcap hsp ha hl hS hc hr =>
      have hlt : i.toNat < es.length := by omega
      have he : es[i.toNat]? = some es[i.toNat] := List.getElem?_eq_getElem hlt
      have heA : (es ++ sp.getD [])[i.toNat]? = some es[i.toNat] := by rw [List.getElem?_append_left hlt]; exact he
      obtain ⟨rfl, hpos⟩ := ha (by intro hnil; rw [hnil] at heA; simp at heA)
      unfold Instr.indexAt
      simp only [asIntOf, Sem.run_bind, Sem.run_pure, run_underlying hu, Result.andThen_ok]
      rw [if_pos ⟨h2, h3⟩]
      simp only [Sem.run_bind, run_size_of hkn, Result.andThen_ok, Sem.run_pure, hsz, hadd]
      have hd : es.getD i.toNat [] = es[i.toNat] := by simp [List.getD, he]
      rw [hd] at hk
      have hlen := hl _ _ heA
      have hmul : ∀ j, j < es[i.toNat].length → i.toNat * sz + j < (es ++ sp.getD []).length * sz := fun j hj => by
        have : (i.toNat + 1) * sz ≤ (es ++ sp.getD []).length * sz := Nat.mul_le_mul_right sz (by rw [List.length_append]; omega)
        rw [Nat.add_mul] at this; omega
      refine Did.same h hk (.c _ _ (.rp _ b _ (fun j => f (i.toNat * sz + j)) (fun j hj => ?_) (fun j hj => ?_) (fun j x hx => hr _ _ _ x heA hx)))
      · have := hS _ (hmul j hj); rwa [← Nat.add_assoc] at this
      · have := hc _ (hmul j hj); rwa [← Nat.add_assoc] at this
    · rename_i esz ea eb u8 id ver n hk2
      obtain ⟨e, hu, hsz, _, hkn, _⟩ := sl_under hT hk2
      split at hk
      · rename_i v sz es cap pub hg
        obtain ⟨rfl, rfl, hne, h2, h3, hk⟩ := hk
        cases hx with | t _ _ _ b capn hv hn hx =>
        obtain ⟨sz', es', cap', pub', e', heq, hne', hb, hs⟩ := hx _ hg rfl
        injection heq with _ e1 e2 e3 e4; subst e1 e2 e3 e4
        unfold Instr.indexAt
        simp only [asIntOf, Sem.run_bind, Sem.run_pure, run_underlying hu, Result.andThen_ok]
        rw [if_pos ⟨h2, h3⟩]
        simp only [Sem.run_bind, run_size_of hkn, Result.andThen_ok, Sem.run_pure, hsz, hadd]
        refine Did.same h hk ?_
        have := RelV.tp (S := S) (pl := pl) (w := w) (m := m) id v i.toNat 0 b (i.toNat * sz) hv (fun ob hob he => by
          rw [hg] at hob; injection hob with hob; subst hob
          exact ⟨_, _, _, _, rfl, by omega, hb, rfl⟩)
        simpa using this
      · exact hk.elim
    · exact hk.elim
  · exact hk.elim

theorem indexW_sound (hT : TabOk P T) (h : St X S pl w m) {t : Nat} {x i : AV} {a ia : Value} (hx : RelV S pl w m x a) (hi : RelV S pl w m i ia) (hk : indexW (T.at t).k m x i K) :
    Did X S pl w m ((Instr.index t a ia).run P w) K := by
  unfold indexW at hk
  split at hk
  · rename_i ik i
    have e1 := relV_v hi; subst e1
    split at hk
    · rename_i s hk2
      obtain ⟨h2, h3, hk⟩ := hk
      have e2 := relV_v hx; subst e2
      unfold Instr.index
      simp only [asIntOf, Sem.run_bind, Sem.run_pure, run_underlying (str_under hT hk2), Result.andThen_ok]
      have hlt : i.toNat < s.size := by omega
      rw [if_pos h2]
      have hget : s[i.toNat]? = some (s.data.toList.getD i.toNat 0) := by
        have hl : i.toNat < s.data.toList.length := by simpa using hlt
        rw [getElem?_pos s i.toNat hlt]
        simp [List.getD, List.getElem?_eq_getElem hl]; rfl
      rw [hget]
      exact Did.lit h rfl hk
    · rename_i n esz ea cs hk2
      obtain ⟨h2, h3, hk⟩ := hk
      obtain ⟨e, hu, hsz, hag, hkn, _⟩ := ar_under hT hk2
      cases hx with | agg _ us hl hr =>
      rw [← hsz, ← hag] at hk
      obtain ⟨u, y, hrun, hy, hrel⟩ := part_sound hkn hl hr _ hk
      unfold Instr.index
      simp only [asIntOf, Sem.run_bind, Sem.run_pure, run_underlying hu, Result.andThen_ok]
      rw [if_pos ⟨h2, h3⟩]
      simp only [Sem.run_bind, run_size_of hkn, Result.andThen_ok, hrun]
      exact Did.same h hy hrel
    · exact hk.elim
  · exact hk.elim
end
end Go.Proofs.Ythncmjlcmlmnmaa.V
