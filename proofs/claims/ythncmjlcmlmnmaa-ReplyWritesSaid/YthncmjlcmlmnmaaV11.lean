/- append, copy; strings and bytes. Conditions: none. -/
import Derived.Test.YthncmjlcmlmnmaaV10
import Derived.Laws.BytesString
namespace Go.Proofs.Ythncmjlcmlmnmaa.V
open Go Go.RowKit
section
variable {P : Program} {T : Tab} {X : Ctx} {S : Area} {pl : Place} {w : World} {m : Mem} {K : KK}

theorem add_none (b o k : Nat) : (⟨b, o, none⟩ : Addr).add k = ⟨b, o + k, none⟩ := by unfold Addr.add; split <;> simp_all

/-- Elements in a row of values. -/
def RowV (S : Area) (w : World) (sz : Nat) (es : List (List CV)) (us : List Value) : Prop :=
  us.length = es.length * sz ∧ (∀ (i : Nat) e, es[i]? = some e → e.length = sz) ∧ ∀ (i j : Nat) e x, es[i]? = some e → e[j]? = some x → RelC S w x (us.getD (i * sz + j) undef)

theorem lt_mul {i n sz j : Nat} (hi : i < n) (hj : j < sz) : i * sz + j < n * sz := by
  have : (i + 1) * sz ≤ n * sz := Nat.mul_le_mul_right sz hi
  rw [Nat.add_mul, Nat.one_mul] at this; omega

theorem RowV.solid {sz : Nat} {es : List (List CV)} {us : List Value} (h : RowV S w sz es us) (hsz : 0 < sz) : ∀ v ∈ us, v.oneCell' = true := by
  intro v hv
  obtain ⟨k, hk⟩ := List.mem_iff_getElem?.1 hv
  have hkl : k < es.length * sz := by rw [← h.1]; exact (List.getElem?_eq_some_iff.1 hk).1
  have hi : k / sz < es.length := (Nat.div_lt_iff_lt_mul hsz).2 hkl
  have hj : k % sz < sz := Nat.mod_lt _ hsz
  have he : es[k / sz]? = some es[k / sz] := List.getElem?_eq_getElem hi
  have hel := h.2.1 _ _ he
  have hx : es[k / sz][k % sz]? = some es[k / sz][k % sz] := List.getElem?_eq_getElem (by omega)
  have := (h.2.2 _ _ _ _ he hx).solid
  rw [show k / sz * sz + k % sz = k by rw [Nat.mul_comm]; exact Nat.div_add_mod k sz] at this
  simpa [List.getD, hk] using this

theorem RowV.take {sz : Nat} {es : List (List CV)} {us : List Value} (h : RowV S w sz es us) (n : Nat) : RowV S w sz (es.take n) (us.take (n * sz)) := by
  refine ⟨?_, fun i e he => ?_, fun i j e x he hx => ?_⟩
  · rw [List.length_take, List.length_take, h.1]
    rcases Nat.le_total n es.length with q | q
    · rw [Nat.min_eq_left q, Nat.min_eq_left (Nat.mul_le_mul_right sz q)]
    · rw [Nat.min_eq_right q, Nat.min_eq_right (Nat.mul_le_mul_right sz q)]
  · have hi : i < n := by have := (List.getElem?_eq_some_iff.1 he).1; rw [List.length_take] at this; omega
    rw [List.getElem?_take_of_lt hi] at he; exact h.2.1 i e he
  · have hi : i < n := by have := (List.getElem?_eq_some_iff.1 he).1; rw [List.length_take] at this; omega
    rw [List.getElem?_take_of_lt hi] at he
    have hj : j < sz := by have := (List.getElem?_eq_some_iff.1 hx).1; rw [h.2.1 i e he] at this; exact this
    have := h.2.2 i j e x he hx
    have hlt := lt_mul hi hj
    simpa [List.getD, List.getElem?_take_of_lt hlt] using this

theorem RowV.append {sz : Nat} {es ns : List (List CV)} {us vs : List Value} (h : RowV S w sz es us) (k : RowV S w sz ns vs) : RowV S w sz (es ++ ns) (us ++ vs) := by
  have hget : ∀ (i : Nat) e, (es ++ ns)[i]? = some e → (i < es.length ∧ es[i]? = some e) ∨ (es.length ≤ i ∧ ns[i - es.length]? = some e) := fun i e he => by
    by_cases hi : i < es.length
    · rw [List.getElem?_append_left hi] at he; exact .inl ⟨hi, he⟩
    · rw [List.getElem?_append_right (by omega)] at he; exact .inr ⟨by omega, he⟩
  refine ⟨by rw [List.length_append, List.length_append, h.1, k.1, Nat.add_mul], fun i e he => ?_, fun i j e x he hx => ?_⟩
  · rcases hget i e he with ⟨_, q⟩ | ⟨_, q⟩
    · exact h.2.1 i e q
    · exact k.2.1 _ e q
  · rcases hget i e he with ⟨hi, q⟩ | ⟨hi, q⟩
    · have hj : j < sz := by have := (List.getElem?_eq_some_iff.1 hx).1; rw [h.2.1 i e q] at this; exact this
      have := h.2.2 i j e x q hx
      have hlt := lt_mul hi hj
      rw [← h.1] at hlt
      simpa [List.getD, List.getElem?_append_left hlt] using this
    · have := k.2.2 _ j e x q hx
      have hge : us.length ≤ i * sz + j := by rw [h.1]; have := Nat.mul_le_mul_right sz hi; omega
      have hsub : i * sz + j - us.length = (i - es.length) * sz + j := by
        rw [h.1, Nat.sub_mul]; have := Nat.mul_le_mul_right sz hi; omega
      simpa [List.getD, List.getElem?_append_right hge, hsub] using this

/-- what is appended, or copied: its elements, and how the model reads them -/
theorem srcW_sound (h : St X S pl w m) {esz : Nat} (hpos : 0 < esz) {x : AV} {a : Value} (hx : RelV S pl w m x a) {K : List (List CV) → Prop} (hk : srcW esz m x K) :
    ∃ ns us, K ns ∧ RowV S w esz ns us ∧ (Builtin.lenOf a).run P w = .ok ns.length w ∧ (∀ n, n ≤ ns.length → ∀ dr, (Builtin.firstCells esz n a).run P { w with drawn := dr } = .ok (us.take (n * esz)).toArray { w with drawn := dr }) := by
  have load : ∀ (b o : Nat) (f : Nat → Value) (n : Nat), (∀ k, k < n → cellAt w b (o + k) = some (f k)) → ∀ dr, (loadCells ⟨b, o, none⟩ n).run P { w with drawn := dr } = .ok ((List.range n).map f).toArray { w with drawn := dr } := fun b o f n hc dr =>
    run_loadCells { w with drawn := dr } ⟨b, o, none⟩ n f (fun j hj => by rw [add_none]; exact hc j hj)
  have take_range : ∀ (f : Nat → Value) (a b : Nat), a ≤ b → ((List.range b).map f).take a = (List.range a).map f := fun f a b hab => by
    rw [← List.map_take, List.take_range, Nat.min_eq_left hab]
  unfold srcW at hk
  split at hk
  · rename_i s
    obtain ⟨rfl, hk⟩ := hk
    have e1 := relV_v hx; subst e1
    refine ⟨_, s.data.toList.map fun b => .int .u8 b.toNat, hk, ⟨by simp [encB], fun i e he => ?_, fun i j e x he hx => ?_⟩, ?_, fun n hn dr => ?_⟩
    · simp only [encB, List.getElem?_map] at he
      cases hs : s.data.toList[i]? with
      | none => rw [hs] at he; simp at he
      | some c => rw [hs] at he; simp at he; subst he; rfl
    · simp only [encB, List.getElem?_map] at he
      cases hs : s.data.toList[i]? with
      | none => rw [hs] at he; simp at he
      | some c =>
        rw [hs] at he; simp at he; subst he
        cases j with
        | succ j => simp at hx
        | zero =>
          simp at hx; subst hx
          have : (s.data.toList.map fun b => Value.int .u8 b.toNat).getD (i * 1 + 0) undef = .int .u8 c.toNat := by
            rw [Nat.mul_one, Nat.add_zero]; simp only [List.getD, List.getElem?_map, hs]; rfl
          rw [this]; exact .v _ rfl
    · unfold Builtin.lenOf
      simp only [Sem.run_pure, encB, List.length_map]
      congr 1
    · unfold Builtin.firstCells
      simp only [Sem.run_pure]
      congr 1
      apply Array.ext'
      simp only [Array.toList_map, Nat.mul_one]
      rw [← List.map_take]
      congr 1
      have : (s.extract 0 n).data = s.data.extract 0 n := ByteArray.data_extract
      rw [this, Array.toList_extract]
      simp [List.extract]
  · unfold viewS at hk
    split at hk
    · rename_i sz es sp _
      obtain ⟨rfl, hk⟩ := hk
      cases hx with | c _ _ hx =>
      cases hx with | sl _ _ _ ad cap b o f hcap hsp ha hl hS hc hr =>
      have hlA : es.length ≤ (es ++ sp.getD []).length := by rw [List.length_append]; omega
      have hc' : ∀ k, k < es.length * sz → cellAt w b (o + k) = some (f k) := fun k hk => hc k (Nat.lt_of_lt_of_le hk (Nat.mul_le_mul_right sz hlA))
      have hget : ∀ (i : Nat) e, es[i]? = some e → (es ++ sp.getD [])[i]? = some e := fun i e he => by rw [List.getElem?_append_left (List.getElem?_eq_some_iff.1 he).1]; exact he
      refine ⟨es, (List.range (es.length * sz)).map f, hk, ⟨by simp, fun i e he => hl i e (hget i e he), fun i j e x he hx => ?_⟩, rfl, fun n hn dr => ?_⟩
      · have hi := (List.getElem?_eq_some_iff.1 he).1
        have hj : j < sz := by have := (List.getElem?_eq_some_iff.1 hx).1; rw [hl i e (hget i e he)] at this; exact this
        have hlt := lt_mul hi hj
        have := hr i j e x (hget i e he) hx
        simpa [List.getD, List.getElem?_map, List.getElem?_range hlt] using this
      · rw [take_range f _ _ (Nat.mul_le_mul_right sz hn)]
        by_cases hne : es ++ sp.getD [] = []
        · have h0 : es.length = 0 := by rw [hne] at hlA; simpa using hlA
          have hn0 : n = 0 := by omega
          subst hn0
          cases ad with
          | none => simp [Builtin.firstCells]
          | some ad =>
            simp only [Builtin.firstCells, Nat.zero_mul]
            rfl
        · obtain ⟨rfl, _⟩ := ha hne
          simp only [Builtin.firstCells]
          exact load b o f _ (fun k hk => hc' k (Nat.lt_of_lt_of_le hk (Nat.mul_le_mul_right sz hn))) dr
    · rename_i id ver n _
      split at hk
      · rename_i v sz es cap pub hg
        obtain ⟨rfl, rfl, hne, hk⟩ := hk
        cases hx with | t _ _ _ b capn hv hn hx =>
        obtain ⟨sz', es', cap', pub', e, heq, _, hb, hs⟩ := hx _ hg rfl
        injection heq with _ q1 q2 q3 q4; subst q1 q2 q3 q4
        obtain ⟨_, h0, h1, h2, h3, ⟨hl, f, hc, hr⟩, hp⟩ := h.inv.ob id _ hg
        have hrow : RowV S w sz es ((List.range (es.length * sz)).map f) := ⟨by simp, hl, fun i j e x he hx => by
          have hi := (List.getElem?_eq_some_iff.1 he).1
          have hj : j < sz := by have := (List.getElem?_eq_some_iff.1 hx).1; rw [hl i e he] at this; exact this
          have := hr i j e x he hx
          simpa [List.getD, List.getElem?_map, List.getElem?_range (lt_mul hi hj)] using this⟩
        have hlen : (es.take n).length = n := by rw [List.length_take]; omega
        refine ⟨es.take n, _, hk, hrow.take n, by rw [hlen]; rfl, fun k hk' dr => ?_⟩
        rw [hlen] at hk'
        rw [List.take_take, Nat.min_eq_left (Nat.mul_le_mul_right sz hk'), take_range f _ _ (Nat.mul_le_mul_right sz (by omega))]
        simp only [Builtin.firstCells]
        refine load b 0 f _ (fun q hq => ?_) dr
        rw [Nat.zero_add, hb]
        exact hc q (Nat.lt_of_lt_of_le hq (Nat.mul_le_mul_right sz (by omega)))
      · exact hk.elim
    · exact hk.elim

theorem grow_le : ∀ (r n c : Nat), Builtin.growBy n r c ≤ max c (n + (n + 768) / 4) + (if r = 0 then 0 else 0)
  | 0, n, c => by simp [Builtin.growBy]; omega
  | r + 1, n, c => by
    simp only [Builtin.growBy]
    split
    · simp; omega
    · rename_i hc
      have := grow_le r n (c + (c + 768) / 4)
      simp at this ⊢
      omega
theorem nextcap_le (n c : Nat) (h : c < n) : Builtin.nextslicecap n c ≤ 2 * n + 768 := by
  unfold Builtin.nextslicecap
  split
  · omega
  · split
    · omega
    · have := grow_le 4 n c
      simp at this
      omega

/-- append, told: in place, or in a new row -/
theorem run_append {sT xT ty e : TypeId} {esz eb : Nat} (hu : P.underlying sT = some (.slice e)) (hux : ∃ d, P.underlying xT = some d ∧ ∀ k, d ≠ .int k) (hkn : known P e = true) (hsz : P.cellsOf e = esz) (heb : P.bytesOf e = eb) (heb2 : 0 < eb) (heb3 : eb ≤ 2 ^ 30)
    (a : Option Addr) (n cap : Nat) (x : Value) (nn : Nat) (us olds : List Value) (hlen : (Builtin.lenOf x).run P w = .ok nn w) (hsrc : ∀ dr, (Builtin.firstCells esz nn x).run P { w with drawn := dr } = .ok us.toArray { w with drawn := dr }) (hz : ∃ z : Value, z.cells.size = esz ∧ ∀ w' : World, (zeroValue e).run P w' = .ok z w')
    (hold : ∀ dr, (Builtin.firstCells esz n (.slice a n cap)).run P { w with drawn := dr } = .ok olds.toArray { w with drawn := dr }) (hsmall : (n + nn) * eb ≤ 2 ^ 45) :
    (n + nn ≤ cap → (match a with | some ad => (storeCells (ad.add (n * esz)) us).run P w | none => .ok () w) = .ok () (match a with | some ad => w.setCells ad.block (ad.off + n * esz) us | none => w) →
      (Builtin.append_ #[sT, xT] ty #[.slice a n cap, x]).run P w = .ok (.slice a (n + nn) cap) (match a with | some ad => w.setCells ad.block (ad.off + n * esz) us | none => w)) ∧
    (cap < n + nn → ∃ d newCap rest, (n + nn ≤ newCap ∧ newCap < 9223372036854775808) ∧ rest.length = (newCap - (n + nn)) * esz ∧
      (Builtin.append_ #[sT, xT] ty #[.slice a n cap, x]).run P w = .ok (.slice (some ⟨w.heap.size, 0, none⟩) (n + nn) newCap) (({ w with drawn := d } : World).alloc (.cells (olds ++ us ++ rest).toArray e))) := by
  obtain ⟨d, hux, hd⟩ := hux
  obtain ⟨z, hz1, hz2⟩ := hz
  obtain ⟨i, _, hi, _⟩ := known_info hkn
  have hbytes : i.bytes = eb := by rw [← heb]; unfold Program.bytesOf; rw [hi]; rfl
  have g0 : (#[sT, xT] : Array TypeId)[0]? = some sT := rfl
  have g1 : (#[sT, xT] : Array TypeId)[1]? = some xT := rfl
  have g2 : (#[.slice a n cap, x] : Array Value)[0]? = some (.slice a n cap) := rfl
  have g3 : (#[.slice a n cap, x] : Array Value)[1]? = some x := rfl
  refine ⟨fun hle hst => ?_, fun hlt => ?_⟩
  · unfold Builtin.append_
    simp only [g0, g1, g2, g3, Sem.run_bind, run_underlying hu, run_underlying hux, Result.andThen_ok, run_size_of hkn, hsz, Sem.run_pure, Bool.false_eq_true, if_false, hlen, Bool.not_false, if_true]
    rw [if_pos hle]
    have hs0 := hsrc w.drawn
    simp only [Sem.run_bind]
    rw [show (Builtin.firstCells esz nn x).run P w = .ok us.toArray w from hs0]
    simp only [Result.andThen_ok]
    cases a with
    | none => simp only [Sem.run_pure]
    | some ad => simp only [Sem.run_bind] at hst ⊢; rw [hst]; rfl
  · unfold Builtin.append_
    simp only [g0, g1, g2, g3, Sem.run_bind, run_underlying hu, run_underlying hux, Result.andThen_ok, run_size_of hkn, hsz, Sem.run_pure, Bool.false_eq_true, if_false, hlen, Bool.not_false, if_true]
    rw [if_neg (by omega)]
    simp only [Sem.run_bind, run_typeInfo w hi, Result.andThen_ok, hbytes, false_or]
    rw [if_neg (by omega)]
    simp only [Sem.run_bind, run_typeInfo w hi, Result.andThen_ok, hbytes]
    have hcapb : Builtin.nextslicecap (n + nn) cap * eb ≤ 2 ^ 48 := by
      have h1 := Nat.mul_le_mul_right eb (nextcap_le (n + nn) cap hlt)
      rw [Nat.add_mul, Nat.mul_assoc] at h1
      have h2 : 768 * eb ≤ 768 * 2 ^ 30 := Nat.mul_le_mul_left 768 heb3
      omega
    rw [if_neg (by omega)]
    simp only [Sem.run_bind, run_choose, Question.forced, Bool.false_eq_true, if_false, Result.andThen_ok, run_typeInfo _ hi, run_askRoom, hold, hsrc, hz2, newRow, run_newObj, Sem.run_pure]
    generalize hq : (Question.appendCap (n + nn) cap e).cut (w.tape w.drawn (.appendCap (n + nn) cap e)) = q
    refine ⟨w.drawn + 1, q, (Builtin.zeroCells z.cells (q - (n + nn))).toList, ?_, ?_, ?_⟩
    · rw [← hq]; simp only [Question.cut]
      have h5 : n + nn ≤ 2 ^ 45 := Nat.le_trans (Nat.le_mul_of_pos_right _ heb2) hsmall
      have h6 := Nat.mod_lt (w.tape w.drawn (.appendCap (n + nn) cap e)) (show 0 < 2 ^ 63 - (n + nn) by omega)
      omega
    · unfold Builtin.zeroCells; simp [hz1]
    · have : (olds.toArray ++ us.toArray ++ Builtin.zeroCells z.cells (q - (n + nn))) = (olds ++ us ++ (Builtin.zeroCells z.cells (q - (n + nn))).toList).toArray := by apply Array.ext'; simp
      rw [this]; rfl

theorem Did.after {S1 : Area} {pl1 : Place} {w1 : World} {m1 : Mem} (k : Keeps S S1 pl pl1 w w1 m m1) {r : Result Value} (h : Did X S1 pl1 w1 m1 r K) : Did X S pl w m r K := by
  obtain ⟨u, w', S', pl', v, m', e1, e2, e3, e4, e5⟩ := h
  exact ⟨u, w', S', pl', v, m', e1, e2, e3, e4, k.trans e5⟩

theorem del_ins (l : List (Nat × Ob)) (i : Nat) (o : Ob) : delL (insL l i o) i = delL l i := by
  induction l with
  | nil => simp [insL, delL]
  | cons a r ih =>
    obtain ⟨j, p⟩ := a
    simp only [insL]
    by_cases h1 : i = j
    · subst h1; simp [delL]
    · rw [if_neg h1]
      by_cases h2 : i < j
      · rw [if_pos h2]; simp [delL, h1]
      · rw [if_neg h2]; simp [delL, h1, ih]
theorem del_upd (m : Mem) (i : Nat) (o : Ob) : (m.upd i o).del i = m.del i := by
  unfold Mem.upd Mem.del; simp only [del_ins]

theorem appendW_sound (hT : TabOk P T) (h : St X S pl w m) {t t2 ty esz eb : Nat} {ea u8 : Bool} (hs : (T.at t).k = .sl esz ea eb u8) (hs2 : (∃ a b c d, (T.at t2).k = .sl a b c d) ∨ (T.at t2).k = .str) (site : Nat) {s x : AV} {sv xv : Value}
    (hsr : RelV S pl w m s sv) (hx : RelV S pl w m x xv) (hk : appendW site esz eb m s x K) : Did X S pl w m ((Builtin.append_ #[t, t2] ty #[sv, xv]).run P w) K := by
  obtain ⟨e, hu, hsz, heb, hkn, hpos, hb1, hb2, ⟨hz, hzl⟩, _⟩ := sl_under hT hs
  have hux : ∃ d, P.underlying t2 = some d ∧ ∀ k, d ≠ .int k := by
    rcases hs2 with ⟨a, b, c, d, hs2⟩ | hs2
    · obtain ⟨e2, hu2, _⟩ := sl_under hT hs2; exact ⟨_, hu2, by simp⟩
    · exact ⟨_, str_under hT hs2, by simp⟩
  have hzz : ∃ z : Value, z.cells.size = esz ∧ ∀ w' : World, (zeroValue e).run P w' = .ok z w' := by
    obtain ⟨i, d, hi, hd⟩ := known_info hkn
    obtain ⟨v, hrun, h1, _⟩ := zero_of hz hkn S w
    refine ⟨v, by omega, fun w' => ?_⟩
    unfold zeroOk at hz
    rw [hi] at hz
    simp only [Option.bind_some] at hz
    unfold zeroValue at hrun ⊢
    simp only [Sem.run_bind, run_typeInfo _ hi, Result.andThen_ok] at hrun ⊢
    cases hzo : i.zero with
    | none => rw [hzo] at hz; simp at hz
    | some v' =>
      rw [hzo] at hrun
      simp only [Sem.run_pure] at hrun
      injection hrun with hrun; subst hrun; rfl
  unfold appendW at hk
  obtain ⟨ns, us, hk2, hrow, hlen, hsrc⟩ := srcW_sound (P := P) h hpos hx hk
  clear hk
  have hk := hk2
  clear hk2
  have hfull : us.take (ns.length * esz) = us := List.take_of_length_le (by rw [hrow.1]; exact Nat.le_refl _)
  have hsrc' := hsrc ns.length (Nat.le_refl _)
  rw [hfull] at hsrc'
  split at hk
  · rename_i sz es
    obtain ⟨rfl, hsmall, hk⟩ := hk
    obtain ⟨es', olds, rfl, hrow0, _, hsrc0⟩ := srcW_sound (P := P) (K := fun es' => es' = es) h hpos hsr (by simp [srcW, viewS])
    have hold := hsrc0 es'.length (Nat.le_refl _)
    rw [List.take_of_length_le (by rw [hrow0.1]; exact Nat.le_refl _)] at hold
    have hsr' := hsr
    cases hsr with | c _ _ hsr =>
    cases hsr with | sl _ _ _ ad cap b o f hcap hsp ha hl hS hc hr =>
    have hce : cap = es'.length := by simpa using hsp [] rfl
    subst hce
    obtain ⟨r1, r2⟩ := run_append (w := w) (ty := ty) hu hux hkn hsz heb hb2 hb1 ad es'.length es'.length xv ns.length us olds hlen hsrc' hzz hold hsmall
    by_cases hne : ns = []
    · subst hne
      have hus : us = [] := by have := hrow.1; simpa using this
      subst hus
      rw [if_pos rfl] at hk
      clear r2 hr hc hS hl ha
      cases ad with
      | none => rw [r1 (by simp) rfl]; exact Did.same h hk hsr'
      | some ad => rw [r1 (by simp) rfl]; exact Did.same h hk hsr'
    · rw [if_neg hne] at hk
      have hpos2 : 0 < ns.length := List.length_pos_iff.2 hne
      obtain ⟨d, newCap, rest, ⟨h1, hbig⟩, h2, hrun⟩ := r2 (by omega)
      rw [hrun]
      obtain ⟨hst, hkp⟩ := h.draw d
      refine Did.after hkp ?_
      have hrA := hrow0.append hrow
      refine new_arr hst site sz (es' ++ ns) none false (olds ++ us) rest e (0, 0) (es'.length + ns.length) newCap hpos hrA.2.1 hrA.1 ?_ (by simp) (.inl (Nat.le_refl _)) (by simp) (fun _ => hbig) (fun i j e x he hx => RelC.mono (S := S) (S' := S) (w := w) (w' := { w with drawn := d }) (fun _ _ h => h) (fun _ _ _ => rfl) (hrA.2.2 i j e x he hx)) hk
      rw [List.length_append, hrA.1, h2, List.length_append, ← Nat.add_mul]
      congr 1; omega
  · rename_i id ver n
    split at hk
    · rename_i v sz es cap0 pub hg
      obtain ⟨rfl, rfl, rfl, hsmall, hk⟩ := hk
      obtain ⟨es', olds, he', hrow0, _, hsrc0⟩ := srcW_sound (P := P) (K := fun es' => es' = es) h hpos hsr (by simp [srcW, viewS, hg])
      subst he'
      have hold := hsrc0 es'.length (Nat.le_refl _)
      rw [List.take_of_length_le (by rw [hrow0.1]; exact Nat.le_refl _)] at hold
      cases hsr with | t _ _ _ b capn hv hn hsr =>
      obtain ⟨sz', es2, cap', pub', e', heq, _, hb, hsh⟩ := hsr _ hg rfl
      injection heq with _ q1 q2 q3 q4; subst q1 q2 q3 q4
      obtain ⟨r1, r2⟩ := run_append (w := w) (ty := ty) hu hux hkn hsz heb hb2 hb1 (some ⟨b, 0, none⟩) es'.length capn xv ns.length us olds hlen hsrc' hzz hold hsmall
      have hrA := hrow0.append hrow
      by_cases hle : es'.length + ns.length ≤ capn
      · obtain ⟨_, h0, h1, h2, ⟨e3, capn3, hs3, hle3, hcap3⟩, _, _⟩ := h.inv.ob id _ hg
        rw [← hb] at h2 hs3
        have hul : us.length = ns.length * sz := hrow.1
        have hfitn : (es'.length + ns.length) * sz ≤ capn * sz := Nat.mul_le_mul_right sz hle
        rw [Nat.add_mul] at hfitn
        have hcell : ∀ j, j < us.length → (cellAt w b (es'.length * sz + j)).isSome = true := fun j hj => by
          unfold World.shape? at hsh
          unfold cellAt World.cell?
          cases hh : w.heap[b]? with
          | none => rw [hh] at hsh; simp at hsh
          | some ob =>
            rw [hh] at hsh
            cases ob with
            | cells cc e' fr =>
              simp only [Option.some.injEq, Prod.mk.injEq] at hsh
              have : es'.length * sz + j < cc.size := by omega
              simp [Array.getElem?_eq_getElem this]
            | _ => simp at hsh
        have hstore : (storeCells (⟨b, 0, none⟩ : Addr) us (es'.length * sz)).run P w = .ok () (w.setCells b (0 + es'.length * sz) us) :=
          run_storeCells_cells (P := P) b 0 us (es'.length * sz) w (fun j hj => by rw [Nat.zero_add]; exact hcell j hj) (fun j hj => by
            rw [Nat.zero_add]
            cases hz : w.frozen? ⟨b, es'.length * sz + j, none⟩ with
            | false => rfl
            | true => have := h2.1 _ hz _ _ hsh; omega) (hrow.solid hpos)
        have hstore' : (storeCells ((⟨b, 0, none⟩ : Addr).add (es'.length * sz)) us).run P w = .ok () (w.setCells b (es'.length * sz) us) := by
          rw [add_none, Nat.zero_add]
          have := run_storeCells_cells (P := P) b (es'.length * sz) us 0 w (fun j hj => by simpa using hcell j hj) (fun j hj => by
            cases hz : w.frozen? ⟨b, es'.length * sz + 0 + j, none⟩ with
            | false => rfl
            | true => have := h2.1 _ hz _ _ hsh; omega) (hrow.solid hpos)
          simpa using this
        rw [r1 hle (by simp only [Nat.zero_add]; exact hstore')]
        simp only [Nat.zero_add]
        obtain ⟨S2, hst2, hkp2⟩ := h.setArr hg (es'.length * sz) us (es' ++ ns) none (capn := capn) (by rw [← hb]; exact hsh) (by omega) (fun _ => Nat.le_refl _) (by rw [List.length_append]; omega) (by rw [List.length_append]; exact hle) (by simp)
          hrA.2.1 (fun k hk => by rw [List.length_append, Nat.add_mul] at hk; omega) (fun f hf i j e x he hx => by
            have hj : j < sz := by have := (List.getElem?_eq_some_iff.1 hx).1; rw [hrA.2.1 i e he] at this; exact this
            by_cases hi : i < es'.length
            · rw [List.getElem?_append_left hi] at he
              have := lt_mul hi hj
              rw [if_neg (by omega)]; exact hf i j e x he hx
            · rw [List.getElem?_append_right (by omega)] at he
              have hge := Nat.mul_le_mul_right sz (Nat.not_lt.1 hi)
              have hni := (List.getElem?_eq_some_iff.1 he).1
              have hlt := lt_mul hni hj
              have hsub : (i - es'.length) * sz + j = i * sz + j - es'.length * sz := by rw [Nat.sub_mul]; omega
              rw [if_pos ⟨by omega, by omega⟩, ← hsub]
              exact hrow.2.2 _ j e x he hx)
        rw [← hb] at hst2 hkp2
        have hg2 : (m.upd id (.arr v sz (es' ++ ns) none pub)).get id = some (.arr v sz (es' ++ ns) none pub) := by rw [get_upd, if_pos rfl]
        obtain ⟨hst3, hkp3⟩ := hst2.rename hg2 id
        rw [del_upd] at hst3 hkp3
        refine ⟨_, _, S2, _, _, _, rfl, hk, ?_, hst3, hkp2.trans hkp3⟩
        exact .t id _ _ b capn (by rw [clk_new]; exact Nat.lt_succ_self _) hle (fun ob hob _ => by
          rw [get_new, if_pos rfl] at hob; injection hob with hob; subst hob
          exact ⟨_, _, _, _, e', rfl, by simp, by simp [plAt, hb], by rw [shape_setCells]; exact hsh⟩)
      · obtain ⟨d, newCap, rest, ⟨h1, hbig⟩, h2, hrun⟩ := r2 (by omega)
        rw [hrun]
        obtain ⟨hst, hkp⟩ := h.draw d
        obtain ⟨hst1, hkp1⟩ := hst.del id
        refine Did.after (hkp.trans hkp1) ?_
        refine new_arr hst1 id sz (es' ++ ns) none pub (olds ++ us) rest e (0, 0) (es'.length + ns.length) newCap hpos hrA.2.1 hrA.1 ?_ (by simp) (.inl (Nat.le_refl _)) (by simp) (fun _ => hbig) (fun i j e x he hx => RelC.mono (S := S) (S' := S) (w := w) (w' := { w with drawn := d }) (fun _ _ h => h) (fun _ _ _ => rfl) (hrA.2.2 i j e x he hx)) hk
        rw [List.length_append, hrA.1, h2, List.length_append, ← Nat.add_mul]
        congr 1; omega
    · exact hk.elim
  · exact hk.elim

theorem copyW_sound (hT : TabOk P T) (h : St X S pl w m) {t t2 ty esz eb : Nat} {ea u8 : Bool} (hs : (T.at t).k = .sl esz ea eb u8) {d x : AV} {dv xv : Value}
    (hd : RelV S pl w m d dv) (hx : RelV S pl w m x xv) (hk : copyW esz m d x K) : Did X S pl w m ((Builtin.copy_ #[t, t2] ty #[dv, xv]).run P w) K := by
  obtain ⟨e, hu, hsz, heb, hkn, hpos, hb1, hb2, ⟨hz, hzl⟩, _⟩ := sl_under hT hs
  unfold copyW at hk
  obtain ⟨ns, us, hk2, hrow, hlen, hsrc⟩ := srcW_sound (P := P) h hpos hx hk
  clear hk
  have hk := hk2
  clear hk2
  split at hk
  · rename_i id ver n
    split at hk
    · rename_i v sz es cap hg
      obtain ⟨rfl, rfl, hne, hk⟩ := hk
      cases hd with | t _ _ _ b capn hv hn hd =>
      obtain ⟨sz', es2, cap', pub', e', heq, _, hb, hsh⟩ := hd _ hg rfl
      injection heq with _ q1 q2 q3 q4; subst q1 q2 q3 q4
      obtain ⟨_, h0, h1, h2, ⟨e3, capn3, hs3, hle3, hcap3⟩, ⟨hl3, _⟩, _⟩ := h.inv.ob id _ hg
      rw [← hb] at h2 hs3
      have hcc : capn3 = capn := by
        rw [hsh] at hs3; injection hs3 with hs3; injection hs3 with _ hs3
        exact (Nat.eq_of_mul_eq_mul_right h1 hs3).symm
      subst hcc
      generalize hkk : min ns.length n = k at hk
      have hk1 : k ≤ ns.length := by omega
      have hk2 : k ≤ es.length := by omega
      have hsrc' := hsrc k hk1 w.drawn
      have hkm : k * sz ≤ capn3 * sz := Nat.mul_le_mul_right sz (by omega)
      have hrt := hrow.take k
      have hul : (us.take (k * sz)).length = k * sz := by rw [hrt.1, List.length_take, Nat.min_eq_left hk1]
      have hcell : ∀ j, j < k * sz → (cellAt w b j).isSome = true := fun j hj => by
        unfold World.shape? at hsh
        unfold cellAt World.cell?
        cases hh : w.heap[b]? with
        | none => rw [hh] at hsh; simp at hsh
        | some ob =>
          rw [hh] at hsh
          cases ob with
          | cells cc e' fr =>
            simp only [Option.some.injEq, Prod.mk.injEq] at hsh
            have : j < cc.size := by omega
            simp [Array.getElem?_eq_getElem this]
          | _ => simp at hsh
      have hstore : (storeCells (⟨b, 0, none⟩ : Addr) (us.take (k * sz))).run P w = .ok () (w.setCells b 0 (us.take (k * sz))) := by
        have := run_storeCells_cells (P := P) b 0 (us.take (k * sz)) 0 w (fun j hj => by simpa using hcell j (by omega)) (fun j hj => by
          cases hz : w.frozen? ⟨b, 0 + 0 + j, none⟩ with
          | false => rfl
          | true => have := h2.1 _ hz _ _ hsh; omega) (hrt.solid hpos)
        simpa using this
      have hrun : (Builtin.copy_ #[t, t2] ty #[.slice (some ⟨b, 0, none⟩) n capn3, xv]).run P w = .ok (goInt k) (w.setCells b 0 (us.take (k * sz))) := by
        unfold Builtin.copy_
        have g0 : (#[t, t2] : Array TypeId)[0]? = some t := rfl
        have g2 : (#[.slice (some ⟨b, 0, none⟩) n capn3, xv] : Array Value)[0]? = some (.slice (some ⟨b, 0, none⟩) n capn3) := rfl
        have g3 : (#[.slice (some ⟨b, 0, none⟩) n capn3, xv] : Array Value)[1]? = some xv := rfl
        simp only [g0, g2, g3, Sem.run_bind, run_underlying hu, Result.andThen_ok, hlen, run_size_of hkn, hsz]
        rw [show Nat.min ns.length n = k from hkk, show (Builtin.firstCells sz k xv).run P w = .ok (us.take (k * sz)).toArray w from hsrc']
        simp only [Result.andThen_ok, hstore, Sem.run_pure]
      rw [hrun]
      obtain ⟨S2, hst2, hkp2⟩ := h.setArr hg 0 (us.take (k * sz)) (ns.take k ++ es.drop k) cap (capn := capn3) (by rw [← hb]; exact hsh) (by omega) (by simp) (by simp; omega) (by simp; omega) hcap3
        (fun i e he => by
          by_cases hi : i < k
          · rw [List.getElem?_append_left (by simp; omega)] at he; exact hrt.2.1 i e he
          · rw [List.getElem?_append_right (by simp; omega), List.getElem?_drop] at he; exact hl3 _ e he)
        (fun q hq => .inl (by
          have : (ns.take k ++ es.drop k).length = es.length := by simp; omega
          rwa [this] at hq)) (fun f hf i j e x he hx => by
          have hki : (ns.take k).length = k := by simp; omega
          by_cases hi : i < k
          · rw [List.getElem?_append_left (by omega)] at he
            have hj : j < sz := by have := (List.getElem?_eq_some_iff.1 hx).1; rw [hrt.2.1 i e he] at this; exact this
            have := lt_mul hi hj
            rw [if_pos ⟨by omega, by omega⟩, Nat.sub_zero]; exact hrt.2.2 i j e x he hx
          · rw [List.getElem?_append_right (by omega), List.getElem?_drop, hki, show k + (i - k) = i by omega] at he
            have := Nat.mul_le_mul_right sz (Nat.not_lt.1 hi)
            rw [if_neg (by omega)]; exact hf i j e x he hx)
      rw [← hb] at hst2 hkp2
      exact ⟨_, _, S2, pl, _, _, rfl, hk, .c _ _ (.v _ rfl), hst2, hkp2⟩
    · exact hk.elim
  · exact hk.elim

theorem bytesOf_get : ∀ (es : List (List CV)) (b : List UInt8), bytesOf es = some b → b.length = es.length ∧ ∀ (i : Nat) c, b[i]? = some c → ∃ n, es[i]? = some [.v (.int .u8 n)] ∧ c = UInt8.ofNat n.toNat
  | [], b, h => by simp [bytesOf] at h; subst h; exact ⟨rfl, fun i c h => by simp at h⟩
  | e :: es, b, h => by
    unfold bytesOf at h
    split at h
    · simp at *
    · rename_i n r heq
      injection heq with h1 h2; subst h1 h2
      cases hb : bytesOf es with
      | none => rw [hb] at h; simp at h
      | some b' =>
        rw [hb] at h; simp at h; subst h
        obtain ⟨h1, h2⟩ := bytesOf_get es b' hb
        refine ⟨by simp [h1], fun i c hc => ?_⟩
        cases i with
        | zero => simp at hc; exact ⟨n, rfl, hc.symm⟩
        | succ i => exact h2 i c (by simpa using hc)
    · simp at h

theorem fold_push : ∀ (l : List Int) (r : ByteArray), l.foldl (fun (r : ByteArray) n => r.push (UInt8.ofNat n.toNat)) r = ⟨r.data ++ (l.map fun n => UInt8.ofNat n.toNat).toArray⟩
  | [], r => by simp
  | n :: l, r => by
    rw [List.foldl_cons, fold_push l]
    congr 1
    apply Array.ext'
    simp [ByteArray.push]

theorem view_src {esz : Nat} {y : AV} {a : Value} {F : List (List CV) → Prop} (hx : RelV S pl w m y a) (hk : viewS esz m y F) : srcW esz m y F ∧ ∃ ad n cap, a = .slice ad n cap := by
  cases y with
  | c x =>
    cases x with
    | sl sz es sp =>
      refine ⟨hk, ?_⟩
      cases hx with | c _ _ hx => cases hx; exact ⟨_, _, _, rfl⟩
    | _ => exact hk.elim
  | t id ver n => refine ⟨hk, ?_⟩; cases hx; exact ⟨_, _, _, rfl⟩
  | _ => exact hk.elim

theorem convW_sound (hT : TabOk P T) (h : St X S pl w m) {s d : Nat} (id : Nat) {x : AV} {a : Value} (hx : RelV S pl w m x a) (hk : convW (T.at s).k (T.at d).k id m x K) : Did X S pl w m ((convert s d a).run P w) K := by
  unfold convW at hk
  split at hk
  · rename_i k1 k2 i n h1 h2
    have e1 := relV_v hx; subst e1
    unfold convert
    simp only [Sem.run_bind, run_underlying (int_under hT h1), run_underlying (int_under hT h2), Result.andThen_ok]
    exact Did.lit h rfl hk
  · rename_i i h1 h2
    have e1 := relV_v hx; subst e1
    unfold convert
    simp only [Sem.run_bind, run_underlying (str_under hT h1), run_underlying (str_under hT h2), Result.andThen_ok]
    exact Did.lit h rfl hk
  · rename_i st h1 h2
    have e1 := relV_v hx; subst e1
    obtain ⟨e, hu, hsz, heb, hkn, hpos, hb1, hb2, ⟨hz, hzl⟩, hu8⟩ := sl_under hT h2
    rw [run_bytes_of_string w s d e st (str_under hT h1) hu (hu8 rfl)]
    obtain ⟨hst, hkp⟩ := h.draw (w.drawn + 1)
    refine Did.after hkp ?_
    generalize hc : grownCap w st.size 0 e = c
    have hcle : st.size ≤ c := by rw [← hc]; unfold grownCap; simp [Question.cut]
    have hrow : bytesRow st c = (st.data.toList.map (fun (b : UInt8) => Value.int .u8 (b.toNat : Int)) ++ List.replicate (c - st.size) (Value.int .u8 0)).toArray := by
      unfold bytesRow; apply Array.ext'; simp
    rw [hrow]
    refine new_arr hst id 1 (encB st.data.toList) none true _ _ e _ st.size c (by omega) (fun i e he => ?_) (by simp [encB]) (by simp; have : st.data.size = st.size := rfl; omega) (by simp) (.inr (by simp)) (by simp [encB]) (by intro q; cases q) (fun i j e x he hx => ?_) hk
    · simp only [encB, List.getElem?_map] at he
      cases hs : st.data.toList[i]? with
      | none => rw [hs] at he; simp at he
      | some c => rw [hs] at he; simp at he; subst he; rfl
    · simp only [encB, List.getElem?_map] at he
      cases hs : st.data.toList[i]? with
      | none => rw [hs] at he; simp at he
      | some c =>
        rw [hs] at he; simp at he; subst he
        cases j with
        | succ j => simp at hx
        | zero =>
          simp at hx; subst hx
          have : (st.data.toList.map fun b => Value.int .u8 b.toNat).getD (i * 1 + 0) undef = .int .u8 c.toNat := by
            rw [Nat.mul_one, Nat.add_zero]; simp only [List.getD, List.getElem?_map, hs]; rfl
          rw [this]; exact .v _ rfl
  · rename_i h1 h2
    obtain ⟨e, hu, hsz, heb, hkn, hpos, hb1, hb2, _, hu8⟩ := sl_under hT h1
    obtain ⟨hk2, ad, n, cap, rfl⟩ := view_src hx hk
    clear hk
    obtain ⟨ns, us, hk, hrow, hlen, hsrc⟩ := srcW_sound (P := P) h (by omega) hx hk2
    have hn : ns.length = n := by simpa [Builtin.lenOf] using hlen.symm
    have hsrc' := hsrc ns.length (Nat.le_refl _) w.drawn
    rw [List.take_of_length_le (by rw [hrow.1]; exact Nat.le_refl _)] at hsrc'
    split at hk
    · rename_i b hb
      obtain ⟨hbl, hbg⟩ := bytesOf_get ns b hb
      rw [run_convert_bytes_string w s d e ad n cap hu (hu8 rfl) (str_under hT h2)]
      have hints : ∃ l : List Int, us = l.map (Value.int .u8) ∧ l.map (fun n => UInt8.ofNat n.toNat) = b := by
        refine ⟨us.map fun u => match u with | .int _ n => n | _ => 0, ?_, ?_⟩
        · apply List.ext_getElem?
          intro i
          simp only [List.getElem?_map]
          cases hi : us[i]? with
          | none => rfl
          | some u =>
            have hil : i < us.length := (List.getElem?_eq_some_iff.1 hi).1
            have hbil : i < b.length := by rw [hbl]; have := hrow.1; omega
            have hbi : b[i]? = some b[i] := List.getElem?_eq_getElem hbil
            obtain ⟨q, hq, _⟩ := hbg i _ hbi
            have hr := hrow.2.2 i 0 _ _ hq rfl
            rw [Nat.mul_one, Nat.add_zero, show us.getD i undef = u by simp [List.getD, hi]] at hr
            cases hr; rfl
        · apply List.ext_getElem?
          intro i
          simp only [List.getElem?_map]
          cases hi : us[i]? with
          | none =>
            have : us.length ≤ i := List.getElem?_eq_none_iff.1 hi
            rw [List.getElem?_eq_none (by rw [hbl]; have := hrow.1; omega)]; rfl
          | some u =>
            have hil : i < us.length := (List.getElem?_eq_some_iff.1 hi).1
            have hbil : i < b.length := by rw [hbl]; have := hrow.1; omega
            have hbi : b[i]? = some b[i] := List.getElem?_eq_getElem hbil
            obtain ⟨q, hq, hqc⟩ := hbg i _ hbi
            have hr := hrow.2.2 i 0 _ _ hq rfl
            rw [Nat.mul_one, Nat.add_zero, show us.getD i undef = u by simp [List.getD, hi]] at hr
            cases hr
            rw [hbi, hqc]; rfl
      obtain ⟨l, rfl, rfl⟩ := hints
      cases ad with
      | none =>
        have hl0 : l = [] := by
          have h0 : (Result.ok (#[] : Array Value) w : Result (Array Value)) = .ok (l.map (Value.int .u8)).toArray w := hsrc'
          injection h0 with h0 _
          have := congrArg Array.size h0
          cases l with
          | nil => rfl
          | cons _ _ => simp at this
        subst hl0
        exact Did.lit h rfl hk
      | some ad =>
        simp only [Builtin.firstCells, Nat.mul_one, hn] at hsrc'
        rw [run_bytesToString w ad n cap l hsrc', fold_push]
        refine Did.lit h rfl ?_
        have : (ByteArray.empty.data ++ (l.map fun n => UInt8.ofNat n.toNat).toArray) = (l.map fun n => UInt8.ofNat n.toNat).toArray := by
          rw [show ByteArray.empty.data = #[] from rfl]; simp
        rw [this]; exact hk
    · exact hk.elim
  · exact hk.elim
end
end Go.Proofs.Ythncmjlcmlmnmaa.V
