/- append, copy; strings and bytes. Conditions: none. -/
import Derived.Test.YthncmjlcmlmnmaaCR4
import Derived.Laws.BytesString
namespace Go.Proofs.Ythncmjlcmlmnmaa.V
open Go Go.RowKit
section
variable {P : Program} {T : Tab} {X : Ctx} {S : Area} {pl : Place} {w : World} {m : Mem} {K : KK}

theorem add_none (b o k : Nat) : (⟨b, o, none⟩ : Addr).add k = ⟨b, o + k, none⟩ := by unfold Addr.add; split <;> simp_all

/-- Elements in a row of values. -/
def RowV (S : Area) (w : World) (sz : Nat) (es : List (List CV)) (us : List Value) : Prop :=
  us.length = es.length * sz ∧ (∀ (i : Nat) e, es[i]? = some e → e.length = sz) ∧ ∀ (i j : Nat) e x, es[i]? = some e → e[j]? = some x → RelC S w x (us.getD (i * sz + j) undef)

theorem lt_mul {i n sz j : Nat} (hi : i < n) (hj : j < sz) : i * sz + j < n * sz := by
  have : (i + 1) * sz ≤ n * sz := Nat.mul_le_mul_right sz hi
  rw [Nat.add_mul, Nat.one_mul] at this; omega

theorem RowV.solid {sz : Nat} {es : List (List CV)} {us : List Value} (h : RowV S w sz es us) (hsz : 0 < sz) : ∀ v ∈ us, v.oneCell' = true := by
  intro v hv
  obtain ⟨k, hk⟩ := List.mem_iff_getElem?.1 hv
  have hkl : k < es.length * sz := by rw [← h.1]; exact (List.getElem?_eq_some_iff.1 hk).1
  have hi : k / sz < es.length := (Nat.div_lt_iff_lt_mul hsz).2 hkl
  have hj : k % sz < sz := Nat.mod_lt _ hsz
  have he : es[k / sz]? = some es[k / sz] := List.getElem?_eq_getElem hi
  have hel := h.2.1 _ _ he
  have hx : es[k / sz][k % sz]? = some es[k / sz][k % sz] := List.getElem?_eq_getElem (by omega)
  have := (h.2.2 _ _ _ _ he hx).solid
  rw [show k / sz * sz + k % sz = k by rw [Nat.mul_comm]; exact Nat.div_add_mod k sz] at this
  simpa [List.getD, hk] using this

theorem RowV.take {sz : Nat} {es : List (List CV)} {us : List Value} (h : RowV S w sz es us) (n : Nat) : RowV S w sz (es.take n) (us.take (n * sz)) := by
  refine ⟨?_, fun i e he => ?_, fun i j e x he hx => ?_⟩
  · rw [List.length_take, List.length_take, h.1]
    rcases Nat.le_total n es.length with q | q
    · rw [Nat.min_eq_left q, Nat.min_eq_left (Nat.mul_le_mul_right sz q)]
    · rw [Nat.min_eq_right q, Nat.min_eq_right (Nat.mul_le_mul_right sz q)]
  · have hi : i < n := by have := (List.getElem?_eq_some_iff.1 he).1; rw [List.length_take] at this; omega
    rw [List.getElem?_take_of_lt hi] at he; exact h.2.1 i e he
  · have hi : i < n := by have := (List.getElem?_eq_some_iff.1 he).1; rw [List.length_take] at this; omega
    rw [List.getElem?_take_of_lt hi] at he
    have hj : j < sz := by have := (List.getElem?_eq_some_iff.1 hx).1; rw [h.2.1 i e he] at this; exact this
    have := h.2.2 i j e x he hx
    have hlt := lt_mul hi hj
    simpa [List.getD, List.getElem?_take_of_lt hlt] using this

theorem RowV.append {sz : Nat} {es ns : List (List CV)} {us vs : List Value} (h : RowV S w sz es us) (k : RowV S w sz ns vs) : RowV S w sz (es ++ ns) (us ++ vs) := by
  have hget : ∀ (i : Nat) e, (es ++ ns)[i]? = some e → (i < es.length ∧ es[i]? = some e) ∨ (es.length ≤ i ∧ ns[i - es.length]? = some e) := fun i e he => by
    by_cases hi : i < es.length
    · rw [List.getElem?_append_left hi] at he; exact .inl ⟨hi, he⟩
    · rw [List.getElem?_append_right (by omega)] at he; exact .inr ⟨by omega, he⟩
  refine ⟨by rw [List.length_append, List.length_append, h.1, k.1, Nat.add_mul], fun i e he => ?_, fun i j e x he hx => ?_⟩
  · rcases hget i e he with ⟨_, q⟩ | ⟨_, q⟩
    · exact h.2.1 i e q
    · exact k.2.1 _ e q
  · rcases hget i e he with ⟨hi, q⟩ | ⟨hi, q⟩
    · have hj : j < sz := by have := (List.getElem?_eq_some_iff.1 hx).1; rw [h.2.1 i e q] at this; exact this
      have := h.2.2 i j e x q hx
      have hlt := lt_mul hi hj
      rw [← h.1] at hlt
      simpa [List.getD, List.getElem?_append_left hlt] using this
    · have := k.2.2 _ j e x q hx
      have hge : us.length ≤ i * sz + j := by rw [h.1]; have := Nat.mul_le_mul_right sz hi; omega
      have hsub : i * sz + j - us.length = (i - es.length) * sz + j := by
        rw [h.1, Nat.sub_mul]; have := Nat.mul_le_mul_right sz hi; omega
      simpa [List.getD, List.getElem?_append_right hge, hsub] using this

/-- what is appended, or copied: its elements, and how the model reads them -/
theorem srcW_sound (h : St X S pl w m) {esz : Nat} (hpos : 0 < esz) {x : AV} {a : Value} (hx : RelV S pl w m x a) {K : List (List CV) → Prop} (hk : srcW esz m x K) :
    ∃ ns us, K ns ∧ RowV S w esz ns us ∧ (Builtin.lenOf a).run P w = .ok ns.length w ∧ (∀ n, n ≤ ns.length → ∀ dr, (Builtin.firstCells esz n a).run P { w with drawn := dr } = .ok (us.take (n * esz)).toArray { w with drawn := dr }) := by
  have load : ∀ (b o : Nat) (f : Nat → Value) (n : Nat), (∀ k, k < n → cellAt w b (o + k) = some (f k)) → ∀ dr, (loadCells ⟨b, o, none⟩ n).run P { w with drawn := dr } = .ok ((List.range n).map f).toArray { w with drawn := dr } := fun b o f n hc dr =>
    run_loadCells { w with drawn := dr } ⟨b, o, none⟩ n f (fun j hj => by rw [add_none]; exact hc j hj)
  have take_range : ∀ (f : Nat → Value) (a b : Nat), a ≤ b → ((List.range b).map f).take a = (List.range a).map f := fun f a b hab => by
    rw [← List.map_take, List.take_range, Nat.min_eq_left hab]
  unfold srcW at hk
  split at hk
  · rename_i s
    obtain ⟨rfl, hk⟩ := hk
    have e1 := relV_v hx; subst e1
    refine ⟨_, s.data.toList.map fun b => .int .u8 b.toNat, hk, ⟨by simp [encB], fun i e he => ?_, fun i j e x he hx => ?_⟩, ?_, fun n hn dr => ?_⟩
    · simp only [encB, List.getElem?_map] at he
      cases hs : s.data.toList[i]? with
      | none => rw [hs] at he; simp at he
      | some c => rw [hs] at he; simp at he; subst he; rfl
    · simp only [encB, List.getElem?_map] at he
      cases hs : s.data.toList[i]? with
      | none => rw [hs] at he; simp at he
      | some c =>
        rw [hs] at he; simp at he; subst he
        cases j with
        | succ j => simp at hx
        | zero =>
          simp at hx; subst hx
          have : (s.data.toList.map fun b => Value.int .u8 b.toNat).getD (i * 1 + 0) undef = .int .u8 c.toNat := by
            rw [Nat.mul_one, Nat.add_zero]; simp only [List.getD, List.getElem?_map, hs]; rfl
          rw [this]; exact .v _ rfl
    · unfold Builtin.lenOf
      simp only [Sem.run_pure, encB, List.length_map]
      congr 1
    · unfold Builtin.firstCells
      simp only [Sem.run_pure]
      congr 1
      apply Array.ext'
      simp only [Array.toList_map, Nat.mul_one]
      rw [← List.map_take]
      congr 1
      have : (s.extract 0 n).data = s.data.extract 0 n := ByteArray.data_extract
      rw [this, Array.toList_extract]
      simp [List.extract]
  · unfold viewS at hk
    split at hk
    · rename_i sz es sp _
      obtain ⟨rfl, hk⟩ := hk
      cases hx with | c _ _ hx =>
      cases hx with | sl _ _ _ ad cap b o f hcap hsp ha hl hS hc hr =>
      have hlA : es.length ≤ (es ++ sp.getD []).length := by rw [List.length_append]; omega
      have hc' : ∀ k, k < es.length * sz → cellAt w b (o + k) = some (f k) := fun k hk => hc k (Nat.lt_of_lt_of_le hk (Nat.mul_le_mul_right sz hlA))
      have hget : ∀ (i : Nat) e, es[i]? = some e → (es ++ sp.getD [])[i]? = some e := fun i e he => by rw [List.getElem?_append_left (List.getElem?_eq_some_iff.1 he).1]; exact he
      refine ⟨es, (List.range (es.length * sz)).map f, hk, ⟨by simp, fun i e he => hl i e (hget i e he), fun i j e x he hx => ?_⟩, rfl, fun n hn dr => ?_⟩
      · have hi := (List.getElem?_eq_some_iff.1 he).1
        have hj : j < sz := by have := (List.getElem?_eq_some_iff.1 hx).1; rw [hl i e (hget i e he)] at this; exact this
        have hlt := lt_mul hi hj
        have := hr i j e x (hget i e he) hx
        simpa [List.getD, List.getElem?_map, List.getElem?_range hlt] using this
      · rw [take_range f _ _ (Nat.mul_le_mul_right sz hn)]
        by_cases hne : es ++ sp.getD [] = []
        · have h0 : es.length = 0 := by rw [hne] at hlA; simpa using hlA
          have hn0 : n = 0 := by omega
          subst hn0
          cases ad with
          | none => simp [Builtin.firstCells]
          | some ad =>
            simp only [Builtin.firstCells, Nat.zero_mul]
            rfl
        · obtain ⟨rfl, _⟩ := ha hne
          simp only [Builtin.firstCells]
          exact load b o f _ (fun k hk => hc' k (Nat.lt_of_lt_of_le hk (Nat.mul_le_mul_right sz hn))) dr
    · rename_i id ver n _
      split at hk
      · rename_i v sz es cap pub hg
        obtain ⟨rfl, rfl, hne, hk⟩ := hk
        cases hx with | t _ _ _ b capn hv hn hx =>
        obtain ⟨sz', es', cap', pub', e, heq, _, hb, hs⟩ := hx _ hg rfl
        injection heq with _ q1 q2 q3 q4; subst q1 q2 q3 q4
        obtain ⟨_, h0, h1, h2, h3, ⟨hl, f, hc, hr⟩, hp⟩ := h.inv.ob id _ hg
        have hrow : RowV S w sz es ((List.range (es.length * sz)).map f) := ⟨by simp, hl, fun i j e x he hx => by
          have hi := (List.getElem?_eq_some_iff.1 he).1
          have hj : j < sz := by have := (List.getElem?_eq_some_iff.1 hx).1; rw [hl i e he] at this; exact this
          have := hr i j e x he hx
          simpa [List.getD, List.getElem?_map, List.getElem?_range (lt_mul hi hj)] using this⟩
        have hlen : (es.take n).length = n := by rw [List.length_take]; omega
        refine ⟨es.take n, _, hk, hrow.take n, by rw [hlen]; rfl, fun k hk' dr => ?_⟩
        rw [hlen] at hk'
        rw [List.take_take, Nat.min_eq_left (Nat.mul_le_mul_right sz hk'), take_range f _ _ (Nat.mul_le_mul_right sz (by omega))]
        simp only [Builtin.firstCells]
        refine load b 0 f _ (fun q hq => ?_) dr
        rw [Nat.zero_add, hb]
        exact hc q (Nat.lt_of_lt_of_le hq (Nat.mul_le_mul_right sz (by omega)))
      · exact hk.elim
    · exact hk.elim

theorem grow_le : ∀ (r n c : Nat), Builtin.growBy n r c ≤ max c (n + (n + 768) / 4) + (if r = 0 then 0 else 0)
  | 0, n, c => by simp [Builtin.growBy]; omega
  | r + 1, n, c => by
    simp only [Builtin.growBy]
    split
    · simp; omega
    · rename_i hc
      have := grow_le r n (c + (c + 768) / 4)
      simp at this ⊢
      omega
theorem nextcap_le (n c : Nat) (h : c < n) : Builtin.nextslicecap n c ≤ 2 * n + 768 := by
  unfold Builtin.nextslicecap
  split
  · omega
  · split
    · omega
    · have := grow_le 4 n c
      simp at this
      omega

/-- append, told: in place, or in a new row -/
theorem run_append {sT xT ty e : TypeId} {esz eb : Nat} (hu : P.underlying sT = some (.slice e)) (hux : ∃ d, P.underlying xT = some d ∧ ∀ k, d ≠ .int k) (hkn : known P e = true) (hsz : P.cellsOf e = esz) (heb : P.bytesOf e = eb) (heb2 : 0 < eb) (heb3 : eb ≤ 2 ^ 30)
    (a : Option Addr) (n cap : Nat) (x : Value) (nn : Nat) (us olds : List Value) (hlen : (Builtin.lenOf x).run P w = .ok nn w) (hsrc : ∀ dr, (Builtin.firstCells esz nn x).run P { w with drawn := dr } = .ok us.toArray { w with drawn := dr }) (hz : ∃ z : Value, z.cells.size = esz ∧ ∀ w' : World, (zeroValue e).run P w' = .ok z w')
    (hold : ∀ dr, (Builtin.firstCells esz n (.slice a n cap)).run P { w with drawn := dr } = .ok olds.toArray { w with drawn := dr }) (hsmall : (n + nn) * eb ≤ 2 ^ 45) :
    (n + nn ≤ cap → (match a with | some ad => (storeCells (ad.add (n * esz)) us).run P w | none => .ok () w) = .ok () (match a with | some ad => w.setCells ad.block (ad.off + n * esz) us | none => w) →
      (Builtin.append_ #[sT, xT] ty #[.slice a n cap, x]).run P w = .ok (.slice a (n + nn) cap) (match a with | some ad => w.setCells ad.block (ad.off + n * esz) us | none => w)) ∧
    (cap < n + nn → ∃ d newCap rest, (n + nn ≤ newCap ∧ newCap < 9223372036854775808) ∧ rest.length = (newCap - (n + nn)) * esz ∧
      (Builtin.append_ #[sT, xT] ty #[.slice a n cap, x]).run P w = .ok (.slice (some ⟨w.heap.size, 0, none⟩) (n + nn) newCap) (({ w with drawn := d } : World).alloc (.cells (olds ++ us ++ rest).toArray e))) := by
  obtain ⟨d, hux, hd⟩ := hux
  obtain ⟨z, hz1, hz2⟩ := hz
  obtain ⟨i, _, hi, _⟩ := known_info hkn
  have hbytes : i.bytes = eb := by rw [← heb]; unfold Program.bytesOf; rw [hi]; rfl
  have g0 : (#[sT, xT] : Array TypeId)[0]? = some sT := rfl
  have g1 : (#[sT, xT] : Array TypeId)[1]? = some xT := rfl
  have g2 : (#[.slice a n cap, x] : Array Value)[0]? = some (.slice a n cap) := rfl
  have g3 : (#[.slice a n cap, x] : Array Value)[1]? = some x := rfl
  refine ⟨fun hle hst => ?_, fun hlt => ?_⟩
  · unfold Builtin.append_
    simp only [g0, g1, g2, g3, Sem.run_bind, run_underlying hu, run_underlying hux, Result.andThen_ok, run_size_of hkn, hsz, Sem.run_pure, Bool.false_eq_true, if_false, hlen, Bool.not_false, if_true]
    rw [if_pos hle]
    have hs0 := hsrc w.drawn
    simp only [Sem.run_bind]
    rw [show (Builtin.firstCells esz nn x).run P w = .ok us.toArray w from hs0]
    simp only [Result.andThen_ok]
    cases a with
    | none => simp only [Sem.run_pure]
    | some ad => simp only [Sem.run_bind] at hst ⊢; rw [hst]; rfl
  · unfold Builtin.append_
    simp only [g0, g1, g2, g3, Sem.run_bind, run_underlying hu, run_underlying hux, Result.andThen_ok, run_size_of hkn, hsz, Sem.run_pure, Bool.false_eq_true, if_false, hlen, Bool.not_false, if_true]
    rw [if_neg (by omega)]
    simp only [Sem.run_bind, run_typeInfo w hi, Result.andThen_ok, hbytes, false_or]
    rw [if_neg (by omega)]
    simp only [Sem.run_bind, run_typeInfo w hi, Result.andThen_ok, hbytes]
    have hcapb : Builtin.nextslicecap (n + nn) cap * eb ≤ 2 ^ 48 := by
      have h1 := Nat.mul_le_mul_right eb (nextcap_le (n + nn) cap hlt)
      rw [Nat.add_mul, Nat.mul_assoc] at h1
      have h2 : 768 * eb ≤ 768 * 2 ^ 30 := Nat.mul_le_mul_left 768 heb3
      omega
    rw [if_neg (by omega)]
    simp only [Sem.run_bind, run_choose, Question.forced, Bool.false_eq_true, if_false, Result.andThen_ok, run_typeInfo _ hi, run_askRoom, hold, hsrc, hz2, newRow, run_newObj, Sem.run_pure]
    generalize hq : (Question.appendCap (n + nn) cap e).cut (w.tape w.drawn (.appendCap (n + nn) cap e)) = q
    refine ⟨w.drawn + 1, q, (Builtin.zeroCells z.cells (q - (n + nn))).toList, ?_, ?_, ?_⟩
    · rw [← hq]; simp only [Question.cut]
      have h5 : n + nn ≤ 2 ^ 45 := Nat.le_trans (Nat.le_mul_of_pos_right _ heb2) hsmall
      have h6 := Nat.mod_lt (w.tape w.drawn (.appendCap (n + nn) cap e)) (show 0 < 2 ^ 63 - (n + nn) by omega)
      omega
    · unfold Builtin.zeroCells; simp [hz1]
    · have : (olds.toArray ++ us.toArray ++ Builtin.zeroCells z.cells (q - (n + nn))) = (olds ++ us ++ (Builtin.zeroCells z.cells (q - (n + nn))).toList).toArray := by apply Array.ext'; simp
      rw [this]; rfl

theorem Did.after {S1 : Area} {pl1 : Place} {w1 : World} {m1 : Mem} (k : Keeps S S1 pl pl1 w w1 m m1) {r : Result Value} (h : Did X S1 pl1 w1 m1 r K) : Did X S pl w m r K := by
  obtain ⟨u, w', S', pl', v, m', e1, e2, e3, e4, e5⟩ := h
  exact ⟨u, w', S', pl', v, m', e1, e2, e3, e4, k.trans e5⟩

theorem del_ins (l : List (Nat × Ob)) (i : Nat) (o : Ob) : delL (insL l i o) i = delL l i := by
  induction l with
  | nil => simp [insL, delL]
  | cons a r ih =>
    obtain ⟨j, p⟩ := a
    simp only [insL]
    by_cases h1 : i = j
    · subst h1; simp [delL]
    · rw [if_neg h1]
      by_cases h2 : i < j
      · rw [if_pos h2]; simp [delL, h1]
      · rw [if_neg h2]; simp [delL, h1, ih]
theorem del_upd (m : Mem) (i : Nat) (o : Ob) : (m.upd i o).del i = m.del i := by
  unfold Mem.upd Mem.del; simp only [del_ins]

theorem appendW_sound (hT : TabOk P T) (h : St X S pl w m) {t t2 ty esz eb : Nat} {ea u8 : Bool} (hs : (T.at t).k = .sl esz ea eb u8) (hs2 : (∃ a b c d, (T.at t2).k = .sl a b c d) ∨ (T.at t2).k = .str) (site : Nat) {s x : AV} {sv xv : Value}
    (hsr : RelV S pl w m s sv) (hx : RelV S pl w m x xv) (hk : appendW site esz eb m s x K) : Did X S pl w m ((Builtin.append_ #[t, t2] ty #[sv, xv]).run P w) K := by
  obtain ⟨e, hu, hsz, heb, hkn, hpos, hb1, hb2, ⟨hz, hzl⟩, _⟩ := sl_under hT hs
  have hux : ∃ d, P.underlying t2 = some d ∧ ∀ k, d ≠ .int k := by
    rcases hs2 with ⟨a, b, c, d, hs2⟩ | hs2
    · obtain ⟨e2, hu2, _⟩ := sl_under hT hs2; exact ⟨_, hu2, by simp⟩
    · exact ⟨_, str_under hT hs2, by simp⟩
  have hzz : ∃ z : Value, z.cells.size = esz ∧ ∀ w' : World, (zeroValue e).run P w' = .ok z w' := by
    obtain ⟨i, d, hi, hd⟩ := known_info hkn
    obtain ⟨v, hrun, h1, _⟩ := zero_of hz hkn S w
    refine ⟨v, by omega, fun w' => ?_⟩
    unfold zeroOk at hz
    rw [hi] at hz
    simp only [Option.bind_some] at hz
    unfold zeroValue at hrun ⊢
    simp only [Sem.run_bind, run_typeInfo _ hi, Result.andThen_ok] at hrun ⊢
    cases hzo : i.zero with
    | none => rw [hzo] at hz; simp at hz
    | some v' =>
      rw [hzo] at hrun
      simp only [Sem.run_pure] at hrun
      injection hrun with hrun; subst hrun; rfl
  unfold appendW at hk
  obtain ⟨ns, us, hk2, hrow, hlen, hsrc⟩ := srcW_sound (P := P) h hpos hx hk
  clear hk
  have hk := hk2
  clear hk2
  have hfull : us.take (ns.length * esz) = us := List.take_of_length_le (by rw [hrow.1]; exact Nat.le_refl _)
  have hsrc' := hsrc ns.length (Nat.le_refl _)
  rw [hfull] at hsrc'
  split at hk
  · rename_i sz es
    obtain ⟨rfl, hsmall, hk⟩ := hk
    obtain ⟨es', olds, rfl, hrow0, _, hsrc0⟩ := srcW_sound (P := P) (K := fun es' => es' = es) h hpos hsr (by simp [srcW, viewS])
    have hold := hsrc0 es'.length (Nat.le_refl _)
    rw [List.take_of_length_le (by rw [hrow0.1]; exact Nat.le_refl _)] at hold
    have hsr' := hsr
    cases hsr with | c _ _ hsr =>
    cases hsr with | sl _ _ _ ad cap b o f hcap hsp ha hl hS hc hr =>
    have hce : cap = es'.length := by simpa using hsp [] rfl
    subst hce
    obtain ⟨r1, r2⟩ := run_append (w := w) (ty := ty) hu hux hkn hsz heb hb2 hb1 ad es'.length es'.length xv ns.length us olds hlen hsrc' hzz hold hsmall
    by_cases hne : ns = []
    · subst hne
      have hus : us = [] := by have := hrow.1; simpa using this
      subst hus
      rw [if_pos rfl] at hk
      clear r2 hr hc hS hl ha
      cases ad with
      | none => rw [r1 (by simp) rfl]; exact Did.same h hk hsr'
      | some ad => rw [r1 (by simp) rfl]; exact Did.same h hk hsr'
    · rw [if_neg hne] at hk
      have hpos2 : 0 < ns.length := List.length_pos_iff.2 hne
      obtain ⟨d, newCap, rest, ⟨h1, hbig⟩, h2, hrun⟩ := r2 (by omega)
      rw [hrun]
      obtain ⟨hst, hkp⟩ := h.draw d
      refine Did.after hkp ?_
      have hrA := hrow0.append hrow
      refine new_arr hst site sz (es' ++ ns) none false (olds ++ us) rest e (0, 0) (es'.length + ns.length) newCap hpos hrA.2.1 hrA.1 ?_ (by simp) (.inl (Nat.le_refl _)) (by simp) (fun _ => hbig) (fun i j e x he hx => RelC.mono (S := S) (S' := S) (w := w) (w' := { w with drawn := d }) (fun _ _ h => h) (fun _ _ _ => rfl) (hrA.2.2 i j e x he hx)) hk
      rw [List.length_append, hrA.1, h2, List.length_append, ← Nat.add_mul]
      congr 1; omega
  · rename_i id ver n
    split at hk
    · rename_i v sz es cap0 pub hg
      obtain ⟨rfl, rfl, rfl, hsmall, hk⟩ := hk
      obtain ⟨es', olds, he', hrow0, _, hsrc0⟩ := srcW_sound (P := P) (K := fun es' => es' = es) h hpos hsr (by simp [srcW, viewS, hg])
      subst he'
      have hold := hsrc0 es'.length (Nat.le_refl _)
      rw [List.take_of_length_le (by rw [hrow0.1]; exact Nat.le_refl _)] at hold
      cases hsr with | t _ _ _ b capn hv hn hsr =>
      obtain ⟨sz', es2, cap', pub', e', heq, _, hb, hsh⟩ := hsr _ hg rfl
      injection heq with _ q1 q2 q3 q4; subst q1 q2 q3 q4
      obtain ⟨r1, r2⟩ := run_append (w := w) (ty := ty) hu hux hkn hsz heb hb2 hb1 (some ⟨b, 0, none⟩) es'.length capn xv ns.length us olds hlen hsrc' hzz hold hsmall
      have hrA := hrow0.append hrow
      by_cases hle : es'.length + ns.length ≤ capn
      · obtain ⟨_, h0, h1, h2, ⟨e3, capn3, hs3, hle3, hcap3⟩, _, _⟩ := h.inv.ob id _ hg
        rw [← hb] at h2 hs3
        have hul : us.length = ns.length * sz := hrow.1
        have hfitn : (es'.length + ns.length) * sz ≤ capn * sz := Nat.mul_le_mul_right sz hle
        rw [Nat.add_mul] at hfitn
        have hcell : ∀ j, j < us.length → (cellAt w b (es'.length * sz + j)).isSome = true := fun j hj => by
          unfold World.shape? at hsh
          unfold cellAt World.cell?
          cases hh : w.heap[b]? with
          | none => rw [hh] at hsh; simp at hsh
          | some ob =>
            rw [hh] at hsh
            cases ob with
            | cells cc e' fr =>
              simp only [Option.some.injEq, Prod.mk.injEq] at hsh
              have : es'.length * sz + j < cc.size := by omega
              simp [Array.getElem?_eq_getElem this]
            | _ => simp at hsh
        have hstore : (storeCells (⟨b, 0, none⟩ : Addr) us (es'.length * sz)).run P w = .ok () (w.setCells b (0 + es'.length * sz) us) :=
          run_storeCells_cells (P := P) b 0 us (es'.length * sz) w (fun j hj => by rw [Nat.zero_add]; exact hcell j hj) (fun j hj => by
            rw [Nat.zero_add]
            cases hz : w.frozen? ⟨b, es'.length * sz + j, none⟩ with
            | false => rfl
            | true => have := h2.1 _ hz _ _ hsh; omega) (hrow.solid hpos)
        have hstore' : (storeCells ((⟨b, 0, none⟩ : Addr).add (es'.length * sz)) us).run P w = .ok () (w.setCells b (es'.length * sz) us) := by
          rw [add_none, Nat.zero_add]
          have := run_storeCells_cells (P := P) b (es'.length * sz) us 0 w (fun j hj => by simpa using hcell j hj) (fun j hj => by
            cases hz : w.frozen? ⟨b, es'.length * sz + 0 + j, none⟩ with
            | false => rfl
            | true => have := h2.1 _ hz _ _ hsh; omega) (hrow.solid hpos)
          simpa using this
        rw [r1 hle (by simp only [Nat.zero_add]; exact hstore')]
        simp only [Nat.zero_add]
        obtain ⟨S2, hst2, hkp2⟩ := h.setArr hg (es'.length * sz) us (es' ++ ns) none (capn := capn) (by rw [← hb]; exact hsh) (by omega) (fun _ => Nat.le_refl _) (by rw [List.length_append]; omega) (by rw [List.length_append]; exact hle) (by simp)
          hrA.2.1 (fun k hk => by rw [List.length_append, Nat.add_mul] at hk; omega) (fun f hf i j e x he hx => by
            have hj : j < sz := by have := (List.getElem?_eq_some_iff.1 hx).1; rw [hrA.2.1 i e he] at this; exact this
            by_cases hi : i < es'.length
            · rw [List.getElem?_append_left hi] at he
              have := lt_mul hi hj
              rw [if_neg (by omega)]; exact hf i j e x he hx
            · rw [List.getElem?_append_right (by omega)] at he
              have hge := Nat.mul_le_mul_right sz (Nat.not_lt.1 hi)
              have hni := (List.getElem?_eq_some_iff.1 he).1
              have hlt := lt_mul hni hj
              have hsub : (i - es'.length) * sz + j = i * sz + j - es'.length * sz := by rw [Nat.sub_mul]; omega
              rw [if_pos ⟨by omega, by omega⟩, ← hsub]
              exact hrow.2.2 _ j e x he hx)
        rw [← hb] at hst2 hkp2
        have hg2 : (m.upd id (.arr v sz (es' ++ ns) none pub)).get id = some (.arr v sz (es' ++ ns) none pub) := by rw [get_upd, if_pos rfl]
        obtain ⟨hst3, hkp3⟩ := hst2.rename hg2 id
        rw [del_upd] at hst3 hkp3
        refine ⟨_, _, S2, _, _, _, rfl, hk, ?_, hst3, hkp2.trans hkp3⟩
        exact .t id _ _ b capn (by rw [clk_new]; exact Nat.lt_succ_self _) hle (fun ob hob _ => by
          rw [get_new, if_pos rfl] at hob; injection hob with hob; subst hob
          exact ⟨_, _, _, _, e', rfl, by simp, by simp [plAt, hb], by rw [shape_setCells]; exact hsh⟩)
      · obtain ⟨d, newCap, rest, ⟨h1, hbig⟩, h2, hrun⟩ := r2 (by omega)
        rw [hrun]
        obtain ⟨hst, hkp⟩ := h.draw d
        obtain ⟨hst1, hkp1⟩ := hst.del id
        refine Did.after (hkp.trans hkp1) ?_
        refine new_arr hst1 id sz (es' ++ ns) none pub (olds ++ us) rest e (0, 0) (es'.length + ns.length) newCap hpos hrA.2.1 hrA.1 ?_ (by simp) (.inl (Nat.le_refl _)) (by simp) (fun _ => hbig) (fun i j e x he hx => RelC.mono (S := S) (S' := S) (w := w) (w' := { w with drawn := d }) (fun _ _ h => h) (fun _ _ _ => rfl) (hrA.2.2 i j e x he hx)) hk
        rw [List.length_append, hrA.1, h2, List.length_append, ← Nat.add_mul]
        congr 1; omega
    · exact hk.elim
  · exact hk.elim

theorem copyW_sound (hT : TabOk P T) (h : St X S pl w m) {t t2 ty esz eb : Nat} {ea u8 : Bool} (hs : (T.at t).k = .sl esz ea eb u8) {d x : AV} {dv xv : Value}
    (hd : RelV S pl w m d dv) (hx : RelV S pl w m x xv) (hk : copyW esz m d x K) : Did X S pl w m ((Builtin.copy_ #[t, t2] ty #[dv, xv]).run P w) K := by
  obtain ⟨e, hu, hsz, heb, hkn, hpos, hb1, hb2, ⟨hz, hzl⟩, _⟩ := sl_under hT hs
  unfold copyW at hk
  obtain ⟨ns, us, hk2, hrow, hlen, hsrc⟩ := srcW_sound (P := P) h hpos hx hk
  clear hk
  have hk := hk2
  clear hk2
  split at hk
  · rename_i id ver n
    split at hk
    · rename_i v sz es cap hg
      obtain ⟨rfl, rfl, hne, hk⟩ := hk
      cases hd with | t _ _ _ b capn hv hn hd =>
      obtain ⟨sz', es2, cap', pub', e', heq, _, hb, hsh⟩ := hd _ hg rfl
      injection heq with _ q1 q2 q3 q4; subst q1 q2 q3 q4
      obtain ⟨_, h0, h1, h2, ⟨e3, capn3, hs3, hle3, hcap3⟩, ⟨hl3, _⟩, _⟩ := h.inv.ob id _ hg
      rw [← hb] at h2 hs3
      have hcc : capn3 = capn := by
        rw [hsh] at hs3; injection hs3 with hs3; injection hs3 with _ hs3
        exact (Nat.eq_of_mul_eq_mul_right h1 hs3).symm
      subst hcc
      generalize hkk : min ns.length n = k at hk
      have hk1 : k ≤ ns.length := by omega
      have hk2 : k ≤ es.length := by omega
      have hsrc' := hsrc k hk1 w.drawn
      have hkm : k * sz ≤ capn3 * sz := Nat.mul_le_mul_right sz (by omega)
      have hrt := hrow.take k
      have hul : (us.take (k * sz)).length = k * sz := by rw [hrt.1, List.length_take, Nat.min_eq_left hk1]
      have hcell : ∀ j, j < k * sz → (cellAt w b j).isSome = true := fun j hj => by
        unfold World.shape? at hsh
        unfold cellAt World.cell?
        cases hh : w.heap[b]? with
        | none => rw [hh] at hsh; simp at hsh
        | some ob =>
          rw [hh] at hsh
          cases ob with
          | cells cc e' fr =>
            simp only [Option.some.injEq, Prod.mk.injEq] at hsh
            have : j < cc.size := by omega
            simp [Array.getElem?_eq_getElem this]
          | _ => simp at hsh
      have hstore : (storeCells (⟨b, 0, none⟩ : Addr) (us.take (k * sz))).run P w = .ok () (w.setCells b 0 (us.take (k * sz))) := by
        have := run_storeCells_cells (P := P) b 0 (us.take (k * sz)) 0 w (fun j hj => by simpa using hcell j (by omega)) (fun j hj => by
          cases hz : w.frozen? ⟨b, 0 + 0 + j, none⟩ with
          | false => rfl
          | true => have := h2.1 _ hz _ _ hsh; omega) (hrt.solid hpos)
        simpa using this
      have hrun : (Builtin.copy_ #[t, t2] ty #[.slice (some ⟨b, 0, none⟩) n capn3, xv]).run P w = .ok (goInt k) (w.setCells b 0 (us.take (k * sz))) := by
        unfold Builtin.copy_
        have g0 : (#[t, t2] : Array TypeId)[0]? = some t := rfl
        have g2 : (#[.slice (some ⟨b, 0, none⟩) n capn3, xv] : Array Value)[0]? = some (.slice (some ⟨b, 0, none⟩) n capn3) := rfl
        have g3 : (#[.slice (some ⟨b, 0, none⟩) n capn3, xv] : Array Value)[1]? = some xv := rfl
        simp only [g0, g2, g3, Sem.run_bind, run_underlying hu, Result.andThen_ok, hlen, run_size_of hkn, hsz]
        rw [show Nat.min ns.length n = k from hkk, show (Builtin.firstCells sz k xv).run P w = .ok (us.take (k * sz)).toArray w from hsrc']
        simp only [Result.andThen_ok, hstore, Sem.run_pure]
      rw [hrun]
      obtain ⟨S2, hst2, hkp2⟩ := h.setArr hg 0 (us.take (k * sz)) (ns.take k ++ es.drop k) cap (capn := capn3) (by rw [← hb]; exact hsh) (by omega) (by simp) (by simp; omega) (by simp; omega) hcap3
        (fun i e he => by
          by_cases hi : i < k
          · rw [List.getElem?_append_left (by simp; omega)] at he; exact hrt.2.1 i e he
          · rw [List.getElem?_append_right (by simp; omega), List.getElem?_drop] at he; exact hl3 _ e he)
        (fun q hq => .inl (by
          have : (ns.take k ++ es.drop k).length = es.length := by simp; omega
          rwa [this] at hq)) (fun f hf i j e x he hx => by
          have hki : (ns.take k).length = k := by simp; omega
          by_cases hi : i < k
          · rw [List.getElem?_append_left (by omega)] at he
            have hj : j < sz := by have := (List.getElem?_eq_some_iff.1 hx).1; rw [hrt.2.1 i e he] at this; exact this
            have := lt_mul hi hj
            rw [if_pos ⟨by omega, by omega⟩, Nat.sub_zero]; exact hrt.2.2 i j e x he hx
          · rw [List.getElem?_append_right (by omega), List.getElem?_drop, hki, show k + (i - k) = i by omega] at he
            have := Nat.mul_le_mul_right sz (Nat.not_lt.1 hi)
            rw [if_neg (by omega)]; exact hf i j e x he hx)
      rw [← hb] at hst2 hkp2
      exact ⟨_, _, S2, pl, _, _, rfl, hk, .c _ _ (.v _ rfl), hst2, hkp2⟩
    · exact hk.elim
  · exact hk.elim

theorem bytesOf_get : ∀ (es : List (List CV)) (b : List UInt8), bytesOf es = some b → b.length = es.length ∧ ∀ (i : Nat) c, b[i]? = some c → ∃ n, es[i]? = some [.v (.int .u8 n)] ∧ c = UInt8.ofNat n.toNat
  | [], b, h => by simp [bytesOf] at h; subst h; exact ⟨rfl, fun i c h => by simp at h⟩
  | e :: es, b, h => by
    unfold bytesOf at h
    split at h
    · simp at *
    · rename_i n r heq
      injection heq with h1 h2; subst h1 h2
      cases hb : bytesOf es with
      | none => rw [hb] at h; simp at h
      | some b' =>
        rw [hb] at h; simp at h; subst h
        obtain ⟨h1, h2⟩ := bytesOf_get es b' hb
        refine ⟨by simp [h1], fun i c hc => ?_⟩
        cases i with
        | zero => simp at hc; exact ⟨n, rfl, hc.symm⟩
        | succ i => exact h2 i c (by simpa using hc)
    · simp at h

theorem fold_push : ∀ (l : List Int) (r : ByteArray), l.foldl (fun (r : ByteArray) n => r.push (UInt8.ofNat n.toNat)) r = ⟨r.data ++ (l.map fun n => UInt8.ofNat n.toNat).toArray⟩
  | [], r => by simp
  | n :: l, r => by
    rw [List.foldl_cons, fold_push l]
    congr 1
    apply Array.ext'
    simp [ByteArray.push]

theorem view_src {esz : Nat} {y : AV} {a : Value} {F : List (List CV) → Prop} (hx : RelV S pl w m y a) (hk : viewS esz m y F) : srcW esz m y F ∧ ∃ ad n cap, a = .slice ad n cap := by
  cases y with
  | c x =>
    cases x with
    | sl sz es sp =>
      refine ⟨hk, ?_⟩
      cases hx with | c _ _ hx => cases hx; exact ⟨_, _, _, rfl⟩
    | _ => exact hk.elim
  | t id ver n => refine ⟨hk, ?_⟩; cases hx; exact ⟨_, _, _, rfl⟩
  | _ => exact hk.elim

theorem convW_sound (hT : TabOk P T) (h : St X S pl w m) {s d : Nat} (id : Nat) {x : AV} {a : Value} (hx : RelV S pl w m x a) (hk : convW (T.at s).k (T.at d).k id m x K) : Did X S pl w m ((convert s d a).run P w) K := by
  unfold convW at hk
  split at hk
  · rename_i k1 k2 i n h1 h2
    have e1 := relV_v hx; subst e1
    unfold convert
    simp only [Sem.run_bind, run_underlying (int_under hT h1), run_underlying (int_under hT h2), Result.andThen_ok]
    exact Did.lit h rfl hk
  · rename_i i h1 h2
    have e1 := relV_v hx; subst e1
    unfold convert
    simp only [Sem.run_bind, run_underlying (str_under hT h1), run_underlying (str_under hT h2), Result.andThen_ok]
    exact Did.lit h rfl hk
  · rename_i st h1 h2
    have e1 := relV_v hx; subst e1
    obtain ⟨e, hu, hsz, heb, hkn, hpos, hb1, hb2, ⟨hz, hzl⟩, hu8⟩ := sl_under hT h2
    rw [run_bytes_of_string w s d e st (str_under hT h1) hu (hu8 rfl)]
    obtain ⟨hst, hkp⟩ := h.draw (w.drawn + 1)
    refine Did.after hkp ?_
    generalize hc : grownCap w st.size 0 e = c
    have hcle : st.size ≤ c := by rw [← hc]; unfold grownCap; simp [Question.cut]
    have hrow : bytesRow st c = (st.data.toList.map (fun (b : UInt8) => Value.int .u8 (b.toNat : Int)) ++ List.replicate (c - st.size) (Value.int .u8 0)).toArray := by
      unfold bytesRow; apply Array.ext'; simp
    rw [hrow]
    refine new_arr hst id 1 (encB st.data.toList) none true _ _ e _ st.size c (by omega) (fun i e he => ?_) (by simp [encB]) (by simp; have : st.data.size = st.size := rfl; omega) (by simp) (.inr (by simp)) (by simp [encB]) (by intro q; cases q) (fun i j e x he hx => ?_) hk
    · simp only [encB, List.getElem?_map] at he
      cases hs : st.data.toList[i]? with
      | none => rw [hs] at he; simp at he
      | some c => rw [hs] at he; simp at he; subst he; rfl
    · simp only [encB, List.getElem?_map] at he
      cases hs : st.data.toList[i]? with
      | none => rw [hs] at he; simp at he
      | some c =>
        rw [hs] at he; simp at he; subst he
        cases j with
        | succ j => simp at hx
        | zero =>
          simp at hx; subst hx
          have : (st.data.toList.map fun b => Value.int .u8 b.toNat).getD (i * 1 + 0) undef = .int .u8 c.toNat := by
            rw [Nat.mul_one, Nat.add_zero]; simp only [List.getD, List.getElem?_map, hs]; rfl
          rw [this]; exact .v _ rfl
  · rename_i h1 h2
    obtain ⟨e, hu, hsz, heb, hkn, hpos, hb1, hb2, _, hu8⟩ := sl_under hT h1
    obtain ⟨hk2, ad, n, cap, rfl⟩ := view_src hx hk
    clear hk
    obtain ⟨ns, us, hk, hrow, hlen, hsrc⟩ := srcW_sound (P := P) h (by omega) hx hk2
    have hn : ns.length = n := by simpa [Builtin.lenOf] using hlen.symm
    have hsrc' := hsrc ns.length (Nat.le_refl _) w.drawn
    rw [List.take_of_length_le (by rw [hrow.1]; exact Nat.le_refl _)] at hsrc'
    split at hk
    · rename_i b hb
      obtain ⟨hbl, hbg⟩ := bytesOf_get ns b hb
      rw [run_convert_bytes_string w s d e ad n cap hu (hu8 rfl) (str_under hT h2)]
      have hints : ∃ l : List Int, us = l.map (Value.int .u8) ∧ l.map (fun n => UInt8.ofNat n.toNat) = b := by
        refine ⟨us.map fun u => match u with | .int _ n => n | _ => 0, ?_, ?_⟩
        · apply List.ext_getElem?
          intro i
          simp only [List.getElem?_map]
          cases hi : us[i]? with
          | none => rfl
          | some u =>
            have hil : i < us.length := (List.getElem?_eq_some_iff.1 hi).1
            have hbil : i < b.length := by rw [hbl]; have := hrow.1; omega
            have hbi : b[i]? = some b[i] := List.getElem?_eq_getElem hbil
            obtain ⟨q, hq, _⟩ := hbg i _ hbi
            have hr := hrow.2.2 i 0 _ _ hq rfl
            rw [Nat.mul_one, Nat.add_zero, show us.getD i undef = u by simp [List.getD, hi]] at hr
            cases hr; rfl
        · apply List.ext_getElem?
          intro i
          simp only [List.getElem?_map]
          cases hi : us[i]? with
          | none =>
            have : us.length ≤ i := List.getElem?_eq_none_iff.1 hi
            rw [List.getElem?_eq_none (by rw [hbl]; have := hrow.1; omega)]; rfl
          | some u =>
            have hil : i < us.length := (List.getElem?_eq_some_iff.1 hi).1
            have hbil : i < b.length := by rw [hbl]; have := hrow.1; omega
            have hbi : b[i]? = some b[i] := List.getElem?_eq_getElem hbil
            obtain ⟨q, hq, hqc⟩ := hbg i _ hbi
            have hr := hrow.2.2 i 0 _ _ hq rfl
            rw [Nat.mul_one, Nat.add_zero, show us.getD i undef = u by simp [List.getD, hi]] at hr
            cases hr
            rw [hbi, hqc]; rfl
      obtain ⟨l, rfl, rfl⟩ := hints
      cases ad with
      | none =>
        have hl0 : l = [] := by
          have h0 : (Result.ok (#[] : Array Value) w : Result (Array Value)) = .ok (l.map (Value.int .u8)).toArray w := hsrc'
          injection h0 with h0 _
          have := congrArg Array.size h0
          cases l with
          | nil => rfl
          | cons _ _ => simp at this
        subst hl0
        exact Did.lit h rfl hk
      | some ad =>
        simp only [Builtin.firstCells, Nat.mul_one, hn] at hsrc'
        rw [run_bytesToString w ad n cap l hsrc', fold_push]
        refine Did.lit h rfl ?_
        have : (ByteArray.empty.data ++ (l.map fun n => UInt8.ofNat n.toNat).toArray) = (l.map fun n => UInt8.ofNat n.toNat).toArray := by
          rw [show ByteArray.empty.data = #[] from rfl]; simp
        rw [this]; exact hk
    · exact hk.elim
  · exact hk.elim
end
end Go.Proofs.Ythncmjlcmlmnmaa.V

namespace Go.Proofs.Ythncmjlcmlmnmaa.V
open Go Go.RowKit

def ArrOk (S : Area) (w : World) (b sz : Nat) (es : List (List CV)) (cap : Option Nat) (pub : Bool) (n capn : Nat) : Prop :=
  0 < sz ∧ ThawA w b pub sz ∧ (∃ e, w.shape? b = some (e, capn * sz)) ∧ es.length ≤ capn ∧ (∀ c, cap = some c → capn = c) ∧ RowE S w b sz es ∧ (pub = true → ∀ o, o < es.length * sz → S b o) ∧ n ≤ es.length

mutual
/-- A value of the model, read as an owned value; the cells that it alone may write. -/
inductive Own (S : Area) (w : World) : Area → OV → Value → Prop
  | c (x : CV) (u : Value) (h : RelC S w x u) : Own S w (fun _ _ => False) (.c x) u
  | arr (sz : Nat) (es : List (List CV)) (cap : Option Nat) (pub : Bool) (n b capn : Nat) (h : ArrOk S w b sz es cap pub n capn) :
      Own S w (fun b' o => b' = b ∧ (pub = true → es.length * sz ≤ o)) (.arr sz es cap pub n) (.slice (some ⟨b, 0, none⟩) n capn)
  | ptr (cs : List OV) (us : List Value) (b o : Nat) (F : Area) (h : OwnL S w F cs us) (hb : b < w.heap.size) (ht : Thawed w b)
      (hc : ∀ (j : Nat) u, us[j]? = some u → cellAt w b (o + j) = some u) (hd : ∀ b' o', F b' o' → ¬ (b' = b ∧ o ≤ o' ∧ o' < o + us.length)) :
      Own S w (fun b' o' => F b' o' ∨ b' = b ∧ o ≤ o' ∧ o' < o + us.length) (.ptr cs) (.pointer (some ⟨b, o, none⟩))
  | agg (cs : List OV) (us : List Value) (F : Area) (h : OwnL S w F cs us) : Own S w F (.agg cs) (.agg us.toArray)
  | tup (cs : List OV) (us : List Value) (F : Area) (h : OwnL S w F cs us) : Own S w F (.tup cs) (.tuple us.toArray)
inductive OwnL (S : Area) (w : World) : Area → List OV → List Value → Prop
  | nil : OwnL S w (fun _ _ => False) [] []
  | cons (o : OV) (u : Value) (os : List OV) (us : List Value) (F1 F2 : Area) (h1 : Own S w F1 o u) (h2 : OwnL S w F2 os us) (hd : ∀ b o, F1 b o → ¬ F2 b o) :
      OwnL S w (fun b o => F1 b o ∨ F2 b o) (o :: os) (u :: us)
end

theorem OwnL.length {S : Area} {w : World} : ∀ {os : List OV} {us : List Value} {F : Area}, OwnL S w F os us → us.length = os.length
  | [], _, _, h => by cases h; rfl
  | _ :: os, _, _, h => by cases h with | cons _ _ _ _ _ _ _ h2 _ => simp [h2.length]

section keep
variable {S S' : Area} {w w' : World}
/-- Kept, where nothing of its own is written. -/
structure Still (S S' : Area) (w w' : World) (F : Area) : Prop where
  sub : ∀ b o, S b o → S' b o
  cell : ∀ b o, S b o → cellAt w' b o = cellAt w b o
  own : ∀ b o, F b o → cellAt w' b o = cellAt w b o
  size : w.heap.size ≤ w'.heap.size
  shape : ∀ b, b < w.heap.size → w'.shape? b = w.shape? b
  frz : ∀ b o, b < w.heap.size → w'.frozen? ⟨b, o, none⟩ = w.frozen? ⟨b, o, none⟩
theorem Still.of {F F' : Area} (h : Still S S' w w' F) (hF : ∀ b o, F' b o → F b o) : Still S S' w w' F' := ⟨h.sub, h.cell, fun b o q => h.own b o (hF b o q), h.size, h.shape, h.frz⟩
theorem Still.thaw {F : Area} (h : Still S S' w w' F) {b : Nat} (hb : b < w.heap.size) (ht : Thawed w b) : Thawed w' b :=
  fun o hz e s hs => ht o (by rw [← h.frz b o hb]; exact hz) e s (by rw [← h.shape b hb]; exact hs)
theorem ArrOk.keep {b sz : Nat} {es : List (List CV)} {cap : Option Nat} {pub : Bool} {n capn : Nat} (hs : Still S S' w w' (fun b' o => b' = b ∧ (pub = true → es.length * sz ≤ o))) (h : ArrOk S w b sz es cap pub n capn) : ArrOk S' w' b sz es cap pub n capn := by
  obtain ⟨h1, h2, ⟨e, h3⟩, h4, h5, ⟨hl, f, hc, hr⟩, h7, h8⟩ := h
  have hb := shape_lt h3
  refine ⟨h1, ⟨hs.thaw hb h2.1, by rw [hs.shape b hb]; exact h2.2⟩, ⟨e, by rw [hs.shape b hb]; exact h3⟩, h4, h5, ⟨hl, f, fun k hk => ?_, fun i j e x he hx => (hr i j e x he hx).mono hs.sub hs.cell⟩, fun hp o ho => hs.sub _ _ (h7 hp o ho), h8⟩
  cases pub with
  | true => exact (hs.cell _ _ (h7 rfl _ hk)).trans (hc k hk)
  | false => exact (hs.own _ _ ⟨rfl, by simp⟩).trans (hc k hk)
mutual
theorem Own.keep : ∀ {o : OV} {u : Value} {F : Area}, Own S w F o u → Still S S' w w' F → Own S' w' F o u
  | _, _, _, .c x u h, hs => .c x u (h.mono hs.sub hs.cell)
  | _, _, _, .arr sz es cap pub n b capn h, hs => .arr sz es cap pub n b capn (h.keep hs)
  | _, _, _, .ptr cs us b o F h hb ht hc hd, hs => .ptr cs us b o F (h.keep (hs.of fun _ _ q => .inl q)) (Nat.lt_of_lt_of_le hb hs.size) (hs.thaw hb ht)
      (fun j u hu => (hs.own _ _ (.inr ⟨rfl, by omega, by have := (List.getElem?_eq_some_iff.1 hu).1; omega⟩)).trans (hc j u hu)) hd
  | _, _, _, .agg cs us F h, hs => .agg cs us F (h.keep hs)
  | _, _, _, .tup cs us F h, hs => .tup cs us F (h.keep hs)
theorem OwnL.keep : ∀ {os : List OV} {us : List Value} {F : Area}, OwnL S w F os us → Still S S' w w' F → OwnL S' w' F os us
  | _, _, _, .nil, _ => .nil
  | _, _, _, .cons o u os us F1 F2 h1 h2 hd, hs => .cons o u os us F1 F2 (h1.keep (hs.of fun _ _ q => .inl q)) (h2.keep (hs.of fun _ _ q => .inr q)) hd
end
end keep

section
variable {X : Ctx} {w : World}
/-- What packing leaves. -/
structure Packed (X : Ctx) (S S' : Area) (pl : Place) (w : World) (m m' : Mem) (F : Area) : Prop where
  st : St X S' pl w m'
  kp : Keeps S S' pl pl w w m m'
  sh : Shrinks S S' pl m m'
  off : ∀ b o, F b o → Feet pl m b o ∧ ¬ Feet pl m' b o
  no : ∀ b o, F b o → ¬ S' b o

theorem Packed.still {S S' : Area} {pl : Place} {m m' : Mem} {F : Area} (h : Packed X S S' pl w m m' F) (F' : Area) : Still S S' w w F' :=
  ⟨h.kp.sub, fun _ _ _ => rfl, fun _ _ _ => rfl, Nat.le_refl _, fun _ _ => rfl, fun _ _ _ => rfl⟩

def PackOk (X : Ctx) (w : World) (pk : Mem → AV → (OV → Mem → Prop) → Prop) : Prop :=
  ∀ {S : Area} {pl : Place} {m : Mem} {x : AV} {u : Value} {K : OV → Mem → Prop}, St X S pl w m → RelV S pl w m x u → pk m x K → ∃ S' o m' F, K o m' ∧ Own S' w F o u ∧ Packed X S S' pl w m m' F

theorem packLW_sound {pk : Mem → AV → (OV → Mem → Prop) → Prop} (hp : PackOk X w pk) : ∀ (xs : List AV) (us : List Value) {S : Area} {pl : Place} {m : Mem} {K : List OV → Mem → Prop}, St X S pl w m → us.length = xs.length →
    (∀ (j : Nat) x u, xs[j]? = some x → us[j]? = some u → RelV S pl w m x u) → packLW pk m xs K → ∃ S' os m' F, K os m' ∧ OwnL S' w F os us ∧ Packed X S S' pl w m m' F
  | [], [], S, pl, m, K, h, _, _, hk => ⟨S, [], m, _, hk, .nil, h, Keeps.refl _ _ _ _, Shrinks.refl _ _ _, fun _ _ q => q.elim, fun _ _ q => q.elim⟩
  | [], _ :: _, _, _, _, _, _, hl, _, _ => by simp at hl
  | _ :: _, [], _, _, _, _, _, hl, _, _ => by simp at hl
  | x :: xs, u :: us, S, pl, m, K, h, hl, hr, hk => by
    obtain ⟨S1, o, m1, F1, hk1, ho, p1⟩ := hp h (hr 0 x u rfl rfl) hk
    obtain ⟨S2, os, m2, F2, hk2, hos, p2⟩ := packLW_sound hp xs us p1.st (by simpa using hl) (fun j x u hx hu => (hr (j + 1) x u (by simpa using hx) (by simpa using hu)).mono p1.kp) hk1
    refine ⟨S2, o :: os, m2, _, hk2, .cons o u os us F1 F2 (ho.keep (p2.still _)) hos (fun b q h1 h2 => (p1.off b q h1).2 (p2.off b q h2).1), p2.st, p1.kp.trans p2.kp, p1.sh.trans p2.sh, fun b q hf => ?_, fun b q hf => ?_⟩
    rotate_left
    · rcases hf with hf | hf
      · exact fun hs => (p2.sh.grow b q hs).elim (p1.no b q hf) (p1.off b q hf).2
      · exact p2.no b q hf
    rcases hf with hf | hf
    · exact ⟨(p1.off b q hf).1, fun q' => (p1.off b q hf).2 (p2.sh.feet b q q')⟩
    · exact ⟨p1.sh.feet b q (p2.off b q hf).1, (p2.off b q hf).2⟩

theorem feet_del {S : Area} {pl : Place} {m : Mem} (h : Inv S pl w m) {i : Nat} {ob : Ob} (hob : m.get i = some ob) : (∀ b o, Feet pl (m.del i) b o → Feet pl m b o) ∧ ∀ b o, ob.foot (pl i) b o → Feet pl m b o ∧ ¬ Feet pl (m.del i) b o := by
  have hne : ∀ id ob, (m.del i).get id = some ob → m.get id = some ob ∧ id ≠ i := fun id ob hg => by
    rw [get_del] at hg; split at hg
    · simp at hg
    · exact ⟨hg, by assumption⟩
  refine ⟨fun b o ⟨id, ob', hg, hf⟩ => ⟨id, ob', (hne id ob' hg).1, hf⟩, fun b o hf => ⟨⟨i, ob, hob, hf⟩, fun ⟨id, ob', hg, hf'⟩ => h.apart id i ob' ob (hne id ob' hg).1 hob (hne id ob' hg).2 b o hf' hf⟩⟩

def PackEx (pk : Mem → AV → (OV → Mem → Prop) → Prop) : Prop := ∀ {m : Mem} {x : AV} {K : OV → Mem → Prop}, pk m x K → x.isDead = false ∧ ∃ o m', K o m'
theorem packLW_ex {pk : Mem → AV → (OV → Mem → Prop) → Prop} (hp : PackEx pk) : ∀ (xs : List AV) {m : Mem} {K : List OV → Mem → Prop}, packLW pk m xs K → (∀ x ∈ xs, x.isDead = false) ∧ ∃ os m', K os m'
  | [], m, _, hk => ⟨fun x hx => by simp at hx, _, m, hk⟩
  | x :: xs, _, _, hk => by
    obtain ⟨h1, o, m1, hk1⟩ := hp hk
    obtain ⟨h2, os, m2, hk2⟩ := packLW_ex hp xs hk1
    refine ⟨fun y hy => ?_, _, m2, hk2⟩
    rcases List.mem_cons.1 hy with rfl | hy
    · exact h1
    · exact h2 y hy
theorem packW_ex (k : Nat) : PackEx (packW k) := by
  induction k with
  | zero => intro m x K hk; exact hk.elim
  | succ k ih =>
    intro m x K hk
    cases x with
    | c x => exact ⟨rfl, _, m, hk⟩
    | t id ver n =>
      simp only [packW] at hk
      split at hk
      · exact ⟨rfl, _, _, hk.2.2⟩
      · exact hk.elim
    | p id ver off =>
      cases off with
      | succ off => simp only [packW] at hk
      | zero =>
        simp only [packW] at hk
        split at hk
        · obtain ⟨_, os, m', h⟩ := packLW_ex ih _ hk.2; exact ⟨rfl, _, m', h⟩
        · exact hk.elim
    | agg cs => obtain ⟨_, os, m', h⟩ := packLW_ex ih _ hk; exact ⟨rfl, _, m', h⟩
    | tup cs => obtain ⟨_, os, m', h⟩ := packLW_ex ih _ hk; exact ⟨rfl, _, m', h⟩
    | _ => simp only [packW] at hk

/-- A row of related cells, as a list of values. -/
theorem RowA.list {S : Area} {pl : Place} {m : Mem} {b o : Nat} {cs : List AV} (h : RowA S pl w m b o cs) : ∃ us : List Value, us.length = cs.length ∧ (∀ (j : Nat) u, us[j]? = some u → cellAt w b (o + j) = some u) ∧
    ∀ (j : Nat) x u, cs[j]? = some x → us[j]? = some u → RelV S pl w m x u := by
  refine ⟨(List.range cs.length).map fun j => (cellAt w b (o + j)).getD undef, by simp, fun j u hu => ?_, fun j x u hx hu => ?_⟩
  · rw [List.getElem?_map] at hu
    by_cases hj : j < cs.length
    · rw [List.getElem?_range hj] at hu
      obtain ⟨v, hv, _⟩ := h j _ (List.getElem?_eq_getElem hj)
      simp [hv] at hu; subst hu; exact hv
    · rw [List.getElem?_eq_none (by simp; omega)] at hu; simp at hu
  · have hj := (List.getElem?_eq_some_iff.1 hx).1
    rw [List.getElem?_map, List.getElem?_range hj] at hu
    obtain ⟨v, hv, hr⟩ := h j x hx
    simp [hv] at hu; subst hu; exact hr

theorem packW_sound (k : Nat) : PackOk X w (packW k) := by
  induction k with
  | zero => intro S pl m x u K _ _ hk; exact hk.elim
  | succ k ih =>
    intro S pl m x u K h hr hk
    cases x with
    | c x => cases hr with | c _ _ hr => exact ⟨S, _, m, _, hk, .c _ _ hr, h, Keeps.refl _ _ _ _, Shrinks.refl _ _ _, fun _ _ q => q.elim, fun _ _ q => q.elim⟩
    | t id ver n =>
      simp only [packW] at hk
      split at hk
      · rename_i v sz es cap pub hg
        obtain ⟨rfl, hn, hk⟩ := hk
        cases hr with | t _ _ _ b capn hv hnc hr =>
        obtain ⟨sz', es', cap', pub', e, heq, _, hb, hs⟩ := hr _ hg rfl
        injection heq with _ q1 q2 q3 q4; subst q1 q2 q3 q4
        obtain ⟨hv', h0, h1, h2, ⟨e3, capn3, hs3, hle3, hcap3⟩, hrow, hp⟩ := h.inv.ob id _ hg
        rw [← hb] at h2 hs3 hrow hp
        have hcc : capn3 = capn := by
          rw [hs] at hs3; injection hs3 with hs3; injection hs3 with _ hs3
          exact (Nat.eq_of_mul_eq_mul_right h1 hs3).symm
        subst hcc
        obtain ⟨hst, hkp⟩ := h.del id
        obtain ⟨f1, f2⟩ := feet_del h.inv hg
        exact ⟨S, _, _, _, hk, .arr sz es cap pub n b capn3 ⟨h1, h2, ⟨e, hs⟩, hle3, hcap3, hrow, hp, hn⟩, hst, hkp, ⟨fun _ _ q => .inl q, f1⟩, fun b' o hf => f2 b' o ⟨by rw [← hb]; exact hf.1, hf.2⟩, fun b' o hf => h.inv.free id _ hg b' o ⟨by rw [← hb]; exact hf.1, hf.2⟩⟩
      · exact hk.elim
    | p id ver off =>
      cases off with
      | succ off => simp only [packW] at hk
      | zero =>
        simp only [packW] at hk
        split at hk
        · rename_i v cs hg
          obtain ⟨rfl, hk⟩ := hk
          cases hr with | p _ _ _ b o hv hr =>
          obtain ⟨_, hb⟩ := hr _ hg rfl
          obtain ⟨hv', h1, h2, hrow⟩ := h.inv.ob id _ hg
          obtain ⟨us, hul, huc, hur⟩ := hrow.list
          have hb1 : (pl id).1 = b := by rw [← hb]
          have hb2 : (pl id).2 = o := by rw [← hb]
          obtain ⟨hst, hkp⟩ := h.del id
          obtain ⟨f1, f2⟩ := feet_del h.inv hg
          obtain ⟨hlive, _⟩ := packLW_ex (packW_ex k) cs hk
          obtain ⟨S', os, m', F, hk, ho, hp⟩ := packLW_sound ih cs us hst hul (fun j x u hx hu => (hur j x u hx hu).mono hkp) hk
          have hreg : ∀ b' o', (b' = b ∧ o ≤ o' ∧ o' < o + us.length) → (Ob.blk v cs).foot (pl id) b' o' := fun b' o' ⟨q1, q2, q3⟩ => by
            have hj : o' - o < cs.length := by omega
            have hx : cs[o' - o]? = some cs[o' - o] := List.getElem?_eq_getElem hj
            exact ⟨by rw [q1, hb1], o' - o, _, hx, hlive _ (List.mem_of_getElem? hx), by rw [hb2]; omega⟩
          rw [hb1] at h1 h2 huc
          rw [hb2] at huc
          refine ⟨S', _, m', _, hk, .ptr os us b o F ho h1 h2 huc (fun b' o' q1 q2 => ?_), hp.st, hkp.trans hp.kp, ⟨fun b' o' q => ?_, fun b' o' q => f1 _ _ (hp.sh.feet _ _ q)⟩, fun b' o' q => ?_, fun b' o' q => ?_⟩
          · exact (f2 b' o' (hreg b' o' q2)).2 (hp.off b' o' q1).1
          · exact (hp.sh.grow b' o' q).imp (fun q => q) (f1 b' o')
          · rcases q with q | q
            · exact ⟨f1 _ _ (hp.off b' o' q).1, (hp.off b' o' q).2⟩
            · obtain ⟨g1, g2⟩ := f2 b' o' (hreg b' o' q)
              exact ⟨g1, fun q' => g2 (hp.sh.feet _ _ q')⟩
          · rcases q with q | q
            · exact hp.no b' o' q
            · exact fun hs => (hp.sh.grow b' o' hs).elim (h.inv.free id _ hg b' o' (hreg b' o' q)) (f2 b' o' (hreg b' o' q)).2
        · exact hk.elim
    | agg cs =>
      cases hr with | agg _ us hl hr =>
      obtain ⟨S', os, m', F, hk, ho, hp⟩ := packLW_sound ih cs us h hl hr hk
      exact ⟨S', _, m', F, hk, .agg os us F ho, hp⟩
    | tup cs =>
      cases hr with | tup _ us hl hr =>
      obtain ⟨S', os, m', F, hk, ho, hp⟩ := packLW_sound ih cs us h hl hr hk
      exact ⟨S', _, m', F, hk, .tup os us F ho, hp⟩
    | _ => simp only [packW] at hk
end
end Go.Proofs.Ythncmjlcmlmnmaa.V

namespace Go.Proofs.Ythncmjlcmlmnmaa.V
open Go Go.RowKit
section
variable {X : Ctx} {w : World}

/-- What unpacking makes of a state: objects whose cells lie in F. -/
structure Laid (X : Ctx) (S : Area) (pl pl' : Place) (w : World) (m m' : Mem) (F : Area) : Prop where
  st : St X S pl' w m'
  kp : Keeps S S pl pl' w w m m'
  feet : ∀ b o, Feet pl' m' b o → Feet pl m b o ∨ F b o

/-- An object comes into the memory; its cells were nobody's. -/
theorem St.adopt {S : Area} {pl : Place} {m : Mem} (h : St X S pl w m) (id : Nat) (f : Nat → Ob) (q : Nat × Nat) (F : Area) (hv : (f m.clk).ver = m.clk)
    (hF : ∀ b o, F b o → (X.F0 b o ∨ X.w0.heap.size ≤ b) ∧ ¬ S b o ∧ ¬ Feet pl m b o) (hfoot : ∀ b o, (f m.clk).foot q b o → F b o)
    (hok : ∀ {pl' m'}, Keeps S S pl pl' w w m m' → ObOk S pl' w m' q (f m.clk)) : Laid X S pl (plAt pl id q) w m (m.new id f) F := by
  have hne : ∀ i ob, i ≠ id → (m.new id f).get i = some ob → m.get i = some ob := fun i ob hi hg => by rw [get_new, if_neg hi] at hg; exact hg
  have k : Keeps S S pl (plAt pl id q) w w m (m.new id f) :=
    ⟨fun _ _ h => h, fun _ _ _ => rfl, fun _ _ h => h, by rw [clk_new]; omega, fun i ob hg hlt => by
      by_cases hi : i = id
      · subst hi; rw [get_new, if_pos rfl] at hg; injection hg with hg; subst hg; rw [hv] at hlt; exact absurd hlt (Nat.lt_irrefl _)
      · exact ⟨ob, hne i ob hi hg, by cases ob <;> simp [Ob.alike], by simp [plAt, hi]⟩⟩
  have hpl : plAt pl id q id = q := by simp [plAt]
  refine ⟨h.step1 id (fun _ _ => False) k (Ext.refl _ _) (fun _ _ hf => hf.elim) (fun b o hs => ⟨h.inv.low b o hs, .inl hs⟩) (fun i ob hi hg => ⟨hne i ob hi hg, by simp [plAt, hi]⟩)
    (fun i ob hi hg b o hf => ⟨fun hf => hf, h.inv.free i ob (hne i ob hi hg) b o hf⟩) (fun ob hg => ?_), k, fun b o ⟨i, ob, hg, hf⟩ => ?_⟩
  · rw [get_new, if_pos rfl] at hg; injection hg with hg; subst hg
    rw [hpl]
    refine ⟨by rw [hv, clk_new]; exact Nat.lt_succ_self _, hok k, fun b o hf => ?_⟩
    obtain ⟨h1, h2, h3⟩ := hF b o (hfoot b o hf)
    exact ⟨h1, h2, fun i ob' hi hg hf2 => h3 ⟨i, ob', hne i ob' hi hg, hf2⟩⟩
  · by_cases hi : i = id
    · subst hi; rw [get_new, if_pos rfl] at hg; injection hg with hg; subst hg
      rw [hpl] at hf; exact .inr (hfoot b o hf)
    · exact .inl ⟨i, ob, hne i ob hi hg, by simpa [plAt, hi] using hf⟩

def Mine (X : Ctx) (S : Area) (pl : Place) (m : Mem) (F : Area) : Prop := ∀ b o, F b o → (X.F0 b o ∨ X.w0.heap.size ≤ b) ∧ ¬ S b o ∧ ¬ Feet pl m b o

def UnpackOk (X : Ctx) (w : World) (un : Nat → Mem → OV → AV × Nat × Mem) : Prop :=
  ∀ (id : Nat) {S : Area} {pl : Place} {m : Mem} {o : OV} {u : Value} {F : Area}, St X S pl w m → Own S w F o u → Mine X S pl m F → ∃ pl', Laid X S pl pl' w m (un id m o).2.2 F ∧ RelV S pl' w (un id m o).2.2 (un id m o).1 u

theorem unpackL_length (un : Nat → Mem → OV → AV × Nat × Mem) : ∀ (os : List OV) (id : Nat) (m : Mem), (unpackL un id m os).1.length = os.length
  | [], _, _ => rfl
  | o :: os, id, m => by simp only [unpackL, List.length_cons]; rw [unpackL_length un os]

theorem unpackL_sound {un : Nat → Mem → OV → AV × Nat × Mem} (hu : UnpackOk X w un) : ∀ (os : List OV) (us : List Value) (id : Nat) {S : Area} {pl : Place} {m : Mem} {F : Area}, St X S pl w m → OwnL S w F os us → Mine X S pl m F →
    ∃ pl', Laid X S pl pl' w m (unpackL un id m os).2.2 F ∧ ∀ (j : Nat) x u, (unpackL un id m os).1[j]? = some x → us[j]? = some u → RelV S pl' w (unpackL un id m os).2.2 x u
  | [], us, id, S, pl, m, F, h, ho, _ => ⟨pl, ⟨h, Keeps.refl _ _ _ _, fun _ _ q => .inl q⟩, fun j x u hx => by simp [unpackL] at hx⟩
  | o :: os, us, id, S, pl, m, F, h, ho, hm => by
    cases ho with | cons _ u _ us F1 F2 h1 h2 hd =>
    obtain ⟨pl1, l1, r1⟩ := hu id h h1 (fun b q hf => hm b q (.inl hf))
    obtain ⟨pl2, l2, r2⟩ := unpackL_sound hu os us (un id m o).2.1 l1.st h2 (fun b q hf => by
      obtain ⟨g1, g2, g3⟩ := hm b q (.inr hf)
      exact ⟨g1, g2, fun hf' => (l1.feet b q hf').elim g3 (fun hf1 => hd b q hf1 hf)⟩)
    refine ⟨pl2, ⟨l2.st, l1.kp.trans l2.kp, fun b q hf => ?_⟩, fun j x v hx hv => ?_⟩
    · rcases l2.feet b q hf with g | g
      · exact (l1.feet b q g).imp (fun q => q) .inl
      · exact .inr (.inr g)
    · cases j with
      | zero => simp [unpackL] at hx hv; subst hx hv; exact r1.mono l2.kp
      | succ j => exact r2 j x v (by simpa [unpackL] using hx) (by simpa using hv)

theorem unpack_sound (k : Nat) : UnpackOk X w (unpack k) := by
  induction k with
  | zero => intro id S pl m o u F h _ _; exact ⟨pl, ⟨h, Keeps.refl _ _ _ _, fun _ _ q => .inl q⟩, .dead u⟩
  | succ k ih =>
    intro id S pl m o u F h ho hm
    cases ho with
    | c x u hr => exact ⟨pl, ⟨h, Keeps.refl _ _ _ _, fun _ _ q => .inl q⟩, .c _ _ hr⟩
    | arr sz es cap pub n b capn ha =>
      obtain ⟨h1, h2, ⟨e, h3⟩, h4, h5, ⟨hl, f, hc, hr⟩, h7, h8⟩ := ha
      refine ⟨plAt pl id (b, 0), h.adopt id (fun v => .arr v sz es cap pub) (b, 0) _ rfl hm (fun b' o' hf => hf) (fun {pl' m'} kp => ⟨rfl, h1, h2, ⟨e, capn, h3, h4, h5⟩, ⟨hl, f, hc, hr⟩, h7⟩), ?_⟩
      exact .t id m.clk n b capn (by rw [unpack]; simp [clk_new]) (by omega) (fun ob hg _ => by
        simp only [unpack] at hg
        rw [get_new, if_pos rfl] at hg; injection hg with hg; subst hg
        exact ⟨sz, es, cap, pub, e, rfl, h8, by simp [plAt], h3⟩)
    | ptr cs us b o' F' hL hb ht hc hd =>
      obtain ⟨pl1, l1, r1⟩ := unpackL_sound ih cs us (1000000 * (id + 1)) h hL (fun b q hf => hm b q (.inl hf))
      simp only [unpack]
      generalize hq : unpackL (unpack k) (1000000 * (id + 1)) m cs = q at l1 r1
      have hlen : us.length = q.1.length := by rw [← hq, unpackL_length, hL.length]
      have hreg : Mine X S pl1 q.2.2 (fun b' o'' => b' = b ∧ o' ≤ o'' ∧ o'' < o' + us.length) := fun b' o'' hf => by
        obtain ⟨g1, g2, g3⟩ := hm b' o'' (.inr hf)
        exact ⟨g1, g2, fun hf' => (l1.feet b' o'' hf').elim g3 (fun hf1 => hd b' o'' hf1 hf)⟩
      have l2 := l1.st.adopt id (fun v => .blk v q.1) (b, o') _ rfl hreg (fun b' o'' hf => by
        obtain ⟨q1, j, x, hx, _, q2⟩ := hf
        have hj := (List.getElem?_eq_some_iff.1 hx).1
        exact ⟨q1, by omega, by omega⟩) (fun {pl' m'} kp => ⟨hb, ht, fun j x hx => by
          have hj := (List.getElem?_eq_some_iff.1 hx).1
          have hu : us[j]? = some us[j] := List.getElem?_eq_getElem (by omega)
          exact ⟨_, hc j _ hu, (r1 j x _ hx hu).mono kp⟩⟩)
      refine ⟨_, ⟨l2.st, l1.kp.trans l2.kp, fun b' o'' hf => ?_⟩, ?_⟩
      · rcases l2.feet b' o'' hf with g | g
        · exact (l1.feet b' o'' g).imp (fun q => q) .inl
        · exact .inr (.inr g)
      · have := RelV.p (S := S) (pl := plAt pl1 id (b, o')) (w := w) (m := q.2.2.new id fun v => .blk v q.1) id q.2.2.clk 0 b o' (by rw [clk_new]; exact Nat.lt_succ_self _) (fun ob hg _ => by
          rw [get_new, if_pos rfl] at hg; injection hg with hg; subst hg
          exact ⟨⟨_, rfl⟩, by simp [plAt]⟩)
        simpa using this
    | agg cs us F hL =>
      obtain ⟨pl1, l1, r1⟩ := unpackL_sound ih cs us id h hL hm
      exact ⟨pl1, l1, .agg _ us (by rw [unpackL_length, hL.length]) r1⟩
    | tup cs us F hL =>
      obtain ⟨pl1, l1, r1⟩ := unpackL_sound ih cs us id h hL hm
      exact ⟨pl1, l1, .tup _ us (by rw [unpackL_length, hL.length]) r1⟩
end
end Go.Proofs.Ythncmjlcmlmnmaa.V

