/- append, copy; strings and bytes. Conditions: none. -/
import Derived.Test.YthncmjlcmlmnmaaRT2
import Derived.Laws.BytesString
import Derived.LoopN
namespace Go.Proofs.Ythncmjlcmlmnmaa.V
open Go Go.RowKit
section
variable {P : Program} {T : Tab} {X : Ctx} {S : Area} {pl : Place} {w : World} {m : Mem} {K : KK}
theorem w6s (b o k : Nat) : (⟨b, o, none⟩ : Addr).add k = ⟨b, o + k, none⟩ := by unfold Addr.add; split <;> simp_all
def RowV (S : Area) (w : World) (sz : Nat) (es : List (List CV)) (us : List Value) : Prop :=
 us.length = es.length * sz ∧ (∀ (i : Nat) e, es[i]? = some e → e.length = sz) ∧ ∀ (i j : Nat) e x, es[i]? = some e → e[j]? = some x → RelC S w x (us.getD (i * sz + j) undef)
theorem z8r {i n sz j : Nat} (hi : i < n) (hj : j < sz) : i * sz + j < n * sz := by
 have : (i + 1) * sz ≤ n * sz := Nat.mul_le_mul_right sz hi
 rw [Nat.add_mul, Nat.one_mul] at this; omega
theorem RowV.solid {sz : Nat} {es : List (List CV)} {us : List Value} (h : RowV S w sz es us) (hsz : 0 < sz) : ∀ v ∈ us, v.oneCell' = true := by
 intro v hv
 obtain ⟨k, hk⟩ := List.mem_iff_getElem?.1 hv
 have hkl : k < es.length * sz := by rw [← h.1]; exact (List.getElem?_eq_some_iff.1 hk).1
 have hi : k / sz < es.length := (Nat.div_lt_iff_lt_mul hsz).2 hkl
 have hj : k % sz < sz := Nat.mod_lt _ hsz
 have he : es[k / sz]? = some es[k / sz] := List.getElem?_eq_getElem hi
 have hel := h.2.1 _ _ he
 have hx : es[k / sz][k % sz]? = some es[k / sz][k % sz] := List.getElem?_eq_getElem (by omega)
 have := (h.2.2 _ _ _ _ he hx).solid
 rw [show k / sz * sz + k % sz = k by rw [Nat.mul_comm]; exact Nat.div_add_mod k sz] at this
 simpa [List.getD, hk] using this
theorem RowV.take {sz : Nat} {es : List (List CV)} {us : List Value} (h : RowV S w sz es us) (n : Nat) : RowV S w sz (es.take n) (us.take (n * sz)) := by
 refine ⟨?_, fun i e he => ?_, fun i j e x he hx => ?_⟩
 ·rw [List.length_take, List.length_take, h.1]
  rcases Nat.le_total n es.length with q | q
  ·rw [Nat.min_eq_left q, Nat.min_eq_left (Nat.mul_le_mul_right sz q)]
  ·rw [Nat.min_eq_right q, Nat.min_eq_right (Nat.mul_le_mul_right sz q)]
 ·have hi : i < n := by have := (List.getElem?_eq_some_iff.1 he).1; rw [List.length_take] at this; omega
  rw [List.getElem?_take_of_lt hi] at he; exact h.2.1 i e he
 ·have hi : i < n := by have := (List.getElem?_eq_some_iff.1 he).1; rw [List.length_take] at this; omega
  rw [List.getElem?_take_of_lt hi] at he
  have hj : j < sz := by have := (List.getElem?_eq_some_iff.1 hx).1; rw [h.2.1 i e he] at this; exact this
  have := h.2.2 i j e x he hx
  have hlt := z8r hi hj
  simpa [List.getD, List.getElem?_take_of_lt hlt] using this
theorem RowV.append {sz : Nat} {es ns : List (List CV)} {us vs : List Value} (h : RowV S w sz es us) (k : RowV S w sz ns vs) : RowV S w sz (es ++ ns) (us ++ vs) := by
 have hget : ∀ (i : Nat) e, (es ++ ns)[i]? = some e → (i < es.length ∧ es[i]? = some e) ∨ (es.length ≤ i ∧ ns[i - es.length]? = some e) := fun i e he => by
  by_cases hi : i < es.length
  ·rw [List.getElem?_append_left hi] at he; exact .inl ⟨hi, he⟩
  ·rw [List.getElem?_append_right (by omega)] at he; exact .inr ⟨by omega, he⟩
 refine ⟨by rw [List.length_append, List.length_append, h.1, k.1, Nat.add_mul], fun i e he => ?_, fun i j e x he hx => ?_⟩
 ·rcases hget i e he with ⟨_, q⟩ | ⟨_, q⟩
  ·exact h.2.1 i e q
  ·exact k.2.1 _ e q
 ·rcases hget i e he with ⟨hi, q⟩ | ⟨hi, q⟩
  ·have hj : j < sz := by have := (List.getElem?_eq_some_iff.1 hx).1; rw [h.2.1 i e q] at this; exact this
   have := h.2.2 i j e x q hx
   have hlt := z8r hi hj
   rw [← h.1] at hlt
   simpa [List.getD, List.getElem?_append_left hlt] using this
  ·have := k.2.2 _ j e x q hx
   have hge : us.length ≤ i * sz + j := by rw [h.1]; have := Nat.mul_le_mul_right sz hi; omega
   have hsub : i * sz + j - us.length = (i - es.length) * sz + j := by
    rw [h.1, Nat.sub_mul]; have := Nat.mul_le_mul_right sz hi; omega
   simpa [List.getD, List.getElem?_append_right hge, hsub] using this
theorem z3x (h : St X S pl w m) {esz : Nat} (hpos : 0 < esz) {x : AV} {a : Value} (hx : RelV S pl w m x a) {K : List (List CV) → Prop} (hk : srcW esz m x K) :
  ∃ ns us, K ns ∧ RowV S w esz ns us ∧ (Builtin.lenOf a).run P w = .ok ns.length w ∧ (∀ n, n ≤ ns.length → ∀ dr, (Builtin.firstCells esz n a).run P { w with drawn := dr } = .ok (us.take (n * esz)).toArray { w with drawn := dr }) := by
 have load : ∀ (b o : Nat) (f : Nat → Value) (n : Nat), (∀ k, k < n → z0p w b (o + k) = some (f k)) → ∀ dr, (loadCells ⟨b, o, none⟩ n).run P { w with drawn := dr } = .ok ((List.range n).map f).toArray { w with drawn := dr } := fun b o f n hc dr =>
  run_loadCells { w with drawn := dr } ⟨b, o, none⟩ n f (fun j hj => by rw [w6s]; exact hc j hj)
 have take_range : ∀ (f : Nat → Value) (a b : Nat), a ≤ b → ((List.range b).map f).take a = (List.range a).map f := fun f a b hab => by
  rw [← List.map_take, List.take_range, Nat.min_eq_left hab]
 unfold srcW at hk
 split at hk
 ·rename_i s
  obtain ⟨rfl, hk⟩ := hk
  have e1 := z0z hx; subst e1
  refine ⟨_, s.data.toList.map fun b => .int .u8 b.toNat, hk, ⟨by simp [encB], fun i e he => ?_, fun i j e x he hx => ?_⟩, ?_, fun n hn dr => ?_⟩
  ·simp only [encB, List.getElem?_map] at he
   cases hs : s.data.toList[i]? with
   | none => rw [hs] at he; simp at he
   | some c => rw [hs] at he; simp at he; subst he; rfl
  ·simp only [encB, List.getElem?_map] at he
   cases hs : s.data.toList[i]? with
   | none => rw [hs] at he; simp at he
   | some c =>
    rw [hs] at he; simp at he; subst he
    cases j with
    | succ j => simp at hx
    | zero =>
     simp at hx; subst hx
     have : (s.data.toList.map fun b => Value.int .u8 b.toNat).getD (i * 1 + 0) undef = .int .u8 c.toNat := by
      rw [Nat.mul_one, Nat.add_zero]; simp only [List.getD, List.getElem?_map, hs]; rfl
     rw [this]; exact .v _ rfl
  ·unfold Builtin.lenOf
   simp only [Sem.run_pure, encB, List.length_map]
   congr 1
  ·unfold Builtin.firstCells
   simp only [Sem.run_pure]
   congr 1
   apply Array.ext'
   simp only [Array.toList_map, Nat.mul_one]
   rw [← List.map_take]
   congr 1
   have : (s.extract 0 n).data = s.data.extract 0 n := ByteArray.data_extract
   rw [this, Array.toList_extract]
   simp [List.extract]
 ·unfold viewS at hk
  split at hk
  ·rename_i sz es sp _
   obtain ⟨rfl, hk⟩ := hk
   cases hx with | c _ _ hx =>
   cases hx with | sl _ _ _ ad cap b o f hcap hsp ha hl hS hc hr =>
   have hlA : es.length ≤ (es ++ sp.getD []).length := by rw [List.length_append]; omega
   have hc' : ∀ k, k < es.length * sz → z0p w b (o + k) = some (f k) := fun k hk => hc k (Nat.lt_of_lt_of_le hk (Nat.mul_le_mul_right sz hlA))
   have hget : ∀ (i : Nat) e, es[i]? = some e → (es ++ sp.getD [])[i]? = some e := fun i e he => by rw [List.getElem?_append_left (List.getElem?_eq_some_iff.1 he).1]; exact he
   refine ⟨es, (List.range (es.length * sz)).map f, hk, ⟨by simp, fun i e he => hl i e (hget i e he), fun i j e x he hx => ?_⟩, rfl, fun n hn dr => ?_⟩
   ·have hi := (List.getElem?_eq_some_iff.1 he).1
    have hj : j < sz := by have := (List.getElem?_eq_some_iff.1 hx).1; rw [hl i e (hget i e he)] at this; exact this
    have hlt := z8r hi hj
    have := hr i j e x (hget i e he) hx
    simpa [List.getD, List.getElem?_map, List.getElem?_range hlt] using this
   ·rw [take_range f _ _ (Nat.mul_le_mul_right sz hn)]
    by_cases hne : es ++ sp.getD [] = []
    ·have h0 : es.length = 0 := by rw [hne] at hlA; simpa using hlA
     have hn0 : n = 0 := by omega
     subst hn0
     cases ad with
     | none => simp [Builtin.firstCells]
     | some ad =>
      simp only [Builtin.firstCells, Nat.zero_mul]
      rfl
    ·obtain ⟨rfl, _⟩ := ha hne
     simp only [Builtin.firstCells]
     exact load b o f _ (fun k hk => hc' k (Nat.lt_of_lt_of_le hk (Nat.mul_le_mul_right sz hn))) dr
  ·rename_i id ver n _
   split at hk
   ·rename_i v sz es cap pub hg
    obtain ⟨rfl, rfl, hne, hk⟩ := hk
    cases hx with | t _ _ _ b capn hv hn hx =>
    obtain ⟨sz', es', cap', pub', e, heq, _, hb, hs⟩ := hx _ hg rfl
    injection heq with _ q1 q2 q3 q4; subst q1 q2 q3 q4
    obtain ⟨_, h0, h1, h2, h3, ⟨hl, f, hc, hr⟩, hp⟩ := h.inv.ob id _ hg
    have hrow : RowV S w sz es ((List.range (es.length * sz)).map f) := ⟨by simp, hl, fun i j e x he hx => by
     have hi := (List.getElem?_eq_some_iff.1 he).1
     have hj : j < sz := by have := (List.getElem?_eq_some_iff.1 hx).1; rw [hl i e he] at this; exact this
     have := hr i j e x he hx
     simpa [List.getD, List.getElem?_map, List.getElem?_range (z8r hi hj)] using this⟩
    have hlen : (es.take n).length = n := by rw [List.length_take]; omega
    refine ⟨es.take n, _, hk, hrow.take n, by rw [hlen]; rfl, fun k hk' dr => ?_⟩
    rw [hlen] at hk'
    rw [List.take_take, Nat.min_eq_left (Nat.mul_le_mul_right sz hk'), take_range f _ _ (Nat.mul_le_mul_right sz (by omega))]
    simp only [Builtin.firstCells]
    refine load b 0 f _ (fun q hq => ?_) dr
    rw [Nat.zero_add, hb]
    exact hc q (Nat.lt_of_lt_of_le hq (Nat.mul_le_mul_right sz (by omega)))
   ·exact hk.elim
  ·exact hk.elim
theorem w9z : ∀ (r n c : Nat), Builtin.growBy n r c ≤ max c (n + (n + 768) / 4) + (if r = 0 then 0 else 0)
 | 0, n, c => by simp [Builtin.growBy]; omega
 | r + 1, n, c => by
  simp only [Builtin.growBy]
  split
  ·simp; omega
  ·rename_i hc
   have := w9z r n (c + (c + 768) / 4)
   simp at this ⊢
   omega
theorem w7g (n c : Nat) (h : c < n) : Builtin.nextslicecap n c ≤ 2 * n + 768 := by
 unfold Builtin.nextslicecap
 split
 ·omega
 ·split
  ·omega
  ·have := w9z 4 n c
   simp at this
   omega
theorem z9w {sT xT ty e : TypeId} {esz eb : Nat} (hu : P.underlying sT = some (.slice e)) (hux : ∃ d, P.underlying xT = some d ∧ ∀ k, d ≠ .int k) (hkn : known P e = true) (hsz : P.cellsOf e = esz) (heb : P.bytesOf e = eb) (heb2 : 0 < eb) (heb3 : eb ≤ 2 ^ 30)
  (a : Option Addr) (n cap : Nat) (x : Value) (nn : Nat) (us olds : List Value) (hlen : (Builtin.lenOf x).run P w = .ok nn w) (hsrc : ∀ dr, (Builtin.firstCells esz nn x).run P { w with drawn := dr } = .ok us.toArray { w with drawn := dr }) (hz : ∃ z : Value, z.cells.size = esz ∧ ∀ w' : World, (zeroValue e).run P w' = .ok z w')
  (hold : ∀ dr, (Builtin.firstCells esz n (.slice a n cap)).run P { w with drawn := dr } = .ok olds.toArray { w with drawn := dr }) (hsmall : (n + nn) * eb ≤ 2 ^ 45) :
  (n + nn ≤ cap → (match a with | some ad => (storeCells (ad.add (n * esz)) us).run P w | none => .ok () w) = .ok () (match a with | some ad => w.setCells ad.block (ad.off + n * esz) us | none => w) →
   (Builtin.append_ #[sT, xT] ty #[.slice a n cap, x]).run P w = .ok (.slice a (n + nn) cap) (match a with | some ad => w.setCells ad.block (ad.off + n * esz) us | none => w)) ∧
  (cap < n + nn → ∃ d newCap rest, (n + nn ≤ newCap ∧ newCap < 9223372036854775808) ∧ rest.length = (newCap - (n + nn)) * esz ∧
   (Builtin.append_ #[sT, xT] ty #[.slice a n cap, x]).run P w = .ok (.slice (some ⟨w.heap.size, 0, none⟩) (n + nn) newCap) (({ w with drawn := d } : World).alloc (.cells (olds ++ us ++ rest).toArray e))) := by
 obtain ⟨d, hux, hd⟩ := hux
 obtain ⟨z, hz1, hz2⟩ := hz
 obtain ⟨i, _, hi, _⟩ := z2y hkn
 have hbytes : i.bytes = eb := by rw [← heb]; unfold Program.bytesOf; rw [hi]; rfl
 have g0 : (#[sT, xT] : Array TypeId)[0]? = some sT := rfl
 have g1 : (#[sT, xT] : Array TypeId)[1]? = some xT := rfl
 have g2 : (#[.slice a n cap, x] : Array Value)[0]? = some (.slice a n cap) := rfl
 have g3 : (#[.slice a n cap, x] : Array Value)[1]? = some x := rfl
 refine ⟨fun hle hst => ?_, fun hlt => ?_⟩
 ·unfold Builtin.append_
  simp only [g0, g1, g2, g3, Sem.run_bind, run_underlying hu, run_underlying hux, Result.andThen_ok, z0t hkn, hsz, Sem.run_pure, Bool.false_eq_true, if_false, hlen, Bool.not_false, if_true]
  rw [if_pos hle]
  have hs0 := hsrc w.drawn
  simp only [Sem.run_bind]
  rw [show (Builtin.firstCells esz nn x).run P w = .ok us.toArray w from hs0]
  simp only [Result.andThen_ok]
  cases a with
  | none => simp only [Sem.run_pure]
  | some ad => simp only [Sem.run_bind] at hst ⊢; rw [hst]; rfl
 ·unfold Builtin.append_
  simp only [g0, g1, g2, g3, Sem.run_bind, run_underlying hu, run_underlying hux, Result.andThen_ok, z0t hkn, hsz, Sem.run_pure, Bool.false_eq_true, if_false, hlen, Bool.not_false, if_true]
  rw [if_neg (by omega)]
  simp only [Sem.run_bind, run_typeInfo w hi, Result.andThen_ok, hbytes, false_or]
  rw [if_neg (by omega)]
  simp only [Sem.run_bind, run_typeInfo w hi, Result.andThen_ok, hbytes]
  have hcapb : Builtin.nextslicecap (n + nn) cap * eb ≤ 2 ^ 48 := by
   have h1 := Nat.mul_le_mul_right eb (w7g (n + nn) cap hlt)
   rw [Nat.add_mul, Nat.mul_assoc] at h1
   have h2 : 768 * eb ≤ 768 * 2 ^ 30 := Nat.mul_le_mul_left 768 heb3
   omega
  rw [if_neg (by omega)]
  simp only [Sem.run_bind, run_choose, Question.forced, Bool.false_eq_true, if_false, Result.andThen_ok, run_typeInfo _ hi, run_askRoom, hold, hsrc, hz2, newRow, run_newObj, Sem.run_pure]
  generalize hq : (Question.appendCap (n + nn) cap e).cut (w.tape w.drawn (.appendCap (n + nn) cap e)) = q
  refine ⟨w.drawn + 1, q, (Builtin.zeroCells z.cells (q - (n + nn))).toList, ?_, ?_, ?_⟩
  ·rw [← hq]; simp only [Question.cut]
   have h5 : n + nn ≤ 2 ^ 45 := Nat.le_trans (Nat.le_mul_of_pos_right _ heb2) hsmall
   have h6 := Nat.mod_lt (w.tape w.drawn (.appendCap (n + nn) cap e)) (show 0 < 2 ^ 63 - (n + nn) by omega)
   omega
  ·unfold Builtin.zeroCells; simp [hz1]
  ·have : (olds.toArray ++ us.toArray ++ Builtin.zeroCells z.cells (q - (n + nn))) = (olds ++ us ++ (Builtin.zeroCells z.cells (q - (n + nn))).toList).toArray := by apply Array.ext'; simp
   rw [this]; rfl
theorem Did.after {S1 : Area} {pl1 : Place} {w1 : World} {m1 : Mem} (k : Keeps S S1 pl pl1 w w1 m m1) {r : Result Value} (h : Did X S1 pl1 w1 m1 r K) : Did X S pl w m r K := by
 obtain ⟨u, w', S', pl', v, m', e1, e2, e3, e4, e5⟩ := h
 exact ⟨u, w', S', pl', v, m', e1, e2, e3, e4, k.trans e5⟩
theorem del_ins (l : List (Nat × Ob)) (i : Nat) (o : Ob) : delL (insL l i o) i = delL l i := by
 induction l with
 | nil => simp [insL, delL]
 | cons a r ih =>
  obtain ⟨j, p⟩ := a
  simp only [insL]
  by_cases h1 : i = j
  ·subst h1; simp [delL]
  ·rw [if_neg h1]
   by_cases h2 : i < j
   ·rw [if_pos h2]; simp [delL, h1]
   ·rw [if_neg h2]; simp [delL, h1, ih]
theorem del_upd (m : Mem) (i : Nat) (o : Ob) : (m.upd i o).del i = m.del i := by
 unfold Mem.upd Mem.del; simp only [del_ins]
theorem z6x (hT : TabOk P T) (h : St X S pl w m) {t t2 ty esz eb : Nat} {ea u8 : Bool} (hs : (T.at t).k = .sl esz ea eb u8) (hs2 : (∃ a b c d, (T.at t2).k = .sl a b c d) ∨ (T.at t2).k = .str) (site : Nat) {s x : AV} {sv xv : Value}
  (hsr : RelV S pl w m s sv) (hx : RelV S pl w m x xv) (hk : z7f site esz eb m s x K) : Did X S pl w m ((Builtin.append_ #[t, t2] ty #[sv, xv]).run P w) K := by
 obtain ⟨e, hu, hsz, heb, hkn, hpos, hb1, hb2, ⟨hz, hzl⟩, _⟩ := z1h hT hs
 have hux : ∃ d, P.underlying t2 = some d ∧ ∀ k, d ≠ .int k := by
  rcases hs2 with ⟨a, b, c, d, hs2⟩ | hs2
  ·obtain ⟨e2, hu2, _⟩ := z1h hT hs2; exact ⟨_, hu2, by simp⟩
  ·exact ⟨_, z2l hT hs2, by simp⟩
 have hzz : ∃ z : Value, z.cells.size = esz ∧ ∀ w' : World, (zeroValue e).run P w' = .ok z w' := by
  obtain ⟨i, d, hi, hd⟩ := z2y hkn
  obtain ⟨v, hrun, h1, _⟩ := z6z hz hkn S w
  refine ⟨v, by omega, fun w' => ?_⟩
  unfold z7g at hz
  rw [hi] at hz
  simp only [Option.bind_some] at hz
  unfold zeroValue at hrun ⊢
  simp only [Sem.run_bind, run_typeInfo _ hi, Result.andThen_ok] at hrun ⊢
  cases hzo : i.zero with
  | none => rw [hzo] at hz; simp at hz
  | some v' =>
   rw [hzo] at hrun
   simp only [Sem.run_pure] at hrun
   injection hrun with hrun; subst hrun; rfl
 unfold z7f at hk
 obtain ⟨ns, us, hk2, hrow, hlen, hsrc⟩ := z3x (P := P) h hpos hx hk
 clear hk
 have hk := hk2
 clear hk2
 have hfull : us.take (ns.length * esz) = us := List.take_of_length_le (by rw [hrow.1]; exact Nat.le_refl _)
 have hsrc' := hsrc ns.length (Nat.le_refl _)
 rw [hfull] at hsrc'
 split at hk
 ·rename_i sz es
  obtain ⟨rfl, hsmall, hk⟩ := hk
  obtain ⟨es', olds, rfl, hrow0, _, hsrc0⟩ := z3x (P := P) (K := fun es' => es' = es) h hpos hsr (by simp [srcW, viewS])
  have hold := hsrc0 es'.length (Nat.le_refl _)
  rw [List.take_of_length_le (by rw [hrow0.1]; exact Nat.le_refl _)] at hold
  have hsr' := hsr
  cases hsr with | c _ _ hsr =>
  cases hsr with | sl _ _ _ ad cap b o f hcap hsp ha hl hS hc hr =>
  have hce : cap = es'.length := by simpa using hsp [] rfl
  subst hce
  obtain ⟨r1, r2⟩ := z9w (w := w) (ty := ty) hu hux hkn hsz heb hb2 hb1 ad es'.length es'.length xv ns.length us olds hlen hsrc' hzz hold hsmall
  by_cases hne : ns = []
  ·subst hne
   have hus : us = [] := by have := hrow.1; simpa using this
   subst hus
   rw [if_pos rfl] at hk
   clear r2 hr hc hS hl ha
   cases ad with
   | none => rw [r1 (by simp) rfl]; exact Did.same h hk hsr'
   | some ad => rw [r1 (by simp) rfl]; exact Did.same h hk hsr'
  ·rw [if_neg hne] at hk
   have hpos2 : 0 < ns.length := List.length_pos_iff.2 hne
   obtain ⟨d, newCap, rest, ⟨h1, hbig⟩, h2, hrun⟩ := r2 (by omega)
   rw [hrun]
   obtain ⟨hst, hkp⟩ := h.draw d
   refine Did.after hkp ?_
   have hrA := hrow0.append hrow
   refine z8q hst site sz (es' ++ ns) none false (olds ++ us) rest e (0, 0) (es'.length + ns.length) newCap hpos hrA.2.1 hrA.1 ?_ (by simp) (.inl (Nat.le_refl _)) (by simp) (fun _ => hbig) (fun i j e x he hx => RelC.mono (S := S) (S' := S) (w := w) (w' := { w with drawn := d }) (fun _ _ h => h) (fun _ _ _ => rfl) (hrA.2.2 i j e x he hx)) hk
   rw [List.length_append, hrA.1, h2, List.length_append, ← Nat.add_mul]
   congr 1; omega
 ·rename_i id ver n
  split at hk
  ·rename_i v sz es cap0 pub hg
   obtain ⟨rfl, rfl, rfl, hsmall, hk⟩ := hk
   obtain ⟨es', olds, he', hrow0, _, hsrc0⟩ := z3x (P := P) (K := fun es' => es' = es) h hpos hsr (by simp [srcW, viewS, hg])
   subst he'
   have hold := hsrc0 es'.length (Nat.le_refl _)
   rw [List.take_of_length_le (by rw [hrow0.1]; exact Nat.le_refl _)] at hold
   cases hsr with | t _ _ _ b capn hv hn hsr =>
   obtain ⟨sz', es2, cap', pub', e', heq, _, hb, hsh⟩ := hsr _ hg rfl
   injection heq with _ q1 q2 q3 q4; subst q1 q2 q3 q4
   obtain ⟨r1, r2⟩ := z9w (w := w) (ty := ty) hu hux hkn hsz heb hb2 hb1 (some ⟨b, 0, none⟩) es'.length capn xv ns.length us olds hlen hsrc' hzz hold hsmall
   have hrA := hrow0.append hrow
   by_cases hle : es'.length + ns.length ≤ capn
   ·obtain ⟨_, h0, h1, h2, ⟨e3, capn3, hs3, hle3, hcap3⟩, _, _⟩ := h.inv.ob id _ hg
    rw [← hb] at h2 hs3
    have hul : us.length = ns.length * sz := hrow.1
    have hfitn : (es'.length + ns.length) * sz ≤ capn * sz := Nat.mul_le_mul_right sz hle
    rw [Nat.add_mul] at hfitn
    have hcell : ∀ j, j < us.length → (z0p w b (es'.length * sz + j)).isSome = true := fun j hj => by
     unfold World.shape? at hsh
     unfold z0p World.cell?
     cases hh : w.heap[b]? with
     | none => rw [hh] at hsh; simp at hsh
     | some ob =>
      rw [hh] at hsh
      cases ob with
      | cells cc e' fr =>
       simp only [Option.some.injEq, Prod.mk.injEq] at hsh
       have : es'.length * sz + j < cc.size := by omega
       simp [Array.getElem?_eq_getElem this]
      | _ => simp at hsh
    have hstore : (storeCells (⟨b, 0, none⟩ : Addr) us (es'.length * sz)).run P w = .ok () (w.setCells b (0 + es'.length * sz) us) :=
     run_storeCells_cells (P := P) b 0 us (es'.length * sz) w (fun j hj => by rw [Nat.zero_add]; exact hcell j hj) (fun j hj => by
      rw [Nat.zero_add]
      cases hz : w.frozen? ⟨b, es'.length * sz + j, none⟩ with
      | false => rfl
      | true => have := h2.1 _ hz _ _ hsh; omega) (hrow.solid hpos)
    have hstore' : (storeCells ((⟨b, 0, none⟩ : Addr).add (es'.length * sz)) us).run P w = .ok () (w.setCells b (es'.length * sz) us) := by
     rw [w6s, Nat.zero_add]
     have := run_storeCells_cells (P := P) b (es'.length * sz) us 0 w (fun j hj => by simpa using hcell j hj) (fun j hj => by
      cases hz : w.frozen? ⟨b, es'.length * sz + 0 + j, none⟩ with
      | false => rfl
      | true => have := h2.1 _ hz _ _ hsh; omega) (hrow.solid hpos)
     simpa using this
    rw [r1 hle (by simp only [Nat.zero_add]; exact hstore')]
    simp only [Nat.zero_add]
    obtain ⟨S2, hst2, hkp2⟩ := h.setArr hg (es'.length * sz) us (es' ++ ns) none (capn := capn) (by rw [← hb]; exact hsh) (by omega) (fun _ => Nat.le_refl _) (by rw [List.length_append]; omega) (by rw [List.length_append]; exact hle) (by simp)
     hrA.2.1 (fun k hk => by rw [List.length_append, Nat.add_mul] at hk; omega) (fun f hf i j e x he hx => by
      have hj : j < sz := by have := (List.getElem?_eq_some_iff.1 hx).1; rw [hrA.2.1 i e he] at this; exact this
      by_cases hi : i < es'.length
      ·rw [List.getElem?_append_left hi] at he
       have := z8r hi hj
       rw [if_neg (by omega)]; exact hf i j e x he hx
      ·rw [List.getElem?_append_right (by omega)] at he
       have hge := Nat.mul_le_mul_right sz (Nat.not_lt.1 hi)
       have hni := (List.getElem?_eq_some_iff.1 he).1
       have hlt := z8r hni hj
       have hsub : (i - es'.length) * sz + j = i * sz + j - es'.length * sz := by rw [Nat.sub_mul]; omega
       rw [if_pos ⟨by omega, by omega⟩, ← hsub]
       exact hrow.2.2 _ j e x he hx)
    rw [← hb] at hst2 hkp2
    have hg2 : (m.upd id (.arr v sz (es' ++ ns) none pub)).get id = some (.arr v sz (es' ++ ns) none pub) := by rw [z2g, if_pos rfl]
    obtain ⟨hst3, hkp3⟩ := hst2.rename hg2 id
    rw [del_upd] at hst3 hkp3
    refine ⟨_, _, S2, _, _, _, rfl, hk, ?_, hst3, hkp2.trans hkp3⟩
    exact .t id _ _ b capn (by rw [z2s]; exact Nat.lt_succ_self _) hle (fun ob hob _ => by
     rw [z1q, if_pos rfl] at hob; injection hob with hob; subst hob
     exact ⟨_, _, _, _, e', rfl, by simp, by simp [plAt, hb], by rw [z1e]; exact hsh⟩)
   ·obtain ⟨d, newCap, rest, ⟨h1, hbig⟩, h2, hrun⟩ := r2 (by omega)
    rw [hrun]
    obtain ⟨hst, hkp⟩ := h.draw d
    obtain ⟨hst1, hkp1⟩ := hst.del id
    refine Did.after (hkp.trans hkp1) ?_
    refine z8q hst1 id sz (es' ++ ns) none pub (olds ++ us) rest e (0, 0) (es'.length + ns.length) newCap hpos hrA.2.1 hrA.1 ?_ (by simp) (.inl (Nat.le_refl _)) (by simp) (fun _ => hbig) (fun i j e x he hx => RelC.mono (S := S) (S' := S) (w := w) (w' := { w with drawn := d }) (fun _ _ h => h) (fun _ _ _ => rfl) (hrA.2.2 i j e x he hx)) hk
    rw [List.length_append, hrA.1, h2, List.length_append, ← Nat.add_mul]
    congr 1; omega
  ·exact hk.elim
 ·exact hk.elim
theorem w4w (hT : TabOk P T) (h : St X S pl w m) {t t2 ty esz eb : Nat} {ea u8 : Bool} (hs : (T.at t).k = .sl esz ea eb u8) {d x : AV} {dv xv : Value}
  (hd : RelV S pl w m d dv) (hx : RelV S pl w m x xv) (hk : copyW esz m d x K) : Did X S pl w m ((Builtin.copy_ #[t, t2] ty #[dv, xv]).run P w) K := by
 obtain ⟨e, hu, hsz, heb, hkn, hpos, hb1, hb2, ⟨hz, hzl⟩, _⟩ := z1h hT hs
 unfold copyW at hk
 obtain ⟨ns, us, hk2, hrow, hlen, hsrc⟩ := z3x (P := P) h hpos hx hk
 clear hk
 have hk := hk2
 clear hk2
 split at hk
 ·rename_i id ver n
  split at hk
  ·rename_i v sz es cap hg
   obtain ⟨rfl, rfl, hne, hk⟩ := hk
   cases hd with | t _ _ _ b capn hv hn hd =>
   obtain ⟨sz', es2, cap', pub', e', heq, _, hb, hsh⟩ := hd _ hg rfl
   injection heq with _ q1 q2 q3 q4; subst q1 q2 q3 q4
   obtain ⟨_, h0, h1, h2, ⟨e3, capn3, hs3, hle3, hcap3⟩, ⟨hl3, _⟩, _⟩ := h.inv.ob id _ hg
   rw [← hb] at h2 hs3
   have hcc : capn3 = capn := by
    rw [hsh] at hs3; injection hs3 with hs3; injection hs3 with _ hs3
    exact (Nat.eq_of_mul_eq_mul_right h1 hs3).symm
   subst hcc
   generalize hkk : min ns.length n = k at hk
   have hk1 : k ≤ ns.length := by omega
   have hk2 : k ≤ es.length := by omega
   have hsrc' := hsrc k hk1 w.drawn
   have hkm : k * sz ≤ capn3 * sz := Nat.mul_le_mul_right sz (by omega)
   have hrt := hrow.take k
   have hul : (us.take (k * sz)).length = k * sz := by rw [hrt.1, List.length_take, Nat.min_eq_left hk1]
   have hcell : ∀ j, j < k * sz → (z0p w b j).isSome = true := fun j hj => by
    unfold World.shape? at hsh
    unfold z0p World.cell?
    cases hh : w.heap[b]? with
    | none => rw [hh] at hsh; simp at hsh
    | some ob =>
     rw [hh] at hsh
     cases ob with
     | cells cc e' fr =>
      simp only [Option.some.injEq, Prod.mk.injEq] at hsh
      have : j < cc.size := by omega
      simp [Array.getElem?_eq_getElem this]
     | _ => simp at hsh
   have hstore : (storeCells (⟨b, 0, none⟩ : Addr) (us.take (k * sz))).run P w = .ok () (w.setCells b 0 (us.take (k * sz))) := by
    have := run_storeCells_cells (P := P) b 0 (us.take (k * sz)) 0 w (fun j hj => by simpa using hcell j (by omega)) (fun j hj => by
     cases hz : w.frozen? ⟨b, 0 + 0 + j, none⟩ with
     | false => rfl
     | true => have := h2.1 _ hz _ _ hsh; omega) (hrt.solid hpos)
    simpa using this
   have hrun : (Builtin.copy_ #[t, t2] ty #[.slice (some ⟨b, 0, none⟩) n capn3, xv]).run P w = .ok (goInt k) (w.setCells b 0 (us.take (k * sz))) := by
    unfold Builtin.copy_
    have g0 : (#[t, t2] : Array TypeId)[0]? = some t := rfl
    have g2 : (#[.slice (some ⟨b, 0, none⟩) n capn3, xv] : Array Value)[0]? = some (.slice (some ⟨b, 0, none⟩) n capn3) := rfl
    have g3 : (#[.slice (some ⟨b, 0, none⟩) n capn3, xv] : Array Value)[1]? = some xv := rfl
    simp only [g0, g2, g3, Sem.run_bind, run_underlying hu, Result.andThen_ok, hlen, z0t hkn, hsz]
    rw [show Nat.min ns.length n = k from hkk, show (Builtin.firstCells sz k xv).run P w = .ok (us.take (k * sz)).toArray w from hsrc']
    simp only [Result.andThen_ok, hstore, Sem.run_pure]
   rw [hrun]
   obtain ⟨S2, hst2, hkp2⟩ := h.setArr hg 0 (us.take (k * sz)) (ns.take k ++ es.drop k) cap (capn := capn3) (by rw [← hb]; exact hsh) (by omega) (by simp) (by simp; omega) (by simp; omega) hcap3
    (fun i e he => by
     by_cases hi : i < k
     ·rw [List.getElem?_append_left (by simp; omega)] at he; exact hrt.2.1 i e he
     ·rw [List.getElem?_append_right (by simp; omega), List.getElem?_drop] at he; exact hl3 _ e he)
    (fun q hq => .inl (by
     have : (ns.take k ++ es.drop k).length = es.length := by simp; omega
     rwa [this] at hq)) (fun f hf i j e x he hx => by
     have hki : (ns.take k).length = k := by simp; omega
     by_cases hi : i < k
     ·rw [List.getElem?_append_left (by omega)] at he
      have hj : j < sz := by have := (List.getElem?_eq_some_iff.1 hx).1; rw [hrt.2.1 i e he] at this; exact this
      have := z8r hi hj
      rw [if_pos ⟨by omega, by omega⟩, Nat.sub_zero]; exact hrt.2.2 i j e x he hx
     ·rw [List.getElem?_append_right (by omega), List.getElem?_drop, hki, show k + (i - k) = i by omega] at he
      have := Nat.mul_le_mul_right sz (Nat.not_lt.1 hi)
      rw [if_neg (by omega)]; exact hf i j e x he hx)
   rw [← hb] at hst2 hkp2
   exact ⟨_, _, S2, pl, _, _, rfl, hk, .c _ _ (.v _ rfl), hst2, hkp2⟩
  ·exact hk.elim
 ·exact hk.elim
theorem z9g : ∀ (es : List (List CV)) (b : List UInt8), bytesOf es = some b → b.length = es.length ∧ ∀ (i : Nat) c, b[i]? = some c → ∃ n, es[i]? = some [.v (.int .u8 n)] ∧ c = UInt8.ofNat n.toNat
 | [], b, h => by simp [bytesOf] at h; subst h; exact ⟨rfl, fun i c h => by simp at h⟩
 | e :: es, b, h => by
  unfold bytesOf at h
  split at h
  ·simp at *
  ·rename_i n r heq
   injection heq with h1 h2; subst h1 h2
   cases hb : bytesOf es with
   | none => rw [hb] at h; simp at h
   | some b' =>
    rw [hb] at h; simp at h; subst h
    obtain ⟨h1, h2⟩ := z9g es b' hb
    refine ⟨by simp [h1], fun i c hc => ?_⟩
    cases i with
    | zero => simp at hc; exact ⟨n, rfl, hc.symm⟩
    | succ i => exact h2 i c (by simpa using hc)
  ·simp at h
theorem w3c : ∀ (l : List Int) (r : ByteArray), l.foldl (fun (r : ByteArray) n => r.push (UInt8.ofNat n.toNat)) r = ⟨r.data ++ (l.map fun n => UInt8.ofNat n.toNat).toArray⟩
 | [], r => by simp
 | n :: l, r => by
  rw [List.foldl_cons, w3c l]
  congr 1
  apply Array.ext'
  simp [ByteArray.push]
theorem k1h {esz : Nat} {y : AV} {a : Value} {F : List (List CV) → Prop} (hx : RelV S pl w m y a) (hk : viewS esz m y F) : srcW esz m y F ∧ ∃ ad n cap, a = .slice ad n cap := by
 cases y with
 | c x =>
  cases x with
  | sl sz es sp =>
   refine ⟨hk, ?_⟩
   cases hx with | c _ _ hx => cases hx; exact ⟨_, _, _, rfl⟩
  | _ => exact hk.elim
 | t id ver n => refine ⟨hk, ?_⟩; cases hx; exact ⟨_, _, _, rfl⟩
 | _ => exact hk.elim
theorem w4x (hT : TabOk P T) (h : St X S pl w m) {s d : Nat} (id : Nat) {x : AV} {a : Value} (hx : RelV S pl w m x a) (hk : convW (T.at s).k (T.at d).k id m x K) : Did X S pl w m ((convert s d a).run P w) K := by
 unfold convW at hk
 split at hk
 ·rename_i k1 k2 i n h1 h2
  have e1 := z0z hx; subst e1
  unfold convert
  simp only [Sem.run_bind, run_underlying (w2w hT h1), run_underlying (w2w hT h2), Result.andThen_ok]
  exact Did.lit h rfl hk
 ·rename_i i h1 h2
  have e1 := z0z hx; subst e1
  unfold convert
  simp only [Sem.run_bind, run_underlying (z2l hT h1), run_underlying (z2l hT h2), Result.andThen_ok]
  exact Did.lit h rfl hk
 ·rename_i st h1 h2
  have e1 := z0z hx; subst e1
  obtain ⟨e, hu, hsz, heb, hkn, hpos, hb1, hb2, ⟨hz, hzl⟩, hu8⟩ := z1h hT h2
  rw [run_bytes_of_string w s d e st (z2l hT h1) hu (hu8 rfl)]
  obtain ⟨hst, hkp⟩ := h.draw (w.drawn + 1)
  refine Did.after hkp ?_
  generalize hc : grownCap w st.size 0 e = c
  have hcle : st.size ≤ c := by rw [← hc]; unfold grownCap; simp [Question.cut]
  have hrow : bytesRow st c = (st.data.toList.map (fun (b : UInt8) => Value.int .u8 (b.toNat : Int)) ++ List.replicate (c - st.size) (Value.int .u8 0)).toArray := by
   unfold bytesRow; apply Array.ext'; simp
  rw [hrow]
  refine z8q hst id 1 (encB st.data.toList) none true _ _ e _ st.size c (by omega) (fun i e he => ?_) (by simp [encB]) (by simp; have : st.data.size = st.size := rfl; omega) (by simp) (.inr (by simp)) (by simp [encB]) (by intro q; cases q) (fun i j e x he hx => ?_) hk
  ·simp only [encB, List.getElem?_map] at he
   cases hs : st.data.toList[i]? with
   | none => rw [hs] at he; simp at he
   | some c => rw [hs] at he; simp at he; subst he; rfl
  ·simp only [encB, List.getElem?_map] at he
   cases hs : st.data.toList[i]? with
   | none => rw [hs] at he; simp at he
   | some c =>
    rw [hs] at he; simp at he; subst he
    cases j with
    | succ j => simp at hx
    | zero =>
     simp at hx; subst hx
     have : (st.data.toList.map fun b => Value.int .u8 b.toNat).getD (i * 1 + 0) undef = .int .u8 c.toNat := by
      rw [Nat.mul_one, Nat.add_zero]; simp only [List.getD, List.getElem?_map, hs]; rfl
     rw [this]; exact .v _ rfl
 ·rename_i h1 h2
  obtain ⟨e, hu, hsz, heb, hkn, hpos, hb1, hb2, _, hu8⟩ := z1h hT h1
  obtain ⟨hk2, ad, n, cap, rfl⟩ := k1h hx hk
  clear hk
  obtain ⟨ns, us, hk, hrow, hlen, hsrc⟩ := z3x (P := P) h (by omega) hx hk2
  have hn : ns.length = n := by simpa [Builtin.lenOf] using hlen.symm
  have hsrc' := hsrc ns.length (Nat.le_refl _) w.drawn
  rw [List.take_of_length_le (by rw [hrow.1]; exact Nat.le_refl _)] at hsrc'
  split at hk
  ·rename_i b hb
   obtain ⟨hbl, hbg⟩ := z9g ns b hb
   rw [run_convert_bytes_string w s d e ad n cap hu (hu8 rfl) (z2l hT h2)]
   have hints : ∃ l : List Int, us = l.map (Value.int .u8) ∧ l.map (fun n => UInt8.ofNat n.toNat) = b := by
    refine ⟨us.map fun u => match u with | .int _ n => n | _ => 0, ?_, ?_⟩
    ·apply List.ext_getElem?
     intro i
     simp only [List.getElem?_map]
     cases hi : us[i]? with
     | none => rfl
     | some u =>
      have hil : i < us.length := (List.getElem?_eq_some_iff.1 hi).1
      have hbil : i < b.length := by rw [hbl]; have := hrow.1; omega
      have hbi : b[i]? = some b[i] := List.getElem?_eq_getElem hbil
      obtain ⟨q, hq, _⟩ := hbg i _ hbi
      have hr := hrow.2.2 i 0 _ _ hq rfl
      rw [Nat.mul_one, Nat.add_zero, show us.getD i undef = u by simp [List.getD, hi]] at hr
      cases hr; rfl
    ·apply List.ext_getElem?
     intro i
     simp only [List.getElem?_map]
     cases hi : us[i]? with
     | none =>
      have : us.length ≤ i := List.getElem?_eq_none_iff.1 hi
      rw [List.getElem?_eq_none (by rw [hbl]; have := hrow.1; omega)]; rfl
     | some u =>
      have hil : i < us.length := (List.getElem?_eq_some_iff.1 hi).1
      have hbil : i < b.length := by rw [hbl]; have := hrow.1; omega
      have hbi : b[i]? = some b[i] := List.getElem?_eq_getElem hbil
      obtain ⟨q, hq, hqc⟩ := hbg i _ hbi
      have hr := hrow.2.2 i 0 _ _ hq rfl
      rw [Nat.mul_one, Nat.add_zero, show us.getD i undef = u by simp [List.getD, hi]] at hr
      cases hr
      rw [hbi, hqc]; rfl
   obtain ⟨l, rfl, rfl⟩ := hints
   cases ad with
   | none =>
    have hl0 : l = [] := by
     have h0 : (Result.ok (#[] : Array Value) w : Result (Array Value)) = .ok (l.map (Value.int .u8)).toArray w := hsrc'
     injection h0 with h0 _
     have := congrArg Array.size h0
     cases l with
     | nil => rfl
     | cons _ _ => simp at this
    subst hl0
    exact Did.lit h rfl hk
   | some ad =>
    simp only [Builtin.firstCells, Nat.mul_one, hn] at hsrc'
    rw [run_bytesToString w ad n cap l hsrc', w3c]
    refine Did.lit h rfl ?_
    have : (ByteArray.empty.data ++ (l.map fun n => UInt8.ofNat n.toNat).toArray) = (l.map fun n => UInt8.ofNat n.toNat).toArray := by
     rw [show ByteArray.empty.data = #[] from rfl]; simp
    rw [this]; exact hk
  ·exact hk.elim
 ·exact hk.elim
end
end Go.Proofs.Ythncmjlcmlmnmaa.V
namespace Go.Proofs.Ythncmjlcmlmnmaa.V
open Go Go.RowKit
def ArrOk (S : Area) (w : World) (b sz : Nat) (es : List (List CV)) (cap : Option Nat) (pub : Bool) (n capn : Nat) : Prop :=
 0 < sz ∧ ThawA w b pub sz ∧ (∃ e, w.shape? b = some (e, capn * sz)) ∧ es.length ≤ capn ∧ (∀ c, cap = some c → capn = c) ∧ RowE S w b sz es ∧ (pub = true → ∀ o, o < es.length * sz → S b o) ∧ n ≤ es.length
mutual
inductive Own (S : Area) (w : World) : Area → OV → Value → Prop
 | c (x : CV) (u : Value) (h : RelC S w x u) : Own S w (fun _ _ => False) (.c x) u
 | arr (sz : Nat) (es : List (List CV)) (cap : Option Nat) (pub : Bool) (n b capn : Nat) (h : ArrOk S w b sz es cap pub n capn) :
   Own S w (fun b' o => b' = b ∧ (pub = true → es.length * sz ≤ o)) (.arr sz es cap pub n) (.slice (some ⟨b, 0, none⟩) n capn)
 | ptr (cs : List OV) (us : List Value) (b o : Nat) (F : Area) (h : OwnL S w F cs us) (hb : b < w.heap.size) (ht : z7t w b)
   (hc : ∀ (j : Nat) u, us[j]? = some u → z0p w b (o + j) = some u) (hd : ∀ b' o', F b' o' → ¬ (b' = b ∧ o ≤ o' ∧ o' < o + us.length)) :
   Own S w (fun b' o' => F b' o' ∨ b' = b ∧ o ≤ o' ∧ o' < o + us.length) (.ptr cs) (.pointer (some ⟨b, o, none⟩))
 | agg (cs : List OV) (us : List Value) (F : Area) (h : OwnL S w F cs us) : Own S w F (.agg cs) (.agg us.toArray)
 | tup (cs : List OV) (us : List Value) (F : Area) (h : OwnL S w F cs us) : Own S w F (.tup cs) (.tuple us.toArray)
inductive OwnL (S : Area) (w : World) : Area → List OV → List Value → Prop
 | nil : OwnL S w (fun _ _ => False) [] []
 | cons (o : OV) (u : Value) (os : List OV) (us : List Value) (F1 F2 : Area) (h1 : Own S w F1 o u) (h2 : OwnL S w F2 os us) (hd : ∀ b o, F1 b o → ¬ F2 b o) :
   OwnL S w (fun b o => F1 b o ∨ F2 b o) (o :: os) (u :: us)
end
theorem OwnL.length {S : Area} {w : World} : ∀ {os : List OV} {us : List Value} {F : Area}, OwnL S w F os us → us.length = os.length
 | [], _, _, h => by cases h; rfl
 | _ :: os, _, _, h => by cases h with | cons _ _ _ _ _ _ _ h2 _ => simp [h2.length]
section keep
variable {S S' : Area} {w w' : World}
structure Still (S S' : Area) (w w' : World) (F : Area) : Prop where
 sub : ∀ b o, S b o → S' b o
 cell : ∀ b o, S b o → z0p w' b o = z0p w b o
 own : ∀ b o, F b o → z0p w' b o = z0p w b o
 size : w.heap.size ≤ w'.heap.size
 shape : ∀ b, b < w.heap.size → w'.shape? b = w.shape? b
 frz : ∀ b o, b < w.heap.size → w'.frozen? ⟨b, o, none⟩ = w.frozen? ⟨b, o, none⟩
theorem Still.of {F F' : Area} (h : Still S S' w w' F) (hF : ∀ b o, F' b o → F b o) : Still S S' w w' F' := ⟨h.sub, h.cell, fun b o q => h.own b o (hF b o q), h.size, h.shape, h.frz⟩
theorem Still.thaw {F : Area} (h : Still S S' w w' F) {b : Nat} (hb : b < w.heap.size) (ht : z7t w b) : z7t w' b :=
 fun o hz e s hs => ht o (by rw [← h.frz b o hb]; exact hz) e s (by rw [← h.shape b hb]; exact hs)
theorem ArrOk.keep {b sz : Nat} {es : List (List CV)} {cap : Option Nat} {pub : Bool} {n capn : Nat} (hs : Still S S' w w' (fun b' o => b' = b ∧ (pub = true → es.length * sz ≤ o))) (h : ArrOk S w b sz es cap pub n capn) : ArrOk S' w' b sz es cap pub n capn := by
 obtain ⟨h1, h2, ⟨e, h3⟩, h4, h5, ⟨hl, f, hc, hr⟩, h7, h8⟩ := h
 have hb := z2v h3
 refine ⟨h1, ⟨hs.thaw hb h2.1, by rw [hs.shape b hb]; exact h2.2⟩, ⟨e, by rw [hs.shape b hb]; exact h3⟩, h4, h5, ⟨hl, f, fun k hk => ?_, fun i j e x he hx => (hr i j e x he hx).mono hs.sub hs.cell⟩, fun hp o ho => hs.sub _ _ (h7 hp o ho), h8⟩
 cases pub with
 | true => exact (hs.cell _ _ (h7 rfl _ hk)).trans (hc k hk)
 | false => exact (hs.own _ _ ⟨rfl, by simp⟩).trans (hc k hk)
mutual
theorem Own.keep : ∀ {o : OV} {u : Value} {F : Area}, Own S w F o u → Still S S' w w' F → Own S' w' F o u
 | _, _, _, .c x u h, hs => .c x u (h.mono hs.sub hs.cell)
 | _, _, _, .arr sz es cap pub n b capn h, hs => .arr sz es cap pub n b capn (h.keep hs)
 | _, _, _, .ptr cs us b o F h hb ht hc hd, hs => .ptr cs us b o F (h.keep (hs.of fun _ _ q => .inl q)) (Nat.lt_of_lt_of_le hb hs.size) (hs.thaw hb ht)
   (fun j u hu => (hs.own _ _ (.inr ⟨rfl, by omega, by have := (List.getElem?_eq_some_iff.1 hu).1; omega⟩)).trans (hc j u hu)) hd
 | _, _, _, .agg cs us F h, hs => .agg cs us F (h.keep hs)
 | _, _, _, .tup cs us F h, hs => .tup cs us F (h.keep hs)
theorem OwnL.keep : ∀ {os : List OV} {us : List Value} {F : Area}, OwnL S w F os us → Still S S' w w' F → OwnL S' w' F os us
 | _, _, _, .nil, _ => .nil
 | _, _, _, .cons o u os us F1 F2 h1 h2 hd, hs => .cons o u os us F1 F2 (h1.keep (hs.of fun _ _ q => .inl q)) (h2.keep (hs.of fun _ _ q => .inr q)) hd
end
end keep
section
variable {X : Ctx} {w : World}
structure Packed (X : Ctx) (S S' : Area) (pl : Place) (w : World) (m m' : Mem) (F : Area) : Prop where
 st : St X S' pl w m'
 kp : Keeps S S' pl pl w w m m'
 sh : Shrinks S S' pl m m'
 off : ∀ b o, F b o → Feet pl m b o ∧ ¬ Feet pl m' b o
 no : ∀ b o, F b o → ¬ S' b o
theorem Packed.still {S S' : Area} {pl : Place} {m m' : Mem} {F : Area} (h : Packed X S S' pl w m m' F) (F' : Area) : Still S S' w w F' :=
 ⟨h.kp.sub, fun _ _ _ => rfl, fun _ _ _ => rfl, Nat.le_refl _, fun _ _ => rfl, fun _ _ _ => rfl⟩
def k3a (X : Ctx) (w : World) (pk : Mem → AV → (OV → Mem → Prop) → Prop) : Prop :=
 ∀ {S : Area} {pl : Place} {m : Mem} {x : AV} {u : Value} {K : OV → Mem → Prop}, St X S pl w m → RelV S pl w m x u → pk m x K → ∃ S' o m' F, K o m' ∧ Own S' w F o u ∧ Packed X S S' pl w m m' F
theorem z2d {pk : Mem → AV → (OV → Mem → Prop) → Prop} (hp : k3a X w pk) : ∀ (xs : List AV) (us : List Value) {S : Area} {pl : Place} {m : Mem} {K : List OV → Mem → Prop}, St X S pl w m → us.length = xs.length →
  (∀ (j : Nat) x u, xs[j]? = some x → us[j]? = some u → RelV S pl w m x u) → z3b pk m xs K → ∃ S' os m' F, K os m' ∧ OwnL S' w F os us ∧ Packed X S S' pl w m m' F
 | [], [], S, pl, m, K, h, _, _, hk => ⟨S, [], m, _, hk, .nil, h, Keeps.refl _ _ _ _, Shrinks.refl _ _ _, fun _ _ q => q.elim, fun _ _ q => q.elim⟩
 | [], _ :: _, _, _, _, _, _, hl, _, _ => by simp at hl
 | _ :: _, [], _, _, _, _, _, hl, _, _ => by simp at hl
 | x :: xs, u :: us, S, pl, m, K, h, hl, hr, hk => by
  obtain ⟨S1, o, m1, F1, hk1, ho, p1⟩ := hp h (hr 0 x u rfl rfl) hk
  obtain ⟨S2, os, m2, F2, hk2, hos, p2⟩ := z2d hp xs us p1.st (by simpa using hl) (fun j x u hx hu => (hr (j + 1) x u (by simpa using hx) (by simpa using hu)).mono p1.kp) hk1
  refine ⟨S2, o :: os, m2, _, hk2, .cons o u os us F1 F2 (ho.keep (p2.still _)) hos (fun b q h1 h2 => (p1.off b q h1).2 (p2.off b q h2).1), p2.st, p1.kp.trans p2.kp, p1.sh.trans p2.sh, fun b q hf => ?_, fun b q hf => ?_⟩
  rotate_left
  ·rcases hf with hf | hf
   ·exact fun hs => (p2.sh.grow b q hs).elim (p1.no b q hf) (p1.off b q hf).2
   ·exact p2.no b q hf
  rcases hf with hf | hf
  ·exact ⟨(p1.off b q hf).1, fun q' => (p1.off b q hf).2 (p2.sh.feet b q q')⟩
  ·exact ⟨p1.sh.feet b q (p2.off b q hf).1, (p2.off b q hf).2⟩
theorem w1i {S : Area} {pl : Place} {m : Mem} (h : Inv S pl w m) {i : Nat} {ob : Ob} (hob : m.get i = some ob) : (∀ b o, Feet pl (m.del i) b o → Feet pl m b o) ∧ ∀ b o, ob.foot (pl i) b o → Feet pl m b o ∧ ¬ Feet pl (m.del i) b o := by
 have hne : ∀ id ob, (m.del i).get id = some ob → m.get id = some ob ∧ id ≠ i := fun id ob hg => by
  rw [w1g] at hg; split at hg
  ·simp at hg
  ·exact ⟨hg, by assumption⟩
 refine ⟨fun b o ⟨id, ob', hg, hf⟩ => ⟨id, ob', (hne id ob' hg).1, hf⟩, fun b o hf => ⟨⟨i, ob, hob, hf⟩, fun ⟨id, ob', hg, hf'⟩ => h.apart id i ob' ob (hne id ob' hg).1 hob (hne id ob' hg).2 b o hf' hf⟩⟩
def k3b (pk : Mem → AV → (OV → Mem → Prop) → Prop) : Prop := ∀ {m : Mem} {x : AV} {K : OV → Mem → Prop}, pk m x K → x.isDead = false ∧ ∃ o m', K o m'
theorem z4b {pk : Mem → AV → (OV → Mem → Prop) → Prop} (hp : k3b pk) : ∀ (xs : List AV) {m : Mem} {K : List OV → Mem → Prop}, z3b pk m xs K → (∀ x ∈ xs, x.isDead = false) ∧ ∃ os m', K os m'
 | [], m, _, hk => ⟨fun x hx => by simp at hx, _, m, hk⟩
 | x :: xs, _, _, hk => by
  obtain ⟨h1, o, m1, hk1⟩ := hp hk
  obtain ⟨h2, os, m2, hk2⟩ := z4b hp xs hk1
  refine ⟨fun y hy => ?_, _, m2, hk2⟩
  rcases List.mem_cons.1 hy with rfl | hy
  ·exact h1
  ·exact h2 y hy
theorem w5x (k : Nat) : k3b (packW k) := by
 induction k with
 | zero => intro m x K hk; exact hk.elim
 | succ k ih =>
  intro m x K hk
  cases x with
  | c x => exact ⟨rfl, _, m, hk⟩
  | t id ver n =>
   simp only [packW] at hk
   split at hk
   ·exact ⟨rfl, _, _, hk.2.2⟩
   ·exact hk.elim
  | p id ver off =>
   cases off with
   | succ off => simp only [packW] at hk
   | zero =>
    simp only [packW] at hk
    split at hk
    ·obtain ⟨_, os, m', h⟩ := z4b ih _ hk.2; exact ⟨rfl, _, m', h⟩
    ·exact hk.elim
  | agg cs => obtain ⟨_, os, m', h⟩ := z4b ih _ hk; exact ⟨rfl, _, m', h⟩
  | tup cs => obtain ⟨_, os, m', h⟩ := z4b ih _ hk; exact ⟨rfl, _, m', h⟩
  | _ => simp only [packW] at hk
theorem RowA.list {S : Area} {pl : Place} {m : Mem} {b o : Nat} {cs : List AV} (h : RowA S pl w m b o cs) : ∃ us : List Value, us.length = cs.length ∧ (∀ (j : Nat) u, us[j]? = some u → z0p w b (o + j) = some u) ∧
  ∀ (j : Nat) x u, cs[j]? = some x → us[j]? = some u → RelV S pl w m x u := by
 refine ⟨(List.range cs.length).map fun j => (z0p w b (o + j)).getD undef, by simp, fun j u hu => ?_, fun j x u hx hu => ?_⟩
 ·rw [List.getElem?_map] at hu
  by_cases hj : j < cs.length
  ·rw [List.getElem?_range hj] at hu
   obtain ⟨v, hv, _⟩ := h j _ (List.getElem?_eq_getElem hj)
   simp [hv] at hu; subst hu; exact hv
  ·rw [List.getElem?_eq_none (by simp; omega)] at hu; simp at hu
 ·have hj := (List.getElem?_eq_some_iff.1 hx).1
  rw [List.getElem?_map, List.getElem?_range hj] at hu
  obtain ⟨v, hv, hr⟩ := h j x hx
  simp [hv] at hu; subst hu; exact hr
theorem z4j (k : Nat) : k3a X w (packW k) := by
 induction k with
 | zero => intro S pl m x u K _ _ hk; exact hk.elim
 | succ k ih =>
  intro S pl m x u K h hr hk
  cases x with
  | c x => cases hr with | c _ _ hr => exact ⟨S, _, m, _, hk, .c _ _ hr, h, Keeps.refl _ _ _ _, Shrinks.refl _ _ _, fun _ _ q => q.elim, fun _ _ q => q.elim⟩
  | t id ver n =>
   simp only [packW] at hk
   split at hk
   ·rename_i v sz es cap pub hg
    obtain ⟨rfl, hn, hk⟩ := hk
    cases hr with | t _ _ _ b capn hv hnc hr =>
    obtain ⟨sz', es', cap', pub', e, heq, _, hb, hs⟩ := hr _ hg rfl
    injection heq with _ q1 q2 q3 q4; subst q1 q2 q3 q4
    obtain ⟨hv', h0, h1, h2, ⟨e3, capn3, hs3, hle3, hcap3⟩, hrow, hp⟩ := h.inv.ob id _ hg
    rw [← hb] at h2 hs3 hrow hp
    have hcc : capn3 = capn := by
     rw [hs] at hs3; injection hs3 with hs3; injection hs3 with _ hs3
     exact (Nat.eq_of_mul_eq_mul_right h1 hs3).symm
    subst hcc
    obtain ⟨hst, hkp⟩ := h.del id
    obtain ⟨f1, f2⟩ := w1i h.inv hg
    exact ⟨S, _, _, _, hk, .arr sz es cap pub n b capn3 ⟨h1, h2, ⟨e, hs⟩, hle3, hcap3, hrow, hp, hn⟩, hst, hkp, ⟨fun _ _ q => .inl q, f1⟩, fun b' o hf => f2 b' o ⟨by rw [← hb]; exact hf.1, hf.2⟩, fun b' o hf => h.inv.free id _ hg b' o ⟨by rw [← hb]; exact hf.1, hf.2⟩⟩
   ·exact hk.elim
  | p id ver off =>
   cases off with
   | succ off => simp only [packW] at hk
   | zero =>
    simp only [packW] at hk
    split at hk
    ·rename_i v cs hg
     obtain ⟨rfl, hk⟩ := hk
     cases hr with | p _ _ _ b o hv hr =>
     obtain ⟨_, hb⟩ := hr _ hg rfl
     obtain ⟨hv', h1, h2, hrow⟩ := h.inv.ob id _ hg
     obtain ⟨us, hul, huc, hur⟩ := hrow.list
     have hb1 : (pl id).1 = b := by rw [← hb]
     have hb2 : (pl id).2 = o := by rw [← hb]
     obtain ⟨hst, hkp⟩ := h.del id
     obtain ⟨f1, f2⟩ := w1i h.inv hg
     obtain ⟨hlive, _⟩ := z4b (w5x k) cs hk
     obtain ⟨S', os, m', F, hk, ho, hp⟩ := z2d ih cs us hst hul (fun j x u hx hu => (hur j x u hx hu).mono hkp) hk
     have hreg : ∀ b' o', (b' = b ∧ o ≤ o' ∧ o' < o + us.length) → (Ob.blk v cs).foot (pl id) b' o' := fun b' o' ⟨q1, q2, q3⟩ => by
      have hj : o' - o < cs.length := by omega
      have hx : cs[o' - o]? = some cs[o' - o] := List.getElem?_eq_getElem hj
      exact ⟨by rw [q1, hb1], o' - o, _, hx, hlive _ (List.mem_of_getElem? hx), by rw [hb2]; omega⟩
     rw [hb1] at h1 h2 huc
     rw [hb2] at huc
     refine ⟨S', _, m', _, hk, .ptr os us b o F ho h1 h2 huc (fun b' o' q1 q2 => ?_), hp.st, hkp.trans hp.kp, ⟨fun b' o' q => ?_, fun b' o' q => f1 _ _ (hp.sh.feet _ _ q)⟩, fun b' o' q => ?_, fun b' o' q => ?_⟩
     ·exact (f2 b' o' (hreg b' o' q2)).2 (hp.off b' o' q1).1
     ·exact (hp.sh.grow b' o' q).imp (fun q => q) (f1 b' o')
     ·rcases q with q | q
      ·exact ⟨f1 _ _ (hp.off b' o' q).1, (hp.off b' o' q).2⟩
      ·obtain ⟨g1, g2⟩ := f2 b' o' (hreg b' o' q)
       exact ⟨g1, fun q' => g2 (hp.sh.feet _ _ q')⟩
     ·rcases q with q | q
      ·exact hp.no b' o' q
      ·exact fun hs => (hp.sh.grow b' o' hs).elim (h.inv.free id _ hg b' o' (hreg b' o' q)) (f2 b' o' (hreg b' o' q)).2
    ·exact hk.elim
  | agg cs =>
   cases hr with | agg _ us hl hr =>
   obtain ⟨S', os, m', F, hk, ho, hp⟩ := z2d ih cs us h hl hr hk
   exact ⟨S', _, m', F, hk, .agg os us F ho, hp⟩
  | tup cs =>
   cases hr with | tup _ us hl hr =>
   obtain ⟨S', os, m', F, hk, ho, hp⟩ := z2d ih cs us h hl hr hk
   exact ⟨S', _, m', F, hk, .tup os us F ho, hp⟩
  | _ => simp only [packW] at hk
end
end Go.Proofs.Ythncmjlcmlmnmaa.V
namespace Go.Proofs.Ythncmjlcmlmnmaa.V
open Go Go.RowKit
section
variable {X : Ctx} {w : World}
structure Laid (X : Ctx) (S : Area) (pl pl' : Place) (w : World) (m m' : Mem) (F : Area) : Prop where
 st : St X S pl' w m'
 kp : Keeps S S pl pl' w w m m'
 feet : ∀ b o, Feet pl' m' b o → Feet pl m b o ∨ F b o
theorem St.adopt {S : Area} {pl : Place} {m : Mem} (h : St X S pl w m) (id : Nat) (f : Nat → Ob) (q : Nat × Nat) (F : Area) (hv : (f m.clk).ver = m.clk)
  (hF : ∀ b o, F b o → (X.F0 b o ∨ X.w0.heap.size ≤ b) ∧ ¬ S b o ∧ ¬ Feet pl m b o) (hfoot : ∀ b o, (f m.clk).foot q b o → F b o)
  (hok : ∀ {pl' m'}, Keeps S S pl pl' w w m m' → ObOk S pl' w m' q (f m.clk)) : Laid X S pl (plAt pl id q) w m (m.new id f) F := by
 have hne : ∀ i ob, i ≠ id → (m.new id f).get i = some ob → m.get i = some ob := fun i ob hi hg => by rw [z1q, if_neg hi] at hg; exact hg
 have k : Keeps S S pl (plAt pl id q) w w m (m.new id f) :=
  ⟨fun _ _ h => h, fun _ _ _ => rfl, fun _ _ h => h, by rw [z2s]; omega, fun i ob hg hlt => by
   by_cases hi : i = id
   ·subst hi; rw [z1q, if_pos rfl] at hg; injection hg with hg; subst hg; rw [hv] at hlt; exact absurd hlt (Nat.lt_irrefl _)
   ·exact ⟨ob, hne i ob hi hg, by cases ob <;> simp [Ob.alike], by simp [plAt, hi]⟩⟩
 have hpl : plAt pl id q id = q := by simp [plAt]
 refine ⟨h.step1 id (fun _ _ => False) k (Ext.refl _ _) (fun _ _ hf => hf.elim) (fun b o hs => ⟨h.inv.low b o hs, .inl hs⟩) (fun i ob hi hg => ⟨hne i ob hi hg, by simp [plAt, hi]⟩)
  (fun i ob hi hg b o hf => ⟨fun hf => hf, h.inv.free i ob (hne i ob hi hg) b o hf⟩) (fun ob hg => ?_), k, fun b o ⟨i, ob, hg, hf⟩ => ?_⟩
 ·rw [z1q, if_pos rfl] at hg; injection hg with hg; subst hg
  rw [hpl]
  refine ⟨by rw [hv, z2s]; exact Nat.lt_succ_self _, hok k, fun b o hf => ?_⟩
  obtain ⟨h1, h2, h3⟩ := hF b o (hfoot b o hf)
  exact ⟨h1, h2, fun i ob' hi hg hf2 => h3 ⟨i, ob', hne i ob' hi hg, hf2⟩⟩
 ·by_cases hi : i = id
  ·subst hi; rw [z1q, if_pos rfl] at hg; injection hg with hg; subst hg
   rw [hpl] at hf; exact .inr (hfoot b o hf)
  ·exact .inl ⟨i, ob, hne i ob hi hg, by simpa [plAt, hi] using hf⟩
def Mine (X : Ctx) (S : Area) (pl : Place) (m : Mem) (F : Area) : Prop := ∀ b o, F b o → (X.F0 b o ∨ X.w0.heap.size ≤ b) ∧ ¬ S b o ∧ ¬ Feet pl m b o
def w6t (X : Ctx) (w : World) (un : Nat → Mem → OV → AV × Nat × Mem) : Prop :=
 ∀ (id : Nat) {S : Area} {pl : Place} {m : Mem} {o : OV} {u : Value} {F : Area}, St X S pl w m → Own S w F o u → Mine X S pl m F → ∃ pl', Laid X S pl pl' w m (un id m o).2.2 F ∧ RelV S pl' w (un id m o).2.2 (un id m o).1 u
theorem z1k (un : Nat → Mem → OV → AV × Nat × Mem) : ∀ (os : List OV) (id : Nat) (m : Mem), (z0x un id m os).1.length = os.length
 | [], _, _ => rfl
 | o :: os, id, m => by simp only [z0x, List.length_cons]; rw [z1k un os]
theorem z1s {un : Nat → Mem → OV → AV × Nat × Mem} (hu : w6t X w un) : ∀ (os : List OV) (us : List Value) (id : Nat) {S : Area} {pl : Place} {m : Mem} {F : Area}, St X S pl w m → OwnL S w F os us → Mine X S pl m F →
  ∃ pl', Laid X S pl pl' w m (z0x un id m os).2.2 F ∧ ∀ (j : Nat) x u, (z0x un id m os).1[j]? = some x → us[j]? = some u → RelV S pl' w (z0x un id m os).2.2 x u
 | [], us, id, S, pl, m, F, h, ho, _ => ⟨pl, ⟨h, Keeps.refl _ _ _ _, fun _ _ q => .inl q⟩, fun j x u hx => by simp [z0x] at hx⟩
 | o :: os, us, id, S, pl, m, F, h, ho, hm => by
  cases ho with | cons _ u _ us F1 F2 h1 h2 hd =>
  obtain ⟨pl1, l1, r1⟩ := hu id h h1 (fun b q hf => hm b q (.inl hf))
  obtain ⟨pl2, l2, r2⟩ := z1s hu os us (un id m o).2.1 l1.st h2 (fun b q hf => by
   obtain ⟨g1, g2, g3⟩ := hm b q (.inr hf)
   exact ⟨g1, g2, fun hf' => (l1.feet b q hf').elim g3 (fun hf1 => hd b q hf1 hf)⟩)
  refine ⟨pl2, ⟨l2.st, l1.kp.trans l2.kp, fun b q hf => ?_⟩, fun j x v hx hv => ?_⟩
  ·rcases l2.feet b q hf with g | g
   ·exact (l1.feet b q g).imp (fun q => q) .inl
   ·exact .inr (.inr g)
  ·cases j with
   | zero => simp [z0x] at hx hv; subst hx hv; exact r1.mono l2.kp
   | succ j => exact r2 j x v (by simpa [z0x] using hx) (by simpa using hv)
theorem z3j (k : Nat) : w6t X w (z1c k) := by
 induction k with
 | zero => intro id S pl m o u F h _ _; exact ⟨pl, ⟨h, Keeps.refl _ _ _ _, fun _ _ q => .inl q⟩, .dead u⟩
 | succ k ih =>
  intro id S pl m o u F h ho hm
  cases ho with
  | c x u hr => exact ⟨pl, ⟨h, Keeps.refl _ _ _ _, fun _ _ q => .inl q⟩, .c _ _ hr⟩
  | arr sz es cap pub n b capn ha =>
   obtain ⟨h1, h2, ⟨e, h3⟩, h4, h5, ⟨hl, f, hc, hr⟩, h7, h8⟩ := ha
   refine ⟨plAt pl id (b, 0), h.adopt id (fun v => .arr v sz es cap pub) (b, 0) _ rfl hm (fun b' o' hf => hf) (fun {pl' m'} kp => ⟨rfl, h1, h2, ⟨e, capn, h3, h4, h5⟩, ⟨hl, f, hc, hr⟩, h7⟩), ?_⟩
   exact .t id m.clk n b capn (by rw [z1c]; simp [z2s]) (by omega) (fun ob hg _ => by
    simp only [z1c] at hg
    rw [z1q, if_pos rfl] at hg; injection hg with hg; subst hg
    exact ⟨sz, es, cap, pub, e, rfl, h8, by simp [plAt], h3⟩)
  | ptr cs us b o' F' hL hb ht hc hd =>
   obtain ⟨pl1, l1, r1⟩ := z1s ih cs us (1000000 * (id + 1)) h hL (fun b q hf => hm b q (.inl hf))
   simp only [z1c]
   generalize hq : z0x (z1c k) (1000000 * (id + 1)) m cs = q at l1 r1
   have hlen : us.length = q.1.length := by rw [← hq, z1k, hL.length]
   have hreg : Mine X S pl1 q.2.2 (fun b' o'' => b' = b ∧ o' ≤ o'' ∧ o'' < o' + us.length) := fun b' o'' hf => by
    obtain ⟨g1, g2, g3⟩ := hm b' o'' (.inr hf)
    exact ⟨g1, g2, fun hf' => (l1.feet b' o'' hf').elim g3 (fun hf1 => hd b' o'' hf1 hf)⟩
   have l2 := l1.st.adopt id (fun v => .blk v q.1) (b, o') _ rfl hreg (fun b' o'' hf => by
    obtain ⟨q1, j, x, hx, _, q2⟩ := hf
    have hj := (List.getElem?_eq_some_iff.1 hx).1
    exact ⟨q1, by omega, by omega⟩) (fun {pl' m'} kp => ⟨hb, ht, fun j x hx => by
     have hj := (List.getElem?_eq_some_iff.1 hx).1
     have hu : us[j]? = some us[j] := List.getElem?_eq_getElem (by omega)
     exact ⟨_, hc j _ hu, (r1 j x _ hx hu).mono kp⟩⟩)
   refine ⟨_, ⟨l2.st, l1.kp.trans l2.kp, fun b' o'' hf => ?_⟩, ?_⟩
   ·rcases l2.feet b' o'' hf with g | g
    ·exact (l1.feet b' o'' g).imp (fun q => q) .inl
    ·exact .inr (.inr g)
   ·have := RelV.p (S := S) (pl := plAt pl1 id (b, o')) (w := w) (m := q.2.2.new id fun v => .blk v q.1) id q.2.2.clk 0 b o' (by rw [z2s]; exact Nat.lt_succ_self _) (fun ob hg _ => by
     rw [z1q, if_pos rfl] at hg; injection hg with hg; subst hg
     exact ⟨⟨_, rfl⟩, by simp [plAt]⟩)
    simpa using this
  | agg cs us F hL =>
   obtain ⟨pl1, l1, r1⟩ := z1s ih cs us id h hL hm
   exact ⟨pl1, l1, .agg _ us (by rw [z1k, hL.length]) r1⟩
  | tup cs us F hL =>
   obtain ⟨pl1, l1, r1⟩ := z1s ih cs us id h hL hm
   exact ⟨pl1, l1, .tup _ us (by rw [z1k, hL.length]) r1⟩
end
end Go.Proofs.Ythncmjlcmlmnmaa.V
namespace Go.Proofs.Ythncmjlcmlmnmaa.V
open Go Go.RowKit
def GlobOk (G : Glob) (S : Area) (w : World) : Prop := ∀ g cs, G g = some cs → RelC S w (.rp cs) (.pointer (some ⟨g, 0, none⟩))
inductive OwnP (S : Area) (w : World) : Area → List OV → List Value → List OV → Prop
 | nil : OwnP S w (fun _ _ => False) [] [] []
 | ptr (cs cs' : List OV) (u : Value) (os : List OV) (us : List Value) (bs : List OV) (F1 F2 : Area) (h1 : Own S w F1 (.ptr cs') u) (h2 : OwnP S w F2 os us bs) (hd : ∀ b o, F1 b o → ¬ F2 b o) :
   OwnP S w (fun b o => F1 b o ∨ F2 b o) (.ptr cs :: os) (u :: us) (.ptr cs' :: bs)
 | skip (o o' : OV) (u : Value) (os : List OV) (us : List Value) (bs : List OV) (F : Area) (hn : ∀ cs, o ≠ .ptr cs) (h : OwnP S w F os us bs) : OwnP S w F (o :: os) (u :: us) (o' :: bs)
structure Ended (S : Area) (F : Area) (w w' : World) (S' Fr Fb : Area) : Prop where
 ext : Ext F w w'
 sub : ∀ b o, S b o → S' b o
 grow : ∀ b o, S' b o → b < w'.heap.size ∧ (S b o ∨ F b o ∨ w.heap.size ≤ b)
 apart : ∀ b o, Fr b o → ¬ Fb b o
 mine : ∀ b o, Fr b o ∨ Fb b o → ¬ S' b o ∧ (F b o ∨ w.heap.size ≤ b)
def Den (P : Program) (G : Glob) (f : FuncId) (os : List OV) (Q : OV → List OV → Prop) : Prop :=
 (∃ fn, P.funcs[f]? = some fn ∧ fn.body.isSome = true ∧ (fn.name == "runtime.NumGoroutine") = false) ∧
 ∀ (S F : Area) (w : World) (us : List Value), (∀ b o, S b o → b < w.heap.size) → (∀ b o, F b o → b < w.heap.size ∧ ¬ S b o) → GlobOk G S w → OwnL S w F os us →
  Calls P f us.toArray w fun e w' => ∃ v r bs S' Fr Fb, e = .returned v ∧ Q r bs ∧ Own S' w' Fr r v ∧ OwnP S' w' Fb os us bs ∧ Ended S F w w' S' Fr Fb
section
variable {P : Program} {X : Ctx} {S : Area} {pl : Place} {w : World} {m : Mem}
def RefOk : List Mode → List OV → Prop
 | .ref _ :: ms, o :: os => (∃ cs, o = .ptr cs) ∧ RefOk ms os
 | _ :: ms, _ :: os => RefOk ms os
 | _, _ => True
theorem w0d {F : Area} : ∀ (ys : List CV) (us : List Value), us.length = ys.length → (∀ (j : Nat) y u, ys[j]? = some y → us[j]? = some u → RelC S w y u) → ∃ F, OwnL S w F (ys.map .c) us ∧ ∀ b o, ¬ F b o
 | [], [], _, _ => ⟨_, .nil, fun _ _ q => q⟩
 | [], _ :: _, h, _ => by simp at h
 | _ :: _, [], h, _ => by simp at h
 | y :: ys, u :: us, h, hr => by
  obtain ⟨F', hF, hn⟩ := w0d (F := F) ys us (by simpa using h) (fun j y u hy hu => hr (j + 1) y u (by simpa using hy) (by simpa using hu))
  exact ⟨_, .cons _ u _ us _ F' (.c y u (hr 0 y u rfl rfl)) hF (fun _ _ q => q.elim), fun b o q => q.elim (fun q => q) (hn b o)⟩
theorem z5p {v : Nat} {cs : List AV} {o s : Nat} (hle : o + s ≤ cs.length) (hlive : ∀ x ∈ (cs.drop o).take s, x.isDead = false) {q : Nat × Nat} {b c : Nat} (h : b = q.1 ∧ q.2 + o ≤ c ∧ c < q.2 + o + s) : (Ob.blk v cs).foot q b c := by
 have hj : c - q.2 < cs.length := by omega
 have hx : cs[c - q.2]? = some cs[c - q.2] := List.getElem?_eq_getElem hj
 refine ⟨h.1, c - q.2, _, hx, hlive _ ?_, by omega⟩
 apply List.mem_of_getElem? (i := c - q.2 - o)
 rw [List.getElem?_take_of_lt (by omega), List.getElem?_drop, ← hx]; congr 1; omega
theorem lend (h : St X S pl w m) {i v : Nat} {cs : List AV} (hg : m.get i = some (.blk v cs)) (o s : Nat) (hle : o + s ≤ cs.length) (hlive : ∀ x ∈ (cs.drop o).take s, x.isDead = false) :
  St X S pl w (m.upd i (.blk v (putAt cs o (List.replicate s .dead)))) ∧ Keeps S S pl pl w w m (m.upd i (.blk v (putAt cs o (List.replicate s .dead)))) ∧
  (∀ b q, Feet pl (m.upd i (.blk v (putAt cs o (List.replicate s .dead)))) b q → Feet pl m b q ∧ ¬ (b = (pl i).1 ∧ (pl i).2 + o ≤ q ∧ q < (pl i).2 + o + s)) := by
 obtain ⟨hv, hb, ht, hrow⟩ := h.inv.ob i _ hg
 have hlen : o + (List.replicate s AV.dead).length ≤ cs.length := by simpa using hle
 have hget : ∀ (j : Nat) x, (putAt cs o (List.replicate s .dead))[j]? = some x → x.isDead = false → cs[j]? = some x ∧ (j < o ∨ o + s ≤ j) := fun j x hx hd => by
  rw [z1z _ _ _ hlen] at hx
  split at hx
  ·exact ⟨hx, .inl (by assumption)⟩
  ·split at hx
   ·rw [List.getElem?_replicate] at hx
    split at hx
    ·injection hx with hx; subst hx; simp [AV.isDead] at hd
    ·simp at hx
   ·rename_i h2; simp at h2; exact ⟨hx, .inr (by omega)⟩
 obtain ⟨st, kp⟩ := h.setBlkF (fun _ _ => False) (cs' := putAt cs o (List.replicate s .dead)) hg (Ext.refl _ _) (fun _ _ q => q.elim) (fun b q ⟨h1, j, x, hx, hd, h2⟩ => .inl ⟨h1, j, x, (hget j x hx hd).1, hd, h2⟩)
  (fun {pl'' m''} hpl hm k j x hx => by
   rw [z1z _ _ _ hlen] at hx
   split at hx
   ·obtain ⟨u, hc, hr⟩ := hrow j x hx; exact ⟨u, hc, hr.mono k⟩
   ·split at hx
    ·rename_i h2
     simp at h2
     obtain ⟨u, hc, _⟩ := hrow j cs[j] (List.getElem?_eq_getElem (by omega))
     rw [List.getElem?_replicate] at hx
     split at hx
     ·injection hx with hx; subst hx; exact ⟨u, hc, .dead u⟩
     ·simp at hx
    ·obtain ⟨u, hc, hr⟩ := hrow j x hx; exact ⟨u, hc, hr.mono k⟩)
 refine ⟨st, kp, fun b q ⟨id, ob, hg', hf⟩ => ?_⟩
 rw [z2g] at hg'
 by_cases hi : id = i
 ·subst hi; rw [if_pos rfl] at hg'; injection hg' with hg'; subst hg'
  obtain ⟨h1, j, x, hx, hd, h2⟩ := hf
  obtain ⟨h3, h4⟩ := hget j x hx hd
  exact ⟨⟨id, _, hg, h1, j, x, h3, hd, h2⟩, fun ⟨_, h5, h6⟩ => by omega⟩
 ·rw [if_neg hi] at hg'
  exact ⟨⟨id, ob, hg', hf⟩, fun h1 => h.inv.apart id i ob _ hg' hg hi b q hf (z5p hle hlive h1)⟩
theorem w3f {i v : Nat} {cs : List AV} {b o : Nat} (h : Feet pl (m.upd i (.blk v cs)) b o) : Feet pl m b o ∨ (Ob.blk v cs).foot (pl i) b o := by
 obtain ⟨id, ob, hg, hf⟩ := h
 rw [z2g] at hg
 by_cases hi : id = i
 ·subst hi; rw [if_pos rfl] at hg; injection hg with hg; subst hg; exact .inr hf
 ·rw [if_neg hi] at hg; exact .inl ⟨id, ob, hg, hf⟩
theorem w7w (h : St X S pl w m) (md : Mode) {x : AV} {u : Value} (hr : RelV S pl w m x u) {K : OV → Mem → Prop} (hk : argW md m x K) :
  ∃ S' o m' F, K o m' ∧ Own S' w F o u ∧ Packed X S S' pl w m m' F ∧ (∀ s, md = .ref s → ∃ cs, o = .ptr cs) := by
 have shut : ∀ {y : AV} {u : Value} {K : OV → Mem → Prop}, RelV S pl w m y u → z3h m y (fun y m => K (.c y) m) → ∃ S' o m' F, K o m' ∧ Own S' w F o u ∧ Packed X S S' pl w m m' F := by
  intro y u K hr hk
  obtain ⟨S', z, m', hk, hz, st, kp, sh⟩ := z2w h hr hk
  exact ⟨S', .c z, m', _, hk, .c z u hz, st, kp, sh, fun _ _ q => q.elim, fun _ _ q => q.elim⟩
 cases md with
 | shut =>
  refine Exists.elim (?_ : ∃ S' o m' F, K o m' ∧ Own S' w F o u ∧ Packed X S S' pl w m m' F) fun S' ⟨o, m', F, h1, h2, h3⟩ => ⟨S', o, m', F, h1, h2, h3, by simp⟩
  cases x with
  | agg cs =>
   cases hr with | agg _ us hl hr =>
   obtain ⟨S', ys, m', hk, hlen, hys, st, kp, sh⟩ := z4l cs us h hl hr hk
   obtain ⟨F, hF, hn⟩ := w0d (F := fun _ _ => False) ys us (by omega) hys
   exact ⟨S', _, m', F, hk, .agg _ us F hF, st, kp, sh, fun b o q => absurd q (hn b o), fun b o q => absurd q (hn b o)⟩
  | c y => exact shut hr hk
  | t id ver n => exact shut hr hk
  | p id ver o => exact shut hr hk
  | tp id ver i o => exact shut hr hk
  | tup cs => exact shut hr hk
  | dead => exact shut hr hk
 | keep =>
  cases x with
  | c y =>
   cases hr with | c _ _ hr =>
   exact ⟨S, _, m, _, hk, .c y u hr, ⟨h, Keeps.refl _ _ _ _, Shrinks.refl _ _ _, fun _ _ q => q.elim, fun _ _ q => q.elim⟩, by simp⟩
  | _ => exact hk.elim
 | own =>
  obtain ⟨S', o, m', F, h1, h2, h3⟩ := z4j depth h hr hk
  exact ⟨S', o, m', F, h1, h2, h3, by simp⟩
 | ref s =>
  cases x with
  | p id ver o =>
   simp only [argW] at hk
   split at hk
   ·rename_i v cs hg
    obtain ⟨rfl, hle, hlive, hk⟩ := hk
    cases hr with | p _ _ _ b q hv hr =>
    obtain ⟨_, hb⟩ := hr _ hg rfl
    obtain ⟨hv', h1, h2, hrow⟩ := h.inv.ob id _ hg
    have hb1 : (pl id).1 = b := by rw [← hb]
    have hb2 : (pl id).2 = q := by rw [← hb]
    have hrow' : RowA S pl w m b (q + o) ((cs.drop o).take s) := fun j x hx => by
     have hj : j < s := by have := (List.getElem?_eq_some_iff.1 hx).1; rw [List.length_take] at this; omega
     rw [List.getElem?_take_of_lt hj, List.getElem?_drop] at hx
     have := hrow _ x hx
     rwa [hb1, hb2, ← Nat.add_assoc] at this
    obtain ⟨us, hul, huc, hur⟩ := hrow'.list
    obtain ⟨st, kp, hfeet⟩ := lend h hg o s hle hlive
    obtain ⟨S', os, m', F, hk, ho, hp⟩ := z2d (z4j depth) _ us st hul (fun j x u hx hu => (hur j x u hx hu).mono kp) hk
    have hus : us.length = s := by rw [hul, List.length_take, List.length_drop]; omega
    rw [hb1] at h1 h2
    refine ⟨S', _, m', _, hk, .ptr os us b (q + o) F ho h1 h2 huc (fun b' o' q1 q2 => ?_), ⟨hp.st, kp.trans hp.kp, ⟨fun b' o' q1 => (hp.sh.grow b' o' q1).imp (fun q => q) (fun q2 => (hfeet b' o' q2).1), fun b' o' q1 => (hfeet b' o' (hp.sh.feet _ _ q1)).1⟩, fun b' o' q1 => ?_, fun b' o' q1 => ?_⟩, by simp⟩
    ·exact (hfeet b' o' (hp.off b' o' q1).1).2 (by rw [hb1, hb2]; exact ⟨q2.1, q2.2.1, by omega⟩)
    ·rcases q1 with q1 | q1
     ·exact ⟨(hfeet _ _ (hp.off b' o' q1).1).1, (hp.off b' o' q1).2⟩
     ·have hreg : b' = (pl id).1 ∧ (pl id).2 + o ≤ o' ∧ o' < (pl id).2 + o + s := by rw [hb1, hb2]; exact ⟨q1.1, q1.2.1, by omega⟩
      exact ⟨⟨id, _, hg, z5p hle hlive hreg⟩, fun q2 => (hfeet _ _ (hp.sh.feet _ _ q2)).2 hreg⟩
    ·rcases q1 with q1 | q1
     ·exact hp.no _ _ q1
     ·have hreg : b' = (pl id).1 ∧ (pl id).2 + o ≤ o' ∧ o' < (pl id).2 + o + s := by rw [hb1, hb2]; exact ⟨q1.1, q1.2.1, by omega⟩
      exact fun hs => (hp.sh.grow _ _ hs).elim (h.inv.free id _ hg _ _ (z5p hle hlive hreg)) (fun q2 => (hfeet _ _ q2).2 hreg)
   ·exact hk.elim
  | _ => exact hk.elim
theorem z9i : ∀ (mds : List Mode) (xs : List AV) (us : List Value) {S : Area} {m : Mem} {K : List OV → Mem → Prop}, St X S pl w m → us.length = xs.length → (∀ (j : Nat) x u, xs[j]? = some x → us[j]? = some u → RelV S pl w m x u) →
  argsW m mds xs K → ∃ S' os m' F, K os m' ∧ OwnL S' w F os us ∧ Packed X S S' pl w m m' F ∧ RefOk mds os
 | [], [], [], S, m, K, h, _, _, hk => ⟨S, [], m, _, hk, .nil, ⟨h, Keeps.refl _ _ _ _, Shrinks.refl _ _ _, fun _ _ q => q.elim, fun _ _ q => q.elim⟩, trivial⟩
 | [], [], _ :: _, _, _, _, _, hl, _, _ => by simp at hl
 | [], _ :: _, _, _, _, _, _, _, _, hk => hk.elim
 | _ :: _, [], _, _, _, _, _, _, _, hk => hk.elim
 | _ :: _, _ :: _, [], _, _, _, _, hl, _, _ => by simp at hl
 | md :: mds, x :: xs, u :: us, S, m, K, h, hl, hr, hk => by
  obtain ⟨S1, o, m1, F1, hk1, ho, p1, r1⟩ := w7w h md (hr 0 x u rfl rfl) hk
  obtain ⟨S2, os, m2, F2, hk2, hos, p2, r2⟩ := z9i mds xs us p1.st (by simpa using hl) (fun j x u hx hu => (hr (j + 1) x u (by simpa using hx) (by simpa using hu)).mono p1.kp) hk1
  refine ⟨S2, o :: os, m2, _, hk2, .cons o u os us F1 F2 (ho.keep (p2.still _)) hos (fun b q h1 h2 => (p1.off b q h1).2 (p2.off b q h2).1), ⟨p2.st, p1.kp.trans p2.kp, p1.sh.trans p2.sh, fun b q hf => ?_, fun b q hf => ?_⟩, ?_⟩
  rotate_left
  ·rcases hf with hf | hf
   ·exact fun hs => (p2.sh.grow b q hs).elim (p1.no b q hf) (p1.off b q hf).2
   ·exact p2.no b q hf
  rotate_left
  ·rcases hf with hf | hf
   ·exact ⟨(p1.off b q hf).1, fun q' => (p1.off b q hf).2 (p2.sh.feet b q q')⟩
   ·exact ⟨p1.sh.feet b q (p2.off b q hf).1, (p2.off b q hf).2⟩
  ·cases md with
   | ref s => exact ⟨r1 s rfl, r2⟩
   | _ => exact r2
theorem St.world {S' F : Area} {w' : World} (h : St X S pl w m) (hext : Ext F w w') (hF : ∀ b o, F b o → (X.F0 b o ∨ X.w0.heap.size ≤ b) ∧ ¬ S b o ∧ ¬ Feet pl m b o) (hsub : ∀ b o, S b o → S' b o)
  (hgrow : ∀ b o, S' b o → b < w'.heap.size ∧ (S b o ∨ F b o ∨ w.heap.size ≤ b)) : St X S' pl w' m ∧ Keeps S S' pl pl w w' m m := by
 have k : Keeps S S' pl pl w w' m m := ⟨hsub, fun b o hs => hext.cell b o (h.inv.low b o hs) (fun hf => (hF b o hf).2.1 hs), fun b s hs => by rw [hext.shape b (z2v hs)]; exact hs, Nat.le_refl _,
  fun id ob hg _ => ⟨ob, hg, by cases ob <;> simp [Ob.alike], rfl⟩⟩
 have hx := h.ext.size
 refine ⟨⟨⟨fun id ob hg => ⟨(h.inv.ob id ob hg).1, (h.inv.ob id ob hg).2.keep k hext.size hext.frz hext.shape (fun b o hf hb => hext.cell b o hb (fun q => (hF b o q).2.2 ⟨id, ob, hg, hf⟩))⟩, h.inv.apart, fun id ob hg b o hf hs => ?_, fun b o hs => (hgrow b o hs).1⟩,
  h.ext.trans hext (fun b o q => (hF b o q).1), fun b o hs => hsub _ _ (h.sub b o hs), fun b o hs => ?_, h.own, fun g cs hg => (h.glob g cs hg).mono k.sub k.cell⟩, k⟩
 ·rcases (hgrow b o hs).2 with q | q | q
  ·exact h.inv.free id ob hg b o hf q
  ·exact (hF b o q).2.2 ⟨id, ob, hg, hf⟩
  ·have := h.inv.foot_lt hg hf; omega
 ·rcases (hgrow b o hs).2 with q | q | q
  ·exact h.only b o q
  ·exact ((hF b o q).1).elim (fun q => .inr (.inl q)) (fun q => .inr (.inr q))
  ·exact .inr (.inr (by omega))
theorem k1y (h : St X S pl w m) {i v : Nat} {cs xs : List AV} (hg : m.get i = some (.blk v cs)) (o : Nat) (us : List Value) (hl : us.length = xs.length) (hle : o + xs.length ≤ cs.length)
  (hc : ∀ (j : Nat) u, us[j]? = some u → z0p w (pl i).1 ((pl i).2 + o + j) = some u) (hr : ∀ (j : Nat) x u, xs[j]? = some x → us[j]? = some u → RelV S pl w m x u)
  (hm : Mine X S pl m (fun b q => b = (pl i).1 ∧ (pl i).2 + o ≤ q ∧ q < (pl i).2 + o + us.length)) :
  Laid X S pl pl w m (m.upd i (.blk v (putAt cs o xs))) (fun b q => b = (pl i).1 ∧ (pl i).2 + o ≤ q ∧ q < (pl i).2 + o + us.length) := by
 obtain ⟨hv, hb, ht, hrow⟩ := h.inv.ob i _ hg
 obtain ⟨st, kp⟩ := h.setBlkF (fun b q => b = (pl i).1 ∧ (pl i).2 + o ≤ q ∧ q < (pl i).2 + o + us.length) (cs' := putAt cs o xs) hg (Ext.refl _ _) (fun b q hf => by
   obtain ⟨h1, h2, h3⟩ := hm b q hf
   exact ⟨h1, h2, fun id ob hi hg' hf' => h3 ⟨id, ob, hg', hf'⟩⟩) (fun b q hf => by rw [hl]; exact w1h hle hf)
  (fun {pl'' m''} hpl hm' k j x hx => by
   rw [z1z _ _ _ hle] at hx
   split at hx
   ·obtain ⟨u, hc, hr⟩ := hrow j x hx; exact ⟨u, hc, hr.mono k⟩
   ·split at hx
    ·have hj : j - o < us.length := by omega
     have hu : us[j - o]? = some us[j - o] := List.getElem?_eq_getElem hj
     have := hc _ _ hu
     rw [show (pl i).2 + o + (j - o) = (pl i).2 + j by omega] at this
     exact ⟨_, this, (hr _ x _ hx hu).mono k⟩
    ·obtain ⟨u, hc, hr⟩ := hrow j x hx; exact ⟨u, hc, hr.mono k⟩)
 refine ⟨st, kp, fun b q hf => ?_⟩
 rcases w3f hf with h1 | h1
 ·exact .inl h1
 ·rcases w1h hle h1 with h2 | h2
  ·exact .inl ⟨i, _, hg, h2⟩
  ·exact .inr (by rw [hl]; exact h2)
theorem z4o : ∀ (mds : List Mode) (xs : List AV) (os : List OV) (us : List Value) (bs : List OV) (id : Nat) {S : Area} {pl : Place} {m : Mem} {F : Area} {K : Nat → Mem → Prop}, St X S pl w m → (∀ (j : Nat) x u, xs[j]? = some x → us[j]? = some u → RelV S pl w m x u) →
  RefOk mds os → OwnP S w F os us bs → Mine X S pl m F → backW id m mds xs bs K → ∃ pl' id' m', K id' m' ∧ Laid X S pl pl' w m m' F
 | [], [], _, _, [], id, S, pl, m, F, K, h, _, _, _, _, hk => ⟨pl, id, m, hk, h, Keeps.refl _ _ _ _, fun _ _ q => .inl q⟩
 | [], [], _, _, _ :: _, _, _, _, _, _, _, _, _, _, _, _, hk => by simp [backW] at hk
 | [], _ :: _, _, _, _, _, _, _, _, _, _, _, _, _, _, _, hk => by simp [backW] at hk
 | md :: mds, [], _, _, _, _, _, _, _, _, _, _, _, _, _, _, hk => by cases md <;> simp [backW] at hk
 | md :: mds, x :: xs, os, us, [], _, _, _, _, _, _, _, _, _, _, _, hk => by cases md <;> simp [backW] at hk
 | md :: mds, x :: xs, os, us, b :: bs, id, S, pl, m, F, K, h, hr, hro, ho, hm, hk => by
  cases ho with
  | skip o o' u os us bs F hn ho =>
   cases md with
   | ref s => obtain ⟨⟨cs, q⟩, _⟩ := hro; exact absurd q (hn cs)
   | _ => exact z4o mds xs os us bs id h (fun j x u hx hu => hr (j + 1) x u (by simpa using hx) (by simpa using hu)) hro ho hm (by simpa only [backW] using hk)
  | ptr cs0 cs' u os us bs F1 F2 h1 h2 hd =>
   have skip : backW id m mds xs bs K → RefOk mds os → ∃ pl' id' m', K id' m' ∧ Laid X S pl pl' w m m' (fun b o => F1 b o ∨ F2 b o) := fun hk hro => by
    obtain ⟨pl', id', m', g1, g2⟩ := z4o mds xs os us bs id h (fun j x u hx hu => hr (j + 1) x u (by simpa using hx) (by simpa using hu)) hro h2 (fun b q hf => hm b q (.inr hf)) hk
    exact ⟨pl', id', m', g1, g2.st, g2.kp, fun b q hf => (g2.feet b q hf).imp (fun q => q) .inr⟩
   cases md with
   | ref s =>
    cases x with
    | p i ver o =>
     simp only [backW] at hk
     obtain ⟨hs, hk⟩ := hk
     cases h1 with | ptr _ vs b q F' hL hb ht hc hdj =>
     obtain ⟨pl1, l1, r1⟩ := z1s (z3j depth) cs' vs (1000000 * (i + 1)) h hL (fun b' o' hf => hm b' o' (.inl (.inl hf)))
     generalize hq : z0x (z1c depth) (1000000 * (i + 1)) m cs' = U at l1 r1 hk
     have hUl : U.1.length = cs'.length := by rw [← hq, z1k]
     split at hk
     ·rename_i v cs hg
      obtain ⟨rfl, hle, hk⟩ := hk
      have hx := (hr 0 _ _ rfl rfl).mono l1.kp
      have hloc : b = (pl1 i).1 ∧ q = (pl1 i).2 + o := by
       generalize hu : Value.pointer (some ⟨b, q, none⟩) = uu at hx
       cases hx with | p _ _ _ b2 o2 hv hx =>
       obtain ⟨_, hb2⟩ := hx _ hg rfl
       injection hu with hu; injection hu with hu; injection hu with e1 e2
       rw [← hb2]; exact ⟨e1, e2⟩
      obtain ⟨hb1, hq1⟩ := hloc
      have hvl : vs.length = U.1.length := by rw [hUl, hL.length]
      have hmine : Mine X S pl1 U.2.2 (fun b' q' => b' = (pl1 i).1 ∧ (pl1 i).2 + o ≤ q' ∧ q' < (pl1 i).2 + o + vs.length) := fun b' q' hf => by
       have hf' : b' = b ∧ q ≤ q' ∧ q' < q + vs.length := by rw [hb1, hq1]; exact hf
       obtain ⟨g1, g2, g3⟩ := hm b' q' (.inl (.inr hf'))
       exact ⟨g1, g2, fun hft => (l1.feet b' q' hft).elim g3 (fun hf1 => hdj b' q' hf1 hf')⟩
      have l2 := k1y l1.st hg o vs hvl (by omega) (fun j u hu => by rw [← hb1, ← hq1]; exact hc j u hu) r1 hmine
      have kp12 := l1.kp.trans l2.kp
      have hmine2 : Mine X S pl1 (U.2.2.upd i (.blk v (putAt cs o U.1))) F2 := fun b' q' hf => by
       obtain ⟨g1, g2, g3⟩ := hm b' q' (.inr hf)
       refine ⟨g1, g2, fun hft => ?_⟩
       rcases l2.feet b' q' hft with hft | hft
       ·exact (l1.feet b' q' hft).elim g3 (fun hf1 => hd b' q' (.inl hf1) hf)
       ·exact hd b' q' (.inr (by rw [hb1, hq1]; exact hft)) hf
      obtain ⟨pl', id', m', g1, g2⟩ := z4o mds xs os us bs id l2.st (fun j x u hx hu => (hr (j + 1) x u (by simpa using hx) (by simpa using hu)).mono kp12) hro.2 h2 hmine2 hk
      refine ⟨pl', id', m', g1, g2.st, kp12.trans g2.kp, fun b' q' hft => ?_⟩
      rcases g2.feet b' q' hft with hft | hft
      ·rcases l2.feet b' q' hft with hft | hft
       ·exact (l1.feet b' q' hft).imp (fun q => q) (fun q => .inl (.inl q))
       ·exact .inr (.inl (.inr (by rw [hb1, hq1]; exact hft)))
      ·exact .inr (.inr hft)
     ·exact hk.elim
    | _ => simp [backW] at hk
   | _ => exact skip (by simpa only [backW] using hk) hro
theorem w3t {D : Spec} (hD : ∀ f os Q, D f os Q → Den P X.G f os Q) (h : St X S pl w m) {site f : Nat} {xs : List AV} {us : List Value} (hl : us.length = xs.length) (hr : ∀ (j : Nat) x u, xs[j]? = some x → us[j]? = some u → RelV S pl w m x u)
  {K : KK} (hk : k2y D site m f xs K) : (∃ fn, P.funcs[f]? = some fn ∧ fn.body.isSome = true ∧ (fn.name == "runtime.NumGoroutine") = false) ∧ Calls P f us.toArray w fun e w' => ∃ v, e = .returned v ∧ ∃ S' pl' r m', K r m' ∧ RelV S' pl' w' m' r v ∧ St X S' pl' w' m' ∧ Keeps S S' pl pl' w w' m m' := by
 obtain ⟨mds, hk⟩ := hk
 obtain ⟨S1, os, m1, F, ⟨Q, hden, hk⟩, ho, hp, hro⟩ := z9i mds xs us h hl hr hk
 have hmine : ∀ b o, F b o → (X.F0 b o ∨ X.w0.heap.size ≤ b) ∧ ¬ S1 b o ∧ ¬ Feet pl m1 b o ∧ b < w.heap.size := fun b o hf => by
  obtain ⟨⟨id, ob, hg, hf1⟩, hf2⟩ := hp.off b o hf
  exact ⟨h.own id ob hg b o hf1, hp.no b o hf, hf2, h.inv.foot_lt hg hf1⟩
 refine ⟨(hD f os Q hden).1, ?_⟩
 refine ((hD f os Q hden).2 S1 F w us hp.st.inv.low (fun b o hf => ⟨(hmine b o hf).2.2.2, (hmine b o hf).2.1⟩) hp.st.glob ho).mono ?_
 rintro e w' ⟨v, r, bs, S', Fr, Fb, rfl, hq, hor, hob, hend⟩
 refine ⟨v, rfl, ?_⟩
 obtain ⟨st2, kp2⟩ := hp.st.world hend.ext (fun b o hf => ⟨(hmine b o hf).1, (hmine b o hf).2.1, (hmine b o hf).2.2.1⟩) hend.sub hend.grow
 have hx := h.ext.size
 have hm : ∀ b o, Fr b o ∨ Fb b o → (X.F0 b o ∨ X.w0.heap.size ≤ b) ∧ ¬ S' b o ∧ ¬ Feet pl m1 b o := fun b o hf => by
  obtain ⟨h1, h2⟩ := hend.mine b o hf
  rcases h2 with h2 | h2
  ·exact ⟨(hmine b o h2).1, h1, (hmine b o h2).2.2.1⟩
  ·exact ⟨.inr (by omega), h1, fun ⟨id, ob, hg, hf'⟩ => by have := hp.st.inv.foot_lt hg hf'; omega⟩
 obtain ⟨pl3, id3, m3, hk3, l3⟩ := z4o mds xs os us bs site st2 (fun j x u hx hu => ((hr j x u hx hu).mono hp.kp).mono kp2) hro hob (fun b o hf => hm b o (.inr hf)) (hk r bs hq)
 obtain ⟨pl4, l4, r4⟩ := z3j depth id3 l3.st hor (fun b o hf => by
  obtain ⟨g1, g2, g3⟩ := hm b o (.inl hf)
  exact ⟨g1, g2, fun hft => (l3.feet b o hft).elim g3 (hend.apart b o hf)⟩)
 exact ⟨S', pl4, _, _, hk3, r4, l4.st, ((hp.kp.trans kp2).trans l3.kp).trans l4.kp⟩
theorem w9w {S : Area} {w : World} {x : CV} {z : Int} (h : RelC S w x (.int .u8 z)) : isU8 x = true := by
 cases h; rfl
theorem z4t : ∀ {l : List CV} {j : Nat} {x : CV}, safeR l = true → l[j]? = some x → isU8 x = false ∧ safeC x = true
 | [], _, _, _, h => by simp at h
 | y :: l, j, x, hs, h => by
  simp only [safeR, Bool.and_eq_true, Bool.not_eq_true'] at hs
  cases j with
  | zero => simp at h; subst h; exact ⟨hs.1, hs.2.1⟩
  | succ j => exact z4t hs.2.2 (by simpa using h)
theorem z8h : ∀ {l : List (List CV)} {j : Nat} {x : List CV}, safeE l = true → l[j]? = some x → safeR x = true
 | [], _, _, _, h => by simp at h
 | y :: l, j, x, hs, h => by
  simp only [safeE, Bool.and_eq_true] at hs
  cases j with
  | zero => simp at h; subst h; exact hs.1
  | succ j => exact z8h hs.2 (by simpa using h)
theorem z7i : ∀ {a b : List (List CV)}, safeE a = true → safeE b = true → safeE (a ++ b) = true
 | [], _, _, h => h
 | x :: a, b, h, k => by
  simp only [safeE, Bool.and_eq_true, List.cons_append] at *
  exact ⟨h.1, z7i h.2 k⟩
theorem RelC.apart {S U : Area} {w : World} (hU : ∀ b o, U b o → ∃ z, z0p w b o = some (.int .u8 z)) {x : CV} {u : Value} (h : RelC S w x u) : safeC x = true → RelC (fun b o => S b o ∧ ¬ U b o) w x u := by
 induction h with
 | v y hy => exact fun _ => .v _ hy
 | sl sz es sp a cap b o f hcap hsp ha hl hs hc hr ih =>
  intro hsafe
  simp only [safeC, Bool.and_eq_true] at hsafe
  have hE : safeE (es ++ sp.getD []) = true := z7i hsafe.1 (by
   cases sp with
   | none => rfl
   | some s => exact hsafe.2)
  have hcell : ∀ k, k < (es ++ sp.getD []).length * sz → ∃ i j e x, (es ++ sp.getD [])[i]? = some e ∧ e[j]? = some x ∧ k = i * sz + j := fun k hk => by
   have hpos : 0 < sz := by
    rcases Nat.eq_zero_or_pos sz with h0 | h0
    ·subst h0; simp at hk
    ·exact h0
   have h1 : k / sz < (es ++ sp.getD []).length := (Nat.div_lt_iff_lt_mul hpos).2 hk
   have h2 := hl _ _ (List.getElem?_eq_getElem h1)
   have h3 : k % sz < ((es ++ sp.getD [])[k / sz]).length := by rw [h2]; exact Nat.mod_lt _ hpos
   exact ⟨k / sz, k % sz, _, _, List.getElem?_eq_getElem h1, List.getElem?_eq_getElem h3, by rw [Nat.mul_comm]; exact (Nat.div_add_mod _ _).symm⟩
  refine .sl sz es sp a cap b o f hcap hsp ha hl (fun k hk => ⟨hs k hk, fun hu => ?_⟩) hc (fun i j e x he hx => ih i j e x he hx (z4t (z8h hE he) hx).2)
  obtain ⟨i, j, e, x, he, hx, rfl⟩ := hcell k hk
  obtain ⟨z, hz⟩ := hU _ _ hu
  have h1 := hr i j e x he hx
  have h2 := hc _ hk
  rw [hz] at h2; injection h2 with h2
  rw [← h2] at h1
  have := w9w h1
  rw [(z4t (z8h hE he) hx).1] at this; cases this
 | rp cs b o f hs hc hr ih =>
  intro hsafe
  simp only [safeC] at hsafe
  refine .rp cs b o f (fun i hi => ⟨hs i hi, fun hu => ?_⟩) hc (fun i x hx => ih i x hx (z4t hsafe hx).2)
  obtain ⟨z, hz⟩ := hU _ _ hu
  have hx : cs[i]? = some cs[i] := List.getElem?_eq_getElem hi
  have h1 := hr i _ hx
  have h2 := hc _ hi
  rw [hz] at h2; injection h2 with h2
  rw [← h2] at h1
  have := w9w h1
  rw [(z4t hsafe hx).1] at this; cases this
mutual
theorem Own.apart {S U : Area} {w : World} (hU : ∀ b o, U b o → ∃ z, z0p w b o = some (.int .u8 z)) : ∀ {o : OV} {u : Value} {F : Area}, Own S w F o u → safeO o = true → Own (fun b o => S b o ∧ ¬ U b o) w F o u
 | _, _, _, .c x u h, hs => .c x u (h.apart hU hs)
 | _, _, _, .arr sz es cap pub n b capn h, hs => by
  simp only [safeO, Bool.and_eq_true, Bool.not_eq_true'] at hs
  obtain ⟨hp, hs⟩ := hs
  subst hp
  obtain ⟨h1, h2, h3, h4, h5, ⟨hl, f, hc, hr⟩, h7, h8⟩ := h
  refine .arr sz es cap false n b capn ⟨h1, h2, h3, h4, h5, ⟨hl, f, hc, fun i j e x he hx => (hr i j e x he hx).apart hU ?_⟩, (by intro q; cases q), h8⟩
  exact List.all_eq_true.1 (List.all_eq_true.1 hs e (List.mem_of_getElem? he)) x (List.mem_of_getElem? hx)
 | _, _, _, .ptr cs us b o F h hb ht hc hd, hs => by simp [safeO] at hs
 | _, _, _, .agg cs us F h, hs => .agg cs us F (OwnL.apart hU h (by simpa [safeO] using hs))
 | _, _, _, .tup cs us F h, hs => .tup cs us F (OwnL.apart hU h (by simpa [safeO] using hs))
theorem OwnL.apart {S U : Area} {w : World} (hU : ∀ b o, U b o → ∃ z, z0p w b o = some (.int .u8 z)) : ∀ {os : List OV} {us : List Value} {F : Area}, OwnL S w F os us → w1y os = true → OwnL (fun b o => S b o ∧ ¬ U b o) w F os us
 | _, _, _, .nil, _ => .nil
 | _, _, _, .cons o u os us F1 F2 h1 h2 hd, hs => by
  simp only [w1y, Bool.and_eq_true] at hs
  exact .cons o u os us F1 F2 (Own.apart hU h1 hs.1) (OwnL.apart hU h2 hs.2) hd
end
def Lends (pl : Place) (m : Mem) : Area := fun b o => ∃ id v sz es cap, m.get id = some (.arr v sz es cap false) ∧ u8E es = true ∧ b = (pl id).1 ∧ o < es.length * sz
theorem w7p {b o : Nat} (h : Lends pl m b o) : Feet pl m b o := by
 obtain ⟨id, v, sz, es, cap, hg, _, hb, _⟩ := h
 exact ⟨id, _, hg, hb, fun q => by cases q⟩
theorem w6c (h : St X S pl w m) {b o : Nat} (hu : Lends pl m b o) : ∃ z, z0p w b o = some (.int .u8 z) := by
 obtain ⟨id, v, sz, es, cap, hg, h8, rfl, ho⟩ := hu
 obtain ⟨_, _, hpos, _, _, ⟨hl, f, hc, hr⟩, _⟩ := h.inv.ob id _ hg
 have h1 : o / sz < es.length := (Nat.div_lt_iff_lt_mul hpos).2 ho
 have h2 := hl _ _ (List.getElem?_eq_getElem h1)
 have h3 : o % sz < (es[o / sz]).length := by rw [h2]; exact Nat.mod_lt _ hpos
 have h4 := hr _ _ _ _ (List.getElem?_eq_getElem h1) (List.getElem?_eq_getElem h3)
 have h5 : o / sz * sz + o % sz = o := by rw [Nat.mul_comm]; exact Nat.div_add_mod _ _
 rw [h5] at h4
 have h6 : isU8 (es[o / sz])[o % sz] = true := List.all_eq_true.1 (List.all_eq_true.1 h8 _ (List.getElem_mem h1)) _ (List.getElem_mem h3)
 generalize (es[o / sz])[o % sz] = x at h4 h6
 cases x with
 | v y =>
  cases y with
  | int k z =>
   cases k <;> simp [isU8] at h6
   generalize hq : f o = q at h4
   cases h4; exact ⟨z, (hc o ho).trans (by rw [hq])⟩
  | _ => simp [isU8] at h6
 | _ => simp [isU8] at h6
theorem z8w (h : St X S pl w m) {x : AV} {z : CV} {u : Value} (hr : RelV S pl w m x u) (hk : lendA m x z) : RelC (fun b o => S b o ∨ Lends pl m b o) w z u := by
 cases x with
 | c y =>
  cases hr with | c _ _ hr =>
  have hr' : RelC (fun b o => S b o ∨ Lends pl m b o) w y u := hr.mono (fun _ _ q => .inl q) (fun _ _ _ => rfl)
  have hk' : z = y ∨ z = normC y := hk
  rcases hk' with rfl | rfl
  ·exact hr'
  ·exact hr'.norm
 | t id ver n =>
  cases z with
  | sl sz es' sp' =>
   simp only [lendA] at hk
   split at hk
   ·rename_i v sz' es cap hg
    obtain ⟨rfl, rfl, hn, h8, rfl, hsp⟩ := hk
    cases hr with | t _ _ _ b capn hv hnc hr =>
    obtain ⟨sz2, es2, cap2, pub2, e, heq, hn', rfl, hs⟩ := hr _ hg rfl
    injection heq with _ h1 h2 h3 h4; subst h1 h2 h3 h4
    obtain ⟨h0, hpos, hth, hsh, ⟨hl, f, hc, hrr⟩, _⟩ := (h.inv.ob id _ hg).2
    have hok : ObOk (fun b o => S b o ∨ Lends pl m b o) pl w m (pl id) (.arr v sz es cap true) :=
     ⟨h0, hpos, ⟨hth.1, (by intro q; cases q)⟩, hsh, ⟨hl, f, hc, fun i j e x he hx => (hrr i j e x he hx).mono (fun _ _ q => .inl q) (fun _ _ _ => rfl)⟩, fun _ o ho => .inr ⟨id, v, sz, es, cap, hg, h8, rfl, ho⟩⟩
    have key := RelC.of_arr hok hn hs
    rcases hsp with rfl | ⟨hcc, rfl⟩
    ·exact key.norm
    ·rw [if_pos hcc] at key; exact key
   ·exact hk.elim
  | _ => exact hk.elim
 | _ => cases z <;> exact hk.elim
theorem z8v (h : St X S pl w m) : ∀ (xs : List AV) (zs : List OV) (us : List Value), us.length = xs.length → (∀ (j : Nat) x u, xs[j]? = some x → us[j]? = some u → RelV S pl w m x u) → lendC xs zs →
  ∃ F, OwnL (fun b o => S b o ∨ Lends pl m b o) w F zs us ∧ ∀ b o, ¬ F b o
 | [], [], [], _, _, _ => ⟨_, .nil, fun _ _ q => q⟩
 | [], [], _ :: _, hl, _, _ => by simp at hl
 | [], _ :: _, _, _, _, hk => hk.elim
 | _ :: _, _, [], hl, _, _ => by simp at hl
 | x :: xs, [], _ :: _, _, _, hk => by cases x <;> exact hk.elim
 | x :: xs, o :: zs, u :: us, hl, hr, hk => by
  cases x with
  | c y =>
   cases o with
   | c z =>
    obtain ⟨h1, h2⟩ := hk
    obtain ⟨F, hF, hn⟩ := z8v h xs zs us (by simpa using hl) (fun j x u hx hu => hr (j + 1) x u (by simpa using hx) (by simpa using hu)) h2
    exact ⟨_, .cons _ u _ us _ F (.c z u (z8w h (hr 0 _ u rfl rfl) h1)) hF (fun _ _ q => q.elim), fun b o q => q.elim (fun q => q) (hn b o)⟩
   | _ => exact hk.elim
  | _ => cases o <;> exact hk.elim
theorem z8u (h : St X S pl w m) : ∀ (xs : List AV) (zs : List OV) (us : List Value), us.length = xs.length → (∀ (j : Nat) x u, xs[j]? = some x → us[j]? = some u → RelV S pl w m x u) → lendL m xs zs →
  ∃ F, OwnL (fun b o => S b o ∨ Lends pl m b o) w F zs us ∧ ∀ b o, ¬ F b o
 | [], [], [], _, _, _ => ⟨_, .nil, fun _ _ q => q⟩
 | [], [], _ :: _, hl, _, _ => by simp at hl
 | [], _ :: _, _, _, _, hk => by simp [lendL] at hk
 | _ :: _, _, [], hl, _, _ => by simp at hl
 | x :: xs, [], _ :: _, _, _, hk => by cases x <;> simp [lendL] at hk
 | x :: xs, o :: zs, u :: us, hl, hr, hk => by
  have rest : lendL m xs zs → ∃ F, OwnL (fun b o => S b o ∨ Lends pl m b o) w F zs us ∧ ∀ b o, ¬ F b o := fun h2 =>
   z8u h xs zs us (by simpa using hl) (fun j x u hx hu => hr (j + 1) x u (by simpa using hx) (by simpa using hu)) h2
  have one : ∀ z, o = .c z → lendA m x z → lendL m xs zs → ∃ F, OwnL (fun b o => S b o ∨ Lends pl m b o) w F (o :: zs) (u :: us) ∧ ∀ b o, ¬ F b o := fun z ho h1 h2 => by
   subst ho
   obtain ⟨F, hF, hn⟩ := rest h2
   exact ⟨_, .cons _ u _ us _ F (.c z u (z8w h (hr 0 _ u rfl rfl) h1)) hF (fun _ _ q => q.elim), fun b o q => q.elim (fun q => q) (hn b o)⟩
  cases o with
  | c z => cases x <;> exact one z rfl hk.1 hk.2
  | agg ws =>
   cases x with
   | agg cs =>
    obtain ⟨h1, h2⟩ := hk
    have h0 := hr 0 _ u rfl rfl
    cases h0 with | agg _ vs hvl hvr =>
    obtain ⟨F1, hF1, hn1⟩ := z8v h cs ws vs hvl hvr h1
    obtain ⟨F, hF, hn⟩ := rest h2
    exact ⟨_, .cons _ _ _ us F1 F (.agg _ vs F1 hF1) hF (fun b o q => absurd q (hn1 b o)), fun b o q => q.elim (hn1 b o) (hn b o)⟩
   | _ => simp [lendL] at hk
  | _ => cases x <;> simp [lendL] at hk
theorem w3s {D : Spec} (hD : ∀ f os Q, D f os Q → Den P X.G f os Q) (h : St X S pl w m) {site f : Nat} {xs : List AV} {us : List Value} (hl : us.length = xs.length) (hr : ∀ (j : Nat) x u, xs[j]? = some x → us[j]? = some u → RelV S pl w m x u)
  {K : KK} (hk : k2x D site m f xs K) : (∃ fn, P.funcs[f]? = some fn ∧ fn.body.isSome = true ∧ (fn.name == "runtime.NumGoroutine") = false) ∧ Calls P f us.toArray w fun e w' => ∃ v, e = .returned v ∧ ∃ S' pl' r m', K r m' ∧ RelV S' pl' w' m' r v ∧ St X S' pl' w' m' ∧ Keeps S S' pl pl' w w' m m' := by
 obtain ⟨os, hlend, Q, hden, hk⟩ := hk
 obtain ⟨F, ho, hF⟩ := z8u h xs os us hl hr hlend
 refine ⟨(hD f os Q hden).1, ?_⟩
 have hlow : ∀ b o, (S b o ∨ Lends pl m b o) → b < w.heap.size := fun b o q => by
  rcases q with q | q
  ·exact h.inv.low b o q
  ·obtain ⟨z, hz⟩ := w6c h q; exact k0q hz
 refine ((hD f os Q hden).2 _ F w us hlow (fun b o q => absurd q (hF b o)) (fun g cs hg => (h.glob g cs hg).mono (fun _ _ q => .inl q) (fun _ _ _ => rfl)) ho).mono ?_
 rintro e w' ⟨v, r, bs, S', Fr, Fb, rfl, hq, hor, hob, hend⟩
 refine ⟨v, rfl, ?_⟩
 obtain ⟨hsafe, hK⟩ := hk r bs hq
 have hU : ∀ b o, Lends pl m b o → ∃ z, z0p w' b o = some (.int .u8 z) := fun b o q => by
  obtain ⟨z, hz⟩ := w6c h q
  exact ⟨z, by rw [hend.ext.cell b o (k0q hz) (hF b o)]; exact hz⟩
 have hor2 := Own.apart hU hor hsafe
 obtain ⟨st2, kp2⟩ := h.world (S' := fun b o => S' b o ∧ ¬ Lends pl m b o) hend.ext (fun b o q => absurd q (hF b o)) (fun b o hs => ⟨hend.sub b o (.inl hs), fun q => by
   obtain ⟨id, ob, hg, hf⟩ := w7p q
   exact h.inv.free id ob hg b o hf hs⟩) (fun b o hs => by
   obtain ⟨h1, h2⟩ := hend.grow b o hs.1
   refine ⟨h1, ?_⟩
   rcases h2 with (h2 | h2) | h2 | h2
   ·exact .inl h2
   ·exact absurd h2 hs.2
   ·exact absurd h2 (hF b o)
   ·exact .inr (.inr h2))
 have hx := h.ext.size
 have hm : ∀ b o, Fr b o → (X.F0 b o ∨ X.w0.heap.size ≤ b) ∧ ¬ (S' b o ∧ ¬ Lends pl m b o) ∧ ¬ Feet pl m b o := fun b o hf => by
  obtain ⟨h1, h2⟩ := hend.mine b o (.inl hf)
  rcases h2 with h2 | h2
  ·exact absurd h2 (hF b o)
  ·exact ⟨.inr (by omega), fun q => h1 q.1, fun ⟨id, ob, hg, hf'⟩ => by have := h.inv.foot_lt hg hf'; omega⟩
 obtain ⟨pl4, l4, r4⟩ := z3j depth site st2 hor2 hm
 exact ⟨_, pl4, _, _, hK, r4, l4.st, kp2.trans l4.kp⟩
theorem w5b {D : Spec} (hD : ∀ f os Q, D f os Q → Den P X.G f os Q) (h : St X S pl w m) {site f : Nat} {xs : List AV} {us : List Value} (hl : us.length = xs.length) (hr : ∀ (j : Nat) x u, xs[j]? = some x → us[j]? = some u → RelV S pl w m x u)
  {K : KK} (hk : callW D site m f xs K) : (∃ fn, P.funcs[f]? = some fn ∧ fn.body.isSome = true ∧ (fn.name == "runtime.NumGoroutine") = false) ∧ Calls P f us.toArray w fun e w' => ∃ v, e = .returned v ∧ ∃ S' pl' r m', K r m' ∧ RelV S' pl' w' m' r v ∧ St X S' pl' w' m' ∧ Keeps S S' pl pl' w w' m m' := by
 rcases hk with hk | hk
 ·exact w3t hD h hl hr hk
 ·exact w3s hD h hl hr hk
end
end Go.Proofs.Ythncmjlcmlmnmaa.V
namespace Go.Proofs.Ythncmjlcmlmnmaa.V
open Go Go.RowKit
structure TmR (S : Area) (pl : Place) (w : World) (m : Mem) (tm : List AV) (a : Act) : Prop where
 defers : a.defers = []
 size : a.tmps.size = tm.length
 rel : ∀ (i : Nat) x, tm[i]? = some x → RelV S pl w m x (a.tmps.getD i undef)
section
variable {P : Program} {T : Tab} {X : Ctx} {S : Area} {pl : Place} {w : World} {m : Mem} {tm : List AV} {a : Act}
theorem TmR.mono {S' : Area} {pl' : Place} {w' : World} {m' : Mem} (k : Keeps S S' pl pl' w w' m m') (h : TmR S pl w m tm a) : TmR S' pl' w' m' tm a := ⟨h.defers, h.size, fun i x hx => (h.rel i x hx).mono k⟩
theorem TmR.put (h : TmR S pl w m tm a) {x : AV} {u : Value} (hr : RelV S pl w m x u) (d : Option Tmp) : TmR S pl w m (setO tm d x) (a.put d u) := by
 cases d with
 | none => exact h
 | some d =>
  refine ⟨h.defers, by simp [setO, Act.put, h.size], fun i y hy => ?_⟩
  simp only [setO, List.getElem?_set] at hy
  simp only [Act.put]
  by_cases hi : d = i
  ·subst hi
   rw [if_pos rfl] at hy
   split at hy
   ·injection hy with hy; subst hy
    rename_i hlt
    have : (a.tmps.setIfInBounds d u).getD d undef = u := by simp [Array.getD, h.size, hlt]
    rw [this]; exact hr
   ·simp at hy
  ·rw [if_neg hi] at hy
   have : (a.tmps.setIfInBounds d u).getD i undef = a.tmps.getD i undef := by
    rw [Array.getD_eq_getD_getElem?, Array.getD_eq_getD_getElem?, Array.getElem?_setIfInBounds_ne hi]
   rw [this]; exact h.rel i y hy
theorem z0n (hs : St X S pl w m) (h : TmR S pl w m tm a) (ty : Nat) (x : Operand) : RelV S pl w m (evO T X.G tm ty x) (a.eval x) := by
 cases x with
 | tmp t =>
  simp only [evO, Act.eval]
  by_cases ht : t < tm.length
  ·have hx : tm[t]? = some tm[t] := List.getElem?_eq_getElem ht
   have := h.rel t _ hx
   simpa [List.getD, hx] using this
  ·simp [List.getD, List.getElem?_eq_none (Nat.not_lt.1 ht)]; exact .dead _
 | const v =>
  simp only [evO, Act.eval]
  unfold k2w
  split
  ·exact .c _ _ (.sl _ [] (some []) none 0 0 0 (fun _ => .nilFunc) (Nat.le_refl _) (fun s h => by injection h with h; subst h; rfl) (fun h => absurd rfl h) (fun i e h => by simp at h) (fun k h => by simp at h) (fun k h => by simp at h) (fun i j e x h => by simp at h))
  ·split
   ·exact .c _ _ (.v _ (by assumption))
   ·exact .dead _
 | global g =>
  simp only [evO, Act.eval]
  split
  ·rename_i cs hg; exact .c _ _ (hs.glob g cs hg)
  ·exact .dead _
 | func f => exact .c _ _ (.v _ rfl)
theorem w3h (hs : St X S pl w m) (h : TmR S pl w m tm a) : ∀ (xs : List Operand) (tys : List TypeId), (xs.map a.eval).length = (evL T X.G tm xs tys).length ∧ ∀ (j : Nat) x u, (evL T X.G tm xs tys)[j]? = some x → (xs.map a.eval)[j]? = some u → RelV S pl w m x u
 | [], _ => ⟨rfl, fun j x u hx => by simp [evL] at hx⟩
 | x :: xs, tys => by
  obtain ⟨h1, h2⟩ := w3h hs h xs tys.tail
  refine ⟨by simp only [List.map_cons, List.length_cons, evL]; rw [h1], fun j y u hy hu => ?_⟩
  cases j with
  | zero => simp [evL] at hy hu; subst hy hu; exact z0n hs h _ x
  | succ j => exact h2 j y u (by simpa [evL] using hy) (by simpa using hu)
theorem z5t {x : AV} {u : Value} (h : RelV S pl w m x u) {A B : Prop} (hk : condB x A B) : ∃ b, u = .bool b ∧ (b = true → A) ∧ (b = false → B) := by
 unfold condB at hk
 split at hk
 ·exact ⟨_, z0z h, hk⟩
 ·exact hk.elim
theorem w5i (o : Oper) {next : Act → World → Prop} {Q : Exit → Act → World → Prop} {s : Sem Value} {u : Value} {w' : World} (he : (execOp a.eval o).run P w = ((do pure (Next.value (← s)) : Sem Next)).run P w) (hr : s.run P w = .ok u w') (hn : next (a.put o.dst u) w') : o.wp P a w next Q := by
 unfold Oper.wp
 rw [he, Sem.run_bind, hr]
 exact hn
def After (X : Ctx) (S : Area) (pl : Place) (w : World) (m : Mem) (tm : List AV) (d : Option Tmp) (K : KK) (a' : Act) (w' : World) : Prop :=
 ∃ v S' pl' m', K v m' ∧ St X S' pl' w' m' ∧ Keeps S S' pl pl' w w' m m' ∧ TmR S' pl' w' m' (setO tm d v) a'
theorem Did.next {K : KK} {d : Option Tmp} (h : TmR S pl w m tm a) {s : Sem Value} (hd : Did X S pl w m (s.run P w) K) : ∃ u w', s.run P w = .ok u w' ∧ After X S pl w m tm d K (a.put d u) w' := by
 obtain ⟨u, w', S', pl', v, m', e1, e2, e3, e4, e5⟩ := hd
 exact ⟨u, w', e1, v, S', pl', m', e2, e4, e5, (h.mono e5).put e3 d⟩
theorem w2n (hs : St X S pl w m) (h : TmR S pl w m tm a) (ps : Array (Nat × Operand)) :
  (ps.toList.map fun p => (p.1, a.eval p.2)).length = (ps.toList.map fun p => (p.1, evO T X.G tm 0 p.2)).length ∧
  ∀ (j : Nat) p q, (ps.toList.map fun p => (p.1, evO T X.G tm 0 p.2))[j]? = some p → (ps.toList.map fun p => (p.1, a.eval p.2))[j]? = some q → p.1 = q.1 ∧ RelV S pl w m p.2 q.2 := by
 refine ⟨by simp, fun j p q hp hq => ?_⟩
 rw [List.getElem?_map] at hp hq
 cases hj : ps.toList[j]? with
 | none => rw [hj] at hp; simp at hp
 | some x => rw [hj] at hp hq; simp at hp hq; subst hp hq; exact ⟨rfl, z0n hs h 0 x.2⟩
theorem k0t (hs : St X S pl w m) (h : TmR S pl w m tm a) (x : Option Operand) : w3y S pl w m (x.map (evO T X.G tm 0)) (x.map a.eval) := by
 cases x with
 | none => trivial
 | some x => exact z0n hs h 0 x
theorem z9n (hT : TabOk P T) (hs : St X S pl w m) (site : Nat) (b : Builtin) (tys : List TypeId) (ty : TypeId) (consts : Array Bool) {xs : List AV} {us : List Value} (hl : us.length = xs.length)
  (hr : ∀ (j : Nat) x u, xs[j]? = some x → us[j]? = some u → RelV S pl w m x u) {K : KK} (hk : z1i T site m b tys xs K) :
  ∃ s : Sem Value, (builtin b tys.toArray ty consts us.toArray) = (do pure (Next.value (← s)) : Sem Next) ∧ Did X S pl w m (s.run P w) K := by
 unfold z1i at hk
 split at hk
 ·rename_i x t
  match us, hl with
  | [u], _ => exact ⟨_, rfl, w7q hT hs (tys := #[t]) rfl (hr 0 x u rfl rfl) hk⟩
 ·rename_i x t
  match us, hl with
  | [u], _ => exact ⟨_, rfl, w7t hT hs (tys := #[t]) rfl (hr 0 x u rfl rfl) hk⟩
 ·rename_i tys; exact ⟨Builtin.min_ tys.toArray ty us.toArray, rfl, z6l (tys := tys.toArray) (ty := ty) hs hl hr false hk⟩
 ·rename_i tys; exact ⟨Builtin.max_ tys.toArray ty us.toArray, rfl, z6l (tys := tys.toArray) (ty := ty) hs hl hr true hk⟩
 ·rename_i x y t t2
  match us, hl with
  | [u, v], _ =>
   split at hk
   ·rename_i h1 h2; exact ⟨_, rfl, z6x hT hs h1 (.inl ⟨_, _, _, _, h2⟩) site (hr 0 x u rfl rfl) (hr 1 y v rfl rfl) hk⟩
   ·rename_i h1 h2; exact ⟨_, rfl, z6x hT hs h1 (.inr h2) site (hr 0 x u rfl rfl) (hr 1 y v rfl rfl) hk⟩
   ·exact hk.elim
 ·rename_i x y t t2
  match us, hl with
  | [u, v], _ =>
   split at hk
   ·rename_i h1; exact ⟨_, rfl, w4w hT hs h1 (hr 0 x u rfl rfl) (hr 1 y v rfl rfl) hk⟩
   ·exact hk.elim
 ·exact hk.elim
theorem z8o {D : Spec} (hT : TabOk P T) (hD : ∀ f os Q, D f os Q → Den P X.G f os Q) (hs : St X S pl w m) (h : TmR S pl w m tm a) (o : Oper) {K : KK} (hk : opW T X.G D tm o m K) {Q : Exit → Act → World → Prop} :
  o.wp P a w (After X S pl w m tm o.dst K) Q := by
 have fin : ∀ {s : Sem Value}, (execOp a.eval o).run P w = ((do pure (Next.value (← s)) : Sem Next)).run P w → Did X S pl w m (s.run P w) K → o.wp P a w (After X S pl w m tm o.dst K) Q := fun he hd => by
  obtain ⟨u, w', h1, h2⟩ := hd.next (tm := tm) (a := a) (d := o.dst) h
  exact w5i o he h1 h2
 have pureS : ∀ {x : AV} {u : Value}, (execOp a.eval o).run P w = .ok (.value u) w → RelV S pl w m x u → K x m → o.wp P a w (After X S pl w m tm o.dst K) Q := fun {x u} he hr hk => by
  unfold Oper.wp
  rw [he]
  exact ⟨x, S, pl, m, hk, hs, Keeps.refl _ _ _ _, h.put hr o.dst⟩
 unfold opW at hk
 dsimp only at hk
 split at hk
 ·rename_i x ho; exact pureS (x := evO T X.G tm o.type x) (u := a.eval x) (by unfold execOp; rw [ho]; rfl) (z0n hs h _ x) hk
 ·rename_i x ho; exact pureS (x := evO T X.G tm o.type x) (u := a.eval x) (by unfold execOp; rw [ho]; rfl) (z0n hs h _ x) hk
 ·rename_i c x y ho
  obtain ⟨b, hb, h1, h2⟩ := z5t (z0n hs h 0 c) hk
  cases b with
  | true => exact pureS (x := evO T X.G tm o.type x) (u := a.eval x) (by unfold execOp; rw [ho]; simp only [hb]; rfl) (z0n hs h _ x) (h1 rfl)
  | false => exact pureS (x := evO T X.G tm o.type y) (u := a.eval y) (by unfold execOp; rw [ho]; simp only [hb]; rfl) (z0n hs h _ y) (h2 rfl)
 ·rename_i e ho
  split at hk
  ·exact hk.elim
  ·rename_i n hn; exact fin (by unfold execOp; rw [ho]) (w3x hT hs hn _ hk)
 ·rename_i e x ho; exact fin (by unfold execOp; rw [ho]) (w7u hs e _ (z0n hs h e x) hk)
 ·rename_i t ps ho
  obtain ⟨h1, h2⟩ := w2n (T := T) hs h ps
  refine fin (s := Instr.build t (ps.map fun (i, x) => (i, a.eval x))) (by unfold execOp; rw [ho]) ?_
  have := w3v (K := K) hT hs (t := t) h1 h2 (by
   split at hk
   ·rename_i hk2; rw [hk2]; exact hk
   ·rename_i hk2; rw [hk2]; exact hk
   ·exact hk.elim)
  have e : (ps.map fun (i, x) => (i, a.eval x)) = (ps.toList.map fun p => (p.1, a.eval p.2)).toArray := by apply Array.ext'; simp
  rw [e]; exact this
 ·rename_i t len ps ho
  obtain ⟨h1, h2⟩ := w2n (T := T) hs h ps
  split at hk
  ·rename_i hk2
   refine fin (s := Instr.buildSlice t len (ps.map fun (i, x) => (i, a.eval x))) (by unfold execOp; rw [ho]) ?_
   have e : (ps.map fun (i, x) => (i, a.eval x)) = (ps.toList.map fun p => (p.1, a.eval p.2)).toArray := by apply Array.ext'; simp
   rw [e]; exact z7e hT hs hk2 _ h1 h2 hk
  ·exact hk.elim
 ·rename_i t x ho
  split at hk
  ·exact hk.elim
  ·rename_i n hn; exact fin (by unfold execOp; rw [ho]) (w4o hT hs hn (z0n hs h 0 x) hk)
 ·rename_i t x y ho
  split at hk
  ·exact hk.elim
  ·rename_i n hn
   obtain ⟨w', S', m', h1, h2, h3, h4⟩ := w1q hT hs hn (z0n hs h 0 x) (z0n hs h t y) hk
   unfold Oper.wp
   have : (execOp a.eval o).run P w = .ok .skip w' := by
    unfold execOp; rw [ho]
    simp only [Sem.run_bind, h1, Result.andThen_ok, Sem.run_pure]
   rw [this]
   exact ⟨.dead, S', pl, m', h2, h3, h4, (h.mono h4).put (.dead undef) o.dst⟩
 ·rename_i x ho
  obtain ⟨u, v, h1, h2, h3⟩ := z8p (P := P) o x a.eval ho (z0n hs h 0 x) hk
  exact pureS h1 h3 h2
 ·rename_i op t x y _ ho
  split at hk
  ·rename_i p hp
   have hxa := z0n (T := T) hs h t x
   have hya := z0n (T := T) hs h t y
   obtain ⟨xs, ys⟩ := p
   unfold aggs at hp
   split at hp
   ·rename_i q1 q2
    injection hp with hp; injection hp with e1 e2; subst e1 e2
    rw [q1] at hxa; rw [q2] at hya
    exact fin (s := do eqGuard op t x y (a.eval x) (a.eval y); binOp op t (a.eval x) (a.eval y)) (by unfold execOp; rw [ho]) (k0g hT hs op t x y hxa hya hk)
   ·simp at hp
  ·exact fin (s := do eqGuard op t x y (a.eval x) (a.eval y); binOp op t (a.eval x) (a.eval y)) (by unfold execOp; rw [ho]) (w7v hT hs op t x y (z0n hs h t x) (z0n hs h t y) hk)
 ·rename_i op _ x ho; exact fin (by unfold execOp; rw [ho]) (w8a hs op (z0n hs h 0 x) hk)
 ·rename_i s d x ho; exact fin (by unfold execOp; rw [ho]) (w4x hT hs _ (z0n hs h s x) hk)
 ·rename_i t l c ho
  split at hk
  ·rename_i hk2; exact fin (by unfold execOp; rw [ho]) (z7u hT hs hk2 _ (z0n hs h 0 l) (z0n hs h 0 c) hk)
  ·exact hk.elim
 ·rename_i t x lo hi mx ho
  exact fin (by unfold execOp; rw [ho]) (w1s hT hs (z0n hs h t x) (k0t hs h lo) (k0t hs h hi) (k0t hs h mx) hk)
 ·rename_i s x f ho
  split at hk
  ·rename_i fs hk2
   split at hk
   ·rename_i hf; exact fin (by unfold execOp; rw [ho]) (z7w hs hT hk2 hf (z0n hs h 0 x) hk)
   ·exact hk.elim
   ·exact hk.elim
  ·exact hk.elim
 ·rename_i t x f ho
  split at hk
  ·rename_i fs hk2
   split at hk
   ·rename_i hf; exact fin (by unfold execOp; rw [ho]) (w3d hT hs hk2 hf (z0n hs h 0 x) hk)
   ·exact hk.elim
  ·exact hk.elim
 ·rename_i t x i ho; exact fin (by unfold execOp; rw [ho]) (z7v hT hs (z0n hs h t x) (z0n hs h 0 i) hk)
 ·rename_i t x i ho; exact fin (by unfold execOp; rw [ho]) (w2x hT hs (z0n hs h t x) (z0n hs h 0 i) hk)
 ·rename_i x i ho; exact fin (by unfold execOp; rw [ho]) (z9m hs (z0n hs h 0 x) hk)
 ·rename_i c ho
  obtain ⟨hl, hr⟩ := w3h (T := T) hs h c.args.toList c.argTypes.toList
  have hargs : c.args.map a.eval = (c.args.toList.map a.eval).toArray := by apply Array.ext'; simp
  split at hk
  ·rename_i b hb
   obtain ⟨s, h1, h2⟩ := z9n hT hs (z6b o.dst) b c.argTypes.toList o.type (c.args.map fun | .const _ => true | _ => false) hl hr hk
   refine fin (s := s) ?_ h2
   rw [← h1]
   unfold execOp; rw [ho]
   simp only [Sem.run_bind, resolve, hb, Sem.run_pure, Result.andThen_ok, invoke, ← hargs, Array.toArray_toList]
   rfl
  ·rename_i f hf
   have hfr := z0n (T := T) hs h 0 f
   split at hk
   ·rename_i g first captured hev
    obtain ⟨rfl, rfl, hk⟩ := hk
    rw [hev] at hfr
    have hfv := z0z hfr
    obtain ⟨⟨fn, hfn, hbody, hname⟩, hcall⟩ := w5b hD hs hl hr hk
    unfold Oper.wp
    have hrun : (execOp a.eval o).run P w = .ok (.enter g (c.args.toList.map a.eval).toArray) w := by
     unfold execOp; rw [ho]
     have hnone : fn.body.isNone = false := by cases hq : fn.body <;> simp_all
     simp only [Sem.run_bind, resolve, hf, hfv, Deferred.ofValue, Sem.run_pure, Result.andThen_ok, invoke, callFunc, run_program, hfn, hname, Bool.false_eq_true, if_false, hnone, hargs]
     simp
    rw [hrun, Oper.upon_enter]
    refine hcall.mono ?_
    rintro e w' ⟨v, rfl, S', pl', r, m', hK, hrel, hst, hkp⟩
    exact ⟨r, S', pl', m', hK, hst, hkp, (h.mono hkp).put hrel o.dst⟩
   ·exact hk.elim
  ·exact hk.elim
 ·exact hk.elim
end
end Go.Proofs.Ythncmjlcmlmnmaa.V
