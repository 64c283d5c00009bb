/- The state behind a store, an append in place, a closing. Conditions: none. -/
import Derived.Test.YthncmjlcmlmnmaaV2
namespace Go.Proofs.Ythncmjlcmlmnmaa.V
open Go Go.RowKit

theorem putAt_get {α : Type} (l : List α) (o : Nat) (xs : List α) (h : o + xs.length ≤ l.length) (j : Nat) :
    (putAt l o xs)[j]? = if j < o then l[j]? else if j < o + xs.length then xs[j - o]? else l[j]? := by
  unfold putAt
  have ht : (l.take o).length = o := by rw [List.length_take]; omega
  by_cases h1 : j < o
  · rw [if_pos h1, List.append_assoc, List.getElem?_append_left (by omega), List.getElem?_take_of_lt h1]
  · rw [if_neg h1]
    by_cases h2 : j < o + xs.length
    · rw [if_pos h2, List.append_assoc, List.getElem?_append_right (by omega), List.getElem?_append_left (by omega), ht]
    · rw [if_neg h2, List.getElem?_append_right (by rw [List.length_append]; omega), List.length_append, ht, List.getElem?_drop]
      congr 1; omega
theorem putAt_length {α : Type} (l : List α) (o : Nat) (xs : List α) (h : o + xs.length ≤ l.length) : (putAt l o xs).length = l.length := by
  unfold putAt; simp [List.length_take, List.length_drop]; omega

/-- Same places, same version: one object changed. -/
theorem keeps_upd {S S' : Area} {pl : Place} {w w' : World} {m : Mem} {i : Nat} {ob ob' : Ob} (hob : m.get i = some ob) (ha : ob.alike ob') (hsub : ∀ b o, S b o → S' b o)
    (hc : ∀ b o, S b o → cellAt w' b o = cellAt w b o) (hs : ∀ b, w'.shape? b = w.shape? b) : Keeps S S' pl pl w w' m (m.upd i ob') :=
  ⟨hsub, hc, fun b s h => by rw [hs]; exact h, Nat.le_refl _, fun id o' h _ => by
    rw [get_upd] at h
    by_cases hi : id = i
    · subst hi; rw [if_pos rfl] at h; injection h with h; subst h; exact ⟨ob, hob, ha, rfl⟩
    · rw [if_neg hi] at h; exact ⟨o', h, by cases o' <;> simp [Ob.alike], rfl⟩⟩

/-- A block's cells change; 'F': what may be written for it. -/
theorem St.setBlkF {X : Ctx} {S : Area} {pl : Place} {w w' : World} {m : Mem} (h : St X S pl w m) (F : Area) {i v : Nat} {cs cs' : List AV} (hob : m.get i = some (.blk v cs)) (hext : Ext F w w')
    (hF : ∀ b o, F b o → (X.F0 b o ∨ X.w0.heap.size ≤ b) ∧ ¬ S b o ∧ ∀ id ob, id ≠ i → m.get id = some ob → ¬ ob.foot (pl id) b o)
    (hnew : ∀ b o, (Ob.blk v cs').foot (pl i) b o → (Ob.blk v cs).foot (pl i) b o ∨ F b o)
    (hrow : ∀ {pl'' : Place} {m'' : Mem}, pl'' = pl → m'' = m.upd i (.blk v cs') → Keeps S S pl pl'' w w' m m'' → RowA S pl'' w' m'' (pl i).1 (pl i).2 cs') :
    St X S pl w' (m.upd i (.blk v cs')) ∧ Keeps S S pl pl w w' m (m.upd i (.blk v cs')) := by
  obtain ⟨hv, hb, ht, hf⟩ := h.inv.ob i _ hob
  have k : Keeps S S pl pl w w' m (m.upd i (.blk v cs')) :=
    ⟨fun _ _ h => h, fun b o hs => hext.cell b o (h.inv.low b o hs) (fun hf => (hF b o hf).2.1 hs), fun b s hs => by rw [hext.shape b (shape_lt hs)]; exact hs, Nat.le_refl _, fun id o' hg _ => by
      rw [get_upd] at hg
      by_cases hi : id = i
      · subst hi; rw [if_pos rfl] at hg; injection hg with hg; subst hg; exact ⟨_, hob, rfl, rfl⟩
      · rw [if_neg hi] at hg; exact ⟨o', hg, by cases o' <;> simp [Ob.alike], rfl⟩⟩
  have hne : ∀ id ob, id ≠ i → (m.upd i (.blk v cs')).get id = some ob → m.get id = some ob := fun id ob hi hg => by rw [get_upd, if_neg hi] at hg; exact hg
  refine ⟨h.step1 i F k hext (fun b o hf => (hF b o hf).1) (fun b c hs => ⟨Nat.lt_of_lt_of_le (h.inv.low b c hs) hext.size, .inl hs⟩)
    (fun id ob hi hg => ⟨hne id ob hi hg, rfl⟩) (fun id ob hi hg b c hf => ⟨fun hF' => (hF b c hF').2.2 id ob hi (hne id ob hi hg) hf, h.inv.free id ob (hne id ob hi hg) b c hf⟩) (fun ob hg => ?_), k⟩
  rw [get_upd, if_pos rfl] at hg; injection hg with hg; subst hg
  refine ⟨hv, ⟨Nat.lt_of_lt_of_le hb hext.size, fun c hz e s hs => ht c (by rw [hext.frz _ _ hb] at hz; exact hz) e s (by rw [hext.shape _ hb] at hs; exact hs), hrow rfl rfl k⟩, fun b c hf => ?_⟩
  rcases hnew b c hf with h1 | h1
  · exact ⟨h.own i _ hob b c h1, h.inv.free i _ hob b c h1, fun id ob' hi hg => fun hf2 => h.inv.apart id i ob' _ (hne id ob' hi hg) hob hi b c hf2 h1⟩
  · exact ⟨(hF b c h1).1, (hF b c h1).2.1, fun id ob' hi hg hf2 => (hF b c h1).2.2 id ob' hi (hne id ob' hi hg) hf2⟩

theorem foot_put {v : Nat} {cs xs : List AV} {o : Nat} (hle : o + xs.length ≤ cs.length) {q : Nat × Nat} {b c : Nat} (hf : (Ob.blk v (putAt cs o xs)).foot q b c) :
    (Ob.blk v cs).foot q b c ∨ (b = q.1 ∧ q.2 + o ≤ c ∧ c < q.2 + o + xs.length) := by
  obtain ⟨rfl, j, x, hx, hd, rfl⟩ := hf
  rw [putAt_get cs o xs hle] at hx
  split at hx
  · exact .inl ⟨rfl, j, x, hx, hd, rfl⟩
  · split at hx
    · exact .inr ⟨rfl, by omega, by omega⟩
    · exact .inl ⟨rfl, j, x, hx, hd, rfl⟩

theorem St.setBlk {X : Ctx} {S : Area} {pl : Place} {w : World} {m : Mem} (h : St X S pl w m) {i v : Nat} {cs : List AV} (hob : m.get i = some (.blk v cs))
    (o : Nat) (xs : List AV) (us : List Value) (hl : us.length = xs.length) (hle : o + xs.length ≤ cs.length) (hd : ∀ x ∈ (cs.drop o).take xs.length, x.isDead = false) (hr : ∀ (j : Nat) x u, xs[j]? = some x → us[j]? = some u → RelV S pl w m x u) :
    St X S pl (w.setCells (pl i).1 ((pl i).2 + o) us) (m.upd i (.blk v (putAt cs o xs))) ∧
    Keeps S S pl pl w (w.setCells (pl i).1 ((pl i).2 + o) us) m (m.upd i (.blk v (putAt cs o xs))) := by
  obtain ⟨hv, hb, ht, hf⟩ := h.inv.ob i _ hob
  have hfoot : ∀ b k, (b = (pl i).1 ∧ (pl i).2 + o ≤ k ∧ k < (pl i).2 + o + us.length) → (Ob.blk v cs).foot (pl i) b k := fun b k ⟨h1, h2, h3⟩ => by
    have hj : k - (pl i).2 < cs.length := by omega
    have hx : cs[k - (pl i).2]? = some cs[k - (pl i).2] := List.getElem?_eq_getElem hj
    refine ⟨h1, k - (pl i).2, _, hx, hd _ ?_, by omega⟩
    apply List.mem_of_getElem? (i := k - (pl i).2 - o)
    rw [List.getElem?_take_of_lt (by omega), List.getElem?_drop, ← hx]; congr 1; omega
  refine h.setBlkF _ hob (Ext.setCells w (pl i).1 ((pl i).2 + o) us) (fun b c hF => ?_) (fun b c hf' => ?_) (fun {pl'' m''} hpl hm k j x hx => ?_)
  · have := hfoot b c hF
    exact ⟨h.own i _ hob b c this, h.inv.free i _ hob b c this, fun id ob hi hg hf2 => h.inv.apart id i ob _ hg hob hi b c hf2 this⟩
  · rcases foot_put hle hf' with h1 | h1
    · exact .inl h1
    · exact .inr ⟨h1.1, h1.2.1, by omega⟩
  · rw [putAt_get cs o xs hle] at hx
    by_cases h1 : j < o
    · rw [if_pos h1] at hx
      obtain ⟨u, hc, hrel⟩ := hf j x hx
      exact ⟨u, (cellAt_setCells_out _ _ _ _ _ _ (fun _ => .inl (by omega))).trans hc, hrel.mono k⟩
    · rw [if_neg h1] at hx
      by_cases h2 : j < o + xs.length
      · rw [if_pos h2] at hx
        have hjl : j - o < us.length := by omega
        have hu : us[j - o]? = some us[j - o] := List.getElem?_eq_getElem hjl
        have hin := cellAt_setCells_in (pl i).1 ((pl i).2 + o) us w (fun t ht' => by
          have hx' : cs[o + t]? = some cs[o + t] := List.getElem?_eq_getElem (by omega)
          obtain ⟨u', hu', _⟩ := hf (o + t) _ hx'
          rw [Nat.add_assoc, hu']; rfl) (j - o) hjl
        rw [show (pl i).2 + o + (j - o) = (pl i).2 + j by omega] at hin
        exact ⟨_, hin, (hr (j - o) x _ hx hu).mono k⟩
      · rw [if_neg h2] at hx
        obtain ⟨u, hc, hrel⟩ := hf j x hx
        exact ⟨u, (cellAt_setCells_out _ _ _ _ _ _ (fun _ => .inr (by omega))).trans hc, hrel.mono k⟩

/-- The array becomes such as never changes again, as far as it reaches. -/
theorem St.pub {X : Ctx} {S : Area} {pl : Place} {w : World} {m : Mem} (h : St X S pl w m) {i v sz : Nat} {es : List (List CV)} {cap : Option Nat} {pub : Bool} (hob : m.get i = some (.arr v sz es cap pub)) :
    St X (fun b o => S b o ∨ b = (pl i).1 ∧ o < es.length * sz) pl w (m.upd i (.arr v sz es cap true)) ∧
    Keeps S (fun b o => S b o ∨ b = (pl i).1 ∧ o < es.length * sz) pl pl w w m (m.upd i (.arr v sz es cap true)) := by
  obtain ⟨hv, h0, h1, h2, ⟨e, capn, hs, hle, hcap⟩, hrow, hp⟩ := h.inv.ob i _ hob
  have k := keeps_upd (pl := pl) (S := S) (S' := fun b o => S b o ∨ b = (pl i).1 ∧ o < es.length * sz) (w := w) (w' := w) (ob' := .arr v sz es cap true) hob ⟨rfl, rfl, Nat.le_refl _⟩ (fun _ _ h => .inl h) (fun _ _ _ => rfl) (fun b => rfl)
  have hne : ∀ id ob, id ≠ i → (m.upd i (.arr v sz es cap true)).get id = some ob → m.get id = some ob := fun id ob hi hg => by rw [get_upd, if_neg hi] at hg; exact hg
  have hin : ∀ b o, (b = (pl i).1 ∧ o < es.length * sz) → S b o ∨ (Ob.arr v sz es cap pub).foot (pl i) b o := by
    rintro b o ⟨rfl, ho⟩
    cases pub with
    | true => exact .inl (hp rfl o ho)
    | false => exact .inr ⟨rfl, by simp⟩
  refine ⟨h.step1 i (fun _ _ => False) k (Ext.refl _ _) (fun _ _ hf => hf.elim) (fun b o hs' => ?_) (fun id ob hi hg => ⟨hne id ob hi hg, rfl⟩) (fun id ob hi hg b o hf => ⟨fun hf => hf, ?_⟩) (fun ob hg => ?_), k⟩
  · rcases hs' with hs' | hs'
    · exact ⟨h.inv.low b o hs', .inl hs'⟩
    · refine ⟨by rw [hs'.1]; exact shape_lt hs, ?_⟩
      rcases hin b o hs' with h3 | h3
      · exact .inl h3
      · exact .inr (h.own i _ hob b o h3)
  · rintro (hs' | hs')
    · exact h.inv.free id ob (hne id ob hi hg) b o hf hs'
    · rcases hin b o hs' with h3 | h3
      · exact h.inv.free id ob (hne id ob hi hg) b o hf h3
      · exact h.inv.apart id i ob _ (hne id ob hi hg) hob hi b o hf h3
  · rw [get_upd, if_pos rfl] at hg; injection hg with hg; subst hg
    have hsub : ∀ b o, (Ob.arr v sz es cap true).foot (pl i) b o → (Ob.arr v sz es cap pub).foot (pl i) b o := fun b o ⟨h3, h4⟩ => ⟨h3, fun _ => h4 rfl⟩
    refine ⟨hv, ⟨h0, h1, ⟨h2.1, (by intro q; cases q)⟩, ⟨e, capn, hs, hle, hcap⟩, ⟨hrow.1, ?_⟩, fun _ o ho => .inr ⟨rfl, ho⟩⟩, fun b o hf => ⟨h.own i _ hob b o (hsub b o hf), ?_, fun id ob' hi hg hf2 => h.inv.apart id i ob' _ (hne id ob' hi hg) hob hi b o hf2 (hsub b o hf)⟩⟩
    · obtain ⟨f, hc, hr⟩ := hrow.2
      exact ⟨f, hc, fun i' j e x he hx => (hr i' j e x he hx).mono k.sub k.cell⟩
    · rintro (hs' | ⟨_, hs'⟩)
      · exact h.inv.free i _ hob b o (hsub b o hf) hs'
      · exact absurd (hf.2 rfl) (Nat.not_le.2 hs')

theorem RelC.of_arr {S : Area} {pl : Place} {w : World} {m : Mem} {i v sz n capn : Nat} {e : TypeId} {es : List (List CV)} {cap : Option Nat} (hok : ObOk S pl w m (pl i) (.arr v sz es cap true))
    (hn : n ≤ es.length) (hs : w.shape? (pl i).1 = some (e, capn * sz)) :
    RelC S w (.sl sz (es.take n) (if cap = some es.length ∧ n < es.length then some (es.drop n) else none)) (.slice (some ⟨(pl i).1, 0, none⟩) n capn) := by
  obtain ⟨h0, h1, h2, ⟨e', capn', hs', hle, hcap⟩, ⟨hl, f, hc, hr⟩, hp⟩ := hok
  have hcc : capn' = capn := by
    rw [hs] at hs'; injection hs' with hs'; injection hs' with _ hs'
    exact (Nat.eq_of_mul_eq_mul_right h1 hs').symm
  subst hcc
  have hlen : (es.take n).length = n := by rw [List.length_take]; omega
  have hall : ∀ sp, (if cap = some es.length ∧ n < es.length then some (es.drop n) else none) = sp → (es.take n ++ sp.getD [] = es ∨ es.take n ++ sp.getD [] = es.take n) := by
    rintro sp rfl
    by_cases h : cap = some es.length ∧ n < es.length
    · left; rw [if_pos h]; simp
    · right; rw [if_neg h]; simp
  generalize hsp : (if cap = some es.length ∧ n < es.length then some (es.drop n) else none) = sp
  have hA := hall sp hsp
  have hlt : (es.take n ++ sp.getD []).length ≤ es.length := by
    rcases hA with h | h
    · rw [h]; exact Nat.le_refl _
    · rw [h, hlen]; exact hn
  have hget : ∀ (j : Nat) x, (es.take n ++ sp.getD [])[j]? = some x → es[j]? = some x := by
    intro j x hx
    rcases hA with h | h
    · rwa [h] at hx
    · rw [h] at hx
      have hj : j < n := by have := (List.getElem?_eq_some_iff.1 hx).1; omega
      rwa [List.getElem?_take_of_lt hj] at hx
  have hmul : ∀ k, k < (es.take n ++ sp.getD []).length * sz → k < es.length * sz := fun k hk => Nat.lt_of_lt_of_le hk (Nat.mul_le_mul_right sz hlt)
  have := RelC.sl (S := S) (w := w) sz (es.take n) sp (some ⟨(pl i).1, 0, none⟩) capn' (pl i).1 0 f (by omega) (by
      intro s hs2
      by_cases h : cap = some es.length ∧ n < es.length
      · rw [if_pos h] at hsp; subst hsp; injection hs2 with hs2; subst hs2
        have := hcap _ h.1
        rw [hlen, List.length_drop]; omega
      · rw [if_neg h] at hsp; subst hsp; simp at hs2) (fun _ => ⟨rfl, h1⟩) (fun j x hx => hl j x (hget j x hx))
    (fun k hk => by rw [Nat.zero_add]; exact hp rfl k (hmul k hk)) (fun k hk => by rw [Nat.zero_add]; exact hc k (hmul k hk)) (fun j t x y hx hy => hr j t x y (hget j x hx) hy)
  rwa [hlen] at this

/-- The cells that the abstract memory alone may write. -/
def Feet (pl : Place) (m : Mem) : Area := fun b o => ∃ id ob, m.get id = some ob ∧ ob.foot (pl id) b o
structure Shrinks (S S' : Area) (pl : Place) (m m' : Mem) : Prop where
  grow : ∀ b o, S' b o → S b o ∨ Feet pl m b o
  feet : ∀ b o, Feet pl m' b o → Feet pl m b o
theorem Shrinks.refl (S : Area) (pl : Place) (m : Mem) : Shrinks S S pl m m := ⟨fun _ _ h => .inl h, fun _ _ h => h⟩
theorem Shrinks.trans {S S' S'' : Area} {pl : Place} {m m' m'' : Mem} (h : Shrinks S S' pl m m') (k : Shrinks S' S'' pl m' m'') : Shrinks S S'' pl m m'' :=
  ⟨fun b o hs => (k.grow b o hs).elim (fun q => h.grow b o q) (fun q => .inr (h.feet b o q)), fun b o hf => h.feet b o (k.feet b o hf)⟩
theorem St.pub_shrinks {X : Ctx} {S : Area} {pl : Place} {w : World} {m : Mem} (h : St X S pl w m) {i v sz : Nat} {es : List (List CV)} {cap : Option Nat} {pub : Bool} (hob : m.get i = some (.arr v sz es cap pub)) :
    Shrinks S (fun b o => S b o ∨ b = (pl i).1 ∧ o < es.length * sz) pl m (m.upd i (.arr v sz es cap true)) := by
  obtain ⟨hv, h0, h1, h2, h3, hrow, hp⟩ := h.inv.ob i _ hob
  refine ⟨fun b o hs => ?_, fun b o ⟨id, ob, hg, hf⟩ => ?_⟩
  · rcases hs with hs | ⟨rfl, ho⟩
    · exact .inl hs
    · cases pub with
      | true => exact .inl (hp rfl o ho)
      | false => exact .inr ⟨i, _, hob, rfl, by simp⟩
  · rw [get_upd] at hg
    by_cases hi : id = i
    · subst hi; rw [if_pos rfl] at hg; injection hg with hg; subst hg
      exact ⟨id, _, hob, hf.1, fun _ => hf.2 rfl⟩
    · rw [if_neg hi] at hg; exact ⟨id, ob, hg, hf⟩

theorem closeA_sound2 {X : Ctx} {S : Area} {pl : Place} {w : World} {m : Mem} (h : St X S pl w m) {x : AV} {u : Value} (hr : RelV S pl w m x u) {K : CV → Mem → Prop} (hk : closeA m x K) :
    ∃ S' y m', K y m' ∧ RelC S' w y u ∧ St X S' pl w m' ∧ Keeps S S' pl pl w w m m' ∧ Shrinks S S' pl m m' := by
  cases x with
  | c x => cases hr with | c _ _ hr => exact ⟨S, _, m, hk, hr.norm, h, Keeps.refl _ _ _ _, Shrinks.refl _ _ _⟩
  | t id ver n =>
    simp only [closeA] at hk
    cases hob : m.get id with
    | none => rw [hob] at hk; exact hk.elim
    | some ob =>
      rw [hob] at hk
      cases ob with
      | blk _ _ => exact hk.elim
      | arr v sz es cap pub =>
        obtain ⟨rfl, hn, hK⟩ := hk
        cases hr with | t _ _ _ b capn hv hnc hr =>
        obtain ⟨sz', es', cap', pub', e, heq, hn', rfl, hs⟩ := hr _ hob rfl
        injection heq with _ h1 h2 h3 h4; subst h1 h2 h3 h4
        obtain ⟨hst, hkp⟩ := h.pub hob
        have hok := (hst.inv.ob id _ (by rw [get_upd, if_pos rfl])).2
        exact ⟨_, _, _, hK, (RelC.of_arr hok hn hs).norm, hst, hkp, h.pub_shrinks hob⟩
  | _ => exact hk.elim

theorem closeL_sound2 {X : Ctx} {w : World} : ∀ (xs : List AV) (us : List Value) {S : Area} {pl : Place} {m : Mem} (_ : St X S pl w m) (_ : us.length = xs.length) (_ : ∀ (j : Nat) x u, xs[j]? = some x → us[j]? = some u → RelV S pl w m x u)
    {K : List CV → Mem → Prop} (_ : closeL m xs K), ∃ S' ys m', K ys m' ∧ ys.length = xs.length ∧ (∀ (j : Nat) y u, ys[j]? = some y → us[j]? = some u → RelC S' w y u) ∧ St X S' pl w m' ∧ Keeps S S' pl pl w w m m' ∧ Shrinks S S' pl m m'
  | [], _, S, _, m, h, _, _, K, hk => ⟨S, [], m, hk, rfl, fun j y u hy => by simp at hy, h, Keeps.refl _ _ _ _, Shrinks.refl _ _ _⟩
  | x :: xs, [], _, _, _, _, hl, _, _, _ => by simp at hl
  | x :: xs, u :: us, S, pl, m, h, hl, hr, K, hk => by
    obtain ⟨S1, y, m1, hk1, hy, h1, k1, s1⟩ := closeA_sound2 h (hr 0 x u rfl rfl) hk
    obtain ⟨S2, ys, m2, hk2, hlen, hys, h2, k2, s2⟩ := closeL_sound2 xs us h1 (by simpa using hl) (fun j x u hx hu => (hr (j + 1) x u hx hu).mono k1) hk1
    refine ⟨S2, y :: ys, m2, hk2, by simp [hlen], fun j y' u' hy' hu' => ?_, h2, k1.trans k2, s1.trans s2⟩
    cases j with
    | zero => simp at hy' hu'; subst hy' hu'; exact hy.mono k2.sub k2.cell
    | succ j => exact hys j y' u' (by simpa using hy') (by simpa using hu')
theorem closeA_sound {X : Ctx} {S : Area} {pl : Place} {w : World} {m : Mem} (h : St X S pl w m) {x : AV} {u : Value} (hr : RelV S pl w m x u) {K : CV → Mem → Prop} (hk : closeA m x K) :
    ∃ S' y m', K y m' ∧ RelC S' w y u ∧ St X S' pl w m' ∧ Keeps S S' pl pl w w m m' := by
  obtain ⟨S', y, m', h1, h2, h3, h4, _⟩ := closeA_sound2 h hr hk
  exact ⟨S', y, m', h1, h2, h3, h4⟩
theorem closeL_sound {X : Ctx} {w : World} (xs : List AV) (us : List Value) {S : Area} {pl : Place} {m : Mem} (h : St X S pl w m) (hl : us.length = xs.length) (hr : ∀ (j : Nat) x u, xs[j]? = some x → us[j]? = some u → RelV S pl w m x u)
    {K : List CV → Mem → Prop} (hk : closeL m xs K) : ∃ S' ys m', K ys m' ∧ ys.length = xs.length ∧ (∀ (j : Nat) y u, ys[j]? = some y → us[j]? = some u → RelC S' w y u) ∧ St X S' pl w m' ∧ Keeps S S' pl pl w w m m' := by
  obtain ⟨S', y, m', h1, h2, h3, h4, h5, _⟩ := closeL_sound2 xs us h hl hr hk
  exact ⟨S', y, m', h1, h2, h3, h4, h5⟩
end Go.Proofs.Ythncmjlcmlmnmaa.V
