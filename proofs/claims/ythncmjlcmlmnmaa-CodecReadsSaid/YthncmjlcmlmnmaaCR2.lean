/- How the state (world, places, abstract memory) goes on: one object at a time. Conditions: none. -/
import Derived.Test.YthncmjlcmlmnmaaCR1
import Derived.Laws.IdiomCopy
import Derived.Laws.IdiomStrings
import Derived.ChangeKeysEq
import Derived.Laws.Entries
namespace Go.Proofs.Ythncmjlcmlmnmaa.V
open Go Go.RowKit

section worlds
variable {w : World}
theorem cellAt_alloc (w : World) (cc : Array Value) (e : TypeId) (fr : Nat × Nat) (b o : Nat) :
    cellAt (w.alloc (.cells cc e fr)) b o = if b = w.heap.size then cc[o]? else cellAt w b o := by
  unfold cellAt World.cell? World.alloc
  simp only [Array.getElem?_push]
  by_cases h : b = w.heap.size
  · subst h; simp
  · simp [h]
theorem shape_alloc (w : World) (cc : Array Value) (e : TypeId) (fr : Nat × Nat) (b : Nat) :
    (w.alloc (.cells cc e fr)).shape? b = if b = w.heap.size then some (e, cc.size) else w.shape? b := by
  unfold World.shape? World.alloc
  simp only [Array.getElem?_push]
  by_cases h : b = w.heap.size
  · subst h; simp
  · simp [h]
theorem frz_alloc (w : World) (cc : Array Value) (e : TypeId) (fr : Nat × Nat) (b o : Nat) :
    (w.alloc (.cells cc e fr)).frozen? ⟨b, o, none⟩ = if b = w.heap.size then decide (fr.1 ≤ o) && decide (o < fr.2) else w.frozen? ⟨b, o, none⟩ := by
  unfold World.frozen? World.alloc
  simp only [Array.getElem?_push]
  by_cases h : b = w.heap.size
  · subst h; simp
  · simp [h]
theorem size_alloc (w : World) (o : Obj) : (w.alloc o).heap.size = w.heap.size + 1 := by show (w.heap.push o).size = _; simp
theorem Ext.alloc (F : Area) (w : World) (o : Obj) : Ext F w (w.alloc o) := by
  have hb : ∀ b, b < w.heap.size → (w.alloc o).heap[b]? = w.heap[b]? := fun b hb => Below.heap_alloc w o b hb
  exact ⟨rfl, rfl, rfl, by rw [size_alloc]; omega, fun b o' h _ => World.cell?_of_block (hb b h),
    fun b h => by unfold World.shape?; rw [hb b h], fun b o' h => World.frozen?_of_block (hb b h), fun b h _ => hb b h⟩
theorem shape_setCells (b : Nat) : ∀ (vs : List Value) (o : Nat) (w : World) (r : Nat), (w.setCells b o vs).shape? r = w.shape? r
  | [], _, _, _ => rfl
  | v :: vs, o, w, r => by
    rw [World.setCells, shape_setCells b vs]
    unfold World.shape? World.setCell
    simp only [Array.getElem?_modify]
    by_cases h : b = r
    · subst h
      cases hh : w.heap[b]? with
      | none => simp
      | some ob => cases ob <;> simp
    · simp [h]
theorem size_setCells (b : Nat) : ∀ (vs : List Value) (o : Nat) (w : World), (w.setCells b o vs).heap.size = w.heap.size
  | [], _, _ => rfl
  | v :: vs, o, w => by rw [World.setCells, size_setCells b vs]; simp [World.setCell]
theorem os_setCells (b : Nat) : ∀ (vs : List Value) (o : Nat) (w : World), (w.setCells b o vs).os = w.os ∧ (w.setCells b o vs).tape = w.tape ∧ (w.setCells b o vs).output = w.output
  | [], _, _ => ⟨rfl, rfl, rfl⟩
  | v :: vs, o, w => by rw [World.setCells]; exact os_setCells b vs (o + 1) _
theorem heap_setCells (b : Nat) : ∀ (vs : List Value) (o : Nat) (w : World) (r : Nat), r ≠ b → (w.setCells b o vs).heap[r]? = w.heap[r]?
  | [], _, _, _, _ => rfl
  | v :: vs, o, w, r, h => by rw [World.setCells, heap_setCells b vs _ _ r h]; exact Below.heap_setCell _ _ _ _ h
theorem cellAt_setCells_in (b o : Nat) (vs : List Value) (w : World) (h : ∀ j, j < vs.length → (cellAt w b (o + j)).isSome = true) (j : Nat) (hj : j < vs.length) :
    cellAt (w.setCells b o vs) b (o + j) = some vs[j] := World.cell?_setCells_in b vs o w h j hj
theorem cellAt_setCells_out (b o : Nat) (vs : List Value) (w : World) (c k : Nat) (h : c = b → k < o ∨ o + vs.length ≤ k) :
    cellAt (w.setCells b o vs) c k = cellAt w c k := World.cell?_setCells_out b vs o w ⟨c, k, none⟩ (fun e _ => h e)
theorem Ext.setCells (w : World) (b o : Nat) (vs : List Value) : Ext (fun c k => c = b ∧ o ≤ k ∧ k < o + vs.length) w (w.setCells b o vs) := by
  refine ⟨(os_setCells b vs o w).1, (os_setCells b vs o w).2.1, (os_setCells b vs o w).2.2, Nat.le_of_eq (size_setCells b vs o w).symm, fun c k _ hF => ?_, fun r _ => shape_setCells b vs o w r,
    fun c k _ => World.frozen?_setCells b vs o w _, fun c _ hF => ?_⟩
  · exact cellAt_setCells_out b o vs w c k (fun e => by subst e; simp at hF; omega)
  · by_cases h : c = b
    · subst h
      cases vs with
      | nil => rfl
      | cons v vs => exact absurd ⟨rfl, Nat.le_refl o, by simp⟩ (hF o)
    · exact heap_setCells b vs o w c h
end worlds

-- ---------------------------------------------------------------- objects that stay
theorem ObOk.keep {S S' : Area} {pl pl' : Place} {w w' : World} {m m' : Mem} {q : Nat × Nat} {ob : Ob} (k : Keeps S S' pl pl' w w' m m')
    (hsz : w.heap.size ≤ w'.heap.size) (hz : ∀ b o, b < w.heap.size → w'.frozen? ⟨b, o, none⟩ = w.frozen? ⟨b, o, none⟩)
    (hsh : ∀ b, b < w.heap.size → w'.shape? b = w.shape? b)
    (hf : ∀ b o, ob.foot q b o → b < w.heap.size → cellAt w' b o = cellAt w b o) (h : ObOk S pl w m q ob) : ObOk S' pl' w' m' q ob := by
  have thaw : ∀ b, b < w.heap.size → Thawed w b → Thawed w' b := fun b hb ht o hfz e s hs => ht o (by rw [← hz b o hb]; exact hfz) e s (by rw [← hsh b hb]; exact hs)
  cases ob with
  | blk v cs =>
    obtain ⟨h1, h2, h3⟩ := h
    refine ⟨Nat.lt_of_lt_of_le h1 hsz, thaw _ h1 h2, fun j x hx => ?_⟩
    obtain ⟨u, hc, hr⟩ := h3 j x hx
    cases hd : x.isDead with
    | false => exact ⟨u, (hf _ _ ⟨rfl, j, x, hx, hd, rfl⟩ h1).trans hc, hr.mono k⟩
    | true =>
      have hsome : (cellAt w' q.1 (q.2 + j)).isSome = true := by
        have h5 := hsh q.1 h1
        unfold World.shape? at h5
        unfold cellAt World.cell? at hc ⊢
        cases hh : w.heap[q.1]? with
        | none => rw [hh] at hc; simp at hc
        | some ob =>
          rw [hh] at hc h5
          cases ob with
          | cells cc e fr =>
            cases hh' : w'.heap[q.1]? with
            | none => rw [hh'] at h5; simp at h5
            | some ob' =>
              rw [hh'] at h5
              cases ob' with
              | cells cc' e' fr' =>
                simp only [Option.some.injEq, Prod.mk.injEq] at h5
                simp only [Option.isSome_none, Bool.false_eq_true, if_false] at hc ⊢
                have hlt : q.2 + j < cc.size := (Array.getElem?_eq_some_iff.1 hc).1
                simp [Array.getElem?_eq_getElem (show q.2 + j < cc'.size by omega)]
              | _ => simp at h5
          | _ => simp at hc
      obtain ⟨u', hu'⟩ := Option.isSome_iff_exists.1 hsome
      refine ⟨u', hu', ?_⟩
      cases x <;> simp [AV.isDead] at hd
      exact .dead _
  | arr v sz es cap pub =>
    obtain ⟨h0, h1, h2, ⟨e, capn, hs, hle, hcap⟩, ⟨hl, f, hc, hr⟩, hp⟩ := h
    have hb := shape_lt hs
    refine ⟨h0, h1, ⟨thaw _ hb h2.1, by rw [hsh _ hb]; exact h2.2⟩, ⟨e, capn, by rw [hsh _ hb]; exact hs, hle, hcap⟩, ⟨hl, f, fun i hi => ?_, fun i j e x he hx => (hr i j e x he hx).mono k.sub k.cell⟩, fun hpub o ho => k.sub _ _ (hp hpub o ho)⟩
    cases pub with
    | true => exact (k.cell _ _ (hp rfl _ hi)).trans (hc i hi)
    | false => exact (hf _ _ ⟨rfl, by simp⟩ hb).trans (hc i hi)

/-- One object is new, or changed; all others stay. -/
theorem St.step1 {X : Ctx} {S S' : Area} {pl pl' : Place} {w w' : World} {m m' : Mem} (i : Nat) (F : Area) (h : St X S pl w m) (k : Keeps S S' pl pl' w w' m m')
    (hext : Ext F w w') (hF : ∀ b o, F b o → X.F0 b o ∨ X.w0.heap.size ≤ b)
    (hS : ∀ b o, S' b o → b < w'.heap.size ∧ (S b o ∨ X.F0 b o ∨ X.w0.heap.size ≤ b))
    (hold : ∀ id ob, id ≠ i → m'.get id = some ob → m.get id = some ob ∧ pl' id = pl id)
    (hkeep : ∀ id ob, id ≠ i → m'.get id = some ob → ∀ b o, ob.foot (pl id) b o → ¬ F b o ∧ ¬ S' b o)
    (hnew : ∀ ob, m'.get i = some ob → ob.ver < m'.clk ∧ ObOk S' pl' w' m' (pl' i) ob ∧ ∀ b o, ob.foot (pl' i) b o → (X.F0 b o ∨ X.w0.heap.size ≤ b) ∧ ¬ S' b o ∧
      ∀ id ob', id ≠ i → m'.get id = some ob' → ¬ ob'.foot (pl id) b o) : St X S' pl' w' m' := by
  refine ⟨⟨fun id ob hob => ?_, fun id id' ob ob' h1 h2 hne b o hf hf' => ?_, fun id ob hob b o hf => ?_, fun b o hs => (hS b o hs).1⟩, ?_, fun b o hs => k.sub _ _ (h.sub b o hs), fun b o hs => ?_, fun id ob hob b o hf => ?_, fun g cs hg => ?_⟩
  · by_cases hi : id = i
    · subst hi; exact ⟨(hnew ob hob).1, (hnew ob hob).2.1⟩
    · obtain ⟨h1, h2⟩ := hold id ob hi hob
      obtain ⟨hv, hok⟩ := h.inv.ob id ob h1
      exact ⟨Nat.lt_of_lt_of_le hv k.clk, by rw [h2]; exact hok.keep k hext.size hext.frz hext.shape (fun b o hf hb => hext.cell b o hb (hkeep id ob hi hob b o hf).1)⟩
  · by_cases hi : id = i
    · subst hi
      obtain ⟨g1, g2⟩ := hold id' ob' (Ne.symm hne) h2
      rw [g2] at hf'
      exact ((hnew ob h1).2.2 b o hf).2.2 id' ob' (Ne.symm hne) h2 hf'
    · by_cases hi' : id' = i
      · subst hi'
        obtain ⟨g1, g2⟩ := hold id ob hne h1
        rw [g2] at hf
        exact ((hnew ob' h2).2.2 b o hf').2.2 id ob hne h1 hf
      · obtain ⟨g1, g2⟩ := hold id ob hi h1
        obtain ⟨g3, g4⟩ := hold id' ob' hi' h2
        rw [g2] at hf; rw [g4] at hf'
        exact h.inv.apart id id' ob ob' g1 g3 hne b o hf hf'
  · by_cases hi : id = i
    · subst hi; exact ((hnew ob hob).2.2 b o hf).2.1
    · obtain ⟨g1, g2⟩ := hold id ob hi hob
      rw [g2] at hf
      exact (hkeep id ob hi hob b o hf).2
  · exact h.ext.trans hext hF
  · rcases (hS b o hs).2 with h1 | h1 | h1
    · exact h.only b o h1
    · exact .inr (.inl h1)
    · exact .inr (.inr h1)
  · by_cases hi : id = i
    · subst hi; exact ((hnew ob hob).2.2 b o hf).1
    · obtain ⟨g1, g2⟩ := hold id ob hi hob
      rw [g2] at hf
      exact h.own id ob g1 b o hf
  · exact (h.glob g cs hg).mono k.sub k.cell

def plAt (pl : Place) (i : Nat) (q : Nat × Nat) : Place := fun j => if j = i then q else pl j

theorem Inv.foot_lt {S : Area} {pl : Place} {w : World} {m : Mem} (h : Inv S pl w m) {id : Nat} {ob : Ob} (hob : m.get id = some ob) {b o : Nat} (hf : ob.foot (pl id) b o) : b < w.heap.size := by
  have := (h.ob id ob hob).2
  cases ob with
  | blk v cs => obtain ⟨h1, _⟩ := this; obtain ⟨rfl, _⟩ := hf; exact h1
  | arr v sz es cap pub => obtain ⟨_, _, _, ⟨e, n, hs, _⟩, _⟩ := this; obtain ⟨rfl, _⟩ := hf; exact shape_lt hs

/-- A new block of the heap, and an object that lies in it. 'R': the cells of it that never change again. -/
theorem St.alloc {X : Ctx} {S : Area} {pl : Place} {w : World} {m : Mem} (h : St X S pl w m) (site : Nat) (f : Nat → Ob) (cc : Array Value) (e : TypeId) (fr : Nat × Nat) (R : Nat → Prop)
    (hv : (f m.clk).ver = m.clk) (hfoot : ∀ b o, (f m.clk).foot (w.heap.size, 0) b o → b = w.heap.size ∧ ¬ R o)
    (hok : ObOk (fun b o => S b o ∨ b = w.heap.size ∧ R o) (plAt pl site (w.heap.size, 0)) (w.alloc (.cells cc e fr)) (m.new site f) (w.heap.size, 0) (f m.clk)) :
    St X (fun b o => S b o ∨ b = w.heap.size ∧ R o) (plAt pl site (w.heap.size, 0)) (w.alloc (.cells cc e fr)) (m.new site f) ∧
    Keeps S (fun b o => S b o ∨ b = w.heap.size ∧ R o) pl (plAt pl site (w.heap.size, 0)) w (w.alloc (.cells cc e fr)) m (m.new site f) := by
  have hsize := size_alloc w (.cells cc e fr)
  have hx : X.w0.heap.size ≤ w.heap.size := h.ext.size
  have hne : ∀ id ob, id ≠ site → (m.new site f).get id = some ob → m.get id = some ob := fun id ob hi hg => by rw [get_new, if_neg hi] at hg; exact hg
  have k : Keeps S (fun b o => S b o ∨ b = w.heap.size ∧ R o) pl (plAt pl site (w.heap.size, 0)) w (w.alloc (.cells cc e fr)) m (m.new site f) :=
    ⟨fun b o hs => .inl hs, fun b o hs => by rw [cellAt_alloc, if_neg (Nat.ne_of_lt (h.inv.low b o hs))],
     fun b s hs => by rw [shape_alloc, if_neg (Nat.ne_of_lt (shape_lt hs))]; exact hs, by simp [clk_new],
     fun id ob hob hlt => by
      by_cases hi : id = site
      · subst hi; rw [get_new, if_pos rfl] at hob; injection hob with hob; subst hob; omega
      · exact ⟨ob, hne id ob hi hob, by cases ob <;> simp [Ob.alike], by simp [plAt, hi]⟩⟩
  refine ⟨h.step1 site (fun _ _ => False) k (Ext.alloc _ _ _) (fun _ _ hf => hf.elim) (fun b o hs => ?_) (fun id ob hi hob => ⟨hne id ob hi hob, by simp [plAt, hi]⟩) (fun id ob hi hob b o hf => ⟨fun hf => hf, ?_⟩) (fun ob hob => ?_), k⟩
  · rcases hs with hs | ⟨rfl, _⟩
    · exact ⟨by have := h.inv.low b o hs; omega, .inl hs⟩
    · exact ⟨by omega, .inr (.inr hx)⟩
  · have hg := hne id ob hi hob
    rintro (hs | ⟨rfl, _⟩)
    · exact h.inv.free id ob hg b o hf hs
    · exact absurd (h.inv.foot_lt hg hf) (Nat.lt_irrefl _)
  · rw [get_new, if_pos rfl] at hob; injection hob with hob; subst hob
    refine ⟨by rw [hv, clk_new]; omega, by simpa [plAt] using hok, fun b o hf => ?_⟩
    have hf' : (f m.clk).foot (w.heap.size, 0) b o := by simpa [plAt] using hf
    obtain ⟨rfl, hR⟩ := hfoot b o hf'
    refine ⟨.inr hx, ?_, fun id ob' hi hob' hf2 => absurd (h.inv.foot_lt (hne id ob' hi hob') hf2) (Nat.lt_irrefl _)⟩
    rintro (hs | ⟨_, hr⟩)
    · exact absurd (h.inv.low _ _ hs) (Nat.lt_irrefl _)
    · exact hR hr

theorem St.del {X : Ctx} {S : Area} {pl : Place} {w : World} {m : Mem} (h : St X S pl w m) (i : Nat) : St X S pl w (m.del i) ∧ Keeps S S pl pl w w m (m.del i) := by
  have hne : ∀ id ob, (m.del i).get id = some ob → m.get id = some ob := fun id ob hg => by
    rw [get_del] at hg; split at hg
    · simp at hg
    · exact hg
  have k : Keeps S S pl pl w w m (m.del i) := ⟨fun _ _ h => h, fun _ _ _ => rfl, fun _ _ h => h, Nat.le_refl _, fun id ob hob _ => ⟨ob, hne id ob hob, by cases ob <;> simp [Ob.alike], rfl⟩⟩
  refine ⟨h.step1 i (fun _ _ => False) k (Ext.refl _ _) (fun _ _ hf => hf.elim) (fun b o hs => ⟨h.inv.low b o hs, .inl hs⟩) (fun id ob _ hob => ⟨hne id ob hob, rfl⟩)
    (fun id ob _ hob b o hf => ⟨fun hf => hf, h.inv.free id ob (hne id ob hob) b o hf⟩) (fun ob hob => ?_), k⟩
  rw [get_del, if_pos rfl] at hob; simp at hob

/-- A draw: nothing but a count goes on. -/
theorem St.draw {X : Ctx} {S : Area} {pl : Place} {w : World} {m : Mem} (h : St X S pl w m) (n : Nat) : St X S pl { w with drawn := n } m ∧ Keeps S S pl pl w { w with drawn := n } m m := by
  have k : Keeps S S pl pl w { w with drawn := n } m m := ⟨fun _ _ h => h, fun _ _ _ => rfl, fun _ _ h => h, Nat.le_refl _, fun id ob hob _ => ⟨ob, hob, by cases ob <;> simp [Ob.alike], rfl⟩⟩
  have e : Ext (fun _ _ => False) w { w with drawn := n } := ⟨rfl, rfl, rfl, Nat.le_refl _, fun _ _ _ _ => rfl, fun _ _ => rfl, fun _ _ _ => rfl, fun _ _ _ => rfl⟩
  refine ⟨⟨⟨fun id ob hob => ⟨(h.inv.ob id ob hob).1, (h.inv.ob id ob hob).2.keep k (Nat.le_refl _) e.frz e.shape (fun _ _ _ _ => rfl)⟩, h.inv.apart, h.inv.free, h.inv.low⟩,
    h.ext.trans e (fun _ _ h => h.elim), h.sub, h.only, h.own, fun g cs hg => (h.glob g cs hg).mono k.sub k.cell⟩, k⟩
end Go.Proofs.Ythncmjlcmlmnmaa.V

namespace Go.Proofs.Ythncmjlcmlmnmaa.V
open Go Go.RowKit

theorem putAt_get {α : Type} (l : List α) (o : Nat) (xs : List α) (h : o + xs.length ≤ l.length) (j : Nat) :
    (putAt l o xs)[j]? = if j < o then l[j]? else if j < o + xs.length then xs[j - o]? else l[j]? := by
  unfold putAt
  have ht : (l.take o).length = o := by rw [List.length_take]; omega
  by_cases h1 : j < o
  · rw [if_pos h1, List.append_assoc, List.getElem?_append_left (by omega), List.getElem?_take_of_lt h1]
  · rw [if_neg h1]
    by_cases h2 : j < o + xs.length
    · rw [if_pos h2, List.append_assoc, List.getElem?_append_right (by omega), List.getElem?_append_left (by omega), ht]
    · rw [if_neg h2, List.getElem?_append_right (by rw [List.length_append]; omega), List.length_append, ht, List.getElem?_drop]
      congr 1; omega
theorem putAt_length {α : Type} (l : List α) (o : Nat) (xs : List α) (h : o + xs.length ≤ l.length) : (putAt l o xs).length = l.length := by
  unfold putAt; simp [List.length_take, List.length_drop]; omega

/-- Same places, same version: one object changed. -/
theorem keeps_upd {S S' : Area} {pl : Place} {w w' : World} {m : Mem} {i : Nat} {ob ob' : Ob} (hob : m.get i = some ob) (ha : ob.alike ob') (hsub : ∀ b o, S b o → S' b o)
    (hc : ∀ b o, S b o → cellAt w' b o = cellAt w b o) (hs : ∀ b, w'.shape? b = w.shape? b) : Keeps S S' pl pl w w' m (m.upd i ob') :=
  ⟨hsub, hc, fun b s h => by rw [hs]; exact h, Nat.le_refl _, fun id o' h _ => by
    rw [get_upd] at h
    by_cases hi : id = i
    · subst hi; rw [if_pos rfl] at h; injection h with h; subst h; exact ⟨ob, hob, ha, rfl⟩
    · rw [if_neg hi] at h; exact ⟨o', h, by cases o' <;> simp [Ob.alike], rfl⟩⟩

/-- A block's cells change; 'F': what may be written for it. -/
theorem St.setBlkF {X : Ctx} {S : Area} {pl : Place} {w w' : World} {m : Mem} (h : St X S pl w m) (F : Area) {i v : Nat} {cs cs' : List AV} (hob : m.get i = some (.blk v cs)) (hext : Ext F w w')
    (hF : ∀ b o, F b o → (X.F0 b o ∨ X.w0.heap.size ≤ b) ∧ ¬ S b o ∧ ∀ id ob, id ≠ i → m.get id = some ob → ¬ ob.foot (pl id) b o)
    (hnew : ∀ b o, (Ob.blk v cs').foot (pl i) b o → (Ob.blk v cs).foot (pl i) b o ∨ F b o)
    (hrow : ∀ {pl'' : Place} {m'' : Mem}, pl'' = pl → m'' = m.upd i (.blk v cs') → Keeps S S pl pl'' w w' m m'' → RowA S pl'' w' m'' (pl i).1 (pl i).2 cs') :
    St X S pl w' (m.upd i (.blk v cs')) ∧ Keeps S S pl pl w w' m (m.upd i (.blk v cs')) := by
  obtain ⟨hv, hb, ht, hf⟩ := h.inv.ob i _ hob
  have k : Keeps S S pl pl w w' m (m.upd i (.blk v cs')) :=
    ⟨fun _ _ h => h, fun b o hs => hext.cell b o (h.inv.low b o hs) (fun hf => (hF b o hf).2.1 hs), fun b s hs => by rw [hext.shape b (shape_lt hs)]; exact hs, Nat.le_refl _, fun id o' hg _ => by
      rw [get_upd] at hg
      by_cases hi : id = i
      · subst hi; rw [if_pos rfl] at hg; injection hg with hg; subst hg; exact ⟨_, hob, rfl, rfl⟩
      · rw [if_neg hi] at hg; exact ⟨o', hg, by cases o' <;> simp [Ob.alike], rfl⟩⟩
  have hne : ∀ id ob, id ≠ i → (m.upd i (.blk v cs')).get id = some ob → m.get id = some ob := fun id ob hi hg => by rw [get_upd, if_neg hi] at hg; exact hg
  refine ⟨h.step1 i F k hext (fun b o hf => (hF b o hf).1) (fun b c hs => ⟨Nat.lt_of_lt_of_le (h.inv.low b c hs) hext.size, .inl hs⟩)
    (fun id ob hi hg => ⟨hne id ob hi hg, rfl⟩) (fun id ob hi hg b c hf => ⟨fun hF' => (hF b c hF').2.2 id ob hi (hne id ob hi hg) hf, h.inv.free id ob (hne id ob hi hg) b c hf⟩) (fun ob hg => ?_), k⟩
  rw [get_upd, if_pos rfl] at hg; injection hg with hg; subst hg
  refine ⟨hv, ⟨Nat.lt_of_lt_of_le hb hext.size, fun c hz e s hs => ht c (by rw [hext.frz _ _ hb] at hz; exact hz) e s (by rw [hext.shape _ hb] at hs; exact hs), hrow rfl rfl k⟩, fun b c hf => ?_⟩
  rcases hnew b c hf with h1 | h1
  · exact ⟨h.own i _ hob b c h1, h.inv.free i _ hob b c h1, fun id ob' hi hg => fun hf2 => h.inv.apart id i ob' _ (hne id ob' hi hg) hob hi b c hf2 h1⟩
  · exact ⟨(hF b c h1).1, (hF b c h1).2.1, fun id ob' hi hg hf2 => (hF b c h1).2.2 id ob' hi (hne id ob' hi hg) hf2⟩

theorem foot_put {v : Nat} {cs xs : List AV} {o : Nat} (hle : o + xs.length ≤ cs.length) {q : Nat × Nat} {b c : Nat} (hf : (Ob.blk v (putAt cs o xs)).foot q b c) :
    (Ob.blk v cs).foot q b c ∨ (b = q.1 ∧ q.2 + o ≤ c ∧ c < q.2 + o + xs.length) := by
  obtain ⟨rfl, j, x, hx, hd, rfl⟩ := hf
  rw [putAt_get cs o xs hle] at hx
  split at hx
  · exact .inl ⟨rfl, j, x, hx, hd, rfl⟩
  · split at hx
    · exact .inr ⟨rfl, by omega, by omega⟩
    · exact .inl ⟨rfl, j, x, hx, hd, rfl⟩

theorem St.setBlk {X : Ctx} {S : Area} {pl : Place} {w : World} {m : Mem} (h : St X S pl w m) {i v : Nat} {cs : List AV} (hob : m.get i = some (.blk v cs))
    (o : Nat) (xs : List AV) (us : List Value) (hl : us.length = xs.length) (hle : o + xs.length ≤ cs.length) (hd : ∀ x ∈ (cs.drop o).take xs.length, x.isDead = false) (hr : ∀ (j : Nat) x u, xs[j]? = some x → us[j]? = some u → RelV S pl w m x u) :
    St X S pl (w.setCells (pl i).1 ((pl i).2 + o) us) (m.upd i (.blk v (putAt cs o xs))) ∧
    Keeps S S pl pl w (w.setCells (pl i).1 ((pl i).2 + o) us) m (m.upd i (.blk v (putAt cs o xs))) := by
  obtain ⟨hv, hb, ht, hf⟩ := h.inv.ob i _ hob
  have hfoot : ∀ b k, (b = (pl i).1 ∧ (pl i).2 + o ≤ k ∧ k < (pl i).2 + o + us.length) → (Ob.blk v cs).foot (pl i) b k := fun b k ⟨h1, h2, h3⟩ => by
    have hj : k - (pl i).2 < cs.length := by omega
    have hx : cs[k - (pl i).2]? = some cs[k - (pl i).2] := List.getElem?_eq_getElem hj
    refine ⟨h1, k - (pl i).2, _, hx, hd _ ?_, by omega⟩
    apply List.mem_of_getElem? (i := k - (pl i).2 - o)
    rw [List.getElem?_take_of_lt (by omega), List.getElem?_drop, ← hx]; congr 1; omega
  refine h.setBlkF _ hob (Ext.setCells w (pl i).1 ((pl i).2 + o) us) (fun b c hF => ?_) (fun b c hf' => ?_) (fun {pl'' m''} hpl hm k j x hx => ?_)
  · have := hfoot b c hF
    exact ⟨h.own i _ hob b c this, h.inv.free i _ hob b c this, fun id ob hi hg hf2 => h.inv.apart id i ob _ hg hob hi b c hf2 this⟩
  · rcases foot_put hle hf' with h1 | h1
    · exact .inl h1
    · exact .inr ⟨h1.1, h1.2.1, by omega⟩
  · rw [putAt_get cs o xs hle] at hx
    by_cases h1 : j < o
    · rw [if_pos h1] at hx
      obtain ⟨u, hc, hrel⟩ := hf j x hx
      exact ⟨u, (cellAt_setCells_out _ _ _ _ _ _ (fun _ => .inl (by omega))).trans hc, hrel.mono k⟩
    · rw [if_neg h1] at hx
      by_cases h2 : j < o + xs.length
      · rw [if_pos h2] at hx
        have hjl : j - o < us.length := by omega
        have hu : us[j - o]? = some us[j - o] := List.getElem?_eq_getElem hjl
        have hin := cellAt_setCells_in (pl i).1 ((pl i).2 + o) us w (fun t ht' => by
          have hx' : cs[o + t]? = some cs[o + t] := List.getElem?_eq_getElem (by omega)
          obtain ⟨u', hu', _⟩ := hf (o + t) _ hx'
          rw [Nat.add_assoc, hu']; rfl) (j - o) hjl
        rw [show (pl i).2 + o + (j - o) = (pl i).2 + j by omega] at hin
        exact ⟨_, hin, (hr (j - o) x _ hx hu).mono k⟩
      · rw [if_neg h2] at hx
        obtain ⟨u, hc, hrel⟩ := hf j x hx
        exact ⟨u, (cellAt_setCells_out _ _ _ _ _ _ (fun _ => .inr (by omega))).trans hc, hrel.mono k⟩

/-- The array becomes such as never changes again, as far as it reaches. -/
theorem St.pub {X : Ctx} {S : Area} {pl : Place} {w : World} {m : Mem} (h : St X S pl w m) {i v sz : Nat} {es : List (List CV)} {cap : Option Nat} {pub : Bool} (hob : m.get i = some (.arr v sz es cap pub)) :
    St X (fun b o => S b o ∨ b = (pl i).1 ∧ o < es.length * sz) pl w (m.upd i (.arr v sz es cap true)) ∧
    Keeps S (fun b o => S b o ∨ b = (pl i).1 ∧ o < es.length * sz) pl pl w w m (m.upd i (.arr v sz es cap true)) := by
  obtain ⟨hv, h0, h1, h2, ⟨e, capn, hs, hle, hcap⟩, hrow, hp⟩ := h.inv.ob i _ hob
  have k := keeps_upd (pl := pl) (S := S) (S' := fun b o => S b o ∨ b = (pl i).1 ∧ o < es.length * sz) (w := w) (w' := w) (ob' := .arr v sz es cap true) hob ⟨rfl, rfl, Nat.le_refl _⟩ (fun _ _ h => .inl h) (fun _ _ _ => rfl) (fun b => rfl)
  have hne : ∀ id ob, id ≠ i → (m.upd i (.arr v sz es cap true)).get id = some ob → m.get id = some ob := fun id ob hi hg => by rw [get_upd, if_neg hi] at hg; exact hg
  have hin : ∀ b o, (b = (pl i).1 ∧ o < es.length * sz) → S b o ∨ (Ob.arr v sz es cap pub).foot (pl i) b o := by
    rintro b o ⟨rfl, ho⟩
    cases pub with
    | true => exact .inl (hp rfl o ho)
    | false => exact .inr ⟨rfl, by simp⟩
  refine ⟨h.step1 i (fun _ _ => False) k (Ext.refl _ _) (fun _ _ hf => hf.elim) (fun b o hs' => ?_) (fun id ob hi hg => ⟨hne id ob hi hg, rfl⟩) (fun id ob hi hg b o hf => ⟨fun hf => hf, ?_⟩) (fun ob hg => ?_), k⟩
  · rcases hs' with hs' | hs'
    · exact ⟨h.inv.low b o hs', .inl hs'⟩
    · refine ⟨by rw [hs'.1]; exact shape_lt hs, ?_⟩
      rcases hin b o hs' with h3 | h3
      · exact .inl h3
      · exact .inr (h.own i _ hob b o h3)
  · rintro (hs' | hs')
    · exact h.inv.free id ob (hne id ob hi hg) b o hf hs'
    · rcases hin b o hs' with h3 | h3
      · exact h.inv.free id ob (hne id ob hi hg) b o hf h3
      · exact h.inv.apart id i ob _ (hne id ob hi hg) hob hi b o hf h3
  · rw [get_upd, if_pos rfl] at hg; injection hg with hg; subst hg
    have hsub : ∀ b o, (Ob.arr v sz es cap true).foot (pl i) b o → (Ob.arr v sz es cap pub).foot (pl i) b o := fun b o ⟨h3, h4⟩ => ⟨h3, fun _ => h4 rfl⟩
    refine ⟨hv, ⟨h0, h1, ⟨h2.1, (by intro q; cases q)⟩, ⟨e, capn, hs, hle, hcap⟩, ⟨hrow.1, ?_⟩, fun _ o ho => .inr ⟨rfl, ho⟩⟩, fun b o hf => ⟨h.own i _ hob b o (hsub b o hf), ?_, fun id ob' hi hg hf2 => h.inv.apart id i ob' _ (hne id ob' hi hg) hob hi b o hf2 (hsub b o hf)⟩⟩
    · obtain ⟨f, hc, hr⟩ := hrow.2
      exact ⟨f, hc, fun i' j e x he hx => (hr i' j e x he hx).mono k.sub k.cell⟩
    · rintro (hs' | ⟨_, hs'⟩)
      · exact h.inv.free i _ hob b o (hsub b o hf) hs'
      · exact absurd (hf.2 rfl) (Nat.not_le.2 hs')

theorem RelC.of_arr {S : Area} {pl : Place} {w : World} {m : Mem} {i v sz n capn : Nat} {e : TypeId} {es : List (List CV)} {cap : Option Nat} (hok : ObOk S pl w m (pl i) (.arr v sz es cap true))
    (hn : n ≤ es.length) (hs : w.shape? (pl i).1 = some (e, capn * sz)) :
    RelC S w (.sl sz (es.take n) (if cap = some es.length ∧ n < es.length then some (es.drop n) else none)) (.slice (some ⟨(pl i).1, 0, none⟩) n capn) := by
  obtain ⟨h0, h1, h2, ⟨e', capn', hs', hle, hcap⟩, ⟨hl, f, hc, hr⟩, hp⟩ := hok
  have hcc : capn' = capn := by
    rw [hs] at hs'; injection hs' with hs'; injection hs' with _ hs'
    exact (Nat.eq_of_mul_eq_mul_right h1 hs').symm
  subst hcc
  have hlen : (es.take n).length = n := by rw [List.length_take]; omega
  have hall : ∀ sp, (if cap = some es.length ∧ n < es.length then some (es.drop n) else none) = sp → (es.take n ++ sp.getD [] = es ∨ es.take n ++ sp.getD [] = es.take n) := by
    rintro sp rfl
    by_cases h : cap = some es.length ∧ n < es.length
    · left; rw [if_pos h]; simp
    · right; rw [if_neg h]; simp
  generalize hsp : (if cap = some es.length ∧ n < es.length then some (es.drop n) else none) = sp
  have hA := hall sp hsp
  have hlt : (es.take n ++ sp.getD []).length ≤ es.length := by
    rcases hA with h | h
    · rw [h]; exact Nat.le_refl _
    · rw [h, hlen]; exact hn
  have hget : ∀ (j : Nat) x, (es.take n ++ sp.getD [])[j]? = some x → es[j]? = some x := by
    intro j x hx
    rcases hA with h | h
    · rwa [h] at hx
    · rw [h] at hx
      have hj : j < n := by have := (List.getElem?_eq_some_iff.1 hx).1; omega
      rwa [List.getElem?_take_of_lt hj] at hx
  have hmul : ∀ k, k < (es.take n ++ sp.getD []).length * sz → k < es.length * sz := fun k hk => Nat.lt_of_lt_of_le hk (Nat.mul_le_mul_right sz hlt)
  have := RelC.sl (S := S) (w := w) sz (es.take n) sp (some ⟨(pl i).1, 0, none⟩) capn' (pl i).1 0 f (by omega) (by
      intro s hs2
      by_cases h : cap = some es.length ∧ n < es.length
      · rw [if_pos h] at hsp; subst hsp; injection hs2 with hs2; subst hs2
        have := hcap _ h.1
        rw [hlen, List.length_drop]; omega
      · rw [if_neg h] at hsp; subst hsp; simp at hs2) (fun _ => ⟨rfl, h1⟩) (fun j x hx => hl j x (hget j x hx))
    (fun k hk => by rw [Nat.zero_add]; exact hp rfl k (hmul k hk)) (fun k hk => by rw [Nat.zero_add]; exact hc k (hmul k hk)) (fun j t x y hx hy => hr j t x y (hget j x hx) hy)
  rwa [hlen] at this

/-- The cells that the abstract memory alone may write. -/
def Feet (pl : Place) (m : Mem) : Area := fun b o => ∃ id ob, m.get id = some ob ∧ ob.foot (pl id) b o
structure Shrinks (S S' : Area) (pl : Place) (m m' : Mem) : Prop where
  grow : ∀ b o, S' b o → S b o ∨ Feet pl m b o
  feet : ∀ b o, Feet pl m' b o → Feet pl m b o
theorem Shrinks.refl (S : Area) (pl : Place) (m : Mem) : Shrinks S S pl m m := ⟨fun _ _ h => .inl h, fun _ _ h => h⟩
theorem Shrinks.trans {S S' S'' : Area} {pl : Place} {m m' m'' : Mem} (h : Shrinks S S' pl m m') (k : Shrinks S' S'' pl m' m'') : Shrinks S S'' pl m m'' :=
  ⟨fun b o hs => (k.grow b o hs).elim (fun q => h.grow b o q) (fun q => .inr (h.feet b o q)), fun b o hf => h.feet b o (k.feet b o hf)⟩
theorem St.pub_shrinks {X : Ctx} {S : Area} {pl : Place} {w : World} {m : Mem} (h : St X S pl w m) {i v sz : Nat} {es : List (List CV)} {cap : Option Nat} {pub : Bool} (hob : m.get i = some (.arr v sz es cap pub)) :
    Shrinks S (fun b o => S b o ∨ b = (pl i).1 ∧ o < es.length * sz) pl m (m.upd i (.arr v sz es cap true)) := by
  obtain ⟨hv, h0, h1, h2, h3, hrow, hp⟩ := h.inv.ob i _ hob
  refine ⟨fun b o hs => ?_, fun b o ⟨id, ob, hg, hf⟩ => ?_⟩
  · rcases hs with hs | ⟨rfl, ho⟩
    · exact .inl hs
    · cases pub with
      | true => exact .inl (hp rfl o ho)
      | false => exact .inr ⟨i, _, hob, rfl, by simp⟩
  · rw [get_upd] at hg
    by_cases hi : id = i
    · subst hi; rw [if_pos rfl] at hg; injection hg with hg; subst hg
      exact ⟨id, _, hob, hf.1, fun _ => hf.2 rfl⟩
    · rw [if_neg hi] at hg; exact ⟨id, ob, hg, hf⟩

theorem closeA_sound2 {X : Ctx} {S : Area} {pl : Place} {w : World} {m : Mem} (h : St X S pl w m) {x : AV} {u : Value} (hr : RelV S pl w m x u) {K : CV → Mem → Prop} (hk : closeA m x K) :
    ∃ S' y m', K y m' ∧ RelC S' w y u ∧ St X S' pl w m' ∧ Keeps S S' pl pl w w m m' ∧ Shrinks S S' pl m m' := by
  cases x with
  | c x => cases hr with | c _ _ hr => exact ⟨S, _, m, hk, hr.norm, h, Keeps.refl _ _ _ _, Shrinks.refl _ _ _⟩
  | t id ver n =>
    simp only [closeA] at hk
    cases hob : m.get id with
    | none => rw [hob] at hk; exact hk.elim
    | some ob =>
      rw [hob] at hk
      cases ob with
      | blk _ _ => exact hk.elim
      | arr v sz es cap pub =>
        obtain ⟨rfl, hn, hK⟩ := hk
        cases hr with | t _ _ _ b capn hv hnc hr =>
        obtain ⟨sz', es', cap', pub', e, heq, hn', rfl, hs⟩ := hr _ hob rfl
        injection heq with _ h1 h2 h3 h4; subst h1 h2 h3 h4
        obtain ⟨hst, hkp⟩ := h.pub hob
        have hok := (hst.inv.ob id _ (by rw [get_upd, if_pos rfl])).2
        exact ⟨_, _, _, hK, (RelC.of_arr hok hn hs).norm, hst, hkp, h.pub_shrinks hob⟩
  | _ => exact hk.elim

theorem closeL_sound2 {X : Ctx} {w : World} : ∀ (xs : List AV) (us : List Value) {S : Area} {pl : Place} {m : Mem} (_ : St X S pl w m) (_ : us.length = xs.length) (_ : ∀ (j : Nat) x u, xs[j]? = some x → us[j]? = some u → RelV S pl w m x u)
    {K : List CV → Mem → Prop} (_ : closeL m xs K), ∃ S' ys m', K ys m' ∧ ys.length = xs.length ∧ (∀ (j : Nat) y u, ys[j]? = some y → us[j]? = some u → RelC S' w y u) ∧ St X S' pl w m' ∧ Keeps S S' pl pl w w m m' ∧ Shrinks S S' pl m m'
  | [], _, S, _, m, h, _, _, K, hk => ⟨S, [], m, hk, rfl, fun j y u hy => by simp at hy, h, Keeps.refl _ _ _ _, Shrinks.refl _ _ _⟩
  | x :: xs, [], _, _, _, _, hl, _, _, _ => by simp at hl
  | x :: xs, u :: us, S, pl, m, h, hl, hr, K, hk => by
    obtain ⟨S1, y, m1, hk1, hy, h1, k1, s1⟩ := closeA_sound2 h (hr 0 x u rfl rfl) hk
    obtain ⟨S2, ys, m2, hk2, hlen, hys, h2, k2, s2⟩ := closeL_sound2 xs us h1 (by simpa using hl) (fun j x u hx hu => (hr (j + 1) x u hx hu).mono k1) hk1
    refine ⟨S2, y :: ys, m2, hk2, by simp [hlen], fun j y' u' hy' hu' => ?_, h2, k1.trans k2, s1.trans s2⟩
    cases j with
    | zero => simp at hy' hu'; subst hy' hu'; exact hy.mono k2.sub k2.cell
    | succ j => exact hys j y' u' (by simpa using hy') (by simpa using hu')
theorem closeA_sound {X : Ctx} {S : Area} {pl : Place} {w : World} {m : Mem} (h : St X S pl w m) {x : AV} {u : Value} (hr : RelV S pl w m x u) {K : CV → Mem → Prop} (hk : closeA m x K) :
    ∃ S' y m', K y m' ∧ RelC S' w y u ∧ St X S' pl w m' ∧ Keeps S S' pl pl w w m m' := by
  obtain ⟨S', y, m', h1, h2, h3, h4, _⟩ := closeA_sound2 h hr hk
  exact ⟨S', y, m', h1, h2, h3, h4⟩
theorem closeL_sound {X : Ctx} {w : World} (xs : List AV) (us : List Value) {S : Area} {pl : Place} {m : Mem} (h : St X S pl w m) (hl : us.length = xs.length) (hr : ∀ (j : Nat) x u, xs[j]? = some x → us[j]? = some u → RelV S pl w m x u)
    {K : List CV → Mem → Prop} (hk : closeL m xs K) : ∃ S' ys m', K ys m' ∧ ys.length = xs.length ∧ (∀ (j : Nat) y u, ys[j]? = some y → us[j]? = some u → RelC S' w y u) ∧ St X S' pl w m' ∧ Keeps S S' pl pl w w m m' := by
  obtain ⟨S', y, m', h1, h2, h3, h4, h5, _⟩ := closeL_sound2 xs us h hl hr hk
  exact ⟨S', y, m', h1, h2, h3, h4, h5⟩
end Go.Proofs.Ythncmjlcmlmnmaa.V

namespace Go.Proofs.Ythncmjlcmlmnmaa.V
open Go Go.RowKit

theorem St.setArr {X : Ctx} {S : Area} {pl : Place} {w : World} {m : Mem} (h : St X S pl w m) {i v sz : Nat} {es : List (List CV)} {cap : Option Nat} {pub : Bool} (hob : m.get i = some (.arr v sz es cap pub))
    (o : Nat) (us : List Value) (es' : List (List CV)) (cap' : Option Nat) {e : TypeId} {capn : Nat} (hs : w.shape? (pl i).1 = some (e, capn * sz))
    (hle : o + us.length ≤ capn * sz) (hpub : pub = true → es.length * sz ≤ o) (hgrow : es.length ≤ es'.length) (hfit : es'.length ≤ capn) (hcap' : ∀ c, cap' = some c → capn = c)
    (hl : ∀ (i : Nat) e, es'[i]? = some e → e.length = sz) (hcov : ∀ k, k < es'.length * sz → k < es.length * sz ∨ o ≤ k ∧ k < o + us.length)
    (hr : ∀ f : Nat → Value, (∀ (i j : Nat) e x, es[i]? = some e → e[j]? = some x → RelC S w x (f (i * sz + j))) →
      ∀ (i j : Nat) e x, es'[i]? = some e → e[j]? = some x → RelC S w x (if o ≤ i * sz + j ∧ i * sz + j < o + us.length then us.getD (i * sz + j - o) undef else f (i * sz + j))) :
    ∃ S', St X S' pl (w.setCells (pl i).1 o us) (m.upd i (.arr v sz es' cap' pub)) ∧ Keeps S S' pl pl w (w.setCells (pl i).1 o us) m (m.upd i (.arr v sz es' cap' pub)) := by
  obtain ⟨hv, h0, h1, h2, ⟨e2, capn2, hs2, hle2, hcap2⟩, ⟨hl2, f, hc, hrf⟩, hp⟩ := h.inv.ob i _ hob
  have hcc : capn2 = capn := by
    rw [hs] at hs2; injection hs2 with hs2; injection hs2 with _ hs2
    exact (Nat.eq_of_mul_eq_mul_right h1 hs2).symm
  subst hcc
  have hblt := shape_lt hs
  let S' : Area := fun b k => S b k ∨ (pub = true ∧ b = (pl i).1 ∧ es.length * sz ≤ k ∧ k < es'.length * sz)
  have hfoot : ∀ b k, (b = (pl i).1 ∧ o ≤ k ∧ k < o + us.length) → (Ob.arr v sz es cap pub).foot (pl i) b k := fun b k ⟨g1, g2, g3⟩ => ⟨g1, fun hpb => by have := hpub hpb; omega⟩
  have hS : ∀ b k, S b k → cellAt (w.setCells (pl i).1 o us) b k = cellAt w b k := fun b k hs' =>
    cellAt_setCells_out _ _ _ _ _ _ (fun e => by
      rcases Nat.lt_or_ge k o with g1 | g1
      · exact .inl g1
      · rcases Nat.lt_or_ge k (o + us.length) with g2 | g2
        · exact absurd hs' (h.inv.free i _ hob b k (hfoot b k ⟨e, g1, g2⟩))
        · exact .inr g2)
  have k := keeps_upd (pl := pl) (S' := S') (w' := w.setCells (pl i).1 o us) (ob' := .arr v sz es' cap' pub) hob ⟨rfl, rfl, hgrow⟩ (fun _ _ h => .inl h) hS (fun b => shape_setCells _ _ _ _ _)
  have hne : ∀ id ob, id ≠ i → (m.upd i (.arr v sz es' cap' pub)).get id = some ob → m.get id = some ob := fun id ob hi hg => by rw [get_upd, if_neg hi] at hg; exact hg
  have hnewS : ∀ b k, (pub = true ∧ b = (pl i).1 ∧ es.length * sz ≤ k ∧ k < es'.length * sz) → (Ob.arr v sz es cap pub).foot (pl i) b k := fun b k ⟨_, g1, g2, _⟩ => ⟨g1, fun _ => g2⟩
  refine ⟨S', h.step1 i _ k (Ext.setCells w (pl i).1 o us) (fun b c hf => h.own i _ hob b c (hfoot b c hf)) (fun b c hs' => ?_)
    (fun id ob hi hg => ⟨hne id ob hi hg, rfl⟩) (fun id ob hi hg b c hf => ⟨fun hF => h.inv.apart id i ob _ (hne id ob hi hg) hob hi b c hf (hfoot b c hF), ?_⟩) (fun ob hg => ?_), k⟩
  · rw [size_setCells]
    rcases hs' with hs' | hs'
    · exact ⟨h.inv.low b c hs', .inl hs'⟩
    · exact ⟨by rw [hs'.2.1]; exact hblt, .inr (h.own i _ hob b c (hnewS b c hs'))⟩
  · rintro (hs' | hs')
    · exact h.inv.free id ob (hne id ob hi hg) b c hf hs'
    · exact h.inv.apart id i ob _ (hne id ob hi hg) hob hi b c hf (hnewS b c hs')
  · rw [get_upd, if_pos rfl] at hg; injection hg with hg; subst hg
    have hsub : ∀ b c, (Ob.arr v sz es' cap' pub).foot (pl i) b c → (Ob.arr v sz es cap pub).foot (pl i) b c := fun b c ⟨g1, g2⟩ => ⟨g1, fun hpb => Nat.le_trans (Nat.mul_le_mul_right sz hgrow) (g2 hpb)⟩
    refine ⟨hv, ⟨h0, h1, ⟨fun c hz e s hs' => h2.1 c (by rw [World.frozen?_setCells] at hz; exact hz) e s (by rw [shape_setCells] at hs'; exact hs'), fun hp e s hs' => h2.2 hp e s (by rw [shape_setCells] at hs'; exact hs')⟩, ⟨e, capn2, by rw [shape_setCells]; exact hs, hfit, hcap'⟩,
      ⟨hl, fun k => if o ≤ k ∧ k < o + us.length then us.getD (k - o) undef else f k, fun c hc' => ?_, fun i' j e' x he hx => (hr f hrf i' j e' x he hx).mono k.sub k.cell⟩, fun hpb c hc' => ?_⟩, fun b c hf => ⟨h.own i _ hob b c (hsub b c hf), ?_, fun id ob' hi hg hf2 => h.inv.apart id i ob' _ (hne id ob' hi hg) hob hi b c hf2 (hsub b c hf)⟩⟩
    · dsimp only
      by_cases hin : o ≤ c ∧ c < o + us.length
      · rw [if_pos hin]
        have hjl : c - o < us.length := by omega
        have hu : us[c - o]? = some us[c - o] := List.getElem?_eq_getElem hjl
        have hinn := cellAt_setCells_in (pl i).1 o us w (fun t ht' => by
          have hcell : (cellAt w (pl i).1 (o + t)).isSome = true := by
            unfold World.shape? at hs
            unfold cellAt World.cell?
            cases hh : w.heap[(pl i).1]? with
            | none => rw [hh] at hs; simp at hs
            | some ob =>
              rw [hh] at hs
              cases ob with
              | cells cc e' fr =>
                simp only [Option.some.injEq, Prod.mk.injEq] at hs
                have : o + t < cc.size := by rw [hs.2]; omega
                simp [Array.getElem?_eq_getElem this]
              | _ => simp at hs
          exact hcell) (c - o) hjl
        rw [show o + (c - o) = c by omega] at hinn
        rw [hinn]; simp [List.getD, hu]
      · rw [if_neg hin]
        have hlt : c < es.length * sz := (hcov c hc').resolve_right hin
        rw [← hc c hlt]
        exact cellAt_setCells_out _ _ _ _ _ _ (fun _ => by omega)
    · rcases Nat.lt_or_ge c (es.length * sz) with hlt | hge
      · exact .inl (hp hpb c hlt)
      · exact .inr ⟨hpb, rfl, hge, hc'⟩
    · rintro (hs' | hs')
      · exact h.inv.free i _ hob b c (hsub b c hf) hs'
      · exact absurd (hf.2 hs'.1) (Nat.not_le.2 hs'.2.2.2)

/-- The same array under another name: old names of it know nothing any more. -/
theorem St.rename {X : Ctx} {S : Area} {pl : Place} {w : World} {m : Mem} (h : St X S pl w m) {i v sz : Nat} {es : List (List CV)} {cap : Option Nat} {pub : Bool} (hob : m.get i = some (.arr v sz es cap pub)) (site : Nat) :
    St X S (plAt pl site (pl i)) w ((m.del i).new site fun v => .arr v sz es cap pub) ∧ Keeps S S pl (plAt pl site (pl i)) w w m ((m.del i).new site fun v => .arr v sz es cap pub) := by
  obtain ⟨hv, h0, h1, h2, h3, hrow, hp⟩ := h.inv.ob i _ hob
  have hne : ∀ id ob, id ≠ site → ((m.del i).new site fun v => .arr v sz es cap pub).get id = some ob → m.get id = some ob ∧ id ≠ i := fun id ob hi hg => by
    rw [get_new, if_neg hi, get_del] at hg
    split at hg
    · simp at hg
    · exact ⟨hg, by assumption⟩
  have k : Keeps S S pl (plAt pl site (pl i)) w w m ((m.del i).new site fun v => .arr v sz es cap pub) :=
    ⟨fun _ _ h => h, fun _ _ _ => rfl, fun _ _ h => h, by rw [clk_new, clk_del]; omega, fun id ob hg hlt => by
      by_cases hi : id = site
      · subst hi; rw [get_new, if_pos rfl] at hg; injection hg with hg; subst hg
        rw [clk_del] at hlt; exact absurd hlt (Nat.lt_irrefl _)
      · exact ⟨ob, (hne id ob hi hg).1, by cases ob <;> simp [Ob.alike], by simp [plAt, hi]⟩⟩
  refine ⟨h.step1 site (fun _ _ => False) k (Ext.refl _ _) (fun _ _ hf => hf.elim) (fun b o hs => ⟨h.inv.low b o hs, .inl hs⟩) (fun id ob hi hg => ⟨(hne id ob hi hg).1, by simp [plAt, hi]⟩)
    (fun id ob hi hg b o hf => ⟨fun hf => hf, h.inv.free id ob (hne id ob hi hg).1 b o hf⟩) (fun ob hg => ?_), k⟩
  rw [get_new, if_pos rfl] at hg; injection hg with hg; subst hg
  have hpl : plAt pl site (pl i) site = pl i := by simp [plAt]
  obtain ⟨hl, f, hc, hr⟩ := hrow
  rw [hpl]
  exact ⟨by rw [clk_new, clk_del]; exact Nat.lt_succ_self _, ⟨h0, h1, h2, h3, ⟨hl, f, hc, fun i' j e x he hx => (hr i' j e x he hx).mono k.sub k.cell⟩, hp⟩,
    fun b o hf => ⟨h.own i _ hob b o hf, h.inv.free i _ hob b o hf, fun id ob' hi hg hf2 => h.inv.apart id i ob' _ (hne id ob' hi hg).1 hob (hne id ob' hi hg).2 b o hf2 hf⟩⟩
end Go.Proofs.Ythncmjlcmlmnmaa.V

namespace Go.Proofs.Ythncmjlcmlmnmaa.V
open Go Go.RowKit

def aggB (P : Program) (t : TypeId) : Bool := match P.underlying t with | some (.struct _) | some (.array _ _) => true | _ => false
def simpleZ : CV → Value → Bool
  | .v (.int k n), .int k' n' => k == k' && n == n'
  | .v (.bool b), .bool b' => b == b'
  | .v (.string s), .string s' => s.data.toList == s'.data.toList
  | .v (.pointer none), .pointer none => true
  | .v (.map none), .map none => true
  | .v .nilFunc, .nilFunc => true
  | .v .nilIface, .nilIface => true
  | .sl _ [] (some []), .slice none 0 0 => true
  | _, _ => false
def zerosOk : List CV → List Value → Bool
  | [], [] => true
  | x :: xs, v :: vs => simpleZ x v && zerosOk xs vs
  | _, _ => false
def zeroOk (P : Program) (t : TypeId) (z : List CV) : Bool := match (P.info? t).bind (·.zero) with
  | some v => zerosOk z v.cells.toList
  | none => false
def known (P : Program) (t : TypeId) : Bool := (P.info? t).isSome && (P.underlying t).isSome
def fieldRow (P : Program) (f : Field) : Nat × Nat × Bool := (f.offset, P.cellsOf f.type, aggB P f.type)
def tkOk (P : Program) (t : TypeId) (ez : List CV) : TK → Bool
  | .sc => true
  | .bool => match P.underlying t with | some .bool => true | _ => false
  | .int k => match P.underlying t with | some (.int k') => k == k' | _ => false
  | .str => match P.underlying t with | some .string => true | _ => false
  | .st fs => match P.underlying t with | some (.struct fields) => fields.toList.map (fieldRow P) == fs && fields.toList.all fun f => known P f.type | _ => false
  | .ar n esz ea => match P.underlying t with | some (.array n' e) => n == n' && P.cellsOf e == esz && aggB P e == ea && known P e && decide (0 < esz) | _ => false
  | .sl esz ea eb u8 => match P.underlying t with
    | some (.slice e) => P.cellsOf e == esz && aggB P e == ea && P.bytesOf e == eb && known P e && decide (0 < esz) && decide (eb ≤ 2 ^ 30) && decide (0 < eb) && (zeroOk P e ez && ez.length == esz) &&
        (!u8 || (match P.underlying e with | some (.int .u8) => true | _ => false))
    | _ => false
  | .pt esz ea => match P.underlying t with | some (.pointer e) => P.cellsOf e == esz && aggB P e == ea && known P e && decide (0 < esz) | _ => false
def scalC (P : Program) (e : TypeId) (c : Nat) : Bool := match P.underlying e, c with
  | some (.int _), 1 => true
  | some .bool, 2 => true
  | some .string, 3 => true
  | _, _ => false
def flatFs (P : Program) : Nat → List Field → List Nat → Bool
  | _, [], [] => true
  | i, f :: fs, c :: cs => f.name != "_" && f.offset == i && scalC P f.type c && flatFs P (i + 1) fs cs
  | _, _, _ => false
def eqOk (P : Program) (t : TypeId) : List Nat → Bool
  | [] => true
  | cd => !P.eqGuardType P.depth t && match P.underlying t with | some (.struct fs) => !P.stoodInHeld t && flatFs P 0 fs.toList cd | _ => false
def tiOk (P : Program) (t : TypeId) (ti : TI) : Bool :=
  known P t && P.cellsOf t == ti.size && aggB P t == ti.agg && zeroOk P t ti.zero && tkOk P t ti.ezero ti.k && eqOk P t ti.eq
def tabOkFrom (P : Program) : Nat → List TI → Bool
  | _, [] => true
  | t, ti :: r => ((ti.size == 0 && ti.k.isSc) || tiOk P t ti) && tabOkFrom P (t + 1) r
def TabOk (P : Program) (T : Tab) : Prop := ∀ t, (T.at t).size ≠ 0 ∨ (T.at t).k.isSc = false → tiOk P t (T.at t) = true

theorem tabOkFrom_get (P : Program) : ∀ (l : List TI) (s : Nat), tabOkFrom P s l = true → ∀ i, (l.getD i TI.no).size ≠ 0 ∨ (l.getD i TI.no).k.isSc = false → tiOk P (s + i) (l.getD i TI.no) = true
  | [], _, _, i, h => by simp [TI.no, TK.isSc] at h
  | ti :: r, s, hc, 0, h => by
    simp only [tabOkFrom, Bool.and_eq_true, Bool.or_eq_true, beq_iff_eq] at hc
    simp only [List.getD_cons_zero] at h ⊢
    rcases hc.1 with ⟨h1, h2⟩ | h1
    · rw [h2] at h; simp [h1] at h
    · exact h1
  | ti :: r, s, hc, i + 1, h => by
    simp only [tabOkFrom, Bool.and_eq_true] at hc
    have := tabOkFrom_get P r (s + 1) hc.2 i (by simpa using h)
    simpa [Nat.add_assoc, Nat.add_comm 1 i] using this
theorem TabOk.of_check {P : Program} {T : Tab} (h : tabOkFrom P 0 T = true) : TabOk P T := fun t ht => by
  have := tabOkFrom_get P T 0 h t ht
  rwa [Nat.zero_add] at this

section
variable {P : Program} {T : Tab} {t : Nat}
theorem known_info (h : known P t = true) : ∃ i d, P.info? t = some i ∧ P.underlying t = some d := by
  unfold known at h
  simp only [Bool.and_eq_true, Option.isSome_iff_exists] at h
  obtain ⟨⟨i, hi⟩, ⟨d, hd⟩⟩ := h
  exact ⟨i, d, hi, hd⟩
theorem run_size_of (h : known P t = true) (w : World) : (sizeOf t).run P w = .ok (P.cellsOf t) w := by
  obtain ⟨i, d, hi, hd⟩ := known_info h
  exact run_sizeOf w hi
theorem run_agg_of (h : known P t = true) (w : World) : (isAgg t).run P w = .ok (aggB P t) w := by
  obtain ⟨i, d, hi, hd⟩ := known_info h
  unfold isAgg aggB
  simp only [Sem.run_bind, run_underlying hd, Result.andThen_ok, hd]
  cases d <;> rfl
theorem TabOk.ti (h : TabOk P T) (hs : (T.at t).size ≠ 0) : known P t = true ∧ P.cellsOf t = (T.at t).size ∧ aggB P t = (T.at t).agg ∧ zeroOk P t (T.at t).zero = true := by
  have := h t (.inl hs)
  simp only [tiOk, Bool.and_eq_true, beq_iff_eq] at this
  exact ⟨this.1.1.1.1.1, this.1.1.1.1.2, this.1.1.1.2, this.1.1.2⟩
theorem TabOk.tk (h : TabOk P T) (hs : (T.at t).k.isSc = false) : tkOk P t (T.at t).ezero (T.at t).k = true ∧ zeroOk P t (T.at t).zero = true ∧ known P t = true := by
  have := h t (.inr hs)
  simp only [tiOk, Bool.and_eq_true, beq_iff_eq] at this
  exact ⟨this.1.2, this.1.1.2, this.1.1.1.1.1⟩
theorem zerosOk_rel (S : Area) (w : World) : ∀ (z : List CV) (vs : List Value), zerosOk z vs = true → z.length = vs.length ∧ ∀ (i : Nat) x u, z[i]? = some x → vs[i]? = some u → RelC S w x u
  | [], [], _ => ⟨rfl, fun i x u h => by simp at h⟩
  | [], _ :: _, h => by simp [zerosOk] at h
  | _ :: _, [], h => by simp [zerosOk] at h
  | x :: z, v :: vs, h => by
    simp only [zerosOk, Bool.and_eq_true] at h
    obtain ⟨hl, hr⟩ := zerosOk_rel S w z vs h.2
    refine ⟨by simp [hl], fun i y u hy hu => ?_⟩
    cases i with
    | succ i => exact hr i y u (by simpa using hy) (by simpa using hu)
    | zero =>
      simp only [List.getElem?_cons_zero, Option.some.injEq] at hy hu
      subst hy hu
      have hx := h.1
      unfold simpleZ at hx
      split at hx <;> simp only [Bool.and_eq_true, beq_iff_eq, Bool.false_eq_true] at hx
      · obtain ⟨rfl, rfl⟩ := hx; exact .v _ rfl
      · subst hx; exact .v _ rfl
      · rename_i s s'
        have : s = s' := by cases s; cases s'; simp only at hx; congr 1; exact Array.ext' hx
        subst this; exact .v _ rfl
      · exact .v _ rfl
      · exact .v _ rfl
      · exact .v _ rfl
      · exact .v _ rfl
      · exact .sl _ [] (some []) none 0 0 0 (fun _ => .nilFunc) (Nat.le_refl _) (fun s h => by injection h with h; subst h; rfl) (fun h => absurd rfl h) (fun i e h => by simp at h) (fun k h => by simp at h) (fun k h => by simp at h) (fun i j e x h => by simp at h)
theorem zero_of {z : List CV} (h : zeroOk P t z = true) (hk : known P t = true) (S : Area) (w : World) : ∃ v, (zeroValue t).run P w = .ok v w ∧ z.length = v.cells.size ∧ ∀ (i : Nat) x u, z[i]? = some x → v.cells[i]? = some u → RelC S w x u := by
  obtain ⟨i, d, hi, hd⟩ := known_info hk
  unfold zeroOk at h
  rw [hi] at h
  simp only [Option.bind_some] at h
  cases hz : i.zero with
  | none => rw [hz] at h; simp at h
  | some v =>
    rw [hz] at h
    obtain ⟨hl, hr⟩ := zerosOk_rel S w z v.cells.toList h
    refine ⟨v, ?_, by simpa using hl, fun j x u hx hu => hr j x u hx (by simpa using hu)⟩
    unfold zeroValue
    simp only [Sem.run_bind, run_typeInfo w hi, Result.andThen_ok, hz]
    rfl
end
end Go.Proofs.Ythncmjlcmlmnmaa.V

