/- How the state (world, places, abstract memory) goes on: one object at a time. Conditions: none. -/
import Derived.Test.YthncmjlcmlmnmaaV1
import Derived.Laws.IdiomCopy
import Derived.Laws.IdiomStrings
namespace Go.Proofs.Ythncmjlcmlmnmaa.V
open Go Go.RowKit

section worlds
variable {w : World}
theorem cellAt_alloc (w : World) (cc : Array Value) (e : TypeId) (fr : Nat × Nat) (b o : Nat) :
    cellAt (w.alloc (.cells cc e fr)) b o = if b = w.heap.size then cc[o]? else cellAt w b o := by
  unfold cellAt World.cell? World.alloc
  simp only [Array.getElem?_push]
  by_cases h : b = w.heap.size
  · subst h; simp
  · simp [h]
theorem shape_alloc (w : World) (cc : Array Value) (e : TypeId) (fr : Nat × Nat) (b : Nat) :
    (w.alloc (.cells cc e fr)).shape? b = if b = w.heap.size then some (e, cc.size) else w.shape? b := by
  unfold World.shape? World.alloc
  simp only [Array.getElem?_push]
  by_cases h : b = w.heap.size
  · subst h; simp
  · simp [h]
theorem frz_alloc (w : World) (cc : Array Value) (e : TypeId) (fr : Nat × Nat) (b o : Nat) :
    (w.alloc (.cells cc e fr)).frozen? ⟨b, o, none⟩ = if b = w.heap.size then decide (fr.1 ≤ o) && decide (o < fr.2) else w.frozen? ⟨b, o, none⟩ := by
  unfold World.frozen? World.alloc
  simp only [Array.getElem?_push]
  by_cases h : b = w.heap.size
  · subst h; simp
  · simp [h]
theorem size_alloc (w : World) (o : Obj) : (w.alloc o).heap.size = w.heap.size + 1 := by show (w.heap.push o).size = _; simp
theorem Ext.alloc (F : Area) (w : World) (o : Obj) : Ext F w (w.alloc o) := by
  have hb : ∀ b, b < w.heap.size → (w.alloc o).heap[b]? = w.heap[b]? := fun b hb => Below.heap_alloc w o b hb
  exact ⟨rfl, rfl, rfl, by rw [size_alloc]; omega, fun b o' h _ => World.cell?_of_block (hb b h),
    fun b h => by unfold World.shape?; rw [hb b h], fun b o' h => World.frozen?_of_block (hb b h), fun b h _ => hb b h⟩
theorem shape_setCells (b : Nat) : ∀ (vs : List Value) (o : Nat) (w : World) (r : Nat), (w.setCells b o vs).shape? r = w.shape? r
  | [], _, _, _ => rfl
  | v :: vs, o, w, r => by
    rw [World.setCells, shape_setCells b vs]
    unfold World.shape? World.setCell
    simp only [Array.getElem?_modify]
    by_cases h : b = r
    · subst h
      cases hh : w.heap[b]? with
      | none => simp
      | some ob => cases ob <;> simp
    · simp [h]
theorem size_setCells (b : Nat) : ∀ (vs : List Value) (o : Nat) (w : World), (w.setCells b o vs).heap.size = w.heap.size
  | [], _, _ => rfl
  | v :: vs, o, w => by rw [World.setCells, size_setCells b vs]; simp [World.setCell]
theorem os_setCells (b : Nat) : ∀ (vs : List Value) (o : Nat) (w : World), (w.setCells b o vs).os = w.os ∧ (w.setCells b o vs).tape = w.tape ∧ (w.setCells b o vs).output = w.output
  | [], _, _ => ⟨rfl, rfl, rfl⟩
  | v :: vs, o, w => by rw [World.setCells]; exact os_setCells b vs (o + 1) _
theorem heap_setCells (b : Nat) : ∀ (vs : List Value) (o : Nat) (w : World) (r : Nat), r ≠ b → (w.setCells b o vs).heap[r]? = w.heap[r]?
  | [], _, _, _, _ => rfl
  | v :: vs, o, w, r, h => by rw [World.setCells, heap_setCells b vs _ _ r h]; exact Below.heap_setCell _ _ _ _ h
theorem cellAt_setCells_in (b o : Nat) (vs : List Value) (w : World) (h : ∀ j, j < vs.length → (cellAt w b (o + j)).isSome = true) (j : Nat) (hj : j < vs.length) :
    cellAt (w.setCells b o vs) b (o + j) = some vs[j] := World.cell?_setCells_in b vs o w h j hj
theorem cellAt_setCells_out (b o : Nat) (vs : List Value) (w : World) (c k : Nat) (h : c = b → k < o ∨ o + vs.length ≤ k) :
    cellAt (w.setCells b o vs) c k = cellAt w c k := World.cell?_setCells_out b vs o w ⟨c, k, none⟩ (fun e _ => h e)
theorem Ext.setCells (w : World) (b o : Nat) (vs : List Value) : Ext (fun c k => c = b ∧ o ≤ k ∧ k < o + vs.length) w (w.setCells b o vs) := by
  refine ⟨(os_setCells b vs o w).1, (os_setCells b vs o w).2.1, (os_setCells b vs o w).2.2, Nat.le_of_eq (size_setCells b vs o w).symm, fun c k _ hF => ?_, fun r _ => shape_setCells b vs o w r,
    fun c k _ => World.frozen?_setCells b vs o w _, fun c _ hF => ?_⟩
  · exact cellAt_setCells_out b o vs w c k (fun e => by subst e; simp at hF; omega)
  · by_cases h : c = b
    · subst h
      cases vs with
      | nil => rfl
      | cons v vs => exact absurd ⟨rfl, Nat.le_refl o, by simp⟩ (hF o)
    · exact heap_setCells b vs o w c h
end worlds

-- ---------------------------------------------------------------- objects that stay
theorem ObOk.keep {S S' : Area} {pl pl' : Place} {w w' : World} {m m' : Mem} {q : Nat × Nat} {ob : Ob} (k : Keeps S S' pl pl' w w' m m')
    (hsz : w.heap.size ≤ w'.heap.size) (hz : ∀ b o, b < w.heap.size → w'.frozen? ⟨b, o, none⟩ = w.frozen? ⟨b, o, none⟩)
    (hsh : ∀ b, b < w.heap.size → w'.shape? b = w.shape? b)
    (hf : ∀ b o, ob.foot q b o → b < w.heap.size → cellAt w' b o = cellAt w b o) (h : ObOk S pl w m q ob) : ObOk S' pl' w' m' q ob := by
  have thaw : ∀ b, b < w.heap.size → Thawed w b → Thawed w' b := fun b hb ht o hfz e s hs => ht o (by rw [← hz b o hb]; exact hfz) e s (by rw [← hsh b hb]; exact hs)
  cases ob with
  | blk v cs =>
    obtain ⟨h1, h2, h3⟩ := h
    refine ⟨Nat.lt_of_lt_of_le h1 hsz, thaw _ h1 h2, fun j x hx => ?_⟩
    obtain ⟨u, hc, hr⟩ := h3 j x hx
    cases hd : x.isDead with
    | false => exact ⟨u, (hf _ _ ⟨rfl, j, x, hx, hd, rfl⟩ h1).trans hc, hr.mono k⟩
    | true =>
      have hsome : (cellAt w' q.1 (q.2 + j)).isSome = true := by
        have h5 := hsh q.1 h1
        unfold World.shape? at h5
        unfold cellAt World.cell? at hc ⊢
        cases hh : w.heap[q.1]? with
        | none => rw [hh] at hc; simp at hc
        | some ob =>
          rw [hh] at hc h5
          cases ob with
          | cells cc e fr =>
            cases hh' : w'.heap[q.1]? with
            | none => rw [hh'] at h5; simp at h5
            | some ob' =>
              rw [hh'] at h5
              cases ob' with
              | cells cc' e' fr' =>
                simp only [Option.some.injEq, Prod.mk.injEq] at h5
                simp only [Option.isSome_none, Bool.false_eq_true, if_false] at hc ⊢
                have hlt : q.2 + j < cc.size := (Array.getElem?_eq_some_iff.1 hc).1
                simp [Array.getElem?_eq_getElem (show q.2 + j < cc'.size by omega)]
              | _ => simp at h5
          | _ => simp at hc
      obtain ⟨u', hu'⟩ := Option.isSome_iff_exists.1 hsome
      refine ⟨u', hu', ?_⟩
      cases x <;> simp [AV.isDead] at hd
      exact .dead _
  | arr v sz es cap pub =>
    obtain ⟨h0, h1, h2, ⟨e, capn, hs, hle, hcap⟩, ⟨hl, f, hc, hr⟩, hp⟩ := h
    have hb := shape_lt hs
    refine ⟨h0, h1, ⟨thaw _ hb h2.1, by rw [hsh _ hb]; exact h2.2⟩, ⟨e, capn, by rw [hsh _ hb]; exact hs, hle, hcap⟩, ⟨hl, f, fun i hi => ?_, fun i j e x he hx => (hr i j e x he hx).mono k.sub k.cell⟩, fun hpub o ho => k.sub _ _ (hp hpub o ho)⟩
    cases pub with
    | true => exact (k.cell _ _ (hp rfl _ hi)).trans (hc i hi)
    | false => exact (hf _ _ ⟨rfl, by simp⟩ hb).trans (hc i hi)

/-- One object is new, or changed; all others stay. -/
theorem St.step1 {X : Ctx} {S S' : Area} {pl pl' : Place} {w w' : World} {m m' : Mem} (i : Nat) (F : Area) (h : St X S pl w m) (k : Keeps S S' pl pl' w w' m m')
    (hext : Ext F w w') (hF : ∀ b o, F b o → X.F0 b o ∨ X.w0.heap.size ≤ b)
    (hS : ∀ b o, S' b o → b < w'.heap.size ∧ (S b o ∨ X.F0 b o ∨ X.w0.heap.size ≤ b))
    (hold : ∀ id ob, id ≠ i → m'.get id = some ob → m.get id = some ob ∧ pl' id = pl id)
    (hkeep : ∀ id ob, id ≠ i → m'.get id = some ob → ∀ b o, ob.foot (pl id) b o → ¬ F b o ∧ ¬ S' b o)
    (hnew : ∀ ob, m'.get i = some ob → ob.ver < m'.clk ∧ ObOk S' pl' w' m' (pl' i) ob ∧ ∀ b o, ob.foot (pl' i) b o → (X.F0 b o ∨ X.w0.heap.size ≤ b) ∧ ¬ S' b o ∧
      ∀ id ob', id ≠ i → m'.get id = some ob' → ¬ ob'.foot (pl id) b o) : St X S' pl' w' m' := by
  refine ⟨⟨fun id ob hob => ?_, fun id id' ob ob' h1 h2 hne b o hf hf' => ?_, fun id ob hob b o hf => ?_, fun b o hs => (hS b o hs).1⟩, ?_, fun b o hs => k.sub _ _ (h.sub b o hs), fun b o hs => ?_, fun id ob hob b o hf => ?_, fun g cs hg => ?_⟩
  · by_cases hi : id = i
    · subst hi; exact ⟨(hnew ob hob).1, (hnew ob hob).2.1⟩
    · obtain ⟨h1, h2⟩ := hold id ob hi hob
      obtain ⟨hv, hok⟩ := h.inv.ob id ob h1
      exact ⟨Nat.lt_of_lt_of_le hv k.clk, by rw [h2]; exact hok.keep k hext.size hext.frz hext.shape (fun b o hf hb => hext.cell b o hb (hkeep id ob hi hob b o hf).1)⟩
  · by_cases hi : id = i
    · subst hi
      obtain ⟨g1, g2⟩ := hold id' ob' (Ne.symm hne) h2
      rw [g2] at hf'
      exact ((hnew ob h1).2.2 b o hf).2.2 id' ob' (Ne.symm hne) h2 hf'
    · by_cases hi' : id' = i
      · subst hi'
        obtain ⟨g1, g2⟩ := hold id ob hne h1
        rw [g2] at hf
        exact ((hnew ob' h2).2.2 b o hf').2.2 id ob hne h1 hf
      · obtain ⟨g1, g2⟩ := hold id ob hi h1
        obtain ⟨g3, g4⟩ := hold id' ob' hi' h2
        rw [g2] at hf; rw [g4] at hf'
        exact h.inv.apart id id' ob ob' g1 g3 hne b o hf hf'
  · by_cases hi : id = i
    · subst hi; exact ((hnew ob hob).2.2 b o hf).2.1
    · obtain ⟨g1, g2⟩ := hold id ob hi hob
      rw [g2] at hf
      exact (hkeep id ob hi hob b o hf).2
  · exact h.ext.trans hext hF
  · rcases (hS b o hs).2 with h1 | h1 | h1
    · exact h.only b o h1
    · exact .inr (.inl h1)
    · exact .inr (.inr h1)
  · by_cases hi : id = i
    · subst hi; exact ((hnew ob hob).2.2 b o hf).1
    · obtain ⟨g1, g2⟩ := hold id ob hi hob
      rw [g2] at hf
      exact h.own id ob g1 b o hf
  · exact (h.glob g cs hg).mono k.sub k.cell

def plAt (pl : Place) (i : Nat) (q : Nat × Nat) : Place := fun j => if j = i then q else pl j

theorem Inv.foot_lt {S : Area} {pl : Place} {w : World} {m : Mem} (h : Inv S pl w m) {id : Nat} {ob : Ob} (hob : m.get id = some ob) {b o : Nat} (hf : ob.foot (pl id) b o) : b < w.heap.size := by
  have := (h.ob id ob hob).2
  cases ob with
  | blk v cs => obtain ⟨h1, _⟩ := this; obtain ⟨rfl, _⟩ := hf; exact h1
  | arr v sz es cap pub => obtain ⟨_, _, _, ⟨e, n, hs, _⟩, _⟩ := this; obtain ⟨rfl, _⟩ := hf; exact shape_lt hs

/-- A new block of the heap, and an object that lies in it. 'R': the cells of it that never change again. -/
theorem St.alloc {X : Ctx} {S : Area} {pl : Place} {w : World} {m : Mem} (h : St X S pl w m) (site : Nat) (f : Nat → Ob) (cc : Array Value) (e : TypeId) (fr : Nat × Nat) (R : Nat → Prop)
    (hv : (f m.clk).ver = m.clk) (hfoot : ∀ b o, (f m.clk).foot (w.heap.size, 0) b o → b = w.heap.size ∧ ¬ R o)
    (hok : ObOk (fun b o => S b o ∨ b = w.heap.size ∧ R o) (plAt pl site (w.heap.size, 0)) (w.alloc (.cells cc e fr)) (m.new site f) (w.heap.size, 0) (f m.clk)) :
    St X (fun b o => S b o ∨ b = w.heap.size ∧ R o) (plAt pl site (w.heap.size, 0)) (w.alloc (.cells cc e fr)) (m.new site f) ∧
    Keeps S (fun b o => S b o ∨ b = w.heap.size ∧ R o) pl (plAt pl site (w.heap.size, 0)) w (w.alloc (.cells cc e fr)) m (m.new site f) := by
  have hsize := size_alloc w (.cells cc e fr)
  have hx : X.w0.heap.size ≤ w.heap.size := h.ext.size
  have hne : ∀ id ob, id ≠ site → (m.new site f).get id = some ob → m.get id = some ob := fun id ob hi hg => by rw [get_new, if_neg hi] at hg; exact hg
  have k : Keeps S (fun b o => S b o ∨ b = w.heap.size ∧ R o) pl (plAt pl site (w.heap.size, 0)) w (w.alloc (.cells cc e fr)) m (m.new site f) :=
    ⟨fun b o hs => .inl hs, fun b o hs => by rw [cellAt_alloc, if_neg (Nat.ne_of_lt (h.inv.low b o hs))],
     fun b s hs => by rw [shape_alloc, if_neg (Nat.ne_of_lt (shape_lt hs))]; exact hs, by simp [clk_new],
     fun id ob hob hlt => by
      by_cases hi : id = site
      · subst hi; rw [get_new, if_pos rfl] at hob; injection hob with hob; subst hob; omega
      · exact ⟨ob, hne id ob hi hob, by cases ob <;> simp [Ob.alike], by simp [plAt, hi]⟩⟩
  refine ⟨h.step1 site (fun _ _ => False) k (Ext.alloc _ _ _) (fun _ _ hf => hf.elim) (fun b o hs => ?_) (fun id ob hi hob => ⟨hne id ob hi hob, by simp [plAt, hi]⟩) (fun id ob hi hob b o hf => ⟨fun hf => hf, ?_⟩) (fun ob hob => ?_), k⟩
  · rcases hs with hs | ⟨rfl, _⟩
    · exact ⟨by have := h.inv.low b o hs; omega, .inl hs⟩
    · exact ⟨by omega, .inr (.inr hx)⟩
  · have hg := hne id ob hi hob
    rintro (hs | ⟨rfl, _⟩)
    · exact h.inv.free id ob hg b o hf hs
    · exact absurd (h.inv.foot_lt hg hf) (Nat.lt_irrefl _)
  · rw [get_new, if_pos rfl] at hob; injection hob with hob; subst hob
    refine ⟨by rw [hv, clk_new]; omega, by simpa [plAt] using hok, fun b o hf => ?_⟩
    have hf' : (f m.clk).foot (w.heap.size, 0) b o := by simpa [plAt] using hf
    obtain ⟨rfl, hR⟩ := hfoot b o hf'
    refine ⟨.inr hx, ?_, fun id ob' hi hob' hf2 => absurd (h.inv.foot_lt (hne id ob' hi hob') hf2) (Nat.lt_irrefl _)⟩
    rintro (hs | ⟨_, hr⟩)
    · exact absurd (h.inv.low _ _ hs) (Nat.lt_irrefl _)
    · exact hR hr

theorem St.del {X : Ctx} {S : Area} {pl : Place} {w : World} {m : Mem} (h : St X S pl w m) (i : Nat) : St X S pl w (m.del i) ∧ Keeps S S pl pl w w m (m.del i) := by
  have hne : ∀ id ob, (m.del i).get id = some ob → m.get id = some ob := fun id ob hg => by
    rw [get_del] at hg; split at hg
    · simp at hg
    · exact hg
  have k : Keeps S S pl pl w w m (m.del i) := ⟨fun _ _ h => h, fun _ _ _ => rfl, fun _ _ h => h, Nat.le_refl _, fun id ob hob _ => ⟨ob, hne id ob hob, by cases ob <;> simp [Ob.alike], rfl⟩⟩
  refine ⟨h.step1 i (fun _ _ => False) k (Ext.refl _ _) (fun _ _ hf => hf.elim) (fun b o hs => ⟨h.inv.low b o hs, .inl hs⟩) (fun id ob _ hob => ⟨hne id ob hob, rfl⟩)
    (fun id ob _ hob b o hf => ⟨fun hf => hf, h.inv.free id ob (hne id ob hob) b o hf⟩) (fun ob hob => ?_), k⟩
  rw [get_del, if_pos rfl] at hob; simp at hob

/-- A draw: nothing but a count goes on. -/
theorem St.draw {X : Ctx} {S : Area} {pl : Place} {w : World} {m : Mem} (h : St X S pl w m) (n : Nat) : St X S pl { w with drawn := n } m ∧ Keeps S S pl pl w { w with drawn := n } m m := by
  have k : Keeps S S pl pl w { w with drawn := n } m m := ⟨fun _ _ h => h, fun _ _ _ => rfl, fun _ _ h => h, Nat.le_refl _, fun id ob hob _ => ⟨ob, hob, by cases ob <;> simp [Ob.alike], rfl⟩⟩
  have e : Ext (fun _ _ => False) w { w with drawn := n } := ⟨rfl, rfl, rfl, Nat.le_refl _, fun _ _ _ _ => rfl, fun _ _ => rfl, fun _ _ _ => rfl, fun _ _ _ => rfl⟩
  refine ⟨⟨⟨fun id ob hob => ⟨(h.inv.ob id ob hob).1, (h.inv.ob id ob hob).2.keep k (Nat.le_refl _) e.frz e.shape (fun _ _ _ _ => rfl)⟩, h.inv.apart, h.inv.free, h.inv.low⟩,
    h.ext.trans e (fun _ _ h => h.elim), h.sub, h.only, h.own, fun g cs hg => (h.glob g cs hg).mono k.sub k.cell⟩, k⟩
end Go.Proofs.Ythncmjlcmlmnmaa.V
