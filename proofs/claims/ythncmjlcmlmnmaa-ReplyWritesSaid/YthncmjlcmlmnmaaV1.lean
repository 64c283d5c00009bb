/- What the abstract values and the abstract memory say of a world of the model; how that is kept when a world grows. Conditions: none. -/
import Derived.Test.YthncmjlcmlmnmaaV0
import Derived.Below
import Derived.Laws.OwnMore
namespace Go.Proofs.Ythncmjlcmlmnmaa.V
open Go Go.RowKit

abbrev Area := Nat → Nat → Prop
abbrev cellAt (w : World) (b o : Nat) : Option Value := w.cell? ⟨b, o, none⟩

inductive RelC (S : Area) (w : World) : CV → Value → Prop
  | v (x : Value) (h : solidV x = true) : RelC S w (.v x) x
  | sl (sz : Nat) (es : List (List CV)) (sp : Option (List (List CV))) (a : Option Addr) (cap b o : Nat) (f : Nat → Value)
      (hcap : es.length ≤ cap) (hsp : ∀ s, sp = some s → cap = es.length + s.length)
      (ha : es ++ sp.getD [] ≠ [] → a = some ⟨b, o, none⟩ ∧ 0 < sz)
      (hl : ∀ (i : Nat) (e : List CV), (es ++ sp.getD [])[i]? = some e → e.length = sz)
      (hS : ∀ k, k < (es ++ sp.getD []).length * sz → S b (o + k))
      (hc : ∀ k, k < (es ++ sp.getD []).length * sz → cellAt w b (o + k) = some (f k))
      (hr : ∀ (i j : Nat) (e : List CV) (x : CV), (es ++ sp.getD [])[i]? = some e → e[j]? = some x → RelC S w x (f (i * sz + j))) :
      RelC S w (.sl sz es sp) (.slice a es.length cap)
  | rp (cs : List CV) (b o : Nat) (f : Nat → Value)
      (hS : ∀ i, i < cs.length → S b (o + i))
      (hc : ∀ i, i < cs.length → cellAt w b (o + i) = some (f i))
      (hr : ∀ (i : Nat) x, cs[i]? = some x → RelC S w x (f i)) :
      RelC S w (.rp cs) (.pointer (some ⟨b, o, none⟩))

theorem RelC.solid {S : Area} {w : World} {x : CV} {u : Value} (h : RelC S w x u) : solidV u = true := by
  cases h <;> first | assumption | rfl

theorem RelC.mono {S S' : Area} {w w' : World} (hS : ∀ b o, S b o → S' b o) (hw : ∀ b o, S b o → cellAt w' b o = cellAt w b o)
    {x : CV} {u : Value} (h : RelC S w x u) : RelC S' w' x u := by
  induction h with
  | v y hy => exact .v _ hy
  | sl sz es sp a cap b o f hcap hsp ha hl hs hc _ ih =>
    exact .sl sz es sp a cap b o f hcap hsp ha hl (fun i hi => hS _ _ (hs i hi))
      (fun i hi => (hw _ _ (hs i hi)).trans (hc i hi)) ih
  | rp cs b o f hs hc _ ih => exact .rp cs b o f (fun i hi => hS _ _ (hs i hi)) (fun i hi => (hw _ _ (hs i hi)).trans (hc i hi)) ih

theorem RelC.norm {S : Area} {w : World} {x : CV} {u : Value} (h : RelC S w x u) : RelC S w (normC x) u := by
  cases h with
  | v y hy => exact .v _ hy
  | sl sz es sp a cap b o f hcap hsp ha hl hs hc hr =>
    have hi : ∀ (i : Nat) e, (es ++ (none : Option (List (List CV))).getD [])[i]? = some e → (es ++ sp.getD [])[i]? = some e := fun i e h => by
      simp only [Option.getD_none, List.append_nil] at h
      rw [List.getElem?_append_left (List.getElem?_eq_some_iff.1 h).1]; exact h
    have hn : ∀ k, k < (es ++ (none : Option (List (List CV))).getD []).length * sz → k < (es ++ sp.getD []).length * sz := fun k hk =>
      Nat.lt_of_lt_of_le hk (Nat.mul_le_mul_right sz (by simp))
    exact .sl sz es none a cap b o f hcap (by simp) (fun h => ha (by simp only [Option.getD_none, List.append_nil] at h; simp [h])) (fun i e h => hl i e (hi i e h)) (fun k hk => hs k (hn k hk)) (fun k hk => hc k (hn k hk)) (fun i j e x he hx => hr i j e x (hi i e he) hx)
  | rp cs b o f hs hc hr => exact .rp cs b o f hs hc hr

/-- Where each object of the abstract memory lies: block and offset. -/
abbrev Place := Nat → Nat × Nat

inductive RelV (S : Area) (pl : Place) (w : World) (m : Mem) : AV → Value → Prop
  | c (x : CV) (u : Value) (h : RelC S w x u) : RelV S pl w m (.c x) u
  | t (id ver n b capn : Nat) (hv : ver < m.clk) (hn : n ≤ capn)
      (h : ∀ ob, m.get id = some ob → ob.ver = ver → ∃ sz es cap pub e, ob = .arr ver sz es cap pub ∧ n ≤ es.length ∧
        b = (pl id).1 ∧ w.shape? b = some (e, capn * sz)) : RelV S pl w m (.t id ver n) (.slice (some ⟨b, 0, none⟩) n capn)
  | p (id ver off b o : Nat) (hv : ver < m.clk)
      (h : ∀ ob, m.get id = some ob → ob.ver = ver → (∃ cs, ob = .blk ver cs) ∧ (b, o) = pl id) : RelV S pl w m (.p id ver off) (.pointer (some ⟨b, o + off, none⟩))
  | tp (id ver i off b o : Nat) (hv : ver < m.clk)
      (h : ∀ ob, m.get id = some ob → ob.ver = ver → ∃ sz es cap pub, ob = .arr ver sz es cap pub ∧ i < es.length ∧ b = (pl id).1 ∧ o = i * sz) :
      RelV S pl w m (.tp id ver i off) (.pointer (some ⟨b, o + off, none⟩))
  | agg (cs : List AV) (us : List Value) (hl : us.length = cs.length) (h : ∀ (i : Nat) x u, cs[i]? = some x → us[i]? = some u → RelV S pl w m x u) : RelV S pl w m (.agg cs) (.agg us.toArray)
  | tup (cs : List AV) (us : List Value) (hl : us.length = cs.length) (h : ∀ (i : Nat) x u, cs[i]? = some x → us[i]? = some u → RelV S pl w m x u) : RelV S pl w m (.tup cs) (.tuple us.toArray)
  | dead (u : Value) : RelV S pl w m .dead u

/-- Two objects of one version: the second one is the first one, changed in place. -/
def Ob.alike : Ob → Ob → Prop
  | .blk v _, .blk v' _ => v = v'
  | .arr v sz es _ _, .arr v' sz' es' _ _ => v = v' ∧ sz = sz' ∧ es.length ≤ es'.length
  | _, _ => False

/-- What is kept when worlds, memory and places go on. -/
structure Keeps (S S' : Area) (pl pl' : Place) (w w' : World) (m m' : Mem) : Prop where
  sub : ∀ b o, S b o → S' b o
  cell : ∀ b o, S b o → cellAt w' b o = cellAt w b o
  shape : ∀ b s, w.shape? b = some s → w'.shape? b = some s
  clk : m.clk ≤ m'.clk
  ob : ∀ id ob', m'.get id = some ob' → ob'.ver < m.clk → ∃ ob, m.get id = some ob ∧ ob.alike ob' ∧ pl' id = pl id

theorem Keeps.refl (S : Area) (pl : Place) (w : World) (m : Mem) : Keeps S S pl pl w w m m :=
  ⟨fun _ _ h => h, fun _ _ _ => rfl, fun _ _ h => h, Nat.le_refl _, fun id ob h _ => ⟨ob, h, by cases ob <;> simp [Ob.alike], rfl⟩⟩

theorem Ob.alike_ver {a b : Ob} (h : a.alike b) : a.ver = b.ver := by
  cases a <;> cases b <;> simp_all [Ob.alike, Ob.ver]
theorem Ob.alike_trans {a b c : Ob} (h : a.alike b) (k : b.alike c) : a.alike c := by
  cases a <;> cases b <;> cases c <;> simp only [Ob.alike] at * <;> omega

theorem Keeps.trans {S S' S'' : Area} {pl pl' pl'' : Place} {w w' w'' : World} {m m' m'' : Mem} (h : Keeps S S' pl pl' w w' m m') (k : Keeps S' S'' pl' pl'' w' w'' m' m'') :
    Keeps S S'' pl pl'' w w'' m m'' :=
  ⟨fun b o hs => k.sub _ _ (h.sub _ _ hs), fun b o hs => (k.cell _ _ (h.sub _ _ hs)).trans (h.cell _ _ hs), fun b s hs => k.shape _ _ (h.shape _ _ hs),
   Nat.le_trans h.clk k.clk, fun id ob hob hv => by
    obtain ⟨o1, h1, a1, p1⟩ := k.ob id ob hob (Nat.lt_of_lt_of_le hv h.clk)
    obtain ⟨o2, h2, a2, p2⟩ := h.ob id o1 h1 (by rw [Ob.alike_ver a1]; exact hv)
    exact ⟨o2, h2, Ob.alike_trans a2 a1, p1.trans p2⟩⟩

theorem RelV.mono {S S' : Area} {pl pl' : Place} {w w' : World} {m m' : Mem} (k : Keeps S S' pl pl' w w' m m') {x : AV} {u : Value} (h : RelV S pl w m x u) : RelV S' pl' w' m' x u := by
  induction h with
  | c x u h => exact .c x u (h.mono k.sub k.cell)
  | t id ver n b capn hv hn h =>
    refine .t id ver n b capn (Nat.lt_of_lt_of_le hv k.clk) hn (fun ob hob he => ?_)
    obtain ⟨o1, h1, a1, p1⟩ := k.ob id ob hob (he ▸ hv)
    obtain ⟨sz, es, cap, pub, e, rfl, hn, hb, hs⟩ := h o1 h1 ((Ob.alike_ver a1).trans he)
    cases ob with
    | blk _ _ => simp [Ob.alike] at a1
    | arr v' sz' es' cap' pub' =>
      simp only [Ob.alike] at a1
      obtain ⟨rfl, rfl, hl⟩ := a1
      exact ⟨_, es', cap', pub', e, rfl, by omega, by rw [p1]; exact hb, k.shape _ _ hs⟩
  | p id ver off b o hv h =>
    refine .p id ver off b o (Nat.lt_of_lt_of_le hv k.clk) (fun ob hob he => ?_)
    obtain ⟨o1, h1, a1, p1⟩ := k.ob id ob hob (he ▸ hv)
    obtain ⟨⟨cs, rfl⟩, hu⟩ := h o1 h1 ((Ob.alike_ver a1).trans he)
    cases ob with
    | blk v' cs' => simp only [Ob.alike] at a1; subst a1; exact ⟨⟨cs', rfl⟩, by rw [p1]; exact hu⟩
    | arr _ _ _ _ _ => simp [Ob.alike] at a1
  | tp id ver i off b o hv h =>
    refine .tp id ver i off b o (Nat.lt_of_lt_of_le hv k.clk) (fun ob hob he => ?_)
    obtain ⟨o1, h1, a1, p1⟩ := k.ob id ob hob (he ▸ hv)
    obtain ⟨sz, es, cap, pub, rfl, hn, hu⟩ := h o1 h1 ((Ob.alike_ver a1).trans he)
    cases ob with
    | blk _ _ => simp [Ob.alike] at a1
    | arr v' sz' es' cap' pub' =>
      simp only [Ob.alike] at a1
      obtain ⟨rfl, rfl, hl⟩ := a1
      exact ⟨_, es', cap', pub', rfl, by omega, by rw [p1]; exact hu⟩
  | agg cs us hl _ ih => exact .agg cs us hl ih
  | tup cs us hl _ ih => exact .tup cs us hl ih
  | dead u => exact .dead u

-- ---------------------------------------------------------------- objects
/-- The cells that an object alone may write. -/
def Ob.foot (pl : Nat × Nat) : Ob → Area
  | .blk _ cs => fun b o => b = pl.1 ∧ ∃ (j : Nat) (x : AV), cs[j]? = some x ∧ x.isDead = false ∧ o = pl.2 + j
  | .arr _ sz es _ pub => fun b o => b = pl.1 ∧ (pub = true → es.length * sz ≤ o)

/-- A row of cells at a place reads as values. -/
def RowA (S : Area) (pl : Place) (w : World) (m : Mem) (b o : Nat) (cs : List AV) : Prop :=
  ∀ (j : Nat) x, cs[j]? = some x → ∃ u, cellAt w b (o + j) = some u ∧ RelV S pl w m x u
def RowE (S : Area) (w : World) (b sz : Nat) (es : List (List CV)) : Prop :=
  (∀ (i : Nat) e, es[i]? = some e → e.length = sz) ∧
  ∃ f : Nat → Value, (∀ k, k < es.length * sz → cellAt w b k = some (f k)) ∧
    ∀ (i j : Nat) e x, es[i]? = some e → e[j]? = some x → RelC S w x (f (i * sz + j))
def Thawed (w : World) (b : Nat) : Prop := ∀ o, w.frozen? ⟨b, o, none⟩ = true → ∀ e s, w.shape? b = some (e, s) → s ≤ o
/-- Nothing of an array is frozen; one that nobody else reads is not too long. -/
def ThawA (w : World) (b : Nat) (pub : Bool) (sz : Nat) : Prop := Thawed w b ∧ (pub = false → ∀ e s, w.shape? b = some (e, s) → s ≤ 9223372036854775807 * sz)

def ObOk (S : Area) (pl : Place) (w : World) (m : Mem) (q : Nat × Nat) : Ob → Prop
  | .blk _ cs => q.1 < w.heap.size ∧ Thawed w q.1 ∧ RowA S pl w m q.1 q.2 cs
  | .arr _ sz es cap pub => q.2 = 0 ∧ 0 < sz ∧ ThawA w q.1 pub sz ∧ (∃ e capn, w.shape? q.1 = some (e, capn * sz) ∧ es.length ≤ capn ∧ ∀ c, cap = some c → capn = c) ∧
      RowE S w q.1 sz es ∧ (pub = true → ∀ o, o < es.length * sz → S q.1 o)

structure Inv (S : Area) (pl : Place) (w : World) (m : Mem) : Prop where
  ob : ∀ id ob, m.get id = some ob → ob.ver < m.clk ∧ ObOk S pl w m (pl id) ob
  apart : ∀ id id' ob ob', m.get id = some ob → m.get id' = some ob' → id ≠ id' → ∀ b o, ob.foot (pl id) b o → ¬ ob'.foot (pl id') b o
  free : ∀ id ob, m.get id = some ob → ∀ b o, ob.foot (pl id) b o → ¬ S b o
  low : ∀ b o, S b o → b < w.heap.size

-- ---------------------------------------------------------------- worlds that go on
/-- w' is w gone on: old blocks are as they were, but for the cells of F. -/
structure Ext (F : Area) (w w' : World) : Prop where
  os : w'.os = w.os
  tape : w'.tape = w.tape
  output : w'.output = w.output
  size : w.heap.size ≤ w'.heap.size
  cell : ∀ b o, b < w.heap.size → ¬ F b o → cellAt w' b o = cellAt w b o
  shape : ∀ b, b < w.heap.size → w'.shape? b = w.shape? b
  frz : ∀ b o, b < w.heap.size → w'.frozen? ⟨b, o, none⟩ = w.frozen? ⟨b, o, none⟩
  obj : ∀ b, b < w.heap.size → (∀ o, ¬ F b o) → w'.heap[b]? = w.heap[b]?

theorem Ext.refl (F : Area) (w : World) : Ext F w w := ⟨rfl, rfl, rfl, Nat.le_refl _, fun _ _ _ _ => rfl, fun _ _ => rfl, fun _ _ _ => rfl, fun _ _ _ => rfl⟩
theorem Ext.trans {F F' : Area} {a b c : World} (h : Ext F a b) (k : Ext F' b c) (hF : ∀ x o, F' x o → F x o ∨ a.heap.size ≤ x) : Ext F a c :=
  have hn : ∀ x o, x < a.heap.size → ¬ F x o → ¬ F' x o := fun x o hx hf h' => (hF x o h').elim hf (fun hle => absurd hx (Nat.not_lt.2 hle))
  ⟨k.os.trans h.os, k.tape.trans h.tape, k.output.trans h.output, Nat.le_trans h.size k.size,
   fun x o hx hf => (k.cell x o (Nat.lt_of_lt_of_le hx h.size) (hn x o hx hf)).trans (h.cell x o hx hf),
   fun x hx => (k.shape x (Nat.lt_of_lt_of_le hx h.size)).trans (h.shape x hx),
   fun x o hx => (k.frz x o (Nat.lt_of_lt_of_le hx h.size)).trans (h.frz x o hx),
   fun x hx hf => (k.obj x (Nat.lt_of_lt_of_le hx h.size) (fun o => hn x o hx (hf o))).trans (h.obj x hx hf)⟩
theorem Ext.mono {F F' : Area} {a b : World} (h : Ext F a b) (hF : ∀ x o, F x o → F' x o) : Ext F' a b :=
  ⟨h.os, h.tape, h.output, h.size, fun x o hx hf => h.cell x o hx (fun k => hf (hF _ _ k)), h.shape, h.frz, fun x hx hf => h.obj x hx (fun o k => hf o (hF _ _ k))⟩

theorem shape_lt {w : World} {b : Nat} {s : TypeId × Nat} (h : w.shape? b = some s) : b < w.heap.size := by
  unfold World.shape? at h
  rcases Nat.lt_or_ge b w.heap.size with hb | hb
  · exact hb
  · simp [Array.getElem?_eq_none hb] at h
theorem cell_lt {w : World} {b o : Nat} {v : Value} (h : cellAt w b o = some v) : b < w.heap.size := by
  unfold cellAt World.cell? at h
  rcases Nat.lt_or_ge b w.heap.size with hb | hb
  · exact hb
  · simp [Array.getElem?_eq_none hb] at h

/-- The fixed side of a call: what could be read when it began, what it owns of what was there, and the world then. -/
structure Ctx where
  S0 : Area
  F0 : Area
  w0 : World
  G : Glob

structure St (X : Ctx) (S : Area) (pl : Place) (w : World) (m : Mem) : Prop where
  inv : Inv S pl w m
  ext : Ext X.F0 X.w0 w
  sub : ∀ b o, X.S0 b o → S b o
  only : ∀ b o, S b o → X.S0 b o ∨ X.F0 b o ∨ X.w0.heap.size ≤ b
  own : ∀ id ob, m.get id = some ob → ∀ b o, ob.foot (pl id) b o → X.F0 b o ∨ X.w0.heap.size ≤ b
  glob : ∀ g cs, X.G g = some cs → RelC S w (.rp cs) (.pointer (some ⟨g, 0, none⟩))

-- ---------------------------------------------------------------- the abstract memory as a map
theorem getL_ins (l : List (Nat × Ob)) (i j : Nat) (o : Ob) : getL (insL l i o) j = if j = i then some o else getL l j := by
  induction l with
  | nil => by_cases h : j = i <;> simp [insL, getL, h]
  | cons a r ih =>
    obtain ⟨k, p⟩ := a
    simp only [insL]
    by_cases h1 : i = k
    · subst h1; simp only [if_true, getL]
      by_cases h : j = i <;> simp [h]
    · rw [if_neg h1]
      by_cases h2 : i < k
      · rw [if_pos h2]; simp only [getL]
      · rw [if_neg h2]; simp only [getL, ih]
        by_cases h : j = k
        · subst h; simp [Ne.symm h1]
        · simp [h]
theorem getL_del (l : List (Nat × Ob)) (i j : Nat) : getL (delL l i) j = if j = i then none else getL l j := by
  induction l with
  | nil => by_cases h : j = i <;> simp [delL, getL]
  | cons a r ih =>
    obtain ⟨k, p⟩ := a
    simp only [delL]
    by_cases h1 : i = k
    · subst h1; simp only [if_true, ih, getL]
      by_cases h : j = i <;> simp [h]
    · rw [if_neg h1]; simp only [getL, ih]
      by_cases h : j = k
      · subst h; simp [Ne.symm h1]
      · simp [h]
theorem get_upd (m : Mem) (i j : Nat) (o : Ob) : (m.upd i o).get j = if j = i then some o else m.get j := getL_ins _ _ _ _
theorem get_new (m : Mem) (i j : Nat) (f : Nat → Ob) : (m.new i f).get j = if j = i then some (f m.clk) else m.get j := getL_ins _ _ _ _
theorem get_del (m : Mem) (i j : Nat) : (m.del i).get j = if j = i then none else m.get j := getL_del _ _ _
theorem clk_upd (m : Mem) (i : Nat) (o : Ob) : (m.upd i o).clk = m.clk := rfl
theorem clk_new (m : Mem) (i : Nat) (f : Nat → Ob) : (m.new i f).clk = m.clk + 1 := rfl
theorem clk_del (m : Mem) (i : Nat) : (m.del i).clk = m.clk := rfl
end Go.Proofs.Ythncmjlcmlmnmaa.V
