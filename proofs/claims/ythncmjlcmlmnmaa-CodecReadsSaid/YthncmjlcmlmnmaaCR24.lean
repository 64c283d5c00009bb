/- Arguments of bools, numbers, strings, slices and structs read as closed values, of any shape of types without cycles of memory. Conditions: none. -/
import Derived.Test.YthncmjlcmlmnmaaCR9
import Derived.ChangeSlices
import Derived.Test.YthncmjlcmlmnmaaProg
import Derived.ProofKit
namespace Go.Proofs.Ythncmjlcmlmnmaa.V
open Go Go.RowKit Go.ChangeShapes

/-- A row of types, one behind the other. -/
def contig (P : Program) : Nat → List Field → Nat → Bool
  | o, [], e => o == e
  | o, f :: fs, e => f.offset == o && contig P (o + P.cellsOf f.type) fs e
/-- A list of types that lean on each other alone. -/
def closedT (P : Program) (l : List TypeId) : Bool := l.all fun t => match P.underlying t with
  | some .bool | some (.int _) | some .string => true
  | some (.slice e) => l.contains e && decide (0 < P.cellsOf e)
  | some (.struct fs) => fs.toList.all (fun f => l.contains f.type) && contig P 0 fs.toList (P.cellsOf t)
  | _ => false

/-- What a type's row of closed values looks like. -/
def ShpL (shp : TypeId → List CV → Prop) : List TypeId → List CV → Prop
  | [], ys => ys = []
  | t :: ts, ys => ∃ a b, ys = a ++ b ∧ shp t a ∧ ShpL shp ts b
def Shp (P : Program) : Nat → TypeId → List CV → Prop
  | 0, _, _ => False
  | n + 1, t, ys => match P.underlying t with
    | some .bool => ∃ b, ys = [.v (.bool b)]
    | some (.int k) => ∃ z, ys = [.v (.int k z)] ∧ (Lit.int k z).wf = true
    | some .string => ∃ s : ByteArray, ys = [.v (.string s)] ∧ s.size ≤ maxLen
    | some (.slice e) => ∃ es : List (List CV), ys = [.sl (P.cellsOf e) es none] ∧ es.length ≤ maxLen ∧ ∀ r ∈ es, Shp P n e r
    | some (.struct fs) => ShpL (Shp P n) (fs.toList.map (·.type)) ys
    | _ => False

section
variable {H : Type} {enc : TypeId × Value → H} {P : Program} {w : World} {base : Nat} {spare : Nat → Bool} {held : Bool}

/-- A row of cells reads as a row of closed values. -/
def RowR (w : World) (ys : List CV) (cs : List Value) : Prop := ys.length = cs.length ∧ ∀ (i : Nat) y u, ys[i]? = some y → cs[i]? = some u → RelC (allS w) w y u

theorem RowR.append {w : World} {a b : List CV} {c d : List Value} (h : RowR w a c) (k : RowR w b d) : RowR w (a ++ b) (c ++ d) := by
  refine ⟨by simp [h.1, k.1], fun i y u hy hu => ?_⟩
  rw [List.getElem?_append] at hy hu
  rw [h.1] at hy
  split at hy
  · rename_i hi; rw [if_pos hi] at hu; exact h.2 i y u hy hu
  · rename_i hi; rw [if_neg hi] at hu; exact k.2 _ y u hy hu

theorem cell_in {w : World} {a : Addr} {v : Value} (h : w.cell? a = some v) : a.block < w.heap.size ∧ a.spot = none := by
  unfold World.cell? at h
  split at h
  · rename_i hh
    refine ⟨(Array.getElem?_eq_some_iff.1 hh).1, ?_⟩
    split at h
    · simp at h
    · rename_i hs; simpa using hs
  · simp at h

theorem fields_row {n : Nat} (cs : List Value) : ∀ (fs : List Field) (o : Nat), contig P o fs cs.length = true →
    (∀ f ∈ fs, ∃ ys, RowR w ys ((cs.drop f.offset).take (P.cellsOf f.type)) ∧ Shp P n f.type ys) → ∃ ys, RowR w ys (cs.drop o) ∧ ShpL (Shp P n) (fs.map (·.type)) ys
  | [], o, hc, _ => by
    simp [contig] at hc
    exact ⟨[], ⟨by simp [hc], by simp⟩, rfl⟩
  | f :: fs, o, hc, hf => by
    simp only [contig, Bool.and_eq_true, beq_iff_eq] at hc
    obtain ⟨ho, hc⟩ := hc
    obtain ⟨a, ha, sa⟩ := hf f (by simp)
    obtain ⟨b, hb, sb⟩ := fields_row cs fs _ hc (fun g hg => hf g (by simp [hg]))
    rw [ho] at ha
    refine ⟨a ++ b, ?_, a, b, rfl, sa, sb⟩
    have := ha.append hb
    rwa [← List.drop_drop, List.take_append_drop] at this

theorem trod_closed {l : List TypeId} (hl : closedT P l = true) : ∀ (n : Nat) (t : TypeId) (cs : List Value) (x : DataW H × List MemPlace), t ∈ l → DataW.trod enc P w base spare held n t cs = some x →
    ∃ ys, RowR w ys cs ∧ Shp P n t ys := by
  intro n
  induction n with
  | zero => intro t cs x _ h; simp [DataW.trod] at h
  | succ n ih =>
    intro t cs x ht h
    have hc := List.all_eq_true.1 hl t ht
    split at hc
    · rename_i hu
      obtain ⟨b, rfl, rfl⟩ := DataW.trod_bool hu h
      refine ⟨[.v (.bool b)], ⟨rfl, fun i y u hy hu => ?_⟩, ?_⟩
      · match i with
        | 0 => simp at hy hu; subst hy; subst hu; exact .v _ rfl
        | i + 1 => simp at hy
      · simp [Shp, hu]
    · rename_i k hu
      obtain ⟨z, rfl, rfl, hw⟩ := DataW.trod_int hu h
      refine ⟨[.v (.int k z)], ⟨rfl, fun i y u hy hu => ?_⟩, ?_⟩
      · match i with
        | 0 => simp at hy hu; subst hy; subst hu; exact .v _ rfl
        | i + 1 => simp at hy
      · simp [Shp, hu, hw]
    · rename_i hu
      obtain ⟨s, rfl, rfl, hw⟩ := DataW.trod_string hu h
      refine ⟨[.v (.string s)], ⟨rfl, fun i y u hy hu => ?_⟩, ?_⟩
      · match i with
        | 0 => simp at hy hu; subst hy; subst hu; exact .v _ rfl
        | i + 1 => simp at hy
      · simp [Shp, hu, hw]
    · rename_i e hu
      simp only [Bool.and_eq_true, List.contains_iff_mem, decide_eq_true_eq] at hc
      rcases DataW.trod_slice hu h with ⟨rfl, rfl⟩ | ⟨a, len, cap, elems, rest, n', hn, rfl, rfl, hb, hle, hm, hlen, hel, _, _⟩
      · refine ⟨[.sl (P.cellsOf e) [] none], ⟨rfl, fun i y u hy hu' => ?_⟩, ?_⟩
        · match i with
          | 0 => simp at hy hu'; subst hy; subst hu'; exact .sl _ [] none none 0 0 0 (fun _ => .nilIface) (by simp) (by simp) (by simp) (by simp) (by simp) (by simp) (by simp)
          | i + 1 => simp at hy
        · simp [Shp, hu]
      · injection hn with hn; subst hn
        have each : ∀ i, i < len → ∃ r cs', World.cells? w base (a.add (i * P.cellsOf e)) (P.cellsOf e) = some cs' ∧ RowR w r cs' ∧ Shp P n e r := fun i hi => by
          have h1 := hel i hi
          rw [List.getElem?_eq_getElem (by omega), Option.bind_eq_some_iff] at h1
          obtain ⟨cs', hcs, hy⟩ := h1
          obtain ⟨r, hr, hs⟩ := ih e cs' _ hc.1 hy
          exact ⟨r, cs', hcs, hr, hs⟩
        have hex : ∃ g : Nat → List CV, ∀ i, i < len → ∃ cs', World.cells? w base (a.add (i * P.cellsOf e)) (P.cellsOf e) = some cs' ∧ RowR w (g i) cs' ∧ Shp P n e (g i) := by
          refine ⟨fun i => if hi : i < len then (each i hi).choose else [], fun i hi => ?_⟩
          obtain ⟨cs', h1⟩ := (each i hi).choose_spec
          refine ⟨cs', ?_⟩
          simp only [hi, dif_pos]
          exact h1
        obtain ⟨g, hg⟩ := hex
        have hget : ∀ (i : Nat) r, ((List.range len).map g)[i]? = some r → i < len ∧ r = g i := fun i r hr => by
          have hi : i < len := by have := (List.getElem?_eq_some_iff.1 hr).1; simpa using this
          refine ⟨hi, ?_⟩
          simpa [List.getElem?_map, List.getElem?_range hi] using hr.symm
        have hrl : ∀ i, i < len → (g i).length = P.cellsOf e := fun i hi => by
          obtain ⟨cs', h1, h2, _⟩ := hg i hi
          rw [h2.1, (World.cells?_some h1).2.1]
        have hcell : ∀ i j, i < len → j < P.cellsOf e → ∃ u, w.cell? ((a.add (i * P.cellsOf e)).add j) = some u ∧ ∃ y, (g i)[j]? = some y ∧ RelC (allS w) w y u := fun i j hi hj => by
          obtain ⟨cs', h1, h2, _⟩ := hg i hi
          obtain ⟨_, h3, h4⟩ := World.cells?_some h1
          obtain ⟨y, hy⟩ : ∃ y, (g i)[j]? = some y := ⟨_, List.getElem?_eq_getElem (by rw [hrl i hi]; exact hj)⟩
          obtain ⟨v, hv⟩ : ∃ v, cs'[j]? = some v := ⟨_, List.getElem?_eq_getElem (by rw [h3]; exact hj)⟩
          exact ⟨_, (h4 j hj).trans hv, _, hy, h2.2 j _ _ hy hv⟩
        have hspot : 0 < len → a.spot = none := fun h0 => by
          obtain ⟨u, hu', _⟩ := hcell 0 0 h0 hc.2
          simpa [Addr.add] using (cell_in hu').2
        have hadd : 0 < len → ∀ i j, (a.add (i * P.cellsOf e)).add j = ⟨a.block, a.off + (i * P.cellsOf e + j), none⟩ := fun h0 i j => by
          have hs := hspot h0
          obtain ⟨ab, ao, asp⟩ := a
          simp only at hs; subst hs
          unfold Addr.add
          by_cases h1 : i * P.cellsOf e = 0 <;> by_cases h2 : j = 0 <;> simp [h1, h2] <;> omega
        have hdiv : ∀ k, k < len * P.cellsOf e → k / P.cellsOf e < len ∧ k % P.cellsOf e < P.cellsOf e ∧ k / P.cellsOf e * P.cellsOf e + k % P.cellsOf e = k := fun k hk =>
          ⟨(Nat.div_lt_iff_lt_mul hc.2).2 hk, Nat.mod_lt _ hc.2, by rw [Nat.mul_comm]; exact Nat.div_add_mod _ _⟩
        have hall : ∀ k, k < len * P.cellsOf e → ∃ u, cellAt w a.block (a.off + k) = some u := fun k hk => by
          obtain ⟨h1, h2, h3⟩ := hdiv k hk
          obtain ⟨u, h4, _⟩ := hcell _ _ h1 h2
          rw [hadd (Nat.lt_of_le_of_lt (Nat.zero_le _) h1), h3] at h4
          exact ⟨u, h4⟩
        refine ⟨[.sl (P.cellsOf e) ((List.range len).map g) none], ⟨rfl, fun i y u hy hu' => ?_⟩, ?_⟩
        · match i with
          | i + 1 => simp at hy
          | 0 =>
            simp only [List.getElem?_cons_zero, Option.some.injEq] at hy hu'
            subst hy; subst hu'
            have hlen' : ((List.range len).map g).length = len := by simp
            have hgoal : RelC (allS w) w (.sl (P.cellsOf e) ((List.range len).map g) none) (.slice (some a) ((List.range len).map g).length cap) := by
              refine .sl _ _ none (some a) cap a.block a.off (fun k => (cellAt w a.block (a.off + k)).getD .nilIface) (by rw [hlen']; exact hle) (by simp) ?_ ?_ ?_ ?_ ?_
              · intro hne
                have h0 : 0 < len := by
                  cases len with
                  | zero => simp at hne
                  | succ _ => omega
                refine ⟨?_, hc.2⟩
                have := hspot h0
                obtain ⟨ab, ao, asp⟩ := a
                simp only at this; subst this; rfl
              · intro i r hr
                simp only [Option.getD_none, List.append_nil] at hr
                obtain ⟨hi, rfl⟩ := hget i r hr
                exact hrl i hi
              · intro k hk
                simp only [Option.getD_none, List.append_nil, hlen'] at hk
                obtain ⟨u, hu'⟩ := hall k hk
                exact (cell_in hu').1
              · intro k hk
                simp only [Option.getD_none, List.append_nil, hlen'] at hk
                obtain ⟨u, hu'⟩ := hall k hk
                show cellAt w a.block (a.off + k) = some ((cellAt w a.block (a.off + k)).getD .nilIface)
                rw [hu']; rfl
              · intro i j r y hr hy
                simp only [Option.getD_none, List.append_nil] at hr
                obtain ⟨hi, rfl⟩ := hget i r hr
                have hj : j < P.cellsOf e := by rw [← hrl i hi]; exact (List.getElem?_eq_some_iff.1 hy).1
                obtain ⟨u, h4, y', h5, h6⟩ := hcell i j hi hj
                rw [hy] at h5; injection h5 with h5; subst h5
                rw [hadd (by omega)] at h4
                show RelC (allS w) w y ((cellAt w a.block (a.off + (i * P.cellsOf e + j))).getD .nilIface)
                rw [show cellAt w a.block (a.off + (i * P.cellsOf e + j)) = some u from h4]
                exact h6
            rwa [hlen'] at hgoal
        · simp only [Shp, hu]
          refine ⟨_, rfl, by simp; omega, fun r hr => ?_⟩
          obtain ⟨i, hi, rfl⟩ := List.mem_map.1 hr
          obtain ⟨_, _, _, h5⟩ := hg i (List.mem_range.1 hi)
          exact h5
    · rename_i fs hu
      simp only [Bool.and_eq_true, List.all_eq_true, List.contains_iff_mem] at hc
      obtain ⟨xs, n', hn, rfl, hlen, hxl, hf⟩ := DataW.trod_struct hu h
      injection hn with hn; subst hn
      obtain ⟨ys, h1, h2⟩ := fields_row (P := P) (w := w) (n := n) cs fs.toList 0 (by rw [hlen]; exact hc.2) (fun f hfm => by
        obtain ⟨i, hi⟩ := List.getElem?_of_mem hfm
        have h3 := hf i f (by simpa using hi)
        have hi' : i < xs.length := by rw [hxl]; simpa using (List.getElem?_eq_some_iff.1 hi).1
        rw [List.getElem?_eq_getElem hi'] at h3
        exact ih f.type _ _ (hc.1 f hfm) h3)
      refine ⟨ys, by simpa using h1, ?_⟩
      simp only [Shp, hu]
      exact h2
    · simp at hc

/-- One argument. -/
theorem trod_own {l : List TypeId} (hl : closedT P l = true) {t : TypeId} (ht : t ∈ l) {v : Value} {d : DataW H} {ps : List MemPlace} (h : DataW.Trod enc P w base spare held t v d ps) (h1 : v.cells = #[v]) :
    ∃ n y, RelC (allS w) w y v ∧ Shp P n t [y] := by
  obtain ⟨n, h⟩ := h
  rw [h1] at h
  obtain ⟨ys, hr, hs⟩ := trod_closed hl n t _ _ ht h
  have hlen := hr.1
  match ys, hlen with
  | [y], _ => exact ⟨n, y, hr.2 0 y v rfl rfl, hs⟩
end
/-- What a call that writes nothing old leaves below. -/
theorem Ext.below {w w' : World} (h : Ext (fun _ _ => False) w w') : Below w.heap.size w w' := ⟨h.os, h.tape, h.output, h.size, fun k hk => h.obj k hk (fun _ q => q)⟩
end Go.Proofs.Ythncmjlcmlmnmaa.V

namespace Go.Proofs.Ythncmjlcmlmnmaa
open Go V
open Go.ChangeShapes Go.WideShapes Go.ChangeAt Go.RowKit
theorem Try.own : ownKnob Try.prog.godebug = none := by kernel_rfl
theorem Try.laidOut : laidOutB Try.prog = true := by kernel_rfl
set_option maxRecDepth 100000
theorem u8_of {n : Int} (h : (Lit.int .u8 n).wf = true) : 0 ≤ n ∧ n ≤ 255 := by
  have h' : (decide (IntKind.u8.min ≤ n) && decide (n ≤ IntKind.u8.max)) = true := h
  have h1 : IntKind.u8.min = 0 := by decide
  have h2 : IntKind.u8.max = 255 := by decide
  rw [Bool.and_eq_true, h1, h2] at h'
  exact ⟨of_decide_eq_true h'.1, of_decide_eq_true h'.2⟩
theorem bytes_of : ∀ (es : List (List CV)), (∀ r ∈ es, ∃ z, r = [.v (.int .u8 z)] ∧ (Lit.int .u8 z).wf = true) → ∃ bs : List UInt8, es = encB bs
  | [], _ => ⟨[], rfl⟩
  | r :: es, h => by
    obtain ⟨z, hz, hw⟩ := h r (by simp)
    obtain ⟨bs, hbs⟩ := bytes_of es (fun r hr => h r (by simp [hr]))
    have h1 := u8_of hw
    refine ⟨UInt8.ofNat z.toNat :: bs, ?_⟩
    rw [hz, hbs, encB_cons]
    have : (UInt8.ofNat z.toNat).toNat = z.toNat := by simp; omega
    rw [this, show ((z.toNat : Nat) : Int) = z by omega]
section
variable {H : Type} {enc : TypeId × Value → H} {w : World} {base : Nat} {spare : Nat → Bool} {held : Bool}
theorem cells_slice {t e : TypeId} {v : Value} {r : Reach} (hu : Try.prog.underlying t = some (.slice e)) (hv : Value.okWide Try.prog w r base t v) : v.cells = #[v] := by
  unfold Value.okWide at hv
  rw [hu] at hv
  unfold Cell.okWide at hv
  rw [hu] at hv
  unfold Cell.ok at hv
  rw [hu] at hv
  cases v <;> first | rfl | exact hv.elim
theorem bytes_arg {v : Value} {r : Reach} {d : DataW H} {ps : List MemPlace} {base' : Nat} (hv : Value.okWide Try.prog w r base' 24 v) (h : DataW.Trod enc Try.prog w base spare held 24 v d ps) :
    ∃ bs : List UInt8, RelC (allS w) w (.sl 1 (encB bs) none) v ∧ bs.length ≤ maxLen := by
  have hu : Try.prog.underlying 24 = some (.slice 5) := by kernel_rfl
  have hu8 : Try.prog.underlying 5 = some (.int .u8) := by kernel_rfl
  have hc1 : Try.prog.cellsOf 5 = 1 := by kernel_rfl
  obtain ⟨n, y, hr, hs⟩ := trod_own (l := [5, 24]) (by kernel_rfl) (by simp) h (cells_slice hu hv)
  cases n with
  | zero => exact hs.elim
  | succ n =>
    simp only [Shp, hu] at hs
    obtain ⟨es, he, hl, hall⟩ := hs
    injection he with he _
    subst he
    obtain ⟨bs, rfl⟩ := bytes_of es (fun r hr => by
      have := hall r hr
      cases n with
      | zero => exact this.elim
      | succ n => simp only [Shp, hu8] at this; exact this)
    rw [hc1] at hr
    exact ⟨bs, hr, by simpa using hl⟩
end
end Go.Proofs.Ythncmjlcmlmnmaa

