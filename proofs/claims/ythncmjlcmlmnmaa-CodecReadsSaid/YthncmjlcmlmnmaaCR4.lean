/- New blocks and arrays; stores. Conditions: none. -/
import Derived.Test.YthncmjlcmlmnmaaCR3
import Derived.IntWalk
namespace Go.Proofs.Ythncmjlcmlmnmaa.V
open Go Go.RowKit
section
variable {P : Program} {T : Tab} {X : Ctx} {S : Area} {pl : Place} {w : World} {m : Mem} {K : KK}

theorem thawed_new (w : World) (cc : Array Value) (e : TypeId) (fr : Nat × Nat) (hfr : fr.2 ≤ fr.1 ∨ cc.size ≤ fr.1) : Thawed (w.alloc (.cells cc e fr)) w.heap.size := by
  intro o hz e' s hs
  rw [frz_alloc, if_pos rfl] at hz
  rw [shape_alloc, if_pos rfl] at hs
  injection hs with hs; injection hs with _ hs; subst hs
  simp only [Bool.and_eq_true, decide_eq_true_eq] at hz
  omega

/-- A new block of cells. -/
theorem new_blk (h : St X S pl w m) (site : Nat) (cs : List AV) (us : List Value) (e : TypeId) (hl : us.length = cs.length) (hr : ∀ (j : Nat) x u, cs[j]? = some x → us[j]? = some u → RelV S pl w m x u) (hk : K (.p site m.clk 0) (m.new site fun v => .blk v cs)) :
    Did X S pl w m (.ok (.pointer (some ⟨w.heap.size, 0, none⟩)) (w.alloc (.cells us.toArray e))) K := by
  have := h.alloc site (fun v => .blk v cs) us.toArray e (0, 0) (fun _ => False) rfl (fun b o hf => ⟨hf.1, fun q => q⟩)
  simp only [and_false, or_false] at this
  have key : ∀ S' pl' w' m', Keeps S S' pl pl' w w' m m' → (∀ j, j < us.length → cellAt w' w.heap.size j = some (us.getD j undef)) → RowA S' pl' w' m' w.heap.size 0 cs := fun S' pl' w' m' k hc =>
    fun j x hx => by
      have hj : j < us.length := by rw [hl]; exact (List.getElem?_eq_some_iff.1 hx).1
      have hu : us[j]? = some us[j] := List.getElem?_eq_getElem hj
      rw [Nat.zero_add]
      exact ⟨_, hc j hj, by have := (hr j x _ hx hu).mono k; simpa [List.getD, hu] using this⟩
  have k : Keeps S S pl (plAt pl site (w.heap.size, 0)) w (w.alloc (.cells us.toArray e)) m (m.new site fun v => .blk v cs) :=
    ⟨fun _ _ hs => hs, fun b o hs => by rw [cellAt_alloc, if_neg (Nat.ne_of_lt (h.inv.low b o hs))],
     fun b s hs => by rw [shape_alloc, if_neg (Nat.ne_of_lt (shape_lt hs))]; exact hs, by simp [clk_new],
     fun id ob hob hlt => by
      by_cases hi : id = site
      · subst hi; rw [get_new, if_pos rfl] at hob; injection hob with hob; subst hob; simp [Ob.ver] at hlt
      · rw [get_new, if_neg hi] at hob; exact ⟨ob, hob, by cases ob <;> simp [Ob.alike], by simp [plAt, hi]⟩⟩
  obtain ⟨hst, hkp⟩ := this ⟨by rw [size_alloc]; exact Nat.lt_succ_self _, thawed_new w us.toArray e (0, 0) (.inl (Nat.le_refl _)), key _ _ _ _ k (fun j hj => by
    rw [cellAt_alloc, if_pos rfl]; simp [List.getD, hj])⟩
  refine ⟨_, _, S, _, _, _, rfl, hk, ?_, hst, hkp⟩
  have := RelV.p (S := S) (pl := plAt pl site (w.heap.size, 0)) (w := w.alloc (.cells us.toArray e)) (m := m.new site fun v => .blk v cs) site m.clk 0 w.heap.size 0 (by rw [clk_new]; omega) (fun ob hob _ => by
    rw [get_new, if_pos rfl] at hob; injection hob with hob; subst hob
    exact ⟨⟨_, rfl⟩, by simp [plAt]⟩)
  simpa using this

/-- A new array: its elements' cells, and what lies behind them. 'pub': as the array that it is made of. -/
theorem new_arr (h : St X S pl w m) (site sz : Nat) (es : List (List CV)) (cap : Option Nat) (pub : Bool) (us rest : List Value) (e : TypeId) (fr : Nat × Nat) (n capn : Nat) (hsz : 0 < sz) (hes : ∀ (i : Nat) e, es[i]? = some e → e.length = sz)
    (hl : us.length = es.length * sz) (hcap : (us ++ rest).length = capn * sz) (hcc : ∀ c, cap = some c → capn = c) (hfr : fr.2 ≤ fr.1 ∨ (us ++ rest).length ≤ fr.1) (hn : n ≤ es.length) (hbig : pub = false → capn < 9223372036854775808)
    (hr : ∀ (i j : Nat) e x, es[i]? = some e → e[j]? = some x → RelC S w x (us.getD (i * sz + j) undef)) (hk : K (.t site m.clk n) (m.new site fun v => .arr v sz es cap pub)) :
    Did X S pl w m (.ok (.slice (some ⟨w.heap.size, 0, none⟩) n capn) (w.alloc (.cells (us ++ rest).toArray e fr))) K := by
  have hle : es.length ≤ capn := by
    have : es.length * sz ≤ capn * sz := by rw [← hl, ← hcap, List.length_append]; omega
    exact Nat.le_of_mul_le_mul_right this hsz
  have hcell : ∀ k, k < es.length * sz → cellAt (w.alloc (.cells (us ++ rest).toArray e fr)) w.heap.size k = some (us.getD k undef) := fun k hk => by
    rw [cellAt_alloc, if_pos rfl]
    have hk' : k < us.length := by omega
    simp [List.getElem?_append_left hk', List.getD, hk']
  have hold : ∀ b o, S b o → cellAt (w.alloc (.cells (us ++ rest).toArray e fr)) b o = cellAt w b o := fun b o hs => by rw [cellAt_alloc, if_neg (Nat.ne_of_lt (h.inv.low b o hs))]
  have := h.alloc site (fun v => .arr v sz es cap pub) (us ++ rest).toArray e fr (fun o => pub = true ∧ o < es.length * sz) rfl (fun b o hf => ⟨hf.1, fun ⟨hp, ho⟩ => by have := hf.2 hp; omega⟩)
    ⟨rfl, hsz, ⟨thawed_new w _ e fr (by simpa using hfr), fun hp e' s' hs' => by
      rw [shape_alloc, if_pos rfl] at hs'
      injection hs' with hs'; injection hs' with _ hs'
      have h1 := hbig hp
      have h2 : capn * sz ≤ 9223372036854775807 * sz := Nat.mul_le_mul_right sz (by omega)
      simp at hs' hcap; omega⟩, ⟨e, capn, by rw [shape_alloc, if_pos rfl]; simp [← hcap], hle, hcc⟩,
      ⟨hes, fun k => us.getD k undef, hcell, fun i j e x he hx => (hr i j e x he hx).mono (fun _ _ hs => .inl hs) hold⟩, fun hp o ho => .inr ⟨rfl, hp, ho⟩⟩
  obtain ⟨hst, hkp⟩ := this
  refine ⟨_, _, _, _, _, _, rfl, hk, ?_, hst, hkp⟩
  exact .t site m.clk n w.heap.size capn (by rw [clk_new]; omega) (by omega) (fun ob hob _ => by
    rw [get_new, if_pos rfl] at hob; injection hob with hob; subst hob
    exact ⟨_, _, _, _, e, rfl, hn, by simp [plAt], by rw [shape_alloc, if_pos rfl]; simp [← hcap]⟩)

theorem rel_cells {x : AV} {u : Value} (hr : RelV S pl w m x u) (hs : ∀ y ∈ x.cells, y.solid = true) : u.cells.toList.length = x.cells.length ∧ (∀ (j : Nat) y v, x.cells[j]? = some y → u.cells.toList[j]? = some v → RelV S pl w m y v) := by
  cases x with
  | agg cs => cases hr with | agg _ us hl hr => exact ⟨by simpa [Value.cells, AV.cells] using hl, fun j y v hy hv => hr j y v hy (by simpa [Value.cells] using hv)⟩
  | tup cs => simp [AV.cells, AV.solid] at hs
  | dead => simp [AV.cells, AV.solid] at hs
  | _ =>
    have hu : u.cells = #[u] := by
      cases hr <;> first
        | rfl
        | (rename_i hr
           have := hr.solid
           cases u <;> first | rfl | (simp [Value.oneCell'] at this))
    rw [hu]
    refine ⟨rfl, fun j y v hy hv => ?_⟩
    cases j with
    | zero => simp [AV.cells] at hy hv; subst hy hv; exact hr
    | succ j => simp [AV.cells] at hy
theorem rel_solid {x : AV} {u : Value} (hr : RelV S pl w m x u) (hs : x.solid = true) : u.oneCell' = true := by
  cases hr <;> first | rfl | (simp [AV.solid] at hs; done) | skip
  rename_i hr; exact hr.solid

theorem allocW_sound (hT : TabOk P T) (h : St X S pl w m) {e s : Nat} (hs : (T.at e).size = s + 1) (site : Nat) (hk : allocW site (T.at e).zero m K) : Did X S pl w m ((Instr.alloc e true (.tuple #[])).run P w) K := by
  obtain ⟨hkn, hsz, hag, hz⟩ := hT.ti (t := e) (by rw [hs]; omega)
  obtain ⟨v, hrun, hl, hr⟩ := zero_of hz hkn S w
  have hrun' : (Instr.alloc e true (.tuple #[])).run P w = .ok (.pointer (some ⟨w.heap.size, 0, none⟩)) (w.alloc (.cells v.cells e)) := by
    unfold Instr.alloc
    simp only [Sem.run_bind, hrun, Result.andThen_ok, newVar, newRow, run_newObj, Sem.run_pure]; rfl
  rw [hrun']
  have := new_blk (K := K) h site ((T.at e).zero.map .c) v.cells.toList e (by simp [hl]) (fun j x u hx hu => by
    rw [List.getElem?_map] at hx
    cases hz : (T.at e).zero[j]? with
    | none => rw [hz] at hx; simp at hx
    | some y => rw [hz] at hx; simp at hx; subst hx; exact .c _ _ (hr j y u hz (by simpa using hu))) hk
  simpa using this

theorem boxW_sound (h : St X S pl w m) (e site : Nat) {x : AV} {a : Value} (hx : RelV S pl w m x a) (hk : boxW site m x K) : Did X S pl w m ((Instr.box e a).run P w) K := by
  obtain ⟨hs, hk⟩ := hk
  obtain ⟨hl, hr⟩ := rel_cells hx hs
  have hrun : (Instr.box e a).run P w = .ok (.pointer (some ⟨w.heap.size, 0, none⟩)) (w.alloc (.cells a.cells e)) := by
    unfold Instr.box
    simp only [Sem.run_bind, newVar, newRow, run_newObj, Sem.run_pure, Result.andThen_ok]; rfl
  rw [hrun]
  have := new_blk (K := K) h site x.cells a.cells.toList e hl hr hk
  simpa using this

theorem shape_of_cell {w : World} {b o : Nat} {u : Value} (h : cellAt w b o = some u) : ∃ e n, w.shape? b = some (e, n) ∧ o < n := by
  unfold cellAt World.cell? at h
  unfold World.shape?
  cases hh : w.heap[b]? with
  | none => rw [hh] at h; simp at h
  | some ob =>
    rw [hh] at h
    cases ob with
    | cells cc e fr =>
      simp only [Option.isSome_none, Bool.false_eq_true, if_false] at h
      exact ⟨e, cc.size, rfl, by have := (Array.getElem?_eq_some_iff.1 h).1; exact this⟩
    | _ => simp at h
theorem closeA_solid {x : AV} {K : CV → Mem → Prop} (hk : closeA m x K) : x.solid = true ∧ ∃ y m', K y m' := by
  cases x <;> simp only [closeA] at hk
  · exact ⟨rfl, _, _, hk⟩
  · split at hk
    · exact ⟨rfl, _, _, hk.2.2⟩
    · exact hk.elim
theorem closeL_solid : ∀ (xs : List AV) {m : Mem} {K : List CV → Mem → Prop}, closeL m xs K → ∀ z ∈ xs, z.solid = true
  | [], _, _, _, z, hz => by simp at hz
  | x :: xs, m, K, hk, z, hz => by
    obtain ⟨h1, y, m', h2⟩ := closeA_solid hk
    rcases List.mem_cons.1 hz with rfl | hz
    · exact h1
    · exact closeL_solid xs h2 z hz

theorem storeW_sound (hT : TabOk P T) (h : St X S pl w m) {t s : Nat} (hs : (T.at t).size = s + 1) {x y : AV} {a b : Value} (hx : RelV S pl w m x a) (hy : RelV S pl w m y b) {K : Mem → Prop} (hk : storeW (s + 1) m x y K) :
    ∃ w' S' m', (Instr.storeAt t a b).run P w = .ok () w' ∧ K m' ∧ St X S' pl w' m' ∧ Keeps S S' pl pl w w' m m' := by
  obtain ⟨hkn, hsz, hag, hz⟩ := hT.ti (t := t) (by rw [hs]; omega)
  rw [hs] at hsz
  have run : ∀ (b' o : Nat) (us : List Value), b.cells.toList = us → us.length = s + 1 → (∀ j, j < us.length → (cellAt w b' (o + j)).isSome = true) → (∀ j, j < us.length → w.frozen? ⟨b', o + j, none⟩ = false) → (∀ v ∈ us, v.oneCell' = true) →
      (Instr.storeAt t (.pointer (some ⟨b', o, none⟩)) b).run P w = .ok () (w.setCells b' o us) := by
    intro b' o us hus hl hc hf h1
    unfold Instr.storeAt storeVar
    simp only [Sem.run_bind, Instr.sureAddr, Sem.run_pure, Result.andThen_ok, run_size_of hkn, hsz]
    rw [if_neg (by rw [← Array.length_toList, hus, hl]; simp), hus]
    have := run_storeCells_cells (P := P) b' o us 0 w (by simpa using hc) (by simpa using hf) h1
    simpa using this
  unfold storeW at hk
  split at hk
  · rename_i id ver o
    cases hx with | p _ _ _ b' q hv hx =>
    split at hk
    · rename_i v cs hg
      obtain ⟨rfl, hlen, hsol, hle, hdd, hK⟩ := hk
      obtain ⟨_, hb⟩ := hx _ hg rfl
      obtain ⟨hl, hr⟩ := rel_cells hy hsol
      obtain ⟨hv', h1, h2, hf⟩ := h.inv.ob id _ hg
      have hb1 : (pl id).1 = b' := by rw [← hb]
      have hb2 : (pl id).2 = q := by rw [← hb]
      rw [hb1, hb2] at hf; rw [hb1] at h2
      obtain ⟨hst, hkp⟩ := h.setBlk hg o y.cells b.cells.toList hl (by omega) (by rw [hlen]; exact hdd) hr
      rw [hb1, hb2] at hst hkp
      have hcell : ∀ j, j < s + 1 → ∃ u, cellAt w b' (q + o + j) = some u := fun j hj => by
        have hx' : cs[o + j]? = some cs[o + j] := List.getElem?_eq_getElem (by omega)
        obtain ⟨u', hu', _⟩ := hf (o + j) _ hx'
        exact ⟨u', by rw [Nat.add_assoc]; exact hu'⟩
      refine ⟨_, S, _, run b' (q + o) _ rfl (by omega) (fun j hj => ?_) (fun j hj => ?_) (fun v hv => ?_), hK, hst, hkp⟩
      · obtain ⟨u, hu⟩ := hcell j (by omega); rw [hu]; rfl
      · obtain ⟨u, hu⟩ := hcell j (by omega)
        cases hz : w.frozen? ⟨b', q + o + j, none⟩ with
        | false => rfl
        | true =>
          obtain ⟨e, n, hsh, hlt⟩ := shape_of_cell hu
          have := h2 _ hz e n hsh
          omega
      · obtain ⟨j, hj⟩ := List.mem_iff_getElem?.1 hv
        have hjl : j < y.cells.length := by rw [← hl]; exact (List.getElem?_eq_some_iff.1 hj).1
        have hyj : y.cells[j]? = some y.cells[j] := List.getElem?_eq_getElem hjl
        exact rel_solid (hr j _ v hyj hj) (hsol _ (List.mem_of_getElem? hyj))
    · exact hk.elim
  · rename_i id ver i o
    have hsol := closeL_solid _ hk
    obtain ⟨hl, hr⟩ := rel_cells hy hsol
    obtain ⟨S1, ys, m1, hk1, hlen, hys, hst1, hkp1⟩ := closeL_sound y.cells b.cells.toList h hl hr hk
    have hx1 := hx.mono hkp1
    clear hk hx
    cases hx1 with | tp _ _ _ _ b' q hv hx =>
    split at hk1
    · rename_i v sz es cap pub hg
      obtain ⟨rfl, rfl, hlen2, hi, hle, hK⟩ := hk1
      obtain ⟨sz', es', cap', pub', heq, _, hb, hq⟩ := hx _ hg rfl
      injection heq with _ q1 q2 q3 q4; subst q1 q2 q3 q4
      obtain ⟨hv', h0, h1, h2, ⟨e3, capn, hs3, hle3, hcap3⟩, ⟨hl3, f, hc, hrf⟩, hp⟩ := hst1.inv.ob id _ hg
      have he : es[i]? = some es[i] := List.getElem?_eq_getElem hi
      have hd : es.getD i [] = es[i] := by simp [List.getD, he]
      rw [hd] at hle hK
      have hei := hl3 i _ he
      have hus : b.cells.toList.length = s + 1 := by omega
      have hmul : i * sz + sz ≤ es.length * sz := by
        have : (i + 1) * sz ≤ es.length * sz := Nat.mul_le_mul_right sz hi
        rwa [Nat.add_mul, Nat.one_mul] at this
      have hmul2 : es.length * sz ≤ capn * sz := Nat.mul_le_mul_right sz hle3
      obtain ⟨S2, hst2, hkp2⟩ := hst1.setArr hg (i * sz + o) b.cells.toList (es.set i (putAt es[i] o ys)) cap (capn := capn) hs3 (by omega) (by simp) (by simp) (by simpa using hle3) hcap3
        (fun j e hj => by
          rw [List.getElem?_set] at hj
          split at hj
          · injection hj with hj; subst hj; rw [putAt_length _ _ _ (by omega)]; exact hei
          · exact hl3 j e hj) (fun k hk => .inl (by simpa using hk)) (fun g hg' j t e x hj hx => by
          rw [List.getElem?_set] at hj
          split at hj
          · rename_i hij; subst hij
            injection hj with hj; subst hj
            rw [putAt_get _ _ _ (by omega)] at hx
            have ht : t < sz := by
              rcases Nat.lt_or_ge t sz with q | q
              · exact q
              · exfalso
                split at hx
                · omega
                · split at hx
                  · omega
                  · rw [List.getElem?_eq_none (by omega)] at hx; simp at hx
            by_cases q1 : t < o
            · rw [if_pos q1] at hx; rw [if_neg (by omega)]; exact hg' i t _ x he hx
            · rw [if_neg q1] at hx
              by_cases q2 : t < o + ys.length
              · rw [if_pos q2] at hx
                rw [if_pos ⟨by omega, by omega⟩, show i * sz + t - (i * sz + o) = t - o by omega]
                have hu : b.cells.toList[t - o]? = some b.cells.toList[t - o] := List.getElem?_eq_getElem (by omega)
                have := hys (t - o) x _ hx hu
                simpa [List.getD, hu] using this
              · rw [if_neg q2] at hx; rw [if_neg (by omega)]; exact hg' i t _ x he hx
          · rename_i hij
            have hjl : j < es.length := (List.getElem?_eq_some_iff.1 hj).1
            have htl : t < sz := by have := (List.getElem?_eq_some_iff.1 hx).1; rw [hl3 j e hj] at this; exact this
            have hne : ¬ (i * sz + o ≤ j * sz + t ∧ j * sz + t < i * sz + o + b.cells.toList.length) := by
              rintro ⟨g1, g2⟩
              rcases Nat.lt_or_gt_of_ne hij with q | q
              · have : (i + 1) * sz ≤ j * sz := Nat.mul_le_mul_right sz q
                rw [Nat.add_mul, Nat.one_mul] at this; omega
              · have : (j + 1) * sz ≤ i * sz := Nat.mul_le_mul_right sz q
                rw [Nat.add_mul, Nat.one_mul] at this; omega
            rw [if_neg hne]; exact hg' j t e x hj hx)
      rw [← hb] at hst2 hkp2 h2 hs3
      subst hq
      have hcell : ∀ j, j < b.cells.toList.length → ∃ u, cellAt w b' (i * sz + o + j) = some u := fun j hj => ⟨_, by rw [hb]; exact hc (i * sz + o + j) (by omega)⟩
      refine ⟨_, S2, _, run b' (i * sz + o) _ rfl hus (fun j hj => ?_) (fun j hj => ?_) (fun v hv => ?_), hK, hst2, hkp1.trans hkp2⟩
      · obtain ⟨u, hu⟩ := hcell j hj; rw [hu]; rfl
      · cases hz : w.frozen? ⟨b', i * sz + o + j, none⟩ with
        | false => rfl
        | true => have := h2.1 _ hz _ _ hs3; omega
      · obtain ⟨j, hj⟩ := List.mem_iff_getElem?.1 hv
        have hjl : j < y.cells.length := by rw [← hl]; exact (List.getElem?_eq_some_iff.1 hj).1
        have hyj : y.cells[j]? = some y.cells[j] := List.getElem?_eq_getElem hjl
        exact rel_solid (hr j _ v hyj hj) (hsol _ (List.mem_of_getElem? hyj))
    · exact hk1.elim
  · exact hk.elim
end
end Go.Proofs.Ythncmjlcmlmnmaa.V

namespace Go.Proofs.Ythncmjlcmlmnmaa.V
open Go Go.RowKit
section
variable {P : Program} {T : Tab} {X : Ctx} {S : Area} {pl : Place} {w : World} {m : Mem} {K : KK}

theorem foldl_put (off : Nat) : ∀ (vs : List Value) (k : Nat) (cells : Array Value), off + k + vs.length ≤ cells.size →
    ((vs.zipIdx k).foldl (fun (cs : Array Value) (p : Value × Nat) => cs.setIfInBounds (off + p.2) p.1) cells).toList = putAt cells.toList (off + k) vs
  | [], k, cells, _ => by simp [putAt]
  | v :: vs, k, cells, h => by
    simp only [List.length_cons] at h
    rw [List.zipIdx_cons, List.foldl_cons, foldl_put off vs (k + 1) _ (by simp; omega)]
    apply List.ext_getElem?
    intro j
    have h2 : off + (k + 1) + vs.length ≤ (cells.setIfInBounds (off + k) v).toList.length := by simp; omega
    have h3 : off + k + (v :: vs).length ≤ cells.toList.length := by simp; omega
    rw [putAt_get _ _ _ h2, putAt_get _ _ _ h3]
    simp only [Array.toList_setIfInBounds, List.length_cons, List.getElem?_set, Array.length_toList]
    by_cases h4 : j < off + k
    · rw [if_pos (by omega), if_pos h4, if_neg (by omega)]
    · rw [if_neg h4]
      by_cases h5 : j = off + k
      · subst h5; rw [if_pos (by omega), if_pos (by omega)]; simp; omega
      · rw [if_neg (by omega)]
        by_cases h6 : j < off + (k + 1) + vs.length
        · rw [if_pos h6, if_pos (by omega), show j - (off + k) = (j - (off + (k + 1))) + 1 by omega]; simp
        · rw [if_neg h6, if_neg (by omega), if_neg (by omega)]

theorem fill_one (cells : Array Value) (off : Nat) (v : Value) (h : off + v.cells.size ≤ cells.size) :
    (v.cells.zipIdx.foldl (fun (cs : Array Value) (p : Value × Nat) => cs.setIfInBounds (off + p.2) p.1) cells).toList = putAt cells.toList off v.cells.toList := by
  rw [← Array.foldl_toList, Array.toList_zipIdx]
  have := foldl_put off v.cells.toList 0 cells (by simpa using h)
  simpa using this

/-- cells and what is related to them -/
def CellsRel (S : Area) (pl : Place) (w : World) (m : Mem) (cs : List AV) (us : List Value) : Prop := us.length = cs.length ∧ ∀ (j : Nat) x u, cs[j]? = some x → us[j]? = some u → RelV S pl w m x u
theorem CellsRel.put {cs xs : List AV} {us vs : List Value} (h : CellsRel S pl w m cs us) (k : CellsRel S pl w m xs vs) (o : Nat) (ho : o + xs.length ≤ cs.length) : CellsRel S pl w m (putAt cs o xs) (putAt us o vs) := by
  have ho' : o + vs.length ≤ us.length := by rw [h.1, k.1]; exact ho
  refine ⟨by rw [putAt_length _ _ _ ho, putAt_length _ _ _ ho', h.1], fun j x u hx hu => ?_⟩
  rw [putAt_get _ _ _ ho] at hx
  rw [putAt_get _ _ _ ho', k.1] at hu
  split at hx
  · rename_i hj; rw [if_pos hj] at hu; exact h.2 j x u hx hu
  · rename_i hj; rw [if_neg hj] at hu
    split at hx
    · rename_i hj2; rw [if_pos hj2] at hu; exact k.2 _ x u hx hu
    · rename_i hj2; rw [if_neg hj2] at hu; exact h.2 j x u hx hu
theorem cells_len {x : AV} {u : Value} (hr : RelV S pl w m x u) (hs : ∀ y ∈ x.cells, y.solid = true) : CellsRel S pl w m x.cells u.cells.toList := rel_cells hr hs

theorem fill_sound (place : Nat → Option (Nat × Nat)) : ∀ (ps : List (Nat × AV)) (vs : List (Nat × Value)) (cs : List AV) (cells : Array Value), CellsRel S pl w m cs cells.toList → vs.length = ps.length →
    (∀ (j : Nat) p q, ps[j]? = some p → vs[j]? = some q → p.1 = q.1 ∧ RelV S pl w m p.2 q.2) → ∀ cs', fillA place cs ps = some cs' → ∃ cells', Instr.fill place cells vs = some cells' ∧ CellsRel S pl w m cs' cells'.toList
  | [], [], cs, cells, h, _, _, cs', hf => by simp only [fillA, Option.some.injEq] at hf; subst hf; exact ⟨cells, rfl, h⟩
  | [], _ :: _, _, _, _, hl, _, _, _ => by simp at hl
  | _ :: _, [], _, _, _, hl, _, _, _ => by simp at hl
  | (i, x) :: ps, (i', u) :: vs, cs, cells, h, hl, hr, cs', hf => by
    obtain ⟨hi, hx⟩ := hr 0 (i, x) (i', u) rfl rfl
    simp only at hi hx; subst hi
    simp only [fillA] at hf
    cases hp : place i with
    | none => rw [hp] at hf; simp at hf
    | some q =>
      obtain ⟨off, size⟩ := q
      rw [hp] at hf
      simp only at hf
      split at hf
      · simp at hf
      · rename_i hn
        simp only [not_or] at hn
        obtain ⟨h1, h2, h3⟩ := hn
        have hsz : x.cells.length = size := by omega
        have hsol : ∀ y ∈ x.cells, y.solid = true := List.all_eq_true.1 (by simpa using h3)
        have hc := cells_len hx hsol
        have hlen : u.cells.size = size := by rw [← Array.length_toList, hc.1, hsz]
        have hcl : cells.size = cs.length := by rw [← Array.length_toList, h.1]
        simp only [Instr.fill, hp]
        rw [if_neg (by simp; omega)]
        refine fill_sound place ps vs _ _ ?_ (by simpa using hl) (fun j p q hp' hq' => hr (j + 1) p q (by simpa using hp') (by simpa using hq')) cs' hf
        have := fill_one cells off u (by omega)
        rw [show (fun (cs : Array Value) (x : Value × Nat) => match x with | (c, j) => cs.setIfInBounds (off + j) c) = (fun (cs : Array Value) (p : Value × Nat) => cs.setIfInBounds (off + p.2) p.1) from rfl, this]
        exact h.put hc off (by omega)

theorem run_mapM {α β : Type} (f : α → Sem β) (g : α → β) : ∀ (l : List α), (∀ x ∈ l, (f x).run P w = .ok (g x) w) → (l.mapM f).run P w = .ok (l.map g) w
  | [], _ => rfl
  | x :: l, h => by
    rw [List.mapM_cons]
    simp only [Sem.run_bind, h x (by simp), Result.andThen_ok, run_mapM f g l (fun y hy => h y (by simp [hy])), Sem.run_pure, List.map_cons]
theorem run_mapA {α β : Type} (f : α → Sem β) (g : α → β) (a : Array α) (h : ∀ x ∈ a.toList, (f x).run P w = .ok (g x) w) : (a.mapM f).run P w = .ok (a.map g) w := by
  rw [Array.mapM_eq_mapM_toList]
  simp only [Sem.run_map, run_mapM f g a.toList h, Result.andThen_ok]
  congr 1
  apply Array.ext'; simp

theorem zero_cells {z : List CV} {v : Value} (hl : z.length = v.cells.size) (hr : ∀ (i : Nat) x u, z[i]? = some x → v.cells[i]? = some u → RelC S w x u) : CellsRel S pl w m (z.map .c) v.cells.toList := by
  refine ⟨by simp [hl], fun j x u hx hu => ?_⟩
  rw [List.getElem?_map] at hx
  cases hz : z[j]? with
  | none => rw [hz] at hx; simp at hx
  | some y => rw [hz] at hx; simp at hx; subst hx; exact .c _ _ (hr j y u hz (by simpa using hu))

theorem buildW_sound (hT : TabOk P T) (h : St X S pl w m) {t : Nat} {ps : List (Nat × AV)} {vs : List (Nat × Value)} (hl : vs.length = ps.length) (hr : ∀ (j : Nat) p q, ps[j]? = some p → vs[j]? = some q → p.1 = q.1 ∧ RelV S pl w m p.2 q.2)
    (hk : match (T.at t).k with
      | .st fs => buildW (stPlace fs) (T.at t).zero ps m K
      | .ar _ esz _ => buildW (fun i => some (i * esz, esz)) (T.at t).zero ps m K
      | _ => False) : Did X S pl w m ((Instr.build t vs.toArray).run P w) K := by
  have go : ∀ place : Nat → Option (Nat × Nat), buildW place (T.at t).zero ps m K → ∀ v : Value, (T.at t).zero.length = v.cells.size → (∀ (i : Nat) x u, (T.at t).zero[i]? = some x → v.cells[i]? = some u → RelC S w x u) →
      ∃ cells', Instr.fill place v.cells vs = some cells' ∧ ∃ cs, K (.agg cs) m ∧ CellsRel S pl w m cs cells'.toList := by
    intro place hb v h1 h2
    unfold buildW at hb
    split at hb
    · rename_i cs' hf
      obtain ⟨cells', hc, hrel⟩ := fill_sound place ps vs _ v.cells (zero_cells h1 h2) hl hr cs' hf
      exact ⟨cells', hc, cs', hb, hrel⟩
    · exact hb.elim
  have fin : ∀ (cells' : Array Value) (cs : List AV), CellsRel S pl w m cs cells'.toList → RelV S pl w m (.agg cs) (.agg cells') := fun cells' cs hc => by
    have := RelV.agg (S := S) (pl := pl) (w := w) (m := m) cs cells'.toList hc.1 hc.2
    simpa using this
  split at hk
  · rename_i fs hs
    obtain ⟨ht, hz, hkn⟩ := hT.tk (t := t) (by rw [hs]; rfl)
    obtain ⟨v, hrun, h1, h2⟩ := zero_of hz hkn S w
    rw [hs] at ht; simp only [tkOk] at ht
    split at ht
    · rename_i fields hu
      simp only [Bool.and_eq_true, beq_iff_eq, List.all_eq_true] at ht
      obtain ⟨hmap, hall⟩ := ht
      have hpl : (fun i => (fields.map fun f => (f.offset, P.cellsOf f.type))[i]?) = stPlace fs := by
        funext i
        unfold stPlace
        rw [← hmap, List.getElem?_map, ← Array.getElem?_toList, Array.toList_map, List.getElem?_map]
        cases fields.toList[i]? <;> rfl
      obtain ⟨cells', hfill, cs, hK, hrel⟩ := go _ hk v h1 h2
      unfold Instr.build
      have hmm := run_mapA (P := P) (w := w) (fun f : Field => (do pure (f.offset, ← sizeOf f.type) : Sem (Nat × Nat))) (fun f => (f.offset, P.cellsOf f.type)) fields (fun f hf => by
        simp only [Sem.run_bind, run_size_of (hall f hf), Result.andThen_ok, Sem.run_pure])
      simp only [Sem.run_bind, hrun, Result.andThen_ok, run_underlying hu, hmm, hpl, hfill, Sem.run_pure]
      exact Did.same h hK (fin _ _ hrel)
    · simp at ht
  · rename_i n esz ea hs
    obtain ⟨e, hu, hsz, _, hkn, _⟩ := ar_under hT hs
    obtain ⟨_, hz, hknt⟩ := hT.tk (t := t) (by rw [hs]; rfl)
    obtain ⟨v, hrun, h1, h2⟩ := zero_of hz hknt S w
    obtain ⟨cells', hfill, cs, hK, hrel⟩ := go _ hk v h1 h2
    unfold Instr.build
    simp only [Sem.run_bind, hrun, Result.andThen_ok, run_underlying hu, run_size_of hkn, hsz, hfill, Sem.run_pure]
    exact Did.same h hK (fin _ _ hrel)
  · exact hk.elim

theorem repL_length {α : Type} (l : List α) : ∀ n, (repL n l).length = n * l.length
  | 0 => by simp [repL]
  | n + 1 => by rw [repL, List.length_append, repL_length l n, Nat.add_mul]; omega
theorem repL_get {α : Type} (l : List α) (hl : 0 < l.length) : ∀ (n i : Nat), i < n * l.length → (repL n l)[i]? = l[i % l.length]?
  | 0, i, h => by simp at h
  | n + 1, i, h => by
    rw [repL]
    by_cases hi : i < l.length
    · rw [List.getElem?_append_left hi, Nat.mod_eq_of_lt hi]
    · rw [List.getElem?_append_right (by omega), repL_get l hl n _ (by rw [Nat.add_mul] at h; omega)]
      congr 1
      rw [← Nat.mod_eq_sub_mod (by omega)]
theorem zeros_eq (z : Array Value) (n : Nat) (hz : 0 < z.size) : (Array.range (n * z.size)).map (z[· % z.size]!) = (repL n z.toList).toArray := by
  apply Array.ext'
  simp only [Array.toList_map, Array.toList_range]
  apply List.ext_getElem?
  intro i
  by_cases hi : i < n * z.size
  · have := repL_get z.toList (by simpa using hz) n i (by simpa using hi)
    rw [this, List.getElem?_map, List.getElem?_range hi]
    have hm : i % z.size < z.size := Nat.mod_lt _ hz
    simp [hm]
  · rw [List.getElem?_eq_none (by simp; omega), List.getElem?_eq_none (by rw [repL_length]; simp; omega)]

/-- cells in rows of sz -/
theorem chunks_get {α : Type} (sz : Nat) (hsz : 0 < sz) : ∀ (n : Nat) (l : List α), l.length = n * sz → (chunks sz n l).length = n ∧ ∀ (i : Nat) e, (chunks sz n l)[i]? = some e → e.length = sz ∧ ∀ j, j < sz → e[j]? = l[i * sz + j]?
  | 0, l, _ => ⟨rfl, fun i e h => by simp [chunks] at h⟩
  | n + 1, l, h => by
    rw [Nat.add_mul, Nat.one_mul] at h
    obtain ⟨h1, h2⟩ := chunks_get sz hsz n (l.drop sz) (by rw [List.length_drop]; omega)
    refine ⟨by simp [chunks, h1], fun i e he => ?_⟩
    cases i with
    | zero =>
      simp [chunks] at he; subst he
      exact ⟨by rw [List.length_take]; omega, fun j hj => by rw [List.getElem?_take_of_lt hj]; simp⟩
    | succ i =>
      simp [chunks] at he
      obtain ⟨h3, h4⟩ := h2 i e he
      exact ⟨h3, fun j hj => by rw [h4 j hj, List.getElem?_drop]; congr 1; rw [Nat.add_mul]; omega⟩

theorem buildSliceW_sound (hT : TabOk P T) (h : St X S pl w m) {t len esz eb : Nat} {ea u8 : Bool} (hs : (T.at t).k = .sl esz ea eb u8) (site : Nat) {ps : List (Nat × AV)} {vs : List (Nat × Value)} (hl : vs.length = ps.length)
    (hr : ∀ (j : Nat) p q, ps[j]? = some p → vs[j]? = some q → p.1 = q.1 ∧ RelV S pl w m p.2 q.2) (hk : buildSliceW site esz (T.at t).ezero len ps m K) : Did X S pl w m ((Instr.buildSlice t len vs.toArray).run P w) K := by
  obtain ⟨e, hu, hsz, _, hkn, hpos, _, _, ⟨hz, hzl⟩, _⟩ := sl_under hT hs
  obtain ⟨v, hrun, h1, h2⟩ := zero_of hz hkn S w
  obtain ⟨hle, hk⟩ := hk
  have hvz : v.cells.size = esz := by omega
  split at hk
  · rename_i cs' hf
    have hstart : CellsRel S pl w m ((repL len (T.at t).ezero).map .c) (repL len v.cells.toList) := by
      refine ⟨by rw [repL_length, List.length_map, repL_length, Array.length_toList, h1], fun j x u hx hu' => ?_⟩
      have hj : j < len * esz := by have := (List.getElem?_eq_some_iff.1 hu').1; rw [repL_length, Array.length_toList, hvz] at this; exact this
      rw [List.getElem?_map, repL_get _ (by omega) len j (by rw [hzl]; exact hj)] at hx
      rw [repL_get _ (by rw [Array.length_toList]; omega) len j (by rw [Array.length_toList, hvz]; exact hj)] at hu'
      rw [hzl] at hx; rw [Array.length_toList, hvz] at hu'
      cases hq : (T.at t).ezero[j % esz]? with
      | none => rw [hq] at hx; simp at hx
      | some y => rw [hq] at hx; simp at hx; subst hx; exact .c _ _ (h2 _ y u hq (by simpa using hu'))
    obtain ⟨cells', hfill, hrel⟩ := fill_sound (S := S) (pl := pl) (w := w) (m := m) _ ps vs _ (repL len v.cells.toList).toArray (by simpa using hstart) hl hr cs' hf
    have hsolid := closeL_solid _ hk
    obtain ⟨S1, ys, m1, hk1, hlen, hys, hst1, hkp1⟩ := closeL_sound cs' cells'.toList h hrel.1 hrel.2 hk
    have hlc : cells'.size = len * esz := by
      have hp : ∀ (ps : List (Nat × AV)) (cs cs' : List AV), fillA (fun i => some (i * esz, esz)) cs ps = some cs' → cs'.length = cs.length := by
        intro ps
        induction ps with
        | nil => intro cs cs' hf; simp only [fillA, Option.some.injEq] at hf; rw [hf]
        | cons p ps ih =>
          intro cs cs' hf
          obtain ⟨i, x⟩ := p
          simp only [fillA] at hf
          split at hf
          · simp at hf
          · rename_i hn; simp only [not_or] at hn
            rw [ih _ _ hf, putAt_length _ _ _ (by omega)]
      rw [← Array.length_toList, hrel.1, hp ps _ _ hf, List.length_map, repL_length, hzl]
    have hylen : ys.length = len * esz := by rw [hlen, ← hrel.1, Array.length_toList, hlc]
    obtain ⟨hcl, hcg⟩ := chunks_get esz hpos len ys hylen
    have hrun2 : (Instr.buildSlice t len vs.toArray).run P w = .ok (.slice (some ⟨w.heap.size, 0, none⟩) len len) (w.alloc (.cells cells' e)) := by
      unfold Instr.buildSlice
      simp only [Sem.run_bind, run_underlying hu, Result.andThen_ok, run_size_of hkn, hsz]
      rw [if_neg (by omega)]
      by_cases h0 : len * esz = 0
      · have hl0 : len = 0 := by rcases Nat.mul_eq_zero.1 h0 with q | q; exact q; omega
        subst hl0
        simp only [repL] at hfill
        simp only [Nat.zero_mul, if_true, Sem.run_bind, Sem.run_pure, Result.andThen_ok]
        rw [show Array.map (fun x => (#[] : Array Value)[x % (#[] : Array Value).size]!) (Array.range 0) = [].toArray by simp, hfill]
        simp only [newRow, Sem.run_bind, run_newObj, Sem.run_pure]; rfl
      · simp only [if_neg h0, Sem.run_bind, hrun, Result.andThen_ok, Sem.run_pure]
        have harr := zeros_eq v.cells len (by omega)
        rw [hvz] at harr
        rw [show v.cells.size = esz from hvz, harr, hfill]
        simp only [newRow, Sem.run_bind, run_newObj, Sem.run_pure]; rfl
    rw [hrun2]
    have := new_arr (K := K) hst1 site esz (chunks esz len ys) (some len) false cells'.toList [] e (0, 0) len len hpos (fun i e he => (hcg i e he).1) (by rw [hcl]; simpa using hlc) (by simpa using hlc) (fun c hc => by injection hc) (.inl (Nat.le_refl _)) (by omega) (fun _ => by have := Nat.le_mul_of_pos_right len hpos; omega)
      (fun i j e x he hx => by
        have hj : j < esz := by have := (List.getElem?_eq_some_iff.1 hx).1; rw [(hcg i e he).1] at this; exact this
        rw [(hcg i e he).2 j hj] at hx
        have hlt : i * esz + j < cells'.toList.length := by rw [Array.length_toList, hlc, ← hylen]; exact (List.getElem?_eq_some_iff.1 hx).1
        have hu' : cells'.toList[i * esz + j]? = some cells'.toList[i * esz + j] := List.getElem?_eq_getElem hlt
        have := hys _ x _ hx hu'
        simpa [List.getD, hu'] using this) hk1
    simp only [List.append_nil] at this
    obtain ⟨u, w', S', pl', v', m', e1, e2, e3, e4, e5⟩ := this
    exact ⟨u, w', S', pl', v', m', by simpa using e1, e2, e3, e4, hkp1.trans e5⟩
  · exact hk.elim

theorem makeSliceW_sound (hT : TabOk P T) (h : St X S pl w m) {t esz eb : Nat} {ea u8 : Bool} (hs : (T.at t).k = .sl esz ea eb u8) (site : Nat) {l c : AV} {lv cv : Value} (hl : RelV S pl w m l lv) (hc : RelV S pl w m c cv)
    (hk : makeSliceW site esz eb (T.at t).ezero m l c K) : Did X S pl w m ((Instr.makeSlice t lv cv).run P w) K := by
  obtain ⟨e, hu, hsz, heb, hkn, hpos, hb1, hb2, ⟨hz, hzl⟩, _⟩ := sl_under hT hs
  obtain ⟨v, hrun, h1, h2⟩ := zero_of hz hkn S w
  unfold makeSliceW at hk
  split at hk
  · rename_i k1 l k2 c
    have e1 := relV_v hl; subst e1
    have e2 := relV_v hc; subst e2
    obtain ⟨h3, h4, h5, hK⟩ := hk
    obtain ⟨i, d, hi, _⟩ := known_info hkn
    have hbytes : i.bytes = eb := by rw [← heb]; unfold Program.bytesOf; rw [hi]; rfl
    have hc46 : c ≤ 2 ^ 46 := by
      have : c * 1 ≤ c * (eb : Int) := Int.mul_le_mul_of_nonneg_left (by omega) (by omega)
      omega
    have hw : ∀ n : Int, 0 ≤ n → n ≤ 2 ^ 46 → IntKind.i64.wrap n = n := fun n g1 g2 => IntWalk.i64_in n ⟨by omega, by omega⟩
    have hvz : v.cells.size = esz := by omega
    have hct : (c.toNat : Int) = c := Int.toNat_of_nonneg (by omega)
    have hlt : (l.toNat : Int) = l := Int.toNat_of_nonneg (by omega)
    have hrun2 : (Instr.makeSlice t (.int k1 l) (.int k2 c)).run P w = .ok (.slice (some ⟨w.heap.size, 0, none⟩) l.toNat c.toNat) (w.alloc (.cells (repL c.toNat v.cells.toList).toArray e)) := by
      unfold Instr.makeSlice
      simp only [Sem.run_bind, run_underlying hu, Result.andThen_ok, asInt, asIntOf, Sem.run_pure, run_typeInfo w hi, hbytes, hw l h3 (by omega), hw c (by omega) hc46]
      have hpow : (2 : Int) ^ 46 ≤ 2 ^ 48 := by decide
      rw [if_neg (by
        simp only [Bool.or_eq_true, decide_eq_true_eq, not_or]
        refine ⟨⟨⟨by omega, ?_⟩, by omega⟩, by omega⟩
        rw [Int.mul_comm]; omega)]
      by_cases h0 : c.toNat * esz = 0
      · have hl0 : c.toNat = 0 := by rcases Nat.mul_eq_zero.1 h0 with q | q; exact q; omega
        simp only [Sem.run_bind, run_askRoom, Result.andThen_ok, run_size_of hkn, hsz]
        rw [if_pos h0, h0, hl0]
        simp only [Sem.run_bind, Sem.run_pure, Result.andThen_ok, newRow, run_newObj]
        rw [show Array.map (fun x => (#[] : Array Value)[x % (#[] : Array Value).size]!) (Array.range 0) = [].toArray by simp]; rfl
      · simp only [Sem.run_bind, run_askRoom, Result.andThen_ok, run_size_of hkn, hsz]
        rw [if_neg h0]
        simp only [Sem.run_bind, hrun, Result.andThen_ok, Sem.run_pure]
        have harr := zeros_eq v.cells c.toNat (by omega)
        rw [hvz] at harr
        rw [show v.cells.size = esz from hvz, harr]
        simp only [newRow, Sem.run_bind, run_newObj, Sem.run_pure]; rfl
    rw [hrun2]
    have hsplit : repL c.toNat v.cells.toList = repL l.toNat v.cells.toList ++ repL (c.toNat - l.toNat) v.cells.toList := by
      have : ∀ a b, repL (a + b) v.cells.toList = repL a v.cells.toList ++ repL b v.cells.toList := fun a b => by
        induction a with
        | zero => simp [repL]
        | succ a ih => rw [show a + 1 + b = (a + b) + 1 by omega, repL, ih, repL, List.append_assoc]
      rw [← this]; congr 1; omega
    have hvl : v.cells.toList.length = esz := by simpa using hvz
    rw [hsplit]
    refine new_arr (K := K) h site esz (List.replicate l.toNat (T.at t).ezero) (some c.toNat) false _ _ e (0, 0) l.toNat c.toNat hpos (fun i e he => ?_) (by rw [repL_length, List.length_replicate, hvl]) ?_ (fun c' hc' => by injection hc') (.inl (Nat.le_refl _)) (by simp) (fun _ => by omega) (fun i j e x he hx => ?_) hK
    · rw [List.getElem?_replicate] at he
      split at he
      · injection he with he; subst he; exact hzl
      · simp at he
    · rw [← hsplit, repL_length, hvl]
    · rw [List.getElem?_replicate] at he
      split at he
      · injection he with he; subst he
        rename_i hil
        have hj : j < esz := by have := (List.getElem?_eq_some_iff.1 hx).1; omega
        have hij : i * esz + j < l.toNat * v.cells.toList.length := by
          have : (i + 1) * esz ≤ l.toNat * esz := Nat.mul_le_mul_right esz hil
          rw [Nat.add_mul, Nat.one_mul] at this; rw [hvl]; omega
        have hg := repL_get v.cells.toList (by omega) l.toNat (i * esz + j) hij
        rw [hvl, Nat.add_comm, Nat.add_mul_mod_self_right, Nat.mod_eq_of_lt hj, Nat.add_comm] at hg
        have hvj : v.cells.toList[j]? = some v.cells.toList[j] := List.getElem?_eq_getElem (by omega)
        have := h2 j x _ hx (by rw [← Array.getElem?_toList]; exact hvj)
        simpa [List.getD, hg, hvj] using this
      · simp at he
  · exact hk.elim
end
end Go.Proofs.Ythncmjlcmlmnmaa.V

