/- New blocks and arrays; stores. Conditions: none. -/
import Derived.Test.YthncmjlcmlmnmaaV8
namespace Go.Proofs.Ythncmjlcmlmnmaa.V
open Go Go.RowKit
section
variable {P : Program} {T : Tab} {X : Ctx} {S : Area} {pl : Place} {w : World} {m : Mem} {K : KK}

theorem thawed_new (w : World) (cc : Array Value) (e : TypeId) (fr : Nat × Nat) (hfr : fr.2 ≤ fr.1 ∨ cc.size ≤ fr.1) : Thawed (w.alloc (.cells cc e fr)) w.heap.size := by
  intro o hz e' s hs
  rw [frz_alloc, if_pos rfl] at hz
  rw [shape_alloc, if_pos rfl] at hs
  injection hs with hs; injection hs with _ hs; subst hs
  simp only [Bool.and_eq_true, decide_eq_true_eq] at hz
  omega

/-- A new block of cells. -/
theorem new_blk (h : St X S pl w m) (site : Nat) (cs : List AV) (us : List Value) (e : TypeId) (hl : us.length = cs.length) (hr : ∀ (j : Nat) x u, cs[j]? = some x → us[j]? = some u → RelV S pl w m x u) (hk : K (.p site m.clk 0) (m.new site fun v => .blk v cs)) :
    Did X S pl w m (.ok (.pointer (some ⟨w.heap.size, 0, none⟩)) (w.alloc (.cells us.toArray e))) K := by
  have := h.alloc site (fun v => .blk v cs) us.toArray e (0, 0) (fun _ => False) rfl (fun b o hf => ⟨hf.1, fun q => q⟩)
  simp only [and_false, or_false] at this
  have key : ∀ S' pl' w' m', Keeps S S' pl pl' w w' m m' → (∀ j, j < us.length → cellAt w' w.heap.size j = some (us.getD j undef)) → RowA S' pl' w' m' w.heap.size 0 cs := fun S' pl' w' m' k hc =>
    fun j x hx => by
      have hj : j < us.length := by rw [hl]; exact (List.getElem?_eq_some_iff.1 hx).1
      have hu : us[j]? = some us[j] := List.getElem?_eq_getElem hj
      rw [Nat.zero_add]
      exact ⟨_, hc j hj, by have := (hr j x _ hx hu).mono k; simpa [List.getD, hu] using this⟩
  have k : Keeps S S pl (plAt pl site (w.heap.size, 0)) w (w.alloc (.cells us.toArray e)) m (m.new site fun v => .blk v cs) :=
    ⟨fun _ _ hs => hs, fun b o hs => by rw [cellAt_alloc, if_neg (Nat.ne_of_lt (h.inv.low b o hs))],
     fun b s hs => by rw [shape_alloc, if_neg (Nat.ne_of_lt (shape_lt hs))]; exact hs, by simp [clk_new],
     fun id ob hob hlt => by
      by_cases hi : id = site
      · subst hi; rw [get_new, if_pos rfl] at hob; injection hob with hob; subst hob; simp [Ob.ver] at hlt
      · rw [get_new, if_neg hi] at hob; exact ⟨ob, hob, by cases ob <;> simp [Ob.alike], by simp [plAt, hi]⟩⟩
  obtain ⟨hst, hkp⟩ := this ⟨by rw [size_alloc]; exact Nat.lt_succ_self _, thawed_new w us.toArray e (0, 0) (.inl (Nat.le_refl _)), key _ _ _ _ k (fun j hj => by
    rw [cellAt_alloc, if_pos rfl]; simp [List.getD, hj])⟩
  refine ⟨_, _, S, _, _, _, rfl, hk, ?_, hst, hkp⟩
  have := RelV.p (S := S) (pl := plAt pl site (w.heap.size, 0)) (w := w.alloc (.cells us.toArray e)) (m := m.new site fun v => .blk v cs) site m.clk 0 w.heap.size 0 (by rw [clk_new]; omega) (fun ob hob _ => by
    rw [get_new, if_pos rfl] at hob; injection hob with hob; subst hob
    exact ⟨⟨_, rfl⟩, by simp [plAt]⟩)
  simpa using this

/-- A new array: its elements' cells, and what lies behind them. 'pub': as the array that it is made of. -/
theorem new_arr (h : St X S pl w m) (site sz : Nat) (es : List (List CV)) (cap : Option Nat) (pub : Bool) (us rest : List Value) (e : TypeId) (fr : Nat × Nat) (n capn : Nat) (hsz : 0 < sz) (hes : ∀ (i : Nat) e, es[i]? = some e → e.length = sz)
    (hl : us.length = es.length * sz) (hcap : (us ++ rest).length = capn * sz) (hcc : ∀ c, cap = some c → capn = c) (hfr : fr.2 ≤ fr.1 ∨ (us ++ rest).length ≤ fr.1) (hn : n ≤ es.length) (hbig : pub = false → capn < 9223372036854775808)
    (hr : ∀ (i j : Nat) e x, es[i]? = some e → e[j]? = some x → RelC S w x (us.getD (i * sz + j) undef)) (hk : K (.t site m.clk n) (m.new site fun v => .arr v sz es cap pub)) :
    Did X S pl w m (.ok (.slice (some ⟨w.heap.size, 0, none⟩) n capn) (w.alloc (.cells (us ++ rest).toArray e fr))) K := by
  have hle : es.length ≤ capn := by
    have : es.length * sz ≤ capn * sz := by rw [← hl, ← hcap, List.length_append]; omega
    exact Nat.le_of_mul_le_mul_right this hsz
  have hcell : ∀ k, k < es.length * sz → cellAt (w.alloc (.cells (us ++ rest).toArray e fr)) w.heap.size k = some (us.getD k undef) := fun k hk => by
    rw [cellAt_alloc, if_pos rfl]
    have hk' : k < us.length := by omega
    simp [List.getElem?_append_left hk', List.getD, hk']
  have hold : ∀ b o, S b o → cellAt (w.alloc (.cells (us ++ rest).toArray e fr)) b o = cellAt w b o := fun b o hs => by rw [cellAt_alloc, if_neg (Nat.ne_of_lt (h.inv.low b o hs))]
  have := h.alloc site (fun v => .arr v sz es cap pub) (us ++ rest).toArray e fr (fun o => pub = true ∧ o < es.length * sz) rfl (fun b o hf => ⟨hf.1, fun ⟨hp, ho⟩ => by have := hf.2 hp; omega⟩)
    ⟨rfl, hsz, ⟨thawed_new w _ e fr (by simpa using hfr), fun hp e' s' hs' => by
      rw [shape_alloc, if_pos rfl] at hs'
      injection hs' with hs'; injection hs' with _ hs'
      have h1 := hbig hp
      have h2 : capn * sz ≤ 9223372036854775807 * sz := Nat.mul_le_mul_right sz (by omega)
      simp at hs' hcap; omega⟩, ⟨e, capn, by rw [shape_alloc, if_pos rfl]; simp [← hcap], hle, hcc⟩,
      ⟨hes, fun k => us.getD k undef, hcell, fun i j e x he hx => (hr i j e x he hx).mono (fun _ _ hs => .inl hs) hold⟩, fun hp o ho => .inr ⟨rfl, hp, ho⟩⟩
  obtain ⟨hst, hkp⟩ := this
  refine ⟨_, _, _, _, _, _, rfl, hk, ?_, hst, hkp⟩
  exact .t site m.clk n w.heap.size capn (by rw [clk_new]; omega) (by omega) (fun ob hob _ => by
    rw [get_new, if_pos rfl] at hob; injection hob with hob; subst hob
    exact ⟨_, _, _, _, e, rfl, hn, by simp [plAt], by rw [shape_alloc, if_pos rfl]; simp [← hcap]⟩)

theorem rel_cells {x : AV} {u : Value} (hr : RelV S pl w m x u) (hs : ∀ y ∈ x.cells, y.solid = true) : u.cells.toList.length = x.cells.length ∧ (∀ (j : Nat) y v, x.cells[j]? = some y → u.cells.toList[j]? = some v → RelV S pl w m y v) := by
  cases x with
  | agg cs => cases hr with | agg _ us hl hr => exact ⟨by simpa [Value.cells, AV.cells] using hl, fun j y v hy hv => hr j y v hy (by simpa [Value.cells] using hv)⟩
  | tup cs => simp [AV.cells, AV.solid] at hs
  | dead => simp [AV.cells, AV.solid] at hs
  | _ =>
    have hu : u.cells = #[u] := by
      cases hr <;> first
        | rfl
        | (rename_i hr
           have := hr.solid
           cases u <;> first | rfl | (simp [Value.oneCell'] at this))
    rw [hu]
    refine ⟨rfl, fun j y v hy hv => ?_⟩
    cases j with
    | zero => simp [AV.cells] at hy hv; subst hy hv; exact hr
    | succ j => simp [AV.cells] at hy
theorem rel_solid {x : AV} {u : Value} (hr : RelV S pl w m x u) (hs : x.solid = true) : u.oneCell' = true := by
  cases hr <;> first | rfl | (simp [AV.solid] at hs; done) | skip
  rename_i hr; exact hr.solid

theorem allocW_sound (hT : TabOk P T) (h : St X S pl w m) {e s : Nat} (hs : (T.at e).size = s + 1) (site : Nat) (hk : allocW site (T.at e).zero m K) : Did X S pl w m ((Instr.alloc e true (.tuple #[])).run P w) K := by
  obtain ⟨hkn, hsz, hag, hz⟩ := hT.ti (t := e) (by rw [hs]; omega)
  obtain ⟨v, hrun, hl, hr⟩ := zero_of hz hkn S w
  have hrun' : (Instr.alloc e true (.tuple #[])).run P w = .ok (.pointer (some ⟨w.heap.size, 0, none⟩)) (w.alloc (.cells v.cells e)) := by
    unfold Instr.alloc
    simp only [Sem.run_bind, hrun, Result.andThen_ok, newVar, newRow, run_newObj, Sem.run_pure]; rfl
  rw [hrun']
  have := new_blk (K := K) h site ((T.at e).zero.map .c) v.cells.toList e (by simp [hl]) (fun j x u hx hu => by
    rw [List.getElem?_map] at hx
    cases hz : (T.at e).zero[j]? with
    | none => rw [hz] at hx; simp at hx
    | some y => rw [hz] at hx; simp at hx; subst hx; exact .c _ _ (hr j y u hz (by simpa using hu))) hk
  simpa using this

theorem boxW_sound (h : St X S pl w m) (e site : Nat) {x : AV} {a : Value} (hx : RelV S pl w m x a) (hk : boxW site m x K) : Did X S pl w m ((Instr.box e a).run P w) K := by
  obtain ⟨hs, hk⟩ := hk
  obtain ⟨hl, hr⟩ := rel_cells hx hs
  have hrun : (Instr.box e a).run P w = .ok (.pointer (some ⟨w.heap.size, 0, none⟩)) (w.alloc (.cells a.cells e)) := by
    unfold Instr.box
    simp only [Sem.run_bind, newVar, newRow, run_newObj, Sem.run_pure, Result.andThen_ok]; rfl
  rw [hrun]
  have := new_blk (K := K) h site x.cells a.cells.toList e hl hr hk
  simpa using this

theorem shape_of_cell {w : World} {b o : Nat} {u : Value} (h : cellAt w b o = some u) : ∃ e n, w.shape? b = some (e, n) ∧ o < n := by
  unfold cellAt World.cell? at h
  unfold World.shape?
  cases hh : w.heap[b]? with
  | none => rw [hh] at h; simp at h
  | some ob =>
    rw [hh] at h
    cases ob with
    | cells cc e fr =>
      simp only [Option.isSome_none, Bool.false_eq_true, if_false] at h
      exact ⟨e, cc.size, rfl, by have := (Array.getElem?_eq_some_iff.1 h).1; exact this⟩
    | _ => simp at h
theorem closeA_solid {x : AV} {K : CV → Mem → Prop} (hk : closeA m x K) : x.solid = true ∧ ∃ y m', K y m' := by
  cases x <;> simp only [closeA] at hk
  · exact ⟨rfl, _, _, hk⟩
  · split at hk
    · exact ⟨rfl, _, _, hk.2.2⟩
    · exact hk.elim
theorem closeL_solid : ∀ (xs : List AV) {m : Mem} {K : List CV → Mem → Prop}, closeL m xs K → ∀ z ∈ xs, z.solid = true
  | [], _, _, _, z, hz => by simp at hz
  | x :: xs, m, K, hk, z, hz => by
    obtain ⟨h1, y, m', h2⟩ := closeA_solid hk
    rcases List.mem_cons.1 hz with rfl | hz
    · exact h1
    · exact closeL_solid xs h2 z hz

theorem storeW_sound (hT : TabOk P T) (h : St X S pl w m) {t s : Nat} (hs : (T.at t).size = s + 1) {x y : AV} {a b : Value} (hx : RelV S pl w m x a) (hy : RelV S pl w m y b) {K : Mem → Prop} (hk : storeW (s + 1) m x y K) :
    ∃ w' S' m', (Instr.storeAt t a b).run P w = .ok () w' ∧ K m' ∧ St X S' pl w' m' ∧ Keeps S S' pl pl w w' m m' := by
  obtain ⟨hkn, hsz, hag, hz⟩ := hT.ti (t := t) (by rw [hs]; omega)
  rw [hs] at hsz
  have run : ∀ (b' o : Nat) (us : List Value), b.cells.toList = us → us.length = s + 1 → (∀ j, j < us.length → (cellAt w b' (o + j)).isSome = true) → (∀ j, j < us.length → w.frozen? ⟨b', o + j, none⟩ = false) → (∀ v ∈ us, v.oneCell' = true) →
      (Instr.storeAt t (.pointer (some ⟨b', o, none⟩)) b).run P w = .ok () (w.setCells b' o us) := by
    intro b' o us hus hl hc hf h1
    unfold Instr.storeAt storeVar
    simp only [Sem.run_bind, Instr.sureAddr, Sem.run_pure, Result.andThen_ok, run_size_of hkn, hsz]
    rw [if_neg (by rw [← Array.length_toList, hus, hl]; simp), hus]
    have := run_storeCells_cells (P := P) b' o us 0 w (by simpa using hc) (by simpa using hf) h1
    simpa using this
  unfold storeW at hk
  split at hk
  · rename_i id ver o
    cases hx with | p _ _ _ b' q hv hx =>
    split at hk
    · rename_i v cs hg
      obtain ⟨rfl, hlen, hsol, hle, hdd, hK⟩ := hk
      obtain ⟨_, hb⟩ := hx _ hg rfl
      obtain ⟨hl, hr⟩ := rel_cells hy hsol
      obtain ⟨hv', h1, h2, hf⟩ := h.inv.ob id _ hg
      have hb1 : (pl id).1 = b' := by rw [← hb]
      have hb2 : (pl id).2 = q := by rw [← hb]
      rw [hb1, hb2] at hf; rw [hb1] at h2
      obtain ⟨hst, hkp⟩ := h.setBlk hg o y.cells b.cells.toList hl (by omega) (by rw [hlen]; exact hdd) hr
      rw [hb1, hb2] at hst hkp
      have hcell : ∀ j, j < s + 1 → ∃ u, cellAt w b' (q + o + j) = some u := fun j hj => by
        have hx' : cs[o + j]? = some cs[o + j] := List.getElem?_eq_getElem (by omega)
        obtain ⟨u', hu', _⟩ := hf (o + j) _ hx'
        exact ⟨u', by rw [Nat.add_assoc]; exact hu'⟩
      refine ⟨_, S, _, run b' (q + o) _ rfl (by omega) (fun j hj => ?_) (fun j hj => ?_) (fun v hv => ?_), hK, hst, hkp⟩
      · obtain ⟨u, hu⟩ := hcell j (by omega); rw [hu]; rfl
      · obtain ⟨u, hu⟩ := hcell j (by omega)
        cases hz : w.frozen? ⟨b', q + o + j, none⟩ with
        | false => rfl
        | true =>
          obtain ⟨e, n, hsh, hlt⟩ := shape_of_cell hu
          have := h2 _ hz e n hsh
          omega
      · obtain ⟨j, hj⟩ := List.mem_iff_getElem?.1 hv
        have hjl : j < y.cells.length := by rw [← hl]; exact (List.getElem?_eq_some_iff.1 hj).1
        have hyj : y.cells[j]? = some y.cells[j] := List.getElem?_eq_getElem hjl
        exact rel_solid (hr j _ v hyj hj) (hsol _ (List.mem_of_getElem? hyj))
    · exact hk.elim
  · rename_i id ver i o
    have hsol := closeL_solid _ hk
    obtain ⟨hl, hr⟩ := rel_cells hy hsol
    obtain ⟨S1, ys, m1, hk1, hlen, hys, hst1, hkp1⟩ := closeL_sound y.cells b.cells.toList h hl hr hk
    have hx1 := hx.mono hkp1
    clear hk hx
    cases hx1 with | tp _ _ _ _ b' q hv hx =>
    split at hk1
    · rename_i v sz es cap pub hg
      obtain ⟨rfl, rfl, hlen2, hi, hle, hK⟩ := hk1
      obtain ⟨sz', es', cap', pub', heq, _, hb, hq⟩ := hx _ hg rfl
      injection heq with _ q1 q2 q3 q4; subst q1 q2 q3 q4
      obtain ⟨hv', h0, h1, h2, ⟨e3, capn, hs3, hle3, hcap3⟩, ⟨hl3, f, hc, hrf⟩, hp⟩ := hst1.inv.ob id _ hg
      have he : es[i]? = some es[i] := List.getElem?_eq_getElem hi
      have hd : es.getD i [] = es[i] := by simp [List.getD, he]
      rw [hd] at hle hK
      have hei := hl3 i _ he
      have hus : b.cells.toList.length = s + 1 := by omega
      have hmul : i * sz + sz ≤ es.length * sz := by
        have : (i + 1) * sz ≤ es.length * sz := Nat.mul_le_mul_right sz hi
        rwa [Nat.add_mul, Nat.one_mul] at this
      have hmul2 : es.length * sz ≤ capn * sz := Nat.mul_le_mul_right sz hle3
      obtain ⟨S2, hst2, hkp2⟩ := hst1.setArr hg (i * sz + o) b.cells.toList (es.set i (putAt es[i] o ys)) cap (capn := capn) hs3 (by omega) (by simp) (by simp) (by simpa using hle3) hcap3
        (fun j e hj => by
          rw [List.getElem?_set] at hj
          split at hj
          · injection hj with hj; subst hj; rw [putAt_length _ _ _ (by omega)]; exact hei
          · exact hl3 j e hj) (fun k hk => .inl (by simpa using hk)) (fun g hg' j t e x hj hx => by
          rw [List.getElem?_set] at hj
          split at hj
          · rename_i hij; subst hij
            injection hj with hj; subst hj
            rw [putAt_get _ _ _ (by omega)] at hx
            have ht : t < sz := by
              rcases Nat.lt_or_ge t sz with q | q
              · exact q
              · exfalso
                split at hx
                · omega
                · split at hx
                  · omega
                  · rw [List.getElem?_eq_none (by omega)] at hx; simp at hx
            by_cases q1 : t < o
            · rw [if_pos q1] at hx; rw [if_neg (by omega)]; exact hg' i t _ x he hx
            · rw [if_neg q1] at hx
              by_cases q2 : t < o + ys.length
              · rw [if_pos q2] at hx
                rw [if_pos ⟨by omega, by omega⟩, show i * sz + t - (i * sz + o) = t - o by omega]
                have hu : b.cells.toList[t - o]? = some b.cells.toList[t - o] := List.getElem?_eq_getElem (by omega)
                have := hys (t - o) x _ hx hu
                simpa [List.getD, hu] using this
              · rw [if_neg q2] at hx; rw [if_neg (by omega)]; exact hg' i t _ x he hx
          · rename_i hij
            have hjl : j < es.length := (List.getElem?_eq_some_iff.1 hj).1
            have htl : t < sz := by have := (List.getElem?_eq_some_iff.1 hx).1; rw [hl3 j e hj] at this; exact this
            have hne : ¬ (i * sz + o ≤ j * sz + t ∧ j * sz + t < i * sz + o + b.cells.toList.length) := by
              rintro ⟨g1, g2⟩
              rcases Nat.lt_or_gt_of_ne hij with q | q
              · have : (i + 1) * sz ≤ j * sz := Nat.mul_le_mul_right sz q
                rw [Nat.add_mul, Nat.one_mul] at this; omega
              · have : (j + 1) * sz ≤ i * sz := Nat.mul_le_mul_right sz q
                rw [Nat.add_mul, Nat.one_mul] at this; omega
            rw [if_neg hne]; exact hg' j t e x hj hx)
      rw [← hb] at hst2 hkp2 h2 hs3
      subst hq
      have hcell : ∀ j, j < b.cells.toList.length → ∃ u, cellAt w b' (i * sz + o + j) = some u := fun j hj => ⟨_, by rw [hb]; exact hc (i * sz + o + j) (by omega)⟩
      refine ⟨_, S2, _, run b' (i * sz + o) _ rfl hus (fun j hj => ?_) (fun j hj => ?_) (fun v hv => ?_), hK, hst2, hkp1.trans hkp2⟩
      · obtain ⟨u, hu⟩ := hcell j hj; rw [hu]; rfl
      · cases hz : w.frozen? ⟨b', i * sz + o + j, none⟩ with
        | false => rfl
        | true => have := h2.1 _ hz _ _ hs3; omega
      · obtain ⟨j, hj⟩ := List.mem_iff_getElem?.1 hv
        have hjl : j < y.cells.length := by rw [← hl]; exact (List.getElem?_eq_some_iff.1 hj).1
        have hyj : y.cells[j]? = some y.cells[j] := List.getElem?_eq_getElem hjl
        exact rel_solid (hr j _ v hyj hj) (hsol _ (List.mem_of_getElem? hyj))
    · exact hk1.elim
  · exact hk.elim
end
end Go.Proofs.Ythncmjlcmlmnmaa.V
