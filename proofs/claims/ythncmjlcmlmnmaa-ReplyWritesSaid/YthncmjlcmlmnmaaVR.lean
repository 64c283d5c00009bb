/- The rules by which a function's abstract execution is gone through: 'cbv' does the steps; it stops where the record is asked. Conditions: none. -/
import Derived.Test.YthncmjlcmlmnmaaVQ
namespace Go.Proofs.Ythncmjlcmlmnmaa.V
open Go
/-- A frame of n temporaries, of which some are known. -/
def frame : Nat → Nat → List (Nat × AV) → List AV
  | _, 0, _ => []
  | i, n + 1, [] => .dead :: frame (i + 1) n []
  | i, n + 1, (k, x) :: l => match Nat.beq i k with | true => x :: frame (i + 1) n l | false => .dead :: frame (i + 1) n ((k, x) :: l)
section rules
variable {B : Nat} {T : Tab} {G : Glob} {D : Spec} {K : KX} {tm : List AV} {m : Mem} {O : Ops} (hO : O = std B T G D)
include hO
theorem br_of {v : Bool} {A B : Unit → Prop} (h1 : v = true → A ()) (h2 : v = false → B ()) : O.br v A B := by subst hO; exact ⟨h1, h2⟩
theorem br_t {v : Bool} {A B : Unit → Prop} (h : v = true) (h1 : A ()) : O.br v A B := by subst hO h; exact ⟨fun _ => h1, fun q => by simp at q⟩
theorem br_f {v : Bool} {A B : Unit → Prop} (h : v = false) (h1 : B ()) : O.br v A B := by subst hO h; exact ⟨fun q => by simp at q, fun _ => h1⟩
omit hO in
def oppO : BinOp → BinOp
  | .eql => .neq
  | .neq => .eql
  | .lss => .geq
  | .geq => .lss
  | .leq => .gtr
  | .gtr => .leq
  | o => o
theorem opp_of (op op' : BinOp) (hop : oppO op = op') (hc : (op == .eql || op == .neq || op == .lss || op == .geq || op == .leq || op == .gtr) = true) {a b : Int} {v v' : Bool} (hv : (!v) = v') (h : O.cmp op a b = v) : O.cmp op' a b = v' := by
  subst hO hop hv h
  show cmpStd (oppO op) a b = !cmpStd op a b
  cases op <;> first | (exact absurd hc (by decide)) | (simp only [oppO, cmpStd, bne, Bool.not_not]; try rfl) | skip
  all_goals (by_cases h1 : a < b <;> by_cases h2 : b < a <;> simp [h1, h2] <;> omega)
theorem join_all {K : List AV → Mem → Prop} (h : K tm m) : O.join K tm m := by subst hO; exact .inl h
theorem join_some {K : List AV → Mem → Prop} (live ids caps : List Nat) (h : K (fgT B live ids tm m) (fgM B ids caps m)) : O.join K tm m := by subst hO; exact .inr ⟨live, ids, caps, h⟩
/-- Two branches that come together in R. -/
theorem br_join {A : Nat → TI} (hA : A = fun t => T.at t) {v : Bool} {a b : Code} {tm₁ tm₂ : List AV} {m₁ m₂ : Mem} {N Rt : List AV → Mem → Prop} {X : Nat → List AV → Mem → Prop} (live ids caps : List Nat) (R : List AV → Mem → Prop)
    (h1 : v = true → ∀ L : List AV → Mem → Prop, (∀ tm m, R (fgT B live ids tm m) (fgM B ids caps m) → L tm m) → execO O A G a tm₁ m₁ (thenK L Rt X))
    (h2 : v = false → ∀ L : List AV → Mem → Prop, (∀ tm m, R (fgT B live ids tm m) (fgM B ids caps m) → L tm m) → execO O A G b tm₂ m₂ (thenK L Rt X))
    (h : ∀ tm m, R tm m → N tm m) :
    O.br v (fun _ => execO O A G a tm₁ m₁ (thenK (O.join N) Rt X)) (fun _ => execO O A G b tm₂ m₂ (thenK (O.join N) Rt X)) :=
  br_of hO (fun hv => h1 hv _ fun tm m hr => join_some hO live ids caps (h _ _ hr)) (fun hv => h2 hv _ fun tm m hr => join_some hO live ids caps (h _ _ hr))
theorem alt_l {A A' : Unit → Prop} (h : A ()) : O.alt A A' := by subst hO; exact .inl h
theorem alt_r {A A' : Unit → Prop} (h : A' ()) : O.alt A A' := by subst hO; exact .inr h
theorem elem_of {es : EL} {i : Nat} {K : List CV → Prop} (row : List CV) (h : es.getD i [] = row) (hk : K row) : O.elem es i K := by subst hO h; exact hk
theorem view_full {es : EL} {K : EL → Prop} (h : K es) : O.view (O.len es) es K := by
  subst hO; refine ⟨Nat.le_refl _, ?_⟩; rw [show List.take ((std B T G D).len es) es = es from List.take_length]; exact h
theorem view_of {n : Nat} {es : EL} {K : EL → Prop} (g : n ≤ es.length) (h : K (O.take n es)) : O.view n es K := by subst hO; exact ⟨g, h⟩
theorem sub_of {cs : List CV} {i z : Nat} {K : List CV → Prop} (row : List CV) (h : cs.drop (i * z) = row) (hk : K row) : O.sub cs i z K := by subst hO h; exact hk
theorem nat_of {i n : Nat} {K : Nat → Prop} (j : Nat) (h : i = j) (hk : K j) : O.nat i n K := by subst hO h; exact hk
theorem tob_of {es : EL} {K : ByteArray → Prop} (s : ByteArray) (h : es = encB s.data.toList) (hk : K s) : O.tob es K := by
  subst hO h
  have hb : ∀ l : List UInt8, bytesOf (encB l) = some l := by
    intro l; induction l with
    | nil => rfl
    | cons c l ih => rw [show encB (c :: l) = [.v (.int .u8 c.toNat)] :: encB l from rfl, bytesOf, ih]; simp
  show (match bytesOf (encB s.data.toList) with | some b => K ⟨b.toArray⟩ | none => False)
  rw [hb]; simpa using hk
theorem emp_of {es : EL} {A B : Unit → Prop} (h1 : es = [] → A ()) (h2 : es ≠ [] → B ()) : O.emp es A B := by
  subst hO; show (if es = [] then A () else B ()); split
  · exact h1 (by assumption)
  · exact h2 (by assumption)
theorem emp_no {es : EL} {A B : Unit → Prop} (h : es ≠ []) (h2 : B ()) : O.emp es A B := emp_of hO (fun q => absurd q h) (fun _ => h2)

def ordOk (T : Tab) (ops : Array Oper) (ord : List (Nat × Bool × Bool)) : Bool := Region.noSelect ops && (plan T ops ops.size (Array.replicate ops.size false) == some (ord.map fun x => (x.1, x.2.1))) && flagsOk ops.toList ord
/-- The rule of a drawn region: how its operations are gone through; in what objects others than the last one write. -/
theorem drawn_of {A : Nat → TI} (hA : A = fun t => T.at t) {ops : Array Oper} {K : List AV → Mem → Prop} (wr : List (List Nat)) (ord : List (Nat × Bool × Bool)) (h1 : ordOk T ops ord = true) (h : planO O A G wr ops.toList ord tm m (O.join K)) : O.drawn ops tm m K := by
  subst hO hA
  simp only [ordOk, Bool.and_eq_true, beq_iff_eq] at h1
  show drawnW T G D ops tm m (Join B K)
  unfold drawnW; rw [h1.1.1, h1.1.2]; exact ⟨wr, by rw [← planO_std (B := B) _ _ _ _ _ _ h1.2]; exact h⟩
/-- The rule of a region with conditions inside. -/
theorem reg_of {A : Nat → TI} (hA : A = fun t => T.at t) {ops : Array Oper} {K : List AV → Mem → Prop} (h : opsO O A G ops.toList ops.toList tm m (O.join K)) : O.reg ops tm m K := by
  subst hO hA
  show opsW T G D ops.toList ops.toList tm m (Join B K)
  rw [← opsO_std (B := B)]; exact h
theorem reg_join {A : Nat → TI} (hA : A = fun t => T.at t) {ops : Array Oper} {K : List AV → Mem → Prop} (live ids caps : List Nat) (R : List AV → Mem → Prop)
    (h1 : ∀ L : List AV → Mem → Prop, (∀ tm m, R (fgT B live ids tm m) (fgM B ids caps m) → L tm m) → opsO O A G ops.toList ops.toList tm m L)
    (h2 : ∀ tm m, R tm m → K tm m) : O.reg ops tm m K := reg_of hO hA (h1 _ fun tm m hr => join_some hO live ids caps (h2 _ _ hr))
theorem drawn_join {A : Nat → TI} (hA : A = fun t => T.at t) {ops : Array Oper} {K : List AV → Mem → Prop} (wr : List (List Nat)) (ord : List (Nat × Bool × Bool)) (h0 : ordOk T ops ord = true) (live ids caps : List Nat) (R : List AV → Mem → Prop)
    (h1 : ∀ L : List AV → Mem → Prop, (∀ tm m, R (fgT B live ids tm m) (fgM B ids caps m) → L tm m) → planO O A G wr ops.toList ord tm m L)
    (h2 : ∀ tm m, R tm m → K tm m) : O.drawn ops tm m K := drawn_of hO hA wr ord h0 (h1 _ fun tm m hr => join_some hO live ids caps (h2 _ _ hr))
omit hO in
def dropL (ids : List Nat) : List (Nat × Ob) → List (Nat × Ob)
  | [] => []
  | (i, o) :: r => if ids.contains i then dropL ids r else (i, o) :: dropL ids r
omit hO in
def stayL (ks : List (Nat × Ob)) : List (Nat × Ob) → List (Nat × Ob)
  | [] => []
  | (i, o) :: r => if (ks.map (·.1)).contains i then (i, o) :: stayL ks r else stayL ks r
omit hO in
theorem getL_mem : ∀ (l : List (Nat × Ob)) (j : Nat) (ob : Ob), getL l j = some ob → j ∈ l.map (·.1)
  | (k, p) :: r, j, ob, h => by
    simp only [getL] at h
    split at h
    · rename_i hj; simp [hj]
    · simp only [List.map_cons, List.mem_cons]; exact .inr (getL_mem r j ob h)
omit hO in
theorem getL_stay (ks l : List (Nat × Ob)) (j : Nat) (ob : Ob) (hj : getL ks j = some ob) : getL (stayL ks l) j = getL l j := by
  have hm := getL_mem ks j ob hj
  induction l with
  | nil => rfl
  | cons a r ih =>
    obtain ⟨k, p⟩ := a
    simp only [stayL]
    split
    · simp only [getL, ih]
    · rename_i hk; rw [ih]; simp only [getL]
      rw [if_neg (fun h => hk (by subst h; simpa using hm))]
omit hO in
theorem getL_drop (ids : List Nat) (l : List (Nat × Ob)) (j : Nat) (hj : j ∉ ids) : getL (dropL ids l) j = getL l j := by
  induction l with
  | nil => rfl
  | cons a r ih =>
    obtain ⟨k, p⟩ := a
    simp only [dropL]
    split
    · rename_i hk; rw [ih]; simp only [getL]
      rw [if_neg (fun h => hj (by subst h; simpa using hk))]
    · simp only [getL, ih]
theorem agree_of {wr : List Nat} {m m' : Mem} (h : m.clk ≤ m'.clk) (h2 : dropL wr m.obs = dropL wr (stayL m.obs m'.obs)) : O.agree wr m m' := by
  subst hO
  exact ⟨h, fun id ob hid hg => by
    have h3 : getL m.obs id = getL m'.obs id := by rw [← getL_stay m.obs m'.obs id _ hg, ← getL_drop wr m.obs id hid, h2, getL_drop wr _ id hid]
    unfold Mem.get at hg ⊢; rw [← h3, hg]; exact Ob.same_refl _⟩
omit hO in
theorem loopW_of {live ids caps : List Nat} {X : List AV → Mem → KX → Prop} {α : Type} (R : α → List AV → Mem → Prop) (μ : α → Nat)
    (step : ∀ a tm m (L : List AV → Mem → Prop), R a tm m → (∀ b tm m, μ b < μ a → R b (fgT B live ids tm m) (fgM B ids caps m) → L tm m) → X tm m fun e tm m => match e with | .norm => L tm m | .ret => K .ret tm m | .ex i => K (.ex i) tm m) :
    ∀ (N : Nat) (a : α) (tm : List AV) (m : Mem), μ a ≤ N → R a (fgT B live ids tm m) (fgM B ids caps m) → loopW B live ids caps X K (N + 1) tm m
  | 0, a, tm, m, hn, hI => step a _ _ _ hI fun b tm m hb _ => by omega
  | N + 1, a, tm, m, hn, hI => step a _ _ _ hI fun b tm m hb hI => loopW_of R μ step N b tm m (by omega) hI
/-- The rule of a loop: R of a holds at each head, behind it 'a' is a smaller one. -/
theorem loop_of {A : Nat → TI} (hA : A = fun t => T.at t) (live ids caps : List Nat) {α : Type} (R : α → List AV → Mem → Prop) (μ : α → Nat) {c : Code} (a : α) (h0 : R a (fgT B live ids tm m) (fgM B ids caps m))
    (step : ∀ a tm m (L : List AV → Mem → Prop), R a tm m → (∀ b tm m, μ b < μ a → R b (fgT B live ids tm m) (fgM B ids caps m) → L tm m) → execO O A G c tm m (thenK L (K .ret) fun i => K (.ex i))) :
    O.loop c tm m K := by
  subst hO hA
  refine ⟨live, ids, caps, μ a + 1, loopW_of R μ (fun a tm m L hr hl => ?_) _ a tm m (Nat.le_refl _) h0⟩
  have := step a tm m L hr hl
  rw [execO_std] at this
  have e : (thenK L (K .ret) fun i => K (.ex i)) = fun e tm m => match e with | .norm => L tm m | .ret => K .ret tm m | .ex i => K (.ex i) tm m := by funext e tm m; cases e <;> rfl
  rw [e] at this; exact this
end rules
section mono
theorem closeA_mono {m : Mem} {x : AV} {K K' : CV → Mem → Prop} (h : ∀ x m, K x m → K' x m) (hk : closeA m x K) : closeA m x K' := by
  unfold closeA at *; split at hk
  · exact h _ _ hk
  · split at hk
    · exact ⟨hk.1, hk.2.1, h _ _ hk.2.2⟩
    · exact hk.elim
  · exact hk.elim
theorem closeL_mono : ∀ (l : List AV) {m : Mem} {K K' : List CV → Mem → Prop} (_ : ∀ x m, K x m → K' x m) (_ : closeL m l K), closeL m l K'
  | [], _, _, _, h, hk => h _ _ hk
  | a :: l, _, _, _, h, hk => closeA_mono (fun x m hk => closeL_mono l (fun xs m hk => h _ _ hk) hk) hk
theorem packLW_mono {pk : Mem → AV → (OV → Mem → Prop) → Prop} (hp : ∀ m x (K K' : OV → Mem → Prop), (∀ o m, K o m → K' o m) → pk m x K → pk m x K') : ∀ (l : List AV) {m : Mem} {K K' : List OV → Mem → Prop} (_ : ∀ x m, K x m → K' x m) (_ : packLW pk m l K), packLW pk m l K'
  | [], _, _, _, h, hk => h _ _ hk
  | a :: l, _, _, _, h, hk => hp _ _ _ _ (fun x m hk => packLW_mono hp l (fun xs m hk => h _ _ hk) hk) hk
theorem packW_mono : ∀ (n : Nat) (m : Mem) (x : AV) (K K' : OV → Mem → Prop), (∀ o m, K o m → K' o m) → packW n m x K → packW n m x K'
  | 0, _, _, _, _, _, hk => hk.elim
  | n + 1, m, x, K, K', h, hk => by
    unfold packW at *
    split at hk
    · exact h _ _ hk
    · split at hk
      · exact ⟨hk.1, hk.2.1, h _ _ hk.2.2⟩
      · exact hk.elim
    · split at hk
      · exact ⟨hk.1, packLW_mono (packW_mono n) _ (fun _ _ hk => h _ _ hk) hk.2⟩
      · exact hk.elim
    · exact packLW_mono (packW_mono n) _ (fun _ _ hk => h _ _ hk) hk
    · exact packLW_mono (packW_mono n) _ (fun _ _ hk => h _ _ hk) hk
    · exact hk.elim
theorem shutW_mono {m : Mem} {x : AV} {K K' : OV → Mem → Prop} (h : ∀ x m, K x m → K' x m) (hk : shutW m x K) : shutW m x K' := by
  unfold shutW at *; split at hk
  · exact closeL_mono _ (fun _ _ hk => h _ _ hk) hk
  · exact closeA_mono (fun _ _ hk => h _ _ hk) hk
theorem argW_mono (md : Mode) {m : Mem} {x : AV} {K K' : OV → Mem → Prop} (h : ∀ x m, K x m → K' x m) (hk : argW md m x K) : argW md m x K' := by
  cases md with
  | shut => exact shutW_mono h hk
  | keep => cases x <;> first | exact hk.elim | exact h _ _ hk
  | own => exact packW_mono _ _ _ _ _ h hk
  | ref s =>
    simp only [argW] at *
    split at hk
    · split at hk
      · exact ⟨hk.1, hk.2.1, hk.2.2.1, packLW_mono (packW_mono _) _ (fun _ _ hk => h _ _ hk) hk.2.2.2⟩
      · exact hk.elim
    · exact hk.elim
theorem argsW_mono : ∀ (mds : List Mode) (l : List AV) (m : Mem) {K K' : List OV → Mem → Prop} (_ : ∀ x m, K x m → K' x m) (_ : argsW m mds l K), argsW m mds l K'
  | [], [], _, _, _, h, hk => h _ _ hk
  | [], _ :: _, _, _, _, _, hk => hk.elim
  | _ :: _, [], _, _, _, _, hk => hk.elim
  | md :: mds, a :: l, _, _, _, h, hk => argW_mono md (fun x m hk => argsW_mono mds l m (fun xs m hk => h _ _ hk) hk) hk
end mono
section calls
variable {P : Program} {B : Nat} {T : Tab} {G : Glob} {O : Ops} (hO : O = std B T G (Den P G))
include hO
/-- The rule of a call. -/
theorem call_of (mds : List Mode) {os : List OV} {Q : OV → List OV → Prop} {f : FuncId} (hd : Den P G f os Q) {site : Nat} {m : Mem} {args : List AV} {K : KK}
    (hh : argsO O m mds args fun os' m => os' = os ∧ ∀ r bs, Q r bs → backO site m mds args bs fun id m => K (unpack depth id m r).1 (unpack depth id m r).2.2) : O.call site m f args K := by
  subst hO
  refine .inl ⟨mds, ?_⟩
  rw [argsO_std] at hh
  refine argsW_mono mds args m ?_ hh
  rintro os' m' ⟨rfl, h⟩
  exact ⟨Q, hd, fun r bs hq => backO_eq _ _ _ _ _ _ (h r bs hq)⟩
theorem den_of' {A : Nat → TI} (hA : A = fun t => T.at t) (hm : P.follows .mixedOrders = true) (hT : TabOk P T) {f : FuncId} {fn : Func} {body : Code} (hf : P.funcs[f]? = some fn) (hb : fn.body = some body) (hname : (fn.name == "runtime.NumGoroutine") = false)
    {os : List OV} {Q : OV → List OV → Prop} (hlen : Nat.ble os.length fn.ntmps = true) (hB : (unpackL (unpack depth) 0 ⟨[], 0⟩ os).2.2.clk = B) {sh : Bool} (hk : FnO O A G fn body os Q sh) : Den P G f os Q := by
  subst hO hA
  rw [FnO_std _ _ _ _ _ hB] at hk
  exact den_of hm hT (fun _ _ _ h => h) hf hb hname (Nat.le_of_ble_eq_true hlen) hk
end calls
end Go.Proofs.Ythncmjlcmlmnmaa.V
