/- The rules by which a function's abstract execution is gone through: 'cbv' does the steps; it stops where the record is asked. Conditions: none. -/
import Derived.Test.YthncmjlcmlmnmaaCR8
import Derived.IntWalk
import Derived.Laws.Bits64
import GoSem.ClaimChange
import Derived.Test.YthncmjlcmlmnmaaProg
import Derived.KernelRfl
namespace Go.Proofs.Ythncmjlcmlmnmaa.V
open Go
/-- A frame of n temporaries, of which some are known. -/
def frame : Nat → Nat → List (Nat × AV) → List AV
  | _, 0, _ => []
  | i, n + 1, [] => .dead :: frame (i + 1) n []
  | i, n + 1, (k, x) :: l => match Nat.beq i k with | true => x :: frame (i + 1) n l | false => .dead :: frame (i + 1) n ((k, x) :: l)
section rules
variable {B : Nat} {T : Tab} {G : Glob} {D : Spec} {K : KX} {tm : List AV} {m : Mem} {O : Ops} (hO : O = std B T G D)
include hO
theorem br_of {v : Bool} {A B : Unit → Prop} (h1 : v = true → A ()) (h2 : v = false → B ()) : O.br v A B := by subst hO; exact ⟨h1, h2⟩
theorem br_t {v : Bool} {A B : Unit → Prop} (h : v = true) (h1 : A ()) : O.br v A B := by subst hO h; exact ⟨fun _ => h1, fun q => by simp at q⟩
theorem br_f {v : Bool} {A B : Unit → Prop} (h : v = false) (h1 : B ()) : O.br v A B := by subst hO h; exact ⟨fun q => by simp at q, fun _ => h1⟩
theorem join_all {K : List AV → Mem → Prop} (h : K tm m) : O.join K tm m := by subst hO; exact .inl h
theorem join_some {K : List AV → Mem → Prop} (live ids caps : List Nat) (h : K (fgT B live ids tm m) (fgM B ids caps m)) : O.join K tm m := by subst hO; exact .inr ⟨live, ids, caps, h⟩
/-- Two branches that come together in R. -/
theorem br_join {A : Nat → TI} (hA : A = fun t => T.at t) {v : Bool} {a b : Code} {tm₁ tm₂ : List AV} {m₁ m₂ : Mem} {N Rt : List AV → Mem → Prop} {X : Nat → List AV → Mem → Prop} (live ids caps : List Nat) (R : List AV → Mem → Prop)
    (h1 : v = true → ∀ L : List AV → Mem → Prop, (∀ tm m, R (fgT B live ids tm m) (fgM B ids caps m) → L tm m) → execO O A G a tm₁ m₁ (thenK L Rt X))
    (h2 : v = false → ∀ L : List AV → Mem → Prop, (∀ tm m, R (fgT B live ids tm m) (fgM B ids caps m) → L tm m) → execO O A G b tm₂ m₂ (thenK L Rt X))
    (h : ∀ tm m, R tm m → N tm m) :
    O.br v (fun _ => execO O A G a tm₁ m₁ (thenK (O.join N) Rt X)) (fun _ => execO O A G b tm₂ m₂ (thenK (O.join N) Rt X)) :=
  br_of hO (fun hv => h1 hv _ fun tm m hr => join_some hO live ids caps (h _ _ hr)) (fun hv => h2 hv _ fun tm m hr => join_some hO live ids caps (h _ _ hr))
theorem alt_l {A A' : Unit → Prop} (h : A ()) : O.alt A A' := by subst hO; exact .inl h
theorem alt_r {A A' : Unit → Prop} (h : A' ()) : O.alt A A' := by subst hO; exact .inr h
theorem elem_of {es : EL} {i : Nat} {K : List CV → Prop} (row : List CV) (h : es.getD i [] = row) (hk : K row) : O.elem es i K := by subst hO h; exact hk
theorem view_full {es : EL} {K : EL → Prop} (h : K es) : O.view (O.len es) es K := by
  subst hO; refine ⟨Nat.le_refl _, ?_⟩; rw [show List.take ((std B T G D).len es) es = es from List.take_length]; exact h
theorem view_of {n : Nat} {es : EL} {K : EL → Prop} (g : n ≤ es.length) (h : K (O.take n es)) : O.view n es K := by subst hO; exact ⟨g, h⟩
theorem emp_of {es : EL} {A B : Unit → Prop} (h1 : es = [] → A ()) (h2 : es ≠ [] → B ()) : O.emp es A B := by
  subst hO; show (if es = [] then A () else B ()); split
  · exact h1 (by assumption)
  · exact h2 (by assumption)
theorem emp_no {es : EL} {A B : Unit → Prop} (h : es ≠ []) (h2 : B ()) : O.emp es A B := emp_of hO (fun q => absurd q h) (fun _ => h2)

def ordOk (T : Tab) (ops : Array Oper) (ord : List (Nat × Bool × Bool)) : Bool := Region.noSelect ops && (plan T ops ops.size (Array.replicate ops.size false) == some (ord.map fun x => (x.1, x.2.1))) && flagsOk ops.toList ord
/-- The rule of a drawn region: how its operations are gone through; in what objects others than the last one write. -/
theorem drawn_of {A : Nat → TI} (hA : A = fun t => T.at t) {ops : Array Oper} {K : List AV → Mem → Prop} (wr : List (List Nat)) (ord : List (Nat × Bool × Bool)) (h1 : ordOk T ops ord = true) (h : planO O A G wr ops.toList ord tm m (O.join K)) : O.drawn ops tm m K := by
  subst hO hA
  simp only [ordOk, Bool.and_eq_true, beq_iff_eq] at h1
  show drawnW T G D ops tm m (Join B K)
  unfold drawnW; rw [h1.1.1, h1.1.2]; exact ⟨wr, by rw [← planO_std (B := B) _ _ _ _ _ _ h1.2]; exact h⟩
/-- The rule of a region with conditions inside. -/
theorem reg_of {A : Nat → TI} (hA : A = fun t => T.at t) {ops : Array Oper} {K : List AV → Mem → Prop} (h : opsO O A G ops.toList ops.toList tm m (O.join K)) : O.reg ops tm m K := by
  subst hO hA
  show opsW T G D ops.toList ops.toList tm m (Join B K)
  rw [← opsO_std (B := B)]; exact h
theorem reg_join {A : Nat → TI} (hA : A = fun t => T.at t) {ops : Array Oper} {K : List AV → Mem → Prop} (live ids caps : List Nat) (R : List AV → Mem → Prop)
    (h1 : ∀ L : List AV → Mem → Prop, (∀ tm m, R (fgT B live ids tm m) (fgM B ids caps m) → L tm m) → opsO O A G ops.toList ops.toList tm m L)
    (h2 : ∀ tm m, R tm m → K tm m) : O.reg ops tm m K := reg_of hO hA (h1 _ fun tm m hr => join_some hO live ids caps (h2 _ _ hr))
theorem drawn_join {A : Nat → TI} (hA : A = fun t => T.at t) {ops : Array Oper} {K : List AV → Mem → Prop} (wr : List (List Nat)) (ord : List (Nat × Bool × Bool)) (h0 : ordOk T ops ord = true) (live ids caps : List Nat) (R : List AV → Mem → Prop)
    (h1 : ∀ L : List AV → Mem → Prop, (∀ tm m, R (fgT B live ids tm m) (fgM B ids caps m) → L tm m) → planO O A G wr ops.toList ord tm m L)
    (h2 : ∀ tm m, R tm m → K tm m) : O.drawn ops tm m K := drawn_of hO hA wr ord h0 (h1 _ fun tm m hr => join_some hO live ids caps (h2 _ _ hr))
omit hO in
def dropL (ids : List Nat) : List (Nat × Ob) → List (Nat × Ob)
  | [] => []
  | (i, o) :: r => if ids.contains i then dropL ids r else (i, o) :: dropL ids r
omit hO in
def stayL (ks : List (Nat × Ob)) : List (Nat × Ob) → List (Nat × Ob)
  | [] => []
  | (i, o) :: r => if (ks.map (·.1)).contains i then (i, o) :: stayL ks r else stayL ks r
omit hO in
theorem getL_mem : ∀ (l : List (Nat × Ob)) (j : Nat) (ob : Ob), getL l j = some ob → j ∈ l.map (·.1)
  | (k, p) :: r, j, ob, h => by
    simp only [getL] at h
    split at h
    · rename_i hj; simp [hj]
    · simp only [List.map_cons, List.mem_cons]; exact .inr (getL_mem r j ob h)
omit hO in
theorem getL_stay (ks l : List (Nat × Ob)) (j : Nat) (ob : Ob) (hj : getL ks j = some ob) : getL (stayL ks l) j = getL l j := by
  have hm := getL_mem ks j ob hj
  induction l with
  | nil => rfl
  | cons a r ih =>
    obtain ⟨k, p⟩ := a
    simp only [stayL]
    split
    · simp only [getL, ih]
    · rename_i hk; rw [ih]; simp only [getL]
      rw [if_neg (fun h => hk (by subst h; simpa using hm))]
omit hO in
theorem getL_drop (ids : List Nat) (l : List (Nat × Ob)) (j : Nat) (hj : j ∉ ids) : getL (dropL ids l) j = getL l j := by
  induction l with
  | nil => rfl
  | cons a r ih =>
    obtain ⟨k, p⟩ := a
    simp only [dropL]
    split
    · rename_i hk; rw [ih]; simp only [getL]
      rw [if_neg (fun h => hj (by subst h; simpa using hk))]
    · simp only [getL, ih]
theorem agree_of {wr : List Nat} {m m' : Mem} (h : m.clk ≤ m'.clk) (h2 : dropL wr m.obs = dropL wr (stayL m.obs m'.obs)) : O.agree wr m m' := by
  subst hO
  exact ⟨h, fun id ob hid hg => by
    have h3 : getL m.obs id = getL m'.obs id := by rw [← getL_stay m.obs m'.obs id _ hg, ← getL_drop wr m.obs id hid, h2, getL_drop wr _ id hid]
    unfold Mem.get at hg ⊢; rw [← h3, hg]; exact Ob.same_refl _⟩
omit hO in
theorem loopW_of {live ids caps : List Nat} {X : List AV → Mem → KX → Prop} {α : Type} (R : α → List AV → Mem → Prop) (μ : α → Nat)
    (step : ∀ a tm m (L : List AV → Mem → Prop), R a tm m → (∀ b tm m, μ b < μ a → R b (fgT B live ids tm m) (fgM B ids caps m) → L tm m) → X tm m fun e tm m => match e with | .norm => L tm m | .ret => K .ret tm m | .ex i => K (.ex i) tm m) :
    ∀ (N : Nat) (a : α) (tm : List AV) (m : Mem), μ a ≤ N → R a (fgT B live ids tm m) (fgM B ids caps m) → loopW B live ids caps X K (N + 1) tm m
  | 0, a, tm, m, hn, hI => step a _ _ _ hI fun b tm m hb _ => by omega
  | N + 1, a, tm, m, hn, hI => step a _ _ _ hI fun b tm m hb hI => loopW_of R μ step N b tm m (by omega) hI
/-- The rule of a loop: R of a holds at each head, behind it 'a' is a smaller one. -/
theorem loop_of {A : Nat → TI} (hA : A = fun t => T.at t) (live ids caps : List Nat) {α : Type} (R : α → List AV → Mem → Prop) (μ : α → Nat) {c : Code} (a : α) (h0 : R a (fgT B live ids tm m) (fgM B ids caps m))
    (step : ∀ a tm m (L : List AV → Mem → Prop), R a tm m → (∀ b tm m, μ b < μ a → R b (fgT B live ids tm m) (fgM B ids caps m) → L tm m) → execO O A G c tm m (thenK L (K .ret) fun i => K (.ex i))) :
    O.loop c tm m K := by
  subst hO hA
  refine ⟨live, ids, caps, μ a + 1, loopW_of R μ (fun a tm m L hr hl => ?_) _ a tm m (Nat.le_refl _) h0⟩
  have := step a tm m L hr hl
  rw [execO_std] at this
  have e : (thenK L (K .ret) fun i => K (.ex i)) = fun e tm m => match e with | .norm => L tm m | .ret => K .ret tm m | .ex i => K (.ex i) tm m := by funext e tm m; cases e <;> rfl
  rw [e] at this; exact this
end rules
section mono
theorem closeA_mono {m : Mem} {x : AV} {K K' : CV → Mem → Prop} (h : ∀ x m, K x m → K' x m) (hk : closeA m x K) : closeA m x K' := by
  unfold closeA at *; split at hk
  · exact h _ _ hk
  · split at hk
    · exact ⟨hk.1, hk.2.1, h _ _ hk.2.2⟩
    · exact hk.elim
  · exact hk.elim
theorem closeL_mono : ∀ (l : List AV) {m : Mem} {K K' : List CV → Mem → Prop} (_ : ∀ x m, K x m → K' x m) (_ : closeL m l K), closeL m l K'
  | [], _, _, _, h, hk => h _ _ hk
  | a :: l, _, _, _, h, hk => closeA_mono (fun x m hk => closeL_mono l (fun xs m hk => h _ _ hk) hk) hk
theorem packLW_mono {pk : Mem → AV → (OV → Mem → Prop) → Prop} (hp : ∀ m x (K K' : OV → Mem → Prop), (∀ o m, K o m → K' o m) → pk m x K → pk m x K') : ∀ (l : List AV) {m : Mem} {K K' : List OV → Mem → Prop} (_ : ∀ x m, K x m → K' x m) (_ : packLW pk m l K), packLW pk m l K'
  | [], _, _, _, h, hk => h _ _ hk
  | a :: l, _, _, _, h, hk => hp _ _ _ _ (fun x m hk => packLW_mono hp l (fun xs m hk => h _ _ hk) hk) hk
theorem packW_mono : ∀ (n : Nat) (m : Mem) (x : AV) (K K' : OV → Mem → Prop), (∀ o m, K o m → K' o m) → packW n m x K → packW n m x K'
  | 0, _, _, _, _, _, hk => hk.elim
  | n + 1, m, x, K, K', h, hk => by
    unfold packW at *
    split at hk
    · exact h _ _ hk
    · split at hk
      · exact ⟨hk.1, hk.2.1, h _ _ hk.2.2⟩
      · exact hk.elim
    · split at hk
      · exact ⟨hk.1, packLW_mono (packW_mono n) _ (fun _ _ hk => h _ _ hk) hk.2⟩
      · exact hk.elim
    · exact packLW_mono (packW_mono n) _ (fun _ _ hk => h _ _ hk) hk
    · exact packLW_mono (packW_mono n) _ (fun _ _ hk => h _ _ hk) hk
    · exact hk.elim
theorem shutW_mono {m : Mem} {x : AV} {K K' : OV → Mem → Prop} (h : ∀ x m, K x m → K' x m) (hk : shutW m x K) : shutW m x K' := by
  unfold shutW at *; split at hk
  · exact closeL_mono _ (fun _ _ hk => h _ _ hk) hk
  · exact closeA_mono (fun _ _ hk => h _ _ hk) hk
theorem argW_mono (md : Mode) {m : Mem} {x : AV} {K K' : OV → Mem → Prop} (h : ∀ x m, K x m → K' x m) (hk : argW md m x K) : argW md m x K' := by
  cases md with
  | shut => exact shutW_mono h hk
  | keep => cases x <;> first | exact hk.elim | exact h _ _ hk
  | own => exact packW_mono _ _ _ _ _ h hk
  | ref s =>
    simp only [argW] at *
    split at hk
    · split at hk
      · exact ⟨hk.1, hk.2.1, hk.2.2.1, packLW_mono (packW_mono _) _ (fun _ _ hk => h _ _ hk) hk.2.2.2⟩
      · exact hk.elim
    · exact hk.elim
theorem argsW_mono : ∀ (mds : List Mode) (l : List AV) (m : Mem) {K K' : List OV → Mem → Prop} (_ : ∀ x m, K x m → K' x m) (_ : argsW m mds l K), argsW m mds l K'
  | [], [], _, _, _, h, hk => h _ _ hk
  | [], _ :: _, _, _, _, _, hk => hk.elim
  | _ :: _, [], _, _, _, _, hk => hk.elim
  | md :: mds, a :: l, _, _, _, h, hk => argW_mono md (fun x m hk => argsW_mono mds l m (fun xs m hk => h _ _ hk) hk) hk
end mono
section calls
variable {P : Program} {B : Nat} {T : Tab} {G : Glob} {O : Ops} (hO : O = std B T G (Den P G))
include hO
/-- The rule of a call. -/
theorem call_of (mds : List Mode) {os : List OV} {Q : OV → List OV → Prop} {f : FuncId} (hd : Den P G f os Q) {site : Nat} {m : Mem} {args : List AV} {K : KK}
    (hh : argsO O m mds args fun os' m => os' = os ∧ ∀ r bs, Q r bs → backO site m mds args bs fun id m => K (unpack depth id m r).1 (unpack depth id m r).2.2) : O.call site m f args K := by
  subst hO
  refine .inl ⟨mds, ?_⟩
  rw [argsO_std] at hh
  refine argsW_mono mds args m ?_ hh
  rintro os' m' ⟨rfl, h⟩
  exact ⟨Q, hd, fun r bs hq => backO_eq _ _ _ _ _ _ (h r bs hq)⟩
theorem den_of' {A : Nat → TI} (hA : A = fun t => T.at t) (hm : P.follows .mixedOrders = true) (hT : TabOk P T) {f : FuncId} {fn : Func} {body : Code} (hf : P.funcs[f]? = some fn) (hb : fn.body = some body) (hname : (fn.name == "runtime.NumGoroutine") = false)
    {os : List OV} {Q : OV → List OV → Prop} (hlen : Nat.ble os.length fn.ntmps = true) (hB : (unpackL (unpack depth) 0 ⟨[], 0⟩ os).2.2.clk = B) {sh : Bool} (hk : FnO O A G fn body os Q sh) : Den P G f os Q := by
  subst hO hA
  rw [FnO_std _ _ _ _ _ hB] at hk
  exact den_of hm hT (fun _ _ _ h => h) hf hb hname (Nat.le_of_ble_eq_true hlen) hk
end calls
end Go.Proofs.Ythncmjlcmlmnmaa.V

namespace Go.Proofs.Ythncmjlcmlmnmaa.V
open Go
@[simp] theorem bits_u8 : IntKind.u8.bits = 8 := rfl
@[simp] theorem bits_i64 : IntKind.i64.bits = 64 := rfl
@[simp] theorem bits_u64 : IntKind.u64.bits = 64 := rfl
@[simp] theorem natc (n : Nat) : Int.ofNat n = (n : Int) := rfl
theorem i64_id {n : Int} (h : -9223372036854775808 ≤ n ∧ n ≤ 9223372036854775807) : IntKind.i64.wrap n = n := IntWalk.i64_in n h
theorem u64_id {n : Int} (h : 0 ≤ n ∧ n ≤ 18446744073709551615) : IntKind.u64.wrap n = n := IntWalk.u64_in n h
@[simp] theorem encB_length (l : List UInt8) : (encB l).length = l.length := by simp [encB]
@[simp] theorem encB_append (a b : List UInt8) : encB (a ++ b) = encB a ++ encB b := by simp [encB]
@[simp] theorem encB_nil : encB [] = [] := rfl
theorem encB_cons (c : UInt8) (l : List UInt8) : encB (c :: l) = [.v (.int .u8 c.toNat)] :: encB l := rfl
theorem encB_get {l : List UInt8} {i : Nat} (h : i < l.length) : (encB l).getD i [] = [.v (.int .u8 (l[i]).toNat)] := by simp [encB, List.getD, h]
@[simp] theorem encB_drop (l : List UInt8) (n : Nat) : (encB l).drop n = encB (l.drop n) := by simp [encB, List.map_drop]
@[simp] theorem encB_take (l : List UInt8) (n : Nat) : (encB l).take n = encB (l.take n) := by simp [encB, List.map_take]
/-- ints as elements -/
def encI (l : List Int) : List (List CV) := l.map fun n => [.v (.int .i64 n)]
@[simp] theorem encI_length (l : List Int) : (encI l).length = l.length := by simp [encI]
/-- what an int is as a uint64 -/
def uv (n : Int) : Nat := (n % 18446744073709551616).toNat
theorem uv_nat (n : Nat) (h : n < 2 ^ 64) : uv (n : Int) = n := by unfold uv; omega
theorem bytesOf_encB : ∀ l : List UInt8, bytesOf (encB l) = some l
  | [] => rfl
  | c :: l => by rw [encB_cons, bytesOf, bytesOf_encB l]; simp
theorem ofInt_nat (n : Nat) (a : Nat) : (BitVec.ofInt n (a : Int)).toNat = a % 2 ^ n := by simp
theorem bOr_nat (n a b : Nat) (ha : a < 2 ^ n) (hb : b < 2 ^ n) : bOr n (a : Int) (b : Int) = a ||| b := by
  unfold bOr; rw [BitVec.toNat_or, ofInt_nat, ofInt_nat, Nat.mod_eq_of_lt ha, Nat.mod_eq_of_lt hb]
end Go.Proofs.Ythncmjlcmlmnmaa.V

namespace Go.Proofs.Ythncmjlcmlmnmaa.V
open Go
/-- A condition without which the call panics, or goes beyond what is told. -/
def gd {ρ : Type} (p : Prop) [Decidable p] (fail k : ρ) : ρ := if p then k else fail
/-- No element. -/
abbrev nilE : EL := []
/-- A text's bytes out of a row of byte cells. -/
def tobP {ρ : Type} (fail : ρ) (es : EL) (k : ByteArray → ρ) : ρ := match bytesOf es with | some b => k ⟨b.toArray⟩ | none => fail
theorem gd_inv {p : Prop} [Decidable p] {k : Prop} (h : gd p False k) : p ∧ k := by
  unfold gd at h; split at h
  · exact ⟨by assumption, h⟩
  · exact h.elim
section
variable {O : Ops} {B : Nat} {T : Tab} {G : Glob} {D : Spec} (hO : O = std B T G D)
theorem and_h {p : Prop} [Decidable p] {k C R : Prop} (h : gd p False k) (e : p → C) (f : k → R) : C ∧ R := by
  unfold gd at h; split at h
  · exact ⟨e (by assumption), f h⟩
  · exact h.elim
include hO
theorem br_h {v c : Bool} {A A' : Unit → Prop} {a b : Prop} (h : cond c a b) (e : v = c) (h1 : v = true → a → A ()) (h2 : v = false → b → A' ()) : O.br v A A' := by
  subst e; exact br_of hO (fun hv => h1 hv (by subst hv; exact h)) (fun hv => h2 hv (by subst hv; exact h))
theorem br_join_h {A : Nat → TI} (hA : A = fun t => T.at t) {v c : Bool} {x y : Code} {tm₁ tm₂ : List AV} {m₁ m₂ : Mem} {N Rt : List AV → Mem → Prop} {X : Nat → List AV → Mem → Prop} {a b : Prop} (h : cond c a b) (e : v = c) (live ids caps : List Nat) (R : List AV → Mem → Prop)
    (h1 : v = true → a → ∀ L : List AV → Mem → Prop, (∀ tm m, R (fgT B live ids tm m) (fgM B ids caps m) → L tm m) → execO O A G x tm₁ m₁ (thenK L Rt X))
    (h2 : v = false → b → ∀ L : List AV → Mem → Prop, (∀ tm m, R (fgT B live ids tm m) (fgM B ids caps m) → L tm m) → execO O A G y tm₂ m₂ (thenK L Rt X))
    (h3 : ∀ tm m, R tm m → N tm m) :
    O.br v (fun _ => execO O A G x tm₁ m₁ (thenK (O.join N) Rt X)) (fun _ => execO O A G y tm₂ m₂ (thenK (O.join N) Rt X)) := by
  subst e
  exact br_join hO hA live ids caps R (fun hv => h1 hv (by subst hv; exact h)) (fun hv => h2 hv (by subst hv; exact h)) h3
theorem view_h {n : Nat} {es : EL} {K : EL → Prop} {p : Prop} [Decidable p] {k : Prop} (h : gd p False k) (e : p → n ≤ es.length) (f : k → K (O.take n es)) : O.view n es K :=
  view_of hO (e (gd_inv h).1) (f (gd_inv h).2)
theorem tob_h {es es' : EL} {k K : ByteArray → Prop} (h : tobP False es' k) (e : es = es') (f : ∀ s, k s → K s) : O.tob es K := by
  subst e hO
  show (match bytesOf es with | some b => K ⟨b.toArray⟩ | none => False)
  unfold tobP at h
  split at h
  · exact f _ h
  · exact h.elim
end
section
variable {m : Mem}
theorem lend_nil : lendL m [] [] := trivial
theorem lend_t {id ver n sz : Nat} {es : EL} {cap : Option Nat} {xs : List AV} {os : List OV} (hg : m.get id = some (.arr ver sz es cap false)) (hn : n ≤ es.length) (h8 : u8E es = true) (hr : lendL m xs os) :
    lendL m (.t id ver n :: xs) (.c (.sl sz (es.take n) none) :: os) := by
  refine ⟨?_, hr⟩
  unfold lendA; dsimp only; rw [hg]
  exact ⟨rfl, rfl, hn, h8, rfl, .inl rfl⟩
theorem lend_f {id ver n sz c : Nat} {es : EL} {xs : List AV} {os : List OV} (hg : m.get id = some (.arr ver sz es (some c) false)) (hn : n ≤ es.length) (h8 : u8E es = true) (hc : c = es.length) (hlt : n < es.length) (hr : lendL m xs os) :
    lendL m (.t id ver n :: xs) (.c (.sl sz (es.take n) (some (es.drop n))) :: os) := by
  refine ⟨?_, hr⟩
  unfold lendA; dsimp only; rw [hg]
  exact ⟨rfl, rfl, hn, h8, rfl, .inr ⟨⟨by rw [hc], hlt⟩, rfl⟩⟩
theorem lend_c {y z : CV} {xs : List AV} {os : List OV} (hz : z = normC y) (hr : lendL m xs os) : lendL m (.c y :: xs) (.c z :: os) := ⟨.inr hz, hr⟩
end
section
variable {P : Program} {O : Ops} {B : Nat} {T : Tab} {G : Glob} (hO : O = std B T G (Den P G))
include hO
theorem call_h (mds : List Mode) {os0 : List OV} {Q0 : OV → List OV → Prop} {f : FuncId} (hd : Den P G f os0 Q0) {site : Nat} {m : Mem} {args : List AV} {K : KK}
    (hh : ∀ (os : List OV) (Q : OV → List OV → Prop), os = os0 → Q = Q0 → argsO O m mds args fun os' m => os' = os ∧ ∀ r bs, Q r bs → backO site m mds args bs fun id m => K (unpack depth id m r).1 (unpack depth id m r).2.2) : O.call site m f args K :=
  call_of hO mds hd (hh _ _ rfl rfl)
/-- The rule of a call to which byte rows are lent. -/
theorem lend_h {os0 : List OV} {Q0 : OV → List OV → Prop} {f : FuncId} (hd : Den P G f os0 Q0) {site : Nat} {m : Mem} {args : List AV} {K : KK} (hl : lendL m args os0)
    (hh : ∀ r bs, Q0 r bs → safeO r = true ∧ K (unpack depth site m r).1 (unpack depth site m r).2.2) : O.call site m f args K := by
  subst hO
  exact .inr ⟨os0, hl, Q0, hd, hh⟩
theorem den_h {A : Nat → TI} (hA : A = fun t => T.at t) (hm : P.follows .mixedOrders = true) (hT : TabOk P T) {f : FuncId} {fn : Func} {body : Code} (hf : P.funcs[f]? = some fn) (hb : fn.body = some body) (hname : (fn.name == "runtime.NumGoroutine") = false)
    {os : List OV} {Q : OV → List OV → Prop} (hlen : Nat.ble os.length fn.ntmps = true) (hB : (unpackL (unpack depth) 0 ⟨[], 0⟩ os).2.2.clk = B) {sh : Bool} (hk : ∀ Q', Q' = Q → FnO O A G fn body os Q' sh) : Den P G f os Q :=
  den_of' hO hA hm hT hf hb hname hlen hB (hk Q rfl)
end
end Go.Proofs.Ythncmjlcmlmnmaa.V

namespace Go.Proofs.Ythncmjlcmlmnmaa.V
open Go
/-- All cells that there are. -/
def allS (w : World) : Area := fun b _ => b < w.heap.size
theorem calls_of_den {P : Program} {G : Glob} {f : FuncId} {os : List OV} {Q : OV → List OV → Prop} (hd : Den P G f os Q) (hQ : ∀ r bs, Q r bs → r = .c (.v (.bool true))) (hG : ∀ g, G g = none)
    {w : World} {us : List Value} {F : Area} (ho : OwnL (allS w) w F os us) (hF : ∀ b o, ¬ F b o) :
    Calls P f us.toArray w fun e w' => e = .returned (.bool true) ∧ Ext (fun _ _ => False) w w' := by
  refine Calls.mono (hd.2 (allS w) F w us (fun _ _ h => h) (fun b o h => absurd h (hF b o)) (fun g cs h => by rw [hG] at h; simp at h) ho) ?_
  rintro e w' ⟨v, r, bs, S', Fr, Fb, rfl, hq, hr, hb, hend⟩
  have := hQ r bs hq
  subst this
  cases hr with | c _ _ hr =>
  cases hr
  have hext := hend.ext
  exact ⟨rfl, ⟨hext.os, hext.tape, hext.output, hext.size, fun b o hb _ => hext.cell b o hb (hF b o), hext.shape, hext.frz, fun b hb _ => hext.obj b hb (hF b)⟩⟩
theorem Ext.kept {w w' : World} (h : Ext (fun _ _ => False) w w') (may : MemPlace → Prop) : w.keptBut w' may := by
  refine ⟨h.os, h.output, fun i hi => ?_⟩
  rw [h.obj i hi (fun _ q => q)]
  cases w.heap[i]? with
  | none => trivial
  | some ob => cases ob <;> simp
end Go.Proofs.Ythncmjlcmlmnmaa.V

namespace Go.Proofs.Ythncmjlcmlmnmaa
open Go V
set_option maxRecDepth 10000
/-- A number's bytes. -/
def varB (v : Nat) : List UInt8 := if v < 128 then [UInt8.ofNat v] else UInt8.ofNat (v % 128 + 128) :: varB (v / 128)
termination_by v
/-- What begins bytes: a number and how many bytes it has, or what is wrong; i bytes of it stand before. -/
def tv : Nat → List UInt8 → Except Int (Nat × Nat)
  | _, [] => .error 2
  | i, c :: cs =>
    if i = 9 ∧ 1 < c.toNat then .error 4
    else if 128 ≤ c.toNat then (match tv (i + 1) cs with | .ok (v, k) => .ok (c.toNat - 128 + 128 * v, k + 1) | .error e => .error e)
    else if c.toNat = 0 ∧ 0 < i then .error 5
    else .ok (c.toNat, 1)
theorem varB_len (v : Nat) : 1 ≤ (varB v).length := by unfold varB; split <;> simp
theorem varB_lt {v : Nat} (h : v < 128) : varB v = [UInt8.ofNat v] := by unfold varB; rw [if_pos h]
theorem varB_ge {v : Nat} (h : 128 ≤ v) : varB v = UInt8.ofNat (v % 128 + 128) :: varB (v / 128) := by rw [varB]; rw [if_neg (by omega)]
theorem tv_pos : ∀ (bs : List UInt8) (i v k : Nat), tv i bs = .ok (v, k) → 1 ≤ k ∧ k ≤ bs.length
  | [], _, _, _, h => by simp [tv] at h
  | c :: cs, i, v, k, h => by
    simp only [tv] at h
    split at h
    · cases h
    · split at h
      · split at h
        · rename_i v' k' h'
          injection h with h; injection h with h1 h2; subst h2
          have := tv_pos cs (i + 1) v' k' h'
          simp; omega
        · cases h
      · split at h
        · cases h
        · injection h with h; injection h with h1 h2; subst h2; simp
theorem tv_err : ∀ (bs : List UInt8) (i : Nat) (e : Int), tv i bs = .error e → e = 2 ∨ e = 4 ∨ e = 5
  | [], _, _, h => by simp [tv] at h; exact .inl h.symm
  | c :: cs, i, e, h => by
    simp only [tv] at h
    split at h
    · injection h with h; exact .inr (.inl h.symm)
    · split at h
      · split at h
        · cases h
        · rename_i e' h'; injection h with h; subst h; exact tv_err cs _ _ h'
      · split at h
        · injection h with h; exact .inr (.inr h.symm)
        · cases h
theorem tv_lt : ∀ (bs : List UInt8) (i v k : Nat), i ≤ 9 → tv i bs = .ok (v, k) → v * 2 ^ (7 * i) < 2 ^ 64
  | [], _, _, _, _, h => by simp [tv] at h
  | c :: cs, i, v, k, hi, h => by
    simp only [tv] at h
    have hc := c.toNat_lt
    split at h
    · cases h
    · rename_i h9
      split at h
      · rename_i hc2
        split at h
        · rename_i v' k' h'
          injection h with h; injection h with h1 h2; subst h1
          have hi' : i ≠ 9 := fun q => h9 ⟨q, by omega⟩
          have := tv_lt cs (i + 1) v' k' (by omega) h'
          have hp : 2 ^ (7 * (i + 1)) = 128 * 2 ^ (7 * i) := by rw [show 7 * (i + 1) = 7 * i + 7 by omega, Nat.pow_add]; omega
          rw [hp] at this
          have h64 : 2 ^ 64 = 2 ^ (64 - 7 * i) * 2 ^ (7 * i) := by rw [← Nat.pow_add]; congr 1; omega
          have hq : 2 ^ (64 - 7 * i) = 128 * 2 ^ (57 - 7 * i) := by rw [show 64 - 7 * i = 7 + (57 - 7 * i) by omega, Nat.pow_add]
          have hpos : 0 < 2 ^ (7 * i) := Nat.two_pow_pos _
          have hv : v' < 2 ^ (57 - 7 * i) := by
            rw [h64, hq] at this
            have h2 : (128 * v') * 2 ^ (7 * i) < (128 * 2 ^ (57 - 7 * i)) * 2 ^ (7 * i) := by
              calc (128 * v') * 2 ^ (7 * i) = v' * (128 * 2 ^ (7 * i)) := by rw [Nat.mul_comm 128 v', Nat.mul_assoc]
                _ < _ := this
            have := Nat.lt_of_mul_lt_mul_right h2
            omega
          rw [h64]
          apply Nat.mul_lt_mul_of_pos_right _ hpos
          rw [hq]; omega
        · cases h
      · rename_i hc2
        split at h
        · cases h
        · injection h with h; injection h with h1 h2; subst h1
          have h64 : 2 ^ 64 = 2 ^ (64 - 7 * i) * 2 ^ (7 * i) := by rw [← Nat.pow_add]; congr 1; omega
          rw [h64]
          apply Nat.mul_lt_mul_of_pos_right _ (Nat.two_pow_pos _)
          by_cases h8 : i = 9
          · subst h8
            have : c.toNat ≤ 1 := by rcases Nat.lt_or_ge 1 c.toNat with q | q; exact absurd ⟨rfl, q⟩ h9; exact q
            show c.toNat < 2 ^ (64 - 63)
            omega
          · have : 2 ^ 7 ≤ 2 ^ (64 - 7 * i) := Nat.pow_le_pow_right (by omega) (by omega)
            omega
theorem tv_u64 {bs : List UInt8} {v k : Nat} (h : tv 0 bs = .ok (v, k)) : v < 2 ^ 64 := by have := tv_lt bs 0 v k (by omega) h; simpa using this
/-- What is read is what is written. -/
theorem tv_only : ∀ (bs : List UInt8) (i v k : Nat), tv i bs = .ok (v, k) → bs.take k = varB v ∧ (0 < i → 0 < v)
  | [], _, _, _, h => by simp [tv] at h
  | c :: cs, i, v, k, h => by
    simp only [tv] at h
    have hc := c.toNat_lt
    split at h
    · cases h
    · split at h
      · rename_i hc2
        split at h
        · rename_i v' k' h'
          injection h with h; injection h with h1 h2; subst h1; subst h2
          obtain ⟨h3, h4⟩ := tv_only cs (i + 1) v' k' h'
          have h5 := h4 (by omega)
          refine ⟨?_, fun _ => by omega⟩
          rw [varB_ge (by omega), List.take_succ_cons, h3]
          congr 1
          · rw [show (c.toNat - 128 + 128 * v') % 128 + 128 = c.toNat by omega]; exact UInt8.ofNat_toNat.symm
          · congr 1; omega
        · cases h
      · split at h
        · cases h
        · rename_i hc2 hz
          injection h with h; injection h with h1 h2; subst h1; subst h2
          refine ⟨?_, fun hi => Nat.pos_of_ne_zero fun q => hz ⟨q, hi⟩⟩
          rw [varB_lt (by omega)]
          simp
end Go.Proofs.Ythncmjlcmlmnmaa

namespace Go.Proofs.Ythncmjlcmlmnmaa
open Go V
def T : Tab := [
  TI.no,
  TI.no,
  ⟨false, 1, [.v (.int .i64 0)], [], (.int .i64), []⟩,
  ⟨false, 1, [.v (.int .i64 0)], [], (.int .i64), []⟩,
  ⟨false, 1, [.v (.bool false)], [], .bool, []⟩,
  ⟨false, 1, [.v (.int .u8 0)], [], (.int .u8), []⟩,
  ⟨false, 1, [.v (.int .u8 0)], [], (.int .u8), []⟩,
  ⟨true, 4, [.v (.int .i64 0), .v (.int .i64 0), .v (.bool false), .v (.int .u8 0)], [], (.st [(0, 1, false), (1, 1, false), (2, 1, false), (3, 1, false)]), []⟩,
  ⟨true, 4, [.v (.int .i64 0), .v (.int .i64 0), .v (.bool false), .v (.int .u8 0)], [], (.st [(0, 1, false), (1, 1, false), (2, 1, false), (3, 1, false)]), []⟩,
  ⟨false, 1, [.v (.string ⟨#[]⟩)], [], .str, []⟩,
  ⟨false, 1, [.v (.string ⟨#[]⟩)], [], .str, []⟩,
  ⟨false, 1, [.v (.string ⟨#[]⟩)], [], .str, []⟩,
  ⟨false, 1, [.v (.int .u64 0)], [], (.int .u64), []⟩,
  ⟨true, 2, [.v (.string ⟨#[]⟩), .v (.int .u64 0)], [], (.st [(0, 1, false), (1, 1, false)]), []⟩,
  ⟨true, 2, [.v (.string ⟨#[]⟩), .v (.int .u64 0)], [], (.st [(0, 1, false), (1, 1, false)]), []⟩,
  ⟨false, 1, [.v (.pointer none)], [], (.pt 4 true), []⟩,
  ⟨false, 1, [.v (.pointer none)], [], .sc, []⟩,
  ⟨false, 1, [.v (.pointer none)], [], (.pt 11 true), []⟩,
  ⟨true, 1, [.v (.pointer none)], [], (.st [(0, 1, false)]), []⟩,
  ⟨true, 1, [.v (.pointer none)], [], (.st [(0, 1, false)]), []⟩,
  TI.no,
  ⟨false, 1, [.v (.int .i32 0)], [], (.int .i32), []⟩,
  ⟨false, 1, [.sl 1 [] (some [])], [.sl 1 [] (some [])], (.sl 1 false 24 false), []⟩,
  TI.no,
  ⟨false, 1, [.sl 1 [] (some [])], [.v (.int .u8 0)], (.sl 1 false 1 true), []⟩,
  ⟨false, 1, [.sl 5 [] (some [])], [.v (.int .i64 0), .v (.int .i64 0), .v (.string ⟨#[]⟩), .sl 3 [] (some []), .sl 5 [] (some [])], (.sl 5 true 80 false), []⟩,
  ⟨false, 1, [.sl 3 [] (some [])], [.v (.int .i64 0), .v (.int .i64 0), .sl 3 [] (some [])], (.sl 3 true 40 false), []⟩,
  ⟨true, 5, [.v (.int .i64 0), .v (.int .i64 0), .v (.string ⟨#[]⟩), .sl 3 [] (some []), .sl 5 [] (some [])], [], (.st [(0, 1, false), (1, 1, false), (2, 1, false), (3, 1, false), (4, 1, false)]), []⟩,
  ⟨true, 5, [.v (.int .i64 0), .v (.int .i64 0), .v (.string ⟨#[]⟩), .sl 3 [] (some []), .sl 5 [] (some [])], [], (.st [(0, 1, false), (1, 1, false), (2, 1, false), (3, 1, false), (4, 1, false)]), []⟩,
  ⟨false, 1, [.v (.pointer none)], [], (.pt 2 true), []⟩,
  TI.no,
  TI.no,
  TI.no,
  TI.no,
  ⟨false, 1, [.v (.int .i64 0)], [], (.int .i64), []⟩,
  TI.no,
  TI.no,
  TI.no,
  TI.no,
  ⟨true, 3, [.v (.int .i64 0), .v (.int .i64 0), .sl 3 [] (some [])], [], (.st [(0, 1, false), (1, 1, false), (2, 1, false)]), []⟩,
  ⟨true, 3, [.v (.int .i64 0), .v (.int .i64 0), .sl 3 [] (some [])], [], (.st [(0, 1, false), (1, 1, false), (2, 1, false)]), []⟩,
  TI.no,
  TI.no,
  TI.no,
  TI.no,
  TI.no,
  ⟨false, 1, [.sl 6 [] (some [])], [.v (.string ⟨#[]⟩), .v (.int .i64 0), .v (.int .i64 0), .v (.string ⟨#[]⟩), .sl 3 [] (some []), .sl 5 [] (some [])], (.sl 6 true 96 false), []⟩,
  ⟨true, 16, [.v (.int .i64 0), .v (.int .i64 0), .v (.int .i64 0), .v (.string ⟨#[]⟩), .v (.string ⟨#[]⟩), .v (.int .i64 0), .v (.int .i64 0), .v (.string ⟨#[]⟩), .sl 3 [] (some []), .sl 5 [] (some []), .v (.int .i64 0), .v (.int .i64 0), .v (.string ⟨#[]⟩), .sl 3 [] (some []), .sl 5 [] (some []), .sl 6 [] (some [])], [], (.st [(0, 1, false), (1, 1, false), (2, 1, false), (3, 1, false), (4, 1, false), (5, 5, true), (10, 5, true), (15, 1, false)]), []⟩,
  ⟨true, 16, [.v (.int .i64 0), .v (.int .i64 0), .v (.int .i64 0), .v (.string ⟨#[]⟩), .v (.string ⟨#[]⟩), .v (.int .i64 0), .v (.int .i64 0), .v (.string ⟨#[]⟩), .sl 3 [] (some []), .sl 5 [] (some []), .v (.int .i64 0), .v (.int .i64 0), .v (.string ⟨#[]⟩), .sl 3 [] (some []), .sl 5 [] (some []), .sl 6 [] (some [])], [], (.st [(0, 1, false), (1, 1, false), (2, 1, false), (3, 1, false), (4, 1, false), (5, 5, true), (10, 5, true), (15, 1, false)]), []⟩,
  TI.no,
  TI.no,
  TI.no,
  TI.no,
  TI.no,
  TI.no,
  TI.no,
  TI.no,
  TI.no,
  TI.no,
  TI.no,
  TI.no,
  TI.no,
  TI.no,
  TI.no,
  TI.no,
  ⟨false, 1, [.v (.int .u64 0)], [], (.int .u64), []⟩,
  ⟨true, 2, [.v (.int .u64 0), .v (.int .u64 0)], [], (.st [(0, 1, false), (1, 1, false)]), []⟩,
  ⟨true, 2, [.v (.int .u64 0), .v (.int .u64 0)], [], (.st [(0, 1, false), (1, 1, false)]), [1, 1]⟩,
  ⟨false, 1, [.sl 1 [] (some [])], [.v (.string ⟨#[]⟩)], (.sl 1 false 16 false), []⟩,
  ⟨true, 13, [.v (.int .i64 0), .v (.int .u64 0), .v (.int .u64 0), .v (.int .i64 0), .v (.int .i64 0), .v (.bool false), .v (.int .i64 0), .v (.int .i64 0), .v (.string ⟨#[]⟩), .sl 3 [] (some []), .sl 5 [] (some []), .v (.int .i64 0), .sl 1 [] (some [])], [], (.st [(0, 1, false), (1, 2, true), (3, 1, false), (4, 1, false), (5, 1, false), (6, 5, true), (11, 1, false), (12, 1, false)]), []⟩,
  ⟨true, 13, [.v (.int .i64 0), .v (.int .u64 0), .v (.int .u64 0), .v (.int .i64 0), .v (.int .i64 0), .v (.bool false), .v (.int .i64 0), .v (.int .i64 0), .v (.string ⟨#[]⟩), .sl 3 [] (some []), .sl 5 [] (some []), .v (.int .i64 0), .sl 1 [] (some [])], [], (.st [(0, 1, false), (1, 2, true), (3, 1, false), (4, 1, false), (5, 1, false), (6, 5, true), (11, 1, false), (12, 1, false)]), []⟩,
  TI.no,
  TI.no,
  TI.no,
  TI.no,
  TI.no,
  TI.no,
  TI.no,
  TI.no,
  TI.no,
  TI.no,
  TI.no,
  ⟨true, 2, [.sl 1 [] (some []), .v (.int .i64 0)], [], (.st [(0, 1, false), (1, 1, false)]), []⟩,
  ⟨true, 2, [.sl 1 [] (some []), .v (.int .i64 0)], [], (.st [(0, 1, false), (1, 1, false)]), []⟩,
  TI.no,
  TI.no,
  TI.no,
  TI.no,
  TI.no,
  TI.no,
  TI.no,
  ⟨false, 1, [.v (.pointer none)], [], (.pt 1 true), []⟩,
  TI.no,
  TI.no,
  ⟨true, 1, [.sl 1 [] (some [])], [], (.st [(0, 1, false)]), []⟩,
  ⟨true, 1, [.sl 1 [] (some [])], [], (.st [(0, 1, false)]), []⟩,
  ⟨false, 1, [.v (.pointer none)], [], (.pt 2 true), []⟩,
  ⟨true, 2, [.sl 1 [] (some []), .v (.int .i64 0)], [], (.st [(0, 1, false), (1, 1, false)]), []⟩,
  ⟨true, 2, [.sl 1 [] (some []), .v (.int .i64 0)], [], (.st [(0, 1, false), (1, 1, false)]), []⟩,
  TI.no,
  TI.no,
  TI.no,
  ⟨true, 6, [.v (.string ⟨#[]⟩), .v (.int .i64 0), .v (.int .i64 0), .v (.string ⟨#[]⟩), .sl 3 [] (some []), .sl 5 [] (some [])], [], (.st [(0, 1, false), (1, 5, true)]), []⟩,
  ⟨true, 6, [.v (.string ⟨#[]⟩), .v (.int .i64 0), .v (.int .i64 0), .v (.string ⟨#[]⟩), .sl 3 [] (some []), .sl 5 [] (some [])], [], (.st [(0, 1, false), (1, 5, true)]), []⟩,
  TI.no,
  TI.no,
  TI.no,
  TI.no,
  ⟨false, 1, [.v (.pointer none)], [], (.pt 3 true), []⟩,
  ⟨true, 3, [.sl 1 [] (some []), .v (.int .i64 0), .v (.int .i64 0)], [], (.st [(0, 1, false), (1, 1, false), (2, 1, false)]), []⟩,
  ⟨true, 3, [.sl 1 [] (some []), .v (.int .i64 0), .v (.int .i64 0)], [], (.st [(0, 1, false), (1, 1, false), (2, 1, false)]), []⟩,
  TI.no,
  TI.no,
  TI.no,
  TI.no,
  TI.no,
  TI.no,
  TI.no,
  TI.no,
  TI.no,
  ⟨false, 1, [.v (.pointer none)], [], (.pt 2 true), []⟩,
  ⟨true, 2, [.sl 1 [] (some []), .v (.int .i64 0)], [], (.st [(0, 2, true)]), []⟩,
  ⟨true, 2, [.sl 1 [] (some []), .v (.int .i64 0)], [], (.st [(0, 2, true)]), []⟩,
  TI.no,
  TI.no,
  TI.no,
  TI.no,
  TI.no,
  TI.no,
  TI.no,
  TI.no,
  TI.no,
  TI.no,
  ⟨false, 1, [.v (.pointer none)], [], (.pt 1 false), []⟩,
  TI.no,
  TI.no,
  TI.no,
  TI.no,
  ⟨false, 1, [.sl 1 [] (some [])], [.v (.int .i64 0)], (.sl 1 false 8 false), []⟩,
  TI.no,
  ⟨false, 1, [.v (.int .u64 0)], [], (.int .u64), []⟩,
  TI.no,
  TI.no,
  TI.no,
  TI.no,
  TI.no,
  TI.no,
  TI.no,
  TI.no,
  TI.no,
  TI.no,
  TI.no,
  TI.no,
  TI.no,
  ⟨false, 1, [.v (.pointer none)], [], (.pt 6 true), []⟩,
  ⟨true, 6, [.v (.string ⟨#[]⟩), .v (.int .i64 0), .v (.int .i64 0), .v (.int .i64 0), .v (.int .i64 0), .v (.int .i64 0)], [], (.st [(0, 1, false), (1, 1, false), (2, 1, false), (3, 1, false), (4, 1, false), (5, 1, false)]), []⟩,
  ⟨true, 6, [.v (.string ⟨#[]⟩), .v (.int .i64 0), .v (.int .i64 0), .v (.int .i64 0), .v (.int .i64 0), .v (.int .i64 0)], [], (.st [(0, 1, false), (1, 1, false), (2, 1, false), (3, 1, false), (4, 1, false), (5, 1, false)]), [3, 1, 1, 1, 1, 1]⟩,
  TI.no,
  TI.no,
  TI.no,
  TI.no,
  TI.no,
  ⟨true, 4, [.v (.pointer none), .v (.pointer none), .v (.pointer none), .v (.string ⟨#[]⟩)], [], (.st [(0, 1, false), (1, 1, false), (2, 1, false), (3, 1, false)]), []⟩,
  ⟨true, 4, [.v (.pointer none), .v (.pointer none), .v (.pointer none), .v (.string ⟨#[]⟩)], [], (.st [(0, 1, false), (1, 1, false), (2, 1, false), (3, 1, false)]), []⟩,
  TI.no,
  TI.no,
  TI.no,
  ⟨false, 1, [.v (.int .u32 0)], [], (.int .u32), []⟩,
  ⟨false, 1, [.v (.int .u8 0)], [], (.int .u8), []⟩,
  ⟨false, 1, [.v (.int .u8 0)], [], (.int .u8), []⟩,
  TI.no,
  ⟨false, 1, [.v (.pointer none)], [], (.pt 1 false), []⟩,
  ⟨false, 1, [.v (.int .i32 0)], [], (.int .i32), []⟩,
  ⟨false, 1, [.v (.int .i32 0)], [], (.int .i32), []⟩,
  ⟨true, 11, [.v (.int .u64 0), .v (.int .u64 0), .v (.int .u32 0), .v (.int .u8 0), .v (.int .u8 0), .v (.int .u8 0), .v (.int .u8 0), .v .nilFunc, .v (.pointer none), .v (.int .i32 0), .v (.int .i32 0)], [], (.st [(0, 1, false), (1, 1, false), (2, 1, false), (3, 1, false), (4, 1, false), (5, 1, false), (6, 1, false), (7, 1, false), (8, 1, false), (9, 1, false), (10, 1, false)]), []⟩,
  ⟨true, 11, [.v (.int .u64 0), .v (.int .u64 0), .v (.int .u32 0), .v (.int .u8 0), .v (.int .u8 0), .v (.int .u8 0), .v (.int .u8 0), .v .nilFunc, .v (.pointer none), .v (.int .i32 0), .v (.int .i32 0)], [], (.st [(0, 1, false), (1, 1, false), (2, 1, false), (3, 1, false), (4, 1, false), (5, 1, false), (6, 1, false), (7, 1, false), (8, 1, false), (9, 1, false), (10, 1, false)]), []⟩,
  ⟨false, 1, [.v (.pointer none)], [], .sc, []⟩
]
def tiOf (t : Nat) : TI := T.at t
theorem tiA : tiOf = fun t => T.at t := rfl
theorem tabOk : TabOk Try.prog T := TabOk.of_check (by kernel_rfl)
theorem mixed : Try.prog.follows .mixedOrders = true := by kernel_rfl
end Go.Proofs.Ythncmjlcmlmnmaa

namespace Go.Proofs.Ythncmjlcmlmnmaa
open Go V
def G0 : Glob := fun _ => none
end Go.Proofs.Ythncmjlcmlmnmaa

namespace Go.Proofs.Ythncmjlcmlmnmaa
open Go V
def rw_i64_i64_l3 {ρ : Type} (fail : ρ) (r : List CV) (k : Int → Int → EL → ρ) : ρ := match r with
  | [.v (.int .i64 c0), .v (.int .i64 c1), .sl 3 c2 none] => k c0 c1 c2
  | _ => fail
theorem rw_i64_i64_l3_inv {r : List CV} {k : Int → Int → EL → Prop} (h : rw_i64_i64_l3 False r k) : ∃ (c0 : Int) (c1 : Int) (c2 : EL), r = [.v (.int .i64 c0), .v (.int .i64 c1), .sl 3 c2 none] ∧ k c0 c1 c2 := by
  unfold rw_i64_i64_l3 at h; split at h
  · exact ⟨_, _, _, rfl, h⟩
  · exact h.elim
def rw_i64_i64_s_l3_l5 {ρ : Type} (fail : ρ) (r : List CV) (k : Int → Int → ByteArray → EL → EL → ρ) : ρ := match r with
  | [.v (.int .i64 c0), .v (.int .i64 c1), .v (.string c2), .sl 3 c3 none, .sl 5 c4 none] => k c0 c1 c2 c3 c4
  | _ => fail
theorem rw_i64_i64_s_l3_l5_inv {r : List CV} {k : Int → Int → ByteArray → EL → EL → Prop} (h : rw_i64_i64_s_l3_l5 False r k) : ∃ (c0 : Int) (c1 : Int) (c2 : ByteArray) (c3 : EL) (c4 : EL), r = [.v (.int .i64 c0), .v (.int .i64 c1), .v (.string c2), .sl 3 c3 none, .sl 5 c4 none] ∧ k c0 c1 c2 c3 c4 := by
  unfold rw_i64_i64_s_l3_l5 at h; split at h
  · exact ⟨_, _, _, _, _, rfl, h⟩
  · exact h.elim
def rw_i64 {ρ : Type} (fail : ρ) (r : List CV) (k : Int → ρ) : ρ := match r with
  | [.v (.int .i64 c0)] => k c0
  | _ => fail
theorem rw_i64_inv {r : List CV} {k : Int → Prop} (h : rw_i64 False r k) : ∃ (c0 : Int), r = [.v (.int .i64 c0)] ∧ k c0 := by
  unfold rw_i64 at h; split at h
  · exact ⟨_, rfl, h⟩
  · exact h.elim
def rw_u8 {ρ : Type} (fail : ρ) (r : List CV) (k : Int → ρ) : ρ := match r with
  | [.v (.int .u8 c0)] => k c0
  | _ => fail
theorem rw_u8_inv {r : List CV} {k : Int → Prop} (h : rw_u8 False r k) : ∃ (c0 : Int), r = [.v (.int .u8 c0)] ∧ k c0 := by
  unfold rw_u8 at h; split at h
  · exact ⟨_, rfl, h⟩
  · exact h.elim
def rw_s_i64_i64_s_l3_l5 {ρ : Type} (fail : ρ) (r : List CV) (k : ByteArray → Int → Int → ByteArray → EL → EL → ρ) : ρ := match r with
  | [.v (.string c0), .v (.int .i64 c1), .v (.int .i64 c2), .v (.string c3), .sl 3 c4 none, .sl 5 c5 none] => k c0 c1 c2 c3 c4 c5
  | _ => fail
theorem rw_s_i64_i64_s_l3_l5_inv {r : List CV} {k : ByteArray → Int → Int → ByteArray → EL → EL → Prop} (h : rw_s_i64_i64_s_l3_l5 False r k) : ∃ (c0 : ByteArray) (c1 : Int) (c2 : Int) (c3 : ByteArray) (c4 : EL) (c5 : EL), r = [.v (.string c0), .v (.int .i64 c1), .v (.int .i64 c2), .v (.string c3), .sl 3 c4 none, .sl 5 c5 none] ∧ k c0 c1 c2 c3 c4 c5 := by
  unfold rw_s_i64_i64_s_l3_l5 at h; split at h
  · exact ⟨_, _, _, _, _, _, rfl, h⟩
  · exact h.elim
end Go.Proofs.Ythncmjlcmlmnmaa

namespace Go.Proofs.Ythncmjlcmlmnmaa
open Go V
set_option maxRecDepth 100000
set_option maxHeartbeats 4000000
def p139_1 {ρ : Type} (fail : ρ) (fu : Nat)  (K0 : Int → Int → Int → ρ)  (z3 : Int) (j6 : Int) (j7 : Bool) : ρ :=
  bif j7 then (K0 0 0 5) else (K0 j6 (binStd .add .i64 z3 1) 0)
def p139_2 {ρ : Type} (fail : ρ) (fu : Nat)  (K0 : Int → Int → Int → ρ) (rec1 : Int → Int → Int → ρ) (z1 : Int) (z2 : Int) (z3 : Int) (c4 : Int) (j5 : Bool) : ρ :=
  bif j5 then (K0 0 0 4) else (gd ((0 : Int) ≤ (IntKind.u64.wrap (binStd .mul .i64 7 z3))) fail (bif (cmpStd .geq c4 128) then (rec1 (binStd .or .u64 z1 (binStd .shl .u64 (IntKind.u64.wrap (binStd .andNot .u8 c4 128)) (IntKind.u64.wrap (binStd .mul .i64 7 z3)))) z2 (binStd .add .i64 z3 1)) else (bif (cmpStd .eql c4 0) then (p139_1 fail fu  K0 z3 (binStd .or .u64 z1 (binStd .shl .u64 (IntKind.u64.wrap (binStd .andNot .u8 c4 128)) (IntKind.u64.wrap (binStd .mul .i64 7 z3)))) (cmpStd .gtr z3 0)) else (p139_1 fail fu  K0 z3 (binStd .or .u64 z1 (binStd .shl .u64 (IntKind.u64.wrap (binStd .andNot .u8 c4 128)) (IntKind.u64.wrap (binStd .mul .i64 7 z3)))) false))))
def p139_3 {ρ : Type} (fail : ρ) (fu : Nat)  (K0 : Int → Int → Int → ρ) (rec1 : Int → Int → Int → ρ) (x0 : EL) (z1 : Int) (z2 : Int) (z3 : Int) : ρ :=
  bif (cmpStd .lss z3 z2) then (gd ((0 : Int) ≤ z3) fail (gd ((z3 : Int) < (x0.length : Nat)) fail (rw_u8 fail (List.getD x0 ((z3 : Int).toNat) []) (fun c4 => bif (cmpStd .eql z3 9) then (p139_2 fail fu  K0 rec1 z1 z2 z3 c4 (cmpStd .gtr c4 1)) else (p139_2 fail fu  K0 rec1 z1 z2 z3 c4 false))))) else (K0 0 0 2)
def p139_3L {ρ : Type} (fail : ρ) (fu : Nat)  (K0 : Int → Int → Int → ρ)  (x0 : EL) : Nat → Int → Int → Int → ρ
  | 0, _, _, _ => fail
  | n + 1, z1, z2, z3 => p139_3 fail fu  K0 (p139_3L fail fu  K0  x0 n) x0 z1 z2 z3
/-- octet.TakeVar -/
def p139 {ρ : Type} (fail : ρ) (fu : Nat)  (K0 : Int → Int → Int → ρ) (x0 : EL) : ρ :=
  p139_3L fail fu  K0 x0 fu 0 ((x0.length : Nat) : Int) 0
theorem d_p139 (fu : Nat)  {K0 : Int → Int → Int → Prop} (L : EL → Nat) (hN : L = List.length) {x0 : EL} (h : p139 False fu K0 x0) : Den Try.prog G0 139 [.c (.sl 1 x0 none)] (fun r bs => (∃ (y0 : Int) (y1 : Int) (y2 : Int) (o0 : OV), (r = .tup [.c (.v (.int .u64 y0)), .c (.v (.int .i64 y1)), .c (.v (.int .i64 y2))] ∧ bs = [o0]) ∧ K0 y0 y1 y2)) := by
  obtain ⟨O, hO⟩ : ∃ O, O = std 0 T G0 (Den Try.prog G0) := ⟨_, rfl⟩
  have hLO : L = O.len := by rw [hN, hO]; rfl
  subst hLO
  refine den_h hO tiA mixed tabOk (fn := Try.f139) (sh := true) (by kernel_rfl) rfl rfl rfl rfl ?_
  intro Q hQ
  unfold p139 at h
  conv => cbv
  refine loop_of hO tiA [2, 7, 8, 9] [] [] (fun (n : Nat) tm m => ∃ (z1 : Int) (z2 : Int) (z3 : Int), ((tm = frame 0 43 [(2, .c (.v (.int .u64 z1))), (7, .c (.sl 1 x0 none)), (8, .c (.v (.int .i64 z2))), (9, .c (.v (.int .i64 z3)))] ∧ m = ⟨[], 1⟩)) ∧ p139_3L False fu  K0 x0 n z1 z2 z3) (fun n => n) fu ⟨0, ((x0.length : Nat) : Int), 0, ⟨(by (conv => lhs; cbv) <;> (subst hO; rfl)), (by (conv => lhs; cbv) <;> (subst hO; rfl))⟩, h⟩ ?_
  rintro n1 tm m L ⟨z1, z2, z3, hs, h⟩ hLn1
  cases n1 with
  | zero => rw [p139_3L] at h; exact h.elim
  | succ n1 =>
    rw [p139_3L] at h
    unfold p139_3 at h
    obtain ⟨rfl, rfl⟩ := hs
    conv => cbv
    refine br_h hO h (by subst hO; rfl) (fun hc1 h => ?_) (fun hc1 h => ?_)
    · conv => cbv
      refine join_all hO ?_
      conv => cbv
      refine and_h h (fun g => (by subst hO; exact g)) (fun h => ?_)
      refine and_h h (fun g => (by subst hO; exact g)) (fun h => ?_)
      obtain ⟨c4, hr, h⟩ := rw_u8_inv h
      refine elem_of hO _ (by subst hO; exact hr) ?_
      clear hr
      conv => cbv
      refine reg_join hO tiA [2, 5, 6, 7, 8, 9, 19] [] [] (fun tm m => ∃ (j5 : Bool), ((tm = frame 0 43 [(2, .c (.v (.int .u64 z1))), (5, .c (.v (.int .i64 z3))), (6, .c (.v (.int .u8 c4))), (7, .c (.sl 1 x0 none)), (8, .c (.v (.int .i64 z2))), (9, .c (.v (.int .i64 z3))), (19, .c (.v (.bool j5)))] ∧ m = ⟨[], 1⟩)) ∧ p139_2 False fu  K0 (p139_3L False fu  K0  x0 n1) z1 z2 z3 c4 j5) (fun L hL_2 => ?_) ?_
      · conv => cbv
        refine br_h hO h (by subst hO; rfl) (fun hc6 h => ?_) (fun hc6 h => ?_)
        · conv => cbv
          refine br_t hO hc6 ?_
          conv => cbv
          refine br_t hO hc6 ?_
          conv => cbv
          exact hL_2 _ _ ⟨(cmpStd .gtr c4 1), ⟨(by (conv => lhs; cbv) <;> (subst hO; rfl)), (by (conv => lhs; cbv) <;> (subst hO; rfl))⟩, h⟩
        · conv => cbv
          refine br_f hO hc6 ?_
          conv => cbv
          refine br_f hO hc6 ?_
          conv => cbv
          exact hL_2 _ _ ⟨false, ⟨(by (conv => lhs; cbv) <;> (subst hO; rfl)), (by (conv => lhs; cbv) <;> (subst hO; rfl))⟩, h⟩
      · rintro tm m ⟨j5, hs, h⟩
        unfold p139_2 at h
        obtain ⟨rfl, rfl⟩ := hs
        conv => cbv
        refine br_h hO h (by subst hO; rfl) (fun hc2 h => ?_) (fun hc2 h => ?_)
        · conv => cbv
          rw [hQ]
          exact ⟨0, 0, 4, _, ⟨(by subst hO; rfl), (by subst hO; rfl)⟩, h⟩
        · conv => cbv
          refine join_all hO ?_
          conv => cbv
          refine and_h h (fun g => (by subst hO; exact g)) (fun h => ?_)
          refine br_h hO h (by subst hO; rfl) (fun hc3 h => ?_) (fun hc3 h => ?_)
          · conv => cbv
            refine join_all hO ?_
            conv => cbv
            exact hLn1 n1 _ _ (Nat.lt_succ_self n1) ⟨binStd .or .u64 z1 (binStd .shl .u64 (IntKind.u64.wrap (binStd .andNot .u8 c4 128)) (IntKind.u64.wrap (binStd .mul .i64 7 z3))), z2, binStd .add .i64 z3 1, ⟨(by (conv => lhs; cbv) <;> (subst hO; rfl)), (by (conv => lhs; cbv) <;> (subst hO; rfl))⟩, h⟩
          · conv => cbv
            refine reg_join hO tiA [2, 5, 35] [] [] (fun tm m => ∃ (j6 : Int) (j7 : Bool), ((tm = frame 0 43 [(2, .c (.v (.int .u64 j6))), (5, .c (.v (.int .i64 z3))), (35, .c (.v (.bool j7)))] ∧ m = ⟨[], 1⟩)) ∧ p139_1 False fu  K0 z3 j6 j7) (fun L hL_1 => ?_) ?_
            · conv => cbv
              refine br_h hO h (by subst hO; rfl) (fun hc5 h => ?_) (fun hc5 h => ?_)
              · conv => cbv
                refine br_t hO hc5 ?_
                conv => cbv
                refine br_t hO hc5 ?_
                conv => cbv
                exact hL_1 _ _ ⟨binStd .or .u64 z1 (binStd .shl .u64 (IntKind.u64.wrap (binStd .andNot .u8 c4 128)) (IntKind.u64.wrap (binStd .mul .i64 7 z3))), (cmpStd .gtr z3 0), ⟨(by (conv => lhs; cbv) <;> (subst hO; rfl)), (by (conv => lhs; cbv) <;> (subst hO; rfl))⟩, h⟩
              · conv => cbv
                refine br_f hO hc5 ?_
                conv => cbv
                refine br_f hO hc5 ?_
                conv => cbv
                exact hL_1 _ _ ⟨binStd .or .u64 z1 (binStd .shl .u64 (IntKind.u64.wrap (binStd .andNot .u8 c4 128)) (IntKind.u64.wrap (binStd .mul .i64 7 z3))), false, ⟨(by (conv => lhs; cbv) <;> (subst hO; rfl)), (by (conv => lhs; cbv) <;> (subst hO; rfl))⟩, h⟩
            · rintro tm m ⟨j6, j7, hs, h⟩
              unfold p139_1 at h
              obtain ⟨rfl, rfl⟩ := hs
              conv => cbv
              refine br_h hO h (by subst hO; rfl) (fun hc4 h => ?_) (fun hc4 h => ?_)
              · conv => cbv
                rw [hQ]
                exact ⟨0, 0, 5, _, ⟨(by subst hO; rfl), (by subst hO; rfl)⟩, h⟩
              · conv => cbv
                rw [hQ]
                exact ⟨j6, binStd .add .i64 z3 1, 0, _, ⟨(by subst hO; rfl), (by subst hO; rfl)⟩, h⟩
    · conv => cbv
      rw [hQ]
      exact ⟨0, 0, 2, _, ⟨(by subst hO; rfl), (by subst hO; rfl)⟩, h⟩
end Go.Proofs.Ythncmjlcmlmnmaa

namespace Go.Proofs.Ythncmjlcmlmnmaa
open Go V
set_option maxRecDepth 100000
set_option maxHeartbeats 4000000
def p94_1 {ρ : Type} (fail : ρ) (fu : Nat)  (K0 : EL → Int → ρ)  (x0 : EL) (j1 : Int) : ρ :=
  K0 x0 j1
/-- (*codec.Reader).Fails -/
def p94 {ρ : Type} (fail : ρ) (fu : Nat)  (K0 : EL → Int → ρ) (x0 : EL) (x1 : Int) (x2 : Int) : ρ :=
  bif (cmpStd .eql x1 0) then (p94_1 fail fu  K0 x0 x2) else (p94_1 fail fu  K0 x0 x1)
theorem d_p94 (fu : Nat)  {K0 : EL → Int → Prop} (L : EL → Nat) (hN : L = List.length) {x0 : EL} {x1 : Int} {x2 : Int} (h : p94 False fu K0 x0 x1 x2) : Den Try.prog G0 94 [.ptr [.c (.sl 1 x0 none), .c (.v (.int .i64 x1))], .c (.v (.int .i64 x2))] (fun r bs => (∃ (y0 : EL) (y1 : Int) (o1 : OV), (r = .tup [] ∧ bs = [.ptr [.c (.sl 1 y0 none), .c (.v (.int .i64 y1))], o1]) ∧ K0 y0 y1)) := by
  obtain ⟨O, hO⟩ : ∃ O, O = std 1 T G0 (Den Try.prog G0) := ⟨_, rfl⟩
  have hLO : L = O.len := by rw [hN, hO]; rfl
  subst hLO
  refine den_h hO tiA mixed tabOk (fn := Try.f94) (sh := true) (by kernel_rfl) rfl rfl rfl rfl ?_
  intro Q hQ
  unfold p94 at h
  conv => cbv
  refine br_join_h hO tiA h (by subst hO; rfl) [] [0] [] (fun tm m => ∃ (j1 : Int), ((tm = frame 0 13 [] ∧ m = ⟨[(0, .blk 0 [.c (.sl 1 x0 none), .c (.v (.int .i64 j1))])], 2⟩)) ∧ p94_1 False fu  K0 x0 j1) (fun hc1 h L hL_1 => ?_) (fun hc1 h L hL_1 => ?_) ?_
  · conv => cbv
    exact hL_1 _ _ ⟨x2, ⟨(by (conv => lhs; cbv) <;> (subst hO; rfl)), (by (conv => lhs; cbv) <;> (subst hO; rfl))⟩, h⟩
  · conv => cbv
    exact hL_1 _ _ ⟨x1, ⟨(by (conv => lhs; cbv) <;> (subst hO; rfl)), (by (conv => lhs; cbv) <;> (subst hO; rfl))⟩, h⟩
  · rintro tm m ⟨j1, hs, h⟩
    unfold p94_1 at h
    obtain ⟨rfl, rfl⟩ := hs
    conv => cbv
    rw [hQ]
    exact ⟨x0, j1, _, ⟨(by subst hO; rfl), (by subst hO; rfl)⟩, h⟩
end Go.Proofs.Ythncmjlcmlmnmaa

namespace Go.Proofs.Ythncmjlcmlmnmaa
open Go V
set_option maxRecDepth 100000
set_option maxHeartbeats 4000000
/-- (*codec.Reader).Raw -/
def p116 {ρ : Type} (fail : ρ) (fu : Nat)  (K0 : Int → EL → Int → ρ) (x0 : EL) (x1 : Int) : ρ :=
  bif (cmpStd .neq x1 0) then (K0 0 x0 x1) else (p139 fail fu (fun y1 y2 y3 => p94 fail fu (fun y4 y5 => gd ((0 : Int) ≤ y2) fail (gd ((y2 : Int) ≤ (y4.length : Nat)) fail (gd (((y4.length : Nat) : Int) ≤ (y4.length : Nat)) fail (K0 y1 (List.drop ((y2 : Int).toNat) (List.take (((y4.length : Nat) : Int).toNat) y4)) y5)))) x0 x1 y3) x0)
theorem d_p116 (fu : Nat)  {K0 : Int → EL → Int → Prop} (L : EL → Nat) (hN : L = List.length) {x0 : EL} {x1 : Int} (h : p116 False fu K0 x0 x1) : Den Try.prog G0 116 [.ptr [.c (.sl 1 x0 none), .c (.v (.int .i64 x1))]] (fun r bs => (∃ (y0 : Int) (y1 : EL) (y2 : Int), (r = .c (.v (.int .u64 y0)) ∧ bs = [.ptr [.c (.sl 1 y1 none), .c (.v (.int .i64 y2))]]) ∧ K0 y0 y1 y2)) := by
  obtain ⟨O, hO⟩ : ∃ O, O = std 1 T G0 (Den Try.prog G0) := ⟨_, rfl⟩
  have hLO : L = O.len := by rw [hN, hO]; rfl
  subst hLO
  refine den_h hO tiA mixed tabOk (fn := Try.f116) (sh := true) (by kernel_rfl) rfl rfl rfl rfl ?_
  intro Q hQ
  unfold p116 at h
  conv => cbv
  refine br_h hO h (by subst hO; rfl) (fun hc1 h => ?_) (fun hc1 h => ?_)
  · conv => cbv
    rw [hQ]
    exact ⟨0, x0, x1, ⟨(by subst hO; rfl), (by subst hO; rfl)⟩, h⟩
  · conv => cbv
    refine join_all hO ?_
    conv => cbv
    refine call_h hO [.shut] (d_p139 fu O.len hN h) ?_
    intro os Q hos hQ
    conv => cbv
    refine ⟨(by (rw [hos]) <;> (subst hO; rfl)), ?_⟩
    intro r bs hq
    rw [hQ] at hq
    clear hos hQ h
    obtain ⟨y1, y2, y3, _, ⟨rfl, rfl⟩, h⟩ := hq
    conv => cbv
    refine call_h hO [.ref 2, .shut] (d_p94 fu O.len hN h) ?_
    intro os Q hos hQ
    conv => cbv
    refine ⟨(by (rw [hos]) <;> (subst hO; rfl)), ?_⟩
    intro r bs hq
    rw [hQ] at hq
    clear hos hQ h
    obtain ⟨y4, y5, _, ⟨rfl, rfl⟩, h⟩ := hq
    conv => cbv
    refine and_h h (fun g => (by subst hO; exact g)) (fun h => ?_)
    refine and_h h (fun g => (by subst hO; exact g)) (fun h => ?_)
    refine and_h h (fun g => (by subst hO; exact g)) (fun h => ?_)
    rw [hQ]
    exact ⟨y1, List.drop ((y2 : Int).toNat) (List.take (((y4.length : Nat) : Int).toNat) y4), y5, ⟨(by subst hO; rfl), (by subst hO; rfl)⟩, h⟩
end Go.Proofs.Ythncmjlcmlmnmaa

namespace Go.Proofs.Ythncmjlcmlmnmaa
open Go V
set_option maxRecDepth 100000
set_option maxHeartbeats 4000000
def p93_1 {ρ : Type} (fail : ρ) (fu : Nat)  (K0 : Int → EL → Int → ρ)  (x2 : Int) (y1 : Int) (y2 : EL) (y3 : Int) (j4 : Bool) : ρ :=
  bif j4 then (p94 fail fu (fun y5 y6 => K0 x2 y5 y6) y2 y3 5) else (K0 (IntKind.i64.wrap y1) y2 y3)
/-- (*codec.Reader).Kind -/
def p93 {ρ : Type} (fail : ρ) (fu : Nat)  (K0 : Int → EL → Int → ρ) (x0 : EL) (x1 : Int) (x2 : Int) (x3 : Int) : ρ :=
  p116 fail fu (fun y1 y2 y3 => bif (cmpStd .lss y1 (IntKind.u64.wrap x2)) then (p93_1 fail fu  K0 x2 y1 y2 y3 true) else (p93_1 fail fu  K0 x2 y1 y2 y3 (cmpStd .gtr y1 (IntKind.u64.wrap x3)))) x0 x1
theorem d_p93 (fu : Nat)  {K0 : Int → EL → Int → Prop} (L : EL → Nat) (hN : L = List.length) {x0 : EL} {x1 : Int} {x2 : Int} {x3 : Int} (h : p93 False fu K0 x0 x1 x2 x3) : Den Try.prog G0 93 [.ptr [.c (.sl 1 x0 none), .c (.v (.int .i64 x1))], .c (.v (.int .i64 x2)), .c (.v (.int .i64 x3))] (fun r bs => (∃ (y0 : Int) (y1 : EL) (y2 : Int) (o1 : OV) (o2 : OV), (r = .c (.v (.int .i64 y0)) ∧ bs = [.ptr [.c (.sl 1 y1 none), .c (.v (.int .i64 y2))], o1, o2]) ∧ K0 y0 y1 y2)) := by
  obtain ⟨O, hO⟩ : ∃ O, O = std 1 T G0 (Den Try.prog G0) := ⟨_, rfl⟩
  have hLO : L = O.len := by rw [hN, hO]; rfl
  subst hLO
  refine den_h hO tiA mixed tabOk (fn := Try.f93) (sh := true) (by kernel_rfl) rfl rfl rfl rfl ?_
  intro Q hQ
  unfold p93 at h
  conv => cbv
  refine call_h hO [.ref 2] (d_p116 fu O.len hN h) ?_
  intro os Q hos hQ
  conv => cbv
  refine ⟨(by (rw [hos]) <;> (subst hO; rfl)), ?_⟩
  intro r bs hq
  rw [hQ] at hq
  clear hos hQ h
  obtain ⟨y1, y2, y3, ⟨rfl, rfl⟩, h⟩ := hq
  conv => cbv
  refine reg_join hO tiA [0, 1, 7, 19] [0] [] (fun tm m => ∃ (j4 : Bool), ((tm = frame 0 25 [(0, .p 0 0 0), (1, .c (.v (.int .i64 x2))), (7, .c (.v (.int .u64 y1))), (19, .c (.v (.bool j4)))] ∧ m = ⟨[(0, .blk 0 [.c (.sl 1 y2 none), .c (.v (.int .i64 y3))])], 2⟩)) ∧ p93_1 False fu  K0 x2 y1 y2 y3 j4) (fun L hL_1 => ?_) ?_
  · conv => cbv
    refine br_h hO h (by subst hO; rfl) (fun hc2 h => ?_) (fun hc2 h => ?_)
    · conv => cbv
      refine br_t hO hc2 ?_
      conv => cbv
      refine br_t hO hc2 ?_
      conv => cbv
      refine br_t hO hc2 ?_
      conv => cbv
      refine br_t hO hc2 ?_
      conv => cbv
      exact hL_1 _ _ ⟨true, ⟨(by (conv => lhs; cbv) <;> (subst hO; rfl)), (by (conv => lhs; cbv) <;> (subst hO; rfl))⟩, h⟩
    · conv => cbv
      refine br_f hO hc2 ?_
      conv => cbv
      refine br_f hO hc2 ?_
      conv => cbv
      refine br_f hO hc2 ?_
      conv => cbv
      refine br_f hO hc2 ?_
      conv => cbv
      exact hL_1 _ _ ⟨(cmpStd .gtr y1 (IntKind.u64.wrap x3)), ⟨(by (conv => lhs; cbv) <;> (subst hO; rfl)), (by (conv => lhs; cbv) <;> (subst hO; rfl))⟩, h⟩
  · rintro tm m ⟨j4, hs, h⟩
    unfold p93_1 at h
    obtain ⟨rfl, rfl⟩ := hs
    conv => cbv
    refine br_h hO h (by subst hO; rfl) (fun hc1 h => ?_) (fun hc1 h => ?_)
    · conv => cbv
      refine call_h hO [.ref 2, .shut] (d_p94 fu O.len hN h) ?_
      intro os Q hos hQ
      conv => cbv
      refine ⟨(by (rw [hos]) <;> (subst hO; rfl)), ?_⟩
      intro r bs hq
      rw [hQ] at hq
      clear hos hQ h
      obtain ⟨y5, y6, _, ⟨rfl, rfl⟩, h⟩ := hq
      conv => cbv
      rw [hQ]
      exact ⟨x2, y5, y6, _, _, ⟨(by subst hO; rfl), (by subst hO; rfl)⟩, h⟩
    · conv => cbv
      refine join_all hO ?_
      conv => cbv
      rw [hQ]
      exact ⟨IntKind.i64.wrap y1, y2, y3, _, _, ⟨(by subst hO; rfl), (by subst hO; rfl)⟩, h⟩
end Go.Proofs.Ythncmjlcmlmnmaa

namespace Go.Proofs.Ythncmjlcmlmnmaa
open Go V
set_option maxRecDepth 100000
set_option maxHeartbeats 4000000
/-- (*codec.Reader).Num -/
def p91 {ρ : Type} (fail : ρ) (fu : Nat)  (K0 : Int → EL → Int → ρ) (x0 : EL) (x1 : Int) : ρ :=
  p116 fail fu (fun y1 y2 y3 => bif (cmpStd .gtr y1 1073741824) then (p94 fail fu (fun y4 y5 => K0 0 y4 y5) y2 y3 4) else (K0 (IntKind.i64.wrap y1) y2 y3)) x0 x1
theorem d_p91 (fu : Nat)  {K0 : Int → EL → Int → Prop} (L : EL → Nat) (hN : L = List.length) {x0 : EL} {x1 : Int} (h : p91 False fu K0 x0 x1) : Den Try.prog G0 91 [.ptr [.c (.sl 1 x0 none), .c (.v (.int .i64 x1))]] (fun r bs => (∃ (y0 : Int) (y1 : EL) (y2 : Int), (r = .c (.v (.int .i64 y0)) ∧ bs = [.ptr [.c (.sl 1 y1 none), .c (.v (.int .i64 y2))]]) ∧ K0 y0 y1 y2)) := by
  obtain ⟨O, hO⟩ : ∃ O, O = std 1 T G0 (Den Try.prog G0) := ⟨_, rfl⟩
  have hLO : L = O.len := by rw [hN, hO]; rfl
  subst hLO
  refine den_h hO tiA mixed tabOk (fn := Try.f91) (sh := true) (by kernel_rfl) rfl rfl rfl rfl ?_
  intro Q hQ
  unfold p91 at h
  conv => cbv
  refine call_h hO [.ref 2] (d_p116 fu O.len hN h) ?_
  intro os Q hos hQ
  conv => cbv
  refine ⟨(by (rw [hos]) <;> (subst hO; rfl)), ?_⟩
  intro r bs hq
  rw [hQ] at hq
  clear hos hQ h
  obtain ⟨y1, y2, y3, ⟨rfl, rfl⟩, h⟩ := hq
  conv => cbv
  refine br_h hO h (by subst hO; rfl) (fun hc1 h => ?_) (fun hc1 h => ?_)
  · conv => cbv
    refine call_h hO [.ref 2, .shut] (d_p94 fu O.len hN h) ?_
    intro os Q hos hQ
    conv => cbv
    refine ⟨(by (rw [hos]) <;> (subst hO; rfl)), ?_⟩
    intro r bs hq
    rw [hQ] at hq
    clear hos hQ h
    obtain ⟨y4, y5, _, ⟨rfl, rfl⟩, h⟩ := hq
    conv => cbv
    rw [hQ]
    exact ⟨0, y4, y5, ⟨(by subst hO; rfl), (by subst hO; rfl)⟩, h⟩
  · conv => cbv
    refine join_all hO ?_
    conv => cbv
    rw [hQ]
    exact ⟨IntKind.i64.wrap y1, y2, y3, ⟨(by subst hO; rfl), (by subst hO; rfl)⟩, h⟩
end Go.Proofs.Ythncmjlcmlmnmaa

namespace Go.Proofs.Ythncmjlcmlmnmaa
open Go V
set_option maxRecDepth 100000
set_option maxHeartbeats 4000000
/-- octet.TakeText -/
def p126 {ρ : Type} (fail : ρ) (fu : Nat)  (K0 : EL → Int → Int → ρ) (x0 : EL) (x1 : Int) : ρ :=
  p139 fail fu (fun y1 y2 y3 => bif (cmpStd .neq y3 0) then (K0 nilE 0 y3) else (bif (cmpStd .gtr y1 (IntKind.u64.wrap (if 0 > x1 then 0 else x1))) then (K0 nilE 0 3) else (bif (cmpStd .gtr y1 (IntKind.u64.wrap (binStd .sub .i64 ((x0.length : Nat) : Int) y2))) then (K0 nilE 0 2) else (gd ((0 : Int) ≤ y2) fail (gd ((y2 : Int) ≤ (binStd .add .i64 y2 (IntKind.i64.wrap y1))) fail (gd ((binStd .add .i64 y2 (IntKind.i64.wrap y1) : Int) ≤ (binStd .add .i64 y2 (IntKind.i64.wrap y1))) fail (gd ((binStd .add .i64 y2 (IntKind.i64.wrap y1) : Int) ≤ (x0.length : Nat)) fail (gd (0 = nilE.length) fail (gd ((nilE.length + (List.drop ((y2 : Int).toNat) (List.take ((binStd .add .i64 y2 (IntKind.i64.wrap y1) : Int).toNat) x0)).length) * 1 ≤ 35184372088832) fail (K0 (nilE ++ (List.drop ((y2 : Int).toNat) (List.take ((binStd .add .i64 y2 (IntKind.i64.wrap y1) : Int).toNat) x0))) (binStd .add .i64 y2 (IntKind.i64.wrap y1)) 0)))))))))) x0
theorem d_p126 (fu : Nat)  {K0 : EL → Int → Int → Prop} (L : EL → Nat) (hN : L = List.length) {x0 : EL} {x1 : Int} (h : p126 False fu K0 x0 x1) : Den Try.prog G0 126 [.c (.sl 1 x0 none), .c (.v (.int .i64 x1))] (fun r bs => (∃ (y0 : EL) (y1 : Int) (y2 : Int) (o0 : OV) (o1 : OV), (r = .tup [.c (.sl 1 y0 none), .c (.v (.int .i64 y1)), .c (.v (.int .i64 y2))] ∧ bs = [o0, o1]) ∧ K0 y0 y1 y2)) := by
  obtain ⟨O, hO⟩ : ∃ O, O = std 0 T G0 (Den Try.prog G0) := ⟨_, rfl⟩
  have hLO : L = O.len := by rw [hN, hO]; rfl
  subst hLO
  refine den_h hO tiA mixed tabOk (fn := Try.f126) (sh := true) (by kernel_rfl) rfl rfl rfl rfl ?_
  intro Q hQ
  unfold p126 at h
  conv => cbv
  refine call_h hO [.shut] (d_p139 fu O.len hN h) ?_
  intro os Q hos hQ
  conv => cbv
  refine ⟨(by (rw [hos]) <;> (subst hO; rfl)), ?_⟩
  intro r bs hq
  rw [hQ] at hq
  clear hos hQ h
  obtain ⟨y1, y2, y3, _, ⟨rfl, rfl⟩, h⟩ := hq
  conv => cbv
  refine br_h hO h (by subst hO; rfl) (fun hc1 h => ?_) (fun hc1 h => ?_)
  · conv => cbv
    rw [hQ]
    exact ⟨nilE, 0, y3, _, _, ⟨(by subst hO; rfl), (by subst hO; rfl)⟩, h⟩
  · conv => cbv
    refine br_h hO h (by subst hO; rfl) (fun hc2 h => ?_) (fun hc2 h => ?_)
    · conv => cbv
      rw [hQ]
      exact ⟨nilE, 0, 3, _, _, ⟨(by subst hO; rfl), (by subst hO; rfl)⟩, h⟩
    · conv => cbv
      refine br_h hO h (by subst hO; rfl) (fun hc3 h => ?_) (fun hc3 h => ?_)
      · conv => cbv
        rw [hQ]
        exact ⟨nilE, 0, 2, _, _, ⟨(by subst hO; rfl), (by subst hO; rfl)⟩, h⟩
      · conv => cbv
        refine join_all hO ?_
        conv => cbv
        refine join_all hO ?_
        conv => cbv
        refine join_all hO ?_
        conv => cbv
        refine and_h h (fun g => (by subst hO; exact g)) (fun h => ?_)
        refine and_h h (fun g => (by subst hO; exact g)) (fun h => ?_)
        refine and_h h (fun g => (by subst hO; exact g)) (fun h => ?_)
        refine and_h h (fun g => (by subst hO; exact g)) (fun h => ?_)
        refine and_h h (fun g => (by subst hO; exact g)) (fun h => ?_)
        refine and_h h (fun g => (by subst hO; exact g)) (fun h => ?_)
        refine view_full hO ?_
        conv => cbv
        rw [hQ]
        exact ⟨(nilE ++ (List.drop ((y2 : Int).toNat) (List.take ((binStd .add .i64 y2 (IntKind.i64.wrap y1) : Int).toNat) x0))), binStd .add .i64 y2 (IntKind.i64.wrap y1), 0, _, _, ⟨(by subst hO; rfl), (by subst hO; rfl)⟩, h⟩
end Go.Proofs.Ythncmjlcmlmnmaa

namespace Go.Proofs.Ythncmjlcmlmnmaa
open Go V
set_option maxRecDepth 100000
set_option maxHeartbeats 4000000
/-- (*codec.Reader).Text -/
def p95 {ρ : Type} (fail : ρ) (fu : Nat)  (K0 : EL → EL → Int → ρ) (x0 : EL) (x1 : Int) (x2 : Int) : ρ :=
  bif (cmpStd .neq x1 0) then (K0 nilE x0 x1) else (p126 fail fu (fun y1 y2 y3 => p94 fail fu (fun y4 y5 => gd ((0 : Int) ≤ y2) fail (gd ((y2 : Int) ≤ (y4.length : Nat)) fail (gd (((y4.length : Nat) : Int) ≤ (y4.length : Nat)) fail (K0 y1 (List.drop ((y2 : Int).toNat) (List.take (((y4.length : Nat) : Int).toNat) y4)) y5)))) x0 x1 y3) x0 x2)
theorem d_p95 (fu : Nat)  {K0 : EL → EL → Int → Prop} (L : EL → Nat) (hN : L = List.length) {x0 : EL} {x1 : Int} {x2 : Int} (h : p95 False fu K0 x0 x1 x2) : Den Try.prog G0 95 [.ptr [.c (.sl 1 x0 none), .c (.v (.int .i64 x1))], .c (.v (.int .i64 x2))] (fun r bs => (∃ (y0 : EL) (y1 : EL) (y2 : Int) (o1 : OV), (r = .c (.sl 1 y0 none) ∧ bs = [.ptr [.c (.sl 1 y1 none), .c (.v (.int .i64 y2))], o1]) ∧ K0 y0 y1 y2)) := by
  obtain ⟨O, hO⟩ : ∃ O, O = std 1 T G0 (Den Try.prog G0) := ⟨_, rfl⟩
  have hLO : L = O.len := by rw [hN, hO]; rfl
  subst hLO
  refine den_h hO tiA mixed tabOk (fn := Try.f95) (sh := true) (by kernel_rfl) rfl rfl rfl rfl ?_
  intro Q hQ
  unfold p95 at h
  conv => cbv
  refine br_h hO h (by subst hO; rfl) (fun hc1 h => ?_) (fun hc1 h => ?_)
  · conv => cbv
    rw [hQ]
    exact ⟨nilE, x0, x1, _, ⟨(by subst hO; rfl), (by subst hO; rfl)⟩, h⟩
  · conv => cbv
    refine join_all hO ?_
    conv => cbv
    refine call_h hO [.shut, .shut] (d_p126 fu O.len hN h) ?_
    intro os Q hos hQ
    conv => cbv
    refine ⟨(by (rw [hos]) <;> (subst hO; rfl)), ?_⟩
    intro r bs hq
    rw [hQ] at hq
    clear hos hQ h
    obtain ⟨y1, y2, y3, _, _, ⟨rfl, rfl⟩, h⟩ := hq
    conv => cbv
    refine call_h hO [.ref 2, .shut] (d_p94 fu O.len hN h) ?_
    intro os Q hos hQ
    conv => cbv
    refine ⟨(by (rw [hos]) <;> (subst hO; rfl)), ?_⟩
    intro r bs hq
    rw [hQ] at hq
    clear hos hQ h
    obtain ⟨y4, y5, _, ⟨rfl, rfl⟩, h⟩ := hq
    conv => cbv
    refine and_h h (fun g => (by subst hO; exact g)) (fun h => ?_)
    refine and_h h (fun g => (by subst hO; exact g)) (fun h => ?_)
    refine and_h h (fun g => (by subst hO; exact g)) (fun h => ?_)
    rw [hQ]
    exact ⟨y1, List.drop ((y2 : Int).toNat) (List.take (((y4.length : Nat) : Int).toNat) y4), y5, _, ⟨(by subst hO; rfl), (by subst hO; rfl)⟩, h⟩
end Go.Proofs.Ythncmjlcmlmnmaa

namespace Go.Proofs.Ythncmjlcmlmnmaa
open Go V
set_option maxRecDepth 100000
set_option maxHeartbeats 4000000
def p137_1 {ρ : Type} (fail : ρ) (fu : Nat)  (K0 : EL → Int → Int → ρ)   (j1 : EL) (j2 : Int) (j3 : Int) : ρ :=
  K0 j1 j2 j3
def p137_2 {ρ : Type} (fail : ρ) (fu : Nat)  (K0 : EL → Int → Int → ρ)   (j6 : EL) (j7 : Int) (j8 : Int) : ρ :=
  p137_1 fail fu  K0  j6 j7 j8
/-- (*codec.Reader).part -/
def p137 {ρ : Type} (fail : ρ) (fu : Nat)  (K0 : EL → Int → Int → ρ) (x0 : EL) (x1 : Int) (x2 : Int) (x3 : Int) (x4 : Int) (x5 : Int) : ρ :=
  bif (cmpStd .gtr (binStd .add .i64 x2 1) x3) then (p94 fail fu (fun y4 y5 => p137_1 fail fu  K0  y4 y5 (binStd .add .i64 x2 1)) x0 x1 3) else (bif (cmpStd .gtr x4 x5) then (p94 fail fu (fun y9 y10 => p137_2 fail fu  K0  y9 y10 (binStd .add .i64 x2 1)) x0 x1 6) else (p137_2 fail fu  K0  x0 x1 (binStd .add .i64 x2 1)))
theorem d_p137 (fu : Nat)  {K0 : EL → Int → Int → Prop} (L : EL → Nat) (hN : L = List.length) {x0 : EL} {x1 : Int} {x2 : Int} {x3 : Int} {x4 : Int} {x5 : Int} (h : p137 False fu K0 x0 x1 x2 x3 x4 x5) : Den Try.prog G0 137 [.ptr [.c (.sl 1 x0 none), .c (.v (.int .i64 x1))], .ptr [.c (.v (.int .i64 x2))], .c (.v (.int .i64 x3)), .c (.v (.int .i64 x4)), .c (.v (.int .i64 x5))] (fun r bs => (∃ (y0 : EL) (y1 : Int) (y2 : Int) (o2 : OV) (o3 : OV) (o4 : OV), (r = .tup [] ∧ bs = [.ptr [.c (.sl 1 y0 none), .c (.v (.int .i64 y1))], .ptr [.c (.v (.int .i64 y2))], o2, o3, o4]) ∧ K0 y0 y1 y2)) := by
  obtain ⟨O, hO⟩ : ∃ O, O = std 2 T G0 (Den Try.prog G0) := ⟨_, rfl⟩
  have hLO : L = O.len := by rw [hN, hO]; rfl
  subst hLO
  refine den_h hO tiA mixed tabOk (fn := Try.f137) (sh := true) (by kernel_rfl) rfl rfl rfl rfl ?_
  intro Q hQ
  unfold p137 at h
  conv => cbv
  refine br_join_h hO tiA h (by subst hO; rfl) [] [0, 1] [] (fun tm m => ∃ (j1 : EL) (j2 : Int) (j3 : Int), ((tm = frame 0 29 [] ∧ m = ⟨[(0, .blk 0 [.c (.sl 1 j1 none), .c (.v (.int .i64 j2))]), (1, .blk 1 [.c (.v (.int .i64 j3))])], 3⟩)) ∧ p137_1 False fu  K0  j1 j2 j3) (fun hc1 h L hL_1 => ?_) (fun hc1 h L hL_1 => ?_) ?_
  · conv => cbv
    refine call_h hO [.ref 2, .shut] (d_p94 fu O.len hN h) ?_
    intro os Q hos hQ
    conv => cbv
    refine ⟨(by (rw [hos]) <;> (subst hO; rfl)), ?_⟩
    intro r bs hq
    rw [hQ] at hq
    clear hos hQ h
    obtain ⟨y4, y5, _, ⟨rfl, rfl⟩, h⟩ := hq
    conv => cbv
    exact hL_1 _ _ ⟨y4, y5, binStd .add .i64 x2 1, ⟨(by (conv => lhs; cbv) <;> (subst hO; rfl)), (by (conv => lhs; cbv) <;> (subst hO; rfl))⟩, h⟩
  · conv => cbv
    refine br_join_h hO tiA h (by subst hO; rfl) [] [0, 1] [] (fun tm m => ∃ (j6 : EL) (j7 : Int) (j8 : Int), ((tm = frame 0 29 [] ∧ m = ⟨[(0, .blk 0 [.c (.sl 1 j6 none), .c (.v (.int .i64 j7))]), (1, .blk 1 [.c (.v (.int .i64 j8))])], 3⟩)) ∧ p137_2 False fu  K0  j6 j7 j8) (fun hc2 h L hL_2 => ?_) (fun hc2 h L hL_2 => ?_) ?_
    · conv => cbv
      refine call_h hO [.ref 2, .shut] (d_p94 fu O.len hN h) ?_
      intro os Q hos hQ
      conv => cbv
      refine ⟨(by (rw [hos]) <;> (subst hO; rfl)), ?_⟩
      intro r bs hq
      rw [hQ] at hq
      clear hos hQ h
      obtain ⟨y9, y10, _, ⟨rfl, rfl⟩, h⟩ := hq
      conv => cbv
      exact hL_2 _ _ ⟨y9, y10, binStd .add .i64 x2 1, ⟨(by (conv => lhs; cbv) <;> (subst hO; rfl)), (by (conv => lhs; cbv) <;> (subst hO; rfl))⟩, h⟩
    · conv => cbv
      exact hL_2 _ _ ⟨x0, x1, binStd .add .i64 x2 1, ⟨(by (conv => lhs; cbv) <;> (subst hO; rfl)), (by (conv => lhs; cbv) <;> (subst hO; rfl))⟩, h⟩
    · rintro tm m ⟨j6, j7, j8, hs, h⟩
      unfold p137_2 at h
      obtain ⟨rfl, rfl⟩ := hs
      conv => cbv
      exact hL_1 _ _ ⟨j6, j7, j8, ⟨(by (conv => lhs; cbv) <;> (subst hO; rfl)), (by (conv => lhs; cbv) <;> (subst hO; rfl))⟩, h⟩
  · rintro tm m ⟨j1, j2, j3, hs, h⟩
    unfold p137_1 at h
    obtain ⟨rfl, rfl⟩ := hs
    conv => cbv
    rw [hQ]
    exact ⟨j1, j2, j3, _, _, _, ⟨(by subst hO; rfl), (by subst hO; rfl)⟩, h⟩
end Go.Proofs.Ythncmjlcmlmnmaa

