/- The words of the printed functions, and the rules by which a printed function is followed. Conditions: none. -/
import Derived.Test.YthncmjlcmlmnmaaV19
namespace Go.Proofs.Ythncmjlcmlmnmaa.V
open Go
/-- A condition without which the call panics, or goes beyond what is told. -/
def gd {ρ : Type} (p : Prop) [Decidable p] (fail k : ρ) : ρ := if p then k else fail
/-- No element. -/
abbrev nilE : EL := []
/-- A text's bytes out of a row of byte cells. -/
def tobP {ρ : Type} (fail : ρ) (es : EL) (k : ByteArray → ρ) : ρ := match bytesOf es with | some b => k ⟨b.toArray⟩ | none => fail
theorem gd_inv {p : Prop} [Decidable p] {k : Prop} (h : gd p False k) : p ∧ k := by
  unfold gd at h; split at h
  · exact ⟨by assumption, h⟩
  · exact h.elim
section
variable {O : Ops} {B : Nat} {T : Tab} {G : Glob} {D : Spec} (hO : O = std B T G D)
theorem and_h {p : Prop} [Decidable p] {k C R : Prop} (h : gd p False k) (e : p → C) (f : k → R) : C ∧ R := by
  unfold gd at h; split at h
  · exact ⟨e (by assumption), f h⟩
  · exact h.elim
include hO
theorem br_h {v c : Bool} {A A' : Unit → Prop} {a b : Prop} (h : cond c a b) (e : v = c) (h1 : v = true → a → A ()) (h2 : v = false → b → A' ()) : O.br v A A' := by
  subst e; exact br_of hO (fun hv => h1 hv (by subst hv; exact h)) (fun hv => h2 hv (by subst hv; exact h))
theorem br_join_h {A : Nat → TI} (hA : A = fun t => T.at t) {v c : Bool} {x y : Code} {tm₁ tm₂ : List AV} {m₁ m₂ : Mem} {N Rt : List AV → Mem → Prop} {X : Nat → List AV → Mem → Prop} {a b : Prop} (h : cond c a b) (e : v = c) (live ids caps : List Nat) (R : List AV → Mem → Prop)
    (h1 : v = true → a → ∀ L : List AV → Mem → Prop, (∀ tm m, R (fgT B live ids tm m) (fgM B ids caps m) → L tm m) → execO O A G x tm₁ m₁ (thenK L Rt X))
    (h2 : v = false → b → ∀ L : List AV → Mem → Prop, (∀ tm m, R (fgT B live ids tm m) (fgM B ids caps m) → L tm m) → execO O A G y tm₂ m₂ (thenK L Rt X))
    (h3 : ∀ tm m, R tm m → N tm m) :
    O.br v (fun _ => execO O A G x tm₁ m₁ (thenK (O.join N) Rt X)) (fun _ => execO O A G y tm₂ m₂ (thenK (O.join N) Rt X)) := by
  subst e
  exact br_join hO hA live ids caps R (fun hv => h1 hv (by subst hv; exact h)) (fun hv => h2 hv (by subst hv; exact h)) h3
theorem view_h {n : Nat} {es : EL} {K : EL → Prop} {p : Prop} [Decidable p] {k : Prop} (h : gd p False k) (e : p → n ≤ es.length) (f : k → K (O.take n es)) : O.view n es K :=
  view_of hO (e (gd_inv h).1) (f (gd_inv h).2)
theorem tob_h {es es' : EL} {k K : ByteArray → Prop} (h : tobP False es' k) (e : es = es') (f : ∀ s, k s → K s) : O.tob es K := by
  subst e hO
  show (match bytesOf es with | some b => K ⟨b.toArray⟩ | none => False)
  unfold tobP at h
  split at h
  · exact f _ h
  · exact h.elim
theorem emp_h {es es' : EL} {A A' : Unit → Prop} {a b : Prop} (h : cond es'.isEmpty a b) (e : es = es') (h1 : es' = [] → a → A ()) (h2 : es' ≠ [] → b → A' ()) : O.emp es A A' := by
  subst e
  refine emp_of hO (fun q => h1 q (by subst q; exact h)) (fun q => h2 q ?_)
  have : es.isEmpty = false := by simpa using q
  rw [this] at h; exact h
end
section
variable {m : Mem}
theorem lend_nil : lendL m [] [] := trivial
theorem lend_t {id ver n sz : Nat} {es : EL} {cap : Option Nat} {xs : List AV} {os : List OV} (hg : m.get id = some (.arr ver sz es cap false)) (hn : n ≤ es.length) (h8 : u8E es = true) (hr : lendL m xs os) :
    lendL m (.t id ver n :: xs) (.c (.sl sz (es.take n) none) :: os) := by
  refine ⟨?_, hr⟩
  unfold lendA; dsimp only; rw [hg]
  exact ⟨rfl, rfl, hn, h8, rfl, .inl rfl⟩
theorem lend_f {id ver n sz c : Nat} {es : EL} {xs : List AV} {os : List OV} (hg : m.get id = some (.arr ver sz es (some c) false)) (hn : n ≤ es.length) (h8 : u8E es = true) (hc : c = es.length) (hlt : n < es.length) (hr : lendL m xs os) :
    lendL m (.t id ver n :: xs) (.c (.sl sz (es.take n) (some (es.drop n))) :: os) := by
  refine ⟨?_, hr⟩
  unfold lendA; dsimp only; rw [hg]
  exact ⟨rfl, rfl, hn, h8, rfl, .inr ⟨⟨by rw [hc], hlt⟩, rfl⟩⟩
theorem lend_c {y z : CV} {xs : List AV} {os : List OV} (hz : z = normC y) (hr : lendL m xs os) : lendL m (.c y :: xs) (.c z :: os) := ⟨.inr hz, hr⟩
theorem lendC_nil : lendC [] [] := trivial
theorem lendC_c {y z : CV} {xs : List AV} {os : List OV} (hz : z = normC y) (hr : lendC xs os) : lendC (.c y :: xs) (.c z :: os) := ⟨.inr hz, hr⟩
theorem lend_agg {cs : List AV} {zs : List OV} {xs : List AV} {os : List OV} (h : lendC cs zs) (hr : lendL m xs os) : lendL m (.agg cs :: xs) (.agg zs :: os) := by
  simp only [lendL]; exact ⟨h, hr⟩
end
section
variable {P : Program} {O : Ops} {B : Nat} {T : Tab} {G : Glob} (hO : O = std B T G (Den P G))
include hO
theorem call_h (mds : List Mode) {os0 : List OV} {Q0 : OV → List OV → Prop} {f : FuncId} (hd : Den P G f os0 Q0) {site : Nat} {m : Mem} {args : List AV} {K : KK}
    (hh : ∀ (os : List OV) (Q : OV → List OV → Prop), os = os0 → Q = Q0 → argsO O m mds args fun os' m => os' = os ∧ ∀ r bs, Q r bs → backO site m mds args bs fun id m => K (unpack depth id m r).1 (unpack depth id m r).2.2) : O.call site m f args K :=
  call_of hO mds hd (hh _ _ rfl rfl)
/-- The rule of a call to which byte rows are lent. -/
theorem lend_h {os0 : List OV} {Q0 : OV → List OV → Prop} {f : FuncId} (hd : Den P G f os0 Q0) {site : Nat} {m : Mem} {args : List AV} {K : KK} (hl : lendL m args os0)
    (hh : ∀ r bs, Q0 r bs → safeO r = true ∧ K (unpack depth site m r).1 (unpack depth site m r).2.2) : O.call site m f args K := by
  subst hO
  exact .inr ⟨os0, hl, Q0, hd, hh⟩
theorem den_h {A : Nat → TI} (hA : A = fun t => T.at t) (hm : P.follows .mixedOrders = true) (hT : TabOk P T) {f : FuncId} {fn : Func} {body : Code} (hf : P.funcs[f]? = some fn) (hb : fn.body = some body) (hname : (fn.name == "runtime.NumGoroutine") = false)
    {os : List OV} {Q : OV → List OV → Prop} (hlen : Nat.ble os.length fn.ntmps = true) (hB : (unpackL (unpack depth) 0 ⟨[], 0⟩ os).2.2.clk = B) {sh : Bool} (hk : ∀ Q', Q' = Q → FnO O A G fn body os Q' sh) : Den P G f os Q :=
  den_of' hO hA hm hT hf hb hname hlen hB (hk Q rfl)
end
end Go.Proofs.Ythncmjlcmlmnmaa.V
