/- The state behind an append in place, a store into an array's element; an array under a new name. Conditions: none. -/
import Derived.Test.YthncmjlcmlmnmaaV3
namespace Go.Proofs.Ythncmjlcmlmnmaa.V
open Go Go.RowKit

theorem St.setArr {X : Ctx} {S : Area} {pl : Place} {w : World} {m : Mem} (h : St X S pl w m) {i v sz : Nat} {es : List (List CV)} {cap : Option Nat} {pub : Bool} (hob : m.get i = some (.arr v sz es cap pub))
    (o : Nat) (us : List Value) (es' : List (List CV)) (cap' : Option Nat) {e : TypeId} {capn : Nat} (hs : w.shape? (pl i).1 = some (e, capn * sz))
    (hle : o + us.length ≤ capn * sz) (hpub : pub = true → es.length * sz ≤ o) (hgrow : es.length ≤ es'.length) (hfit : es'.length ≤ capn) (hcap' : ∀ c, cap' = some c → capn = c)
    (hl : ∀ (i : Nat) e, es'[i]? = some e → e.length = sz) (hcov : ∀ k, k < es'.length * sz → k < es.length * sz ∨ o ≤ k ∧ k < o + us.length)
    (hr : ∀ f : Nat → Value, (∀ (i j : Nat) e x, es[i]? = some e → e[j]? = some x → RelC S w x (f (i * sz + j))) →
      ∀ (i j : Nat) e x, es'[i]? = some e → e[j]? = some x → RelC S w x (if o ≤ i * sz + j ∧ i * sz + j < o + us.length then us.getD (i * sz + j - o) undef else f (i * sz + j))) :
    ∃ S', St X S' pl (w.setCells (pl i).1 o us) (m.upd i (.arr v sz es' cap' pub)) ∧ Keeps S S' pl pl w (w.setCells (pl i).1 o us) m (m.upd i (.arr v sz es' cap' pub)) := by
  obtain ⟨hv, h0, h1, h2, ⟨e2, capn2, hs2, hle2, hcap2⟩, ⟨hl2, f, hc, hrf⟩, hp⟩ := h.inv.ob i _ hob
  have hcc : capn2 = capn := by
    rw [hs] at hs2; injection hs2 with hs2; injection hs2 with _ hs2
    exact (Nat.eq_of_mul_eq_mul_right h1 hs2).symm
  subst hcc
  have hblt := shape_lt hs
  let S' : Area := fun b k => S b k ∨ (pub = true ∧ b = (pl i).1 ∧ es.length * sz ≤ k ∧ k < es'.length * sz)
  have hfoot : ∀ b k, (b = (pl i).1 ∧ o ≤ k ∧ k < o + us.length) → (Ob.arr v sz es cap pub).foot (pl i) b k := fun b k ⟨g1, g2, g3⟩ => ⟨g1, fun hpb => by have := hpub hpb; omega⟩
  have hS : ∀ b k, S b k → cellAt (w.setCells (pl i).1 o us) b k = cellAt w b k := fun b k hs' =>
    cellAt_setCells_out _ _ _ _ _ _ (fun e => by
      rcases Nat.lt_or_ge k o with g1 | g1
      · exact .inl g1
      · rcases Nat.lt_or_ge k (o + us.length) with g2 | g2
        · exact absurd hs' (h.inv.free i _ hob b k (hfoot b k ⟨e, g1, g2⟩))
        · exact .inr g2)
  have k := keeps_upd (pl := pl) (S' := S') (w' := w.setCells (pl i).1 o us) (ob' := .arr v sz es' cap' pub) hob ⟨rfl, rfl, hgrow⟩ (fun _ _ h => .inl h) hS (fun b => shape_setCells _ _ _ _ _)
  have hne : ∀ id ob, id ≠ i → (m.upd i (.arr v sz es' cap' pub)).get id = some ob → m.get id = some ob := fun id ob hi hg => by rw [get_upd, if_neg hi] at hg; exact hg
  have hnewS : ∀ b k, (pub = true ∧ b = (pl i).1 ∧ es.length * sz ≤ k ∧ k < es'.length * sz) → (Ob.arr v sz es cap pub).foot (pl i) b k := fun b k ⟨_, g1, g2, _⟩ => ⟨g1, fun _ => g2⟩
  refine ⟨S', h.step1 i _ k (Ext.setCells w (pl i).1 o us) (fun b c hf => h.own i _ hob b c (hfoot b c hf)) (fun b c hs' => ?_)
    (fun id ob hi hg => ⟨hne id ob hi hg, rfl⟩) (fun id ob hi hg b c hf => ⟨fun hF => h.inv.apart id i ob _ (hne id ob hi hg) hob hi b c hf (hfoot b c hF), ?_⟩) (fun ob hg => ?_), k⟩
  · rw [size_setCells]
    rcases hs' with hs' | hs'
    · exact ⟨h.inv.low b c hs', .inl hs'⟩
    · exact ⟨by rw [hs'.2.1]; exact hblt, .inr (h.own i _ hob b c (hnewS b c hs'))⟩
  · rintro (hs' | hs')
    · exact h.inv.free id ob (hne id ob hi hg) b c hf hs'
    · exact h.inv.apart id i ob _ (hne id ob hi hg) hob hi b c hf (hnewS b c hs')
  · rw [get_upd, if_pos rfl] at hg; injection hg with hg; subst hg
    have hsub : ∀ b c, (Ob.arr v sz es' cap' pub).foot (pl i) b c → (Ob.arr v sz es cap pub).foot (pl i) b c := fun b c ⟨g1, g2⟩ => ⟨g1, fun hpb => Nat.le_trans (Nat.mul_le_mul_right sz hgrow) (g2 hpb)⟩
    refine ⟨hv, ⟨h0, h1, ⟨fun c hz e s hs' => h2.1 c (by rw [World.frozen?_setCells] at hz; exact hz) e s (by rw [shape_setCells] at hs'; exact hs'), fun hp e s hs' => h2.2 hp e s (by rw [shape_setCells] at hs'; exact hs')⟩, ⟨e, capn2, by rw [shape_setCells]; exact hs, hfit, hcap'⟩,
      ⟨hl, fun k => if o ≤ k ∧ k < o + us.length then us.getD (k - o) undef else f k, fun c hc' => ?_, fun i' j e' x he hx => (hr f hrf i' j e' x he hx).mono k.sub k.cell⟩, fun hpb c hc' => ?_⟩, fun b c hf => ⟨h.own i _ hob b c (hsub b c hf), ?_, fun id ob' hi hg hf2 => h.inv.apart id i ob' _ (hne id ob' hi hg) hob hi b c hf2 (hsub b c hf)⟩⟩
    · dsimp only
      by_cases hin : o ≤ c ∧ c < o + us.length
      · rw [if_pos hin]
        have hjl : c - o < us.length := by omega
        have hu : us[c - o]? = some us[c - o] := List.getElem?_eq_getElem hjl
        have hinn := cellAt_setCells_in (pl i).1 o us w (fun t ht' => by
          have hcell : (cellAt w (pl i).1 (o + t)).isSome = true := by
            unfold World.shape? at hs
            unfold cellAt World.cell?
            cases hh : w.heap[(pl i).1]? with
            | none => rw [hh] at hs; simp at hs
            | some ob =>
              rw [hh] at hs
              cases ob with
              | cells cc e' fr =>
                simp only [Option.some.injEq, Prod.mk.injEq] at hs
                have : o + t < cc.size := by rw [hs.2]; omega
                simp [Array.getElem?_eq_getElem this]
              | _ => simp at hs
          exact hcell) (c - o) hjl
        rw [show o + (c - o) = c by omega] at hinn
        rw [hinn]; simp [List.getD, hu]
      · rw [if_neg hin]
        have hlt : c < es.length * sz := (hcov c hc').resolve_right hin
        rw [← hc c hlt]
        exact cellAt_setCells_out _ _ _ _ _ _ (fun _ => by omega)
    · rcases Nat.lt_or_ge c (es.length * sz) with hlt | hge
      · exact .inl (hp hpb c hlt)
      · exact .inr ⟨hpb, rfl, hge, hc'⟩
    · rintro (hs' | hs')
      · exact h.inv.free i _ hob b c (hsub b c hf) hs'
      · exact absurd (hf.2 hs'.1) (Nat.not_le.2 hs'.2.2.2)

/-- The same array under another name: old names of it know nothing any more. -/
theorem St.rename {X : Ctx} {S : Area} {pl : Place} {w : World} {m : Mem} (h : St X S pl w m) {i v sz : Nat} {es : List (List CV)} {cap : Option Nat} {pub : Bool} (hob : m.get i = some (.arr v sz es cap pub)) (site : Nat) :
    St X S (plAt pl site (pl i)) w ((m.del i).new site fun v => .arr v sz es cap pub) ∧ Keeps S S pl (plAt pl site (pl i)) w w m ((m.del i).new site fun v => .arr v sz es cap pub) := by
  obtain ⟨hv, h0, h1, h2, h3, hrow, hp⟩ := h.inv.ob i _ hob
  have hne : ∀ id ob, id ≠ site → ((m.del i).new site fun v => .arr v sz es cap pub).get id = some ob → m.get id = some ob ∧ id ≠ i := fun id ob hi hg => by
    rw [get_new, if_neg hi, get_del] at hg
    split at hg
    · simp at hg
    · exact ⟨hg, by assumption⟩
  have k : Keeps S S pl (plAt pl site (pl i)) w w m ((m.del i).new site fun v => .arr v sz es cap pub) :=
    ⟨fun _ _ h => h, fun _ _ _ => rfl, fun _ _ h => h, by rw [clk_new, clk_del]; omega, fun id ob hg hlt => by
      by_cases hi : id = site
      · subst hi; rw [get_new, if_pos rfl] at hg; injection hg with hg; subst hg
        rw [clk_del] at hlt; exact absurd hlt (Nat.lt_irrefl _)
      · exact ⟨ob, (hne id ob hi hg).1, by cases ob <;> simp [Ob.alike], by simp [plAt, hi]⟩⟩
  refine ⟨h.step1 site (fun _ _ => False) k (Ext.refl _ _) (fun _ _ hf => hf.elim) (fun b o hs => ⟨h.inv.low b o hs, .inl hs⟩) (fun id ob hi hg => ⟨(hne id ob hi hg).1, by simp [plAt, hi]⟩)
    (fun id ob hi hg b o hf => ⟨fun hf => hf, h.inv.free id ob (hne id ob hi hg).1 b o hf⟩) (fun ob hg => ?_), k⟩
  rw [get_new, if_pos rfl] at hg; injection hg with hg; subst hg
  have hpl : plAt pl site (pl i) site = pl i := by simp [plAt]
  obtain ⟨hl, f, hc, hr⟩ := hrow
  rw [hpl]
  exact ⟨by rw [clk_new, clk_del]; exact Nat.lt_succ_self _, ⟨h0, h1, h2, h3, ⟨hl, f, hc, fun i' j e x he hx => (hr i' j e x he hx).mono k.sub k.cell⟩, hp⟩,
    fun b o hf => ⟨h.own i _ hob b o hf, h.inv.free i _ hob b o hf, fun id ob' hi hg hf2 => h.inv.apart id i ob' _ (hne id ob' hi hg).1 hob (hne id ob' hi hg).2 b o hf2 hf⟩⟩
end Go.Proofs.Ythncmjlcmlmnmaa.V
