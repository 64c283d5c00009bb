/- A part of the proof. Conditions: none. -/
import Derived.Test.YtioiigabeoaneaaGreatRF7
import Derived.Test.YtioiigabeoaneaaGreatRF4
import Derived.Test.YtioiigabeoaneaaGreatProg
import Derived.KernelRfl
namespace Go.Proofs.YtioiigabeoaneaaGreat
open Go V
set_option maxRecDepth 100000
set_option maxHeartbeats 4000000
section
variable {ρ:Type} (fail:ρ)
def CS (C:Prop) (v:(Bool→ρ)→ρ):Prop:=∃ b,(C→b=false)∧v=fun K=>K b
theorem CS.fl (C:Prop):Ev n1 (CS (ρ:=ρ) C) (fun _ K=>K false):=Ev.val _ ⟨_,fun _=>rfl,rfl⟩
theorem z7c {p:Bool} {B:Prop} {C:Prop} (h:C→p=true∨B) (hp:p=false):C→B:=fun c=>(h c).elim (fun e=>absurd (e.symm.trans hp) (by decide)) id
section
variable (k:Nat) (pa fq ce h1 h2 o1 o2:Int) (d:Dc) (hd:d.ok) (t ty:Tm) (ht:t.thin) (hty:ty.thin) (C:Prop)
def Bd:Prop:=fqD k=false∧(d.k≠0∨(fqN k=false∧P3 .eql d.nm ⟨#[]⟩=false))
include hd in
theorem m3 (j:Bool) (hC:C→j=true∨Bd k d):Ev n1 (CS (ρ:=ρ) C) (fun fu K=>p14_3 fail fu K d.k d.pa d.ct d.nm d.fam d.ty.k d.ty.n d.ty.nm (Lv.rows d.ty.ls) (Tm.rows d.ty.args) d.val.k d.val.n d.val.nm (Lv.rows d.val.ls) (Tm.rows d.val.args) (d.cs.map E1) (fqD k) (fqN k) j):=by
 unfold p14_3 p14_1 p14_2
 refine Ev.ite (fun _=>CS.fl C) (fun hj=>?_)
 have hB:=z7c hC hj
 refine Ev.ite (fun hy=>?_) (fun _=>Ev.ite (fun hn=>?_) (fun _=>?_))
 ·obtain⟨_,⟨b,rfl⟩,M,h⟩:=ev42 fail d hd
  exact⟨_,⟨b,fun c=>absurd (hB c).1 (by rw [hy];decide),rfl⟩,M,fun fu hm K=>h fu hm _⟩
 ·refine Ev.bind (k4t fail d) ?_
  rintro _ ⟨b,hb,rfl⟩
  refine Ev.ite (fun ht=>Ev.val _ ⟨_,fun c=>?_,rfl⟩) (fun _=>CS.fl C)
  rcases (hB c).2 with h | h
  ·exact absurd ht (by rw [hb h];decide)
  ·exact absurd hn (by rw [h.1];decide)
 ·refine Ev.bind (k4t fail d) ?_
  rintro _ ⟨b,hb,rfl⟩
  refine Ev.ite (fun ht=>Ev.val _ ⟨_,fun c=>?_,rfl⟩) (fun _=>CS.fl C)
  rcases (hB c).2 with h | h
  ·exact absurd ht (by rw [hb h];decide)
  ·exact h.2
include hd in
theorem m5 (j:Bool) (hC:C→j=true∨Bd k d):Ev n1 (CS (ρ:=ρ) C) (fun fu K=>p14_5 fail fu K d.k d.pa d.ct d.nm d.fam d.ty.k d.ty.n d.ty.nm (Lv.rows d.ty.ls) (Tm.rows d.ty.args) d.val.k d.val.n d.val.nm (Lv.rows d.val.ls) (Tm.rows d.val.args) (d.cs.map E1) ty.k ty.n ty.nm (Lv.rows ty.ls) (Tm.rows ty.args) (fqD k) (fqY k) (fqN k) j):=by
 unfold p14_5 p14_4
 refine Ev.ite (fun hj=>m3 fail k d hd C j (fun _=>.inl hj)) (fun hj=>?_)
 have hB:=z7c hC hj
 refine Ev.ite (fun _=>Ev.bind (w8h fail ty) ?_) (fun _=>m3 fail k d hd C _ (fun c=>.inr (hB c)))
 rintro _ ⟨b,rfl⟩
 exact m3 fail k d hd C _ (fun c=>.inr (hB c))
include hd hty in
theorem m6 (j:Bool) (hC:C→j=true∨Bd k d):Ev n1 (CS (ρ:=ρ) C) (fun fu K=>p14_6 fail fu K d.k d.pa d.ct d.nm d.fam d.ty.k d.ty.n d.ty.nm (Lv.rows d.ty.ls) (Tm.rows d.ty.args) d.val.k d.val.n d.val.nm (Lv.rows d.val.ls) (Tm.rows d.val.args) (d.cs.map E1) ty.k ty.n ty.nm (Lv.rows ty.ls) (Tm.rows ty.args) (fqD k) (fqY k) (fqN k) j):=by
 unfold p14_6
 refine Ev.ite (fun _=>CS.fl C) (fun hj=>?_)
 have hB:=z7c hC hj
 refine Ev.ite (fun _=>Ev.bind (w8i fail ty hty) ?_) (fun _=>m5 fail k d hd ty C _ (fun c=>.inr (hB c)))
 rintro _ ⟨b,rfl⟩
 exact m5 fail k d hd ty C _ (fun c=>.inr (hB c))
include hd hty in
theorem m8 (j:Bool) (hC:C→j=true∨Bd k d):Ev n1 (CS (ρ:=ρ) C) (fun fu K=>p14_8 fail fu K d.k d.pa d.ct d.nm d.fam d.ty.k d.ty.n d.ty.nm (Lv.rows d.ty.ls) (Tm.rows d.ty.args) d.val.k d.val.n d.val.nm (Lv.rows d.val.ls) (Tm.rows d.val.args) (d.cs.map E1) t.k t.n t.nm (Lv.rows t.ls) (Tm.rows t.args) ty.k ty.n ty.nm (Lv.rows ty.ls) (Tm.rows ty.args) (fqD k) (fqT k) (fqY k) (fqN k) j):=by
 unfold p14_8 p14_7
 refine Ev.ite (fun hj=>m6 fail k d hd ty hty C j (fun _=>.inl hj)) (fun hj=>?_)
 have hB:=z7c hC hj
 refine Ev.ite (fun _=>Ev.bind (w8h fail t) ?_) (fun _=>m6 fail k d hd ty hty C _ (fun c=>.inr (hB c)))
 rintro _ ⟨b,rfl⟩
 exact m6 fail k d hd ty hty C _ (fun c=>.inr (hB c))
include hd ht hty in
theorem m9 (j:Bool) (hC:C→j=true∨Bd k d):Ev n1 (CS (ρ:=ρ) C) (fun fu K=>p14_9 fail fu K d.k d.pa d.ct d.nm d.fam d.ty.k d.ty.n d.ty.nm (Lv.rows d.ty.ls) (Tm.rows d.ty.args) d.val.k d.val.n d.val.nm (Lv.rows d.val.ls) (Tm.rows d.val.args) (d.cs.map E1) t.k t.n t.nm (Lv.rows t.ls) (Tm.rows t.args) ty.k ty.n ty.nm (Lv.rows ty.ls) (Tm.rows ty.args) (fqD k) (fqT k) (fqY k) (fqN k) j):=by
 unfold p14_9
 refine Ev.ite (fun _=>CS.fl C) (fun hj=>?_)
 have hB:=z7c hC hj
 refine Ev.ite (fun _=>Ev.bind (w8i fail t ht) ?_) (fun _=>m8 fail k d hd t ty hty C _ (fun c=>.inr (hB c)))
 rintro _ ⟨b,rfl⟩
 exact m8 fail k d hd t ty hty C _ (fun c=>.inr (hB c))
def B2:Prop:=(fqP k=false∧pa≠0)∨Bd k d
include hd ht hty in
theorem m11 (j:Bool) (hC:C→j=true∨B2 k pa d):Ev n1 (CS (ρ:=ρ) C) (fun fu K=>p14_11 fail fu K pa d.k d.pa d.ct d.nm d.fam d.ty.k d.ty.n d.ty.nm (Lv.rows d.ty.ls) (Tm.rows d.ty.args) d.val.k d.val.n d.val.nm (Lv.rows d.val.ls) (Tm.rows d.val.args) (d.cs.map E1) t.k t.n t.nm (Lv.rows t.ls) (Tm.rows t.args) ty.k ty.n ty.nm (Lv.rows ty.ls) (Tm.rows ty.args) (fqD k) (fqP k) (fqT k) (fqY k) (fqN k) j):=by
 unfold p14_11 p14_10
 refine Ev.ite (fun hj=>m9 fail k d hd t ty ht hty C j (fun _=>.inl hj)) (fun hj=>?_)
 have hB:=z7c hC hj
 refine Ev.ite (fun _=>m9 fail k d hd t ty ht hty C _ (fun c=>(hB c).imp (fun h=>k4n h.2) id)) (fun hp=>m9 fail k d hd t ty ht hty C _ (fun c=>(hB c).elim (fun h=>?_) .inr))
 rw [h.1] at hp;cases hp
include hd ht hty in
theorem m12 (j:Bool) (hC:C→j=true∨B2 k pa d):Ev n1 (CS (ρ:=ρ) C) (fun fu K=>p14_12 fail fu K pa d.k d.pa d.ct d.nm d.fam d.ty.k d.ty.n d.ty.nm (Lv.rows d.ty.ls) (Tm.rows d.ty.args) d.val.k d.val.n d.val.nm (Lv.rows d.val.ls) (Tm.rows d.val.args) (d.cs.map E1) t.k t.n t.nm (Lv.rows t.ls) (Tm.rows t.args) ty.k ty.n ty.nm (Lv.rows ty.ls) (Tm.rows ty.args) (fqD k) (fqP k) (fqT k) (fqY k) (fqN k) j):=by
 unfold p14_12
 refine Ev.ite (fun _=>CS.fl C) (fun hj=>?_)
 have hB:=z7c hC hj
 refine Ev.ite (fun _=>Ev.bind (w8j fail pa) ?_) (fun _=>m11 fail k pa d hd t ty ht hty C _ (fun c=>.inr (hB c)))
 rintro _ ⟨b,rfl⟩
 exact m11 fail k pa d hd t ty ht hty C _ (fun c=>.inr (hB c))
theorem w6v {a b:Int} (h:a≠0∨b≠0):(!((B0 .eql a 0) && ((B0 .eql b 0) && true)))=true:=by
 rcases h with h | h<;>simp [D0 h]
def B3:Prop:=(fqO k=false∧(o1≠0∨o2≠0))∨B2 k pa d
include hd ht hty in
theorem m14 (j:Bool) (hC:C→j=true∨B3 k pa o1 o2 d):Ev n1 (CS (ρ:=ρ) C) (fun fu K=>p14_14 fail fu K pa o1 o2 d.k d.pa d.ct d.nm d.fam d.ty.k d.ty.n d.ty.nm (Lv.rows d.ty.ls) (Tm.rows d.ty.args) d.val.k d.val.n d.val.nm (Lv.rows d.val.ls) (Tm.rows d.val.args) (d.cs.map E1) t.k t.n t.nm (Lv.rows t.ls) (Tm.rows t.args) ty.k ty.n ty.nm (Lv.rows ty.ls) (Tm.rows ty.args) (fqO k) (fqD k) (fqP k) (fqT k) (fqY k) (fqN k) j):=by
 unfold p14_14 p14_13
 refine Ev.ite (fun hj=>m12 fail k pa d hd t ty ht hty C j (fun _=>.inl hj)) (fun hj=>?_)
 have hB:=z7c hC hj
 refine Ev.ite (fun _=>m12 fail k pa d hd t ty ht hty C _ (fun c=>(hB c).imp (fun h=>w6v h.2) id)) (fun hp=>m12 fail k pa d hd t ty ht hty C _ (fun c=>(hB c).elim (fun h=>?_) .inr))
 rw [h.1] at hp;cases hp
def B4:Prop:=(fqH k=false∧(h1≠0∨h2≠0))∨B3 k pa o1 o2 d
include hd ht hty in
theorem m15 (j:Bool) (hC:C→j=true∨B4 k pa h1 h2 o1 o2 d):Ev n1 (CS (ρ:=ρ) C) (fun fu K=>p14_15 fail fu K pa h1 h2 o1 o2 d.k d.pa d.ct d.nm d.fam d.ty.k d.ty.n d.ty.nm (Lv.rows d.ty.ls) (Tm.rows d.ty.args) d.val.k d.val.n d.val.nm (Lv.rows d.val.ls) (Tm.rows d.val.args) (d.cs.map E1) t.k t.n t.nm (Lv.rows t.ls) (Tm.rows t.args) ty.k ty.n ty.nm (Lv.rows ty.ls) (Tm.rows ty.args) (fqH k) (fqO k) (fqD k) (fqP k) (fqT k) (fqY k) (fqN k) j):=by
 unfold p14_15
 refine Ev.ite (fun _=>CS.fl C) (fun hj=>?_)
 have hB:=z7c hC hj
 refine Ev.ite (fun _=>m14 fail k pa o1 o2 d hd t ty ht hty C _ (fun c=>(hB c).imp (fun h=>w6v h.2) id)) (fun hp=>m14 fail k pa o1 o2 d hd t ty ht hty C _ (fun c=>(hB c).elim (fun h=>?_) .inr))
 rw [h.1] at hp;cases hp
def B5:Prop:=(fqQ k=false∧(fq≠0∨ce≠0))∨B4 k pa h1 h2 o1 o2 d
include hd ht hty in
theorem m17 (j:Bool) (hC:C→j=true∨B5 k pa fq ce h1 h2 o1 o2 d):Ev n1 (CS (ρ:=ρ) C) (fun fu K=>p14_17 fail fu K pa fq ce h1 h2 o1 o2 d.k d.pa d.ct d.nm d.fam d.ty.k d.ty.n d.ty.nm (Lv.rows d.ty.ls) (Tm.rows d.ty.args) d.val.k d.val.n d.val.nm (Lv.rows d.val.ls) (Tm.rows d.val.args) (d.cs.map E1) t.k t.n t.nm (Lv.rows t.ls) (Tm.rows t.args) ty.k ty.n ty.nm (Lv.rows ty.ls) (Tm.rows ty.args) (fqQ k) (fqH k) (fqO k) (fqD k) (fqP k) (fqT k) (fqY k) (fqN k) j):=by
 unfold p14_17 p14_16
 refine Ev.ite (fun hj=>m15 fail k pa h1 h2 o1 o2 d hd t ty ht hty C j (fun _=>.inl hj)) (fun hj=>?_)
 have hB:=z7c hC hj
 refine Ev.ite (fun _=>Ev.ite (fun _=>m15 fail k pa h1 h2 o1 o2 d hd t ty ht hty C _ (fun _=>.inl rfl)) (fun hz=>m15 fail k pa h1 h2 o1 o2 d hd t ty ht hty C _ (fun c=>(hB c).imp (fun h=>?_) id))) (fun hp=>m15 fail k pa h1 h2 o1 o2 d hd t ty ht hty C _ (fun c=>(hB c).elim (fun h=>?_) .inr))
 ·rcases h.2 with h | h
  ·exact absurd (z2v hz) h
  ·exact k4n h
 ·rw [h.1] at hp;cases hp
include hd ht hty in
theorem k4z (hC:C→18 < k∨B5 k pa fq ce h1 h2 o1 o2 d):Ev n1 (CS (ρ:=ρ) C) (fun fu K=>p14 fail fu K ((k:Nat):Int) pa fq ce h1 h2 o1 o2 d.k d.pa d.ct d.nm d.fam d.ty.k d.ty.n d.ty.nm (Lv.rows d.ty.ls) (Tm.rows d.ty.args) d.val.k d.val.n d.val.nm (Lv.rows d.val.ls) (Tm.rows d.val.args) (d.cs.map E1) t.k t.n t.nm (Lv.rows t.ls) (Tm.rows t.args) ty.k ty.n ty.nm (Lv.rows ty.ls) (Tm.rows ty.args)):=by
 unfold p14
 simp only [w6d]
 by_cases hk:1≤k∧k≤18
 ·simp only [if_pos hk]
  have hB:C→B5 k pa fq ce h1 h2 o1 o2 d:=fun c=>(hC c).elim (fun h=>absurd hk.2 (by omega)) id
  refine Ev.ite (fun h=>nomatch h) (fun _=>Ev.ite (fun _=>Ev.bind (w8j fail _) ?_) (fun _=>m17 fail k pa fq ce h1 h2 o1 o2 d hd t ty ht hty C _ (fun c=>.inr (hB c))))
  rintro _ ⟨b,rfl⟩
  refine Ev.ite (fun _=>m17 fail k pa fq ce h1 h2 o1 o2 d hd t ty ht hty C _ (fun _=>.inl rfl)) (fun _=>Ev.bind (w8j fail _) ?_)
  rintro _ ⟨b,rfl⟩
  exact m17 fail k pa fq ce h1 h2 o1 o2 d hd t ty ht hty C _ (fun c=>.inr (hB c))
 ·simp only [if_neg hk]
  exact Ev.ite (fun _=>CS.fl C) (fun h=>nomatch h)
include hd ht hty in
theorem k1a (hC:18 < k∨B5 k pa fq ce h1 h2 o1 o2 d):Ev n1 (fun v:(Bool→ρ)→ρ=>v=fun K=>K false) (fun fu K=>p14 fail fu K ((k:Nat):Int) pa fq ce h1 h2 o1 o2 d.k d.pa d.ct d.nm d.fam d.ty.k d.ty.n d.ty.nm (Lv.rows d.ty.ls) (Tm.rows d.ty.args) d.val.k d.val.n d.val.nm (Lv.rows d.val.ls) (Tm.rows d.val.args) (d.cs.map E1) t.k t.n t.nm (Lv.rows t.ls) (Tm.rows t.args) ty.k ty.n ty.nm (Lv.rows ty.ls) (Tm.rows ty.args)) :=
 (k4z fail k pa fq ce h1 h2 o1 o2 d hd t ty ht hty True (fun _=>hC)).mono (fun v ⟨b,hb,h⟩=>by rw [h,hb trivial])
include hd ht hty in
theorem k5e (hC:18 < k∨B5 k pa fq ce h1 h2 o1 o2 d):Ev n1 (fun v:(EL→Int→ρ)→ρ=>v=fun K=>K nilE 1) (fun fu K=>p11 fail fu K nilE ((k:Nat):Int) pa fq ce h1 h2 o1 o2 d.k d.pa d.ct d.nm d.fam d.ty.k d.ty.n d.ty.nm (Lv.rows d.ty.ls) (Tm.rows d.ty.args) d.val.k d.val.n d.val.nm (Lv.rows d.val.ls) (Tm.rows d.val.args) (d.cs.map E1) t.k t.n t.nm (Lv.rows t.ls) (Tm.rows t.args) ty.k ty.n ty.nm (Lv.rows ty.ls) (Tm.rows ty.args)):=by
 unfold p11
 refine Ev.bind (k1a fail k pa fq ce h1 h2 o1 o2 d hd t ty ht hty hC) ?_
 rintro _ rfl
 exact Ev.ite (fun _=>Ev.val _ rfl) (fun h=>nomatch h)
end
end
def p6_1 {ρ:Type} (fail:ρ) (fu:Nat) (K0:Bool→ρ) (a0:Bool):ρ :=
 K0 a0
def p6 {ρ:Type} (fail:ρ) (fu:Nat) (K0:Bool→ρ):ρ :=
 p11 fail fu (fun y1 y2=>gd (17≤[[(CV.v (.int .u8 11))],[(CV.v (.int .u8 0))],[(CV.v (.int .u8 0))],[(CV.v (.int .u8 0))],[(CV.v (.int .u8 0))],[(CV.v (.int .u8 0))],[(CV.v (.int .u8 0))],[(CV.v (.int .u8 0))],[(CV.v (.int .u8 1))],[(CV.v (.int .u8 0))],[(CV.v (.int .u8 0))],[(CV.v (.int .u8 0))],[(CV.v (.int .u8 0))],[(CV.v (.int .u8 0))],[(CV.v (.int .u8 0))],[(CV.v (.int .u8 0))],[(CV.v (.int .u8 2))]].length) fail (p17 fail fu (fun y3 y4 y5 y6 y7 y8 y9 a0 c0 d0 e0 f0 g0 i0 j0 l0 m0 n0 o0 q0 r0 s0 t0 v0 w0 x0 y0 z0 a1 c1 d1 e1 f1 g1 i1=>bif (B0 .eql y2 0) then (z6z fail y1 (fun j1=>bif (P3 .eql j1 ⟨#[18]⟩) then (bif (B0 .eql i1 0) then (bif (B0 .eql y3 11) then (bif (B0 .eql y7 1) then (bif (B0 .eql y8 2) then (p14 fail fu (fun l1=>p6_1 fail fu K0 l1) y3 y4 y5 y6 y7 y8 y9 a0 c0 d0 e0 f0 g0 i0 j0 l0 m0 n0 o0 q0 r0 s0 t0 v0 w0 x0 y0 z0 a1 c1 d1 e1 f1 g1) else (p6_1 fail fu K0 false)) else (p6_1 fail fu K0 false)) else (p6_1 fail fu K0 false)) else (p6_1 fail fu K0 false)) else (p6_1 fail fu K0 false))) else (p6_1 fail fu K0 false)) (List.take 17 [[(CV.v (.int .u8 11))],[(CV.v (.int .u8 0))],[(CV.v (.int .u8 0))],[(CV.v (.int .u8 0))],[(CV.v (.int .u8 0))],[(CV.v (.int .u8 0))],[(CV.v (.int .u8 0))],[(CV.v (.int .u8 0))],[(CV.v (.int .u8 1))],[(CV.v (.int .u8 0))],[(CV.v (.int .u8 0))],[(CV.v (.int .u8 0))],[(CV.v (.int .u8 0))],[(CV.v (.int .u8 0))],[(CV.v (.int .u8 0))],[(CV.v (.int .u8 0))],[(CV.v (.int .u8 2))]]))) nilE 18 0 0 0 0 0 0 0 0 0 0 ⟨#[]⟩ ⟨#[]⟩ 0 0 ⟨#[]⟩ nilE nilE 0 0 ⟨#[]⟩ nilE nilE nilE 0 0 ⟨#[]⟩ nilE nilE 0 0 ⟨#[]⟩ nilE nilE
def p7_1 {ρ:Type} (fail:ρ) (fu:Nat) (K0:Bool→ρ) (rec1:Int→ρ) (rec2:Int→ρ) (x0:EL) (z1 z3:Int):ρ :=
 gd (0≤z1) fail (gd (z1 < x0.length) fail (E7 fail (List.getD x0 (z1.toNat) []) (fun c4 c5 c6 c7 c8 c9 e0 c0=>bif (B0 .lss z3 ((c0.length:Nat):Int)) then (gd (0≤z1) fail (gd (z1 < x0.length) fail (E7 fail (List.getD x0 (z1.toNat) []) (fun f0 g0 i0 j0 l0 m0 n0 a0=>gd (0≤z3) fail (gd (z3 < a0.length) fail (F6 fail (List.getD a0 (z3.toNat) []) (fun o0 q0 r0 d0=>bif (B0 .gtr ((d0.length:Nat):Int) 30) then (K0 false) else (rec2 (B8 .add .i64 z3 1))))))))) else (rec1 (B8 .add .i64 z1 1)))))
def p7_1L {ρ:Type} (fail:ρ) (fu:Nat) (K0:Bool→ρ) (rec1:Int→ρ) (x0:EL) (z1:Int):Nat→Int→ρ
 | 0,_=>fail
 | n + 1,z3=>p7_1 fail fu K0 rec1 (p7_1L fail fu K0 rec1 x0 z1 n) x0 z1 z3
def p7_2 {ρ:Type} (fail:ρ) (fu:Nat) (K0:Bool→ρ) (rec1:Int→ρ) (x0:EL) (z1:Int) (j2:Bool):ρ :=
 bif j2 then (K0 false) else (p7_1L fail fu K0 rec1 x0 z1 fu 0)
def p7_3 {ρ:Type} (fail:ρ) (fu:Nat) (K0:Bool→ρ) (rec1:Int→ρ) (x0:EL) (z1:Int):ρ :=
 bif (B0 .lss z1 ((x0.length:Nat):Int)) then (gd (0≤z1) fail (gd (z1 < x0.length) fail (E7 fail (List.getD x0 (z1.toNat) []) (fun f0 g0 i0 j0 a0 l0 m0 n0=>bif (B0 .gtr ((a0.length:Nat):Int) 60) then (p7_2 fail fu K0 rec1 x0 z1 true) else (gd (0≤z1) fail (gd (z1 < x0.length) fail (E7 fail (List.getD x0 (z1.toNat) []) (fun o0 q0 r0 s0 t0 c0 v0 w0=>bif (B0 .gtr ((c0.length:Nat):Int) 60) then (p7_2 fail fu K0 rec1 x0 z1 true) else (gd (0≤z1) fail (gd (z1 < x0.length) fail (E7 fail (List.getD x0 (z1.toNat) []) (fun y0 z0 a1 c1 d1 e1 d0 f1=>bif (B0 .gtr ((d0.size:Nat):Int) 40) then (p7_2 fail fu K0 rec1 x0 z1 true) else (gd (0≤z1) fail (gd (z1 < x0.length) fail (E7 fail (List.getD x0 (z1.toNat) []) (fun g1 i1 j1 l1 m1 o1 q1 e0=>p7_2 fail fu K0 rec1 x0 z1 (B0 .gtr ((e0.length:Nat):Int) 4))))))))))))))))) else (K0 true)
def p7_3L {ρ:Type} (fail:ρ) (fu:Nat) (K0:Bool→ρ) (x0:EL):Nat→Int→ρ
 | 0,_=>fail
 | n + 1,z1=>p7_3 fail fu K0 (p7_3L fail fu K0 x0 n) x0 z1
def p7 {ρ:Type} (fail:ρ) (fu:Nat) (K0:Bool→ρ) (x0:EL) (x1:Int):ρ :=
 bif (B0 .gtr ((x0.length:Nat):Int) x1) then (K0 false) else (p7_3L fail fu K0 x0 fu 0)
def p20_1 {ρ:Type} (fail:ρ) (fu:Nat) (K0:z7g ρ) (x0:Int) (j4:Bool):ρ :=
 bif j4 then (K0 ⟨#[112,116,121]⟩ true) else (bif (B0 .eql x0 8) then (K0 ⟨#[104,111]⟩ true) else (bif (B0 .eql x0 9) then (K0 ⟨#[104,116]⟩ true) else (bif (B0 .eql x0 10) then (K0 ⟨#[104,121]⟩ true) else (bif (B0 .eql x0 15) then (K0 ⟨#[104,110]⟩ true) else (bif (B0 .eql x0 18) then (K0 ⟨#[]⟩ true) else (K0 ⟨#[]⟩ false))))))
def p20_2 {ρ:Type} (fail:ρ) (fu:Nat) (K0:z7g ρ) (x0:Int) (j3:Bool):ρ :=
 bif j3 then (K0 ⟨#[112,116]⟩ true) else (bif (B0 .eql x0 7) then (p20_1 fail fu K0 x0 (B0 .eql x0 7)) else (p20_1 fail fu K0 x0 (B0 .eql x0 16)))
def p20_3 {ρ:Type} (fail:ρ) (fu:Nat) (K0:z7g ρ) (x0:Int) (j2:Bool):ρ :=
 bif j2 then (K0 ⟨#[100]⟩ true) else (bif (B0 .eql x0 6) then (p20_2 fail fu K0 x0 (B0 .eql x0 6)) else (p20_2 fail fu K0 x0 (B0 .eql x0 17)))
def p20_4 {ρ:Type} (fail:ρ) (fu:Nat) (K0:z7g ρ) (x0:Int) (j5:Bool):ρ :=
 p20_3 fail fu K0 x0 j5
def p20_5 {ρ:Type} (fail:ρ) (fu:Nat) (K0:z7g ρ) (x0:Int) (j1:Bool):ρ :=
 bif j1 then (K0 ⟨#[104]⟩ true) else (bif (B0 .eql x0 3) then (p20_3 fail fu K0 x0 (B0 .eql x0 3)) else (bif (B0 .eql x0 4) then (p20_4 fail fu K0 x0 (B0 .eql x0 4)) else (p20_4 fail fu K0 x0 (B0 .eql x0 5))))
def p20_6 {ρ:Type} (fail:ρ) (fu:Nat) (K0:z7g ρ) (x0:Int) (j6:Bool):ρ :=
 p20_5 fail fu K0 x0 j6
def p20_7 {ρ:Type} (fail:ρ) (fu:Nat) (K0:z7g ρ) (x0:Int) (j7:Bool):ρ :=
 p20_6 fail fu K0 x0 j7
def p20_8 {ρ:Type} (fail:ρ) (fu:Nat) (K0:z7g ρ) (x0:Int) (j8:Bool):ρ :=
 p20_7 fail fu K0 x0 j8
def p20 {ρ:Type} (fail:ρ) (fu:Nat) (K0:z7g ρ) (x0:Int):ρ :=
 bif (B0 .eql x0 1) then (K0 ⟨#[102]⟩ true) else (bif (B0 .eql x0 2) then (p20_5 fail fu K0 x0 (B0 .eql x0 2)) else (bif (B0 .eql x0 11) then (p20_6 fail fu K0 x0 (B0 .eql x0 11)) else (bif (B0 .eql x0 12) then (p20_7 fail fu K0 x0 (B0 .eql x0 12)) else (bif (B0 .eql x0 13) then (p20_8 fail fu K0 x0 (B0 .eql x0 13)) else (p20_8 fail fu K0 x0 (B0 .eql x0 14))))))
def p5_1 {ρ:Type} (fail:ρ) (fu:Nat) (K0:Bool→ρ) (rec1:Int→Int→ρ) (a0 c0:Int) (d0:Bool):ρ :=
 bif d0 then (K0 true) else (rec1 a0 (B8 .add .i64 c0 1))
def p5_2 {ρ:Type} (fail:ρ) (fu:Nat) (K0:Bool→ρ) (a0:Bool):ρ :=
 K0 a0
def p5_3 {ρ:Type} (fail:ρ) (fu:Nat) (K0:Bool→ρ) (y3 y5 y7 a0 c0 d0:Int) (e0:ByteArray) (f0 g0:Int) (i0:ByteArray) (j0 l0:EL) (m0 n0:Int) (o0:ByteArray) (q0 r0 s0:EL) (t0 v0:Int) (w0:ByteArray) (x0 y0:EL) (z0 a1:Int) (c1:ByteArray) (d1 e1:EL) (f1 g1 i1 j1 l1:Int) (m1:ByteArray):ρ :=
 p11 fail fu (fun o1 q1=>p14 fail fu (fun r1=>bif (!r1) then (bif (B0 .eql q1 1) then (p5_2 fail fu K0 (B0 .eql ((o1.length:Nat):Int) 0)) else (p5_2 fail fu K0 false)) else (p5_2 fail fu K0 false)) y3 f1 y5 g1 y7 i1 j1 a0 l1 c0 d0 m1 e0 f0 g0 i0 j0 l0 m0 n0 o0 q0 r0 s0 t0 v0 w0 x0 y0 z0 a1 c1 d1 e1) nilE y3 f1 y5 g1 y7 i1 j1 a0 l1 c0 d0 m1 e0 f0 g0 i0 j0 l0 m0 n0 o0 q0 r0 s0 t0 v0 w0 x0 y0 z0 a1 c1 d1 e1
def p5_4 {ρ:Type} (fail:ρ) (fu:Nat) (K0:Bool→ρ) (y3 y4 y5 y7 a0 c0 d0:Int) (e0:ByteArray) (f0 g0:Int) (i0:ByteArray) (j0 l0:EL) (m0 n0:Int) (o0:ByteArray) (q0 r0 s0:EL) (t0 v0:Int) (w0:ByteArray) (x0 y0:EL) (z0 a1:Int) (c1:ByteArray) (d1 e1:EL) (f1 g1 i1 j1:Int) (l1:ByteArray):ρ :=
 p5_3 fail fu K0 y3 y5 y7 a0 c0 d0 e0 f0 g0 i0 j0 l0 m0 n0 o0 q0 r0 s0 t0 v0 w0 x0 y0 z0 a1 c1 d1 e1 y4 f1 g1 i1 j1 l1
def p5_5 {ρ:Type} (fail:ρ) (fu:Nat) (K0:Bool→ρ) (y3 y4 y5 y7 y8 a0 c0 d0:Int) (e0:ByteArray) (f0 g0:Int) (i0:ByteArray) (j0 l0:EL) (m0 n0:Int) (o0:ByteArray) (q0 r0 s0:EL) (t0 v0:Int) (w0:ByteArray) (x0 y0:EL) (z0 a1:Int) (c1:ByteArray) (d1 e1:EL) (f1 g1 i1:Int) (j1:ByteArray):ρ :=
 p5_4 fail fu K0 y3 y4 y5 y7 a0 c0 d0 e0 f0 g0 i0 j0 l0 m0 n0 o0 q0 r0 s0 t0 v0 w0 x0 y0 z0 a1 c1 d1 e1 f1 y8 g1 i1 j1
def p5_6 {ρ:Type} (fail:ρ) (fu:Nat) (K0:Bool→ρ) (y3 y4 y5 y7 y8 y9 a0 c0 d0:Int) (e0:ByteArray) (f0 g0:Int) (i0:ByteArray) (j0 l0:EL) (m0 n0:Int) (o0:ByteArray) (q0 r0 s0:EL) (t0 v0:Int) (w0:ByteArray) (x0 y0:EL) (z0 a1:Int) (c1:ByteArray) (d1 e1:EL) (f1 g1:Int) (i1:ByteArray):ρ :=
 p5_5 fail fu K0 y3 y4 y5 y7 y8 a0 c0 d0 e0 f0 g0 i0 j0 l0 m0 n0 o0 q0 r0 s0 t0 v0 w0 x0 y0 z0 a1 c1 d1 e1 f1 y9 g1 i1
def p5_7 {ρ:Type} (fail:ρ) (fu:Nat) (K0:Bool→ρ) (y3 y4 y5 y6 y7 y8 y9 a0 c0 d0:Int) (e0:ByteArray) (f0 g0:Int) (i0:ByteArray) (j0 l0:EL) (m0 n0:Int) (o0:ByteArray) (q0 r0 s0:EL) (t0 v0:Int) (w0:ByteArray) (x0 y0:EL) (z0 a1:Int) (c1:ByteArray) (d1 e1:EL) (f1:Int) (g1:ByteArray):ρ :=
 p5_6 fail fu K0 y3 y4 y5 y7 y8 y9 a0 c0 d0 e0 f0 g0 i0 j0 l0 m0 n0 o0 q0 r0 s0 t0 v0 w0 x0 y0 z0 a1 c1 d1 e1 y6 f1 g1
def p5_8 {ρ:Type} (fail:ρ) (fu:Nat) (K0:Bool→ρ) (rec1:Int→Int→ρ) (y3 y4 y5 y6 y7 y8 y9 e0 j1 f0 g0:Int) (l1 i0:ByteArray) (j0 l0:Int) (m0:ByteArray) (n0 o0:EL) (q0 r0:Int) (s0:ByteArray) (t0 v0 w0:EL) (x0 y0:Int) (z0:ByteArray) (a1 c1:EL) (d1 e1:Int) (f1:ByteArray) (g1 i1:EL) (d0:ByteArray) (c0 a0:Int):ρ :=
 bif (B0 .lss a0 ((d0.size:Nat):Int)) then (gd (0≤a0) fail (gd (a0 < (d0.size:Nat)) fail (bif (B0 .eql ((List.getD d0.data.toList a0.toNat 0).toNat:Nat) c0) then (p5_1 fail fu K0 rec1 c0 a0 true) else (gd (0≤a0) fail (gd (a0 < (d0.size:Nat)) fail (bif (B0 .eql ((List.getD d0.data.toList a0.toNat 0).toNat:Nat) 100) then (p5_1 fail fu K0 rec1 c0 a0 true) else (gd (0≤a0) fail (gd (a0 < (d0.size:Nat)) fail (bif (B0 .eql ((List.getD d0.data.toList a0.toNat 0).toNat:Nat) 110) then (bif (B0 .eql c0 100) then (p5_1 fail fu K0 rec1 c0 a0 true) else (p5_1 fail fu K0 rec1 c0 a0 (B0 .eql c0 110))) else (p5_1 fail fu K0 rec1 c0 a0 false)))))))))) else (bif (B0 .eql c0 112) then (p5_3 fail fu K0 y3 y5 y7 e0 f0 g0 i0 j0 l0 m0 n0 o0 q0 r0 s0 t0 v0 w0 x0 y0 z0 a1 c1 d1 e1 f1 g1 i1 1 y6 y8 y9 j1 l1) else (bif (B0 .eql c0 104) then (p5_4 fail fu K0 y3 y4 y5 y7 e0 f0 g0 i0 j0 l0 m0 n0 o0 q0 r0 s0 t0 v0 w0 x0 y0 z0 a1 c1 d1 e1 f1 g1 i1 y6 7 y9 j1 l1) else (bif (B0 .eql c0 111) then (p5_5 fail fu K0 y3 y4 y5 y7 y8 e0 f0 g0 i0 j0 l0 m0 n0 o0 q0 r0 s0 t0 v0 w0 x0 y0 z0 a1 c1 d1 e1 f1 g1 i1 y6 7 j1 l1) else (bif (B0 .eql c0 102) then (p5_6 fail fu K0 y3 y4 y5 y7 y8 y9 e0 f0 g0 i0 j0 l0 m0 n0 o0 q0 r0 s0 t0 v0 w0 x0 y0 z0 a1 c1 d1 e1 f1 g1 i1 1 j1 l1) else (bif (B0 .eql c0 110) then (p5_7 fail fu K0 y3 y4 y5 y6 y7 y8 y9 e0 f0 g0 i0 j0 l0 m0 n0 o0 q0 r0 s0 t0 v0 w0 x0 y0 z0 a1 c1 d1 e1 f1 g1 i1 j1 ⟨#[120]⟩) else (p5_7 fail fu K0 y3 y4 y5 y6 y7 y8 y9 e0 f0 g0 i0 j0 l0 m0 n0 o0 q0 r0 s0 t0 v0 w0 x0 y0 z0 a1 c1 d1 e1 f1 g1 i1 1 l1))))))
def p5_8L {ρ:Type} (fail:ρ) (fu:Nat) (K0:Bool→ρ) (y3 y4 y5 y6 y7 y8 y9 a0 c0 d0 e0:Int) (f0 g0:ByteArray) (i0 j0:Int) (l0:ByteArray) (m0 n0:EL) (o0 q0:Int) (r0:ByteArray) (s0 t0 v0:EL) (w0 x0:Int) (y0:ByteArray) (z0 a1:EL) (c1 d1:Int) (e1:ByteArray) (f1 g1:EL) (i1:ByteArray):Nat→Int→Int→ρ
 | 0,_,_=>fail
 | n + 1,j1,l1=>p5_8 fail fu K0 (p5_8L fail fu K0 y3 y4 y5 y6 y7 y8 y9 a0 c0 d0 e0 f0 g0 i0 j0 l0 m0 n0 o0 q0 r0 s0 t0 v0 w0 x0 y0 z0 a1 c1 d1 e1 f1 g1 i1 n) y3 y4 y5 y6 y7 y8 y9 a0 c0 d0 e0 f0 g0 i0 j0 l0 m0 n0 o0 q0 r0 s0 t0 v0 w0 x0 y0 z0 a1 c1 d1 e1 f1 g1 i1 j1 l1
def p5 {ρ:Type} (fail:ρ) (fu:Nat) (K0:Bool→ρ) (x0 x1 x2 x3:Int) (x4 x5:EL) (x6:ByteArray) (x7:EL) (x8:Int):ρ :=
 p6 fail fu (fun y1=>bif (!y1) then (K0 false) else (gd (1≤[[(CV.v (.int .u8 x0)),(CV.v (.int .u8 x1)),(CV.v (.int .u8 x2)),(CV.v (.int .u8 x3)),(CV.sl 1 x4 none),(CV.sl 1 x5 none),(CV.v (.string x6)),(CV.sl 4 x7 none)]].length) fail (p7 fail fu (fun y2=>bif (!y2) then (K0 true) else (p8 fail fu (fun y3 y4 y5 y6 y7 y8 y9 a0 c0 d0 e0 f0 g0 i0 j0 l0 m0 n0 o0 q0 r0 s0 t0 v0 w0 y0 z0 a1 c1 d1 e1 f1 g1 i1=>p20 fail fu (fun j1 m1=>p14 fail fu (fun l1=>bif (!l1) then (K0 true) else (gd (((((⟨#[112,104,111,102,110,100]⟩:ByteArray).size:Nat):Int):Int)≠0) fail (gd ((0:Int)≤(B8 .rem .i64 (IntKind.i64.wrap x8) (((⟨#[112,104,111,102,110,100]⟩:ByteArray).size:Nat):Int))) fail (gd ((B8 .rem .i64 (IntKind.i64.wrap x8) (((⟨#[112,104,111,102,110,100]⟩:ByteArray).size:Nat):Int):Int) < ((⟨#[112,104,111,102,110,100]⟩:ByteArray).size:Nat)) fail (p5_8L fail fu K0 y3 y4 y5 y6 y7 y8 y9 a0 c0 d0 e0 f0 g0 i0 j0 l0 m0 n0 o0 q0 r0 s0 t0 v0 w0 y0 z0 a1 c1 d1 e1 f1 g1 i1 j1 fu ((List.getD (⟨#[112,104,111,102,110,100]⟩:ByteArray).data.toList (B8 .rem .i64 (IntKind.i64.wrap x8) (((⟨#[112,104,111,102,110,100]⟩:ByteArray).size:Nat):Int):Int).toNat 0).toNat:Nat) 0))))) y3 y4 y5 y6 y7 y8 y9 a0 c0 d0 e0 f0 g0 i0 j0 l0 m0 n0 o0 q0 r0 s0 t0 v0 w0 y0 z0 a1 c1 d1 e1 f1 g1 i1) y3) x0 x1 x2 x3 x4 x5 x6 x7)) (List.take 1 [[(CV.v (.int .u8 x0)),(CV.v (.int .u8 x1)),(CV.v (.int .u8 x2)),(CV.v (.int .u8 x3)),(CV.sl 1 x4 none),(CV.sl 1 x5 none),(CV.v (.string x6)),(CV.sl 4 x7 none)]]) 1))) 
section
variable {ρ:Type} (fail:ρ)
section
variable {κ ι:Type}
def lo3 (lo:ι→Nat) (i:ι × Nat):Nat:=min (lo i.1) i.2
theorem Ev.loopG {lo:ι→Nat} {S:(κ→ρ)→Prop} {f body:ι × Nat→κ→ρ} (hf:∀ m n K,f (m,n + 1) K=body (m,n) K) (h:Ev (lo3 lo) S body):Ev (lo3 lo) S f:=by
 obtain⟨v,hv,N,hN⟩:=h
 refine⟨v,hv,N + 1,fun i hi K=>?_⟩
 obtain⟨m,n⟩:=i
 cases n with
 | zero=>exact absurd hi (by simp [lo3])
 | succ n=>rw [hf,hN (m,n) (by simp only [lo3] at *;omega)]
theorem Ev.fstG {lo:ι→Nat} {S:(κ→ρ)→Prop} {r:ι→κ→ρ} (h:Ev lo S r):Ev (lo3 lo) S (fun i K=>r i.1 K):=by
 obtain⟨v,hv,N,hN⟩:=h
 exact⟨v,hv,N,fun i hi K=>hN i.1 (by simp only [lo3] at *;omega) K⟩
theorem Ev.diagG {lo:ι→Nat} {S:(κ→ρ)→Prop} {r:ι × Nat→κ→ρ} (g:ι→Nat) (hg:∀ i,lo i≤g i) (h:Ev (lo3 lo) S r):Ev lo S (fun i K=>r (i,g i) K):=by
 obtain⟨v,hv,N,hN⟩:=h
 exact⟨v,hv,N,fun i hi K=>hN (i,g i) (by have:=hg i;simp only [lo3] at *;omega) K⟩
end
structure Ac where
 k:Nat
 h:Nat
 o:Nat
 dr:Nat
 a:List UInt8
 b:List UInt8
 nm:ByteArray
 ts:List Tu
def Q4 (a:Ac):List CV:=[(CV.v (.int .u8 ((a.k:Nat):Int))),(CV.v (.int .u8 ((a.h:Nat):Int))),(CV.v (.int .u8 ((a.o:Nat):Int))),(CV.v (.int .u8 ((a.dr:Nat):Int))),(CV.sl 1 (E8 a.a) none),(CV.sl 1 (E8 a.b) none),(CV.v (.string a.nm)),(CV.sl 4 (a.ts.map K3) none)]
structure Ac.byte (c:Ac):Prop where
 k:c.k < 256
 h:c.h < 256
 o:c.o < 256
 dr:c.dr < 256
 ts:∀ t ∈ c.ts,t.w < 256∧t.p < 256∧t.h < 256
structure Ac.light (c:Ac):Prop where
 la:c.a.length≤60
 lb:c.b.length≤60
 ln:c.nm.size≤40
 ltl:c.ts.length≤4
 lts:∀ t ∈ c.ts,t.by_.length≤30
def LiS (a:Ac) (v:(Bool→ρ)→ρ):Prop:=∃ b,(b=true→a.light)∧v=fun K=>K b
theorem ev7 (a:Ac):Ev n1 (LiS (ρ:=ρ) a) (fun fu K=>p7 fail fu K [Q4 a] 1):=by
 have eA:∀ κ:Int→Int→Int→Int→EL→EL→ByteArray→EL→ρ,E7 fail (List.getD [Q4 a] ((0:Int)).toNat []) κ=κ ((a.k:Nat):Int) ((a.h:Nat):Int) ((a.o:Nat):Int) ((a.dr:Nat):Int) (E8 a.a) (E8 a.b) a.nm (a.ts.map K3):=fun κ=>rfl
 have e01:B8 .add .i64 0 1=1:=by rw [z7e (by omega) (by omega)];rfl
 have hm:(a.ts.map K3).length=a.ts.length:=List.length_map _
 have no:∀ {ι:Type} {lo:ι→Nat},Ev lo (LiS (ρ:=ρ) a) (fun _ K=>K false):=Ev.val _ ⟨false,(fun h=>nomatch h),rfl⟩
 have hend:a.light→Ev n2 (LiS (ρ:=ρ) a) (fun i K=>p7_3L fail i.1 K [Q4 a] i.2 1):=by
  intro hs
  refine Ev.loop (body:=fun i K=>p7_3 fail i.1 K (p7_3L fail i.1 K [Q4 a] i.2) [Q4 a] 1) (fun _ _ _=>rfl) ?_
  unfold p7_3
  exact Ev.ite (fun h=>absurd (J5 h) (by simp)) (fun _=>Ev.val _ ⟨true,fun _=>hs,rfl⟩)
 have hin:a.a.length≤60→a.b.length≤60→a.nm.size≤40→a.ts.length≤4→∀ (r i:Nat),i + r=a.ts.length→(∀ j (h:j < a.ts.length),j < i→a.ts[j].by_.length≤30) →
   Ev (lo3 n2) (LiS (ρ:=ρ) a) (fun q K=>p7_1L fail q.1.1 K (p7_3L fail q.1.1 K [Q4 a] q.1.2) [Q4 a] 0 q.2 ((i:Nat):Int)):=by
  intro ha hb hnm htl r
  induction r with
  | zero =>
   intro i hi hby
   refine Ev.loopG (body:=fun q K=>p7_1 fail q.1.1 K (p7_3L fail q.1.1 K [Q4 a] q.1.2) (p7_1L fail q.1.1 K (p7_3L fail q.1.1 K [Q4 a] q.1.2) [Q4 a] 0 q.2) [Q4 a] 0 ((i:Nat):Int)) (fun _ _ _=>rfl) ?_
   unfold p7_1
   simp only [eA]
   refine Ev.gd (by omega) (Ev.gd (by simp) (Ev.ite (fun h=>absurd (J5 h) (by omega)) (fun _=>?_)))
   rw [e01]
   refine Ev.fstG (hend ⟨ha,hb,hnm,htl,fun t ht=>?_⟩)
   obtain⟨j,hj,rfl⟩:=List.getElem_of_mem ht
   exact hby j hj (by omega)
  | succ r ih =>
   intro i hi hby
   have hil:i < a.ts.length:=by omega
   have eT:∀ κ:Int→Int→Int→EL→ρ,F6 fail (List.getD (a.ts.map K3) (((i:Nat):Int)).toNat []) κ=κ ((a.ts[i].w:Nat):Int) ((a.ts[i].p:Nat):Int) ((a.ts[i].h:Nat):Int) (E8 a.ts[i].by_):=fun κ=>by
    rw [Int.toNat_natCast,M3 K3 [] a.ts _ hil];rfl
   refine Ev.loopG (body:=fun q K=>p7_1 fail q.1.1 K (p7_3L fail q.1.1 K [Q4 a] q.1.2) (p7_1L fail q.1.1 K (p7_3L fail q.1.1 K [Q4 a] q.1.2) [Q4 a] 0 q.2) [Q4 a] 0 ((i:Nat):Int)) (fun _ _ _=>rfl) ?_
   unfold p7_1
   simp only [eA,eT]
   refine Ev.gd (by omega) (Ev.gd (by simp) (Ev.ite (fun _=>Ev.gd (by omega) (Ev.gd (by simp) (Ev.gd (by omega) (Ev.gd (by omega) (Ev.ite (fun _=>no) (fun h30=>?_)))))) (fun h=>absurd (z2w h) (by omega))))
   have h30':a.ts[i].by_.length≤30:=by
    have:(((E8 a.ts[i].by_).length:Nat):Int)≤30:=by simpa [B0] using h30
    rw [K6] at this;omega
   rw [L7 (a:=i) (by omega)]
   refine ih (i + 1) (by omega) (fun j hj hji=>?_)
   by_cases hjj:j=i
   ·subst hjj;exact h30'
   ·exact hby j hj (by omega)
 have hout:Ev n2 (LiS (ρ:=ρ) a) (fun i K=>p7_3L fail i.1 K [Q4 a] i.2 0):=by
  refine Ev.loop (body:=fun i K=>p7_3 fail i.1 K (p7_3L fail i.1 K [Q4 a] i.2) [Q4 a] 0) (fun _ _ _=>rfl) ?_
  unfold p7_3 p7_2
  simp only [eA]
  have le:∀ {x y:Int},B0 .gtr x y=false→x≤y:=fun h=>by simpa [B0] using h
  refine Ev.ite (fun _=>Ev.gd (by omega) (Ev.gd (by simp) (Ev.ite (fun _=>Ev.ite (fun _=>no) (fun h=>nomatch h)) (fun ha=>Ev.gd (by omega) (Ev.gd (by simp) (Ev.ite (fun _=>Ev.ite (fun _=>no) (fun h=>nomatch h)) (fun hb=>Ev.gd (by omega) (Ev.gd (by simp) (Ev.ite (fun _=>Ev.ite (fun _=>no) (fun h=>nomatch h)) (fun hn=>Ev.gd (by omega) (Ev.gd (by simp) (Ev.ite (fun _=>no) (fun ht=>?_)))))))))))))  (fun h=>absurd (z2w h) (by simp))
  have ha':=le ha;have hb':=le hb;have hn':=le hn;have ht':=le ht
  rw [K6] at ha' hb'
  rw [hm] at ht'
  exact Ev.diagG (fun i=>i.1) (fun i=>by simp only [n2];omega) (hin (by omega) (by omega) (by omega) (by omega) _ 0 (Nat.zero_add _) (fun j _ h=>absurd h (by omega)))
 unfold p7
 exact Ev.ite (fun _=>no) (fun _=>Ev.diag hout)
def rqL:Nat→ByteArray
 | 1=>⟨#[102]⟩
 | 2=>⟨#[104]⟩
 | 3=>⟨#[100]⟩
 | 4=>⟨#[100]⟩
 | 5=>⟨#[100]⟩
 | 6=>⟨#[112,116]⟩
 | 7=>⟨#[112,116,121]⟩
 | 8=>⟨#[104,111]⟩
 | 9=>⟨#[104,116]⟩
 | 10=>⟨#[104,121]⟩
 | 11=>⟨#[104]⟩
 | 12=>⟨#[104]⟩
 | 13=>⟨#[104]⟩
 | 14=>⟨#[104]⟩
 | 15=>⟨#[104,110]⟩
 | 16=>⟨#[112,116,121]⟩
 | 17=>⟨#[112,116]⟩
 | _=>⟨#[]⟩
theorem ev20 (k:Nat) (h1:3≤k) (h2:k≤20):Ev n1 (fun v:(ByteArray→Bool→ρ)→ρ=>∃ b,v=fun K=>K (rqL k) b) (fun fu K=>p20 fail fu K ((k:Nat):Int)):=by
 have:k=3∨k=4∨k=5∨k=6∨k=7∨k=8∨k=9∨k=10∨k=11∨k=12∨k=13∨k=14∨k=15∨k=16∨k=17∨k=18∨k=19∨k=20:=by omega
 rcases this with rfl | rfl | rfl | rfl | rfl | rfl | rfl | rfl | rfl | rfl | rfl | rfl | rfl | rfl | rfl | rfl | rfl | rfl<;>first | exact⟨_,⟨true,rfl⟩,0,fun _ _ _=>rfl⟩ | exact⟨_,⟨false,rfl⟩,0,fun _ _ _=>rfl⟩
def w5y (x c:Nat):Bool:=x == c || x == 100 || (x == 110 && (c == 100 || c == 110))
theorem k2y:∀ k < 21,3≤k→∀ c ∈ [112,104,111,102,110,100],((rqL k).data.toList.all fun x=>!(w5y x.toNat c))=true→18 < k∨(fqD k=false∧(c=112→fqP k=false)∧(c=104→fqH k=false)∧(c=111→fqO k=false)∧(c=102→fqQ k=false)∧(c=110→fqN k=false)):=by
 intro k hk h3 c hc h
 simp only [List.mem_cons,List.not_mem_nil,or_false] at hc
 have:k=3∨k=4∨k=5∨k=6∨k=7∨k=8∨k=9∨k=10∨k=11∨k=12∨k=13∨k=14∨k=15∨k=16∨k=17∨k=18∨k=19∨k=20:=by omega
 rcases this with rfl | rfl | rfl | rfl | rfl | rfl | rfl | rfl | rfl | rfl | rfl | rfl | rfl | rfl | rfl | rfl | rfl | rfl<;>rcases hc with rfl | rfl | rfl | rfl | rfl | rfl<;>revert h<;>decide
theorem k1w:P3 .eql (⟨#[120]⟩:ByteArray) ⟨#[]⟩=false:=by first | decide | kernel_rfl | simp [P3]
def TrS (v:(Bool→ρ)→ρ):Prop:=v=fun K=>K true
section
variable (k:Nat) (hk3:3≤k) (hk:k≤20) (t ty:Tm) (ht:t.thin) (hty:ty.thin)
include ht hty in
theorem z7k (pa fq ce h1 h2 o1 o2:Int) (d:Dc) (hd:d.ok) (hB:18 < k∨B5 k pa fq ce h1 h2 o1 o2 d):Ev n1 (TrS (ρ:=ρ)) (fun fu K=>p5_3 fail fu K ((k:Nat):Int) fq h1 o2 d.pa d.ct d.fam d.ty.k d.ty.n d.ty.nm (Lv.rows d.ty.ls) (Tm.rows d.ty.args) d.val.k d.val.n d.val.nm (Lv.rows d.val.ls) (Tm.rows d.val.args) (d.cs.map E1) t.k t.n t.nm (Lv.rows t.ls) (Tm.rows t.args) ty.k ty.n ty.nm (Lv.rows ty.ls) (Tm.rows ty.args) pa ce h2 o1 d.k d.nm):=by
 unfold p5_3 p5_2
 refine Ev.bind (k5e fail k pa fq ce h1 h2 o1 o2 d hd t ty ht hty hB) ?_
 rintro _ rfl
 refine Ev.bind (k1a fail k pa fq ce h1 h2 o1 o2 d hd t ty ht hty hB) ?_
 rintro _ rfl
 exact Ev.ite (fun _=>Ev.ite (fun _=>Ev.val _ rfl) (fun h=>nomatch h)) (fun h=>nomatch h)
include ht hty hk3 hk in
theorem k3x (pa fq ce h1 h2 o1 o2:Int) (d:Dc) (hd:d.ok) (c:Nat) (hc:c ∈ [112,104,111,102,110,100]) (hn:((rqL k).data.toList.all fun x=>!(w5y x.toNat c))=true) :
  Ev n1 (TrS (ρ:=ρ)) (fun fu K=>bif (B0 .eql ((c:Nat):Int) 112) then (p5_3 fail fu  K ((k:Nat):Int) fq h1 o2 d.pa d.ct d.fam d.ty.k d.ty.n d.ty.nm (Lv.rows d.ty.ls) (Tm.rows d.ty.args) d.val.k d.val.n d.val.nm (Lv.rows d.val.ls) (Tm.rows d.val.args) (d.cs.map E1) t.k t.n t.nm (Lv.rows t.ls) (Tm.rows t.args) ty.k ty.n ty.nm (Lv.rows ty.ls) (Tm.rows ty.args) 1 ce h2 o1 d.k d.nm) else (bif (B0 .eql ((c:Nat):Int) 104) then (p5_4 fail fu  K ((k:Nat):Int) pa fq h1 o2 d.pa d.ct d.fam d.ty.k d.ty.n d.ty.nm (Lv.rows d.ty.ls) (Tm.rows d.ty.args) d.val.k d.val.n d.val.nm (Lv.rows d.val.ls) (Tm.rows d.val.args) (d.cs.map E1) t.k t.n t.nm (Lv.rows t.ls) (Tm.rows t.args) ty.k ty.n ty.nm (Lv.rows ty.ls) (Tm.rows ty.args) ce 7 o1 d.k d.nm) else (bif (B0 .eql ((c:Nat):Int) 111) then (p5_5 fail fu  K ((k:Nat):Int) pa fq h1 h2 o2 d.pa d.ct d.fam d.ty.k d.ty.n d.ty.nm (Lv.rows d.ty.ls) (Tm.rows d.ty.args) d.val.k d.val.n d.val.nm (Lv.rows d.val.ls) (Tm.rows d.val.args) (d.cs.map E1) t.k t.n t.nm (Lv.rows t.ls) (Tm.rows t.args) ty.k ty.n ty.nm (Lv.rows ty.ls) (Tm.rows ty.args) ce 7 d.k d.nm) else (bif (B0 .eql ((c:Nat):Int) 102) then (p5_6 fail fu  K ((k:Nat):Int) pa fq h1 h2 o1 o2 d.pa d.ct d.fam d.ty.k d.ty.n d.ty.nm (Lv.rows d.ty.ls) (Tm.rows d.ty.args) d.val.k d.val.n d.val.nm (Lv.rows d.val.ls) (Tm.rows d.val.args) (d.cs.map E1) t.k t.n t.nm (Lv.rows t.ls) (Tm.rows t.args) ty.k ty.n ty.nm (Lv.rows ty.ls) (Tm.rows ty.args) 1 d.k d.nm) else (bif (B0 .eql ((c:Nat):Int) 110) then (p5_7 fail fu  K ((k:Nat):Int) pa fq ce h1 h2 o1 o2 d.pa d.ct d.fam d.ty.k d.ty.n d.ty.nm (Lv.rows d.ty.ls) (Tm.rows d.ty.args) d.val.k d.val.n d.val.nm (Lv.rows d.val.ls) (Tm.rows d.val.args) (d.cs.map E1) t.k t.n t.nm (Lv.rows t.ls) (Tm.rows t.args) ty.k ty.n ty.nm (Lv.rows ty.ls) (Tm.rows ty.args) d.k ⟨#[120]⟩) else (p5_7 fail fu  K ((k:Nat):Int) pa fq ce h1 h2 o1 o2 d.pa d.ct d.fam d.ty.k d.ty.n d.ty.nm (Lv.rows d.ty.ls) (Tm.rows d.ty.args) d.val.k d.val.n d.val.nm (Lv.rows d.val.ls) (Tm.rows d.val.args) (d.cs.map E1) t.k t.n t.nm (Lv.rows t.ls) (Tm.rows t.args) ty.k ty.n ty.nm (Lv.rows ty.ls) (Tm.rows ty.args) 1 d.nm)))))):=by
 have hh:=k2y k (by omega) hk3 c hc hn
 have e:∀ j:Int,B0 .eql ((c:Nat):Int) j=true→((c:Nat):Int)=j:=fun j h=>by simpa [B0] using h
 have ne:∀ j:Int,B0 .eql ((c:Nat):Int) j=false→((c:Nat):Int)≠j:=fun j h=>by simpa [B0] using h
 unfold p5_7 p5_6 p5_5 p5_4
 refine Ev.ite (fun h=>?_) (fun n1=>Ev.ite (fun h=>?_) (fun n2=>Ev.ite (fun h=>?_) (fun n3=>Ev.ite (fun h=>?_) (fun n4=>Ev.ite (fun h=>?_) (fun n5=>?_)))))
 ·have hc':=e _ h
  exact z7k fail k t ty ht hty 1 fq ce h1 h2 o1 o2 d hd (hh.imp id (fun g=>.inr (.inr (.inr (.inl ⟨g.2.1 (by omega),by decide⟩)))))
 ·have hc':=e _ h
  exact z7k fail k t ty ht hty pa fq ce h1 7 o1 o2 d hd (hh.imp id (fun g=>.inr (.inl ⟨g.2.2.1 (by omega),.inr (by decide)⟩)))
 ·have hc':=e _ h
  exact z7k fail k t ty ht hty pa fq ce h1 h2 7 o2 d hd (hh.imp id (fun g=>.inr (.inr (.inl ⟨g.2.2.2.1 (by omega),.inl (by decide)⟩))))
 ·have hc':=e _ h
  exact z7k fail k t ty ht hty pa fq 1 h1 h2 o1 o2 d hd (hh.imp id (fun g=>.inl ⟨g.2.2.2.2.1 (by omega),.inr (by decide)⟩))
 ·have hc':=e _ h
  exact z7k fail k t ty ht hty pa fq ce h1 h2 o1 o2 ⟨d.k,d.pa,d.ct,⟨#[120]⟩,d.fam,d.ty,d.val,d.cs⟩ ⟨hd.k0,hd.k3,hd.pa0,hd.pa5,hd.ct0,hd.ct5,(by show (⟨#[120]⟩:ByteArray).size≤40;decide),hd.fam,hd.ty,hd.val,hd.cl,hd.cs⟩ (hh.imp id (fun g=>.inr (.inr (.inr (.inr ⟨g.1,.inr ⟨g.2.2.2.2.2 (by omega),k1w⟩⟩)))))
 ·exact z7k fail k t ty ht hty pa fq ce h1 h2 o1 o2 ⟨1,d.pa,d.ct,d.nm,d.fam,d.ty,d.val,d.cs⟩ ⟨by simp,by simp,hd.pa0,hd.pa5,hd.ct0,hd.ct5,hd.nm,hd.fam,hd.ty,hd.val,hd.cl,hd.cs⟩ (hh.imp id (fun g=>.inr (.inr (.inr (.inr ⟨g.1,.inl (by simp)⟩)))))
include ht hty hk3 hk in
theorem k4o (pa fq ce h1 h2 o1 o2:Int) (d:Dc) (hd:d.ok) (c:Nat) (hc:c ∈ [112,104,111,102,110,100]) (L:ByteArray) (hL:L=rqL k) (hLs:L.size≤1000):∀ (r z:Nat),z + r=L.size→(∀ j,j < z→w5y (L.data.toList.getD j 0).toNat c=false) →
  Ev n2 (TrS (ρ:=ρ)) (fun i K=>p5_8L fail i.1 K ((k:Nat):Int) pa fq ce h1 h2 o1 o2 d.k d.pa d.ct d.nm d.fam d.ty.k d.ty.n d.ty.nm (Lv.rows d.ty.ls) (Tm.rows d.ty.args) d.val.k d.val.n d.val.nm (Lv.rows d.val.ls) (Tm.rows d.val.args) (d.cs.map E1) t.k t.n t.nm (Lv.rows t.ls) (Tm.rows t.args) ty.k ty.n ty.nm (Lv.rows ty.ls) (Tm.rows ty.args) L i.2 ((c:Nat):Int) ((z:Nat):Int)):=by
 intro r
 induction r with
 | zero =>
  intro z hz hno
  refine Ev.loop (body:=fun i K=>p5_8 fail i.1 K (p5_8L fail i.1 K ((k:Nat):Int) pa fq ce h1 h2 o1 o2 d.k d.pa d.ct d.nm d.fam d.ty.k d.ty.n d.ty.nm (Lv.rows d.ty.ls) (Tm.rows d.ty.args) d.val.k d.val.n d.val.nm (Lv.rows d.val.ls) (Tm.rows d.val.args) (d.cs.map E1) t.k t.n t.nm (Lv.rows t.ls) (Tm.rows t.args) ty.k ty.n ty.nm (Lv.rows ty.ls) (Tm.rows ty.args) L i.2) ((k:Nat):Int) pa fq ce h1 h2 o1 o2 d.k d.pa d.ct d.nm d.fam d.ty.k d.ty.n d.ty.nm (Lv.rows d.ty.ls) (Tm.rows d.ty.args) d.val.k d.val.n d.val.nm (Lv.rows d.val.ls) (Tm.rows d.val.args) (d.cs.map E1) t.k t.n t.nm (Lv.rows t.ls) (Tm.rows t.args) ty.k ty.n ty.nm (Lv.rows ty.ls) (Tm.rows ty.args) L ((c:Nat):Int) ((z:Nat):Int)) (fun _ _ _=>rfl) ?_
  unfold p5_8
  refine Ev.ite (fun h=>absurd (J5 h) (by omega)) (fun _=>Ev.fst (k3x fail k hk3 hk t ty ht hty pa fq ce h1 h2 o1 o2 d hd c hc ?_))
  rw [List.all_eq_true]
  intro x hx
  obtain⟨j,hj,rfl⟩:=List.getElem_of_mem hx
  have hj2:j < L.data.toList.length:=by rw [hL];exact hj
  have hsz:L.data.toList.length=L.size:=by simp
  have:=hno j (by omega)
  subst hL
  rw [List.getD,List.getElem?_eq_getElem hj] at this
  simp only [Option.getD_some] at this
  rw [this];rfl
 | succ r ih =>
  intro z hz hno
  refine Ev.loop (body:=fun i K=>p5_8 fail i.1 K (p5_8L fail i.1 K ((k:Nat):Int) pa fq ce h1 h2 o1 o2 d.k d.pa d.ct d.nm d.fam d.ty.k d.ty.n d.ty.nm (Lv.rows d.ty.ls) (Tm.rows d.ty.args) d.val.k d.val.n d.val.nm (Lv.rows d.val.ls) (Tm.rows d.val.args) (d.cs.map E1) t.k t.n t.nm (Lv.rows t.ls) (Tm.rows t.args) ty.k ty.n ty.nm (Lv.rows ty.ls) (Tm.rows ty.args) L i.2) ((k:Nat):Int) pa fq ce h1 h2 o1 o2 d.k d.pa d.ct d.nm d.fam d.ty.k d.ty.n d.ty.nm (Lv.rows d.ty.ls) (Tm.rows d.ty.args) d.val.k d.val.n d.val.nm (Lv.rows d.val.ls) (Tm.rows d.val.args) (d.cs.map E1) t.k t.n t.nm (Lv.rows t.ls) (Tm.rows t.args) ty.k ty.n ty.nm (Lv.rows ty.ls) (Tm.rows ty.args) L ((c:Nat):Int) ((z:Nat):Int)) (fun _ _ _=>rfl) ?_
  have tr:Ev n2 (TrS (ρ:=ρ)) (fun _ K=>K true):=Ev.val _ rfl
  have hx:(((L.data.toList.getD (((z:Nat):Int)).toNat 0).toNat:Nat):Int)=(((L.data.toList.getD z 0).toNat:Nat):Int):=by rw [Int.toNat_natCast]
  have rec1:∀ b:Bool,(b=false→w5y (L.data.toList.getD z 0).toNat c=false)→Ev n2 (TrS (ρ:=ρ)) (fun i K=>bif b then K true else p5_8L fail i.1 K ((k:Nat):Int) pa fq ce h1 h2 o1 o2 d.k d.pa d.ct d.nm d.fam d.ty.k d.ty.n d.ty.nm (Lv.rows d.ty.ls) (Tm.rows d.ty.args) d.val.k d.val.n d.val.nm (Lv.rows d.val.ls) (Tm.rows d.val.args) (d.cs.map E1) t.k t.n t.nm (Lv.rows t.ls) (Tm.rows t.args) ty.k ty.n ty.nm (Lv.rows ty.ls) (Tm.rows ty.args) L i.2 ((c:Nat):Int) (B8 .add .i64 ((z:Nat):Int) 1)):=by
   intro b hb
   refine Ev.ite (fun _=>tr) (fun h=>?_)
   rw [L7 (a:=z) (by omega)]
   refine ih (z + 1) (by omega) (fun j hj=>?_)
   by_cases hjz:j=z
   ·subst hjz;exact hb h
   ·exact hno j (by omega)
  unfold p5_8 p5_1
  have ne:∀ a b:Int,B0 .eql a b=false→a≠b:=fun a b h=>by simpa [B0] using h
  refine Ev.ite (fun _=>?_) (fun h=>absurd (z2w h) (by omega))
  refine Ev.gd (by omega) (Ev.gd (by omega) (Ev.ite (fun _=>rec1 _ (fun h=>nomatch h)) (fun g1=>Ev.gd (by omega) (Ev.gd (by omega) (Ev.ite (fun _=>rec1 _ (fun h=>nomatch h)) (fun g2=>Ev.gd (by omega) (Ev.gd (by omega) (Ev.ite (fun g3=>Ev.ite (fun _=>rec1 _ (fun h=>nomatch h)) (fun g4=>rec1 _ (fun g5=>?_))) (fun g3=>rec1 _ (fun _=>?_))))))))))
  ·have q1:=ne _ _ g1;have q2:=ne _ _ g2;have q4:=ne _ _ g4;have q5:=ne _ _ g5
   rw [hx] at q1 q2
   simp only [w5y,Bool.or_eq_false_iff,Bool.and_eq_false_iff,beq_eq_false_iff_ne]
   omega
  ·have q1:=ne _ _ g1;have q2:=ne _ _ g2;have q3:=ne _ _ g3
   rw [hx] at q1 q2 q3
   simp only [w5y,Bool.or_eq_false_iff,Bool.and_eq_false_iff,beq_eq_false_iff_ne]
   omega
end
theorem ev6:Ev n1 (TrS (ρ:=ρ)) (fun fu K=>p6 fail fu K):=by
 refine⟨fun K=>K true,rfl,3000,fun fu hf K=>?_⟩
 obtain⟨m,rfl⟩:∃ m,fu=m + 3000:=⟨fu - 3000,by simp only [n1,id] at hf;omega⟩
 kernel_rfl
attribute [local irreducible] p8 p20 p14 p6 p7
theorem ev5 (a:Ac) (ha:a.byte) (w:Nat) (hw:w < 256):Ev n1 (TrS (ρ:=ρ)) (fun fu K=>p5 fail fu K ((a.k:Nat):Int) ((a.h:Nat):Int) ((a.o:Nat):Int) ((a.dr:Nat):Int) (E8 a.a) (E8 a.b) a.nm (a.ts.map K3) ((w:Nat):Int)):=by
 have r6:B8 .rem .i64 (IntKind.i64.wrap ((w:Nat):Int)) (((⟨#[112,104,111,102,110,100]⟩:ByteArray).size:Nat):Int)=((w % 6:Nat):Int):=k1x w 6 hw (by omega)
 have l6:w % 6 < 6:=Nat.mod_lt _ (by omega)
 unfold p5
 refine Ev.bind (ev6 fail) ?_
 rintro _ rfl
 refine Ev.ite (fun h=>nomatch h) (fun _=>Ev.gd (by simp) (Ev.bind (ev7 fail a) ?_))
 rintro _ ⟨b,hb,rfl⟩
 refine Ev.ite (fun _=>Ev.val _ rfl) (fun hb'=>?_)
 have hl:=hb (by simpa using hb')
 refine Ev.bind (ev8 fail a.k a.h a.o a.dr ha.k ha.h ha.o a.a a.b (by have:=hl.la;omega) (by have:=hl.lb;omega) a.nm hl.ln a.ts (fun t ht=>⟨(ha.ts t ht).1,(ha.ts t ht).2.1,(ha.ts t ht).2.2,by have:=hl.lts t ht;omega⟩) (by have:=hl.ltl;omega)) ?_
 rintro _ ⟨k,pa,h,o,d,t,ty,hk3,hk,hpa,hh,ho,hd,ht,hty,rfl⟩
 refine Ev.bind (ev20 fail k hk3 hk) ?_
 rintro _ ⟨b2,rfl⟩
 refine Ev.bind (k4z fail k pa 0 0 0 h 0 o d hd t ty ht hty False (fun h=>h.elim)) ?_
 rintro _ ⟨b3,_,rfl⟩
 refine Ev.ite (fun _=>Ev.val _ rfl) (fun _=>?_)
 simp only [r6]
 refine Ev.gd (by decide) (Ev.gd (by omega) (Ev.gd (by show ((w % 6:Nat):Int) < ((6:Nat):Int);omega) ?_))
 have hc:((List.getD (⟨#[112,104,111,102,110,100]⟩:ByteArray).data.toList (((w % 6:Nat):Int)).toNat 0).toNat) ∈ [112,104,111,102,110,100]:=by
  rw [Int.toNat_natCast]
  rcases (by omega:w % 6=0∨w % 6=1∨w % 6=2∨w % 6=3∨w % 6=4∨w % 6=5) with h | h | h | h | h | h<;>rw [h]<;>decide
 have hs:(rqL k).size≤1000:=by
  have:k=3∨k=4∨k=5∨k=6∨k=7∨k=8∨k=9∨k=10∨k=11∨k=12∨k=13∨k=14∨k=15∨k=16∨k=17∨k=18∨k=19∨k=20:=by omega
  rcases this with rfl | rfl | rfl | rfl | rfl | rfl | rfl | rfl | rfl | rfl | rfl | rfl | rfl | rfl | rfl | rfl | rfl | rfl<;>decide
 exact Ev.diag (k4o fail k hk3 hk t ty ht hty pa 0 0 0 h 0 o d hd _ hc (rqL k) rfl hs _ 0 (Nat.zero_add _) (fun j hj=>absurd hj (by omega)))
theorem z2g (a:Ac) (ha:a.byte) (w:Nat) (hw:w < 256):∃ fu,p5 (ρ:=Prop) False fu (fun b=>b=true) ((a.k:Nat):Int) ((a.h:Nat):Int) ((a.o:Nat):Int) ((a.dr:Nat):Int) (E8 a.a) (E8 a.b) a.nm (a.ts.map K3) ((w:Nat):Int):=by
 obtain⟨_,rfl,M,h⟩:=ev5 (ρ:=Prop) False a ha w hw
 exact⟨M,Eq.mpr (h M (Nat.le_refl _) (fun b=>b=true)) rfl⟩
end
open Go.ChangeShapes Go.WideShapes Go.ChangeAt Go.RowKit
set_option maxRecDepth 100000
def k1j:List TypeId:=[5,9,22,35,59,37]
theorem w0o:w0e Tryz.prog k1j=true:=by kernel_rfl
def w4m (P:Program) (t:TypeId):List TypeId:=match P.underlying t with
 | some (.struct fs)=>fs.toList.map (·.type)
 | _=>[]
theorem z5l {n:Nat} {t:TypeId} {ys:List CV} {l:List TypeId} (h:Shp Tryz.prog (n + 1) t ys) (hk:(match Tryz.prog.underlying t with | some (.struct _)=>true | _=>false)=true) (hl:w4m Tryz.prog t=l):k0r (Shp Tryz.prog n) l ys:=by
 subst hl
 unfold w4m
 simp only [Shp] at h
 split at hk
 ·rename_i fs hu
  rw [hu] at h
  exact h
 ·cases hk
theorem z0q {n:Nat} {t:TypeId} {ys:List CV} (hu:Tryz.prog.underlying t=some (.int .u8)) (h:Shp Tryz.prog n t ys):∃ z:Nat,ys=[.v (.int .u8 (z:Nat))]∧z < 256:=by
 cases n with
 | zero=>exact h.elim
 | succ n =>
  simp only [Shp,hu] at h
  obtain⟨z,hz,hw⟩:=h
  have h':(decide (IntKind.u8.min≤z) && decide (z≤IntKind.u8.max))=true:=hw
  have h1:IntKind.u8.min=0:=by decide
  have h2:IntKind.u8.max=255:=by decide
  rw [Bool.and_eq_true,h1,h2] at h'
  have h3:=of_decide_eq_true h'.1
  have h4:=of_decide_eq_true h'.2
  refine⟨z.toNat,?_,by omega⟩
  rw [hz,show ((z.toNat:Nat):Int)=z by omega]
theorem w3c {n:Nat} {t:TypeId} {ys:List CV} (hu:Tryz.prog.underlying t=some .string) (h:Shp Tryz.prog n t ys):∃ z:ByteArray,ys=[.v (.string z)]:=by
 cases n with
 | zero=>exact h.elim
 | succ n=>simp only [Shp,hu] at h;obtain⟨z,hz,_⟩:=h;exact⟨z,hz⟩
theorem z7n {n:Nat} {t e:TypeId} {c:Nat} {ys:List CV} (hu:Tryz.prog.underlying t=some (.slice e)) (hc:Tryz.prog.cellsOf e=c) (h:Shp Tryz.prog n t ys):∃ m es,n=m + 1∧ys=[.sl c es none]∧∀ r ∈ es,Shp Tryz.prog m e r:=by
 cases n with
 | zero=>exact h.elim
 | succ n=>simp only [Shp,hu,hc] at h;obtain⟨es,h1,_,h2⟩:=h;exact⟨n,es,rfl,h1,h2⟩
theorem w4y:Tryz.prog.underlying 9=some .string:=by kernel_rfl
theorem z1w:Tryz.prog.underlying 5=some (.int .u8):=by kernel_rfl
theorem w6u:Tryz.prog.underlying 22=some (.slice 5):=by kernel_rfl
theorem w6t:Tryz.prog.underlying 35=some (.slice 59):=by kernel_rfl
theorem k5m:Tryz.prog.cellsOf 5=1:=by kernel_rfl
theorem k0h:Tryz.prog.cellsOf 59=4:=by kernel_rfl
theorem w9x:w4m Tryz.prog 59=[5,5,5,22]:=by kernel_rfl
theorem k3h:w4m Tryz.prog 37=[5,5,5,5,22,22,9,35]:=by kernel_rfl
theorem w4p:∀ (es:EL),(∀ r ∈ es,∃ z:Nat,r=[.v (.int .u8 (z:Nat))]∧z < 256)→∃ l,es=E8 l
 | [],_=>⟨[],rfl⟩
 | r :: es,h=>by
  obtain⟨z,hz,hl⟩:=h r (by simp)
  obtain⟨ls,hls⟩:=w4p es fun r hr=>h r (by simp [hr])
  refine⟨UInt8.ofNat z :: ls,?_⟩
  have e:(UInt8.ofNat z).toNat=z:=by rw [UInt8.toNat_ofNat'];omega
  rw [hz,hls,E8,E8,List.map_cons,e]
theorem z3n {n:Nat} {ys:List CV} (h:Shp Tryz.prog n 22 ys):∃ l,ys=[.sl 1 (E8 l) none]:=by
 obtain⟨q,es,rfl,rfl,hes⟩:=z7n w6u k5m h
 obtain⟨l,rfl⟩:=w4p es fun r hr=>z0q z1w (hes r hr)
 exact⟨l,rfl⟩
theorem w7d {n:Nat} {ys:List CV} (h:Shp Tryz.prog n 59 ys):∃ t:Tu,ys=K3 t∧t.w < 256∧t.p < 256∧t.h < 256:=by
 cases n with
 | zero=>exact h.elim
 | succ n =>
  obtain⟨a0,b0,rfl,h0,a1,b1,rfl,h1,a2,b2,rfl,h2,a3,b3,rfl,h3,rfl⟩:=z5l h (by kernel_rfl) w9x
  obtain⟨w,rfl,hw⟩:=z0q z1w h0
  obtain⟨p,rfl,hp⟩:=z0q z1w h1
  obtain⟨q,rfl,hq⟩:=z0q z1w h2
  obtain⟨l,rfl⟩:=z3n h3
  exact⟨⟨w,p,q,l⟩,rfl,hw,hp,hq⟩
theorem z5e:∀ (es:EL),(∀ r ∈ es,∃ t:Tu,r=K3 t∧t.w < 256∧t.p < 256∧t.h < 256)→∃ ls:List Tu,es=ls.map K3∧∀ t ∈ ls,t.w < 256∧t.p < 256∧t.h < 256
 | [],_=>⟨[],rfl,by simp⟩
 | r :: es,h=>by
  obtain⟨l,hl,hb⟩:=h r (by simp)
  obtain⟨ls,hls,hbs⟩:=z5e es fun r hr=>h r (by simp [hr])
  refine⟨l :: ls,by rw [hl,hls,List.map_cons],fun t ht=>?_⟩
  rcases List.mem_cons.1 ht with rfl | ht
  ·exact hb
  ·exact hbs t ht
theorem w9i {n:Nat} {ys:List CV} (h:Shp Tryz.prog n 37 ys):∃ a:Ac,a.byte∧ys=Q4 a:=by
 cases n with
 | zero=>exact h.elim
 | succ n =>
  obtain⟨a0,b0,rfl,h0,a1,b1,rfl,h1,a2,b2,rfl,h2,a3,b3,rfl,h3,a4,b4,rfl,h4,a5,b5,rfl,h5,a6,b6,rfl,h6,a7,b7,rfl,h7,rfl⟩:=z5l h (by kernel_rfl) k3h
  obtain⟨k,rfl,hk⟩:=z0q z1w h0
  obtain⟨hh,rfl,hhh⟩:=z0q z1w h1
  obtain⟨o,rfl,ho⟩:=z0q z1w h2
  obtain⟨dr,rfl,hdr⟩:=z0q z1w h3
  obtain⟨a,rfl⟩:=z3n h4
  obtain⟨b,rfl⟩:=z3n h5
  obtain⟨nm,rfl⟩:=w3c w4y h6
  obtain⟨q,es,rfl,rfl,hes⟩:=z7n w6t k0h h7
  obtain⟨ts,rfl,hts⟩:=z5e es fun r hr=>w7d (hes r hr)
  exact⟨⟨k,hh,o,dr,a,b,nm,ts⟩,⟨hk,hhh,ho,hdr,hts⟩,rfl⟩
theorem k3q {t:TypeId} {v:Value} {r:Reach} {base:Nat} {w:World} (h:Value.okWide Tryz.prog w r base t v) (hk:(match Tryz.prog.underlying t with | some (.struct _)=>true | _=>false)=true):∃ vs,v=.agg vs:=by
 split at hk
 ·rename_i fs hus
  obtain⟨vs,h4,_⟩:=okWide_struct hus h
  exact⟨vs,h4⟩
 ·cases hk
theorem w9j {W:World} {ys:List CV} {vs:Array Value} (hr:RowR W ys vs.toList):∃ F,Own (w2k W) W F (.agg (ys.map .c)) (.agg vs)∧∀ b o,¬ F b o:=by
 obtain⟨F,hF,hno⟩:=z2h (S:=w2k W) (w:=W) (F:=fun _ _=>False) _ vs.toList hr.1.symm hr.2
 have h1:=Own.agg _ _ _ hF
 rw [Array.toArray_toList] at h1
 exact⟨F,h1,hno⟩
def T:Tab:=[
 TI.no,
 TI.no,
 ⟨false,1,[.v (.int .i64 0)],[],(.int .i64),[]⟩,
 ⟨false,1,[.v (.int .i64 0)],[],(.int .i64),[]⟩,
 ⟨false,1,[.v (.bool false)],[],.bool,[]⟩,
 ⟨false,1,[.v (.int .u8 0)],[],(.int .u8),[]⟩,
 ⟨false,1,[.v (.int .u8 0)],[],(.int .u8),[]⟩,
 ⟨true,4,[.v (.int .i64 0),.v (.int .i64 0),.v (.bool false),.v (.int .u8 0)],[],(.st [(0,1,false),(1,1,false),(2,1,false),(3,1,false)]),[]⟩,
 ⟨true,4,[.v (.int .i64 0),.v (.int .i64 0),.v (.bool false),.v (.int .u8 0)],[],(.st [(0,1,false),(1,1,false),(2,1,false),(3,1,false)]),[]⟩,
 ⟨false,1,[.v (.string ⟨#[]⟩)],[],.str,[]⟩,
 ⟨false,1,[.v (.string ⟨#[]⟩)],[],.str,[]⟩,
 ⟨false,1,[.v (.string ⟨#[]⟩)],[],.str,[]⟩,
 ⟨false,1,[.v (.int .u64 0)],[],(.int .u64),[]⟩,
 ⟨true,2,[.v (.string ⟨#[]⟩),.v (.int .u64 0)],[],(.st [(0,1,false),(1,1,false)]),[]⟩,
 ⟨true,2,[.v (.string ⟨#[]⟩),.v (.int .u64 0)],[],(.st [(0,1,false),(1,1,false)]),[]⟩,
 ⟨false,1,[.v (.pointer none)],[],(.pt 4 true),[]⟩,
 ⟨false,1,[.v (.pointer none)],[],.sc,[]⟩,
 ⟨false,1,[.v (.pointer none)],[],(.pt 11 true),[]⟩,
 ⟨true,1,[.v (.pointer none)],[],(.st [(0,1,false)]),[]⟩,
 ⟨true,1,[.v (.pointer none)],[],(.st [(0,1,false)]),[]⟩,
 TI.no,
 ⟨false,1,[.v (.int .i32 0)],[],(.int .i32),[]⟩,
 ⟨false,1,[.sl 1 [] (some [])],[.v (.int .u8 0)],(.sl 1 false 1 true),[]⟩,
 ⟨false,1,[.v (.int .u64 0)],[],(.int .u64),[]⟩,
 ⟨true,2,[.v (.int .u64 0),.v (.int .u64 0)],[],(.st [(0,1,false),(1,1,false)]),[]⟩,
 ⟨true,2,[.v (.int .u64 0),.v (.int .u64 0)],[],(.st [(0,1,false),(1,1,false)]),[1,1]⟩,
 ⟨false,1,[.sl 3 [] (some [])],[.v (.int .i64 0),.v (.int .i64 0),.sl 3 [] (some [])],(.sl 3 true 40 false),[]⟩,
 ⟨false,1,[.sl 5 [] (some [])],[.v (.int .i64 0),.v (.int .i64 0),.v (.string ⟨#[]⟩),.sl 3 [] (some []),.sl 5 [] (some [])],(.sl 5 true 80 false),[]⟩,
 ⟨true,5,[.v (.int .i64 0),.v (.int .i64 0),.v (.string ⟨#[]⟩),.sl 3 [] (some []),.sl 5 [] (some [])],[],(.st [(0,1,false),(1,1,false),(2,1,false),(3,1,false),(4,1,false)]),[]⟩,
 ⟨true,5,[.v (.int .i64 0),.v (.int .i64 0),.v (.string ⟨#[]⟩),.sl 3 [] (some []),.sl 5 [] (some [])],[],(.st [(0,1,false),(1,1,false),(2,1,false),(3,1,false),(4,1,false)]),[]⟩,
 ⟨false,1,[.sl 6 [] (some [])],[.v (.string ⟨#[]⟩),.v (.int .i64 0),.v (.int .i64 0),.v (.string ⟨#[]⟩),.sl 3 [] (some []),.sl 5 [] (some [])],(.sl 6 true 96 false),[]⟩,
 ⟨true,16,[.v (.int .i64 0),.v (.int .i64 0),.v (.int .i64 0),.v (.string ⟨#[]⟩),.v (.string ⟨#[]⟩),.v (.int .i64 0),.v (.int .i64 0),.v (.string ⟨#[]⟩),.sl 3 [] (some []),.sl 5 [] (some []),.v (.int .i64 0),.v (.int .i64 0),.v (.string ⟨#[]⟩),.sl 3 [] (some []),.sl 5 [] (some []),.sl 6 [] (some [])],[],(.st [(0,1,false),(1,1,false),(2,1,false),(3,1,false),(4,1,false),(5,5,true),(10,5,true),(15,1,false)]),[]⟩,
 ⟨true,16,[.v (.int .i64 0),.v (.int .i64 0),.v (.int .i64 0),.v (.string ⟨#[]⟩),.v (.string ⟨#[]⟩),.v (.int .i64 0),.v (.int .i64 0),.v (.string ⟨#[]⟩),.sl 3 [] (some []),.sl 5 [] (some []),.v (.int .i64 0),.v (.int .i64 0),.v (.string ⟨#[]⟩),.sl 3 [] (some []),.sl 5 [] (some []),.sl 6 [] (some [])],[],(.st [(0,1,false),(1,1,false),(2,1,false),(3,1,false),(4,1,false),(5,5,true),(10,5,true),(15,1,false)]),[]⟩,
 ⟨true,34,[.v (.int .i64 0),.v (.int .i64 0),.v (.int .i64 0),.v (.int .i64 0),.v (.int .u64 0),.v (.int .u64 0),.v (.int .u64 0),.v (.int .u64 0),.v (.int .i64 0),.v (.int .i64 0),.v (.int .i64 0),.v (.string ⟨#[]⟩),.v (.string ⟨#[]⟩),.v (.int .i64 0),.v (.int .i64 0),.v (.string ⟨#[]⟩),.sl 3 [] (some []),.sl 5 [] (some []),.v (.int .i64 0),.v (.int .i64 0),.v (.string ⟨#[]⟩),.sl 3 [] (some []),.sl 5 [] (some []),.sl 6 [] (some []),.v (.int .i64 0),.v (.int .i64 0),.v (.string ⟨#[]⟩),.sl 3 [] (some []),.sl 5 [] (some []),.v (.int .i64 0),.v (.int .i64 0),.v (.string ⟨#[]⟩),.sl 3 [] (some []),.sl 5 [] (some [])],[],(.st [(0,1,false),(1,1,false),(2,1,false),(3,1,false),(4,2,true),(6,2,true),(8,16,true),(24,5,true),(29,5,true)]),[]⟩,
 ⟨true,34,[.v (.int .i64 0),.v (.int .i64 0),.v (.int .i64 0),.v (.int .i64 0),.v (.int .u64 0),.v (.int .u64 0),.v (.int .u64 0),.v (.int .u64 0),.v (.int .i64 0),.v (.int .i64 0),.v (.int .i64 0),.v (.string ⟨#[]⟩),.v (.string ⟨#[]⟩),.v (.int .i64 0),.v (.int .i64 0),.v (.string ⟨#[]⟩),.sl 3 [] (some []),.sl 5 [] (some []),.v (.int .i64 0),.v (.int .i64 0),.v (.string ⟨#[]⟩),.sl 3 [] (some []),.sl 5 [] (some []),.sl 6 [] (some []),.v (.int .i64 0),.v (.int .i64 0),.v (.string ⟨#[]⟩),.sl 3 [] (some []),.sl 5 [] (some []),.v (.int .i64 0),.v (.int .i64 0),.v (.string ⟨#[]⟩),.sl 3 [] (some []),.sl 5 [] (some [])],[],(.st [(0,1,false),(1,1,false),(2,1,false),(3,1,false),(4,2,true),(6,2,true),(8,16,true),(24,5,true),(29,5,true)]),[]⟩,
 ⟨false,1,[.sl 4 [] (some [])],[.v (.int .u8 0),.v (.int .u8 0),.v (.int .u8 0),.sl 1 [] (some [])],(.sl 4 true 32 false),[]⟩,
 ⟨true,8,[.v (.int .u8 0),.v (.int .u8 0),.v (.int .u8 0),.v (.int .u8 0),.sl 1 [] (some []),.sl 1 [] (some []),.v (.string ⟨#[]⟩),.sl 4 [] (some [])],[],(.st [(0,1,false),(1,1,false),(2,1,false),(3,1,false),(4,1,false),(5,1,false),(6,1,false),(7,1,false)]),[]⟩,
 ⟨true,8,[.v (.int .u8 0),.v (.int .u8 0),.v (.int .u8 0),.v (.int .u8 0),.sl 1 [] (some []),.sl 1 [] (some []),.v (.string ⟨#[]⟩),.sl 4 [] (some [])],[],(.st [(0,1,false),(1,1,false),(2,1,false),(3,1,false),(4,1,false),(5,1,false),(6,1,false),(7,1,false)]),[]⟩,
 TI.no,
 TI.no,
 ⟨false,1,[.sl 8 [] (some [])],[.v (.int .u8 0),.v (.int .u8 0),.v (.int .u8 0),.v (.int .u8 0),.sl 1 [] (some []),.sl 1 [] (some []),.v (.string ⟨#[]⟩),.sl 4 [] (some [])],(.sl 8 true 96 false),[]⟩,
 TI.no,
 TI.no,
 TI.no,
 ⟨false,1,[.v (.int .i64 0)],[],(.int .i64),[]⟩,
 TI.no,
 TI.no,
 TI.no,
 TI.no,
 TI.no,
 TI.no,
 TI.no,
 TI.no,
 TI.no,
 TI.no,
 TI.no,
 TI.no,
 TI.no,
 ⟨true,4,[.v (.int .u8 0),.v (.int .u8 0),.v (.int .u8 0),.sl 1 [] (some [])],[],(.st [(0,1,false),(1,1,false),(2,1,false),(3,1,false)]),[]⟩,
 ⟨true,4,[.v (.int .u8 0),.v (.int .u8 0),.v (.int .u8 0),.sl 1 [] (some [])],[],(.st [(0,1,false),(1,1,false),(2,1,false),(3,1,false)]),[]⟩,
 ⟨false,1,[.v (.pointer none)],[],(.pt 2 true),[]⟩,
 TI.no,
 ⟨false,1,[.sl 1 [] (some [])],[.v (.string ⟨#[]⟩)],(.sl 1 false 16 false),[]⟩,
 TI.no,
 TI.no,
 TI.no,
 TI.no,
 TI.no,
 TI.no,
 TI.no,
 TI.no,
 ⟨false,1,[.sl 16 [] (some [])],[.v (.int .i64 0),.v (.int .i64 0),.v (.int .i64 0),.v (.string ⟨#[]⟩),.v (.string ⟨#[]⟩),.v (.int .i64 0),.v (.int .i64 0),.v (.string ⟨#[]⟩),.sl 3 [] (some []),.sl 5 [] (some []),.v (.int .i64 0),.v (.int .i64 0),.v (.string ⟨#[]⟩),.sl 3 [] (some []),.sl 5 [] (some []),.sl 6 [] (some [])],(.sl 16 true 240 false),[]⟩,
 TI.no,
 ⟨true,8,[.v (.bool false),.v (.bool false),.v (.bool false),.v (.bool false),.v (.bool false),.v (.bool false),.v (.bool false),.v (.bool false)],[],(.st [(0,1,false),(1,1,false),(2,1,false),(3,1,false),(4,1,false),(5,1,false),(6,1,false),(7,1,false)]),[]⟩,
 ⟨true,8,[.v (.bool false),.v (.bool false),.v (.bool false),.v (.bool false),.v (.bool false),.v (.bool false),.v (.bool false),.v (.bool false)],[],(.st [(0,1,false),(1,1,false),(2,1,false),(3,1,false),(4,1,false),(5,1,false),(6,1,false),(7,1,false)]),[]⟩,
 TI.no,
 TI.no,
 ⟨false,1,[.v (.pointer none)],[],(.pt 1 true),[]⟩,
 TI.no,
 TI.no,
 TI.no,
 ⟨true,1,[.sl 1 [] (some [])],[],(.st [(0,1,false)]),[]⟩,
 ⟨true,1,[.sl 1 [] (some [])],[],(.st [(0,1,false)]),[]⟩,
 TI.no,
 TI.no,
 TI.no,
 TI.no,
 TI.no,
 TI.no,
 TI.no,
 TI.no,
 TI.no,
 ⟨false,1,[.v (.pointer none)],[],(.pt 2 true),[]⟩,
 ⟨true,2,[.sl 1 [] (some []),.v (.int .i64 0)],[],(.st [(0,1,false),(1,1,false)]),[]⟩,
 ⟨true,2,[.sl 1 [] (some []),.v (.int .i64 0)],[],(.st [(0,1,false),(1,1,false)]),[]⟩,
 ⟨true,2,[.sl 1 [] (some []),.v (.int .i64 0)],[],(.st [(0,2,true)]),[]⟩,
 ⟨true,2,[.sl 1 [] (some []),.v (.int .i64 0)],[],(.st [(0,2,true)]),[]⟩,
 TI.no,
 TI.no,
 TI.no,
 TI.no,
 TI.no,
 TI.no,
 ⟨true,2,[.sl 1 [] (some []),.v (.int .i64 0)],[],(.st [(0,1,false),(1,1,false)]),[]⟩,
 ⟨true,2,[.sl 1 [] (some []),.v (.int .i64 0)],[],(.st [(0,1,false),(1,1,false)]),[]⟩,
 TI.no,
 TI.no,
 TI.no,
 TI.no,
 TI.no,
 TI.no,
 TI.no,
 ⟨true,6,[.v (.string ⟨#[]⟩),.v (.int .i64 0),.v (.int .i64 0),.v (.string ⟨#[]⟩),.sl 3 [] (some []),.sl 5 [] (some [])],[],(.st [(0,1,false),(1,5,true)]),[]⟩,
 ⟨true,6,[.v (.string ⟨#[]⟩),.v (.int .i64 0),.v (.int .i64 0),.v (.string ⟨#[]⟩),.sl 3 [] (some []),.sl 5 [] (some [])],[],(.st [(0,1,false),(1,5,true)]),[]⟩,
 TI.no,
 TI.no,
 ⟨false,1,[.sl 1 [] (some [])],[.v (.int .i64 0)],(.sl 1 false 8 false),[]⟩,
 TI.no,
 TI.no,
 ⟨true,3,[.v (.int .i64 0),.v (.int .i64 0),.sl 3 [] (some [])],[],(.st [(0,1,false),(1,1,false),(2,1,false)]),[]⟩,
 ⟨true,3,[.v (.int .i64 0),.v (.int .i64 0),.sl 3 [] (some [])],[],(.st [(0,1,false),(1,1,false),(2,1,false)]),[]⟩,
 TI.no,
 TI.no,
 TI.no,
 TI.no,
 TI.no,
 TI.no,
 TI.no,
 ⟨false,1,[.v (.pointer none)],[],(.pt 2 true),[]⟩,
 TI.no,
 TI.no,
 ⟨false,1,[.v (.pointer none)],[],(.pt 1 false),[]⟩,
 TI.no,
 TI.no,
 TI.no,
 TI.no,
 TI.no,
 TI.no,
 TI.no,
 TI.no,
 ⟨false,1,[.v (.pointer none)],[],(.pt 6 true),[]⟩,
 ⟨true,6,[.v (.string ⟨#[]⟩),.v (.int .i64 0),.v (.int .i64 0),.v (.int .i64 0),.v (.int .i64 0),.v (.int .i64 0)],[],(.st [(0,1,false),(1,1,false),(2,1,false),(3,1,false),(4,1,false),(5,1,false)]),[]⟩,
 ⟨true,6,[.v (.string ⟨#[]⟩),.v (.int .i64 0),.v (.int .i64 0),.v (.int .i64 0),.v (.int .i64 0),.v (.int .i64 0)],[],(.st [(0,1,false),(1,1,false),(2,1,false),(3,1,false),(4,1,false),(5,1,false)]),[3,1,1,1,1,1]⟩,
 ⟨false,1,[.v (.int .u64 0)],[],(.int .u64),[]⟩,
 TI.no,
 TI.no,
 TI.no,
 TI.no,
 TI.no,
 TI.no,
 TI.no,
 TI.no,
 TI.no,
 TI.no,
 TI.no,
 TI.no,
 TI.no,
 TI.no,
 TI.no,
 TI.no,
 TI.no,
 TI.no,
 TI.no,
 TI.no,
 TI.no,
 TI.no,
 TI.no,
 TI.no,
 TI.no,
 ⟨true,4,[.v (.pointer none),.v (.pointer none),.v (.pointer none),.v (.string ⟨#[]⟩)],[],(.st [(0,1,false),(1,1,false),(2,1,false),(3,1,false)]),[]⟩,
 ⟨true,4,[.v (.pointer none),.v (.pointer none),.v (.pointer none),.v (.string ⟨#[]⟩)],[],(.st [(0,1,false),(1,1,false),(2,1,false),(3,1,false)]),[]⟩,
 TI.no,
 TI.no,
 TI.no,
 ⟨false,1,[.v (.int .u32 0)],[],(.int .u32),[]⟩,
 ⟨false,1,[.v (.int .u8 0)],[],(.int .u8),[]⟩,
 ⟨false,1,[.v (.int .u8 0)],[],(.int .u8),[]⟩,
 TI.no,
 ⟨false,1,[.v (.pointer none)],[],(.pt 1 false),[]⟩,
 ⟨false,1,[.v (.int .i32 0)],[],(.int .i32),[]⟩,
 ⟨false,1,[.v (.int .i32 0)],[],(.int .i32),[]⟩,
 ⟨true,11,[.v (.int .u64 0),.v (.int .u64 0),.v (.int .u32 0),.v (.int .u8 0),.v (.int .u8 0),.v (.int .u8 0),.v (.int .u8 0),.v .nilFunc,.v (.pointer none),.v (.int .i32 0),.v (.int .i32 0)],[],(.st [(0,1,false),(1,1,false),(2,1,false),(3,1,false),(4,1,false),(5,1,false),(6,1,false),(7,1,false),(8,1,false),(9,1,false),(10,1,false)]),[]⟩,
 ⟨true,11,[.v (.int .u64 0),.v (.int .u64 0),.v (.int .u32 0),.v (.int .u8 0),.v (.int .u8 0),.v (.int .u8 0),.v (.int .u8 0),.v .nilFunc,.v (.pointer none),.v (.int .i32 0),.v (.int .i32 0)],[],(.st [(0,1,false),(1,1,false),(2,1,false),(3,1,false),(4,1,false),(5,1,false),(6,1,false),(7,1,false),(8,1,false),(9,1,false),(10,1,false)]),[]⟩,
 ⟨false,1,[.v (.pointer none)],[],.sc,[]⟩
]
def k5v (t:Nat):TI:=T.at t
theorem tiA:k5v=fun t=>T.at t:=rfl
theorem D2:TabOk Tryz.prog T:=TabOk.of_check (by kernel_rfl)
theorem D3:Tryz.prog.follows .mixedOrders=true:=by kernel_rfl
def G0:L2:=fun _=>none
theorem C0 {p:Prop} [Decidable p] {k C R:Prop} (h:gd p False k) (f:k→R) (e:p→C:=by subst hO;exact id):C∧R:=k1h h e f
theorem z3i {p:Prop} [Decidable p] {k C R:Prop} (h:gd p False k) (f:k→R) (e:p→C:=by intro g;subst hO;first | exact g | (simp only [List.length_set] at g;exact g)):C∧R:=k1h h e f
theorem C5 {O:Ops} {B:Nat} {T:Tab} {G:L2} {D:V.Spec} (hO:O=std B T G D) {v c:Bool} {A A':Unit→Prop} {a b:Prop} (h:cond c a b) (h1:v=true→a→A ()) (h2:v=false→b→A' ()) (e:v=c:=by subst hO;rfl):O.br v A A':=br_h hO h e h1 h2
theorem C2 {P:Prop} {α β:Type} {Q X:α→β→Prop} {R:α→β→Prop} (hb:Q=X) (q:∀ r bs,X r bs→R r bs) (p:P:=by subst a hO;rfl):P∧∀ r bs,Q r bs→R r bs:=⟨p,by subst hb;exact q⟩
theorem C7 {P Q:Prop} (e:P:=by subst hO;rfl) (f:Q:=by subst hO;rfl):P∧Q:=⟨e,f⟩
theorem G5 {P Q:Prop} (q:Q) (p:P:=by subst hO;exact Nat.le_refl _):P∧Q:=⟨p,q⟩
theorem D5 {O:Ops} {B:Nat} {T:Tab} {G:L2} {D:V.Spec} (hO:O=std B T G D) {A:Nat→TI} (hA:A=fun t=>T.at t) {v c:Bool} {x y:Code} {tm₁ tm₂:List AV} {m₁ m₂:Mem} {N Rt:List AV→Mem→Prop} {X:Nat→List AV→Mem→Prop} {a b:Prop} (h:cond c a b) (live ids caps:List Nat) (R:List AV→Mem→Prop) (h1:v=true→a→∀ L:List AV→Mem→Prop,(∀ tm m,R (fgT B live ids tm m) (fgM B live ids caps tm m)→L tm m)→M4 O A G x tm₁ m₁ (R5 L Rt X)) (h2:v=false→b→∀ L:List AV→Mem→Prop,(∀ tm m,R (fgT B live ids tm m) (fgM B live ids caps tm m)→L tm m)→M4 O A G y tm₂ m₂ (R5 L Rt X)) (h3:∀ tm m,R tm m→N tm m) (e:v=c:=by subst hO;rfl):O.br v (fun _=>M4 O A G x tm₁ m₁ (R5 (O.join N) Rt X)) (fun _=>M4 O A G y tm₂ m₂ (R5 (O.join N) Rt X)):=w6m hO hA h e live ids caps R h1 h2 h3
theorem E6 {O:Ops} {B:Nat} {T:Tab} {G:L2} {D:V.Spec} (hO:O=std B T G D) {es:EL} {i:Nat} {K:List CV→Prop} {row:List CV} (hk:K row) (h:es.getD i []=row:=by subst hO;exact hr):O.elem es i K:=k0b hO row h hk
theorem C1 {α β:Type} {a x:α} {b y:β} (e:a=x:=by (conv=>lhs;cbv)<;>(subst hO;rfl)) (f:b=y:=by (conv=>lhs;cbv)<;>(subst hO;rfl)):a=x∧b=y:=⟨e,f⟩
theorem G7 {α β:Type} {a x:α} {b y:β} (e:a=x:=by (conv=>lhs;cbv)<;>(subst hO;first | rfl | (simp only [std,List.length_set];done) | (simp only [std,List.length_set];rfl))) (f:b=y:=by (conv=>lhs;cbv)<;>(subst hO;first | rfl | (simp only [std,List.length_set];done) | (simp only [std,List.length_set];rfl))):a=x∧b=y:=⟨e,f⟩
theorem F3 (B:Nat):∃ O,O=std B T G0 (Den Tryz.prog G0):=⟨_,rfl⟩
def sk0 (a0 a1 a2 a3 a4 a5 a6 a7:Bool:=false):List AV:=[.c (.v (.bool a0)),.c (.v (.bool a1)),.c (.v (.bool a2)),.c (.v (.bool a3)),.c (.v (.bool a4)),.c (.v (.bool a5)),.c (.v (.bool a6)),.c (.v (.bool a7))]
def sk1 (a0:Int):AV:=.c (.v (.int .i64 a0))
def sk2 (a0:Bool):AV:=.c (.v (.bool a0))
def sk3 (a0 a1:Int:=0) (a2:ByteArray:=⟨#[]⟩) (a3 a4:EL:=nilE):List AV:=[.c (.v (.int .i64 a0)),.c (.v (.int .i64 a1)),.c (.v (.string a2)),.c (.sl 3 a3 none),.c (.sl 5 a4 none)]
def sk4 (a0:Int:=0):List AV:=[.c (.v (.int .i64 a0))]
def sk5 (a0:EL):AV:=.c (.sl 5 a0 none)
def sk6 (a0 a1:Int:=0) (a2:EL:=nilE):List AV:=[.c (.v (.int .i64 a0)),.c (.v (.int .i64 a1)),.c (.sl 3 a2 none)]
def sk7 (a0:EL):AV:=.c (.sl 3 a0 none)
def sk8 (a0 a1 a2:Int:=0) (a3 a4:ByteArray:=⟨#[]⟩) (a5 a6:Int:=0) (a7:ByteArray:=⟨#[]⟩) (a8 a9:EL:=nilE) (a10 a11:Int:=0) (a12:ByteArray:=⟨#[]⟩) (a13 a14 a15:EL:=nilE):List AV:=[.c (.v (.int .i64 a0)),.c (.v (.int .i64 a1)),.c (.v (.int .i64 a2)),.c (.v (.string a3)),.c (.v (.string a4)),.c (.v (.int .i64 a5)),.c (.v (.int .i64 a6)),.c (.v (.string a7)),.c (.sl 3 a8 none),.c (.sl 5 a9 none),.c (.v (.int .i64 a10)),.c (.v (.int .i64 a11)),.c (.v (.string a12)),.c (.sl 3 a13 none),.c (.sl 5 a14 none),.c (.sl 6 a15 none)]
def sk9 (a0:EL):AV:=.c (.sl 6 a0 none)
def H6 (a0 a1 a2 a3 a4 a5 a6 a7 a8 a9 a10:Int:=0) (a11 a12:ByteArray:=⟨#[]⟩) (a13 a14:Int:=0) (a15:ByteArray:=⟨#[]⟩) (a16 a17:EL:=nilE) (a18 a19:Int:=0) (a20:ByteArray:=⟨#[]⟩) (a21 a22 a23:EL:=nilE) (a24 a25:Int:=0) (a26:ByteArray:=⟨#[]⟩) (a27 a28:EL:=nilE) (a29 a30:Int:=0) (a31:ByteArray:=⟨#[]⟩) (a32 a33:EL:=nilE):List AV:=[.c (.v (.int .i64 a0)),.c (.v (.int .i64 a1)),.c (.v (.int .i64 a2)),.c (.v (.int .i64 a3)),.c (.v (.int .u64 a4)),.c (.v (.int .u64 a5)),.c (.v (.int .u64 a6)),.c (.v (.int .u64 a7)),.c (.v (.int .i64 a8)),.c (.v (.int .i64 a9)),.c (.v (.int .i64 a10)),.c (.v (.string a11)),.c (.v (.string a12)),.c (.v (.int .i64 a13)),.c (.v (.int .i64 a14)),.c (.v (.string a15)),.c (.sl 3 a16 none),.c (.sl 5 a17 none),.c (.v (.int .i64 a18)),.c (.v (.int .i64 a19)),.c (.v (.string a20)),.c (.sl 3 a21 none),.c (.sl 5 a22 none),.c (.sl 6 a23 none),.c (.v (.int .i64 a24)),.c (.v (.int .i64 a25)),.c (.v (.string a26)),.c (.sl 3 a27 none),.c (.sl 5 a28 none),.c (.v (.int .i64 a29)),.c (.v (.int .i64 a30)),.c (.v (.string a31)),.c (.sl 3 a32 none),.c (.sl 5 a33 none)]
def w9h (a0 a1:Int:=0):List AV:=[.c (.v (.int .u64 a0)),.c (.v (.int .u64 a1))]
def z5j (a0:Int):AV:=.c (.v (.int .u64 a0))
def k6h (a0:Nat):AV:=.t 8000 0 a0
def z9d (a0:Nat:=0):List AV:=[.t 1000000 2 a0]
def z2o (a0:EL):AV:=.c (.sl 1 a0 none)
def k6g (a0:Nat):AV:=.t 9000 0 a0
def w2y (a0:Nat:=0):List AV:=[.t 503 0 a0]
def k6f (a0:Nat:=0):List AV:=[.t 501 0 a0]
def z2n (a0:Int):AV:=.c (.v (.int .u8 a0))
def F4 (a0:EL:=nilE) (a1:Int:=0):List AV:=[.c (.sl 1 a0 none),.c (.v (.int .i64 a1))]
def Q6 (a0 a1:Int:=0):List AV:=[.c (.v (.int .i64 a0)),.c (.v (.int .i64 a1)),.c (.sl 3 [] (some []))]
def k1v (a0 a1:Int:=0) (a2:Nat:=0):List AV:=[.c (.v (.int .i64 a0)),.c (.v (.int .i64 a1)),.t 56000 2 a2]
def G3 (a0 a1:Int:=0) (a2:ByteArray:=⟨#[]⟩):List AV:=[.c (.v (.int .i64 a0)),.c (.v (.int .i64 a1)),.c (.v (.string a2)),.c (.sl 3 [] (some [])),.c (.sl 5 [] (some []))]
def k4c (a0 a1:Int:=0) (a2:ByteArray:=⟨#[]⟩) (a3:Nat:=0):List AV:=[.c (.v (.int .i64 a0)),.c (.v (.int .i64 a1)),.c (.v (.string a2)),.t 61000 2 a3,.c (.sl 5 [] (some []))]
def k6e (a0 a1:Int:=0) (a2:ByteArray:=⟨#[]⟩) (a3:Nat:=0):List AV:=[.c (.v (.int .i64 a0)),.c (.v (.int .i64 a1)),.c (.v (.string a2)),.c (.sl 3 [] (some [])),.t 81000 2 a3]
def k6d (a0 a1:Int:=0) (a2:ByteArray:=⟨#[]⟩) (a3 a4:Nat:=0):List AV:=[.c (.v (.int .i64 a0)),.c (.v (.int .i64 a1)),.c (.v (.string a2)),.t 61000 2 a3,.t 81000 2 a4]
def G2 (a0 a1 a2:Int:=0) (a3 a4:ByteArray:=⟨#[]⟩) (a5 a6:Int:=0) (a7:ByteArray:=⟨#[]⟩) (a8 a9:Int:=0) (a10:ByteArray:=⟨#[]⟩):List AV:=[.c (.v (.int .i64 a0)),.c (.v (.int .i64 a1)),.c (.v (.int .i64 a2)),.c (.v (.string a3)),.c (.v (.string a4)),.c (.v (.int .i64 a5)),.c (.v (.int .i64 a6)),.c (.v (.string a7)),.c (.sl 3 [] (some [])),.c (.sl 5 [] (some [])),.c (.v (.int .i64 a8)),.c (.v (.int .i64 a9)),.c (.v (.string a10)),.c (.sl 3 [] (some [])),.c (.sl 5 [] (some [])),.c (.sl 6 [] (some []))]
def U6 (a0 a1 a2:Int:=0) (a3 a4:ByteArray:=⟨#[]⟩) (a5 a6:Int:=0) (a7:ByteArray:=⟨#[]⟩) (a8 a9:EL:=nilE) (a10 a11:Int:=0) (a12:ByteArray:=⟨#[]⟩):List AV:=[.c (.v (.int .i64 a0)),.c (.v (.int .i64 a1)),.c (.v (.int .i64 a2)),.c (.v (.string a3)),.c (.v (.string a4)),.c (.v (.int .i64 a5)),.c (.v (.int .i64 a6)),.c (.v (.string a7)),.c (.sl 3 a8 none),.c (.sl 5 a9 none),.c (.v (.int .i64 a10)),.c (.v (.int .i64 a11)),.c (.v (.string a12)),.c (.sl 3 [] (some [])),.c (.sl 5 [] (some [])),.c (.sl 6 [] (some []))]
def w7b (a0 a1 a2:Int:=0) (a3 a4:ByteArray:=⟨#[]⟩) (a5 a6:Int:=0) (a7:ByteArray:=⟨#[]⟩) (a8 a9:EL:=nilE) (a10 a11:Int:=0) (a12:ByteArray:=⟨#[]⟩) (a13 a14:EL:=nilE):List AV:=[.c (.v (.int .i64 a0)),.c (.v (.int .i64 a1)),.c (.v (.int .i64 a2)),.c (.v (.string a3)),.c (.v (.string a4)),.c (.v (.int .i64 a5)),.c (.v (.int .i64 a6)),.c (.v (.string a7)),.c (.sl 3 a8 none),.c (.sl 5 a9 none),.c (.v (.int .i64 a10)),.c (.v (.int .i64 a11)),.c (.v (.string a12)),.c (.sl 3 a13 none),.c (.sl 5 a14 none),.c (.sl 6 [] (some []))]
def k1u (a0 a1 a2:Int:=0) (a3 a4:ByteArray:=⟨#[]⟩) (a5 a6:Int:=0) (a7:ByteArray:=⟨#[]⟩) (a8 a9:EL:=nilE) (a10 a11:Int:=0) (a12:ByteArray:=⟨#[]⟩) (a13 a14:EL:=nilE) (a15:Nat:=0):List AV:=[.c (.v (.int .i64 a0)),.c (.v (.int .i64 a1)),.c (.v (.int .i64 a2)),.c (.v (.string a3)),.c (.v (.string a4)),.c (.v (.int .i64 a5)),.c (.v (.int .i64 a6)),.c (.v (.string a7)),.c (.sl 3 a8 none),.c (.sl 5 a9 none),.c (.v (.int .i64 a10)),.c (.v (.int .i64 a11)),.c (.v (.string a12)),.c (.sl 3 a13 none),.c (.sl 5 a14 none),.t 90000 1 a15]
def w0y (a0:ByteArray:=⟨#[]⟩) (a1 a2:Int:=0) (a3:ByteArray:=⟨#[]⟩) (a4 a5:EL:=nilE):List AV:=[.c (.v (.string a0)),.c (.v (.int .i64 a1)),.c (.v (.int .i64 a2)),.c (.v (.string a3)),.c (.sl 3 a4 none),.c (.sl 5 a5 none)]
def w0x (a0:ByteArray:=⟨#[]⟩) (a1 a2:Int:=0) (a3:ByteArray:=⟨#[]⟩):List AV:=[.c (.v (.string a0)),.c (.v (.int .i64 a1)),.c (.v (.int .i64 a2)),.c (.v (.string a3)),.c (.sl 3 [] (some [])),.c (.sl 5 [] (some []))]
def k1t (a0 a1 a2:Int:=0) (a3 a4:ByteArray:=⟨#[]⟩) (a5 a6:Int:=0) (a7:ByteArray:=⟨#[]⟩) (a8 a9:EL:=nilE) (a10 a11:Int:=0) (a12:ByteArray:=⟨#[]⟩) (a13:Nat:=0):List AV:=[.c (.v (.int .i64 a0)),.c (.v (.int .i64 a1)),.c (.v (.int .i64 a2)),.c (.v (.string a3)),.c (.v (.string a4)),.c (.v (.int .i64 a5)),.c (.v (.int .i64 a6)),.c (.v (.string a7)),.c (.sl 3 a8 none),.c (.sl 5 a9 none),.c (.v (.int .i64 a10)),.c (.v (.int .i64 a11)),.c (.v (.string a12)),.c (.sl 3 [] (some [])),.c (.sl 5 [] (some [])),.t 90000 1 a13]
def w7a (a0 a1 a2:Int:=0) (a3 a4:ByteArray:=⟨#[]⟩) (a5 a6:Int:=0) (a7:ByteArray:=⟨#[]⟩) (a8 a9:Int:=0) (a10:ByteArray:=⟨#[]⟩) (a11 a12:EL:=nilE):List AV:=[.c (.v (.int .i64 a0)),.c (.v (.int .i64 a1)),.c (.v (.int .i64 a2)),.c (.v (.string a3)),.c (.v (.string a4)),.c (.v (.int .i64 a5)),.c (.v (.int .i64 a6)),.c (.v (.string a7)),.c (.sl 3 [] (some [])),.c (.sl 5 [] (some [])),.c (.v (.int .i64 a8)),.c (.v (.int .i64 a9)),.c (.v (.string a10)),.c (.sl 3 a11 none),.c (.sl 5 a12 none),.c (.sl 6 [] (some []))]
def k1s (a0 a1 a2:Int:=0) (a3 a4:ByteArray:=⟨#[]⟩) (a5 a6:Int:=0) (a7:ByteArray:=⟨#[]⟩) (a8 a9:Int:=0) (a10:ByteArray:=⟨#[]⟩) (a11 a12:EL:=nilE) (a13:Nat:=0):List AV:=[.c (.v (.int .i64 a0)),.c (.v (.int .i64 a1)),.c (.v (.int .i64 a2)),.c (.v (.string a3)),.c (.v (.string a4)),.c (.v (.int .i64 a5)),.c (.v (.int .i64 a6)),.c (.v (.string a7)),.c (.sl 3 [] (some [])),.c (.sl 5 [] (some [])),.c (.v (.int .i64 a8)),.c (.v (.int .i64 a9)),.c (.v (.string a10)),.c (.sl 3 a11 none),.c (.sl 5 a12 none),.t 90000 1 a13]
def k1r (a0 a1 a2:Int:=0) (a3 a4:ByteArray:=⟨#[]⟩) (a5 a6:Int:=0) (a7:ByteArray:=⟨#[]⟩) (a8 a9:Int:=0) (a10:ByteArray:=⟨#[]⟩) (a11:Nat:=0):List AV:=[.c (.v (.int .i64 a0)),.c (.v (.int .i64 a1)),.c (.v (.int .i64 a2)),.c (.v (.string a3)),.c (.v (.string a4)),.c (.v (.int .i64 a5)),.c (.v (.int .i64 a6)),.c (.v (.string a7)),.c (.sl 3 [] (some [])),.c (.sl 5 [] (some [])),.c (.v (.int .i64 a8)),.c (.v (.int .i64 a9)),.c (.v (.string a10)),.c (.sl 3 [] (some [])),.c (.sl 5 [] (some [])),.t 90000 1 a11]
def k1q (a0:EL):AV:=.c (.sl 8 a0 none)
def P4 (a0:ByteArray:=⟨#[]⟩) (a1 a2 a3 a4 a5:Int:=0):List AV:=[.c (.v (.string a0)),.c (.v (.int .i64 a1)),.c (.v (.int .i64 a2)),.c (.v (.int .i64 a3)),.c (.v (.int .i64 a4)),.c (.v (.int .i64 a5))]
def z0p (a0:ByteArray):AV:=.c (.v (.string a0))
def w9g (a0 a1:Int:=0) (a2:ByteArray:=⟨#[]⟩) (a3:Nat:=0):List AV:=[.c (.v (.int .i64 a0)),.c (.v (.int .i64 a1)),.c (.v (.string a2)),.t 117000 1 a3,.c (.sl 5 [] (some []))]
def k4b (a0 a1:Int:=0) (a2:ByteArray:=⟨#[]⟩) (a3:Nat:=0):List AV:=[.c (.v (.int .i64 a0)),.c (.v (.int .i64 a1)),.c (.v (.string a2)),.c (.sl 3 [] (some [])),.t 165000 1 a3]
def k6c (a0 a1:Int:=0) (a2:Nat:=0):List AV:=[.c (.v (.int .i64 a0)),.c (.v (.int .i64 a1)),.t 51000 0 a2]
def k6b (a0 a1:Int:=0) (a2:ByteArray:=⟨#[]⟩) (a3:Nat:=0):List AV:=[.c (.v (.int .i64 a0)),.c (.v (.int .i64 a1)),.c (.v (.string a2)),.t 29000 0 a3,.c (.sl 5 [] (some []))]
def k4a (a0 a1:Int:=0) (a2:ByteArray:=⟨#[]⟩) (a3:Nat:=0):List AV:=[.c (.v (.int .i64 a0)),.c (.v (.int .i64 a1)),.c (.v (.string a2)),.c (.sl 3 [] (some [])),.t 49000 0 a3]
def w5d (a0 a1:Int:=0) (a2:ByteArray:=⟨#[]⟩) (a3:Nat:=0):List AV:=[.c (.v (.int .i64 a0)),.c (.v (.int .i64 a1)),.c (.v (.string a2)),.t 11000 0 a3,.c (.sl 5 [] (some []))]
def k3z (a0 a1:Int:=0) (a2:ByteArray:=⟨#[]⟩) (a3 a4:Nat:=0):List AV:=[.c (.v (.int .i64 a0)),.c (.v (.int .i64 a1)),.c (.v (.string a2)),.t 11000 0 a3,.t 49000 0 a4]
def k6a (a0 a1 a2:Int:=0) (a3 a4:ByteArray:=⟨#[]⟩) (a5 a6:Int:=0) (a7:ByteArray:=⟨#[]⟩) (a8 a9:EL:=nilE) (a10 a11:Int:=0) (a12:ByteArray:=⟨#[]⟩) (a13:Nat:=0):List AV:=[.c (.v (.int .i64 a0)),.c (.v (.int .i64 a1)),.c (.v (.int .i64 a2)),.c (.v (.string a3)),.c (.v (.string a4)),.c (.v (.int .i64 a5)),.c (.v (.int .i64 a6)),.c (.v (.string a7)),.c (.sl 3 a8 none),.c (.sl 5 a9 none),.c (.v (.int .i64 a10)),.c (.v (.int .i64 a11)),.c (.v (.string a12)),.c (.sl 3 [] (some [])),.c (.sl 5 [] (some [])),.t 41000 0 a13]
def k5z (a0 a1:Int:=0) (a2:ByteArray:=⟨#[]⟩) (a3:Nat:=0):List AV:=[.c (.v (.int .i64 a0)),.c (.v (.int .i64 a1)),.c (.v (.string a2)),.c (.sl 3 [] (some [])),.t 14000 1 a3]
def k5y (a0 a1:Int:=0) (a2:ByteArray:=⟨#[]⟩) (a3:Nat:=0):List AV:=[.c (.v (.int .i64 a0)),.c (.v (.int .i64 a1)),.c (.v (.string a2)),.t 14000 1 a3,.c (.sl 5 [] (some []))]
def k5x (a0 a1:Int:=0) (a2:ByteArray:=⟨#[]⟩) (a3 a4:Nat:=0):List AV:=[.c (.v (.int .i64 a0)),.c (.v (.int .i64 a1)),.c (.v (.string a2)),.t 14000 1 a3,.t 14001 1 a4]
def z0o (a0 a1 a2:Int:=0) (a3 a4:ByteArray:=⟨#[]⟩) (a5 a6:Int:=0) (a7:ByteArray:=⟨#[]⟩) (a8 a9:EL:=nilE) (a10 a11:Int:=0) (a12:ByteArray:=⟨#[]⟩) (a13:Nat:=0):List AV:=[.c (.v (.int .i64 a0)),.c (.v (.int .i64 a1)),.c (.v (.int .i64 a2)),.c (.v (.string a3)),.c (.v (.string a4)),.c (.v (.int .i64 a5)),.c (.v (.int .i64 a6)),.c (.v (.string a7)),.c (.sl 3 a8 none),.c (.sl 5 a9 none),.c (.v (.int .i64 a10)),.c (.v (.int .i64 a11)),.c (.v (.string a12)),.c (.sl 3 [] (some [])),.c (.sl 5 [] (some [])),.t 502 0 a13]
def Q5 (a0:EL):AV:=.c (.sl 4 a0 none)
def w5c (a0 a1 a2 a3:Int:=0) (a4 a5:EL:=nilE) (a6:ByteArray:=⟨#[]⟩) (a7:EL:=nilE):List AV:=[.c (.v (.int .u8 a0)),.c (.v (.int .u8 a1)),.c (.v (.int .u8 a2)),.c (.v (.int .u8 a3)),.c (.sl 1 a4 none),.c (.sl 1 a5 none),.c (.v (.string a6)),.c (.sl 4 a7 none)]
def G8 (a0 a1 a2 a3 a4 a5 a6 a7 a8 a9 a10:Int:=0) (a11 a12:ByteArray:=⟨#[]⟩) (a13 a14:Int:=0) (a15:ByteArray:=⟨#[]⟩) (a16 a17:Int:=0) (a18:ByteArray:=⟨#[]⟩) (a19 a20:Int:=0) (a21:ByteArray:=⟨#[]⟩) (a22 a23:Int:=0) (a24:ByteArray:=⟨#[]⟩):List AV:=[.c (.v (.int .i64 a0)),.c (.v (.int .i64 a1)),.c (.v (.int .i64 a2)),.c (.v (.int .i64 a3)),.c (.v (.int .u64 a4)),.c (.v (.int .u64 a5)),.c (.v (.int .u64 a6)),.c (.v (.int .u64 a7)),.c (.v (.int .i64 a8)),.c (.v (.int .i64 a9)),.c (.v (.int .i64 a10)),.c (.v (.string a11)),.c (.v (.string a12)),.c (.v (.int .i64 a13)),.c (.v (.int .i64 a14)),.c (.v (.string a15)),.c (.sl 3 [] (some [])),.c (.sl 5 [] (some [])),.c (.v (.int .i64 a16)),.c (.v (.int .i64 a17)),.c (.v (.string a18)),.c (.sl 3 [] (some [])),.c (.sl 5 [] (some [])),.c (.sl 6 [] (some [])),.c (.v (.int .i64 a19)),.c (.v (.int .i64 a20)),.c (.v (.string a21)),.c (.sl 3 [] (some [])),.c (.sl 5 [] (some [])),.c (.v (.int .i64 a22)),.c (.v (.int .i64 a23)),.c (.v (.string a24)),.c (.sl 3 [] (some [])),.c (.sl 5 [] (some []))]
def k3y (a0 a1 a2 a3 a4 a5 a6 a7 a8 a9 a10:Int:=0) (a11 a12:ByteArray:=⟨#[]⟩) (a13 a14:Int:=0) (a15:ByteArray:=⟨#[]⟩) (a16 a17:EL:=nilE) (a18 a19:Int:=0) (a20:ByteArray:=⟨#[]⟩) (a21 a22:Int:=0) (a23:ByteArray:=⟨#[]⟩) (a24 a25:Int:=0) (a26:ByteArray:=⟨#[]⟩):List AV:=[.c (.v (.int .i64 a0)),.c (.v (.int .i64 a1)),.c (.v (.int .i64 a2)),.c (.v (.int .i64 a3)),.c (.v (.int .u64 a4)),.c (.v (.int .u64 a5)),.c (.v (.int .u64 a6)),.c (.v (.int .u64 a7)),.c (.v (.int .i64 a8)),.c (.v (.int .i64 a9)),.c (.v (.int .i64 a10)),.c (.v (.string a11)),.c (.v (.string a12)),.c (.v (.int .i64 a13)),.c (.v (.int .i64 a14)),.c (.v (.string a15)),.c (.sl 3 a16 none),.c (.sl 5 a17 none),.c (.v (.int .i64 a18)),.c (.v (.int .i64 a19)),.c (.v (.string a20)),.c (.sl 3 [] (some [])),.c (.sl 5 [] (some [])),.c (.sl 6 [] (some [])),.c (.v (.int .i64 a21)),.c (.v (.int .i64 a22)),.c (.v (.string a23)),.c (.sl 3 [] (some [])),.c (.sl 5 [] (some [])),.c (.v (.int .i64 a24)),.c (.v (.int .i64 a25)),.c (.v (.string a26)),.c (.sl 3 [] (some [])),.c (.sl 5 [] (some []))]
def k1p (a0 a1 a2 a3 a4 a5 a6 a7 a8 a9 a10:Int:=0) (a11 a12:ByteArray:=⟨#[]⟩) (a13 a14:Int:=0) (a15:ByteArray:=⟨#[]⟩) (a16 a17:EL:=nilE) (a18 a19:Int:=0) (a20:ByteArray:=⟨#[]⟩) (a21 a22:EL:=nilE) (a23 a24:Int:=0) (a25:ByteArray:=⟨#[]⟩) (a26 a27:Int:=0) (a28:ByteArray:=⟨#[]⟩):List AV:=[.c (.v (.int .i64 a0)),.c (.v (.int .i64 a1)),.c (.v (.int .i64 a2)),.c (.v (.int .i64 a3)),.c (.v (.int .u64 a4)),.c (.v (.int .u64 a5)),.c (.v (.int .u64 a6)),.c (.v (.int .u64 a7)),.c (.v (.int .i64 a8)),.c (.v (.int .i64 a9)),.c (.v (.int .i64 a10)),.c (.v (.string a11)),.c (.v (.string a12)),.c (.v (.int .i64 a13)),.c (.v (.int .i64 a14)),.c (.v (.string a15)),.c (.sl 3 a16 none),.c (.sl 5 a17 none),.c (.v (.int .i64 a18)),.c (.v (.int .i64 a19)),.c (.v (.string a20)),.c (.sl 3 a21 none),.c (.sl 5 a22 none),.c (.sl 6 [] (some [])),.c (.v (.int .i64 a23)),.c (.v (.int .i64 a24)),.c (.v (.string a25)),.c (.sl 3 [] (some [])),.c (.sl 5 [] (some [])),.c (.v (.int .i64 a26)),.c (.v (.int .i64 a27)),.c (.v (.string a28)),.c (.sl 3 [] (some [])),.c (.sl 5 [] (some []))]
def k1o (a0 a1 a2 a3 a4 a5 a6 a7 a8 a9 a10:Int:=0) (a11 a12:ByteArray:=⟨#[]⟩) (a13 a14:Int:=0) (a15:ByteArray:=⟨#[]⟩) (a16 a17:EL:=nilE) (a18 a19:Int:=0) (a20:ByteArray:=⟨#[]⟩) (a21 a22 a23:EL:=nilE) (a24 a25:Int:=0) (a26:ByteArray:=⟨#[]⟩) (a27 a28:Int:=0) (a29:ByteArray:=⟨#[]⟩):List AV:=[.c (.v (.int .i64 a0)),.c (.v (.int .i64 a1)),.c (.v (.int .i64 a2)),.c (.v (.int .i64 a3)),.c (.v (.int .u64 a4)),.c (.v (.int .u64 a5)),.c (.v (.int .u64 a6)),.c (.v (.int .u64 a7)),.c (.v (.int .i64 a8)),.c (.v (.int .i64 a9)),.c (.v (.int .i64 a10)),.c (.v (.string a11)),.c (.v (.string a12)),.c (.v (.int .i64 a13)),.c (.v (.int .i64 a14)),.c (.v (.string a15)),.c (.sl 3 a16 none),.c (.sl 5 a17 none),.c (.v (.int .i64 a18)),.c (.v (.int .i64 a19)),.c (.v (.string a20)),.c (.sl 3 a21 none),.c (.sl 5 a22 none),.c (.sl 6 a23 none),.c (.v (.int .i64 a24)),.c (.v (.int .i64 a25)),.c (.v (.string a26)),.c (.sl 3 [] (some [])),.c (.sl 5 [] (some [])),.c (.v (.int .i64 a27)),.c (.v (.int .i64 a28)),.c (.v (.string a29)),.c (.sl 3 [] (some [])),.c (.sl 5 [] (some []))]
def z5i (a0 a1 a2 a3 a4 a5 a6 a7 a8 a9 a10:Int:=0) (a11 a12:ByteArray:=⟨#[]⟩) (a13 a14:Int:=0) (a15:ByteArray:=⟨#[]⟩) (a16 a17:Int:=0) (a18:ByteArray:=⟨#[]⟩) (a19 a20:Int:=0) (a21:ByteArray:=⟨#[]⟩) (a22 a23:EL:=nilE) (a24 a25:Int:=0) (a26:ByteArray:=⟨#[]⟩):List AV:=[.c (.v (.int .i64 a0)),.c (.v (.int .i64 a1)),.c (.v (.int .i64 a2)),.c (.v (.int .i64 a3)),.c (.v (.int .u64 a4)),.c (.v (.int .u64 a5)),.c (.v (.int .u64 a6)),.c (.v (.int .u64 a7)),.c (.v (.int .i64 a8)),.c (.v (.int .i64 a9)),.c (.v (.int .i64 a10)),.c (.v (.string a11)),.c (.v (.string a12)),.c (.v (.int .i64 a13)),.c (.v (.int .i64 a14)),.c (.v (.string a15)),.c (.sl 3 [] (some [])),.c (.sl 5 [] (some [])),.c (.v (.int .i64 a16)),.c (.v (.int .i64 a17)),.c (.v (.string a18)),.c (.sl 3 [] (some [])),.c (.sl 5 [] (some [])),.c (.sl 6 [] (some [])),.c (.v (.int .i64 a19)),.c (.v (.int .i64 a20)),.c (.v (.string a21)),.c (.sl 3 a22 none),.c (.sl 5 a23 none),.c (.v (.int .i64 a24)),.c (.v (.int .i64 a25)),.c (.v (.string a26)),.c (.sl 3 [] (some [])),.c (.sl 5 [] (some []))]
def w0w (a0 a1 a2 a3 a4 a5 a6 a7 a8 a9 a10:Int:=0) (a11 a12:ByteArray:=⟨#[]⟩) (a13 a14:Int:=0) (a15:ByteArray:=⟨#[]⟩) (a16 a17:Int:=0) (a18:ByteArray:=⟨#[]⟩) (a19 a20:Int:=0) (a21:ByteArray:=⟨#[]⟩) (a22 a23:EL:=nilE) (a24 a25:Int:=0) (a26:ByteArray:=⟨#[]⟩) (a27 a28:EL:=nilE):List AV:=[.c (.v (.int .i64 a0)),.c (.v (.int .i64 a1)),.c (.v (.int .i64 a2)),.c (.v (.int .i64 a3)),.c (.v (.int .u64 a4)),.c (.v (.int .u64 a5)),.c (.v (.int .u64 a6)),.c (.v (.int .u64 a7)),.c (.v (.int .i64 a8)),.c (.v (.int .i64 a9)),.c (.v (.int .i64 a10)),.c (.v (.string a11)),.c (.v (.string a12)),.c (.v (.int .i64 a13)),.c (.v (.int .i64 a14)),.c (.v (.string a15)),.c (.sl 3 [] (some [])),.c (.sl 5 [] (some [])),.c (.v (.int .i64 a16)),.c (.v (.int .i64 a17)),.c (.v (.string a18)),.c (.sl 3 [] (some [])),.c (.sl 5 [] (some [])),.c (.sl 6 [] (some [])),.c (.v (.int .i64 a19)),.c (.v (.int .i64 a20)),.c (.v (.string a21)),.c (.sl 3 a22 none),.c (.sl 5 a23 none),.c (.v (.int .i64 a24)),.c (.v (.int .i64 a25)),.c (.v (.string a26)),.c (.sl 3 a27 none),.c (.sl 5 a28 none)]
def z7a (a0 a1 a2 a3 a4 a5 a6 a7 a8 a9 a10:Int:=0) (a11 a12:ByteArray:=⟨#[]⟩) (a13 a14:Int:=0) (a15:ByteArray:=⟨#[]⟩) (a16 a17:Int:=0) (a18:ByteArray:=⟨#[]⟩) (a19 a20:Int:=0) (a21:ByteArray:=⟨#[]⟩) (a22 a23:Int:=0) (a24:ByteArray:=⟨#[]⟩) (a25 a26:EL:=nilE):List AV:=[.c (.v (.int .i64 a0)),.c (.v (.int .i64 a1)),.c (.v (.int .i64 a2)),.c (.v (.int .i64 a3)),.c (.v (.int .u64 a4)),.c (.v (.int .u64 a5)),.c (.v (.int .u64 a6)),.c (.v (.int .u64 a7)),.c (.v (.int .i64 a8)),.c (.v (.int .i64 a9)),.c (.v (.int .i64 a10)),.c (.v (.string a11)),.c (.v (.string a12)),.c (.v (.int .i64 a13)),.c (.v (.int .i64 a14)),.c (.v (.string a15)),.c (.sl 3 [] (some [])),.c (.sl 5 [] (some [])),.c (.v (.int .i64 a16)),.c (.v (.int .i64 a17)),.c (.v (.string a18)),.c (.sl 3 [] (some [])),.c (.sl 5 [] (some [])),.c (.sl 6 [] (some [])),.c (.v (.int .i64 a19)),.c (.v (.int .i64 a20)),.c (.v (.string a21)),.c (.sl 3 [] (some [])),.c (.sl 5 [] (some [])),.c (.v (.int .i64 a22)),.c (.v (.int .i64 a23)),.c (.v (.string a24)),.c (.sl 3 a25 none),.c (.sl 5 a26 none)]
theorem d_p31 (fu:Nat){K0:z7h Prop}(L:EL→Nat)(hN:L=List.length){x0:Int}(h:p31 False fu K0 x0):Den Tryz.prog G0 31 [.c (.v (.int .i64 x0))] (fun r bs=>(∃ (y0 y1 y2 y3 y4 y5 y6 y7 y8:Bool) (o0:OV),(r=.tup [.agg [.c (.v (.bool y0)),.c (.v (.bool y1)),.c (.v (.bool y2)),.c (.v (.bool y3)),.c (.v (.bool y4)),.c (.v (.bool y5)),.c (.v (.bool y6)),.c (.v (.bool y7))],.c (.v (.bool y8))]∧bs=[o0])∧K0 y0 y1 y2 y3 y4 y5 y6 y7 y8)):=by
 obtain⟨O,hO⟩:=F3 0
 have hLO:L=O.len:=by rw [hN,hO];rfl
 subst hLO;refine D4 hO tiA D3 D2 (fn:=Tryz.f31) (sh:=true) (by kernel_rfl) rfl rfl rfl rfl ?_;intro Q b;unfold p31 at h;cbv;refine C5 hO h (fun k1 h=>?_) fun k1 h=>?_;cbv;rw [b];exact⟨true,false,false,false,false,false,false,false,true,_,C7,h⟩;cbv;refine D5 hO tiA h [2,4,8] [3000] [] (fun tm m=>∃ (j1:Bool),((tm=C3 0 44 [(2,.p 3000 0 0),(4,sk1 x0),(8,sk2 j1)]∧m=⟨[(3000,.blk 0 sk0)],1⟩))∧p31_5 False fu K0 x0 j1) (fun a0 h L hL_5=>?_) (fun a0 h L hL_5=>?_) ?_;cbv;exact hL_5 _ _ ⟨(B0 .eql x0 2),C1,h⟩;cbv;refine D5 hO tiA h [2,4,8] [3000] [] (fun tm m=>∃ (j6:Bool),((tm=C3 0 44 [(2,.p 3000 0 0),(4,sk1 x0),(8,sk2 j6)]∧m=⟨[(3000,.blk 0 sk0)],1⟩))∧p31_6 False fu K0 x0 j6) (fun c0 h L hL_6=>?_) (fun c0 h L hL_6=>?_) ?_;cbv;exact hL_6 _ _ ⟨(B0 .eql x0 11),C1,h⟩;cbv;refine D5 hO tiA h [2,4,8] [3000] [] (fun tm m=>∃ (j7:Bool),((tm=C3 0 44 [(2,.p 3000 0 0),(4,sk1 x0),(8,sk2 j7)]∧m=⟨[(3000,.blk 0 sk0)],1⟩))∧p31_7 False fu K0 x0 j7) (fun d0 h L hL_7=>?_) (fun d0 h L hL_7=>?_) ?_;cbv;exact hL_7 _ _ ⟨(B0 .eql x0 12),C1,h⟩;cbv;refine D5 hO tiA h [2,4,8] [3000] [] (fun tm m=>∃ (j8:Bool),((tm=C3 0 44 [(2,.p 3000 0 0),(4,sk1 x0),(8,sk2 j8)]∧m=⟨[(3000,.blk 0 sk0)],1⟩))∧p31_8 False fu K0 x0 j8) (fun e0 h L hL_8=>?_) (fun e0 h L hL_8=>?_) ?_;cbv;exact hL_8 _ _ ⟨(B0 .eql x0 13),C1,h⟩;cbv;exact hL_8 _ _ ⟨(B0 .eql x0 14),C1,h⟩
 rintro tm m ⟨j8,hs,h⟩
 unfold p31_8 at h;obtain⟨rfl,rfl⟩:=hs;cbv;exact hL_7 _ _ ⟨j8,C1,h⟩
 rintro tm m ⟨j7,hs,h⟩
 unfold p31_7 at h;obtain⟨rfl,rfl⟩:=hs;cbv;exact hL_6 _ _ ⟨j7,C1,h⟩
 rintro tm m ⟨j6,hs,h⟩
 unfold p31_6 at h;obtain⟨rfl,rfl⟩:=hs;cbv;exact hL_5 _ _ ⟨j6,C1,h⟩
 rintro tm m ⟨j1,hs,h⟩
 unfold p31_5 at h;obtain⟨rfl,rfl⟩:=hs;cbv;refine C5 hO h (fun k2 h=>?_) fun k2 h=>?_;cbv;rw [b];exact⟨false,true,false,false,false,false,false,false,true,_,C7,h⟩;cbv;refine D5 hO tiA h [2,4,15] [3000] [] (fun tm m=>∃ (j2:Bool),((tm=C3 0 44 [(2,.p 3000 0 0),(4,sk1 x0),(15,sk2 j2)]∧m=⟨[(3000,.blk 0 sk0)],1⟩))∧p31_3 False fu K0 x0 j2) (fun f0 h L hL_3=>?_) (fun f0 h L hL_3=>?_) ?_;cbv;exact hL_3 _ _ ⟨(B0 .eql x0 3),C1,h⟩;cbv;refine D5 hO tiA h [2,4,15] [3000] [] (fun tm m=>∃ (j5:Bool),((tm=C3 0 44 [(2,.p 3000 0 0),(4,sk1 x0),(15,sk2 j5)]∧m=⟨[(3000,.blk 0 sk0)],1⟩))∧p31_4 False fu K0 x0 j5) (fun g0 h L hL_4=>?_) (fun g0 h L hL_4=>?_) ?_;cbv;exact hL_4 _ _ ⟨(B0 .eql x0 4),C1,h⟩;cbv;exact hL_4 _ _ ⟨(B0 .eql x0 5),C1,h⟩
 rintro tm m ⟨j5,hs,h⟩
 unfold p31_4 at h;obtain⟨rfl,rfl⟩:=hs;cbv;exact hL_3 _ _ ⟨j5,C1,h⟩
 rintro tm m ⟨j2,hs,h⟩
 unfold p31_3 at h;obtain⟨rfl,rfl⟩:=hs;cbv;refine C5 hO h (fun k3 h=>?_) fun k3 h=>?_;cbv;rw [b];exact⟨false,false,false,true,false,false,false,false,true,_,C7,h⟩;cbv;refine D5 hO tiA h [2,4,20] [3000] [] (fun tm m=>∃ (j3:Bool),((tm=C3 0 44 [(2,.p 3000 0 0),(4,sk1 x0),(20,sk2 j3)]∧m=⟨[(3000,.blk 0 sk0)],1⟩))∧p31_2 False fu K0 x0 j3) (fun i0 h L hL_2=>?_) (fun i0 h L hL_2=>?_) ?_;cbv;exact hL_2 _ _ ⟨(B0 .eql x0 6),C1,h⟩;cbv;exact hL_2 _ _ ⟨(B0 .eql x0 17),C1,h⟩
 rintro tm m ⟨j3,hs,h⟩
 unfold p31_2 at h;obtain⟨rfl,rfl⟩:=hs;cbv;refine C5 hO h (fun k4 h=>?_) fun k4 h=>?_;cbv;rw [b];exact⟨false,false,false,false,true,true,false,false,true,_,C7,h⟩;cbv;refine D5 hO tiA h [2,4,24] [3000] [] (fun tm m=>∃ (j4:Bool),((tm=C3 0 44 [(2,.p 3000 0 0),(4,sk1 x0),(24,sk2 j4)]∧m=⟨[(3000,.blk 0 sk0)],1⟩))∧p31_1 False fu K0 x0 j4) (fun j0 h L hL_1=>?_) (fun j0 h L hL_1=>?_) ?_;cbv;exact hL_1 _ _ ⟨(B0 .eql x0 7),C1,h⟩;cbv;exact hL_1 _ _ ⟨(B0 .eql x0 16),C1,h⟩
 rintro tm m ⟨j4,hs,h⟩
 unfold p31_1 at h;obtain⟨rfl,rfl⟩:=hs;cbv;refine C5 hO h (fun k5 h=>?_) fun k5 h=>?_;cbv;rw [b];exact⟨false,false,false,false,true,true,true,false,true,_,C7,h⟩;cbv;refine C5 hO h (fun k6 h=>?_) fun k6 h=>?_;cbv;rw [b];exact⟨false,true,true,false,false,false,false,false,true,_,C7,h⟩;cbv;refine C5 hO h (fun k7 h=>?_) fun k7 h=>?_;cbv;rw [b];exact⟨false,true,false,false,false,true,false,false,true,_,C7,h⟩;cbv;refine C5 hO h (fun k8 h=>?_) fun k8 h=>?_;cbv;rw [b];exact⟨false,true,false,false,false,false,true,false,true,_,C7,h⟩;cbv;refine C5 hO h (fun k9 h=>?_) fun k9 h=>?_;cbv;rw [b];exact⟨false,true,false,false,false,false,false,true,true,_,C7,h⟩;cbv;refine C5 hO h (fun l0 h=>?_) fun l0 h=>?_;cbv;rw [b];exact⟨false,false,false,false,false,false,false,false,true,_,C7,h⟩;cbv;apply B6 hO;cbv;apply B6 hO;cbv;apply B6 hO;cbv;apply B6 hO;cbv;apply B6 hO;cbv;apply B6 hO;cbv;apply B6 hO;cbv;apply B6 hO;cbv;apply B6 hO;cbv;apply B6 hO;cbv;rw [b];exact⟨false,false,false,false,false,false,false,false,false,_,C7,h⟩
theorem d_p39 (fu:Nat){K0:Bool→Prop}(L:EL→Nat)(hN:L=List.length){x0:Int}(h:p39 False fu K0 x0):Den Tryz.prog G0 39 [.c (.v (.int .i64 x0))] (fun r bs=>(∃ (y0:Bool) (o0:OV),(r=.c (.v (.bool y0))∧bs=[o0])∧K0 y0)):=by
 obtain⟨O,hO⟩:=F3 0
 have hLO:L=O.len:=by rw [hN,hO];rfl
 subst hLO;refine D4 hO tiA D3 D2 (fn:=Tryz.f39) (sh:=true) (by kernel_rfl) rfl rfl rfl rfl ?_;intro Q b;unfold p39 at h;cbv;refine D1 hO tiA [2] [] [] (fun tm m=>∃ (j1:Bool),((tm=C3 0 9 [(2,sk2 j1)]∧m=⟨[],1⟩))∧p39_1 False fu K0 j1) (fun L hL_1=>?_) ?_;cbv;refine C5 hO h (fun k1 h=>?_) fun k1 h=>?_;cbv;apply B9 hO k1;cbv;apply B9 hO k1;cbv;exact hL_1 _ _ ⟨(B0 .leq x0 1073741824),C1,h⟩;cbv;apply B7 hO k1;cbv;apply B7 hO k1;cbv;exact hL_1 _ _ ⟨false,C1,h⟩
 rintro tm m ⟨j1,hs,h⟩
 unfold p39_1 at h;obtain⟨rfl,rfl⟩:=hs;cbv;rw [b];exact⟨j1,_,C7,h⟩
theorem d_p144 (fu:Nat){K0:Int→Prop}(L:EL→Nat)(hN:L=List.length){x0:Int}(h:p144 False fu K0 x0):Den Tryz.prog G0 144 [.c (.v (.int .i64 x0))] (fun r bs=>(∃ (y0:Int) (o0:OV),(r=.c (.v (.int .i64 y0))∧bs=[o0])∧K0 y0)):=by
 obtain⟨O,hO⟩:=F3 0
 have hLO:L=O.len:=by rw [hN,hO];rfl
 subst hLO;refine D4 hO tiA D3 D2 (fn:=Tryz.f144) (sh:=true) (by kernel_rfl) rfl rfl rfl rfl ?_;intro Q b;unfold p144 at h;cbv;refine D5 hO tiA h [3,4] [] [] (fun tm m=>∃ (j1:Bool),((tm=C3 0 14 [(3,sk1 x0),(4,sk2 j1)]∧m=⟨[],1⟩))∧p144_3 False fu K0 x0 j1) (fun k6 h L hL_3=>?_) (fun k6 h L hL_3=>?_) ?_;cbv;exact hL_3 _ _ ⟨(B0 .eql x0 0),C1,h⟩;cbv;refine D5 hO tiA h [3,4] [] [] (fun tm m=>∃ (j4:Bool),((tm=C3 0 14 [(3,sk1 x0),(4,sk2 j4)]∧m=⟨[],1⟩))∧p144_4 False fu K0 x0 j4) (fun k7 h L hL_4=>?_) (fun k7 h L hL_4=>?_) ?_;cbv;exact hL_4 _ _ ⟨(B0 .eql x0 1),C1,h⟩;cbv;exact hL_4 _ _ ⟨(B0 .eql x0 2),C1,h⟩
 rintro tm m ⟨j4,hs,h⟩
 unfold p144_4 at h;obtain⟨rfl,rfl⟩:=hs;cbv;exact hL_3 _ _ ⟨j4,C1,h⟩
 rintro tm m ⟨j1,hs,h⟩
 unfold p144_3 at h;obtain⟨rfl,rfl⟩:=hs;cbv;refine C5 hO h (fun k1 h=>?_) fun k1 h=>?_;cbv;rw [b];exact⟨0,_,C7,h⟩;cbv;refine D5 hO tiA h [3,8] [] [] (fun tm m=>∃ (j2:Bool),((tm=C3 0 14 [(3,sk1 x0),(8,sk2 j2)]∧m=⟨[],1⟩))∧p144_1 False fu K0 x0 j2) (fun k4 h L hL_1=>?_) (fun k4 h L hL_1=>?_) ?_;cbv;exact hL_1 _ _ ⟨(B0 .eql x0 3),C1,h⟩;cbv;refine D5 hO tiA h [3,8] [] [] (fun tm m=>∃ (j3:Bool),((tm=C3 0 14 [(3,sk1 x0),(8,sk2 j3)]∧m=⟨[],1⟩))∧p144_2 False fu K0 x0 j3) (fun k5 h L hL_2=>?_) (fun k5 h L hL_2=>?_) ?_;cbv;exact hL_2 _ _ ⟨(B0 .eql x0 4),C1,h⟩;cbv;exact hL_2 _ _ ⟨(B0 .eql x0 5),C1,h⟩
 rintro tm m ⟨j3,hs,h⟩
 unfold p144_2 at h;obtain⟨rfl,rfl⟩:=hs;cbv;exact hL_1 _ _ ⟨j3,C1,h⟩
 rintro tm m ⟨j2,hs,h⟩
 unfold p144_1 at h;obtain⟨rfl,rfl⟩:=hs;cbv;refine C5 hO h (fun k2 h=>?_) fun k2 h=>?_;cbv;rw [b];exact⟨2,_,C7,h⟩;cbv;refine C5 hO h (fun k3 h=>?_) fun k3 h=>?_;cbv;rw [b];exact⟨3,_,C7,h⟩;cbv;apply B6 hO;cbv;apply B6 hO;cbv;apply B6 hO;cbv;rw [b];exact⟨(-1),_,C7,h⟩
theorem d_p134 (fu:Nat){K0:Bool→Prop}(L:EL→Nat)(hN:L=List.length){x0 x1:Int}{x2:ByteArray}{x3 x4:EL}(h:p134 False fu K0 x0 x1 x2 x3 x4):Den Tryz.prog G0 134 [.agg [.c (.v (.int .i64 x0)),.c (.v (.int .i64 x1)),.c (.v (.string x2)),.c (.sl 3 x3 none),.c (.sl 5 x4 none)]] (fun r bs=>(∃ (y0:Bool) (o0:OV),(r=.c (.v (.bool y0))∧bs=[o0])∧K0 y0)):=by
 obtain⟨O,hO⟩:=F3 0
 have hLO:L=O.len:=by rw [hN,hO];rfl
 subst hLO;refine D4 hO tiA D3 D2 (fn:=Tryz.f134) (sh:=true) (by kernel_rfl) rfl rfl rfl rfl ?_;intro Q b;unfold p134 at h;cbv;refine C6 hO tiA [[]] [(0,true,false),(1,true,false),(2,true,false),(3,true,false),(4,true,false),(5,true,false),(6,true,false),(7,true,true)] (by kernel_rfl) ?_;cbv;apply B6 hO;cbv;refine C6 hO tiA [[],[]] [(0,true,false),(1,true,false),(3,true,false),(4,true,false),(5,true,false),(2,false,false),(6,true,true),(7,true,true)] (by kernel_rfl) ?_;cbv;refine B1 hO [.shut] (d_p144 fu O.len hN h) ?_;intro e Q a b;cbv;refine C2 b fun r bs d=>?_;clear a b h;obtain⟨y1,_,⟨rfl,rfl⟩,h⟩:=d;cbv;refine agr hO rfl rfl ?_;apply B6 hO;cbv;refine D5 hO tiA h [1,4,11] [2000] [] (fun tm m=>∃ (j2 j3:Bool),((tm=C3 0 59 [(1,.p 2000 0 0),(4,sk2 j2),(11,sk2 j3)]∧m=⟨[(2000,.blk 0 (sk3 x0 x1 x2 x3 x4))],1⟩))∧p134_2 False fu K0 x0 x3 j2 j3) (fun k4 h L hL_2=>?_) (fun k4 h L hL_2=>?_) ?_;cbv;exact hL_2 _ _ ⟨(B0 .eql x0 2),(B0 .neq y1 ((x4.length:Nat):Int)),C1,h⟩;cbv;refine D1 hO tiA [1,3,4,11] [2000] [] (fun tm m=>∃ (j5 j6 j7:Bool),((tm=C3 0 59 [(1,.p 2000 0 0),(3,sk2 j5),(4,sk2 j6),(11,sk2 j7)]∧m=⟨[(2000,.blk 0 (sk3 x0 x1 x2 x3 x4))],1⟩))∧p134_7 False fu K0 x0 x1 x2 x3 j5 j6 j7) (fun L hL_7=>?_) ?_;cbv;refine C5 hO h (fun k9 h=>?_) fun k9 h=>?_;cbv;apply B9 hO k9;cbv;apply B9 hO k9;cbv;apply B9 hO k9;cbv;refine C5 hO h (fun a0 h=>?_) fun a0 h=>?_;cbv;apply B9 hO a0;cbv;apply B9 hO a0;cbv;apply B9 hO k9;cbv;apply B9 hO a0;cbv;apply B9 hO k9;cbv;exact hL_7 _ _ ⟨(B0 .eql x0 0),(B0 .eql x0 2),true,C1,h⟩;cbv;apply B7 hO a0;cbv;apply B7 hO a0;cbv;apply B9 hO k9;cbv;apply B7 hO a0;cbv;apply B9 hO k9;cbv;exact hL_7 _ _ ⟨(B0 .eql x0 0),(B0 .eql x0 2),(B0 .gtr x1 1073741824),C1,h⟩;cbv;apply B7 hO k9;cbv;apply B7 hO k9;cbv;apply B7 hO k9;cbv;apply B7 hO k9;cbv;apply B7 hO k9;cbv;exact hL_7 _ _ ⟨(B0 .eql x0 0),(B0 .eql x0 2),false,C1,h⟩
 rintro tm m ⟨j5,j6,j7,hs,h⟩
 unfold p134_7 at h;obtain⟨rfl,rfl⟩:=hs;cbv;refine D5 hO tiA h [1,4,11] [2000] [] (fun tm m=>∃ (j8:Bool),((tm=C3 0 59 [(1,.p 2000 0 0),(4,sk2 j6),(11,sk2 j8)]∧m=⟨[(2000,.blk 0 (sk3 x0 x1 x2 x3 x4))],1⟩))∧p134_3 False fu K0 x0 x3 j6 j8) (fun k5 h L hL_3=>?_) (fun k5 h L hL_3=>?_) ?_;cbv;exact hL_3 _ _ ⟨j7,C1,h⟩;cbv;refine D1 hO tiA [1,4,11] [2000] [] (fun tm m=>∃ (j9:Bool),((tm=C3 0 59 [(1,.p 2000 0 0),(4,sk2 j6),(11,sk2 j9)]∧m=⟨[(2000,.blk 0 (sk3 x0 x1 x2 x3 x4))],1⟩))∧p134_6 False fu K0 x0 x2 x3 j6 j9) (fun L hL_6=>?_) ?_;cbv;refine C5 hO h (fun k8 h=>?_) fun k8 h=>?_;cbv;apply B9 hO k8;cbv;apply B9 hO k8;cbv;apply B9 hO k8;cbv;exact hL_6 _ _ ⟨(B0 .neq x1 0),C1,h⟩;cbv;apply B7 hO k8;cbv;apply B7 hO k8;cbv;apply B7 hO k8;cbv;exact hL_6 _ _ ⟨false,C1,h⟩
 rintro tm m ⟨j9,hs,h⟩
 unfold p134_6 at h;obtain⟨rfl,rfl⟩:=hs;cbv;refine D5 hO tiA h [1,4,11] [2000] [] (fun tm m=>∃ (c0:Bool),((tm=C3 0 59 [(1,.p 2000 0 0),(4,sk2 j6),(11,sk2 c0)]∧m=⟨[(2000,.blk 0 (sk3 x0 x1 x2 x3 x4))],1⟩))∧p134_4 False fu K0 x0 x3 j6 c0) (fun k6 h L hL_4=>?_) (fun k6 h L hL_4=>?_) ?_;cbv;exact hL_4 _ _ ⟨j9,C1,h⟩;cbv;refine D1 hO tiA [1,4,11] [2000] [] (fun tm m=>∃ (d0:Bool),((tm=C3 0 59 [(1,.p 2000 0 0),(4,sk2 j6),(11,sk2 d0)]∧m=⟨[(2000,.blk 0 (sk3 x0 x1 x2 x3 x4))],1⟩))∧p134_5 False fu K0 x0 x3 j6 d0) (fun L hL_5=>?_) ?_;cbv;refine C5 hO h (fun k7 h=>?_) fun k7 h=>?_;cbv;apply B9 hO k7;cbv;apply B9 hO k7;cbv;apply B9 hO k7;cbv;exact hL_5 _ _ ⟨(P3 .neq x2 ⟨#[]⟩),C1,h⟩;cbv;apply B7 hO k7;cbv;apply B7 hO k7;cbv;apply B7 hO k7;cbv;exact hL_5 _ _ ⟨false,C1,h⟩
 rintro tm m ⟨d0,hs,h⟩
 unfold p134_5 at h;obtain⟨rfl,rfl⟩:=hs;cbv;exact hL_4 _ _ ⟨d0,C1,h⟩
 rintro tm m ⟨c0,hs,h⟩
 unfold p134_4 at h;obtain⟨rfl,rfl⟩:=hs;cbv;exact hL_3 _ _ ⟨c0,C1,h⟩
 rintro tm m ⟨j8,hs,h⟩
 unfold p134_3 at h;obtain⟨rfl,rfl⟩:=hs;cbv;exact hL_2 _ _ ⟨j6,j8,C1,h⟩
 rintro tm m ⟨j2,j3,hs,h⟩
 unfold p134_2 at h;obtain⟨rfl,rfl⟩:=hs;cbv;refine C5 hO h (fun k1 h=>?_) fun k1 h=>?_;cbv;rw [b];exact⟨false,_,C7,h⟩;cbv;refine C5 hO h (fun k2 h=>?_) fun k2 h=>?_;cbv;rw [b];exact⟨(B0 .eql ((x3.length:Nat):Int) 1),_,C7,h⟩;cbv;apply B6 hO;cbv;apply B6 hO;cbv;refine D1 hO tiA [2] [] [] (fun tm m=>∃ (j4:Bool),((tm=C3 0 59 [(2,sk2 j4)]∧m=⟨[],1⟩))∧p134_1 False fu K0 j4) (fun L hL_1=>?_) ?_;cbv;refine C5 hO h (fun k3 h=>?_) fun k3 h=>?_;cbv;apply B9 hO k3;cbv;apply B9 hO k3;cbv;apply B9 hO k3;cbv;apply B9 hO k3;cbv;exact hL_1 _ _ ⟨true,C1,h⟩;cbv;apply B7 hO k3;cbv;apply B7 hO k3;cbv;apply B7 hO k3;cbv;apply B7 hO k3;cbv;exact hL_1 _ _ ⟨(B0 .eql ((x3.length:Nat):Int) 0),C1,h⟩
 rintro tm m ⟨j4,hs,h⟩
 unfold p134_1 at h;obtain⟨rfl,rfl⟩:=hs;cbv;rw [b];exact⟨j4,_,C7,h⟩
def D_p105 (fu:Nat):Prop:=∀ {K0:Bool→Int→Prop} (L:EL→Nat) (_:L=List.length) {x0 x1:Int} {x2:ByteArray} {x3 x4:EL} {x5 x6:Int} (_:p105 False fu K0 x0 x1 x2 x3 x4 x5 x6),Den Tryz.prog G0 105 [.agg [.c (.v (.int .i64 x0)),.c (.v (.int .i64 x1)),.c (.v (.string x2)),.c (.sl 3 x3 none),.c (.sl 5 x4 none)],.ptr [.c (.v (.int .i64 x5))],.c (.v (.int .i64 x6))] (fun r bs=>(∃ (y0:Bool) (y1:Int) (o0 o2:OV),(r=.c (.v (.bool y0))∧bs=[o0,.ptr [.c (.v (.int .i64 y1))],o2])∧K0 y0 y1))
theorem b_p105 (fu:Nat)(ih_p105:D_p105 fu){K0:Bool→Int→Prop}(L:EL→Nat)(hN:L=List.length){x0 x1:Int}{x2:ByteArray}{x3 x4:EL}{x5 x6:Int}(h:p105_b False fu (p105 False fu) K0 x0 x1 x2 x3 x4 x5 x6):Den Tryz.prog G0 105 [.agg [.c (.v (.int .i64 x0)),.c (.v (.int .i64 x1)),.c (.v (.string x2)),.c (.sl 3 x3 none),.c (.sl 5 x4 none)],.ptr [.c (.v (.int .i64 x5))],.c (.v (.int .i64 x6))] (fun r bs=>(∃ (y0:Bool) (y1:Int) (o0 o2:OV),(r=.c (.v (.bool y0))∧bs=[o0,.ptr [.c (.v (.int .i64 y1))],o2])∧K0 y0 y1)):=by
 obtain⟨O,hO⟩:=F3 1
 have hLO:L=O.len:=by rw [hN,hO];rfl
 subst hLO;refine D4 hO tiA D3 D2 (fn:=Tryz.f105) (sh:=true) (by kernel_rfl) rfl rfl rfl rfl ?_;intro Q b;unfold p105_b at h;cbv;refine C5 hO h (fun k1 h=>?_) fun k1 h=>?_;cbv;rw [b];exact⟨true,B8 .add .i64 x5 1,_,_,C7,h⟩;cbv;apply B6 hO;cbv;refine B1 hO [.shut] (d_p134 fu O.len hN h) ?_;intro e Q a b;cbv;refine C2 b fun r bs d=>?_;clear a b h;obtain⟨y1,_,⟨rfl,rfl⟩,h⟩:=d;cbv;refine C5 hO h (fun k2 h=>?_) fun k2 h=>?_;cbv;rw [b];exact⟨false,B8 .add .i64 x5 1,_,_,C7,h⟩;cbv;apply B6 hO;cbv;refine E9 hO tiA [1,2,23,24,25] [0] [] (fun (n:Nat) tm m=>∃ (z2 z3 z4:Int),((tm=C3 0 40 [(1,.p 0 0 0),(2,sk1 x6),(23,sk5 x4),(24,sk1 z3),(25,sk1 z4)]∧m=⟨[(0,.blk 0 (sk4 z2))],2⟩))∧p105_1L False fu (p105 False fu) K0 x4 x6 n z2 z3 z4) (fun n=>n) fu ⟨B8 .add .i64 x5 1,((x4.length:Nat):Int),0,C1,h⟩ ?_
 rintro n1 tm m L ⟨z2,z3,z4,hs,h⟩ hLn1
 (cases n1 with
 | zero=>rw [p105_1L] at h;exact h.elim
 | succ n1 =>
 rw [p105_1L] at h;unfold p105_1 at h;obtain⟨rfl,rfl⟩:=hs;cbv;refine C5 hO h (fun k3 h=>?_) fun k3 h=>?_;cbv;apply B6 hO;cbv;refine P5 hO tiA ?_;cbv;refine C0 h fun h=>?_;refine C0 h fun h=>?_;have hz:=C9 h;obtain⟨c5,c6,c7,c8,c9,hr,h⟩:=hz;refine E6 hO ?_;clear hr;cbv;apply B6 hO;cbv;refine B1 hO [.shut,.ref 1,.shut] (ih_p105 O.len hN h) ?_;intro e Q a b;cbv;refine C2 b fun r bs d=>?_;clear a b h;obtain⟨c0,a0,_,_,⟨rfl,rfl⟩,h⟩:=d;cbv;refine C5 hO h (fun k4 h=>?_) fun k4 h=>?_;cbv;rw [b];exact⟨false,a0,_,_,C7,h⟩;cbv;apply B6 hO;cbv;refine C5 hO h (fun k5 h=>?_) fun k5 h=>?_;cbv;rw [b];exact⟨true,a0,_,_,C7,h⟩;cbv;apply B6 hO;cbv;exact hLn1 n1 _ _ (Nat.lt_succ_self n1) ⟨a0,z3,B8 .add .i64 z4 1,C1,h⟩;cbv;rw [b]
 exact⟨true,z2,_,_,C7,h⟩)
theorem dd_p105 (fu:Nat):D_p105 fu:=by
 induction fu with
 | zero=>unfold D_p105;intros;rename_i h;rw [p105] at h;exact h.elim
 | succ n ih =>
  exact (by unfold D_p105;intro K0 L hN x0 x1 x2 x3 x4 x5 x6 h;exact b_p105 n ih L hN (by rw [p105] at h;exact h))
theorem d_p105 (fu:Nat):D_p105 fu:=dd_p105 fu
theorem d_p79 (fu:Nat){K0:Int→Bool→Prop}(L:EL→Nat)(hN:L=List.length){x0 x1:Int}{x2:ByteArray}{x3 x4:EL}{x5:Int}(h:p79 False fu K0 x0 x1 x2 x3 x4 x5):Den Tryz.prog G0 79 [.agg [.c (.v (.int .i64 x0)),.c (.v (.int .i64 x1)),.c (.v (.string x2)),.c (.sl 3 x3 none),.c (.sl 5 x4 none)],.c (.v (.int .i64 x5))] (fun r bs=>(∃ (y0:Int) (y1:Bool) (o0 o1:OV),(r=.tup [.c (.v (.int .i64 y0)),.c (.v (.bool y1))]∧bs=[o0,o1])∧K0 y0 y1)):=by
 obtain⟨O,hO⟩:=F3 0
 have hLO:L=O.len:=by rw [hN,hO];rfl
 subst hLO;refine D4 hO tiA D3 D2 (fn:=Tryz.f79) (sh:=true) (by kernel_rfl) rfl rfl rfl rfl ?_;intro Q b;unfold p79 at h;cbv;refine B1 hO [.shut,.ref 1,.shut] (d_p105 fu O.len hN h) ?_;intro e Q a b;cbv;refine C2 b fun r bs d=>?_;clear a b h;obtain⟨y1,y2,_,_,⟨rfl,rfl⟩,h⟩:=d;cbv;rw [b];exact⟨y2,y1,_,_,C7,h⟩
def D_p80 (fu:Nat):Prop:=∀ {K0:Int→Prop} (L:EL→Nat) (_:L=List.length) {x0 x1:Int} {x2:ByteArray} {x3 x4:EL} {x5:Int} (_:p80 False fu K0 x0 x1 x2 x3 x4 x5),Den Tryz.prog G0 80 [.agg [.c (.v (.int .i64 x0)),.c (.v (.int .i64 x1)),.c (.v (.string x2)),.c (.sl 3 x3 none),.c (.sl 5 x4 none)],.c (.v (.int .i64 x5))] (fun r bs=>(∃ (y0:Int) (o0 o1:OV),(r=.c (.v (.int .i64 y0))∧bs=[o0,o1])∧K0 y0))
theorem b_p80 (fu:Nat)(ih_p80:D_p80 fu){K0:Int→Prop}(L:EL→Nat)(hN:L=List.length){x0 x1:Int}{x2:ByteArray}{x3 x4:EL}{x5:Int}(h:p80_b False fu (p80 False fu) K0 x0 x1 x2 x3 x4 x5):Den Tryz.prog G0 80 [.agg [.c (.v (.int .i64 x0)),.c (.v (.int .i64 x1)),.c (.v (.string x2)),.c (.sl 3 x3 none),.c (.sl 5 x4 none)],.c (.v (.int .i64 x5))] (fun r bs=>(∃ (y0:Int) (o0 o1:OV),(r=.c (.v (.int .i64 y0))∧bs=[o0,o1])∧K0 y0)):=by
 obtain⟨O,hO⟩:=F3 0
 have hLO:L=O.len:=by rw [hN,hO];rfl
 subst hLO;refine D4 hO tiA D3 D2 (fn:=Tryz.f80) (sh:=true) (by kernel_rfl) rfl rfl rfl rfl ?_;intro Q b;unfold p80_b at h;cbv;refine C5 hO h (fun k1 h=>?_) fun k1 h=>?_;cbv;rw [b];exact⟨1,_,_,C7,h⟩;cbv;apply B6 hO;cbv;refine E9 hO tiA [1,5,13,14,15] [] [] (fun (n:Nat) tm m=>∃ (z1 z2 z3 z4:Int),((tm=C3 0 32 [(1,sk1 z1),(5,sk1 z2),(13,sk5 x4),(14,sk1 z3),(15,sk1 z4)]∧m=⟨[],1⟩))∧p80_1L False fu (p80 False fu) K0 x4 n z1 z2 z3 z4) (fun n=>n) fu ⟨(if 0 > x5 then 0 else x5),1,((x4.length:Nat):Int),0,C1,h⟩ ?_
 rintro n1 tm m L ⟨z1,z2,z3,z4,hs,h⟩ hLn1
 (cases n1 with
 | zero=>rw [p80_1L] at h;exact h.elim
 | succ n1 =>
 rw [p80_1L] at h;unfold p80_1 at h;obtain⟨rfl,rfl⟩:=hs;cbv;refine C5 hO h (fun k2 h=>?_) fun k2 h=>?_;cbv;apply B6 hO;cbv;refine P5 hO tiA ?_;cbv;refine C0 h fun h=>?_;refine C0 h fun h=>?_;have hz:=C9 h;obtain⟨c5,c6,c7,c8,c9,hr,h⟩:=hz;refine E6 hO ?_;clear hr;cbv;apply B6 hO;cbv;refine B1 hO [.shut,.shut] (ih_p80 O.len hN h) ?_;intro e Q a b;cbv;refine C2 b fun r bs d=>?_;clear a b h;obtain⟨a0,_,_,⟨rfl,rfl⟩,h⟩:=d;cbv;refine C5 hO h (fun k3 h=>?_) fun k3 h=>?_;cbv;rw [b];exact⟨(if B8 .add .i64 1 a0 > z2 then B8 .add .i64 1 a0 else z2),_,_,C7,h⟩;cbv;apply B6 hO;cbv;exact hLn1 n1 _ _ (Nat.lt_succ_self n1) ⟨z1,(if B8 .add .i64 1 a0 > z2 then B8 .add .i64 1 a0 else z2),z3,B8 .add .i64 z4 1,C1,h⟩;cbv;rw [b]
 exact⟨z2,_,_,C7,h⟩)
theorem dd_p80 (fu:Nat):D_p80 fu:=by
 induction fu with
 | zero=>unfold D_p80;intros;rename_i h;rw [p80] at h;exact h.elim
 | succ n ih =>
  exact (by unfold D_p80;intro K0 L hN x0 x1 x2 x3 x4 x5 h;exact b_p80 n ih L hN (by rw [p80] at h;exact h))
theorem d_p80 (fu:Nat):D_p80 fu:=dd_p80 fu
theorem d_p145 (fu:Nat){K0:Int→Prop}(L:EL→Nat)(hN:L=List.length){x0:Int}(h:p145 False fu K0 x0):Den Tryz.prog G0 145 [.c (.v (.int .i64 x0))] (fun r bs=>(∃ (y0:Int) (o0:OV),(r=.c (.v (.int .i64 y0))∧bs=[o0])∧K0 y0)):=by
 obtain⟨O,hO⟩:=F3 0
 have hLO:L=O.len:=by rw [hN,hO];rfl
 subst hLO;refine D4 hO tiA D3 D2 (fn:=Tryz.f145) (sh:=true) (by kernel_rfl) rfl rfl rfl rfl ?_;intro Q b;unfold p145 at h;cbv;refine D5 hO tiA h [3,4] [] [] (fun tm m=>∃ (j1:Bool),((tm=C3 0 12 [(3,sk1 x0),(4,sk2 j1)]∧m=⟨[],1⟩))∧p145_2 False fu K0 x0 j1) (fun k5 h L hL_2=>?_) (fun k5 h L hL_2=>?_) ?_;cbv;exact hL_2 _ _ ⟨(B0 .eql x0 0),C1,h⟩;cbv;exact hL_2 _ _ ⟨(B0 .eql x0 4),C1,h⟩
 rintro tm m ⟨j1,hs,h⟩
 unfold p145_2 at h;obtain⟨rfl,rfl⟩:=hs;cbv;refine C5 hO h (fun k1 h=>?_) fun k1 h=>?_;cbv;rw [b];exact⟨0,_,C7,h⟩;cbv;refine C5 hO h (fun k2 h=>?_) fun k2 h=>?_;cbv;rw [b];exact⟨1,_,C7,h⟩;cbv;refine D5 hO tiA h [9] [] [] (fun tm m=>∃ (j2:Bool),((tm=C3 0 12 [(9,sk2 j2)]∧m=⟨[],1⟩))∧p145_1 False fu K0 j2) (fun k4 h L hL_1=>?_) (fun k4 h L hL_1=>?_) ?_;cbv;exact hL_1 _ _ ⟨(B0 .eql x0 2),C1,h⟩;cbv;exact hL_1 _ _ ⟨(B0 .eql x0 3),C1,h⟩
 rintro tm m ⟨j2,hs,h⟩
 unfold p145_1 at h;obtain⟨rfl,rfl⟩:=hs;cbv;refine C5 hO h (fun k3 h=>?_) fun k3 h=>?_;cbv;rw [b];exact⟨2,_,C7,h⟩;cbv;apply B6 hO;cbv;apply B6 hO;cbv;apply B6 hO;cbv;rw [b];exact⟨(-1),_,C7,h⟩
def D_p135 (fu:Nat):Prop:=∀ {K0:Bool→Int→Prop} (L:EL→Nat) (_:L=List.length) {x0 x1:Int} {x2:EL} {x3 x4 x5:Int} (_:p135 False fu K0 x0 x1 x2 x3 x4 x5),Den Tryz.prog G0 135 [.agg [.c (.v (.int .i64 x0)),.c (.v (.int .i64 x1)),.c (.sl 3 x2 none)],.c (.v (.int .i64 x3)),.c (.v (.int .i64 x4)),.ptr [.c (.v (.int .i64 x5))]] (fun r bs=>(∃ (y0:Bool) (y1:Int) (o0 o1 o2:OV),(r=.c (.v (.bool y0))∧bs=[o0,o1,o2,.ptr [.c (.v (.int .i64 y1))]])∧K0 y0 y1))
theorem b_p135 (fu:Nat)(ih_p135:D_p135 fu){K0:Bool→Int→Prop}(L:EL→Nat)(hN:L=List.length){x0 x1:Int}{x2:EL}{x3 x4 x5:Int}(h:p135_b False fu (p135 False fu) K0 x0 x1 x2 x3 x4 x5):Den Tryz.prog G0 135 [.agg [.c (.v (.int .i64 x0)),.c (.v (.int .i64 x1)),.c (.sl 3 x2 none)],.c (.v (.int .i64 x3)),.c (.v (.int .i64 x4)),.ptr [.c (.v (.int .i64 x5))]] (fun r bs=>(∃ (y0:Bool) (y1:Int) (o0 o1 o2:OV),(r=.c (.v (.bool y0))∧bs=[o0,o1,o2,.ptr [.c (.v (.int .i64 y1))]])∧K0 y0 y1)):=by
 obtain⟨O,hO⟩:=F3 1
 have hLO:L=O.len:=by rw [hN,hO];rfl
 subst hLO;refine D4 hO tiA D3 D2 (fn:=Tryz.f135) (sh:=true) (by kernel_rfl) rfl rfl rfl rfl ?_;intro Q b;unfold p135_b at h;cbv;refine H9 hO tiA [[],[]] [(0,true,false),(1,true,false),(2,true,false),(3,true,false),(4,true,false),(5,true,false),(6,true,false),(7,true,false),(8,true,false),(9,true,false),(10,true,false),(12,true,false),(13,true,false),(14,true,false),(11,false,false),(15,true,true),(16,true,true)] (by kernel_rfl) [1,2,3,4,32] [0,5000] [] (fun tm m=>∃ (j1:Int) (j2:Bool),((tm=C3 0 72 [(1,sk1 x3),(2,sk1 x4),(3,.p 0 0 0),(4,.p 5000 1 0),(32,sk2 j2)]∧m=⟨[(0,.blk 0 (sk4 j1)),(5000,.blk 1 (sk6 x0 x1 x2))],2⟩))∧p135_3 False fu (p135 False fu) K0 x0 x1 x2 x3 x4 j1 j2) (fun L hL_3=>?_) ?_;cbv;refine C5 hO h (fun k8 h=>?_) fun k8 h=>?_;cbv;apply B9 hO k8;cbv;apply B9 hO k8;cbv;apply B9 hO k8;cbv;apply B9 hO k8;cbv;apply B9 hO rfl;cbv;apply B9 hO rfl;cbv;apply B9 hO rfl;cbv;apply B9 hO rfl;cbv;apply B9 hO rfl;cbv;apply B9 hO rfl;cbv;apply B9 hO rfl;cbv;apply B9 hO rfl;cbv;exact hL_3 _ _ ⟨B8 .add .i64 x5 1,true,C1,h⟩;cbv;apply B7 hO k8;cbv;apply B7 hO k8;cbv;apply B7 hO k8;cbv;apply B7 hO k8;cbv;refine C5 hO h (fun k9 h=>?_) fun k9 h=>?_;cbv;apply B9 hO k9;cbv;apply B9 hO k9;cbv;apply B9 hO k9;cbv;apply B9 hO k9;cbv;apply B9 hO k9;cbv;apply B9 hO k9;cbv;apply B9 hO k9;cbv;exact hL_3 _ _ ⟨B8 .add .i64 x5 1,true,C1,h⟩;cbv;apply B7 hO k9;cbv;apply B7 hO k9;cbv;apply B7 hO k9;cbv;apply B7 hO k9;cbv;apply B7 hO k9;cbv;refine B1 hO [.shut] (d_p145 fu O.len hN h) ?_;intro e Q a b;cbv;refine C2 b fun r bs d=>?_;clear a b h;obtain⟨c0,_,⟨rfl,rfl⟩,h⟩:=d;cbv;refine agr hO rfl rfl ?_;apply B7 hO k9;cbv;apply B7 hO k9;cbv;exact hL_3 _ _ ⟨B8 .add .i64 x5 1,(B0 .neq c0 ((x2.length:Nat):Int)),C1,h⟩
 rintro tm m ⟨j1,j2,hs,h⟩
 unfold p135_3 at h;obtain⟨rfl,rfl⟩:=hs;cbv;refine C5 hO h (fun k1 h=>?_) fun k1 h=>?_;cbv;rw [b];exact⟨false,j1,_,_,_,C7,h⟩;cbv;apply B6 hO;cbv;refine D1 hO tiA [1,2,3,4,56] [0,5000] [] (fun tm m=>∃ (j3:Bool),((tm=C3 0 72 [(1,sk1 x3),(2,sk1 x4),(3,.p 0 0 0),(4,.p 5000 1 0),(56,sk2 j3)]∧m=⟨[(0,.blk 0 (sk4 j1)),(5000,.blk 1 (sk6 x0 x1 x2))],2⟩))∧p135_2 False fu (p135 False fu) K0 x2 x3 x4 j1 j3) (fun L hL_2=>?_) ?_;cbv;refine C5 hO h (fun k5 h=>?_) fun k5 h=>?_;cbv;apply B9 hO k5;cbv;apply B9 hO k5;cbv;apply B9 hO k5;cbv;refine C5 hO h (fun k6 h=>?_) fun k6 h=>?_;cbv;apply B9 hO k6;cbv;apply B9 hO k6;cbv;apply B9 hO k6;cbv;apply B9 hO k5;cbv;apply B9 hO k6;cbv;apply B9 hO k5;cbv;apply B9 hO rfl;cbv;apply B9 hO rfl;cbv;apply B9 hO rfl;cbv;apply B9 hO rfl;cbv;apply B9 hO rfl;cbv;apply B9 hO rfl;cbv;exact hL_2 _ _ ⟨true,C1,h⟩;cbv;apply B7 hO k6;cbv;apply B7 hO k6;cbv;apply B7 hO k6;cbv;apply B9 hO k5;cbv;apply B7 hO k6;cbv;apply B9 hO k5;cbv;refine C5 hO h (fun k7 h=>?_) fun k7 h=>?_;cbv;apply B9 hO k7;cbv;apply B9 hO k7;cbv;apply B9 hO k7;cbv;apply B9 hO k7;cbv;apply B9 hO k7;cbv;exact hL_2 _ _ ⟨true,C1,h⟩;cbv;apply B7 hO k7;cbv;apply B7 hO k7;cbv;apply B7 hO k7;cbv;refine B7 hO (M7 hO .eql .neq rfl rfl rfl k5) ?_;cbv;refine B7 hO (M7 hO .eql .neq rfl rfl rfl k5) ?_;cbv;refine B7 hO (M7 hO .eql .neq rfl rfl rfl k5) ?_;cbv;apply B7 hO k7;cbv;refine B7 hO (M7 hO .eql .neq rfl rfl rfl k5) ?_;cbv;apply B7 hO k7;cbv;exact hL_2 _ _ ⟨false,C1,h⟩;cbv;apply B7 hO k5;cbv;apply B7 hO k5;cbv;apply B7 hO k5;cbv;apply B7 hO k5;cbv;apply B7 hO k5;cbv;apply B7 hO rfl;cbv;apply B7 hO rfl;cbv;apply B7 hO rfl;cbv;apply B7 hO rfl;cbv;refine B9 hO (M7 hO .eql .neq rfl rfl rfl k5) ?_;cbv;refine B9 hO (M7 hO .eql .neq rfl rfl rfl k5) ?_;cbv;refine B9 hO (M7 hO .eql .neq rfl rfl rfl k5) ?_;cbv;apply B7 hO rfl;cbv;refine B9 hO (M7 hO .eql .neq rfl rfl rfl k5) ?_;cbv;apply B7 hO rfl;cbv;exact hL_2 _ _ ⟨(B0 .neq x1 0),C1,h⟩
 rintro tm m ⟨j3,hs,h⟩
 unfold p135_2 at h;obtain⟨rfl,rfl⟩:=hs;cbv;refine C5 hO h (fun k2 h=>?_) fun k2 h=>?_;cbv;rw [b];exact⟨false,j1,_,_,_,C7,h⟩;cbv;apply B6 hO;cbv;refine E9 hO tiA [1,2,3,58,59,60] [0] [] (fun (n:Nat) tm m=>∃ (z4 z5 z6:Int),((tm=C3 0 72 [(1,sk1 x3),(2,sk1 x4),(3,.p 0 0 0),(58,sk7 x2),(59,sk1 z5),(60,sk1 z6)]∧m=⟨[(0,.blk 0 (sk4 z4))],2⟩))∧p135_1L False fu (p135 False fu) K0 x2 x3 x4 n z4 z5 z6) (fun n=>n) fu ⟨j1,((x2.length:Nat):Int),0,C1,h⟩ ?_
 rintro n1 tm m L ⟨z4,z5,z6,hs,h⟩ hLn1
 (cases n1 with
 | zero=>rw [p135_1L] at h;exact h.elim
 | succ n1 =>
 rw [p135_1L] at h;unfold p135_1 at h;obtain⟨rfl,rfl⟩:=hs;cbv;refine C5 hO h (fun k3 h=>?_) fun k3 h=>?_;cbv;apply B6 hO;cbv;refine P5 hO tiA ?_;cbv;refine C0 h fun h=>?_;refine C0 h fun h=>?_;have hz:=G1 h;obtain⟨c7,c8,c9,hr,h⟩:=hz;refine E6 hO ?_;clear hr;cbv;apply B6 hO;cbv;refine B1 hO [.shut,.shut,.shut,.ref 1] (ih_p135 O.len hN h) ?_;intro e Q a b;cbv;refine C2 b fun r bs d=>?_;clear a b h;obtain⟨d0,a0,_,_,_,⟨rfl,rfl⟩,h⟩:=d;cbv;refine C5 hO h (fun k4 h=>?_) fun k4 h=>?_;cbv;rw [b];exact⟨false,a0,_,_,_,C7,h⟩;cbv;apply B6 hO;cbv;exact hLn1 n1 _ _ (Nat.lt_succ_self n1) ⟨a0,z5,B8 .add .i64 z6 1,C1,h⟩;cbv;rw [b]
 exact⟨true,z4,_,_,_,C7,h⟩)
theorem dd_p135 (fu:Nat):D_p135 fu:=by
 induction fu with
 | zero=>unfold D_p135;intros;rename_i h;rw [p135] at h;exact h.elim
 | succ n ih =>
  exact (by unfold D_p135;intro K0 L hN x0 x1 x2 x3 x4 x5 h;exact b_p135 n ih L hN (by rw [p135] at h;exact h))
theorem d_p135 (fu:Nat):D_p135 fu:=dd_p135 fu
theorem d_p106 (fu:Nat){K0:Bool→Prop}(L:EL→Nat)(hN:L=List.length){x0 x1:Int}{x2:EL}{x3:Int}(h:p106 False fu K0 x0 x1 x2 x3):Den Tryz.prog G0 106 [.agg [.c (.v (.int .i64 x0)),.c (.v (.int .i64 x1)),.c (.sl 3 x2 none)],.c (.v (.int .i64 x3))] (fun r bs=>(∃ (y0:Bool) (o0 o1:OV),(r=.c (.v (.bool y0))∧bs=[o0,o1])∧K0 y0)):=by
 obtain⟨O,hO⟩:=F3 0
 have hLO:L=O.len:=by rw [hN,hO];rfl
 subst hLO;refine D4 hO tiA D3 D2 (fn:=Tryz.f106) (sh:=true) (by kernel_rfl) rfl rfl rfl rfl ?_;intro Q b;unfold p106 at h;cbv;refine B1 hO [.shut,.shut,.shut,.ref 1] (d_p135 fu O.len hN h) ?_;intro e Q a b;cbv;refine C2 b fun r bs d=>?_;clear a b h;obtain⟨y1,y2,_,_,_,⟨rfl,rfl⟩,h⟩:=d;cbv;rw [b];exact⟨y1,_,_,C7,h⟩
def D_p81 (fu:Nat):Prop:=∀ {K0:Bool→Prop} (L:EL→Nat) (_:L=List.length) {x0 x1:Int} {x2:ByteArray} {x3 x4:EL} (_:p81 False fu K0 x0 x1 x2 x3 x4),Den Tryz.prog G0 81 [.agg [.c (.v (.int .i64 x0)),.c (.v (.int .i64 x1)),.c (.v (.string x2)),.c (.sl 3 x3 none),.c (.sl 5 x4 none)]] (fun r bs=>(∃ (y0:Bool) (o0:OV),(r=.c (.v (.bool y0))∧bs=[o0])∧K0 y0))
theorem b_p81 (fu:Nat)(ih_p81:D_p81 fu){K0:Bool→Prop}(L:EL→Nat)(hN:L=List.length){x0 x1:Int}{x2:ByteArray}{x3 x4:EL}(h:p81_b False fu (p81 False fu) K0 x0 x1 x2 x3 x4):Den Tryz.prog G0 81 [.agg [.c (.v (.int .i64 x0)),.c (.v (.int .i64 x1)),.c (.v (.string x2)),.c (.sl 3 x3 none),.c (.sl 5 x4 none)]] (fun r bs=>(∃ (y0:Bool) (o0:OV),(r=.c (.v (.bool y0))∧bs=[o0])∧K0 y0)):=by
 obtain⟨O,hO⟩:=F3 0
 have hLO:L=O.len:=by rw [hN,hO];rfl
 subst hLO;refine D4 hO tiA D3 D2 (fn:=Tryz.f81) (sh:=true) (by kernel_rfl) rfl rfl rfl rfl ?_;intro Q b;unfold p81_b at h;cbv;refine D1 hO tiA [1,16] [2000] [] (fun tm m=>∃ (j1:Bool),((tm=C3 0 39 [(1,.p 2000 0 0),(16,sk2 j1)]∧m=⟨[(2000,.blk 0 (sk3 x0 x1 x2 x3 x4))],1⟩))∧p81_3 False fu (p81 False fu) K0 x3 x4 j1) (fun L hL_3=>?_) ?_;cbv;refine C5 hO h (fun k6 h=>?_) fun k6 h=>?_;cbv;apply B9 hO k6;cbv;apply B9 hO k6;cbv;apply B9 hO k6;cbv;apply B9 hO k6;cbv;exact hL_3 _ _ ⟨true,C1,h⟩;cbv;apply B7 hO k6;cbv;apply B7 hO k6;cbv;apply B7 hO k6;cbv;apply B7 hO k6;cbv;exact hL_3 _ _ ⟨(B0 .gtr ((x2.size:Nat):Int) 24),C1,h⟩
 rintro tm m ⟨j1,hs,h⟩
 unfold p81_3 at h;obtain⟨rfl,rfl⟩:=hs;cbv;refine C5 hO h (fun k1 h=>?_) fun k1 h=>?_;cbv;rw [b];exact⟨false,_,C7,h⟩;cbv;apply B6 hO;cbv;refine E9 hO tiA [1,18,19,20] [2000] [] (fun (n:Nat) tm m=>∃ (z2 z3:Int),((tm=C3 0 39 [(1,.p 2000 0 0),(18,sk7 x3),(19,sk1 z2),(20,sk1 z3)]∧m=⟨[(2000,.blk 0 (sk3 x0 x1 x2 x3 x4))],1⟩))∧p81_2L False fu (p81 False fu) K0 x3 x4 n z2 z3) (fun n=>n) fu ⟨((x3.length:Nat):Int),0,C1,h⟩ ?_
 rintro n1 tm m L ⟨z2,z3,hs,h⟩ hLn1
 (cases n1 with
 | zero=>rw [p81_2L] at h;exact h.elim
 | succ n1 =>
 rw [p81_2L] at h;unfold p81_2 at h;obtain⟨rfl,rfl⟩:=hs;cbv;refine C5 hO h (fun k2 h=>?_) fun k2 h=>?_;cbv;apply B6 hO;cbv;refine P5 hO tiA ?_;cbv;refine C0 h fun h=>?_;refine C0 h fun h=>?_;have hz:=G1 h;obtain⟨c4,c5,c6,hr,h⟩:=hz;refine E6 hO ?_;clear hr;cbv;apply B6 hO;cbv;refine B1 hO [.shut,.shut] (d_p106 fu O.len hN h) ?_;intro e Q a b;cbv;refine C2 b fun r bs d=>?_;clear a b h;obtain⟨y7,_,_,⟨rfl,rfl⟩,h⟩:=d;cbv;refine C5 hO h (fun k3 h=>?_) fun k3 h=>?_;cbv;rw [b];exact⟨false,_,C7,h⟩;cbv;apply B6 hO;cbv;exact hLn1 n1 _ _ (Nat.lt_succ_self n1) ⟨z2,B8 .add .i64 z3 1,C1,h⟩;cbv;refine E9 hO tiA [29,30,31] [] [] (fun (n:Nat) tm m=>∃ (z8 z9:Int),((tm=C3 0 39 [(29,sk5 x4),(30,sk1 z8),(31,sk1 z9)]∧m=⟨[],1⟩))∧p81_1L False fu (p81 False fu) K0 x4 n z8 z9) (fun n=>n) fu ⟨((x4.length:Nat):Int),0,C1,h⟩ ?_
 rintro n2 tm m L ⟨z8,z9,hs,h⟩ hLn2
 (cases n2 with
 | zero=>rw [p81_1L] at h;exact h.elim
 | succ n2 =>
 rw [p81_1L] at h;unfold p81_1 at h;obtain⟨rfl,rfl⟩:=hs;cbv;refine C5 hO h (fun k4 h=>?_) fun k4 h=>?_;cbv;apply B6 hO;cbv;refine P5 hO tiA ?_;cbv;refine C0 h fun h=>?_;refine C0 h fun h=>?_;have hz:=C9 h;obtain⟨a0,c0,d0,e0,f0,hr,h⟩:=hz;refine E6 hO ?_;clear hr;cbv;apply B6 hO;cbv;refine B1 hO [.shut] (ih_p81 O.len hN h) ?_;intro e Q a b;cbv;refine C2 b fun r bs d=>?_;clear a b h;obtain⟨g0,_,⟨rfl,rfl⟩,h⟩:=d;cbv;refine C5 hO h (fun k5 h=>?_) fun k5 h=>?_;cbv;rw [b];exact⟨false,_,C7,h⟩;cbv;apply B6 hO;cbv;exact hLn2 n2 _ _ (Nat.lt_succ_self n2) ⟨z8,B8 .add .i64 z9 1,C1,h⟩;cbv;rw [b]
 exact⟨true,_,C7,h⟩))
theorem dd_p81 (fu:Nat):D_p81 fu:=by
 induction fu with
 | zero=>unfold D_p81;intros;rename_i h;rw [p81] at h;exact h.elim
 | succ n ih =>
  exact (by unfold D_p81;intro K0 L hN x0 x1 x2 x3 x4 h;exact b_p81 n ih L hN (by rw [p81] at h;exact h))
theorem d_p81 (fu:Nat):D_p81 fu:=dd_p81 fu
theorem d_p40 (fu:Nat){K0:Bool→Prop}(L:EL→Nat)(hN:L=List.length){x0 x1:Int}{x2:ByteArray}{x3 x4:EL}(h:p40 False fu K0 x0 x1 x2 x3 x4):Den Tryz.prog G0 40 [.agg [.c (.v (.int .i64 x0)),.c (.v (.int .i64 x1)),.c (.v (.string x2)),.c (.sl 3 x3 none),.c (.sl 5 x4 none)]] (fun r bs=>(∃ (y0:Bool) (o0:OV),(r=.c (.v (.bool y0))∧bs=[o0])∧K0 y0)):=by
 obtain⟨O,hO⟩:=F3 0
 have hLO:L=O.len:=by rw [hN,hO];rfl
 subst hLO;refine D4 hO tiA D3 D2 (fn:=Tryz.f40) (sh:=true) (by kernel_rfl) rfl rfl rfl rfl ?_;intro Q b;unfold p40 at h;cbv;refine B1 hO [.shut,.shut] (d_p79 fu O.len hN h) ?_;intro e Q a b;cbv;refine C2 b fun r bs d=>?_;clear a b h;obtain⟨y1,y2,_,_,⟨rfl,rfl⟩,h⟩:=d;cbv;refine D1 hO tiA [2] [] [] (fun tm m=>∃ (j3:Bool),((tm=C3 0 24 [(2,sk2 j3)]∧m=⟨[],1⟩))∧p40_1 False fu K0 j3) (fun L hL_1=>?_) ?_;cbv;refine C5 hO h (fun k1 h=>?_) fun k1 h=>?_;cbv;apply B9 hO k1;cbv;apply B9 hO k1;cbv;refine C5 hO h (fun k2 h=>?_) fun k2 h=>?_;cbv;apply B9 hO k2;cbv;refine B1 hO [.shut,.shut] (d_p80 fu O.len hN h) ?_;intro e Q a b;cbv;refine C2 b fun r bs d=>?_;clear a b h;obtain⟨y4,_,_,⟨rfl,rfl⟩,h⟩:=d;cbv;apply B9 hO k2;cbv;apply B9 hO k2;cbv;refine C5 hO h (fun k3 h=>?_) fun k3 h=>?_;cbv;apply B9 hO k3;cbv;refine B1 hO [.shut] (d_p81 fu O.len hN h) ?_;intro e Q a b;cbv;refine C2 b fun r bs d=>?_;clear a b h;obtain⟨y5,_,⟨rfl,rfl⟩,h⟩:=d;cbv;apply B9 hO k3;cbv;exact hL_1 _ _ ⟨y5,C1,h⟩;cbv;apply B7 hO k3;cbv;apply B7 hO k3;cbv;exact hL_1 _ _ ⟨false,C1,h⟩;cbv;apply B7 hO k2;cbv;apply B7 hO k2;cbv;apply B7 hO k2;cbv;apply B7 hO rfl;cbv;apply B7 hO rfl;cbv;apply B7 hO rfl;cbv;exact hL_1 _ _ ⟨false,C1,h⟩;cbv;apply B7 hO k1;cbv;apply B7 hO k1;cbv;apply B7 hO rfl;cbv;apply B7 hO rfl;cbv;apply B7 hO rfl;cbv;apply B7 hO rfl;cbv;apply B7 hO rfl;cbv;apply B7 hO rfl;cbv;apply B7 hO rfl;cbv;exact hL_1 _ _ ⟨false,C1,h⟩
 rintro tm m ⟨j3,hs,h⟩
 unfold p40_1 at h;obtain⟨rfl,rfl⟩:=hs;cbv;rw [b];exact⟨j3,_,C7,h⟩
def D_p108b (fu:Nat):Prop:=∀ {K0:Bool→Prop} (L:EL→Nat) (_:L=List.length) {x0 x1:Int} {x2:EL} {x3 x4:Int} {x5:EL} (_:p108b False fu K0 x0 x1 x2 x3 x4 x5),Den Tryz.prog G0 108 [.agg [.c (.v (.int .i64 x0)),.c (.v (.int .i64 x1)),.c (.sl 3 x2 none)],.agg [.c (.v (.int .i64 x3)),.c (.v (.int .i64 x4)),.c (.sl 3 x5 none)]] (fun r bs=>(∃ (y0:Bool) (o0 o1:OV),(r=.c (.v (.bool y0))∧bs=[o0,o1])∧K0 y0))
def D_p107 (fu:Nat):Prop:=∀ {K0:Bool→Prop} (L:EL→Nat) (_:L=List.length) {x0 x1:EL} (_:p107 False fu K0 x0 x1),Den Tryz.prog G0 107 [.c (.sl 3 x0 none),.c (.sl 3 x1 none),.c (.v (.func (.func 108) #[] #[]))] (fun r bs=>(∃ (y0:Bool) (o0 o1 o2:OV),(r=.c (.v (.bool y0))∧bs=[o0,o1,o2])∧K0 y0))
theorem b_p108b (fu:Nat)(ih_p108b:D_p108b fu)(ih_p107:D_p107 fu){K0:Bool→Prop}(L:EL→Nat)(hN:L=List.length){x0 x1:Int}{x2:EL}{x3 x4:Int}{x5:EL}(h:p108b_b False fu (p108b False fu) (p107 False fu) K0 x0 x1 x2 x3 x4 x5):Den Tryz.prog G0 108 [.agg [.c (.v (.int .i64 x0)),.c (.v (.int .i64 x1)),.c (.sl 3 x2 none)],.agg [.c (.v (.int .i64 x3)),.c (.v (.int .i64 x4)),.c (.sl 3 x5 none)]] (fun r bs=>(∃ (y0:Bool) (o0 o1:OV),(r=.c (.v (.bool y0))∧bs=[o0,o1])∧K0 y0)):=by
 obtain⟨O,hO⟩:=F3 0
 have hLO:L=O.len:=by rw [hN,hO];rfl
 subst hLO;refine D4 hO tiA D3 D2 (fn:=Tryz.f108) (sh:=true) (by kernel_rfl) rfl rfl rfl rfl ?_;intro Q b;unfold p108b_b at h;cbv;refine D1 hO tiA [4] [] [] (fun tm m=>∃ (j1:Bool),((tm=C3 0 24 [(4,sk2 j1)]∧m=⟨[],1⟩))∧p108b_1 False fu (p108b False fu) (p107 False fu) K0 j1) (fun L hL_1=>?_) ?_;cbv;refine C5 hO h (fun k1 h=>?_) fun k1 h=>?_;cbv;apply B9 hO k1;cbv;apply B9 hO k1;cbv;apply B9 hO k1;cbv;apply B9 hO k1;cbv;apply B9 hO k1;cbv;refine C5 hO h (fun k2 h=>?_) fun k2 h=>?_;cbv;apply B9 hO k2;cbv;apply B9 hO k2;cbv;apply B9 hO k2;cbv;apply B9 hO k2;cbv;refine B1 hO [.shut,.shut,.shut] (ih_p107 O.len hN h) ?_;intro e Q a b;cbv;refine C2 b fun r bs d=>?_;clear a b h;obtain⟨y2,_,_,_,⟨rfl,rfl⟩,h⟩:=d;cbv;apply B9 hO k2;cbv;exact hL_1 _ _ ⟨y2,C1,h⟩;cbv;apply B7 hO k2;cbv;apply B7 hO k2;cbv;apply B7 hO k2;cbv;apply B7 hO k2;cbv;apply B7 hO k2;cbv;exact hL_1 _ _ ⟨false,C1,h⟩;cbv;apply B7 hO k1;cbv;apply B7 hO k1;cbv;apply B7 hO k1;cbv;apply B7 hO k1;cbv;apply B7 hO k1;cbv;apply B7 hO rfl;cbv;apply B7 hO rfl;cbv;apply B7 hO rfl;cbv;apply B7 hO rfl;cbv;apply B7 hO rfl;cbv;apply B7 hO rfl;cbv;exact hL_1 _ _ ⟨false,C1,h⟩
 rintro tm m ⟨j1,hs,h⟩
 unfold p108b_1 at h;obtain⟨rfl,rfl⟩:=hs;cbv;rw [b];exact⟨j1,_,_,C7,h⟩
theorem b_p107 (fu:Nat)(ih_p108b:D_p108b fu)(ih_p107:D_p107 fu){K0:Bool→Prop}(L:EL→Nat)(hN:L=List.length){x0 x1:EL}(h:p107_b False fu (p108b False fu) (p107 False fu) K0 x0 x1):Den Tryz.prog G0 107 [.c (.sl 3 x0 none),.c (.sl 3 x1 none),.c (.v (.func (.func 108) #[] #[]))] (fun r bs=>(∃ (y0:Bool) (o0 o1 o2:OV),(r=.c (.v (.bool y0))∧bs=[o0,o1,o2])∧K0 y0)):=by
 obtain⟨O,hO⟩:=F3 0
 have hLO:L=O.len:=by rw [hN,hO];rfl
 subst hLO;refine D4 hO tiA D3 D2 (fn:=Tryz.f107) (sh:=true) (by kernel_rfl) rfl rfl rfl rfl ?_;intro Q b;unfold p107_b at h;cbv;refine C5 hO h (fun k1 h=>?_) fun k1 h=>?_;cbv;rw [b];exact⟨false,_,_,_,C7,h⟩;cbv;apply B6 hO;cbv;refine E9 hO tiA [1,2,15,16,17] [] [] (fun (n:Nat) tm m=>∃ (z1 z2:Int),((tm=C3 0 32 [(1,sk7 x1),(2,.c (.v (.func (.func 108) #[] #[]))),(15,sk7 x0),(16,sk1 z1),(17,sk1 z2)]∧m=⟨[],1⟩))∧p107_1L False fu (p108b False fu) (p107 False fu) K0 x0 x1 n z1 z2) (fun n=>n) fu ⟨((x0.length:Nat):Int),0,C1,h⟩ ?_
 rintro n1 tm m L ⟨z1,z2,hs,h⟩ hLn1
 (cases n1 with
 | zero=>rw [p107_1L] at h;exact h.elim
 | succ n1 =>
 rw [p107_1L] at h;unfold p107_1 at h;obtain⟨rfl,rfl⟩:=hs;cbv;refine C5 hO h (fun k2 h=>?_) fun k2 h=>?_;cbv;apply B6 hO;cbv;refine P5 hO tiA ?_;cbv;refine C0 h fun h=>?_;refine C0 h fun h=>?_;have hz:=G1 h;obtain⟨c3,c4,c5,hr,h⟩:=hz;refine E6 hO ?_;clear hr;cbv;apply B6 hO;cbv;refine P5 hO tiA ?_;cbv;refine C0 h fun h=>?_;refine C0 h fun h=>?_;have hz:=G1 h;obtain⟨c6,c7,c8,hr,h⟩:=hz;refine E6 hO ?_;clear hr;cbv;apply B6 hO;cbv;refine B1 hO [.shut,.shut] (ih_p108b O.len hN h) ?_;intro e Q a b;cbv;refine C2 b fun r bs d=>?_;clear a b h;obtain⟨y9,_,_,⟨rfl,rfl⟩,h⟩:=d;cbv;refine C5 hO h (fun k3 h=>?_) fun k3 h=>?_;cbv;rw [b];exact⟨false,_,_,_,C7,h⟩;cbv;apply B6 hO;cbv;exact hLn1 n1 _ _ (Nat.lt_succ_self n1) ⟨z1,B8 .add .i64 z2 1,C1,h⟩;cbv;rw [b]
 exact⟨true,_,_,_,C7,h⟩)
theorem dd_p108b (fu:Nat):D_p108b fu∧D_p107 fu:=by
 induction fu with
 | zero=>exact⟨(by unfold D_p108b;intros;rename_i h;rw [p108b] at h;exact h.elim),(by unfold D_p107;intros;rename_i h;rw [p107] at h;exact h.elim)⟩
 | succ n ih =>
  obtain⟨i0,i1⟩:=ih;exact⟨(by unfold D_p108b;intro K0 L hN x0 x1 x2 x3 x4 x5 h;exact b_p108b n i0 i1 L hN (by rw [p108b] at h;exact h)),(by unfold D_p107;intro K0 L hN x0 x1 h;exact b_p107 n i0 i1 L hN (by rw [p107] at h;exact h))⟩
theorem d_p107 (fu:Nat):D_p107 fu:=(dd_p108b fu).2
end Go.Proofs.YtioiigabeoaneaaGreat
