/- A part of the proof. Conditions: none. -/
import Derived.Test.YtioiigabeoaneaaGreatRF6
import Derived.Test.YtioiigabeoaneaaGreatRF4
import Derived.Test.YtioiigabeoaneaaGreatRF5
namespace Go.Proofs.YtioiigabeoaneaaGreat
open Go V
set_option maxRecDepth 100000
set_option maxHeartbeats 4000000
section
variable {ρ:Type} (fail:ρ)
structure Dc.ok (d:Dc):Prop where
 k0:0≤d.k
 k3:d.k≤3
 pa0:0≤d.pa
 pa5:d.pa≤5
 ct0:0≤d.ct
 ct5:d.ct≤5
 nm:d.nm.size≤40
 fam:d.fam=⟨#[]⟩
 ty:d.ty.thin
 val:d.val.thin
 cl:d.cs.length≤2
 cs:∀ c ∈ d.cs,c.2.thin
def W0 (s:ByteArray):List CV:=[CV.v (.string s)]
def DcS (v:(Int→Int→Int→ByteArray→ByteArray→Int→Int→ByteArray→EL→EL→Int→Int→ByteArray→EL→EL→EL→ρ)→ρ):Prop:=∃ d:Dc,d.ok∧v=fun K=>K d.k d.pa d.ct d.nm d.fam d.ty.k d.ty.n d.ty.nm (Lv.rows d.ty.ls) (Tm.rows d.ty.args) d.val.k d.val.n d.val.nm (Lv.rows d.val.ls) (Tm.rows d.val.args) (d.cs.map E1)
theorem M3 {α β:Type} (f:α→β) (d:β) (l:List α) (i:Nat) (h:i < l.length):List.getD (l.map f) i d=f l[i]:=by simp [List.getD,h]
theorem w4q (s:ByteArray) (t:Tm):List.take 1 [[CV.v (.string s),CV.v (.int .i64 t.k),CV.v (.int .i64 t.n),CV.v (.string t.nm),CV.sl 3 (Lv.rows t.ls) none,CV.sl 5 (Tm.rows t.args) none]]=[(s,t)].map E1:=rfl
theorem k3c (nm:ByteArray) (hnm:nm.size≤40) (pa ct:Int) (hpa:0≤pa∧pa≤5) (hct:0≤ct∧ct≤5) (ty:Tm) (hty:ty.thin) (L:List ByteArray) (m:Nat) (hL:L.length=2 * m) (hm:m≤2) (hs:∀ s ∈ L,s.size≤900) :
  ∀ (r j:Nat),j + r=m→∀ l:List (ByteArray × Tm),l.length=j→(∀ c ∈ l,c.2.thin)→Ev n2 (fun v:(Int→Int→Int→ByteArray→ByteArray→Int→Int→ByteArray→EL→EL→Int→Int→ByteArray→EL→EL→EL→ρ)→ρ=>∃ d:Dc,d.ok∧d.cs.length=m∧v=fun K=>K d.k d.pa d.ct d.nm d.fam d.ty.k d.ty.n d.ty.nm (Lv.rows d.ty.ls) (Tm.rows d.ty.args) d.val.k d.val.n d.val.nm (Lv.rows d.val.ls) (Tm.rows d.val.args) (d.cs.map E1)) (fun i K=>p95_1L fail i.1 K nm pa ct (L.map W0) ty.k ty.n ty.nm (Lv.rows ty.ls) (Tm.rows ty.args) i.2 (l.map E1) ((2 * j:Nat):Int)):=by
 intro r
 induction r with
 | zero =>
  intro j hj l hl hlt
  refine Ev.loop (body:=fun i K=>p95_1 fail i.1 K (p95_1L fail i.1 K nm pa ct (L.map W0) ty.k ty.n ty.nm (Lv.rows ty.ls) (Tm.rows ty.args) i.2) nm pa ct (L.map W0) ty.k ty.n ty.nm (Lv.rows ty.ls) (Tm.rows ty.args) (l.map E1) ((2 * j:Nat):Int)) (fun _ _ _=>rfl) ?_
  unfold p95_1
  rw [L7 (a:=2 * j) (by omega),List.length_map]
  refine Ev.ite (fun h=>absurd (J5 h) (by omega)) (fun _=>?_)
  exact Ev.val _ ⟨⟨3,pa,ct,nm,⟨#[]⟩,ty,tm0,l⟩,⟨by simp,by simp,hpa.1,hpa.2,hct.1,hct.2,hnm,rfl,hty,⟨⟨by simp,trivial⟩,by simp,trivial⟩,by show l.length≤2;omega,hlt⟩,by show l.length=m;omega,rfl⟩
 | succ r ih =>
  intro j hj l hl hlt
  refine Ev.loop (body:=fun i K=>p95_1 fail i.1 K (p95_1L fail i.1 K nm pa ct (L.map W0) ty.k ty.n ty.nm (Lv.rows ty.ls) (Tm.rows ty.args) i.2) nm pa ct (L.map W0) ty.k ty.n ty.nm (Lv.rows ty.ls) (Tm.rows ty.args) (l.map E1) ((2 * j:Nat):Int)) (fun _ _ _=>rfl) ?_
  unfold p95_1
  have h0:2 * j < L.length:=by omega
  have h1:2 * j + 1 < L.length:=by omega
  have e2:B8 .add .i64 ((2 * j:Nat):Int) 2=((2 * (j + 1):Nat):Int):=by rw [z7e (by omega) (by omega)];omega
  have e0:∀ κ:ByteArray→ρ,z2r fail (List.getD (L.map W0) (((2 * j:Nat):Int)).toNat []) κ=κ L[2 * j]:=fun κ=>by
   rw [Int.toNat_natCast,M3 W0 [] L _ h0];rfl
  have e1:∀ κ:ByteArray→ρ,z2r fail (List.getD (L.map W0) (((2 * j + 1:Nat):Int)).toNat []) κ=κ L[2 * j + 1]:=fun κ=>by
   rw [Int.toNat_natCast,M3 W0 [] L _ h1];rfl
  rw [L7 (a:=2 * j) (by omega)]
  refine Ev.ite (fun _=>?_) (fun h=>absurd (z2w h) (by rw [List.length_map];omega))
  simp only [e0,e1]
  refine Ev.gd (by omega) (Ev.gd (by rw [List.length_map];omega) (Ev.gd (by omega) (Ev.gd (by rw [List.length_map];omega) ?_)))
  refine Ev.bind (Ev.fst (z6n fail _ (hs _ (List.getElem_mem h1)))) ?_
  rintro _ ⟨t,ht,rfl⟩
  refine Ev.gd (by simp) (Ev.gd (by rw [w4q,List.length_map,List.length_map];simp;omega) ?_)
  rw [w4q,← List.map_append,e2]
  refine ih (j + 1) (by omega) (l++[(L[2 * j],t)]) (by simp;omega) ?_
  intro c hc
  rcases List.mem_append.1 hc with h | h
  ·exact hlt c h
  ·rw [List.mem_singleton.1 h];exact ht
theorem w0a (nm:ByteArray) (hnm:nm.size≤40) (pa ct:Int) (hpa:0≤pa∧pa≤5) (hct:0≤ct∧ct≤5) (typ:ByteArray) (htyp:typ.size≤900) (L:List ByteArray) (m:Nat) (hL:L.length=2 * m) (hm:m≤2) (hs:∀ s ∈ L,s.size≤900) (X:EL) (hX:X=L.map W0) :
  Ev n1 (fun v:(Int→Int→Int→ByteArray→ByteArray→Int→Int→ByteArray→EL→EL→Int→Int→ByteArray→EL→EL→EL→ρ)→ρ=>∃ d:Dc,d.ok∧d.cs.length=m∧v=fun K=>K d.k d.pa d.ct d.nm d.fam d.ty.k d.ty.n d.ty.nm (Lv.rows d.ty.ls) (Tm.rows d.ty.args) d.val.k d.val.n d.val.nm (Lv.rows d.val.ls) (Tm.rows d.val.args) (d.cs.map E1)) (fun fu K=>p95 fail fu K nm pa ct typ X):=by
 subst hX
 unfold p95
 refine Ev.bind (z6n fail _ htyp) ?_
 rintro _ ⟨t,ht,rfl⟩
 exact Ev.diag (k3c fail nm hnm pa ct hpa hct t ht L m hL hm hs m 0 (by omega) [] rfl (by simp))
def FamS (v:(Int→Int→Int→ByteArray→ByteArray→Int→Int→ByteArray→EL→EL→Int→Int→ByteArray→EL→EL→EL→Int→Int→Int→ByteArray→ByteArray→Int→Int→ByteArray→EL→EL→Int→Int→ByteArray→EL→EL→EL→Int→Int→Int→ByteArray→ByteArray→Int→Int→ByteArray→EL→EL→Int→Int→ByteArray→EL→EL→EL→Int→Int→Int→ByteArray→ByteArray→Int→Int→ByteArray→EL→EL→Int→Int→ByteArray→EL→EL→EL→Int→Int→Int→ByteArray→ByteArray→Int→Int→ByteArray→EL→EL→Int→Int→ByteArray→EL→EL→EL→Int→Int→Int→ByteArray→ByteArray→Int→Int→ByteArray→EL→EL→Int→Int→ByteArray→EL→EL→EL→Int→Int→Int→ByteArray→ByteArray→Int→Int→ByteArray→EL→EL→Int→Int→ByteArray→EL→EL→EL→Int→Int→Int→ByteArray→ByteArray→Int→Int→ByteArray→EL→EL→Int→Int→ByteArray→EL→EL→EL→Int→Int→Int→ByteArray→ByteArray→Int→Int→ByteArray→EL→EL→Int→Int→ByteArray→EL→EL→EL→ρ)→ρ):Prop:=∃ d0 d1 d2 d3 d4 d5 d6 d7 d8:Dc,d0.ok∧d1.ok∧d2.ok∧d3.ok∧d4.ok∧d5.ok∧d6.ok∧d7.ok∧d8.ok∧v=fun K=>K d0.k d0.pa d0.ct d0.nm d0.fam d0.ty.k d0.ty.n d0.ty.nm (Lv.rows d0.ty.ls) (Tm.rows d0.ty.args) d0.val.k d0.val.n d0.val.nm (Lv.rows d0.val.ls) (Tm.rows d0.val.args) (d0.cs.map E1) d1.k d1.pa d1.ct d1.nm d1.fam d1.ty.k d1.ty.n d1.ty.nm (Lv.rows d1.ty.ls) (Tm.rows d1.ty.args) d1.val.k d1.val.n d1.val.nm (Lv.rows d1.val.ls) (Tm.rows d1.val.args) (d1.cs.map E1) d2.k d2.pa d2.ct d2.nm d2.fam d2.ty.k d2.ty.n d2.ty.nm (Lv.rows d2.ty.ls) (Tm.rows d2.ty.args) d2.val.k d2.val.n d2.val.nm (Lv.rows d2.val.ls) (Tm.rows d2.val.args) (d2.cs.map E1) d3.k d3.pa d3.ct d3.nm d3.fam d3.ty.k d3.ty.n d3.ty.nm (Lv.rows d3.ty.ls) (Tm.rows d3.ty.args) d3.val.k d3.val.n d3.val.nm (Lv.rows d3.val.ls) (Tm.rows d3.val.args) (d3.cs.map E1) d4.k d4.pa d4.ct d4.nm d4.fam d4.ty.k d4.ty.n d4.ty.nm (Lv.rows d4.ty.ls) (Tm.rows d4.ty.args) d4.val.k d4.val.n d4.val.nm (Lv.rows d4.val.ls) (Tm.rows d4.val.args) (d4.cs.map E1) d5.k d5.pa d5.ct d5.nm d5.fam d5.ty.k d5.ty.n d5.ty.nm (Lv.rows d5.ty.ls) (Tm.rows d5.ty.args) d5.val.k d5.val.n d5.val.nm (Lv.rows d5.val.ls) (Tm.rows d5.val.args) (d5.cs.map E1) d6.k d6.pa d6.ct d6.nm d6.fam d6.ty.k d6.ty.n d6.ty.nm (Lv.rows d6.ty.ls) (Tm.rows d6.ty.args) d6.val.k d6.val.n d6.val.nm (Lv.rows d6.val.ls) (Tm.rows d6.val.args) (d6.cs.map E1) d7.k d7.pa d7.ct d7.nm d7.fam d7.ty.k d7.ty.n d7.ty.nm (Lv.rows d7.ty.ls) (Tm.rows d7.ty.args) d7.val.k d7.val.n d7.val.nm (Lv.rows d7.val.ls) (Tm.rows d7.val.args) (d7.cs.map E1) d8.k d8.pa d8.ct d8.nm d8.fam d8.ty.k d8.ty.n d8.ty.nm (Lv.rows d8.ty.ls) (Tm.rows d8.ty.args) d8.val.k d8.val.n d8.val.nm (Lv.rows d8.val.ls) (Tm.rows d8.val.args) (d8.cs.map E1)
theorem ev67:Ev n1 (FamS (ρ:=ρ)) (fun fu K=>p67 fail fu K):=by
 unfold p67
 refine Ev.gd (by simp) ?_
 refine Ev.bind (w0a fail ⟨#[78,97,116]⟩ (by decide) 0 0 (by decide) (by decide) ⟨#[42,83,48]⟩ (by decide) [⟨#[122,101,114,111]⟩,⟨#[78,97,116]⟩,⟨#[115,117,99,99]⟩,⟨#[33,78,97,116,46,32,78,97,116]⟩] 2 rfl (by omega) (by decide) _ rfl) ?_
 rintro _ ⟨d0,h0,l0,rfl⟩
 refine Ev.gd (by rw [List.length_map];omega) ?_
 refine Ev.bind (w0a fail ⟨#[70,97,108,115,101]⟩ (by decide) 0 0 (by decide) (by decide) ⟨#[42,48]⟩ (by decide) [] 0 rfl (by omega) (by decide) _ rfl) ?_
 rintro _ ⟨d1,h1,l1,rfl⟩
 refine Ev.gd (by simp) ?_
 refine Ev.bind (w0a fail ⟨#[65,110,100]⟩ (by decide) 0 2 (by decide) (by decide) ⟨#[33,42,48,46,32,33,42,48,46,32,42,48]⟩ (by decide) [⟨#[65,110,100,46,109,107]⟩,⟨#[33,42,48,46,32,33,42,48,46,32,33,35,49,46,32,33,35,49,46,32,40,40,65,110,100,32,35,51,41,32,35,50,41]⟩] 1 rfl (by omega) (by decide) _ rfl) ?_
 rintro _ ⟨d2,h2,l2,rfl⟩
 refine Ev.gd (by rw [List.length_map];omega) ?_
 refine Ev.gd (by simp) ?_
 refine Ev.bind (w0a fail ⟨#[69,113]⟩ (by decide) 1 2 (by decide) (by decide) ⟨#[33,42,112,48,46,32,33,35,48,46,32,33,35,49,46,32,42,48]⟩ (by decide) [⟨#[69,113,46,114,101,102,108]⟩,⟨#[33,42,112,48,46,32,33,35,48,46,32,40,40,40,69,113,123,112,48,125,32,35,49,41,32,35,48,41,32,35,48,41]⟩] 1 rfl (by omega) (by decide) _ rfl) ?_
 rintro _ ⟨d3,h3,l3,rfl⟩
 refine Ev.gd (by rw [List.length_map];omega) ?_
 refine Ev.gd (by simp) ?_
 refine Ev.bind (w0a fail ⟨#[76,105,115,116]⟩ (by decide) 1 1 (by decide) (by decide) ⟨#[33,42,83,112,48,46,32,42,83,112,48]⟩ (by decide) [⟨#[110,105,108]⟩,⟨#[33,42,83,112,48,46,32,40,76,105,115,116,123,112,48,125,32,35,48,41]⟩,⟨#[99,111,110,115]⟩,⟨#[33,42,83,112,48,46,32,33,35,48,46,32,33,40,76,105,115,116,123,112,48,125,32,35,49,41,46,32,40,76,105,115,116,123,112,48,125,32,35,50,41]⟩] 2 rfl (by omega) (by decide) _ rfl) ?_
 rintro _ ⟨d4,h4,l4,rfl⟩
 refine Ev.gd (by rw [List.length_map];omega) ?_
 refine Ev.gd (by simp) ?_
 refine Ev.bind (w0a fail ⟨#[86,101,99]⟩ (by decide) 1 1 (by decide) (by decide) ⟨#[33,42,83,112,48,46,32,33,78,97,116,46,32,42,83,112,48]⟩ (by decide) [⟨#[118,110,105,108]⟩,⟨#[33,42,83,112,48,46,32,40,40,86,101,99,123,112,48,125,32,35,48,41,32,122,101,114,111,41]⟩,⟨#[118,99,111,110,115]⟩,⟨#[33,42,83,112,48,46,32,33,35,48,46,32,33,78,97,116,46,32,33,40,40,86,101,99,123,112,48,125,32,35,50,41,32,35,48,41,46,32,40,40,86,101,99,123,112,48,125,32,35,51,41,32,40,115,117,99,99,32,35,49,41,41]⟩] 2 rfl (by omega) (by decide) _ rfl) ?_
 rintro _ ⟨d5,h5,l5,rfl⟩
 refine Ev.gd (by rw [List.length_map];omega) ?_
 refine Ev.gd (by simp) ?_
 refine Ev.bind (w0a fail ⟨#[66,111,111,108]⟩ (by decide) 0 0 (by decide) (by decide) ⟨#[42,83,48]⟩ (by decide) [⟨#[121,101,115]⟩,⟨#[66,111,111,108]⟩,⟨#[110,111]⟩,⟨#[66,111,111,108]⟩] 2 rfl (by omega) (by decide) _ rfl) ?_
 rintro _ ⟨d6,h6,l6,rfl⟩
 refine Ev.gd (by rw [List.length_map];omega) ?_
 refine Ev.gd (by simp) ?_
 refine Ev.bind (w0a fail ⟨#[84,114,101,101]⟩ (by decide) 0 0 (by decide) (by decide) ⟨#[42,83,48]⟩ (by decide) [⟨#[108,101,97,102]⟩,⟨#[84,114,101,101]⟩,⟨#[110,111,100,101]⟩,⟨#[33,33,78,97,116,46,32,84,114,101,101,46,32,84,114,101,101]⟩] 2 rfl (by omega) (by decide) _ rfl) ?_
 rintro _ ⟨d7,h7,l7,rfl⟩
 refine Ev.gd (by rw [List.length_map];omega) ?_
 refine Ev.gd (by simp) ?_
 refine Ev.bind (w0a fail ⟨#[65,99,99]⟩ (by decide) 1 2 (by decide) (by decide) ⟨#[33,42,112,48,46,32,33,33,35,48,46,32,33,35,49,46,32,42,48,46,32,33,35,49,46,32,42,48]⟩ (by decide) [⟨#[65,99,99,46,105,110]⟩,⟨#[33,42,112,48,46,32,33,33,35,48,46,32,33,35,49,46,32,42,48,46,32,33,35,49,46,32,33,33,35,50,46,32,33,40,40,35,50,32,35,48,41,32,35,49,41,46,32,40,40,40,65,99,99,123,112,48,125,32,35,52,41,32,35,51,41,32,35,49,41,46,32,40,40,40,65,99,99,123,112,48,125,32,35,51,41,32,35,50,41,32,35,49,41]⟩] 1 rfl (by omega) (by decide) _ rfl) ?_
 rintro _ ⟨d8,h8,l8,rfl⟩
 refine Ev.gd (by rw [List.length_map];omega) ?_
 exact Ev.val _ ⟨d0,d1,d2,d3,d4,d5,d6,d7,d8,h0,h1,h2,h3,h4,h5,h6,h7,h8,rfl⟩
end
section
variable {ρ:Type} (fail:ρ)
structure Tu where
 w:Nat
 p:Nat
 h:Nat
 by_:List UInt8
structure Tu.ok (t:Tu):Prop where
 w:t.w < 256
 p:t.p < 256
 h:t.h < 256
 by_:t.by_.length≤1000000
def K3 (t:Tu):List CV:=[CV.v (.int .u8 ((t.w:Nat):Int)),CV.v (.int .u8 ((t.p:Nat):Int)),CV.v (.int .u8 ((t.h:Nat):Int)),CV.sl 1 (E8 t.by_) none]
theorem z5s (c n:Nat) (hc:c < 256) (hn:0 < n):B8 .rem .u8 ((c:Nat):Int) ((n:Nat):Int)=((c % n:Nat):Int):=(Int.ofNat_tmod c n).symm
theorem w0p (c:Nat) (h:c≤1000000):IntKind.i64.wrap ((c:Nat):Int)=((c:Nat):Int):=z9s (by omega)
theorem k1x (c n:Nat) (hc:c < 256) (hn:0 < n):B8 .rem .i64 (IntKind.i64.wrap ((c:Nat):Int)) ((n:Nat):Int)=((c % n:Nat):Int):=by
 rw [w0p c (by omega)];exact (Int.ofNat_tmod c n).symm
theorem w4r (l:List (ByteArray × Tm)) (q:Nat) (h:q < l.length) (u:Tm):List.set (l.map E1) q (F9 (List.getD (l.map E1) q []) 1 [CV.v (.int .i64 u.k),CV.v (.int .i64 u.n),CV.v (.string u.nm),CV.sl 3 (Lv.rows u.ls) none,CV.sl 5 (Tm.rows u.args) none])=(l.set q (l[q].1,u)).map E1:=by
 rw [M3 E1 [] l q h,List.map_set];rfl
theorem k0f (l:List (ByteArray × Tm)) (q:Nat) (h:q < l.length) (s:ByteArray):List.set (l.map E1) q (F9 (List.getD (l.map E1) q []) 0 [CV.v (.string s)])=(l.set q (s,l[q].2)).map E1:=by
 rw [M3 E1 [] l q h,List.map_set];rfl
theorem z7j {l:List (ByteArray × Tm)} (hl:∀ c ∈ l,c.2.thin) (q:Nat) (x:ByteArray × Tm) (hx:x.2.thin):∀ c ∈ l.set q x,c.2.thin:=by
 intro c hc
 rcases List.mem_or_eq_of_mem_set hc with h | rfl
 ·exact hl c h
 ·exact hx
theorem k3e (T:List Tu) (hT:∀ t ∈ T,t.ok) (hTl:T.length≤1000000) (k:Int) (hk:0≤k∧k≤3) (nm:ByteArray) (hnm:nm.size≤40) (val:Tm) (hval:val.thin) :
  ∀ (r i:Nat),i + r=T.length→∀ (pa ct:Int) (_:0≤pa∧pa≤5) (_:0≤ct∧ct≤5) (ty:Tm),ty.thin→∀ l:List (ByteArray × Tm),l.length≤2→(∀ c ∈ l,c.2.thin)→Ev n2 (DcS (ρ:=ρ)) (fun j K=>p25_104L fail j.1 K (T.map K3) k nm ⟨#[]⟩ val.k val.n val.nm (Lv.rows val.ls) (Tm.rows val.args) j.2 pa ct ty.k ty.n ty.nm (Lv.rows ty.ls) (Tm.rows ty.args) (l.map E1) ((i:Nat):Int)):=by
 intro r
 induction r with
 | zero =>
  intro i hi pa ct hpa hct ty hty l hl hlt
  refine Ev.loop (body:=fun j K=>p25_104 fail j.1 K (p25_104L fail j.1 K (T.map K3) k nm ⟨#[]⟩ val.k val.n val.nm (Lv.rows val.ls) (Tm.rows val.args) j.2) (T.map K3) k nm ⟨#[]⟩ val.k val.n val.nm (Lv.rows val.ls) (Tm.rows val.args) pa ct ty.k ty.n ty.nm (Lv.rows ty.ls) (Tm.rows ty.args) (l.map E1) ((i:Nat):Int)) (fun _ _ _=>rfl) ?_
  unfold p25_104
  rw [List.length_map]
  refine Ev.ite (fun h=>absurd (J5 h) (by omega)) (fun _=>?_)
  exact Ev.val _ ⟨⟨k,pa,ct,nm,⟨#[]⟩,ty,val,l⟩,⟨hk.1,hk.2,hpa.1,hpa.2,hct.1,hct.2,hnm,rfl,hty,hval,hl,hlt⟩,rfl⟩
 | succ r ih =>
  intro i hi pa ct hpa hct ty hty l hl hlt
  refine Ev.loop (body:=fun j K=>p25_104 fail j.1 K (p25_104L fail j.1 K (T.map K3) k nm ⟨#[]⟩ val.k val.n val.nm (Lv.rows val.ls) (Tm.rows val.args) j.2) (T.map K3) k nm ⟨#[]⟩ val.k val.n val.nm (Lv.rows val.ls) (Tm.rows val.args) pa ct ty.k ty.n ty.nm (Lv.rows ty.ls) (Tm.rows ty.args) (l.map E1) ((i:Nat):Int)) (fun _ _ _=>rfl) ?_
  have hiT:i < T.length:=by omega
  have hok:=hT _ (List.getElem_mem hiT)
  have hw:=hok.w
  have hp:=hok.p
  have hh:=hok.h
  have hby:=hok.by_
  have hm:(T.map K3).length=T.length:=List.length_map _
  have hlm:(l.map E1).length=l.length:=List.length_map _
  have eT:∀ κ:Int→Int→Int→EL→ρ,F6 fail (List.getD (T.map K3) (((i:Nat):Int)).toNat []) κ=κ ((T[i].w:Nat):Int) ((T[i].p:Nat):Int) ((T[i].h:Nat):Int) (E8 T[i].by_):=fun κ=>by
   rw [Int.toNat_natCast,M3 K3 [] T _ hiT];rfl
  have r5:IntKind.i64.wrap (B8 .rem .u8 ((T[i].h:Nat):Int) 5)=((T[i].h % 5:Nat):Int):=by
   rw [show B8 .rem .u8 ((T[i].h:Nat):Int) 5=((T[i].h % 5:Nat):Int) from z5s _ 5 hh (by omega),w0p _ (by omega)]
  have r6:B8 .rem .u8 ((T[i].h:Nat):Int) 6=((T[i].h % 6:Nat):Int):=z5s _ 6 hh (by omega)
  have hrec:∀ (pa ct:Int) (_:0≤pa∧pa≤5) (_:0≤ct∧ct≤5) (ty:Tm),ty.thin→∀ l:List (ByteArray × Tm),l.length≤2→(∀ c ∈ l,c.2.thin)→Ev n2 (DcS (ρ:=ρ)) (fun j K=>p25_104L fail j.1 K (T.map K3) k nm ⟨#[]⟩ val.k val.n val.nm (Lv.rows val.ls) (Tm.rows val.args) j.2 pa ct ty.k ty.n ty.nm (Lv.rows ty.ls) (Tm.rows ty.args) (l.map E1) (B8 .add .i64 ((i:Nat):Int) 1)):=by
   intro pa ct hpa hct ty hty l hl hlt
   rw [L7 (a:=i) (by omega)]
   exact ih (i + 1) (by omega) pa ct hpa hct ty hty l hl hlt
  have h103:∀ b:Bool,(b=false→0 < l.length)→Ev n2 (DcS (ρ:=ρ)) (fun j K=>p25_103 fail j.1 K (p25_104L fail j.1 K (T.map K3) k nm ⟨#[]⟩ val.k val.n val.nm (Lv.rows val.ls) (Tm.rows val.args) j.2) (T.map K3) nm pa ct ty.k ty.n ty.nm (Lv.rows ty.ls) (Tm.rows ty.args) (l.map E1) ((i:Nat):Int) (E8 T[i].by_) 0 b):=by
   intro b hb
   unfold p25_103
   refine Ev.ite (fun _=>?_) (fun hb'=>?_)
   ·unfold p25_101 p25_100
    simp only [eT,r5]
    refine Ev.gd (by omega) (Ev.gd (by omega) (Ev.bind (Ev.fst (k4s fail T[i].by_ hby _ nm _ ty (Nat.le_refl _) hty 0 (by omega))) ?_))
    rintro _ ⟨u,a1,hu,_,_,rfl⟩
    have h5:T[i].h % 5 < 5:=Nat.mod_lt _ (by omega)
    have h101:∀ ct:Int,0≤ct∧ct≤5→Ev n2 (DcS (ρ:=ρ)) (fun j K=>gd ((0:Int)≤((i:Nat):Int)) fail (gd (((i:Nat):Int) < ((T.map K3).length:Nat)) fail (gd ((8:Int)≠0) fail (bif (B0 .eql (B8 .rem .u8 ((T[i].p:Nat):Int) 8) 6) then (gd ((0:Int)≤((i:Nat):Int)) fail (gd (((i:Nat):Int) < ((T.map K3).length:Nat)) fail (gd ((5:Int)≠0) fail (p25_104L fail j.1 K (T.map K3) k nm ⟨#[]⟩ val.k val.n val.nm (Lv.rows val.ls) (Tm.rows val.args) j.2 ((T[i].h % 5:Nat):Int) ct u.k u.n u.nm (Lv.rows u.ls) (Tm.rows u.args) (l.map E1) (B8 .add .i64 ((i:Nat):Int) 1))))) else (p25_104L fail j.1 K (T.map K3) k nm ⟨#[]⟩ val.k val.n val.nm (Lv.rows val.ls) (Tm.rows val.args) j.2 pa ct u.k u.n u.nm (Lv.rows u.ls) (Tm.rows u.args) (l.map E1) (B8 .add .i64 ((i:Nat):Int) 1)))))):=by
     intro ct hct
     exact Ev.gd (by omega) (Ev.gd (by omega) (Ev.gd (by omega) (Ev.ite (fun _=>Ev.gd (by omega) (Ev.gd (by omega) (Ev.gd (by omega) (hrec _ ct ⟨by omega,by omega⟩ hct u hu l hl hlt)))) (fun _=>hrec pa ct hpa hct u hu l hl hlt))))
    refine Ev.gd (by omega) (Ev.gd (by omega) (Ev.gd (by omega) (Ev.ite (fun _=>Ev.gd (by omega) (Ev.gd (by omega) (Ev.gd (by omega) (h101 _ ⟨by omega,by omega⟩)))) (fun _=>h101 ct hct))))
   ·have hl0:=hb hb'
    have hq:T[i].p % l.length < l.length:=Nat.mod_lt _ hl0
    obtain⟨q,hqe⟩:∃ q,q=T[i].p % l.length:=⟨_,rfl⟩
    rw [← hqe] at hq
    have hidx:B8 .rem .i64 (IntKind.i64.wrap ((T[i].p:Nat):Int)) (((l.map E1).length:Nat):Int)=((q:Nat):Int):=by rw [hlm,k1x _ _ hp hl0,hqe]
    have eC:∀ κ:ByteArray→Int→Int→ByteArray→EL→EL→ρ,G9 fail (List.getD (l.map E1) (((q:Nat):Int)).toNat []) κ=κ l[q].1 l[q].2.k l[q].2.n l[q].2.nm (Lv.rows l[q].2.ls) (Tm.rows l[q].2.args):=fun κ=>by
     rw [Int.toNat_natCast,M3 E1 [] l _ hq];rfl
    have hql:=hlt _ (List.getElem_mem hq)
    unfold p25_102
    simp only [eT,hidx,eC,r6]
    refine Ev.gd (by omega) (Ev.gd (by omega) (Ev.gd (by omega) (Ev.gd (by omega) (Ev.gd (by omega) (Ev.gd (by omega) (Ev.gd (by omega) (Ev.gd (by omega) ?_)))))))
    refine Ev.bind (Ev.fst (k4s fail T[i].by_ hby _ nm _ l[q].2 (Nat.le_refl _) hql 0 (by omega))) ?_
    rintro _ ⟨u,a1,hu,_,_,rfl⟩
    have e6:(List.getD (l.map E1) (((q:Nat):Int)).toNat []).length=6:=by rw [Int.toNat_natCast,M3 E1 [] l _ hq];rfl
    refine Ev.gd (by omega) (Ev.gd (by omega) (Ev.gd (by omega) (Ev.gd (by omega) (Ev.gd (by omega) (Ev.gd (by omega) (Ev.gd (by omega) ?_))))))
    have hl2:(l.set q (l[q].1,u)).length=l.length:=List.length_set
    have ht2:=z7j hlt q (l[q].1,u) hu
    refine Ev.ite (fun _=>?_) (fun _=>?_)
    ·have h6:T[i].h % 6 < 6:=Nat.mod_lt _ (by omega)
     have hz:(nm.size + (⟨#[46,114,101,99]⟩:ByteArray).size:Nat)≤100:=by show nm.size + 4≤100;omega
     refine Ev.gd (by unfold z8u;omega) (Ev.gd (by omega) (Ev.gd (by omega) (Ev.gd (by omega) (Ev.gd (by simp) (Ev.gd (by omega) (Ev.gd (by omega) (Ev.gd (by simp only [List.length_cons,List.length_nil];omega) ?_)))))))
     have eS:∀ κ:ByteArray→ρ,z2r fail (List.getD [[(CV.v (.string ⟨#[122,101,114,111]⟩))],[(CV.v (.string ⟨#[110,105,108]⟩))],[(CV.v (.string ⟨#[120]⟩))],[(CV.v (.string ⟨#[49]⟩))],[(CV.v (.string nm))],[(CV.v (.string (nm++(⟨#[46,114,101,99]⟩:ByteArray))))]] (((T[i].h % 6:Nat):Int)).toNat []) κ=κ (([⟨#[122,101,114,111]⟩,⟨#[110,105,108]⟩,⟨#[120]⟩,⟨#[49]⟩,nm,nm++(⟨#[46,114,101,99]⟩:ByteArray)]:List ByteArray)[T[i].h % 6]'h6):=fun κ=>by
      rw [Int.toNat_natCast]
      show z2r fail (List.getD (([⟨#[122,101,114,111]⟩,⟨#[110,105,108]⟩,⟨#[120]⟩,⟨#[49]⟩,nm,nm++(⟨#[46,114,101,99]⟩:ByteArray)]:List ByteArray).map W0) (T[i].h % 6) []) κ=_
      rw [M3 W0 [] _ _ h6];rfl
     simp only [eS]
     simp only [Int.toNat_natCast,w4r l q hq u]
     have hq2:q < (l.set q (l[q].1,u)).length:=by omega
     have hm2:((l.set q (l[q].1,u)).map E1).length=l.length:=by rw [List.length_map,hl2]
     have e7:(List.getD ((l.set q (l[q].1,u)).map E1) q []).length=6:=by rw [M3 E1 [] _ _ hq2];rfl
     simp only [k0f _ q hq2]
     refine Ev.gd (by omega) (Ev.gd (by omega) (Ev.gd (by omega) (Ev.gd (by omega) (hrec pa ct hpa hct ty hty _ (by rw [List.length_set,hl2];exact hl) (z7j ht2 q _ (show (l.set q (l[q].1,u))[q].2.thin from ht2 _ (List.getElem_mem hq2)))))))
    ·simp only [Int.toNat_natCast,w4r l q hq u]
     exact hrec pa ct hpa hct ty hty _ (by rw [hl2];exact hl) ht2
  unfold p25_104 p21
  rw [hm]
  refine Ev.ite (fun _=>?_) (fun h=>absurd (z2w h) (by omega))
  simp only [eT]
  refine Ev.gd (by omega) (Ev.gd (by omega) (Ev.ite (fun _=>h103 true (fun h=>nomatch h)) (fun hz=>Ev.gd (by omega) (Ev.gd (by omega) (Ev.gd (by omega) (h103 _ (fun _=>?_)))))))
  have:(((l.map E1).length:Nat):Int)≠0:=by simpa [B0] using hz
  omega
theorem ev25 (x:Nat) (hx:x < 256) (T:List Tu) (hT:∀ t ∈ T,t.ok) (hTl:T.length≤1000000):Ev n1 (DcS (ρ:=ρ)) (fun fu K=>p25 fail fu K ((x:Nat):Int) (T.map K3)):=by
 have r9:B8 .rem .i64 (IntKind.i64.wrap ((x:Nat):Int)) 9=((x % 9:Nat):Int):=k1x x 9 hx (by omega)
 have h9:x % 9 < 9:=Nat.mod_lt _ (by omega)
 unfold p25
 refine Ev.bind (ev67 fail) ?_
 rintro _ ⟨d0,d1,d2,d3,d4,d5,d6,d7,d8,h0,h1,h2,h3,h4,h5,h6,h7,h8,rfl⟩
 have g:∀ d:Dc,d.ok→Ev n1 (DcS (ρ:=ρ)) (fun fu K=>p25_105 fail fu K (T.map K3) d.k d.pa d.ct d.nm d.fam d.ty.k d.ty.n d.ty.nm (Lv.rows d.ty.ls) (Tm.rows d.ty.args) d.val.k d.val.n d.val.nm (Lv.rows d.val.ls) (Tm.rows d.val.args) (d.cs.map E1)):=by
  intro d hd
  unfold p25_105
  rw [hd.fam]
  exact Ev.diag (k3e fail T hT hTl d.k ⟨hd.k0,hd.k3⟩ d.nm hd.nm d.val hd.val T.length 0 (by omega) d.pa d.ct ⟨hd.pa0,hd.pa5⟩ ⟨hd.ct0,hd.ct5⟩ d.ty hd.ty d.cs hd.cl hd.cs)
 simp only [r9]
 refine Ev.gd (by omega) (Ev.gd (by omega) (Ev.gd (by omega) ?_))
 refine Ev.ite (fun _=>g d0 h0) (fun g0=>Ev.ite (fun _=>g d1 h1) (fun g1=>Ev.ite (fun _=>g d2 h2) (fun g2=>Ev.ite (fun _=>g d3 h3) (fun g3=>Ev.ite (fun _=>g d4 h4) (fun g4=>Ev.ite (fun _=>g d5 h5) (fun g5=>Ev.ite (fun _=>g d6 h6) (fun g6=>Ev.ite (fun _=>g d7 h7) (fun g7=>Ev.ite (fun _=>g d8 h8) (fun g8=>?_)))))))))
 have ne:∀ a b:Int,B0 .eql a b=false→a≠b:=fun a b h=>by simpa [B0] using h
 have:=ne _ _ g0;have:=ne _ _ g1;have:=ne _ _ g2;have:=ne _ _ g3;have:=ne _ _ g4;have:=ne _ _ g5;have:=ne _ _ g6;have:=ne _ _ g7;have:=ne _ _ g8
 omega
end
def p28 {ρ:Type} (fail:ρ) (fu:Nat) (K0:Int→Int→ρ) (x0:Int):ρ :=
 gd ((12:Int)≠0) fail (K0 0 (IntKind.u64.wrap (B8 .rem .u8 x0 12)))
def p8_1 {ρ:Type} (fail:ρ) (fu:Nat) (K0:S8 ρ) (j5 j7 j8 j9 a0 c0 d0 e0 f0:Int) (g0 i0:ByteArray) (j0 l0:Int) (m0:ByteArray) (n0 o0:EL) (q0 r0:Int) (s0:ByteArray) (t0 v0 w0:EL) (x0 y0:Int) (z0:ByteArray) (a1 c1:EL) (d1 e1:Int) (f1:ByteArray) (g1 i1:EL):ρ :=
 K0 j5 j7 0 0 j8 j9 a0 c0 d0 e0 f0 g0 i0 j0 l0 m0 n0 o0 q0 r0 s0 t0 v0 w0 x0 y0 z0 a1 c1 d1 e1 f1 g1 i1
def p8_2 {ρ:Type} (fail:ρ) (fu:Nat) (K0:S8 ρ) (j5:Int) (j6:ByteArray) (a0 c0 d0:Int) (e0:ByteArray) (f0 g0:EL):ρ :=
 p8_1 fail fu K0 j5 0 0 0 0 0 1 a0 0 j6 ⟨#[]⟩ c0 d0 e0 f0 g0 0 0 ⟨#[]⟩ nilE nilE nilE 0 0 ⟨#[]⟩ nilE nilE 0 0 ⟨#[]⟩ nilE nilE
def p8_3 {ρ:Type} (fail:ρ) (fu:Nat) (K0:S8 ρ) (j5 a0 c0 d0 e0 f0 g0 i0 j0:Int) (l0 m0:ByteArray) (n0 o0:Int) (q0:ByteArray) (r0 s0:EL) (t0 v0:Int) (w0:ByteArray) (x0 y0 z0:EL) (a1 c1:Int) (d1:ByteArray) (e1 f1:EL) (g1 i1:Int) (j1:ByteArray) (l1 m1:EL):ρ :=
 p8_1 fail fu K0 j5 a0 c0 d0 e0 f0 g0 i0 j0 l0 m0 n0 o0 q0 r0 s0 t0 v0 w0 x0 y0 z0 a1 c1 d1 e1 f1 g1 i1 j1 l1 m1
def p8_4 {ρ:Type} (fail:ρ) (fu:Nat) (K0:S8 ρ) (j5:Int) (j6:ByteArray) (g0 i0:Int) (j0:ByteArray) (l0 m0:EL) (a0 c0:Int) (d0:ByteArray) (e0 f0:EL):ρ :=
 p8_3 fail fu K0 j5 0 0 0 0 0 2 0 0 j6 ⟨#[]⟩ g0 i0 j0 l0 m0 a0 c0 d0 e0 f0 nilE 0 0 ⟨#[]⟩ nilE nilE 0 0 ⟨#[]⟩ nilE nilE
def p8_5 {ρ:Type} (fail:ρ) (fu:Nat) (K0:S8 ρ) (j5 a0 c0 d0 e0 f0 g0 i0 j0:Int) (l0 m0:ByteArray) (n0 o0:Int) (q0:ByteArray) (r0 s0:EL) (t0 v0:Int) (w0:ByteArray) (x0 y0 z0:EL) (a1 c1:Int) (d1:ByteArray) (e1 f1:EL) (g1 i1:Int) (j1:ByteArray) (l1 m1:EL):ρ :=
 p8_3 fail fu K0 j5 a0 c0 d0 e0 f0 g0 i0 j0 l0 m0 n0 o0 q0 r0 s0 t0 v0 w0 x0 y0 z0 a1 c1 d1 e1 f1 g1 i1 j1 l1 m1
def p8_6 {ρ:Type} (fail:ρ) (fu:Nat) (K0:S8 ρ) (j5 a0 c0 d0 e0 f0 g0:Int) (i0:ByteArray) (j0 l0:Int) (m0:ByteArray) (n0 o0:EL) (q0 r0:Int) (s0:ByteArray) (t0 v0:EL):ρ :=
 p8_5 fail fu K0 j5 a0 c0 d0 e0 f0 0 g0 0 i0 ⟨#[]⟩ 0 0 ⟨#[]⟩ nilE nilE 0 0 ⟨#[]⟩ nilE nilE nilE j0 l0 m0 n0 o0 q0 r0 s0 t0 v0
def p8_7 {ρ:Type} (fail:ρ) (fu:Nat) (K0:S8 ρ) (j5 a0 c0 d0:Int) (e0:ByteArray) (f0 g0:EL):ρ :=
 p8_6 fail fu K0 j5 a0 0 0 0 0 0 ⟨#[]⟩ c0 d0 e0 f0 g0 0 0 ⟨#[]⟩ nilE nilE
def p8_8 {ρ:Type} (fail:ρ) (fu:Nat) (K0:S8 ρ) (x2 j5:Int) (j6:ByteArray) (a0 c0 d0:Int) (e0:ByteArray) (f0 g0:EL):ρ :=
 gd ((8:Int)≠0) fail (bif (B0 .eql (B8 .rem .u8 x2 8) 3) then (p26 fail fu (fun i0 j0 l0 m0 n0=>p8_7 fail fu K0 j5 0 i0 j0 l0 m0 n0) j6) else (p8_7 fail fu K0 j5 a0 c0 d0 e0 f0 g0))
def p8_9 {ρ:Type} (fail:ρ) (fu:Nat) (K0:S8 ρ) (j5 a0 c0 d0 e0 f0:Int) (g0:ByteArray) (i0 j0:Int) (l0:ByteArray) (m0 n0:EL) (o0 q0:Int) (r0:ByteArray) (s0 t0:EL):ρ :=
 p8_6 fail fu K0 j5 0 a0 c0 d0 e0 f0 g0 i0 j0 l0 m0 n0 o0 q0 r0 s0 t0
def p8_10 {ρ:Type} (fail:ρ) (fu:Nat) (K0:S8 ρ) (j5 a0 c0:Int) (d0:ByteArray) (e0 f0:EL) (g0 i0:Int) (j0:ByteArray) (l0 m0:EL):ρ :=
 p8_9 fail fu K0 j5 0 0 0 0 0 ⟨#[]⟩ a0 c0 d0 e0 f0 g0 i0 j0 l0 m0
def p8_11 {ρ:Type} (fail:ρ) (fu:Nat) (K0:S8 ρ) (j5 a0 c0 d0 e0 f0:Int) (g0:ByteArray) (i0 j0:Int) (l0:ByteArray) (m0 n0:EL) (o0 q0:Int) (r0:ByteArray) (s0 t0:EL):ρ :=
 p8_9 fail fu K0 j5 a0 c0 d0 e0 f0 g0 i0 j0 l0 m0 n0 o0 q0 r0 s0 t0
def p8_12 {ρ:Type} (fail:ρ) (fu:Nat) (K0:S8 ρ) (j5 a0 c0:Int) (d0:ByteArray) (e0 f0:EL) (g0 i0:Int) (j0:ByteArray) (l0 m0:EL):ρ :=
 p8_11 fail fu K0 j5 0 0 0 0 0 ⟨#[]⟩ a0 c0 d0 e0 f0 g0 i0 j0 l0 m0
def p8_13 {ρ:Type} (fail:ρ) (fu:Nat) (K0:S8 ρ) (j5 a0 c0 d0 e0 f0:Int) (g0:ByteArray) (i0 j0:Int) (l0:ByteArray) (m0 n0:EL) (o0 q0:Int) (r0:ByteArray) (s0 t0:EL):ρ :=
 p8_11 fail fu K0 j5 a0 c0 d0 e0 f0 g0 i0 j0 l0 m0 n0 o0 q0 r0 s0 t0
def p8_14 {ρ:Type} (fail:ρ) (fu:Nat) (K0:S8 ρ) (j5 a0 c0 d0:Int) (e0:ByteArray) (f0 g0:Int) (i0:ByteArray) (j0 l0:EL) (m0 n0:Int) (o0:ByteArray) (q0 r0:EL):ρ :=
 p8_13 fail fu K0 j5 a0 c0 0 0 d0 e0 f0 g0 i0 j0 l0 m0 n0 o0 q0 r0
def p8_15 {ρ:Type} (fail:ρ) (fu:Nat) (K0:S8 ρ) (j5 a0 c0 d0 e0:Int) (f0:ByteArray) (g0 i0:EL):ρ :=
 p8_14 fail fu K0 j5 a0 c0 0 ⟨#[]⟩ d0 e0 f0 g0 i0 0 0 ⟨#[]⟩ nilE nilE
def p8_16 {ρ:Type} (fail:ρ) (fu:Nat) (K0:S8 ρ) (j5 a0 c0 d0:Int) (e0:ByteArray) (f0 g0:Int) (i0:ByteArray) (j0 l0:EL):ρ :=
 p8_14 fail fu K0 j5 a0 c0 d0 e0 0 0 ⟨#[]⟩ nilE nilE f0 g0 i0 j0 l0
def p8_17 {ρ:Type} (fail:ρ) (fu:Nat) (K0:S8 ρ) (j5 a0 c0 d0 e0:Int) (f0:ByteArray) (g0 i0:EL):ρ :=
 p8_16 fail fu K0 j5 a0 c0 0 ⟨#[]⟩ d0 e0 f0 g0 i0
def p8_18 {ρ:Type} (fail:ρ) (fu:Nat) (K0:S8 ρ) (j5 a0 c0 d0:Int) (e0:ByteArray):ρ :=
 p8_16 fail fu K0 j5 a0 c0 d0 e0 0 0 ⟨#[]⟩ nilE nilE
def p8_19 {ρ:Type} (fail:ρ) (fu:Nat) (K0:S8 ρ) (j5 a0 c0 d0:Int) (e0:ByteArray):ρ :=
 p8_18 fail fu K0 j5 a0 c0 d0 e0
def p8_20 {ρ:Type} (fail:ρ) (fu:Nat) (K0:S8 ρ) (j5:Int) (j6:ByteArray) (a0 c0 d0:Int):ρ :=
 p8_19 fail fu K0 j5 a0 c0 d0 j6
def p8_21 {ρ:Type} (fail:ρ) (fu:Nat) (K0:S8 ρ) (x1 x2 j5:Int) (j6:ByteArray) (d0:Bool):ρ :=
 bif d0 then (p28 fail fu (fun e0 f0=>p8_18 fail fu K0 j5 e0 f0 0 ⟨#[]⟩) x1) else (bif (B0 .eql j5 15) then (p28 fail fu (fun a0 c0=>gd ((7:Int)≠0) fail (bif (B0 .eql (B8 .rem .u8 x2 7) 6) then (p8_20 fail fu K0 j5 j6 a0 c0 1) else (p8_20 fail fu K0 j5 j6 a0 c0 0))) x1) else (p8_19 fail fu K0 j5 0 0 0 ⟨#[]⟩))
def p8_22 {ρ:Type} (fail:ρ) (fu:Nat) (K0:S8 ρ) (x1 x2 j5:Int) (j6:ByteArray) (a0:Bool):ρ :=
 p8_21 fail fu K0 x1 x2 j5 j6 a0
def p8_23 {ρ:Type} (fail:ρ) (fu:Nat) (K0:S8 ρ) (x1 x2 j5:Int) (j6:ByteArray) (a0:Bool):ρ :=
 p8_22 fail fu K0 x1 x2 j5 j6 a0
def p8_24 {ρ:Type} (fail:ρ) (fu:Nat) (K0:S8 ρ) (x1 x2:Int) (y1:EL) (y2:Int) (y3:EL) (y4 j5:Int) (j6:ByteArray) (m0:Bool):ρ :=
 bif m0 then (gd ((6:Int)≠0) fail (p22 fail fu (fun n0 o0 q0 r0 s0 t0 v0=>gd ((2:Int)≠0) fail (bif (B0 .eql (B8 .rem .u8 x2 2) 0) then (p24 fail fu (fun w0 x0 y0 z0 a1 i4 j4 l4 m4 n4 o4 r4=>p8_8 fail fu K0 x2 j5 j6 0 w0 x0 y0 z0 a1) t0 v0 0) else (p8_8 fail fu K0 x2 j5 j6 (IntKind.i64.wrap (B8 .rem .u8 x2 6)) n0 o0 q0 r0 s0))) y1 y2)) else (bif (B0 .eql j5 7) then (p24 fail fu (fun a0 c0 d0 e0 f0 c1 d1 e1 f1 g1 s4 t4=>gd ((3:Int)≠0) fail (bif (B0 .eql (B8 .rem .u8 x2 3) 0) then (p22 fail fu (fun i1 j1 l1 m1 o1 v4 w4=>p8_10 fail fu K0 j5 a0 c0 d0 e0 f0 i1 j1 l1 m1 o1) y3 y4) else (p8_10 fail fu K0 j5 a0 c0 d0 e0 f0 c1 d1 e1 f1 g1))) y1 y2 0) else (bif (B0 .eql j5 16) then (p27 fail fu (fun q1 r1 s1 t1 v1 w1 z1=>p27 fail fu (fun a2 c2 d2 e2 f2 g2 i2=>gd ((3:Int)≠0) fail (bif (B0 .eql (B8 .rem .u8 x2 3) 0) then (p22 fail fu (fun j2 l2 m2 o2 r2 x4 z4=>p22 fail fu (fun s2 t2 v2 w2 z2 a5 c5=>p8_12 fail fu K0 j5 j2 l2 m2 o2 r2 s2 t2 v2 w2 z2) g2 i2) w1 z1) else (p8_12 fail fu K0 j5 q1 r1 s1 t1 v1 a2 c2 d2 e2 f2))) y3 y4 0) y1 y2 0) else (bif (B0 .eql j5 8) then (p28 fail fu (fun a3 c3=>p28 fail fu (fun d3 e3=>p8_13 fail fu K0 j5 a3 c3 d3 e3 0 ⟨#[]⟩ 0 0 ⟨#[]⟩ nilE nilE 0 0 ⟨#[]⟩ nilE nilE) x2) x1) else (bif (B0 .eql j5 9) then (p28 fail fu (fun g0 i0=>p27 fail fu (fun f3 g3 i3 j3 l3 d5 e5=>gd ((3:Int)≠0) fail (bif (B0 .eql (B8 .rem .u8 x2 3) 0) then (p24 fail fu (fun n3 o3 r3 s3 t3 f5 g5 i5 l5 n5 o5 r5=>p8_15 fail fu K0 j5 g0 i0 n3 o3 r3 s3 t3) y3 y4 0) else (p8_15 fail fu K0 j5 g0 i0 f3 g3 i3 j3 l3))) y1 y2 0) x1) else (bif (B0 .eql j5 10) then (p28 fail fu (fun j0 l0=>p24 fail fu (fun s5 t5 v5 w5 x5 v3 w3 x3 z3 a4 y5 z5=>gd ((3:Int)≠0) fail (bif (B0 .eql (B8 .rem .u8 x2 3) 0) then (p22 fail fu (fun c4 d4 e4 f4 g4 a6 c6=>p8_17 fail fu K0 j5 j0 l0 c4 d4 e4 f4 g4) y3 y4) else (p8_17 fail fu K0 j5 j0 l0 v3 w3 x3 z3 a4))) y1 y2 0) x1) else (bif (B0 .eql j5 11) then (p8_21 fail fu K0 x1 x2 j5 j6 (B0 .eql j5 11)) else (bif (B0 .eql j5 12) then (p8_22 fail fu K0 x1 x2 j5 j6 (B0 .eql j5 12)) else (bif (B0 .eql j5 13) then (p8_23 fail fu K0 x1 x2 j5 j6 (B0 .eql j5 13)) else (p8_23 fail fu K0 x1 x2 j5 j6 (B0 .eql j5 14))))))))))
def p8_25 {ρ:Type} (fail:ρ) (fu:Nat) (K0:S8 ρ) (x1 x2:Int) (x7 y1:EL) (y2:Int) (y3:EL) (y4 j5:Int) (j6:ByteArray):ρ :=
 bif (B0 .eql j5 3) then (gd ((3:Int)≠0) fail (p22 fail fu (fun g1 i1 j1 l1 m1 o1 q1=>gd ((4:Int)≠0) fail (bif (B0 .gtr (B8 .rem .u8 x2 4) 0) then (p23 fail fu (fun r1 s1 t1 v1 w1 j2 l2=>p8_2 fail fu K0 j5 j6 0 r1 s1 t1 v1 w1) o1 q1 0) else (p8_2 fail fu K0 j5 j6 (IntKind.i64.wrap (B8 .rem .u8 x2 3)) g1 i1 j1 l1 m1))) y1 y2)) else (bif (B0 .eql j5 4) then (p24 fail fu (fun z1 a2 c2 d2 e2 a1 c1 d1 e1 f1 m2 f2=>gd ((4:Int)≠0) fail (bif (B0 .eql (B8 .rem .u8 x2 4) 0) then (p22 fail fu (fun a0 c0 d0 e0 f0 g2 i2=>p8_4 fail fu K0 j5 j6 a1 c1 d1 e1 f1 a0 c0 d0 e0 f0) y3 y4) else (p8_4 fail fu K0 j5 j6 a1 c1 d1 e1 f1 z1 a2 c2 d2 e2))) y1 y2 0) else (bif (B0 .eql j5 5) then (p25 fail fu (fun g0 i0 j0 l0 m0 n0 o0 q0 r0 s0 t0 v0 w0 x0 y0 z0=>p8_5 fail fu K0 j5 0 0 0 0 0 g0 i0 j0 l0 m0 n0 o0 q0 r0 s0 t0 v0 w0 x0 y0 z0 0 0 ⟨#[]⟩ nilE nilE 0 0 ⟨#[]⟩ nilE nilE) x1 x7) else (bif (B0 .eql j5 6) then (p8_24 fail fu K0 x1 x2 y1 y2 y3 y4 j5 j6 (B0 .eql j5 6)) else (p8_24 fail fu K0 x1 x2 y1 y2 y3 y4 j5 j6 (B0 .eql j5 17)))))
def p8 {ρ:Type} (fail:ρ) (fu:Nat) (K0:S8 ρ) (x0 x1 x2 x3:Int) (x4 x5:EL) (x6:ByteArray) (x7:EL):ρ :=
 p21 fail fu (fun y1 y2=>p21 fail fu (fun y3 y4=>gd ((18:Int)≠0) fail (bif (P3 .eql x6 ⟨#[]⟩) then (gd ((6:Int)≠0) fail (gd (6≤[[(CV.v (.string ⟨#[97]⟩))],[(CV.v (.string ⟨#[98]⟩))],[(CV.v (.string ⟨#[99]⟩))],[(CV.v (.string ⟨#[100,46,101]⟩))],[(CV.v (.string ⟨#[78,97,116]⟩))],[(CV.v (.string ⟨#[116,119,111]⟩))]].length) fail (gd ((0:Int)≤(B8 .rem .u8 x1 6)) fail (gd ((B8 .rem .u8 x1 6:Int) < (6:Nat)) fail (gd (((B8 .rem .u8 x1 6:Int).toNat) + 1≤[[(CV.v (.string ⟨#[97]⟩))],[(CV.v (.string ⟨#[98]⟩))],[(CV.v (.string ⟨#[99]⟩))],[(CV.v (.string ⟨#[100,46,101]⟩))],[(CV.v (.string ⟨#[78,97,116]⟩))],[(CV.v (.string ⟨#[116,119,111]⟩))]].length) fail (z2r fail (List.getD [[(CV.v (.string ⟨#[97]⟩))],[(CV.v (.string ⟨#[98]⟩))],[(CV.v (.string ⟨#[99]⟩))],[(CV.v (.string ⟨#[100,46,101]⟩))],[(CV.v (.string ⟨#[78,97,116]⟩))],[(CV.v (.string ⟨#[116,119,111]⟩))]] ((B8 .rem .u8 x1 6:Int).toNat) []) (fun a0=>p8_25 fail fu K0 x1 x2 x7 y1 y2 y3 y4 (B8 .add .i64 3 (IntKind.i64.wrap (B8 .rem .u8 x0 18))) a0))))))) else (p8_25 fail fu K0 x1 x2 x7 y1 y2 y3 y4 (B8 .add .i64 3 (IntKind.i64.wrap (B8 .rem .u8 x0 18))) x6))) x5) x4
section
variable {ρ:Type} (fail:ρ)
def w9a (v:(Int→Int→Int→Int→Int→Int→Int→Int→Int→Int→Int→ByteArray→ByteArray→Int→Int→ByteArray→EL→EL→Int→Int→ByteArray→EL→EL→EL→Int→Int→ByteArray→EL→EL→Int→Int→ByteArray→EL→EL→ρ)→ρ):Prop:=∃ (k:Nat) (pa h o:Int) (d:Dc) (t ty:Tm),3≤k∧k≤20∧(0≤pa∧pa≤5)∧(0≤h∧h≤11)∧(0≤o∧o≤11)∧d.ok∧t.thin∧ty.thin∧v=fun K=>K ((k:Nat):Int) pa 0 0 0 h 0 o d.k d.pa d.ct d.nm d.fam d.ty.k d.ty.n d.ty.nm (Lv.rows d.ty.ls) (Tm.rows d.ty.args) d.val.k d.val.n d.val.nm (Lv.rows d.val.ls) (Tm.rows d.val.args) (d.cs.map E1) t.k t.n t.nm (Lv.rows t.ls) (Tm.rows t.args) ty.k ty.n ty.nm (Lv.rows ty.ls) (Tm.rows ty.args)
theorem w6g (b:List UInt8) (hb:b.length≤1000000) (a:Nat) (ha:a≤b.length):Ev n1 (T7 (ρ:=ρ) b a) (fun fu K=>p22 fail fu K (E8 b) ((a:Nat):Int)):=by
 obtain⟨t,a',h1,h2,h3,M,h⟩:=k0p fail b hb a ha
 exact⟨_,⟨t,a',h1,h2,h3,rfl⟩,M,h⟩
theorem ev23 (b:List UInt8) (hb:b.length≤1000000) (a:Nat) (ha:a≤b.length) (x:Int):Ev n1 (T7 (ρ:=ρ) b a) (fun fu K=>p23 fail fu K (E8 b) ((a:Nat):Int) x):=by
 obtain⟨t,a',h1,h2,h3,M,h⟩:=z5v fail b hb _ a ha (Nat.le_refl _) x
 exact⟨_,⟨t,a',h1,h2,h3,rfl⟩,M,h⟩
theorem k3i (b:List UInt8) (hb:b.length≤1000000) (a:Nat) (ha:a≤b.length) (x:Int):Ev n1 (T7 (ρ:=ρ) b a) (fun fu K=>p27 fail fu K (E8 b) ((a:Nat):Int) x):=by
 obtain⟨t,a',h1,h2,h3,M,h⟩:=U3 fail b hb a ha x
 exact⟨_,⟨t,a',h1,h2,h3,rfl⟩,M,h⟩
theorem w8k (b:List UInt8) (hb:b.length≤1000000) (a:Nat) (ha:a≤b.length) (x:Int):Ev n1 (T12 (ρ:=ρ) b a) (fun fu K=>p24 fail fu K (E8 b) ((a:Nat):Int) x):=by
 obtain⟨t,u,a',h1,h1',h2,h3,M,h⟩:=z3o fail b hb _ a ha (Nat.le_refl _) x
 exact⟨_,⟨t,u,a',h1,h1',h2,h3,rfl⟩,M,h⟩
theorem w6f (x:Nat) (hx:x < 256):Ev n1 (fun v:(Int→Int→ρ)→ρ=>∃ h:Int,(0≤h∧h≤11)∧v=fun K=>K 0 h) (fun fu K=>p28 fail fu K ((x:Nat):Int)):=by
 have h12:x % 12 < 12:=Nat.mod_lt _ (by omega)
 have e:IntKind.u64.wrap (B8 .rem .u8 ((x:Nat):Int) 12)=((x % 12:Nat):Int):=by
  rw [show B8 .rem .u8 ((x:Nat):Int) 12=((x % 12:Nat):Int) from z5s x 12 hx (by omega),k1n (by omega)]
 unfold p28
 rw [e]
 exact Ev.gd (by omega) (Ev.val _ ⟨_,⟨by omega,by omega⟩,rfl⟩)
theorem F5:tm0.thin:=⟨⟨by simp,trivial⟩,by simp,trivial⟩
def dz:Dc:=⟨0,0,0,⟨#[]⟩,⟨#[]⟩,tm0,tm0,[]⟩
theorem Y4:dz.ok:=⟨by decide,by decide,by decide,by decide,by decide,by decide,by decide,rfl,F5,F5,by decide,by simp [dz]⟩
attribute [local irreducible] p28 p25 p22 p23 p24 p27 p26
theorem ev8 (x0 x1 x2 x3:Nat) (h0:x0 < 256) (h1:x1 < 256) (h2:x2 < 256) (A B:List UInt8) (hA:A.length≤1000000) (hB:B.length≤1000000) (nm:ByteArray) (hnm:nm.size≤40) (T:List Tu) (hT:∀ t ∈ T,t.ok) (hTl:T.length≤1000000) :
  Ev n1 (w9a (ρ:=ρ)) (fun fu K=>p8 fail fu K ((x0:Nat):Int) ((x1:Nat):Int) ((x2:Nat):Int) ((x3:Nat):Int) (E8 A) (E8 B) nm (T.map K3)):=by
 have r3:IntKind.i64.wrap (B8 .rem .u8 ((x2:Nat):Int) 3)=((x2 % 3:Nat):Int):=by
  rw [show B8 .rem .u8 ((x2:Nat):Int) 3=((x2 % 3:Nat):Int) from z5s x2 3 h2 (by omega),w0p _ (by omega)]
 have r6:IntKind.i64.wrap (B8 .rem .u8 ((x2:Nat):Int) 6)=((x2 % 6:Nat):Int):=by
  rw [show B8 .rem .u8 ((x2:Nat):Int) 6=((x2 % 6:Nat):Int) from z5s x2 6 h2 (by omega),w0p _ (by omega)]
 have l3:x2 % 3 < 3:=Nat.mod_lt _ (by omega)
 have l6:x2 % 6 < 6:=Nat.mod_lt _ (by omega)
 obtain⟨k,hk⟩:∃ k,k=3 + x0 % 18:=⟨_,rfl⟩
 have l18:x0 % 18 < 18:=Nat.mod_lt _ (by omega)
 have k3:3≤k:=by omega
 have k20:k≤20:=by omega
 have ek:B8 .add .i64 3 (IntKind.i64.wrap (B8 .rem .u8 ((x0:Nat):Int) 18))=((k:Nat):Int):=by
  rw [show B8 .rem .u8 ((x0:Nat):Int) 18=((x0 % 18:Nat):Int) from z5s x0 18 h0 (by omega),w0p _ (by omega),z7e (by omega) (by omega)];omega
 have main:∀ s:ByteArray,s.size≤40→Ev n1 (w9a (ρ:=ρ)) (fun fu K=>p8_25 fail fu K ((x1:Nat):Int) ((x2:Nat):Int) (T.map K3) (E8 A) 0 (E8 B) 0 ((k:Nat):Int) s):=by
  intro s hs
  have dk:∀ (c pa:Int) (t v:Tm),(0≤c∧c≤3)→(0≤pa∧pa≤5)→t.thin→v.thin→(Dc.mk c pa 0 s ⟨#[]⟩ t v []).ok:=fun c pa t v hc hp ht hv=>⟨hc.1,hc.2,hp.1,hp.2,by simp,by simp,hs,rfl,ht,hv,by simp,by simp⟩
  have a22:∀ a,a≤A.length→Ev n1 (T7 (ρ:=ρ) A a) (fun fu K=>p22 fail fu K (E8 A) ((a:Nat):Int)):=fun a h=>w6g fail A hA a h
  have h21:∀ b,Ev n1 (w9a (ρ:=ρ)) (fun fu K=>p8_21 fail fu K ((x1:Nat):Int) ((x2:Nat):Int) ((k:Nat):Int) s b):=by
   intro b
   unfold p8_21 p8_20 p8_19 p8_18 p8_16 p8_14 p8_13 p8_11 p8_9 p8_6 p8_5 p8_3 p8_1
   refine Ev.ite (fun _=>?_) (fun _=>Ev.ite (fun _=>?_) (fun _=>?_))
   ·refine Ev.bind (w6f fail x1 h1) ?_
    rintro _ ⟨h,hh,rfl⟩
    exact Ev.val _ ⟨k,0,h,0,dz,tm0,tm0,k3,k20,by decide,hh,by decide,Y4,F5,F5,rfl⟩
   ·refine Ev.bind (w6f fail x1 h1) ?_
    rintro _ ⟨h,hh,rfl⟩
    refine Ev.gd (by omega) (Ev.ite (fun _=>?_) (fun _=>?_))
    ·exact Ev.val _ ⟨k,0,h,0,⟨0,1,0,s,⟨#[]⟩,tm0,tm0,[]⟩,tm0,tm0,k3,k20,by decide,hh,by decide,dk 0 1 _ _ (by decide) (by decide) F5 F5,F5,F5,rfl⟩
    ·exact Ev.val _ ⟨k,0,h,0,⟨0,0,0,s,⟨#[]⟩,tm0,tm0,[]⟩,tm0,tm0,k3,k20,by decide,hh,by decide,dk 0 0 _ _ (by decide) (by decide) F5 F5,F5,F5,rfl⟩
   ·exact Ev.val _ ⟨k,0,0,0,dz,tm0,tm0,k3,k20,by decide,by decide,by decide,Y4,F5,F5,rfl⟩
  have h8:∀ (pa:Int) (t:Tm),(0≤pa∧pa≤5)→t.thin→Ev n1 (w9a (ρ:=ρ)) (fun fu K=>p8_8 fail fu K ((x2:Nat):Int) ((k:Nat):Int) s pa t.k t.n t.nm (Lv.rows t.ls) (Tm.rows t.args)):=by
   intro pa t hpa ht
   unfold p8_8 p8_7 p8_6 p8_5 p8_3 p8_1
   refine Ev.gd (by omega) (Ev.ite (fun _=>?_) (fun _=>?_))
   ·refine Ev.bind (z6n fail s (by omega)) ?_
    rintro _ ⟨u,hu,rfl⟩
    exact Ev.val _ ⟨k,0,0,0,dz,u,tm0,k3,k20,by decide,by decide,by decide,Y4,hu,F5,rfl⟩
   ·exact Ev.val _ ⟨k,pa,0,0,dz,t,tm0,k3,k20,hpa,by decide,by decide,Y4,ht,F5,rfl⟩
  have h24:∀ b,Ev n1 (w9a (ρ:=ρ)) (fun fu K=>p8_24 fail fu K ((x1:Nat):Int) ((x2:Nat):Int) (E8 A) 0 (E8 B) 0 ((k:Nat):Int) s b):=by
   intro b
   unfold p8_24
   refine Ev.ite (fun _=>Ev.gd (by omega) ?_) (fun _=>Ev.ite (fun _=>?_) (fun _=>Ev.ite (fun _=>?_) (fun _=>Ev.ite (fun _=>?_) (fun _=>Ev.ite (fun _=>?_) (fun _=>Ev.ite (fun _=>?_) (fun _=>Ev.ite (fun _=>?_) (fun _=>Ev.ite (fun _=>?_) (fun _=>Ev.ite (fun _=>?_) (fun _=>?_)))))))))
   ·refine Ev.bind (a22 0 (by omega)) ?_
    rintro _ ⟨t,a1,ht,_,ha1,rfl⟩
    rw [r6]
    refine Ev.gd (by omega) (Ev.ite (fun _=>?_) (fun _=>h8 _ t ⟨by omega,by omega⟩ ht))
    refine Ev.bind (w8k fail A hA a1 ha1 0) ?_
    rintro _ ⟨u,w,a2,hu,hw,_,ha2,rfl⟩
    exact h8 0 u (by decide) hu
   ·refine Ev.bind (w8k fail A hA 0 (by omega) 0) ?_
    rintro _ ⟨t,u,a1,ht,hu,_,ha1,rfl⟩
    unfold p8_10 p8_9 p8_6 p8_5 p8_3 p8_1
    refine Ev.gd (by omega) (Ev.ite (fun _=>?_) (fun _=>?_))
    ·refine Ev.bind (w6g fail B hB 0 (by omega)) ?_
     rintro _ ⟨w,a2,hw,_,ha2,rfl⟩
     exact Ev.val _ ⟨k,0,0,0,dz,t,w,k3,k20,by decide,by decide,by decide,Y4,ht,hw,rfl⟩
    ·exact Ev.val _ ⟨k,0,0,0,dz,t,u,k3,k20,by decide,by decide,by decide,Y4,ht,hu,rfl⟩
   ·refine Ev.bind (k3i fail A hA 0 (by omega) 0) ?_
    rintro _ ⟨t,a1,ht,_,ha1,rfl⟩
    refine Ev.bind (k3i fail B hB 0 (by omega) 0) ?_
    rintro _ ⟨u,a2,hu,_,ha2,rfl⟩
    unfold p8_12 p8_11 p8_9 p8_6 p8_5 p8_3 p8_1
    refine Ev.gd (by omega) (Ev.ite (fun _=>?_) (fun _=>?_))
    ·refine Ev.bind (w6g fail A hA a1 ha1) ?_
     rintro _ ⟨t2,a3,ht2,_,ha3,rfl⟩
     refine Ev.bind (w6g fail B hB a2 ha2) ?_
     rintro _ ⟨u2,a4,hu2,_,ha4,rfl⟩
     exact Ev.val _ ⟨k,0,0,0,dz,t2,u2,k3,k20,by decide,by decide,by decide,Y4,ht2,hu2,rfl⟩
    ·exact Ev.val _ ⟨k,0,0,0,dz,t,u,k3,k20,by decide,by decide,by decide,Y4,ht,hu,rfl⟩
   ·refine Ev.bind (w6f fail x1 h1) ?_
    rintro _ ⟨h,hh,rfl⟩
    refine Ev.bind (w6f fail x2 h2) ?_
    rintro _ ⟨g,hg,rfl⟩
    unfold p8_13 p8_11 p8_9 p8_6 p8_5 p8_3 p8_1
    exact Ev.val _ ⟨k,0,h,g,dz,tm0,tm0,k3,k20,by decide,hh,hg,Y4,F5,F5,rfl⟩
   ·refine Ev.bind (w6f fail x1 h1) ?_
    rintro _ ⟨h,hh,rfl⟩
    refine Ev.bind (k3i fail A hA 0 (by omega) 0) ?_
    rintro _ ⟨t,a1,ht,_,ha1,rfl⟩
    unfold p8_15 p8_14 p8_13 p8_11 p8_9 p8_6 p8_5 p8_3 p8_1
    refine Ev.gd (by omega) (Ev.ite (fun _=>?_) (fun _=>?_))
    ·refine Ev.bind (w8k fail B hB 0 (by omega) 0) ?_
     rintro _ ⟨u,w,a2,hu,hw,_,ha2,rfl⟩
     exact Ev.val _ ⟨k,0,h,0,dz,u,tm0,k3,k20,by decide,hh,by decide,Y4,hu,F5,rfl⟩
    ·exact Ev.val _ ⟨k,0,h,0,dz,t,tm0,k3,k20,by decide,hh,by decide,Y4,ht,F5,rfl⟩
   ·refine Ev.bind (w6f fail x1 h1) ?_
    rintro _ ⟨h,hh,rfl⟩
    refine Ev.bind (w8k fail A hA 0 (by omega) 0) ?_
    rintro _ ⟨t,u,a1,ht,hu,_,ha1,rfl⟩
    unfold p8_17 p8_16 p8_14 p8_13 p8_11 p8_9 p8_6 p8_5 p8_3 p8_1
    refine Ev.gd (by omega) (Ev.ite (fun _=>?_) (fun _=>?_))
    ·refine Ev.bind (w6g fail B hB 0 (by omega)) ?_
     rintro _ ⟨w,a2,hw,_,ha2,rfl⟩
     exact Ev.val _ ⟨k,0,h,0,dz,tm0,w,k3,k20,by decide,hh,by decide,Y4,F5,hw,rfl⟩
    ·exact Ev.val _ ⟨k,0,h,0,dz,tm0,u,k3,k20,by decide,hh,by decide,Y4,F5,hu,rfl⟩
   ·exact h21 _
   ·exact h21 _
   ·exact h21 _
   ·exact h21 _
  unfold p8_25
  refine Ev.ite (fun _=>Ev.gd (by omega) ?_) (fun _=>Ev.ite (fun _=>?_) (fun _=>Ev.ite (fun _=>?_) (fun _=>Ev.ite (fun _=>h24 _) (fun _=>h24 _))))
  ·refine Ev.bind (a22 0 (by omega)) ?_
   rintro _ ⟨t,a1,ht,_,ha1,rfl⟩
   rw [r3]
   unfold p8_2 p8_1
   refine Ev.gd (by omega) (Ev.ite (fun _=>?_) (fun _=>?_))
   ·refine Ev.bind (ev23 fail A hA a1 ha1 0) ?_
    rintro _ ⟨u,a2,hu,_,ha2,rfl⟩
    exact Ev.val _ ⟨k,0,0,0,⟨1,0,0,s,⟨#[]⟩,u,tm0,[]⟩,tm0,tm0,k3,k20,by decide,by decide,by decide,dk 1 0 _ _ (by decide) (by decide) hu F5,F5,F5,rfl⟩
   ·exact Ev.val _ ⟨k,0,0,0,⟨1,((x2 % 3:Nat):Int),0,s,⟨#[]⟩,t,tm0,[]⟩,tm0,tm0,k3,k20,by decide,by decide,by decide,dk 1 _ _ _ (by decide) ⟨by omega,by omega⟩ ht F5,F5,F5,rfl⟩
  ·refine Ev.bind (w8k fail A hA 0 (by omega) 0) ?_
   rintro _ ⟨t,u,a1,ht,hu,_,ha1,rfl⟩
   unfold p8_4 p8_3 p8_1
   refine Ev.gd (by omega) (Ev.ite (fun _=>?_) (fun _=>?_))
   ·refine Ev.bind (w6g fail B hB 0 (by omega)) ?_
    rintro _ ⟨w,a2,hw,_,ha2,rfl⟩
    exact Ev.val _ ⟨k,0,0,0,⟨2,0,0,s,⟨#[]⟩,u,w,[]⟩,tm0,tm0,k3,k20,by decide,by decide,by decide,dk 2 0 _ _ (by decide) (by decide) hu hw,F5,F5,rfl⟩
   ·exact Ev.val _ ⟨k,0,0,0,⟨2,0,0,s,⟨#[]⟩,u,t,[]⟩,tm0,tm0,k3,k20,by decide,by decide,by decide,dk 2 0 _ _ (by decide) (by decide) hu ht,F5,F5,rfl⟩
  ·refine Ev.bind (ev25 fail x1 h1 T hT hTl) ?_
   rintro _ ⟨d,hd,rfl⟩
   unfold p8_5 p8_3 p8_1
   exact Ev.val _ ⟨k,0,0,0,d,tm0,tm0,k3,k20,by decide,by decide,by decide,hd,F5,F5,rfl⟩
 unfold p8 p21
 rw [ek]
 refine Ev.gd (by omega) (Ev.ite (fun _=>?_) (fun _=>main nm hnm))
 have m6:x1 % 6 < 6:=Nat.mod_lt _ (by omega)
 have e6:B8 .rem .u8 ((x1:Nat):Int) 6=((x1 % 6:Nat):Int):=z5s x1 6 h1 (by omega)
 have eS:∀ κ:ByteArray→ρ,z2r fail (List.getD [[(CV.v (.string ⟨#[97]⟩))],[(CV.v (.string ⟨#[98]⟩))],[(CV.v (.string ⟨#[99]⟩))],[(CV.v (.string ⟨#[100,46,101]⟩))],[(CV.v (.string ⟨#[78,97,116]⟩))],[(CV.v (.string ⟨#[116,119,111]⟩))]] (((x1 % 6:Nat):Int)).toNat []) κ=κ (([⟨#[97]⟩,⟨#[98]⟩,⟨#[99]⟩,⟨#[100,46,101]⟩,⟨#[78,97,116]⟩,⟨#[116,119,111]⟩]:List ByteArray)[x1 % 6]'m6):=fun κ=>by
  rw [Int.toNat_natCast]
  show z2r fail (List.getD (([⟨#[97]⟩,⟨#[98]⟩,⟨#[99]⟩,⟨#[100,46,101]⟩,⟨#[78,97,116]⟩,⟨#[116,119,111]⟩]:List ByteArray).map W0) (x1 % 6) []) κ=_
  rw [M3 W0 [] _ _ m6];rfl
 have hsm:∀ z ∈ ([⟨#[97]⟩,⟨#[98]⟩,⟨#[99]⟩,⟨#[100,46,101]⟩,⟨#[78,97,116]⟩,⟨#[116,119,111]⟩]:List ByteArray),z.size≤40:=by decide
 simp only [e6]
 simp only [eS]
 exact Ev.gd (by omega) (Ev.gd (by simp) (Ev.gd (by omega) (Ev.gd (by omega) (Ev.gd (by simp only [List.length_cons,List.length_nil];omega) (main _ (hsm _ (List.getElem_mem m6)))))))
end
def p39_1 {ρ:Type} (fail:ρ) (fu:Nat) (K0:Bool→ρ) (j1:Bool):ρ :=
 K0 j1
def p39 {ρ:Type} (fail:ρ) (fu:Nat) (K0:Bool→ρ) (x0:Int):ρ :=
 bif (B0 .geq x0 0) then (p39_1 fail fu K0 (B0 .leq x0 1073741824)) else (p39_1 fail fu K0 false)
def p144_1 {ρ:Type} (fail:ρ) (fu:Nat) (K0:Int→ρ) (x0:Int) (j2:Bool):ρ :=
 bif j2 then (K0 2) else (bif (B0 .eql x0 6) then (K0 3) else (K0 (-1)))
def p144_2 {ρ:Type} (fail:ρ) (fu:Nat) (K0:Int→ρ) (x0:Int) (j3:Bool):ρ :=
 p144_1 fail fu K0 x0 j3
def p144_3 {ρ:Type} (fail:ρ) (fu:Nat) (K0:Int→ρ) (x0:Int) (j1:Bool):ρ :=
 bif j1 then (K0 0) else (bif (B0 .eql x0 3) then (p144_1 fail fu K0 x0 (B0 .eql x0 3)) else (bif (B0 .eql x0 4) then (p144_2 fail fu K0 x0 (B0 .eql x0 4)) else (p144_2 fail fu K0 x0 (B0 .eql x0 5))))
def p144_4 {ρ:Type} (fail:ρ) (fu:Nat) (K0:Int→ρ) (x0:Int) (j4:Bool):ρ :=
 p144_3 fail fu K0 x0 j4
def p144 {ρ:Type} (fail:ρ) (fu:Nat) (K0:Int→ρ) (x0:Int):ρ :=
 bif (B0 .eql x0 0) then (p144_3 fail fu K0 x0 (B0 .eql x0 0)) else (bif (B0 .eql x0 1) then (p144_4 fail fu K0 x0 (B0 .eql x0 1)) else (p144_4 fail fu K0 x0 (B0 .eql x0 2)))
def p134_1 {ρ:Type} (fail:ρ) (fu:Nat) (K0:Bool→ρ) (j4:Bool):ρ :=
 K0 j4
def p134_2 {ρ:Type} (fail:ρ) (fu:Nat) (K0:Bool→ρ) (x0:Int) (x3:EL) (j2 j3:Bool):ρ :=
 bif j3 then (K0 false) else (bif (B0 .eql x0 1) then (K0 (B0 .eql ((x3.length:Nat):Int) 1)) else (bif j2 then (p134_1 fail fu K0 true) else (p134_1 fail fu K0 (B0 .eql ((x3.length:Nat):Int) 0))))
def p134_3 {ρ:Type} (fail:ρ) (fu:Nat) (K0:Bool→ρ) (x0:Int) (x3:EL) (j6 j8:Bool):ρ :=
 p134_2 fail fu K0 x0 x3 j6 j8
def p134_4 {ρ:Type} (fail:ρ) (fu:Nat) (K0:Bool→ρ) (x0:Int) (x3:EL) (j6 a0:Bool):ρ :=
 p134_3 fail fu K0 x0 x3 j6 a0
def p134_5 {ρ:Type} (fail:ρ) (fu:Nat) (K0:Bool→ρ) (x0:Int) (x3:EL) (j6 a0:Bool):ρ :=
 p134_4 fail fu K0 x0 x3 j6 a0
def p134_6 {ρ:Type} (fail:ρ) (fu:Nat) (K0:Bool→ρ) (x0:Int) (x2:ByteArray) (x3:EL) (j6 j9:Bool):ρ :=
 bif j9 then (p134_4 fail fu K0 x0 x3 j6 j9) else (bif (!j6) then (p134_5 fail fu K0 x0 x3 j6 (P3 .neq x2 ⟨#[]⟩)) else (p134_5 fail fu K0 x0 x3 j6 false))
def p134_7 {ρ:Type} (fail:ρ) (fu:Nat) (K0:Bool→ρ) (x0 x1:Int) (x2:ByteArray) (x3:EL) (j5 j6 j7:Bool):ρ :=
 bif j7 then (p134_3 fail fu K0 x0 x3 j6 j7) else (bif (!j5) then (p134_6 fail fu K0 x0 x2 x3 j6 (B0 .neq x1 0)) else (p134_6 fail fu K0 x0 x2 x3 j6 false))
def p134 {ρ:Type} (fail:ρ) (fu:Nat) (K0:Bool→ρ) (x0 x1:Int) (x2:ByteArray) (x3 x4:EL):ρ :=
 p144 fail fu (fun y1=>bif (B0 .neq y1 ((x4.length:Nat):Int)) then (p134_2 fail fu K0 x0 x3 (B0 .eql x0 2) (B0 .neq y1 ((x4.length:Nat):Int))) else (bif (B0 .eql x0 0) then (bif (B0 .lss x1 0) then (p134_7 fail fu K0 x0 x1 x2 x3 (B0 .eql x0 0) (B0 .eql x0 2) true) else (p134_7 fail fu K0 x0 x1 x2 x3 (B0 .eql x0 0) (B0 .eql x0 2) (B0 .gtr x1 1073741824))) else (p134_7 fail fu K0 x0 x1 x2 x3 (B0 .eql x0 0) (B0 .eql x0 2) false))) x0
def p105_1 {ρ:Type} (fail:ρ) (fu:Nat) (s_p105:(Bool→Int→ρ)→Int→Int→ByteArray→EL→EL→Int→Int→ρ) (K0:Bool→Int→ρ) (rec1:Int→Int→Int→ρ) (x4:EL) (x6 z2 z3 z4:Int):ρ :=
 bif (B0 .lss z4 z3) then (gd (0≤z4) fail (gd (z4 < x4.length) fail (E0 fail (List.getD x4 (z4.toNat) []) (fun c5 c6 c7 c8 c9=>s_p105 (fun c0 a0=>bif (!c0) then (K0 false a0) else (bif (B0 .gtr a0 x6) then (K0 true a0) else (rec1 a0 z3 (B8 .add .i64 z4 1)))) c5 c6 c7 c8 c9 z2 x6)))) else (K0 true z2)
def p105_1L {ρ:Type} (fail:ρ) (fu:Nat) (s_p105:(Bool→Int→ρ)→Int→Int→ByteArray→EL→EL→Int→Int→ρ) (K0:Bool→Int→ρ) (x4:EL) (x6:Int):Nat→Int→Int→Int→ρ
 | 0,_,_,_=>fail
 | n + 1,z2,z3,z4=>p105_1 fail fu s_p105 K0 (p105_1L fail fu s_p105 K0 x4 x6 n) x4 x6 z2 z3 z4
def p105_b {ρ:Type} (fail:ρ) (fu:Nat) (s_p105:(Bool→Int→ρ)→Int→Int→ByteArray→EL→EL→Int→Int→ρ) (K0:Bool→Int→ρ) (x0 x1:Int) (x2:ByteArray) (x3 x4:EL) (x5 x6:Int):ρ :=
 bif (B0 .gtr (B8 .add .i64 x5 1) x6) then (K0 true (B8 .add .i64 x5 1)) else (p134 fail fu (fun y1=>bif (!y1) then (K0 false (B8 .add .i64 x5 1)) else (p105_1L fail fu s_p105 K0 x4 x6 fu (B8 .add .i64 x5 1) ((x4.length:Nat):Int) 0)) x0 x1 x2 x3 x4)
def p105 {ρ:Type} (fail:ρ):Nat→(Bool→Int→ρ)→Int→Int→ByteArray→EL→EL→Int→Int→ρ
 | 0,_,_,_,_,_,_,_,_=>fail
 | n + 1,K0,x0,x1,x2,x3,x4,x5,x6=>p105_b fail n (p105 fail n) K0 x0 x1 x2 x3 x4 x5 x6
def p79 {ρ:Type} (fail:ρ) (fu:Nat) (K0:Int→Bool→ρ) (x0 x1:Int) (x2:ByteArray) (x3 x4:EL) (x5:Int):ρ :=
 p105 fail fu (fun y1 y2=>K0 y2 y1) x0 x1 x2 x3 x4 0 x5
def p80_1 {ρ:Type} (fail:ρ) (fu:Nat) (s_p80:(Int→ρ)→Int→Int→ByteArray→EL→EL→Int→ρ) (K0:Int→ρ) (rec1:Int→Int→Int→Int→ρ) (x4:EL) (z1 z2 z3 z4:Int):ρ :=
 bif (B0 .lss z4 z3) then (gd (0≤z4) fail (gd (z4 < x4.length) fail (E0 fail (List.getD x4 (z4.toNat) []) (fun c5 c6 c7 c8 c9=>s_p80 (fun a0=>bif (B0 .gtr (if B8 .add .i64 1 a0 > z2 then B8 .add .i64 1 a0 else z2) z1) then (K0 (if B8 .add .i64 1 a0 > z2 then B8 .add .i64 1 a0 else z2)) else (rec1 z1 (if B8 .add .i64 1 a0 > z2 then B8 .add .i64 1 a0 else z2) z3 (B8 .add .i64 z4 1))) c5 c6 c7 c8 c9 (B8 .sub .i64 z1 1))))) else (K0 z2)
def p80_1L {ρ:Type} (fail:ρ) (fu:Nat) (s_p80:(Int→ρ)→Int→Int→ByteArray→EL→EL→Int→ρ) (K0:Int→ρ) (x4:EL):Nat→Int→Int→Int→Int→ρ
 | 0,_,_,_,_=>fail
 | n + 1,z1,z2,z3,z4=>p80_1 fail fu s_p80 K0 (p80_1L fail fu s_p80 K0 x4 n) x4 z1 z2 z3 z4
def p80_b {ρ:Type} (fail:ρ) (fu:Nat) (s_p80:(Int→ρ)→Int→Int→ByteArray→EL→EL→Int→ρ) (K0:Int→ρ) (x0 x1:Int) (x2:ByteArray) (x3 x4:EL) (x5:Int):ρ :=
 bif (B0 .eql (if 0 > x5 then 0 else x5) 0) then (K0 1) else (p80_1L fail fu s_p80 K0 x4 fu (if 0 > x5 then 0 else x5) 1 ((x4.length:Nat):Int) 0)
def p80 {ρ:Type} (fail:ρ):Nat→(Int→ρ)→Int→Int→ByteArray→EL→EL→Int→ρ
 | 0,_,_,_,_,_,_,_=>fail
 | n + 1,K0,x0,x1,x2,x3,x4,x5=>p80_b fail n (p80 fail n) K0 x0 x1 x2 x3 x4 x5
def p145_1 {ρ:Type} (fail:ρ) (fu:Nat) (K0:Int→ρ) (j2:Bool):ρ :=
 bif j2 then (K0 2) else (K0 (-1))
def p145_2 {ρ:Type} (fail:ρ) (fu:Nat) (K0:Int→ρ) (x0:Int) (j1:Bool):ρ :=
 bif j1 then (K0 0) else (bif (B0 .eql x0 1) then (K0 1) else (bif (B0 .eql x0 2) then (p145_1 fail fu K0 (B0 .eql x0 2)) else (p145_1 fail fu K0 (B0 .eql x0 3))))
def p145 {ρ:Type} (fail:ρ) (fu:Nat) (K0:Int→ρ) (x0:Int):ρ :=
 bif (B0 .eql x0 0) then (p145_2 fail fu K0 x0 (B0 .eql x0 0)) else (p145_2 fail fu K0 x0 (B0 .eql x0 4))
def p135_1 {ρ:Type} (fail:ρ) (fu:Nat) (s_p135:(Bool→Int→ρ)→Int→Int→EL→Int→Int→Int→ρ) (K0:Bool→Int→ρ) (rec1:Int→Int→Int→ρ) (x2:EL) (x3 x4 z4 z5 z6:Int):ρ :=
 bif (B0 .lss z6 z5) then (gd (0≤z6) fail (gd (z6 < x2.length) fail (G4 fail (List.getD x2 (z6.toNat) []) (fun c7 c8 c9=>s_p135 (fun c0 a0=>bif (!c0) then (K0 false a0) else (rec1 a0 z5 (B8 .add .i64 z6 1))) c7 c8 c9 x3 (B8 .add .i64 x4 1) z4)))) else (K0 true z4)
def p135_1L {ρ:Type} (fail:ρ) (fu:Nat) (s_p135:(Bool→Int→ρ)→Int→Int→EL→Int→Int→Int→ρ) (K0:Bool→Int→ρ) (x2:EL) (x3 x4:Int):Nat→Int→Int→Int→ρ
 | 0,_,_,_=>fail
 | n + 1,z4,z5,z6=>p135_1 fail fu s_p135 K0 (p135_1L fail fu s_p135 K0 x2 x3 x4 n) x2 x3 x4 z4 z5 z6
def p135_2 {ρ:Type} (fail:ρ) (fu:Nat) (s_p135:(Bool→Int→ρ)→Int→Int→EL→Int→Int→Int→ρ) (K0:Bool→Int→ρ) (x2:EL) (x3 x4 j1:Int) (j3:Bool):ρ :=
 bif j3 then (K0 false j1) else (p135_1L fail fu s_p135 K0 x2 x3 x4 fu j1 ((x2.length:Nat):Int) 0)
def p135_3 {ρ:Type} (fail:ρ) (fu:Nat) (s_p135:(Bool→Int→ρ)→Int→Int→EL→Int→Int→Int→ρ) (K0:Bool→Int→ρ) (x0 x1:Int) (x2:EL) (x3 x4 j1:Int) (j2:Bool):ρ :=
 bif j2 then (K0 false j1) else (bif (B0 .eql x0 4) then (bif (B0 .lss x1 0) then (p135_2 fail fu s_p135 K0 x2 x3 x4 j1 true) else (bif (B0 .geq x1 x3) then (p135_2 fail fu s_p135 K0 x2 x3 x4 j1 true) else (p135_2 fail fu s_p135 K0 x2 x3 x4 j1 false))) else (p135_2 fail fu s_p135 K0 x2 x3 x4 j1 (B0 .neq x1 0)))
def p135_b {ρ:Type} (fail:ρ) (fu:Nat) (s_p135:(Bool→Int→ρ)→Int→Int→EL→Int→Int→Int→ρ) (K0:Bool→Int→ρ) (x0 x1:Int) (x2:EL) (x3 x4 x5:Int):ρ :=
 bif (B0 .gtr x4 32) then (p135_3 fail fu s_p135 K0 x0 x1 x2 x3 x4 (B8 .add .i64 x5 1) true) else (bif (B0 .gtr (B8 .add .i64 x5 1) 64) then (p135_3 fail fu s_p135 K0 x0 x1 x2 x3 x4 (B8 .add .i64 x5 1) true) else (p145 fail fu (fun a0=>p135_3 fail fu s_p135 K0 x0 x1 x2 x3 x4 (B8 .add .i64 x5 1) (B0 .neq a0 ((x2.length:Nat):Int))) x0))
def p135 {ρ:Type} (fail:ρ):Nat→(Bool→Int→ρ)→Int→Int→EL→Int→Int→Int→ρ
 | 0,_,_,_,_,_,_,_=>fail
 | n + 1,K0,x0,x1,x2,x3,x4,x5=>p135_b fail n (p135 fail n) K0 x0 x1 x2 x3 x4 x5
def p106 {ρ:Type} (fail:ρ) (fu:Nat) (K0:Bool→ρ) (x0 x1:Int) (x2:EL) (x3:Int):ρ :=
 p135 fail fu (fun y1 y2=>K0 y1) x0 x1 x2 (if 4 < (if 0 > x3 then 0 else x3) then 4 else (if 0 > x3 then 0 else x3)) 1 0
def p81_1 {ρ:Type} (fail:ρ) (fu:Nat) (s_p81:(Bool→ρ)→Int→Int→ByteArray→EL→EL→ρ) (K0:Bool→ρ) (rec2:Int→Int→ρ) (x4:EL) (z8 z9:Int):ρ :=
 bif (B0 .lss z9 z8) then (gd (0≤z9) fail (gd (z9 < x4.length) fail (E0 fail (List.getD x4 (z9.toNat) []) (fun a0 c0 d0 e0 f0=>s_p81 (fun g0=>bif (!g0) then (K0 false) else (rec2 z8 (B8 .add .i64 z9 1))) a0 c0 d0 e0 f0)))) else (K0 true)
def p81_1L {ρ:Type} (fail:ρ) (fu:Nat) (s_p81:(Bool→ρ)→Int→Int→ByteArray→EL→EL→ρ) (K0:Bool→ρ) (x4:EL):Nat→Int→Int→ρ
 | 0,_,_=>fail
 | n + 1,z8,z9=>p81_1 fail fu s_p81 K0 (p81_1L fail fu s_p81 K0 x4 n) x4 z8 z9
def p81_2 {ρ:Type} (fail:ρ) (fu:Nat) (s_p81:(Bool→ρ)→Int→Int→ByteArray→EL→EL→ρ) (K0:Bool→ρ) (rec1:Int→Int→ρ) (x3 x4:EL) (z2 z3:Int):ρ :=
 bif (B0 .lss z3 z2) then (gd (0≤z3) fail (gd (z3 < x3.length) fail (G4 fail (List.getD x3 (z3.toNat) []) (fun c4 c5 c6=>p106 fail fu (fun y7=>bif (!y7) then (K0 false) else (rec1 z2 (B8 .add .i64 z3 1))) c4 c5 c6 4)))) else (p81_1L fail fu s_p81 K0 x4 fu ((x4.length:Nat):Int) 0)
def p81_2L {ρ:Type} (fail:ρ) (fu:Nat) (s_p81:(Bool→ρ)→Int→Int→ByteArray→EL→EL→ρ) (K0:Bool→ρ) (x3 x4:EL):Nat→Int→Int→ρ
 | 0,_,_=>fail
 | n + 1,z2,z3=>p81_2 fail fu s_p81 K0 (p81_2L fail fu s_p81 K0 x3 x4 n) x3 x4 z2 z3
def p81_3 {ρ:Type} (fail:ρ) (fu:Nat) (s_p81:(Bool→ρ)→Int→Int→ByteArray→EL→EL→ρ) (K0:Bool→ρ) (x3 x4:EL) (j1:Bool):ρ :=
 bif j1 then (K0 false) else (p81_2L fail fu s_p81 K0 x3 x4 fu ((x3.length:Nat):Int) 0)
def p81_b {ρ:Type} (fail:ρ) (fu:Nat) (s_p81:(Bool→ρ)→Int→Int→ByteArray→EL→EL→ρ) (K0:Bool→ρ) (x0 x1:Int) (x2:ByteArray) (x3 x4:EL):ρ :=
 bif (B0 .gtr ((x3.length:Nat):Int) 4) then (p81_3 fail fu s_p81 K0 x3 x4 true) else (p81_3 fail fu s_p81 K0 x3 x4 (B0 .gtr ((x2.size:Nat):Int) 24))
def p81 {ρ:Type} (fail:ρ):Nat→(Bool→ρ)→Int→Int→ByteArray→EL→EL→ρ
 | 0,_,_,_,_,_,_=>fail
 | n + 1,K0,x0,x1,x2,x3,x4=>p81_b fail n (p81 fail n) K0 x0 x1 x2 x3 x4
def p40_1 {ρ:Type} (fail:ρ) (fu:Nat) (K0:Bool→ρ) (j3:Bool):ρ :=
 K0 j3
def p40 {ρ:Type} (fail:ρ) (fu:Nat) (K0:Bool→ρ) (x0 x1:Int) (x2:ByteArray) (x3 x4:EL):ρ :=
 p79 fail fu (fun y1 y2=>bif y2 then (bif (B0 .leq y1 2000) then (p80 fail fu (fun y4=>bif (B0 .leq y4 100) then (p81 fail fu (fun y5=>p40_1 fail fu K0 y5) x0 x1 x2 x3 x4) else (p40_1 fail fu K0 false)) x0 x1 x2 x3 x4 100) else (p40_1 fail fu K0 false)) else (p40_1 fail fu K0 false)) x0 x1 x2 x3 x4 2000
def p108b_1 {ρ:Type} (fail:ρ) (fu:Nat) (s_p108b:(Bool→ρ)→Int→Int→EL→Int→Int→EL→ρ) (s_p107:(Bool→ρ)→EL→EL→ρ) (K0:Bool→ρ) (j1:Bool):ρ :=
 K0 j1
def p108b_b {ρ:Type} (fail:ρ) (fu:Nat) (s_p108b:(Bool→ρ)→Int→Int→EL→Int→Int→EL→ρ) (s_p107:(Bool→ρ)→EL→EL→ρ) (K0:Bool→ρ) (x0 x1:Int) (x2:EL) (x3 x4:Int) (x5:EL):ρ :=
 bif (B0 .eql x0 x3) then (bif (B0 .eql x1 x4) then (s_p107 (fun y2=>p108b_1 fail fu s_p108b s_p107 K0 y2) x2 x5) else (p108b_1 fail fu s_p108b s_p107 K0 false)) else (p108b_1 fail fu s_p108b s_p107 K0 false)
def p107_1 {ρ:Type} (fail:ρ) (fu:Nat) (s_p108b:(Bool→ρ)→Int→Int→EL→Int→Int→EL→ρ) (s_p107:(Bool→ρ)→EL→EL→ρ) (K0:Bool→ρ) (rec1:Int→Int→ρ) (x0 x1:EL) (z1 z2:Int):ρ :=
 bif (B0 .lss z2 z1) then (gd (0≤z2) fail (gd (z2 < x0.length) fail (G4 fail (List.getD x0 (z2.toNat) []) (fun c3 c4 c5=>gd (0≤z2) fail (gd (z2 < x1.length) fail (G4 fail (List.getD x1 (z2.toNat) []) (fun c6 c7 c8=>s_p108b (fun y9=>bif (!y9) then (K0 false) else (rec1 z1 (B8 .add .i64 z2 1))) c3 c4 c5 c6 c7 c8))))))) else (K0 true)
def p107_1L {ρ:Type} (fail:ρ) (fu:Nat) (s_p108b:(Bool→ρ)→Int→Int→EL→Int→Int→EL→ρ) (s_p107:(Bool→ρ)→EL→EL→ρ) (K0:Bool→ρ) (x0 x1:EL):Nat→Int→Int→ρ
 | 0,_,_=>fail
 | n + 1,z1,z2=>p107_1 fail fu s_p108b s_p107 K0 (p107_1L fail fu s_p108b s_p107 K0 x0 x1 n) x0 x1 z1 z2
def p107_b {ρ:Type} (fail:ρ) (fu:Nat) (s_p108b:(Bool→ρ)→Int→Int→EL→Int→Int→EL→ρ) (s_p107:(Bool→ρ)→EL→EL→ρ) (K0:Bool→ρ) (x0 x1:EL):ρ :=
 bif (B0 .neq ((x0.length:Nat):Int) ((x1.length:Nat):Int)) then (K0 false) else (p107_1L fail fu s_p108b s_p107 K0 x0 x1 fu ((x0.length:Nat):Int) 0)
mutual
def p108b {ρ:Type} (fail:ρ):Nat→(Bool→ρ)→Int→Int→EL→Int→Int→EL→ρ
 | 0,_,_,_,_,_,_,_=>fail
 | n + 1,K0,x0,x1,x2,x3,x4,x5=>p108b_b fail n (p108b fail n) (p107 fail n) K0 x0 x1 x2 x3 x4 x5
def p107 {ρ:Type} (fail:ρ):Nat→(Bool→ρ)→EL→EL→ρ
 | 0,_,_,_=>fail
 | n + 1,K0,x0,x1=>p107_b fail n (p108b fail n) (p107 fail n) K0 x0 x1
end
def p109b_1 {ρ:Type} (fail:ρ) (fu:Nat) (s_p109b:(Bool→ρ)→EL→EL→ρ) (s_p82:(Bool→ρ)→Int→Int→ByteArray→EL→EL→Int→Int→ByteArray→EL→EL→ρ) (K0:Bool→ρ) (rec1:Int→Int→ρ) (x0 x1:EL) (z1 z2:Int):ρ :=
 bif (B0 .lss z2 z1) then (gd (0≤z2) fail (gd (z2 < x0.length) fail (E0 fail (List.getD x0 (z2.toNat) []) (fun c3 c4 c5 c6 c7=>gd (0≤z2) fail (gd (z2 < x1.length) fail (E0 fail (List.getD x1 (z2.toNat) []) (fun c8 c9 a0 c0 d0=>s_p82 (fun e0=>bif (!e0) then (K0 false) else (rec1 z1 (B8 .add .i64 z2 1))) c3 c4 c5 c6 c7 c8 c9 a0 c0 d0))))))) else (K0 true)
def p109b_1L {ρ:Type} (fail:ρ) (fu:Nat) (s_p109b:(Bool→ρ)→EL→EL→ρ) (s_p82:(Bool→ρ)→Int→Int→ByteArray→EL→EL→Int→Int→ByteArray→EL→EL→ρ) (K0:Bool→ρ) (x0 x1:EL):Nat→Int→Int→ρ
 | 0,_,_=>fail
 | n + 1,z1,z2=>p109b_1 fail fu s_p109b s_p82 K0 (p109b_1L fail fu s_p109b s_p82 K0 x0 x1 n) x0 x1 z1 z2
def p109b_b {ρ:Type} (fail:ρ) (fu:Nat) (s_p109b:(Bool→ρ)→EL→EL→ρ) (s_p82:(Bool→ρ)→Int→Int→ByteArray→EL→EL→Int→Int→ByteArray→EL→EL→ρ) (K0:Bool→ρ) (x0 x1:EL):ρ :=
 bif (B0 .neq ((x0.length:Nat):Int) ((x1.length:Nat):Int)) then (K0 false) else (p109b_1L fail fu s_p109b s_p82 K0 x0 x1 fu ((x0.length:Nat):Int) 0)
def p82_1 {ρ:Type} (fail:ρ) (fu:Nat) (s_p109b:(Bool→ρ)→EL→EL→ρ) (s_p82:(Bool→ρ)→Int→Int→ByteArray→EL→EL→Int→Int→ByteArray→EL→EL→ρ) (K0:Bool→ρ) (j1:Bool):ρ :=
 K0 j1
def p82_b {ρ:Type} (fail:ρ) (fu:Nat) (s_p109b:(Bool→ρ)→EL→EL→ρ) (s_p82:(Bool→ρ)→Int→Int→ByteArray→EL→EL→Int→Int→ByteArray→EL→EL→ρ) (K0:Bool→ρ) (x0 x1:Int) (x2:ByteArray) (x3 x4:EL) (x5 x6:Int) (x7:ByteArray) (x8 x9:EL):ρ :=
 bif (B0 .eql x0 x5) then (bif (B0 .eql x1 x6) then (bif (P3 .eql x2 x7) then (p107 fail fu (fun y2=>bif y2 then (s_p109b (fun y3=>p82_1 fail fu s_p109b s_p82 K0 y3) x4 x9) else (p82_1 fail fu s_p109b s_p82 K0 false)) x3 x8) else (p82_1 fail fu s_p109b s_p82 K0 false)) else (p82_1 fail fu s_p109b s_p82 K0 false)) else (p82_1 fail fu s_p109b s_p82 K0 false)
mutual
def p109b {ρ:Type} (fail:ρ):Nat→(Bool→ρ)→EL→EL→ρ
 | 0,_,_,_=>fail
 | n + 1,K0,x0,x1=>p109b_b fail n (p109b fail n) (p82 fail n) K0 x0 x1
def p82 {ρ:Type} (fail:ρ):Nat→(Bool→ρ)→Int→Int→ByteArray→EL→EL→Int→Int→ByteArray→EL→EL→ρ
 | 0,_,_,_,_,_,_,_,_,_,_,_=>fail
 | n + 1,K0,x0,x1,x2,x3,x4,x5,x6,x7,x8,x9=>p82_b fail n (p109b fail n) (p82 fail n) K0 x0 x1 x2 x3 x4 x5 x6 x7 x8 x9
end
def p41 {ρ:Type} (fail:ρ) (fu:Nat) (K0:Bool→ρ) (x0 x1:Int) (x2:ByteArray) (x3 x4:EL):ρ :=
 p82 fail fu (fun y1=>K0 y1) x0 x1 x2 x3 x4 0 0 ⟨#[]⟩ nilE nilE
def p42_1 {ρ:Type} (fail:ρ) (fu:Nat) (K0:Bool→ρ) (rec1:Int→Int→ρ) (z3 z4:Int) (a0:Bool):ρ :=
 bif a0 then (K0 false) else (rec1 z3 (B8 .add .i64 z4 1))
def p42_2 {ρ:Type} (fail:ρ) (fu:Nat) (K0:Bool→ρ) (rec1:Int→Int→ρ) (a0:EL) (z3 z4:Int):ρ :=
 bif (B0 .lss z4 z3) then (gd (0≤z4) fail (gd (z4 < a0.length) fail (G9 fail (List.getD a0 (z4.toNat) []) (fun c5 c6 c7 c8 c9 c0=>bif (B0 .gtr ((c5.size:Nat):Int) 24) then (p42_1 fail fu K0 rec1 z3 z4 true) else (p40 fail fu (fun d0=>p42_1 fail fu K0 rec1 z3 z4 (!d0)) c6 c7 c8 c9 c0))))) else (K0 true)
def p42_2L {ρ:Type} (fail:ρ) (fu:Nat) (K0:Bool→ρ) (a0:EL):Nat→Int→Int→ρ
 | 0,_,_=>fail
 | n + 1,z3,z4=>p42_2 fail fu K0 (p42_2L fail fu K0 a0 n) a0 z3 z4
def p42_3 {ρ:Type} (fail:ρ) (fu:Nat) (K0:Bool→ρ) (a0:EL) (j2:Bool):ρ :=
 bif j2 then (K0 false) else (p42_2L fail fu K0 a0 fu ((a0.length:Nat):Int) 0)
def p42_4 {ρ:Type} (fail:ρ) (fu:Nat) (K0:Bool→ρ) (x0 x5 x6:Int) (x7:ByteArray) (x8 x9:EL) (c0 d0:Int) (e0:ByteArray) (f0 g0 a0:EL) (j1:Bool):ρ :=
 bif j1 then (K0 false) else (p40 fail fu (fun i0=>bif (!i0) then (p42_3 fail fu K0 a0 true) else (bif (B0 .eql x0 2) then (p40 fail fu (fun j0=>bif (!j0) then (p42_3 fail fu K0 a0 true) else (p42_3 fail fu K0 a0 false)) c0 d0 e0 f0 g0) else (p41 fail fu (fun l0=>p42_3 fail fu K0 a0 (!l0)) c0 d0 e0 f0 g0))) x5 x6 x7 x8 x9)
def p42 {ρ:Type} (fail:ρ) (fu:Nat) (K0:Bool→ρ) (x0 x1 x2:Int) (x3 x4:ByteArray) (x5 x6:Int) (x7:ByteArray) (x8 x9:EL) (c0 d0:Int) (e0:ByteArray) (f0 g0 a0:EL):ρ :=
 bif (B0 .lss x0 1) then (p42_4 fail fu K0 x0 x5 x6 x7 x8 x9 c0 d0 e0 f0 g0 a0 true) else (bif (B0 .gtr x0 5) then (p42_4 fail fu K0 x0 x5 x6 x7 x8 x9 c0 d0 e0 f0 g0 a0 true) else (p39 fail fu (fun i0=>bif (!i0) then (p42_4 fail fu K0 x0 x5 x6 x7 x8 x9 c0 d0 e0 f0 g0 a0 true) else (p39 fail fu (fun j0=>bif (!j0) then (p42_4 fail fu K0 x0 x5 x6 x7 x8 x9 c0 d0 e0 f0 g0 a0 true) else (bif (B0 .gtr ((x3.size:Nat):Int) 24) then (p42_4 fail fu K0 x0 x5 x6 x7 x8 x9 c0 d0 e0 f0 g0 a0 true) else (bif (B0 .gtr ((x4.size:Nat):Int) 24) then (p42_4 fail fu K0 x0 x5 x6 x7 x8 x9 c0 d0 e0 f0 g0 a0 true) else (p42_4 fail fu K0 x0 x5 x6 x7 x8 x9 c0 d0 e0 f0 g0 a0 (B0 .gtr ((a0.length:Nat):Int) 5))))) x2)) x1))
def p43_1 {ρ:Type} (fail:ρ) (fu:Nat) (K0:Bool→ρ) (j1:Bool):ρ :=
 K0 j1
def p43 {ρ:Type} (fail:ρ) (fu:Nat) (K0:Bool→ρ) (x0 x1 x2:Int) (x3 x4:ByteArray) (x5 x6:Int) (x7:ByteArray) (x8 x9:EL) (a0 c0:Int) (d0:ByteArray) (e0 f0 g0:EL):ρ :=
 bif (B0 .eql x0 0) then (bif (B0 .eql x1 0) then (bif (B0 .eql x2 0) then (bif (P3 .eql x4 ⟨#[]⟩) then (p41 fail fu (fun y2=>bif y2 then (p41 fail fu (fun y3=>bif y3 then (p43_1 fail fu K0 (B0 .eql ((g0.length:Nat):Int) 0)) else (p43_1 fail fu K0 false)) a0 c0 d0 e0 f0) else (p43_1 fail fu K0 false)) x5 x6 x7 x8 x9) else (p43_1 fail fu K0 false)) else (p43_1 fail fu K0 false)) else (p43_1 fail fu K0 false)) else (p43_1 fail fu K0 false)
section
variable {ρ:Type} (fail:ρ)
def InS (v:(Int→ρ)→ρ):Prop:=∃ c,v=fun K=>K c
def BiS (v:(Bool→Int→ρ)→ρ):Prop:=∃ b c,v=fun K=>K b c
theorem Lv.args_thin {l:Lv} (h:l.thin):l.args.length≤1000∧∀ x ∈ l.args,x.thin:=by
 cases l with
 | mk k n a=>exact⟨h.1,Lv.thins_iff.1 h.2⟩
theorem Tm.ls_thin {t:Tm} (h:t.thin):t.ls.length≤1000∧∀ x ∈ t.ls,x.thin:=by
 cases t with
 | mk k n nm ls a=>exact⟨h.1.1,Lv.thins_iff.1 h.1.2⟩
theorem Tm.args_thin {t:Tm} (h:t.thin):t.args.length≤1000∧∀ x ∈ t.args,x.thin:=by
 cases t with
 | mk k n nm ls a=>exact⟨h.2.1,Tm.thins_iff.1 h.2.2⟩
theorem k0y (l:List Lv) (i:Nat) (h:i < l.length) (κ:Int→Int→EL→ρ):G4 fail (List.getD (Lv.rows l) (((i:Nat):Int)).toNat []) κ=κ l[i].k l[i].n (Lv.rows l[i].args):=by
 rw [Int.toNat_natCast,Lv.rows_get h,Lv.row_eq];rfl
theorem w6y (l:List Tm) (i:Nat) (h:i < l.length) (κ:Int→Int→ByteArray→EL→EL→ρ):E0 fail (List.getD (Tm.rows l) (((i:Nat):Int)).toNat []) κ=κ l[i].k l[i].n l[i].nm (Lv.rows l[i].ls) (Tm.rows l[i].args):=by
 rw [Int.toNat_natCast,Tm.rows_get h,Tm.row_eq];rfl
theorem k4v (x:Int):Ev n1 (InS (ρ:=ρ)) (fun fu K=>p145 fail fu K x):=by
 unfold p145 p145_2 p145_1
 have h2:∀ b:Bool,Ev n1 (InS (ρ:=ρ)) (fun _ K=>bif b then K 2 else K (-1)):=fun b=>Ev.ite (fun _=>Ev.val _ ⟨_,rfl⟩) (fun _=>Ev.val _ ⟨_,rfl⟩)
 exact Ev.ite (fun _=>Ev.ite (fun _=>Ev.val _ ⟨_,rfl⟩) (fun _=>Ev.ite (fun _=>Ev.val _ ⟨_,rfl⟩) (fun _=>Ev.ite (fun _=>h2 _) (fun _=>h2 _)))) (fun _=>Ev.ite (fun _=>Ev.val _ ⟨_,rfl⟩) (fun _=>Ev.ite (fun _=>Ev.val _ ⟨_,rfl⟩) (fun _=>Ev.ite (fun _=>h2 _) (fun _=>h2 _))))
theorem k5a:∀ (N:Nat) (l:Lv),l.sz≤N→l.thin→∀ x3 x4 x5:Int,Ev n1 (BiS (ρ:=ρ)) (fun fu K=>p135 fail fu K l.k l.n (Lv.rows l.args) x3 x4 x5):=by
 intro N
 induction N with
 | zero=>intro l h;cases l;simp [Lv.sz] at h
 | succ N ih =>
  intro l hN hl x3 x4 x5
  obtain⟨hal,hth⟩:=Lv.args_thin hl
  refine Ev.step (body:=fun n K=>p135_b fail n (p135 fail n) K l.k l.n (Lv.rows l.args) x3 x4 x5) (fun _ _=>rfl) ?_
  have hlen:(Lv.rows l.args).length=l.args.length:=Lv.rows_len _
  have hloop:∀ (r i:Nat),i + r=l.args.length→∀ z4:Int,Ev n2 (BiS (ρ:=ρ)) (fun j K=>p135_1L fail j.1 (p135 fail j.1) K (Lv.rows l.args) x3 x4 j.2 z4 (((Lv.rows l.args).length:Nat):Int) ((i:Nat):Int)):=by
   intro r
   induction r with
   | zero =>
    intro i hi z4
    refine Ev.loop (body:=fun j K=>p135_1 fail j.1 (p135 fail j.1) K (p135_1L fail j.1 (p135 fail j.1) K (Lv.rows l.args) x3 x4 j.2) (Lv.rows l.args) x3 x4 z4 (((Lv.rows l.args).length:Nat):Int) ((i:Nat):Int)) (fun _ _ _=>rfl) ?_
    unfold p135_1
    exact Ev.ite (fun h=>absurd (J5 h) (by omega)) (fun _=>Ev.val _ ⟨_,_,rfl⟩)
   | succ r ihr =>
    intro i hi z4
    have hil:i < l.args.length:=by omega
    have hsz:1 + l.args[i].sz≤Lv.szs l.args:=Lv.szs_mem (List.getElem_mem hil)
    have htz:Lv.szs l.args < l.sz:=by cases l;simp only [Lv.sz,Lv.args];omega
    refine Ev.loop (body:=fun j K=>p135_1 fail j.1 (p135 fail j.1) K (p135_1L fail j.1 (p135 fail j.1) K (Lv.rows l.args) x3 x4 j.2) (Lv.rows l.args) x3 x4 z4 (((Lv.rows l.args).length:Nat):Int) ((i:Nat):Int)) (fun _ _ _=>rfl) ?_
    unfold p135_1
    simp only [k0y fail l.args i hil]
    refine Ev.ite (fun _=>Ev.gd (by omega) (Ev.gd (by omega) ?_)) (fun _=>Ev.val _ ⟨_,_,rfl⟩)
    refine Ev.bind (Ev.fst (ih l.args[i] (by omega) (hth _ (List.getElem_mem hil)) _ _ _)) ?_
    rintro _ ⟨b,c,rfl⟩
    refine Ev.ite (fun _=>Ev.val _ ⟨_,_,rfl⟩) (fun _=>?_)
    rw [L7 (a:=i) (by omega)]
    exact ihr (i + 1) (by omega) _
  have h3:∀ (j:Int) (b:Bool),Ev n1 (BiS (ρ:=ρ)) (fun n K=>p135_3 fail n (p135 fail n) K l.k l.n (Lv.rows l.args) x3 x4 j b):=by
   intro j b
   unfold p135_3 p135_2
   have hl0:Ev n1 (BiS (ρ:=ρ)) (fun n K=>p135_1L fail n (p135 fail n) K (Lv.rows l.args) x3 x4 n j (((Lv.rows l.args).length:Nat):Int) 0):=Ev.diag (hloop _ 0 (Nat.zero_add _) j)
   have h2:∀ b:Bool,Ev n1 (BiS (ρ:=ρ)) (fun n K=>bif b then K false j else p135_1L fail n (p135 fail n) K (Lv.rows l.args) x3 x4 n j (((Lv.rows l.args).length:Nat):Int) 0):=fun b=>Ev.ite (fun _=>Ev.val _ ⟨_,_,rfl⟩) (fun _=>hl0)
   exact Ev.ite (fun _=>Ev.val _ ⟨_,_,rfl⟩) (fun _=>Ev.ite (fun _=>Ev.ite (fun _=>h2 _) (fun _=>Ev.ite (fun _=>h2 _) (fun _=>h2 _))) (fun _=>h2 _))
  unfold p135_b
  refine Ev.ite (fun _=>h3 _ _) (fun _=>Ev.ite (fun _=>h3 _ _) (fun _=>Ev.bind (k4v fail _) ?_))
  rintro _ ⟨c,rfl⟩
  exact h3 _ _
theorem k5h (l:Lv) (hl:l.thin) (x:Int):Ev n1 (BoS (ρ:=ρ)) (fun fu K=>p106 fail fu K l.k l.n (Lv.rows l.args) x):=by
 unfold p106
 refine Ev.bind (k5a fail _ l (Nat.le_refl _) hl _ _ _) ?_
 rintro _ ⟨b,c,rfl⟩
 exact Ev.val _ ⟨_,rfl⟩
theorem k4w (x:Int):Ev n1 (InS (ρ:=ρ)) (fun fu K=>p144 fail fu K x):=by
 unfold p144 p144_4 p144_3 p144_2 p144_1
 have h1:∀ b:Bool,Ev n1 (InS (ρ:=ρ)) (fun _ K=>bif b then K 2 else bif B0 .eql x 6 then K 3 else K (-1)):=fun b=>Ev.ite (fun _=>Ev.val _ ⟨_,rfl⟩) (fun _=>Ev.ite (fun _=>Ev.val _ ⟨_,rfl⟩) (fun _=>Ev.val _ ⟨_,rfl⟩))
 have h3:∀ b:Bool,Ev n1 (InS (ρ:=ρ)) (fun _ K=>bif b then K 0 else bif B0 .eql x 3 then (bif B0 .eql x 3 then K 2 else bif B0 .eql x 6 then K 3 else K (-1)) else bif B0 .eql x 4 then (bif B0 .eql x 4 then K 2 else bif B0 .eql x 6 then K 3 else K (-1)) else (bif B0 .eql x 5 then K 2 else bif B0 .eql x 6 then K 3 else K (-1))) :=
  fun b=>Ev.ite (fun _=>Ev.val _ ⟨_,rfl⟩) (fun _=>Ev.ite (fun _=>h1 _) (fun _=>Ev.ite (fun _=>h1 _) (fun _=>h1 _)))
 exact Ev.ite (fun _=>h3 _) (fun _=>Ev.ite (fun _=>h3 _) (fun _=>h3 _))
theorem k5b (t:Tm):Ev n1 (BoS (ρ:=ρ)) (fun fu K=>p134 fail fu K t.k t.n t.nm (Lv.rows t.ls) (Tm.rows t.args)):=by
 have h2:∀ a b:Bool,Ev n1 (BoS (ρ:=ρ)) (fun fu K=>p134_2 fail fu K t.k (Lv.rows t.ls) a b):=by
  intro a b
  unfold p134_2 p134_1
  exact Ev.ite (fun _=>Ev.val _ ⟨_,rfl⟩) (fun _=>Ev.ite (fun _=>Ev.val _ ⟨_,rfl⟩) (fun _=>Ev.ite (fun _=>Ev.val _ ⟨_,rfl⟩) (fun _=>Ev.val _ ⟨_,rfl⟩)))
 have h6:∀ a b:Bool,Ev n1 (BoS (ρ:=ρ)) (fun fu K=>p134_6 fail fu K t.k t.nm (Lv.rows t.ls) a b):=by
  intro a b
  unfold p134_6 p134_5 p134_4 p134_3
  exact Ev.ite (fun _=>h2 _ _) (fun _=>Ev.ite (fun _=>h2 _ _) (fun _=>h2 _ _))
 have h7:∀ a b c:Bool,Ev n1 (BoS (ρ:=ρ)) (fun fu K=>p134_7 fail fu K t.k t.n t.nm (Lv.rows t.ls) a b c):=by
  intro a b c
  unfold p134_7 p134_3
  exact Ev.ite (fun _=>h2 _ _) (fun _=>Ev.ite (fun _=>h6 _ _) (fun _=>h6 _ _))
 unfold p134
 refine Ev.bind (k4w fail _) ?_
 rintro _ ⟨c,rfl⟩
 exact Ev.ite (fun _=>h2 _ _) (fun _=>Ev.ite (fun _=>Ev.ite (fun _=>h7 _ _ _) (fun _=>h7 _ _ _)) (fun _=>h7 _ _ _))
theorem k5i:∀ (N:Nat) (t:Tm),t.sz≤N→t.thin→∀ x5 x6:Int,Ev n1 (BiS (ρ:=ρ)) (fun fu K=>p105 fail fu K t.k t.n t.nm (Lv.rows t.ls) (Tm.rows t.args) x5 x6):=by
 intro N
 induction N with
 | zero=>intro t h;cases t;simp [Tm.sz] at h
 | succ N ih =>
  intro t hN ht x5 x6
  obtain⟨hal,hth⟩:=Tm.args_thin ht
  refine Ev.step (body:=fun n K=>p105_b fail n (p105 fail n) K t.k t.n t.nm (Lv.rows t.ls) (Tm.rows t.args) x5 x6) (fun _ _=>rfl) ?_
  have hlen:(Tm.rows t.args).length=t.args.length:=Tm.rows_len _
  have hloop:∀ (r i:Nat),i + r=t.args.length→∀ z4:Int,Ev n2 (BiS (ρ:=ρ)) (fun j K=>p105_1L fail j.1 (p105 fail j.1) K (Tm.rows t.args) x6 j.2 z4 (((Tm.rows t.args).length:Nat):Int) ((i:Nat):Int)):=by
   intro r
   induction r with
   | zero =>
    intro i hi z4
    refine Ev.loop (body:=fun j K=>p105_1 fail j.1 (p105 fail j.1) K (p105_1L fail j.1 (p105 fail j.1) K (Tm.rows t.args) x6 j.2) (Tm.rows t.args) x6 z4 (((Tm.rows t.args).length:Nat):Int) ((i:Nat):Int)) (fun _ _ _=>rfl) ?_
    unfold p105_1
    exact Ev.ite (fun h=>absurd (J5 h) (by omega)) (fun _=>Ev.val _ ⟨_,_,rfl⟩)
   | succ r ihr =>
    intro i hi z4
    have hil:i < t.args.length:=by omega
    have hsz:1 + t.args[i].sz≤Tm.szs t.args:=Tm.szs_mem (List.getElem_mem hil)
    have htz:Tm.szs t.args < t.sz:=by cases t;simp only [Tm.sz,Tm.args];omega
    refine Ev.loop (body:=fun j K=>p105_1 fail j.1 (p105 fail j.1) K (p105_1L fail j.1 (p105 fail j.1) K (Tm.rows t.args) x6 j.2) (Tm.rows t.args) x6 z4 (((Tm.rows t.args).length:Nat):Int) ((i:Nat):Int)) (fun _ _ _=>rfl) ?_
    unfold p105_1
    simp only [w6y fail t.args i hil]
    refine Ev.ite (fun _=>Ev.gd (by omega) (Ev.gd (by omega) ?_)) (fun _=>Ev.val _ ⟨_,_,rfl⟩)
    refine Ev.bind (Ev.fst (ih t.args[i] (by omega) (hth _ (List.getElem_mem hil)) _ _)) ?_
    rintro _ ⟨b,c,rfl⟩
    refine Ev.ite (fun _=>Ev.val _ ⟨_,_,rfl⟩) (fun _=>Ev.ite (fun _=>Ev.val _ ⟨_,_,rfl⟩) (fun _=>?_))
    rw [L7 (a:=i) (by omega)]
    exact ihr (i + 1) (by omega) _
  unfold p105_b
  refine Ev.ite (fun _=>Ev.val _ ⟨_,_,rfl⟩) (fun _=>Ev.bind (k5b fail t) ?_)
  rintro _ ⟨b,rfl⟩
  exact Ev.ite (fun _=>Ev.val _ ⟨_,_,rfl⟩) (fun _=>Ev.diag (hloop _ 0 (Nat.zero_add _) _))
theorem ev80:∀ (N:Nat) (t:Tm),t.sz≤N→t.thin→∀ x5:Int,Ev n1 (InS (ρ:=ρ)) (fun fu K=>p80 fail fu K t.k t.n t.nm (Lv.rows t.ls) (Tm.rows t.args) x5):=by
 intro N
 induction N with
 | zero=>intro t h;cases t;simp [Tm.sz] at h
 | succ N ih =>
  intro t hN ht x5
  obtain⟨hal,hth⟩:=Tm.args_thin ht
  refine Ev.step (body:=fun n K=>p80_b fail n (p80 fail n) K t.k t.n t.nm (Lv.rows t.ls) (Tm.rows t.args) x5) (fun _ _=>rfl) ?_
  have hlen:(Tm.rows t.args).length=t.args.length:=Tm.rows_len _
  have hloop:∀ (r i:Nat),i + r=t.args.length→∀ z1 z2:Int,Ev n2 (InS (ρ:=ρ)) (fun j K=>p80_1L fail j.1 (p80 fail j.1) K (Tm.rows t.args) j.2 z1 z2 (((Tm.rows t.args).length:Nat):Int) ((i:Nat):Int)):=by
   intro r
   induction r with
   | zero =>
    intro i hi z1 z2
    refine Ev.loop (body:=fun j K=>p80_1 fail j.1 (p80 fail j.1) K (p80_1L fail j.1 (p80 fail j.1) K (Tm.rows t.args) j.2) (Tm.rows t.args) z1 z2 (((Tm.rows t.args).length:Nat):Int) ((i:Nat):Int)) (fun _ _ _=>rfl) ?_
    unfold p80_1
    exact Ev.ite (fun h=>absurd (J5 h) (by omega)) (fun _=>Ev.val _ ⟨_,rfl⟩)
   | succ r ihr =>
    intro i hi z1 z2
    have hil:i < t.args.length:=by omega
    have hsz:1 + t.args[i].sz≤Tm.szs t.args:=Tm.szs_mem (List.getElem_mem hil)
    have htz:Tm.szs t.args < t.sz:=by cases t;simp only [Tm.sz,Tm.args];omega
    refine Ev.loop (body:=fun j K=>p80_1 fail j.1 (p80 fail j.1) K (p80_1L fail j.1 (p80 fail j.1) K (Tm.rows t.args) j.2) (Tm.rows t.args) z1 z2 (((Tm.rows t.args).length:Nat):Int) ((i:Nat):Int)) (fun _ _ _=>rfl) ?_
    unfold p80_1
    simp only [w6y fail t.args i hil]
    refine Ev.ite (fun _=>Ev.gd (by omega) (Ev.gd (by omega) ?_)) (fun _=>Ev.val _ ⟨_,rfl⟩)
    refine Ev.bind (Ev.fst (ih t.args[i] (by omega) (hth _ (List.getElem_mem hil)) _)) ?_
    rintro _ ⟨c,rfl⟩
    refine Ev.ite (fun _=>Ev.val _ ⟨_,rfl⟩) (fun _=>?_)
    rw [L7 (a:=i) (by omega)]
    exact ihr (i + 1) (by omega) _ _
  unfold p80_b
  exact Ev.ite (fun _=>Ev.val _ ⟨_,rfl⟩) (fun _=>Ev.diag (hloop _ 0 (Nat.zero_add _) _ _))
theorem ev81:∀ (N:Nat) (t:Tm),t.sz≤N→t.thin→Ev n1 (BoS (ρ:=ρ)) (fun fu K=>p81 fail fu K t.k t.n t.nm (Lv.rows t.ls) (Tm.rows t.args)):=by
 intro N
 induction N with
 | zero=>intro t h;cases t;simp [Tm.sz] at h
 | succ N ih =>
  intro t hN ht
  obtain⟨hal,hth⟩:=Tm.args_thin ht
  obtain⟨hll,hlt⟩:=Tm.ls_thin ht
  refine Ev.step (body:=fun n K=>p81_b fail n (p81 fail n) K t.k t.n t.nm (Lv.rows t.ls) (Tm.rows t.args)) (fun _ _=>rfl) ?_
  have hlen:(Tm.rows t.args).length=t.args.length:=Tm.rows_len _
  have hlen2:(Lv.rows t.ls).length=t.ls.length:=Lv.rows_len _
  have hloop:∀ (r i:Nat),i + r=t.args.length→Ev n2 (BoS (ρ:=ρ)) (fun j K=>p81_1L fail j.1 (p81 fail j.1) K (Tm.rows t.args) j.2 (((Tm.rows t.args).length:Nat):Int) ((i:Nat):Int)):=by
   intro r
   induction r with
   | zero =>
    intro i hi
    refine Ev.loop (body:=fun j K=>p81_1 fail j.1 (p81 fail j.1) K (p81_1L fail j.1 (p81 fail j.1) K (Tm.rows t.args) j.2) (Tm.rows t.args) (((Tm.rows t.args).length:Nat):Int) ((i:Nat):Int)) (fun _ _ _=>rfl) ?_
    unfold p81_1
    exact Ev.ite (fun h=>absurd (J5 h) (by omega)) (fun _=>Ev.val _ ⟨_,rfl⟩)
   | succ r ihr =>
    intro i hi
    have hil:i < t.args.length:=by omega
    have hsz:1 + t.args[i].sz≤Tm.szs t.args:=Tm.szs_mem (List.getElem_mem hil)
    have htz:Tm.szs t.args < t.sz:=by cases t;simp only [Tm.sz,Tm.args];omega
    refine Ev.loop (body:=fun j K=>p81_1 fail j.1 (p81 fail j.1) K (p81_1L fail j.1 (p81 fail j.1) K (Tm.rows t.args) j.2) (Tm.rows t.args) (((Tm.rows t.args).length:Nat):Int) ((i:Nat):Int)) (fun _ _ _=>rfl) ?_
    unfold p81_1
    simp only [w6y fail t.args i hil]
    refine Ev.ite (fun _=>Ev.gd (by omega) (Ev.gd (by omega) ?_)) (fun _=>Ev.val _ ⟨_,rfl⟩)
    refine Ev.bind (Ev.fst (ih t.args[i] (by omega) (hth _ (List.getElem_mem hil)))) ?_
    rintro _ ⟨c,rfl⟩
    refine Ev.ite (fun _=>Ev.val _ ⟨_,rfl⟩) (fun _=>?_)
    rw [L7 (a:=i) (by omega)]
    exact ihr (i + 1) (by omega)
  have hloop2:∀ (r i:Nat),i + r=t.ls.length→Ev n2 (BoS (ρ:=ρ)) (fun j K=>p81_2L fail j.1 (p81 fail j.1) K (Lv.rows t.ls) (Tm.rows t.args) j.2 (((Lv.rows t.ls).length:Nat):Int) ((i:Nat):Int)):=by
   intro r
   induction r with
   | zero =>
    intro i hi
    refine Ev.loop (body:=fun j K=>p81_2 fail j.1 (p81 fail j.1) K (p81_2L fail j.1 (p81 fail j.1) K (Lv.rows t.ls) (Tm.rows t.args) j.2) (Lv.rows t.ls) (Tm.rows t.args) (((Lv.rows t.ls).length:Nat):Int) ((i:Nat):Int)) (fun _ _ _=>rfl) ?_
    unfold p81_2
    exact Ev.ite (fun h=>absurd (J5 h) (by omega)) (fun _=>Ev.fst (Ev.diag (hloop _ 0 (Nat.zero_add _))))
   | succ r ihr =>
    intro i hi
    have hil:i < t.ls.length:=by omega
    refine Ev.loop (body:=fun j K=>p81_2 fail j.1 (p81 fail j.1) K (p81_2L fail j.1 (p81 fail j.1) K (Lv.rows t.ls) (Tm.rows t.args) j.2) (Lv.rows t.ls) (Tm.rows t.args) (((Lv.rows t.ls).length:Nat):Int) ((i:Nat):Int)) (fun _ _ _=>rfl) ?_
    unfold p81_2
    simp only [k0y fail t.ls i hil]
    refine Ev.ite (fun _=>Ev.gd (by omega) (Ev.gd (by omega) ?_)) (fun _=>Ev.fst (Ev.diag (hloop _ 0 (Nat.zero_add _))))
    refine Ev.bind (Ev.fst (k5h fail t.ls[i] (hlt _ (List.getElem_mem hil)) _)) ?_
    rintro _ ⟨c,rfl⟩
    refine Ev.ite (fun _=>Ev.val _ ⟨_,rfl⟩) (fun _=>?_)
    rw [L7 (a:=i) (by omega)]
    exact ihr (i + 1) (by omega)
  have h3:∀ b:Bool,Ev n1 (BoS (ρ:=ρ)) (fun n K=>p81_3 fail n (p81 fail n) K (Lv.rows t.ls) (Tm.rows t.args) b):=by
   intro b
   unfold p81_3
   exact Ev.ite (fun _=>Ev.val _ ⟨_,rfl⟩) (fun _=>Ev.diag (hloop2 _ 0 (Nat.zero_add _)))
  unfold p81_b
  exact Ev.ite (fun _=>h3 _) (fun _=>h3 _)
theorem w8i (t:Tm) (ht:t.thin):Ev n1 (BoS (ρ:=ρ)) (fun fu K=>p40 fail fu K t.k t.n t.nm (Lv.rows t.ls) (Tm.rows t.args)):=by
 unfold p40 p40_1 p79
 refine Ev.bind (k5i fail _ t (Nat.le_refl _) ht _ _) ?_
 rintro _ ⟨b,c,rfl⟩
 refine Ev.ite (fun _=>Ev.ite (fun _=>?_) (fun _=>Ev.val _ ⟨_,rfl⟩)) (fun _=>Ev.val _ ⟨_,rfl⟩)
 refine Ev.bind (ev80 fail _ t (Nat.le_refl _) ht _) ?_
 rintro _ ⟨d,rfl⟩
 exact Ev.ite (fun _=>ev81 fail _ t (Nat.le_refl _) ht) (fun _=>Ev.val _ ⟨_,rfl⟩)
theorem k5g (l:List Lv):Ev n1 (BoS (ρ:=ρ)) (fun fu K=>p107 fail fu K (Lv.rows l) nilE):=by
 refine Ev.step (body:=fun n K=>p107_b fail n (p108b fail n) (p107 fail n) K (Lv.rows l) nilE) (fun _ _=>rfl) ?_
 unfold p107_b
 refine Ev.ite (fun _=>Ev.val _ ⟨_,rfl⟩) (fun h=>?_)
 have h0:(((Lv.rows l).length:Nat):Int)=0:=z2v h
 rw [h0]
 refine Ev.step (f:=fun n K=>p107_1L fail n (p108b fail n) (p107 fail n) K (Lv.rows l) nilE n 0 0) (body:=fun n K=>p107_1 fail (n + 1) (p108b fail (n + 1)) (p107 fail (n + 1)) K (p107_1L fail (n + 1) (p108b fail (n + 1)) (p107 fail (n + 1)) K (Lv.rows l) nilE n) (Lv.rows l) nilE 0 0) (fun _ _=>rfl) ?_
 unfold p107_1
 exact Ev.ite (fun h=>absurd (J5 h) (by omega)) (fun _=>Ev.val _ ⟨_,rfl⟩)
theorem k5f (l:List Tm):Ev n1 (BoS (ρ:=ρ)) (fun fu K=>p109b fail fu K (Tm.rows l) nilE):=by
 refine Ev.step (body:=fun n K=>p109b_b fail n (p109b fail n) (p82 fail n) K (Tm.rows l) nilE) (fun _ _=>rfl) ?_
 unfold p109b_b
 refine Ev.ite (fun _=>Ev.val _ ⟨_,rfl⟩) (fun h=>?_)
 have h0:(((Tm.rows l).length:Nat):Int)=0:=z2v h
 rw [h0]
 refine Ev.step (f:=fun n K=>p109b_1L fail n (p109b fail n) (p82 fail n) K (Tm.rows l) nilE n 0 0) (body:=fun n K=>p109b_1 fail (n + 1) (p109b fail (n + 1)) (p82 fail (n + 1)) K (p109b_1L fail (n + 1) (p109b fail (n + 1)) (p82 fail (n + 1)) K (Tm.rows l) nilE n) (Tm.rows l) nilE 0 0) (fun _ _=>rfl) ?_
 unfold p109b_1
 exact Ev.ite (fun h=>absurd (J5 h) (by omega)) (fun _=>Ev.val _ ⟨_,rfl⟩)
theorem w8h (t:Tm):Ev n1 (BoS (ρ:=ρ)) (fun fu K=>p41 fail fu K t.k t.n t.nm (Lv.rows t.ls) (Tm.rows t.args)):=by
 unfold p41
 refine Ev.step (f:=fun n (K:Bool→ρ)=>p82 fail n (fun y1=>K y1) t.k t.n t.nm (Lv.rows t.ls) (Tm.rows t.args) 0 0 ⟨#[]⟩ nilE nilE) (body:=fun n (K:Bool→ρ)=>p82_b fail n (p109b fail n) (p82 fail n) (fun y1=>K y1) t.k t.n t.nm (Lv.rows t.ls) (Tm.rows t.args) 0 0 ⟨#[]⟩ nilE nilE) (fun _ _=>rfl) ?_
 unfold p82_b p82_1
 refine Ev.ite (fun _=>Ev.ite (fun _=>Ev.ite (fun _=>Ev.bind (k5g fail _) ?_) (fun _=>Ev.val _ ⟨_,rfl⟩)) (fun _=>Ev.val _ ⟨_,rfl⟩)) (fun _=>Ev.val _ ⟨_,rfl⟩)
 rintro _ ⟨b,rfl⟩
 refine Ev.ite (fun _=>k5f fail _) (fun _=>Ev.val _ ⟨_,rfl⟩)
theorem w8j (x:Int):Ev n1 (BoS (ρ:=ρ)) (fun fu K=>p39 fail fu K x):=by
 unfold p39 p39_1
 exact Ev.ite (fun _=>Ev.val _ ⟨_,rfl⟩) (fun _=>Ev.val _ ⟨_,rfl⟩)
theorem k3d (cs:List (ByteArray × Tm)) (hl:cs.length≤1000) (hc:∀ c ∈ cs,c.2.thin):∀ (r i:Nat),i + r=cs.length→Ev n2 (BoS (ρ:=ρ)) (fun j K=>p42_2L fail j.1 K (cs.map E1) j.2 (((cs.map E1).length:Nat):Int) ((i:Nat):Int)):=by
 have hlen:(cs.map E1).length=cs.length:=List.length_map _
 intro r
 induction r with
 | zero =>
  intro i hi
  refine Ev.loop (body:=fun j K=>p42_2 fail j.1 K (p42_2L fail j.1 K (cs.map E1) j.2) (cs.map E1) (((cs.map E1).length:Nat):Int) ((i:Nat):Int)) (fun _ _ _=>rfl) ?_
  unfold p42_2
  exact Ev.ite (fun h=>absurd (J5 h) (by omega)) (fun _=>Ev.val _ ⟨_,rfl⟩)
 | succ r ihr =>
  intro i hi
  have hil:i < cs.length:=by omega
  have e:∀ κ:ByteArray→Int→Int→ByteArray→EL→EL→ρ,G9 fail (List.getD (cs.map E1) (((i:Nat):Int)).toNat []) κ=κ cs[i].1 cs[i].2.k cs[i].2.n cs[i].2.nm (Lv.rows cs[i].2.ls) (Tm.rows cs[i].2.args):=fun κ=>by
   rw [Int.toNat_natCast,M3 E1 [] cs _ hil];rfl
  refine Ev.loop (body:=fun j K=>p42_2 fail j.1 K (p42_2L fail j.1 K (cs.map E1) j.2) (cs.map E1) (((cs.map E1).length:Nat):Int) ((i:Nat):Int)) (fun _ _ _=>rfl) ?_
  have h1:∀ b:Bool,Ev n2 (BoS (ρ:=ρ)) (fun j K=>p42_1 fail j.1 K (p42_2L fail j.1 K (cs.map E1) j.2) (((cs.map E1).length:Nat):Int) ((i:Nat):Int) b):=by
   intro b
   unfold p42_1
   refine Ev.ite (fun _=>Ev.val _ ⟨_,rfl⟩) (fun _=>?_)
   rw [L7 (a:=i) (by omega)]
   exact ihr (i + 1) (by omega)
  unfold p42_2
  simp only [e]
  refine Ev.ite (fun _=>Ev.gd (by omega) (Ev.gd (by omega) (Ev.ite (fun _=>h1 _) (fun _=>Ev.bind (Ev.fst (w8i fail cs[i].2 (hc _ (List.getElem_mem hil)))) ?_)))) (fun _=>Ev.val _ ⟨_,rfl⟩)
  rintro _ ⟨b,rfl⟩
  exact h1 _
theorem ev42 (d:Dc) (hd:d.ok):Ev n1 (BoS (ρ:=ρ)) (fun fu K=>p42 fail fu K d.k d.pa d.ct d.nm d.fam d.ty.k d.ty.n d.ty.nm (Lv.rows d.ty.ls) (Tm.rows d.ty.args) d.val.k d.val.n d.val.nm (Lv.rows d.val.ls) (Tm.rows d.val.args) (d.cs.map E1)):=by
 have h3:∀ b:Bool,Ev n1 (BoS (ρ:=ρ)) (fun fu K=>p42_3 fail fu K (d.cs.map E1) b):=by
  intro b
  unfold p42_3
  exact Ev.ite (fun _=>Ev.val _ ⟨_,rfl⟩) (fun _=>Ev.diag (k3d fail d.cs (by have:=hd.cl;omega) hd.cs _ 0 (Nat.zero_add _)))
 have h4:∀ b:Bool,Ev n1 (BoS (ρ:=ρ)) (fun fu K=>p42_4 fail fu K d.k d.ty.k d.ty.n d.ty.nm (Lv.rows d.ty.ls) (Tm.rows d.ty.args) d.val.k d.val.n d.val.nm (Lv.rows d.val.ls) (Tm.rows d.val.args) (d.cs.map E1) b):=by
  intro b
  unfold p42_4
  refine Ev.ite (fun _=>Ev.val _ ⟨_,rfl⟩) (fun _=>Ev.bind (w8i fail d.ty hd.ty) ?_)
  rintro _ ⟨b,rfl⟩
  refine Ev.ite (fun _=>h3 _) (fun _=>Ev.ite (fun _=>Ev.bind (w8i fail d.val hd.val) ?_) (fun _=>Ev.bind (w8h fail d.val) ?_))
  ·rintro _ ⟨b,rfl⟩
   exact Ev.ite (fun _=>h3 _) (fun _=>h3 _)
  ·rintro _ ⟨b,rfl⟩
   exact h3 _
 unfold p42
 refine Ev.ite (fun _=>h4 _) (fun _=>Ev.ite (fun _=>h4 _) (fun _=>Ev.bind (w8j fail _) ?_))
 rintro _ ⟨b,rfl⟩
 refine Ev.ite (fun _=>h4 _) (fun _=>Ev.bind (w8j fail _) ?_)
 rintro _ ⟨b,rfl⟩
 exact Ev.ite (fun _=>h4 _) (fun _=>Ev.ite (fun _=>h4 _) (fun _=>Ev.ite (fun _=>h4 _) (fun _=>h4 _)))
theorem k4t (d:Dc):Ev n1 (fun v:(Bool→ρ)→ρ=>∃ b,(d.k≠0→b=false)∧v=fun K=>K b) (fun fu K=>p43 fail fu K d.k d.pa d.ct d.nm d.fam d.ty.k d.ty.n d.ty.nm (Lv.rows d.ty.ls) (Tm.rows d.ty.args) d.val.k d.val.n d.val.nm (Lv.rows d.val.ls) (Tm.rows d.val.args) (d.cs.map E1)):=by
 have fl:Ev n1 (fun v:(Bool→ρ)→ρ=>∃ b,(d.k≠0→b=false)∧v=fun K=>K b) (fun _ K=>K false):=Ev.val _ ⟨_,fun _=>rfl,rfl⟩
 unfold p43 p43_1
 refine Ev.ite (fun h=>?_) (fun _=>fl)
 have h0:d.k=0:=by simpa [B0] using h
 refine Ev.ite (fun _=>Ev.ite (fun _=>Ev.ite (fun _=>Ev.bind (w8h fail d.ty) ?_) (fun _=>fl)) (fun _=>fl)) (fun _=>fl)
 rintro _ ⟨b,rfl⟩
 refine Ev.ite (fun _=>Ev.bind (w8h fail d.val) ?_) (fun _=>fl)
 rintro _ ⟨b,rfl⟩
 exact Ev.ite (fun _=>Ev.val _ ⟨_,fun h=>absurd h0 h,rfl⟩) (fun _=>fl)
end
section
variable {ρ:Type} (fail:ρ) (fu:Nat)
def q6 (K0:DK ρ) (y1 y4 y7:Int) (s13 s17:ByteArray) (B:EL) (e:Int):ρ:=bif (B0 .eql e 0) then (p54 fail fu (fun y77 y78 y79 y80 y81 y82 y83=>p53_8 fail fu K0 y1 y4 y7 s13 s17 y82 y83 y77 y78 y79 y80 y81) B e) else (p53_8 fail fu K0 y1 y4 y7 s13 s17 B e 0 0 ⟨#[]⟩ nilE nilE)
def q5 (K0:DK ρ) (y1 y4 y7:Int) (s13:ByteArray) (B:EL) (e:Int):ρ:=p55 fail fu (fun y14 y15 y16=>z6z fail y14 (fun s17=>q6 fail fu K0 y1 y4 y7 s13 s17 y15 y16)) B e 24
def q4 (K0:DK ρ) (y1 y4 y7:Int) (B:EL) (e:Int):ρ:=p55 fail fu (fun y10 y11 y12=>z6z fail y10 (fun s13=>q5 fail fu K0 y1 y4 y7 s13 y11 y12)) B e 24
def q3 (K0:DK ρ) (y1 y4:Int) (B:EL) (e:Int):ρ:=p51 fail fu (fun y7 y8 y9=>q4 fail fu K0 y1 y4 y7 y8 y9) B e
def q2 (K0:DK ρ) (y1:Int) (B:EL) (e:Int):ρ:=p51 fail fu (fun y4 y5 y6=>q3 fail fu K0 y1 y4 y5 y6) B e
variable (hfu:200≤fu)
include hfu
section
variable (K:DK ρ) (B:EL) (e:Int) (he:e≠0)
include he
end
variable (k:Nat) (hk:k≤5) (bs:List UInt8) (hb:bs.length≤1099511627776)
include hk hb
end
def p115_1 {ρ:Type} (fail:ρ) (fu:Nat) (K0:Int→Int→ρ) (rec1:Int→EL→Int→Int→ρ) (z1:Int) (z2:EL) (z3 z4:Int):ρ :=
 bif (B0 .lss z4 z3) then (gd (0≤z4) fail (gd (z4 < z2.length) fail (z7q fail (List.getD z2 (z4.toNat) []) (fun c5=>gd ((0:Int)≤8) fail (rec1 (B8 .or .u64 (B8 .shl .u64 z1 8) (IntKind.u64.wrap c5)) z2 z3 (B8 .add .i64 z4 1)))))) else (K0 z1 0)
def p115_1L {ρ:Type} (fail:ρ) (fu:Nat) (K0:Int→Int→ρ):Nat→Int→EL→Int→Int→ρ
 | 0,_,_,_,_=>fail
 | n + 1,z1,z2,z3,z4=>p115_1 fail fu K0 (p115_1L fail fu K0 n) z1 z2 z3 z4
def p115 {ρ:Type} (fail:ρ) (fu:Nat) (K0:Int→Int→ρ) (x0:EL):ρ :=
 bif (B0 .lss ((x0.length:Nat):Int) 8) then (K0 0 2) else (gd ((0:Int)≤0) fail (gd ((0:Int)≤8) fail (gd ((8:Int)≤x0.length) fail (p115_1L fail fu K0 fu 0 (List.drop ((0:Int).toNat) (List.take ((8:Int).toNat) x0)) (((List.drop ((0:Int).toNat) (List.take ((8:Int).toNat) x0)).length:Nat):Int) 0))))
def p85 {ρ:Type} (fail:ρ) (fu:Nat) (K0:Int→EL→Int→ρ) (x0:EL) (x1:Int):ρ :=
 bif (B0 .neq x1 0) then (K0 0 x0 x1) else (p115 fail fu (fun y1 y2=>p50 fail fu (fun y3 y4=>bif (B0 .neq y2 0) then (K0 0 y3 y4) else (gd ((0:Int)≤8) fail (gd ((8:Int)≤y3.length) fail (gd (((y3.length:Nat):Int)≤y3.length) fail (K0 y1 (List.drop ((8:Int).toNat) (List.take (((y3.length:Nat):Int).toNat) y3)) y4))))) x0 x1 y2) x0)
def fqQ (k:Nat):Bool:=k == 1
def fqH (k:Nat):Bool:=k == 2 || (8≤k && k≤15)
def fqO (k:Nat):Bool:=k == 8
def fqD (k:Nat):Bool:=3≤k && k≤5
def fqP (k:Nat):Bool:=k == 6 || k == 7 || k == 16 || k == 17
def fqT (k:Nat):Bool:=k == 6 || k == 7 || k == 9 || k == 16 || k == 17
def fqY (k:Nat):Bool:=k == 7 || k == 10 || k == 16
def fqN (k:Nat):Bool:=k == 15
def p31_1 {ρ:Type} (fail:ρ) (fu:Nat) (K0:z7h ρ) (x0:Int) (j4:Bool):ρ :=
 bif j4 then (K0 false false false false true true true false true) else (bif (B0 .eql x0 8) then (K0 false true true false false false false false true) else (bif (B0 .eql x0 9) then (K0 false true false false false true false false true) else (bif (B0 .eql x0 10) then (K0 false true false false false false true false true) else (bif (B0 .eql x0 15) then (K0 false true false false false false false true true) else (bif (B0 .eql x0 18) then (K0 false false false false false false false false true) else (K0 false false false false false false false false false))))))
def p31_2 {ρ:Type} (fail:ρ) (fu:Nat) (K0:z7h ρ) (x0:Int) (j3:Bool):ρ :=
 bif j3 then (K0 false false false false true true false false true) else (bif (B0 .eql x0 7) then (p31_1 fail fu K0 x0 (B0 .eql x0 7)) else (p31_1 fail fu K0 x0 (B0 .eql x0 16)))
def p31_3 {ρ:Type} (fail:ρ) (fu:Nat) (K0:z7h ρ) (x0:Int) (j2:Bool):ρ :=
 bif j2 then (K0 false false false true false false false false true) else (bif (B0 .eql x0 6) then (p31_2 fail fu K0 x0 (B0 .eql x0 6)) else (p31_2 fail fu K0 x0 (B0 .eql x0 17)))
def p31_4 {ρ:Type} (fail:ρ) (fu:Nat) (K0:z7h ρ) (x0:Int) (j5:Bool):ρ :=
 p31_3 fail fu K0 x0 j5
def p31_5 {ρ:Type} (fail:ρ) (fu:Nat) (K0:z7h ρ) (x0:Int) (j1:Bool):ρ :=
 bif j1 then (K0 false true false false false false false false true) else (bif (B0 .eql x0 3) then (p31_3 fail fu K0 x0 (B0 .eql x0 3)) else (bif (B0 .eql x0 4) then (p31_4 fail fu K0 x0 (B0 .eql x0 4)) else (p31_4 fail fu K0 x0 (B0 .eql x0 5))))
def p31_6 {ρ:Type} (fail:ρ) (fu:Nat) (K0:z7h ρ) (x0:Int) (j6:Bool):ρ :=
 p31_5 fail fu K0 x0 j6
def p31_7 {ρ:Type} (fail:ρ) (fu:Nat) (K0:z7h ρ) (x0:Int) (j7:Bool):ρ :=
 p31_6 fail fu K0 x0 j7
def p31_8 {ρ:Type} (fail:ρ) (fu:Nat) (K0:z7h ρ) (x0:Int) (j8:Bool):ρ :=
 p31_7 fail fu K0 x0 j8
def p31 {ρ:Type} (fail:ρ) (fu:Nat) (K0:z7h ρ) (x0:Int):ρ :=
 bif (B0 .eql x0 1) then (K0 true false false false false false false false true) else (bif (B0 .eql x0 2) then (p31_5 fail fu K0 x0 (B0 .eql x0 2)) else (bif (B0 .eql x0 11) then (p31_6 fail fu K0 x0 (B0 .eql x0 11)) else (bif (B0 .eql x0 12) then (p31_7 fail fu K0 x0 (B0 .eql x0 12)) else (bif (B0 .eql x0 13) then (p31_8 fail fu K0 x0 (B0 .eql x0 13)) else (p31_8 fail fu K0 x0 (B0 .eql x0 14))))))
def p52 {ρ:Type} (fail:ρ) (fu:Nat) (K0:k5r ρ) (x0:EL) (x1:Int):ρ :=
 p85 fail fu (fun y1 y2 y3=>p85 fail fu (fun y4 y5 y6=>K0 y1 y4 y5 y6) y2 y3) x0 x1
def p17_1 {ρ:Type} (fail:ρ) (fu:Nat) (K0:z2l ρ) (y1 c0 d0 e0 f0 g0 i0 j0 l0 m0:Int) (n0:ByteArray) (o0 q0:Int) (r0:ByteArray) (s0 t0:EL) (v0 w0:Int) (x0:ByteArray) (y0 z0 a1:EL) (c1 d1 e1:Int) (f1:ByteArray) (g1 i1:EL) (j1 l1:Int) (m1:ByteArray) (o1 q1:EL) (r1:ByteArray) (s1:EL) (a0:Int):ρ :=
 bif (B0 .neq a0 0) then (K0 0 0 0 0 0 0 0 0 0 0 0 ⟨#[]⟩ ⟨#[]⟩ 0 0 ⟨#[]⟩ nilE nilE 0 0 ⟨#[]⟩ nilE nilE nilE 0 0 ⟨#[]⟩ nilE nilE 0 0 ⟨#[]⟩ nilE nilE a0) else (K0 y1 c1 c0 d0 e0 f0 g0 i0 j0 l0 m0 r1 n0 o0 q0 r0 s0 t0 v0 w0 x0 y0 z0 a1 d1 e1 f1 g1 i1 j1 l1 m1 o1 q1 0)
def p17_2 {ρ:Type} (fail:ρ) (fu:Nat) (K0:z2l ρ) (y1 c0 d0 e0 f0 g0 i0 j0 l0 m0:Int) (n0:ByteArray) (o0 q0:Int) (r0:ByteArray) (s0 t0:EL) (v0 w0:Int) (x0:ByteArray) (y0 z0 a1:EL) (c1 d1 e1:Int) (f1:ByteArray) (g1 i1:EL) (j1 l1:Int) (m1:ByteArray) (o1 q1 a0:EL) (r1:Int) (s1:ByteArray):ρ :=
 bif (B0 .gtr ((a0.length:Nat):Int) 0) then (p50 fail fu (fun t1 v1=>p17_1 fail fu K0 y1 c0 d0 e0 f0 g0 i0 j0 l0 m0 n0 o0 q0 r0 s0 t0 v0 w0 x0 y0 z0 a1 c1 d1 e1 f1 g1 i1 j1 l1 m1 o1 q1 s1 t1 v1) a0 r1 5) else (p17_1 fail fu K0 y1 c0 d0 e0 f0 g0 i0 j0 l0 m0 n0 o0 q0 r0 s0 t0 v0 w0 x0 y0 z0 a1 c1 d1 e1 f1 g1 i1 j1 l1 m1 o1 q1 s1 a0 r1)
def p17_3 {ρ:Type} (fail:ρ) (fu:Nat) (K0:z2l ρ) (y1:Int) (s1:Bool) (a0 c0 d0 e0 f0 g0 i0 j0 l0:Int) (t1 m0:ByteArray) (n0 o0:Int) (q0:ByteArray) (r0 s0:EL) (t0 v0:Int) (w0:ByteArray) (x0 y0 z0:EL) (a1 c1 d1:Int) (e1:ByteArray) (f1 g1 i1:EL) (j1 l1 m1:Int) (o1:ByteArray) (q1 r1:EL):ρ :=
 bif s1 then (p55 fail fu (fun v1 w1 x1=>z6z fail v1 (fun z1=>p17_2 fail fu K0 y1 a0 c0 d0 e0 f0 g0 i0 j0 l0 m0 n0 o0 q0 r0 s0 t0 v0 w0 x0 y0 z0 a1 c1 d1 e1 f1 g1 l1 m1 o1 q1 r1 w1 x1 z1)) i1 j1 24) else (p17_2 fail fu K0 y1 a0 c0 d0 e0 f0 g0 i0 j0 l0 m0 n0 o0 q0 r0 s0 t0 v0 w0 x0 y0 z0 a1 c1 d1 e1 f1 g1 l1 m1 o1 q1 r1 i1 j1 t1)
def p17_4 {ρ:Type} (fail:ρ) (fu:Nat) (K0:z2l ρ) (y1:Int) (a0:Bool) (c0 d0 e0 f0 g0 i0 j0 l0 m0:Int) (n0 o0:ByteArray) (q0 r0:Int) (s0:ByteArray) (t0 v0:EL) (w0 x0:Int) (y0:ByteArray) (z0 a1 c1:EL) (d1:Int) (e1:EL) (f1 g1 i1:Int) (j1:ByteArray) (l1 m1:EL) (o1:Bool):ρ :=
 bif o1 then (p54 fail fu (fun q1 r1 s1 t1 v1 w1 x1=>p17_3 fail fu K0 y1 a0 c0 d0 e0 f0 g0 i0 j0 l0 m0 n0 o0 q0 r0 s0 t0 v0 w0 x0 y0 z0 a1 c1 d1 g1 i1 j1 l1 m1 w1 x1 q1 r1 s1 t1 v1) e1 f1) else (p17_3 fail fu K0 y1 a0 c0 d0 e0 f0 g0 i0 j0 l0 m0 n0 o0 q0 r0 s0 t0 v0 w0 x0 y0 z0 a1 c1 d1 g1 i1 j1 l1 m1 e1 f1 0 0 ⟨#[]⟩ nilE nilE)
def p17_5 {ρ:Type} (fail:ρ) (fu:Nat) (K0:z2l ρ) (y1:Int) (o1 c0:Bool) (d0 e0 f0 g0 i0 j0 l0 m0 n0:Int) (o0 q0:ByteArray) (r0 s0:Int) (t0:ByteArray) (v0 w0:EL) (x0 y0:Int) (z0:ByteArray) (a1 c1 d1:EL) (e1:Int) (f1:EL) (a0 g1 i1:Int) (j1:ByteArray) (l1 m1:EL):ρ :=
 bif o1 then (p17_4 fail fu K0 y1 c0 d0 e0 f0 g0 i0 j0 l0 m0 n0 o0 q0 r0 s0 t0 v0 w0 x0 y0 z0 a1 c1 d1 e1 f1 a0 g1 i1 j1 l1 m1 (B0 .eql a0 0)) else (p17_4 fail fu K0 y1 c0 d0 e0 f0 g0 i0 j0 l0 m0 n0 o0 q0 r0 s0 t0 v0 w0 x0 y0 z0 a1 c1 d1 e1 f1 a0 g1 i1 j1 l1 m1 false)
def p17_6 {ρ:Type} (fail:ρ) (fu:Nat) (K0:z2l ρ) (y1:Int) (a0 c0:Bool) (d0 e0 f0 g0 i0 j0 l0 m0 n0:Int) (o0 q0:ByteArray) (r0 s0:Int) (t0:ByteArray) (v0 w0:EL) (x0 y0:Int) (z0:ByteArray) (a1 c1 d1 e1:EL) (f1 g1:Int) (i1:Bool):ρ :=
 bif i1 then (p54 fail fu (fun j1 l1 m1 o1 q1 r1 s1=>p17_5 fail fu K0 y1 a0 c0 d0 e0 f0 g0 i0 j0 l0 m0 n0 o0 q0 r0 s0 t0 v0 w0 x0 y0 z0 a1 c1 d1 g1 r1 s1 j1 l1 m1 o1 q1) e1 f1) else (p17_5 fail fu K0 y1 a0 c0 d0 e0 f0 g0 i0 j0 l0 m0 n0 o0 q0 r0 s0 t0 v0 w0 x0 y0 z0 a1 c1 d1 g1 e1 f1 0 0 ⟨#[]⟩ nilE nilE)
def p17_7 {ρ:Type} (fail:ρ) (fu:Nat) (K0:z2l ρ) (y1:Int) (y9 c0 d0:Bool) (e0 f0 g0 i0 j0 l0 m0 n0 o0:Int) (q0 r0:ByteArray) (s0 t0:Int) (v0:ByteArray) (w0 x0:EL) (y0 z0:Int) (a1:ByteArray) (c1 d1 e1 f1:EL) (a0 g1:Int):ρ :=
 bif y9 then (p17_6 fail fu K0 y1 c0 d0 e0 f0 g0 i0 j0 l0 m0 n0 o0 q0 r0 s0 t0 v0 w0 x0 y0 z0 a1 c1 d1 e1 f1 a0 g1 (B0 .eql a0 0)) else (p17_6 fail fu K0 y1 c0 d0 e0 f0 g0 i0 j0 l0 m0 n0 o0 q0 r0 s0 t0 v0 w0 x0 y0 z0 a1 c1 d1 e1 f1 a0 g1 false)
def p17_8 {ρ:Type} (fail:ρ) (fu:Nat) (K0:z2l ρ) (y1:Int) (y8 y9 a0 c0:Bool) (d0 e0 f0 g0 i0 j0:Int) (l0:EL) (m0 n0 o0 q0:Int) (r0 s0:ByteArray) (t0 v0:Int) (w0:ByteArray) (x0 y0:EL) (z0 a1:Int) (c1:ByteArray) (d1 e1 f1:EL):ρ :=
 bif y8 then (p51 fail fu (fun g1 i1 j1=>p17_7 fail fu K0 y1 y9 a0 c0 d0 e0 f0 g0 i0 j0 n0 o0 q0 r0 s0 t0 v0 w0 x0 y0 z0 a1 c1 d1 e1 f1 i1 j1 g1) l0 m0) else (p17_7 fail fu K0 y1 y9 a0 c0 d0 e0 f0 g0 i0 j0 n0 o0 q0 r0 s0 t0 v0 w0 x0 y0 z0 a1 c1 d1 e1 f1 l0 m0 0)
def p17_9 {ρ:Type} (fail:ρ) (fu:Nat) (K0:z2l ρ) (y1:Int) (y8 y9 o0 q0:Bool) (r0 s0 t0 v0:Int) (w0:EL) (x0 y0 z0:Int) (a1:Bool):ρ :=
 bif a1 then (p53 fail fu (fun c1 d1 e1 f1 g1 i1 j1 a0 c0 d0 e0 f0 g0 i0 j0 l0 m0 n0=>p17_8 fail fu K0 y1 y8 y9 o0 q0 r0 s0 t0 v0 y0 z0 m0 n0 c1 d1 e1 f1 g1 i1 j1 a0 c0 d0 e0 f0 g0 i0 j0 l0) w0 x0) else (p17_8 fail fu K0 y1 y8 y9 o0 q0 r0 s0 t0 v0 y0 z0 w0 x0 0 0 0 ⟨#[]⟩ ⟨#[]⟩ 0 0 ⟨#[]⟩ nilE nilE 0 0 ⟨#[]⟩ nilE nilE nilE)
def p17_10 {ρ:Type} (fail:ρ) (fu:Nat) (K0:z2l ρ) (y1:Int) (y7 y8 y9 c0 d0:Bool) (e0 f0 g0 i0:Int) (j0:EL) (a0 l0 m0:Int):ρ :=
 bif y7 then (p17_9 fail fu K0 y1 y8 y9 c0 d0 e0 f0 g0 i0 j0 a0 l0 m0 (B0 .eql a0 0)) else (p17_9 fail fu K0 y1 y8 y9 c0 d0 e0 f0 g0 i0 j0 a0 l0 m0 false)
def p17_11 {ρ:Type} (fail:ρ) (fu:Nat) (K0:z2l ρ) (y1:Int) (y6 y7 y8 y9 f0 g0:Bool) (i0 j0:Int) (l0:EL) (m0 n0 o0:Int):ρ :=
 bif y6 then (p52 fail fu (fun a0 c0 d0 e0=>p17_10 fail fu K0 y1 y7 y8 y9 f0 g0 i0 j0 n0 o0 d0 e0 a0 c0) l0 m0) else (p17_10 fail fu K0 y1 y7 y8 y9 f0 g0 i0 j0 n0 o0 l0 m0 0 0)
def p17_12 {ρ:Type} (fail:ρ) (fu:Nat) (K0:z2l ρ) (y1:Int) (y5 y6 y7 y8 y9 f0 g0:Bool) (i0:EL) (j0 l0 m0:Int):ρ :=
 bif y5 then (p52 fail fu (fun a0 c0 d0 e0=>p17_11 fail fu K0 y1 y6 y7 y8 y9 f0 g0 l0 m0 d0 e0 a0 c0) i0 j0) else (p17_11 fail fu K0 y1 y6 y7 y8 y9 f0 g0 l0 m0 i0 j0 0 0)
def p17_13 {ρ:Type} (fail:ρ) (fu:Nat) (K0:z2l ρ) (y1:Int) (y4 y5 y6 y7 y8 y9 i0 j0:Bool) (l0:EL) (m0:Int):ρ :=
 bif y4 then (p51 fail fu (fun a0 c0 d0=>p51 fail fu (fun e0 f0 g0=>p17_12 fail fu K0 y1 y5 y6 y7 y8 y9 i0 j0 f0 g0 a0 e0) c0 d0) l0 m0) else (p17_12 fail fu K0 y1 y5 y6 y7 y8 y9 i0 j0 l0 m0 0 0)
def p17 {ρ:Type} (fail:ρ) (fu:Nat) (K0:z2l ρ) (x0:EL):ρ :=
 p49 fail fu (fun y1 y2 y3=>p31 fail fu (fun y4 y5 y6 y7 y8 y9 d0 e0 f0=>bif (!f0) then (p50 fail fu (fun a0 c0=>p17_13 fail fu K0 y1 y4 y5 y6 y7 y8 y9 d0 e0 a0 c0) y2 y3 5) else (p17_13 fail fu K0 y1 y4 y5 y6 y7 y8 y9 d0 e0 y2 y3)) y1) x0 0 0 1073741824
abbrev RK35 (ρ:Type):=Int→Int→Int→Int→Int→Int→Int→Int→Int→Int→Int→ByteArray→ByteArray→Int→Int→ByteArray→EL→EL→Int→Int→ByteArray→EL→EL→EL→Int→Int→ByteArray→EL→EL→Int→Int→ByteArray→EL→EL→Int→ρ
theorem w6d {ρ:Type} (fail:ρ) (fu:Nat) (K:Bool→Bool→Bool→Bool→Bool→Bool→Bool→Bool→Bool→ρ) (k:Nat):p31 fail fu K (k:Nat) =
  if 1≤k∧k≤18 then K (fqQ k) (fqH k) (fqO k) (fqD k) (fqP k) (fqT k) (fqY k) (fqN k) true else K false false false false false false false false false:=by
 by_cases h:1≤k∧k≤18
 ·rw [if_pos h]
  have:k=1∨k=2∨k=3∨k=4∨k=5∨k=6∨k=7∨k=8∨k=9∨k=10∨k=11∨k=12∨k=13∨k=14∨k=15∨k=16∨k=17∨k=18:=by omega
  rcases this with rfl | rfl | rfl | rfl | rfl | rfl | rfl | rfl | rfl | rfl | rfl | rfl | rfl | rfl | rfl | rfl | rfl | rfl<;>rfl
 ·rw [if_neg h]
  have hn:∀ j:Int,1≤j→j≤18→B0 .eql ((k:Nat):Int) j=false:=fun j h1 h2=>D0 (by omega)
  have h1:=hn 1 (by decide) (by decide);have h2:=hn 2 (by decide) (by decide);have h3:=hn 3 (by decide) (by decide);have h4:=hn 4 (by decide) (by decide);have h5:=hn 5 (by decide) (by decide);have h6:=hn 6 (by decide) (by decide)
  have h7:=hn 7 (by decide) (by decide);have h8:=hn 8 (by decide) (by decide);have h9:=hn 9 (by decide) (by decide);have h10:=hn 10 (by decide) (by decide);have h11:=hn 11 (by decide) (by decide);have h12:=hn 12 (by decide) (by decide)
  have h13:=hn 13 (by decide) (by decide);have h14:=hn 14 (by decide) (by decide);have h15:=hn 15 (by decide) (by decide);have h16:=hn 16 (by decide) (by decide);have h17:=hn 17 (by decide) (by decide);have h18:=hn 18 (by decide) (by decide)
  simp only [p31,p31_1,p31_2,p31_3,p31_4,p31_5,p31_6,p31_7,p31_8,h1,h2,h3,h4,h5,h6,h7,h8,h9,h10,h11,h12,h13,h14,h15,h16,h17,h18,cond_false]
section
variable {ρ:Type} (fail:ρ) (fu:Nat) (hfu:250≤fu) (K:RK35 ρ)
include hfu
end
def p14_1 {ρ:Type} (fail:ρ) (fu:Nat) (K0:Bool→ρ) (a0:Bool):ρ :=
 K0 a0
def p14_2 {ρ:Type} (fail:ρ) (fu:Nat) (K0:Bool→ρ) (a0:Bool):ρ :=
 K0 a0
def p14_3 {ρ:Type} (fail:ρ) (fu:Nat) (K0:Bool→ρ) (x8 x9 c0:Int) (a0 d0:ByteArray) (e0 f0:Int) (g0:ByteArray) (i0 j0:EL) (l0 m0:Int) (n0:ByteArray) (o0 q0 r0:EL) (y4 y8 s0:Bool):ρ :=
 bif s0 then (K0 false) else (bif y4 then (p42 fail fu (fun t0=>K0 t0) x8 x9 c0 a0 d0 e0 f0 g0 i0 j0 l0 m0 n0 o0 q0 r0) else (bif y8 then (p43 fail fu (fun v0=>bif v0 then (p14_1 fail fu K0 (B0 .leq ((a0.size:Nat):Int) 24)) else (p14_1 fail fu K0 false)) x8 x9 c0 a0 d0 e0 f0 g0 i0 j0 l0 m0 n0 o0 q0 r0) else (p43 fail fu (fun w0=>bif w0 then (p14_2 fail fu K0 (P3 .eql a0 ⟨#[]⟩)) else (p14_2 fail fu K0 false)) x8 x9 c0 a0 d0 e0 f0 g0 i0 j0 l0 m0 n0 o0 q0 r0)))
def p14_4 {ρ:Type} (fail:ρ) (fu:Nat) (K0:Bool→ρ) (x8 x9 a0:Int) (c0 d0:ByteArray) (e0 f0:Int) (g0:ByteArray) (i0 j0:EL) (l0 m0:Int) (n0:ByteArray) (o0 q0 r0:EL) (y4 y8 s0:Bool):ρ :=
 p14_3 fail fu K0 x8 x9 a0 c0 d0 e0 f0 g0 i0 j0 l0 m0 n0 o0 q0 r0 y4 y8 s0
def p14_5 {ρ:Type} (fail:ρ) (fu:Nat) (K0:Bool→ρ) (x8 x9 a0:Int) (c0 d0:ByteArray) (e0 f0:Int) (g0:ByteArray) (i0 j0:EL) (l0 m0:Int) (n0:ByteArray) (o0 q0 r0:EL) (t0 v0:Int) (w0:ByteArray) (x0 y0:EL) (y4 y7 y8 s0:Bool):ρ :=
 bif s0 then (p14_3 fail fu K0 x8 x9 a0 c0 d0 e0 f0 g0 i0 j0 l0 m0 n0 o0 q0 r0 y4 y8 s0) else (bif (!y7) then (p41 fail fu (fun z0=>p14_4 fail fu K0 x8 x9 a0 c0 d0 e0 f0 g0 i0 j0 l0 m0 n0 o0 q0 r0 y4 y8 (!z0)) t0 v0 w0 x0 y0) else (p14_4 fail fu K0 x8 x9 a0 c0 d0 e0 f0 g0 i0 j0 l0 m0 n0 o0 q0 r0 y4 y8 false))
def p14_6 {ρ:Type} (fail:ρ) (fu:Nat) (K0:Bool→ρ) (x8 x9 g0:Int) (i0 j0:ByteArray) (l0 m0:Int) (n0:ByteArray) (o0 q0:EL) (r0 s0:Int) (t0:ByteArray) (v0 w0 x0:EL) (a0 c0:Int) (d0:ByteArray) (e0 f0:EL) (y4 y7 y8 y0:Bool):ρ :=
 bif y0 then (K0 false) else (bif y7 then (p40 fail fu (fun z0=>p14_5 fail fu K0 x8 x9 g0 i0 j0 l0 m0 n0 o0 q0 r0 s0 t0 v0 w0 x0 a0 c0 d0 e0 f0 y4 y7 y8 (!z0)) a0 c0 d0 e0 f0) else (p14_5 fail fu K0 x8 x9 g0 i0 j0 l0 m0 n0 o0 q0 r0 s0 t0 v0 w0 x0 a0 c0 d0 e0 f0 y4 y7 y8 false))
def p14_7 {ρ:Type} (fail:ρ) (fu:Nat) (K0:Bool→ρ) (x8 x9 a0:Int) (c0 d0:ByteArray) (e0 f0:Int) (g0:ByteArray) (i0 j0:EL) (l0 m0:Int) (n0:ByteArray) (o0 q0 r0:EL) (s0 t0:Int) (v0:ByteArray) (w0 x0:EL) (y4 y7 y8 y0:Bool):ρ :=
 p14_6 fail fu K0 x8 x9 a0 c0 d0 e0 f0 g0 i0 j0 l0 m0 n0 o0 q0 r0 s0 t0 v0 w0 x0 y4 y7 y8 y0
def p14_8 {ρ:Type} (fail:ρ) (fu:Nat) (K0:Bool→ρ) (x8 x9 a0:Int) (c0 d0:ByteArray) (e0 f0:Int) (g0:ByteArray) (i0 j0:EL) (l0 m0:Int) (n0:ByteArray) (o0 q0 r0:EL) (z0 a1:Int) (c1:ByteArray) (d1 e1:EL) (s0 t0:Int) (v0:ByteArray) (w0 x0:EL) (y4 y6 y7 y8 y0:Bool):ρ :=
 bif y0 then (p14_6 fail fu K0 x8 x9 a0 c0 d0 e0 f0 g0 i0 j0 l0 m0 n0 o0 q0 r0 s0 t0 v0 w0 x0 y4 y7 y8 y0) else (bif (!y6) then (p41 fail fu (fun f1=>p14_7 fail fu K0 x8 x9 a0 c0 d0 e0 f0 g0 i0 j0 l0 m0 n0 o0 q0 r0 s0 t0 v0 w0 x0 y4 y7 y8 (!f1)) z0 a1 c1 d1 e1) else (p14_7 fail fu K0 x8 x9 a0 c0 d0 e0 f0 g0 i0 j0 l0 m0 n0 o0 q0 r0 s0 t0 v0 w0 x0 y4 y7 y8 false))
def p14_9 {ρ:Type} (fail:ρ) (fu:Nat) (K0:Bool→ρ) (x8 x9 g0:Int) (i0 j0:ByteArray) (l0 m0:Int) (n0:ByteArray) (o0 q0:EL) (r0 s0:Int) (t0:ByteArray) (v0 w0 x0:EL) (a0 c0:Int) (d0:ByteArray) (e0 f0:EL) (y0 z0:Int) (a1:ByteArray) (c1 d1:EL) (y4 y6 y7 y8 e1:Bool):ρ :=
 bif e1 then (K0 false) else (bif y6 then (p40 fail fu (fun f1=>p14_8 fail fu K0 x8 x9 g0 i0 j0 l0 m0 n0 o0 q0 r0 s0 t0 v0 w0 x0 a0 c0 d0 e0 f0 y0 z0 a1 c1 d1 y4 y6 y7 y8 (!f1)) a0 c0 d0 e0 f0) else (p14_8 fail fu K0 x8 x9 g0 i0 j0 l0 m0 n0 o0 q0 r0 s0 t0 v0 w0 x0 a0 c0 d0 e0 f0 y0 z0 a1 c1 d1 y4 y6 y7 y8 false))
def p14_10 {ρ:Type} (fail:ρ) (fu:Nat) (K0:Bool→ρ) (x8 x9 a0:Int) (c0 d0:ByteArray) (e0 f0:Int) (g0:ByteArray) (i0 j0:EL) (l0 m0:Int) (n0:ByteArray) (o0 q0 r0:EL) (s0 t0:Int) (v0:ByteArray) (w0 x0:EL) (y0 z0:Int) (a1:ByteArray) (c1 d1:EL) (y4 y6 y7 y8 e1:Bool):ρ :=
 p14_9 fail fu K0 x8 x9 a0 c0 d0 e0 f0 g0 i0 j0 l0 m0 n0 o0 q0 r0 s0 t0 v0 w0 x0 y0 z0 a1 c1 d1 y4 y6 y7 y8 e1
def p14_11 {ρ:Type} (fail:ρ) (fu:Nat) (K0:Bool→ρ) (x1 x8 x9 a0:Int) (c0 d0:ByteArray) (e0 f0:Int) (g0:ByteArray) (i0 j0:EL) (l0 m0:Int) (n0:ByteArray) (o0 q0 r0:EL) (s0 t0:Int) (v0:ByteArray) (w0 x0:EL) (y0 z0:Int) (a1:ByteArray) (c1 d1:EL) (y4 y5 y6 y7 y8 e1:Bool):ρ :=
 bif e1 then (p14_9 fail fu K0 x8 x9 a0 c0 d0 e0 f0 g0 i0 j0 l0 m0 n0 o0 q0 r0 s0 t0 v0 w0 x0 y0 z0 a1 c1 d1 y4 y6 y7 y8 e1) else (bif (!y5) then (p14_10 fail fu K0 x8 x9 a0 c0 d0 e0 f0 g0 i0 j0 l0 m0 n0 o0 q0 r0 s0 t0 v0 w0 x0 y0 z0 a1 c1 d1 y4 y6 y7 y8 (B0 .neq x1 0)) else (p14_10 fail fu K0 x8 x9 a0 c0 d0 e0 f0 g0 i0 j0 l0 m0 n0 o0 q0 r0 s0 t0 v0 w0 x0 y0 z0 a1 c1 d1 y4 y6 y7 y8 false))
def p14_12 {ρ:Type} (fail:ρ) (fu:Nat) (K0:Bool→ρ) (x1 x8 x9 a0:Int) (c0 d0:ByteArray) (e0 f0:Int) (g0:ByteArray) (i0 j0:EL) (l0 m0:Int) (n0:ByteArray) (o0 q0 r0:EL) (s0 t0:Int) (v0:ByteArray) (w0 x0:EL) (y0 z0:Int) (a1:ByteArray) (c1 d1:EL) (y4 y5 y6 y7 y8 e1:Bool):ρ :=
 bif e1 then (K0 false) else (bif y5 then (p39 fail fu (fun f1=>p14_11 fail fu K0 x1 x8 x9 a0 c0 d0 e0 f0 g0 i0 j0 l0 m0 n0 o0 q0 r0 s0 t0 v0 w0 x0 y0 z0 a1 c1 d1 y4 y5 y6 y7 y8 (!f1)) x1) else (p14_11 fail fu K0 x1 x8 x9 a0 c0 d0 e0 f0 g0 i0 j0 l0 m0 n0 o0 q0 r0 s0 t0 v0 w0 x0 y0 z0 a1 c1 d1 y4 y5 y6 y7 y8 false))
def p14_13 {ρ:Type} (fail:ρ) (fu:Nat) (K0:Bool→ρ) (x1 x8 x9 a0:Int) (c0 d0:ByteArray) (e0 f0:Int) (g0:ByteArray) (i0 j0:EL) (l0 m0:Int) (n0:ByteArray) (o0 q0 r0:EL) (s0 t0:Int) (v0:ByteArray) (w0 x0:EL) (y0 z0:Int) (a1:ByteArray) (c1 d1:EL) (y4 y5 y6 y7 y8 e1:Bool):ρ :=
 p14_12 fail fu K0 x1 x8 x9 a0 c0 d0 e0 f0 g0 i0 j0 l0 m0 n0 o0 q0 r0 s0 t0 v0 w0 x0 y0 z0 a1 c1 d1 y4 y5 y6 y7 y8 e1
def p14_14 {ρ:Type} (fail:ρ) (fu:Nat) (K0:Bool→ρ) (x1 x6 x7 x8 x9 a0:Int) (c0 d0:ByteArray) (e0 f0:Int) (g0:ByteArray) (i0 j0:EL) (l0 m0:Int) (n0:ByteArray) (o0 q0 r0:EL) (s0 t0:Int) (v0:ByteArray) (w0 x0:EL) (y0 z0:Int) (a1:ByteArray) (c1 d1:EL) (y3 y4 y5 y6 y7 y8 e1:Bool):ρ :=
 bif e1 then (p14_12 fail fu K0 x1 x8 x9 a0 c0 d0 e0 f0 g0 i0 j0 l0 m0 n0 o0 q0 r0 s0 t0 v0 w0 x0 y0 z0 a1 c1 d1 y4 y5 y6 y7 y8 e1) else (bif (!y3) then (p14_13 fail fu K0 x1 x8 x9 a0 c0 d0 e0 f0 g0 i0 j0 l0 m0 n0 o0 q0 r0 s0 t0 v0 w0 x0 y0 z0 a1 c1 d1 y4 y5 y6 y7 y8 (!((B0 .eql x6 0) && ((B0 .eql x7 0) && true)))) else (p14_13 fail fu K0 x1 x8 x9 a0 c0 d0 e0 f0 g0 i0 j0 l0 m0 n0 o0 q0 r0 s0 t0 v0 w0 x0 y0 z0 a1 c1 d1 y4 y5 y6 y7 y8 false))
def p14_15 {ρ:Type} (fail:ρ) (fu:Nat) (K0:Bool→ρ) (x1 x4 x5 x6 x7 x8 x9 a0:Int) (c0 d0:ByteArray) (e0 f0:Int) (g0:ByteArray) (i0 j0:EL) (l0 m0:Int) (n0:ByteArray) (o0 q0 r0:EL) (s0 t0:Int) (v0:ByteArray) (w0 x0:EL) (y0 z0:Int) (a1:ByteArray) (c1 d1:EL) (y2 y3 y4 y5 y6 y7 y8 e1:Bool):ρ :=
 bif e1 then (K0 false) else (bif (!y2) then (p14_14 fail fu K0 x1 x6 x7 x8 x9 a0 c0 d0 e0 f0 g0 i0 j0 l0 m0 n0 o0 q0 r0 s0 t0 v0 w0 x0 y0 z0 a1 c1 d1 y3 y4 y5 y6 y7 y8 (!((B0 .eql x4 0) && ((B0 .eql x5 0) && true)))) else (p14_14 fail fu K0 x1 x6 x7 x8 x9 a0 c0 d0 e0 f0 g0 i0 j0 l0 m0 n0 o0 q0 r0 s0 t0 v0 w0 x0 y0 z0 a1 c1 d1 y3 y4 y5 y6 y7 y8 false))
def p14_16 {ρ:Type} (fail:ρ) (fu:Nat) (K0:Bool→ρ) (x1 x4 x5 x6 x7 x8 x9 a0:Int) (c0 d0:ByteArray) (e0 f0:Int) (g0:ByteArray) (i0 j0:EL) (l0 m0:Int) (n0:ByteArray) (o0 q0 r0:EL) (s0 t0:Int) (v0:ByteArray) (w0 x0:EL) (y0 z0:Int) (a1:ByteArray) (c1 d1:EL) (y2 y3 y4 y5 y6 y7 y8 e1:Bool):ρ :=
 p14_15 fail fu K0 x1 x4 x5 x6 x7 x8 x9 a0 c0 d0 e0 f0 g0 i0 j0 l0 m0 n0 o0 q0 r0 s0 t0 v0 w0 x0 y0 z0 a1 c1 d1 y2 y3 y4 y5 y6 y7 y8 e1
def p14_17 {ρ:Type} (fail:ρ) (fu:Nat) (K0:Bool→ρ) (x1 x2 x3 x4 x5 x6 x7 x8 x9 a0:Int) (c0 d0:ByteArray) (e0 f0:Int) (g0:ByteArray) (i0 j0:EL) (l0 m0:Int) (n0:ByteArray) (o0 q0 r0:EL) (s0 t0:Int) (v0:ByteArray) (w0 x0:EL) (y0 z0:Int) (a1:ByteArray) (c1 d1:EL) (y1 y2 y3 y4 y5 y6 y7 y8 e1:Bool):ρ :=
 bif e1 then (p14_15 fail fu K0 x1 x4 x5 x6 x7 x8 x9 a0 c0 d0 e0 f0 g0 i0 j0 l0 m0 n0 o0 q0 r0 s0 t0 v0 w0 x0 y0 z0 a1 c1 d1 y2 y3 y4 y5 y6 y7 y8 e1) else (bif (!y1) then (bif (B0 .neq x2 0) then (p14_16 fail fu K0 x1 x4 x5 x6 x7 x8 x9 a0 c0 d0 e0 f0 g0 i0 j0 l0 m0 n0 o0 q0 r0 s0 t0 v0 w0 x0 y0 z0 a1 c1 d1 y2 y3 y4 y5 y6 y7 y8 true) else (p14_16 fail fu K0 x1 x4 x5 x6 x7 x8 x9 a0 c0 d0 e0 f0 g0 i0 j0 l0 m0 n0 o0 q0 r0 s0 t0 v0 w0 x0 y0 z0 a1 c1 d1 y2 y3 y4 y5 y6 y7 y8 (B0 .neq x3 0))) else (p14_16 fail fu K0 x1 x4 x5 x6 x7 x8 x9 a0 c0 d0 e0 f0 g0 i0 j0 l0 m0 n0 o0 q0 r0 s0 t0 v0 w0 x0 y0 z0 a1 c1 d1 y2 y3 y4 y5 y6 y7 y8 false))
def p14 {ρ:Type} (fail:ρ) (fu:Nat) (K0:Bool→ρ) (x0 x1 x2 x3 x4 x5 x6 x7 x8 x9 a0:Int) (c0 d0:ByteArray) (e0 f0:Int) (g0:ByteArray) (i0 j0:EL) (l0 m0:Int) (n0:ByteArray) (o0 q0 r0:EL) (s0 t0:Int) (v0:ByteArray) (w0 y0:EL) (z0 a1:Int) (c1:ByteArray) (d1 e1:EL):ρ :=
 p31 fail fu (fun y1 y2 y3 y4 y5 y6 y7 y8 y9=>bif (!y9) then (K0 false) else (bif y1 then (p39 fail fu (fun f1=>bif (!f1) then (p14_17 fail fu K0 x1 x2 x3 x4 x5 x6 x7 x8 x9 a0 c0 d0 e0 f0 g0 i0 j0 l0 m0 n0 o0 q0 r0 s0 t0 v0 w0 y0 z0 a1 c1 d1 e1 y1 y2 y3 y4 y5 y6 y7 y8 true) else (p39 fail fu (fun g1=>p14_17 fail fu K0 x1 x2 x3 x4 x5 x6 x7 x8 x9 a0 c0 d0 e0 f0 g0 i0 j0 l0 m0 n0 o0 q0 r0 s0 t0 v0 w0 y0 z0 a1 c1 d1 e1 y1 y2 y3 y4 y5 y6 y7 y8 (!g1)) x3)) x2) else (p14_17 fail fu K0 x1 x2 x3 x4 x5 x6 x7 x8 x9 a0 c0 d0 e0 f0 g0 i0 j0 l0 m0 n0 o0 q0 r0 s0 t0 v0 w0 y0 z0 a1 c1 d1 e1 y1 y2 y3 y4 y5 y6 y7 y8 false))) x0
def p32 {ρ:Type} (fail:ρ) (fu:Nat) (K0:EL→ρ) (x0:EL):ρ :=
 gd (0=nilE.length) fail (gd ((nilE.length + x0.length) * 1≤35184372088832) fail (K0 (nilE++x0)))
def p72_1 {ρ:Type} (fail:ρ) (fu:Nat) (K0:EL→ρ) (rec1:EL→Int→ρ) (x1:Int) (z2:EL) (z3:Int):ρ :=
 bif (B0 .geq z3 0) then (gd ((0:Int)≤(IntKind.u64.wrap z3)) fail (gd (1≤[[(CV.v (.int .u8 (IntKind.u8.wrap (B8 .shr .u64 x1 (IntKind.u64.wrap z3)))))]].length) fail (gd ((z2.length + (List.take 1 [[(CV.v (.int .u8 (IntKind.u8.wrap (B8 .shr .u64 x1 (IntKind.u64.wrap z3)))))]]).length) * 1≤35184372088832) fail (rec1 (z2++(List.take 1 [[(CV.v (.int .u8 (IntKind.u8.wrap (B8 .shr .u64 x1 (IntKind.u64.wrap z3)))))]])) (B8 .sub .i64 z3 8))))) else (K0 z2)
def p72_1L {ρ:Type} (fail:ρ) (fu:Nat) (K0:EL→ρ) (x1:Int):Nat→EL→Int→ρ
 | 0,_,_=>fail
 | n + 1,z2,z3=>p72_1 fail fu K0 (p72_1L fail fu K0 x1 n) x1 z2 z3
def p72 {ρ:Type} (fail:ρ) (fu:Nat) (K0:EL→ρ) (x0:EL) (x1:Int):ρ :=
 p99 fail fu (fun y1=>p72_1L fail fu K0 x1 fu y1 56) x0 8
def p34 {ρ:Type} (fail:ρ) (fu:Nat) (K0:EL→ρ) (x0:EL) (x1 x2:Int):ρ :=
 p72 fail fu (fun y1=>p72 fail fu (fun y2=>K0 y2) y1 x2) x0 x1
def p11_1 {ρ:Type} (fail:ρ) (fu:Nat) (K0:EL→Int→ρ) (x0 a0:EL):ρ :=
 bif (B0 .gtr (B8 .sub .i64 ((a0.length:Nat):Int) ((x0.length:Nat):Int)) 65536) then (K0 nilE 3) else (K0 a0 0)
def p11_2 {ρ:Type} (fail:ρ) (fu:Nat) (K0:EL→Int→ρ) (x0:EL) (a0:ByteArray) (y9:Bool) (c0:EL):ρ :=
 bif y9 then (gd (a0.size≤(E8 a0.data.toList).length) fail (p37 fail fu (fun d0=>p11_1 fail fu K0 x0 d0) c0 (List.take a0.size (E8 a0.data.toList)))) else (p11_1 fail fu K0 x0 c0)
def p11_3 {ρ:Type} (fail:ρ) (fu:Nat) (K0:EL→Int→ρ) (x0:EL) (a0:ByteArray) (d0 e0:Int) (f0:ByteArray) (g0 i0:EL) (y8 y9:Bool) (c0:EL):ρ :=
 bif y8 then (p36 fail fu (fun j0=>p11_2 fail fu K0 x0 a0 y9 j0) c0 d0 e0 f0 g0 i0) else (p11_2 fail fu K0 x0 a0 y9 c0)
def p11_4 {ρ:Type} (fail:ρ) (fu:Nat) (K0:EL→Int→ρ) (x0:EL) (a0:ByteArray) (j0 l0:Int) (m0:ByteArray) (n0 o0:EL) (c0 d0:Int) (e0:ByteArray) (f0 g0:EL) (y7 y8 y9:Bool) (i0:EL):ρ :=
 bif y7 then (p36 fail fu (fun q0=>p11_3 fail fu K0 x0 a0 c0 d0 e0 f0 g0 y8 y9 q0) i0 j0 l0 m0 n0 o0) else (p11_3 fail fu K0 x0 a0 c0 d0 e0 f0 g0 y8 y9 i0)
def p11_5 {ρ:Type} (fail:ρ) (fu:Nat) (K0:EL→Int→ρ) (x0:EL) (x2:Int) (a0:ByteArray) (c0 d0:Int) (e0:ByteArray) (f0 g0:EL) (i0 j0:Int) (l0:ByteArray) (m0 n0:EL) (y6 y7 y8 y9:Bool) (o0:EL):ρ :=
 bif y6 then (gd (1≤[[(CV.v (.int .i64 x2))]].length) fail (p33 fail fu (fun q0=>p11_4 fail fu K0 x0 a0 c0 d0 e0 f0 g0 i0 j0 l0 m0 n0 y7 y8 y9 q0) o0 (List.take 1 [[(CV.v (.int .i64 x2))]]))) else (p11_4 fail fu K0 x0 a0 c0 d0 e0 f0 g0 i0 j0 l0 m0 n0 y7 y8 y9 o0)
def p11_6 {ρ:Type} (fail:ρ) (fu:Nat) (K0:EL→Int→ρ) (x0:EL) (x2 x9 q0 r0:Int) (a0 s0:ByteArray) (t0 v0:Int) (w0:ByteArray) (y0 z0:EL) (a1 c1:Int) (d1:ByteArray) (e1 f1 g1:EL) (c0 d0:Int) (e0:ByteArray) (f0 g0:EL) (i0 j0:Int) (l0:ByteArray) (m0 n0:EL) (y5 y6 y7 y8 y9:Bool) (o0:EL):ρ :=
 bif y5 then (p35 fail fu (fun i1=>p11_5 fail fu K0 x0 x2 a0 c0 d0 e0 f0 g0 i0 j0 l0 m0 n0 y6 y7 y8 y9 i1) o0 x9 q0 r0 a0 s0 t0 v0 w0 y0 z0 a1 c1 d1 e1 f1 g1) else (p11_5 fail fu K0 x0 x2 a0 c0 d0 e0 f0 g0 i0 j0 l0 m0 n0 y6 y7 y8 y9 o0)
def p11_7 {ρ:Type} (fail:ρ) (fu:Nat) (K0:EL→Int→ρ) (x0:EL) (x2 x7 x8 x9 a0 c0:Int) (d0 e0:ByteArray) (f0 g0:Int) (i0:ByteArray) (j0 l0:EL) (m0 n0:Int) (o0:ByteArray) (q0 r0 s0:EL) (t0 v0:Int) (w0:ByteArray) (y0 z0:EL) (a1 c1:Int) (d1:ByteArray) (e1 f1:EL) (y4 y5 y6 y7 y8 y9:Bool) (g1:EL):ρ :=
 bif y4 then (p34 fail fu (fun i1=>p11_6 fail fu K0 x0 x2 x9 a0 c0 d0 e0 f0 g0 i0 j0 l0 m0 n0 o0 q0 r0 s0 t0 v0 w0 y0 z0 a1 c1 d1 e1 f1 y5 y6 y7 y8 y9 i1) g1 x7 x8) else (p11_6 fail fu K0 x0 x2 x9 a0 c0 d0 e0 f0 g0 i0 j0 l0 m0 n0 o0 q0 r0 s0 t0 v0 w0 y0 z0 a1 c1 d1 e1 f1 y5 y6 y7 y8 y9 g1)
def p11_8 {ρ:Type} (fail:ρ) (fu:Nat) (K0:EL→Int→ρ) (x0:EL) (x2 x5 x6 x7 x8 x9 a0 c0:Int) (d0 e0:ByteArray) (f0 g0:Int) (i0:ByteArray) (j0 l0:EL) (m0 n0:Int) (o0:ByteArray) (q0 r0 s0:EL) (t0 v0:Int) (w0:ByteArray) (y0 z0:EL) (a1 c1:Int) (d1:ByteArray) (e1 f1:EL) (y3 y4 y5 y6 y7 y8 y9:Bool) (g1:EL):ρ :=
 bif y3 then (p34 fail fu (fun i1=>p11_7 fail fu K0 x0 x2 x7 x8 x9 a0 c0 d0 e0 f0 g0 i0 j0 l0 m0 n0 o0 q0 r0 s0 t0 v0 w0 y0 z0 a1 c1 d1 e1 f1 y4 y5 y6 y7 y8 y9 i1) g1 x5 x6) else (p11_7 fail fu K0 x0 x2 x7 x8 x9 a0 c0 d0 e0 f0 g0 i0 j0 l0 m0 n0 o0 q0 r0 s0 t0 v0 w0 y0 z0 a1 c1 d1 e1 f1 y4 y5 y6 y7 y8 y9 g1)
def p11 {ρ:Type} (fail:ρ) (fu:Nat) (K0:EL→Int→ρ) (x0:EL) (x1 x2 x3 x4 x5 x6 x7 x8 x9 a0 c0:Int) (d0 e0:ByteArray) (f0 g0:Int) (i0:ByteArray) (j0 l0:EL) (m0 n0:Int) (o0:ByteArray) (q0 r0 s0:EL) (t0 v0:Int) (w0:ByteArray) (y0 z0:EL) (a1 c1:Int) (d1:ByteArray) (e1 f1:EL):ρ :=
 p14 fail fu (fun y1=>bif (!y1) then (K0 nilE 1) else (p31 fail fu (fun y2 y3 y4 y5 y6 y7 y8 y9 l1=>p32 fail fu (fun i1=>gd (1≤[[(CV.v (.int .i64 x1))]].length) fail (p33 fail fu (fun g1=>bif y2 then (gd (2≤[[(CV.v (.int .i64 x3))],[(CV.v (.int .i64 x4))]].length) fail (p33 fail fu (fun j1=>p11_8 fail fu K0 x0 x2 x5 x6 x7 x8 x9 a0 c0 d0 e0 f0 g0 i0 j0 l0 m0 n0 o0 q0 r0 s0 t0 v0 w0 y0 z0 a1 c1 d1 e1 f1 y3 y4 y5 y6 y7 y8 y9 j1) g1 (List.take 2 [[(CV.v (.int .i64 x3))],[(CV.v (.int .i64 x4))]]))) else (p11_8 fail fu K0 x0 x2 x5 x6 x7 x8 x9 a0 c0 d0 e0 f0 g0 i0 j0 l0 m0 n0 o0 q0 r0 s0 t0 v0 w0 y0 z0 a1 c1 d1 e1 f1 y3 y4 y5 y6 y7 y8 y9 g1)) i1 (List.take 1 [[(CV.v (.int .i64 x1))]]))) x0) x1)) x1 x2 x3 x4 x5 x6 x7 x8 x9 a0 c0 d0 e0 f0 g0 i0 j0 l0 m0 n0 o0 q0 r0 s0 t0 v0 w0 y0 z0 a1 c1 d1 e1 f1
end Go.Proofs.YtioiigabeoaneaaGreat
