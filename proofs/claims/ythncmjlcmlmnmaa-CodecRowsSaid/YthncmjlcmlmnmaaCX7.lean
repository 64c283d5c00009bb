/- A part of the proof. Conditions: none. -/
import Derived.Test.YthncmjlcmlmnmaaCX6
import Derived.Test.YthncmjlcmlmnmaaCX4
import Derived.Test.YthncmjlcmlmnmaaCX5
namespace Go.Proofs.Ythncmjlcmlmnmaa
open Go V
set_option maxRecDepth 100000
set_option maxHeartbeats 4000000
section
variable {ρ:Type} (fail:ρ)
theorem u8Row {l:List UInt8} {i:Nat} (h:i < l.length) (c:Int→ρ):rw_u8 fail (List.getD (encB l) (((i:Nat):Int)).toNat []) c=c ((l[i]).toNat:Nat):=by
 rw [Int.toNat_natCast,w5y h];rfl
theorem z1t (b:List UInt8) (hb:b.length≤1000000) (a:Nat) (ha:a≤b.length) (n:Int) (hn:1≤n):∃ (v:Int) (a':Nat),0≤v∧v < n∧a≤a'∧a'≤b.length∧(v≠0→a < a') ∧
  ∀ (fu:Nat) (K:Int→EL→Int→ρ),p52 fail fu K (encB b) ((a:Nat):Int) n=K v (encB b) ((a':Nat):Int):=by
 by_cases h:a < b.length
 ·have hc:=(b[a]).toNat_lt
  refine⟨Int.tmod ((b[a]).toNat:Nat) n,a + 1,Int.tmod_nonneg _ (by omega),Int.tmod_lt_of_pos _ (by omega),by omega,by omega,fun _=>by omega,fun fu K=>?_⟩
  have e1:z0d .add .i64 ((a:Nat):Int) 1=((a + 1:Nat):Int):=by rw [addZ (by omega) (by omega)];omega
  have e2:z0d .sub .i64 ((a + 1:Nat):Int) 1=((a:Nat):Int):=by rw [subZ (by omega) (by omega)];omega
  have e3:IntKind.i64.wrap (((b[a]).toNat:Nat):Int)=(((b[a]).toNat:Nat):Int):=z5d (by omega)
  rw [p52,z0g,geqF (by omega),cond_false,lssF (by omega),p52_1,cond_false,e1,e2,z0g,gd_y (by omega),gd_y (by omega),u8Row fail h,gd_y (by omega),e3]
  rfl
 ·refine⟨0,a,by omega,by omega,by omega,by omega,fun h=>absurd rfl h,fun fu K=>?_⟩
  rw [p52,z0g,geqT (by omega),cond_true,p52_1,cond_true]
theorem z1s (s:ByteArray) (c:Tm) (hc:c.thin) (hT:∀ fu,600≤fu→∀ K:Int→Int→ByteArray→EL→EL→ρ,p104 fail fu K s=K c.k c.n c.nm (Lv.rows c.ls) (Tm.rows c.args)) (l:List Tm) (hl:Tm.thins l) (hlen:l.length≤1000) :
  ∃ v:Tm,v.thin∧∃ N:Nat,∀ fu,N≤fu→∀ K:Int→Int→ByteArray→EL→EL→ρ,p102 fail fu K s (Tm.rows l)=K v.k v.n v.nm (Lv.rows v.ls) (Tm.rows v.args):=by
 obtain⟨v,hv,h⟩:=w9x fail c hc l hl hlen
 exact⟨v,hv,c.sz + Tm.szs l + 1100,fun fu hf K=>by rw [p102,hT fu (by omega),h fu _ hf]⟩
theorem lamE (t u:Tm) (ht:t.thin) (hu:u.thin):∃ v:Tm,v.thin∧∃ N:Nat,∀ fu,N≤fu→∀ K:Int→Int→ByteArray→EL→EL→ρ,p103 fail fu K t.k t.n t.nm (Lv.rows t.ls) (Tm.rows t.args) u.k u.n u.nm (Lv.rows u.ls) (Tm.rows u.args)=K v.k v.n v.nm (Lv.rows v.ls) (Tm.rows v.args):=by
 obtain⟨v,hv,h⟩:=k2f fail t u ht hu
 exact⟨v,hv,t.sz + u.sz + 60,fun fu hf K=>h fu K (by omega)⟩
theorem piE (t u:Tm) (ht:t.thin) (hu:u.thin):∃ v:Tm,v.thin∧∃ N:Nat,∀ fu,N≤fu→∀ K:Int→Int→ByteArray→EL→EL→ρ,p48 fail fu K t.k t.n t.nm (Lv.rows t.ls) (Tm.rows t.args) u.k u.n u.nm (Lv.rows u.ls) (Tm.rows u.args)=K v.k v.n v.nm (Lv.rows v.ls) (Tm.rows v.args):=by
 obtain⟨v,hv,h⟩:=pi_any fail t u ht hu
 exact⟨v,hv,t.sz + u.sz + 60,fun fu hf K=>h fu K (by omega)⟩
theorem appE (t u:Tm) (ht:t.thin) (hu:u.thin):∃ v:Tm,v.thin∧∃ N:Nat,∀ fu,N≤fu→∀ K:Int→Int→ByteArray→EL→EL→ρ,p68 fail fu K t.k t.n t.nm (Lv.rows t.ls) (Tm.rows t.args) u.k u.n u.nm (Lv.rows u.ls) (Tm.rows u.args)=K v.k v.n v.nm (Lv.rows v.ls) (Tm.rows v.args):=by
 obtain⟨v,hv,h⟩:=w9y fail t u ht hu
 exact⟨v,hv,t.sz + u.sz + 60,fun fu hf K=>h fu K (by omega)⟩
theorem liftE (t:Tm) (ht:t.thin) (x y:Int):∃ v:Tm,v.thin∧∃ N:Nat,∀ fu,N≤fu→∀ K:Int→Int→ByteArray→EL→EL→ρ,p106 fail fu K t.k t.n t.nm (Lv.rows t.ls) (Tm.rows t.args) x y=K v.k v.n v.nm (Lv.rows v.ls) (Tm.rows v.args):=by
 obtain⟨v,hv,_,h⟩:=w6u fail t ht x y
 exact⟨v,hv.1,t.sz + 60,fun fu hf K=>h fu K (by omega)⟩
def NatS (b:List UInt8) (a:Nat) (x:Int):Prop:=∃ (t:Tm) (a':Nat),t.thin∧a≤a'∧a'≤b.length∧∃ N:Nat,∀ fu,N≤fu→∀ K:Int→Int→ByteArray→EL→EL→EL→Int→ρ,p53 fail fu K (encB b) ((a:Nat):Int) x=K t.k t.n t.nm (Lv.rows t.ls) (Tm.rows t.args) (encB b) ((a':Nat):Int)
def FunS (b:List UInt8) (a:Nat) (x:Int):Prop:=∃ (t:Tm) (a':Nat),t.thin∧a≤a'∧a'≤b.length∧∃ N:Nat,∀ fu,N≤fu→∀ K:Int→Int→ByteArray→EL→EL→EL→Int→ρ,p54b fail fu K (encB b) ((a:Nat):Int) x=K t.k t.n t.nm (Lv.rows t.ls) (Tm.rows t.args) (encB b) ((a':Nat):Int)
def PropS (b:List UInt8) (a:Nat) (x:Int):Prop:=∃ (t:Tm) (a':Nat),t.thin∧a≤a'∧a'≤b.length∧∃ N:Nat,∀ fu,N≤fu→∀ K:Int→Int→ByteArray→EL→EL→EL→Int→ρ,p55 fail fu K (encB b) ((a:Nat):Int) x=K t.k t.n t.nm (Lv.rows t.ls) (Tm.rows t.args) (encB b) ((a':Nat):Int)
def k0b (b:List UInt8) (a:Nat) (x:Int):Prop:=∃ (t u:Tm) (a':Nat),t.thin∧u.thin∧a≤a'∧a'≤b.length∧∃ N:Nat,∀ fu,N≤fu→∀ K:Int→Int→ByteArray→EL→EL→Int→Int→ByteArray→EL→EL→EL→Int→ρ,p56 fail fu K (encB b) ((a:Nat):Int) x=K t.k t.n t.nm (Lv.rows t.ls) (Tm.rows t.args) u.k u.n u.nm (Lv.rows u.ls) (Tm.rows u.args) (encB b) ((a':Nat):Int)
def k0d (b:List UInt8) (a:Nat) (x:Int):Prop:=∃ (t:Lv) (a':Nat),t.thin∧a≤a'∧a'≤b.length∧∃ N:Nat,∀ fu,N≤fu→∀ K:Int→Int→EL→EL→Int→ρ,p39 fail fu K (encB b) ((a:Nat):Int) x=K t.k t.n (Lv.rows t.args) (encB b) ((a':Nat):Int)
variable (b:List UInt8) (hb:b.length≤1000000)
include hb in
theorem w5m (a:Nat) (ha:a≤b.length) (ih:∀ a2,a < a2→a2≤b.length→∀ x,NatS fail b a2 x∧FunS fail b a2 x) (x:Int):NatS fail b a x:=by
 obtain⟨v,a1,hv1,hv2,l1,l2,l3,hn⟩:=z1t fail b hb a ha 9 (by omega)
 rcases (by omega:v=0∨v=1∨v=2∨v=3∨v=4∨v=5∨v=6∨v=7∨v=8) with rfl | rfl | rfl | rfl | rfl | rfl | rfl | rfl | rfl
 ·skip
  exact⟨pt5,a1,w5h,by omega,by omega,1000,fun fu hfu K=>by
   obtain⟨m,rfl⟩:∃ m,fu=m + 1:=⟨fu - 1,by omega⟩
   rw [p53,p53_b,hn,eqlF (a:=0) (b:=1) (by decide),cond_false,eqlF (a:=0) (b:=2) (by decide),p53_1,cond_false,eqlF (a:=0) (b:=3) (by decide),cond_false,eqlF (a:=0) (b:=4) (by decide),cond_false,eqlF (a:=0) (b:=5) (by decide),cond_false,eqlF (a:=0) (b:=6) (by decide),cond_false,eqlF (a:=0) (b:=7) (by decide),cond_false,eqlF (a:=0) (b:=8) (by decide),cond_false,pt5_c fail m (by omega)]⟩
 ·skip
  have l4:a < a1:=l3 (by decide)
  obtain⟨t1,q1,ht1,le1,lu1,N1,h1⟩:=(ih a1 (by omega) (by omega) (x)).1
  obtain⟨v2,hv2,N2,h2⟩:=z1s fail _ pt1 w0k (fun fu hf K=>pt1_T fail fu hf K) [t1] ⟨ht1,trivial⟩ (by simp)
  exact⟨v2,q1,hv2,by omega,by omega,N1 + N2 + 1000,fun fu hfu K=>by
   obtain⟨m,rfl⟩:∃ m,fu=m + 1:=⟨fu - 1,by omega⟩
   rw [p53,p53_b,hn,eqlT (a:=1) (b:=1) rfl,cond_true,p53_1,cond_true,h1 m (by omega),gd_y (by simp),z2g,h2 m (by omega)]⟩
 ·skip
  have l4:a < a1:=l3 (by decide)
  obtain⟨t1,q1,ht1,le1,lu1,N1,h1⟩:=(ih a1 (by omega) (by omega) (x)).1
  obtain⟨v2,hv2,N2,h2⟩:=z1s fail _ pt1 w0k (fun fu hf K=>pt1_T fail fu hf K) [t1] ⟨ht1,trivial⟩ (by simp)
  exact⟨v2,q1,hv2,by omega,by omega,N1 + N2 + 1000,fun fu hfu K=>by
   obtain⟨m,rfl⟩:∃ m,fu=m + 1:=⟨fu - 1,by omega⟩
   rw [p53,p53_b,hn,eqlF (a:=2) (b:=1) (by decide),cond_false,eqlT (a:=2) (b:=2) rfl,p53_1,cond_true,h1 m (by omega),gd_y (by simp),z2g,h2 m (by omega)]⟩
 ·skip
  have l4:a < a1:=l3 (by decide)
  obtain⟨t1,q1,ht1,le1,lu1,N1,h1⟩:=(ih a1 (by omega) (by omega) (x)).1
  obtain⟨t2,q2,ht2,le2,lu2,N2,h2⟩:=(ih q1 (by omega) (by omega) (x)).1
  obtain⟨v3,hv3,N3,h3⟩:=z1s fail _ pt2 w5i (fun fu hf K=>pt2_T fail fu hf K) [t1,t2] ⟨ht1,ht2,trivial⟩ (by simp)
  exact⟨v3,q2,hv3,by omega,by omega,N1 + N2 + N3 + 1000,fun fu hfu K=>by
   obtain⟨m,rfl⟩:∃ m,fu=m + 1:=⟨fu - 1,by omega⟩
   rw [p53,p53_b,hn,eqlF (a:=3) (b:=1) (by decide),cond_false,eqlF (a:=3) (b:=2) (by decide),p53_1,cond_false,eqlT (a:=3) (b:=3) rfl,cond_true,h1 m (by omega),h2 m (by omega),gd_y (by simp),z1z,h3 m (by omega)]⟩
 ·skip
  have l4:a < a1:=l3 (by decide)
  by_cases hx:0 < x
  ·obtain⟨v5,a5,_,_,l5,l6,_,hn5⟩:=z1t fail b hb a1 l2 x (by omega)
   exact⟨.mk 0 v5 ⟨#[]⟩ [] [],a5,⟨⟨by simp,trivial⟩,by simp,trivial⟩,by omega,by omega,1000,fun fu hfu K=>by
    obtain⟨m,rfl⟩:∃ m,fu=m + 1:=⟨fu - 1,by omega⟩
    rw [p53,p53_b,hn,eqlF (a:=4) (b:=1) (by decide),cond_false,eqlF (a:=4) (b:=2) (by decide),p53_1,cond_false,eqlF (a:=4) (b:=3) (by decide),cond_false,eqlT (a:=4) (b:=4) rfl,cond_true,gtrT hx,cond_true,hn5,p51];rfl⟩
  ·skip
   exact⟨pt3,a1,k0q,by omega,by omega,1000,fun fu hfu K=>by
    obtain⟨m,rfl⟩:∃ m,fu=m + 1:=⟨fu - 1,by omega⟩
    rw [p53,p53_b,hn,eqlF (a:=4) (b:=1) (by decide),cond_false,eqlF (a:=4) (b:=2) (by decide),p53_1,cond_false,eqlF (a:=4) (b:=3) (by decide),cond_false,eqlT (a:=4) (b:=4) rfl,cond_true,gtrF (show x≤0 by omega),cond_false,pt3_c fail m (by omega)]⟩
 ·skip
  have l4:a < a1:=l3 (by decide)
  obtain⟨t1,q1,ht1,le1,lu1,N1,h1⟩:=(ih a1 (by omega) (by omega) (x)).1
  obtain⟨v2,hv2,N2,h2⟩:=z1s fail _ pt4 w0j (fun fu hf K=>pt4_T fail fu hf K) [pt0,t1] ⟨z1q,ht1,trivial⟩ (by simp)
  exact⟨v2,q1,hv2,by omega,by omega,N1 + N2 + 1000,fun fu hfu K=>by
   obtain⟨m,rfl⟩:∃ m,fu=m + 1:=⟨fu - 1,by omega⟩
   rw [p53,p53_b,hn,eqlF (a:=5) (b:=1) (by decide),cond_false,eqlF (a:=5) (b:=2) (by decide),p53_1,cond_false,eqlF (a:=5) (b:=3) (by decide),cond_false,eqlF (a:=5) (b:=4) (by decide),cond_false,eqlT (a:=5) (b:=5) rfl,cond_true,pt0_c fail m (by omega),h1 m (by omega),gd_y (by simp),z1z,h2 m (by omega)]⟩
 ·skip
  have l4:a < a1:=l3 (by decide)
  obtain⟨t1,q1,ht1,le1,lu1,N1,h1⟩:=(ih a1 (by omega) (by omega) (x)).2
  obtain⟨t2,q2,ht2,le2,lu2,N2,h2⟩:=(ih q1 (by omega) (by omega) (x)).1
  obtain⟨v3,hv3,N3,h3⟩:=appE fail t1 t2 ht1 ht2
  exact⟨v3,q2,hv3,by omega,by omega,N1 + N2 + N3 + 1000,fun fu hfu K=>by
   obtain⟨m,rfl⟩:∃ m,fu=m + 1:=⟨fu - 1,by omega⟩
   rw [p53,p53_b,hn,eqlF (a:=6) (b:=1) (by decide),cond_false,eqlF (a:=6) (b:=2) (by decide),p53_1,cond_false,eqlF (a:=6) (b:=3) (by decide),cond_false,eqlF (a:=6) (b:=4) (by decide),cond_false,eqlF (a:=6) (b:=5) (by decide),cond_false,eqlT (a:=6) (b:=6) rfl,cond_true,h1 m (by omega),h2 m (by omega),h3 m (by omega)]⟩
 ·skip
  have l4:a < a1:=l3 (by decide)
  obtain⟨t1,q1,ht1,le1,lu1,N1,h1⟩:=(ih a1 (by omega) (by omega) (x)).1
  obtain⟨t2,q2,ht2,le2,lu2,N2,h2⟩:=(ih q1 (by omega) (by omega) (z0d .add .i64 x 1)).1
  exact⟨(.mk 6 0 ⟨#[]⟩ [] [pt0,t1,t2]),q2,⟨⟨by simp,trivial⟩,by simp,z1q,ht1,ht2,trivial⟩,by omega,by omega,N1 + N2 + 1000,fun fu hfu K=>by
   obtain⟨m,rfl⟩:∃ m,fu=m + 1:=⟨fu - 1,by omega⟩
   rw [p53,p53_b,hn,eqlF (a:=7) (b:=1) (by decide),cond_false,eqlF (a:=7) (b:=2) (by decide),p53_1,cond_false,eqlF (a:=7) (b:=3) (by decide),cond_false,eqlF (a:=7) (b:=4) (by decide),cond_false,eqlF (a:=7) (b:=5) (by decide),cond_false,eqlF (a:=7) (b:=6) (by decide),cond_false,eqlT (a:=7) (b:=7) rfl,cond_true,h1 m (by omega),pt0_c fail m (by omega),h2 m (by omega),gd_y (by simp),w0e];rfl⟩
 ·skip
  have l4:a < a1:=l3 (by decide)
  obtain⟨t1,q1,ht1,le1,lu1,N1,h1⟩:=(ih a1 (by omega) (by omega) (x)).1
  obtain⟨t2,q2,ht2,le2,lu2,N2,h2⟩:=(ih q1 (by omega) (by omega) (z0d .add .i64 x 2)).1
  obtain⟨v3,hv3,N3,h3⟩:=lamE fail pt0 t2 z1q ht2
  obtain⟨v4,hv4,N4,h4⟩:=lamE fail pt0 v3 z1q hv3
  obtain⟨t5,q5,ht5,le5,lu5,N5,h5⟩:=(ih q2 (by omega) (by omega) (x)).1
  obtain⟨v6,hv6,N6,h6⟩:=z1s fail _ pt6 k0p (fun fu hf K=>pt6_T fail fu hf K) [pt7,t1,v4,t5] ⟨k0o,ht1,hv4,ht5,trivial⟩ (by simp)
  exact⟨v6,q5,hv6,by omega,by omega,N1 + N2 + N3 + N4 + N5 + N6 + 1000,fun fu hfu K=>by
   obtain⟨m,rfl⟩:∃ m,fu=m + 1:=⟨fu - 1,by omega⟩
   rw [p53,p53_b,hn,eqlF (a:=8) (b:=1) (by decide),cond_false,eqlF (a:=8) (b:=2) (by decide),p53_1,cond_false,eqlF (a:=8) (b:=3) (by decide),cond_false,eqlF (a:=8) (b:=4) (by decide),cond_false,eqlF (a:=8) (b:=5) (by decide),cond_false,eqlF (a:=8) (b:=6) (by decide),cond_false,eqlF (a:=8) (b:=7) (by decide),cond_false,eqlT (a:=8) (b:=8) rfl,cond_true,h1 m (by omega),pt0_c fail m (by omega),pt0_c fail m (by omega),h2 m (by omega),h3 m (by omega),h4 m (by omega),pt7_T fail m (by omega),h5 m (by omega),gd_y (by simp),w5a,h6 m (by omega)]⟩
include hb in
theorem w5u (a:Nat) (ha:a≤b.length) (ih:∀ a2,a≤a2→a2≤b.length→∀ x,NatS fail b a2 x) (x:Int):FunS fail b a x:=by
 obtain⟨v,a1,hv1,hv2,l1,l2,l3,hn⟩:=z1t fail b hb a ha 4 (by omega)
 rcases (by omega:v=0∨v=1∨v=2∨v=3) with rfl | rfl | rfl | rfl
 ·skip
  obtain⟨t1,q1,ht1,le1,lu1,N1,h1⟩:=ih a1 (by omega) (by omega) (z0d .add .i64 x 1)
  obtain⟨v2,hv2,N2,h2⟩:=lamE fail pt0 t1 z1q ht1
  exact⟨v2,q1,hv2,by omega,by omega,N1 + N2 + 1000,fun fu hfu K=>by
   obtain⟨m,rfl⟩:∃ m,fu=m + 1:=⟨fu - 1,by omega⟩
   rw [p54b,p54b_b,hn,eqlT (a:=0) (b:=0) rfl,cond_true,pt0_c fail m (by omega),h1 m (by omega),h2 m (by omega)]⟩
 ·skip
  exact⟨pt1,a1,w0k,by omega,by omega,1000,fun fu hfu K=>by
   obtain⟨m,rfl⟩:∃ m,fu=m + 1:=⟨fu - 1,by omega⟩
   rw [p54b,p54b_b,hn,eqlF (a:=1) (b:=0) (by decide),cond_false,eqlT (a:=1) (b:=1) rfl,cond_true,pt1_c fail m (by omega)]⟩
 ·skip
  obtain⟨t1,q1,ht1,le1,lu1,N1,h1⟩:=ih a1 (by omega) (by omega) (x)
  obtain⟨v2,hv2,N2,h2⟩:=z1s fail _ pt2 w5i (fun fu hf K=>pt2_T fail fu hf K) [t1] ⟨ht1,trivial⟩ (by simp)
  exact⟨v2,q1,hv2,by omega,by omega,N1 + N2 + 1000,fun fu hfu K=>by
   obtain⟨m,rfl⟩:∃ m,fu=m + 1:=⟨fu - 1,by omega⟩
   rw [p54b,p54b_b,hn,eqlF (a:=2) (b:=0) (by decide),cond_false,eqlF (a:=2) (b:=1) (by decide),cond_false,eqlT (a:=2) (b:=2) rfl,cond_true,h1 m (by omega),gd_y (by simp),z2g,h2 m (by omega)]⟩
 ·skip
  obtain⟨t1,q1,ht1,le1,lu1,N1,h1⟩:=ih a1 (by omega) (by omega) (z0d .add .i64 x 1)
  obtain⟨v2,hv2,N2,h2⟩:=lamE fail pt0 t1 z1q ht1
  obtain⟨v3,hv3,N3,h3⟩:=z1s fail _ pt4 w0j (fun fu hf K=>pt4_T fail fu hf K) [pt8,v2] ⟨k0n,hv2,trivial⟩ (by simp)
  exact⟨v3,q1,hv3,by omega,by omega,N1 + N2 + N3 + 1000,fun fu hfu K=>by
   obtain⟨m,rfl⟩:∃ m,fu=m + 1:=⟨fu - 1,by omega⟩
   rw [p54b,p54b_b,hn,eqlF (a:=3) (b:=0) (by decide),cond_false,eqlF (a:=3) (b:=1) (by decide),cond_false,eqlF (a:=3) (b:=2) (by decide),cond_false,pt8_T fail m (by omega),pt0_c fail m (by omega),h1 m (by omega),h2 m (by omega),gd_y (by simp),z1z,h3 m (by omega)]⟩
include hb in
theorem k1p:∀ (r a:Nat),a≤b.length→b.length - a≤r→∀ x,NatS fail b a x∧FunS fail b a x:=by
 intro r
 induction r with
 | zero =>
  intro a ha hr x
  have hN:=w5m fail b hb a ha (fun a2 h1 h2=>by omega)
  refine⟨hN x,w5u fail b hb a ha (fun a2 h1 h2=>?_) x⟩
  obtain rfl:a2=a:=by omega
  exact hN
 | succ r ih =>
  intro a ha hr x
  have hN:=w5m fail b hb a ha (fun a2 h1 h2=>ih a2 h2 (by omega))
  refine⟨hN x,w5u fail b hb a ha (fun a2 h1 h2 y=>?_) x⟩
  by_cases h:a2=a
  ·subst h;exact hN y
  ·exact (ih a2 h2 (by omega) y).1
include hb in
theorem z4n (a:Nat) (ha:a≤b.length) (x:Int):NatS fail b a x:=(k1p fail b hb _ a ha (Nat.le_refl _) x).1
include hb in
theorem k2i (a:Nat) (ha:a≤b.length) (x:Int):FunS fail b a x:=(k1p fail b hb _ a ha (Nat.le_refl _) x).2
include hb in
theorem w2a (a:Nat) (ha:a≤b.length) (ih:∀ a2,a < a2→a2≤b.length→∀ x,PropS fail b a2 x) (x:Int):PropS fail b a x:=by
 obtain⟨v,a1,hv1,hv2,l1,l2,l3,hn⟩:=z1t fail b hb a ha 6 (by omega)
 rcases (by omega:v=0∨v=1∨v=2∨v=3∨v=4∨v=5) with rfl | rfl | rfl | rfl | rfl | rfl
 ·skip
  obtain⟨t1,q1,ht1,le1,lu1,N1,h1⟩:=z4n fail b hb a1 (by omega) (x)
  obtain⟨v2,hv2,N2,h2⟩:=z1s fail _ pt13 z5y (fun fu hf K=>w5j fail fu hf K) [t1] ⟨ht1,trivial⟩ (by simp)
  exact⟨v2,q1,hv2,by omega,by omega,N1 + N2 + 1000,fun fu hfu K=>by
   obtain⟨m,rfl⟩:∃ m,fu=m + 1:=⟨fu - 1,by omega⟩
   rw [p55,p55_b,hn,eqlF (a:=0) (b:=1) (by decide),cond_false,eqlF (a:=0) (b:=2) (by decide),cond_false,eqlF (a:=0) (b:=3) (by decide),cond_false,eqlF (a:=0) (b:=4) (by decide),cond_false,eqlF (a:=0) (b:=5) (by decide),cond_false,p55_1,h1 m (by omega),gd_y (by simp),z2g,h2 m (by omega)]⟩
 ·skip
  have l4:a < a1:=l3 (by decide)
  obtain⟨t1,q1,ht1,le1,lu1,N1,h1⟩:=z4n fail b hb a1 (by omega) (x)
  obtain⟨t2,q2,ht2,le2,lu2,N2,h2⟩:=z4n fail b hb q1 (by omega) (x)
  obtain⟨v3,hv3,N3,h3⟩:=z1s fail _ pt9 w5g (fun fu hf K=>pt9_T fail fu hf K) [pt0,t1,t2] ⟨z1q,ht1,ht2,trivial⟩ (by simp)
  exact⟨v3,q2,hv3,by omega,by omega,N1 + N2 + N3 + 1000,fun fu hfu K=>by
   obtain⟨m,rfl⟩:∃ m,fu=m + 1:=⟨fu - 1,by omega⟩
   rw [p55,p55_b,hn,eqlT (a:=1) (b:=1) rfl,cond_true,h1 m (by omega),pt0_c fail m (by omega),h2 m (by omega),gd_y (by simp),w0e,h3 m (by omega)]⟩
 ·skip
  have l4:a < a1:=l3 (by decide)
  obtain⟨t1,q1,ht1,le1,lu1,N1,h1⟩:=ih a1 (by omega) (by omega) (x)
  obtain⟨t2,q2,ht2,le2,lu2,N2,h2⟩:=ih q1 (by omega) (by omega) (x)
  obtain⟨v3,hv3,N3,h3⟩:=z1s fail _ pt10 w1z (fun fu hf K=>k1n fail fu hf K) [t1,t2] ⟨ht1,ht2,trivial⟩ (by simp)
  exact⟨v3,q2,hv3,by omega,by omega,N1 + N2 + N3 + 1000,fun fu hfu K=>by
   obtain⟨m,rfl⟩:∃ m,fu=m + 1:=⟨fu - 1,by omega⟩
   rw [p55,p55_b,hn,eqlF (a:=2) (b:=1) (by decide),cond_false,eqlT (a:=2) (b:=2) rfl,cond_true,h1 m (by omega),h2 m (by omega),gd_y (by simp),z1z,h3 m (by omega)]⟩
 ·skip
  have l4:a < a1:=l3 (by decide)
  obtain⟨t1,q1,ht1,le1,lu1,N1,h1⟩:=ih a1 (by omega) (by omega) (z0d .add .i64 x 1)
  obtain⟨v2,hv2,N2,h2⟩:=piE fail pt0 t1 z1q ht1
  exact⟨v2,q1,hv2,by omega,by omega,N1 + N2 + 1000,fun fu hfu K=>by
   obtain⟨m,rfl⟩:∃ m,fu=m + 1:=⟨fu - 1,by omega⟩
   rw [p55,p55_b,hn,eqlF (a:=3) (b:=1) (by decide),cond_false,eqlF (a:=3) (b:=2) (by decide),cond_false,eqlT (a:=3) (b:=3) rfl,cond_true,pt0_c fail m (by omega),h1 m (by omega),h2 m (by omega)]⟩
 ·skip
  have l4:a < a1:=l3 (by decide)
  obtain⟨t1,q1,ht1,le1,lu1,N1,h1⟩:=ih a1 (by omega) (by omega) (x)
  obtain⟨v2,hv2,N2,h2⟩:=z1s fail _ pt11 w8m (fun fu hf K=>pt11_T fail fu hf K) [t1] ⟨ht1,trivial⟩ (by simp)
  exact⟨v2,q1,hv2,by omega,by omega,N1 + N2 + 1000,fun fu hfu K=>by
   obtain⟨m,rfl⟩:∃ m,fu=m + 1:=⟨fu - 1,by omega⟩
   rw [p55,p55_b,hn,eqlF (a:=4) (b:=1) (by decide),cond_false,eqlF (a:=4) (b:=2) (by decide),cond_false,eqlF (a:=4) (b:=3) (by decide),cond_false,eqlT (a:=4) (b:=4) rfl,cond_true,h1 m (by omega),gd_y (by simp),z2g,h2 m (by omega)]⟩
 ·skip
  have l4:a < a1:=l3 (by decide)
  by_cases hx:a1 < b.length
  ·skip
   obtain⟨t1,q1,ht1,le1,lu1,N1,h1⟩:=ih a1 (by omega) (by omega) (x)
   obtain⟨v2,hv2,N2,h2⟩:=z1s fail _ pt4 w0j (fun fu hf K=>pt4_T fail fu hf K) [pt12,t1] ⟨w1y,ht1,trivial⟩ (by simp)
   exact⟨v2,q1,hv2,by omega,by omega,N1 + N2 + 1000,fun fu hfu K=>by
    obtain⟨m,rfl⟩:∃ m,fu=m + 1:=⟨fu - 1,by omega⟩
    rw [p55,p55_b,hn,eqlF (a:=5) (b:=1) (by decide),cond_false,eqlF (a:=5) (b:=2) (by decide),cond_false,eqlF (a:=5) (b:=3) (by decide),cond_false,eqlF (a:=5) (b:=4) (by decide),cond_false,eqlT (a:=5) (b:=5) rfl,cond_true,p105,z0g,geqF (show ((a1:Nat):Int) < ((b.length:Nat):Int) by omega),Bool.not_false,cond_true,k1m fail m (by omega),h1 m (by omega),gd_y (by simp),z1z,h2 m (by omega)]⟩
  ·skip
   obtain⟨t1,q1,ht1,le1,lu1,N1,h1⟩:=z4n fail b hb a1 (by omega) (x)
   obtain⟨v2,hv2,N2,h2⟩:=z1s fail _ pt13 z5y (fun fu hf K=>w5j fail fu hf K) [t1] ⟨ht1,trivial⟩ (by simp)
   exact⟨v2,q1,hv2,by omega,by omega,N1 + N2 + 1000,fun fu hfu K=>by
    obtain⟨m,rfl⟩:∃ m,fu=m + 1:=⟨fu - 1,by omega⟩
    rw [p55,p55_b,hn,eqlF (a:=5) (b:=1) (by decide),cond_false,eqlF (a:=5) (b:=2) (by decide),cond_false,eqlF (a:=5) (b:=3) (by decide),cond_false,eqlF (a:=5) (b:=4) (by decide),cond_false,eqlT (a:=5) (b:=5) rfl,cond_true,p105,z0g,geqT (show ((b.length:Nat):Int)≤((a1:Nat):Int) by omega),Bool.not_true,cond_false,p55_1,h1 m (by omega),gd_y (by simp),z2g,h2 m (by omega)]⟩
include hb in
theorem w5k:∀ (r a:Nat),a≤b.length→b.length - a≤r→∀ x,PropS fail b a x:=by
 intro r
 induction r with
 | zero=>intro a ha hr x;exact w2a fail b hb a ha (fun a2 h1 h2=>by omega) x
 | succ r ih=>intro a ha hr x;exact w2a fail b hb a ha (fun a2 h1 h2=>ih a2 h2 (by omega)) x
include hb in
theorem z9i (a:Nat) (ha:a≤b.length) (ih:∀ a2,a < a2→a2≤b.length→∀ x,k0b fail b a2 x) (x:Int):k0b fail b a x:=by
 obtain⟨v,a1,hv1,hv2,l1,l2,l3,hn⟩:=z1t fail b hb a ha 6 (by omega)
 rcases (by omega:v=0∨v=1∨v=2∨v=3∨v=4∨v=5) with rfl | rfl | rfl | rfl | rfl | rfl
 ·skip
  obtain⟨t1,q1,ht1,le1,lu1,N1,h1⟩:=z4n fail b hb a1 (by omega) (x)
  obtain⟨v2,hv2,N2,h2⟩:=z1s fail _ pt17 w1x (fun fu hf K=>k1l fail fu hf K) [t1] ⟨ht1,trivial⟩ (by simp)
  obtain⟨v3,hv3,N3,h3⟩:=z1s fail _ pt13 z5y (fun fu hf K=>w5j fail fu hf K) [t1] ⟨ht1,trivial⟩ (by simp)
  exact⟨v2,v3,q1,hv2,hv3,by omega,by omega,N1 + N2 + N3 + 1000,fun fu hfu K=>by
   obtain⟨m,rfl⟩:∃ m,fu=m + 1:=⟨fu - 1,by omega⟩
   rw [p56,p56_b,hn,eqlF (a:=0) (b:=1) (by decide),cond_false,eqlF (a:=0) (b:=2) (by decide),cond_false,eqlF (a:=0) (b:=3) (by decide),cond_false,eqlF (a:=0) (b:=4) (by decide),cond_false,eqlF (a:=0) (b:=5) (by decide),cond_false,p56_3,h1 m (by omega),gd_y (by simp),z2g,h2 m (by omega),gd_y (by simp),h3 m (by omega),p56_2]⟩
 ·skip
  have l4:a < a1:=l3 (by decide)
  obtain⟨t1,q1,ht1,le1,lu1,N1,h1⟩:=z4n fail b hb a1 (by omega) (x)
  obtain⟨v2,hv2,N2,h2⟩:=z1s fail _ pt14 w8l (fun fu hf K=>pt14_T fail fu hf K) [pt0,t1] ⟨z1q,ht1,trivial⟩ (by simp)
  obtain⟨v3,hv3,N3,h3⟩:=z1s fail _ pt9 w5g (fun fu hf K=>pt9_T fail fu hf K) [pt0,t1,t1] ⟨z1q,ht1,ht1,trivial⟩ (by simp)
  exact⟨v2,v3,q1,hv2,hv3,by omega,by omega,N1 + N2 + N3 + 1000,fun fu hfu K=>by
   obtain⟨m,rfl⟩:∃ m,fu=m + 1:=⟨fu - 1,by omega⟩
   rw [p56,p56_b,hn,eqlT (a:=1) (b:=1) rfl,cond_true,h1 m (by omega),pt0_c fail m (by omega),gd_y (by simp),z1z,h2 m (by omega),pt0_c fail m (by omega),gd_y (by simp),w0e,h3 m (by omega)]⟩
 ·skip
  have l4:a < a1:=l3 (by decide)
  obtain⟨t1,u1,q1,ht1,hu1,le1,lu1,N1,h1⟩:=ih a1 (by omega) (by omega) (x)
  obtain⟨t2,u2,q2,ht2,hu2,le2,lu2,N2,h2⟩:=ih q1 (by omega) (by omega) (x)
  obtain⟨v3,hv3,N3,h3⟩:=z1s fail _ pt15 w8k (fun fu hf K=>pt15_T fail fu hf K) [u1,u2,t1,t2] ⟨hu1,hu2,ht1,ht2,trivial⟩ (by simp)
  obtain⟨v4,hv4,N4,h4⟩:=z1s fail _ pt10 w1z (fun fu hf K=>k1n fail fu hf K) [u1,u2] ⟨hu1,hu2,trivial⟩ (by simp)
  exact⟨v3,v4,q2,hv3,hv4,by omega,by omega,N1 + N2 + N3 + N4 + 1000,fun fu hfu K=>by
   obtain⟨m,rfl⟩:∃ m,fu=m + 1:=⟨fu - 1,by omega⟩
   rw [p56,p56_b,hn,eqlF (a:=2) (b:=1) (by decide),cond_false,eqlT (a:=2) (b:=2) rfl,cond_true,h1 m (by omega),h2 m (by omega),gd_y (by simp),w5a,h3 m (by omega),gd_y (by simp),z1z,h4 m (by omega),p56_1]⟩
 ·skip
  have l4:a < a1:=l3 (by decide)
  obtain⟨t1,u1,q1,ht1,hu1,le1,lu1,N1,h1⟩:=ih a1 (by omega) (by omega) (z0d .add .i64 x 1)
  obtain⟨v2,hv2,N2,h2⟩:=lamE fail pt0 t1 z1q ht1
  obtain⟨v3,hv3,N3,h3⟩:=piE fail pt0 u1 z1q hu1
  exact⟨v2,v3,q1,hv2,hv3,by omega,by omega,N1 + N2 + N3 + 1000,fun fu hfu K=>by
   obtain⟨m,rfl⟩:∃ m,fu=m + 1:=⟨fu - 1,by omega⟩
   rw [p56,p56_b,hn,eqlF (a:=3) (b:=1) (by decide),cond_false,eqlF (a:=3) (b:=2) (by decide),cond_false,eqlT (a:=3) (b:=3) rfl,cond_true,h1 m (by omega),pt0_c fail m (by omega),h2 m (by omega),pt0_c fail m (by omega),h3 m (by omega)]⟩
 ·skip
  have l4:a < a1:=l3 (by decide)
  obtain⟨t1,q1,ht1,le1,lu1,N1,h1⟩:=w5k fail b hb _ a1 (by omega) (Nat.le_refl _) (x)
  obtain⟨v2,hv2,N2,h2⟩:=lamE fail t1 (.mk 0 0 ⟨#[]⟩ [] []) ht1 ⟨⟨by simp,trivial⟩,by simp,trivial⟩
  have g2:∀ fu,N2≤fu→∀ K:Int→Int→ByteArray→EL→EL→ρ,p103 fail fu K t1.k t1.n t1.nm (Lv.rows t1.ls) (Tm.rows t1.args) 0 0 ⟨#[]⟩ nilE nilE=K v2.k v2.n v2.nm (Lv.rows v2.ls) (Tm.rows v2.args):=h2
  obtain⟨v3,hv3,N3,h3⟩:=liftE fail t1 ht1 1 0
  obtain⟨v4,hv4,N4,h4⟩:=piE fail t1 v3 ht1 hv3
  exact⟨v2,v4,q1,hv2,hv4,by omega,by omega,N1 + N2 + N3 + N4 + 1000,fun fu hfu K=>by
   obtain⟨m,rfl⟩:∃ m,fu=m + 1:=⟨fu - 1,by omega⟩
   rw [p56,p56_b,hn,eqlF (a:=4) (b:=1) (by decide),cond_false,eqlF (a:=4) (b:=2) (by decide),cond_false,eqlF (a:=4) (b:=3) (by decide),cond_false,eqlT (a:=4) (b:=4) rfl,cond_true,h1 m (by omega),p51,g2 m (by omega),h3 m (by omega),h4 m (by omega)]⟩
 ·skip
  have l4:a < a1:=l3 (by decide)
  by_cases hx:a1 < b.length
  ·skip
   obtain⟨t1,u1,q1,ht1,hu1,le1,lu1,N1,h1⟩:=ih a1 (by omega) (by omega) (x)
   obtain⟨v2,hv2,N2,h2⟩:=z1s fail _ pt16 w8j (fun fu hf K=>pt16_T fail fu hf K) [u1,t1] ⟨hu1,ht1,trivial⟩ (by simp)
   exact⟨v2,u1,q1,hv2,hu1,by omega,by omega,N1 + N2 + 1000,fun fu hfu K=>by
    obtain⟨m,rfl⟩:∃ m,fu=m + 1:=⟨fu - 1,by omega⟩
    rw [p56,p56_b,hn,eqlF (a:=5) (b:=1) (by decide),cond_false,eqlF (a:=5) (b:=2) (by decide),cond_false,eqlF (a:=5) (b:=3) (by decide),cond_false,eqlF (a:=5) (b:=4) (by decide),cond_false,eqlT (a:=5) (b:=5) rfl,cond_true,p105,z0g,geqF (show ((a1:Nat):Int) < ((b.length:Nat):Int) by omega),Bool.not_false,cond_true,h1 m (by omega),gd_y (by simp),z1z,h2 m (by omega)]⟩
  ·skip
   obtain⟨t1,q1,ht1,le1,lu1,N1,h1⟩:=z4n fail b hb a1 (by omega) (x)
   obtain⟨v2,hv2,N2,h2⟩:=z1s fail _ pt17 w1x (fun fu hf K=>k1l fail fu hf K) [t1] ⟨ht1,trivial⟩ (by simp)
   obtain⟨v3,hv3,N3,h3⟩:=z1s fail _ pt13 z5y (fun fu hf K=>w5j fail fu hf K) [t1] ⟨ht1,trivial⟩ (by simp)
   exact⟨v2,v3,q1,hv2,hv3,by omega,by omega,N1 + N2 + N3 + 1000,fun fu hfu K=>by
    obtain⟨m,rfl⟩:∃ m,fu=m + 1:=⟨fu - 1,by omega⟩
    rw [p56,p56_b,hn,eqlF (a:=5) (b:=1) (by decide),cond_false,eqlF (a:=5) (b:=2) (by decide),cond_false,eqlF (a:=5) (b:=3) (by decide),cond_false,eqlF (a:=5) (b:=4) (by decide),cond_false,eqlT (a:=5) (b:=5) rfl,cond_true,p105,z0g,geqT (show ((b.length:Nat):Int)≤((a1:Nat):Int) by omega),Bool.not_true,cond_false,p56_3,h1 m (by omega),gd_y (by simp),z2g,h2 m (by omega),gd_y (by simp),h3 m (by omega),p56_2]⟩
include hb in
theorem w1k:∀ (r a:Nat),a≤b.length→b.length - a≤r→∀ x,k0b fail b a x:=by
 intro r
 induction r with
 | zero=>intro a ha hr x;exact z9i fail b hb a ha (fun a2 h1 h2=>by omega) x
 | succ r ih=>intro a ha hr x;exact z9i fail b hb a ha (fun a2 h1 h2=>ih a2 h2 (by omega)) x
theorem lsuccE (t:Lv) (ht:t.thin):∃ v:Lv,v.thin∧∃ N:Nat,∀ fu,N≤fu→∀ K:Int→Int→EL→ρ,p78 fail fu K t.k t.n (Lv.rows t.args)=K v.k v.n (Lv.rows v.args):=⟨.mk 1 0 [t],⟨by simp,ht,trivial⟩,t.sz + 20,fun fu hf K=>by rw [p78,z2f fail t ht fu _ hf,gd_y (by simp),z7n];rfl⟩
theorem lmaxE (t u:Lv) (ht:t.thin) (hu:u.thin):∃ v:Lv,v.thin∧∃ N:Nat,∀ fu,N≤fu→∀ K:Int→Int→EL→ρ,p79 fail fu K t.k t.n (Lv.rows t.args) u.k u.n (Lv.rows u.args)=K v.k v.n (Lv.rows v.args):=⟨.mk 2 0 [t,u],⟨by simp,ht,hu,trivial⟩,t.sz + u.sz + 20,fun fu hf K=>by rw [p79,z2f fail t ht fu _ (by omega),z2f fail u hu fu _ (by omega),gd_y (by simp),w5n];rfl⟩
theorem limaxE (t u:Lv) (ht:t.thin) (hu:u.thin):∃ v:Lv,v.thin∧∃ N:Nat,∀ fu,N≤fu→∀ K:Int→Int→EL→ρ,p80 fail fu K t.k t.n (Lv.rows t.args) u.k u.n (Lv.rows u.args)=K v.k v.n (Lv.rows v.args):=⟨.mk 3 0 [t,u],⟨by simp,ht,hu,trivial⟩,t.sz + u.sz + 20,fun fu hf K=>by rw [p80,z2f fail t ht fu _ (by omega),z2f fail u hu fu _ (by omega),gd_y (by simp),w5n];rfl⟩
include hb in
theorem z9r (a:Nat) (ha:a≤b.length) (ih:∀ a2,a < a2→a2≤b.length→∀ x,k0d fail b a2 x) (x:Int):k0d fail b a x:=by
 obtain⟨v,a1,hv1,hv2,l1,l2,l3,hn⟩:=z1t fail b hb a ha 6 (by omega)
 rcases (by omega:v=0∨v=1∨v=2∨v=3∨v=4∨v=5) with rfl | rfl | rfl | rfl | rfl | rfl
 ·skip
  exact⟨(.mk 0 0 []),a1,⟨by simp,trivial⟩,by omega,by omega,1000,fun fu hfu K=>by
   obtain⟨m,rfl⟩:∃ m,fu=m + 1:=⟨fu - 1,by omega⟩
   rw [p39,p39_b,hn,eqlF (a:=0) (b:=1) (by decide),cond_false,eqlF (a:=0) (b:=2) (by decide),cond_false,eqlF (a:=0) (b:=3) (by decide),cond_false,eqlF (a:=0) (b:=4) (by decide),cond_false,eqlF (a:=0) (b:=5) (by decide),p39_2,cond_false,p39_1,p50];rfl⟩
 ·skip
  have l4:a < a1:=l3 (by decide)
  obtain⟨t1,q1,ht1,le1,lu1,N1,h1⟩:=ih a1 (by omega) (by omega) (x)
  obtain⟨v2,hv2,N2,h2⟩:=lsuccE fail t1 ht1
  exact⟨v2,q1,hv2,by omega,by omega,N1 + N2 + 1000,fun fu hfu K=>by
   obtain⟨m,rfl⟩:∃ m,fu=m + 1:=⟨fu - 1,by omega⟩
   rw [p39,p39_b,hn,eqlT (a:=1) (b:=1) rfl,cond_true,h1 m (by omega),h2 m (by omega)]⟩
 ·skip
  have l4:a < a1:=l3 (by decide)
  obtain⟨t1,q1,ht1,le1,lu1,N1,h1⟩:=ih a1 (by omega) (by omega) (x)
  obtain⟨t2,q2,ht2,le2,lu2,N2,h2⟩:=ih q1 (by omega) (by omega) (x)
  obtain⟨v3,hv3,N3,h3⟩:=lmaxE fail t1 t2 ht1 ht2
  exact⟨v3,q2,hv3,by omega,by omega,N1 + N2 + N3 + 1000,fun fu hfu K=>by
   obtain⟨m,rfl⟩:∃ m,fu=m + 1:=⟨fu - 1,by omega⟩
   rw [p39,p39_b,hn,eqlF (a:=2) (b:=1) (by decide),cond_false,eqlT (a:=2) (b:=2) rfl,cond_true,h1 m (by omega),h2 m (by omega),h3 m (by omega)]⟩
 ·skip
  have l4:a < a1:=l3 (by decide)
  obtain⟨t1,q1,ht1,le1,lu1,N1,h1⟩:=ih a1 (by omega) (by omega) (x)
  obtain⟨t2,q2,ht2,le2,lu2,N2,h2⟩:=ih q1 (by omega) (by omega) (x)
  obtain⟨v3,hv3,N3,h3⟩:=limaxE fail t1 t2 ht1 ht2
  exact⟨v3,q2,hv3,by omega,by omega,N1 + N2 + N3 + 1000,fun fu hfu K=>by
   obtain⟨m,rfl⟩:∃ m,fu=m + 1:=⟨fu - 1,by omega⟩
   rw [p39,p39_b,hn,eqlF (a:=3) (b:=1) (by decide),cond_false,eqlF (a:=3) (b:=2) (by decide),cond_false,eqlT (a:=3) (b:=3) rfl,cond_true,h1 m (by omega),h2 m (by omega),h3 m (by omega)]⟩
 ·skip
  have l4:a < a1:=l3 (by decide)
  by_cases hx:0 < x
  ·obtain⟨v5,a5,_,_,l5,l6,_,hn5⟩:=z1t fail b hb a1 l2 x (by omega)
   exact⟨.mk 4 v5 [],a5,⟨by simp,trivial⟩,by omega,by omega,1000,fun fu hfu K=>by
    obtain⟨m,rfl⟩:∃ m,fu=m + 1:=⟨fu - 1,by omega⟩
    rw [p39,p39_b,hn,eqlF (a:=4) (b:=1) (by decide),cond_false,eqlF (a:=4) (b:=2) (by decide),cond_false,eqlF (a:=4) (b:=3) (by decide),cond_false,eqlT (a:=4) (b:=4) rfl,cond_true,p39_2,cond_true,gtrT hx,cond_true,hn5,p81];rfl⟩
  ·skip
   exact⟨(.mk 0 0 []),a1,⟨by simp,trivial⟩,by omega,by omega,1000,fun fu hfu K=>by
    obtain⟨m,rfl⟩:∃ m,fu=m + 1:=⟨fu - 1,by omega⟩
    rw [p39,p39_b,hn,eqlF (a:=4) (b:=1) (by decide),cond_false,eqlF (a:=4) (b:=2) (by decide),cond_false,eqlF (a:=4) (b:=3) (by decide),cond_false,eqlT (a:=4) (b:=4) rfl,cond_true,p39_2,cond_true,gtrF (show x≤0 by omega),cond_false,p39_1,p50];rfl⟩
 ·skip
  have l4:a < a1:=l3 (by decide)
  by_cases hx:0 < x
  ·obtain⟨v5,a5,_,_,l5,l6,_,hn5⟩:=z1t fail b hb a1 l2 x (by omega)
   exact⟨.mk 4 v5 [],a5,⟨by simp,trivial⟩,by omega,by omega,1000,fun fu hfu K=>by
    obtain⟨m,rfl⟩:∃ m,fu=m + 1:=⟨fu - 1,by omega⟩
    rw [p39,p39_b,hn,eqlF (a:=5) (b:=1) (by decide),cond_false,eqlF (a:=5) (b:=2) (by decide),cond_false,eqlF (a:=5) (b:=3) (by decide),cond_false,eqlF (a:=5) (b:=4) (by decide),cond_false,eqlT (a:=5) (b:=5) rfl,p39_2,cond_true,gtrT hx,cond_true,hn5,p81];rfl⟩
  ·skip
   exact⟨(.mk 0 0 []),a1,⟨by simp,trivial⟩,by omega,by omega,1000,fun fu hfu K=>by
    obtain⟨m,rfl⟩:∃ m,fu=m + 1:=⟨fu - 1,by omega⟩
    rw [p39,p39_b,hn,eqlF (a:=5) (b:=1) (by decide),cond_false,eqlF (a:=5) (b:=2) (by decide),cond_false,eqlF (a:=5) (b:=3) (by decide),cond_false,eqlF (a:=5) (b:=4) (by decide),cond_false,eqlT (a:=5) (b:=5) rfl,p39_2,cond_true,gtrF (show x≤0 by omega),cond_false,p39_1,p50];rfl⟩
include hb in
theorem w8u:∀ (r a:Nat),a≤b.length→b.length - a≤r→∀ x,k0d fail b a x:=by
 intro r
 induction r with
 | zero=>intro a ha hr x;exact z9r fail b hb a ha (fun a2 h1 h2=>by omega) x
 | succ r ih=>intro a ha hr x;exact z9r fail b hb a ha (fun a2 h1 h2=>ih a2 h2 (by omega)) x
end
def p58_1 {ρ:Type} (fail:ρ) (fu:Nat) (s_p58:(Int→Int→ByteArray→EL→EL→EL→Int→ρ)→EL→Int→Int→Int→ByteArray→EL→EL→ρ) (K0:Int→Int→ByteArray→EL→EL→EL→Int→ρ) (x2 x3:Int) (x4:ByteArray) (x5 x6 j1:EL) (j2:Int) (j3:Bool):ρ :=
 bif j3 then (p52 fail fu (fun y4 y5 y6=>p100b fail fu (fun y7 y8 y9 y10 y11=>gd ((0:Int)≤y4) fail (gd ((y4:Int) < (x6.length:Nat)) fail (z0i fail (List.getD x6 ((y4:Int).toNat) []) (fun c12 c13 c14 c15 c16=>s_p58 (fun y17 y18 y19 y20 y21 y22 y23=>gd ((0:Int)≤y4) fail (gd ((y4:Int) < (y11.length:Nat)) fail (gd (((y4:Int).toNat) + 1≤y11.length) fail (gd (0 + 5≤(List.getD y11 ((y4:Int).toNat) []).length) fail (gd (y11.length≤(List.set y11 ((y4:Int).toNat) (putAt (List.getD y11 ((y4:Int).toNat) []) 0 [(CV.v (.int .i64 y17)),(CV.v (.int .i64 y18)),(CV.v (.string y19)),(CV.sl 3 y20 none),(CV.sl 5 y21 none)])).length) fail (K0 y7 y8 y9 y10 (List.take y11.length (List.set y11 ((y4:Int).toNat) (putAt (List.getD y11 ((y4:Int).toNat) []) 0 [(CV.v (.int .i64 y17)),(CV.v (.int .i64 y18)),(CV.v (.string y19)),(CV.sl 3 y20 none),(CV.sl 5 y21 none)]))) y22 y23)))))) y5 y6 c12 c13 c14 c15 c16)))) x2 x3 x4 x5 x6) j1 j2 ((x6.length:Nat):Int)) else (p52 fail fu (fun y24 y25 y26=>bif (z0a .eql y24 0) then (p57 fail fu (fun y27 y28 y29 y30 y31=>K0 y27 y28 y29 y30 y31 y25 y26) ⟨#[122,101,114,111]⟩) else (bif (z0a .eql y24 1) then (p52 fail fu (fun y32 y33 y34=>p51 fail fu (fun y35 y36 y37 y38 y39=>K0 y35 y36 y37 y38 y39 y33 y34) y32) y25 y26 3) else (bif (z0a .eql y24 2) then (p39 fail fu (fun y40 y41 y42 y43 y44=>p49 fail fu (fun y45 y46 y47 y48 y49=>K0 y45 y46 y47 y48 y49 y43 y44) y40 y41 y42) y25 y26 2) else (bif (z0a .eql y24 3) then (p52 fail fu (fun y50 y51 y52=>gd (6≤[[(CV.v (.string ⟨#[78,97,116]⟩))],[(CV.v (.string ⟨#[110,111,112,101]⟩))],[(CV.v (.string ⟨#[69,113]⟩))],[(CV.v (.string ⟨#[105,100]⟩))],[(CV.v (.string ⟨#[97,100,100]⟩))],[(CV.v (.string ⟨#[70,97,108,115,101]⟩))]].length) fail (gd ((0:Int)≤y50) fail (gd ((y50:Int) < (6:Nat)) fail (gd (((y50:Int).toNat) + 1≤[[(CV.v (.string ⟨#[78,97,116]⟩))],[(CV.v (.string ⟨#[110,111,112,101]⟩))],[(CV.v (.string ⟨#[69,113]⟩))],[(CV.v (.string ⟨#[105,100]⟩))],[(CV.v (.string ⟨#[97,100,100]⟩))],[(CV.v (.string ⟨#[70,97,108,115,101]⟩))]].length) fail (rw_s fail (List.getD [[(CV.v (.string ⟨#[78,97,116]⟩))],[(CV.v (.string ⟨#[110,111,112,101]⟩))],[(CV.v (.string ⟨#[69,113]⟩))],[(CV.v (.string ⟨#[105,100]⟩))],[(CV.v (.string ⟨#[97,100,100]⟩))],[(CV.v (.string ⟨#[70,97,108,115,101]⟩))]] ((y50:Int).toNat) []) (fun c53=>p107 fail fu (fun y54 y55 y56 y57 y58=>K0 y54 y55 y56 y57 y58 y51 y52) c53 nilE)))))) y25 y26 6) else (bif (z0a .eql y24 4) then (p68 fail fu (fun y59 y60 y61 y62 y63=>K0 y59 y60 y61 y62 y63 y25 y26) x2 x3 x4 x5 x6 x2 x3 x4 x5 x6) else (p57 fail fu (fun y64 y65 y66 y67 y68=>p106 fail fu (fun y69 y70 y71 y72 y73=>p103 fail fu (fun y74 y75 y76 y77 y78=>K0 y74 y75 y76 y77 y78 y25 y26) y64 y65 y66 y67 y68 y69 y70 y71 y72 y73) x2 x3 x4 x5 x6 1 0) ⟨#[78,97,116]⟩)))))) j1 j2 6)
def p58_b {ρ:Type} (fail:ρ) (fu:Nat) (s_p58:(Int→Int→ByteArray→EL→EL→EL→Int→ρ)→EL→Int→Int→Int→ByteArray→EL→EL→ρ) (K0:Int→Int→ByteArray→EL→EL→EL→Int→ρ) (x0:EL) (x1 x2 x3:Int) (x4:ByteArray) (x5 x6:EL):ρ :=
 bif (z0a .gtr ((x6.length:Nat):Int) 0) then (p52 fail fu (fun y79 y80 y81=>p58_1 fail fu s_p58 K0 x2 x3 x4 x5 x6 y80 y81 (z0a .gtr y79 0)) x0 x1 4) else (p58_1 fail fu s_p58 K0 x2 x3 x4 x5 x6 x0 x1 false)
def p58 {ρ:Type} (fail:ρ):Nat→(Int→Int→ByteArray→EL→EL→EL→Int→ρ)→EL→Int→Int→Int→ByteArray→EL→EL→ρ
 | 0,_,_,_,_,_,_,_,_=>fail
 | n + 1,K0,x0,x1,x2,x3,x4,x5,x6=>p58_b fail n (p58 fail n) K0 x0 x1 x2 x3 x4 x5 x6
def p15_1 {ρ:Type} (fail:ρ) (fu:Nat) (K0:Int→Int→ByteArray→EL→EL→EL→Int→ρ) (j4:EL) (j5 j6 j7:Int) (j8:ByteArray) (j9 j10:EL):ρ :=
 p52 fail fu (fun y11 y12 y13=>bif (z0a .eql y11 4) then (p58 fail fu (fun y14 y15 y16 y17 y18 y19 y20=>K0 y14 y15 y16 y17 y18 y19 y20) y12 y13 j6 j7 j8 j9 j10) else (K0 j6 j7 j8 j9 j10 y12 y13)) j4 j5 5
def p15_2 {ρ:Type} (fail:ρ) (fu:Nat) (K0:Int→Int→ByteArray→EL→EL→EL→Int→ρ) (j28:EL) (j29 j30 j31:Int) (j32:ByteArray) (j33 j34:EL):ρ :=
 p15_1 fail fu K0 j28 j29 j30 j31 j32 j33 j34
def p15_3 {ρ:Type} (fail:ρ) (fu:Nat) (K0:Int→Int→ByteArray→EL→EL→EL→Int→ρ) (j42:EL) (j43 j44 j45:Int) (j46:ByteArray) (j47 j48:EL):ρ :=
 p15_2 fail fu K0 j42 j43 j44 j45 j46 j47 j48
def p15_4 {ρ:Type} (fail:ρ) (fu:Nat) (K0:Int→Int→ByteArray→EL→EL→EL→Int→ρ) (j56:EL) (j57 j58 j59:Int) (j60:ByteArray) (j61 j62:EL):ρ :=
 p15_3 fail fu K0 j56 j57 j58 j59 j60 j61 j62
def p15_5 {ρ:Type} (fail:ρ) (fu:Nat) (K0:Int→Int→ByteArray→EL→EL→EL→Int→ρ) (j75:EL) (j76 j77 j78:Int) (j79:ByteArray) (j80 j81:EL):ρ :=
 p15_4 fail fu K0 j75 j76 j77 j78 j79 j80 j81
def p15 {ρ:Type} (fail:ρ) (fu:Nat) (K0:Int→Int→ByteArray→EL→EL→EL→Int→ρ) (x0:EL) (x1:Int):ρ :=
 p52 fail fu (fun y1 y2 y3=>bif (z0a .eql y1 0) then (p53 fail fu (fun y21 y22 y23 y24 y25 y26 y27=>p15_1 fail fu K0 y26 y27 y21 y22 y23 y24 y25) y2 y3 0) else (bif (z0a .eql y1 1) then (p54b fail fu (fun y35 y36 y37 y38 y39 y40 y41=>p15_2 fail fu K0 y40 y41 y35 y36 y37 y38 y39) y2 y3 0) else (bif (z0a .eql y1 2) then (p55 fail fu (fun y49 y50 y51 y52 y53 y54 y55=>p15_3 fail fu K0 y54 y55 y49 y50 y51 y52 y53) y2 y3 0) else (bif (z0a .eql y1 3) then (p56 fail fu (fun y63 y64 y65 y66 y67 y68 y69 y70 y71 y72 y73 y74=>p15_4 fail fu K0 y73 y74 y63 y64 y65 y66 y67) y2 y3 0) else (bif (z0a .eql y1 4) then (p56 fail fu (fun y82 y83 y84 y85 y86 y87 y88 y89 y90 y91 y92 y93=>p15_5 fail fu K0 y92 y93 y87 y88 y89 y90 y91) y2 y3 0) else (p52 fail fu (fun y94 y95 y96=>gd (10≤[[(CV.v (.string ⟨#[42,48]⟩))],[(CV.v (.string ⟨#[42,83,48]⟩))],[(CV.v (.string ⟨#[78,97,116,46,114,101,99,123,48,125]⟩))],[(CV.v (.string ⟨#[92,42,112,48,46,32,92,35,48,46,32,35,48]⟩))],[(CV.v (.string ⟨#[101,120,116,123,48,44,83,48,125]⟩))],[(CV.v (.string ⟨#[33,42,48,46,32,35,48]⟩))],[(CV.v (.string ⟨#[76,105,115,116,46,114,101,99,123,48,44,83,48,125]⟩))],[(CV.v (.string ⟨#[86,101,99,123,48,125]⟩))],[(CV.v (.string ⟨#[92,33,78,97,116,46,32,42,48,46,32,40,35,48,32,122,101,114,111,41]⟩))],[(CV.v (.string ⟨#[40,40,40,86,101,99,46,114,101,99,123,48,44,83,48,125,32,78,97,116,41,32,92,78,97,116,46,32,92,40,40,86,101,99,123,48,125,32,78,97,116,41,32,35,48,41,46,32,78,97,116,41,32,122,101,114,111,41]⟩))]].length) fail (gd ((0:Int)≤y94) fail (gd ((y94:Int) < (10:Nat)) fail (gd (((y94:Int).toNat) + 1≤[[(CV.v (.string ⟨#[42,48]⟩))],[(CV.v (.string ⟨#[42,83,48]⟩))],[(CV.v (.string ⟨#[78,97,116,46,114,101,99,123,48,125]⟩))],[(CV.v (.string ⟨#[92,42,112,48,46,32,92,35,48,46,32,35,48]⟩))],[(CV.v (.string ⟨#[101,120,116,123,48,44,83,48,125]⟩))],[(CV.v (.string ⟨#[33,42,48,46,32,35,48]⟩))],[(CV.v (.string ⟨#[76,105,115,116,46,114,101,99,123,48,44,83,48,125]⟩))],[(CV.v (.string ⟨#[86,101,99,123,48,125]⟩))],[(CV.v (.string ⟨#[92,33,78,97,116,46,32,42,48,46,32,40,35,48,32,122,101,114,111,41]⟩))],[(CV.v (.string ⟨#[40,40,40,86,101,99,46,114,101,99,123,48,44,83,48,125,32,78,97,116,41,32,92,78,97,116,46,32,92,40,40,86,101,99,123,48,125,32,78,97,116,41,32,35,48,41,46,32,78,97,116,41,32,122,101,114,111,41]⟩))]].length) fail (rw_s fail (List.getD [[(CV.v (.string ⟨#[42,48]⟩))],[(CV.v (.string ⟨#[42,83,48]⟩))],[(CV.v (.string ⟨#[78,97,116,46,114,101,99,123,48,125]⟩))],[(CV.v (.string ⟨#[92,42,112,48,46,32,92,35,48,46,32,35,48]⟩))],[(CV.v (.string ⟨#[101,120,116,123,48,44,83,48,125]⟩))],[(CV.v (.string ⟨#[33,42,48,46,32,35,48]⟩))],[(CV.v (.string ⟨#[76,105,115,116,46,114,101,99,123,48,44,83,48,125]⟩))],[(CV.v (.string ⟨#[86,101,99,123,48,125]⟩))],[(CV.v (.string ⟨#[92,33,78,97,116,46,32,42,48,46,32,40,35,48,32,122,101,114,111,41]⟩))],[(CV.v (.string ⟨#[40,40,40,86,101,99,46,114,101,99,123,48,44,83,48,125,32,78,97,116,41,32,92,78,97,116,46,32,92,40,40,86,101,99,123,48,125,32,78,97,116,41,32,35,48,41,46,32,78,97,116,41,32,122,101,114,111,41]⟩))]] ((y94:Int).toNat) []) (fun c97=>p57 fail fu (fun y98 y99 y100 y101 y102=>p15_5 fail fu K0 y95 y96 y98 y99 y100 y101 y102) c97)))))) y2 y3 10)))))) x0 x1 6
theorem Tm.rows_set:∀ (l:List Tm) (i:Nat) (t:Tm),(Tm.rows l).set i t.row=Tm.rows (l.set i t)
 | [],_,_=>rfl
 | a :: l,0,t=>rfl
 | a :: l,i + 1,t=>by rw [Tm.rows,List.set_cons_succ,Tm.rows_set l i t];rfl
theorem k2y (l:List Tm) (i:Nat) (hi:i < l.length) (t:Tm):List.set (Tm.rows l) i (putAt (List.getD (Tm.rows l) i []) 0 [CV.v (.int .i64 t.k),CV.v (.int .i64 t.n),CV.v (.string t.nm),CV.sl 3 (Lv.rows t.ls) none,CV.sl 5 (Tm.rows t.args) none])=Tm.rows (l.set i t):=by
 rw [Tm.rows_get hi,Tm.row_eq l[i],← Tm.rows_set,Tm.row_eq t];rfl
section
variable {ρ:Type} (fail:ρ) (b:List UInt8) (hb:b.length≤1000000)
include hb in
theorem z7t (t:Tm) (ht:t.thin) (a:Nat) (ha:a≤b.length):∃ (t':Tm) (a':Nat),t'.thin∧a≤a'∧a'≤b.length∧∃ M:Nat,∀ m,M≤m→∀ (s:(Int→Int→ByteArray→EL→EL→EL→Int→ρ)→EL→Int→Int→Int→ByteArray→EL→EL→ρ) (K:Int→Int→ByteArray→EL→EL→EL→Int→ρ),
  p58_1 fail m s K t.k t.n t.nm (Lv.rows t.ls) (Tm.rows t.args) (encB b) ((a:Nat):Int) false=K t'.k t'.n t'.nm (Lv.rows t'.ls) (Tm.rows t'.args) (encB b) ((a':Nat):Int):=by
 obtain⟨v,a1,hv1,hv2,l1,l2,l3,hn⟩:=z1t fail b hb a ha 6 (by omega)
 rcases (by omega:v=0∨v=1∨v=2∨v=3∨v=4∨v=5) with rfl | rfl | rfl | rfl | rfl | rfl
 ·exact⟨pt5,a1,w5h,by omega,by omega,1000,fun m hm s K=>by rw [p58_1,cond_false,hn,eqlT (a:=0) (b:=0) rfl,cond_true,pt5_c fail m (by omega)]⟩
 ·obtain⟨v5,a5,_,_,l5,l6,_,hn5⟩:=z1t fail b hb a1 l2 3 (by omega)
  exact⟨.mk 0 v5 ⟨#[]⟩ [] [],a5,⟨⟨by simp,trivial⟩,by simp,trivial⟩,by omega,by omega,1000,fun m hm s K=>by rw [p58_1,cond_false,hn,eqlF (a:=1) (b:=0) (by decide),cond_false,eqlT (a:=1) (b:=1) rfl,cond_true,hn5,p51];rfl⟩
 ·obtain⟨l,a5,hl,l5,l6,N,h⟩:=w8u fail b hb _ a1 l2 (Nat.le_refl _) 2
  obtain⟨u,hu,hs⟩:=k0j fail l hl
  exact⟨u,a5,hu,by omega,by omega,N + l.sz + 1000,fun m hm s K=>by rw [p58_1,cond_false,hn,eqlF (a:=2) (b:=0) (by decide),cond_false,eqlF (a:=2) (b:=1) (by decide),cond_false,eqlT (a:=2) (b:=2) rfl,cond_true,h m (by omega),hs m _ (by omega)]⟩
 ·obtain⟨v5,a5,g1,g2,l5,l6,_,hn5⟩:=z1t fail b hb a1 l2 6 (by omega)
  rcases (by omega:v5=0∨v5=1∨v5=2∨v5=3∨v5=4∨v5=5) with rfl | rfl | rfl | rfl | rfl | rfl
  ·obtain⟨u,hu,hc⟩:=z3s fail ⟨#[78,97,116]⟩
   refine⟨u,a5,hu,by omega,by omega,1000,fun m hm s K=>?_⟩
   rw [p58_1,cond_false,hn,eqlF (a:=3) (b:=0) (by decide),cond_false,eqlF (a:=3) (b:=1) (by decide),cond_false,eqlF (a:=3) (b:=2) (by decide),cond_false,eqlT (a:=3) (b:=3) rfl,cond_true,hn5,gd_y (by decide),gd_y (by decide),gd_y (by decide),gd_y (by decide)]
   exact hc m (fun y54 y55 y56 y57 y58=>K y54 y55 y56 y57 y58 (encB b) ((a5:Nat):Int)) (by show 3 + 40≤m;omega)
  ·obtain⟨u,hu,hc⟩:=z3s fail ⟨#[110,111,112,101]⟩
   refine⟨u,a5,hu,by omega,by omega,1000,fun m hm s K=>?_⟩
   rw [p58_1,cond_false,hn,eqlF (a:=3) (b:=0) (by decide),cond_false,eqlF (a:=3) (b:=1) (by decide),cond_false,eqlF (a:=3) (b:=2) (by decide),cond_false,eqlT (a:=3) (b:=3) rfl,cond_true,hn5,gd_y (by decide),gd_y (by decide),gd_y (by decide),gd_y (by decide)]
   exact hc m (fun y54 y55 y56 y57 y58=>K y54 y55 y56 y57 y58 (encB b) ((a5:Nat):Int)) (by show 4 + 40≤m;omega)
  ·obtain⟨u,hu,hc⟩:=z3s fail ⟨#[69,113]⟩
   refine⟨u,a5,hu,by omega,by omega,1000,fun m hm s K=>?_⟩
   rw [p58_1,cond_false,hn,eqlF (a:=3) (b:=0) (by decide),cond_false,eqlF (a:=3) (b:=1) (by decide),cond_false,eqlF (a:=3) (b:=2) (by decide),cond_false,eqlT (a:=3) (b:=3) rfl,cond_true,hn5,gd_y (by decide),gd_y (by decide),gd_y (by decide),gd_y (by decide)]
   exact hc m (fun y54 y55 y56 y57 y58=>K y54 y55 y56 y57 y58 (encB b) ((a5:Nat):Int)) (by show 2 + 40≤m;omega)
  ·obtain⟨u,hu,hc⟩:=z3s fail ⟨#[105,100]⟩
   refine⟨u,a5,hu,by omega,by omega,1000,fun m hm s K=>?_⟩
   rw [p58_1,cond_false,hn,eqlF (a:=3) (b:=0) (by decide),cond_false,eqlF (a:=3) (b:=1) (by decide),cond_false,eqlF (a:=3) (b:=2) (by decide),cond_false,eqlT (a:=3) (b:=3) rfl,cond_true,hn5,gd_y (by decide),gd_y (by decide),gd_y (by decide),gd_y (by decide)]
   exact hc m (fun y54 y55 y56 y57 y58=>K y54 y55 y56 y57 y58 (encB b) ((a5:Nat):Int)) (by show 2 + 40≤m;omega)
  ·obtain⟨u,hu,hc⟩:=z3s fail ⟨#[97,100,100]⟩
   refine⟨u,a5,hu,by omega,by omega,1000,fun m hm s K=>?_⟩
   rw [p58_1,cond_false,hn,eqlF (a:=3) (b:=0) (by decide),cond_false,eqlF (a:=3) (b:=1) (by decide),cond_false,eqlF (a:=3) (b:=2) (by decide),cond_false,eqlT (a:=3) (b:=3) rfl,cond_true,hn5,gd_y (by decide),gd_y (by decide),gd_y (by decide),gd_y (by decide)]
   exact hc m (fun y54 y55 y56 y57 y58=>K y54 y55 y56 y57 y58 (encB b) ((a5:Nat):Int)) (by show 3 + 40≤m;omega)
  ·obtain⟨u,hu,hc⟩:=z3s fail ⟨#[70,97,108,115,101]⟩
   refine⟨u,a5,hu,by omega,by omega,1000,fun m hm s K=>?_⟩
   rw [p58_1,cond_false,hn,eqlF (a:=3) (b:=0) (by decide),cond_false,eqlF (a:=3) (b:=1) (by decide),cond_false,eqlF (a:=3) (b:=2) (by decide),cond_false,eqlT (a:=3) (b:=3) rfl,cond_true,hn5,gd_y (by decide),gd_y (by decide),gd_y (by decide),gd_y (by decide)]
   exact hc m (fun y54 y55 y56 y57 y58=>K y54 y55 y56 y57 y58 (encB b) ((a5:Nat):Int)) (by show 5 + 40≤m;omega)
 ·obtain⟨u,hu,N,h⟩:=appE fail t t ht ht
  exact⟨u,a1,hu,by omega,by omega,N + 1000,fun m hm s K=>by rw [p58_1,cond_false,hn,eqlF (a:=4) (b:=0) (by decide),cond_false,eqlF (a:=4) (b:=1) (by decide),cond_false,eqlF (a:=4) (b:=2) (by decide),cond_false,eqlF (a:=4) (b:=3) (by decide),cond_false,eqlT (a:=4) (b:=4) rfl,cond_true,h m (by omega)]⟩
 ·obtain⟨u,hu,N,h⟩:=liftE fail t ht 1 0
  obtain⟨x,hx,M,g⟩:=lamE fail pt0 u z1q hu
  exact⟨x,a1,hx,by omega,by omega,N + M + 1000,fun m hm s K=>by rw [p58_1,cond_false,hn,eqlF (a:=5) (b:=0) (by decide),cond_false,eqlF (a:=5) (b:=1) (by decide),cond_false,eqlF (a:=5) (b:=2) (by decide),cond_false,eqlF (a:=5) (b:=3) (by decide),cond_false,eqlF (a:=5) (b:=4) (by decide),cond_false,pt0_c fail m (by omega),h m (by omega),g m (by omega)]⟩
include hb in
theorem w6i:∀ (N:Nat) (t:Tm),t.sz≤N→t.thin→∀ a,a≤b.length→∃ (t':Tm) (a':Nat),t'.thin∧a≤a'∧a'≤b.length∧∃ M:Nat,∀ fu,M≤fu→∀ K:Int→Int→ByteArray→EL→EL→EL→Int→ρ,
  p58 fail fu K (encB b) ((a:Nat):Int) t.k t.n t.nm (Lv.rows t.ls) (Tm.rows t.args)=K t'.k t'.n t'.nm (Lv.rows t'.ls) (Tm.rows t'.args) (encB b) ((a':Nat):Int):=by
 intro N
 induction N with
 | zero=>intro t h;cases t;simp [Tm.sz] at h
 | succ N ih =>
  intro t hN ht a ha
  by_cases hl:0 < t.args.length
  ·obtain⟨v,a1,hv1,hv2,l1,l2,l3,hn⟩:=z1t fail b hb a ha 4 (by omega)
   by_cases hv:0 < v
   ·have hal:t.args.length≤1000:=by cases t;exact ht.2.1
    obtain⟨k,a2,k1,k2,l4,l5,_,hk⟩:=z1t fail b hb a1 l2 ((t.args.length:Nat):Int) (by omega)
    obtain⟨k,rfl⟩:∃ j:Nat,k=(j:Nat):=⟨k.toNat,by omega⟩
    have hkl:k < t.args.length:=by omega
    have hmem:=List.getElem_mem hkl
    have hth:Tm.thins t.args:=by cases t;exact ht.2.2
    have hsz:1 + t.args[k].sz≤Tm.szs t.args:=Tm.szs_mem hmem
    have htz:Tm.szs t.args < t.sz:=by cases t;simp only [Tm.sz,Tm.args];omega
    obtain⟨c,⟨hc1,hc2⟩,hc3,hc⟩:=w9m fail t ht
    obtain⟨u,a3,hu,l6,l7,M,h⟩:=ih t.args[k] (by omega) (Tm.thins_iff.1 hth _ hmem) a2 l5
    have hct:(Tm.mk c.k c.n c.nm c.ls (c.args.set k u)).thin:=by
     cases c with
     | mk q1 q2 q3 q4 q5 =>
      refine⟨hc1.1,by rw [List.length_set];exact hc1.2.1,Tm.thins_iff.2 fun z hz=>?_⟩
      rcases List.mem_or_eq_of_mem_set hz with hz | rfl
      ·exact Tm.thins_iff.1 hc1.2.2 z hz
      ·exact hu
    refine⟨.mk c.k c.n c.nm c.ls (c.args.set k u),a3,hct,by omega,by omega,M + t.sz + 1000,fun fu hf K=>?_⟩
    obtain⟨m,rfl⟩:∃ m,fu=m + 1:=⟨fu - 1,by omega⟩
    have e1:(List.getD (Tm.rows c.args) k []).length=5:=by rw [Tm.rows_get (show k < c.args.length by omega),Tm.row_eq];rfl
    rw [p58,p58_b,Tm.rows_len,gtrT (by omega),cond_true,hn,gtrT hv,p58_1,cond_true,Tm.rows_len,hk,hc m _ (by omega),gd_y (by omega),gd_y (by (try simp only [Tm.rows_len]);omega),z4i fail t.args k hkl,h m (by omega),gd_y (by omega),gd_y (by (try simp only [Tm.rows_len]);omega),Int.toNat_natCast,gd_y (by (try simp only [Tm.rows_len]);omega),gd_y (by rw [e1];omega),
     k2y c.args k (by omega) u,gd_y (by (try simp only [Tm.rows_len,List.length_set]);omega),List.take_of_length_le (by (try simp only [Tm.rows_len,List.length_set]);omega)]
    rfl
   ·obtain⟨t',a',h1,h2,h3,M,h⟩:=z7t fail b hb t ht a1 l2
    refine⟨t',a',h1,by omega,h3,M + 1,fun fu hf K=>?_⟩
    obtain⟨m,rfl⟩:∃ m,fu=m + 1:=⟨fu - 1,by omega⟩
    rw [p58,p58_b,Tm.rows_len,gtrT (by omega),cond_true,hn,gtrF (show v≤0 by omega),h m (by omega)]
  ·obtain⟨t',a',h1,h2,h3,M,h⟩:=z7t fail b hb t ht a ha
   refine⟨t',a',h1,by omega,h3,M + 1,fun fu hf K=>?_⟩
   obtain⟨m,rfl⟩:∃ m,fu=m + 1:=⟨fu - 1,by omega⟩
   rw [p58,p58_b,Tm.rows_len,gtrF (by omega),cond_false,h m (by omega)]
include hb in
theorem z1h (t:Tm) (ht:t.thin) (a:Nat) (ha:a≤b.length):∃ (t':Tm) (a':Nat),t'.thin∧a≤a'∧a'≤b.length∧∃ M:Nat,∀ m,M≤m→∀ (K:Int→Int→ByteArray→EL→EL→EL→Int→ρ),
  p15_1 fail m K (encB b) ((a:Nat):Int) t.k t.n t.nm (Lv.rows t.ls) (Tm.rows t.args)=K t'.k t'.n t'.nm (Lv.rows t'.ls) (Tm.rows t'.args) (encB b) ((a':Nat):Int):=by
 obtain⟨v,a1,hv1,hv2,l1,l2,l3,hn⟩:=z1t fail b hb a ha 5 (by omega)
 by_cases h4:v=4
 ·obtain⟨t',a',h1,h2,h3,M,h⟩:=w6i fail b hb _ t (Nat.le_refl _) ht a1 l2
  exact⟨t',a',h1,by omega,h3,M,fun m hm K=>by rw [p15_1,hn,eqlT h4,cond_true,h m hm]⟩
 ·exact⟨t,a1,ht,by omega,by omega,0,fun m hm K=>by rw [p15_1,hn,eqlF h4,cond_false]⟩
include hb in
theorem k2u (a:Nat) (ha:a≤b.length):∃ (t:Tm) (a':Nat),t.thin∧a≤a'∧a'≤b.length∧∃ M:Nat,∀ m,M≤m→∀ (K:Int→Int→ByteArray→EL→EL→EL→Int→ρ),p15 fail m K (encB b) ((a:Nat):Int)=K t.k t.n t.nm (Lv.rows t.ls) (Tm.rows t.args) (encB b) ((a':Nat):Int):=by
 obtain⟨v,a1,hv1,hv2,l1,l2,l3,hn⟩:=z1t fail b hb a ha 6 (by omega)
 rcases (by omega:v=0∨v=1∨v=2∨v=3∨v=4∨v=5) with rfl | rfl | rfl | rfl | rfl | rfl
 ·obtain⟨t,a2,ht,l4,l5,N,h⟩:=z4n fail b hb a1 l2 0
  obtain⟨r,a3,hr,l6,l7,M,g⟩:=z1h fail b hb t ht a2 l5
  exact⟨r,a3,hr,by omega,l7,N + M + 1000,fun m hm K=>by rw [p15,hn,eqlT (a:=0) (b:=0) rfl,cond_true,h m (by omega),g m (by omega)]⟩
 ·obtain⟨t,a2,ht,l4,l5,N,h⟩:=k2i fail b hb a1 l2 0
  obtain⟨r,a3,hr,l6,l7,M,g⟩:=z1h fail b hb t ht a2 l5
  exact⟨r,a3,hr,by omega,l7,N + M + 1000,fun m hm K=>by rw [p15,hn,eqlF (a:=1) (b:=0) (by decide),cond_false,eqlT (a:=1) (b:=1) rfl,cond_true,h m (by omega),p15_2,g m (by omega)]⟩
 ·obtain⟨t,a2,ht,l4,l5,N,h⟩:=w5k fail b hb _ a1 l2 (Nat.le_refl _) 0
  obtain⟨r,a3,hr,l6,l7,M,g⟩:=z1h fail b hb t ht a2 l5
  exact⟨r,a3,hr,by omega,l7,N + M + 1000,fun m hm K=>by rw [p15,hn,eqlF (a:=2) (b:=0) (by decide),cond_false,eqlF (a:=2) (b:=1) (by decide),cond_false,eqlT (a:=2) (b:=2) rfl,cond_true,h m (by omega),p15_3,p15_2,g m (by omega)]⟩
 ·obtain⟨t,u,a2,ht,hu,l4,l5,N,h⟩:=w1k fail b hb _ a1 l2 (Nat.le_refl _) 0
  obtain⟨r,a3,hr,l6,l7,M,g⟩:=z1h fail b hb t ht a2 l5
  exact⟨r,a3,hr,by omega,l7,N + M + 1000,fun m hm K=>by rw [p15,hn,eqlF (a:=3) (b:=0) (by decide),cond_false,eqlF (a:=3) (b:=1) (by decide),cond_false,eqlF (a:=3) (b:=2) (by decide),cond_false,eqlT (a:=3) (b:=3) rfl,cond_true,h m (by omega),p15_4,p15_3,p15_2,g m (by omega)]⟩
 ·obtain⟨t,u,a2,ht,hu,l4,l5,N,h⟩:=w1k fail b hb _ a1 l2 (Nat.le_refl _) 0
  obtain⟨r,a3,hr,l6,l7,M,g⟩:=z1h fail b hb u hu a2 l5
  exact⟨r,a3,hr,by omega,l7,N + M + 1000,fun m hm K=>by rw [p15,hn,eqlF (a:=4) (b:=0) (by decide),cond_false,eqlF (a:=4) (b:=1) (by decide),cond_false,eqlF (a:=4) (b:=2) (by decide),cond_false,eqlF (a:=4) (b:=3) (by decide),cond_false,eqlT (a:=4) (b:=4) rfl,cond_true,h m (by omega),p15_5,p15_4,p15_3,p15_2,g m (by omega)]⟩
 ·obtain⟨v5,a5,g1,g2,l5,l6,_,hn5⟩:=z1t fail b hb a1 l2 10 (by omega)
  rcases (by omega:v5=0∨v5=1∨v5=2∨v5=3∨v5=4∨v5=5∨v5=6∨v5=7∨v5=8∨v5=9) with rfl | rfl | rfl | rfl | rfl | rfl | rfl | rfl | rfl | rfl
  ·obtain⟨r,a3,hr,l6,l7,M,g⟩:=z1h fail b hb pt12 w1y a5 l6
   refine⟨r,a3,hr,by omega,l7,M + 1000,fun m hm K=>?_⟩
   rw [p15,hn,eqlF (a:=5) (b:=0) (by decide),cond_false,eqlF (a:=5) (b:=1) (by decide),cond_false,eqlF (a:=5) (b:=2) (by decide),cond_false,eqlF (a:=5) (b:=3) (by decide),cond_false,eqlF (a:=5) (b:=4) (by decide),cond_false,hn5,gd_y (by decide),gd_y (by decide),gd_y (by decide),gd_y (by decide)]
   refine (k1m fail m (by omega) (fun y98 y99 y100 y101 y102=>p15_5 fail m K (encB b) ((a5:Nat):Int) y98 y99 y100 y101 y102)).trans ?_
   rw [p15_5,p15_4,p15_3,p15_2,g m (by omega)]
  ·obtain⟨r,a3,hr,l6,l7,M,g⟩:=z1h fail b hb pt18 w8i a5 l6
   refine⟨r,a3,hr,by omega,l7,M + 1000,fun m hm K=>?_⟩
   rw [p15,hn,eqlF (a:=5) (b:=0) (by decide),cond_false,eqlF (a:=5) (b:=1) (by decide),cond_false,eqlF (a:=5) (b:=2) (by decide),cond_false,eqlF (a:=5) (b:=3) (by decide),cond_false,eqlF (a:=5) (b:=4) (by decide),cond_false,hn5,gd_y (by decide),gd_y (by decide),gd_y (by decide),gd_y (by decide)]
   refine (pt18_c fail m (by omega) (fun y98 y99 y100 y101 y102=>p15_5 fail m K (encB b) ((a5:Nat):Int) y98 y99 y100 y101 y102)).trans ?_
   rw [p15_5,p15_4,p15_3,p15_2,g m (by omega)]
  ·obtain⟨r,a3,hr,l6,l7,M,g⟩:=z1h fail b hb pt19 w8h a5 l6
   refine⟨r,a3,hr,by omega,l7,M + 1000,fun m hm K=>?_⟩
   rw [p15,hn,eqlF (a:=5) (b:=0) (by decide),cond_false,eqlF (a:=5) (b:=1) (by decide),cond_false,eqlF (a:=5) (b:=2) (by decide),cond_false,eqlF (a:=5) (b:=3) (by decide),cond_false,eqlF (a:=5) (b:=4) (by decide),cond_false,hn5,gd_y (by decide),gd_y (by decide),gd_y (by decide),gd_y (by decide)]
   refine (pt19_c fail m (by omega) (fun y98 y99 y100 y101 y102=>p15_5 fail m K (encB b) ((a5:Nat):Int) y98 y99 y100 y101 y102)).trans ?_
   rw [p15_5,p15_4,p15_3,p15_2,g m (by omega)]
  ·obtain⟨r,a3,hr,l6,l7,M,g⟩:=z1h fail b hb pt20 w8g a5 l6
   refine⟨r,a3,hr,by omega,l7,M + 1000,fun m hm K=>?_⟩
   rw [p15,hn,eqlF (a:=5) (b:=0) (by decide),cond_false,eqlF (a:=5) (b:=1) (by decide),cond_false,eqlF (a:=5) (b:=2) (by decide),cond_false,eqlF (a:=5) (b:=3) (by decide),cond_false,eqlF (a:=5) (b:=4) (by decide),cond_false,hn5,gd_y (by decide),gd_y (by decide),gd_y (by decide),gd_y (by decide)]
   refine (pt20_c fail m (by omega) (fun y98 y99 y100 y101 y102=>p15_5 fail m K (encB b) ((a5:Nat):Int) y98 y99 y100 y101 y102)).trans ?_
   rw [p15_5,p15_4,p15_3,p15_2,g m (by omega)]
  ·obtain⟨r,a3,hr,l6,l7,M,g⟩:=z1h fail b hb pt21 w8f a5 l6
   refine⟨r,a3,hr,by omega,l7,M + 1000,fun m hm K=>?_⟩
   rw [p15,hn,eqlF (a:=5) (b:=0) (by decide),cond_false,eqlF (a:=5) (b:=1) (by decide),cond_false,eqlF (a:=5) (b:=2) (by decide),cond_false,eqlF (a:=5) (b:=3) (by decide),cond_false,eqlF (a:=5) (b:=4) (by decide),cond_false,hn5,gd_y (by decide),gd_y (by decide),gd_y (by decide),gd_y (by decide)]
   refine (pt21_c fail m (by omega) (fun y98 y99 y100 y101 y102=>p15_5 fail m K (encB b) ((a5:Nat):Int) y98 y99 y100 y101 y102)).trans ?_
   rw [p15_5,p15_4,p15_3,p15_2,g m (by omega)]
  ·obtain⟨r,a3,hr,l6,l7,M,g⟩:=z1h fail b hb pt22 w8e a5 l6
   refine⟨r,a3,hr,by omega,l7,M + 1000,fun m hm K=>?_⟩
   rw [p15,hn,eqlF (a:=5) (b:=0) (by decide),cond_false,eqlF (a:=5) (b:=1) (by decide),cond_false,eqlF (a:=5) (b:=2) (by decide),cond_false,eqlF (a:=5) (b:=3) (by decide),cond_false,eqlF (a:=5) (b:=4) (by decide),cond_false,hn5,gd_y (by decide),gd_y (by decide),gd_y (by decide),gd_y (by decide)]
   refine (pt22_c fail m (by omega) (fun y98 y99 y100 y101 y102=>p15_5 fail m K (encB b) ((a5:Nat):Int) y98 y99 y100 y101 y102)).trans ?_
   rw [p15_5,p15_4,p15_3,p15_2,g m (by omega)]
  ·obtain⟨r,a3,hr,l6,l7,M,g⟩:=z1h fail b hb pt23 w8d a5 l6
   refine⟨r,a3,hr,by omega,l7,M + 1000,fun m hm K=>?_⟩
   rw [p15,hn,eqlF (a:=5) (b:=0) (by decide),cond_false,eqlF (a:=5) (b:=1) (by decide),cond_false,eqlF (a:=5) (b:=2) (by decide),cond_false,eqlF (a:=5) (b:=3) (by decide),cond_false,eqlF (a:=5) (b:=4) (by decide),cond_false,hn5,gd_y (by decide),gd_y (by decide),gd_y (by decide),gd_y (by decide)]
   refine (pt23_c fail m (by omega) (fun y98 y99 y100 y101 y102=>p15_5 fail m K (encB b) ((a5:Nat):Int) y98 y99 y100 y101 y102)).trans ?_
   rw [p15_5,p15_4,p15_3,p15_2,g m (by omega)]
  ·obtain⟨r,a3,hr,l6,l7,M,g⟩:=z1h fail b hb pt24 w8c a5 l6
   refine⟨r,a3,hr,by omega,l7,M + 1000,fun m hm K=>?_⟩
   rw [p15,hn,eqlF (a:=5) (b:=0) (by decide),cond_false,eqlF (a:=5) (b:=1) (by decide),cond_false,eqlF (a:=5) (b:=2) (by decide),cond_false,eqlF (a:=5) (b:=3) (by decide),cond_false,eqlF (a:=5) (b:=4) (by decide),cond_false,hn5,gd_y (by decide),gd_y (by decide),gd_y (by decide),gd_y (by decide)]
   refine (pt24_c fail m (by omega) (fun y98 y99 y100 y101 y102=>p15_5 fail m K (encB b) ((a5:Nat):Int) y98 y99 y100 y101 y102)).trans ?_
   rw [p15_5,p15_4,p15_3,p15_2,g m (by omega)]
  ·obtain⟨r,a3,hr,l6,l7,M,g⟩:=z1h fail b hb pt25 w8b a5 l6
   refine⟨r,a3,hr,by omega,l7,M + 1000,fun m hm K=>?_⟩
   rw [p15,hn,eqlF (a:=5) (b:=0) (by decide),cond_false,eqlF (a:=5) (b:=1) (by decide),cond_false,eqlF (a:=5) (b:=2) (by decide),cond_false,eqlF (a:=5) (b:=3) (by decide),cond_false,eqlF (a:=5) (b:=4) (by decide),cond_false,hn5,gd_y (by decide),gd_y (by decide),gd_y (by decide),gd_y (by decide)]
   refine (pt25_c fail m (by omega) (fun y98 y99 y100 y101 y102=>p15_5 fail m K (encB b) ((a5:Nat):Int) y98 y99 y100 y101 y102)).trans ?_
   rw [p15_5,p15_4,p15_3,p15_2,g m (by omega)]
  ·obtain⟨r,a3,hr,l6,l7,M,g⟩:=z1h fail b hb pt26 w8a a5 l6
   refine⟨r,a3,hr,by omega,l7,M + 1000,fun m hm K=>?_⟩
   rw [p15,hn,eqlF (a:=5) (b:=0) (by decide),cond_false,eqlF (a:=5) (b:=1) (by decide),cond_false,eqlF (a:=5) (b:=2) (by decide),cond_false,eqlF (a:=5) (b:=3) (by decide),cond_false,eqlF (a:=5) (b:=4) (by decide),cond_false,hn5,gd_y (by decide),gd_y (by decide),gd_y (by decide),gd_y (by decide)]
   refine (pt26_c fail m (by omega) (fun y98 y99 y100 y101 y102=>p15_5 fail m K (encB b) ((a5:Nat):Int) y98 y99 y100 y101 y102)).trans ?_
   rw [p15_5,p15_4,p15_3,p15_2,g m (by omega)]
end
theorem z4o {α:Type} {f:Nat→List UInt8→Except Int (α × List UInt8 × Nat)} {g:α→List UInt8} {gs:List α→List UInt8} (h0:gs []=[]) (h1:∀ a l,gs (a :: l)=g a++gs l) (hf:∀ p bs a r q,f p bs=.ok (a,r,q)→bs=g a++r) :
  ∀ (n p:Nat) (bs:List UInt8) (l:List α) (r:List UInt8) (q:Nat),many f n p bs=.ok (l,r,q)→bs=gs l++r
 | 0,p,bs,l,r,q,h=>by simp only [many] at h;injection h with h;injection h with h2 h;injection h with h3 _;subst h2 h3;rw [h0];rfl
 | n + 1,p,bs,l,r,q,h=>by
  simp only [many] at h
  split at h
  ·cases h
  ·rename_i a bs1 p1 ha
   split at h
   ·cases h
   ·rename_i l' bs2 p2 h2
    injection h with h;injection h with h3 h;injection h with h4 h5;subst h3 h4 h5
    rw [h1,hf _ _ _ _ _ ha,z4o h0 h1 hf n p1 bs1 l' bs2 p2 h2,List.append_assoc]
theorem w1t:∀ (left p:Nat) (bs:List UInt8) (l:Lv) (r:List UInt8) (q:Nat),rdLv left p bs=.ok (l,r,q)→bs=l.enc++r
 | 0,p,bs,l,r,q,h=>by simp only [rdLv] at h;split at h<;>cases h
 | left + 1,p,bs,l,r,q,h=>by
  simp only [rdLv] at h
  split at h
  ·cases h
  ·split at h
   ·cases h
   ·rename_i k bs1 hk
    obtain⟨_,h1,_,h2⟩:=z2s hk
    split at h
    ·rename_i k4
     split at h
     ·cases h
     ·rename_i n bs2 hn
      obtain⟨h3,_,h4⟩:=z2b hn
      split at h
      ·cases h
      ·injection h with h;injection h with h5 h;injection h with h6 h7;subst h5 h6 h7
       rw [h2,h4,k4]
       simp only [Lv.enc,Lv.encs,if_pos,z5o n (by omega),List.append_nil,List.append_assoc]
       rfl
    ·rename_i k4
     split at h
     ·cases h
     ·rename_i l2 bs2 p2 hm
      injection h with h;injection h with h5 h;injection h with h6 h7;subst h5 h6 h7
      have:=z4o (g:=Lv.enc) (gs:=Lv.encs) rfl (fun _ _=>rfl) (fun p bs a r q=>w1t left p bs a r q) _ _ _ _ _ _ hm
      rw [h2,this]
      simp only [Lv.enc,z5o k (by omega),if_neg (show ¬ ((k:Nat):Int)=4 by omega),List.nil_append,List.append_assoc]
theorem w1v {bs r:List UInt8} {l:Lv} (h:z2l bs=.ok (l,r)):bs=l.enc++r:=by
 unfold z2l at h;split at h
 ·rename_i l' r' q h'
  injection h with h;injection h with h1 h2;subst h1 h2
  exact w1t _ _ _ _ _ _ h'
 ·cases h
theorem z3x (p:Nat) (bs:List UInt8) (a:Lv) (r:List UInt8) (q:Nat) (h:z1a p bs=.ok (a,r,q)):bs=a.enc++r:=by
 unfold z1a at h;split at h
 ·rename_i l' r' h'
  injection h with h;injection h with h1 h;injection h with h2 h3;subst h1 h2 h3
  exact w1v h'
 ·cases h
theorem w6v:∀ (n p:Nat) (bs:List UInt8) (l:List Lv) (r:List UInt8) (q:Nat),many z1a n p bs=.ok (l,r,q)→l.length=n:=fun n p bs l r q h =>
 (z3g (m:=p) z2j n p bs l r q (Nat.le_refl _) h).2.2
theorem w1r:∀ (left p:Nat) (bs:List UInt8) (t:Tm) (r:List UInt8) (q:Nat),rdTm left p bs=.ok (t,r,q)→bs=t.enc++r
 | 0,p,bs,t,r,q,h=>by simp only [rdTm] at h;split at h<;>cases h
 | left + 1,p,bs,t,r,q,h=>by
  simp only [rdTm] at h
  split at h
  ·cases h
  ·split at h
   ·cases h
   ·rename_i k bs1 hk
    obtain⟨_,h1,_,h2⟩:=z2s hk
    split at h
    ·rename_i k0
     split at h
     ·cases h
     ·rename_i n bs2 hn
      obtain⟨h3,_,h4⟩:=z2b hn
      injection h with h;injection h with h5 h;injection h with h6 h7;subst h5 h6 h7
      rw [h2,h4,k0]
      simp only [Tm.enc,Tm.encs,Lv.encs,if_pos,z5o n (by omega),List.append_nil,List.append_assoc]
      rfl
    ·rename_i k0
     split at h
     ·rename_i k1
      split at h
      ·cases h
      ·rename_i l2 bs2 p2 hm
       injection h with h;injection h with h5 h;injection h with h6 h7;subst h5 h6 h7
       have:=z4o (g:=Lv.enc) (gs:=Lv.encs) rfl (fun _ _=>rfl) z3x _ _ _ _ _ _ hm
       rw [h2,this,k1]
       simp only [Tm.enc,Tm.encs,List.append_nil,List.append_assoc]
       rfl
     ·rename_i k1
      split at h
      ·rename_i k2
       split at h
       ·cases h
       ·rename_i s bs2 hs
        obtain⟨h3,_,h4,h5⟩:=z7l hs
        split at h
        ·cases h
        ·rename_i n bs3 hn
         obtain⟨h6,_,h7⟩:=z2b hn
         split at h
         ·cases h
         ·split at h
          ·cases h
          ·rename_i l2 bs4 p2 hm
           injection h with h;injection h with h8 h;injection h with h9 h10;subst h8 h9 h10
           have:=z4o (g:=Lv.enc) (gs:=Lv.encs) rfl (fun _ _=>rfl) z3x _ _ _ _ _ _ hm
           have hl:=w6v _ _ _ _ _ _ hm
           have hsz:(⟨s.toArray⟩:ByteArray).size=s.length:=by simp [ByteArray.size]
           rw [h2,h4,h7,this,k2]
           simp only [Tm.enc,Tm.encs,txB,hsz,hl,List.append_nil,List.append_assoc]
           rw [if_neg (show ¬ (2:Int)=0 by decide),if_pos trivial,show uv 2=2 from rfl]
           simp only [List.append_assoc]
      ·rename_i k2
       split at h
       ·cases h
       ·rename_i l2 bs2 p2 hm
        injection h with h;injection h with h5 h;injection h with h6 h7;subst h5 h6 h7
        have:=z4o (g:=Tm.enc) (gs:=Tm.encs) rfl (fun _ _=>rfl) (fun p bs a r q=>w1r left p bs a r q) _ _ _ _ _ _ hm
        rw [h2,this]
        simp only [Tm.enc,Lv.encs,z5o k (by omega),if_neg (show ¬ ((k:Nat):Int)=0 by omega),if_neg (show ¬ ((k:Nat):Int)=2 by omega),List.nil_append,List.append_assoc]
theorem w3x {bs r:List UInt8} {t:Tm} (h:z4m bs=.ok (t,r)):bs=t.enc++r:=by
 unfold z4m at h;split at h
 ·rename_i l' r' q h'
  injection h with h;injection h with h1 h2;subst h1 h2
  exact w1r _ _ _ _ _ _ h'
 ·cases h
theorem w0q {α:Type} {f:Nat→List UInt8→Except Int (α × List UInt8 × Nat)} {g:α→Nat} {gs:List α→Nat} (h0:gs []=0) (h1:∀ a l,gs (a :: l)=1 + g a + gs l) (hf:∀ p bs a r q,f p bs=.ok (a,r,q)→1 + g a + 2 * r.length≤2 * bs.length) :
  ∀ (n p:Nat) (bs:List UInt8) (l:List α) (r:List UInt8) (q:Nat),many f n p bs=.ok (l,r,q)→gs l + 2 * r.length≤2 * bs.length
 | 0,p,bs,l,r,q,h=>by simp only [many] at h;injection h with h;injection h with h2 h;injection h with h3 _;subst h2 h3;rw [h0];omega
 | n + 1,p,bs,l,r,q,h=>by
  simp only [many] at h
  split at h
  ·cases h
  ·rename_i a bs1 p1 ha
   split at h
   ·cases h
   ·rename_i l' bs2 p2 h2
    injection h with h;injection h with h3 h;injection h with h4 h5;subst h3 h4 h5
    have:=hf _ _ _ _ _ ha
    have h6:=w0q h0 h1 hf n p1 bs1 l' bs2 p2 h2
    rw [h1];omega
theorem z7y (p:Nat) (bs:List UInt8) (a:Lv) (r:List UInt8) (q:Nat) (h:z1a p bs=.ok (a,r,q)):1 + a.sz + 2 * r.length≤2 * bs.length:=by
 have:=Lv.sz_enc a
 rw [z3x _ _ _ _ _ h,List.length_append];omega
theorem w7w:∀ (left p:Nat) (bs:List UInt8) (t:Tm) (r:List UInt8) (q:Nat),rdTm left p bs=.ok (t,r,q)→1 + t.sz + 2 * r.length≤2 * bs.length
 | 0,p,bs,t,r,q,h=>by simp only [rdTm] at h;split at h<;>cases h
 | left + 1,p,bs,t,r,q,h=>by
  simp only [rdTm] at h
  split at h
  ·cases h
  ·split at h
   ·cases h
   ·rename_i k bs1 hk
    obtain⟨_,h1,h2,_⟩:=z2s hk
    split at h
    ·split at h
     ·cases h
     ·rename_i n bs2 hn
      obtain⟨h3,h4,_⟩:=z2b hn
      injection h with h;injection h with h5 h;injection h with h6 h7;subst h5 h6 h7
      simp only [Tm.sz,Lv.szs,Tm.szs]
      have:(⟨#[]⟩:ByteArray).size=0:=rfl
      omega
    ·split at h
     ·split at h
      ·cases h
      ·rename_i l2 bs2 p2 hm
       injection h with h;injection h with h5 h;injection h with h6 h7;subst h5 h6 h7
       have:=w0q (g:=Lv.sz) (gs:=Lv.szs) rfl (fun _ _=>rfl) z7y _ _ _ _ _ _ hm
       simp only [Tm.sz,Tm.szs]
       have:(⟨#[]⟩:ByteArray).size=0:=rfl
       omega
     ·split at h
      ·split at h
       ·cases h
       ·rename_i s bs2 hs
        obtain⟨h3,_,h4,h5⟩:=z7l hs
        split at h
        ·cases h
        ·rename_i n bs3 hn
         obtain⟨h6,h7,_⟩:=z2b hn
         split at h
         ·cases h
         ·split at h
          ·cases h
          ·rename_i l2 bs4 p2 hm
           injection h with h;injection h with h8 h;injection h with h9 h10;subst h8 h9 h10
           have:=w0q (g:=Lv.sz) (gs:=Lv.szs) rfl (fun _ _=>rfl) z7y _ _ _ _ _ _ hm
           have hsz:(⟨s.toArray⟩:ByteArray).size=s.length:=by simp [ByteArray.size]
           have hb1:bs1.length=(varB s.length).length + (s.length + bs2.length):=by rw [h4];simp
           simp only [Tm.sz,Tm.szs,hsz]
           omega
      ·split at h
       ·cases h
       ·rename_i l2 bs2 p2 hm
        injection h with h;injection h with h5 h;injection h with h6 h7;subst h5 h6 h7
        have:=w0q (g:=Tm.sz) (gs:=Tm.szs) rfl (fun _ _=>rfl) (fun p bs a r q=>w7w left p bs a r q) _ _ _ _ _ _ hm
        simp only [Tm.sz,Lv.szs]
        have:(⟨#[]⟩:ByteArray).size=0:=rfl
        omega
theorem w7x {bs r:List UInt8} {t:Tm} (h:z4m bs=.ok (t,r)):1 + t.sz + 2 * r.length≤2 * bs.length:=by
 unfold z4m at h;split at h
 ·rename_i l' r' q h'
  injection h with h;injection h with h1 h2;subst h1 h2
  exact w7w _ _ _ _ _ _ h'
 ·cases h
def tm0:Tm:=.mk 0 0 ⟨#[]⟩ [] []
theorem w0h (v:Nat) (h:v < 2 ^ 64) (r:List UInt8):rdV (varB v++r)=.ok (v,r):=by
 unfold rdV
 rw [k1x v 0 r (by omega) (by simpa using h) (by omega)]
 simp
theorem z7z (lo hi v:Nat) (h1:lo≤v) (h2:v≤hi) (h3:v < 2 ^ 64) (r:List UInt8):z5a lo hi (varB v++r)=.ok (v,r):=by
 unfold z5a
 rw [w0h v h3]
 dsimp only
 rw [if_neg (by omega)]
theorem z6r (v:Nat) (h:v≤1073741824) (r:List UInt8):rdNum (varB v++r)=.ok (v,r):=by
 unfold rdNum
 rw [w0h v (by omega)]
 dsimp only
 rw [if_neg (by omega)]
theorem w6p (m:Nat) (s:ByteArray) (h:s.size≤m) (hm:m≤1000000) (r:List UInt8):rdTxt m (txB s++r)=.ok (s.data.toList,r):=by
 unfold rdTxt
 rw [txB,List.append_assoc,w0h _ (by omega)]
 have hl:=z3t s
 dsimp only
 rw [if_neg (by omega),if_neg (by rw [List.length_append];omega),← hl,List.take_left,List.drop_left]
theorem k2r (s:ByteArray):(⟨s.data.toList.toArray⟩:ByteArray)=s:=by
 obtain⟨d⟩:=s;simp
theorem w4r {s:ByteArray} (h:s.size=0):s=⟨#[]⟩:=by
 obtain⟨d⟩:=s
 have:d=#[]:=Array.size_eq_zero_iff.1 h
 rw [this]
def Lv.good:Nat→Lv→Prop
 | 0,_=>False
 | d + 1,.mk k n l=>((k=4∧0≤n∧n < 4∧l=[])∨(0≤k∧k≤3∧n=0∧l.length=lvN k.toNat))∧∀ a ∈ l,Lv.good d a
mutual
def Lv.parts:Lv→Nat
 | .mk _ _ l=>1 + Lv.partss l
def Lv.partss:List Lv→Nat
 | []=>0
 | a :: l=>Lv.parts a + Lv.partss l
end
theorem z6b {α:Type} {f:Nat→List UInt8→Except Int (α × List UInt8 × Nat)} {g:α→List UInt8} {gs:List α→List UInt8} {c:α→Nat} {cs:List α→Nat} (h0:gs []=[]) (h1:∀ a l,gs (a :: l)=g a++gs l) (k0:cs []=0) (k1:∀ a l,cs (a :: l)=c a + cs l) {m:Nat} :
  ∀ (l:List α) (p:Nat) (r:List UInt8),(∀ a ∈ l,∀ p r,p + c a≤m→f p (g a++r)=.ok (a,r,p + c a))→p + cs l≤m→many f l.length p (gs l++r)=.ok (l,r,p + cs l)
 | [],p,r,_,_=>by simp only [many,h0,k0,List.length_nil,List.nil_append,Nat.add_zero]
 | a :: l,p,r,hf,hm=>by
  rw [k1] at hm
  simp only [many,List.length_cons,h1,List.append_assoc]
  rw [hf a (by simp) p _ (by omega)]
  dsimp only
  rw [z6b h0 h1 k0 k1 l (p + c a) r (fun b hb=>hf b (by simp [hb])) (by omega)]
  dsimp only
  rw [k1,Nat.add_assoc]
theorem w1u:∀ (d:Nat) (l:Lv),l.good d→∀ (p:Nat) (r:List UInt8),p + l.parts≤64→rdLv d p (l.enc++r)=.ok (l,r,p + l.parts)
 | 0,_,h,_,_,_=>h.elim
 | d + 1,.mk k n l,h,p,r,hp=>by
  obtain⟨hk,ha⟩:=h
  simp only [Lv.parts] at hp ⊢
  simp only [rdLv,Lv.enc,List.append_assoc]
  rw [if_neg (by omega)]
  have hks:0≤k∧k≤4:=by omega
  obtain⟨kn,rfl⟩:∃ kn:Nat,k=kn:=⟨k.toNat,by omega⟩
  have hu:uv (kn:Int)=kn:=z5o _ (by omega)
  rw [hu,z7z 0 4 kn (by omega) (by omega) (by omega)]
  dsimp only
  rcases hk with ⟨h4,hn0,hn4,rfl⟩ | ⟨_,h3,rfl,hl⟩
  ·obtain⟨nn,rfl⟩:∃ nn:Nat,n=nn:=⟨n.toNat,by omega⟩
   have hk4:kn=4:=by omega
   subst hk4
   rw [if_pos rfl,if_pos h4,z5o nn (by omega),Lv.encs,List.nil_append,z6r nn (by omega)]
   dsimp only
   rw [if_neg (by omega)]
   rfl
  ·rw [if_neg (by omega),if_neg (show ¬ ((kn:Nat):Int)=4 by omega),List.nil_append]
   rw [Int.toNat_natCast] at hl
   rw [← hl,z6b (g:=Lv.enc) (gs:=Lv.encs) (c:=Lv.parts) (cs:=Lv.partss) rfl (fun _ _=>rfl) rfl (fun _ _=>rfl) (m:=64) l (p + 1) r (fun a hm p r hp=>w1u d a (ha a hm) p r hp) (by omega)]
   dsimp only
   rw [show p + 1 + Lv.partss l=p + (1 + Lv.partss l) by omega]
theorem w1w (l:Lv) (h:l.good 32) (hp:l.parts≤64) (r:List UInt8):z2l (l.enc++r)=.ok (l,r):=by
 unfold z2l
 rw [w1u 32 l h 0 r (by omega)]
def Tm.good:Nat→Tm→Prop
 | 0,_=>False
 | d + 1,.mk k n s l a =>
  ((k=0∧0≤n∧n≤1073741824∧s.size=0∧l=[]∧a=[])∨(k=1∧n=0∧s.size=0∧l.length=1∧a=[])∨(k=2∧n=0∧s.size≤24∧l.length≤4∧a=[])∨(3≤k∧k≤6∧n=0∧s.size=0∧l=[]∧a.length=tmN k.toNat)) ∧
  (∀ b ∈ l,Lv.good 32 b∧b.parts≤64)∧∀ b ∈ a,Tm.good d b
mutual
def Tm.parts:Tm→Nat
 | .mk _ _ _ _ a=>1 + Tm.partss a
def Tm.partss:List Tm→Nat
 | []=>0
 | a :: l=>Tm.parts a + Tm.partss l
end
theorem z8h (l:List Lv) (h:∀ b ∈ l,Lv.good 32 b∧b.parts≤64) (p:Nat) (r:List UInt8):many z1a l.length p (Lv.encs l++r)=.ok (l,r,p):=by
 have hz:∀ l:List Lv,(fun _:List Lv=>0) l=0:=fun _=>rfl
 have:=z6b (f:=z1a) (g:=Lv.enc) (gs:=Lv.encs) (c:=fun _=>0) (cs:=fun _=>0) rfl (fun _ _=>rfl) rfl (fun _ _=>rfl) (m:=p) l p r (fun a ha p r _=>by
  unfold z1a;rw [w1w a (h a ha).1 (h a ha).2];rfl) (by omega)
 simpa using this
theorem w1s:∀ (d:Nat) (t:Tm),t.good d→∀ (p:Nat) (r:List UInt8),p + t.parts≤2000→rdTm d p (t.enc++r)=.ok (t,r,p + t.parts)
 | 0,_,h,_,_,_=>h.elim
 | d + 1,.mk k n s l a,h,p,r,hp=>by
  obtain⟨hk,hl,ha⟩:=h
  simp only [Tm.parts] at hp ⊢
  simp only [rdTm,Tm.enc,List.append_assoc]
  rw [if_neg (by omega)]
  have hks:0≤k∧k≤6:=by omega
  obtain⟨kn,rfl⟩:∃ kn:Nat,k=kn:=⟨k.toNat,by omega⟩
  have hu:uv (kn:Int)=kn:=z5o _ (by omega)
  rw [hu,z7z 0 6 kn (by omega) (by omega) (by omega)]
  dsimp only
  rcases hk with ⟨h0,hn0,hn1,hs,rfl,rfl⟩ | ⟨h1,rfl,hs,hll,rfl⟩ | ⟨h2,rfl,hs,hll,rfl⟩ | ⟨h3,h6,rfl,hs,rfl,hal⟩
  ·obtain⟨nn,rfl⟩:∃ nn:Nat,n=nn:=⟨n.toNat,by omega⟩
   have hk0:kn=0:=by omega
   subst hk0
   have hs0:=w4r hs
   subst hs0
   rw [if_pos rfl,if_pos h0,z5o nn (by omega),Lv.encs,Tm.encs,List.nil_append,List.nil_append,z6r nn (by omega)]
   rfl
  ·have hk1:kn=1:=by omega
   subst hk1
   have hs0:=w4r hs
   subst hs0
   rw [if_neg (by omega),if_pos rfl,if_neg (by omega),if_neg (by omega),List.nil_append,Tm.encs,List.nil_append]
   have:=z8h l hl (p + 1) r
   rw [hll] at this
   rw [this]
   rfl
  ·have hk2:kn=2:=by omega
   subst hk2
   rw [if_neg (by omega),if_neg (by omega),if_pos rfl,if_neg (by omega),if_pos h2,Tm.encs,List.nil_append,List.append_assoc,w6p 24 s hs (by omega)]
   dsimp only
   rw [z6r _ (by omega)]
   dsimp only
   rw [if_neg (by omega),z8h l hl (p + 1) r]
   dsimp only
   rw [k2r]
   rfl
  ·have hs0:=w4r hs
   subst hs0
   rw [Int.toNat_natCast] at hal
   rw [if_neg (by omega),if_neg (by omega),if_neg (by omega),if_neg (by omega),if_neg (by omega),Lv.encs,List.nil_append,List.nil_append,← hal,z6b (g:=Tm.enc) (gs:=Tm.encs) (c:=Tm.parts) (cs:=Tm.partss) rfl (fun _ _=>rfl) rfl (fun _ _=>rfl) (m:=2000) a (p + 1) r (fun b hm p r hp=>w1s d b (ha b hm) p r hp) (by omega)]
   dsimp only
   rw [show p + 1 + Tm.partss a=p + (1 + Tm.partss a) by omega]
theorem w3y (t:Tm) (h:t.good 100) (hp:t.parts≤2000) (r:List UInt8):z4m (t.enc++r)=.ok (t,r):=by
 unfold z4m
 rw [w1s 100 t h 0 r (by omega)]
def p125_1 {ρ:Type} (fail:ρ) (fu:Nat) (K0:Int→Int→ρ) (rec1:Int→EL→Int→Int→ρ) (z1:Int) (z2:EL) (z3 z4:Int):ρ :=
 bif (z0a .lss z4 z3) then (gd ((0:Int)≤z4) fail (gd ((z4:Int) < (z2.length:Nat)) fail (rw_u8 fail (List.getD z2 ((z4:Int).toNat) []) (fun c5=>gd ((0:Int)≤8) fail (rec1 (z0d .or .u64 (z0d .shl .u64 z1 8) (IntKind.u64.wrap c5)) z2 z3 (z0d .add .i64 z4 1)))))) else (K0 z1 0)
def p125_1L {ρ:Type} (fail:ρ) (fu:Nat) (K0:Int→Int→ρ):Nat→Int→EL→Int→Int→ρ
 | 0,_,_,_,_=>fail
 | n + 1,z1,z2,z3,z4=>p125_1 fail fu K0 (p125_1L fail fu K0 n) z1 z2 z3 z4
def p125 {ρ:Type} (fail:ρ) (fu:Nat) (K0:Int→Int→ρ) (x0:EL):ρ :=
 bif (z0a .lss ((x0.length:Nat):Int) 8) then (K0 0 2) else (gd ((0:Int)≤0) fail (gd ((0:Int)≤8) fail (gd ((8:Int)≤(x0.length:Nat)) fail (p125_1L fail fu K0 fu 0 (List.drop ((0:Int).toNat) (List.take ((8:Int).toNat) x0)) (((List.drop ((0:Int).toNat) (List.take ((8:Int).toNat) x0)).length:Nat):Int) 0))))
def p92 {ρ:Type} (fail:ρ) (fu:Nat) (K0:Int→EL→Int→ρ) (x0:EL) (x1:Int):ρ :=
 bif (z0a .neq x1 0) then (K0 0 x0 x1) else (p125 fail fu (fun y1 y2=>p94 fail fu (fun y3 y4=>bif (z0a .neq y2 0) then (K0 0 y3 y4) else (gd ((0:Int)≤8) fail (gd ((8:Int)≤(y3.length:Nat)) fail (gd (((y3.length:Nat):Int)≤(y3.length:Nat)) fail (K0 y1 (List.drop ((8:Int).toNat) (List.take (((y3.length:Nat):Int).toNat) y3)) y4))))) x0 x1 y2) x0)
def p122b_1 {ρ:Type} (fail:ρ) (fu:Nat) (s_p122b:(Bool→ρ)→Int→Int→EL→Int→Int→EL→ρ) (s_p121:(Bool→ρ)→EL→EL→ρ) (K0:Bool→ρ) (j1:Bool):ρ :=
 K0 j1
def p122b_b {ρ:Type} (fail:ρ) (fu:Nat) (s_p122b:(Bool→ρ)→Int→Int→EL→Int→Int→EL→ρ) (s_p121:(Bool→ρ)→EL→EL→ρ) (K0:Bool→ρ) (x0 x1:Int) (x2:EL) (x3 x4:Int) (x5:EL):ρ :=
 bif (z0a .eql x0 x3) then (bif (z0a .eql x1 x4) then (s_p121 (fun y2=>p122b_1 fail fu s_p122b s_p121 K0 y2) x2 x5) else (p122b_1 fail fu s_p122b s_p121 K0 false)) else (p122b_1 fail fu s_p122b s_p121 K0 false)
def p121_1 {ρ:Type} (fail:ρ) (fu:Nat) (s_p122b:(Bool→ρ)→Int→Int→EL→Int→Int→EL→ρ) (s_p121:(Bool→ρ)→EL→EL→ρ) (K0:Bool→ρ) (rec1:Int→Int→ρ) (x0 x1:EL) (z1 z2:Int):ρ :=
 bif (z0a .lss z2 z1) then (gd ((0:Int)≤z2) fail (gd ((z2:Int) < (x0.length:Nat)) fail (z0n fail (List.getD x0 ((z2:Int).toNat) []) (fun c3 c4 c5=>gd ((0:Int)≤z2) fail (gd ((z2:Int) < (x1.length:Nat)) fail (z0n fail (List.getD x1 ((z2:Int).toNat) []) (fun c6 c7 c8=>s_p122b (fun y9=>bif (!y9) then (K0 false) else (rec1 z1 (z0d .add .i64 z2 1))) c3 c4 c5 c6 c7 c8))))))) else (K0 true)
def p121_1L {ρ:Type} (fail:ρ) (fu:Nat) (s_p122b:(Bool→ρ)→Int→Int→EL→Int→Int→EL→ρ) (s_p121:(Bool→ρ)→EL→EL→ρ) (K0:Bool→ρ) (x0 x1:EL):Nat→Int→Int→ρ
 | 0,_,_=>fail
 | n + 1,z1,z2=>p121_1 fail fu s_p122b s_p121 K0 (p121_1L fail fu s_p122b s_p121 K0 x0 x1 n) x0 x1 z1 z2
def p121_b {ρ:Type} (fail:ρ) (fu:Nat) (s_p122b:(Bool→ρ)→Int→Int→EL→Int→Int→EL→ρ) (s_p121:(Bool→ρ)→EL→EL→ρ) (K0:Bool→ρ) (x0 x1:EL):ρ :=
 bif (z0a .neq ((x0.length:Nat):Int) ((x1.length:Nat):Int)) then (K0 false) else (p121_1L fail fu s_p122b s_p121 K0 x0 x1 fu ((x0.length:Nat):Int) 0)
mutual
def p122b {ρ:Type} (fail:ρ):Nat→(Bool→ρ)→Int→Int→EL→Int→Int→EL→ρ
 | 0,_,_,_,_,_,_,_=>fail
 | n + 1,K0,x0,x1,x2,x3,x4,x5=>p122b_b fail n (p122b fail n) (p121 fail n) K0 x0 x1 x2 x3 x4 x5
def p121 {ρ:Type} (fail:ρ):Nat→(Bool→ρ)→EL→EL→ρ
 | 0,_,_,_=>fail
 | n + 1,K0,x0,x1=>p121_b fail n (p122b fail n) (p121 fail n) K0 x0 x1
end
def p123b_1 {ρ:Type} (fail:ρ) (fu:Nat) (s_p123b:(Bool→ρ)→EL→EL→ρ) (s_p86:(Bool→ρ)→Int→Int→ByteArray→EL→EL→Int→Int→ByteArray→EL→EL→ρ) (K0:Bool→ρ) (rec1:Int→Int→ρ) (x0 x1:EL) (z1 z2:Int):ρ :=
 bif (z0a .lss z2 z1) then (gd ((0:Int)≤z2) fail (gd ((z2:Int) < (x0.length:Nat)) fail (z0i fail (List.getD x0 ((z2:Int).toNat) []) (fun c3 c4 c5 c6 c7=>gd ((0:Int)≤z2) fail (gd ((z2:Int) < (x1.length:Nat)) fail (z0i fail (List.getD x1 ((z2:Int).toNat) []) (fun c8 c9 c10 c11 c12=>s_p86 (fun y13=>bif (!y13) then (K0 false) else (rec1 z1 (z0d .add .i64 z2 1))) c3 c4 c5 c6 c7 c8 c9 c10 c11 c12))))))) else (K0 true)
def p123b_1L {ρ:Type} (fail:ρ) (fu:Nat) (s_p123b:(Bool→ρ)→EL→EL→ρ) (s_p86:(Bool→ρ)→Int→Int→ByteArray→EL→EL→Int→Int→ByteArray→EL→EL→ρ) (K0:Bool→ρ) (x0 x1:EL):Nat→Int→Int→ρ
 | 0,_,_=>fail
 | n + 1,z1,z2=>p123b_1 fail fu s_p123b s_p86 K0 (p123b_1L fail fu s_p123b s_p86 K0 x0 x1 n) x0 x1 z1 z2
def p123b_b {ρ:Type} (fail:ρ) (fu:Nat) (s_p123b:(Bool→ρ)→EL→EL→ρ) (s_p86:(Bool→ρ)→Int→Int→ByteArray→EL→EL→Int→Int→ByteArray→EL→EL→ρ) (K0:Bool→ρ) (x0 x1:EL):ρ :=
 bif (z0a .neq ((x0.length:Nat):Int) ((x1.length:Nat):Int)) then (K0 false) else (p123b_1L fail fu s_p123b s_p86 K0 x0 x1 fu ((x0.length:Nat):Int) 0)
def p86_1 {ρ:Type} (fail:ρ) (fu:Nat) (s_p123b:(Bool→ρ)→EL→EL→ρ) (s_p86:(Bool→ρ)→Int→Int→ByteArray→EL→EL→Int→Int→ByteArray→EL→EL→ρ) (K0:Bool→ρ) (j1:Bool):ρ :=
 K0 j1
def p86_b {ρ:Type} (fail:ρ) (fu:Nat) (s_p123b:(Bool→ρ)→EL→EL→ρ) (s_p86:(Bool→ρ)→Int→Int→ByteArray→EL→EL→Int→Int→ByteArray→EL→EL→ρ) (K0:Bool→ρ) (x0 x1:Int) (x2:ByteArray) (x3 x4:EL) (x5 x6:Int) (x7:ByteArray) (x8 x9:EL):ρ :=
 bif (z0a .eql x0 x5) then (bif (z0a .eql x1 x6) then (bif (z2a .eql x2 x7) then (p121 fail fu (fun y2=>bif y2 then (s_p123b (fun y3=>p86_1 fail fu s_p123b s_p86 K0 y3) x4 x9) else (p86_1 fail fu s_p123b s_p86 K0 false)) x3 x8) else (p86_1 fail fu s_p123b s_p86 K0 false)) else (p86_1 fail fu s_p123b s_p86 K0 false)) else (p86_1 fail fu s_p123b s_p86 K0 false)
mutual
def p123b {ρ:Type} (fail:ρ):Nat→(Bool→ρ)→EL→EL→ρ
 | 0,_,_,_=>fail
 | n + 1,K0,x0,x1=>p123b_b fail n (p123b fail n) (p86 fail n) K0 x0 x1
def p86 {ρ:Type} (fail:ρ):Nat→(Bool→ρ)→Int→Int→ByteArray→EL→EL→Int→Int→ByteArray→EL→EL→ρ
 | 0,_,_,_,_,_,_,_,_,_,_,_=>fail
 | n + 1,K0,x0,x1,x2,x3,x4,x5,x6,x7,x8,x9=>p86_b fail n (p123b fail n) (p86 fail n) K0 x0 x1 x2 x3 x4 x5 x6 x7 x8 x9
end
def p45_1 {ρ:Type} (fail:ρ) (fu:Nat) (K0:Int→Int→Int→Int→Int→Bool→Int→Int→ByteArray→EL→EL→Int→EL→Int→ρ) (y1 y4 y7 y10 y13:Int) (j21:Bool) (j25 j26:Int) (j27:ByteArray) (j28 j29:EL) (y30:Int) (z40:EL) (j47:Bool):ρ :=
 bif j47 then (K0 0 0 0 0 0 false 0 0 ⟨#[]⟩ nilE nilE 0 nilE 5) else (K0 y1 y4 y7 y10 y13 j21 j25 j26 j27 j28 j29 y30 z40 0)
def p45_2 {ρ:Type} (fail:ρ) (fu:Nat) (K0:Int→Int→Int→Int→Int→Bool→Int→Int→ByteArray→EL→EL→Int→EL→Int→ρ) (rec1:EL→Int→EL→Int→ρ) (y1 y4 y7 y10 y13:Int) (j21:Bool) (j25 j26:Int) (j27:ByteArray) (j28 j29:EL) (y30:Int) (z38:EL) (z39:Int) (z40:EL) (z41:Int) (j42:Bool):ρ :=
 bif j42 then (p95 fail fu (fun y43 y44 y45=>tobP fail y43 (fun s46=>gd (1≤[[(CV.v (.string s46))]].length) fail (gd ((z40.length + (List.take 1 [[(CV.v (.string s46))]]).length) * 16≤35184372088832) fail (rec1 y44 y45 (z40++(List.take 1 [[(CV.v (.string s46))]])) (z0d .sub .i64 z41 1))))) z38 z39 24) else (bif (z0a .neq z39 0) then (p45_1 fail fu K0 y1 y4 y7 y10 y13 j21 j25 j26 j27 j28 j29 y30 z40 true) else (p45_1 fail fu K0 y1 y4 y7 y10 y13 j21 j25 j26 j27 j28 j29 y30 z40 (z0a .gtr ((z38.length:Nat):Int) 0)))
def p45_3 {ρ:Type} (fail:ρ) (fu:Nat) (K0:Int→Int→Int→Int→Int→Bool→Int→Int→ByteArray→EL→EL→Int→EL→Int→ρ) (rec1:EL→Int→EL→Int→ρ) (y1 y4 y7 y10 y13:Int) (j21:Bool) (j25 j26:Int) (j27:ByteArray) (j28 j29:EL) (y30:Int) (z38:EL) (z39:Int) (z40:EL) (z41:Int):ρ :=
 bif (z0a .gtr z41 0) then (p45_2 fail fu K0 rec1 y1 y4 y7 y10 y13 j21 j25 j26 j27 j28 j29 y30 z38 z39 z40 z41 (z0a .eql z39 0)) else (p45_2 fail fu K0 rec1 y1 y4 y7 y10 y13 j21 j25 j26 j27 j28 j29 y30 z38 z39 z40 z41 false)
def p45_3L {ρ:Type} (fail:ρ) (fu:Nat) (K0:Int→Int→Int→Int→Int→Bool→Int→Int→ByteArray→EL→EL→Int→EL→Int→ρ) (y1 y4 y7 y10 y13:Int) (j21:Bool) (j25 j26:Int) (j27:ByteArray) (j28 j29:EL) (y30:Int):Nat→EL→Int→EL→Int→ρ
 | 0,_,_,_,_=>fail
 | n + 1,z38,z39,z40,z41=>p45_3 fail fu K0 (p45_3L fail fu K0 y1 y4 y7 y10 y13 j21 j25 j26 j27 j28 j29 y30 n) y1 y4 y7 y10 y13 j21 j25 j26 j27 j28 j29 y30 z38 z39 z40 z41
def p45_4 {ρ:Type} (fail:ρ) (fu:Nat) (K0:Int→Int→Int→Int→Int→Bool→Int→Int→ByteArray→EL→EL→Int→EL→Int→ρ) (y1 y4 y7 y10 y13:Int) (j21:Bool) (j25 j26:Int) (j27:ByteArray) (j28 j29:EL) (y30 y33:Int) (j36:EL) (j37:Int):ρ :=
 p45_3L fail fu K0 y1 y4 y7 y10 y13 j21 j25 j26 j27 j28 j29 y30 fu j36 j37 nilE y33
def p45_5 {ρ:Type} (fail:ρ) (fu:Nat) (K0:Int→Int→Int→Int→Int→Bool→Int→Int→ByteArray→EL→EL→Int→EL→Int→ρ) (y1 y4 y7 y10 y13:Int) (j21:Bool) (j23:EL) (j24 j25 j26:Int) (j27:ByteArray) (j28 j29:EL):ρ :=
 p91 fail fu (fun y30 y31 y32=>p91 fail fu (fun y33 y34 y35=>bif (z0a .gtr y33 65536) then (p94 fail fu (fun y48 y49=>p45_4 fail fu K0 y1 y4 y7 y10 y13 j21 j25 j26 j27 j28 j29 y30 y33 y48 y49) y34 y35 5) else (p45_4 fail fu K0 y1 y4 y7 y10 y13 j21 j25 j26 j27 j28 j29 y30 y33 y34 y35)) y31 y32) j23 j24
def p45_6 {ρ:Type} (fail:ρ) (fu:Nat) (K0:Int→Int→Int→Int→Int→Bool→Int→Int→ByteArray→EL→EL→Int→EL→Int→ρ) (y1 y4 y7 y10 y13:Int) (j21:Bool) (y50 y51:Int) (y52:ByteArray) (y53 y54 j58:EL) (j59:Int):ρ :=
 p45_5 fail fu K0 y1 y4 y7 y10 y13 j21 j58 j59 y50 y51 y52 y53 y54
def p45_7 {ρ:Type} (fail:ρ) (fu:Nat) (K0:Int→Int→Int→Int→Int→Bool→Int→Int→ByteArray→EL→EL→Int→EL→Int→ρ) (y1 y4 y7 y10 y13:Int) (j19:EL) (j20:Int) (j21 j22:Bool):ρ :=
 bif j22 then (p65 fail fu (fun y50 y51 y52 y53 y54 y55 y56=>p86 fail fu (fun y57=>bif y57 then (p94 fail fu (fun y60 y61=>p45_6 fail fu K0 y1 y4 y7 y10 y13 j21 y50 y51 y52 y53 y54 y60 y61) y55 y56 5) else (p45_6 fail fu K0 y1 y4 y7 y10 y13 j21 y50 y51 y52 y53 y54 y55 y56)) y50 y51 y52 y53 y54 0 0 ⟨#[]⟩ nilE nilE) j19 j20) else (p45_5 fail fu K0 y1 y4 y7 y10 y13 j21 j19 j20 0 0 ⟨#[]⟩ nilE nilE)
def p37_1 {ρ:Type} (fail:ρ) (fu:Nat) (s_p37:(Bool→ρ)→Int→Int→EL→Int→Int→EL→ρ) (K0:Bool→ρ) (rec1:Int→ρ) (x2 x5:EL) (z2:Int):ρ :=
 bif (z0a .lss z2 ((x2.length:Nat):Int)) then (gd ((0:Int)≤z2) fail (gd ((z2:Int) < (x2.length:Nat)) fail (z0n fail (List.getD x2 ((z2:Int).toNat) []) (fun c3 c4 c5=>gd ((0:Int)≤z2) fail (gd ((z2:Int) < (x5.length:Nat)) fail (z0n fail (List.getD x5 ((z2:Int).toNat) []) (fun c6 c7 c8=>s_p37 (fun y9=>bif (!y9) then (K0 false) else (rec1 (z0d .add .i64 z2 1))) c3 c4 c5 c6 c7 c8))))))) else (K0 true)
def p37_1L {ρ:Type} (fail:ρ) (fu:Nat) (s_p37:(Bool→ρ)→Int→Int→EL→Int→Int→EL→ρ) (K0:Bool→ρ) (x2 x5:EL):Nat→Int→ρ
 | 0,_=>fail
 | n + 1,z2=>p37_1 fail fu s_p37 K0 (p37_1L fail fu s_p37 K0 x2 x5 n) x2 x5 z2
def p37_2 {ρ:Type} (fail:ρ) (fu:Nat) (s_p37:(Bool→ρ)→Int→Int→EL→Int→Int→EL→ρ) (K0:Bool→ρ) (x2 x5:EL) (j1:Bool):ρ :=
 bif j1 then (K0 false) else (p37_1L fail fu s_p37 K0 x2 x5 fu 0)
def p37_b {ρ:Type} (fail:ρ) (fu:Nat) (s_p37:(Bool→ρ)→Int→Int→EL→Int→Int→EL→ρ) (K0:Bool→ρ) (x0 x1:Int) (x2:EL) (x3 x4:Int) (x5:EL):ρ :=
 bif (z0a .neq x0 x3) then (p37_2 fail fu s_p37 K0 x2 x5 true) else (bif (z0a .neq x1 x4) then (p37_2 fail fu s_p37 K0 x2 x5 true) else (p37_2 fail fu s_p37 K0 x2 x5 (z0a .neq ((x2.length:Nat):Int) ((x5.length:Nat):Int))))
def p37 {ρ:Type} (fail:ρ):Nat→(Bool→ρ)→Int→Int→EL→Int→Int→EL→ρ
 | 0,_,_,_,_,_,_,_=>fail
 | n + 1,K0,x0,x1,x2,x3,x4,x5=>p37_b fail n (p37 fail n) K0 x0 x1 x2 x3 x4 x5
def p19_1 {ρ:Type} (fail:ρ) (fu:Nat) (s_p19:(Bool→ρ)→Int→Int→ByteArray→EL→EL→Int→Int→ByteArray→EL→EL→ρ) (K0:Bool→ρ) (rec2:Int→ρ) (x4 x9:EL) (z10:Int):ρ :=
 bif (z0a .lss z10 ((x4.length:Nat):Int)) then (gd ((0:Int)≤z10) fail (gd ((z10:Int) < (x4.length:Nat)) fail (z0i fail (List.getD x4 ((z10:Int).toNat) []) (fun c11 c12 c13 c14 c15=>gd ((0:Int)≤z10) fail (gd ((z10:Int) < (x9.length:Nat)) fail (z0i fail (List.getD x9 ((z10:Int).toNat) []) (fun c16 c17 c18 c19 c20=>s_p19 (fun y21=>bif (!y21) then (K0 false) else (rec2 (z0d .add .i64 z10 1))) c11 c12 c13 c14 c15 c16 c17 c18 c19 c20))))))) else (K0 true)
def p19_1L {ρ:Type} (fail:ρ) (fu:Nat) (s_p19:(Bool→ρ)→Int→Int→ByteArray→EL→EL→Int→Int→ByteArray→EL→EL→ρ) (K0:Bool→ρ) (x4 x9:EL):Nat→Int→ρ
 | 0,_=>fail
 | n + 1,z10=>p19_1 fail fu s_p19 K0 (p19_1L fail fu s_p19 K0 x4 x9 n) x4 x9 z10
def p19_2 {ρ:Type} (fail:ρ) (fu:Nat) (s_p19:(Bool→ρ)→Int→Int→ByteArray→EL→EL→Int→Int→ByteArray→EL→EL→ρ) (K0:Bool→ρ) (rec1:Int→ρ) (x3 x4 x8 x9:EL) (z2:Int):ρ :=
 bif (z0a .lss z2 ((x3.length:Nat):Int)) then (gd ((0:Int)≤z2) fail (gd ((z2:Int) < (x3.length:Nat)) fail (z0n fail (List.getD x3 ((z2:Int).toNat) []) (fun c3 c4 c5=>gd ((0:Int)≤z2) fail (gd ((z2:Int) < (x8.length:Nat)) fail (z0n fail (List.getD x8 ((z2:Int).toNat) []) (fun c6 c7 c8=>p37 fail fu (fun y9=>bif (!y9) then (K0 false) else (rec1 (z0d .add .i64 z2 1))) c3 c4 c5 c6 c7 c8))))))) else (p19_1L fail fu s_p19 K0 x4 x9 fu 0)
def p19_2L {ρ:Type} (fail:ρ) (fu:Nat) (s_p19:(Bool→ρ)→Int→Int→ByteArray→EL→EL→Int→Int→ByteArray→EL→EL→ρ) (K0:Bool→ρ) (x3 x4 x8 x9:EL):Nat→Int→ρ
 | 0,_=>fail
 | n + 1,z2=>p19_2 fail fu s_p19 K0 (p19_2L fail fu s_p19 K0 x3 x4 x8 x9 n) x3 x4 x8 x9 z2
def p19_3 {ρ:Type} (fail:ρ) (fu:Nat) (s_p19:(Bool→ρ)→Int→Int→ByteArray→EL→EL→Int→Int→ByteArray→EL→EL→ρ) (K0:Bool→ρ) (x3 x4 x8 x9:EL) (j1:Bool):ρ :=
 bif j1 then (K0 false) else (p19_2L fail fu s_p19 K0 x3 x4 x8 x9 fu 0)
def p19_b {ρ:Type} (fail:ρ) (fu:Nat) (s_p19:(Bool→ρ)→Int→Int→ByteArray→EL→EL→Int→Int→ByteArray→EL→EL→ρ) (K0:Bool→ρ) (x0 x1:Int) (x2:ByteArray) (x3 x4:EL) (x5 x6:Int) (x7:ByteArray) (x8 x9:EL):ρ :=
 bif (z0a .neq x0 x5) then (p19_3 fail fu s_p19 K0 x3 x4 x8 x9 true) else (bif (z0a .neq x1 x6) then (p19_3 fail fu s_p19 K0 x3 x4 x8 x9 true) else (bif (z2a .neq x2 x7) then (p19_3 fail fu s_p19 K0 x3 x4 x8 x9 true) else (bif (z0a .neq ((x3.length:Nat):Int) ((x8.length:Nat):Int)) then (p19_3 fail fu s_p19 K0 x3 x4 x8 x9 true) else (p19_3 fail fu s_p19 K0 x3 x4 x8 x9 (z0a .neq ((x4.length:Nat):Int) ((x9.length:Nat):Int))))))
def p19 {ρ:Type} (fail:ρ):Nat→(Bool→ρ)→Int→Int→ByteArray→EL→EL→Int→Int→ByteArray→EL→EL→ρ
 | 0,_,_,_,_,_,_,_,_,_,_,_=>fail
 | n + 1,K0,x0,x1,x2,x3,x4,x5,x6,x7,x8,x9=>p19_b fail n (p19 fail n) K0 x0 x1 x2 x3 x4 x5 x6 x7 x8 x9
def D_p37 (fu:Nat):Prop:=∀ {K0:Bool→Prop} (L:EL→Nat) (_:L=List.length) {x0 x1:Int} {x2:EL} {x3 x4:Int} {x5:EL} (_:p37 False fu K0 x0 x1 x2 x3 x4 x5),Den Try.prog G0 37 [.agg [.c (.v (.int .i64 x0)),.c (.v (.int .i64 x1)),.c (.sl 3 x2 none)],.agg [.c (.v (.int .i64 x3)),.c (.v (.int .i64 x4)),.c (.sl 3 x5 none)]] (fun r bs=>(∃ (y0:Bool) (o0 o1:OV),(r=.c (.v (.bool y0))∧bs=[o0,o1])∧K0 y0))
theorem b_p37 (fu:Nat)(ih_p37:D_p37 fu){K0:Bool→Prop}(L:EL→Nat)(hN:L=List.length){x0 x1:Int}{x2:EL}{x3 x4:Int}{x5:EL}(h:p37_b False fu (p37 False fu) K0 x0 x1 x2 x3 x4 x5):Den Try.prog G0 37 [.agg [.c (.v (.int .i64 x0)),.c (.v (.int .i64 x1)),.c (.sl 3 x2 none)],.agg [.c (.v (.int .i64 x3)),.c (.v (.int .i64 x4)),.c (.sl 3 x5 none)]] (fun r bs=>(∃ (y0:Bool) (o0 o1:OV),(r=.c (.v (.bool y0))∧bs=[o0,o1])∧K0 y0)):=by
 obtain⟨O,hO⟩:∃ O,O=std 0 T G0 (Den Try.prog G0):=⟨_,rfl⟩
 have hLO:L=O.len:=by rw [hN,hO];rfl
 subst hLO
 refine den_h hO tiA mixed tabOk (fn:=Try.f37) (sh:=true) (by kernel_rfl) rfl rfl rfl rfl ?_
 intro Q b
 unfold p37_b at h
 conv=>cbv
 refine z0u hO tiA [2,3,26] [3000,4000] [] (fun tm m=>∃ (j1:Bool),((tm=frame 0 46 [(2,.p 3000 0 0),(3,.p 4000 0 0),(26,.c (.v (.bool j1)))]∧m=⟨[(3000,.blk 0 [.c (.v (.int .i64 x0)),.c (.v (.int .i64 x1)),.c (.sl 3 x2 none)]),(4000,.blk 0 [.c (.v (.int .i64 x3)),.c (.v (.int .i64 x4)),.c (.sl 3 x5 none)])],1⟩))∧p37_2 False fu (p37 False fu) K0 x2 x5 j1) (fun L hL_2=>?_) ?_
 conv=>cbv
 refine br_h hO h (by subst hO;rfl) (fun k4 h=>?_) (fun k4 h=>?_)
 conv=>cbv
 refine br_t hO k4 ?_
 conv=>cbv
 refine br_t hO k4 ?_
 conv=>cbv
 refine br_t hO k4 ?_
 conv=>cbv
 refine br_t hO k4 ?_
 conv=>cbv
 refine br_t hO k4 ?_
 conv=>cbv
 refine br_t hO rfl ?_
 conv=>cbv
 refine br_t hO rfl ?_
 conv=>cbv
 refine br_t hO rfl ?_
 conv=>cbv
 refine br_t hO rfl ?_
 conv=>cbv
 refine br_t hO rfl ?_
 conv=>cbv
 refine br_t hO rfl ?_
 conv=>cbv
 refine br_t hO rfl ?_
 conv=>cbv
 refine br_t hO rfl ?_
 conv=>cbv
 exact hL_2 _ _ ⟨true,⟨(by (conv=>lhs;cbv)<;>(subst hO;rfl)),(by (conv=>lhs;cbv)<;>(subst hO;rfl))⟩,h⟩
 conv=>cbv
 refine br_f hO k4 ?_
 conv=>cbv
 refine br_f hO k4 ?_
 conv=>cbv
 refine br_f hO k4 ?_
 conv=>cbv
 refine br_f hO k4 ?_
 conv=>cbv
 refine br_f hO k4 ?_
 conv=>cbv
 refine br_h hO h (by subst hO;rfl) (fun k5 h=>?_) (fun k5 h=>?_)
 conv=>cbv
 refine br_t hO k5 ?_
 conv=>cbv
 refine br_t hO k5 ?_
 conv=>cbv
 refine br_t hO k5 ?_
 conv=>cbv
 refine br_t hO k5 ?_
 conv=>cbv
 refine br_t hO k5 ?_
 conv=>cbv
 refine br_t hO k5 ?_
 conv=>cbv
 refine br_t hO k5 ?_
 conv=>cbv
 exact hL_2 _ _ ⟨true,⟨(by (conv=>lhs;cbv)<;>(subst hO;rfl)),(by (conv=>lhs;cbv)<;>(subst hO;rfl))⟩,h⟩
 conv=>cbv
 refine br_f hO k5 ?_
 conv=>cbv
 refine br_f hO k5 ?_
 conv=>cbv
 refine br_f hO k5 ?_
 conv=>cbv
 refine br_f hO k5 ?_
 conv=>cbv
 refine br_f hO k5 ?_
 conv=>cbv
 refine br_f hO k5 ?_
 conv=>cbv
 refine br_f hO k5 ?_
 conv=>cbv
 exact hL_2 _ _ ⟨(z0a .neq ((x2.length:Nat):Int) ((x5.length:Nat):Int)),⟨(by (conv=>lhs;cbv)<;>(subst hO;rfl)),(by (conv=>lhs;cbv)<;>(subst hO;rfl))⟩,h⟩
 rintro tm m ⟨j1,hs,h⟩
 unfold p37_2 at h
 obtain⟨rfl,rfl⟩:=hs
 conv=>cbv
 refine br_h hO h (by subst hO;rfl) (fun k1 h=>?_) (fun k1 h=>?_)
 conv=>cbv
 rw [b]
 exact⟨false,_,_,⟨(by subst hO;rfl),(by subst hO;rfl)⟩,h⟩
 conv=>cbv
 refine z0b hO ?_
 conv=>cbv
 refine z0r hO tiA [2,3,5] [3000,4000] [] (fun (n:Nat) tm m=>∃ (z2:Int),((tm=frame 0 46 [(2,.p 3000 0 0),(3,.p 4000 0 0),(5,.c (.v (.int .i64 z2)))]∧m=⟨[(3000,.blk 0 [.c (.v (.int .i64 x0)),.c (.v (.int .i64 x1)),.c (.sl 3 x2 none)]),(4000,.blk 0 [.c (.v (.int .i64 x3)),.c (.v (.int .i64 x4)),.c (.sl 3 x5 none)])],1⟩))∧p37_1L False fu (p37 False fu) K0 x2 x5 n z2) (fun n=>n) fu ⟨0,⟨(by (conv=>lhs;cbv)<;>(subst hO;rfl)),(by (conv=>lhs;cbv)<;>(subst hO;rfl))⟩,h⟩ ?_
 rintro n1 tm m L ⟨z2,hs,h⟩ hLn1
 (cases n1 with
 | zero=>rw [p37_1L] at h;exact h.elim
 | succ n1 =>
 rw [p37_1L] at h
 unfold p37_1 at h
 obtain⟨rfl,rfl⟩:=hs
 conv=>cbv
 refine br_h hO h (by subst hO;rfl) (fun k2 h=>?_) (fun k2 h=>?_)
 conv=>cbv
 refine z0b hO ?_
 conv=>cbv
 refine z0h hO tiA [[],[]] [(0,true,false),(1,true,false),(2,true,false),(3,true,false),(4,true,false),(5,true,false),(6,true,false),(7,true,false),(8,true,false),(9,true,false),(10,false,true),(11,true,true)] (by kernel_rfl) ?_
 conv=>cbv
 refine and_h h (fun g=>(by subst hO;exact g)) (fun h=>?_)
 refine and_h h (fun g=>(by subst hO;exact g)) (fun h=>?_)
 obtain⟨c3,c4,c5,hr,h⟩:=z0j h
 refine z0m hO _ (by subst hO;exact hr) ?_
 clear hr
 conv=>cbv
 refine and_h h (fun g=>(by subst hO;exact g)) (fun h=>?_)
 refine and_h h (fun g=>(by subst hO;exact g)) (fun h=>?_)
 obtain⟨c6,c7,c8,hr,h⟩:=z0j h
 refine z0m hO _ (by subst hO;exact hr) ?_
 clear hr
 conv=>cbv
 refine z0c hO [.shut,.shut] (ih_p37 O.len hN h) ?_
 intro e Q a b
 conv=>cbv
 refine⟨by subst a hO;rfl,?_⟩
 intro r bs d
 rw [b] at d
 clear a b h
 obtain⟨y9,_,_,⟨rfl,rfl⟩,h⟩:=d
 conv=>cbv
 refine z0b hO ?_
 conv=>cbv
 refine br_h hO h (by subst hO;rfl) (fun k3 h=>?_) (fun k3 h=>?_)
 conv=>cbv
 rw [b]
 exact⟨false,_,_,⟨(by subst hO;rfl),(by subst hO;rfl)⟩,h⟩
 conv=>cbv
 refine z0b hO ?_
 conv=>cbv
 exact hLn1 n1 _ _ (Nat.lt_succ_self n1) ⟨z0d .add .i64 z2 1,⟨(by (conv=>lhs;cbv)<;>(subst hO;rfl)),(by (conv=>lhs;cbv)<;>(subst hO;rfl))⟩,h⟩
 conv=>cbv
 rw [b]
 exact⟨true,_,_,⟨(by subst hO;rfl),(by subst hO;rfl)⟩,h⟩)
theorem dd_p37 (fu:Nat):D_p37 fu:=by
 induction fu with
 | zero=>unfold D_p37;intros;rename_i h;rw [p37] at h;exact h.elim
 | succ n ih =>
  exact (by unfold D_p37;intro K0 L hN x0 x1 x2 x3 x4 x5 h;exact b_p37 n ih L hN (by rw [p37] at h;exact h))
theorem d_p37 (fu:Nat):D_p37 fu:=dd_p37 fu
def D_p19 (fu:Nat):Prop:=∀ {K0:Bool→Prop} (L:EL→Nat) (_:L=List.length) {x0 x1:Int} {x2:ByteArray} {x3 x4:EL} {x5 x6:Int} {x7:ByteArray} {x8 x9:EL} (_:p19 False fu K0 x0 x1 x2 x3 x4 x5 x6 x7 x8 x9),Den Try.prog G0 19 [.agg [.c (.v (.int .i64 x0)),.c (.v (.int .i64 x1)),.c (.v (.string x2)),.c (.sl 3 x3 none),.c (.sl 5 x4 none)],.agg [.c (.v (.int .i64 x5)),.c (.v (.int .i64 x6)),.c (.v (.string x7)),.c (.sl 3 x8 none),.c (.sl 5 x9 none)]] (fun r bs=>(∃ (y0:Bool) (o0 o1:OV),(r=.c (.v (.bool y0))∧bs=[o0,o1])∧K0 y0))
theorem b_p19 (fu:Nat)(ih_p19:D_p19 fu){K0:Bool→Prop}(L:EL→Nat)(hN:L=List.length){x0 x1:Int}{x2:ByteArray}{x3 x4:EL}{x5 x6:Int}{x7:ByteArray}{x8 x9:EL}(h:p19_b False fu (p19 False fu) K0 x0 x1 x2 x3 x4 x5 x6 x7 x8 x9):Den Try.prog G0 19 [.agg [.c (.v (.int .i64 x0)),.c (.v (.int .i64 x1)),.c (.v (.string x2)),.c (.sl 3 x3 none),.c (.sl 5 x4 none)],.agg [.c (.v (.int .i64 x5)),.c (.v (.int .i64 x6)),.c (.v (.string x7)),.c (.sl 3 x8 none),.c (.sl 5 x9 none)]] (fun r bs=>(∃ (y0:Bool) (o0 o1:OV),(r=.c (.v (.bool y0))∧bs=[o0,o1])∧K0 y0)):=by
 obtain⟨O,hO⟩:∃ O,O=std 0 T G0 (Den Try.prog G0):=⟨_,rfl⟩
 have hLO:L=O.len:=by rw [hN,hO];rfl
 subst hLO
 refine den_h hO tiA mixed tabOk (fn:=Try.f19) (sh:=true) (by kernel_rfl) rfl rfl rfl rfl ?_
 intro Q b
 unfold p19_b at h
 conv=>cbv
 refine z0u hO tiA [2,3,43] [3000,4000] [] (fun tm m=>∃ (j1:Bool),((tm=frame 0 82 [(2,.p 3000 0 0),(3,.p 4000 0 0),(43,.c (.v (.bool j1)))]∧m=⟨[(3000,.blk 0 [.c (.v (.int .i64 x0)),.c (.v (.int .i64 x1)),.c (.v (.string x2)),.c (.sl 3 x3 none),.c (.sl 5 x4 none)]),(4000,.blk 0 [.c (.v (.int .i64 x5)),.c (.v (.int .i64 x6)),.c (.v (.string x7)),.c (.sl 3 x8 none),.c (.sl 5 x9 none)])],1⟩))∧p19_3 False fu (p19 False fu) K0 x3 x4 x8 x9 j1) (fun L hL_3=>?_) ?_
 conv=>cbv
 refine br_h hO h (by subst hO;rfl) (fun k6 h=>?_) (fun k6 h=>?_)
 conv=>cbv
 refine br_t hO k6 ?_
 conv=>cbv
 refine br_t hO k6 ?_
 conv=>cbv
 refine br_t hO k6 ?_
 conv=>cbv
 refine br_t hO k6 ?_
 conv=>cbv
 refine br_t hO k6 ?_
 conv=>cbv
 refine br_t hO rfl ?_
 conv=>cbv
 refine br_t hO rfl ?_
 conv=>cbv
 refine br_t hO rfl ?_
 conv=>cbv
 refine br_t hO rfl ?_
 conv=>cbv
 refine br_t hO rfl ?_
 conv=>cbv
 refine br_t hO rfl ?_
 conv=>cbv
 refine br_t hO rfl ?_
 conv=>cbv
 refine br_t hO rfl ?_
 conv=>cbv
 refine br_t hO rfl ?_
 conv=>cbv
 refine br_t hO rfl ?_
 conv=>cbv
 refine br_t hO rfl ?_
 conv=>cbv
 refine br_t hO rfl ?_
 conv=>cbv
 refine br_t hO rfl ?_
 conv=>cbv
 refine br_t hO rfl ?_
 conv=>cbv
 refine br_t hO rfl ?_
 conv=>cbv
 refine br_t hO rfl ?_
 conv=>cbv
 refine br_t hO rfl ?_
 conv=>cbv
 refine br_t hO rfl ?_
 conv=>cbv
 refine br_t hO rfl ?_
 conv=>cbv
 refine br_t hO rfl ?_
 conv=>cbv
 refine br_t hO rfl ?_
 conv=>cbv
 refine br_t hO rfl ?_
 conv=>cbv
 exact hL_3 _ _ ⟨true,⟨(by (conv=>lhs;cbv)<;>(subst hO;rfl)),(by (conv=>lhs;cbv)<;>(subst hO;rfl))⟩,h⟩
 conv=>cbv
 refine br_f hO k6 ?_
 conv=>cbv
 refine br_f hO k6 ?_
 conv=>cbv
 refine br_f hO k6 ?_
 conv=>cbv
 refine br_f hO k6 ?_
 conv=>cbv
 refine br_f hO k6 ?_
 conv=>cbv
 refine br_h hO h (by subst hO;rfl) (fun k7 h=>?_) (fun k7 h=>?_)
 conv=>cbv
 refine br_t hO k7 ?_
 conv=>cbv
 refine br_t hO k7 ?_
 conv=>cbv
 refine br_t hO k7 ?_
 conv=>cbv
 refine br_t hO k7 ?_
 conv=>cbv
 refine br_t hO k7 ?_
 conv=>cbv
 refine br_t hO rfl ?_
 conv=>cbv
 refine br_t hO rfl ?_
 conv=>cbv
 refine br_t hO rfl ?_
 conv=>cbv
 refine br_t hO rfl ?_
 conv=>cbv
 refine br_t hO rfl ?_
 conv=>cbv
 refine br_t hO rfl ?_
 conv=>cbv
 refine br_t hO rfl ?_
 conv=>cbv
 refine br_t hO rfl ?_
 conv=>cbv
 refine br_t hO rfl ?_
 conv=>cbv
 refine br_t hO rfl ?_
 conv=>cbv
 refine br_t hO rfl ?_
 conv=>cbv
 refine br_t hO rfl ?_
 conv=>cbv
 refine br_t hO rfl ?_
 conv=>cbv
 refine br_t hO rfl ?_
 conv=>cbv
 refine br_t hO rfl ?_
 conv=>cbv
 refine br_t hO rfl ?_
 conv=>cbv
 exact hL_3 _ _ ⟨true,⟨(by (conv=>lhs;cbv)<;>(subst hO;rfl)),(by (conv=>lhs;cbv)<;>(subst hO;rfl))⟩,h⟩
 conv=>cbv
 refine br_f hO k7 ?_
 conv=>cbv
 refine br_f hO k7 ?_
 conv=>cbv
 refine br_f hO k7 ?_
 conv=>cbv
 refine br_f hO k7 ?_
 conv=>cbv
 refine br_f hO k7 ?_
 conv=>cbv
 refine br_h hO h (by subst hO;rfl) (fun k8 h=>?_) (fun k8 h=>?_)
 conv=>cbv
 refine br_t hO k8 ?_
 conv=>cbv
 refine br_t hO k8 ?_
 conv=>cbv
 refine br_t hO k8 ?_
 conv=>cbv
 refine br_t hO k8 ?_
 conv=>cbv
 refine br_t hO k8 ?_
 conv=>cbv
 refine br_t hO k8 ?_
 conv=>cbv
 refine br_t hO k8 ?_
 conv=>cbv
 refine br_t hO rfl ?_
 conv=>cbv
 refine br_t hO rfl ?_
 conv=>cbv
 refine br_t hO rfl ?_
 conv=>cbv
 refine br_t hO rfl ?_
 conv=>cbv
 refine br_t hO rfl ?_
 conv=>cbv
 refine br_t hO rfl ?_
 conv=>cbv
 refine br_t hO rfl ?_
 conv=>cbv
 refine br_t hO rfl ?_
 conv=>cbv
 exact hL_3 _ _ ⟨true,⟨(by (conv=>lhs;cbv)<;>(subst hO;rfl)),(by (conv=>lhs;cbv)<;>(subst hO;rfl))⟩,h⟩
 conv=>cbv
 refine br_f hO k8 ?_
 conv=>cbv
 refine br_f hO k8 ?_
 conv=>cbv
 refine br_f hO k8 ?_
 conv=>cbv
 refine br_f hO k8 ?_
 conv=>cbv
 refine br_f hO k8 ?_
 conv=>cbv
 refine br_f hO k8 ?_
 conv=>cbv
 refine br_f hO k8 ?_
 conv=>cbv
 refine br_h hO h (by subst hO;rfl) (fun k9 h=>?_) (fun k9 h=>?_)
 conv=>cbv
 refine br_t hO k9 ?_
 conv=>cbv
 refine br_t hO k9 ?_
 conv=>cbv
 refine br_t hO k9 ?_
 conv=>cbv
 refine br_t hO k9 ?_
 conv=>cbv
 refine br_t hO k9 ?_
 conv=>cbv
 refine br_t hO k9 ?_
 conv=>cbv
 refine br_t hO k9 ?_
 conv=>cbv
 exact hL_3 _ _ ⟨true,⟨(by (conv=>lhs;cbv)<;>(subst hO;rfl)),(by (conv=>lhs;cbv)<;>(subst hO;rfl))⟩,h⟩
 conv=>cbv
 refine br_f hO k9 ?_
 conv=>cbv
 refine br_f hO k9 ?_
 conv=>cbv
 refine br_f hO k9 ?_
 conv=>cbv
 refine br_f hO k9 ?_
 conv=>cbv
 refine br_f hO k9 ?_
 conv=>cbv
 refine br_f hO k9 ?_
 conv=>cbv
 refine br_f hO k9 ?_
 conv=>cbv
 exact hL_3 _ _ ⟨(z0a .neq ((x4.length:Nat):Int) ((x9.length:Nat):Int)),⟨(by (conv=>lhs;cbv)<;>(subst hO;rfl)),(by (conv=>lhs;cbv)<;>(subst hO;rfl))⟩,h⟩
 rintro tm m ⟨j1,hs,h⟩
 unfold p19_3 at h
 obtain⟨rfl,rfl⟩:=hs
 conv=>cbv
 refine br_h hO h (by subst hO;rfl) (fun k1 h=>?_) (fun k1 h=>?_)
 conv=>cbv
 rw [b]
 exact⟨false,_,_,⟨(by subst hO;rfl),(by subst hO;rfl)⟩,h⟩
 conv=>cbv
 refine z0b hO ?_
 conv=>cbv
 refine z0r hO tiA [2,3,5] [3000,4000] [] (fun (n:Nat) tm m=>∃ (z2:Int),((tm=frame 0 82 [(2,.p 3000 0 0),(3,.p 4000 0 0),(5,.c (.v (.int .i64 z2)))]∧m=⟨[(3000,.blk 0 [.c (.v (.int .i64 x0)),.c (.v (.int .i64 x1)),.c (.v (.string x2)),.c (.sl 3 x3 none),.c (.sl 5 x4 none)]),(4000,.blk 0 [.c (.v (.int .i64 x5)),.c (.v (.int .i64 x6)),.c (.v (.string x7)),.c (.sl 3 x8 none),.c (.sl 5 x9 none)])],1⟩))∧p19_2L False fu (p19 False fu) K0 x3 x4 x8 x9 n z2) (fun n=>n) fu ⟨0,⟨(by (conv=>lhs;cbv)<;>(subst hO;rfl)),(by (conv=>lhs;cbv)<;>(subst hO;rfl))⟩,h⟩ ?_
 rintro n1 tm m L ⟨z2,hs,h⟩ hLn1
 (cases n1 with
 | zero=>rw [p19_2L] at h;exact h.elim
 | succ n1 =>
 rw [p19_2L] at h
 unfold p19_2 at h
 obtain⟨rfl,rfl⟩:=hs
 conv=>cbv
 refine br_h hO h (by subst hO;rfl) (fun k2 h=>?_) (fun k2 h=>?_)
 conv=>cbv
 refine z0b hO ?_
 conv=>cbv
 refine z0h hO tiA [[],[]] [(0,true,false),(1,true,false),(2,true,false),(3,true,false),(4,true,false),(5,true,false),(6,true,false),(7,true,false),(8,true,false),(9,true,false),(10,false,true),(11,true,true)] (by kernel_rfl) ?_
 conv=>cbv
 refine and_h h (fun g=>(by subst hO;exact g)) (fun h=>?_)
 refine and_h h (fun g=>(by subst hO;exact g)) (fun h=>?_)
 obtain⟨c3,c4,c5,hr,h⟩:=z0j h
 refine z0m hO _ (by subst hO;exact hr) ?_
 clear hr
 conv=>cbv
 refine and_h h (fun g=>(by subst hO;exact g)) (fun h=>?_)
 refine and_h h (fun g=>(by subst hO;exact g)) (fun h=>?_)
 obtain⟨c6,c7,c8,hr,h⟩:=z0j h
 refine z0m hO _ (by subst hO;exact hr) ?_
 clear hr
 conv=>cbv
 refine z0c hO [.shut,.shut] (d_p37 fu O.len hN h) ?_
 intro e Q a b
 conv=>cbv
 refine⟨by subst a hO;rfl,?_⟩
 intro r bs d
 rw [b] at d
 clear a b h
 obtain⟨y9,_,_,⟨rfl,rfl⟩,h⟩:=d
 conv=>cbv
 refine z0b hO ?_
 conv=>cbv
 refine br_h hO h (by subst hO;rfl) (fun k3 h=>?_) (fun k3 h=>?_)
 conv=>cbv
 rw [b]
 exact⟨false,_,_,⟨(by subst hO;rfl),(by subst hO;rfl)⟩,h⟩
 conv=>cbv
 refine z0b hO ?_
 conv=>cbv
 exact hLn1 n1 _ _ (Nat.lt_succ_self n1) ⟨z0d .add .i64 z2 1,⟨(by (conv=>lhs;cbv)<;>(subst hO;rfl)),(by (conv=>lhs;cbv)<;>(subst hO;rfl))⟩,h⟩
 conv=>cbv
 refine z0r hO tiA [2,3,6] [3000,4000] [] (fun (n:Nat) tm m=>∃ (z10:Int),((tm=frame 0 82 [(2,.p 3000 0 0),(3,.p 4000 0 0),(6,.c (.v (.int .i64 z10)))]∧m=⟨[(3000,.blk 0 [.c (.v (.int .i64 x0)),.c (.v (.int .i64 x1)),.c (.v (.string x2)),.c (.sl 3 x3 none),.c (.sl 5 x4 none)]),(4000,.blk 0 [.c (.v (.int .i64 x5)),.c (.v (.int .i64 x6)),.c (.v (.string x7)),.c (.sl 3 x8 none),.c (.sl 5 x9 none)])],1⟩))∧p19_1L False fu (p19 False fu) K0 x4 x9 n z10) (fun n=>n) fu ⟨0,⟨(by (conv=>lhs;cbv)<;>(subst hO;rfl)),(by (conv=>lhs;cbv)<;>(subst hO;rfl))⟩,h⟩ ?_
 rintro n2 tm m L ⟨z10,hs,h⟩ hLn2
 (cases n2 with
 | zero=>rw [p19_1L] at h;exact h.elim
 | succ n2 =>
 rw [p19_1L] at h
 unfold p19_1 at h
 obtain⟨rfl,rfl⟩:=hs
 conv=>cbv
 refine br_h hO h (by subst hO;rfl) (fun k4 h=>?_) (fun k4 h=>?_)
 conv=>cbv
 refine z0b hO ?_
 conv=>cbv
 refine z0h hO tiA [[],[]] [(0,true,false),(1,true,false),(2,true,false),(3,true,false),(4,true,false),(5,true,false),(6,true,false),(7,true,false),(8,true,false),(9,true,false),(10,false,true),(11,true,true)] (by kernel_rfl) ?_
 conv=>cbv
 refine and_h h (fun g=>(by subst hO;exact g)) (fun h=>?_)
 refine and_h h (fun g=>(by subst hO;exact g)) (fun h=>?_)
 obtain⟨c11,c12,c13,c14,c15,hr,h⟩:=z0e h
 refine z0m hO _ (by subst hO;exact hr) ?_
 clear hr
 conv=>cbv
 refine and_h h (fun g=>(by subst hO;exact g)) (fun h=>?_)
 refine and_h h (fun g=>(by subst hO;exact g)) (fun h=>?_)
 obtain⟨c16,c17,c18,c19,c20,hr,h⟩:=z0e h
 refine z0m hO _ (by subst hO;exact hr) ?_
 clear hr
 conv=>cbv
 refine z0c hO [.shut,.shut] (ih_p19 O.len hN h) ?_
 intro e Q a b
 conv=>cbv
 refine⟨by subst a hO;rfl,?_⟩
 intro r bs d
 rw [b] at d
 clear a b h
 obtain⟨y21,_,_,⟨rfl,rfl⟩,h⟩:=d
 conv=>cbv
 refine z0b hO ?_
 conv=>cbv
 refine br_h hO h (by subst hO;rfl) (fun k5 h=>?_) (fun k5 h=>?_)
 conv=>cbv
 rw [b]
 exact⟨false,_,_,⟨(by subst hO;rfl),(by subst hO;rfl)⟩,h⟩
 conv=>cbv
 refine z0b hO ?_
 conv=>cbv
 exact hLn2 n2 _ _ (Nat.lt_succ_self n2) ⟨z0d .add .i64 z10 1,⟨(by (conv=>lhs;cbv)<;>(subst hO;rfl)),(by (conv=>lhs;cbv)<;>(subst hO;rfl))⟩,h⟩
 conv=>cbv
 rw [b]
 exact⟨true,_,_,⟨(by subst hO;rfl),(by subst hO;rfl)⟩,h⟩))
theorem dd_p19 (fu:Nat):D_p19 fu:=by
 induction fu with
 | zero=>unfold D_p19;intros;rename_i h;rw [p19] at h;exact h.elim
 | succ n ih =>
  exact (by unfold D_p19;intro K0 L hN x0 x1 x2 x3 x4 x5 x6 x7 x8 x9 h;exact b_p19 n ih L hN (by rw [p19] at h;exact h))
theorem d_p19 (fu:Nat):D_p19 fu:=dd_p19 fu
theorem k0k (s:ByteArray):z2a .eql s ⟨#[]⟩=decide (s.size=0):=by
 show (s.toList == (⟨#[]⟩:ByteArray).toList)=_
 rw [ByteArray.toList_eq,ByteArray.toList_eq,← z3t]
 cases s.data.toList<;>simp
abbrev RK14 (ρ:Type):=Int→Int→Int→Int→Int→Bool→Int→Int→ByteArray→EL→EL→Int→EL→Int→ρ
section
variable {ρ:Type} (fail:ρ) (fu:Nat)
section
variable (y1 y4 y7 y10 y13:Int) (j21:Bool) (t:Tm)
variable (hfu:70000≤fu)
include hfu
end
variable (hfu:70000≤fu)
include hfu
section
variable (y1 y4 y7 y10 y13:Int) (j21:Bool)
end
def s7 (K0:RK14 ρ) (y1 y4 y7 y10 y13:Int) (y16:Int) (B:EL) (e:Int):ρ:=p93 fail fu (fun y62 y63 y64=>bif (z0a .eql y62 1) then (p45_7 fail fu K0 y1 y4 y7 y10 y13 y63 y64 (z0a .eql y16 1) (z0a .eql y64 0)) else (p45_7 fail fu K0 y1 y4 y7 y10 y13 y63 y64 (z0a .eql y16 1) false)) B e 0 1
def s6 (K0:RK14 ρ) (y1 y4 y7 y10 y13:Int) (B:EL) (e:Int):ρ:=p93 fail fu (fun y16 y17 y18=>s7 fail fu K0 y1 y4 y7 y10 y13 y16 y17 y18) B e 0 1
def s5 (K0:RK14 ρ) (y1 y4 y7 y10:Int) (B:EL) (e:Int):ρ:=p91 fail fu (fun y13 y14 y15=>s6 fail fu K0 y1 y4 y7 y10 y13 y14 y15) B e
def s4 (K0:RK14 ρ) (y1 y4 y7:Int) (B:EL) (e:Int):ρ:=p91 fail fu (fun y10 y11 y12=>s5 fail fu K0 y1 y4 y7 y10 y11 y12) B e
def s3 (K0:RK14 ρ) (y1 y4:Int) (B:EL) (e:Int):ρ:=p92 fail fu (fun y7 y8 y9=>s4 fail fu K0 y1 y4 y7 y8 y9) B e
def s2 (K0:RK14 ρ) (y1:Int) (B:EL) (e:Int):ρ:=p92 fail fu (fun y4 y5 y6=>s3 fail fu K0 y1 y4 y5 y6) B e
section
variable (B:EL) (e:Int) (he:e≠0)
include he
end
end
def p136_1 {ρ:Type} (fail:ρ) (fu:Nat) (K0:Int→ρ) (x0:Int) (j2:Bool):ρ :=
 bif j2 then (K0 2) else (bif (z0a .eql x0 6) then (K0 3) else (K0 (-1)))
def p136_2 {ρ:Type} (fail:ρ) (fu:Nat) (K0:Int→ρ) (x0:Int) (j3:Bool):ρ :=
 p136_1 fail fu K0 x0 j3
def p136_3 {ρ:Type} (fail:ρ) (fu:Nat) (K0:Int→ρ) (x0:Int) (j1:Bool):ρ :=
 bif j1 then (K0 0) else (bif (z0a .eql x0 3) then (p136_1 fail fu K0 x0 (z0a .eql x0 3)) else (bif (z0a .eql x0 4) then (p136_2 fail fu K0 x0 (z0a .eql x0 4)) else (p136_2 fail fu K0 x0 (z0a .eql x0 5))))
def p136_4 {ρ:Type} (fail:ρ) (fu:Nat) (K0:Int→ρ) (x0:Int) (j4:Bool):ρ :=
 p136_3 fail fu K0 x0 j4
def p136 {ρ:Type} (fail:ρ) (fu:Nat) (K0:Int→ρ) (x0:Int):ρ :=
 bif (z0a .eql x0 0) then (p136_3 fail fu K0 x0 (z0a .eql x0 0)) else (bif (z0a .eql x0 1) then (p136_4 fail fu K0 x0 (z0a .eql x0 1)) else (p136_4 fail fu K0 x0 (z0a .eql x0 2)))
theorem d_p136 (fu:Nat){K0:Int→Prop}(L:EL→Nat)(hN:L=List.length){x0:Int}(h:p136 False fu K0 x0):Den Try.prog G0 136 [.c (.v (.int .i64 x0))] (fun r bs=>(∃ (y0:Int) (o0:OV),(r=.c (.v (.int .i64 y0))∧bs=[o0])∧K0 y0)):=by
 obtain⟨O,hO⟩:∃ O,O=std 0 T G0 (Den Try.prog G0):=⟨_,rfl⟩
 have hLO:L=O.len:=by rw [hN,hO];rfl
 subst hLO
 refine den_h hO tiA mixed tabOk (fn:=Try.f136) (sh:=true) (by kernel_rfl) rfl rfl rfl rfl ?_
 intro Q b
 unfold p136 at h
 conv=>cbv
 refine z0f hO tiA h (by subst hO;rfl) [3,4] [] [] (fun tm m=>∃ (j1:Bool),((tm=frame 0 14 [(3,.c (.v (.int .i64 x0))),(4,.c (.v (.bool j1)))]∧m=⟨[],1⟩))∧p136_3 False fu K0 x0 j1) (fun k6 h L hL_3=>?_) (fun k6 h L hL_3=>?_) ?_
 conv=>cbv
 exact hL_3 _ _ ⟨(z0a .eql x0 0),⟨(by (conv=>lhs;cbv)<;>(subst hO;rfl)),(by (conv=>lhs;cbv)<;>(subst hO;rfl))⟩,h⟩
 conv=>cbv
 refine z0f hO tiA h (by subst hO;rfl) [3,4] [] [] (fun tm m=>∃ (j4:Bool),((tm=frame 0 14 [(3,.c (.v (.int .i64 x0))),(4,.c (.v (.bool j4)))]∧m=⟨[],1⟩))∧p136_4 False fu K0 x0 j4) (fun k7 h L hL_4=>?_) (fun k7 h L hL_4=>?_) ?_
 conv=>cbv
 exact hL_4 _ _ ⟨(z0a .eql x0 1),⟨(by (conv=>lhs;cbv)<;>(subst hO;rfl)),(by (conv=>lhs;cbv)<;>(subst hO;rfl))⟩,h⟩
 conv=>cbv
 exact hL_4 _ _ ⟨(z0a .eql x0 2),⟨(by (conv=>lhs;cbv)<;>(subst hO;rfl)),(by (conv=>lhs;cbv)<;>(subst hO;rfl))⟩,h⟩
 rintro tm m ⟨j4,hs,h⟩
 unfold p136_4 at h
 obtain⟨rfl,rfl⟩:=hs
 conv=>cbv
 exact hL_3 _ _ ⟨j4,⟨(by (conv=>lhs;cbv)<;>(subst hO;rfl)),(by (conv=>lhs;cbv)<;>(subst hO;rfl))⟩,h⟩
 rintro tm m ⟨j1,hs,h⟩
 unfold p136_3 at h
 obtain⟨rfl,rfl⟩:=hs
 conv=>cbv
 refine br_h hO h (by subst hO;rfl) (fun k1 h=>?_) (fun k1 h=>?_)
 conv=>cbv
 rw [b]
 exact⟨0,_,⟨(by subst hO;rfl),(by subst hO;rfl)⟩,h⟩
 conv=>cbv
 refine z0f hO tiA h (by subst hO;rfl) [3,8] [] [] (fun tm m=>∃ (j2:Bool),((tm=frame 0 14 [(3,.c (.v (.int .i64 x0))),(8,.c (.v (.bool j2)))]∧m=⟨[],1⟩))∧p136_1 False fu K0 x0 j2) (fun k4 h L hL_1=>?_) (fun k4 h L hL_1=>?_) ?_
 conv=>cbv
 exact hL_1 _ _ ⟨(z0a .eql x0 3),⟨(by (conv=>lhs;cbv)<;>(subst hO;rfl)),(by (conv=>lhs;cbv)<;>(subst hO;rfl))⟩,h⟩
 conv=>cbv
 refine z0f hO tiA h (by subst hO;rfl) [3,8] [] [] (fun tm m=>∃ (j3:Bool),((tm=frame 0 14 [(3,.c (.v (.int .i64 x0))),(8,.c (.v (.bool j3)))]∧m=⟨[],1⟩))∧p136_2 False fu K0 x0 j3) (fun k5 h L hL_2=>?_) (fun k5 h L hL_2=>?_) ?_
 conv=>cbv
 exact hL_2 _ _ ⟨(z0a .eql x0 4),⟨(by (conv=>lhs;cbv)<;>(subst hO;rfl)),(by (conv=>lhs;cbv)<;>(subst hO;rfl))⟩,h⟩
 conv=>cbv
 exact hL_2 _ _ ⟨(z0a .eql x0 5),⟨(by (conv=>lhs;cbv)<;>(subst hO;rfl)),(by (conv=>lhs;cbv)<;>(subst hO;rfl))⟩,h⟩
 rintro tm m ⟨j3,hs,h⟩
 unfold p136_2 at h
 obtain⟨rfl,rfl⟩:=hs
 conv=>cbv
 exact hL_1 _ _ ⟨j3,⟨(by (conv=>lhs;cbv)<;>(subst hO;rfl)),(by (conv=>lhs;cbv)<;>(subst hO;rfl))⟩,h⟩
 rintro tm m ⟨j2,hs,h⟩
 unfold p136_1 at h
 obtain⟨rfl,rfl⟩:=hs
 conv=>cbv
 refine br_h hO h (by subst hO;rfl) (fun k2 h=>?_) (fun k2 h=>?_)
 conv=>cbv
 rw [b]
 exact⟨2,_,⟨(by subst hO;rfl),(by subst hO;rfl)⟩,h⟩
 conv=>cbv
 refine br_h hO h (by subst hO;rfl) (fun k3 h=>?_) (fun k3 h=>?_)
 conv=>cbv
 rw [b]
 exact⟨3,_,⟨(by subst hO;rfl),(by subst hO;rfl)⟩,h⟩
 conv=>cbv
 refine z0b hO ?_
 conv=>cbv
 refine z0b hO ?_
 conv=>cbv
 refine z0b hO ?_
 conv=>cbv
 rw [b]
 exact⟨(-1),_,⟨(by subst hO;rfl),(by subst hO;rfl)⟩,h⟩
def nkN (k:Nat):Nat:=if k≤2 then 0 else tmN k
theorem k0m {ρ:Type} (fail:ρ) (fu:Nat) (K:Int→ρ) (k:Nat) (h:k≤6):p136 fail fu K ((k:Nat):Int)=K ((nkN k:Nat):Int):=by
 have:k=0∨k=1∨k=2∨k=3∨k=4∨k=5∨k=6:=by omega
 rcases this with rfl | rfl | rfl | rfl | rfl | rfl | rfl<;>rfl
theorem w6n (s:ByteArray):z2a .neq s s=false:=by simp [z2a]
theorem k2d {ρ:Type} (fail:ρ):∀ (N:Nat) (l:Lv),l.sz≤N→∀ (fu:Nat) (K:Bool→ρ),l.sz + 20≤fu→l.sz < 1099511627776→p37 fail fu K l.k l.n (Lv.rows l.args) l.k l.n (Lv.rows l.args)=K true:=by
 intro N
 induction N with
 | zero=>intro l h;cases l;simp [Lv.sz] at h
 | succ N ih =>
  intro l hN fu K hf hsz
  obtain⟨k,n,l⟩:=l
  obtain⟨m,rfl⟩:∃ m,fu=m + 1:=⟨fu - 1,by omega⟩
  simp only [Lv.sz] at hN hf hsz
  simp only [Lv.k,Lv.n,Lv.args]
  have hl:=Lv.szs_len l
  rw [p37,p37_b]
  generalize hs:p37 fail m=s
  have loop:∀ (r i j:Nat),i + r=l.length→r < j→p37_1L fail m s K (Lv.rows l) (Lv.rows l) j ((i:Nat):Int)=K true:=by
   intro r
   induction r with
   | zero =>
    intro i j hi hj
    obtain⟨j,rfl⟩:∃ j',j=j' + 1:=⟨j - 1,by omega⟩
    rw [p37_1L,p37_1,Lv.rows_len,lssF (by omega),cond_false]
   | succ r ihr =>
    intro i j hi hj
    obtain⟨j,rfl⟩:∃ j',j=j' + 1:=⟨j - 1,by omega⟩
    have hlt:i < l.length:=by omega
    have h3:=Lv.szs_mem (List.getElem_mem hlt)
    have h4:=ih l[i] (by omega) m (fun y9=>bif (!y9) then (K false) else (p37_1L fail m s K (Lv.rows l) (Lv.rows l) j (z0d .add .i64 ((i:Nat):Int) 1))) (by omega) (by omega)
    rw [hs] at h4
    rw [p37_1L,p37_1,Lv.rows_len,lssT (by omega),cond_true,gd_y (by omega),gd_y (by omega),z4p fail l i hlt,gd_y (by omega),gd_y (by omega),z4p fail l i hlt,h4,Bool.not_true,cond_false,addZ (by omega) (by omega),show ((i:Nat):Int) + 1=((i + 1:Nat):Int) by omega]
    exact ihr (i + 1) j (by omega) (by omega)
  rw [neqF rfl,cond_false,neqF rfl,cond_false,neqF rfl,p37_2,cond_false]
  exact loop l.length 0 m (by omega) (by omega)
theorem k1y {ρ:Type} (fail:ρ):∀ (N:Nat) (t:Tm),t.sz≤N→∀ (fu:Nat) (K:Bool→ρ),t.sz + 30≤fu→t.sz < 1099511627776→p19 fail fu K t.k t.n t.nm (Lv.rows t.ls) (Tm.rows t.args) t.k t.n t.nm (Lv.rows t.ls) (Tm.rows t.args)=K true:=by
 intro N
 induction N with
 | zero=>intro l h;cases l;simp [Tm.sz] at h
 | succ N ih =>
  intro t hN fu K hf hsz
  obtain⟨k,n,sn,l,a⟩:=t
  obtain⟨m,rfl⟩:∃ m,fu=m + 1:=⟨fu - 1,by omega⟩
  simp only [Tm.sz] at hN hf hsz
  simp only [Tm.k,Tm.n,Tm.nm,Tm.ls,Tm.args]
  have hl:=Lv.szs_len l
  have ha:=Tm.szs_len a
  rw [p19,p19_b]
  generalize hs:p19 fail m=s
  have loop:∀ (r i j:Nat),i + r=a.length→r < j→p19_1L fail m s K (Tm.rows a) (Tm.rows a) j ((i:Nat):Int)=K true:=by
   intro r
   induction r with
   | zero =>
    intro i j hi hj
    obtain⟨j,rfl⟩:∃ j',j=j' + 1:=⟨j - 1,by omega⟩
    rw [p19_1L,p19_1,Tm.rows_len,lssF (by omega),cond_false]
   | succ r ihr =>
    intro i j hi hj
    obtain⟨j,rfl⟩:∃ j',j=j' + 1:=⟨j - 1,by omega⟩
    have hlt:i < a.length:=by omega
    have h3:=Tm.szs_mem (List.getElem_mem hlt)
    have h4:=ih a[i] (by omega) m (fun y9=>bif (!y9) then (K false) else (p19_1L fail m s K (Tm.rows a) (Tm.rows a) j (z0d .add .i64 ((i:Nat):Int) 1))) (by omega) (by omega)
    rw [hs] at h4
    rw [p19_1L,p19_1,Tm.rows_len,lssT (by omega),cond_true,gd_y (by omega),gd_y (by omega),z4i fail a i hlt,gd_y (by omega),gd_y (by omega),z4i fail a i hlt,h4,Bool.not_true,cond_false,addZ (by omega) (by omega),show ((i:Nat):Int) + 1=((i + 1:Nat):Int) by omega]
    exact ihr (i + 1) j (by omega) (by omega)
  have loop2:∀ (r i j:Nat),i + r=l.length→r < j→p19_2L fail m s K (Lv.rows l) (Tm.rows a) (Lv.rows l) (Tm.rows a) j ((i:Nat):Int)=K true:=by
   intro r
   induction r with
   | zero =>
    intro i j hi hj
    obtain⟨j,rfl⟩:∃ j',j=j' + 1:=⟨j - 1,by omega⟩
    rw [p19_2L,p19_2,Lv.rows_len,lssF (by omega),cond_false]
    exact loop a.length 0 m (by omega) (by omega)
   | succ r ihr =>
    intro i j hi hj
    obtain⟨j,rfl⟩:∃ j',j=j' + 1:=⟨j - 1,by omega⟩
    have hlt:i < l.length:=by omega
    have h3:=Lv.szs_mem (List.getElem_mem hlt)
    rw [p19_2L,p19_2,Lv.rows_len,lssT (by omega),cond_true,gd_y (by omega),gd_y (by omega),z4p fail l i hlt,gd_y (by omega),gd_y (by omega),z4p fail l i hlt,k2d fail _ l[i] (Nat.le_refl _) m _ (by omega) (by omega),Bool.not_true,cond_false,addZ (by omega) (by omega),show ((i:Nat):Int) + 1=((i + 1:Nat):Int) by omega]
    exact ihr (i + 1) j (by omega) (by omega)
  rw [neqF rfl,cond_false,neqF rfl,cond_false,w6n,cond_false,neqF rfl,cond_false,neqF rfl,p19_3,cond_false]
  exact loop2 l.length 0 m (by omega) (by omega)
theorem w2h (s:ByteArray):z2a .neq s ⟨#[]⟩=!decide (s.size=0):=by
 rw [← k0k];rfl
def p108_1 {ρ:Type} (fail:ρ) (fu:Nat) (K0:Bool→ρ) (j2:Bool):ρ :=
 K0 j2
def p108_2 {ρ:Type} (fail:ρ) (fu:Nat) (K0:Bool→ρ) (x0:Int) (x3:EL) (j1:Bool):ρ :=
 bif j1 then (K0 false) else (bif (z0a .eql x0 2) then (p108_1 fail fu K0 true) else (bif (z0a .eql x0 1) then (bif (z0a .eql ((x3.length:Nat):Int) 1) then (p108_1 fail fu K0 true) else (p108_1 fail fu K0 false)) else (p108_1 fail fu K0 (z0a .eql ((x3.length:Nat):Int) 0))))
def p108 {ρ:Type} (fail:ρ) (fu:Nat) (K0:Bool→ρ) (x0 x1:Int) (x2:ByteArray) (x3 x4:EL):ρ :=
 p136 fail fu (fun y3=>bif (z0a .neq y3 ((x4.length:Nat):Int)) then (p108_2 fail fu K0 x0 x3 true) else (bif (z0a .neq x0 0) then (bif (z0a .neq x1 0) then (p108_2 fail fu K0 x0 x3 true) else (bif (z0a .lss x1 0) then (p108_2 fail fu K0 x0 x3 true) else (bif (z0a .gtr x1 1073741824) then (p108_2 fail fu K0 x0 x3 true) else (bif (z0a .neq x0 2) then (p108_2 fail fu K0 x0 x3 (z2a .neq x2 ⟨#[]⟩)) else (p108_2 fail fu K0 x0 x3 false))))) else (bif (z0a .lss x1 0) then (p108_2 fail fu K0 x0 x3 true) else (bif (z0a .gtr x1 1073741824) then (p108_2 fail fu K0 x0 x3 true) else (bif (z0a .neq x0 2) then (p108_2 fail fu K0 x0 x3 (z2a .neq x2 ⟨#[]⟩)) else (p108_2 fail fu K0 x0 x3 false)))))) x0
def p59_1 {ρ:Type} (fail:ρ) (fu:Nat) (s_p59:(Int→Bool→ρ)→Int→Int→ByteArray→EL→EL→Int→ρ) (K0:Int→Bool→ρ) (rec1:Int→Int→ρ) (x4:EL) (z3 z4:Int):ρ :=
 bif (z0a .lss z4 ((x4.length:Nat):Int)) then (gd ((0:Int)≤z4) fail (gd ((z4:Int) < (x4.length:Nat)) fail (z0i fail (List.getD x4 ((z4:Int).toNat) []) (fun c5 c6 c7 c8 c9=>s_p59 (fun y10 y11=>bif (!y11) then (K0 (-1) false) else (rec1 y10 (z0d .add .i64 z4 1))) c5 c6 c7 c8 c9 z3)))) else (K0 z3 true)
def p59_1L {ρ:Type} (fail:ρ) (fu:Nat) (s_p59:(Int→Bool→ρ)→Int→Int→ByteArray→EL→EL→Int→ρ) (K0:Int→Bool→ρ) (x4:EL):Nat→Int→Int→ρ
 | 0,_,_=>fail
 | n + 1,z3,z4=>p59_1 fail fu s_p59 K0 (p59_1L fail fu s_p59 K0 x4 n) x4 z3 z4
def p59_2 {ρ:Type} (fail:ρ) (fu:Nat) (s_p59:(Int→Bool→ρ)→Int→Int→ByteArray→EL→EL→Int→ρ) (K0:Int→Bool→ρ) (x4:EL) (j1:Int) (j2:Bool):ρ :=
 bif j2 then (K0 (-1) false) else (p59_1L fail fu s_p59 K0 x4 fu j1 0)
def p59_b {ρ:Type} (fail:ρ) (fu:Nat) (s_p59:(Int→Bool→ρ)→Int→Int→ByteArray→EL→EL→Int→ρ) (K0:Int→Bool→ρ) (x0 x1:Int) (x2:ByteArray) (x3 x4:EL) (x5:Int):ρ :=
 bif (z0a .lss (z0d .sub .i64 x5 1) 0) then (p59_2 fail fu s_p59 K0 x4 (z0d .sub .i64 x5 1) true) else (p108 fail fu (fun y12=>p59_2 fail fu s_p59 K0 x4 (z0d .sub .i64 x5 1) (!y12)) x0 x1 x2 x3 x4)
def p59 {ρ:Type} (fail:ρ):Nat→(Int→Bool→ρ)→Int→Int→ByteArray→EL→EL→Int→ρ
 | 0,_,_,_,_,_,_,_=>fail
 | n + 1,K0,x0,x1,x2,x3,x4,x5=>p59_b fail n (p59 fail n) K0 x0 x1 x2 x3 x4 x5
def p60_1 {ρ:Type} (fail:ρ) (fu:Nat) (s_p60:(Int→ρ)→Int→Int→ByteArray→EL→EL→Int→ρ) (K0:Int→ρ) (rec1:Int→Int→Int→ρ) (x4:EL) (z1 z2 z3:Int):ρ :=
 bif (z0a .lss z3 ((x4.length:Nat):Int)) then (gd ((0:Int)≤z3) fail (gd ((z3:Int) < (x4.length:Nat)) fail (z0i fail (List.getD x4 ((z3:Int).toNat) []) (fun c4 c5 c6 c7 c8=>s_p60 (fun y9=>rec1 z1 (if y9 > z2 then y9 else z2) (z0d .add .i64 z3 1)) c4 c5 c6 c7 c8 (z0d .sub .i64 z1 1))))) else (K0 (z0d .add .i64 z2 1))
def p60_1L {ρ:Type} (fail:ρ) (fu:Nat) (s_p60:(Int→ρ)→Int→Int→ByteArray→EL→EL→Int→ρ) (K0:Int→ρ) (x4:EL):Nat→Int→Int→Int→ρ
 | 0,_,_,_=>fail
 | n + 1,z1,z2,z3=>p60_1 fail fu s_p60 K0 (p60_1L fail fu s_p60 K0 x4 n) x4 z1 z2 z3
def p60_b {ρ:Type} (fail:ρ) (fu:Nat) (s_p60:(Int→ρ)→Int→Int→ByteArray→EL→EL→Int→ρ) (K0:Int→ρ) (x0 x1:Int) (x2:ByteArray) (x3 x4:EL) (x5:Int):ρ :=
 bif (z0a .eql (if 0 > x5 then 0 else x5) 0) then (K0 1) else (p60_1L fail fu s_p60 K0 x4 fu (if 0 > x5 then 0 else x5) 0 0)
def p60 {ρ:Type} (fail:ρ):Nat→(Int→ρ)→Int→Int→ByteArray→EL→EL→Int→ρ
 | 0,_,_,_,_,_,_,_=>fail
 | n + 1,K0,x0,x1,x2,x3,x4,x5=>p60_b fail n (p60 fail n) K0 x0 x1 x2 x3 x4 x5
def p111_1 {ρ:Type} (fail:ρ) (fu:Nat) (s_p111:(Int→ρ)→Int→Int→EL→Int→ρ) (K0:Int→ρ) (rec1:Int→Int→ρ) (x2:EL) (x3 z1 z2:Int) (j3:Bool):ρ :=
 bif j3 then (gd ((0:Int)≤z2) fail (gd ((z2:Int) < (x2.length:Nat)) fail (z0n fail (List.getD x2 ((z2:Int).toNat) []) (fun c4 c5 c6=>s_p111 (fun y7=>rec1 (z0d .add .i64 z1 y7) (z0d .add .i64 z2 1)) c4 c5 c6 (z0d .sub .i64 x3 z1))))) else (K0 (if z0d .add .i64 x3 1 < z1 then z0d .add .i64 x3 1 else z1))
def p111_2 {ρ:Type} (fail:ρ) (fu:Nat) (s_p111:(Int→ρ)→Int→Int→EL→Int→ρ) (K0:Int→ρ) (rec1:Int→Int→ρ) (x2:EL) (x3 z1 z2:Int):ρ :=
 bif (z0a .lss z2 ((x2.length:Nat):Int)) then (p111_1 fail fu s_p111 K0 rec1 x2 x3 z1 z2 (z0a .leq z1 x3)) else (p111_1 fail fu s_p111 K0 rec1 x2 x3 z1 z2 false)
def p111_2L {ρ:Type} (fail:ρ) (fu:Nat) (s_p111:(Int→ρ)→Int→Int→EL→Int→ρ) (K0:Int→ρ) (x2:EL) (x3:Int):Nat→Int→Int→ρ
 | 0,_,_=>fail
 | n + 1,z1,z2=>p111_2 fail fu s_p111 K0 (p111_2L fail fu s_p111 K0 x2 x3 n) x2 x3 z1 z2
def p111_b {ρ:Type} (fail:ρ) (fu:Nat) (s_p111:(Int→ρ)→Int→Int→EL→Int→ρ) (K0:Int→ρ) (x0 x1:Int) (x2:EL) (x3:Int):ρ :=
 p111_2L fail fu s_p111 K0 x2 x3 fu 1 0
def p111 {ρ:Type} (fail:ρ):Nat→(Int→ρ)→Int→Int→EL→Int→ρ
 | 0,_,_,_,_,_=>fail
 | n + 1,K0,x0,x1,x2,x3=>p111_b fail n (p111 fail n) K0 x0 x1 x2 x3
def p138_1 {ρ:Type} (fail:ρ) (fu:Nat) (K0:Int→ρ) (j2:Bool):ρ :=
 bif j2 then (K0 2) else (K0 (-1))
def p138_2 {ρ:Type} (fail:ρ) (fu:Nat) (K0:Int→ρ) (x0:Int) (j1:Bool):ρ :=
 bif j1 then (K0 0) else (bif (z0a .eql x0 1) then (K0 1) else (bif (z0a .eql x0 2) then (p138_1 fail fu K0 (z0a .eql x0 2)) else (p138_1 fail fu K0 (z0a .eql x0 3))))
def p138 {ρ:Type} (fail:ρ) (fu:Nat) (K0:Int→ρ) (x0:Int):ρ :=
 bif (z0a .eql x0 0) then (p138_2 fail fu K0 x0 (z0a .eql x0 0)) else (p138_2 fail fu K0 x0 (z0a .eql x0 4))
def p112_1 {ρ:Type} (fail:ρ) (fu:Nat) (s_p112:(Bool→ρ)→Int→Int→EL→Int→Int→ρ) (K0:Bool→ρ) (rec1:Int→ρ) (x2:EL) (x3 x4 z3:Int):ρ :=
 bif (z0a .lss z3 ((x2.length:Nat):Int)) then (gd ((0:Int)≤z3) fail (gd ((z3:Int) < (x2.length:Nat)) fail (z0n fail (List.getD x2 ((z3:Int).toNat) []) (fun c4 c5 c6=>s_p112 (fun y7=>bif (!y7) then (K0 false) else (rec1 (z0d .add .i64 z3 1))) c4 c5 c6 x3 (z0d .add .i64 x4 1))))) else (K0 true)
def p112_1L {ρ:Type} (fail:ρ) (fu:Nat) (s_p112:(Bool→ρ)→Int→Int→EL→Int→Int→ρ) (K0:Bool→ρ) (x2:EL) (x3 x4:Int):Nat→Int→ρ
 | 0,_=>fail
 | n + 1,z3=>p112_1 fail fu s_p112 K0 (p112_1L fail fu s_p112 K0 x2 x3 x4 n) x2 x3 x4 z3
def p112_2 {ρ:Type} (fail:ρ) (fu:Nat) (s_p112:(Bool→ρ)→Int→Int→EL→Int→Int→ρ) (K0:Bool→ρ) (x2:EL) (x3 x4:Int) (j2:Bool):ρ :=
 bif j2 then (K0 false) else (p112_1L fail fu s_p112 K0 x2 x3 x4 fu 0)
def p112_3 {ρ:Type} (fail:ρ) (fu:Nat) (s_p112:(Bool→ρ)→Int→Int→EL→Int→Int→ρ) (K0:Bool→ρ) (x0 x1:Int) (x2:EL) (x3 x4:Int) (j1:Bool):ρ :=
 bif j1 then (K0 false) else (bif (z0a .eql x0 4) then (bif (z0a .lss x1 0) then (p112_2 fail fu s_p112 K0 x2 x3 x4 true) else (bif (z0a .geq x1 x3) then (p112_2 fail fu s_p112 K0 x2 x3 x4 true) else (p112_2 fail fu s_p112 K0 x2 x3 x4 false))) else (p112_2 fail fu s_p112 K0 x2 x3 x4 (z0a .neq x1 0)))
def p112_b {ρ:Type} (fail:ρ) (fu:Nat) (s_p112:(Bool→ρ)→Int→Int→EL→Int→Int→ρ) (K0:Bool→ρ) (x0 x1:Int) (x2:EL) (x3 x4:Int):ρ :=
 bif (z0a .gtr x4 32) then (p112_3 fail fu s_p112 K0 x0 x1 x2 x3 x4 true) else (p138 fail fu (fun y8=>p112_3 fail fu s_p112 K0 x0 x1 x2 x3 x4 (z0a .neq y8 ((x2.length:Nat):Int))) x0)
def p112 {ρ:Type} (fail:ρ):Nat→(Bool→ρ)→Int→Int→EL→Int→Int→ρ
 | 0,_,_,_,_,_,_=>fail
 | n + 1,K0,x0,x1,x2,x3,x4=>p112_b fail n (p112 fail n) K0 x0 x1 x2 x3 x4
def p69_1 {ρ:Type} (fail:ρ) (fu:Nat) (K0:Bool→ρ) (j1:Bool):ρ :=
 K0 j1
def p69 {ρ:Type} (fail:ρ) (fu:Nat) (K0:Bool→ρ) (x0 x1:Int) (x2:EL) (x3:Int):ρ :=
 p111 fail fu (fun y2=>bif (z0a .leq y2 64) then (p112 fail fu (fun y3=>p69_1 fail fu K0 y3) x0 x1 x2 (if 4 < (if 0 > x3 then 0 else x3) then 4 else (if 0 > x3 then 0 else x3)) 1) else (p69_1 fail fu K0 false)) x0 x1 x2 64
end Go.Proofs.Ythncmjlcmlmnmaa
