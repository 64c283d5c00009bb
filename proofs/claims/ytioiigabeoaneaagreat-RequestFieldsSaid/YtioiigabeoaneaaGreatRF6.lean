/- A part of the proof. Conditions: none. -/
import Derived.Test.YtioiigabeoaneaaGreatRF5
import Derived.Test.YtioiigabeoaneaaGreatRF4
namespace Go.Proofs.YtioiigabeoaneaaGreat
open Go V
set_option maxRecDepth 100000
set_option maxHeartbeats 4000000
section
variable {ρ:Type} (fail:ρ)
theorem k3w {l:List UInt8} {i:Nat} (h:i < l.length) (c:Int→ρ):z7q fail (List.getD (E8 l) (((i:Nat):Int)).toNat []) c=c ((l[i]).toNat:Nat):=by
 rw [Int.toNat_natCast,w8l h];rfl
theorem K4 (b:List UInt8) (hb:b.length≤1000000) (a:Nat) (ha:a≤b.length) (n:Int) (hn:1≤n):∃ (v:Int) (a':Nat),0≤v∧v < n∧a≤a'∧a'≤b.length∧(v≠0→a < a') ∧
  ∀ (fu:Nat) (K:Int→EL→Int→ρ),p57 fail fu K (E8 b) ((a:Nat):Int) n=K v (E8 b) ((a':Nat):Int):=by
 by_cases h:a < b.length
 ·have hc:=(b[a]).toNat_lt
  refine⟨Int.tmod ((b[a]).toNat:Nat) n,a + 1,Int.tmod_nonneg _ (by omega),Int.tmod_lt_of_pos _ (by omega),by omega,by omega,fun _=>by omega,fun fu K=>?_⟩
  have e1:B8 .add .i64 ((a:Nat):Int) 1=((a + 1:Nat):Int):=by rw [z7e (by omega) (by omega)];omega
  have e2:B8 .sub .i64 ((a + 1:Nat):Int) 1=((a:Nat):Int):=by rw [k5w (by omega) (by omega)];omega
  have e3:IntKind.i64.wrap (((b[a]).toNat:Nat):Int)=(((b[a]).toNat:Nat):Int):=z9s (by omega)
  rw [p57,K6,w9v (by omega),cond_false,w5u (by omega),p57_1,cond_false,e1,e2,K6,E4 (by omega),E4 (by omega),k3w fail h,E4 (by omega),e3]
  rfl
 ·refine⟨0,a,by omega,by omega,by omega,by omega,fun h=>absurd rfl h,fun fu K=>?_⟩
  rw [p57,K6,w9u (by omega),cond_true,p57_1,cond_true]
theorem K1 (s:ByteArray) (c:Tm) (hc:c.thin) (hT:∀ fu,600≤fu→∀ K:Int→Int→ByteArray→EL→EL→ρ,p26 fail fu K s=K c.k c.n c.nm (Lv.rows c.ls) (Tm.rows c.args)) (l:List Tm) (hl:Tm.thins l) (hlen:l.length≤1000) :
  ∃ v:Tm,v.thin∧∃ N:Nat,∀ fu,N≤fu→∀ K:Int→Int→ByteArray→EL→EL→ρ,p61 fail fu K s (Tm.rows l)=K v.k v.n v.nm (Lv.rows v.ls) (Tm.rows v.args):=by
 obtain⟨v,hv,h⟩:=w6p fail c hc l hl hlen
 exact⟨v,hv,c.sz + Tm.szs l + 1100,fun fu hf K=>by rw [p61,hT fu (by omega),h fu _ hf]⟩
theorem w3m (t u:Tm) (ht:t.thin) (hu:u.thin):∃ v:Tm,v.thin∧∃ N:Nat,∀ fu,N≤fu→∀ K:Int→Int→ByteArray→EL→EL→ρ,p64 fail fu K t.k t.n t.nm (Lv.rows t.ls) (Tm.rows t.args) u.k u.n u.nm (Lv.rows u.ls) (Tm.rows u.args)=K v.k v.n v.nm (Lv.rows v.ls) (Tm.rows v.args):=by
 obtain⟨v,hv,h⟩:=w9p fail t u ht hu
 exact⟨v,hv,t.sz + u.sz + 60,fun fu hf K=>h fu K (by omega)⟩
theorem piE (t u:Tm) (ht:t.thin) (hu:u.thin):∃ v:Tm,v.thin∧∃ N:Nat,∀ fu,N≤fu→∀ K:Int→Int→ByteArray→EL→EL→ρ,p62 fail fu K t.k t.n t.nm (Lv.rows t.ls) (Tm.rows t.args) u.k u.n u.nm (Lv.rows u.ls) (Tm.rows u.args)=K v.k v.n v.nm (Lv.rows v.ls) (Tm.rows v.args):=by
 obtain⟨v,hv,h⟩:=k2v fail t u ht hu
 exact⟨v,hv,t.sz + u.sz + 60,fun fu hf K=>h fu K (by omega)⟩
theorem k3p (t u:Tm) (ht:t.thin) (hu:u.thin):∃ v:Tm,v.thin∧∃ N:Nat,∀ fu,N≤fu→∀ K:Int→Int→ByteArray→EL→EL→ρ,p70 fail fu K t.k t.n t.nm (Lv.rows t.ls) (Tm.rows t.args) u.k u.n u.nm (Lv.rows u.ls) (Tm.rows u.args)=K v.k v.n v.nm (Lv.rows v.ls) (Tm.rows v.args):=by
 obtain⟨v,hv,h⟩:=w4w fail t u ht hu
 exact⟨v,hv,t.sz + u.sz + 60,fun fu hf K=>h fu K (by omega)⟩
theorem w7w (t:Tm) (ht:t.thin) (x y:Int):∃ v:Tm,v.thin∧∃ N:Nat,∀ fu,N≤fu→∀ K:Int→Int→ByteArray→EL→EL→ρ,p66 fail fu K t.k t.n t.nm (Lv.rows t.ls) (Tm.rows t.args) x y=K v.k v.n v.nm (Lv.rows v.ls) (Tm.rows v.args):=by
 obtain⟨v,hv,_,h⟩:=w3j fail t ht x y
 exact⟨v,hv.1,t.sz + 60,fun fu hf K=>h fu K (by omega)⟩
def w9e (b:List UInt8) (a:Nat) (x:Int):Prop:=∃ (t:Tm) (a':Nat),t.thin∧a≤a'∧a'≤b.length∧∃ N:Nat,∀ fu,N≤fu→∀ K:Int→Int→ByteArray→EL→EL→EL→Int→ρ,p27 fail fu K (E8 b) ((a:Nat):Int) x=K t.k t.n t.nm (Lv.rows t.ls) (Tm.rows t.args) (E8 b) ((a':Nat):Int)
def k0s (b:List UInt8) (a:Nat) (x:Int):Prop:=∃ (t:Tm) (a':Nat),t.thin∧a≤a'∧a'≤b.length∧∃ N:Nat,∀ fu,N≤fu→∀ K:Int→Int→ByteArray→EL→EL→EL→Int→ρ,p58b fail fu K (E8 b) ((a:Nat):Int) x=K t.k t.n t.nm (Lv.rows t.ls) (Tm.rows t.args) (E8 b) ((a':Nat):Int)
def w9b (b:List UInt8) (a:Nat) (x:Int):Prop:=∃ (t:Tm) (a':Nat),t.thin∧a≤a'∧a'≤b.length∧∃ N:Nat,∀ fu,N≤fu→∀ K:Int→Int→ByteArray→EL→EL→EL→Int→ρ,p23 fail fu K (E8 b) ((a:Nat):Int) x=K t.k t.n t.nm (Lv.rows t.ls) (Tm.rows t.args) (E8 b) ((a':Nat):Int)
def w3w (b:List UInt8) (a:Nat) (x:Int):Prop:=∃ (t u:Tm) (a':Nat),t.thin∧u.thin∧a≤a'∧a'≤b.length∧∃ N:Nat,∀ fu,N≤fu→∀ K:Int→Int→ByteArray→EL→EL→Int→Int→ByteArray→EL→EL→EL→Int→ρ,p24 fail fu K (E8 b) ((a:Nat):Int) x=K t.k t.n t.nm (Lv.rows t.ls) (Tm.rows t.args) u.k u.n u.nm (Lv.rows u.ls) (Tm.rows u.args) (E8 b) ((a':Nat):Int)
def w3x (b:List UInt8) (a:Nat) (x:Int):Prop:=∃ (t:Lv) (a':Nat),t.thin∧a≤a'∧a'≤b.length∧∃ N:Nat,∀ fu,N≤fu→∀ K:Int→Int→EL→EL→Int→ρ,p91 fail fu K (E8 b) ((a:Nat):Int) x=K t.k t.n (Lv.rows t.args) (E8 b) ((a':Nat):Int)
variable (b:List UInt8) (hb:b.length≤1000000)
include hb in
theorem w1j (a:Nat) (ha:a≤b.length) (ih:∀ a2,a < a2→a2≤b.length→∀ x,w9e fail b a2 x∧k0s fail b a2 x) (x:Int):w9e fail b a x:=by
 obtain⟨v,a1,hv1,hv2,l1,l2,l3,hn⟩:=K4 fail b hb a ha 9 (by omega)
 rcases (by omega:v=0∨v=1∨v=2∨v=3∨v=4∨v=5∨v=6∨v=7∨v=8) with rfl | rfl | rfl | rfl | rfl | rfl | rfl | rfl | rfl
 ·skip
  exact⟨pt5,a1,w1g,by omega,by omega,1000,fun fu hfu K=>by
   obtain⟨m,rfl⟩:∃ m,fu=m + 1:=⟨fu - 1,by omega⟩
   rw [p27,p27_b,hn,D0 (a:=0) (b:=1) (by decide),cond_false,D0 (a:=0) (b:=2) (by decide),p27_1,cond_false,D0 (a:=0) (b:=3) (by decide),cond_false,D0 (a:=0) (b:=4) (by decide),cond_false,D0 (a:=0) (b:=5) (by decide),cond_false,D0 (a:=0) (b:=6) (by decide),cond_false,D0 (a:=0) (b:=7) (by decide),cond_false,D0 (a:=0) (b:=8) (by decide),cond_false,k0w fail m (by omega)]⟩
 ·skip
  have l4:a < a1:=l3 (by decide)
  obtain⟨t1,q1,ht1,le1,lu1,N1,h1⟩:=(ih a1 (by omega) (by omega) (x)).1
  obtain⟨v2,hv2,N2,h2⟩:=K1 fail _ pt1 z5u (fun fu hf K=>w7m fail fu hf K) [t1] ⟨ht1,trivial⟩ (by simp)
  exact⟨v2,q1,hv2,by omega,by omega,N1 + N2 + 1000,fun fu hfu K=>by
   obtain⟨m,rfl⟩:∃ m,fu=m + 1:=⟨fu - 1,by omega⟩
   rw [p27,p27_b,hn,J1 (a:=1) (b:=1) rfl,cond_true,p27_1,cond_true,h1 m (by omega),E4 (by simp),Q8,h2 m (by omega)]⟩
 ·skip
  have l4:a < a1:=l3 (by decide)
  obtain⟨t1,q1,ht1,le1,lu1,N1,h1⟩:=(ih a1 (by omega) (by omega) (x)).1
  obtain⟨v2,hv2,N2,h2⟩:=K1 fail _ pt1 z5u (fun fu hf K=>w7m fail fu hf K) [t1] ⟨ht1,trivial⟩ (by simp)
  exact⟨v2,q1,hv2,by omega,by omega,N1 + N2 + 1000,fun fu hfu K=>by
   obtain⟨m,rfl⟩:∃ m,fu=m + 1:=⟨fu - 1,by omega⟩
   rw [p27,p27_b,hn,D0 (a:=2) (b:=1) (by decide),cond_false,J1 (a:=2) (b:=2) rfl,p27_1,cond_true,h1 m (by omega),E4 (by simp),Q8,h2 m (by omega)]⟩
 ·skip
  have l4:a < a1:=l3 (by decide)
  obtain⟨t1,q1,ht1,le1,lu1,N1,h1⟩:=(ih a1 (by omega) (by omega) (x)).1
  obtain⟨t2,q2,ht2,le2,lu2,N2,h2⟩:=(ih q1 (by omega) (by omega) (x)).1
  obtain⟨v3,hv3,N3,h3⟩:=K1 fail _ pt2 w1h (fun fu hf K=>k0x fail fu hf K) [t1,t2] ⟨ht1,ht2,trivial⟩ (by simp)
  exact⟨v3,q2,hv3,by omega,by omega,N1 + N2 + N3 + 1000,fun fu hfu K=>by
   obtain⟨m,rfl⟩:∃ m,fu=m + 1:=⟨fu - 1,by omega⟩
   rw [p27,p27_b,hn,D0 (a:=3) (b:=1) (by decide),cond_false,D0 (a:=3) (b:=2) (by decide),p27_1,cond_false,J1 (a:=3) (b:=3) rfl,cond_true,h1 m (by omega),h2 m (by omega),E4 (by simp),L3,h3 m (by omega)]⟩
 ·skip
  have l4:a < a1:=l3 (by decide)
  by_cases hx:0 < x
  ·obtain⟨v5,a5,_,_,l5,l6,_,hn5⟩:=K4 fail b hb a1 l2 x (by omega)
   exact⟨.mk 0 v5 ⟨#[]⟩ [] [],a5,⟨⟨by simp,trivial⟩,by simp,trivial⟩,by omega,by omega,1000,fun fu hfu K=>by
    obtain⟨m,rfl⟩:∃ m,fu=m + 1:=⟨fu - 1,by omega⟩
    rw [p27,p27_b,hn,D0 (a:=4) (b:=1) (by decide),cond_false,D0 (a:=4) (b:=2) (by decide),p27_1,cond_false,D0 (a:=4) (b:=3) (by decide),cond_false,J1 (a:=4) (b:=4) rfl,cond_true,w5z hx,cond_true,hn5,p65];rfl⟩
  ·skip
   exact⟨pt3,a1,w7l,by omega,by omega,1000,fun fu hfu K=>by
    obtain⟨m,rfl⟩:∃ m,fu=m + 1:=⟨fu - 1,by omega⟩
    rw [p27,p27_b,hn,D0 (a:=4) (b:=1) (by decide),cond_false,D0 (a:=4) (b:=2) (by decide),p27_1,cond_false,D0 (a:=4) (b:=3) (by decide),cond_false,J1 (a:=4) (b:=4) rfl,cond_true,w8b (show x≤0 by omega),cond_false,k4j fail m (by omega)]⟩
 ·skip
  have l4:a < a1:=l3 (by decide)
  obtain⟨t1,q1,ht1,le1,lu1,N1,h1⟩:=(ih a1 (by omega) (by omega) (x)).1
  obtain⟨v2,hv2,N2,h2⟩:=K1 fail _ pt4 z5t (fun fu hf K=>w7k fail fu hf K) [pt0,t1] ⟨L4,ht1,trivial⟩ (by simp)
  exact⟨v2,q1,hv2,by omega,by omega,N1 + N2 + 1000,fun fu hfu K=>by
   obtain⟨m,rfl⟩:∃ m,fu=m + 1:=⟨fu - 1,by omega⟩
   rw [p27,p27_b,hn,D0 (a:=5) (b:=1) (by decide),cond_false,D0 (a:=5) (b:=2) (by decide),p27_1,cond_false,D0 (a:=5) (b:=3) (by decide),cond_false,D0 (a:=5) (b:=4) (by decide),cond_false,J1 (a:=5) (b:=5) rfl,cond_true,X9 fail m (by omega),h1 m (by omega),E4 (by simp),L3,h2 m (by omega)]⟩
 ·skip
  have l4:a < a1:=l3 (by decide)
  obtain⟨t1,q1,ht1,le1,lu1,N1,h1⟩:=(ih a1 (by omega) (by omega) (x)).2
  obtain⟨t2,q2,ht2,le2,lu2,N2,h2⟩:=(ih q1 (by omega) (by omega) (x)).1
  obtain⟨v3,hv3,N3,h3⟩:=k3p fail t1 t2 ht1 ht2
  exact⟨v3,q2,hv3,by omega,by omega,N1 + N2 + N3 + 1000,fun fu hfu K=>by
   obtain⟨m,rfl⟩:∃ m,fu=m + 1:=⟨fu - 1,by omega⟩
   rw [p27,p27_b,hn,D0 (a:=6) (b:=1) (by decide),cond_false,D0 (a:=6) (b:=2) (by decide),p27_1,cond_false,D0 (a:=6) (b:=3) (by decide),cond_false,D0 (a:=6) (b:=4) (by decide),cond_false,D0 (a:=6) (b:=5) (by decide),cond_false,J1 (a:=6) (b:=6) rfl,cond_true,h1 m (by omega),h2 m (by omega),h3 m (by omega)]⟩
 ·skip
  have l4:a < a1:=l3 (by decide)
  obtain⟨t1,q1,ht1,le1,lu1,N1,h1⟩:=(ih a1 (by omega) (by omega) (x)).1
  obtain⟨t2,q2,ht2,le2,lu2,N2,h2⟩:=(ih q1 (by omega) (by omega) (B8 .add .i64 x 1)).1
  exact⟨(.mk 6 0 ⟨#[]⟩ [] [pt0,t1,t2]),q2,⟨⟨by simp,trivial⟩,by simp,L4,ht1,ht2,trivial⟩,by omega,by omega,N1 + N2 + 1000,fun fu hfu K=>by
   obtain⟨m,rfl⟩:∃ m,fu=m + 1:=⟨fu - 1,by omega⟩
   rw [p27,p27_b,hn,D0 (a:=7) (b:=1) (by decide),cond_false,D0 (a:=7) (b:=2) (by decide),p27_1,cond_false,D0 (a:=7) (b:=3) (by decide),cond_false,D0 (a:=7) (b:=4) (by decide),cond_false,D0 (a:=7) (b:=5) (by decide),cond_false,D0 (a:=7) (b:=6) (by decide),cond_false,J1 (a:=7) (b:=7) rfl,cond_true,h1 m (by omega),X9 fail m (by omega),h2 m (by omega),E4 (by simp),z2m];rfl⟩
 ·skip
  have l4:a < a1:=l3 (by decide)
  obtain⟨t1,q1,ht1,le1,lu1,N1,h1⟩:=(ih a1 (by omega) (by omega) (x)).1
  obtain⟨t2,q2,ht2,le2,lu2,N2,h2⟩:=(ih q1 (by omega) (by omega) (B8 .add .i64 x 2)).1
  obtain⟨v3,hv3,N3,h3⟩:=w3m fail pt0 t2 L4 ht2
  obtain⟨v4,hv4,N4,h4⟩:=w3m fail pt0 v3 L4 hv3
  obtain⟨t5,q5,ht5,le5,lu5,N5,h5⟩:=(ih q2 (by omega) (by omega) (x)).1
  obtain⟨v6,hv6,N6,h6⟩:=K1 fail _ pt6 w7j (fun fu hf K=>k4h fail fu hf K) [pt7,t1,v4,t5] ⟨w7i,ht1,hv4,ht5,trivial⟩ (by simp)
  exact⟨v6,q5,hv6,by omega,by omega,N1 + N2 + N3 + N4 + N5 + N6 + 1000,fun fu hfu K=>by
   obtain⟨m,rfl⟩:∃ m,fu=m + 1:=⟨fu - 1,by omega⟩
   rw [p27,p27_b,hn,D0 (a:=8) (b:=1) (by decide),cond_false,D0 (a:=8) (b:=2) (by decide),p27_1,cond_false,D0 (a:=8) (b:=3) (by decide),cond_false,D0 (a:=8) (b:=4) (by decide),cond_false,D0 (a:=8) (b:=5) (by decide),cond_false,D0 (a:=8) (b:=6) (by decide),cond_false,D0 (a:=8) (b:=7) (by decide),cond_false,J1 (a:=8) (b:=8) rfl,cond_true,h1 m (by omega),X9 fail m (by omega),X9 fail m (by omega),h2 m (by omega),h3 m (by omega),h4 m (by omega),k4g fail m (by omega),h5 m (by omega),E4 (by simp),w0t,h6 m (by omega)]⟩
include hb in
theorem w1u (a:Nat) (ha:a≤b.length) (ih:∀ a2,a≤a2→a2≤b.length→∀ x,w9e fail b a2 x) (x:Int):k0s fail b a x:=by
 obtain⟨v,a1,hv1,hv2,l1,l2,l3,hn⟩:=K4 fail b hb a ha 4 (by omega)
 rcases (by omega:v=0∨v=1∨v=2∨v=3) with rfl | rfl | rfl | rfl
 ·skip
  obtain⟨t1,q1,ht1,le1,lu1,N1,h1⟩:=ih a1 (by omega) (by omega) (B8 .add .i64 x 1)
  obtain⟨v2,hv2,N2,h2⟩:=w3m fail pt0 t1 L4 ht1
  exact⟨v2,q1,hv2,by omega,by omega,N1 + N2 + 1000,fun fu hfu K=>by
   obtain⟨m,rfl⟩:∃ m,fu=m + 1:=⟨fu - 1,by omega⟩
   rw [p58b,p58b_b,hn,J1 (a:=0) (b:=0) rfl,cond_true,X9 fail m (by omega),h1 m (by omega),h2 m (by omega)]⟩
 ·skip
  exact⟨pt1,a1,z5u,by omega,by omega,1000,fun fu hfu K=>by
   obtain⟨m,rfl⟩:∃ m,fu=m + 1:=⟨fu - 1,by omega⟩
   rw [p58b,p58b_b,hn,D0 (a:=1) (b:=0) (by decide),cond_false,J1 (a:=1) (b:=1) rfl,cond_true,k4l fail m (by omega)]⟩
 ·skip
  obtain⟨t1,q1,ht1,le1,lu1,N1,h1⟩:=ih a1 (by omega) (by omega) (x)
  obtain⟨v2,hv2,N2,h2⟩:=K1 fail _ pt2 w1h (fun fu hf K=>k0x fail fu hf K) [t1] ⟨ht1,trivial⟩ (by simp)
  exact⟨v2,q1,hv2,by omega,by omega,N1 + N2 + 1000,fun fu hfu K=>by
   obtain⟨m,rfl⟩:∃ m,fu=m + 1:=⟨fu - 1,by omega⟩
   rw [p58b,p58b_b,hn,D0 (a:=2) (b:=0) (by decide),cond_false,D0 (a:=2) (b:=1) (by decide),cond_false,J1 (a:=2) (b:=2) rfl,cond_true,h1 m (by omega),E4 (by simp),Q8,h2 m (by omega)]⟩
 ·skip
  obtain⟨t1,q1,ht1,le1,lu1,N1,h1⟩:=ih a1 (by omega) (by omega) (B8 .add .i64 x 1)
  obtain⟨v2,hv2,N2,h2⟩:=w3m fail pt0 t1 L4 ht1
  obtain⟨v3,hv3,N3,h3⟩:=K1 fail _ pt4 z5t (fun fu hf K=>w7k fail fu hf K) [pt8,v2] ⟨w7h,hv2,trivial⟩ (by simp)
  exact⟨v3,q1,hv3,by omega,by omega,N1 + N2 + N3 + 1000,fun fu hfu K=>by
   obtain⟨m,rfl⟩:∃ m,fu=m + 1:=⟨fu - 1,by omega⟩
   rw [p58b,p58b_b,hn,D0 (a:=3) (b:=0) (by decide),cond_false,D0 (a:=3) (b:=1) (by decide),cond_false,D0 (a:=3) (b:=2) (by decide),cond_false,k4f fail m (by omega),X9 fail m (by omega),h1 m (by omega),h2 m (by omega),E4 (by simp),L3,h3 m (by omega)]⟩
include hb in
theorem w7t:∀ (r a:Nat),a≤b.length→b.length - a≤r→∀ x,w9e fail b a x∧k0s fail b a x:=by
 intro r
 induction r with
 | zero =>
  intro a ha hr x
  have hN:=w1j fail b hb a ha (fun a2 h1 h2=>by omega)
  refine⟨hN x,w1u fail b hb a ha (fun a2 h1 h2=>?_) x⟩
  obtain rfl:a2=a:=by omega
  exact hN
 | succ r ih =>
  intro a ha hr x
  have hN:=w1j fail b hb a ha (fun a2 h1 h2=>ih a2 h2 (by omega))
  refine⟨hN x,w1u fail b hb a ha (fun a2 h1 h2 y=>?_) x⟩
  by_cases h:a2=a
  ·subst h;exact hN y
  ·exact (ih a2 h2 (by omega) y).1
include hb in
theorem U3 (a:Nat) (ha:a≤b.length) (x:Int):w9e fail b a x:=(w7t fail b hb _ a ha (Nat.le_refl _) x).1
include hb in
theorem w9w (a:Nat) (ha:a≤b.length) (x:Int):k0s fail b a x:=(w7t fail b hb _ a ha (Nat.le_refl _) x).2
include hb in
theorem z7x (a:Nat) (ha:a≤b.length) (ih:∀ a2,a < a2→a2≤b.length→∀ x,w9b fail b a2 x) (x:Int):w9b fail b a x:=by
 obtain⟨v,a1,hv1,hv2,l1,l2,l3,hn⟩:=K4 fail b hb a ha 6 (by omega)
 rcases (by omega:v=0∨v=1∨v=2∨v=3∨v=4∨v=5) with rfl | rfl | rfl | rfl | rfl | rfl
 ·skip
  obtain⟨t1,q1,ht1,le1,lu1,N1,h1⟩:=U3 fail b hb a1 (by omega) (x)
  obtain⟨v2,hv2,N2,h2⟩:=K1 fail _ pt13 z1m (fun fu hf K=>z9i fail fu hf K) [t1] ⟨ht1,trivial⟩ (by simp)
  exact⟨v2,q1,hv2,by omega,by omega,N1 + N2 + 1000,fun fu hfu K=>by
   obtain⟨m,rfl⟩:∃ m,fu=m + 1:=⟨fu - 1,by omega⟩
   rw [p23,p23_b,hn,D0 (a:=0) (b:=1) (by decide),cond_false,D0 (a:=0) (b:=2) (by decide),cond_false,D0 (a:=0) (b:=3) (by decide),cond_false,D0 (a:=0) (b:=4) (by decide),cond_false,D0 (a:=0) (b:=5) (by decide),cond_false,p23_1,h1 m (by omega),E4 (by simp),Q8,h2 m (by omega)]⟩
 ·skip
  have l4:a < a1:=l3 (by decide)
  obtain⟨t1,q1,ht1,le1,lu1,N1,h1⟩:=U3 fail b hb a1 (by omega) (x)
  obtain⟨t2,q2,ht2,le2,lu2,N2,h2⟩:=U3 fail b hb q1 (by omega) (x)
  obtain⟨v3,hv3,N3,h3⟩:=K1 fail _ pt9 w1f (fun fu hf K=>k0v fail fu hf K) [pt0,t1,t2] ⟨L4,ht1,ht2,trivial⟩ (by simp)
  exact⟨v3,q2,hv3,by omega,by omega,N1 + N2 + N3 + 1000,fun fu hfu K=>by
   obtain⟨m,rfl⟩:∃ m,fu=m + 1:=⟨fu - 1,by omega⟩
   rw [p23,p23_b,hn,J1 (a:=1) (b:=1) rfl,cond_true,h1 m (by omega),X9 fail m (by omega),h2 m (by omega),E4 (by simp),z2m,h3 m (by omega)]⟩
 ·skip
  have l4:a < a1:=l3 (by decide)
  obtain⟨t1,q1,ht1,le1,lu1,N1,h1⟩:=ih a1 (by omega) (by omega) (x)
  obtain⟨t2,q2,ht2,le2,lu2,N2,h2⟩:=ih q1 (by omega) (by omega) (x)
  obtain⟨v3,hv3,N3,h3⟩:=K1 fail _ pt10 z7w (fun fu hf K=>w7p fail fu hf K) [t1,t2] ⟨ht1,ht2,trivial⟩ (by simp)
  exact⟨v3,q2,hv3,by omega,by omega,N1 + N2 + N3 + 1000,fun fu hfu K=>by
   obtain⟨m,rfl⟩:∃ m,fu=m + 1:=⟨fu - 1,by omega⟩
   rw [p23,p23_b,hn,D0 (a:=2) (b:=1) (by decide),cond_false,J1 (a:=2) (b:=2) rfl,cond_true,h1 m (by omega),h2 m (by omega),E4 (by simp),L3,h3 m (by omega)]⟩
 ·skip
  have l4:a < a1:=l3 (by decide)
  obtain⟨t1,q1,ht1,le1,lu1,N1,h1⟩:=ih a1 (by omega) (by omega) (B8 .add .i64 x 1)
  obtain⟨v2,hv2,N2,h2⟩:=piE fail pt0 t1 L4 ht1
  exact⟨v2,q1,hv2,by omega,by omega,N1 + N2 + 1000,fun fu hfu K=>by
   obtain⟨m,rfl⟩:∃ m,fu=m + 1:=⟨fu - 1,by omega⟩
   rw [p23,p23_b,hn,D0 (a:=3) (b:=1) (by decide),cond_false,D0 (a:=3) (b:=2) (by decide),cond_false,J1 (a:=3) (b:=3) rfl,cond_true,X9 fail m (by omega),h1 m (by omega),h2 m (by omega)]⟩
 ·skip
  have l4:a < a1:=l3 (by decide)
  obtain⟨t1,q1,ht1,le1,lu1,N1,h1⟩:=ih a1 (by omega) (by omega) (x)
  obtain⟨v2,hv2,N2,h2⟩:=K1 fail _ pt11 w5s (fun fu hf K=>k2u fail fu hf K) [t1] ⟨ht1,trivial⟩ (by simp)
  exact⟨v2,q1,hv2,by omega,by omega,N1 + N2 + 1000,fun fu hfu K=>by
   obtain⟨m,rfl⟩:∃ m,fu=m + 1:=⟨fu - 1,by omega⟩
   rw [p23,p23_b,hn,D0 (a:=4) (b:=1) (by decide),cond_false,D0 (a:=4) (b:=2) (by decide),cond_false,D0 (a:=4) (b:=3) (by decide),cond_false,J1 (a:=4) (b:=4) rfl,cond_true,h1 m (by omega),E4 (by simp),Q8,h2 m (by omega)]⟩
 ·skip
  have l4:a < a1:=l3 (by decide)
  by_cases hx:a1 < b.length
  ·skip
   obtain⟨t1,q1,ht1,le1,lu1,N1,h1⟩:=ih a1 (by omega) (by omega) (x)
   obtain⟨v2,hv2,N2,h2⟩:=K1 fail _ pt4 z5t (fun fu hf K=>w7k fail fu hf K) [pt12,t1] ⟨z7v,ht1,trivial⟩ (by simp)
   exact⟨v2,q1,hv2,by omega,by omega,N1 + N2 + 1000,fun fu hfu K=>by
    obtain⟨m,rfl⟩:∃ m,fu=m + 1:=⟨fu - 1,by omega⟩
    rw [p23,p23_b,hn,D0 (a:=5) (b:=1) (by decide),cond_false,D0 (a:=5) (b:=2) (by decide),cond_false,D0 (a:=5) (b:=3) (by decide),cond_false,D0 (a:=5) (b:=4) (by decide),cond_false,J1 (a:=5) (b:=5) rfl,cond_true,p63,K6,w9v (show ((a1:Nat):Int) < ((b.length:Nat):Int) by omega),Bool.not_false,cond_true,w7o fail m (by omega),h1 m (by omega),E4 (by simp),L3,h2 m (by omega)]⟩
  ·skip
   obtain⟨t1,q1,ht1,le1,lu1,N1,h1⟩:=U3 fail b hb a1 (by omega) (x)
   obtain⟨v2,hv2,N2,h2⟩:=K1 fail _ pt13 z1m (fun fu hf K=>z9i fail fu hf K) [t1] ⟨ht1,trivial⟩ (by simp)
   exact⟨v2,q1,hv2,by omega,by omega,N1 + N2 + 1000,fun fu hfu K=>by
    obtain⟨m,rfl⟩:∃ m,fu=m + 1:=⟨fu - 1,by omega⟩
    rw [p23,p23_b,hn,D0 (a:=5) (b:=1) (by decide),cond_false,D0 (a:=5) (b:=2) (by decide),cond_false,D0 (a:=5) (b:=3) (by decide),cond_false,D0 (a:=5) (b:=4) (by decide),cond_false,J1 (a:=5) (b:=5) rfl,cond_true,p63,K6,w9u (show ((b.length:Nat):Int)≤((a1:Nat):Int) by omega),Bool.not_true,cond_false,p23_1,h1 m (by omega),E4 (by simp),Q8,h2 m (by omega)]⟩
include hb in
theorem z5v:∀ (r a:Nat),a≤b.length→b.length - a≤r→∀ x,w9b fail b a x:=by
 intro r
 induction r with
 | zero=>intro a ha hr x;exact z7x fail b hb a ha (fun a2 h1 h2=>by omega) x
 | succ r ih=>intro a ha hr x;exact z7x fail b hb a ha (fun a2 h1 h2=>ih a2 h2 (by omega)) x
include hb in
theorem z5m (a:Nat) (ha:a≤b.length) (ih:∀ a2,a < a2→a2≤b.length→∀ x,w3w fail b a2 x) (x:Int):w3w fail b a x:=by
 obtain⟨v,a1,hv1,hv2,l1,l2,l3,hn⟩:=K4 fail b hb a ha 6 (by omega)
 rcases (by omega:v=0∨v=1∨v=2∨v=3∨v=4∨v=5) with rfl | rfl | rfl | rfl | rfl | rfl
 ·skip
  obtain⟨t1,q1,ht1,le1,lu1,N1,h1⟩:=U3 fail b hb a1 (by omega) (x)
  obtain⟨v2,hv2,N2,h2⟩:=K1 fail _ pt17 z7u (fun fu hf K=>w7n fail fu hf K) [t1] ⟨ht1,trivial⟩ (by simp)
  obtain⟨v3,hv3,N3,h3⟩:=K1 fail _ pt13 z1m (fun fu hf K=>z9i fail fu hf K) [t1] ⟨ht1,trivial⟩ (by simp)
  exact⟨v2,v3,q1,hv2,hv3,by omega,by omega,N1 + N2 + N3 + 1000,fun fu hfu K=>by
   obtain⟨m,rfl⟩:∃ m,fu=m + 1:=⟨fu - 1,by omega⟩
   rw [p24,p24_b,hn,D0 (a:=0) (b:=1) (by decide),cond_false,D0 (a:=0) (b:=2) (by decide),cond_false,D0 (a:=0) (b:=3) (by decide),cond_false,D0 (a:=0) (b:=4) (by decide),cond_false,D0 (a:=0) (b:=5) (by decide),cond_false,p24_3,h1 m (by omega),E4 (by simp),Q8,h2 m (by omega),E4 (by simp),h3 m (by omega),p24_2]⟩
 ·skip
  have l4:a < a1:=l3 (by decide)
  obtain⟨t1,q1,ht1,le1,lu1,N1,h1⟩:=U3 fail b hb a1 (by omega) (x)
  obtain⟨v2,hv2,N2,h2⟩:=K1 fail _ pt14 w5r (fun fu hf K=>k2s fail fu hf K) [pt0,t1] ⟨L4,ht1,trivial⟩ (by simp)
  obtain⟨v3,hv3,N3,h3⟩:=K1 fail _ pt9 w1f (fun fu hf K=>k0v fail fu hf K) [pt0,t1,t1] ⟨L4,ht1,ht1,trivial⟩ (by simp)
  exact⟨v2,v3,q1,hv2,hv3,by omega,by omega,N1 + N2 + N3 + 1000,fun fu hfu K=>by
   obtain⟨m,rfl⟩:∃ m,fu=m + 1:=⟨fu - 1,by omega⟩
   rw [p24,p24_b,hn,J1 (a:=1) (b:=1) rfl,cond_true,h1 m (by omega),X9 fail m (by omega),E4 (by simp),L3,h2 m (by omega),X9 fail m (by omega),E4 (by simp),z2m,h3 m (by omega)]⟩
 ·skip
  have l4:a < a1:=l3 (by decide)
  obtain⟨t1,u1,q1,ht1,hu1,le1,lu1,N1,h1⟩:=ih a1 (by omega) (by omega) (x)
  obtain⟨t2,u2,q2,ht2,hu2,le2,lu2,N2,h2⟩:=ih q1 (by omega) (by omega) (x)
  obtain⟨v3,hv3,N3,h3⟩:=K1 fail _ pt15 w5q (fun fu hf K=>k2r fail fu hf K) [u1,u2,t1,t2] ⟨hu1,hu2,ht1,ht2,trivial⟩ (by simp)
  obtain⟨v4,hv4,N4,h4⟩:=K1 fail _ pt10 z7w (fun fu hf K=>w7p fail fu hf K) [u1,u2] ⟨hu1,hu2,trivial⟩ (by simp)
  exact⟨v3,v4,q2,hv3,hv4,by omega,by omega,N1 + N2 + N3 + N4 + 1000,fun fu hfu K=>by
   obtain⟨m,rfl⟩:∃ m,fu=m + 1:=⟨fu - 1,by omega⟩
   rw [p24,p24_b,hn,D0 (a:=2) (b:=1) (by decide),cond_false,J1 (a:=2) (b:=2) rfl,cond_true,h1 m (by omega),h2 m (by omega),E4 (by simp),w0t,h3 m (by omega),E4 (by simp),L3,h4 m (by omega),p24_1]⟩
 ·skip
  have l4:a < a1:=l3 (by decide)
  obtain⟨t1,u1,q1,ht1,hu1,le1,lu1,N1,h1⟩:=ih a1 (by omega) (by omega) (B8 .add .i64 x 1)
  obtain⟨v2,hv2,N2,h2⟩:=w3m fail pt0 t1 L4 ht1
  obtain⟨v3,hv3,N3,h3⟩:=piE fail pt0 u1 L4 hu1
  exact⟨v2,v3,q1,hv2,hv3,by omega,by omega,N1 + N2 + N3 + 1000,fun fu hfu K=>by
   obtain⟨m,rfl⟩:∃ m,fu=m + 1:=⟨fu - 1,by omega⟩
   rw [p24,p24_b,hn,D0 (a:=3) (b:=1) (by decide),cond_false,D0 (a:=3) (b:=2) (by decide),cond_false,J1 (a:=3) (b:=3) rfl,cond_true,h1 m (by omega),X9 fail m (by omega),h2 m (by omega),X9 fail m (by omega),h3 m (by omega)]⟩
 ·skip
  have l4:a < a1:=l3 (by decide)
  obtain⟨t1,q1,ht1,le1,lu1,N1,h1⟩:=z5v fail b hb _ a1 (by omega) (Nat.le_refl _) (x)
  obtain⟨v2,hv2,N2,h2⟩:=w3m fail t1 (.mk 0 0 ⟨#[]⟩ [] []) ht1 ⟨⟨by simp,trivial⟩,by simp,trivial⟩
  have g2:∀ fu,N2≤fu→∀ K:Int→Int→ByteArray→EL→EL→ρ,p64 fail fu K t1.k t1.n t1.nm (Lv.rows t1.ls) (Tm.rows t1.args) 0 0 ⟨#[]⟩ nilE nilE=K v2.k v2.n v2.nm (Lv.rows v2.ls) (Tm.rows v2.args):=h2
  obtain⟨v3,hv3,N3,h3⟩:=w7w fail t1 ht1 1 0
  obtain⟨v4,hv4,N4,h4⟩:=piE fail t1 v3 ht1 hv3
  exact⟨v2,v4,q1,hv2,hv4,by omega,by omega,N1 + N2 + N3 + N4 + 1000,fun fu hfu K=>by
   obtain⟨m,rfl⟩:∃ m,fu=m + 1:=⟨fu - 1,by omega⟩
   rw [p24,p24_b,hn,D0 (a:=4) (b:=1) (by decide),cond_false,D0 (a:=4) (b:=2) (by decide),cond_false,D0 (a:=4) (b:=3) (by decide),cond_false,J1 (a:=4) (b:=4) rfl,cond_true,h1 m (by omega),p65,g2 m (by omega),h3 m (by omega),h4 m (by omega)]⟩
 ·skip
  have l4:a < a1:=l3 (by decide)
  by_cases hx:a1 < b.length
  ·skip
   obtain⟨t1,u1,q1,ht1,hu1,le1,lu1,N1,h1⟩:=ih a1 (by omega) (by omega) (x)
   obtain⟨v2,hv2,N2,h2⟩:=K1 fail _ pt16 w5p (fun fu hf K=>k2q fail fu hf K) [u1,t1] ⟨hu1,ht1,trivial⟩ (by simp)
   exact⟨v2,u1,q1,hv2,hu1,by omega,by omega,N1 + N2 + 1000,fun fu hfu K=>by
    obtain⟨m,rfl⟩:∃ m,fu=m + 1:=⟨fu - 1,by omega⟩
    rw [p24,p24_b,hn,D0 (a:=5) (b:=1) (by decide),cond_false,D0 (a:=5) (b:=2) (by decide),cond_false,D0 (a:=5) (b:=3) (by decide),cond_false,D0 (a:=5) (b:=4) (by decide),cond_false,J1 (a:=5) (b:=5) rfl,cond_true,p63,K6,w9v (show ((a1:Nat):Int) < ((b.length:Nat):Int) by omega),Bool.not_false,cond_true,h1 m (by omega),E4 (by simp),L3,h2 m (by omega)]⟩
  ·skip
   obtain⟨t1,q1,ht1,le1,lu1,N1,h1⟩:=U3 fail b hb a1 (by omega) (x)
   obtain⟨v2,hv2,N2,h2⟩:=K1 fail _ pt17 z7u (fun fu hf K=>w7n fail fu hf K) [t1] ⟨ht1,trivial⟩ (by simp)
   obtain⟨v3,hv3,N3,h3⟩:=K1 fail _ pt13 z1m (fun fu hf K=>z9i fail fu hf K) [t1] ⟨ht1,trivial⟩ (by simp)
   exact⟨v2,v3,q1,hv2,hv3,by omega,by omega,N1 + N2 + N3 + 1000,fun fu hfu K=>by
    obtain⟨m,rfl⟩:∃ m,fu=m + 1:=⟨fu - 1,by omega⟩
    rw [p24,p24_b,hn,D0 (a:=5) (b:=1) (by decide),cond_false,D0 (a:=5) (b:=2) (by decide),cond_false,D0 (a:=5) (b:=3) (by decide),cond_false,D0 (a:=5) (b:=4) (by decide),cond_false,J1 (a:=5) (b:=5) rfl,cond_true,p63,K6,w9u (show ((b.length:Nat):Int)≤((a1:Nat):Int) by omega),Bool.not_true,cond_false,p24_3,h1 m (by omega),E4 (by simp),Q8,h2 m (by omega),E4 (by simp),h3 m (by omega),p24_2]⟩
include hb in
theorem z3o:∀ (r a:Nat),a≤b.length→b.length - a≤r→∀ x,w3w fail b a x:=by
 intro r
 induction r with
 | zero=>intro a ha hr x;exact z5m fail b hb a ha (fun a2 h1 h2=>by omega) x
 | succ r ih=>intro a ha hr x;exact z5m fail b hb a ha (fun a2 h1 h2=>ih a2 h2 (by omega)) x
theorem k3b (t:Lv) (ht:t.thin):∃ v:Lv,v.thin∧∃ N:Nat,∀ fu,N≤fu→∀ K:Int→Int→EL→ρ,p119 fail fu K t.k t.n (Lv.rows t.args)=K v.k v.n (Lv.rows v.args):=⟨.mk 1 0 [t],⟨by simp,ht,trivial⟩,t.sz + 20,fun fu hf K=>by rw [p119,P6 fail t ht fu _ hf,E4 (by simp),V3];rfl⟩
theorem k4p (t u:Lv) (ht:t.thin) (hu:u.thin):∃ v:Lv,v.thin∧∃ N:Nat,∀ fu,N≤fu→∀ K:Int→Int→EL→ρ,p120 fail fu K t.k t.n (Lv.rows t.args) u.k u.n (Lv.rows u.args)=K v.k v.n (Lv.rows v.args):=⟨.mk 2 0 [t,u],⟨by simp,ht,hu,trivial⟩,t.sz + u.sz + 20,fun fu hf K=>by rw [p120,P6 fail t ht fu _ (by omega),P6 fail u hu fu _ (by omega),E4 (by simp),z6c];rfl⟩
theorem k3f (t u:Lv) (ht:t.thin) (hu:u.thin):∃ v:Lv,v.thin∧∃ N:Nat,∀ fu,N≤fu→∀ K:Int→Int→EL→ρ,p121 fail fu K t.k t.n (Lv.rows t.args) u.k u.n (Lv.rows u.args)=K v.k v.n (Lv.rows v.args):=⟨.mk 3 0 [t,u],⟨by simp,ht,hu,trivial⟩,t.sz + u.sz + 20,fun fu hf K=>by rw [p121,P6 fail t ht fu _ (by omega),P6 fail u hu fu _ (by omega),E4 (by simp),z6c];rfl⟩
include hb in
theorem z6g (a:Nat) (ha:a≤b.length) (ih:∀ a2,a < a2→a2≤b.length→∀ x,w3x fail b a2 x) (x:Int):w3x fail b a x:=by
 obtain⟨v,a1,hv1,hv2,l1,l2,l3,hn⟩:=K4 fail b hb a ha 6 (by omega)
 rcases (by omega:v=0∨v=1∨v=2∨v=3∨v=4∨v=5) with rfl | rfl | rfl | rfl | rfl | rfl
 ·skip
  exact⟨(.mk 0 0 []),a1,⟨by simp,trivial⟩,by omega,by omega,1000,fun fu hfu K=>by
   obtain⟨m,rfl⟩:∃ m,fu=m + 1:=⟨fu - 1,by omega⟩
   rw [p91,p91_b,hn,D0 (a:=0) (b:=1) (by decide),cond_false,D0 (a:=0) (b:=2) (by decide),cond_false,D0 (a:=0) (b:=3) (by decide),cond_false,D0 (a:=0) (b:=4) (by decide),cond_false,D0 (a:=0) (b:=5) (by decide),p91_2,cond_false,p91_1,p123];rfl⟩
 ·skip
  have l4:a < a1:=l3 (by decide)
  obtain⟨t1,q1,ht1,le1,lu1,N1,h1⟩:=ih a1 (by omega) (by omega) (x)
  obtain⟨v2,hv2,N2,h2⟩:=k3b fail t1 ht1
  exact⟨v2,q1,hv2,by omega,by omega,N1 + N2 + 1000,fun fu hfu K=>by
   obtain⟨m,rfl⟩:∃ m,fu=m + 1:=⟨fu - 1,by omega⟩
   rw [p91,p91_b,hn,J1 (a:=1) (b:=1) rfl,cond_true,h1 m (by omega),h2 m (by omega)]⟩
 ·skip
  have l4:a < a1:=l3 (by decide)
  obtain⟨t1,q1,ht1,le1,lu1,N1,h1⟩:=ih a1 (by omega) (by omega) (x)
  obtain⟨t2,q2,ht2,le2,lu2,N2,h2⟩:=ih q1 (by omega) (by omega) (x)
  obtain⟨v3,hv3,N3,h3⟩:=k4p fail t1 t2 ht1 ht2
  exact⟨v3,q2,hv3,by omega,by omega,N1 + N2 + N3 + 1000,fun fu hfu K=>by
   obtain⟨m,rfl⟩:∃ m,fu=m + 1:=⟨fu - 1,by omega⟩
   rw [p91,p91_b,hn,D0 (a:=2) (b:=1) (by decide),cond_false,J1 (a:=2) (b:=2) rfl,cond_true,h1 m (by omega),h2 m (by omega),h3 m (by omega)]⟩
 ·skip
  have l4:a < a1:=l3 (by decide)
  obtain⟨t1,q1,ht1,le1,lu1,N1,h1⟩:=ih a1 (by omega) (by omega) (x)
  obtain⟨t2,q2,ht2,le2,lu2,N2,h2⟩:=ih q1 (by omega) (by omega) (x)
  obtain⟨v3,hv3,N3,h3⟩:=k3f fail t1 t2 ht1 ht2
  exact⟨v3,q2,hv3,by omega,by omega,N1 + N2 + N3 + 1000,fun fu hfu K=>by
   obtain⟨m,rfl⟩:∃ m,fu=m + 1:=⟨fu - 1,by omega⟩
   rw [p91,p91_b,hn,D0 (a:=3) (b:=1) (by decide),cond_false,D0 (a:=3) (b:=2) (by decide),cond_false,J1 (a:=3) (b:=3) rfl,cond_true,h1 m (by omega),h2 m (by omega),h3 m (by omega)]⟩
 ·skip
  have l4:a < a1:=l3 (by decide)
  by_cases hx:0 < x
  ·obtain⟨v5,a5,_,_,l5,l6,_,hn5⟩:=K4 fail b hb a1 l2 x (by omega)
   exact⟨.mk 4 v5 [],a5,⟨by simp,trivial⟩,by omega,by omega,1000,fun fu hfu K=>by
    obtain⟨m,rfl⟩:∃ m,fu=m + 1:=⟨fu - 1,by omega⟩
    rw [p91,p91_b,hn,D0 (a:=4) (b:=1) (by decide),cond_false,D0 (a:=4) (b:=2) (by decide),cond_false,D0 (a:=4) (b:=3) (by decide),cond_false,J1 (a:=4) (b:=4) rfl,cond_true,p91_2,cond_true,w5z hx,cond_true,hn5,p122];rfl⟩
  ·skip
   exact⟨(.mk 0 0 []),a1,⟨by simp,trivial⟩,by omega,by omega,1000,fun fu hfu K=>by
    obtain⟨m,rfl⟩:∃ m,fu=m + 1:=⟨fu - 1,by omega⟩
    rw [p91,p91_b,hn,D0 (a:=4) (b:=1) (by decide),cond_false,D0 (a:=4) (b:=2) (by decide),cond_false,D0 (a:=4) (b:=3) (by decide),cond_false,J1 (a:=4) (b:=4) rfl,cond_true,p91_2,cond_true,w8b (show x≤0 by omega),cond_false,p91_1,p123];rfl⟩
 ·skip
  have l4:a < a1:=l3 (by decide)
  by_cases hx:0 < x
  ·obtain⟨v5,a5,_,_,l5,l6,_,hn5⟩:=K4 fail b hb a1 l2 x (by omega)
   exact⟨.mk 4 v5 [],a5,⟨by simp,trivial⟩,by omega,by omega,1000,fun fu hfu K=>by
    obtain⟨m,rfl⟩:∃ m,fu=m + 1:=⟨fu - 1,by omega⟩
    rw [p91,p91_b,hn,D0 (a:=5) (b:=1) (by decide),cond_false,D0 (a:=5) (b:=2) (by decide),cond_false,D0 (a:=5) (b:=3) (by decide),cond_false,D0 (a:=5) (b:=4) (by decide),cond_false,J1 (a:=5) (b:=5) rfl,p91_2,cond_true,w5z hx,cond_true,hn5,p122];rfl⟩
  ·skip
   exact⟨(.mk 0 0 []),a1,⟨by simp,trivial⟩,by omega,by omega,1000,fun fu hfu K=>by
    obtain⟨m,rfl⟩:∃ m,fu=m + 1:=⟨fu - 1,by omega⟩
    rw [p91,p91_b,hn,D0 (a:=5) (b:=1) (by decide),cond_false,D0 (a:=5) (b:=2) (by decide),cond_false,D0 (a:=5) (b:=3) (by decide),cond_false,D0 (a:=5) (b:=4) (by decide),cond_false,J1 (a:=5) (b:=5) rfl,p91_2,cond_true,w8b (show x≤0 by omega),cond_false,p91_1,p123];rfl⟩
include hb in
theorem z8d:∀ (r a:Nat),a≤b.length→b.length - a≤r→∀ x,w3x fail b a x:=by
 intro r
 induction r with
 | zero=>intro a ha hr x;exact z6g fail b hb a ha (fun a2 h1 h2=>by omega) x
 | succ r ih=>intro a ha hr x;exact z6g fail b hb a ha (fun a2 h1 h2=>ih a2 h2 (by omega)) x
end
def p60_1 {ρ:Type} (fail:ρ) (fu:Nat) (s_p60:(Int→Int→ByteArray→EL→EL→EL→Int→ρ)→EL→Int→Int→Int→ByteArray→EL→EL→ρ) (K0:KT3 ρ) (x2 x3:Int) (x4:ByteArray) (x5 x6 j1:EL) (j2:Int) (j3:Bool):ρ :=
 bif j3 then (p57 fail fu (fun y4 y5 y6=>p89b fail fu (fun y7 y8 y9 n0 a0=>gd (0≤y4) fail (gd (y4 < x6.length) fail (E0 fail (List.getD x6 (y4.toNat) []) (fun o0 q0 r0 s0 t0=>s_p60 (fun g0 i0 j0 l0 m0 v0 w0=>gd (0≤y4) fail (gd (y4 < a0.length) fail (gd ((y4.toNat) + 1≤a0.length) fail (gd (0 + 5≤(List.getD a0 (y4.toNat) []).length) fail (gd (a0.length≤(List.set a0 (y4.toNat) (F9 (List.getD a0 (y4.toNat) []) 0 [(CV.v (.int .i64 g0)),(CV.v (.int .i64 i0)),(CV.v (.string j0)),(CV.sl 3 l0 none),(CV.sl 5 m0 none)])).length) fail (K0 y7 y8 y9 n0 (List.take a0.length (List.set a0 (y4.toNat) (F9 (List.getD a0 (y4.toNat) []) 0 [(CV.v (.int .i64 g0)),(CV.v (.int .i64 i0)),(CV.v (.string j0)),(CV.sl 3 l0 none),(CV.sl 5 m0 none)]))) v0 w0)))))) y5 y6 o0 q0 r0 s0 t0)))) x2 x3 x4 x5 x6) j1 j2 ((x6.length:Nat):Int)) else (p57 fail fu (fun e0 c0 d0=>bif (B0 .eql e0 0) then (p59 fail fu (fun x0 y0 z0 a1 c1=>K0 x0 y0 z0 a1 c1 c0 d0) ⟨#[122,101,114,111]⟩) else (bif (B0 .eql e0 1) then (p57 fail fu (fun d1 e1 f1=>p65 fail fu (fun g1 i1 l1 m1 o1=>K0 g1 i1 l1 m1 o1 e1 f1) d1) c0 d0 3) else (bif (B0 .eql e0 2) then (p91 fail fu (fun q1 r1 s1 t1 v1=>p90 fail fu (fun w1 x1 y1 z1 a2=>K0 w1 x1 y1 z1 a2 t1 v1) q1 r1 s1) c0 d0 2) else (bif (B0 .eql e0 3) then (p57 fail fu (fun f0 c2 d2=>gd (6≤[[(CV.v (.string ⟨#[78,97,116]⟩))],[(CV.v (.string ⟨#[110,111,112,101]⟩))],[(CV.v (.string ⟨#[69,113]⟩))],[(CV.v (.string ⟨#[105,100]⟩))],[(CV.v (.string ⟨#[97,100,100]⟩))],[(CV.v (.string ⟨#[70,97,108,115,101]⟩))]].length) fail (gd (0≤f0) fail (gd (f0 < (6:Nat)) fail (gd ((f0.toNat) + 1≤[[(CV.v (.string ⟨#[78,97,116]⟩))],[(CV.v (.string ⟨#[110,111,112,101]⟩))],[(CV.v (.string ⟨#[69,113]⟩))],[(CV.v (.string ⟨#[105,100]⟩))],[(CV.v (.string ⟨#[97,100,100]⟩))],[(CV.v (.string ⟨#[70,97,108,115,101]⟩))]].length) fail (z2r fail (List.getD [[(CV.v (.string ⟨#[78,97,116]⟩))],[(CV.v (.string ⟨#[110,111,112,101]⟩))],[(CV.v (.string ⟨#[69,113]⟩))],[(CV.v (.string ⟨#[105,100]⟩))],[(CV.v (.string ⟨#[97,100,100]⟩))],[(CV.v (.string ⟨#[70,97,108,115,101]⟩))]] (f0.toNat) []) (fun e2=>p92 fail fu (fun f2 g2 i2 l2 m2=>K0 f2 g2 i2 l2 m2 c2 d2) e2 nilE)))))) c0 d0 6) else (bif (B0 .eql e0 4) then (p70 fail fu (fun o2 r2 s2 t2 v2=>K0 o2 r2 s2 t2 v2 c0 d0) x2 x3 x4 x5 x6 x2 x3 x4 x5 x6) else (p59 fail fu (fun w2 y2 z2 a3 c3=>p66 fail fu (fun d3 e3 f3 g3 i3=>p64 fail fu (fun l3 n3 o3 r3 s3=>K0 l3 n3 o3 r3 s3 c0 d0) w2 y2 z2 a3 c3 d3 e3 f3 g3 i3) x2 x3 x4 x5 x6 1 0) ⟨#[78,97,116]⟩)))))) j1 j2 6)
def p60_b {ρ:Type} (fail:ρ) (fu:Nat) (s_p60:(Int→Int→ByteArray→EL→EL→EL→Int→ρ)→EL→Int→Int→Int→ByteArray→EL→EL→ρ) (K0:KT3 ρ) (x0:EL) (x1 x2 x3:Int) (x4:ByteArray) (x5 x6:EL):ρ :=
 bif (B0 .gtr ((x6.length:Nat):Int) 0) then (p57 fail fu (fun a0 c0 d0=>p60_1 fail fu s_p60 K0 x2 x3 x4 x5 x6 c0 d0 (B0 .gtr a0 0)) x0 x1 4) else (p60_1 fail fu s_p60 K0 x2 x3 x4 x5 x6 x0 x1 false)
def p60 {ρ:Type} (fail:ρ):Nat→(Int→Int→ByteArray→EL→EL→EL→Int→ρ)→EL→Int→Int→Int→ByteArray→EL→EL→ρ
 | 0,_,_,_,_,_,_,_,_=>fail
 | n + 1,K0,x0,x1,x2,x3,x4,x5,x6=>p60_b fail n (p60 fail n) K0 x0 x1 x2 x3 x4 x5 x6
def p22_1 {ρ:Type} (fail:ρ) (fu:Nat) (K0:KT3 ρ) (j4:EL) (j5 j6 j7:Int) (j8:ByteArray) (j9 a0:EL):ρ :=
 p57 fail fu (fun e0 c0 d0=>bif (B0 .eql e0 4) then (p60 fail fu (fun f0 g0 i0 j0 l0 m0 n0=>K0 f0 g0 i0 j0 l0 m0 n0) c0 d0 j6 j7 j8 j9 a0) else (K0 j6 j7 j8 j9 a0 c0 d0)) j4 j5 5
def p22_2 {ρ:Type} (fail:ρ) (fu:Nat) (K0:KT3 ρ) (a0:EL) (c0 d0 e0:Int) (f0:ByteArray) (g0 i0:EL):ρ :=
 p22_1 fail fu K0 a0 c0 d0 e0 f0 g0 i0
def p22_3 {ρ:Type} (fail:ρ) (fu:Nat) (K0:KT3 ρ) (a0:EL) (c0 d0 e0:Int) (f0:ByteArray) (g0 i0:EL):ρ :=
 p22_2 fail fu K0 a0 c0 d0 e0 f0 g0 i0
def p22_4 {ρ:Type} (fail:ρ) (fu:Nat) (K0:KT3 ρ) (a0:EL) (c0 d0 e0:Int) (f0:ByteArray) (g0 i0:EL):ρ :=
 p22_3 fail fu K0 a0 c0 d0 e0 f0 g0 i0
def p22_5 {ρ:Type} (fail:ρ) (fu:Nat) (K0:KT3 ρ) (a0:EL) (c0 d0 e0:Int) (f0:ByteArray) (g0 i0:EL):ρ :=
 p22_4 fail fu K0 a0 c0 d0 e0 f0 g0 i0
def p22 {ρ:Type} (fail:ρ) (fu:Nat) (K0:KT3 ρ) (x0:EL) (x1:Int):ρ :=
 p57 fail fu (fun y1 y2 y3=>bif (B0 .eql y1 0) then (p27 fail fu (fun f0 g0 i0 j0 l0 m0 n0=>p22_1 fail fu K0 m0 n0 f0 g0 i0 j0 l0) y2 y3 0) else (bif (B0 .eql y1 1) then (p58b fail fu (fun o0 q0 r0 s0 t0 v0 w0=>p22_2 fail fu K0 v0 w0 o0 q0 r0 s0 t0) y2 y3 0) else (bif (B0 .eql y1 2) then (p23 fail fu (fun y0 z0 a1 c1 d1 e1 f1=>p22_3 fail fu K0 e1 f1 y0 z0 a1 c1 d1) y2 y3 0) else (bif (B0 .eql y1 3) then (p24 fail fu (fun g1 i1 j1 l1 m1 i2 j2 l2 m2 o2 o1 q1=>p22_4 fail fu K0 o1 q1 g1 i1 j1 l1 m1) y2 y3 0) else (bif (B0 .eql y1 4) then (p24 fail fu (fun r2 s2 t2 v2 w2 r1 s1 t1 v1 w1 z1 a2=>p22_5 fail fu K0 z1 a2 r1 s1 t1 v1 w1) y2 y3 0) else (p57 fail fu (fun a0 c2 d2=>gd (10≤[[(CV.v (.string ⟨#[42,48]⟩))],[(CV.v (.string ⟨#[42,83,48]⟩))],[(CV.v (.string ⟨#[78,97,116,46,114,101,99,123,48,125]⟩))],[(CV.v (.string ⟨#[92,42,112,48,46,32,92,35,48,46,32,35,48]⟩))],[(CV.v (.string ⟨#[101,120,116,123,48,44,83,48,125]⟩))],[(CV.v (.string ⟨#[33,42,48,46,32,35,48]⟩))],[(CV.v (.string ⟨#[76,105,115,116,46,114,101,99,123,48,44,83,48,125]⟩))],[(CV.v (.string ⟨#[86,101,99,123,48,125]⟩))],[(CV.v (.string ⟨#[92,33,78,97,116,46,32,42,48,46,32,40,35,48,32,122,101,114,111,41]⟩))],[(CV.v (.string ⟨#[40,40,40,86,101,99,46,114,101,99,123,48,44,83,48,125,32,78,97,116,41,32,92,78,97,116,46,32,92,40,40,86,101,99,123,48,125,32,78,97,116,41,32,35,48,41,46,32,78,97,116,41,32,122,101,114,111,41]⟩))]].length) fail (gd (0≤a0) fail (gd (a0 < (10:Nat)) fail (gd ((a0.toNat) + 1≤[[(CV.v (.string ⟨#[42,48]⟩))],[(CV.v (.string ⟨#[42,83,48]⟩))],[(CV.v (.string ⟨#[78,97,116,46,114,101,99,123,48,125]⟩))],[(CV.v (.string ⟨#[92,42,112,48,46,32,92,35,48,46,32,35,48]⟩))],[(CV.v (.string ⟨#[101,120,116,123,48,44,83,48,125]⟩))],[(CV.v (.string ⟨#[33,42,48,46,32,35,48]⟩))],[(CV.v (.string ⟨#[76,105,115,116,46,114,101,99,123,48,44,83,48,125]⟩))],[(CV.v (.string ⟨#[86,101,99,123,48,125]⟩))],[(CV.v (.string ⟨#[92,33,78,97,116,46,32,42,48,46,32,40,35,48,32,122,101,114,111,41]⟩))],[(CV.v (.string ⟨#[40,40,40,86,101,99,46,114,101,99,123,48,44,83,48,125,32,78,97,116,41,32,92,78,97,116,46,32,92,40,40,86,101,99,123,48,125,32,78,97,116,41,32,35,48,41,46,32,78,97,116,41,32,122,101,114,111,41]⟩))]].length) fail (z2r fail (List.getD [[(CV.v (.string ⟨#[42,48]⟩))],[(CV.v (.string ⟨#[42,83,48]⟩))],[(CV.v (.string ⟨#[78,97,116,46,114,101,99,123,48,125]⟩))],[(CV.v (.string ⟨#[92,42,112,48,46,32,92,35,48,46,32,35,48]⟩))],[(CV.v (.string ⟨#[101,120,116,123,48,44,83,48,125]⟩))],[(CV.v (.string ⟨#[33,42,48,46,32,35,48]⟩))],[(CV.v (.string ⟨#[76,105,115,116,46,114,101,99,123,48,44,83,48,125]⟩))],[(CV.v (.string ⟨#[86,101,99,123,48,125]⟩))],[(CV.v (.string ⟨#[92,33,78,97,116,46,32,42,48,46,32,40,35,48,32,122,101,114,111,41]⟩))],[(CV.v (.string ⟨#[40,40,40,86,101,99,46,114,101,99,123,48,44,83,48,125,32,78,97,116,41,32,92,78,97,116,46,32,92,40,40,86,101,99,123,48,125,32,78,97,116,41,32,35,48,41,46,32,78,97,116,41,32,122,101,114,111,41]⟩))]] (a0.toNat) []) (fun e2=>p59 fail fu (fun f2 g2 c0 d0 e0=>p22_5 fail fu K0 c2 d2 f2 g2 c0 d0 e0) e2)))))) y2 y3 10)))))) x0 x1 6
theorem Tm.rows_set:∀ (l:List Tm) (i:Nat) (t:Tm),(Tm.rows l).set i t.row=Tm.rows (l.set i t)
 | [],_,_=>rfl
 | a :: l,0,t=>rfl
 | a :: l,i + 1,t=>by rw [Tm.rows,List.set_cons_succ,Tm.rows_set l i t];rfl
theorem w6w (l:List Tm) (i:Nat) (hi:i < l.length) (t:Tm):List.set (Tm.rows l) i (F9 (List.getD (Tm.rows l) i []) 0 [CV.v (.int .i64 t.k),CV.v (.int .i64 t.n),CV.v (.string t.nm),CV.sl 3 (Lv.rows t.ls) none,CV.sl 5 (Tm.rows t.args) none])=Tm.rows (l.set i t):=by
 rw [Tm.rows_get hi,Tm.row_eq l[i],← Tm.rows_set,Tm.row_eq t];rfl
section
variable {ρ:Type} (fail:ρ) (b:List UInt8) (hb:b.length≤1000000)
include hb in
theorem z4f (t:Tm) (ht:t.thin) (a:Nat) (ha:a≤b.length):∃ (t':Tm) (a':Nat),t'.thin∧a≤a'∧a'≤b.length∧∃ M:Nat,∀ m,M≤m→∀ (s:(Int→Int→ByteArray→EL→EL→EL→Int→ρ)→EL→Int→Int→Int→ByteArray→EL→EL→ρ) (K:Int→Int→ByteArray→EL→EL→EL→Int→ρ),
  p60_1 fail m s K t.k t.n t.nm (Lv.rows t.ls) (Tm.rows t.args) (E8 b) ((a:Nat):Int) false=K t'.k t'.n t'.nm (Lv.rows t'.ls) (Tm.rows t'.args) (E8 b) ((a':Nat):Int):=by
 obtain⟨v,a1,hv1,hv2,l1,l2,l3,hn⟩:=K4 fail b hb a ha 6 (by omega)
 rcases (by omega:v=0∨v=1∨v=2∨v=3∨v=4∨v=5) with rfl | rfl | rfl | rfl | rfl | rfl
 ·exact⟨pt5,a1,w1g,by omega,by omega,1000,fun m hm s K=>by rw [p60_1,cond_false,hn,J1 (a:=0) (b:=0) rfl,cond_true,k0w fail m (by omega)]⟩
 ·obtain⟨v5,a5,_,_,l5,l6,_,hn5⟩:=K4 fail b hb a1 l2 3 (by omega)
  exact⟨.mk 0 v5 ⟨#[]⟩ [] [],a5,⟨⟨by simp,trivial⟩,by simp,trivial⟩,by omega,by omega,1000,fun m hm s K=>by rw [p60_1,cond_false,hn,D0 (a:=1) (b:=0) (by decide),cond_false,J1 (a:=1) (b:=1) rfl,cond_true,hn5,p65];rfl⟩
 ·obtain⟨l,a5,hl,l5,l6,N,h⟩:=z8d fail b hb _ a1 l2 (Nat.le_refl _) 2
  obtain⟨u,hu,hs⟩:=w0v fail l hl
  exact⟨u,a5,hu,by omega,by omega,N + l.sz + 1000,fun m hm s K=>by rw [p60_1,cond_false,hn,D0 (a:=2) (b:=0) (by decide),cond_false,D0 (a:=2) (b:=1) (by decide),cond_false,J1 (a:=2) (b:=2) rfl,cond_true,h m (by omega),hs m _ (by omega)]⟩
 ·obtain⟨v5,a5,g1,g2,l5,l6,_,hn5⟩:=K4 fail b hb a1 l2 6 (by omega)
  rcases (by omega:v5=0∨v5=1∨v5=2∨v5=3∨v5=4∨v5=5) with rfl | rfl | rfl | rfl | rfl | rfl
  ·obtain⟨u,hu,hc⟩:=S7 fail ⟨#[78,97,116]⟩
   refine⟨u,a5,hu,by omega,by omega,1000,fun m hm s K=>?_⟩
   rw [p60_1,cond_false,hn,D0 (a:=3) (b:=0) (by decide),cond_false,D0 (a:=3) (b:=1) (by decide),cond_false,D0 (a:=3) (b:=2) (by decide),cond_false,J1 (a:=3) (b:=3) rfl,cond_true,hn5,E4 (by decide),E4 (by decide),E4 (by decide),E4 (by decide)]
   exact hc m (fun y54 y55 y56 y57 y58=>K y54 y55 y56 y57 y58 (E8 b) ((a5:Nat):Int)) (by show 3 + 40≤m;omega)
  ·obtain⟨u,hu,hc⟩:=S7 fail ⟨#[110,111,112,101]⟩
   refine⟨u,a5,hu,by omega,by omega,1000,fun m hm s K=>?_⟩
   rw [p60_1,cond_false,hn,D0 (a:=3) (b:=0) (by decide),cond_false,D0 (a:=3) (b:=1) (by decide),cond_false,D0 (a:=3) (b:=2) (by decide),cond_false,J1 (a:=3) (b:=3) rfl,cond_true,hn5,E4 (by decide),E4 (by decide),E4 (by decide),E4 (by decide)]
   exact hc m (fun y54 y55 y56 y57 y58=>K y54 y55 y56 y57 y58 (E8 b) ((a5:Nat):Int)) (by show 4 + 40≤m;omega)
  ·obtain⟨u,hu,hc⟩:=S7 fail ⟨#[69,113]⟩
   refine⟨u,a5,hu,by omega,by omega,1000,fun m hm s K=>?_⟩
   rw [p60_1,cond_false,hn,D0 (a:=3) (b:=0) (by decide),cond_false,D0 (a:=3) (b:=1) (by decide),cond_false,D0 (a:=3) (b:=2) (by decide),cond_false,J1 (a:=3) (b:=3) rfl,cond_true,hn5,E4 (by decide),E4 (by decide),E4 (by decide),E4 (by decide)]
   exact hc m (fun y54 y55 y56 y57 y58=>K y54 y55 y56 y57 y58 (E8 b) ((a5:Nat):Int)) (by show 2 + 40≤m;omega)
  ·obtain⟨u,hu,hc⟩:=S7 fail ⟨#[105,100]⟩
   refine⟨u,a5,hu,by omega,by omega,1000,fun m hm s K=>?_⟩
   rw [p60_1,cond_false,hn,D0 (a:=3) (b:=0) (by decide),cond_false,D0 (a:=3) (b:=1) (by decide),cond_false,D0 (a:=3) (b:=2) (by decide),cond_false,J1 (a:=3) (b:=3) rfl,cond_true,hn5,E4 (by decide),E4 (by decide),E4 (by decide),E4 (by decide)]
   exact hc m (fun y54 y55 y56 y57 y58=>K y54 y55 y56 y57 y58 (E8 b) ((a5:Nat):Int)) (by show 2 + 40≤m;omega)
  ·obtain⟨u,hu,hc⟩:=S7 fail ⟨#[97,100,100]⟩
   refine⟨u,a5,hu,by omega,by omega,1000,fun m hm s K=>?_⟩
   rw [p60_1,cond_false,hn,D0 (a:=3) (b:=0) (by decide),cond_false,D0 (a:=3) (b:=1) (by decide),cond_false,D0 (a:=3) (b:=2) (by decide),cond_false,J1 (a:=3) (b:=3) rfl,cond_true,hn5,E4 (by decide),E4 (by decide),E4 (by decide),E4 (by decide)]
   exact hc m (fun y54 y55 y56 y57 y58=>K y54 y55 y56 y57 y58 (E8 b) ((a5:Nat):Int)) (by show 3 + 40≤m;omega)
  ·obtain⟨u,hu,hc⟩:=S7 fail ⟨#[70,97,108,115,101]⟩
   refine⟨u,a5,hu,by omega,by omega,1000,fun m hm s K=>?_⟩
   rw [p60_1,cond_false,hn,D0 (a:=3) (b:=0) (by decide),cond_false,D0 (a:=3) (b:=1) (by decide),cond_false,D0 (a:=3) (b:=2) (by decide),cond_false,J1 (a:=3) (b:=3) rfl,cond_true,hn5,E4 (by decide),E4 (by decide),E4 (by decide),E4 (by decide)]
   exact hc m (fun y54 y55 y56 y57 y58=>K y54 y55 y56 y57 y58 (E8 b) ((a5:Nat):Int)) (by show 5 + 40≤m;omega)
 ·obtain⟨u,hu,N,h⟩:=k3p fail t t ht ht
  exact⟨u,a1,hu,by omega,by omega,N + 1000,fun m hm s K=>by rw [p60_1,cond_false,hn,D0 (a:=4) (b:=0) (by decide),cond_false,D0 (a:=4) (b:=1) (by decide),cond_false,D0 (a:=4) (b:=2) (by decide),cond_false,D0 (a:=4) (b:=3) (by decide),cond_false,J1 (a:=4) (b:=4) rfl,cond_true,h m (by omega)]⟩
 ·obtain⟨u,hu,N,h⟩:=w7w fail t ht 1 0
  obtain⟨x,hx,M,g⟩:=w3m fail pt0 u L4 hu
  exact⟨x,a1,hx,by omega,by omega,N + M + 1000,fun m hm s K=>by rw [p60_1,cond_false,hn,D0 (a:=5) (b:=0) (by decide),cond_false,D0 (a:=5) (b:=1) (by decide),cond_false,D0 (a:=5) (b:=2) (by decide),cond_false,D0 (a:=5) (b:=3) (by decide),cond_false,D0 (a:=5) (b:=4) (by decide),cond_false,X9 fail m (by omega),h m (by omega),g m (by omega)]⟩
include hb in
theorem w2v:∀ (N:Nat) (t:Tm),t.sz≤N→t.thin→∀ a,a≤b.length→∃ (t':Tm) (a':Nat),t'.thin∧a≤a'∧a'≤b.length∧∃ M:Nat,∀ fu,M≤fu→∀ K:Int→Int→ByteArray→EL→EL→EL→Int→ρ,
  p60 fail fu K (E8 b) ((a:Nat):Int) t.k t.n t.nm (Lv.rows t.ls) (Tm.rows t.args)=K t'.k t'.n t'.nm (Lv.rows t'.ls) (Tm.rows t'.args) (E8 b) ((a':Nat):Int):=by
 intro N
 induction N with
 | zero=>intro t h;cases t;simp [Tm.sz] at h
 | succ N ih =>
  intro t hN ht a ha
  by_cases hl:0 < t.args.length
  ·obtain⟨v,a1,hv1,hv2,l1,l2,l3,hn⟩:=K4 fail b hb a ha 4 (by omega)
   by_cases hv:0 < v
   ·have hal:t.args.length≤1000:=by cases t;exact ht.2.1
    obtain⟨k,a2,k1,k2,l4,l5,_,hk⟩:=K4 fail b hb a1 l2 ((t.args.length:Nat):Int) (by omega)
    obtain⟨k,rfl⟩:∃ j:Nat,k=(j:Nat):=⟨k.toNat,by omega⟩
    have hkl:k < t.args.length:=by omega
    have hmem:=List.getElem_mem hkl
    have hth:Tm.thins t.args:=by cases t;exact ht.2.2
    have hsz:1 + t.args[k].sz≤Tm.szs t.args:=Tm.szs_mem hmem
    have htz:Tm.szs t.args < t.sz:=by cases t;simp only [Tm.sz,Tm.args];omega
    obtain⟨c,⟨hc1,hc2⟩,hc3,hc⟩:=z8q fail t ht
    obtain⟨u,a3,hu,l6,l7,M,h⟩:=ih t.args[k] (by omega) (Tm.thins_iff.1 hth _ hmem) a2 l5
    have hct:(Tm.mk c.k c.n c.nm c.ls (c.args.set k u)).thin:=by
     cases c with
     | mk q1 q2 q3 q4 q5 =>
      refine⟨hc1.1,by rw [List.length_set];exact hc1.2.1,Tm.thins_iff.2 fun z hz=>?_⟩
      rcases List.mem_or_eq_of_mem_set hz with hz | rfl
      ·exact Tm.thins_iff.1 hc1.2.2 z hz
      ·exact hu
    refine⟨.mk c.k c.n c.nm c.ls (c.args.set k u),a3,hct,by omega,by omega,M + t.sz + 1000,fun fu hf K=>?_⟩
    obtain⟨m,rfl⟩:∃ m,fu=m + 1:=⟨fu - 1,by omega⟩
    have e1:(List.getD (Tm.rows c.args) k []).length=5:=by rw [Tm.rows_get (show k < c.args.length by omega),Tm.row_eq];rfl
    rw [p60,p60_b,Tm.rows_len,w5z (by omega),cond_true,hn,w5z hv,p60_1,cond_true,Tm.rows_len,hk,hc m _ (by omega),E4 (by omega),E4 (by (try simp only [Tm.rows_len]);omega),w2r fail t.args k hkl,h m (by omega),E4 (by omega),E4 (by (try simp only [Tm.rows_len]);omega),Int.toNat_natCast,E4 (by (try simp only [Tm.rows_len]);omega),E4 (by rw [e1];omega),
     w6w c.args k (by omega) u,E4 (by (try simp only [Tm.rows_len,List.length_set]);omega),List.take_of_length_le (by (try simp only [Tm.rows_len,List.length_set]);omega)]
    rfl
   ·obtain⟨t',a',h1,h2,h3,M,h⟩:=z4f fail b hb t ht a1 l2
    refine⟨t',a',h1,by omega,h3,M + 1,fun fu hf K=>?_⟩
    obtain⟨m,rfl⟩:∃ m,fu=m + 1:=⟨fu - 1,by omega⟩
    rw [p60,p60_b,Tm.rows_len,w5z (by omega),cond_true,hn,w8b (show v≤0 by omega),h m (by omega)]
  ·obtain⟨t',a',h1,h2,h3,M,h⟩:=z4f fail b hb t ht a ha
   refine⟨t',a',h1,by omega,h3,M + 1,fun fu hf K=>?_⟩
   obtain⟨m,rfl⟩:∃ m,fu=m + 1:=⟨fu - 1,by omega⟩
   rw [p60,p60_b,Tm.rows_len,w8b (by omega),cond_false,h m (by omega)]
include hb in
theorem J9 (t:Tm) (ht:t.thin) (a:Nat) (ha:a≤b.length):∃ (t':Tm) (a':Nat),t'.thin∧a≤a'∧a'≤b.length∧∃ M:Nat,∀ m,M≤m→∀ (K:Int→Int→ByteArray→EL→EL→EL→Int→ρ),
  p22_1 fail m K (E8 b) ((a:Nat):Int) t.k t.n t.nm (Lv.rows t.ls) (Tm.rows t.args)=K t'.k t'.n t'.nm (Lv.rows t'.ls) (Tm.rows t'.args) (E8 b) ((a':Nat):Int):=by
 obtain⟨v,a1,hv1,hv2,l1,l2,l3,hn⟩:=K4 fail b hb a ha 5 (by omega)
 by_cases h4:v=4
 ·obtain⟨t',a',h1,h2,h3,M,h⟩:=w2v fail b hb _ t (Nat.le_refl _) ht a1 l2
  exact⟨t',a',h1,by omega,h3,M,fun m hm K=>by rw [p22_1,hn,J1 h4,cond_true,h m hm]⟩
 ·exact⟨t,a1,ht,by omega,by omega,0,fun m hm K=>by rw [p22_1,hn,D0 h4,cond_false]⟩
include hb in
theorem k0p (a:Nat) (ha:a≤b.length):∃ (t:Tm) (a':Nat),t.thin∧a≤a'∧a'≤b.length∧∃ M:Nat,∀ m,M≤m→∀ (K:Int→Int→ByteArray→EL→EL→EL→Int→ρ),p22 fail m K (E8 b) ((a:Nat):Int)=K t.k t.n t.nm (Lv.rows t.ls) (Tm.rows t.args) (E8 b) ((a':Nat):Int):=by
 obtain⟨v,a1,hv1,hv2,l1,l2,l3,hn⟩:=K4 fail b hb a ha 6 (by omega)
 rcases (by omega:v=0∨v=1∨v=2∨v=3∨v=4∨v=5) with rfl | rfl | rfl | rfl | rfl | rfl
 ·obtain⟨t,a2,ht,l4,l5,N,h⟩:=U3 fail b hb a1 l2 0
  obtain⟨r,a3,hr,l6,l7,M,g⟩:=J9 fail b hb t ht a2 l5
  exact⟨r,a3,hr,by omega,l7,N + M + 1000,fun m hm K=>by rw [p22,hn,J1 (a:=0) (b:=0) rfl,cond_true,h m (by omega),g m (by omega)]⟩
 ·obtain⟨t,a2,ht,l4,l5,N,h⟩:=w9w fail b hb a1 l2 0
  obtain⟨r,a3,hr,l6,l7,M,g⟩:=J9 fail b hb t ht a2 l5
  exact⟨r,a3,hr,by omega,l7,N + M + 1000,fun m hm K=>by rw [p22,hn,D0 (a:=1) (b:=0) (by decide),cond_false,J1 (a:=1) (b:=1) rfl,cond_true,h m (by omega),p22_2,g m (by omega)]⟩
 ·obtain⟨t,a2,ht,l4,l5,N,h⟩:=z5v fail b hb _ a1 l2 (Nat.le_refl _) 0
  obtain⟨r,a3,hr,l6,l7,M,g⟩:=J9 fail b hb t ht a2 l5
  exact⟨r,a3,hr,by omega,l7,N + M + 1000,fun m hm K=>by rw [p22,hn,D0 (a:=2) (b:=0) (by decide),cond_false,D0 (a:=2) (b:=1) (by decide),cond_false,J1 (a:=2) (b:=2) rfl,cond_true,h m (by omega),p22_3,p22_2,g m (by omega)]⟩
 ·obtain⟨t,u,a2,ht,hu,l4,l5,N,h⟩:=z3o fail b hb _ a1 l2 (Nat.le_refl _) 0
  obtain⟨r,a3,hr,l6,l7,M,g⟩:=J9 fail b hb t ht a2 l5
  exact⟨r,a3,hr,by omega,l7,N + M + 1000,fun m hm K=>by rw [p22,hn,D0 (a:=3) (b:=0) (by decide),cond_false,D0 (a:=3) (b:=1) (by decide),cond_false,D0 (a:=3) (b:=2) (by decide),cond_false,J1 (a:=3) (b:=3) rfl,cond_true,h m (by omega),p22_4,p22_3,p22_2,g m (by omega)]⟩
 ·obtain⟨t,u,a2,ht,hu,l4,l5,N,h⟩:=z3o fail b hb _ a1 l2 (Nat.le_refl _) 0
  obtain⟨r,a3,hr,l6,l7,M,g⟩:=J9 fail b hb u hu a2 l5
  exact⟨r,a3,hr,by omega,l7,N + M + 1000,fun m hm K=>by rw [p22,hn,D0 (a:=4) (b:=0) (by decide),cond_false,D0 (a:=4) (b:=1) (by decide),cond_false,D0 (a:=4) (b:=2) (by decide),cond_false,D0 (a:=4) (b:=3) (by decide),cond_false,J1 (a:=4) (b:=4) rfl,cond_true,h m (by omega),p22_5,p22_4,p22_3,p22_2,g m (by omega)]⟩
 ·obtain⟨v5,a5,g1,g2,l5,l6,_,hn5⟩:=K4 fail b hb a1 l2 10 (by omega)
  rcases (by omega:v5=0∨v5=1∨v5=2∨v5=3∨v5=4∨v5=5∨v5=6∨v5=7∨v5=8∨v5=9) with rfl | rfl | rfl | rfl | rfl | rfl | rfl | rfl | rfl | rfl
  ·obtain⟨r,a3,hr,l6,l7,M,g⟩:=J9 fail b hb pt12 z7v a5 l6
   refine⟨r,a3,hr,by omega,l7,M + 1000,fun m hm K=>?_⟩
   rw [p22,hn,D0 (a:=5) (b:=0) (by decide),cond_false,D0 (a:=5) (b:=1) (by decide),cond_false,D0 (a:=5) (b:=2) (by decide),cond_false,D0 (a:=5) (b:=3) (by decide),cond_false,D0 (a:=5) (b:=4) (by decide),cond_false,hn5,E4 (by decide),E4 (by decide),E4 (by decide),E4 (by decide)]
   refine (w7o fail m (by omega) (fun y98 y99 y100 y101 y102=>p22_5 fail m K (E8 b) ((a5:Nat):Int) y98 y99 y100 y101 y102)).trans ?_
   rw [p22_5,p22_4,p22_3,p22_2,g m (by omega)]
  ·obtain⟨r,a3,hr,l6,l7,M,g⟩:=J9 fail b hb pt18 w5o a5 l6
   refine⟨r,a3,hr,by omega,l7,M + 1000,fun m hm K=>?_⟩
   rw [p22,hn,D0 (a:=5) (b:=0) (by decide),cond_false,D0 (a:=5) (b:=1) (by decide),cond_false,D0 (a:=5) (b:=2) (by decide),cond_false,D0 (a:=5) (b:=3) (by decide),cond_false,D0 (a:=5) (b:=4) (by decide),cond_false,hn5,E4 (by decide),E4 (by decide),E4 (by decide),E4 (by decide)]
   refine (k2o fail m (by omega) (fun y98 y99 y100 y101 y102=>p22_5 fail m K (E8 b) ((a5:Nat):Int) y98 y99 y100 y101 y102)).trans ?_
   rw [p22_5,p22_4,p22_3,p22_2,g m (by omega)]
  ·obtain⟨r,a3,hr,l6,l7,M,g⟩:=J9 fail b hb pt19 w5n a5 l6
   refine⟨r,a3,hr,by omega,l7,M + 1000,fun m hm K=>?_⟩
   rw [p22,hn,D0 (a:=5) (b:=0) (by decide),cond_false,D0 (a:=5) (b:=1) (by decide),cond_false,D0 (a:=5) (b:=2) (by decide),cond_false,D0 (a:=5) (b:=3) (by decide),cond_false,D0 (a:=5) (b:=4) (by decide),cond_false,hn5,E4 (by decide),E4 (by decide),E4 (by decide),E4 (by decide)]
   refine (k2m fail m (by omega) (fun y98 y99 y100 y101 y102=>p22_5 fail m K (E8 b) ((a5:Nat):Int) y98 y99 y100 y101 y102)).trans ?_
   rw [p22_5,p22_4,p22_3,p22_2,g m (by omega)]
  ·obtain⟨r,a3,hr,l6,l7,M,g⟩:=J9 fail b hb pt20 w5m a5 l6
   refine⟨r,a3,hr,by omega,l7,M + 1000,fun m hm K=>?_⟩
   rw [p22,hn,D0 (a:=5) (b:=0) (by decide),cond_false,D0 (a:=5) (b:=1) (by decide),cond_false,D0 (a:=5) (b:=2) (by decide),cond_false,D0 (a:=5) (b:=3) (by decide),cond_false,D0 (a:=5) (b:=4) (by decide),cond_false,hn5,E4 (by decide),E4 (by decide),E4 (by decide),E4 (by decide)]
   refine (k2k fail m (by omega) (fun y98 y99 y100 y101 y102=>p22_5 fail m K (E8 b) ((a5:Nat):Int) y98 y99 y100 y101 y102)).trans ?_
   rw [p22_5,p22_4,p22_3,p22_2,g m (by omega)]
  ·obtain⟨r,a3,hr,l6,l7,M,g⟩:=J9 fail b hb pt21 w5l a5 l6
   refine⟨r,a3,hr,by omega,l7,M + 1000,fun m hm K=>?_⟩
   rw [p22,hn,D0 (a:=5) (b:=0) (by decide),cond_false,D0 (a:=5) (b:=1) (by decide),cond_false,D0 (a:=5) (b:=2) (by decide),cond_false,D0 (a:=5) (b:=3) (by decide),cond_false,D0 (a:=5) (b:=4) (by decide),cond_false,hn5,E4 (by decide),E4 (by decide),E4 (by decide),E4 (by decide)]
   refine (k2i fail m (by omega) (fun y98 y99 y100 y101 y102=>p22_5 fail m K (E8 b) ((a5:Nat):Int) y98 y99 y100 y101 y102)).trans ?_
   rw [p22_5,p22_4,p22_3,p22_2,g m (by omega)]
  ·obtain⟨r,a3,hr,l6,l7,M,g⟩:=J9 fail b hb pt22 w5k a5 l6
   refine⟨r,a3,hr,by omega,l7,M + 1000,fun m hm K=>?_⟩
   rw [p22,hn,D0 (a:=5) (b:=0) (by decide),cond_false,D0 (a:=5) (b:=1) (by decide),cond_false,D0 (a:=5) (b:=2) (by decide),cond_false,D0 (a:=5) (b:=3) (by decide),cond_false,D0 (a:=5) (b:=4) (by decide),cond_false,hn5,E4 (by decide),E4 (by decide),E4 (by decide),E4 (by decide)]
   refine (k2g fail m (by omega) (fun y98 y99 y100 y101 y102=>p22_5 fail m K (E8 b) ((a5:Nat):Int) y98 y99 y100 y101 y102)).trans ?_
   rw [p22_5,p22_4,p22_3,p22_2,g m (by omega)]
  ·obtain⟨r,a3,hr,l6,l7,M,g⟩:=J9 fail b hb pt23 w5j a5 l6
   refine⟨r,a3,hr,by omega,l7,M + 1000,fun m hm K=>?_⟩
   rw [p22,hn,D0 (a:=5) (b:=0) (by decide),cond_false,D0 (a:=5) (b:=1) (by decide),cond_false,D0 (a:=5) (b:=2) (by decide),cond_false,D0 (a:=5) (b:=3) (by decide),cond_false,D0 (a:=5) (b:=4) (by decide),cond_false,hn5,E4 (by decide),E4 (by decide),E4 (by decide),E4 (by decide)]
   refine (k2e fail m (by omega) (fun y98 y99 y100 y101 y102=>p22_5 fail m K (E8 b) ((a5:Nat):Int) y98 y99 y100 y101 y102)).trans ?_
   rw [p22_5,p22_4,p22_3,p22_2,g m (by omega)]
  ·obtain⟨r,a3,hr,l6,l7,M,g⟩:=J9 fail b hb pt24 w5i a5 l6
   refine⟨r,a3,hr,by omega,l7,M + 1000,fun m hm K=>?_⟩
   rw [p22,hn,D0 (a:=5) (b:=0) (by decide),cond_false,D0 (a:=5) (b:=1) (by decide),cond_false,D0 (a:=5) (b:=2) (by decide),cond_false,D0 (a:=5) (b:=3) (by decide),cond_false,D0 (a:=5) (b:=4) (by decide),cond_false,hn5,E4 (by decide),E4 (by decide),E4 (by decide),E4 (by decide)]
   refine (k2c fail m (by omega) (fun y98 y99 y100 y101 y102=>p22_5 fail m K (E8 b) ((a5:Nat):Int) y98 y99 y100 y101 y102)).trans ?_
   rw [p22_5,p22_4,p22_3,p22_2,g m (by omega)]
  ·obtain⟨r,a3,hr,l6,l7,M,g⟩:=J9 fail b hb pt25 w5h a5 l6
   refine⟨r,a3,hr,by omega,l7,M + 1000,fun m hm K=>?_⟩
   rw [p22,hn,D0 (a:=5) (b:=0) (by decide),cond_false,D0 (a:=5) (b:=1) (by decide),cond_false,D0 (a:=5) (b:=2) (by decide),cond_false,D0 (a:=5) (b:=3) (by decide),cond_false,D0 (a:=5) (b:=4) (by decide),cond_false,hn5,E4 (by decide),E4 (by decide),E4 (by decide),E4 (by decide)]
   refine (k2a fail m (by omega) (fun y98 y99 y100 y101 y102=>p22_5 fail m K (E8 b) ((a5:Nat):Int) y98 y99 y100 y101 y102)).trans ?_
   rw [p22_5,p22_4,p22_3,p22_2,g m (by omega)]
  ·obtain⟨r,a3,hr,l6,l7,M,g⟩:=J9 fail b hb pt26 w5g a5 l6
   refine⟨r,a3,hr,by omega,l7,M + 1000,fun m hm K=>?_⟩
   rw [p22,hn,D0 (a:=5) (b:=0) (by decide),cond_false,D0 (a:=5) (b:=1) (by decide),cond_false,D0 (a:=5) (b:=2) (by decide),cond_false,D0 (a:=5) (b:=3) (by decide),cond_false,D0 (a:=5) (b:=4) (by decide),cond_false,hn5,E4 (by decide),E4 (by decide),E4 (by decide),E4 (by decide)]
   refine (k1y fail m (by omega) (fun y98 y99 y100 y101 y102=>p22_5 fail m K (E8 b) ((a5:Nat):Int) y98 y99 y100 y101 y102)).trans ?_
   rw [p22_5,p22_4,p22_3,p22_2,g m (by omega)]
end
section
variable {ρ κ κ1 ι:Type}
def Ev (lo:ι→Nat) (S:(κ→ρ)→Prop) (run:ι→κ→ρ):Prop:=∃ v,S v∧∃ N,∀ i,N≤lo i→∀ K,run i K=v K
def n1:Nat→Nat:=id
def n2 (i:Nat × Nat):Nat:=min i.1 i.2
theorem Ev.val {lo:ι→Nat} {S:(κ→ρ)→Prop} (v:κ→ρ) (h:S v):Ev lo S (fun _ K=>v K):=⟨v,h,0,fun _ _ _=>rfl⟩
theorem Ev.bind {lo:ι→Nat} {S1:(κ1→ρ)→Prop} {S:(κ→ρ)→Prop} {p:ι→κ1→ρ} {k:ι→κ→κ1} (h:Ev lo S1 p) (h2:∀ v,S1 v→Ev lo S (fun i K=>v (k i K))):Ev lo S (fun i K=>p i (k i K)):=by
 obtain⟨v,hv,N,hN⟩:=h
 obtain⟨w,hw,M,hM⟩:=h2 v hv
 refine⟨w,hw,N + M,fun i hi K=>?_⟩
 show p i (k i K)=w K
 rw [hN i (by omega)];exact hM i (by omega) K
theorem Ev.ite {lo:ι→Nat} {S:(κ→ρ)→Prop} {b:Bool} {r1 r2:ι→κ→ρ} (h1:b=true→Ev lo S r1) (h2:b=false→Ev lo S r2):Ev lo S (fun i K=>bif b then r1 i K else r2 i K):=by
 cases b with
 | true=>exact h1 rfl
 | false=>exact h2 rfl
theorem Ev.gd {lo:ι→Nat} {S:(κ→ρ)→Prop} {c:Prop} [Decidable c] {fail:ρ} {r:ι→κ→ρ} (hc:c) (h:Ev lo S r):Ev lo S (fun i K=>V.gd c fail (r i K)):=by
 obtain⟨v,hv,N,hN⟩:=h
 refine⟨v,hv,N,fun i hi K=>?_⟩
 show V.gd c fail (r i K)=v K
 rw [E4 hc,hN i hi]
theorem Ev.mono {lo:ι→Nat} {S S':(κ→ρ)→Prop} {r:ι→κ→ρ} (h:Ev lo S r) (hs:∀ v,S v→S' v):Ev lo S' r:=by
 obtain⟨v,hv,hN⟩:=h
 exact⟨v,hs v hv,hN⟩
theorem Ev.fst {S:(κ→ρ)→Prop} {r:Nat→κ→ρ} (h:Ev n1 S r):Ev n2 S (fun i K=>r i.1 K):=by
 obtain⟨v,hv,N,hN⟩:=h
 exact⟨v,hv,N,fun i hi K=>hN i.1 (by simp only [n1,n2,id] at *;omega) K⟩
theorem Ev.diag {S:(κ→ρ)→Prop} {r:Nat × Nat→κ→ρ} (h:Ev n2 S r):Ev n1 S (fun i K=>r (i,i) K):=by
 obtain⟨v,hv,N,hN⟩:=h
 exact⟨v,hv,N,fun i hi K=>hN (i,i) (by simp only [n1,n2,id] at *;omega) K⟩
theorem Ev.step {S:(κ→ρ)→Prop} {f body:Nat→κ→ρ} (hf:∀ n K,f (n + 1) K=body n K) (h:Ev n1 S body):Ev n1 S f:=by
 obtain⟨v,hv,N,hN⟩:=h
 refine⟨v,hv,N + 1,fun i hi K=>?_⟩
 cases i with
 | zero=>exact absurd hi (by simp [n1])
 | succ n=>rw [hf,hN n (by simp only [n1,id] at *;omega)]
theorem Ev.loop {S:(κ→ρ)→Prop} {f body:Nat × Nat→κ→ρ} (hf:∀ m n K,f (m,n + 1) K=body (m,n) K) (h:Ev n2 S body):Ev n2 S f:=by
 obtain⟨v,hv,N,hN⟩:=h
 refine⟨v,hv,N + 1,fun i hi K=>?_⟩
 obtain⟨m,n⟩:=i
 cases n with
 | zero=>exact absurd hi (by simp [n2])
 | succ n=>rw [hf,hN (m,n) (by simp only [n2] at *;omega)]
end
section
variable {ρ:Type} (fail:ρ) (s:ByteArray) (hs:s.size≤900)
theorem L7 {a:Nat} (h:a≤1000000):B8 .add .i64 ((a:Nat):Int) 1=((a + 1:Nat):Int):=by rw [z7e (by omega) (by omega)];omega
theorem J5 {a b:Int} (h:B0 .lss a b=true):a < b:=by simpa [B0] using h
theorem z2w {a b:Int} (h:B0 .lss a b=false):b≤a:=by simpa [B0] using h
theorem z1o {a b:Int} (h:B0 .geq a b=false):a < b:=by simpa [B0] using h
theorem z2v {a b:Int} (h:B0 .neq a b=false):a=b:=by simpa [B0] using h
theorem Z6:nilE=Lv.rows []:=by rw [Lv.rows]
theorem w6x:nilE=Tm.rows []:=by rw [Tm.rows]
def StS (a:Nat) (v:(ByteArray→Int→Int→Int→Int→Int→ρ)→ρ):Prop:=∃ (a':Nat) (x2 x3 x4 x5:Int),a≤a'∧a'≤s.size∧v=fun K=>K s ((a':Nat):Int) x2 x3 x4 x5
def FlS (a:Nat) (v:(ByteArray→Int→Int→Int→Int→Int→ρ)→ρ):Prop:=∃ (x2 x3 x4 x5:Int),v=fun K=>K s ((a:Nat):Int) x2 x3 x4 x5
def PkS (a:Nat) (v:(Int→ByteArray→Int→Int→Int→Int→Int→ρ)→ρ):Prop:=∃ (c:Int) (a':Nat) (x2 x3 x4 x5:Int),a≤a'∧a'≤s.size∧(c≠0→a' < s.size)∧v=fun K=>K c s ((a':Nat):Int) x2 x3 x4 x5
def NmS (a:Nat) (v:(Int→ByteArray→Int→Int→Int→Int→Int→ρ)→ρ):Prop:=∃ (c:Int) (a':Nat) (x2 x3 x4 x5:Int),a≤a'∧a'≤s.size∧v=fun K=>K c s ((a':Nat):Int) x2 x3 x4 x5
def BoS (v:(Bool→ρ)→ρ):Prop:=∃ b,v=fun K=>K b
def LvS (a:Nat) (v:(Int→Int→EL→ByteArray→Int→Int→Int→Int→Int→ρ)→ρ):Prop:=∃ (l:Lv) (a':Nat) (x2 x3 x4 x5:Int),l.thin∧a≤a'∧a'≤s.size∧v=fun K=>K l.k l.n (Lv.rows l.args) s ((a':Nat):Int) x2 x3 x4 x5
def TmS (a:Nat) (v:(Int→Int→ByteArray→EL→EL→ByteArray→Int→Int→Int→Int→Int→ρ)→ρ):Prop:=∃ (t:Tm) (a':Nat) (x2 x3 x4 x5:Int),t.thin∧a≤a'∧a'≤s.size∧v=fun K=>K t.k t.n t.nm (Lv.rows t.ls) (Tm.rows t.args) s ((a':Nat):Int) x2 x3 x4 x5
theorem StS.le {a b:Nat} (h:a≤b) {v:(ByteArray→Int→Int→Int→Int→Int→ρ)→ρ}:StS s b v→StS s a v:=fun ⟨a',y2,y3,y4,y5,h1,h2,h3⟩=>⟨a',y2,y3,y4,y5,by omega,h2,h3⟩
theorem NmS.le {a b:Nat} (h:a≤b) {v:(Int→ByteArray→Int→Int→Int→Int→Int→ρ)→ρ}:NmS s b v→NmS s a v:=fun ⟨c,a',y2,y3,y4,y5,h1,h2,h3⟩=>⟨c,a',y2,y3,y4,y5,by omega,h2,h3⟩
theorem TmS.le {a b:Nat} (h:a≤b) {v:(Int→Int→ByteArray→EL→EL→ByteArray→Int→Int→Int→Int→Int→ρ)→ρ}:TmS s b v→TmS s a v:=fun ⟨c,a',y2,y3,y4,y5,h0,h1,h2,h3⟩=>⟨c,a',y2,y3,y4,y5,h0,by omega,h2,h3⟩
theorem z8p (x:Int):Ev n1 (BoS (ρ:=ρ)) (fun fu K=>p127 fail fu K x):=by
 unfold p127 p127_1
 exact Ev.ite (fun _=>Ev.ite (fun _=>Ev.val _ ⟨_,rfl⟩) (fun _=>Ev.ite (fun _=>Ev.val _ ⟨_,rfl⟩) (fun _=>Ev.val _ ⟨_,rfl⟩))) (fun _=>Ev.ite (fun _=>Ev.val _ ⟨_,rfl⟩) (fun _=>Ev.val _ ⟨_,rfl⟩))
theorem w4n (x:Int):Ev n1 (BoS (ρ:=ρ)) (fun fu K=>p141 fail fu K x):=by
 unfold p141 p141_1
 exact Ev.ite (fun _=>Ev.val _ ⟨_,rfl⟩) (fun _=>Ev.val _ ⟨_,rfl⟩)
theorem U1 (a:Nat) (x2 x3 x4 x5 x6 x7:Int):Ev n1 (FlS (ρ:=ρ) s a) (fun fu K=>p128 fail fu K s ((a:Nat):Int) x2 x3 x4 x5 x6 x7):=by
 unfold p128 p128_1
 exact Ev.ite (fun _=>Ev.val _ ⟨_,_,_,_,rfl⟩) (fun _=>Ev.val _ ⟨_,_,_,_,rfl⟩)
include hs
theorem w9m:∀ (r a:Nat),a≤s.size→s.size - a≤r→∀ x2 x3 x4 x5:Int,Ev n2 (StS (ρ:=ρ) s a) (fun i K=>p133_2L fail i.1 K s x2 x3 x4 x5 i.2 ((a:Nat):Int)):=by
 intro r
 induction r with
 | zero =>
  intro a ha hr x2 x3 x4 x5
  refine Ev.loop (body:=fun i K=>p133_2 fail i.1 K (p133_2L fail i.1 K s x2 x3 x4 x5 i.2) s x2 x3 x4 x5 ((a:Nat):Int)) (fun _ _ _=>rfl) ?_
  unfold p133_2 p133_1
  exact Ev.ite (fun h=>absurd (J5 h) (by omega)) (fun _=>Ev.val _ ⟨a,x2,x3,x4,x5,by omega,by omega,rfl⟩)
 | succ r ih =>
  intro a ha hr x2 x3 x4 x5
  refine Ev.loop (body:=fun i K=>p133_2 fail i.1 K (p133_2L fail i.1 K s x2 x3 x4 x5 i.2) s x2 x3 x4 x5 ((a:Nat):Int)) (fun _ _ _=>rfl) ?_
  unfold p133_2 p133_1
  refine Ev.ite (fun h=>?_) (fun _=>Ev.val _ ⟨a,x2,x3,x4,x5,by omega,by omega,rfl⟩)
  have h':=J5 h
  have hrec:Ev n2 (StS (ρ:=ρ) s a) (fun i K=>p133_2L fail i.1 K s x2 x3 x4 x5 i.2 (B8 .add .i64 ((a:Nat):Int) 1)):=by
   rw [L7 (by omega)]
   exact (ih (a + 1) (by omega) (by omega) x2 x3 x4 x5).mono (fun v=>StS.le s (by omega))
  exact Ev.gd (by omega) (Ev.gd h' (Ev.ite (fun _=>hrec) (fun _=>Ev.gd (by omega) (Ev.gd h' (Ev.ite (fun _=>hrec) (fun _=>Ev.val _ ⟨a,x2,x3,x4,x5,by omega,by omega,rfl⟩))))))
theorem k1c (a:Nat) (ha:a≤s.size) (x2 x3 x4 x5:Int):Ev n1 (StS (ρ:=ρ) s a) (fun fu K=>p133 fail fu K s ((a:Nat):Int) x2 x3 x4 x5) :=
 Ev.diag (w9m fail s hs _ a ha (Nat.le_refl _) x2 x3 x4 x5)
theorem z6o (a:Nat) (ha:a≤s.size) (x2 x3 x4 x5:Int):Ev n1 (PkS (ρ:=ρ) s a) (fun fu K=>p126 fail fu K s ((a:Nat):Int) x2 x3 x4 x5):=by
 unfold p126 p126_1
 refine Ev.bind (k1c fail s hs a ha x2 x3 x4 x5) ?_
 rintro _ ⟨a',y2,y3,y4,y5,h1,h2,rfl⟩
 refine Ev.ite (fun _=>Ev.ite (fun _=>Ev.val _ ⟨0,a',_,_,_,_,h1,h2,fun h=>absurd rfl h,rfl⟩) (fun h=>nomatch h)) (fun _=>?_)
 refine Ev.ite (fun _=>Ev.val _ ⟨0,a',_,_,_,_,h1,h2,fun h=>absurd rfl h,rfl⟩) (fun h=>?_)
 have h':=z1o h
 exact Ev.gd (by omega) (Ev.gd h' (Ev.val _ ⟨_,a',_,_,_,_,h1,h2,fun _=>by omega,rfl⟩))
theorem w1y (a:Nat) (ha:a≤s.size) (x2 x3 x4 x5 x6:Int):Ev n1 (StS (ρ:=ρ) s a) (fun fu K=>p132 fail fu K s ((a:Nat):Int) x2 x3 x4 x5 x6):=by
 unfold p132 p132_1
 refine Ev.bind (z6o fail s hs a ha x2 x3 x4 x5) ?_
 rintro _ ⟨c,a',y2,y3,y4,y5,h1,h2,h3,rfl⟩
 have hF:Ev n1 (StS (ρ:=ρ) s a) (fun fu K=>p128 fail fu (fun y8 y9 y10 y11 y12 y13=>K y8 y9 y10 y11 y12 y13) s ((a':Nat):Int) y2 y3 y4 y5 5 (if ((s.size:Nat):Int) < ((a':Nat):Int) then ((s.size:Nat):Int) else ((a':Nat):Int))):=by
  refine Ev.bind (U1 fail s a' y2 y3 y4 y5 _ _) ?_
  rintro _ ⟨z2,z3,z4,z5,rfl⟩
  exact Ev.val _ ⟨a',z2,z3,z4,z5,h1,h2,rfl⟩
 refine Ev.ite (fun _=>Ev.ite (fun _=>hF) (fun h=>nomatch h)) (fun _=>Ev.ite (fun _=>hF) (fun h=>?_))
 have h':=z1o h
 rw [L7 (by omega)]
 exact Ev.val _ ⟨a' + 1,_,_,_,_,by omega,by omega,rfl⟩
theorem k1b (a:Nat) (ha:a≤s.size) (x2 x3 x4 x5:Int):Ev n1 (StS (ρ:=ρ) s a) (fun fu K=>p142 fail fu K s ((a:Nat):Int) x2 x3 x4 x5):=by
 have _:=hs
 have h2:∀ b,Ev n1 (StS (ρ:=ρ) s a) (fun fu K=>p142_2 fail fu K s ((a:Nat):Int) x2 x3 x4 x5 b):=by
  intro b
  unfold p142_2 p142_1
  refine Ev.ite (fun _=>?_) (fun _=>Ev.val _ ⟨a,_,_,_,_,by omega,ha,rfl⟩)
  refine Ev.bind (U1 fail s a x2 x3 x4 x5 _ _) ?_
  rintro _ ⟨z2,z3,z4,z5,rfl⟩
  exact Ev.val _ ⟨a,z2,z3,z4,z5,by omega,ha,rfl⟩
 unfold p142
 refine Ev.ite (fun h=>?_) (fun _=>h2 _)
 have h':=J5 h
 refine Ev.gd (by omega) (Ev.gd h' (Ev.bind (z8p fail _) ?_))
 rintro _ ⟨b,rfl⟩
 refine Ev.ite (fun _=>h2 _) (fun _=>Ev.gd (by omega) (Ev.gd h' (Ev.bind (w4n fail _) ?_)))
 rintro _ ⟨b,rfl⟩
 exact h2 _
omit hs in
theorem w9l (hs:s.size≤900):∀ (r z:Nat),z≤s.size→s.size - z≤r→Ev n2 (fun v:(Int→ρ)→ρ=>∃ n:Nat,n≤s.size∧v=fun K=>K ((n:Nat):Int)) (fun i K=>p140_4L fail i.1 K s i.2 ((z:Nat):Int)):=by
 intro r
 induction r with
 | zero =>
  intro z hz hr
  refine Ev.loop (body:=fun i K=>p140_4 fail i.1 K (p140_4L fail i.1 K s i.2) s ((z:Nat):Int)) (fun _ _ _=>rfl) ?_
  unfold p140_4
  exact Ev.ite (fun h=>absurd (J5 h) (by omega)) (fun _=>Ev.val _ ⟨z,hz,rfl⟩)
 | succ r ih =>
  intro z hz hr
  refine Ev.loop (body:=fun i K=>p140_4 fail i.1 K (p140_4L fail i.1 K s i.2) s ((z:Nat):Int)) (fun _ _ _=>rfl) ?_
  unfold p140_4
  refine Ev.ite (fun h=>?_) (fun _=>Ev.val _ ⟨z,hz,rfl⟩)
  have h':=J5 h
  have hrec:Ev n2 (fun v:(Int→ρ)→ρ=>∃ n:Nat,n≤s.size∧v=fun K=>K ((n:Nat):Int)) (fun i K=>p140_4L fail i.1 K s i.2 (B8 .add .i64 ((z:Nat):Int) 1)):=by
   rw [L7 (by omega)]
   exact ih (z + 1) (by omega) (by omega)
  have h2:∀ b,Ev n2 (fun v:(Int→ρ)→ρ=>∃ n:Nat,n≤s.size∧v=fun K=>K ((n:Nat):Int)) (fun i K=>p140_2 fail i.1 K (p140_4L fail i.1 K s i.2) ((z:Nat):Int) b):=by
   intro b
   unfold p140_2 p140_1
   exact Ev.ite (fun _=>hrec) (fun _=>Ev.val _ ⟨z,hz,rfl⟩)
  have h3:∀ b,Ev n2 (fun v:(Int→ρ)→ρ=>∃ n:Nat,n≤s.size∧v=fun K=>K ((n:Nat):Int)) (fun i K=>p140_3 fail i.1 K (p140_4L fail i.1 K s i.2) s ((z:Nat):Int) b):=by
   intro b
   unfold p140_3 p140_1
   refine Ev.ite (fun _=>hrec) (fun _=>Ev.gd (by omega) (Ev.gd h' (Ev.ite (fun _=>Ev.ite (fun hl=>?_) (fun _=>h2 _)) (fun _=>h2 _))))
   have hl':=J5 hl
   refine Ev.gd (by rw [L7 (by omega)];omega) (Ev.gd hl' (Ev.bind (Ev.fst (z8p fail _)) ?_))
   rintro _ ⟨b,rfl⟩
   exact h2 _
  refine Ev.gd (by omega) (Ev.gd h' (Ev.bind (Ev.fst (z8p fail _)) ?_))
  rintro _ ⟨b,rfl⟩
  refine Ev.ite (fun _=>h3 _) (fun _=>Ev.gd (by omega) (Ev.gd h' (Ev.bind (Ev.fst (w4n fail _)) ?_)))
  rintro _ ⟨b,rfl⟩
  exact Ev.ite (fun _=>h3 _) (fun _=>Ev.gd (by omega) (Ev.gd h' (h3 _)))
theorem k4y:Ev n1 (fun v:(Int→ρ)→ρ=>∃ n:Nat,n≤s.size∧v=fun K=>K ((n:Nat):Int)) (fun fu K=>p140 fail fu K s):=by
 have h5:∀ b,(b=false→1≤s.size)→Ev n1 (fun v:(Int→ρ)→ρ=>∃ n:Nat,n≤s.size∧v=fun K=>K ((n:Nat):Int)) (fun fu K=>p140_5 fail fu K s b):=by
  intro b hb
  unfold p140_5
  exact Ev.ite (fun _=>Ev.val _ ⟨0,by omega,rfl⟩) (fun h=>Ev.diag (w9l fail s hs _ 1 (hb h) (Nat.le_refl _)))
 unfold p140
 refine Ev.ite (fun _=>h5 _ (fun h=>nomatch h)) (fun h=>?_)
 have hn:1≤s.size:=by
  have:((s.size:Nat):Int)≠0:=by simpa [B0] using h
  omega
 refine Ev.gd (by omega) (Ev.gd (by omega) (Ev.bind (z8p fail _) ?_))
 rintro _ ⟨b,rfl⟩
 exact h5 _ (fun _=>hn)
theorem w1m (z:Nat) (hz:z≤s.size):∀ (r q:Nat),q≤z→z - q≤r→∀ w x2 x3 x4 x5:Int,Ev n2 (NmS (ρ:=ρ) s z) (fun i K=>p130_2L fail i.1 K s x2 x3 x4 x5 ((z:Nat):Int) i.2 w ((q:Nat):Int)):=by
 intro r
 induction r with
 | zero =>
  intro q hq hr w x2 x3 x4 x5
  refine Ev.loop (body:=fun i K=>p130_2 fail i.1 K (p130_2L fail i.1 K s x2 x3 x4 x5 ((z:Nat):Int) i.2) s x2 x3 x4 x5 ((z:Nat):Int) w ((q:Nat):Int)) (fun _ _ _=>rfl) ?_
  unfold p130_2
  refine Ev.ite (fun h=>absurd (J5 h) (by omega)) (fun _=>?_)
  refine Ev.bind (Ev.fst (k1b fail s hs z hz x2 x3 x4 x5)) ?_
  rintro _ ⟨a',z2,z3,z4,z5,h1,h2,rfl⟩
  exact Ev.val _ ⟨_,a',_,_,_,_,h1,h2,rfl⟩
 | succ r ih =>
  intro q hq hr w x2 x3 x4 x5
  refine Ev.loop (body:=fun i K=>p130_2 fail i.1 K (p130_2L fail i.1 K s x2 x3 x4 x5 ((z:Nat):Int) i.2) s x2 x3 x4 x5 ((z:Nat):Int) w ((q:Nat):Int)) (fun _ _ _=>rfl) ?_
  unfold p130_2
  refine Ev.ite (fun h=>?_) (fun _=>?_)
  ·have h':=J5 h
   refine Ev.gd (by omega) (Ev.gd (by omega) ?_)
   rw [L7 (a:=q) (by omega)]
   exact ih (q + 1) (by omega) (by omega) _ x2 x3 x4 x5
  ·refine Ev.bind (Ev.fst (k1b fail s hs z hz x2 x3 x4 x5)) ?_
   rintro _ ⟨a',z2,z3,z4,z5,h1,h2,rfl⟩
   exact Ev.val _ ⟨_,a',_,_,_,_,h1,h2,rfl⟩
theorem w9n (a:Nat) (ha:a≤s.size) (x2 x3 x4 x5:Int):∀ (r z:Nat),a≤z→z≤s.size→s.size - z≤r→Ev n2 (NmS (ρ:=ρ) s a) (fun i K=>p130_4L fail i.1 K s ((a:Nat):Int) x2 x3 x4 x5 i.2 ((z:Nat):Int)):=by
 intro r
 induction r with
 | zero =>
  intro z haz hz hr
  refine Ev.loop (body:=fun i K=>p130_4 fail i.1 K (p130_4L fail i.1 K s ((a:Nat):Int) x2 x3 x4 x5 i.2) s ((a:Nat):Int) x2 x3 x4 x5 ((z:Nat):Int)) (fun _ _ _=>rfl) ?_
  unfold p130_4 p130_3
  refine Ev.ite (fun h=>absurd (J5 h) (by omega)) (fun _=>Ev.ite (fun h=>nomatch h) (fun _=>Ev.ite (fun _=>?_) (fun _=>?_)))
  ·refine Ev.bind (Ev.fst (U1 fail s z x2 x3 x4 x5 _ _)) ?_
   rintro _ ⟨z2,z3,z4,z5,rfl⟩
   exact Ev.val _ ⟨_,z,_,_,_,_,haz,hz,rfl⟩
  ·exact (Ev.fst (Ev.diag (w1m fail s hs z hz _ a haz (Nat.le_refl _) _ x2 x3 x4 x5))).mono (fun v=>NmS.le s haz)
 | succ r ih =>
  intro z haz hz hr
  refine Ev.loop (body:=fun i K=>p130_4 fail i.1 K (p130_4L fail i.1 K s ((a:Nat):Int) x2 x3 x4 x5 i.2) s ((a:Nat):Int) x2 x3 x4 x5 ((z:Nat):Int)) (fun _ _ _=>rfl) ?_
  have hfl:∀ (c x6 x7:Int),Ev n2 (NmS (ρ:=ρ) s a) (fun i K=>p128 fail i.1 (fun y3 y4 y5 y6 y7 y8=>K c y3 y4 y5 y6 y7 y8) s ((z:Nat):Int) x2 x3 x4 x5 x6 x7):=by
   intro c x6 x7
   refine Ev.bind (Ev.fst (U1 fail s z x2 x3 x4 x5 _ _)) ?_
   rintro _ ⟨z2,z3,z4,z5,rfl⟩
   exact Ev.val _ ⟨_,z,_,_,_,_,haz,hz,rfl⟩
  have h1:z < s.size→∀ b,Ev n2 (NmS (ρ:=ρ) s a) (fun i K=>p130_1 fail i.1 K (p130_4L fail i.1 K s ((a:Nat):Int) x2 x3 x4 x5 i.2) s x2 x3 x4 x5 ((z:Nat):Int) b):=by
   intro hl b
   unfold p130_1
   refine Ev.ite (fun _=>hfl _ _ _) (fun _=>?_)
   rw [L7 (by omega)]
   exact ih (z + 1) (by omega) (by omega) (by omega)
  have h3:∀ b,(b=true→z < s.size)→Ev n2 (NmS (ρ:=ρ) s a) (fun i K=>p130_3 fail i.1 K (p130_4L fail i.1 K s ((a:Nat):Int) x2 x3 x4 x5 i.2) s ((a:Nat):Int) x2 x3 x4 x5 ((z:Nat):Int) b):=by
   intro b hb
   unfold p130_3
   refine Ev.ite (fun h=>Ev.ite (fun _=>hfl _ _ _) (fun _=>Ev.ite (fun _=>Ev.gd (by omega) (Ev.gd (by have:=hb h;omega) (h1 (hb h) _))) (fun _=>h1 (hb h) _))) (fun _=>Ev.ite (fun _=>hfl _ _ _) (fun _=>?_))
   exact (Ev.fst (Ev.diag (w1m fail s hs z hz _ a haz (Nat.le_refl _) _ x2 x3 x4 x5))).mono (fun v=>NmS.le s haz)
  unfold p130_4
  refine Ev.ite (fun h=>?_) (fun _=>h3 _ (fun h=>nomatch h))
  have h':=J5 h
  refine Ev.gd (by omega) (Ev.gd h' (Ev.bind (Ev.fst (w4n fail _)) ?_))
  rintro _ ⟨b,rfl⟩
  exact h3 _ (fun _=>by omega)
theorem k5c (a:Nat) (ha:a≤s.size) (x2 x3 x4 x5:Int):Ev n1 (NmS (ρ:=ρ) s a) (fun fu K=>p130 fail fu K s ((a:Nat):Int) x2 x3 x4 x5) :=
 Ev.diag (w9n fail s hs a ha x2 x3 x4 x5 _ a (Nat.le_refl _) ha (Nat.le_refl _))
theorem k4u (a:Nat) (ha:a≤s.size) (x2 x3 x4 x5:Int):Ev n1 (LvS (ρ:=ρ) s a) (fun fu K=>p149 fail fu K s ((a:Nat):Int) x2 x3 x4 x5):=by
 have h2:∀ b,(b=false→a < s.size)→Ev n1 (LvS (ρ:=ρ) s a) (fun fu K=>p149_2 fail fu K s ((a:Nat):Int) x2 x3 x4 x5 b):=by
  intro b hb
  unfold p149_2 p149_1
  refine Ev.ite (fun _=>?_) (fun h=>Ev.gd (by omega) (Ev.gd (by have:=hb h;omega) (Ev.ite (fun _=>?_) (fun _=>?_))))
  ·refine Ev.bind (U1 fail s a x2 x3 x4 x5 _ _) ?_
   rintro _ ⟨z2,z3,z4,z5,rfl⟩
   exact Ev.val _ ⟨.mk 0 0 [],a,_,_,_,_,⟨by simp,trivial⟩,by omega,ha,by rw [Z6];rfl⟩
  ·refine Ev.bind (U1 fail s a x2 x3 x4 x5 _ _) ?_
   rintro _ ⟨z2,z3,z4,z5,rfl⟩
   have:=hb h
   dsimp only
   rw [Z6,L7 (a:=a) (by omega)]
   exact Ev.val _ ⟨.mk 4 _ [],a + 1,_,_,_,_,⟨by simp,trivial⟩,by omega,by omega,rfl⟩
  ·have:=hb h
   rw [Z6,L7 (a:=a) (by omega)]
   exact Ev.val _ ⟨.mk 4 _ [],a + 1,_,_,_,_,⟨by simp,trivial⟩,by omega,by omega,rfl⟩
 unfold p149
 refine Ev.ite (fun _=>h2 _ (fun h=>nomatch h)) (fun h=>?_)
 have h':=z1o h
 refine Ev.gd (by omega) (Ev.gd h' (Ev.bind (w4n fail _) ?_))
 rintro _ ⟨b,rfl⟩
 exact h2 _ (fun _=>by omega)
theorem k4x:∀ (r a:Nat),a≤s.size→s.size - a≤r→∀ x2 x3 x4 x5 x6:Int,Ev n1 (LvS (ρ:=ρ) s a) (fun fu K=>p143 fail fu K s ((a:Nat):Int) x2 x3 x4 x5 x6):=by
 intro r
 induction r with
 | zero =>
  intro a ha hr x2 x3 x4 x5 x6
  refine Ev.step (body:=fun n K=>p143_b fail n (p143 fail n) K s ((a:Nat):Int) x2 x3 x4 x5 x6) (fun _ _=>rfl) ?_
  unfold p143_b
  refine Ev.bind (z6o fail s hs a ha x2 x3 x4 x5) ?_
  rintro _ ⟨c,a',y2,y3,y4,y5,h1,h2,h3,rfl⟩
  refine Ev.ite (fun _=>?_) (fun h=>absurd (z1o h) (by omega))
  unfold p143_4
  refine Ev.ite (fun _=>?_) (fun h=>nomatch h)
  refine Ev.bind (U1 fail s a' _ _ _ _ _ _) ?_
  rintro _ ⟨z2,z3,z4,z5,rfl⟩
  exact Ev.val _ ⟨.mk 0 0 [],a',_,_,_,_,⟨by simp,trivial⟩,by omega,h2,by rw [Z6];rfl⟩
 | succ r ih =>
  intro a ha hr x2 x3 x4 x5 x6
  refine Ev.step (body:=fun n K=>p143_b fail n (p143 fail n) K s ((a:Nat):Int) x2 x3 x4 x5 x6) (fun _ _=>rfl) ?_
  unfold p143_b
  refine Ev.bind (z6o fail s hs a ha x2 x3 x4 x5) ?_
  rintro _ ⟨c,a',y2,y3,y4,y5,h1,h2,h3,rfl⟩
  have hm:a' < s.size→∀ (j:Int) (x2 x3 x4 x5:Int),Ev n1 (LvS (ρ:=ρ) s a) (fun n K=>p143_1 fail n (p143 fail n) K x6 s x2 x3 x4 (B8 .add .i64 ((a':Nat):Int) 1) x5 j):=by
   intro hl j x2 x3 x4 x5
   unfold p143_1
   rw [L7 (a:=a') (by omega)]
   refine Ev.bind (ih (a' + 1) (by omega) (by omega) _ _ _ _ _) ?_
   rintro _ ⟨l1,b1,u2,u3,u4,u5,ht1,hb1,hb2,rfl⟩
   refine Ev.bind (ih b1 (by omega) (by omega) _ _ _ _ _) ?_
   rintro _ ⟨l2,b2,w2,w3,w4,w5,ht2,hc1,hc2,rfl⟩
   refine Ev.gd (by simp) ?_
   rw [z6c]
   exact Ev.val _ ⟨.mk j 0 [l1,l2],b2,_,_,_,_,⟨by simp,ht1,ht2,trivial⟩,by omega,hc2,rfl⟩
  have h2':a' < s.size→∀ (x2 x3 x4 x5:Int),Ev n1 (LvS (ρ:=ρ) s a) (fun n K=>p143_2 fail n (p143 fail n) K x6 c s ((a':Nat):Int) x2 x3 x4 x5):=by
   intro hl x2 x3 x4 x5
   unfold p143_2
   refine Ev.ite (fun _=>?_) (fun _=>Ev.ite (fun _=>?_) (fun _=>Ev.ite (fun _=>?_) (fun _=>Ev.ite (fun _=>?_) (fun _=>Ev.ite (fun _=>hm hl _ _ _ _ _) (fun _=>hm hl _ _ _ _ _)))))
   ·exact Ev.val _ ⟨.mk 0 0 [],a',_,_,_,_,⟨by simp,trivial⟩,by omega,h2,by rw [Z6];rfl⟩
   ·rw [Z6,L7 (a:=a') (by omega)]
    exact Ev.val _ ⟨.mk 0 0 [],a' + 1,_,_,_,_,⟨by simp,trivial⟩,by omega,by omega,rfl⟩
   ·rw [L7 (a:=a') (by omega)]
    refine Ev.bind (ih (a' + 1) (by omega) (by omega) _ _ _ _ _) ?_
    rintro _ ⟨l1,b1,u2,u3,u4,u5,ht1,hb1,hb2,rfl⟩
    refine Ev.gd (by simp) ?_
    rw [V3]
    exact Ev.val _ ⟨.mk 1 0 [l1],b1,_,_,_,_,⟨by simp,ht1,trivial⟩,by omega,hb2,rfl⟩
   ·rw [L7 (a:=a') (by omega)]
    refine Ev.bind (k4u fail s hs (a' + 1) (by omega) _ _ _ _) ?_
    rintro _ ⟨l1,b1,u2,u3,u4,u5,ht1,hb1,hb2,rfl⟩
    exact Ev.val _ ⟨l1,b1,_,_,_,_,ht1,by omega,hb2,rfl⟩
  have h3':a' < s.size→∀ (x2 x3 x4 x5:Int),Ev n1 (LvS (ρ:=ρ) s a) (fun n K=>p143_3 fail n (p143 fail n) K x6 c s ((a':Nat):Int) x2 x3 x4 x5):=by
   intro hl x2 x3 x4 x5
   unfold p143_3
   refine Ev.ite (fun _=>?_) (fun _=>h2' hl _ _ _ _)
   refine Ev.bind (U1 fail s a' _ _ _ _ _ _) ?_
   rintro _ ⟨z2,z3,z4,z5,rfl⟩
   exact h2' hl _ _ _ _
  have h4:∀ b,(b=false→a' < s.size)→Ev n1 (LvS (ρ:=ρ) s a) (fun n K=>p143_4 fail n (p143 fail n) K x6 c s ((a':Nat):Int) y2 y3 y4 y5 b):=by
   intro b hb
   unfold p143_4
   refine Ev.ite (fun _=>?_) (fun h=>Ev.ite (fun _=>?_) (fun _=>h3' (hb h) _ _ _ _))
   ·refine Ev.bind (U1 fail s a' _ _ _ _ _ _) ?_
    rintro _ ⟨z2,z3,z4,z5,rfl⟩
    exact Ev.val _ ⟨.mk 0 0 [],a',_,_,_,_,⟨by simp,trivial⟩,by omega,h2,by rw [Z6];rfl⟩
   ·refine Ev.bind (U1 fail s a' _ _ _ _ _ _) ?_
    rintro _ ⟨z2,z3,z4,z5,rfl⟩
    exact h3' (hb h) _ _ _ _
  refine Ev.ite (fun _=>h4 _ (fun h=>nomatch h)) (fun h=>?_)
  have hl:a' < s.size:=by have:=z1o h;omega
  exact Ev.ite (fun _=>Ev.ite (fun _=>Ev.ite (fun _=>Ev.ite (fun _=>h4 _ (fun _=>hl)) (fun _=>h4 _ (fun _=>hl))) (fun _=>h4 _ (fun _=>hl))) (fun _=>h4 _ (fun _=>hl))) (fun _=>h4 _ (fun _=>hl))
theorem k1d (a:Nat) (ha:a≤s.size) (x2 x3 x4 x5:Int):Ev n1 (LvS (ρ:=ρ) s a) (fun fu K=>p131 fail fu K s ((a:Nat):Int) x2 x3 x4 x5):=by
 unfold p131
 exact k4x fail s hs _ a ha (Nat.le_refl _) _ _ _ _ _
theorem w9o (nm:ByteArray):∀ (r a:Nat),a≤s.size→s.size - a < r→∀ (L:List Lv),Lv.thins L→L.length≤a→∀ x2 x3 x4 x5:Int,Ev n2 (TmS (ρ:=ρ) s a) (fun i K=>p129_4L fail i.1 K i.2 s ((a:Nat):Int) x2 x3 x4 x5 nm (Lv.rows L)):=by
 intro r
 induction r with
 | zero=>intro a ha hr;exact absurd hr (by omega)
 | succ r ih =>
  intro a ha hr L hL hLl x2 x3 x4 x5
  refine Ev.loop (body:=fun i K=>p129_4 fail i.1 K (p129_4L fail i.1 K i.2) s ((a:Nat):Int) x2 x3 x4 x5 nm (Lv.rows L)) (fun _ _ _=>rfl) ?_
  have hLr:(Lv.rows L).length=L.length:=Lv.rows_len L
  have h1:∀ (b:Nat),a≤b→b≤s.size→∀ (x2 x3 x4 x5:Int),Ev n2 (TmS (ρ:=ρ) s a) (fun i K=>p129_1 fail i.1 K (p129_4L fail i.1 K i.2) nm (Lv.rows L) s ((b:Nat):Int) x2 x3 x4 x5):=by
   intro b hab hb x2 x3 x4 x5
   unfold p129_1
   refine Ev.bind (Ev.fst (k1d fail s hs b hb _ _ _ _)) ?_
   rintro _ ⟨l1,b1,u2,u3,u4,u5,ht1,hb1,hb2,rfl⟩
   refine Ev.ite (fun _=>?_) (fun _=>Ev.gd (by simp) (Ev.gd (by simp;omega) ?_))
   ·rw [w6x]
    exact Ev.val _ ⟨.mk 2 0 nm L [],b1,_,_,_,_,⟨⟨by omega,hL⟩,by simp,trivial⟩,by omega,hb2,rfl⟩
   ·have hL2:Lv.thins (L++[l1]):=by
     rw [Lv.thins_iff] at hL ⊢
     intro x hx
     rcases List.mem_append.1 hx with h | h
     ·exact hL x h
     ·rw [List.mem_singleton.1 h];exact ht1
    rw [V3,← Lv.rows_append,w6x]
    refine Ev.bind (Ev.fst (z6o fail s hs b1 hb2 _ _ _ _)) ?_
    rintro _ ⟨c,a',y2,y3,y4,y5,h1,h2,h3,rfl⟩
    refine Ev.ite (fun _=>?_) (fun hc=>?_)
    ·refine Ev.bind (Ev.fst (w1y fail s hs a' h2 _ _ _ _ _)) ?_
     rintro _ ⟨b2,w2,w3,w4,w5,hc1,hc2,rfl⟩
     exact Ev.val _ ⟨.mk 2 0 nm (L++[l1]) [],b2,_,_,_,_,⟨⟨by simp;omega,hL2⟩,by simp,trivial⟩,by omega,hc2,rfl⟩
    ·have hl:a' < s.size:=h3 (by rw [z2v hc];omega)
     rw [L7 (a:=a') (by omega)]
     exact (ih (a' + 1) (by omega) (by omega) (L++[l1]) hL2 (by simp;omega) _ _ _ _).mono (fun v=>TmS.le s (by omega))
  have h3:∀ (b:Nat),a≤b→b≤s.size→∀ (x2 x3 x4 x5:Int) (c:Bool),Ev n2 (TmS (ρ:=ρ) s a) (fun i K=>p129_3 fail i.1 K (p129_4L fail i.1 K i.2) nm (Lv.rows L) s ((b:Nat):Int) x2 x3 x4 x5 c):=by
   intro b hab hb x2 x3 x4 x5 c
   unfold p129_3 p129_2
   refine Ev.ite (fun _=>?_) (fun _=>h1 b hab hb _ _ _ _)
   refine Ev.bind (Ev.fst (U1 fail s b _ _ _ _ _ _)) ?_
   rintro _ ⟨z2,z3,z4,z5,rfl⟩
   exact h1 b hab hb _ _ _ _
  unfold p129_4
  refine Ev.ite (fun _=>?_) (fun _=>h1 a (by omega) ha _ _ _ _)
  refine Ev.bind (Ev.fst (z6o fail s hs a ha _ _ _ _)) ?_
  rintro _ ⟨c,a',y2,y3,y4,y5,g1,g2,g3,rfl⟩
  have h:=h3 a' g1 g2 y2 y3 y4 y5
  exact Ev.ite (fun _=>Ev.ite (fun _=>h _) (fun _=>Ev.ite (fun _=>h _) (fun _=>Ev.ite (fun _=>h _) (fun _=>Ev.ite (fun _=>h _) (fun _=>h _))))) (fun _=>h _)
theorem k5d (a:Nat) (ha:a≤s.size) (x2 x3 x4 x5:Int):Ev n1 (TmS (ρ:=ρ) s a) (fun fu K=>p129 fail fu K s ((a:Nat):Int) x2 x3 x4 x5):=by
 unfold p129
 have hz:(s.extract ((a:Nat):Int).toNat ((s.size:Nat):Int).toNat).size=s.size - a:=by simp
 refine Ev.gd (by omega) (Ev.gd (by omega) (Ev.gd (by omega) (Ev.bind (k4y fail _ (by omega)) ?_)))
 rintro _ ⟨n,hn,rfl⟩
 rw [hz] at hn
 have e1:B8 .add .i64 ((a:Nat):Int) ((n:Nat):Int)=((a + n:Nat):Int):=by rw [z7e (by omega) (by omega)];omega
 dsimp only
 rw [Z6,e1]
 refine Ev.ite (fun _=>?_) (fun _=>Ev.gd (by omega) (Ev.gd (by omega) (Ev.gd (by omega) (Ev.bind (z6o fail s hs (a + n) (by omega) _ _ _ _) ?_))))
 ·refine Ev.bind (U1 fail s a _ _ _ _ _ _) ?_
  rintro _ ⟨z2,z3,z4,z5,rfl⟩
  exact Ev.val _ ⟨.mk 0 0 ⟨#[]⟩ [] [],a,_,_,_,_,⟨⟨by simp,trivial⟩,by simp,trivial⟩,by omega,ha,by rw [← Z6];rfl⟩
 ·rintro _ ⟨c,a',y2,y3,y4,y5,g1,g2,g3,rfl⟩
  refine Ev.ite (fun _=>?_) (fun hc=>?_)
  ·exact Ev.val _ ⟨.mk 2 0 _ [] [],a',_,_,_,_,⟨⟨by simp,trivial⟩,by simp,trivial⟩,by omega,g2,by rfl⟩
  ·have hl:a' < s.size:=g3 (by rw [z2v hc];omega)
   rw [L7 (a:=a') (by omega)]
   exact (Ev.diag (w9o fail s hs _ _ (a' + 1) (by omega) (Nat.lt_succ_self _) [] trivial (by simp) _ _ _ _)).mono (fun v=>TmS.le s (by omega))
theorem k6m:∀ (r a:Nat),a≤s.size→s.size - a < r→∀ x2 x3 x4 x5 x6:Int,Ev n1 (TmS (ρ:=ρ) s a) (fun fu K=>p96 fail fu K s ((a:Nat):Int) x2 x3 x4 x5 x6):=by
 intro r
 induction r with
 | zero=>intro a ha hr;exact absurd hr (by omega)
 | succ r ih =>
  intro a ha hr x2 x3 x4 x5 x6
  refine Ev.step (body:=fun n K=>p96_b fail n (p96 fail n) K s ((a:Nat):Int) x2 x3 x4 x5 x6) (fun _ _=>rfl) ?_
  unfold p96_b
  refine Ev.bind (z6o fail s hs a ha x2 x3 x4 x5) ?_
  rintro _ ⟨c,a',y2,y3,y4,y5,h1,h2,h3,rfl⟩
  have z0:∀ x2 x3 x4 x5:Int,TmS (ρ:=ρ) s a (fun K=>K 0 0 ⟨#[]⟩ nilE nilE s ((a':Nat):Int) x2 x3 x4 x5):=fun x2 x3 x4 x5=>⟨.mk 0 0 ⟨#[]⟩ [] [],a',_,_,_,_,⟨⟨by simp,trivial⟩,by simp,trivial⟩,h1,h2,by rfl⟩
  have h3':a' < s.size→∀ (x2 x3 x4 x5:Int),Ev n1 (TmS (ρ:=ρ) s a) (fun n K=>p96_3 fail n (p96 fail n) K x6 c s ((a':Nat):Int) x2 x3 x4 x5):=by
   intro hl x2 x3 x4 x5
   unfold p96_3 p96_2 p96_1
   rw [L7 (a:=a') (by omega)]
   refine Ev.ite (fun _=>Ev.val _ (z0 _ _ _ _)) (fun _=>Ev.bind (z8p fail _) ?_)
   rintro _ ⟨b,rfl⟩
   refine Ev.ite (fun _=>?_) (fun _=>Ev.ite (fun _=>?_) (fun _=>Ev.ite (fun _=>?_) (fun _=>Ev.ite (fun _=>?_) (fun _=>Ev.ite (fun _=>?_) (fun _=>?_)))))
   ·exact (k5d fail s hs a' h2 _ _ _ _).mono (fun v=>TmS.le s h1)
   ·refine Ev.bind (k5c fail s hs (a' + 1) (by omega) _ _ _ _) ?_
    rintro _ ⟨v,b1,u2,u3,u4,u5,hb1,hb2,rfl⟩
    exact Ev.val _ ⟨.mk 0 v ⟨#[]⟩ [] [],b1,_,_,_,_,⟨⟨by simp,trivial⟩,by simp,trivial⟩,by omega,hb2,by rfl⟩
   ·refine Ev.bind (k1d fail s hs (a' + 1) (by omega) _ _ _ _) ?_
    rintro _ ⟨l1,b1,u2,u3,u4,u5,ht1,hb1,hb2,rfl⟩
    refine Ev.gd (by simp) ?_
    rw [V3]
    exact Ev.val _ ⟨.mk 1 0 ⟨#[]⟩ [l1] [],b1,_,_,_,_,⟨⟨by simp,ht1,trivial⟩,by simp,trivial⟩,by omega,hb2,by rfl⟩
   ·refine Ev.bind (ih (a' + 1) (by omega) (by omega) _ _ _ _ _) ?_
    rintro _ ⟨t1,b1,u2,u3,u4,u5,ht1,hb1,hb2,rfl⟩
    refine Ev.bind (ih b1 (by omega) (by omega) _ _ _ _ _) ?_
    rintro _ ⟨t2,b2,w2,w3,w4,w5,ht2,hc1,hc2,rfl⟩
    refine Ev.bind (w1y fail s hs b2 hc2 _ _ _ _ _) ?_
    rintro _ ⟨b3,q2,q3,q4,q5,hd1,hd2,rfl⟩
    refine Ev.gd (by simp) ?_
    rw [L3]
    exact Ev.val _ ⟨.mk 3 0 ⟨#[]⟩ [] [t1,t2],b3,_,_,_,_,⟨⟨by simp,trivial⟩,by simp,ht1,ht2,trivial⟩,by omega,hd2,by rfl⟩
   ·refine Ev.bind (ih (a' + 1) (by omega) (by omega) _ _ _ _ _) ?_
    rintro _ ⟨t1,b1,u2,u3,u4,u5,ht1,hb1,hb2,rfl⟩
    refine Ev.bind (w1y fail s hs b1 hb2 _ _ _ _ _) ?_
    rintro _ ⟨b2,q2,q3,q4,q5,hc1,hc2,rfl⟩
    refine Ev.bind (ih b2 (by omega) (by omega) _ _ _ _ _) ?_
    rintro _ ⟨t2,b3,w2,w3,w4,w5,ht2,hd1,hd2,rfl⟩
    refine Ev.bind (w1y fail s hs b3 hd2 _ _ _ _ _) ?_
    rintro _ ⟨b4,q2,q3,q4,q5,he1,he2,rfl⟩
    refine Ev.bind (ih b4 (by omega) (by omega) _ _ _ _ _) ?_
    rintro _ ⟨t3,b5,w2,w3,w4,w5,ht3,hf1,hf2,rfl⟩
    refine Ev.gd (by simp) ?_
    rw [z2m]
    exact Ev.val _ ⟨.mk 6 0 ⟨#[]⟩ [] [t1,t2,t3],b5,_,_,_,_,⟨⟨by simp,trivial⟩,by simp,ht1,ht2,ht3,trivial⟩,by omega,hf2,by rfl⟩
   ·refine Ev.bind (ih (a' + 1) (by omega) (by omega) _ _ _ _ _) ?_
    rintro _ ⟨t1,b1,u2,u3,u4,u5,ht1,hb1,hb2,rfl⟩
    refine Ev.bind (w1y fail s hs b1 hb2 _ _ _ _ _) ?_
    rintro _ ⟨b2,q2,q3,q4,q5,hc1,hc2,rfl⟩
    refine Ev.bind (ih b2 (by omega) (by omega) _ _ _ _ _) ?_
    rintro _ ⟨t2,b3,w2,w3,w4,w5,ht2,hd1,hd2,rfl⟩
    dsimp only
    rw [L3]
    refine Ev.ite (fun _=>Ev.gd (by simp) ?_) (fun _=>Ev.gd (by simp) ?_)
    ·exact Ev.val _ ⟨.mk 5 0 ⟨#[]⟩ [] [t1,t2],b3,_,_,_,_,⟨⟨by simp,trivial⟩,by simp,ht1,ht2,trivial⟩,by omega,hd2,by rfl⟩
    ·exact Ev.val _ ⟨.mk 4 0 ⟨#[]⟩ [] [t1,t2],b3,_,_,_,_,⟨⟨by simp,trivial⟩,by simp,ht1,ht2,trivial⟩,by omega,hd2,by rfl⟩
  have h4':a' < s.size→∀ (x2 x3 x4 x5:Int),Ev n1 (TmS (ρ:=ρ) s a) (fun n K=>p96_4 fail n (p96 fail n) K x6 c s ((a':Nat):Int) x2 x3 x4 x5):=by
   intro hl x2 x3 x4 x5
   unfold p96_4
   refine Ev.ite (fun _=>?_) (fun _=>h3' hl _ _ _ _)
   refine Ev.bind (U1 fail s a' _ _ _ _ _ _) ?_
   rintro _ ⟨z2,z3,z4,z5,rfl⟩
   exact h3' hl _ _ _ _
  have h5:∀ b,(b=false→a' < s.size)→Ev n1 (TmS (ρ:=ρ) s a) (fun n K=>p96_5 fail n (p96 fail n) K x6 c s ((a':Nat):Int) y2 y3 y4 y5 b):=by
   intro b hb
   unfold p96_5
   refine Ev.ite (fun _=>?_) (fun h=>Ev.ite (fun _=>?_) (fun _=>h4' (hb h) _ _ _ _))
   ·refine Ev.bind (U1 fail s a' _ _ _ _ _ _) ?_
    rintro _ ⟨z2,z3,z4,z5,rfl⟩
    exact Ev.val _ (z0 _ _ _ _)
   ·refine Ev.bind (U1 fail s a' _ _ _ _ _ _) ?_
    rintro _ ⟨z2,z3,z4,z5,rfl⟩
    exact h4' (hb h) _ _ _ _
  refine Ev.ite (fun _=>h5 _ (fun h=>nomatch h)) (fun h=>?_)
  have hl:a' < s.size:=by have:=z1o h;omega
  have g:∀ b,Ev n1 (TmS (ρ:=ρ) s a) (fun n K=>p96_5 fail n (p96 fail n) K x6 c s ((a':Nat):Int) y2 y3 y4 y5 b):=fun b=>h5 b (fun _=>hl)
  refine Ev.ite (fun _=>Ev.ite (fun _=>Ev.ite (fun _=>Ev.ite (fun _=>Ev.ite (fun _=>Ev.ite (fun _=>Ev.bind (z8p fail _) ?_) (fun _=>g _)) (fun _=>g _)) (fun _=>g _)) (fun _=>g _)) (fun _=>g _)) (fun _=>g _)
  rintro _ ⟨b,rfl⟩
  exact g _
omit hs in
theorem ev26 (hs:s.size≤900):∃ t:Tm,t.thin∧∃ N:Nat,∀ fu,N≤fu→∀ K:Int→Int→ByteArray→EL→EL→ρ,p26 fail fu K s=K t.k t.n t.nm (Lv.rows t.ls) (Tm.rows t.args):=by
 have h:Ev n1 (fun v:(Int→Int→ByteArray→EL→EL→ρ)→ρ=>∃ t:Tm,t.thin∧v=fun K=>K t.k t.n t.nm (Lv.rows t.ls) (Tm.rows t.args)) (fun fu K=>p26 fail fu K s):=by
  unfold p26 p69 p97 p97_1
  refine Ev.ite (fun h=>absurd (show (4000:Int) < s.size by simpa [B0] using h) (by omega)) (fun _=>?_)
  refine Ev.bind (k6m fail s hs _ 0 (by omega) (Nat.lt_succ_self _) _ _ _ _ _) ?_
  rintro _ ⟨t,b1,u2,u3,u4,u5,ht,hb1,hb2,rfl⟩
  refine Ev.bind (k1c fail s hs b1 hb2 _ _ _ _) ?_
  rintro _ ⟨b2,w2,w3,w4,w5,hc1,hc2,rfl⟩
  have fin:∀ x2 x3:Int,Ev n1 (fun v:(Int→Int→ByteArray→EL→EL→ρ)→ρ=>∃ t:Tm,t.thin∧v=fun K=>K t.k t.n t.nm (Lv.rows t.ls) (Tm.rows t.args)) (fun _ K=>bif B0 .neq x2 0 then K 0 0 ⟨#[]⟩ nilE nilE else K t.k t.n t.nm (Lv.rows t.ls) (Tm.rows t.args)) :=
   fun x2 x3=>Ev.ite (fun _=>Ev.val _ ⟨.mk 0 0 ⟨#[]⟩ [] [],⟨⟨by simp,trivial⟩,by simp,trivial⟩,by rfl⟩) (fun _=>Ev.val _ ⟨t,ht,rfl⟩)
  refine Ev.ite (fun _=>?_) (fun _=>fin _ 0)
  refine Ev.bind (U1 fail s b2 _ _ _ _ _ _) ?_
  rintro _ ⟨z2,z3,z4,z5,rfl⟩
  exact fin _ 0
 obtain⟨v,⟨t,ht,rfl⟩,N,hN⟩:=h
 exact⟨t,ht,N,hN⟩
end
def p95_1 {ρ:Type} (fail:ρ) (fu:Nat) (K0:z4d ρ) (rec1:EL→Int→ρ) (x0:ByteArray) (x1 x2:Int) (x4:EL) (y1 y2:Int) (y3:ByteArray) (y4 y5 z6:EL) (z7:Int):ρ :=
 bif (B0 .lss (B8 .add .i64 z7 1) ((x4.length:Nat):Int)) then (gd (0≤z7) fail (gd (z7 < x4.length) fail (z2r fail (List.getD x4 (z7.toNat) []) (fun c8=>gd ((0:Int)≤(B8 .add .i64 z7 1)) fail (gd ((B8 .add .i64 z7 1:Int) < x4.length) fail (z2r fail (List.getD x4 ((B8 .add .i64 z7 1:Int).toNat) []) (fun c9=>p26 fail fu (fun a0 c0 d0 e0 f0=>gd (1≤[[(CV.v (.string c8)),(CV.v (.int .i64 a0)),(CV.v (.int .i64 c0)),(CV.v (.string d0)),(CV.sl 3 e0 none),(CV.sl 5 f0 none)]].length) fail (gd ((z6.length + (List.take 1 [[(CV.v (.string c8)),(CV.v (.int .i64 a0)),(CV.v (.int .i64 c0)),(CV.v (.string d0)),(CV.sl 3 e0 none),(CV.sl 5 f0 none)]]).length) * 96≤35184372088832) fail (rec1 (z6++(List.take 1 [[(CV.v (.string c8)),(CV.v (.int .i64 a0)),(CV.v (.int .i64 c0)),(CV.v (.string d0)),(CV.sl 3 e0 none),(CV.sl 5 f0 none)]])) (B8 .add .i64 z7 2)))) c9))))))) else (K0 3 x1 x2 x0 ⟨#[]⟩ y1 y2 y3 y4 y5 0 0 ⟨#[]⟩ nilE nilE z6)
def p95_1L {ρ:Type} (fail:ρ) (fu:Nat) (K0:z4d ρ) (x0:ByteArray) (x1 x2:Int) (x4:EL) (y1 y2:Int) (y3:ByteArray) (y4 y5:EL):Nat→EL→Int→ρ
 | 0,_,_=>fail
 | n + 1,z6,z7=>p95_1 fail fu K0 (p95_1L fail fu K0 x0 x1 x2 x4 y1 y2 y3 y4 y5 n) x0 x1 x2 x4 y1 y2 y3 y4 y5 z6 z7
def p95 {ρ:Type} (fail:ρ) (fu:Nat) (K0:z4d ρ) (x0:ByteArray) (x1 x2:Int) (x3:ByteArray) (x4:EL):ρ :=
 p26 fail fu (fun y1 y2 y3 y4 y5=>p95_1L fail fu K0 x0 x1 x2 x4 y1 y2 y3 y4 y5 fu nilE 0) x3
def p67 {ρ:Type} (fail:ρ) (fu:Nat) (K0:k5s ρ):ρ :=
 gd (4≤[[(CV.v (.string ⟨#[122,101,114,111]⟩))],[(CV.v (.string ⟨#[78,97,116]⟩))],[(CV.v (.string ⟨#[115,117,99,99]⟩))],[(CV.v (.string ⟨#[33,78,97,116,46,32,78,97,116]⟩))]].length) fail (p95 fail fu (fun y1 y2 y3 y4 y5 y6 y7 y8 y9 o2 r2 s2 t2 v2 w2 g2=>gd (1≤g2.length) fail (p95 fail fu (fun x2 z2 a3 c3 d3 e3 f3 g3 i3 j3 l3 n3 o3 r3 s3 t3=>gd (2≤[[(CV.v (.string ⟨#[65,110,100,46,109,107]⟩))],[(CV.v (.string ⟨#[33,42,48,46,32,33,42,48,46,32,33,35,49,46,32,33,35,49,46,32,40,40,65,110,100,32,35,51,41,32,35,50,41]⟩))]].length) fail (p95 fail fu (fun v3 w3 x3 z3 a4 c4 d4 e4 f4 g4 i4 j4 l4 m4 n4 i2=>gd (1≤i2.length) fail (gd (2≤[[(CV.v (.string ⟨#[69,113,46,114,101,102,108]⟩))],[(CV.v (.string ⟨#[33,42,112,48,46,32,33,35,48,46,32,40,40,40,69,113,123,112,48,125,32,35,49,41,32,35,48,41,32,35,48,41]⟩))]].length) fail (p95 fail fu (fun o4 r4 s4 t4 v4 w4 x4 z4 a5 c5 d5 e5 f5 g5 i5 j2=>gd (1≤j2.length) fail (gd (4≤[[(CV.v (.string ⟨#[110,105,108]⟩))],[(CV.v (.string ⟨#[33,42,83,112,48,46,32,40,76,105,115,116,123,112,48,125,32,35,48,41]⟩))],[(CV.v (.string ⟨#[99,111,110,115]⟩))],[(CV.v (.string ⟨#[33,42,83,112,48,46,32,33,35,48,46,32,33,40,76,105,115,116,123,112,48,125,32,35,49,41,46,32,40,76,105,115,116,123,112,48,125,32,35,50,41]⟩))]].length) fail (p95 fail fu (fun j5 l5 n5 o5 r5 s5 t5 v5 w5 x5 z5 a6 c6 d6 e6 l2=>gd (1≤l2.length) fail (gd (4≤[[(CV.v (.string ⟨#[118,110,105,108]⟩))],[(CV.v (.string ⟨#[33,42,83,112,48,46,32,40,40,86,101,99,123,112,48,125,32,35,48,41,32,122,101,114,111,41]⟩))],[(CV.v (.string ⟨#[118,99,111,110,115]⟩))],[(CV.v (.string ⟨#[33,42,83,112,48,46,32,33,35,48,46,32,33,78,97,116,46,32,33,40,40,86,101,99,123,112,48,125,32,35,50,41,32,35,48,41,46,32,40,40,86,101,99,123,112,48,125,32,35,51,41,32,40,115,117,99,99,32,35,49,41,41]⟩))]].length) fail (p95 fail fu (fun f6 g6 i6 j6 l6 n6 o6 r6 s6 t6 v6 w6 x6 z6 a7 m2=>gd (1≤m2.length) fail (gd (4≤[[(CV.v (.string ⟨#[121,101,115]⟩))],[(CV.v (.string ⟨#[66,111,111,108]⟩))],[(CV.v (.string ⟨#[110,111]⟩))],[(CV.v (.string ⟨#[66,111,111,108]⟩))]].length) fail (p95 fail fu (fun c7 d7 e7 e0 f0 g0 i0 j0 l0 m0 n0 o0 q0 r0 s0 a0=>gd (1≤a0.length) fail (gd (4≤[[(CV.v (.string ⟨#[108,101,97,102]⟩))],[(CV.v (.string ⟨#[84,114,101,101]⟩))],[(CV.v (.string ⟨#[110,111,100,101]⟩))],[(CV.v (.string ⟨#[33,33,78,97,116,46,32,84,114,101,101,46,32,84,114,101,101]⟩))]].length) fail (p95 fail fu (fun t0 v0 w0 x0 y0 z0 a1 c1 d1 e1 f1 g1 i1 j1 l1 c0=>gd (1≤c0.length) fail (gd (2≤[[(CV.v (.string ⟨#[65,99,99,46,105,110]⟩))],[(CV.v (.string ⟨#[33,42,112,48,46,32,33,33,35,48,46,32,33,35,49,46,32,42,48,46,32,33,35,49,46,32,33,33,35,50,46,32,33,40,40,35,50,32,35,48,41,32,35,49,41,46,32,40,40,40,65,99,99,123,112,48,125,32,35,52,41,32,35,51,41,32,35,49,41,46,32,40,40,40,65,99,99,123,112,48,125,32,35,51,41,32,35,50,41,32,35,49,41]⟩))]].length) fail (p95 fail fu (fun m1 o1 q1 r1 s1 t1 v1 w1 x1 z1 a2 c2 d2 e2 f2 d0=>gd (1≤d0.length) fail (K0 y1 y2 y3 y4 y5 y6 y7 y8 y9 o2 r2 s2 t2 v2 w2 g2 x2 z2 a3 c3 d3 e3 f3 g3 i3 j3 l3 n3 o3 r3 s3 t3 v3 w3 x3 z3 a4 c4 d4 e4 f4 g4 i4 j4 l4 m4 n4 i2 o4 r4 s4 t4 v4 w4 x4 z4 a5 c5 d5 e5 f5 g5 i5 j2 j5 l5 n5 o5 r5 s5 t5 v5 w5 x5 z5 a6 c6 d6 e6 l2 f6 g6 i6 j6 l6 n6 o6 r6 s6 t6 v6 w6 x6 z6 a7 m2 c7 d7 e7 e0 f0 g0 i0 j0 l0 m0 n0 o0 q0 r0 s0 a0 t0 v0 w0 x0 y0 z0 a1 c1 d1 e1 f1 g1 i1 j1 l1 c0 m1 o1 q1 r1 s1 t1 v1 w1 x1 z1 a2 c2 d2 e2 f2 d0)) ⟨#[65,99,99]⟩ 1 2 ⟨#[33,42,112,48,46,32,33,33,35,48,46,32,33,35,49,46,32,42,48,46,32,33,35,49,46,32,42,48]⟩ (List.take 2 [[(CV.v (.string ⟨#[65,99,99,46,105,110]⟩))],[(CV.v (.string ⟨#[33,42,112,48,46,32,33,33,35,48,46,32,33,35,49,46,32,42,48,46,32,33,35,49,46,32,33,33,35,50,46,32,33,40,40,35,50,32,35,48,41,32,35,49,41,46,32,40,40,40,65,99,99,123,112,48,125,32,35,52,41,32,35,51,41,32,35,49,41,46,32,40,40,40,65,99,99,123,112,48,125,32,35,51,41,32,35,50,41,32,35,49,41]⟩))]])))) ⟨#[84,114,101,101]⟩ 0 0 ⟨#[42,83,48]⟩ (List.take 4 [[(CV.v (.string ⟨#[108,101,97,102]⟩))],[(CV.v (.string ⟨#[84,114,101,101]⟩))],[(CV.v (.string ⟨#[110,111,100,101]⟩))],[(CV.v (.string ⟨#[33,33,78,97,116,46,32,84,114,101,101,46,32,84,114,101,101]⟩))]])))) ⟨#[66,111,111,108]⟩ 0 0 ⟨#[42,83,48]⟩ (List.take 4 [[(CV.v (.string ⟨#[121,101,115]⟩))],[(CV.v (.string ⟨#[66,111,111,108]⟩))],[(CV.v (.string ⟨#[110,111]⟩))],[(CV.v (.string ⟨#[66,111,111,108]⟩))]])))) ⟨#[86,101,99]⟩ 1 1 ⟨#[33,42,83,112,48,46,32,33,78,97,116,46,32,42,83,112,48]⟩ (List.take 4 [[(CV.v (.string ⟨#[118,110,105,108]⟩))],[(CV.v (.string ⟨#[33,42,83,112,48,46,32,40,40,86,101,99,123,112,48,125,32,35,48,41,32,122,101,114,111,41]⟩))],[(CV.v (.string ⟨#[118,99,111,110,115]⟩))],[(CV.v (.string ⟨#[33,42,83,112,48,46,32,33,35,48,46,32,33,78,97,116,46,32,33,40,40,86,101,99,123,112,48,125,32,35,50,41,32,35,48,41,46,32,40,40,86,101,99,123,112,48,125,32,35,51,41,32,40,115,117,99,99,32,35,49,41,41]⟩))]])))) ⟨#[76,105,115,116]⟩ 1 1 ⟨#[33,42,83,112,48,46,32,42,83,112,48]⟩ (List.take 4 [[(CV.v (.string ⟨#[110,105,108]⟩))],[(CV.v (.string ⟨#[33,42,83,112,48,46,32,40,76,105,115,116,123,112,48,125,32,35,48,41]⟩))],[(CV.v (.string ⟨#[99,111,110,115]⟩))],[(CV.v (.string ⟨#[33,42,83,112,48,46,32,33,35,48,46,32,33,40,76,105,115,116,123,112,48,125,32,35,49,41,46,32,40,76,105,115,116,123,112,48,125,32,35,50,41]⟩))]])))) ⟨#[69,113]⟩ 1 2 ⟨#[33,42,112,48,46,32,33,35,48,46,32,33,35,49,46,32,42,48]⟩ (List.take 2 [[(CV.v (.string ⟨#[69,113,46,114,101,102,108]⟩))],[(CV.v (.string ⟨#[33,42,112,48,46,32,33,35,48,46,32,40,40,40,69,113,123,112,48,125,32,35,49,41,32,35,48,41,32,35,48,41]⟩))]])))) ⟨#[65,110,100]⟩ 0 2 ⟨#[33,42,48,46,32,33,42,48,46,32,42,48]⟩ (List.take 2 [[(CV.v (.string ⟨#[65,110,100,46,109,107]⟩))],[(CV.v (.string ⟨#[33,42,48,46,32,33,42,48,46,32,33,35,49,46,32,33,35,49,46,32,40,40,65,110,100,32,35,51,41,32,35,50,41]⟩))]]))) ⟨#[70,97,108,115,101]⟩ 0 0 ⟨#[42,48]⟩ nilE)) ⟨#[78,97,116]⟩ 0 0 ⟨#[42,83,48]⟩ (List.take 4 [[(CV.v (.string ⟨#[122,101,114,111]⟩))],[(CV.v (.string ⟨#[78,97,116]⟩))],[(CV.v (.string ⟨#[115,117,99,99]⟩))],[(CV.v (.string ⟨#[33,78,97,116,46,32,78,97,116]⟩))]]))
def p21 {ρ:Type} (fail:ρ) (fu:Nat) (K0:EL→Int→ρ) (x0:EL):ρ :=
 K0 x0 0
def p68_1 {ρ:Type} (fail:ρ) (fu:Nat) (s_p68:(Int→Int→ByteArray→EL→EL→EL→Int→ρ)→Int→Int→ByteArray→EL→EL→EL→Int→Int→ByteArray→ρ) (K0:KT3 ρ) (x0 x1:Int) (x2:ByteArray) (x3 x4:EL) (x7:Int) (x8:ByteArray) (y1 y2:Int) (y3:ByteArray) (y4 y5 j6:EL) (j7:Int) (j8:Bool):ρ :=
 bif j8 then (p57 fail fu (fun y9 r1 s1=>gd (0≤y9) fail (gd (y9 < x4.length) fail (E0 fail (List.getD x4 (y9.toNat) []) (fun t1 v1 w1 z1 a2=>s_p68 (fun j1 l1 m1 o1 q1 c2 d2=>gd (0≤y9) fail (gd (y9 < y5.length) fail (gd ((y9.toNat) + 1≤y5.length) fail (gd (0 + 5≤(List.getD y5 (y9.toNat) []).length) fail (gd (y5.length≤(List.set y5 (y9.toNat) (F9 (List.getD y5 (y9.toNat) []) 0 [(CV.v (.int .i64 j1)),(CV.v (.int .i64 l1)),(CV.v (.string m1)),(CV.sl 3 o1 none),(CV.sl 5 q1 none)])).length) fail (K0 y1 y2 y3 y4 (List.take y5.length (List.set y5 (y9.toNat) (F9 (List.getD y5 (y9.toNat) []) 0 [(CV.v (.int .i64 j1)),(CV.v (.int .i64 l1)),(CV.v (.string m1)),(CV.sl 3 o1 none),(CV.sl 5 q1 none)]))) c2 d2)))))) t1 v1 w1 z1 a2 r1 s1 x7 x8)))) j6 j7 ((x4.length:Nat):Int)) else (p92 fail fu (fun a0 c0 d0 e0 f0=>gd ((8:Int)≠0) fail (bif (B0 .eql (B8 .rem .u8 x7 8) 0) then (p26 fail fu (fun e2 f2 g2 i2 j2=>p66 fail fu (fun l2 m2 o2 r2 s2=>p62 fail fu (fun t2 v2 w2 z2 a3=>K0 t2 v2 w2 z2 a3 j6 j7) e2 f2 g2 i2 j2 l2 m2 o2 r2 s2) x0 x1 x2 x3 x4 1 0) ⟨#[78,97,116]⟩) else (bif (B0 .eql (B8 .rem .u8 x7 8) 1) then (K0 a0 c0 d0 e0 f0 j6 j7) else (bif (B0 .eql (B8 .rem .u8 x7 8) 2) then (p57 fail fu (fun c3 d3 e3=>p65 fail fu (fun f3 g3 i3 j3 l3=>K0 f3 g3 i3 j3 l3 d3 e3) c3) j6 j7 4) else (bif (B0 .eql (B8 .rem .u8 x7 8) 3) then (p91 fail fu (fun n3 o3 r3 s3 t3=>p90 fail fu (fun v3 w3 z3 a4 c4=>K0 v3 w3 z3 a4 c4 s3 t3) n3 o3 r3) j6 j7 2) else (bif (B0 .eql (B8 .rem .u8 x7 8) 4) then (p66 fail fu (fun d4 e4 f4 g4 i4=>p62 fail fu (fun j4 l4 m4 n4 o4=>K0 j4 l4 m4 n4 o4 j6 j7) a0 c0 d0 e0 f0 d4 e4 f4 g4 i4) x0 x1 x2 x3 x4 1 0) else (bif (B0 .eql (B8 .rem .u8 x7 8) 5) then (p26 fail fu (fun r4 s4 t4 v4 w4=>p62 fail fu (fun z4 a5 c5 d5 e5=>p66 fail fu (fun f5 g5 i5 j5 l5=>p62 fail fu (fun n5 o5 r5 s5 t5=>K0 n5 o5 r5 s5 t5 j6 j7) z4 a5 c5 d5 e5 f5 g5 i5 j5 l5) x0 x1 x2 x3 x4 1 0) a0 c0 d0 e0 f0 r4 s4 t4 v4 w4) ⟨#[42,48]⟩) else (bif (B0 .eql (B8 .rem .u8 x7 8) 6) then (p26 fail fu (fun v5 w5 x5 z5 a6=>p70 fail fu (fun c6 d6 e6 g0 i0=>K0 c6 d6 e6 g0 i0 j6 j7) x0 x1 x2 x3 x4 v5 w5 x5 z5 a6) ⟨#[122,101,114,111]⟩) else (p26 fail fu (fun j0 l0 m0 n0 o0=>p62 fail fu (fun q0 r0 s0 t0 v0=>p66 fail fu (fun w0 y0 z0 a1 c1=>p62 fail fu (fun d1 e1 f1 g1 i1=>K0 d1 e1 f1 g1 i1 j6 j7) q0 r0 s0 t0 v0 w0 y0 z0 a1 c1) x0 x1 x2 x3 x4 1 0) j0 l0 m0 n0 o0 a0 c0 d0 e0 f0) ⟨#[78,97,116]⟩))))))))) x8 nilE)
def p68_b {ρ:Type} (fail:ρ) (fu:Nat) (s_p68:(Int→Int→ByteArray→EL→EL→EL→Int→ρ)→Int→Int→ByteArray→EL→EL→EL→Int→Int→ByteArray→ρ) (K0:KT3 ρ) (x0 x1:Int) (x2:ByteArray) (x3 x4 x5:EL) (x6 x7:Int) (x8:ByteArray):ρ :=
 p89b fail fu (fun y1 y2 y3 y4 y5=>bif (B0 .gtr ((x4.length:Nat):Int) 0) then (p57 fail fu (fun a0 c0 d0=>p68_1 fail fu s_p68 K0 x0 x1 x2 x3 x4 x7 x8 y1 y2 y3 y4 y5 c0 d0 (B0 .gtr a0 0)) x5 x6 3) else (p68_1 fail fu s_p68 K0 x0 x1 x2 x3 x4 x7 x8 y1 y2 y3 y4 y5 x5 x6 false)) x0 x1 x2 x3 x4
def p68 {ρ:Type} (fail:ρ):Nat→(Int→Int→ByteArray→EL→EL→EL→Int→ρ)→Int→Int→ByteArray→EL→EL→EL→Int→Int→ByteArray→ρ
 | 0,_,_,_,_,_,_,_,_,_,_=>fail
 | n + 1,K0,x0,x1,x2,x3,x4,x5,x6,x7,x8=>p68_b fail n (p68 fail n) K0 x0 x1 x2 x3 x4 x5 x6 x7 x8
def p25_100 {ρ:Type} (fail:ρ) (fu:Nat) (K0:z4d ρ) (rec1:Int→Int→Int→Int→ByteArray→EL→EL→EL→Int→ρ) (j0:EL) (l0 a0 c0:Int) (d0:ByteArray) (e0 f0:EL) (g0 i0:Int):ρ :=
 rec1 i0 g0 a0 c0 d0 e0 f0 j0 (B8 .add .i64 l0 1)
def p25_101 {ρ:Type} (fail:ρ) (fu:Nat) (K0:z4d ρ) (rec1:Int→Int→Int→Int→ByteArray→EL→EL→EL→Int→ρ) (x1:EL) (n0:Int) (j0:EL) (a0 c0 d0:Int) (e0:ByteArray) (f0 g0:EL) (i0:Int):ρ :=
 gd (0≤a0) fail (gd (a0 < x1.length) fail (F6 fail (List.getD x1 (a0.toNat) []) (fun o0 l0 q0 r0=>gd ((8:Int)≠0) fail (bif (B0 .eql (B8 .rem .u8 l0 8) 6) then (gd (0≤a0) fail (gd (a0 < x1.length) fail (F6 fail (List.getD x1 (a0.toNat) []) (fun s0 t0 m0 v0=>gd ((5:Int)≠0) fail (p25_100 fail fu K0 rec1 j0 a0 c0 d0 e0 f0 g0 i0 (IntKind.i64.wrap (B8 .rem .u8 m0 5))))))) else (p25_100 fail fu K0 rec1 j0 a0 c0 d0 e0 f0 g0 i0 n0)))))
def p25_102 {ρ:Type} (fail:ρ) (fu:Nat) (K0:z4d ρ) (rec1:Int→Int→Int→Int→ByteArray→EL→EL→EL→Int→ρ) (c0 d0 e0 f0:Int) (g0:ByteArray) (i0 j0:EL) (l0:Int) (a0:EL):ρ :=
 rec1 c0 d0 e0 f0 g0 i0 j0 a0 (B8 .add .i64 l0 1)
def p25_103 {ρ:Type} (fail:ρ) (fu:Nat) (K0:z4d ρ) (rec1:Int→Int→Int→Int→ByteArray→EL→EL→EL→Int→ρ) (x1:EL) (e0:ByteArray) (n0 o0 q0 r0:Int) (s0:ByteArray) (t0 v0 a0:EL) (d0:Int) (c1:EL) (d1:Int) (t1:Bool):ρ :=
 bif t1 then (gd (0≤d0) fail (gd (d0 < x1.length) fail (F6 fail (List.getD x1 (d0.toNat) []) (fun v1 w1 e1 y1=>p68 fail fu (fun w0 x0 y0 z0 a1 z1 a2=>gd (0≤d0) fail (gd (d0 < x1.length) fail (F6 fail (List.getD x1 (d0.toNat) []) (fun c2 f1 d2 e2=>gd ((8:Int)≠0) fail (bif (B0 .eql (B8 .rem .u8 f1 8) 7) then (gd (0≤d0) fail (gd (d0 < x1.length) fail (F6 fail (List.getD x1 (d0.toNat) []) (fun f2 g2 g1 i2=>gd ((5:Int)≠0) fail (p25_101 fail fu K0 rec1 x1 n0 a0 d0 w0 x0 y0 z0 a1 (IntKind.i64.wrap (B8 .rem .u8 g1 5))))))) else (p25_101 fail fu K0 rec1 x1 n0 a0 d0 w0 x0 y0 z0 a1 o0)))))) q0 r0 s0 t0 v0 c1 d1 e1 e0)))) else (gd (0≤d0) fail (gd (d0 < x1.length) fail (F6 fail (List.getD x1 (d0.toNat) []) (fun j2 c0 l2 m2=>gd ((((a0.length:Nat):Int):Int)≠0) fail (gd ((0:Int)≤(B8 .rem .i64 (IntKind.i64.wrap c0) ((a0.length:Nat):Int))) fail (gd ((B8 .rem .i64 (IntKind.i64.wrap c0) ((a0.length:Nat):Int):Int) < a0.length) fail (gd (((B8 .rem .i64 (IntKind.i64.wrap c0) ((a0.length:Nat):Int):Int).toNat) + 1≤a0.length) fail (G9 fail (List.getD a0 ((B8 .rem .i64 (IntKind.i64.wrap c0) ((a0.length:Nat):Int):Int).toNat) []) (fun o2 i1 j1 l1 m1 o1=>gd (0≤d0) fail (gd (d0 < x1.length) fail (F6 fail (List.getD x1 (d0.toNat) []) (fun r2 s2 q1 t2=>p68 fail fu (fun f0 g0 i0 j0 l0 v2 w2=>gd ((0:Int)≤(B8 .rem .i64 (IntKind.i64.wrap c0) ((a0.length:Nat):Int))) fail (gd ((B8 .rem .i64 (IntKind.i64.wrap c0) ((a0.length:Nat):Int):Int) < a0.length) fail (gd (((B8 .rem .i64 (IntKind.i64.wrap c0) ((a0.length:Nat):Int):Int).toNat) + 1≤a0.length) fail (gd (1 + 5≤(List.getD a0 ((B8 .rem .i64 (IntKind.i64.wrap c0) ((a0.length:Nat):Int):Int).toNat) []).length) fail (gd (0≤d0) fail (gd (d0 < x1.length) fail (F6 fail (List.getD x1 (d0.toNat) []) (fun r1 x2 y2 z2=>gd ((16:Int)≠0) fail (bif (B0 .eql (B8 .rem .u8 r1 16) 15) then (gd (z8u e0.size (⟨#[46,114,101,99]⟩:ByteArray).size) fail (gd (0≤d0) fail (gd (d0 < x1.length) fail (F6 fail (List.getD x1 (d0.toNat) []) (fun a3 c3 m0 d3=>gd ((6:Int)≠0) fail (gd (6≤[[(CV.v (.string ⟨#[122,101,114,111]⟩))],[(CV.v (.string ⟨#[110,105,108]⟩))],[(CV.v (.string ⟨#[120]⟩))],[(CV.v (.string ⟨#[49]⟩))],[(CV.v (.string e0))],[(CV.v (.string (e0++(⟨#[46,114,101,99]⟩:ByteArray))))]].length) fail (gd ((0:Int)≤(B8 .rem .u8 m0 6)) fail (gd ((B8 .rem .u8 m0 6:Int) < (6:Nat)) fail (gd (((B8 .rem .u8 m0 6:Int).toNat) + 1≤[[(CV.v (.string ⟨#[122,101,114,111]⟩))],[(CV.v (.string ⟨#[110,105,108]⟩))],[(CV.v (.string ⟨#[120]⟩))],[(CV.v (.string ⟨#[49]⟩))],[(CV.v (.string e0))],[(CV.v (.string (e0++(⟨#[46,114,101,99]⟩:ByteArray))))]].length) fail (z2r fail (List.getD [[(CV.v (.string ⟨#[122,101,114,111]⟩))],[(CV.v (.string ⟨#[110,105,108]⟩))],[(CV.v (.string ⟨#[120]⟩))],[(CV.v (.string ⟨#[49]⟩))],[(CV.v (.string e0))],[(CV.v (.string (e0++(⟨#[46,114,101,99]⟩:ByteArray))))]] ((B8 .rem .u8 m0 6:Int).toNat) []) (fun s1=>gd ((0:Int)≤(B8 .rem .i64 (IntKind.i64.wrap c0) ((a0.length:Nat):Int))) fail (gd ((B8 .rem .i64 (IntKind.i64.wrap c0) ((a0.length:Nat):Int):Int) < ((List.set a0 ((B8 .rem .i64 (IntKind.i64.wrap c0) ((a0.length:Nat):Int):Int).toNat) (F9 (List.getD a0 ((B8 .rem .i64 (IntKind.i64.wrap c0) ((a0.length:Nat):Int):Int).toNat) []) 1 [(CV.v (.int .i64 f0)),(CV.v (.int .i64 g0)),(CV.v (.string i0)),(CV.sl 3 j0 none),(CV.sl 5 l0 none)])).length:Nat)) fail (gd (((B8 .rem .i64 (IntKind.i64.wrap c0) ((a0.length:Nat):Int):Int).toNat) + 1≤(List.set a0 ((B8 .rem .i64 (IntKind.i64.wrap c0) ((a0.length:Nat):Int):Int).toNat) (F9 (List.getD a0 ((B8 .rem .i64 (IntKind.i64.wrap c0) ((a0.length:Nat):Int):Int).toNat) []) 1 [(CV.v (.int .i64 f0)),(CV.v (.int .i64 g0)),(CV.v (.string i0)),(CV.sl 3 j0 none),(CV.sl 5 l0 none)])).length) fail (gd (0 + 1≤(List.getD (List.set a0 ((B8 .rem .i64 (IntKind.i64.wrap c0) ((a0.length:Nat):Int):Int).toNat) (F9 (List.getD a0 ((B8 .rem .i64 (IntKind.i64.wrap c0) ((a0.length:Nat):Int):Int).toNat) []) 1 [(CV.v (.int .i64 f0)),(CV.v (.int .i64 g0)),(CV.v (.string i0)),(CV.sl 3 j0 none),(CV.sl 5 l0 none)])) ((B8 .rem .i64 (IntKind.i64.wrap c0) ((a0.length:Nat):Int):Int).toNat) []).length) fail (p25_102 fail fu K0 rec1 n0 o0 q0 r0 s0 t0 v0 d0 (List.set (List.set a0 ((B8 .rem .i64 (IntKind.i64.wrap c0) ((a0.length:Nat):Int):Int).toNat) (F9 (List.getD a0 ((B8 .rem .i64 (IntKind.i64.wrap c0) ((a0.length:Nat):Int):Int).toNat) []) 1 [(CV.v (.int .i64 f0)),(CV.v (.int .i64 g0)),(CV.v (.string i0)),(CV.sl 3 j0 none),(CV.sl 5 l0 none)])) ((B8 .rem .i64 (IntKind.i64.wrap c0) ((a0.length:Nat):Int):Int).toNat) (F9 (List.getD (List.set a0 ((B8 .rem .i64 (IntKind.i64.wrap c0) ((a0.length:Nat):Int):Int).toNat) (F9 (List.getD a0 ((B8 .rem .i64 (IntKind.i64.wrap c0) ((a0.length:Nat):Int):Int).toNat) []) 1 [(CV.v (.int .i64 f0)),(CV.v (.int .i64 g0)),(CV.v (.string i0)),(CV.sl 3 j0 none),(CV.sl 5 l0 none)])) ((B8 .rem .i64 (IntKind.i64.wrap c0) ((a0.length:Nat):Int):Int).toNat) []) 0 [(CV.v (.string s1))]))))))))))))))))) else (p25_102 fail fu K0 rec1 n0 o0 q0 r0 s0 t0 v0 d0 (List.set a0 ((B8 .rem .i64 (IntKind.i64.wrap c0) ((a0.length:Nat):Int):Int).toNat) (F9 (List.getD a0 ((B8 .rem .i64 (IntKind.i64.wrap c0) ((a0.length:Nat):Int):Int).toNat) []) 1 [(CV.v (.int .i64 f0)),(CV.v (.int .i64 g0)),(CV.v (.string i0)),(CV.sl 3 j0 none),(CV.sl 5 l0 none)])))))))))))) i1 j1 l1 m1 o1 c1 d1 q1 e0))))))))))))
def p25_104 {ρ:Type} (fail:ρ) (fu:Nat) (K0:z4d ρ) (rec1:Int→Int→Int→Int→ByteArray→EL→EL→EL→Int→ρ) (x1:EL) (q0:Int) (d0 r0:ByteArray) (s0 t0:Int) (v0:ByteArray) (w0 x0:EL) (e0 f0 g0 i0:Int) (j0:ByteArray) (l0 m0 c0:EL) (a0:Int):ρ :=
 bif (B0 .lss a0 ((x1.length:Nat):Int)) then (gd (0≤a0) fail (gd (a0 < x1.length) fail (F6 fail (List.getD x1 (a0.toNat) []) (fun a1 c1 d1 y0=>p21 fail fu (fun n0 o0=>bif (B0 .eql ((c0.length:Nat):Int) 0) then (p25_103 fail fu K0 rec1 x1 d0 e0 f0 g0 i0 j0 l0 m0 c0 a0 n0 o0 true) else (gd (0≤a0) fail (gd (a0 < x1.length) fail (F6 fail (List.getD x1 (a0.toNat) []) (fun z0 e1 f1 g1=>gd ((4:Int)≠0) fail (p25_103 fail fu K0 rec1 x1 d0 e0 f0 g0 i0 j0 l0 m0 c0 a0 n0 o0 (B0 .eql (B8 .rem .u8 z0 4) 0))))))) y0)))) else (K0 q0 e0 f0 d0 r0 g0 i0 j0 l0 m0 s0 t0 v0 w0 x0 c0)
def p25_104L {ρ:Type} (fail:ρ) (fu:Nat) (K0:z4d ρ) (x1:EL) (a0:Int) (c0 d0:ByteArray) (e0 f0:Int) (g0:ByteArray) (i0 j0:EL):Nat→Int→Int→Int→Int→ByteArray→EL→EL→EL→Int→ρ
 | 0,_,_,_,_,_,_,_,_,_=>fail
 | n + 1,l0,m0,n0,o0,q0,r0,s0,t0,v0=>p25_104 fail fu K0 (p25_104L fail fu K0 x1 a0 c0 d0 e0 f0 g0 i0 j0 n) x1 a0 c0 d0 e0 f0 g0 i0 j0 l0 m0 n0 o0 q0 r0 s0 t0 v0
def p25_105 {ρ:Type} (fail:ρ) (fu:Nat) (K0:z4d ρ) (x1:EL) (a0 c0 d0:Int) (e0 f0:ByteArray) (g0 i0:Int) (j0:ByteArray) (l0 m0:EL) (n0 o0:Int) (q0:ByteArray) (r0 s0 t0:EL):ρ :=
 p25_104L fail fu K0 x1 a0 e0 f0 n0 o0 q0 r0 s0 fu c0 d0 g0 i0 j0 l0 m0 t0 0
def p25 {ρ:Type} (fail:ρ) (fu:Nat) (K0:z4d ρ) (x0:Int) (x1:EL):ρ :=
 p67 fail fu (fun a0 c0 d0 e0 f0 g0 i0 j0 l0 m0 n0 o0 q0 r0 s0 t0 v0 w0 y0 z0 a1 c1 d1 e1 f1 g1 i1 j1 l1 m1 o1 q1 r1 s1 t1 v1 w1 y1 z1 a2 c2 d2 e2 f2 g2 i2 j2 l2 m2 o2 r2 s2 t2 v2 w2 x2 y2 z2 a3 c3 d3 e3 f3 g3 i3 j3 l3 n3 o3 r3 s3 t3 v3 w3 x3 y3 z3 a4 c4 d4 e4 f4 g4 i4 j4 l4 m4 n4 o4 r4 s4 t4 v4 w4 x4 y4 z4 a5 c5 d5 e5 f5 g5 i5 j5 l5 n5 o5 r5 s5 t5 v5 w5 x5 y5 z5 a6 c6 d6 e6 f6 g6 i6 j6 l6 n6 o6 r6 s6 t6 v6 w6 x6 y6 z6 a7 c7 d7 e7 f7 g7 i7 j7 l7=>gd ((9:Int)≠0) fail (gd ((0:Int)≤(B8 .rem .i64 (IntKind.i64.wrap x0) 9)) fail (gd ((B8 .rem .i64 (IntKind.i64.wrap x0) 9:Int) < (9:Nat)) fail (bif (B0 .eql (B8 .rem .i64 (IntKind.i64.wrap x0) 9) 0) then (p25_105 fail fu K0 x1 a0 c0 d0 e0 f0 g0 i0 j0 l0 m0 n0 o0 q0 r0 s0 t0) else (bif (B0 .eql (B8 .rem .i64 (IntKind.i64.wrap x0) 9) 1) then (p25_105 fail fu K0 x1 v0 w0 y0 z0 a1 c1 d1 e1 f1 g1 i1 j1 l1 m1 o1 q1) else (bif (B0 .eql (B8 .rem .i64 (IntKind.i64.wrap x0) 9) 2) then (p25_105 fail fu K0 x1 r1 s1 t1 v1 w1 y1 z1 a2 c2 d2 e2 f2 g2 i2 j2 l2) else (bif (B0 .eql (B8 .rem .i64 (IntKind.i64.wrap x0) 9) 3) then (p25_105 fail fu K0 x1 m2 o2 r2 s2 t2 v2 w2 x2 y2 z2 a3 c3 d3 e3 f3 g3) else (bif (B0 .eql (B8 .rem .i64 (IntKind.i64.wrap x0) 9) 4) then (p25_105 fail fu K0 x1 i3 j3 l3 n3 o3 r3 s3 t3 v3 w3 x3 y3 z3 a4 c4 d4) else (bif (B0 .eql (B8 .rem .i64 (IntKind.i64.wrap x0) 9) 5) then (p25_105 fail fu K0 x1 e4 f4 g4 i4 j4 l4 m4 n4 o4 r4 s4 t4 v4 w4 x4 y4) else (bif (B0 .eql (B8 .rem .i64 (IntKind.i64.wrap x0) 9) 6) then (p25_105 fail fu K0 x1 z4 a5 c5 d5 e5 f5 g5 i5 j5 l5 n5 o5 r5 s5 t5 v5) else (bif (B0 .eql (B8 .rem .i64 (IntKind.i64.wrap x0) 9) 7) then (p25_105 fail fu K0 x1 w5 x5 y5 z5 a6 c6 d6 e6 f6 g6 i6 j6 l6 n6 o6 r6) else (bif (B0 .eql (B8 .rem .i64 (IntKind.i64.wrap x0) 9) 8) then (p25_105 fail fu K0 x1 s6 t6 v6 w6 x6 y6 z6 a7 c7 d7 e7 f7 g7 i7 j7 l7) else fail)))))))))))) 
section
variable {ρ:Type} (fail:ρ)
def T5 (v:(Int→Int→ByteArray→EL→EL→ρ)→ρ):Prop:=∃ t:Tm,t.thin∧v=fun K=>K t.k t.n t.nm (Lv.rows t.ls) (Tm.rows t.args)
def T7 (b:List UInt8) (a:Nat) (v:(Int→Int→ByteArray→EL→EL→EL→Int→ρ)→ρ):Prop:=∃ (t:Tm) (a':Nat),t.thin∧a≤a'∧a'≤b.length∧v=fun K=>K t.k t.n t.nm (Lv.rows t.ls) (Tm.rows t.args) (E8 b) ((a':Nat):Int)
def T12 (b:List UInt8) (a:Nat) (v:(Int→Int→ByteArray→EL→EL→Int→Int→ByteArray→EL→EL→EL→Int→ρ)→ρ):Prop:=∃ (t u:Tm) (a':Nat),t.thin∧u.thin∧a≤a'∧a'≤b.length∧v=fun K=>K t.k t.n t.nm (Lv.rows t.ls) (Tm.rows t.args) u.k u.n u.nm (Lv.rows u.ls) (Tm.rows u.args) (E8 b) ((a':Nat):Int)
def N3 (b:List UInt8) (a:Nat) (n:Int) (v:(Int→EL→Int→ρ)→ρ):Prop:=∃ (c a':Nat),(c:Int) < n∧a≤a'∧a'≤b.length∧v=fun K=>K ((c:Nat):Int) (E8 b) ((a':Nat):Int)
theorem w3o (b:List UInt8) (hb:b.length≤1000000) (a:Nat) (ha:a≤b.length) (n:Int) (hn:1≤n):Ev n1 (N3 (ρ:=ρ) b a n) (fun fu K=>p57 fail fu K (E8 b) ((a:Nat):Int) n):=by
 obtain⟨v,a',h1,h2,h3,h4,h5,h⟩:=K4 fail b hb a ha n hn
 obtain⟨v,rfl⟩:∃ j:Nat,v=(j:Nat):=⟨v.toNat,by omega⟩
 exact⟨_,⟨v,a',h2,h3,h4,rfl⟩,0,fun fu _ K=>h fu K⟩
theorem w6e (t u:Tm) (ht:t.thin) (hu:u.thin):Ev n1 (T5 (ρ:=ρ)) (fun fu K=>p62 fail fu K t.k t.n t.nm (Lv.rows t.ls) (Tm.rows t.args) u.k u.n u.nm (Lv.rows u.ls) (Tm.rows u.args)):=by
 obtain⟨v,hv,M,h⟩:=piE fail t u ht hu
 exact⟨_,⟨v,hv,rfl⟩,M,h⟩
theorem ev70 (t u:Tm) (ht:t.thin) (hu:u.thin):Ev n1 (T5 (ρ:=ρ)) (fun fu K=>p70 fail fu K t.k t.n t.nm (Lv.rows t.ls) (Tm.rows t.args) u.k u.n u.nm (Lv.rows u.ls) (Tm.rows u.args)):=by
 obtain⟨v,hv,M,h⟩:=k3p fail t u ht hu
 exact⟨_,⟨v,hv,rfl⟩,M,h⟩
theorem k0a (t:Tm) (ht:t.thin) (x y:Int):Ev n1 (T5 (ρ:=ρ)) (fun fu K=>p66 fail fu K t.k t.n t.nm (Lv.rows t.ls) (Tm.rows t.args) x y):=by
 obtain⟨v,hv,M,h⟩:=w7w fail t ht x y
 exact⟨_,⟨v,hv,rfl⟩,M,h⟩
theorem k6n (s:ByteArray):Ev n1 (T5 (ρ:=ρ)) (fun fu K=>p92 fail fu K s nilE):=by
 obtain⟨v,hv,h⟩:=S7 fail s
 exact⟨_,⟨v,hv,rfl⟩,s.size + 40,fun fu hf K=>h fu K hf⟩
theorem z6n (s:ByteArray) (hs:s.size≤900):Ev n1 (T5 (ρ:=ρ)) (fun fu K=>p26 fail fu K s):=by
 obtain⟨v,hv,M,h⟩:=ev26 fail s hs
 exact⟨_,⟨v,hv,rfl⟩,M,h⟩
theorem k6q (t:Tm) (ht:t.thin):Ev n1 (fun v:(Int→Int→ByteArray→EL→EL→ρ)→ρ=>∃ u:Tm,u.thin∧u.args.length=t.args.length∧v=fun K=>K u.k u.n u.nm (Lv.rows u.ls) (Tm.rows u.args)) (fun fu K=>p89b fail fu K t.k t.n t.nm (Lv.rows t.ls) (Tm.rows t.args)):=by
 obtain⟨c,⟨hc1,hc2⟩,hc3,hc⟩:=z8q fail t ht
 exact⟨_,⟨c,hc1,hc2,rfl⟩,t.sz + 60,fun fu hf K=>hc fu K hf⟩
theorem k6p (l:Lv) (hl:l.thin):Ev n1 (T5 (ρ:=ρ)) (fun fu K=>p90 fail fu K l.k l.n (Lv.rows l.args)):=by
 obtain⟨v,hv,h⟩:=w0v fail l hl
 exact⟨_,⟨v,hv,rfl⟩,l.sz + 20,fun fu hf K=>h fu K hf⟩
theorem k6o (b:List UInt8) (hb:b.length≤1000000) (a:Nat) (ha:a≤b.length) (x:Int):Ev n1 (fun v:(Int→Int→EL→EL→Int→ρ)→ρ=>∃ (l:Lv) (a':Nat),l.thin∧a≤a'∧a'≤b.length∧v=fun K=>K l.k l.n (Lv.rows l.args) (E8 b) ((a':Nat):Int)) (fun fu K=>p91 fail fu K (E8 b) ((a:Nat):Int) x):=by
 obtain⟨l,a',h1,h2,h3,M,h⟩:=z8d fail b hb _ a ha (Nat.le_refl _) x
 exact⟨_,⟨l,a',h1,h2,h3,rfl⟩,M,h⟩
theorem k4s (b:List UInt8) (hb:b.length≤1000000) (how:Int) (nm:ByteArray):∀ (N:Nat) (t:Tm),t.sz≤N→t.thin→∀ a,a≤b.length→Ev n1 (T7 (ρ:=ρ) b a) (fun fu K=>p68 fail fu K t.k t.n t.nm (Lv.rows t.ls) (Tm.rows t.args) (E8 b) ((a:Nat):Int) how nm):=by
 intro N
 induction N with
 | zero=>intro t h;cases t;simp [Tm.sz] at h
 | succ N ih =>
  intro t hN ht a ha
  refine Ev.step (body:=fun n K=>p68_b fail n (p68 fail n) K t.k t.n t.nm (Lv.rows t.ls) (Tm.rows t.args) (E8 b) ((a:Nat):Int) how nm) (fun _ _=>rfl) ?_
  unfold p68_b
  refine Ev.bind (k6q fail t ht) ?_
  rintro _ ⟨c,hc1,hc2,rfl⟩
  have hlen:(Tm.rows t.args).length=t.args.length:=Tm.rows_len _
  have hclen:(Tm.rows c.args).length=c.args.length:=Tm.rows_len _
  have h1:∀ (a1:Nat) (q:Bool),a≤a1→a1≤b.length→(q=true→0 < t.args.length)→Ev n1 (T7 (ρ:=ρ) b a) (fun fu K=>p68_1 fail fu (p68 fail fu) K t.k t.n t.nm (Lv.rows t.ls) (Tm.rows t.args) how nm c.k c.n c.nm (Lv.rows c.ls) (Tm.rows c.args) (E8 b) ((a1:Nat):Int) q):=by
   intro a1 q haa ha1 hq
   unfold p68_1
   refine Ev.ite (fun hq'=>?_) (fun _=>?_)
   ·have hl:=hq hq'
    refine Ev.bind (w3o fail b hb a1 ha1 _ (by omega)) ?_
    rintro _ ⟨k,a2,k1,k4,k5,rfl⟩
    have hkl:k < t.args.length:=by omega
    have hmem:=List.getElem_mem hkl
    have hal:t.args.length≤1000:=by cases t;exact ht.2.1
    have hth:Tm.thins t.args:=by cases t;exact ht.2.2
    have hsz:1 + t.args[k].sz≤Tm.szs t.args:=Tm.szs_mem hmem
    have htz:Tm.szs t.args < t.sz:=by cases t;simp only [Tm.sz,Tm.args];omega
    have e:∀ κ:Int→Int→ByteArray→EL→EL→ρ,E0 fail (List.getD (Tm.rows t.args) (((k:Nat):Int)).toNat []) κ=κ t.args[k].k t.args[k].n t.args[k].nm (Lv.rows t.args[k].ls) (Tm.rows t.args[k].args):=fun κ=>by
     rw [Int.toNat_natCast,Tm.rows_get hkl,Tm.row_eq];rfl
    simp only [e]
    refine Ev.gd (by omega) (Ev.gd (by omega) (Ev.bind (ih t.args[k] (by omega) (Tm.thins_iff.1 hth _ hmem) a2 k5) ?_))
    rintro _ ⟨u,a3,hu,l6,l7,rfl⟩
    have hct:(Tm.mk c.k c.n c.nm c.ls (c.args.set k u)).thin:=by
     cases c with
     | mk q1 q2 q3 q4 q5 =>
      refine⟨hc1.1,by rw [List.length_set];exact hc1.2.1,Tm.thins_iff.2 fun z hz=>?_⟩
      rcases List.mem_or_eq_of_mem_set hz with hz | rfl
      ·exact Tm.thins_iff.1 hc1.2.2 z hz
      ·exact hu
    have e1:(List.getD (Tm.rows c.args) (((k:Nat):Int)).toNat []).length=5:=by rw [Int.toNat_natCast,Tm.rows_get (show k < c.args.length by omega),Tm.row_eq];rfl
    have e2:=w6w c.args k (by omega) u
    refine Ev.gd (by omega) (Ev.gd (by omega) (Ev.gd (by omega) (Ev.gd (by omega) (Ev.gd (by rw [List.length_set];omega) ?_))))
    simp only [Int.toNat_natCast]
    rw [e2,List.take_of_length_le (by simp only [Tm.rows_len,List.length_set];omega)]
    exact Ev.val _ ⟨.mk c.k c.n c.nm c.ls (c.args.set k u),a3,hct,by omega,l7,rfl⟩
   ·refine Ev.bind (k6n fail nm) ?_
    rintro _ ⟨g,hg,rfl⟩
    have fin:∀ {f:Nat→(Int→Int→ByteArray→EL→EL→ρ)→ρ},Ev n1 (T5 (ρ:=ρ)) f→Ev n1 (T7 (ρ:=ρ) b a) (fun fu K=>f fu (fun y1 y2 y3 y4 y5=>K y1 y2 y3 y4 y5 (E8 b) ((a1:Nat):Int))):=by
     intro f hf
     obtain⟨_,⟨w,hw,rfl⟩,M,h⟩:=hf
     exact⟨_,⟨w,a1,hw,haa,ha1,rfl⟩,M,fun fu hm K=>h fu hm _⟩
    refine Ev.gd (by omega) (Ev.ite (fun _=>?_) (fun _=>Ev.ite (fun _=>?_) (fun _=>Ev.ite (fun _=>?_) (fun _=>Ev.ite (fun _=>?_) (fun _=>Ev.ite (fun _=>?_) (fun _=>Ev.ite (fun _=>?_) (fun _=>Ev.ite (fun _=>?_) (fun _=>?_))))))))
    ·refine Ev.bind (z6n fail _ (by decide)) ?_
     rintro _ ⟨w,hw,rfl⟩
     refine Ev.bind (k0a fail t ht _ _) ?_
     rintro _ ⟨x,hx,rfl⟩
     refine Ev.bind (w6e fail w x hw hx) ?_
     rintro _ ⟨y,hy,rfl⟩
     exact Ev.val _ ⟨y,a1,hy,haa,ha1,rfl⟩
    ·exact Ev.val _ ⟨g,a1,hg,haa,ha1,rfl⟩
    ·refine Ev.bind (w3o fail b hb a1 ha1 4 (by omega)) ?_
     rintro _ ⟨k,a2,k1,k4,k5,rfl⟩
     exact⟨_,⟨.mk 0 k ⟨#[]⟩ [] [],a2,⟨⟨by simp,trivial⟩,by simp,trivial⟩,by omega,k5,rfl⟩,0,fun fu _ K=>by rfl⟩
    ·refine Ev.bind (k6o fail b hb a1 ha1 2) ?_
     rintro _ ⟨l,a2,hl,k4,k5,rfl⟩
     refine Ev.bind (k6p fail l hl) ?_
     rintro _ ⟨y,hy,rfl⟩
     exact Ev.val _ ⟨y,a2,hy,by omega,k5,rfl⟩
    ·refine Ev.bind (k0a fail t ht _ _) ?_
     rintro _ ⟨x,hx,rfl⟩
     refine Ev.bind (w6e fail g x hg hx) ?_
     rintro _ ⟨y,hy,rfl⟩
     exact Ev.val _ ⟨y,a1,hy,haa,ha1,rfl⟩
    ·refine Ev.bind (z6n fail _ (by decide)) ?_
     rintro _ ⟨w,hw,rfl⟩
     refine Ev.bind (w6e fail g w hg hw) ?_
     rintro _ ⟨z,hz,rfl⟩
     refine Ev.bind (k0a fail t ht _ _) ?_
     rintro _ ⟨x,hx,rfl⟩
     refine Ev.bind (w6e fail z x hz hx) ?_
     rintro _ ⟨y,hy,rfl⟩
     exact Ev.val _ ⟨y,a1,hy,haa,ha1,rfl⟩
    ·refine Ev.bind (z6n fail _ (by decide)) ?_
     rintro _ ⟨w,hw,rfl⟩
     refine Ev.bind (ev70 fail t w ht hw) ?_
     rintro _ ⟨y,hy,rfl⟩
     exact Ev.val _ ⟨y,a1,hy,haa,ha1,rfl⟩
    ·refine Ev.bind (z6n fail _ (by decide)) ?_
     rintro _ ⟨w,hw,rfl⟩
     refine Ev.bind (w6e fail w g hw hg) ?_
     rintro _ ⟨z,hz,rfl⟩
     refine Ev.bind (k0a fail t ht _ _) ?_
     rintro _ ⟨x,hx,rfl⟩
     refine Ev.bind (w6e fail z x hz hx) ?_
     rintro _ ⟨y,hy,rfl⟩
     exact Ev.val _ ⟨y,a1,hy,haa,ha1,rfl⟩
  refine Ev.ite (fun hl=>?_) (fun _=>h1 a false (by omega) ha (fun h=>nomatch h))
  have hl':0 < t.args.length:=by
   have:(0:Int) < (Tm.rows t.args).length:=by simpa [B0] using hl
   omega
  refine Ev.bind (w3o fail b hb a ha 3 (by omega)) ?_
  rintro _ ⟨k,a2,k1,k4,k5,rfl⟩
  exact h1 a2 _ k4 k5 (fun _=>hl')
end
end Go.Proofs.YtioiigabeoaneaaGreat
