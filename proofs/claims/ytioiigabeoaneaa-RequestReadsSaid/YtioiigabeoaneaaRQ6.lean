/- A part of the proof. Conditions: none. -/
import Derived.Test.YtioiigabeoaneaaRQ5
import Derived.Test.YtioiigabeoaneaaRQ4
namespace Go.Proofs.Ytioiigabeoaneaa
open Go V
set_option maxRecDepth 100000
set_option maxHeartbeats 4000000
abbrev RK35 (ρ:Type):=Int→Int→Int→Int→Int→Int→Int→Int→Int→Int→Int→ByteArray→ByteArray→Int→Int→ByteArray→EL→EL→Int→Int→ByteArray→EL→EL→EL→Int→Int→ByteArray→EL→EL→Int→Int→ByteArray→EL→EL→Int→ρ
def Rq.nam (q:Rq):ByteArray:=if fqN q.k=true then ⟨q.nm.toArray⟩ else q.d.nm
def rq0:Rq:=⟨0,0,0,0,(0,0),(0,0),dc0,[],tm0,tm0⟩
def rqOut {ρ:Type} (K:RK35 ρ) (q:Rq) (e:Int):ρ:=K (q.k:Nat) (q.pa:Nat) (q.fuel:Nat) (q.cells:Nat) (q.h.1:Nat) (q.h.2:Nat) (q.o.1:Nat) (q.o.2:Nat) q.d.k q.d.pa q.d.ct q.nam q.d.fam q.d.ty.k q.d.ty.n q.d.ty.nm (Lv.rows q.d.ty.ls) (Tm.rows q.d.ty.args) q.d.val.k q.d.val.n q.d.val.nm (Lv.rows q.d.val.ls) (Tm.rows q.d.val.args) (q.d.cs.map ctRow) q.t.k q.t.n q.t.nm (Lv.rows q.t.ls) (Tm.rows q.t.args) q.ty.k q.ty.n q.ty.nm (Lv.rows q.ty.ls) (Tm.rows q.ty.args) e
def rqEnd {ρ:Type} (K:RK35 ρ):Except Int (Rq × List UInt8)→ρ
 | .error e=>rqOut K rq0 e
 | .ok (q,[])=>rqOut K q 0
 | .ok (_,_ :: _)=>rqOut K rq0 5
theorem z8g {ρ:Type} {α:Type} (K:RK35 ρ) (f:List UInt8→Except Int (α × List UInt8)) (g:α→List UInt8→Except Int (Rq × List UInt8)) (bs:List UInt8) (r:ρ)
  (h1:∀ a b,f bs=.ok (a,b)→r=rqEnd K (g a b)) (h2:∀ e,f bs=.error e→r=rqOut K rq0 e):r=rqEnd K (bd f g bs):=by
 unfold bd
 cases h:f bs with
 | error e=>exact h2 e h
 | ok x=>obtain⟨a,b⟩:=x;exact h1 a b h
theorem z3q {ρ:Type} {α:Type} (K:RK35 ρ) (c:Bool) (z:α) (f:List UInt8→Except Int (α × List UInt8)) (g:α→List UInt8→Except Int (Rq × List UInt8)) (bs:List UInt8) (r r':ρ)
  (h1:c=true→∀ a b,f bs=.ok (a,b)→r=rqEnd K (g a b)) (h2:c=true→∀ e,f bs=.error e→r=rqOut K rq0 e) (h3:c=false→r'=rqEnd K (g z bs)):(bif c then r else r')=rqEnd K (bd (rdIf c z f) g bs):=by
 cases c with
 | true=>exact z8g K f g bs r (h1 rfl) (h2 rfl)
 | false=>exact h3 rfl
theorem z5g {ρ:Type} (fail:ρ) (fu:Nat) (hf:10≤fu) (bs:List UInt8) (hb:bs.length≤1099511627776):match z0i bs with
  | .ok ((hi,lo),r)=>r.length≤bs.length∧∀ K:Int→Int→EL→Int→ρ,p17 fail fu K (encB bs) 0=K (hi:Nat) (lo:Nat) (encB r) 0
  | .error e=>e≠0∧∃ a b B,∀ K:Int→Int→EL→Int→ρ,p17 fail fu K (encB bs) 0=K a b B e:=by
 have h1:=w6d (ρ:=ρ) fail fu hf bs hb
 unfold z0i bd
 cases hx:z4i bs with
 | error e =>
  rw [hx] at h1
  obtain⟨he,B,h1⟩:=h1
  dsimp only at h1 ⊢
  exact⟨he,0,0,B,fun K=>by rw [p17,h1,w8z _ _ _ _ _ he]⟩
 | ok x =>
  obtain⟨hi,r⟩:=x
  rw [hx] at h1
  dsimp only [KOut] at h1 ⊢
  have hr:=w0n hx
  have h2:=w6d (ρ:=ρ) fail fu hf r (by omega)
  cases hy:z4i r with
  | error e =>
   rw [hy] at h2
   obtain⟨he,B,h2⟩:=h2
   dsimp only at h2 ⊢
   exact⟨he,hi,0,B,fun K=>by rw [p17,h1,h2]⟩
  | ok x =>
   obtain⟨lo,r2⟩:=x
   rw [hy] at h2
   dsimp only [KOut] at h2 ⊢
   have hr2:=w0n hy
   exact⟨by omega,fun K=>by rw [p17,h1,h2]⟩
theorem w8s {ρ:Type} (fail:ρ) (fu:Nat) (K:Int→Int→EL→Int→ρ) (B:EL) (e:Int) (he:e≠0):p17 fail fu K B e=K 0 0 B e:=by
 rw [p17,w8z _ _ _ _ _ he,w8z _ _ _ _ _ he]
theorem w3d {ρ:Type} (fail:ρ) (fu:Nat) (K:Bool→Bool→Bool→Bool→Bool→Bool→Bool→Bool→Bool→ρ) (k:Nat):p14 fail fu K (k:Nat) =
  if 1≤k∧k≤18 then K (fqQ k) (fqH k) (fqO k) (fqD k) (fqP k) (fqT k) (fqY k) (fqN k) true else K false false false false false false false false false:=by
 by_cases h:1≤k∧k≤18
 ·rw [if_pos h]
  have:k=1∨k=2∨k=3∨k=4∨k=5∨k=6∨k=7∨k=8∨k=9∨k=10∨k=11∨k=12∨k=13∨k=14∨k=15∨k=16∨k=17∨k=18:=by omega
  rcases this with rfl | rfl | rfl | rfl | rfl | rfl | rfl | rfl | rfl | rfl | rfl | rfl | rfl | rfl | rfl | rfl | rfl | rfl<;>rfl
 ·rw [if_neg h]
  have hn:∀ j:Int,1≤j→j≤18→z0a .eql ((k:Nat):Int) j=false:=fun j h1 h2=>eqlF (by omega)
  have h1:=hn 1 (by decide) (by decide);have h2:=hn 2 (by decide) (by decide);have h3:=hn 3 (by decide) (by decide);have h4:=hn 4 (by decide) (by decide);have h5:=hn 5 (by decide) (by decide);have h6:=hn 6 (by decide) (by decide)
  have h7:=hn 7 (by decide) (by decide);have h8:=hn 8 (by decide) (by decide);have h9:=hn 9 (by decide) (by decide);have h10:=hn 10 (by decide) (by decide);have h11:=hn 11 (by decide) (by decide);have h12:=hn 12 (by decide) (by decide)
  have h13:=hn 13 (by decide) (by decide);have h14:=hn 14 (by decide) (by decide);have h15:=hn 15 (by decide) (by decide);have h16:=hn 16 (by decide) (by decide);have h17:=hn 17 (by decide) (by decide);have h18:=hn 18 (by decide) (by decide)
  simp only [p14,p14_1,p14_2,p14_3,p14_4,p14_5,p14_6,p14_7,p14_8,h1,h2,h3,h4,h5,h6,h7,h8,h9,h10,h11,h12,h13,h14,h15,h16,h17,h18,cond_false]
section
variable {ρ:Type} (fail:ρ) (fu:Nat) (hfu:250≤fu) (K:RK35 ρ)
theorem tE1 (y1 j17 j18 j21 j22 j25 j26 j30 j31 j32:Int) (j34:ByteArray) (j35 j36:Int) (j37:ByteArray) (j38 j39:EL) (j40 j41:Int) (j42:ByteArray) (j43 j44:EL) (j45:EL) (j48:Int) (j52 j53:Int) (j54:ByteArray) (j55 j56:EL) (j60 j61:Int) (j62:ByteArray) (j63 j64:EL) (j67:ByteArray) (B:EL) (e:Int) (he:e≠0):p6_1 fail fu K y1 j17 j18 j21 j22 j25 j26 j30 j31 j32 j34 j35 j36 j37 j38 j39 j40 j41 j42 j43 j44 j45 j48 j52 j53 j54 j55 j56 j60 j61 j62 j63 j64 j67 B e=rqOut K rq0 e:=by
 rw [p6_1,neqT he,cond_true];rfl
theorem tE2 (y1 j17 j18 j21 j22 j25 j26 j30 j31 j32:Int) (j34:ByteArray) (j35 j36:Int) (j37:ByteArray) (j38 j39:EL) (j40 j41:Int) (j42:ByteArray) (j43 j44:EL) (j45:EL) (j48:Int) (j52 j53:Int) (j54:ByteArray) (j55 j56:EL) (j60 j61:Int) (j62:ByteArray) (j63 j64:EL) (B:EL) (j67:ByteArray) (e:Int) (he:e≠0):p6_2 fail fu K y1 j17 j18 j21 j22 j25 j26 j30 j31 j32 j34 j35 j36 j37 j38 j39 j40 j41 j42 j43 j44 j45 j48 j52 j53 j54 j55 j56 j60 j61 j62 j63 j64 B e j67=rqOut K rq0 e:=by
 rw [p6_2]
 cases z0a .gtr ((B.length:Nat):Int) 0 with
 | true=>rw [cond_true,w3j _ _ _ _ _ _ he,tE1 fail fu K _ _ _ _ _ _ _ _ _ _ _ _ _ _ _ _ _ _ _ _ _ _ _ _ _ _ _ _ _ _ _ _ _ _ _ e he]
 | false=>rw [cond_false,tE1 fail fu K _ _ _ _ _ _ _ _ _ _ _ _ _ _ _ _ _ _ _ _ _ _ _ _ _ _ _ _ _ _ _ _ _ _ _ e he]
theorem tE3 (y1:Int) (y11:Bool) (j17 j18 j21 j22 j25 j26 j30 j31 j32:Int) (j33:ByteArray) (j34:ByteArray) (j35 j36:Int) (j37:ByteArray) (j38 j39:EL) (j40 j41:Int) (j42:ByteArray) (j43 j44:EL) (j45:EL) (j48:Int) (j52 j53:Int) (j54:ByteArray) (j55 j56:EL) (B:EL) (j60 j61:Int) (j62:ByteArray) (j63 j64:EL) (e:Int) (he:e≠0):p6_3 fail fu K y1 y11 j17 j18 j21 j22 j25 j26 j30 j31 j32 j33 j34 j35 j36 j37 j38 j39 j40 j41 j42 j43 j44 j45 j48 j52 j53 j54 j55 j56 B e j60 j61 j62 j63 j64=rqOut K rq0 e:=by
 rw [p6_3]
 cases y11 with
 | true =>
  rw [cond_true,textE _ _ _ _ _ he]
  exact tE2 fail fu K _ _ _ _ _ _ _ _ _ _ _ _ _ _ _ _ _ _ _ _ _ _ _ _ _ _ _ _ _ _ _ _ _ _ _ e he
 | false=>rw [cond_false,tE2 fail fu K _ _ _ _ _ _ _ _ _ _ _ _ _ _ _ _ _ _ _ _ _ _ _ _ _ _ _ _ _ _ _ _ _ _ _ e he]
theorem tE4 (y1:Int) (y11:Bool) (j17 j18 j21 j22 j25 j26 j30 j31 j32:Int) (j33:ByteArray) (j34:ByteArray) (j35 j36:Int) (j37:ByteArray) (j38 j39:EL) (j40 j41:Int) (j42:ByteArray) (j43 j44:EL) (j45:EL) (j48:Int) (B:EL) (j52 j53:Int) (j54:ByteArray) (j55 j56:EL) (e:Int) (he:e≠0):p6_4 fail fu K y1 y11 j17 j18 j21 j22 j25 j26 j30 j31 j32 j33 j34 j35 j36 j37 j38 j39 j40 j41 j42 j43 j44 j45 j48 B e j52 j53 j54 j55 j56 false=rqOut K rq0 e:=by
 rw [p6_4,cond_false,tE3 fail fu K _ _ _ _ _ _ _ _ _ _ _ _ _ _ _ _ _ _ _ _ _ _ _ _ _ _ _ _ _ _ _ _ _ _ _ _ e he]
theorem tE5 (y1:Int) (y10 y11:Bool) (j17 j18 j21 j22 j25 j26 j30 j31 j32:Int) (j33:ByteArray) (j34:ByteArray) (j35 j36:Int) (j37:ByteArray) (j38 j39:EL) (j40 j41:Int) (j42:ByteArray) (j43 j44:EL) (j45:EL) (j48:Int) (B:EL) (j52 j53:Int) (j54:ByteArray) (j55 j56:EL) (e:Int) (he:e≠0):p6_5 fail fu K y1 y10 y11 j17 j18 j21 j22 j25 j26 j30 j31 j32 j33 j34 j35 j36 j37 j38 j39 j40 j41 j42 j43 j44 j45 j48 B e j52 j53 j54 j55 j56=rqOut K rq0 e:=by
 rw [p6_5,eqlF he,tE4 fail fu K _ _ _ _ _ _ _ _ _ _ _ _ _ _ _ _ _ _ _ _ _ _ _ _ _ _ _ _ _ _ _ e he]
 cases y10<;>rfl
theorem tE6 (y1:Int) (y10 y11:Bool) (j17 j18 j21 j22 j25 j26 j30 j31 j32:Int) (j33:ByteArray) (j34:ByteArray) (j35 j36:Int) (j37:ByteArray) (j38 j39:EL) (j40 j41:Int) (j42:ByteArray) (j43 j44:EL) (j45:EL) (B:EL) (j48:Int) (e:Int) (he:e≠0):p6_6 fail fu K y1 y10 y11 j17 j18 j21 j22 j25 j26 j30 j31 j32 j33 j34 j35 j36 j37 j38 j39 j40 j41 j42 j43 j44 j45 B e j48 false=rqOut K rq0 e:=by
 rw [p6_6,cond_false,tE5 fail fu K _ _ _ _ _ _ _ _ _ _ _ _ _ _ _ _ _ _ _ _ _ _ _ _ _ _ _ _ _ _ _ _ e he]
theorem tE7 (y1:Int) (y9 y10 y11:Bool) (j17 j18 j21 j22 j25 j26 j30 j31 j32:Int) (j33:ByteArray) (j34:ByteArray) (j35 j36:Int) (j37:ByteArray) (j38 j39:EL) (j40 j41:Int) (j42:ByteArray) (j43 j44:EL) (j45:EL) (B:EL) (j48:Int) (e:Int) (he:e≠0):p6_7 fail fu K y1 y9 y10 y11 j17 j18 j21 j22 j25 j26 j30 j31 j32 j33 j34 j35 j36 j37 j38 j39 j40 j41 j42 j43 j44 j45 B e j48=rqOut K rq0 e:=by
 rw [p6_7,eqlF he,tE6 fail fu K _ _ _ _ _ _ _ _ _ _ _ _ _ _ _ _ _ _ _ _ _ _ _ _ _ _ _ e he]
 cases y9<;>rfl
theorem tE8 (y1:Int) (y8 y9 y10 y11:Bool) (j17 j18 j21 j22 j25 j26:Int) (B:EL) (j30 j31 j32:Int) (j33:ByteArray) (j34:ByteArray) (j35 j36:Int) (j37:ByteArray) (j38 j39:EL) (j40 j41:Int) (j42:ByteArray) (j43 j44:EL) (j45:EL) (e:Int) (he:e≠0):p6_8 fail fu K y1 y8 y9 y10 y11 j17 j18 j21 j22 j25 j26 B e j30 j31 j32 j33 j34 j35 j36 j37 j38 j39 j40 j41 j42 j43 j44 j45=rqOut K rq0 e:=by
 rw [p6_8]
 cases y8 with
 | true=>rw [cond_true,numE _ _ _ _ _ he,tE7 fail fu K _ _ _ _ _ _ _ _ _ _ _ _ _ _ _ _ _ _ _ _ _ _ _ _ _ _ _ _ e he]
 | false=>rw [cond_false,tE7 fail fu K _ _ _ _ _ _ _ _ _ _ _ _ _ _ _ _ _ _ _ _ _ _ _ _ _ _ _ _ e he]
theorem tE9 (y1:Int) (y8 y9 y10 y11:Bool) (j17 j18 j21 j22:Int) (B:EL) (j25 j26:Int) (e:Int) (he:e≠0):p6_9 fail fu K y1 y8 y9 y10 y11 j17 j18 j21 j22 B e j25 j26 false=rqOut K rq0 e:=by
 rw [p6_9,cond_false,tE8 fail fu K _ _ _ _ _ _ _ _ _ _ _ _ _ _ _ _ _ _ _ _ _ _ _ _ _ _ _ _ e he]
theorem tE10 (y1:Int) (y7 y8 y9 y10 y11:Bool) (j17 j18 j21 j22:Int) (B:EL) (j25 j26:Int) (e:Int) (he:e≠0):p6_10 fail fu K y1 y7 y8 y9 y10 y11 j17 j18 j21 j22 B e j25 j26=rqOut K rq0 e:=by
 rw [p6_10,eqlF he,tE9 fail fu K _ _ _ _ _ _ _ _ _ _ _ _ e he]
 cases y7<;>rfl
theorem tE11 (y1:Int) (y6 y7 y8 y9 y10 y11:Bool) (j17 j18:Int) (B:EL) (j21 j22:Int) (e:Int) (he:e≠0):p6_11 fail fu K y1 y6 y7 y8 y9 y10 y11 j17 j18 B e j21 j22=rqOut K rq0 e:=by
 rw [p6_11]
 cases y6 with
 | true=>rw [cond_true,w8s _ _ _ _ _ he,tE10 fail fu K _ _ _ _ _ _ _ _ _ _ _ _ _ e he]
 | false=>rw [cond_false,tE10 fail fu K _ _ _ _ _ _ _ _ _ _ _ _ _ e he]
theorem tE12 (y1:Int) (y5 y6 y7 y8 y9 y10 y11:Bool) (B:EL) (j17 j18:Int) (e:Int) (he:e≠0):p6_12 fail fu K y1 y5 y6 y7 y8 y9 y10 y11 B e j17 j18=rqOut K rq0 e:=by
 rw [p6_12]
 cases y5 with
 | true=>rw [cond_true,w8s _ _ _ _ _ he,tE11 fail fu K _ _ _ _ _ _ _ _ _ _ _ _ e he]
 | false=>rw [cond_false,tE11 fail fu K _ _ _ _ _ _ _ _ _ _ _ _ e he]
theorem tE13 (y1:Int) (y4 y5 y6 y7 y8 y9 y10 y11:Bool) (B:EL) (e:Int) (he:e≠0):p6_13 fail fu K y1 y4 y5 y6 y7 y8 y9 y10 y11 B e=rqOut K rq0 e:=by
 rw [p6_13]
 cases y4 with
 | true=>rw [cond_true,numE _ _ _ _ _ he,numE _ _ _ _ _ he,tE12 fail fu K _ _ _ _ _ _ _ _ _ _ _ e he]
 | false=>rw [cond_false,tE12 fail fu K _ _ _ _ _ _ _ _ _ _ _ e he]
include hfu
omit hfu in
theorem tS2 (k fuel cells:Nat) (h o:Nat × Nat) (d:Dc) (pa:Nat) (t ty:Tm) (nm:List UInt8) (s:ByteArray) (hs:s=if fqN k=true then ⟨nm.toArray⟩ else d.nm) (bs:List UInt8):p6_2 fail fu K (k:Nat) (fuel:Nat) (cells:Nat) (h.1:Nat) (h.2:Nat) (o.1:Nat) (o.2:Nat) d.k d.pa d.ct d.fam d.ty.k d.ty.n d.ty.nm (Lv.rows d.ty.ls) (Tm.rows d.ty.args) d.val.k d.val.n d.val.nm (Lv.rows d.val.ls) (Tm.rows d.val.args) (d.cs.map ctRow) (pa:Nat) t.k t.n t.nm (Lv.rows t.ls) (Tm.rows t.args) ty.k ty.n ty.nm (Lv.rows ty.ls) (Tm.rows ty.args) (encB bs) 0 s=rqEnd K (.ok (⟨k,pa,fuel,cells,h,o,d,nm,t,ty⟩,bs)):=by
 subst hs
 rw [p6_2,z0h]
 cases bs with
 | nil=>rw [gtrF (by simp),cond_false,p6_1,neqF rfl,cond_false];rfl
 | cons c bs=>rw [gtrT (by rw [List.length_cons];omega),cond_true,z2l,tE1 fail fu K _ _ _ _ _ _ _ _ _ _ _ _ _ _ _ _ _ _ _ _ _ _ _ _ _ _ _ _ _ _ _ _ _ _ _ 5 (by decide)];rfl
theorem tS3 (k fuel cells:Nat) (h o:Nat × Nat) (d:Dc) (pa:Nat) (t ty:Tm) (bs:List UInt8) (hb:bs.length≤1099511627776):p6_3 fail fu K (k:Nat) (fqN k) (fuel:Nat) (cells:Nat) (h.1:Nat) (h.2:Nat) (o.1:Nat) (o.2:Nat) d.k d.pa d.ct d.nm d.fam d.ty.k d.ty.n d.ty.nm (Lv.rows d.ty.ls) (Tm.rows d.ty.args) d.val.k d.val.n d.val.nm (Lv.rows d.val.ls) (Tm.rows d.val.args) (d.cs.map ctRow) (pa:Nat) t.k t.n t.nm (Lv.rows t.ls) (Tm.rows t.args) (encB bs) 0 ty.k ty.n ty.nm (Lv.rows ty.ls) (Tm.rows ty.args)=rqEnd K (bd (rdIf (fqN k) [] (rdTxt 24)) (fun nm=>rt ⟨k,pa,fuel,cells,h,o,d,nm,t,ty⟩) bs):=by
 rw [p6_3]
 refine z3q K _ _ _ _ _ _ _ (fun hc a b hx=>?_) (fun hc e hx=>?_) (fun hc=>?_)
 ·have h1:=z7e (ρ:=ρ) fail fu (by omega) bs hb 24 (by omega)
  rw [hx] at h1
  dsimp only [SOut] at h1
  have h1':=h1
  refine (h1' _).trans ?_
  rw [z1u]
  exact tS2 fail fu K k fuel cells h o d pa t ty a _ (by rw [if_pos hc]) b
 ·have h1:=z7e (ρ:=ρ) fail fu (by omega) bs hb 24 (by omega)
  rw [hx] at h1
  obtain⟨he,B,h1⟩:=h1
  refine (h1 _).trans ?_
  exact tE2 fail fu K _ _ _ _ _ _ _ _ _ _ _ _ _ _ _ _ _ _ _ _ _ _ _ _ _ _ _ _ _ _ _ _ _ _ _ e he
 ·exact tS2 fail fu K k fuel cells h o d pa t ty [] _ (by rw [hc];rfl) bs
theorem tS4 (k fuel cells:Nat) (h o:Nat × Nat) (d:Dc) (pa:Nat) (t:Tm) (bs:List UInt8) (hb:bs.length≤1099511627776):p6_5 fail fu K (k:Nat) (fqY k) (fqN k) (fuel:Nat) (cells:Nat) (h.1:Nat) (h.2:Nat) (o.1:Nat) (o.2:Nat) d.k d.pa d.ct d.nm d.fam d.ty.k d.ty.n d.ty.nm (Lv.rows d.ty.ls) (Tm.rows d.ty.args) d.val.k d.val.n d.val.nm (Lv.rows d.val.ls) (Tm.rows d.val.args) (d.cs.map ctRow) (pa:Nat) (encB bs) 0 t.k t.n t.nm (Lv.rows t.ls) (Tm.rows t.args)=rqEnd K ((bd (rdIf (fqY k) tm0 z0j) fun ty=>bd (rdIf (fqN k) [] (rdTxt 24)) fun nm=>rt ⟨k,pa,fuel,cells,h,o,d,nm,t,ty⟩) bs):=by
 rw [p6_5,eqlT rfl]
 refine z3q K _ _ _ _ _ _ _ (fun hc a b hx=>?_) (fun hc e hx=>?_) (fun hc=>?_)
 ·have h1:=z6a (ρ:=ρ) fail fu (by omega) bs hb
  rw [hx] at h1
  dsimp only [TmO2] at h1
  have hl:=congrArg List.length (z0w hx);rw [List.length_append] at hl
  rw [p6_4,cond_true,h1]
  exact tS3 fail fu hfu K k fuel cells h o d pa t a b (by omega)
 ·have h1:=z6a (ρ:=ρ) fail fu (by omega) bs hb
  rw [hx] at h1
  obtain⟨he,a,b,c,l,g,B,h1⟩:=h1
  dsimp only at h1
  rw [p6_4,cond_true,h1]
  exact tE3 fail fu K _ _ _ _ _ _ _ _ _ _ _ _ _ _ _ _ _ _ _ _ _ _ _ _ _ _ _ _ _ _ _ _ _ _ _ _ e he
 ·rw [p6_4,cond_false]
  exact tS3 fail fu hfu K k fuel cells h o d pa t tm0 bs hb
theorem tS6 (k fuel cells:Nat) (h o:Nat × Nat) (d:Dc) (pa:Nat) (bs:List UInt8) (hb:bs.length≤1099511627776):p6_7 fail fu K (k:Nat) (fqT k) (fqY k) (fqN k) (fuel:Nat) (cells:Nat) (h.1:Nat) (h.2:Nat) (o.1:Nat) (o.2:Nat) d.k d.pa d.ct d.nm d.fam d.ty.k d.ty.n d.ty.nm (Lv.rows d.ty.ls) (Tm.rows d.ty.args) d.val.k d.val.n d.val.nm (Lv.rows d.val.ls) (Tm.rows d.val.args) (d.cs.map ctRow) (encB bs) 0 (pa:Nat)=rqEnd K ((bd (rdIf (fqT k) tm0 z0j) fun t=>bd (rdIf (fqY k) tm0 z0j) fun ty=>bd (rdIf (fqN k) [] (rdTxt 24)) fun nm=>rt ⟨k,pa,fuel,cells,h,o,d,nm,t,ty⟩) bs):=by
 rw [p6_7,eqlT rfl]
 refine z3q K _ _ _ _ _ _ _ (fun hc a b hx=>?_) (fun hc e hx=>?_) (fun hc=>?_)
 ·have h1:=z6a (ρ:=ρ) fail fu (by omega) bs hb
  rw [hx] at h1
  dsimp only [TmO2] at h1
  have hl:=congrArg List.length (z0w hx);rw [List.length_append] at hl
  rw [p6_6,cond_true,h1]
  exact tS4 fail fu hfu K k fuel cells h o d pa a b (by omega)
 ·have h1:=z6a (ρ:=ρ) fail fu (by omega) bs hb
  rw [hx] at h1
  obtain⟨he,a,b,c,l,g,B,h1⟩:=h1
  dsimp only at h1
  rw [p6_6,cond_true,h1]
  exact tE5 fail fu K _ _ _ _ _ _ _ _ _ _ _ _ _ _ _ _ _ _ _ _ _ _ _ _ _ _ _ _ _ _ _ _ e he
 ·rw [p6_6,cond_false]
  exact tS4 fail fu hfu K k fuel cells h o d pa tm0 bs hb
theorem tS8 (k fuel cells:Nat) (h o:Nat × Nat) (d:Dc) (bs:List UInt8) (hb:bs.length≤1099511627776):p6_8 fail fu K (k:Nat) (fqP k) (fqT k) (fqY k) (fqN k) (fuel:Nat) (cells:Nat) (h.1:Nat) (h.2:Nat) (o.1:Nat) (o.2:Nat) (encB bs) 0 d.k d.pa d.ct d.nm d.fam d.ty.k d.ty.n d.ty.nm (Lv.rows d.ty.ls) (Tm.rows d.ty.args) d.val.k d.val.n d.val.nm (Lv.rows d.val.ls) (Tm.rows d.val.args) (d.cs.map ctRow)=rqEnd K ((bd (rdIf (fqP k) 0 rdNum) fun pa=>bd (rdIf (fqT k) tm0 z0j) fun t=>bd (rdIf (fqY k) tm0 z0j) fun ty=>bd (rdIf (fqN k) [] (rdTxt 24)) fun nm=>rt ⟨k,pa,fuel,cells,h,o,d,nm,t,ty⟩) bs):=by
 rw [p6_8]
 refine z3q K _ _ _ _ _ _ _ (fun hc a b hx=>?_) (fun hc e hx=>?_) (fun hc=>?_)
 ·have h1:=z4r (ρ:=ρ) fail fu (by omega) bs hb
  rw [hx] at h1
  dsimp only [KOut] at h1
  have hl:=(z0t hx).2.1
  rw [h1]
  exact tS6 fail fu hfu K k fuel cells h o d a b (by omega)
 ·have h1:=z4r (ρ:=ρ) fail fu (by omega) bs hb
  rw [hx] at h1
  obtain⟨he,B,h1⟩:=h1
  dsimp only at h1
  rw [h1]
  exact tE7 fail fu K _ _ _ _ _ _ _ _ _ _ _ _ _ _ _ _ _ _ _ _ _ _ _ _ _ _ _ _ e he
 ·exact tS6 fail fu hfu K k fuel cells h o d 0 bs hb
theorem tS10 (k fuel cells:Nat) (h o:Nat × Nat) (bs:List UInt8) (hb:bs.length≤1099511627776):p6_10 fail fu K (k:Nat) (fqD k) (fqP k) (fqT k) (fqY k) (fqN k) (fuel:Nat) (cells:Nat) (h.1:Nat) (h.2:Nat) (encB bs) 0 (o.1:Nat) (o.2:Nat)=rqEnd K ((bd (rdIf (fqD k) dc0 z1i) fun d=>bd (rdIf (fqP k) 0 rdNum) fun pa=>bd (rdIf (fqT k) tm0 z0j) fun t=>bd (rdIf (fqY k) tm0 z0j) fun ty=>bd (rdIf (fqN k) [] (rdTxt 24)) fun nm=>rt ⟨k,pa,fuel,cells,h,o,d,nm,t,ty⟩) bs):=by
 rw [p6_10,eqlT rfl]
 refine z3q K _ _ _ _ _ _ _ (fun hc a b hx=>?_) (fun hc e hx=>?_) (fun hc=>?_)
 ·have h1:=w9o (ρ:=ρ) fail fu (by omega) bs hb
  rw [hx] at h1
  dsimp only [DOut] at h1
  have hl:=congrArg List.length (z2p hx).1;rw [List.length_append] at hl
  rw [p6_9,cond_true,h1]
  exact tS8 fail fu hfu K k fuel cells h o a b (by omega)
 ·have h1:=w9o (ρ:=ρ) fail fu (by omega) bs hb
  rw [hx] at h1
  obtain⟨he,a,b,c,d,f,g,i,j,k1,l,m,n,p,q,r,s,B,h1⟩:=h1
  dsimp only at h1
  rw [p6_9,cond_true,h1]
  exact tE8 fail fu K _ _ _ _ _ _ _ _ _ _ _ _ _ _ _ _ _ _ _ _ _ _ _ _ _ _ _ _ e he
 ·rw [p6_9,cond_false]
  exact tS8 fail fu hfu K k fuel cells h o dc0 bs hb
theorem tS11 (k fuel cells:Nat) (h:Nat × Nat) (bs:List UInt8) (hb:bs.length≤1099511627776):p6_11 fail fu K (k:Nat) (fqO k) (fqD k) (fqP k) (fqT k) (fqY k) (fqN k) (fuel:Nat) (cells:Nat) (encB bs) 0 (h.1:Nat) (h.2:Nat)=rqEnd K ((bd (rdIf (fqO k) (0,0) z0i) fun o=>bd (rdIf (fqD k) dc0 z1i) fun d=>bd (rdIf (fqP k) 0 rdNum) fun pa=>bd (rdIf (fqT k) tm0 z0j) fun t=>bd (rdIf (fqY k) tm0 z0j) fun ty=>bd (rdIf (fqN k) [] (rdTxt 24)) fun nm=>rt ⟨k,pa,fuel,cells,h,o,d,nm,t,ty⟩) bs):=by
 rw [p6_11]
 refine z3q K _ _ _ _ _ _ _ (fun hc a b hx=>?_) (fun hc e hx=>?_) (fun hc=>?_)
 ·have h1:=z5g (ρ:=ρ) fail fu (by omega) bs hb
  rw [hx] at h1
  obtain⟨a1,a2⟩:=a
  obtain⟨hl,h1⟩:=h1
  rw [h1]
  exact tS10 fail fu hfu K k fuel cells h (a1,a2) b (by omega)
 ·have h1:=z5g (ρ:=ρ) fail fu (by omega) bs hb
  rw [hx] at h1
  obtain⟨he,a,b,B,h1⟩:=h1
  rw [h1]
  exact tE10 fail fu K _ _ _ _ _ _ _ _ _ _ _ _ _ e he
 ·exact tS10 fail fu hfu K k fuel cells h (0,0) bs hb
theorem tS12 (k fuel cells:Nat) (bs:List UInt8) (hb:bs.length≤1099511627776):p6_12 fail fu K (k:Nat) (fqH k) (fqO k) (fqD k) (fqP k) (fqT k) (fqY k) (fqN k) (encB bs) 0 (fuel:Nat) (cells:Nat)=rqEnd K ((bd (rdIf (fqH k) (0,0) z0i) fun h=>bd (rdIf (fqO k) (0,0) z0i) fun o=>bd (rdIf (fqD k) dc0 z1i) fun d=>bd (rdIf (fqP k) 0 rdNum) fun pa=>bd (rdIf (fqT k) tm0 z0j) fun t=>bd (rdIf (fqY k) tm0 z0j) fun ty=>bd (rdIf (fqN k) [] (rdTxt 24)) fun nm=>rt ⟨k,pa,fuel,cells,h,o,d,nm,t,ty⟩) bs):=by
 rw [p6_12]
 refine z3q K _ _ _ _ _ _ _ (fun hc a b hx=>?_) (fun hc e hx=>?_) (fun hc=>?_)
 ·have h1:=z5g (ρ:=ρ) fail fu (by omega) bs hb
  rw [hx] at h1
  obtain⟨a1,a2⟩:=a
  obtain⟨hl,h1⟩:=h1
  rw [h1]
  exact tS11 fail fu hfu K k fuel cells (a1,a2) b (by omega)
 ·have h1:=z5g (ρ:=ρ) fail fu (by omega) bs hb
  rw [hx] at h1
  obtain⟨he,a,b,B,h1⟩:=h1
  rw [h1]
  exact tE11 fail fu K _ _ _ _ _ _ _ _ _ _ _ _ e he
 ·exact tS11 fail fu hfu K k fuel cells (0,0) bs hb
theorem tS13 (k:Nat) (bs:List UInt8) (hb:bs.length≤1099511627776):p6_13 fail fu K (k:Nat) (fqQ k) (fqH k) (fqO k) (fqD k) (fqP k) (fqT k) (fqY k) (fqN k) (encB bs) 0=rqEnd K ((bd (rdIf (fqQ k) 0 rdNum) fun fuel=>bd (rdIf (fqQ k) 0 rdNum) fun cells=>bd (rdIf (fqH k) (0,0) z0i) fun h=>bd (rdIf (fqO k) (0,0) z0i) fun o=>bd (rdIf (fqD k) dc0 z1i) fun d=>bd (rdIf (fqP k) 0 rdNum) fun pa=>bd (rdIf (fqT k) tm0 z0j) fun t=>bd (rdIf (fqY k) tm0 z0j) fun ty=>bd (rdIf (fqN k) [] (rdTxt 24)) fun nm=>rt ⟨k,pa,fuel,cells,h,o,d,nm,t,ty⟩) bs):=by
 rw [p6_13]
 refine z3q K _ _ _ _ _ _ _ (fun hc a b hx=>?_) (fun hc e hx=>?_) (fun hc=>?_)
 ·have h1:=z4r (ρ:=ρ) fail fu (by omega) bs hb
  rw [hx] at h1
  dsimp only [KOut] at h1
  have hl:=(z0t hx).2.1
  rw [h1,hc]
  refine z8g K rdNum _ _ _ (fun a' b' hy=>?_) (fun e hy=>?_)
  ·have h2:=z4r (ρ:=ρ) fail fu (by omega) b (by omega)
   rw [hy] at h2
   dsimp only [KOut] at h2
   have hl2:=(z0t hy).2.1
   rw [h2]
   exact tS12 fail fu hfu K k a a' b' (by omega)
  ·have h2:=z4r (ρ:=ρ) fail fu (by omega) b (by omega)
   rw [hy] at h2
   obtain⟨he,B,h2⟩:=h2
   dsimp only at h2
   rw [h2]
   exact tE12 fail fu K _ _ _ _ _ _ _ _ _ _ _ e he
 ·have h1:=z4r (ρ:=ρ) fail fu (by omega) bs hb
  rw [hx] at h1
  obtain⟨he,B,h1⟩:=h1
  dsimp only at h1
  rw [h1,numE _ _ _ _ _ he]
  exact tE12 fail fu K _ _ _ _ _ _ _ _ _ _ _ e he
 ·rw [hc]
  exact tS12 fail fu hfu K k 0 0 bs hb
theorem k1o (bs:List UInt8) (hb:bs.length≤1099511627776):p6 fail fu K (encB bs)=rqEnd K (rdRq bs):=by
 have h1:=w1n (ρ:=ρ) fail fu (by omega) bs hb 0 1073741824 (by omega) (by omega)
 rw [p6]
 unfold rdRq
 have hz:∀ e:Int,e≠0→∀ B:EL,p6_13 fail fu K (0:Nat) false false false false false false false false B e=rqOut K rq0 e:=fun e he B=>tE13 fail fu K _ _ _ _ _ _ _ _ _ _ e he
 refine z8g K _ _ _ _ (fun k b hx=>?_) (fun e hx=>?_)
 ·rw [hx] at h1
  have h1':∀ K':Int→EL→Int→ρ,p13 fail fu K' (encB bs) 0 0 1073741824=K' (k:Nat) (encB b) 0:=h1
  rw [h1',w3d]
  have hl:=(z1g hx).2.2.1
  by_cases hk:1≤k∧k≤18
  ·rw [if_pos hk,Bool.not_true,cond_false,if_neg (by omega)]
   exact tS13 fail fu hfu K k b (by omega)
  ·rw [if_neg hk,Bool.not_false,cond_true,z2l,if_pos hk]
   exact tE13 fail fu K _ _ _ _ _ _ _ _ _ _ 5 (by decide)
 ·rw [hx] at h1
  obtain⟨he,B,h1⟩:=h1
  have h1':∀ K':Int→EL→Int→ρ,p13 fail fu K' (encB bs) 0 0 1073741824=K' (0:Nat) B e:=h1
  rw [h1',w3d,if_neg (by omega),Bool.not_false,cond_true,w3j _ _ _ _ _ _ he]
  exact hz e he B
end
def p21_1 {ρ:Type} (fail:ρ) (fu:Nat) (K0:Int→Int→Int→ρ) (z3 j7:Int) (j8:Bool):ρ :=
 bif j8 then (K0 0 0 5) else (K0 j7 (z0c .add .i64 z3 1) 0)
def p21_2 {ρ:Type} (fail:ρ) (fu:Nat) (K0:Int→Int→Int→ρ) (rec1:Int→Int→Int→ρ) (x0:EL) (z1 z2 z3:Int) (j4:Bool):ρ :=
 bif j4 then (K0 0 0 4) else (gd ((0:Int)≤z3) fail (gd ((z3:Int) < (x0.length:Nat)) fail (rw_u8 fail (List.getD x0 ((z3:Int).toNat) []) (fun c5=>gd ((128:Int)≠0) fail (gd ((0:Int)≤z3) fail (gd ((z3:Int) < (x0.length:Nat)) fail (rw_u8 fail (List.getD x0 ((z3:Int).toNat) []) (fun c6=>bif (z0a .lss c6 128) then (gd ((0:Int)≤z3) fail (gd ((z3:Int) < (x0.length:Nat)) fail (rw_u8 fail (List.getD x0 ((z3:Int).toNat) []) (fun c9=>bif (z0a .eql c9 0) then (p21_1 fail fu K0 z3 (z0c .add .u64 z1 (z0c .mul .u64 (IntKind.u64.wrap (z0c .rem .u8 c5 128)) z2)) (z0a .gtr z3 0)) else (p21_1 fail fu K0 z3 (z0c .add .u64 z1 (z0c .mul .u64 (IntKind.u64.wrap (z0c .rem .u8 c5 128)) z2)) false))))) else (rec1 (z0c .add .u64 z1 (z0c .mul .u64 (IntKind.u64.wrap (z0c .rem .u8 c5 128)) z2)) (z0c .mul .u64 z2 128) (z0c .add .i64 z3 1))))))))))
def p21_3 {ρ:Type} (fail:ρ) (fu:Nat) (K0:Int→Int→Int→ρ) (rec1:Int→Int→Int→ρ) (x0:EL) (z1 z2 z3:Int):ρ :=
 bif (z0a .lss z3 10) then (bif (z0a .geq z3 ((x0.length:Nat):Int)) then (K0 0 0 2) else (bif (z0a .eql z3 9) then (gd ((0:Int)≤z3) fail (gd ((z3:Int) < (x0.length:Nat)) fail (rw_u8 fail (List.getD x0 ((z3:Int).toNat) []) (fun c10=>p21_2 fail fu K0 rec1 x0 z1 z2 z3 (z0a .gtr c10 1))))) else (p21_2 fail fu K0 rec1 x0 z1 z2 z3 false))) else (K0 0 0 4)
def p21_3L {ρ:Type} (fail:ρ) (fu:Nat) (K0:Int→Int→Int→ρ) (x0:EL):Nat→Int→Int→Int→ρ
 | 0,_,_,_=>fail
 | n + 1,z1,z2,z3=>p21_3 fail fu K0 (p21_3L fail fu K0 x0 n) x0 z1 z2 z3
def p21 {ρ:Type} (fail:ρ) (fu:Nat) (K0:Int→Int→Int→ρ) (x0:EL):ρ :=
 p21_3L fail fu K0 x0 fu 0 1 0
def p46_1 {ρ:Type} (fail:ρ) (fu:Nat) (K0:EL→Int→Int→ρ) (x0:EL) (x1 j1:Int):ρ :=
 K0 x0 x1 j1
def p46 {ρ:Type} (fail:ρ) (fu:Nat) (K0:EL→Int→Int→ρ) (x0:EL) (x1 x2 x3:Int):ρ :=
 bif (z0a .eql x2 0) then (p46_1 fail fu K0 x0 x1 x3) else (p46_1 fail fu K0 x0 x1 x2)
def p45 {ρ:Type} (fail:ρ) (fu:Nat) (K0:Int→EL→Int→Int→ρ) (x0:EL) (x1 x2:Int):ρ :=
 bif (z0a .neq x2 0) then (K0 0 x0 x1 x2) else (gd ((0:Int)≤x1) fail (gd ((x1:Int)≤(x0.length:Nat)) fail (gd (((x0.length:Nat):Int)≤(x0.length:Nat)) fail (p21 fail fu (fun y1 y2 y3=>bif (z0a .neq y3 0) then (p46 fail fu (fun y4 y5 y6=>K0 0 y4 y5 y6) x0 x1 x2 y3) else (K0 y1 x0 (z0c .add .i64 x1 y2) x2)) (List.drop ((x1:Int).toNat) (List.take (((x0.length:Nat):Int).toNat) x0))))))
def p23 {ρ:Type} (fail:ρ) (fu:Nat) (K0:Int→EL→Int→Int→ρ) (x0:EL) (x1 x2:Int):ρ :=
 p45 fail fu (fun y1 y2 y3 y4=>bif (z0a .gtr y1 1073741824) then (p46 fail fu (fun y5 y6 y7=>K0 0 y5 y6 y7) y2 y3 y4 4) else (K0 (IntKind.i64.wrap y1) y2 y3 y4)) x0 x1 x2
def p48_1 {ρ:Type} (fail:ρ) (fu:Nat) (K0:Int→EL→Int→Int→ρ) (y1:Int) (j6:EL) (j7 j8:Int):ρ :=
 bif (z0a .neq j8 0) then (K0 0 j6 j7 j8) else (K0 (IntKind.i64.wrap y1) j6 j7 j8)
def p48_2 {ρ:Type} (fail:ρ) (fu:Nat) (K0:Int→EL→Int→Int→ρ) (y1:Int) (y2:EL) (y3 y4:Int) (j5:Bool):ρ :=
 bif j5 then (p46 fail fu (fun y9 y10 y11=>p48_1 fail fu K0 y1 y9 y10 y11) y2 y3 y4 5) else (p48_1 fail fu K0 y1 y2 y3 y4)
def p48 {ρ:Type} (fail:ρ) (fu:Nat) (K0:Int→EL→Int→Int→ρ) (x0:EL) (x1 x2 x3 x4:Int):ρ :=
 p45 fail fu (fun y1 y2 y3 y4=>bif (z0a .eql y4 0) then (bif (z0a .lss y1 x3) then (p48_2 fail fu K0 y1 y2 y3 y4 true) else (p48_2 fail fu K0 y1 y2 y3 y4 (z0a .gtr y1 x4))) else (p48_2 fail fu K0 y1 y2 y3 y4 false)) x0 x1 x2
def p50 {ρ:Type} (fail:ρ) (fu:Nat) (K0:EL→Int→Int→ρ) (x0:EL) (x1:Int):ρ :=
 p21 fail fu (fun y1 y2 y3=>bif (z0a .neq y3 0) then (K0 nilE 0 y3) else (bif (z0a .gtr y1 (IntKind.u64.wrap (if 0 > x1 then 0 else x1))) then (K0 nilE 0 3) else (bif (z0a .lss (IntKind.u64.wrap (z0c .sub .i64 ((x0.length:Nat):Int) y2)) y1) then (K0 nilE 0 2) else (gd ((0:Int)≤y2) fail (gd ((y2:Int)≤(z0c .add .i64 y2 (IntKind.i64.wrap y1))) fail (gd ((z0c .add .i64 y2 (IntKind.i64.wrap y1):Int)≤(x0.length:Nat)) fail (gd (0=nilE.length) fail (gd ((nilE.length + (List.drop ((y2:Int).toNat) (List.take ((z0c .add .i64 y2 (IntKind.i64.wrap y1):Int).toNat) x0)).length) * 1≤35184372088832) fail (K0 (nilE++(List.drop ((y2:Int).toNat) (List.take ((z0c .add .i64 y2 (IntKind.i64.wrap y1):Int).toNat) x0))) (z0c .add .i64 y2 (IntKind.i64.wrap y1)) 0))))))))) x0
def p27 {ρ:Type} (fail:ρ) (fu:Nat) (K0:ByteArray→EL→Int→Int→ρ) (x0:EL) (x1 x2:Int):ρ :=
 bif (z0a .neq x2 0) then (K0 ⟨#[]⟩ x0 x1 x2) else (gd ((0:Int)≤x1) fail (gd ((x1:Int)≤(x0.length:Nat)) fail (gd (((x0.length:Nat):Int)≤(x0.length:Nat)) fail (p50 fail fu (fun y1 y2 y3=>bif (z0a .neq y3 0) then (p46 fail fu (fun y4 y5 y6=>K0 ⟨#[]⟩ y4 y5 y6) x0 x1 x2 y3) else (tobP fail y1 (fun s7=>K0 s7 x0 (z0c .add .i64 x1 y2) x2))) (List.drop ((x1:Int).toNat) (List.take (((x0.length:Nat):Int).toNat) x0)) 24))))
def p73_1 {ρ:Type} (fail:ρ) (fu:Nat) (s_p73:(Int→Int→EL→EL→Int→Int→Int→ρ)→EL→Int→Int→Int→Int→ρ) (K0:Int→Int→EL→EL→Int→Int→Int→ρ) (rec1:EL→Int→Int→Int→EL→Int→ρ) (x3 y7 j15:Int) (z17:EL) (z18 z19 z20:Int) (z21:EL) (z22:Int) (j23:Bool):ρ :=
 bif j23 then (s_p73 (fun y24 y25 y26 y27 y28 y29 y30=>gd (1≤[[(CV.v (.int .i64 y24)),(CV.v (.int .i64 y25)),(CV.sl 3 y26 none)]].length) fail (gd ((z21.length + (List.take 1 [[(CV.v (.int .i64 y24)),(CV.v (.int .i64 y25)),(CV.sl 3 y26 none)]]).length) * 40≤35184372088832) fail (rec1 y27 y28 y29 y30 (z21++(List.take 1 [[(CV.v (.int .i64 y24)),(CV.v (.int .i64 y25)),(CV.sl 3 y26 none)]])) (z0c .add .i64 z22 1)))) z17 z18 z19 (z0c .add .i64 x3 1) z20) else (K0 y7 j15 z21 z17 z18 z19 z20)
def p73_2 {ρ:Type} (fail:ρ) (fu:Nat) (s_p73:(Int→Int→EL→EL→Int→Int→Int→ρ)→EL→Int→Int→Int→Int→ρ) (K0:Int→Int→EL→EL→Int→Int→Int→ρ) (rec1:EL→Int→Int→Int→EL→Int→ρ) (x3 y7 j15 j16:Int) (z17:EL) (z18 z19 z20:Int) (z21:EL) (z22:Int):ρ :=
 bif (z0a .lss z22 j16) then (p73_1 fail fu s_p73 K0 rec1 x3 y7 j15 z17 z18 z19 z20 z21 z22 (z0a .eql z19 0)) else (p73_1 fail fu s_p73 K0 rec1 x3 y7 j15 z17 z18 z19 z20 z21 z22 false)
def p73_2L {ρ:Type} (fail:ρ) (fu:Nat) (s_p73:(Int→Int→EL→EL→Int→Int→Int→ρ)→EL→Int→Int→Int→Int→ρ) (K0:Int→Int→EL→EL→Int→Int→Int→ρ) (x3 y7 j15 j16:Int):Nat→EL→Int→Int→Int→EL→Int→ρ
 | 0,_,_,_,_,_,_=>fail
 | n + 1,z17,z18,z19,z20,z21,z22=>p73_2 fail fu s_p73 K0 (p73_2L fail fu s_p73 K0 x3 y7 j15 j16 n) x3 y7 j15 j16 z17 z18 z19 z20 z21 z22
def p73_3 {ρ:Type} (fail:ρ) (fu:Nat) (s_p73:(Int→Int→EL→EL→Int→Int→Int→ρ)→EL→Int→Int→Int→Int→ρ) (K0:Int→Int→EL→EL→Int→Int→Int→ρ) (x3 y7:Int) (j11:EL) (j12 j13 j14 j15 j16:Int):ρ :=
 p73_2L fail fu s_p73 K0 x3 y7 j15 j16 fu j11 j12 j13 j14 nilE 0
def p73_4 {ρ:Type} (fail:ρ) (fu:Nat) (s_p73:(Int→Int→EL→EL→Int→Int→Int→ρ)→EL→Int→Int→Int→Int→ρ) (K0:Int→Int→EL→EL→Int→Int→Int→ρ) (x3 y7 j31:Int) (j33:EL) (j34 j35 j36 j37:Int):ρ :=
 p73_3 fail fu s_p73 K0 x3 y7 j33 j34 j35 j31 j36 j37
def p73_5 {ρ:Type} (fail:ρ) (fu:Nat) (s_p73:(Int→Int→EL→EL→Int→Int→Int→ρ)→EL→Int→Int→Int→Int→ρ) (K0:Int→Int→EL→EL→Int→Int→Int→ρ) (x3 y7 j31:Int) (j38:EL) (j39 j40 j41:Int):ρ :=
 p73_4 fail fu s_p73 K0 x3 y7 j31 j38 j39 j40 j41 0
def p73_6 {ρ:Type} (fail:ρ) (fu:Nat) (s_p73:(Int→Int→EL→EL→Int→Int→Int→ρ)→EL→Int→Int→Int→Int→ρ) (K0:Int→Int→EL→EL→Int→Int→Int→ρ) (x3 y7 j31 y42:Int) (j46:EL) (j47 j48:Int):ρ :=
 p73_5 fail fu s_p73 K0 x3 y7 j31 j46 j47 j48 y42
def p73_7 {ρ:Type} (fail:ρ) (fu:Nat) (s_p73:(Int→Int→EL→EL→Int→Int→Int→ρ)→EL→Int→Int→Int→Int→ρ) (K0:Int→Int→EL→EL→Int→Int→Int→ρ) (x3 y7:Int) (y8:EL) (y9 y10 j31:Int) (j32:Bool):ρ :=
 bif j32 then (p73_4 fail fu s_p73 K0 x3 y7 j31 y8 y9 y10 0 2) else (bif (z0a .eql y7 4) then (p23 fail fu (fun y42 y43 y44 y45=>bif (z0a .geq y42 4) then (p46 fail fu (fun y49 y50 y51=>p73_6 fail fu s_p73 K0 x3 y7 j31 y42 y49 y50 y51) y43 y44 y45 7) else (p73_6 fail fu s_p73 K0 x3 y7 j31 y42 y43 y44 y45)) y8 y9 y10) else (p73_5 fail fu s_p73 K0 x3 y7 j31 y8 y9 y10 0))
def p73_8 {ρ:Type} (fail:ρ) (fu:Nat) (s_p73:(Int→Int→EL→EL→Int→Int→Int→ρ)→EL→Int→Int→Int→Int→ρ) (K0:Int→Int→EL→EL→Int→Int→Int→ρ) (x3 x4:Int) (j4:EL) (j5 j6:Int):ρ :=
 p48 fail fu (fun y7 y8 y9 y10=>bif (z0a .eql y7 1) then (p73_3 fail fu s_p73 K0 x3 y7 y8 y9 y10 (z0c .sub .i64 x4 1) 0 1) else (bif (z0a .eql y7 2) then (p73_7 fail fu s_p73 K0 x3 y7 y8 y9 y10 (z0c .sub .i64 x4 1) (z0a .eql y7 2)) else (p73_7 fail fu s_p73 K0 x3 y7 y8 y9 y10 (z0c .sub .i64 x4 1) (z0a .eql y7 3)))) j4 j5 j6 0 4
def p73_9 {ρ:Type} (fail:ρ) (fu:Nat) (s_p73:(Int→Int→EL→EL→Int→Int→Int→ρ)→EL→Int→Int→Int→Int→ρ) (K0:Int→Int→EL→EL→Int→Int→Int→ρ) (x3 x4:Int) (j1:EL) (j2 j3:Int):ρ :=
 bif (z0a .gtr x3 32) then (p46 fail fu (fun y52 y53 y54=>p73_8 fail fu s_p73 K0 x3 x4 y52 y53 y54) j1 j2 j3 6) else (p73_8 fail fu s_p73 K0 x3 x4 j1 j2 j3)
def p73_b {ρ:Type} (fail:ρ) (fu:Nat) (s_p73:(Int→Int→EL→EL→Int→Int→Int→ρ)→EL→Int→Int→Int→Int→ρ) (K0:Int→Int→EL→EL→Int→Int→Int→ρ) (x0:EL) (x1 x2 x3 x4:Int):ρ :=
 bif (z0a .eql x4 0) then (p46 fail fu (fun y55 y56 y57=>p73_9 fail fu s_p73 K0 x3 x4 y55 y56 y57) x0 x1 x2 3) else (p73_9 fail fu s_p73 K0 x3 x4 x0 x1 x2)
def p73 {ρ:Type} (fail:ρ):Nat→(Int→Int→EL→EL→Int→Int→Int→ρ)→EL→Int→Int→Int→Int→ρ
 | 0,_,_,_,_,_,_=>fail
 | n + 1,K0,x0,x1,x2,x3,x4=>p73_b fail n (p73 fail n) K0 x0 x1 x2 x3 x4
def p63 {ρ:Type} (fail:ρ) (fu:Nat) (K0:Int→Int→EL→EL→Int→Int→ρ) (x0:EL) (x1 x2:Int):ρ :=
 p73 fail fu (fun y1 y2 y3 y4 y5 y6 y7=>K0 y1 y2 y3 y4 y5 y6) x0 x1 x2 1 64
def p64_1 {ρ:Type} (fail:ρ) (fu:Nat) (K0:Int→ρ) (x0:Int) (j2:Bool):ρ :=
 bif j2 then (K0 2) else (bif (z0a .eql x0 6) then (K0 3) else (K0 (-1)))
def p64_2 {ρ:Type} (fail:ρ) (fu:Nat) (K0:Int→ρ) (x0:Int) (j3:Bool):ρ :=
 p64_1 fail fu K0 x0 j3
def p64_3 {ρ:Type} (fail:ρ) (fu:Nat) (K0:Int→ρ) (x0:Int) (j1:Bool):ρ :=
 bif j1 then (K0 0) else (bif (z0a .eql x0 3) then (p64_1 fail fu K0 x0 (z0a .eql x0 3)) else (bif (z0a .eql x0 4) then (p64_2 fail fu K0 x0 (z0a .eql x0 4)) else (p64_2 fail fu K0 x0 (z0a .eql x0 5))))
def p64_4 {ρ:Type} (fail:ρ) (fu:Nat) (K0:Int→ρ) (x0:Int) (j4:Bool):ρ :=
 p64_3 fail fu K0 x0 j4
def p64 {ρ:Type} (fail:ρ) (fu:Nat) (K0:Int→ρ) (x0:Int):ρ :=
 bif (z0a .eql x0 0) then (p64_3 fail fu K0 x0 (z0a .eql x0 0)) else (bif (z0a .eql x0 1) then (p64_4 fail fu K0 x0 (z0a .eql x0 1)) else (p64_4 fail fu K0 x0 (z0a .eql x0 2)))
def p49_1 {ρ:Type} (fail:ρ) (fu:Nat) (s_p49:(Int→Int→ByteArray→EL→EL→EL→Int→Int→Int→ρ)→EL→Int→Int→Int→Int→ρ) (K0:Int→Int→ByteArray→EL→EL→EL→Int→Int→Int→ρ) (rec1:EL→Int→Int→Int→EL→Int→ρ) (x3 y7 y11:Int) (z15:EL) (z16 z17 z18:Int) (z19:EL) (z20:Int) (j21:Bool):ρ :=
 bif j21 then (s_p49 (fun y22 y23 y24 y25 y26 y27 y28 y29 y30=>gd (1≤[[(CV.v (.int .i64 y22)),(CV.v (.int .i64 y23)),(CV.v (.string y24)),(CV.sl 3 y25 none),(CV.sl 5 y26 none)]].length) fail (gd ((z19.length + (List.take 1 [[(CV.v (.int .i64 y22)),(CV.v (.int .i64 y23)),(CV.v (.string y24)),(CV.sl 3 y25 none),(CV.sl 5 y26 none)]]).length) * 80≤35184372088832) fail (rec1 y27 y28 y29 y30 (z19++(List.take 1 [[(CV.v (.int .i64 y22)),(CV.v (.int .i64 y23)),(CV.v (.string y24)),(CV.sl 3 y25 none),(CV.sl 5 y26 none)]])) (z0c .add .i64 z20 1)))) z15 z16 z17 (z0c .add .i64 x3 1) z18) else (K0 y7 y11 ⟨#[]⟩ nilE z19 z15 z16 z17 z18)
def p49_2 {ρ:Type} (fail:ρ) (fu:Nat) (s_p49:(Int→Int→ByteArray→EL→EL→EL→Int→Int→Int→ρ)→EL→Int→Int→Int→Int→ρ) (K0:Int→Int→ByteArray→EL→EL→EL→Int→Int→Int→ρ) (rec1:EL→Int→Int→Int→EL→Int→ρ) (x3 y7 y11:Int) (z15:EL) (z16 z17 z18:Int) (z19:EL) (z20:Int):ρ :=
 p64 fail fu (fun y31=>bif (z0a .lss z20 y31) then (p49_1 fail fu s_p49 K0 rec1 x3 y7 y11 z15 z16 z17 z18 z19 z20 (z0a .eql z17 0)) else (p49_1 fail fu s_p49 K0 rec1 x3 y7 y11 z15 z16 z17 z18 z19 z20 false)) y7
def p49_2L {ρ:Type} (fail:ρ) (fu:Nat) (s_p49:(Int→Int→ByteArray→EL→EL→EL→Int→Int→Int→ρ)→EL→Int→Int→Int→Int→ρ) (K0:Int→Int→ByteArray→EL→EL→EL→Int→Int→Int→ρ) (x3 y7 y11:Int):Nat→EL→Int→Int→Int→EL→Int→ρ
 | 0,_,_,_,_,_,_=>fail
 | n + 1,z15,z16,z17,z18,z19,z20=>p49_2 fail fu s_p49 K0 (p49_2L fail fu s_p49 K0 x3 y7 y11 n) x3 y7 y11 z15 z16 z17 z18 z19 z20
def p49_3 {ρ:Type} (fail:ρ) (fu:Nat) (s_p49:(Int→Int→ByteArray→EL→EL→EL→Int→Int→Int→ρ)→EL→Int→Int→Int→Int→ρ) (K0:Int→Int→ByteArray→EL→EL→EL→Int→Int→Int→ρ) (rec2:EL→Int→Int→Int→EL→EL→Int→ρ) (x3 y7:Int) (z38:EL) (z39 z40 z41:Int) (z42 z43:EL) (z44:Int) (j45:Bool):ρ :=
 bif j45 then (s_p49 (fun y46 y47 y48 y49 y50 y51 y52 y53 y54=>gd (1≤[[(CV.v (.int .i64 y46)),(CV.v (.int .i64 y47)),(CV.v (.string y48)),(CV.sl 3 y49 none),(CV.sl 5 y50 none)]].length) fail (gd ((z43.length + (List.take 1 [[(CV.v (.int .i64 y46)),(CV.v (.int .i64 y47)),(CV.v (.string y48)),(CV.sl 3 y49 none),(CV.sl 5 y50 none)]]).length) * 80≤35184372088832) fail (rec2 y51 y52 y53 y54 z42 (z43++(List.take 1 [[(CV.v (.int .i64 y46)),(CV.v (.int .i64 y47)),(CV.v (.string y48)),(CV.sl 3 y49 none),(CV.sl 5 y50 none)]])) (z0c .add .i64 z44 1)))) z38 z39 z40 (z0c .add .i64 x3 1) z41) else (gd (1≤z42.length) fail (K0 y7 0 ⟨#[]⟩ (List.take 1 z42) z43 z38 z39 z40 z41))
def p49_4 {ρ:Type} (fail:ρ) (fu:Nat) (s_p49:(Int→Int→ByteArray→EL→EL→EL→Int→Int→Int→ρ)→EL→Int→Int→Int→Int→ρ) (K0:Int→Int→ByteArray→EL→EL→EL→Int→Int→Int→ρ) (rec2:EL→Int→Int→Int→EL→EL→Int→ρ) (x3 y7:Int) (z38:EL) (z39 z40 z41:Int) (z42 z43:EL) (z44:Int):ρ :=
 p64 fail fu (fun y55=>bif (z0a .lss z44 y55) then (p49_3 fail fu s_p49 K0 rec2 x3 y7 z38 z39 z40 z41 z42 z43 z44 (z0a .eql z40 0)) else (p49_3 fail fu s_p49 K0 rec2 x3 y7 z38 z39 z40 z41 z42 z43 z44 false)) y7
def p49_4L {ρ:Type} (fail:ρ) (fu:Nat) (s_p49:(Int→Int→ByteArray→EL→EL→EL→Int→Int→Int→ρ)→EL→Int→Int→Int→Int→ρ) (K0:Int→Int→ByteArray→EL→EL→EL→Int→Int→Int→ρ) (x3 y7:Int):Nat→EL→Int→Int→Int→EL→EL→Int→ρ
 | 0,_,_,_,_,_,_,_=>fail
 | n + 1,z38,z39,z40,z41,z42,z43,z44=>p49_4 fail fu s_p49 K0 (p49_4L fail fu s_p49 K0 x3 y7 n) x3 y7 z38 z39 z40 z41 z42 z43 z44
def p49_5 {ρ:Type} (fail:ρ) (fu:Nat) (s_p49:(Int→Int→ByteArray→EL→EL→EL→Int→Int→Int→ρ)→EL→Int→Int→Int→Int→ρ) (K0:Int→Int→ByteArray→EL→EL→EL→Int→Int→Int→ρ) (rec3:EL→Int→Int→Int→EL→Int→ρ) (x3 y7:Int) (j60:ByteArray) (j61 z62:EL) (z63 z64 z65:Int) (z66:EL) (z67:Int) (j68:Bool):ρ :=
 bif j68 then (s_p49 (fun y69 y70 y71 y72 y73 y74 y75 y76 y77=>gd (1≤[[(CV.v (.int .i64 y69)),(CV.v (.int .i64 y70)),(CV.v (.string y71)),(CV.sl 3 y72 none),(CV.sl 5 y73 none)]].length) fail (gd ((z66.length + (List.take 1 [[(CV.v (.int .i64 y69)),(CV.v (.int .i64 y70)),(CV.v (.string y71)),(CV.sl 3 y72 none),(CV.sl 5 y73 none)]]).length) * 80≤35184372088832) fail (rec3 y74 y75 y76 y77 (z66++(List.take 1 [[(CV.v (.int .i64 y69)),(CV.v (.int .i64 y70)),(CV.v (.string y71)),(CV.sl 3 y72 none),(CV.sl 5 y73 none)]])) (z0c .add .i64 z67 1)))) z62 z63 z64 (z0c .add .i64 x3 1) z65) else (K0 y7 0 j60 j61 z66 z62 z63 z64 z65)
def p49_6 {ρ:Type} (fail:ρ) (fu:Nat) (s_p49:(Int→Int→ByteArray→EL→EL→EL→Int→Int→Int→ρ)→EL→Int→Int→Int→Int→ρ) (K0:Int→Int→ByteArray→EL→EL→EL→Int→Int→Int→ρ) (rec3:EL→Int→Int→Int→EL→Int→ρ) (x3 y7:Int) (j60:ByteArray) (j61 z62:EL) (z63 z64 z65:Int) (z66:EL) (z67:Int):ρ :=
 p64 fail fu (fun y78=>bif (z0a .lss z67 y78) then (p49_5 fail fu s_p49 K0 rec3 x3 y7 j60 j61 z62 z63 z64 z65 z66 z67 (z0a .eql z64 0)) else (p49_5 fail fu s_p49 K0 rec3 x3 y7 j60 j61 z62 z63 z64 z65 z66 z67 false)) y7
def p49_6L {ρ:Type} (fail:ρ) (fu:Nat) (s_p49:(Int→Int→ByteArray→EL→EL→EL→Int→Int→Int→ρ)→EL→Int→Int→Int→Int→ρ) (K0:Int→Int→ByteArray→EL→EL→EL→Int→Int→Int→ρ) (x3 y7:Int) (j60:ByteArray) (j61:EL):Nat→EL→Int→Int→Int→EL→Int→ρ
 | 0,_,_,_,_,_,_=>fail
 | n + 1,z62,z63,z64,z65,z66,z67=>p49_6 fail fu s_p49 K0 (p49_6L fail fu s_p49 K0 x3 y7 j60 j61 n) x3 y7 j60 j61 z62 z63 z64 z65 z66 z67
def p49_7 {ρ:Type} (fail:ρ) (fu:Nat) (s_p49:(Int→Int→ByteArray→EL→EL→EL→Int→Int→Int→ρ)→EL→Int→Int→Int→Int→ρ) (K0:Int→Int→ByteArray→EL→EL→EL→Int→Int→Int→ρ) (x3 y7:Int) (j56:EL) (j57 j58 j59:Int) (j60:ByteArray) (j61:EL):ρ :=
 p49_6L fail fu s_p49 K0 x3 y7 j60 j61 fu j56 j57 j58 j59 nilE 0
def p49_8 {ρ:Type} (fail:ρ) (fu:Nat) (s_p49:(Int→Int→ByteArray→EL→EL→EL→Int→Int→Int→ρ)→EL→Int→Int→Int→Int→ρ) (K0:Int→Int→ByteArray→EL→EL→EL→Int→Int→Int→ρ) (rec4:EL→Int→Int→EL→Int→ρ) (x3 y7:Int) (y79:ByteArray) (j90:Int) (z91:EL) (z92 z93:Int) (z94:EL) (z95:Int) (j96:Bool):ρ :=
 bif j96 then (p63 fail fu (fun y97 y98 y99 y100 y101 y102=>gd (1≤[[(CV.v (.int .i64 y97)),(CV.v (.int .i64 y98)),(CV.sl 3 y99 none)]].length) fail (gd ((z94.length + (List.take 1 [[(CV.v (.int .i64 y97)),(CV.v (.int .i64 y98)),(CV.sl 3 y99 none)]]).length) * 40≤35184372088832) fail (rec4 y100 y101 y102 (z94++(List.take 1 [[(CV.v (.int .i64 y97)),(CV.v (.int .i64 y98)),(CV.sl 3 y99 none)]])) (z0c .add .i64 z95 1)))) z91 z92 z93) else (p49_7 fail fu s_p49 K0 x3 y7 z91 z92 z93 j90 y79 z94)
def p49_9 {ρ:Type} (fail:ρ) (fu:Nat) (s_p49:(Int→Int→ByteArray→EL→EL→EL→Int→Int→Int→ρ)→EL→Int→Int→Int→Int→ρ) (K0:Int→Int→ByteArray→EL→EL→EL→Int→Int→Int→ρ) (rec4:EL→Int→Int→EL→Int→ρ) (x3 y7:Int) (y79:ByteArray) (y83 j90:Int) (z91:EL) (z92 z93:Int) (z94:EL) (z95:Int):ρ :=
 bif (z0a .lss z95 y83) then (p49_8 fail fu s_p49 K0 rec4 x3 y7 y79 j90 z91 z92 z93 z94 z95 (z0a .eql z93 0)) else (p49_8 fail fu s_p49 K0 rec4 x3 y7 y79 j90 z91 z92 z93 z94 z95 false)
def p49_9L {ρ:Type} (fail:ρ) (fu:Nat) (s_p49:(Int→Int→ByteArray→EL→EL→EL→Int→Int→Int→ρ)→EL→Int→Int→Int→Int→ρ) (K0:Int→Int→ByteArray→EL→EL→EL→Int→Int→Int→ρ) (x3 y7:Int) (y79:ByteArray) (y83 j90:Int):Nat→EL→Int→Int→EL→Int→ρ
 | 0,_,_,_,_,_=>fail
 | n + 1,z91,z92,z93,z94,z95=>p49_9 fail fu s_p49 K0 (p49_9L fail fu s_p49 K0 x3 y7 y79 y83 j90 n) x3 y7 y79 y83 j90 z91 z92 z93 z94 z95
def p49_10 {ρ:Type} (fail:ρ) (fu:Nat) (s_p49:(Int→Int→ByteArray→EL→EL→EL→Int→Int→Int→ρ)→EL→Int→Int→Int→Int→ρ) (K0:Int→Int→ByteArray→EL→EL→EL→Int→Int→Int→ρ) (x3 y7:Int) (y79:ByteArray) (y83:Int) (j87:EL) (j88 j89 j90:Int):ρ :=
 p49_9L fail fu s_p49 K0 x3 y7 y79 y83 j90 fu j87 j88 j89 nilE 0
def p49_11 {ρ:Type} (fail:ρ) (fu:Nat) (s_p49:(Int→Int→ByteArray→EL→EL→EL→Int→Int→Int→ρ)→EL→Int→Int→Int→Int→ρ) (K0:Int→Int→ByteArray→EL→EL→EL→Int→Int→Int→ρ) (x3 x4:Int) (j4:EL) (j5 j6:Int):ρ :=
 p48 fail fu (fun y7 y8 y9 y10=>bif (z0a .neq y10 0) then (K0 y7 0 ⟨#[]⟩ nilE nilE y8 y9 y10 (z0c .sub .i64 x4 1)) else (bif (z0a .eql y7 0) then (p23 fail fu (fun y11 y12 y13 y14=>p49_2L fail fu s_p49 K0 x3 y7 y11 fu y12 y13 y14 (z0c .sub .i64 x4 1) nilE 0) y8 y9 y10) else (bif (z0a .eql y7 1) then (p63 fail fu (fun y32 y33 y34 y35 y36 y37=>p49_4L fail fu s_p49 K0 x3 y7 fu y35 y36 y37 (z0c .sub .i64 x4 1) [[(CV.v (.int .i64 y32)),(CV.v (.int .i64 y33)),(CV.sl 3 y34 none)]] nilE 0) y8 y9 y10) else (bif (z0a .eql y7 2) then (p27 fail fu (fun y79 y80 y81 y82=>p23 fail fu (fun y83 y84 y85 y86=>bif (z0a .gtr y83 4) then (p46 fail fu (fun y103 y104 y105=>p49_10 fail fu s_p49 K0 x3 y7 y79 y83 y103 y104 y105 (z0c .sub .i64 x4 1)) y84 y85 y86 7) else (p49_10 fail fu s_p49 K0 x3 y7 y79 y83 y84 y85 y86 (z0c .sub .i64 x4 1))) y80 y81 y82) y8 y9 y10) else (p49_7 fail fu s_p49 K0 x3 y7 y8 y9 y10 (z0c .sub .i64 x4 1) ⟨#[]⟩ nilE))))) j4 j5 j6 0 6
def p49_12 {ρ:Type} (fail:ρ) (fu:Nat) (s_p49:(Int→Int→ByteArray→EL→EL→EL→Int→Int→Int→ρ)→EL→Int→Int→Int→Int→ρ) (K0:Int→Int→ByteArray→EL→EL→EL→Int→Int→Int→ρ) (x3 x4:Int) (j1:EL) (j2 j3:Int):ρ :=
 bif (z0a .gtr x3 100) then (p46 fail fu (fun y106 y107 y108=>p49_11 fail fu s_p49 K0 x3 x4 y106 y107 y108) j1 j2 j3 6) else (p49_11 fail fu s_p49 K0 x3 x4 j1 j2 j3)
def p49_b {ρ:Type} (fail:ρ) (fu:Nat) (s_p49:(Int→Int→ByteArray→EL→EL→EL→Int→Int→Int→ρ)→EL→Int→Int→Int→Int→ρ) (K0:Int→Int→ByteArray→EL→EL→EL→Int→Int→Int→ρ) (x0:EL) (x1 x2 x3 x4:Int):ρ :=
 bif (z0a .eql x4 0) then (p46 fail fu (fun y109 y110 y111=>p49_12 fail fu s_p49 K0 x3 x4 y109 y110 y111) x0 x1 x2 3) else (p49_12 fail fu s_p49 K0 x3 x4 x0 x1 x2)
def p49 {ρ:Type} (fail:ρ):Nat→(Int→Int→ByteArray→EL→EL→EL→Int→Int→Int→ρ)→EL→Int→Int→Int→Int→ρ
 | 0,_,_,_,_,_,_=>fail
 | n + 1,K0,x0,x1,x2,x3,x4=>p49_b fail n (p49 fail n) K0 x0 x1 x2 x3 x4
def p26 {ρ:Type} (fail:ρ) (fu:Nat) (K0:Int→Int→ByteArray→EL→EL→EL→Int→Int→ρ) (x0:EL) (x1 x2:Int):ρ :=
 p49 fail fu (fun y1 y2 y3 y4 y5 y6 y7 y8 y9=>K0 y1 y2 y3 y4 y5 y6 y7 y8) x0 x1 x2 1 2000
theorem k2k (c:UInt8):z0c .rem .u8 ((c.toNat:Nat):Int) 128=((c.toNat % 128:Nat):Int):=by
 have:∀ x:Fin 256,z0c .rem .u8 ((x.val:Nat):Int) 128=((x.val % 128:Nat):Int):=by decide +kernel
 exact this ⟨c.toNat,c.toNat_lt⟩
theorem mulU (a b:Nat) (h:a * b < 2 ^ 64):z0c .mul .u64 (a:Nat) (b:Nat)=((a * b:Nat):Int):=by
 show IntKind.u64.wrap ((a:Int) * (b:Int))=_
 rw [show (a:Int) * (b:Int)=((a * b:Nat):Int) by push_cast;rfl,z2v _ h]
theorem addU (a b:Nat) (h:a + b < 2 ^ 64):z0c .add .u64 (a:Nat) (b:Nat)=((a + b:Nat):Int):=by
 show IntKind.u64.wrap ((a:Int) + (b:Int))=_
 rw [show (a:Int) + (b:Int)=((a + b:Nat):Int) by push_cast;rfl,z2v _ h]
theorem w4k {ρ:Type} (fail:ρ) (fu:Nat) (K:Int→Int→Int→ρ) (bs:List UInt8) (hl:bs.length≤1099511627776):∀ (n i a:Nat) (u:Int),i≤9→i≤bs.length→11≤n + i→a < 2 ^ (7 * i)→u=((2 ^ (7 * i):Nat):Int) →
  p21_3L fail fu K (encB bs) n (a:Nat) u (i:Nat)=tvK i a K (tv i (bs.drop i)):=by
 intro n
 induction n with
 | zero=>intro i a u hi;omega
 | succ n ih =>
  intro i a u hi hib hn ha hu
  rw [p21_3L,p21_3,lssT (by omega),cond_true,z0h]
  by_cases hlt:i < bs.length
  ·have hd:bs.drop i=bs[i] :: bs.drop (i + 1):=List.drop_eq_getElem_cons hlt
   rw [geqF (by omega),cond_false,hd]
   have hr:∀ k:Int→ρ,rw_u8 fail (List.getD (encB bs) ((i:Int).toNat) []) k=k ((bs[i]).toNat:Nat):=fun k=>z8t fail bs i hlt k
   generalize bs[i]=c at hr
   have hc:=c.toNat_lt
   have h9:∀ b:Bool,(b=decide (i=9∧1 < c.toNat))→p21_2 fail fu K (p21_3L fail fu K (encB bs) n) (encB bs) (a:Nat) u (i:Nat) b=tvK i a K (tv i (c :: bs.drop (i + 1))):=fun b hb=>by
    rw [p21_2]
    simp only [tv]
    by_cases h9:i=9∧1 < c.toNat
    ·rw [hb,decide_eq_true h9,cond_true,if_pos h9];rfl
    ·rw [hb,decide_eq_false h9,cond_false,if_neg h9]
     have hu64:IntKind.u64.wrap ((c.toNat % 128:Nat):Int)=((c.toNat % 128:Nat):Int):=z2v _ (by omega)
     have hm64:c.toNat % 128 * 2 ^ (7 * i) < 2 ^ 64∧a + c.toNat % 128 * 2 ^ (7 * i) < 2 ^ 64:=by
      by_cases hi9:i=9
      ·subst hi9
       have:c.toNat≤1:=by rcases Nat.lt_or_ge 1 c.toNat with q | q;exact absurd ⟨rfl,q⟩ h9;exact q
       have h63:(2:Nat) ^ 64=2 * 2 ^ (7 * 9):=by decide
       have h2:c.toNat % 128≤1:=by omega
       have:=Nat.mul_le_mul_right (2 ^ (7 * 9)) h2
       omega
      ·have hp:2 ^ (7 * (i + 1))=128 * 2 ^ (7 * i):=by rw [show 7 * (i + 1)=7 * i + 7 by omega,Nat.pow_add];omega
       have hm64:128 * 2 ^ (7 * i)≤2 ^ 64:=by rw [← hp];exact Nat.pow_le_pow_right (by omega) (by omega)
       have:c.toNat % 128 * 2 ^ (7 * i)≤127 * 2 ^ (7 * i):=Nat.mul_le_mul_right _ (by omega)
       omega
     have hacc:z0c .add .u64 ((a:Nat):Int) (z0c .mul .u64 (IntKind.u64.wrap (z0c .rem .u8 ((c.toNat:Nat):Int) 128)) u)=((a + c.toNat % 128 * 2 ^ (7 * i):Nat):Int):=by
      rw [k2k,hu64,hu,mulU _ _ hm64.1,addU _ _ hm64.2]
     rw [gd_y (by omega),gd_y (by rw [z0h];omega),hr,gd_y (by decide),gd_y (by omega),gd_y (by rw [z0h];omega),hr,hacc]
     by_cases hc2:128≤c.toNat
     ·have hi9:i≠9:=fun q=>h9 ⟨q,by omega⟩
      have hp:2 ^ (7 * (i + 1))=128 * 2 ^ (7 * i):=by rw [show 7 * (i + 1)=7 * i + 7 by omega,Nat.pow_add];omega
      have hsum:a + c.toNat % 128 * 2 ^ (7 * i) < 2 ^ (7 * (i + 1)):=by
       rw [hp]
       have:c.toNat % 128 * 2 ^ (7 * i)≤127 * 2 ^ (7 * i):=Nat.mul_le_mul_right _ (by omega)
       omega
      have hu2:z0c .mul .u64 u 128=((2 ^ (7 * (i + 1)):Nat):Int):=by
       have h8:(2:Nat) ^ (7 * (i + 1)) < 2 ^ 64:=Nat.pow_lt_pow_right (by omega) (by omega)
       rw [hu,show (128:Int)=((128:Nat):Int) from rfl,mulU _ _ (by omega),hp,Nat.mul_comm]
      rw [lssF (by omega),cond_false,if_pos hc2,hu2,addZ (by omega) (by omega)]
      have:=ih (i + 1) (a + c.toNat % 128 * 2 ^ (7 * i)) _ (by omega) (by omega) (by omega) hsum rfl
      rw [show ((i:Nat):Int) + 1=((i + 1:Nat):Int) by omega,this]
      cases tv (i + 1) (bs.drop (i + 1)) with
      | error e=>rfl
      | ok x =>
       obtain⟨v,k⟩:=x
       simp only [tvK]
       rw [show a + c.toNat % 128 * 2 ^ (7 * i) + v * 2 ^ (7 * (i + 1))=a + (c.toNat - 128 + 128 * v) * 2 ^ (7 * i) by
        rw [hp,show c.toNat % 128=c.toNat - 128 by omega,Nat.add_mul,Nat.mul_comm 128 v,Nat.mul_assoc v 128];omega,show i + 1 + k=i + (k + 1) by omega]
     ·rw [lssT (by omega),cond_true,if_neg hc2,gd_y (by omega),gd_y (by rw [z0h];omega),hr]
      have hmod:c.toNat % 128=c.toNat:=by omega
      rw [hmod]
      by_cases hz:c.toNat=0
      ·rw [eqlT (by omega),cond_true,p21_1]
       by_cases h0:0 < i
       ·rw [gtrT (by omega),cond_true,if_pos ⟨hz,h0⟩];rfl
       ·rw [gtrF (by omega),cond_false,if_neg (fun q=>h0 q.2),addZ (by omega) (by omega)];rfl
      ·rw [eqlF (by omega),cond_false,p21_1,cond_false,if_neg (fun q=>hz q.1),addZ (by omega) (by omega)];rfl
   by_cases hi9:i=9
   ·rw [eqlT (by omega),cond_true,gd_y (by omega),gd_y (by omega),hr]
    exact h9 _ (by rw [Bool.eq_iff_iff];simp [z0a,hi9];omega)
   ·rw [eqlF (by omega),cond_false]
    exact h9 _ (by simp [hi9])
  ·rw [geqT (by omega),cond_true,List.drop_eq_nil_of_le (by omega)];rfl
theorem z8x {ρ:Type} (fail:ρ) (fu:Nat) (hf:11≤fu) (K:Int→Int→Int→ρ) (bs:List UInt8) (hl:bs.length≤1099511627776):p21 fail fu K (encB bs)=tvK 0 0 K (tv 0 bs):=by
 rw [p21]
 exact w4k fail fu K bs hl fu 0 0 1 (by omega) (by omega) (by omega) (by omega) (by simp)
def Sfx (all bs:List UInt8):Prop:=∃ pre,all=pre++bs
def atR (all bs:List UInt8):Int:=((all.length - bs.length:Nat):Int)
theorem Sfx.len {all bs:List UInt8} (h:Sfx all bs):bs.length≤all.length:=by obtain⟨p,rfl⟩:=h;simp
theorem Sfx.drop {all bs:List UInt8} (h:Sfx all bs):all.drop (all.length - bs.length)=bs:=by
 obtain⟨p,rfl⟩:=h;simp
theorem Sfx.app {all c r:List UInt8} (h:Sfx all (c++r)):Sfx all r:=by obtain⟨p,rfl⟩:=h;exact⟨p++c,by simp⟩
theorem Sfx.dropn {all bs:List UInt8} (h:Sfx all bs) (k:Nat):Sfx all (bs.drop k):=by
 have:=h;rw [← List.take_append_drop k bs] at this;exact this.app
theorem Sfx.refl (bs:List UInt8):Sfx bs bs:=⟨[],rfl⟩
section
variable {ρ:Type} (fail:ρ) (fu:Nat) (all:List UInt8) (hall:all.length≤1099511627776)
theorem z2x (K:EL→Int→Int→ρ) (B:EL) (a e:Int):p46 fail fu K B a 0 e=K B a e:=by
 rw [p46,eqlT rfl,cond_true,p46_1]
theorem k0w (K:EL→Int→Int→ρ) (B:EL) (a e e':Int) (h:e≠0):p46 fail fu K B a e e'=K B a e:=by
 rw [p46,eqlF h,cond_false,p46_1]
def KO6 {ρ:Type} (all:List UInt8) (p:(Int→EL→Int→Int→ρ)→ρ):Except Int (Nat × List UInt8)→Prop
 | .ok (v,r)=>∀ K:Int→EL→Int→Int→ρ,p K=K (v:Nat) (encB all) (atR all r) 0
 | .error e=>e≠0∧∃ a,∀ K:Int→EL→Int→Int→ρ,p K=K 0 (encB all) a e
theorem w1s (_:all.length≤1099511627776) {bs:List UInt8} (hs:Sfx all bs):List.drop ((atR all bs).toNat) (List.take ((((encB all).length:Nat):Int).toNat) (encB all))=encB bs:=by
 rw [Int.toNat_natCast,List.take_of_length_le (Nat.le_refl _),atR,Int.toNat_natCast,z4z,hs.drop]
include hall
theorem k1i (hf:11≤fu) (bs:List UInt8) (hs:Sfx all bs):KO6 all (fun K=>p45 fail fu K (encB all) (atR all bs) 0) (rdV bs):=by
 have hl:=hs.len
 have hv:=fun K=>z8x (ρ:=ρ) fail fu hf K bs (by omega)
 have h1:∀ K,p45 fail fu K (encB all) (atR all bs) 0=p21 fail fu (fun y1 y2 y3=>bif (z0a .neq y3 0) then (p46 fail fu (fun y4 y5 y6=>K 0 y4 y5 y6) (encB all) (atR all bs) 0 y3) else (K y1 (encB all) (z0c .add .i64 (atR all bs) y2) 0)) (encB bs):=fun K=>by
  rw [p45,neqF rfl,cond_false,gd_y (by unfold atR;omega),gd_y (by rw [z0h];unfold atR;omega),gd_y (by omega),w1s all hall hs]
 unfold rdV
 cases ht:tv 0 bs with
 | error e =>
  have he:=w0f _ _ _ ht
  rw [ht] at hv
  refine⟨by omega,atR all bs,fun K=>?_⟩
  dsimp only
  rw [h1,hv]
  simp only [tvK]
  rw [neqT (by omega),cond_true,z2x]
 | ok x =>
  obtain⟨v,k⟩:=x
  have hk:=z8o _ _ _ _ ht
  rw [ht] at hv
  intro K
  dsimp only
  rw [h1,hv]
  simp only [tvK]
  rw [neqF rfl,cond_false,addZ (by unfold atR;omega) (by omega)]
  simp only [Nat.pow_zero,Nat.mul_one,Nat.zero_add,Nat.mul_zero]
  congr 1
  unfold atR
  rw [List.length_drop];omega
omit hall in
theorem anyE (K:Int→EL→Int→Int→ρ) (B:EL) (a e:Int) (h:e≠0):p45 fail fu K B a e=K 0 B a e:=by
 rw [p45,neqT h,cond_true]
theorem z2o (hf:11≤fu) (bs:List UInt8) (hs:Sfx all bs):KO6 all (fun K=>p23 fail fu K (encB all) (atR all bs) 0) (rdNum bs):=by
 have ha:=k1i (ρ:=ρ) fail fu all hall hf bs hs
 unfold rdNum
 cases hr:rdV bs with
 | error e =>
  rw [hr] at ha
  obtain⟨he,a,hA⟩:=ha
  dsimp only at hA
  refine⟨he,a,fun K=>?_⟩
  dsimp only
  rw [p23,hA,gtrF (by omega),cond_false,z3h (by omega)]
 | ok x =>
  obtain⟨v,r⟩:=x
  rw [hr] at ha
  simp only [KO6] at ha
  dsimp only
  by_cases hv:1073741824 < v
  ·rw [if_pos hv]
   refine⟨by decide,atR all r,fun K=>?_⟩
   dsimp only
   rw [p23,ha,gtrT (by omega),cond_true,z2x]
  ·rw [if_neg hv]
   intro K
   dsimp only
   rw [p23,ha,gtrF (by omega),cond_false,z3h (by omega)]
omit hall in
theorem rnumE (K:Int→EL→Int→Int→ρ) (B:EL) (a e:Int) (h:e≠0):p23 fail fu K B a e=K 0 B a e:=by
 rw [p23,anyE _ _ _ _ _ _ h,gtrF (by omega),cond_false,z3h (by omega)]
theorem z6f (hf:11≤fu) (bs:List UInt8) (hs:Sfx all bs) (lo hi:Nat) (h2:hi≤100):KO6 all (fun K=>p48 fail fu K (encB all) (atR all bs) 0 (lo:Nat) (hi:Nat)) (z2c lo hi bs):=by
 have ha:=k1i (ρ:=ρ) fail fu all hall hf bs hs
 unfold z2c
 cases hr:rdV bs with
 | error e =>
  rw [hr] at ha
  obtain⟨he,a,hA⟩:=ha
  dsimp only at hA
  refine⟨he,a,fun K=>?_⟩
  dsimp only
  rw [p48,hA,eqlF he,cond_false,p48_2,cond_false,p48_1,neqT he,cond_true]
 | ok x =>
  obtain⟨v,r⟩:=x
  rw [hr] at ha
  simp only [KO6] at ha
  dsimp only
  by_cases hlo:v < lo
  ·rw [if_pos (.inl hlo)]
   refine⟨by decide,atR all r,fun K=>?_⟩
   dsimp only
   rw [p48,ha,eqlT rfl,cond_true,lssT (by omega),cond_true,p48_2,cond_true,z2x,p48_1,neqT (by decide),cond_true]
  ·by_cases hhi:hi < v
   ·rw [if_pos (.inr hhi)]
    refine⟨by decide,atR all r,fun K=>?_⟩
    dsimp only
    rw [p48,ha,eqlT rfl,cond_true,lssF (by omega),cond_false,gtrT (by omega),p48_2,cond_true,z2x,p48_1,neqT (by decide),cond_true]
   ·rw [if_neg (by omega)]
    intro K
    dsimp only
    rw [p48,ha,eqlT rfl,cond_true,lssF (by omega),cond_false,gtrF (by omega),p48_2,cond_false,p48_1,neqF rfl,cond_false,z3h (by omega)]
omit hall in
theorem w2j (K:Int→EL→Int→Int→ρ) (B:EL) (a e:Int) (h:e≠0) (lo hi:Int):p48 fail fu K B a e lo hi=K 0 B a e:=by
 rw [p48,anyE _ _ _ _ _ _ h,eqlF h,cond_false,p48_2,cond_false,p48_1,neqT h,cond_true]
def NO6 {ρ:Type} (all:List UInt8) (p:(ByteArray→EL→Int→Int→ρ)→ρ):Except Int (List UInt8 × List UInt8)→Prop
 | .ok (s,r)=>∀ K:ByteArray→EL→Int→Int→ρ,p K=K ⟨s.toArray⟩ (encB all) (atR all r) 0
 | .error e=>e≠0∧∃ a,∀ K:ByteArray→EL→Int→Int→ρ,p K=K ⟨#[]⟩ (encB all) a e
theorem z5c (hf:11≤fu) (bs:List UInt8) (hs:Sfx all bs):NO6 all (fun K=>p27 fail fu K (encB all) (atR all bs) 0) (rdTxt 24 bs):=by
 have hl:=hs.len
 have hv:=fun K=>z8x (ρ:=ρ) fail fu hf K bs (by omega)
 have h1:∀ K,p27 fail fu K (encB all) (atR all bs) 0=p50 fail fu (fun y1 y2 y3=>bif (z0a .neq y3 0) then (p46 fail fu (fun y4 y5 y6=>K ⟨#[]⟩ y4 y5 y6) (encB all) (atR all bs) 0 y3) else (tobP fail y1 (fun s7=>K s7 (encB all) (z0c .add .i64 (atR all bs) y2) 0))) (encB bs) 24:=fun K=>by
  rw [p27,neqF rfl,cond_false,gd_y (by unfold atR;omega),gd_y (by rw [z0h];unfold atR;omega),gd_y (by omega),w1s all hall hs]
 have hw24:IntKind.u64.wrap (if (0:Int) > 24 then 0 else 24)=((24:Nat):Int):=by decide
 unfold rdTxt rdV
 cases ht:tv 0 bs with
 | error e =>
  have he:=w0f _ _ _ ht
  rw [ht] at hv
  refine⟨by omega,atR all bs,fun K=>?_⟩
  dsimp only
  rw [h1,p50,hv]
  simp only [tvK]
  rw [neqT (show e≠0 by omega),cond_true,cond_true,z2x]
 | ok x =>
  obtain⟨v,k⟩:=x
  have hk:=z8o _ _ _ _ ht
  have hv64:=w5h ht
  rw [ht] at hv
  dsimp only
  have h2:∀ K,p50 fail fu K (encB bs) 24=bif z0a .gtr ((v:Nat):Int) ((24:Nat):Int) then K nilE 0 3 else bif z0a .lss (((bs.length:Nat):Int) - ((k:Nat):Int)) ((v:Nat):Int) then K nilE 0 2 else K (encB ((bs.drop k).take v)) ((k + v:Nat):Int) 0:=fun K=>by
   rw [p50,hv]
   simp only [tvK]
   rw [neqF rfl,cond_false,hw24,z0h]
   simp only [Nat.pow_zero,Nat.mul_one,Nat.zero_add,Nat.mul_zero]
   rw [subZ (by omega) (by omega),w1x (show 0≤((bs.length:Nat):Int) - ((k:Nat):Int)∧((bs.length:Nat):Int) - ((k:Nat):Int)≤18446744073709551615 by omega)]
   by_cases c1:24 < v
   ·rw [gtrT (by omega),cond_true,cond_true]
   ·rw [gtrF (show ((v:Nat):Int)≤((24:Nat):Int) by omega),cond_false,cond_false]
    by_cases c2:bs.length - k < v
    ·rw [lssT (by omega),cond_true,cond_true]
    ·rw [lssF (show ((v:Nat):Int)≤((bs.length:Nat):Int) - ((k:Nat):Int) by omega),cond_false,cond_false,z3h (show -9223372036854775808≤((v:Nat):Int)∧((v:Nat):Int)≤9223372036854775807 by omega),addZ (by omega) (by omega)]
     have hd:List.drop (((k:Nat):Int)).toNat (List.take ((((k:Nat):Int) + ((v:Nat):Int))).toNat (encB bs))=encB ((bs.drop k).take v):=by
      rw [z6x,z4z,Int.toNat_natCast,show (((k:Nat):Int) + ((v:Nat):Int)).toNat=k + v by omega,List.drop_take]
      congr 2;omega
     rw [hd,gd_y (by omega),gd_y (by omega),gd_y (by omega),gd_y (by simp),gd_y (by simp;omega),List.nil_append,show ((k:Nat):Int) + ((v:Nat):Int)=((k + v:Nat):Int) by omega]
  by_cases c1:24 < v
  ·rw [if_pos c1]
   refine⟨by decide,atR all bs,fun K=>?_⟩
   dsimp only
   rw [h1,h2,gtrT (by omega),cond_true,neqT (by decide),cond_true,z2x]
  ·rw [if_neg c1]
   by_cases c2:(bs.drop k).length < v
   ·rw [if_pos c2]
    rw [List.length_drop] at c2
    refine⟨by decide,atR all bs,fun K=>?_⟩
    dsimp only
    rw [h1,h2,gtrF (by omega),cond_false,lssT (by omega),cond_true,neqT (by decide),cond_true,z2x]
   ·rw [if_neg c2]
    rw [List.length_drop] at c2
    intro K
    dsimp only
    rw [h1,h2,gtrF (by omega),cond_false,lssF (by omega),cond_false,neqF rfl,cond_false,z1u,addZ (by unfold atR;omega) (by omega)]
    congr 1
    unfold atR
    rw [List.length_drop,List.length_drop];omega
omit hall in
theorem z8w (K:ByteArray→EL→Int→Int→ρ) (B:EL) (a e:Int) (h:e≠0):p27 fail fu K B a e=K ⟨#[]⟩ B a e:=by
 rw [p27,neqT h,cond_true]
end
def p47_1 {ρ:Type} (fail:ρ) (fu:Nat) (K0:Int→Int→ρ) (rec1:Int→Int→ρ) (x0:EL) (z1 z2:Int):ρ :=
 bif (z0a .lss z2 8) then (gd ((0:Int)≤z2) fail (gd ((z2:Int) < (x0.length:Nat)) fail (rw_u8 fail (List.getD x0 ((z2:Int).toNat) []) (fun c3=>rec1 (z0c .add .u64 (z0c .mul .u64 z1 256) (IntKind.u64.wrap c3)) (z0c .add .i64 z2 1))))) else (K0 z1 0)
def p47_1L {ρ:Type} (fail:ρ) (fu:Nat) (K0:Int→Int→ρ) (x0:EL):Nat→Int→Int→ρ
 | 0,_,_=>fail
 | n + 1,z1,z2=>p47_1 fail fu K0 (p47_1L fail fu K0 x0 n) x0 z1 z2
def p47 {ρ:Type} (fail:ρ) (fu:Nat) (K0:Int→Int→ρ) (x0:EL):ρ :=
 bif (z0a .lss ((x0.length:Nat):Int) 8) then (K0 0 2) else (p47_1L fail fu K0 x0 fu 0 0)
def p24 {ρ:Type} (fail:ρ) (fu:Nat) (K0:Int→Int→EL→Int→Int→ρ) (x0:EL) (x1 x2:Int):ρ :=
 bif (z0a .neq x2 0) then (K0 0 0 x0 x1 x2) else (bif (z0a .lss (z0c .sub .i64 ((x0.length:Nat):Int) x1) 16) then (K0 0 0 x0 x1 2) else (gd ((0:Int)≤x1) fail (gd ((x1:Int)≤(x0.length:Nat)) fail (gd (((x0.length:Nat):Int)≤(x0.length:Nat)) fail (p47 fail fu (fun y1 y2=>gd ((0:Int)≤(z0c .add .i64 x1 8)) fail (gd ((z0c .add .i64 x1 8:Int)≤(x0.length:Nat)) fail (gd (((x0.length:Nat):Int)≤(x0.length:Nat)) fail (p47 fail fu (fun y3 y4=>K0 y1 y3 x0 (z0c .add .i64 x1 16) x2) (List.drop ((z0c .add .i64 x1 8:Int).toNat) (List.take (((x0.length:Nat):Int).toNat) x0)))))) (List.drop ((x1:Int).toNat) (List.take (((x0.length:Nat):Int).toNat) x0)))))))
def rdHd (bs:List UInt8):Except Int ((Nat × Nat) × List UInt8):=if bs.length < 16 then .error 2 else .ok ((be (bs.take 8),be ((bs.drop 8).take 8)),bs.drop 16)
theorem w4d {ρ:Type} (fail:ρ) (fu:Nat) (K:Int→Int→ρ) (l:List UInt8) (hl:8≤l.length):∀ (r i n:Nat),i + r=8→r < n →
  p47_1L fail fu K (encB l) n ((be (l.take i):Nat):Int) ((i:Nat):Int)=K ((be (l.take 8):Nat):Int) 0:=by
 intro r
 induction r with
 | zero =>
  intro i n hi hn
  obtain⟨n,rfl⟩:∃ m,n=m + 1:=⟨n - 1,by omega⟩
  rw [p47_1L,p47_1,lssF (by omega),cond_false,show i=8 by omega]
 | succ r ih =>
  intro i n hi hn
  obtain⟨n,rfl⟩:∃ m,n=m + 1:=⟨n - 1,by omega⟩
  have hlt:i < l.length:=by omega
  have hb:be (l.take (i + 1))=be (l.take i) * 256 + (l[i]).toNat:=by rw [List.take_succ_eq_append_getElem hlt,w5d]
  have hc:=(l[i]).toNat_lt
  have h64:be (l.take (i + 1)) < 2 ^ 64:=Nat.lt_of_lt_of_le (be_lt (i + 1) _ (by rw [List.length_take];omega)) (Nat.pow_le_pow_right (by omega) (by omega))
  have hacc:z0c .add .u64 (z0c .mul .u64 ((be (l.take i):Nat):Int) 256) (IntKind.u64.wrap (((l[i]).toNat:Nat):Int))=((be (l.take (i + 1)):Nat):Int):=by
   rw [show (256:Int)=((256:Nat):Int) from rfl,mulU _ _ (by omega),z2v _ (by omega),addU _ _ (by omega),hb]
  rw [p47_1L,p47_1,lssT (by omega),cond_true,gd_y (by omega),gd_y (by rw [z0h];omega),z8t fail l i hlt,hacc,addZ (by omega) (by omega),show ((i:Nat):Int) + 1=((i + 1:Nat):Int) by omega]
  exact ih (i + 1) n (by omega) (by omega)
theorem w2a {ρ:Type} (fail:ρ) (fu:Nat) (hf:10≤fu) (K:Int→Int→ρ) (l:List UInt8) (hl:8≤l.length):p47 fail fu K (encB l)=K ((be (l.take 8):Nat):Int) 0:=by
 rw [p47,z0h,lssF (by omega),cond_false]
 exact w4d fail fu K l hl 8 0 fu (by omega) (by omega)
section
variable {ρ:Type} (fail:ρ) (fu:Nat) (all:List UInt8) (hall:all.length≤4000)
def HO6 {ρ:Type} (all:List UInt8) (p:(Int→Int→EL→Int→Int→ρ)→ρ):Except Int ((Nat × Nat) × List UInt8)→Prop
 | .ok ((h,l),r)=>∀ K:Int→Int→EL→Int→Int→ρ,p K=K (h:Nat) (l:Nat) (encB all) (atR all r) 0
 | .error e=>e≠0∧∃ a,∀ K:Int→Int→EL→Int→Int→ρ,p K=K 0 0 (encB all) a e
include hall in
theorem z8f (hf:10≤fu) (bs:List UInt8) (hs:Sfx all bs):HO6 all (fun K=>p24 fail fu K (encB all) (atR all bs) 0) (rdHd bs):=by
 have hl:=hs.len
 have hall':all.length≤1099511627776:=by omega
 have hat:atR all bs=((all.length - bs.length:Nat):Int):=rfl
 unfold rdHd
 by_cases h:bs.length < 16
 ·rw [if_pos h]
  refine⟨by decide,atR all bs,fun K=>?_⟩
  dsimp only
  rw [p24,neqF rfl,cond_false,z0h,subZ (by omega) (by omega),lssT (by omega),cond_true]
 ·rw [if_neg h]
  intro K
  dsimp only
  have hd8:Sfx all (bs.drop 8):=hs.dropn 8
  have hat8:z0c .add .i64 (atR all bs) 8=atR all (bs.drop 8):=by rw [addZ (by omega) (by omega),hat];unfold atR;rw [List.length_drop];omega
  have hat16:z0c .add .i64 (atR all bs) 16=atR all (bs.drop 16):=by rw [addZ (by omega) (by omega),hat];unfold atR;rw [List.length_drop];omega
  have hat8':atR all (bs.drop 8)=((all.length - (bs.length - 8):Nat):Int):=by unfold atR;rw [List.length_drop]
  rw [p24,neqF rfl,cond_false,z0h,subZ (by omega) (by omega),lssF (by omega),cond_false,gd_y (by omega),gd_y (by omega),gd_y (by omega)]
  have e1:=w1s all hall' hs
  have e2:=w1s all hall' hd8
  rw [z0h] at e1 e2
  rw [e1,w2a fail fu hf _ bs (by omega),hat8,gd_y (by omega),gd_y (by omega),gd_y (by omega),e2,w2a fail fu hf _ _ (by rw [List.length_drop];omega),hat16]
end
theorem Sfx.of {all bs c r:List UInt8} (h:Sfx all bs) (k:bs=c++r):Sfx all r:=by rw [k] at h;exact h.app
abbrev LK7 (ρ:Type):=Int→Int→EL→EL→Int→Int→Int→ρ
def LvO7 {ρ:Type} (all:List UInt8) (p:LK7 ρ→ρ):Except Int (Lv × List UInt8 × Nat)→Prop
 | .ok (l,bs,q)=>∀ K:LK7 ρ,p K=K l.k l.n (Lv.rows l.args) (encB all) (atR all bs) 0 ((64 - q:Nat):Int)
 | .error e=>e≠0∧∃ a b c B at' q,∀ K:LK7 ρ,p K=K a b c B at' e q
section
variable {ρ:Type} (fail:ρ) (fu:Nat) (all:List UInt8) (hall:all.length≤1099511627776)
section
variable (s:LK7 ρ→EL→Int→Int→Int→Int→ρ)
theorem w5m (K:LK7 ρ) (d k j n:Int) (B:EL) (a e q:Int) (z:EL) (i:Int) (h:¬ i < n∨e≠0) (m:Nat):p73_2L fail fu s K d k j n (m + 1) B a e q z i=K k j z B a e q:=by
 rw [p73_2L,p73_2]
 rcases h with h | h
 ·rw [lssF (by omega),cond_false,p73_1,cond_false]
 ·by_cases h2:i < n
  ·rw [lssT h2,cond_true,eqlF h,p73_1,cond_false]
  ·rw [lssF (by omega),cond_false,p73_1,cond_false]
theorem k0v (f:Nat→List UInt8→Except Int (Lv × List UInt8 × Nat)) (d:Int) (k j:Int)
  (hf:∀ p bs a r q,p≤64→Sfx all bs→f p bs=.ok (a,r,q)→Sfx all r∧q≤64) (hs:∀ bs p,Sfx all bs→p≤64→LvO7 all (fun K=>s K (encB all) (atR all bs) 0 (z0c .add .i64 d 1) ((64 - p:Nat):Int)) (f p bs)) :
  ∀ (r n:Nat) (bs:List UInt8) (p:Nat) (z:EL) (i:Nat),Sfx all bs→p≤64→z.length≤i→i + r≤1000→r < n →
   match many f r p bs with
   | .ok (l,bs',q)=>∀ K:LK7 ρ,p73_2L fail fu s K d k j ((i + r:Nat):Int) n (encB all) (atR all bs) 0 ((64 - p:Nat):Int) z (i:Nat)=K k j (z++Lv.rows l) (encB all) (atR all bs') 0 ((64 - q:Nat):Int)
   | .error e=>e≠0∧∃ c B a q,∀ K:LK7 ρ,p73_2L fail fu s K d k j ((i + r:Nat):Int) n (encB all) (atR all bs) 0 ((64 - p:Nat):Int) z (i:Nat)=K k j c B a e q
 | 0,n + 1,bs,p,z,i,hb,hp,hz,hi,hn=>by
  simp only [many]
  intro K
  rw [w5m fail fu s K d k j _ _ _ _ _ z _ (.inl (by omega)) n]
  simp [Lv.rows]
 | r + 1,n + 1,bs,p,z,i,hb,hp,hz,hi,hn=>by
  have h1:=hs bs p hb hp
  simp only [many]
  have step:∀ K:LK7 ρ,p73_2L fail fu s K d k j ((i + (r + 1):Nat):Int) (n + 1) (encB all) (atR all bs) 0 ((64 - p:Nat):Int) z (i:Nat)=s (fun a b c B at' e q =>
    p73_2L fail fu s K d k j ((i + 1 + r:Nat):Int) n B at' e q (z++[[.v (.int .i64 a),.v (.int .i64 b),.sl 3 c none]]) ((i + 1:Nat):Int)) (encB all) (atR all bs) 0 (z0c .add .i64 d 1) ((64 - p:Nat):Int):=fun K=>by
   rw [p73_2L,p73_2,lssT (by omega),cond_true,eqlT rfl,p73_1,cond_true]
   congr 1
   funext a b c B at' e q
   rw [gd_y (by simp),gd_y (by simp;omega),addZ (by omega) (by omega),show ((i:Nat):Int) + 1=((i + 1:Nat):Int) by omega,show i + (r + 1)=i + 1 + r by omega]
   rfl
  cases hfv:f p bs with
  | error e =>
   rw [hfv] at h1
   obtain⟨he,a,b,c,B,at',q,h1⟩:=h1
   dsimp only at h1
   obtain⟨n,rfl⟩:∃ n',n=n' + 1:=⟨n - 1,by omega⟩
   exact⟨he,z++[[.v (.int .i64 a),.v (.int .i64 b),.sl 3 c none]],B,at',q,fun K=>(step K).trans ((h1 _).trans (w5m fail fu s K d k j _ B at' e q _ _ (.inr he) n))⟩
  | ok x =>
   obtain⟨a,bs1,p1⟩:=x
   rw [hfv] at h1
   simp only [LvO7] at h1
   have h2:=hf _ _ _ _ _ hp hb hfv
   have ih:=k0v f d k j hf hs r n bs1 p1 (z++[a.row]) (i + 1) h2.1 h2.2 (by simp;omega) (by omega) (by omega)
   have hrow:∀ K:LK7 ρ,p73_2L fail fu s K d k j ((i + (r + 1):Nat):Int) (n + 1) (encB all) (atR all bs) 0 ((64 - p:Nat):Int) z (i:Nat)=p73_2L fail fu s K d k j ((i + 1 + r:Nat):Int) n (encB all) (atR all bs1) 0 ((64 - p1:Nat):Int) (z++[a.row]) ((i + 1:Nat):Int):=fun K=>by
    rw [step,h1,Lv.row_eq]
   dsimp only
   cases hm:many f r p1 bs1 with
   | error e =>
    rw [hm] at ih
    obtain⟨he,c,B,at',q,h3⟩:=ih
    exact⟨he,c,B,at',q,fun K=>by rw [hrow,h3]⟩
   | ok x =>
    obtain⟨l,bs2,p2⟩:=x
    rw [hm] at ih
    intro K
    rw [hrow,ih,List.append_assoc];rfl
theorem w4i (hfu:2≤fu) (K:LK7 ρ) (d lf:Int) (B:EL) (a e:Int) (he:e≠0):p73_8 fail fu s K d lf B a e=K 0 0 nilE B a e (z0c .sub .i64 lf 1):=by
 obtain⟨m,hm⟩:∃ m,fu=m + 1:=⟨fu - 1,by omega⟩
 have:∀ m',m'=m + 1→p73_2L fail fu s K d 0 0 0 m' B a e (z0c .sub .i64 lf 1) nilE 0=K 0 0 nilE B a e (z0c .sub .i64 lf 1):=fun m' h=>by
  subst h;exact w5m fail fu s K d 0 0 0 B a e _ nilE 0 (.inr he) m
 rw [p73_8,w2j _ _ _ _ _ _ he,eqlF (by decide),cond_false,eqlF (by decide),cond_false,eqlF (by decide),p73_7,cond_false,eqlF (by decide),cond_false,p73_5,p73_4,p73_3]
 exact this fu hm
end
theorem k0c (left p:Nat) (bs:List UInt8) (l:Lv) (r:List UInt8) (q:Nat) (hp:p≤64) (hs:Sfx all bs) (h:rdLv left p bs=.ok (l,r,q)):Sfx all r∧q≤64 :=
 ⟨hs.of (z9a _ _ _ _ _ _ h),(z8h _ _ _ _ _ _ hp h).2⟩
include hall
theorem w8a:∀ (left fu:Nat),left + 14≤fu→left≤32→∀ (bs:List UInt8) (p:Nat),Sfx all bs→p≤64 →
  LvO7 all (fun K:LK7 ρ=>p73 fail fu K (encB all) (atR all bs) 0 ((33 - left:Nat):Int) ((64 - p:Nat):Int)) (rdLv left p bs):=by
 intro left
 induction left with
 | zero =>
  intro fu hf hl bs p hb hp
  obtain⟨m,rfl⟩:∃ m,fu=m + 1:=⟨fu - 1,by omega⟩
  simp only [rdLv]
  by_cases h1:64 < p + 1
  ·rw [if_pos h1]
   refine⟨by decide,0,0,nilE,encB all,atR all bs,z0c .sub .i64 ((64 - p:Nat):Int) 1,fun K=>?_⟩
   dsimp only
   rw [p73,p73_b,eqlT (by omega),cond_true,z2x,p73_9,gtrT (by omega),cond_true,k0w _ _ _ _ _ _ _ (by decide),w4i fail m _ (by omega) K _ _ _ _ _ (by decide)]
  ·rw [if_neg h1]
   refine⟨by decide,0,0,nilE,encB all,atR all bs,z0c .sub .i64 ((64 - p:Nat):Int) 1,fun K=>?_⟩
   dsimp only
   rw [p73,p73_b,eqlF (by omega),cond_false,p73_9,gtrT (by omega),cond_true,z2x,w4i fail m _ (by omega) K _ _ _ _ _ (by decide)]
 | succ left ih =>
  intro fu hf hl bs p hb hp
  obtain⟨m,rfl⟩:∃ m,fu=m + 1:=⟨fu - 1,by omega⟩
  have hkind:=z6f (ρ:=ρ) fail m all hall (by omega) bs hb 0 4 (by omega)
  simp only [rdLv]
  by_cases h1:64 < p + 1
  ·rw [if_pos h1]
   refine⟨by decide,0,0,nilE,encB all,atR all bs,z0c .sub .i64 ((64 - p:Nat):Int) 1,fun K=>?_⟩
   dsimp only
   rw [p73,p73_b,eqlT (by omega),cond_true,z2x,p73_9,gtrF (by omega),cond_false,w4i fail m _ (by omega) K _ _ _ _ _ (by decide)]
  ·rw [if_neg h1]
   generalize hs:p73 fail m=s
   generalize hd0:((33 - (left + 1):Nat):Int)=d
   have hd:z0c .add .i64 d 1=((33 - left:Nat):Int):=by subst hd0;rw [addZ (by omega) (by omega)];omega
   have hq:z0c .sub .i64 ((64 - p:Nat):Int) 1=((64 - (p + 1):Nat):Int):=by rw [subZ (by omega) (by omega)];omega
   generalize hq0:((64 - (p + 1):Nat):Int)=q at hq
   have hb1:∀ K:LK7 ρ,p73 fail (m + 1) K (encB all) (atR all bs) 0 d ((64 - p:Nat):Int)=p48 fail m (fun y7 y8 y9 y10=>bif (z0a .eql y7 1) then (p73_3 fail m s K d y7 y8 y9 y10 q 0 1) else (bif (z0a .eql y7 2) then (p73_7 fail m s K d y7 y8 y9 y10 q (z0a .eql y7 2)) else (p73_7 fail m s K d y7 y8 y9 y10 q (z0a .eql y7 3)))) (encB all) (atR all bs) 0 ((0:Nat):Int) ((4:Nat):Int):=fun K=>by
    rw [p73,p73_b,hs,eqlF (by omega),cond_false,p73_9,gtrF (by subst hd0;omega),cond_false,p73_8,hq];rfl
   have end0:∀ (K:LK7 ρ) (k j:Int) (B:EL) (a e:Int),p73_2L fail m s K d k j 0 m B a e q nilE 0=K k j nilE B a e q:=fun K k j B a e=>by
    obtain⟨m',hm'⟩:∃ m',m=m' + 1:=⟨m - 1,by omega⟩
    have:∀ m'',m''=m' + 1→p73_2L fail m s K d k j 0 m'' B a e q nilE 0=K k j nilE B a e q:=fun m'' h=>by
     subst h;exact w5m fail m s K d k j 0 B a e q nilE 0 (.inl (by omega)) m'
    exact this m hm'
   cases hk:z2c 0 4 bs with
   | error e =>
    rw [hk] at hkind
    obtain⟨he,a,hB⟩:=hkind
    dsimp only at hB
    refine⟨he,0,0,nilE,encB all,a,q,fun K=>?_⟩
    dsimp only
    rw [hb1,hB,eqlF (by decide),cond_false,eqlF (by decide),cond_false,eqlF (by decide),p73_7,cond_false,eqlF (by decide),cond_false,p73_5,p73_4,p73_3]
    exact end0 K 0 0 _ a e
   | ok x =>
    obtain⟨k,bs1⟩:=x
    have hk1:=z1g hk
    have hs1:Sfx all bs1:=hb.of hk1.2.2.2
    rw [hk] at hkind
    simp only [KO6] at hkind
    have hb2:∀ K:LK7 ρ,p73 fail (m + 1) K (encB all) (atR all bs) 0 d ((64 - p:Nat):Int)=bif (z0a .eql (k:Nat) 1) then (p73_3 fail m s K d (k:Nat) (encB all) (atR all bs1) 0 q 0 1) else (bif (z0a .eql (k:Nat) 2) then (p73_7 fail m s K d (k:Nat) (encB all) (atR all bs1) 0 q (z0a .eql (k:Nat) 2)) else (p73_7 fail m s K d (k:Nat) (encB all) (atR all bs1) 0 q (z0a .eql (k:Nat) 3))):=fun K=>by
     rw [hb1,hkind]
    have loop:∀ r,r=lvN k→(∀ K:LK7 ρ,p73 fail (m + 1) K (encB all) (atR all bs) 0 d ((64 - p:Nat):Int)=p73_2L fail m s K d (k:Nat) 0 ((r:Nat):Int) m (encB all) (atR all bs1) 0 q nilE 0) →
      LvO7 all (fun K=>p73 fail (m + 1) K (encB all) (atR all bs) 0 d ((64 - p:Nat):Int)) (match many (rdLv left) (lvN k) (p + 1) bs1 with
       | .error e=>.error e
       | .ok (l,bs,p)=>.ok (.mk (k:Nat) 0 l,bs,p)):=fun r hr hloop=>by
     have hN:lvN k≤2:=by unfold lvN;split<;>(try split)<;>(try split)<;>omega
     have:=k0v fail m all s (rdLv left) d (k:Nat) 0 (fun p bs a r q hp hs h=>k0c all left p bs a r q hp hs h) (fun bs p hb hp=>by rw [hd,← hs];exact ih m (by omega) (by omega) bs p hb hp) (lvN k) m bs1 (p + 1) nilE 0 hs1 (by omega) (by simp) (by omega) (by omega)
     rw [Nat.zero_add,hq0,← hr] at this
     rw [← hr]
     cases hm:many (rdLv left) r (p + 1) bs1 with
     | error e =>
      rw [hm] at this
      obtain⟨he,c,B,a,q',h⟩:=this
      exact⟨he,_,_,c,B,a,q',fun K=>by dsimp only;rw [hloop];exact h K⟩
     | ok x =>
      obtain⟨l2,bs2,p2⟩:=x
      rw [hm] at this
      intro K
      dsimp only
      rw [hloop];exact this K
    dsimp only
    by_cases k1:k=1
    ·subst k1
     rw [if_neg (by omega)]
     exact loop 1 rfl (fun K=>by rw [hb2,eqlT (by omega),cond_true,p73_3];rfl)
    by_cases k2:k=2
    ·subst k2
     rw [if_neg (by omega)]
     exact loop 2 rfl (fun K=>by rw [hb2,eqlF (by omega),cond_false,eqlT (by omega),cond_true,p73_7,cond_true,p73_4,p73_3];rfl)
    by_cases k3:k=3
    ·subst k3
     rw [if_neg (by omega)]
     exact loop 2 rfl (fun K=>by rw [hb2,eqlF (by omega),cond_false,eqlF (by omega),cond_false,eqlT (by omega),p73_7,cond_true,p73_4,p73_3];rfl)
    by_cases k4:k=4
    ·subst k4
     rw [if_pos rfl]
     have hb3:∀ K:LK7 ρ,p73 fail (m + 1) K (encB all) (atR all bs) 0 d ((64 - p:Nat):Int)=p23 fail m (fun y42 y43 y44 y45=>bif (z0a .geq y42 4) then (p46 fail m (fun y49 y50 y51=>p73_6 fail m s K d 4 q y42 y49 y50 y51) y43 y44 y45 7) else (p73_6 fail m s K d 4 q y42 y43 y44 y45)) (encB all) (atR all bs1) 0:=fun K=>by
      rw [hb2,eqlF (by omega),cond_false,eqlF (by omega),cond_false,eqlF (by omega),p73_7,cond_false,eqlT (by omega),cond_true]
      rfl
     have hnum:=z2o (ρ:=ρ) fail m all hall (by omega) bs1 hs1
     cases hn:rdNum bs1 with
     | error e =>
      rw [hn] at hnum
      obtain⟨he,a,hB⟩:=hnum
      dsimp only at hB
      refine⟨he,4,0,nilE,encB all,a,q,fun K=>?_⟩
      dsimp only
      rw [hb3,hB,geqF (by omega),cond_false,p73_6,p73_5,p73_4,p73_3]
      exact end0 K _ _ _ a e
     | ok x =>
      obtain⟨n,bs2⟩:=x
      rw [hn] at hnum
      simp only [KO6] at hnum
      dsimp only
      by_cases h4:4≤n
      ·rw [if_pos h4]
       refine⟨by decide,4,((n:Nat):Int),nilE,encB all,atR all bs2,q,fun K=>?_⟩
       dsimp only
       rw [hb3,hnum,geqT (by omega),cond_true,z2x,p73_6,p73_5,p73_4,p73_3]
       exact end0 K _ _ _ _ 7
      ·rw [if_neg h4]
       intro K
       dsimp only
       rw [hb3,hnum,geqF (by omega),cond_false,p73_6,p73_5,p73_4,p73_3,end0 K,hq0]
       rfl
    ·have k0:k=0:=by omega
     subst k0
     rw [if_neg (by omega)]
     exact loop 0 rfl (fun K=>by rw [hb2,eqlF (by omega),cond_false,eqlF (by omega),cond_false,eqlF (by omega),p73_7,cond_false,eqlF (by omega),cond_false,p73_5,p73_4,p73_3];rfl)
def LvO5 {ρ:Type} (all:List UInt8) (p:(Int→Int→EL→EL→Int→Int→ρ)→ρ):Except Int (Lv × List UInt8)→Prop
 | .ok (l,bs)=>∀ K:Int→Int→EL→EL→Int→Int→ρ,p K=K l.k l.n (Lv.rows l.args) (encB all) (atR all bs) 0
 | .error e=>e≠0∧∃ a b c B at',∀ K:Int→Int→EL→EL→Int→Int→ρ,p K=K a b c B at' e
theorem w2m (hf:50≤fu) (bs:List UInt8) (hs:Sfx all bs):LvO5 all (fun K=>p63 fail fu K (encB all) (atR all bs) 0) (z2j bs):=by
 have:=w8a (ρ:=ρ) fail all hall 32 fu (by omega) (by omega) bs 0 hs (by omega)
 unfold z2j
 cases h:rdLv 32 0 bs with
 | error e =>
  rw [h] at this
  obtain⟨he,a,b,c,B,at',q,h1⟩:=this
  dsimp only at h1
  exact⟨he,a,b,c,B,at',fun K=>by dsimp only;rw [p63];exact h1 _⟩
 | ok x =>
  obtain⟨l,r,q⟩:=x
  rw [h] at this
  intro K
  dsimp only
  rw [p63];exact this _
end
def nkN (k:Nat):Nat:=if k≤2 then 0 else tmN k
theorem z8i {ρ:Type} (fail:ρ) (fu:Nat) (K:Int→ρ) (k:Nat) (h:k≤6):p64 fail fu K ((k:Nat):Int)=K ((nkN k:Nat):Int):=by
 have:k=0∨k=1∨k=2∨k=3∨k=4∨k=5∨k=6:=by omega
 rcases this with rfl | rfl | rfl | rfl | rfl | rfl | rfl<;>rfl
theorem z3y (s:ByteArray):z2f .neq s s=false:=by simp [z2f]
theorem k1t {ρ:Type} (fail:ρ):∀ (N:Nat) (l:Lv),l.sz≤N→∀ (fu:Nat) (K:Bool→ρ),l.sz + 20≤fu→l.sz < 1099511627776→p51 fail fu K l.k l.n (Lv.rows l.args) l.k l.n (Lv.rows l.args)=K true:=by
 intro N
 induction N with
 | zero=>intro l h;cases l;simp [Lv.sz] at h
 | succ N ih =>
  intro l hN fu K hf hsz
  obtain⟨k,n,l⟩:=l
  obtain⟨m,rfl⟩:∃ m,fu=m + 1:=⟨fu - 1,by omega⟩
  simp only [Lv.sz] at hN hf hsz
  simp only [Lv.k,Lv.n,Lv.args]
  have hl:=Lv.szs_len l
  rw [p51,p51_b]
  generalize hs:p51 fail m=s
  have loop:∀ (r i j:Nat),i + r=l.length→r < j→p51_1L fail m s K (Lv.rows l) (Lv.rows l) j ((i:Nat):Int)=K true:=by
   intro r
   induction r with
   | zero =>
    intro i j hi hj
    obtain⟨j,rfl⟩:∃ j',j=j' + 1:=⟨j - 1,by omega⟩
    rw [p51_1L,p51_1,Lv.rows_len,lssF (by omega),cond_false]
   | succ r ihr =>
    intro i j hi hj
    obtain⟨j,rfl⟩:∃ j',j=j' + 1:=⟨j - 1,by omega⟩
    have hlt:i < l.length:=by omega
    have h3:=Lv.szs_mem (List.getElem_mem hlt)
    have h4:=ih l[i] (by omega) m (fun y9=>bif (!y9) then (K false) else (p51_1L fail m s K (Lv.rows l) (Lv.rows l) j (z0c .add .i64 ((i:Nat):Int) 1))) (by omega) (by omega)
    rw [hs] at h4
    rw [p51_1L,p51_1,Lv.rows_len,lssT (by omega),cond_true,gd_y (by omega),gd_y (by omega),w5p fail l i hlt,gd_y (by omega),gd_y (by omega),w5p fail l i hlt,h4,Bool.not_true,cond_false,addZ (by omega) (by omega),show ((i:Nat):Int) + 1=((i + 1:Nat):Int) by omega]
    exact ihr (i + 1) j (by omega) (by omega)
  rw [neqF rfl,cond_false,neqF rfl,cond_false,neqF rfl,p51_2,cond_false]
  exact loop l.length 0 m (by omega) (by omega)
theorem z8p {ρ:Type} (fail:ρ):∀ (N:Nat) (t:Tm),t.sz≤N→∀ (fu:Nat) (K:Bool→ρ),t.sz + 30≤fu→t.sz < 1099511627776→p29 fail fu K t.k t.n t.nm (Lv.rows t.ls) (Tm.rows t.args) t.k t.n t.nm (Lv.rows t.ls) (Tm.rows t.args)=K true:=by
 intro N
 induction N with
 | zero=>intro l h;cases l;simp [Tm.sz] at h
 | succ N ih =>
  intro t hN fu K hf hsz
  obtain⟨k,n,sn,l,a⟩:=t
  obtain⟨m,rfl⟩:∃ m,fu=m + 1:=⟨fu - 1,by omega⟩
  simp only [Tm.sz] at hN hf hsz
  simp only [Tm.k,Tm.n,Tm.nm,Tm.ls,Tm.args]
  have hl:=Lv.szs_len l
  have ha:=Tm.szs_len a
  rw [p29,p29_b]
  generalize hs:p29 fail m=s
  have loop:∀ (r i j:Nat),i + r=a.length→r < j→p29_1L fail m s K (Tm.rows a) (Tm.rows a) j ((i:Nat):Int)=K true:=by
   intro r
   induction r with
   | zero =>
    intro i j hi hj
    obtain⟨j,rfl⟩:∃ j',j=j' + 1:=⟨j - 1,by omega⟩
    rw [p29_1L,p29_1,Tm.rows_len,lssF (by omega),cond_false]
   | succ r ihr =>
    intro i j hi hj
    obtain⟨j,rfl⟩:∃ j',j=j' + 1:=⟨j - 1,by omega⟩
    have hlt:i < a.length:=by omega
    have h3:=Tm.szs_mem (List.getElem_mem hlt)
    have h4:=ih a[i] (by omega) m (fun y9=>bif (!y9) then (K false) else (p29_1L fail m s K (Tm.rows a) (Tm.rows a) j (z0c .add .i64 ((i:Nat):Int) 1))) (by omega) (by omega)
    rw [hs] at h4
    rw [p29_1L,p29_1,Tm.rows_len,lssT (by omega),cond_true,gd_y (by omega),gd_y (by omega),k0s fail a i hlt,gd_y (by omega),gd_y (by omega),k0s fail a i hlt,h4,Bool.not_true,cond_false,addZ (by omega) (by omega),show ((i:Nat):Int) + 1=((i + 1:Nat):Int) by omega]
    exact ihr (i + 1) j (by omega) (by omega)
  have loop2:∀ (r i j:Nat),i + r=l.length→r < j→p29_2L fail m s K (Lv.rows l) (Tm.rows a) (Lv.rows l) (Tm.rows a) j ((i:Nat):Int)=K true:=by
   intro r
   induction r with
   | zero =>
    intro i j hi hj
    obtain⟨j,rfl⟩:∃ j',j=j' + 1:=⟨j - 1,by omega⟩
    rw [p29_2L,p29_2,Lv.rows_len,lssF (by omega),cond_false]
    exact loop a.length 0 m (by omega) (by omega)
   | succ r ihr =>
    intro i j hi hj
    obtain⟨j,rfl⟩:∃ j',j=j' + 1:=⟨j - 1,by omega⟩
    have hlt:i < l.length:=by omega
    have h3:=Lv.szs_mem (List.getElem_mem hlt)
    rw [p29_2L,p29_2,Lv.rows_len,lssT (by omega),cond_true,gd_y (by omega),gd_y (by omega),w5p fail l i hlt,gd_y (by omega),gd_y (by omega),w5p fail l i hlt,k1t fail _ l[i] (Nat.le_refl _) m _ (by omega) (by omega),Bool.not_true,cond_false,addZ (by omega) (by omega),show ((i:Nat):Int) + 1=((i + 1:Nat):Int) by omega]
    exact ihr (i + 1) j (by omega) (by omega)
  rw [neqF rfl,cond_false,neqF rfl,cond_false,z3y,cond_false,neqF rfl,cond_false,neqF rfl,p29_3,cond_false]
  exact loop2 l.length 0 m (by omega) (by omega)
abbrev TK9 (ρ:Type):=Int→Int→ByteArray→EL→EL→EL→Int→Int→Int→ρ
def TmO9 {ρ:Type} (all:List UInt8) (p:TK9 ρ→ρ):Except Int (Tm × List UInt8 × Nat)→Prop
 | .ok (t,bs,q)=>∀ K:TK9 ρ,p K=K t.k t.n t.nm (Lv.rows t.ls) (Tm.rows t.args) (encB all) (atR all bs) 0 ((2000 - q:Nat):Int)
 | .error e=>e≠0∧∃ a b c l g B at' q,∀ K:TK9 ρ,p K=K a b c l g B at' e q
section
variable {ρ:Type} (fail:ρ) (fu:Nat) (all:List UInt8) (hall:all.length≤1099511627776)
section
variable (s:TK9 ρ→EL→Int→Int→Int→Int→ρ)
theorem w7z (K:TK9 ρ) (d:Int) (k:Nat) (hk:k≤6) (nm:ByteArray) (L:EL) (B:EL) (a e q:Int) (z:EL) (i:Int) (h:¬ i < (nkN k:Nat)∨e≠0) (m:Nat):p49_6L fail fu s K d (k:Nat) nm L (m + 1) B a e q z i=K (k:Nat) 0 nm L z B a e q:=by
 rw [p49_6L,p49_6,z8i fail fu _ k hk]
 rcases h with h | h
 ·rw [lssF (by omega),cond_false,p49_5,cond_false]
 ·by_cases h2:i < (nkN k:Nat)
  ·rw [lssT h2,cond_true,eqlF h,p49_5,cond_false]
  ·rw [lssF (by omega),cond_false,p49_5,cond_false]
theorem z8v (hfu:2≤fu) (K:TK9 ρ) (d:Int) (k:Nat) (hk:k≤6) (nm:ByteArray) (L:EL) (B:EL) (a e q:Int) (z:EL) (i:Int) (h:¬ i < (nkN k:Nat)∨e≠0):p49_6L fail fu s K d (k:Nat) nm L fu B a e q z i=K (k:Nat) 0 nm L z B a e q:=by
 obtain⟨m,hm⟩:∃ m,fu=m + 1:=⟨fu - 1,by omega⟩
 have:∀ m',m'=m + 1→p49_6L fail fu s K d (k:Nat) nm L m' B a e q z i=K (k:Nat) 0 nm L z B a e q:=fun m' h'=>by
  subst h';exact w7z fail fu s K d k hk nm L B a e q z i h m
 exact this fu hm
theorem k0t (f:Nat→List UInt8→Except Int (Tm × List UInt8 × Nat)) (d:Int) (k:Nat) (hk:k≤6) (nm:ByteArray) (L:EL)
  (hf:∀ p bs a r q,p≤2000→Sfx all bs→f p bs=.ok (a,r,q)→Sfx all r∧q≤2000) (hs:∀ bs p,Sfx all bs→p≤2000→TmO9 all (fun K=>s K (encB all) (atR all bs) 0 (z0c .add .i64 d 1) ((2000 - p:Nat):Int)) (f p bs)) :
  ∀ (r n:Nat) (bs:List UInt8) (p:Nat) (z:EL) (i:Nat),Sfx all bs→p≤2000→z.length≤i→i + r≤1000→i + r=nkN k→r < n →
   match many f r p bs with
   | .ok (l,bs',q)=>∀ K:TK9 ρ,p49_6L fail fu s K d (k:Nat) nm L n (encB all) (atR all bs) 0 ((2000 - p:Nat):Int) z (i:Nat)=K (k:Nat) 0 nm L (z++Tm.rows l) (encB all) (atR all bs') 0 ((2000 - q:Nat):Int)
   | .error e=>e≠0∧∃ g B a q,∀ K:TK9 ρ,p49_6L fail fu s K d (k:Nat) nm L n (encB all) (atR all bs) 0 ((2000 - p:Nat):Int) z (i:Nat)=K (k:Nat) 0 nm L g B a e q
 | 0,n + 1,bs,p,z,i,hb,hp,hz,hi,hk2,hn=>by
  simp only [many]
  intro K
  rw [w7z fail fu s K d k hk nm L _ _ _ _ z _ (.inl (by omega)) n]
  simp [Tm.rows]
 | r + 1,n + 1,bs,p,z,i,hb,hp,hz,hi,hk2,hn=>by
  have h1:=hs bs p hb hp
  simp only [many]
  have step:∀ K:TK9 ρ,p49_6L fail fu s K d (k:Nat) nm L (n + 1) (encB all) (atR all bs) 0 ((2000 - p:Nat):Int) z (i:Nat)=s (fun a b c l g B at' e q =>
    p49_6L fail fu s K d (k:Nat) nm L n B at' e q (z++[[.v (.int .i64 a),.v (.int .i64 b),.v (.string c),.sl 3 l none,.sl 5 g none]]) ((i + 1:Nat):Int)) (encB all) (atR all bs) 0 (z0c .add .i64 d 1) ((2000 - p:Nat):Int):=fun K=>by
   rw [p49_6L,p49_6,z8i fail fu _ k hk,lssT (by omega),cond_true,eqlT rfl,p49_5,cond_true]
   congr 1
   funext a b c l g B at' e q
   rw [gd_y (by simp),gd_y (by simp;omega),addZ (by omega) (by omega),show ((i:Nat):Int) + 1=((i + 1:Nat):Int) by omega]
   rfl
  cases hfv:f p bs with
  | error e =>
   rw [hfv] at h1
   obtain⟨he,a,b,c,l,g,B,at',q,h1⟩:=h1
   dsimp only at h1
   obtain⟨n,rfl⟩:∃ n',n=n' + 1:=⟨n - 1,by omega⟩
   exact⟨he,z++[[.v (.int .i64 a),.v (.int .i64 b),.v (.string c),.sl 3 l none,.sl 5 g none]],B,at',q,fun K=>(step K).trans ((h1 _).trans (w7z fail fu s K d k hk nm L B at' e q _ _ (.inr he) n))⟩
  | ok x =>
   obtain⟨a,bs1,p1⟩:=x
   rw [hfv] at h1
   simp only [TmO9] at h1
   have h2:=hf _ _ _ _ _ hp hb hfv
   have ih:=k0t f d k hk nm L hf hs r n bs1 p1 (z++[a.row]) (i + 1) h2.1 h2.2 (by simp;omega) (by omega) (by omega) (by omega)
   have hrow:∀ K:TK9 ρ,p49_6L fail fu s K d (k:Nat) nm L (n + 1) (encB all) (atR all bs) 0 ((2000 - p:Nat):Int) z (i:Nat)=p49_6L fail fu s K d (k:Nat) nm L n (encB all) (atR all bs1) 0 ((2000 - p1:Nat):Int) (z++[a.row]) ((i + 1:Nat):Int):=fun K=>by
    rw [step,h1,Tm.row_eq]
   dsimp only
   cases hm:many f r p1 bs1 with
   | error e =>
    rw [hm] at ih
    obtain⟨he,c,B,at',q,h3⟩:=ih
    exact⟨he,c,B,at',q,fun K=>by rw [hrow,h3]⟩
   | ok x =>
    obtain⟨l,bs2,p2⟩:=x
    rw [hm] at ih
    intro K
    rw [hrow,ih,List.append_assoc];rfl
include hall
theorem w5l (hfu:50≤fu) (d q0:Int) (nm:ByteArray):∀ (r n:Nat) (bs:List UInt8) (p:Nat) (z:EL) (i:Nat),Sfx all bs→z.length≤i→i + r≤1000→r < n →
   match many z1b r p bs with
   | .ok (l,bs',_)=>∀ K:TK9 ρ,p49_9L fail fu s K d ((2:Nat):Int) nm ((i + r:Nat):Int) q0 n (encB all) (atR all bs) 0 z (i:Nat)=K ((2:Nat):Int) 0 nm (z++Lv.rows l) nilE (encB all) (atR all bs') 0 q0
   | .error e=>e≠0∧∃ l B a,∀ K:TK9 ρ,p49_9L fail fu s K d ((2:Nat):Int) nm ((i + r:Nat):Int) q0 n (encB all) (atR all bs) 0 z (i:Nat)=K ((2:Nat):Int) 0 nm l nilE B a e q0
 | 0,n + 1,bs,p,z,i,hb,hz,hi,hn=>by
  simp only [many]
  intro K
  rw [p49_9L,p49_9,lssF (by omega),cond_false,p49_8,cond_false,p49_7,z8v fail fu s (by omega) K d 2 (by omega) nm _ _ _ _ _ _ _ (.inl (by decide))]
  simp [Lv.rows]
 | r + 1,n + 1,bs,p,z,i,hb,hz,hi,hn=>by
  have h1:=w2m (ρ:=ρ) fail fu all hall hfu bs hb
  simp only [many]
  have step:∀ K:TK9 ρ,p49_9L fail fu s K d ((2:Nat):Int) nm ((i + (r + 1):Nat):Int) q0 (n + 1) (encB all) (atR all bs) 0 z (i:Nat)=p63 fail fu (fun a b c B at' e =>
    p49_9L fail fu s K d ((2:Nat):Int) nm ((i + 1 + r:Nat):Int) q0 n B at' e (z++[[.v (.int .i64 a),.v (.int .i64 b),.sl 3 c none]]) ((i + 1:Nat):Int)) (encB all) (atR all bs) 0:=fun K=>by
   rw [p49_9L,p49_9,lssT (by omega),cond_true,eqlT rfl,p49_8,cond_true]
   congr 1
   funext a b c B at' e
   rw [gd_y (by simp),gd_y (by simp;omega),addZ (by omega) (by omega),show ((i:Nat):Int) + 1=((i + 1:Nat):Int) by omega,show i + (r + 1)=i + 1 + r by omega]
   rfl
  cases hfv:z2j bs with
  | error e =>
   have hP:z1b p bs=.error e:=by unfold z1b;rw [hfv]
   rw [hP]
   rw [hfv] at h1
   obtain⟨he,a,b,c,B,at',h1⟩:=h1
   dsimp only at h1
   refine⟨he,z++[[.v (.int .i64 a),.v (.int .i64 b),.sl 3 c none]],B,at',fun K=>?_⟩
   refine (step K).trans ((h1 _).trans ?_)
   obtain⟨n,rfl⟩:∃ n',n=n' + 1:=⟨n - 1,by omega⟩
   rw [p49_9L,p49_9]
   cases r with
   | zero=>rw [lssF (by omega),cond_false,p49_8,cond_false,p49_7,z8v fail fu s (by omega) K d 2 (by omega) nm _ _ _ _ _ _ _ (.inl (by decide))]
   | succ r=>rw [lssT (by omega),cond_true,eqlF he,p49_8,cond_false,p49_7,z8v fail fu s (by omega) K d 2 (by omega) nm _ _ _ _ _ _ _ (.inl (by decide))]
  | ok x =>
   obtain⟨a,bs1⟩:=x
   have hP:z1b p bs=.ok (a,bs1,p):=by unfold z1b;rw [hfv]
   rw [hP]
   rw [hfv] at h1
   simp only [LvO5] at h1
   have h2:Sfx all bs1:=hb.of (z7t hfv)
   have ih:=w5l hfu d q0 nm r n bs1 p (z++[a.row]) (i + 1) h2 (by simp;omega) (by omega) (by omega)
   have hrow:∀ K:TK9 ρ,p49_9L fail fu s K d ((2:Nat):Int) nm ((i + (r + 1):Nat):Int) q0 (n + 1) (encB all) (atR all bs) 0 z (i:Nat)=p49_9L fail fu s K d ((2:Nat):Int) nm ((i + 1 + r:Nat):Int) q0 n (encB all) (atR all bs1) 0 (z++[a.row]) ((i + 1:Nat):Int):=fun K=>by
    rw [step,h1,Lv.row_eq]
   dsimp only
   cases hm:many z1b r p bs1 with
   | error e =>
    rw [hm] at ih
    obtain⟨he,c,B,at',h3⟩:=ih
    exact⟨he,c,B,at',fun K=>by rw [hrow,h3]⟩
   | ok x =>
    obtain⟨l,bs2,p2⟩:=x
    rw [hm] at ih
    intro K
    rw [hrow,ih,List.append_assoc];rfl
end
theorem k0b (left p:Nat) (bs:List UInt8) (l:Tm) (r:List UInt8) (q:Nat) (hp:p≤2000) (hs:Sfx all bs) (h:rdTm left p bs=.ok (l,r,q)):Sfx all r∧q≤2000 :=
 ⟨hs.of (z8z _ _ _ _ _ _ h),(z5f _ _ _ _ _ _ hp h).2⟩
include hall
theorem w9w:∀ (left fu:Nat),left + 70≤fu→left≤100→∀ (bs:List UInt8) (p:Nat),Sfx all bs→p≤2000 →
  TmO9 all (fun K:TK9 ρ=>p49 fail fu K (encB all) (atR all bs) 0 ((101 - left:Nat):Int) ((2000 - p:Nat):Int)) (rdTm left p bs):=by
 intro left
 induction left with
 | zero =>
  intro fu hf hl bs p hb hp
  obtain⟨m,rfl⟩:∃ m,fu=m + 1:=⟨fu - 1,by omega⟩
  have dead:∀ (K:TK9 ρ) (s:TK9 ρ→EL→Int→Int→Int→Int→ρ) (d lf:Int) (B:EL) (a e:Int),e≠0→p49_11 fail m s K d lf B a e=K 0 0 ⟨#[]⟩ nilE nilE B a e (z0c .sub .i64 lf 1):=fun K s d lf B a e he=>by
   rw [p49_11,w2j _ _ _ _ _ _ he,neqT he,cond_true]
  simp only [rdTm]
  by_cases h1:2000 < p + 1
  ·rw [if_pos h1]
   refine⟨by decide,0,0,⟨#[]⟩,nilE,nilE,encB all,atR all bs,z0c .sub .i64 ((2000 - p:Nat):Int) 1,fun K=>?_⟩
   dsimp only
   rw [p49,p49_b,eqlT (by omega),cond_true,z2x,p49_12,gtrT (by omega),cond_true,k0w _ _ _ _ _ _ _ (by decide),dead K _ _ _ _ _ _ (by decide)]
  ·rw [if_neg h1]
   refine⟨by decide,0,0,⟨#[]⟩,nilE,nilE,encB all,atR all bs,z0c .sub .i64 ((2000 - p:Nat):Int) 1,fun K=>?_⟩
   dsimp only
   rw [p49,p49_b,eqlF (by omega),cond_false,p49_12,gtrT (by omega),cond_true,z2x,dead K _ _ _ _ _ _ (by decide)]
 | succ left ih =>
  intro fu hf hl bs p hb hp
  obtain⟨m,rfl⟩:∃ m,fu=m + 1:=⟨fu - 1,by omega⟩
  have dead:∀ (K:TK9 ρ) (s:TK9 ρ→EL→Int→Int→Int→Int→ρ) (d lf:Int) (B:EL) (a e:Int),e≠0→p49_11 fail m s K d lf B a e=K 0 0 ⟨#[]⟩ nilE nilE B a e (z0c .sub .i64 lf 1):=fun K s d lf B a e he=>by
   rw [p49_11,w2j _ _ _ _ _ _ he,neqT he,cond_true]
  have hkind:=z6f (ρ:=ρ) fail m all hall (by omega) bs hb 0 6 (by omega)
  simp only [rdTm]
  by_cases h1:2000 < p + 1
  ·rw [if_pos h1]
   refine⟨by decide,0,0,⟨#[]⟩,nilE,nilE,encB all,atR all bs,z0c .sub .i64 ((2000 - p:Nat):Int) 1,fun K=>?_⟩
   dsimp only
   rw [p49,p49_b,eqlT (by omega),cond_true,z2x,p49_12,gtrF (by omega),cond_false,dead K _ _ _ _ _ _ (by decide)]
  ·rw [if_neg h1]
   generalize hs:p49 fail m=s
   generalize hd0:((101 - (left + 1):Nat):Int)=d
   have hd:z0c .add .i64 d 1=((101 - left:Nat):Int):=by subst hd0;rw [addZ (by omega) (by omega)];omega
   have hq:z0c .sub .i64 ((2000 - p:Nat):Int) 1=((2000 - (p + 1):Nat):Int):=by rw [subZ (by omega) (by omega)];omega
   generalize hq0:((2000 - (p + 1):Nat):Int)=q at hq
   have hb1:∀ K:TK9 ρ,p49 fail (m + 1) K (encB all) (atR all bs) 0 d ((2000 - p:Nat):Int)=p48 fail m (fun y7 y8 y9 y10=>bif (z0a .neq y10 0) then (K y7 0 ⟨#[]⟩ nilE nilE y8 y9 y10 q) else (bif (z0a .eql y7 0) then (p23 fail m (fun y11 y12 y13 y14=>p49_2L fail m s K d y7 y11 m y12 y13 y14 q nilE 0) y8 y9 y10) else (bif (z0a .eql y7 1) then (p63 fail m (fun y32 y33 y34 y35 y36 y37=>p49_4L fail m s K d y7 m y35 y36 y37 q [[(CV.v (.int .i64 y32)),(CV.v (.int .i64 y33)),(CV.sl 3 y34 none)]] nilE 0) y8 y9 y10) else (bif (z0a .eql y7 2) then (p27 fail m (fun y79 y80 y81 y82=>p23 fail m (fun y83 y84 y85 y86=>bif (z0a .gtr y83 4) then (p46 fail m (fun y103 y104 y105=>p49_10 fail m s K d y7 y79 y83 y103 y104 y105 q) y84 y85 y86 7) else (p49_10 fail m s K d y7 y79 y83 y84 y85 y86 q)) y80 y81 y82) y8 y9 y10) else (p49_7 fail m s K d y7 y8 y9 y10 q ⟨#[]⟩ nilE))))) (encB all) (atR all bs) 0 ((0:Nat):Int) ((6:Nat):Int):=fun K=>by
    rw [p49,p49_b,hs,eqlF (by omega),cond_false,p49_12,gtrF (by subst hd0;omega),cond_false,p49_11,hq];rfl
   cases hk:z2c 0 6 bs with
   | error e =>
    rw [hk] at hkind
    obtain⟨he,a,hB⟩:=hkind
    dsimp only at hB
    exact⟨he,0,0,⟨#[]⟩,nilE,nilE,encB all,a,q,fun K=>by dsimp only;rw [hb1,hB,neqT he,cond_true]⟩
   | ok x =>
    obtain⟨k,bs1⟩:=x
    have hk1:=z1g hk
    have hs1:Sfx all bs1:=hb.of hk1.2.2.2
    rw [hk] at hkind
    simp only [KO6] at hkind
    dsimp only
    by_cases k0:k=0
    ·subst k0
     rw [if_pos rfl]
     have hnum:=z2o (ρ:=ρ) fail m all hall (by omega) bs1 hs1
     have h2L:∀ (K:TK9 ρ) (n a e:Int) (B:EL),p49_2L fail m s K d ((0:Nat):Int) n m B a e q nilE 0=K ((0:Nat):Int) n ⟨#[]⟩ nilE nilE B a e q:=fun K n a e B=>by
      obtain⟨m',hm'⟩:∃ m',m=m' + 1:=⟨m - 1,by omega⟩
      have:∀ m'',m''=m' + 1→p49_2L fail m s K d ((0:Nat):Int) n m'' B a e q nilE 0=K ((0:Nat):Int) n ⟨#[]⟩ nilE nilE B a e q:=fun m'' h=>by
       subst h;rw [p49_2L,p49_2,z8i fail m _ 0 (by omega),lssF (by decide),cond_false,p49_1,cond_false]
      exact this m hm'
     have hb3:∀ K:TK9 ρ,p49 fail (m + 1) K (encB all) (atR all bs) 0 d ((2000 - p:Nat):Int)=p23 fail m (fun y11 y12 y13 y14=>p49_2L fail m s K d ((0:Nat):Int) y11 m y12 y13 y14 q nilE 0) (encB all) (atR all bs1) 0:=fun K=>by
      rw [hb1,hkind,neqF rfl,cond_false,eqlT (by omega),cond_true]
     cases hn:rdNum bs1 with
     | error e =>
      rw [hn] at hnum
      obtain⟨he,a,hB⟩:=hnum
      dsimp only at hB
      exact⟨he,((0:Nat):Int),0,⟨#[]⟩,nilE,nilE,encB all,a,q,fun K=>by dsimp only;rw [hb3,hB,h2L]⟩
     | ok x =>
      obtain⟨n,bs2⟩:=x
      rw [hn] at hnum
      simp only [KO6] at hnum
      intro K
      dsimp only
      rw [hb3,hnum,h2L,hq0];rfl
    rw [if_neg k0]
    by_cases k1:k=1
    ·subst k1
     rw [if_pos rfl]
     have hlv:=w2m (ρ:=ρ) fail m all hall (by omega) bs1 hs1
     have h4L:∀ (K:TK9 ρ) (row:List CV) (a e:Int) (B:EL),p49_4L fail m s K d ((1:Nat):Int) m B a e q [row] nilE 0=K ((1:Nat):Int) 0 ⟨#[]⟩ [row] nilE B a e q:=fun K row a e B=>by
      obtain⟨m',hm'⟩:∃ m',m=m' + 1:=⟨m - 1,by omega⟩
      have:∀ m'',m''=m' + 1→p49_4L fail m s K d ((1:Nat):Int) m'' B a e q [row] nilE 0=K ((1:Nat):Int) 0 ⟨#[]⟩ [row] nilE B a e q:=fun m'' h=>by
       subst h;rw [p49_4L,p49_4,z8i fail m _ 1 (by omega),lssF (by decide),cond_false,p49_3,cond_false,gd_y (by simp)];rfl
      exact this m hm'
     have hb3:∀ K:TK9 ρ,p49 fail (m + 1) K (encB all) (atR all bs) 0 d ((2000 - p:Nat):Int)=p63 fail m (fun y32 y33 y34 y35 y36 y37=>p49_4L fail m s K d ((1:Nat):Int) m y35 y36 y37 q [[(CV.v (.int .i64 y32)),(CV.v (.int .i64 y33)),(CV.sl 3 y34 none)]] nilE 0) (encB all) (atR all bs1) 0:=fun K=>by
      rw [hb1,hkind,neqF rfl,cond_false,eqlF (by omega),cond_false,eqlT (by omega),cond_true]
     simp only [many,z1b]
     cases hv:z2j bs1 with
     | error e =>
      rw [hv] at hlv
      obtain⟨he,a,b,c,B,at',hB⟩:=hlv
      dsimp only at hB
      exact⟨he,((1:Nat):Int),0,⟨#[]⟩,[[(CV.v (.int .i64 a)),(CV.v (.int .i64 b)),(CV.sl 3 c none)]],nilE,B,at',q,fun K=>by dsimp only;rw [hb3,hB,h4L]⟩
     | ok x =>
      obtain⟨l,bs2⟩:=x
      rw [hv] at hlv
      simp only [LvO5] at hlv
      intro K
      dsimp only
      rw [hb3,hlv,h4L,hq0,← Lv.row_eq];rfl
    rw [if_neg k1]
    by_cases k2:k=2
    ·subst k2
     rw [if_pos rfl]
     have hnm:=z5c (ρ:=ρ) fail m all hall (by omega) bs1 hs1
     have hb3:∀ K:TK9 ρ,p49 fail (m + 1) K (encB all) (atR all bs) 0 d ((2000 - p:Nat):Int)=p27 fail m (fun y79 y80 y81 y82=>p23 fail m (fun y83 y84 y85 y86=>bif (z0a .gtr y83 4) then (p46 fail m (fun y103 y104 y105=>p49_10 fail m s K d ((2:Nat):Int) y79 y83 y103 y104 y105 q) y84 y85 y86 7) else (p49_10 fail m s K d ((2:Nat):Int) y79 y83 y84 y85 y86 q)) y80 y81 y82) (encB all) (atR all bs1) 0:=fun K=>by
      rw [hb1,hkind,neqF rfl,cond_false,eqlF (by omega),cond_false,eqlF (by omega),cond_false,eqlT (by omega),cond_true]
     have dead9:∀ (K:TK9 ρ) (nm:ByteArray) (n a e:Int) (B:EL),e≠0→p49_10 fail m s K d ((2:Nat):Int) nm n B a e q=K ((2:Nat):Int) 0 nm nilE nilE B a e q:=fun K nm n a e B he=>by
      rw [p49_10]
      obtain⟨m',hm'⟩:∃ m',m=m' + 1:=⟨m - 1,by omega⟩
      have:∀ m'',m''=m' + 1→p49_9L fail m s K d ((2:Nat):Int) nm n q m'' B a e nilE 0=K ((2:Nat):Int) 0 nm nilE nilE B a e q:=fun m'' h=>by
       subst h;rw [p49_9L,p49_9]
       by_cases h0:0 < n
       ·rw [lssT h0,cond_true,eqlF he,p49_8,cond_false,p49_7,z8v fail m s (by omega) K d 2 (by omega) nm _ _ _ _ _ _ _ (.inr he)]
       ·rw [lssF (by omega),cond_false,p49_8,cond_false,p49_7,z8v fail m s (by omega) K d 2 (by omega) nm _ _ _ _ _ _ _ (.inr he)]
      exact this m hm'
     cases ht:rdTxt 24 bs1 with
     | error e =>
      rw [ht] at hnm
      obtain⟨he,a,hB⟩:=hnm
      dsimp only at hB
      exact⟨he,((2:Nat):Int),0,⟨#[]⟩,nilE,nilE,encB all,a,q,fun K=>by dsimp only;rw [hb3,hB,rnumE _ _ _ _ _ _ he,gtrF (by decide),cond_false,dead9 K _ _ _ _ _ he]⟩
     | ok x =>
      obtain⟨sx,bs2⟩:=x
      have ht1:=z1n ht
      have hs2:Sfx all bs2:=by have h9:=ht1.2.2.1;rw [← List.append_assoc] at h9;exact hs1.of h9
      rw [ht] at hnm
      simp only [NO6] at hnm
      dsimp only
      have hnum:=z2o (ρ:=ρ) fail m all hall (by omega) bs2 hs2
      cases hn:rdNum bs2 with
      | error e =>
       rw [hn] at hnum
       obtain⟨he,a,hB⟩:=hnum
       dsimp only at hB
       exact⟨he,((2:Nat):Int),0,⟨sx.toArray⟩,nilE,nilE,encB all,a,q,fun K=>by dsimp only;rw [hb3,hnm,hB,gtrF (by decide),cond_false,dead9 K _ _ _ _ _ he]⟩
      | ok x =>
       obtain⟨n,bs3⟩:=x
       have hn1:=z0t hn
       have hs3:Sfx all bs3:=hs2.of hn1.2.2
       rw [hn] at hnum
       simp only [KO6] at hnum
       dsimp only
       by_cases h4:4 < n
       ·rw [if_pos h4]
        exact⟨by decide,((2:Nat):Int),0,⟨sx.toArray⟩,nilE,nilE,encB all,atR all bs3,q,fun K=>by dsimp only;rw [hb3,hnm,hnum,gtrT (by omega),cond_true,z2x,dead9 K _ _ _ _ _ (by decide)]⟩
       ·rw [if_neg h4]
        have hb5:∀ K:TK9 ρ,p49 fail (m + 1) K (encB all) (atR all bs) 0 d ((2000 - p:Nat):Int)=p49_9L fail m s K d ((2:Nat):Int) ⟨sx.toArray⟩ ((0 + n:Nat):Int) q m (encB all) (atR all bs3) 0 nilE ((0:Nat):Int):=fun K=>by
         rw [hb3,hnm,hnum,gtrF (by omega),cond_false,p49_10,Nat.zero_add];rfl
        have h3:=w5l fail m all hall s (by omega) d q ⟨sx.toArray⟩ n m bs3 (p + 1) nilE 0 hs3 (by simp) (by omega) (by omega)
        cases hm:many z1b n (p + 1) bs3 with
        | error e =>
         rw [hm] at h3
         obtain⟨he,l,B,a,h3⟩:=h3
         exact⟨he,_,_,_,l,nilE,B,a,q,fun K=>by dsimp only;rw [hb5];exact h3 K⟩
        | ok x =>
         obtain⟨l,bs4,p2⟩:=x
         rw [hm] at h3
         have hp2:p2=p + 1:=z4m _ _ _ _ _ _ hm
         intro K
         dsimp only
         rw [hb5,h3 K,List.nil_append,hp2,hq0];rfl
    rw [if_neg k2]
    have hnk:nkN k=tmN k:=by unfold nkN;rw [if_neg (by omega)]
    have htN:tmN k≤3:=by unfold tmN;split<;>omega
    have hb3:∀ K:TK9 ρ,p49 fail (m + 1) K (encB all) (atR all bs) 0 d ((2000 - p:Nat):Int)=p49_6L fail m s K d ((k:Nat):Int) ⟨#[]⟩ nilE m (encB all) (atR all bs1) 0 q nilE ((0:Nat):Int):=fun K=>by
     rw [hb1,hkind,neqF rfl,cond_false,eqlF (by omega),cond_false,eqlF (by omega),cond_false,eqlF (by omega),cond_false,p49_7];rfl
    have h4:=k0t fail m all s (rdTm left) d k (by omega) ⟨#[]⟩ nilE (fun p bs a r q hp hs h=>k0b all left p bs a r q hp hs h) (fun bs p hb hp=>by rw [hd,← hs];exact ih m (by omega) (by omega) bs p hb hp) (tmN k) m bs1 (p + 1) nilE 0 hs1 (by omega) (by simp) (by omega) (by omega) (by omega)
    rw [hq0] at h4
    cases hm:many (rdTm left) (tmN k) (p + 1) bs1 with
    | error e =>
     rw [hm] at h4
     obtain⟨he,g,B,a,q',h4⟩:=h4
     exact⟨he,_,_,_,nilE,g,B,a,q',fun K=>by dsimp only;rw [hb3];exact h4 K⟩
    | ok x =>
     obtain⟨l,bs2,p2⟩:=x
     rw [hm] at h4
     intro K
     dsimp only
     rw [hb3];exact h4 K
abbrev TK8b (ρ:Type):=Int→Int→ByteArray→EL→EL→EL→Int→Int→ρ
def TmO8 {ρ:Type} (all:List UInt8) (p:TK8b ρ→ρ):Except Int (Tm × List UInt8)→Prop
 | .ok (t,bs)=>∀ K:TK8b ρ,p K=K t.k t.n t.nm (Lv.rows t.ls) (Tm.rows t.args) (encB all) (atR all bs) 0
 | .error e=>e≠0∧∃ a b c l g B at',∀ K:TK8b ρ,p K=K a b c l g B at' e
theorem z4j (hf:170≤fu) (bs:List UInt8) (hs:Sfx all bs):TmO8 all (fun K=>p26 fail fu K (encB all) (atR all bs) 0) (z0j bs):=by
 have:=w9w (ρ:=ρ) fail all hall 100 fu (by omega) (by omega) bs 0 hs (by omega)
 unfold z0j
 cases h:rdTm 100 0 bs with
 | error e =>
  rw [h] at this
  obtain⟨he,a,b,c,l,g,B,at',q,h1⟩:=this
  dsimp only at h1
  exact⟨he,a,b,c,l,g,B,at',fun K=>by dsimp only;rw [p26];exact h1 _⟩
 | ok x =>
  obtain⟨l,r,q⟩:=x
  rw [h] at this
  intro K
  dsimp only
  rw [p26];exact this _
end
def p25_1 {ρ:Type} (fail:ρ) (fu:Nat) (K0:Int→Int→Int→ByteArray→ByteArray→Int→Int→ByteArray→EL→EL→Int→Int→ByteArray→EL→EL→EL→EL→Int→Int→ρ) (rec1:EL→Int→Int→EL→Int→ρ) (y1 y5 y9:Int) (y13 y17:ByteArray) (y21 y22:Int) (y23:ByteArray) (y24 y25:EL) (j38 j39:Int) (j40:ByteArray) (j41 j42 z50:EL) (z51 z52:Int) (z53:EL) (z54:Int) (j55:Bool):ρ :=
 bif j55 then (p27 fail fu (fun y56 y57 y58 y59=>p26 fail fu (fun y60 y61 y62 y63 y64 y65 y66 y67=>gd (1≤[[(CV.v (.string y56)),(CV.v (.int .i64 y60)),(CV.v (.int .i64 y61)),(CV.v (.string y62)),(CV.sl 3 y63 none),(CV.sl 5 y64 none)]].length) fail (gd ((z53.length + (List.take 1 [[(CV.v (.string y56)),(CV.v (.int .i64 y60)),(CV.v (.int .i64 y61)),(CV.v (.string y62)),(CV.sl 3 y63 none),(CV.sl 5 y64 none)]]).length) * 96≤35184372088832) fail (rec1 y65 y66 y67 (z53++(List.take 1 [[(CV.v (.string y56)),(CV.v (.int .i64 y60)),(CV.v (.int .i64 y61)),(CV.v (.string y62)),(CV.sl 3 y63 none),(CV.sl 5 y64 none)]])) (z0c .add .i64 z54 1)))) y57 y58 y59) z50 z51 z52) else (K0 y1 y5 y9 y13 y17 y21 y22 y23 y24 y25 j38 j39 j40 j41 j42 z53 z50 z51 z52)
def p25_2 {ρ:Type} (fail:ρ) (fu:Nat) (K0:Int→Int→Int→ByteArray→ByteArray→Int→Int→ByteArray→EL→EL→Int→Int→ByteArray→EL→EL→EL→EL→Int→Int→ρ) (rec1:EL→Int→Int→EL→Int→ρ) (y1 y5 y9:Int) (y13 y17:ByteArray) (y21 y22:Int) (y23:ByteArray) (y24 y25:EL) (j38 j39:Int) (j40:ByteArray) (j41 j42:EL) (y43:Int) (z50:EL) (z51 z52:Int) (z53:EL) (z54:Int):ρ :=
 bif (z0a .lss z54 y43) then (p25_1 fail fu K0 rec1 y1 y5 y9 y13 y17 y21 y22 y23 y24 y25 j38 j39 j40 j41 j42 z50 z51 z52 z53 z54 (z0a .eql z52 0)) else (p25_1 fail fu K0 rec1 y1 y5 y9 y13 y17 y21 y22 y23 y24 y25 j38 j39 j40 j41 j42 z50 z51 z52 z53 z54 false)
def p25_2L {ρ:Type} (fail:ρ) (fu:Nat) (K0:Int→Int→Int→ByteArray→ByteArray→Int→Int→ByteArray→EL→EL→Int→Int→ByteArray→EL→EL→EL→EL→Int→Int→ρ) (y1 y5 y9:Int) (y13 y17:ByteArray) (y21 y22:Int) (y23:ByteArray) (y24 y25:EL) (j38 j39:Int) (j40:ByteArray) (j41 j42:EL) (y43:Int):Nat→EL→Int→Int→EL→Int→ρ
 | 0,_,_,_,_,_=>fail
 | n + 1,z50,z51,z52,z53,z54=>p25_2 fail fu K0 (p25_2L fail fu K0 y1 y5 y9 y13 y17 y21 y22 y23 y24 y25 j38 j39 j40 j41 j42 y43 n) y1 y5 y9 y13 y17 y21 y22 y23 y24 y25 j38 j39 j40 j41 j42 y43 z50 z51 z52 z53 z54
def p25_3 {ρ:Type} (fail:ρ) (fu:Nat) (K0:Int→Int→Int→ByteArray→ByteArray→Int→Int→ByteArray→EL→EL→Int→Int→ByteArray→EL→EL→EL→EL→Int→Int→ρ) (y1 y5 y9:Int) (y13 y17:ByteArray) (y21 y22:Int) (y23:ByteArray) (y24 y25:EL) (j38 j39:Int) (j40:ByteArray) (j41 j42:EL) (y43:Int) (j47:EL) (j48 j49:Int):ρ :=
 p25_2L fail fu K0 y1 y5 y9 y13 y17 y21 y22 y23 y24 y25 j38 j39 j40 j41 j42 y43 fu j47 j48 j49 nilE 0
def p25_4 {ρ:Type} (fail:ρ) (fu:Nat) (K0:Int→Int→Int→ByteArray→ByteArray→Int→Int→ByteArray→EL→EL→Int→Int→ByteArray→EL→EL→EL→EL→Int→Int→ρ) (y1 y5 y9:Int) (y13 y17:ByteArray) (y21 y22:Int) (y23:ByteArray) (y24 y25 j35:EL) (j36 j37 j38 j39:Int) (j40:ByteArray) (j41 j42:EL):ρ :=
 p23 fail fu (fun y43 y44 y45 y46=>bif (z0a .gtr y43 5) then (p46 fail fu (fun y68 y69 y70=>p25_3 fail fu K0 y1 y5 y9 y13 y17 y21 y22 y23 y24 y25 j38 j39 j40 j41 j42 y43 y68 y69 y70) y44 y45 y46 3) else (p25_3 fail fu K0 y1 y5 y9 y13 y17 y21 y22 y23 y24 y25 j38 j39 j40 j41 j42 y43 y44 y45 y46)) j35 j36 j37
def p25_5 {ρ:Type} (fail:ρ) (fu:Nat) (K0:Int→Int→Int→ByteArray→ByteArray→Int→Int→ByteArray→EL→EL→Int→Int→ByteArray→EL→EL→EL→EL→Int→Int→ρ) (y1 y5 y9:Int) (y13 y17:ByteArray) (y21 y22:Int) (y23:ByteArray) (y24 y25 y31:EL) (y32 y33:Int) (j34:Bool):ρ :=
 bif j34 then (p26 fail fu (fun y71 y72 y73 y74 y75 y76 y77 y78=>p25_4 fail fu K0 y1 y5 y9 y13 y17 y21 y22 y23 y24 y25 y76 y77 y78 y71 y72 y73 y74 y75) y31 y32 y33) else (p25_4 fail fu K0 y1 y5 y9 y13 y17 y21 y22 y23 y24 y25 y31 y32 y33 0 0 ⟨#[]⟩ nilE nilE)
def p25_6 {ρ:Type} (fail:ρ) (fu:Nat) (K0:Int→Int→Int→ByteArray→ByteArray→Int→Int→ByteArray→EL→EL→Int→Int→ByteArray→EL→EL→EL→EL→Int→Int→ρ) (y1 y5 y9:Int) (y13 y17:ByteArray) (y21 y22:Int) (y23:ByteArray) (y24 y25 y26:EL) (y27 y28 j29:Int):ρ :=
 p48 fail fu (fun y30 y31 y32 y33=>bif (z0a .eql y33 0) then (p25_5 fail fu K0 y1 y5 y9 y13 y17 y21 y22 y23 y24 y25 y31 y32 y33 (z0a .eql j29 1)) else (p25_5 fail fu K0 y1 y5 y9 y13 y17 y21 y22 y23 y24 y25 y31 y32 y33 false)) y26 y27 y28 j29 j29
def p25 {ρ:Type} (fail:ρ) (fu:Nat) (K0:Int→Int→Int→ByteArray→ByteArray→Int→Int→ByteArray→EL→EL→Int→Int→ByteArray→EL→EL→EL→EL→Int→Int→ρ) (x0:EL) (x1 x2:Int):ρ :=
 p48 fail fu (fun y1 y2 y3 y4=>p23 fail fu (fun y5 y6 y7 y8=>p23 fail fu (fun y9 y10 y11 y12=>p27 fail fu (fun y13 y14 y15 y16=>p27 fail fu (fun y17 y18 y19 y20=>p26 fail fu (fun y21 y22 y23 y24 y25 y26 y27 y28=>bif (z0a .eql y1 2) then (p25_6 fail fu K0 y1 y5 y9 y13 y17 y21 y22 y23 y24 y25 y26 y27 y28 1) else (p25_6 fail fu K0 y1 y5 y9 y13 y17 y21 y22 y23 y24 y25 y26 y27 y28 0)) y18 y19 y20) y14 y15 y16) y10 y11 y12) y6 y7 y8) y2 y3 y4) x0 x1 x2 1 5
abbrev DK19 (ρ:Type):=Int→Int→Int→ByteArray→ByteArray→Int→Int→ByteArray→EL→EL→Int→Int→ByteArray→EL→EL→EL→EL→Int→Int→ρ
theorem w6u (k:Nat) (bs:List UInt8):rdVal k bs=match z2c (if k=2 then 1 else 0) (if k=2 then 1 else 0) bs with
  | .error e=>.error e
  | .ok (_,bs)=>if k=2 then z0j bs else .ok (tm0,bs):=by
 unfold rdVal z2c
 cases rdV bs with
 | error e=>rfl
 | ok x =>
  obtain⟨v,r⟩:=x
  dsimp only
  by_cases k2:k=2
  ·simp only [if_pos k2]
   by_cases h:v=1
   ·rw [if_neg (by subst h;simp [k2]),if_pos h,if_neg (by omega)]
   ·rw [if_pos (by right;exact⟨fun h'=>absurd h' h,fun h'=>absurd k2 h'⟩),if_pos (by omega)]
  ·simp only [if_neg k2]
   by_cases h:v=0
   ·rw [if_neg (by subst h;simp [k2]),if_neg (by omega),if_neg (by omega)]
   ·rw [if_pos (by
     by_cases h1:v=1
     ·right;exact⟨fun _=>k2,fun _=>h1⟩
     ·left;omega),if_pos (by omega)]
section
variable {ρ:Type} (fail:ρ) (fu:Nat) (hfu:200≤fu)
theorem w0o (K:TK8b ρ) (B:EL) (a e:Int) (he:e≠0) (hf:1≤fu):p26 fail fu K B a e=K 0 0 ⟨#[]⟩ nilE nilE B a e:=by
 obtain⟨m,hm⟩:∃ m,fu=m + 1:=⟨fu - 1,by omega⟩
 have h:∀ (m':Nat) (K9:TK9 ρ),m'=m + 1→p49 fail m' K9 B a e 1 2000=K9 0 0 ⟨#[]⟩ nilE nilE B a e 1999:=fun m' K9 hm'=>by
  subst hm'
  rw [p49,p49_b,eqlF (by decide),cond_false,p49_12,gtrF (by decide),cond_false,p49_11,w2j _ _ _ _ _ _ he,neqT he,cond_true]
  rfl
 rw [p26,h fu _ hm]
variable (K:DK19 ρ) (r:Int→ρ) (hK:∀ e:Int,e≠0→∀ y1 y2 y3 y4 y5 y6 y7 y8 y9 y10 y11 y12 y13 y14 y15 y16 y17 y18,K y1 y2 y3 y4 y5 y6 y7 y8 y9 y10 y11 y12 y13 y14 y15 y16 y17 y18 e=r e)
include hK
theorem rd2 (y1 y5 y9:Int) (y13 y17:ByteArray) (y21 y22:Int) (y23:ByteArray) (y24 y25:EL) (j38 j39:Int) (j40:ByteArray) (j41 j42:EL) (y43:Int) (n:Nat) (B:EL) (a e:Int) (he:e≠0) (z:EL) (i:Int) :
  p25_2L fail fu K y1 y5 y9 y13 y17 y21 y22 y23 y24 y25 j38 j39 j40 j41 j42 y43 (n + 1) B a e z i=r e:=by
 rw [p25_2L,p25_2]
 cases z0a .lss i y43 with
 | true=>rw [cond_true,eqlF he,p25_1,cond_false,hK e he]
 | false=>rw [cond_false,p25_1,cond_false,hK e he]
theorem rd3 (hf:1≤fu) (y1 y5 y9:Int) (y13 y17:ByteArray) (y21 y22:Int) (y23:ByteArray) (y24 y25:EL) (j38 j39:Int) (j40:ByteArray) (j41 j42:EL) (y43:Int) (B:EL) (a e:Int) (he:e≠0) :
  p25_3 fail fu K y1 y5 y9 y13 y17 y21 y22 y23 y24 y25 j38 j39 j40 j41 j42 y43 B a e=r e:=by
 obtain⟨m,hm⟩:∃ m,fu=m + 1:=⟨fu - 1,by omega⟩
 have h:∀ m',m'=m + 1→p25_2L fail fu K y1 y5 y9 y13 y17 y21 y22 y23 y24 y25 j38 j39 j40 j41 j42 y43 m' B a e nilE 0=r e:=fun m' hm'=>by
  subst hm';exact rd2 fail fu K r hK y1 y5 y9 y13 y17 y21 y22 y23 y24 y25 j38 j39 j40 j41 j42 y43 m B a e he nilE 0
 rw [p25_3];exact h fu hm
theorem rd4 (hf:1≤fu) (y1 y5 y9:Int) (y13 y17:ByteArray) (y21 y22:Int) (y23:ByteArray) (y24 y25:EL) (B:EL) (a e:Int) (he:e≠0) (j38 j39:Int) (j40:ByteArray) (j41 j42:EL) :
  p25_4 fail fu K y1 y5 y9 y13 y17 y21 y22 y23 y24 y25 B a e j38 j39 j40 j41 j42=r e:=by
 rw [p25_4,rnumE _ _ _ _ _ _ he,gtrF (by decide),cond_false,rd3 fail fu K r hK hf y1 y5 y9 y13 y17 y21 y22 y23 y24 y25 j38 j39 j40 j41 j42 0 B a e he]
theorem rd6 (hf:1≤fu) (y1 y5 y9:Int) (y13 y17:ByteArray) (y21 y22:Int) (y23:ByteArray) (y24 y25:EL) (B:EL) (a e:Int) (he:e≠0) (j:Int) :
  p25_6 fail fu K y1 y5 y9 y13 y17 y21 y22 y23 y24 y25 B a e j=r e:=by
 rw [p25_6,w2j _ _ _ _ _ _ he,eqlF he,cond_false,p25_5,cond_false,rd4 fail fu K r hK hf _ _ _ _ _ _ _ _ _ _ B a e he]
theorem rdif (hf:1≤fu) (c:Bool) (y1 y5 y9:Int) (y13 y17:ByteArray) (y21 y22:Int) (y23:ByteArray) (y24 y25:EL) (B:EL) (a e:Int) (he:e≠0) :
  (bif c then (p25_6 fail fu K y1 y5 y9 y13 y17 y21 y22 y23 y24 y25 B a e 1) else (p25_6 fail fu K y1 y5 y9 y13 y17 y21 y22 y23 y24 y25 B a e 0))=r e:=by
 cases c with
 | true=>rw [cond_true,rd6 fail fu K r hK hf _ _ _ _ _ _ _ _ _ _ B a e he]
 | false=>rw [cond_false,rd6 fail fu K r hK hf _ _ _ _ _ _ _ _ _ _ B a e he]
variable (all:List UInt8) (hall:all.length≤1099511627776)
include hfu hall
theorem w6w (y1 y5 y9:Int) (y13 y17:ByteArray) (y21 y22:Int) (y23:ByteArray) (y24 y25:EL) (j38 j39:Int) (j40:ByteArray) (j41 j42:EL) (N:Nat) (hN:N≤100):∀ (q n:Nat) (bs:List UInt8) (z:EL) (i p:Nat),Sfx all bs→z.length≤i→i + q=N→q < n →
  p25_2L fail fu K y1 y5 y9 y13 y17 y21 y22 y23 y24 y25 j38 j39 j40 j41 j42 (N:Nat) n (encB all) (atR all bs) 0 z (i:Nat)=match many rdCt q p bs with
   | .ok (l,bs',_)=>K y1 y5 y9 y13 y17 y21 y22 y23 y24 y25 j38 j39 j40 j41 j42 (z++l.map ctRow) (encB all) (atR all bs') 0
   | .error e=>r e:=by
 intro q
 induction q with
 | zero =>
  intro n bs z i p hs hz hi hn
  obtain⟨n,rfl⟩:∃ m,n=m + 1:=⟨n - 1,by omega⟩
  rw [p25_2L,p25_2,lssF (by omega),cond_false,p25_1,cond_false]
  simp only [many,List.map_nil,List.append_nil]
 | succ q ih =>
  intro n bs z i p hs hz hi hn
  obtain⟨n,rfl⟩:∃ m,n=m + 1:=⟨n - 1,by omega⟩
  obtain⟨n,rfl⟩:∃ m,n=m + 1:=⟨n - 1,by omega⟩
  rw [p25_2L,p25_2,lssT (by omega),cond_true,eqlT rfl,p25_1,cond_true]
  simp only [many]
  have hn1:=z5c (ρ:=ρ) fail fu all hall (by omega) bs hs
  have hct:rdCt p bs=match rdTxt 24 bs with
   | .error e=>.error e
   | .ok (s,bs)=>match z0j bs with
    | .error e=>.error e
    | .ok (t,bs)=>.ok ((⟨s.toArray⟩,t),bs,p):=rfl
  rw [hct]
  cases hx:rdTxt 24 bs with
  | error e =>
   rw [hx] at hn1
   obtain⟨he,a,h1⟩:=hn1
   dsimp only at h1 ⊢
   rw [h1,w0o fail fu _ _ _ _ he (by omega),gd_y (by simp),gd_y (by simp;omega),rd2 fail fu K r hK _ _ _ _ _ _ _ _ _ _ _ _ _ _ _ _ n _ _ e he]
  | ok x =>
   obtain⟨s,bs1⟩:=x
   rw [hx] at hn1
   dsimp only [NO6] at hn1 ⊢
   have hs1:Sfx all bs1:=(hs.of (z1n hx).2.2.1).app
   have ht1:=z4j (ρ:=ρ) fail fu all hall (by omega) bs1 hs1
   cases hy:z0j bs1 with
   | error e =>
    rw [hy] at ht1
    obtain⟨he,a,b,c,l,g,B,at',h1⟩:=ht1
    dsimp only at h1 ⊢
    rw [hn1,h1,gd_y (by simp),gd_y (by simp;omega),rd2 fail fu K r hK _ _ _ _ _ _ _ _ _ _ _ _ _ _ _ _ n _ _ e he]
   | ok x =>
    obtain⟨t,bs2⟩:=x
    rw [hy] at ht1
    dsimp only [TmO8] at ht1 ⊢
    have hs2:Sfx all bs2:=hs1.of (z0w hy)
    have e1:List.take 1 [[CV.v (.string ⟨s.toArray⟩),CV.v (.int .i64 t.k),CV.v (.int .i64 t.n),CV.v (.string t.nm),CV.sl 3 (Lv.rows t.ls) none,CV.sl 5 (Tm.rows t.args) none]]=[ctRow (⟨s.toArray⟩,t)]:=rfl
    rw [hn1,ht1,gd_y (by simp),gd_y (by simp;omega),e1,addZ (by omega) (by omega),show ((i:Nat):Int) + 1=((i + 1:Nat):Int) by omega,ih (n + 1) bs2 (z++[ctRow (⟨s.toArray⟩,t)]) (i + 1) p hs2 (by simp;omega) (by omega) (by omega)]
    cases many rdCt q p bs2 with
    | error e=>rfl
    | ok x=>obtain⟨l,bs3,q3⟩:=x;dsimp only;rw [List.map_cons,List.append_assoc];rfl
theorem w8c (y1 y5 y9:Int) (k:Nat) (hk:y1=(k:Nat)) (y13 y17:ByteArray) (y21 y22:Int) (y23:ByteArray) (y24 y25:EL) (bs:List UInt8) (hs:Sfx all bs) :
  (bif z0a .eql y1 2 then (p25_6 fail fu K y1 y5 y9 y13 y17 y21 y22 y23 y24 y25 (encB all) (atR all bs) 0 1) else (p25_6 fail fu K y1 y5 y9 y13 y17 y21 y22 y23 y24 y25 (encB all) (atR all bs) 0 0))=match z7s k bs with
   | .ok (v,l,bs')=>K y1 y5 y9 y13 y17 y21 y22 y23 y24 y25 v.k v.n v.nm (Lv.rows v.ls) (Tm.rows v.args) (l.map ctRow) (encB all) (atR all bs') 0
   | .error e=>r e:=by
 have cts:∀ (bs:List UInt8) (v:Tm),Sfx all bs→p25_4 fail fu K y1 y5 y9 y13 y17 y21 y22 y23 y24 y25 (encB all) (atR all bs) 0 v.k v.n v.nm (Lv.rows v.ls) (Tm.rows v.args)=match rdCts bs with
   | .ok (l,bs')=>K y1 y5 y9 y13 y17 y21 y22 y23 y24 y25 v.k v.n v.nm (Lv.rows v.ls) (Tm.rows v.args) (l.map ctRow) (encB all) (atR all bs') 0
   | .error e=>r e:=fun bs v hs=>by
  have hn:=z2o (ρ:=ρ) fail fu all hall (by omega) bs hs
  rw [p25_4]
  unfold rdCts
  cases hx:rdNum bs with
  | error e =>
   rw [hx] at hn
   obtain⟨he,a,h1⟩:=hn
   dsimp only at h1 ⊢
   rw [h1,gtrF (by decide),cond_false,rd3 fail fu K r hK (by omega) _ _ _ _ _ _ _ _ _ _ _ _ _ _ _ _ _ _ e he]
  | ok x =>
   obtain⟨n,bs1⟩:=x
   rw [hx] at hn
   dsimp only [KO6] at hn ⊢
   have hs1:Sfx all bs1:=hs.of (z0t hx).2.2
   rw [hn]
   by_cases h5:5 < n
   ·rw [gtrT (by omega),cond_true,z2x,rd3 fail fu K r hK (by omega) _ _ _ _ _ _ _ _ _ _ _ _ _ _ _ _ _ _ 3 (by decide),if_pos h5]
   ·have:=w6w fail fu hfu K r hK all hall y1 y5 y9 y13 y17 y21 y22 y23 y24 y25 v.k v.n v.nm (Lv.rows v.ls) (Tm.rows v.args) n (by omega) n fu bs1 nilE 0 0 hs1 (by simp) (by omega) (by omega)
    rw [gtrF (by omega),cond_false,p25_3,if_neg h5]
    refine this.trans ?_
    cases many rdCt n 0 bs1 with
    | error e=>rfl
    | ok x=>obtain⟨l,bs3,q3⟩:=x;rfl
 unfold z7s
 rw [w6u]
 by_cases k2:k=2
 ·have hkd:=z6f (ρ:=ρ) fail fu all hall (by omega) bs hs 1 1 (by omega)
  rw [eqlT (by omega),cond_true,p25_6]
  simp only [if_pos k2]
  cases hx:z2c 1 1 bs with
  | error e =>
   rw [hx] at hkd
   obtain⟨he,a,h1⟩:=hkd
   have h1':∀ K':Int→EL→Int→Int→ρ,p48 fail fu K' (encB all) (atR all bs) 0 1 1=K' 0 (encB all) a e:=h1
   dsimp only
   rw [h1',eqlF he,cond_false,p25_5,cond_false,rd4 fail fu K r hK (by omega) _ _ _ _ _ _ _ _ _ _ _ _ e he]
  | ok x =>
   obtain⟨n,bs1⟩:=x
   rw [hx] at hkd
   have h1':∀ K':Int→EL→Int→Int→ρ,p48 fail fu K' (encB all) (atR all bs) 0 1 1=K' (n:Nat) (encB all) (atR all bs1) 0:=hkd
   have hs1:Sfx all bs1:=hs.of (z1g hx).2.2.2
   dsimp only
   have ht1:=z4j (ρ:=ρ) fail fu all hall (by omega) bs1 hs1
   rw [h1',eqlT rfl,cond_true,eqlT rfl,p25_5,cond_true]
   cases hy:z0j bs1 with
   | error e =>
    rw [hy] at ht1
    obtain⟨he,a,b,c,l,g,B,at',h1⟩:=ht1
    dsimp only at h1 ⊢
    rw [h1,rd4 fail fu K r hK (by omega) _ _ _ _ _ _ _ _ _ _ _ _ e he]
   | ok x =>
    obtain⟨t,bs2⟩:=x
    rw [hy] at ht1
    dsimp only [TmO8] at ht1 ⊢
    have hs2:Sfx all bs2:=hs1.of (z0w hy)
    rw [ht1,cts bs2 t hs2]
    cases rdCts bs2 with
    | error e=>rfl
    | ok x=>obtain⟨l,bs3⟩:=x;rfl
 ·have hkd:=z6f (ρ:=ρ) fail fu all hall (by omega) bs hs 0 0 (by omega)
  rw [eqlF (by omega),cond_false,p25_6]
  simp only [if_neg k2]
  cases hx:z2c 0 0 bs with
  | error e =>
   rw [hx] at hkd
   obtain⟨he,a,h1⟩:=hkd
   have h1':∀ K':Int→EL→Int→Int→ρ,p48 fail fu K' (encB all) (atR all bs) 0 0 0=K' 0 (encB all) a e:=h1
   dsimp only
   rw [h1',eqlF he,cond_false,p25_5,cond_false,rd4 fail fu K r hK (by omega) _ _ _ _ _ _ _ _ _ _ _ _ e he]
  | ok x =>
   obtain⟨n,bs1⟩:=x
   rw [hx] at hkd
   have h1':∀ K':Int→EL→Int→Int→ρ,p48 fail fu K' (encB all) (atR all bs) 0 0 0=K' (n:Nat) (encB all) (atR all bs1) 0:=hkd
   have hs1:Sfx all bs1:=hs.of (z1g hx).2.2.2
   dsimp only
   rw [h1',eqlT rfl,cond_true,eqlF (by decide),p25_5,cond_false]
   refine (cts bs1 tm0 hs1).trans ?_
   cases rdCts bs1 with
   | error e=>rfl
   | ok x=>obtain⟨l,bs3⟩:=x;rfl
theorem w2n (bs:List UInt8) (hbs:Sfx all bs):p25 fail fu K (encB all) (atR all bs) 0=match z1i bs with
   | .ok (d,bs')=>K d.k d.pa d.ct d.nm d.fam d.ty.k d.ty.n d.ty.nm (Lv.rows d.ty.ls) (Tm.rows d.ty.args) d.val.k d.val.n d.val.nm (Lv.rows d.val.ls) (Tm.rows d.val.args) (d.cs.map ctRow) (encB all) (atR all bs') 0
   | .error e=>r e:=by
 have hk:=z6f (ρ:=ρ) fail fu all hall (by omega) bs hbs 1 5 (by omega)
 rw [p25]
 unfold z1i
 cases hx:z2c 1 5 bs with
 | error e =>
  rw [hx] at hk
  obtain⟨he,a,h1⟩:=hk
  have h1':∀ K':Int→EL→Int→Int→ρ,p48 fail fu K' (encB all) (atR all bs) 0 1 5=K' 0 (encB all) a e:=h1
  dsimp only
  rw [h1',rnumE _ _ _ _ _ _ he,rnumE _ _ _ _ _ _ he,z8w _ _ _ _ _ _ he,z8w _ _ _ _ _ _ he,w0o fail fu _ _ _ _ he (by omega),rdif fail fu K r hK (by omega) _ _ _ _ _ _ _ _ _ _ _ _ _ e he]
 | ok x =>
  obtain⟨k,b1⟩:=x
  rw [hx] at hk
  have h1':∀ K':Int→EL→Int→Int→ρ,p48 fail fu K' (encB all) (atR all bs) 0 1 5=K' (k:Nat) (encB all) (atR all b1) 0:=hk
  have s1:Sfx all b1:=hbs.of (z1g hx).2.2.2
  dsimp only
  rw [h1']
  have hn1:=z2o (ρ:=ρ) fail fu all hall (by omega) b1 s1
  unfold rdD2
  cases hx2:rdNum b1 with
  | error e =>
   rw [hx2] at hn1
   obtain⟨he,a,h1⟩:=hn1
   dsimp only at h1 ⊢
   rw [h1,rnumE _ _ _ _ _ _ he,z8w _ _ _ _ _ _ he,z8w _ _ _ _ _ _ he,w0o fail fu _ _ _ _ he (by omega),rdif fail fu K r hK (by omega) _ _ _ _ _ _ _ _ _ _ _ _ _ e he]
  | ok x =>
   obtain⟨pa,b2⟩:=x
   rw [hx2] at hn1
   dsimp only [KO6] at hn1 ⊢
   have s2:Sfx all b2:=s1.of (z0t hx2).2.2
   rw [hn1]
   have hn2:=z2o (ρ:=ρ) fail fu all hall (by omega) b2 s2
   unfold rdD3
   cases hx3:rdNum b2 with
   | error e =>
    rw [hx3] at hn2
    obtain⟨he,a,h1⟩:=hn2
    dsimp only at h1 ⊢
    rw [h1,z8w _ _ _ _ _ _ he,z8w _ _ _ _ _ _ he,w0o fail fu _ _ _ _ he (by omega),rdif fail fu K r hK (by omega) _ _ _ _ _ _ _ _ _ _ _ _ _ e he]
   | ok x =>
    obtain⟨ct,b3⟩:=x
    rw [hx3] at hn2
    dsimp only [KO6] at hn2 ⊢
    have s3:Sfx all b3:=s2.of (z0t hx3).2.2
    rw [hn2]
    have hn3:=z5c (ρ:=ρ) fail fu all hall (by omega) b3 s3
    unfold rdD4
    cases hx4:rdTxt 24 b3 with
    | error e =>
     rw [hx4] at hn3
     obtain⟨he,a,h1⟩:=hn3
     dsimp only at h1 ⊢
     rw [h1,z8w _ _ _ _ _ _ he,w0o fail fu _ _ _ _ he (by omega),rdif fail fu K r hK (by omega) _ _ _ _ _ _ _ _ _ _ _ _ _ e he]
    | ok x =>
     obtain⟨n1,b4⟩:=x
     rw [hx4] at hn3
     dsimp only [NO6] at hn3 ⊢
     have s4:Sfx all b4:=(s3.of (z1n hx4).2.2.1).app
     rw [hn3]
     have hn4:=z5c (ρ:=ρ) fail fu all hall (by omega) b4 s4
     unfold rdD5
     cases hx5:rdTxt 24 b4 with
     | error e =>
      rw [hx5] at hn4
      obtain⟨he,a,h1⟩:=hn4
      dsimp only at h1 ⊢
      rw [h1,w0o fail fu _ _ _ _ he (by omega),rdif fail fu K r hK (by omega) _ _ _ _ _ _ _ _ _ _ _ _ _ e he]
     | ok x =>
      obtain⟨n2,b5⟩:=x
      rw [hx5] at hn4
      dsimp only [NO6] at hn4 ⊢
      have s5:Sfx all b5:=(s4.of (z1n hx5).2.2.1).app
      rw [hn4]
      have hn5:=z4j (ρ:=ρ) fail fu all hall (by omega) b5 s5
      unfold rdD6
      cases hx6:z0j b5 with
      | error e =>
       rw [hx6] at hn5
       obtain⟨he,a,b,c,l,g,B,at',h1⟩:=hn5
       dsimp only at h1 ⊢
       rw [h1,rdif fail fu K r hK (by omega) _ _ _ _ _ _ _ _ _ _ _ _ _ e he]
      | ok x =>
       obtain⟨t,b6⟩:=x
       rw [hx6] at hn5
       dsimp only [TmO8] at hn5 ⊢
       have s6:Sfx all b6:=s5.of (z0w hx6)
       rw [hn5]
       refine (w8c fail fu hfu K r hK all hall (k:Nat) (pa:Nat) (ct:Nat) k rfl _ _ _ _ _ _ _ b6 s6).trans ?_
       cases z7s k b6 with
       | error e=>rfl
       | ok x=>obtain⟨v,l,b7⟩:=x;rfl
end
def p22_1 {ρ:Type} (fail:ρ) (fu:Nat) (K0:ByteArray→Bool→ρ) (x0:Int) (j4:Bool):ρ :=
 bif j4 then (K0 ⟨#[112,116,121]⟩ true) else (bif (z0a .eql x0 8) then (K0 ⟨#[104,111]⟩ true) else (bif (z0a .eql x0 9) then (K0 ⟨#[104,116]⟩ true) else (bif (z0a .eql x0 10) then (K0 ⟨#[104,121]⟩ true) else (bif (z0a .eql x0 15) then (K0 ⟨#[104,110]⟩ true) else (bif (z0a .eql x0 18) then (K0 ⟨#[]⟩ true) else (K0 ⟨#[]⟩ false))))))
def p22_2 {ρ:Type} (fail:ρ) (fu:Nat) (K0:ByteArray→Bool→ρ) (x0:Int) (j3:Bool):ρ :=
 bif j3 then (K0 ⟨#[112,116]⟩ true) else (bif (z0a .eql x0 7) then (p22_1 fail fu K0 x0 (z0a .eql x0 7)) else (p22_1 fail fu K0 x0 (z0a .eql x0 16)))
def p22_3 {ρ:Type} (fail:ρ) (fu:Nat) (K0:ByteArray→Bool→ρ) (x0:Int) (j2:Bool):ρ :=
 bif j2 then (K0 ⟨#[100]⟩ true) else (bif (z0a .eql x0 6) then (p22_2 fail fu K0 x0 (z0a .eql x0 6)) else (p22_2 fail fu K0 x0 (z0a .eql x0 17)))
def p22_4 {ρ:Type} (fail:ρ) (fu:Nat) (K0:ByteArray→Bool→ρ) (x0:Int) (j5:Bool):ρ :=
 p22_3 fail fu K0 x0 j5
def p22_5 {ρ:Type} (fail:ρ) (fu:Nat) (K0:ByteArray→Bool→ρ) (x0:Int) (j1:Bool):ρ :=
 bif j1 then (K0 ⟨#[104]⟩ true) else (bif (z0a .eql x0 3) then (p22_3 fail fu K0 x0 (z0a .eql x0 3)) else (bif (z0a .eql x0 4) then (p22_4 fail fu K0 x0 (z0a .eql x0 4)) else (p22_4 fail fu K0 x0 (z0a .eql x0 5))))
def p22_6 {ρ:Type} (fail:ρ) (fu:Nat) (K0:ByteArray→Bool→ρ) (x0:Int) (j6:Bool):ρ :=
 p22_5 fail fu K0 x0 j6
def p22_7 {ρ:Type} (fail:ρ) (fu:Nat) (K0:ByteArray→Bool→ρ) (x0:Int) (j7:Bool):ρ :=
 p22_6 fail fu K0 x0 j7
def p22_8 {ρ:Type} (fail:ρ) (fu:Nat) (K0:ByteArray→Bool→ρ) (x0:Int) (j8:Bool):ρ :=
 p22_7 fail fu K0 x0 j8
def p22 {ρ:Type} (fail:ρ) (fu:Nat) (K0:ByteArray→Bool→ρ) (x0:Int):ρ :=
 bif (z0a .eql x0 1) then (K0 ⟨#[102]⟩ true) else (bif (z0a .eql x0 2) then (p22_5 fail fu K0 x0 (z0a .eql x0 2)) else (bif (z0a .eql x0 11) then (p22_6 fail fu K0 x0 (z0a .eql x0 11)) else (bif (z0a .eql x0 12) then (p22_7 fail fu K0 x0 (z0a .eql x0 12)) else (bif (z0a .eql x0 13) then (p22_8 fail fu K0 x0 (z0a .eql x0 13)) else (p22_8 fail fu K0 x0 (z0a .eql x0 14))))))
end Go.Proofs.Ytioiigabeoaneaa
