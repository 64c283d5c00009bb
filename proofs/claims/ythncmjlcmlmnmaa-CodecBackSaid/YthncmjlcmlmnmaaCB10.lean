/- A part of the proof. Conditions: none. -/
import Derived.Test.YthncmjlcmlmnmaaCB9
import Derived.Test.YthncmjlcmlmnmaaCB4
import Derived.Test.YthncmjlcmlmnmaaCB5
import Derived.Test.YthncmjlcmlmnmaaCB6
import Derived.Test.YthncmjlcmlmnmaaCB7
import Derived.Test.YthncmjlcmlmnmaaCB8
import Derived.ProofKit
import Derived.WalkKit
import Derived.LoopTactic
import Derived.Lib.Hide
import Derived.KernelRfl
namespace Go.Proofs.Ythncmjlcmlmnmaa
open Go V
set_option maxRecDepth 100000
set_option maxHeartbeats 4000000
def ctsB:List (ByteArray × Tm)→List UInt8
 | []=>[]
 | c :: l=>(txB c.1++c.2.enc)++ctsB l
def ctsSz:List (ByteArray × Tm)→Nat
 | []=>0
 | c :: l=>1 + (c.1.size + c.2.sz) + ctsSz l
def Dc.enc (d:Dc):List UInt8:=numsB [d.k,d.pa,d.ct]++(txB d.nm++(txB d.fam++(d.ty.enc++((if d.k=2 then varB 1++d.val.enc else varB 0)++(varB d.cs.length++ctsB d.cs)))))
def Dc.sz (d:Dc):Nat:=d.nm.size + d.fam.size + d.ty.sz + d.val.sz + ctsSz d.cs
theorem z9q (p:Nat) (bs:List UInt8) (a:ByteArray × Tm) (r:List UInt8) (q:Nat) (h:rdCt p bs=.ok (a,r,q)):bs=(txB a.1++a.2.enc)++r∧1 + (a.1.size + a.2.sz) + 2 * r.length≤2 * bs.length:=by
 unfold rdCt at h;split at h
 ·cases h
 ·rename_i s bs1 hs
  obtain⟨h1,h2,h3,h4⟩:=z2q hs
  split at h
  ·cases h
  ·rename_i t bs2 ht
   injection h with h;injection h with h5 h;injection h with h6 h7;subst h5 h6 h7
   have h8:=z3g ht
   have h9:=z6x ht
   refine⟨?_,?_⟩
   ·dsimp only
    rw [txB_of,h3]
    simp only [List.append_assoc]
    rw [← h8]
   ·dsimp only
    rw [bsz,h3];simp only [List.length_append];omega
theorem w9h {k:Nat} {bs r:List UInt8} {t:Tm} (h:rdVal k bs=.ok (t,r)):bs=(if k=2 then varB 1++t.enc else varB 0)++r∧t.sz + 2 * r.length≤2 * bs.length∧(k≠2→t=tm0):=by
 unfold rdVal at h;split at h
 ·cases h
 ·rename_i v bs1 hv
  obtain⟨h1,h2,h3⟩:=z9l hv
  split at h
  ·cases h
  ·rename_i hbad
   split at h
   ·rename_i hv1
    have hk:k=2:=by
     rcases Nat.lt_or_ge 1 v with q | q
     ·exact absurd (.inl q) hbad
     ·by_cases hk:k=2
      ·exact hk
      ·exact absurd (.inr ⟨fun _=>hk,fun _=>hv1⟩) hbad
    have h8:=z3g h
    have h9:=z6x h
    refine⟨?_,by omega,fun q=>absurd hk q⟩
    rw [if_pos hk,h3,hv1,List.append_assoc,← h8]
   ·rename_i hv1
    injection h with h;injection h with h5 h6;subst h5 h6
    have hk:k≠2:=fun hk=>hbad (.inr ⟨fun q=>absurd q hv1,fun q=>absurd hk q⟩)
    have hv0:v=0:=by
     rcases Nat.lt_or_ge 1 v with q | q
     ·exact absurd (.inl q) hbad
     ·omega
    refine⟨?_,?_,fun _=>rfl⟩
    ·rw [if_neg hk,h3,hv0]
    ·have:tm0.sz=1:=rfl
     omega
theorem w9j {bs r:List UInt8} {l:List (ByteArray × Tm)} (h:rdCts bs=.ok (l,r)):bs=(varB l.length++ctsB l)++r∧ctsSz l + 2 * r.length≤2 * bs.length∧l.length≤5:=by
 unfold rdCts at h;split at h
 ·cases h
 ·rename_i n bs1 hn
  obtain⟨h1,h2,h3⟩:=z1i hn
  split at h
  ·cases h
  ·rename_i h5
   split at h
   ·cases h
   ·rename_i l' bs2 q hm
    injection h with h;injection h with h6 h7;subst h6 h7
    have h8:=z4f (g:=fun c=>txB c.1++c.2.enc) (gs:=ctsB) rfl (fun _ _=>rfl) (fun p bs a r q h=>(z9q p bs a r q h).1) _ _ _ _ _ _ hm
    have h9:=z9y (g:=fun c=>c.1.size + c.2.sz) (gs:=ctsSz) rfl (fun _ _=>rfl) (fun p bs a r q h=>(z9q p bs a r q h).2) _ _ _ _ _ _ hm
    have h10:=(z3a (m:=0) (f:=rdCt) (fun p bs a r q hp h=>by
     have:=(z9q p bs a r q h).2
     refine⟨by omega,?_⟩
     unfold rdCt at h;split at h
     ·cases h
     ·split at h
      ·cases h
      ·injection h with h;injection h with _ h;injection h with _ h;omega) _ _ _ _ _ _ (Nat.le_refl _) hm).2.2
    refine⟨?_,by omega,by omega⟩
    rw [h10,h3,List.append_assoc,← h8]
theorem w6e {bs r:List UInt8} {d:Dc} (h:z5b bs=.ok (d,r)):bs=d.enc++r∧d.sz + 2 * r.length≤2 * bs.length∧d.cs.length≤5:=by
 unfold z5b at h;split at h
 ·cases h
 ·rename_i k bs1 hk
  obtain⟨k1,k2,k3,k4⟩:=z2j hk
  split at h
  ·cases h
  ·rename_i pa ct nm fam ty val cs bs' h2
   injection h with h;injection h with h5 h6;subst h5 h6
   unfold rdD2 at h2;split at h2
   ·cases h2
   ·rename_i pa' bs2 hpa
    obtain⟨p1,p2,p3⟩:=z1i hpa
    split at h2
    ·cases h2
    ·rename_i x3 h3
     injection h2 with h2;injection h2 with e1 e2;subst e1 e2
     unfold rdD3 at h3;split at h3
     ·cases h3
     ·rename_i ct' bs3 hct
      obtain⟨c1,c2,c3⟩:=z1i hct
      split at h3
      ·cases h3
      ·rename_i x4 h4
       injection h3 with h3;injection h3 with e1 e2;subst e1 e2
       unfold rdD4 at h4;split at h4
       ·cases h4
       ·rename_i s1 bs4 hs1
        obtain⟨s11,s12,s13,s14⟩:=z2q hs1
        split at h4
        ·cases h4
        ·rename_i x5 h5
         injection h4 with h4;injection h4 with e1 e2;subst e1 e2
         unfold rdD5 at h5;split at h5
         ·cases h5
         ·rename_i s2 bs5 hs2
          obtain⟨s21,s22,s23,s24⟩:=z2q hs2
          split at h5
          ·cases h5
          ·rename_i x6 h6
           injection h5 with h5;injection h5 with e1 e2;subst e1 e2
           unfold rdD6 at h6;split at h6
           ·cases h6
           ·rename_i t bs6 ht
            have t1:=z3g ht
            have t2:=z6x ht
            split at h6
            ·cases h6
            ·rename_i v l bs7 h7
             injection h6 with h6;injection h6 with e1 h6;injection h6 with e2 h6;injection h6 with e3 e4;subst e1 e2 e3 e4
             unfold w1h at h7;split at h7
             ·cases h7
             ·rename_i v' bs8 hv
              obtain⟨v1,v2,_⟩:=w9h hv
              split at h7
              ·cases h7
              ·rename_i l' bs9 hl
               injection h7 with h7;injection h7 with e1 h7;injection h7 with e2 e3;subst e1 e2 e3
               obtain⟨l1,l2,l3⟩:=w9j hl
               refine⟨?_,?_,l3⟩
               ·simp only [Dc.enc,z5o,show numsB []=[] from rfl,txB_of,List.append_nil,z2v k (by omega),z2v pa' (by omega),z2v ct' (by omega),List.append_assoc]
                rw [k4,p3,c3,s13,s23,t1,v1,l1]
                simp only [List.append_assoc]
                by_cases k2:k=2
                ·rw [if_pos k2,if_pos (show ((k:Nat):Int)=2 by omega)]
                ·rw [if_neg k2,if_neg (show ¬ ((k:Nat):Int)=2 by omega)]
               ·simp only [Dc.sz,bsz]
                have a1:bs3.length=(varB s1.length).length + (s1.length + bs4.length):=by rw [s13];simp only [List.length_append]
                have a2:bs4.length=(varB s2.length).length + (s2.length + bs5.length):=by rw [s23];simp only [List.length_append]
                omega
theorem w8j {ρ:Type} (fail:ρ) (l:List (ByteArray × Tm)) (i:Nat) (h:i < l.length) (k:ByteArray→Int→Int→ByteArray→EL→EL→ρ):z0l fail (List.getD (l.map ctRow) (((i:Nat):Int)).toNat []) k=k l[i].1 l[i].2.k l[i].2.n l[i].2.nm (Lv.rows l[i].2.ls) (Tm.rows l[i].2.args):=by
 rw [Int.toNat_natCast,List.getD,List.getElem?_map,List.getElem?_eq_getElem h];rfl
theorem w0l:∀ {l:List (ByteArray × Tm)} {a:ByteArray × Tm},a ∈ l→1 + (a.1.size + a.2.sz)≤ctsSz l
 | b :: l,a,h=>by
  simp only [ctsSz]
  rcases List.mem_cons.1 h with rfl | h
  ·omega
  ·have:=w0l h;omega
theorem z5g:∀ l:List (ByteArray × Tm),l.length≤ctsSz l
 | []=>Nat.zero_le _
 | a :: l=>by have:=z5g l;simp only [ctsSz,List.length_cons];omega
theorem cts_w {ρ:Type} (fail:ρ) (fu:Nat) (K:EL→ρ) (l:List (ByteArray × Tm)) (hfu:ctsSz l + 40≤fu) (hsz:ctsSz l < 1099511627776) :
  ∀ (r i n:Nat) (z:EL),i + r=l.length→r < n→z.length + (ctsB (l.drop i)).length≤35184372087000→p71_1L fail fu K (l.map ctRow) n z ((l.length:Nat):Int) ((i:Nat):Int)=K (z++encB (ctsB (l.drop i))):=by
 have hl:=z5g l
 intro r
 induction r with
 | zero =>
  intro i n z hi hn hz
  obtain⟨n,rfl⟩:∃ m,n=m + 1:=⟨n - 1,by omega⟩
  rw [p71_1L,p71_1,lssF (by omega),cond_false,List.drop_eq_nil_of_le (by omega)]
  simp [ctsB]
 | succ r ih =>
  intro i n z hi hn hz
  obtain⟨n,rfl⟩:∃ m,n=m + 1:=⟨n - 1,by omega⟩
  have hlt:i < l.length:=by omega
  have hm:=w0l (List.getElem_mem hlt)
  have hd:l.drop i=l[i] :: l.drop (i + 1):=List.drop_eq_getElem_cons hlt
  rw [hd] at hz ⊢
  simp only [ctsB,List.length_append] at hz ⊢
  have htx:(txB l[i].1).length=(varB l[i].1.size).length + l[i].1.size:=by simp [txB,z2f]
  have h10:=z1b (show l[i].1.size < 2 ^ 64 by omega)
  rw [p71_1L,p71_1,lssT (by omega),cond_true,gd_y (by omega),gd_y (by rw [List.length_map];omega),w8j fail l i hlt,gsz,w7e fail fu (by omega) _ _ z (by omega) (by omega),
   w7f fail _ l[i].2 (Nat.le_refl _) fu _ _ (by omega) (by omega) (by rw [List.length_append,z0e];omega),addZ (by omega) (by omega),show ((i:Nat):Int) + 1=((i + 1:Nat):Int) by omega]
  rw [ih (i + 1) n _ (by omega) (by omega) (by simp only [List.length_append,z0e];omega)]
  simp [List.append_assoc]
theorem decl_w {ρ:Type} (fail:ρ) (fu:Nat) (K:EL→ρ) (d:Dc) (hf:d.sz + 60≤fu) (hsz:d.sz < 1099511627776) (z:EL) (hz:z.length + d.enc.length≤35184372086000) :
  p71 fail fu K z d.k d.pa d.ct d.nm d.fam d.ty.k d.ty.n d.ty.nm (Lv.rows d.ty.ls) (Tm.rows d.ty.args) d.val.k d.val.n d.val.nm (Lv.rows d.val.ls) (Tm.rows d.val.args) (d.cs.map ctRow)=K (z++encB d.enc):=by
 simp only [Dc.sz] at hf hsz
 have hcl:=z5g d.cs
 have hn3:((numsB [d.k,d.pa,d.ct]).length)≤30:=z9u [d.k,d.pa,d.ct]
 have htx1:(txB d.nm).length=(varB d.nm.size).length + d.nm.size:=by simp [txB,z2f]
 have htx2:(txB d.fam).length=(varB d.fam.size).length + d.fam.size:=by simp [txB,z2f]
 have h101:=z1b (show d.nm.size < 2 ^ 64 by omega)
 have h102:=z1b (show d.fam.size < 2 ^ 64 by omega)
 have h103:=z1b (show d.cs.length < 2 ^ 64 by omega)
 have hv1:(varB 1).length=1:=by rw [z6a (by omega)];rfl
 have hv0:(varB 0).length=1:=by rw [z6a (by omega)];rfl
 simp only [Dc.enc,List.length_append] at hz
 have hcts:∀ y:EL,y.length + (varB d.cs.length).length + (ctsB d.cs).length≤35184372086900→p71_2 fail fu K (d.cs.map ctRow) y=K (y++encB (varB d.cs.length++ctsB d.cs)):=fun y hy=>by
  have hg:uv ((d.cs.length:Nat):Int)=d.cs.length:=z2v _ (by omega)
  have:=cts_w fail fu K d.cs (by omega) (by omega) d.cs.length 0 fu (y++encB (varB d.cs.length)) (by omega) (by omega) (by simp only [List.length_append,z0e,List.drop_zero];omega)
  rw [p71_2,gd_y (by simp),List.length_map,z8j fail fu (by omega) _ _ _ (by omega),hg]
  rw [List.drop_zero] at this
  rw [z0y,← List.append_assoc]
  exact this
 have h3:List.take 3 [[CV.v (.int .i64 d.k)],[CV.v (.int .i64 d.pa)],[CV.v (.int .i64 d.ct)]]=encI [d.k,d.pa,d.ct]:=rfl
 rw [p71,gd_y (by simp),h3,num_w fail fu _ _ (by simp only [List.length_cons,List.length_nil];omega) z (by simp only [List.length_cons,List.length_nil];omega),gsz,
  w7e fail fu (by omega) _ _ _ (by omega) (by simp only [List.length_append,z0e];omega),gsz,w7e fail fu (by omega) _ _ _ (by omega) (by simp only [List.length_append,z0e];omega),
  w7f fail _ d.ty (Nat.le_refl _) fu _ _ (by omega) (by omega) (by simp only [List.length_append,z0e];omega)]
 by_cases h2:d.k=2
 ·rw [if_pos h2] at hz
  simp only [List.length_append] at hz
  rw [eqlT h2,cond_true,gd_y (by simp),z8j fail fu (by omega) _ _ _ (by simp only [List.length_append,z0e];omega),show uv 1=1 from rfl,
   w7f fail _ d.val (Nat.le_refl _) fu _ _ (by omega) (by omega) (by simp only [List.length_append,z0e];omega),hcts _ (by simp only [List.length_append,z0e];omega)]
  simp only [Dc.enc,if_pos h2,z0y,List.append_assoc]
 ·rw [if_neg h2] at hz
  rw [eqlF h2,cond_false,gd_y (by simp),z8j fail fu (by omega) _ _ _ (by simp only [List.length_append,z0e];omega),show uv 0=0 from rfl,hcts _ (by simp only [List.length_append,z0e];omega)]
  simp only [Dc.enc,if_neg h2,z0y,List.append_assoc]
def p20 {ρ:Type} (fail:ρ) (fu:Nat) (K0:Int→Int→EL→Int→Int→ρ) (x0:EL):ρ :=
 p67 fail fu (fun y1 y2 y3 y4 y5=>p66 fail fu (fun y6 y7 y8 y9=>bif (z0a .neq y7 0) then (K0 0 0 nilE 0 y7) else (K0 y1 y2 y3 y6 0)) y4 y5 x0) x0 0
theorem d_p20 (fu:Nat){K0:Int→Int→EL→Int→Int→Prop}(L:EL→Nat)(hN:L=List.length){x0:EL}(h:p20 False fu K0 x0):Den Try.prog G0 20 [.c (.sl 1 x0 none)] (fun r bs=>(∃ (y0 y1:Int) (y2:EL) (y3 y4:Int) (o0:OV),(r=.tup [.agg [.c (.v (.int .i64 y0)),.c (.v (.int .i64 y1)),.c (.sl 3 y2 none)],.c (.v (.int .i64 y3)),.c (.v (.int .i64 y4))]∧bs=[o0])∧K0 y0 y1 y2 y3 y4)):=by
 obtain⟨O,hO⟩:∃ O,O=std 0 T G0 (Den Try.prog G0):=⟨_,rfl⟩
 have hLO:L=O.len:=by rw [hN,hO];rfl
 subst hLO
 refine den_h hO tiA mixed tabOk (fn:=Try.f20) (sh:=true) (by kernel_rfl) rfl rfl rfl rfl ?_
 intro Q b
 unfold p20 at h
 conv=>cbv
 refine z0b hO [.ref 2] (d_p67 fu O.len hN h) ?_
 intro e Q a b
 conv=>cbv
 refine⟨by subst a hO;rfl,?_⟩
 intro r bs d
 rw [b] at d
 clear a b h
 obtain⟨y1,y2,y3,y4,y5,⟨rfl,rfl⟩,h⟩:=d
 conv=>cbv
 refine z0b hO [.ref 2,.shut] (d_p66 fu O.len hN h) ?_
 intro e Q a b
 conv=>cbv
 refine⟨by subst a hO;rfl,?_⟩
 intro r bs d
 rw [b] at d
 clear a b h
 obtain⟨y6,y7,y8,y9,_,⟨rfl,rfl⟩,h⟩:=d
 conv=>cbv
 refine br_h hO h (by subst hO;rfl) (fun k1 h=>?_) (fun k1 h=>?_)
 conv=>cbv
 rw [b]
 exact⟨0,0,nilE,0,y7,_,⟨(by subst hO;rfl),(by subst hO;rfl)⟩,h⟩
 conv=>cbv
 refine z0c hO ?_
 conv=>cbv
 rw [b]
 exact⟨y1,y2,y3,y6,0,_,⟨(by subst hO;rfl),(by subst hO;rfl)⟩,h⟩
section
variable {ρ:Type} (fail:ρ) (fu:Nat) (hfu:200≤fu) (bs:List UInt8) (hb:bs.length≤1099511627776)
include hfu hb
theorem w3k:(∃ l r,z1n bs=.ok (l,r)∧bs=l.enc++r∧∀ K,p20 fail fu K (encB bs)=K l.k l.n (Lv.rows l.args) ((l.enc.length:Nat):Int) 0) ∨
  (∃ e,z1n bs=.error e∧e≠0∧∀ K,p20 fail fu K (encB bs)=K 0 0 nilE 0 e):=by
 have h:=w8r (ρ:=ρ) fail fu (by omega) bs hb
 cases hr:z1n bs with
 | error e =>
  rw [hr] at h
  obtain⟨he,a,b,c,B,h⟩:=h
  dsimp only at h
  right
  exact⟨e,rfl,he,fun K=>by rw [p20,h,p66,neqT he,cond_true,cond_true]⟩
 | ok x =>
  obtain⟨l,r⟩:=x
  rw [hr] at h
  simp only [LvO2] at h
  have ho:=z8g hr
  left
  refine⟨l,r,rfl,ho,fun K=>?_⟩
  have hl:bs.length=l.enc.length + r.length:=by rw [ho,List.length_append]
  rw [p20,h,p66,neqF rfl,cond_false,cond_false,z0e,z0e,subZ (by omega) (by omega)]
  congr 1;omega
theorem z9f:(∃ t r,z1c bs=.ok (t,r)∧bs=t.enc++r∧t.sz≤2 * bs.length∧∀ K,p18 fail fu K (encB bs)=K t.k t.n t.nm (Lv.rows t.ls) (Tm.rows t.args) ((t.enc.length:Nat):Int) 0) ∨
  (∃ e,z1c bs=.error e∧e≠0∧∀ K,p18 fail fu K (encB bs)=K 0 0 ⟨#[]⟩ nilE nilE 0 e):=by
 have h:=w3c (ρ:=ρ) fail fu (by omega) bs hb
 cases hr:z1c bs with
 | error e =>
  rw [hr] at h
  obtain⟨he,a,b,c,l,g,B,h⟩:=h
  dsimp only at h
  right
  exact⟨e,rfl,he,fun K=>by rw [p18,h,p66,neqT he,cond_true,cond_true]⟩
 | ok x =>
  obtain⟨l,r⟩:=x
  rw [hr] at h
  simp only [TmO2] at h
  have ho:=z3g hr
  have hs:=z6x hr
  left
  refine⟨l,r,rfl,ho,by omega,fun K=>?_⟩
  have hl:bs.length=l.enc.length + r.length:=by rw [ho,List.length_append]
  rw [p18,h,p66,neqF rfl,cond_false,cond_false,z0e,z0e,subZ (by omega) (by omega)]
  congr 1;omega
theorem z9g:(∃ d r,z5b bs=.ok (d,r)∧bs=d.enc++r∧d.sz≤2 * bs.length∧∀ K,p35 fail fu K (encB bs)=K d.k d.pa d.ct d.nm d.fam d.ty.k d.ty.n d.ty.nm (Lv.rows d.ty.ls) (Tm.rows d.ty.args) d.val.k d.val.n d.val.nm (Lv.rows d.val.ls) (Tm.rows d.val.args) (d.cs.map ctRow) ((d.enc.length:Nat):Int) 0) ∨
  (∃ e,z5b bs=.error e∧e≠0∧∀ K,p35 fail fu K (encB bs)=K 0 0 0 ⟨#[]⟩ ⟨#[]⟩ 0 0 ⟨#[]⟩ nilE nilE 0 0 ⟨#[]⟩ nilE nilE nilE 0 e):=by
 have h:=Decl_rd (ρ:=ρ) fail fu hfu bs hb
 cases hr:z5b bs with
 | error e =>
  rw [hr] at h
  obtain⟨he,a,b,c,d,f,g,hh,i,j,k,l,m,n,o,q,r,s,h⟩:=h
  dsimp only at h
  right
  exact⟨e,rfl,he,fun K=>by rw [p35,h,p66,neqT he,cond_true,cond_true]⟩
 | ok x =>
  obtain⟨l,r⟩:=x
  rw [hr] at h
  simp only [DOut] at h
  obtain⟨ho,hs,_⟩:=w6e hr
  left
  refine⟨l,r,rfl,ho,by omega,fun K=>?_⟩
  have hl:bs.length=l.enc.length + r.length:=by rw [ho,List.length_append]
  rw [p35,h,p66,neqF rfl,cond_false,cond_false,z0e,z0e,subZ (by omega) (by omega)]
  congr 1;omega
end
section
variable {ρ:Type} (fail:ρ) (fu:Nat) (K:EL→ρ) (b:List UInt8)
theorem w3b (hb:b.length≤35184372088832):p63 fail fu K (encB b)=K (encB b):=by
 rw [p63,gd_y (by rfl),gd_y (by rw [z0e];simp;omega)];rfl
theorem w2x (l:Lv) (hf:l.sz + 20≤fu) (hs:l.sz < 1099511627776) (hb:b.length + l.enc.length≤35184372086000):p26 fail fu K (encB b) l.k l.n (Lv.rows l.args)=K (encB (b++l.enc)):=by
 rw [p26,w3b _ _ _ _ (by omega),k1p fail _ l (Nat.le_refl _) fu _ _ hf hs (by rw [z0e];omega),z0y]
theorem w5j (l:Tm) (hf:l.sz + 30≤fu) (hs:l.sz < 1099511627776) (hb:b.length + l.enc.length≤35184372086000):p17 fail fu K (encB b) l.k l.n l.nm (Lv.rows l.ls) (Tm.rows l.args)=K (encB (b++l.enc)):=by
 rw [p17,w3b _ _ _ _ (by omega),w7f fail _ l (Nat.le_refl _) fu _ _ hf hs (by rw [z0e];omega),z0y]
theorem w5k (d:Dc) (hf:d.sz + 60≤fu) (hs:d.sz < 1099511627776) (hb:b.length + d.enc.length≤35184372086000):p27 fail fu K (encB b) d.k d.pa d.ct d.nm d.fam d.ty.k d.ty.n d.ty.nm (Lv.rows d.ty.ls) (Tm.rows d.ty.args) d.val.k d.val.n d.val.nm (Lv.rows d.val.ls) (Tm.rows d.val.args) (d.cs.map ctRow)=K (encB (b++d.enc)):=by
 rw [p27,w3b _ _ _ _ (by omega),decl_w fail fu _ d hf hs _ (by rw [z0e];omega),z0y]
end
def p13_1 {ρ:Type} (fail:ρ) (fu:Nat) (K0:Bool→ρ) (j27:Bool):ρ :=
 K0 j27
def p13 {ρ:Type} (fail:ρ) (fu:Nat) (K0:Bool→ρ):ρ :=
 p50 fail fu (fun y1 y2 y3=>p49 fail fu (fun y4 y5 y6 y7 y8=>p51 fail fu (fun y9 y10 y11 y12 y13=>p48 fail fu (fun y14 y15 y16 y17 y18=>p17 fail fu (fun y19=>gd (1≤[[(CV.v (.int .u8 9))]].length) fail (gd ((y19.length + (List.take 1 [[(CV.v (.int .u8 9))]]).length) * 1≤35184372088832) fail (p18 fail fu (fun y20 y21 y22 y23 y24 y25 y26=>tobP fail y19 (fun s28=>bif (z1t .eql s28 ⟨#[5,1,0,0,0]⟩) then (bif (z0a .eql y26 0) then (bif (z0a .eql y25 5) then (p19 fail fu (fun y29=>bif y29 then (p26 fail fu (fun y30=>p13_1 fail fu K0 (z0a .eql ((y30.length:Nat):Int) 1)) nilE 0 0 nilE) else (p13_1 fail fu K0 false)) y14 y15 y16 y17 y18 y20 y21 y22 y23 y24) else (p13_1 fail fu K0 false)) else (p13_1 fail fu K0 false)) else (p13_1 fail fu K0 false))) (y19++(List.take 1 [[(CV.v (.int .u8 9))]]))))) nilE y14 y15 y16 y17 y18) y4 y5 y6 y7 y8 y9 y10 y11 y12 y13) 0) y1 y2 y3) 
def p23_1 {ρ:Type} (fail:ρ) (fu:Nat) (K0:Bool→ρ) (rec1:Int→ρ) (x0:EL) (z1:Int):ρ :=
 bif (z0a .lss z1 ((x0.length:Nat):Int)) then (gd ((0:Int)≤z1) fail (gd ((z1:Int) < (x0.length:Nat)) fail (z0o fail (List.getD x0 ((z1:Int).toNat) []) (fun c2 c3 c4=>p69 fail fu (fun y5=>bif (!y5) then (K0 false) else (rec1 (z0d .add .i64 z1 1))) c2 c3 c4 4)))) else (K0 true)
def p23_1L {ρ:Type} (fail:ρ) (fu:Nat) (K0:Bool→ρ) (x0:EL):Nat→Int→ρ
 | 0,_=>fail
 | n + 1,z1=>p23_1 fail fu K0 (p23_1L fail fu K0 x0 n) x0 z1
def p23 {ρ:Type} (fail:ρ) (fu:Nat) (K0:Bool→ρ) (x0:EL):ρ :=
 p23_1L fail fu K0 x0 fu 0
def p24_1 {ρ:Type} (fail:ρ) (fu:Nat) (K0:Bool→ρ) (rec1:Int→ρ) (z3:Int) (j4:Bool):ρ :=
 bif j4 then (K0 false) else (rec1 (z0d .add .i64 z3 1))
def p24_2 {ρ:Type} (fail:ρ) (fu:Nat) (K0:Bool→ρ) (rec1:Int→ρ) (x15:EL) (z3:Int):ρ :=
 bif (z0a .lss z3 ((x15.length:Nat):Int)) then (gd ((0:Int)≤z3) fail (gd ((z3:Int) < (x15.length:Nat)) fail (z0l fail (List.getD x15 ((z3:Int).toNat) []) (fun c5 c6 c7 c8 c9 c10=>bif (z0a .gtr ((c5.size:Nat):Int) 24) then (p24_1 fail fu K0 rec1 z3 true) else (gd ((0:Int)≤z3) fail (gd ((z3:Int) < (x15.length:Nat)) fail (z0l fail (List.getD x15 ((z3:Int).toNat) []) (fun c11 c12 c13 c14 c15 c16=>p16 fail fu (fun y17=>p24_1 fail fu K0 rec1 z3 (!y17)) c12 c13 c14 c15 c16)))))))) else (K0 true)
def p24_2L {ρ:Type} (fail:ρ) (fu:Nat) (K0:Bool→ρ) (x15:EL):Nat→Int→ρ
 | 0,_=>fail
 | n + 1,z3=>p24_2 fail fu K0 (p24_2L fail fu K0 x15 n) x15 z3
def p24_3 {ρ:Type} (fail:ρ) (fu:Nat) (K0:Bool→ρ) (x15:EL) (j2:Bool):ρ :=
 bif j2 then (K0 false) else (p24_2L fail fu K0 x15 fu 0)
def p24_4 {ρ:Type} (fail:ρ) (fu:Nat) (K0:Bool→ρ) (x0 x10 x11:Int) (x12:ByteArray) (x13 x14 x15:EL) (j1:Bool):ρ :=
 bif j1 then (K0 false) else (bif (z0a .eql x0 2) then (p16 fail fu (fun y18=>bif (!y18) then (p24_3 fail fu K0 x15 true) else (p24_3 fail fu K0 x15 false)) x10 x11 x12 x13 x14) else (p19 fail fu (fun y19=>p24_3 fail fu K0 x15 (!y19)) x10 x11 x12 x13 x14 0 0 ⟨#[]⟩ nilE nilE))
def p24 {ρ:Type} (fail:ρ) (fu:Nat) (K0:Bool→ρ) (x0 x1 x2:Int) (x3 x4:ByteArray) (x5 x6:Int) (x7:ByteArray) (x8 x9:EL) (x10 x11:Int) (x12:ByteArray) (x13 x14 x15:EL):ρ :=
 bif (z0a .lss x0 1) then (p24_4 fail fu K0 x0 x10 x11 x12 x13 x14 x15 true) else (bif (z0a .gtr x0 5) then (p24_4 fail fu K0 x0 x10 x11 x12 x13 x14 x15 true) else (bif (z0a .lss x1 0) then (p24_4 fail fu K0 x0 x10 x11 x12 x13 x14 x15 true) else (bif (z0a .gtr x1 1073741824) then (p24_4 fail fu K0 x0 x10 x11 x12 x13 x14 x15 true) else (bif (z0a .lss x2 0) then (p24_4 fail fu K0 x0 x10 x11 x12 x13 x14 x15 true) else (bif (z0a .gtr x2 1073741824) then (p24_4 fail fu K0 x0 x10 x11 x12 x13 x14 x15 true) else (bif (z0a .gtr ((x3.size:Nat):Int) 24) then (p24_4 fail fu K0 x0 x10 x11 x12 x13 x14 x15 true) else (bif (z0a .gtr ((x4.size:Nat):Int) 24) then (p24_4 fail fu K0 x0 x10 x11 x12 x13 x14 x15 true) else (p16 fail fu (fun y20=>bif (!y20) then (p24_4 fail fu K0 x0 x10 x11 x12 x13 x14 x15 true) else (p24_4 fail fu K0 x0 x10 x11 x12 x13 x14 x15 (z0a .gtr ((x15.length:Nat):Int) 5))) x5 x6 x7 x8 x9))))))))
theorem d_p50 (fu:Nat){K0:Int→Int→EL→Prop}(L:EL→Nat)(hN:L=List.length)(h:p50 False fu K0 ):Den Try.prog G0 50 [] (fun r bs=>(∃ (y0 y1:Int) (y2:EL),(r=.agg [.c (.v (.int .i64 y0)),.c (.v (.int .i64 y1)),.c (.sl 3 y2 none)]∧bs=[])∧K0 y0 y1 y2)):=by
 obtain⟨O,hO⟩:∃ O,O=std 0 T G0 (Den Try.prog G0):=⟨_,rfl⟩
 have hLO:L=O.len:=by rw [hN,hO];rfl
 subst hLO
 refine den_h hO tiA mixed tabOk (fn:=Try.f50) (sh:=true) (by kernel_rfl) rfl rfl rfl rfl ?_
 intro Q b
 unfold p50 at h
 conv=>cbv
 rw [b]
 exact⟨0,0,nilE,⟨(by subst hO;rfl),(by subst hO;rfl)⟩,h⟩
def D_p132b (fu:Nat):Prop:=∀ {K0:Int→Int→EL→Prop} (L:EL→Nat) (_:L=List.length) {x0 x1:Int} {x2 x3:EL} (_:p132b False fu K0 x0 x1 x2 x3),Den Try.prog G0 132 [.agg [.c (.v (.int .i64 x0)),.c (.v (.int .i64 x1)),.c (.sl 3 x2 none)],.c (.sl 3 x3 none)] (fun r bs=>(∃ (y0 y1:Int) (y2:EL) (o0 o1:OV),(r=.agg [.c (.v (.int .i64 y0)),.c (.v (.int .i64 y1)),.c (.sl 3 y2 none)]∧bs=[o0,o1])∧K0 y0 y1 y2))
def D_p101 (fu:Nat):Prop:=∀ {K0:Int→Int→EL→Prop} (L:EL→Nat) (_:L=List.length) {x0 x1:Int} {x2:EL} (_:p101 False fu K0 x0 x1 x2),Den Try.prog G0 101 [.agg [.c (.v (.int .i64 x0)),.c (.v (.int .i64 x1)),.c (.sl 3 x2 none)]] (fun r bs=>(∃ (y0 y1:Int) (y2:EL) (o0:OV),(r=.agg [.c (.v (.int .i64 y0)),.c (.v (.int .i64 y1)),.c (.sl 3 y2 none)]∧bs=[o0])∧K0 y0 y1 y2))
theorem b_p132b (fu:Nat)(ih_p132b:D_p132b fu)(ih_p101:D_p101 fu){K0:Int→Int→EL→Prop}(L:EL→Nat)(hN:L=List.length){x0 x1:Int}{x2 x3:EL}(h:p132b_b False fu (p132b False fu) (p101 False fu) K0 x0 x1 x2 x3):Den Try.prog G0 132 [.agg [.c (.v (.int .i64 x0)),.c (.v (.int .i64 x1)),.c (.sl 3 x2 none)],.c (.sl 3 x3 none)] (fun r bs=>(∃ (y0 y1:Int) (y2:EL) (o0 o1:OV),(r=.agg [.c (.v (.int .i64 y0)),.c (.v (.int .i64 y1)),.c (.sl 3 y2 none)]∧bs=[o0,o1])∧K0 y0 y1 y2)):=by
 obtain⟨O,hO⟩:∃ O,O=std 0 T G0 (Den Try.prog G0):=⟨_,rfl⟩
 have hLO:L=O.len:=by rw [hN,hO];rfl
 subst hLO
 refine den_h hO tiA mixed tabOk (fn:=Try.f132) (sh:=true) (by kernel_rfl) rfl rfl rfl rfl ?_
 intro Q b
 unfold p132b_b at h
 conv=>cbv
 refine z0q hO tiA [1,2,4,21] [3000,5000] [] (fun tm m=>∃ (j1:Bool),((tm=frame 0 53 [(1,.c (.sl 3 x3 none)),(2,.p 3000 0 0),(4,.p 5000 0 0),(21,.c (.v (.bool j1)))]∧m=⟨[(3000,.blk 0 [.c (.v (.int .i64 x0)),.c (.v (.int .i64 x1)),.c (.sl 3 x2 none)]),(5000,.blk 0 [.c (.v (.int .i64 0)),.c (.v (.int .i64 0)),.c (.sl 3 [] (some []))])],1⟩))∧p132b_2 False fu (p132b False fu) (p101 False fu) K0 x0 x1 x2 x3 j1) (fun L hL_2=>?_) ?_
 conv=>cbv
 refine br_h hO h (by subst hO;rfl) (fun k3 h=>?_) (fun k3 h=>?_)
 conv=>cbv
 refine br_t hO k3 ?_
 conv=>cbv
 refine br_t hO k3 ?_
 conv=>cbv
 refine br_t hO k3 ?_
 conv=>cbv
 refine br_h hO h (by subst hO;rfl) (fun k4 h=>?_) (fun k4 h=>?_)
 conv=>cbv
 refine br_t hO k4 ?_
 conv=>cbv
 refine br_t hO k4 ?_
 conv=>cbv
 refine br_t hO k4 ?_
 conv=>cbv
 refine br_t hO k4 ?_
 conv=>cbv
 refine br_t hO k4 ?_
 conv=>cbv
 exact hL_2 _ _ ⟨(z0a .lss x1 ((x3.length:Nat):Int)),⟨(by (conv=>lhs;cbv)<;>(subst hO;rfl)),(by (conv=>lhs;cbv)<;>(subst hO;rfl))⟩,h⟩
 conv=>cbv
 refine br_f hO k4 ?_
 conv=>cbv
 refine br_f hO k4 ?_
 conv=>cbv
 refine br_f hO k4 ?_
 conv=>cbv
 refine br_f hO k4 ?_
 conv=>cbv
 refine br_f hO k4 ?_
 conv=>cbv
 exact hL_2 _ _ ⟨false,⟨(by (conv=>lhs;cbv)<;>(subst hO;rfl)),(by (conv=>lhs;cbv)<;>(subst hO;rfl))⟩,h⟩
 conv=>cbv
 refine br_f hO k3 ?_
 conv=>cbv
 refine br_f hO k3 ?_
 conv=>cbv
 refine br_f hO k3 ?_
 conv=>cbv
 refine br_f hO rfl ?_
 conv=>cbv
 refine br_f hO rfl ?_
 conv=>cbv
 refine br_f hO rfl ?_
 conv=>cbv
 refine br_f hO rfl ?_
 conv=>cbv
 refine br_f hO rfl ?_
 conv=>cbv
 refine br_f hO rfl ?_
 conv=>cbv
 exact hL_2 _ _ ⟨false,⟨(by (conv=>lhs;cbv)<;>(subst hO;rfl)),(by (conv=>lhs;cbv)<;>(subst hO;rfl))⟩,h⟩
 rintro tm m ⟨j1,hs,h⟩
 unfold p132b_2 at h
 obtain⟨rfl,rfl⟩:=hs
 conv=>cbv
 refine br_h hO h (by subst hO;rfl) (fun k1 h=>?_) (fun k1 h=>?_)
 conv=>cbv
 refine and_h h (fun g=>(by subst hO;exact g)) (fun h=>?_)
 refine and_h h (fun g=>(by subst hO;exact g)) (fun h=>?_)
 obtain⟨c2,c3,c4,hr,h⟩:=z0k h
 refine z0p hO _ (by subst hO;exact hr) ?_
 clear hr
 conv=>cbv
 refine z0b hO [.shut] (ih_p101 O.len hN h) ?_
 intro e Q a b
 conv=>cbv
 refine⟨by subst a hO;rfl,?_⟩
 intro r bs d
 rw [b] at d
 clear a b h
 obtain⟨y5,y6,y7,_,⟨rfl,rfl⟩,h⟩:=d
 conv=>cbv
 rw [b]
 exact⟨y5,y6,y7,_,_,⟨(by subst hO;rfl),(by subst hO;rfl)⟩,h⟩
 conv=>cbv
 refine z0c hO ?_
 conv=>cbv
 refine z0v hO tiA [1,2,4,5,6] [3000,5000,6000,51000] [] (fun (n:Nat) tm m=>∃ (z8:EL) (z9:Int),((z8=[]∧tm=frame 0 53 [(1,.c (.sl 3 x3 none)),(2,.p 3000 0 0),(4,.p 5000 0 0),(5,.p 6000 0 0),(6,.c (.v (.int .i64 z9)))]∧m=⟨[(3000,.blk 0 [.c (.v (.int .i64 x0)),.c (.v (.int .i64 x1)),.c (.sl 3 x2 none)]),(5000,.blk 0 [.c (.v (.int .i64 0)),.c (.v (.int .i64 0)),.c (.sl 3 [] (some []))]),(6000,.blk 0 [.c (.v (.int .i64 x0)),.c (.v (.int .i64 x1)),.c (.sl 3 [] (some []))])],1⟩)∨(tm=frame 0 53 [(1,.c (.sl 3 x3 none)),(2,.p 3000 0 0),(4,.p 5000 0 0),(5,.p 6000 0 0),(6,.c (.v (.int .i64 z9)))]∧m=⟨[(3000,.blk 0 [.c (.v (.int .i64 x0)),.c (.v (.int .i64 x1)),.c (.sl 3 x2 none)]),(5000,.blk 0 [.c (.v (.int .i64 0)),.c (.v (.int .i64 0)),.c (.sl 3 [] (some []))]),(6000,.blk 0 [.c (.v (.int .i64 x0)),.c (.v (.int .i64 x1)),.t 51000 0 (O.len z8)]),(51000,.arr 0 3 z8 none false)],1⟩))∧p132b_1L False fu (p132b False fu) (p101 False fu) K0 x0 x1 x2 x3 n z8 z9) (fun n=>n) fu ⟨nilE,0,(.inl ⟨rfl,(by (conv=>lhs;cbv)<;>(subst hO;rfl)),(by (conv=>lhs;cbv)<;>(subst hO;rfl))⟩),h⟩ ?_
 rintro n1 tm m L ⟨z8,z9,hs,h⟩ hLn1
 (cases n1 with
 | zero=>rw [p132b_1L] at h;exact h.elim
 | succ n1 =>
 rw [p132b_1L] at h
 unfold p132b_1 at h
 rcases hs with hs | hs
 obtain⟨rfl,rfl,rfl⟩:=hs
 conv=>cbv
 refine br_h hO h (by subst hO;rfl) (fun k2 h=>?_) (fun k2 h=>?_)
 conv=>cbv
 refine z0c hO ?_
 conv=>cbv
 refine z0h hO tiA [[],[],[],[],[]] [(0,true,false),(1,true,false),(2,true,false),(3,true,false),(4,true,false),(5,true,false),(6,true,false),(7,true,false),(8,false,false),(9,false,false),(10,false,true),(11,true,true),(12,false,true)] (by kernel_rfl) ?_
 conv=>cbv
 refine and_h h (fun g=>(by subst hO;exact g)) (fun h=>?_)
 refine and_h h (fun g=>(by subst hO;exact g)) (fun h=>?_)
 obtain⟨c10,c11,c12,hr,h⟩:=z0k h
 refine z0p hO _ (by subst hO;exact hr) ?_
 clear hr
 conv=>cbv
 refine z0b hO [.shut,.shut] (ih_p132b O.len hN h) ?_
 intro e Q a b
 conv=>cbv
 refine⟨by subst a hO;rfl,?_⟩
 intro r bs d
 rw [b] at d
 clear a b h
 obtain⟨y13,y14,y15,_,_,⟨rfl,rfl⟩,h⟩:=d
 conv=>cbv
 refine agr hO rfl rfl ?_
 refine agr hO rfl rfl ?_
 refine z0s hO h (fun g=>(by subst hO;exact g)) (fun h=>?_)
 conv=>cbv
 refine and_h h (fun g=>(by subst hO;exact g)) (fun h=>?_)
 refine z2l hO (by subst hO;exact List.cons_ne_nil _ _) ?_
 conv=>cbv
 refine z0c hO ?_
 conv=>cbv
 exact hLn1 n1 _ _ (Nat.lt_succ_self n1) ⟨(nilE++(List.take 1 [[(CV.v (.int .i64 y13)),(CV.v (.int .i64 y14)),(CV.sl 3 y15 none)]])),z0d .add .i64 z9 1,(.inr ⟨(by (conv=>lhs;cbv)<;>(subst hO;rfl)),(by (conv=>lhs;cbv)<;>(subst hO;rfl))⟩),h⟩
 conv=>cbv
 rw [b]
 exact⟨x0,x1,nilE,_,_,⟨(by subst hO;rfl),(by subst hO;rfl)⟩,h⟩
 obtain⟨rfl,rfl⟩:=hs
 conv=>cbv
 refine br_h hO h (by subst hO;rfl) (fun k2 h=>?_) (fun k2 h=>?_)
 conv=>cbv
 refine z0c hO ?_
 conv=>cbv
 refine z0h hO tiA [[],[],[],[],[]] [(0,true,false),(1,true,false),(2,true,false),(3,true,false),(4,true,false),(5,true,false),(6,true,false),(7,true,false),(8,false,false),(9,false,false),(10,false,true),(11,true,true),(12,false,true)] (by kernel_rfl) ?_
 conv=>cbv
 refine and_h h (fun g=>(by subst hO;exact g)) (fun h=>?_)
 refine and_h h (fun g=>(by subst hO;exact g)) (fun h=>?_)
 obtain⟨c10,c11,c12,hr,h⟩:=z0k h
 refine z0p hO _ (by subst hO;exact hr) ?_
 clear hr
 conv=>cbv
 refine z0b hO [.shut,.shut] (ih_p132b O.len hN h) ?_
 intro e Q a b
 conv=>cbv
 refine⟨by subst a hO;rfl,?_⟩
 intro r bs d
 rw [b] at d
 clear a b h
 obtain⟨y13,y14,y15,_,_,⟨rfl,rfl⟩,h⟩:=d
 conv=>cbv
 refine agr hO rfl rfl ?_
 refine agr hO rfl rfl ?_
 refine z0s hO h (fun g=>(by subst hO;exact g)) (fun h=>?_)
 conv=>cbv
 refine⟨(by subst hO;rfl),?_⟩
 refine and_h h (fun g=>(by subst hO;exact g)) (fun h=>?_)
 refine z0c hO ?_
 conv=>cbv
 exact hLn1 n1 _ _ (Nat.lt_succ_self n1) ⟨(z8++(List.take 1 [[(CV.v (.int .i64 y13)),(CV.v (.int .i64 y14)),(CV.sl 3 y15 none)]])),z0d .add .i64 z9 1,(.inr ⟨(by (conv=>lhs;cbv)<;>(subst hO;rfl)),(by (conv=>lhs;cbv)<;>(subst hO;rfl))⟩),h⟩
 conv=>cbv
 refine z0j hO ?_
 conv=>cbv
 rw [b]
 exact⟨x0,x1,z8,_,_,⟨(by subst hO;rfl),(by subst hO;rfl)⟩,h⟩)
theorem b_p101 (fu:Nat)(ih_p132b:D_p132b fu)(ih_p101:D_p101 fu){K0:Int→Int→EL→Prop}(L:EL→Nat)(hN:L=List.length){x0 x1:Int}{x2:EL}(h:p101_b False fu (p132b False fu) (p101 False fu) K0 x0 x1 x2):Den Try.prog G0 101 [.agg [.c (.v (.int .i64 x0)),.c (.v (.int .i64 x1)),.c (.sl 3 x2 none)]] (fun r bs=>(∃ (y0 y1:Int) (y2:EL) (o0:OV),(r=.agg [.c (.v (.int .i64 y0)),.c (.v (.int .i64 y1)),.c (.sl 3 y2 none)]∧bs=[o0])∧K0 y0 y1 y2)):=by
 obtain⟨O,hO⟩:∃ O,O=std 0 T G0 (Den Try.prog G0):=⟨_,rfl⟩
 have hLO:L=O.len:=by rw [hN,hO];rfl
 subst hLO
 refine den_h hO tiA mixed tabOk (fn:=Try.f101) (sh:=true) (by kernel_rfl) rfl rfl rfl rfl ?_
 intro Q b
 unfold p101_b at h
 conv=>cbv
 refine z0b hO [.shut,.shut] (ih_p132b O.len hN h) ?_
 intro e Q a b
 conv=>cbv
 refine⟨by subst a hO;rfl,?_⟩
 intro r bs d
 rw [b] at d
 clear a b h
 obtain⟨y1,y2,y3,_,_,⟨rfl,rfl⟩,h⟩:=d
 conv=>cbv
 rw [b]
 exact⟨y1,y2,y3,_,⟨(by subst hO;rfl),(by subst hO;rfl)⟩,h⟩
theorem dd_p132b (fu:Nat):D_p132b fu∧D_p101 fu:=by
 induction fu with
 | zero=>exact⟨(by unfold D_p132b;intros;rename_i h;rw [p132b] at h;exact h.elim),(by unfold D_p101;intros;rename_i h;rw [p101] at h;exact h.elim)⟩
 | succ n ih =>
  obtain⟨i0,i1⟩:=ih
  exact⟨(by unfold D_p132b;intro K0 L hN x0 x1 x2 x3 h;exact b_p132b n i0 i1 L hN (by rw [p132b] at h;exact h)),(by unfold D_p101;intro K0 L hN x0 x1 x2 h;exact b_p101 n i0 i1 L hN (by rw [p101] at h;exact h))⟩
theorem d_p101 (fu:Nat):D_p101 fu:=(dd_p132b fu).2
theorem d_p49 (fu:Nat){K0:Int→Int→ByteArray→EL→EL→Prop}(L:EL→Nat)(hN:L=List.length){x0 x1:Int}{x2:EL}(h:p49 False fu K0 x0 x1 x2):Den Try.prog G0 49 [.agg [.c (.v (.int .i64 x0)),.c (.v (.int .i64 x1)),.c (.sl 3 x2 none)]] (fun r bs=>(∃ (y0 y1:Int) (y2:ByteArray) (y3 y4:EL) (o0:OV),(r=.agg [.c (.v (.int .i64 y0)),.c (.v (.int .i64 y1)),.c (.v (.string y2)),.c (.sl 3 y3 none),.c (.sl 5 y4 none)]∧bs=[o0])∧K0 y0 y1 y2 y3 y4)):=by
 obtain⟨O,hO⟩:∃ O,O=std 0 T G0 (Den Try.prog G0):=⟨_,rfl⟩
 have hLO:L=O.len:=by rw [hN,hO];rfl
 subst hLO
 refine den_h hO tiA mixed tabOk (fn:=Try.f49) (sh:=true) (by kernel_rfl) rfl rfl rfl rfl ?_
 intro Q b
 unfold p49 at h
 conv=>cbv
 refine z0b hO [.shut] (d_p101 fu O.len hN h) ?_
 intro e Q a b
 conv=>cbv
 refine⟨by subst a hO;rfl,?_⟩
 intro r bs d
 rw [b] at d
 clear a b h
 obtain⟨y1,y2,y3,_,⟨rfl,rfl⟩,h⟩:=d
 conv=>cbv
 refine z0s hO h (fun g=>(by subst hO;exact g)) (fun h=>?_)
 conv=>cbv
 rw [b]
 exact⟨1,0,⟨#[]⟩,List.take 1 [[(CV.v (.int .i64 y1)),(CV.v (.int .i64 y2)),(CV.sl 3 y3 none)]],nilE,_,⟨(by subst hO;rfl),(by subst hO;rfl)⟩,h⟩
theorem d_p51 (fu:Nat){K0:Int→Int→ByteArray→EL→EL→Prop}(L:EL→Nat)(hN:L=List.length){x0:Int}(h:p51 False fu K0 x0):Den Try.prog G0 51 [.c (.v (.int .i64 x0))] (fun r bs=>(∃ (y0 y1:Int) (y2:ByteArray) (y3 y4:EL) (o0:OV),(r=.agg [.c (.v (.int .i64 y0)),.c (.v (.int .i64 y1)),.c (.v (.string y2)),.c (.sl 3 y3 none),.c (.sl 5 y4 none)]∧bs=[o0])∧K0 y0 y1 y2 y3 y4)):=by
 obtain⟨O,hO⟩:∃ O,O=std 0 T G0 (Den Try.prog G0):=⟨_,rfl⟩
 have hLO:L=O.len:=by rw [hN,hO];rfl
 subst hLO
 refine den_h hO tiA mixed tabOk (fn:=Try.f51) (sh:=true) (by kernel_rfl) rfl rfl rfl rfl ?_
 intro Q b
 unfold p51 at h
 conv=>cbv
 rw [b]
 exact⟨0,x0,⟨#[]⟩,nilE,nilE,_,⟨(by subst hO;rfl),(by subst hO;rfl)⟩,h⟩
theorem d_p135 (fu:Nat){K0:Int→Int→ByteArray→EL→EL→Prop}(L:EL→Nat)(hN:L=List.length){x0 x1:Int}{x2:ByteArray}{x3 x4:EL}(h:p135 False fu K0 x0 x1 x2 x3 x4):Den Try.prog G0 135 [.agg [.c (.v (.int .i64 x0)),.c (.v (.int .i64 x1)),.c (.v (.string x2)),.c (.sl 3 x3 none),.c (.sl 5 x4 none)]] (fun r bs=>(∃ (y0 y1:Int) (y2:ByteArray) (y3 y4:EL) (o0:OV),(y3=[]∧y4=[]∧r=.agg [.c (.v (.int .i64 y0)),.c (.v (.int .i64 y1)),.c (.v (.string y2)),.c (.sl 3 [] (some [])),.c (.sl 5 [] (some []))]∧bs=[o0])∧K0 y0 y1 y2 y3 y4)∨(∃ (y0 y1:Int) (y2:ByteArray) (y3 y4:EL) (o0:OV),(y4=[]∧r=.agg [.c (.v (.int .i64 y0)),.c (.v (.int .i64 y1)),.c (.v (.string y2)),.arr 3 y3 none false (L y3),.c (.sl 5 [] (some []))]∧bs=[o0])∧K0 y0 y1 y2 y3 y4)):=by
 obtain⟨O,hO⟩:∃ O,O=std 0 T G0 (Den Try.prog G0):=⟨_,rfl⟩
 have hLO:L=O.len:=by rw [hN,hO];rfl
 subst hLO
 refine den_h hO tiA mixed tabOk (fn:=Try.f135) (sh:=false) (by kernel_rfl) rfl rfl rfl rfl ?_
 intro Q b
 unfold p135 at h
 conv=>cbv
 refine z0v hO tiA [1,2,3,4] [2000,3000,4000,29000] [] (fun (n:Nat) tm m=>∃ (z1:EL) (z2:Int),((z1=[]∧tm=frame 0 31 [(1,.p 2000 0 0),(2,.p 3000 0 0),(3,.p 4000 0 0),(4,.c (.v (.int .i64 z2)))]∧m=⟨[(2000,.blk 0 [.c (.v (.int .i64 x0)),.c (.v (.int .i64 x1)),.c (.v (.string x2)),.c (.sl 3 x3 none),.c (.sl 5 x4 none)]),(3000,.blk 0 [.c (.v (.int .i64 0)),.c (.v (.int .i64 0)),.c (.v (.string ⟨#[]⟩)),.c (.sl 3 [] (some [])),.c (.sl 5 [] (some []))]),(4000,.blk 0 [.c (.v (.int .i64 x0)),.c (.v (.int .i64 x1)),.c (.v (.string x2)),.c (.sl 3 [] (some [])),.c (.sl 5 [] (some []))])],1⟩)∨(tm=frame 0 31 [(1,.p 2000 0 0),(2,.p 3000 0 0),(3,.p 4000 0 0),(4,.c (.v (.int .i64 z2)))]∧m=⟨[(2000,.blk 0 [.c (.v (.int .i64 x0)),.c (.v (.int .i64 x1)),.c (.v (.string x2)),.c (.sl 3 x3 none),.c (.sl 5 x4 none)]),(3000,.blk 0 [.c (.v (.int .i64 0)),.c (.v (.int .i64 0)),.c (.v (.string ⟨#[]⟩)),.c (.sl 3 [] (some [])),.c (.sl 5 [] (some []))]),(4000,.blk 0 [.c (.v (.int .i64 x0)),.c (.v (.int .i64 x1)),.c (.v (.string x2)),.t 29000 0 (O.len z1),.c (.sl 5 [] (some []))]),(29000,.arr 0 3 z1 none false)],1⟩))∧p135_1L False fu K0 x0 x1 x2 x3 n z1 z2) (fun n=>n) fu ⟨nilE,0,(.inl ⟨rfl,(by (conv=>lhs;cbv)<;>(subst hO;rfl)),(by (conv=>lhs;cbv)<;>(subst hO;rfl))⟩),h⟩ ?_
 rintro n1 tm m L ⟨z1,z2,hs,h⟩ hLn1
 (cases n1 with
 | zero=>rw [p135_1L] at h;exact h.elim
 | succ n1 =>
 rw [p135_1L] at h
 unfold p135_1 at h
 rcases hs with hs | hs
 obtain⟨rfl,rfl,rfl⟩:=hs
 conv=>cbv
 refine br_h hO h (by subst hO;rfl) (fun k1 h=>?_) (fun k1 h=>?_)
 conv=>cbv
 refine z0c hO ?_
 conv=>cbv
 refine z0h hO tiA [[],[],[],[],[]] [(0,true,false),(1,true,false),(2,true,false),(3,true,false),(4,true,false),(5,true,false),(6,true,false),(7,false,false),(8,false,false),(9,false,true),(10,true,true),(11,false,true)] (by kernel_rfl) ?_
 conv=>cbv
 refine and_h h (fun g=>(by subst hO;exact g)) (fun h=>?_)
 refine and_h h (fun g=>(by subst hO;exact g)) (fun h=>?_)
 obtain⟨c3,c4,c5,hr,h⟩:=z0k h
 refine z0p hO _ (by subst hO;exact hr) ?_
 clear hr
 conv=>cbv
 refine z0b hO [.shut] (d_p101 fu O.len hN h) ?_
 intro e Q a b
 conv=>cbv
 refine⟨by subst a hO;rfl,?_⟩
 intro r bs d
 rw [b] at d
 clear a b h
 obtain⟨y6,y7,y8,_,⟨rfl,rfl⟩,h⟩:=d
 conv=>cbv
 refine agr hO rfl rfl ?_
 refine agr hO rfl rfl ?_
 refine z0s hO h (fun g=>(by subst hO;exact g)) (fun h=>?_)
 conv=>cbv
 refine and_h h (fun g=>(by subst hO;exact g)) (fun h=>?_)
 refine z2l hO (by subst hO;exact List.cons_ne_nil _ _) ?_
 conv=>cbv
 refine z0c hO ?_
 conv=>cbv
 exact hLn1 n1 _ _ (Nat.lt_succ_self n1) ⟨(nilE++(List.take 1 [[(CV.v (.int .i64 y6)),(CV.v (.int .i64 y7)),(CV.sl 3 y8 none)]])),z0d .add .i64 z2 1,(.inr ⟨(by (conv=>lhs;cbv)<;>(subst hO;rfl)),(by (conv=>lhs;cbv)<;>(subst hO;rfl))⟩),h⟩
 conv=>cbv
 rw [b]
 exact (.inl ⟨x0,x1,x2,nilE,nilE,_,⟨rfl,rfl,(by subst hO;rfl),(by subst hO;rfl)⟩,h⟩)
 obtain⟨rfl,rfl⟩:=hs
 conv=>cbv
 refine br_h hO h (by subst hO;rfl) (fun k1 h=>?_) (fun k1 h=>?_)
 conv=>cbv
 refine z0c hO ?_
 conv=>cbv
 refine z0h hO tiA [[],[],[],[],[]] [(0,true,false),(1,true,false),(2,true,false),(3,true,false),(4,true,false),(5,true,false),(6,true,false),(7,false,false),(8,false,false),(9,false,true),(10,true,true),(11,false,true)] (by kernel_rfl) ?_
 conv=>cbv
 refine and_h h (fun g=>(by subst hO;exact g)) (fun h=>?_)
 refine and_h h (fun g=>(by subst hO;exact g)) (fun h=>?_)
 obtain⟨c3,c4,c5,hr,h⟩:=z0k h
 refine z0p hO _ (by subst hO;exact hr) ?_
 clear hr
 conv=>cbv
 refine z0b hO [.shut] (d_p101 fu O.len hN h) ?_
 intro e Q a b
 conv=>cbv
 refine⟨by subst a hO;rfl,?_⟩
 intro r bs d
 rw [b] at d
 clear a b h
 obtain⟨y6,y7,y8,_,⟨rfl,rfl⟩,h⟩:=d
 conv=>cbv
 refine agr hO rfl rfl ?_
 refine agr hO rfl rfl ?_
 refine z0s hO h (fun g=>(by subst hO;exact g)) (fun h=>?_)
 conv=>cbv
 refine⟨(by subst hO;rfl),?_⟩
 refine and_h h (fun g=>(by subst hO;exact g)) (fun h=>?_)
 refine z0c hO ?_
 conv=>cbv
 exact hLn1 n1 _ _ (Nat.lt_succ_self n1) ⟨(z1++(List.take 1 [[(CV.v (.int .i64 y6)),(CV.v (.int .i64 y7)),(CV.sl 3 y8 none)]])),z0d .add .i64 z2 1,(.inr ⟨(by (conv=>lhs;cbv)<;>(subst hO;rfl)),(by (conv=>lhs;cbv)<;>(subst hO;rfl))⟩),h⟩
 conv=>cbv
 refine⟨(by subst hO;exact Nat.le_refl _),?_⟩
 rw [b]
 exact (.inr ⟨x0,x1,x2,z1,nilE,_,⟨rfl,(by subst hO;rfl),(by subst hO;rfl)⟩,h⟩))
theorem d_p142 (fu:Nat){K0:Int→Prop}(L:EL→Nat)(hN:L=List.length){x0 x1:Int}(h:p142 False fu K0 x0 x1):Den Try.prog G0 142 [.c (.v (.int .i64 x0)),.c (.v (.int .i64 x1))] (fun r bs=>(∃ (y0:Int) (o0 o1:OV),(r=.c (.v (.int .i64 y0))∧bs=[o0,o1])∧K0 y0)):=by
 obtain⟨O,hO⟩:∃ O,O=std 0 T G0 (Den Try.prog G0):=⟨_,rfl⟩
 have hLO:L=O.len:=by rw [hN,hO];rfl
 subst hLO
 refine den_h hO tiA mixed tabOk (fn:=Try.f142) (sh:=true) (by kernel_rfl) rfl rfl rfl rfl ?_
 intro Q b
 unfold p142 at h
 conv=>cbv
 refine z0q hO tiA [22] [] [] (fun tm m=>∃ (j1:Bool),((tm=frame 0 23 [(22,.c (.v (.bool j1)))]∧m=⟨[],1⟩))∧p142_1 False fu K0 j1) (fun L hL_1=>?_) ?_
 conv=>cbv
 refine br_h hO h (by subst hO;rfl) (fun k2 h=>?_) (fun k2 h=>?_)
 conv=>cbv
 refine br_t hO k2 ?_
 conv=>cbv
 refine br_t hO k2 ?_
 conv=>cbv
 refine br_t hO rfl ?_
 conv=>cbv
 refine br_t hO rfl ?_
 conv=>cbv
 refine br_t hO rfl ?_
 conv=>cbv
 refine br_h hO h (by subst hO;rfl) (fun k3 h=>?_) (fun k3 h=>?_)
 conv=>cbv
 refine br_t hO k3 ?_
 conv=>cbv
 refine br_t hO k3 ?_
 conv=>cbv
 refine br_t hO k3 ?_
 conv=>cbv
 refine br_t hO k3 ?_
 conv=>cbv
 exact hL_1 _ _ ⟨true,⟨(by (conv=>lhs;cbv)<;>(subst hO;rfl)),(by (conv=>lhs;cbv)<;>(subst hO;rfl))⟩,h⟩
 conv=>cbv
 refine br_f hO k3 ?_
 conv=>cbv
 refine br_f hO k3 ?_
 conv=>cbv
 refine br_h hO h (by subst hO;rfl) (fun k4 h=>?_) (fun k4 h=>?_)
 conv=>cbv
 refine br_t hO k4 ?_
 conv=>cbv
 refine br_f hO k3 ?_
 conv=>cbv
 refine br_t hO k4 ?_
 conv=>cbv
 refine br_f hO k3 ?_
 conv=>cbv
 exact hL_1 _ _ ⟨(z0a .eql x1 2),⟨(by (conv=>lhs;cbv)<;>(subst hO;rfl)),(by (conv=>lhs;cbv)<;>(subst hO;rfl))⟩,h⟩
 conv=>cbv
 refine br_f hO k4 ?_
 conv=>cbv
 refine br_f hO k3 ?_
 conv=>cbv
 refine br_f hO k4 ?_
 conv=>cbv
 refine br_f hO k3 ?_
 conv=>cbv
 exact hL_1 _ _ ⟨false,⟨(by (conv=>lhs;cbv)<;>(subst hO;rfl)),(by (conv=>lhs;cbv)<;>(subst hO;rfl))⟩,h⟩
 conv=>cbv
 refine br_f hO k2 ?_
 conv=>cbv
 refine br_f hO k2 ?_
 conv=>cbv
 refine br_h hO h (by subst hO;rfl) (fun k5 h=>?_) (fun k5 h=>?_)
 conv=>cbv
 refine br_t hO k5 ?_
 conv=>cbv
 refine br_t hO k5 ?_
 conv=>cbv
 refine br_h hO h (by subst hO;rfl) (fun k6 h=>?_) (fun k6 h=>?_)
 conv=>cbv
 refine br_t hO k6 ?_
 conv=>cbv
 refine br_t hO k6 ?_
 conv=>cbv
 refine br_t hO k6 ?_
 conv=>cbv
 refine br_t hO k6 ?_
 conv=>cbv
 exact hL_1 _ _ ⟨true,⟨(by (conv=>lhs;cbv)<;>(subst hO;rfl)),(by (conv=>lhs;cbv)<;>(subst hO;rfl))⟩,h⟩
 conv=>cbv
 refine br_f hO k6 ?_
 conv=>cbv
 refine br_f hO k6 ?_
 conv=>cbv
 refine br_h hO h (by subst hO;rfl) (fun k7 h=>?_) (fun k7 h=>?_)
 conv=>cbv
 refine br_t hO k7 ?_
 conv=>cbv
 refine br_f hO k6 ?_
 conv=>cbv
 refine br_t hO k7 ?_
 conv=>cbv
 refine br_f hO k6 ?_
 conv=>cbv
 exact hL_1 _ _ ⟨(z0a .eql x1 2),⟨(by (conv=>lhs;cbv)<;>(subst hO;rfl)),(by (conv=>lhs;cbv)<;>(subst hO;rfl))⟩,h⟩
 conv=>cbv
 refine br_f hO k7 ?_
 conv=>cbv
 refine br_f hO k6 ?_
 conv=>cbv
 refine br_f hO k7 ?_
 conv=>cbv
 refine br_f hO k6 ?_
 conv=>cbv
 exact hL_1 _ _ ⟨false,⟨(by (conv=>lhs;cbv)<;>(subst hO;rfl)),(by (conv=>lhs;cbv)<;>(subst hO;rfl))⟩,h⟩
 conv=>cbv
 refine br_f hO k5 ?_
 conv=>cbv
 refine br_f hO k5 ?_
 conv=>cbv
 refine br_f hO rfl ?_
 conv=>cbv
 refine br_f hO rfl ?_
 conv=>cbv
 refine br_f hO rfl ?_
 conv=>cbv
 refine br_h hO h (by subst hO;rfl) (fun k8 h=>?_) (fun k8 h=>?_)
 conv=>cbv
 refine br_t hO k8 ?_
 conv=>cbv
 refine br_f hO rfl ?_
 conv=>cbv
 refine br_t hO k8 ?_
 conv=>cbv
 refine br_f hO rfl ?_
 conv=>cbv
 exact hL_1 _ _ ⟨(z0a .eql x1 2),⟨(by (conv=>lhs;cbv)<;>(subst hO;rfl)),(by (conv=>lhs;cbv)<;>(subst hO;rfl))⟩,h⟩
 conv=>cbv
 refine br_f hO k8 ?_
 conv=>cbv
 refine br_f hO rfl ?_
 conv=>cbv
 refine br_f hO k8 ?_
 conv=>cbv
 refine br_f hO rfl ?_
 conv=>cbv
 exact hL_1 _ _ ⟨false,⟨(by (conv=>lhs;cbv)<;>(subst hO;rfl)),(by (conv=>lhs;cbv)<;>(subst hO;rfl))⟩,h⟩
 rintro tm m ⟨j1,hs,h⟩
 unfold p142_1 at h
 obtain⟨rfl,rfl⟩:=hs
 conv=>cbv
 refine br_h hO h (by subst hO;rfl) (fun k1 h=>?_) (fun k1 h=>?_)
 conv=>cbv
 rw [b]
 exact⟨1,_,_,⟨(by subst hO;rfl),(by subst hO;rfl)⟩,h⟩
 conv=>cbv
 refine z0c hO ?_
 conv=>cbv
 rw [b]
 exact⟨0,_,_,⟨(by subst hO;rfl),(by subst hO;rfl)⟩,h⟩
def D_p131 (fu:Nat):Prop:=∀ {K0:Int→Int→ByteArray→EL→EL→Prop} (L:EL→Nat) (_:L=List.length) {x0 x1:Int} {x2:ByteArray} {x3 x4:EL} {x5 x6:Int} (_:p131 False fu K0 x0 x1 x2 x3 x4 x5 x6),Den Try.prog G0 131 [.agg [.c (.v (.int .i64 x0)),.c (.v (.int .i64 x1)),.c (.v (.string x2)),.c (.sl 3 x3 none),.c (.sl 5 x4 none)],.c (.v (.int .i64 x5)),.c (.v (.int .i64 x6))] (fun r bs=>(∃ (y0 y1:Int) (y2:ByteArray) (y3 y4:EL) (o0 o1 o2:OV),(r=.agg [.c (.v (.int .i64 y0)),.c (.v (.int .i64 y1)),.c (.v (.string y2)),.c (.sl 3 y3 none),.c (.sl 5 y4 none)]∧bs=[o0,o1,o2])∧K0 y0 y1 y2 y3 y4))
theorem b_p131 (fu:Nat)(ih_p131:D_p131 fu){K0:Int→Int→ByteArray→EL→EL→Prop}(L:EL→Nat)(hN:L=List.length){x0 x1:Int}{x2:ByteArray}{x3 x4:EL}{x5 x6:Int}(h:p131_b False fu (p131 False fu) K0 x0 x1 x2 x3 x4 x5 x6):Den Try.prog G0 131 [.agg [.c (.v (.int .i64 x0)),.c (.v (.int .i64 x1)),.c (.v (.string x2)),.c (.sl 3 x3 none),.c (.sl 5 x4 none)],.c (.v (.int .i64 x5)),.c (.v (.int .i64 x6))] (fun r bs=>(∃ (y0 y1:Int) (y2:ByteArray) (y3 y4:EL) (o0 o1 o2:OV),(r=.agg [.c (.v (.int .i64 y0)),.c (.v (.int .i64 y1)),.c (.v (.string y2)),.c (.sl 3 y3 none),.c (.sl 5 y4 none)]∧bs=[o0,o1,o2])∧K0 y0 y1 y2 y3 y4)):=by
 obtain⟨O,hO⟩:∃ O,O=std 0 T G0 (Den Try.prog G0):=⟨_,rfl⟩
 have hLO:L=O.len:=by rw [hN,hO];rfl
 subst hLO
 refine den_h hO tiA mixed tabOk (fn:=Try.f131) (sh:=true) (by kernel_rfl) rfl rfl rfl rfl ?_
 intro Q b
 unfold p131_b at h
 conv=>cbv
 refine z0b hO [.shut] (d_p135 fu O.len hN h) ?_
 intro e Q a b
 conv=>cbv
 refine⟨by subst a hO;rfl,?_⟩
 intro r bs d
 rw [b] at d
 clear a b h
 rcases d with d | d
 obtain⟨y1,y2,y3,y4,y5,_,⟨rfl,rfl,rfl,rfl⟩,h⟩:=d
 conv=>cbv
 refine z0q hO tiA [1,2,3,6,7,19] [4000,7000,8000] [] (fun tm m=>∃ (j6:Bool),((tm=frame 0 51 [(1,.c (.v (.int .i64 x5))),(2,.c (.v (.int .i64 x6))),(3,.p 4000 0 0),(6,.p 7000 0 0),(7,.p 8000 0 0),(19,.c (.v (.bool j6)))]∧m=⟨[(4000,.blk 0 [.c (.v (.int .i64 x0)),.c (.v (.int .i64 x1)),.c (.v (.string x2)),.c (.sl 3 x3 none),.c (.sl 5 x4 none)]),(7000,.blk 0 [.c (.v (.int .i64 0)),.c (.v (.int .i64 0)),.c (.v (.string ⟨#[]⟩)),.c (.sl 3 [] (some [])),.c (.sl 5 [] (some []))]),(8000,.blk 0 [.c (.v (.int .i64 y1)),.c (.v (.int .i64 y2)),.c (.v (.string y3)),.c (.sl 3 [] (some [])),.c (.sl 5 [] (some []))])],1⟩))∧p131_3 False fu (p131 False fu) K0 x0 x1 x4 x5 x6 y1 y2 y3 nilE nilE j6) (fun L hL_3=>?_) ?_
 conv=>cbv
 refine br_h hO h (by subst hO;rfl) (fun k3 h=>?_) (fun k3 h=>?_)
 conv=>cbv
 refine br_t hO k3 ?_
 conv=>cbv
 refine br_t hO k3 ?_
 conv=>cbv
 refine br_t hO k3 ?_
 conv=>cbv
 refine br_t hO k3 ?_
 conv=>cbv
 exact hL_3 _ _ ⟨(z0a .geq x1 x6),⟨(by (conv=>lhs;cbv)<;>(subst hO;rfl)),(by (conv=>lhs;cbv)<;>(subst hO;rfl))⟩,h⟩
 conv=>cbv
 refine br_f hO k3 ?_
 conv=>cbv
 refine br_f hO k3 ?_
 conv=>cbv
 refine br_f hO k3 ?_
 conv=>cbv
 refine br_f hO k3 ?_
 conv=>cbv
 exact hL_3 _ _ ⟨false,⟨(by (conv=>lhs;cbv)<;>(subst hO;rfl)),(by (conv=>lhs;cbv)<;>(subst hO;rfl))⟩,h⟩
 rintro tm m ⟨j6,hs,h⟩
 unfold p131_3 at h
 obtain⟨rfl,rfl⟩:=hs
 conv=>cbv
 refine z0f hO tiA h (by subst hO;rfl) [1,2,3,6,7] [4000,7000,8000] [] (fun tm m=>∃ (j7:Int),((tm=frame 0 51 [(1,.c (.v (.int .i64 x5))),(2,.c (.v (.int .i64 x6))),(3,.p 4000 0 0),(6,.p 7000 0 0),(7,.p 8000 0 0)]∧m=⟨[(4000,.blk 0 [.c (.v (.int .i64 x0)),.c (.v (.int .i64 x1)),.c (.v (.string x2)),.c (.sl 3 x3 none),.c (.sl 5 x4 none)]),(7000,.blk 0 [.c (.v (.int .i64 0)),.c (.v (.int .i64 0)),.c (.v (.string ⟨#[]⟩)),.c (.sl 3 [] (some [])),.c (.sl 5 [] (some []))]),(8000,.blk 0 [.c (.v (.int .i64 y1)),.c (.v (.int .i64 j7)),.c (.v (.string y3)),.c (.sl 3 [] (some [])),.c (.sl 5 [] (some []))])],1⟩))∧p131_2 False fu (p131 False fu) K0 x0 x4 x5 x6 y1 y3 nilE nilE j7) (fun k2 h L hL_2=>?_) (fun k2 h L hL_2=>?_) ?_
 conv=>cbv
 exact hL_2 _ _ ⟨z0d .add .i64 x1 x5,⟨(by (conv=>lhs;cbv)<;>(subst hO;rfl)),(by (conv=>lhs;cbv)<;>(subst hO;rfl))⟩,h⟩
 conv=>cbv
 exact hL_2 _ _ ⟨y2,⟨(by (conv=>lhs;cbv)<;>(subst hO;rfl)),(by (conv=>lhs;cbv)<;>(subst hO;rfl))⟩,h⟩
 rintro tm m ⟨j7,hs,h⟩
 unfold p131_2 at h
 obtain⟨rfl,rfl⟩:=hs
 conv=>cbv
 refine z0v hO tiA [1,2,3,6,7,8] [4000,7000,8000,49000] [] (fun (n:Nat) tm m=>∃ (z8:EL) (z9:Int),((z8=[]∧tm=frame 0 51 [(1,.c (.v (.int .i64 x5))),(2,.c (.v (.int .i64 x6))),(3,.p 4000 0 0),(6,.p 7000 0 0),(7,.p 8000 0 0),(8,.c (.v (.int .i64 z9)))]∧m=⟨[(4000,.blk 0 [.c (.v (.int .i64 x0)),.c (.v (.int .i64 x1)),.c (.v (.string x2)),.c (.sl 3 x3 none),.c (.sl 5 x4 none)]),(7000,.blk 0 [.c (.v (.int .i64 0)),.c (.v (.int .i64 0)),.c (.v (.string ⟨#[]⟩)),.c (.sl 3 [] (some [])),.c (.sl 5 [] (some []))]),(8000,.blk 0 [.c (.v (.int .i64 y1)),.c (.v (.int .i64 j7)),.c (.v (.string y3)),.c (.sl 3 [] (some [])),.c (.sl 5 [] (some []))])],1⟩)∨(tm=frame 0 51 [(1,.c (.v (.int .i64 x5))),(2,.c (.v (.int .i64 x6))),(3,.p 4000 0 0),(6,.p 7000 0 0),(7,.p 8000 0 0),(8,.c (.v (.int .i64 z9)))]∧m=⟨[(4000,.blk 0 [.c (.v (.int .i64 x0)),.c (.v (.int .i64 x1)),.c (.v (.string x2)),.c (.sl 3 x3 none),.c (.sl 5 x4 none)]),(7000,.blk 0 [.c (.v (.int .i64 0)),.c (.v (.int .i64 0)),.c (.v (.string ⟨#[]⟩)),.c (.sl 3 [] (some [])),.c (.sl 5 [] (some []))]),(8000,.blk 0 [.c (.v (.int .i64 y1)),.c (.v (.int .i64 j7)),.c (.v (.string y3)),.c (.sl 3 [] (some [])),.t 49000 0 (O.len z8)]),(49000,.arr 0 5 z8 none false)],1⟩))∧p131_1L False fu (p131 False fu) K0 x0 x4 x5 x6 y1 y3 nilE j7 n z8 z9) (fun n=>n) fu ⟨nilE,0,(.inl ⟨rfl,(by (conv=>lhs;cbv)<;>(subst hO;rfl)),(by (conv=>lhs;cbv)<;>(subst hO;rfl))⟩),h⟩ ?_
 rintro n1 tm m L ⟨z8,z9,hs,h⟩ hLn1
 (cases n1 with
 | zero=>rw [p131_1L] at h;exact h.elim
 | succ n1 =>
 rw [p131_1L] at h
 unfold p131_1 at h
 rcases hs with hs | hs
 obtain⟨rfl,rfl,rfl⟩:=hs
 conv=>cbv
 refine br_h hO h (by subst hO;rfl) (fun k1 h=>?_) (fun k1 h=>?_)
 conv=>cbv
 refine z0c hO ?_
 conv=>cbv
 refine z0h hO tiA [[],[],[],[],[],[]] [(0,true,false),(1,true,false),(2,true,false),(3,true,false),(4,true,false),(5,true,false),(6,true,false),(7,true,false),(8,true,false),(9,true,false),(10,true,false),(11,true,false),(12,false,false),(13,true,false),(14,false,false),(15,false,false),(16,false,true),(17,true,true),(18,false,true)] (by kernel_rfl) ?_
 conv=>cbv
 refine and_h h (fun g=>(by subst hO;exact g)) (fun h=>?_)
 refine and_h h (fun g=>(by subst hO;exact g)) (fun h=>?_)
 obtain⟨c10,c11,c12,c13,c14,hr,h⟩:=z0g h
 refine z0p hO _ (by subst hO;exact hr) ?_
 clear hr
 conv=>cbv
 refine z0b hO [.shut,.shut] (d_p142 fu O.len hN h) ?_
 intro e Q a b
 conv=>cbv
 refine⟨by subst a hO;rfl,?_⟩
 intro r bs d
 rw [b] at d
 clear a b h
 obtain⟨y15,_,_,⟨rfl,rfl⟩,h⟩:=d
 conv=>cbv
 refine agr hO rfl rfl ?_
 refine z0b hO [.shut,.shut,.shut] (ih_p131 O.len hN h) ?_
 intro e Q a b
 conv=>cbv
 refine⟨by subst a hO;rfl,?_⟩
 intro r bs d
 rw [b] at d
 clear a b h
 obtain⟨y16,y17,y18,y19,y20,_,_,_,⟨rfl,rfl⟩,h⟩:=d
 conv=>cbv
 refine agr hO rfl rfl ?_
 refine agr hO rfl rfl ?_
 refine z0s hO h (fun g=>(by subst hO;exact g)) (fun h=>?_)
 conv=>cbv
 refine and_h h (fun g=>(by subst hO;exact g)) (fun h=>?_)
 refine z2l hO (by subst hO;exact List.cons_ne_nil _ _) ?_
 conv=>cbv
 refine z0c hO ?_
 conv=>cbv
 exact hLn1 n1 _ _ (Nat.lt_succ_self n1) ⟨(nilE++(List.take 1 [[(CV.v (.int .i64 y16)),(CV.v (.int .i64 y17)),(CV.v (.string y18)),(CV.sl 3 y19 none),(CV.sl 5 y20 none)]])),z0d .add .i64 z9 1,(.inr ⟨(by (conv=>lhs;cbv)<;>(subst hO;rfl)),(by (conv=>lhs;cbv)<;>(subst hO;rfl))⟩),h⟩
 conv=>cbv
 rw [b]
 exact⟨y1,j7,y3,nilE,nilE,_,_,_,⟨(by subst hO;rfl),(by subst hO;rfl)⟩,h⟩
 obtain⟨rfl,rfl⟩:=hs
 conv=>cbv
 refine br_h hO h (by subst hO;rfl) (fun k1 h=>?_) (fun k1 h=>?_)
 conv=>cbv
 refine z0c hO ?_
 conv=>cbv
 refine z0h hO tiA [[],[],[],[],[],[]] [(0,true,false),(1,true,false),(2,true,false),(3,true,false),(4,true,false),(5,true,false),(6,true,false),(7,true,false),(8,true,false),(9,true,false),(10,true,false),(11,true,false),(12,false,false),(13,true,false),(14,false,false),(15,false,false),(16,false,true),(17,true,true),(18,false,true)] (by kernel_rfl) ?_
 conv=>cbv
 refine and_h h (fun g=>(by subst hO;exact g)) (fun h=>?_)
 refine and_h h (fun g=>(by subst hO;exact g)) (fun h=>?_)
 obtain⟨c10,c11,c12,c13,c14,hr,h⟩:=z0g h
 refine z0p hO _ (by subst hO;exact hr) ?_
 clear hr
 conv=>cbv
 refine z0b hO [.shut,.shut] (d_p142 fu O.len hN h) ?_
 intro e Q a b
 conv=>cbv
 refine⟨by subst a hO;rfl,?_⟩
 intro r bs d
 rw [b] at d
 clear a b h
 obtain⟨y15,_,_,⟨rfl,rfl⟩,h⟩:=d
 conv=>cbv
 refine agr hO rfl rfl ?_
 refine z0b hO [.shut,.shut,.shut] (ih_p131 O.len hN h) ?_
 intro e Q a b
 conv=>cbv
 refine⟨by subst a hO;rfl,?_⟩
 intro r bs d
 rw [b] at d
 clear a b h
 obtain⟨y16,y17,y18,y19,y20,_,_,_,⟨rfl,rfl⟩,h⟩:=d
 conv=>cbv
 refine agr hO rfl rfl ?_
 refine agr hO rfl rfl ?_
 refine z0s hO h (fun g=>(by subst hO;exact g)) (fun h=>?_)
 conv=>cbv
 refine⟨(by subst hO;rfl),?_⟩
 refine and_h h (fun g=>(by subst hO;exact g)) (fun h=>?_)
 refine z0c hO ?_
 conv=>cbv
 exact hLn1 n1 _ _ (Nat.lt_succ_self n1) ⟨(z8++(List.take 1 [[(CV.v (.int .i64 y16)),(CV.v (.int .i64 y17)),(CV.v (.string y18)),(CV.sl 3 y19 none),(CV.sl 5 y20 none)]])),z0d .add .i64 z9 1,(.inr ⟨(by (conv=>lhs;cbv)<;>(subst hO;rfl)),(by (conv=>lhs;cbv)<;>(subst hO;rfl))⟩),h⟩
 conv=>cbv
 refine z0j hO ?_
 conv=>cbv
 rw [b]
 exact⟨y1,j7,y3,nilE,z8,_,_,_,⟨(by subst hO;rfl),(by subst hO;rfl)⟩,h⟩)
 obtain⟨y1,y2,y3,y4,y5,_,⟨rfl,rfl,rfl⟩,h⟩:=d
 conv=>cbv
 refine z0q hO tiA [1,2,3,6,7,19] [4000,7000,8000,11000] [] (fun tm m=>∃ (j6:Bool),((tm=frame 0 51 [(1,.c (.v (.int .i64 x5))),(2,.c (.v (.int .i64 x6))),(3,.p 4000 0 0),(6,.p 7000 0 0),(7,.p 8000 0 0),(19,.c (.v (.bool j6)))]∧m=⟨[(4000,.blk 0 [.c (.v (.int .i64 x0)),.c (.v (.int .i64 x1)),.c (.v (.string x2)),.c (.sl 3 x3 none),.c (.sl 5 x4 none)]),(7000,.blk 0 [.c (.v (.int .i64 0)),.c (.v (.int .i64 0)),.c (.v (.string ⟨#[]⟩)),.c (.sl 3 [] (some [])),.c (.sl 5 [] (some []))]),(8000,.blk 0 [.c (.v (.int .i64 y1)),.c (.v (.int .i64 y2)),.c (.v (.string y3)),.t 11000 0 (O.len y4),.c (.sl 5 [] (some []))]),(11000,.arr 0 3 y4 none false)],1⟩))∧p131_3 False fu (p131 False fu) K0 x0 x1 x4 x5 x6 y1 y2 y3 y4 nilE j6) (fun L hL_3=>?_) ?_
 conv=>cbv
 refine br_h hO h (by subst hO;rfl) (fun k3 h=>?_) (fun k3 h=>?_)
 conv=>cbv
 refine br_t hO k3 ?_
 conv=>cbv
 refine br_t hO k3 ?_
 conv=>cbv
 refine br_t hO k3 ?_
 conv=>cbv
 refine br_t hO k3 ?_
 conv=>cbv
 exact hL_3 _ _ ⟨(z0a .geq x1 x6),⟨(by (conv=>lhs;cbv)<;>(subst hO;rfl)),(by (conv=>lhs;cbv)<;>(subst hO;rfl))⟩,h⟩
 conv=>cbv
 refine br_f hO k3 ?_
 conv=>cbv
 refine br_f hO k3 ?_
 conv=>cbv
 refine br_f hO k3 ?_
 conv=>cbv
 refine br_f hO k3 ?_
 conv=>cbv
 exact hL_3 _ _ ⟨false,⟨(by (conv=>lhs;cbv)<;>(subst hO;rfl)),(by (conv=>lhs;cbv)<;>(subst hO;rfl))⟩,h⟩
 rintro tm m ⟨j6,hs,h⟩
 unfold p131_3 at h
 obtain⟨rfl,rfl⟩:=hs
 conv=>cbv
 refine z0f hO tiA h (by subst hO;rfl) [1,2,3,6,7] [4000,7000,8000,11000] [] (fun tm m=>∃ (j7:Int),((tm=frame 0 51 [(1,.c (.v (.int .i64 x5))),(2,.c (.v (.int .i64 x6))),(3,.p 4000 0 0),(6,.p 7000 0 0),(7,.p 8000 0 0)]∧m=⟨[(4000,.blk 0 [.c (.v (.int .i64 x0)),.c (.v (.int .i64 x1)),.c (.v (.string x2)),.c (.sl 3 x3 none),.c (.sl 5 x4 none)]),(7000,.blk 0 [.c (.v (.int .i64 0)),.c (.v (.int .i64 0)),.c (.v (.string ⟨#[]⟩)),.c (.sl 3 [] (some [])),.c (.sl 5 [] (some []))]),(8000,.blk 0 [.c (.v (.int .i64 y1)),.c (.v (.int .i64 j7)),.c (.v (.string y3)),.t 11000 0 (O.len y4),.c (.sl 5 [] (some []))]),(11000,.arr 0 3 y4 none false)],1⟩))∧p131_2 False fu (p131 False fu) K0 x0 x4 x5 x6 y1 y3 y4 nilE j7) (fun k2 h L hL_2=>?_) (fun k2 h L hL_2=>?_) ?_
 conv=>cbv
 exact hL_2 _ _ ⟨z0d .add .i64 x1 x5,⟨(by (conv=>lhs;cbv)<;>(subst hO;rfl)),(by (conv=>lhs;cbv)<;>(subst hO;rfl))⟩,h⟩
 conv=>cbv
 exact hL_2 _ _ ⟨y2,⟨(by (conv=>lhs;cbv)<;>(subst hO;rfl)),(by (conv=>lhs;cbv)<;>(subst hO;rfl))⟩,h⟩
 rintro tm m ⟨j7,hs,h⟩
 unfold p131_2 at h
 obtain⟨rfl,rfl⟩:=hs
 conv=>cbv
 refine z0v hO tiA [1,2,3,6,7,8] [4000,7000,8000,11000,49000] [] (fun (n:Nat) tm m=>∃ (z8:EL) (z9:Int),((z8=[]∧tm=frame 0 51 [(1,.c (.v (.int .i64 x5))),(2,.c (.v (.int .i64 x6))),(3,.p 4000 0 0),(6,.p 7000 0 0),(7,.p 8000 0 0),(8,.c (.v (.int .i64 z9)))]∧m=⟨[(4000,.blk 0 [.c (.v (.int .i64 x0)),.c (.v (.int .i64 x1)),.c (.v (.string x2)),.c (.sl 3 x3 none),.c (.sl 5 x4 none)]),(7000,.blk 0 [.c (.v (.int .i64 0)),.c (.v (.int .i64 0)),.c (.v (.string ⟨#[]⟩)),.c (.sl 3 [] (some [])),.c (.sl 5 [] (some []))]),(8000,.blk 0 [.c (.v (.int .i64 y1)),.c (.v (.int .i64 j7)),.c (.v (.string y3)),.t 11000 0 (O.len y4),.c (.sl 5 [] (some []))]),(11000,.arr 0 3 y4 none false)],1⟩)∨(tm=frame 0 51 [(1,.c (.v (.int .i64 x5))),(2,.c (.v (.int .i64 x6))),(3,.p 4000 0 0),(6,.p 7000 0 0),(7,.p 8000 0 0),(8,.c (.v (.int .i64 z9)))]∧m=⟨[(4000,.blk 0 [.c (.v (.int .i64 x0)),.c (.v (.int .i64 x1)),.c (.v (.string x2)),.c (.sl 3 x3 none),.c (.sl 5 x4 none)]),(7000,.blk 0 [.c (.v (.int .i64 0)),.c (.v (.int .i64 0)),.c (.v (.string ⟨#[]⟩)),.c (.sl 3 [] (some [])),.c (.sl 5 [] (some []))]),(8000,.blk 0 [.c (.v (.int .i64 y1)),.c (.v (.int .i64 j7)),.c (.v (.string y3)),.t 11000 0 (O.len y4),.t 49000 0 (O.len z8)]),(11000,.arr 0 3 y4 none false),(49000,.arr 0 5 z8 none false)],1⟩))∧p131_1L False fu (p131 False fu) K0 x0 x4 x5 x6 y1 y3 y4 j7 n z8 z9) (fun n=>n) fu ⟨nilE,0,(.inl ⟨rfl,(by (conv=>lhs;cbv)<;>(subst hO;rfl)),(by (conv=>lhs;cbv)<;>(subst hO;rfl))⟩),h⟩ ?_
 rintro n1 tm m L ⟨z8,z9,hs,h⟩ hLn1
 (cases n1 with
 | zero=>rw [p131_1L] at h;exact h.elim
 | succ n1 =>
 rw [p131_1L] at h
 unfold p131_1 at h
 rcases hs with hs | hs
 obtain⟨rfl,rfl,rfl⟩:=hs
 conv=>cbv
 refine br_h hO h (by subst hO;rfl) (fun k1 h=>?_) (fun k1 h=>?_)
 conv=>cbv
 refine z0c hO ?_
 conv=>cbv
 refine z0h hO tiA [[],[],[],[],[],[]] [(0,true,false),(1,true,false),(2,true,false),(3,true,false),(4,true,false),(5,true,false),(6,true,false),(7,true,false),(8,true,false),(9,true,false),(10,true,false),(11,true,false),(12,false,false),(13,true,false),(14,false,false),(15,false,false),(16,false,true),(17,true,true),(18,false,true)] (by kernel_rfl) ?_
 conv=>cbv
 refine and_h h (fun g=>(by subst hO;exact g)) (fun h=>?_)
 refine and_h h (fun g=>(by subst hO;exact g)) (fun h=>?_)
 obtain⟨c10,c11,c12,c13,c14,hr,h⟩:=z0g h
 refine z0p hO _ (by subst hO;exact hr) ?_
 clear hr
 conv=>cbv
 refine z0b hO [.shut,.shut] (d_p142 fu O.len hN h) ?_
 intro e Q a b
 conv=>cbv
 refine⟨by subst a hO;rfl,?_⟩
 intro r bs d
 rw [b] at d
 clear a b h
 obtain⟨y15,_,_,⟨rfl,rfl⟩,h⟩:=d
 conv=>cbv
 refine agr hO rfl rfl ?_
 refine z0b hO [.shut,.shut,.shut] (ih_p131 O.len hN h) ?_
 intro e Q a b
 conv=>cbv
 refine⟨by subst a hO;rfl,?_⟩
 intro r bs d
 rw [b] at d
 clear a b h
 obtain⟨y16,y17,y18,y19,y20,_,_,_,⟨rfl,rfl⟩,h⟩:=d
 conv=>cbv
 refine agr hO rfl rfl ?_
 refine agr hO rfl rfl ?_
 refine z0s hO h (fun g=>(by subst hO;exact g)) (fun h=>?_)
 conv=>cbv
 refine and_h h (fun g=>(by subst hO;exact g)) (fun h=>?_)
 refine z2l hO (by subst hO;exact List.cons_ne_nil _ _) ?_
 conv=>cbv
 refine z0c hO ?_
 conv=>cbv
 exact hLn1 n1 _ _ (Nat.lt_succ_self n1) ⟨(nilE++(List.take 1 [[(CV.v (.int .i64 y16)),(CV.v (.int .i64 y17)),(CV.v (.string y18)),(CV.sl 3 y19 none),(CV.sl 5 y20 none)]])),z0d .add .i64 z9 1,(.inr ⟨(by (conv=>lhs;cbv)<;>(subst hO;rfl)),(by (conv=>lhs;cbv)<;>(subst hO;rfl))⟩),h⟩
 conv=>cbv
 refine z0j hO ?_
 conv=>cbv
 rw [b]
 exact⟨y1,j7,y3,y4,nilE,_,_,_,⟨(by subst hO;rfl),(by subst hO;rfl)⟩,h⟩
 obtain⟨rfl,rfl⟩:=hs
 conv=>cbv
 refine br_h hO h (by subst hO;rfl) (fun k1 h=>?_) (fun k1 h=>?_)
 conv=>cbv
 refine z0c hO ?_
 conv=>cbv
 refine z0h hO tiA [[],[],[],[],[],[]] [(0,true,false),(1,true,false),(2,true,false),(3,true,false),(4,true,false),(5,true,false),(6,true,false),(7,true,false),(8,true,false),(9,true,false),(10,true,false),(11,true,false),(12,false,false),(13,true,false),(14,false,false),(15,false,false),(16,false,true),(17,true,true),(18,false,true)] (by kernel_rfl) ?_
 conv=>cbv
 refine and_h h (fun g=>(by subst hO;exact g)) (fun h=>?_)
 refine and_h h (fun g=>(by subst hO;exact g)) (fun h=>?_)
 obtain⟨c10,c11,c12,c13,c14,hr,h⟩:=z0g h
 refine z0p hO _ (by subst hO;exact hr) ?_
 clear hr
 conv=>cbv
 refine z0b hO [.shut,.shut] (d_p142 fu O.len hN h) ?_
 intro e Q a b
 conv=>cbv
 refine⟨by subst a hO;rfl,?_⟩
 intro r bs d
 rw [b] at d
 clear a b h
 obtain⟨y15,_,_,⟨rfl,rfl⟩,h⟩:=d
 conv=>cbv
 refine agr hO rfl rfl ?_
 refine z0b hO [.shut,.shut,.shut] (ih_p131 O.len hN h) ?_
 intro e Q a b
 conv=>cbv
 refine⟨by subst a hO;rfl,?_⟩
 intro r bs d
 rw [b] at d
 clear a b h
 obtain⟨y16,y17,y18,y19,y20,_,_,_,⟨rfl,rfl⟩,h⟩:=d
 conv=>cbv
 refine agr hO rfl rfl ?_
 refine agr hO rfl rfl ?_
 refine z0s hO h (fun g=>(by subst hO;exact g)) (fun h=>?_)
 conv=>cbv
 refine⟨(by subst hO;rfl),?_⟩
 refine and_h h (fun g=>(by subst hO;exact g)) (fun h=>?_)
 refine z0c hO ?_
 conv=>cbv
 exact hLn1 n1 _ _ (Nat.lt_succ_self n1) ⟨(z8++(List.take 1 [[(CV.v (.int .i64 y16)),(CV.v (.int .i64 y17)),(CV.v (.string y18)),(CV.sl 3 y19 none),(CV.sl 5 y20 none)]])),z0d .add .i64 z9 1,(.inr ⟨(by (conv=>lhs;cbv)<;>(subst hO;rfl)),(by (conv=>lhs;cbv)<;>(subst hO;rfl))⟩),h⟩
 conv=>cbv
 refine z0j hO ?_
 conv=>cbv
 refine z0j hO ?_
 conv=>cbv
 rw [b]
 exact⟨y1,j7,y3,y4,z8,_,_,_,⟨(by subst hO;rfl),(by subst hO;rfl)⟩,h⟩)
theorem dd_p131 (fu:Nat):D_p131 fu:=by
 induction fu with
 | zero=>unfold D_p131;intros;rename_i h;rw [p131] at h;exact h.elim
 | succ n ih =>
  exact (by unfold D_p131;intro K0 L hN x0 x1 x2 x3 x4 x5 x6 h;exact b_p131 n ih L hN (by rw [p131] at h;exact h))
theorem d_p131 (fu:Nat):D_p131 fu:=dd_p131 fu
theorem d_p100 (fu:Nat){K0:Int→Int→ByteArray→EL→EL→Prop}(L:EL→Nat)(hN:L=List.length){x0 x1:Int}{x2:ByteArray}{x3 x4:EL}(h:p100 False fu K0 x0 x1 x2 x3 x4):Den Try.prog G0 100 [.agg [.c (.v (.int .i64 x0)),.c (.v (.int .i64 x1)),.c (.v (.string x2)),.c (.sl 3 x3 none),.c (.sl 5 x4 none)]] (fun r bs=>(∃ (y0 y1:Int) (y2:ByteArray) (y3 y4:EL) (o0:OV),(r=.agg [.c (.v (.int .i64 y0)),.c (.v (.int .i64 y1)),.c (.v (.string y2)),.c (.sl 3 y3 none),.c (.sl 5 y4 none)]∧bs=[o0])∧K0 y0 y1 y2 y3 y4)):=by
 obtain⟨O,hO⟩:∃ O,O=std 0 T G0 (Den Try.prog G0):=⟨_,rfl⟩
 have hLO:L=O.len:=by rw [hN,hO];rfl
 subst hLO
 refine den_h hO tiA mixed tabOk (fn:=Try.f100) (sh:=true) (by kernel_rfl) rfl rfl rfl rfl ?_
 intro Q b
 unfold p100 at h
 conv=>cbv
 refine z0b hO [.shut,.shut,.shut] (d_p131 fu O.len hN h) ?_
 intro e Q a b
 conv=>cbv
 refine⟨by subst a hO;rfl,?_⟩
 intro r bs d
 rw [b] at d
 clear a b h
 obtain⟨y1,y2,y3,y4,y5,_,_,_,⟨rfl,rfl⟩,h⟩:=d
 conv=>cbv
 rw [b]
 exact⟨y1,y2,y3,y4,y5,_,⟨(by subst hO;rfl),(by subst hO;rfl)⟩,h⟩
theorem d_p48 (fu:Nat){K0:Int→Int→ByteArray→EL→EL→Prop}(L:EL→Nat)(hN:L=List.length){x0 x1:Int}{x2:ByteArray}{x3 x4:EL}{x5 x6:Int}{x7:ByteArray}{x8 x9:EL}(h:p48 False fu K0 x0 x1 x2 x3 x4 x5 x6 x7 x8 x9):Den Try.prog G0 48 [.agg [.c (.v (.int .i64 x0)),.c (.v (.int .i64 x1)),.c (.v (.string x2)),.c (.sl 3 x3 none),.c (.sl 5 x4 none)],.agg [.c (.v (.int .i64 x5)),.c (.v (.int .i64 x6)),.c (.v (.string x7)),.c (.sl 3 x8 none),.c (.sl 5 x9 none)]] (fun r bs=>(∃ (y0 y1:Int) (y2:ByteArray) (y3 y4:EL) (o0 o1:OV),(r=.agg [.c (.v (.int .i64 y0)),.c (.v (.int .i64 y1)),.c (.v (.string y2)),.c (.sl 3 y3 none),.c (.sl 5 y4 none)]∧bs=[o0,o1])∧K0 y0 y1 y2 y3 y4)):=by
 obtain⟨O,hO⟩:∃ O,O=std 0 T G0 (Den Try.prog G0):=⟨_,rfl⟩
 have hLO:L=O.len:=by rw [hN,hO];rfl
 subst hLO
 refine den_h hO tiA mixed tabOk (fn:=Try.f48) (sh:=true) (by kernel_rfl) rfl rfl rfl rfl ?_
 intro Q b
 unfold p48 at h
 conv=>cbv
 refine z0h hO tiA [[],[],[],[]] [(0,true,false),(2,true,false),(1,false,false),(3,false,true),(4,true,true),(5,false,true)] (by kernel_rfl) ?_
 conv=>cbv
 refine z0b hO [.shut] (d_p100 fu O.len hN h) ?_
 intro e Q a b
 conv=>cbv
 refine⟨by subst a hO;rfl,?_⟩
 intro r bs d
 rw [b] at d
 clear a b h
 obtain⟨y1,y2,y3,y4,y5,_,⟨rfl,rfl⟩,h⟩:=d
 conv=>cbv
 refine agr hO rfl rfl ?_
 refine z0c hO ?_
 conv=>cbv
 refine z0s hO h (fun g=>(by subst hO;exact g)) (fun h=>?_)
 conv=>cbv
 rw [b]
 exact⟨5,0,⟨#[]⟩,nilE,List.take 2 [[(CV.v (.int .i64 y1)),(CV.v (.int .i64 y2)),(CV.v (.string y3)),(CV.sl 3 y4 none),(CV.sl 5 y5 none)],[(CV.v (.int .i64 x5)),(CV.v (.int .i64 x6)),(CV.v (.string x7)),(CV.sl 3 x8 none),(CV.sl 5 x9 none)]],_,_,⟨(by subst hO;rfl),(by subst hO;rfl)⟩,h⟩
theorem d_p13 (fu:Nat){K0:Bool→Prop}(L:EL→Nat)(hN:L=List.length)(h:p13 False fu K0 ):Den Try.prog G0 13 [] (fun r bs=>(∃ (y0:Bool),(r=.c (.v (.bool y0))∧bs=[])∧K0 y0)):=by
 obtain⟨O,hO⟩:∃ O,O=std 0 T G0 (Den Try.prog G0):=⟨_,rfl⟩
 have hLO:L=O.len:=by rw [hN,hO];rfl
 subst hLO
 refine den_h hO tiA mixed tabOk (fn:=Try.f13) (sh:=true) (by kernel_rfl) rfl rfl rfl rfl ?_
 intro Q b
 unfold p13 at h
 conv=>cbv
 refine z0b hO [] (d_p50 fu O.len hN h) ?_
 intro e Q a b
 conv=>cbv
 refine⟨by subst a hO;rfl,?_⟩
 intro r bs d
 rw [b] at d
 clear a b h
 obtain⟨y1,y2,y3,⟨rfl,rfl⟩,h⟩:=d
 conv=>cbv
 refine z0b hO [.shut] (d_p49 fu O.len hN h) ?_
 intro e Q a b
 conv=>cbv
 refine⟨by subst a hO;rfl,?_⟩
 intro r bs d
 rw [b] at d
 clear a b h
 obtain⟨y4,y5,y6,y7,y8,_,⟨rfl,rfl⟩,h⟩:=d
 conv=>cbv
 refine z0b hO [.shut] (d_p51 fu O.len hN h) ?_
 intro e Q a b
 conv=>cbv
 refine⟨by subst a hO;rfl,?_⟩
 intro r bs d
 rw [b] at d
 clear a b h
 obtain⟨y9,y10,y11,y12,y13,_,⟨rfl,rfl⟩,h⟩:=d
 conv=>cbv
 refine z0b hO [.shut,.shut] (d_p48 fu O.len hN h) ?_
 intro e Q a b
 conv=>cbv
 refine⟨by subst a hO;rfl,?_⟩
 intro r bs d
 rw [b] at d
 clear a b h
 obtain⟨y14,y15,y16,y17,y18,_,_,⟨rfl,rfl⟩,h⟩:=d
 conv=>cbv
 refine z0b hO [.shut,.shut] (d_p17 fu O.len hN h) ?_
 intro e Q a b
 conv=>cbv
 refine⟨by subst a hO;rfl,?_⟩
 intro r bs d
 rw [b] at d
 clear a b h
 obtain⟨y19,_,_,⟨rfl,rfl⟩,h⟩:=d
 conv=>cbv
 refine alt_r hO ?_
 conv=>cbv
 refine z0j hO ?_
 conv=>cbv
 refine z0s hO h (fun g=>(by subst hO;exact g)) (fun h=>?_)
 conv=>cbv
 refine⟨(by subst hO;rfl),?_⟩
 refine and_h h (fun g=>(by subst hO;exact g)) (fun h=>?_)
 refine z0b hO [.shut] (d_p18 fu O.len hN h) ?_
 intro e Q a b
 conv=>cbv
 refine z0j hO ?_
 conv=>cbv
 refine⟨by subst a hO;rfl,?_⟩
 intro r bs d
 rw [b] at d
 clear a b h
 obtain⟨y20,y21,y22,y23,y24,y25,y26,_,⟨rfl,rfl⟩,h⟩:=d
 conv=>cbv
 refine z0q hO tiA [0] [] [] (fun tm m=>∃ (j27:Bool),((tm=frame 0 42 [(0,.c (.v (.bool j27)))]∧m=⟨[],1⟩))∧p13_1 False fu K0 j27) (fun L hL_1=>?_) ?_
 conv=>cbv
 refine tob_h hO h (by subst hO;rfl) (fun s28 h=>?_)
 conv=>cbv
 refine br_h hO h (by subst hO;rfl) (fun k1 h=>?_) (fun k1 h=>?_)
 conv=>cbv
 refine br_t hO k1 ?_
 conv=>cbv
 refine br_t hO k1 ?_
 conv=>cbv
 refine br_h hO h (by subst hO;rfl) (fun k2 h=>?_) (fun k2 h=>?_)
 conv=>cbv
 refine br_t hO k2 ?_
 conv=>cbv
 refine br_t hO k2 ?_
 conv=>cbv
 refine br_h hO h (by subst hO;rfl) (fun k3 h=>?_) (fun k3 h=>?_)
 conv=>cbv
 refine br_t hO k3 ?_
 conv=>cbv
 refine br_t hO k3 ?_
 conv=>cbv
 refine z0b hO [.shut,.shut] (d_p19 fu O.len hN h) ?_
 intro e Q a b
 conv=>cbv
 refine⟨by subst a hO;rfl,?_⟩
 intro r bs d
 rw [b] at d
 clear a b h
 obtain⟨y29,_,_,⟨rfl,rfl⟩,h⟩:=d
 conv=>cbv
 refine br_t hO k3 ?_
 conv=>cbv
 refine br_h hO h (by subst hO;rfl) (fun k4 h=>?_) (fun k4 h=>?_)
 conv=>cbv
 refine br_t hO k4 ?_
 conv=>cbv
 refine z0b hO [.shut,.shut] (d_p26 fu O.len hN h) ?_
 intro e Q a b
 conv=>cbv
 refine⟨by subst a hO;rfl,?_⟩
 intro r bs d
 rw [b] at d
 clear a b h
 obtain⟨y30,_,_,⟨rfl,rfl⟩,h⟩:=d
 conv=>cbv
 refine br_t hO k4 ?_
 conv=>cbv
 refine br_t hO k4 ?_
 conv=>cbv
 refine br_t hO k4 ?_
 conv=>cbv
 exact hL_1 _ _ ⟨(z0a .eql ((y30.length:Nat):Int) 1),⟨(by (conv=>lhs;cbv)<;>(subst hO;rfl)),(by (conv=>lhs;cbv)<;>(subst hO;rfl))⟩,h⟩
 conv=>cbv
 refine br_f hO k4 ?_
 conv=>cbv
 refine br_f hO k4 ?_
 conv=>cbv
 refine br_f hO k4 ?_
 conv=>cbv
 refine br_f hO k4 ?_
 conv=>cbv
 exact hL_1 _ _ ⟨false,⟨(by (conv=>lhs;cbv)<;>(subst hO;rfl)),(by (conv=>lhs;cbv)<;>(subst hO;rfl))⟩,h⟩
 conv=>cbv
 refine br_f hO k3 ?_
 conv=>cbv
 refine br_f hO k3 ?_
 conv=>cbv
 refine br_f hO k3 ?_
 conv=>cbv
 refine br_f hO rfl ?_
 conv=>cbv
 refine br_f hO rfl ?_
 conv=>cbv
 refine br_f hO rfl ?_
 conv=>cbv
 refine br_f hO rfl ?_
 conv=>cbv
 refine br_f hO rfl ?_
 conv=>cbv
 exact hL_1 _ _ ⟨false,⟨(by (conv=>lhs;cbv)<;>(subst hO;rfl)),(by (conv=>lhs;cbv)<;>(subst hO;rfl))⟩,h⟩
 conv=>cbv
 refine br_f hO k2 ?_
 conv=>cbv
 refine br_f hO k2 ?_
 conv=>cbv
 refine br_f hO rfl ?_
 conv=>cbv
 refine br_f hO rfl ?_
 conv=>cbv
 refine br_f hO rfl ?_
 conv=>cbv
 refine br_f hO rfl ?_
 conv=>cbv
 refine br_f hO rfl ?_
 conv=>cbv
 refine br_f hO rfl ?_
 conv=>cbv
 refine br_f hO rfl ?_
 conv=>cbv
 refine br_f hO rfl ?_
 conv=>cbv
 refine br_f hO rfl ?_
 conv=>cbv
 exact hL_1 _ _ ⟨false,⟨(by (conv=>lhs;cbv)<;>(subst hO;rfl)),(by (conv=>lhs;cbv)<;>(subst hO;rfl))⟩,h⟩
 conv=>cbv
 refine br_f hO k1 ?_
 conv=>cbv
 refine br_f hO k1 ?_
 conv=>cbv
 refine br_f hO rfl ?_
 conv=>cbv
 refine br_f hO rfl ?_
 conv=>cbv
 refine br_f hO rfl ?_
 conv=>cbv
 refine br_f hO rfl ?_
 conv=>cbv
 refine br_f hO rfl ?_
 conv=>cbv
 refine br_f hO rfl ?_
 conv=>cbv
 refine br_f hO rfl ?_
 conv=>cbv
 refine br_f hO rfl ?_
 conv=>cbv
 refine br_f hO rfl ?_
 conv=>cbv
 refine br_f hO rfl ?_
 conv=>cbv
 refine br_f hO rfl ?_
 conv=>cbv
 refine br_f hO rfl ?_
 conv=>cbv
 exact hL_1 _ _ ⟨false,⟨(by (conv=>lhs;cbv)<;>(subst hO;rfl)),(by (conv=>lhs;cbv)<;>(subst hO;rfl))⟩,h⟩
 rintro tm m ⟨j27,hs,h⟩
 unfold p13_1 at h
 obtain⟨rfl,rfl⟩:=hs
 conv=>cbv
 rw [b]
 exact⟨j27,⟨(by subst hO;rfl),(by subst hO;rfl)⟩,h⟩
theorem d_p23 (fu:Nat){K0:Bool→Prop}(L:EL→Nat)(hN:L=List.length){x0:EL}(h:p23 False fu K0 x0):Den Try.prog G0 23 [.c (.sl 3 x0 none)] (fun r bs=>(∃ (y0:Bool) (o0:OV),(r=.c (.v (.bool y0))∧bs=[o0])∧K0 y0)):=by
 obtain⟨O,hO⟩:∃ O,O=std 0 T G0 (Den Try.prog G0):=⟨_,rfl⟩
 have hLO:L=O.len:=by rw [hN,hO];rfl
 subst hLO
 refine den_h hO tiA mixed tabOk (fn:=Try.f23) (sh:=true) (by kernel_rfl) rfl rfl rfl rfl ?_
 intro Q b
 unfold p23 at h
 conv=>cbv
 refine z0v hO tiA [0,3] [] [] (fun (n:Nat) tm m=>∃ (z1:Int),((tm=frame 0 16 [(0,.c (.sl 3 x0 none)),(3,.c (.v (.int .i64 z1)))]∧m=⟨[],1⟩))∧p23_1L False fu K0 x0 n z1) (fun n=>n) fu ⟨0,⟨(by (conv=>lhs;cbv)<;>(subst hO;rfl)),(by (conv=>lhs;cbv)<;>(subst hO;rfl))⟩,h⟩ ?_
 rintro n1 tm m L ⟨z1,hs,h⟩ hLn1
 (cases n1 with
 | zero=>rw [p23_1L] at h;exact h.elim
 | succ n1 =>
 rw [p23_1L] at h
 unfold p23_1 at h
 obtain⟨rfl,rfl⟩:=hs
 conv=>cbv
 refine br_h hO h (by subst hO;rfl) (fun k1 h=>?_) (fun k1 h=>?_)
 conv=>cbv
 refine z0c hO ?_
 conv=>cbv
 refine and_h h (fun g=>(by subst hO;exact g)) (fun h=>?_)
 refine and_h h (fun g=>(by subst hO;exact g)) (fun h=>?_)
 obtain⟨c2,c3,c4,hr,h⟩:=z0k h
 refine z0p hO _ (by subst hO;exact hr) ?_
 clear hr
 conv=>cbv
 refine z0b hO [.shut,.shut] (d_p69 fu O.len hN h) ?_
 intro e Q a b
 conv=>cbv
 refine⟨by subst a hO;rfl,?_⟩
 intro r bs d
 rw [b] at d
 clear a b h
 obtain⟨y5,_,_,⟨rfl,rfl⟩,h⟩:=d
 conv=>cbv
 refine br_h hO h (by subst hO;rfl) (fun k2 h=>?_) (fun k2 h=>?_)
 conv=>cbv
 rw [b]
 exact⟨false,_,⟨(by subst hO;rfl),(by subst hO;rfl)⟩,h⟩
 conv=>cbv
 refine z0c hO ?_
 conv=>cbv
 exact hLn1 n1 _ _ (Nat.lt_succ_self n1) ⟨z0d .add .i64 z1 1,⟨(by (conv=>lhs;cbv)<;>(subst hO;rfl)),(by (conv=>lhs;cbv)<;>(subst hO;rfl))⟩,h⟩
 conv=>cbv
 rw [b]
 exact⟨true,_,⟨(by subst hO;rfl),(by subst hO;rfl)⟩,h⟩)
theorem d_p24 (fu:Nat){K0:Bool→Prop}(L:EL→Nat)(hN:L=List.length){x0 x1 x2:Int}{x3 x4:ByteArray}{x5 x6:Int}{x7:ByteArray}{x8 x9:EL}{x10 x11:Int}{x12:ByteArray}{x13 x14 x15:EL}(h:p24 False fu K0 x0 x1 x2 x3 x4 x5 x6 x7 x8 x9 x10 x11 x12 x13 x14 x15):Den Try.prog G0 24 [.agg [.c (.v (.int .i64 x0)),.c (.v (.int .i64 x1)),.c (.v (.int .i64 x2)),.c (.v (.string x3)),.c (.v (.string x4)),.c (.v (.int .i64 x5)),.c (.v (.int .i64 x6)),.c (.v (.string x7)),.c (.sl 3 x8 none),.c (.sl 5 x9 none),.c (.v (.int .i64 x10)),.c (.v (.int .i64 x11)),.c (.v (.string x12)),.c (.sl 3 x13 none),.c (.sl 5 x14 none),.c (.sl 6 x15 none)]] (fun r bs=>(∃ (y0:Bool) (o0:OV),(r=.c (.v (.bool y0))∧bs=[o0])∧K0 y0)):=by
 obtain⟨O,hO⟩:∃ O,O=std 0 T G0 (Den Try.prog G0):=⟨_,rfl⟩
 have hLO:L=O.len:=by rw [hN,hO];rfl
 subst hLO
 refine den_h hO tiA mixed tabOk (fn:=Try.f24) (sh:=true) (by kernel_rfl) rfl rfl rfl rfl ?_
 intro Q b
 unfold p24 at h
 conv=>cbv
 refine z0q hO tiA [1,55] [2000] [] (fun tm m=>∃ (j1:Bool),((tm=frame 0 102 [(1,.p 2000 0 0),(55,.c (.v (.bool j1)))]∧m=⟨[(2000,.blk 0 [.c (.v (.int .i64 x0)),.c (.v (.int .i64 x1)),.c (.v (.int .i64 x2)),.c (.v (.string x3)),.c (.v (.string x4)),.c (.v (.int .i64 x5)),.c (.v (.int .i64 x6)),.c (.v (.string x7)),.c (.sl 3 x8 none),.c (.sl 5 x9 none),.c (.v (.int .i64 x10)),.c (.v (.int .i64 x11)),.c (.v (.string x12)),.c (.sl 3 x13 none),.c (.sl 5 x14 none),.c (.sl 6 x15 none)])],1⟩))∧p24_4 False fu K0 x0 x10 x11 x12 x13 x14 x15 j1) (fun L hL_4=>?_) ?_
 conv=>cbv
 refine br_h hO h (by subst hO;rfl) (fun k8 h=>?_) (fun k8 h=>?_)
 conv=>cbv
 refine br_t hO k8 ?_
 conv=>cbv
 refine br_t hO k8 ?_
 conv=>cbv
 refine br_t hO k8 ?_
 conv=>cbv
 refine br_t hO rfl ?_
 conv=>cbv
 refine br_t hO rfl ?_
 conv=>cbv
 refine br_t hO rfl ?_
 conv=>cbv
 refine br_t hO rfl ?_
 conv=>cbv
 refine br_t hO rfl ?_
 conv=>cbv
 refine br_t hO rfl ?_
 conv=>cbv
 refine br_t hO rfl ?_
 conv=>cbv
 refine br_t hO rfl ?_
 conv=>cbv
 refine br_t hO rfl ?_
 conv=>cbv
 refine br_t hO rfl ?_
 conv=>cbv
 refine br_t hO rfl ?_
 conv=>cbv
 refine br_t hO rfl ?_
 conv=>cbv
 refine br_t hO rfl ?_
 conv=>cbv
 refine br_t hO rfl ?_
 conv=>cbv
 refine br_t hO rfl ?_
 conv=>cbv
 refine br_t hO rfl ?_
 conv=>cbv
 refine br_t hO rfl ?_
 conv=>cbv
 refine br_t hO rfl ?_
 conv=>cbv
 refine br_t hO rfl ?_
 conv=>cbv
 refine br_t hO rfl ?_
 conv=>cbv
 refine br_t hO rfl ?_
 conv=>cbv
 refine br_t hO rfl ?_
 conv=>cbv
 refine br_t hO rfl ?_
 conv=>cbv
 refine br_t hO rfl ?_
 conv=>cbv
 refine br_t hO rfl ?_
 conv=>cbv
 refine br_t hO rfl ?_
 conv=>cbv
 refine br_t hO rfl ?_
 conv=>cbv
 refine br_t hO rfl ?_
 conv=>cbv
 refine br_t hO rfl ?_
 conv=>cbv
 refine br_t hO rfl ?_
 conv=>cbv
 refine br_t hO rfl ?_
 conv=>cbv
 refine br_t hO rfl ?_
 conv=>cbv
 refine br_t hO rfl ?_
 conv=>cbv
 refine br_t hO rfl ?_
 conv=>cbv
 refine br_t hO rfl ?_
 conv=>cbv
 refine br_t hO rfl ?_
 conv=>cbv
 exact hL_4 _ _ ⟨true,⟨(by (conv=>lhs;cbv)<;>(subst hO;rfl)),(by (conv=>lhs;cbv)<;>(subst hO;rfl))⟩,h⟩
 conv=>cbv
 refine br_f hO k8 ?_
 conv=>cbv
 refine br_f hO k8 ?_
 conv=>cbv
 refine br_f hO k8 ?_
 conv=>cbv
 refine br_h hO h (by subst hO;rfl) (fun k9 h=>?_) (fun k9 h=>?_)
 conv=>cbv
 refine br_t hO k9 ?_
 conv=>cbv
 refine br_t hO k9 ?_
 conv=>cbv
 refine br_t hO k9 ?_
 conv=>cbv
 refine br_t hO rfl ?_
 conv=>cbv
 refine br_t hO rfl ?_
 conv=>cbv
 refine br_t hO rfl ?_
 conv=>cbv
 refine br_t hO rfl ?_
 conv=>cbv
 refine br_t hO rfl ?_
 conv=>cbv
 refine br_t hO rfl ?_
 conv=>cbv
 refine br_t hO rfl ?_
 conv=>cbv
 refine br_t hO rfl ?_
 conv=>cbv
 refine br_t hO rfl ?_
 conv=>cbv
 refine br_t hO rfl ?_
 conv=>cbv
 refine br_t hO rfl ?_
 conv=>cbv
 refine br_t hO rfl ?_
 conv=>cbv
 refine br_t hO rfl ?_
 conv=>cbv
 refine br_t hO rfl ?_
 conv=>cbv
 refine br_t hO rfl ?_
 conv=>cbv
 refine br_t hO rfl ?_
 conv=>cbv
 refine br_t hO rfl ?_
 conv=>cbv
 refine br_t hO rfl ?_
 conv=>cbv
 refine br_t hO rfl ?_
 conv=>cbv
 refine br_t hO rfl ?_
 conv=>cbv
 refine br_t hO rfl ?_
 conv=>cbv
 refine br_t hO rfl ?_
 conv=>cbv
 refine br_t hO rfl ?_
 conv=>cbv
 refine br_t hO rfl ?_
 conv=>cbv
 refine br_t hO rfl ?_
 conv=>cbv
 refine br_t hO rfl ?_
 conv=>cbv
 refine br_t hO rfl ?_
 conv=>cbv
 refine br_t hO rfl ?_
 conv=>cbv
 refine br_t hO rfl ?_
 conv=>cbv
 refine br_t hO rfl ?_
 conv=>cbv
 refine br_t hO rfl ?_
 conv=>cbv
 refine br_t hO rfl ?_
 conv=>cbv
 exact hL_4 _ _ ⟨true,⟨(by (conv=>lhs;cbv)<;>(subst hO;rfl)),(by (conv=>lhs;cbv)<;>(subst hO;rfl))⟩,h⟩
 conv=>cbv
 refine br_f hO k9 ?_
 conv=>cbv
 refine br_f hO k9 ?_
 conv=>cbv
 refine br_f hO k9 ?_
 conv=>cbv
 refine br_h hO h (by subst hO;rfl) (fun k10 h=>?_) (fun k10 h=>?_)
 conv=>cbv
 refine br_t hO k10 ?_
 conv=>cbv
 refine br_t hO k10 ?_
 conv=>cbv
 refine br_t hO k10 ?_
 conv=>cbv
 refine br_t hO rfl ?_
 conv=>cbv
 refine br_t hO rfl ?_
 conv=>cbv
 refine br_t hO rfl ?_
 conv=>cbv
 refine br_t hO rfl ?_
 conv=>cbv
 refine br_t hO rfl ?_
 conv=>cbv
 refine br_t hO rfl ?_
 conv=>cbv
 refine br_t hO rfl ?_
 conv=>cbv
 refine br_t hO rfl ?_
 conv=>cbv
 refine br_t hO rfl ?_
 conv=>cbv
 refine br_t hO rfl ?_
 conv=>cbv
 refine br_t hO rfl ?_
 conv=>cbv
 refine br_t hO rfl ?_
 conv=>cbv
 refine br_t hO rfl ?_
 conv=>cbv
 refine br_t hO rfl ?_
 conv=>cbv
 refine br_t hO rfl ?_
 conv=>cbv
 refine br_t hO rfl ?_
 conv=>cbv
 refine br_t hO rfl ?_
 conv=>cbv
 refine br_t hO rfl ?_
 conv=>cbv
 refine br_t hO rfl ?_
 conv=>cbv
 refine br_t hO rfl ?_
 conv=>cbv
 refine br_t hO rfl ?_
 conv=>cbv
 refine br_t hO rfl ?_
 conv=>cbv
 refine br_t hO rfl ?_
 conv=>cbv
 refine br_t hO rfl ?_
 conv=>cbv
 refine br_t hO rfl ?_
 conv=>cbv
 refine br_t hO rfl ?_
 conv=>cbv
 refine br_t hO rfl ?_
 conv=>cbv
 refine br_t hO rfl ?_
 conv=>cbv
 exact hL_4 _ _ ⟨true,⟨(by (conv=>lhs;cbv)<;>(subst hO;rfl)),(by (conv=>lhs;cbv)<;>(subst hO;rfl))⟩,h⟩
 conv=>cbv
 refine br_f hO k10 ?_
 conv=>cbv
 refine br_f hO k10 ?_
 conv=>cbv
 refine br_f hO k10 ?_
 conv=>cbv
 refine br_h hO h (by subst hO;rfl) (fun k11 h=>?_) (fun k11 h=>?_)
 conv=>cbv
 refine br_t hO k11 ?_
 conv=>cbv
 refine br_t hO k11 ?_
 conv=>cbv
 refine br_t hO k11 ?_
 conv=>cbv
 refine br_t hO rfl ?_
 conv=>cbv
 refine br_t hO rfl ?_
 conv=>cbv
 refine br_t hO rfl ?_
 conv=>cbv
 refine br_t hO rfl ?_
 conv=>cbv
 refine br_t hO rfl ?_
 conv=>cbv
 refine br_t hO rfl ?_
 conv=>cbv
 refine br_t hO rfl ?_
 conv=>cbv
 refine br_t hO rfl ?_
 conv=>cbv
 refine br_t hO rfl ?_
 conv=>cbv
 refine br_t hO rfl ?_
 conv=>cbv
 refine br_t hO rfl ?_
 conv=>cbv
 refine br_t hO rfl ?_
 conv=>cbv
 refine br_t hO rfl ?_
 conv=>cbv
 refine br_t hO rfl ?_
 conv=>cbv
 refine br_t hO rfl ?_
 conv=>cbv
 refine br_t hO rfl ?_
 conv=>cbv
 refine br_t hO rfl ?_
 conv=>cbv
 refine br_t hO rfl ?_
 conv=>cbv
 refine br_t hO rfl ?_
 conv=>cbv
 refine br_t hO rfl ?_
 conv=>cbv
 refine br_t hO rfl ?_
 conv=>cbv
 refine br_t hO rfl ?_
 conv=>cbv
 refine br_t hO rfl ?_
 conv=>cbv
 refine br_t hO rfl ?_
 conv=>cbv
 exact hL_4 _ _ ⟨true,⟨(by (conv=>lhs;cbv)<;>(subst hO;rfl)),(by (conv=>lhs;cbv)<;>(subst hO;rfl))⟩,h⟩
 conv=>cbv
 refine br_f hO k11 ?_
 conv=>cbv
 refine br_f hO k11 ?_
 conv=>cbv
 refine br_f hO k11 ?_
 conv=>cbv
 refine br_h hO h (by subst hO;rfl) (fun k12 h=>?_) (fun k12 h=>?_)
 conv=>cbv
 refine br_t hO k12 ?_
 conv=>cbv
 refine br_t hO k12 ?_
 conv=>cbv
 refine br_t hO k12 ?_
 conv=>cbv
 refine br_t hO rfl ?_
 conv=>cbv
 refine br_t hO rfl ?_
 conv=>cbv
 refine br_t hO rfl ?_
 conv=>cbv
 refine br_t hO rfl ?_
 conv=>cbv
 refine br_t hO rfl ?_
 conv=>cbv
 refine br_t hO rfl ?_
 conv=>cbv
 refine br_t hO rfl ?_
 conv=>cbv
 refine br_t hO rfl ?_
 conv=>cbv
 refine br_t hO rfl ?_
 conv=>cbv
 refine br_t hO rfl ?_
 conv=>cbv
 refine br_t hO rfl ?_
 conv=>cbv
 refine br_t hO rfl ?_
 conv=>cbv
 refine br_t hO rfl ?_
 conv=>cbv
 refine br_t hO rfl ?_
 conv=>cbv
 refine br_t hO rfl ?_
 conv=>cbv
 refine br_t hO rfl ?_
 conv=>cbv
 refine br_t hO rfl ?_
 conv=>cbv
 refine br_t hO rfl ?_
 conv=>cbv
 refine br_t hO rfl ?_
 conv=>cbv
 refine br_t hO rfl ?_
 conv=>cbv
 exact hL_4 _ _ ⟨true,⟨(by (conv=>lhs;cbv)<;>(subst hO;rfl)),(by (conv=>lhs;cbv)<;>(subst hO;rfl))⟩,h⟩
 conv=>cbv
 refine br_f hO k12 ?_
 conv=>cbv
 refine br_f hO k12 ?_
 conv=>cbv
 refine br_f hO k12 ?_
 conv=>cbv
 refine br_h hO h (by subst hO;rfl) (fun k13 h=>?_) (fun k13 h=>?_)
 conv=>cbv
 refine br_t hO k13 ?_
 conv=>cbv
 refine br_t hO k13 ?_
 conv=>cbv
 refine br_t hO k13 ?_
 conv=>cbv
 refine br_t hO k13 ?_
 conv=>cbv
 refine br_t hO rfl ?_
 conv=>cbv
 refine br_t hO rfl ?_
 conv=>cbv
 refine br_t hO rfl ?_
 conv=>cbv
 refine br_t hO rfl ?_
 conv=>cbv
 refine br_t hO rfl ?_
 conv=>cbv
 refine br_t hO rfl ?_
 conv=>cbv
 refine br_t hO rfl ?_
 conv=>cbv
 refine br_t hO rfl ?_
 conv=>cbv
 refine br_t hO rfl ?_
 conv=>cbv
 refine br_t hO rfl ?_
 conv=>cbv
 refine br_t hO rfl ?_
 conv=>cbv
 refine br_t hO rfl ?_
 conv=>cbv
 refine br_t hO rfl ?_
 conv=>cbv
 refine br_t hO rfl ?_
 conv=>cbv
 refine br_t hO rfl ?_
 conv=>cbv
 exact hL_4 _ _ ⟨true,⟨(by (conv=>lhs;cbv)<;>(subst hO;rfl)),(by (conv=>lhs;cbv)<;>(subst hO;rfl))⟩,h⟩
 conv=>cbv
 refine br_f hO k13 ?_
 conv=>cbv
 refine br_f hO k13 ?_
 conv=>cbv
 refine br_f hO k13 ?_
 conv=>cbv
 refine br_f hO k13 ?_
 conv=>cbv
 refine br_h hO h (by subst hO;rfl) (fun k14 h=>?_) (fun k14 h=>?_)
 conv=>cbv
 refine br_t hO k14 ?_
 conv=>cbv
 refine br_t hO k14 ?_
 conv=>cbv
 refine br_t hO k14 ?_
 conv=>cbv
 refine br_t hO k14 ?_
 conv=>cbv
 refine br_t hO rfl ?_
 conv=>cbv
 refine br_t hO rfl ?_
 conv=>cbv
 refine br_t hO rfl ?_
 conv=>cbv
 refine br_t hO rfl ?_
 conv=>cbv
 refine br_t hO rfl ?_
 conv=>cbv
 refine br_t hO rfl ?_
 conv=>cbv
 refine br_t hO rfl ?_
 conv=>cbv
 refine br_t hO rfl ?_
 conv=>cbv
 refine br_t hO rfl ?_
 conv=>cbv
 refine br_t hO rfl ?_
 conv=>cbv
 exact hL_4 _ _ ⟨true,⟨(by (conv=>lhs;cbv)<;>(subst hO;rfl)),(by (conv=>lhs;cbv)<;>(subst hO;rfl))⟩,h⟩
 conv=>cbv
 refine br_f hO k14 ?_
 conv=>cbv
 refine br_f hO k14 ?_
 conv=>cbv
 refine br_f hO k14 ?_
 conv=>cbv
 refine br_f hO k14 ?_
 conv=>cbv
 refine br_h hO h (by subst hO;rfl) (fun k15 h=>?_) (fun k15 h=>?_)
 conv=>cbv
 refine br_t hO k15 ?_
 conv=>cbv
 refine br_t hO k15 ?_
 conv=>cbv
 refine br_t hO k15 ?_
 conv=>cbv
 refine br_t hO k15 ?_
 conv=>cbv
 refine br_t hO rfl ?_
 conv=>cbv
 refine br_t hO rfl ?_
 conv=>cbv
 refine br_t hO rfl ?_
 conv=>cbv
 refine br_t hO rfl ?_
 conv=>cbv
 refine br_t hO rfl ?_
 conv=>cbv
 exact hL_4 _ _ ⟨true,⟨(by (conv=>lhs;cbv)<;>(subst hO;rfl)),(by (conv=>lhs;cbv)<;>(subst hO;rfl))⟩,h⟩
 conv=>cbv
 refine br_f hO k15 ?_
 conv=>cbv
 refine br_f hO k15 ?_
 conv=>cbv
 refine z0b hO [.shut] (d_p16 fu O.len hN h) ?_
 intro e Q a b
 conv=>cbv
 refine⟨by subst a hO;rfl,?_⟩
 intro r bs d
 rw [b] at d
 clear a b h
 obtain⟨y20,_,⟨rfl,rfl⟩,h⟩:=d
 conv=>cbv
 refine br_f hO k15 ?_
 conv=>cbv
 refine br_f hO k15 ?_
 conv=>cbv
 refine br_h hO h (by subst hO;rfl) (fun k16 h=>?_) (fun k16 h=>?_)
 conv=>cbv
 refine br_t hO k16 ?_
 conv=>cbv
 refine br_t hO k16 ?_
 conv=>cbv
 refine br_t hO k16 ?_
 conv=>cbv
 refine br_t hO k16 ?_
 conv=>cbv
 exact hL_4 _ _ ⟨true,⟨(by (conv=>lhs;cbv)<;>(subst hO;rfl)),(by (conv=>lhs;cbv)<;>(subst hO;rfl))⟩,h⟩
 conv=>cbv
 refine br_f hO k16 ?_
 conv=>cbv
 refine br_f hO k16 ?_
 conv=>cbv
 refine br_f hO k16 ?_
 conv=>cbv
 refine br_f hO k16 ?_
 conv=>cbv
 exact hL_4 _ _ ⟨(z0a .gtr ((x15.length:Nat):Int) 5),⟨(by (conv=>lhs;cbv)<;>(subst hO;rfl)),(by (conv=>lhs;cbv)<;>(subst hO;rfl))⟩,h⟩
 rintro tm m ⟨j1,hs,h⟩
 unfold p24_4 at h
 obtain⟨rfl,rfl⟩:=hs
 conv=>cbv
 refine br_h hO h (by subst hO;rfl) (fun k1 h=>?_) (fun k1 h=>?_)
 conv=>cbv
 rw [b]
 exact⟨false,_,⟨(by subst hO;rfl),(by subst hO;rfl)⟩,h⟩
 conv=>cbv
 refine z0c hO ?_
 conv=>cbv
 refine z0q hO tiA [1,76] [2000] [] (fun tm m=>∃ (j2:Bool),((tm=frame 0 102 [(1,.p 2000 0 0),(76,.c (.v (.bool j2)))]∧m=⟨[(2000,.blk 0 [.c (.v (.int .i64 x0)),.c (.v (.int .i64 x1)),.c (.v (.int .i64 x2)),.c (.v (.string x3)),.c (.v (.string x4)),.c (.v (.int .i64 x5)),.c (.v (.int .i64 x6)),.c (.v (.string x7)),.c (.sl 3 x8 none),.c (.sl 5 x9 none),.c (.v (.int .i64 x10)),.c (.v (.int .i64 x11)),.c (.v (.string x12)),.c (.sl 3 x13 none),.c (.sl 5 x14 none),.c (.sl 6 x15 none)])],1⟩))∧p24_3 False fu K0 x15 j2) (fun L hL_3=>?_) ?_
 conv=>cbv
 refine br_h hO h (by subst hO;rfl) (fun k6 h=>?_) (fun k6 h=>?_)
 conv=>cbv
 refine br_t hO k6 ?_
 conv=>cbv
 refine br_t hO k6 ?_
 conv=>cbv
 refine z0b hO [.shut] (d_p16 fu O.len hN h) ?_
 intro e Q a b
 conv=>cbv
 refine⟨by subst a hO;rfl,?_⟩
 intro r bs d
 rw [b] at d
 clear a b h
 obtain⟨y18,_,⟨rfl,rfl⟩,h⟩:=d
 conv=>cbv
 refine br_t hO k6 ?_
 conv=>cbv
 refine br_t hO k6 ?_
 conv=>cbv
 refine br_h hO h (by subst hO;rfl) (fun k7 h=>?_) (fun k7 h=>?_)
 conv=>cbv
 refine br_t hO k7 ?_
 conv=>cbv
 refine br_t hO k7 ?_
 conv=>cbv
 refine br_t hO k7 ?_
 conv=>cbv
 refine br_t hO k7 ?_
 conv=>cbv
 refine br_t hO k7 ?_
 conv=>cbv
 exact hL_3 _ _ ⟨true,⟨(by (conv=>lhs;cbv)<;>(subst hO;rfl)),(by (conv=>lhs;cbv)<;>(subst hO;rfl))⟩,h⟩
 conv=>cbv
 refine br_f hO k7 ?_
 conv=>cbv
 refine br_f hO k7 ?_
 conv=>cbv
 refine br_f hO k7 ?_
 conv=>cbv
 refine br_f hO (z1h hO .eql .neq rfl rfl rfl k6) ?_
 conv=>cbv
 refine br_f hO (z1h hO .eql .neq rfl rfl rfl k6) ?_
 conv=>cbv
 refine br_f hO (z1h hO .eql .neq rfl rfl rfl k6) ?_
 conv=>cbv
 refine br_f hO (z1h hO .eql .neq rfl rfl rfl k6) ?_
 conv=>cbv
 refine br_f hO (z1h hO .eql .neq rfl rfl rfl k6) ?_
 conv=>cbv
 refine br_f hO k7 ?_
 conv=>cbv
 refine br_f hO (z1h hO .eql .neq rfl rfl rfl k6) ?_
 conv=>cbv
 refine br_f hO k7 ?_
 conv=>cbv
 exact hL_3 _ _ ⟨false,⟨(by (conv=>lhs;cbv)<;>(subst hO;rfl)),(by (conv=>lhs;cbv)<;>(subst hO;rfl))⟩,h⟩
 conv=>cbv
 refine br_f hO k6 ?_
 conv=>cbv
 refine br_f hO k6 ?_
 conv=>cbv
 refine br_f hO k6 ?_
 conv=>cbv
 refine br_f hO k6 ?_
 conv=>cbv
 refine br_f hO rfl ?_
 conv=>cbv
 refine br_f hO rfl ?_
 conv=>cbv
 refine br_f hO rfl ?_
 conv=>cbv
 refine br_f hO rfl ?_
 conv=>cbv
 refine br_t hO (z1h hO .eql .neq rfl rfl rfl k6) ?_
 conv=>cbv
 refine br_t hO (z1h hO .eql .neq rfl rfl rfl k6) ?_
 conv=>cbv
 refine br_t hO (z1h hO .eql .neq rfl rfl rfl k6) ?_
 conv=>cbv
 refine br_t hO (z1h hO .eql .neq rfl rfl rfl k6) ?_
 conv=>cbv
 refine z0b hO [.shut,.shut] (d_p19 fu O.len hN h) ?_
 intro e Q a b
 conv=>cbv
 refine⟨by subst a hO;rfl,?_⟩
 intro r bs d
 rw [b] at d
 clear a b h
 obtain⟨y19,_,_,⟨rfl,rfl⟩,h⟩:=d
 conv=>cbv
 refine br_t hO (z1h hO .eql .neq rfl rfl rfl k6) ?_
 conv=>cbv
 refine br_f hO rfl ?_
 conv=>cbv
 refine br_t hO (z1h hO .eql .neq rfl rfl rfl k6) ?_
 conv=>cbv
 refine br_f hO rfl ?_
 conv=>cbv
 exact hL_3 _ _ ⟨(!y19),⟨(by (conv=>lhs;cbv)<;>(subst hO;rfl)),(by (conv=>lhs;cbv)<;>(subst hO;rfl))⟩,h⟩
 rintro tm m ⟨j2,hs,h⟩
 unfold p24_3 at h
 obtain⟨rfl,rfl⟩:=hs
 conv=>cbv
 refine br_h hO h (by subst hO;rfl) (fun k2 h=>?_) (fun k2 h=>?_)
 conv=>cbv
 rw [b]
 exact⟨false,_,⟨(by subst hO;rfl),(by subst hO;rfl)⟩,h⟩
 conv=>cbv
 refine z0c hO ?_
 conv=>cbv
 refine z0v hO tiA [1,3] [2000] [] (fun (n:Nat) tm m=>∃ (z3:Int),((tm=frame 0 102 [(1,.p 2000 0 0),(3,.c (.v (.int .i64 z3)))]∧m=⟨[(2000,.blk 0 [.c (.v (.int .i64 x0)),.c (.v (.int .i64 x1)),.c (.v (.int .i64 x2)),.c (.v (.string x3)),.c (.v (.string x4)),.c (.v (.int .i64 x5)),.c (.v (.int .i64 x6)),.c (.v (.string x7)),.c (.sl 3 x8 none),.c (.sl 5 x9 none),.c (.v (.int .i64 x10)),.c (.v (.int .i64 x11)),.c (.v (.string x12)),.c (.sl 3 x13 none),.c (.sl 5 x14 none),.c (.sl 6 x15 none)])],1⟩))∧p24_2L False fu K0 x15 n z3) (fun n=>n) fu ⟨0,⟨(by (conv=>lhs;cbv)<;>(subst hO;rfl)),(by (conv=>lhs;cbv)<;>(subst hO;rfl))⟩,h⟩ ?_
 rintro n1 tm m L ⟨z3,hs,h⟩ hLn1
 (cases n1 with
 | zero=>rw [p24_2L] at h;exact h.elim
 | succ n1 =>
 rw [p24_2L] at h
 unfold p24_2 at h
 obtain⟨rfl,rfl⟩:=hs
 conv=>cbv
 refine br_h hO h (by subst hO;rfl) (fun k3 h=>?_) (fun k3 h=>?_)
 conv=>cbv
 refine z0c hO ?_
 conv=>cbv
 refine z0q hO tiA [1,3,101] [2000] [] (fun tm m=>∃ (j4:Bool),((tm=frame 0 102 [(1,.p 2000 0 0),(3,.c (.v (.int .i64 z3))),(101,.c (.v (.bool j4)))]∧m=⟨[(2000,.blk 0 [.c (.v (.int .i64 x0)),.c (.v (.int .i64 x1)),.c (.v (.int .i64 x2)),.c (.v (.string x3)),.c (.v (.string x4)),.c (.v (.int .i64 x5)),.c (.v (.int .i64 x6)),.c (.v (.string x7)),.c (.sl 3 x8 none),.c (.sl 5 x9 none),.c (.v (.int .i64 x10)),.c (.v (.int .i64 x11)),.c (.v (.string x12)),.c (.sl 3 x13 none),.c (.sl 5 x14 none),.c (.sl 6 x15 none)])],1⟩))∧p24_1 False fu K0 (p24_2L False fu K0 x15 n1) z3 j4) (fun L hL_1=>?_) ?_
 conv=>cbv
 refine and_h h (fun g=>(by subst hO;exact g)) (fun h=>?_)
 refine and_h h (fun g=>(by subst hO;exact g)) (fun h=>?_)
 obtain⟨c5,c6,c7,c8,c9,c10,hr,h⟩:=z0t h
 refine z0p hO _ (by subst hO;exact hr) ?_
 clear hr
 conv=>cbv
 refine br_h hO h (by subst hO;rfl) (fun k5 h=>?_) (fun k5 h=>?_)
 conv=>cbv
 refine br_t hO k5 ?_
 conv=>cbv
 refine br_t hO k5 ?_
 conv=>cbv
 refine br_t hO k5 ?_
 conv=>cbv
 refine br_t hO k5 ?_
 conv=>cbv
 refine br_t hO k5 ?_
 conv=>cbv
 refine br_t hO k5 ?_
 conv=>cbv
 refine br_t hO k5 ?_
 conv=>cbv
 refine br_t hO k5 ?_
 conv=>cbv
 exact hL_1 _ _ ⟨true,⟨(by (conv=>lhs;cbv)<;>(subst hO;rfl)),(by (conv=>lhs;cbv)<;>(subst hO;rfl))⟩,h⟩
 conv=>cbv
 refine br_f hO k5 ?_
 conv=>cbv
 refine br_f hO k5 ?_
 conv=>cbv
 refine br_f hO k5 ?_
 conv=>cbv
 refine and_h h (fun g=>(by subst hO;exact g)) (fun h=>?_)
 refine and_h h (fun g=>(by subst hO;exact g)) (fun h=>?_)
 obtain⟨c11,c12,c13,c14,c15,c16,hr,h⟩:=z0t h
 refine z0p hO _ (by subst hO;exact hr) ?_
 clear hr
 conv=>cbv
 refine br_f hO k5 ?_
 conv=>cbv
 refine br_f hO k5 ?_
 conv=>cbv
 refine br_f hO k5 ?_
 conv=>cbv
 refine z0b hO [.shut] (d_p16 fu O.len hN h) ?_
 intro e Q a b
 conv=>cbv
 refine⟨by subst a hO;rfl,?_⟩
 intro r bs d
 rw [b] at d
 clear a b h
 obtain⟨y17,_,⟨rfl,rfl⟩,h⟩:=d
 conv=>cbv
 refine br_f hO k5 ?_
 conv=>cbv
 refine br_f hO k5 ?_
 conv=>cbv
 exact hL_1 _ _ ⟨(!y17),⟨(by (conv=>lhs;cbv)<;>(subst hO;rfl)),(by (conv=>lhs;cbv)<;>(subst hO;rfl))⟩,h⟩
 rintro tm m ⟨j4,hs,h⟩
 unfold p24_1 at h
 obtain⟨rfl,rfl⟩:=hs
 conv=>cbv
 refine br_h hO h (by subst hO;rfl) (fun k4 h=>?_) (fun k4 h=>?_)
 conv=>cbv
 rw [b]
 exact⟨false,_,⟨(by subst hO;rfl),(by subst hO;rfl)⟩,h⟩
 conv=>cbv
 refine z0c hO ?_
 conv=>cbv
 exact hLn1 n1 _ _ (Nat.lt_succ_self n1) ⟨z0d .add .i64 z3 1,⟨(by (conv=>lhs;cbv)<;>(subst hO;rfl)),(by (conv=>lhs;cbv)<;>(subst hO;rfl))⟩,h⟩
 conv=>cbv
 rw [b]
 exact⟨true,_,⟨(by subst hO;rfl),(by subst hO;rfl)⟩,h⟩)
theorem cmp_lss (a b:Int):z0a .lss a b=decide (a < b):=rfl
theorem k2k (a b:Int):z0a .gtr a b=decide (a > b):=rfl
section
variable {ρ:Type} {P:Prop} {p q:(Bool→ρ)→ρ}
theorem BO.no (h:∀ K,p K=K false):BO p P:=⟨false,h,fun h=>by cases h⟩
theorem BO.eq (h:∀ K,p K=q K) (hq:BO q P):BO p P:=by
 obtain⟨b,h1,h2⟩:=hq
 exact⟨b,fun K=>(h K).trans (h1 K),h2⟩
theorem BO.imp {Q:Prop} (hq:BO p P) (h:P→Q):BO p Q:=by
 obtain⟨b,h1,h2⟩:=hq
 exact⟨b,h1,fun hb=>h (h2 hb)⟩
theorem BO.cond {c:Bool} (hp:∀ K,p K=K false) (hq:c=false→BO q P):BO (fun K=>bif c then p K else q K) P:=by
 cases c with
 | true=>exact .no fun K=>by rw [cond_true];exact hp K
 | false=>exact BO.eq (fun K=>by rw [cond_false]) (hq rfl)
theorem BO.call {c:(Bool→ρ)→ρ} {A:Prop} (hc:BO c A) (hp:∀ K,p K=K false) (hq:A→BO q P):BO (fun K=>c (fun y=>bif (!y) then p K else q K)) P:=by
 obtain⟨b,h1,h2⟩:=hc
 cases b with
 | true=>exact BO.eq (fun K=>by rw [h1,Bool.not_true,cond_false]) (hq (h2 rfl))
 | false=>exact .no fun K=>by rw [h1,Bool.not_false,cond_true];exact hp K
theorem BO.app {c:Bool} {r:Bool→(Bool→ρ)→ρ} (hp:∀ K,r true K=K false) (hq:c=false→BO (r false) P):BO (fun K=>r c K) P:=by
 cases c with
 | true=>exact .no hp
 | false=>exact hq rfl
end
def Dc.good (d:Dc):Prop:=(1≤d.k∧d.k≤5)∧(0≤d.pa∧d.pa≤1073741824)∧(0≤d.ct∧d.ct≤1073741824)∧(d.nm.size≤24∧d.fam.size≤24)∧(d.ty.good 100∧d.ty.parts≤2000) ∧
 ((d.k=2∧d.val.good 100∧d.val.parts≤2000)∨(d.k≠2∧isZ d.val=true))∧d.cs.length≤5∧∀ c ∈ d.cs,c.1.size≤24∧c.2.good 100∧c.2.parts≤2000
theorem mayCts {ρ:Type} (fail:ρ) (fu:Nat) (hf:5000≤fu) (l:List (ByteArray × Tm)) (hl:l.length≤5):BO (fun K:Bool→ρ=>p24_3 fail fu K (l.map ctRow) false) (∀ c ∈ l,c.1.size≤24∧c.2.good 100∧c.2.parts≤2000):=by
 have loop:∀ (r i j:Nat),i + r=l.length→r < j→BO (fun K:Bool→ρ=>p24_2L fail fu K (l.map ctRow) j ((i:Nat):Int)) (∀ c ∈ l.drop i,c.1.size≤24∧c.2.good 100∧c.2.parts≤2000):=by
  intro r
  induction r with
  | zero =>
   intro i j hi hj
   obtain⟨j,rfl⟩:∃ j',j=j' + 1:=⟨j - 1,by omega⟩
   refine⟨true,fun K=>?_,fun _ x hx=>?_⟩
   ·dsimp only;rw [p24_2L,p24_2,List.length_map,lssF (by omega),cond_false]
   ·rw [List.drop_eq_nil_of_le (by omega)] at hx;simp at hx
  | succ r ihr =>
   intro i j hi hj
   obtain⟨j,rfl⟩:∃ j',j=j' + 1:=⟨j - 1,by omega⟩
   have hlt:i < l.length:=by omega
   have hdr:l.drop i=l[i] :: l.drop (i + 1):=List.drop_eq_getElem_cons hlt
   have h2:∀ K:Bool→ρ,p24_2L fail fu K (l.map ctRow) (j + 1) ((i:Nat):Int)=bif z0a .gtr ((l[i].1.size:Nat):Int) 24 then K false else p16 fail fu (fun y=>bif (!y) then K false else p24_2L fail fu K (l.map ctRow) j ((i + 1:Nat):Int)) l[i].2.k l[i].2.n l[i].2.nm (Lv.rows l[i].2.ls) (Tm.rows l[i].2.args):=fun K=>by
    rw [p24_2L,p24_2,List.length_map,lssT (by omega),cond_true,gd_y (by omega),gd_y (by omega),w8j fail l i hlt]
    by_cases c:l[i].1.size≤24
    ·rw [gtrF (by omega),cond_false,cond_false,gd_y (by omega),gd_y (by omega),w8j fail l i hlt]
     congr 1
     funext y
     rw [p24_1,addZ (by omega) (by omega)];rfl
    ·rw [gtrT (by omega),cond_true,cond_true,p24_1,cond_true]
   refine BO.eq h2 (BO.cond (fun _=>rfl) fun c=>BO.call (c:=fun K=>p16 fail fu K l[i].2.k l[i].2.n l[i].2.nm (Lv.rows l[i].2.ls) (Tm.rows l[i].2.args)) (z5p fail fu (by omega) l[i].2) (fun _=>rfl) fun ht=>(ihr (i + 1) j (by omega) (by omega)).imp fun hr x hx=>?_)
   rw [hdr] at hx
   rcases List.mem_cons.1 hx with rfl | hx
   ·rw [k2k] at c
    have:=of_decide_eq_false c
    exact⟨by omega,ht⟩
   ·exact hr x hx
 refine BO.eq (fun K=>?_) ((loop l.length 0 fu (by omega) (by omega)).imp fun h=>by rwa [List.drop_zero] at h)
 rw [p24_3,cond_false];rfl
theorem w9m {ρ:Type} (fail:ρ) (fu:Nat) (hf:5000≤fu) (d:Dc):BO (fun K:Bool→ρ=>p24 fail fu K d.k d.pa d.ct d.nm d.fam d.ty.k d.ty.n d.ty.nm (Lv.rows d.ty.ls) (Tm.rows d.ty.args) d.val.k d.val.n d.val.nm (Lv.rows d.val.ls) (Tm.rows d.val.args) (d.cs.map ctRow)) d.good:=by
 have bad4:∀ K:Bool→ρ,p24_4 fail fu K d.k d.val.k d.val.n d.val.nm (Lv.rows d.val.ls) (Tm.rows d.val.args) (d.cs.map ctRow) true=K false:=fun K=>by rw [p24_4,cond_true]
 have bad3:∀ K:Bool→ρ,p24_3 fail fu K (d.cs.map ctRow) true=K false:=fun K=>by rw [p24_3,cond_true]
 have h4:d.cs.length≤5→BO (fun K:Bool→ρ=>p24_4 fail fu K d.k d.val.k d.val.n d.val.nm (Lv.rows d.val.ls) (Tm.rows d.val.args) (d.cs.map ctRow) false) (((d.k=2∧d.val.good 100∧d.val.parts≤2000)∨(d.k≠2∧isZ d.val=true))∧∀ c ∈ d.cs,c.1.size≤24∧c.2.good 100∧c.2.parts≤2000):=fun hl=>by
  by_cases k2:d.k=2
  ·refine BO.eq (q:=fun K=>p16 fail fu (fun y=>bif (!y) then p24_3 fail fu K (d.cs.map ctRow) true else p24_3 fail fu K (d.cs.map ctRow) false) d.val.k d.val.n d.val.nm (Lv.rows d.val.ls) (Tm.rows d.val.args)) (fun K=>by rw [p24_4,cond_false,eqlT k2,cond_true]) ?_
   exact BO.call (c:=fun K=>p16 fail fu K d.val.k d.val.n d.val.nm (Lv.rows d.val.ls) (Tm.rows d.val.args)) (z5p fail fu (by omega) d.val) bad3 fun hv=>(mayCts fail fu hf d.cs hl).imp fun h=>⟨.inl ⟨k2,hv⟩,h⟩
  ·refine BO.eq (q:=fun K=>p24_3 fail fu K (d.cs.map ctRow) (!isZ d.val)) (fun K=>by rw [p24_4,cond_false,eqlF k2,cond_false,k0p fail fu (by omega)]) ?_
   refine BO.app (r:=fun c K=>p24_3 fail fu K (d.cs.map ctRow) c) bad3 fun hz=>(mayCts fail fu hf d.cs hl).imp fun h=>⟨.inr ⟨k2,by simpa using hz⟩,h⟩
 unfold p24
 refine BO.cond bad4 fun h1=>BO.cond bad4 fun h2=>BO.cond bad4 fun h3=>BO.cond bad4 fun h5=>BO.cond bad4 fun h6=>BO.cond bad4 fun h7=>BO.cond bad4 fun h8=>BO.cond bad4 fun h9 =>
  BO.call (c:=fun K=>p16 fail fu K d.ty.k d.ty.n d.ty.nm (Lv.rows d.ty.ls) (Tm.rows d.ty.args)) (z5p fail fu (by omega) d.ty) bad4 fun ht =>
  BO.app (r:=fun c K=>p24_4 fail fu K d.k d.val.k d.val.n d.val.nm (Lv.rows d.val.ls) (Tm.rows d.val.args) (d.cs.map ctRow) c) bad4 fun hl=>?_
 rw [cmp_lss] at h1 h3 h6
 rw [k2k] at h2 h5 h7 h8 h9 hl
 rw [List.length_map] at hl
 have h1:=of_decide_eq_false h1
 have h2:=of_decide_eq_false h2
 have h3:=of_decide_eq_false h3
 have h5:=of_decide_eq_false h5
 have h6:=of_decide_eq_false h6
 have h7:=of_decide_eq_false h7
 have h8:=of_decide_eq_false h8
 have h9:=of_decide_eq_false h9
 have hl:=of_decide_eq_false hl
 exact (h4 (by omega)).imp fun h=>⟨⟨by omega,by omega⟩,⟨by omega,by omega⟩,⟨by omega,by omega⟩,⟨by omega,by omega⟩,ht,h.1,by omega,h.2⟩
theorem isZ_sz {t:Tm} (h:isZ t=true):t.sz=1:=by
 rw [isZ_iff] at h;subst h;rfl
theorem Dc.good_sz {d:Dc} (h:d.good):d.sz≤9000000∧d.enc.length≤500000000:=by
 obtain⟨_,_,_,⟨h1,h2⟩,⟨h3,h4⟩,h5,h6,h7⟩:=h
 have hcts:∀ l:List (ByteArray × Tm),(∀ c ∈ l,c.1.size≤24∧c.2.good 100∧c.2.parts≤2000)→ctsSz l≤1200025 * l.length∧(ctsB l).length≤48000034 * l.length:=by
  intro l
  induction l with
  | nil=>intro _;exact⟨Nat.le_refl _,Nat.le_refl _⟩
  | cons c l ih =>
   intro hc
   obtain⟨i1,i2⟩:=ih fun x hx=>hc x (by simp [hx])
   obtain⟨c1,c2,c3⟩:=hc c (by simp)
   have c4:=Go.Proofs.Ythncmjlcmlmnmaa.good_sz 100 c.2 c2
   have c5:=Tm.enc_sz c.2 (by omega)
   have c6:=z1b (show c.1.size < 2 ^ 64 by omega)
   simp only [ctsSz,ctsB,List.length_append,List.length_cons,txB,z2f];omega
 obtain⟨g1,g2⟩:=hcts d.cs h7
 have t1:=Go.Proofs.Ythncmjlcmlmnmaa.good_sz 100 d.ty h3
 have t2:=Tm.enc_sz d.ty (by omega)
 have v1:d.val.sz≤1200000:=by
  rcases h5 with ⟨_,v2,v3⟩ | ⟨_,v2⟩
  ·have:=Go.Proofs.Ythncmjlcmlmnmaa.good_sz 100 d.val v2;omega
  ·rw [isZ_sz v2];omega
 have v2:=Tm.enc_sz d.val (by omega)
 have n3:((numsB [d.k,d.pa,d.ct]).length)≤30:=z9u [d.k,d.pa,d.ct]
 have n4:=z1b (show d.nm.size < 2 ^ 64 by omega)
 have n5:=z1b (show d.fam.size < 2 ^ 64 by omega)
 have n6:=z1b (show d.cs.length < 2 ^ 64 by omega)
 have hv1:(varB 1).length≤10:=z1b (by omega)
 have hv0:(varB 0).length≤10:=z1b (by omega)
 have hif:(if d.k=2 then varB 1++d.val.enc else varB 0).length≤10 + d.val.enc.length:=by
  split
  ·rw [List.length_append];omega
  ·omega
 constructor
 ·simp only [Dc.sz];omega
 ·simp only [Dc.enc,List.length_append,txB,z2f];omega
theorem light_eq {ρ:Type} (fail:ρ) (fu:Nat) (hf:300≤fu) (l:Lv):BO (fun K:Bool→ρ=>p23 fail fu K (List.take 1 [[CV.v (.int .i64 l.k),CV.v (.int .i64 l.n),CV.sl 3 (Lv.rows l.args) none]])) (l.good 32∧l.parts≤64):=by
 obtain⟨b,h1,h2⟩:=lmay fail fu (by omega) l
 dsimp only at h1
 obtain⟨m,hm⟩:∃ m,fu=m + 2:=⟨fu - 2,by omega⟩
 have hl:(List.take 1 [[CV.v (.int .i64 l.k),CV.v (.int .i64 l.n),CV.sl 3 (Lv.rows l.args) none]])=Lv.rows [l]:=by rw [Lv.rows,Lv.rows,Lv.row_eq];rfl
 have h3:∀ K:Bool→ρ,p23 fail fu K (Lv.rows [l])=bif (!b) then K false else K true:=fun K=>by
  have e:p23 fail fu K (Lv.rows [l])=p23_1L fail fu K (Lv.rows [l]) (m + 2) 0:=by rw [p23,hm]
  have g0:∀ q:Int→Int→EL→ρ,z0o fail (List.getD (Lv.rows [l]) (((0:Nat):Int)).toNat []) q=q l.k l.n (Lv.rows l.args):=fun q=>z4v fail [l] 0 (by simp) q
  rw [e,p23_1L,p23_1,Lv.rows_len,lssT (by simp),cond_true,gd_y (by omega),gd_y (by simp),show (0:Int)=((0:Nat):Int) from rfl,g0,h1]
  cases b with
  | false=>rfl
  | true=>rw [Bool.not_true,cond_false,cond_false,addZ (by omega) (by omega),p23_1L,p23_1,Lv.rows_len,lssF (by simp),cond_false]
 cases b with
 | true=>exact⟨true,fun K=>by dsimp only;rw [hl,h3];rfl,h2⟩
 | false=>exact⟨false,fun K=>by dsimp only;rw [hl,h3];rfl,fun h=>by cases h⟩
theorem tv_er:∀ (bs:List UInt8) (i:Nat) (e:Int) (m:List UInt8),tv i bs=.error e→e≠2→tv i (bs++m)=.error e
 | [],_,_,_,h,he=>by simp only [tv] at h;injection h with h;exact absurd h.symm he
 | c :: cs,i,e,m,h,he=>by
  simp only [tv,List.cons_append] at h ⊢
  split at h
  ·rename_i h9;rw [if_pos h9];exact h
  ·rename_i h9
   rw [if_neg h9]
   split at h
   ·rename_i h128
    rw [if_pos h128]
    split at h
    ·cases h
    ·rename_i e' h'
     injection h with h;subst h
     rw [tv_er cs (i + 1) _ m h' he]
   ·rename_i h128
    rw [if_neg h128]
    split at h
    ·rename_i hz;rw [if_pos hz];exact h
    ·cases h
theorem w7l {bs:List UInt8} {e:Int} (m:List UInt8) (h:rdV bs=.error e) (he:e≠2):rdV (bs++m)=.error e:=by
 unfold rdV at h ⊢;split at h
 ·cases h
 ·rename_i e' h';injection h with h;subst h;rw [tv_er _ _ _ m h' he]
theorem z7v {lo hi:Nat} {bs:List UInt8} {e:Int} (m:List UInt8) (h:z2c lo hi bs=.error e) (he:e≠2):z2c lo hi (bs++m)=.error e:=by
 unfold z2c at h ⊢;split at h
 ·rename_i v r h'
  rw [z4m m h']
  dsimp only
  split at h
  ·rename_i hc;rw [if_pos hc];exact h
  ·cases h
 ·rename_i e' h';injection h with h;subst h;rw [w7l m h' he]
theorem z6y {bs:List UInt8} {e:Int} (m:List UInt8) (h:rdNum bs=.error e) (he:e≠2):rdNum (bs++m)=.error e:=by
 unfold rdNum at h ⊢;split at h
 ·rename_i v r h'
  rw [z4m m h']
  dsimp only
  split at h
  ·rename_i hc;rw [if_pos hc];exact h
  ·cases h
 ·rename_i e' h';injection h with h;subst h;rw [w7l m h' he]
theorem w3x {mx:Nat} {bs:List UInt8} {e:Int} (m:List UInt8) (h:rdTxt mx bs=.error e) (he:e≠2):rdTxt mx (bs++m)=.error e:=by
 unfold rdTxt at h ⊢;split at h
 ·rename_i v r h'
  rw [z4m m h']
  dsimp only
  split at h
  ·rename_i hc;rw [if_pos hc];exact h
  ·split at h
   ·injection h with h;exact absurd h.symm he
   ·cases h
 ·rename_i e' h';injection h with h;subst h;rw [w7l m h' he]
theorem z7c {α:Type} {f:Nat→List UInt8→Except Int (α × List UInt8 × Nat)} (m:List UInt8) (hf:∀ p bs a r q,f p bs=.ok (a,r,q)→f p (bs++m)=.ok (a,r++m,q)) (he:∀ p bs e,f p bs=.error e→e≠2→f p (bs++m)=.error e) :
  ∀ (n p:Nat) (bs:List UInt8) (e:Int),many f n p bs=.error e→e≠2→many f n p (bs++m)=.error e
 | 0,p,bs,e,h,_=>by simp only [many] at h;cases h
 | n + 1,p,bs,e,h,h2=>by
  simp only [many] at h ⊢
  split at h
  ·rename_i e' ha;injection h with h;subst h;rw [he _ _ _ ha h2]
  ·rename_i a bs1 p1 ha
   rw [hf _ _ _ _ _ ha]
   dsimp only
   split at h
   ·rename_i e' hb;injection h with h;subst h;rw [z7c m hf he n p1 bs1 _ hb h2]
   ·cases h
theorem w7n (m:List UInt8):∀ (left p:Nat) (bs:List UInt8) (e:Int),rdLv left p bs=.error e→e≠2→rdLv left p (bs++m)=.error e
 | 0,p,bs,e,h,_=>by simp only [rdLv] at h ⊢;exact h
 | left + 1,p,bs,e,h,h2=>by
  simp only [rdLv] at h ⊢
  split at h
  ·rename_i hc;rw [if_pos hc];exact h
  ·rename_i hc
   rw [if_neg hc]
   split at h
   ·rename_i e' hk;injection h with h;subst h;rw [z7v m hk h2]
   ·rename_i k bs1 hk
    rw [z3i m hk]
    dsimp only
    split at h
    ·rename_i k4
     rw [if_pos k4]
     split at h
     ·rename_i e' hn;injection h with h;subst h;rw [z6y m hn h2]
     ·rename_i n bs2 hn
      rw [z3c m hn]
      dsimp only
      split at h
      ·rename_i h4;rw [if_pos h4];exact h
      ·cases h
    ·rename_i k4
     rw [if_neg k4]
     split at h
     ·rename_i e' hm;injection h with h;subst h;rw [z7c m (fun p bs a r q h=>z9n m left p bs a r q h) (fun p bs e h h2=>w7n m left p bs e h h2) _ _ _ _ hm h2]
     ·cases h
theorem z8i (m:List UInt8) (p:Nat) (bs:List UInt8) (e:Int) (h:z0x p bs=.error e) (h2:e≠2):z0x p (bs++m)=.error e:=by
 unfold z0x z1n at h ⊢
 cases hx:rdLv 32 0 bs with
 | error e'=>rw [hx] at h;injection h with h;subst h;rw [w7n m _ _ _ _ hx h2]
 | ok x=>obtain⟨l,r,q⟩:=x;rw [hx] at h;cases h
theorem w7m (m:List UInt8):∀ (left p:Nat) (bs:List UInt8) (e:Int),rdTm left p bs=.error e→e≠2→rdTm left p (bs++m)=.error e
 | 0,p,bs,e,h,_=>by simp only [rdTm] at h ⊢;exact h
 | left + 1,p,bs,e,h,h2=>by
  simp only [rdTm] at h ⊢
  split at h
  ·rename_i hc;rw [if_pos hc];exact h
  ·rename_i hc
   rw [if_neg hc]
   split at h
   ·rename_i e' hk;injection h with h;subst h;rw [z7v m hk h2]
   ·rename_i k bs1 hk
    rw [z3i m hk]
    dsimp only
    split at h
    ·rename_i k0
     rw [if_pos k0]
     split at h
     ·rename_i e' hn;injection h with h;subst h;rw [z6y m hn h2]
     ·cases h
    ·rename_i k0
     rw [if_neg k0]
     split at h
     ·rename_i k1
      rw [if_pos k1]
      split at h
      ·rename_i e' hm;injection h with h;subst h;rw [z7c m (z2z m) (z8i m) _ _ _ _ hm h2]
      ·cases h
     ·rename_i k1
      rw [if_neg k1]
      split at h
      ·rename_i k2
       rw [if_pos k2]
       split at h
       ·rename_i e' hs;injection h with h;subst h;rw [w3x m hs h2]
       ·rename_i s bs2 hs
        rw [z7t m hs]
        dsimp only
        split at h
        ·rename_i e' hn;injection h with h;subst h;rw [z6y m hn h2]
        ·rename_i n bs3 hn
         rw [z3c m hn]
         dsimp only
         split at h
         ·rename_i hc2;rw [if_pos hc2];exact h
         ·rename_i hc2
          rw [if_neg hc2]
          split at h
          ·rename_i e' hm;injection h with h;subst h;rw [z7c m (z2z m) (z8i m) _ _ _ _ hm h2]
          ·cases h
      ·rename_i k2
       rw [if_neg k2]
       split at h
       ·rename_i e' hm;injection h with h;subst h;rw [z7c m (fun p bs a r q h=>z9m m left p bs a r q h) (fun p bs e h h2=>w7m m left p bs e h h2) _ _ _ _ hm h2]
       ·cases h
theorem w9i {bs:List UInt8} {e:Int} (m:List UInt8) (h:z1c bs=.error e) (h2:e≠2):z1c (bs++m)=.error e:=by
 unfold z1c at h ⊢
 cases hx:rdTm 100 0 bs with
 | error e'=>rw [hx] at h;injection h with h;subst h;rw [w7m m _ _ _ _ hx h2]
 | ok x=>obtain⟨l,r,q⟩:=x;rw [hx] at h;cases h
structure Goes {α:Type} (f:List UInt8→Except Int (α × List UInt8)):Prop where
 more:∀ bs a r m,f bs=.ok (a,r)→f (bs++m)=.ok (a,r++m)
 err:∀ bs e m,f bs=.error e→e≠2→f (bs++m)=.error e
theorem Goes.short {α:Type} {f:List UInt8→Except Int (α × List UInt8)} (hf:Goes f) {E:List UInt8} {a:α} (h:f E=.ok (a,[])) {q:Nat} (hq:q < E.length):f (E.take q)=.error 2:=by
 have hE:E.take q++E.drop q=E:=List.take_append_drop q E
 have hne:E.drop q≠[]:=fun h'=>by have:=congrArg List.length h';rw [List.length_drop] at this;simp at this;omega
 cases hx:f (E.take q) with
 | ok x =>
  obtain⟨b,r⟩:=x
  have:=hf.more _ _ _ (E.drop q) hx
  rw [hE,h] at this
  injection this with this;injection this with _ this
  exact absurd (List.append_eq_nil_iff.1 this.symm).2 hne
 | error e =>
  by_cases he:e=2
  ·rw [he]
  ·have:=hf.err _ _ (E.drop q) hx he
   rw [hE,h] at this
   cases this
def bd {α β:Type} (f:List UInt8→Except Int (α × List UInt8)) (g:α→List UInt8→Except Int (β × List UInt8)) (bs:List UInt8):Except Int (β × List UInt8):=match f bs with
 | .error e=>.error e
 | .ok (a,r)=>g a r
def rt {α:Type} (a:α) (bs:List UInt8):Except Int (α × List UInt8):=.ok (a,bs)
theorem Goes.rt {α:Type} (a:α):Goes (rt a):=⟨fun bs b r m h=>by unfold Go.Proofs.Ythncmjlcmlmnmaa.rt at h ⊢;injection h with h;injection h with h1 h2;subst h1 h2;rfl,fun bs e m h=>by unfold Go.Proofs.Ythncmjlcmlmnmaa.rt at h;cases h⟩
theorem Goes.no {α:Type} (e:Int):Goes (α:=α) (fun _=>.error e):=⟨fun bs b r m h=>(by cases h),fun bs e' m h _=>h⟩
theorem Goes.bd {α β:Type} {f:List UInt8→Except Int (α × List UInt8)} {g:α→List UInt8→Except Int (β × List UInt8)} (hf:Goes f) (hg:∀ a,Goes (g a)):Goes (bd f g):=by
 refine⟨fun bs b r m h=>?_,fun bs e m h h2=>?_⟩
 ·unfold Go.Proofs.Ythncmjlcmlmnmaa.bd at h ⊢
  cases hx:f bs with
  | error e=>rw [hx] at h;cases h
  | ok x=>obtain⟨a,r1⟩:=x;rw [hx] at h;rw [hf.more _ _ _ m hx];exact (hg a).more _ _ _ m h
 ·unfold Go.Proofs.Ythncmjlcmlmnmaa.bd at h ⊢
  cases hx:f bs with
  | error e'=>rw [hx] at h;injection h with h;subst h;rw [hf.err _ _ m hx h2]
  | ok x=>obtain⟨a,r1⟩:=x;rw [hx] at h;rw [hf.more _ _ _ m hx];exact (hg a).err _ _ m h h2
theorem Goes.ite {α:Type} {c:Prop} [Decidable c] {f g:List UInt8→Except Int (α × List UInt8)} (hf:Goes f) (hg:Goes g):Goes (fun bs=>if c then f bs else g bs):=by
 by_cases h:c
 ·simpa only [if_pos h] using hf
 ·simpa only [if_neg h] using hg
theorem k1w (lo hi:Nat):Goes (z2c lo hi):=⟨fun _ _ _ m h=>z3i m h,fun _ _ m h h2=>z7v m h h2⟩
theorem w2r:Goes rdNum:=⟨fun _ _ _ m h=>z3c m h,fun _ _ m h h2=>z6y m h h2⟩
theorem w2q (mx:Nat):Goes (rdTxt mx):=⟨fun _ _ _ m h=>z7t m h,fun _ _ m h h2=>w3x m h h2⟩
theorem goes_term:Goes z1c:=⟨fun _ _ _ m h=>w6d m h,fun _ _ m h h2=>w9i m h h2⟩
theorem rdV_goes:Goes rdV:=⟨fun _ _ _ m h=>z4m m h,fun _ _ m h h2=>w7l m h h2⟩
def rdCtN:Nat→List UInt8→Except Int (List (ByteArray × Tm) × List UInt8)
 | 0=>rt []
 | n + 1=>bd (rdTxt 24) fun s=>bd z1c fun t=>bd (rdCtN n) fun l=>rt ((⟨s.toArray⟩,t) :: l)
theorem w8b:∀ n,Goes (rdCtN n)
 | 0=>Goes.rt []
 | n + 1=>Goes.bd (w2q 24) fun _=>Goes.bd goes_term fun _=>Goes.bd (w8b n) fun _=>Goes.rt _
theorem ctN_eq:∀ (n p:Nat) (bs:List UInt8),rdCtN n bs=match many rdCt n p bs with
  | .error e=>.error e
  | .ok (l,r,_)=>.ok (l,r)
 | 0,p,bs=>rfl
 | n + 1,p,bs=>by
  simp only [rdCtN,many,bd,rt,rdCt]
  cases rdTxt 24 bs with
  | error e=>rfl
  | ok x =>
   obtain⟨s,r⟩:=x
   dsimp only
   cases z1c r with
   | error e=>rfl
   | ok y =>
    obtain⟨t,r2⟩:=y
    dsimp only
    rw [ctN_eq n p r2]
    cases many rdCt n p r2 with
    | error e=>rfl
    | ok z=>obtain⟨l,r3,q⟩:=z;rfl
def w1g (k:Nat):List UInt8→Except Int (Tm × List UInt8):=bd rdV fun v bs=>if 1 < v∨((v=1) ↔ ¬ (k=2)) then .error 5 else if v=1 then z1c bs else rt tm0 bs
theorem goes_val (k:Nat):Goes (w1g k):=Goes.bd rdV_goes fun _=>Goes.ite (Goes.no 5) (Goes.ite goes_term (Goes.rt tm0))
def w2g:List UInt8→Except Int (Dc × List UInt8) :=
 bd (z2c 1 5) fun k=>bd rdNum fun pa=>bd rdNum fun ct=>bd (rdTxt 24) fun nm=>bd (rdTxt 24) fun fam=>bd z1c fun ty=>bd (w1g k) fun val=>bd rdNum fun n bs=>if 5 < n then .error 3 else bd (rdCtN n) (fun cs=>rt ⟨(k:Nat),(pa:Nat),(ct:Nat),⟨nm.toArray⟩,⟨fam.toArray⟩,ty,val,cs⟩) bs
theorem goes_decl2:Goes w2g:=Goes.bd (k1w 1 5) fun _=>Goes.bd w2r fun _=>Goes.bd w2r fun _=>Goes.bd (w2q 24) fun _=>Goes.bd (w2q 24) fun _=>Goes.bd goes_term fun _=>Goes.bd (goes_val _) fun _=>Goes.bd w2r fun _=>Goes.ite (Goes.no 3) (Goes.bd (w8b _) fun _=>Goes.rt _)
theorem w2v (bs:List UInt8):z5b bs=w2g bs:=by
 unfold z5b w2g bd
 cases z2c 1 5 bs with
 | error e=>rfl
 | ok x =>
 obtain⟨k,b1⟩:=x
 dsimp only [rdD2,bd]
 cases rdNum b1 with
 | error e=>rfl
 | ok x =>
 obtain⟨pa,b2⟩:=x
 dsimp only [rdD3]
 cases rdNum b2 with
 | error e=>rfl
 | ok x =>
 obtain⟨ct,b3⟩:=x
 dsimp only [rdD4]
 cases rdTxt 24 b3 with
 | error e=>rfl
 | ok x =>
 obtain⟨nm,b4⟩:=x
 dsimp only [rdD5]
 cases rdTxt 24 b4 with
 | error e=>rfl
 | ok x =>
 obtain⟨fam,b5⟩:=x
 dsimp only [rdD6]
 cases z1c b5 with
 | error e=>rfl
 | ok x =>
 obtain⟨ty,b6⟩:=x
 dsimp only [w1h]
 have hv:w1g k b6=rdVal k b6:=by
  unfold w1g rdVal bd
  cases rdV b6 with
  | error e=>rfl
  | ok x=>rfl
 rw [hv]
 cases rdVal k b6 with
 | error e=>rfl
 | ok x =>
 obtain⟨val,b7⟩:=x
 dsimp only [rdCts]
 cases rdNum b7 with
 | error e=>rfl
 | ok x =>
 obtain⟨n,b8⟩:=x
 dsimp only
 by_cases h5:5 < n
 ·rw [if_pos h5,if_pos h5]
 ·rw [if_neg h5,if_neg h5,ctN_eq n 0 b8]
  cases many rdCt n 0 b8 with
  | error e=>rfl
  | ok z=>obtain⟨l,r3,q⟩:=z;rfl
theorem bd_ok {α β:Type} {f:List UInt8→Except Int (α × List UInt8)} {g:α→List UInt8→Except Int (β × List UInt8)} {bs r:List UInt8} {a:α} (h:f bs=.ok (a,r)):bd f g bs=g a r:=by unfold bd;rw [h]
theorem w8k:∀ (l:List (ByteArray × Tm)) (r:List UInt8),(∀ c ∈ l,c.1.size≤24∧c.2.good 100∧c.2.parts≤2000)→rdCtN l.length (ctsB l++r)=.ok (l,r)
 | [],r,_=>rfl
 | a :: l,r,h=>by
  obtain⟨h1,h2,h3⟩:=h a (by simp)
  have e:ctsB (a :: l)++r=txB a.1++(a.2.enc++(ctsB l++r)):=by rw [ctsB];simp only [List.append_assoc]
  rw [e,List.length_cons,rdCtN,bd_ok (z5m 24 a.1 h1 (by omega) _),bd_ok (z3h a.2 h2 h3 _),bd_ok (w8k l r fun c hc=>h c (by simp [hc]))]
  rfl
theorem isZ_eq {t:Tm} (h:isZ t=true):t=tm0:=by
 obtain⟨k,n,s,l,a⟩:=t
 simp only [isZ,Tm.k,Tm.n,Tm.nm,Tm.ls,Tm.args,Bool.and_eq_true,List.length_eq_zero_iff] at h
 obtain⟨h1,h2,h3,h4,h5⟩:=h
 have h1:=of_decide_eq_true h1
 have h2:=of_decide_eq_true h2
 have h3:=of_decide_eq_true h3
 have h4:=of_decide_eq_true h4
 have h5:=of_decide_eq_true h5
 rw [h1,h2,ba_nil h3,h4,h5];rfl
theorem w5e (d:Dc) (hd:d.good) (r:List UInt8):z5b (d.enc++r)=.ok (d,r):=by
 obtain⟨⟨k1,k2⟩,⟨p1,p2⟩,⟨c1,c2⟩,⟨n1,n2⟩,⟨t1,t2⟩,hv,hl,hc⟩:=hd
 obtain⟨k,pa,ct,nm,fam,ty,val,cs⟩:=d
 dsimp only at *
 obtain⟨k,rfl⟩:∃ j:Nat,k=j:=⟨k.toNat,by omega⟩
 obtain⟨pa,rfl⟩:∃ j:Nat,pa=j:=⟨pa.toNat,by omega⟩
 obtain⟨ct,rfl⟩:∃ j:Nat,ct=j:=⟨ct.toNat,by omega⟩
 rw [w2v,w2g]
 have e:Dc.enc ⟨(k:Nat),(pa:Nat),(ct:Nat),nm,fam,ty,val,cs⟩++r=varB k++(varB pa++(varB ct++(txB nm++(txB fam++(ty.enc++((if k=2 then varB 1++val.enc else varB 0)++(varB cs.length++(ctsB cs++r)))))))):=by
  have hif:(if ((k:Nat):Int)=2 then varB 1++val.enc else varB 0)=(if k=2 then varB 1++val.enc else varB 0):=by
   by_cases h:k=2
   ·rw [if_pos h,if_pos (by omega)]
   ·rw [if_neg h,if_neg (by omega)]
  simp only [Dc.enc,z5o,show numsB []=[] from rfl,z2v k (by omega),z2v pa (by omega),z2v ct (by omega),List.append_nil,List.append_assoc,hif]
 rw [e,bd_ok (z6e 1 5 k (by omega) (by omega) (by omega) _),bd_ok (z3d pa (by omega) _),bd_ok (z3d ct (by omega) _),bd_ok (z5m 24 nm n1 (by omega) _),bd_ok (z5m 24 fam n2 (by omega) _),bd_ok (z3h ty t1 t2 _)]
 have hval:w1g k ((if k=2 then varB 1++val.enc else varB 0)++(varB cs.length++(ctsB cs++r)))=.ok (val,varB cs.length++(ctsB cs++r)):=by
  unfold w1g
  rcases hv with ⟨q1,q2,q3⟩ | ⟨q1,q2⟩
  ·have hk:k=2:=by omega
   rw [if_pos hk,List.append_assoc,bd_ok (z6v 1 (by omega) _),if_neg (by rw [hk];omega),if_pos rfl,z3h val q2 q3]
  ·have hk:¬ k=2:=by omega
   rw [if_neg hk,bd_ok (z6v 0 (by omega) _),if_neg (by omega),if_neg (by omega),isZ_eq q2];rfl
 rw [bd_ok hval,bd_ok (z3d cs.length (by omega) _),if_neg (by omega),bd_ok (w8k cs r hc)]
 rfl
theorem w9t (d:Dc) (hd:d.good) {q:Nat} (hq:q < d.enc.length):z5b (d.enc.take q)=.error 2:=by
 have:=w5e d hd []
 rw [List.append_nil,w2v] at this
 rw [w2v];exact goes_decl2.short this hq
theorem w8w (t:Tm) (ht:t.good 100) (hp:t.parts≤2000) {q:Nat} (hq:q < t.enc.length):z1c (t.enc.take q)=.error 2:=by
 have:=z3h t ht hp []
 rw [List.append_nil] at this
 exact goes_term.short this hq
abbrev LK7 (ρ:Type):=Int→Int→EL→EL→Int→Int→Int→ρ
section
variable {ρ:Type} (fail:ρ) (fu:Nat) (all:List UInt8) (hall:all.length≤1099511627776)
section
variable (s:LK7 ρ→EL→Int→Int→Int→Int→ρ)
end
include hall
end
abbrev TK9 (ρ:Type):=Int→Int→ByteArray→EL→EL→EL→Int→Int→Int→ρ
section
variable {ρ:Type} (fail:ρ) (fu:Nat) (all:List UInt8) (hall:all.length≤1099511627776)
section
variable (s:TK9 ρ→EL→Int→Int→Int→Int→ρ)
include hall
end
include hall
end
abbrev DK19 (ρ:Type):=Int→Int→Int→ByteArray→ByteArray→Int→Int→ByteArray→EL→EL→Int→Int→ByteArray→EL→EL→EL→EL→Int→Int→ρ
section
variable {ρ:Type} (fail:ρ) (fu:Nat) (hfu:200≤fu)
variable (K:DK19 ρ) (r:Int→ρ) (hK:∀ e:Int,e≠0→∀ y1 y2 y3 y4 y5 y6 y7 y8 y9 y10 y11 y12 y13 y14 y15 y16 y17 y18,K y1 y2 y3 y4 y5 y6 y7 y8 y9 y10 y11 y12 y13 y14 y15 y16 y17 y18 e=r e)
include hK
variable (all:List UInt8) (hall:all.length≤1099511627776)
include hfu hall
end
def p38_1 {ρ:Type} (fail:ρ) (fu:Nat) (K0:Bool→ρ) (rec1:Int→ρ) (z2:Int) (j3:Bool):ρ :=
 bif j3 then (K0 false) else (rec1 (z0d .add .i64 z2 1))
def p38_2 {ρ:Type} (fail:ρ) (fu:Nat) (K0:Bool→ρ) (rec1:Int→ρ) (x15 x31:EL) (z2:Int):ρ :=
 bif (z0a .lss z2 ((x15.length:Nat):Int)) then (gd ((0:Int)≤z2) fail (gd ((z2:Int) < (x15.length:Nat)) fail (z0l fail (List.getD x15 ((z2:Int).toNat) []) (fun c4 c5 c6 c7 c8 c9=>gd ((0:Int)≤z2) fail (gd ((z2:Int) < (x31.length:Nat)) fail (z0l fail (List.getD x31 ((z2:Int).toNat) []) (fun c10 c11 c12 c13 c14 c15=>bif (z1t .neq c4 c10) then (p38_1 fail fu K0 rec1 z2 true) else (gd ((0:Int)≤z2) fail (gd ((z2:Int) < (x15.length:Nat)) fail (z0l fail (List.getD x15 ((z2:Int).toNat) []) (fun c16 c17 c18 c19 c20 c21=>gd ((0:Int)≤z2) fail (gd ((z2:Int) < (x31.length:Nat)) fail (z0l fail (List.getD x31 ((z2:Int).toNat) []) (fun c22 c23 c24 c25 c26 c27=>p19 fail fu (fun y28=>p38_1 fail fu K0 rec1 z2 (!y28)) c17 c18 c19 c20 c21 c23 c24 c25 c26 c27)))))))))))))) else (K0 true)
def p38_2L {ρ:Type} (fail:ρ) (fu:Nat) (K0:Bool→ρ) (x15 x31:EL):Nat→Int→ρ
 | 0,_=>fail
 | n + 1,z2=>p38_2 fail fu K0 (p38_2L fail fu K0 x15 x31 n) x15 x31 z2
def p38_3 {ρ:Type} (fail:ρ) (fu:Nat) (K0:Bool→ρ) (x15 x31:EL) (j1:Bool):ρ :=
 bif j1 then (K0 false) else (p38_2L fail fu K0 x15 x31 fu 0)
def p38 {ρ:Type} (fail:ρ) (fu:Nat) (K0:Bool→ρ) (x0 x1 x2:Int) (x3 x4:ByteArray) (x5 x6:Int) (x7:ByteArray) (x8 x9:EL) (x10 x11:Int) (x12:ByteArray) (x13 x14 x15:EL) (x16 x17 x18:Int) (x19 x20:ByteArray) (x21 x22:Int) (x23:ByteArray) (x24 x25:EL) (x26 x27:Int) (x28:ByteArray) (x29 x30 x31:EL):ρ :=
 bif (z0a .neq x0 x16) then (p38_3 fail fu K0 x15 x31 true) else (bif (z0a .neq x1 x17) then (p38_3 fail fu K0 x15 x31 true) else (bif (z0a .neq x2 x18) then (p38_3 fail fu K0 x15 x31 true) else (bif (z1t .neq x3 x19) then (p38_3 fail fu K0 x15 x31 true) else (bif (z1t .neq x4 x20) then (p38_3 fail fu K0 x15 x31 true) else (p19 fail fu (fun y29=>bif (!y29) then (p38_3 fail fu K0 x15 x31 true) else (p19 fail fu (fun y30=>bif (!y30) then (p38_3 fail fu K0 x15 x31 true) else (p38_3 fail fu K0 x15 x31 (z0a .neq ((x15.length:Nat):Int) ((x31.length:Nat):Int)))) x10 x11 x12 x13 x14 x26 x27 x28 x29 x30)) x5 x6 x7 x8 x9 x21 x22 x23 x24 x25)))))
end Go.Proofs.Ythncmjlcmlmnmaa
