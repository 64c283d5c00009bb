/- A part of the proof. Conditions: none. -/
import Derived.Test.YtioiigabeoaneaaRQ4
namespace Go.Proofs.Ytioiigabeoaneaa
open Go V
set_option maxRecDepth 100000
set_option maxHeartbeats 4000000
def p43_1 {ρ:Type} (fail:ρ) (fu:Nat) (s_p43:(Int→Int→ByteArray→EL→EL→EL→Int→Int→ρ)→EL→Int→Int→Int→ρ) (K0:Int→Int→ByteArray→EL→EL→EL→Int→Int→ρ) (rec2:EL→Int→Int→EL→Int→ρ) (x2 y4 j9:Int) (j10:ByteArray) (j11:Int) (z15 z22:EL) (z23 z24:Int) (z25:EL) (z26:Int):ρ :=
 bif (z0a .lss z26 j11) then (bif (z0a .neq z23 0) then (K0 y4 j9 j10 z15 z25 z22 z23 z24) else (s_p43 (fun y27 y28 y29 y30 y31 y32 y33 y34=>gd (1≤[[(CV.v (.int .i64 y27)),(CV.v (.int .i64 y28)),(CV.v (.string y29)),(CV.sl 3 y30 none),(CV.sl 5 y31 none)]].length) fail (gd ((z25.length + (List.take 1 [[(CV.v (.int .i64 y27)),(CV.v (.int .i64 y28)),(CV.v (.string y29)),(CV.sl 3 y30 none),(CV.sl 5 y31 none)]]).length) * 80≤35184372088832) fail (rec2 y32 y33 y34 (z25++(List.take 1 [[(CV.v (.int .i64 y27)),(CV.v (.int .i64 y28)),(CV.v (.string y29)),(CV.sl 3 y30 none),(CV.sl 5 y31 none)]])) (z0c .add .i64 z26 1)))) z22 z23 (z0c .add .i64 x2 1) z24)) else (K0 y4 j9 j10 z15 z25 z22 z23 z24)
def p43_1L {ρ:Type} (fail:ρ) (fu:Nat) (s_p43:(Int→Int→ByteArray→EL→EL→EL→Int→Int→ρ)→EL→Int→Int→Int→ρ) (K0:Int→Int→ByteArray→EL→EL→EL→Int→Int→ρ) (x2 y4 j9:Int) (j10:ByteArray) (j11:Int) (z15:EL):Nat→EL→Int→Int→EL→Int→ρ
 | 0,_,_,_,_,_=>fail
 | n + 1,z22,z23,z24,z25,z26=>p43_1 fail fu s_p43 K0 (p43_1L fail fu s_p43 K0 x2 y4 j9 j10 j11 z15 n) x2 y4 j9 j10 j11 z15 z22 z23 z24 z25 z26
def p43_2 {ρ:Type} (fail:ρ) (fu:Nat) (s_p43:(Int→Int→ByteArray→EL→EL→EL→Int→Int→ρ)→EL→Int→Int→Int→ρ) (K0:Int→Int→ByteArray→EL→EL→EL→Int→Int→ρ) (rec1:EL→Int→EL→Int→ρ) (x2 y3 y4 j9:Int) (j10:ByteArray) (j11 j12:Int) (z13:EL) (z14:Int) (z15:EL) (z16:Int):ρ :=
 bif (z0a .lss z16 j12) then (bif (z0a .neq z14 0) then (K0 y4 j9 j10 z15 nilE z13 z14 y3) else (p62 fail fu (fun y17 y18 y19 y20 y21=>gd (1≤[[(CV.v (.int .i64 y17)),(CV.v (.int .i64 y18)),(CV.sl 3 y19 none)]].length) fail (gd ((z15.length + (List.take 1 [[(CV.v (.int .i64 y17)),(CV.v (.int .i64 y18)),(CV.sl 3 y19 none)]]).length) * 40≤35184372088832) fail (rec1 y20 y21 (z15++(List.take 1 [[(CV.v (.int .i64 y17)),(CV.v (.int .i64 y18)),(CV.sl 3 y19 none)]])) (z0c .add .i64 z16 1)))) z13 z14)) else (p43_1L fail fu s_p43 K0 x2 y4 j9 j10 j11 z15 fu z13 z14 y3 nilE 0)
def p43_2L {ρ:Type} (fail:ρ) (fu:Nat) (s_p43:(Int→Int→ByteArray→EL→EL→EL→Int→Int→ρ)→EL→Int→Int→Int→ρ) (K0:Int→Int→ByteArray→EL→EL→EL→Int→Int→ρ) (x2 y3 y4 j9:Int) (j10:ByteArray) (j11 j12:Int):Nat→EL→Int→EL→Int→ρ
 | 0,_,_,_,_=>fail
 | n + 1,z13,z14,z15,z16=>p43_2 fail fu s_p43 K0 (p43_2L fail fu s_p43 K0 x2 y3 y4 j9 j10 j11 j12 n) x2 y3 y4 j9 j10 j11 j12 z13 z14 z15 z16
def p43_3 {ρ:Type} (fail:ρ) (fu:Nat) (s_p43:(Int→Int→ByteArray→EL→EL→EL→Int→Int→ρ)→EL→Int→Int→Int→ρ) (K0:Int→Int→ByteArray→EL→EL→EL→Int→Int→ρ) (x2 y3 y4:Int) (j7:EL) (j8 j9:Int) (j10:ByteArray) (j11 j12:Int):ρ :=
 p43_2L fail fu s_p43 K0 x2 y3 y4 j9 j10 j11 j12 fu j7 j8 nilE 0
def p43_4 {ρ:Type} (fail:ρ) (fu:Nat) (s_p43:(Int→Int→ByteArray→EL→EL→EL→Int→Int→ρ)→EL→Int→Int→Int→ρ) (K0:Int→Int→ByteArray→EL→EL→EL→Int→Int→ρ) (x2 y3 y4:Int) (j38:EL) (j39:Int) (j40:ByteArray) (j41 j42:Int):ρ :=
 p43_3 fail fu s_p43 K0 x2 y3 y4 j38 j39 0 j40 j41 j42
def p43_5 {ρ:Type} (fail:ρ) (fu:Nat) (s_p43:(Int→Int→ByteArray→EL→EL→EL→Int→Int→ρ)→EL→Int→Int→Int→ρ) (K0:Int→Int→ByteArray→EL→EL→EL→Int→Int→ρ) (x2 y3 y4:Int) (j43:EL) (j44:Int) (j45:ByteArray) (j46 j47:Int):ρ :=
 p43_4 fail fu s_p43 K0 x2 y3 y4 j43 j44 j45 j46 j47
def p43_6 {ρ:Type} (fail:ρ) (fu:Nat) (s_p43:(Int→Int→ByteArray→EL→EL→EL→Int→Int→ρ)→EL→Int→Int→Int→ρ) (K0:Int→Int→ByteArray→EL→EL→EL→Int→Int→ρ) (x2 y3 y4:Int) (s51:ByteArray) (y52:Int) (j55:EL) (j56:Int):ρ :=
 p43_5 fail fu s_p43 K0 x2 y3 y4 j55 j56 s51 0 y52
def p43_7 {ρ:Type} (fail:ρ) (fu:Nat) (s_p43:(Int→Int→ByteArray→EL→EL→EL→Int→Int→ρ)→EL→Int→Int→Int→ρ) (K0:Int→Int→ByteArray→EL→EL→EL→Int→Int→ρ) (x2 y3 y4:Int) (y5:EL) (y6 j59:Int):ρ :=
 p43_5 fail fu s_p43 K0 x2 y3 y4 y5 y6 ⟨#[]⟩ j59 0
def p43_b {ρ:Type} (fail:ρ) (fu:Nat) (s_p43:(Int→Int→ByteArray→EL→EL→EL→Int→Int→ρ)→EL→Int→Int→Int→ρ) (K0:Int→Int→ByteArray→EL→EL→EL→Int→Int→ρ) (x0:EL) (x1 x2 x3:Int):ρ :=
 p61 fail fu (fun y1 y2 y3=>bif (z0a .neq y2 0) then (K0 0 0 ⟨#[]⟩ nilE nilE y1 y2 y3) else (p13 fail fu (fun y4 y5 y6=>bif (z0a .eql y4 0) then (p16 fail fu (fun y35 y36 y37=>p43_3 fail fu s_p43 K0 x2 y3 y4 y36 y37 y35 ⟨#[]⟩ 0 0) y5 y6) else (bif (z0a .eql y4 1) then (p43_4 fail fu s_p43 K0 x2 y3 y4 y5 y6 ⟨#[]⟩ 0 1) else (bif (z0a .eql y4 2) then (p20 fail fu (fun y48 y49 y50=>tobP fail y48 (fun s51=>p16 fail fu (fun y52 y53 y54=>bif (z0a .gtr y52 4) then (p15 fail fu (fun y57 y58=>p43_6 fail fu s_p43 K0 x2 y3 y4 s51 y52 y57 y58) y53 y54 7) else (p43_6 fail fu s_p43 K0 x2 y3 y4 s51 y52 y53 y54)) y49 y50)) y5 y6 24) else (bif (z0a .eql y4 6) then (p43_7 fail fu s_p43 K0 x2 y3 y4 y5 y6 3) else (p43_7 fail fu s_p43 K0 x2 y3 y4 y5 y6 2))))) y1 y2 0 6)) x0 x1 x3 2000 x2 100
def p43 {ρ:Type} (fail:ρ):Nat→(Int→Int→ByteArray→EL→EL→EL→Int→Int→ρ)→EL→Int→Int→Int→ρ
 | 0,_,_,_,_,_=>fail
 | n + 1,K0,x0,x1,x2,x3=>p43_b fail n (p43 fail n) K0 x0 x1 x2 x3
def p19 {ρ:Type} (fail:ρ) (fu:Nat) (K0:Int→Int→ByteArray→EL→EL→EL→Int→ρ) (x0:EL) (x1:Int):ρ :=
 p43 fail fu (fun y1 y2 y3 y4 y5 y6 y7 y8=>K0 y1 y2 y3 y4 y5 y6 y7) x0 x1 1 0
inductive Tm where
 | mk (k n:Int) (nm:ByteArray) (ls:List Lv) (args:List Tm)
def Tm.k:Tm→Int
 | .mk k _ _ _ _=>k
def Tm.n:Tm→Int
 | .mk _ n _ _ _=>n
def Tm.nm:Tm→ByteArray
 | .mk _ _ s _ _=>s
def Tm.ls:Tm→List Lv
 | .mk _ _ _ l _=>l
def Tm.args:Tm→List Tm
 | .mk _ _ _ _ l=>l
mutual
def Tm.row:Tm→List CV
 | .mk k n s l a=>[.v (.int .i64 k),.v (.int .i64 n),.v (.string s),.sl 3 (Lv.rows l) none,.sl 5 (Tm.rows a) none]
def Tm.rows:List Tm→EL
 | []=>[]
 | a :: l=>Tm.row a :: Tm.rows l
end
theorem Tm.row_eq (t:Tm):t.row=[.v (.int .i64 t.k),.v (.int .i64 t.n),.v (.string t.nm),.sl 3 (Lv.rows t.ls) none,.sl 5 (Tm.rows t.args) none]:=by cases t;rfl
theorem Tm.rows_len:∀ l:List Tm,(Tm.rows l).length=l.length
 | []=>rfl
 | _ :: l=>by simp [Tm.rows,Tm.rows_len l]
theorem Tm.rows_get {l:List Tm} {i:Nat} (h:i < l.length):(Tm.rows l).getD i []=l[i].row:=by
 induction l generalizing i with
 | nil=>simp at h
 | cons a l ih=>cases i with
  | zero=>rfl
  | succ i=>simpa [Tm.rows] using ih (by simpa using h)
theorem z1u {ρ:Type} (fail:ρ) (s:List UInt8) (k:ByteArray→ρ):tobP fail (encB s) k=k ⟨s.toArray⟩:=by
 unfold tobP;rw [z7y]
def z1b (p:Nat) (bs:List UInt8):Except Int (Lv × List UInt8 × Nat):=match z2j bs with
 | .ok (l,r)=>.ok (l,r,p)
 | .error e=>.error e
theorem z9b {bs r:List UInt8} {l:Lv} (h:z2j bs=.ok (l,r)):r.length≤bs.length:=by
 unfold z2j at h;split at h
 ·rename_i l' r' q h'
  injection h with h;injection h with h1 h2;subst h1 h2
  exact (z8h _ _ _ _ _ _ (by omega) h').1
 ·cases h
theorem z2t {m:Nat} (p:Nat) (bs:List UInt8) (a:Lv) (r:List UInt8) (q:Nat) (hp:p≤m) (h:z1b p bs=.ok (a,r,q)):r.length≤bs.length∧q≤m:=by
 unfold z1b at h;split at h
 ·rename_i l' r' h'
  injection h with h;injection h with h1 h;injection h with h2 h3;subst h1 h2 h3
  exact⟨z9b h',hp⟩
 ·cases h
theorem z4m:∀ (n p:Nat) (bs:List UInt8) (l:List Lv) (r:List UInt8) (q:Nat),many z1b n p bs=.ok (l,r,q)→q=p
 | 0,p,bs,l,r,q,h=>by simp only [many] at h;injection h with h;injection h with _ h;injection h with _ h;exact h.symm
 | n + 1,p,bs,l,r,q,h=>by
  simp only [many] at h
  split at h
  ·cases h
  ·rename_i a bs1 p1 h1
   have hp1:p1=p:=by
    unfold z1b at h1;split at h1
    ·injection h1 with h1;injection h1 with _ h1;injection h1 with _ h1;exact h1.symm
    ·cases h1
   split at h
   ·cases h
   ·rename_i l' bs2 p2 h2
    injection h with h;injection h with _ h;injection h with _ h
    have:=z4m n p1 bs1 l' bs2 p2 h2
    omega
def tmN (k:Nat):Nat:=if k=6 then 3 else 2
def rdTm:Nat→Nat→List UInt8→Except Int (Tm × List UInt8 × Nat)
 | 0,p,_=>if 2000 < p + 1 then .error 3 else .error 6
 | left + 1,p,bs=>if 2000 < p + 1 then .error 3 else match z2c 0 6 bs with
  | .error e=>.error e
  | .ok (k,bs) =>
   if k=0 then (match rdNum bs with
    | .error e=>.error e
    | .ok (n,bs)=>.ok (.mk 0 (n:Nat) ⟨#[]⟩ [] [],bs,p + 1))
   else if k=1 then (match many z1b 1 (p + 1) bs with
    | .error e=>.error e
    | .ok (l,bs,q)=>.ok (.mk 1 0 ⟨#[]⟩ l [],bs,q))
   else if k=2 then (match rdTxt 24 bs with
    | .error e=>.error e
    | .ok (s,bs)=>match rdNum bs with
     | .error e=>.error e
     | .ok (n,bs)=>if 4 < n then .error 7 else match many z1b n (p + 1) bs with
      | .error e=>.error e
      | .ok (l,bs,q)=>.ok (.mk 2 0 ⟨s.toArray⟩ l [],bs,q))
   else match many (rdTm left) (tmN k) (p + 1) bs with
    | .error e=>.error e
    | .ok (l,bs,q)=>.ok (.mk (k:Nat) 0 ⟨#[]⟩ [] l,bs,q)
theorem z1n {m:Nat} {bs s r:List UInt8} (h:rdTxt m bs=.ok (s,r)):s.length≤m∧r.length < bs.length∧bs=varB s.length++(s++r)∧s.length < 2 ^ 64:=by
 unfold rdTxt at h;split at h
 ·rename_i v r' hr
  split at h
  ·cases h
  ·split at h
   ·cases h
   ·injection h with h;injection h with h1 h2;subst h1;subst h2
    obtain⟨h1,h2,h3⟩:=z8y hr
    have hl:(r'.take v).length=v:=by rw [List.length_take];omega
    refine⟨by omega,by rw [List.length_drop];omega,?_,by omega⟩
    rw [hl,List.take_append_drop];exact h3
 ·cases h
theorem z5f:∀ (left p:Nat) (bs:List UInt8) (l:Tm) (r:List UInt8) (q:Nat),p≤2000→rdTm left p bs=.ok (l,r,q)→r.length≤bs.length∧q≤2000
 | 0,p,bs,l,r,q,hp,h=>by simp only [rdTm] at h;split at h<;>cases h
 | left + 1,p,bs,l,r,q,hp,h=>by
  simp only [rdTm] at h
  split at h
  ·cases h
  ·split at h
   ·cases h
   ·rename_i k bs1 hk
    have h1:=z1g hk
    split at h
    ·split at h
     ·cases h
     ·rename_i n bs2 hn
      have h2:=z0t hn
      injection h with h;injection h with _ h;injection h with h3 h4;subst h3 h4;exact⟨by omega,by omega⟩
    ·split at h
     ·split at h
      ·cases h
      ·rename_i l2 bs2 p2 hm
       injection h with h;injection h with _ h;injection h with h3 h4;subst h3 h4
       have:=z3a (m:=2000) z2t _ _ _ _ _ _ (by omega) hm
       exact⟨by omega,this.2.1⟩
     ·split at h
      ·split at h
       ·cases h
       ·rename_i s bs2 hs
        have h2:=z1n hs
        split at h
        ·cases h
        ·rename_i n bs3 hn
         have h3:=z0t hn
         split at h
         ·cases h
         ·split at h
          ·cases h
          ·rename_i l2 bs4 p2 hm
           injection h with h;injection h with _ h;injection h with h4 h5;subst h4 h5
           have:=z3a (m:=2000) z2t _ _ _ _ _ _ (by omega) hm
           exact⟨by omega,this.2.1⟩
      ·split at h
       ·cases h
       ·rename_i l2 bs2 p2 hm
        injection h with h;injection h with _ h;injection h with h3 h4;subst h3 h4
        have:=z3a (m:=2000) (fun p bs a r q=>z5f left p bs a r q) _ _ _ _ _ _ (by omega) hm
        exact⟨by omega,this.2.1⟩
abbrev TK8 (ρ:Type):=Int→Int→ByteArray→EL→EL→EL→Int→Int→ρ
def TmOut {ρ:Type} (p:TK8 ρ→ρ):Except Int (Tm × List UInt8 × Nat)→Prop
 | .ok (t,bs,q)=>∀ K:TK8 ρ,p K=K t.k t.n t.nm (Lv.rows t.ls) (Tm.rows t.args) (encB bs) 0 (q:Nat)
 | .error e=>e≠0∧∃ a b c l g B q,∀ K:TK8 ρ,p K=K a b c l g B e q
section
variable {ρ:Type} (fail:ρ) (fu:Nat) (s:TK8 ρ→EL→Int→Int→Int→ρ)
theorem w1y (f:Nat→List UInt8→Except Int (Tm × List UInt8 × Nat)) (d:Int) (k n0:Int) (nm:ByteArray) (L:EL)
  (hf:∀ p bs a r q,p≤2000→f p bs=.ok (a,r,q)→r.length≤bs.length∧q≤2000) (N:Nat) (hs:∀ bs p,bs.length≤N→p≤2000→TmOut (fun K=>s K (encB bs) 0 (z0c .add .i64 d 1) (p:Nat)) (f p bs)) :
  ∀ (r n:Nat) (bs:List UInt8) (p:Nat) (z:EL) (i:Nat),bs.length≤N→p≤2000→z.length≤i→i + r≤1000→r < n →
   match many f r p bs with
   | .ok (l,bs',q)=>∀ K:TK8 ρ,p43_1L fail fu s K d k n0 nm ((i + r:Nat):Int) L n (encB bs) 0 (p:Nat) z (i:Nat)=K k n0 nm L (z++Tm.rows l) (encB bs') 0 (q:Nat)
   | .error e=>e≠0∧∃ g B q,∀ K:TK8 ρ,p43_1L fail fu s K d k n0 nm ((i + r:Nat):Int) L n (encB bs) 0 (p:Nat) z (i:Nat)=K k n0 nm L g B e q
 | 0,n + 1,bs,p,z,i,hb,hp,hz,hi,hn=>by
  simp only [many]
  intro K
  rw [p43_1L,p43_1,lssF (by omega),cond_false]
  simp [Tm.rows]
 | r + 1,n + 1,bs,p,z,i,hb,hp,hz,hi,hn=>by
  have h1:=hs bs p hb hp
  simp only [many]
  have step:∀ K:TK8 ρ,p43_1L fail fu s K d k n0 nm ((i + (r + 1):Nat):Int) L (n + 1) (encB bs) 0 (p:Nat) z (i:Nat)=s (fun a b c l g B e q =>
    p43_1L fail fu s K d k n0 nm ((i + 1 + r:Nat):Int) L n B e q (z++[[.v (.int .i64 a),.v (.int .i64 b),.v (.string c),.sl 3 l none,.sl 5 g none]]) ((i + 1:Nat):Int)) (encB bs) 0 (z0c .add .i64 d 1) (p:Nat):=fun K=>by
   rw [p43_1L,p43_1,lssT (by omega),cond_true,neqF rfl,cond_false]
   congr 1
   funext a b c l g B e q
   rw [gd_y (by simp),gd_y (by simp;omega),addZ (by omega) (by omega),show ((i:Nat):Int) + 1=((i + 1:Nat):Int) by omega,show i + (r + 1)=i + 1 + r by omega]
   rfl
  cases hfv:f p bs with
  | error e =>
   rw [hfv] at h1
   obtain⟨he,a,b,c,l,g,B,q,h1⟩:=h1
   dsimp only at h1
   refine⟨he,z++[[.v (.int .i64 a),.v (.int .i64 b),.v (.string c),.sl 3 l none,.sl 5 g none]],B,q,fun K=>?_⟩
   try dsimp only
   rw [step,h1]
   obtain⟨n,rfl⟩:∃ n',n=n' + 1:=⟨n - 1,by omega⟩
   rw [p43_1L,p43_1]
   cases r with
   | zero=>rw [lssF (by omega),cond_false]
   | succ r=>rw [lssT (by omega),cond_true,neqT he,cond_true]
  | ok x =>
   obtain⟨a,bs1,p1⟩:=x
   rw [hfv] at h1
   simp only [TmOut] at h1
   have h2:=hf _ _ _ _ _ hp hfv
   have ih:=w1y f d k n0 nm L hf N hs r n bs1 p1 (z++[a.row]) (i + 1) (by omega) h2.2 (by simp;omega) (by omega) (by omega)
   have hrow:∀ K:TK8 ρ,p43_1L fail fu s K d k n0 nm ((i + (r + 1):Nat):Int) L (n + 1) (encB bs) 0 (p:Nat) z (i:Nat)=p43_1L fail fu s K d k n0 nm ((i + 1 + r:Nat):Int) L n (encB bs1) 0 (p1:Nat) (z++[a.row]) ((i + 1:Nat):Int):=fun K=>by
    rw [step,h1,Tm.row_eq]
   dsimp only
   cases hm:many f r p1 bs1 with
   | error e =>
    rw [hm] at ih
    obtain⟨he,c,B,q,h3⟩:=ih
    exact⟨he,c,B,q,fun K=>by rw [hrow,h3]⟩
   | ok x =>
    obtain⟨l,bs2,p2⟩:=x
    rw [hm] at ih
    intro K
    rw [hrow,ih,List.append_assoc];rfl
theorem z6b (hfu:50≤fu) (d y3:Int) (k n0:Int) (nm:ByteArray) (na:Int) (N:Nat) (hN:N≤1099511627776) :
  ∀ (r n:Nat) (bs:List UInt8) (p:Nat) (z:EL) (i:Nat),bs.length≤N→z.length≤i→i + r≤1000→r < n →
   match many z1b r p bs with
   | .ok (l,bs',q)=>∀ K:TK8 ρ,p43_2L fail fu s K d y3 k n0 nm na ((i + r:Nat):Int) n (encB bs) 0 z (i:Nat)=p43_1L fail fu s K d k n0 nm na (z++Lv.rows l) fu (encB bs') 0 y3 nilE 0
   | .error e=>e≠0∧∃ l B,∀ K:TK8 ρ,na=0→p43_2L fail fu s K d y3 k n0 nm na ((i + r:Nat):Int) n (encB bs) 0 z (i:Nat)=K k n0 nm l nilE B e y3
 | 0,n + 1,bs,p,z,i,hb,hz,hi,hn=>by
  simp only [many]
  intro K
  rw [p43_2L,p43_2,lssF (by omega),cond_false]
  simp [Lv.rows]
 | r + 1,n + 1,bs,p,z,i,hb,hz,hi,hn=>by
  have h1:=k0q fail fu hfu bs (by omega)
  simp only [many]
  have step:∀ K:TK8 ρ,p43_2L fail fu s K d y3 k n0 nm na ((i + (r + 1):Nat):Int) (n + 1) (encB bs) 0 z (i:Nat)=p62 fail fu (fun a b c B e =>
    p43_2L fail fu s K d y3 k n0 nm na ((i + 1 + r:Nat):Int) n B e (z++[[.v (.int .i64 a),.v (.int .i64 b),.sl 3 c none]]) ((i + 1:Nat):Int)) (encB bs) 0:=fun K=>by
   rw [p43_2L,p43_2,lssT (by omega),cond_true,neqF rfl,cond_false]
   congr 1
   funext a b c B e
   rw [gd_y (by simp),gd_y (by simp;omega),addZ (by omega) (by omega),show ((i:Nat):Int) + 1=((i + 1:Nat):Int) by omega,show i + (r + 1)=i + 1 + r by omega]
   rfl
  unfold z1b
  cases hfv:z2j bs with
  | error e =>
   rw [hfv] at h1
   obtain⟨he,a,b,c,B,h1⟩:=h1
   dsimp only at h1
   refine⟨he,z++[[.v (.int .i64 a),.v (.int .i64 b),.sl 3 c none]],B,fun K hna=>?_⟩
   try dsimp only
   rw [step,h1]
   obtain⟨n,rfl⟩:∃ n',n=n' + 1:=⟨n - 1,by omega⟩
   rw [p43_2L,p43_2]
   cases r with
   | zero =>
    rw [lssF (by omega),cond_false]
    obtain⟨m,hm⟩:∃ m,fu=m + 1:=⟨fu - 1,by omega⟩
    have:∀ m',m'=m + 1→p43_1L fail fu s K d k n0 nm na (z++[[.v (.int .i64 a),.v (.int .i64 b),.sl 3 c none]]) m' B e y3 nilE 0=K k n0 nm (z++[[.v (.int .i64 a),.v (.int .i64 b),.sl 3 c none]]) nilE B e y3:=fun m' h=>by
     subst h;rw [p43_1L,p43_1,lssF (by omega),cond_false]
    exact this fu hm
   | succ r=>rw [lssT (by omega),cond_true,neqT he,cond_true]
  | ok x =>
   obtain⟨a,bs1⟩:=x
   rw [hfv] at h1
   simp only [LvO2] at h1
   have h2:=z9b hfv
   have ih:=z6b hfu d y3 k n0 nm na N hN r n bs1 p (z++[a.row]) (i + 1) (by omega) (by simp;omega) (by omega) (by omega)
   have hrow:∀ K:TK8 ρ,p43_2L fail fu s K d y3 k n0 nm na ((i + (r + 1):Nat):Int) (n + 1) (encB bs) 0 z (i:Nat)=p43_2L fail fu s K d y3 k n0 nm na ((i + 1 + r:Nat):Int) n (encB bs1) 0 (z++[a.row]) ((i + 1:Nat):Int):=fun K=>by
    rw [step,h1,Lv.row_eq]
   dsimp only
   cases hm:many z1b r p bs1 with
   | error e =>
    rw [hm] at ih
    obtain⟨he,c,B,h3⟩:=ih
    have hm':many (fun p bs=>match z2j bs with | .ok (l,r)=>Except.ok (l,r,p) | .error e=>.error e) r p bs1=.error e:=hm
    rw [hm']
    exact⟨he,c,B,fun K hna=>by rw [hrow,h3 K hna]⟩
   | ok x =>
    obtain⟨l,bs2,p2⟩:=x
    rw [hm] at ih
    have hm':many (fun p bs=>match z2j bs with | .ok (l,r)=>Except.ok (l,r,p) | .error e=>.error e) r p bs1=.ok (l,bs2,p2):=hm
    rw [hm']
    intro K
    rw [hrow,ih,List.append_assoc];rfl
theorem w1z (hfu:2≤fu) (K:TK8 ρ) (d y3 k n0:Int) (nm:ByteArray) (na nl:Int) (B:EL) (e:Int) (he:e≠0) (hna:0≤na) (hnl:0≤nl):p43_2L fail fu s K d y3 k n0 nm na nl fu B e nilE 0=K k n0 nm nilE nilE B e y3:=by
 obtain⟨m,hm⟩:∃ m,fu=m + 1:=⟨fu - 1,by omega⟩
 have h1:∀ m',m'=m + 1→p43_1L fail fu s K d k n0 nm na nilE m' B e y3 nilE 0=K k n0 nm nilE nilE B e y3:=fun m' h=>by
  subst h;rw [p43_1L,p43_1]
  by_cases h0:0 < na
  ·rw [lssT h0,cond_true,neqT he,cond_true]
  ·rw [lssF (by omega),cond_false]
 have h2:∀ m',m'=m + 1→p43_2L fail fu s K d y3 k n0 nm na nl m' B e nilE 0=K k n0 nm nilE nilE B e y3:=fun m' h=>by
  subst h;rw [p43_2L,p43_2]
  by_cases h0:0 < nl
  ·rw [lssT h0,cond_true,neqT he,cond_true]
  ·rw [lssF (by omega),cond_false];exact h1 fu hm
 exact h2 fu hm
end
theorem k1n {ρ:Type} (fail:ρ):∀ (left fu:Nat),left + 60≤fu→left≤100→∀ (bs:List UInt8) (p:Nat),bs.length≤1099511627776→p≤2000 →
  TmOut (fun K=>p43 fail fu K (encB bs) 0 ((101 - left:Nat):Int) (p:Nat)) (rdTm left p bs):=by
 intro left
 induction left with
 | zero =>
  intro fu hf hl bs p hb hp
  obtain⟨m,rfl⟩:∃ m,fu=m + 1:=⟨fu - 1,by omega⟩
  have hpart:=fun K=>w1i (ρ:=ρ) fail m K (encB bs) p 2000 101 100 (by omega)
  simp only [rdTm]
  by_cases h1:2000 < p + 1
  ·rw [if_pos h1]
   refine⟨by omega,0,0,⟨#[]⟩,nilE,nilE,encB bs,((p + 1:Nat):Int),fun K=>?_⟩
   try dsimp only
   rw [p43,p43_b]
   erw [hpart]
   rw [if_pos h1,neqT (by omega),cond_true]
  ·rw [if_neg h1]
   refine⟨by omega,0,0,⟨#[]⟩,nilE,nilE,encB bs,((p + 1:Nat):Int),fun K=>?_⟩
   try dsimp only
   rw [p43,p43_b]
   erw [hpart]
   rw [if_neg h1,if_pos (by omega),neqT (by omega),cond_true]
 | succ left ih =>
  intro fu hf hl bs p hb hp
  obtain⟨m,rfl⟩:∃ m,fu=m + 1:=⟨fu - 1,by omega⟩
  have hpart:=fun K=>w1i (ρ:=ρ) fail m K (encB bs) p 2000 (101 - (left + 1)) 100 (by omega)
  have hkind:=w1n (ρ:=ρ) fail m (by omega) bs hb 0 6 (by omega) (by omega)
  simp only [rdTm]
  by_cases h1:2000 < p + 1
  ·rw [if_pos h1]
   refine⟨by omega,0,0,⟨#[]⟩,nilE,nilE,encB bs,((p + 1:Nat):Int),fun K=>?_⟩
   try dsimp only
   rw [p43,p43_b]
   erw [hpart]
   rw [if_pos h1,neqT (by omega),cond_true]
  ·rw [if_neg h1]
   generalize hs:p43 fail m=s
   generalize hd0:((101 - (left + 1):Nat):Int)=d at hpart
   have hd:z0c .add .i64 d 1=((101 - left:Nat):Int):=by subst hd0;rw [addZ (by omega) (by omega)];omega
   generalize hq0:((p + 1:Nat):Int)=q at hpart
   have hb1:∀ K:TK8 ρ,p43 fail (m + 1) K (encB bs) 0 d (p:Nat)=p13 fail m (fun y4 y5 y6=>bif (z0a .eql y4 0) then (p16 fail m (fun y35 y36 y37=>p43_3 fail m s K d q y4 y36 y37 y35 ⟨#[]⟩ 0 0) y5 y6) else (bif (z0a .eql y4 1) then (p43_4 fail m s K d q y4 y5 y6 ⟨#[]⟩ 0 1) else (bif (z0a .eql y4 2) then (p20 fail m (fun y48 y49 y50=>tobP fail y48 (fun s51=>p16 fail m (fun y52 y53 y54=>bif (z0a .gtr y52 4) then (p15 fail m (fun y57 y58=>p43_6 fail m s K d q y4 s51 y52 y57 y58) y53 y54 7) else (p43_6 fail m s K d q y4 s51 y52 y53 y54)) y49 y50)) y5 y6 24) else (bif (z0a .eql y4 6) then (p43_7 fail m s K d q y4 y5 y6 3) else (p43_7 fail m s K d q y4 y5 y6 2))))) (encB bs) 0 ((0:Nat):Int) ((6:Nat):Int):=fun K=>by
    rw [p43,p43_b,hs]
    erw [hpart]
    rw [if_neg h1,if_neg (by omega),neqF rfl,cond_false]
    rfl
   cases hk:z2c 0 6 bs with
   | error e =>
    rw [hk] at hkind
    obtain⟨he,B,hB⟩:=hkind
    dsimp only at hB
    refine⟨he,0,0,⟨#[]⟩,nilE,nilE,B,q,fun K=>?_⟩
    try dsimp only
    rw [hb1,hB]
    rw [eqlT (by omega),cond_true,numE _ _ _ _ _ he,p43_3]
    exact w1z fail m s (by omega) K d q _ _ _ 0 0 B e he (by omega) (by omega)
   | ok x =>
    obtain⟨k,bs1⟩:=x
    have hk1:=z1g hk
    rw [hk] at hkind
    simp only [KOut] at hkind
    dsimp only
    by_cases k0:k=0
    ·subst k0
     rw [if_pos rfl]
     have hb3:∀ K:TK8 ρ,p43 fail (m + 1) K (encB bs) 0 d (p:Nat)=p16 fail m (fun y35 y36 y37=>p43_3 fail m s K d q ((0:Nat):Int) y36 y37 y35 ⟨#[]⟩ 0 0) (encB bs1) 0:=fun K=>by
      rw [hb1,hkind,eqlT (by omega),cond_true]
     have hnum:=z4r (ρ:=ρ) fail m (by omega) bs1 (by omega)
     cases hn:rdNum bs1 with
     | error e =>
      rw [hn] at hnum
      obtain⟨he,B,hB⟩:=hnum
      dsimp only at hB
      refine⟨he,((0:Nat):Int),0,⟨#[]⟩,nilE,nilE,B,q,fun K=>?_⟩
      try dsimp only
      rw [hb3,hB,p43_3]
      exact w1z fail m s (by omega) K d q _ _ _ 0 0 B e he (by omega) (by omega)
     | ok x =>
      obtain⟨n,bs2⟩:=x
      rw [hn] at hnum
      simp only [KOut] at hnum
      intro K
      dsimp only
      rw [hb3,hnum,p43_3]
      have h3:=z6b fail m s (by omega) d q ((0:Nat):Int) ((n:Nat):Int) ⟨#[]⟩ 0 1099511627776 (by omega) 0 m bs2 (p + 1) nilE 0 (by have:=z0t hn;omega) (by simp) (by omega) (by omega)
      simp only [many] at h3
      have h4:=w1y fail m s (rdTm left) d ((0:Nat):Int) ((n:Nat):Int) ⟨#[]⟩ nilE (fun p bs a r q=>z5f left p bs a r q) 1099511627776 (fun bs p hb hp=>by rw [hd,← hs];exact ih m (by omega) (by omega) bs p hb hp) 0 m bs2 (p + 1) nilE 0 (by have:=z0t hn;omega) (by omega) (by simp) (by omega) (by omega)
      simp only [many] at h4
      rw [hq0] at h4 ⊢
      exact (h3 K).trans (h4 K)
    rw [if_neg k0]
    by_cases k1:k=1
    ·subst k1
     rw [if_pos rfl]
     have hb3:∀ K:TK8 ρ,p43 fail (m + 1) K (encB bs) 0 d (p:Nat)=p43_2L fail m s K d q ((1:Nat):Int) 0 ⟨#[]⟩ 0 ((0 + 1:Nat):Int) m (encB bs1) 0 nilE ((0:Nat):Int):=fun K=>by
      rw [hb1,hkind,eqlF (by omega),cond_false,eqlT (by omega),cond_true,p43_4,p43_3];rfl
     have h3:=z6b fail m s (by omega) d q ((1:Nat):Int) 0 ⟨#[]⟩ 0 1099511627776 (by omega) 1 m bs1 (p + 1) nilE 0 (by omega) (by simp) (by omega) (by omega)
     cases hm:many z1b 1 (p + 1) bs1 with
     | error e =>
      rw [hm] at h3
      obtain⟨he,l,B,h3⟩:=h3
      exact⟨he,_,_,_,l,nilE,B,q,fun K=>by dsimp only;rw [hb3];exact h3 K rfl⟩
     | ok x =>
      obtain⟨l,bs2,p2⟩:=x
      rw [hm] at h3
      have hsub:=z3a (m:=2000) z2t _ _ _ _ _ _ (by omega) hm
      have hp2:p2=p + 1:=z4m _ _ _ _ _ _ hm
      intro K
      dsimp only
      have h4:=w1y fail m s (rdTm left) d ((1:Nat):Int) 0 ⟨#[]⟩ (Lv.rows l) (fun p bs a r q=>z5f left p bs a r q) 1099511627776 (fun bs p hb hp=>by rw [hd,← hs];exact ih m (by omega) (by omega) bs p hb hp) 0 m bs2 (p + 1) nilE 0 (by omega) (by omega) (by simp) (by omega) (by omega)
      simp only [many] at h4
      rw [hb3,h3 K,List.nil_append,hp2]
      rw [hq0] at h4 ⊢
      exact h4 K
    rw [if_neg k1]
    by_cases k2:k=2
    ·subst k2
     rw [if_pos rfl]
     have htxt:=z7e (ρ:=ρ) fail m (by omega) bs1 (by omega) 24 (by omega)
     have hb3:∀ K:TK8 ρ,p43 fail (m + 1) K (encB bs) 0 d (p:Nat)=p20 fail m (fun y48 y49 y50=>tobP fail y48 (fun s51=>p16 fail m (fun y52 y53 y54=>bif (z0a .gtr y52 4) then (p15 fail m (fun y57 y58=>p43_6 fail m s K d q ((2:Nat):Int) s51 y52 y57 y58) y53 y54 7) else (p43_6 fail m s K d q ((2:Nat):Int) s51 y52 y53 y54)) y49 y50)) (encB bs1) 0 ((24:Nat):Int):=fun K=>by
      rw [hb1,hkind,eqlF (by omega),cond_false,eqlF (by omega),cond_false,eqlT (by omega),cond_true];rfl
     cases ht:rdTxt 24 bs1 with
     | error e =>
      rw [ht] at htxt
      obtain⟨he,B,hB⟩:=htxt
      dsimp only at hB
      refine⟨he,((2:Nat):Int),0,⟨#[]⟩,nilE,nilE,B,q,fun K=>?_⟩
      try dsimp only
      rw [hb3,hB,show (nilE:EL)=encB [] from rfl,z1u,numE _ _ _ _ _ he,gtrF (by omega),cond_false,p43_6,p43_5,p43_4,p43_3]
      exact w1z fail m s (by omega) K d q _ _ _ 0 0 B e he (by omega) (by omega)
     | ok x =>
      obtain⟨sx,bs2⟩:=x
      have ht1:=z1n ht
      rw [ht] at htxt
      simp only [SOut] at htxt
      dsimp only
      have hb4:∀ K:TK8 ρ,p43 fail (m + 1) K (encB bs) 0 d (p:Nat)=p16 fail m (fun y52 y53 y54=>bif (z0a .gtr y52 4) then (p15 fail m (fun y57 y58=>p43_6 fail m s K d q ((2:Nat):Int) ⟨sx.toArray⟩ y52 y57 y58) y53 y54 7) else (p43_6 fail m s K d q ((2:Nat):Int) ⟨sx.toArray⟩ y52 y53 y54)) (encB bs2) 0:=fun K=>by
       rw [hb3,htxt,z1u]
      have hnum:=z4r (ρ:=ρ) fail m (by omega) bs2 (by omega)
      cases hn:rdNum bs2 with
      | error e =>
       rw [hn] at hnum
       obtain⟨he,B,hB⟩:=hnum
       dsimp only at hB
       refine⟨he,((2:Nat):Int),0,⟨sx.toArray⟩,nilE,nilE,B,q,fun K=>?_⟩
       try dsimp only
       rw [hb4,hB,gtrF (by omega),cond_false,p43_6,p43_5,p43_4,p43_3]
       exact w1z fail m s (by omega) K d q _ _ _ 0 0 B e he (by omega) (by omega)
      | ok x =>
       obtain⟨n,bs3⟩:=x
       have hn1:=z0t hn
       rw [hn] at hnum
       simp only [KOut] at hnum
       dsimp only
       by_cases h4:4 < n
       ·rw [if_pos h4]
        refine⟨by omega,((2:Nat):Int),0,⟨sx.toArray⟩,nilE,nilE,encB bs3,q,fun K=>?_⟩
        try dsimp only
        rw [hb4,hnum,gtrT (by omega),cond_true,z2l,p43_6,p43_5,p43_4,p43_3]
        exact w1z fail m s (by omega) K d q _ _ _ 0 _ (encB bs3) 7 (by omega) (by omega) (by omega)
       ·rw [if_neg h4]
        have hb5:∀ K:TK8 ρ,p43 fail (m + 1) K (encB bs) 0 d (p:Nat)=p43_2L fail m s K d q ((2:Nat):Int) 0 ⟨sx.toArray⟩ 0 ((0 + n:Nat):Int) m (encB bs3) 0 nilE ((0:Nat):Int):=fun K=>by
         rw [hb4,hnum,gtrF (by omega),cond_false,p43_6,p43_5,p43_4,p43_3,Nat.zero_add];rfl
        have h3:=z6b fail m s (by omega) d q ((2:Nat):Int) 0 ⟨sx.toArray⟩ 0 1099511627776 (by omega) n m bs3 (p + 1) nilE 0 (by omega) (by simp) (by omega) (by omega)
        cases hm:many z1b n (p + 1) bs3 with
        | error e =>
         rw [hm] at h3
         obtain⟨he,l,B,h3⟩:=h3
         exact⟨he,_,_,_,l,nilE,B,q,fun K=>by dsimp only;rw [hb5];exact h3 K rfl⟩
        | ok x =>
         obtain⟨l,bs4,p2⟩:=x
         rw [hm] at h3
         have hsub:=z3a (m:=2000) z2t _ _ _ _ _ _ (by omega) hm
         have hp2:p2=p + 1:=z4m _ _ _ _ _ _ hm
         intro K
         dsimp only
         have h5:=w1y fail m s (rdTm left) d ((2:Nat):Int) 0 ⟨sx.toArray⟩ (Lv.rows l) (fun p bs a r q=>z5f left p bs a r q) 1099511627776 (fun bs p hb hp=>by rw [hd,← hs];exact ih m (by omega) (by omega) bs p hb hp) 0 m bs4 (p + 1) nilE 0 (by omega) (by omega) (by simp) (by omega) (by omega)
         simp only [many] at h5
         rw [hb5,h3 K,List.nil_append,hp2]
         rw [hq0] at h5 ⊢
         exact h5 K
    rw [if_neg k2]
    have hb3:∀ K:TK8 ρ,p43 fail (m + 1) K (encB bs) 0 d (p:Nat)=p43_2L fail m s K d q ((k:Nat):Int) 0 ⟨#[]⟩ ((0 + tmN k:Nat):Int) ((0 + 0:Nat):Int) m (encB bs1) 0 nilE ((0:Nat):Int):=fun K=>by
     rw [hb1,hkind,eqlF (by omega),cond_false,eqlF (by omega),cond_false,eqlF (by omega),cond_false]
     by_cases k6:k=6
     ·rw [eqlT (by omega),cond_true,p43_7,p43_5,p43_4,p43_3,tmN,if_pos k6];rfl
     ·rw [eqlF (by omega),cond_false,p43_7,p43_5,p43_4,p43_3,tmN,if_neg k6];rfl
    have htN:tmN k≤3:=by unfold tmN;split<;>omega
    have h3:=z6b fail m s (by omega) d q ((k:Nat):Int) 0 ⟨#[]⟩ ((0 + tmN k:Nat):Int) 1099511627776 (by omega) 0 m bs1 (p + 1) nilE 0 (by omega) (by simp) (by omega) (by omega)
    simp only [many] at h3
    have h4:=w1y fail m s (rdTm left) d ((k:Nat):Int) 0 ⟨#[]⟩ nilE (fun p bs a r q=>z5f left p bs a r q) 1099511627776 (fun bs p hb hp=>by rw [hd,← hs];exact ih m (by omega) (by omega) bs p hb hp) (tmN k) m bs1 (p + 1) nilE 0 (by omega) (by omega) (by simp) (by omega) (by omega)
    rw [hq0] at h4
    cases hm:many (rdTm left) (tmN k) (p + 1) bs1 with
    | error e =>
     rw [hm] at h4
     obtain⟨he,g,B,q',h4⟩:=h4
     exact⟨he,_,_,_,nilE,g,B,q',fun K=>by dsimp only;rw [hb3,h3 K];exact h4 K⟩
    | ok x =>
     obtain⟨l,bs2,p2⟩:=x
     rw [hm] at h4
     intro K
     dsimp only
     rw [hb3,h3 K];exact h4 K
def z0j (bs:List UInt8):Except Int (Tm × List UInt8):=match rdTm 100 0 bs with
 | .ok (l,r,_)=>.ok (l,r)
 | .error e=>.error e
abbrev TK7 (ρ:Type):=Int→Int→ByteArray→EL→EL→EL→Int→ρ
def TmO2 {ρ:Type} (p:TK7 ρ→ρ):Except Int (Tm × List UInt8)→Prop
 | .ok (t,bs)=>∀ K:TK7 ρ,p K=K t.k t.n t.nm (Lv.rows t.ls) (Tm.rows t.args) (encB bs) 0
 | .error e=>e≠0∧∃ a b c l g B,∀ K:TK7 ρ,p K=K a b c l g B e
theorem z6a {ρ:Type} (fail:ρ) (fu:Nat) (hf:170≤fu) (bs:List UInt8) (hb:bs.length≤1099511627776):TmO2 (fun K=>p19 fail fu K (encB bs) 0) (z0j bs):=by
 have:=k1n fail 100 fu (by omega) (by omega) bs 0 hb (by omega)
 unfold z0j
 cases h:rdTm 100 0 bs with
 | error e =>
  rw [h] at this
  obtain⟨he,a,b,c,l,g,B,q,h1⟩:=this
  dsimp only at h1
  refine⟨he,a,b,c,l,g,B,fun K=>?_⟩
  try dsimp only
  rw [p19];exact h1 _
 | ok x =>
  obtain⟨l,r,q⟩:=x
  rw [h] at this
  intro K
  dsimp only
  rw [p19];exact this _
def p66 {ρ:Type} (fail:ρ) (fu:Nat) (K0:EL→ρ) (x0:EL) (x1:Int):ρ :=
 gd ((0:Int)≤0) fail (gd ((0:Int)≤(z0c .add .i64 ((x0.length:Nat):Int) x1)) fail (gd ((z0c .add .i64 ((x0.length:Nat):Int) x1:Int) * (1:Nat)≤70368744177664) fail (gd (((0:Int).toNat)=(List.replicate ((0:Int).toNat) [(CV.v (.int .u8 0))]).length) fail (gd (((List.replicate ((0:Int).toNat) [(CV.v (.int .u8 0))]).length + x0.length) * 1≤35184372088832) fail (K0 ((List.replicate ((0:Int).toNat) [(CV.v (.int .u8 0))])++x0))))))
def p65_1 {ρ:Type} (fail:ρ) (fu:Nat) (K0:EL→ρ) (rec1:Int→EL→ρ) (z2:Int) (z3:EL):ρ :=
 bif (z0a .geq z2 128) then (gd (1≤[[(CV.v (.int .u8 (z0c .or .u8 (IntKind.u8.wrap z2) 128)))]].length) fail (gd ((z3.length + (List.take 1 [[(CV.v (.int .u8 (z0c .or .u8 (IntKind.u8.wrap z2) 128)))]]).length) * 1≤35184372088832) fail (gd ((0:Int)≤7) fail (rec1 (z0c .shr .u64 z2 7) (z3++(List.take 1 [[(CV.v (.int .u8 (z0c .or .u8 (IntKind.u8.wrap z2) 128)))]])))))) else (gd (1≤[[(CV.v (.int .u8 (IntKind.u8.wrap z2)))]].length) fail (gd ((z3.length + (List.take 1 [[(CV.v (.int .u8 (IntKind.u8.wrap z2)))]]).length) * 1≤35184372088832) fail (K0 (z3++(List.take 1 [[(CV.v (.int .u8 (IntKind.u8.wrap z2)))]])))))
def p65_1L {ρ:Type} (fail:ρ) (fu:Nat) (K0:EL→ρ):Nat→Int→EL→ρ
 | 0,_,_=>fail
 | n + 1,z2,z3=>p65_1 fail fu K0 (p65_1L fail fu K0 n) z2 z3
def p65 {ρ:Type} (fail:ρ) (fu:Nat) (K0:EL→ρ) (x0:EL) (x1:Int):ρ :=
 p66 fail fu (fun y1=>p65_1L fail fu K0 fu x1 y1) x0 10
def p52 {ρ:Type} (fail:ρ) (fu:Nat) (K0:EL→ρ) (x0:EL) (x1:Int):ρ :=
 p65 fail fu (fun y1=>gd ((x0.length + y1.length) * 1≤35184372088832) fail (K0 (x0++y1))) nilE x1
def p31_1 {ρ:Type} (fail:ρ) (fu:Nat) (K0:EL→ρ) (rec1:EL→Int→Int→ρ) (x1 z1:EL) (z2 z3:Int):ρ :=
 bif (z0a .lss z3 z2) then (gd ((0:Int)≤z3) fail (gd ((z3:Int) < (x1.length:Nat)) fail (w7y fail (List.getD x1 ((z3:Int).toNat) []) (fun c4=>p52 fail fu (fun y5=>rec1 y5 z2 (z0c .add .i64 z3 1)) z1 (IntKind.u64.wrap c4))))) else (K0 z1)
def p31_1L {ρ:Type} (fail:ρ) (fu:Nat) (K0:EL→ρ) (x1:EL):Nat→EL→Int→Int→ρ
 | 0,_,_,_=>fail
 | n + 1,z1,z2,z3=>p31_1 fail fu K0 (p31_1L fail fu K0 x1 n) x1 z1 z2 z3
def p31 {ρ:Type} (fail:ρ) (fu:Nat) (K0:EL→ρ) (x0 x1:EL):ρ :=
 p31_1L fail fu K0 x1 fu x0 ((x1.length:Nat):Int) 0
def p35 {ρ:Type} (fail:ρ) (fu:Nat) (K0:EL→ρ) (x0 x1:EL):ρ :=
 p52 fail fu (fun y1=>gd ((y1.length + x1.length) * 1≤35184372088832) fail (K0 (y1++x1))) x0 (IntKind.u64.wrap ((x1.length:Nat):Int))
def p54_1 {ρ:Type} (fail:ρ) (fu:Nat) (s_p54:(EL→ρ)→EL→Int→Int→EL→ρ) (K0:EL→ρ) (rec1:EL→Int→Int→ρ) (x3 z3:EL) (z4 z5:Int):ρ :=
 bif (z0a .lss z5 z4) then (gd ((0:Int)≤z5) fail (gd ((z5:Int) < (x3.length:Nat)) fail (z0y fail (List.getD x3 ((z5:Int).toNat) []) (fun c6 c7 c8=>s_p54 (fun y9=>rec1 y9 z4 (z0c .add .i64 z5 1)) z3 c6 c7 c8)))) else (K0 z3)
def p54_1L {ρ:Type} (fail:ρ) (fu:Nat) (s_p54:(EL→ρ)→EL→Int→Int→EL→ρ) (K0:EL→ρ) (x3:EL):Nat→EL→Int→Int→ρ
 | 0,_,_,_=>fail
 | n + 1,z3,z4,z5=>p54_1 fail fu s_p54 K0 (p54_1L fail fu s_p54 K0 x3 n) x3 z3 z4 z5
def p54_2 {ρ:Type} (fail:ρ) (fu:Nat) (s_p54:(EL→ρ)→EL→Int→Int→EL→ρ) (K0:EL→ρ) (x3 j2:EL):ρ :=
 p54_1L fail fu s_p54 K0 x3 fu j2 ((x3.length:Nat):Int) 0
def p54_b {ρ:Type} (fail:ρ) (fu:Nat) (s_p54:(EL→ρ)→EL→Int→Int→EL→ρ) (K0:EL→ρ) (x0:EL) (x1 x2:Int) (x3:EL):ρ :=
 gd (1≤[[(CV.v (.int .i64 x1))]].length) fail (p31 fail fu (fun y1=>bif (z0a .eql x1 4) then (gd (1≤[[(CV.v (.int .i64 x2))]].length) fail (p31 fail fu (fun y10=>p54_2 fail fu s_p54 K0 x3 y10) y1 (List.take 1 [[(CV.v (.int .i64 x2))]]))) else (p54_2 fail fu s_p54 K0 x3 y1)) x0 (List.take 1 [[(CV.v (.int .i64 x1))]]))
def p54 {ρ:Type} (fail:ρ):Nat→(EL→ρ)→EL→Int→Int→EL→ρ
 | 0,_,_,_,_,_=>fail
 | n + 1,K0,x0,x1,x2,x3=>p54_b fail n (p54 fail n) K0 x0 x1 x2 x3
def p34_1 {ρ:Type} (fail:ρ) (fu:Nat) (s_p34:(EL→ρ)→EL→Int→Int→ByteArray→EL→EL→ρ) (K0:EL→ρ) (rec2:EL→Int→Int→ρ) (x5 z10:EL) (z11 z12:Int):ρ :=
 bif (z0a .lss z12 z11) then (gd ((0:Int)≤z12) fail (gd ((z12:Int) < (x5.length:Nat)) fail (z0q fail (List.getD x5 ((z12:Int).toNat) []) (fun c13 c14 c15 c16 c17=>s_p34 (fun y18=>rec2 y18 z11 (z0c .add .i64 z12 1)) z10 c13 c14 c15 c16 c17)))) else (K0 z10)
def p34_1L {ρ:Type} (fail:ρ) (fu:Nat) (s_p34:(EL→ρ)→EL→Int→Int→ByteArray→EL→EL→ρ) (K0:EL→ρ) (x5:EL):Nat→EL→Int→Int→ρ
 | 0,_,_,_=>fail
 | n + 1,z10,z11,z12=>p34_1 fail fu s_p34 K0 (p34_1L fail fu s_p34 K0 x5 n) x5 z10 z11 z12
def p34_2 {ρ:Type} (fail:ρ) (fu:Nat) (s_p34:(EL→ρ)→EL→Int→Int→ByteArray→EL→EL→ρ) (K0:EL→ρ) (rec1:EL→Int→Int→ρ) (x4 x5 z3:EL) (z4 z5:Int):ρ :=
 bif (z0a .lss z5 z4) then (gd ((0:Int)≤z5) fail (gd ((z5:Int) < (x4.length:Nat)) fail (z0y fail (List.getD x4 ((z5:Int).toNat) []) (fun c6 c7 c8=>p54 fail fu (fun y9=>rec1 y9 z4 (z0c .add .i64 z5 1)) z3 c6 c7 c8)))) else (p34_1L fail fu s_p34 K0 x5 fu z3 ((x5.length:Nat):Int) 0)
def p34_2L {ρ:Type} (fail:ρ) (fu:Nat) (s_p34:(EL→ρ)→EL→Int→Int→ByteArray→EL→EL→ρ) (K0:EL→ρ) (x4 x5:EL):Nat→EL→Int→Int→ρ
 | 0,_,_,_=>fail
 | n + 1,z3,z4,z5=>p34_2 fail fu s_p34 K0 (p34_2L fail fu s_p34 K0 x4 x5 n) x4 x5 z3 z4 z5
def p34_3 {ρ:Type} (fail:ρ) (fu:Nat) (s_p34:(EL→ρ)→EL→Int→Int→ByteArray→EL→EL→ρ) (K0:EL→ρ) (x4 x5 j2:EL):ρ :=
 p34_2L fail fu s_p34 K0 x4 x5 fu j2 ((x4.length:Nat):Int) 0
def p34_4 {ρ:Type} (fail:ρ) (fu:Nat) (s_p34:(EL→ρ)→EL→Int→Int→ByteArray→EL→EL→ρ) (K0:EL→ρ) (x4 x5 j20:EL):ρ :=
 p34_3 fail fu s_p34 K0 x4 x5 j20
def p34_b {ρ:Type} (fail:ρ) (fu:Nat) (s_p34:(EL→ρ)→EL→Int→Int→ByteArray→EL→EL→ρ) (K0:EL→ρ) (x0:EL) (x1 x2:Int) (x3:ByteArray) (x4 x5:EL):ρ :=
 gd (1≤[[(CV.v (.int .i64 x1))]].length) fail (p31 fail fu (fun y1=>bif (z0a .eql x1 0) then (gd (1≤[[(CV.v (.int .i64 x2))]].length) fail (p31 fail fu (fun y19=>p34_3 fail fu s_p34 K0 x4 x5 y19) y1 (List.take 1 [[(CV.v (.int .i64 x2))]]))) else (bif (z0a .eql x1 2) then (gd (x3.size≤(encB x3.data.toList).length) fail (p35 fail fu (fun y21=>gd (1≤[[(CV.v (.int .i64 ((x4.length:Nat):Int)))]].length) fail (p31 fail fu (fun y22=>p34_4 fail fu s_p34 K0 x4 x5 y22) y21 (List.take 1 [[(CV.v (.int .i64 ((x4.length:Nat):Int)))]]))) y1 (List.take x3.size (encB x3.data.toList)))) else (p34_4 fail fu s_p34 K0 x4 x5 y1))) x0 (List.take 1 [[(CV.v (.int .i64 x1))]]))
def p34 {ρ:Type} (fail:ρ):Nat→(EL→ρ)→EL→Int→Int→ByteArray→EL→EL→ρ
 | 0,_,_,_,_,_,_,_=>fail
 | n + 1,K0,x0,x1,x2,x3,x4,x5=>p34_b fail n (p34 fail n) K0 x0 x1 x2 x3 x4 x5
def numsB (l:List Int):List UInt8:=l.flatMap fun n=>varB (uv n)
theorem w6x (n:Int) (l:List Int):numsB (n :: l)=varB (uv n)++numsB l:=by unfold numsB;rw [List.flatMap_cons]
def txB (s:ByteArray):List UInt8:=varB s.size++s.data.toList
mutual
def Lv.enc:Lv→List UInt8
 | .mk k n l=>varB (uv k)++((if k=4 then varB (uv n) else [])++Lv.encs l)
def Lv.encs:List Lv→List UInt8
 | []=>[]
 | a :: l=>Lv.enc a++Lv.encs l
end
mutual
def Lv.sz:Lv→Nat
 | .mk _ _ l=>1 + Lv.szs l
def Lv.szs:List Lv→Nat
 | []=>0
 | a :: l=>1 + Lv.sz a + Lv.szs l
end
theorem Lv.szs_len:∀ l:List Lv,l.length≤Lv.szs l
 | []=>Nat.zero_le _
 | a :: l=>by have:=Lv.szs_len l;simp only [Lv.szs,List.length_cons];omega
mutual
theorem Lv.sz_enc:∀ l:Lv,l.sz + 1≤2 * l.enc.length
 | .mk k n l=>by
  have:=Lv.szs_enc l
  have h2:=w9r (uv k)
  simp only [Lv.sz,Lv.enc,List.length_append];omega
theorem Lv.szs_enc:∀ l:List Lv,Lv.szs l≤2 * (Lv.encs l).length
 | []=>Nat.zero_le _
 | a :: l=>by
  have:=Lv.sz_enc a
  have h2:=Lv.szs_enc l
  simp only [Lv.szs,Lv.encs,List.length_append];omega
end
theorem w5p {ρ:Type} (fail:ρ) (l:List Lv) (i:Nat) (h:i < l.length) (k:Int→Int→EL→ρ):z0y fail (List.getD (Lv.rows l) (((i:Nat):Int)).toNat []) k=k l[i].k l[i].n (Lv.rows l[i].args):=by
 rw [Int.toNat_natCast,Lv.rows_get h,Lv.row_eq];rfl
theorem Lv.szs_mem:∀ {l:List Lv} {a:Lv},a ∈ l→1 + a.sz≤Lv.szs l
 | b :: l,a,h=>by
  simp only [Lv.szs]
  rcases List.mem_cons.1 h with rfl | h
  ·omega
  ·have:=Lv.szs_mem h;omega
mutual
def Tm.enc:Tm→List UInt8
 | .mk k n s l a=>varB (uv k)++((if k=0 then varB (uv n) else if k=2 then txB s++varB l.length else [])++(Lv.encs l++Tm.encs a))
def Tm.encs:List Tm→List UInt8
 | []=>[]
 | a :: l=>Tm.enc a++Tm.encs l
end
mutual
def Tm.sz:Tm→Nat
 | .mk _ _ s l a=>1 + s.size + Lv.szs l + Tm.szs a
def Tm.szs:List Tm→Nat
 | []=>0
 | a :: l=>1 + Tm.sz a + Tm.szs l
end
theorem Tm.szs_len:∀ l:List Tm,l.length≤Tm.szs l
 | []=>Nat.zero_le _
 | a :: l=>by have:=Tm.szs_len l;simp only [Tm.szs,List.length_cons];omega
theorem Tm.szs_mem:∀ {l:List Tm} {a:Tm},a ∈ l→1 + a.sz≤Tm.szs l
 | b :: l,a,h=>by
  simp only [Tm.szs]
  rcases List.mem_cons.1 h with rfl | h
  ·omega
  ·have:=Tm.szs_mem h;omega
theorem k0s {ρ:Type} (fail:ρ) (l:List Tm) (i:Nat) (h:i < l.length) (k:Int→Int→ByteArray→EL→EL→ρ):z0q fail (List.getD (Tm.rows l) (((i:Nat):Int)).toNat []) k=k l[i].k l[i].n l[i].nm (Lv.rows l[i].ls) (Tm.rows l[i].args):=by
 rw [Int.toNat_natCast,Tm.rows_get h,Tm.row_eq];rfl
theorem z4c {α:Type} {f:Nat→List UInt8→Except Int (α × List UInt8 × Nat)} {g:α→List UInt8} {gs:List α→List UInt8} (h0:gs []=[]) (h1:∀ a l,gs (a :: l)=g a++gs l) (hf:∀ p bs a r q,f p bs=.ok (a,r,q)→bs=g a++r) :
  ∀ (n p:Nat) (bs:List UInt8) (l:List α) (r:List UInt8) (q:Nat),many f n p bs=.ok (l,r,q)→bs=gs l++r
 | 0,p,bs,l,r,q,h=>by simp only [many] at h;injection h with h;injection h with h2 h;injection h with h3 _;subst h2 h3;rw [h0];rfl
 | n + 1,p,bs,l,r,q,h=>by
  simp only [many] at h
  split at h
  ·cases h
  ·rename_i a bs1 p1 ha
   split at h
   ·cases h
   ·rename_i l' bs2 p2 h2
    injection h with h;injection h with h3 h;injection h with h4 h5;subst h3 h4 h5
    rw [h1,hf _ _ _ _ _ ha,z4c h0 h1 hf n p1 bs1 l' bs2 p2 h2,List.append_assoc]
theorem z9a:∀ (left p:Nat) (bs:List UInt8) (l:Lv) (r:List UInt8) (q:Nat),rdLv left p bs=.ok (l,r,q)→bs=l.enc++r
 | 0,p,bs,l,r,q,h=>by simp only [rdLv] at h;split at h<;>cases h
 | left + 1,p,bs,l,r,q,h=>by
  simp only [rdLv] at h
  split at h
  ·cases h
  ·split at h
   ·cases h
   ·rename_i k bs1 hk
    obtain⟨_,h1,_,h2⟩:=z1g hk
    split at h
    ·rename_i k4
     split at h
     ·cases h
     ·rename_i n bs2 hn
      obtain⟨h3,_,h4⟩:=z0t hn
      split at h
      ·cases h
      ·injection h with h;injection h with h5 h;injection h with h6 h7;subst h5 h6 h7
       rw [h2,h4,k4]
       simp only [Lv.enc,Lv.encs,if_pos,z8n n (by omega),List.append_nil,List.append_assoc]
       rfl
    ·rename_i k4
     split at h
     ·cases h
     ·rename_i l2 bs2 p2 hm
      injection h with h;injection h with h5 h;injection h with h6 h7;subst h5 h6 h7
      have:=z4c (g:=Lv.enc) (gs:=Lv.encs) rfl (fun _ _=>rfl) (fun p bs a r q=>z9a left p bs a r q) _ _ _ _ _ _ hm
      rw [h2,this]
      simp only [Lv.enc,z8n k (by omega),if_neg (show ¬ ((k:Nat):Int)=4 by omega),List.nil_append,List.append_assoc]
theorem z7t {bs r:List UInt8} {l:Lv} (h:z2j bs=.ok (l,r)):bs=l.enc++r:=by
 unfold z2j at h;split at h
 ·rename_i l' r' q h'
  injection h with h;injection h with h1 h2;subst h1 h2
  exact z9a _ _ _ _ _ _ h'
 ·cases h
theorem z4h (p:Nat) (bs:List UInt8) (a:Lv) (r:List UInt8) (q:Nat) (h:z1b p bs=.ok (a,r,q)):bs=a.enc++r:=by
 unfold z1b at h;split at h
 ·rename_i l' r' h'
  injection h with h;injection h with h1 h;injection h with h2 h3;subst h1 h2 h3
  exact z7t h'
 ·cases h
theorem w6z:∀ (n p:Nat) (bs:List UInt8) (l:List Lv) (r:List UInt8) (q:Nat),many z1b n p bs=.ok (l,r,q)→l.length=n:=fun n p bs l r q h =>
 (z3a (m:=p) z2t n p bs l r q (Nat.le_refl _) h).2.2
theorem z8z:∀ (left p:Nat) (bs:List UInt8) (t:Tm) (r:List UInt8) (q:Nat),rdTm left p bs=.ok (t,r,q)→bs=t.enc++r
 | 0,p,bs,t,r,q,h=>by simp only [rdTm] at h;split at h<;>cases h
 | left + 1,p,bs,t,r,q,h=>by
  simp only [rdTm] at h
  split at h
  ·cases h
  ·split at h
   ·cases h
   ·rename_i k bs1 hk
    obtain⟨_,h1,_,h2⟩:=z1g hk
    split at h
    ·rename_i k0
     split at h
     ·cases h
     ·rename_i n bs2 hn
      obtain⟨h3,_,h4⟩:=z0t hn
      injection h with h;injection h with h5 h;injection h with h6 h7;subst h5 h6 h7
      rw [h2,h4,k0]
      simp only [Tm.enc,Tm.encs,Lv.encs,if_pos,z8n n (by omega),List.append_nil,List.append_assoc]
      rfl
    ·rename_i k0
     split at h
     ·rename_i k1
      split at h
      ·cases h
      ·rename_i l2 bs2 p2 hm
       injection h with h;injection h with h5 h;injection h with h6 h7;subst h5 h6 h7
       have:=z4c (g:=Lv.enc) (gs:=Lv.encs) rfl (fun _ _=>rfl) z4h _ _ _ _ _ _ hm
       rw [h2,this,k1]
       simp only [Tm.enc,Tm.encs,List.append_nil,List.append_assoc]
       rfl
     ·rename_i k1
      split at h
      ·rename_i k2
       split at h
       ·cases h
       ·rename_i s bs2 hs
        obtain⟨h3,_,h4,h5⟩:=z1n hs
        split at h
        ·cases h
        ·rename_i n bs3 hn
         obtain⟨h6,_,h7⟩:=z0t hn
         split at h
         ·cases h
         ·split at h
          ·cases h
          ·rename_i l2 bs4 p2 hm
           injection h with h;injection h with h8 h;injection h with h9 h10;subst h8 h9 h10
           have:=z4c (g:=Lv.enc) (gs:=Lv.encs) rfl (fun _ _=>rfl) z4h _ _ _ _ _ _ hm
           have hl:=w6z _ _ _ _ _ _ hm
           have hsz:(⟨s.toArray⟩:ByteArray).size=s.length:=by simp [ByteArray.size]
           rw [h2,h4,h7,this,k2]
           simp only [Tm.enc,Tm.encs,txB,hsz,hl,List.append_nil,List.append_assoc]
           rw [if_neg (show ¬ (2:Int)=0 by decide),if_pos trivial,show uv 2=2 from rfl]
           simp only [List.append_assoc]
      ·rename_i k2
       split at h
       ·cases h
       ·rename_i l2 bs2 p2 hm
        injection h with h;injection h with h5 h;injection h with h6 h7;subst h5 h6 h7
        have:=z4c (g:=Tm.enc) (gs:=Tm.encs) rfl (fun _ _=>rfl) (fun p bs a r q=>z8z left p bs a r q) _ _ _ _ _ _ hm
        rw [h2,this]
        simp only [Tm.enc,Lv.encs,z8n k (by omega),if_neg (show ¬ ((k:Nat):Int)=0 by omega),if_neg (show ¬ ((k:Nat):Int)=2 by omega),List.nil_append,List.append_assoc]
theorem z0w {bs r:List UInt8} {t:Tm} (h:z0j bs=.ok (t,r)):bs=t.enc++r:=by
 unfold z0j at h;split at h
 ·rename_i l' r' q h'
  injection h with h;injection h with h1 h2;subst h1 h2
  exact z8z _ _ _ _ _ _ h'
 ·cases h
theorem z7i {bs r:List UInt8} {t:Tm} (h:z0j bs=.ok (t,r)):r.length≤bs.length:=by
 rw [z0w h,List.length_append];omega
theorem z9j {α:Type} {f:Nat→List UInt8→Except Int (α × List UInt8 × Nat)} {g:α→Nat} {gs:List α→Nat} (h0:gs []=0) (h1:∀ a l,gs (a :: l)=1 + g a + gs l) (hf:∀ p bs a r q,f p bs=.ok (a,r,q)→1 + g a + 2 * r.length≤2 * bs.length) :
  ∀ (n p:Nat) (bs:List UInt8) (l:List α) (r:List UInt8) (q:Nat),many f n p bs=.ok (l,r,q)→gs l + 2 * r.length≤2 * bs.length
 | 0,p,bs,l,r,q,h=>by simp only [many] at h;injection h with h;injection h with h2 h;injection h with h3 _;subst h2 h3;rw [h0];omega
 | n + 1,p,bs,l,r,q,h=>by
  simp only [many] at h
  split at h
  ·cases h
  ·rename_i a bs1 p1 ha
   split at h
   ·cases h
   ·rename_i l' bs2 p2 h2
    injection h with h;injection h with h3 h;injection h with h4 h5;subst h3 h4 h5
    have:=hf _ _ _ _ _ ha
    have h6:=z9j h0 h1 hf n p1 bs1 l' bs2 p2 h2
    rw [h1];omega
theorem z9c (p:Nat) (bs:List UInt8) (a:Lv) (r:List UInt8) (q:Nat) (h:z1b p bs=.ok (a,r,q)):1 + a.sz + 2 * r.length≤2 * bs.length:=by
 have:=Lv.sz_enc a
 rw [z4h _ _ _ _ _ h,List.length_append];omega
theorem w8b:∀ (left p:Nat) (bs:List UInt8) (t:Tm) (r:List UInt8) (q:Nat),rdTm left p bs=.ok (t,r,q)→1 + t.sz + 2 * r.length≤2 * bs.length
 | 0,p,bs,t,r,q,h=>by simp only [rdTm] at h;split at h<;>cases h
 | left + 1,p,bs,t,r,q,h=>by
  simp only [rdTm] at h
  split at h
  ·cases h
  ·split at h
   ·cases h
   ·rename_i k bs1 hk
    obtain⟨_,h1,h2,_⟩:=z1g hk
    split at h
    ·split at h
     ·cases h
     ·rename_i n bs2 hn
      obtain⟨h3,h4,_⟩:=z0t hn
      injection h with h;injection h with h5 h;injection h with h6 h7;subst h5 h6 h7
      simp only [Tm.sz,Lv.szs,Tm.szs]
      have:(⟨#[]⟩:ByteArray).size=0:=rfl
      omega
    ·split at h
     ·split at h
      ·cases h
      ·rename_i l2 bs2 p2 hm
       injection h with h;injection h with h5 h;injection h with h6 h7;subst h5 h6 h7
       have:=z9j (g:=Lv.sz) (gs:=Lv.szs) rfl (fun _ _=>rfl) z9c _ _ _ _ _ _ hm
       simp only [Tm.sz,Tm.szs]
       have:(⟨#[]⟩:ByteArray).size=0:=rfl
       omega
     ·split at h
      ·split at h
       ·cases h
       ·rename_i s bs2 hs
        obtain⟨h3,_,h4,h5⟩:=z1n hs
        split at h
        ·cases h
        ·rename_i n bs3 hn
         obtain⟨h6,h7,_⟩:=z0t hn
         split at h
         ·cases h
         ·split at h
          ·cases h
          ·rename_i l2 bs4 p2 hm
           injection h with h;injection h with h8 h;injection h with h9 h10;subst h8 h9 h10
           have:=z9j (g:=Lv.sz) (gs:=Lv.szs) rfl (fun _ _=>rfl) z9c _ _ _ _ _ _ hm
           have hsz:(⟨s.toArray⟩:ByteArray).size=s.length:=by simp [ByteArray.size]
           have hb1:bs1.length=(varB s.length).length + (s.length + bs2.length):=by rw [h4];simp
           simp only [Tm.sz,Tm.szs,hsz]
           omega
      ·split at h
       ·cases h
       ·rename_i l2 bs2 p2 hm
        injection h with h;injection h with h5 h;injection h with h6 h7;subst h5 h6 h7
        have:=z9j (g:=Tm.sz) (gs:=Tm.szs) rfl (fun _ _=>rfl) (fun p bs a r q=>w8b left p bs a r q) _ _ _ _ _ _ hm
        simp only [Tm.sz,Lv.szs]
        have:(⟨#[]⟩:ByteArray).size=0:=rfl
        omega
theorem z6j {bs r:List UInt8} {t:Tm} (h:z0j bs=.ok (t,r)):1 + t.sz + 2 * r.length≤2 * bs.length:=by
 unfold z0j at h;split at h
 ·rename_i l' r' q h'
  injection h with h;injection h with h1 h2;subst h1 h2
  exact w8b _ _ _ _ _ _ h'
 ·cases h
theorem bsz (s:List UInt8):(⟨s.toArray⟩:ByteArray).size=s.length:=by simp [ByteArray.size]
theorem k0r (s:List UInt8):txB ⟨s.toArray⟩=varB s.length++s:=by simp [txB,bsz]
def tm0:Tm:=.mk 0 0 ⟨#[]⟩ [] []
def p18_1 {ρ:Type} (fail:ρ) (fu:Nat) (K0:Int→Int→Int→ByteArray→ByteArray→Int→Int→ByteArray→EL→EL→Int→Int→ByteArray→EL→EL→EL→EL→Int→ρ) (rec1:EL→Int→EL→Int→ρ) (z46:EL) (z47:Int) (s51:ByteArray) (j52:EL) (j53 j54 j55:Int) (j56:ByteArray) (j57 j58:EL):ρ :=
 gd (1≤[[(CV.v (.string s51)),(CV.v (.int .i64 j54)),(CV.v (.int .i64 j55)),(CV.v (.string j56)),(CV.sl 3 j57 none),(CV.sl 5 j58 none)]].length) fail (gd ((z46.length + (List.take 1 [[(CV.v (.string s51)),(CV.v (.int .i64 j54)),(CV.v (.int .i64 j55)),(CV.v (.string j56)),(CV.sl 3 j57 none),(CV.sl 5 j58 none)]]).length) * 96≤35184372088832) fail (rec1 j52 j53 (z46++(List.take 1 [[(CV.v (.string s51)),(CV.v (.int .i64 j54)),(CV.v (.int .i64 j55)),(CV.v (.string j56)),(CV.sl 3 j57 none),(CV.sl 5 j58 none)]])) (z0c .add .i64 z47 1)))
def p18_2 {ρ:Type} (fail:ρ) (fu:Nat) (K0:Int→Int→Int→ByteArray→ByteArray→Int→Int→ByteArray→EL→EL→Int→Int→ByteArray→EL→EL→EL→EL→Int→ρ) (rec1:EL→Int→EL→Int→ρ) (y1 y4 y7:Int) (s13 s17:ByteArray) (j20 j21:Int) (j22:ByteArray) (j23 j24:EL) (j34 j35:Int) (j36:ByteArray) (j37 j38:EL) (y39:Int) (z44:EL) (z45:Int) (z46:EL) (z47:Int):ρ :=
 bif (z0a .lss z47 y39) then (bif (z0a .neq z45 0) then (K0 y1 y4 y7 s13 s17 j20 j21 j22 j23 j24 j34 j35 j36 j37 j38 z46 z44 z45) else (p20 fail fu (fun y48 y49 y50=>tobP fail y48 (fun s51=>bif (z0a .eql y50 0) then (p19 fail fu (fun y59 y60 y61 y62 y63 y64 y65=>p18_1 fail fu K0 rec1 z46 z47 s51 y64 y65 y59 y60 y61 y62 y63) y49 y50) else (p18_1 fail fu K0 rec1 z46 z47 s51 y49 y50 0 0 ⟨#[]⟩ nilE nilE))) z44 z45 24)) else (K0 y1 y4 y7 s13 s17 j20 j21 j22 j23 j24 j34 j35 j36 j37 j38 z46 z44 z45)
def p18_2L {ρ:Type} (fail:ρ) (fu:Nat) (K0:Int→Int→Int→ByteArray→ByteArray→Int→Int→ByteArray→EL→EL→Int→Int→ByteArray→EL→EL→EL→EL→Int→ρ) (y1 y4 y7:Int) (s13 s17:ByteArray) (j20 j21:Int) (j22:ByteArray) (j23 j24:EL) (j34 j35:Int) (j36:ByteArray) (j37 j38:EL) (y39:Int):Nat→EL→Int→EL→Int→ρ
 | 0,_,_,_,_=>fail
 | n + 1,z44,z45,z46,z47=>p18_2 fail fu K0 (p18_2L fail fu K0 y1 y4 y7 s13 s17 j20 j21 j22 j23 j24 j34 j35 j36 j37 j38 y39 n) y1 y4 y7 s13 s17 j20 j21 j22 j23 j24 j34 j35 j36 j37 j38 y39 z44 z45 z46 z47
def p18_3 {ρ:Type} (fail:ρ) (fu:Nat) (K0:Int→Int→Int→ByteArray→ByteArray→Int→Int→ByteArray→EL→EL→Int→Int→ByteArray→EL→EL→EL→EL→Int→ρ) (y1 y4 y7:Int) (s13 s17:ByteArray) (j20 j21:Int) (j22:ByteArray) (j23 j24:EL) (j34 j35:Int) (j36:ByteArray) (j37 j38:EL) (y39:Int) (j42:EL) (j43:Int):ρ :=
 p18_2L fail fu K0 y1 y4 y7 s13 s17 j20 j21 j22 j23 j24 j34 j35 j36 j37 j38 y39 fu j42 j43 nilE 0
def p18_4 {ρ:Type} (fail:ρ) (fu:Nat) (K0:Int→Int→Int→ByteArray→ByteArray→Int→Int→ByteArray→EL→EL→Int→Int→ByteArray→EL→EL→EL→EL→Int→ρ) (y1 y4 y7:Int) (s13 s17:ByteArray) (j20 j21:Int) (j22:ByteArray) (j23 j24 j32:EL) (j33 j34 j35:Int) (j36:ByteArray) (j37 j38:EL):ρ :=
 p16 fail fu (fun y39 y40 y41=>bif (z0a .gtr y39 5) then (p15 fail fu (fun y66 y67=>p18_3 fail fu K0 y1 y4 y7 s13 s17 j20 j21 j22 j23 j24 j34 j35 j36 j37 j38 y39 y66 y67) y40 y41 3) else (p18_3 fail fu K0 y1 y4 y7 s13 s17 j20 j21 j22 j23 j24 j34 j35 j36 j37 j38 y39 y40 y41)) j32 j33
def p18_5 {ρ:Type} (fail:ρ) (fu:Nat) (K0:Int→Int→Int→ByteArray→ByteArray→Int→Int→ByteArray→EL→EL→Int→Int→ByteArray→EL→EL→EL→EL→Int→ρ) (y1 y4 y7:Int) (s13 s17:ByteArray) (j20 j21:Int) (j22:ByteArray) (j23 j24 j29:EL) (j30:Int) (j31:Bool):ρ :=
 bif j31 then (p19 fail fu (fun y68 y69 y70 y71 y72 y73 y74=>p18_4 fail fu K0 y1 y4 y7 s13 s17 j20 j21 j22 j23 j24 y73 y74 y68 y69 y70 y71 y72) j29 j30) else (p18_4 fail fu K0 y1 y4 y7 s13 s17 j20 j21 j22 j23 j24 j29 j30 0 0 ⟨#[]⟩ nilE nilE)
def p18_6 {ρ:Type} (fail:ρ) (fu:Nat) (K0:Int→Int→Int→ByteArray→ByteArray→Int→Int→ByteArray→EL→EL→Int→Int→ByteArray→EL→EL→EL→EL→Int→ρ) (y1 y4 y7:Int) (s13 s17:ByteArray) (j20 j21:Int) (j22:ByteArray) (j23 j24:EL) (y25:Int) (j29:EL) (j30:Int):ρ :=
 bif (z0a .eql j30 0) then (p18_5 fail fu K0 y1 y4 y7 s13 s17 j20 j21 j22 j23 j24 j29 j30 (z0a .eql y25 1)) else (p18_5 fail fu K0 y1 y4 y7 s13 s17 j20 j21 j22 j23 j24 j29 j30 false)
def p18_7 {ρ:Type} (fail:ρ) (fu:Nat) (K0:Int→Int→Int→ByteArray→ByteArray→Int→Int→ByteArray→EL→EL→Int→Int→ByteArray→EL→EL→EL→EL→Int→ρ) (y1 y4 y7:Int) (s13 s17:ByteArray) (j20 j21:Int) (j22:ByteArray) (j23 j24:EL) (y25:Int) (y26:EL) (y27:Int) (j28:Bool):ρ :=
 bif j28 then (p15 fail fu (fun y75 y76=>p18_6 fail fu K0 y1 y4 y7 s13 s17 j20 j21 j22 j23 j24 y25 y75 y76) y26 y27 5) else (p18_6 fail fu K0 y1 y4 y7 s13 s17 j20 j21 j22 j23 j24 y25 y26 y27)
def p18_8 {ρ:Type} (fail:ρ) (fu:Nat) (K0:Int→Int→Int→ByteArray→ByteArray→Int→Int→ByteArray→EL→EL→Int→Int→ByteArray→EL→EL→EL→EL→Int→ρ) (y1 y4 y7:Int) (s13 s17:ByteArray) (j18:EL) (j19 j20 j21:Int) (j22:ByteArray) (j23 j24:EL):ρ :=
 p41 fail fu (fun y25 y26 y27=>bif (z0a .gtr y25 1) then (p18_7 fail fu K0 y1 y4 y7 s13 s17 j20 j21 j22 j23 j24 y25 y26 y27 true) else (p18_7 fail fu K0 y1 y4 y7 s13 s17 j20 j21 j22 j23 j24 y25 y26 y27 (!((z0a .eql y25 1) == (z0a .eql y1 2))))) j18 j19
def p18 {ρ:Type} (fail:ρ) (fu:Nat) (K0:Int→Int→Int→ByteArray→ByteArray→Int→Int→ByteArray→EL→EL→Int→Int→ByteArray→EL→EL→EL→EL→Int→ρ) (x0:EL) (x1:Int):ρ :=
 p13 fail fu (fun y1 y2 y3=>p16 fail fu (fun y4 y5 y6=>p16 fail fu (fun y7 y8 y9=>p20 fail fu (fun y10 y11 y12=>tobP fail y10 (fun s13=>p20 fail fu (fun y14 y15 y16=>tobP fail y14 (fun s17=>bif (z0a .eql y16 0) then (p19 fail fu (fun y77 y78 y79 y80 y81 y82 y83=>p18_8 fail fu K0 y1 y4 y7 s13 s17 y82 y83 y77 y78 y79 y80 y81) y15 y16) else (p18_8 fail fu K0 y1 y4 y7 s13 s17 y15 y16 0 0 ⟨#[]⟩ nilE nilE))) y11 y12 24)) y8 y9 24) y5 y6) y2 y3) x0 x1 1 5
def p33_1 {ρ:Type} (fail:ρ) (fu:Nat) (K0:EL→ρ) (rec1:EL→Int→Int→ρ) (x16 z7:EL) (z8 z9:Int):ρ :=
 bif (z0a .lss z9 z8) then (gd ((0:Int)≤z9) fail (gd ((z9:Int) < (x16.length:Nat)) fail (z0p fail (List.getD x16 ((z9:Int).toNat) []) (fun c10 c11 c12 c13 c14 c15=>gd (c10.size≤(encB c10.data.toList).length) fail (p35 fail fu (fun y16=>p34 fail fu (fun y17=>rec1 y17 z8 (z0c .add .i64 z9 1)) y16 c11 c12 c13 c14 c15) z7 (List.take c10.size (encB c10.data.toList))))))) else (K0 z7)
def p33_1L {ρ:Type} (fail:ρ) (fu:Nat) (K0:EL→ρ) (x16:EL):Nat→EL→Int→Int→ρ
 | 0,_,_,_=>fail
 | n + 1,z7,z8,z9=>p33_1 fail fu K0 (p33_1L fail fu K0 x16 n) x16 z7 z8 z9
def p33_2 {ρ:Type} (fail:ρ) (fu:Nat) (K0:EL→ρ) (x16 j5:EL):ρ :=
 gd (1≤[[(CV.v (.int .i64 ((x16.length:Nat):Int)))]].length) fail (p31 fail fu (fun y6=>p33_1L fail fu K0 x16 fu y6 ((x16.length:Nat):Int) 0) j5 (List.take 1 [[(CV.v (.int .i64 ((x16.length:Nat):Int)))]]))
def p33 {ρ:Type} (fail:ρ) (fu:Nat) (K0:EL→ρ) (x0:EL) (x1 x2 x3:Int) (x4 x5:ByteArray) (x6 x7:Int) (x8:ByteArray) (x9 x10:EL) (x11 x12:Int) (x13:ByteArray) (x14 x15 x16:EL):ρ :=
 gd (3≤[[(CV.v (.int .i64 x1))],[(CV.v (.int .i64 x2))],[(CV.v (.int .i64 x3))]].length) fail (p31 fail fu (fun y1=>gd (x4.size≤(encB x4.data.toList).length) fail (p35 fail fu (fun y2=>gd (x5.size≤(encB x5.data.toList).length) fail (p35 fail fu (fun y3=>p34 fail fu (fun y4=>bif (z0a .eql x1 2) then (gd (1≤[[(CV.v (.int .i64 1))]].length) fail (p31 fail fu (fun y18=>p34 fail fu (fun y19=>p33_2 fail fu K0 x16 y19) y18 x11 x12 x13 x14 x15) y4 (List.take 1 [[(CV.v (.int .i64 1))]]))) else (gd (1≤[[(CV.v (.int .i64 0))]].length) fail (p31 fail fu (fun y20=>p33_2 fail fu K0 x16 y20) y4 (List.take 1 [[(CV.v (.int .i64 0))]])))) y3 x6 x7 x8 x9 x10) y2 (List.take x5.size (encB x5.data.toList)))) y1 (List.take x4.size (encB x4.data.toList)))) x0 (List.take 3 [[(CV.v (.int .i64 x1))],[(CV.v (.int .i64 x2))],[(CV.v (.int .i64 x3))]]))
def ctRow (c:ByteArray × Tm):List CV:=[.v (.string c.1),.v (.int .i64 c.2.k),.v (.int .i64 c.2.n),.v (.string c.2.nm),.sl 3 (Lv.rows c.2.ls) none,.sl 5 (Tm.rows c.2.args) none]
structure Dc where
 k:Int
 pa:Int
 ct:Int
 nm:ByteArray
 fam:ByteArray
 ty:Tm
 val:Tm
 cs:List (ByteArray × Tm)
def rdCt (p:Nat) (bs:List UInt8):Except Int ((ByteArray × Tm) × List UInt8 × Nat):=match rdTxt 24 bs with
 | .error e=>.error e
 | .ok (s,bs)=>match z0j bs with
  | .error e=>.error e
  | .ok (t,bs)=>.ok ((⟨s.toArray⟩,t),bs,p)
def rdVal (k:Nat) (bs:List UInt8):Except Int (Tm × List UInt8):=match rdV bs with
 | .error e=>.error e
 | .ok (v,bs)=>if 1 < v∨((v=1) ↔ ¬ (k=2)) then .error 5 else if v=1 then z0j bs else .ok (tm0,bs)
def rdCts (bs:List UInt8):Except Int (List (ByteArray × Tm) × List UInt8):=match rdNum bs with
 | .error e=>.error e
 | .ok (n,bs)=>if 5 < n then .error 3 else match many rdCt n 0 bs with
  | .error e=>.error e
  | .ok (l,bs,_)=>.ok (l,bs)
def z7s (k:Nat) (bs:List UInt8):Except Int (Tm × List (ByteArray × Tm) × List UInt8):=match rdVal k bs with
 | .error e=>.error e
 | .ok (val,bs)=>match rdCts bs with
  | .error e=>.error e
  | .ok (cs,bs)=>.ok (val,cs,bs)
def rdD6 (k:Nat) (bs:List UInt8):Except Int (Tm × Tm × List (ByteArray × Tm) × List UInt8):=match z0j bs with
 | .error e=>.error e
 | .ok (ty,bs)=>match z7s k bs with
  | .error e=>.error e
  | .ok (val,cs,bs)=>.ok (ty,val,cs,bs)
def rdD5 (k:Nat) (bs:List UInt8):Except Int (ByteArray × Tm × Tm × List (ByteArray × Tm) × List UInt8):=match rdTxt 24 bs with
 | .error e=>.error e
 | .ok (s,bs)=>match rdD6 k bs with
  | .error e=>.error e
  | .ok x=>.ok (⟨s.toArray⟩,x)
def rdD4 (k:Nat) (bs:List UInt8):Except Int (ByteArray × ByteArray × Tm × Tm × List (ByteArray × Tm) × List UInt8):=match rdTxt 24 bs with
 | .error e=>.error e
 | .ok (s,bs)=>match rdD5 k bs with
  | .error e=>.error e
  | .ok x=>.ok (⟨s.toArray⟩,x)
def rdD3 (k:Nat) (bs:List UInt8):Except Int (Nat × ByteArray × ByteArray × Tm × Tm × List (ByteArray × Tm) × List UInt8):=match rdNum bs with
 | .error e=>.error e
 | .ok (n,bs)=>match rdD4 k bs with
  | .error e=>.error e
  | .ok x=>.ok (n,x)
def rdD2 (k:Nat) (bs:List UInt8):Except Int (Nat × Nat × ByteArray × ByteArray × Tm × Tm × List (ByteArray × Tm) × List UInt8):=match rdNum bs with
 | .error e=>.error e
 | .ok (n,bs)=>match rdD3 k bs with
  | .error e=>.error e
  | .ok x=>.ok (n,x)
def z1i (bs:List UInt8):Except Int (Dc × List UInt8):=match z2c 1 5 bs with
 | .error e=>.error e
 | .ok (k,bs)=>match rdD2 k bs with
  | .error e=>.error e
  | .ok (pa,ct,nm,fam,ty,val,cs,bs)=>.ok (⟨(k:Nat),(pa:Nat),(ct:Nat),nm,fam,ty,val,cs⟩,bs)
abbrev DK (ρ:Type):=Int→Int→Int→ByteArray→ByteArray→Int→Int→ByteArray→EL→EL→Int→Int→ByteArray→EL→EL→EL→EL→Int→ρ
def DErr {ρ:Type} (p:DK ρ→ρ) (e:Int):Prop:=e≠0∧∃ a b c d f g h i j k l m n o q r s,∀ K:DK ρ,p K=K a b c d f g h i j k l m n o q r s e
def DOut {ρ:Type} (p:DK ρ→ρ):Except Int (Dc × List UInt8)→Prop
 | .ok (d,bs)=>∀ K:DK ρ,p K=K d.k d.pa d.ct d.nm d.fam d.ty.k d.ty.n d.ty.nm (Lv.rows d.ty.ls) (Tm.rows d.ty.args) d.val.k d.val.n d.val.nm (Lv.rows d.val.ls) (Tm.rows d.val.args) (d.cs.map ctRow) (encB bs) 0
 | .error e=>DErr p e
theorem DErr.of {ρ:Type} {p:DK ρ→ρ} {e:Int} (he:e≠0) {a b c:Int} {d f:ByteArray} {g h:Int} {i:ByteArray} {j k:EL} {l m:Int} {n:ByteArray} {o q r s:EL} (hp:∀ K:DK ρ,p K=K a b c d f g h i j k l m n o q r s e):DErr p e:=⟨he,a,b,c,d,f,g,h,i,j,k,l,m,n,o,q,r,s,hp⟩
theorem DErr.eq {ρ:Type} {p p':DK ρ→ρ} {e:Int} (h:DErr p' e) (hp:∀ K,p K=p' K):DErr p e:=by
 obtain⟨he,a,b,c,d,f,g,h,i,j,k,l,m,n,o,q,r,s,h1⟩:=h
 exact DErr.of he fun K=>(hp K).trans (h1 K)
section
variable {ρ:Type} (fail:ρ) (fu:Nat) (hfu:200≤fu)
section
variable (y1 y4 y7:Int) (s13 s17:ByteArray) (j20 j21:Int) (j22:ByteArray) (j23 j24:EL)
section
variable (j34 j35:Int) (j36:ByteArray) (j37 j38:EL)
include hfu
theorem k1e (N:Nat) (hN:N≤1099511627776):∀ (r n:Nat) (bs:List UInt8) (p:Nat) (z:EL) (i:Nat),bs.length≤N→z.length≤i→i + r≤1000→r < n →
  match many rdCt r p bs with
  | .ok (l,bs',_)=>∀ K:DK ρ,p18_2L fail fu K y1 y4 y7 s13 s17 j20 j21 j22 j23 j24 j34 j35 j36 j37 j38 ((i + r:Nat):Int) n (encB bs) 0 z (i:Nat)=K y1 y4 y7 s13 s17 j20 j21 j22 j23 j24 j34 j35 j36 j37 j38 (z++l.map ctRow) (encB bs') 0
  | .error e=>DErr (fun K=>p18_2L fail fu K y1 y4 y7 s13 s17 j20 j21 j22 j23 j24 j34 j35 j36 j37 j38 ((i + r:Nat):Int) n (encB bs) 0 z (i:Nat)) e
 | 0,n + 1,bs,p,z,i,hb,hz,hi,hn=>by
  simp only [many]
  intro K
  rw [p18_2L,p18_2,lssF (by omega),cond_false]
  simp
 | r + 1,n + 1,bs,p,z,i,hb,hz,hi,hn=>by
  have htxt:=z7e (ρ:=ρ) fail fu (by omega) bs (by omega) 24 (by omega)
  simp only [many]
  have step:∀ K:DK ρ,p18_2L fail fu K y1 y4 y7 s13 s17 j20 j21 j22 j23 j24 j34 j35 j36 j37 j38 ((i + (r + 1):Nat):Int) (n + 1) (encB bs) 0 z (i:Nat)=p20 fail fu (fun y48 y49 y50=>tobP fail y48 (fun s51=>bif (z0a .eql y50 0) then (p19 fail fu (fun y59 y60 y61 y62 y63 y64 y65=>p18_2L fail fu K y1 y4 y7 s13 s17 j20 j21 j22 j23 j24 j34 j35 j36 j37 j38 ((i + 1 + r:Nat):Int) n y64 y65 (z++[[.v (.string s51),.v (.int .i64 y59),.v (.int .i64 y60),.v (.string y61),.sl 3 y62 none,.sl 5 y63 none]]) ((i + 1:Nat):Int)) y49 y50) else (p18_2L fail fu K y1 y4 y7 s13 s17 j20 j21 j22 j23 j24 j34 j35 j36 j37 j38 ((i + 1 + r:Nat):Int) n y49 y50 (z++[[.v (.string s51),.v (.int .i64 0),.v (.int .i64 0),.v (.string ⟨#[]⟩),.sl 3 nilE none,.sl 5 nilE none]]) ((i + 1:Nat):Int)))) (encB bs) 0 ((24:Nat):Int):=fun K=>by
   have h1:∀ (a:ByteArray) (b c:Int) (d:ByteArray) (l g B:EL) (e:Int),p18_1 fail fu K (p18_2L fail fu K y1 y4 y7 s13 s17 j20 j21 j22 j23 j24 j34 j35 j36 j37 j38 ((i + 1 + r:Nat):Int) n) z ((i:Nat):Int) a B e b c d l g=p18_2L fail fu K y1 y4 y7 s13 s17 j20 j21 j22 j23 j24 j34 j35 j36 j37 j38 ((i + 1 + r:Nat):Int) n B e (z++[[.v (.string a),.v (.int .i64 b),.v (.int .i64 c),.v (.string d),.sl 3 l none,.sl 5 g none]]) ((i + 1:Nat):Int):=fun a b c d l g B e=>by
    rw [p18_1,gd_y (by simp),gd_y (by simp;omega),addZ (by omega) (by omega),show ((i:Nat):Int) + 1=((i + 1:Nat):Int) by omega]
    rfl
   rw [p18_2L,p18_2,lssT (by omega),cond_true,neqF rfl,cond_false,show i + (r + 1)=i + 1 + r by omega]
   simp only [h1]
   rfl
  have dead:∀ (B:EL) (e:Int) (w:EL),e≠0→∀ K:DK ρ,p18_2L fail fu K y1 y4 y7 s13 s17 j20 j21 j22 j23 j24 j34 j35 j36 j37 j38 ((i + 1 + r:Nat):Int) n B e w ((i + 1:Nat):Int)=K y1 y4 y7 s13 s17 j20 j21 j22 j23 j24 j34 j35 j36 j37 j38 w B e:=fun B e w he K=>by
   obtain⟨n,rfl⟩:∃ n',n=n' + 1:=⟨n - 1,by omega⟩
   rw [p18_2L,p18_2]
   by_cases h0:r=0
   ·rw [lssF (by omega),cond_false]
   ·rw [lssT (by omega),cond_true,neqT he,cond_true]
  unfold rdCt
  cases ht:rdTxt 24 bs with
  | error e =>
   rw [ht] at htxt
   obtain⟨he,B,hB⟩:=htxt
   dsimp only at hB
   refine DErr.of (a:=y1) (b:=y4) (c:=y7) (d:=s13) (f:=s17) (g:=j20) (h:=j21) (i:=j22) (j:=j23) (k:=j24) (l:=j34) (m:=j35) (n:=j36) (o:=j37) (q:=j38) (r:=z++[[.v (.string ⟨#[]⟩),.v (.int .i64 0),.v (.int .i64 0),.v (.string ⟨#[]⟩),.sl 3 nilE none,.sl 5 nilE none]]) (s:=B) he fun K=>?_
   exact (step K).trans ((hB _).trans (by rw [show (nilE:EL)=encB [] from rfl,z1u,eqlF he,cond_false];exact dead B e _ he K))
  | ok x =>
   obtain⟨sx,bs1⟩:=x
   have ht1:=z1n ht
   rw [ht] at htxt
   simp only [SOut] at htxt
   have htm:=z6a (ρ:=ρ) fail fu (by omega) bs1 (by omega)
   have step2:∀ K:DK ρ,p18_2L fail fu K y1 y4 y7 s13 s17 j20 j21 j22 j23 j24 j34 j35 j36 j37 j38 ((i + (r + 1):Nat):Int) (n + 1) (encB bs) 0 z (i:Nat)=p19 fail fu (fun y59 y60 y61 y62 y63 y64 y65=>p18_2L fail fu K y1 y4 y7 s13 s17 j20 j21 j22 j23 j24 j34 j35 j36 j37 j38 ((i + 1 + r:Nat):Int) n y64 y65 (z++[[.v (.string ⟨sx.toArray⟩),.v (.int .i64 y59),.v (.int .i64 y60),.v (.string y61),.sl 3 y62 none,.sl 5 y63 none]]) ((i + 1:Nat):Int)) (encB bs1) 0:=fun K=>by
    rw [step,htxt,z1u,eqlT rfl,cond_true]
   try dsimp only
   cases htt:z0j bs1 with
   | error e =>
    rw [htt] at htm
    obtain⟨he,a,b,c,l,g,B,hB⟩:=htm
    dsimp only at hB
    refine DErr.of (a:=y1) (b:=y4) (c:=y7) (d:=s13) (f:=s17) (g:=j20) (h:=j21) (i:=j22) (j:=j23) (k:=j24) (l:=j34) (m:=j35) (n:=j36) (o:=j37) (q:=j38) (r:=z++[[.v (.string ⟨sx.toArray⟩),.v (.int .i64 a),.v (.int .i64 b),.v (.string c),.sl 3 l none,.sl 5 g none]]) (s:=B) he fun K=>?_
    exact (step2 K).trans ((hB _).trans (dead B e _ he K))
   | ok x =>
    obtain⟨t,bs2⟩:=x
    have hsub:=z7i htt
    rw [htt] at htm
    simp only [TmO2] at htm
    have ih:=k1e N hN r n bs2 p (z++[ctRow (⟨sx.toArray⟩,t)]) (i + 1) (by omega) (by simp;omega) (by omega) (by omega)
    have hrow:∀ K:DK ρ,p18_2L fail fu K y1 y4 y7 s13 s17 j20 j21 j22 j23 j24 j34 j35 j36 j37 j38 ((i + (r + 1):Nat):Int) (n + 1) (encB bs) 0 z (i:Nat)=p18_2L fail fu K y1 y4 y7 s13 s17 j20 j21 j22 j23 j24 j34 j35 j36 j37 j38 ((i + 1 + r:Nat):Int) n (encB bs2) 0 (z++[ctRow (⟨sx.toArray⟩,t)]) ((i + 1:Nat):Int):=fun K=>by
     rw [step2,htm];rfl
    try dsimp only
    have hfold:many (fun p bs=>match rdTxt 24 bs with | .error e=>Except.error e | .ok (s,bs)=>match z0j bs with | .error e=>.error e | .ok (t,bs)=>.ok (((⟨s.toArray⟩:ByteArray),t),bs,p)) r p bs2=many rdCt r p bs2:=rfl
    rw [hfold]
    cases hm:many rdCt r p bs2 with
    | error e =>
     rw [hm] at ih
     exact DErr.eq ih hrow
    | ok x =>
     obtain⟨l,bs3,p2⟩:=x
     rw [hm] at ih
     intro K
     rw [hrow,ih,List.append_assoc];rfl
theorem dead4 (B:EL) (e:Int) (he:e≠0) (K:DK ρ):p18_4 fail fu K y1 y4 y7 s13 s17 j20 j21 j22 j23 j24 B e j34 j35 j36 j37 j38=K y1 y4 y7 s13 s17 j20 j21 j22 j23 j24 j34 j35 j36 j37 j38 nilE B e:=by
 rw [p18_4,numE _ _ _ _ _ he,gtrF (by omega),cond_false,p18_3]
 obtain⟨m,hm⟩:∃ m,fu=m + 1:=⟨fu - 1,by omega⟩
 have:∀ m',m'=m + 1→p18_2L fail fu K y1 y4 y7 s13 s17 j20 j21 j22 j23 j24 j34 j35 j36 j37 j38 0 m' B e nilE 0=K y1 y4 y7 s13 s17 j20 j21 j22 j23 j24 j34 j35 j36 j37 j38 nilE B e:=fun m' h=>by
  subst h;rw [p18_2L,p18_2,lssF (by omega),cond_false]
 exact this fu hm
theorem k1d (bs:List UInt8) (hb:bs.length≤1099511627776):match rdCts bs with
  | .ok (l,bs')=>∀ K:DK ρ,p18_4 fail fu K y1 y4 y7 s13 s17 j20 j21 j22 j23 j24 (encB bs) 0 j34 j35 j36 j37 j38=K y1 y4 y7 s13 s17 j20 j21 j22 j23 j24 j34 j35 j36 j37 j38 (l.map ctRow) (encB bs') 0
  | .error e=>DErr (fun K=>p18_4 fail fu K y1 y4 y7 s13 s17 j20 j21 j22 j23 j24 (encB bs) 0 j34 j35 j36 j37 j38) e:=by
 have hnum:=z4r (ρ:=ρ) fail fu (by omega) bs hb
 unfold rdCts
 cases hn:rdNum bs with
 | error e =>
  rw [hn] at hnum
  obtain⟨he,B,hB⟩:=hnum
  dsimp only at hB
  refine DErr.of (a:=y1) (b:=y4) (c:=y7) (d:=s13) (f:=s17) (g:=j20) (h:=j21) (i:=j22) (j:=j23) (k:=j24) (l:=j34) (m:=j35) (n:=j36) (o:=j37) (q:=j38) (r:=nilE) (s:=B) he fun K=>?_
  try dsimp only
  rw [p18_4,hB,gtrF (by omega),cond_false,p18_3]
  obtain⟨m,hm⟩:∃ m,fu=m + 1:=⟨fu - 1,by omega⟩
  have:∀ m',m'=m + 1→p18_2L fail fu K y1 y4 y7 s13 s17 j20 j21 j22 j23 j24 j34 j35 j36 j37 j38 0 m' B e nilE 0=K y1 y4 y7 s13 s17 j20 j21 j22 j23 j24 j34 j35 j36 j37 j38 nilE B e:=fun m' h=>by
   subst h;rw [p18_2L,p18_2,lssF (by omega),cond_false]
  exact this fu hm
 | ok x =>
  obtain⟨n,bs1⟩:=x
  have hn1:=z0t hn
  rw [hn] at hnum
  simp only [KOut] at hnum
  try dsimp only
  by_cases h5:5 < n
  ·rw [if_pos h5]
   refine DErr.of (a:=y1) (b:=y4) (c:=y7) (d:=s13) (f:=s17) (g:=j20) (h:=j21) (i:=j22) (j:=j23) (k:=j24) (l:=j34) (m:=j35) (n:=j36) (o:=j37) (q:=j38) (r:=nilE) (s:=encB bs1) (show (3:Int)≠0 by decide) fun K=>?_
   try dsimp only
   rw [p18_4,hnum,gtrT (by omega),cond_true,z2l,p18_3]
   obtain⟨m,hm⟩:∃ m,fu=m + 1:=⟨fu - 1,by omega⟩
   have:∀ m',m'=m + 1→p18_2L fail fu K y1 y4 y7 s13 s17 j20 j21 j22 j23 j24 j34 j35 j36 j37 j38 ((n:Nat):Int) m' (encB bs1) 3 nilE 0=K y1 y4 y7 s13 s17 j20 j21 j22 j23 j24 j34 j35 j36 j37 j38 nilE (encB bs1) 3:=fun m' h=>by
    subst h;rw [p18_2L,p18_2,lssT (by omega),cond_true,neqT (by omega),cond_true]
   exact this fu hm
  ·rw [if_neg h5]
   have hstep:∀ K:DK ρ,p18_4 fail fu K y1 y4 y7 s13 s17 j20 j21 j22 j23 j24 (encB bs) 0 j34 j35 j36 j37 j38=p18_2L fail fu K y1 y4 y7 s13 s17 j20 j21 j22 j23 j24 j34 j35 j36 j37 j38 ((0 + n:Nat):Int) fu (encB bs1) 0 nilE ((0:Nat):Int):=fun K=>by
    rw [p18_4,hnum,gtrF (by omega),cond_false,p18_3,Nat.zero_add];rfl
   have:=k1e (ρ:=ρ) fail fu hfu y1 y4 y7 s13 s17 j20 j21 j22 j23 j24 j34 j35 j36 j37 j38 1099511627776 (by omega) n fu bs1 0 nilE 0 (by omega) (by simp) (by omega) (by omega)
   cases hm:many rdCt n 0 bs1 with
   | error e =>
    rw [hm] at this
    exact DErr.eq this hstep
   | ok x =>
    obtain⟨l,bs2,p2⟩:=x
    rw [hm] at this
    intro K
    rw [hstep,this K];rfl
end
include hfu
theorem dead8 (B:EL) (e:Int) (he:e≠0) (K:DK ρ):p18_8 fail fu K y1 y4 y7 s13 s17 B e j20 j21 j22 j23 j24=K y1 y4 y7 s13 s17 j20 j21 j22 j23 j24 0 0 ⟨#[]⟩ nilE nilE nilE B e:=by
 rw [p18_8,rawE _ _ _ _ _ he,gtrF (by omega),cond_false,p18_7]
 cases (!((z0a .eql 0 1) == (z0a .eql y1 2))) with
 | true=>rw [cond_true,w3j _ _ _ _ _ _ he,p18_6,eqlF he,cond_false,p18_5,cond_false,dead4 fail fu hfu _ _ _ _ _ _ _ _ _ _ _ _ _ _ _ B e he]
 | false=>rw [cond_false,p18_6,eqlF he,cond_false,p18_5,cond_false,dead4 fail fu hfu _ _ _ _ _ _ _ _ _ _ _ _ _ _ _ B e he]
theorem k1p (k:Nat) (hk:k≤5) (hy:y1=(k:Nat)) (bs:List UInt8) (hb:bs.length≤1099511627776):match z7s k bs with
  | .ok (val,l,bs')=>∀ K:DK ρ,p18_8 fail fu K y1 y4 y7 s13 s17 (encB bs) 0 j20 j21 j22 j23 j24=K y1 y4 y7 s13 s17 j20 j21 j22 j23 j24 val.k val.n val.nm (Lv.rows val.ls) (Tm.rows val.args) (l.map ctRow) (encB bs') 0
  | .error e=>DErr (fun K=>p18_8 fail fu K y1 y4 y7 s13 s17 (encB bs) 0 j20 j21 j22 j23 j24) e:=by
 have hraw:=fun K=>w8e (ρ:=ρ) fail fu (by omega) K bs hb
 unfold z7s rdVal
 cases hr:rdV bs with
 | error e =>
  have he:=w4l hr
  rw [hr] at hraw
  have he0:e≠0:=by omega
  refine DErr.of (a:=y1) (b:=y4) (c:=y7) (d:=s13) (f:=s17) (g:=j20) (h:=j21) (i:=j22) (j:=j23) (k:=j24) (l:=0) (m:=0) (n:=⟨#[]⟩) (o:=nilE) (q:=nilE) (r:=nilE) (s:=encB bs) he0 fun K=>?_
  try dsimp only
  rw [p18_8,hraw]
  simp only [rdK]
  rw [gtrF (by omega),cond_false,p18_7]
  cases (!((z0a .eql 0 1) == (z0a .eql y1 2))) with
  | true=>rw [cond_true,w3j _ _ _ _ _ _ he0,p18_6,eqlF he0,cond_false,p18_5,cond_false,dead4 fail fu hfu _ _ _ _ _ _ _ _ _ _ _ _ _ _ _ (encB bs) e he0]
  | false=>rw [cond_false,p18_6,eqlF he0,cond_false,p18_5,cond_false,dead4 fail fu hfu _ _ _ _ _ _ _ _ _ _ _ _ _ _ _ (encB bs) e he0]
 | ok x =>
  obtain⟨v,bs1⟩:=x
  have hv:=z8y hr
  rw [hr] at hraw
  try dsimp only
  have hc:∀ K:DK ρ,p18_8 fail fu K y1 y4 y7 s13 s17 (encB bs) 0 j20 j21 j22 j23 j24=p18_7 fail fu K y1 y4 y7 s13 s17 j20 j21 j22 j23 j24 ((v:Nat):Int) (encB bs1) 0 (decide (1 < v∨((v=1) ↔ ¬ (k=2)))):=fun K=>by
   rw [p18_8,hraw]
   simp only [rdK]
   by_cases h1:1 < v
   ·rw [gtrT (by omega),cond_true,decide_eq_true (.inl h1)]
   ·rw [gtrF (by omega),cond_false]
    have e1:z0a .eql ((v:Nat):Int) 1=decide (v=1):=by
     by_cases q:v=1
     ·rw [eqlT (by omega),decide_eq_true q]
     ·rw [eqlF (by omega),decide_eq_false q]
    have e2:z0a .eql y1 2=decide (k=2):=by
     by_cases q:k=2
     ·rw [eqlT (by omega),decide_eq_true q]
     ·rw [eqlF (by omega),decide_eq_false q]
    rw [e1,e2]
    congr 1
    by_cases hv1:v=1<;>by_cases hk2:k=2<;>simp [hv1,hk2,h1]
  by_cases hbad:1 < v∨((v=1) ↔ ¬ (k=2))
  ·rw [if_pos hbad]
   have he0:(5:Int)≠0:=by decide
   refine DErr.of (a:=y1) (b:=y4) (c:=y7) (d:=s13) (f:=s17) (g:=j20) (h:=j21) (i:=j22) (j:=j23) (k:=j24) (l:=0) (m:=0) (n:=⟨#[]⟩) (o:=nilE) (q:=nilE) (r:=nilE) (s:=encB bs1) he0 fun K=>?_
   try dsimp only
   rw [hc,decide_eq_true hbad,p18_7,cond_true,z2l,p18_6,eqlF he0,cond_false,p18_5,cond_false,dead4 fail fu hfu _ _ _ _ _ _ _ _ _ _ _ _ _ _ _ (encB bs1) 5 he0]
  ·rw [if_neg hbad]
   have hc2:∀ K:DK ρ,p18_8 fail fu K y1 y4 y7 s13 s17 (encB bs) 0 j20 j21 j22 j23 j24=p18_5 fail fu K y1 y4 y7 s13 s17 j20 j21 j22 j23 j24 (encB bs1) 0 (z0a .eql ((v:Nat):Int) 1):=fun K=>by
    rw [hc,decide_eq_false hbad,p18_7,cond_false,p18_6,eqlT rfl,cond_true]
   by_cases hv1:v=1
   ·rw [if_pos hv1]
    have htm:=z6a (ρ:=ρ) fail fu (by omega) bs1 (by omega)
    have hc3:∀ K:DK ρ,p18_8 fail fu K y1 y4 y7 s13 s17 (encB bs) 0 j20 j21 j22 j23 j24=p19 fail fu (fun y68 y69 y70 y71 y72 y73 y74=>p18_4 fail fu K y1 y4 y7 s13 s17 j20 j21 j22 j23 j24 y73 y74 y68 y69 y70 y71 y72) (encB bs1) 0:=fun K=>by
     rw [hc2,eqlT (by omega),p18_5,cond_true]
    cases htt:z0j bs1 with
    | error e =>
     rw [htt] at htm
     obtain⟨he,a,b,c,l,g,B,hB⟩:=htm
     dsimp only at hB
     refine DErr.of (a:=y1) (b:=y4) (c:=y7) (d:=s13) (f:=s17) (g:=j20) (h:=j21) (i:=j22) (j:=j23) (k:=j24) (l:=a) (m:=b) (n:=c) (o:=l) (q:=g) (r:=nilE) (s:=B) he fun K=>?_
     exact (hc3 K).trans ((hB _).trans (dead4 fail fu hfu _ _ _ _ _ _ _ _ _ _ _ _ _ _ _ B e he K))
    | ok x =>
     obtain⟨t,bs2⟩:=x
     have hsub:=z7i htt
     rw [htt] at htm
     simp only [TmO2] at htm
     have hcts:=k1d (ρ:=ρ) fail fu hfu y1 y4 y7 s13 s17 j20 j21 j22 j23 j24 t.k t.n t.nm (Lv.rows t.ls) (Tm.rows t.args) bs2 (by omega)
     have hc4:∀ K:DK ρ,p18_8 fail fu K y1 y4 y7 s13 s17 (encB bs) 0 j20 j21 j22 j23 j24=p18_4 fail fu K y1 y4 y7 s13 s17 j20 j21 j22 j23 j24 (encB bs2) 0 t.k t.n t.nm (Lv.rows t.ls) (Tm.rows t.args):=fun K=>by rw [hc3,htm]
     try dsimp only
     cases hcc:rdCts bs2 with
     | error e=>rw [hcc] at hcts;exact DErr.eq hcts hc4
     | ok x=>obtain⟨l,bs3⟩:=x;rw [hcc] at hcts;intro K;rw [hc4,hcts K]
   ·rw [if_neg hv1]
    have hcts:=k1d (ρ:=ρ) fail fu hfu y1 y4 y7 s13 s17 j20 j21 j22 j23 j24 0 0 ⟨#[]⟩ nilE nilE bs1 (by omega)
    have hc3:∀ K:DK ρ,p18_8 fail fu K y1 y4 y7 s13 s17 (encB bs) 0 j20 j21 j22 j23 j24=p18_4 fail fu K y1 y4 y7 s13 s17 j20 j21 j22 j23 j24 (encB bs1) 0 0 0 ⟨#[]⟩ nilE nilE:=fun K=>by
     rw [hc2,eqlF (by omega),p18_5,cond_false]
    try dsimp only
    cases hcc:rdCts bs1 with
    | error e=>rw [hcc] at hcts;exact DErr.eq hcts hc3
    | ok x=>obtain⟨l,bs3⟩:=x;rw [hcc] at hcts;intro K;rw [hc3,hcts K];rfl
end
end
def bd {α β:Type} (f:List UInt8→Except Int (α × List UInt8)) (g:α→List UInt8→Except Int (β × List UInt8)) (bs:List UInt8):Except Int (β × List UInt8):=match f bs with
 | .error e=>.error e
 | .ok (a,r)=>g a r
def rt {α:Type} (a:α) (bs:List UInt8):Except Int (α × List UInt8):=.ok (a,bs)
theorem bd_ok {α β:Type} {f:List UInt8→Except Int (α × List UInt8)} {g:α→List UInt8→Except Int (β × List UInt8)} {bs r:List UInt8} {a:α} (h:f bs=.ok (a,r)):bd f g bs=g a r:=by unfold bd;rw [h]
section
variable {ρ:Type} (fail:ρ) (fu:Nat)
def q6 (K0:DK ρ) (y1 y4 y7:Int) (s13 s17:ByteArray) (B:EL) (e:Int):ρ:=bif (z0a .eql e 0) then (p19 fail fu (fun y77 y78 y79 y80 y81 y82 y83=>p18_8 fail fu K0 y1 y4 y7 s13 s17 y82 y83 y77 y78 y79 y80 y81) B e) else (p18_8 fail fu K0 y1 y4 y7 s13 s17 B e 0 0 ⟨#[]⟩ nilE nilE)
def q5 (K0:DK ρ) (y1 y4 y7:Int) (s13:ByteArray) (B:EL) (e:Int):ρ:=p20 fail fu (fun y14 y15 y16=>tobP fail y14 (fun s17=>q6 fail fu K0 y1 y4 y7 s13 s17 y15 y16)) B e 24
def q4 (K0:DK ρ) (y1 y4 y7:Int) (B:EL) (e:Int):ρ:=p20 fail fu (fun y10 y11 y12=>tobP fail y10 (fun s13=>q5 fail fu K0 y1 y4 y7 s13 y11 y12)) B e 24
def q3 (K0:DK ρ) (y1 y4:Int) (B:EL) (e:Int):ρ:=p16 fail fu (fun y7 y8 y9=>q4 fail fu K0 y1 y4 y7 y8 y9) B e
def q2 (K0:DK ρ) (y1:Int) (B:EL) (e:Int):ρ:=p16 fail fu (fun y4 y5 y6=>q3 fail fu K0 y1 y4 y5 y6) B e
theorem k1b (K0:DK ρ) (B:EL) (e:Int):p18 fail fu K0 B e=p13 fail fu (fun y1 y2 y3=>q2 fail fu K0 y1 y2 y3) B e 1 5:=rfl
variable (hfu:200≤fu)
include hfu
section
variable (K:DK ρ) (B:EL) (e:Int) (he:e≠0)
include he
theorem dead6 (y1 y4 y7:Int) (s13 s17:ByteArray):q6 fail fu K y1 y4 y7 s13 s17 B e=K y1 y4 y7 s13 s17 0 0 ⟨#[]⟩ nilE nilE 0 0 ⟨#[]⟩ nilE nilE nilE B e:=by
 rw [q6,eqlF he,cond_false,dead8 fail fu hfu _ _ _ _ _ _ _ _ _ _ B e he]
theorem dead5 (y1 y4 y7:Int) (s13:ByteArray):q5 fail fu K y1 y4 y7 s13 B e=K y1 y4 y7 s13 ⟨#[]⟩ 0 0 ⟨#[]⟩ nilE nilE 0 0 ⟨#[]⟩ nilE nilE nilE B e:=by
 rw [q5,textE _ _ _ _ _ he,show (nilE:EL)=encB [] from rfl,z1u];exact dead6 fail fu hfu K B e he _ _ _ _ _
theorem k1c (y1 y4 y7:Int):q4 fail fu K y1 y4 y7 B e=K y1 y4 y7 ⟨#[]⟩ ⟨#[]⟩ 0 0 ⟨#[]⟩ nilE nilE 0 0 ⟨#[]⟩ nilE nilE nilE B e:=by
 rw [q4,textE _ _ _ _ _ he,show (nilE:EL)=encB [] from rfl,z1u];exact dead5 fail fu hfu K B e he _ _ _ _
theorem dead3 (y1 y4:Int):q3 fail fu K y1 y4 B e=K y1 y4 0 ⟨#[]⟩ ⟨#[]⟩ 0 0 ⟨#[]⟩ nilE nilE 0 0 ⟨#[]⟩ nilE nilE nilE B e:=by
 rw [q3,numE _ _ _ _ _ he];exact k1c fail fu hfu K B e he _ _ _
theorem dead2 (y1:Int):q2 fail fu K y1 B e=K y1 0 0 ⟨#[]⟩ ⟨#[]⟩ 0 0 ⟨#[]⟩ nilE nilE 0 0 ⟨#[]⟩ nilE nilE nilE B e:=by
 rw [q2,numE _ _ _ _ _ he];exact dead3 fail fu hfu K B e he _ _
end
variable (k:Nat) (hk:k≤5) (bs:List UInt8) (hb:bs.length≤1099511627776)
include hk hb
theorem q6_rd (y4 y7:Int) (s13 s17:ByteArray):match rdD6 k bs with
  | .ok (ty,val,l,bs')=>∀ K:DK ρ,q6 fail fu K (k:Nat) y4 y7 s13 s17 (encB bs) 0=K (k:Nat) y4 y7 s13 s17 ty.k ty.n ty.nm (Lv.rows ty.ls) (Tm.rows ty.args) val.k val.n val.nm (Lv.rows val.ls) (Tm.rows val.args) (l.map ctRow) (encB bs') 0
  | .error e=>DErr (fun K=>q6 fail fu K (k:Nat) y4 y7 s13 s17 (encB bs) 0) e:=by
 have htm:=z6a (ρ:=ρ) fail fu (by omega) bs hb
 have h1:∀ K:DK ρ,q6 fail fu K (k:Nat) y4 y7 s13 s17 (encB bs) 0=p19 fail fu (fun y77 y78 y79 y80 y81 y82 y83=>p18_8 fail fu K (k:Nat) y4 y7 s13 s17 y82 y83 y77 y78 y79 y80 y81) (encB bs) 0:=fun K=>by rw [q6,eqlT rfl,cond_true]
 unfold rdD6
 cases htt:z0j bs with
 | error e =>
  rw [htt] at htm
  obtain⟨he,a,b,c,l,g,B,hB⟩:=htm
  dsimp only at hB
  exact DErr.of he fun K=>(h1 K).trans ((hB _).trans (dead8 fail fu hfu _ _ _ _ _ _ _ _ _ _ B e he K))
 | ok x =>
  obtain⟨t,bs2⟩:=x
  have hsub:=z7i htt
  rw [htt] at htm
  simp only [TmO2] at htm
  have ht:=k1p (ρ:=ρ) fail fu hfu (k:Nat) y4 y7 s13 s17 t.k t.n t.nm (Lv.rows t.ls) (Tm.rows t.args) k hk rfl bs2 (by omega)
  have h2:∀ K:DK ρ,q6 fail fu K (k:Nat) y4 y7 s13 s17 (encB bs) 0=_:=fun K=>(h1 K).trans (htm _)
  dsimp only
  cases hcc:z7s k bs2 with
  | error e=>rw [hcc] at ht;exact DErr.eq ht h2
  | ok x=>obtain⟨v,l,bs3⟩:=x;rw [hcc] at ht;intro K;exact (h2 K).trans (ht K)
theorem q5_rd (y4 y7:Int) (s13:ByteArray):match rdD5 k bs with
  | .ok (s17,ty,val,l,bs')=>∀ K:DK ρ,q5 fail fu K (k:Nat) y4 y7 s13 (encB bs) 0=K (k:Nat) y4 y7 s13 s17 ty.k ty.n ty.nm (Lv.rows ty.ls) (Tm.rows ty.args) val.k val.n val.nm (Lv.rows val.ls) (Tm.rows val.args) (l.map ctRow) (encB bs') 0
  | .error e=>DErr (fun K=>q5 fail fu K (k:Nat) y4 y7 s13 (encB bs) 0) e:=by
 have htx:=z7e (ρ:=ρ) fail fu (by omega) bs hb 24 (by omega)
 unfold rdD5
 cases htt:rdTxt 24 bs with
 | error e =>
  rw [htt] at htx
  obtain⟨he,B,hB⟩:=htx
  dsimp only at hB
  exact DErr.of he fun K=>(hB _).trans ((z1u fail [] _).trans (dead6 fail fu hfu K B e he _ _ _ _ _))
 | ok x =>
  obtain⟨s,bs2⟩:=x
  have hsub:=z1n htt
  rw [htt] at htx
  simp only [SOut] at htx
  have h2:∀ K:DK ρ,q5 fail fu K (k:Nat) y4 y7 s13 (encB bs) 0=q6 fail fu K (k:Nat) y4 y7 s13 ⟨s.toArray⟩ (encB bs2) 0:=fun K=>(htx _).trans (z1u fail s _)
  have ht:=q6_rd (ρ:=ρ) fail fu hfu k hk bs2 (by omega) y4 y7 s13 ⟨s.toArray⟩
  dsimp only
  cases hcc:rdD6 k bs2 with
  | error e=>rw [hcc] at ht;exact DErr.eq ht h2
  | ok x=>obtain⟨t,v,l,bs3⟩:=x;rw [hcc] at ht;intro K;exact (h2 K).trans (ht K)
theorem q4_rd (y4 y7:Int):match rdD4 k bs with
  | .ok (s13,s17,ty,val,l,bs')=>∀ K:DK ρ,q4 fail fu K (k:Nat) y4 y7 (encB bs) 0=K (k:Nat) y4 y7 s13 s17 ty.k ty.n ty.nm (Lv.rows ty.ls) (Tm.rows ty.args) val.k val.n val.nm (Lv.rows val.ls) (Tm.rows val.args) (l.map ctRow) (encB bs') 0
  | .error e=>DErr (fun K=>q4 fail fu K (k:Nat) y4 y7 (encB bs) 0) e:=by
 have htx:=z7e (ρ:=ρ) fail fu (by omega) bs hb 24 (by omega)
 unfold rdD4
 cases htt:rdTxt 24 bs with
 | error e =>
  rw [htt] at htx
  obtain⟨he,B,hB⟩:=htx
  dsimp only at hB
  exact DErr.of he fun K=>(hB _).trans ((z1u fail [] _).trans (dead5 fail fu hfu K B e he _ _ _ _))
 | ok x =>
  obtain⟨s,bs2⟩:=x
  have hsub:=z1n htt
  rw [htt] at htx
  simp only [SOut] at htx
  have h2:∀ K:DK ρ,q4 fail fu K (k:Nat) y4 y7 (encB bs) 0=q5 fail fu K (k:Nat) y4 y7 ⟨s.toArray⟩ (encB bs2) 0:=fun K=>(htx _).trans (z1u fail s _)
  have ht:=q5_rd (ρ:=ρ) fail fu hfu k hk bs2 (by omega) y4 y7 ⟨s.toArray⟩
  dsimp only
  cases hcc:rdD5 k bs2 with
  | error e=>rw [hcc] at ht;exact DErr.eq ht h2
  | ok x=>obtain⟨s2,t,v,l,bs3⟩:=x;rw [hcc] at ht;intro K;exact (h2 K).trans (ht K)
theorem q3_rd (y4:Int):match rdD3 k bs with
  | .ok (ct,s13,s17,ty,val,l,bs')=>∀ K:DK ρ,q3 fail fu K (k:Nat) y4 (encB bs) 0=K (k:Nat) y4 (ct:Nat) s13 s17 ty.k ty.n ty.nm (Lv.rows ty.ls) (Tm.rows ty.args) val.k val.n val.nm (Lv.rows val.ls) (Tm.rows val.args) (l.map ctRow) (encB bs') 0
  | .error e=>DErr (fun K=>q3 fail fu K (k:Nat) y4 (encB bs) 0) e:=by
 have htx:=z4r (ρ:=ρ) fail fu (by omega) bs hb
 unfold rdD3
 cases htt:rdNum bs with
 | error e =>
  rw [htt] at htx
  obtain⟨he,B,hB⟩:=htx
  dsimp only at hB
  exact DErr.of he fun K=>(hB _).trans (k1c fail fu hfu K B e he _ _ _)
 | ok x =>
  obtain⟨n,bs2⟩:=x
  have hsub:=z0t htt
  rw [htt] at htx
  simp only [KOut] at htx
  have h2:∀ K:DK ρ,q3 fail fu K (k:Nat) y4 (encB bs) 0=q4 fail fu K (k:Nat) y4 (n:Nat) (encB bs2) 0:=fun K=>htx _
  have ht:=q4_rd (ρ:=ρ) fail fu hfu k hk bs2 (by omega) y4 (n:Nat)
  dsimp only
  cases hcc:rdD4 k bs2 with
  | error e=>rw [hcc] at ht;exact DErr.eq ht h2
  | ok x=>obtain⟨s1,s2,t,v,l,bs3⟩:=x;rw [hcc] at ht;intro K;exact (h2 K).trans (ht K)
theorem q2_rd:match rdD2 k bs with
  | .ok (pa,ct,s13,s17,ty,val,l,bs')=>∀ K:DK ρ,q2 fail fu K (k:Nat) (encB bs) 0=K (k:Nat) (pa:Nat) (ct:Nat) s13 s17 ty.k ty.n ty.nm (Lv.rows ty.ls) (Tm.rows ty.args) val.k val.n val.nm (Lv.rows val.ls) (Tm.rows val.args) (l.map ctRow) (encB bs') 0
  | .error e=>DErr (fun K=>q2 fail fu K (k:Nat) (encB bs) 0) e:=by
 have htx:=z4r (ρ:=ρ) fail fu (by omega) bs hb
 unfold rdD2
 cases htt:rdNum bs with
 | error e =>
  rw [htt] at htx
  obtain⟨he,B,hB⟩:=htx
  dsimp only at hB
  exact DErr.of he fun K=>(hB _).trans (dead3 fail fu hfu K B e he _ _)
 | ok x =>
  obtain⟨n,bs2⟩:=x
  have hsub:=z0t htt
  rw [htt] at htx
  simp only [KOut] at htx
  have h2:∀ K:DK ρ,q2 fail fu K (k:Nat) (encB bs) 0=q3 fail fu K (k:Nat) (n:Nat) (encB bs2) 0:=fun K=>htx _
  have ht:=q3_rd (ρ:=ρ) fail fu hfu k hk bs2 (by omega) (n:Nat)
  dsimp only
  cases hcc:rdD3 k bs2 with
  | error e=>rw [hcc] at ht;exact DErr.eq ht h2
  | ok x=>obtain⟨ct,s1,s2,t,v,l,bs3⟩:=x;rw [hcc] at ht;intro K;exact (h2 K).trans (ht K)
omit hk in
omit k in
theorem w9o:DOut (fun K=>p18 fail fu K (encB bs) 0) (z1i bs):=by
 have hkind:=w1n (ρ:=ρ) fail fu (by omega) bs hb 1 5 (by omega) (by omega)
 unfold z1i
 cases hk:z2c 1 5 bs with
 | error e =>
  rw [hk] at hkind
  obtain⟨he,B,hB⟩:=hkind
  dsimp only at hB
  exact DErr.of he fun K=>(k1b fail fu K _ _).trans ((hB _).trans (dead2 fail fu hfu K B e he _))
 | ok x =>
  obtain⟨k,bs2⟩:=x
  have hk1:=z1g hk
  rw [hk] at hkind
  simp only [KOut] at hkind
  have h2:∀ K:DK ρ,p18 fail fu K (encB bs) 0=q2 fail fu K (k:Nat) (encB bs2) 0:=fun K=>(k1b fail fu K _ _).trans (hkind _)
  have ht:=q2_rd (ρ:=ρ) fail fu hfu k (by omega) bs2 (by omega)
  dsimp only
  cases hcc:rdD2 k bs2 with
  | error e=>rw [hcc] at ht;exact DErr.eq ht h2
  | ok x=>obtain⟨pa,ct,s1,s2,t,v,l,bs3⟩:=x;rw [hcc] at ht;intro K;exact (h2 K).trans (ht K)
end
def ctsB:List (ByteArray × Tm)→List UInt8
 | []=>[]
 | c :: l=>(txB c.1++c.2.enc)++ctsB l
def ctsSz:List (ByteArray × Tm)→Nat
 | []=>0
 | c :: l=>1 + (c.1.size + c.2.sz) + ctsSz l
def Dc.enc (d:Dc):List UInt8:=numsB [d.k,d.pa,d.ct]++(txB d.nm++(txB d.fam++(d.ty.enc++((if d.k=2 then varB 1++d.val.enc else varB 0)++(varB d.cs.length++ctsB d.cs)))))
def Dc.sz (d:Dc):Nat:=d.nm.size + d.fam.size + d.ty.sz + d.val.sz + ctsSz d.cs
theorem z9d (p:Nat) (bs:List UInt8) (a:ByteArray × Tm) (r:List UInt8) (q:Nat) (h:rdCt p bs=.ok (a,r,q)):bs=(txB a.1++a.2.enc)++r∧1 + (a.1.size + a.2.sz) + 2 * r.length≤2 * bs.length:=by
 unfold rdCt at h;split at h
 ·cases h
 ·rename_i s bs1 hs
  obtain⟨h1,h2,h3,h4⟩:=z1n hs
  split at h
  ·cases h
  ·rename_i t bs2 ht
   injection h with h;injection h with h5 h;injection h with h6 h7;subst h5 h6 h7
   have h8:=z0w ht
   have h9:=z6j ht
   refine⟨?_,?_⟩
   ·dsimp only
    rw [k0r,h3]
    simp only [List.append_assoc]
    rw [← h8]
   ·dsimp only
    rw [bsz,h3];simp only [List.length_append];omega
theorem w6t {k:Nat} {bs r:List UInt8} {t:Tm} (h:rdVal k bs=.ok (t,r)):bs=(if k=2 then varB 1++t.enc else varB 0)++r∧t.sz + 2 * r.length≤2 * bs.length∧(k≠2→t=tm0):=by
 unfold rdVal at h;split at h
 ·cases h
 ·rename_i v bs1 hv
  obtain⟨h1,h2,h3⟩:=z8y hv
  split at h
  ·cases h
  ·rename_i hbad
   split at h
   ·rename_i hv1
    have hk:k=2:=by
     rcases Nat.lt_or_ge 1 v with q | q
     ·exact absurd (.inl q) hbad
     ·by_cases hk:k=2
      ·exact hk
      ·exact absurd (.inr ⟨fun _=>hk,fun _=>hv1⟩) hbad
    have h8:=z0w h
    have h9:=z6j h
    refine⟨?_,by omega,fun q=>absurd hk q⟩
    rw [if_pos hk,h3,hv1,List.append_assoc,← h8]
   ·rename_i hv1
    injection h with h;injection h with h5 h6;subst h5 h6
    have hk:k≠2:=fun hk=>hbad (.inr ⟨fun q=>absurd q hv1,fun q=>absurd hk q⟩)
    have hv0:v=0:=by
     rcases Nat.lt_or_ge 1 v with q | q
     ·exact absurd (.inl q) hbad
     ·omega
    refine⟨?_,?_,fun _=>rfl⟩
    ·rw [if_neg hk,h3,hv0]
    ·have:tm0.sz=1:=rfl
     omega
theorem w6v {bs r:List UInt8} {l:List (ByteArray × Tm)} (h:rdCts bs=.ok (l,r)):bs=(varB l.length++ctsB l)++r∧ctsSz l + 2 * r.length≤2 * bs.length∧l.length≤5:=by
 unfold rdCts at h;split at h
 ·cases h
 ·rename_i n bs1 hn
  obtain⟨h1,h2,h3⟩:=z0t hn
  split at h
  ·cases h
  ·rename_i h5
   split at h
   ·cases h
   ·rename_i l' bs2 q hm
    injection h with h;injection h with h6 h7;subst h6 h7
    have h8:=z4c (g:=fun c=>txB c.1++c.2.enc) (gs:=ctsB) rfl (fun _ _=>rfl) (fun p bs a r q h=>(z9d p bs a r q h).1) _ _ _ _ _ _ hm
    have h9:=z9j (g:=fun c=>c.1.size + c.2.sz) (gs:=ctsSz) rfl (fun _ _=>rfl) (fun p bs a r q h=>(z9d p bs a r q h).2) _ _ _ _ _ _ hm
    have h10:=(z3a (m:=0) (f:=rdCt) (fun p bs a r q hp h=>by
     have:=(z9d p bs a r q h).2
     refine⟨by omega,?_⟩
     unfold rdCt at h;split at h
     ·cases h
     ·split at h
      ·cases h
      ·injection h with h;injection h with _ h;injection h with _ h;omega) _ _ _ _ _ _ (Nat.le_refl _) hm).2.2
    refine⟨?_,by omega,by omega⟩
    rw [h10,h3,List.append_assoc,← h8]
theorem z2p {bs r:List UInt8} {d:Dc} (h:z1i bs=.ok (d,r)):bs=d.enc++r∧d.sz + 2 * r.length≤2 * bs.length∧d.cs.length≤5:=by
 unfold z1i at h;split at h
 ·cases h
 ·rename_i k bs1 hk
  obtain⟨k1,k2,k3,k4⟩:=z1g hk
  split at h
  ·cases h
  ·rename_i pa ct nm fam ty val cs bs' h2
   injection h with h;injection h with h5 h6;subst h5 h6
   unfold rdD2 at h2;split at h2
   ·cases h2
   ·rename_i pa' bs2 hpa
    obtain⟨p1,p2,p3⟩:=z0t hpa
    split at h2
    ·cases h2
    ·rename_i x3 h3
     injection h2 with h2;injection h2 with e1 e2;subst e1 e2
     unfold rdD3 at h3;split at h3
     ·cases h3
     ·rename_i ct' bs3 hct
      obtain⟨c1,c2,c3⟩:=z0t hct
      split at h3
      ·cases h3
      ·rename_i x4 h4
       injection h3 with h3;injection h3 with e1 e2;subst e1 e2
       unfold rdD4 at h4;split at h4
       ·cases h4
       ·rename_i s1 bs4 hs1
        obtain⟨s11,s12,s13,s14⟩:=z1n hs1
        split at h4
        ·cases h4
        ·rename_i x5 h5
         injection h4 with h4;injection h4 with e1 e2;subst e1 e2
         unfold rdD5 at h5;split at h5
         ·cases h5
         ·rename_i s2 bs5 hs2
          obtain⟨s21,s22,s23,s24⟩:=z1n hs2
          split at h5
          ·cases h5
          ·rename_i x6 h6
           injection h5 with h5;injection h5 with e1 e2;subst e1 e2
           unfold rdD6 at h6;split at h6
           ·cases h6
           ·rename_i t bs6 ht
            have t1:=z0w ht
            have t2:=z6j ht
            split at h6
            ·cases h6
            ·rename_i v l bs7 h7
             injection h6 with h6;injection h6 with e1 h6;injection h6 with e2 h6;injection h6 with e3 e4;subst e1 e2 e3 e4
             unfold z7s at h7;split at h7
             ·cases h7
             ·rename_i v' bs8 hv
              obtain⟨v1,v2,_⟩:=w6t hv
              split at h7
              ·cases h7
              ·rename_i l' bs9 hl
               injection h7 with h7;injection h7 with e1 h7;injection h7 with e2 e3;subst e1 e2 e3
               obtain⟨l1,l2,l3⟩:=w6v hl
               refine⟨?_,?_,l3⟩
               ·simp only [Dc.enc,w6x,show numsB []=[] from rfl,k0r,List.append_nil,z8n k (by omega),z8n pa' (by omega),z8n ct' (by omega),List.append_assoc]
                rw [k4,p3,c3,s13,s23,t1,v1,l1]
                simp only [List.append_assoc]
                by_cases k2:k=2
                ·rw [if_pos k2,if_pos (show ((k:Nat):Int)=2 by omega)]
                ·rw [if_neg k2,if_neg (show ¬ ((k:Nat):Int)=2 by omega)]
               ·simp only [Dc.sz,bsz]
                have a1:bs3.length=(varB s1.length).length + (s1.length + bs4.length):=by rw [s13];simp only [List.length_append]
                have a2:bs4.length=(varB s2.length).length + (s2.length + bs5.length):=by rw [s23];simp only [List.length_append]
                omega
theorem k3b {ρ:Type} (fail:ρ) (l:List (ByteArray × Tm)) (i:Nat) (h:i < l.length) (k:ByteArray→Int→Int→ByteArray→EL→EL→ρ):z0p fail (List.getD (l.map ctRow) (((i:Nat):Int)).toNat []) k=k l[i].1 l[i].2.k l[i].2.n l[i].2.nm (Lv.rows l[i].2.ls) (Tm.rows l[i].2.args):=by
 rw [Int.toNat_natCast,List.getD,List.getElem?_map,List.getElem?_eq_getElem h];rfl
theorem w3o:∀ {l:List (ByteArray × Tm)} {a:ByteArray × Tm},a ∈ l→1 + (a.1.size + a.2.sz)≤ctsSz l
 | b :: l,a,h=>by
  simp only [ctsSz]
  rcases List.mem_cons.1 h with rfl | h
  ·omega
  ·have:=w3o h;omega
theorem z9u:∀ l:List (ByteArray × Tm),l.length≤ctsSz l
 | []=>Nat.zero_le _
 | a :: l=>by have:=z9u l;simp only [ctsSz,List.length_cons];omega
def p60_1 {ρ:Type} (fail:ρ) (fu:Nat) (K0:Int→Int→ρ) (rec1:Int→EL→Int→Int→ρ) (z1:Int) (z2:EL) (z3 z4:Int):ρ :=
 bif (z0a .lss z4 z3) then (gd ((0:Int)≤z4) fail (gd ((z4:Int) < (z2.length:Nat)) fail (rw_u8 fail (List.getD z2 ((z4:Int).toNat) []) (fun c5=>gd ((0:Int)≤8) fail (rec1 (z0c .or .u64 (z0c .shl .u64 z1 8) (IntKind.u64.wrap c5)) z2 z3 (z0c .add .i64 z4 1)))))) else (K0 z1 0)
def p60_1L {ρ:Type} (fail:ρ) (fu:Nat) (K0:Int→Int→ρ):Nat→Int→EL→Int→Int→ρ
 | 0,_,_,_,_=>fail
 | n + 1,z1,z2,z3,z4=>p60_1 fail fu K0 (p60_1L fail fu K0 n) z1 z2 z3 z4
def p60 {ρ:Type} (fail:ρ) (fu:Nat) (K0:Int→Int→ρ) (x0:EL):ρ :=
 bif (z0a .lss ((x0.length:Nat):Int) 8) then (K0 0 2) else (gd ((0:Int)≤0) fail (gd ((0:Int)≤8) fail (gd ((8:Int)≤(x0.length:Nat)) fail (p60_1L fail fu K0 fu 0 (List.drop ((0:Int).toNat) (List.take ((8:Int).toNat) x0)) (((List.drop ((0:Int).toNat) (List.take ((8:Int).toNat) x0)).length:Nat):Int) 0))))
def p42 {ρ:Type} (fail:ρ) (fu:Nat) (K0:Int→EL→Int→ρ) (x0:EL) (x1:Int):ρ :=
 bif (z0a .neq x1 0) then (K0 0 x0 x1) else (p60 fail fu (fun y1 y2=>p15 fail fu (fun y3 y4=>bif (z0a .neq y2 0) then (K0 0 y3 y4) else (gd ((0:Int)≤8) fail (gd ((8:Int)≤(y3.length:Nat)) fail (gd (((y3.length:Nat):Int)≤(y3.length:Nat)) fail (K0 y1 (List.drop ((8:Int).toNat) (List.take (((y3.length:Nat):Int).toNat) y3)) y4))))) x0 x1 y2) x0)
def p70b_1 {ρ:Type} (fail:ρ) (fu:Nat) (s_p70b:(Bool→ρ)→Int→Int→EL→Int→Int→EL→ρ) (s_p69:(Bool→ρ)→EL→EL→ρ) (K0:Bool→ρ) (j1:Bool):ρ :=
 K0 j1
def p70b_b {ρ:Type} (fail:ρ) (fu:Nat) (s_p70b:(Bool→ρ)→Int→Int→EL→Int→Int→EL→ρ) (s_p69:(Bool→ρ)→EL→EL→ρ) (K0:Bool→ρ) (x0 x1:Int) (x2:EL) (x3 x4:Int) (x5:EL):ρ :=
 bif (z0a .eql x0 x3) then (bif (z0a .eql x1 x4) then (s_p69 (fun y2=>p70b_1 fail fu s_p70b s_p69 K0 y2) x2 x5) else (p70b_1 fail fu s_p70b s_p69 K0 false)) else (p70b_1 fail fu s_p70b s_p69 K0 false)
def p69_1 {ρ:Type} (fail:ρ) (fu:Nat) (s_p70b:(Bool→ρ)→Int→Int→EL→Int→Int→EL→ρ) (s_p69:(Bool→ρ)→EL→EL→ρ) (K0:Bool→ρ) (rec1:Int→Int→ρ) (x0 x1:EL) (z1 z2:Int):ρ :=
 bif (z0a .lss z2 z1) then (gd ((0:Int)≤z2) fail (gd ((z2:Int) < (x0.length:Nat)) fail (z0y fail (List.getD x0 ((z2:Int).toNat) []) (fun c3 c4 c5=>gd ((0:Int)≤z2) fail (gd ((z2:Int) < (x1.length:Nat)) fail (z0y fail (List.getD x1 ((z2:Int).toNat) []) (fun c6 c7 c8=>s_p70b (fun y9=>bif (!y9) then (K0 false) else (rec1 z1 (z0c .add .i64 z2 1))) c3 c4 c5 c6 c7 c8))))))) else (K0 true)
def p69_1L {ρ:Type} (fail:ρ) (fu:Nat) (s_p70b:(Bool→ρ)→Int→Int→EL→Int→Int→EL→ρ) (s_p69:(Bool→ρ)→EL→EL→ρ) (K0:Bool→ρ) (x0 x1:EL):Nat→Int→Int→ρ
 | 0,_,_=>fail
 | n + 1,z1,z2=>p69_1 fail fu s_p70b s_p69 K0 (p69_1L fail fu s_p70b s_p69 K0 x0 x1 n) x0 x1 z1 z2
def p69_b {ρ:Type} (fail:ρ) (fu:Nat) (s_p70b:(Bool→ρ)→Int→Int→EL→Int→Int→EL→ρ) (s_p69:(Bool→ρ)→EL→EL→ρ) (K0:Bool→ρ) (x0 x1:EL):ρ :=
 bif (z0a .neq ((x0.length:Nat):Int) ((x1.length:Nat):Int)) then (K0 false) else (p69_1L fail fu s_p70b s_p69 K0 x0 x1 fu ((x0.length:Nat):Int) 0)
mutual
def p70b {ρ:Type} (fail:ρ):Nat→(Bool→ρ)→Int→Int→EL→Int→Int→EL→ρ
 | 0,_,_,_,_,_,_,_=>fail
 | n + 1,K0,x0,x1,x2,x3,x4,x5=>p70b_b fail n (p70b fail n) (p69 fail n) K0 x0 x1 x2 x3 x4 x5
def p69 {ρ:Type} (fail:ρ):Nat→(Bool→ρ)→EL→EL→ρ
 | 0,_,_,_=>fail
 | n + 1,K0,x0,x1=>p69_b fail n (p70b fail n) (p69 fail n) K0 x0 x1
end
def p71b_1 {ρ:Type} (fail:ρ) (fu:Nat) (s_p71b:(Bool→ρ)→EL→EL→ρ) (s_p58:(Bool→ρ)→Int→Int→ByteArray→EL→EL→Int→Int→ByteArray→EL→EL→ρ) (K0:Bool→ρ) (rec1:Int→Int→ρ) (x0 x1:EL) (z1 z2:Int):ρ :=
 bif (z0a .lss z2 z1) then (gd ((0:Int)≤z2) fail (gd ((z2:Int) < (x0.length:Nat)) fail (z0q fail (List.getD x0 ((z2:Int).toNat) []) (fun c3 c4 c5 c6 c7=>gd ((0:Int)≤z2) fail (gd ((z2:Int) < (x1.length:Nat)) fail (z0q fail (List.getD x1 ((z2:Int).toNat) []) (fun c8 c9 c10 c11 c12=>s_p58 (fun y13=>bif (!y13) then (K0 false) else (rec1 z1 (z0c .add .i64 z2 1))) c3 c4 c5 c6 c7 c8 c9 c10 c11 c12))))))) else (K0 true)
def p71b_1L {ρ:Type} (fail:ρ) (fu:Nat) (s_p71b:(Bool→ρ)→EL→EL→ρ) (s_p58:(Bool→ρ)→Int→Int→ByteArray→EL→EL→Int→Int→ByteArray→EL→EL→ρ) (K0:Bool→ρ) (x0 x1:EL):Nat→Int→Int→ρ
 | 0,_,_=>fail
 | n + 1,z1,z2=>p71b_1 fail fu s_p71b s_p58 K0 (p71b_1L fail fu s_p71b s_p58 K0 x0 x1 n) x0 x1 z1 z2
def p71b_b {ρ:Type} (fail:ρ) (fu:Nat) (s_p71b:(Bool→ρ)→EL→EL→ρ) (s_p58:(Bool→ρ)→Int→Int→ByteArray→EL→EL→Int→Int→ByteArray→EL→EL→ρ) (K0:Bool→ρ) (x0 x1:EL):ρ :=
 bif (z0a .neq ((x0.length:Nat):Int) ((x1.length:Nat):Int)) then (K0 false) else (p71b_1L fail fu s_p71b s_p58 K0 x0 x1 fu ((x0.length:Nat):Int) 0)
def p58_1 {ρ:Type} (fail:ρ) (fu:Nat) (s_p71b:(Bool→ρ)→EL→EL→ρ) (s_p58:(Bool→ρ)→Int→Int→ByteArray→EL→EL→Int→Int→ByteArray→EL→EL→ρ) (K0:Bool→ρ) (j1:Bool):ρ :=
 K0 j1
def p58_b {ρ:Type} (fail:ρ) (fu:Nat) (s_p71b:(Bool→ρ)→EL→EL→ρ) (s_p58:(Bool→ρ)→Int→Int→ByteArray→EL→EL→Int→Int→ByteArray→EL→EL→ρ) (K0:Bool→ρ) (x0 x1:Int) (x2:ByteArray) (x3 x4:EL) (x5 x6:Int) (x7:ByteArray) (x8 x9:EL):ρ :=
 bif (z0a .eql x0 x5) then (bif (z0a .eql x1 x6) then (bif (z2f .eql x2 x7) then (p69 fail fu (fun y2=>bif y2 then (s_p71b (fun y3=>p58_1 fail fu s_p71b s_p58 K0 y3) x4 x9) else (p58_1 fail fu s_p71b s_p58 K0 false)) x3 x8) else (p58_1 fail fu s_p71b s_p58 K0 false)) else (p58_1 fail fu s_p71b s_p58 K0 false)) else (p58_1 fail fu s_p71b s_p58 K0 false)
mutual
def p71b {ρ:Type} (fail:ρ):Nat→(Bool→ρ)→EL→EL→ρ
 | 0,_,_,_=>fail
 | n + 1,K0,x0,x1=>p71b_b fail n (p71b fail n) (p58 fail n) K0 x0 x1
def p58 {ρ:Type} (fail:ρ):Nat→(Bool→ρ)→Int→Int→ByteArray→EL→EL→Int→Int→ByteArray→EL→EL→ρ
 | 0,_,_,_,_,_,_,_,_,_,_,_=>fail
 | n + 1,K0,x0,x1,x2,x3,x4,x5,x6,x7,x8,x9=>p58_b fail n (p71b fail n) (p58 fail n) K0 x0 x1 x2 x3 x4 x5 x6 x7 x8 x9
end
def p51_1 {ρ:Type} (fail:ρ) (fu:Nat) (s_p51:(Bool→ρ)→Int→Int→EL→Int→Int→EL→ρ) (K0:Bool→ρ) (rec1:Int→ρ) (x2 x5:EL) (z2:Int):ρ :=
 bif (z0a .lss z2 ((x2.length:Nat):Int)) then (gd ((0:Int)≤z2) fail (gd ((z2:Int) < (x2.length:Nat)) fail (z0y fail (List.getD x2 ((z2:Int).toNat) []) (fun c3 c4 c5=>gd ((0:Int)≤z2) fail (gd ((z2:Int) < (x5.length:Nat)) fail (z0y fail (List.getD x5 ((z2:Int).toNat) []) (fun c6 c7 c8=>s_p51 (fun y9=>bif (!y9) then (K0 false) else (rec1 (z0c .add .i64 z2 1))) c3 c4 c5 c6 c7 c8))))))) else (K0 true)
def p51_1L {ρ:Type} (fail:ρ) (fu:Nat) (s_p51:(Bool→ρ)→Int→Int→EL→Int→Int→EL→ρ) (K0:Bool→ρ) (x2 x5:EL):Nat→Int→ρ
 | 0,_=>fail
 | n + 1,z2=>p51_1 fail fu s_p51 K0 (p51_1L fail fu s_p51 K0 x2 x5 n) x2 x5 z2
def p51_2 {ρ:Type} (fail:ρ) (fu:Nat) (s_p51:(Bool→ρ)→Int→Int→EL→Int→Int→EL→ρ) (K0:Bool→ρ) (x2 x5:EL) (j1:Bool):ρ :=
 bif j1 then (K0 false) else (p51_1L fail fu s_p51 K0 x2 x5 fu 0)
def p51_b {ρ:Type} (fail:ρ) (fu:Nat) (s_p51:(Bool→ρ)→Int→Int→EL→Int→Int→EL→ρ) (K0:Bool→ρ) (x0 x1:Int) (x2:EL) (x3 x4:Int) (x5:EL):ρ :=
 bif (z0a .neq x0 x3) then (p51_2 fail fu s_p51 K0 x2 x5 true) else (bif (z0a .neq x1 x4) then (p51_2 fail fu s_p51 K0 x2 x5 true) else (p51_2 fail fu s_p51 K0 x2 x5 (z0a .neq ((x2.length:Nat):Int) ((x5.length:Nat):Int))))
def p51 {ρ:Type} (fail:ρ):Nat→(Bool→ρ)→Int→Int→EL→Int→Int→EL→ρ
 | 0,_,_,_,_,_,_,_=>fail
 | n + 1,K0,x0,x1,x2,x3,x4,x5=>p51_b fail n (p51 fail n) K0 x0 x1 x2 x3 x4 x5
def p29_1 {ρ:Type} (fail:ρ) (fu:Nat) (s_p29:(Bool→ρ)→Int→Int→ByteArray→EL→EL→Int→Int→ByteArray→EL→EL→ρ) (K0:Bool→ρ) (rec2:Int→ρ) (x4 x9:EL) (z10:Int):ρ :=
 bif (z0a .lss z10 ((x4.length:Nat):Int)) then (gd ((0:Int)≤z10) fail (gd ((z10:Int) < (x4.length:Nat)) fail (z0q fail (List.getD x4 ((z10:Int).toNat) []) (fun c11 c12 c13 c14 c15=>gd ((0:Int)≤z10) fail (gd ((z10:Int) < (x9.length:Nat)) fail (z0q fail (List.getD x9 ((z10:Int).toNat) []) (fun c16 c17 c18 c19 c20=>s_p29 (fun y21=>bif (!y21) then (K0 false) else (rec2 (z0c .add .i64 z10 1))) c11 c12 c13 c14 c15 c16 c17 c18 c19 c20))))))) else (K0 true)
def p29_1L {ρ:Type} (fail:ρ) (fu:Nat) (s_p29:(Bool→ρ)→Int→Int→ByteArray→EL→EL→Int→Int→ByteArray→EL→EL→ρ) (K0:Bool→ρ) (x4 x9:EL):Nat→Int→ρ
 | 0,_=>fail
 | n + 1,z10=>p29_1 fail fu s_p29 K0 (p29_1L fail fu s_p29 K0 x4 x9 n) x4 x9 z10
def p29_2 {ρ:Type} (fail:ρ) (fu:Nat) (s_p29:(Bool→ρ)→Int→Int→ByteArray→EL→EL→Int→Int→ByteArray→EL→EL→ρ) (K0:Bool→ρ) (rec1:Int→ρ) (x3 x4 x8 x9:EL) (z2:Int):ρ :=
 bif (z0a .lss z2 ((x3.length:Nat):Int)) then (gd ((0:Int)≤z2) fail (gd ((z2:Int) < (x3.length:Nat)) fail (z0y fail (List.getD x3 ((z2:Int).toNat) []) (fun c3 c4 c5=>gd ((0:Int)≤z2) fail (gd ((z2:Int) < (x8.length:Nat)) fail (z0y fail (List.getD x8 ((z2:Int).toNat) []) (fun c6 c7 c8=>p51 fail fu (fun y9=>bif (!y9) then (K0 false) else (rec1 (z0c .add .i64 z2 1))) c3 c4 c5 c6 c7 c8))))))) else (p29_1L fail fu s_p29 K0 x4 x9 fu 0)
def p29_2L {ρ:Type} (fail:ρ) (fu:Nat) (s_p29:(Bool→ρ)→Int→Int→ByteArray→EL→EL→Int→Int→ByteArray→EL→EL→ρ) (K0:Bool→ρ) (x3 x4 x8 x9:EL):Nat→Int→ρ
 | 0,_=>fail
 | n + 1,z2=>p29_2 fail fu s_p29 K0 (p29_2L fail fu s_p29 K0 x3 x4 x8 x9 n) x3 x4 x8 x9 z2
def p29_3 {ρ:Type} (fail:ρ) (fu:Nat) (s_p29:(Bool→ρ)→Int→Int→ByteArray→EL→EL→Int→Int→ByteArray→EL→EL→ρ) (K0:Bool→ρ) (x3 x4 x8 x9:EL) (j1:Bool):ρ :=
 bif j1 then (K0 false) else (p29_2L fail fu s_p29 K0 x3 x4 x8 x9 fu 0)
def p29_b {ρ:Type} (fail:ρ) (fu:Nat) (s_p29:(Bool→ρ)→Int→Int→ByteArray→EL→EL→Int→Int→ByteArray→EL→EL→ρ) (K0:Bool→ρ) (x0 x1:Int) (x2:ByteArray) (x3 x4:EL) (x5 x6:Int) (x7:ByteArray) (x8 x9:EL):ρ :=
 bif (z0a .neq x0 x5) then (p29_3 fail fu s_p29 K0 x3 x4 x8 x9 true) else (bif (z0a .neq x1 x6) then (p29_3 fail fu s_p29 K0 x3 x4 x8 x9 true) else (bif (z2f .neq x2 x7) then (p29_3 fail fu s_p29 K0 x3 x4 x8 x9 true) else (bif (z0a .neq ((x3.length:Nat):Int) ((x8.length:Nat):Int)) then (p29_3 fail fu s_p29 K0 x3 x4 x8 x9 true) else (p29_3 fail fu s_p29 K0 x3 x4 x8 x9 (z0a .neq ((x4.length:Nat):Int) ((x9.length:Nat):Int))))))
def p29 {ρ:Type} (fail:ρ):Nat→(Bool→ρ)→Int→Int→ByteArray→EL→EL→Int→Int→ByteArray→EL→EL→ρ
 | 0,_,_,_,_,_,_,_,_,_,_,_=>fail
 | n + 1,K0,x0,x1,x2,x3,x4,x5,x6,x7,x8,x9=>p29_b fail n (p29 fail n) K0 x0 x1 x2 x3 x4 x5 x6 x7 x8 x9
def be (l:List UInt8):Nat:=l.foldl (fun v c=>v * 256 + c.toNat) 0
theorem w5d (l:List UInt8) (c:UInt8):be (l++[c])=be l * 256 + c.toNat:=by simp [be,List.foldl_append]
theorem be_lt:∀ (n:Nat) (l:List UInt8),l.length=n→be l < 2 ^ (8 * n):=by
 intro n
 induction n with
 | zero=>intro l h;rw [List.length_eq_zero_iff.1 h];decide
 | succ n ih =>
  intro l h
  have hne:l≠[]:=fun q=>by rw [q] at h;simp at h
  have hl:=List.dropLast_concat_getLast hne
  have h1:=ih l.dropLast (by rw [List.length_dropLast];omega)
  have hc:=(l.getLast hne).toNat_lt
  rw [← hl,w5d,show 8 * (n + 1)=8 * n + 8 by omega,Nat.pow_add]
  omega
theorem k1s (a:Nat) (c:UInt8) (ha:a * 256 + c.toNat < 2 ^ 64):z0c .or .u64 (z0c .shl .u64 (a:Nat) 8) (IntKind.u64.wrap ((c.toNat:Nat):Int))=((a * 256 + c.toNat:Nat):Int):=by
 have hc:=c.toNat_lt
 have hs:z0c .shl .u64 (a:Nat) 8=((a * 256:Nat):Int):=by
  show IntKind.u64.wrap ((a:Int) * 2 ^ (min ((8:Int)).toNat 64))=_
  have hp:(a:Int) * 2 ^ (min ((8:Int)).toNat 64)=((a * 256:Nat):Int):=by
   rw [show min ((8:Int)).toNat 64=8 from rfl];push_cast;rfl
  rw [hp,z2v _ (by omega)]
 rw [hs,z2v _ (by omega)]
 show IntKind.u64.wrap (bOr 64 _ _:Nat)=_
 rw [w9j 64 _ _ (by omega) (by omega)]
 have h1:a * 256 ||| c.toNat=a * 256 + c.toNat:=by
  have:=Nat.shiftLeft_add_eq_or_of_lt (show c.toNat < 2 ^ 8 from hc) a
  rw [Nat.shiftLeft_eq] at this
  exact this.symm
 rw [h1,z2v _ ha]
def z4i (bs:List UInt8):Except Int (Nat × List UInt8):=if bs.length < 8 then .error 2 else .ok (be (bs.take 8),bs.drop 8)
theorem w0n {bs r:List UInt8} {v:Nat} (h:z4i bs=.ok (v,r)):v < 2 ^ 64∧r.length < bs.length∧8≤bs.length∧v=be (bs.take 8)∧r=bs.drop 8:=by
 unfold z4i at h;split at h
 ·cases h
 ·injection h with h;injection h with h1 h2;subst h1 h2
  exact⟨be_lt 8 _ (by rw [List.length_take];omega),by rw [List.length_drop];omega,by omega,rfl,rfl⟩
theorem w7e {ρ:Type} (fail:ρ) (fu:Nat) (K:Int→Int→ρ) (l:List UInt8) (hl:l.length=8):∀ (r i n:Nat),i + r=8→r < n →
  p60_1L fail fu K n ((be (l.take i):Nat):Int) (encB l) ((l.length:Nat):Int) ((i:Nat):Int)=K ((be l:Nat):Int) 0:=by
 intro r
 induction r with
 | zero =>
  intro i n hi hn
  obtain⟨n,rfl⟩:∃ m,n=m + 1:=⟨n - 1,by omega⟩
  rw [p60_1L,p60_1,lssF (by omega),cond_false,List.take_of_length_le (by omega)]
 | succ r ih =>
  intro i n hi hn
  obtain⟨n,rfl⟩:∃ m,n=m + 1:=⟨n - 1,by omega⟩
  have hlt:i < l.length:=by omega
  have hb:be (l.take (i + 1))=be (l.take i) * 256 + (l[i]).toNat:=by rw [List.take_succ_eq_append_getElem hlt,w5d]
  have h64:be (l.take (i + 1)) < 2 ^ 64:=Nat.lt_of_lt_of_le (be_lt (i + 1) _ (by rw [List.length_take];omega)) (Nat.pow_le_pow_right (by omega) (by omega))
  rw [p60_1L,p60_1,lssT (by omega),cond_true,gd_y (by omega),gd_y (by rw [z0h];omega),z8t fail l i hlt,gd_y (by omega),k1s _ _ (by rw [← hb];exact h64),← hb,addZ (by omega) (by omega),show ((i:Nat):Int) + 1=((i + 1:Nat):Int) by omega]
  exact ih (i + 1) n (by omega) (by omega)
theorem w6d {ρ:Type} (fail:ρ) (fu:Nat) (hf:10≤fu) (bs:List UInt8) (hb:bs.length≤1099511627776):KOut (fun K=>p42 fail fu K (encB bs) 0) 0 (z4i bs):=by
 unfold z4i
 by_cases h8:bs.length < 8
 ·rw [if_pos h8]
  refine⟨by omega,encB bs,fun K=>?_⟩
  dsimp only
  rw [p42,neqF rfl,cond_false,p60,z0h,lssT (by omega),cond_true,z2l,neqT (by omega),cond_true]
 ·rw [if_neg h8]
  intro K
  dsimp only
  have ht:List.drop (0:Int).toNat (List.take (8:Int).toNat (encB bs))=encB (bs.take 8):=by rw [z6x];rfl
  have:=w7e fail fu (fun y1 y2=>p15 fail fu (fun y3 y4=>bif (z0a .neq y2 0) then (K 0 y3 y4) else (gd ((0:Int)≤8) fail (gd ((8:Int)≤(y3.length:Nat)) fail (gd (((y3.length:Nat):Int)≤(y3.length:Nat)) fail (K y1 (List.drop ((8:Int).toNat) (List.take (((y3.length:Nat):Int).toNat) y3)) y4))))) (encB bs) 0 y2) (bs.take 8) (by rw [List.length_take];omega) 8 0 fu (by omega) (by omega)
  rw [p42,neqF rfl,cond_false,p60,z0h,lssF (by omega),cond_false,gd_y (by omega),gd_y (by omega),gd_y (by omega),ht,z0h]
  refine Eq.trans this ?_
  try dsimp only
  rw [z2l,neqF rfl,cond_false,gd_y (by omega),gd_y (by rw [z0h];omega),gd_y (by omega),Int.toNat_natCast,List.take_of_length_le (Nat.le_refl _)]
  rw [z4z];rfl
theorem w8z {ρ:Type} (fail:ρ) (fu:Nat) (K:Int→EL→Int→ρ) (B:EL) (e:Int) (h:e≠0):p42 fail fu K B e=K 0 B e:=by
 rw [p42,neqT h,cond_true]
def fqQ (k:Nat):Bool:=k == 1
def fqH (k:Nat):Bool:=k == 2 || (8≤k && k≤15)
def fqO (k:Nat):Bool:=k == 8
def fqD (k:Nat):Bool:=3≤k && k≤5
def fqP (k:Nat):Bool:=k == 6 || k == 7 || k == 16 || k == 17
def fqT (k:Nat):Bool:=k == 6 || k == 7 || k == 9 || k == 16 || k == 17
def fqY (k:Nat):Bool:=k == 7 || k == 10 || k == 16
def fqN (k:Nat):Bool:=k == 15
structure Rq where
 k:Nat
 pa:Nat
 fuel:Nat
 cells:Nat
 h:Nat × Nat
 o:Nat × Nat
 d:Dc
 nm:List UInt8
 t:Tm
 ty:Tm
def dc0:Dc:=⟨0,0,0,⟨#[]⟩,⟨#[]⟩,tm0,tm0,[]⟩
def rdIf {α:Type} (c:Bool) (z:α) (f:List UInt8→Except Int (α × List UInt8)) (bs:List UInt8):Except Int (α × List UInt8):=if c=true then f bs else rt z bs
def z0i:List UInt8→Except Int ((Nat × Nat) × List UInt8):=bd z4i fun hi=>bd z4i fun lo=>rt (hi,lo)
def rdRq:List UInt8→Except Int (Rq × List UInt8):=bd (z2c 0 1073741824) fun k bs=>if ¬ (1≤k∧k≤18) then .error 5 else
 bd (rdIf (fqQ k) 0 rdNum) (fun fuel=>bd (rdIf (fqQ k) 0 rdNum) fun cells=>bd (rdIf (fqH k) (0,0) z0i) fun h=>bd (rdIf (fqO k) (0,0) z0i) fun o=>bd (rdIf (fqD k) dc0 z1i) fun d =>
  bd (rdIf (fqP k) 0 rdNum) fun pa=>bd (rdIf (fqT k) tm0 z0j) fun t=>bd (rdIf (fqY k) tm0 z0j) fun ty=>bd (rdIf (fqN k) [] (rdTxt 24)) fun nm=>rt ⟨k,pa,fuel,cells,h,o,d,nm,t,ty⟩) bs
def p14_1 {ρ:Type} (fail:ρ) (fu:Nat) (K0:Bool→Bool→Bool→Bool→Bool→Bool→Bool→Bool→Bool→ρ) (x0:Int) (j4:Bool):ρ :=
 bif j4 then (K0 false false false false true true true false true) else (bif (z0a .eql x0 8) then (K0 false true true false false false false false true) else (bif (z0a .eql x0 9) then (K0 false true false false false true false false true) else (bif (z0a .eql x0 10) then (K0 false true false false false false true false true) else (bif (z0a .eql x0 15) then (K0 false true false false false false false true true) else (bif (z0a .eql x0 18) then (K0 false false false false false false false false true) else (K0 false false false false false false false false false))))))
def p14_2 {ρ:Type} (fail:ρ) (fu:Nat) (K0:Bool→Bool→Bool→Bool→Bool→Bool→Bool→Bool→Bool→ρ) (x0:Int) (j3:Bool):ρ :=
 bif j3 then (K0 false false false false true true false false true) else (bif (z0a .eql x0 7) then (p14_1 fail fu K0 x0 (z0a .eql x0 7)) else (p14_1 fail fu K0 x0 (z0a .eql x0 16)))
def p14_3 {ρ:Type} (fail:ρ) (fu:Nat) (K0:Bool→Bool→Bool→Bool→Bool→Bool→Bool→Bool→Bool→ρ) (x0:Int) (j2:Bool):ρ :=
 bif j2 then (K0 false false false true false false false false true) else (bif (z0a .eql x0 6) then (p14_2 fail fu K0 x0 (z0a .eql x0 6)) else (p14_2 fail fu K0 x0 (z0a .eql x0 17)))
def p14_4 {ρ:Type} (fail:ρ) (fu:Nat) (K0:Bool→Bool→Bool→Bool→Bool→Bool→Bool→Bool→Bool→ρ) (x0:Int) (j5:Bool):ρ :=
 p14_3 fail fu K0 x0 j5
def p14_5 {ρ:Type} (fail:ρ) (fu:Nat) (K0:Bool→Bool→Bool→Bool→Bool→Bool→Bool→Bool→Bool→ρ) (x0:Int) (j1:Bool):ρ :=
 bif j1 then (K0 false true false false false false false false true) else (bif (z0a .eql x0 3) then (p14_3 fail fu K0 x0 (z0a .eql x0 3)) else (bif (z0a .eql x0 4) then (p14_4 fail fu K0 x0 (z0a .eql x0 4)) else (p14_4 fail fu K0 x0 (z0a .eql x0 5))))
def p14_6 {ρ:Type} (fail:ρ) (fu:Nat) (K0:Bool→Bool→Bool→Bool→Bool→Bool→Bool→Bool→Bool→ρ) (x0:Int) (j6:Bool):ρ :=
 p14_5 fail fu K0 x0 j6
def p14_7 {ρ:Type} (fail:ρ) (fu:Nat) (K0:Bool→Bool→Bool→Bool→Bool→Bool→Bool→Bool→Bool→ρ) (x0:Int) (j7:Bool):ρ :=
 p14_6 fail fu K0 x0 j7
def p14_8 {ρ:Type} (fail:ρ) (fu:Nat) (K0:Bool→Bool→Bool→Bool→Bool→Bool→Bool→Bool→Bool→ρ) (x0:Int) (j8:Bool):ρ :=
 p14_7 fail fu K0 x0 j8
def p14 {ρ:Type} (fail:ρ) (fu:Nat) (K0:Bool→Bool→Bool→Bool→Bool→Bool→Bool→Bool→Bool→ρ) (x0:Int):ρ :=
 bif (z0a .eql x0 1) then (K0 true false false false false false false false true) else (bif (z0a .eql x0 2) then (p14_5 fail fu K0 x0 (z0a .eql x0 2)) else (bif (z0a .eql x0 11) then (p14_6 fail fu K0 x0 (z0a .eql x0 11)) else (bif (z0a .eql x0 12) then (p14_7 fail fu K0 x0 (z0a .eql x0 12)) else (bif (z0a .eql x0 13) then (p14_8 fail fu K0 x0 (z0a .eql x0 13)) else (p14_8 fail fu K0 x0 (z0a .eql x0 14))))))
def p17 {ρ:Type} (fail:ρ) (fu:Nat) (K0:Int→Int→EL→Int→ρ) (x0:EL) (x1:Int):ρ :=
 p42 fail fu (fun y1 y2 y3=>p42 fail fu (fun y4 y5 y6=>K0 y1 y4 y5 y6) y2 y3) x0 x1
def p6_1 {ρ:Type} (fail:ρ) (fu:Nat) (K0:Int→Int→Int→Int→Int→Int→Int→Int→Int→Int→Int→ByteArray→ByteArray→Int→Int→ByteArray→EL→EL→Int→Int→ByteArray→EL→EL→EL→Int→Int→ByteArray→EL→EL→Int→Int→ByteArray→EL→EL→Int→ρ) (y1 j17 j18 j21 j22 j25 j26 j30 j31 j32:Int) (j34:ByteArray) (j35 j36:Int) (j37:ByteArray) (j38 j39:EL) (j40 j41:Int) (j42:ByteArray) (j43 j44 j45:EL) (j48 j52 j53:Int) (j54:ByteArray) (j55 j56:EL) (j60 j61:Int) (j62:ByteArray) (j63 j64:EL) (j67:ByteArray) (j68:EL) (j69:Int):ρ :=
 bif (z0a .neq j69 0) then (K0 0 0 0 0 0 0 0 0 0 0 0 ⟨#[]⟩ ⟨#[]⟩ 0 0 ⟨#[]⟩ nilE nilE 0 0 ⟨#[]⟩ nilE nilE nilE 0 0 ⟨#[]⟩ nilE nilE 0 0 ⟨#[]⟩ nilE nilE j69) else (K0 y1 j48 j17 j18 j21 j22 j25 j26 j30 j31 j32 j67 j34 j35 j36 j37 j38 j39 j40 j41 j42 j43 j44 j45 j52 j53 j54 j55 j56 j60 j61 j62 j63 j64 0)
def p6_2 {ρ:Type} (fail:ρ) (fu:Nat) (K0:Int→Int→Int→Int→Int→Int→Int→Int→Int→Int→Int→ByteArray→ByteArray→Int→Int→ByteArray→EL→EL→Int→Int→ByteArray→EL→EL→EL→Int→Int→ByteArray→EL→EL→Int→Int→ByteArray→EL→EL→Int→ρ) (y1 j17 j18 j21 j22 j25 j26 j30 j31 j32:Int) (j34:ByteArray) (j35 j36:Int) (j37:ByteArray) (j38 j39:EL) (j40 j41:Int) (j42:ByteArray) (j43 j44 j45:EL) (j48 j52 j53:Int) (j54:ByteArray) (j55 j56:EL) (j60 j61:Int) (j62:ByteArray) (j63 j64 j65:EL) (j66:Int) (j67:ByteArray):ρ :=
 bif (z0a .gtr ((j65.length:Nat):Int) 0) then (p15 fail fu (fun y70 y71=>p6_1 fail fu K0 y1 j17 j18 j21 j22 j25 j26 j30 j31 j32 j34 j35 j36 j37 j38 j39 j40 j41 j42 j43 j44 j45 j48 j52 j53 j54 j55 j56 j60 j61 j62 j63 j64 j67 y70 y71) j65 j66 5) else (p6_1 fail fu K0 y1 j17 j18 j21 j22 j25 j26 j30 j31 j32 j34 j35 j36 j37 j38 j39 j40 j41 j42 j43 j44 j45 j48 j52 j53 j54 j55 j56 j60 j61 j62 j63 j64 j67 j65 j66)
def p6_3 {ρ:Type} (fail:ρ) (fu:Nat) (K0:Int→Int→Int→Int→Int→Int→Int→Int→Int→Int→Int→ByteArray→ByteArray→Int→Int→ByteArray→EL→EL→Int→Int→ByteArray→EL→EL→EL→Int→Int→ByteArray→EL→EL→Int→Int→ByteArray→EL→EL→Int→ρ) (y1:Int) (y11:Bool) (j17 j18 j21 j22 j25 j26 j30 j31 j32:Int) (j33 j34:ByteArray) (j35 j36:Int) (j37:ByteArray) (j38 j39:EL) (j40 j41:Int) (j42:ByteArray) (j43 j44 j45:EL) (j48 j52 j53:Int) (j54:ByteArray) (j55 j56 j58:EL) (j59 j60 j61:Int) (j62:ByteArray) (j63 j64:EL):ρ :=
 bif y11 then (p20 fail fu (fun y72 y73 y74=>tobP fail y72 (fun s75=>p6_2 fail fu K0 y1 j17 j18 j21 j22 j25 j26 j30 j31 j32 j34 j35 j36 j37 j38 j39 j40 j41 j42 j43 j44 j45 j48 j52 j53 j54 j55 j56 j60 j61 j62 j63 j64 y73 y74 s75)) j58 j59 24) else (p6_2 fail fu K0 y1 j17 j18 j21 j22 j25 j26 j30 j31 j32 j34 j35 j36 j37 j38 j39 j40 j41 j42 j43 j44 j45 j48 j52 j53 j54 j55 j56 j60 j61 j62 j63 j64 j58 j59 j33)
def p6_4 {ρ:Type} (fail:ρ) (fu:Nat) (K0:Int→Int→Int→Int→Int→Int→Int→Int→Int→Int→Int→ByteArray→ByteArray→Int→Int→ByteArray→EL→EL→Int→Int→ByteArray→EL→EL→EL→Int→Int→ByteArray→EL→EL→Int→Int→ByteArray→EL→EL→Int→ρ) (y1:Int) (y11:Bool) (j17 j18 j21 j22 j25 j26 j30 j31 j32:Int) (j33 j34:ByteArray) (j35 j36:Int) (j37:ByteArray) (j38 j39:EL) (j40 j41:Int) (j42:ByteArray) (j43 j44 j45:EL) (j48:Int) (j50:EL) (j51 j52 j53:Int) (j54:ByteArray) (j55 j56:EL) (j57:Bool):ρ :=
 bif j57 then (p19 fail fu (fun y76 y77 y78 y79 y80 y81 y82=>p6_3 fail fu K0 y1 y11 j17 j18 j21 j22 j25 j26 j30 j31 j32 j33 j34 j35 j36 j37 j38 j39 j40 j41 j42 j43 j44 j45 j48 j52 j53 j54 j55 j56 y81 y82 y76 y77 y78 y79 y80) j50 j51) else (p6_3 fail fu K0 y1 y11 j17 j18 j21 j22 j25 j26 j30 j31 j32 j33 j34 j35 j36 j37 j38 j39 j40 j41 j42 j43 j44 j45 j48 j52 j53 j54 j55 j56 j50 j51 0 0 ⟨#[]⟩ nilE nilE)
def p6_5 {ρ:Type} (fail:ρ) (fu:Nat) (K0:Int→Int→Int→Int→Int→Int→Int→Int→Int→Int→Int→ByteArray→ByteArray→Int→Int→ByteArray→EL→EL→Int→Int→ByteArray→EL→EL→EL→Int→Int→ByteArray→EL→EL→Int→Int→ByteArray→EL→EL→Int→ρ) (y1:Int) (y10 y11:Bool) (j17 j18 j21 j22 j25 j26 j30 j31 j32:Int) (j33 j34:ByteArray) (j35 j36:Int) (j37:ByteArray) (j38 j39:EL) (j40 j41:Int) (j42:ByteArray) (j43 j44 j45:EL) (j48:Int) (j50:EL) (j51 j52 j53:Int) (j54:ByteArray) (j55 j56:EL):ρ :=
 bif y10 then (p6_4 fail fu K0 y1 y11 j17 j18 j21 j22 j25 j26 j30 j31 j32 j33 j34 j35 j36 j37 j38 j39 j40 j41 j42 j43 j44 j45 j48 j50 j51 j52 j53 j54 j55 j56 (z0a .eql j51 0)) else (p6_4 fail fu K0 y1 y11 j17 j18 j21 j22 j25 j26 j30 j31 j32 j33 j34 j35 j36 j37 j38 j39 j40 j41 j42 j43 j44 j45 j48 j50 j51 j52 j53 j54 j55 j56 false)
def p6_6 {ρ:Type} (fail:ρ) (fu:Nat) (K0:Int→Int→Int→Int→Int→Int→Int→Int→Int→Int→Int→ByteArray→ByteArray→Int→Int→ByteArray→EL→EL→Int→Int→ByteArray→EL→EL→EL→Int→Int→ByteArray→EL→EL→Int→Int→ByteArray→EL→EL→Int→ρ) (y1:Int) (y10 y11:Bool) (j17 j18 j21 j22 j25 j26 j30 j31 j32:Int) (j33 j34:ByteArray) (j35 j36:Int) (j37:ByteArray) (j38 j39:EL) (j40 j41:Int) (j42:ByteArray) (j43 j44 j45 j46:EL) (j47 j48:Int) (j49:Bool):ρ :=
 bif j49 then (p19 fail fu (fun y83 y84 y85 y86 y87 y88 y89=>p6_5 fail fu K0 y1 y10 y11 j17 j18 j21 j22 j25 j26 j30 j31 j32 j33 j34 j35 j36 j37 j38 j39 j40 j41 j42 j43 j44 j45 j48 y88 y89 y83 y84 y85 y86 y87) j46 j47) else (p6_5 fail fu K0 y1 y10 y11 j17 j18 j21 j22 j25 j26 j30 j31 j32 j33 j34 j35 j36 j37 j38 j39 j40 j41 j42 j43 j44 j45 j48 j46 j47 0 0 ⟨#[]⟩ nilE nilE)
def p6_7 {ρ:Type} (fail:ρ) (fu:Nat) (K0:Int→Int→Int→Int→Int→Int→Int→Int→Int→Int→Int→ByteArray→ByteArray→Int→Int→ByteArray→EL→EL→Int→Int→ByteArray→EL→EL→EL→Int→Int→ByteArray→EL→EL→Int→Int→ByteArray→EL→EL→Int→ρ) (y1:Int) (y9 y10 y11:Bool) (j17 j18 j21 j22 j25 j26 j30 j31 j32:Int) (j33 j34:ByteArray) (j35 j36:Int) (j37:ByteArray) (j38 j39:EL) (j40 j41:Int) (j42:ByteArray) (j43 j44 j45 j46:EL) (j47 j48:Int):ρ :=
 bif y9 then (p6_6 fail fu K0 y1 y10 y11 j17 j18 j21 j22 j25 j26 j30 j31 j32 j33 j34 j35 j36 j37 j38 j39 j40 j41 j42 j43 j44 j45 j46 j47 j48 (z0a .eql j47 0)) else (p6_6 fail fu K0 y1 y10 y11 j17 j18 j21 j22 j25 j26 j30 j31 j32 j33 j34 j35 j36 j37 j38 j39 j40 j41 j42 j43 j44 j45 j46 j47 j48 false)
def p6_8 {ρ:Type} (fail:ρ) (fu:Nat) (K0:Int→Int→Int→Int→Int→Int→Int→Int→Int→Int→Int→ByteArray→ByteArray→Int→Int→ByteArray→EL→EL→Int→Int→ByteArray→EL→EL→EL→Int→Int→ByteArray→EL→EL→Int→Int→ByteArray→EL→EL→Int→ρ) (y1:Int) (y8 y9 y10 y11:Bool) (j17 j18 j21 j22 j25 j26:Int) (j28:EL) (j29 j30 j31 j32:Int) (j33 j34:ByteArray) (j35 j36:Int) (j37:ByteArray) (j38 j39:EL) (j40 j41:Int) (j42:ByteArray) (j43 j44 j45:EL):ρ :=
 bif y8 then (p16 fail fu (fun y90 y91 y92=>p6_7 fail fu K0 y1 y9 y10 y11 j17 j18 j21 j22 j25 j26 j30 j31 j32 j33 j34 j35 j36 j37 j38 j39 j40 j41 j42 j43 j44 j45 y91 y92 y90) j28 j29) else (p6_7 fail fu K0 y1 y9 y10 y11 j17 j18 j21 j22 j25 j26 j30 j31 j32 j33 j34 j35 j36 j37 j38 j39 j40 j41 j42 j43 j44 j45 j28 j29 0)
def p6_9 {ρ:Type} (fail:ρ) (fu:Nat) (K0:Int→Int→Int→Int→Int→Int→Int→Int→Int→Int→Int→ByteArray→ByteArray→Int→Int→ByteArray→EL→EL→Int→Int→ByteArray→EL→EL→EL→Int→Int→ByteArray→EL→EL→Int→Int→ByteArray→EL→EL→Int→ρ) (y1:Int) (y8 y9 y10 y11:Bool) (j17 j18 j21 j22:Int) (j23:EL) (j24 j25 j26:Int) (j27:Bool):ρ :=
 bif j27 then (p18 fail fu (fun y93 y94 y95 y96 y97 y98 y99 y100 y101 y102 y103 y104 y105 y106 y107 y108 y109 y110=>p6_8 fail fu K0 y1 y8 y9 y10 y11 j17 j18 j21 j22 j25 j26 y109 y110 y93 y94 y95 y96 y97 y98 y99 y100 y101 y102 y103 y104 y105 y106 y107 y108) j23 j24) else (p6_8 fail fu K0 y1 y8 y9 y10 y11 j17 j18 j21 j22 j25 j26 j23 j24 0 0 0 ⟨#[]⟩ ⟨#[]⟩ 0 0 ⟨#[]⟩ nilE nilE 0 0 ⟨#[]⟩ nilE nilE nilE)
def p6_10 {ρ:Type} (fail:ρ) (fu:Nat) (K0:Int→Int→Int→Int→Int→Int→Int→Int→Int→Int→Int→ByteArray→ByteArray→Int→Int→ByteArray→EL→EL→Int→Int→ByteArray→EL→EL→EL→Int→Int→ByteArray→EL→EL→Int→Int→ByteArray→EL→EL→Int→ρ) (y1:Int) (y7 y8 y9 y10 y11:Bool) (j17 j18 j21 j22:Int) (j23:EL) (j24 j25 j26:Int):ρ :=
 bif y7 then (p6_9 fail fu K0 y1 y8 y9 y10 y11 j17 j18 j21 j22 j23 j24 j25 j26 (z0a .eql j24 0)) else (p6_9 fail fu K0 y1 y8 y9 y10 y11 j17 j18 j21 j22 j23 j24 j25 j26 false)
def p6_11 {ρ:Type} (fail:ρ) (fu:Nat) (K0:Int→Int→Int→Int→Int→Int→Int→Int→Int→Int→Int→ByteArray→ByteArray→Int→Int→ByteArray→EL→EL→Int→Int→ByteArray→EL→EL→EL→Int→Int→ByteArray→EL→EL→Int→Int→ByteArray→EL→EL→Int→ρ) (y1:Int) (y6 y7 y8 y9 y10 y11:Bool) (j17 j18:Int) (j19:EL) (j20 j21 j22:Int):ρ :=
 bif y6 then (p17 fail fu (fun y111 y112 y113 y114=>p6_10 fail fu K0 y1 y7 y8 y9 y10 y11 j17 j18 j21 j22 y113 y114 y111 y112) j19 j20) else (p6_10 fail fu K0 y1 y7 y8 y9 y10 y11 j17 j18 j21 j22 j19 j20 0 0)
def p6_12 {ρ:Type} (fail:ρ) (fu:Nat) (K0:Int→Int→Int→Int→Int→Int→Int→Int→Int→Int→Int→ByteArray→ByteArray→Int→Int→ByteArray→EL→EL→Int→Int→ByteArray→EL→EL→EL→Int→Int→ByteArray→EL→EL→Int→Int→ByteArray→EL→EL→Int→ρ) (y1:Int) (y5 y6 y7 y8 y9 y10 y11:Bool) (j15:EL) (j16 j17 j18:Int):ρ :=
 bif y5 then (p17 fail fu (fun y115 y116 y117 y118=>p6_11 fail fu K0 y1 y6 y7 y8 y9 y10 y11 j17 j18 y117 y118 y115 y116) j15 j16) else (p6_11 fail fu K0 y1 y6 y7 y8 y9 y10 y11 j17 j18 j15 j16 0 0)
def p6_13 {ρ:Type} (fail:ρ) (fu:Nat) (K0:Int→Int→Int→Int→Int→Int→Int→Int→Int→Int→Int→ByteArray→ByteArray→Int→Int→ByteArray→EL→EL→Int→Int→ByteArray→EL→EL→EL→Int→Int→ByteArray→EL→EL→Int→Int→ByteArray→EL→EL→Int→ρ) (y1:Int) (y4 y5 y6 y7 y8 y9 y10 y11:Bool) (j13:EL) (j14:Int):ρ :=
 bif y4 then (p16 fail fu (fun y119 y120 y121=>p16 fail fu (fun y122 y123 y124=>p6_12 fail fu K0 y1 y5 y6 y7 y8 y9 y10 y11 y123 y124 y119 y122) y120 y121) j13 j14) else (p6_12 fail fu K0 y1 y5 y6 y7 y8 y9 y10 y11 j13 j14 0 0)
def p6 {ρ:Type} (fail:ρ) (fu:Nat) (K0:Int→Int→Int→Int→Int→Int→Int→Int→Int→Int→Int→ByteArray→ByteArray→Int→Int→ByteArray→EL→EL→Int→Int→ByteArray→EL→EL→EL→Int→Int→ByteArray→EL→EL→Int→Int→ByteArray→EL→EL→Int→ρ) (x0:EL):ρ :=
 p13 fail fu (fun y1 y2 y3=>p14 fail fu (fun y4 y5 y6 y7 y8 y9 y10 y11 y12=>bif (!y12) then (p15 fail fu (fun y125 y126=>p6_13 fail fu K0 y1 y4 y5 y6 y7 y8 y9 y10 y11 y125 y126) y2 y3 5) else (p6_13 fail fu K0 y1 y4 y5 y6 y7 y8 y9 y10 y11 y2 y3)) y1) x0 0 0 1073741824
end Go.Proofs.Ytioiigabeoaneaa
