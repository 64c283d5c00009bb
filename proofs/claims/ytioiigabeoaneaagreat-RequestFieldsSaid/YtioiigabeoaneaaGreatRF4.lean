/- A part of the proof. Conditions: none. -/
import Derived.Test.YtioiigabeoaneaaGreatRF3
import Derived.IntWalk
import Derived.Laws.Bits64
import GoSem.ClaimChange
import Derived.ChangeSlices
import Derived.Test.YtioiigabeoaneaaGreatProg
import Derived.ProofKit
namespace Go.Proofs.YtioiigabeoaneaaGreat.V
open Go Go.RowKit
section
variable {P:Program} {T:Tab} {X:Ctx}
theorem U9 (hT:TabOk P T) {S:D7} {pl:E2} {w:World} {m:Mem} {tm:List AV} {a:Act} (hs:St X S pl w m) (h:TmR S pl w m tm a):∀ (rs:List ResultVar) {K:List AV→Prop},P2 T tm m rs K →
  ∃ xs us,K xs∧us.length=xs.length∧(rs.mapM fun r=>(match r with | .tmp t=>pure (a.tmps.getD t undef) | .cell ad t=>do loadVar t (← asAddr (a.tmps.getD ad undef)):Sem Value)).run P w=.ok us w∧∀ (j:Nat) x u,xs[j]?=some x→us[j]?=some u→RelV S pl w m x u
 | [],K,hk=>⟨[],[],hk,rfl,rfl,fun j x u hx=>by simp at hx⟩
 | .tmp t :: rs,K,hk=>by
  obtain⟨xs,us,h1,h2,h3,h4⟩:=U9 hT hs h rs hk
  refine⟨_,a.tmps.getD t undef :: us,h1,by simp [h2],?_,fun j x u hx hu=>?_⟩
  ·rw [List.mapM_cons]
   simp only [Sem.run_bind,Sem.run_pure,Result.andThen_ok,h3]
  ·cases j with
   | succ j=>exact h4 j x u (by simpa using hx) (by simpa using hu)
   | zero=>simp at hx hu;subst hx hu;have:=E5 (T:=T) hs h 0 (.tmp t);simpa [evO,Act.eval] using this
 | .cell ad t :: rs,K,hk=>by
  simp only [P2] at hk
  split at hk
  ·exact hk.elim
  ·rename_i s hs2
   obtain⟨u,y,h1,h2,h3⟩:=z2z (P:=P) (K:=fun x _=>P2 T tm m rs fun l=>K (x :: l)) hT hs hs2 (E5 (T:=T) hs h 0 (.tmp ad)) hk
   obtain⟨xs,us,g1,g2,g3,g4⟩:=U9 hT hs h rs h2
   have hrun:(do loadVar t (← asAddr (a.tmps.getD ad undef)):Sem Value).run P w=.ok u w:=by
    simp only [Act.eval] at h1
    generalize a.tmps.getD ad undef=q at h1 ⊢
    cases q with
    | pointer p =>
     cases p with
     | some p=>exact h1
     | none=>simp [Instr.loadAt,Instr.sureAddr,stuck] at h1
    | _=>simp [Instr.loadAt,Instr.sureAddr,stuck] at h1
   refine⟨y :: xs,u :: us,g1,by simp [g2],?_,fun j x v hx hu=>?_⟩
   ·rw [List.mapM_cons]
    simp only [Sem.run_bind] at hrun ⊢
    simp only [hrun,Result.andThen_ok,g3,Sem.run_pure]
   ·cases j with
    | succ j=>exact g4 j x v (by simpa using hx) (by simpa using hu)
    | zero=>simp at hx hu;subst hx hu;exact h3
def k2x:List Value→Value
 | [u]=>u
 | l=>.tuple l.toArray
theorem w1e {fn:Func} {a:Act} {w:World} {us:List Value} (h:(fn.results.toList.mapM fun r=>(match r with | .tmp t=>pure (a.tmps.getD t undef) | .cell ad t=>do loadVar t (← asAddr (a.tmps.getD ad undef)):Sem Value)).run P w=.ok us w) :
  (results fn a.tmps).run P w=.ok (k2x us) w:=by
 unfold results
 rw [Array.mapM_eq_mapM_toList]
 simp only [Sem.run_bind,Sem.run_map]
 generalize hq:Sem.run P (List.mapM _ _) w=q
 have hq2:q=.ok us w:=hq.symm.trans h
 subst hq2
 simp only [Result.andThen_ok,Sem.run_pure]
 match us with
 | []=>rfl
 | [u]=>rfl
 | u :: v :: r=>simp [k2x]
theorem z0w {w:World}:∀ (os:List OV) (xs:List AV) (us:List Value) {S:D7} {pl:E2} {m:Mem} {K:List OV→Mem→Prop},St X S pl w m→os.length=us.length→(∀ (j:Nat) x u,xs[j]?=some x→us[j]?=some u→RelV S pl w m x u)→N7 m os xs K →
  ∃ S' bs m' F,K bs m'∧z7f S' w F os us bs∧Packed X S S' pl w m m' F
 | [],_,[],S,pl,m,K,h,_,_,hk=>⟨S,[],m,_,by simpa only [N7] using hk,.nil,⟨h,Keeps.refl _ _ _ _,Shrinks.refl _ _ _,fun _ _ q=>q.elim,fun _ _ q=>q.elim⟩⟩
 | [],_,_ :: _,_,_,_,_,_,hl,_,_=>by simp at hl
 | _ :: _,_,[],_,_,_,_,_,hl,_,_=>by simp at hl
 | o :: os,xs,u :: us,S,pl,m,K,h,hl,hr,hk=>by
  have skip:(∀ cs,o≠.ptr cs)→(N7 m os xs.tail fun l m=>K (o :: l) m)→∃ S' bs m' F,K bs m'∧z7f S' w F (o :: os) (u :: us) bs∧Packed X S S' pl w m m' F:=fun hn hk=>by
   obtain⟨S',bs,m',F,h1,h2,h3⟩:=z0w os xs.tail us h (by simpa using hl) (fun j x v hx hv=>hr (j + 1) x v (by rw [List.getElem?_tail] at hx;exact hx) (by simpa using hv)) hk
   exact⟨S',_,m',F,h1,.skip o o u os us bs F hn h2,h3⟩
  cases o with
  | ptr cs0 =>
   cases xs with
   | nil=>simp [N7] at hk
   | cons x xs =>
    cases x with
    | p id ver off =>
     cases off with
     | succ off=>simp [N7] at hk
     | zero =>
      simp only [N7] at hk
      split at hk
      ·rename_i v cs hg
       obtain⟨rfl,hk⟩:=hk
       have hrel:=hr 0 _ u rfl rfl
       cases hrel with | p _ _ _ b q hv hrel =>
       obtain⟨_,hb⟩:=hrel _ hg rfl
       obtain⟨hv',h1,h2,hrow⟩:=h.inv.ob id _ hg
       obtain⟨vs,hul,huc,hur⟩:=hrow.list
       have hb1:(pl id).1=b:=by rw [← hb]
       have hb2:(pl id).2=q:=by rw [← hb]
       obtain⟨hst,hkp⟩:=h.del id
       obtain⟨f1,f2⟩:=z3c h.inv hg
       obtain⟨hlive,_⟩:=Q1 (z5y depth) cs hk
       obtain⟨S1,ps,m1,F1,hk1,ho,hp⟩:=L8 (W3 depth) cs vs hst hul (fun j x u hx hu=>(hur j x u hx hu).mono hkp) hk
       have hreg:∀ b' o',(b'=b∧q≤o'∧o' < q + vs.length)→(Ob.blk v cs).foot (pl id) b' o':=fun b' o' ⟨q1,q2,q3⟩=>by
        have hj:o' - q < cs.length:=by omega
        have hx:cs[o' - q]?=some cs[o' - q]:=List.getElem?_eq_getElem hj
        exact⟨by rw [q1,hb1],o' - q,_,hx,hlive _ (List.mem_of_getElem? hx),by rw [hb2];omega⟩
       rw [hb1] at h1 h2 huc
       rw [hb2] at huc
       have hown:Own S1 w _ (.ptr ps) (.pointer (some ⟨b,q,none⟩)):=.ptr ps vs b q F1 ho h1 h2 huc (fun b' o' q1 q2=>(f2 b' o' (hreg b' o' q2)).2 (hp.off b' o' q1).1)
       have kp1:=hkp.trans hp.kp
       obtain⟨S2,bs,m2,F2,hk2,ho2,p2⟩:=z0w os xs us hp.st (by simpa using hl) (fun j x v hx hv=>(hr (j + 1) x v (by simpa using hx) (by simpa using hv)).mono kp1) hk1
       have hoff:∀ b' o',(F1 b' o'∨b'=b∧q≤o'∧o' < q + vs.length)→U0 pl m b' o'∧¬ U0 pl m1 b' o'∧¬ S1 b' o':=fun b' o' q1=>by
        rcases q1 with q1 | q1
        ·exact⟨f1 _ _ (hp.off b' o' q1).1,(hp.off b' o' q1).2,hp.no b' o' q1⟩
        ·obtain⟨g1,g2⟩:=f2 b' o' (hreg b' o' q1)
         exact⟨g1,fun q'=>g2 (hp.sh.feet _ _ q'),fun hs=>(hp.sh.grow b' o' hs).elim (h.inv.free id _ hg b' o' (hreg b' o' q1)) g2⟩
       refine⟨S2,_,m2,_,hk2,.ptr cs0 ps _ os us bs _ F2 (hown.keep (p2.still _)) ho2 (fun b' o' q1 q2=>(hoff b' o' q1).2.1 (p2.off b' o' q2).1),p2.st,kp1.trans p2.kp,⟨fun b' o' hs=>?_,fun b' o' hf=>f1 _ _ (hp.sh.feet _ _ (p2.sh.feet _ _ hf))⟩,fun b' o' q1=>?_,fun b' o' q1=>?_⟩
       ·rcases p2.sh.grow b' o' hs with g | g
        ·exact (hp.sh.grow b' o' g).imp (fun q=>q) (f1 b' o')
        ·exact .inr (f1 _ _ (hp.sh.feet _ _ g))
       ·rcases q1 with q1 | q1
        ·exact⟨(hoff b' o' q1).1,fun q'=>(hoff b' o' q1).2.1 (p2.sh.feet _ _ q')⟩
        ·exact⟨f1 _ _ (hp.sh.feet _ _ (p2.off b' o' q1).1),(p2.off b' o' q1).2⟩
       ·rcases q1 with q1 | q1
        ·exact fun hs=>(p2.sh.grow b' o' hs).elim (hoff b' o' q1).2.2 (hoff b' o' q1).2.1
        ·exact p2.no b' o' q1
      ·exact hk.elim
    | _=>simp [N7] at hk
  | c y=>exact skip (by simp) (by simpa only [N7] using hk)
  | arr sz es cap pub n=>exact skip (by simp) (by simpa only [N7] using hk)
  | bsl n cs=>exact skip (by simp) (by simpa only [N7] using hk)
  | agg cs=>exact skip (by simp) (by simpa only [N7] using hk)
  | tup cs=>exact skip (by simp) (by simpa only [N7] using hk)
theorem w5t {S:D7} {pl:E2} {w:World} {m:Mem}:∀ (xs:List AV) (us:List Value),us.length=xs.length→(∀ (j:Nat) x u,xs[j]?=some x→us[j]?=some u→RelV S pl w m x u)→RelV S pl w m (w1i xs) (k2x us)
 | [],[],h,hr=>.tup [] [] h hr
 | [x],[u],_,hr=>hr 0 x u rfl rfl
 | x :: y :: r,u :: v :: s,h,hr=>.tup _ _ h hr
 | [],_ :: _,h,_=>by simp at h
 | _ :: _,[],h,_=>by simp at h
 | [_],_ :: _ :: _,h,_=>by simp at h
 | _ :: _ :: _,[_],h,_=>by simp at h
theorem w1a {S:D7} {pl:E2} {w:World} {m:Mem} (h:St X S pl w m) {x:AV} {u:Value} (hr:RelV S pl w m x u) {K:AV→Mem→Prop} (hk:w4d m x K) :
  ∃ S' y m',K y m'∧RelV S' pl w m' y u∧St X S' pl w m'∧Keeps S S' pl pl w w m m':=by
 cases x with
 | agg cs =>
  cases hr with | agg _ us hl hr =>
  obtain⟨S',ys,m',h1,h2,h3,h4,h5⟩:=z0e cs us h hl hr hk
  refine⟨S',_,m',h1,.agg _ us (by simp [h2,hl]) (fun i x u hx hu=>?_),h4,h5⟩
  rw [List.getElem?_map] at hx
  cases hy:ys[i]? with
  | none=>rw [hy] at hx;simp at hx
  | some y=>rw [hy] at hx;simp at hx;subst hx;exact .c _ _ (h3 i y u hy hu)
 | c x=>cases hr with | c _ _ hr=>exact⟨S,_,m,hk,.c _ _ hr.norm,h,Keeps.refl _ _ _ _⟩
 | t id ver n =>
  obtain⟨S',y,m',h1,h2,h3,h4⟩:=w0f (K:=fun y m=>K (.c y) m) h hr hk
  exact⟨S',_,m',h1,.c _ _ h2,h3,h4⟩
 | p=>exact⟨S,_,m,hk,hr,h,Keeps.refl _ _ _ _⟩
 | bs=>exact⟨S,_,m,hk,hr,h,Keeps.refl _ _ _ _⟩
 | tp=>exact⟨S,_,m,hk,hr,h,Keeps.refl _ _ _ _⟩
 | tup=>exact⟨S,_,m,hk,hr,h,Keeps.refl _ _ _ _⟩
 | dead=>exact⟨S,_,m,hk,hr,h,Keeps.refl _ _ _ _⟩
theorem z2p {w:World}:∀ (xs:List AV) (us:List Value) {S:D7} {pl:E2} {m:Mem} (_:St X S pl w m) (_:us.length=xs.length) (_:∀ (j:Nat) x u,xs[j]?=some x→us[j]?=some u→RelV S pl w m x u)
  {K:List AV→Mem→Prop} (_:z5k m xs K),∃ S' ys m',K ys m'∧ys.length=xs.length∧(∀ (j:Nat) y u,ys[j]?=some y→us[j]?=some u→RelV S' pl w m' y u)∧St X S' pl w m'∧Keeps S S' pl pl w w m m'
 | [],_,S,_,m,h,_,_,K,hk=>⟨S,[],m,hk,rfl,fun j y u hy=>by simp at hy,h,Keeps.refl _ _ _ _⟩
 | x :: xs,[],_,_,_,_,hl,_,_,_=>by simp at hl
 | x :: xs,u :: us,S,pl,m,h,hl,hr,K,hk=>by
  obtain⟨S1,y,m1,hk1,hy,h1,k1⟩:=w1a h (hr 0 x u rfl rfl) hk
  obtain⟨S2,ys,m2,hk2,hlen,hys,h2,k2⟩:=z2p xs us h1 (by simpa using hl) (fun j x u hx hu=>(hr (j + 1) x u hx hu).mono k1) hk1
  refine⟨S2,y :: ys,m2,hk2,by simp [hlen],fun j y' u' hy' hu'=>?_,h2,k1.trans k2⟩
  cases j with
  | zero=>simp at hy' hu';subst hy' hu';exact hy.mono k2
  | succ j=>exact hys j y' u' (by simpa using hy') (by simpa using hu')
theorem z9e {w:World} (sh:Bool) (xs:List AV) (us:List Value) {S:D7} {pl:E2} {m:Mem} (h:St X S pl w m) (hl:us.length=xs.length) (hr:∀ (j:Nat) x u,xs[j]?=some x→us[j]?=some u→RelV S pl w m x u)
  {K:List AV→Mem→Prop} (hk:z9g sh m xs K):∃ S' ys m',K ys m'∧ys.length=xs.length∧(∀ (j:Nat) y u,ys[j]?=some y→us[j]?=some u→RelV S' pl w m' y u)∧St X S' pl w m'∧Keeps S S' pl pl w w m m':=by
 cases sh with
 | true=>exact z2p xs us h hl hr hk
 | false=>exact⟨S,xs,m,hk,rfl,hr,h,Keeps.refl _ _ _ _⟩
theorem k3k (hm : P.follows .mixedOrders = true) (hT : TabOk P T) {G : L2} {D : Spec} (hD : ∀ f os Q, D f os Q → Den P G f os Q) {f : FuncId} {fn : Func} {body : Code} (hf : P.funcs[f]? = some fn) (hb : fn.body = some body) (hname : (fn.name == "runtime.NumGoroutine") = false)
  {os:List OV} {Q:OV→List OV→Prop} (hlen:os.length≤fn.ntmps) {sh:Bool} (hk:FnW T G D fn body os Q sh):Den P G f os Q:=by
 refine⟨⟨fn,hf,by rw [hb];rfl,hname⟩,fun S F w us hS hF hG ho=>?_⟩
 let X:Ctx:=⟨S,F,w,G⟩
 have hus:=ho.length
 have st0:St X S (fun _=>(0,0)) w ⟨[],0⟩:=⟨⟨fun id ob h=>by simp [Mem.get,K2] at h,fun id id' ob ob' h=>by simp [Mem.get,K2] at h,fun id ob h=>by simp [Mem.get,K2] at h,hS⟩,
  Ext.refl _ _,fun _ _ h=>h,fun b o h=>.inl h,fun id ob h=>by simp [Mem.get,K2] at h,hG⟩
 obtain⟨pl,l1,r1⟩:=K8 (X:=X) (U2 depth) os us 0 st0 ho (fun b o hf=>⟨.inl hf,(hF b o hf).2,fun ⟨id,ob,hg,_⟩=>by simp [Mem.get,K2] at hg⟩)
 unfold FnW at hk
 dsimp only at hk
 have hul:=J2 (H0 depth) os 0 ⟨[],0⟩
 generalize hu:G6 (H0 depth) 0 ⟨[],0⟩ os=U at l1 r1 hk hul
 refine calls_of_wp hf hb ?_
 have tm0:TmR S pl w U.2.2 (U.1++List.replicate (fn.ntmps - os.length) .dead) { tmps:=us.toArray++Array.replicate (fn.ntmps - us.toArray.size) undef,defers:=[] }:=by
  refine⟨rfl,by simp;omega,fun i x hx=>?_⟩
  by_cases hi:i < U.1.length
  ·rw [List.getElem?_append_left hi] at hx
   have hiu:i < us.length:=by omega
   have hui:us[i]?=some us[i]:=List.getElem?_eq_getElem hiu
   have:=r1 i x _ hx hui
   rw [Array.getD_eq_getD_getElem?,Array.getElem?_append_left (by simpa using hiu)]
   simpa [hui] using this
  ·rw [List.getElem?_append_right (by omega),List.getElem?_replicate] at hx
   split at hx
   ·injection hx with hx;subst hx;exact .dead _
   ·simp at hx
 have hlow:∀ p ∈ U.1.zip us,Low U.2.2.clk p.1:=fun p hp=>by
  obtain⟨j,hj⟩:=List.mem_iff_getElem?.1 hp
  rw [List.getElem?_zip_eq_some] at hj
  exact (r1 j p.1 p.2 hj.1 hj.2).low
 refine wp_mono (w1v (pins:=U.1.zip us) (B:=U.2.2.clk) hlow hm hT hD body _ _ _ _ w ⟨S,pl,l1.st,tm0,fun p hp=>by
  obtain⟨j,hj⟩:=List.mem_iff_getElem?.1 hp
  rw [List.getElem?_zip_eq_some] at hj
  exact r1 j p.1 p.2 hj.1 hj.2⟩ hk) ?_
 rintro e a w' ⟨ex,tm,m,he,hk,S2,pl2,hst,htm,hpin⟩
 have fin:(P2 T tm m fn.results.toList fun rs=>z9g sh m rs fun rs m=>L1 depth m (w1i rs) fun r m=>N7 m os U.1 fun bs _=>Q r bs)→a.defers=[]∧∃ v,(results fn a.tmps).run P w'=.ok v w' ∧
   ∃ v_1 r bs S' Fr Fb,Ending.returned v=.returned v_1∧Q r bs∧Own S' w' Fr r v_1∧z7f S' w' Fb os us bs∧k1m S F w w' S' Fr Fb:=fun hk=>by
  obtain⟨xs0,vs,h1,h2,h3,h4⟩:=U9 hT hst htm fn.results.toList hk
  obtain⟨S2,xs,m,h1,hlen,h4,hst,hks⟩:=z9e sh xs0 vs hst h2 h4 h1
  replace h2:vs.length=xs.length:=by omega
  replace hpin:=fun p hp=>(hpin p hp).mono hks
  refine⟨htm.defers,_,w1e h3,?_⟩
  obtain⟨S3,r,m3,Fr,hk3,hor,p3⟩:=W3 depth hst (w5t xs vs h2 h4) h1
  obtain⟨S4,bs,m4,Fb,hq,hob,p4⟩:=z0w os U.1 us p3.st (by omega) (fun j x u hx hu=>(hpin (x,u) (List.mem_of_getElem? (i:=j) (by rw [List.getElem?_zip_eq_some];exact⟨hx,hu⟩))).mono p3.kp) hk3
  have hmine:∀ b o,U0 pl2 m b o→F b o∨w.heap.size≤b:=fun b o ⟨id,ob,hg,hf⟩=>hst.own id ob hg b o hf
  refine⟨_,r,bs,S4,Fr,Fb,rfl,hq,hor.keep (p4.still _),hob,⟨p4.st.ext,p4.st.sub,fun b o hs=>⟨p4.st.inv.low b o hs,p4.st.only b o hs⟩,fun b o h1 h2=>(p3.off b o h1).2 (p4.off b o h2).1,fun b o h=>?_⟩⟩
  rcases h with h | h
  ·exact⟨fun hs=>(p4.sh.grow b o hs).elim (p3.no b o h) (p3.off b o h).2,hmine b o (p3.off b o h).1⟩
  ·exact⟨p4.no b o h,hmine b o (p3.sh.feet _ _ (p4.off b o h).1)⟩
 cases e<;>simp [w8g] at he<;>subst he
 ·exact fin hk
 ·exact hk.elim
 ·exact fin hk
end
end Go.Proofs.YtioiigabeoaneaaGreat.V
namespace Go.Proofs.YtioiigabeoaneaaGreat.V
open Go
abbrev EL:=List (List CV)
structure Ops where
 wrap:IntKind→Int→Int
 bin:BinOp→IntKind→Int→Int→Int
 cmp:BinOp→Int→Int→Bool
 un:UnOp→IntKind→Int→Int
 bnot:Bool→Bool
 beq2:Bool→Bool→Bool
 least:Bool→Int→Int→Int
 nz:Int→Prop
 ile:Int→Int→Prop
 ilt:Int→Int→Prop
 nle:Nat→Nat→Prop
 plus:Nat→Nat→Nat
 times:Nat→Nat→Nat
 itimes:Int→Nat→Int
 toN:Int→Nat
 least2:Nat→Nat→Nat
 sadd:ByteArray→ByteArray→ByteArray
 scmp:BinOp→ByteArray→ByteArray→Bool
 ssz:ByteArray→Nat
 sext:ByteArray→Nat→Nat→ByteArray
 sget:ByteArray→Nat→Int
 ofb:ByteArray→EL
 tob:EL→(ByteArray→Prop)→Prop
 len:EL→Nat
 take:Nat→EL→EL
 view:Nat→EL→(EL→Prop)→Prop
 drop:Nat→EL→EL
 app:EL→EL→EL
 rep:Nat→List CV→EL
 setE:EL→Nat→Nat→List CV→EL
 width:EL→Nat→Nat
 over:EL→EL→Nat→EL
 elem:EL→Nat→(List CV→Prop)→Prop
 emp:EL→(Unit→Prop)→(Unit→Prop)→Prop
 br:Bool→(Unit→Prop)→(Unit→Prop)→Prop
 agree:List Nat→Mem→Mem→Prop
 call:Nat→Mem→FuncId→List AV→KK→Prop
 loop:Code→List AV→Mem→KX→Prop
 sub:List CV→Nat→Nat→(List CV→Prop)→Prop
 drawn:Array Oper→List AV→Mem→(List AV→Mem→Prop)→Prop
 reg:Array Oper→List AV→Mem→(List AV→Mem→Prop)→Prop
 join:(List AV→Mem→Prop)→List AV→Mem→Prop
 toI:Nat→Int
 neq:Nat→Nat→Prop
 hiOk:Bool→Int→Nat→Nat→Prop
 nat:Nat→Nat→(Nat→Prop)→Prop
 and2:Bool→Bool→Bool
 alt:(Unit→Prop)→(Unit→Prop)→Prop
 lzE:(Unit→EL)→EL
 lzI:(Unit→Int)→Int
 lzN:(Unit→Nat)→Nat
 lzS:(Unit→ByteArray)→ByteArray
 lzB:(Unit→Bool)→Bool
def bOr (n:Nat) (a b:Int):Nat:=(BitVec.ofInt n a ||| BitVec.ofInt n b).toNat
def bAnd (n:Nat) (a b:Int):Nat:=(BitVec.ofInt n a &&& BitVec.ofInt n b).toNat
def bXor (n:Nat) (a b:Int):Nat:=(BitVec.ofInt n a ^^^ BitVec.ofInt n b).toNat
def k0n (n:Nat) (a b:Int):Nat:=(BitVec.ofInt n a &&& ~~~ BitVec.ofInt n b).toNat
def B8 (op:BinOp) (k:IntKind) (a b:Int):Int:=match op with
 | .shl=>k.wrap (a * 2 ^ (min b.toNat k.bits))
 | .shr=>a.fdiv (2 ^ (min b.toNat k.bits))
 | .add=>k.wrap (a + b)
 | .sub=>k.wrap (a - b)
 | .mul=>k.wrap (a * b)
 | .quo=>k.wrap (a.tdiv b)
 | .rem=>a.tmod b
 | .and=>k.wrap (bAnd k.bits a b)
 | .or=>k.wrap (bOr k.bits a b)
 | .xor=>k.wrap (bXor k.bits a b)
 | .andNot=>k.wrap (k0n k.bits a b)
 | _=>0
def B0 (op:BinOp) (a b:Int):Bool:=match op with
 | .eql=>a == b
 | .neq=>a != b
 | .lss=>decide (a < b)
 | .leq=>decide (a≤b)
 | .gtr=>decide (a > b)
 | .geq=>decide (a ≥ b)
 | _=>false
def P3 (op:BinOp) (a b:ByteArray):Bool:=match op with
 | .eql=>a.toList == b.toList
 | .neq=>!(a.toList == b.toList)
 | .lss=>Op.bytesLess a.toList b.toList
 | .leq=>Op.bytesLess a.toList b.toList || a.toList == b.toList
 | .gtr=>!(Op.bytesLess a.toList b.toList || a.toList == b.toList)
 | .geq=>!(Op.bytesLess a.toList b.toList)
 | _=>false
def k3u (op:UnOp) (k:IntKind) (n:Int):Int:=match op with
 | .neg=>k.wrap (0 - n)
 | .xor=>k.wrap (BitVec.ofInt k.bits (if k.signed then -1 else k.max) ^^^ BitVec.ofInt k.bits n).toNat
 | _=>0
def std (B:Nat) (T:Tab) (G:L2) (D:Spec):Ops where
 wrap k n:=k.wrap n
 bin:=B8
 cmp:=B0
 un:=k3u
 bnot b:=!b
 beq2 a b:=a == b
 least mx a b:=if mx then (if b > a then b else a) else (if b < a then b else a)
 nz b:=b≠0
 ile a b:=a≤b
 ilt a b:=a < b
 nle a b:=a≤b
 plus a b:=a + b
 times a b:=a * b
 itimes a b:=a * b
 toN a:=a.toNat
 least2 a b:=min a b
 sadd a b:=a++b
 scmp:=P3
 ssz s:=s.size
 sext s l h:=s.extract l h
 sget s i:=((s.data.toList.getD i 0).toNat:Nat)
 ofb s:=E8 s.data.toList
 tob es K:=match bytesOf es with | some b=>K ⟨b.toArray⟩ | none=>False
 len es:=es.length
 take n es:=es.take n
 view n es K:=n≤es.length∧K (es.take n)
 drop n es:=es.drop n
 app a b:=a++b
 rep n z:=List.replicate n z
 setE es i o ys:=es.set i (F9 (es.getD i []) o ys)
 width es i:=(es.getD i []).length
 over ns es n:=ns.take n++es.drop n
 elem es i K:=K (es.getD i [])
 emp es A B:=if es=[] then A () else B ()
 br v A B:=(v=true→A ())∧(v=false→B ())
 agree:=Agree
 call site m f args K:=w8s D site m f args K
 loop c tm m K:=T2 B T G D (.loop c) tm m K
 sub cs i z K:=K (cs.drop (i * z))
 drawn ops tm m K:=z1c T G D ops tm m (z3k B K)
 reg ops tm m K:=z4s T G D ops.toList ops.toList tm m (z3k B K)
 join:=z3k B
 toI n:=n
 neq a b:=a=b
 hiOk c h n l:=h≤n∨c=true∧h≤l
 nat j _ K:=K j
 and2 a b:=a && b
 alt A B:=A ()∨B ()
 lzE f:=f ()
 lzI f:=f ()
 lzN f:=f ()
 lzS f:=f ()
 lzB f:=f ()
end Go.Proofs.YtioiigabeoaneaaGreat.V
namespace Go.Proofs.YtioiigabeoaneaaGreat.V
open Go
def J6 (b:Bool) (A:Unit→Prop):Prop:=match b with | true=>A () | false=>False
section
variable (O:Ops)
def brO (x:AV) (A B:Unit→Prop):Prop:=match x with | .c (.v (.bool v))=>O.br v A B | _=>False
def z2k (m:Mem):AV→(CV→Mem→Prop)→Prop
 | .c x,K=>K (z2x x) m
 | .t id ver n,K=>match m.get id with
  | some (.arr v sz es cap _)=>J6 (Nat.beq v ver) fun _=>O.view n es fun xs=>K (.sl sz xs none) (m.upd id (.arr v sz es cap true))
  | _=>False
 | _,_=>False
def z0g (m:Mem):List AV→(List CV→Mem→Prop)→Prop
 | [],K=>K [] m
 | a :: l,K=>z2k O m a fun x m=>z0g m l fun xs m=>K (x :: xs) m
def w4f (op:BinOp):Value→Value→(Value→Prop)→Prop
 | .int k a,.int k' b,K=>match op with
  | .shl | .shr=>O.ile 0 b∧K (.int k (O.bin op k a b))
  | .quo | .rem=>J6 (decide (k=k')) fun _=>O.nz b∧K (.int k (O.bin op k a b))
  | .add | .sub | .mul | .and | .or | .xor | .andNot=>J6 (decide (k=k')) fun _=>K (.int k (O.bin op k a b))
  | .eql | .neq | .lss | .leq | .gtr | .geq=>J6 (decide (k=k')) fun _=>K (.bool (O.cmp op a b))
 | .string a,.string b,K=>match op with
  | .add=>O.ile (O.plus (O.ssz a) (O.ssz b)) 9223372036854775807∧K (.string (O.sadd a b))
  | .eql | .neq | .lss | .leq | .gtr | .geq=>K (.bool (O.scmp op a b))
  | _=>False
 | _,_,_=>False
def k0m (op:BinOp) (k:TK) (m:Mem) (x y:AV) (K:KK):Prop:=match x,y with
 | .c (.v (.bool a)),.c (.v (.bool b))=>match op,k with
  | .eql,.bool=>K (.c (.v (.bool (O.beq2 a b)))) m
  | .neq,.bool=>K (.c (.v (.bool (O.bnot (O.beq2 a b))))) m
  | _,_=>False
 | .c (.v (.int i a)),.c (.v b)=>w4f O op (.int i a) b fun r=>K (.c (.v r)) m
 | .c (.v (.string a)),.c (.v b)=>w4f O op (.string a) b fun r=>K (.c (.v r)) m
 | x,y=>match op,k,z0l x,z0l y with
  | .eql,.pt _ _,some a,some b=>J6 (a || b) fun _=>K (.c (.v (.bool (a && b)))) m
  | .neq,.pt _ _,some a,some b=>J6 (a || b) fun _=>K (.c (.v (.bool !(a && b)))) m
  | _,_,_,_=>False
def w4v:Nat→AV→AV→Option Bool
 | 1,.c (.v (.int k a)),.c (.v (.int k' b))=>if k=k' then some (O.cmp .eql a b) else none
 | 2,.c (.v (.bool a)),.c (.v (.bool b))=>some (O.beq2 a b)
 | 3,.c (.v (.string a)),.c (.v (.string b))=>some (O.scmp .eql a b)
 | _,_,_=>none
def V7:List Nat→List AV→List AV→Option Bool
 | [],[],[]=>some true
 | c :: cs,x :: xs,y :: ys=>match w4v O c x y,V7 cs xs ys with | some a,some b=>some (O.and2 a b) | _,_=>none
 | _,_,_=>none
def eqO (op:BinOp) (ti:TI) (m:Mem) (xs ys:List AV) (K:KK):Prop:=match ti.k,ti.eq with
 | .st _,c :: cs=>match op,V7 O (c :: cs) xs ys with
  | .eql,some b=>K (.c (.v (.bool b))) m
  | .neq,some b=>K (.c (.v (.bool (O.bnot b)))) m
  | _,_=>False
 | _,_=>False
def unO (op:UnOp) (m:Mem) (x:AV) (K:KK):Prop:=match op,x with
 | .neg,.c (.v (.int k n))=>K (.c (.v (.int k (O.un .neg k n)))) m
 | .xor,.c (.v (.int k n))=>K (.c (.v (.int k (O.un .xor k n)))) m
 | .not,.c (.v (.bool b))=>K (.c (.v (.bool (O.bnot b)))) m
 | _,_=>False
def w3z (esz:Nat) (m:Mem) (x:AV) (K:EL→Prop):Prop:=match x with
 | .c (.sl sz es _)=>J6 (Nat.beq sz esz) fun _=>K es
 | .t id ver n=>match m.get id with
  | some (.arr v sz es _ _)=>J6 (Nat.beq v ver && Nat.beq sz esz) fun _=>O.view n es K
  | _=>False
 | _=>False
def z8t (src dst:TK) (site:Nat) (m:Mem) (x:AV) (K:KK):Prop:=match src,dst,x with
 | .int _,.int k,.c (.v (.int _ n))=>K (.c (.v (.int k (O.wrap k n)))) m
 | .str,.str,.c (.v (.string s))=>K (.c (.v (.string s))) m
 | .str,.sl 1 false 1 true,.c (.v (.string s))=>K (.t site m.clk (O.ssz s)) (m.new site fun v=>.arr v 1 (O.ofb s) none true)
 | .sl 1 false 1 true,.str,x=>w3z O 1 m x fun es=>O.tob es fun s=>K (.c (.v (.string s))) m
 | _,_,_=>False
def rdA (agg:Bool) (s:Nat) (cs:List AV) (K:AV→Prop):Prop:=match agg with
 | true=>J6 (Nat.ble s cs.length) fun _=>K (.agg (cs.take s))
 | false=>match cs with | x :: _=>K x | []=>False
def z6e (agg:Bool) (s:Nat) (m:Mem) (x:AV) (K:KK):Prop:=match x with
 | .p id ver o=>match m.get id with
  | some (.blk v cs)=>J6 (Nat.beq v ver) fun _=>rdA agg s (cs.drop o) fun y=>K y m
  | _=>False
 | .c (.rp cs)=>rdA agg s (cs.map .c) fun y=>K y m
 | .tp id ver i o=>match m.get id with
  | some (.arr v _ es _ _)=>J6 (Nat.beq v ver) fun _=>O.nle (O.plus i 1) (O.len es)∧O.elem es i fun cs=>rdA agg s ((cs.drop o).map .c) fun y=>K y m
  | _=>False
 | _=>False
def w2t (s:Nat) (m:Mem) (x y:AV) (K:Mem→Prop):Prop:=match x with
 | .p id ver o=>match m.get id with
  | some (.blk v cs)=>J6 (Nat.beq v ver && y.cells.length.beq s && y.cells.all AV.solid && Nat.ble (o + s) cs.length && ((cs.drop o).take s).all (fun x=>!x.isDead)) fun _=>K (m.upd id (.blk v (F9 cs o y.cells)))
  | _=>False
 | .tp id ver i o=>z0g O m y.cells fun ys m=>match m.get id with
  | some (.arr v sz es cap pub)=>J6 (Nat.beq v ver && !pub && ys.length.beq s) fun _=>O.nle (O.plus i 1) (O.len es)∧O.nle (o + s) (O.width es i) ∧
    K (m.upd id (.arr v sz (O.setE es i o ys) cap pub))
  | _=>False
 | _=>False
def k3n (site:Nat) (m:Mem) (y:AV) (K:KK):Prop:=J6 (y.cells.all AV.solid) fun _=>K (.p site m.clk 0) (m.new site fun v=>.blk v y.cells)
def W8 (site esz:Nat) (zero:List CV) (len:Nat) (parts:List (Nat × AV)) (m:Mem) (K:KK):Prop:=J6 (Nat.ble (len * esz) 16777216) fun _ =>
 match V6 (fun i=>some (i * esz,esz)) ((R1 len zero).map .c) parts with
 | some cs=>z0g O m cs fun xs m=>K (.t site m.clk len) (m.new site fun v=>.arr v esz (X4 esz len xs) (some len) false)
 | none=>False
def z0h (site esz:Nat) (zero:List CV) (len:Nat) (parts:List (Nat × AV)) (m:Mem) (K:KK):Prop:=J6 (Nat.blt 0 len && Nat.ble (len * esz) 16777216) fun _ =>
 match V6 (fun i=>some (i * esz,esz)) ((R1 len zero).map .c) parts with
 | some cs=>K (.bs site m.clk len) (m.new site fun v=>.blk v cs)
 | none=>False
def z6b (site esz ebytes:Nat) (zero:List CV) (m:Mem) (l c:AV) (K:KK):Prop:=match l,c with
 | .c (.v (.int _ l)),.c (.v (.int _ c))=>O.ile 0 l∧O.ile l c∧O.ile (O.itimes c ebytes) 70368744177664 ∧
   K (.t site m.clk (O.toN l)) (m.new site fun v=>.arr v esz (O.rep (O.toN l) zero) (some (O.toN c)) false)
 | _,_=>False
def z5h (k:TK) (m:Mem) (x:AV) (lo hi mx:Option AV) (K:KK):Prop:=match k,x with
 | .str,.c (.v (.string s))=>J6 mx.isNone fun _=>bnd 0 lo fun l=>bnd (O.ssz s) hi fun h=>O.ile 0 l∧O.ile l h∧O.ile h (O.ssz s)∧K (.c (.v (.string (O.sext s (O.toN l) (O.toN h))))) m
 | .sl esz _ _ _,.c (.sl sz es sp)=>J6 (Nat.beq sz esz) fun _=>bnd 0 lo fun l=>bnd (O.len es) hi fun h=>match mx with
  | none=>O.ile 0 l∧O.ile l h∧match sp with
   | some sp=>O.ile h (O.plus (O.len es) (O.len sp))∧K (.c (.sl sz (O.drop (O.toN l) (O.take (O.toN h) (O.app es sp))) (some (O.drop (O.toN h) (O.app es sp))))) m
   | none=>O.ile h (O.len es)∧K (.c (.sl sz (O.drop (O.toN l) (O.take (O.toN h) es)) none)) m
  | some mx=>J6 hi.isSome fun _=>bnd 0 (some mx) fun c=>O.ile 0 l∧O.ile l h∧O.ile h c∧O.ile c (O.len es) ∧
    K (.c (.sl sz (O.drop (O.toN l) (O.take (O.toN h) es)) (some (O.drop (O.toN h) (O.take (O.toN c) es))))) m
 | .sl esz _ _ _,.t id ver n=>match m.get id with
  | some (.arr v sz es cap _)=>J6 (Nat.beq v ver && Nat.beq sz esz && mx.isNone) fun _=>O.nle n (O.len es)∧bnd n hi fun h=>match lo with
   | none=>O.ile 0 h∧O.hiOk cap.isSome h n (O.len es)∧K (.t id ver (O.toN h)) m
   | some _=>bnd 0 lo fun l=>O.ile 0 l∧O.ile l h∧O.ile h n∧K (.c (.sl sz (O.drop (O.toN l) (O.take (O.toN h) es)) none)) (m.upd id (.arr v sz es cap true))
  | _=>False
 | _,_=>False
def V4 (lit:Bool) (k:TK) (m:Mem) (x i:AV) (K:KK):Prop:=match i with
 | .c (.v (.int _ i))=>match k,x with
  | .ar n esz _,.p id ver o=>match lit with
   | true=>J6 (Nat.ble 2 n && decide (0≤i) && decide (i < n)) fun _=>K (.p id ver (o + i.toNat * esz)) m
   | false=>J6 (Nat.ble 2 n) fun _=>O.ile 0 i∧O.ilt i n∧O.nat (O.toN i) n fun j=>K (.p id ver (o + j * esz)) m
  | .ar n esz _,.c (.rp cs)=>match lit with
   | true=>J6 (Nat.ble 2 n && decide (0≤i) && decide (i < n)) fun _=>K (.c (.rp (cs.drop (i.toNat * esz)))) m
   | false=>J6 (Nat.ble 2 n) fun _=>O.ile 0 i∧O.ilt i n∧O.sub cs (O.toN i) esz fun cs=>K (.c (.rp cs)) m
  | .sl esz _ _ _,.c (.sl sz es _)=>J6 (Nat.beq sz esz) fun _=>O.ile 0 i∧O.ilt i (O.len es)∧O.elem es (O.toN i) fun cs=>K (.c (.rp cs)) m
  | .sl esz _ _ _,.t id ver n=>match m.get id with
   | some (.arr v sz es _ _)=>J6 (Nat.beq v ver && Nat.beq sz esz) fun _=>O.nle n (O.len es)∧O.ile 0 i∧O.ilt i n∧K (.tp id ver (O.toN i) 0) m
   | _=>False
  | .sl esz _ _ _,.bs id ver n=>O.ile 0 i∧O.ilt i n∧O.nat (O.toN i) n fun j=>K (.p id ver (j * esz)) m
  | _,_=>False
 | _=>False
def z9r (lit:Bool) (k:TK) (m:Mem) (x i:AV) (K:KK):Prop:=match i with
 | .c (.v (.int _ i))=>match k,x with
  | .str,.c (.v (.string s))=>O.ile 0 i∧O.ilt i (O.ssz s)∧K (.c (.v (.int .u8 (O.sget s (O.toN i))))) m
  | .ar n esz eagg,.agg cs=>match lit with
   | true=>J6 (decide (0≤i) && decide (i < n)) fun _=>rdA eagg esz (cs.drop (i.toNat * esz)) fun y=>K y m
   | false=>O.ile 0 i∧O.ilt i n∧O.nat (O.toN i) n fun j=>rdA eagg esz (cs.drop (j * esz)) fun y=>K y m
  | _,_=>False
 | _=>False
def z9w (f:Nat × Nat × Bool) (m:Mem) (x:AV) (K:KK):Prop:=match x with
 | .agg cs=>rdA f.2.2 f.2.1 (cs.drop f.1) fun y=>K y m
 | _=>False
def k4q (k:TK) (m:Mem) (x:AV) (K:KK):Prop:=match k,x with
 | .str,.c (.v (.string s))=>K (.c (.v (.int .i64 (O.toI (O.ssz s))))) m
 | .ar n _ _,_=>K (.c (.v (.int .i64 n))) m
 | .sl _ _ _ _,.c (.sl _ es _)=>K (.c (.v (.int .i64 (O.toI (O.len es))))) m
 | .sl _ _ _ _,.t _ _ n=>K (.c (.v (.int .i64 (O.toI n)))) m
 | .sl _ _ _ _,.bs _ _ n=>K (.c (.v (.int .i64 n))) m
 | _,_=>False
def k3m (k:TK) (m:Mem) (x:AV) (K:KK):Prop:=match k,x with
 | .sl _ _ _ _,.c (.sl _ es (some sp))=>K (.c (.v (.int .i64 (O.toI (O.plus (O.len es) (O.len sp)))))) m
 | .sl _ _ _ _,.t id ver _=>match m.get id with
  | some (.arr v _ _ (some c) _)=>J6 (Nat.beq v ver) fun _=>K (.c (.v (.int .i64 (O.toI c)))) m
  | _=>False
 | _,_=>False
def z5a (mx:Bool) (m:Mem):List AV→KK→Prop
 | [.c (.v (.int k a)),.c (.v (.int k' b))],K=>J6 (decide (k=k')) fun _=>K (.c (.v (.int k (O.least mx a b)))) m
 | _,_=>False
def w9f (esz:Nat) (m:Mem) (x:AV) (K:EL→Prop):Prop:=match x with
 | .c (.v (.string s))=>J6 (Nat.beq esz 1) fun _=>K (O.ofb s)
 | x=>w3z O esz m x fun es=>K es
def z5c (site esz ebytes:Nat) (m:Mem) (s x:AV) (K:KK):Prop:=w9f O esz m x fun ns=>match s with
 | .c (.sl sz es (some []))=>J6 (Nat.beq sz esz) fun _=>O.nle (O.times (O.plus (O.len es) (O.len ns)) ebytes) 35184372088832 ∧
   O.emp ns (fun _=>K s m) (fun _=>K (.t site m.clk (O.len (O.app es ns))) (m.new site fun v=>.arr v esz (O.app es ns) none false))
 | .t id ver n=>match m.get id with
  | some (.arr v sz es _ pub)=>J6 (Nat.beq v ver && Nat.beq sz esz) fun _=>O.neq n (O.len es)∧O.nle (O.times (O.plus (O.len es) (O.len ns)) ebytes) 35184372088832 ∧
    K (.t id m.clk (O.len (O.app es ns))) ((m.del id).new id fun v=>.arr v sz (O.app es ns) none pub)
  | _=>False
 | _=>False
def w8m (esz:Nat) (m:Mem) (d x:AV) (K:KK):Prop:=w9f O esz m x fun ns=>match d with
 | .t id ver n=>match m.get id with
  | some (.arr v sz es cap false)=>J6 (Nat.beq v ver && Nat.beq sz esz) fun _=>O.nle n (O.len es) ∧
    K (.c (.v (.int .i64 (O.toI (O.least2 (O.len ns) n))))) (m.upd id (.arr v sz (O.over ns es (O.least2 (O.len ns) n)) cap false))
  | _=>False
 | _=>False
def Y0:Nat→Mem→AV→(OV→Mem→Prop)→Prop
 | 0,_,_,_=>False
 | k + 1,m,x,K=>match x with
  | .c x=>K (.c x) m
  | .t id ver n=>match m.get id with
   | some (.arr v sz es cap pub)=>J6 (Nat.beq v ver) fun _=>O.nle n (O.len es)∧K (.arr sz es cap pub n) (m.del id)
   | _=>False
  | .p id ver 0=>match m.get id with
   | some (.blk v cs)=>J6 (Nat.beq v ver) fun _=>N0 (Y0 k) (m.del id) cs fun os m=>K (.ptr os) m
   | _=>False
  | .bs id ver n=>match m.get id with
   | some (.blk v cs)=>J6 (Nat.beq v ver) fun _=>N0 (Y0 k) (m.del id) cs fun os m=>K (.bsl n os) m
   | _=>False
  | .agg cs=>N0 (Y0 k) m cs fun os m=>K (.agg os) m
  | .tup cs=>N0 (Y0 k) m cs fun os m=>K (.tup os) m
  | _=>False
def w7c (m:Mem) (x:AV) (K:OV→Mem→Prop):Prop:=match x with
 | .agg cs=>z0g O m cs fun xs m=>K (.agg (xs.map .c)) m
 | x=>z2k O m x fun y m=>K (.c y) m
def k3o (md:z0m) (m:Mem) (x:AV) (K:OV→Mem→Prop):Prop:=match md with
 | .shut=>w7c O m x K
 | .keep=>match x with | .c y=>K (.c y) m | _=>False
 | .own=>Y0 O depth m x K
 | .ref s=>match x with
  | .p id ver o=>match m.get id with
   | some (.blk v cs)=>J6 (Nat.beq v ver && Nat.ble (o + s) cs.length && ((cs.drop o).take s).all (fun x=>!x.isDead)) fun _=>N0 (Y0 O depth) (m.upd id (.blk v (F9 cs o (List.replicate s .dead)))) ((cs.drop o).take s) fun os m=>K (.ptr os) m
   | _=>False
  | _=>False
def w2g (m:Mem):List z0m→List AV→(List OV→Mem→Prop)→Prop
 | [],[],K=>K [] m
 | md :: mds,x :: xs,K=>k3o O md m x fun o m=>w2g m mds xs fun os m=>K (o :: os) m
 | _,_,_=>False
def z8v (id:Nat) (m:Mem):List z0m→List AV→List OV→(Nat→Mem→Prop)→Prop
 | [],[],[],K=>K id m
 | md :: mds,x :: xs,o :: l,K=>match md with
  | .ref s=>match x,o with
   | .p i ver o,.ptr os=>match (G6 (H0 depth) (1000000 * (i + 1)) m os).2.2.get i with
    | some (.blk v cs)=>J6 (os.length.beq s && Nat.beq v ver && Nat.ble (o + s) cs.length) fun _=>z8v id ((G6 (H0 depth) (1000000 * (i + 1)) m os).2.2.upd i (.blk v (F9 cs o (G6 (H0 depth) (1000000 * (i + 1)) m os).1))) mds xs l K
    | _=>False
   | _,_=>False
  | _=>z8v id m mds xs l K
 | _,_,_,_=>False
def k6l (f:Unit→Nat):Value→AV
 | .slice none 0 0=>.c (.sl (f ()) [] (some []))
 | v=>if z3m v then .c (.v v) else .dead
def evA (A:Nat→TI) (G:L2) (tm:List AV) (ty:Nat):Operand→AV
 | .tmp t=>tm.getD t .dead
 | .const v=>k6l (fun _=>match (A ty).k with | .sl e _ _ _=>e | _=>0) v
 | .global g=>match G g with | some cs=>.c (.rp cs) | none=>.dead
 | .func f=>.c (.v (.func (.func f) #[] #[]))
def w1x (A:Nat→TI) (G:L2) (tm:List AV):List Operand→List TypeId→List AV
 | [],_=>[]
 | x :: xs,tys=>evA A G tm (tys.headD 0) x :: w1x A G tm xs tys.tail
def Y6 (A:Nat→TI) (site:Nat) (m:Mem) (b:Builtin) (tys:List TypeId) (args:List AV) (K:KK):Prop:=match b,args,tys with
 | .len,[x],[t]=>k4q O (A t).k m x K
 | .cap,[x],[t]=>k3m O (A t).k m x K
 | .min,l,_=>z5a O false m l K
 | .max,l,_=>z5a O true m l K
 | .append,[s,x],[t,t2]=>match (A t).k,(A t2).k with
  | .sl esz _ ebytes _,.sl _ _ _ _=>z5c O site esz ebytes m s x K
  | .sl esz _ ebytes _,.str=>z5c O site esz ebytes m s x K
  | _,_=>False
 | .copy,[d,x],[t,_]=>match (A t).k with
  | .sl esz _ _ _=>w8m O esz m d x K
  | _=>False
 | _,_,_=>False
def w1q:Operand→Bool | .const _=>true | _=>false
def opO (A:Nat→TI) (G:L2) (tm:List AV) (o:Oper) (m:Mem) (K:KK):Prop:=match o.op with
 | .move x | .assign x=>K (evA A G tm o.type x) m
 | .pick c a b=>brO O (evA A G tm 0 c) (fun _=>K (evA A G tm o.type a) m) (fun _=>K (evA A G tm o.type b) m)
 | .alloc e=>match (A e).size with | 0=>False | _ + 1=>w3v (U7 o.dst) (A e).zero m K
 | .box e x=>k3n (U7 o.dst) m (evA A G tm e x) K
 | .build t ps=>match (A t).k with
  | .st fs=>N9 (Y9 fs) (A t).zero (ps.toList.map fun p=>(p.1,evA A G tm 0 p.2)) m K
  | .ar _ esz _=>N9 (fun i=>some (i * esz,esz)) (A t).zero (ps.toList.map fun p=>(p.1,evA A G tm 0 p.2)) m K
  | _=>False
 | .buildSlice t len ps=>match (A t).k with
  | .sl esz _ _ _=>bif Nat.ble 16 esz then O.alt (fun _=>W8 O (U7 o.dst) esz (A t).ezero len (ps.toList.map fun p=>(p.1,evA A G tm 0 p.2)) m K) (fun _=>z0h (U7 o.dst) esz (A t).ezero len (ps.toList.map fun p=>(p.1,evA A G tm 0 p.2)) m K) else W8 O (U7 o.dst) esz (A t).ezero len (ps.toList.map fun p=>(p.1,evA A G tm 0 p.2)) m K
  | _=>False
 | .load t a=>match (A t).size with | 0=>False | s + 1=>z6e O (A t).agg (s + 1) m (evA A G tm 0 a) K
 | .store t a x=>match (A t).size with | 0=>False | s + 1=>w2t O (s + 1) m (evA A G tm 0 a) (evA A G tm t x) fun m=>K .dead m
 | .nilCheck x=>L5 m (evA A G tm 0 x) K
 | .binOp op t x y _=>match w8z (evA A G tm t x) (evA A G tm t y) with
  | some p=>eqO O op (A t) m p.1 p.2 K
  | none=>k0m O op (A t).k m (evA A G tm t x) (evA A G tm t y) K
 | .unOp op _ x=>unO O op m (evA A G tm 0 x) K
 | .convert s d x=>z8t O (A s).k (A d).k (U7 o.dst) m (evA A G tm s x) K
 | .makeSlice t l c=>match (A t).k with
  | .sl esz _ ebytes _=>z6b O (U7 o.dst) esz ebytes (A t).ezero m (evA A G tm 0 l) (evA A G tm 0 c) K
  | _=>False
 | .slice t x lo hi mx=>z5h O (A t).k m (evA A G tm t x) (lo.map (evA A G tm 0)) (hi.map (evA A G tm 0)) (mx.map (evA A G tm 0)) K
 | .fieldAddr s x f=>match (A s).k with
  | .st fs=>match fs[f]? with
   | some (off,_ + 1,_)=>L0 off m (evA A G tm 0 x) K
   | some (_,0,_)=>False
   | none=>False
  | _=>False
 | .field t x f=>match (A t).k with
  | .st fs=>match fs[f]? with
   | some f=>z9w f m (evA A G tm 0 x) K
   | none=>False
  | _=>False
 | .indexAddr t x i=>V4 O (w1q i) (A t).k m (evA A G tm t x) (evA A G tm 0 i) K
 | .index t x i=>z9r O (w1q i) (A t).k m (evA A G tm t x) (evA A G tm 0 i) K
 | .extract x i=>T1 i m (evA A G tm 0 x) K
 | .call c=>match c.callee with
  | .builtin b=>Y6 O A (U7 o.dst) m b c.argTypes.toList (w1x A G tm c.args.toList c.argTypes.toList) K
  | .value f=>match evA A G tm 0 f with
   | .c (.v (.func (.func g) first captured))=>J6 (first.isEmpty && captured.isEmpty) fun _=>O.call (U7 o.dst) m g (w1x A G tm c.args.toList c.argTypes.toList) K
   | _=>False
  | _=>False
 | _=>False
def z2j (all:List Oper) (tm:List AV) (g:Option (Nat × Bool)) (go skip:Unit→Prop):Prop:=match g with
 | none=>go ()
 | some (j,want)=>match (all[j]?).bind (·.dst) with
  | some d=>match Z7 (tm.getD d .dead) with
   | true=>skip ()
   | false=>match want with
    | true=>brO O (tm.getD d .dead) go skip
    | false=>brO O (tm.getD d .dead) skip go
  | none=>False
def z9k (A:Nat→TI) (G:L2) (all:List Oper):List Oper→List AV→Mem→(List AV→Mem→Prop)→Prop
 | [],tm,m,K=>K tm m
 | o :: r,tm,m,K=>match mvT o tm with
  | none=>z2j O all tm o.guard (fun _=>opO O A G tm o m fun v m=>z9k A G all r (H8 tm o.dst v) m K) (fun _=>z9k A G all r (H8 tm o.dst R0) m K)
  | some s=>O.alt (fun _=>opO O A G tm o m fun v m=>z9k A G all r (H8 tm o.dst v) m K)
    (fun _=>z2k O m (tm.getD s .dead) fun y m=>z9k A G all r (H8 (H8 tm (some s) (.c y)) o.dst (tm.getD s .dead)) m K)
def z9t (A:Nat→TI) (G:L2) (wr:List Nat) (tm:List AV) (o:Oper) (m:Mem) (K:AV→Prop):Prop:=match o.op with
 | .move x | .assign x=>K (evA A G tm o.type x)
 | .pick c a b=>brO O (evA A G tm 0 c) (fun _=>K (evA A G tm o.type a)) (fun _=>K (evA A G tm o.type b))
 | .nilCheck x=>L5 m (evA A G tm 0 x) fun v _=>K v
 | .fieldAddr s x f=>match (A s).k with
  | .st fs=>match fs[f]? with
   | some (off,_ + 1,_)=>L0 off m (evA A G tm 0 x) fun v _=>K v
   | some (_,0,_)=>False
   | none=>False
  | _=>False
 | .field t x f=>match (A t).k with
  | .st fs=>match fs[f]? with
   | some f=>z9w f m (evA A G tm 0 x) fun v _=>K v
   | none=>False
  | _=>False
 | .extract x i=>T1 i m (evA A G tm 0 x) fun v _=>K v
 | .binOp op t x y _=>match w8z (evA A G tm t x) (evA A G tm t y) with
  | some p=>eqO O op (A t) m p.1 p.2 fun v _=>K v
  | none=>k0m O op (A t).k m (evA A G tm t x) (evA A G tm t y) fun v _=>K v
 | .unOp op _ x=>unO O op m (evA A G tm 0 x) fun v _=>K v
 | .load t a=>match (A t).size with
  | 0=>False
  | s + 1=>match evA A G tm 0 a with
   | .p id ver o=>J6 (!wr.contains id) fun _=>z6e O (A t).agg (s + 1) m (.p id ver o) fun v _=>K v
   | .tp id ver i o=>J6 (!wr.contains id) fun _=>z6e O (A t).agg (s + 1) m (.tp id ver i o) fun v _=>K v
   | .c x=>z6e O (A t).agg (s + 1) m (.c x) fun v _=>K v
   | _=>False
 | .indexAddr t x i=>match evA A G tm t x with
  | .t id ver n=>J6 (!wr.contains id) fun _=>V4 O (w1q i) (A t).k m (.t id ver n) (evA A G tm 0 i) fun v _=>K v
  | x=>V4 O (w1q i) (A t).k m x (evA A G tm 0 i) fun v _=>K v
 | .index t x i=>z9r O (w1q i) (A t).k m (evA A G tm t x) (evA A G tm 0 i) fun v _=>K v
 | .convert s d x=>match (A d).k,evA A G tm s x with
  | .int k,.c x=>z8t O (A s).k (.int k) 0 m (.c x) fun v _=>K v
  | .str,.c x=>z8t O (A s).k .str 0 m (.c x) fun v _=>K v
  | .str,.t id ver n=>J6 (!wr.contains id) fun _=>z8t O (A s).k .str 0 m (.t id ver n) fun v _=>K v
  | _,_=>False
 | .slice t x lo hi mx=>match evA A G tm t x with
  | .c x=>z5h O (A t).k m (.c x) (lo.map (evA A G tm 0)) (hi.map (evA A G tm 0)) (mx.map (evA A G tm 0)) fun v _=>K v
  | .t id ver n=>J6 (lo.isNone && !wr.contains id) fun _=>z5h O (A t).k m (.t id ver n) none (hi.map (evA A G tm 0)) (mx.map (evA A G tm 0)) fun v _=>K v
  | _=>False
 | .call c=>match c.callee with
  | .builtin .len=>Y6 O A 0 m .len c.argTypes.toList (w1x A G tm c.args.toList c.argTypes.toList) fun v _=>K v
  | .builtin .min=>Y6 O A 0 m .min c.argTypes.toList (w1x A G tm c.args.toList c.argTypes.toList) fun v _=>K v
  | .builtin .max=>Y6 O A 0 m .max c.argTypes.toList (w1x A G tm c.args.toList c.argTypes.toList) fun v _=>K v
  | _=>False
 | .build t ps=>match (A t).k with
  | .st fs=>N9 (Y9 fs) (A t).zero (ps.toList.map fun p=>(p.1,evA A G tm 0 p.2)) m fun v _=>K v
  | .ar _ esz _=>N9 (fun i=>some (i * esz,esz)) (A t).zero (ps.toList.map fun p=>(p.1,evA A G tm 0 p.2)) m fun v _=>K v
  | _=>False
 | _=>False
def z2t (A:Nat→TI) (G:L2) (wr:List (List Nat)) (all:List Oper):List (Nat × Bool × Bool)→List AV→Mem→(List AV→Mem→Prop)→Prop
 | [],tm,m,K=>K tm m
 | (i,h,lb) :: r,tm,m,K=>match all[i]? with
  | none=>False
  | some o=>match h with
   | true=>z2j O all tm o.guard (fun _=>z9t O A G (wr.headD []) tm o m fun v=>z2t A G wr all r (H8 tm o.dst v) m K) (fun _=>z2t A G wr all r (H8 tm o.dst R0) m K)
   | false=>z2j O all tm o.guard (fun _=>opO O A G tm o m fun v m'=>match lb with
    | true=>z2t A G (dnW wr) all r (H8 tm o.dst v) m' K
    | false=>O.agree (wr.headD []) m m'∧z2t A G (dnW wr) all r (H8 tm o.dst v) m' K) (fun _=>z2t A G (dnW wr) all r (H8 tm o.dst R0) m K)
def nhO (A:Nat→TI) (G:L2) (wr:List Nat) (all:List Oper) (o:Oper) (lb:Bool) (tm:List AV) (m:Mem) (K:List AV→Mem→Prop):Prop :=
 z2j O all tm o.guard (fun _=>opO O A G tm o m fun v m'=>match lb with
  | true=>K (H8 tm o.dst v) m'
  | false=>O.agree wr m m'∧K (H8 tm o.dst v) m') (fun _=>K (H8 tm o.dst R0) m)
def X2 (A:Nat→TI) (G:L2) (all:List Oper):List (List Nat)→PL→List AV→Mem→(List AV→Mem→Prop)→Prop
 | _,.nil,tm,m,K=>K tm m
 | wr,.op i h lb r,tm,m,K=>match all[i]? with
  | none=>False
  | some o=>match h with
   | true=>z2j O all tm o.guard (fun _=>z9t O A G (wr.headD []) tm o m fun v=>X2 A G all wr r (H8 tm o.dst v) m K) (fun _=>X2 A G all wr r (H8 tm o.dst R0) m K)
   | false=>nhO O A G (wr.headD []) all o lb tm m fun tm m=>X2 A G all (dnW wr) r tm m K
 | wr,.alt i j li lj a b,tm,m,K=>match all[i]?,all[j]? with
  | some oi,some oj=>nhO O A G (wr.headD []) all oi li tm m (fun tm m=>X2 A G all wr a tm m K)∧nhO O A G (wr.headD []) all oj lj tm m (fun tm m=>X2 A G all wr b tm m K)
  | _,_=>False
def R5 (N R:List AV→Mem→Prop) (X:Nat→List AV→Mem→Prop):KX:=fun e tm m=>match e with | .norm=>N tm m | .ret=>R tm m | .ex i=>X i tm m
def M4 (A:Nat→TI) (G:L2):Code→List AV→Mem→KX→Prop
 | .skip,tm,m,K=>K .norm tm m
 | .label _,tm,m,K=>K .norm tm m
 | .region _ ops draw,tm,m,K=>match draw,w9r ops.toList with
  | false,false=>z9k O A G ops.toList ops.toList tm m (K .norm)
  | false,true=>O.reg ops tm m (K .norm)
  | true,_=>O.drawn ops tm m (K .norm)
 | .seq a b,tm,m,K=>M4 A G a tm m fun e tm m=>match e with | .norm=>M4 A G b tm m K | .ret=>K .ret tm m | .ex i=>K (.ex i) tm m
 | .cond c a b,tm,m,K=>brO O (evA A G tm 0 c) (fun _=>M4 A G a tm m (R5 (O.join (K .norm)) (K .ret) (fun i=>K (.ex i))))
   (fun _=>M4 A G b tm m (R5 (O.join (K .norm)) (K .ret) (fun i=>K (.ex i))))
 | .block id c,tm,m,K=>M4 A G c tm m fun e tm m=>match e with | .norm=>K .norm tm m | .ret=>K .ret tm m | .ex i=>match Nat.beq i id with | true=>K .norm tm m | false=>K (.ex i) tm m
 | .loop c,tm,m,K=>O.loop c tm m K
 | .exit id,tm,m,K=>K (.ex id) tm m
 | .ret,tm,m,K=>K .ret tm m
 | _,_,_,_=>False
def V0 (A:Nat→TI) (tm:List AV) (m:Mem):List ResultVar→(List AV→Prop)→Prop
 | [],K=>K []
 | .tmp t :: r,K=>V0 A tm m r fun l=>K (tm.getD t .dead :: l)
 | .cell a t :: r,K=>match (A t).size with | 0=>False | s + 1=>z6e O (A t).agg (s + 1) m (tm.getD a .dead) fun x _=>V0 A tm m r fun l=>K (x :: l)
def z0x (m:Mem):List OV→List AV→(List OV→Mem→Prop)→Prop
 | [],_,K=>K [] m
 | o :: os,xs,K=>match o with
  | .ptr _=>match xs with
   | .p id ver 0 :: xs=>match m.get id with
    | some (.blk v cs)=>J6 (Nat.beq v ver) fun _=>N0 (Y0 O depth) (m.del id) cs fun ps m=>z0x m os xs fun l m=>K (.ptr ps :: l) m
    | _=>False
   | _=>False
  | o=>z0x m os xs.tail fun l m=>K (o :: l) m
def w3b (m:Mem) (x:AV) (K:AV→Mem→Prop):Prop:=match x with
 | .agg cs=>z0g O m cs fun xs m=>K (.agg (xs.map .c)) m
 | .c x=>K (.c (z2x x)) m
 | .t id ver n=>z2k O m (.t id ver n) fun y m=>K (.c y) m
 | x=>K x m
def z4x (m:Mem):List AV→(List AV→Mem→Prop)→Prop
 | [],K=>K [] m
 | x :: xs,K=>w3b O m x fun y m=>z4x m xs fun ys m=>K (y :: ys) m
def z9f (sh:Bool) (m:Mem) (xs:List AV) (K:List AV→Mem→Prop):Prop:=match sh with
 | true=>z4x O m xs K
 | false=>K xs m
def FnO (A:Nat→TI) (G:L2) (fn:Func) (body:Code) (args:List OV) (Q:OV→List OV→Prop) (sh:Bool):Prop :=
 M4 O A G body ((G6 (H0 depth) 0 ⟨[],0⟩ args).1++List.replicate (fn.ntmps - args.length) .dead) (G6 (H0 depth) 0 ⟨[],0⟩ args).2.2 (R5
  (fun tm m=>V0 O A tm m fn.results.toList fun rs=>z9f O sh m rs fun rs m=>Y0 O depth m (w1i rs) fun r m=>z0x O m args (G6 (H0 depth) 0 ⟨[],0⟩ args).1 fun bs _=>Q r bs)
  (fun tm m=>V0 O A tm m fn.results.toList fun rs=>z9f O sh m rs fun rs m=>Y0 O depth m (w1i rs) fun r m=>z0x O m args (G6 (H0 depth) 0 ⟨[],0⟩ args).1 fun bs _=>Q r bs)
  (fun _ _ _=>False))
end
end Go.Proofs.YtioiigabeoaneaaGreat.V
namespace Go.Proofs.YtioiigabeoaneaaGreat.V
open Go
section
variable {B:Nat} {T:Tab} {G:L2} {D:Spec}
theorem H3 (b:Bool) (A:Unit→Prop):J6 b A=(b=true∧A ()):=by cases b<;>simp [J6]
theorem K7 (a b:Nat):(Nat.beq a b=true)=(a=b):=by simp
theorem w0m (x:AV) (A A':Unit→Prop):brO (std B T G D) x A A'=Y5 x (A ()) (A' ()):=rfl
theorem w3g (ag:Bool) (s:Nat) (cs:List AV) (K:AV→Prop):rdA ag s cs K=W2 ag s cs K:=by
 cases ag
 ·rfl
 ·simp [rdA,W2,H3]
theorem z0d (m:Mem) (x:AV) (K:CV→Mem→Prop):z2k (std B T G D) m x K=P7 m x K:=by
 unfold z2k P7;simp only [H3,K7];rfl
theorem T3:∀ (l:List AV) (m:Mem) (K:List CV→Mem→Prop),z0g (std B T G D) m l K=T9 m l K
 | [],_,_=>rfl
 | a :: l,m,K=>by simp only [z0g,T9,z0d,T3 l]
theorem w5f (op:BinOp) (x y:Value) (K:Value→Prop):w4f (std B T G D) op x y K=z9h op x y K:=by
 cases x<;>cases y<;>first | rfl | (cases op<;>first | rfl | (simp only [w4f,z9h,H3,decide_eq_true_eq];rfl))
theorem w2f (op:BinOp) (k:TK) (m:Mem) (x y:AV) (K:KK):k0m (std B T G D) op k m x y K=z6t op k m x y K:=by
 unfold k0m z6t;simp only [w5f,H3,Bool.or_eq_true];rfl
theorem w2d (c:Nat) (x y:AV):w4v (std B T G D) c x y=z4a c x y:=rfl
theorem z3e:∀ (cs:List Nat) (xs ys:List AV),V7 (std B T G D) cs xs ys=M0 cs xs ys
 | [],[],[]=>rfl
 | [],[],_ :: _=>rfl
 | [],_ :: _,_=>by unfold V7 M0;rfl
 | _ :: _,[],_=>by unfold V7 M0;rfl
 | _ :: _,_ :: _,[]=>by unfold V7 M0;rfl
 | c :: cs,x :: xs,y :: ys=>by simp only [V7,M0,w2d,z3e cs xs ys];rfl
theorem w4o (op:BinOp) (ti:TI) (m:Mem) (xs ys:List AV) (K:KK):eqO (std B T G D) op ti m xs ys K=eqW op ti m xs ys K:=by
 unfold eqO eqW;simp only [z3e];rfl
theorem w4a (op:UnOp) (m:Mem) (x:AV) (K:KK):unO (std B T G D) op m x K=unW op m x K:=rfl
theorem z7i (esz:Nat) (m:Mem) (x:AV) (K:EL→Prop):w3z (std B T G D) esz m x K=z0k esz m x K:=by
 unfold w3z z0k;simp only [H3,Bool.and_eq_true,K7,and_assoc];rfl
theorem z8s (s d:TK) (site:Nat) (m:Mem) (x:AV) (K:KK):z8t (std B T G D) s d site m x K=W6 s d site m x K:=by
 unfold z8t W6;simp only [z7i];rfl
theorem z3v (ag:Bool) (s:Nat) (m:Mem) (x:AV) (K:KK):z6e (std B T G D) ag s m x K=W5 ag s m x K:=by
 unfold z6e W5;simp only [H3,K7,w3g];rfl
theorem w8v (site:Nat) (m:Mem) (y:AV) (K:KK):k3n site m y K=k0k site m y K:=by
 unfold k3n k0k;simp [H3]
theorem w2s (s:Nat) (m:Mem) (x y:AV) (K:Mem→Prop):w2t (std B T G D) s m x y K=z5f s m x y K:=by
 unfold w2t z5f
 simp only [T3,H3,Bool.and_eq_true,K7,List.all_eq_true,Bool.not_eq_true',and_assoc,Nat.ble_eq];rfl
theorem z4w (site esz:Nat) (z:List CV) (n:Nat) (ps:List (Nat × AV)) (m:Mem) (K:KK):W8 (std B T G D) site esz z n ps m K=T4 site esz z n ps m K:=by
 unfold W8 T4;simp only [T3,H3,Nat.ble_eq];rfl
theorem z4b (site esz:Nat) (z:List CV) (n:Nat) (ps:List (Nat × AV)) (m:Mem) (K:KK):z0h site esz z n ps m K=W9 site esz z n ps m K:=by
 unfold z0h W9;simp only [H3,Bool.and_eq_true,Nat.ble_eq,Nat.blt_eq];rfl
theorem k0q (A A':Unit→Prop):(std B T G D).alt A A'=(A ()∨A' ()):=rfl
theorem z6a (site esz eb:Nat) (z:List CV) (m:Mem) (l c:AV) (K:KK):z6b (std B T G D) site esz eb z m l c K=Z5 site esz eb z m l c K:=rfl
theorem z5g (k:TK) (m:Mem) (x:AV) (lo hi mx:Option AV) (K:KK):z5h (std B T G D) k m x lo hi mx K=Q9 k m x lo hi mx K:=by
 unfold z5h Q9
 simp only [H3,Bool.and_eq_true,K7,and_assoc]
 have h:∀ (a b c:Prop),(a∧b∧c)=(b∧a∧c):=fun a b c=>propext (by constructor<;>rintro ⟨h1,h2,h3⟩<;>exact⟨h2,h1,h3⟩)
 conv=>lhs;simp only [h (mx.isNone=true)]
 rfl
theorem z1a (lit:Bool) (k:TK) (m:Mem) (x i:AV) (K:KK):V4 (std B T G D) lit k m x i K=J7 k m x i K:=by
 unfold V4 J7
 cases lit<;>simp only [H3,Bool.and_eq_true,decide_eq_true_eq,and_assoc,Nat.ble_eq,K7]<;>rfl
theorem z6i (lit:Bool) (k:TK) (m:Mem) (x i:AV) (K:KK):z9r (std B T G D) lit k m x i K=Z8 k m x i K:=by
 unfold z9r Z8
 cases lit<;>simp only [H3,Bool.and_eq_true,decide_eq_true_eq,and_assoc,w3g]<;>rfl
theorem z8m (f:Nat × Nat × Bool) (m:Mem) (x:AV) (K:KK):z9w f m x K=z1b f m x K:=by
 unfold z9w z1b;simp only [w3g];rfl
theorem w7y (k:TK) (m:Mem) (x:AV) (K:KK):k4q (std B T G D) k m x K=z7d k m x K:=rfl
theorem w8r (k:TK) (m:Mem) (x:AV) (K:KK):k3m (std B T G D) k m x K=w8q k m x K:=by
 unfold k3m w8q;simp only [H3,K7];rfl
theorem w1k (b:Bool) (m:Mem) (l:List AV) (K:KK):z5a (std B T G D) b m l K=R4 b m l K:=by
 unfold z5a R4;simp only [H3,decide_eq_true_eq];rfl
theorem w0u (esz:Nat) (m:Mem) (x:AV) (K:EL→Prop):w9f (std B T G D) esz m x K=z9b esz m x K:=by
 unfold w9f z9b;simp only [H3,K7,z7i];rfl
theorem w2i (site esz eb:Nat) (m:Mem) (s x:AV) (K:KK):z5c (std B T G D) site esz eb m s x K=z1u site esz eb m s x K:=by
 have e:∀ es ns:EL,(std B T G D).len ((std B T G D).app es ns)=es.length + ns.length:=fun es ns=>List.length_append
 unfold z5c z1u;simp only [w0u,H3,Bool.and_eq_true,K7,and_assoc,e];rfl
theorem w6j (esz:Nat) (m:Mem) (d x:AV) (K:KK):w8m (std B T G D) esz m d x K=w2a esz m d x K:=by
 unfold w8m w2a;simp only [w0u,H3,Bool.and_eq_true,K7,and_assoc];rfl
theorem z9z (tm:List AV) (ty:Nat) (x:Operand):evA (fun t=>T.at t) G tm ty x=evO T G tm ty x:=by
 cases x<;>rfl
theorem z9y (tm:List AV):∀ (l:List Operand) (tys:List TypeId),w1x (fun t=>T.at t) G tm l tys=evL T G tm l tys
 | [],_=>rfl
 | x :: xs,tys=>by simp only [w1x,evL,z9z,z9y tm xs]
theorem z3f (site:Nat) (m:Mem) (b:Builtin) (tys:List TypeId) (args:List AV) (K:KK):Y6 (std B T G D) (fun t=>T.at t) site m b tys args K=J8 T site m b tys args K:=by
 unfold Y6 J8;simp only [w7y,w8r,w1k,w2i,w6j];rfl
theorem z4y (tm:List AV) (o:Oper) (m:Mem) (K:KK):opO (std B T G D) (fun t=>T.at t) G tm o m K=opW T G D tm o m K:=by
 unfold opO opW
 dsimp only
 simp only [z9z,z9y,w0m,w8v,z4w,z4b,k0q,z3v,w2s,w2f,w4o,w4a,z8s,z6a,z5g,z1a,z6i,z3f,z8m,H3,Bool.and_eq_true,Array.isEmpty_iff,and_assoc]
 rfl
theorem V5 (all:List Oper) (tm:List AV) (g:Option (Nat × Bool)) (go skip:Unit→Prop):z2j (std B T G D) all tm g go skip=K9 all tm g (go ()) (skip ()):=by
 rcases g with _ | ⟨j,want⟩
 ·rfl
 ·simp only [z2j,K9]
  cases (all[j]?).bind (·.dst) with
  | none=>rfl
  | some d =>
   dsimp only
   cases Z7 (tm.getD d .dead)
   ·cases want<;>rfl
   ·rfl
theorem z2u (all:List Oper):∀ (l:List Oper) (tm:List AV) (m:Mem) (K:List AV→Mem→Prop),z9k (std B T G D) (fun t=>T.at t) G all l tm m K=z4s T G D all l tm m K
 | [],_,_,_=>rfl
 | o :: r,tm,m,K=>by
  simp only [z9k,z4s]
  cases mvT o tm with
  | none=>simp only [V5,z4y,z2u all r]
  | some s =>
   show (opO (std B T G D) (fun t=>T.at t) G tm o m _∨z2k (std B T G D) m _ _)=_
   simp only [z4y,z0d,z2u all r]
theorem z6j (wr:List Nat) (tm:List AV) (o:Oper) (m:Mem) (K:AV→Prop):z9t (std B T G D) (fun t=>T.at t) G wr tm o m K=Z9 T G wr tm o m K:=by
 have hw:∀ id:Nat,(wr.contains id=false)=(id ∉ wr):=fun id=>by simp
 unfold z9t Z9
 dsimp only
 simp only [z9z,z9y,w0m,z3v,w2f,w4o,w4a,z8s,z5g,z1a,z6i,z3f,z8m,H3,Bool.and_eq_true,Bool.not_eq_true',hw,and_assoc,Option.isNone_iff_eq_none]
 rfl
def z9u (all:List Oper) (l:List (Nat × Bool × Bool)):Bool:=l.all fun x=>x.2.1 || match all[x.1]? with | some o=>x.2.2 == T8 all o | none=>true
theorem z7y (all:List Oper):∀ (wr:List (List Nat)) (l:List (Nat × Bool × Bool)) (tm:List AV) (m:Mem) (K:List AV→Mem→Prop),z9u all l=true→z2t (std B T G D) (fun t=>T.at t) G wr all l tm m K=z0v T G D wr all (l.map fun x=>(x.1,x.2.1)) tm m K
 | _,[],_,_,_,_=>rfl
 | wr,(i,h,lb) :: r,tm,m,K,hf=>by
  simp only [z9u,List.all_cons,Bool.and_eq_true] at hf
  obtain⟨hf1,hf2⟩:=hf
  have ih:=fun wr tm m K=>z7y all wr r tm m K hf2
  simp only [z2t,List.map_cons,z0v]
  cases ho:all[i]? with
  | none=>rfl
  | some o =>
   cases h with
   | true=>simp only [V5,z6j,ih,if_true]
   | false =>
    simp only [ho,Bool.false_or,beq_iff_eq] at hf1
    subst hf1
    simp only [V5,z4y,ih,Bool.false_eq_true,if_false]
    congr 2;funext v m'
    cases T8 all o<;>simp [std]
theorem z9n (wr:List Nat) (ops:Array Oper) (i:Nat) (o:Oper) (ho:ops.toList[i]?=some o) (lb:Bool) (hl:z6h ops i lb=true) (tm:List AV) (m:Mem) (K:List AV→Mem→Prop):nhO (std B T G D) (fun t=>T.at t) G wr ops.toList o lb tm m K=nhW T G D wr ops.toList o tm m K:=by
 simp only [z6h,ho,beq_iff_eq] at hl
 subst hl
 unfold nhO nhW
 simp only [V5,z4y]
 congr 2;funext v m'
 cases T8 ops.toList o<;>simp [std]
theorem Z3 (ops:Array Oper):∀ (t:PL) (wr:List (List Nat)) (listed:Array Bool) (tm:List AV) (m:Mem) (K:List AV→Mem→Prop),Q7 T ops listed t=true→X2 (std B T G D) (fun t=>T.at t) G ops.toList wr t tm m K=R3 T G D ops.toList wr t tm m K
 | .nil,_,_,_,_,_,_=>rfl
 | .op i h lb r,wr,listed,tm,m,K,ht=>by
  simp only [Q7,Bool.and_eq_true] at ht
  have ih:=fun wr tm m K=>Z3 ops r wr _ tm m K ht.2
  simp only [X2,R3]
  cases ho:ops.toList[i]? with
  | none=>rfl
  | some o =>
   cases h with
   | true=>simp only [V5,z6j,ih]
   | false =>
    have h1:=ht.1
    simp only [Bool.and_eq_true] at h1
    simp only [z9n _ _ _ _ ho _ h1.2,ih]
 | .alt i j li lj a b,wr,listed,tm,m,K,ht=>by
  simp only [Q7,Bool.and_eq_true] at ht
  obtain⟨⟨⟨⟨_,h1⟩,h2⟩,h3⟩,h4⟩:=ht
  have iha:=fun wr tm m K=>Z3 ops a wr _ tm m K h3
  have ihb:=fun wr tm m K=>Z3 ops b wr _ tm m K h4
  simp only [X2,R3]
  cases ho:ops.toList[i]? with
  | none=>rfl
  | some oi =>
   cases ho2:ops.toList[j]? with
   | none=>rfl
   | some oj=>simp only [z9n _ _ _ _ ho _ h1,z9n _ _ _ _ ho2 _ h2,iha,ihb]
theorem S6:∀ (c:Code) (tm:List AV) (m:Mem) (K:KX),M4 (std B T G D) (fun t=>T.at t) G c tm m K=T2 B T G D c tm m K
 | .skip,_,_,_=>rfl
 | .label _,_,_,_=>rfl
 | .region _ ops draw,tm,m,K=>by
  cases draw
  ·cases h:w9r ops.toList
   ·simp only [M4,T2,z2u,h]
   ·simp only [M4,T2,h];rfl
  ·rfl
 | .seq a b,tm,m,K=>by simp only [M4,T2,S6 a,S6 b];rfl
 | .cond c a b,tm,m,K=>by
  simp only [M4,T2,S6 a,S6 b,w0m,z9z]
  have:(R5 ((std B T G D).join (K .norm)) (K .ret) fun i=>K (.ex i))=fun e tm m=>match e with | .norm=>z3k B (K .norm) tm m | .ret=>K .ret tm m | .ex i=>K (.ex i) tm m:=by
   funext e tm m;cases e<;>rfl
  rw [this];rfl
 | .block id c,tm,m,K=>by
  simp only [M4,T2,S6 c]
  congr 1;funext e tm m
  cases e with
  | ex i =>
   dsimp only
   by_cases h:i=id
   ·rw [if_pos h,h];simp
   ·rw [if_neg h];rw [show Nat.beq i id=false from by cases hq:Nat.beq i id;rfl;exact absurd (Nat.eq_of_beq_eq_true hq) h]
  | _=>rfl
 | .loop c,_,_,_=>rfl
 | .exit _,_,_,_=>rfl
 | .ret,_,_,_=>rfl
 | .rangeFunc _ _ _ _,_,_,_=>rfl
 | .scope _,_,_,_=>rfl
 | .goto _,_,_,_=>rfl
 | .refuse _,_,_,_=>rfl
theorem z3r:∀ (n:Nat) (m:Mem) (x:AV) (K:OV→Mem→Prop),Y0 (std B T G D) n m x K=L1 n m x K
 | 0,_,_,_=>rfl
 | n + 1,m,x,K=>by
  have:Y0 (std B T G D) n=L1 n:=by funext m x K;exact z3r n m x K
  unfold Y0 L1;simp only [this,H3,K7];rfl
theorem z8a (n:Nat):Y0 (std B T G D) n=L1 n:=by funext m x K;exact z3r n m x K
theorem w5e (m:Mem) (x:AV) (K:OV→Mem→Prop):w7c (std B T G D) m x K=z7m m x K:=by
 unfold w7c z7m;simp only [T3,z0d];rfl
theorem w8x (md:z0m) (m:Mem) (x:AV) (K:OV→Mem→Prop):k3o (std B T G D) md m x K=w2h md m x K:=by
 have h:∀ l:List AV,(l.all (fun x=>!x.isDead)=true)=(∀ x ∈ l,x.isDead=false):=fun l=>by simp
 unfold k3o w2h;simp only [w5e,z8a,H3,Bool.and_eq_true,K7,Nat.ble_eq,h,and_assoc];rfl
theorem z8w:∀ (mds:List z0m) (l:List AV) (m:Mem) (K:List OV→Mem→Prop),w2g (std B T G D) m mds l K=z6w m mds l K
 | [],[],_,_=>rfl
 | [],_ :: _,_,_=>rfl
 | _ :: _,[],_,_=>rfl
 | md :: mds,a :: l,m,K=>by simp only [w2g,z6w,w8x,z8w mds l]
theorem z1g (id:Nat):∀ (mds:List z0m) (l:List AV) (os:List OV) (m:Mem) (K:Nat→Mem→Prop),z8v id m mds l os K→R7 id m mds l os K
 | [],[],[],_,_=>fun h=>h
 | [],[],_ :: _,_,_=>fun h=>h.elim
 | [],_ :: _,_,_,_=>fun h=>h.elim
 | md :: _,[],_,_,_=>fun h=>h.elim
 | md :: _,_ :: _,[],_,_=>fun h=>h.elim
 | md :: mds,x :: xs,o :: l,m,K=>fun h=>by
  unfold z8v at h
  cases md with
  | ref s =>
   dsimp only at h
   split at h
   ·rename_i i ver off os
    split at h
    ·rename_i v cs hg
     simp only [H3,Bool.and_eq_true,K7,Nat.ble_eq] at h
     obtain⟨⟨⟨h1,h2⟩,h3⟩,h⟩:=h
     unfold R7
     refine⟨by simpa using h1,?_⟩
     rw [hg]
     exact⟨h2,h3,z1g id mds xs l _ K h⟩
    ·exact h.elim
   ·exact h.elim
  | shut=>unfold R7;exact z1g id mds xs l m K h
  | keep=>unfold R7;exact z1g id mds xs l m K h
  | own=>unfold R7;exact z1g id mds xs l m K h
theorem Z2 (tm:List AV) (m:Mem):∀ (l:List ResultVar) (K:List AV→Prop),V0 (std B T G D) (fun t=>T.at t) tm m l K=P2 T tm m l K
 | [],_=>rfl
 | .tmp t :: r,K=>by simp only [V0,P2,Z2 tm m r]
 | .cell a t :: r,K=>by simp only [V0,P2,Z2 tm m r,z3v];rfl
theorem z3s:∀ (os:List OV) (xs:List AV) (m:Mem) (K:List OV→Mem→Prop),z0x (std B T G D) m os xs K=N7 m os xs K
 | [],_,_,_=>by simp only [z0x,N7]
 | o :: os,xs,m,K=>by
  cases o with
  | ptr cs =>
   rcases xs with _ | ⟨x,xs⟩
   ·simp only [z0x,N7]
   ·cases x with
    | p id ver off =>
     cases off with
     | zero =>
      simp only [z0x,N7]
      cases m.get id with
      | none=>rfl
      | some ob=>cases ob<;>first | rfl | (simp only [H3,K7,z8a,z3s os])
     | succ n=>simp only [z0x,N7]
    | _=>simp only [z0x,N7]
  | _=>simp only [z0x,N7,z3s os]
theorem w3a (m:Mem) (x:AV) (K:AV→Mem→Prop):w3b (std B T G D) m x K=w4d m x K:=by
 unfold w3b w4d;simp only [T3,z0d];rfl
theorem z4g:∀ (l:List AV) (m:Mem) (K:List AV→Mem→Prop),z4x (std B T G D) m l K=z5k m l K
 | [],_,_=>rfl
 | x :: xs,m,K=>by simp only [z4x,z5k,w3a,z4g xs]
theorem w0z (sh:Bool) (m:Mem) (l:List AV) (K:List AV→Mem→Prop):z9f (std B T G D) sh m l K=z9g sh m l K:=by
 cases sh
 ·rfl
 ·exact z4g l m K
theorem k0t (fn:Func) (body:Code) (args:List OV) (Q:OV→List OV→Prop) (sh:Bool) (hB:(G6 (H0 depth) 0 ⟨[],0⟩ args).2.2.clk=B):FnO (std B T G D) (fun t=>T.at t) G fn body args Q sh=FnW T G D fn body args Q sh:=by
 subst hB
 unfold FnO FnW
 rw [S6]
 simp only [Z2,w0z,z3r,z3s]
 congr 1
 funext e tm m
 cases e<;>rfl
end
end Go.Proofs.YtioiigabeoaneaaGreat.V
namespace Go.Proofs.YtioiigabeoaneaaGreat.V
open Go
def C3:Nat→Nat→List (Nat × AV)→List AV
 | _,0,_=>[]
 | i,n + 1,[]=>.dead :: C3 (i + 1) n []
 | i,n + 1,(k,x) :: l=>match Nat.beq i k with | true=>x :: C3 (i + 1) n l | false=>.dead :: C3 (i + 1) n ((k,x) :: l)
section rules
variable {B:Nat} {T:Tab} {G:L2} {D:Spec} {K:KX} {tm:List AV} {m:Mem} {O:Ops} (hO:O=std B T G D)
include hO
theorem k1g {v:Bool} {A B:Unit→Prop} (h1:v=true→A ()) (h2:v=false→B ()):O.br v A B:=by subst hO;exact⟨h1,h2⟩
theorem B9 {v:Bool} {A B:Unit→Prop} (h:v=true) (h1:A ()):O.br v A B:=by subst hO h;exact⟨fun _=>h1,fun q=>by simp at q⟩
theorem B7 {v:Bool} {A B:Unit→Prop} (h:v=false) (h1:B ()):O.br v A B:=by subst hO h;exact⟨fun q=>by simp at q,fun _=>h1⟩
omit hO in
def k2w:BinOp→BinOp
 | .eql=>.neq
 | .neq=>.eql
 | .lss=>.geq
 | .geq=>.lss
 | .leq=>.gtr
 | .gtr=>.leq
 | o=>o
theorem M7 (op op':BinOp) (hop:k2w op=op') (hc:(op == .eql || op == .neq || op == .lss || op == .geq || op == .leq || op == .gtr)=true) {a b:Int} {v v':Bool} (hv:(!v)=v') (h:O.cmp op a b=v):O.cmp op' a b=v':=by
 subst hO hop hv h
 show B0 (k2w op) a b=!B0 op a b
 cases op<;>first | (exact absurd hc (by decide)) | (simp only [k2w,B0,bne,Bool.not_not];try rfl) | skip
 all_goals (by_cases h1:a < b<;>by_cases h2:b < a<;>simp [h1,h2]<;>omega)
theorem B6 {K:List AV→Mem→Prop} (h:K tm m):O.join K tm m:=by subst hO;exact .inl h
theorem Y3 {K:List AV→Mem→Prop} (live ids caps:List Nat) (h:K (fgT B live ids tm m) (fgM B live ids caps tm m)):O.join K tm m:=by subst hO;exact .inr ⟨live,ids,caps,h⟩
theorem k0j {A:Nat→TI} (hA:A=fun t=>T.at t) {v:Bool} {a b:Code} {tm₁ tm₂:List AV} {m₁ m₂:Mem} {N Rt:List AV→Mem→Prop} {X:Nat→List AV→Mem→Prop} (live ids caps:List Nat) (R:List AV→Mem→Prop)
  (h1:v=true→∀ L:List AV→Mem→Prop,(∀ tm m,R (fgT B live ids tm m) (fgM B live ids caps tm m)→L tm m)→M4 O A G a tm₁ m₁ (R5 L Rt X))
  (h2:v=false→∀ L:List AV→Mem→Prop,(∀ tm m,R (fgT B live ids tm m) (fgM B live ids caps tm m)→L tm m)→M4 O A G b tm₂ m₂ (R5 L Rt X))
  (h:∀ tm m,R tm m→N tm m) :
  O.br v (fun _=>M4 O A G a tm₁ m₁ (R5 (O.join N) Rt X)) (fun _=>M4 O A G b tm₂ m₂ (R5 (O.join N) Rt X)) :=
 k1g hO (fun hv=>h1 hv _ fun tm m hr=>Y3 hO live ids caps (h _ _ hr)) (fun hv=>h2 hv _ fun tm m hr=>Y3 hO live ids caps (h _ _ hr))
theorem w4x {A A':Unit→Prop} (h:A ()):O.alt A A':=by subst hO;exact .inl h
theorem k1i {A A':Unit→Prop} (h:A' ()):O.alt A A':=by subst hO;exact .inr h
theorem k0b {es:EL} {i:Nat} {K:List CV→Prop} (row:List CV) (h:es.getD i []=row) (hk:K row):O.elem es i K:=by subst hO h;exact hk
theorem D9 {es:EL} {K:EL→Prop} (h:K es):O.view (O.len es) es K:=by
 subst hO;refine⟨Nat.le_refl _,?_⟩;rw [show List.take ((std B T G D).len es) es=es from List.take_length];exact h
theorem D6 {n:Nat} {es:EL} {K:EL→Prop} (g:n≤es.length) (h:K (O.take n es)):O.view n es K:=by subst hO;exact⟨g,h⟩
theorem k3a {i n:Nat} {K:Nat→Prop} (j:Nat) (h:i=j) (hk:K j):O.nat i n K:=by subst hO h;exact hk
theorem k3j {es:EL} {A B:Unit→Prop} (h1:es=[]→A ()) (h2:es≠[]→B ()):O.emp es A B:=by
 subst hO;show (if es=[] then A () else B ());split
 ·exact h1 (by assumption)
 ·exact h2 (by assumption)
theorem L6 {es:EL} {A B:Unit→Prop} (h:es≠[]) (h2:B ()):O.emp es A B:=k3j hO (fun q=>absurd q h) (fun _=>h2)
def w7q (T:Tab) (ops:Array Oper) (ord:List (Nat × Bool × Bool)):Bool:=Region.noSelect ops && (w3h T ops ops.size (Array.replicate ops.size false) == some (ord.map fun x=>(x.1,x.2.1))) && z9u ops.toList ord
theorem C6 {A:Nat→TI} (hA:A=fun t=>T.at t) {ops:Array Oper} {K:List AV→Mem→Prop} (wr:List (List Nat)) (ord:List (Nat × Bool × Bool)) (h1:w7q T ops ord=true) (h:z2t O A G wr ops.toList ord tm m (O.join K)):O.drawn ops tm m K:=by
 subst hO hA
 simp only [w7q,Bool.and_eq_true,beq_iff_eq] at h1
 show z1c T G D ops tm m (z3k B K)
 unfold z1c;rw [h1.1.1,h1.1.2];exact⟨rfl,.inl ⟨wr,by rw [← z7y (B:=B) _ _ _ _ _ _ h1.2];exact h⟩⟩
def z8z (T:Tab) (ops:Array Oper) (t:PL):Bool:=Region.noSelect ops && Q7 T ops (Array.replicate ops.size false) t && Nat.ble t.deep ops.size
theorem w6i {A:Nat→TI} (hA:A=fun t=>T.at t) {ops:Array Oper} {K:List AV→Mem→Prop} (wr:List (List Nat)) (t:PL) (h1:z8z T ops t=true) (h:X2 O A G ops.toList wr t tm m (O.join K)):O.drawn ops tm m K:=by
 subst hO hA
 simp only [z8z,Bool.and_eq_true] at h1
 show z1c T G D ops tm m (z3k B K)
 unfold z1c;rw [h1.1.1];exact⟨rfl,.inr ⟨t,wr,h1.1.2,Nat.le_of_ble_eq_true h1.2,by rw [← Z3 (B:=B) _ _ _ _ _ _ _ h1.1.2];exact h⟩⟩
theorem P5 {A:Nat→TI} (hA:A=fun t=>T.at t) {ops:Array Oper} {K:List AV→Mem→Prop} (h:z9k O A G ops.toList ops.toList tm m (O.join K)):O.reg ops tm m K:=by
 subst hO hA
 show z4s T G D ops.toList ops.toList tm m (z3k B K)
 rw [← z2u (B:=B)];exact h
theorem D1 {A:Nat→TI} (hA:A=fun t=>T.at t) {ops:Array Oper} {K:List AV→Mem→Prop} (live ids caps:List Nat) (R:List AV→Mem→Prop)
  (h1:∀ L:List AV→Mem→Prop,(∀ tm m,R (fgT B live ids tm m) (fgM B live ids caps tm m)→L tm m)→z9k O A G ops.toList ops.toList tm m L)
  (h2:∀ tm m,R tm m→K tm m):O.reg ops tm m K:=P5 hO hA (h1 _ fun tm m hr=>Y3 hO live ids caps (h2 _ _ hr))
theorem H9 {A:Nat→TI} (hA:A=fun t=>T.at t) {ops:Array Oper} {K:List AV→Mem→Prop} (wr:List (List Nat)) (ord:List (Nat × Bool × Bool)) (h0:w7q T ops ord=true) (live ids caps:List Nat) (R:List AV→Mem→Prop)
  (h1:∀ L:List AV→Mem→Prop,(∀ tm m,R (fgT B live ids tm m) (fgM B live ids caps tm m)→L tm m)→z2t O A G wr ops.toList ord tm m L)
  (h2:∀ tm m,R tm m→K tm m):O.drawn ops tm m K:=C6 hO hA wr ord h0 (h1 _ fun tm m hr=>Y3 hO live ids caps (h2 _ _ hr))
theorem z1d {A:Nat→TI} (hA:A=fun t=>T.at t) {ops:Array Oper} {K:List AV→Mem→Prop} (wr:List (List Nat)) (t:PL) (h0:z8z T ops t=true) (live ids caps:List Nat) (R:List AV→Mem→Prop)
  (h1:∀ L:List AV→Mem→Prop,(∀ tm m,R (fgT B live ids tm m) (fgM B live ids caps tm m)→L tm m)→X2 O A G ops.toList wr t tm m L)
  (h2:∀ tm m,R tm m→K tm m):O.drawn ops tm m K:=w6i hO hA wr t h0 (h1 _ fun tm m hr=>Y3 hO live ids caps (h2 _ _ hr))
omit hO in
def z4m (ids:List Nat):List (Nat × Ob)→List (Nat × Ob)
 | []=>[]
 | (i,o) :: r=>if ids.contains i then z4m ids r else (i,o) :: z4m ids r
omit hO in
def z7l (ks:List (Nat × Ob)):List (Nat × Ob)→List (Nat × Ob)
 | []=>[]
 | (i,o) :: r=>if (ks.map (·.1)).contains i then (i,o) :: z7l ks r else z7l ks r
omit hO in
theorem w1s:∀ (l:List (Nat × Ob)) (j:Nat) (ob:Ob),K2 l j=some ob→j ∈ l.map (·.1)
 | (k,p) :: r,j,ob,h=>by
  simp only [K2] at h
  split at h
  ·rename_i hj;simp [hj]
  ·simp only [List.map_cons,List.mem_cons];exact .inr (w1s r j ob h)
omit hO in
theorem w6a (ks l:List (Nat × Ob)) (j:Nat) (ob:Ob) (hj:K2 ks j=some ob):K2 (z7l ks l) j=K2 l j:=by
 have hm:=w1s ks j ob hj
 induction l with
 | nil=>rfl
 | cons a r ih =>
  obtain⟨k,p⟩:=a
  simp only [z7l]
  split
  ·simp only [K2,ih]
  ·rename_i hk;rw [ih];simp only [K2]
   rw [if_neg (fun h=>hk (by subst h;simpa using hm))]
omit hO in
theorem z8i (ids:List Nat) (l:List (Nat × Ob)) (j:Nat) (hj:j ∉ ids):K2 (z4m ids l) j=K2 l j:=by
 induction l with
 | nil=>rfl
 | cons a r ih =>
  obtain⟨k,p⟩:=a
  simp only [z4m]
  split
  ·rename_i hk;rw [ih];simp only [K2]
   rw [if_neg (fun h=>hj (by subst h;simpa using hk))]
  ·simp only [K2,ih]
theorem w8y {wr:List Nat} {m m':Mem} (h:m.clk≤m'.clk) (h2:z4m wr m.obs=z4m wr (z7l m.obs m'.obs)):O.agree wr m m':=by
 subst hO
 exact⟨h,fun id ob hid hg=>by
  have h3:K2 m.obs id=K2 m'.obs id:=by rw [← w6a m.obs m'.obs id _ hg,← z8i wr m.obs id hid,h2,z8i wr _ id hid]
  unfold Mem.get at hg ⊢;rw [← h3,hg];exact Ob.same_refl _⟩
theorem agr {wr:List Nat} {m m':Mem} {K:Prop} (h:Nat.ble m.clk m'.clk=true) (h2:z4m wr m.obs=z4m wr (z7l m.obs m'.obs)) (k:K):O.agree wr m m'∧K:=⟨w8y hO (Nat.le_of_ble_eq_true h) h2,k⟩
omit hO in
theorem w1l {live ids caps:List Nat} {X:List AV→Mem→KX→Prop} {α:Type} (R:α→List AV→Mem→Prop) (μ:α→Nat)
  (step:∀ a tm m (L:List AV→Mem→Prop),R a tm m→(∀ b tm m,μ b < μ a→R b (fgT B live ids tm m) (fgM B live ids caps tm m)→L tm m)→X tm m fun e tm m=>match e with | .norm=>L tm m | .ret=>K .ret tm m | .ex i=>K (.ex i) tm m) :
  ∀ (N:Nat) (a:α) (tm:List AV) (m:Mem),μ a≤N→R a (fgT B live ids tm m) (fgM B live ids caps tm m)→w7v B live ids caps X K (N + 1) tm m
 | 0,a,tm,m,hn,hI=>step a _ _ _ hI fun b tm m hb _=>by omega
 | N + 1,a,tm,m,hn,hI=>step a _ _ _ hI fun b tm m hb hI=>w1l R μ step N b tm m (by omega) hI
theorem E9 {A:Nat→TI} (hA:A=fun t=>T.at t) (live ids caps:List Nat) {α:Type} (R:α→List AV→Mem→Prop) (μ:α→Nat) {c:Code} (a:α) (h0:R a (fgT B live ids tm m) (fgM B live ids caps tm m))
  (step:∀ a tm m (L:List AV→Mem→Prop),R a tm m→(∀ b tm m,μ b < μ a→R b (fgT B live ids tm m) (fgM B live ids caps tm m)→L tm m)→M4 O A G c tm m (R5 L (K .ret) fun i=>K (.ex i))) :
  O.loop c tm m K:=by
 subst hO hA
 refine⟨live,ids,caps,μ a + 1,w1l R μ (fun a tm m L hr hl=>?_) _ a tm m (Nat.le_refl _) h0⟩
 have:=step a tm m L hr hl
 rw [S6] at this
 have e:(R5 L (K .ret) fun i=>K (.ex i))=fun e tm m=>match e with | .norm=>L tm m | .ret=>K .ret tm m | .ex i=>K (.ex i) tm m:=by funext e tm m;cases e<;>rfl
 rw [e] at this;exact this
end rules
section mono
theorem z4o {m:Mem} {x:AV} {K K':CV→Mem→Prop} (h:∀ x m,K x m→K' x m) (hk:P7 m x K):P7 m x K':=by
 unfold P7 at *;split at hk
 ·exact h _ _ hk
 ·split at hk
  ·exact⟨hk.1,hk.2.1,h _ _ hk.2.2⟩
  ·exact hk.elim
 ·exact hk.elim
theorem z4n:∀ (l:List AV) {m:Mem} {K K':List CV→Mem→Prop} (_:∀ x m,K x m→K' x m) (_:T9 m l K),T9 m l K'
 | [],_,_,_,h,hk=>h _ _ hk
 | a :: l,_,_,_,h,hk=>z4o (fun x m hk=>z4n l (fun xs m hk=>h _ _ hk) hk) hk
theorem P9 {pk:Mem→AV→(OV→Mem→Prop)→Prop} (hp:∀ m x (K K':OV→Mem→Prop),(∀ o m,K o m→K' o m)→pk m x K→pk m x K'):∀ (l:List AV) {m:Mem} {K K':List OV→Mem→Prop} (_:∀ x m,K x m→K' x m) (_:N0 pk m l K),N0 pk m l K'
 | [],_,_,_,h,hk=>h _ _ hk
 | a :: l,_,_,_,h,hk=>hp _ _ _ _ (fun x m hk=>P9 hp l (fun xs m hk=>h _ _ hk) hk) hk
theorem R8:∀ (n:Nat) (m:Mem) (x:AV) (K K':OV→Mem→Prop),(∀ o m,K o m→K' o m)→L1 n m x K→L1 n m x K'
 | 0,_,_,_,_,_,hk=>hk.elim
 | n + 1,m,x,K,K',h,hk=>by
  unfold L1 at *
  split at hk
  ·exact h _ _ hk
  ·split at hk
   ·exact⟨hk.1,hk.2.1,h _ _ hk.2.2⟩
   ·exact hk.elim
  ·split at hk
   ·exact⟨hk.1,P9 (R8 n) _ (fun _ _ hk=>h _ _ hk) hk.2⟩
   ·exact hk.elim
  ·split at hk
   ·exact⟨hk.1,P9 (R8 n) _ (fun _ _ hk=>h _ _ hk) hk.2⟩
   ·exact hk.elim
  ·exact P9 (R8 n) _ (fun _ _ hk=>h _ _ hk) hk
  ·exact P9 (R8 n) _ (fun _ _ hk=>h _ _ hk) hk
  ·exact hk.elim
theorem w2z {m:Mem} {x:AV} {K K':OV→Mem→Prop} (h:∀ x m,K x m→K' x m) (hk:z7m m x K):z7m m x K':=by
 unfold z7m at *;split at hk
 ·exact z4n _ (fun _ _ hk=>h _ _ hk) hk
 ·exact z4o (fun _ _ hk=>h _ _ hk) hk
theorem w6o (md:z0m) {m:Mem} {x:AV} {K K':OV→Mem→Prop} (h:∀ x m,K x m→K' x m) (hk:w2h md m x K):w2h md m x K':=by
 cases md with
 | shut=>exact w2z h hk
 | keep=>cases x<;>first | exact hk.elim | exact h _ _ hk
 | own=>exact R8 _ _ _ _ _ h hk
 | ref s =>
  simp only [w2h] at *
  split at hk
  ·split at hk
   ·exact⟨hk.1,hk.2.1,hk.2.2.1,P9 (R8 _) _ (fun _ _ hk=>h _ _ hk) hk.2.2.2⟩
   ·exact hk.elim
  ·exact hk.elim
theorem z6v:∀ (mds:List z0m) (l:List AV) (m:Mem) {K K':List OV→Mem→Prop} (_:∀ x m,K x m→K' x m) (_:z6w m mds l K),z6w m mds l K'
 | [],[],_,_,_,h,hk=>h _ _ hk
 | [],_ :: _,_,_,_,_,hk=>hk.elim
 | _ :: _,[],_,_,_,_,hk=>hk.elim
 | md :: mds,a :: l,_,_,_,h,hk=>w6o md (fun x m hk=>z6v mds l m (fun xs m hk=>h _ _ hk) hk) hk
end mono
section calls
variable {P:Program} {B:Nat} {T:Tab} {G:L2} {O:Ops} (hO:O=std B T G (Den P G))
include hO
theorem k0i (mds:List z0m){os:List OV}{Q:OV→List OV→Prop}{f:FuncId} (hd:Den P G f os Q) {site:Nat} {m:Mem} {args:List AV} {K:KK}
  (hh:w2g O m mds args fun os' m=>os'=os∧∀ r bs,Q r bs→z8v site m mds args bs fun id m=>K (H0 depth id m r).1 (H0 depth id m r).2.2):O.call site m f args K:=by
 subst hO
 refine .inl ⟨mds,?_⟩
 rw [z8w] at hh
 refine z6v mds args m ?_ hh
 rintro os' m' ⟨rfl,h⟩
 exact⟨Q,hd,fun r bs hq=>z1g _ _ _ _ _ _ (h r bs hq)⟩
theorem k0c {A : Nat → TI} (hA : A = fun t => T.at t) (hm : P.follows .mixedOrders = true) (hT : TabOk P T) {f : FuncId} {fn : Func} {body : Code} (hf : P.funcs[f]? = some fn) (hb : fn.body = some body) (hname : (fn.name == "runtime.NumGoroutine") = false)
  {os:List OV} {Q:OV→List OV→Prop} (hlen:Nat.ble os.length fn.ntmps=true) (hB:(G6 (H0 depth) 0 ⟨[],0⟩ os).2.2.clk=B) {sh:Bool} (hk:FnO O A G fn body os Q sh):Den P G f os Q:=by
 subst hO hA
 rw [k0t _ _ _ _ _ hB] at hk
 exact k3k hm hT (fun _ _ _ h=>h) hf hb hname (Nat.le_of_ble_eq_true hlen) hk
end calls
end Go.Proofs.YtioiigabeoaneaaGreat.V
namespace Go.Proofs.YtioiigabeoaneaaGreat.V
open Go
@[simp] theorem k5u:IntKind.u8.bits=8:=rfl
@[simp] theorem k5o:IntKind.i64.bits=64:=rfl
@[simp] theorem k5n:IntKind.u64.bits=64:=rfl
@[simp] theorem natc (n:Nat):Int.ofNat n=(n:Int):=rfl
theorem z9s {n:Int} (h:-9223372036854775808≤n∧n≤9223372036854775807):IntKind.i64.wrap n=n:=IntWalk.i64_in n h
theorem k1n {n:Int} (h:0≤n∧n≤18446744073709551615):IntKind.u64.wrap n=n:=IntWalk.u64_in n h
@[simp] theorem K6 (l:List UInt8):(E8 l).length=l.length:=by simp [E8]
@[simp] theorem k1f (a b:List UInt8):E8 (a++b)=E8 a++E8 b:=by simp [E8]
@[simp] theorem k5l:E8 []=[]:=rfl
theorem w8l {l:List UInt8} {i:Nat} (h:i < l.length):(E8 l).getD i []=[.v (.int .u8 (l[i]).toNat)]:=by simp [E8,List.getD,h]
@[simp] theorem k3t (l:List UInt8) (n:Nat):(E8 l).drop n=E8 (l.drop n):=by simp [E8,List.map_drop]
@[simp] theorem k3s (l:List UInt8) (n:Nat):(E8 l).take n=E8 (l.take n):=by simp [E8,List.map_take]
def k5k (l:List Int):List (List CV):=l.map fun n=>[.v (.int .i64 n)]
@[simp] theorem k1e (l:List Int):(k5k l).length=l.length:=by simp [k5k]
def uv (n:Int):Nat:=(n % 18446744073709551616).toNat
end Go.Proofs.YtioiigabeoaneaaGreat.V
namespace Go.Proofs.YtioiigabeoaneaaGreat.V
open Go
def gd {ρ:Type} (p:Prop) [Decidable p] (fail k:ρ):ρ:=if p then k else fail
abbrev nilE:EL:=[]
def z6z {ρ:Type} (fail:ρ) (es:EL) (k:ByteArray→ρ):ρ:=match bytesOf es with | some b=>k ⟨b.toArray⟩ | none=>fail
def z8u (a b:Nat):Prop:=a + b≤9223372036854775807
instance (a b:Nat):Decidable (z8u a b):=inferInstanceAs (Decidable (a + b≤9223372036854775807))
theorem V9 {A0 A1 A2 A3 A4 A5 A6 A7 A8 A9 A10 A11 A12 A13 A14 A15:Type} {p:A0→A1→A2→A3→A4→A5→A6→A7→A8→A9→A10→A11→A12→A13→A14→A15→Prop} {q:Prop} (h:∃ a0 a1 a2 a3 a4 a5 a6 a7 a8 a9 a10 a11 a12 a13 a14 a15,p a0 a1 a2 a3 a4 a5 a6 a7 a8 a9 a10 a11 a12 a13 a14 a15) (k:∀ a0 a1 a2 a3 a4 a5 a6 a7 a8 a9 a10 a11 a12 a13 a14 a15,p a0 a1 a2 a3 a4 a5 a6 a7 a8 a9 a10 a11 a12 a13 a14 a15→q):q:=by
 obtain⟨a0,a1,a2,a3,a4,a5,a6,a7,a8,a9,a10,a11,a12,a13,a14,a15,h⟩:=h
 exact k a0 a1 a2 a3 a4 a5 a6 a7 a8 a9 a10 a11 a12 a13 a14 a15 h
theorem C8 {p:Prop} [Decidable p] {k:Prop} (h:gd p False k):p∧k:=by
 unfold gd at h;split at h
 ·exact⟨by assumption,h⟩
 ·exact h.elim
section
variable {O:Ops} {B:Nat} {T:Tab} {G:L2} {D:Spec} (hO:O=std B T G D)
theorem k1h {p:Prop} [Decidable p] {k C R:Prop} (h:gd p False k) (e:p→C) (f:k→R):C∧R:=by
 unfold gd at h;split at h
 ·exact⟨e (by assumption),f h⟩
 ·exact h.elim
include hO
theorem k3l {a b:ByteArray} (g:z8u a.size b.size):O.ile (Int.ofNat (O.plus (O.ssz a) (O.ssz b))) 9223372036854775807:=by
 subst hO
 show ((a.size + b.size:Nat):Int)≤9223372036854775807
 unfold z8u at g;omega
theorem w8p {a b:ByteArray} {k R:Prop} (h:gd (z8u a.size b.size) False k) (f:k→R):O.ile (Int.ofNat (O.plus (O.ssz a) (O.ssz b))) 9223372036854775807∧R :=
 ⟨k3l hO (C8 h).1,f (C8 h).2⟩
theorem br_h {v c:Bool} {A A':Unit→Prop} {a b:Prop} (h:cond c a b) (e:v=c) (h1:v=true→a→A ()) (h2:v=false→b→A' ()):O.br v A A':=by
 subst e;exact k1g hO (fun hv=>h1 hv (by subst hv;exact h)) (fun hv=>h2 hv (by subst hv;exact h))
theorem w6m {A:Nat→TI} (hA:A=fun t=>T.at t) {v c:Bool} {x y:Code} {tm₁ tm₂:List AV} {m₁ m₂:Mem} {N Rt:List AV→Mem→Prop} {X:Nat→List AV→Mem→Prop} {a b:Prop} (h:cond c a b) (e:v=c) (live ids caps:List Nat) (R:List AV→Mem→Prop)
  (h1:v=true→a→∀ L:List AV→Mem→Prop,(∀ tm m,R (fgT B live ids tm m) (fgM B live ids caps tm m)→L tm m)→M4 O A G x tm₁ m₁ (R5 L Rt X))
  (h2:v=false→b→∀ L:List AV→Mem→Prop,(∀ tm m,R (fgT B live ids tm m) (fgM B live ids caps tm m)→L tm m)→M4 O A G y tm₂ m₂ (R5 L Rt X))
  (h3:∀ tm m,R tm m→N tm m) :
  O.br v (fun _=>M4 O A G x tm₁ m₁ (R5 (O.join N) Rt X)) (fun _=>M4 O A G y tm₂ m₂ (R5 (O.join N) Rt X)):=by
 subst e
 exact k0j hO hA live ids caps R (fun hv=>h1 hv (by subst hv;exact h)) (fun hv=>h2 hv (by subst hv;exact h)) h3
theorem R6 {x n:Nat} {i kz:Int} {K:Nat→Prop} {a b:Prop} (k:Nat) (hz:kz=(k:Int)) (hx:x=i.toNat) (h:cond (B0 .eql i kz) a b) (h1:i=(k:Int)→a→K k) (h2:b→O.nat x n K):O.nat x n K:=by
 cases hc:B0 .eql i kz with
 | true =>
  rw [hc] at h
  have hi:i=kz:=by simpa [B0] using hc
  exact k3a hO k (by rw [hx,hi,hz];rfl) (h1 (hi.trans hz) h)
 | false=>rw [hc] at h;exact h2 h
theorem E3 {n:Nat} {es:EL} {K:EL→Prop} {p:Prop} [Decidable p] {k:Prop} (h:gd p False k) (e:p→n≤es.length) (f:k→K (O.take n es)):O.view n es K :=
 D6 hO (e (C8 h).1) (f (C8 h).2)
theorem X5 {es es':EL} {k K:ByteArray→Prop} (h:z6z False es' k) (e:es=es') (f:∀ s,k s→K s):O.tob es K:=by
 subst e hO
 show (match bytesOf es with | some b=>K ⟨b.toArray⟩ | none=>False)
 unfold z6z at h
 split at h
 ·exact f _ h
 ·exact h.elim
end
section
variable {m:Mem}
end
section
variable {P:Program} {O:Ops} {B:Nat} {T:Tab} {G:L2} (hO:O=std B T G (Den P G))
include hO
theorem B1 (mds:List z0m){os0:List OV}{Q0:OV→List OV→Prop}{f:FuncId} (hd:Den P G f os0 Q0) {site:Nat} {m:Mem} {args:List AV} {K:KK}
  (hh:∀ (os:List OV) (Q:OV→List OV→Prop),os=os0→Q=Q0→w2g O m mds args fun os' m=>os'=os∧∀ r bs,Q r bs→z8v site m mds args bs fun id m=>K (H0 depth id m r).1 (H0 depth id m r).2.2):O.call site m f args K :=
 k0i hO mds hd (hh _ _ rfl rfl)
theorem D4 {A : Nat → TI} (hA : A = fun t => T.at t) (hm : P.follows .mixedOrders = true) (hT : TabOk P T) {f : FuncId} {fn : Func} {body : Code} (hf : P.funcs[f]? = some fn) (hb : fn.body = some body) (hname : (fn.name == "runtime.NumGoroutine") = false)
  {os:List OV} {Q:OV→List OV→Prop} (hlen:Nat.ble os.length fn.ntmps=true) (hB:(G6 (H0 depth) 0 ⟨[],0⟩ os).2.2.clk=B) {sh:Bool} (hk:∀ Q',Q'=Q→FnO O A G fn body os Q' sh):Den P G f os Q :=
 k0c hO hA hm hT hf hb hname hlen hB (hk Q rfl)
end
end Go.Proofs.YtioiigabeoaneaaGreat.V
namespace Go.Proofs.YtioiigabeoaneaaGreat.V
open Go
def w2k (w:World):D7:=fun b _=>b < w.heap.size
theorem w0i {P:Program}{G:L2}{f:FuncId}{os:List OV}{Q:OV→List OV→Prop} (hd:Den P G f os Q) (hQ:∀ r bs,Q r bs→r=.c (.v (.bool true))) (hG:∀ g,G g=none)
  {w:World} {us:List Value} {F:D7} (ho:OwnL (w2k w) w F os us) (hF:∀ b o,¬ F b o) :
  Calls P f us.toArray w fun e w'=>e=.returned (.bool true)∧Ext (fun _ _=>False) w w':=by
 refine Calls.mono (hd.2 (w2k w) F w us (fun _ _ h=>h) (fun b o h=>absurd h (hF b o)) (fun g cs h=>by rw [hG] at h;simp at h) ho) ?_
 rintro e w' ⟨v,r,bs,S',Fr,Fb,rfl,hq,hr,hb,hend⟩
 have:=hQ r bs hq
 subst this
 cases hr with | c _ _ hr =>
 cases hr
 have hext:=hend.ext
 exact⟨rfl,⟨hext.os,hext.tape,hext.output,hext.size,fun b o hb _=>hext.cell b o hb (hF b o),hext.shape,hext.frz,fun b hb _=>hext.obj b hb (hF b)⟩⟩
theorem Ext.kept {w w':World} (h:Ext (fun _ _=>False) w w') (may:MemPlace→Prop):w.keptBut w' may:=by
 refine⟨h.os,h.output,fun i hi=>?_⟩
 rw [h.obj i hi (fun _ q=>q)]
 cases w.heap[i]? with
 | none=>trivial
 | some ob=>cases ob<;>simp
end Go.Proofs.YtioiigabeoaneaaGreat.V
namespace Go.Proofs.YtioiigabeoaneaaGreat.V
open Go Go.RowKit Go.ChangeShapes
def z6q (P:Program):Nat→List Field→Nat→Bool
 | o,[],e=>o == e
 | o,f :: fs,e=>f.offset == o && z6q P (o + P.cellsOf f.type) fs e
def w0e (P:Program) (l:List TypeId):Bool:=l.all fun t=>match P.underlying t with
 | some .bool | some (.int _) | some .string=>true
 | some (.slice e)=>l.contains e && decide (0 < P.cellsOf e)
 | some (.struct fs)=>fs.toList.all (fun f=>l.contains f.type) && z6q P 0 fs.toList (P.cellsOf t)
 | _=>false
def k0r (shp:TypeId→List CV→Prop):List TypeId→List CV→Prop
 | [],ys=>ys=[]
 | t :: ts,ys=>∃ a b,ys=a++b∧shp t a∧k0r shp ts b
def Shp (P:Program):Nat→TypeId→List CV→Prop
 | 0,_,_=>False
 | n + 1,t,ys=>match P.underlying t with
  | some .bool=>∃ b,ys=[.v (.bool b)]
  | some (.int k)=>∃ z,ys=[.v (.int k z)]∧(Lit.int k z).wf=true
  | some .string=>∃ s:ByteArray,ys=[.v (.string s)]∧s.size≤maxLen
  | some (.slice e)=>∃ es:List (List CV),ys=[.sl (P.cellsOf e) es none]∧es.length≤maxLen∧∀ r ∈ es,Shp P n e r
  | some (.struct fs)=>k0r (Shp P n) (fs.toList.map (·.type)) ys
  | _=>False
section
variable {H:Type} {enc:TypeId × Value→H} {P:Program} {w:World} {base:Nat} {spare:Nat→Bool} {held:Bool}
def RowR (w:World) (ys:List CV) (cs:List Value):Prop:=ys.length=cs.length∧∀ (i:Nat) y u,ys[i]?=some y→cs[i]?=some u→RelC (w2k w) w y u
theorem RowR.append {w:World} {a b:List CV} {c d:List Value} (h:RowR w a c) (k:RowR w b d):RowR w (a++b) (c++d):=by
 refine⟨by simp [h.1,k.1],fun i y u hy hu=>?_⟩
 rw [List.getElem?_append] at hy hu
 rw [h.1] at hy
 split at hy
 ·rename_i hi;rw [if_pos hi] at hu;exact h.2 i y u hy hu
 ·rename_i hi;rw [if_neg hi] at hu;exact k.2 _ y u hy hu
theorem w4u {w:World} {a:Addr} {v:Value} (h:w.cell? a=some v):a.block < w.heap.size∧a.spot=none:=by
 unfold World.cell? at h
 split at h
 ·rename_i hh
  refine⟨(Array.getElem?_eq_some_iff.1 hh).1,?_⟩
  split at h
  ·simp at h
  ·rename_i hs;simpa using hs
 ·simp at h
theorem z6l {n:Nat} (cs:List Value):∀ (fs:List Field) (o:Nat),z6q P o fs cs.length=true →
  (∀ f ∈ fs,∃ ys,RowR w ys ((cs.drop f.offset).take (P.cellsOf f.type))∧Shp P n f.type ys)→∃ ys,RowR w ys (cs.drop o)∧k0r (Shp P n) (fs.map (·.type)) ys
 | [],o,hc,_=>by
  simp [z6q] at hc
  exact⟨[],⟨by simp [hc],by simp⟩,rfl⟩
 | f :: fs,o,hc,hf=>by
  simp only [z6q,Bool.and_eq_true,beq_iff_eq] at hc
  obtain⟨ho,hc⟩:=hc
  obtain⟨a,ha,sa⟩:=hf f (by simp)
  obtain⟨b,hb,sb⟩:=z6l cs fs _ hc (fun g hg=>hf g (by simp [hg]))
  rw [ho] at ha
  refine⟨a++b,?_,a,b,rfl,sa,sb⟩
  have:=ha.append hb
  rwa [← List.drop_drop,List.take_append_drop] at this
theorem w0s {l:List TypeId} (hl:w0e P l=true):∀ (n:Nat) (t:TypeId) (cs:List Value) (x:DataW H × List MemPlace),t ∈ l→DataW.trod enc P w base spare held n t cs=some x →
  ∃ ys,RowR w ys cs∧Shp P n t ys:=by
 intro n
 induction n with
 | zero=>intro t cs x _ h;simp [DataW.trod] at h
 | succ n ih =>
  intro t cs x ht h
  have hc:=List.all_eq_true.1 hl t ht
  split at hc
  ·rename_i hu
   obtain⟨b,rfl,rfl⟩:=DataW.trod_bool hu h
   refine⟨[.v (.bool b)],⟨rfl,fun i y u hy hu=>?_⟩,?_⟩
   ·match i with
    | 0=>simp at hy hu;subst hy;subst hu;exact .v _ rfl
    | i + 1=>simp at hy
   ·simp [Shp,hu]
  ·rename_i k hu
   obtain⟨z,rfl,rfl,hw⟩:=DataW.trod_int hu h
   refine⟨[.v (.int k z)],⟨rfl,fun i y u hy hu=>?_⟩,?_⟩
   ·match i with
    | 0=>simp at hy hu;subst hy;subst hu;exact .v _ rfl
    | i + 1=>simp at hy
   ·simp [Shp,hu,hw]
  ·rename_i hu
   obtain⟨s,rfl,rfl,hw⟩:=DataW.trod_string hu h
   refine⟨[.v (.string s)],⟨rfl,fun i y u hy hu=>?_⟩,?_⟩
   ·match i with
    | 0=>simp at hy hu;subst hy;subst hu;exact .v _ rfl
    | i + 1=>simp at hy
   ·simp [Shp,hu,hw]
  ·rename_i e hu
   simp only [Bool.and_eq_true,List.contains_iff_mem,decide_eq_true_eq] at hc
   rcases DataW.trod_slice hu h with ⟨rfl,rfl⟩ | ⟨a,len,cap,elems,rest,n',hn,rfl,rfl,hb,hle,hm,hlen,hel,_,_⟩
   ·refine⟨[.sl (P.cellsOf e) [] none],⟨rfl,fun i y u hy hu'=>?_⟩,?_⟩
    ·match i with
     | 0=>simp at hy hu';subst hy;subst hu';exact .sl _ [] none none 0 0 0 (fun _=>.nilIface) (by simp) (by simp) (by simp) (by simp) (by simp) (by simp) (by simp)
     | i + 1=>simp at hy
    ·simp [Shp,hu]
   ·injection hn with hn;subst hn
    have each:∀ i,i < len→∃ r cs',World.cells? w base (a.add (i * P.cellsOf e)) (P.cellsOf e)=some cs'∧RowR w r cs'∧Shp P n e r:=fun i hi=>by
     have h1:=hel i hi
     rw [List.getElem?_eq_getElem (by omega),Option.bind_eq_some_iff] at h1
     obtain⟨cs',hcs,hy⟩:=h1
     obtain⟨r,hr,hs⟩:=ih e cs' _ hc.1 hy
     exact⟨r,cs',hcs,hr,hs⟩
    have hex:∃ g:Nat→List CV,∀ i,i < len→∃ cs',World.cells? w base (a.add (i * P.cellsOf e)) (P.cellsOf e)=some cs'∧RowR w (g i) cs'∧Shp P n e (g i):=by
     refine⟨fun i=>if hi:i < len then (each i hi).choose else [],fun i hi=>?_⟩
     obtain⟨cs',h1⟩:=(each i hi).choose_spec
     refine⟨cs',?_⟩
     simp only [hi,dif_pos]
     exact h1
    obtain⟨g,hg⟩:=hex
    have hget:∀ (i:Nat) r,((List.range len).map g)[i]?=some r→i < len∧r=g i:=fun i r hr=>by
     have hi:i < len:=by have:=(List.getElem?_eq_some_iff.1 hr).1;simpa using this
     refine⟨hi,?_⟩
     simpa [List.getElem?_map,List.getElem?_range hi] using hr.symm
    have hrl:∀ i,i < len→(g i).length=P.cellsOf e:=fun i hi=>by
     obtain⟨cs',h1,h2,_⟩:=hg i hi
     rw [h2.1,(World.cells?_some h1).2.1]
    have hcell:∀ i j,i < len→j < P.cellsOf e→∃ u,w.cell? ((a.add (i * P.cellsOf e)).add j)=some u∧∃ y,(g i)[j]?=some y∧RelC (w2k w) w y u:=fun i j hi hj=>by
     obtain⟨cs',h1,h2,_⟩:=hg i hi
     obtain⟨_,h3,h4⟩:=World.cells?_some h1
     obtain⟨y,hy⟩:∃ y,(g i)[j]?=some y:=⟨_,List.getElem?_eq_getElem (by rw [hrl i hi];exact hj)⟩
     obtain⟨v,hv⟩:∃ v,cs'[j]?=some v:=⟨_,List.getElem?_eq_getElem (by rw [h3];exact hj)⟩
     exact⟨_,(h4 j hj).trans hv,_,hy,h2.2 j _ _ hy hv⟩
    have hspot:0 < len→a.spot=none:=fun h0=>by
     obtain⟨u,hu',_⟩:=hcell 0 0 h0 hc.2
     simpa [Addr.add] using (w4u hu').2
    have hadd:0 < len→∀ i j,(a.add (i * P.cellsOf e)).add j=⟨a.block,a.off + (i * P.cellsOf e + j),none⟩:=fun h0 i j=>by
     have hs:=hspot h0
     obtain⟨ab,ao,asp⟩:=a
     simp only at hs;subst hs
     unfold Addr.add
     by_cases h1:i * P.cellsOf e=0<;>by_cases h2:j=0<;>simp [h1,h2]<;>omega
    have hdiv:∀ k,k < len * P.cellsOf e→k / P.cellsOf e < len∧k % P.cellsOf e < P.cellsOf e∧k / P.cellsOf e * P.cellsOf e + k % P.cellsOf e=k:=fun k hk =>
     ⟨(Nat.div_lt_iff_lt_mul hc.2).2 hk,Nat.mod_lt _ hc.2,by rw [Nat.mul_comm];exact Nat.div_add_mod _ _⟩
    have hall:∀ k,k < len * P.cellsOf e→∃ u,D8 w a.block (a.off + k)=some u:=fun k hk=>by
     obtain⟨h1,h2,h3⟩:=hdiv k hk
     obtain⟨u,h4,_⟩:=hcell _ _ h1 h2
     rw [hadd (Nat.lt_of_le_of_lt (Nat.zero_le _) h1),h3] at h4
     exact⟨u,h4⟩
    refine⟨[.sl (P.cellsOf e) ((List.range len).map g) none],⟨rfl,fun i y u hy hu'=>?_⟩,?_⟩
    ·match i with
     | i + 1=>simp at hy
     | 0 =>
      simp only [List.getElem?_cons_zero,Option.some.injEq] at hy hu'
      subst hy;subst hu'
      have hlen':((List.range len).map g).length=len:=by simp
      have hgoal:RelC (w2k w) w (.sl (P.cellsOf e) ((List.range len).map g) none) (.slice (some a) ((List.range len).map g).length cap):=by
       refine .sl _ _ none (some a) cap a.block a.off (fun k=>(D8 w a.block (a.off + k)).getD .nilIface) (by rw [hlen'];exact hle) (by simp) ?_ ?_ ?_ ?_ ?_
       ·intro hne
        have h0:0 < len:=by
         cases len with
         | zero=>simp at hne
         | succ _=>omega
        refine⟨?_,hc.2⟩
        have:=hspot h0
        obtain⟨ab,ao,asp⟩:=a
        simp only at this;subst this;rfl
       ·intro i r hr
        simp only [Option.getD_none,List.append_nil] at hr
        obtain⟨hi,rfl⟩:=hget i r hr
        exact hrl i hi
       ·intro k hk
        simp only [Option.getD_none,List.append_nil,hlen'] at hk
        obtain⟨u,hu'⟩:=hall k hk
        exact (w4u hu').1
       ·intro k hk
        simp only [Option.getD_none,List.append_nil,hlen'] at hk
        obtain⟨u,hu'⟩:=hall k hk
        show D8 w a.block (a.off + k)=some ((D8 w a.block (a.off + k)).getD .nilIface)
        rw [hu'];rfl
       ·intro i j r y hr hy
        simp only [Option.getD_none,List.append_nil] at hr
        obtain⟨hi,rfl⟩:=hget i r hr
        have hj:j < P.cellsOf e:=by rw [← hrl i hi];exact (List.getElem?_eq_some_iff.1 hy).1
        obtain⟨u,h4,y',h5,h6⟩:=hcell i j hi hj
        rw [hy] at h5;injection h5 with h5;subst h5
        rw [hadd (by omega)] at h4
        show RelC (w2k w) w y ((D8 w a.block (a.off + (i * P.cellsOf e + j))).getD .nilIface)
        rw [show D8 w a.block (a.off + (i * P.cellsOf e + j))=some u from h4]
        exact h6
      rwa [hlen'] at hgoal
    ·simp only [Shp,hu]
     refine⟨_,rfl,by simp;omega,fun r hr=>?_⟩
     obtain⟨i,hi,rfl⟩:=List.mem_map.1 hr
     obtain⟨_,_,_,h5⟩:=hg i (List.mem_range.1 hi)
     exact h5
  ·rename_i fs hu
   simp only [Bool.and_eq_true,List.all_eq_true,List.contains_iff_mem] at hc
   obtain⟨xs,n',hn,rfl,hlen,hxl,hf⟩:=DataW.trod_struct hu h
   injection hn with hn;subst hn
   obtain⟨ys,h1,h2⟩:=z6l (P:=P) (w:=w) (n:=n) cs fs.toList 0 (by rw [hlen];exact hc.2) (fun f hfm=>by
    obtain⟨i,hi⟩:=List.getElem?_of_mem hfm
    have h3:=hf i f (by simpa using hi)
    have hi':i < xs.length:=by rw [hxl];simpa using (List.getElem?_eq_some_iff.1 hi).1
    rw [List.getElem?_eq_getElem hi'] at h3
    exact ih f.type _ _ (hc.1 f hfm) h3)
   refine⟨ys,by simpa using h1,?_⟩
   simp only [Shp,hu]
   exact h2
  ·simp at hc
theorem z8y {l:List TypeId} (hl:w0e P l=true) {t:TypeId} (ht:t ∈ l) {vs:Array Value} {d:DataW H} {ps:List MemPlace} (h:DataW.Trod enc P w base spare held t (.agg vs) d ps) :
  ∃ n ys,RowR w ys vs.toList∧Shp P n t ys:=by
 obtain⟨n,h⟩:=h
 obtain⟨ys,hr,hs⟩:=w0s hl n t _ _ ht h
 exact⟨n,ys,hr,hs⟩
end
theorem Ext.below {w w':World} (h:Ext (fun _ _=>False) w w'):Below w.heap.size w w':=⟨h.os,h.tape,h.output,h.size,fun k hk=>h.obj k hk (fun _ q=>q)⟩
end Go.Proofs.YtioiigabeoaneaaGreat.V
namespace Go.Proofs.YtioiigabeoaneaaGreat
open Go V
open Go.ChangeShapes Go.WideShapes Go.ChangeAt Go.RowKit
theorem Tryz.own:ownKnob Tryz.prog.godebug=none:=by kernel_rfl
theorem Tryz.laidOut:laidOutB Tryz.prog=true:=by kernel_rfl
set_option maxRecDepth 100000
theorem k3v {n:Int} (h:(Lit.int .u8 n).wf=true):0≤n∧n≤255:=by
 have h':(decide (IntKind.u8.min≤n) && decide (n≤IntKind.u8.max))=true:=h
 have h1:IntKind.u8.min=0:=by decide
 have h2:IntKind.u8.max=255:=by decide
 rw [Bool.and_eq_true,h1,h2] at h'
 exact⟨of_decide_eq_true h'.1,of_decide_eq_true h'.2⟩
section
variable {H:Type} {enc:TypeId × Value→H} {w:World} {base:Nat} {spare:Nat→Bool} {held:Bool}
end
set_option maxRecDepth 10000
def w2q (v:Nat):List UInt8:=if v < 128 then [UInt8.ofNat v] else UInt8.ofNat (v % 128 + 128) :: w2q (v / 128)
termination_by v
def E0 {ρ:Type} (fail:ρ) (r:List CV) (k:Int→Int→ByteArray→EL→EL→ρ):ρ:=match r with
 | [.v (.int .i64 c0),.v (.int .i64 c1),.v (.string c2),.sl 3 c3 none,.sl 5 c4 none]=>k c0 c1 c2 c3 c4
 | _=>fail
theorem C9 {r:List CV} {k:Int→Int→ByteArray→EL→EL→Prop} (h:E0 False r k):∃ (c0:Int) (c1:Int) (c2:ByteArray) (c3:EL) (c4:EL),r=[.v (.int .i64 c0),.v (.int .i64 c1),.v (.string c2),.sl 3 c3 none,.sl 5 c4 none]∧k c0 c1 c2 c3 c4:=by
 unfold E0 at h;split at h
 ·exact⟨_,_,_,_,_,rfl,h⟩
 ·exact h.elim
def G4 {ρ:Type} (fail:ρ) (r:List CV) (k:Int→Int→EL→ρ):ρ:=match r with
 | [.v (.int .i64 c0),.v (.int .i64 c1),.sl 3 c2 none]=>k c0 c1 c2
 | _=>fail
theorem G1 {r:List CV} {k:Int→Int→EL→Prop} (h:G4 False r k):∃ (c0:Int) (c1:Int) (c2:EL),r=[.v (.int .i64 c0),.v (.int .i64 c1),.sl 3 c2 none]∧k c0 c1 c2:=by
 unfold G4 at h;split at h
 ·exact⟨_,_,_,rfl,h⟩
 ·exact h.elim
def G9 {ρ:Type} (fail:ρ) (r:List CV) (k:ByteArray→Int→Int→ByteArray→EL→EL→ρ):ρ:=match r with
 | [.v (.string c0),.v (.int .i64 c1),.v (.int .i64 c2),.v (.string c3),.sl 3 c4 none,.sl 5 c5 none]=>k c0 c1 c2 c3 c4 c5
 | _=>fail
theorem H1 {r:List CV} {k:ByteArray→Int→Int→ByteArray→EL→EL→Prop} (h:G9 False r k):∃ (c0:ByteArray) (c1:Int) (c2:Int) (c3:ByteArray) (c4:EL) (c5:EL),r=[.v (.string c0),.v (.int .i64 c1),.v (.int .i64 c2),.v (.string c3),.sl 3 c4 none,.sl 5 c5 none]∧k c0 c1 c2 c3 c4 c5:=by
 unfold G9 at h;split at h
 ·exact⟨_,_,_,_,_,_,rfl,h⟩
 ·exact h.elim
def w3e {ρ:Type} (fail:ρ) (r:List CV) (k:Int→ρ):ρ:=match r with
 | [.v (.int .i64 c0)]=>k c0
 | _=>fail
theorem w3d {r:List CV} {k:Int→Prop} (h:w3e False r k):∃ (c0:Int),r=[.v (.int .i64 c0)]∧k c0:=by
 unfold w3e at h;split at h
 ·exact⟨_,rfl,h⟩
 ·exact h.elim
def z7q {ρ:Type} (fail:ρ) (r:List CV) (k:Int→ρ):ρ:=match r with
 | [.v (.int .u8 c0)]=>k c0
 | _=>fail
theorem z3q {r:List CV} {k:Int→Prop} (h:z7q False r k):∃ (c0:Int),r=[.v (.int .u8 c0)]∧k c0:=by
 unfold z7q at h;split at h
 ·exact⟨_,rfl,h⟩
 ·exact h.elim
def E7 {ρ:Type} (fail:ρ) (r:List CV) (k:Int→Int→Int→Int→EL→EL→ByteArray→EL→ρ):ρ:=match r with
 | [.v (.int .u8 c0),.v (.int .u8 c1),.v (.int .u8 c2),.v (.int .u8 c3),.sl 1 c4 none,.sl 1 c5 none,.v (.string c6),.sl 4 c7 none]=>k c0 c1 c2 c3 c4 c5 c6 c7
 | _=>fail
theorem F8 {r:List CV} {k:Int→Int→Int→Int→EL→EL→ByteArray→EL→Prop} (h:E7 False r k):∃ (c0:Int) (c1:Int) (c2:Int) (c3:Int) (c4:EL) (c5:EL) (c6:ByteArray) (c7:EL),r=[.v (.int .u8 c0),.v (.int .u8 c1),.v (.int .u8 c2),.v (.int .u8 c3),.sl 1 c4 none,.sl 1 c5 none,.v (.string c6),.sl 4 c7 none]∧k c0 c1 c2 c3 c4 c5 c6 c7:=by
 unfold E7 at h;split at h
 ·exact⟨_,_,_,_,_,_,_,_,rfl,h⟩
 ·exact h.elim
def F6 {ρ:Type} (fail:ρ) (r:List CV) (k:Int→Int→Int→EL→ρ):ρ:=match r with
 | [.v (.int .u8 c0),.v (.int .u8 c1),.v (.int .u8 c2),.sl 1 c3 none]=>k c0 c1 c2 c3
 | _=>fail
theorem C4 {r:List CV} {k:Int→Int→Int→EL→Prop} (h:F6 False r k):∃ (c0:Int) (c1:Int) (c2:Int) (c3:EL),r=[.v (.int .u8 c0),.v (.int .u8 c1),.v (.int .u8 c2),.sl 1 c3 none]∧k c0 c1 c2 c3:=by
 unfold F6 at h;split at h
 ·exact⟨_,_,_,_,rfl,h⟩
 ·exact h.elim
def z2r {ρ:Type} (fail:ρ) (r:List CV) (k:ByteArray→ρ):ρ:=match r with
 | [.v (.string c0)]=>k c0
 | _=>fail
theorem P1 {r:List CV} {k:ByteArray→Prop} (h:z2r False r k):∃ (c0:ByteArray),r=[.v (.string c0)]∧k c0:=by
 unfold z2r at h;split at h
 ·exact⟨_,rfl,h⟩
 ·exact h.elim
abbrev KT0 (ρ:Type):=Int→Int→EL→EL→Int→Int→ρ
abbrev KT1 (ρ:Type):=Int→Int→EL→EL→Int→ρ
abbrev KT2 (ρ:Type):=Int→Int→ByteArray→EL→EL→EL→Int→Int→ρ
abbrev KT3 (ρ:Type):=Int→Int→ByteArray→EL→EL→EL→Int→ρ
abbrev KT4 (ρ:Type):=Int→Int→Int→ByteArray→ByteArray→Int→Int→ByteArray→EL→EL→Int→Int→ByteArray→EL→EL→EL→EL→Int→ρ
abbrev KT5 (ρ:Type):=Int→Int→ByteArray→EL→EL→ρ
abbrev KT6 (ρ:Type):=ByteArray→Int→Int→Int→Int→Int→ρ
abbrev KT7 (ρ:Type):=Int→ByteArray→Int→Int→Int→Int→Int→ρ
abbrev KT8 (ρ:Type):=Int→Int→EL→ByteArray→Int→Int→Int→Int→Int→ρ
abbrev KT9 (ρ:Type):=Int→Int→ByteArray→EL→EL→ByteArray→Int→Int→Int→Int→Int→ρ
abbrev k5t (ρ:Type):=Int→Int→ByteArray→EL→EL→Int→Int→ρ
abbrev w6q (ρ:Type):=Int→Int→ByteArray→EL→EL→Int→Int→ByteArray→EL→EL→EL→Int→ρ
abbrev z4d (ρ:Type):=Int→Int→Int→ByteArray→ByteArray→Int→Int→ByteArray→EL→EL→Int→Int→ByteArray→EL→EL→EL→ρ
abbrev k5s (ρ:Type):=Int→Int→Int→ByteArray→ByteArray→Int→Int→ByteArray→EL→EL→Int→Int→ByteArray→EL→EL→EL→Int→Int→Int→ByteArray→ByteArray→Int→Int→ByteArray→EL→EL→Int→Int→ByteArray→EL→EL→EL→Int→Int→Int→ByteArray→ByteArray→Int→Int→ByteArray→EL→EL→Int→Int→ByteArray→EL→EL→EL→Int→Int→Int→ByteArray→ByteArray→Int→Int→ByteArray→EL→EL→Int→Int→ByteArray→EL→EL→EL→Int→Int→Int→ByteArray→ByteArray→Int→Int→ByteArray→EL→EL→Int→Int→ByteArray→EL→EL→EL→Int→Int→Int→ByteArray→ByteArray→Int→Int→ByteArray→EL→EL→Int→Int→ByteArray→EL→EL→EL→Int→Int→Int→ByteArray→ByteArray→Int→Int→ByteArray→EL→EL→Int→Int→ByteArray→EL→EL→EL→Int→Int→Int→ByteArray→ByteArray→Int→Int→ByteArray→EL→EL→Int→Int→ByteArray→EL→EL→EL→Int→Int→Int→ByteArray→ByteArray→Int→Int→ByteArray→EL→EL→Int→Int→ByteArray→EL→EL→EL→ρ
abbrev S8 (ρ:Type):=Int→Int→Int→Int→Int→Int→Int→Int→Int→Int→Int→ByteArray→ByteArray→Int→Int→ByteArray→EL→EL→Int→Int→ByteArray→EL→EL→EL→Int→Int→ByteArray→EL→EL→Int→Int→ByteArray→EL→EL→ρ
abbrev z7h (ρ:Type):=Bool→Bool→Bool→Bool→Bool→Bool→Bool→Bool→Bool→ρ
abbrev k5r (ρ:Type):=Int→Int→EL→Int→ρ
abbrev z2l (ρ:Type):=Int→Int→Int→Int→Int→Int→Int→Int→Int→Int→Int→ByteArray→ByteArray→Int→Int→ByteArray→EL→EL→Int→Int→ByteArray→EL→EL→EL→Int→Int→ByteArray→EL→EL→Int→Int→ByteArray→EL→EL→Int→ρ
abbrev z7g (ρ:Type):=ByteArray→Bool→ρ
def p114_1 {ρ:Type} (fail:ρ) (fu:Nat) (K0:Int→Int→Int→ρ) (z3 j6:Int) (j7:Bool):ρ :=
 bif j7 then (K0 0 0 5) else (K0 j6 (B8 .add .i64 z3 1) 0)
def p114_2 {ρ:Type} (fail:ρ) (fu:Nat) (K0:Int→Int→Int→ρ) (rec1:Int→Int→Int→ρ) (z1 z2 z3 c4:Int) (j5:Bool):ρ :=
 bif j5 then (K0 0 0 4) else (gd ((0:Int)≤(IntKind.u64.wrap (B8 .mul .i64 7 z3))) fail (bif (B0 .geq c4 128) then (rec1 (B8 .or .u64 z1 (B8 .shl .u64 (IntKind.u64.wrap (B8 .andNot .u8 c4 128)) (IntKind.u64.wrap (B8 .mul .i64 7 z3)))) z2 (B8 .add .i64 z3 1)) else (bif (B0 .eql c4 0) then (p114_1 fail fu K0 z3 (B8 .or .u64 z1 (B8 .shl .u64 (IntKind.u64.wrap (B8 .andNot .u8 c4 128)) (IntKind.u64.wrap (B8 .mul .i64 7 z3)))) (B0 .gtr z3 0)) else (p114_1 fail fu K0 z3 (B8 .or .u64 z1 (B8 .shl .u64 (IntKind.u64.wrap (B8 .andNot .u8 c4 128)) (IntKind.u64.wrap (B8 .mul .i64 7 z3)))) false))))
def p114_3 {ρ:Type} (fail:ρ) (fu:Nat) (K0:Int→Int→Int→ρ) (rec1:Int→Int→Int→ρ) (x0:EL) (z1 z2 z3:Int):ρ :=
 bif (B0 .lss z3 z2) then (gd (0≤z3) fail (gd (z3 < x0.length) fail (z7q fail (List.getD x0 (z3.toNat) []) (fun c4=>bif (B0 .eql z3 9) then (p114_2 fail fu K0 rec1 z1 z2 z3 c4 (B0 .gtr c4 1)) else (p114_2 fail fu K0 rec1 z1 z2 z3 c4 false))))) else (K0 0 0 2)
def p114_3L {ρ:Type} (fail:ρ) (fu:Nat) (K0:Int→Int→Int→ρ) (x0:EL):Nat→Int→Int→Int→ρ
 | 0,_,_,_=>fail
 | n + 1,z1,z2,z3=>p114_3 fail fu K0 (p114_3L fail fu K0 x0 n) x0 z1 z2 z3
def p114 {ρ:Type} (fail:ρ) (fu:Nat) (K0:Int→Int→Int→ρ) (x0:EL):ρ :=
 p114_3L fail fu K0 x0 fu 0 ((x0.length:Nat):Int) 0
def p50_1 {ρ:Type} (fail:ρ) (fu:Nat) (K0:EL→Int→ρ) (x0:EL) (j1:Int):ρ :=
 K0 x0 j1
def p50 {ρ:Type} (fail:ρ) (fu:Nat) (K0:EL→Int→ρ) (x0:EL) (x1 x2:Int):ρ :=
 bif (B0 .eql x1 0) then (p50_1 fail fu K0 x0 x2) else (p50_1 fail fu K0 x0 x1)
def p84 {ρ:Type} (fail:ρ) (fu:Nat) (K0:Int→EL→Int→ρ) (x0:EL) (x1:Int):ρ :=
 bif (B0 .neq x1 0) then (K0 0 x0 x1) else (p114 fail fu (fun y1 y2 y3=>p50 fail fu (fun y4 y5=>gd (0≤y2) fail (gd (y2≤y4.length) fail (gd (((y4.length:Nat):Int)≤y4.length) fail (K0 y1 (List.drop (y2.toNat) (List.take (((y4.length:Nat):Int).toNat) y4)) y5)))) x0 x1 y3) x0)
def p49_1 {ρ:Type} (fail:ρ) (fu:Nat) (K0:Int→EL→Int→ρ) (x2 y1:Int) (y2:EL) (y3:Int) (j4:Bool):ρ :=
 bif j4 then (p50 fail fu (fun y5 y6=>K0 x2 y5 y6) y2 y3 5) else (K0 (IntKind.i64.wrap y1) y2 y3)
def p49 {ρ:Type} (fail:ρ) (fu:Nat) (K0:Int→EL→Int→ρ) (x0:EL) (x1 x2 x3:Int):ρ :=
 p84 fail fu (fun y1 y2 y3=>bif (B0 .lss y1 (IntKind.u64.wrap x2)) then (p49_1 fail fu K0 x2 y1 y2 y3 true) else (p49_1 fail fu K0 x2 y1 y2 y3 (B0 .gtr y1 (IntKind.u64.wrap x3)))) x0 x1
def p51 {ρ:Type} (fail:ρ) (fu:Nat) (K0:Int→EL→Int→ρ) (x0:EL) (x1:Int):ρ :=
 p84 fail fu (fun y1 y2 y3=>bif (B0 .gtr y1 1073741824) then (p50 fail fu (fun y4 y5=>K0 0 y4 y5) y2 y3 4) else (K0 (IntKind.i64.wrap y1) y2 y3)) x0 x1
def p87 {ρ:Type} (fail:ρ) (fu:Nat) (K0:EL→Int→Int→ρ) (x0:EL) (x1:Int):ρ :=
 p114 fail fu (fun y1 y2 y3=>bif (B0 .neq y3 0) then (K0 nilE 0 y3) else (bif (B0 .gtr y1 (IntKind.u64.wrap (if 0 > x1 then 0 else x1))) then (K0 nilE 0 3) else (bif (B0 .gtr y1 (IntKind.u64.wrap (B8 .sub .i64 ((x0.length:Nat):Int) y2))) then (K0 nilE 0 2) else (gd (0≤y2) fail (gd (y2≤(B8 .add .i64 y2 (IntKind.i64.wrap y1))) fail (gd ((B8 .add .i64 y2 (IntKind.i64.wrap y1):Int)≤(B8 .add .i64 y2 (IntKind.i64.wrap y1))) fail (gd ((B8 .add .i64 y2 (IntKind.i64.wrap y1):Int)≤x0.length) fail (gd (0=nilE.length) fail (gd ((nilE.length + (List.drop (y2.toNat) (List.take ((B8 .add .i64 y2 (IntKind.i64.wrap y1):Int).toNat) x0)).length) * 1≤35184372088832) fail (K0 (nilE++(List.drop (y2.toNat) (List.take ((B8 .add .i64 y2 (IntKind.i64.wrap y1):Int).toNat) x0))) (B8 .add .i64 y2 (IntKind.i64.wrap y1)) 0)))))))))) x0
def p55 {ρ:Type} (fail:ρ) (fu:Nat) (K0:EL→EL→Int→ρ) (x0:EL) (x1 x2:Int):ρ :=
 bif (B0 .neq x1 0) then (K0 nilE x0 x1) else (p87 fail fu (fun y1 y2 y3=>p50 fail fu (fun y4 y5=>gd (0≤y2) fail (gd (y2≤y4.length) fail (gd (((y4.length:Nat):Int)≤y4.length) fail (K0 y1 (List.drop (y2.toNat) (List.take (((y4.length:Nat):Int).toNat) y4)) y5)))) x0 x1 y3) x0 x2)
def p116_1 {ρ:Type} (fail:ρ) (fu:Nat) (K0:EL→Int→Int→ρ) (j1:EL) (j2 j3:Int):ρ :=
 K0 j1 j2 j3
def p116_2 {ρ:Type} (fail:ρ) (fu:Nat) (K0:EL→Int→Int→ρ) (j6:EL) (j7 j8:Int):ρ :=
 p116_1 fail fu K0 j6 j7 j8
def p116 {ρ:Type} (fail:ρ) (fu:Nat) (K0:EL→Int→Int→ρ) (x0:EL) (x1 x2 x3 x4 x5:Int):ρ :=
 bif (B0 .gtr (B8 .add .i64 x2 1) x3) then (p50 fail fu (fun y4 y5=>p116_1 fail fu K0 y4 y5 (B8 .add .i64 x2 1)) x0 x1 3) else (bif (B0 .gtr x4 x5) then (p50 fail fu (fun y9 a0=>p116_2 fail fu K0 y9 a0 (B8 .add .i64 x2 1)) x0 x1 6) else (p116_2 fail fu K0 x0 x1 (B8 .add .i64 x2 1)))
theorem E4 {ρ:Type} {p:Prop} [Decidable p] {f k:ρ} (h:p):gd p f k=k:=if_pos h
theorem J1 {a b:Int} (h:a=b):B0 .eql a b=true:=by subst h;simp [B0]
theorem D0 {a b:Int} (h:a≠b):B0 .eql a b=false:=by simp [B0,h]
theorem k4n {a b:Int} (h:a≠b):B0 .neq a b=true:=by simp [B0,h]
theorem w9k {a b:Int} (h:a < b):B0 .lss a b=true:=decide_eq_true h
theorem w5u {a b:Int} (h:b≤a):B0 .lss a b=false:=decide_eq_false (by omega)
theorem w5z {a b:Int} (h:b < a):B0 .gtr a b=true:=decide_eq_true h
theorem w8b {a b:Int} (h:a≤b):B0 .gtr a b=false:=decide_eq_false (by omega)
theorem w9u {a b:Int} (h:b≤a):B0 .geq a b=true:=decide_eq_true h
theorem w9v {a b:Int} (h:a < b):B0 .geq a b=false:=decide_eq_false (by omega)
theorem z7e {a b:Int} (h1:-4611686018427387904≤a∧a≤4611686018427387903) (h2:-4611686018427387904≤b∧b≤4611686018427387903):B8 .add .i64 a b=a + b:=z9s (by omega)
theorem k5w {a b:Int} (h1:-4611686018427387904≤a∧a≤4611686018427387903) (h2:-4611686018427387904≤b∧b≤4611686018427387903):B8 .sub .i64 a b=a - b:=z9s (by omega)
def p138_1 {ρ:Type} (fail:ρ) (fu:Nat) (s_p138:(Int→Int→EL→EL→Int→Int→ρ)→EL→Int→Int→Int→ρ) (K0:KT0 ρ) (rec1:EL→Int→Int→EL→Int→ρ) (a0:Int) (c0:EL) (d0 e0:Int) (f0:EL):ρ :=
 rec1 c0 d0 e0 f0 (B8 .add .i64 a0 1)
def p138_2 {ρ:Type} (fail:ρ) (fu:Nat) (s_p138:(Int→Int→EL→EL→Int→Int→ρ)→EL→Int→Int→Int→ρ) (K0:KT0 ρ) (rec1:EL→Int→Int→EL→Int→ρ) (x2 y4 j9 l0:Int) (d0:EL) (a0 e0:Int) (c0:EL) (f0:Int):ρ :=
 bif (B0 .lss f0 l0) then (bif (B0 .eql a0 0) then (s_p138 (fun g0 i0 j0 m0 n0 o0=>gd (1≤[[(CV.v (.int .i64 g0)),(CV.v (.int .i64 i0)),(CV.sl 3 j0 none)]].length) fail (gd ((c0.length + (List.take 1 [[(CV.v (.int .i64 g0)),(CV.v (.int .i64 i0)),(CV.sl 3 j0 none)]]).length) * 40≤35184372088832) fail (p138_1 fail fu s_p138 K0 rec1 f0 m0 n0 o0 (c0++(List.take 1 [[(CV.v (.int .i64 g0)),(CV.v (.int .i64 i0)),(CV.sl 3 j0 none)]]))))) d0 a0 (B8 .add .i64 x2 1) e0) else (p138_1 fail fu s_p138 K0 rec1 f0 d0 a0 e0 c0)) else (K0 y4 j9 c0 d0 a0 e0)
def p138_2L {ρ:Type} (fail:ρ) (fu:Nat) (s_p138:(Int→Int→EL→EL→Int→Int→ρ)→EL→Int→Int→Int→ρ) (K0:KT0 ρ) (x2 y4 j9 a0:Int):Nat→EL→Int→Int→EL→Int→ρ
 | 0,_,_,_,_,_=>fail
 | n + 1,c0,d0,e0,f0,g0=>p138_2 fail fu s_p138 K0 (p138_2L fail fu s_p138 K0 x2 y4 j9 a0 n) x2 y4 j9 a0 c0 d0 e0 f0 g0
def p138_3 {ρ:Type} (fail:ρ) (fu:Nat) (s_p138:(Int→Int→EL→EL→Int→Int→ρ)→EL→Int→Int→Int→ρ) (K0:KT0 ρ) (x2 y3 y4:Int) (j7:EL) (j8 j9 a0:Int):ρ :=
 p138_2L fail fu s_p138 K0 x2 y4 j9 a0 fu j7 j8 y3 nilE 0
def p138_4 {ρ:Type} (fail:ρ) (fu:Nat) (s_p138:(Int→Int→EL→EL→Int→Int→ρ)→EL→Int→Int→Int→ρ) (K0:KT0 ρ) (x2 y3 y4:Int) (a0:EL) (c0 d0 e0:Int):ρ :=
 p138_3 fail fu s_p138 K0 x2 y3 y4 a0 c0 d0 e0
def p138_5 {ρ:Type} (fail:ρ) (fu:Nat) (s_p138:(Int→Int→EL→EL→Int→Int→ρ)→EL→Int→Int→Int→ρ) (K0:KT0 ρ) (x2 y3 y4:Int) (a0:EL) (c0 d0:Int):ρ :=
 p138_4 fail fu s_p138 K0 x2 y3 y4 a0 c0 d0 0
def p138_6 {ρ:Type} (fail:ρ) (fu:Nat) (s_p138:(Int→Int→EL→EL→Int→Int→ρ)→EL→Int→Int→Int→ρ) (K0:KT0 ρ) (x2 y3 y4 a0:Int) (c0:EL) (d0:Int):ρ :=
 p138_5 fail fu s_p138 K0 x2 y3 y4 c0 d0 a0
def p138_7 {ρ:Type} (fail:ρ) (fu:Nat) (s_p138:(Int→Int→EL→EL→Int→Int→ρ)→EL→Int→Int→Int→ρ) (K0:KT0 ρ) (x2 y3 y4:Int) (y5:EL) (y6:Int) (e0:Bool):ρ :=
 bif e0 then (p138_4 fail fu s_p138 K0 x2 y3 y4 y5 y6 0 2) else (bif (B0 .eql y4 4) then (p51 fail fu (fun a0 c0 d0=>bif (B0 .geq a0 4) then (p50 fail fu (fun f0 g0=>p138_6 fail fu s_p138 K0 x2 y3 y4 a0 f0 g0) c0 d0 7) else (p138_6 fail fu s_p138 K0 x2 y3 y4 a0 c0 d0)) y5 y6) else (p138_5 fail fu s_p138 K0 x2 y3 y4 y5 y6 0))
def p138_b {ρ:Type} (fail:ρ) (fu:Nat) (s_p138:(Int→Int→EL→EL→Int→Int→ρ)→EL→Int→Int→Int→ρ) (K0:KT0 ρ) (x0:EL) (x1 x2 x3:Int):ρ :=
 p116 fail fu (fun y1 y2 y3=>bif (B0 .neq y2 0) then (K0 0 0 nilE y1 y2 y3) else (p49 fail fu (fun y4 y5 y6=>bif (B0 .eql y4 1) then (p138_3 fail fu s_p138 K0 x2 y3 y4 y5 y6 0 1) else (bif (B0 .eql y4 2) then (p138_7 fail fu s_p138 K0 x2 y3 y4 y5 y6 (B0 .eql y4 2)) else (p138_7 fail fu s_p138 K0 x2 y3 y4 y5 y6 (B0 .eql y4 3)))) y1 y2 0 4)) x0 x1 x3 64 x2 32
def p138 {ρ:Type} (fail:ρ):Nat→(Int→Int→EL→EL→Int→Int→ρ)→EL→Int→Int→Int→ρ
 | 0,_,_,_,_,_=>fail
 | n + 1,K0,x0,x1,x2,x3=>p138_b fail n (p138 fail n) K0 x0 x1 x2 x3
def p117 {ρ:Type} (fail:ρ) (fu:Nat) (K0:KT1 ρ) (x0:EL) (x1:Int):ρ :=
 p138 fail fu (fun y1 y2 y3 y4 y5 y6=>K0 y1 y2 y3 y4 y5) x0 x1 1 0
inductive Lv where
 | mk (k n:Int) (args:List Lv)
def Lv.k:Lv→Int
 | .mk k _ _=>k
def Lv.n:Lv→Int
 | .mk _ n _=>n
def Lv.args:Lv→List Lv
 | .mk _ _ l=>l
mutual
def Lv.row:Lv→List CV
 | .mk k n l=>[.v (.int .i64 k),.v (.int .i64 n),.sl 3 (Lv.rows l) none]
def Lv.rows:List Lv→EL
 | []=>[]
 | a :: l=>Lv.row a :: Lv.rows l
end
theorem Lv.row_eq (l:Lv):l.row=[.v (.int .i64 l.k),.v (.int .i64 l.n),.sl 3 (Lv.rows l.args) none]:=by cases l;rfl
theorem Lv.rows_len:∀ l:List Lv,(Lv.rows l).length=l.length
 | []=>rfl
 | _ :: l=>by simp [Lv.rows,Lv.rows_len l]
theorem Lv.rows_append:∀ a b:List Lv,Lv.rows (a++b)=Lv.rows a++Lv.rows b
 | [],_=>rfl
 | x :: a,b=>by simp [Lv.rows,Lv.rows_append a b]
theorem Lv.rows_get {l:List Lv} {i:Nat} (h:i < l.length):(Lv.rows l).getD i []=l[i].row:=by
 induction l generalizing i with
 | nil=>simp at h
 | cons a l ih=>cases i with
  | zero=>rfl
  | succ i=>simpa [Lv.rows] using ih (by simpa using h)
def many {α:Type} (f:Nat→List UInt8→Except Int (α × List UInt8 × Nat)):Nat→Nat→List UInt8→Except Int (List α × List UInt8 × Nat)
 | 0,p,bs=>.ok ([],bs,p)
 | n + 1,p,bs=>match f p bs with
  | .error e=>.error e
  | .ok (a,bs,p)=>match many f n p bs with
   | .error e=>.error e
   | .ok (l,bs,p)=>.ok (a :: l,bs,p)
def p86_1 {ρ:Type} (fail:ρ) (fu:Nat) (s_p86:(Int→Int→ByteArray→EL→EL→EL→Int→Int→ρ)→EL→Int→Int→Int→ρ) (K0:KT2 ρ) (rec2:EL→Int→Int→EL→Int→ρ) (x2 y4 j9:Int) (m0:ByteArray) (q0:Int) (n0 d0:EL) (a0 e0:Int) (c0:EL) (o0:Int):ρ :=
 bif (B0 .lss o0 q0) then (bif (B0 .neq a0 0) then (K0 y4 j9 m0 n0 c0 d0 a0 e0) else (s_p86 (fun f0 g0 i0 j0 l0 r0 s0 t0=>gd (1≤[[(CV.v (.int .i64 f0)),(CV.v (.int .i64 g0)),(CV.v (.string i0)),(CV.sl 3 j0 none),(CV.sl 5 l0 none)]].length) fail (gd ((c0.length + (List.take 1 [[(CV.v (.int .i64 f0)),(CV.v (.int .i64 g0)),(CV.v (.string i0)),(CV.sl 3 j0 none),(CV.sl 5 l0 none)]]).length) * 80≤35184372088832) fail (rec2 r0 s0 t0 (c0++(List.take 1 [[(CV.v (.int .i64 f0)),(CV.v (.int .i64 g0)),(CV.v (.string i0)),(CV.sl 3 j0 none),(CV.sl 5 l0 none)]])) (B8 .add .i64 o0 1)))) d0 a0 (B8 .add .i64 x2 1) e0)) else (K0 y4 j9 m0 n0 c0 d0 a0 e0)
def p86_1L {ρ:Type} (fail:ρ) (fu:Nat) (s_p86:(Int→Int→ByteArray→EL→EL→EL→Int→Int→ρ)→EL→Int→Int→Int→ρ) (K0:KT2 ρ) (x2 y4 j9:Int) (a0:ByteArray) (c0:Int) (d0:EL):Nat→EL→Int→Int→EL→Int→ρ
 | 0,_,_,_,_,_=>fail
 | n + 1,e0,f0,g0,i0,j0=>p86_1 fail fu s_p86 K0 (p86_1L fail fu s_p86 K0 x2 y4 j9 a0 c0 d0 n) x2 y4 j9 a0 c0 d0 e0 f0 g0 i0 j0
def p86_2 {ρ:Type} (fail:ρ) (fu:Nat) (s_p86:(Int→Int→ByteArray→EL→EL→EL→Int→Int→ρ)→EL→Int→Int→Int→ρ) (K0:KT2 ρ) (rec1:EL→Int→EL→Int→ρ) (x2 y3 y4 j9:Int) (i0:ByteArray) (l0 m0:Int) (d0:EL) (a0:Int) (c0:EL) (j0:Int):ρ :=
 bif (B0 .lss j0 m0) then (bif (B0 .neq a0 0) then (K0 y4 j9 i0 c0 nilE d0 a0 y3) else (p117 fail fu (fun e0 f0 g0 n0 o0=>gd (1≤[[(CV.v (.int .i64 e0)),(CV.v (.int .i64 f0)),(CV.sl 3 g0 none)]].length) fail (gd ((c0.length + (List.take 1 [[(CV.v (.int .i64 e0)),(CV.v (.int .i64 f0)),(CV.sl 3 g0 none)]]).length) * 40≤35184372088832) fail (rec1 n0 o0 (c0++(List.take 1 [[(CV.v (.int .i64 e0)),(CV.v (.int .i64 f0)),(CV.sl 3 g0 none)]])) (B8 .add .i64 j0 1)))) d0 a0)) else (p86_1L fail fu s_p86 K0 x2 y4 j9 i0 l0 c0 fu d0 a0 y3 nilE 0)
def p86_2L {ρ:Type} (fail:ρ) (fu:Nat) (s_p86:(Int→Int→ByteArray→EL→EL→EL→Int→Int→ρ)→EL→Int→Int→Int→ρ) (K0:KT2 ρ) (x2 y3 y4 j9:Int) (a0:ByteArray) (c0 d0:Int):Nat→EL→Int→EL→Int→ρ
 | 0,_,_,_,_=>fail
 | n + 1,e0,f0,g0,i0=>p86_2 fail fu s_p86 K0 (p86_2L fail fu s_p86 K0 x2 y3 y4 j9 a0 c0 d0 n) x2 y3 y4 j9 a0 c0 d0 e0 f0 g0 i0
def p86_3 {ρ:Type} (fail:ρ) (fu:Nat) (s_p86:(Int→Int→ByteArray→EL→EL→EL→Int→Int→ρ)→EL→Int→Int→Int→ρ) (K0:KT2 ρ) (x2 y3 y4:Int) (j7:EL) (j8 j9:Int) (a0:ByteArray) (c0 d0:Int):ρ :=
 p86_2L fail fu s_p86 K0 x2 y3 y4 j9 a0 c0 d0 fu j7 j8 nilE 0
def p86_4 {ρ:Type} (fail:ρ) (fu:Nat) (s_p86:(Int→Int→ByteArray→EL→EL→EL→Int→Int→ρ)→EL→Int→Int→Int→ρ) (K0:KT2 ρ) (x2 y3 y4:Int) (a0:EL) (c0:Int) (d0:ByteArray) (e0 f0:Int):ρ :=
 p86_3 fail fu s_p86 K0 x2 y3 y4 a0 c0 0 d0 e0 f0
def p86_5 {ρ:Type} (fail:ρ) (fu:Nat) (s_p86:(Int→Int→ByteArray→EL→EL→EL→Int→Int→ρ)→EL→Int→Int→Int→ρ) (K0:KT2 ρ) (x2 y3 y4:Int) (a0:EL) (c0:Int) (d0:ByteArray) (e0 f0:Int):ρ :=
 p86_4 fail fu s_p86 K0 x2 y3 y4 a0 c0 d0 e0 f0
def p86_6 {ρ:Type} (fail:ρ) (fu:Nat) (s_p86:(Int→Int→ByteArray→EL→EL→EL→Int→Int→ρ)→EL→Int→Int→Int→ρ) (K0:KT2 ρ) (x2 y3 y4:Int) (a0:ByteArray) (c0:Int) (d0:EL) (e0:Int):ρ :=
 p86_5 fail fu s_p86 K0 x2 y3 y4 d0 e0 a0 0 c0
def p86_7 {ρ:Type} (fail:ρ) (fu:Nat) (s_p86:(Int→Int→ByteArray→EL→EL→EL→Int→Int→ρ)→EL→Int→Int→Int→ρ) (K0:KT2 ρ) (x2 y3 y4:Int) (y5:EL) (y6 a0:Int):ρ :=
 p86_5 fail fu s_p86 K0 x2 y3 y4 y5 y6 ⟨#[]⟩ a0 0
def p86_b {ρ:Type} (fail:ρ) (fu:Nat) (s_p86:(Int→Int→ByteArray→EL→EL→EL→Int→Int→ρ)→EL→Int→Int→Int→ρ) (K0:KT2 ρ) (x0:EL) (x1 x2 x3:Int):ρ :=
 p116 fail fu (fun y1 y2 y3=>bif (B0 .neq y2 0) then (K0 0 0 ⟨#[]⟩ nilE nilE y1 y2 y3) else (p49 fail fu (fun y4 y5 y6=>bif (B0 .eql y4 0) then (p51 fail fu (fun f0 g0 i0=>p86_3 fail fu s_p86 K0 x2 y3 y4 g0 i0 f0 ⟨#[]⟩ 0 0) y5 y6) else (bif (B0 .eql y4 1) then (p86_4 fail fu s_p86 K0 x2 y3 y4 y5 y6 ⟨#[]⟩ 0 1) else (bif (B0 .eql y4 2) then (p55 fail fu (fun j0 l0 m0=>z6z fail j0 (fun c0=>p51 fail fu (fun a0 d0 e0=>bif (B0 .gtr a0 4) then (p50 fail fu (fun n0 o0=>p86_6 fail fu s_p86 K0 x2 y3 y4 c0 a0 n0 o0) d0 e0 7) else (p86_6 fail fu s_p86 K0 x2 y3 y4 c0 a0 d0 e0)) l0 m0)) y5 y6 24) else (bif (B0 .eql y4 6) then (p86_7 fail fu s_p86 K0 x2 y3 y4 y5 y6 3) else (p86_7 fail fu s_p86 K0 x2 y3 y4 y5 y6 2))))) y1 y2 0 6)) x0 x1 x3 2000 x2 100
def p86 {ρ:Type} (fail:ρ):Nat→(Int→Int→ByteArray→EL→EL→EL→Int→Int→ρ)→EL→Int→Int→Int→ρ
 | 0,_,_,_,_,_=>fail
 | n + 1,K0,x0,x1,x2,x3=>p86_b fail n (p86 fail n) K0 x0 x1 x2 x3
def p54 {ρ:Type} (fail:ρ) (fu:Nat) (K0:KT3 ρ) (x0:EL) (x1:Int):ρ :=
 p86 fail fu (fun y1 y2 y3 y4 y5 y6 y7 y8=>K0 y1 y2 y3 y4 y5 y6 y7) x0 x1 1 0
inductive Tm where
 | mk (k n:Int) (nm:ByteArray) (ls:List Lv) (args:List Tm)
def Tm.k:Tm→Int
 | .mk k _ _ _ _=>k
def Tm.n:Tm→Int
 | .mk _ n _ _ _=>n
def Tm.nm:Tm→ByteArray
 | .mk _ _ s _ _=>s
def Tm.ls:Tm→List Lv
 | .mk _ _ _ l _=>l
def Tm.args:Tm→List Tm
 | .mk _ _ _ _ l=>l
mutual
def Tm.row:Tm→List CV
 | .mk k n s l a=>[.v (.int .i64 k),.v (.int .i64 n),.v (.string s),.sl 3 (Lv.rows l) none,.sl 5 (Tm.rows a) none]
def Tm.rows:List Tm→EL
 | []=>[]
 | a :: l=>Tm.row a :: Tm.rows l
end
theorem Tm.row_eq (t:Tm):t.row=[.v (.int .i64 t.k),.v (.int .i64 t.n),.v (.string t.nm),.sl 3 (Lv.rows t.ls) none,.sl 5 (Tm.rows t.args) none]:=by cases t;rfl
theorem Tm.rows_len:∀ l:List Tm,(Tm.rows l).length=l.length
 | []=>rfl
 | _ :: l=>by simp [Tm.rows,Tm.rows_len l]
theorem Tm.rows_append:∀ a b:List Tm,Tm.rows (a++b)=Tm.rows a++Tm.rows b
 | [],_=>rfl
 | x :: a,b=>by simp [Tm.rows,Tm.rows_append a b]
theorem Tm.rows_get {l:List Tm} {i:Nat} (h:i < l.length):(Tm.rows l).getD i []=l[i].row:=by
 induction l generalizing i with
 | nil=>simp at h
 | cons a l ih=>cases i with
  | zero=>rfl
  | succ i=>simpa [Tm.rows] using ih (by simpa using h)
abbrev TK8 (ρ:Type):=Int→Int→ByteArray→EL→EL→EL→Int→Int→ρ
section
variable {ρ:Type} (fail:ρ) (fu:Nat) (s:TK8 ρ→EL→Int→Int→Int→ρ)
end
def p99 {ρ:Type} (fail:ρ) (fu:Nat) (K0:EL→ρ) (x0:EL) (x1:Int):ρ :=
 gd ((0:Int)≤0) fail (gd ((0:Int)≤(B8 .add .i64 ((x0.length:Nat):Int) x1)) fail (gd ((B8 .add .i64 ((x0.length:Nat):Int) x1:Int) * (1:Nat)≤70368744177664) fail (gd (((0:Int).toNat)=(List.replicate ((0:Int).toNat) [(CV.v (.int .u8 0))]).length) fail (gd (((List.replicate ((0:Int).toNat) [(CV.v (.int .u8 0))]).length + x0.length) * 1≤35184372088832) fail (K0 ((List.replicate ((0:Int).toNat) [(CV.v (.int .u8 0))])++x0))))))
def p98_1 {ρ:Type} (fail:ρ) (fu:Nat) (K0:EL→ρ) (rec1:Int→EL→ρ) (z2:Int) (z3:EL):ρ :=
 bif (B0 .geq z2 128) then (gd (1≤[[(CV.v (.int .u8 (B8 .or .u8 (IntKind.u8.wrap z2) 128)))]].length) fail (gd ((z3.length + (List.take 1 [[(CV.v (.int .u8 (B8 .or .u8 (IntKind.u8.wrap z2) 128)))]]).length) * 1≤35184372088832) fail (gd ((0:Int)≤7) fail (rec1 (B8 .shr .u64 z2 7) (z3++(List.take 1 [[(CV.v (.int .u8 (B8 .or .u8 (IntKind.u8.wrap z2) 128)))]])))))) else (gd (1≤[[(CV.v (.int .u8 (IntKind.u8.wrap z2)))]].length) fail (gd ((z3.length + (List.take 1 [[(CV.v (.int .u8 (IntKind.u8.wrap z2)))]]).length) * 1≤35184372088832) fail (K0 (z3++(List.take 1 [[(CV.v (.int .u8 (IntKind.u8.wrap z2)))]])))))
def p98_1L {ρ:Type} (fail:ρ) (fu:Nat) (K0:EL→ρ):Nat→Int→EL→ρ
 | 0,_,_=>fail
 | n + 1,z2,z3=>p98_1 fail fu K0 (p98_1L fail fu K0 n) z2 z3
def p98 {ρ:Type} (fail:ρ) (fu:Nat) (K0:EL→ρ) (x0:EL) (x1:Int):ρ :=
 p99 fail fu (fun y1=>p98_1L fail fu K0 fu x1 y1) x0 10
def p71 {ρ:Type} (fail:ρ) (fu:Nat) (K0:EL→ρ) (x0:EL) (x1:Int):ρ :=
 p98 fail fu (fun y1=>gd ((x0.length + y1.length) * 1≤35184372088832) fail (K0 (x0++y1))) nilE x1
def p33_1 {ρ:Type} (fail:ρ) (fu:Nat) (K0:EL→ρ) (rec1:EL→Int→Int→ρ) (x1 z1:EL) (z2 z3:Int):ρ :=
 bif (B0 .lss z3 z2) then (gd (0≤z3) fail (gd (z3 < x1.length) fail (w3e fail (List.getD x1 (z3.toNat) []) (fun c4=>p71 fail fu (fun y5=>rec1 y5 z2 (B8 .add .i64 z3 1)) z1 (IntKind.u64.wrap c4))))) else (K0 z1)
def p33_1L {ρ:Type} (fail:ρ) (fu:Nat) (K0:EL→ρ) (x1:EL):Nat→EL→Int→Int→ρ
 | 0,_,_,_=>fail
 | n + 1,z1,z2,z3=>p33_1 fail fu K0 (p33_1L fail fu K0 x1 n) x1 z1 z2 z3
def p33 {ρ:Type} (fail:ρ) (fu:Nat) (K0:EL→ρ) (x0 x1:EL):ρ :=
 p33_1L fail fu K0 x1 fu x0 ((x1.length:Nat):Int) 0
def p37 {ρ:Type} (fail:ρ) (fu:Nat) (K0:EL→ρ) (x0 x1:EL):ρ :=
 p71 fail fu (fun y1=>gd ((y1.length + x1.length) * 1≤35184372088832) fail (K0 (y1++x1))) x0 (IntKind.u64.wrap ((x1.length:Nat):Int))
def p73_1 {ρ:Type} (fail:ρ) (fu:Nat) (s_p73:(EL→ρ)→EL→Int→Int→EL→ρ) (K0:EL→ρ) (rec1:EL→Int→Int→ρ) (x3 z3:EL) (z4 z5:Int):ρ :=
 bif (B0 .lss z5 z4) then (gd (0≤z5) fail (gd (z5 < x3.length) fail (G4 fail (List.getD x3 (z5.toNat) []) (fun c6 c7 c8=>s_p73 (fun y9=>rec1 y9 z4 (B8 .add .i64 z5 1)) z3 c6 c7 c8)))) else (K0 z3)
def p73_1L {ρ:Type} (fail:ρ) (fu:Nat) (s_p73:(EL→ρ)→EL→Int→Int→EL→ρ) (K0:EL→ρ) (x3:EL):Nat→EL→Int→Int→ρ
 | 0,_,_,_=>fail
 | n + 1,z3,z4,z5=>p73_1 fail fu s_p73 K0 (p73_1L fail fu s_p73 K0 x3 n) x3 z3 z4 z5
def p73_2 {ρ:Type} (fail:ρ) (fu:Nat) (s_p73:(EL→ρ)→EL→Int→Int→EL→ρ) (K0:EL→ρ) (x3 j2:EL):ρ :=
 p73_1L fail fu s_p73 K0 x3 fu j2 ((x3.length:Nat):Int) 0
def p73_b {ρ:Type} (fail:ρ) (fu:Nat) (s_p73:(EL→ρ)→EL→Int→Int→EL→ρ) (K0:EL→ρ) (x0:EL) (x1 x2:Int) (x3:EL):ρ :=
 gd (1≤[[(CV.v (.int .i64 x1))]].length) fail (p33 fail fu (fun y1=>bif (B0 .eql x1 4) then (gd (1≤[[(CV.v (.int .i64 x2))]].length) fail (p33 fail fu (fun a0=>p73_2 fail fu s_p73 K0 x3 a0) y1 (List.take 1 [[(CV.v (.int .i64 x2))]]))) else (p73_2 fail fu s_p73 K0 x3 y1)) x0 (List.take 1 [[(CV.v (.int .i64 x1))]]))
def p73 {ρ:Type} (fail:ρ):Nat→(EL→ρ)→EL→Int→Int→EL→ρ
 | 0,_,_,_,_,_=>fail
 | n + 1,K0,x0,x1,x2,x3=>p73_b fail n (p73 fail n) K0 x0 x1 x2 x3
def p36_1 {ρ:Type} (fail:ρ) (fu:Nat) (s_p36:(EL→ρ)→EL→Int→Int→ByteArray→EL→EL→ρ) (K0:EL→ρ) (rec2:EL→Int→Int→ρ) (x5 c0:EL) (d0 a0:Int):ρ :=
 bif (B0 .lss a0 d0) then (gd (0≤a0) fail (gd (a0 < x5.length) fail (E0 fail (List.getD x5 (a0.toNat) []) (fun e0 f0 g0 i0 j0=>s_p36 (fun l0=>rec2 l0 d0 (B8 .add .i64 a0 1)) c0 e0 f0 g0 i0 j0)))) else (K0 c0)
def p36_1L {ρ:Type} (fail:ρ) (fu:Nat) (s_p36:(EL→ρ)→EL→Int→Int→ByteArray→EL→EL→ρ) (K0:EL→ρ) (x5:EL):Nat→EL→Int→Int→ρ
 | 0,_,_,_=>fail
 | n + 1,a0,c0,d0=>p36_1 fail fu s_p36 K0 (p36_1L fail fu s_p36 K0 x5 n) x5 a0 c0 d0
def p36_2 {ρ:Type} (fail:ρ) (fu:Nat) (s_p36:(EL→ρ)→EL→Int→Int→ByteArray→EL→EL→ρ) (K0:EL→ρ) (rec1:EL→Int→Int→ρ) (x4 x5 z3:EL) (z4 z5:Int):ρ :=
 bif (B0 .lss z5 z4) then (gd (0≤z5) fail (gd (z5 < x4.length) fail (G4 fail (List.getD x4 (z5.toNat) []) (fun c6 c7 c8=>p73 fail fu (fun y9=>rec1 y9 z4 (B8 .add .i64 z5 1)) z3 c6 c7 c8)))) else (p36_1L fail fu s_p36 K0 x5 fu z3 ((x5.length:Nat):Int) 0)
def p36_2L {ρ:Type} (fail:ρ) (fu:Nat) (s_p36:(EL→ρ)→EL→Int→Int→ByteArray→EL→EL→ρ) (K0:EL→ρ) (x4 x5:EL):Nat→EL→Int→Int→ρ
 | 0,_,_,_=>fail
 | n + 1,z3,z4,z5=>p36_2 fail fu s_p36 K0 (p36_2L fail fu s_p36 K0 x4 x5 n) x4 x5 z3 z4 z5
def p36_3 {ρ:Type} (fail:ρ) (fu:Nat) (s_p36:(EL→ρ)→EL→Int→Int→ByteArray→EL→EL→ρ) (K0:EL→ρ) (x4 x5 j2:EL):ρ :=
 p36_2L fail fu s_p36 K0 x4 x5 fu j2 ((x4.length:Nat):Int) 0
def p36_4 {ρ:Type} (fail:ρ) (fu:Nat) (s_p36:(EL→ρ)→EL→Int→Int→ByteArray→EL→EL→ρ) (K0:EL→ρ) (x4 x5 a0:EL):ρ :=
 p36_3 fail fu s_p36 K0 x4 x5 a0
def p36_b {ρ:Type} (fail:ρ) (fu:Nat) (s_p36:(EL→ρ)→EL→Int→Int→ByteArray→EL→EL→ρ) (K0:EL→ρ) (x0:EL) (x1 x2:Int) (x3:ByteArray) (x4 x5:EL):ρ :=
 gd (1≤[[(CV.v (.int .i64 x1))]].length) fail (p33 fail fu (fun y1=>bif (B0 .eql x1 0) then (gd (1≤[[(CV.v (.int .i64 x2))]].length) fail (p33 fail fu (fun a0=>p36_3 fail fu s_p36 K0 x4 x5 a0) y1 (List.take 1 [[(CV.v (.int .i64 x2))]]))) else (bif (B0 .eql x1 2) then (gd (x3.size≤(E8 x3.data.toList).length) fail (p37 fail fu (fun c0=>gd (1≤[[(CV.v (.int .i64 ((x4.length:Nat):Int)))]].length) fail (p33 fail fu (fun d0=>p36_4 fail fu s_p36 K0 x4 x5 d0) c0 (List.take 1 [[(CV.v (.int .i64 ((x4.length:Nat):Int)))]]))) y1 (List.take x3.size (E8 x3.data.toList)))) else (p36_4 fail fu s_p36 K0 x4 x5 y1))) x0 (List.take 1 [[(CV.v (.int .i64 x1))]]))
def p36 {ρ:Type} (fail:ρ):Nat→(EL→ρ)→EL→Int→Int→ByteArray→EL→EL→ρ
 | 0,_,_,_,_,_,_,_=>fail
 | n + 1,K0,x0,x1,x2,x3,x4,x5=>p36_b fail n (p36 fail n) K0 x0 x1 x2 x3 x4 x5
def txB (s:ByteArray):List UInt8:=w2q s.size++s.data.toList
mutual
def Lv.enc:Lv→List UInt8
 | .mk k n l=>w2q (uv k)++((if k=4 then w2q (uv n) else [])++Lv.encs l)
def Lv.encs:List Lv→List UInt8
 | []=>[]
 | a :: l=>Lv.enc a++Lv.encs l
end
mutual
def Lv.sz:Lv→Nat
 | .mk _ _ l=>1 + Lv.szs l
def Lv.szs:List Lv→Nat
 | []=>0
 | a :: l=>1 + Lv.sz a + Lv.szs l
end
theorem Lv.szs_len:∀ l:List Lv,l.length≤Lv.szs l
 | []=>Nat.zero_le _
 | a :: l=>by have:=Lv.szs_len l;simp only [Lv.szs,List.length_cons];omega
theorem w7u {ρ:Type} (fail:ρ) (l:List Lv) (i:Nat) (h:i < l.length) (k:Int→Int→EL→ρ):G4 fail (List.getD (Lv.rows l) (((i:Nat):Int)).toNat []) k=k l[i].k l[i].n (Lv.rows l[i].args):=by
 rw [Int.toNat_natCast,Lv.rows_get h,Lv.row_eq];rfl
theorem Lv.szs_mem:∀ {l:List Lv} {a:Lv},a ∈ l→1 + a.sz≤Lv.szs l
 | b :: l,a,h=>by
  simp only [Lv.szs]
  rcases List.mem_cons.1 h with rfl | h
  ·omega
  ·have:=Lv.szs_mem h;omega
mutual
def Tm.enc:Tm→List UInt8
 | .mk k n s l a=>w2q (uv k)++((if k=0 then w2q (uv n) else if k=2 then txB s++w2q l.length else [])++(Lv.encs l++Tm.encs a))
def Tm.encs:List Tm→List UInt8
 | []=>[]
 | a :: l=>Tm.enc a++Tm.encs l
end
mutual
def Tm.sz:Tm→Nat
 | .mk _ _ s l a=>1 + s.size + Lv.szs l + Tm.szs a
def Tm.szs:List Tm→Nat
 | []=>0
 | a :: l=>1 + Tm.sz a + Tm.szs l
end
theorem Tm.szs_len:∀ l:List Tm,l.length≤Tm.szs l
 | []=>Nat.zero_le _
 | a :: l=>by have:=Tm.szs_len l;simp only [Tm.szs,List.length_cons];omega
theorem Tm.szs_mem:∀ {l:List Tm} {a:Tm},a ∈ l→1 + a.sz≤Tm.szs l
 | b :: l,a,h=>by
  simp only [Tm.szs]
  rcases List.mem_cons.1 h with rfl | h
  ·omega
  ·have:=Tm.szs_mem h;omega
theorem w2r {ρ:Type} (fail:ρ) (l:List Tm) (i:Nat) (h:i < l.length) (k:Int→Int→ByteArray→EL→EL→ρ):E0 fail (List.getD (Tm.rows l) (((i:Nat):Int)).toNat []) k=k l[i].k l[i].n l[i].nm (Lv.rows l[i].ls) (Tm.rows l[i].args):=by
 rw [Int.toNat_natCast,Tm.rows_get h,Tm.row_eq];rfl
def tm0:Tm:=.mk 0 0 ⟨#[]⟩ [] []
end Go.Proofs.YtioiigabeoaneaaGreat
