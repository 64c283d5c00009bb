/- A part of the proof. Conditions: none. -/
import Derived.Test.YtioiigabeoaneaaRQ3
import Derived.IntWalk
import Derived.Laws.Bits64
import GoSem.ClaimChange
namespace Go.Proofs.Ytioiigabeoaneaa.V
open Go Go.RowKit
section
variable {P:Program} {T:Tab} {X:Ctx}
theorem z3w (hT:TabOk P T) {S:Area} {pl:Place} {w:World} {m:Mem} {tm:List AV} {a:Act} (hs:St X S pl w m) (h:TmR S pl w m tm a):∀ (rs:List ResultVar) {K:List AV→Prop},z2q T tm m rs K →
  ∃ xs us,K xs∧us.length=xs.length∧(rs.mapM fun r=>(match r with | .tmp t=>pure (a.tmps.getD t undef) | .cell ad t=>do loadVar t (← asAddr (a.tmps.getD ad undef)):Sem Value)).run P w=.ok us w∧∀ (j:Nat) x u,xs[j]?=some x→us[j]?=some u→RelV S pl w m x u
 | [],K,hk=>⟨[],[],hk,rfl,rfl,fun j x u hx=>by simp at hx⟩
 | .tmp t :: rs,K,hk=>by
  obtain⟨xs,us,h1,h2,h3,h4⟩:=z3w hT hs h rs hk
  refine⟨_,a.tmps.getD t undef :: us,h1,by simp [h2],?_,fun j x u hx hu=>?_⟩
  ·rw [List.mapM_cons]
   simp only [Sem.run_bind,Sem.run_pure,Result.andThen_ok,h3]
  ·cases j with
   | succ j=>exact h4 j x u (by simpa using hx) (by simpa using hu)
   | zero=>simp at hx hu;subst hx hu;have:=z0l (T:=T) hs h 0 (.tmp t);simpa [evO,Act.eval] using this
 | .cell ad t :: rs,K,hk=>by
  simp only [z2q] at hk
  split at hk
  ·exact hk.elim
  ·rename_i s hs2
   obtain⟨u,y,h1,h2,h3⟩:=z7u (P:=P) (K:=fun x _=>z2q T tm m rs fun l=>K (x :: l)) hT hs hs2 (z0l (T:=T) hs h 0 (.tmp ad)) hk
   obtain⟨xs,us,g1,g2,g3,g4⟩:=z3w hT hs h rs h2
   have hrun:(do loadVar t (← asAddr (a.tmps.getD ad undef)):Sem Value).run P w=.ok u w:=by
    simp only [Act.eval] at h1
    generalize a.tmps.getD ad undef=q at h1 ⊢
    cases q with
    | pointer p =>
     cases p with
     | some p=>exact h1
     | none=>simp [Instr.loadAt,Instr.sureAddr,stuck] at h1
    | _=>simp [Instr.loadAt,Instr.sureAddr,stuck] at h1
   refine⟨y :: xs,u :: us,g1,by simp [g2],?_,fun j x v hx hu=>?_⟩
   ·rw [List.mapM_cons]
    simp only [Sem.run_bind] at hrun ⊢
    simp only [hrun,Result.andThen_ok,g3,Sem.run_pure]
   ·cases j with
    | succ j=>exact g4 j x v (by simpa using hx) (by simpa using hu)
    | zero=>simp at hx hu;subst hx hu;exact h3
def oneV:List Value→Value
 | [u]=>u
 | l=>.tuple l.toArray
theorem w4j {fn:Func} {a:Act} {w:World} {us:List Value} (h:(fn.results.toList.mapM fun r=>(match r with | .tmp t=>pure (a.tmps.getD t undef) | .cell ad t=>do loadVar t (← asAddr (a.tmps.getD ad undef)):Sem Value)).run P w=.ok us w) :
  (results fn a.tmps).run P w=.ok (oneV us) w:=by
 unfold results
 rw [Array.mapM_eq_mapM_toList]
 simp only [Sem.run_bind,Sem.run_map]
 generalize hq:Sem.run P (List.mapM _ _) w=q
 have hq2:q=.ok us w:=hq.symm.trans h
 subst hq2
 simp only [Result.andThen_ok,Sem.run_pure]
 match us with
 | []=>rfl
 | [u]=>rfl
 | u :: v :: r=>simp [oneV]
theorem z5v {w:World}:∀ (os:List OV) (xs:List AV) (us:List Value) {S:Area} {pl:Place} {m:Mem} {K:List OV→Mem→Prop},St X S pl w m→os.length=us.length→(∀ (j:Nat) x u,xs[j]?=some x→us[j]?=some u→RelV S pl w m x u)→outsW m os xs K →
  ∃ S' bs m' F,K bs m'∧OwnP S' w F os us bs∧Packed X S S' pl w m m' F
 | [],_,[],S,pl,m,K,h,_,_,hk=>⟨S,[],m,_,by simpa only [outsW] using hk,.nil,⟨h,Keeps.refl _ _ _ _,Shrinks.refl _ _ _,fun _ _ q=>q.elim,fun _ _ q=>q.elim⟩⟩
 | [],_,_ :: _,_,_,_,_,_,hl,_,_=>by simp at hl
 | _ :: _,_,[],_,_,_,_,_,hl,_,_=>by simp at hl
 | o :: os,xs,u :: us,S,pl,m,K,h,hl,hr,hk=>by
  have skip:(∀ cs,o≠.ptr cs)→(outsW m os xs.tail fun l m=>K (o :: l) m)→∃ S' bs m' F,K bs m'∧OwnP S' w F (o :: os) (u :: us) bs∧Packed X S S' pl w m m' F:=fun hn hk=>by
   obtain⟨S',bs,m',F,h1,h2,h3⟩:=z5v os xs.tail us h (by simpa using hl) (fun j x v hx hv=>hr (j + 1) x v (by rw [List.getElem?_tail] at hx;exact hx) (by simpa using hv)) hk
   exact⟨S',_,m',F,h1,.skip o o u os us bs F hn h2,h3⟩
  cases o with
  | ptr cs0 =>
   cases xs with
   | nil=>simp [outsW] at hk
   | cons x xs =>
    cases x with
    | p id ver off =>
     cases off with
     | succ off=>simp [outsW] at hk
     | zero =>
      simp only [outsW] at hk
      split at hk
      ·rename_i v cs hg
       obtain⟨rfl,hk⟩:=hk
       have hrel:=hr 0 _ u rfl rfl
       cases hrel with | p _ _ _ b q hv hrel =>
       obtain⟨_,hb⟩:=hrel _ hg rfl
       obtain⟨hv',h1,h2,hrow⟩:=h.inv.ob id _ hg
       obtain⟨vs,hul,huc,hur⟩:=hrow.list
       have hb1:(pl id).1=b:=by rw [← hb]
       have hb2:(pl id).2=q:=by rw [← hb]
       obtain⟨hst,hkp⟩:=h.del id
       obtain⟨f1,f2⟩:=w1q h.inv hg
       obtain⟨hlive,_⟩:=z4b (w5n depth) cs hk
       obtain⟨S1,ps,m1,F1,hk1,ho,hp⟩:=z2h (z4k depth) cs vs hst hul (fun j x u hx hu=>(hur j x u hx hu).mono hkp) hk
       have hreg:∀ b' o',(b'=b∧q≤o'∧o' < q + vs.length)→(Ob.blk v cs).foot (pl id) b' o':=fun b' o' ⟨q1,q2,q3⟩=>by
        have hj:o' - q < cs.length:=by omega
        have hx:cs[o' - q]?=some cs[o' - q]:=List.getElem?_eq_getElem hj
        exact⟨by rw [q1,hb1],o' - q,_,hx,hlive _ (List.mem_of_getElem? hx),by rw [hb2];omega⟩
       rw [hb1] at h1 h2 huc
       rw [hb2] at huc
       have hown:Own S1 w _ (.ptr ps) (.pointer (some ⟨b,q,none⟩)):=.ptr ps vs b q F1 ho h1 h2 huc (fun b' o' q1 q2=>(f2 b' o' (hreg b' o' q2)).2 (hp.off b' o' q1).1)
       have kp1:=hkp.trans hp.kp
       obtain⟨S2,bs,m2,F2,hk2,ho2,p2⟩:=z5v os xs us hp.st (by simpa using hl) (fun j x v hx hv=>(hr (j + 1) x v (by simpa using hx) (by simpa using hv)).mono kp1) hk1
       have hoff:∀ b' o',(F1 b' o'∨b'=b∧q≤o'∧o' < q + vs.length)→Feet pl m b' o'∧¬ Feet pl m1 b' o'∧¬ S1 b' o':=fun b' o' q1=>by
        rcases q1 with q1 | q1
        ·exact⟨f1 _ _ (hp.off b' o' q1).1,(hp.off b' o' q1).2,hp.no b' o' q1⟩
        ·obtain⟨g1,g2⟩:=f2 b' o' (hreg b' o' q1)
         exact⟨g1,fun q'=>g2 (hp.sh.feet _ _ q'),fun hs=>(hp.sh.grow b' o' hs).elim (h.inv.free id _ hg b' o' (hreg b' o' q1)) g2⟩
       refine⟨S2,_,m2,_,hk2,.ptr cs0 ps _ os us bs _ F2 (hown.keep (p2.still _)) ho2 (fun b' o' q1 q2=>(hoff b' o' q1).2.1 (p2.off b' o' q2).1),p2.st,kp1.trans p2.kp,⟨fun b' o' hs=>?_,fun b' o' hf=>f1 _ _ (hp.sh.feet _ _ (p2.sh.feet _ _ hf))⟩,fun b' o' q1=>?_,fun b' o' q1=>?_⟩
       ·rcases p2.sh.grow b' o' hs with g | g
        ·exact (hp.sh.grow b' o' g).imp (fun q=>q) (f1 b' o')
        ·exact .inr (f1 _ _ (hp.sh.feet _ _ g))
       ·rcases q1 with q1 | q1
        ·exact⟨(hoff b' o' q1).1,fun q'=>(hoff b' o' q1).2.1 (p2.sh.feet _ _ q')⟩
        ·exact⟨f1 _ _ (hp.sh.feet _ _ (p2.off b' o' q1).1),(p2.off b' o' q1).2⟩
       ·rcases q1 with q1 | q1
        ·exact fun hs=>(p2.sh.grow b' o' hs).elim (hoff b' o' q1).2.2 (hoff b' o' q1).2.1
        ·exact p2.no b' o' q1
      ·exact hk.elim
    | _=>simp [outsW] at hk
  | c y=>exact skip (by simp) (by simpa only [outsW] using hk)
  | arr sz es cap pub n=>exact skip (by simp) (by simpa only [outsW] using hk)
  | agg cs=>exact skip (by simp) (by simpa only [outsW] using hk)
  | tup cs=>exact skip (by simp) (by simpa only [outsW] using hk)
theorem w8g {S:Area} {pl:Place} {w:World} {m:Mem}:∀ (xs:List AV) (us:List Value),us.length=xs.length→(∀ (j:Nat) x u,xs[j]?=some x→us[j]?=some u→RelV S pl w m x u)→RelV S pl w m (oneOf xs) (oneV us)
 | [],[],h,hr=>.tup [] [] h hr
 | [x],[u],_,hr=>hr 0 x u rfl rfl
 | x :: y :: r,u :: v :: s,h,hr=>.tup _ _ h hr
 | [],_ :: _,h,_=>by simp at h
 | _ :: _,[],h,_=>by simp at h
 | [_],_ :: _ :: _,h,_=>by simp at h
 | _ :: _ :: _,[_],h,_=>by simp at h
theorem w4g {S:Area} {pl:Place} {w:World} {m:Mem} (h:St X S pl w m) {x:AV} {u:Value} (hr:RelV S pl w m x u) {K:AV→Mem→Prop} (hk:shutA m x K) :
  ∃ S' y m',K y m'∧RelV S' pl w m' y u∧St X S' pl w m'∧Keeps S S' pl pl w w m m':=by
 cases x with
 | agg cs =>
  cases hr with | agg _ us hl hr =>
  obtain⟨S',ys,m',h1,h2,h3,h4,h5⟩:=z5a cs us h hl hr hk
  refine⟨S',_,m',h1,.agg _ us (by simp [h2,hl]) (fun i x u hx hu=>?_),h4,h5⟩
  rw [List.getElem?_map] at hx
  cases hy:ys[i]? with
  | none=>rw [hy] at hx;simp at hx
  | some y=>rw [hy] at hx;simp at hx;subst hx;exact .c _ _ (h3 i y u hy hu)
 | c x=>cases hr with | c _ _ hr=>exact⟨S,_,m,hk,.c _ _ hr.norm,h,Keeps.refl _ _ _ _⟩
 | t id ver n =>
  obtain⟨S',y,m',h1,h2,h3,h4⟩:=w3s (K:=fun y m=>K (.c y) m) h hr hk
  exact⟨S',_,m',h1,.c _ _ h2,h3,h4⟩
 | p=>exact⟨S,_,m,hk,hr,h,Keeps.refl _ _ _ _⟩
 | tp=>exact⟨S,_,m,hk,hr,h,Keeps.refl _ _ _ _⟩
 | tup=>exact⟨S,_,m,hk,hr,h,Keeps.refl _ _ _ _⟩
 | dead=>exact⟨S,_,m,hk,hr,h,Keeps.refl _ _ _ _⟩
theorem z7q {w:World}:∀ (xs:List AV) (us:List Value) {S:Area} {pl:Place} {m:Mem} (_:St X S pl w m) (_:us.length=xs.length) (_:∀ (j:Nat) x u,xs[j]?=some x→us[j]?=some u→RelV S pl w m x u)
  {K:List AV→Mem→Prop} (_:w2h m xs K),∃ S' ys m',K ys m'∧ys.length=xs.length∧(∀ (j:Nat) y u,ys[j]?=some y→us[j]?=some u→RelV S' pl w m' y u)∧St X S' pl w m'∧Keeps S S' pl pl w w m m'
 | [],_,S,_,m,h,_,_,K,hk=>⟨S,[],m,hk,rfl,fun j y u hy=>by simp at hy,h,Keeps.refl _ _ _ _⟩
 | x :: xs,[],_,_,_,_,hl,_,_,_=>by simp at hl
 | x :: xs,u :: us,S,pl,m,h,hl,hr,K,hk=>by
  obtain⟨S1,y,m1,hk1,hy,h1,k1⟩:=w4g h (hr 0 x u rfl rfl) hk
  obtain⟨S2,ys,m2,hk2,hlen,hys,h2,k2⟩:=z7q xs us h1 (by simpa using hl) (fun j x u hx hu=>(hr (j + 1) x u hx hu).mono k1) hk1
  refine⟨S2,y :: ys,m2,hk2,by simp [hlen],fun j y' u' hy' hu'=>?_,h2,k1.trans k2⟩
  cases j with
  | zero=>simp at hy' hu';subst hy' hu';exact hy.mono k2
  | succ j=>exact hys j y' u' (by simpa using hy') (by simpa using hu')
theorem w2g {w:World} (sh:Bool) (xs:List AV) (us:List Value) {S:Area} {pl:Place} {m:Mem} (h:St X S pl w m) (hl:us.length=xs.length) (hr:∀ (j:Nat) x u,xs[j]?=some x→us[j]?=some u→RelV S pl w m x u)
  {K:List AV→Mem→Prop} (hk:w5j sh m xs K):∃ S' ys m',K ys m'∧ys.length=xs.length∧(∀ (j:Nat) y u,ys[j]?=some y→us[j]?=some u→RelV S' pl w m' y u)∧St X S' pl w m'∧Keeps S S' pl pl w w m m':=by
 cases sh with
 | true=>exact z7q xs us h hl hr hk
 | false=>exact⟨S,xs,m,hk,rfl,hr,h,Keeps.refl _ _ _ _⟩
theorem k3a (hm : P.follows .mixedOrders = true) (hT : TabOk P T) {G : Glob} {D : Spec} (hD : ∀ f os Q, D f os Q → Den P G f os Q) {f : FuncId} {fn : Func} {body : Code} (hf : P.funcs[f]? = some fn) (hb : fn.body = some body) (hname : (fn.name == "runtime.NumGoroutine") = false)
  {os:List OV} {Q:OV→List OV→Prop} (hlen:os.length≤fn.ntmps) {sh:Bool} (hk:FnW T G D fn body os Q sh):Den P G f os Q:=by
 refine⟨⟨fn,hf,by rw [hb];rfl,hname⟩,fun S F w us hS hF hG ho=>?_⟩
 let X:Ctx:=⟨S,F,w,G⟩
 have hus:=ho.length
 have st0:St X S (fun _=>(0,0)) w ⟨[],0⟩:=⟨⟨fun id ob h=>by simp [Mem.get,getL] at h,fun id id' ob ob' h=>by simp [Mem.get,getL] at h,fun id ob h=>by simp [Mem.get,getL] at h,hS⟩,
  Ext.refl _ _,fun _ _ h=>h,fun b o h=>.inl h,fun id ob h=>by simp [Mem.get,getL] at h,hG⟩
 obtain⟨pl,l1,r1⟩:=z2a (X:=X) (z3n depth) os us 0 st0 ho (fun b o hf=>⟨.inl hf,(hF b o hf).2,fun ⟨id,ob,hg,_⟩=>by simp [Mem.get,getL] at hg⟩)
 unfold FnW at hk
 dsimp only at hk
 have hul:=z1s (z1h depth) os 0 ⟨[],0⟩
 generalize hu:z1d (z1h depth) 0 ⟨[],0⟩ os=U at l1 r1 hk hul
 refine calls_of_wp hf hb ?_
 have tm0:TmR S pl w U.2.2 (U.1++List.replicate (fn.ntmps - os.length) .dead) { tmps:=us.toArray++Array.replicate (fn.ntmps - us.toArray.size) undef,defers:=[] }:=by
  refine⟨rfl,by simp;omega,fun i x hx=>?_⟩
  by_cases hi:i < U.1.length
  ·rw [List.getElem?_append_left hi] at hx
   have hiu:i < us.length:=by omega
   have hui:us[i]?=some us[i]:=List.getElem?_eq_getElem hiu
   have:=r1 i x _ hx hui
   rw [Array.getD_eq_getD_getElem?,Array.getElem?_append_left (by simpa using hiu)]
   simpa [hui] using this
  ·rw [List.getElem?_append_right (by omega),List.getElem?_replicate] at hx
   split at hx
   ·injection hx with hx;subst hx;exact .dead _
   ·simp at hx
 have hlow:∀ p ∈ U.1.zip us,Low U.2.2.clk p.1:=fun p hp=>by
  obtain⟨j,hj⟩:=List.mem_iff_getElem?.1 hp
  rw [List.getElem?_zip_eq_some] at hj
  exact (r1 j p.1 p.2 hj.1 hj.2).low
 refine wp_mono (w4t (pins:=U.1.zip us) (B:=U.2.2.clk) hlow hm hT hD body _ _ _ _ w ⟨S,pl,l1.st,tm0,fun p hp=>by
  obtain⟨j,hj⟩:=List.mem_iff_getElem?.1 hp
  rw [List.getElem?_zip_eq_some] at hj
  exact r1 j p.1 p.2 hj.1 hj.2⟩ hk) ?_
 rintro e a w' ⟨ex,tm,m,he,hk,S2,pl2,hst,htm,hpin⟩
 have fin:(z2q T tm m fn.results.toList fun rs=>w5j sh m rs fun rs m=>packW depth m (oneOf rs) fun r m=>outsW m os U.1 fun bs _=>Q r bs)→a.defers=[]∧∃ v,(results fn a.tmps).run P w'=.ok v w' ∧
   ∃ v_1 r bs S' Fr Fb,Ending.returned v=.returned v_1∧Q r bs∧Own S' w' Fr r v_1∧OwnP S' w' Fb os us bs∧Ended S F w w' S' Fr Fb:=fun hk=>by
  obtain⟨xs0,vs,h1,h2,h3,h4⟩:=z3w hT hst htm fn.results.toList hk
  obtain⟨S2,xs,m,h1,hlen,h4,hst,hks⟩:=w2g sh xs0 vs hst h2 h4 h1
  replace h2:vs.length=xs.length:=by omega
  replace hpin:=fun p hp=>(hpin p hp).mono hks
  refine⟨htm.defers,_,w4j h3,?_⟩
  obtain⟨S3,r,m3,Fr,hk3,hor,p3⟩:=z4k depth hst (w8g xs vs h2 h4) h1
  obtain⟨S4,bs,m4,Fb,hq,hob,p4⟩:=z5v os U.1 us p3.st (by omega) (fun j x u hx hu=>(hpin (x,u) (List.mem_of_getElem? (i:=j) (by rw [List.getElem?_zip_eq_some];exact⟨hx,hu⟩))).mono p3.kp) hk3
  have hmine:∀ b o,Feet pl2 m b o→F b o∨w.heap.size≤b:=fun b o ⟨id,ob,hg,hf⟩=>hst.own id ob hg b o hf
  refine⟨_,r,bs,S4,Fr,Fb,rfl,hq,hor.keep (p4.still _),hob,⟨p4.st.ext,p4.st.sub,fun b o hs=>⟨p4.st.inv.low b o hs,p4.st.only b o hs⟩,fun b o h1 h2=>(p3.off b o h1).2 (p4.off b o h2).1,fun b o h=>?_⟩⟩
  rcases h with h | h
  ·exact⟨fun hs=>(p4.sh.grow b o hs).elim (p3.no b o h) (p3.off b o h).2,hmine b o (p3.off b o h).1⟩
  ·exact⟨p4.no b o h,hmine b o (p3.sh.feet _ _ (p4.off b o h).1)⟩
 cases e<;>simp [exOf] at he<;>subst he
 ·exact fin hk
 ·exact hk.elim
 ·exact fin hk
end
end Go.Proofs.Ytioiigabeoaneaa.V
namespace Go.Proofs.Ytioiigabeoaneaa.V
open Go
abbrev EL:=List (List CV)
structure Ops where
 wrap:IntKind→Int→Int
 bin:BinOp→IntKind→Int→Int→Int
 cmp:BinOp→Int→Int→Bool
 un:UnOp→IntKind→Int→Int
 bnot:Bool→Bool
 beq2:Bool→Bool→Bool
 least:Bool→Int→Int→Int
 nz:Int→Prop
 ile:Int→Int→Prop
 ilt:Int→Int→Prop
 nle:Nat→Nat→Prop
 plus:Nat→Nat→Nat
 times:Nat→Nat→Nat
 itimes:Int→Nat→Int
 toN:Int→Nat
 least2:Nat→Nat→Nat
 sadd:ByteArray→ByteArray→ByteArray
 scmp:BinOp→ByteArray→ByteArray→Bool
 ssz:ByteArray→Nat
 sext:ByteArray→Nat→Nat→ByteArray
 sget:ByteArray→Nat→Int
 ofb:ByteArray→EL
 tob:EL→(ByteArray→Prop)→Prop
 len:EL→Nat
 take:Nat→EL→EL
 view:Nat→EL→(EL→Prop)→Prop
 drop:Nat→EL→EL
 app:EL→EL→EL
 rep:Nat→List CV→EL
 setE:EL→Nat→Nat→List CV→EL
 width:EL→Nat→Nat
 over:EL→EL→Nat→EL
 elem:EL→Nat→(List CV→Prop)→Prop
 emp:EL→(Unit→Prop)→(Unit→Prop)→Prop
 br:Bool→(Unit→Prop)→(Unit→Prop)→Prop
 agree:List Nat→Mem→Mem→Prop
 call:Nat→Mem→FuncId→List AV→KK→Prop
 loop:Code→List AV→Mem→KX→Prop
 sub:List CV→Nat→Nat→(List CV→Prop)→Prop
 drawn:Array Oper→List AV→Mem→(List AV→Mem→Prop)→Prop
 reg:Array Oper→List AV→Mem→(List AV→Mem→Prop)→Prop
 join:(List AV→Mem→Prop)→List AV→Mem→Prop
 toI:Nat→Int
 neq:Nat→Nat→Prop
 hiOk:Bool→Int→Nat→Nat→Prop
 nat:Nat→Nat→(Nat→Prop)→Prop
 and2:Bool→Bool→Bool
 alt:(Unit→Prop)→(Unit→Prop)→Prop
 lzE:(Unit→EL)→EL
 lzI:(Unit→Int)→Int
 lzN:(Unit→Nat)→Nat
 lzS:(Unit→ByteArray)→ByteArray
 lzB:(Unit→Bool)→Bool
def bOr (n:Nat) (a b:Int):Nat:=(BitVec.ofInt n a ||| BitVec.ofInt n b).toNat
def bAnd (n:Nat) (a b:Int):Nat:=(BitVec.ofInt n a &&& BitVec.ofInt n b).toNat
def bXor (n:Nat) (a b:Int):Nat:=(BitVec.ofInt n a ^^^ BitVec.ofInt n b).toNat
def k2f (n:Nat) (a b:Int):Nat:=(BitVec.ofInt n a &&& ~~~ BitVec.ofInt n b).toNat
def z0c (op:BinOp) (k:IntKind) (a b:Int):Int:=match op with
 | .shl=>k.wrap (a * 2 ^ (min b.toNat k.bits))
 | .shr=>a.fdiv (2 ^ (min b.toNat k.bits))
 | .add=>k.wrap (a + b)
 | .sub=>k.wrap (a - b)
 | .mul=>k.wrap (a * b)
 | .quo=>k.wrap (a.tdiv b)
 | .rem=>a.tmod b
 | .and=>k.wrap (bAnd k.bits a b)
 | .or=>k.wrap (bOr k.bits a b)
 | .xor=>k.wrap (bXor k.bits a b)
 | .andNot=>k.wrap (k2f k.bits a b)
 | _=>0
def z0a (op:BinOp) (a b:Int):Bool:=match op with
 | .eql=>a == b
 | .neq=>a != b
 | .lss=>decide (a < b)
 | .leq=>decide (a≤b)
 | .gtr=>decide (a > b)
 | .geq=>decide (a ≥ b)
 | _=>false
def z2f (op:BinOp) (a b:ByteArray):Bool:=match op with
 | .eql=>a.toList == b.toList
 | .neq=>!(a.toList == b.toList)
 | .lss=>Op.bytesLess a.toList b.toList
 | .leq=>Op.bytesLess a.toList b.toList || a.toList == b.toList
 | .gtr=>!(Op.bytesLess a.toList b.toList || a.toList == b.toList)
 | .geq=>!(Op.bytesLess a.toList b.toList)
 | _=>false
def unStd (op:UnOp) (k:IntKind) (n:Int):Int:=match op with
 | .neg=>k.wrap (0 - n)
 | .xor=>k.wrap (BitVec.ofInt k.bits (if k.signed then -1 else k.max) ^^^ BitVec.ofInt k.bits n).toNat
 | _=>0
def std (B:Nat) (T:Tab) (G:Glob) (D:Spec):Ops where
 wrap k n:=k.wrap n
 bin:=z0c
 cmp:=z0a
 un:=unStd
 bnot b:=!b
 beq2 a b:=a == b
 least mx a b:=if mx then (if b > a then b else a) else (if b < a then b else a)
 nz b:=b≠0
 ile a b:=a≤b
 ilt a b:=a < b
 nle a b:=a≤b
 plus a b:=a + b
 times a b:=a * b
 itimes a b:=a * b
 toN a:=a.toNat
 least2 a b:=min a b
 sadd a b:=a++b
 scmp:=z2f
 ssz s:=s.size
 sext s l h:=s.extract l h
 sget s i:=((s.data.toList.getD i 0).toNat:Nat)
 ofb s:=encB s.data.toList
 tob es K:=match bytesOf es with | some b=>K ⟨b.toArray⟩ | none=>False
 len es:=es.length
 take n es:=es.take n
 view n es K:=n≤es.length∧K (es.take n)
 drop n es:=es.drop n
 app a b:=a++b
 rep n z:=List.replicate n z
 setE es i o ys:=es.set i (putAt (es.getD i []) o ys)
 width es i:=(es.getD i []).length
 over ns es n:=ns.take n++es.drop n
 elem es i K:=K (es.getD i [])
 emp es A B:=if es=[] then A () else B ()
 br v A B:=(v=true→A ())∧(v=false→B ())
 agree:=Agree
 call site m f args K:=callW D site m f args K
 loop c tm m K:=execW B T G D (.loop c) tm m K
 sub cs i z K:=K (cs.drop (i * z))
 drawn ops tm m K:=w0z T G D ops tm m (Join B K)
 reg ops tm m K:=opsW T G D ops.toList ops.toList tm m (Join B K)
 join:=Join B
 toI n:=n
 neq a b:=a=b
 hiOk c h n l:=h≤n∨c=true∧h≤l
 nat j _ K:=K j
 and2 a b:=a && b
 alt A B:=A ()∨B ()
 lzE f:=f ()
 lzI f:=f ()
 lzN f:=f ()
 lzS f:=f ()
 lzB f:=f ()
end Go.Proofs.Ytioiigabeoaneaa.V
namespace Go.Proofs.Ytioiigabeoaneaa.V
open Go
def need (b:Bool) (A:Unit→Prop):Prop:=match b with | true=>A () | false=>False
section
variable (O:Ops)
def brO (x:AV) (A B:Unit→Prop):Prop:=match x with | .c (.v (.bool v))=>O.br v A B | _=>False
def z9v (m:Mem):AV→(CV→Mem→Prop)→Prop
 | .c x,K=>K (normC x) m
 | .t id ver n,K=>match m.get id with
  | some (.arr v sz es cap _)=>need (Nat.beq v ver) fun _=>O.view n es fun xs=>K (.sl sz xs none) (m.upd id (.arr v sz es cap true))
  | _=>False
 | _,_=>False
def z5x (m:Mem):List AV→(List CV→Mem→Prop)→Prop
 | [],K=>K [] m
 | a :: l,K=>z9v O m a fun x m=>z5x m l fun xs m=>K (x :: xs) m
def sBinO (op:BinOp):Value→Value→(Value→Prop)→Prop
 | .int k a,.int k' b,K=>match op with
  | .shl | .shr=>O.ile 0 b∧K (.int k (O.bin op k a b))
  | .quo | .rem=>need (decide (k=k')) fun _=>O.nz b∧K (.int k (O.bin op k a b))
  | .add | .sub | .mul | .and | .or | .xor | .andNot=>need (decide (k=k')) fun _=>K (.int k (O.bin op k a b))
  | .eql | .neq | .lss | .leq | .gtr | .geq=>need (decide (k=k')) fun _=>K (.bool (O.cmp op a b))
 | .string a,.string b,K=>match op with
  | .add=>O.ile (O.plus (O.ssz a) (O.ssz b)) 9223372036854775807∧K (.string (O.sadd a b))
  | .eql | .neq | .lss | .leq | .gtr | .geq=>K (.bool (O.scmp op a b))
  | _=>False
 | _,_,_=>False
def binO (op:BinOp) (k:TK) (m:Mem) (x y:AV) (K:KK):Prop:=match x,y with
 | .c (.v (.bool a)),.c (.v (.bool b))=>match op,k with
  | .eql,.bool=>K (.c (.v (.bool (O.beq2 a b)))) m
  | .neq,.bool=>K (.c (.v (.bool (O.bnot (O.beq2 a b))))) m
  | _,_=>False
 | .c (.v (.int i a)),.c (.v b)=>sBinO O op (.int i a) b fun r=>K (.c (.v r)) m
 | .c (.v (.string a)),.c (.v b)=>sBinO O op (.string a) b fun r=>K (.c (.v r)) m
 | x,y=>match op,k,isNil x,isNil y with
  | .eql,.pt _ _,some a,some b=>need (a || b) fun _=>K (.c (.v (.bool (a && b)))) m
  | .neq,.pt _ _,some a,some b=>need (a || b) fun _=>K (.c (.v (.bool !(a && b)))) m
  | _,_,_,_=>False
def w9g:Nat→AV→AV→Option Bool
 | 1,.c (.v (.int k a)),.c (.v (.int k' b))=>if k=k' then some (O.cmp .eql a b) else none
 | 2,.c (.v (.bool a)),.c (.v (.bool b))=>some (O.beq2 a b)
 | 3,.c (.v (.string a)),.c (.v (.string b))=>some (O.scmp .eql a b)
 | _,_,_=>none
def z4o:List Nat→List AV→List AV→Option Bool
 | [],[],[]=>some true
 | c :: cs,x :: xs,y :: ys=>match w9g O c x y,z4o cs xs ys with | some a,some b=>some (O.and2 a b) | _,_=>none
 | _,_,_=>none
def eqO (op:BinOp) (ti:TI) (m:Mem) (xs ys:List AV) (K:KK):Prop:=match ti.k,ti.eq with
 | .st _,c :: cs=>match op,z4o O (c :: cs) xs ys with
  | .eql,some b=>K (.c (.v (.bool b))) m
  | .neq,some b=>K (.c (.v (.bool (O.bnot b)))) m
  | _,_=>False
 | _,_=>False
def unO (op:UnOp) (m:Mem) (x:AV) (K:KK):Prop:=match op,x with
 | .neg,.c (.v (.int k n))=>K (.c (.v (.int k (O.un .neg k n)))) m
 | .xor,.c (.v (.int k n))=>K (.c (.v (.int k (O.un .xor k n)))) m
 | .not,.c (.v (.bool b))=>K (.c (.v (.bool (O.bnot b)))) m
 | _,_=>False
def viewO (esz:Nat) (m:Mem) (x:AV) (K:EL→Prop):Prop:=match x with
 | .c (.sl sz es _)=>need (Nat.beq sz esz) fun _=>K es
 | .t id ver n=>match m.get id with
  | some (.arr v sz es _ _)=>need (Nat.beq v ver && Nat.beq sz esz) fun _=>O.view n es K
  | _=>False
 | _=>False
def convO (src dst:TK) (site:Nat) (m:Mem) (x:AV) (K:KK):Prop:=match src,dst,x with
 | .int _,.int k,.c (.v (.int _ n))=>K (.c (.v (.int k (O.wrap k n)))) m
 | .str,.str,.c (.v (.string s))=>K (.c (.v (.string s))) m
 | .str,.sl 1 false 1 true,.c (.v (.string s))=>K (.t site m.clk (O.ssz s)) (m.new site fun v=>.arr v 1 (O.ofb s) none true)
 | .sl 1 false 1 true,.str,x=>viewO O 1 m x fun es=>O.tob es fun s=>K (.c (.v (.string s))) m
 | _,_,_=>False
def rdA (agg:Bool) (s:Nat) (cs:List AV) (K:AV→Prop):Prop:=match agg with
 | true=>need (Nat.ble s cs.length) fun _=>K (.agg (cs.take s))
 | false=>match cs with | x :: _=>K x | []=>False
def loadO (agg:Bool) (s:Nat) (m:Mem) (x:AV) (K:KK):Prop:=match x with
 | .p id ver o=>match m.get id with
  | some (.blk v cs)=>need (Nat.beq v ver) fun _=>rdA agg s (cs.drop o) fun y=>K y m
  | _=>False
 | .c (.rp cs)=>rdA agg s (cs.map .c) fun y=>K y m
 | .tp id ver i o=>match m.get id with
  | some (.arr v _ es _ _)=>need (Nat.beq v ver) fun _=>O.nle (O.plus i 1) (O.len es)∧O.elem es i fun cs=>rdA agg s ((cs.drop o).map .c) fun y=>K y m
  | _=>False
 | _=>False
def w7p (s:Nat) (m:Mem) (x y:AV) (K:Mem→Prop):Prop:=match x with
 | .p id ver o=>match m.get id with
  | some (.blk v cs)=>need (Nat.beq v ver && y.cells.length.beq s && y.cells.all AV.solid && Nat.ble (o + s) cs.length && ((cs.drop o).take s).all (fun x=>!x.isDead)) fun _=>K (m.upd id (.blk v (putAt cs o y.cells)))
  | _=>False
 | .tp id ver i o=>z5x O m y.cells fun ys m=>match m.get id with
  | some (.arr v sz es cap pub)=>need (Nat.beq v ver && !pub && ys.length.beq s) fun _=>O.nle (O.plus i 1) (O.len es)∧O.nle (o + s) (O.width es i) ∧
    K (m.upd id (.arr v sz (O.setE es i o ys) cap pub))
  | _=>False
 | _=>False
def boxO (site:Nat) (m:Mem) (y:AV) (K:KK):Prop:=need (y.cells.all AV.solid) fun _=>K (.p site m.clk 0) (m.new site fun v=>.blk v y.cells)
def z5z (site esz:Nat) (zero:List CV) (len:Nat) (parts:List (Nat × AV)) (m:Mem) (K:KK):Prop:=need (Nat.ble (len * esz) 16777216) fun _ =>
 match fillA (fun i=>some (i * esz,esz)) ((repL len zero).map .c) parts with
 | some cs=>z5x O m cs fun xs m=>K (.t site m.clk len) (m.new site fun v=>.arr v esz (z5q esz len xs) (some len) false)
 | none=>False
def w0t (site esz ebytes:Nat) (zero:List CV) (m:Mem) (l c:AV) (K:KK):Prop:=match l,c with
 | .c (.v (.int _ l)),.c (.v (.int _ c))=>O.ile 0 l∧O.ile l c∧O.ile (O.itimes c ebytes) 70368744177664 ∧
   K (.t site m.clk (O.toN l)) (m.new site fun v=>.arr v esz (O.rep (O.toN l) zero) (some (O.toN c)) false)
 | _,_=>False
def w2f (k:TK) (m:Mem) (x:AV) (lo hi mx:Option AV) (K:KK):Prop:=match k,x with
 | .str,.c (.v (.string s))=>need mx.isNone fun _=>bnd 0 lo fun l=>bnd (O.ssz s) hi fun h=>O.ile 0 l∧O.ile l h∧O.ile h (O.ssz s)∧K (.c (.v (.string (O.sext s (O.toN l) (O.toN h))))) m
 | .sl esz _ _ _,.c (.sl sz es sp)=>need (Nat.beq sz esz) fun _=>bnd 0 lo fun l=>bnd (O.len es) hi fun h=>match mx with
  | none=>O.ile 0 l∧O.ile l h∧match sp with
   | some sp=>O.ile h (O.plus (O.len es) (O.len sp))∧K (.c (.sl sz (O.drop (O.toN l) (O.take (O.toN h) (O.app es sp))) (some (O.drop (O.toN h) (O.app es sp))))) m
   | none=>O.ile h (O.len es)∧K (.c (.sl sz (O.drop (O.toN l) (O.take (O.toN h) es)) none)) m
  | some mx=>need hi.isSome fun _=>bnd 0 (some mx) fun c=>O.ile 0 l∧O.ile l h∧O.ile h c∧O.ile c (O.len es) ∧
    K (.c (.sl sz (O.drop (O.toN l) (O.take (O.toN h) es)) (some (O.drop (O.toN h) (O.take (O.toN c) es))))) m
 | .sl esz _ _ _,.t id ver n=>match m.get id with
  | some (.arr v sz es cap _)=>need (Nat.beq v ver && Nat.beq sz esz && mx.isNone) fun _=>O.nle n (O.len es)∧bnd n hi fun h=>match lo with
   | none=>O.ile 0 h∧O.hiOk cap.isSome h n (O.len es)∧K (.t id ver (O.toN h)) m
   | some _=>bnd 0 lo fun l=>O.ile 0 l∧O.ile l h∧O.ile h n∧K (.c (.sl sz (O.drop (O.toN l) (O.take (O.toN h) es)) none)) (m.upd id (.arr v sz es cap true))
  | _=>False
 | _,_=>False
def z4d (lit:Bool) (k:TK) (m:Mem) (x i:AV) (K:KK):Prop:=match i with
 | .c (.v (.int _ i))=>match k,x with
  | .ar n esz _,.p id ver o=>match lit with
   | true=>need (Nat.ble 2 n && decide (0≤i) && decide (i < n)) fun _=>K (.p id ver (o + i.toNat * esz)) m
   | false=>need (Nat.ble 2 n) fun _=>O.ile 0 i∧O.ilt i n∧O.nat (O.toN i) n fun j=>K (.p id ver (o + j * esz)) m
  | .ar n esz _,.c (.rp cs)=>match lit with
   | true=>need (Nat.ble 2 n && decide (0≤i) && decide (i < n)) fun _=>K (.c (.rp (cs.drop (i.toNat * esz)))) m
   | false=>need (Nat.ble 2 n) fun _=>O.ile 0 i∧O.ilt i n∧O.sub cs (O.toN i) esz fun cs=>K (.c (.rp cs)) m
  | .sl esz _ _ _,.c (.sl sz es _)=>need (Nat.beq sz esz) fun _=>O.ile 0 i∧O.ilt i (O.len es)∧O.elem es (O.toN i) fun cs=>K (.c (.rp cs)) m
  | .sl esz _ _ _,.t id ver n=>match m.get id with
   | some (.arr v sz es _ _)=>need (Nat.beq v ver && Nat.beq sz esz) fun _=>O.nle n (O.len es)∧O.ile 0 i∧O.ilt i n∧K (.tp id ver (O.toN i) 0) m
   | _=>False
  | _,_=>False
 | _=>False
def w5v (lit:Bool) (k:TK) (m:Mem) (x i:AV) (K:KK):Prop:=match i with
 | .c (.v (.int _ i))=>match k,x with
  | .str,.c (.v (.string s))=>O.ile 0 i∧O.ilt i (O.ssz s)∧K (.c (.v (.int .u8 (O.sget s (O.toN i))))) m
  | .ar n esz eagg,.agg cs=>match lit with
   | true=>need (decide (0≤i) && decide (i < n)) fun _=>rdA eagg esz (cs.drop (i.toNat * esz)) fun y=>K y m
   | false=>O.ile 0 i∧O.ilt i n∧O.nat (O.toN i) n fun j=>rdA eagg esz (cs.drop (j * esz)) fun y=>K y m
  | _,_=>False
 | _=>False
def w6a (f:Nat × Nat × Bool) (m:Mem) (x:AV) (K:KK):Prop:=match x with
 | .agg cs=>rdA f.2.2 f.2.1 (cs.drop f.1) fun y=>K y m
 | _=>False
def lenO (k:TK) (m:Mem) (x:AV) (K:KK):Prop:=match k,x with
 | .str,.c (.v (.string s))=>K (.c (.v (.int .i64 (O.toI (O.ssz s))))) m
 | .ar n _ _,_=>K (.c (.v (.int .i64 n))) m
 | .sl _ _ _ _,.c (.sl _ es _)=>K (.c (.v (.int .i64 (O.toI (O.len es))))) m
 | .sl _ _ _ _,.t _ _ n=>K (.c (.v (.int .i64 (O.toI n)))) m
 | _,_=>False
def capO (k:TK) (m:Mem) (x:AV) (K:KK):Prop:=match k,x with
 | .sl _ _ _ _,.c (.sl _ es (some sp))=>K (.c (.v (.int .i64 (O.toI (O.plus (O.len es) (O.len sp)))))) m
 | .sl _ _ _ _,.t id ver _=>match m.get id with
  | some (.arr v _ _ (some c) _)=>need (Nat.beq v ver) fun _=>K (.c (.v (.int .i64 (O.toI c)))) m
  | _=>False
 | _,_=>False
def w1l (mx:Bool) (m:Mem):List AV→KK→Prop
 | [.c (.v (.int k a)),.c (.v (.int k' b))],K=>need (decide (k=k')) fun _=>K (.c (.v (.int k (O.least mx a b)))) m
 | _,_=>False
def srcO (esz:Nat) (m:Mem) (x:AV) (K:EL→Prop):Prop:=match x with
 | .c (.v (.string s))=>need (Nat.beq esz 1) fun _=>K (O.ofb s)
 | x=>viewO O esz m x fun es=>K es
def w1v (site esz ebytes:Nat) (m:Mem) (s x:AV) (K:KK):Prop:=srcO O esz m x fun ns=>match s with
 | .c (.sl sz es (some []))=>need (Nat.beq sz esz) fun _=>O.nle (O.times (O.plus (O.len es) (O.len ns)) ebytes) 35184372088832 ∧
   O.emp ns (fun _=>K s m) (fun _=>K (.t site m.clk (O.len (O.app es ns))) (m.new site fun v=>.arr v esz (O.app es ns) none false))
 | .t id ver n=>match m.get id with
  | some (.arr v sz es _ pub)=>need (Nat.beq v ver && Nat.beq sz esz) fun _=>O.neq n (O.len es)∧O.nle (O.times (O.plus (O.len es) (O.len ns)) ebytes) 35184372088832 ∧
    K (.t id m.clk (O.len (O.app es ns))) ((m.del id).new id fun v=>.arr v sz (O.app es ns) none pub)
  | _=>False
 | _=>False
def copyO (esz:Nat) (m:Mem) (d x:AV) (K:KK):Prop:=srcO O esz m x fun ns=>match d with
 | .t id ver n=>match m.get id with
  | some (.arr v sz es cap false)=>need (Nat.beq v ver && Nat.beq sz esz) fun _=>O.nle n (O.len es) ∧
    K (.c (.v (.int .i64 (O.toI (O.least2 (O.len ns) n))))) (m.upd id (.arr v sz (O.over ns es (O.least2 (O.len ns) n)) cap false))
  | _=>False
 | _=>False
def packO:Nat→Mem→AV→(OV→Mem→Prop)→Prop
 | 0,_,_,_=>False
 | k + 1,m,x,K=>match x with
  | .c x=>K (.c x) m
  | .t id ver n=>match m.get id with
   | some (.arr v sz es cap pub)=>need (Nat.beq v ver) fun _=>O.nle n (O.len es)∧K (.arr sz es cap pub n) (m.del id)
   | _=>False
  | .p id ver 0=>match m.get id with
   | some (.blk v cs)=>need (Nat.beq v ver) fun _=>z3f (packO k) (m.del id) cs fun os m=>K (.ptr os) m
   | _=>False
  | .agg cs=>z3f (packO k) m cs fun os m=>K (.agg os) m
  | .tup cs=>z3f (packO k) m cs fun os m=>K (.tup os) m
  | _=>False
def shutO (m:Mem) (x:AV) (K:OV→Mem→Prop):Prop:=match x with
 | .agg cs=>z5x O m cs fun xs m=>K (.agg (xs.map .c)) m
 | x=>z9v O m x fun y m=>K (.c y) m
def argO (md:Mode) (m:Mem) (x:AV) (K:OV→Mem→Prop):Prop:=match md with
 | .shut=>shutO O m x K
 | .keep=>match x with | .c y=>K (.c y) m | _=>False
 | .own=>packO O depth m x K
 | .ref s=>match x with
  | .p id ver o=>match m.get id with
   | some (.blk v cs)=>need (Nat.beq v ver && Nat.ble (o + s) cs.length && ((cs.drop o).take s).all (fun x=>!x.isDead)) fun _=>z3f (packO O depth) (m.upd id (.blk v (putAt cs o (List.replicate s .dead)))) ((cs.drop o).take s) fun os m=>K (.ptr os) m
   | _=>False
  | _=>False
def argsO (m:Mem):List Mode→List AV→(List OV→Mem→Prop)→Prop
 | [],[],K=>K [] m
 | md :: mds,x :: xs,K=>argO O md m x fun o m=>argsO m mds xs fun os m=>K (o :: os) m
 | _,_,_=>False
def backO (id:Nat) (m:Mem):List Mode→List AV→List OV→(Nat→Mem→Prop)→Prop
 | [],[],[],K=>K id m
 | md :: mds,x :: xs,o :: l,K=>match md with
  | .ref s=>match x,o with
   | .p i ver o,.ptr os=>match (z1d (z1h depth) (1000000 * (i + 1)) m os).2.2.get i with
    | some (.blk v cs)=>need (os.length.beq s && Nat.beq v ver && Nat.ble (o + s) cs.length) fun _=>backO id ((z1d (z1h depth) (1000000 * (i + 1)) m os).2.2.upd i (.blk v (putAt cs o (z1d (z1h depth) (1000000 * (i + 1)) m os).1))) mds xs l K
    | _=>False
   | _,_=>False
  | _=>backO id m mds xs l K
 | _,_,_,_=>False
def evAc (f:Unit→Nat):Value→AV
 | .slice none 0 0=>.c (.sl (f ()) [] (some []))
 | v=>if w0i v then .c (.v v) else .dead
def evA (A:Nat→TI) (G:Glob) (tm:List AV) (ty:Nat):Operand→AV
 | .tmp t=>tm.getD t .dead
 | .const v=>evAc (fun _=>match (A ty).k with | .sl e _ _ _=>e | _=>0) v
 | .global g=>match G g with | some cs=>.c (.rp cs) | none=>.dead
 | .func f=>.c (.v (.func (.func f) #[] #[]))
def evLA (A:Nat→TI) (G:Glob) (tm:List AV):List Operand→List TypeId→List AV
 | [],_=>[]
 | x :: xs,tys=>evA A G tm (tys.headD 0) x :: evLA A G tm xs tys.tail
def z5l (A:Nat→TI) (site:Nat) (m:Mem) (b:Builtin) (tys:List TypeId) (args:List AV) (K:KK):Prop:=match b,args,tys with
 | .len,[x],[t]=>lenO O (A t).k m x K
 | .cap,[x],[t]=>capO O (A t).k m x K
 | .min,l,_=>w1l O false m l K
 | .max,l,_=>w1l O true m l K
 | .append,[s,x],[t,t2]=>match (A t).k,(A t2).k with
  | .sl esz _ ebytes _,.sl _ _ _ _=>w1v O site esz ebytes m s x K
  | .sl esz _ ebytes _,.str=>w1v O site esz ebytes m s x K
  | _,_=>False
 | .copy,[d,x],[t,_]=>match (A t).k with
  | .sl esz _ _ _=>copyO O esz m d x K
  | _=>False
 | _,_,_=>False
def isLit:Operand→Bool | .const _=>true | _=>false
def opO (A:Nat→TI) (G:Glob) (tm:List AV) (o:Oper) (m:Mem) (K:KK):Prop:=match o.op with
 | .move x | .assign x=>K (evA A G tm o.type x) m
 | .pick c a b=>brO O (evA A G tm 0 c) (fun _=>K (evA A G tm o.type a) m) (fun _=>K (evA A G tm o.type b) m)
 | .alloc e=>match (A e).size with | 0=>False | _ + 1=>w9m (z6d o.dst) (A e).zero m K
 | .box e x=>boxO (z6d o.dst) m (evA A G tm e x) K
 | .build t ps=>match (A t).k with
  | .st fs=>z2y (z5s fs) (A t).zero (ps.toList.map fun p=>(p.1,evA A G tm 0 p.2)) m K
  | .ar _ esz _=>z2y (fun i=>some (i * esz,esz)) (A t).zero (ps.toList.map fun p=>(p.1,evA A G tm 0 p.2)) m K
  | _=>False
 | .buildSlice t len ps=>match (A t).k with
  | .sl esz _ _ _=>z5z O (z6d o.dst) esz (A t).ezero len (ps.toList.map fun p=>(p.1,evA A G tm 0 p.2)) m K
  | _=>False
 | .load t a=>match (A t).size with | 0=>False | s + 1=>loadO O (A t).agg (s + 1) m (evA A G tm 0 a) K
 | .store t a x=>match (A t).size with | 0=>False | s + 1=>w7p O (s + 1) m (evA A G tm 0 a) (evA A G tm t x) fun m=>K .dead m
 | .nilCheck x=>z1x m (evA A G tm 0 x) K
 | .binOp op t x y _=>match aggs (evA A G tm t x) (evA A G tm t y) with
  | some p=>eqO O op (A t) m p.1 p.2 K
  | none=>binO O op (A t).k m (evA A G tm t x) (evA A G tm t y) K
 | .unOp op _ x=>unO O op m (evA A G tm 0 x) K
 | .convert s d x=>convO O (A s).k (A d).k (z6d o.dst) m (evA A G tm s x) K
 | .makeSlice t l c=>match (A t).k with
  | .sl esz _ ebytes _=>w0t O (z6d o.dst) esz ebytes (A t).ezero m (evA A G tm 0 l) (evA A G tm 0 c) K
  | _=>False
 | .slice t x lo hi mx=>w2f O (A t).k m (evA A G tm t x) (lo.map (evA A G tm 0)) (hi.map (evA A G tm 0)) (mx.map (evA A G tm 0)) K
 | .fieldAddr s x f=>match (A s).k with
  | .st fs=>match fs[f]? with
   | some (off,_ + 1,_)=>z1t off m (evA A G tm 0 x) K
   | some (_,0,_)=>False
   | none=>False
  | _=>False
 | .field t x f=>match (A t).k with
  | .st fs=>match fs[f]? with
   | some f=>w6a f m (evA A G tm 0 x) K
   | none=>False
  | _=>False
 | .indexAddr t x i=>z4d O (isLit i) (A t).k m (evA A G tm t x) (evA A G tm 0 i) K
 | .index t x i=>w5v O (isLit i) (A t).k m (evA A G tm t x) (evA A G tm 0 i) K
 | .extract x i=>z3t i m (evA A G tm 0 x) K
 | .call c=>match c.callee with
  | .builtin b=>z5l O A (z6d o.dst) m b c.argTypes.toList (evLA A G tm c.args.toList c.argTypes.toList) K
  | .value f=>match evA A G tm 0 f with
   | .c (.v (.func (.func g) first captured))=>need (first.isEmpty && captured.isEmpty) fun _=>O.call (z6d o.dst) m g (evLA A G tm c.args.toList c.argTypes.toList) K
   | _=>False
  | _=>False
 | _=>False
def w3a (all:List Oper) (tm:List AV) (g:Option (Nat × Bool)) (go skip:Unit→Prop):Prop:=match g with
 | none=>go ()
 | some (j,want)=>match (all[j]?).bind (·.dst) with
  | some d=>match z6r (tm.getD d .dead) with
   | true=>skip ()
   | false=>match want with
    | true=>brO O (tm.getD d .dead) go skip
    | false=>brO O (tm.getD d .dead) skip go
  | none=>False
def opsO (A:Nat→TI) (G:Glob) (all:List Oper):List Oper→List AV→Mem→(List AV→Mem→Prop)→Prop
 | [],tm,m,K=>K tm m
 | o :: r,tm,m,K=>match mvT o tm with
  | none=>w3a O all tm o.guard (fun _=>opO O A G tm o m fun v m=>opsO A G all r (setO tm o.dst v) m K) (fun _=>opsO A G all r (setO tm o.dst skipA) m K)
  | some s=>O.alt (fun _=>opO O A G tm o m fun v m=>opsO A G all r (setO tm o.dst v) m K)
    (fun _=>z9v O m (tm.getD s .dead) fun y m=>opsO A G all r (setO (setO tm (some s) (.c y)) o.dst (tm.getD s .dead)) m K)
def w8r (A:Nat→TI) (G:Glob) (wr:List Nat) (tm:List AV) (o:Oper) (m:Mem) (K:AV→Prop):Prop:=match o.op with
 | .move x | .assign x=>K (evA A G tm o.type x)
 | .pick c a b=>brO O (evA A G tm 0 c) (fun _=>K (evA A G tm o.type a)) (fun _=>K (evA A G tm o.type b))
 | .nilCheck x=>z1x m (evA A G tm 0 x) fun v _=>K v
 | .fieldAddr s x f=>match (A s).k with
  | .st fs=>match fs[f]? with
   | some (off,_ + 1,_)=>z1t off m (evA A G tm 0 x) fun v _=>K v
   | some (_,0,_)=>False
   | none=>False
  | _=>False
 | .field t x f=>match (A t).k with
  | .st fs=>match fs[f]? with
   | some f=>w6a f m (evA A G tm 0 x) fun v _=>K v
   | none=>False
  | _=>False
 | .extract x i=>z3t i m (evA A G tm 0 x) fun v _=>K v
 | .binOp op t x y _=>match aggs (evA A G tm t x) (evA A G tm t y) with
  | some p=>eqO O op (A t) m p.1 p.2 fun v _=>K v
  | none=>binO O op (A t).k m (evA A G tm t x) (evA A G tm t y) fun v _=>K v
 | .unOp op _ x=>unO O op m (evA A G tm 0 x) fun v _=>K v
 | .load t a=>match (A t).size with
  | 0=>False
  | s + 1=>match evA A G tm 0 a with
   | .p id ver o=>need (!wr.contains id) fun _=>loadO O (A t).agg (s + 1) m (.p id ver o) fun v _=>K v
   | .tp id ver i o=>need (!wr.contains id) fun _=>loadO O (A t).agg (s + 1) m (.tp id ver i o) fun v _=>K v
   | .c x=>loadO O (A t).agg (s + 1) m (.c x) fun v _=>K v
   | _=>False
 | .indexAddr t x i=>match evA A G tm t x with
  | .t id ver n=>need (!wr.contains id) fun _=>z4d O (isLit i) (A t).k m (.t id ver n) (evA A G tm 0 i) fun v _=>K v
  | x=>z4d O (isLit i) (A t).k m x (evA A G tm 0 i) fun v _=>K v
 | .index t x i=>w5v O (isLit i) (A t).k m (evA A G tm t x) (evA A G tm 0 i) fun v _=>K v
 | .convert s d x=>match (A d).k,evA A G tm s x with
  | .int k,.c x=>convO O (A s).k (.int k) 0 m (.c x) fun v _=>K v
  | .str,.c x=>convO O (A s).k .str 0 m (.c x) fun v _=>K v
  | .str,.t id ver n=>need (!wr.contains id) fun _=>convO O (A s).k .str 0 m (.t id ver n) fun v _=>K v
  | _,_=>False
 | .slice t x lo hi mx=>match evA A G tm t x with
  | .c x=>w2f O (A t).k m (.c x) (lo.map (evA A G tm 0)) (hi.map (evA A G tm 0)) (mx.map (evA A G tm 0)) fun v _=>K v
  | .t id ver n=>need (lo.isNone && !wr.contains id) fun _=>w2f O (A t).k m (.t id ver n) none (hi.map (evA A G tm 0)) (mx.map (evA A G tm 0)) fun v _=>K v
  | _=>False
 | .call c=>match c.callee with
  | .builtin .len=>z5l O A 0 m .len c.argTypes.toList (evLA A G tm c.args.toList c.argTypes.toList) fun v _=>K v
  | .builtin .min=>z5l O A 0 m .min c.argTypes.toList (evLA A G tm c.args.toList c.argTypes.toList) fun v _=>K v
  | .builtin .max=>z5l O A 0 m .max c.argTypes.toList (evLA A G tm c.args.toList c.argTypes.toList) fun v _=>K v
  | _=>False
 | .build t ps=>match (A t).k with
  | .st fs=>z2y (z5s fs) (A t).zero (ps.toList.map fun p=>(p.1,evA A G tm 0 p.2)) m fun v _=>K v
  | .ar _ esz _=>z2y (fun i=>some (i * esz,esz)) (A t).zero (ps.toList.map fun p=>(p.1,evA A G tm 0 p.2)) m fun v _=>K v
  | _=>False
 | _=>False
def planO (A:Nat→TI) (G:Glob) (wr:List (List Nat)) (all:List Oper):List (Nat × Bool × Bool)→List AV→Mem→(List AV→Mem→Prop)→Prop
 | [],tm,m,K=>K tm m
 | (i,h,lb) :: r,tm,m,K=>match all[i]? with
  | none=>False
  | some o=>match h with
   | true=>w3a O all tm o.guard (fun _=>w8r O A G (wr.headD []) tm o m fun v=>planO A G wr all r (setO tm o.dst v) m K) (fun _=>planO A G wr all r (setO tm o.dst skipA) m K)
   | false=>w3a O all tm o.guard (fun _=>opO O A G tm o m fun v m'=>match lb with
    | true=>planO A G (dnW wr) all r (setO tm o.dst v) m' K
    | false=>O.agree (wr.headD []) m m'∧planO A G (dnW wr) all r (setO tm o.dst v) m' K) (fun _=>planO A G (dnW wr) all r (setO tm o.dst skipA) m K)
def thenK (N R:List AV→Mem→Prop) (X:Nat→List AV→Mem→Prop):KX:=fun e tm m=>match e with | .norm=>N tm m | .ret=>R tm m | .ex i=>X i tm m
def execO (A:Nat→TI) (G:Glob):Code→List AV→Mem→KX→Prop
 | .skip,tm,m,K=>K .norm tm m
 | .label _,tm,m,K=>K .norm tm m
 | .region _ ops draw,tm,m,K=>match draw,hasG ops.toList with
  | false,false=>opsO O A G ops.toList ops.toList tm m (K .norm)
  | false,true=>O.reg ops tm m (K .norm)
  | true,_=>O.drawn ops tm m (K .norm)
 | .seq a b,tm,m,K=>execO A G a tm m fun e tm m=>match e with | .norm=>execO A G b tm m K | .ret=>K .ret tm m | .ex i=>K (.ex i) tm m
 | .cond c a b,tm,m,K=>brO O (evA A G tm 0 c) (fun _=>execO A G a tm m (thenK (O.join (K .norm)) (K .ret) (fun i=>K (.ex i))))
   (fun _=>execO A G b tm m (thenK (O.join (K .norm)) (K .ret) (fun i=>K (.ex i))))
 | .block id c,tm,m,K=>execO A G c tm m fun e tm m=>match e with | .norm=>K .norm tm m | .ret=>K .ret tm m | .ex i=>match Nat.beq i id with | true=>K .norm tm m | false=>K (.ex i) tm m
 | .loop c,tm,m,K=>O.loop c tm m K
 | .exit id,tm,m,K=>K (.ex id) tm m
 | .ret,tm,m,K=>K .ret tm m
 | _,_,_,_=>False
def z4g (A:Nat→TI) (tm:List AV) (m:Mem):List ResultVar→(List AV→Prop)→Prop
 | [],K=>K []
 | .tmp t :: r,K=>z4g A tm m r fun l=>K (tm.getD t .dead :: l)
 | .cell a t :: r,K=>match (A t).size with | 0=>False | s + 1=>loadO O (A t).agg (s + 1) m (tm.getD a .dead) fun x _=>z4g A tm m r fun l=>K (x :: l)
def outsO (m:Mem):List OV→List AV→(List OV→Mem→Prop)→Prop
 | [],_,K=>K [] m
 | o :: os,xs,K=>match o with
  | .ptr _=>match xs with
   | .p id ver 0 :: xs=>match m.get id with
    | some (.blk v cs)=>need (Nat.beq v ver) fun _=>z3f (packO O depth) (m.del id) cs fun ps m=>outsO m os xs fun l m=>K (.ptr ps :: l) m
    | _=>False
   | _=>False
  | o=>outsO m os xs.tail fun l m=>K (o :: l) m
def w7v (m:Mem) (x:AV) (K:AV→Mem→Prop):Prop:=match x with
 | .agg cs=>z5x O m cs fun xs m=>K (.agg (xs.map .c)) m
 | .c x=>K (.c (normC x)) m
 | .t id ver n=>z9v O m (.t id ver n) fun y m=>K (.c y) m
 | x=>K x m
def w1g (m:Mem):List AV→(List AV→Mem→Prop)→Prop
 | [],K=>K [] m
 | x :: xs,K=>w7v O m x fun y m=>w1g m xs fun ys m=>K (y :: ys) m
def w4f (sh:Bool) (m:Mem) (xs:List AV) (K:List AV→Mem→Prop):Prop:=match sh with
 | true=>w1g O m xs K
 | false=>K xs m
def FnO (A:Nat→TI) (G:Glob) (fn:Func) (body:Code) (args:List OV) (Q:OV→List OV→Prop) (sh:Bool):Prop :=
 execO O A G body ((z1d (z1h depth) 0 ⟨[],0⟩ args).1++List.replicate (fn.ntmps - args.length) .dead) (z1d (z1h depth) 0 ⟨[],0⟩ args).2.2 (thenK
  (fun tm m=>z4g O A tm m fn.results.toList fun rs=>w4f O sh m rs fun rs m=>packO O depth m (oneOf rs) fun r m=>outsO O m args (z1d (z1h depth) 0 ⟨[],0⟩ args).1 fun bs _=>Q r bs)
  (fun tm m=>z4g O A tm m fn.results.toList fun rs=>w4f O sh m rs fun rs m=>packO O depth m (oneOf rs) fun r m=>outsO O m args (z1d (z1h depth) 0 ⟨[],0⟩ args).1 fun bs _=>Q r bs)
  (fun _ _ _=>False))
end
end Go.Proofs.Ytioiigabeoaneaa.V
namespace Go.Proofs.Ytioiigabeoaneaa.V
open Go
section
variable {B:Nat} {T:Tab} {G:Glob} {D:Spec}
theorem z1k (b:Bool) (A:Unit→Prop):need b A=(b=true∧A ()):=by cases b<;>simp [need]
theorem z1v (a b:Nat):(Nat.beq a b=true)=(a=b):=by simp
theorem w5c (x:AV) (A A':Unit→Prop):brO (std B T G D) x A A'=condB x (A ()) (A' ()):=rfl
theorem w8d (ag:Bool) (s:Nat) (cs:List AV) (K:AV→Prop):rdA ag s cs K=readA ag s cs K:=by
 cases ag
 ·rfl
 ·simp [rdA,readA,z1k]
theorem z5k (m:Mem) (x:AV) (K:CV→Mem→Prop):z9v (std B T G D) m x K=z3m m x K:=by
 unfold z9v z3m;simp only [z1k,z1v];rfl
theorem z3l:∀ (l:List AV) (m:Mem) (K:List CV→Mem→Prop),z5x (std B T G D) m l K=z4s m l K
 | [],_,_=>rfl
 | a :: l,m,K=>by simp only [z5x,z4s,z5k,z3l l]
theorem w7x (op:BinOp) (x y:Value) (K:Value→Prop):sBinO (std B T G D) op x y K=sBin op x y K:=by
 cases x<;>cases y<;>first | rfl | (cases op<;>first | rfl | (simp only [sBinO,sBin,z1k,decide_eq_true_eq];rfl))
theorem w6i (op:BinOp) (k:TK) (m:Mem) (x y:AV) (K:KK):binO (std B T G D) op k m x y K=binW op k m x y K:=by
 unfold binO binW;simp only [w7x,z1k,Bool.or_eq_true];rfl
theorem w5a (c:Nat) (x y:AV):w9g (std B T G D) c x y=w1b c x y:=rfl
theorem z7x:∀ (cs:List Nat) (xs ys:List AV),z4o (std B T G D) cs xs ys=z2g cs xs ys
 | [],[],[]=>rfl
 | [],[],_ :: _=>rfl
 | [],_ :: _,_=>by unfold z4o z2g;rfl
 | _ :: _,[],_=>by unfold z4o z2g;rfl
 | _ :: _,_ :: _,[]=>by unfold z4o z2g;rfl
 | c :: cs,x :: xs,y :: ys=>by simp only [z4o,z2g,w5a,z7x cs xs ys];rfl
theorem w8y (op:BinOp) (ti:TI) (m:Mem) (xs ys:List AV) (K:KK):eqO (std B T G D) op ti m xs ys K=eqW op ti m xs ys K:=by
 unfold eqO eqW;simp only [z7x];rfl
theorem w7k (op:UnOp) (m:Mem) (x:AV) (K:KK):unO (std B T G D) op m x K=unW op m x K:=rfl
theorem w1w (esz:Nat) (m:Mem) (x:AV) (K:EL→Prop):viewO (std B T G D) esz m x K=viewS esz m x K:=by
 unfold viewO viewS;simp only [z1k,Bool.and_eq_true,z1v,and_assoc];rfl
theorem w3q (s d:TK) (site:Nat) (m:Mem) (x:AV) (K:KK):convO (std B T G D) s d site m x K=convW s d site m x K:=by
 unfold convO convW;simp only [w1w];rfl
theorem z9l (ag:Bool) (s:Nat) (m:Mem) (x:AV) (K:KK):loadO (std B T G D) ag s m x K=loadW ag s m x K:=by
 unfold loadO loadW;simp only [z1k,z1v,w8d];rfl
theorem k0n (site:Nat) (m:Mem) (y:AV) (K:KK):boxO site m y K=boxW site m y K:=by
 unfold boxO boxW;simp [z1k]
theorem w6m (s:Nat) (m:Mem) (x y:AV) (K:Mem→Prop):w7p (std B T G D) s m x y K=w2d s m x y K:=by
 unfold w7p w2d
 simp only [z3l,z1k,Bool.and_eq_true,z1v,List.all_eq_true,Bool.not_eq_true',and_assoc,Nat.ble_eq];rfl
theorem z9z (site esz:Nat) (z:List CV) (n:Nat) (ps:List (Nat × AV)) (m:Mem) (K:KK):z5z (std B T G D) site esz z n ps m K=z4p site esz z n ps m K:=by
 unfold z5z z4p;simp only [z3l,z1k,Nat.ble_eq];rfl
theorem w0c (site esz eb:Nat) (z:List CV) (m:Mem) (l c:AV) (K:KK):w0t (std B T G D) site esz eb z m l c K=z5i site esz eb z m l c K:=rfl
theorem w0j (k:TK) (m:Mem) (x:AV) (lo hi mx:Option AV) (K:KK):w2f (std B T G D) k m x lo hi mx K=z3p k m x lo hi mx K:=by
 unfold w2f z3p
 simp only [z1k,Bool.and_eq_true,z1v,and_assoc]
 have h:∀ (a b c:Prop),(a∧b∧c)=(b∧a∧c):=fun a b c=>propext (by constructor<;>rintro ⟨h1,h2,h3⟩<;>exact⟨h2,h1,h3⟩)
 conv=>lhs;simp only [h (mx.isNone=true)]
 rfl
theorem z5o (lit:Bool) (k:TK) (m:Mem) (x i:AV) (K:KK):z4d (std B T G D) lit k m x i K=z1o k m x i K:=by
 unfold z4d z1o
 cases lit<;>simp only [z1k,Bool.and_eq_true,decide_eq_true_eq,and_assoc,Nat.ble_eq,z1v]<;>rfl
theorem w0u (lit:Bool) (k:TK) (m:Mem) (x i:AV) (K:KK):w5v (std B T G D) lit k m x i K=z6s k m x i K:=by
 unfold w5v z6s
 cases lit<;>simp only [z1k,Bool.and_eq_true,decide_eq_true_eq,and_assoc,w8d]<;>rfl
theorem w3h (f:Nat × Nat × Bool) (m:Mem) (x:AV) (K:KK):w6a f m x K=z7w f m x K:=by
 unfold w6a z7w;simp only [w8d];rfl
theorem k0f (k:TK) (m:Mem) (x:AV) (K:KK):lenO (std B T G D) k m x K=lenW k m x K:=rfl
theorem k0m (k:TK) (m:Mem) (x:AV) (K:KK):capO (std B T G D) k m x K=capW k m x K:=by
 unfold capO capW;simp only [z1k,z1v];rfl
theorem w4o (b:Bool) (m:Mem) (l:List AV) (K:KK):w1l (std B T G D) b m l K=z3g b m l K:=by
 unfold w1l z3g;simp only [z1k,decide_eq_true_eq];rfl
theorem w5i (esz:Nat) (m:Mem) (x:AV) (K:EL→Prop):srcO (std B T G D) esz m x K=srcW esz m x K:=by
 unfold srcO srcW;simp only [z1k,z1v,w1w];rfl
theorem w5e (site esz eb:Nat) (m:Mem) (s x:AV) (K:KK):w1v (std B T G D) site esz eb m s x K=z7o site esz eb m s x K:=by
 have e:∀ es ns:EL,(std B T G D).len ((std B T G D).app es ns)=es.length + ns.length:=fun es ns=>List.length_append
 unfold w1v z7o;simp only [w5i,z1k,Bool.and_eq_true,z1v,and_assoc,e];rfl
theorem w9a (esz:Nat) (m:Mem) (d x:AV) (K:KK):copyO (std B T G D) esz m d x K=copyW esz m d x K:=by
 unfold copyO copyW;simp only [w5i,z1k,Bool.and_eq_true,z1v,and_assoc];rfl
theorem w6c (tm:List AV) (ty:Nat) (x:Operand):evA (fun t=>T.at t) G tm ty x=evO T G tm ty x:=by
 cases x<;>rfl
theorem w4u (tm:List AV):∀ (l:List Operand) (tys:List TypeId),evLA (fun t=>T.at t) G tm l tys=evL T G tm l tys
 | [],_=>rfl
 | x :: xs,tys=>by simp only [evLA,evL,w6c,w4u tm xs]
theorem z7z (site:Nat) (m:Mem) (b:Builtin) (tys:List TypeId) (args:List AV) (K:KK):z5l (std B T G D) (fun t=>T.at t) site m b tys args K=z1r T site m b tys args K:=by
 unfold z5l z1r;simp only [k0f,k0m,w4o,w5e,w9a];rfl
theorem w4m (tm:List AV) (o:Oper) (m:Mem) (K:KK):opO (std B T G D) (fun t=>T.at t) G tm o m K=opW T G D tm o m K:=by
 unfold opO opW
 dsimp only
 simp only [w6c,w4u,w5c,k0n,z9z,z9l,w6m,w6i,w8y,w7k,w3q,w0c,w0j,z5o,w0u,z7z,w3h,z1k,Bool.and_eq_true,Array.isEmpty_iff,and_assoc]
 rfl
theorem z7k (all:List Oper) (tm:List AV) (g:Option (Nat × Bool)) (go skip:Unit→Prop):w3a (std B T G D) all tm g go skip=z2e all tm g (go ()) (skip ()):=by
 rcases g with _ | ⟨j,want⟩
 ·rfl
 ·simp only [w3a,z2e]
  cases (all[j]?).bind (·.dst) with
  | none=>rfl
  | some d =>
   dsimp only
   cases z6r (tm.getD d .dead)
   ·cases want<;>rfl
   ·rfl
theorem z8j (all:List Oper):∀ (l:List Oper) (tm:List AV) (m:Mem) (K:List AV→Mem→Prop),opsO (std B T G D) (fun t=>T.at t) G all l tm m K=opsW T G D all l tm m K
 | [],_,_,_=>rfl
 | o :: r,tm,m,K=>by
  simp only [opsO,opsW]
  cases mvT o tm with
  | none=>simp only [z7k,w4m,z8j all r]
  | some s =>
   show (opO (std B T G D) (fun t=>T.at t) G tm o m _∨z9v (std B T G D) m _ _)=_
   simp only [w4m,z5k,z8j all r]
theorem w7c (wr:List Nat) (tm:List AV) (o:Oper) (m:Mem) (K:AV→Prop):w8r (std B T G D) (fun t=>T.at t) G wr tm o m K=z6u T G wr tm o m K:=by
 have hw:∀ id:Nat,(wr.contains id=false)=(id ∉ wr):=fun id=>by simp
 unfold w8r z6u
 dsimp only
 simp only [w6c,w4u,w5c,z9l,w6i,w8y,w7k,w3q,w0j,z5o,w0u,z7z,w3h,z1k,Bool.and_eq_true,Bool.not_eq_true',hw,and_assoc,Option.isNone_iff_eq_none]
 rfl
def w4s (all:List Oper) (l:List (Nat × Bool × Bool)):Bool:=l.all fun x=>x.2.1 || match all[x.1]? with | some o=>x.2.2 == z4y all o | none=>true
theorem w2o (all:List Oper):∀ (wr:List (List Nat)) (l:List (Nat × Bool × Bool)) (tm:List AV) (m:Mem) (K:List AV→Mem→Prop),w4s all l=true→planO (std B T G D) (fun t=>T.at t) G wr all l tm m K=planW T G D wr all (l.map fun x=>(x.1,x.2.1)) tm m K
 | _,[],_,_,_,_=>rfl
 | wr,(i,h,lb) :: r,tm,m,K,hf=>by
  simp only [w4s,List.all_cons,Bool.and_eq_true] at hf
  obtain⟨hf1,hf2⟩:=hf
  have ih:=fun wr tm m K=>w2o all wr r tm m K hf2
  simp only [planO,List.map_cons,planW]
  cases ho:all[i]? with
  | none=>rfl
  | some o =>
   cases h with
   | true=>simp only [z7k,w7c,ih,if_true]
   | false =>
    simp only [ho,Bool.false_or,beq_iff_eq] at hf1
    subst hf1
    simp only [z7k,w4m,ih,Bool.false_eq_true,if_false]
    congr 2;funext v m'
    cases z4y all o<;>simp [std]
theorem z3k:∀ (c:Code) (tm:List AV) (m:Mem) (K:KX),execO (std B T G D) (fun t=>T.at t) G c tm m K=execW B T G D c tm m K
 | .skip,_,_,_=>rfl
 | .label _,_,_,_=>rfl
 | .region _ ops draw,tm,m,K=>by
  cases draw
  ·cases h:hasG ops.toList
   ·simp only [execO,execW,z8j,h]
   ·simp only [execO,execW,h];rfl
  ·rfl
 | .seq a b,tm,m,K=>by simp only [execO,execW,z3k a,z3k b];rfl
 | .cond c a b,tm,m,K=>by
  simp only [execO,execW,z3k a,z3k b,w5c,w6c]
  have:(thenK ((std B T G D).join (K .norm)) (K .ret) fun i=>K (.ex i))=fun e tm m=>match e with | .norm=>Join B (K .norm) tm m | .ret=>K .ret tm m | .ex i=>K (.ex i) tm m:=by
   funext e tm m;cases e<;>rfl
  rw [this];rfl
 | .block id c,tm,m,K=>by
  simp only [execO,execW,z3k c]
  congr 1;funext e tm m
  cases e with
  | ex i =>
   dsimp only
   by_cases h:i=id
   ·rw [if_pos h,h];simp
   ·rw [if_neg h];rw [show Nat.beq i id=false from by cases hq:Nat.beq i id;rfl;exact absurd (Nat.eq_of_beq_eq_true hq) h]
  | _=>rfl
 | .loop c,_,_,_=>rfl
 | .exit _,_,_,_=>rfl
 | .ret,_,_,_=>rfl
 | .rangeFunc _ _ _ _,_,_,_=>rfl
 | .scope _,_,_,_=>rfl
 | .goto _,_,_,_=>rfl
 | .refuse _,_,_,_=>rfl
theorem z9e:∀ (n:Nat) (m:Mem) (x:AV) (K:OV→Mem→Prop),packO (std B T G D) n m x K=packW n m x K
 | 0,_,_,_=>rfl
 | n + 1,m,x,K=>by
  have:packO (std B T G D) n=packW n:=by funext m x K;exact z9e n m x K
  unfold packO packW;simp only [this,z1k,z1v];rfl
theorem w2q (n:Nat):packO (std B T G D) n=packW n:=by funext m x K;exact z9e n m x K
theorem w7u (m:Mem) (x:AV) (K:OV→Mem→Prop):shutO (std B T G D) m x K=shutW m x K:=by
 unfold shutO shutW;simp only [z3l,z5k];rfl
theorem k0o (md:Mode) (m:Mem) (x:AV) (K:OV→Mem→Prop):argO (std B T G D) md m x K=argW md m x K:=by
 have h:∀ l:List AV,(l.all (fun x=>!x.isDead)=true)=(∀ x ∈ l,x.isDead=false):=fun l=>by simp
 unfold argO argW;simp only [w7u,w2q,z1k,Bool.and_eq_true,z1v,Nat.ble_eq,h,and_assoc];rfl
theorem w3y:∀ (mds:List Mode) (l:List AV) (m:Mem) (K:List OV→Mem→Prop),argsO (std B T G D) m mds l K=argsW m mds l K
 | [],[],_,_=>rfl
 | [],_ :: _,_,_=>rfl
 | _ :: _,[],_,_=>rfl
 | md :: mds,a :: l,m,K=>by simp only [argsO,argsW,k0o,w3y mds l]
theorem z6z (id:Nat):∀ (mds:List Mode) (l:List AV) (os:List OV) (m:Mem) (K:Nat→Mem→Prop),backO id m mds l os K→backW id m mds l os K
 | [],[],[],_,_=>fun h=>h
 | [],[],_ :: _,_,_=>fun h=>h.elim
 | [],_ :: _,_,_,_=>fun h=>h.elim
 | md :: _,[],_,_,_=>fun h=>h.elim
 | md :: _,_ :: _,[],_,_=>fun h=>h.elim
 | md :: mds,x :: xs,o :: l,m,K=>fun h=>by
  unfold backO at h
  cases md with
  | ref s =>
   dsimp only at h
   split at h
   ·rename_i i ver off os
    split at h
    ·rename_i v cs hg
     simp only [z1k,Bool.and_eq_true,z1v,Nat.ble_eq] at h
     obtain⟨⟨⟨h1,h2⟩,h3⟩,h⟩:=h
     unfold backW
     refine⟨by simpa using h1,?_⟩
     rw [hg]
     exact⟨h2,h3,z6z id mds xs l _ K h⟩
    ·exact h.elim
   ·exact h.elim
  | shut=>unfold backW;exact z6z id mds xs l m K h
  | keep=>unfold backW;exact z6z id mds xs l m K h
  | own=>unfold backW;exact z6z id mds xs l m K h
theorem z4v (tm:List AV) (m:Mem):∀ (l:List ResultVar) (K:List AV→Prop),z4g (std B T G D) (fun t=>T.at t) tm m l K=z2q T tm m l K
 | [],_=>rfl
 | .tmp t :: r,K=>by simp only [z4g,z2q,z4v tm m r]
 | .cell a t :: r,K=>by simp only [z4g,z2q,z4v tm m r,z9l];rfl
theorem z9f:∀ (os:List OV) (xs:List AV) (m:Mem) (K:List OV→Mem→Prop),outsO (std B T G D) m os xs K=outsW m os xs K
 | [],_,_,_=>by simp only [outsO,outsW]
 | o :: os,xs,m,K=>by
  cases o with
  | ptr cs =>
   rcases xs with _ | ⟨x,xs⟩
   ·simp only [outsO,outsW]
   ·cases x with
    | p id ver off =>
     cases off with
     | zero =>
      simp only [outsO,outsW]
      cases m.get id with
      | none=>rfl
      | some ob=>cases ob<;>first | rfl | (simp only [z1k,z1v,w2q,z9f os])
     | succ n=>simp only [outsO,outsW]
    | _=>simp only [outsO,outsW]
  | _=>simp only [outsO,outsW,z9f os]
theorem w6r (m:Mem) (x:AV) (K:AV→Mem→Prop):w7v (std B T G D) m x K=shutA m x K:=by
 unfold w7v shutA;simp only [z3l,z5k];rfl
theorem z8q:∀ (l:List AV) (m:Mem) (K:List AV→Mem→Prop),w1g (std B T G D) m l K=w2h m l K
 | [],_,_=>rfl
 | x :: xs,m,K=>by simp only [w1g,w2h,w6r,z8q xs]
theorem w4e (sh:Bool) (m:Mem) (l:List AV) (K:List AV→Mem→Prop):w4f (std B T G D) sh m l K=w5j sh m l K:=by
 cases sh
 ·rfl
 ·exact z8q l m K
theorem k2h (fn:Func) (body:Code) (args:List OV) (Q:OV→List OV→Prop) (sh:Bool) (hB:(z1d (z1h depth) 0 ⟨[],0⟩ args).2.2.clk=B):FnO (std B T G D) (fun t=>T.at t) G fn body args Q sh=FnW T G D fn body args Q sh:=by
 subst hB
 unfold FnO FnW
 rw [z3k]
 simp only [z4v,w4e,z9e,z9f]
 congr 1
 funext e tm m
 cases e<;>rfl
end
end Go.Proofs.Ytioiigabeoaneaa.V
namespace Go.Proofs.Ytioiigabeoaneaa.V
open Go
def frame:Nat→Nat→List (Nat × AV)→List AV
 | _,0,_=>[]
 | i,n + 1,[]=>.dead :: frame (i + 1) n []
 | i,n + 1,(k,x) :: l=>match Nat.beq i k with | true=>x :: frame (i + 1) n l | false=>.dead :: frame (i + 1) n ((k,x) :: l)
section rules
variable {B:Nat} {T:Tab} {G:Glob} {D:Spec} {K:KX} {tm:List AV} {m:Mem} {O:Ops} (hO:O=std B T G D)
include hO
theorem br_of {v:Bool} {A B:Unit→Prop} (h1:v=true→A ()) (h2:v=false→B ()):O.br v A B:=by subst hO;exact⟨h1,h2⟩
theorem br_t {v:Bool} {A B:Unit→Prop} (h:v=true) (h1:A ()):O.br v A B:=by subst hO h;exact⟨fun _=>h1,fun q=>by simp at q⟩
theorem br_f {v:Bool} {A B:Unit→Prop} (h:v=false) (h1:B ()):O.br v A B:=by subst hO h;exact⟨fun q=>by simp at q,fun _=>h1⟩
omit hO in
def oppO:BinOp→BinOp
 | .eql=>.neq
 | .neq=>.eql
 | .lss=>.geq
 | .geq=>.lss
 | .leq=>.gtr
 | .gtr=>.leq
 | o=>o
theorem z2m (op op':BinOp) (hop:oppO op=op') (hc:(op == .eql || op == .neq || op == .lss || op == .geq || op == .leq || op == .gtr)=true) {a b:Int} {v v':Bool} (hv:(!v)=v') (h:O.cmp op a b=v):O.cmp op' a b=v':=by
 subst hO hop hv h
 show z0a (oppO op) a b=!z0a op a b
 cases op<;>first | (exact absurd hc (by decide)) | (simp only [oppO,z0a,bne,Bool.not_not];try rfl) | skip
 all_goals (by_cases h1:a < b<;>by_cases h2:b < a<;>simp [h1,h2]<;>omega)
theorem z0b {K:List AV→Mem→Prop} (h:K tm m):O.join K tm m:=by subst hO;exact .inl h
theorem z6q {K:List AV→Mem→Prop} (live ids caps:List Nat) (h:K (fgT B live ids tm m) (fgM B live ids caps tm m)):O.join K tm m:=by subst hO;exact .inr ⟨live,ids,caps,h⟩
theorem k2d {A:Nat→TI} (hA:A=fun t=>T.at t) {v:Bool} {a b:Code} {tm₁ tm₂:List AV} {m₁ m₂:Mem} {N Rt:List AV→Mem→Prop} {X:Nat→List AV→Mem→Prop} (live ids caps:List Nat) (R:List AV→Mem→Prop)
  (h1:v=true→∀ L:List AV→Mem→Prop,(∀ tm m,R (fgT B live ids tm m) (fgM B live ids caps tm m)→L tm m)→execO O A G a tm₁ m₁ (thenK L Rt X))
  (h2:v=false→∀ L:List AV→Mem→Prop,(∀ tm m,R (fgT B live ids tm m) (fgM B live ids caps tm m)→L tm m)→execO O A G b tm₂ m₂ (thenK L Rt X))
  (h:∀ tm m,R tm m→N tm m) :
  O.br v (fun _=>execO O A G a tm₁ m₁ (thenK (O.join N) Rt X)) (fun _=>execO O A G b tm₂ m₂ (thenK (O.join N) Rt X)) :=
 br_of hO (fun hv=>h1 hv _ fun tm m hr=>z6q hO live ids caps (h _ _ hr)) (fun hv=>h2 hv _ fun tm m hr=>z6q hO live ids caps (h _ _ hr))
theorem alt_l {A A':Unit→Prop} (h:A ()):O.alt A A':=by subst hO;exact .inl h
theorem z1a {es:EL} {i:Nat} {K:List CV→Prop} (row:List CV) (h:es.getD i []=row) (hk:K row):O.elem es i K:=by subst hO h;exact hk
theorem z0k {es:EL} {K:EL→Prop} (h:K es):O.view (O.len es) es K:=by
 subst hO;refine⟨Nat.le_refl _,?_⟩;rw [show List.take ((std B T G D).len es) es=es from List.take_length];exact h
theorem z1p {n:Nat} {es:EL} {K:EL→Prop} (g:n≤es.length) (h:K (O.take n es)):O.view n es K:=by subst hO;exact⟨g,h⟩
theorem k2z {es:EL} {A B:Unit→Prop} (h1:es=[]→A ()) (h2:es≠[]→B ()):O.emp es A B:=by
 subst hO;show (if es=[] then A () else B ());split
 ·exact h1 (by assumption)
 ·exact h2 (by assumption)
theorem z2i {es:EL} {A B:Unit→Prop} (h:es≠[]) (h2:B ()):O.emp es A B:=k2z hO (fun q=>absurd q h) (fun _=>h2)
def ordOk (T:Tab) (ops:Array Oper) (ord:List (Nat × Bool × Bool)):Bool:=Region.noSelect ops && (plan T ops ops.size (Array.replicate ops.size false) == some (ord.map fun x=>(x.1,x.2.1))) && w4s ops.toList ord
theorem z0o {A:Nat→TI} (hA:A=fun t=>T.at t) {ops:Array Oper} {K:List AV→Mem→Prop} (wr:List (List Nat)) (ord:List (Nat × Bool × Bool)) (h1:ordOk T ops ord=true) (h:planO O A G wr ops.toList ord tm m (O.join K)):O.drawn ops tm m K:=by
 subst hO hA
 simp only [ordOk,Bool.and_eq_true,beq_iff_eq] at h1
 show w0z T G D ops tm m (Join B K)
 unfold w0z;rw [h1.1.1,h1.1.2];exact⟨rfl,.inl ⟨wr,by rw [← w2o (B:=B) _ _ _ _ _ _ h1.2];exact h⟩⟩
theorem k2l {A:Nat→TI} (hA:A=fun t=>T.at t) {ops:Array Oper} {K:List AV→Mem→Prop} (h:opsO O A G ops.toList ops.toList tm m (O.join K)):O.reg ops tm m K:=by
 subst hO hA
 show opsW T G D ops.toList ops.toList tm m (Join B K)
 rw [← z8j (B:=B)];exact h
theorem z0g {A:Nat→TI} (hA:A=fun t=>T.at t) {ops:Array Oper} {K:List AV→Mem→Prop} (live ids caps:List Nat) (R:List AV→Mem→Prop)
  (h1:∀ L:List AV→Mem→Prop,(∀ tm m,R (fgT B live ids tm m) (fgM B live ids caps tm m)→L tm m)→opsO O A G ops.toList ops.toList tm m L)
  (h2:∀ tm m,R tm m→K tm m):O.reg ops tm m K:=k2l hO hA (h1 _ fun tm m hr=>z6q hO live ids caps (h2 _ _ hr))
theorem w0y {A:Nat→TI} (hA:A=fun t=>T.at t) {ops:Array Oper} {K:List AV→Mem→Prop} (wr:List (List Nat)) (ord:List (Nat × Bool × Bool)) (h0:ordOk T ops ord=true) (live ids caps:List Nat) (R:List AV→Mem→Prop)
  (h1:∀ L:List AV→Mem→Prop,(∀ tm m,R (fgT B live ids tm m) (fgM B live ids caps tm m)→L tm m)→planO O A G wr ops.toList ord tm m L)
  (h2:∀ tm m,R tm m→K tm m):O.drawn ops tm m K:=z0o hO hA wr ord h0 (h1 _ fun tm m hr=>z6q hO live ids caps (h2 _ _ hr))
omit hO in
def dropL (ids:List Nat):List (Nat × Ob)→List (Nat × Ob)
 | []=>[]
 | (i,o) :: r=>if ids.contains i then dropL ids r else (i,o) :: dropL ids r
omit hO in
def stayL (ks:List (Nat × Ob)):List (Nat × Ob)→List (Nat × Ob)
 | []=>[]
 | (i,o) :: r=>if (ks.map (·.1)).contains i then (i,o) :: stayL ks r else stayL ks r
omit hO in
theorem w5y:∀ (l:List (Nat × Ob)) (j:Nat) (ob:Ob),getL l j=some ob→j ∈ l.map (·.1)
 | (k,p) :: r,j,ob,h=>by
  simp only [getL] at h
  split at h
  ·rename_i hj;simp [hj]
  ·simp only [List.map_cons,List.mem_cons];exact .inr (w5y r j ob h)
omit hO in
theorem w8u (ks l:List (Nat × Ob)) (j:Nat) (ob:Ob) (hj:getL ks j=some ob):getL (stayL ks l) j=getL l j:=by
 have hm:=w5y ks j ob hj
 induction l with
 | nil=>rfl
 | cons a r ih =>
  obtain⟨k,p⟩:=a
  simp only [stayL]
  split
  ·simp only [getL,ih]
  ·rename_i hk;rw [ih];simp only [getL]
   rw [if_neg (fun h=>hk (by subst h;simpa using hm))]
omit hO in
theorem w3b (ids:List Nat) (l:List (Nat × Ob)) (j:Nat) (hj:j ∉ ids):getL (dropL ids l) j=getL l j:=by
 induction l with
 | nil=>rfl
 | cons a r ih =>
  obtain⟨k,p⟩:=a
  simp only [dropL]
  split
  ·rename_i hk;rw [ih];simp only [getL]
   rw [if_neg (fun h=>hj (by subst h;simpa using hk))]
  ·simp only [getL,ih]
theorem k0p {wr:List Nat} {m m':Mem} (h:m.clk≤m'.clk) (h2:dropL wr m.obs=dropL wr (stayL m.obs m'.obs)):O.agree wr m m':=by
 subst hO
 exact⟨h,fun id ob hid hg=>by
  have h3:getL m.obs id=getL m'.obs id:=by rw [← w8u m.obs m'.obs id _ hg,← w3b wr m.obs id hid,h2,w3b wr _ id hid]
  unfold Mem.get at hg ⊢;rw [← h3,hg];exact Ob.same_refl _⟩
theorem agr {wr:List Nat} {m m':Mem} {K:Prop} (h:Nat.ble m.clk m'.clk=true) (h2:dropL wr m.obs=dropL wr (stayL m.obs m'.obs)) (k:K):O.agree wr m m'∧K:=⟨k0p hO (Nat.le_of_ble_eq_true h) h2,k⟩
omit hO in
theorem w5q {live ids caps:List Nat} {X:List AV→Mem→KX→Prop} {α:Type} (R:α→List AV→Mem→Prop) (μ:α→Nat)
  (step:∀ a tm m (L:List AV→Mem→Prop),R a tm m→(∀ b tm m,μ b < μ a→R b (fgT B live ids tm m) (fgM B live ids caps tm m)→L tm m)→X tm m fun e tm m=>match e with | .norm=>L tm m | .ret=>K .ret tm m | .ex i=>K (.ex i) tm m) :
  ∀ (N:Nat) (a:α) (tm:List AV) (m:Mem),μ a≤N→R a (fgT B live ids tm m) (fgM B live ids caps tm m)→loopW B live ids caps X K (N + 1) tm m
 | 0,a,tm,m,hn,hI=>step a _ _ _ hI fun b tm m hb _=>by omega
 | N + 1,a,tm,m,hn,hI=>step a _ _ _ hI fun b tm m hb hI=>w5q R μ step N b tm m (by omega) hI
theorem z0r {A:Nat→TI} (hA:A=fun t=>T.at t) (live ids caps:List Nat) {α:Type} (R:α→List AV→Mem→Prop) (μ:α→Nat) {c:Code} (a:α) (h0:R a (fgT B live ids tm m) (fgM B live ids caps tm m))
  (step:∀ a tm m (L:List AV→Mem→Prop),R a tm m→(∀ b tm m,μ b < μ a→R b (fgT B live ids tm m) (fgM B live ids caps tm m)→L tm m)→execO O A G c tm m (thenK L (K .ret) fun i=>K (.ex i))) :
  O.loop c tm m K:=by
 subst hO hA
 refine⟨live,ids,caps,μ a + 1,w5q R μ (fun a tm m L hr hl=>?_) _ a tm m (Nat.le_refl _) h0⟩
 have:=step a tm m L hr hl
 rw [z3k] at this
 have e:(thenK L (K .ret) fun i=>K (.ex i))=fun e tm m=>match e with | .norm=>L tm m | .ret=>K .ret tm m | .ex i=>K (.ex i) tm m:=by funext e tm m;cases e<;>rfl
 rw [e] at this;exact this
end rules
section mono
theorem z9x {m:Mem} {x:AV} {K K':CV→Mem→Prop} (h:∀ x m,K x m→K' x m) (hk:z3m m x K):z3m m x K':=by
 unfold z3m at *;split at hk
 ·exact h _ _ hk
 ·split at hk
  ·exact⟨hk.1,hk.2.1,h _ _ hk.2.2⟩
  ·exact hk.elim
 ·exact hk.elim
theorem z9w:∀ (l:List AV) {m:Mem} {K K':List CV→Mem→Prop} (_:∀ x m,K x m→K' x m) (_:z4s m l K),z4s m l K'
 | [],_,_,_,h,hk=>h _ _ hk
 | a :: l,_,_,_,h,hk=>z9x (fun x m hk=>z9w l (fun xs m hk=>h _ _ hk) hk) hk
theorem z3e {pk:Mem→AV→(OV→Mem→Prop)→Prop} (hp:∀ m x (K K':OV→Mem→Prop),(∀ o m,K o m→K' o m)→pk m x K→pk m x K'):∀ (l:List AV) {m:Mem} {K K':List OV→Mem→Prop} (_:∀ x m,K x m→K' x m) (_:z3f pk m l K),z3f pk m l K'
 | [],_,_,_,h,hk=>h _ _ hk
 | a :: l,_,_,_,h,hk=>hp _ _ _ _ (fun x m hk=>z3e hp l (fun xs m hk=>h _ _ hk) hk) hk
theorem z4a:∀ (n:Nat) (m:Mem) (x:AV) (K K':OV→Mem→Prop),(∀ o m,K o m→K' o m)→packW n m x K→packW n m x K'
 | 0,_,_,_,_,_,hk=>hk.elim
 | n + 1,m,x,K,K',h,hk=>by
  unfold packW at *
  split at hk
  ·exact h _ _ hk
  ·split at hk
   ·exact⟨hk.1,hk.2.1,h _ _ hk.2.2⟩
   ·exact hk.elim
  ·split at hk
   ·exact⟨hk.1,z3e (z4a n) _ (fun _ _ hk=>h _ _ hk) hk.2⟩
   ·exact hk.elim
  ·exact z3e (z4a n) _ (fun _ _ hk=>h _ _ hk) hk
  ·exact z3e (z4a n) _ (fun _ _ hk=>h _ _ hk) hk
  ·exact hk.elim
theorem w6q {m:Mem} {x:AV} {K K':OV→Mem→Prop} (h:∀ x m,K x m→K' x m) (hk:shutW m x K):shutW m x K':=by
 unfold shutW at *;split at hk
 ·exact z9w _ (fun _ _ hk=>h _ _ hk) hk
 ·exact z9x (fun _ _ hk=>h _ _ hk) hk
theorem w9k (md:Mode) {m:Mem} {x:AV} {K K':OV→Mem→Prop} (h:∀ x m,K x m→K' x m) (hk:argW md m x K):argW md m x K':=by
 cases md with
 | shut=>exact w6q h hk
 | keep=>cases x<;>first | exact hk.elim | exact h _ _ hk
 | own=>exact z4a _ _ _ _ _ h hk
 | ref s =>
  simp only [argW] at *
  split at hk
  ·split at hk
   ·exact⟨hk.1,hk.2.1,hk.2.2.1,z3e (z4a _) _ (fun _ _ hk=>h _ _ hk) hk.2.2.2⟩
   ·exact hk.elim
  ·exact hk.elim
theorem w1e:∀ (mds:List Mode) (l:List AV) (m:Mem) {K K':List OV→Mem→Prop} (_:∀ x m,K x m→K' x m) (_:argsW m mds l K),argsW m mds l K'
 | [],[],_,_,_,h,hk=>h _ _ hk
 | [],_ :: _,_,_,_,_,hk=>hk.elim
 | _ :: _,[],_,_,_,_,hk=>hk.elim
 | md :: mds,a :: l,_,_,_,h,hk=>w9k md (fun x m hk=>w1e mds l m (fun xs m hk=>h _ _ hk) hk) hk
end mono
section calls
variable {P:Program} {B:Nat} {T:Tab} {G:Glob} {O:Ops} (hO:O=std B T G (Den P G))
include hO
theorem k2c (mds:List Mode){os:List OV}{Q:OV→List OV→Prop}{f:FuncId} (hd:Den P G f os Q) {site:Nat} {m:Mem} {args:List AV} {K:KK}
  (hh:argsO O m mds args fun os' m=>os'=os∧∀ r bs,Q r bs→backO site m mds args bs fun id m=>K (z1h depth id m r).1 (z1h depth id m r).2.2):O.call site m f args K:=by
 subst hO
 refine .inl ⟨mds,?_⟩
 rw [w3y] at hh
 refine w1e mds args m ?_ hh
 rintro os' m' ⟨rfl,h⟩
 exact⟨Q,hd,fun r bs hq=>z6z _ _ _ _ _ _ (h r bs hq)⟩
theorem k1x {A : Nat → TI} (hA : A = fun t => T.at t) (hm : P.follows .mixedOrders = true) (hT : TabOk P T) {f : FuncId} {fn : Func} {body : Code} (hf : P.funcs[f]? = some fn) (hb : fn.body = some body) (hname : (fn.name == "runtime.NumGoroutine") = false)
  {os:List OV} {Q:OV→List OV→Prop} (hlen:Nat.ble os.length fn.ntmps=true) (hB:(z1d (z1h depth) 0 ⟨[],0⟩ os).2.2.clk=B) {sh:Bool} (hk:FnO O A G fn body os Q sh):Den P G f os Q:=by
 subst hO hA
 rw [k2h _ _ _ _ _ hB] at hk
 exact k3a hm hT (fun _ _ _ h=>h) hf hb hname (Nat.le_of_ble_eq_true hlen) hk
end calls
end Go.Proofs.Ytioiigabeoaneaa.V
namespace Go.Proofs.Ytioiigabeoaneaa.V
open Go
@[simp] theorem bits_u8:IntKind.u8.bits=8:=rfl
@[simp] theorem bits_i64:IntKind.i64.bits=64:=rfl
@[simp] theorem bits_u64:IntKind.u64.bits=64:=rfl
@[simp] theorem natc (n:Nat):Int.ofNat n=(n:Int):=rfl
theorem z3h {n:Int} (h:-9223372036854775808≤n∧n≤9223372036854775807):IntKind.i64.wrap n=n:=IntWalk.i64_in n h
theorem w1x {n:Int} (h:0≤n∧n≤18446744073709551615):IntKind.u64.wrap n=n:=IntWalk.u64_in n h
@[simp] theorem z0h (l:List UInt8):(encB l).length=l.length:=by simp [encB]
@[simp] theorem z9t (a b:List UInt8):encB (a++b)=encB a++encB b:=by simp [encB]
@[simp] theorem encB_nil:encB []=[]:=rfl
theorem w3n (c:UInt8) (l:List UInt8):encB (c :: l)=[.v (.int .u8 c.toNat)] :: encB l:=rfl
theorem w1r {l:List UInt8} {i:Nat} (h:i < l.length):(encB l).getD i []=[.v (.int .u8 (l[i]).toNat)]:=by simp [encB,List.getD,h]
@[simp] theorem z4z (l:List UInt8) (n:Nat):(encB l).drop n=encB (l.drop n):=by simp [encB,List.map_drop]
@[simp] theorem z6x (l:List UInt8) (n:Nat):(encB l).take n=encB (l.take n):=by simp [encB,List.map_take]
def encI (l:List Int):List (List CV):=l.map fun n=>[.v (.int .i64 n)]
@[simp] theorem k1w (l:List Int):(encI l).length=l.length:=by simp [encI]
def uv (n:Int):Nat:=(n % 18446744073709551616).toNat
theorem z8n (n:Nat) (h:n < 2 ^ 64):uv (n:Int)=n:=by unfold uv;omega
theorem z7y:∀ l:List UInt8,bytesOf (encB l)=some l
 | []=>rfl
 | c :: l=>by rw [w3n,bytesOf,z7y l];simp
theorem w2s (n:Nat) (a:Nat):(BitVec.ofInt n (a:Int)).toNat=a % 2 ^ n:=by simp
theorem w9j (n a b:Nat) (ha:a < 2 ^ n) (hb:b < 2 ^ n):bOr n (a:Int) (b:Int)=a ||| b:=by
 unfold bOr;rw [BitVec.toNat_or,w2s,w2s,Nat.mod_eq_of_lt ha,Nat.mod_eq_of_lt hb]
end Go.Proofs.Ytioiigabeoaneaa.V
namespace Go.Proofs.Ytioiigabeoaneaa.V
open Go
def gd {ρ:Type} (p:Prop) [Decidable p] (fail k:ρ):ρ:=if p then k else fail
abbrev nilE:EL:=[]
def tobP {ρ:Type} (fail:ρ) (es:EL) (k:ByteArray→ρ):ρ:=match bytesOf es with | some b=>k ⟨b.toArray⟩ | none=>fail
theorem z1f {p:Prop} [Decidable p] {k:Prop} (h:gd p False k):p∧k:=by
 unfold gd at h;split at h
 ·exact⟨by assumption,h⟩
 ·exact h.elim
section
variable {O:Ops} {B:Nat} {T:Tab} {G:Glob} {D:Spec} (hO:O=std B T G D)
theorem and_h {p:Prop} [Decidable p] {k C R:Prop} (h:gd p False k) (e:p→C) (f:k→R):C∧R:=by
 unfold gd at h;split at h
 ·exact⟨e (by assumption),f h⟩
 ·exact h.elim
include hO
theorem br_h {v c:Bool} {A A':Unit→Prop} {a b:Prop} (h:cond c a b) (e:v=c) (h1:v=true→a→A ()) (h2:v=false→b→A' ()):O.br v A A':=by
 subst e;exact br_of hO (fun hv=>h1 hv (by subst hv;exact h)) (fun hv=>h2 hv (by subst hv;exact h))
theorem z0e {A:Nat→TI} (hA:A=fun t=>T.at t) {v c:Bool} {x y:Code} {tm₁ tm₂:List AV} {m₁ m₂:Mem} {N Rt:List AV→Mem→Prop} {X:Nat→List AV→Mem→Prop} {a b:Prop} (h:cond c a b) (e:v=c) (live ids caps:List Nat) (R:List AV→Mem→Prop)
  (h1:v=true→a→∀ L:List AV→Mem→Prop,(∀ tm m,R (fgT B live ids tm m) (fgM B live ids caps tm m)→L tm m)→execO O A G x tm₁ m₁ (thenK L Rt X))
  (h2:v=false→b→∀ L:List AV→Mem→Prop,(∀ tm m,R (fgT B live ids tm m) (fgM B live ids caps tm m)→L tm m)→execO O A G y tm₂ m₂ (thenK L Rt X))
  (h3:∀ tm m,R tm m→N tm m) :
  O.br v (fun _=>execO O A G x tm₁ m₁ (thenK (O.join N) Rt X)) (fun _=>execO O A G y tm₂ m₂ (thenK (O.join N) Rt X)):=by
 subst e
 exact k2d hO hA live ids caps R (fun hv=>h1 hv (by subst hv;exact h)) (fun hv=>h2 hv (by subst hv;exact h)) h3
theorem z0z {n:Nat} {es:EL} {K:EL→Prop} {p:Prop} [Decidable p] {k:Prop} (h:gd p False k) (e:p→n≤es.length) (f:k→K (O.take n es)):O.view n es K :=
 z1p hO (e (z1f h).1) (f (z1f h).2)
theorem tob_h {es es':EL} {k K:ByteArray→Prop} (h:tobP False es' k) (e:es=es') (f:∀ s,k s→K s):O.tob es K:=by
 subst e hO
 show (match bytesOf es with | some b=>K ⟨b.toArray⟩ | none=>False)
 unfold tobP at h
 split at h
 ·exact f _ h
 ·exact h.elim
end
section
variable {m:Mem}
theorem w5s:lendL m [] []:=trivial
theorem k2m {id ver n sz:Nat} {es:EL} {cap:Option Nat} {xs:List AV} {os:List OV} (hg:m.get id=some (.arr ver sz es cap false)) (hn:n≤es.length) (h8:u8E es=true) (hr:lendL m xs os) :
  lendL m (.t id ver n :: xs) (.c (.sl sz (es.take n) none) :: os):=by
 refine⟨?_,hr⟩
 unfold lendA;dsimp only;rw [hg]
 exact⟨rfl,rfl,hn,h8,rfl,.inl rfl⟩
theorem k2n {id ver n sz c:Nat} {es:EL} {xs:List AV} {os:List OV} (hg:m.get id=some (.arr ver sz es (some c) false)) (hn:n≤es.length) (h8:u8E es=true) (hc:c=es.length) (hlt:n < es.length) (hr:lendL m xs os) :
  lendL m (.t id ver n :: xs) (.c (.sl sz (es.take n) (some (es.drop n))) :: os):=by
 refine⟨?_,hr⟩
 unfold lendA;dsimp only;rw [hg]
 exact⟨rfl,rfl,hn,h8,rfl,.inr ⟨⟨by rw [hc],hlt⟩,rfl⟩⟩
theorem k2o {y z:CV} {xs:List AV} {os:List OV} (hz:z=normC y) (hr:lendL m xs os):lendL m (.c y :: xs) (.c z :: os):=⟨.inr hz,hr⟩
end
section
variable {P:Program} {O:Ops} {B:Nat} {T:Tab} {G:Glob} (hO:O=std B T G (Den P G))
include hO
theorem z0d (mds:List Mode){os0:List OV}{Q0:OV→List OV→Prop}{f:FuncId} (hd:Den P G f os0 Q0) {site:Nat} {m:Mem} {args:List AV} {K:KK}
  (hh:∀ (os:List OV) (Q:OV→List OV→Prop),os=os0→Q=Q0→argsO O m mds args fun os' m=>os'=os∧∀ r bs,Q r bs→backO site m mds args bs fun id m=>K (z1h depth id m r).1 (z1h depth id m r).2.2):O.call site m f args K :=
 k2c hO mds hd (hh _ _ rfl rfl)
theorem k0z {os0:List OV}{Q0:OV→List OV→Prop}{f:FuncId} (hd:Den P G f os0 Q0) {site:Nat} {m:Mem} {args:List AV} {K:KK} (hl:lendL m args os0)
  (hh:∀ r bs,Q0 r bs→safeO r=true∧K (z1h depth site m r).1 (z1h depth site m r).2.2):O.call site m f args K:=by
 subst hO
 exact .inr ⟨os0,hl,Q0,hd,hh⟩
theorem den_h {A : Nat → TI} (hA : A = fun t => T.at t) (hm : P.follows .mixedOrders = true) (hT : TabOk P T) {f : FuncId} {fn : Func} {body : Code} (hf : P.funcs[f]? = some fn) (hb : fn.body = some body) (hname : (fn.name == "runtime.NumGoroutine") = false)
  {os:List OV} {Q:OV→List OV→Prop} (hlen:Nat.ble os.length fn.ntmps=true) (hB:(z1d (z1h depth) 0 ⟨[],0⟩ os).2.2.clk=B) {sh:Bool} (hk:∀ Q',Q'=Q→FnO O A G fn body os Q' sh):Den P G f os Q :=
 k1x hO hA hm hT hf hb hname hlen hB (hk Q rfl)
end
end Go.Proofs.Ytioiigabeoaneaa.V
namespace Go.Proofs.Ytioiigabeoaneaa.V
open Go
def allS (w:World):Area:=fun b _=>b < w.heap.size
theorem w3u {P:Program}{G:Glob}{f:FuncId}{os:List OV}{Q:OV→List OV→Prop} (hd:Den P G f os Q) (hQ:∀ r bs,Q r bs→r=.c (.v (.bool true))) (hG:∀ g,G g=none)
  {w:World} {us:List Value} {F:Area} (ho:OwnL (allS w) w F os us) (hF:∀ b o,¬ F b o) :
  Calls P f us.toArray w fun e w'=>e=.returned (.bool true)∧Ext (fun _ _=>False) w w':=by
 refine Calls.mono (hd.2 (allS w) F w us (fun _ _ h=>h) (fun b o h=>absurd h (hF b o)) (fun g cs h=>by rw [hG] at h;simp at h) ho) ?_
 rintro e w' ⟨v,r,bs,S',Fr,Fb,rfl,hq,hr,hb,hend⟩
 have:=hQ r bs hq
 subst this
 cases hr with | c _ _ hr =>
 cases hr
 have hext:=hend.ext
 exact⟨rfl,⟨hext.os,hext.tape,hext.output,hext.size,fun b o hb _=>hext.cell b o hb (hF b o),hext.shape,hext.frz,fun b hb _=>hext.obj b hb (hF b)⟩⟩
theorem Ext.kept {w w':World} (h:Ext (fun _ _=>False) w w') (may:MemPlace→Prop):w.keptBut w' may:=by
 refine⟨h.os,h.output,fun i hi=>?_⟩
 rw [h.obj i hi (fun _ q=>q)]
 cases w.heap[i]? with
 | none=>trivial
 | some ob=>cases ob<;>simp
end Go.Proofs.Ytioiigabeoaneaa.V
namespace Go.Proofs.Ytioiigabeoaneaa
open Go V
set_option maxRecDepth 10000
def varB (v:Nat):List UInt8:=if v < 128 then [UInt8.ofNat v] else UInt8.ofNat (v % 128 + 128) :: varB (v / 128)
termination_by v
def tv:Nat→List UInt8→Except Int (Nat × Nat)
 | _,[]=>.error 2
 | i,c :: cs =>
  if i=9∧1 < c.toNat then .error 4
  else if 128≤c.toNat then (match tv (i + 1) cs with | .ok (v,k)=>.ok (c.toNat - 128 + 128 * v,k + 1) | .error e=>.error e)
  else if c.toNat=0∧0 < i then .error 5
  else .ok (c.toNat,1)
theorem w9r (v:Nat):1≤(varB v).length:=by unfold varB;split<;>simp
theorem k1l {v:Nat} (h:v < 128):varB v=[UInt8.ofNat v]:=by unfold varB;rw [if_pos h]
theorem k1m {v:Nat} (h:128≤v):varB v=UInt8.ofNat (v % 128 + 128) :: varB (v / 128):=by rw [varB];rw [if_neg (by omega)]
theorem z8o:∀ (bs:List UInt8) (i v k:Nat),tv i bs=.ok (v,k)→1≤k∧k≤bs.length
 | [],_,_,_,h=>by simp [tv] at h
 | c :: cs,i,v,k,h=>by
  simp only [tv] at h
  split at h
  ·cases h
  ·split at h
   ·split at h
    ·rename_i v' k' h'
     injection h with h;injection h with h1 h2;subst h2
     have:=z8o cs (i + 1) v' k' h'
     simp;omega
    ·cases h
   ·split at h
    ·cases h
    ·injection h with h;injection h with h1 h2;subst h2;simp
theorem w0f:∀ (bs:List UInt8) (i:Nat) (e:Int),tv i bs=.error e→e=2∨e=4∨e=5
 | [],_,_,h=>by simp [tv] at h;exact .inl h.symm
 | c :: cs,i,e,h=>by
  simp only [tv] at h
  split at h
  ·injection h with h;exact .inr (.inl h.symm)
  ·split at h
   ·split at h
    ·cases h
    ·rename_i e' h';injection h with h;subst h;exact w0f cs _ _ h'
   ·split at h
    ·injection h with h;exact .inr (.inr h.symm)
    ·cases h
theorem tv_lt:∀ (bs:List UInt8) (i v k:Nat),i≤9→tv i bs=.ok (v,k)→v * 2 ^ (7 * i) < 2 ^ 64
 | [],_,_,_,_,h=>by simp [tv] at h
 | c :: cs,i,v,k,hi,h=>by
  simp only [tv] at h
  have hc:=c.toNat_lt
  split at h
  ·cases h
  ·rename_i h9
   split at h
   ·rename_i hc2
    split at h
    ·rename_i v' k' h'
     injection h with h;injection h with h1 h2;subst h1
     have hi':i≠9:=fun q=>h9 ⟨q,by omega⟩
     have:=tv_lt cs (i + 1) v' k' (by omega) h'
     have hp:2 ^ (7 * (i + 1))=128 * 2 ^ (7 * i):=by rw [show 7 * (i + 1)=7 * i + 7 by omega,Nat.pow_add];omega
     rw [hp] at this
     have h64:2 ^ 64=2 ^ (64 - 7 * i) * 2 ^ (7 * i):=by rw [← Nat.pow_add];congr 1;omega
     have hq:2 ^ (64 - 7 * i)=128 * 2 ^ (57 - 7 * i):=by rw [show 64 - 7 * i=7 + (57 - 7 * i) by omega,Nat.pow_add]
     have hpos:0 < 2 ^ (7 * i):=Nat.two_pow_pos _
     have hv:v' < 2 ^ (57 - 7 * i):=by
      rw [h64,hq] at this
      have h2:(128 * v') * 2 ^ (7 * i) < (128 * 2 ^ (57 - 7 * i)) * 2 ^ (7 * i):=by
       calc (128 * v') * 2 ^ (7 * i)=v' * (128 * 2 ^ (7 * i)):=by rw [Nat.mul_comm 128 v',Nat.mul_assoc]
        _ < _:=this
      have:=Nat.lt_of_mul_lt_mul_right h2
      omega
     rw [h64]
     apply Nat.mul_lt_mul_of_pos_right _ hpos
     rw [hq];omega
    ·cases h
   ·rename_i hc2
    split at h
    ·cases h
    ·injection h with h;injection h with h1 h2;subst h1
     have h64:2 ^ 64=2 ^ (64 - 7 * i) * 2 ^ (7 * i):=by rw [← Nat.pow_add];congr 1;omega
     rw [h64]
     apply Nat.mul_lt_mul_of_pos_right _ (Nat.two_pow_pos _)
     by_cases h8:i=9
     ·subst h8
      have:c.toNat≤1:=by rcases Nat.lt_or_ge 1 c.toNat with q | q;exact absurd ⟨rfl,q⟩ h9;exact q
      show c.toNat < 2 ^ (64 - 63)
      omega
     ·have:2 ^ 7≤2 ^ (64 - 7 * i):=Nat.pow_le_pow_right (by omega) (by omega)
      omega
theorem w5h {bs:List UInt8} {v k:Nat} (h:tv 0 bs=.ok (v,k)):v < 2 ^ 64:=by have:=tv_lt bs 0 v k (by omega) h;simpa using this
theorem w7o:∀ (bs:List UInt8) (i v k:Nat),tv i bs=.ok (v,k)→bs.take k=varB v∧(0 < i→0 < v)
 | [],_,_,_,h=>by simp [tv] at h
 | c :: cs,i,v,k,h=>by
  simp only [tv] at h
  have hc:=c.toNat_lt
  split at h
  ·cases h
  ·split at h
   ·rename_i hc2
    split at h
    ·rename_i v' k' h'
     injection h with h;injection h with h1 h2;subst h1;subst h2
     obtain⟨h3,h4⟩:=w7o cs (i + 1) v' k' h'
     have h5:=h4 (by omega)
     refine⟨?_,fun _=>by omega⟩
     rw [k1m (by omega),List.take_succ_cons,h3]
     congr 1
     ·rw [show (c.toNat - 128 + 128 * v') % 128 + 128=c.toNat by omega];exact UInt8.ofNat_toNat.symm
     ·congr 1;omega
    ·cases h
   ·split at h
    ·cases h
    ·rename_i hc2 hz
     injection h with h;injection h with h1 h2;subst h1;subst h2
     refine⟨?_,fun hi=>Nat.pos_of_ne_zero fun q=>hz ⟨q,hi⟩⟩
     rw [k1l (by omega)]
     simp
def z0q {ρ:Type} (fail:ρ) (r:List CV) (k:Int→Int→ByteArray→EL→EL→ρ):ρ:=match r with
 | [.v (.int .i64 c0),.v (.int .i64 c1),.v (.string c2),.sl 3 c3 none,.sl 5 c4 none]=>k c0 c1 c2 c3 c4
 | _=>fail
theorem z0s {r:List CV} {k:Int→Int→ByteArray→EL→EL→Prop} (h:z0q False r k):∃ (c0:Int) (c1:Int) (c2:ByteArray) (c3:EL) (c4:EL),r=[.v (.int .i64 c0),.v (.int .i64 c1),.v (.string c2),.sl 3 c3 none,.sl 5 c4 none]∧k c0 c1 c2 c3 c4:=by
 unfold z0q at h;split at h
 ·exact⟨_,_,_,_,_,rfl,h⟩
 ·exact h.elim
def z0y {ρ:Type} (fail:ρ) (r:List CV) (k:Int→Int→EL→ρ):ρ:=match r with
 | [.v (.int .i64 c0),.v (.int .i64 c1),.sl 3 c2 none]=>k c0 c1 c2
 | _=>fail
theorem z0v {r:List CV} {k:Int→Int→EL→Prop} (h:z0y False r k):∃ (c0:Int) (c1:Int) (c2:EL),r=[.v (.int .i64 c0),.v (.int .i64 c1),.sl 3 c2 none]∧k c0 c1 c2:=by
 unfold z0y at h;split at h
 ·exact⟨_,_,_,rfl,h⟩
 ·exact h.elim
def z0p {ρ:Type} (fail:ρ) (r:List CV) (k:ByteArray→Int→Int→ByteArray→EL→EL→ρ):ρ:=match r with
 | [.v (.string c0),.v (.int .i64 c1),.v (.int .i64 c2),.v (.string c3),.sl 3 c4 none,.sl 5 c5 none]=>k c0 c1 c2 c3 c4 c5
 | _=>fail
theorem z0x {r:List CV} {k:ByteArray→Int→Int→ByteArray→EL→EL→Prop} (h:z0p False r k):∃ (c0:ByteArray) (c1:Int) (c2:Int) (c3:ByteArray) (c4:EL) (c5:EL),r=[.v (.string c0),.v (.int .i64 c1),.v (.int .i64 c2),.v (.string c3),.sl 3 c4 none,.sl 5 c5 none]∧k c0 c1 c2 c3 c4 c5:=by
 unfold z0p at h;split at h
 ·exact⟨_,_,_,_,_,_,rfl,h⟩
 ·exact h.elim
def w7y {ρ:Type} (fail:ρ) (r:List CV) (k:Int→ρ):ρ:=match r with
 | [.v (.int .i64 c0)]=>k c0
 | _=>fail
theorem w6s {r:List CV} {k:Int→Prop} (h:w7y False r k):∃ (c0:Int),r=[.v (.int .i64 c0)]∧k c0:=by
 unfold w7y at h;split at h
 ·exact⟨_,rfl,h⟩
 ·exact h.elim
def rw_u8 {ρ:Type} (fail:ρ) (r:List CV) (k:Int→ρ):ρ:=match r with
 | [.v (.int .u8 c0)]=>k c0
 | _=>fail
theorem z2s {r:List CV} {k:Int→Prop} (h:rw_u8 False r k):∃ (c0:Int),r=[.v (.int .u8 c0)]∧k c0:=by
 unfold rw_u8 at h;split at h
 ·exact⟨_,rfl,h⟩
 ·exact h.elim
def p59_1 {ρ:Type} (fail:ρ) (fu:Nat) (K0:Int→Int→Int→ρ) (z3 j6:Int) (j7:Bool):ρ :=
 bif j7 then (K0 0 0 5) else (K0 j6 (z0c .add .i64 z3 1) 0)
def p59_2 {ρ:Type} (fail:ρ) (fu:Nat) (K0:Int→Int→Int→ρ) (rec1:Int→Int→Int→ρ) (z1 z2 z3 c4:Int) (j5:Bool):ρ :=
 bif j5 then (K0 0 0 4) else (gd ((0:Int)≤(IntKind.u64.wrap (z0c .mul .i64 7 z3))) fail (bif (z0a .geq c4 128) then (rec1 (z0c .or .u64 z1 (z0c .shl .u64 (IntKind.u64.wrap (z0c .andNot .u8 c4 128)) (IntKind.u64.wrap (z0c .mul .i64 7 z3)))) z2 (z0c .add .i64 z3 1)) else (bif (z0a .eql c4 0) then (p59_1 fail fu K0 z3 (z0c .or .u64 z1 (z0c .shl .u64 (IntKind.u64.wrap (z0c .andNot .u8 c4 128)) (IntKind.u64.wrap (z0c .mul .i64 7 z3)))) (z0a .gtr z3 0)) else (p59_1 fail fu K0 z3 (z0c .or .u64 z1 (z0c .shl .u64 (IntKind.u64.wrap (z0c .andNot .u8 c4 128)) (IntKind.u64.wrap (z0c .mul .i64 7 z3)))) false))))
def p59_3 {ρ:Type} (fail:ρ) (fu:Nat) (K0:Int→Int→Int→ρ) (rec1:Int→Int→Int→ρ) (x0:EL) (z1 z2 z3:Int):ρ :=
 bif (z0a .lss z3 z2) then (gd ((0:Int)≤z3) fail (gd ((z3:Int) < (x0.length:Nat)) fail (rw_u8 fail (List.getD x0 ((z3:Int).toNat) []) (fun c4=>bif (z0a .eql z3 9) then (p59_2 fail fu K0 rec1 z1 z2 z3 c4 (z0a .gtr c4 1)) else (p59_2 fail fu K0 rec1 z1 z2 z3 c4 false))))) else (K0 0 0 2)
def p59_3L {ρ:Type} (fail:ρ) (fu:Nat) (K0:Int→Int→Int→ρ) (x0:EL):Nat→Int→Int→Int→ρ
 | 0,_,_,_=>fail
 | n + 1,z1,z2,z3=>p59_3 fail fu K0 (p59_3L fail fu K0 x0 n) x0 z1 z2 z3
def p59 {ρ:Type} (fail:ρ) (fu:Nat) (K0:Int→Int→Int→ρ) (x0:EL):ρ :=
 p59_3L fail fu K0 x0 fu 0 ((x0.length:Nat):Int) 0
def p15_1 {ρ:Type} (fail:ρ) (fu:Nat) (K0:EL→Int→ρ) (x0:EL) (j1:Int):ρ :=
 K0 x0 j1
def p15 {ρ:Type} (fail:ρ) (fu:Nat) (K0:EL→Int→ρ) (x0:EL) (x1 x2:Int):ρ :=
 bif (z0a .eql x1 0) then (p15_1 fail fu K0 x0 x2) else (p15_1 fail fu K0 x0 x1)
def p41 {ρ:Type} (fail:ρ) (fu:Nat) (K0:Int→EL→Int→ρ) (x0:EL) (x1:Int):ρ :=
 bif (z0a .neq x1 0) then (K0 0 x0 x1) else (p59 fail fu (fun y1 y2 y3=>p15 fail fu (fun y4 y5=>gd ((0:Int)≤y2) fail (gd ((y2:Int)≤(y4.length:Nat)) fail (gd (((y4.length:Nat):Int)≤(y4.length:Nat)) fail (K0 y1 (List.drop ((y2:Int).toNat) (List.take (((y4.length:Nat):Int).toNat) y4)) y5)))) x0 x1 y3) x0)
def p13_1 {ρ:Type} (fail:ρ) (fu:Nat) (K0:Int→EL→Int→ρ) (x2 y1:Int) (y2:EL) (y3:Int) (j4:Bool):ρ :=
 bif j4 then (p15 fail fu (fun y5 y6=>K0 x2 y5 y6) y2 y3 5) else (K0 (IntKind.i64.wrap y1) y2 y3)
def p13 {ρ:Type} (fail:ρ) (fu:Nat) (K0:Int→EL→Int→ρ) (x0:EL) (x1 x2 x3:Int):ρ :=
 p41 fail fu (fun y1 y2 y3=>bif (z0a .lss y1 (IntKind.u64.wrap x2)) then (p13_1 fail fu K0 x2 y1 y2 y3 true) else (p13_1 fail fu K0 x2 y1 y2 y3 (z0a .gtr y1 (IntKind.u64.wrap x3)))) x0 x1
def p16 {ρ:Type} (fail:ρ) (fu:Nat) (K0:Int→EL→Int→ρ) (x0:EL) (x1:Int):ρ :=
 p41 fail fu (fun y1 y2 y3=>bif (z0a .gtr y1 1073741824) then (p15 fail fu (fun y4 y5=>K0 0 y4 y5) y2 y3 4) else (K0 (IntKind.i64.wrap y1) y2 y3)) x0 x1
def p44 {ρ:Type} (fail:ρ) (fu:Nat) (K0:EL→Int→Int→ρ) (x0:EL) (x1:Int):ρ :=
 p59 fail fu (fun y1 y2 y3=>bif (z0a .neq y3 0) then (K0 nilE 0 y3) else (bif (z0a .gtr y1 (IntKind.u64.wrap (if 0 > x1 then 0 else x1))) then (K0 nilE 0 3) else (bif (z0a .gtr y1 (IntKind.u64.wrap (z0c .sub .i64 ((x0.length:Nat):Int) y2))) then (K0 nilE 0 2) else (gd ((0:Int)≤y2) fail (gd ((y2:Int)≤(z0c .add .i64 y2 (IntKind.i64.wrap y1))) fail (gd ((z0c .add .i64 y2 (IntKind.i64.wrap y1):Int)≤(z0c .add .i64 y2 (IntKind.i64.wrap y1))) fail (gd ((z0c .add .i64 y2 (IntKind.i64.wrap y1):Int)≤(x0.length:Nat)) fail (gd (0=nilE.length) fail (gd ((nilE.length + (List.drop ((y2:Int).toNat) (List.take ((z0c .add .i64 y2 (IntKind.i64.wrap y1):Int).toNat) x0)).length) * 1≤35184372088832) fail (K0 (nilE++(List.drop ((y2:Int).toNat) (List.take ((z0c .add .i64 y2 (IntKind.i64.wrap y1):Int).toNat) x0))) (z0c .add .i64 y2 (IntKind.i64.wrap y1)) 0)))))))))) x0
def p20 {ρ:Type} (fail:ρ) (fu:Nat) (K0:EL→EL→Int→ρ) (x0:EL) (x1 x2:Int):ρ :=
 bif (z0a .neq x1 0) then (K0 nilE x0 x1) else (p44 fail fu (fun y1 y2 y3=>p15 fail fu (fun y4 y5=>gd ((0:Int)≤y2) fail (gd ((y2:Int)≤(y4.length:Nat)) fail (gd (((y4.length:Nat):Int)≤(y4.length:Nat)) fail (K0 y1 (List.drop ((y2:Int).toNat) (List.take (((y4.length:Nat):Int).toNat) y4)) y5)))) x0 x1 y3) x0 x2)
def p61_1 {ρ:Type} (fail:ρ) (fu:Nat) (K0:EL→Int→Int→ρ) (j1:EL) (j2 j3:Int):ρ :=
 K0 j1 j2 j3
def p61_2 {ρ:Type} (fail:ρ) (fu:Nat) (K0:EL→Int→Int→ρ) (j6:EL) (j7 j8:Int):ρ :=
 p61_1 fail fu K0 j6 j7 j8
def p61 {ρ:Type} (fail:ρ) (fu:Nat) (K0:EL→Int→Int→ρ) (x0:EL) (x1 x2 x3 x4 x5:Int):ρ :=
 bif (z0a .gtr (z0c .add .i64 x2 1) x3) then (p15 fail fu (fun y4 y5=>p61_1 fail fu K0 y4 y5 (z0c .add .i64 x2 1)) x0 x1 3) else (bif (z0a .gtr x4 x5) then (p15 fail fu (fun y9 y10=>p61_2 fail fu K0 y9 y10 (z0c .add .i64 x2 1)) x0 x1 6) else (p61_2 fail fu K0 x0 x1 (z0c .add .i64 x2 1)))
theorem gd_y {ρ:Type} {p:Prop} [Decidable p] {f k:ρ} (h:p):gd p f k=k:=if_pos h
theorem eqlT {a b:Int} (h:a=b):z0a .eql a b=true:=by subst h;simp [z0a]
theorem eqlF {a b:Int} (h:a≠b):z0a .eql a b=false:=by simp [z0a,h]
theorem neqT {a b:Int} (h:a≠b):z0a .neq a b=true:=by simp [z0a,h]
theorem neqF {a b:Int} (h:a=b):z0a .neq a b=false:=by subst h;simp [z0a]
theorem lssT {a b:Int} (h:a < b):z0a .lss a b=true:=decide_eq_true h
theorem lssF {a b:Int} (h:b≤a):z0a .lss a b=false:=decide_eq_false (by omega)
theorem gtrT {a b:Int} (h:b < a):z0a .gtr a b=true:=decide_eq_true h
theorem gtrF {a b:Int} (h:a≤b):z0a .gtr a b=false:=decide_eq_false (by omega)
theorem geqT {a b:Int} (h:b≤a):z0a .geq a b=true:=decide_eq_true h
theorem geqF {a b:Int} (h:a < b):z0a .geq a b=false:=decide_eq_false (by omega)
theorem addZ {a b:Int} (h1:-4611686018427387904≤a∧a≤4611686018427387903) (h2:-4611686018427387904≤b∧b≤4611686018427387903):z0c .add .i64 a b=a + b:=z3h (by omega)
theorem subZ {a b:Int} (h1:-4611686018427387904≤a∧a≤4611686018427387903) (h2:-4611686018427387904≤b∧b≤4611686018427387903):z0c .sub .i64 a b=a - b:=z3h (by omega)
theorem mulZ {a b:Int} (h:-4611686018427387904≤a * b∧a * b≤4611686018427387903):z0c .mul .i64 a b=a * b:=z3h (by omega)
theorem w9l (c:UInt8):z0c .andNot .u8 (c.toNat:Nat) 128=((c.toNat % 128:Nat):Int):=by
 have:∀ x:Fin 256,z0c .andNot .u8 (x.val:Nat) 128=((x.val % 128:Nat):Int):=by decide +kernel
 exact this ⟨c.toNat,c.toNat_lt⟩
theorem z2v (n:Nat) (h:n < 2 ^ 64):IntKind.u64.wrap ((n:Nat):Int)=((n:Nat):Int):=by
 have h':n < 18446744073709551616:=h
 exact w1x (by omega)
theorem k0x (a m i:Nat) (ha:a < 2 ^ (7 * i)) (hi:i≤9) (hm:m * 2 ^ (7 * i) < 2 ^ 64):z0c .or .u64 (a:Nat) (z0c .shl .u64 (m:Nat) ((7 * i:Nat):Int))=((a + m * 2 ^ (7 * i):Nat):Int):=by
 have hs:z0c .shl .u64 (m:Nat) ((7 * i:Nat):Int)=((m * 2 ^ (7 * i):Nat):Int):=by
  show IntKind.u64.wrap ((m:Int) * 2 ^ (min (((7 * i:Nat):Int)).toNat 64))=_
  have hmin:min (((7 * i:Nat):Int)).toNat 64=7 * i:=by rw [Int.toNat_natCast];omega
  have hp:(m:Int) * 2 ^ (7 * i)=((m * 2 ^ (7 * i):Nat):Int):=by rw [Int.natCast_mul,Int.natCast_pow];rfl
  rw [hmin,hp,z2v _ hm]
 rw [hs]
 show IntKind.u64.wrap (bOr 64 _ _:Nat)=_
 have ha2:a < 2 ^ 64:=Nat.lt_of_lt_of_le ha (Nat.pow_le_pow_right (by omega) (by omega))
 rw [w9j 64 _ _ ha2 hm]
 have h1:a ||| m * 2 ^ (7 * i)=a + m * 2 ^ (7 * i):=by
  have:=Nat.shiftLeft_add_eq_or_of_lt ha m
  rw [Nat.shiftLeft_eq] at this
  rw [Nat.or_comm,← this,Nat.add_comm]
 have h2:a + m * 2 ^ (7 * i) < 2 ^ 64:=by rw [← h1];exact Nat.or_lt_two_pow ha2 hm
 rw [h1,z2v _ h2]
theorem z8t {ρ:Type} (fail:ρ) (bs:List UInt8) (i:Nat) (h:i < bs.length) (k:Int→ρ):rw_u8 fail (List.getD (encB bs) ((i:Int).toNat) []) k=k ((bs[i]).toNat:Nat):=by
 rw [Int.toNat_natCast,w1r h];rfl
def tvK {ρ:Type} (i a:Nat) (K:Int→Int→Int→ρ):Except Int (Nat × Nat)→ρ
 | .ok (v,k)=>K ((a + v * 2 ^ (7 * i):Nat):Int) ((i + k:Nat):Int) 0
 | .error e=>K 0 0 e
theorem w2b {ρ:Type} (fail:ρ) (fu:Nat) (K:Int→Int→Int→ρ) (bs:List UInt8) (hl:bs.length≤1099511627776):∀ (n i a:Nat),i≤9→i≤bs.length→10≤n + i→a < 2 ^ (7 * i) →
  p59_3L fail fu K (encB bs) n (a:Nat) ((bs.length:Nat):Int) (i:Nat)=tvK i a K (tv i (bs.drop i)):=by
 intro n
 induction n with
 | zero=>intro i a hi;omega
 | succ n ih =>
  intro i a hi hib hn ha
  rw [p59_3L,p59_3]
  by_cases hlt:i < bs.length
  ·have hd:bs.drop i=bs[i] :: bs.drop (i + 1):=List.drop_eq_getElem_cons hlt
   rw [lssT (by omega),cond_true,gd_y (by omega),gd_y (by rw [z0h];omega),z8t fail bs i hlt,hd]
   generalize bs[i]=c
   have hc:=c.toNat_lt
   simp only [tv]
   have h7:z0c .mul .i64 7 (i:Nat)=((7 * i:Nat):Int):=by rw [mulZ (by omega)];omega
   have h7u:IntKind.u64.wrap ((7 * i:Nat):Int)=((7 * i:Nat):Int):=w1x (by omega)
   have hcu:IntKind.u64.wrap ((c.toNat % 128:Nat):Int)=((c.toNat % 128:Nat):Int):=w1x (by omega)
   have h9:∀ b:Bool,(b=decide (i=9∧1 < c.toNat))→p59_2 fail fu K (p59_3L fail fu K (encB bs) n) (a:Nat) ((bs.length:Nat):Int) (i:Nat) ((c.toNat:Nat):Int) b=tvK i a K (tv i (c :: bs.drop (i + 1))):=fun b hb=>by
    rw [p59_2,h7,h7u,w9l,hcu]
    simp only [tv]
    by_cases h9:i=9∧1 < c.toNat
    ·rw [hb,decide_eq_true h9,cond_true,if_pos h9];rfl
    ·rw [hb,decide_eq_false h9,cond_false,if_neg h9,gd_y (by omega)]
     by_cases hc2:128≤c.toNat
     ·have hi9:i≠9:=fun q=>h9 ⟨q,by omega⟩
      have hp:2 ^ (7 * (i + 1))=128 * 2 ^ (7 * i):=by rw [show 7 * (i + 1)=7 * i + 7 by omega,Nat.pow_add];omega
      have hm:c.toNat % 128 * 2 ^ (7 * i) < 128 * 2 ^ (7 * i):=Nat.mul_lt_mul_of_pos_right (by omega) (Nat.two_pow_pos _)
      have hm64:128 * 2 ^ (7 * i)≤2 ^ 64:=by rw [← hp];exact Nat.pow_le_pow_right (by omega) (by omega)
      have hsum:a + c.toNat % 128 * 2 ^ (7 * i) < 2 ^ (7 * (i + 1)):=by
       rw [hp]
       have:c.toNat % 128 * 2 ^ (7 * i)≤127 * 2 ^ (7 * i):=Nat.mul_le_mul_right _ (by omega)
       omega
      rw [geqT (by omega),cond_true,if_pos hc2,k0x a (c.toNat % 128) i ha hi (by omega),addZ (by omega) (by omega)]
      have:=ih (i + 1) (a + c.toNat % 128 * 2 ^ (7 * i)) (by omega) (by omega) (by omega) hsum
      rw [show ((i:Nat):Int) + 1=((i + 1:Nat):Int) by omega,this]
      cases tv (i + 1) (bs.drop (i + 1)) with
      | error e=>rfl
      | ok x =>
       obtain⟨v,k⟩:=x
       simp only [tvK]
       rw [show a + c.toNat % 128 * 2 ^ (7 * i) + v * 2 ^ (7 * (i + 1))=a + (c.toNat - 128 + 128 * v) * 2 ^ (7 * i) by
        rw [hp,show c.toNat % 128=c.toNat - 128 by omega,Nat.add_mul,Nat.mul_comm 128 v,Nat.mul_assoc v 128];omega,show i + 1 + k=i + (k + 1) by omega]
     ·rw [geqF (by omega),cond_false,if_neg hc2]
      have hmod:c.toNat % 128=c.toNat:=by omega
      have hm:c.toNat * 2 ^ (7 * i) < 2 ^ 64:=by
       by_cases hi9:i=9
       ·subst hi9
        have:c.toNat≤1:=by rcases Nat.lt_or_ge 1 c.toNat with q | q;exact absurd ⟨rfl,q⟩ h9;exact q
        have h63:(2:Nat) ^ 64=2 * 2 ^ (7 * 9):=by decide
        have:=Nat.mul_le_mul_right (2 ^ (7 * 9)) this
        omega
       ·have hp:2 ^ (7 * (i + 1))=128 * 2 ^ (7 * i):=by rw [show 7 * (i + 1)=7 * i + 7 by omega,Nat.pow_add];omega
        have hm64:128 * 2 ^ (7 * i)≤2 ^ 64:=by rw [← hp];exact Nat.pow_le_pow_right (by omega) (by omega)
        have:c.toNat * 2 ^ (7 * i)≤127 * 2 ^ (7 * i):=Nat.mul_le_mul_right _ (by omega)
        have hpos:=Nat.two_pow_pos (7 * i)
        omega
      rw [hmod,k0x a c.toNat i ha hi hm]
      by_cases hz:c.toNat=0
      ·rw [eqlT (by omega),cond_true,p59_1]
       by_cases h0:0 < i
       ·rw [gtrT (by omega),cond_true,if_pos ⟨hz,h0⟩];rfl
       ·rw [gtrF (by omega),cond_false,if_neg (fun q=>h0 q.2),addZ (by omega) (by omega)]
        rfl
      ·rw [eqlF (by omega),cond_false,p59_1,cond_false,if_neg (fun q=>hz q.1),addZ (by omega) (by omega)]
       rfl
   by_cases hi9:i=9
   ·rw [eqlT (by omega),cond_true]
    exact h9 _ (by rw [Bool.eq_iff_iff];simp [z0a,hi9];omega)
   ·rw [eqlF (by omega),cond_false]
    exact h9 _ (by simp [hi9])
  ·rw [lssF (by omega),cond_false,List.drop_eq_nil_of_le (by omega)];rfl
theorem w0h {ρ:Type} (fail:ρ) (fu:Nat) (hf:10≤fu) (K:Int→Int→Int→ρ) (bs:List UInt8) (hl:bs.length≤1099511627776):p59 fail fu K (encB bs)=tvK 0 0 K (tv 0 bs):=by
 rw [p59,z0h]
 exact w2b fail fu K bs hl fu 0 0 (by omega) (by omega) (by omega) (by omega)
def rdV (bs:List UInt8):Except Int (Nat × List UInt8):=match tv 0 bs with | .ok (v,k)=>.ok (v,bs.drop k) | .error e=>.error e
theorem z2l {ρ:Type} (fail:ρ) (fu:Nat) (K:EL→Int→ρ) (B:EL) (e:Int):p15 fail fu K B 0 e=K B e:=by
 rw [p15,eqlT rfl,cond_true,p15_1]
theorem w3j {ρ:Type} (fail:ρ) (fu:Nat) (K:EL→Int→ρ) (B:EL) (e e':Int) (h:e≠0):p15 fail fu K B e e'=K B e:=by
 rw [p15,eqlF h,cond_false,p15_1]
def rdK {ρ:Type} (K:Int→EL→Int→ρ) (junk:Int) (B:EL):Except Int (Nat × List UInt8)→ρ
 | .ok (v,r)=>K (v:Nat) (encB r) 0
 | .error e=>K junk B e
theorem w4l {bs:List UInt8} {e:Int} (h:rdV bs=.error e):e=2∨e=4∨e=5:=by
 unfold rdV at h;split at h
 ·cases h
 ·rename_i e' h';injection h with h;subst h;exact w0f _ _ _ h'
theorem z8y {bs:List UInt8} {v:Nat} {r:List UInt8} (h:rdV bs=.ok (v,r)):v < 2 ^ 64∧r.length < bs.length∧bs=varB v++r:=by
 unfold rdV at h;split at h
 ·rename_i v' k h'
  injection h with h;injection h with h1 h2;subst h1;subst h2
  have h3:=z8o _ _ _ _ h'
  refine⟨w5h h',by simp;omega,?_⟩
  rw [← (w7o _ _ _ _ h').1,List.take_append_drop]
 ·cases h
theorem w8e {ρ:Type} (fail:ρ) (fu:Nat) (hf:10≤fu) (K:Int→EL→Int→ρ) (bs:List UInt8) (hl:bs.length≤1099511627776):p41 fail fu K (encB bs) 0=rdK K 0 (encB bs) (rdV bs):=by
 rw [p41,neqF rfl,cond_false,w0h fail fu hf _ bs hl]
 unfold rdV
 cases ht:tv 0 bs with
 | error e =>
  simp only [tvK,z2l]
  rw [gd_y (by omega),gd_y (by omega),gd_y (by omega)]
  simp [rdK]
 | ok x =>
  obtain⟨v,k⟩:=x
  have:=z8o _ _ _ _ ht
  simp only [tvK,z2l]
  rw [gd_y (by omega),gd_y (by rw [z0h];omega),gd_y (by omega)]
  simp [rdK]
theorem rawE {ρ:Type} (fail:ρ) (fu:Nat) (K:Int→EL→Int→ρ) (B:EL) (e:Int) (h:e≠0):p41 fail fu K B e=K 0 B e:=by
 rw [p41,neqT h,cond_true]
def z2c (lo hi:Nat) (bs:List UInt8):Except Int (Nat × List UInt8):=match rdV bs with
 | .ok (v,r)=>if v < lo∨hi < v then .error 5 else .ok (v,r)
 | .error e=>.error e
def KOut {ρ:Type} (p:(Int→EL→Int→ρ)→ρ) (j:Int):Except Int (Nat × List UInt8)→Prop
 | .ok (v,r)=>∀ K:Int→EL→Int→ρ,p K=K (v:Nat) (encB r) 0
 | .error e=>e≠0∧∃ B,∀ K:Int→EL→Int→ρ,p K=K j B e
theorem w1n {ρ:Type} (fail:ρ) (fu:Nat) (hf:10≤fu) (bs:List UInt8) (hl:bs.length≤1099511627776) (lo hi:Nat) (h1:lo≤2000000000) (h2:hi≤2000000000) :
  KOut (fun K=>p13 fail fu K (encB bs) 0 (lo:Nat) (hi:Nat)) (lo:Nat) (z2c lo hi bs):=by
 have e1:=z2v lo (by omega)
 have e2:=z2v hi (by omega)
 have hraw:=fun K=>w8e (ρ:=ρ) fail fu hf K bs hl
 unfold z2c
 cases hr:rdV bs with
 | error e =>
  have he:=w4l hr
  rw [hr] at hraw
  refine⟨by omega,encB bs,fun K=>?_⟩
  dsimp only
  rw [p13,hraw,e1,e2]
  simp only [rdK]
  by_cases hlo:(0:Int) < (lo:Nat)
  ·rw [lssT hlo,cond_true,p13_1,cond_true,w3j _ _ _ _ _ _ (by omega)]
  ·rw [lssF (by omega),cond_false,gtrF (by omega),p13_1,cond_false,z3h (by omega),show ((lo:Nat):Int)=0 by omega]
 | ok x =>
  obtain⟨v,r⟩:=x
  have hv:=(z8y hr).1
  rw [hr] at hraw
  dsimp only
  by_cases hlo:v < lo
  ·rw [if_pos (.inl hlo)]
   refine⟨by omega,encB r,fun K=>?_⟩
   dsimp only
   rw [p13,hraw,e1,e2]
   simp only [rdK]
   rw [lssT (by omega),cond_true,p13_1,cond_true,z2l]
  ·by_cases hhi:hi < v
   ·rw [if_pos (.inr hhi)]
    refine⟨by omega,encB r,fun K=>?_⟩
    dsimp only
    rw [p13,hraw,e1,e2]
    simp only [rdK]
    rw [lssF (by omega),cond_false,gtrT (by omega),p13_1,cond_true,z2l]
   ·rw [if_neg (by omega)]
    intro K
    dsimp only
    rw [p13,hraw,e1,e2]
    simp only [rdK]
    rw [lssF (by omega),cond_false,gtrF (by omega),p13_1,cond_false,z3h (by omega)]
def rdNum (bs:List UInt8):Except Int (Nat × List UInt8):=match rdV bs with
 | .ok (v,r)=>if 1073741824 < v then .error 4 else .ok (v,r)
 | .error e=>.error e
theorem z4r {ρ:Type} (fail:ρ) (fu:Nat) (hf:10≤fu) (bs:List UInt8) (hl:bs.length≤1099511627776) :
  KOut (fun K=>p16 fail fu K (encB bs) 0) 0 (rdNum bs):=by
 have hraw:=fun K=>w8e (ρ:=ρ) fail fu hf K bs hl
 unfold rdNum
 cases hr:rdV bs with
 | error e =>
  have he:=w4l hr
  rw [hr] at hraw
  refine⟨by omega,encB bs,fun K=>?_⟩
  dsimp only
  rw [p16,hraw]
  simp only [rdK]
  rw [gtrF (by omega),cond_false,z3h (by omega)]
 | ok x =>
  obtain⟨v,r⟩:=x
  have hv:=(z8y hr).1
  rw [hr] at hraw
  dsimp only
  by_cases hhi:1073741824 < v
  ·rw [if_pos hhi]
   refine⟨by omega,encB r,fun K=>?_⟩
   dsimp only
   rw [p16,hraw]
   simp only [rdK]
   rw [gtrT (by omega),cond_true,z2l]
  ·rw [if_neg hhi]
   intro K
   dsimp only
   rw [p16,hraw]
   simp only [rdK]
   rw [gtrF (by omega),cond_false,z3h (by omega)]
theorem numE {ρ:Type} (fail:ρ) (fu:Nat) (K:Int→EL→Int→ρ) (B:EL) (e:Int) (h:e≠0):p16 fail fu K B e=K 0 B e:=by
 rw [p16,rawE _ _ _ _ _ h,gtrF (by omega),cond_false,z3h (by omega)]
def rdTxt (most:Nat) (bs:List UInt8):Except Int (List UInt8 × List UInt8):=match rdV bs with
 | .ok (v,r)=>if most < v then .error 3 else if r.length < v then .error 2 else .ok (r.take v,r.drop v)
 | .error e=>.error e
def SOut {ρ:Type} (p:(EL→EL→Int→ρ)→ρ):Except Int (List UInt8 × List UInt8)→Prop
 | .ok (s,r)=>∀ K:EL→EL→Int→ρ,p K=K (encB s) (encB r) 0
 | .error e=>e≠0∧∃ B,∀ K:EL→EL→Int→ρ,p K=K nilE B e
theorem z7e {ρ:Type} (fail:ρ) (fu:Nat) (hf:10≤fu) (bs:List UInt8) (hl:bs.length≤1099511627776) (most:Nat) (hm:most≤1000000) :
  SOut (fun K=>p20 fail fu K (encB bs) 0 (most:Nat)) (rdTxt most bs):=by
 have htk:=fun K=>w0h (ρ:=ρ) fail fu hf K bs hl
 have e1:=z2v most (by omega)
 unfold rdTxt rdV
 cases ht:tv 0 bs with
 | error e =>
  have he:=w0f _ _ _ ht
  rw [ht] at htk
  refine⟨by omega,encB bs,fun K=>?_⟩
  dsimp only
  rw [p20,neqF rfl,cond_false,p44,htk]
  simp only [tvK]
  rw [neqT (show e≠0 by omega),cond_true,z2l,gd_y (by omega),gd_y (by omega),gd_y (by omega)]
  simp
 | ok x =>
  obtain⟨v,k⟩:=x
  have hk:=z8o _ _ _ _ ht
  have hv:=w5h ht
  rw [ht] at htk
  have hstart:∀ K:EL→EL→Int→ρ,p20 fail fu K (encB bs) 0 (most:Nat)=bif z0a .gtr ((v:Nat):Int) ((most:Nat):Int) then K nilE (encB bs) 3 else bif z0a .gtr ((v:Nat):Int) (((bs.length:Nat):Int) - ((k:Nat):Int)) then K nilE (encB bs) 2 else
    K (encB ((bs.drop k).take v)) (encB ((bs.drop k).drop v)) 0:=fun K=>by
   rw [p20,neqF rfl,cond_false,p44,htk]
   simp only [tvK]
   rw [neqF rfl,cond_false,if_neg (show ¬ (0:Int) > (most:Nat) by omega),z0h]
   simp only [Nat.pow_zero,Nat.mul_one,Nat.zero_add,Nat.mul_zero]
   rw [subZ (by omega) (by omega),w1x (show 0≤((bs.length:Nat):Int) - ((k:Nat):Int)∧((bs.length:Nat):Int) - ((k:Nat):Int)≤18446744073709551615 by omega),e1]
   by_cases h1:most < v
   ·rw [gtrT (by omega),cond_true,cond_true,z2l,gd_y (by omega),gd_y (by omega),gd_y (by omega)]
    simp
   ·rw [gtrF (show ((v:Nat):Int)≤((most:Nat):Int) by omega),cond_false,cond_false]
    by_cases h2:bs.length - k < v
    ·rw [gtrT (by omega),cond_true,cond_true,z2l,gd_y (by omega),gd_y (by omega),gd_y (by omega)]
     simp
    ·rw [gtrF (show ((v:Nat):Int)≤((bs.length:Nat):Int) - ((k:Nat):Int) by omega),cond_false,cond_false,z3h (show -9223372036854775808≤((v:Nat):Int)∧((v:Nat):Int)≤9223372036854775807 by omega),addZ (by omega) (by omega)]
     have hd:List.drop (((k:Nat):Int)).toNat (List.take ((((k:Nat):Int) + ((v:Nat):Int))).toNat (encB bs))=encB ((bs.drop k).take v):=by
      rw [z6x,z4z,Int.toNat_natCast,show (((k:Nat):Int) + ((v:Nat):Int)).toNat=k + v by omega,List.drop_take]
      congr 2;omega
     rw [hd,gd_y (by omega),gd_y (by omega),gd_y (by omega),gd_y (by omega),gd_y (by simp),gd_y (by simp;omega),z2l,gd_y (by omega),gd_y (by rw [z0h];omega),gd_y (by omega)]
     rw [List.nil_append,show (((k:Nat):Int) + ((v:Nat):Int)).toNat=k + v by omega]
     congr 1
     simp [List.drop_drop]
  dsimp only
  by_cases h1:most < v
  ·rw [if_pos h1]
   refine⟨by omega,encB bs,fun K=>?_⟩
   dsimp only
   rw [hstart,gtrT (by omega),cond_true]
  ·rw [if_neg h1]
   by_cases h2:(bs.drop k).length < v
   ·rw [if_pos h2]
    rw [List.length_drop] at h2
    refine⟨by omega,encB bs,fun K=>?_⟩
    dsimp only
    rw [hstart,gtrF (by omega),cond_false,gtrT (by omega),cond_true]
   ·rw [if_neg h2]
    rw [List.length_drop] at h2
    intro K
    dsimp only
    rw [hstart,gtrF (by omega),cond_false,gtrF (by omega),cond_false]
theorem textE {ρ:Type} (fail:ρ) (fu:Nat) (K:EL→EL→Int→ρ) (B:EL) (e:Int) (h:e≠0) (m:Int):p20 fail fu K B e m=K nilE B e:=by
 rw [p20,neqT h,cond_true]
theorem w1i {ρ:Type} (fail:ρ) (fu:Nat) (K:EL→Int→Int→ρ) (B:EL) (p m d md:Nat) (h:p≤1000000∧m≤1000000∧d≤1000000∧md≤1000000) :
  p61 fail fu K B 0 (p:Nat) (m:Nat) (d:Nat) (md:Nat)=K B (if m < p + 1 then 3 else if md < d then 6 else 0) ((p + 1:Nat):Int):=by
 rw [p61,addZ (by omega) (by omega),show ((p:Nat):Int) + 1=((p + 1:Nat):Int) by omega]
 by_cases h1:m < p + 1
 ·rw [gtrT (by omega),cond_true,z2l,p61_1,if_pos h1]
 ·rw [gtrF (by omega),cond_false,if_neg h1]
  by_cases h2:md < d
  ·rw [gtrT (by omega),cond_true,z2l,p61_2,p61_1,if_pos h2]
  ·rw [gtrF (by omega),cond_false,p61_2,p61_1,if_neg h2]
def p72_1 {ρ:Type} (fail:ρ) (fu:Nat) (s_p72:(Int→Int→EL→EL→Int→Int→ρ)→EL→Int→Int→Int→ρ) (K0:Int→Int→EL→EL→Int→Int→ρ) (rec1:EL→Int→Int→EL→Int→ρ) (z15:Int) (j16:EL) (j17 j18:Int) (j19:EL):ρ :=
 rec1 j16 j17 j18 j19 (z0c .add .i64 z15 1)
def p72_2 {ρ:Type} (fail:ρ) (fu:Nat) (s_p72:(Int→Int→EL→EL→Int→Int→ρ)→EL→Int→Int→Int→ρ) (K0:Int→Int→EL→EL→Int→Int→ρ) (rec1:EL→Int→Int→EL→Int→ρ) (x2 y4 j9 j10:Int) (z11:EL) (z12 z13:Int) (z14:EL) (z15:Int):ρ :=
 bif (z0a .lss z15 j10) then (bif (z0a .eql z12 0) then (s_p72 (fun y20 y21 y22 y23 y24 y25=>gd (1≤[[(CV.v (.int .i64 y20)),(CV.v (.int .i64 y21)),(CV.sl 3 y22 none)]].length) fail (gd ((z14.length + (List.take 1 [[(CV.v (.int .i64 y20)),(CV.v (.int .i64 y21)),(CV.sl 3 y22 none)]]).length) * 40≤35184372088832) fail (p72_1 fail fu s_p72 K0 rec1 z15 y23 y24 y25 (z14++(List.take 1 [[(CV.v (.int .i64 y20)),(CV.v (.int .i64 y21)),(CV.sl 3 y22 none)]]))))) z11 z12 (z0c .add .i64 x2 1) z13) else (p72_1 fail fu s_p72 K0 rec1 z15 z11 z12 z13 z14)) else (K0 y4 j9 z14 z11 z12 z13)
def p72_2L {ρ:Type} (fail:ρ) (fu:Nat) (s_p72:(Int→Int→EL→EL→Int→Int→ρ)→EL→Int→Int→Int→ρ) (K0:Int→Int→EL→EL→Int→Int→ρ) (x2 y4 j9 j10:Int):Nat→EL→Int→Int→EL→Int→ρ
 | 0,_,_,_,_,_=>fail
 | n + 1,z11,z12,z13,z14,z15=>p72_2 fail fu s_p72 K0 (p72_2L fail fu s_p72 K0 x2 y4 j9 j10 n) x2 y4 j9 j10 z11 z12 z13 z14 z15
def p72_3 {ρ:Type} (fail:ρ) (fu:Nat) (s_p72:(Int→Int→EL→EL→Int→Int→ρ)→EL→Int→Int→Int→ρ) (K0:Int→Int→EL→EL→Int→Int→ρ) (x2 y3 y4:Int) (j7:EL) (j8 j9 j10:Int):ρ :=
 p72_2L fail fu s_p72 K0 x2 y4 j9 j10 fu j7 j8 y3 nilE 0
def p72_4 {ρ:Type} (fail:ρ) (fu:Nat) (s_p72:(Int→Int→EL→EL→Int→Int→ρ)→EL→Int→Int→Int→ρ) (K0:Int→Int→EL→EL→Int→Int→ρ) (x2 y3 y4:Int) (j27:EL) (j28 j29 j30:Int):ρ :=
 p72_3 fail fu s_p72 K0 x2 y3 y4 j27 j28 j29 j30
def p72_5 {ρ:Type} (fail:ρ) (fu:Nat) (s_p72:(Int→Int→EL→EL→Int→Int→ρ)→EL→Int→Int→Int→ρ) (K0:Int→Int→EL→EL→Int→Int→ρ) (x2 y3 y4:Int) (j31:EL) (j32 j33:Int):ρ :=
 p72_4 fail fu s_p72 K0 x2 y3 y4 j31 j32 j33 0
def p72_6 {ρ:Type} (fail:ρ) (fu:Nat) (s_p72:(Int→Int→EL→EL→Int→Int→ρ)→EL→Int→Int→Int→ρ) (K0:Int→Int→EL→EL→Int→Int→ρ) (x2 y3 y4 y34:Int) (j37:EL) (j38:Int):ρ :=
 p72_5 fail fu s_p72 K0 x2 y3 y4 j37 j38 y34
def p72_7 {ρ:Type} (fail:ρ) (fu:Nat) (s_p72:(Int→Int→EL→EL→Int→Int→ρ)→EL→Int→Int→Int→ρ) (K0:Int→Int→EL→EL→Int→Int→ρ) (x2 y3 y4:Int) (y5:EL) (y6:Int) (j26:Bool):ρ :=
 bif j26 then (p72_4 fail fu s_p72 K0 x2 y3 y4 y5 y6 0 2) else (bif (z0a .eql y4 4) then (p16 fail fu (fun y34 y35 y36=>bif (z0a .geq y34 4) then (p15 fail fu (fun y39 y40=>p72_6 fail fu s_p72 K0 x2 y3 y4 y34 y39 y40) y35 y36 7) else (p72_6 fail fu s_p72 K0 x2 y3 y4 y34 y35 y36)) y5 y6) else (p72_5 fail fu s_p72 K0 x2 y3 y4 y5 y6 0))
def p72_b {ρ:Type} (fail:ρ) (fu:Nat) (s_p72:(Int→Int→EL→EL→Int→Int→ρ)→EL→Int→Int→Int→ρ) (K0:Int→Int→EL→EL→Int→Int→ρ) (x0:EL) (x1 x2 x3:Int):ρ :=
 p61 fail fu (fun y1 y2 y3=>bif (z0a .neq y2 0) then (K0 0 0 nilE y1 y2 y3) else (p13 fail fu (fun y4 y5 y6=>bif (z0a .eql y4 1) then (p72_3 fail fu s_p72 K0 x2 y3 y4 y5 y6 0 1) else (bif (z0a .eql y4 2) then (p72_7 fail fu s_p72 K0 x2 y3 y4 y5 y6 (z0a .eql y4 2)) else (p72_7 fail fu s_p72 K0 x2 y3 y4 y5 y6 (z0a .eql y4 3)))) y1 y2 0 4)) x0 x1 x3 64 x2 32
def p72 {ρ:Type} (fail:ρ):Nat→(Int→Int→EL→EL→Int→Int→ρ)→EL→Int→Int→Int→ρ
 | 0,_,_,_,_,_=>fail
 | n + 1,K0,x0,x1,x2,x3=>p72_b fail n (p72 fail n) K0 x0 x1 x2 x3
def p62 {ρ:Type} (fail:ρ) (fu:Nat) (K0:Int→Int→EL→EL→Int→ρ) (x0:EL) (x1:Int):ρ :=
 p72 fail fu (fun y1 y2 y3 y4 y5 y6=>K0 y1 y2 y3 y4 y5) x0 x1 1 0
inductive Lv where
 | mk (k n:Int) (args:List Lv)
def Lv.k:Lv→Int
 | .mk k _ _=>k
def Lv.n:Lv→Int
 | .mk _ n _=>n
def Lv.args:Lv→List Lv
 | .mk _ _ l=>l
mutual
def Lv.row:Lv→List CV
 | .mk k n l=>[.v (.int .i64 k),.v (.int .i64 n),.sl 3 (Lv.rows l) none]
def Lv.rows:List Lv→EL
 | []=>[]
 | a :: l=>Lv.row a :: Lv.rows l
end
theorem Lv.row_eq (l:Lv):l.row=[.v (.int .i64 l.k),.v (.int .i64 l.n),.sl 3 (Lv.rows l.args) none]:=by cases l;rfl
theorem Lv.rows_len:∀ l:List Lv,(Lv.rows l).length=l.length
 | []=>rfl
 | _ :: l=>by simp [Lv.rows,Lv.rows_len l]
theorem Lv.rows_get {l:List Lv} {i:Nat} (h:i < l.length):(Lv.rows l).getD i []=l[i].row:=by
 induction l generalizing i with
 | nil=>simp at h
 | cons a l ih=>cases i with
  | zero=>rfl
  | succ i=>simpa [Lv.rows] using ih (by simpa using h)
def many {α:Type} (f:Nat→List UInt8→Except Int (α × List UInt8 × Nat)):Nat→Nat→List UInt8→Except Int (List α × List UInt8 × Nat)
 | 0,p,bs=>.ok ([],bs,p)
 | n + 1,p,bs=>match f p bs with
  | .error e=>.error e
  | .ok (a,bs,p)=>match many f n p bs with
   | .error e=>.error e
   | .ok (l,bs,p)=>.ok (a :: l,bs,p)
def lvN (k:Nat):Nat:=if k=1 then 1 else if k=2 then 2 else if k=3 then 2 else 0
def rdLv:Nat→Nat→List UInt8→Except Int (Lv × List UInt8 × Nat)
 | 0,p,_=>if 64 < p + 1 then .error 3 else .error 6
 | left + 1,p,bs=>if 64 < p + 1 then .error 3 else match z2c 0 4 bs with
  | .error e=>.error e
  | .ok (k,bs)=>if k=4 then (match rdNum bs with
    | .error e=>.error e
    | .ok (n,bs)=>if 4≤n then .error 7 else .ok (.mk 4 (n:Nat) [],bs,p + 1))
   else match many (rdLv left) (lvN k) (p + 1) bs with
    | .error e=>.error e
    | .ok (l,bs,p)=>.ok (.mk (k:Nat) 0 l,bs,p)
theorem z1g {lo hi:Nat} {bs r:List UInt8} {v:Nat} (h:z2c lo hi bs=.ok (v,r)):lo≤v∧v≤hi∧r.length < bs.length∧bs=varB v++r:=by
 unfold z2c at h;split at h
 ·rename_i v' r' hr
  split at h
  ·cases h
  ·injection h with h;injection h with h1 h2;subst h1;subst h2
   have:=z8y hr
   exact⟨by omega,by omega,this.2⟩
 ·cases h
theorem z0t {bs r:List UInt8} {v:Nat} (h:rdNum bs=.ok (v,r)):v≤1073741824∧r.length < bs.length∧bs=varB v++r:=by
 unfold rdNum at h;split at h
 ·rename_i v' r' hr
  split at h
  ·cases h
  ·injection h with h;injection h with h1 h2;subst h1;subst h2
   have:=z8y hr
   exact⟨by omega,this.2⟩
 ·cases h
theorem z3a {α:Type} {f:Nat→List UInt8→Except Int (α × List UInt8 × Nat)} {m:Nat} (hf:∀ p bs a r q,p≤m→f p bs=.ok (a,r,q)→r.length≤bs.length∧q≤m):∀ (n p:Nat) (bs:List UInt8) (l:List α) (r:List UInt8) (q:Nat),p≤m→many f n p bs=.ok (l,r,q)→r.length≤bs.length∧q≤m∧l.length=n
 | 0,p,bs,l,r,q,hp,h=>by simp only [many] at h;injection h with h;injection h with h1 h;injection h with h2 h3;subst h1 h2 h3;exact⟨Nat.le_refl _,hp,rfl⟩
 | n + 1,p,bs,l,r,q,hp,h=>by
  simp only [many] at h
  split at h
  ·cases h
  ·rename_i a bs1 p1 h1
   split at h
   ·cases h
   ·rename_i l' bs2 p2 h2
    injection h with h;injection h with h3 h;injection h with h4 h5;subst h3 h4 h5
    obtain⟨h6,h7⟩:=hf _ _ _ _ _ hp h1
    obtain⟨h8,h9,h10⟩:=z3a hf n p1 bs1 l' bs2 p2 h7 h2
    exact⟨by omega,h9,by simp [h10]⟩
theorem z8h:∀ (left p:Nat) (bs:List UInt8) (l:Lv) (r:List UInt8) (q:Nat),p≤64→rdLv left p bs=.ok (l,r,q)→r.length≤bs.length∧q≤64
 | 0,p,bs,l,r,q,hp,h=>by simp only [rdLv] at h;split at h<;>cases h
 | left + 1,p,bs,l,r,q,hp,h=>by
  simp only [rdLv] at h
  split at h
  ·cases h
  ·split at h
   ·cases h
   ·rename_i k bs1 hk
    have h1:=z1g hk
    split at h
    ·split at h
     ·cases h
     ·rename_i n bs2 hn
      have h2:=z0t hn
      split at h
      ·cases h
      ·injection h with h;injection h with _ h;injection h with h3 h4;subst h3 h4;exact⟨by omega,by omega⟩
    ·split at h
     ·cases h
     ·rename_i l2 bs2 p2 hm
      injection h with h;injection h with _ h;injection h with h3 h4;subst h3 h4
      have:=z3a (m:=64) (fun p bs a r q=>z8h left p bs a r q) _ _ _ _ _ _ (by omega) hm
      exact⟨by omega,this.2.1⟩
abbrev LK (ρ:Type):=Int→Int→EL→EL→Int→Int→ρ
def LvOut {ρ:Type} (p:LK ρ→ρ):Except Int (Lv × List UInt8 × Nat)→Prop
 | .ok (l,bs,q)=>∀ K:LK ρ,p K=K l.k l.n (Lv.rows l.args) (encB bs) 0 (q:Nat)
 | .error e=>e≠0∧∃ a b c B q,∀ K:LK ρ,p K=K a b c B e q
theorem w4p {ρ:Type} (fail:ρ) (fu:Nat) (s:LK ρ→EL→Int→Int→Int→ρ) (K:LK ρ) (d k j:Int) (B:EL) (e q:Int) (z:EL) (he:e≠0):∀ (r n:Nat) (i:Int),0≤i→i + (r:Nat)≤1000→r < n →
  p72_2L fail fu s K d k j (i + (r:Nat)) n B e q z i=K k j z B e q
 | 0,n + 1,i,hi,h1,h2=>by
  rw [p72_2L,p72_2,lssF (by omega),cond_false]
 | r + 1,n + 1,i,hi,h1,h2=>by
  rw [p72_2L,p72_2,lssT (by omega),cond_true,eqlF he,cond_false,p72_1,addZ (by omega) (by omega)]
  have:=w4p fail fu s K d k j B e q z he r n (i + 1) (by omega) (by omega) (by omega)
  rw [show i + ((r + 1:Nat):Int)=i + 1 + (r:Nat) by omega]
  exact this
theorem k0y {ρ:Type} (fail:ρ) (fu:Nat) (s:LK ρ→EL→Int→Int→Int→ρ) (f:Nat→List UInt8→Except Int (Lv × List UInt8 × Nat)) (d:Int) (k j:Int)
  (hf:∀ p bs a r q,p≤64→f p bs=.ok (a,r,q)→r.length≤bs.length∧q≤64) (N:Nat) (hs:∀ bs p,bs.length≤N→p≤64→LvOut (fun K=>s K (encB bs) 0 (z0c .add .i64 d 1) (p:Nat)) (f p bs)) :
  ∀ (r n:Nat) (bs:List UInt8) (p:Nat) (z:EL) (i:Nat),bs.length≤N→p≤64→z.length≤i→i + r≤1000→r < n →
   match many f r p bs with
   | .ok (l,bs',q)=>∀ K:LK ρ,p72_2L fail fu s K d k j ((i + r:Nat):Int) n (encB bs) 0 (p:Nat) z (i:Nat)=K k j (z++Lv.rows l) (encB bs') 0 (q:Nat)
   | .error e=>e≠0∧∃ c B q,∀ K:LK ρ,p72_2L fail fu s K d k j ((i + r:Nat):Int) n (encB bs) 0 (p:Nat) z (i:Nat)=K k j c B e q
 | 0,n + 1,bs,p,z,i,hb,hp,hz,hi,hn=>by
  simp only [many]
  intro K
  rw [p72_2L,p72_2,lssF (by omega),cond_false]
  simp [Lv.rows]
 | r + 1,n + 1,bs,p,z,i,hb,hp,hz,hi,hn=>by
  have h1:=hs bs p hb hp
  simp only [many]
  have step:∀ K:LK ρ,p72_2L fail fu s K d k j ((i + (r + 1):Nat):Int) (n + 1) (encB bs) 0 (p:Nat) z (i:Nat)=s (fun a b c B e q =>
    p72_2L fail fu s K d k j ((i + 1 + r:Nat):Int) n B e q (z++[[.v (.int .i64 a),.v (.int .i64 b),.sl 3 c none]]) ((i + 1:Nat):Int)) (encB bs) 0 (z0c .add .i64 d 1) (p:Nat):=fun K=>by
   rw [p72_2L,p72_2,lssT (by omega),cond_true,eqlT rfl,cond_true]
   congr 1
   funext a b c B e q
   rw [gd_y (by simp),gd_y (by simp;omega),p72_1,addZ (by omega) (by omega),show ((i:Nat):Int) + 1=((i + 1:Nat):Int) by omega,show i + (r + 1)=i + 1 + r by omega]
   rfl
  cases hfv:f p bs with
  | error e =>
   rw [hfv] at h1
   obtain⟨he,a,b,c,B,q,h1⟩:=h1
   dsimp only at h1
   refine⟨he,z++[[.v (.int .i64 a),.v (.int .i64 b),.sl 3 c none]],B,q,fun K=>?_⟩
   try dsimp only
   rw [step,h1]
   have:=w4p fail fu s K d k j B e q (z++[[.v (.int .i64 a),.v (.int .i64 b),.sl 3 c none]]) he r n ((i + 1:Nat):Int) (by omega) (by omega) (by omega)
   rw [show ((i + 1 + r:Nat):Int)=((i + 1:Nat):Int) + (r:Nat) by omega]
   exact this
  | ok x =>
   obtain⟨a,bs1,p1⟩:=x
   rw [hfv] at h1
   simp only [LvOut] at h1
   have h2:=hf _ _ _ _ _ hp hfv
   have ih:=k0y fail fu s f d k j hf N hs r n bs1 p1 (z++[a.row]) (i + 1) (by omega) h2.2 (by simp;omega) (by omega) (by omega)
   have hrow:∀ K:LK ρ,p72_2L fail fu s K d k j ((i + (r + 1):Nat):Int) (n + 1) (encB bs) 0 (p:Nat) z (i:Nat)=p72_2L fail fu s K d k j ((i + 1 + r:Nat):Int) n (encB bs1) 0 (p1:Nat) (z++[a.row]) ((i + 1:Nat):Int):=fun K=>by
    rw [step,h1,Lv.row_eq]
   try dsimp only
   cases hm:many f r p1 bs1 with
   | error e =>
    rw [hm] at ih
    obtain⟨he,c,B,q,h3⟩:=ih
    exact⟨he,c,B,q,fun K=>by rw [hrow,h3]⟩
   | ok x =>
    obtain⟨l2,bs2,p2⟩:=x
    rw [hm] at ih
    intro K
    rw [hrow,ih,List.append_assoc];rfl
theorem k0e {ρ:Type} (fail:ρ):∀ (left fu:Nat),left + 12≤fu→left≤32→∀ (bs:List UInt8) (p:Nat),bs.length≤1099511627776→p≤64 →
  LvOut (fun K=>p72 fail fu K (encB bs) 0 ((33 - left:Nat):Int) (p:Nat)) (rdLv left p bs):=by
 intro left
 induction left with
 | zero =>
  intro fu hf hl bs p hb hp
  obtain⟨m,rfl⟩:∃ m,fu=m + 1:=⟨fu - 1,by omega⟩
  have hpart:=fun K=>w1i (ρ:=ρ) fail m K (encB bs) p 64 33 32 (by omega)
  simp only [rdLv]
  by_cases h1:64 < p + 1
  ·rw [if_pos h1]
   refine⟨by omega,0,0,nilE,encB bs,((p + 1:Nat):Int),fun K=>?_⟩
   try dsimp only
   rw [p72,p72_b]
   erw [hpart]
   rw [if_pos h1,neqT (by omega),cond_true]
  ·rw [if_neg h1]
   refine⟨by omega,0,0,nilE,encB bs,((p + 1:Nat):Int),fun K=>?_⟩
   try dsimp only
   rw [p72,p72_b]
   erw [hpart]
   rw [if_neg h1,if_pos (by omega),neqT (by omega),cond_true]
 | succ left ih =>
  intro fu hf hl bs p hb hp
  obtain⟨m,rfl⟩:∃ m,fu=m + 1:=⟨fu - 1,by omega⟩
  have hpart:=fun K=>w1i (ρ:=ρ) fail m K (encB bs) p 64 (33 - (left + 1)) 32 (by omega)
  have hkind:=w1n (ρ:=ρ) fail m (by omega) bs hb 0 4 (by omega) (by omega)
  simp only [rdLv]
  by_cases h1:64 < p + 1
  ·rw [if_pos h1]
   refine⟨by omega,0,0,nilE,encB bs,((p + 1:Nat):Int),fun K=>?_⟩
   try dsimp only
   rw [p72,p72_b]
   erw [hpart]
   rw [if_pos h1,neqT (by omega),cond_true]
  ·rw [if_neg h1]
   generalize hs:p72 fail m=s
   generalize hd0:((33 - (left + 1):Nat):Int)=d at hpart
   have hd:z0c .add .i64 d 1=((33 - left:Nat):Int):=by subst hd0;rw [addZ (by omega) (by omega)];omega
   generalize hq0:((p + 1:Nat):Int)=q at hpart
   have hb1:∀ K:LK ρ,p72 fail (m + 1) K (encB bs) 0 d (p:Nat)=p13 fail m (fun y4 y5 y6=>bif (z0a .eql y4 1) then (p72_3 fail m s K d q y4 y5 y6 0 1) else (bif (z0a .eql y4 2) then (p72_7 fail m s K d q y4 y5 y6 (z0a .eql y4 2)) else (p72_7 fail m s K d q y4 y5 y6 (z0a .eql y4 3)))) (encB bs) 0 ((0:Nat):Int) ((4:Nat):Int):=fun K=>by
    rw [p72,p72_b,hs]
    erw [hpart]
    rw [if_neg h1,if_neg (by omega),neqF rfl,cond_false]
    rfl
   have end0:∀ (K:LK ρ) (k j:Int) (B:EL) (e:Int),e≠0→p72_2L fail m s K d k j 0 m B e q nilE 0=K k j nilE B e q:=fun K k j B e he=>by
    have:=w4p fail m s K d k j B e q nilE he 0 m 0 (by omega) (by omega) (by omega)
    exact this
   have end0':∀ (K:LK ρ) (k j:Int) (B:EL),p72_2L fail m s K d k j 0 m B 0 q nilE 0=K k j nilE B 0 q:=fun K k j B=>by
    obtain⟨m',hm'⟩:∃ m',m=m' + 1:=⟨m - 1,by omega⟩
    have:∀ m'',m''=m' + 1→p72_2L fail m s K d k j 0 m'' B 0 q nilE 0=K k j nilE B 0 q:=fun m'' h=>by
     subst h;rw [p72_2L,p72_2,lssF (by omega),cond_false]
    exact this m hm'
   cases hk:z2c 0 4 bs with
   | error e =>
    rw [hk] at hkind
    obtain⟨he,B,hB⟩:=hkind
    dsimp only at hB
    refine⟨he,0,0,nilE,B,q,fun K=>?_⟩
    try dsimp only
    rw [hb1,hB]
    rw [eqlF (by omega),cond_false,eqlF (by omega),cond_false,eqlF (by omega),p72_7,cond_false,eqlF (by omega),cond_false,p72_5,p72_4,p72_3]
    exact end0 K 0 0 B e he
   | ok x =>
    obtain⟨k,bs1⟩:=x
    have hk1:=z1g hk
    rw [hk] at hkind
    simp only [KOut] at hkind
    have hb2:∀ K:LK ρ,p72 fail (m + 1) K (encB bs) 0 d (p:Nat)=bif (z0a .eql (k:Nat) 1) then (p72_3 fail m s K d q (k:Nat) (encB bs1) 0 0 1) else (bif (z0a .eql (k:Nat) 2) then (p72_7 fail m s K d q (k:Nat) (encB bs1) 0 (z0a .eql (k:Nat) 2)) else (p72_7 fail m s K d q (k:Nat) (encB bs1) 0 (z0a .eql (k:Nat) 3))):=fun K=>by
     rw [hb1,hkind]
    have loop:∀ r,r=lvN k→(∀ K:LK ρ,p72 fail (m + 1) K (encB bs) 0 d (p:Nat)=p72_2L fail m s K d (k:Nat) 0 ((r:Nat):Int) m (encB bs1) 0 q nilE 0) →
      LvOut (fun K=>p72 fail (m + 1) K (encB bs) 0 d (p:Nat)) (match many (rdLv left) (lvN k) (p + 1) bs1 with
       | .error e=>.error e
       | .ok (l,bs,p)=>.ok (.mk (k:Nat) 0 l,bs,p)):=fun r hr hloop=>by
     have hN:lvN k≤2:=by unfold lvN;split<;>(try split)<;>(try split)<;>omega
     have:=k0y fail m s (rdLv left) d (k:Nat) 0 (fun p bs a r q=>z8h left p bs a r q) 1099511627776 (fun bs p hb hp=>by rw [hd,← hs];exact ih m (by omega) (by omega) bs p hb hp) (lvN k) m bs1 (p + 1) nilE 0 (by omega) (by omega) (by simp) (by omega) (by omega)
     rw [Nat.zero_add,hq0,← hr] at this
     rw [← hr]
     cases hm:many (rdLv left) r (p + 1) bs1 with
     | error e =>
      rw [hm] at this
      obtain⟨he,c,B,q',h⟩:=this
      exact⟨he,_,_,c,B,q',fun K=>by dsimp only;rw [hloop];exact h K⟩
     | ok x =>
      obtain⟨l2,bs2,p2⟩:=x
      rw [hm] at this
      intro K
      try dsimp only
      rw [hloop];exact this K
    dsimp only
    by_cases k1:k=1
    ·subst k1
     rw [if_neg (by omega)]
     exact loop 1 rfl (fun K=>by rw [hb2,eqlT (by omega),cond_true,p72_3];rfl)
    by_cases k2:k=2
    ·subst k2
     rw [if_neg (by omega)]
     exact loop 2 rfl (fun K=>by rw [hb2,eqlF (by omega),cond_false,eqlT (by omega),cond_true,p72_7,cond_true,p72_4,p72_3];rfl)
    by_cases k3:k=3
    ·subst k3
     rw [if_neg (by omega)]
     exact loop 2 rfl (fun K=>by rw [hb2,eqlF (by omega),cond_false,eqlF (by omega),cond_false,eqlT (by omega),p72_7,cond_true,p72_4,p72_3];rfl)
    by_cases k4:k=4
    ·subst k4
     rw [if_pos rfl]
     have hb3:∀ K:LK ρ,p72 fail (m + 1) K (encB bs) 0 d (p:Nat)=p16 fail m (fun y34 y35 y36=>bif (z0a .geq y34 4) then (p15 fail m (fun y39 y40=>p72_6 fail m s K d q 4 y34 y39 y40) y35 y36 7) else (p72_6 fail m s K d q 4 y34 y35 y36)) (encB bs1) 0:=fun K=>by
      rw [hb2,eqlF (by omega),cond_false,eqlF (by omega),cond_false,eqlF (by omega),p72_7,cond_false,eqlT (by omega),cond_true]
      rfl
     have hnum:=z4r (ρ:=ρ) fail m (by omega) bs1 (by omega)
     cases hn:rdNum bs1 with
     | error e =>
      rw [hn] at hnum
      obtain⟨he,B,hB⟩:=hnum
      dsimp only at hB
      refine⟨he,4,0,nilE,B,q,fun K=>?_⟩
      try dsimp only
      rw [hb3,hB,geqF (by omega),cond_false,p72_6,p72_5,p72_4,p72_3]
      exact end0 K _ _ B e he
     | ok x =>
      obtain⟨n,bs2⟩:=x
      rw [hn] at hnum
      simp only [KOut] at hnum
      try dsimp only
      by_cases h4:4≤n
      ·rw [if_pos h4]
       refine⟨by omega,4,((n:Nat):Int),nilE,encB bs2,q,fun K=>?_⟩
       try dsimp only
       rw [hb3,hnum,geqT (by omega),cond_true,z2l,p72_6,p72_5,p72_4,p72_3]
       exact end0 K _ _ _ 7 (by omega)
      ·rw [if_neg h4]
       intro K
       try dsimp only
       rw [hb3,hnum,geqF (by omega),cond_false,p72_6,p72_5,p72_4,p72_3,end0' K,hq0]
       rfl
    ·have k0:k=0:=by omega
     subst k0
     rw [if_neg (by omega)]
     exact loop 0 rfl (fun K=>by rw [hb2,eqlF (by omega),cond_false,eqlF (by omega),cond_false,eqlF (by omega),p72_7,cond_false,eqlF (by omega),cond_false,p72_5,p72_4,p72_3];rfl)
def z2j (bs:List UInt8):Except Int (Lv × List UInt8):=match rdLv 32 0 bs with
 | .ok (l,r,_)=>.ok (l,r)
 | .error e=>.error e
def LvO2 {ρ:Type} (p:(Int→Int→EL→EL→Int→ρ)→ρ):Except Int (Lv × List UInt8)→Prop
 | .ok (l,bs)=>∀ K:Int→Int→EL→EL→Int→ρ,p K=K l.k l.n (Lv.rows l.args) (encB bs) 0
 | .error e=>e≠0∧∃ a b c B,∀ K:Int→Int→EL→EL→Int→ρ,p K=K a b c B e
theorem k0q {ρ:Type} (fail:ρ) (fu:Nat) (hf:50≤fu) (bs:List UInt8) (hb:bs.length≤1099511627776):LvO2 (fun K=>p62 fail fu K (encB bs) 0) (z2j bs):=by
 have:=k0e fail 32 fu (by omega) (by omega) bs 0 hb (by omega)
 unfold z2j
 cases h:rdLv 32 0 bs with
 | error e =>
  rw [h] at this
  obtain⟨he,a,b,c,B,q,h1⟩:=this
  dsimp only at h1
  refine⟨he,a,b,c,B,fun K=>?_⟩
  try dsimp only
  rw [p62];exact h1 _
 | ok x =>
  obtain⟨l,r,q⟩:=x
  rw [h] at this
  intro K
  try dsimp only
  rw [p62];exact this _
end Go.Proofs.Ytioiigabeoaneaa
