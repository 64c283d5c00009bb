/- A part of the proof. Conditions: none. -/
import Derived.Test.YtioiigabeoaneaaGreatRF2
import Derived.LoopN
import Derived.Orders
namespace Go.Proofs.YtioiigabeoaneaaGreat.V
open Go Go.RowKit
def k3r (G:L2) (S:D7) (w:World):Prop:=∀ g cs,G g=some cs→RelC S w (.rp cs) (.pointer (some ⟨g,0,none⟩))
inductive z7f (S:D7) (w:World):D7→List OV→List Value→List OV→Prop
 | nil:z7f S w (fun _ _=>False) [] [] []
 | ptr (cs cs':List OV) (u:Value) (os:List OV) (us:List Value) (bs:List OV) (F1 F2:D7) (h1:Own S w F1 (.ptr cs') u) (h2:z7f S w F2 os us bs) (hd:∀ b o,F1 b o→¬ F2 b o) :
   z7f S w (fun b o=>F1 b o∨F2 b o) (.ptr cs :: os) (u :: us) (.ptr cs' :: bs)
 | skip (o o':OV) (u:Value) (os:List OV) (us:List Value) (bs:List OV) (F:D7) (hn:∀ cs,o≠.ptr cs) (h:z7f S w F os us bs):z7f S w F (o :: os) (u :: us) (o' :: bs)
structure k1m (S:D7) (F:D7) (w w':World) (S' Fr Fb:D7):Prop where
 ext:Ext F w w'
 sub:∀ b o,S b o→S' b o
 grow:∀ b o,S' b o→b < w'.heap.size∧(S b o∨F b o∨w.heap.size≤b)
 apart:∀ b o,Fr b o→¬ Fb b o
 mine:∀ b o,Fr b o∨Fb b o→¬ S' b o∧(F b o∨w.heap.size≤b)
def Den (P:Program) (G:L2) (f:FuncId) (os:List OV) (Q:OV→List OV→Prop):Prop :=
 (∃ fn, P.funcs[f]? = some fn ∧ fn.body.isSome = true ∧ (fn.name == "runtime.NumGoroutine") = false) ∧
 ∀ (S F:D7) (w:World) (us:List Value),(∀ b o,S b o→b < w.heap.size)→(∀ b o,F b o→b < w.heap.size∧¬ S b o)→k3r G S w→OwnL S w F os us →
  Calls P f us.toArray w fun e w'=>∃ v r bs S' Fr Fb,e=.returned v∧Q r bs∧Own S' w' Fr r v∧z7f S' w' Fb os us bs∧k1m S F w w' S' Fr Fb
section
variable {P:Program} {X:Ctx} {S:D7} {pl:E2} {w:World} {m:Mem}
def w2n:List z0m→List OV→Prop
 | .ref _ :: ms,o :: os=>(∃ cs,o=.ptr cs)∧w2n ms os
 | _ :: ms,_ :: os=>w2n ms os
 | _,_=>True
theorem z2h {F:D7}:∀ (ys:List CV) (us:List Value),us.length=ys.length→(∀ (j:Nat) y u,ys[j]?=some y→us[j]?=some u→RelC S w y u)→∃ F,OwnL S w F (ys.map .c) us∧∀ b o,¬ F b o
 | [],[],_,_=>⟨_,.nil,fun _ _ q=>q⟩
 | [],_ :: _,h,_=>by simp at h
 | _ :: _,[],h,_=>by simp at h
 | y :: ys,u :: us,h,hr=>by
  obtain⟨F',hF,hn⟩:=z2h (F:=F) ys us (by simpa using h) (fun j y u hy hu=>hr (j + 1) y u (by simpa using hy) (by simpa using hu))
  exact⟨_,.cons _ u _ us _ F' (.c y u (hr 0 y u rfl rfl)) hF (fun _ _ q=>q.elim),fun b o q=>q.elim (fun q=>q) (hn b o)⟩
theorem z0t {v:Nat} {cs:List AV} {o s:Nat} (hle:o + s≤cs.length) (hlive:∀ x ∈ (cs.drop o).take s,x.isDead=false) {q:Nat × Nat} {b c:Nat} (h:b=q.1∧q.2 + o≤c∧c < q.2 + o + s):(Ob.blk v cs).foot q b c:=by
 have hj:c - q.2 < cs.length:=by omega
 have hx:cs[c - q.2]?=some cs[c - q.2]:=List.getElem?_eq_getElem hj
 refine⟨h.1,c - q.2,_,hx,hlive _ ?_,by omega⟩
 apply List.mem_of_getElem? (i:=c - q.2 - o)
 rw [List.getElem?_take_of_lt (by omega),List.getElem?_drop,← hx];congr 1;omega
theorem k6i (h:St X S pl w m) {i v:Nat} {cs:List AV} (hg:m.get i=some (.blk v cs)) (o s:Nat) (hle:o + s≤cs.length) (hlive:∀ x ∈ (cs.drop o).take s,x.isDead=false) :
  St X S pl w (m.upd i (.blk v (F9 cs o (List.replicate s .dead))))∧Keeps S S pl pl w w m (m.upd i (.blk v (F9 cs o (List.replicate s .dead)))) ∧
  (∀ b q,U0 pl (m.upd i (.blk v (F9 cs o (List.replicate s .dead)))) b q→U0 pl m b q∧¬ (b=(pl i).1∧(pl i).2 + o≤q∧q < (pl i).2 + o + s)):=by
 obtain⟨hv,hb,ht,hrow⟩:=h.inv.ob i _ hg
 have hlen:o + (List.replicate s AV.dead).length≤cs.length:=by simpa using hle
 have hget:∀ (j:Nat) x,(F9 cs o (List.replicate s .dead))[j]?=some x→x.isDead=false→cs[j]?=some x∧(j < o∨o + s≤j):=fun j x hx hd=>by
  rw [M5 _ _ _ hlen] at hx
  split at hx
  ·exact⟨hx,.inl (by assumption)⟩
  ·split at hx
   ·rw [List.getElem?_replicate] at hx
    split at hx
    ·injection hx with hx;subst hx;simp [AV.isDead] at hd
    ·simp at hx
   ·rename_i h2;simp at h2;exact⟨hx,.inr (by omega)⟩
 obtain⟨st,kp⟩:=h.setBlkF (fun _ _=>False) (cs':=F9 cs o (List.replicate s .dead)) hg (Ext.refl _ _) (fun _ _ q=>q.elim) (fun b q ⟨h1,j,x,hx,hd,h2⟩=>.inl ⟨h1,j,x,(hget j x hx hd).1,hd,h2⟩)
  (fun {pl'' m''} hpl hm k j x hx=>by
   rw [M5 _ _ _ hlen] at hx
   split at hx
   ·obtain⟨u,hc,hr⟩:=hrow j x hx;exact⟨u,hc,hr.mono k⟩
   ·split at hx
    ·rename_i h2
     simp at h2
     obtain⟨u,hc,_⟩:=hrow j cs[j] (List.getElem?_eq_getElem (by omega))
     rw [List.getElem?_replicate] at hx
     split at hx
     ·injection hx with hx;subst hx;exact⟨u,hc,.dead u⟩
     ·simp at hx
    ·obtain⟨u,hc,hr⟩:=hrow j x hx;exact⟨u,hc,hr.mono k⟩)
 refine⟨st,kp,fun b q ⟨id,ob,hg',hf⟩=>?_⟩
 rw [M8] at hg'
 by_cases hi:id=i
 ·subst hi;rw [if_pos rfl] at hg';injection hg' with hg';subst hg'
  obtain⟨h1,j,x,hx,hd,h2⟩:=hf
  obtain⟨h3,h4⟩:=hget j x hx hd
  exact⟨⟨id,_,hg,h1,j,x,h3,hd,h2⟩,fun ⟨_,h5,h6⟩=>by omega⟩
 ·rw [if_neg hi] at hg'
  exact⟨⟨id,ob,hg',hf⟩,fun h1=>h.inv.apart id i ob _ hg' hg hi b q hf (z0t hle hlive h1)⟩
theorem z9x {i v:Nat} {cs:List AV} {b o:Nat} (h:U0 pl (m.upd i (.blk v cs)) b o):U0 pl m b o∨(Ob.blk v cs).foot (pl i) b o:=by
 obtain⟨id,ob,hg,hf⟩:=h
 rw [M8] at hg
 by_cases hi:id=i
 ·subst hi;rw [if_pos rfl] at hg;injection hg with hg;subst hg;exact .inr hf
 ·rw [if_neg hi] at hg;exact .inl ⟨id,ob,hg,hf⟩
theorem w3t (h:St X S pl w m) (md:z0m) {x:AV} {u:Value} (hr:RelV S pl w m x u) {K:OV→Mem→Prop} (hk:w2h md m x K) :
  ∃ S' o m' F,K o m'∧Own S' w F o u∧Packed X S S' pl w m m' F∧(∀ s,md=.ref s→∃ cs,o=.ptr cs):=by
 have shut:∀ {y:AV} {u:Value} {K:OV→Mem→Prop},RelV S pl w m y u→P7 m y (fun y m=>K (.c y) m)→∃ S' o m' F,K o m'∧Own S' w F o u∧Packed X S S' pl w m m' F:=by
  intro y u K hr hk
  obtain⟨S',z,m',hk,hz,st,kp,sh⟩:=S9 h hr hk
  exact⟨S',.c z,m',_,hk,.c z u hz,st,kp,sh,fun _ _ q=>q.elim,fun _ _ q=>q.elim⟩
 cases md with
 | shut =>
  refine Exists.elim (?_:∃ S' o m' F,K o m'∧Own S' w F o u∧Packed X S S' pl w m m' F) fun S' ⟨o,m',F,h1,h2,h3⟩=>⟨S',o,m',F,h1,h2,h3,by simp⟩
  cases x with
  | agg cs =>
   cases hr with | agg _ us hl hr =>
   obtain⟨S',ys,m',hk,hlen,hys,st,kp,sh⟩:=X3 cs us h hl hr hk
   obtain⟨F,hF,hn⟩:=z2h (F:=fun _ _=>False) ys us (by omega) hys
   exact⟨S',_,m',F,hk,.agg _ us F hF,st,kp,sh,fun b o q=>absurd q (hn b o),fun b o q=>absurd q (hn b o)⟩
  | c y=>exact shut hr hk
  | t id ver n=>exact shut hr hk
  | p id ver o=>exact shut hr hk
  | bs id ver n=>exact shut hr hk
  | tp id ver i o=>exact shut hr hk
  | tup cs=>exact shut hr hk
  | dead=>exact shut hr hk
 | keep =>
  cases x with
  | c y =>
   cases hr with | c _ _ hr =>
   exact⟨S,_,m,_,hk,.c y u hr,⟨h,Keeps.refl _ _ _ _,Shrinks.refl _ _ _,fun _ _ q=>q.elim,fun _ _ q=>q.elim⟩,by simp⟩
  | _=>exact hk.elim
 | own =>
  obtain⟨S',o,m',F,h1,h2,h3⟩:=W3 depth h hr hk
  exact⟨S',o,m',F,h1,h2,h3,by simp⟩
 | ref s =>
  cases x with
  | p id ver o =>
   simp only [w2h] at hk
   split at hk
   ·rename_i v cs hg
    obtain⟨rfl,hle,hlive,hk⟩:=hk
    cases hr with | p _ _ _ b q hv hr =>
    obtain⟨_,hb⟩:=hr _ hg rfl
    obtain⟨hv',h1,h2,hrow⟩:=h.inv.ob id _ hg
    have hb1:(pl id).1=b:=by rw [← hb]
    have hb2:(pl id).2=q:=by rw [← hb]
    have hrow':RowA S pl w m b (q + o) ((cs.drop o).take s):=fun j x hx=>by
     have hj:j < s:=by have:=(List.getElem?_eq_some_iff.1 hx).1;rw [List.length_take] at this;omega
     rw [List.getElem?_take_of_lt hj,List.getElem?_drop] at hx
     have:=hrow _ x hx
     rwa [hb1,hb2,← Nat.add_assoc] at this
    obtain⟨us,hul,huc,hur⟩:=hrow'.list
    obtain⟨st,kp,hfeet⟩:=k6i h hg o s hle hlive
    obtain⟨S',os,m',F,hk,ho,hp⟩:=L8 (W3 depth) _ us st hul (fun j x u hx hu=>(hur j x u hx hu).mono kp) hk
    have hus:us.length=s:=by rw [hul,List.length_take,List.length_drop];omega
    rw [hb1] at h1 h2
    refine⟨S',_,m',_,hk,.ptr os us b (q + o) F ho h1 h2 huc (fun b' o' q1 q2=>?_),⟨hp.st,kp.trans hp.kp,⟨fun b' o' q1=>(hp.sh.grow b' o' q1).imp (fun q=>q) (fun q2=>(hfeet b' o' q2).1),fun b' o' q1=>(hfeet b' o' (hp.sh.feet _ _ q1)).1⟩,fun b' o' q1=>?_,fun b' o' q1=>?_⟩,by simp⟩
    ·exact (hfeet b' o' (hp.off b' o' q1).1).2 (by rw [hb1,hb2];exact⟨q2.1,q2.2.1,by omega⟩)
    ·rcases q1 with q1 | q1
     ·exact⟨(hfeet _ _ (hp.off b' o' q1).1).1,(hp.off b' o' q1).2⟩
     ·have hreg:b'=(pl id).1∧(pl id).2 + o≤o'∧o' < (pl id).2 + o + s:=by rw [hb1,hb2];exact⟨q1.1,q1.2.1,by omega⟩
      exact⟨⟨id,_,hg,z0t hle hlive hreg⟩,fun q2=>(hfeet _ _ (hp.sh.feet _ _ q2)).2 hreg⟩
    ·rcases q1 with q1 | q1
     ·exact hp.no _ _ q1
     ·have hreg:b'=(pl id).1∧(pl id).2 + o≤o'∧o' < (pl id).2 + o + s:=by rw [hb1,hb2];exact⟨q1.1,q1.2.1,by omega⟩
      exact fun hs=>(hp.sh.grow _ _ hs).elim (h.inv.free id _ hg _ _ (z0t hle hlive hreg)) (fun q2=>(hfeet _ _ q2).2 hreg)
   ·exact hk.elim
  | _=>exact hk.elim
theorem z4q:∀ (mds:List z0m) (xs:List AV) (us:List Value) {S:D7} {m:Mem} {K:List OV→Mem→Prop},St X S pl w m→us.length=xs.length→(∀ (j:Nat) x u,xs[j]?=some x→us[j]?=some u→RelV S pl w m x u) →
  z6w m mds xs K→∃ S' os m' F,K os m'∧OwnL S' w F os us∧Packed X S S' pl w m m' F∧w2n mds os
 | [],[],[],S,m,K,h,_,_,hk=>⟨S,[],m,_,hk,.nil,⟨h,Keeps.refl _ _ _ _,Shrinks.refl _ _ _,fun _ _ q=>q.elim,fun _ _ q=>q.elim⟩,trivial⟩
 | [],[],_ :: _,_,_,_,_,hl,_,_=>by simp at hl
 | [],_ :: _,_,_,_,_,_,_,_,hk=>hk.elim
 | _ :: _,[],_,_,_,_,_,_,_,hk=>hk.elim
 | _ :: _,_ :: _,[],_,_,_,_,hl,_,_=>by simp at hl
 | md :: mds,x :: xs,u :: us,S,m,K,h,hl,hr,hk=>by
  obtain⟨S1,o,m1,F1,hk1,ho,p1,r1⟩:=w3t h md (hr 0 x u rfl rfl) hk
  obtain⟨S2,os,m2,F2,hk2,hos,p2,r2⟩:=z4q mds xs us p1.st (by simpa using hl) (fun j x u hx hu=>(hr (j + 1) x u (by simpa using hx) (by simpa using hu)).mono p1.kp) hk1
  refine⟨S2,o :: os,m2,_,hk2,.cons o u os us F1 F2 (ho.keep (p2.still _)) hos (fun b q h1 h2=>(p1.off b q h1).2 (p2.off b q h2).1),⟨p2.st,p1.kp.trans p2.kp,p1.sh.trans p2.sh,fun b q hf=>?_,fun b q hf=>?_⟩,?_⟩
  rotate_left
  ·rcases hf with hf | hf
   ·exact fun hs=>(p2.sh.grow b q hs).elim (p1.no b q hf) (p1.off b q hf).2
   ·exact p2.no b q hf
  rotate_left
  ·rcases hf with hf | hf
   ·exact⟨(p1.off b q hf).1,fun q'=>(p1.off b q hf).2 (p2.sh.feet b q q')⟩
   ·exact⟨p1.sh.feet b q (p2.off b q hf).1,(p2.off b q hf).2⟩
  ·cases md with
   | ref s=>exact⟨r1 s rfl,r2⟩
   | _=>exact r2
theorem St.world {S' F:D7} {w':World} (h:St X S pl w m) (hext:Ext F w w') (hF:∀ b o,F b o→(X.F0 b o∨X.w0.heap.size≤b)∧¬ S b o∧¬ U0 pl m b o) (hsub:∀ b o,S b o→S' b o)
  (hgrow:∀ b o,S' b o→b < w'.heap.size∧(S b o∨F b o∨w.heap.size≤b)):St X S' pl w' m∧Keeps S S' pl pl w w' m m:=by
 have k:Keeps S S' pl pl w w' m m:=⟨hsub,fun b o hs=>hext.cell b o (h.inv.low b o hs) (fun hf=>(hF b o hf).2.1 hs),fun b s hs=>by rw [hext.shape b (P0 hs)];exact hs,Nat.le_refl _,
  fun id ob hg _=>⟨ob,hg,by cases ob<;>simp [Ob.alike],rfl⟩⟩
 have hx:=h.ext.size
 refine⟨⟨⟨fun id ob hg=>⟨(h.inv.ob id ob hg).1,(h.inv.ob id ob hg).2.keep k hext.size hext.frz hext.shape (fun b o hf hb=>hext.cell b o hb (fun q=>(hF b o q).2.2 ⟨id,ob,hg,hf⟩))⟩,h.inv.apart,fun id ob hg b o hf hs=>?_,fun b o hs=>(hgrow b o hs).1⟩,
  h.ext.trans hext (fun b o q=>(hF b o q).1),fun b o hs=>hsub _ _ (h.sub b o hs),fun b o hs=>?_,h.own,fun g cs hg=>(h.glob g cs hg).mono k.sub k.cell⟩,k⟩
 ·rcases (hgrow b o hs).2 with q | q | q
  ·exact h.inv.free id ob hg b o hf q
  ·exact (hF b o q).2.2 ⟨id,ob,hg,hf⟩
  ·have:=h.inv.foot_lt hg hf;omega
 ·rcases (hgrow b o hs).2 with q | q | q
  ·exact h.only b o q
  ·exact ((hF b o q).1).elim (fun q=>.inr (.inl q)) (fun q=>.inr (.inr q))
  ·exact .inr (.inr (by omega))
theorem w8c (h:St X S pl w m) {i v:Nat} {cs xs:List AV} (hg:m.get i=some (.blk v cs)) (o:Nat) (us:List Value) (hl:us.length=xs.length) (hle:o + xs.length≤cs.length)
  (hc:∀ (j:Nat) u,us[j]?=some u→D8 w (pl i).1 ((pl i).2 + o + j)=some u) (hr:∀ (j:Nat) x u,xs[j]?=some x→us[j]?=some u→RelV S pl w m x u)
  (hm:w2o X S pl m (fun b q=>b=(pl i).1∧(pl i).2 + o≤q∧q < (pl i).2 + o + us.length)) :
  Laid X S pl pl w m (m.upd i (.blk v (F9 cs o xs))) (fun b q=>b=(pl i).1∧(pl i).2 + o≤q∧q < (pl i).2 + o + us.length):=by
 obtain⟨hv,hb,ht,hrow⟩:=h.inv.ob i _ hg
 obtain⟨st,kp⟩:=h.setBlkF (fun b q=>b=(pl i).1∧(pl i).2 + o≤q∧q < (pl i).2 + o + us.length) (cs':=F9 cs o xs) hg (Ext.refl _ _) (fun b q hf=>by
   obtain⟨h1,h2,h3⟩:=hm b q hf
   exact⟨h1,h2,fun id ob hi hg' hf'=>h3 ⟨id,ob,hg',hf'⟩⟩) (fun b q hf=>by rw [hl];exact z6k hle hf)
  (fun {pl'' m''} hpl hm' k j x hx=>by
   rw [M5 _ _ _ hle] at hx
   split at hx
   ·obtain⟨u,hc,hr⟩:=hrow j x hx;exact⟨u,hc,hr.mono k⟩
   ·split at hx
    ·have hj:j - o < us.length:=by omega
     have hu:us[j - o]?=some us[j - o]:=List.getElem?_eq_getElem hj
     have:=hc _ _ hu
     rw [show (pl i).2 + o + (j - o)=(pl i).2 + j by omega] at this
     exact⟨_,this,(hr _ x _ hx hu).mono k⟩
    ·obtain⟨u,hc,hr⟩:=hrow j x hx;exact⟨u,hc,hr.mono k⟩)
 refine⟨st,kp,fun b q hf=>?_⟩
 rcases z9x hf with h1 | h1
 ·exact .inl h1
 ·rcases z6k hle h1 with h2 | h2
  ·exact .inl ⟨i,_,hg,h2⟩
  ·exact .inr (by rw [hl];exact h2)
theorem X0:∀ (mds:List z0m) (xs:List AV) (os:List OV) (us:List Value) (bs:List OV) (id:Nat) {S:D7} {pl:E2} {m:Mem} {F:D7} {K:Nat→Mem→Prop},St X S pl w m→(∀ (j:Nat) x u,xs[j]?=some x→us[j]?=some u→RelV S pl w m x u) →
  w2n mds os→z7f S w F os us bs→w2o X S pl m F→R7 id m mds xs bs K→∃ pl' id' m',K id' m'∧Laid X S pl pl' w m m' F
 | [],[],_,_,[],id,S,pl,m,F,K,h,_,_,_,_,hk=>⟨pl,id,m,hk,h,Keeps.refl _ _ _ _,fun _ _ q=>.inl q⟩
 | [],[],_,_,_ :: _,_,_,_,_,_,_,_,_,_,_,_,hk=>by simp [R7] at hk
 | [],_ :: _,_,_,_,_,_,_,_,_,_,_,_,_,_,_,hk=>by simp [R7] at hk
 | md :: mds,[],_,_,_,_,_,_,_,_,_,_,_,_,_,_,hk=>by cases md<;>simp [R7] at hk
 | md :: mds,x :: xs,os,us,[],_,_,_,_,_,_,_,_,_,_,_,hk=>by cases md<;>simp [R7] at hk
 | md :: mds,x :: xs,os,us,b :: bs,id,S,pl,m,F,K,h,hr,hro,ho,hm,hk=>by
  cases ho with
  | skip o o' u os us bs F hn ho =>
   cases md with
   | ref s=>obtain⟨⟨cs,q⟩,_⟩:=hro;exact absurd q (hn cs)
   | _=>exact X0 mds xs os us bs id h (fun j x u hx hu=>hr (j + 1) x u (by simpa using hx) (by simpa using hu)) hro ho hm (by simpa only [R7] using hk)
  | ptr cs0 cs' u os us bs F1 F2 h1 h2 hd =>
   have skip:R7 id m mds xs bs K→w2n mds os→∃ pl' id' m',K id' m'∧Laid X S pl pl' w m m' (fun b o=>F1 b o∨F2 b o):=fun hk hro=>by
    obtain⟨pl',id',m',g1,g2⟩:=X0 mds xs os us bs id h (fun j x u hx hu=>hr (j + 1) x u (by simpa using hx) (by simpa using hu)) hro h2 (fun b q hf=>hm b q (.inr hf)) hk
    exact⟨pl',id',m',g1,g2.st,g2.kp,fun b q hf=>(g2.feet b q hf).imp (fun q=>q) .inr⟩
   cases md with
   | ref s =>
    cases x with
    | p i ver o =>
     simp only [R7] at hk
     obtain⟨hs,hk⟩:=hk
     cases h1 with | ptr _ vs b q F' hL hb ht hc hdj =>
     obtain⟨pl1,l1,r1⟩:=K8 (U2 depth) cs' vs (1000000 * (i + 1)) h hL (fun b' o' hf=>hm b' o' (.inl (.inl hf)))
     generalize hq:G6 (H0 depth) (1000000 * (i + 1)) m cs'=U at l1 r1 hk
     have hUl:U.1.length=cs'.length:=by rw [← hq,J2]
     split at hk
     ·rename_i v cs hg
      obtain⟨rfl,hle,hk⟩:=hk
      have hx:=(hr 0 _ _ rfl rfl).mono l1.kp
      have hloc:b=(pl1 i).1∧q=(pl1 i).2 + o:=by
       generalize hu:Value.pointer (some ⟨b,q,none⟩)=uu at hx
       cases hx with | p _ _ _ b2 o2 hv hx =>
       obtain⟨_,hb2⟩:=hx _ hg rfl
       injection hu with hu;injection hu with hu;injection hu with e1 e2
       rw [← hb2];exact⟨e1,e2⟩
      obtain⟨hb1,hq1⟩:=hloc
      have hvl:vs.length=U.1.length:=by rw [hUl,hL.length]
      have hmine:w2o X S pl1 U.2.2 (fun b' q'=>b'=(pl1 i).1∧(pl1 i).2 + o≤q'∧q' < (pl1 i).2 + o + vs.length):=fun b' q' hf=>by
       have hf':b'=b∧q≤q'∧q' < q + vs.length:=by rw [hb1,hq1];exact hf
       obtain⟨g1,g2,g3⟩:=hm b' q' (.inl (.inr hf'))
       exact⟨g1,g2,fun hft=>(l1.feet b' q' hft).elim g3 (fun hf1=>hdj b' q' hf1 hf')⟩
      have l2:=w8c l1.st hg o vs hvl (by omega) (fun j u hu=>by rw [← hb1,← hq1];exact hc j u hu) r1 hmine
      have kp12:=l1.kp.trans l2.kp
      have hmine2:w2o X S pl1 (U.2.2.upd i (.blk v (F9 cs o U.1))) F2:=fun b' q' hf=>by
       obtain⟨g1,g2,g3⟩:=hm b' q' (.inr hf)
       refine⟨g1,g2,fun hft=>?_⟩
       rcases l2.feet b' q' hft with hft | hft
       ·exact (l1.feet b' q' hft).elim g3 (fun hf1=>hd b' q' (.inl hf1) hf)
       ·exact hd b' q' (.inr (by rw [hb1,hq1];exact hft)) hf
      obtain⟨pl',id',m',g1,g2⟩:=X0 mds xs os us bs id l2.st (fun j x u hx hu=>(hr (j + 1) x u (by simpa using hx) (by simpa using hu)).mono kp12) hro.2 h2 hmine2 hk
      refine⟨pl',id',m',g1,g2.st,kp12.trans g2.kp,fun b' q' hft=>?_⟩
      rcases g2.feet b' q' hft with hft | hft
      ·rcases l2.feet b' q' hft with hft | hft
       ·exact (l1.feet b' q' hft).imp (fun q=>q) (fun q=>.inl (.inl q))
       ·exact .inr (.inl (.inr (by rw [hb1,hq1];exact hft)))
      ·exact .inr (.inr hft)
     ·exact hk.elim
    | _=>simp [R7] at hk
   | _=>exact skip (by simpa only [R7] using hk) hro
theorem w0k {D:Spec} (hD:∀ f os Q,D f os Q→Den P X.G f os Q) (h:St X S pl w m) {site f:Nat} {xs:List AV} {us:List Value} (hl:us.length=xs.length) (hr:∀ (j:Nat) x u,xs[j]?=some x→us[j]?=some u→RelV S pl w m x u)
  {K : KK} (hk : w8u D site m f xs K) : (∃ fn, P.funcs[f]? = some fn ∧ fn.body.isSome = true ∧ (fn.name == "runtime.NumGoroutine") = false) ∧ Calls P f us.toArray w fun e w' => ∃ v, e = .returned v ∧ ∃ S' pl' r m', K r m' ∧ RelV S' pl' w' m' r v ∧ St X S' pl' w' m' ∧ Keeps S S' pl pl' w w' m m' := by
 obtain⟨mds,hk⟩:=hk
 obtain⟨S1,os,m1,F,⟨Q,hden,hk⟩,ho,hp,hro⟩:=z4q mds xs us h hl hr hk
 have hmine:∀ b o,F b o→(X.F0 b o∨X.w0.heap.size≤b)∧¬ S1 b o∧¬ U0 pl m1 b o∧b < w.heap.size:=fun b o hf=>by
  obtain⟨⟨id,ob,hg,hf1⟩,hf2⟩:=hp.off b o hf
  exact⟨h.own id ob hg b o hf1,hp.no b o hf,hf2,h.inv.foot_lt hg hf1⟩
 refine⟨(hD f os Q hden).1,?_⟩
 refine ((hD f os Q hden).2 S1 F w us hp.st.inv.low (fun b o hf=>⟨(hmine b o hf).2.2.2,(hmine b o hf).2.1⟩) hp.st.glob ho).mono ?_
 rintro e w' ⟨v,r,bs,S',Fr,Fb,rfl,hq,hor,hob,hend⟩
 refine⟨v,rfl,?_⟩
 obtain⟨st2,kp2⟩:=hp.st.world hend.ext (fun b o hf=>⟨(hmine b o hf).1,(hmine b o hf).2.1,(hmine b o hf).2.2.1⟩) hend.sub hend.grow
 have hx:=h.ext.size
 have hm:∀ b o,Fr b o∨Fb b o→(X.F0 b o∨X.w0.heap.size≤b)∧¬ S' b o∧¬ U0 pl m1 b o:=fun b o hf=>by
  obtain⟨h1,h2⟩:=hend.mine b o hf
  rcases h2 with h2 | h2
  ·exact⟨(hmine b o h2).1,h1,(hmine b o h2).2.2.1⟩
  ·exact⟨.inr (by omega),h1,fun ⟨id,ob,hg,hf'⟩=>by have:=hp.st.inv.foot_lt hg hf';omega⟩
 obtain⟨pl3,id3,m3,hk3,l3⟩:=X0 mds xs os us bs site st2 (fun j x u hx hu=>((hr j x u hx hu).mono hp.kp).mono kp2) hro hob (fun b o hf=>hm b o (.inr hf)) (hk r bs hq)
 obtain⟨pl4,l4,r4⟩:=U2 depth id3 l3.st hor (fun b o hf=>by
  obtain⟨g1,g2,g3⟩:=hm b o (.inl hf)
  exact⟨g1,g2,fun hft=>(l3.feet b o hft).elim g3 (hend.apart b o hf)⟩)
 exact⟨S',pl4,_,_,hk3,r4,l4.st,((hp.kp.trans kp2).trans l3.kp).trans l4.kp⟩
theorem w4k {S:D7} {w:World} {x:CV} {z:Int} (h:RelC S w x (.int .u8 z)):w1p x=true:=by
 cases h;rfl
theorem X8:∀ {l:List CV} {j:Nat} {x:CV},z7p l=true→l[j]?=some x→w1p x=false∧z5o x=true
 | [],_,_,_,h=>by simp at h
 | y :: l,j,x,hs,h=>by
  simp only [z7p,Bool.and_eq_true,Bool.not_eq_true'] at hs
  cases j with
  | zero=>simp at h;subst h;exact⟨hs.1,hs.2.1⟩
  | succ j=>exact X8 hs.2.2 (by simpa using h)
theorem z3p:∀ {l:List (List CV)} {j:Nat} {x:List CV},z1y l=true→l[j]?=some x→z7p x=true
 | [],_,_,_,h=>by simp at h
 | y :: l,j,x,hs,h=>by
  simp only [z1y,Bool.and_eq_true] at hs
  cases j with
  | zero=>simp at h;subst h;exact hs.1
  | succ j=>exact z3p hs.2 (by simpa using h)
theorem z2q:∀ {a b:List (List CV)},z1y a=true→z1y b=true→z1y (a++b)=true
 | [],_,_,h=>h
 | x :: a,b,h,k=>by
  simp only [z1y,Bool.and_eq_true,List.cons_append] at *
  exact⟨h.1,z2q h.2 k⟩
theorem RelC.apart {S U:D7} {w:World} (hU:∀ b o,U b o→∃ z,D8 w b o=some (.int .u8 z)) {x:CV} {u:Value} (h:RelC S w x u):z5o x=true→RelC (fun b o=>S b o∧¬ U b o) w x u:=by
 induction h with
 | v y hy=>exact fun _=>.v _ hy
 | sl sz es sp a cap b o f hcap hsp ha hl hs hc hr ih =>
  intro hsafe
  simp only [z5o,Bool.and_eq_true] at hsafe
  have hE:z1y (es++sp.getD [])=true:=z2q hsafe.1 (by
   cases sp with
   | none=>rfl
   | some s=>exact hsafe.2)
  have hcell:∀ k,k < (es++sp.getD []).length * sz→∃ i j e x,(es++sp.getD [])[i]?=some e∧e[j]?=some x∧k=i * sz + j:=fun k hk=>by
   have hpos:0 < sz:=by
    rcases Nat.eq_zero_or_pos sz with h0 | h0
    ·subst h0;simp at hk
    ·exact h0
   have h1:k / sz < (es++sp.getD []).length:=(Nat.div_lt_iff_lt_mul hpos).2 hk
   have h2:=hl _ _ (List.getElem?_eq_getElem h1)
   have h3:k % sz < ((es++sp.getD [])[k / sz]).length:=by rw [h2];exact Nat.mod_lt _ hpos
   exact⟨k / sz,k % sz,_,_,List.getElem?_eq_getElem h1,List.getElem?_eq_getElem h3,by rw [Nat.mul_comm];exact (Nat.div_add_mod _ _).symm⟩
  refine .sl sz es sp a cap b o f hcap hsp ha hl (fun k hk=>⟨hs k hk,fun hu=>?_⟩) hc (fun i j e x he hx=>ih i j e x he hx (X8 (z3p hE he) hx).2)
  obtain⟨i,j,e,x,he,hx,rfl⟩:=hcell k hk
  obtain⟨z,hz⟩:=hU _ _ hu
  have h1:=hr i j e x he hx
  have h2:=hc _ hk
  rw [hz] at h2;injection h2 with h2
  rw [← h2] at h1
  have:=w4k h1
  rw [(X8 (z3p hE he) hx).1] at this;cases this
 | rp cs b o f hs hc hr ih =>
  intro hsafe
  simp only [z5o] at hsafe
  refine .rp cs b o f (fun i hi=>⟨hs i hi,fun hu=>?_⟩) hc (fun i x hx=>ih i x hx (X8 hsafe hx).2)
  obtain⟨z,hz⟩:=hU _ _ hu
  have hx:cs[i]?=some cs[i]:=List.getElem?_eq_getElem hi
  have h1:=hr i _ hx
  have h2:=hc _ hi
  rw [hz] at h2;injection h2 with h2
  rw [← h2] at h1
  have:=w4k h1
  rw [(X8 hsafe hx).1] at this;cases this
mutual
theorem Own.apart {S U:D7} {w:World} (hU:∀ b o,U b o→∃ z,D8 w b o=some (.int .u8 z)):∀ {o:OV} {u:Value} {F:D7},Own S w F o u→z4h o=true→Own (fun b o=>S b o∧¬ U b o) w F o u
 | _,_,_,.c x u h,hs=>.c x u (h.apart hU hs)
 | _,_,_,.arr sz es cap pub n b capn h,hs=>by
  simp only [z4h,Bool.and_eq_true,Bool.not_eq_true'] at hs
  obtain⟨hp,hs⟩:=hs
  subst hp
  obtain⟨h1,h2,h3,h4,h5,⟨hl,f,hc,hr⟩,h7,h8⟩:=h
  refine .arr sz es cap false n b capn ⟨h1,h2,h3,h4,h5,⟨hl,f,hc,fun i j e x he hx=>(hr i j e x he hx).apart hU ?_⟩,(by intro q;cases q),h8⟩
  exact List.all_eq_true.1 (List.all_eq_true.1 hs e (List.mem_of_getElem? he)) x (List.mem_of_getElem? hx)
 | _,_,_,.ptr cs us b o F h hb ht hc hd,hs=>by simp [z4h] at hs
 | _,_,_,.bsl cs us n b o capn F h hb ht hn hc hd,hs=>by simp [z4h] at hs
 | _,_,_,.agg cs us F h,hs=>.agg cs us F (OwnL.apart hU h (by simpa [z4h] using hs))
 | _,_,_,.tup cs us F h,hs=>.tup cs us F (OwnL.apart hU h (by simpa [z4h] using hs))
theorem OwnL.apart {S U:D7} {w:World} (hU:∀ b o,U b o→∃ z,D8 w b o=some (.int .u8 z)):∀ {os:List OV} {us:List Value} {F:D7},OwnL S w F os us→z5n os=true→OwnL (fun b o=>S b o∧¬ U b o) w F os us
 | _,_,_,.nil,_=>.nil
 | _,_,_,.cons o u os us F1 F2 h1 h2 hd,hs=>by
  simp only [z5n,Bool.and_eq_true] at hs
  exact .cons o u os us F1 F2 (Own.apart hU h1 hs.1) (OwnL.apart hU h2 hs.2) hd
end
def Y7 (pl:E2) (m:Mem):D7:=fun b o=>∃ id v sz es cap,m.get id=some (.arr v sz es cap false)∧u8E es=true∧b=(pl id).1∧o < es.length * sz
theorem w3k {b o:Nat} (h:Y7 pl m b o):U0 pl m b o:=by
 obtain⟨id,v,sz,es,cap,hg,_,hb,_⟩:=h
 exact⟨id,_,hg,hb,fun q=>by cases q⟩
theorem w1o (h:St X S pl w m) {b o:Nat} (hu:Y7 pl m b o):∃ z,D8 w b o=some (.int .u8 z):=by
 obtain⟨id,v,sz,es,cap,hg,h8,rfl,ho⟩:=hu
 obtain⟨_,_,hpos,_,_,⟨hl,f,hc,hr⟩,_⟩:=h.inv.ob id _ hg
 have h1:o / sz < es.length:=(Nat.div_lt_iff_lt_mul hpos).2 ho
 have h2:=hl _ _ (List.getElem?_eq_getElem h1)
 have h3:o % sz < (es[o / sz]).length:=by rw [h2];exact Nat.mod_lt _ hpos
 have h4:=hr _ _ _ _ (List.getElem?_eq_getElem h1) (List.getElem?_eq_getElem h3)
 have h5:o / sz * sz + o % sz=o:=by rw [Nat.mul_comm];exact Nat.div_add_mod _ _
 rw [h5] at h4
 have h6:w1p (es[o / sz])[o % sz]=true:=List.all_eq_true.1 (List.all_eq_true.1 h8 _ (List.getElem_mem h1)) _ (List.getElem_mem h3)
 generalize (es[o / sz])[o % sz]=x at h4 h6
 cases x with
 | v y =>
  cases y with
  | int k z =>
   cases k<;>simp [w1p] at h6
   generalize hq:f o=q at h4
   cases h4;exact⟨z,(hc o ho).trans (by rw [hq])⟩
  | _=>simp [w1p] at h6
 | _=>simp [w1p] at h6
theorem z4k (h:St X S pl w m) {x:AV} {z:CV} {u:Value} (hr:RelV S pl w m x u) (hk:w4j m x z):RelC (fun b o=>S b o∨Y7 pl m b o) w z u:=by
 cases x with
 | c y =>
  cases hr with | c _ _ hr =>
  have hr':RelC (fun b o=>S b o∨Y7 pl m b o) w y u:=hr.mono (fun _ _ q=>.inl q) (fun _ _ _=>rfl)
  have hk':z=y∨z=z2x y:=hk
  rcases hk' with rfl | rfl
  ·exact hr'
  ·exact hr'.norm
 | t id ver n =>
  cases z with
  | sl sz es' sp' =>
   simp only [w4j] at hk
   split at hk
   ·rename_i v sz' es cap hg
    obtain⟨rfl,rfl,hn,h8,rfl,hsp⟩:=hk
    cases hr with | t _ _ _ b capn hv hnc hr =>
    obtain⟨sz2,es2,cap2,pub2,e,heq,hn',rfl,hs⟩:=hr _ hg rfl
    injection heq with _ h1 h2 h3 h4;subst h1 h2 h3 h4
    obtain⟨h0,hpos,hth,hsh,⟨hl,f,hc,hrr⟩,_⟩:=(h.inv.ob id _ hg).2
    have hok:ObOk (fun b o=>S b o∨Y7 pl m b o) pl w m (pl id) (.arr v sz es cap true) :=
     ⟨h0,hpos,⟨hth.1,(by intro q;cases q)⟩,hsh,⟨hl,f,hc,fun i j e x he hx=>(hrr i j e x he hx).mono (fun _ _ q=>.inl q) (fun _ _ _=>rfl)⟩,fun _ o ho=>.inr ⟨id,v,sz,es,cap,hg,h8,rfl,ho⟩⟩
    have key:=RelC.of_arr hok hn hs
    rcases hsp with rfl | ⟨hcc,rfl⟩
    ·exact key.norm
    ·rw [if_pos hcc] at key;exact key
   ·exact hk.elim
  | _=>exact hk.elim
 | _=>cases z<;>exact hk.elim
theorem z4j (h:St X S pl w m):∀ (xs:List AV) (zs:List OV) (us:List Value),us.length=xs.length→(∀ (j:Nat) x u,xs[j]?=some x→us[j]?=some u→RelV S pl w m x u)→w7x xs zs →
  ∃ F,OwnL (fun b o=>S b o∨Y7 pl m b o) w F zs us∧∀ b o,¬ F b o
 | [],[],[],_,_,_=>⟨_,.nil,fun _ _ q=>q⟩
 | [],[],_ :: _,hl,_,_=>by simp at hl
 | [],_ :: _,_,_,_,hk=>hk.elim
 | _ :: _,_,[],hl,_,_=>by simp at hl
 | x :: xs,[],_ :: _,_,_,hk=>by cases x<;>exact hk.elim
 | x :: xs,o :: zs,u :: us,hl,hr,hk=>by
  cases x with
  | c y =>
   cases o with
   | c z =>
    obtain⟨h1,h2⟩:=hk
    obtain⟨F,hF,hn⟩:=z4j h xs zs us (by simpa using hl) (fun j x u hx hu=>hr (j + 1) x u (by simpa using hx) (by simpa using hu)) h2
    exact⟨_,.cons _ u _ us _ F (.c z u (z4k h (hr 0 _ u rfl rfl) h1)) hF (fun _ _ q=>q.elim),fun b o q=>q.elim (fun q=>q) (hn b o)⟩
   | _=>exact hk.elim
  | _=>cases o<;>exact hk.elim
theorem z4i (h:St X S pl w m):∀ (xs:List AV) (zs:List OV) (us:List Value),us.length=xs.length→(∀ (j:Nat) x u,xs[j]?=some x→us[j]?=some u→RelV S pl w m x u)→z2a m xs zs →
  ∃ F,OwnL (fun b o=>S b o∨Y7 pl m b o) w F zs us∧∀ b o,¬ F b o
 | [],[],[],_,_,_=>⟨_,.nil,fun _ _ q=>q⟩
 | [],[],_ :: _,hl,_,_=>by simp at hl
 | [],_ :: _,_,_,_,hk=>by simp [z2a] at hk
 | _ :: _,_,[],hl,_,_=>by simp at hl
 | x :: xs,[],_ :: _,_,_,hk=>by cases x<;>simp [z2a] at hk
 | x :: xs,o :: zs,u :: us,hl,hr,hk=>by
  have rest:z2a m xs zs→∃ F,OwnL (fun b o=>S b o∨Y7 pl m b o) w F zs us∧∀ b o,¬ F b o:=fun h2 =>
   z4i h xs zs us (by simpa using hl) (fun j x u hx hu=>hr (j + 1) x u (by simpa using hx) (by simpa using hu)) h2
  have one:∀ z,o=.c z→w4j m x z→z2a m xs zs→∃ F,OwnL (fun b o=>S b o∨Y7 pl m b o) w F (o :: zs) (u :: us)∧∀ b o,¬ F b o:=fun z ho h1 h2=>by
   subst ho
   obtain⟨F,hF,hn⟩:=rest h2
   exact⟨_,.cons _ u _ us _ F (.c z u (z4k h (hr 0 _ u rfl rfl) h1)) hF (fun _ _ q=>q.elim),fun b o q=>q.elim (fun q=>q) (hn b o)⟩
  cases o with
  | c z=>cases x<;>exact one z rfl hk.1 hk.2
  | agg ws =>
   cases x with
   | agg cs =>
    obtain⟨h1,h2⟩:=hk
    have h0:=hr 0 _ u rfl rfl
    cases h0 with | agg _ vs hvl hvr =>
    obtain⟨F1,hF1,hn1⟩:=z4j h cs ws vs hvl hvr h1
    obtain⟨F,hF,hn⟩:=rest h2
    exact⟨_,.cons _ _ _ us F1 F (.agg _ vs F1 hF1) hF (fun b o q=>absurd q (hn1 b o)),fun b o q=>q.elim (hn1 b o) (hn b o)⟩
   | _=>simp [z2a] at hk
  | _=>cases x<;>simp [z2a] at hk
theorem w0j {D:Spec} (hD:∀ f os Q,D f os Q→Den P X.G f os Q) (h:St X S pl w m) {site f:Nat} {xs:List AV} {us:List Value} (hl:us.length=xs.length) (hr:∀ (j:Nat) x u,xs[j]?=some x→us[j]?=some u→RelV S pl w m x u)
  {K : KK} (hk : w8t D site m f xs K) : (∃ fn, P.funcs[f]? = some fn ∧ fn.body.isSome = true ∧ (fn.name == "runtime.NumGoroutine") = false) ∧ Calls P f us.toArray w fun e w' => ∃ v, e = .returned v ∧ ∃ S' pl' r m', K r m' ∧ RelV S' pl' w' m' r v ∧ St X S' pl' w' m' ∧ Keeps S S' pl pl' w w' m m' := by
 obtain⟨os,hlend,Q,hden,hk⟩:=hk
 obtain⟨F,ho,hF⟩:=z4i h xs os us hl hr hlend
 refine⟨(hD f os Q hden).1,?_⟩
 have hlow:∀ b o,(S b o∨Y7 pl m b o)→b < w.heap.size:=fun b o q=>by
  rcases q with q | q
  ·exact h.inv.low b o q
  ·obtain⟨z,hz⟩:=w1o h q;exact w4t hz
 refine ((hD f os Q hden).2 _ F w us hlow (fun b o q=>absurd q (hF b o)) (fun g cs hg=>(h.glob g cs hg).mono (fun _ _ q=>.inl q) (fun _ _ _=>rfl)) ho).mono ?_
 rintro e w' ⟨v,r,bs,S',Fr,Fb,rfl,hq,hor,hob,hend⟩
 refine⟨v,rfl,?_⟩
 obtain⟨hsafe,hK⟩:=hk r bs hq
 have hU:∀ b o,Y7 pl m b o→∃ z,D8 w' b o=some (.int .u8 z):=fun b o q=>by
  obtain⟨z,hz⟩:=w1o h q
  exact⟨z,by rw [hend.ext.cell b o (w4t hz) (hF b o)];exact hz⟩
 have hor2:=Own.apart hU hor hsafe
 obtain⟨st2,kp2⟩:=h.world (S':=fun b o=>S' b o∧¬ Y7 pl m b o) hend.ext (fun b o q=>absurd q (hF b o)) (fun b o hs=>⟨hend.sub b o (.inl hs),fun q=>by
   obtain⟨id,ob,hg,hf⟩:=w3k q
   exact h.inv.free id ob hg b o hf hs⟩) (fun b o hs=>by
   obtain⟨h1,h2⟩:=hend.grow b o hs.1
   refine⟨h1,?_⟩
   rcases h2 with (h2 | h2) | h2 | h2
   ·exact .inl h2
   ·exact absurd h2 hs.2
   ·exact absurd h2 (hF b o)
   ·exact .inr (.inr h2))
 have hx:=h.ext.size
 have hm:∀ b o,Fr b o→(X.F0 b o∨X.w0.heap.size≤b)∧¬ (S' b o∧¬ Y7 pl m b o)∧¬ U0 pl m b o:=fun b o hf=>by
  obtain⟨h1,h2⟩:=hend.mine b o (.inl hf)
  rcases h2 with h2 | h2
  ·exact absurd h2 (hF b o)
  ·exact⟨.inr (by omega),fun q=>h1 q.1,fun ⟨id,ob,hg,hf'⟩=>by have:=h.inv.foot_lt hg hf';omega⟩
 obtain⟨pl4,l4,r4⟩:=U2 depth site st2 hor2 hm
 exact⟨_,pl4,_,_,hK,r4,l4.st,kp2.trans l4.kp⟩
theorem w2e {D:Spec} (hD:∀ f os Q,D f os Q→Den P X.G f os Q) (h:St X S pl w m) {site f:Nat} {xs:List AV} {us:List Value} (hl:us.length=xs.length) (hr:∀ (j:Nat) x u,xs[j]?=some x→us[j]?=some u→RelV S pl w m x u)
  {K : KK} (hk : w8s D site m f xs K) : (∃ fn, P.funcs[f]? = some fn ∧ fn.body.isSome = true ∧ (fn.name == "runtime.NumGoroutine") = false) ∧ Calls P f us.toArray w fun e w' => ∃ v, e = .returned v ∧ ∃ S' pl' r m', K r m' ∧ RelV S' pl' w' m' r v ∧ St X S' pl' w' m' ∧ Keeps S S' pl pl' w w' m m' := by
 rcases hk with hk | hk
 ·exact w0k hD h hl hr hk
 ·exact w0j hD h hl hr hk
end
end Go.Proofs.YtioiigabeoaneaaGreat.V
namespace Go.Proofs.YtioiigabeoaneaaGreat.V
open Go Go.RowKit
structure TmR (S:D7) (pl:E2) (w:World) (m:Mem) (tm:List AV) (a:Act):Prop where
 defers:a.defers=[]
 size:a.tmps.size=tm.length
 rel:∀ (i:Nat) x,tm[i]?=some x→RelV S pl w m x (a.tmps.getD i undef)
section
variable {P:Program} {T:Tab} {X:Ctx} {S:D7} {pl:E2} {w:World} {m:Mem} {tm:List AV} {a:Act}
theorem TmR.mono {S':D7} {pl':E2} {w':World} {m':Mem} (k:Keeps S S' pl pl' w w' m m') (h:TmR S pl w m tm a):TmR S' pl' w' m' tm a:=⟨h.defers,h.size,fun i x hx=>(h.rel i x hx).mono k⟩
theorem TmR.put (h:TmR S pl w m tm a) {x:AV} {u:Value} (hr:RelV S pl w m x u) (d:Option Tmp):TmR S pl w m (H8 tm d x) (a.put d u):=by
 cases d with
 | none=>exact h
 | some d =>
  refine⟨h.defers,by simp [H8,Act.put,h.size],fun i y hy=>?_⟩
  simp only [H8,List.getElem?_set] at hy
  simp only [Act.put]
  by_cases hi:d=i
  ·subst hi
   rw [if_pos rfl] at hy
   split at hy
   ·injection hy with hy;subst hy
    rename_i hlt
    have:(a.tmps.setIfInBounds d u).getD d undef=u:=by simp [Array.getD,h.size,hlt]
    rw [this];exact hr
   ·simp at hy
  ·rw [if_neg hi] at hy
   have:(a.tmps.setIfInBounds d u).getD i undef=a.tmps.getD i undef:=by
    rw [Array.getD_eq_getD_getElem?,Array.getD_eq_getD_getElem?,Array.getElem?_setIfInBounds_ne hi]
   rw [this];exact h.rel i y hy
theorem E5 (hs:St X S pl w m) (h:TmR S pl w m tm a) (ty:Nat) (x:Operand):RelV S pl w m (evO T X.G tm ty x) (a.eval x):=by
 cases x with
 | tmp t =>
  simp only [evO,Act.eval]
  by_cases ht:t < tm.length
  ·have hx:tm[t]?=some tm[t]:=List.getElem?_eq_getElem ht
   have:=h.rel t _ hx
   simpa [List.getD,hx] using this
  ·simp [List.getD,List.getElem?_eq_none (Nat.not_lt.1 ht)];exact .dead _
 | const v =>
  simp only [evO,Act.eval]
  unfold w8n
  split
  ·exact .c _ _ (.sl _ [] (some []) none 0 0 0 (fun _=>.nilFunc) (Nat.le_refl _) (fun s h=>by injection h with h;subst h;rfl) (fun h=>absurd rfl h) (fun i e h=>by simp at h) (fun k h=>by simp at h) (fun k h=>by simp at h) (fun i j e x h=>by simp at h))
  ·split
   ·exact .c _ _ (.v _ (by assumption))
   ·exact .dead _
 | global g =>
  simp only [evO,Act.eval]
  split
  ·rename_i cs hg;exact .c _ _ (hs.glob g cs hg)
  ·exact .dead _
 | func f=>exact .c _ _ (.v _ rfl)
theorem z8o (hs:St X S pl w m) (h:TmR S pl w m tm a):∀ (xs:List Operand) (tys:List TypeId),(xs.map a.eval).length=(evL T X.G tm xs tys).length∧∀ (j:Nat) x u,(evL T X.G tm xs tys)[j]?=some x→(xs.map a.eval)[j]?=some u→RelV S pl w m x u
 | [],_=>⟨rfl,fun j x u hx=>by simp [evL] at hx⟩
 | x :: xs,tys=>by
  obtain⟨h1,h2⟩:=z8o hs h xs tys.tail
  refine⟨by simp only [List.map_cons,List.length_cons,evL];rw [h1],fun j y u hy hu=>?_⟩
  cases j with
  | zero=>simp [evL] at hy hu;subst hy hu;exact E5 hs h _ x
  | succ j=>exact h2 j y u (by simpa [evL] using hy) (by simpa using hu)
theorem z1e {x:AV} {u:Value} (h:RelV S pl w m x u) {A B:Prop} (hk:Y5 x A B):∃ b,u=.bool b∧(b=true→A)∧(b=false→B):=by
 unfold Y5 at hk
 split at hk
 ·exact⟨_,H2 h,hk⟩
 ·exact hk.elim
theorem w0q (o:Oper) {next:Act→World→Prop} {Q:Exit→Act→World→Prop} {s:Sem Value} {u:Value} {w':World} (he:(execOp a.eval o).run P w=((do pure (Next.value (← s)):Sem Next)).run P w) (hr:s.run P w=.ok u w') (hn:next (a.put o.dst u) w'):o.wp P a w next Q:=by
 unfold Oper.wp
 rw [he,Sem.run_bind,hr]
 exact hn
def After (X:Ctx) (S:D7) (pl:E2) (w:World) (m:Mem) (tm:List AV) (d:Option Tmp) (K:KK) (a':Act) (w':World):Prop :=
 ∃ v S' pl' m',K v m'∧St X S' pl' w' m'∧Keeps S S' pl pl' w w' m m'∧TmR S' pl' w' m' (H8 tm d v) a'
theorem Did.next {K:KK} {d:Option Tmp} (h:TmR S pl w m tm a) {s:Sem Value} (hd:Did X S pl w m (s.run P w) K):∃ u w',s.run P w=.ok u w'∧After X S pl w m tm d K (a.put d u) w':=by
 obtain⟨u,w',S',pl',v,m',e1,e2,e3,e4,e5⟩:=hd
 exact⟨u,w',e1,v,S',pl',m',e2,e4,e5,(h.mono e5).put e3 d⟩
theorem z7z (hs:St X S pl w m) (h:TmR S pl w m tm a) (ps:Array (Nat × Operand)) :
  (ps.toList.map fun p=>(p.1,a.eval p.2)).length=(ps.toList.map fun p=>(p.1,evO T X.G tm 0 p.2)).length ∧
  ∀ (j:Nat) p q,(ps.toList.map fun p=>(p.1,evO T X.G tm 0 p.2))[j]?=some p→(ps.toList.map fun p=>(p.1,a.eval p.2))[j]?=some q→p.1=q.1∧RelV S pl w m p.2 q.2:=by
 refine⟨by simp,fun j p q hp hq=>?_⟩
 rw [List.getElem?_map] at hp hq
 cases hj:ps.toList[j]? with
 | none=>rw [hj] at hp;simp at hp
 | some x=>rw [hj] at hp hq;simp at hp hq;subst hp hq;exact⟨rfl,E5 hs h 0 x.2⟩
theorem w3r (hs:St X S pl w m) (h:TmR S pl w m tm a) (x:Option Operand):z6y S pl w m (x.map (evO T X.G tm 0)) (x.map a.eval):=by
 cases x with
 | none=>trivial
 | some x=>exact E5 hs h 0 x
theorem z6s (hT:TabOk P T) (hs:St X S pl w m) (site:Nat) (b:Builtin) (tys:List TypeId) (ty:TypeId) (consts:Array Bool) {xs:List AV} {us:List Value} (hl:us.length=xs.length)
  (hr:∀ (j:Nat) x u,xs[j]?=some x→us[j]?=some u→RelV S pl w m x u) {K:KK} (hk:J8 T site m b tys xs K) :
  ∃ s:Sem Value,(builtin b tys.toArray ty consts us.toArray)=(do pure (Next.value (← s)):Sem Next)∧Did X S pl w m (s.run P w) K:=by
 unfold J8 at hk
 split at hk
 ·rename_i x t
  match us,hl with
  | [u],_=>exact⟨_,rfl,w3l hT hs (tys:=#[t]) rfl (hr 0 x u rfl rfl) hk⟩
 ·rename_i x t
  match us,hl with
  | [u],_=>exact⟨_,rfl,w3p hT hs (tys:=#[t]) rfl (hr 0 x u rfl rfl) hk⟩
 ·rename_i tys;exact⟨Builtin.min_ tys.toArray ty us.toArray,rfl,z1z (tys:=tys.toArray) (ty:=ty) hs hl hr false hk⟩
 ·rename_i tys;exact⟨Builtin.max_ tys.toArray ty us.toArray,rfl,z1z (tys:=tys.toArray) (ty:=ty) hs hl hr true hk⟩
 ·rename_i x y t t2
  match us,hl with
  | [u,v],_ =>
   split at hk
   ·rename_i h1 h2;exact⟨_,rfl,z2e hT hs h1 (.inl ⟨_,_,_,_,h2⟩) site (hr 0 x u rfl rfl) (hr 1 y v rfl rfl) hk⟩
   ·rename_i h1 h2;exact⟨_,rfl,z2e hT hs h1 (.inr h2) site (hr 0 x u rfl rfl) (hr 1 y v rfl rfl) hk⟩
   ·exact hk.elim
 ·rename_i x y t t2
  match us,hl with
  | [u,v],_ =>
   split at hk
   ·rename_i h1;exact⟨_,rfl,w1z hT hs h1 (hr 0 x u rfl rfl) (hr 1 y v rfl rfl) hk⟩
   ·exact hk.elim
 ·exact hk.elim
theorem z3t {D:Spec} (hT:TabOk P T) (hD:∀ f os Q,D f os Q→Den P X.G f os Q) (hs:St X S pl w m) (h:TmR S pl w m tm a) (o:Oper) {K:KK} (hk:opW T X.G D tm o m K) {Q:Exit→Act→World→Prop} :
  o.wp P a w (After X S pl w m tm o.dst K) Q:=by
 have fin:∀ {s:Sem Value},(execOp a.eval o).run P w=((do pure (Next.value (← s)):Sem Next)).run P w→Did X S pl w m (s.run P w) K→o.wp P a w (After X S pl w m tm o.dst K) Q:=fun he hd=>by
  obtain⟨u,w',h1,h2⟩:=hd.next (tm:=tm) (a:=a) (d:=o.dst) h
  exact w0q o he h1 h2
 have pureS:∀ {x:AV} {u:Value},(execOp a.eval o).run P w=.ok (.value u) w→RelV S pl w m x u→K x m→o.wp P a w (After X S pl w m tm o.dst K) Q:=fun {x u} he hr hk=>by
  unfold Oper.wp
  rw [he]
  exact⟨x,S,pl,m,hk,hs,Keeps.refl _ _ _ _,h.put hr o.dst⟩
 unfold opW at hk
 dsimp only at hk
 split at hk
 ·rename_i x ho;exact pureS (x:=evO T X.G tm o.type x) (u:=a.eval x) (by unfold execOp;rw [ho];rfl) (E5 hs h _ x) hk
 ·rename_i x ho;exact pureS (x:=evO T X.G tm o.type x) (u:=a.eval x) (by unfold execOp;rw [ho];rfl) (E5 hs h _ x) hk
 ·rename_i c x y ho
  obtain⟨b,hb,h1,h2⟩:=z1e (E5 hs h 0 c) hk
  cases b with
  | true=>exact pureS (x:=evO T X.G tm o.type x) (u:=a.eval x) (by unfold execOp;rw [ho];simp only [hb];rfl) (E5 hs h _ x) (h1 rfl)
  | false=>exact pureS (x:=evO T X.G tm o.type y) (u:=a.eval y) (by unfold execOp;rw [ho];simp only [hb];rfl) (E5 hs h _ y) (h2 rfl)
 ·rename_i e ho
  split at hk
  ·exact hk.elim
  ·rename_i n hn;exact fin (by unfold execOp;rw [ho]) (w0n hT hs hn _ hk)
 ·rename_i e x ho;exact fin (by unfold execOp;rw [ho]) (w3q hs e _ (E5 hs h e x) hk)
 ·rename_i t ps ho
  obtain⟨h1,h2⟩:=z7z (T:=T) hs h ps
  refine fin (s:=Instr.build t (ps.map fun (i,x)=>(i,a.eval x))) (by unfold execOp;rw [ho]) ?_
  have:=w0l (K:=K) hT hs (t:=t) h1 h2 (by
   split at hk
   ·rename_i hk2;rw [hk2];exact hk
   ·rename_i hk2;rw [hk2];exact hk
   ·exact hk.elim)
  have e:(ps.map fun (i,x)=>(i,a.eval x))=(ps.toList.map fun p=>(p.1,a.eval p.2)).toArray:=by apply Array.ext';simp
  rw [e];exact this
 ·rename_i t len ps ho
  obtain⟨h1,h2⟩:=z7z (T:=T) hs h ps
  split at hk
  ·rename_i esz _ _ _ hk2
   refine fin (s:=Instr.buildSlice t len (ps.map fun (i,x)=>(i,a.eval x))) (by unfold execOp;rw [ho]) ?_
   have e:(ps.map fun (i,x)=>(i,a.eval x))=(ps.toList.map fun p=>(p.1,a.eval p.2)).toArray:=by apply Array.ext';simp
   rw [e]
   cases hb:Nat.ble 16 esz with
   | false =>
    rw [hb] at hk
    exact W7 hT hs hk2 _ h1 h2 hk
   | true =>
    rw [hb] at hk
    rcases hk with hk | hk
    ·exact W7 hT hs hk2 _ h1 h2 hk
    ·exact z3g hT hs hk2 _ h1 h2 hk
  ·exact hk.elim
 ·rename_i t x ho
  split at hk
  ·exact hk.elim
  ·rename_i n hn;exact fin (by unfold execOp;rw [ho]) (w1n hT hs hn (E5 hs h 0 x) hk)
 ·rename_i t x y ho
  split at hk
  ·exact hk.elim
  ·rename_i n hn
   obtain⟨w',S',m',h1,h2,h3,h4⟩:=z9a hT hs hn (E5 hs h 0 x) (E5 hs h t y) hk
   unfold Oper.wp
   have:(execOp a.eval o).run P w=.ok .skip w':=by
    unfold execOp;rw [ho]
    simp only [Sem.run_bind,h1,Result.andThen_ok,Sem.run_pure]
   rw [this]
   exact⟨.dead,S',pl,m',h2,h3,h4,(h.mono h4).put (.dead undef) o.dst⟩
 ·rename_i x ho
  obtain⟨u,v,h1,h2,h3⟩:=z4t (P:=P) o x a.eval ho (E5 hs h 0 x) hk
  exact pureS h1 h3 h2
 ·rename_i op t x y _ ho
  split at hk
  ·rename_i p hp
   have hxa:=E5 (T:=T) hs h t x
   have hya:=E5 (T:=T) hs h t y
   obtain⟨xs,ys⟩:=p
   unfold w8z at hp
   split at hp
   ·rename_i q1 q2
    injection hp with hp;injection hp with e1 e2;subst e1 e2
    rw [q1] at hxa;rw [q2] at hya
    exact fin (s:=do eqGuard op t x y (a.eval x) (a.eval y);binOp op t (a.eval x) (a.eval y)) (by unfold execOp;rw [ho]) (w6h hT hs op t x y hxa hya hk)
   ·simp at hp
  ·exact fin (s:=do eqGuard op t x y (a.eval x) (a.eval y);binOp op t (a.eval x) (a.eval y)) (by unfold execOp;rw [ho]) (w3s hT hs op t x y (E5 hs h t x) (E5 hs h t y) hk)
 ·rename_i op _ x ho;exact fin (by unfold execOp;rw [ho]) (w4z hs op (E5 hs h 0 x) hk)
 ·rename_i s d x ho;exact fin (by unfold execOp;rw [ho]) (w2b hT hs _ (E5 hs h s x) hk)
 ·rename_i t l c ho
  split at hk
  ·rename_i hk2;exact fin (by unfold execOp;rw [ho]) (z3u hT hs hk2 _ (E5 hs h 0 l) (E5 hs h 0 c) hk)
  ·exact hk.elim
 ·rename_i t x lo hi mx ho
  exact fin (by unfold execOp;rw [ho]) (z9c hT hs (E5 hs h t x) (w3r hs h lo) (w3r hs h hi) (w3r hs h mx) hk)
 ·rename_i s x f ho
  split at hk
  ·rename_i fs hk2
   split at hk
   ·rename_i hf;exact fin (by unfold execOp;rw [ho]) (z3z hs hT hk2 hf (E5 hs h 0 x) hk)
   ·exact hk.elim
   ·exact hk.elim
  ·exact hk.elim
 ·rename_i t x f ho
  split at hk
  ·rename_i fs hk2
   split at hk
   ·rename_i hf;exact fin (by unfold execOp;rw [ho]) (z9v hT hs hk2 hf (E5 hs h 0 x) hk)
   ·exact hk.elim
  ·exact hk.elim
 ·rename_i t x i ho;exact fin (by unfold execOp;rw [ho]) (z3x hT hs (E5 hs h t x) (E5 hs h 0 i) hk)
 ·rename_i t x i ho;exact fin (by unfold execOp;rw [ho]) (z9q hT hs (E5 hs h t x) (E5 hs h 0 i) hk)
 ·rename_i x i ho;exact fin (by unfold execOp;rw [ho]) (z6m hs (E5 hs h 0 x) hk)
 ·rename_i c ho
  obtain⟨hl,hr⟩:=z8o (T:=T) hs h c.args.toList c.argTypes.toList
  have hargs:c.args.map a.eval=(c.args.toList.map a.eval).toArray:=by apply Array.ext';simp
  split at hk
  ·rename_i b hb
   obtain⟨s,h1,h2⟩:=z6s hT hs (U7 o.dst) b c.argTypes.toList o.type (c.args.map fun | .const _=>true | _=>false) hl hr hk
   refine fin (s:=s) ?_ h2
   rw [← h1]
   unfold execOp;rw [ho]
   simp only [Sem.run_bind,resolve,hb,Sem.run_pure,Result.andThen_ok,invoke,← hargs,Array.toArray_toList]
   rfl
  ·rename_i f hf
   have hfr:=E5 (T:=T) hs h 0 f
   split at hk
   ·rename_i g first captured hev
    obtain⟨rfl,rfl,hk⟩:=hk
    rw [hev] at hfr
    have hfv:=H2 hfr
    obtain⟨⟨fn,hfn,hbody,hname⟩,hcall⟩:=w2e hD hs hl hr hk
    unfold Oper.wp
    have hrun:(execOp a.eval o).run P w=.ok (.enter g (c.args.toList.map a.eval).toArray) w:=by
     unfold execOp;rw [ho]
     have hnone:fn.body.isNone=false:=by cases hq:fn.body<;>simp_all
     simp only [Sem.run_bind,resolve,hf,hfv,Deferred.ofValue,Sem.run_pure,Result.andThen_ok,invoke,callFunc,run_program,hfn,hname,Bool.false_eq_true,if_false,hnone,hargs]
     simp
    rw [hrun,Oper.upon_enter]
    refine hcall.mono ?_
    rintro e w' ⟨v,rfl,S',pl',r,m',hK,hrel,hst,hkp⟩
    exact⟨r,S',pl',m',hK,hst,hkp,(h.mono hkp).put hrel o.dst⟩
   ·exact hk.elim
  ·exact hk.elim
 ·exact hk.elim
end
end Go.Proofs.YtioiigabeoaneaaGreat.V
namespace Go.Proofs.YtioiigabeoaneaaGreat.V
open Go Go.RowKit
theorem Ob.same_refl (o:Option Ob):Ob.same o o:=by
 cases o with
 | none=>trivial
 | some o=>cases o<;>simp [Ob.same]
theorem Ob.same_trans {a b c:Option Ob} (h:Ob.same a b) (k:Ob.same b c):Ob.same a c:=by
 cases a with
 | none=>cases b with
  | none=>exact k
  | some b=>exact h.elim
 | some a=>cases b with
  | none=>cases a<;>exact h.elim
  | some b=>cases c with
   | none=>cases b<;>exact k.elim
   | some c=>cases a<;>cases b<;>cases c<;>simp_all [Ob.same]
theorem Agree.refl (wr:List Nat) (m:Mem):Agree wr m m:=⟨Nat.le_refl _,fun _ _ _ h=>by rw [h];exact Ob.same_refl _⟩
theorem Agree.trans {wr:List Nat} {a b c:Mem} (h:Agree wr a b) (k:Agree wr b c):Agree wr a c:=⟨Nat.le_trans h.1 k.1,fun id ob hi hg=>by
 have h1:=h.2 id ob hi hg
 cases hb:b.get id with
 | none=>rw [hb] at h1;cases ob<;>exact h1.elim
 | some ob'=>rw [hb] at h1;exact Ob.same_trans h1 (k.2 id ob' hi hb)⟩
theorem Agree.blk {wr:List Nat} {m m':Mem} (h:Agree wr m m') {id v:Nat} {cs:List AV} (hi:id ∉ wr) (hg:m.get id=some (.blk v cs)):m'.get id=some (.blk v cs):=by
 have:=h.2 id _ hi hg
 cases hg':m'.get id with
 | none=>rw [hg'] at this;exact this.elim
 | some ob=>rw [hg'] at this;cases ob with
  | blk v' cs'=>obtain⟨rfl,rfl⟩:=this;rfl
  | arr _ _ _ _ _=>exact this.elim
theorem Agree.arr {wr:List Nat} {m m':Mem} (h:Agree wr m m') {id v sz:Nat} {es:List (List CV)} {cap:Option Nat} {pub:Bool} (hi:id ∉ wr) (hg:m.get id=some (.arr v sz es cap pub)):∃ pub',m'.get id=some (.arr v sz es cap pub'):=by
 have:=h.2 id _ hi hg
 cases hg':m'.get id with
 | none=>rw [hg'] at this;exact this.elim
 | some ob=>rw [hg'] at this;cases ob with
  | blk _ _=>exact this.elim
  | arr v' sz' es' cap' pub'=>obtain⟨rfl,rfl,rfl,rfl⟩:=this;exact⟨_,rfl⟩
section
variable {T:Tab} {G:L2} {D:Spec} {wr:List Nat}
def w3y (T:Tab) (G:L2) (tm tm':List AV) (o:Oper):Prop:=∀ x ∈ o.op.operands,∀ ty,evO T G tm' ty x=evO T G tm ty x
theorem w1w {tm tm':List AV}:∀ (xs:List Operand) (tys:List TypeId),(∀ x ∈ xs,∀ ty,evO T G tm' ty x=evO T G tm ty x)→evL T G tm' xs tys=evL T G tm xs tys
 | [],_,_=>rfl
 | x :: xs,tys,h=>by simp only [evL];rw [h x (by simp),w1w xs tys.tail (fun y hy=>h y (by simp [hy]))]
theorem z5x {tm tm':List AV} (ps:Array (Nat × Operand)) (h:∀ x ∈ (ps.toList.map (·.2)),∀ ty,evO T G tm' ty x=evO T G tm ty x) :
  (ps.toList.map fun p=>(p.1,evO T G tm' 0 p.2))=(ps.toList.map fun p=>(p.1,evO T G tm 0 p.2)):=by
 apply List.map_congr_left
 intro p hp
 rw [h p.2 (List.mem_map.2 ⟨p,hp,rfl⟩)]
theorem z5z {tm tm':List AV} (x:Option Operand) (h:∀ y ∈ x.toArray,∀ ty,evO T G tm' ty y=evO T G tm ty y):x.map (evO T G tm' 0)=x.map (evO T G tm 0):=by
 cases x with
 | none=>rfl
 | some x=>simp only [Option.map_some];rw [h x (by simp)]
theorem z8b {tm tm':List AV} (o:Oper) (h:w3y T G tm tm' o) (m:Mem) (K:KK):opW T G D tm' o m K=opW T G D tm o m K:=by
 unfold w3y at h
 unfold opW
 dsimp only
 split<;>rename_i ho<;>(try rw [ho] at h)<;>(try simp only [Op.operands] at h)
 case h_1 x=>rw [h x (by simp)]
 case h_2 x=>rw [h x (by simp)]
 case h_3 c a b=>rw [h c (by simp),h a (by simp),h b (by simp)]
 case h_5 e x=>rw [h x (by simp)]
 case h_6 t ps=>rw [z5x ps (fun x hx=>h x (by simpa using hx))]
 case h_7 t len ps=>rw [z5x ps (fun x hx=>h x (by simpa using hx))]
 case h_8 t x=>rw [h x (by simp)]
 case h_9 t x y=>rw [h x (by simp),h y (by simp)]
 case h_10 x=>rw [h x (by simp)]
 case h_11 op t x y _=>rw [h x (by simp),h y (by simp)]
 case h_12 x=>rw [h x (by simp)]
 case h_13 s d x=>rw [h x (by simp)]
 case h_14 t l c=>rw [h l (by simp),h c (by simp)]
 case h_15 t x lo hi mx=>rw [h x (by simp),z5z lo (fun y hy=>h y (by simp at hy ⊢;simp [hy])),z5z hi (fun y hy=>h y (by simp at hy ⊢;simp [hy])),z5z mx (fun y hy=>h y (by simp at hy ⊢;simp [hy]))]
 case h_16 s x f=>rw [h x (by simp)]
 case h_17 t x f=>rw [h x (by simp)]
 case h_18 t x i=>rw [h x (by simp),h i (by simp)]
 case h_19 t x i=>rw [h x (by simp),h i (by simp)]
 case h_20 x i=>rw [h x (by simp)]
 case h_21 c =>
  have hargs:∀ x ∈ c.args.toList,∀ ty,evO T G tm' ty x=evO T G tm ty x:=fun x hx=>h x (by unfold Call.operands;simp at hx;simp [hx])
  rw [w1w _ _ hargs]
  split
  ·rfl
  ·rename_i f hf
   have:=h f (by unfold Call.operands;rw [hf];simp)
   rw [this]
  ·rfl
 case h_22=>rfl
def k1l (T:Tab) (G:L2) (D:Spec) (wr:List Nat) (tm:List AV) (o:Oper) (m:Mem) (v:AV):Prop:=∀ m',(Y1 o=true→Agree wr m m')→∀ K:KK,K v m'→opW T G D tm o m' K
theorem z0u {agg:Bool} {s:Nat} {cs:List AV} {K:AV→Prop} (h:W2 agg s cs K):∃ v,K v∧∀ K':AV→Prop,K' v→W2 agg s cs K':=by
 unfold W2 at h ⊢
 split at h
 ·rename_i ha;exact⟨_,h.2,fun K' hk=>by rw [if_pos ha];exact⟨h.1,hk⟩⟩
 ·rename_i ha
  cases cs with
  | nil=>exact h.elim
  | cons x r=>exact⟨x,h,fun K' hk=>by rw [if_neg ha];exact hk⟩
theorem w4e {op:BinOp} {a b:Value} {K:Value→Prop} (h:z9h op a b K):∃ v,K v∧∀ K':Value→Prop,K' v→z9h op a b K':=by
 cases a<;>cases b<;>simp only [z9h] at h ⊢<;>try exact h.elim
 case int.int k x k' y =>
  cases op<;>simp only at h ⊢<;>first
   | exact⟨_,h.2.2,fun K' hk=>⟨h.1,h.2.1,hk⟩⟩
   | exact⟨_,h.2,fun K' hk=>⟨h.1,hk⟩⟩
 case string.string x y =>
  cases op<;>simp only at h ⊢<;>first
   | exact h.elim
   | exact⟨_,h.2,fun K' hk=>⟨h.1,hk⟩⟩
   | exact⟨_,h,fun K' hk=>hk⟩
theorem z4c {d:Int} {x:Option AV} {K:Int→Prop} (h:bnd d x K):∃ n,K n∧∀ K':Int→Prop,K' n→bnd d x K':=by
 unfold bnd at h ⊢
 split at h
 ·exact⟨_,h,fun K' hk=>hk⟩
 ·exact⟨_,h,fun K' hk=>hk⟩
 ·exact h.elim
theorem k0l {op:BinOp} {k:TK} {m:Mem} {x y:AV} {K:AV→Prop} (h:z6t op k m x y fun v _=>K v):∃ v,K v∧∀ (m':Mem) (K':KK),K' v m'→z6t op k m' x y K':=by
 unfold z6t at h
 split at h
 ·split at h
  ·exact⟨_,h,fun m' K' h=>h⟩
  ·exact⟨_,h,fun m' K' h=>h⟩
  ·exact h.elim
 ·obtain⟨v,h1,h2⟩:=w4e h
  exact⟨_,h1,fun m' K' h=>h2 (fun r=>K' (.c (.v r)) m') h⟩
 ·obtain⟨v,h1,h2⟩:=w4e h
  exact⟨_,h1,fun m' K' h=>h2 (fun r=>K' (.c (.v r)) m') h⟩
 ·split at h
  ·rename_i n1 n2
   refine⟨_,h.2,fun m' K' hk=>?_⟩
   unfold z6t
   split
   ·simp [z0l] at n1
   ·simp [z0l] at n1
   ·simp [z0l] at n1
   ·rw [n1,n2];exact⟨h.1,hk⟩
  ·rename_i n1 n2
   refine⟨_,h.2,fun m' K' hk=>?_⟩
   unfold z6t
   split
   ·simp [z0l] at n1
   ·simp [z0l] at n1
   ·simp [z0l] at n1
   ·rw [n1,n2];exact⟨h.1,hk⟩
  ·exact h.elim
theorem z6d {agg:Bool} {s:Nat} {m:Mem} {x:AV} {K:AV→Prop} (hx:(∃ y,x=.c y)∨(∃ id ver o,x=.p id ver o∧id ∉ wr)∨∃ id ver i o,x=.tp id ver i o∧id ∉ wr) (h:W5 agg s m x fun v _=>K v) :
  ∃ v,K v∧∀ m',Agree wr m m'→∀ K':KK,K' v m'→W5 agg s m' x K':=by
 rcases hx with ⟨y,rfl⟩ | ⟨id,ver,o,rfl,hi⟩ | ⟨id,ver,i,o,rfl,hi⟩
 ·cases y with
  | rp cs =>
   obtain⟨v,h1,h2⟩:=z0u h
   exact⟨v,h1,fun m' _ K' hk=>h2 (fun y=>K' y m') hk⟩
  | _=>exact h.elim
 ·simp only [W5] at h ⊢
  split at h
  ·rename_i v cs hg
   obtain⟨v',h1,h2⟩:=z0u h.2
   exact⟨v',h1,fun m' ha K' hk=>by rw [ha.blk hi hg];exact⟨h.1,h2 (fun y=>K' y m') hk⟩⟩
  ·exact h.elim
 ·simp only [W5] at h ⊢
  split at h
  ·rename_i v sz es cap pub hg
   obtain⟨v',h1,h2⟩:=z0u h.2.2
   refine⟨v',h1,fun m' ha K' hk=>?_⟩
   obtain⟨pub',hg'⟩:=ha.arr hi hg
   rw [hg'];exact⟨h.1,h.2.1,h2 (fun y=>K' y m') hk⟩
  ·exact h.elim
theorem z2b {k:TK} {m:Mem} {x i:AV} {K:AV→Prop} (hx:(∀ id ver n,x≠.t id ver n)∨∃ id ver n,x=.t id ver n∧id ∉ wr) (h:J7 k m x i fun v _=>K v) :
  ∃ v,K v∧∀ m',Agree wr m m'→∀ K':KK,K' v m'→J7 k m' x i K':=by
 unfold J7 at h
 split at h
 ·split at h
  ·exact⟨_,h.2.2.2,fun m' _ K' hk=>⟨h.1,h.2.1,h.2.2.1,hk⟩⟩
  ·exact⟨_,h.2.2.2,fun m' _ K' hk=>⟨h.1,h.2.1,h.2.2.1,hk⟩⟩
  ·exact⟨_,h.2.2.2,fun m' _ K' hk=>⟨h.1,h.2.1,h.2.2.1,hk⟩⟩
  ·rename_i id ver n
   have hi:id ∉ wr:=by
    rcases hx with hx | ⟨id',ver',n',e,hi⟩
    ·exact absurd rfl (hx _ _ _)
    ·injection e with e1;subst e1;exact hi
   split at h
   ·rename_i hg
    refine⟨_,h.2.2.2.2.2,fun m' ha K' hk=>?_⟩
    obtain⟨pub',hg'⟩:=ha.arr hi hg
    simp only [J7,hg']
    exact⟨h.1,h.2.1,h.2.2.1,h.2.2.2.1,h.2.2.2.2.1,hk⟩
   ·exact h.elim
  ·exact⟨_,h.2.2,fun m' _ K' hk=>⟨h.1,h.2.1,hk⟩⟩
  ·exact h.elim
 ·exact h.elim
theorem w5x {k:TK} {m:Mem} {x i:AV} {K:AV→Prop} (h:Z8 k m x i fun v _=>K v):∃ v,K v∧∀ (m':Mem) (K':KK),K' v m'→Z8 k m' x i K':=by
 unfold Z8 at h
 split at h
 ·split at h
  ·exact⟨_,h.2.2,fun m' K' hk=>⟨h.1,h.2.1,hk⟩⟩
  ·obtain⟨v,h1,h2⟩:=z0u h.2.2
   exact⟨v,h1,fun m' K' hk=>⟨h.1,h.2.1,h2 (fun y=>K' y m') hk⟩⟩
  ·exact h.elim
 ·exact h.elim
theorem w6s {esz:Nat} {m:Mem} {x:AV} {F:List (List CV)→Prop} (hx:(∃ y,x=.c y)∨∃ id ver n,x=.t id ver n∧id ∉ wr) (h:z0k esz m x F):∃ es,F es∧∀ m',Agree wr m m'→∀ F',F' es→z0k esz m' x F':=by
 rcases hx with ⟨y,rfl⟩ | ⟨id,ver,n,rfl,hi⟩
 ·cases y with
  | sl sz es sp=>exact⟨_,h.2,fun m' _ F' hf=>⟨h.1,hf⟩⟩
  | _=>exact h.elim
 ·simp only [z0k] at h ⊢
  split at h
  ·rename_i hg
   refine⟨_,h.2.2.2,fun m' ha F' hf=>?_⟩
   obtain⟨pub',hg'⟩:=ha.arr hi hg
   rw [hg'];exact⟨h.1,h.2.1,h.2.2.1,hf⟩
  ·exact h.elim
theorem w6k {src:TK} {k:IntKind} {site:Nat} {m:Mem} {x:AV} {K:AV→Prop} (h:W6 src (.int k) site m x fun v _=>K v):∃ v,K v∧∀ (m':Mem) (site':Nat) (K':KK),K' v m'→W6 src (.int k) site' m' x K':=by
 cases src with
 | int k0 =>
  cases x with
  | c y=>cases y with
   | v u=>cases u with
    | int k1 n=>exact⟨_,h,fun m' site' K' hk=>hk⟩
    | _=>exact h.elim
   | _=>exact h.elim
  | _=>exact h.elim
 | sl a b c d =>
  exfalso
  unfold W6 at h
  split at h<;>simp_all
 | _=>exact h.elim
theorem z8r {src:TK} {site:Nat} {m:Mem} {x:AV} {K:AV→Prop} (hx:(∃ y,x=.c y)∨∃ id ver n,x=.t id ver n∧id ∉ wr) (h:W6 src .str site m x fun v _=>K v) :
  ∃ v,K v∧∀ m',Agree wr m m'→∀ (site':Nat) (K':KK),K' v m'→W6 src .str site' m' x K':=by
 cases src with
 | str =>
  cases x with
  | c y=>cases y with
   | v u=>cases u with
    | string st=>exact⟨_,h,fun m' _ site' K' hk=>hk⟩
    | _=>exact h.elim
   | _=>exact h.elim
  | _=>exact h.elim
 | sl a b c d =>
  by_cases hs:a=1∧b=false∧c=1∧d=true
  ·obtain⟨rfl,rfl,rfl,rfl⟩:=hs
   have h':z0k 1 m x fun es=>match bytesOf es with | some b=>K (.c (.v (.string ⟨b.toArray⟩))) | none=>False:=h
   obtain⟨es,h1,h2⟩:=w6s (wr:=wr) hx h'
   split at h1
   ·rename_i b hb
    exact⟨_,h1,fun m' ha site' K' hk=>h2 m' ha (fun es=>match bytesOf es with | some b=>K' (.c (.v (.string ⟨b.toArray⟩))) m' | none=>False) (by simp only [hb];exact hk)⟩
   ·exact h1.elim
  ·exfalso
   unfold W6 at h
   split at h<;>simp_all
 | _=>exact h.elim
theorem w2x {k:TK} {m:Mem} {y:CV} {lo hi mx:Option AV} {K:AV→Prop} (h:Q9 k m (.c y) lo hi mx fun v _=>K v):∃ v,K v∧∀ (m':Mem) (K':KK),K' v m'→Q9 k m' (.c y) lo hi mx K':=by
 unfold Q9 at h
 split at h
 ·rename_i s he
  injection he with he;subst he
  obtain⟨hm,h⟩:=h
  obtain⟨l,h,r1⟩:=z4c h
  obtain⟨hh,h,r2⟩:=z4c h
  exact⟨_,h.2.2.2,fun m' K' hk=>⟨hm,r1 _ (r2 _ ⟨h.1,h.2.1,h.2.2.1,hk⟩)⟩⟩
 ·rename_i esz ea eb u8 sz es sp he
  injection he with he;subst he
  obtain⟨hsz,h⟩:=h
  obtain⟨l,h,r1⟩:=z4c h
  obtain⟨hh,h,r2⟩:=z4c h
  cases mx with
  | none =>
   obtain⟨h1,h2,h⟩:=h
   cases sp with
   | none=>exact⟨_,h.2,fun m' K' hk=>⟨hsz,r1 _ (r2 _ ⟨h1,h2,h.1,hk⟩)⟩⟩
   | some sp=>exact⟨_,h.2,fun m' K' hk=>⟨hsz,r1 _ (r2 _ ⟨h1,h2,h.1,hk⟩)⟩⟩
  | some mx =>
   obtain⟨h1,h⟩:=h
   obtain⟨c,h,r3⟩:=z4c h
   exact⟨_,h.2.2.2.2,fun m' K' hk=>⟨hsz,r1 _ (r2 _ ⟨h1,r3 _ ⟨h.1,h.2.1,h.2.2.1,h.2.2.2.1,hk⟩⟩)⟩⟩
 ·rename_i he;simp at he
 ·exact h.elim
theorem w2w {k:TK} {m:Mem} {id ver n:Nat} (hi0:id ∉ wr) {hi mx:Option AV} {K:AV→Prop} (h:Q9 k m (.t id ver n) none hi mx fun v _=>K v) :
  ∃ v,K v∧∀ m',Agree wr m m'→∀ K':KK,K' v m'→Q9 k m' (.t id ver n) none hi mx K':=by
 cases k with
 | sl esz ea eb u8 =>
  simp only [Q9] at h ⊢
  split at h
  ·rename_i hg
   obtain⟨h1,h2,h3,h4,h⟩:=h
   obtain⟨hh,h,r2⟩:=z4c h
   refine⟨_,h.2.2,fun m' ha K' hk=>?_⟩
   obtain⟨pub',hg'⟩:=ha.arr hi0 hg
   rw [hg'];exact⟨h1,h2,h3,h4,r2 _ ⟨h.1,h.2.1,hk⟩⟩
  ·exact h.elim
 | _=>simp [Q9] at h
theorem z1f {T:Tab} {m:Mem} {b:Builtin} (hb:b=.len∨b=.min∨b=.max) {tys:List TypeId} {xs:List AV} {K:AV→Prop} {site:Nat} (h:J8 T site m b tys xs fun v _=>K v) :
  ∃ v,K v∧∀ (m':Mem) (site':Nat) (K':KK),K' v m'→J8 T site' m' b tys xs K':=by
 have mm:∀ mx,R4 mx m xs (fun v _=>K v)→∃ v,K v∧∀ (m':Mem) (K':KK),K' v m'→R4 mx m' xs K':=fun mx h=>by
  unfold R4 at h
  split at h
  ·exact⟨_,h.2,fun m' K' hk=>⟨h.1,hk⟩⟩
  ·exact h.elim
 rcases hb with rfl | rfl | rfl
 ·rcases xs with _ | ⟨x,_ | ⟨y,r⟩⟩
  ·exact h.elim
  ·rcases tys with _ | ⟨t,_ | ⟨t2,q⟩⟩
   ·exact h.elim
   ·simp only [J8] at h ⊢
    unfold z7d at h
    split at h
    ·rename_i hk2;exact⟨_,h,fun m' site' K' hk=>by simp only [z7d,hk2];exact hk⟩
    ·rename_i hk2;exact⟨_,h,fun m' site' K' hk=>by simp only [z7d,hk2];exact hk⟩
    ·rename_i hk2;exact⟨_,h,fun m' site' K' hk=>by simp only [z7d,hk2];exact hk⟩
    ·rename_i hk2;exact⟨_,h,fun m' site' K' hk=>by simp only [z7d,hk2];exact hk⟩
    ·rename_i hk2;exact⟨_,h,fun m' site' K' hk=>by simp only [z7d,hk2];exact hk⟩
    ·exact h.elim
   ·exact h.elim
  ·exact h.elim
 ·have h':R4 false m xs (fun v _=>K v):=by
   unfold J8 at h;exact h
  obtain⟨v,h1,h2⟩:=mm false h'
  exact⟨v,h1,fun m' site' K' hk=>by unfold J8;exact h2 m' K' hk⟩
 ·have h':R4 true m xs (fun v _=>K v):=by
   unfold J8 at h;exact h
  obtain⟨v,h1,h2⟩:=mm true h'
  exact⟨v,h1,fun m' site' K' hk=>by unfold J8;exact h2 m' K' hk⟩
theorem w1r {tm:List AV} {o:Oper} {m:Mem} {K:AV→Prop} (hk:Z9 T G wr tm o m K):∃ v,K v∧k1l T G D wr tm o m v:=by
 unfold Z9 at hk
 unfold k1l opW
 dsimp only at hk ⊢
 split at hk<;>rename_i ho
 case h_1 x=>exact⟨_,hk,fun m' _ K' h=>by rw [ho];exact h⟩
 case h_2 x=>exact⟨_,hk,fun m' _ K' h=>by rw [ho];exact h⟩
 case h_3 c a b =>
  unfold Y5 at hk
  split at hk
  ·rename_i bb hb
   cases bb with
   | true=>exact⟨_,hk.1 rfl,fun m' _ K' h=>by rw [ho];unfold Y5;simp only [hb];exact⟨fun _=>h,fun q=>by simp at q⟩⟩
   | false=>exact⟨_,hk.2 rfl,fun m' _ K' h=>by rw [ho];unfold Y5;simp only [hb];exact⟨fun q=>by simp at q,fun _=>h⟩⟩
  ·exact hk.elim
 case h_4 x =>
  unfold L5 at hk
  split at hk
  ·rename_i he;exact⟨_,hk,fun m' _ K' h=>by rw [ho];unfold L5;simp only [he];exact h⟩
  ·rename_i he;exact⟨_,hk,fun m' _ K' h=>by rw [ho];unfold L5;simp only [he];exact h⟩
  ·rename_i he;exact⟨_,hk,fun m' _ K' h=>by rw [ho];unfold L5;simp only [he];exact h⟩
  ·rename_i he;exact⟨_,hk.2,fun m' _ K' h=>by rw [ho];unfold L5;simp only [he];exact⟨hk.1,h⟩⟩
  ·exact hk.elim
 case h_5 s x f =>
  split at hk
  ·rename_i fs hfs
   split at hk
   ·rename_i off n ea hf
    unfold L0 at hk
    split at hk
    ·rename_i he;exact⟨_,hk,fun m' _ K' h=>by rw [ho];simp only [hfs,hf];unfold L0;simp only [he];exact h⟩
    ·rename_i he;exact⟨_,hk,fun m' _ K' h=>by rw [ho];simp only [hfs,hf];unfold L0;simp only [he];exact h⟩
    ·rename_i he;exact⟨_,hk,fun m' _ K' h=>by rw [ho];simp only [hfs,hf];unfold L0;simp only [he];exact h⟩
    ·exact hk.elim
   ·exact hk.elim
   ·exact hk.elim
  ·exact hk.elim
 case h_6 t x f =>
  split at hk
  ·rename_i fs hfs
   split at hk
   ·rename_i fd hf
    unfold z1b at hk
    split at hk
    ·rename_i cs he
     obtain⟨v,h1,h2⟩:=z0u hk
     exact⟨v,h1,fun m' _ K' h=>by rw [ho];simp only [hfs,hf];unfold z1b;simp only [he];exact h2 (fun y=>K' y m') h⟩
    ·exact hk.elim
   ·exact hk.elim
  ·exact hk.elim
 case h_7 x i =>
  unfold T1 at hk
  split at hk
  ·rename_i cs he
   split at hk
   ·rename_i y hy;exact⟨y,hk,fun m' _ K' h=>by rw [ho];unfold T1;simp only [he,hy];exact h⟩
   ·exact hk.elim
  ·exact hk.elim
 case h_8 op t x y _ =>
  split at hk
  ·rename_i p hp
   unfold eqW at hk
   split at hk
   ·rename_i q1 q2
    split at hk
    ·rename_i q3;exact⟨_,hk,fun m' _ K' h=>by rw [ho];unfold eqW;simp only [hp,q1,q2,q3];exact h⟩
    ·rename_i q3;exact⟨_,hk,fun m' _ K' h=>by rw [ho];unfold eqW;simp only [hp,q1,q2,q3];exact h⟩
    ·exact hk.elim
   ·exact hk.elim
  ·rename_i hp
   obtain⟨v,h1,h2⟩:=k0l hk
   exact⟨v,h1,fun m' _ K' h=>by rw [ho];simp only [hp];exact h2 m' K' h⟩
 case h_9 op _ x =>
  unfold unW at hk
  split at hk
  ·rename_i he;exact⟨_,hk,fun m' _ K' h=>by rw [ho];unfold unW;simp only [he];exact h⟩
  ·rename_i he;exact⟨_,hk,fun m' _ K' h=>by rw [ho];unfold unW;simp only [he];exact h⟩
  ·rename_i he;exact⟨_,hk,fun m' _ K' h=>by rw [ho];unfold unW;simp only [he];exact h⟩
  ·exact hk.elim
 case h_10 t x =>
  split at hk
  ·exact hk.elim
  ·rename_i n hn
   split at hk
   ·rename_i id ver q he
    obtain⟨v,h1,h2⟩:=z6d (wr:=wr) (.inr (.inl ⟨_,_,_,rfl,hk.1⟩)) hk.2
    exact⟨v,h1,fun m' ha K' h=>by have ha:=ha (by simp [Y1,ho]);rw [ho];simp only [hn,he];exact h2 m' ha K' h⟩
   ·rename_i id ver i q he
    obtain⟨v,h1,h2⟩:=z6d (wr:=wr) (.inr (.inr ⟨_,_,_,_,rfl,hk.1⟩)) hk.2
    exact⟨v,h1,fun m' ha K' h=>by have ha:=ha (by simp [Y1,ho]);rw [ho];simp only [hn,he];exact h2 m' ha K' h⟩
   ·rename_i y he
    obtain⟨v,h1,h2⟩:=z6d (wr:=wr) (.inl ⟨_,rfl⟩) hk
    exact⟨v,h1,fun m' ha K' h=>by have ha:=ha (by simp [Y1,ho]);rw [ho];simp only [hn,he];exact h2 m' ha K' h⟩
   ·exact hk.elim
 case h_11 t x i =>
  split at hk
  ·rename_i id ver n he
   obtain⟨v,h1,h2⟩:=z2b (wr:=wr) (.inr ⟨_,_,_,rfl,hk.1⟩) hk.2
   exact⟨v,h1,fun m' ha K' h=>by have ha:=ha (by simp [Y1,ho]);rw [ho];simp only [he];exact h2 m' ha K' h⟩
  ·rename_i hne
   obtain⟨v,h1,h2⟩:=z2b (wr:=wr) (.inl (fun id ver n e=>hne id ver n e)) hk
   exact⟨v,h1,fun m' ha K' h=>by have ha:=ha (by simp [Y1,ho]);rw [ho];exact h2 m' ha K' h⟩
 case h_12 t x i =>
  obtain⟨v,h1,h2⟩:=w5x hk
  exact⟨v,h1,fun m' _ K' h=>by rw [ho];exact h2 m' K' h⟩
 case h_13 s d x =>
  split at hk
  ·rename_i k y hd he
   obtain⟨v,h1,h2⟩:=w6k hk
   exact⟨v,h1,fun m' _ K' h=>by rw [ho];simp only [hd,he];exact h2 m' _ K' h⟩
  ·rename_i y hd he
   obtain⟨v,h1,h2⟩:=z8r (wr:=wr) (.inl ⟨_,rfl⟩) hk
   exact⟨v,h1,fun m' ha K' h=>by have ha:=ha (by simp [Y1,ho]);rw [ho];simp only [hd,he];exact h2 m' ha _ K' h⟩
  ·rename_i id ver n hd he
   obtain⟨v,h1,h2⟩:=z8r (wr:=wr) (.inr ⟨_,_,_,rfl,hk.1⟩) hk.2
   exact⟨v,h1,fun m' ha K' h=>by have ha:=ha (by simp [Y1,ho]);rw [ho];simp only [hd,he];exact h2 m' ha _ K' h⟩
  ·exact hk.elim
 case h_14 t x lo hi mx =>
  split at hk
  ·rename_i y he
   obtain⟨v,h1,h2⟩:=w2x hk
   exact⟨v,h1,fun m' _ K' h=>by rw [ho];simp only [he];exact h2 m' K' h⟩
  ·rename_i id ver n he
   obtain⟨rfl,hi0,hk⟩:=hk
   obtain⟨v,h1,h2⟩:=w2w hi0 hk
   exact⟨v,h1,fun m' ha K' h=>by have ha:=ha (by simp [Y1,ho]);rw [ho];simp only [he,Option.map_none];exact h2 m' ha K' h⟩
  ·exact hk.elim
 case h_15 c =>
  split at hk
  ·rename_i hb
   obtain⟨v,h1,h2⟩:=z1f (.inl rfl) hk
   exact⟨v,h1,fun m' _ K' h=>by rw [ho];simp only [hb];exact h2 m' _ K' h⟩
  ·rename_i hb
   obtain⟨v,h1,h2⟩:=z1f (.inr (.inl rfl)) hk
   exact⟨v,h1,fun m' _ K' h=>by rw [ho];simp only [hb];exact h2 m' _ K' h⟩
  ·rename_i hb
   obtain⟨v,h1,h2⟩:=z1f (.inr (.inr rfl)) hk
   exact⟨v,h1,fun m' _ K' h=>by rw [ho];simp only [hb];exact h2 m' _ K' h⟩
  ·exact hk.elim
 case h_16 t ps =>
  split at hk
  ·rename_i fs hfs
   unfold N9 at hk
   split at hk
   ·rename_i cs hc;exact⟨_,hk,fun m' _ K' h=>by rw [ho];simp only [hfs];unfold N9;simp only [hc];exact h⟩
   ·exact hk.elim
  ·rename_i n esz ea hfs
   unfold N9 at hk
   split at hk
   ·rename_i cs hc;exact⟨_,hk,fun m' _ K' h=>by rw [ho];simp only [hfs];unfold N9;simp only [hc];exact h⟩
   ·exact hk.elim
  ·exact hk.elim
 case h_17=>exact hk.elim
theorem T0 {all:List Oper} {tm:List AV} {g:Option (Nat × Bool)} {A A' B B':Prop} (hA:A→A') (hB:B→B') (h:K9 all tm g A B):K9 all tm g A' B':=by
 unfold K9 at h ⊢
 split at h
 ·exact hA h
 ·rename_i j want
  split at h
  ·rename_i d hd
   generalize tm.getD d .dead=q at h ⊢
   cases hq:Z7 q with
   | true=>rw [hq] at h;exact hB h
   | false =>
    rw [hq] at h
    dsimp only at h ⊢
    unfold Y5 at h ⊢
    split at h
    ·cases want
     ·exact⟨fun e=>hB (h.1 e),fun e=>hA (h.2 e)⟩
     ·exact⟨fun e=>hA (h.1 e),fun e=>hB (h.2 e)⟩
    ·exact h.elim
  ·exact h.elim
def X7 (T:Tab) (G:L2) (D:Spec) (wr:List Nat) (all:List Oper) (o:Oper) (tm:List AV) (m:Mem) (F:List AV→Mem→Prop):Prop :=
 K9 all tm o.guard (∃ R:KK,opW T G D tm o m R∧∀ v m',R v m'→(T8 all o=true∨Agree wr m m')∧F (H8 tm o.dst v) m') (F (H8 tm o.dst R0) m)
def w2j (T:Tab) (G:L2) (D:Spec) (wr:List Nat) (ops:Array Oper) (K:List AV→Mem→Prop):Nat→Array Bool→List AV→Mem→Prop
 | 0,listed,tm,m=>Region.ready .any ops listed=[]∧K tm m
 | n + 1,listed,tm,m=>(Region.ready .any ops listed=[]→K tm m)∧∀ i ∈ Region.ready .any ops listed,∀ o,ops[i]?=some o→X7 T G D wr ops.toList o tm m (w2j T G D wr ops K n (listed.setIfInBounds i true))
theorem w2u {all:List Oper} {o:Oper} {tm:List AV} {m:Mem} {F F':List AV→Mem→Prop} (hF:∀ tm m,F tm m→F' tm m) (h:X7 T G D wr all o tm m F):X7 T G D wr all o tm m F' :=
 T0 (fun ⟨R,h1,h2⟩=>⟨R,h1,fun v m' hr=>⟨(h2 v m' hr).1,hF _ _ (h2 v m' hr).2⟩⟩) (hF _ _) h
theorem z7o {d e:Option Tmp} (h:∀ x,d=some x→e≠some x) (tm:List AV) (v u:AV):H8 (H8 tm d v) e u=H8 (H8 tm e u) d v:=by
 cases d with
 | none=>rfl
 | some x=>cases e with
  | none=>rfl
  | some y=>exact List.set_comm _ _ (fun q=>h x rfl (by rw [q]))
theorem z8j {d:Option Tmp} {t:Nat} (h:∀ x,d=some x→x≠t) (tm:List AV) (v:AV):(H8 tm d v).getD t .dead=tm.getD t .dead:=by
 cases d with
 | none=>rfl
 | some x=>simp only [H8,List.getD,List.getElem?_set_ne (h x rfl)]
theorem z8n {ops:Array Oper} {tm tm':List AV} {o:Oper} (h:∀ t ∈ o.looksAt ops,tm'.getD t .dead=tm.getD t .dead):w3y T G tm tm' o:=fun x hx ty=>by
 cases x with
 | tmp t=>exact h t (by unfold Oper.looksAt;refine List.mem_append_left _ (List.mem_filterMap.2 ⟨.tmp t,by simpa using hx,rfl⟩))
 | _=>rfl
theorem w3n {ops:Array Oper} {tm tm':List AV} {o:Oper} (h:∀ t ∈ o.looksAt ops,tm'.getD t .dead=tm.getD t .dead) (A B:Prop):K9 ops.toList tm' o.guard A B=K9 ops.toList tm o.guard A B:=by
 unfold K9
 split
 ·rfl
 ·rename_i j want hg
  split
  ·rename_i d hd
   rw [h d (by
    unfold Oper.looksAt
    refine List.mem_append_right _ ?_
    rw [hg]
    have:(ops[j]?).bind (·.dst)=some d:=by rw [← Array.getElem?_toList];exact hd
    simp [this])]
  ·rfl
def QS (T:Tab) (G:L2) (D:Spec) (wr:List Nat) (ops:Array Oper) (o:Oper) (v:AV) (tm:List AV) (m:Mem):Prop :=
 ∀ tm' m',(∀ t ∈ o.looksAt ops,tm'.getD t .dead=tm.getD t .dead)→(Y1 o=true→Agree wr m m')→∀ F:List AV→Mem→Prop,F (H8 tm' o.dst v) m'→X7 T G D wr ops.toList o tm' m' F
theorem k0u {ops:Array Oper} {o:Oper} {tm:List AV} {m:Mem} {F:AV→Prop} (h:K9 ops.toList tm o.guard (Z9 T G wr tm o m F) (F R0)):∃ v,F v∧QS T G D wr ops o v tm m:=by
 have run:Z9 T G wr tm o m F→∃ v,F v∧∀ tm' m',(∀ t ∈ o.looksAt ops,tm'.getD t .dead=tm.getD t .dead)→(Y1 o=true→Agree wr m m')→∀ F':List AV→Mem→Prop,F' (H8 tm' o.dst v) m' →
   ∃ R:KK,opW T G D tm' o m' R∧∀ v m'',R v m''→(T8 ops.toList o=true∨Agree wr m' m'')∧F' (H8 tm' o.dst v) m'':=fun hk=>by
  obtain⟨v,h1,h2⟩:=w1r (D:=D) hk
  refine⟨v,h1,fun tm' m' ht ha F' hf=>⟨fun v' m''=>v'=v∧m''=m',?_,?_⟩⟩
  ·rw [z8b o (z8n ht)];exact h2 m' ha _ ⟨rfl,rfl⟩
  ·rintro v' m'' ⟨rfl,rfl⟩;exact⟨.inr (Agree.refl _ _),hf⟩
 unfold K9 at h
 split at h
 ·rename_i hg
  obtain⟨v,h1,h2⟩:=run h
  exact⟨v,h1,fun tm' m' ht ha F' hf=>by unfold X7 K9;rw [hg];exact h2 tm' m' ht ha F' hf⟩
 ·rename_i j want hg
  split at h
  ·rename_i d hd
   have hl:d ∈ o.looksAt ops:=by
    unfold Oper.looksAt
    refine List.mem_append_right _ ?_
    rw [hg]
    have:(ops[j]?).bind (·.dst)=some d:=by rw [← Array.getElem?_toList];exact hd
    simp [this]
   cases hsk:Z7 (tm.getD d .dead) with
   | true =>
    rw [hsk] at h
    exact⟨R0,h,fun tm' m' ht ha F' hf=>by unfold X7 K9;rw [hg];simp only [hd,ht d hl,hsk];exact hf⟩
   | false =>
   rw [hsk] at h
   dsimp only at h
   unfold Y5 at h
   split at h
   ·rename_i b hb
    have hit:∀ {v:AV} {tm':List AV} {m':Mem} {F':List AV→Mem→Prop},(∀ t ∈ o.looksAt ops,tm'.getD t .dead=tm.getD t .dead)→(b=want→∃ R:KK,opW T G D tm' o m' R∧∀ v m'',R v m''→(T8 ops.toList o=true∨Agree wr m' m'')∧F' (H8 tm' o.dst v) m'') →
      (b≠want→F' (H8 tm' o.dst R0) m')→X7 T G D wr ops.toList o tm' m' F':=fun {v tm' m' F'} ht h1 h2=>by
     unfold X7 K9 Y5
     rw [hg]
     simp only [hd,ht d hl,hb,Z7]
     cases b<;>cases want<;>simp_all
    by_cases hbw:b=want
    ·have hh:Z9 T G wr tm o m F:=by
      subst hbw
      cases b
      ·exact h.2 rfl
      ·exact h.1 rfl
     obtain⟨v,h1,h2⟩:=run hh
     exact⟨v,h1,fun tm' m' ht ha F' hf=>hit (v:=v) ht (fun _=>h2 tm' m' ht ha F' hf) (fun q=>absurd hbw q)⟩
    ·have hh:F R0:=by
      cases b<;>cases want<;>first | exact absurd rfl hbw | exact h.1 rfl | exact h.2 rfl
     exact⟨R0,hh,fun tm' m' ht ha F' hf=>hit (v:=R0) ht (fun q=>absurd q hbw) (fun _=>hf)⟩
   ·exact h.elim
  ·exact h.elim
theorem w5b {ops:Array Oper} {oi oj:Oper} (hap:oi.apart ops oj=true) {v:AV} {tm:List AV} {m:Mem} {F:List AV→Mem→Prop} (h:X7 T G D wr ops.toList oj (H8 tm oi.dst v) m F) :
  X7 T G D wr ops.toList oj tm m fun tm' m'=>(T8 ops.toList oj=true∨Agree wr m m')∧(∀ t ∈ oi.looksAt ops,tm'.getD t .dead=tm.getD t .dead)∧F (H8 tm' oi.dst v) m':=by
 obtain⟨h1,h2,h3⟩:=Oper.apart_spec hap
 have hlook:∀ t ∈ oj.looksAt ops,(H8 tm oi.dst v).getD t .dead=tm.getD t .dead:=fun t ht=>z8j (fun x hx q=>h1 x hx (by rw [q];exact ht)) tm v
 have hlook2:∀ (u:AV),∀ t ∈ oi.looksAt ops,(H8 tm oj.dst u).getD t .dead=tm.getD t .dead:=fun u t ht=>z8j (fun x hx q=>h3 x hx (by rw [q];exact ht)) tm u
 unfold X7 at h ⊢
 rw [w3n hlook] at h
 refine T0 ?_ ?_ h
 ·rintro ⟨R,g1,g2⟩
  rw [z8b oj (z8n hlook)] at g1
  refine⟨R,g1,fun u m' hr=>?_⟩
  obtain⟨g3,g4⟩:=g2 u m' hr
  exact⟨g3,g3,hlook2 u,by rw [z7o (fun x hx q=>h2 x hx q)] at g4;exact g4⟩
 ·intro g
  exact⟨.inr (Agree.refl _ _),hlook2 _,by rw [z7o (fun x hx q=>h2 x hx q)] at g;exact g⟩
def ClosedL (ops:Array Oper) (listed:Array Bool):Prop:=∀ (k:Nat) ok,ops[k]?=some ok→listed.getD k false=true→∀ e ∈ ok.after,Region.binds .any e=true→listed.getD e.on false=true
theorem z6u {ops:Array Oper} {listed:Array Bool} (hc:ClosedL ops listed) {k:Nat}:∀ (n:Nat) (o:Oper),(∀ e ∈ o.after,Region.binds .any e=true→listed.getD e.on false=true)→w8w ops.toList n o k=true→listed.getD k false=true
 | 0,_,_,h=>by simp [w8w] at h
 | n + 1,o,hr,h=>by
  simp only [w8w,Array.any_eq_true'] at h
  obtain⟨e,he,hb⟩:=h
  simp only [Bool.and_eq_true,Bool.or_eq_true,beq_iff_eq] at hb
  obtain⟨hb,hb2⟩:=hb
  have hl:=hr e he hb
  rcases hb2 with rfl | hb2
  ·exact hl
  ·split at hb2
   ·rename_i p hp
    exact z6u hc n p (hc e.on p (by rw [← Array.getElem?_toList];exact hp) hl) hb2
   ·cases hb2
theorem z4l {listed:Array Bool} {j k:Nat} (h:listed.getD k false=true):(listed.setIfInBounds j true).getD k false=true:=by
 by_cases hjk:j=k
 ·subst hjk
  rw [Array.getD_eq_getD_getElem?] at h ⊢
  rcases Nat.lt_or_ge j listed.size with h' | h'
  ·simp [h']
  ·simp [Array.getElem?_eq_none h'] at h
 ·rw [getD_set_ne false hjk];exact h
theorem ClosedL.put {ops:Array Oper} {listed:Array Bool} (hc:ClosedL ops listed) {j:Nat} (hj:j ∈ Region.ready .any ops listed):ClosedL ops (listed.setIfInBounds j true):=by
 intro k ok hk hl e he hb
 by_cases hjk:j=k
 ·subst hjk
  obtain⟨_,oj,hoj,hall⟩:=mem_ready.1 hj
  rw [hoj] at hk;injection hk with hk;subst hk
  exact z4l (hall e he hb)
 ·rw [getD_set_ne false hjk] at hl
  exact z4l (hc k ok hk hl e he hb)
theorem ClosedL.none (ops:Array Oper) (n:Nat):ClosedL ops (Array.replicate n false):=by
 intro k ok hk hl
 rw [Array.getD_eq_getD_getElem?,Array.getElem?_replicate] at hl
 split at hl<;>simp at hl
theorem w5w {ops:Array Oper} {listed:Array Bool} (hc:ClosedL ops listed) {i:Nat} {oi oj:Oper} (hi:ops[i]?=some oi) (hun:listed.getD i true=false) (hr:∀ e ∈ oj.after,Region.binds .any e=true→listed.getD e.on false=true) (hm:Y1 oi=true) (hl:T8 ops.toList oj=true):False:=by
 unfold T8 at hl
 rw [List.all_eq_true] at hl
 have hlt:i < ops.size:=(Array.getElem?_eq_some_iff.1 hi).1
 have:=hl i (List.mem_range.2 (by simpa using hlt))
 have hi':ops.toList[i]?=some oi:=by rw [Array.getElem?_toList];exact hi
 rw [hi'] at this
 simp only [hm,Bool.not_true,Bool.false_or] at this
 have h1:=z6u hc _ _ hr this
 rw [Array.getD_eq_getD_getElem?] at h1 hun
 cases hg:listed[i]? with
 | none=>rw [hg] at hun;simp at hun
 | some b=>rw [hg] at h1 hun;simp at h1 hun;rw [h1] at hun;cases hun
theorem z6x {ops:Array Oper} {K:List AV→Mem→Prop} {i:Nat} {oi:Oper} {v:AV} (hi:ops[i]?=some oi):∀ (n:Nat) (listed:Array Bool) (tm:List AV) (m:Mem),
  (∀ j oj,ops[j]?=some oj→j≠i→listed.getD j true=false→(∀ e ∈ oj.after,Region.binds .any e=true→e.on≠i)→oi.apart ops oj=true) →
  ClosedL ops listed→i ∈ Region.ready .any ops listed→QS T G D wr ops oi v tm m→w2j T G D wr ops K n (listed.setIfInBounds i true) (H8 tm oi.dst v) m→w2j T G D wr ops K (n + 1) listed tm m:=by
 intro n
 induction n with
 | zero =>
  intro listed tm m _ hcl hr hq H
  refine⟨fun h=>(by rw [h] at hr;cases hr),fun j hj o ho=>?_⟩
  by_cases hji:j=i
  ·subst hji;rw [hi] at ho;injection ho with ho;subst ho;exact hq tm m (fun _ _=>rfl) (fun _=>Agree.refl _ _) _ H
  ·have:=ready_mono hj hji
   rw [H.1] at this
   cases this
 | succ n ih =>
  intro listed tm m hfree hcl hr hq H
  refine⟨fun h=>(by rw [h] at hr;cases hr),fun j hj oj hoj=>?_⟩
  by_cases hji:j=i
  ·subst hji;rw [hi] at hoj;injection hoj with hoj;subst hoj;exact hq tm m (fun _ _=>rfl) (fun _=>Agree.refl _ _) _ H
  ·have h1:=H.2 j (ready_mono hj hji) oj hoj
   obtain⟨hjun,oj',hoj',hall⟩:=mem_ready.1 hj
   rw [hoj] at hoj';injection hoj' with hoj';subst hoj'
   have hnot:∀ e ∈ oj.after,Region.binds .any e=true→e.on≠i:=fun e he hb heq=>by
    have h1:=hall e he hb
    have h0:=(mem_ready.1 hr).1
    rw [heq] at h1
    rcases Nat.lt_or_ge i listed.size with h' | h'
    ·simp [h'] at h0 h1;rw [h0] at h1;cases h1
    ·simp [Array.getElem?_eq_none h'] at h1
   have h2:=w5b (hfree j oj hoj hji hjun hnot) h1
   have hfree':∀ k ok,ops[k]?=some ok→k≠i→(listed.setIfInBounds j true).getD k true=false →
     (∀ e ∈ ok.after,Region.binds .any e=true→e.on≠i)→oi.apart ops ok=true:=fun k ok hk hki hun hno=>by
    refine hfree k ok hk hki ?_ hno
    by_cases hjk:j=k
    ·subst hjk;exact hjun
    ·rw [getD_set_ne true hjk] at hun;exact hun
   refine w2u (fun tm' m' h3=>ih (listed.setIfInBounds j true) tm' m' hfree' (hcl.put hj) (ready_mono hr (Ne.symm hji)) (fun tm'' m'' ht ha F hF=>hq tm'' m'' (fun t h=>(ht t h).trans (h3.2.1 t h)) (fun hmo=>(h3.1.resolve_left (fun hl=>w5w hcl hi (mem_ready.1 hr).1 hall hmo hl)).trans (ha hmo)) F hF) ?_) h2
   rw [Array.setIfInBounds_comm _ _ hji]
   exact h3.2.2
theorem Agree.wider {a b:List Nat} (h:∀ x ∈ b,x ∈ a) {m m':Mem} (g:Agree b m m'):Agree a m m':=⟨g.1,fun id ob hi hg=>g.2 id ob (fun q=>hi (h id q)) hg⟩
theorem z3h {a b:List Nat} (h:∀ x ∈ b,x ∈ a) {ops:Array Oper} {K:List AV→Mem→Prop}:∀ (n:Nat) (listed:Array Bool) (tm:List AV) (m:Mem),w2j T G D b ops K n listed tm m→w2j T G D a ops K n listed tm m
 | 0,_,_,_,H=>H
 | n + 1,listed,tm,m,H=>⟨H.1,fun i hi o ho=>T0 (fun ⟨R,h1,h2⟩=>⟨R,h1,fun v m' hr=>⟨(h2 v m' hr).1.imp (fun q=>q) (Agree.wider h),z3h h n _ _ _ (h2 v m' hr).2⟩⟩) (fun g=>z3h h n _ _ _ g) (H.2 i hi o ho)⟩
theorem w0c (wr:List (List Nat)):∀ x ∈ (dnW wr).headD [],x ∈ wr.headD []:=by
 intro x hx
 match wr,hx with
 | [],hx=>exact hx
 | [a],hx=>exact hx
 | a :: b :: r,hx =>
  simp only [dnW] at hx
  split at hx
  ·rename_i hb
   rw [List.all_eq_true] at hb
   have:=hb x hx
   simpa using this
  ·exact hx
theorem z1n {wr:List (List Nat)} {ops:Array Oper} {K:List AV→Mem→Prop}:∀ (n:Nat) (listed:Array Bool) (ord:List (Nat × Bool)) (tm:List AV) (m:Mem),w3h T ops n listed=some ord→ClosedL ops listed→z0v T G D wr ops.toList ord tm m K→w2j T G D (wr.headD []) ops K n listed tm m
 | 0,listed,ord,tm,m,hp,hcl,hk=>by
  simp only [w3h] at hp
  split at hp
  ·rename_i he;injection hp with hp;subst hp
   exact⟨by simpa using he,hk⟩
  ·simp at hp
 | n + 1,listed,ord,tm,m,hp,hcl,hk=>by
  simp only [w3h] at hp
  split at hp
  ·rename_i i hf
   have hmem:=List.mem_of_find?_eq_some hf
   have hpr:=List.find?_some hf
   simp only [Bool.and_eq_true] at hpr
   obtain⟨ord',hp',rfl⟩:=Option.map_eq_some_iff.1 hp
   have hoi:∃ o,ops[i]?=some o:=by obtain⟨_,o,ho,_⟩:=mem_ready.1 hmem;exact⟨o,ho⟩
   obtain⟨o,ho⟩:=hoi
   have ho':ops.toList[i]?=some o:=by rw [Array.getElem?_toList];exact ho
   simp only [z0v,ho',if_true] at hk
   obtain⟨v,h1,h2⟩:=k0u (D:=D) (F:=fun v=>z0v T G D wr ops.toList ord' (H8 tm o.dst v) m K) hk
   exact z6x ho n listed tm m (Region.free_spec ho hpr.2) hcl hmem h2 (z1n n _ ord' _ m hp' (hcl.put hmem) h1)
  ·split at hp
   ·rename_i hrs;injection hp with hp;subst hp
    exact⟨fun _=>hk,fun i hi=>by rw [hrs] at hi;simp at hi⟩
   ·rename_i i hrs
    obtain⟨ord',hp',rfl⟩:=Option.map_eq_some_iff.1 hp
    refine⟨fun h=>by rw [h] at hrs;simp at hrs,fun j hj o ho=>?_⟩
    rw [hrs] at hj
    have:j=i:=by simpa using hj
    subst this
    have ho':ops.toList[j]?=some o:=by rw [Array.getElem?_toList];exact ho
    simp only [z0v,ho',Bool.false_eq_true,if_false] at hk
    exact T0 (fun h=>⟨_,h,fun v m' hr=>⟨hr.1,z3h (w0c wr) n _ _ m' (z1n n _ ord' _ m' hp' (hcl.put (by rw [hrs];simp)) hr.2)⟩⟩) (fun h=>z3h (w0c wr) n _ _ m (z1n n _ ord' _ m hp' (hcl.put (by rw [hrs];simp)) h)) hk
   ·simp at hp
theorem z9m {wr:List Nat} {ops:Array Oper} {o:Oper} {tm:List AV} {m:Mem} {F F':List AV→Mem→Prop} (h:nhW T G D wr ops.toList o tm m F) (hf:∀ tm m,F tm m→F' tm m):X7 T G D wr ops.toList o tm m F':=by
 unfold nhW at h
 unfold X7
 exact T0 (fun h=>⟨_,h,fun v m' hr=>⟨hr.1,hf _ _ hr.2⟩⟩) (fun h=>hf _ _ h) h
theorem V2 {ops:Array Oper} {K:List AV→Mem→Prop}:∀ (t:PL) (wr:List (List Nat)) (n:Nat) (listed:Array Bool) (tm:List AV) (m:Mem),Q7 T ops listed t=true→t.deep≤n→ClosedL ops listed→R3 T G D ops.toList wr t tm m K→w2j T G D (wr.headD []) ops K n listed tm m
 | .nil,wr,0,listed,tm,m,ht,_,_,hk=>by
  simp only [Q7,List.isEmpty_iff] at ht
  exact⟨ht,hk⟩
 | .nil,wr,n + 1,listed,tm,m,ht,_,_,hk=>by
  simp only [Q7,List.isEmpty_iff] at ht
  exact⟨fun _=>hk,fun i hi=>by rw [ht] at hi;cases hi⟩
 | .op i true lb r,wr,0,listed,tm,m,ht,hd,hcl,hk=>by simp [PL.deep] at hd
 | .op i false lb r,wr,0,listed,tm,m,ht,hd,hcl,hk=>by simp [PL.deep] at hd
 | .alt i j li lj a b,wr,0,listed,tm,m,ht,hd,hcl,hk=>by simp [PL.deep] at hd
 | .op i true lb r,wr,n + 1,listed,tm,m,ht,hd,hcl,hk=>by
  simp only [Q7,Bool.and_eq_true] at ht
  obtain⟨⟨⟨hmem,hho⟩,hfr⟩,ht⟩:=ht
  have hmem:i ∈ Region.ready .any ops listed:=by simpa using hmem
  obtain⟨o,ho⟩:∃ o,ops[i]?=some o:=by obtain⟨_,o,ho,_⟩:=mem_ready.1 hmem;exact⟨o,ho⟩
  have ho':ops.toList[i]?=some o:=by rw [Array.getElem?_toList];exact ho
  simp only [R3,ho'] at hk
  obtain⟨v,h1,h2⟩:=k0u (D:=D) (F:=fun v=>R3 T G D ops.toList wr r (H8 tm o.dst v) m K) hk
  exact z6x ho n listed tm m (Region.free_spec ho hfr) hcl hmem h2 (V2 r wr n _ _ m ht (by simpa [PL.deep] using hd) (hcl.put hmem) h1)
 | .op i false lb r,wr,n + 1,listed,tm,m,ht,hd,hcl,hk=>by
  simp only [Q7,Bool.and_eq_true,beq_iff_eq] at ht
  obtain⟨⟨hrs,_⟩,ht⟩:=ht
  refine⟨fun h=>(by rw [h] at hrs;cases hrs),fun j hj o ho=>?_⟩
  have hj':=hj
  rw [hrs] at hj
  have:j=i:=by simpa using hj
  subst this
  have ho':ops.toList[j]?=some o:=by rw [Array.getElem?_toList];exact ho
  simp only [R3,ho'] at hk
  exact z9m hk fun tm' m' hq=>z3h (w0c wr) n _ _ m' (V2 r (dnW wr) n _ _ m' ht (by simpa [PL.deep] using hd) (hcl.put hj') hq)
 | .alt i j li lj a b,wr,n + 1,listed,tm,m,ht,hd,hcl,hk=>by
  simp only [Q7,Bool.and_eq_true,beq_iff_eq] at ht
  obtain⟨⟨⟨⟨hrs,_⟩,_⟩,ht1⟩,ht2⟩:=ht
  refine⟨fun h=>(by rw [h] at hrs;cases hrs),fun k hk' o ho=>?_⟩
  have hj':=hk'
  rw [hrs] at hk'
  have ho':ops.toList[k]?=some o:=by rw [Array.getElem?_toList];exact ho
  simp only [R3] at hk
  have hda:a.deep≤n∧b.deep≤n:=by simp only [PL.deep] at hd;omega
  rcases List.mem_cons.1 hk' with rfl | hk'
  ·rw [ho'] at hk
   split at hk
   ·rename_i oi oj hoi hoj
    injection hoi with hoi;subst hoi
    exact z9m hk.1 fun tm' m' hq=>V2 a wr n _ _ m' ht1 hda.1 (hcl.put hj') hq
   ·exact hk.elim
  ·have:k=j:=by simpa using hk'
   subst this
   rw [ho'] at hk
   split at hk
   ·rename_i oi oj hoi hoj
    injection hoj with hoj;subst hoj
    exact z9m hk.2 fun tm' m' hq=>V2 b wr n _ _ m' ht2 hda.2 (hcl.put hj') hq
   ·exact hk.elim
end
end Go.Proofs.YtioiigabeoaneaaGreat.V
namespace Go.Proofs.YtioiigabeoaneaaGreat.V
open Go Go.RowKit
section
variable {P:Program} {T:Tab} {X:Ctx} {pins:List (AV × Value)}
def At (X:Ctx) (pins:List (AV × Value)) (tm:List AV) (m:Mem) (a:Act) (w:World):Prop:=∃ S pl,St X S pl w m∧TmR S pl w m tm a∧∀ p ∈ pins,RelV S pl w m p.1 p.2
theorem w0r {ops:Array Oper} {Q:Exit→Act→World→Prop} {i:Nat} {rest:List Nat} {a:Act} {w:World} {o:Oper} (ho:ops[i]?=some o) :
  wpOps P ops Q (i :: rest) a w=if Region.wanted o (yielded ops a.tmps) then o.wp P a w (wpOps P ops Q rest) Q∨(o.asks P a w∧LetsOut Q) else wpOps P ops Q rest (a.put o.dst undef) w:=by
 simp only [wpOps,ho]
theorem Oper.wp_mono' {o:Oper} {a:Act} {w:World} {K K':Act→World→Prop} {Q:Exit→Act→World→Prop} (h:∀ a w,K a w→K' a w) (hk:o.wp P a w K Q):o.wp P a w K' Q:=by
 unfold Oper.wp at hk ⊢
 cases hr:(execOp a.eval o).run P w with
 | halt x w'=>rw [hr] at hk;cases x<;>exact hk
 | ok n w' =>
  rw [hr] at hk
  cases n<;>first
   | exact h _ _ hk
   | exact hk.elim
   | (refine Calls.mono hk ?_;intro e w'' he;cases e<;>first | exact h _ _ he | exact he)
   | (refine Rows.mono hk ?_;intro e w'' he;exact h _ _ he)
   | exact hk
theorem z3a {S:D7} {pl:E2} {w:World} {m:Mem} {tm:List AV} {a:Act} (h:TmR S pl w m tm a) {ops:Array Oper} {o:Oper} {A B:Prop} (hk:K9 ops.toList tm o.guard A B) :
  (Region.wanted o (yielded ops a.tmps)=true∧A)∨(Region.wanted o (yielded ops a.tmps)=false∧B):=by
 unfold K9 at hk
 unfold Region.wanted
 split at hk
 ·rename_i hg;rw [hg];exact .inl ⟨rfl,hk⟩
 ·rename_i j want hg
  rw [hg]
  split at hk
  ·rename_i d hd
   have hy:yielded ops a.tmps j=(match (some d:Option Nat).bind (a.tmps[·]?) with | some (.bool b)=>some b | _=>none):=by
    unfold yielded
    have:(ops[j]?).bind (·.dst)=some d:=by rw [← Array.getElem?_toList];exact hd
    rw [this];rfl
   have hrel:RelV S pl w m (tm.getD d .dead) (a.tmps.getD d undef):=by
    by_cases ht:d < tm.length
    ·have hx:tm[d]?=some tm[d]:=List.getElem?_eq_getElem ht
     have:=h.rel d _ hx
     simpa [List.getD,hx] using this
    ·simp [List.getD,List.getElem?_eq_none (Nat.not_lt.1 ht)];exact .dead _
   cases hsk:Z7 (tm.getD d .dead) with
   | true =>
    rw [hsk] at hk
    refine .inr ⟨?_,hk⟩
    have hu:a.tmps.getD d undef=.tuple #[]:=by
     generalize tm.getD d .dead=q at hsk hrel
     generalize a.tmps.getD d undef=u at hrel ⊢
     cases q with
     | tup cs =>
      cases cs with
      | nil =>
       cases hrel with | tup _ us hl _ =>
       have:us=[]:=by simpa using hl
       rw [this]
      | cons x l=>simp [Z7] at hsk
     | _=>simp [Z7] at hsk
    dsimp only
    rw [hy]
    rw [Array.getD_eq_getD_getElem?] at hu
    cases hq:a.tmps[d]? with
    | none=>simp [hq]
    | some v=>rw [hq] at hu;simp at hu;subst hu;simp [hq]
   | false =>
   rw [hsk] at hk
   dsimp only at hk
   obtain⟨b,hb,h1,h2⟩:=z1e hrel hk
   have hyb:yielded ops a.tmps j=some b:=by
    rw [hy]
    rw [Array.getD_eq_getD_getElem?] at hb
    cases hq:a.tmps[d]? with
    | none=>rw [hq] at hb;simp [undef] at hb
    | some v=>rw [hq] at hb;simp at hb;subst hb;simp [hq]
   simp only [hyb]
   cases b<;>cases want<;>first
    | exact .inl ⟨rfl,h1 rfl⟩
    | exact .inl ⟨rfl,h2 rfl⟩
    | exact .inr ⟨rfl,h1 rfl⟩
    | exact .inr ⟨rfl,h2 rfl⟩
  ·exact hk.elim
theorem R9 {D:Spec} (hT:TabOk P T) (hD:∀ f os Q,D f os Q→Den P X.G f os Q) {ops:Array Oper} {Q:Exit→Act→World→Prop} :
  ∀ (l:List Oper) (i:Nat) (tm:List AV) (m:Mem) (a:Act) (w:World) {K:List AV→Mem→Prop},ops.toList.drop i=l→At X pins tm m a w→z4s T X.G D ops.toList l tm m K→(∀ tm m a w,K tm m→At X pins tm m a w→Q .normal a w) →
   wpOps P ops Q (List.range' i l.length) a w
 | [],i,tm,m,a,w,K,_,ha,hk,hq=>by simp only [List.length_nil,List.range'_zero,wpOps];exact hq tm m a w hk ha
 | o :: l,i,tm,m,a,w,K,hd,⟨S,pl,hs,h,hpin⟩,hk,hq=>by
  have ho:ops[i]?=some o:=by
   rw [← Array.getElem?_toList]
   have:=congrArg (·[0]?) hd
   simpa using this
  have hd':ops.toList.drop (i + 1)=l:=by rw [← List.drop_drop,hd];rfl
  rw [List.length_cons,List.range'_succ,w0r ho]
  simp only [z4s] at hk
  cases hmv:mvT o tm with
  | some s =>
   rw [hmv] at hk
   dsimp only at hk
   unfold mvT at hmv
   split at hmv<;>first | (simp at hmv;done) | skip
   rename_i hgu
   split at hmv<;>first | (simp at hmv;done) | skip
   rename_i s' hop
   split at hmv<;>first | (simp at hmv;done) | skip
   rename_i id ver n hv
   injection hmv with hmv;subst hmv
   have hw:Region.wanted o (yielded ops a.tmps)=true:=by unfold Region.wanted;rw [hgu]
   rw [hw,if_pos rfl]
   rcases hk with hk | hk
   ·refine .inl (Oper.wp_mono' ?_ (z3t hT hD hs h o hk))
    rintro a' w' ⟨v,S',pl',m',hK,hst,hkp,htm⟩
    exact R9 hT hD l (i + 1) _ m' a' w' hd' ⟨S',pl',hst,htm,fun p hp=>(hpin p hp).mono hkp⟩ hK hq
   ·have hrel:RelV S pl w m (tm.getD s' .dead) (a.tmps.getD s' undef):=by
     by_cases ht:s' < tm.length
     ·have hx:tm[s']?=some tm[s']:=List.getElem?_eq_getElem ht
      have:=h.rel s' _ hx
      simpa [List.getD,hx] using this
     ·simp [List.getD,List.getElem?_eq_none (Nat.not_lt.1 ht)];exact .dead _
    obtain⟨S',y,m',hK,hy,hst,hkp,_⟩:=S9 hs hrel hk
    have hself:a.put (some s') (a.tmps.getD s' undef)=a:=by
     unfold Act.put
     have:a.tmps.setIfInBounds s' (a.tmps.getD s' undef)=a.tmps:=by
      apply Array.ext_getElem?
      intro j
      rw [Array.getElem?_setIfInBounds]
      split
      ·rename_i hj
       subst hj
       split
       ·rename_i hlt
        rw [Array.getElem?_eq_getElem hlt];rfl
       ·rename_i hlt
        rw [Array.getElem?_eq_none (by omega)]
      ·rfl
     dsimp only
     rw [this]
    have h1:TmR S' pl w m' (H8 tm (some s') (.c y)) a:=by
     have:=(h.mono hkp).put (.c y _ hy) (some s')
     rwa [hself] at this
    have h2:=h1.put (hrel.mono hkp) o.dst
    refine .inl ?_
    refine w0q (u:=a.tmps.getD s' undef) (w':=w) o (s:=pure (a.tmps.getD s' undef)) ?_ rfl ?_
    ·unfold execOp;rw [hop];rfl
    ·exact R9 hT hD l (i + 1) _ m' _ w hd' ⟨S',pl,hst,h2,fun p hp=>(hpin p hp).mono hkp⟩ hK hq
  | none =>
  rw [hmv] at hk
  dsimp only at hk
  rcases z3a h hk with ⟨hw,hk⟩ | ⟨hw,hk⟩
  ·rw [hw,if_pos rfl]
   refine .inl (Oper.wp_mono' ?_ (z3t hT hD hs h o hk))
   rintro a' w' ⟨v,S',pl',m',hK,hst,hkp,htm⟩
   exact R9 hT hD l (i + 1) _ m' a' w' hd' ⟨S',pl',hst,htm,fun p hp=>(hpin p hp).mono hkp⟩ hK hq
  ·rw [hw,if_neg (by simp)]
   exact R9 hT hD l (i + 1) _ m _ w hd' ⟨S,pl,hs,h.put (x:=R0) (u:=undef) (.tup [] [] rfl (fun i x u hx=>by simp at hx)) o.dst,hpin⟩ hk hq
theorem z0i {D:Spec} (hT:TabOk P T) (hD:∀ f os Q,D f os Q→Den P X.G f os Q) {wr:List Nat} {ops:Array Oper} {Q:Exit→Act→World→Prop} {K:List AV→Mem→Prop} (hq:∀ tm m a w,K tm m→At X pins tm m a w→Q .normal a w) :
  ∀ (n:Nat) (listed:Array Bool) (tm:List AV) (m:Mem) (a:Act) (w:World),At X pins tm m a w→w2j T X.G D wr ops K n listed tm m→wpAny P .any ops Q n listed a w
 | 0,listed,tm,m,a,w,ha,hk=>⟨hk.1,hq tm m a w hk.2 ha⟩
 | n + 1,listed,tm,m,a,w,⟨S,pl,hs,h,hpin⟩,hk=>by
  refine⟨fun he=>hq tm m a w (hk.1 he) ⟨S,pl,hs,h,hpin⟩,fun i hi=>?_⟩
  obtain⟨_,o,ho,_⟩:=mem_ready.1 hi
  have hst:=hk.2 i hi o ho
  unfold wpOp
  simp only [ho]
  rcases z3a h hst with ⟨hw,R,h1,h2⟩ | ⟨hw,h1⟩
  ·rw [hw,if_pos rfl]
   refine .inl (Oper.wp_mono' ?_ (z3t hT hD hs h o h1))
   rintro a' w' ⟨v,S',pl',m',hR,hst',hkp,htm⟩
   exact z0i hT hD hq n _ _ m' a' w' ⟨S',pl',hst',htm,fun p hp=>(hpin p hp).mono hkp⟩ (h2 v m' hR).2
  ·rw [hw,if_neg (by simp)]
   exact z0i hT hD hq n _ _ m _ w ⟨S,pl,hs,h.put (x:=R0) (u:=undef) (.tup [] [] rfl (fun i x u hx=>by simp at hx)) o.dst,hpin⟩ h1
theorem w6b (ids:List Nat) (l:List (Nat × Ob)) (j:Nat):K2 (z8f ids l) j=if j ∈ ids then K2 l j else none:=by
 induction l with
 | nil=>simp [z8f,K2]
 | cons a r ih =>
  obtain⟨k,p⟩:=a
  simp only [z8f]
  by_cases hk:k ∈ ids
  ·rw [if_pos hk];simp only [K2,ih]
   by_cases h:j=k
   ·subst h;simp [hk]
   ·simp [h]
  ·rw [if_neg hk,ih];simp only [K2]
   by_cases h:j=k
   ·subst h;simp [hk]
   ·simp [h]
theorem w8d (ids:List Nat) (m:Mem) (j:Nat):(m.keep ids).get j=if j ∈ ids then m.get j else none:=w6b _ _ _
theorem St.keep {S:D7} {pl:E2} {w:World} {m:Mem} (h:St X S pl w m) (ids:List Nat):St X S pl w (m.keep ids)∧Keeps S S pl pl w w m (m.keep ids):=by
 have hne:∀ id ob,(m.keep ids).get id=some ob→m.get id=some ob:=fun id ob hg=>by
  rw [w8d] at hg;split at hg
  ·exact hg
  ·simp at hg
 have k:Keeps S S pl pl w w m (m.keep ids):=⟨fun _ _ h=>h,fun _ _ _=>rfl,fun _ _ h=>h,Nat.le_refl _,fun id ob hob _=>⟨ob,hne id ob hob,by cases ob<;>simp [Ob.alike],rfl⟩⟩
 have e:Ext (fun _ _=>False) w w:=Ext.refl _ _
 refine⟨⟨⟨fun id ob hob=>⟨(h.inv.ob id ob (hne id ob hob)).1,(h.inv.ob id ob (hne id ob hob)).2.keep k (Nat.le_refl _) e.frz e.shape (fun _ _ _ _=>rfl)⟩,
  fun id id' ob ob' h1 h2=>h.inv.apart id id' ob ob' (hne _ _ h1) (hne _ _ h2),fun id ob hg=>h.inv.free id ob (hne _ _ hg),h.inv.low⟩,
  h.ext,h.sub,h.only,fun id ob hg=>h.own id ob (hne _ _ hg),h.glob⟩,k⟩
theorem Y2:∀ (l:List AV) (i:Nat) (live:List Nat) (j:Nat) (x:AV),(Q3 i live l)[j]?=some x→x=.dead∨l[j]?=some x
 | [],_,_,j,x,h=>by simp [Q3] at h
 | y :: l,i,[],0,x,h=>by simp [Q3] at h;exact .inl h.symm
 | y :: l,i,[],j + 1,x,h=>by
  simp only [Q3,List.getElem?_cons_succ] at h ⊢;exact Y2 l _ _ j x h
 | y :: l,i,k :: ks,0,x,h=>by
  simp only [Q3] at h;split at h
  ·exact .inr (by simpa using h)
  ·simp at h;exact .inl h.symm
 | y :: l,i,k :: ks,j + 1,x,h=>by
  simp only [Q3] at h;split at h
  ·simp only [List.getElem?_cons_succ] at h ⊢;exact Y2 l _ _ j x h
  ·simp only [List.getElem?_cons_succ] at h ⊢;exact Y2 l _ _ j x h
theorem U4:∀ (l:List AV) (i:Nat) (live:List Nat),(Q3 i live l).length=l.length
 | [],_,_=>rfl
 | y :: l,i,[]=>by simp [Q3,U4 l]
 | y :: l,i,k :: ks=>by simp only [Q3];split<;>simp [U4 l]
inductive Low (B:Nat):AV→Prop
 | c (x:CV):Low B (.c x)
 | t (id ver n:Nat) (h:ver < B):Low B (.t id ver n)
 | p (id ver o:Nat) (h:ver < B):Low B (.p id ver o)
 | tp (id ver i o:Nat) (h:ver < B):Low B (.tp id ver i o)
 | bs (id ver n:Nat) (h:ver < B):Low B (.bs id ver n)
 | agg (cs:List AV) (h:∀ x ∈ cs,Low B x):Low B (.agg cs)
 | tup (cs:List AV) (h:∀ x ∈ cs,Low B x):Low B (.tup cs)
 | dead:Low B .dead
theorem RelV.low {S:D7} {pl:E2} {w:World} {m:Mem} {x:AV} {u:Value} (h:RelV S pl w m x u):Low m.clk x:=by
 induction h with
 | c x u h=>exact .c x
 | t id ver n b capn hv hn h=>exact .t _ _ _ hv
 | p id ver off b o hv h=>exact .p _ _ _ hv
 | bs id ver n b o capn hv hn h=>exact .bs _ _ _ hv
 | tp id ver i off b o hv h=>exact .tp _ _ _ _ hv
 | agg cs us hl h ih =>
  refine .agg _ fun x hx=>?_
  obtain⟨i,hi⟩:=List.mem_iff_getElem?.1 hx
  have hlt:=(List.getElem?_eq_some_iff.1 hi).1
  exact ih i x us[i] hi (List.getElem?_eq_getElem (by omega))
 | tup cs us hl h ih =>
  refine .tup _ fun x hx=>?_
  obtain⟨i,hi⟩:=List.mem_iff_getElem?.1 hx
  have hlt:=(List.getElem?_eq_some_iff.1 hi).1
  exact ih i x us[i] hi (List.getElem?_eq_getElem (by omega))
 | dead u=>exact .dead
theorem w9t (B:Nat) (m:Mem) (caps:List Nat) (l:List (Nat × Ob)) (j:Nat):K2 (w4s B m caps l) j=(K2 l j).map (z0b B m caps j):=by
 induction l with
 | nil=>rfl
 | cons a r ih =>
  obtain⟨k,p⟩:=a
  simp only [w4s,K2,ih]
  by_cases h:j=k
  ·subst h;simp
  ·simp [h]
theorem N8 (B:Nat) (caps:List Nat) (m:Mem) (j:Nat):(m.canon B caps).get j=(m.get j).map (z0b B m caps j):=w9t _ _ _ _ _
theorem z1t (B:Nat) (m:Mem):∀ (l:List AV) (i:Nat),(cnL B m l)[i]?=(l[i]?).map (cnA B m)
 | [],i=>by simp [cnL]
 | x :: l,0=>by simp [cnL]
 | x :: l,i + 1=>by simp only [cnL,List.getElem?_cons_succ];exact z1t B m l i
theorem z0c (B:Nat) (m:Mem):∀ (l:List AV),(cnL B m l).length=l.length
 | []=>rfl
 | x :: l=>by simp only [cnL,List.length_cons,z0c B m l]
theorem z9o (v B:Nat):(bif Nat.ble v B then v else B)≤B:=by
 cases h:Nat.ble v B
 ·simp
 ·simpa using h
theorem RelV.canon {S:D7} {pl:E2} {w:World} {m:Mem} (B:Nat) (caps:List Nat) {x:AV} {u:Value} (h:RelV S pl w m x u):RelV S pl w (m.canon B caps) (cnA B m x) u:=by
 have hclk:(m.canon B caps).clk=B + 1:=rfl
 induction h with
 | c x u h=>simp only [cnA];exact .c x u h
 | t id ver n b capn hv hn h =>
  simp only [cnA]
  split
  ·rename_i v sz es cap pub hg
   split
   ·rename_i he
    have he:=Nat.eq_of_beq_eq_true he;subst he
    obtain⟨sz',es',cap',pub',e,heq,h1,h2,h3⟩:=h _ hg rfl
    refine .t id B n b capn (by rw [hclk];omega) hn (fun ob hob _=>?_)
    rw [N8,hg] at hob
    simp only [Option.map_some,z0b,Option.some.injEq] at hob
    subst hob
    injection heq with q1 q2 q3 q4 q5;subst q2 q3 q4 q5
    exact⟨_,_,_,_,e,rfl,h1,h2,h3⟩
   ·exact .dead _
  ·exact .dead _
 | p id ver off b o hv h =>
  simp only [cnA]
  split
  ·rename_i v cs hg
   split
   ·rename_i he
    have he:=Nat.eq_of_beq_eq_true he;subst he
    obtain⟨_,h2⟩:=h _ hg rfl
    refine .p id _ off b o (by rw [hclk];have:=z9o v B;omega) (fun ob hob _=>?_)
    rw [N8,hg] at hob
    simp only [Option.map_some,z0b,Option.some.injEq] at hob
    subst hob
    exact⟨⟨_,rfl⟩,h2⟩
   ·exact .dead _
  ·exact .dead _
 | bs id ver n b o capn hv hn h =>
  simp only [cnA]
  split
  ·rename_i v cs hg
   split
   ·rename_i he
    have he:=Nat.eq_of_beq_eq_true he;subst he
    obtain⟨_,h2⟩:=h _ hg rfl
    refine .bs id _ n b o capn (by rw [hclk];have:=z9o v B;omega) hn (fun ob hob _=>?_)
    rw [N8,hg] at hob
    simp only [Option.map_some,z0b,Option.some.injEq] at hob
    subst hob
    exact⟨⟨_,rfl⟩,h2⟩
   ·exact .dead _
  ·exact .dead _
 | tp id ver i off b o hv h =>
  simp only [cnA]
  split
  ·rename_i v sz es cap pub hg
   split
   ·rename_i he
    have he:=Nat.eq_of_beq_eq_true he;subst he
    obtain⟨sz',es',cap',pub',heq,h1,h2,h3⟩:=h _ hg rfl
    refine .tp id B i off b o (by rw [hclk];omega) (fun ob hob _=>?_)
    rw [N8,hg] at hob
    simp only [Option.map_some,z0b,Option.some.injEq] at hob
    subst hob
    injection heq with q1 q2 q3 q4 q5;subst q2 q3 q4 q5
    exact⟨_,_,_,_,rfl,h1,h2,h3⟩
   ·exact .dead _
  ·exact .dead _
 | agg cs us hl h ih =>
  simp only [cnA]
  refine .agg _ us (by rw [z0c];exact hl) (fun i x u hx hu=>?_)
  rw [z1t] at hx
  cases hy:cs[i]? with
  | none=>rw [hy] at hx;simp at hx
  | some y=>rw [hy] at hx;simp only [Option.map_some,Option.some.injEq] at hx;subst hx;exact ih i y u hy hu
 | tup cs us hl h ih =>
  simp only [cnA]
  refine .tup _ us (by rw [z0c];exact hl) (fun i x u hx hu=>?_)
  rw [z1t] at hx
  cases hy:cs[i]? with
  | none=>rw [hy] at hx;simp at hx
  | some y=>rw [hy] at hx;simp only [Option.map_some,Option.some.injEq] at hx;subst hx;exact ih i y u hy hu
 | dead u=>simp only [cnA];exact .dead u
theorem z0y {v ver B:Nat} (h:(bif Nat.ble v B then v else B)=ver) (hv:ver < B):v=ver:=by
 cases hb:Nat.ble v B
 ·rw [hb] at h;simp at h;omega
 ·rw [hb] at h;simpa using h
theorem RelV.canonLow {S:D7} {pl:E2} {w:World} {m:Mem} (B:Nat) (caps:List Nat) {x:AV} {u:Value} (h:RelV S pl w m x u) (hl:Low B x):RelV S pl w (m.canon B caps) x u:=by
 have hclk:(m.canon B caps).clk=B + 1:=rfl
 induction h with
 | c x u h=>exact .c x u h
 | t id ver n b capn hv hn h =>
  cases hl with | t _ _ _ hl =>
  refine .t id ver n b capn (by rw [hclk];omega) hn (fun ob hob he=>?_)
  rw [N8] at hob
  cases hg:m.get id with
  | none=>rw [hg] at hob;simp at hob
  | some ob' =>
   rw [hg] at hob;simp only [Option.map_some,Option.some.injEq] at hob;subst hob
   cases ob' with
   | blk v cs =>
    simp only [z0b,Ob.ver] at he
    have:=z0y he hl
    obtain⟨_,_,_,_,_,q,_⟩:=h _ hg (by simpa [Ob.ver] using this)
    simp at q
   | arr v sz es cap pub=>simp only [z0b,Ob.ver] at he;omega
 | p id ver off b o hv h =>
  cases hl with | p _ _ _ hl =>
  refine .p id ver off b o (by rw [hclk];omega) (fun ob hob he=>?_)
  rw [N8] at hob
  cases hg:m.get id with
  | none=>rw [hg] at hob;simp at hob
  | some ob' =>
   rw [hg] at hob;simp only [Option.map_some,Option.some.injEq] at hob;subst hob
   cases ob' with
   | blk v cs =>
    simp only [z0b,Ob.ver] at he
    have hv':=z0y he hl
    obtain⟨_,h2⟩:=h _ hg (by simpa [Ob.ver] using hv')
    exact⟨⟨cnL B m cs,by simp only [z0b,he]⟩,h2⟩
   | arr v sz es cap pub=>simp only [z0b,Ob.ver] at he;omega
 | bs id ver n b o capn hv hn h =>
  cases hl with | bs _ _ _ hl =>
  refine .bs id ver n b o capn (by rw [hclk];omega) hn (fun ob hob he=>?_)
  rw [N8] at hob
  cases hg:m.get id with
  | none=>rw [hg] at hob;simp at hob
  | some ob' =>
   rw [hg] at hob;simp only [Option.map_some,Option.some.injEq] at hob;subst hob
   cases ob' with
   | blk v cs =>
    simp only [z0b,Ob.ver] at he
    have hv':=z0y he hl
    obtain⟨_,h2⟩:=h _ hg (by simpa [Ob.ver] using hv')
    exact⟨⟨cnL B m cs,by simp only [z0b,he]⟩,h2⟩
   | arr v sz es cap pub=>simp only [z0b,Ob.ver] at he;omega
 | tp id ver i off b o hv h =>
  cases hl with | tp _ _ _ _ hl =>
  refine .tp id ver i off b o (by rw [hclk];omega) (fun ob hob he=>?_)
  rw [N8] at hob
  cases hg:m.get id with
  | none=>rw [hg] at hob;simp at hob
  | some ob' =>
   rw [hg] at hob;simp only [Option.map_some,Option.some.injEq] at hob;subst hob
   cases ob' with
   | blk v cs =>
    simp only [z0b,Ob.ver] at he
    have:=z0y he hl
    obtain⟨_,_,_,_,q,_⟩:=h _ hg (by simpa [Ob.ver] using this)
    simp at q
   | arr v sz es cap pub=>simp only [z0b,Ob.ver] at he;omega
 | agg cs us hlen h ih =>
  cases hl with | agg _ hl =>
  exact .agg cs us hlen (fun i x u hx hu=>ih i x u hx hu (hl x (List.mem_of_getElem? hx)))
 | tup cs us hlen h ih =>
  cases hl with | tup _ hl =>
  exact .tup cs us hlen (fun i x u hx hu=>ih i x u hx hu (hl x (List.mem_of_getElem? hx)))
 | dead u=>exact .dead u
theorem w8o (B:Nat) (m:Mem) (x:AV) (h:(cnA B m x).isDead=false):x.isDead=false:=by
 cases x with
 | dead=>simp [cnA,AV.isDead] at h
 | _=>rfl
theorem z1s {B:Nat} {m:Mem} {caps:List Nat} {i:Nat} {ob:Ob} {q:Nat × Nat} {b o:Nat} (h:(z0b B m caps i ob).foot q b o):ob.foot q b o:=by
 cases ob with
 | arr v sz es cap pub=>exact h
 | blk v cs =>
  obtain⟨h1,j,x,hx,hd,ho⟩:=h
  rw [z1t] at hx
  cases hy:cs[j]? with
  | none=>rw [hy] at hx;simp at hx
  | some y=>rw [hy] at hx;simp only [Option.map_some,Option.some.injEq] at hx;subst hx;exact⟨h1,j,y,hy,w8o B m y hd,ho⟩
theorem St.canon {S:D7} {pl:E2} {w:World} {m:Mem} (h:St X S pl w m) (B:Nat) (caps:List Nat):St X S pl w (m.canon B caps):=by
 have hget:∀ id ob,(m.canon B caps).get id=some ob→∃ ob',m.get id=some ob'∧ob=z0b B m caps id ob':=fun id ob hg=>by
  rw [N8] at hg
  cases hq:m.get id with
  | none=>rw [hq] at hg;simp at hg
  | some ob'=>rw [hq] at hg;simp only [Option.map_some,Option.some.injEq] at hg;exact⟨ob',rfl,hg.symm⟩
 refine⟨⟨fun id ob hob=>?_,fun id id' ob ob' h1 h2 hne b o hf=>?_,fun id ob hg b o hf=>?_,h.inv.low⟩,h.ext,h.sub,h.only,fun id ob hg b o hf=>?_,h.glob⟩
 ·obtain⟨ob',hg,rfl⟩:=hget id ob hob
  obtain⟨hv,hok⟩:=h.inv.ob id ob' hg
  cases ob' with
  | blk v cs =>
   refine⟨by have:=z9o v B;show (bif Nat.ble v B then v else B) < B + 1;omega,?_⟩
   obtain⟨h1,h2,h3⟩:=hok
   refine⟨h1,h2,fun j x hx=>?_⟩
   rw [z1t] at hx
   cases hy:cs[j]? with
   | none=>rw [hy] at hx;simp at hx
   | some y =>
    rw [hy] at hx;simp only [Option.map_some,Option.some.injEq] at hx;subst hx
    obtain⟨u,hc,hr⟩:=h3 j y hy
    exact⟨u,hc,hr.canon B caps⟩
  | arr v sz es cap pub =>
   refine⟨Nat.lt_succ_self _,?_⟩
   obtain⟨h0,h1,h2,⟨e,capn,h3,h4,h5⟩,h6,h7⟩:=hok
   refine⟨h0,h1,h2,⟨e,capn,h3,h4,fun c hc=>h5 c ?_⟩,h6,h7⟩
   revert hc
   cases caps.contains id<;>simp
 ·obtain⟨o1,g1,rfl⟩:=hget id ob h1
  obtain⟨o2,g2,rfl⟩:=hget id' ob' h2
  exact fun hf2=>h.inv.apart id id' o1 o2 g1 g2 hne b o (z1s hf) (z1s hf2)
 ·obtain⟨o1,g1,rfl⟩:=hget id ob hg
  exact h.inv.free id o1 g1 b o (z1s hf)
 ·obtain⟨o1,g1,rfl⟩:=hget id ob hg
  exact h.own id o1 g1 b o (z1s hf)
theorem z1q:∀ (l:List AV) (i:Nat),(nmL l)[i]?=(l[i]?).map nmA
 | [],i=>by simp [nmL]
 | x :: l,0=>by simp [nmL]
 | x :: l,i + 1=>by simp only [nmL,List.getElem?_cons_succ];exact z1q l i
theorem Z4:∀ (l:List AV),(nmL l).length=l.length
 | []=>rfl
 | x :: l=>by simp only [nmL,List.length_cons,Z4 l]
theorem w7s (x:AV) (h:(nmA x).isDead=false):x.isDead=false:=by
 cases x<;>simp_all [nmA,AV.isDead]
theorem w9s (l:List (Nat × Ob)) (j:Nat):K2 (w4h l) j=(K2 l j).map w7r:=by
 induction l with
 | nil=>rfl
 | cons a r ih =>
  obtain⟨k,p⟩:=a
  simp only [w4h,K2,ih]
  by_cases h:j=k
  ·subst h;simp
  ·simp [h]
theorem k3g (m:Mem) (j:Nat):m.nm.get j=(m.get j).map w7r:=w9s _ _
theorem K5 {m:Mem} {id:Nat} {ob:Ob} (h:m.nm.get id=some ob):∃ ob',m.get id=some ob'∧ob=w7r ob':=by
 rw [k3g] at h
 cases hq:m.get id with
 | none=>rw [hq] at h;simp at h
 | some ob'=>rw [hq] at h;simp only [Option.map_some,Option.some.injEq] at h;exact⟨ob',rfl,h.symm⟩
theorem RelV.nmMem {S:D7} {pl:E2} {w:World} {m:Mem} {x:AV} {u:Value} (h:RelV S pl w m x u):RelV S pl w m.nm x u:=by
 induction h with
 | c x u h=>exact .c x u h
 | t id ver n b capn hv hn h =>
  refine .t id ver n b capn hv hn (fun ob hob he=>?_)
  obtain⟨ob',hg,rfl⟩:=K5 hob
  cases ob' with
  | blk v cs=>obtain⟨_,_,_,_,_,q,_⟩:=h _ hg he;cases q
  | arr v sz es cap pub=>exact h _ hg he
 | p id ver off b o hv h =>
  refine .p id ver off b o hv (fun ob hob he=>?_)
  obtain⟨ob',hg,rfl⟩:=K5 hob
  cases ob' with
  | blk v cs=>obtain⟨_,q⟩:=h _ hg he;exact⟨⟨_,by cases he;rfl⟩,q⟩
  | arr v sz es cap pub=>obtain⟨⟨_,q⟩,_⟩:=h _ hg he;cases q
 | bs id ver n b o capn hv hn h =>
  refine .bs id ver n b o capn hv hn (fun ob hob he=>?_)
  obtain⟨ob',hg,rfl⟩:=K5 hob
  cases ob' with
  | blk v cs=>obtain⟨_,q⟩:=h _ hg he;exact⟨⟨_,by cases he;rfl⟩,q⟩
  | arr v sz es cap pub=>obtain⟨⟨_,q⟩,_⟩:=h _ hg he;cases q
 | tp id ver i off b o hv h =>
  refine .tp id ver i off b o hv (fun ob hob he=>?_)
  obtain⟨ob',hg,rfl⟩:=K5 hob
  cases ob' with
  | blk v cs=>obtain⟨_,_,_,_,q,_⟩:=h _ hg he;cases q
  | arr v sz es cap pub=>exact h _ hg he
 | agg cs us hl _ ih=>exact .agg cs us hl ih
 | tup cs us hl _ ih=>exact .tup cs us hl ih
 | dead u=>exact .dead u
theorem RelV.nmV {S:D7} {pl:E2} {w:World} {m:Mem} {x:AV} {u:Value} (h:RelV S pl w m x u):RelV S pl w m (nmA x) u:=by
 induction h with
 | c x u h=>simp only [nmA];exact .c _ u h.norm
 | t id ver n b capn hv hn h=>simp only [nmA];exact .t id ver n b capn hv hn h
 | p id ver off b o hv h=>simp only [nmA];exact .p id ver off b o hv h
 | bs id ver n b o capn hv hn h=>simp only [nmA];exact .bs id ver n b o capn hv hn h
 | tp id ver i off b o hv h=>simp only [nmA];exact .tp id ver i off b o hv h
 | agg cs us hl h ih =>
  simp only [nmA]
  refine .agg _ us (by rw [Z4];exact hl) (fun i x u hx hu=>?_)
  rw [z1q] at hx
  cases hy:cs[i]? with
  | none=>rw [hy] at hx;simp at hx
  | some y=>rw [hy] at hx;simp only [Option.map_some,Option.some.injEq] at hx;subst hx;exact ih i y u hy hu
 | tup cs us hl h ih =>
  simp only [nmA]
  refine .tup _ us (by rw [Z4];exact hl) (fun i x u hx hu=>?_)
  rw [z1q] at hx
  cases hy:cs[i]? with
  | none=>rw [hy] at hx;simp at hx
  | some y=>rw [hy] at hx;simp only [Option.map_some,Option.some.injEq] at hx;subst hx;exact ih i y u hy hu
 | dead u=>simp only [nmA];exact .dead u
theorem z1p {ob:Ob} {q:Nat × Nat} {b o:Nat} (h:(w7r ob).foot q b o):ob.foot q b o:=by
 cases ob with
 | arr v sz es cap pub=>exact h
 | blk v cs =>
  obtain⟨h1,j,x,hx,hd,ho⟩:=h
  rw [z1q] at hx
  cases hy:cs[j]? with
  | none=>rw [hy] at hx;simp at hx
  | some y=>rw [hy] at hx;simp only [Option.map_some,Option.some.injEq] at hx;subst hx;exact⟨h1,j,y,hy,w7s y hd,ho⟩
theorem St.nm {S:D7} {pl:E2} {w:World} {m:Mem} (h:St X S pl w m):St X S pl w m.nm:=by
 refine⟨⟨fun id ob hob=>?_,fun id id' ob ob' h1 h2 hne b o hf=>?_,fun id ob hg b o hf=>?_,h.inv.low⟩,h.ext,h.sub,h.only,fun id ob hg b o hf=>?_,h.glob⟩
 ·obtain⟨ob',hg,rfl⟩:=K5 hob
  obtain⟨hv,hok⟩:=h.inv.ob id ob' hg
  cases ob' with
  | blk v cs =>
   refine⟨hv,?_⟩
   obtain⟨h1,h2,h3⟩:=hok
   refine⟨h1,h2,fun j x hx=>?_⟩
   rw [z1q] at hx
   cases hy:cs[j]? with
   | none=>rw [hy] at hx;simp at hx
   | some y =>
    rw [hy] at hx;simp only [Option.map_some,Option.some.injEq] at hx;subst hx
    obtain⟨u,hc,hr⟩:=h3 j y hy
    exact⟨u,hc,hr.nmMem.nmV⟩
  | arr v sz es cap pub=>exact⟨hv,hok⟩
 ·obtain⟨o1,g1,rfl⟩:=K5 h1
  obtain⟨o2,g2,rfl⟩:=K5 h2
  exact fun hf2=>h.inv.apart id id' o1 o2 g1 g2 hne b o (z1p hf) (z1p hf2)
 ·obtain⟨o1,g1,rfl⟩:=K5 hg
  exact h.inv.free id o1 g1 b o (z1p hf)
 ·obtain⟨o1,g1,rfl⟩:=K5 hg
  exact h.own id o1 g1 b o (z1p hf)
theorem At.head0 {B:Nat} {tm:List AV} {m:Mem} {a:Act} {w:World} (h:At X pins tm m a w) (hl:∀ p ∈ pins,Low B p.1) (live ids caps:List Nat):At X pins (cnL B (m.keep ids) (Q3 0 live tm)) ((m.keep ids).canon B caps) a w:=by
 obtain⟨S,pl,hs,ht,hp⟩:=h
 obtain⟨h1,k⟩:=hs.keep ids
 refine⟨S,pl,h1.canon B caps,⟨ht.defers,?_,fun i x hx=>?_⟩,fun p hq=>((hp p hq).mono k).canonLow B caps (hl p hq)⟩
 ·rw [z0c,U4];exact ht.size
 ·rw [z1t] at hx
  cases hy:(Q3 0 live tm)[i]? with
  | none=>rw [hy] at hx;simp at hx
  | some y =>
   rw [hy] at hx;simp only [Option.map_some,Option.some.injEq] at hx;subst hx
   rcases Y2 _ _ _ _ _ hy with rfl | hx
   ·simp only [cnA];exact .dead _
   ·exact ((ht.rel i y hx).mono k).canon B caps
theorem At.nm {tm:List AV} {m:Mem} {a:Act} {w:World} (h:At X pins tm m a w):At X pins (nmL tm) m.nm a w:=by
 obtain⟨S,pl,hs,ht,hp⟩:=h
 refine⟨S,pl,hs.nm,⟨ht.defers,?_,fun i x hx=>?_⟩,fun p hq=>(hp p hq).nmMem⟩
 ·rw [Z4];exact ht.size
 ·rw [z1q] at hx
  cases hy:tm[i]? with
  | none=>rw [hy] at hx;simp at hx
  | some y =>
   rw [hy] at hx;simp only [Option.map_some,Option.some.injEq] at hx;subst hx
   exact (ht.rel i y hy).nmMem.nmV
theorem z8c {i j:Nat}:∀ {rn:List (Nat × Nat)},z0z i rn=some j→(i,j) ∈ rn
 | [],h=>by simp [z0z] at h
 | (k,l) :: r,h=>by
  simp only [z0z] at h;split at h
  ·rename_i he;injection h with h;subst h he;simp
  ·exact List.mem_cons_of_mem _ (z8c h)
theorem w7z {j:Nat} {x:Option Nat} (h:isN j x=true):x=some j:=by
 cases x with
 | none=>simp [isN] at h
 | some i =>
  simp only [isN] at h
  split at h
  ·rename_i he;rw [he]
  ·simp at h
theorem U8 {rn:List (Nat × Nat)} (h:w1d rn=true) {i j:Nat} (hm:(i,j) ∈ rn):z0z i rn=some j∧w8a j rn=some i:=by
 have:=List.all_eq_true.1 h _ hm
 simp only [Bool.and_eq_true] at this
 exact⟨w7z this.1,w7z this.2⟩
theorem z1r {B:Nat} {rn:List (Nat × Nat)} {caps:List Nat} {m:Mem} {j:Nat} {ob':Ob} (h:(m.rnm B rn caps).get j=some ob'):∃ i ob,(i,j) ∈ rn∧m.get i=some ob∧ob'=z1v B rn m caps i j ob:=by
 have:∀ (l:List (Nat × Nat)),K2 (z7r B rn m caps l) j=some ob'→∃ i ob,(i,j) ∈ l∧m.get i=some ob∧ob'=z1v B rn m caps i j ob:=by
  intro l
  induction l with
  | nil=>intro h;simp [z7r,K2] at h
  | cons a r ih =>
   obtain⟨i,k⟩:=a
   intro h
   simp only [z7r] at h
   split at h
   ·rename_i ob hob
    simp only [K2] at h
    split at h
    ·rename_i he;subst he;injection h with h;exact⟨i,ob,by simp,hob,h.symm⟩
    ·obtain⟨i2,ob2,h1,h2⟩:=ih h;exact⟨i2,ob2,List.mem_cons_of_mem _ h1,h2⟩
   ·obtain⟨i2,ob2,h1,h2⟩:=ih h;exact⟨i2,ob2,List.mem_cons_of_mem _ h1,h2⟩
 exact this rn h
def plR (rn:List (Nat × Nat)) (pl:E2):E2:=fun j=>match w8a j rn with | some i=>pl i | none=>pl j
theorem z9j {rn:List (Nat × Nat)} (pl:E2) {i j:Nat} (h:w8a j rn=some i):plR rn pl j=pl i:=by unfold plR;rw [h]
theorem w3f (B i j v:Nat):rnV B i j v≤B:=by
 unfold rnV;split
 ·exact z9o v B
 ·exact Nat.le_refl _
theorem z1k (B:Nat) (rn:List (Nat × Nat)) (m:Mem):∀ (l:List AV) (i:Nat),(rnL B rn m l)[i]?=(l[i]?).map (rnA B rn m)
 | [],i=>by simp [rnL]
 | x :: l,0=>by simp [rnL]
 | x :: l,i + 1=>by simp only [rnL,List.getElem?_cons_succ];exact z1k B rn m l i
theorem Z1 (B:Nat) (rn:List (Nat × Nat)) (m:Mem):∀ (l:List AV),(rnL B rn m l).length=l.length
 | []=>rfl
 | x :: l=>by simp only [rnL,List.length_cons,Z1 B rn m l]
theorem w7g (B:Nat) (rn:List (Nat × Nat)) (m:Mem) (x:AV) (h:(rnA B rn m x).isDead=false):x.isDead=false:=by
 cases x<;>simp_all [rnA,AV.isDead]
theorem RelV.rn {S:D7} {pl:E2} {w:World} {m:Mem} (B:Nat) {rn:List (Nat × Nat)} (hok:w1d rn=true) (caps:List Nat) {x:AV} {u:Value} (h:RelV S pl w m x u):RelV S (plR rn pl) w (m.rnm B rn caps) (rnA B rn m x) u:=by
 have hclk:(m.rnm B rn caps).clk=B + 1:=rfl
 have back:∀ {i j:Nat} {ob:Ob},z0z i rn=some j→m.get i=some ob→∀ ob',(m.rnm B rn caps).get j=some ob'→ob'=z1v B rn m caps i j ob∧plR rn pl j=pl i:=fun {i j ob} hl hg ob' hg'=>by
  obtain⟨i2,ob2,h1,h2,h3⟩:=z1r hg'
  have e1:=(U8 hok (z8c hl)).2
  have e2:=(U8 hok h1).2
  rw [e1] at e2;injection e2 with e2;subst e2
  rw [hg] at h2;injection h2 with h2;subst h2
  exact⟨h3,z9j pl e1⟩
 induction h with
 | c x u h=>simp only [rnA];exact .c x u h
 | t id ver n b capn hv hn h =>
  simp only [rnA]
  split
  ·rename_i v sz es cap pub hg
   split
   ·rename_i he
    have he:=Nat.eq_of_beq_eq_true he;subst he
    obtain⟨sz',es',cap',pub',e,heq,h1,h2,h3⟩:=h _ hg rfl
    injection heq with q1 q2 q3 q4 q5;subst q2 q3 q4 q5
    split
    ·rename_i j hl
     refine .t j B n b capn (by rw [hclk];omega) hn (fun ob hob _=>?_)
     obtain⟨rfl,hpl⟩:=back hl hg ob hob
     exact⟨_,_,_,_,e,rfl,h1,by rw [hpl];exact h2,h3⟩
    ·exact .dead _
   ·exact .dead _
  ·exact .dead _
 | p id ver off b o hv h =>
  simp only [rnA]
  split
  ·rename_i v cs hg
   split
   ·rename_i he
    have he:=Nat.eq_of_beq_eq_true he;subst he
    obtain⟨_,h2⟩:=h _ hg rfl
    split
    ·rename_i j hl
     refine .p j _ off b o (by rw [hclk];have:=w3f B id j v;omega) (fun ob hob _=>?_)
     obtain⟨rfl,hpl⟩:=back hl hg ob hob
     exact⟨⟨_,rfl⟩,by rw [hpl];exact h2⟩
    ·exact .dead _
   ·exact .dead _
  ·exact .dead _
 | bs id ver n b o capn hv hn h =>
  simp only [rnA]
  split
  ·rename_i v cs hg
   split
   ·rename_i he
    have he:=Nat.eq_of_beq_eq_true he;subst he
    obtain⟨_,h2⟩:=h _ hg rfl
    split
    ·rename_i j hl
     refine .bs j _ n b o capn (by rw [hclk];have:=w3f B id j v;omega) hn (fun ob hob _=>?_)
     obtain⟨rfl,hpl⟩:=back hl hg ob hob
     exact⟨⟨_,rfl⟩,by rw [hpl];exact h2⟩
    ·exact .dead _
   ·exact .dead _
  ·exact .dead _
 | tp id ver i off b o hv h =>
  simp only [rnA]
  split
  ·rename_i v sz es cap pub hg
   split
   ·rename_i he
    have he:=Nat.eq_of_beq_eq_true he;subst he
    obtain⟨sz',es',cap',pub',heq,h1,h2,h3⟩:=h _ hg rfl
    injection heq with q1 q2 q3 q4 q5;subst q2 q3 q4 q5
    split
    ·rename_i j hl
     refine .tp j B i off b o (by rw [hclk];omega) (fun ob hob _=>?_)
     obtain⟨rfl,hpl⟩:=back hl hg ob hob
     exact⟨_,_,_,_,rfl,h1,by rw [hpl];exact h2,h3⟩
    ·exact .dead _
   ·exact .dead _
  ·exact .dead _
 | agg cs us hl h ih =>
  simp only [rnA]
  refine .agg _ us (by rw [Z1];exact hl) (fun i x u hx hu=>?_)
  rw [z1k] at hx
  cases hy:cs[i]? with
  | none=>rw [hy] at hx;simp at hx
  | some y=>rw [hy] at hx;simp only [Option.map_some,Option.some.injEq] at hx;subst hx;exact ih i y u hy hu
 | tup cs us hl h ih =>
  simp only [rnA]
  refine .tup _ us (by rw [Z1];exact hl) (fun i x u hx hu=>?_)
  rw [z1k] at hx
  cases hy:cs[i]? with
  | none=>rw [hy] at hx;simp at hx
  | some y=>rw [hy] at hx;simp only [Option.map_some,Option.some.injEq] at hx;subst hx;exact ih i y u hy hu
 | dead u=>simp only [rnA];exact .dead u
theorem RelV.rnLow {S:D7} {pl:E2} {w:World} {m:Mem} {B:Nat} {rn:List (Nat × Nat)} (hok:w1d rn=true) (caps:List Nat) {x:AV} {u:Value} (h:RelV S pl w m x u) (hl:Low B x):RelV S (plR rn pl) w (m.rnm B rn caps) x u:=by
 have hclk:(m.rnm B rn caps).clk=B + 1:=rfl
 induction h with
 | c x u h=>exact .c x u h
 | t id ver n b capn hv hn h =>
  cases hl with | t _ _ _ hlt =>
  refine .t id ver n b capn (by rw [hclk];omega) hn (fun ob hob he=>?_)
  obtain⟨i,ob0,h1,h2,rfl⟩:=z1r hob
  cases ob0 with
  | arr v sz es cap pub=>simp only [z1v,Ob.ver] at he;omega
  | blk v cs =>
   simp only [z1v,Ob.ver] at he
   by_cases hi:i=id
   ·subst hi
    unfold rnV at he;rw [if_pos rfl] at he
    have:=z0y he hlt;subst this
    obtain⟨_,_,_,_,_,q,_⟩:=h _ h2 rfl;cases q
   ·unfold rnV at he;rw [if_neg hi] at he;omega
 | p id ver off b o hv h =>
  cases hl with | p _ _ _ hlt =>
  refine .p id ver off b o (by rw [hclk];omega) (fun ob hob he=>?_)
  obtain⟨i,ob0,h1,h2,rfl⟩:=z1r hob
  cases ob0 with
  | arr v sz es cap pub=>simp only [z1v,Ob.ver] at he;omega
  | blk v cs =>
   simp only [z1v,Ob.ver] at he
   by_cases hi:i=id
   ·subst hi
    have hpl:=z9j pl (U8 hok h1).2
    have he2:=he
    unfold rnV at he;rw [if_pos rfl] at he
    have:=z0y he hlt;subst this
    obtain⟨_,q⟩:=h _ h2 rfl
    exact⟨⟨_,by simp only [z1v];rw [he2]⟩,by rw [hpl];exact q⟩
   ·unfold rnV at he;rw [if_neg hi] at he;omega
 | bs id ver n b o capn hv hn h =>
  cases hl with | bs _ _ _ hlt =>
  refine .bs id ver n b o capn (by rw [hclk];omega) hn (fun ob hob he=>?_)
  obtain⟨i,ob0,h1,h2,rfl⟩:=z1r hob
  cases ob0 with
  | arr v sz es cap pub=>simp only [z1v,Ob.ver] at he;omega
  | blk v cs =>
   simp only [z1v,Ob.ver] at he
   by_cases hi:i=id
   ·subst hi
    have hpl:=z9j pl (U8 hok h1).2
    have he2:=he
    unfold rnV at he;rw [if_pos rfl] at he
    have:=z0y he hlt;subst this
    obtain⟨_,q⟩:=h _ h2 rfl
    exact⟨⟨_,by simp only [z1v];rw [he2]⟩,by rw [hpl];exact q⟩
   ·unfold rnV at he;rw [if_neg hi] at he;omega
 | tp id ver i off b o hv h =>
  cases hl with | tp _ _ _ _ hlt =>
  refine .tp id ver i off b o (by rw [hclk];omega) (fun ob hob he=>?_)
  obtain⟨i2,ob0,h1,h2,rfl⟩:=z1r hob
  cases ob0 with
  | arr v sz es cap pub=>simp only [z1v,Ob.ver] at he;omega
  | blk v cs =>
   simp only [z1v,Ob.ver] at he
   by_cases hi:i2=id
   ·subst hi
    unfold rnV at he;rw [if_pos rfl] at he
    have:=z0y he hlt;subst this
    obtain⟨_,_,_,_,q,_⟩:=h _ h2 rfl;cases q
   ·unfold rnV at he;rw [if_neg hi] at he;omega
 | agg cs us hl' h ih =>
  cases hl with | agg _ hc =>
  exact .agg cs us hl' fun i x u hx hu=>ih i x u hx hu (hc x (List.mem_of_getElem? hx))
 | tup cs us hl' h ih =>
  cases hl with | tup _ hc =>
  exact .tup cs us hl' fun i x u hx hu=>ih i x u hx hu (hc x (List.mem_of_getElem? hx))
 | dead u=>exact .dead u
theorem z1j {B:Nat} {rn:List (Nat × Nat)} {m:Mem} {caps:List Nat} {i j:Nat} {ob:Ob} {q:Nat × Nat} {b o:Nat} (h:(z1v B rn m caps i j ob).foot q b o):ob.foot q b o:=by
 cases ob with
 | arr v sz es cap pub=>exact h
 | blk v cs =>
  obtain⟨h1,k,x,hx,hd,ho⟩:=h
  rw [z1k] at hx
  cases hy:cs[k]? with
  | none=>rw [hy] at hx;simp at hx
  | some y=>rw [hy] at hx;simp only [Option.map_some,Option.some.injEq] at hx;subst hx;exact⟨h1,k,y,hy,w7g B rn m y hd,ho⟩
theorem St.rn {S:D7} {pl:E2} {w:World} {m:Mem} (h:St X S pl w m) (B:Nat) {rn:List (Nat × Nat)} (hok:w1d rn=true) (caps:List Nat):St X S (plR rn pl) w (m.rnm B rn caps):=by
 have hget:∀ id ob,(m.rnm B rn caps).get id=some ob→∃ i ob',(i,id) ∈ rn∧m.get i=some ob'∧ob=z1v B rn m caps i id ob'∧plR rn pl id=pl i:=fun id ob hg=>by
  obtain⟨i,ob',h1,h2,h3⟩:=z1r hg
  exact⟨i,ob',h1,h2,h3,z9j pl (U8 hok h1).2⟩
 refine⟨⟨fun id ob hob=>?_,fun id id' ob ob' h1 h2 hne b o hf=>?_,fun id ob hg b o hf=>?_,h.inv.low⟩,h.ext,h.sub,h.only,fun id ob hg b o hf=>?_,h.glob⟩
 ·obtain⟨i,ob',_,hg,rfl,hpl⟩:=hget id ob hob
  obtain⟨hv,hok'⟩:=h.inv.ob i ob' hg
  rw [hpl]
  cases ob' with
  | blk v cs =>
   refine⟨by have:=w3f B i id v;show rnV B i id v < B + 1;omega,?_⟩
   obtain⟨h1,h2,h3⟩:=hok'
   refine⟨h1,h2,fun j x hx=>?_⟩
   rw [z1k] at hx
   cases hy:cs[j]? with
   | none=>rw [hy] at hx;simp at hx
   | some y =>
    rw [hy] at hx;simp only [Option.map_some,Option.some.injEq] at hx;subst hx
    obtain⟨u,hc,hr⟩:=h3 j y hy
    exact⟨u,hc,hr.rn B hok caps⟩
  | arr v sz es cap pub =>
   refine⟨Nat.lt_succ_self _,?_⟩
   obtain⟨h0,h1,h2,⟨e,capn,h3,h4,h5⟩,h6,h7⟩:=hok'
   refine⟨h0,h1,h2,⟨e,capn,h3,h4,fun c hc=>h5 c ?_⟩,h6,h7⟩
   revert hc
   cases caps.contains id<;>simp
 ·obtain⟨i1,o1,m1,g1,rfl,p1⟩:=hget id ob h1
  obtain⟨i2,o2,m2,g2,rfl,p2⟩:=hget id' ob' h2
  rw [p1] at hf
  rw [p2]
  have hne':i1≠i2:=fun q=>by
   subst q
   have e1:=(U8 hok m1).1
   have e2:=(U8 hok m2).1
   rw [e1] at e2;injection e2 with e2;exact hne e2
  exact fun hf2=>h.inv.apart i1 i2 o1 o2 g1 g2 hne' b o (z1j hf) (z1j hf2)
 ·obtain⟨i,o1,_,g1,rfl,p1⟩:=hget id ob hg
  rw [p1] at hf
  exact h.inv.free i o1 g1 b o (z1j hf)
 ·obtain⟨i,o1,_,g1,rfl,p1⟩:=hget id ob hg
  rw [p1] at hf
  exact h.own i o1 g1 b o (z1j hf)
theorem w6z (live ids:List Nat) (tm:List AV) (m:Mem):w1d (w4b live ids tm m)=true:=by
 unfold w4b
 dsimp only
 generalize ids.map (fun i=>(i,i))++mkR ids 0 (z0r m 4000 (Q3 0 live tm++w4g m ids) [])=rn
 cases h:w1d rn with
 | true=>exact h
 | false=>rfl
theorem At.headR {B:Nat} {tm:List AV} {m:Mem} {a:Act} {w:World} (h:At X pins tm m a w) (hl:∀ p ∈ pins,Low B p.1) (live caps:List Nat) {rn:List (Nat × Nat)} (hok:w1d rn=true):At X pins (rnL B rn m (Q3 0 live tm)) (m.rnm B rn caps) a w:=by
 obtain⟨S,pl,hs,ht,hp⟩:=h
 refine⟨S,plR rn pl,hs.rn B hok caps,⟨ht.defers,?_,fun i x hx=>?_⟩,fun p hq=>(hp p hq).rnLow hok caps (hl p hq)⟩
 ·rw [Z1,U4];exact ht.size
 ·rw [z1k] at hx
  cases hy:(Q3 0 live tm)[i]? with
  | none=>rw [hy] at hx;simp at hx
  | some y =>
   rw [hy] at hx;simp only [Option.map_some,Option.some.injEq] at hx;subst hx
   rcases Y2 _ _ _ _ _ hy with rfl | hx
   ·simp only [rnA];exact .dead _
   ·exact (ht.rel i y hx).rn B hok caps
theorem At.head {B:Nat} {tm:List AV} {m:Mem} {a:Act} {w:World} (h:At X pins tm m a w) (hl:∀ p ∈ pins,Low B p.1) (live ids caps:List Nat):At X pins (fgT B live ids tm m) (fgM B live ids caps tm m) a w:=by
 have h0:At X pins (w9y B live ids tm m) (w9z B live ids caps tm m) a w:=by
  unfold w9y w9z
  cases w0d ids with
  | true=>exact h.headR hl live caps (w6z live ids tm m)
  | false=>exact h.head0 hl live ids caps
 unfold fgT fgM
 cases z9l ids with
 | true=>exact h0.nm
 | false=>exact h0
def w8g:Exit→Option EX
 | .normal=>some .norm
 | .ret=>some .ret
 | .exit i=>some (.ex i)
 | _=>none
def z8x (X:Ctx) (pins:List (AV × Value)) (K:KX) (e:Exit) (a:Act) (w:World):Prop:=∃ ex tm m,w8g e=some ex∧K ex tm m∧At X pins tm m a w
theorem w1v {D:Spec} {B:Nat} (hl:∀ p ∈ pins,Low B p.1) (hm:P.follows .mixedOrders=true) (hT:TabOk P T) (hD:∀ f os Q,D f os Q→Den P X.G f os Q) (c:Code):∀ (tm:List AV) (m:Mem) (K:KX) (a:Act) (w:World),At X pins tm m a w→T2 B T X.G D c tm m K→c.wp P (z8x X pins K) a w:=by
 induction c with
 | skip=>intro tm m K a w ha hk;exact wp_skip ⟨.norm,tm,m,rfl,hk,ha⟩
 | label l=>intro tm m K a w ha hk;exact wp_label ⟨.norm,tm,m,rfl,hk,ha⟩
 | region id ops draw =>
  intro tm m K a w ha hk
  have joined:∀ tm m a w,z3k B (K .norm) tm m→At X pins tm m a w→z8x X pins K .normal a w:=fun tm m a w h1 h2=>by
   rcases h1 with h1 | ⟨live,ids,caps,h1⟩
   ·exact⟨.norm,tm,m,rfl,h1,h2⟩
   ·exact⟨.norm,_,_,rfl,h1,h2.head hl live ids caps⟩
  cases draw with
  | false =>
   refine wp_region ?_
   rw [List.range_eq_range',← Array.length_toList]
   cases hg:w9r ops.toList with
   | true =>
    simp only [T2,hg] at hk
    exact R9 (P:=P) hT hD (Q:=z8x X pins K) ops.toList 0 tm m a w rfl ha hk joined
   | false =>
    simp only [T2,hg] at hk
    exact R9 (P:=P) hT hD (Q:=z8x X pins K) ops.toList 0 tm m a w rfl ha hk (fun tm m a w h1 h2=>⟨.norm,tm,m,rfl,h1,h2⟩)
  | true =>
   have hk':z1c T X.G D ops tm m (z3k B (K .norm)):=hk
   unfold z1c at hk'
   obtain⟨hns,hk'⟩:=hk'
   rcases hk' with hk' | ⟨t,wr,hto,htd,hk'⟩
   ·split at hk'
    ·rename_i ord hord
     obtain⟨wr,hk'⟩:=hk'
     obtain⟨S,pl,hs,h,hpin⟩:=ha
     obtain⟨hst,hkp⟩:=hs.draw (w.drawn + 1)
     exact wp_region_any hm (z0i hT hD (fun tm m a w h1 h2=>joined tm m a w h1 h2) _ _ tm m a _ ⟨S,pl,hst,h.mono hkp,fun p hp=>(hpin p hp).mono hkp⟩ (z1n _ _ ord tm m hord (ClosedL.none _ _) hk'))
    ·exact hk'.elim
   ·obtain⟨S,pl,hs,h,hpin⟩:=ha
    obtain⟨hst,hkp⟩:=hs.draw (w.drawn + 1)
    exact wp_region_any hm (z0i hT hD (fun tm m a w h1 h2=>joined tm m a w h1 h2) _ _ tm m a _ ⟨S,pl,hst,h.mono hkp,fun p hp=>(hpin p hp).mono hkp⟩ (V2 t wr _ _ tm m hto htd (ClosedL.none _ _) hk'))
 | seq x y ihx ihy =>
  intro tm m K a w ha hk
  refine wp_seq (wp_mono (ihx tm m _ a w ha hk) ?_)
  rintro e a w ⟨ex,tm,m,he,hk,ha⟩
  cases e<;>simp [w8g] at he<;>subst he
  ·exact ihy tm m K a w ha hk
  ·exact⟨_,tm,m,rfl,hk,ha⟩
  ·exact⟨_,tm,m,rfl,hk,ha⟩
 | cond c x y ihx ihy =>
  intro tm m K a w ha hk
  obtain⟨S,pl,hs,h,hpin⟩:=ha
  obtain⟨b,hb,h1,h2⟩:=z1e (E5 hs h 0 c) hk
  have post:∀ e a w,z8x X pins (fun e tm m=>match e with | .norm=>z3k B (K .norm) tm m | .ret=>K .ret tm m | .ex i=>K (.ex i) tm m) e a w→z8x X pins K e a w:=by
   rintro e a w ⟨ex,tm,m,he,hk,ha⟩
   cases ex with
   | norm =>
    rcases hk with hk | ⟨live,ids,caps,hk⟩
    ·exact⟨_,tm,m,he,hk,ha⟩
    ·exact⟨_,_,_,he,hk,ha.head hl live ids caps⟩
   | ret=>exact⟨_,tm,m,he,hk,ha⟩
   | ex i=>exact⟨_,tm,m,he,hk,ha⟩
  exact wp_cond_split hb (fun e=>wp_mono (ihx tm m _ a w ⟨S,pl,hs,h,hpin⟩ (h1 e)) post) (fun e=>wp_mono (ihy tm m _ a w ⟨S,pl,hs,h,hpin⟩ (h2 e)) post)
 | block id c ih =>
  intro tm m K a w ha hk
  refine wp_block (wp_mono (ih tm m _ a w ha hk) ?_)
  rintro e a w ⟨ex,tm,m,he,hk,ha⟩
  cases e<;>simp [w8g] at he<;>subst he
  ·exact⟨_,tm,m,rfl,hk,ha⟩
  ·rename_i i
   simp only [Exit.inBlock]
   by_cases hi:i=id
   ·simp only [hi,if_true] at hk ⊢;exact⟨_,tm,m,rfl,hk,ha⟩
   ·simp only [hi,if_false] at hk ⊢;exact⟨_,tm,m,rfl,hk,ha⟩
  ·exact⟨_,tm,m,rfl,hk,ha⟩
 | loop c ih =>
  intro tm m K a w ha hk
  obtain⟨live,ids,caps,n,hk⟩:=hk
  refine wp_loop_rounds n ?_
  induction n generalizing tm m a w with
  | zero=>exact hk.elim
  | succ n ihn =>
   rw [rounds_succ]
   refine wp_mono (ih _ _ _ a w (ha.head hl live ids caps) hk) ?_
   rintro e a w ⟨ex,tm,m,he,hk,ha⟩
   cases e<;>simp [w8g] at he<;>subst he
   ·exact ihn tm m a w ha hk
   ·exact⟨_,tm,m,rfl,hk,ha⟩
   ·exact⟨_,tm,m,rfl,hk,ha⟩
 | exit id=>intro tm m K a w ha hk;exact wp_exit ⟨.ex id,tm,m,rfl,hk,ha⟩
 | ret=>intro tm m K a w ha hk;exact wp_ret ⟨.ret,tm,m,rfl,hk,ha⟩
 | _=>intro tm m K a w ha hk;exact hk.elim
end
end Go.Proofs.YtioiigabeoaneaaGreat.V
