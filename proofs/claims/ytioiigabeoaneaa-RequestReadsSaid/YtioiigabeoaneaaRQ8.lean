/- A part of the proof. Conditions: none. -/
import Derived.Test.YtioiigabeoaneaaRQ7
import Derived.Test.YtioiigabeoaneaaProg
import Derived.Test.YtioiigabeoaneaaRQ4
import Derived.KernelRfl
import Derived.ProofKit
import Derived.WalkKit
import Derived.LoopTactic
import Derived.Lib.Hide
import Derived.Test.YtioiigabeoaneaaRQ5
namespace Go.Proofs.Ytioiigabeoaneaa
open Go V
set_option maxRecDepth 100000
set_option maxHeartbeats 4000000
theorem w1u (K:Bool→Prop):p4 (ρ:=Prop) False 30000 K=K true:=by kernel_rfl
theorem k0a {ρ:Type} (fail:ρ) (fu:Nat) (hfu:250≤fu) (b:List UInt8) (hb:b.length≤4000):∃ (q:Rq) (e:Int),(∀ K,p6 fail fu K (encB b)=rqOut K q e)∧(∀ K,p7 fail fu K (encB b)=rqOut K q e) ∧
  (Dc.mk q.d.k q.d.pa q.d.ct q.nam q.d.fam q.d.ty q.d.val q.d.cs).sz≤20000∧q.t.sz≤20000∧q.ty.sz≤20000:=by
 have h1:=fun K=>k1o (ρ:=ρ) fail fu hfu K b (by omega)
 have h2:=fun K=>w9x (ρ:=ρ) fail fu hfu K b hb
 have z:(Dc.mk rq0.d.k rq0.d.pa rq0.d.ct rq0.nam rq0.d.fam rq0.d.ty rq0.d.val rq0.d.cs).sz≤20000∧rq0.t.sz≤20000∧rq0.ty.sz≤20000:=⟨by decide,by decide,by decide⟩
 cases hx:rdRq b with
 | error e=>rw [hx] at h1 h2;exact⟨rq0,e,h1,h2,z⟩
 | ok x =>
  obtain⟨q,r⟩:=x
  rw [hx] at h1 h2
  cases r with
  | nil=>obtain⟨s1,s2,s3⟩:=w9y hx;exact⟨q,0,h1,h2,by omega,by omega,by omega⟩
  | cons c r=>exact⟨rq0,5,h1,h2,z⟩
theorem z7h (b:List UInt8):p3 (ρ:=Prop) False 30000 (fun y=>y=true) (encB b):=by
 rw [p3,w1u,Bool.not_true,cond_false,z0h]
 by_cases h0:4000 < b.length
 ·rw [gtrT (by omega),cond_true]
 obtain⟨q,e,h1,h2,s1,s2,s3⟩:=k0a (ρ:=Prop) False 30000 (by omega) b (by omega)
 rw [gtrF (by omega),cond_false,k2i _ _ (by omega) _ b (by omega),gd_y (by rw [z3o];omega),gd_y (w7l _),w7m,h1]
 dsimp only [rqOut]
 rw [gd_y (z8k _ (fun a _=>Lv.safe a)),gd_y (Tm.safes _),gd_y (z8k _ (fun a _=>Lv.safe a)),gd_y (Tm.safes _),gd_y (w6e _),gd_y (z8k _ (fun a _=>Lv.safe a)),gd_y (Tm.safes _),gd_y (z8k _ (fun a _=>Lv.safe a)),gd_y (Tm.safes _),h2]
 dsimp only [rqOut]
 rw [eqlT rfl,cond_true,gd_y (by rw [z3o];omega),gd_y (w7l _),gd_y (by rw [z3o]),gd_y (by rw [z3o];omega),w7n,k2w _ _ (by omega) _ b (by omega),p3_2,gd_y (by rw [z3o];omega),cond_true,k1r _ _ _ q s1 s2 s3 (by omega),p3_1]
def T:Tab:=[
 TI.no,
 TI.no,
 ⟨false,1,[.v (.int .i64 0)],[],(.int .i64),[]⟩,
 ⟨false,1,[.v (.int .i64 0)],[],(.int .i64),[]⟩,
 ⟨false,1,[.v (.bool false)],[],.bool,[]⟩,
 ⟨false,1,[.v (.int .u8 0)],[],(.int .u8),[]⟩,
 ⟨false,1,[.v (.int .u8 0)],[],(.int .u8),[]⟩,
 ⟨true,4,[.v (.int .i64 0),.v (.int .i64 0),.v (.bool false),.v (.int .u8 0)],[],(.st [(0,1,false),(1,1,false),(2,1,false),(3,1,false)]),[]⟩,
 ⟨true,4,[.v (.int .i64 0),.v (.int .i64 0),.v (.bool false),.v (.int .u8 0)],[],(.st [(0,1,false),(1,1,false),(2,1,false),(3,1,false)]),[]⟩,
 ⟨false,1,[.v (.string ⟨#[]⟩)],[],.str,[]⟩,
 ⟨false,1,[.v (.string ⟨#[]⟩)],[],.str,[]⟩,
 ⟨false,1,[.v (.string ⟨#[]⟩)],[],.str,[]⟩,
 ⟨false,1,[.v (.int .u64 0)],[],(.int .u64),[]⟩,
 ⟨true,2,[.v (.string ⟨#[]⟩),.v (.int .u64 0)],[],(.st [(0,1,false),(1,1,false)]),[]⟩,
 ⟨true,2,[.v (.string ⟨#[]⟩),.v (.int .u64 0)],[],(.st [(0,1,false),(1,1,false)]),[]⟩,
 ⟨false,1,[.v (.pointer none)],[],(.pt 4 true),[]⟩,
 ⟨false,1,[.v (.pointer none)],[],.sc,[]⟩,
 ⟨false,1,[.v (.pointer none)],[],(.pt 11 true),[]⟩,
 ⟨true,1,[.v (.pointer none)],[],(.st [(0,1,false)]),[]⟩,
 ⟨true,1,[.v (.pointer none)],[],(.st [(0,1,false)]),[]⟩,
 TI.no,
 ⟨false,1,[.v (.int .i32 0)],[],(.int .i32),[]⟩,
 ⟨false,1,[.sl 1 [] (some [])],[.v (.int .u8 0)],(.sl 1 false 1 true),[]⟩,
 TI.no,
 TI.no,
 ⟨false,1,[.v (.int .u64 0)],[],(.int .u64),[]⟩,
 ⟨true,2,[.v (.int .u64 0),.v (.int .u64 0)],[],(.st [(0,1,false),(1,1,false)]),[]⟩,
 ⟨true,2,[.v (.int .u64 0),.v (.int .u64 0)],[],(.st [(0,1,false),(1,1,false)]),[1,1]⟩,
 ⟨false,1,[.sl 3 [] (some [])],[.v (.int .i64 0),.v (.int .i64 0),.sl 3 [] (some [])],(.sl 3 true 40 false),[]⟩,
 ⟨false,1,[.sl 5 [] (some [])],[.v (.int .i64 0),.v (.int .i64 0),.v (.string ⟨#[]⟩),.sl 3 [] (some []),.sl 5 [] (some [])],(.sl 5 true 80 false),[]⟩,
 ⟨true,5,[.v (.int .i64 0),.v (.int .i64 0),.v (.string ⟨#[]⟩),.sl 3 [] (some []),.sl 5 [] (some [])],[],(.st [(0,1,false),(1,1,false),(2,1,false),(3,1,false),(4,1,false)]),[]⟩,
 ⟨true,5,[.v (.int .i64 0),.v (.int .i64 0),.v (.string ⟨#[]⟩),.sl 3 [] (some []),.sl 5 [] (some [])],[],(.st [(0,1,false),(1,1,false),(2,1,false),(3,1,false),(4,1,false)]),[]⟩,
 ⟨false,1,[.sl 6 [] (some [])],[.v (.string ⟨#[]⟩),.v (.int .i64 0),.v (.int .i64 0),.v (.string ⟨#[]⟩),.sl 3 [] (some []),.sl 5 [] (some [])],(.sl 6 true 96 false),[]⟩,
 ⟨true,16,[.v (.int .i64 0),.v (.int .i64 0),.v (.int .i64 0),.v (.string ⟨#[]⟩),.v (.string ⟨#[]⟩),.v (.int .i64 0),.v (.int .i64 0),.v (.string ⟨#[]⟩),.sl 3 [] (some []),.sl 5 [] (some []),.v (.int .i64 0),.v (.int .i64 0),.v (.string ⟨#[]⟩),.sl 3 [] (some []),.sl 5 [] (some []),.sl 6 [] (some [])],[],(.st [(0,1,false),(1,1,false),(2,1,false),(3,1,false),(4,1,false),(5,5,true),(10,5,true),(15,1,false)]),[]⟩,
 ⟨true,16,[.v (.int .i64 0),.v (.int .i64 0),.v (.int .i64 0),.v (.string ⟨#[]⟩),.v (.string ⟨#[]⟩),.v (.int .i64 0),.v (.int .i64 0),.v (.string ⟨#[]⟩),.sl 3 [] (some []),.sl 5 [] (some []),.v (.int .i64 0),.v (.int .i64 0),.v (.string ⟨#[]⟩),.sl 3 [] (some []),.sl 5 [] (some []),.sl 6 [] (some [])],[],(.st [(0,1,false),(1,1,false),(2,1,false),(3,1,false),(4,1,false),(5,5,true),(10,5,true),(15,1,false)]),[]⟩,
 ⟨true,34,[.v (.int .i64 0),.v (.int .i64 0),.v (.int .i64 0),.v (.int .i64 0),.v (.int .u64 0),.v (.int .u64 0),.v (.int .u64 0),.v (.int .u64 0),.v (.int .i64 0),.v (.int .i64 0),.v (.int .i64 0),.v (.string ⟨#[]⟩),.v (.string ⟨#[]⟩),.v (.int .i64 0),.v (.int .i64 0),.v (.string ⟨#[]⟩),.sl 3 [] (some []),.sl 5 [] (some []),.v (.int .i64 0),.v (.int .i64 0),.v (.string ⟨#[]⟩),.sl 3 [] (some []),.sl 5 [] (some []),.sl 6 [] (some []),.v (.int .i64 0),.v (.int .i64 0),.v (.string ⟨#[]⟩),.sl 3 [] (some []),.sl 5 [] (some []),.v (.int .i64 0),.v (.int .i64 0),.v (.string ⟨#[]⟩),.sl 3 [] (some []),.sl 5 [] (some [])],[],(.st [(0,1,false),(1,1,false),(2,1,false),(3,1,false),(4,2,true),(6,2,true),(8,16,true),(24,5,true),(29,5,true)]),[]⟩,
 ⟨true,34,[.v (.int .i64 0),.v (.int .i64 0),.v (.int .i64 0),.v (.int .i64 0),.v (.int .u64 0),.v (.int .u64 0),.v (.int .u64 0),.v (.int .u64 0),.v (.int .i64 0),.v (.int .i64 0),.v (.int .i64 0),.v (.string ⟨#[]⟩),.v (.string ⟨#[]⟩),.v (.int .i64 0),.v (.int .i64 0),.v (.string ⟨#[]⟩),.sl 3 [] (some []),.sl 5 [] (some []),.v (.int .i64 0),.v (.int .i64 0),.v (.string ⟨#[]⟩),.sl 3 [] (some []),.sl 5 [] (some []),.sl 6 [] (some []),.v (.int .i64 0),.v (.int .i64 0),.v (.string ⟨#[]⟩),.sl 3 [] (some []),.sl 5 [] (some []),.v (.int .i64 0),.v (.int .i64 0),.v (.string ⟨#[]⟩),.sl 3 [] (some []),.sl 5 [] (some [])],[],(.st [(0,1,false),(1,1,false),(2,1,false),(3,1,false),(4,2,true),(6,2,true),(8,16,true),(24,5,true),(29,5,true)]),[]⟩,
 ⟨false,1,[.v (.int .i64 0)],[],(.int .i64),[]⟩,
 TI.no,
 TI.no,
 TI.no,
 TI.no,
 TI.no,
 TI.no,
 TI.no,
 TI.no,
 TI.no,
 ⟨false,1,[.v (.pointer none)],[],(.pt 2 true),[]⟩,
 ⟨true,2,[.sl 1 [] (some []),.v (.int .i64 0)],[],(.st [(0,1,false),(1,1,false)]),[]⟩,
 ⟨true,2,[.sl 1 [] (some []),.v (.int .i64 0)],[],(.st [(0,1,false),(1,1,false)]),[]⟩,
 ⟨true,2,[.sl 1 [] (some []),.v (.int .i64 0)],[],(.st [(0,2,true)]),[]⟩,
 ⟨true,2,[.sl 1 [] (some []),.v (.int .i64 0)],[],(.st [(0,2,true)]),[]⟩,
 TI.no,
 ⟨true,8,[.v (.bool false),.v (.bool false),.v (.bool false),.v (.bool false),.v (.bool false),.v (.bool false),.v (.bool false),.v (.bool false)],[],(.st [(0,1,false),(1,1,false),(2,1,false),(3,1,false),(4,1,false),(5,1,false),(6,1,false),(7,1,false)]),[]⟩,
 ⟨true,8,[.v (.bool false),.v (.bool false),.v (.bool false),.v (.bool false),.v (.bool false),.v (.bool false),.v (.bool false),.v (.bool false)],[],(.st [(0,1,false),(1,1,false),(2,1,false),(3,1,false),(4,1,false),(5,1,false),(6,1,false),(7,1,false)]),[]⟩,
 TI.no,
 TI.no,
 TI.no,
 TI.no,
 TI.no,
 TI.no,
 TI.no,
 TI.no,
 TI.no,
 TI.no,
 TI.no,
 TI.no,
 ⟨false,1,[.v (.pointer none)],[],(.pt 3 true),[]⟩,
 ⟨true,3,[.sl 1 [] (some []),.v (.int .i64 0),.v (.int .i64 0)],[],(.st [(0,1,false),(1,1,false),(2,1,false)]),[]⟩,
 ⟨true,3,[.sl 1 [] (some []),.v (.int .i64 0),.v (.int .i64 0)],[],(.st [(0,1,false),(1,1,false),(2,1,false)]),[]⟩,
 TI.no,
 TI.no,
 TI.no,
 TI.no,
 ⟨false,1,[.v (.pointer none)],[],(.pt 1 true),[]⟩,
 TI.no,
 TI.no,
 TI.no,
 ⟨true,1,[.sl 1 [] (some [])],[],(.st [(0,1,false)]),[]⟩,
 ⟨true,1,[.sl 1 [] (some [])],[],(.st [(0,1,false)]),[]⟩,
 TI.no,
 TI.no,
 TI.no,
 TI.no,
 TI.no,
 ⟨false,1,[.v (.pointer none)],[],(.pt 2 true),[]⟩,
 TI.no,
 ⟨true,6,[.v (.string ⟨#[]⟩),.v (.int .i64 0),.v (.int .i64 0),.v (.string ⟨#[]⟩),.sl 3 [] (some []),.sl 5 [] (some [])],[],(.st [(0,1,false),(1,5,true)]),[]⟩,
 ⟨true,6,[.v (.string ⟨#[]⟩),.v (.int .i64 0),.v (.int .i64 0),.v (.string ⟨#[]⟩),.sl 3 [] (some []),.sl 5 [] (some [])],[],(.st [(0,1,false),(1,5,true)]),[]⟩,
 TI.no,
 ⟨false,1,[.v (.pointer none)],[],(.pt 1 false),[]⟩,
 TI.no,
 TI.no,
 TI.no,
 TI.no,
 TI.no,
 TI.no,
 ⟨true,3,[.v (.int .i64 0),.v (.int .i64 0),.sl 3 [] (some [])],[],(.st [(0,1,false),(1,1,false),(2,1,false)]),[]⟩,
 ⟨true,3,[.v (.int .i64 0),.v (.int .i64 0),.sl 3 [] (some [])],[],(.st [(0,1,false),(1,1,false),(2,1,false)]),[]⟩,
 ⟨false,1,[.sl 1 [] (some [])],[.v (.int .i64 0)],(.sl 1 false 8 false),[]⟩,
 TI.no,
 TI.no,
 TI.no,
 TI.no,
 TI.no,
 TI.no,
 TI.no,
 TI.no,
 TI.no,
 TI.no,
 ⟨false,1,[.v (.int .u64 0)],[],(.int .u64),[]⟩,
 TI.no,
 TI.no,
 TI.no,
 TI.no,
 TI.no,
 TI.no,
 ⟨true,4,[.v (.pointer none),.v (.pointer none),.v (.pointer none),.v (.string ⟨#[]⟩)],[],(.st [(0,1,false),(1,1,false),(2,1,false),(3,1,false)]),[]⟩,
 ⟨true,4,[.v (.pointer none),.v (.pointer none),.v (.pointer none),.v (.string ⟨#[]⟩)],[],(.st [(0,1,false),(1,1,false),(2,1,false),(3,1,false)]),[]⟩,
 TI.no,
 TI.no,
 TI.no,
 ⟨false,1,[.v (.int .u32 0)],[],(.int .u32),[]⟩,
 ⟨false,1,[.v (.int .u8 0)],[],(.int .u8),[]⟩,
 ⟨false,1,[.v (.int .u8 0)],[],(.int .u8),[]⟩,
 TI.no,
 ⟨false,1,[.v (.pointer none)],[],(.pt 1 false),[]⟩,
 ⟨false,1,[.v (.int .i32 0)],[],(.int .i32),[]⟩,
 ⟨false,1,[.v (.int .i32 0)],[],(.int .i32),[]⟩,
 ⟨true,11,[.v (.int .u64 0),.v (.int .u64 0),.v (.int .u32 0),.v (.int .u8 0),.v (.int .u8 0),.v (.int .u8 0),.v (.int .u8 0),.v .nilFunc,.v (.pointer none),.v (.int .i32 0),.v (.int .i32 0)],[],(.st [(0,1,false),(1,1,false),(2,1,false),(3,1,false),(4,1,false),(5,1,false),(6,1,false),(7,1,false),(8,1,false),(9,1,false),(10,1,false)]),[]⟩,
 ⟨true,11,[.v (.int .u64 0),.v (.int .u64 0),.v (.int .u32 0),.v (.int .u8 0),.v (.int .u8 0),.v (.int .u8 0),.v (.int .u8 0),.v .nilFunc,.v (.pointer none),.v (.int .i32 0),.v (.int .i32 0)],[],(.st [(0,1,false),(1,1,false),(2,1,false),(3,1,false),(4,1,false),(5,1,false),(6,1,false),(7,1,false),(8,1,false),(9,1,false),(10,1,false)]),[]⟩,
 ⟨false,1,[.v (.pointer none)],[],.sc,[]⟩
]
def tiOf (t:Nat):TI:=T.at t
theorem tiA:tiOf=fun t=>T.at t:=rfl
theorem tabOk:TabOk Try.prog T:=TabOk.of_check (by kernel_rfl)
theorem mixed:Try.prog.follows .mixedOrders=true:=by kernel_rfl
def G0:Glob:=fun _=>none
open Go.RowKit
set_option maxRecDepth 100000
def Spt (b capn:Nat) (w wr:World):Prop:=Ext (fun b' _=>b'=b) w wr∧(∀ k,k < capn→∃ v,wr.cell? ⟨b,k,none⟩=some v)∧(∀ k,k < capn→wr.frozen? ⟨b,k,none⟩=false)
theorem w9u {b capn i:Nat} {w wr:World} (hx:Ext (fun b' _=>b'=b) w wr) (hcell:∀ k,k < capn→∃ v,wr.cell? ⟨b,k,none⟩=some v) (hfr:∀ k,k < capn→wr.frozen? ⟨b,k,none⟩=false) (hi:i < capn) :
  Spt b capn w (wr.setCell ⟨b,i,none⟩ (.int .u8 90)):=by
 have h1:Ext (fun b' _=>b'=b) wr (wr.setCell ⟨b,i,none⟩ (.int .u8 90)):=(Ext.setCells wr b i [.int .u8 90]).mono fun x o h=>h.1
 refine⟨hx.trans h1 fun x o h=>.inl h,fun k hk=>?_,fun k hk=>?_⟩
 ·by_cases e:k=i
  ·subst e
   obtain⟨v,hv⟩:=hcell k hk
   exact⟨_,World.cell?_setCell_same wr _ _ hv⟩
  ·obtain⟨v,hv⟩:=hcell k hk
   exact⟨v,(z1e b i [.int .u8 90] wr b k (fun _=>by simp;omega)).trans hv⟩
 ·rw [World.frozen?_setCell];exact hfr k hk
theorem w7s (b n capn:Nat) (w:World) (hn:n≤capn) (hc:capn≤9223372036854775807) (hw:Spt b capn w w) :
  Calls Try.prog 9 #[.slice (some ⟨b,0,none⟩) n capn] w fun e w'=>e=.returned (.tuple #[])∧Spt b capn w w':=by
 go_enter Try.func9,Try.ntmps9
 go_wp2
 go_loopw [3] (fun si wr=>∃ (i:Nat),i≤capn∧si=.int .i64 i∧Spt b capn w wr)
  (fun si _=>capn - (intOf si).toNat)
 case atStart=>exact⟨0,Nat.zero_le _,rfl,hw⟩
 case round =>
  obtain⟨i,hil,rfl,hx,hcell,hfr⟩:=hrel
  by_cases hlt:i < capn
  ·obtain⟨v,hv⟩:=hcell i hlt
   have hf:=hfr i hlt
   have hcell':=Lib.hid hcell
   have hfr':=Lib.hid hfr
   clear hcell hfr
   go_wp2
   refine⟨⟨i + 1,hlt,by push_cast;rfl,w9u hx hcell'.out hfr'.out hlt⟩,?_⟩
   simp [intOf];omega
  ·have hcell':=Lib.hid hcell
   have hfr':=Lib.hid hfr
   clear hcell hfr
   go_wp2
   refine⟨rfl,.tuple #[],?_,rfl,hx,hcell'.out,hfr'.out⟩
   unfold results;rw [Try.results9];simp [go_sem]
theorem w7r (es:EL)(cap:Option Nat)(n:Nat):Den Try.prog G0 9 [.arr 1 es cap false n] (fun r bs=>∃ o0:OV,r=.tup []∧bs=[o0]):=by
 refine⟨⟨_,Try.func9,by kernel_rfl,by kernel_rfl⟩,fun S F w us hS hF hG ho=>?_⟩
 cases ho with | cons _ u _ us F1 F2 h1 h2 hd =>
 cases h2
 cases h1 with | arr _ _ _ _ _ b capn h =>
 obtain⟨_,⟨ht,hb⟩,⟨e,h3⟩,h4,_,_,_,h8⟩:=h
 have hbig:=hb rfl _ _ h3
 have hcell:∀ k,k < capn→∃ v,w.cell? ⟨b,k,none⟩=some v:=fun k hk=>by
  unfold World.shape? at h3
  unfold World.cell?
  cases hh:w.heap[b]? with
  | none=>rw [hh] at h3;simp at h3
  | some ob =>
   rw [hh] at h3
   cases ob with
   | cells cc e' fr =>
    simp only [Option.some.injEq,Prod.mk.injEq] at h3
    have:k < cc.size:=by rw [h3.2];omega
    exact⟨cc[k],by simp [Array.getElem?_eq_getElem this]⟩
   | _=>simp at h3
 have hfr:∀ k,k < capn→w.frozen? ⟨b,k,none⟩=false:=fun k hk=>by
  cases hz:w.frozen? ⟨b,k,none⟩ with
  | false=>rfl
  | true=>have:=ht _ hz _ _ h3;omega
 refine (w7s b n capn w (by omega) (by omega) ⟨Ext.refl _ _,hcell,hfr⟩).mono ?_
 rintro e w' ⟨rfl,hx,_,_⟩
 refine⟨_,.tup [],[.tup []],S,_,_,rfl,⟨_,rfl,rfl⟩,.tup [] [] _ .nil,.skip _ _ _ _ _ _ _ (by simp) .nil,⟨hx.mono fun x o q=>.inl ⟨q,by simp⟩,fun _ _ q=>q,fun x o q=>⟨Nat.lt_of_lt_of_le (hS x o q) hx.size,.inl q⟩,fun _ _ q=>q.elim,fun _ _ q=>(q.elim id id).elim⟩⟩
theorem d_p14 (fu:Nat){K0:Bool→Bool→Bool→Bool→Bool→Bool→Bool→Bool→Bool→Prop}(L:EL→Nat)(hN:L=List.length){x0:Int}(h:p14 False fu K0 x0):Den Try.prog G0 14 [.c (.v (.int .i64 x0))] (fun r bs=>(∃ (y0 y1 y2 y3 y4 y5 y6 y7 y8:Bool) (o0:OV),(r=.tup [.agg [.c (.v (.bool y0)),.c (.v (.bool y1)),.c (.v (.bool y2)),.c (.v (.bool y3)),.c (.v (.bool y4)),.c (.v (.bool y5)),.c (.v (.bool y6)),.c (.v (.bool y7))],.c (.v (.bool y8))]∧bs=[o0])∧K0 y0 y1 y2 y3 y4 y5 y6 y7 y8)):=by
 obtain⟨O,hO⟩:∃ O,O=std 0 T G0 (Den Try.prog G0):=⟨_,rfl⟩
 have hLO:L=O.len:=by rw [hN,hO];rfl
 subst hLO
 refine den_h hO tiA mixed tabOk (fn:=Try.f14) (sh:=true) (by kernel_rfl) rfl rfl rfl rfl ?_
 intro Q b
 unfold p14 at h
 conv=>cbv
 refine br_h hO h (by subst hO;rfl) (fun k1 h=>?_) (fun k1 h=>?_)
 conv=>cbv
 rw [b]
 exact⟨true,false,false,false,false,false,false,false,true,_,⟨(by subst hO;rfl),(by subst hO;rfl)⟩,h⟩
 conv=>cbv
 refine z0e hO tiA h (by subst hO;rfl) [2,4,8] [3000] [] (fun tm m=>∃ (j1:Bool),((tm=frame 0 44 [(2,.p 3000 0 0),(4,.c (.v (.int .i64 x0))),(8,.c (.v (.bool j1)))]∧m=⟨[(3000,.blk 0 [.c (.v (.bool false)),.c (.v (.bool false)),.c (.v (.bool false)),.c (.v (.bool false)),.c (.v (.bool false)),.c (.v (.bool false)),.c (.v (.bool false)),.c (.v (.bool false))])],1⟩))∧p14_5 False fu K0 x0 j1) (fun k15 h L hL_5=>?_) (fun k15 h L hL_5=>?_) ?_
 conv=>cbv
 exact hL_5 _ _ ⟨(z0a .eql x0 2),⟨(by (conv=>lhs;cbv)<;>(subst hO;rfl)),(by (conv=>lhs;cbv)<;>(subst hO;rfl))⟩,h⟩
 conv=>cbv
 refine z0e hO tiA h (by subst hO;rfl) [2,4,8] [3000] [] (fun tm m=>∃ (j6:Bool),((tm=frame 0 44 [(2,.p 3000 0 0),(4,.c (.v (.int .i64 x0))),(8,.c (.v (.bool j6)))]∧m=⟨[(3000,.blk 0 [.c (.v (.bool false)),.c (.v (.bool false)),.c (.v (.bool false)),.c (.v (.bool false)),.c (.v (.bool false)),.c (.v (.bool false)),.c (.v (.bool false)),.c (.v (.bool false))])],1⟩))∧p14_6 False fu K0 x0 j6) (fun k16 h L hL_6=>?_) (fun k16 h L hL_6=>?_) ?_
 conv=>cbv
 exact hL_6 _ _ ⟨(z0a .eql x0 11),⟨(by (conv=>lhs;cbv)<;>(subst hO;rfl)),(by (conv=>lhs;cbv)<;>(subst hO;rfl))⟩,h⟩
 conv=>cbv
 refine z0e hO tiA h (by subst hO;rfl) [2,4,8] [3000] [] (fun tm m=>∃ (j7:Bool),((tm=frame 0 44 [(2,.p 3000 0 0),(4,.c (.v (.int .i64 x0))),(8,.c (.v (.bool j7)))]∧m=⟨[(3000,.blk 0 [.c (.v (.bool false)),.c (.v (.bool false)),.c (.v (.bool false)),.c (.v (.bool false)),.c (.v (.bool false)),.c (.v (.bool false)),.c (.v (.bool false)),.c (.v (.bool false))])],1⟩))∧p14_7 False fu K0 x0 j7) (fun k17 h L hL_7=>?_) (fun k17 h L hL_7=>?_) ?_
 conv=>cbv
 exact hL_7 _ _ ⟨(z0a .eql x0 12),⟨(by (conv=>lhs;cbv)<;>(subst hO;rfl)),(by (conv=>lhs;cbv)<;>(subst hO;rfl))⟩,h⟩
 conv=>cbv
 refine z0e hO tiA h (by subst hO;rfl) [2,4,8] [3000] [] (fun tm m=>∃ (j8:Bool),((tm=frame 0 44 [(2,.p 3000 0 0),(4,.c (.v (.int .i64 x0))),(8,.c (.v (.bool j8)))]∧m=⟨[(3000,.blk 0 [.c (.v (.bool false)),.c (.v (.bool false)),.c (.v (.bool false)),.c (.v (.bool false)),.c (.v (.bool false)),.c (.v (.bool false)),.c (.v (.bool false)),.c (.v (.bool false))])],1⟩))∧p14_8 False fu K0 x0 j8) (fun k18 h L hL_8=>?_) (fun k18 h L hL_8=>?_) ?_
 conv=>cbv
 exact hL_8 _ _ ⟨(z0a .eql x0 13),⟨(by (conv=>lhs;cbv)<;>(subst hO;rfl)),(by (conv=>lhs;cbv)<;>(subst hO;rfl))⟩,h⟩
 conv=>cbv
 exact hL_8 _ _ ⟨(z0a .eql x0 14),⟨(by (conv=>lhs;cbv)<;>(subst hO;rfl)),(by (conv=>lhs;cbv)<;>(subst hO;rfl))⟩,h⟩
 rintro tm m ⟨j8,hs,h⟩
 unfold p14_8 at h
 obtain⟨rfl,rfl⟩:=hs
 conv=>cbv
 exact hL_7 _ _ ⟨j8,⟨(by (conv=>lhs;cbv)<;>(subst hO;rfl)),(by (conv=>lhs;cbv)<;>(subst hO;rfl))⟩,h⟩
 rintro tm m ⟨j7,hs,h⟩
 unfold p14_7 at h
 obtain⟨rfl,rfl⟩:=hs
 conv=>cbv
 exact hL_6 _ _ ⟨j7,⟨(by (conv=>lhs;cbv)<;>(subst hO;rfl)),(by (conv=>lhs;cbv)<;>(subst hO;rfl))⟩,h⟩
 rintro tm m ⟨j6,hs,h⟩
 unfold p14_6 at h
 obtain⟨rfl,rfl⟩:=hs
 conv=>cbv
 exact hL_5 _ _ ⟨j6,⟨(by (conv=>lhs;cbv)<;>(subst hO;rfl)),(by (conv=>lhs;cbv)<;>(subst hO;rfl))⟩,h⟩
 rintro tm m ⟨j1,hs,h⟩
 unfold p14_5 at h
 obtain⟨rfl,rfl⟩:=hs
 conv=>cbv
 refine br_h hO h (by subst hO;rfl) (fun k2 h=>?_) (fun k2 h=>?_)
 conv=>cbv
 rw [b]
 exact⟨false,true,false,false,false,false,false,false,true,_,⟨(by subst hO;rfl),(by subst hO;rfl)⟩,h⟩
 conv=>cbv
 refine z0e hO tiA h (by subst hO;rfl) [2,4,15] [3000] [] (fun tm m=>∃ (j2:Bool),((tm=frame 0 44 [(2,.p 3000 0 0),(4,.c (.v (.int .i64 x0))),(15,.c (.v (.bool j2)))]∧m=⟨[(3000,.blk 0 [.c (.v (.bool false)),.c (.v (.bool false)),.c (.v (.bool false)),.c (.v (.bool false)),.c (.v (.bool false)),.c (.v (.bool false)),.c (.v (.bool false)),.c (.v (.bool false))])],1⟩))∧p14_3 False fu K0 x0 j2) (fun k13 h L hL_3=>?_) (fun k13 h L hL_3=>?_) ?_
 conv=>cbv
 exact hL_3 _ _ ⟨(z0a .eql x0 3),⟨(by (conv=>lhs;cbv)<;>(subst hO;rfl)),(by (conv=>lhs;cbv)<;>(subst hO;rfl))⟩,h⟩
 conv=>cbv
 refine z0e hO tiA h (by subst hO;rfl) [2,4,15] [3000] [] (fun tm m=>∃ (j5:Bool),((tm=frame 0 44 [(2,.p 3000 0 0),(4,.c (.v (.int .i64 x0))),(15,.c (.v (.bool j5)))]∧m=⟨[(3000,.blk 0 [.c (.v (.bool false)),.c (.v (.bool false)),.c (.v (.bool false)),.c (.v (.bool false)),.c (.v (.bool false)),.c (.v (.bool false)),.c (.v (.bool false)),.c (.v (.bool false))])],1⟩))∧p14_4 False fu K0 x0 j5) (fun k14 h L hL_4=>?_) (fun k14 h L hL_4=>?_) ?_
 conv=>cbv
 exact hL_4 _ _ ⟨(z0a .eql x0 4),⟨(by (conv=>lhs;cbv)<;>(subst hO;rfl)),(by (conv=>lhs;cbv)<;>(subst hO;rfl))⟩,h⟩
 conv=>cbv
 exact hL_4 _ _ ⟨(z0a .eql x0 5),⟨(by (conv=>lhs;cbv)<;>(subst hO;rfl)),(by (conv=>lhs;cbv)<;>(subst hO;rfl))⟩,h⟩
 rintro tm m ⟨j5,hs,h⟩
 unfold p14_4 at h
 obtain⟨rfl,rfl⟩:=hs
 conv=>cbv
 exact hL_3 _ _ ⟨j5,⟨(by (conv=>lhs;cbv)<;>(subst hO;rfl)),(by (conv=>lhs;cbv)<;>(subst hO;rfl))⟩,h⟩
 rintro tm m ⟨j2,hs,h⟩
 unfold p14_3 at h
 obtain⟨rfl,rfl⟩:=hs
 conv=>cbv
 refine br_h hO h (by subst hO;rfl) (fun k3 h=>?_) (fun k3 h=>?_)
 conv=>cbv
 rw [b]
 exact⟨false,false,false,true,false,false,false,false,true,_,⟨(by subst hO;rfl),(by subst hO;rfl)⟩,h⟩
 conv=>cbv
 refine z0e hO tiA h (by subst hO;rfl) [2,4,20] [3000] [] (fun tm m=>∃ (j3:Bool),((tm=frame 0 44 [(2,.p 3000 0 0),(4,.c (.v (.int .i64 x0))),(20,.c (.v (.bool j3)))]∧m=⟨[(3000,.blk 0 [.c (.v (.bool false)),.c (.v (.bool false)),.c (.v (.bool false)),.c (.v (.bool false)),.c (.v (.bool false)),.c (.v (.bool false)),.c (.v (.bool false)),.c (.v (.bool false))])],1⟩))∧p14_2 False fu K0 x0 j3) (fun k12 h L hL_2=>?_) (fun k12 h L hL_2=>?_) ?_
 conv=>cbv
 exact hL_2 _ _ ⟨(z0a .eql x0 6),⟨(by (conv=>lhs;cbv)<;>(subst hO;rfl)),(by (conv=>lhs;cbv)<;>(subst hO;rfl))⟩,h⟩
 conv=>cbv
 exact hL_2 _ _ ⟨(z0a .eql x0 17),⟨(by (conv=>lhs;cbv)<;>(subst hO;rfl)),(by (conv=>lhs;cbv)<;>(subst hO;rfl))⟩,h⟩
 rintro tm m ⟨j3,hs,h⟩
 unfold p14_2 at h
 obtain⟨rfl,rfl⟩:=hs
 conv=>cbv
 refine br_h hO h (by subst hO;rfl) (fun k4 h=>?_) (fun k4 h=>?_)
 conv=>cbv
 rw [b]
 exact⟨false,false,false,false,true,true,false,false,true,_,⟨(by subst hO;rfl),(by subst hO;rfl)⟩,h⟩
 conv=>cbv
 refine z0e hO tiA h (by subst hO;rfl) [2,4,24] [3000] [] (fun tm m=>∃ (j4:Bool),((tm=frame 0 44 [(2,.p 3000 0 0),(4,.c (.v (.int .i64 x0))),(24,.c (.v (.bool j4)))]∧m=⟨[(3000,.blk 0 [.c (.v (.bool false)),.c (.v (.bool false)),.c (.v (.bool false)),.c (.v (.bool false)),.c (.v (.bool false)),.c (.v (.bool false)),.c (.v (.bool false)),.c (.v (.bool false))])],1⟩))∧p14_1 False fu K0 x0 j4) (fun k11 h L hL_1=>?_) (fun k11 h L hL_1=>?_) ?_
 conv=>cbv
 exact hL_1 _ _ ⟨(z0a .eql x0 7),⟨(by (conv=>lhs;cbv)<;>(subst hO;rfl)),(by (conv=>lhs;cbv)<;>(subst hO;rfl))⟩,h⟩
 conv=>cbv
 exact hL_1 _ _ ⟨(z0a .eql x0 16),⟨(by (conv=>lhs;cbv)<;>(subst hO;rfl)),(by (conv=>lhs;cbv)<;>(subst hO;rfl))⟩,h⟩
 rintro tm m ⟨j4,hs,h⟩
 unfold p14_1 at h
 obtain⟨rfl,rfl⟩:=hs
 conv=>cbv
 refine br_h hO h (by subst hO;rfl) (fun k5 h=>?_) (fun k5 h=>?_)
 conv=>cbv
 rw [b]
 exact⟨false,false,false,false,true,true,true,false,true,_,⟨(by subst hO;rfl),(by subst hO;rfl)⟩,h⟩
 conv=>cbv
 refine br_h hO h (by subst hO;rfl) (fun k6 h=>?_) (fun k6 h=>?_)
 conv=>cbv
 rw [b]
 exact⟨false,true,true,false,false,false,false,false,true,_,⟨(by subst hO;rfl),(by subst hO;rfl)⟩,h⟩
 conv=>cbv
 refine br_h hO h (by subst hO;rfl) (fun k7 h=>?_) (fun k7 h=>?_)
 conv=>cbv
 rw [b]
 exact⟨false,true,false,false,false,true,false,false,true,_,⟨(by subst hO;rfl),(by subst hO;rfl)⟩,h⟩
 conv=>cbv
 refine br_h hO h (by subst hO;rfl) (fun k8 h=>?_) (fun k8 h=>?_)
 conv=>cbv
 rw [b]
 exact⟨false,true,false,false,false,false,true,false,true,_,⟨(by subst hO;rfl),(by subst hO;rfl)⟩,h⟩
 conv=>cbv
 refine br_h hO h (by subst hO;rfl) (fun k9 h=>?_) (fun k9 h=>?_)
 conv=>cbv
 rw [b]
 exact⟨false,true,false,false,false,false,false,true,true,_,⟨(by subst hO;rfl),(by subst hO;rfl)⟩,h⟩
 conv=>cbv
 refine br_h hO h (by subst hO;rfl) (fun k10 h=>?_) (fun k10 h=>?_)
 conv=>cbv
 rw [b]
 exact⟨false,false,false,false,false,false,false,false,true,_,⟨(by subst hO;rfl),(by subst hO;rfl)⟩,h⟩
 conv=>cbv
 refine z0b hO ?_
 conv=>cbv
 refine z0b hO ?_
 conv=>cbv
 refine z0b hO ?_
 conv=>cbv
 refine z0b hO ?_
 conv=>cbv
 refine z0b hO ?_
 conv=>cbv
 refine z0b hO ?_
 conv=>cbv
 refine z0b hO ?_
 conv=>cbv
 refine z0b hO ?_
 conv=>cbv
 refine z0b hO ?_
 conv=>cbv
 refine z0b hO ?_
 conv=>cbv
 rw [b]
 exact⟨false,false,false,false,false,false,false,false,false,_,⟨(by subst hO;rfl),(by subst hO;rfl)⟩,h⟩
theorem d_p36 (fu:Nat){K0:Bool→Prop}(L:EL→Nat)(hN:L=List.length){x0:Int}(h:p36 False fu K0 x0):Den Try.prog G0 36 [.c (.v (.int .i64 x0))] (fun r bs=>(∃ (y0:Bool) (o0:OV),(r=.c (.v (.bool y0))∧bs=[o0])∧K0 y0)):=by
 obtain⟨O,hO⟩:∃ O,O=std 0 T G0 (Den Try.prog G0):=⟨_,rfl⟩
 have hLO:L=O.len:=by rw [hN,hO];rfl
 subst hLO
 refine den_h hO tiA mixed tabOk (fn:=Try.f36) (sh:=true) (by kernel_rfl) rfl rfl rfl rfl ?_
 intro Q b
 unfold p36 at h
 conv=>cbv
 refine z0g hO tiA [2] [] [] (fun tm m=>∃ (j1:Bool),((tm=frame 0 9 [(2,.c (.v (.bool j1)))]∧m=⟨[],1⟩))∧p36_1 False fu K0 j1) (fun L hL_1=>?_) ?_
 conv=>cbv
 refine br_h hO h (by subst hO;rfl) (fun k1 h=>?_) (fun k1 h=>?_)
 conv=>cbv
 refine br_t hO k1 ?_
 conv=>cbv
 refine br_t hO k1 ?_
 conv=>cbv
 exact hL_1 _ _ ⟨(z0a .leq x0 1073741824),⟨(by (conv=>lhs;cbv)<;>(subst hO;rfl)),(by (conv=>lhs;cbv)<;>(subst hO;rfl))⟩,h⟩
 conv=>cbv
 refine br_f hO k1 ?_
 conv=>cbv
 refine br_f hO k1 ?_
 conv=>cbv
 exact hL_1 _ _ ⟨false,⟨(by (conv=>lhs;cbv)<;>(subst hO;rfl)),(by (conv=>lhs;cbv)<;>(subst hO;rfl))⟩,h⟩
 rintro tm m ⟨j1,hs,h⟩
 unfold p36_1 at h
 obtain⟨rfl,rfl⟩:=hs
 conv=>cbv
 rw [b]
 exact⟨j1,_,⟨(by subst hO;rfl),(by subst hO;rfl)⟩,h⟩
theorem d_p76 (fu:Nat){K0:Int→Prop}(L:EL→Nat)(hN:L=List.length){x0:Int}(h:p76 False fu K0 x0):Den Try.prog G0 76 [.c (.v (.int .i64 x0))] (fun r bs=>(∃ (y0:Int) (o0:OV),(r=.c (.v (.int .i64 y0))∧bs=[o0])∧K0 y0)):=by
 obtain⟨O,hO⟩:∃ O,O=std 0 T G0 (Den Try.prog G0):=⟨_,rfl⟩
 have hLO:L=O.len:=by rw [hN,hO];rfl
 subst hLO
 refine den_h hO tiA mixed tabOk (fn:=Try.f76) (sh:=true) (by kernel_rfl) rfl rfl rfl rfl ?_
 intro Q b
 unfold p76 at h
 conv=>cbv
 refine z0e hO tiA h (by subst hO;rfl) [3,4] [] [] (fun tm m=>∃ (j1:Bool),((tm=frame 0 14 [(3,.c (.v (.int .i64 x0))),(4,.c (.v (.bool j1)))]∧m=⟨[],1⟩))∧p76_3 False fu K0 x0 j1) (fun k6 h L hL_3=>?_) (fun k6 h L hL_3=>?_) ?_
 conv=>cbv
 exact hL_3 _ _ ⟨(z0a .eql x0 0),⟨(by (conv=>lhs;cbv)<;>(subst hO;rfl)),(by (conv=>lhs;cbv)<;>(subst hO;rfl))⟩,h⟩
 conv=>cbv
 refine z0e hO tiA h (by subst hO;rfl) [3,4] [] [] (fun tm m=>∃ (j4:Bool),((tm=frame 0 14 [(3,.c (.v (.int .i64 x0))),(4,.c (.v (.bool j4)))]∧m=⟨[],1⟩))∧p76_4 False fu K0 x0 j4) (fun k7 h L hL_4=>?_) (fun k7 h L hL_4=>?_) ?_
 conv=>cbv
 exact hL_4 _ _ ⟨(z0a .eql x0 1),⟨(by (conv=>lhs;cbv)<;>(subst hO;rfl)),(by (conv=>lhs;cbv)<;>(subst hO;rfl))⟩,h⟩
 conv=>cbv
 exact hL_4 _ _ ⟨(z0a .eql x0 2),⟨(by (conv=>lhs;cbv)<;>(subst hO;rfl)),(by (conv=>lhs;cbv)<;>(subst hO;rfl))⟩,h⟩
 rintro tm m ⟨j4,hs,h⟩
 unfold p76_4 at h
 obtain⟨rfl,rfl⟩:=hs
 conv=>cbv
 exact hL_3 _ _ ⟨j4,⟨(by (conv=>lhs;cbv)<;>(subst hO;rfl)),(by (conv=>lhs;cbv)<;>(subst hO;rfl))⟩,h⟩
 rintro tm m ⟨j1,hs,h⟩
 unfold p76_3 at h
 obtain⟨rfl,rfl⟩:=hs
 conv=>cbv
 refine br_h hO h (by subst hO;rfl) (fun k1 h=>?_) (fun k1 h=>?_)
 conv=>cbv
 rw [b]
 exact⟨0,_,⟨(by subst hO;rfl),(by subst hO;rfl)⟩,h⟩
 conv=>cbv
 refine z0e hO tiA h (by subst hO;rfl) [3,8] [] [] (fun tm m=>∃ (j2:Bool),((tm=frame 0 14 [(3,.c (.v (.int .i64 x0))),(8,.c (.v (.bool j2)))]∧m=⟨[],1⟩))∧p76_1 False fu K0 x0 j2) (fun k4 h L hL_1=>?_) (fun k4 h L hL_1=>?_) ?_
 conv=>cbv
 exact hL_1 _ _ ⟨(z0a .eql x0 3),⟨(by (conv=>lhs;cbv)<;>(subst hO;rfl)),(by (conv=>lhs;cbv)<;>(subst hO;rfl))⟩,h⟩
 conv=>cbv
 refine z0e hO tiA h (by subst hO;rfl) [3,8] [] [] (fun tm m=>∃ (j3:Bool),((tm=frame 0 14 [(3,.c (.v (.int .i64 x0))),(8,.c (.v (.bool j3)))]∧m=⟨[],1⟩))∧p76_2 False fu K0 x0 j3) (fun k5 h L hL_2=>?_) (fun k5 h L hL_2=>?_) ?_
 conv=>cbv
 exact hL_2 _ _ ⟨(z0a .eql x0 4),⟨(by (conv=>lhs;cbv)<;>(subst hO;rfl)),(by (conv=>lhs;cbv)<;>(subst hO;rfl))⟩,h⟩
 conv=>cbv
 exact hL_2 _ _ ⟨(z0a .eql x0 5),⟨(by (conv=>lhs;cbv)<;>(subst hO;rfl)),(by (conv=>lhs;cbv)<;>(subst hO;rfl))⟩,h⟩
 rintro tm m ⟨j3,hs,h⟩
 unfold p76_2 at h
 obtain⟨rfl,rfl⟩:=hs
 conv=>cbv
 exact hL_1 _ _ ⟨j3,⟨(by (conv=>lhs;cbv)<;>(subst hO;rfl)),(by (conv=>lhs;cbv)<;>(subst hO;rfl))⟩,h⟩
 rintro tm m ⟨j2,hs,h⟩
 unfold p76_1 at h
 obtain⟨rfl,rfl⟩:=hs
 conv=>cbv
 refine br_h hO h (by subst hO;rfl) (fun k2 h=>?_) (fun k2 h=>?_)
 conv=>cbv
 rw [b]
 exact⟨2,_,⟨(by subst hO;rfl),(by subst hO;rfl)⟩,h⟩
 conv=>cbv
 refine br_h hO h (by subst hO;rfl) (fun k3 h=>?_) (fun k3 h=>?_)
 conv=>cbv
 rw [b]
 exact⟨3,_,⟨(by subst hO;rfl),(by subst hO;rfl)⟩,h⟩
 conv=>cbv
 refine z0b hO ?_
 conv=>cbv
 refine z0b hO ?_
 conv=>cbv
 refine z0b hO ?_
 conv=>cbv
 rw [b]
 exact⟨(-1),_,⟨(by subst hO;rfl),(by subst hO;rfl)⟩,h⟩
theorem d_p74 (fu:Nat){K0:Bool→Prop}(L:EL→Nat)(hN:L=List.length){x0 x1:Int}{x2:ByteArray}{x3 x4:EL}(h:p74 False fu K0 x0 x1 x2 x3 x4):Den Try.prog G0 74 [.agg [.c (.v (.int .i64 x0)),.c (.v (.int .i64 x1)),.c (.v (.string x2)),.c (.sl 3 x3 none),.c (.sl 5 x4 none)]] (fun r bs=>(∃ (y0:Bool) (o0:OV),(r=.c (.v (.bool y0))∧bs=[o0])∧K0 y0)):=by
 obtain⟨O,hO⟩:∃ O,O=std 0 T G0 (Den Try.prog G0):=⟨_,rfl⟩
 have hLO:L=O.len:=by rw [hN,hO];rfl
 subst hLO
 refine den_h hO tiA mixed tabOk (fn:=Try.f74) (sh:=true) (by kernel_rfl) rfl rfl rfl rfl ?_
 intro Q b
 unfold p74 at h
 conv=>cbv
 refine z0o hO tiA [[]] [(0,true,false),(1,true,false),(2,true,false),(3,true,false),(4,true,false),(5,true,false),(6,true,false),(7,true,true)] (by kernel_rfl) ?_
 conv=>cbv
 refine z0b hO ?_
 conv=>cbv
 refine z0o hO tiA [[],[]] [(0,true,false),(1,true,false),(3,true,false),(4,true,false),(5,true,false),(2,false,false),(6,true,true),(7,true,true)] (by kernel_rfl) ?_
 conv=>cbv
 refine z0d hO [.shut] (d_p76 fu O.len hN h) ?_
 intro e Q a b
 conv=>cbv
 refine⟨by subst a hO;rfl,?_⟩
 intro r bs d
 rw [b] at d
 clear a b h
 obtain⟨y1,_,⟨rfl,rfl⟩,h⟩:=d
 conv=>cbv
 refine agr hO rfl rfl ?_
 refine z0b hO ?_
 conv=>cbv
 refine z0e hO tiA h (by subst hO;rfl) [1,4,11] [2000] [] (fun tm m=>∃ (j2:Bool) (j3:Bool),((tm=frame 0 59 [(1,.p 2000 0 0),(4,.c (.v (.bool j2))),(11,.c (.v (.bool j3)))]∧m=⟨[(2000,.blk 0 [.c (.v (.int .i64 x0)),.c (.v (.int .i64 x1)),.c (.v (.string x2)),.c (.sl 3 x3 none),.c (.sl 5 x4 none)])],1⟩))∧p74_2 False fu K0 x0 x3 j2 j3) (fun k4 h L hL_2=>?_) (fun k4 h L hL_2=>?_) ?_
 conv=>cbv
 exact hL_2 _ _ ⟨(z0a .eql x0 2),(z0a .neq y1 ((x4.length:Nat):Int)),⟨(by (conv=>lhs;cbv)<;>(subst hO;rfl)),(by (conv=>lhs;cbv)<;>(subst hO;rfl))⟩,h⟩
 conv=>cbv
 refine z0g hO tiA [1,3,4,11] [2000] [] (fun tm m=>∃ (j5:Bool) (j6:Bool) (j7:Bool),((tm=frame 0 59 [(1,.p 2000 0 0),(3,.c (.v (.bool j5))),(4,.c (.v (.bool j6))),(11,.c (.v (.bool j7)))]∧m=⟨[(2000,.blk 0 [.c (.v (.int .i64 x0)),.c (.v (.int .i64 x1)),.c (.v (.string x2)),.c (.sl 3 x3 none),.c (.sl 5 x4 none)])],1⟩))∧p74_7 False fu K0 x0 x1 x2 x3 j5 j6 j7) (fun L hL_7=>?_) ?_
 conv=>cbv
 refine br_h hO h (by subst hO;rfl) (fun k9 h=>?_) (fun k9 h=>?_)
 conv=>cbv
 refine br_t hO k9 ?_
 conv=>cbv
 refine br_t hO k9 ?_
 conv=>cbv
 refine br_t hO k9 ?_
 conv=>cbv
 refine br_h hO h (by subst hO;rfl) (fun k10 h=>?_) (fun k10 h=>?_)
 conv=>cbv
 refine br_t hO k10 ?_
 conv=>cbv
 refine br_t hO k10 ?_
 conv=>cbv
 refine br_t hO k9 ?_
 conv=>cbv
 refine br_t hO k10 ?_
 conv=>cbv
 refine br_t hO k9 ?_
 conv=>cbv
 exact hL_7 _ _ ⟨(z0a .eql x0 0),(z0a .eql x0 2),true,⟨(by (conv=>lhs;cbv)<;>(subst hO;rfl)),(by (conv=>lhs;cbv)<;>(subst hO;rfl))⟩,h⟩
 conv=>cbv
 refine br_f hO k10 ?_
 conv=>cbv
 refine br_f hO k10 ?_
 conv=>cbv
 refine br_t hO k9 ?_
 conv=>cbv
 refine br_f hO k10 ?_
 conv=>cbv
 refine br_t hO k9 ?_
 conv=>cbv
 exact hL_7 _ _ ⟨(z0a .eql x0 0),(z0a .eql x0 2),(z0a .gtr x1 1073741824),⟨(by (conv=>lhs;cbv)<;>(subst hO;rfl)),(by (conv=>lhs;cbv)<;>(subst hO;rfl))⟩,h⟩
 conv=>cbv
 refine br_f hO k9 ?_
 conv=>cbv
 refine br_f hO k9 ?_
 conv=>cbv
 refine br_f hO k9 ?_
 conv=>cbv
 refine br_f hO k9 ?_
 conv=>cbv
 refine br_f hO k9 ?_
 conv=>cbv
 exact hL_7 _ _ ⟨(z0a .eql x0 0),(z0a .eql x0 2),false,⟨(by (conv=>lhs;cbv)<;>(subst hO;rfl)),(by (conv=>lhs;cbv)<;>(subst hO;rfl))⟩,h⟩
 rintro tm m ⟨j5,j6,j7,hs,h⟩
 unfold p74_7 at h
 obtain⟨rfl,rfl⟩:=hs
 conv=>cbv
 refine z0e hO tiA h (by subst hO;rfl) [1,4,11] [2000] [] (fun tm m=>∃ (j8:Bool),((tm=frame 0 59 [(1,.p 2000 0 0),(4,.c (.v (.bool j6))),(11,.c (.v (.bool j8)))]∧m=⟨[(2000,.blk 0 [.c (.v (.int .i64 x0)),.c (.v (.int .i64 x1)),.c (.v (.string x2)),.c (.sl 3 x3 none),.c (.sl 5 x4 none)])],1⟩))∧p74_3 False fu K0 x0 x3 j6 j8) (fun k5 h L hL_3=>?_) (fun k5 h L hL_3=>?_) ?_
 conv=>cbv
 exact hL_3 _ _ ⟨j7,⟨(by (conv=>lhs;cbv)<;>(subst hO;rfl)),(by (conv=>lhs;cbv)<;>(subst hO;rfl))⟩,h⟩
 conv=>cbv
 refine z0g hO tiA [1,4,11] [2000] [] (fun tm m=>∃ (j9:Bool),((tm=frame 0 59 [(1,.p 2000 0 0),(4,.c (.v (.bool j6))),(11,.c (.v (.bool j9)))]∧m=⟨[(2000,.blk 0 [.c (.v (.int .i64 x0)),.c (.v (.int .i64 x1)),.c (.v (.string x2)),.c (.sl 3 x3 none),.c (.sl 5 x4 none)])],1⟩))∧p74_6 False fu K0 x0 x2 x3 j6 j9) (fun L hL_6=>?_) ?_
 conv=>cbv
 refine br_h hO h (by subst hO;rfl) (fun k8 h=>?_) (fun k8 h=>?_)
 conv=>cbv
 refine br_t hO k8 ?_
 conv=>cbv
 refine br_t hO k8 ?_
 conv=>cbv
 refine br_t hO k8 ?_
 conv=>cbv
 exact hL_6 _ _ ⟨(z0a .neq x1 0),⟨(by (conv=>lhs;cbv)<;>(subst hO;rfl)),(by (conv=>lhs;cbv)<;>(subst hO;rfl))⟩,h⟩
 conv=>cbv
 refine br_f hO k8 ?_
 conv=>cbv
 refine br_f hO k8 ?_
 conv=>cbv
 refine br_f hO k8 ?_
 conv=>cbv
 exact hL_6 _ _ ⟨false,⟨(by (conv=>lhs;cbv)<;>(subst hO;rfl)),(by (conv=>lhs;cbv)<;>(subst hO;rfl))⟩,h⟩
 rintro tm m ⟨j9,hs,h⟩
 unfold p74_6 at h
 obtain⟨rfl,rfl⟩:=hs
 conv=>cbv
 refine z0e hO tiA h (by subst hO;rfl) [1,4,11] [2000] [] (fun tm m=>∃ (j10:Bool),((tm=frame 0 59 [(1,.p 2000 0 0),(4,.c (.v (.bool j6))),(11,.c (.v (.bool j10)))]∧m=⟨[(2000,.blk 0 [.c (.v (.int .i64 x0)),.c (.v (.int .i64 x1)),.c (.v (.string x2)),.c (.sl 3 x3 none),.c (.sl 5 x4 none)])],1⟩))∧p74_4 False fu K0 x0 x3 j6 j10) (fun k6 h L hL_4=>?_) (fun k6 h L hL_4=>?_) ?_
 conv=>cbv
 exact hL_4 _ _ ⟨j9,⟨(by (conv=>lhs;cbv)<;>(subst hO;rfl)),(by (conv=>lhs;cbv)<;>(subst hO;rfl))⟩,h⟩
 conv=>cbv
 refine z0g hO tiA [1,4,11] [2000] [] (fun tm m=>∃ (j11:Bool),((tm=frame 0 59 [(1,.p 2000 0 0),(4,.c (.v (.bool j6))),(11,.c (.v (.bool j11)))]∧m=⟨[(2000,.blk 0 [.c (.v (.int .i64 x0)),.c (.v (.int .i64 x1)),.c (.v (.string x2)),.c (.sl 3 x3 none),.c (.sl 5 x4 none)])],1⟩))∧p74_5 False fu K0 x0 x3 j6 j11) (fun L hL_5=>?_) ?_
 conv=>cbv
 refine br_h hO h (by subst hO;rfl) (fun k7 h=>?_) (fun k7 h=>?_)
 conv=>cbv
 refine br_t hO k7 ?_
 conv=>cbv
 refine br_t hO k7 ?_
 conv=>cbv
 refine br_t hO k7 ?_
 conv=>cbv
 exact hL_5 _ _ ⟨(z2f .neq x2 ⟨#[]⟩),⟨(by (conv=>lhs;cbv)<;>(subst hO;rfl)),(by (conv=>lhs;cbv)<;>(subst hO;rfl))⟩,h⟩
 conv=>cbv
 refine br_f hO k7 ?_
 conv=>cbv
 refine br_f hO k7 ?_
 conv=>cbv
 refine br_f hO k7 ?_
 conv=>cbv
 exact hL_5 _ _ ⟨false,⟨(by (conv=>lhs;cbv)<;>(subst hO;rfl)),(by (conv=>lhs;cbv)<;>(subst hO;rfl))⟩,h⟩
 rintro tm m ⟨j11,hs,h⟩
 unfold p74_5 at h
 obtain⟨rfl,rfl⟩:=hs
 conv=>cbv
 exact hL_4 _ _ ⟨j11,⟨(by (conv=>lhs;cbv)<;>(subst hO;rfl)),(by (conv=>lhs;cbv)<;>(subst hO;rfl))⟩,h⟩
 rintro tm m ⟨j10,hs,h⟩
 unfold p74_4 at h
 obtain⟨rfl,rfl⟩:=hs
 conv=>cbv
 exact hL_3 _ _ ⟨j10,⟨(by (conv=>lhs;cbv)<;>(subst hO;rfl)),(by (conv=>lhs;cbv)<;>(subst hO;rfl))⟩,h⟩
 rintro tm m ⟨j8,hs,h⟩
 unfold p74_3 at h
 obtain⟨rfl,rfl⟩:=hs
 conv=>cbv
 exact hL_2 _ _ ⟨j6,j8,⟨(by (conv=>lhs;cbv)<;>(subst hO;rfl)),(by (conv=>lhs;cbv)<;>(subst hO;rfl))⟩,h⟩
 rintro tm m ⟨j2,j3,hs,h⟩
 unfold p74_2 at h
 obtain⟨rfl,rfl⟩:=hs
 conv=>cbv
 refine br_h hO h (by subst hO;rfl) (fun k1 h=>?_) (fun k1 h=>?_)
 conv=>cbv
 rw [b]
 exact⟨false,_,⟨(by subst hO;rfl),(by subst hO;rfl)⟩,h⟩
 conv=>cbv
 refine br_h hO h (by subst hO;rfl) (fun k2 h=>?_) (fun k2 h=>?_)
 conv=>cbv
 rw [b]
 exact⟨(z0a .eql ((x3.length:Nat):Int) 1),_,⟨(by subst hO;rfl),(by subst hO;rfl)⟩,h⟩
 conv=>cbv
 refine z0b hO ?_
 conv=>cbv
 refine z0b hO ?_
 conv=>cbv
 refine z0g hO tiA [2] [] [] (fun tm m=>∃ (j4:Bool),((tm=frame 0 59 [(2,.c (.v (.bool j4)))]∧m=⟨[],1⟩))∧p74_1 False fu K0 j4) (fun L hL_1=>?_) ?_
 conv=>cbv
 refine br_h hO h (by subst hO;rfl) (fun k3 h=>?_) (fun k3 h=>?_)
 conv=>cbv
 refine br_t hO k3 ?_
 conv=>cbv
 refine br_t hO k3 ?_
 conv=>cbv
 refine br_t hO k3 ?_
 conv=>cbv
 refine br_t hO k3 ?_
 conv=>cbv
 exact hL_1 _ _ ⟨true,⟨(by (conv=>lhs;cbv)<;>(subst hO;rfl)),(by (conv=>lhs;cbv)<;>(subst hO;rfl))⟩,h⟩
 conv=>cbv
 refine br_f hO k3 ?_
 conv=>cbv
 refine br_f hO k3 ?_
 conv=>cbv
 refine br_f hO k3 ?_
 conv=>cbv
 refine br_f hO k3 ?_
 conv=>cbv
 exact hL_1 _ _ ⟨(z0a .eql ((x3.length:Nat):Int) 0),⟨(by (conv=>lhs;cbv)<;>(subst hO;rfl)),(by (conv=>lhs;cbv)<;>(subst hO;rfl))⟩,h⟩
 rintro tm m ⟨j4,hs,h⟩
 unfold p74_1 at h
 obtain⟨rfl,rfl⟩:=hs
 conv=>cbv
 rw [b]
 exact⟨j4,_,⟨(by subst hO;rfl),(by subst hO;rfl)⟩,h⟩
def D_p67 (fu:Nat):Prop:=∀ {K0:Bool→Int→Prop} (L:EL→Nat) (_:L=List.length) {x0 x1:Int} {x2:ByteArray} {x3 x4:EL} {x5 x6:Int} (_:p67 False fu K0 x0 x1 x2 x3 x4 x5 x6),Den Try.prog G0 67 [.agg [.c (.v (.int .i64 x0)),.c (.v (.int .i64 x1)),.c (.v (.string x2)),.c (.sl 3 x3 none),.c (.sl 5 x4 none)],.ptr [.c (.v (.int .i64 x5))],.c (.v (.int .i64 x6))] (fun r bs=>(∃ (y0:Bool) (y1:Int) (o0 o2:OV),(r=.c (.v (.bool y0))∧bs=[o0,.ptr [.c (.v (.int .i64 y1))],o2])∧K0 y0 y1))
theorem b_p67 (fu:Nat)(ih_p67:D_p67 fu){K0:Bool→Int→Prop}(L:EL→Nat)(hN:L=List.length){x0 x1:Int}{x2:ByteArray}{x3 x4:EL}{x5 x6:Int}(h:p67_b False fu (p67 False fu) K0 x0 x1 x2 x3 x4 x5 x6):Den Try.prog G0 67 [.agg [.c (.v (.int .i64 x0)),.c (.v (.int .i64 x1)),.c (.v (.string x2)),.c (.sl 3 x3 none),.c (.sl 5 x4 none)],.ptr [.c (.v (.int .i64 x5))],.c (.v (.int .i64 x6))] (fun r bs=>(∃ (y0:Bool) (y1:Int) (o0 o2:OV),(r=.c (.v (.bool y0))∧bs=[o0,.ptr [.c (.v (.int .i64 y1))],o2])∧K0 y0 y1)):=by
 obtain⟨O,hO⟩:∃ O,O=std 1 T G0 (Den Try.prog G0):=⟨_,rfl⟩
 have hLO:L=O.len:=by rw [hN,hO];rfl
 subst hLO
 refine den_h hO tiA mixed tabOk (fn:=Try.f67) (sh:=true) (by kernel_rfl) rfl rfl rfl rfl ?_
 intro Q b
 unfold p67_b at h
 conv=>cbv
 refine br_h hO h (by subst hO;rfl) (fun k1 h=>?_) (fun k1 h=>?_)
 conv=>cbv
 rw [b]
 exact⟨true,z0c .add .i64 x5 1,_,_,⟨(by subst hO;rfl),(by subst hO;rfl)⟩,h⟩
 conv=>cbv
 refine z0b hO ?_
 conv=>cbv
 refine z0d hO [.shut] (d_p74 fu O.len hN h) ?_
 intro e Q a b
 conv=>cbv
 refine⟨by subst a hO;rfl,?_⟩
 intro r bs d
 rw [b] at d
 clear a b h
 obtain⟨y1,_,⟨rfl,rfl⟩,h⟩:=d
 conv=>cbv
 refine br_h hO h (by subst hO;rfl) (fun k2 h=>?_) (fun k2 h=>?_)
 conv=>cbv
 rw [b]
 exact⟨false,z0c .add .i64 x5 1,_,_,⟨(by subst hO;rfl),(by subst hO;rfl)⟩,h⟩
 conv=>cbv
 refine z0b hO ?_
 conv=>cbv
 refine z0r hO tiA [1,2,23,24,25] [0] [] (fun (n:Nat) tm m=>∃ (z2:Int) (z3:Int) (z4:Int),((tm=frame 0 40 [(1,.p 0 0 0),(2,.c (.v (.int .i64 x6))),(23,.c (.sl 5 x4 none)),(24,.c (.v (.int .i64 z3))),(25,.c (.v (.int .i64 z4)))]∧m=⟨[(0,.blk 0 [.c (.v (.int .i64 z2))])],2⟩))∧p67_1L False fu (p67 False fu) K0 x4 x6 n z2 z3 z4) (fun n=>n) fu ⟨z0c .add .i64 x5 1,((x4.length:Nat):Int),0,⟨(by (conv=>lhs;cbv)<;>(subst hO;rfl)),(by (conv=>lhs;cbv)<;>(subst hO;rfl))⟩,h⟩ ?_
 rintro n1 tm m L ⟨z2,z3,z4,hs,h⟩ hLn1
 (cases n1 with
 | zero=>rw [p67_1L] at h;exact h.elim
 | succ n1 =>
 rw [p67_1L] at h
 unfold p67_1 at h
 obtain⟨rfl,rfl⟩:=hs
 conv=>cbv
 refine br_h hO h (by subst hO;rfl) (fun k3 h=>?_) (fun k3 h=>?_)
 conv=>cbv
 refine z0b hO ?_
 conv=>cbv
 refine and_h h (fun g=>(by subst hO;exact g)) (fun h=>?_)
 refine and_h h (fun g=>(by subst hO;exact g)) (fun h=>?_)
 obtain⟨c5,c6,c7,c8,c9,hr,h⟩:=z0s h
 refine z1a hO _ (by subst hO;exact hr) ?_
 clear hr
 conv=>cbv
 refine z0d hO [.shut,.ref 1,.shut] (ih_p67 O.len hN h) ?_
 intro e Q a b
 conv=>cbv
 refine⟨by subst a hO;rfl,?_⟩
 intro r bs d
 rw [b] at d
 clear a b h
 obtain⟨y10,y11,_,_,⟨rfl,rfl⟩,h⟩:=d
 conv=>cbv
 refine br_h hO h (by subst hO;rfl) (fun k4 h=>?_) (fun k4 h=>?_)
 conv=>cbv
 rw [b]
 exact⟨false,y11,_,_,⟨(by subst hO;rfl),(by subst hO;rfl)⟩,h⟩
 conv=>cbv
 refine z0b hO ?_
 conv=>cbv
 refine br_h hO h (by subst hO;rfl) (fun k5 h=>?_) (fun k5 h=>?_)
 conv=>cbv
 rw [b]
 exact⟨true,y11,_,_,⟨(by subst hO;rfl),(by subst hO;rfl)⟩,h⟩
 conv=>cbv
 refine z0b hO ?_
 conv=>cbv
 exact hLn1 n1 _ _ (Nat.lt_succ_self n1) ⟨y11,z3,z0c .add .i64 z4 1,⟨(by (conv=>lhs;cbv)<;>(subst hO;rfl)),(by (conv=>lhs;cbv)<;>(subst hO;rfl))⟩,h⟩
 conv=>cbv
 rw [b]
 exact⟨true,z2,_,_,⟨(by subst hO;rfl),(by subst hO;rfl)⟩,h⟩)
theorem dd_p67 (fu:Nat):D_p67 fu:=by
 induction fu with
 | zero=>unfold D_p67;intros;rename_i h;rw [p67] at h;exact h.elim
 | succ n ih =>
  exact (by unfold D_p67;intro K0 L hN x0 x1 x2 x3 x4 x5 x6 h;exact b_p67 n ih L hN (by rw [p67] at h;exact h))
theorem d_p67 (fu:Nat):D_p67 fu:=dd_p67 fu
theorem d_p55 (fu:Nat){K0:Int→Bool→Prop}(L:EL→Nat)(hN:L=List.length){x0 x1:Int}{x2:ByteArray}{x3 x4:EL}{x5:Int}(h:p55 False fu K0 x0 x1 x2 x3 x4 x5):Den Try.prog G0 55 [.agg [.c (.v (.int .i64 x0)),.c (.v (.int .i64 x1)),.c (.v (.string x2)),.c (.sl 3 x3 none),.c (.sl 5 x4 none)],.c (.v (.int .i64 x5))] (fun r bs=>(∃ (y0:Int) (y1:Bool) (o0 o1:OV),(r=.tup [.c (.v (.int .i64 y0)),.c (.v (.bool y1))]∧bs=[o0,o1])∧K0 y0 y1)):=by
 obtain⟨O,hO⟩:∃ O,O=std 0 T G0 (Den Try.prog G0):=⟨_,rfl⟩
 have hLO:L=O.len:=by rw [hN,hO];rfl
 subst hLO
 refine den_h hO tiA mixed tabOk (fn:=Try.f55) (sh:=true) (by kernel_rfl) rfl rfl rfl rfl ?_
 intro Q b
 unfold p55 at h
 conv=>cbv
 refine z0d hO [.shut,.ref 1,.shut] (d_p67 fu O.len hN h) ?_
 intro e Q a b
 conv=>cbv
 refine⟨by subst a hO;rfl,?_⟩
 intro r bs d
 rw [b] at d
 clear a b h
 obtain⟨y1,y2,_,_,⟨rfl,rfl⟩,h⟩:=d
 conv=>cbv
 rw [b]
 exact⟨y2,y1,_,_,⟨(by subst hO;rfl),(by subst hO;rfl)⟩,h⟩
def D_p56 (fu:Nat):Prop:=∀ {K0:Int→Prop} (L:EL→Nat) (_:L=List.length) {x0 x1:Int} {x2:ByteArray} {x3 x4:EL} {x5:Int} (_:p56 False fu K0 x0 x1 x2 x3 x4 x5),Den Try.prog G0 56 [.agg [.c (.v (.int .i64 x0)),.c (.v (.int .i64 x1)),.c (.v (.string x2)),.c (.sl 3 x3 none),.c (.sl 5 x4 none)],.c (.v (.int .i64 x5))] (fun r bs=>(∃ (y0:Int) (o0 o1:OV),(r=.c (.v (.int .i64 y0))∧bs=[o0,o1])∧K0 y0))
theorem b_p56 (fu:Nat)(ih_p56:D_p56 fu){K0:Int→Prop}(L:EL→Nat)(hN:L=List.length){x0 x1:Int}{x2:ByteArray}{x3 x4:EL}{x5:Int}(h:p56_b False fu (p56 False fu) K0 x0 x1 x2 x3 x4 x5):Den Try.prog G0 56 [.agg [.c (.v (.int .i64 x0)),.c (.v (.int .i64 x1)),.c (.v (.string x2)),.c (.sl 3 x3 none),.c (.sl 5 x4 none)],.c (.v (.int .i64 x5))] (fun r bs=>(∃ (y0:Int) (o0 o1:OV),(r=.c (.v (.int .i64 y0))∧bs=[o0,o1])∧K0 y0)):=by
 obtain⟨O,hO⟩:∃ O,O=std 0 T G0 (Den Try.prog G0):=⟨_,rfl⟩
 have hLO:L=O.len:=by rw [hN,hO];rfl
 subst hLO
 refine den_h hO tiA mixed tabOk (fn:=Try.f56) (sh:=true) (by kernel_rfl) rfl rfl rfl rfl ?_
 intro Q b
 unfold p56_b at h
 conv=>cbv
 refine br_h hO h (by subst hO;rfl) (fun k1 h=>?_) (fun k1 h=>?_)
 conv=>cbv
 rw [b]
 exact⟨1,_,_,⟨(by subst hO;rfl),(by subst hO;rfl)⟩,h⟩
 conv=>cbv
 refine z0b hO ?_
 conv=>cbv
 refine z0r hO tiA [1,5,13,14,15] [] [] (fun (n:Nat) tm m=>∃ (z1:Int) (z2:Int) (z3:Int) (z4:Int),((tm=frame 0 32 [(1,.c (.v (.int .i64 z1))),(5,.c (.v (.int .i64 z2))),(13,.c (.sl 5 x4 none)),(14,.c (.v (.int .i64 z3))),(15,.c (.v (.int .i64 z4)))]∧m=⟨[],1⟩))∧p56_1L False fu (p56 False fu) K0 x4 n z1 z2 z3 z4) (fun n=>n) fu ⟨(if 0 > x5 then 0 else x5),1,((x4.length:Nat):Int),0,⟨(by (conv=>lhs;cbv)<;>(subst hO;rfl)),(by (conv=>lhs;cbv)<;>(subst hO;rfl))⟩,h⟩ ?_
 rintro n1 tm m L ⟨z1,z2,z3,z4,hs,h⟩ hLn1
 (cases n1 with
 | zero=>rw [p56_1L] at h;exact h.elim
 | succ n1 =>
 rw [p56_1L] at h
 unfold p56_1 at h
 obtain⟨rfl,rfl⟩:=hs
 conv=>cbv
 refine br_h hO h (by subst hO;rfl) (fun k2 h=>?_) (fun k2 h=>?_)
 conv=>cbv
 refine z0b hO ?_
 conv=>cbv
 refine and_h h (fun g=>(by subst hO;exact g)) (fun h=>?_)
 refine and_h h (fun g=>(by subst hO;exact g)) (fun h=>?_)
 obtain⟨c5,c6,c7,c8,c9,hr,h⟩:=z0s h
 refine z1a hO _ (by subst hO;exact hr) ?_
 clear hr
 conv=>cbv
 refine z0d hO [.shut,.shut] (ih_p56 O.len hN h) ?_
 intro e Q a b
 conv=>cbv
 refine⟨by subst a hO;rfl,?_⟩
 intro r bs d
 rw [b] at d
 clear a b h
 obtain⟨y10,_,_,⟨rfl,rfl⟩,h⟩:=d
 conv=>cbv
 refine br_h hO h (by subst hO;rfl) (fun k3 h=>?_) (fun k3 h=>?_)
 conv=>cbv
 rw [b]
 exact⟨(if z0c .add .i64 1 y10 > z2 then z0c .add .i64 1 y10 else z2),_,_,⟨(by subst hO;rfl),(by subst hO;rfl)⟩,h⟩
 conv=>cbv
 refine z0b hO ?_
 conv=>cbv
 exact hLn1 n1 _ _ (Nat.lt_succ_self n1) ⟨z1,(if z0c .add .i64 1 y10 > z2 then z0c .add .i64 1 y10 else z2),z3,z0c .add .i64 z4 1,⟨(by (conv=>lhs;cbv)<;>(subst hO;rfl)),(by (conv=>lhs;cbv)<;>(subst hO;rfl))⟩,h⟩
 conv=>cbv
 rw [b]
 exact⟨z2,_,_,⟨(by subst hO;rfl),(by subst hO;rfl)⟩,h⟩)
theorem dd_p56 (fu:Nat):D_p56 fu:=by
 induction fu with
 | zero=>unfold D_p56;intros;rename_i h;rw [p56] at h;exact h.elim
 | succ n ih =>
  exact (by unfold D_p56;intro K0 L hN x0 x1 x2 x3 x4 x5 h;exact b_p56 n ih L hN (by rw [p56] at h;exact h))
theorem d_p56 (fu:Nat):D_p56 fu:=dd_p56 fu
theorem d_p77 (fu:Nat){K0:Int→Prop}(L:EL→Nat)(hN:L=List.length){x0:Int}(h:p77 False fu K0 x0):Den Try.prog G0 77 [.c (.v (.int .i64 x0))] (fun r bs=>(∃ (y0:Int) (o0:OV),(r=.c (.v (.int .i64 y0))∧bs=[o0])∧K0 y0)):=by
 obtain⟨O,hO⟩:∃ O,O=std 0 T G0 (Den Try.prog G0):=⟨_,rfl⟩
 have hLO:L=O.len:=by rw [hN,hO];rfl
 subst hLO
 refine den_h hO tiA mixed tabOk (fn:=Try.f77) (sh:=true) (by kernel_rfl) rfl rfl rfl rfl ?_
 intro Q b
 unfold p77 at h
 conv=>cbv
 refine z0e hO tiA h (by subst hO;rfl) [3,4] [] [] (fun tm m=>∃ (j1:Bool),((tm=frame 0 12 [(3,.c (.v (.int .i64 x0))),(4,.c (.v (.bool j1)))]∧m=⟨[],1⟩))∧p77_2 False fu K0 x0 j1) (fun k5 h L hL_2=>?_) (fun k5 h L hL_2=>?_) ?_
 conv=>cbv
 exact hL_2 _ _ ⟨(z0a .eql x0 0),⟨(by (conv=>lhs;cbv)<;>(subst hO;rfl)),(by (conv=>lhs;cbv)<;>(subst hO;rfl))⟩,h⟩
 conv=>cbv
 exact hL_2 _ _ ⟨(z0a .eql x0 4),⟨(by (conv=>lhs;cbv)<;>(subst hO;rfl)),(by (conv=>lhs;cbv)<;>(subst hO;rfl))⟩,h⟩
 rintro tm m ⟨j1,hs,h⟩
 unfold p77_2 at h
 obtain⟨rfl,rfl⟩:=hs
 conv=>cbv
 refine br_h hO h (by subst hO;rfl) (fun k1 h=>?_) (fun k1 h=>?_)
 conv=>cbv
 rw [b]
 exact⟨0,_,⟨(by subst hO;rfl),(by subst hO;rfl)⟩,h⟩
 conv=>cbv
 refine br_h hO h (by subst hO;rfl) (fun k2 h=>?_) (fun k2 h=>?_)
 conv=>cbv
 rw [b]
 exact⟨1,_,⟨(by subst hO;rfl),(by subst hO;rfl)⟩,h⟩
 conv=>cbv
 refine z0e hO tiA h (by subst hO;rfl) [9] [] [] (fun tm m=>∃ (j2:Bool),((tm=frame 0 12 [(9,.c (.v (.bool j2)))]∧m=⟨[],1⟩))∧p77_1 False fu K0 j2) (fun k4 h L hL_1=>?_) (fun k4 h L hL_1=>?_) ?_
 conv=>cbv
 exact hL_1 _ _ ⟨(z0a .eql x0 2),⟨(by (conv=>lhs;cbv)<;>(subst hO;rfl)),(by (conv=>lhs;cbv)<;>(subst hO;rfl))⟩,h⟩
 conv=>cbv
 exact hL_1 _ _ ⟨(z0a .eql x0 3),⟨(by (conv=>lhs;cbv)<;>(subst hO;rfl)),(by (conv=>lhs;cbv)<;>(subst hO;rfl))⟩,h⟩
 rintro tm m ⟨j2,hs,h⟩
 unfold p77_1 at h
 obtain⟨rfl,rfl⟩:=hs
 conv=>cbv
 refine br_h hO h (by subst hO;rfl) (fun k3 h=>?_) (fun k3 h=>?_)
 conv=>cbv
 rw [b]
 exact⟨2,_,⟨(by subst hO;rfl),(by subst hO;rfl)⟩,h⟩
 conv=>cbv
 refine z0b hO ?_
 conv=>cbv
 refine z0b hO ?_
 conv=>cbv
 refine z0b hO ?_
 conv=>cbv
 rw [b]
 exact⟨(-1),_,⟨(by subst hO;rfl),(by subst hO;rfl)⟩,h⟩
def D_p75 (fu:Nat):Prop:=∀ {K0:Bool→Int→Prop} (L:EL→Nat) (_:L=List.length) {x0 x1:Int} {x2:EL} {x3 x4 x5:Int} (_:p75 False fu K0 x0 x1 x2 x3 x4 x5),Den Try.prog G0 75 [.agg [.c (.v (.int .i64 x0)),.c (.v (.int .i64 x1)),.c (.sl 3 x2 none)],.c (.v (.int .i64 x3)),.c (.v (.int .i64 x4)),.ptr [.c (.v (.int .i64 x5))]] (fun r bs=>(∃ (y0:Bool) (y1:Int) (o0 o1 o2:OV),(r=.c (.v (.bool y0))∧bs=[o0,o1,o2,.ptr [.c (.v (.int .i64 y1))]])∧K0 y0 y1))
theorem b_p75 (fu:Nat)(ih_p75:D_p75 fu){K0:Bool→Int→Prop}(L:EL→Nat)(hN:L=List.length){x0 x1:Int}{x2:EL}{x3 x4 x5:Int}(h:p75_b False fu (p75 False fu) K0 x0 x1 x2 x3 x4 x5):Den Try.prog G0 75 [.agg [.c (.v (.int .i64 x0)),.c (.v (.int .i64 x1)),.c (.sl 3 x2 none)],.c (.v (.int .i64 x3)),.c (.v (.int .i64 x4)),.ptr [.c (.v (.int .i64 x5))]] (fun r bs=>(∃ (y0:Bool) (y1:Int) (o0 o1 o2:OV),(r=.c (.v (.bool y0))∧bs=[o0,o1,o2,.ptr [.c (.v (.int .i64 y1))]])∧K0 y0 y1)):=by
 obtain⟨O,hO⟩:∃ O,O=std 1 T G0 (Den Try.prog G0):=⟨_,rfl⟩
 have hLO:L=O.len:=by rw [hN,hO];rfl
 subst hLO
 refine den_h hO tiA mixed tabOk (fn:=Try.f75) (sh:=true) (by kernel_rfl) rfl rfl rfl rfl ?_
 intro Q b
 unfold p75_b at h
 conv=>cbv
 refine w0y hO tiA [[],[]] [(0,true,false),(1,true,false),(2,true,false),(3,true,false),(4,true,false),(5,true,false),(6,true,false),(7,true,false),(8,true,false),(9,true,false),(10,true,false),(12,true,false),(13,true,false),(14,true,false),(11,false,false),(15,true,true),(16,true,true)] (by kernel_rfl) [1,2,3,4,32] [0,5000] [] (fun tm m=>∃ (j1:Int) (j2:Bool),((tm=frame 0 72 [(1,.c (.v (.int .i64 x3))),(2,.c (.v (.int .i64 x4))),(3,.p 0 0 0),(4,.p 5000 1 0),(32,.c (.v (.bool j2)))]∧m=⟨[(0,.blk 0 [.c (.v (.int .i64 j1))]),(5000,.blk 1 [.c (.v (.int .i64 x0)),.c (.v (.int .i64 x1)),.c (.sl 3 x2 none)])],2⟩))∧p75_3 False fu (p75 False fu) K0 x0 x1 x2 x3 x4 j1 j2) (fun L hL_3=>?_) ?_
 conv=>cbv
 refine br_h hO h (by subst hO;rfl) (fun k8 h=>?_) (fun k8 h=>?_)
 conv=>cbv
 refine br_t hO k8 ?_
 conv=>cbv
 refine br_t hO k8 ?_
 conv=>cbv
 refine br_t hO k8 ?_
 conv=>cbv
 refine br_t hO k8 ?_
 conv=>cbv
 refine br_t hO rfl ?_
 conv=>cbv
 refine br_t hO rfl ?_
 conv=>cbv
 refine br_t hO rfl ?_
 conv=>cbv
 refine br_t hO rfl ?_
 conv=>cbv
 refine br_t hO rfl ?_
 conv=>cbv
 refine br_t hO rfl ?_
 conv=>cbv
 refine br_t hO rfl ?_
 conv=>cbv
 refine br_t hO rfl ?_
 conv=>cbv
 exact hL_3 _ _ ⟨z0c .add .i64 x5 1,true,⟨(by (conv=>lhs;cbv)<;>(subst hO;rfl)),(by (conv=>lhs;cbv)<;>(subst hO;rfl))⟩,h⟩
 conv=>cbv
 refine br_f hO k8 ?_
 conv=>cbv
 refine br_f hO k8 ?_
 conv=>cbv
 refine br_f hO k8 ?_
 conv=>cbv
 refine br_f hO k8 ?_
 conv=>cbv
 refine br_h hO h (by subst hO;rfl) (fun k9 h=>?_) (fun k9 h=>?_)
 conv=>cbv
 refine br_t hO k9 ?_
 conv=>cbv
 refine br_t hO k9 ?_
 conv=>cbv
 refine br_t hO k9 ?_
 conv=>cbv
 refine br_t hO k9 ?_
 conv=>cbv
 refine br_t hO k9 ?_
 conv=>cbv
 refine br_t hO k9 ?_
 conv=>cbv
 refine br_t hO k9 ?_
 conv=>cbv
 exact hL_3 _ _ ⟨z0c .add .i64 x5 1,true,⟨(by (conv=>lhs;cbv)<;>(subst hO;rfl)),(by (conv=>lhs;cbv)<;>(subst hO;rfl))⟩,h⟩
 conv=>cbv
 refine br_f hO k9 ?_
 conv=>cbv
 refine br_f hO k9 ?_
 conv=>cbv
 refine br_f hO k9 ?_
 conv=>cbv
 refine br_f hO k9 ?_
 conv=>cbv
 refine br_f hO k9 ?_
 conv=>cbv
 refine z0d hO [.shut] (d_p77 fu O.len hN h) ?_
 intro e Q a b
 conv=>cbv
 refine⟨by subst a hO;rfl,?_⟩
 intro r bs d
 rw [b] at d
 clear a b h
 obtain⟨y12,_,⟨rfl,rfl⟩,h⟩:=d
 conv=>cbv
 refine agr hO rfl rfl ?_
 refine br_f hO k9 ?_
 conv=>cbv
 refine br_f hO k9 ?_
 conv=>cbv
 exact hL_3 _ _ ⟨z0c .add .i64 x5 1,(z0a .neq y12 ((x2.length:Nat):Int)),⟨(by (conv=>lhs;cbv)<;>(subst hO;rfl)),(by (conv=>lhs;cbv)<;>(subst hO;rfl))⟩,h⟩
 rintro tm m ⟨j1,j2,hs,h⟩
 unfold p75_3 at h
 obtain⟨rfl,rfl⟩:=hs
 conv=>cbv
 refine br_h hO h (by subst hO;rfl) (fun k1 h=>?_) (fun k1 h=>?_)
 conv=>cbv
 rw [b]
 exact⟨false,j1,_,_,_,⟨(by subst hO;rfl),(by subst hO;rfl)⟩,h⟩
 conv=>cbv
 refine z0b hO ?_
 conv=>cbv
 refine z0g hO tiA [1,2,3,4,56] [0,5000] [] (fun tm m=>∃ (j3:Bool),((tm=frame 0 72 [(1,.c (.v (.int .i64 x3))),(2,.c (.v (.int .i64 x4))),(3,.p 0 0 0),(4,.p 5000 1 0),(56,.c (.v (.bool j3)))]∧m=⟨[(0,.blk 0 [.c (.v (.int .i64 j1))]),(5000,.blk 1 [.c (.v (.int .i64 x0)),.c (.v (.int .i64 x1)),.c (.sl 3 x2 none)])],2⟩))∧p75_2 False fu (p75 False fu) K0 x2 x3 x4 j1 j3) (fun L hL_2=>?_) ?_
 conv=>cbv
 refine br_h hO h (by subst hO;rfl) (fun k5 h=>?_) (fun k5 h=>?_)
 conv=>cbv
 refine br_t hO k5 ?_
 conv=>cbv
 refine br_t hO k5 ?_
 conv=>cbv
 refine br_t hO k5 ?_
 conv=>cbv
 refine br_h hO h (by subst hO;rfl) (fun k6 h=>?_) (fun k6 h=>?_)
 conv=>cbv
 refine br_t hO k6 ?_
 conv=>cbv
 refine br_t hO k6 ?_
 conv=>cbv
 refine br_t hO k6 ?_
 conv=>cbv
 refine br_t hO k5 ?_
 conv=>cbv
 refine br_t hO k6 ?_
 conv=>cbv
 refine br_t hO k5 ?_
 conv=>cbv
 refine br_t hO rfl ?_
 conv=>cbv
 refine br_t hO rfl ?_
 conv=>cbv
 refine br_t hO rfl ?_
 conv=>cbv
 refine br_t hO rfl ?_
 conv=>cbv
 refine br_t hO rfl ?_
 conv=>cbv
 refine br_t hO rfl ?_
 conv=>cbv
 exact hL_2 _ _ ⟨true,⟨(by (conv=>lhs;cbv)<;>(subst hO;rfl)),(by (conv=>lhs;cbv)<;>(subst hO;rfl))⟩,h⟩
 conv=>cbv
 refine br_f hO k6 ?_
 conv=>cbv
 refine br_f hO k6 ?_
 conv=>cbv
 refine br_f hO k6 ?_
 conv=>cbv
 refine br_t hO k5 ?_
 conv=>cbv
 refine br_f hO k6 ?_
 conv=>cbv
 refine br_t hO k5 ?_
 conv=>cbv
 refine br_h hO h (by subst hO;rfl) (fun k7 h=>?_) (fun k7 h=>?_)
 conv=>cbv
 refine br_t hO k7 ?_
 conv=>cbv
 refine br_t hO k7 ?_
 conv=>cbv
 refine br_t hO k7 ?_
 conv=>cbv
 refine br_t hO k7 ?_
 conv=>cbv
 refine br_t hO k7 ?_
 conv=>cbv
 exact hL_2 _ _ ⟨true,⟨(by (conv=>lhs;cbv)<;>(subst hO;rfl)),(by (conv=>lhs;cbv)<;>(subst hO;rfl))⟩,h⟩
 conv=>cbv
 refine br_f hO k7 ?_
 conv=>cbv
 refine br_f hO k7 ?_
 conv=>cbv
 refine br_f hO k7 ?_
 conv=>cbv
 refine br_f hO (z2m hO .eql .neq rfl rfl rfl k5) ?_
 conv=>cbv
 refine br_f hO (z2m hO .eql .neq rfl rfl rfl k5) ?_
 conv=>cbv
 refine br_f hO (z2m hO .eql .neq rfl rfl rfl k5) ?_
 conv=>cbv
 refine br_f hO k7 ?_
 conv=>cbv
 refine br_f hO (z2m hO .eql .neq rfl rfl rfl k5) ?_
 conv=>cbv
 refine br_f hO k7 ?_
 conv=>cbv
 exact hL_2 _ _ ⟨false,⟨(by (conv=>lhs;cbv)<;>(subst hO;rfl)),(by (conv=>lhs;cbv)<;>(subst hO;rfl))⟩,h⟩
 conv=>cbv
 refine br_f hO k5 ?_
 conv=>cbv
 refine br_f hO k5 ?_
 conv=>cbv
 refine br_f hO k5 ?_
 conv=>cbv
 refine br_f hO k5 ?_
 conv=>cbv
 refine br_f hO k5 ?_
 conv=>cbv
 refine br_f hO rfl ?_
 conv=>cbv
 refine br_f hO rfl ?_
 conv=>cbv
 refine br_f hO rfl ?_
 conv=>cbv
 refine br_f hO rfl ?_
 conv=>cbv
 refine br_t hO (z2m hO .eql .neq rfl rfl rfl k5) ?_
 conv=>cbv
 refine br_t hO (z2m hO .eql .neq rfl rfl rfl k5) ?_
 conv=>cbv
 refine br_t hO (z2m hO .eql .neq rfl rfl rfl k5) ?_
 conv=>cbv
 refine br_f hO rfl ?_
 conv=>cbv
 refine br_t hO (z2m hO .eql .neq rfl rfl rfl k5) ?_
 conv=>cbv
 refine br_f hO rfl ?_
 conv=>cbv
 exact hL_2 _ _ ⟨(z0a .neq x1 0),⟨(by (conv=>lhs;cbv)<;>(subst hO;rfl)),(by (conv=>lhs;cbv)<;>(subst hO;rfl))⟩,h⟩
 rintro tm m ⟨j3,hs,h⟩
 unfold p75_2 at h
 obtain⟨rfl,rfl⟩:=hs
 conv=>cbv
 refine br_h hO h (by subst hO;rfl) (fun k2 h=>?_) (fun k2 h=>?_)
 conv=>cbv
 rw [b]
 exact⟨false,j1,_,_,_,⟨(by subst hO;rfl),(by subst hO;rfl)⟩,h⟩
 conv=>cbv
 refine z0b hO ?_
 conv=>cbv
 refine z0r hO tiA [1,2,3,58,59,60] [0] [] (fun (n:Nat) tm m=>∃ (z4:Int) (z5:Int) (z6:Int),((tm=frame 0 72 [(1,.c (.v (.int .i64 x3))),(2,.c (.v (.int .i64 x4))),(3,.p 0 0 0),(58,.c (.sl 3 x2 none)),(59,.c (.v (.int .i64 z5))),(60,.c (.v (.int .i64 z6)))]∧m=⟨[(0,.blk 0 [.c (.v (.int .i64 z4))])],2⟩))∧p75_1L False fu (p75 False fu) K0 x2 x3 x4 n z4 z5 z6) (fun n=>n) fu ⟨j1,((x2.length:Nat):Int),0,⟨(by (conv=>lhs;cbv)<;>(subst hO;rfl)),(by (conv=>lhs;cbv)<;>(subst hO;rfl))⟩,h⟩ ?_
 rintro n1 tm m L ⟨z4,z5,z6,hs,h⟩ hLn1
 (cases n1 with
 | zero=>rw [p75_1L] at h;exact h.elim
 | succ n1 =>
 rw [p75_1L] at h
 unfold p75_1 at h
 obtain⟨rfl,rfl⟩:=hs
 conv=>cbv
 refine br_h hO h (by subst hO;rfl) (fun k3 h=>?_) (fun k3 h=>?_)
 conv=>cbv
 refine z0b hO ?_
 conv=>cbv
 refine and_h h (fun g=>(by subst hO;exact g)) (fun h=>?_)
 refine and_h h (fun g=>(by subst hO;exact g)) (fun h=>?_)
 obtain⟨c7,c8,c9,hr,h⟩:=z0v h
 refine z1a hO _ (by subst hO;exact hr) ?_
 clear hr
 conv=>cbv
 refine z0d hO [.shut,.shut,.shut,.ref 1] (ih_p75 O.len hN h) ?_
 intro e Q a b
 conv=>cbv
 refine⟨by subst a hO;rfl,?_⟩
 intro r bs d
 rw [b] at d
 clear a b h
 obtain⟨y10,y11,_,_,_,⟨rfl,rfl⟩,h⟩:=d
 conv=>cbv
 refine br_h hO h (by subst hO;rfl) (fun k4 h=>?_) (fun k4 h=>?_)
 conv=>cbv
 rw [b]
 exact⟨false,y11,_,_,_,⟨(by subst hO;rfl),(by subst hO;rfl)⟩,h⟩
 conv=>cbv
 refine z0b hO ?_
 conv=>cbv
 exact hLn1 n1 _ _ (Nat.lt_succ_self n1) ⟨y11,z5,z0c .add .i64 z6 1,⟨(by (conv=>lhs;cbv)<;>(subst hO;rfl)),(by (conv=>lhs;cbv)<;>(subst hO;rfl))⟩,h⟩
 conv=>cbv
 rw [b]
 exact⟨true,z4,_,_,_,⟨(by subst hO;rfl),(by subst hO;rfl)⟩,h⟩)
theorem dd_p75 (fu:Nat):D_p75 fu:=by
 induction fu with
 | zero=>unfold D_p75;intros;rename_i h;rw [p75] at h;exact h.elim
 | succ n ih =>
  exact (by unfold D_p75;intro K0 L hN x0 x1 x2 x3 x4 x5 h;exact b_p75 n ih L hN (by rw [p75] at h;exact h))
theorem d_p75 (fu:Nat):D_p75 fu:=dd_p75 fu
theorem d_p68 (fu:Nat){K0:Bool→Prop}(L:EL→Nat)(hN:L=List.length){x0 x1:Int}{x2:EL}{x3:Int}(h:p68 False fu K0 x0 x1 x2 x3):Den Try.prog G0 68 [.agg [.c (.v (.int .i64 x0)),.c (.v (.int .i64 x1)),.c (.sl 3 x2 none)],.c (.v (.int .i64 x3))] (fun r bs=>(∃ (y0:Bool) (o0 o1:OV),(r=.c (.v (.bool y0))∧bs=[o0,o1])∧K0 y0)):=by
 obtain⟨O,hO⟩:∃ O,O=std 0 T G0 (Den Try.prog G0):=⟨_,rfl⟩
 have hLO:L=O.len:=by rw [hN,hO];rfl
 subst hLO
 refine den_h hO tiA mixed tabOk (fn:=Try.f68) (sh:=true) (by kernel_rfl) rfl rfl rfl rfl ?_
 intro Q b
 unfold p68 at h
 conv=>cbv
 refine z0d hO [.shut,.shut,.shut,.ref 1] (d_p75 fu O.len hN h) ?_
 intro e Q a b
 conv=>cbv
 refine⟨by subst a hO;rfl,?_⟩
 intro r bs d
 rw [b] at d
 clear a b h
 obtain⟨y1,y2,_,_,_,⟨rfl,rfl⟩,h⟩:=d
 conv=>cbv
 rw [b]
 exact⟨y1,_,_,⟨(by subst hO;rfl),(by subst hO;rfl)⟩,h⟩
def D_p57 (fu:Nat):Prop:=∀ {K0:Bool→Prop} (L:EL→Nat) (_:L=List.length) {x0 x1:Int} {x2:ByteArray} {x3 x4:EL} (_:p57 False fu K0 x0 x1 x2 x3 x4),Den Try.prog G0 57 [.agg [.c (.v (.int .i64 x0)),.c (.v (.int .i64 x1)),.c (.v (.string x2)),.c (.sl 3 x3 none),.c (.sl 5 x4 none)]] (fun r bs=>(∃ (y0:Bool) (o0:OV),(r=.c (.v (.bool y0))∧bs=[o0])∧K0 y0))
theorem b_p57 (fu:Nat)(ih_p57:D_p57 fu){K0:Bool→Prop}(L:EL→Nat)(hN:L=List.length){x0 x1:Int}{x2:ByteArray}{x3 x4:EL}(h:p57_b False fu (p57 False fu) K0 x0 x1 x2 x3 x4):Den Try.prog G0 57 [.agg [.c (.v (.int .i64 x0)),.c (.v (.int .i64 x1)),.c (.v (.string x2)),.c (.sl 3 x3 none),.c (.sl 5 x4 none)]] (fun r bs=>(∃ (y0:Bool) (o0:OV),(r=.c (.v (.bool y0))∧bs=[o0])∧K0 y0)):=by
 obtain⟨O,hO⟩:∃ O,O=std 0 T G0 (Den Try.prog G0):=⟨_,rfl⟩
 have hLO:L=O.len:=by rw [hN,hO];rfl
 subst hLO
 refine den_h hO tiA mixed tabOk (fn:=Try.f57) (sh:=true) (by kernel_rfl) rfl rfl rfl rfl ?_
 intro Q b
 unfold p57_b at h
 conv=>cbv
 refine z0g hO tiA [1,16] [2000] [] (fun tm m=>∃ (j1:Bool),((tm=frame 0 39 [(1,.p 2000 0 0),(16,.c (.v (.bool j1)))]∧m=⟨[(2000,.blk 0 [.c (.v (.int .i64 x0)),.c (.v (.int .i64 x1)),.c (.v (.string x2)),.c (.sl 3 x3 none),.c (.sl 5 x4 none)])],1⟩))∧p57_3 False fu (p57 False fu) K0 x3 x4 j1) (fun L hL_3=>?_) ?_
 conv=>cbv
 refine br_h hO h (by subst hO;rfl) (fun k6 h=>?_) (fun k6 h=>?_)
 conv=>cbv
 refine br_t hO k6 ?_
 conv=>cbv
 refine br_t hO k6 ?_
 conv=>cbv
 refine br_t hO k6 ?_
 conv=>cbv
 refine br_t hO k6 ?_
 conv=>cbv
 exact hL_3 _ _ ⟨true,⟨(by (conv=>lhs;cbv)<;>(subst hO;rfl)),(by (conv=>lhs;cbv)<;>(subst hO;rfl))⟩,h⟩
 conv=>cbv
 refine br_f hO k6 ?_
 conv=>cbv
 refine br_f hO k6 ?_
 conv=>cbv
 refine br_f hO k6 ?_
 conv=>cbv
 refine br_f hO k6 ?_
 conv=>cbv
 exact hL_3 _ _ ⟨(z0a .gtr ((x2.size:Nat):Int) 24),⟨(by (conv=>lhs;cbv)<;>(subst hO;rfl)),(by (conv=>lhs;cbv)<;>(subst hO;rfl))⟩,h⟩
 rintro tm m ⟨j1,hs,h⟩
 unfold p57_3 at h
 obtain⟨rfl,rfl⟩:=hs
 conv=>cbv
 refine br_h hO h (by subst hO;rfl) (fun k1 h=>?_) (fun k1 h=>?_)
 conv=>cbv
 rw [b]
 exact⟨false,_,⟨(by subst hO;rfl),(by subst hO;rfl)⟩,h⟩
 conv=>cbv
 refine z0b hO ?_
 conv=>cbv
 refine z0r hO tiA [1,18,19,20] [2000] [] (fun (n:Nat) tm m=>∃ (z2:Int) (z3:Int),((tm=frame 0 39 [(1,.p 2000 0 0),(18,.c (.sl 3 x3 none)),(19,.c (.v (.int .i64 z2))),(20,.c (.v (.int .i64 z3)))]∧m=⟨[(2000,.blk 0 [.c (.v (.int .i64 x0)),.c (.v (.int .i64 x1)),.c (.v (.string x2)),.c (.sl 3 x3 none),.c (.sl 5 x4 none)])],1⟩))∧p57_2L False fu (p57 False fu) K0 x3 x4 n z2 z3) (fun n=>n) fu ⟨((x3.length:Nat):Int),0,⟨(by (conv=>lhs;cbv)<;>(subst hO;rfl)),(by (conv=>lhs;cbv)<;>(subst hO;rfl))⟩,h⟩ ?_
 rintro n1 tm m L ⟨z2,z3,hs,h⟩ hLn1
 (cases n1 with
 | zero=>rw [p57_2L] at h;exact h.elim
 | succ n1 =>
 rw [p57_2L] at h
 unfold p57_2 at h
 obtain⟨rfl,rfl⟩:=hs
 conv=>cbv
 refine br_h hO h (by subst hO;rfl) (fun k2 h=>?_) (fun k2 h=>?_)
 conv=>cbv
 refine z0b hO ?_
 conv=>cbv
 refine and_h h (fun g=>(by subst hO;exact g)) (fun h=>?_)
 refine and_h h (fun g=>(by subst hO;exact g)) (fun h=>?_)
 obtain⟨c4,c5,c6,hr,h⟩:=z0v h
 refine z1a hO _ (by subst hO;exact hr) ?_
 clear hr
 conv=>cbv
 refine z0d hO [.shut,.shut] (d_p68 fu O.len hN h) ?_
 intro e Q a b
 conv=>cbv
 refine⟨by subst a hO;rfl,?_⟩
 intro r bs d
 rw [b] at d
 clear a b h
 obtain⟨y7,_,_,⟨rfl,rfl⟩,h⟩:=d
 conv=>cbv
 refine br_h hO h (by subst hO;rfl) (fun k3 h=>?_) (fun k3 h=>?_)
 conv=>cbv
 rw [b]
 exact⟨false,_,⟨(by subst hO;rfl),(by subst hO;rfl)⟩,h⟩
 conv=>cbv
 refine z0b hO ?_
 conv=>cbv
 exact hLn1 n1 _ _ (Nat.lt_succ_self n1) ⟨z2,z0c .add .i64 z3 1,⟨(by (conv=>lhs;cbv)<;>(subst hO;rfl)),(by (conv=>lhs;cbv)<;>(subst hO;rfl))⟩,h⟩
 conv=>cbv
 refine z0r hO tiA [29,30,31] [] [] (fun (n:Nat) tm m=>∃ (z8:Int) (z9:Int),((tm=frame 0 39 [(29,.c (.sl 5 x4 none)),(30,.c (.v (.int .i64 z8))),(31,.c (.v (.int .i64 z9)))]∧m=⟨[],1⟩))∧p57_1L False fu (p57 False fu) K0 x4 n z8 z9) (fun n=>n) fu ⟨((x4.length:Nat):Int),0,⟨(by (conv=>lhs;cbv)<;>(subst hO;rfl)),(by (conv=>lhs;cbv)<;>(subst hO;rfl))⟩,h⟩ ?_
 rintro n2 tm m L ⟨z8,z9,hs,h⟩ hLn2
 (cases n2 with
 | zero=>rw [p57_1L] at h;exact h.elim
 | succ n2 =>
 rw [p57_1L] at h
 unfold p57_1 at h
 obtain⟨rfl,rfl⟩:=hs
 conv=>cbv
 refine br_h hO h (by subst hO;rfl) (fun k4 h=>?_) (fun k4 h=>?_)
 conv=>cbv
 refine z0b hO ?_
 conv=>cbv
 refine and_h h (fun g=>(by subst hO;exact g)) (fun h=>?_)
 refine and_h h (fun g=>(by subst hO;exact g)) (fun h=>?_)
 obtain⟨c10,c11,c12,c13,c14,hr,h⟩:=z0s h
 refine z1a hO _ (by subst hO;exact hr) ?_
 clear hr
 conv=>cbv
 refine z0d hO [.shut] (ih_p57 O.len hN h) ?_
 intro e Q a b
 conv=>cbv
 refine⟨by subst a hO;rfl,?_⟩
 intro r bs d
 rw [b] at d
 clear a b h
 obtain⟨y15,_,⟨rfl,rfl⟩,h⟩:=d
 conv=>cbv
 refine br_h hO h (by subst hO;rfl) (fun k5 h=>?_) (fun k5 h=>?_)
 conv=>cbv
 rw [b]
 exact⟨false,_,⟨(by subst hO;rfl),(by subst hO;rfl)⟩,h⟩
 conv=>cbv
 refine z0b hO ?_
 conv=>cbv
 exact hLn2 n2 _ _ (Nat.lt_succ_self n2) ⟨z8,z0c .add .i64 z9 1,⟨(by (conv=>lhs;cbv)<;>(subst hO;rfl)),(by (conv=>lhs;cbv)<;>(subst hO;rfl))⟩,h⟩
 conv=>cbv
 rw [b]
 exact⟨true,_,⟨(by subst hO;rfl),(by subst hO;rfl)⟩,h⟩))
theorem dd_p57 (fu:Nat):D_p57 fu:=by
 induction fu with
 | zero=>unfold D_p57;intros;rename_i h;rw [p57] at h;exact h.elim
 | succ n ih =>
  exact (by unfold D_p57;intro K0 L hN x0 x1 x2 x3 x4 h;exact b_p57 n ih L hN (by rw [p57] at h;exact h))
theorem d_p57 (fu:Nat):D_p57 fu:=dd_p57 fu
theorem d_p37 (fu:Nat){K0:Bool→Prop}(L:EL→Nat)(hN:L=List.length){x0 x1:Int}{x2:ByteArray}{x3 x4:EL}(h:p37 False fu K0 x0 x1 x2 x3 x4):Den Try.prog G0 37 [.agg [.c (.v (.int .i64 x0)),.c (.v (.int .i64 x1)),.c (.v (.string x2)),.c (.sl 3 x3 none),.c (.sl 5 x4 none)]] (fun r bs=>(∃ (y0:Bool) (o0:OV),(r=.c (.v (.bool y0))∧bs=[o0])∧K0 y0)):=by
 obtain⟨O,hO⟩:∃ O,O=std 0 T G0 (Den Try.prog G0):=⟨_,rfl⟩
 have hLO:L=O.len:=by rw [hN,hO];rfl
 subst hLO
 refine den_h hO tiA mixed tabOk (fn:=Try.f37) (sh:=true) (by kernel_rfl) rfl rfl rfl rfl ?_
 intro Q b
 unfold p37 at h
 conv=>cbv
 refine z0d hO [.shut,.shut] (d_p55 fu O.len hN h) ?_
 intro e Q a b
 conv=>cbv
 refine⟨by subst a hO;rfl,?_⟩
 intro r bs d
 rw [b] at d
 clear a b h
 obtain⟨y1,y2,_,_,⟨rfl,rfl⟩,h⟩:=d
 conv=>cbv
 refine z0g hO tiA [2] [] [] (fun tm m=>∃ (j3:Bool),((tm=frame 0 24 [(2,.c (.v (.bool j3)))]∧m=⟨[],1⟩))∧p37_1 False fu K0 j3) (fun L hL_1=>?_) ?_
 conv=>cbv
 refine br_h hO h (by subst hO;rfl) (fun k1 h=>?_) (fun k1 h=>?_)
 conv=>cbv
 refine br_t hO k1 ?_
 conv=>cbv
 refine br_t hO k1 ?_
 conv=>cbv
 refine br_h hO h (by subst hO;rfl) (fun k2 h=>?_) (fun k2 h=>?_)
 conv=>cbv
 refine br_t hO k2 ?_
 conv=>cbv
 refine z0d hO [.shut,.shut] (d_p56 fu O.len hN h) ?_
 intro e Q a b
 conv=>cbv
 refine⟨by subst a hO;rfl,?_⟩
 intro r bs d
 rw [b] at d
 clear a b h
 obtain⟨y4,_,_,⟨rfl,rfl⟩,h⟩:=d
 conv=>cbv
 refine br_t hO k2 ?_
 conv=>cbv
 refine br_t hO k2 ?_
 conv=>cbv
 refine br_h hO h (by subst hO;rfl) (fun k3 h=>?_) (fun k3 h=>?_)
 conv=>cbv
 refine br_t hO k3 ?_
 conv=>cbv
 refine z0d hO [.shut] (d_p57 fu O.len hN h) ?_
 intro e Q a b
 conv=>cbv
 refine⟨by subst a hO;rfl,?_⟩
 intro r bs d
 rw [b] at d
 clear a b h
 obtain⟨y5,_,⟨rfl,rfl⟩,h⟩:=d
 conv=>cbv
 refine br_t hO k3 ?_
 conv=>cbv
 exact hL_1 _ _ ⟨y5,⟨(by (conv=>lhs;cbv)<;>(subst hO;rfl)),(by (conv=>lhs;cbv)<;>(subst hO;rfl))⟩,h⟩
 conv=>cbv
 refine br_f hO k3 ?_
 conv=>cbv
 refine br_f hO k3 ?_
 conv=>cbv
 exact hL_1 _ _ ⟨false,⟨(by (conv=>lhs;cbv)<;>(subst hO;rfl)),(by (conv=>lhs;cbv)<;>(subst hO;rfl))⟩,h⟩
 conv=>cbv
 refine br_f hO k2 ?_
 conv=>cbv
 refine br_f hO k2 ?_
 conv=>cbv
 refine br_f hO k2 ?_
 conv=>cbv
 refine br_f hO rfl ?_
 conv=>cbv
 refine br_f hO rfl ?_
 conv=>cbv
 refine br_f hO rfl ?_
 conv=>cbv
 exact hL_1 _ _ ⟨false,⟨(by (conv=>lhs;cbv)<;>(subst hO;rfl)),(by (conv=>lhs;cbv)<;>(subst hO;rfl))⟩,h⟩
 conv=>cbv
 refine br_f hO k1 ?_
 conv=>cbv
 refine br_f hO k1 ?_
 conv=>cbv
 refine br_f hO rfl ?_
 conv=>cbv
 refine br_f hO rfl ?_
 conv=>cbv
 refine br_f hO rfl ?_
 conv=>cbv
 refine br_f hO rfl ?_
 conv=>cbv
 refine br_f hO rfl ?_
 conv=>cbv
 refine br_f hO rfl ?_
 conv=>cbv
 refine br_f hO rfl ?_
 conv=>cbv
 exact hL_1 _ _ ⟨false,⟨(by (conv=>lhs;cbv)<;>(subst hO;rfl)),(by (conv=>lhs;cbv)<;>(subst hO;rfl))⟩,h⟩
 rintro tm m ⟨j3,hs,h⟩
 unfold p37_1 at h
 obtain⟨rfl,rfl⟩:=hs
 conv=>cbv
 rw [b]
 exact⟨j3,_,⟨(by subst hO;rfl),(by subst hO;rfl)⟩,h⟩
def D_p70b (fu:Nat):Prop:=∀ {K0:Bool→Prop} (L:EL→Nat) (_:L=List.length) {x0 x1:Int} {x2:EL} {x3 x4:Int} {x5:EL} (_:p70b False fu K0 x0 x1 x2 x3 x4 x5),Den Try.prog G0 70 [.agg [.c (.v (.int .i64 x0)),.c (.v (.int .i64 x1)),.c (.sl 3 x2 none)],.agg [.c (.v (.int .i64 x3)),.c (.v (.int .i64 x4)),.c (.sl 3 x5 none)]] (fun r bs=>(∃ (y0:Bool) (o0 o1:OV),(r=.c (.v (.bool y0))∧bs=[o0,o1])∧K0 y0))
def D_p69 (fu:Nat):Prop:=∀ {K0:Bool→Prop} (L:EL→Nat) (_:L=List.length) {x0 x1:EL} (_:p69 False fu K0 x0 x1),Den Try.prog G0 69 [.c (.sl 3 x0 none),.c (.sl 3 x1 none),.c (.v (.func (.func 70) #[] #[]))] (fun r bs=>(∃ (y0:Bool) (o0 o1 o2:OV),(r=.c (.v (.bool y0))∧bs=[o0,o1,o2])∧K0 y0))
theorem b_p70b (fu:Nat)(ih_p70b:D_p70b fu)(ih_p69:D_p69 fu){K0:Bool→Prop}(L:EL→Nat)(hN:L=List.length){x0 x1:Int}{x2:EL}{x3 x4:Int}{x5:EL}(h:p70b_b False fu (p70b False fu) (p69 False fu) K0 x0 x1 x2 x3 x4 x5):Den Try.prog G0 70 [.agg [.c (.v (.int .i64 x0)),.c (.v (.int .i64 x1)),.c (.sl 3 x2 none)],.agg [.c (.v (.int .i64 x3)),.c (.v (.int .i64 x4)),.c (.sl 3 x5 none)]] (fun r bs=>(∃ (y0:Bool) (o0 o1:OV),(r=.c (.v (.bool y0))∧bs=[o0,o1])∧K0 y0)):=by
 obtain⟨O,hO⟩:∃ O,O=std 0 T G0 (Den Try.prog G0):=⟨_,rfl⟩
 have hLO:L=O.len:=by rw [hN,hO];rfl
 subst hLO
 refine den_h hO tiA mixed tabOk (fn:=Try.f70) (sh:=true) (by kernel_rfl) rfl rfl rfl rfl ?_
 intro Q b
 unfold p70b_b at h
 conv=>cbv
 refine z0g hO tiA [4] [] [] (fun tm m=>∃ (j1:Bool),((tm=frame 0 24 [(4,.c (.v (.bool j1)))]∧m=⟨[],1⟩))∧p70b_1 False fu (p70b False fu) (p69 False fu) K0 j1) (fun L hL_1=>?_) ?_
 conv=>cbv
 refine br_h hO h (by subst hO;rfl) (fun k1 h=>?_) (fun k1 h=>?_)
 conv=>cbv
 refine br_t hO k1 ?_
 conv=>cbv
 refine br_t hO k1 ?_
 conv=>cbv
 refine br_t hO k1 ?_
 conv=>cbv
 refine br_t hO k1 ?_
 conv=>cbv
 refine br_t hO k1 ?_
 conv=>cbv
 refine br_h hO h (by subst hO;rfl) (fun k2 h=>?_) (fun k2 h=>?_)
 conv=>cbv
 refine br_t hO k2 ?_
 conv=>cbv
 refine br_t hO k2 ?_
 conv=>cbv
 refine br_t hO k2 ?_
 conv=>cbv
 refine br_t hO k2 ?_
 conv=>cbv
 refine z0d hO [.shut,.shut,.shut] (ih_p69 O.len hN h) ?_
 intro e Q a b
 conv=>cbv
 refine⟨by subst a hO;rfl,?_⟩
 intro r bs d
 rw [b] at d
 clear a b h
 obtain⟨y2,_,_,_,⟨rfl,rfl⟩,h⟩:=d
 conv=>cbv
 refine br_t hO k2 ?_
 conv=>cbv
 exact hL_1 _ _ ⟨y2,⟨(by (conv=>lhs;cbv)<;>(subst hO;rfl)),(by (conv=>lhs;cbv)<;>(subst hO;rfl))⟩,h⟩
 conv=>cbv
 refine br_f hO k2 ?_
 conv=>cbv
 refine br_f hO k2 ?_
 conv=>cbv
 refine br_f hO k2 ?_
 conv=>cbv
 refine br_f hO k2 ?_
 conv=>cbv
 refine br_f hO k2 ?_
 conv=>cbv
 exact hL_1 _ _ ⟨false,⟨(by (conv=>lhs;cbv)<;>(subst hO;rfl)),(by (conv=>lhs;cbv)<;>(subst hO;rfl))⟩,h⟩
 conv=>cbv
 refine br_f hO k1 ?_
 conv=>cbv
 refine br_f hO k1 ?_
 conv=>cbv
 refine br_f hO k1 ?_
 conv=>cbv
 refine br_f hO k1 ?_
 conv=>cbv
 refine br_f hO k1 ?_
 conv=>cbv
 refine br_f hO rfl ?_
 conv=>cbv
 refine br_f hO rfl ?_
 conv=>cbv
 refine br_f hO rfl ?_
 conv=>cbv
 refine br_f hO rfl ?_
 conv=>cbv
 refine br_f hO rfl ?_
 conv=>cbv
 refine br_f hO rfl ?_
 conv=>cbv
 exact hL_1 _ _ ⟨false,⟨(by (conv=>lhs;cbv)<;>(subst hO;rfl)),(by (conv=>lhs;cbv)<;>(subst hO;rfl))⟩,h⟩
 rintro tm m ⟨j1,hs,h⟩
 unfold p70b_1 at h
 obtain⟨rfl,rfl⟩:=hs
 conv=>cbv
 rw [b]
 exact⟨j1,_,_,⟨(by subst hO;rfl),(by subst hO;rfl)⟩,h⟩
theorem b_p69 (fu:Nat)(ih_p70b:D_p70b fu)(ih_p69:D_p69 fu){K0:Bool→Prop}(L:EL→Nat)(hN:L=List.length){x0 x1:EL}(h:p69_b False fu (p70b False fu) (p69 False fu) K0 x0 x1):Den Try.prog G0 69 [.c (.sl 3 x0 none),.c (.sl 3 x1 none),.c (.v (.func (.func 70) #[] #[]))] (fun r bs=>(∃ (y0:Bool) (o0 o1 o2:OV),(r=.c (.v (.bool y0))∧bs=[o0,o1,o2])∧K0 y0)):=by
 obtain⟨O,hO⟩:∃ O,O=std 0 T G0 (Den Try.prog G0):=⟨_,rfl⟩
 have hLO:L=O.len:=by rw [hN,hO];rfl
 subst hLO
 refine den_h hO tiA mixed tabOk (fn:=Try.f69) (sh:=true) (by kernel_rfl) rfl rfl rfl rfl ?_
 intro Q b
 unfold p69_b at h
 conv=>cbv
 refine br_h hO h (by subst hO;rfl) (fun k1 h=>?_) (fun k1 h=>?_)
 conv=>cbv
 rw [b]
 exact⟨false,_,_,_,⟨(by subst hO;rfl),(by subst hO;rfl)⟩,h⟩
 conv=>cbv
 refine z0b hO ?_
 conv=>cbv
 refine z0r hO tiA [1,2,15,16,17] [] [] (fun (n:Nat) tm m=>∃ (z1:Int) (z2:Int),((tm=frame 0 32 [(1,.c (.sl 3 x1 none)),(2,.c (.v (.func (.func 70) #[] #[]))),(15,.c (.sl 3 x0 none)),(16,.c (.v (.int .i64 z1))),(17,.c (.v (.int .i64 z2)))]∧m=⟨[],1⟩))∧p69_1L False fu (p70b False fu) (p69 False fu) K0 x0 x1 n z1 z2) (fun n=>n) fu ⟨((x0.length:Nat):Int),0,⟨(by (conv=>lhs;cbv)<;>(subst hO;rfl)),(by (conv=>lhs;cbv)<;>(subst hO;rfl))⟩,h⟩ ?_
 rintro n1 tm m L ⟨z1,z2,hs,h⟩ hLn1
 (cases n1 with
 | zero=>rw [p69_1L] at h;exact h.elim
 | succ n1 =>
 rw [p69_1L] at h
 unfold p69_1 at h
 obtain⟨rfl,rfl⟩:=hs
 conv=>cbv
 refine br_h hO h (by subst hO;rfl) (fun k2 h=>?_) (fun k2 h=>?_)
 conv=>cbv
 refine z0b hO ?_
 conv=>cbv
 refine and_h h (fun g=>(by subst hO;exact g)) (fun h=>?_)
 refine and_h h (fun g=>(by subst hO;exact g)) (fun h=>?_)
 obtain⟨c3,c4,c5,hr,h⟩:=z0v h
 refine z1a hO _ (by subst hO;exact hr) ?_
 clear hr
 conv=>cbv
 refine and_h h (fun g=>(by subst hO;exact g)) (fun h=>?_)
 refine and_h h (fun g=>(by subst hO;exact g)) (fun h=>?_)
 obtain⟨c6,c7,c8,hr,h⟩:=z0v h
 refine z1a hO _ (by subst hO;exact hr) ?_
 clear hr
 conv=>cbv
 refine z0d hO [.shut,.shut] (ih_p70b O.len hN h) ?_
 intro e Q a b
 conv=>cbv
 refine⟨by subst a hO;rfl,?_⟩
 intro r bs d
 rw [b] at d
 clear a b h
 obtain⟨y9,_,_,⟨rfl,rfl⟩,h⟩:=d
 conv=>cbv
 refine br_h hO h (by subst hO;rfl) (fun k3 h=>?_) (fun k3 h=>?_)
 conv=>cbv
 rw [b]
 exact⟨false,_,_,_,⟨(by subst hO;rfl),(by subst hO;rfl)⟩,h⟩
 conv=>cbv
 refine z0b hO ?_
 conv=>cbv
 exact hLn1 n1 _ _ (Nat.lt_succ_self n1) ⟨z1,z0c .add .i64 z2 1,⟨(by (conv=>lhs;cbv)<;>(subst hO;rfl)),(by (conv=>lhs;cbv)<;>(subst hO;rfl))⟩,h⟩
 conv=>cbv
 rw [b]
 exact⟨true,_,_,_,⟨(by subst hO;rfl),(by subst hO;rfl)⟩,h⟩)
theorem dd_p70b (fu:Nat):D_p70b fu∧D_p69 fu:=by
 induction fu with
 | zero=>exact⟨(by unfold D_p70b;intros;rename_i h;rw [p70b] at h;exact h.elim),(by unfold D_p69;intros;rename_i h;rw [p69] at h;exact h.elim)⟩
 | succ n ih =>
  obtain⟨i0,i1⟩:=ih
  exact⟨(by unfold D_p70b;intro K0 L hN x0 x1 x2 x3 x4 x5 h;exact b_p70b n i0 i1 L hN (by rw [p70b] at h;exact h)),(by unfold D_p69;intro K0 L hN x0 x1 h;exact b_p69 n i0 i1 L hN (by rw [p69] at h;exact h))⟩
theorem d_p69 (fu:Nat):D_p69 fu:=(dd_p70b fu).2
def D_p71b (fu:Nat):Prop:=∀ {K0:Bool→Prop} (L:EL→Nat) (_:L=List.length) {x0 x1:EL} (_:p71b False fu K0 x0 x1),Den Try.prog G0 71 [.c (.sl 5 x0 none),.c (.sl 5 x1 none),.c (.v (.func (.func 58) #[] #[]))] (fun r bs=>(∃ (y0:Bool) (o0 o1 o2:OV),(r=.c (.v (.bool y0))∧bs=[o0,o1,o2])∧K0 y0))
def D_p58 (fu:Nat):Prop:=∀ {K0:Bool→Prop} (L:EL→Nat) (_:L=List.length) {x0 x1:Int} {x2:ByteArray} {x3 x4:EL} {x5 x6:Int} {x7:ByteArray} {x8 x9:EL} (_:p58 False fu K0 x0 x1 x2 x3 x4 x5 x6 x7 x8 x9),Den Try.prog G0 58 [.agg [.c (.v (.int .i64 x0)),.c (.v (.int .i64 x1)),.c (.v (.string x2)),.c (.sl 3 x3 none),.c (.sl 5 x4 none)],.agg [.c (.v (.int .i64 x5)),.c (.v (.int .i64 x6)),.c (.v (.string x7)),.c (.sl 3 x8 none),.c (.sl 5 x9 none)]] (fun r bs=>(∃ (y0:Bool) (o0 o1:OV),(r=.c (.v (.bool y0))∧bs=[o0,o1])∧K0 y0))
theorem b_p71b (fu:Nat)(ih_p71b:D_p71b fu)(ih_p58:D_p58 fu){K0:Bool→Prop}(L:EL→Nat)(hN:L=List.length){x0 x1:EL}(h:p71b_b False fu (p71b False fu) (p58 False fu) K0 x0 x1):Den Try.prog G0 71 [.c (.sl 5 x0 none),.c (.sl 5 x1 none),.c (.v (.func (.func 58) #[] #[]))] (fun r bs=>(∃ (y0:Bool) (o0 o1 o2:OV),(r=.c (.v (.bool y0))∧bs=[o0,o1,o2])∧K0 y0)):=by
 obtain⟨O,hO⟩:∃ O,O=std 0 T G0 (Den Try.prog G0):=⟨_,rfl⟩
 have hLO:L=O.len:=by rw [hN,hO];rfl
 subst hLO
 refine den_h hO tiA mixed tabOk (fn:=Try.f71) (sh:=true) (by kernel_rfl) rfl rfl rfl rfl ?_
 intro Q b
 unfold p71b_b at h
 conv=>cbv
 refine br_h hO h (by subst hO;rfl) (fun k1 h=>?_) (fun k1 h=>?_)
 conv=>cbv
 rw [b]
 exact⟨false,_,_,_,⟨(by subst hO;rfl),(by subst hO;rfl)⟩,h⟩
 conv=>cbv
 refine z0b hO ?_
 conv=>cbv
 refine z0r hO tiA [1,2,15,16,17] [] [] (fun (n:Nat) tm m=>∃ (z1:Int) (z2:Int),((tm=frame 0 32 [(1,.c (.sl 5 x1 none)),(2,.c (.v (.func (.func 58) #[] #[]))),(15,.c (.sl 5 x0 none)),(16,.c (.v (.int .i64 z1))),(17,.c (.v (.int .i64 z2)))]∧m=⟨[],1⟩))∧p71b_1L False fu (p71b False fu) (p58 False fu) K0 x0 x1 n z1 z2) (fun n=>n) fu ⟨((x0.length:Nat):Int),0,⟨(by (conv=>lhs;cbv)<;>(subst hO;rfl)),(by (conv=>lhs;cbv)<;>(subst hO;rfl))⟩,h⟩ ?_
 rintro n1 tm m L ⟨z1,z2,hs,h⟩ hLn1
 (cases n1 with
 | zero=>rw [p71b_1L] at h;exact h.elim
 | succ n1 =>
 rw [p71b_1L] at h
 unfold p71b_1 at h
 obtain⟨rfl,rfl⟩:=hs
 conv=>cbv
 refine br_h hO h (by subst hO;rfl) (fun k2 h=>?_) (fun k2 h=>?_)
 conv=>cbv
 refine z0b hO ?_
 conv=>cbv
 refine and_h h (fun g=>(by subst hO;exact g)) (fun h=>?_)
 refine and_h h (fun g=>(by subst hO;exact g)) (fun h=>?_)
 obtain⟨c3,c4,c5,c6,c7,hr,h⟩:=z0s h
 refine z1a hO _ (by subst hO;exact hr) ?_
 clear hr
 conv=>cbv
 refine and_h h (fun g=>(by subst hO;exact g)) (fun h=>?_)
 refine and_h h (fun g=>(by subst hO;exact g)) (fun h=>?_)
 obtain⟨c8,c9,c10,c11,c12,hr,h⟩:=z0s h
 refine z1a hO _ (by subst hO;exact hr) ?_
 clear hr
 conv=>cbv
 refine z0d hO [.shut,.shut] (ih_p58 O.len hN h) ?_
 intro e Q a b
 conv=>cbv
 refine⟨by subst a hO;rfl,?_⟩
 intro r bs d
 rw [b] at d
 clear a b h
 obtain⟨y13,_,_,⟨rfl,rfl⟩,h⟩:=d
 conv=>cbv
 refine br_h hO h (by subst hO;rfl) (fun k3 h=>?_) (fun k3 h=>?_)
 conv=>cbv
 rw [b]
 exact⟨false,_,_,_,⟨(by subst hO;rfl),(by subst hO;rfl)⟩,h⟩
 conv=>cbv
 refine z0b hO ?_
 conv=>cbv
 exact hLn1 n1 _ _ (Nat.lt_succ_self n1) ⟨z1,z0c .add .i64 z2 1,⟨(by (conv=>lhs;cbv)<;>(subst hO;rfl)),(by (conv=>lhs;cbv)<;>(subst hO;rfl))⟩,h⟩
 conv=>cbv
 rw [b]
 exact⟨true,_,_,_,⟨(by subst hO;rfl),(by subst hO;rfl)⟩,h⟩)
theorem b_p58 (fu:Nat)(ih_p71b:D_p71b fu)(ih_p58:D_p58 fu){K0:Bool→Prop}(L:EL→Nat)(hN:L=List.length){x0 x1:Int}{x2:ByteArray}{x3 x4:EL}{x5 x6:Int}{x7:ByteArray}{x8 x9:EL}(h:p58_b False fu (p71b False fu) (p58 False fu) K0 x0 x1 x2 x3 x4 x5 x6 x7 x8 x9):Den Try.prog G0 58 [.agg [.c (.v (.int .i64 x0)),.c (.v (.int .i64 x1)),.c (.v (.string x2)),.c (.sl 3 x3 none),.c (.sl 5 x4 none)],.agg [.c (.v (.int .i64 x5)),.c (.v (.int .i64 x6)),.c (.v (.string x7)),.c (.sl 3 x8 none),.c (.sl 5 x9 none)]] (fun r bs=>(∃ (y0:Bool) (o0 o1:OV),(r=.c (.v (.bool y0))∧bs=[o0,o1])∧K0 y0)):=by
 obtain⟨O,hO⟩:∃ O,O=std 0 T G0 (Den Try.prog G0):=⟨_,rfl⟩
 have hLO:L=O.len:=by rw [hN,hO];rfl
 subst hLO
 refine den_h hO tiA mixed tabOk (fn:=Try.f58) (sh:=true) (by kernel_rfl) rfl rfl rfl rfl ?_
 intro Q b
 unfold p58_b at h
 conv=>cbv
 refine z0g hO tiA [4] [] [] (fun tm m=>∃ (j1:Bool),((tm=frame 0 38 [(4,.c (.v (.bool j1)))]∧m=⟨[],1⟩))∧p58_1 False fu (p71b False fu) (p58 False fu) K0 j1) (fun L hL_1=>?_) ?_
 conv=>cbv
 refine br_h hO h (by subst hO;rfl) (fun k1 h=>?_) (fun k1 h=>?_)
 conv=>cbv
 refine br_t hO k1 ?_
 conv=>cbv
 refine br_t hO k1 ?_
 conv=>cbv
 refine br_t hO k1 ?_
 conv=>cbv
 refine br_t hO k1 ?_
 conv=>cbv
 refine br_t hO k1 ?_
 conv=>cbv
 refine br_h hO h (by subst hO;rfl) (fun k2 h=>?_) (fun k2 h=>?_)
 conv=>cbv
 refine br_t hO k2 ?_
 conv=>cbv
 refine br_t hO k2 ?_
 conv=>cbv
 refine br_t hO k2 ?_
 conv=>cbv
 refine br_t hO k2 ?_
 conv=>cbv
 refine br_t hO k2 ?_
 conv=>cbv
 refine br_h hO h (by subst hO;rfl) (fun k3 h=>?_) (fun k3 h=>?_)
 conv=>cbv
 refine br_t hO k3 ?_
 conv=>cbv
 refine br_t hO k3 ?_
 conv=>cbv
 refine br_t hO k3 ?_
 conv=>cbv
 refine br_t hO k3 ?_
 conv=>cbv
 refine z0d hO [.shut,.shut,.shut] (d_p69 fu O.len hN h) ?_
 intro e Q a b
 conv=>cbv
 refine⟨by subst a hO;rfl,?_⟩
 intro r bs d
 rw [b] at d
 clear a b h
 obtain⟨y2,_,_,_,⟨rfl,rfl⟩,h⟩:=d
 conv=>cbv
 refine br_t hO k3 ?_
 conv=>cbv
 refine br_h hO h (by subst hO;rfl) (fun k4 h=>?_) (fun k4 h=>?_)
 conv=>cbv
 refine br_t hO k4 ?_
 conv=>cbv
 refine br_t hO k4 ?_
 conv=>cbv
 refine br_t hO k4 ?_
 conv=>cbv
 refine br_t hO k4 ?_
 conv=>cbv
 refine z0d hO [.shut,.shut,.shut] (ih_p71b O.len hN h) ?_
 intro e Q a b
 conv=>cbv
 refine⟨by subst a hO;rfl,?_⟩
 intro r bs d
 rw [b] at d
 clear a b h
 obtain⟨y3,_,_,_,⟨rfl,rfl⟩,h⟩:=d
 conv=>cbv
 refine br_t hO k4 ?_
 conv=>cbv
 exact hL_1 _ _ ⟨y3,⟨(by (conv=>lhs;cbv)<;>(subst hO;rfl)),(by (conv=>lhs;cbv)<;>(subst hO;rfl))⟩,h⟩
 conv=>cbv
 refine br_f hO k4 ?_
 conv=>cbv
 refine br_f hO k4 ?_
 conv=>cbv
 refine br_f hO k4 ?_
 conv=>cbv
 refine br_f hO k4 ?_
 conv=>cbv
 refine br_f hO k4 ?_
 conv=>cbv
 exact hL_1 _ _ ⟨false,⟨(by (conv=>lhs;cbv)<;>(subst hO;rfl)),(by (conv=>lhs;cbv)<;>(subst hO;rfl))⟩,h⟩
 conv=>cbv
 refine br_f hO k3 ?_
 conv=>cbv
 refine br_f hO k3 ?_
 conv=>cbv
 refine br_f hO k3 ?_
 conv=>cbv
 refine br_f hO k3 ?_
 conv=>cbv
 refine br_f hO k3 ?_
 conv=>cbv
 refine br_f hO rfl ?_
 conv=>cbv
 refine br_f hO rfl ?_
 conv=>cbv
 refine br_f hO rfl ?_
 conv=>cbv
 refine br_f hO rfl ?_
 conv=>cbv
 refine br_f hO rfl ?_
 conv=>cbv
 refine br_f hO rfl ?_
 conv=>cbv
 exact hL_1 _ _ ⟨false,⟨(by (conv=>lhs;cbv)<;>(subst hO;rfl)),(by (conv=>lhs;cbv)<;>(subst hO;rfl))⟩,h⟩
 conv=>cbv
 refine br_f hO k2 ?_
 conv=>cbv
 refine br_f hO k2 ?_
 conv=>cbv
 refine br_f hO k2 ?_
 conv=>cbv
 refine br_f hO k2 ?_
 conv=>cbv
 refine br_f hO k2 ?_
 conv=>cbv
 refine br_f hO rfl ?_
 conv=>cbv
 refine br_f hO rfl ?_
 conv=>cbv
 refine br_f hO rfl ?_
 conv=>cbv
 refine br_f hO rfl ?_
 conv=>cbv
 refine br_f hO rfl ?_
 conv=>cbv
 refine br_f hO rfl ?_
 conv=>cbv
 refine br_f hO rfl ?_
 conv=>cbv
 refine br_f hO rfl ?_
 conv=>cbv
 refine br_f hO rfl ?_
 conv=>cbv
 refine br_f hO rfl ?_
 conv=>cbv
 refine br_f hO rfl ?_
 conv=>cbv
 refine br_f hO rfl ?_
 conv=>cbv
 exact hL_1 _ _ ⟨false,⟨(by (conv=>lhs;cbv)<;>(subst hO;rfl)),(by (conv=>lhs;cbv)<;>(subst hO;rfl))⟩,h⟩
 conv=>cbv
 refine br_f hO k1 ?_
 conv=>cbv
 refine br_f hO k1 ?_
 conv=>cbv
 refine br_f hO k1 ?_
 conv=>cbv
 refine br_f hO k1 ?_
 conv=>cbv
 refine br_f hO k1 ?_
 conv=>cbv
 refine br_f hO rfl ?_
 conv=>cbv
 refine br_f hO rfl ?_
 conv=>cbv
 refine br_f hO rfl ?_
 conv=>cbv
 refine br_f hO rfl ?_
 conv=>cbv
 refine br_f hO rfl ?_
 conv=>cbv
 refine br_f hO rfl ?_
 conv=>cbv
 refine br_f hO rfl ?_
 conv=>cbv
 refine br_f hO rfl ?_
 conv=>cbv
 refine br_f hO rfl ?_
 conv=>cbv
 refine br_f hO rfl ?_
 conv=>cbv
 refine br_f hO rfl ?_
 conv=>cbv
 refine br_f hO rfl ?_
 conv=>cbv
 refine br_f hO rfl ?_
 conv=>cbv
 refine br_f hO rfl ?_
 conv=>cbv
 refine br_f hO rfl ?_
 conv=>cbv
 refine br_f hO rfl ?_
 conv=>cbv
 refine br_f hO rfl ?_
 conv=>cbv
 refine br_f hO rfl ?_
 conv=>cbv
 exact hL_1 _ _ ⟨false,⟨(by (conv=>lhs;cbv)<;>(subst hO;rfl)),(by (conv=>lhs;cbv)<;>(subst hO;rfl))⟩,h⟩
 rintro tm m ⟨j1,hs,h⟩
 unfold p58_1 at h
 obtain⟨rfl,rfl⟩:=hs
 conv=>cbv
 rw [b]
 exact⟨j1,_,_,⟨(by subst hO;rfl),(by subst hO;rfl)⟩,h⟩
theorem dd_p71b (fu:Nat):D_p71b fu∧D_p58 fu:=by
 induction fu with
 | zero=>exact⟨(by unfold D_p71b;intros;rename_i h;rw [p71b] at h;exact h.elim),(by unfold D_p58;intros;rename_i h;rw [p58] at h;exact h.elim)⟩
 | succ n ih =>
  obtain⟨i0,i1⟩:=ih
  exact⟨(by unfold D_p71b;intro K0 L hN x0 x1 h;exact b_p71b n i0 i1 L hN (by rw [p71b] at h;exact h)),(by unfold D_p58;intro K0 L hN x0 x1 x2 x3 x4 x5 x6 x7 x8 x9 h;exact b_p58 n i0 i1 L hN (by rw [p58] at h;exact h))⟩
theorem d_p58 (fu:Nat):D_p58 fu:=(dd_p71b fu).2
theorem d_p38 (fu:Nat){K0:Bool→Prop}(L:EL→Nat)(hN:L=List.length){x0 x1:Int}{x2:ByteArray}{x3 x4:EL}(h:p38 False fu K0 x0 x1 x2 x3 x4):Den Try.prog G0 38 [.agg [.c (.v (.int .i64 x0)),.c (.v (.int .i64 x1)),.c (.v (.string x2)),.c (.sl 3 x3 none),.c (.sl 5 x4 none)]] (fun r bs=>(∃ (y0:Bool) (o0:OV),(r=.c (.v (.bool y0))∧bs=[o0])∧K0 y0)):=by
 obtain⟨O,hO⟩:∃ O,O=std 0 T G0 (Den Try.prog G0):=⟨_,rfl⟩
 have hLO:L=O.len:=by rw [hN,hO];rfl
 subst hLO
 refine den_h hO tiA mixed tabOk (fn:=Try.f38) (sh:=true) (by kernel_rfl) rfl rfl rfl rfl ?_
 intro Q b
 unfold p38 at h
 conv=>cbv
 refine z0d hO [.shut,.shut] (d_p58 fu O.len hN h) ?_
 intro e Q a b
 conv=>cbv
 refine⟨by subst a hO;rfl,?_⟩
 intro r bs d
 rw [b] at d
 clear a b h
 obtain⟨y1,_,_,⟨rfl,rfl⟩,h⟩:=d
 conv=>cbv
 rw [b]
 exact⟨y1,_,⟨(by subst hO;rfl),(by subst hO;rfl)⟩,h⟩
theorem d_p39 (fu:Nat){K0:Bool→Prop}(L:EL→Nat)(hN:L=List.length){x0 x1 x2:Int}{x3 x4:ByteArray}{x5 x6:Int}{x7:ByteArray}{x8 x9:EL}{x10 x11:Int}{x12:ByteArray}{x13 x14 x15:EL}(h:p39 False fu K0 x0 x1 x2 x3 x4 x5 x6 x7 x8 x9 x10 x11 x12 x13 x14 x15):Den Try.prog G0 39 [.agg [.c (.v (.int .i64 x0)),.c (.v (.int .i64 x1)),.c (.v (.int .i64 x2)),.c (.v (.string x3)),.c (.v (.string x4)),.c (.v (.int .i64 x5)),.c (.v (.int .i64 x6)),.c (.v (.string x7)),.c (.sl 3 x8 none),.c (.sl 5 x9 none),.c (.v (.int .i64 x10)),.c (.v (.int .i64 x11)),.c (.v (.string x12)),.c (.sl 3 x13 none),.c (.sl 5 x14 none),.c (.sl 6 x15 none)]] (fun r bs=>(∃ (y0:Bool) (o0:OV),(r=.c (.v (.bool y0))∧bs=[o0])∧K0 y0)):=by
 obtain⟨O,hO⟩:∃ O,O=std 0 T G0 (Den Try.prog G0):=⟨_,rfl⟩
 have hLO:L=O.len:=by rw [hN,hO];rfl
 subst hLO
 refine den_h hO tiA mixed tabOk (fn:=Try.f39) (sh:=true) (by kernel_rfl) rfl rfl rfl rfl ?_
 intro Q b
 unfold p39 at h
 conv=>cbv
 refine z0g hO tiA [1,42] [2000] [] (fun tm m=>∃ (j1:Bool),((tm=frame 0 87 [(1,.p 2000 0 0),(42,.c (.v (.bool j1)))]∧m=⟨[(2000,.blk 0 [.c (.v (.int .i64 x0)),.c (.v (.int .i64 x1)),.c (.v (.int .i64 x2)),.c (.v (.string x3)),.c (.v (.string x4)),.c (.v (.int .i64 x5)),.c (.v (.int .i64 x6)),.c (.v (.string x7)),.c (.sl 3 x8 none),.c (.sl 5 x9 none),.c (.v (.int .i64 x10)),.c (.v (.int .i64 x11)),.c (.v (.string x12)),.c (.sl 3 x13 none),.c (.sl 5 x14 none),.c (.sl 6 x15 none)])],1⟩))∧p39_4 False fu K0 x0 x5 x6 x7 x8 x9 x10 x11 x12 x13 x14 x15 j1) (fun L hL_4=>?_) ?_
 conv=>cbv
 refine br_h hO h (by subst hO;rfl) (fun k9 h=>?_) (fun k9 h=>?_)
 conv=>cbv
 refine br_t hO k9 ?_
 conv=>cbv
 refine br_t hO k9 ?_
 conv=>cbv
 refine br_t hO k9 ?_
 conv=>cbv
 refine br_t hO rfl ?_
 conv=>cbv
 refine br_t hO rfl ?_
 conv=>cbv
 refine br_t hO rfl ?_
 conv=>cbv
 refine br_t hO rfl ?_
 conv=>cbv
 refine br_t hO rfl ?_
 conv=>cbv
 refine br_t hO rfl ?_
 conv=>cbv
 refine br_t hO rfl ?_
 conv=>cbv
 refine br_t hO rfl ?_
 conv=>cbv
 refine br_t hO rfl ?_
 conv=>cbv
 refine br_t hO rfl ?_
 conv=>cbv
 refine br_t hO rfl ?_
 conv=>cbv
 refine br_t hO rfl ?_
 conv=>cbv
 refine br_t hO rfl ?_
 conv=>cbv
 refine br_t hO rfl ?_
 conv=>cbv
 refine br_t hO rfl ?_
 conv=>cbv
 refine br_t hO rfl ?_
 conv=>cbv
 refine br_t hO rfl ?_
 conv=>cbv
 refine br_t hO rfl ?_
 conv=>cbv
 refine br_t hO rfl ?_
 conv=>cbv
 refine br_t hO rfl ?_
 conv=>cbv
 refine br_t hO rfl ?_
 conv=>cbv
 refine br_t hO rfl ?_
 conv=>cbv
 refine br_t hO rfl ?_
 conv=>cbv
 refine br_t hO rfl ?_
 conv=>cbv
 refine br_t hO rfl ?_
 conv=>cbv
 exact hL_4 _ _ ⟨true,⟨(by (conv=>lhs;cbv)<;>(subst hO;rfl)),(by (conv=>lhs;cbv)<;>(subst hO;rfl))⟩,h⟩
 conv=>cbv
 refine br_f hO k9 ?_
 conv=>cbv
 refine br_f hO k9 ?_
 conv=>cbv
 refine br_f hO k9 ?_
 conv=>cbv
 refine br_h hO h (by subst hO;rfl) (fun k10 h=>?_) (fun k10 h=>?_)
 conv=>cbv
 refine br_t hO k10 ?_
 conv=>cbv
 refine br_t hO k10 ?_
 conv=>cbv
 refine br_t hO k10 ?_
 conv=>cbv
 refine br_t hO k10 ?_
 conv=>cbv
 refine br_t hO rfl ?_
 conv=>cbv
 refine br_t hO rfl ?_
 conv=>cbv
 refine br_t hO rfl ?_
 conv=>cbv
 refine br_t hO rfl ?_
 conv=>cbv
 refine br_t hO rfl ?_
 conv=>cbv
 refine br_t hO rfl ?_
 conv=>cbv
 refine br_t hO rfl ?_
 conv=>cbv
 refine br_t hO rfl ?_
 conv=>cbv
 refine br_t hO rfl ?_
 conv=>cbv
 refine br_t hO rfl ?_
 conv=>cbv
 refine br_t hO rfl ?_
 conv=>cbv
 refine br_t hO rfl ?_
 conv=>cbv
 refine br_t hO rfl ?_
 conv=>cbv
 refine br_t hO rfl ?_
 conv=>cbv
 refine br_t hO rfl ?_
 conv=>cbv
 refine br_t hO rfl ?_
 conv=>cbv
 refine br_t hO rfl ?_
 conv=>cbv
 refine br_t hO rfl ?_
 conv=>cbv
 refine br_t hO rfl ?_
 conv=>cbv
 refine br_t hO rfl ?_
 conv=>cbv
 exact hL_4 _ _ ⟨true,⟨(by (conv=>lhs;cbv)<;>(subst hO;rfl)),(by (conv=>lhs;cbv)<;>(subst hO;rfl))⟩,h⟩
 conv=>cbv
 refine br_f hO k10 ?_
 conv=>cbv
 refine br_f hO k10 ?_
 conv=>cbv
 refine z0d hO [.shut] (d_p36 fu O.len hN h) ?_
 intro e Q a b
 conv=>cbv
 refine⟨by subst a hO;rfl,?_⟩
 intro r bs d
 rw [b] at d
 clear a b h
 obtain⟨y16,_,⟨rfl,rfl⟩,h⟩:=d
 conv=>cbv
 refine br_f hO k10 ?_
 conv=>cbv
 refine br_f hO k10 ?_
 conv=>cbv
 refine br_h hO h (by subst hO;rfl) (fun k11 h=>?_) (fun k11 h=>?_)
 conv=>cbv
 refine br_t hO k11 ?_
 conv=>cbv
 refine br_t hO k11 ?_
 conv=>cbv
 refine br_t hO k11 ?_
 conv=>cbv
 refine br_t hO k11 ?_
 conv=>cbv
 refine br_t hO rfl ?_
 conv=>cbv
 refine br_t hO rfl ?_
 conv=>cbv
 refine br_t hO rfl ?_
 conv=>cbv
 refine br_t hO rfl ?_
 conv=>cbv
 refine br_t hO rfl ?_
 conv=>cbv
 refine br_t hO rfl ?_
 conv=>cbv
 refine br_t hO rfl ?_
 conv=>cbv
 refine br_t hO rfl ?_
 conv=>cbv
 refine br_t hO rfl ?_
 conv=>cbv
 refine br_t hO rfl ?_
 conv=>cbv
 refine br_t hO rfl ?_
 conv=>cbv
 refine br_t hO rfl ?_
 conv=>cbv
 refine br_t hO rfl ?_
 conv=>cbv
 refine br_t hO rfl ?_
 conv=>cbv
 refine br_t hO rfl ?_
 conv=>cbv
 exact hL_4 _ _ ⟨true,⟨(by (conv=>lhs;cbv)<;>(subst hO;rfl)),(by (conv=>lhs;cbv)<;>(subst hO;rfl))⟩,h⟩
 conv=>cbv
 refine br_f hO k11 ?_
 conv=>cbv
 refine br_f hO k11 ?_
 conv=>cbv
 refine z0d hO [.shut] (d_p36 fu O.len hN h) ?_
 intro e Q a b
 conv=>cbv
 refine⟨by subst a hO;rfl,?_⟩
 intro r bs d
 rw [b] at d
 clear a b h
 obtain⟨y17,_,⟨rfl,rfl⟩,h⟩:=d
 conv=>cbv
 refine br_f hO k11 ?_
 conv=>cbv
 refine br_f hO k11 ?_
 conv=>cbv
 refine br_h hO h (by subst hO;rfl) (fun k12 h=>?_) (fun k12 h=>?_)
 conv=>cbv
 refine br_t hO k12 ?_
 conv=>cbv
 refine br_t hO k12 ?_
 conv=>cbv
 refine br_t hO k12 ?_
 conv=>cbv
 refine br_t hO k12 ?_
 conv=>cbv
 refine br_t hO rfl ?_
 conv=>cbv
 refine br_t hO rfl ?_
 conv=>cbv
 refine br_t hO rfl ?_
 conv=>cbv
 refine br_t hO rfl ?_
 conv=>cbv
 refine br_t hO rfl ?_
 conv=>cbv
 refine br_t hO rfl ?_
 conv=>cbv
 refine br_t hO rfl ?_
 conv=>cbv
 refine br_t hO rfl ?_
 conv=>cbv
 refine br_t hO rfl ?_
 conv=>cbv
 refine br_t hO rfl ?_
 conv=>cbv
 exact hL_4 _ _ ⟨true,⟨(by (conv=>lhs;cbv)<;>(subst hO;rfl)),(by (conv=>lhs;cbv)<;>(subst hO;rfl))⟩,h⟩
 conv=>cbv
 refine br_f hO k12 ?_
 conv=>cbv
 refine br_f hO k12 ?_
 conv=>cbv
 refine br_f hO k12 ?_
 conv=>cbv
 refine br_f hO k12 ?_
 conv=>cbv
 refine br_h hO h (by subst hO;rfl) (fun k13 h=>?_) (fun k13 h=>?_)
 conv=>cbv
 refine br_t hO k13 ?_
 conv=>cbv
 refine br_t hO k13 ?_
 conv=>cbv
 refine br_t hO k13 ?_
 conv=>cbv
 refine br_t hO k13 ?_
 conv=>cbv
 refine br_t hO rfl ?_
 conv=>cbv
 refine br_t hO rfl ?_
 conv=>cbv
 refine br_t hO rfl ?_
 conv=>cbv
 refine br_t hO rfl ?_
 conv=>cbv
 refine br_t hO rfl ?_
 conv=>cbv
 exact hL_4 _ _ ⟨true,⟨(by (conv=>lhs;cbv)<;>(subst hO;rfl)),(by (conv=>lhs;cbv)<;>(subst hO;rfl))⟩,h⟩
 conv=>cbv
 refine br_f hO k13 ?_
 conv=>cbv
 refine br_f hO k13 ?_
 conv=>cbv
 refine br_f hO k13 ?_
 conv=>cbv
 refine br_f hO k13 ?_
 conv=>cbv
 refine br_h hO h (by subst hO;rfl) (fun k14 h=>?_) (fun k14 h=>?_)
 conv=>cbv
 refine br_t hO k14 ?_
 conv=>cbv
 refine br_t hO k14 ?_
 conv=>cbv
 refine br_t hO k14 ?_
 conv=>cbv
 refine br_t hO k14 ?_
 conv=>cbv
 exact hL_4 _ _ ⟨true,⟨(by (conv=>lhs;cbv)<;>(subst hO;rfl)),(by (conv=>lhs;cbv)<;>(subst hO;rfl))⟩,h⟩
 conv=>cbv
 refine br_f hO k14 ?_
 conv=>cbv
 refine br_f hO k14 ?_
 conv=>cbv
 refine br_f hO k14 ?_
 conv=>cbv
 refine br_f hO k14 ?_
 conv=>cbv
 exact hL_4 _ _ ⟨(z0a .gtr ((x15.length:Nat):Int) 5),⟨(by (conv=>lhs;cbv)<;>(subst hO;rfl)),(by (conv=>lhs;cbv)<;>(subst hO;rfl))⟩,h⟩
 rintro tm m ⟨j1,hs,h⟩
 unfold p39_4 at h
 obtain⟨rfl,rfl⟩:=hs
 conv=>cbv
 refine br_h hO h (by subst hO;rfl) (fun k1 h=>?_) (fun k1 h=>?_)
 conv=>cbv
 rw [b]
 exact⟨false,_,⟨(by subst hO;rfl),(by subst hO;rfl)⟩,h⟩
 conv=>cbv
 refine z0b hO ?_
 conv=>cbv
 refine z0g hO tiA [1,68] [2000] [] (fun tm m=>∃ (j2:Bool),((tm=frame 0 87 [(1,.p 2000 0 0),(68,.c (.v (.bool j2)))]∧m=⟨[(2000,.blk 0 [.c (.v (.int .i64 x0)),.c (.v (.int .i64 x1)),.c (.v (.int .i64 x2)),.c (.v (.string x3)),.c (.v (.string x4)),.c (.v (.int .i64 x5)),.c (.v (.int .i64 x6)),.c (.v (.string x7)),.c (.sl 3 x8 none),.c (.sl 5 x9 none),.c (.v (.int .i64 x10)),.c (.v (.int .i64 x11)),.c (.v (.string x12)),.c (.sl 3 x13 none),.c (.sl 5 x14 none),.c (.sl 6 x15 none)])],1⟩))∧p39_3 False fu K0 x15 j2) (fun L hL_3=>?_) ?_
 conv=>cbv
 refine z0d hO [.shut] (d_p37 fu O.len hN h) ?_
 intro e Q a b
 conv=>cbv
 refine⟨by subst a hO;rfl,?_⟩
 intro r bs d
 rw [b] at d
 clear a b h
 obtain⟨y13,_,⟨rfl,rfl⟩,h⟩:=d
 conv=>cbv
 refine br_h hO h (by subst hO;rfl) (fun k6 h=>?_) (fun k6 h=>?_)
 conv=>cbv
 refine br_t hO k6 ?_
 conv=>cbv
 refine br_t hO k6 ?_
 conv=>cbv
 refine br_t hO k6 ?_
 conv=>cbv
 refine br_t hO k6 ?_
 conv=>cbv
 refine br_t hO k6 ?_
 conv=>cbv
 refine br_t hO rfl ?_
 conv=>cbv
 refine br_t hO rfl ?_
 conv=>cbv
 refine br_t hO rfl ?_
 conv=>cbv
 refine br_t hO rfl ?_
 conv=>cbv
 refine br_t hO rfl ?_
 conv=>cbv
 refine br_t hO rfl ?_
 conv=>cbv
 exact hL_3 _ _ ⟨true,⟨(by (conv=>lhs;cbv)<;>(subst hO;rfl)),(by (conv=>lhs;cbv)<;>(subst hO;rfl))⟩,h⟩
 conv=>cbv
 refine br_f hO k6 ?_
 conv=>cbv
 refine br_f hO k6 ?_
 conv=>cbv
 refine br_f hO k6 ?_
 conv=>cbv
 refine br_h hO h (by subst hO;rfl) (fun k7 h=>?_) (fun k7 h=>?_)
 conv=>cbv
 refine br_t hO k7 ?_
 conv=>cbv
 refine br_t hO k7 ?_
 conv=>cbv
 refine z0d hO [.shut] (d_p37 fu O.len hN h) ?_
 intro e Q a b
 conv=>cbv
 refine⟨by subst a hO;rfl,?_⟩
 intro r bs d
 rw [b] at d
 clear a b h
 obtain⟨y14,_,⟨rfl,rfl⟩,h⟩:=d
 conv=>cbv
 refine br_t hO k7 ?_
 conv=>cbv
 refine br_f hO k6 ?_
 conv=>cbv
 refine br_t hO k7 ?_
 conv=>cbv
 refine br_f hO k6 ?_
 conv=>cbv
 refine br_h hO h (by subst hO;rfl) (fun k8 h=>?_) (fun k8 h=>?_)
 conv=>cbv
 refine br_t hO k8 ?_
 conv=>cbv
 refine br_t hO k8 ?_
 conv=>cbv
 refine br_t hO k8 ?_
 conv=>cbv
 refine br_t hO k8 ?_
 conv=>cbv
 refine br_t hO k8 ?_
 conv=>cbv
 exact hL_3 _ _ ⟨true,⟨(by (conv=>lhs;cbv)<;>(subst hO;rfl)),(by (conv=>lhs;cbv)<;>(subst hO;rfl))⟩,h⟩
 conv=>cbv
 refine br_f hO k8 ?_
 conv=>cbv
 refine br_f hO k8 ?_
 conv=>cbv
 refine br_f hO k8 ?_
 conv=>cbv
 refine br_f hO (z2m hO .eql .neq rfl rfl rfl k7) ?_
 conv=>cbv
 refine br_f hO (z2m hO .eql .neq rfl rfl rfl k7) ?_
 conv=>cbv
 refine br_f hO (z2m hO .eql .neq rfl rfl rfl k7) ?_
 conv=>cbv
 refine br_f hO (z2m hO .eql .neq rfl rfl rfl k7) ?_
 conv=>cbv
 refine br_f hO k8 ?_
 conv=>cbv
 refine br_f hO (z2m hO .eql .neq rfl rfl rfl k7) ?_
 conv=>cbv
 refine br_f hO k8 ?_
 conv=>cbv
 exact hL_3 _ _ ⟨false,⟨(by (conv=>lhs;cbv)<;>(subst hO;rfl)),(by (conv=>lhs;cbv)<;>(subst hO;rfl))⟩,h⟩
 conv=>cbv
 refine br_f hO k7 ?_
 conv=>cbv
 refine br_f hO k7 ?_
 conv=>cbv
 refine br_f hO k7 ?_
 conv=>cbv
 refine br_f hO k6 ?_
 conv=>cbv
 refine br_f hO k7 ?_
 conv=>cbv
 refine br_f hO k6 ?_
 conv=>cbv
 refine br_f hO rfl ?_
 conv=>cbv
 refine br_f hO rfl ?_
 conv=>cbv
 refine br_f hO rfl ?_
 conv=>cbv
 refine br_f hO rfl ?_
 conv=>cbv
 refine br_t hO (z2m hO .eql .neq rfl rfl rfl k7) ?_
 conv=>cbv
 refine br_t hO (z2m hO .eql .neq rfl rfl rfl k7) ?_
 conv=>cbv
 refine br_t hO (z2m hO .eql .neq rfl rfl rfl k7) ?_
 conv=>cbv
 refine z0d hO [.shut] (d_p38 fu O.len hN h) ?_
 intro e Q a b
 conv=>cbv
 refine⟨by subst a hO;rfl,?_⟩
 intro r bs d
 rw [b] at d
 clear a b h
 obtain⟨y15,_,⟨rfl,rfl⟩,h⟩:=d
 conv=>cbv
 refine br_t hO (z2m hO .eql .neq rfl rfl rfl k7) ?_
 conv=>cbv
 refine br_f hO rfl ?_
 conv=>cbv
 refine br_t hO (z2m hO .eql .neq rfl rfl rfl k7) ?_
 conv=>cbv
 refine br_f hO rfl ?_
 conv=>cbv
 exact hL_3 _ _ ⟨(!y15),⟨(by (conv=>lhs;cbv)<;>(subst hO;rfl)),(by (conv=>lhs;cbv)<;>(subst hO;rfl))⟩,h⟩
 rintro tm m ⟨j2,hs,h⟩
 unfold p39_3 at h
 obtain⟨rfl,rfl⟩:=hs
 conv=>cbv
 refine br_h hO h (by subst hO;rfl) (fun k2 h=>?_) (fun k2 h=>?_)
 conv=>cbv
 rw [b]
 exact⟨false,_,⟨(by subst hO;rfl),(by subst hO;rfl)⟩,h⟩
 conv=>cbv
 refine z0b hO ?_
 conv=>cbv
 refine z0r hO tiA [70,71,72] [] [] (fun (n:Nat) tm m=>∃ (z3:Int) (z4:Int),((tm=frame 0 87 [(70,.c (.sl 6 x15 none)),(71,.c (.v (.int .i64 z3))),(72,.c (.v (.int .i64 z4)))]∧m=⟨[],1⟩))∧p39_2L False fu K0 x15 n z3 z4) (fun n=>n) fu ⟨((x15.length:Nat):Int),0,⟨(by (conv=>lhs;cbv)<;>(subst hO;rfl)),(by (conv=>lhs;cbv)<;>(subst hO;rfl))⟩,h⟩ ?_
 rintro n1 tm m L ⟨z3,z4,hs,h⟩ hLn1
 (cases n1 with
 | zero=>rw [p39_2L] at h;exact h.elim
 | succ n1 =>
 rw [p39_2L] at h
 unfold p39_2 at h
 obtain⟨rfl,rfl⟩:=hs
 conv=>cbv
 refine br_h hO h (by subst hO;rfl) (fun k3 h=>?_) (fun k3 h=>?_)
 conv=>cbv
 refine z0b hO ?_
 conv=>cbv
 refine and_h h (fun g=>(by subst hO;exact g)) (fun h=>?_)
 refine and_h h (fun g=>(by subst hO;exact g)) (fun h=>?_)
 obtain⟨c5,c6,c7,c8,c9,c10,hr,h⟩:=z0x h
 refine z1a hO _ (by subst hO;exact hr) ?_
 clear hr
 conv=>cbv
 refine z0g hO tiA [70,71,72,85] [] [] (fun tm m=>∃ (j11:Bool),((tm=frame 0 87 [(70,.c (.sl 6 x15 none)),(71,.c (.v (.int .i64 z3))),(72,.c (.v (.int .i64 z4))),(85,.c (.v (.bool j11)))]∧m=⟨[],1⟩))∧p39_1 False fu K0 (p39_2L False fu K0 x15 n1) z3 z4 j11) (fun L hL_1=>?_) ?_
 conv=>cbv
 refine br_h hO h (by subst hO;rfl) (fun k5 h=>?_) (fun k5 h=>?_)
 conv=>cbv
 refine br_t hO k5 ?_
 conv=>cbv
 refine br_t hO k5 ?_
 conv=>cbv
 refine br_t hO k5 ?_
 conv=>cbv
 refine br_t hO k5 ?_
 conv=>cbv
 exact hL_1 _ _ ⟨true,⟨(by (conv=>lhs;cbv)<;>(subst hO;rfl)),(by (conv=>lhs;cbv)<;>(subst hO;rfl))⟩,h⟩
 conv=>cbv
 refine br_f hO k5 ?_
 conv=>cbv
 refine br_f hO k5 ?_
 conv=>cbv
 refine z0d hO [.shut] (d_p37 fu O.len hN h) ?_
 intro e Q a b
 conv=>cbv
 refine⟨by subst a hO;rfl,?_⟩
 intro r bs d
 rw [b] at d
 clear a b h
 obtain⟨y12,_,⟨rfl,rfl⟩,h⟩:=d
 conv=>cbv
 refine br_f hO k5 ?_
 conv=>cbv
 refine br_f hO k5 ?_
 conv=>cbv
 exact hL_1 _ _ ⟨(!y12),⟨(by (conv=>lhs;cbv)<;>(subst hO;rfl)),(by (conv=>lhs;cbv)<;>(subst hO;rfl))⟩,h⟩
 rintro tm m ⟨j11,hs,h⟩
 unfold p39_1 at h
 obtain⟨rfl,rfl⟩:=hs
 conv=>cbv
 refine br_h hO h (by subst hO;rfl) (fun k4 h=>?_) (fun k4 h=>?_)
 conv=>cbv
 rw [b]
 exact⟨false,_,⟨(by subst hO;rfl),(by subst hO;rfl)⟩,h⟩
 conv=>cbv
 refine z0b hO ?_
 conv=>cbv
 exact hLn1 n1 _ _ (Nat.lt_succ_self n1) ⟨z3,z0c .add .i64 z4 1,⟨(by (conv=>lhs;cbv)<;>(subst hO;rfl)),(by (conv=>lhs;cbv)<;>(subst hO;rfl))⟩,h⟩
 conv=>cbv
 rw [b]
 exact⟨true,_,⟨(by subst hO;rfl),(by subst hO;rfl)⟩,h⟩)
theorem d_p40 (fu:Nat){K0:Bool→Prop}(L:EL→Nat)(hN:L=List.length){x0 x1 x2:Int}{x3 x4:ByteArray}{x5 x6:Int}{x7:ByteArray}{x8 x9:EL}{x10 x11:Int}{x12:ByteArray}{x13 x14 x15:EL}(h:p40 False fu K0 x0 x1 x2 x3 x4 x5 x6 x7 x8 x9 x10 x11 x12 x13 x14 x15):Den Try.prog G0 40 [.agg [.c (.v (.int .i64 x0)),.c (.v (.int .i64 x1)),.c (.v (.int .i64 x2)),.c (.v (.string x3)),.c (.v (.string x4)),.c (.v (.int .i64 x5)),.c (.v (.int .i64 x6)),.c (.v (.string x7)),.c (.sl 3 x8 none),.c (.sl 5 x9 none),.c (.v (.int .i64 x10)),.c (.v (.int .i64 x11)),.c (.v (.string x12)),.c (.sl 3 x13 none),.c (.sl 5 x14 none),.c (.sl 6 x15 none)]] (fun r bs=>(∃ (y0:Bool) (o0:OV),(r=.c (.v (.bool y0))∧bs=[o0])∧K0 y0)):=by
 obtain⟨O,hO⟩:∃ O,O=std 0 T G0 (Den Try.prog G0):=⟨_,rfl⟩
 have hLO:L=O.len:=by rw [hN,hO];rfl
 subst hLO
 refine den_h hO tiA mixed tabOk (fn:=Try.f40) (sh:=true) (by kernel_rfl) rfl rfl rfl rfl ?_
 intro Q b
 unfold p40 at h
 conv=>cbv
 refine z0g hO tiA [2] [] [] (fun tm m=>∃ (j1:Bool),((tm=frame 0 37 [(2,.c (.v (.bool j1)))]∧m=⟨[],1⟩))∧p40_1 False fu K0 j1) (fun L hL_1=>?_) ?_
 conv=>cbv
 refine br_h hO h (by subst hO;rfl) (fun k1 h=>?_) (fun k1 h=>?_)
 conv=>cbv
 refine br_t hO k1 ?_
 conv=>cbv
 refine br_t hO k1 ?_
 conv=>cbv
 refine br_t hO k1 ?_
 conv=>cbv
 refine br_h hO h (by subst hO;rfl) (fun k2 h=>?_) (fun k2 h=>?_)
 conv=>cbv
 refine br_t hO k2 ?_
 conv=>cbv
 refine br_t hO k2 ?_
 conv=>cbv
 refine br_t hO k2 ?_
 conv=>cbv
 refine br_h hO h (by subst hO;rfl) (fun k3 h=>?_) (fun k3 h=>?_)
 conv=>cbv
 refine br_t hO k3 ?_
 conv=>cbv
 refine br_t hO k3 ?_
 conv=>cbv
 refine br_t hO k3 ?_
 conv=>cbv
 refine br_h hO h (by subst hO;rfl) (fun k4 h=>?_) (fun k4 h=>?_)
 conv=>cbv
 refine br_t hO k4 ?_
 conv=>cbv
 refine br_t hO k4 ?_
 conv=>cbv
 refine z0d hO [.shut] (d_p38 fu O.len hN h) ?_
 intro e Q a b
 conv=>cbv
 refine⟨by subst a hO;rfl,?_⟩
 intro r bs d
 rw [b] at d
 clear a b h
 obtain⟨y2,_,⟨rfl,rfl⟩,h⟩:=d
 conv=>cbv
 refine br_t hO k4 ?_
 conv=>cbv
 refine br_h hO h (by subst hO;rfl) (fun k5 h=>?_) (fun k5 h=>?_)
 conv=>cbv
 refine br_t hO k5 ?_
 conv=>cbv
 refine br_t hO k5 ?_
 conv=>cbv
 refine z0d hO [.shut] (d_p38 fu O.len hN h) ?_
 intro e Q a b
 conv=>cbv
 refine⟨by subst a hO;rfl,?_⟩
 intro r bs d
 rw [b] at d
 clear a b h
 obtain⟨y3,_,⟨rfl,rfl⟩,h⟩:=d
 conv=>cbv
 refine br_t hO k5 ?_
 conv=>cbv
 refine br_h hO h (by subst hO;rfl) (fun k6 h=>?_) (fun k6 h=>?_)
 conv=>cbv
 refine br_t hO k6 ?_
 conv=>cbv
 refine br_t hO k6 ?_
 conv=>cbv
 refine br_t hO k6 ?_
 conv=>cbv
 refine br_t hO k6 ?_
 conv=>cbv
 exact hL_1 _ _ ⟨(z0a .eql ((x15.length:Nat):Int) 0),⟨(by (conv=>lhs;cbv)<;>(subst hO;rfl)),(by (conv=>lhs;cbv)<;>(subst hO;rfl))⟩,h⟩
 conv=>cbv
 refine br_f hO k6 ?_
 conv=>cbv
 refine br_f hO k6 ?_
 conv=>cbv
 refine br_f hO k6 ?_
 conv=>cbv
 refine br_f hO k6 ?_
 conv=>cbv
 exact hL_1 _ _ ⟨false,⟨(by (conv=>lhs;cbv)<;>(subst hO;rfl)),(by (conv=>lhs;cbv)<;>(subst hO;rfl))⟩,h⟩
 conv=>cbv
 refine br_f hO k5 ?_
 conv=>cbv
 refine br_f hO k5 ?_
 conv=>cbv
 refine br_f hO k5 ?_
 conv=>cbv
 refine br_f hO rfl ?_
 conv=>cbv
 refine br_f hO rfl ?_
 conv=>cbv
 refine br_f hO rfl ?_
 conv=>cbv
 refine br_f hO rfl ?_
 conv=>cbv
 refine br_f hO rfl ?_
 conv=>cbv
 exact hL_1 _ _ ⟨false,⟨(by (conv=>lhs;cbv)<;>(subst hO;rfl)),(by (conv=>lhs;cbv)<;>(subst hO;rfl))⟩,h⟩
 conv=>cbv
 refine br_f hO k4 ?_
 conv=>cbv
 refine br_f hO k4 ?_
 conv=>cbv
 refine br_f hO k4 ?_
 conv=>cbv
 refine br_f hO rfl ?_
 conv=>cbv
 refine br_f hO rfl ?_
 conv=>cbv
 refine br_f hO rfl ?_
 conv=>cbv
 refine br_f hO rfl ?_
 conv=>cbv
 refine br_f hO rfl ?_
 conv=>cbv
 refine br_f hO rfl ?_
 conv=>cbv
 refine br_f hO rfl ?_
 conv=>cbv
 refine br_f hO rfl ?_
 conv=>cbv
 refine br_f hO rfl ?_
 conv=>cbv
 exact hL_1 _ _ ⟨false,⟨(by (conv=>lhs;cbv)<;>(subst hO;rfl)),(by (conv=>lhs;cbv)<;>(subst hO;rfl))⟩,h⟩
 conv=>cbv
 refine br_f hO k3 ?_
 conv=>cbv
 refine br_f hO k3 ?_
 conv=>cbv
 refine br_f hO k3 ?_
 conv=>cbv
 refine br_f hO rfl ?_
 conv=>cbv
 refine br_f hO rfl ?_
 conv=>cbv
 refine br_f hO rfl ?_
 conv=>cbv
 refine br_f hO rfl ?_
 conv=>cbv
 refine br_f hO rfl ?_
 conv=>cbv
 refine br_f hO rfl ?_
 conv=>cbv
 refine br_f hO rfl ?_
 conv=>cbv
 refine br_f hO rfl ?_
 conv=>cbv
 refine br_f hO rfl ?_
 conv=>cbv
 refine br_f hO rfl ?_
 conv=>cbv
 refine br_f hO rfl ?_
 conv=>cbv
 refine br_f hO rfl ?_
 conv=>cbv
 refine br_f hO rfl ?_
 conv=>cbv
 exact hL_1 _ _ ⟨false,⟨(by (conv=>lhs;cbv)<;>(subst hO;rfl)),(by (conv=>lhs;cbv)<;>(subst hO;rfl))⟩,h⟩
 conv=>cbv
 refine br_f hO k2 ?_
 conv=>cbv
 refine br_f hO k2 ?_
 conv=>cbv
 refine br_f hO k2 ?_
 conv=>cbv
 refine br_f hO rfl ?_
 conv=>cbv
 refine br_f hO rfl ?_
 conv=>cbv
 refine br_f hO rfl ?_
 conv=>cbv
 refine br_f hO rfl ?_
 conv=>cbv
 refine br_f hO rfl ?_
 conv=>cbv
 refine br_f hO rfl ?_
 conv=>cbv
 refine br_f hO rfl ?_
 conv=>cbv
 refine br_f hO rfl ?_
 conv=>cbv
 refine br_f hO rfl ?_
 conv=>cbv
 refine br_f hO rfl ?_
 conv=>cbv
 refine br_f hO rfl ?_
 conv=>cbv
 refine br_f hO rfl ?_
 conv=>cbv
 refine br_f hO rfl ?_
 conv=>cbv
 refine br_f hO rfl ?_
 conv=>cbv
 refine br_f hO rfl ?_
 conv=>cbv
 refine br_f hO rfl ?_
 conv=>cbv
 refine br_f hO rfl ?_
 conv=>cbv
 exact hL_1 _ _ ⟨false,⟨(by (conv=>lhs;cbv)<;>(subst hO;rfl)),(by (conv=>lhs;cbv)<;>(subst hO;rfl))⟩,h⟩
 conv=>cbv
 refine br_f hO k1 ?_
 conv=>cbv
 refine br_f hO k1 ?_
 conv=>cbv
 refine br_f hO k1 ?_
 conv=>cbv
 refine br_f hO rfl ?_
 conv=>cbv
 refine br_f hO rfl ?_
 conv=>cbv
 refine br_f hO rfl ?_
 conv=>cbv
 refine br_f hO rfl ?_
 conv=>cbv
 refine br_f hO rfl ?_
 conv=>cbv
 refine br_f hO rfl ?_
 conv=>cbv
 refine br_f hO rfl ?_
 conv=>cbv
 refine br_f hO rfl ?_
 conv=>cbv
 refine br_f hO rfl ?_
 conv=>cbv
 refine br_f hO rfl ?_
 conv=>cbv
 refine br_f hO rfl ?_
 conv=>cbv
 refine br_f hO rfl ?_
 conv=>cbv
 refine br_f hO rfl ?_
 conv=>cbv
 refine br_f hO rfl ?_
 conv=>cbv
 refine br_f hO rfl ?_
 conv=>cbv
 refine br_f hO rfl ?_
 conv=>cbv
 refine br_f hO rfl ?_
 conv=>cbv
 refine br_f hO rfl ?_
 conv=>cbv
 refine br_f hO rfl ?_
 conv=>cbv
 refine br_f hO rfl ?_
 conv=>cbv
 refine br_f hO rfl ?_
 conv=>cbv
 exact hL_1 _ _ ⟨false,⟨(by (conv=>lhs;cbv)<;>(subst hO;rfl)),(by (conv=>lhs;cbv)<;>(subst hO;rfl))⟩,h⟩
 rintro tm m ⟨j1,hs,h⟩
 unfold p40_1 at h
 obtain⟨rfl,rfl⟩:=hs
 conv=>cbv
 rw [b]
 exact⟨j1,_,⟨(by subst hO;rfl),(by subst hO;rfl)⟩,h⟩
end Go.Proofs.Ytioiigabeoaneaa
