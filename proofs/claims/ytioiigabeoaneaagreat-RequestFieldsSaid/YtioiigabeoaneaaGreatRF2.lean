/- A part of the proof. Conditions: none. -/
import Derived.Test.YtioiigabeoaneaaGreatRF1
import Derived.IntWalk
import Derived.Laws.BytesString
namespace Go.Proofs.YtioiigabeoaneaaGreat.V
open Go Go.RowKit
section
variable {P:Program} {T:Tab} {X:Ctx} {S:D7} {pl:E2} {w:World} {m:Mem} {K:KK}
theorem z5w {t:TypeId} (hkn:Q2 P t=true) {cs:List AV} {us:List Value} (hl:us.length=cs.length) (hr:∀ (i:Nat) x u,cs[i]?=some x→us[i]?=some u→RelV S pl w m x u) (off:Nat)
  {K:AV→Prop} (hk:W2 (z3j P t) (P.cellsOf t) (cs.drop off) K):∃ u y,(part t us.toArray off).run P w=.ok u w∧K y∧RelV S pl w m y u:=by
 have hr':∀ (j:Nat) x,(cs.drop off)[j]?=some x→RelV S pl w m x (us.getD (off + j) undef):=fun j x hx=>by
  rw [List.getElem?_drop] at hx
  have hj:off + j < cs.length:=(List.getElem?_eq_some_iff.1 hx).1
  have hu:us[off + j]?=some us[off + j]:=List.getElem?_eq_getElem (by omega)
  have:=hr _ x _ hx hu
  simpa [List.getD,hu] using this
 obtain⟨hle,y,hy,hrel⟩:=z7t hr' hk
 rw [List.length_drop] at hle
 unfold part
 simp only [Sem.run_bind,z5r hkn,Result.andThen_ok]
 cases hag:z3j P t with
 | true =>
  rw [hag] at hrel hle
  simp only [if_true] at hrel hle
  simp only [if_true,Sem.run_bind,F7 hkn,Result.andThen_ok,Sem.run_pure]
  refine⟨_,y,rfl,hy,?_⟩
  have:us.toArray.extract off (off + P.cellsOf t)=((List.range (P.cellsOf t)).map fun j=>us.getD (off + j) undef).toArray:=by
   apply Array.ext'
   rw [Array.toList_extract]
   simp only [List.extract,Nat.add_sub_cancel_left]
   apply List.ext_getElem?
   intro j
   by_cases hj:j < P.cellsOf t
   ·rw [List.getElem?_take_of_lt hj,List.getElem?_drop,List.getElem?_map,List.getElem?_range hj]
    have hu:us[off + j]?=some us[off + j]:=List.getElem?_eq_getElem (by omega)
    simp [List.getD,hu]
   ·rw [List.getElem?_eq_none (by rw [List.length_take];omega),List.getElem?_eq_none (by simp;omega)]
  rw [this];exact hrel
 | false =>
  rw [hag] at hrel hle
  simp only [Bool.false_eq_true,if_false] at hrel hle ⊢
  have hu:us[off]?=some us[off]:=List.getElem?_eq_getElem (by omega)
  rw [show us.toArray[off]?=some us[off] by simp]
  refine⟨_,y,rfl,hy,?_⟩
  simpa [List.getD,hu] using hrel
theorem z9v (hT:TabOk P T) (h:St X S pl w m) {t f:Nat} {fs:List (Nat × Nat × Bool)} (hs:(T.at t).k=.st fs) {fd:Nat × Nat × Bool} (hf:fs[f]?=some fd) {x:AV} {a:Value} (hx:RelV S pl w m x a)
  (hk:z1b fd m x K):Did X S pl w m ((Instr.field t a f).run P w) K:=by
 have ht:=(hT.tk (t:=t) (by rw [hs];rfl)).1
 rw [hs] at ht;simp only [z3l] at ht
 split at ht
 ·rename_i fields hu
  simp only [Bool.and_eq_true,beq_iff_eq,List.all_eq_true] at ht
  obtain⟨hmap,hall⟩:=ht
  have hfi:(fields.toList.map (z3b P))[f]?=some fd:=by rw [hmap];exact hf
  rw [List.getElem?_map] at hfi
  cases hfl:fields.toList[f]? with
  | none=>rw [hfl] at hfi;simp at hfi
  | some g =>
   rw [hfl] at hfi
   simp only [Option.map_some,Option.some.injEq] at hfi
   subst hfi
   have hfa:fields[f]?=some g:=by rw [← Array.getElem?_toList];exact hfl
   unfold z1b at hk
   split at hk
   ·cases hx with | agg cs us hl hr =>
    obtain⟨u,y,hrun,hy,hrel⟩:=z5w (hall g (List.mem_of_getElem? hfl)) hl hr g.offset hk
    unfold Instr.field
    simp only [Sem.run_bind,run_underlying hu,Result.andThen_ok,hfa,asAgg,Sem.run_pure,hrun]
    exact Did.same h hy hrel
   ·exact hk.elim
 ·simp at ht
theorem z6m (h:St X S pl w m) {i:Nat} {x:AV} {a:Value} (hx:RelV S pl w m x a) (hk:T1 i m x K):Did X S pl w m ((Instr.extract a i).run P w) K:=by
 unfold T1 at hk
 split at hk
 ·cases hx with | tup cs us hl hr =>
  split at hk
  ·rename_i y hy
   have hi:i < us.length:=by rw [hl];exact (List.getElem?_eq_some_iff.1 hy).1
   have hu:us[i]?=some us[i]:=List.getElem?_eq_getElem hi
   unfold Instr.extract
   simp only [show us.toArray[i]?=some us[i] by simp,Sem.run_pure]
   exact Did.same h hk (hr i y _ hy hu)
  ·exact hk.elim
 ·exact hk.elim
theorem H5 (hT:TabOk P T) {t esz eb:Nat} {ea u8:Bool} (hs:(T.at t).k=.sl esz ea eb u8):∃ e,P.underlying t=some (.slice e)∧P.cellsOf e=esz∧P.bytesOf e=eb∧Q2 P e=true∧0 < esz∧eb≤2 ^ 30∧0 < eb ∧
  (z0n P e (T.at t).ezero=true∧(T.at t).ezero.length=esz)∧(u8=true→P.underlying e=some (.int .u8)):=by
 have ht:=(hT.tk (t:=t) (by rw [hs];rfl)).1
 rw [hs] at ht;simp only [z3l] at ht
 split at ht
 ·rename_i e hu
  simp only [Bool.and_eq_true,beq_iff_eq,decide_eq_true_eq,Bool.or_eq_true,Bool.not_eq_true'] at ht
  obtain⟨⟨⟨⟨⟨⟨⟨⟨h1,h2⟩,h3⟩,h4⟩,h5⟩,h6⟩,h7⟩,h8⟩,h9⟩:=ht
  refine⟨e,hu,h1,h3,h4,h5,h6,h7,h8,fun hu8=>?_⟩
  rcases h9 with h9 | h9
  ·rw [hu8] at h9;simp at h9
  ·split at h9
   ·assumption
   ·simp at h9
 ·simp at ht
theorem z1h (hT:TabOk P T) {t n esz:Nat} {ea:Bool} (hs:(T.at t).k=.ar n esz ea):∃ e,P.underlying t=some (.array n e)∧P.cellsOf e=esz∧z3j P e=ea∧Q2 P e=true∧0 < esz:=by
 have ht:=(hT.tk (t:=t) (by rw [hs];rfl)).1
 rw [hs] at ht;simp only [z3l] at ht
 split at ht
 ·rename_i n' e hu
  simp only [Bool.and_eq_true,beq_iff_eq,decide_eq_true_eq] at ht
  obtain⟨⟨⟨⟨h1,h2⟩,h3⟩,h4⟩,h5⟩:=ht
  subst h1
  exact⟨e,hu,h2,h3,h4,h5⟩
 ·simp at ht
theorem P8 (hT:TabOk P T) {t:Nat} (hs:(T.at t).k=.str):P.underlying t=some .string:=by
 have ht:=(hT.tk (t:=t) (by rw [hs];rfl)).1
 rw [hs] at ht;simp only [z3l] at ht
 split at ht
 ·assumption
 ·simp at ht
theorem z8g (hT:TabOk P T) {t:Nat} {k:IntKind} (hs:(T.at t).k=.int k):P.underlying t=some (.int k):=by
 have ht:=(hT.tk (t:=t) (by rw [hs];rfl)).1
 rw [hs] at ht;simp only [z3l] at ht
 split at ht
 ·rename_i k' hu
  have:=beq_iff_eq.1 ht;subst this;exact hu
 ·simp at ht
theorem w3l (hT:TabOk P T) (h:St X S pl w m) {t ty:Nat} {tys:Array TypeId} (ht:tys[0]?=some t) {x:AV} {a:Value} (hx:RelV S pl w m x a) (hk:z7d (T.at t).k m x K) :
  Did X S pl w m ((Builtin.len_ tys ty #[a]).run P w) K:=by
 have h0:(#[a]:Array Value)[0]?=some a:=rfl
 unfold z7d at hk
 split at hk
 ·rename_i hk2
  have e1:=H2 hx;subst e1
  unfold Builtin.len_
  simp only [ht,h0,Sem.run_bind,run_underlying (P8 hT hk2),Result.andThen_ok,Sem.run_pure]
  exact Did.lit h rfl hk
 ·rename_i hk2
  obtain⟨e,hu,_⟩:=z1h hT hk2
  unfold Builtin.len_
  simp only [ht,h0,Sem.run_bind,run_underlying hu,Result.andThen_ok,Sem.run_pure]
  exact Did.lit h rfl hk
 ·rename_i hk2
  obtain⟨e,hu,_⟩:=H5 hT hk2
  cases hx with | c _ _ hx =>
  cases hx with | sl _ _ _ a cap b o f hcap hsp ha hl hS hc hr =>
  unfold Builtin.len_
  simp only [ht,h0,Sem.run_bind,run_underlying hu,Result.andThen_ok,Sem.run_pure]
  exact Did.lit h rfl hk
 ·rename_i hk2
  obtain⟨e,hu,_⟩:=H5 hT hk2
  cases hx with | t _ _ _ b capn hv hn hx =>
  unfold Builtin.len_
  simp only [ht,h0,Sem.run_bind,run_underlying hu,Result.andThen_ok,Sem.run_pure]
  exact Did.lit h rfl hk
 ·rename_i hk2
  obtain⟨e,hu,_⟩:=H5 hT hk2
  cases hx with | bs _ _ _ b o capn hv hn hx =>
  unfold Builtin.len_
  simp only [ht,h0,Sem.run_bind,run_underlying hu,Result.andThen_ok,Sem.run_pure]
  exact Did.lit h rfl hk
 ·exact hk.elim
theorem k0o (h:St X S pl w m) {id v sz n b capn c:Nat} {es:List (List CV)} {pub:Bool} (hg:m.get id=some (.arr v sz es (some c) pub)) (hx:RelV S pl w m (.t id v n) (.slice (some ⟨b,0,none⟩) n capn)):capn=c:=by
 cases hx with | t _ _ _ _ _ hv hn hx =>
 obtain⟨sz',es',cap',pub',e,heq,hne,hb,hs⟩:=hx _ hg rfl
 injection heq with _ e1 e2 e3 _;subst e1 e2 e3
 obtain⟨_,h0,h1,h2,⟨e2,capn2,hs2,hle2,hcap2⟩,_⟩:=h.inv.ob id _ hg
 rw [← hb] at hs2
 rw [hs] at hs2;injection hs2 with hs2;injection hs2 with _ hs2
 have:=Nat.eq_of_mul_eq_mul_right h1 hs2
 rw [this];exact hcap2 c rfl
theorem w3p (hT:TabOk P T) (h:St X S pl w m) {t ty:Nat} {tys:Array TypeId} (ht:tys[0]?=some t) {x:AV} {a:Value} (hx:RelV S pl w m x a) (hk:w8q (T.at t).k m x K) :
  Did X S pl w m ((Builtin.cap_ tys ty #[a]).run P w) K:=by
 have h0:(#[a]:Array Value)[0]?=some a:=rfl
 unfold w8q at hk
 split at hk
 ·rename_i es sp hk2
  obtain⟨e,hu,_⟩:=H5 hT hk2
  cases hx with | c _ _ hx =>
  cases hx with | sl _ _ _ a cap b o f hcap hsp ha hl hS hc hr =>
  have:=hsp sp rfl
  subst this
  unfold Builtin.cap_
  simp only [ht,h0,Sem.run_bind,run_underlying hu,Result.andThen_ok,Sem.run_pure]
  exact Did.lit h rfl (by simpa [goInt] using hk)
 ·rename_i id ver _ hk2
  obtain⟨e,hu,_⟩:=H5 hT hk2
  split at hk
  ·rename_i v sz es c pub hg
   obtain⟨rfl,hk⟩:=hk
   have hx':=hx
   cases hx with | t _ _ _ b capn hv hn hx =>
   have:=k0o h hg hx'
   subst this
   unfold Builtin.cap_
   simp only [ht,h0,Sem.run_bind,run_underlying hu,Result.andThen_ok,Sem.run_pure]
   exact Did.lit h rfl hk
  ·exact hk.elim
 ·exact hk.elim
theorem z1z (h:St X S pl w m) {tys:Array TypeId} {ty:Nat} {xs:List AV} {as:List Value} (hl:as.length=xs.length) (hr:∀ (i:Nat) x u,xs[i]?=some x→as[i]?=some u→RelV S pl w m x u) (mx:Bool)
  (hk:R4 mx m xs K):Did X S pl w m ((if mx then Builtin.max_ tys ty as.toArray else Builtin.min_ tys ty as.toArray).run P w) K:=by
 unfold R4 at hk
 split at hk
 ·rename_i k a k' b
  obtain⟨rfl,hk⟩:=hk
  match as,hl with
  | [u,v],_ =>
   have e1:=H2 (hr 0 _ u rfl rfl);subst e1
   have e2:=H2 (hr 1 _ v rfl rfl);subst e2
   cases mx with
   | true=>exact Did.lit h rfl hk
   | false=>exact Did.lit h rfl hk
 ·exact hk.elim
theorem z3x (hT:TabOk P T) (h:St X S pl w m) {t:Nat} {x i:AV} {a ia:Value} (hx:RelV S pl w m x a) (hi:RelV S pl w m i ia) (hk:J7 (T.at t).k m x i K) :
  Did X S pl w m ((Instr.indexAt t a ia).run P w) K:=by
 have hadd:∀ b o k:Nat,(⟨b,o,none⟩:Addr).add k=⟨b,o + k,none⟩:=fun b o k=>by unfold Addr.add;split<;>simp_all
 unfold J7 at hk
 split at hk
 ·rename_i ik i
  have e1:=H2 hi;subst e1
  split at hk
  ·rename_i n esz ea id ver o hk2
   obtain⟨h1,h2,h3,hk⟩:=hk
   obtain⟨e,hu,hsz,_,hkn,_⟩:=z1h hT hk2
   cases hx with | p _ _ _ b q hv hx =>
   unfold Instr.indexAt
   simp only [asIntOf,Sem.run_bind,Sem.run_pure,run_underlying hu,Result.andThen_ok,Instr.sureAddr]
   rw [if_pos ⟨h2,h3⟩]
   simp only [Sem.run_bind,F7 hkn,Result.andThen_ok,Sem.run_pure,hsz,hadd,Nat.add_assoc]
   exact Did.same h hk (.p _ _ _ _ _ hv hx)
  ·rename_i n esz ea cs hk2
   obtain⟨h1,h2,h3,hk⟩:=hk
   obtain⟨e,hu,hsz,_,hkn,_⟩:=z1h hT hk2
   cases hx with | c _ _ hx =>
   cases hx with | rp _ b q g hS hc hr =>
   unfold Instr.indexAt
   simp only [asIntOf,Sem.run_bind,Sem.run_pure,run_underlying hu,Result.andThen_ok,Instr.sureAddr]
   rw [if_pos ⟨h2,h3⟩]
   simp only [Sem.run_bind,F7 hkn,Result.andThen_ok,Sem.run_pure,hsz,hadd]
   refine Did.same h hk (.c _ _ (.rp _ b _ (fun j=>g (i.toNat * esz + j)) (fun j hj=>?_) (fun j hj=>?_) (fun j x hx=>?_)))
   ·rw [List.length_drop] at hj;have:=hS (i.toNat * esz + j) (by omega);rwa [← Nat.add_assoc] at this
   ·rw [List.length_drop] at hj;have:=hc (i.toNat * esz + j) (by omega);rwa [← Nat.add_assoc] at this
   ·rw [List.getElem?_drop] at hx;exact hr _ x hx
  ·rename_i esz ea eb u8 sz es sp hk2
   obtain⟨rfl,h2,h3,hk⟩:=hk
   obtain⟨e,hu,hsz,_,hkn,_⟩:=H5 hT hk2
   cases hx with | c _ _ hx =>
   cases hx with | sl _ _ _ ad cap b o f hcap hsp ha hl hS hc hr =>
   have hlt:i.toNat < es.length:=by omega
   have he:es[i.toNat]?=some es[i.toNat]:=List.getElem?_eq_getElem hlt
   have heA:(es++sp.getD [])[i.toNat]?=some es[i.toNat]:=by rw [List.getElem?_append_left hlt];exact he
   obtain⟨rfl,hpos⟩:=ha (by intro hnil;rw [hnil] at heA;simp at heA)
   unfold Instr.indexAt
   simp only [asIntOf,Sem.run_bind,Sem.run_pure,run_underlying hu,Result.andThen_ok]
   rw [if_pos ⟨h2,h3⟩]
   simp only [Sem.run_bind,F7 hkn,Result.andThen_ok,Sem.run_pure,hsz,hadd]
   have hd:es.getD i.toNat []=es[i.toNat]:=by simp [List.getD,he]
   rw [hd] at hk
   have hlen:=hl _ _ heA
   have hmul:∀ j,j < es[i.toNat].length→i.toNat * sz + j < (es++sp.getD []).length * sz:=fun j hj=>by
    have:(i.toNat + 1) * sz≤(es++sp.getD []).length * sz:=Nat.mul_le_mul_right sz (by rw [List.length_append];omega)
    rw [Nat.add_mul] at this;omega
   refine Did.same h hk (.c _ _ (.rp _ b _ (fun j=>f (i.toNat * sz + j)) (fun j hj=>?_) (fun j hj=>?_) (fun j x hx=>hr _ _ _ x heA hx)))
   ·have:=hS _ (hmul j hj);rwa [← Nat.add_assoc] at this
   ·have:=hc _ (hmul j hj);rwa [← Nat.add_assoc] at this
  ·rename_i esz ea eb u8 id ver n hk2
   obtain⟨e,hu,hsz,_,hkn,_⟩:=H5 hT hk2
   split at hk
   ·rename_i v sz es cap pub hg
    obtain⟨rfl,rfl,hne,h2,h3,hk⟩:=hk
    cases hx with | t _ _ _ b capn hv hn hx =>
    obtain⟨sz',es',cap',pub',e',heq,hne',hb,hs⟩:=hx _ hg rfl
    injection heq with _ e1 e2 e3 e4;subst e1 e2 e3 e4
    unfold Instr.indexAt
    simp only [asIntOf,Sem.run_bind,Sem.run_pure,run_underlying hu,Result.andThen_ok]
    rw [if_pos ⟨h2,h3⟩]
    simp only [Sem.run_bind,F7 hkn,Result.andThen_ok,Sem.run_pure,hsz,hadd]
    refine Did.same h hk ?_
    have:=RelV.tp (S:=S) (pl:=pl) (w:=w) (m:=m) id v i.toNat 0 b (i.toNat * sz) hv (fun ob hob he=>by
     rw [hg] at hob;injection hob with hob;subst hob
     exact⟨_,_,_,_,rfl,by omega,hb,rfl⟩)
    simpa using this
   ·exact hk.elim
  ·rename_i esz ea eb u8 id ver n hk2
   obtain⟨e,hu,hsz,_,hkn,_⟩:=H5 hT hk2
   obtain⟨h2,h3,hk⟩:=hk
   cases hx with | bs _ _ _ b o capn hv hn hx =>
   unfold Instr.indexAt
   simp only [asIntOf,Sem.run_bind,Sem.run_pure,run_underlying hu,Result.andThen_ok]
   rw [if_pos ⟨h2,h3⟩]
   simp only [Sem.run_bind,F7 hkn,Result.andThen_ok,Sem.run_pure,hsz,hadd]
   exact Did.same h hk (.p _ _ _ _ _ hv hx)
  ·exact hk.elim
 ·exact hk.elim
theorem z9q (hT:TabOk P T) (h:St X S pl w m) {t:Nat} {x i:AV} {a ia:Value} (hx:RelV S pl w m x a) (hi:RelV S pl w m i ia) (hk:Z8 (T.at t).k m x i K) :
  Did X S pl w m ((Instr.index t a ia).run P w) K:=by
 unfold Z8 at hk
 split at hk
 ·rename_i ik i
  have e1:=H2 hi;subst e1
  split at hk
  ·rename_i s hk2
   obtain⟨h2,h3,hk⟩:=hk
   have e2:=H2 hx;subst e2
   unfold Instr.index
   simp only [asIntOf,Sem.run_bind,Sem.run_pure,run_underlying (P8 hT hk2),Result.andThen_ok]
   have hlt:i.toNat < s.size:=by omega
   rw [if_pos h2]
   have hget:s[i.toNat]?=some (s.data.toList.getD i.toNat 0):=by
    have hl:i.toNat < s.data.toList.length:=by simpa using hlt
    rw [getElem?_pos s i.toNat hlt]
    simp [List.getD,List.getElem?_eq_getElem hl];rfl
   rw [hget]
   exact Did.lit h rfl hk
  ·rename_i n esz ea cs hk2
   obtain⟨h2,h3,hk⟩:=hk
   obtain⟨e,hu,hsz,hag,hkn,_⟩:=z1h hT hk2
   cases hx with | agg _ us hl hr =>
   rw [← hsz,← hag] at hk
   obtain⟨u,y,hrun,hy,hrel⟩:=z5w hkn hl hr _ hk
   unfold Instr.index
   simp only [asIntOf,Sem.run_bind,Sem.run_pure,run_underlying hu,Result.andThen_ok]
   rw [if_pos ⟨h2,h3⟩]
   simp only [Sem.run_bind,F7 hkn,Result.andThen_ok,hrun]
   exact Did.same h hy hrel
  ·exact hk.elim
 ·exact hk.elim
end
end Go.Proofs.YtioiigabeoaneaaGreat.V
namespace Go.Proofs.YtioiigabeoaneaaGreat.V
open Go Go.RowKit
section
variable {P:Program} {T:Tab} {X:Ctx} {S:D7} {pl:E2} {w:World} {m:Mem} {K:KK}
def z6y (S:D7) (pl:E2) (w:World) (m:Mem):Option AV→Option Value→Prop
 | none,none=>True
 | some x,some u=>RelV S pl w m x u
 | _,_=>False
theorem T6 {d:Int} {x:Option AV} {u:Option Value} (hr:z6y S pl w m x u) {K:Int→Prop} (hk:bnd d x K):(x=none∧u=none∧K d)∨∃ k n,u=some (.int k n)∧x.isSome=true∧K n:=by
 unfold bnd at hk
 split at hk
 ·cases u with
  | none=>exact .inl ⟨rfl,rfl,hk⟩
  | some u=>exact hr.elim
 ·cases u with
  | none=>exact hr.elim
  | some u=>have e1:=H2 hr;subst e1;exact .inr ⟨_,_,rfl,rfl,hk⟩
 ·exact hk.elim
theorem J4 {k:IntKind} {n:Int} {y:Nat} {c:BoundsCode} (h0:0≤n) (h1:n≤y):(Instr.sliceBound (.int k n) y c).run P w=.ok n.toNat w:=by
 unfold Instr.sliceBound
 simp only [asIntOf,Sem.run_bind,Sem.run_pure,Result.andThen_ok]
 rw [if_pos ⟨h0,h1⟩];rfl
theorem W1 (isSlice:Bool) (len cap:Nat) (lo hi:Option Value) (l h:Int) (hlo:(lo=none∧l=0)∨∃ k,lo=some (.int k l)) (hhi:(hi=none∧h=len)∨∃ k,hi=some (.int k h))
  (h0:0≤l) (h1:l≤h) (h2:h≤cap):(Instr.sliceBounds isSlice len cap lo hi none).run P w=.ok (l.toNat,h.toNat,cap) w:=by
 unfold Instr.sliceBounds
 have hh:h.toNat=h:=Int.toNat_of_nonneg (by omega)
 rcases hhi with ⟨rfl,rfl⟩ | ⟨k,rfl⟩<;>rcases hlo with ⟨rfl,rfl⟩ | ⟨k',rfl⟩
 ·simp
 ·simp only [Sem.run_bind,Sem.run_pure,Result.andThen_ok]
  rw [J4 h0 h1];simp
 ·simp only [Sem.run_bind,Sem.run_pure,Result.andThen_ok]
  rw [J4 (by omega) h2];simp
 ·simp only [Sem.run_bind,Sem.run_pure,Result.andThen_ok]
  rw [J4 (by omega) h2]
  simp only [Result.andThen_ok]
  rw [J4 h0 (by omega)];simp
theorem w1c (isSlice:Bool) (len cap:Nat) (lo:Option Value) (hk ck:IntKind) (l h c:Int) (hlo:(lo=none∧l=0)∨∃ k,lo=some (.int k l))
  (h0:0≤l) (h1:l≤h) (h2:h≤c) (h3:c≤cap):(Instr.sliceBounds isSlice len cap lo (some (.int hk h)) (some (.int ck c))).run P w=.ok (l.toNat,h.toNat,c.toNat) w:=by
 unfold Instr.sliceBounds
 simp only [Sem.run_bind]
 rw [J4 (by omega) h3]
 simp only [Result.andThen_ok]
 rw [J4 (by omega) (by omega)]
 simp only [Result.andThen_ok]
 rcases hlo with ⟨rfl,rfl⟩ | ⟨k',rfl⟩
 ·simp
 ·simp only [Sem.run_bind]
  rw [J4 h0 (by omega)];simp
theorem RelC.cut {sz:Nat} {es:List (List CV)} {sp:Option (List (List CV))} {a:Option Addr} {n cap l h c:Nat} (hr:RelC S w (.sl sz es sp) (.slice a n cap)) (sp':Option (List (List CV)))
  (hlh:l≤h) (hhc:h≤c) (hh:h≤(es++sp.getD []).length) (hsp:∀ s,sp'=some s→s=((es++sp.getD []).drop h).take (c - h)∧c≤(es++sp.getD []).length) :
  RelC S w (.sl sz (((es++sp.getD []).take h).drop l) sp') (.slice (if c=l then a else a.map (·.add (l * sz))) (h - l) (c - l)):=by
 generalize hall:es++sp.getD []=all at *
 cases hr with | sl _ _ _ _ _ b o f hcap' hsp0 ha hl hS hc hr =>
 rw [hall] at ha hl hS hc hr
 have hadd:∀ b o k:Nat,(⟨b,o,none⟩:Addr).add k=⟨b,o + k,none⟩:=fun b o k=>by unfold Addr.add;split<;>simp_all
 have hlen:((all.take h).drop l).length=h - l:=by rw [List.length_drop,List.length_take];omega
 have hget:∀ (j:Nat) x,((all.take h).drop l++sp'.getD [])[j]?=some x→all[l + j]?=some x:=by
  intro j x hx
  by_cases hj:j < h - l
  ·rw [List.getElem?_append_left (by omega),List.getElem?_drop,List.getElem?_take_of_lt (by omega)] at hx;exact hx
  ·rw [List.getElem?_append_right (by omega),hlen] at hx
   cases hs:sp' with
   | none=>rw [hs] at hx;simp at hx
   | some s =>
    rw [hs] at hx
    obtain⟨rfl,_⟩:=hsp s hs
    have hjl:j - (h - l) < c - h:=by have:=(List.getElem?_eq_some_iff.1 hx).1;simp only [Option.getD_some,List.length_take] at this;omega
    simp only [Option.getD_some] at hx
    rw [List.getElem?_take_of_lt hjl,List.getElem?_drop] at hx
    rw [← hx];congr 1;omega
 have hlenA:((all.take h).drop l++sp'.getD []).length≤all.length - l:=by
  rw [List.length_append,hlen]
  cases hs:sp' with
  | none=>simp;omega
  | some s=>obtain⟨rfl,hcl⟩:=hsp s hs;simp only [Option.getD_some,List.length_take,List.length_drop];omega
 have hmul:∀ k,k < ((all.take h).drop l++sp'.getD []).length * sz→l * sz + k < all.length * sz:=fun k hk=>by
  have h1:((all.take h).drop l++sp'.getD []).length * sz≤(all.length - l) * sz:=Nat.mul_le_mul_right sz hlenA
  have h2:(all.length - l) * sz + l * sz=all.length * sz:=by rw [← Nat.add_mul];congr 1;omega
  omega
 have:=RelC.sl (S:=S) (w:=w) sz ((all.take h).drop l) sp' (if c=l then a else a.map (·.add (l * sz))) (c - l) b (o + l * sz) (fun k=>f (l * sz + k)) (by rw [hlen];omega)
  (fun s hs=>by obtain⟨rfl,hcl⟩:=hsp s hs;rw [hlen];simp only [List.length_take,List.length_drop];omega)
  (fun hne=>by
   have h1:0 < ((all.take h).drop l++sp'.getD []).length:=List.length_pos_iff.2 hne
   have hal:all≠[]:=by intro e;have e2:=congrArg List.length e;rw [List.length_nil] at e2;omega
   obtain⟨rfl,hpos⟩:=ha hal
   refine⟨?_,hpos⟩
   have hcl:c≠l:=by
    intro e;subst e
    rw [List.length_append,hlen] at h1
    cases hs:sp' with
    | none=>rw [hs] at h1;simp at h1;omega
    | some s=>obtain⟨rfl,_⟩:=hsp s hs;rw [hs] at h1;simp only [Option.getD_some,List.length_take] at h1;omega
   rw [if_neg hcl];simp [hadd])
  (fun j x hx=>hl _ x (hget j x hx)) (fun k hk=>by have:=hS _ (hmul k hk);rwa [← Nat.add_assoc] at this) (fun k hk=>by have:=hc _ (hmul k hk);rwa [← Nat.add_assoc] at this)
  (fun j t x y hx hy=>by have:=hr _ t x y (hget j x hx) hy;rwa [Nat.add_mul,Nat.add_assoc] at this)
 rwa [hlen] at this
theorem z9c (hT:TabOk P T) (h:St X S pl w m) {t:Nat} {x:AV} {lo hi mx:Option AV} {a:Value} {l' h' m':Option Value} (hx:RelV S pl w m x a) (hlo:z6y S pl w m lo l') (hhi:z6y S pl w m hi h') (hmx:z6y S pl w m mx m')
  (hk:Q9 (T.at t).k m x lo hi mx K):Did X S pl w m ((Instr.sliceAt t a l' h' m').run P w) K:=by
 unfold Q9 at hk
 split at hk
 ·rename_i s hk2
  have hu:=P8 hT hk2
  obtain⟨hmn,hk⟩:=hk
  have e1:=H2 hx;subst e1
  cases mx with
  | some _=>simp at hmn
  | none =>
   cases m' with
   | some _=>exact hmx.elim
   | none =>
    have key:∀ (l h:Int),((l'=none∧l=0)∨∃ k,l'=some (.int k l))→((h'=none∧h=s.size)∨∃ k,h'=some (.int k h))→0≤l→l≤h→h≤s.size→K (.c (.v (.string (s.extract l.toNat h.toNat)))) m →
      Did X S pl w m ((Instr.sliceAt t (.string s) l' h' none).run P w) K:=by
     intro l hh h1 h2 h3 h4 h5 hK
     unfold Instr.sliceAt
     simp only [Sem.run_bind,run_underlying hu,Result.andThen_ok,Instr.slice,Option.isSome_none,Bool.false_eq_true,if_false,Sem.run_pure]
     rw [W1 false s.size s.size l' h' l hh h1 h2 h3 h4 h5]
     exact Did.lit h rfl hK
    rcases T6 hlo hk with ⟨_,rfl,hk⟩ | ⟨k1,n1,rfl,_,hk⟩<;>rcases T6 hhi hk with ⟨_,rfl,hk⟩ | ⟨k2,n2,rfl,_,hk⟩<;>obtain⟨h3,h4,h5,hK⟩:=hk
    ·exact key _ _ (.inl ⟨rfl,rfl⟩) (.inl ⟨rfl,rfl⟩) h3 h4 h5 hK
    ·exact key _ _ (.inl ⟨rfl,rfl⟩) (.inr ⟨_,rfl⟩) h3 h4 h5 hK
    ·exact key _ _ (.inr ⟨_,rfl⟩) (.inl ⟨rfl,rfl⟩) h3 h4 h5 hK
    ·exact key _ _ (.inr ⟨_,rfl⟩) (.inr ⟨_,rfl⟩) h3 h4 h5 hK
 ·rename_i esz ea eb u8 sz es sp hk2
  obtain⟨e,hu,hsz,_,hkn,hpos,_⟩:=H5 hT hk2
  obtain⟨rfl,hk⟩:=hk
  cases hx with | c _ _ hx =>
  have hxr:=hx
  cases hx with | sl _ _ _ ad cap b o f hcap hsp ha hl hS hc hr =>
  clear hl hS hc hr
  have fin:∀ (lo hi c:Nat) (sp':Option (List (List CV))),(Instr.sliceBounds true es.length cap l' h' m').run P w=.ok (lo,hi,c) w→lo≤hi→hi≤c→c≤cap→hi≤(es++sp.getD []).length →
    (∀ s,sp'=some s→s=((es++sp.getD []).drop hi).take (c - hi)∧c≤(es++sp.getD []).length)→K (.c (.sl sz (((es++sp.getD []).take hi).drop lo) sp')) m →
    Did X S pl w m ((Instr.sliceAt t (.slice ad es.length cap) l' h' m').run P w) K:=by
   intro lo hi c sp' hb h1 h2 h3 h4 h5 hK
   unfold Instr.sliceAt
   simp only [Sem.run_bind,run_underlying hu,Result.andThen_ok,Instr.slice,hb,F7 hkn,Sem.run_pure,hsz]
   exact Did.same h hK (.c _ _ (hxr.cut sp' h1 h2 h4 h5))
  have key2:mx=none→∀ (lo hi:Int),((l'=none∧lo=0)∨∃ k,l'=some (.int k lo))→((h'=none∧hi=es.length)∨∃ k,h'=some (.int k hi))→0≤lo→lo≤hi →
    (∀ s,sp=some s→hi≤es.length + s.length∧K (.c (.sl sz (((es++s).take hi.toNat).drop lo.toNat) (some ((es++s).drop hi.toNat)))) m) →
    (sp=none→hi≤es.length∧K (.c (.sl sz ((es.take hi.toNat).drop lo.toNat) none)) m)→Did X S pl w m ((Instr.sliceAt t (.slice ad es.length cap) l' h' m').run P w) K:=by
   intro hm lo hi h1 h2 h3 h4 hs hn
   have hm':m'=none:=by
    subst hm
    cases m' with
    | none=>rfl
    | some _=>exact hmx.elim
   subst hm'
   cases hspc:sp with
   | none =>
    obtain⟨h5,hK⟩:=hn hspc
    refine fin lo.toNat hi.toNat cap none (W1 true es.length cap l' h' lo hi h1 h2 h3 h4 (by omega)) (by omega) (by omega) (by omega) (by rw [hspc];simp;omega) (by simp) (by rw [hspc];simpa using hK)
   | some s =>
    obtain⟨h5,hK⟩:=hs s hspc
    have hcs:=hsp s hspc
    refine fin lo.toNat hi.toNat cap (some ((es++s).drop hi.toNat)) (W1 true es.length cap l' h' lo hi h1 h2 h3 h4 (by omega)) (by omega) (by omega) (by omega) (by rw [hspc];simp;omega) (fun q hq=>?_) (by rw [hspc];simpa using hK)
    injection hq with hq;subst hq
    rw [hspc]
    refine⟨?_,by simp;omega⟩
    rw [List.take_of_length_le (by simp;omega)];rfl
  have key3:∀ (lo hi c:Int) (k2 k3:IntKind),((l'=none∧lo=0)∨∃ k,l'=some (.int k lo))→h'=some (.int k2 hi)→m'=some (.int k3 c)→0≤lo→lo≤hi→hi≤c→c≤es.length →
    K (.c (.sl sz ((es.take hi.toNat).drop lo.toNat) (some ((es.take c.toNat).drop hi.toNat)))) m→Did X S pl w m ((Instr.sliceAt t (.slice ad es.length cap) l' h' m').run P w) K:=by
   intro lo hi c k2 k3 h1 h2 hm h3 h4 h5 h6 hK
   subst h2 hm
   refine fin lo.toNat hi.toNat c.toNat (some ((es.take c.toNat).drop hi.toNat)) (w1c true es.length cap l' k2 k3 lo hi c h1 h3 h4 h5 (by omega)) (by omega) (by omega) (by omega) (by simp;omega) (fun q hq=>?_) ?_
   ·injection hq with hq;subst hq
    refine⟨?_,by simp;omega⟩
    rw [← List.drop_take,List.take_append_of_le_length (by omega)]
   ·rw [List.take_append_of_le_length (by omega)];exact hK
  clear fin hxr ha
  have lok:∃ lo':Int,((l'=none∧lo'=0)∨∃ k,l'=some (.int k lo'))∧(bnd es.length hi fun h=>match (generalizing:=false) mx with
    | none=>0≤lo'∧lo'≤h∧match (generalizing:=false) sp with
     | some sp=>h≤es.length + sp.length∧K (.c (.sl sz (((es++sp).take h.toNat).drop lo'.toNat) (some ((es++sp).drop h.toNat)))) m
     | none=>h≤es.length∧K (.c (.sl sz ((es.take h.toNat).drop lo'.toNat) none)) m
    | some mx=>hi.isSome∧bnd 0 (some mx) fun c=>0≤lo'∧lo'≤h∧h≤c∧c≤es.length∧K (.c (.sl sz ((es.take h.toNat).drop lo'.toNat) (some ((es.take c.toNat).drop h.toNat)))) m):=by
   rcases T6 hlo hk with ⟨_,e1,hk⟩ | ⟨k1,n1,e1,_,hk⟩
   ·exact⟨0,.inl ⟨e1,rfl⟩,hk⟩
   ·exact⟨n1,.inr ⟨_,e1⟩,hk⟩
  clear hk
  obtain⟨lo',hlo',hk⟩:=lok
  cases hmxc:mx with
  | none =>
   subst hmxc
   rcases T6 hhi hk with ⟨e1,e2,hk⟩ | ⟨k2,n2,e2,_,hk⟩
   ·exact key2 rfl lo' _ hlo' (.inl ⟨e2,rfl⟩) hk.1 hk.2.1 (fun s hs=>by subst hs;exact hk.2.2) (fun hs=>by subst hs;exact hk.2.2)
   ·exact key2 rfl lo' _ hlo' (.inr ⟨_,e2⟩) hk.1 hk.2.1 (fun s hs=>by subst hs;exact hk.2.2) (fun hs=>by subst hs;exact hk.2.2)
  | some mxv =>
   subst hmxc
   rcases T6 hhi hk with ⟨e1,e2,hk⟩ | ⟨k2,n2,e2,_,hk⟩
   ·subst e1;exact absurd hk.1 (by simp)
   ·rcases T6 hmx hk.2 with ⟨q,_,_⟩ | ⟨k3,n3,e3,_,hk⟩
    ·simp at q
    ·exact key3 lo' _ _ _ _ hlo' e2 e3 hk.1 hk.2.1 hk.2.2.1 hk.2.2.2.1 hk.2.2.2.2
 ·rename_i esz ea eb u8 id ver n hk2
  obtain⟨e,hu,hsz,_,hkn,hpos,_⟩:=H5 hT hk2
  split at hk
  ·rename_i v sz es cap pub hg
   obtain⟨rfl,rfl,hne,hmn,hk⟩:=hk
   have hxr:=hx
   cases hx with | t _ _ _ b capn hv hn hx =>
   obtain⟨sz',es',cap',pub',e',heq,_,hb,hs⟩:=hx _ hg rfl
   injection heq with _ q1 q2 q3 q4;subst q1 q2 q3 q4
   have hm':m'=none:=by
    cases mx with
    | some _=>simp at hmn
    | none=>cases m' with
     | none=>rfl
     | some _=>exact hmx.elim
   subst hm'
   obtain⟨_,_,_,_,⟨e3,capn3,hs3,hle3,hcap3⟩,_⟩:=h.inv.ob id _ hg
   have hcc:capn3=capn:=by
    rw [← hb] at hs3;rw [hs] at hs3;injection hs3 with hs3;injection hs3 with _ hs3
    exact (Nat.eq_of_mul_eq_mul_right hpos hs3).symm
   subst hcc
   have run:∀ (lo hi:Int),((l'=none∧lo=0)∨∃ k,l'=some (.int k lo))→((h'=none∧hi=n)∨∃ k,h'=some (.int k hi))→0≤lo→lo≤hi→hi≤capn3 →
     (Instr.sliceAt t (.slice (some ⟨b,0,none⟩) n capn3) l' h' none).run P w=.ok (.slice (if capn3=lo.toNat then some ⟨b,0,none⟩ else (some (⟨b,0,none⟩:Addr)).map (·.add (lo.toNat * sz))) (hi.toNat - lo.toNat) (capn3 - lo.toNat)) w:=by
    intro lo hi h1 h2 h3 h4 h5
    unfold Instr.sliceAt
    simp only [Sem.run_bind,run_underlying hu,Result.andThen_ok,Instr.slice,W1 true n capn3 l' h' lo hi h1 h2 h3 h4 h5,F7 hkn,Sem.run_pure,hsz]
   have hhi':∃ hi':Int,((h'=none∧hi'=n)∨∃ k,h'=some (.int k hi'))∧(match (generalizing:=false) lo with
     | none=>0≤hi'∧(hi'≤n∨cap.isSome∧hi'≤es.length)∧K (.t id v hi'.toNat) m
     | some _=>bnd 0 lo fun l=>0≤l∧l≤hi'∧hi'≤n∧K (.c (.sl sz ((es.take hi'.toNat).drop l.toNat) none)) (m.upd id (.arr v sz es cap true))):=by
    rcases T6 hhi hk with ⟨_,e1,hk⟩ | ⟨k1,n1,e1,_,hk⟩
    ·exact⟨n,.inl ⟨e1,rfl⟩,hk⟩
    ·exact⟨n1,.inr ⟨_,e1⟩,hk⟩
   clear hk
   obtain⟨hi',hh',hk⟩:=hhi'
   cases hloc:lo with
   | none =>
    subst hloc
    have hl':l'=none:=by cases l' with | none=>rfl | some _=>exact hlo.elim
    obtain⟨h0,h1,hK⟩:=hk
    have hle:hi'≤es.length:=by omega
    rw [run 0 hi' (.inl ⟨hl',rfl⟩) hh' (Int.le_refl 0) h0 (by omega)]
    refine Did.same h hK ?_
    have:(if capn3=(0:Int).toNat then some (⟨b,0,none⟩:Addr) else (some (⟨b,0,none⟩:Addr)).map (·.add ((0:Int).toNat * sz)))=some ⟨b,0,none⟩:=by
     split
     ·rfl
     ·simp [Addr.add]
    rw [this]
    exact .t id v _ b capn3 hv (by omega) (fun ob hob he=>by
     rw [hg] at hob;injection hob with hob;subst hob
     exact⟨_,_,_,_,_,rfl,by omega,hb,hs⟩)
   | some lov =>
    subst hloc
    have hlo':∃ lo':Int,(∃ k,l'=some (.int k lo'))∧(0≤lo'∧lo'≤hi'∧hi'≤n∧K (.c (.sl sz ((es.take hi'.toNat).drop lo'.toNat) none)) (m.upd id (.arr v sz es cap true))):=by
     rcases T6 hlo hk with ⟨q,_,_⟩ | ⟨k3,n3,e3,_,hk⟩
     ·simp at q
     ·exact⟨n3,⟨_,e3⟩,hk⟩
    obtain⟨lo',⟨k3,e3⟩,h3,h4,h5,hK⟩:=hlo'
    rw [run lo' hi' (.inr ⟨_,e3⟩) hh' h3 h4 (by omega)]
    obtain⟨hst,hkp⟩:=h.pub hg
    have hok:=(hst.inv.ob id _ (by rw [M8,if_pos rfl])).2
    have hrel:=RelC.of_arr hok hne (by rw [← hb];exact hs)
    have hrel2:=hrel.cut (l:=lo'.toNat) (h:=hi'.toNat) (c:=capn3) none (by omega) (by omega) (by rw [List.length_append,List.length_take];omega) (by simp)
    rw [List.take_append_of_le_length (by rw [List.length_take];omega),List.take_take,Nat.min_eq_left (by omega)] at hrel2
    rw [hb]
    exact⟨_,w,_,pl,_,_,rfl,hK,.c _ _ hrel2,hst,hkp⟩
  ·exact hk.elim
 ·exact hk.elim
end
end Go.Proofs.YtioiigabeoaneaaGreat.V
namespace Go.Proofs.YtioiigabeoaneaaGreat.V
open Go Go.RowKit
section
variable {P:Program} {T:Tab} {X:Ctx} {S:D7} {pl:E2} {w:World} {m:Mem} {K:KK}
theorem z2f (w:World) (cc:Array Value) (e:TypeId) (fr:Nat × Nat) (hfr:fr.2≤fr.1∨cc.size≤fr.1):z0j (w.alloc (.cells cc e fr)) w.heap.size:=by
 intro o hz e' s hs
 rw [w6c,if_pos rfl] at hz
 rw [M9,if_pos rfl] at hs
 injection hs with hs;injection hs with _ hs;subst hs
 simp only [Bool.and_eq_true,decide_eq_true_eq] at hz
 omega
theorem w4i (h:St X S pl w m) (site:Nat) (cs:List AV) (us:List Value) (e:TypeId) (hl:us.length=cs.length) (hr:∀ (j:Nat) x u,cs[j]?=some x→us[j]?=some u→RelV S pl w m x u) (hk:K (.p site m.clk 0) (m.new site fun v=>.blk v cs)) :
  Did X S pl w m (.ok (.pointer (some ⟨w.heap.size,0,none⟩)) (w.alloc (.cells us.toArray e))) K:=by
 have:=h.alloc site (fun v=>.blk v cs) us.toArray e (0,0) (fun _=>False) rfl (fun b o hf=>⟨hf.1,fun q=>q⟩)
 simp only [and_false,or_false] at this
 have key:∀ S' pl' w' m',Keeps S S' pl pl' w w' m m'→(∀ j,j < us.length→D8 w' w.heap.size j=some (us.getD j undef))→RowA S' pl' w' m' w.heap.size 0 cs:=fun S' pl' w' m' k hc =>
  fun j x hx=>by
   have hj:j < us.length:=by rw [hl];exact (List.getElem?_eq_some_iff.1 hx).1
   have hu:us[j]?=some us[j]:=List.getElem?_eq_getElem hj
   rw [Nat.zero_add]
   exact⟨_,hc j hj,by have:=(hr j x _ hx hu).mono k;simpa [List.getD,hu] using this⟩
 have k:Keeps S S pl (M2 pl site (w.heap.size,0)) w (w.alloc (.cells us.toArray e)) m (m.new site fun v=>.blk v cs) :=
  ⟨fun _ _ hs=>hs,fun b o hs=>by rw [M1,if_neg (Nat.ne_of_lt (h.inv.low b o hs))],
   fun b s hs=>by rw [M9,if_neg (Nat.ne_of_lt (P0 hs))];exact hs,by simp [L9],
   fun id ob hob hlt=>by
   by_cases hi:id=site
   ·subst hi;rw [H7,if_pos rfl] at hob;injection hob with hob;subst hob;simp [Ob.ver] at hlt
   ·rw [H7,if_neg hi] at hob;exact⟨ob,hob,by cases ob<;>simp [Ob.alike],by simp [M2,hi]⟩⟩
 obtain⟨hst,hkp⟩:=this ⟨by rw [Z0];exact Nat.lt_succ_self _,z2f w us.toArray e (0,0) (.inl (Nat.le_refl _)),key _ _ _ _ k (fun j hj=>by
  rw [M1,if_pos rfl];simp [List.getD,hj])⟩
 refine⟨_,_,S,_,_,_,rfl,hk,?_,hst,hkp⟩
 have:=RelV.p (S:=S) (pl:=M2 pl site (w.heap.size,0)) (w:=w.alloc (.cells us.toArray e)) (m:=m.new site fun v=>.blk v cs) site m.clk 0 w.heap.size 0 (by rw [L9];omega) (fun ob hob _=>by
  rw [H7,if_pos rfl] at hob;injection hob with hob;subst hob
  exact⟨⟨_,rfl⟩,by simp [M2]⟩)
 simpa using this
theorem k2z (h:St X S pl w m) (site:Nat) (cs:List AV) (us:List Value) (e:TypeId) (hl:us.length=cs.length) (hr:∀ (j:Nat) x u,cs[j]?=some x→us[j]?=some u→RelV S pl w m x u) (n:Nat) (hk:K (.bs site m.clk n) (m.new site fun v=>.blk v cs)) :
  Did X S pl w m (.ok (.slice (some ⟨w.heap.size,0,none⟩) n n) (w.alloc (.cells us.toArray e))) K:=by
 have:=h.alloc site (fun v=>.blk v cs) us.toArray e (0,0) (fun _=>False) rfl (fun b o hf=>⟨hf.1,fun q=>q⟩)
 simp only [and_false,or_false] at this
 have key:∀ S' pl' w' m',Keeps S S' pl pl' w w' m m'→(∀ j,j < us.length→D8 w' w.heap.size j=some (us.getD j undef))→RowA S' pl' w' m' w.heap.size 0 cs:=fun S' pl' w' m' k hc =>
  fun j x hx=>by
   have hj:j < us.length:=by rw [hl];exact (List.getElem?_eq_some_iff.1 hx).1
   have hu:us[j]?=some us[j]:=List.getElem?_eq_getElem hj
   rw [Nat.zero_add]
   exact⟨_,hc j hj,by have:=(hr j x _ hx hu).mono k;simpa [List.getD,hu] using this⟩
 have k:Keeps S S pl (M2 pl site (w.heap.size,0)) w (w.alloc (.cells us.toArray e)) m (m.new site fun v=>.blk v cs) :=
  ⟨fun _ _ hs=>hs,fun b o hs=>by rw [M1,if_neg (Nat.ne_of_lt (h.inv.low b o hs))],
   fun b s hs=>by rw [M9,if_neg (Nat.ne_of_lt (P0 hs))];exact hs,by simp [L9],
   fun id ob hob hlt=>by
   by_cases hi:id=site
   ·subst hi;rw [H7,if_pos rfl] at hob;injection hob with hob;subst hob;simp [Ob.ver] at hlt
   ·rw [H7,if_neg hi] at hob;exact⟨ob,hob,by cases ob<;>simp [Ob.alike],by simp [M2,hi]⟩⟩
 obtain⟨hst,hkp⟩:=this ⟨by rw [Z0];exact Nat.lt_succ_self _,z2f w us.toArray e (0,0) (.inl (Nat.le_refl _)),key _ _ _ _ k (fun j hj=>by
  rw [M1,if_pos rfl];simp [List.getD,hj])⟩
 refine⟨_,_,S,_,_,_,rfl,hk,?_,hst,hkp⟩
 have:=RelV.bs (S:=S) (pl:=M2 pl site (w.heap.size,0)) (w:=w.alloc (.cells us.toArray e)) (m:=m.new site fun v=>.blk v cs) site m.clk n w.heap.size 0 n (by rw [L9];omega) (Nat.le_refl _) (fun ob hob _=>by
  rw [H7,if_pos rfl] at hob;injection hob with hob;subst hob
  exact⟨⟨_,rfl⟩,by simp [M2]⟩)
 simpa using this
theorem z2y (h:St X S pl w m) (site sz:Nat) (es:List (List CV)) (cap:Option Nat) (pub:Bool) (us rest:List Value) (e:TypeId) (fr:Nat × Nat) (n capn:Nat) (hsz:0 < sz) (hes:∀ (i:Nat) e,es[i]?=some e→e.length=sz)
  (hl:us.length=es.length * sz) (hcap:(us++rest).length=capn * sz) (hcc:∀ c,cap=some c→capn=c) (hfr:fr.2≤fr.1∨(us++rest).length≤fr.1) (hn:n≤es.length) (hbig:pub=false→capn < 9223372036854775808)
  (hr:∀ (i j:Nat) e x,es[i]?=some e→e[j]?=some x→RelC S w x (us.getD (i * sz + j) undef)) (hk:K (.t site m.clk n) (m.new site fun v=>.arr v sz es cap pub)) :
  Did X S pl w m (.ok (.slice (some ⟨w.heap.size,0,none⟩) n capn) (w.alloc (.cells (us++rest).toArray e fr))) K:=by
 have hle:es.length≤capn:=by
  have:es.length * sz≤capn * sz:=by rw [← hl,← hcap,List.length_append];omega
  exact Nat.le_of_mul_le_mul_right this hsz
 have hcell:∀ k,k < es.length * sz→D8 (w.alloc (.cells (us++rest).toArray e fr)) w.heap.size k=some (us.getD k undef):=fun k hk=>by
  rw [M1,if_pos rfl]
  have hk':k < us.length:=by omega
  simp [List.getElem?_append_left hk',List.getD,hk']
 have hold:∀ b o,S b o→D8 (w.alloc (.cells (us++rest).toArray e fr)) b o=D8 w b o:=fun b o hs=>by rw [M1,if_neg (Nat.ne_of_lt (h.inv.low b o hs))]
 have:=h.alloc site (fun v=>.arr v sz es cap pub) (us++rest).toArray e fr (fun o=>pub=true∧o < es.length * sz) rfl (fun b o hf=>⟨hf.1,fun ⟨hp,ho⟩=>by have:=hf.2 hp;omega⟩)
  ⟨rfl,hsz,⟨z2f w _ e fr (by simpa using hfr),fun hp e' s' hs'=>by
   rw [M9,if_pos rfl] at hs'
   injection hs' with hs';injection hs' with _ hs'
   have h1:=hbig hp
   have h2:capn * sz≤9223372036854775807 * sz:=Nat.mul_le_mul_right sz (by omega)
   simp at hs' hcap;omega⟩,⟨e,capn,by rw [M9,if_pos rfl];simp [← hcap],hle,hcc⟩,
   ⟨hes,fun k=>us.getD k undef,hcell,fun i j e x he hx=>(hr i j e x he hx).mono (fun _ _ hs=>.inl hs) hold⟩,fun hp o ho=>.inr ⟨rfl,hp,ho⟩⟩
 obtain⟨hst,hkp⟩:=this
 refine⟨_,_,_,_,_,_,rfl,hk,?_,hst,hkp⟩
 exact .t site m.clk n w.heap.size capn (by rw [L9];omega) (by omega) (fun ob hob _=>by
  rw [H7,if_pos rfl] at hob;injection hob with hob;subst hob
  exact⟨_,_,_,_,e,rfl,hn,by simp [M2],by rw [M9,if_pos rfl];simp [← hcap]⟩)
theorem z1l {x:AV} {u:Value} (hr:RelV S pl w m x u) (hs:∀ y ∈ x.cells,y.solid=true):u.cells.toList.length=x.cells.length∧(∀ (j:Nat) y v,x.cells[j]?=some y→u.cells.toList[j]?=some v→RelV S pl w m y v):=by
 cases x with
 | agg cs=>cases hr with | agg _ us hl hr=>exact⟨by simpa [Value.cells,AV.cells] using hl,fun j y v hy hv=>hr j y v hy (by simpa [Value.cells] using hv)⟩
 | tup cs=>simp [AV.cells,AV.solid] at hs
 | dead=>simp [AV.cells,AV.solid] at hs
 | _ =>
  have hu:u.cells=#[u]:=by
   cases hr<;>first
    | rfl
    | (rename_i hr;have:=hr.solid;cases u<;>first | rfl | (simp [Value.oneCell'] at this))
  rw [hu]
  refine⟨rfl,fun j y v hy hv=>?_⟩
  cases j with
  | zero=>simp [AV.cells] at hy hv;subst hy hv;exact hr
  | succ j=>simp [AV.cells] at hy
theorem z7s {x:AV} {u:Value} (hr:RelV S pl w m x u) (hs:x.solid=true):u.oneCell'=true:=by
 cases hr<;>first | rfl | (simp [AV.solid] at hs;done) | skip
 rename_i hr;exact hr.solid
theorem w0n (hT:TabOk P T) (h:St X S pl w m) {e s:Nat} (hs:(T.at e).size=s + 1) (site:Nat) (hk:w3v site (T.at e).zero m K):Did X S pl w m ((Instr.alloc e true (.tuple #[])).run P w) K:=by
 obtain⟨hkn,hsz,hag,hz⟩:=hT.ti (t:=e) (by rw [hs];omega)
 obtain⟨v,hrun,hl,hr⟩:=Y8 hz hkn S w
 have hrun':(Instr.alloc e true (.tuple #[])).run P w=.ok (.pointer (some ⟨w.heap.size,0,none⟩)) (w.alloc (.cells v.cells e)):=by
  unfold Instr.alloc
  simp only [Sem.run_bind,hrun,Result.andThen_ok,newVar,newRow,run_newObj,Sem.run_pure];rfl
 rw [hrun']
 have:=w4i (K:=K) h site ((T.at e).zero.map .c) v.cells.toList e (by simp [hl]) (fun j x u hx hu=>by
  rw [List.getElem?_map] at hx
  cases hz:(T.at e).zero[j]? with
  | none=>rw [hz] at hx;simp at hx
  | some y=>rw [hz] at hx;simp at hx;subst hx;exact .c _ _ (hr j y u hz (by simpa using hu))) hk
 simpa using this
theorem w3q (h:St X S pl w m) (e site:Nat) {x:AV} {a:Value} (hx:RelV S pl w m x a) (hk:k0k site m x K):Did X S pl w m ((Instr.box e a).run P w) K:=by
 obtain⟨hs,hk⟩:=hk
 obtain⟨hl,hr⟩:=z1l hx hs
 have hrun:(Instr.box e a).run P w=.ok (.pointer (some ⟨w.heap.size,0,none⟩)) (w.alloc (.cells a.cells e)):=by
  unfold Instr.box
  simp only [Sem.run_bind,newVar,newRow,run_newObj,Sem.run_pure,Result.andThen_ok];rfl
 rw [hrun]
 have:=w4i (K:=K) h site x.cells a.cells.toList e hl hr hk
 simpa using this
theorem z7b {w:World} {b o:Nat} {u:Value} (h:D8 w b o=some u):∃ e n,w.shape? b=some (e,n)∧o < n:=by
 unfold D8 World.cell? at h
 unfold World.shape?
 cases hh:w.heap[b]? with
 | none=>rw [hh] at h;simp at h
 | some ob =>
  rw [hh] at h
  cases ob with
  | cells cc e fr =>
   simp only [Option.isSome_none,Bool.false_eq_true,if_false] at h
   exact⟨e,cc.size,rfl,by have:=(Array.getElem?_eq_some_iff.1 h).1;exact this⟩
  | _=>simp at h
theorem w0g {x:AV} {K:CV→Mem→Prop} (hk:P7 m x K):x.solid=true∧∃ y m',K y m':=by
 cases x<;>simp only [P7] at hk
 ·exact⟨rfl,_,_,hk⟩
 ·split at hk
  ·exact⟨rfl,_,_,hk.2.2⟩
  ·exact hk.elim
theorem z0f:∀ (xs:List AV) {m:Mem} {K:List CV→Mem→Prop},T9 m xs K→∀ z ∈ xs,z.solid=true
 | [],_,_,_,z,hz=>by simp at hz
 | x :: xs,m,K,hk,z,hz=>by
  obtain⟨h1,y,m',h2⟩:=w0g hk
  rcases List.mem_cons.1 hz with rfl | hz
  ·exact h1
  ·exact z0f xs h2 z hz
theorem z9a (hT:TabOk P T) (h:St X S pl w m) {t s:Nat} (hs:(T.at t).size=s + 1) {x y:AV} {a b:Value} (hx:RelV S pl w m x a) (hy:RelV S pl w m y b) {K:Mem→Prop} (hk:z5f (s + 1) m x y K) :
  ∃ w' S' m',(Instr.storeAt t a b).run P w=.ok () w'∧K m'∧St X S' pl w' m'∧Keeps S S' pl pl w w' m m':=by
 obtain⟨hkn,hsz,hag,hz⟩:=hT.ti (t:=t) (by rw [hs];omega)
 rw [hs] at hsz
 have run:∀ (b' o:Nat) (us:List Value),b.cells.toList=us→us.length=s + 1→(∀ j,j < us.length→(D8 w b' (o + j)).isSome=true)→(∀ j,j < us.length→w.frozen? ⟨b',o + j,none⟩=false)→(∀ v ∈ us,v.oneCell'=true) →
   (Instr.storeAt t (.pointer (some ⟨b',o,none⟩)) b).run P w=.ok () (w.setCells b' o us):=by
  intro b' o us hus hl hc hf h1
  unfold Instr.storeAt storeVar
  simp only [Sem.run_bind,Instr.sureAddr,Sem.run_pure,Result.andThen_ok,F7 hkn,hsz]
  rw [if_neg (by rw [← Array.length_toList,hus,hl];simp),hus]
  have:=run_storeCells_cells (P:=P) b' o us 0 w (by simpa using hc) (by simpa using hf) h1
  simpa using this
 unfold z5f at hk
 split at hk
 ·rename_i id ver o
  cases hx with | p _ _ _ b' q hv hx =>
  split at hk
  ·rename_i v cs hg
   obtain⟨rfl,hlen,hsol,hle,hdd,hK⟩:=hk
   obtain⟨_,hb⟩:=hx _ hg rfl
   obtain⟨hl,hr⟩:=z1l hy hsol
   obtain⟨hv',h1,h2,hf⟩:=h.inv.ob id _ hg
   have hb1:(pl id).1=b':=by rw [← hb]
   have hb2:(pl id).2=q:=by rw [← hb]
   rw [hb1,hb2] at hf;rw [hb1] at h2
   obtain⟨hst,hkp⟩:=h.setBlk hg o y.cells b.cells.toList hl (by omega) (by rw [hlen];exact hdd) hr
   rw [hb1,hb2] at hst hkp
   have hcell:∀ j,j < s + 1→∃ u,D8 w b' (q + o + j)=some u:=fun j hj=>by
    have hx':cs[o + j]?=some cs[o + j]:=List.getElem?_eq_getElem (by omega)
    obtain⟨u',hu',_⟩:=hf (o + j) _ hx'
    exact⟨u',by rw [Nat.add_assoc];exact hu'⟩
   refine⟨_,S,_,run b' (q + o) _ rfl (by omega) (fun j hj=>?_) (fun j hj=>?_) (fun v hv=>?_),hK,hst,hkp⟩
   ·obtain⟨u,hu⟩:=hcell j (by omega);rw [hu];rfl
   ·obtain⟨u,hu⟩:=hcell j (by omega)
    cases hz:w.frozen? ⟨b',q + o + j,none⟩ with
    | false=>rfl
    | true =>
     obtain⟨e,n,hsh,hlt⟩:=z7b hu
     have:=h2 _ hz e n hsh
     omega
   ·obtain⟨j,hj⟩:=List.mem_iff_getElem?.1 hv
    have hjl:j < y.cells.length:=by rw [← hl];exact (List.getElem?_eq_some_iff.1 hj).1
    have hyj:y.cells[j]?=some y.cells[j]:=List.getElem?_eq_getElem hjl
    exact z7s (hr j _ v hyj hj) (hsol _ (List.mem_of_getElem? hyj))
  ·exact hk.elim
 ·rename_i id ver i o
  have hsol:=z0f _ hk
  obtain⟨hl,hr⟩:=z1l hy hsol
  obtain⟨S1,ys,m1,hk1,hlen,hys,hst1,hkp1⟩:=z0e y.cells b.cells.toList h hl hr hk
  have hx1:=hx.mono hkp1
  clear hk hx
  cases hx1 with | tp _ _ _ _ b' q hv hx =>
  split at hk1
  ·rename_i v sz es cap pub hg
   obtain⟨rfl,rfl,hlen2,hi,hle,hK⟩:=hk1
   obtain⟨sz',es',cap',pub',heq,_,hb,hq⟩:=hx _ hg rfl
   injection heq with _ q1 q2 q3 q4;subst q1 q2 q3 q4
   obtain⟨hv',h0,h1,h2,⟨e3,capn,hs3,hle3,hcap3⟩,⟨hl3,f,hc,hrf⟩,hp⟩:=hst1.inv.ob id _ hg
   have he:es[i]?=some es[i]:=List.getElem?_eq_getElem hi
   have hd:es.getD i []=es[i]:=by simp [List.getD,he]
   rw [hd] at hle hK
   have hei:=hl3 i _ he
   have hus:b.cells.toList.length=s + 1:=by omega
   have hmul:i * sz + sz≤es.length * sz:=by
    have:(i + 1) * sz≤es.length * sz:=Nat.mul_le_mul_right sz hi
    rwa [Nat.add_mul,Nat.one_mul] at this
   have hmul2:es.length * sz≤capn * sz:=Nat.mul_le_mul_right sz hle3
   obtain⟨S2,hst2,hkp2⟩:=hst1.setArr hg (i * sz + o) b.cells.toList (es.set i (F9 es[i] o ys)) cap (capn:=capn) hs3 (by omega) (by simp) (by simp) (by simpa using hle3) hcap3
    (fun j e hj=>by
     rw [List.getElem?_set] at hj
     split at hj
     ·injection hj with hj;subst hj;rw [R2 _ _ _ (by omega)];exact hei
     ·exact hl3 j e hj) (fun k hk=>.inl (by simpa using hk)) (fun g hg' j t e x hj hx=>by
     rw [List.getElem?_set] at hj
     split at hj
     ·rename_i hij;subst hij
      injection hj with hj;subst hj
      rw [M5 _ _ _ (by omega)] at hx
      have ht:t < sz:=by
       rcases Nat.lt_or_ge t sz with q | q
       ·exact q
       ·exfalso
        split at hx
        ·omega
        ·split at hx
         ·omega
         ·rw [List.getElem?_eq_none (by omega)] at hx;simp at hx
      by_cases q1:t < o
      ·rw [if_pos q1] at hx;rw [if_neg (by omega)];exact hg' i t _ x he hx
      ·rw [if_neg q1] at hx
       by_cases q2:t < o + ys.length
       ·rw [if_pos q2] at hx
        rw [if_pos ⟨by omega,by omega⟩,show i * sz + t - (i * sz + o)=t - o by omega]
        have hu:b.cells.toList[t - o]?=some b.cells.toList[t - o]:=List.getElem?_eq_getElem (by omega)
        have:=hys (t - o) x _ hx hu
        simpa [List.getD,hu] using this
       ·rw [if_neg q2] at hx;rw [if_neg (by omega)];exact hg' i t _ x he hx
     ·rename_i hij
      have hjl:j < es.length:=(List.getElem?_eq_some_iff.1 hj).1
      have htl:t < sz:=by have:=(List.getElem?_eq_some_iff.1 hx).1;rw [hl3 j e hj] at this;exact this
      have hne:¬ (i * sz + o≤j * sz + t∧j * sz + t < i * sz + o + b.cells.toList.length):=by
       rintro ⟨g1,g2⟩
       rcases Nat.lt_or_gt_of_ne hij with q | q
       ·have:(i + 1) * sz≤j * sz:=Nat.mul_le_mul_right sz q
        rw [Nat.add_mul,Nat.one_mul] at this;omega
       ·have:(j + 1) * sz≤i * sz:=Nat.mul_le_mul_right sz q
        rw [Nat.add_mul,Nat.one_mul] at this;omega
      rw [if_neg hne];exact hg' j t e x hj hx)
   rw [← hb] at hst2 hkp2 h2 hs3
   subst hq
   have hcell:∀ j,j < b.cells.toList.length→∃ u,D8 w b' (i * sz + o + j)=some u:=fun j hj=>⟨_,by rw [hb];exact hc (i * sz + o + j) (by omega)⟩
   refine⟨_,S2,_,run b' (i * sz + o) _ rfl hus (fun j hj=>?_) (fun j hj=>?_) (fun v hv=>?_),hK,hst2,hkp1.trans hkp2⟩
   ·obtain⟨u,hu⟩:=hcell j hj;rw [hu];rfl
   ·cases hz:w.frozen? ⟨b',i * sz + o + j,none⟩ with
    | false=>rfl
    | true=>have:=h2.1 _ hz _ _ hs3;omega
   ·obtain⟨j,hj⟩:=List.mem_iff_getElem?.1 hv
    have hjl:j < y.cells.length:=by rw [← hl];exact (List.getElem?_eq_some_iff.1 hj).1
    have hyj:y.cells[j]?=some y.cells[j]:=List.getElem?_eq_getElem hjl
    exact z7s (hr j _ v hyj hj) (hsol _ (List.mem_of_getElem? hyj))
  ·exact hk1.elim
 ·exact hk.elim
end
end Go.Proofs.YtioiigabeoaneaaGreat.V
namespace Go.Proofs.YtioiigabeoaneaaGreat.V
open Go Go.RowKit
section
variable {P:Program} {T:Tab} {X:Ctx} {S:D7} {pl:E2} {w:World} {m:Mem} {K:KK}
theorem z8k (off:Nat):∀ (vs:List Value) (k:Nat) (cells:Array Value),off + k + vs.length≤cells.size →
  ((vs.zipIdx k).foldl (fun (cs:Array Value) (p:Value × Nat)=>cs.setIfInBounds (off + p.2) p.1) cells).toList=F9 cells.toList (off + k) vs
 | [],k,cells,_=>by simp [F9]
 | v :: vs,k,cells,h=>by
  simp only [List.length_cons] at h
  rw [List.zipIdx_cons,List.foldl_cons,z8k off vs (k + 1) _ (by simp;omega)]
  apply List.ext_getElem?
  intro j
  have h2:off + (k + 1) + vs.length≤(cells.setIfInBounds (off + k) v).toList.length:=by simp;omega
  have h3:off + k + (v :: vs).length≤cells.toList.length:=by simp;omega
  rw [M5 _ _ _ h2,M5 _ _ _ h3]
  simp only [Array.toList_setIfInBounds,List.length_cons,List.getElem?_set,Array.length_toList]
  by_cases h4:j < off + k
  ·rw [if_pos (by omega),if_pos h4,if_neg (by omega)]
  ·rw [if_neg h4]
   by_cases h5:j=off + k
   ·subst h5;rw [if_pos (by omega),if_pos (by omega)];simp;omega
   ·rw [if_neg (by omega)]
    by_cases h6:j < off + (k + 1) + vs.length
    ·rw [if_pos h6,if_pos (by omega),show j - (off + k)=(j - (off + (k + 1))) + 1 by omega];simp
    ·rw [if_neg h6,if_neg (by omega),if_neg (by omega)]
theorem w8f (cells:Array Value) (off:Nat) (v:Value) (h:off + v.cells.size≤cells.size) :
  (v.cells.zipIdx.foldl (fun (cs:Array Value) (p:Value × Nat)=>cs.setIfInBounds (off + p.2) p.1) cells).toList=F9 cells.toList off v.cells.toList:=by
 rw [← Array.foldl_toList,Array.toList_zipIdx]
 have:=z8k off v.cells.toList 0 cells (by simpa using h)
 simpa using this
def CellsRel (S:D7) (pl:E2) (w:World) (m:Mem) (cs:List AV) (us:List Value):Prop:=us.length=cs.length∧∀ (j:Nat) x u,cs[j]?=some x→us[j]?=some u→RelV S pl w m x u
theorem CellsRel.put {cs xs:List AV} {us vs:List Value} (h:CellsRel S pl w m cs us) (k:CellsRel S pl w m xs vs) (o:Nat) (ho:o + xs.length≤cs.length):CellsRel S pl w m (F9 cs o xs) (F9 us o vs):=by
 have ho':o + vs.length≤us.length:=by rw [h.1,k.1];exact ho
 refine⟨by rw [R2 _ _ _ ho,R2 _ _ _ ho',h.1],fun j x u hx hu=>?_⟩
 rw [M5 _ _ _ ho] at hx
 rw [M5 _ _ _ ho',k.1] at hu
 split at hx
 ·rename_i hj;rw [if_pos hj] at hu;exact h.2 j x u hx hu
 ·rename_i hj;rw [if_neg hj] at hu
  split at hx
  ·rename_i hj2;rw [if_pos hj2] at hu;exact k.2 _ x u hx hu
  ·rename_i hj2;rw [if_neg hj2] at hu;exact h.2 j x u hx hu
theorem w6l {x:AV} {u:Value} (hr:RelV S pl w m x u) (hs:∀ y ∈ x.cells,y.solid=true):CellsRel S pl w m x.cells u.cells.toList:=z1l hr hs
theorem z0a (place:Nat→Option (Nat × Nat)):∀ (ps:List (Nat × AV)) (vs:List (Nat × Value)) (cs:List AV) (cells:Array Value),CellsRel S pl w m cs cells.toList→vs.length=ps.length →
  (∀ (j:Nat) p q,ps[j]?=some p→vs[j]?=some q→p.1=q.1∧RelV S pl w m p.2 q.2)→∀ cs',V6 place cs ps=some cs'→∃ cells',Instr.fill place cells vs=some cells'∧CellsRel S pl w m cs' cells'.toList
 | [],[],cs,cells,h,_,_,cs',hf=>by simp only [V6,Option.some.injEq] at hf;subst hf;exact⟨cells,rfl,h⟩
 | [],_ :: _,_,_,_,hl,_,_,_=>by simp at hl
 | _ :: _,[],_,_,_,hl,_,_,_=>by simp at hl
 | (i,x) :: ps,(i',u) :: vs,cs,cells,h,hl,hr,cs',hf=>by
  obtain⟨hi,hx⟩:=hr 0 (i,x) (i',u) rfl rfl
  simp only at hi hx;subst hi
  simp only [V6] at hf
  cases hp:place i with
  | none=>rw [hp] at hf;simp at hf
  | some q =>
   obtain⟨off,size⟩:=q
   rw [hp] at hf
   simp only at hf
   split at hf
   ·simp at hf
   ·rename_i hn
    simp only [not_or] at hn
    obtain⟨h1,h2,h3⟩:=hn
    have hsz:x.cells.length=size:=by omega
    have hsol:∀ y ∈ x.cells,y.solid=true:=List.all_eq_true.1 (by simpa using h3)
    have hc:=w6l hx hsol
    have hlen:u.cells.size=size:=by rw [← Array.length_toList,hc.1,hsz]
    have hcl:cells.size=cs.length:=by rw [← Array.length_toList,h.1]
    simp only [Instr.fill,hp]
    rw [if_neg (by simp;omega)]
    refine z0a place ps vs _ _ ?_ (by simpa using hl) (fun j p q hp' hq'=>hr (j + 1) p q (by simpa using hp') (by simpa using hq')) cs' hf
    have:=w8f cells off u (by omega)
    rw [show (fun (cs:Array Value) (x:Value × Nat)=>match x with | (c,j)=>cs.setIfInBounds (off + j) c)=(fun (cs:Array Value) (p:Value × Nat)=>cs.setIfInBounds (off + p.2) p.1) from rfl,this]
    exact h.put hc off (by omega)
theorem w1b {α β:Type} (f:α→Sem β) (g:α→β):∀ (l:List α),(∀ x ∈ l,(f x).run P w=.ok (g x) w)→(l.mapM f).run P w=.ok (l.map g) w
 | [],_=>rfl
 | x :: l,h=>by
  rw [List.mapM_cons]
  simp only [Sem.run_bind,h x (by simp),Result.andThen_ok,w1b f g l (fun y hy=>h y (by simp [hy])),Sem.run_pure,List.map_cons]
theorem w7f {α β:Type} (f:α→Sem β) (g:α→β) (a:Array α) (h:∀ x ∈ a.toList,(f x).run P w=.ok (g x) w):(a.mapM f).run P w=.ok (a.map g) w:=by
 rw [Array.mapM_eq_mapM_toList]
 simp only [Sem.run_map,w1b f g a.toList h,Result.andThen_ok]
 congr 1
 apply Array.ext';simp
theorem w2p {z:List CV} {v:Value} (hl:z.length=v.cells.size) (hr:∀ (i:Nat) x u,z[i]?=some x→v.cells[i]?=some u→RelC S w x u):CellsRel S pl w m (z.map .c) v.cells.toList:=by
 refine⟨by simp [hl],fun j x u hx hu=>?_⟩
 rw [List.getElem?_map] at hx
 cases hz:z[j]? with
 | none=>rw [hz] at hx;simp at hx
 | some y=>rw [hz] at hx;simp at hx;subst hx;exact .c _ _ (hr j y u hz (by simpa using hu))
theorem w0l (hT:TabOk P T) (h:St X S pl w m) {t:Nat} {ps:List (Nat × AV)} {vs:List (Nat × Value)} (hl:vs.length=ps.length) (hr:∀ (j:Nat) p q,ps[j]?=some p→vs[j]?=some q→p.1=q.1∧RelV S pl w m p.2 q.2)
  (hk:match (T.at t).k with
   | .st fs=>N9 (Y9 fs) (T.at t).zero ps m K
   | .ar _ esz _=>N9 (fun i=>some (i * esz,esz)) (T.at t).zero ps m K
   | _=>False):Did X S pl w m ((Instr.build t vs.toArray).run P w) K:=by
 have go:∀ place:Nat→Option (Nat × Nat),N9 place (T.at t).zero ps m K→∀ v:Value,(T.at t).zero.length=v.cells.size→(∀ (i:Nat) x u,(T.at t).zero[i]?=some x→v.cells[i]?=some u→RelC S w x u) →
   ∃ cells',Instr.fill place v.cells vs=some cells'∧∃ cs,K (.agg cs) m∧CellsRel S pl w m cs cells'.toList:=by
  intro place hb v h1 h2
  unfold N9 at hb
  split at hb
  ·rename_i cs' hf
   obtain⟨cells',hc,hrel⟩:=z0a place ps vs _ v.cells (w2p h1 h2) hl hr cs' hf
   exact⟨cells',hc,cs',hb,hrel⟩
  ·exact hb.elim
 have fin:∀ (cells':Array Value) (cs:List AV),CellsRel S pl w m cs cells'.toList→RelV S pl w m (.agg cs) (.agg cells'):=fun cells' cs hc=>by
  have:=RelV.agg (S:=S) (pl:=pl) (w:=w) (m:=m) cs cells'.toList hc.1 hc.2
  simpa using this
 split at hk
 ·rename_i fs hs
  obtain⟨ht,hz,hkn⟩:=hT.tk (t:=t) (by rw [hs];rfl)
  obtain⟨v,hrun,h1,h2⟩:=Y8 hz hkn S w
  rw [hs] at ht;simp only [z3l] at ht
  split at ht
  ·rename_i fields hu
   simp only [Bool.and_eq_true,beq_iff_eq,List.all_eq_true] at ht
   obtain⟨hmap,hall⟩:=ht
   have hpl:(fun i=>(fields.map fun f=>(f.offset,P.cellsOf f.type))[i]?)=Y9 fs:=by
    funext i
    unfold Y9
    rw [← hmap,List.getElem?_map,← Array.getElem?_toList,Array.toList_map,List.getElem?_map]
    cases fields.toList[i]?<;>rfl
   obtain⟨cells',hfill,cs,hK,hrel⟩:=go _ hk v h1 h2
   unfold Instr.build
   have hmm:=w7f (P:=P) (w:=w) (fun f:Field=>(do pure (f.offset,← sizeOf f.type):Sem (Nat × Nat))) (fun f=>(f.offset,P.cellsOf f.type)) fields (fun f hf=>by
    simp only [Sem.run_bind,F7 (hall f hf),Result.andThen_ok,Sem.run_pure])
   simp only [Sem.run_bind,hrun,Result.andThen_ok,run_underlying hu,hmm,hpl,hfill,Sem.run_pure]
   exact Did.same h hK (fin _ _ hrel)
  ·simp at ht
 ·rename_i n esz ea hs
  obtain⟨e,hu,hsz,_,hkn,_⟩:=z1h hT hs
  obtain⟨_,hz,hknt⟩:=hT.tk (t:=t) (by rw [hs];rfl)
  obtain⟨v,hrun,h1,h2⟩:=Y8 hz hknt S w
  obtain⟨cells',hfill,cs,hK,hrel⟩:=go _ hk v h1 h2
  unfold Instr.build
  simp only [Sem.run_bind,hrun,Result.andThen_ok,run_underlying hu,F7 hkn,hsz,hfill,Sem.run_pure]
  exact Did.same h hK (fin _ _ hrel)
 ·exact hk.elim
theorem H4 {α:Type} (l:List α):∀ n,(R1 n l).length=n * l.length
 | 0=>by simp [R1]
 | n + 1=>by rw [R1,List.length_append,H4 l n,Nat.add_mul];omega
theorem V1 {α:Type} (l:List α) (hl:0 < l.length):∀ (n i:Nat),i < n * l.length→(R1 n l)[i]?=l[i % l.length]?
 | 0,i,h=>by simp at h
 | n + 1,i,h=>by
  rw [R1]
  by_cases hi:i < l.length
  ·rw [List.getElem?_append_left hi,Nat.mod_eq_of_lt hi]
  ·rw [List.getElem?_append_right (by omega),V1 l hl n _ (by rw [Nat.add_mul] at h;omega)]
   congr 1
   rw [← Nat.mod_eq_sub_mod (by omega)]
theorem z5d (z:Array Value) (n:Nat) (hz:0 < z.size):(Array.range (n * z.size)).map (z[· % z.size]!)=(R1 n z.toList).toArray:=by
 apply Array.ext'
 simp only [Array.toList_map,Array.toList_range]
 apply List.ext_getElem?
 intro i
 by_cases hi:i < n * z.size
 ·have:=V1 z.toList (by simpa using hz) n i (by simpa using hi)
  rw [this,List.getElem?_map,List.getElem?_range hi]
  have hm:i % z.size < z.size:=Nat.mod_lt _ hz
  simp [hm]
 ·rw [List.getElem?_eq_none (by simp;omega),List.getElem?_eq_none (by rw [H4];simp;omega)]
theorem z6r {α:Type} (sz:Nat) (hsz:0 < sz):∀ (n:Nat) (l:List α),l.length=n * sz→(X4 sz n l).length=n∧∀ (i:Nat) e,(X4 sz n l)[i]?=some e→e.length=sz∧∀ j,j < sz→e[j]?=l[i * sz + j]?
 | 0,l,_=>⟨rfl,fun i e h=>by simp [X4] at h⟩
 | n + 1,l,h=>by
  rw [Nat.add_mul,Nat.one_mul] at h
  obtain⟨h1,h2⟩:=z6r sz hsz n (l.drop sz) (by rw [List.length_drop];omega)
  refine⟨by simp [X4,h1],fun i e he=>?_⟩
  cases i with
  | zero =>
   simp [X4] at he;subst he
   exact⟨by rw [List.length_take];omega,fun j hj=>by rw [List.getElem?_take_of_lt hj];simp⟩
  | succ i =>
   simp [X4] at he
   obtain⟨h3,h4⟩:=h2 i e he
   exact⟨h3,fun j hj=>by rw [h4 j hj,List.getElem?_drop];congr 1;rw [Nat.add_mul];omega⟩
theorem W7 (hT:TabOk P T) (h:St X S pl w m) {t len esz eb:Nat} {ea u8:Bool} (hs:(T.at t).k=.sl esz ea eb u8) (site:Nat) {ps:List (Nat × AV)} {vs:List (Nat × Value)} (hl:vs.length=ps.length)
  (hr:∀ (j:Nat) p q,ps[j]?=some p→vs[j]?=some q→p.1=q.1∧RelV S pl w m p.2 q.2) (hk:T4 site esz (T.at t).ezero len ps m K):Did X S pl w m ((Instr.buildSlice t len vs.toArray).run P w) K:=by
 obtain⟨e,hu,hsz,_,hkn,hpos,_,_,⟨hz,hzl⟩,_⟩:=H5 hT hs
 obtain⟨v,hrun,h1,h2⟩:=Y8 hz hkn S w
 obtain⟨hle,hk⟩:=hk
 have hvz:v.cells.size=esz:=by omega
 split at hk
 ·rename_i cs' hf
  have hstart:CellsRel S pl w m ((R1 len (T.at t).ezero).map .c) (R1 len v.cells.toList):=by
   refine⟨by rw [H4,List.length_map,H4,Array.length_toList,h1],fun j x u hx hu'=>?_⟩
   have hj:j < len * esz:=by have:=(List.getElem?_eq_some_iff.1 hu').1;rw [H4,Array.length_toList,hvz] at this;exact this
   rw [List.getElem?_map,V1 _ (by omega) len j (by rw [hzl];exact hj)] at hx
   rw [V1 _ (by rw [Array.length_toList];omega) len j (by rw [Array.length_toList,hvz];exact hj)] at hu'
   rw [hzl] at hx;rw [Array.length_toList,hvz] at hu'
   cases hq:(T.at t).ezero[j % esz]? with
   | none=>rw [hq] at hx;simp at hx
   | some y=>rw [hq] at hx;simp at hx;subst hx;exact .c _ _ (h2 _ y u hq (by simpa using hu'))
  obtain⟨cells',hfill,hrel⟩:=z0a (S:=S) (pl:=pl) (w:=w) (m:=m) _ ps vs _ (R1 len v.cells.toList).toArray (by simpa using hstart) hl hr cs' hf
  have hsolid:=z0f _ hk
  obtain⟨S1,ys,m1,hk1,hlen,hys,hst1,hkp1⟩:=z0e cs' cells'.toList h hrel.1 hrel.2 hk
  have hlc:cells'.size=len * esz:=by
   have hp:∀ (ps:List (Nat × AV)) (cs cs':List AV),V6 (fun i=>some (i * esz,esz)) cs ps=some cs'→cs'.length=cs.length:=by
    intro ps
    induction ps with
    | nil=>intro cs cs' hf;simp only [V6,Option.some.injEq] at hf;rw [hf]
    | cons p ps ih =>
     intro cs cs' hf
     obtain⟨i,x⟩:=p
     simp only [V6] at hf
     split at hf
     ·simp at hf
     ·rename_i hn;simp only [not_or] at hn
      rw [ih _ _ hf,R2 _ _ _ (by omega)]
   rw [← Array.length_toList,hrel.1,hp ps _ _ hf,List.length_map,H4,hzl]
  have hylen:ys.length=len * esz:=by rw [hlen,← hrel.1,Array.length_toList,hlc]
  obtain⟨hcl,hcg⟩:=z6r esz hpos len ys hylen
  have hrun2:(Instr.buildSlice t len vs.toArray).run P w=.ok (.slice (some ⟨w.heap.size,0,none⟩) len len) (w.alloc (.cells cells' e)):=by
   unfold Instr.buildSlice
   simp only [Sem.run_bind,run_underlying hu,Result.andThen_ok,F7 hkn,hsz]
   rw [if_neg (by omega)]
   by_cases h0:len * esz=0
   ·have hl0:len=0:=by rcases Nat.mul_eq_zero.1 h0 with q | q;exact q;omega
    subst hl0
    simp only [R1] at hfill
    simp only [Nat.zero_mul,if_true,Sem.run_bind,Sem.run_pure,Result.andThen_ok]
    rw [show Array.map (fun x=>(#[]:Array Value)[x % (#[]:Array Value).size]!) (Array.range 0)=[].toArray by simp,hfill]
    simp only [newRow,Sem.run_bind,run_newObj,Sem.run_pure];rfl
   ·simp only [if_neg h0,Sem.run_bind,hrun,Result.andThen_ok,Sem.run_pure]
    have harr:=z5d v.cells len (by omega)
    rw [hvz] at harr
    rw [show v.cells.size=esz from hvz,harr,hfill]
    simp only [newRow,Sem.run_bind,run_newObj,Sem.run_pure];rfl
  rw [hrun2]
  have:=z2y (K:=K) hst1 site esz (X4 esz len ys) (some len) false cells'.toList [] e (0,0) len len hpos (fun i e he=>(hcg i e he).1) (by rw [hcl];simpa using hlc) (by simpa using hlc) (fun c hc=>by injection hc) (.inl (Nat.le_refl _)) (by omega) (fun _=>by have:=Nat.le_mul_of_pos_right len hpos;omega)
   (fun i j e x he hx=>by
    have hj:j < esz:=by have:=(List.getElem?_eq_some_iff.1 hx).1;rw [(hcg i e he).1] at this;exact this
    rw [(hcg i e he).2 j hj] at hx
    have hlt:i * esz + j < cells'.toList.length:=by rw [Array.length_toList,hlc,← hylen];exact (List.getElem?_eq_some_iff.1 hx).1
    have hu':cells'.toList[i * esz + j]?=some cells'.toList[i * esz + j]:=List.getElem?_eq_getElem hlt
    have:=hys _ x _ hx hu'
    simpa [List.getD,hu'] using this) hk1
  simp only [List.append_nil] at this
  obtain⟨u,w',S',pl',v',m',e1,e2,e3,e4,e5⟩:=this
  exact⟨u,w',S',pl',v',m',by simpa using e1,e2,e3,e4,hkp1.trans e5⟩
 ·exact hk.elim
theorem z3g (hT:TabOk P T) (h:St X S pl w m) {t len esz eb:Nat} {ea u8:Bool} (hs:(T.at t).k=.sl esz ea eb u8) (site:Nat) {ps:List (Nat × AV)} {vs:List (Nat × Value)} (hl:vs.length=ps.length)
  (hr:∀ (j:Nat) p q,ps[j]?=some p→vs[j]?=some q→p.1=q.1∧RelV S pl w m p.2 q.2) (hk:W9 site esz (T.at t).ezero len ps m K):Did X S pl w m ((Instr.buildSlice t len vs.toArray).run P w) K:=by
 obtain⟨e,hu,hsz,_,hkn,hpos,_,_,⟨hz,hzl⟩,_⟩:=H5 hT hs
 obtain⟨v,hrun,h1,h2⟩:=Y8 hz hkn S w
 obtain⟨⟨hpl,hle⟩,hk⟩:=hk
 have hvz:v.cells.size=esz:=by omega
 split at hk
 ·rename_i cs' hf
  have hstart:CellsRel S pl w m ((R1 len (T.at t).ezero).map .c) (R1 len v.cells.toList):=by
   refine⟨by rw [H4,List.length_map,H4,Array.length_toList,h1],fun j x u hx hu'=>?_⟩
   have hj:j < len * esz:=by have:=(List.getElem?_eq_some_iff.1 hu').1;rw [H4,Array.length_toList,hvz] at this;exact this
   rw [List.getElem?_map,V1 _ (by omega) len j (by rw [hzl];exact hj)] at hx
   rw [V1 _ (by rw [Array.length_toList];omega) len j (by rw [Array.length_toList,hvz];exact hj)] at hu'
   rw [hzl] at hx;rw [Array.length_toList,hvz] at hu'
   cases hq:(T.at t).ezero[j % esz]? with
   | none=>rw [hq] at hx;simp at hx
   | some y=>rw [hq] at hx;simp at hx;subst hx;exact .c _ _ (h2 _ y u hq (by simpa using hu'))
  obtain⟨cells',hfill,hrel⟩:=z0a (S:=S) (pl:=pl) (w:=w) (m:=m) _ ps vs _ (R1 len v.cells.toList).toArray (by simpa using hstart) hl hr cs' hf
  have hlc:cells'.size=len * esz:=by
   have hp:∀ (ps:List (Nat × AV)) (cs cs':List AV),V6 (fun i=>some (i * esz,esz)) cs ps=some cs'→cs'.length=cs.length:=by
    intro ps
    induction ps with
    | nil=>intro cs cs' hf;simp only [V6,Option.some.injEq] at hf;rw [hf]
    | cons p ps ih =>
     intro cs cs' hf
     obtain⟨i,x⟩:=p
     simp only [V6] at hf
     split at hf
     ·simp at hf
     ·rename_i hn;simp only [not_or] at hn
      rw [ih _ _ hf,R2 _ _ _ (by omega)]
   rw [← Array.length_toList,hrel.1,hp ps _ _ hf,List.length_map,H4,hzl]
  have hrun2:(Instr.buildSlice t len vs.toArray).run P w=.ok (.slice (some ⟨w.heap.size,0,none⟩) len len) (w.alloc (.cells cells' e)):=by
   unfold Instr.buildSlice
   simp only [Sem.run_bind,run_underlying hu,Result.andThen_ok,F7 hkn,hsz]
   rw [if_neg (by omega)]
   by_cases h0:len * esz=0
   ·have hl0:len=0:=by rcases Nat.mul_eq_zero.1 h0 with q | q;exact q;omega
    subst hl0
    simp only [R1] at hfill
    simp only [Nat.zero_mul,if_true,Sem.run_bind,Sem.run_pure,Result.andThen_ok]
    rw [show Array.map (fun x=>(#[]:Array Value)[x % (#[]:Array Value).size]!) (Array.range 0)=[].toArray by simp,hfill]
    simp only [newRow,Sem.run_bind,run_newObj,Sem.run_pure];rfl
   ·simp only [if_neg h0,Sem.run_bind,hrun,Result.andThen_ok,Sem.run_pure]
    have harr:=z5d v.cells len (by omega)
    rw [hvz] at harr
    rw [show v.cells.size=esz from hvz,harr,hfill]
    simp only [newRow,Sem.run_bind,run_newObj,Sem.run_pure];rfl
  rw [hrun2]
  have:=k2z (K:=K) h site cs' cells'.toList e hrel.1 hrel.2 len hk
  simpa using this
 ·exact hk.elim
theorem z3u (hT:TabOk P T) (h:St X S pl w m) {t esz eb:Nat} {ea u8:Bool} (hs:(T.at t).k=.sl esz ea eb u8) (site:Nat) {l c:AV} {lv cv:Value} (hl:RelV S pl w m l lv) (hc:RelV S pl w m c cv)
  (hk:Z5 site esz eb (T.at t).ezero m l c K):Did X S pl w m ((Instr.makeSlice t lv cv).run P w) K:=by
 obtain⟨e,hu,hsz,heb,hkn,hpos,hb1,hb2,⟨hz,hzl⟩,_⟩:=H5 hT hs
 obtain⟨v,hrun,h1,h2⟩:=Y8 hz hkn S w
 unfold Z5 at hk
 split at hk
 ·rename_i k1 l k2 c
  have e1:=H2 hl;subst e1
  have e2:=H2 hc;subst e2
  obtain⟨h3,h4,h5,hK⟩:=hk
  obtain⟨i,d,hi,_⟩:=S5 hkn
  have hbytes:i.bytes=eb:=by rw [← heb];unfold Program.bytesOf;rw [hi];rfl
  have hc46:c≤2 ^ 46:=by
   have:c * 1≤c * (eb:Int):=Int.mul_le_mul_of_nonneg_left (by omega) (by omega)
   omega
  have hw:∀ n:Int,0≤n→n≤2 ^ 46→IntKind.i64.wrap n=n:=fun n g1 g2=>IntWalk.i64_in n ⟨by omega,by omega⟩
  have hvz:v.cells.size=esz:=by omega
  have hct:(c.toNat:Int)=c:=Int.toNat_of_nonneg (by omega)
  have hlt:(l.toNat:Int)=l:=Int.toNat_of_nonneg (by omega)
  have hrun2:(Instr.makeSlice t (.int k1 l) (.int k2 c)).run P w=.ok (.slice (some ⟨w.heap.size,0,none⟩) l.toNat c.toNat) (w.alloc (.cells (R1 c.toNat v.cells.toList).toArray e)):=by
   unfold Instr.makeSlice
   simp only [Sem.run_bind,run_underlying hu,Result.andThen_ok,asInt,asIntOf,Sem.run_pure,run_typeInfo w hi,hbytes,hw l h3 (by omega),hw c (by omega) hc46]
   have hpow:(2:Int) ^ 46≤2 ^ 48:=by decide
   rw [if_neg (by
    simp only [Bool.or_eq_true,decide_eq_true_eq,not_or]
    refine⟨⟨⟨by omega,?_⟩,by omega⟩,by omega⟩
    rw [Int.mul_comm];omega)]
   by_cases h0:c.toNat * esz=0
   ·have hl0:c.toNat=0:=by rcases Nat.mul_eq_zero.1 h0 with q | q;exact q;omega
    simp only [Sem.run_bind,run_askRoom,Result.andThen_ok,F7 hkn,hsz]
    rw [if_pos h0,h0,hl0]
    simp only [Sem.run_bind,Sem.run_pure,Result.andThen_ok,newRow,run_newObj]
    rw [show Array.map (fun x=>(#[]:Array Value)[x % (#[]:Array Value).size]!) (Array.range 0)=[].toArray by simp];rfl
   ·simp only [Sem.run_bind,run_askRoom,Result.andThen_ok,F7 hkn,hsz]
    rw [if_neg h0]
    simp only [Sem.run_bind,hrun,Result.andThen_ok,Sem.run_pure]
    have harr:=z5d v.cells c.toNat (by omega)
    rw [hvz] at harr
    rw [show v.cells.size=esz from hvz,harr]
    simp only [newRow,Sem.run_bind,run_newObj,Sem.run_pure];rfl
  rw [hrun2]
  have hsplit:R1 c.toNat v.cells.toList=R1 l.toNat v.cells.toList++R1 (c.toNat - l.toNat) v.cells.toList:=by
   have:∀ a b,R1 (a + b) v.cells.toList=R1 a v.cells.toList++R1 b v.cells.toList:=fun a b=>by
    induction a with
    | zero=>simp [R1]
    | succ a ih=>rw [show a + 1 + b=(a + b) + 1 by omega,R1,ih,R1,List.append_assoc]
   rw [← this];congr 1;omega
  have hvl:v.cells.toList.length=esz:=by simpa using hvz
  rw [hsplit]
  refine z2y (K:=K) h site esz (List.replicate l.toNat (T.at t).ezero) (some c.toNat) false _ _ e (0,0) l.toNat c.toNat hpos (fun i e he=>?_) (by rw [H4,List.length_replicate,hvl]) ?_ (fun c' hc'=>by injection hc') (.inl (Nat.le_refl _)) (by simp) (fun _=>by omega) (fun i j e x he hx=>?_) hK
  ·rw [List.getElem?_replicate] at he
   split at he
   ·injection he with he;subst he;exact hzl
   ·simp at he
  ·rw [← hsplit,H4,hvl]
  ·rw [List.getElem?_replicate] at he
   split at he
   ·injection he with he;subst he
    rename_i hil
    have hj:j < esz:=by have:=(List.getElem?_eq_some_iff.1 hx).1;omega
    have hij:i * esz + j < l.toNat * v.cells.toList.length:=by
     have:(i + 1) * esz≤l.toNat * esz:=Nat.mul_le_mul_right esz hil
     rw [Nat.add_mul,Nat.one_mul] at this;rw [hvl];omega
    have hg:=V1 v.cells.toList (by omega) l.toNat (i * esz + j) hij
    rw [hvl,Nat.add_comm,Nat.add_mul_mod_self_right,Nat.mod_eq_of_lt hj,Nat.add_comm] at hg
    have hvj:v.cells.toList[j]?=some v.cells.toList[j]:=List.getElem?_eq_getElem (by omega)
    have:=h2 j x _ hx (by rw [← Array.getElem?_toList];exact hvj)
    simpa [List.getD,hg,hvj] using this
   ·simp at he
 ·exact hk.elim
end
end Go.Proofs.YtioiigabeoaneaaGreat.V
namespace Go.Proofs.YtioiigabeoaneaaGreat.V
open Go Go.RowKit
section
variable {P:Program} {T:Tab} {X:Ctx} {S:D7} {pl:E2} {w:World} {m:Mem} {K:KK}
theorem w2l (b o k:Nat):(⟨b,o,none⟩:Addr).add k=⟨b,o + k,none⟩:=by unfold Addr.add;split<;>simp_all
def RowV (S:D7) (w:World) (sz:Nat) (es:List (List CV)) (us:List Value):Prop :=
 us.length=es.length * sz∧(∀ (i:Nat) e,es[i]?=some e→e.length=sz)∧∀ (i j:Nat) e x,es[i]?=some e→e[j]?=some x→RelC S w x (us.getD (i * sz + j) undef)
theorem z2i {i n sz j:Nat} (hi:i < n) (hj:j < sz):i * sz + j < n * sz:=by
 have:(i + 1) * sz≤n * sz:=Nat.mul_le_mul_right sz hi
 rw [Nat.add_mul,Nat.one_mul] at this;omega
theorem RowV.solid {sz:Nat} {es:List (List CV)} {us:List Value} (h:RowV S w sz es us) (hsz:0 < sz):∀ v ∈ us,v.oneCell'=true:=by
 intro v hv
 obtain⟨k,hk⟩:=List.mem_iff_getElem?.1 hv
 have hkl:k < es.length * sz:=by rw [← h.1];exact (List.getElem?_eq_some_iff.1 hk).1
 have hi:k / sz < es.length:=(Nat.div_lt_iff_lt_mul hsz).2 hkl
 have hj:k % sz < sz:=Nat.mod_lt _ hsz
 have he:es[k / sz]?=some es[k / sz]:=List.getElem?_eq_getElem hi
 have hel:=h.2.1 _ _ he
 have hx:es[k / sz][k % sz]?=some es[k / sz][k % sz]:=List.getElem?_eq_getElem (by omega)
 have:=(h.2.2 _ _ _ _ he hx).solid
 rw [show k / sz * sz + k % sz=k by rw [Nat.mul_comm];exact Nat.div_add_mod k sz] at this
 simpa [List.getD,hk] using this
theorem RowV.take {sz:Nat} {es:List (List CV)} {us:List Value} (h:RowV S w sz es us) (n:Nat):RowV S w sz (es.take n) (us.take (n * sz)):=by
 refine⟨?_,fun i e he=>?_,fun i j e x he hx=>?_⟩
 ·rw [List.length_take,List.length_take,h.1]
  rcases Nat.le_total n es.length with q | q
  ·rw [Nat.min_eq_left q,Nat.min_eq_left (Nat.mul_le_mul_right sz q)]
  ·rw [Nat.min_eq_right q,Nat.min_eq_right (Nat.mul_le_mul_right sz q)]
 ·have hi:i < n:=by have:=(List.getElem?_eq_some_iff.1 he).1;rw [List.length_take] at this;omega
  rw [List.getElem?_take_of_lt hi] at he;exact h.2.1 i e he
 ·have hi:i < n:=by have:=(List.getElem?_eq_some_iff.1 he).1;rw [List.length_take] at this;omega
  rw [List.getElem?_take_of_lt hi] at he
  have hj:j < sz:=by have:=(List.getElem?_eq_some_iff.1 hx).1;rw [h.2.1 i e he] at this;exact this
  have:=h.2.2 i j e x he hx
  have hlt:=z2i hi hj
  simpa [List.getD,List.getElem?_take_of_lt hlt] using this
theorem RowV.append {sz:Nat} {es ns:List (List CV)} {us vs:List Value} (h:RowV S w sz es us) (k:RowV S w sz ns vs):RowV S w sz (es++ns) (us++vs):=by
 have hget:∀ (i:Nat) e,(es++ns)[i]?=some e→(i < es.length∧es[i]?=some e)∨(es.length≤i∧ns[i - es.length]?=some e):=fun i e he=>by
  by_cases hi:i < es.length
  ·rw [List.getElem?_append_left hi] at he;exact .inl ⟨hi,he⟩
  ·rw [List.getElem?_append_right (by omega)] at he;exact .inr ⟨by omega,he⟩
 refine⟨by rw [List.length_append,List.length_append,h.1,k.1,Nat.add_mul],fun i e he=>?_,fun i j e x he hx=>?_⟩
 ·rcases hget i e he with ⟨_,q⟩ | ⟨_,q⟩
  ·exact h.2.1 i e q
  ·exact k.2.1 _ e q
 ·rcases hget i e he with ⟨hi,q⟩ | ⟨hi,q⟩
  ·have hj:j < sz:=by have:=(List.getElem?_eq_some_iff.1 hx).1;rw [h.2.1 i e q] at this;exact this
   have:=h.2.2 i j e x q hx
   have hlt:=z2i hi hj
   rw [← h.1] at hlt
   simpa [List.getD,List.getElem?_append_left hlt] using this
  ·have:=k.2.2 _ j e x q hx
   have hge:us.length≤i * sz + j:=by rw [h.1];have:=Nat.mul_le_mul_right sz hi;omega
   have hsub:i * sz + j - us.length=(i - es.length) * sz + j:=by
    rw [h.1,Nat.sub_mul];have:=Nat.mul_le_mul_right sz hi;omega
   simpa [List.getD,List.getElem?_append_right hge,hsub] using this
theorem U5 (h:St X S pl w m) {esz:Nat} (hpos:0 < esz) {x:AV} {a:Value} (hx:RelV S pl w m x a) {K:List (List CV)→Prop} (hk:z9b esz m x K) :
  ∃ ns us,K ns∧RowV S w esz ns us∧(Builtin.lenOf a).run P w=.ok ns.length w∧(∀ n,n≤ns.length→∀ dr,(Builtin.firstCells esz n a).run P { w with drawn:=dr }=.ok (us.take (n * esz)).toArray { w with drawn:=dr }):=by
 have load:∀ (b o:Nat) (f:Nat→Value) (n:Nat),(∀ k,k < n→D8 w b (o + k)=some (f k))→∀ dr,(loadCells ⟨b,o,none⟩ n).run P { w with drawn:=dr }=.ok ((List.range n).map f).toArray { w with drawn:=dr }:=fun b o f n hc dr =>
  run_loadCells { w with drawn:=dr } ⟨b,o,none⟩ n f (fun j hj=>by rw [w2l];exact hc j hj)
 have take_range:∀ (f:Nat→Value) (a b:Nat),a≤b→((List.range b).map f).take a=(List.range a).map f:=fun f a b hab=>by
  rw [← List.map_take,List.take_range,Nat.min_eq_left hab]
 unfold z9b at hk
 split at hk
 ·rename_i s
  obtain⟨rfl,hk⟩:=hk
  have e1:=H2 hx;subst e1
  refine⟨_,s.data.toList.map fun b=>.int .u8 b.toNat,hk,⟨by simp [E8],fun i e he=>?_,fun i j e x he hx=>?_⟩,?_,fun n hn dr=>?_⟩
  ·simp only [E8,List.getElem?_map] at he
   cases hs:s.data.toList[i]? with
   | none=>rw [hs] at he;simp at he
   | some c=>rw [hs] at he;simp at he;subst he;rfl
  ·simp only [E8,List.getElem?_map] at he
   cases hs:s.data.toList[i]? with
   | none=>rw [hs] at he;simp at he
   | some c =>
    rw [hs] at he;simp at he;subst he
    cases j with
    | succ j=>simp at hx
    | zero =>
     simp at hx;subst hx
     have:(s.data.toList.map fun b=>Value.int .u8 b.toNat).getD (i * 1 + 0) undef=.int .u8 c.toNat:=by
      rw [Nat.mul_one,Nat.add_zero];simp only [List.getD,List.getElem?_map,hs];rfl
     rw [this];exact .v _ rfl
  ·unfold Builtin.lenOf
   simp only [Sem.run_pure,E8,List.length_map]
   congr 1
  ·unfold Builtin.firstCells
   simp only [Sem.run_pure]
   congr 1
   apply Array.ext'
   simp only [Array.toList_map,Nat.mul_one]
   rw [← List.map_take]
   congr 1
   have:(s.extract 0 n).data=s.data.extract 0 n:=ByteArray.data_extract
   rw [this,Array.toList_extract]
   simp [List.extract]
 ·unfold z0k at hk
  split at hk
  ·rename_i sz es sp _
   obtain⟨rfl,hk⟩:=hk
   cases hx with | c _ _ hx =>
   cases hx with | sl _ _ _ ad cap b o f hcap hsp ha hl hS hc hr =>
   have hlA:es.length≤(es++sp.getD []).length:=by rw [List.length_append];omega
   have hc':∀ k,k < es.length * sz→D8 w b (o + k)=some (f k):=fun k hk=>hc k (Nat.lt_of_lt_of_le hk (Nat.mul_le_mul_right sz hlA))
   have hget:∀ (i:Nat) e,es[i]?=some e→(es++sp.getD [])[i]?=some e:=fun i e he=>by rw [List.getElem?_append_left (List.getElem?_eq_some_iff.1 he).1];exact he
   refine⟨es,(List.range (es.length * sz)).map f,hk,⟨by simp,fun i e he=>hl i e (hget i e he),fun i j e x he hx=>?_⟩,rfl,fun n hn dr=>?_⟩
   ·have hi:=(List.getElem?_eq_some_iff.1 he).1
    have hj:j < sz:=by have:=(List.getElem?_eq_some_iff.1 hx).1;rw [hl i e (hget i e he)] at this;exact this
    have hlt:=z2i hi hj
    have:=hr i j e x (hget i e he) hx
    simpa [List.getD,List.getElem?_map,List.getElem?_range hlt] using this
   ·rw [take_range f _ _ (Nat.mul_le_mul_right sz hn)]
    by_cases hne:es++sp.getD []=[]
    ·have h0:es.length=0:=by rw [hne] at hlA;simpa using hlA
     have hn0:n=0:=by omega
     subst hn0
     cases ad with
     | none=>simp [Builtin.firstCells]
     | some ad =>
      simp only [Builtin.firstCells,Nat.zero_mul]
      rfl
    ·obtain⟨rfl,_⟩:=ha hne
     simp only [Builtin.firstCells]
     exact load b o f _ (fun k hk=>hc' k (Nat.lt_of_lt_of_le hk (Nat.mul_le_mul_right sz hn))) dr
  ·rename_i id ver n _
   split at hk
   ·rename_i v sz es cap pub hg
    obtain⟨rfl,rfl,hne,hk⟩:=hk
    cases hx with | t _ _ _ b capn hv hn hx =>
    obtain⟨sz',es',cap',pub',e,heq,_,hb,hs⟩:=hx _ hg rfl
    injection heq with _ q1 q2 q3 q4;subst q1 q2 q3 q4
    obtain⟨_,h0,h1,h2,h3,⟨hl,f,hc,hr⟩,hp⟩:=h.inv.ob id _ hg
    have hrow:RowV S w sz es ((List.range (es.length * sz)).map f):=⟨by simp,hl,fun i j e x he hx=>by
     have hi:=(List.getElem?_eq_some_iff.1 he).1
     have hj:j < sz:=by have:=(List.getElem?_eq_some_iff.1 hx).1;rw [hl i e he] at this;exact this
     have:=hr i j e x he hx
     simpa [List.getD,List.getElem?_map,List.getElem?_range (z2i hi hj)] using this⟩
    have hlen:(es.take n).length=n:=by rw [List.length_take];omega
    refine⟨es.take n,_,hk,hrow.take n,by rw [hlen];rfl,fun k hk' dr=>?_⟩
    rw [hlen] at hk'
    rw [List.take_take,Nat.min_eq_left (Nat.mul_le_mul_right sz hk'),take_range f _ _ (Nat.mul_le_mul_right sz (by omega))]
    simp only [Builtin.firstCells]
    refine load b 0 f _ (fun q hq=>?_) dr
    rw [Nat.zero_add,hb]
    exact hc q (Nat.lt_of_lt_of_le hq (Nat.mul_le_mul_right sz (by omega)))
   ·exact hk.elim
  ·exact hk.elim
theorem w4l:∀ (r n c:Nat),Builtin.growBy n r c≤max c (n + (n + 768) / 4) + (if r=0 then 0 else 0)
 | 0,n,c=>by simp [Builtin.growBy];omega
 | r + 1,n,c=>by
  simp only [Builtin.growBy]
  split
  ·simp;omega
  ·rename_i hc
   have:=w4l r n (c + (c + 768) / 4)
   simp at this ⊢
   omega
theorem w3i (n c:Nat) (h:c < n):Builtin.nextslicecap n c≤2 * n + 768:=by
 unfold Builtin.nextslicecap
 split
 ·omega
 ·split
  ·omega
  ·have:=w4l 4 n c
   simp at this
   omega
theorem z5q {sT xT ty e:TypeId} {esz eb:Nat} (hu:P.underlying sT=some (.slice e)) (hux:∃ d,P.underlying xT=some d∧∀ k,d≠.int k) (hkn:Q2 P e=true) (hsz:P.cellsOf e=esz) (heb:P.bytesOf e=eb) (heb2:0 < eb) (heb3:eb≤2 ^ 30)
  (a:Option Addr) (n cap:Nat) (x:Value) (nn:Nat) (us olds:List Value) (hlen:(Builtin.lenOf x).run P w=.ok nn w) (hsrc:∀ dr,(Builtin.firstCells esz nn x).run P { w with drawn:=dr }=.ok us.toArray { w with drawn:=dr }) (hz:∃ z:Value,z.cells.size=esz∧∀ w':World,(zeroValue e).run P w'=.ok z w')
  (hold:∀ dr,(Builtin.firstCells esz n (.slice a n cap)).run P { w with drawn:=dr }=.ok olds.toArray { w with drawn:=dr }) (hsmall:(n + nn) * eb≤2 ^ 45) :
  (n + nn≤cap→(match a with | some ad=>(storeCells (ad.add (n * esz)) us).run P w | none=>.ok () w)=.ok () (match a with | some ad=>w.setCells ad.block (ad.off + n * esz) us | none=>w) →
   (Builtin.append_ #[sT,xT] ty #[.slice a n cap,x]).run P w=.ok (.slice a (n + nn) cap) (match a with | some ad=>w.setCells ad.block (ad.off + n * esz) us | none=>w)) ∧
  (cap < n + nn→∃ d newCap rest,(n + nn≤newCap∧newCap < 9223372036854775808)∧rest.length=(newCap - (n + nn)) * esz ∧
   (Builtin.append_ #[sT,xT] ty #[.slice a n cap,x]).run P w=.ok (.slice (some ⟨w.heap.size,0,none⟩) (n + nn) newCap) (({ w with drawn:=d }:World).alloc (.cells (olds++us++rest).toArray e))):=by
 obtain⟨d,hux,hd⟩:=hux
 obtain⟨z,hz1,hz2⟩:=hz
 obtain⟨i,_,hi,_⟩:=S5 hkn
 have hbytes:i.bytes=eb:=by rw [← heb];unfold Program.bytesOf;rw [hi];rfl
 have g0:(#[sT,xT]:Array TypeId)[0]?=some sT:=rfl
 have g1:(#[sT,xT]:Array TypeId)[1]?=some xT:=rfl
 have g2:(#[.slice a n cap,x]:Array Value)[0]?=some (.slice a n cap):=rfl
 have g3:(#[.slice a n cap,x]:Array Value)[1]?=some x:=rfl
 refine⟨fun hle hst=>?_,fun hlt=>?_⟩
 ·unfold Builtin.append_
  simp only [g0,g1,g2,g3,Sem.run_bind,run_underlying hu,run_underlying hux,Result.andThen_ok,F7 hkn,hsz,Sem.run_pure,Bool.false_eq_true,if_false,hlen,Bool.not_false,if_true]
  rw [if_pos hle]
  have hs0:=hsrc w.drawn
  simp only [Sem.run_bind]
  rw [show (Builtin.firstCells esz nn x).run P w=.ok us.toArray w from hs0]
  simp only [Result.andThen_ok]
  cases a with
  | none=>simp only [Sem.run_pure]
  | some ad=>simp only [Sem.run_bind] at hst ⊢;rw [hst];rfl
 ·unfold Builtin.append_
  simp only [g0,g1,g2,g3,Sem.run_bind,run_underlying hu,run_underlying hux,Result.andThen_ok,F7 hkn,hsz,Sem.run_pure,Bool.false_eq_true,if_false,hlen,Bool.not_false,if_true]
  rw [if_neg (by omega)]
  simp only [Sem.run_bind,run_typeInfo w hi,Result.andThen_ok,hbytes,false_or]
  rw [if_neg (by omega)]
  simp only [Sem.run_bind,run_typeInfo w hi,Result.andThen_ok,hbytes]
  have hcapb:Builtin.nextslicecap (n + nn) cap * eb≤2 ^ 48:=by
   have h1:=Nat.mul_le_mul_right eb (w3i (n + nn) cap hlt)
   rw [Nat.add_mul,Nat.mul_assoc] at h1
   have h2:768 * eb≤768 * 2 ^ 30:=Nat.mul_le_mul_left 768 heb3
   omega
  rw [if_neg (by omega)]
  simp only [Sem.run_bind,run_choose,Question.forced,Bool.false_eq_true,if_false,Result.andThen_ok,run_typeInfo _ hi,run_askRoom,hold,hsrc,hz2,newRow,run_newObj,Sem.run_pure]
  generalize hq:(Question.appendCap (n + nn) cap e).cut (w.tape w.drawn (.appendCap (n + nn) cap e))=q
  refine⟨w.drawn + 1,q,(Builtin.zeroCells z.cells (q - (n + nn))).toList,?_,?_,?_⟩
  ·rw [← hq];simp only [Question.cut]
   have h5:n + nn≤2 ^ 45:=Nat.le_trans (Nat.le_mul_of_pos_right _ heb2) hsmall
   have h6:=Nat.mod_lt (w.tape w.drawn (.appendCap (n + nn) cap e)) (show 0 < 2 ^ 63 - (n + nn) by omega)
   omega
  ·unfold Builtin.zeroCells;simp [hz1]
  ·have:(olds.toArray++us.toArray++Builtin.zeroCells z.cells (q - (n + nn)))=(olds++us++(Builtin.zeroCells z.cells (q - (n + nn))).toList).toArray:=by apply Array.ext';simp
   rw [this];rfl
theorem Did.after {S1:D7} {pl1:E2} {w1:World} {m1:Mem} (k:Keeps S S1 pl pl1 w w1 m m1) {r:Result Value} (h:Did X S1 pl1 w1 m1 r K):Did X S pl w m r K:=by
 obtain⟨u,w',S',pl',v,m',e1,e2,e3,e4,e5⟩:=h
 exact⟨u,w',S',pl',v,m',e1,e2,e3,e4,k.trans e5⟩
theorem k0e (l:List (Nat × Ob)) (i:Nat) (o:Ob):z4v (z9p l i o) i=z4v l i:=by
 induction l with
 | nil=>simp [z9p,z4v]
 | cons a r ih =>
  obtain⟨j,p⟩:=a
  simp only [z9p]
  by_cases h1:i=j
  ·subst h1;simp [z4v]
  ·rw [if_neg h1]
   by_cases h2:i < j
   ·rw [if_pos h2];simp [z4v,h1]
   ·rw [if_neg h2];simp [z4v,h1,ih]
theorem k0d (m:Mem) (i:Nat) (o:Ob):(m.upd i o).del i=m.del i:=by
 unfold Mem.upd Mem.del;simp only [k0e]
theorem z2e (hT:TabOk P T) (h:St X S pl w m) {t t2 ty esz eb:Nat} {ea u8:Bool} (hs:(T.at t).k=.sl esz ea eb u8) (hs2:(∃ a b c d,(T.at t2).k=.sl a b c d)∨(T.at t2).k=.str) (site:Nat) {s x:AV} {sv xv:Value}
  (hsr:RelV S pl w m s sv) (hx:RelV S pl w m x xv) (hk:z1u site esz eb m s x K):Did X S pl w m ((Builtin.append_ #[t,t2] ty #[sv,xv]).run P w) K:=by
 obtain⟨e,hu,hsz,heb,hkn,hpos,hb1,hb2,⟨hz,hzl⟩,_⟩:=H5 hT hs
 have hux:∃ d,P.underlying t2=some d∧∀ k,d≠.int k:=by
  rcases hs2 with ⟨a,b,c,d,hs2⟩ | hs2
  ·obtain⟨e2,hu2,_⟩:=H5 hT hs2;exact⟨_,hu2,by simp⟩
  ·exact⟨_,P8 hT hs2,by simp⟩
 have hzz:∃ z:Value,z.cells.size=esz∧∀ w':World,(zeroValue e).run P w'=.ok z w':=by
  obtain⟨i,d,hi,hd⟩:=S5 hkn
  obtain⟨v,hrun,h1,_⟩:=Y8 hz hkn S w
  refine⟨v,by omega,fun w'=>?_⟩
  unfold z0n at hz
  rw [hi] at hz
  simp only [Option.bind_some] at hz
  unfold zeroValue at hrun ⊢
  simp only [Sem.run_bind,run_typeInfo _ hi,Result.andThen_ok] at hrun ⊢
  cases hzo:i.zero with
  | none=>rw [hzo] at hz;simp at hz
  | some v' =>
   rw [hzo] at hrun
   simp only [Sem.run_pure] at hrun
   injection hrun with hrun;subst hrun;rfl
 unfold z1u at hk
 obtain⟨ns,us,hk2,hrow,hlen,hsrc⟩:=U5 (P:=P) h hpos hx hk
 clear hk
 have hk:=hk2
 clear hk2
 have hfull:us.take (ns.length * esz)=us:=List.take_of_length_le (by rw [hrow.1];exact Nat.le_refl _)
 have hsrc':=hsrc ns.length (Nat.le_refl _)
 rw [hfull] at hsrc'
 split at hk
 ·rename_i sz es
  obtain⟨rfl,hsmall,hk⟩:=hk
  obtain⟨es',olds,rfl,hrow0,_,hsrc0⟩:=U5 (P:=P) (K:=fun es'=>es'=es) h hpos hsr (by simp [z9b,z0k])
  have hold:=hsrc0 es'.length (Nat.le_refl _)
  rw [List.take_of_length_le (by rw [hrow0.1];exact Nat.le_refl _)] at hold
  have hsr':=hsr
  cases hsr with | c _ _ hsr =>
  cases hsr with | sl _ _ _ ad cap b o f hcap hsp ha hl hS hc hr =>
  have hce:cap=es'.length:=by simpa using hsp [] rfl
  subst hce
  obtain⟨r1,r2⟩:=z5q (w:=w) (ty:=ty) hu hux hkn hsz heb hb2 hb1 ad es'.length es'.length xv ns.length us olds hlen hsrc' hzz hold hsmall
  by_cases hne:ns=[]
  ·subst hne
   have hus:us=[]:=by have:=hrow.1;simpa using this
   subst hus
   rw [if_pos rfl] at hk
   clear r2 hr hc hS hl ha
   cases ad with
   | none=>rw [r1 (by simp) rfl];exact Did.same h hk hsr'
   | some ad=>rw [r1 (by simp) rfl];exact Did.same h hk hsr'
  ·rw [if_neg hne] at hk
   have hpos2:0 < ns.length:=List.length_pos_iff.2 hne
   obtain⟨d,newCap,rest,⟨h1,hbig⟩,h2,hrun⟩:=r2 (by omega)
   rw [hrun]
   obtain⟨hst,hkp⟩:=h.draw d
   refine Did.after hkp ?_
   have hrA:=hrow0.append hrow
   refine z2y hst site sz (es'++ns) none false (olds++us) rest e (0,0) (es'.length + ns.length) newCap hpos hrA.2.1 hrA.1 ?_ (by simp) (.inl (Nat.le_refl _)) (by simp) (fun _=>hbig) (fun i j e x he hx=>RelC.mono (S:=S) (S':=S) (w:=w) (w':={ w with drawn:=d }) (fun _ _ h=>h) (fun _ _ _=>rfl) (hrA.2.2 i j e x he hx)) hk
   rw [List.length_append,hrA.1,h2,List.length_append,← Nat.add_mul]
   congr 1;omega
 ·rename_i id ver n
  split at hk
  ·rename_i v sz es cap0 pub hg
   obtain⟨rfl,rfl,rfl,hsmall,hk⟩:=hk
   obtain⟨es',olds,he',hrow0,_,hsrc0⟩:=U5 (P:=P) (K:=fun es'=>es'=es) h hpos hsr (by simp [z9b,z0k,hg])
   subst he'
   have hold:=hsrc0 es'.length (Nat.le_refl _)
   rw [List.take_of_length_le (by rw [hrow0.1];exact Nat.le_refl _)] at hold
   cases hsr with | t _ _ _ b capn hv hn hsr =>
   obtain⟨sz',es2,cap',pub',e',heq,_,hb,hsh⟩:=hsr _ hg rfl
   injection heq with _ q1 q2 q3 q4;subst q1 q2 q3 q4
   obtain⟨r1,r2⟩:=z5q (w:=w) (ty:=ty) hu hux hkn hsz heb hb2 hb1 (some ⟨b,0,none⟩) es'.length capn xv ns.length us olds hlen hsrc' hzz hold hsmall
   have hrA:=hrow0.append hrow
   by_cases hle:es'.length + ns.length≤capn
   ·obtain⟨_,h0,h1,h2,⟨e3,capn3,hs3,hle3,hcap3⟩,_,_⟩:=h.inv.ob id _ hg
    rw [← hb] at h2 hs3
    have hul:us.length=ns.length * sz:=hrow.1
    have hfitn:(es'.length + ns.length) * sz≤capn * sz:=Nat.mul_le_mul_right sz hle
    rw [Nat.add_mul] at hfitn
    have hcell:∀ j,j < us.length→(D8 w b (es'.length * sz + j)).isSome=true:=fun j hj=>by
     unfold World.shape? at hsh
     unfold D8 World.cell?
     cases hh:w.heap[b]? with
     | none=>rw [hh] at hsh;simp at hsh
     | some ob =>
      rw [hh] at hsh
      cases ob with
      | cells cc e' fr =>
       simp only [Option.some.injEq,Prod.mk.injEq] at hsh
       have:es'.length * sz + j < cc.size:=by omega
       simp [Array.getElem?_eq_getElem this]
      | _=>simp at hsh
    have hstore:(storeCells (⟨b,0,none⟩:Addr) us (es'.length * sz)).run P w=.ok () (w.setCells b (0 + es'.length * sz) us) :=
     run_storeCells_cells (P:=P) b 0 us (es'.length * sz) w (fun j hj=>by rw [Nat.zero_add];exact hcell j hj) (fun j hj=>by
      rw [Nat.zero_add]
      cases hz:w.frozen? ⟨b,es'.length * sz + j,none⟩ with
      | false=>rfl
      | true=>have:=h2.1 _ hz _ _ hsh;omega) (hrow.solid hpos)
    have hstore':(storeCells ((⟨b,0,none⟩:Addr).add (es'.length * sz)) us).run P w=.ok () (w.setCells b (es'.length * sz) us):=by
     rw [w2l,Nat.zero_add]
     have:=run_storeCells_cells (P:=P) b (es'.length * sz) us 0 w (fun j hj=>by simpa using hcell j hj) (fun j hj=>by
      cases hz:w.frozen? ⟨b,es'.length * sz + 0 + j,none⟩ with
      | false=>rfl
      | true=>have:=h2.1 _ hz _ _ hsh;omega) (hrow.solid hpos)
     simpa using this
    rw [r1 hle (by simp only [Nat.zero_add];exact hstore')]
    simp only [Nat.zero_add]
    obtain⟨S2,hst2,hkp2⟩:=h.setArr hg (es'.length * sz) us (es'++ns) none (capn:=capn) (by rw [← hb];exact hsh) (by omega) (fun _=>Nat.le_refl _) (by rw [List.length_append];omega) (by rw [List.length_append];exact hle) (by simp)
     hrA.2.1 (fun k hk=>by rw [List.length_append,Nat.add_mul] at hk;omega) (fun f hf i j e x he hx=>by
      have hj:j < sz:=by have:=(List.getElem?_eq_some_iff.1 hx).1;rw [hrA.2.1 i e he] at this;exact this
      by_cases hi:i < es'.length
      ·rw [List.getElem?_append_left hi] at he
       have:=z2i hi hj
       rw [if_neg (by omega)];exact hf i j e x he hx
      ·rw [List.getElem?_append_right (by omega)] at he
       have hge:=Nat.mul_le_mul_right sz (Nat.not_lt.1 hi)
       have hni:=(List.getElem?_eq_some_iff.1 he).1
       have hlt:=z2i hni hj
       have hsub:(i - es'.length) * sz + j=i * sz + j - es'.length * sz:=by rw [Nat.sub_mul];omega
       rw [if_pos ⟨by omega,by omega⟩,← hsub]
       exact hrow.2.2 _ j e x he hx)
    rw [← hb] at hst2 hkp2
    have hg2:(m.upd id (.arr v sz (es'++ns) none pub)).get id=some (.arr v sz (es'++ns) none pub):=by rw [M8,if_pos rfl]
    obtain⟨hst3,hkp3⟩:=hst2.rename hg2 id
    rw [k0d] at hst3 hkp3
    refine⟨_,_,S2,_,_,_,rfl,hk,?_,hst3,hkp2.trans hkp3⟩
    exact .t id _ _ b capn (by rw [L9];exact Nat.lt_succ_self _) hle (fun ob hob _=>by
     rw [H7,if_pos rfl] at hob;injection hob with hob;subst hob
     exact⟨_,_,_,_,e',rfl,by simp,by simp [M2,hb],by rw [J3];exact hsh⟩)
   ·obtain⟨d,newCap,rest,⟨h1,hbig⟩,h2,hrun⟩:=r2 (by omega)
    rw [hrun]
    obtain⟨hst,hkp⟩:=h.draw d
    obtain⟨hst1,hkp1⟩:=hst.del id
    refine Did.after (hkp.trans hkp1) ?_
    refine z2y hst1 id sz (es'++ns) none pub (olds++us) rest e (0,0) (es'.length + ns.length) newCap hpos hrA.2.1 hrA.1 ?_ (by simp) (.inl (Nat.le_refl _)) (by simp) (fun _=>hbig) (fun i j e x he hx=>RelC.mono (S:=S) (S':=S) (w:=w) (w':={ w with drawn:=d }) (fun _ _ h=>h) (fun _ _ _=>rfl) (hrA.2.2 i j e x he hx)) hk
    rw [List.length_append,hrA.1,h2,List.length_append,← Nat.add_mul]
    congr 1;omega
  ·exact hk.elim
 ·exact hk.elim
theorem w1z (hT:TabOk P T) (h:St X S pl w m) {t t2 ty esz eb:Nat} {ea u8:Bool} (hs:(T.at t).k=.sl esz ea eb u8) {d x:AV} {dv xv:Value}
  (hd:RelV S pl w m d dv) (hx:RelV S pl w m x xv) (hk:w2a esz m d x K):Did X S pl w m ((Builtin.copy_ #[t,t2] ty #[dv,xv]).run P w) K:=by
 obtain⟨e,hu,hsz,heb,hkn,hpos,hb1,hb2,⟨hz,hzl⟩,_⟩:=H5 hT hs
 unfold w2a at hk
 obtain⟨ns,us,hk2,hrow,hlen,hsrc⟩:=U5 (P:=P) h hpos hx hk
 clear hk
 have hk:=hk2
 clear hk2
 split at hk
 ·rename_i id ver n
  split at hk
  ·rename_i v sz es cap hg
   obtain⟨rfl,rfl,hne,hk⟩:=hk
   cases hd with | t _ _ _ b capn hv hn hd =>
   obtain⟨sz',es2,cap',pub',e',heq,_,hb,hsh⟩:=hd _ hg rfl
   injection heq with _ q1 q2 q3 q4;subst q1 q2 q3 q4
   obtain⟨_,h0,h1,h2,⟨e3,capn3,hs3,hle3,hcap3⟩,⟨hl3,_⟩,_⟩:=h.inv.ob id _ hg
   rw [← hb] at h2 hs3
   have hcc:capn3=capn:=by
    rw [hsh] at hs3;injection hs3 with hs3;injection hs3 with _ hs3
    exact (Nat.eq_of_mul_eq_mul_right h1 hs3).symm
   subst hcc
   generalize hkk:min ns.length n=k at hk
   have hk1:k≤ns.length:=by omega
   have hk2:k≤es.length:=by omega
   have hsrc':=hsrc k hk1 w.drawn
   have hkm:k * sz≤capn3 * sz:=Nat.mul_le_mul_right sz (by omega)
   have hrt:=hrow.take k
   have hul:(us.take (k * sz)).length=k * sz:=by rw [hrt.1,List.length_take,Nat.min_eq_left hk1]
   have hcell:∀ j,j < k * sz→(D8 w b j).isSome=true:=fun j hj=>by
    unfold World.shape? at hsh
    unfold D8 World.cell?
    cases hh:w.heap[b]? with
    | none=>rw [hh] at hsh;simp at hsh
    | some ob =>
     rw [hh] at hsh
     cases ob with
     | cells cc e' fr =>
      simp only [Option.some.injEq,Prod.mk.injEq] at hsh
      have:j < cc.size:=by omega
      simp [Array.getElem?_eq_getElem this]
     | _=>simp at hsh
   have hstore:(storeCells (⟨b,0,none⟩:Addr) (us.take (k * sz))).run P w=.ok () (w.setCells b 0 (us.take (k * sz))):=by
    have:=run_storeCells_cells (P:=P) b 0 (us.take (k * sz)) 0 w (fun j hj=>by simpa using hcell j (by omega)) (fun j hj=>by
     cases hz:w.frozen? ⟨b,0 + 0 + j,none⟩ with
     | false=>rfl
     | true=>have:=h2.1 _ hz _ _ hsh;omega) (hrt.solid hpos)
    simpa using this
   have hrun:(Builtin.copy_ #[t,t2] ty #[.slice (some ⟨b,0,none⟩) n capn3,xv]).run P w=.ok (goInt k) (w.setCells b 0 (us.take (k * sz))):=by
    unfold Builtin.copy_
    have g0:(#[t,t2]:Array TypeId)[0]?=some t:=rfl
    have g2:(#[.slice (some ⟨b,0,none⟩) n capn3,xv]:Array Value)[0]?=some (.slice (some ⟨b,0,none⟩) n capn3):=rfl
    have g3:(#[.slice (some ⟨b,0,none⟩) n capn3,xv]:Array Value)[1]?=some xv:=rfl
    simp only [g0,g2,g3,Sem.run_bind,run_underlying hu,Result.andThen_ok,hlen,F7 hkn,hsz]
    rw [show Nat.min ns.length n=k from hkk,show (Builtin.firstCells sz k xv).run P w=.ok (us.take (k * sz)).toArray w from hsrc']
    simp only [Result.andThen_ok,hstore,Sem.run_pure]
   rw [hrun]
   obtain⟨S2,hst2,hkp2⟩:=h.setArr hg 0 (us.take (k * sz)) (ns.take k++es.drop k) cap (capn:=capn3) (by rw [← hb];exact hsh) (by omega) (by simp) (by simp;omega) (by simp;omega) hcap3
    (fun i e he=>by
     by_cases hi:i < k
     ·rw [List.getElem?_append_left (by simp;omega)] at he;exact hrt.2.1 i e he
     ·rw [List.getElem?_append_right (by simp;omega),List.getElem?_drop] at he;exact hl3 _ e he)
    (fun q hq=>.inl (by
     have:(ns.take k++es.drop k).length=es.length:=by simp;omega
     rwa [this] at hq)) (fun f hf i j e x he hx=>by
     have hki:(ns.take k).length=k:=by simp;omega
     by_cases hi:i < k
     ·rw [List.getElem?_append_left (by omega)] at he
      have hj:j < sz:=by have:=(List.getElem?_eq_some_iff.1 hx).1;rw [hrt.2.1 i e he] at this;exact this
      have:=z2i hi hj
      rw [if_pos ⟨by omega,by omega⟩,Nat.sub_zero];exact hrt.2.2 i j e x he hx
     ·rw [List.getElem?_append_right (by omega),List.getElem?_drop,hki,show k + (i - k)=i by omega] at he
      have:=Nat.mul_le_mul_right sz (Nat.not_lt.1 hi)
      rw [if_neg (by omega)];exact hf i j e x he hx)
   rw [← hb] at hst2 hkp2
   exact⟨_,_,S2,pl,_,_,rfl,hk,.c _ _ (.v _ rfl),hst2,hkp2⟩
  ·exact hk.elim
 ·exact hk.elim
theorem z4p:∀ (es:List (List CV)) (b:List UInt8),bytesOf es=some b→b.length=es.length∧∀ (i:Nat) c,b[i]?=some c→∃ n,es[i]?=some [.v (.int .u8 n)]∧c=UInt8.ofNat n.toNat
 | [],b,h=>by simp [bytesOf] at h;subst h;exact⟨rfl,fun i c h=>by simp at h⟩
 | e :: es,b,h=>by
  unfold bytesOf at h
  split at h
  ·simp at *
  ·rename_i n r heq
   injection heq with h1 h2;subst h1 h2
   cases hb:bytesOf es with
   | none=>rw [hb] at h;simp at h
   | some b' =>
    rw [hb] at h;simp at h;subst h
    obtain⟨h1,h2⟩:=z4p es b' hb
    refine⟨by simp [h1],fun i c hc=>?_⟩
    cases i with
    | zero=>simp at hc;exact⟨n,rfl,hc.symm⟩
    | succ i=>exact h2 i c (by simpa using hc)
  ·simp at h
theorem z8l:∀ (l:List Int) (r:ByteArray),l.foldl (fun (r:ByteArray) n=>r.push (UInt8.ofNat n.toNat)) r=⟨r.data++(l.map fun n=>UInt8.ofNat n.toNat).toArray⟩
 | [],r=>by simp
 | n :: l,r=>by
  rw [List.foldl_cons,z8l l]
  congr 1
  apply Array.ext'
  simp [ByteArray.push]
theorem w6r {esz:Nat} {y:AV} {a:Value} {F:List (List CV)→Prop} (hx:RelV S pl w m y a) (hk:z0k esz m y F):z9b esz m y F∧∃ ad n cap,a=.slice ad n cap:=by
 cases y with
 | c x =>
  cases x with
  | sl sz es sp =>
   refine⟨hk,?_⟩
   cases hx with | c _ _ hx=>cases hx;exact⟨_,_,_,rfl⟩
  | _=>exact hk.elim
 | t id ver n=>refine⟨hk,?_⟩;cases hx;exact⟨_,_,_,rfl⟩
 | _=>exact hk.elim
theorem w2b (hT:TabOk P T) (h:St X S pl w m) {s d:Nat} (id:Nat) {x:AV} {a:Value} (hx:RelV S pl w m x a) (hk:W6 (T.at s).k (T.at d).k id m x K):Did X S pl w m ((convert s d a).run P w) K:=by
 unfold W6 at hk
 split at hk
 ·rename_i k1 k2 i n h1 h2
  have e1:=H2 hx;subst e1
  unfold convert
  simp only [Sem.run_bind,run_underlying (z8g hT h1),run_underlying (z8g hT h2),Result.andThen_ok]
  exact Did.lit h rfl hk
 ·rename_i i h1 h2
  have e1:=H2 hx;subst e1
  unfold convert
  simp only [Sem.run_bind,run_underlying (P8 hT h1),run_underlying (P8 hT h2),Result.andThen_ok]
  exact Did.lit h rfl hk
 ·rename_i st h1 h2
  have e1:=H2 hx;subst e1
  obtain⟨e,hu,hsz,heb,hkn,hpos,hb1,hb2,⟨hz,hzl⟩,hu8⟩:=H5 hT h2
  rw [run_bytes_of_string w s d e st (P8 hT h1) hu (hu8 rfl)]
  obtain⟨hst,hkp⟩:=h.draw (w.drawn + 1)
  refine Did.after hkp ?_
  generalize hc:grownCap w st.size 0 e=c
  have hcle:st.size≤c:=by rw [← hc];unfold grownCap;simp [Question.cut]
  have hrow:bytesRow st c=(st.data.toList.map (fun (b:UInt8)=>Value.int .u8 (b.toNat:Int))++List.replicate (c - st.size) (Value.int .u8 0)).toArray:=by
   unfold bytesRow;apply Array.ext';simp
  rw [hrow]
  refine z2y hst id 1 (E8 st.data.toList) none true _ _ e _ st.size c (by omega) (fun i e he=>?_) (by simp [E8]) (by simp;have:st.data.size=st.size:=rfl;omega) (by simp) (.inr (by simp)) (by simp [E8]) (by intro q;cases q) (fun i j e x he hx=>?_) hk
  ·simp only [E8,List.getElem?_map] at he
   cases hs:st.data.toList[i]? with
   | none=>rw [hs] at he;simp at he
   | some c=>rw [hs] at he;simp at he;subst he;rfl
  ·simp only [E8,List.getElem?_map] at he
   cases hs:st.data.toList[i]? with
   | none=>rw [hs] at he;simp at he
   | some c =>
    rw [hs] at he;simp at he;subst he
    cases j with
    | succ j=>simp at hx
    | zero =>
     simp at hx;subst hx
     have:(st.data.toList.map fun b=>Value.int .u8 b.toNat).getD (i * 1 + 0) undef=.int .u8 c.toNat:=by
      rw [Nat.mul_one,Nat.add_zero];simp only [List.getD,List.getElem?_map,hs];rfl
     rw [this];exact .v _ rfl
 ·rename_i h1 h2
  obtain⟨e,hu,hsz,heb,hkn,hpos,hb1,hb2,_,hu8⟩:=H5 hT h1
  obtain⟨hk2,ad,n,cap,rfl⟩:=w6r hx hk
  clear hk
  obtain⟨ns,us,hk,hrow,hlen,hsrc⟩:=U5 (P:=P) h (by omega) hx hk2
  have hn:ns.length=n:=by simpa [Builtin.lenOf] using hlen.symm
  have hsrc':=hsrc ns.length (Nat.le_refl _) w.drawn
  rw [List.take_of_length_le (by rw [hrow.1];exact Nat.le_refl _)] at hsrc'
  split at hk
  ·rename_i b hb
   obtain⟨hbl,hbg⟩:=z4p ns b hb
   rw [run_convert_bytes_string w s d e ad n cap hu (hu8 rfl) (P8 hT h2)]
   have hints:∃ l:List Int,us=l.map (Value.int .u8)∧l.map (fun n=>UInt8.ofNat n.toNat)=b:=by
    refine⟨us.map fun u=>match u with | .int _ n=>n | _=>0,?_,?_⟩
    ·apply List.ext_getElem?
     intro i
     simp only [List.getElem?_map]
     cases hi:us[i]? with
     | none=>rfl
     | some u =>
      have hil:i < us.length:=(List.getElem?_eq_some_iff.1 hi).1
      have hbil:i < b.length:=by rw [hbl];have:=hrow.1;omega
      have hbi:b[i]?=some b[i]:=List.getElem?_eq_getElem hbil
      obtain⟨q,hq,_⟩:=hbg i _ hbi
      have hr:=hrow.2.2 i 0 _ _ hq rfl
      rw [Nat.mul_one,Nat.add_zero,show us.getD i undef=u by simp [List.getD,hi]] at hr
      cases hr;rfl
    ·apply List.ext_getElem?
     intro i
     simp only [List.getElem?_map]
     cases hi:us[i]? with
     | none =>
      have:us.length≤i:=List.getElem?_eq_none_iff.1 hi
      rw [List.getElem?_eq_none (by rw [hbl];have:=hrow.1;omega)];rfl
     | some u =>
      have hil:i < us.length:=(List.getElem?_eq_some_iff.1 hi).1
      have hbil:i < b.length:=by rw [hbl];have:=hrow.1;omega
      have hbi:b[i]?=some b[i]:=List.getElem?_eq_getElem hbil
      obtain⟨q,hq,hqc⟩:=hbg i _ hbi
      have hr:=hrow.2.2 i 0 _ _ hq rfl
      rw [Nat.mul_one,Nat.add_zero,show us.getD i undef=u by simp [List.getD,hi]] at hr
      cases hr
      rw [hbi,hqc];rfl
   obtain⟨l,rfl,rfl⟩:=hints
   cases ad with
   | none =>
    have hl0:l=[]:=by
     have h0:(Result.ok (#[]:Array Value) w:Result (Array Value))=.ok (l.map (Value.int .u8)).toArray w:=hsrc'
     injection h0 with h0 _
     have:=congrArg Array.size h0
     cases l with
     | nil=>rfl
     | cons _ _=>simp at this
    subst hl0
    exact Did.lit h rfl hk
   | some ad =>
    simp only [Builtin.firstCells,Nat.mul_one,hn] at hsrc'
    rw [run_bytesToString w ad n cap l hsrc',z8l]
    refine Did.lit h rfl ?_
    have:(ByteArray.empty.data++(l.map fun n=>UInt8.ofNat n.toNat).toArray)=(l.map fun n=>UInt8.ofNat n.toNat).toArray:=by
     rw [show ByteArray.empty.data=#[] from rfl];simp
    rw [this];exact hk
  ·exact hk.elim
 ·exact hk.elim
end
end Go.Proofs.YtioiigabeoaneaaGreat.V
namespace Go.Proofs.YtioiigabeoaneaaGreat.V
open Go Go.RowKit
def ArrOk (S:D7) (w:World) (b sz:Nat) (es:List (List CV)) (cap:Option Nat) (pub:Bool) (n capn:Nat):Prop :=
 0 < sz∧k1k w b pub sz∧(∃ e,w.shape? b=some (e,capn * sz))∧es.length≤capn∧(∀ c,cap=some c→capn=c)∧k5q S w b sz es∧(pub=true→∀ o,o < es.length * sz→S b o)∧n≤es.length
mutual
inductive Own (S:D7) (w:World):D7→OV→Value→Prop
 | c (x:CV) (u:Value) (h:RelC S w x u):Own S w (fun _ _=>False) (.c x) u
 | arr (sz:Nat) (es:List (List CV)) (cap:Option Nat) (pub:Bool) (n b capn:Nat) (h:ArrOk S w b sz es cap pub n capn) :
   Own S w (fun b' o=>b'=b∧(pub=true→es.length * sz≤o)) (.arr sz es cap pub n) (.slice (some ⟨b,0,none⟩) n capn)
 | ptr (cs:List OV) (us:List Value) (b o:Nat) (F:D7) (h:OwnL S w F cs us) (hb:b < w.heap.size) (ht:z0j w b)
   (hc:∀ (j:Nat) u,us[j]?=some u→D8 w b (o + j)=some u) (hd:∀ b' o',F b' o'→¬ (b'=b∧o≤o'∧o' < o + us.length)) :
   Own S w (fun b' o'=>F b' o'∨b'=b∧o≤o'∧o' < o + us.length) (.ptr cs) (.pointer (some ⟨b,o,none⟩))
 | bsl (cs:List OV) (us:List Value) (n b o capn:Nat) (F:D7) (h:OwnL S w F cs us) (hb:b < w.heap.size) (ht:z0j w b) (hn:n≤capn)
   (hc:∀ (j:Nat) u,us[j]?=some u→D8 w b (o + j)=some u) (hd:∀ b' o',F b' o'→¬ (b'=b∧o≤o'∧o' < o + us.length)) :
   Own S w (fun b' o'=>F b' o'∨b'=b∧o≤o'∧o' < o + us.length) (.bsl n cs) (.slice (some ⟨b,o,none⟩) n capn)
 | agg (cs:List OV) (us:List Value) (F:D7) (h:OwnL S w F cs us):Own S w F (.agg cs) (.agg us.toArray)
 | tup (cs:List OV) (us:List Value) (F:D7) (h:OwnL S w F cs us):Own S w F (.tup cs) (.tuple us.toArray)
inductive OwnL (S:D7) (w:World):D7→List OV→List Value→Prop
 | nil:OwnL S w (fun _ _=>False) [] []
 | cons (o:OV) (u:Value) (os:List OV) (us:List Value) (F1 F2:D7) (h1:Own S w F1 o u) (h2:OwnL S w F2 os us) (hd:∀ b o,F1 b o→¬ F2 b o) :
   OwnL S w (fun b o=>F1 b o∨F2 b o) (o :: os) (u :: us)
end
theorem OwnL.length {S:D7} {w:World}:∀ {os:List OV} {us:List Value} {F:D7},OwnL S w F os us→us.length=os.length
 | [],_,_,h=>by cases h;rfl
 | _ :: os,_,_,h=>by cases h with | cons _ _ _ _ _ _ _ h2 _=>simp [h2.length]
section keep
variable {S S':D7} {w w':World}
structure Still (S S':D7) (w w':World) (F:D7):Prop where
 sub:∀ b o,S b o→S' b o
 cell:∀ b o,S b o→D8 w' b o=D8 w b o
 own:∀ b o,F b o→D8 w' b o=D8 w b o
 size:w.heap.size≤w'.heap.size
 shape:∀ b,b < w.heap.size→w'.shape? b=w.shape? b
 frz:∀ b o,b < w.heap.size→w'.frozen? ⟨b,o,none⟩=w.frozen? ⟨b,o,none⟩
theorem Still.of {F F':D7} (h:Still S S' w w' F) (hF:∀ b o,F' b o→F b o):Still S S' w w' F':=⟨h.sub,h.cell,fun b o q=>h.own b o (hF b o q),h.size,h.shape,h.frz⟩
theorem Still.thaw {F:D7} (h:Still S S' w w' F) {b:Nat} (hb:b < w.heap.size) (ht:z0j w b):z0j w' b :=
 fun o hz e s hs=>ht o (by rw [← h.frz b o hb];exact hz) e s (by rw [← h.shape b hb];exact hs)
theorem ArrOk.keep {b sz:Nat} {es:List (List CV)} {cap:Option Nat} {pub:Bool} {n capn:Nat} (hs:Still S S' w w' (fun b' o=>b'=b∧(pub=true→es.length * sz≤o))) (h:ArrOk S w b sz es cap pub n capn):ArrOk S' w' b sz es cap pub n capn:=by
 obtain⟨h1,h2,⟨e,h3⟩,h4,h5,⟨hl,f,hc,hr⟩,h7,h8⟩:=h
 have hb:=P0 h3
 refine⟨h1,⟨hs.thaw hb h2.1,by rw [hs.shape b hb];exact h2.2⟩,⟨e,by rw [hs.shape b hb];exact h3⟩,h4,h5,⟨hl,f,fun k hk=>?_,fun i j e x he hx=>(hr i j e x he hx).mono hs.sub hs.cell⟩,fun hp o ho=>hs.sub _ _ (h7 hp o ho),h8⟩
 cases pub with
 | true=>exact (hs.cell _ _ (h7 rfl _ hk)).trans (hc k hk)
 | false=>exact (hs.own _ _ ⟨rfl,by simp⟩).trans (hc k hk)
mutual
theorem Own.keep:∀ {o:OV} {u:Value} {F:D7},Own S w F o u→Still S S' w w' F→Own S' w' F o u
 | _,_,_,.c x u h,hs=>.c x u (h.mono hs.sub hs.cell)
 | _,_,_,.arr sz es cap pub n b capn h,hs=>.arr sz es cap pub n b capn (h.keep hs)
 | _,_,_,.ptr cs us b o F h hb ht hc hd,hs=>.ptr cs us b o F (h.keep (hs.of fun _ _ q=>.inl q)) (Nat.lt_of_lt_of_le hb hs.size) (hs.thaw hb ht)
   (fun j u hu=>(hs.own _ _ (.inr ⟨rfl,by omega,by have:=(List.getElem?_eq_some_iff.1 hu).1;omega⟩)).trans (hc j u hu)) hd
 | _,_,_,.bsl cs us n b o capn F h hb ht hn hc hd,hs=>.bsl cs us n b o capn F (h.keep (hs.of fun _ _ q=>.inl q)) (Nat.lt_of_lt_of_le hb hs.size) (hs.thaw hb ht) hn
   (fun j u hu=>(hs.own _ _ (.inr ⟨rfl,by omega,by have:=(List.getElem?_eq_some_iff.1 hu).1;omega⟩)).trans (hc j u hu)) hd
 | _,_,_,.agg cs us F h,hs=>.agg cs us F (h.keep hs)
 | _,_,_,.tup cs us F h,hs=>.tup cs us F (h.keep hs)
theorem OwnL.keep:∀ {os:List OV} {us:List Value} {F:D7},OwnL S w F os us→Still S S' w w' F→OwnL S' w' F os us
 | _,_,_,.nil,_=>.nil
 | _,_,_,.cons o u os us F1 F2 h1 h2 hd,hs=>.cons o u os us F1 F2 (h1.keep (hs.of fun _ _ q=>.inl q)) (h2.keep (hs.of fun _ _ q=>.inr q)) hd
end
end keep
section
variable {X:Ctx} {w:World}
structure Packed (X:Ctx) (S S':D7) (pl:E2) (w:World) (m m':Mem) (F:D7):Prop where
 st:St X S' pl w m'
 kp:Keeps S S' pl pl w w m m'
 sh:Shrinks S S' pl m m'
 off:∀ b o,F b o→U0 pl m b o∧¬ U0 pl m' b o
 no:∀ b o,F b o→¬ S' b o
theorem Packed.still {S S':D7} {pl:E2} {m m':Mem} {F:D7} (h:Packed X S S' pl w m m' F) (F':D7):Still S S' w w F' :=
 ⟨h.kp.sub,fun _ _ _=>rfl,fun _ _ _=>rfl,Nat.le_refl _,fun _ _=>rfl,fun _ _ _=>rfl⟩
def w9c (X:Ctx) (w:World) (pk:Mem→AV→(OV→Mem→Prop)→Prop):Prop :=
 ∀ {S:D7} {pl:E2} {m:Mem} {x:AV} {u:Value} {K:OV→Mem→Prop},St X S pl w m→RelV S pl w m x u→pk m x K→∃ S' o m' F,K o m'∧Own S' w F o u∧Packed X S S' pl w m m' F
theorem L8 {pk:Mem→AV→(OV→Mem→Prop)→Prop} (hp:w9c X w pk):∀ (xs:List AV) (us:List Value) {S:D7} {pl:E2} {m:Mem} {K:List OV→Mem→Prop},St X S pl w m→us.length=xs.length →
  (∀ (j:Nat) x u,xs[j]?=some x→us[j]?=some u→RelV S pl w m x u)→N0 pk m xs K→∃ S' os m' F,K os m'∧OwnL S' w F os us∧Packed X S S' pl w m m' F
 | [],[],S,pl,m,K,h,_,_,hk=>⟨S,[],m,_,hk,.nil,h,Keeps.refl _ _ _ _,Shrinks.refl _ _ _,fun _ _ q=>q.elim,fun _ _ q=>q.elim⟩
 | [],_ :: _,_,_,_,_,_,hl,_,_=>by simp at hl
 | _ :: _,[],_,_,_,_,_,hl,_,_=>by simp at hl
 | x :: xs,u :: us,S,pl,m,K,h,hl,hr,hk=>by
  obtain⟨S1,o,m1,F1,hk1,ho,p1⟩:=hp h (hr 0 x u rfl rfl) hk
  obtain⟨S2,os,m2,F2,hk2,hos,p2⟩:=L8 hp xs us p1.st (by simpa using hl) (fun j x u hx hu=>(hr (j + 1) x u (by simpa using hx) (by simpa using hu)).mono p1.kp) hk1
  refine⟨S2,o :: os,m2,_,hk2,.cons o u os us F1 F2 (ho.keep (p2.still _)) hos (fun b q h1 h2=>(p1.off b q h1).2 (p2.off b q h2).1),p2.st,p1.kp.trans p2.kp,p1.sh.trans p2.sh,fun b q hf=>?_,fun b q hf=>?_⟩
  rotate_left
  ·rcases hf with hf | hf
   ·exact fun hs=>(p2.sh.grow b q hs).elim (p1.no b q hf) (p1.off b q hf).2
   ·exact p2.no b q hf
  rcases hf with hf | hf
  ·exact⟨(p1.off b q hf).1,fun q'=>(p1.off b q hf).2 (p2.sh.feet b q q')⟩
  ·exact⟨p1.sh.feet b q (p2.off b q hf).1,(p2.off b q hf).2⟩
theorem z3c {S:D7} {pl:E2} {m:Mem} (h:Inv S pl w m) {i:Nat} {ob:Ob} (hob:m.get i=some ob):(∀ b o,U0 pl (m.del i) b o→U0 pl m b o)∧∀ b o,ob.foot (pl i) b o→U0 pl m b o∧¬ U0 pl (m.del i) b o:=by
 have hne:∀ id ob,(m.del i).get id=some ob→m.get id=some ob∧id≠i:=fun id ob hg=>by
  rw [z5b] at hg;split at hg
  ·simp at hg
  ·exact⟨hg,by assumption⟩
 refine⟨fun b o ⟨id,ob',hg,hf⟩=>⟨id,ob',(hne id ob' hg).1,hf⟩,fun b o hf=>⟨⟨i,ob,hob,hf⟩,fun ⟨id,ob',hg,hf'⟩=>h.apart id i ob' ob (hne id ob' hg).1 hob (hne id ob' hg).2 b o hf' hf⟩⟩
def w9d (pk:Mem→AV→(OV→Mem→Prop)→Prop):Prop:=∀ {m:Mem} {x:AV} {K:OV→Mem→Prop},pk m x K→x.isDead=false∧∃ o m',K o m'
theorem Q1 {pk:Mem→AV→(OV→Mem→Prop)→Prop} (hp:w9d pk):∀ (xs:List AV) {m:Mem} {K:List OV→Mem→Prop},N0 pk m xs K→(∀ x ∈ xs,x.isDead=false)∧∃ os m',K os m'
 | [],m,_,hk=>⟨fun x hx=>by simp at hx,_,m,hk⟩
 | x :: xs,_,_,hk=>by
  obtain⟨h1,o,m1,hk1⟩:=hp hk
  obtain⟨h2,os,m2,hk2⟩:=Q1 hp xs hk1
  refine⟨fun y hy=>?_,_,m2,hk2⟩
  rcases List.mem_cons.1 hy with rfl | hy
  ·exact h1
  ·exact h2 y hy
theorem z5y (k:Nat):w9d (L1 k):=by
 induction k with
 | zero=>intro m x K hk;exact hk.elim
 | succ k ih =>
  intro m x K hk
  cases x with
  | c x=>exact⟨rfl,_,m,hk⟩
  | t id ver n =>
   simp only [L1] at hk
   split at hk
   ·exact⟨rfl,_,_,hk.2.2⟩
   ·exact hk.elim
  | p id ver off =>
   cases off with
   | succ off=>simp only [L1] at hk
   | zero =>
    simp only [L1] at hk
    split at hk
    ·obtain⟨_,os,m',h⟩:=Q1 ih _ hk.2;exact⟨rfl,_,m',h⟩
    ·exact hk.elim
  | bs id ver n =>
   simp only [L1] at hk
   split at hk
   ·obtain⟨_,os,m',h⟩:=Q1 ih _ hk.2;exact⟨rfl,_,m',h⟩
   ·exact hk.elim
  | agg cs=>obtain⟨_,os,m',h⟩:=Q1 ih _ hk;exact⟨rfl,_,m',h⟩
  | tup cs=>obtain⟨_,os,m',h⟩:=Q1 ih _ hk;exact⟨rfl,_,m',h⟩
  | _=>simp only [L1] at hk
theorem RowA.list {S:D7} {pl:E2} {m:Mem} {b o:Nat} {cs:List AV} (h:RowA S pl w m b o cs):∃ us:List Value,us.length=cs.length∧(∀ (j:Nat) u,us[j]?=some u→D8 w b (o + j)=some u) ∧
  ∀ (j:Nat) x u,cs[j]?=some x→us[j]?=some u→RelV S pl w m x u:=by
 refine⟨(List.range cs.length).map fun j=>(D8 w b (o + j)).getD undef,by simp,fun j u hu=>?_,fun j x u hx hu=>?_⟩
 ·rw [List.getElem?_map] at hu
  by_cases hj:j < cs.length
  ·rw [List.getElem?_range hj] at hu
   obtain⟨v,hv,_⟩:=h j _ (List.getElem?_eq_getElem hj)
   simp [hv] at hu;subst hu;exact hv
  ·rw [List.getElem?_eq_none (by simp;omega)] at hu;simp at hu
 ·have hj:=(List.getElem?_eq_some_iff.1 hx).1
  rw [List.getElem?_map,List.getElem?_range hj] at hu
  obtain⟨v,hv,hr⟩:=h j x hx
  simp [hv] at hu;subst hu;exact hr
theorem W3 (k:Nat):w9c X w (L1 k):=by
 induction k with
 | zero=>intro S pl m x u K _ _ hk;exact hk.elim
 | succ k ih =>
  intro S pl m x u K h hr hk
  cases x with
  | c x=>cases hr with | c _ _ hr=>exact⟨S,_,m,_,hk,.c _ _ hr,h,Keeps.refl _ _ _ _,Shrinks.refl _ _ _,fun _ _ q=>q.elim,fun _ _ q=>q.elim⟩
  | t id ver n =>
   simp only [L1] at hk
   split at hk
   ·rename_i v sz es cap pub hg
    obtain⟨rfl,hn,hk⟩:=hk
    cases hr with | t _ _ _ b capn hv hnc hr =>
    obtain⟨sz',es',cap',pub',e,heq,_,hb,hs⟩:=hr _ hg rfl
    injection heq with _ q1 q2 q3 q4;subst q1 q2 q3 q4
    obtain⟨hv',h0,h1,h2,⟨e3,capn3,hs3,hle3,hcap3⟩,hrow,hp⟩:=h.inv.ob id _ hg
    rw [← hb] at h2 hs3 hrow hp
    have hcc:capn3=capn:=by
     rw [hs] at hs3;injection hs3 with hs3;injection hs3 with _ hs3
     exact (Nat.eq_of_mul_eq_mul_right h1 hs3).symm
    subst hcc
    obtain⟨hst,hkp⟩:=h.del id
    obtain⟨f1,f2⟩:=z3c h.inv hg
    exact⟨S,_,_,_,hk,.arr sz es cap pub n b capn3 ⟨h1,h2,⟨e,hs⟩,hle3,hcap3,hrow,hp,hn⟩,hst,hkp,⟨fun _ _ q=>.inl q,f1⟩,fun b' o hf=>f2 b' o ⟨by rw [← hb];exact hf.1,hf.2⟩,fun b' o hf=>h.inv.free id _ hg b' o ⟨by rw [← hb];exact hf.1,hf.2⟩⟩
   ·exact hk.elim
  | p id ver off =>
   cases off with
   | succ off=>simp only [L1] at hk
   | zero =>
    simp only [L1] at hk
    split at hk
    ·rename_i v cs hg
     obtain⟨rfl,hk⟩:=hk
     cases hr with | p _ _ _ b o hv hr =>
     obtain⟨_,hb⟩:=hr _ hg rfl
     obtain⟨hv',h1,h2,hrow⟩:=h.inv.ob id _ hg
     obtain⟨us,hul,huc,hur⟩:=hrow.list
     have hb1:(pl id).1=b:=by rw [← hb]
     have hb2:(pl id).2=o:=by rw [← hb]
     obtain⟨hst,hkp⟩:=h.del id
     obtain⟨f1,f2⟩:=z3c h.inv hg
     obtain⟨hlive,_⟩:=Q1 (z5y k) cs hk
     obtain⟨S',os,m',F,hk,ho,hp⟩:=L8 ih cs us hst hul (fun j x u hx hu=>(hur j x u hx hu).mono hkp) hk
     have hreg:∀ b' o',(b'=b∧o≤o'∧o' < o + us.length)→(Ob.blk v cs).foot (pl id) b' o':=fun b' o' ⟨q1,q2,q3⟩=>by
      have hj:o' - o < cs.length:=by omega
      have hx:cs[o' - o]?=some cs[o' - o]:=List.getElem?_eq_getElem hj
      exact⟨by rw [q1,hb1],o' - o,_,hx,hlive _ (List.mem_of_getElem? hx),by rw [hb2];omega⟩
     rw [hb1] at h1 h2 huc
     rw [hb2] at huc
     refine⟨S',_,m',_,hk,.ptr os us b o F ho h1 h2 huc (fun b' o' q1 q2=>?_),hp.st,hkp.trans hp.kp,⟨fun b' o' q=>?_,fun b' o' q=>f1 _ _ (hp.sh.feet _ _ q)⟩,fun b' o' q=>?_,fun b' o' q=>?_⟩
     ·exact (f2 b' o' (hreg b' o' q2)).2 (hp.off b' o' q1).1
     ·exact (hp.sh.grow b' o' q).imp (fun q=>q) (f1 b' o')
     ·rcases q with q | q
      ·exact⟨f1 _ _ (hp.off b' o' q).1,(hp.off b' o' q).2⟩
      ·obtain⟨g1,g2⟩:=f2 b' o' (hreg b' o' q)
       exact⟨g1,fun q'=>g2 (hp.sh.feet _ _ q')⟩
     ·rcases q with q | q
      ·exact hp.no b' o' q
      ·exact fun hs=>(hp.sh.grow b' o' hs).elim (h.inv.free id _ hg b' o' (hreg b' o' q)) (f2 b' o' (hreg b' o' q)).2
    ·exact hk.elim
  | bs id ver n =>
   simp only [L1] at hk
   split at hk
   ·rename_i v cs hg
    obtain⟨rfl,hk⟩:=hk
    cases hr with | bs _ _ _ b o capn hv hnc hr =>
    obtain⟨_,hb⟩:=hr _ hg rfl
    obtain⟨hv',h1,h2,hrow⟩:=h.inv.ob id _ hg
    obtain⟨us,hul,huc,hur⟩:=hrow.list
    have hb1:(pl id).1=b:=by rw [← hb]
    have hb2:(pl id).2=o:=by rw [← hb]
    obtain⟨hst,hkp⟩:=h.del id
    obtain⟨f1,f2⟩:=z3c h.inv hg
    obtain⟨hlive,_⟩:=Q1 (z5y k) cs hk
    obtain⟨S',os,m',F,hk,ho,hp⟩:=L8 ih cs us hst hul (fun j x u hx hu=>(hur j x u hx hu).mono hkp) hk
    have hreg:∀ b' o',(b'=b∧o≤o'∧o' < o + us.length)→(Ob.blk v cs).foot (pl id) b' o':=fun b' o' ⟨q1,q2,q3⟩=>by
     have hj:o' - o < cs.length:=by omega
     have hx:cs[o' - o]?=some cs[o' - o]:=List.getElem?_eq_getElem hj
     exact⟨by rw [q1,hb1],o' - o,_,hx,hlive _ (List.mem_of_getElem? hx),by rw [hb2];omega⟩
    rw [hb1] at h1 h2 huc
    rw [hb2] at huc
    refine⟨S',_,m',_,hk,(.bsl os us n b o capn F ho h1 h2 hnc huc (fun b' o' q1 q2=>?_)),hp.st,hkp.trans hp.kp,⟨fun b' o' q=>?_,fun b' o' q=>f1 _ _ (hp.sh.feet _ _ q)⟩,fun b' o' q=>?_,fun b' o' q=>?_⟩
    ·exact (f2 b' o' (hreg b' o' q2)).2 (hp.off b' o' q1).1
    ·exact (hp.sh.grow b' o' q).imp (fun q=>q) (f1 b' o')
    ·rcases q with q | q
     ·exact⟨f1 _ _ (hp.off b' o' q).1,(hp.off b' o' q).2⟩
     ·obtain⟨g1,g2⟩:=f2 b' o' (hreg b' o' q)
      exact⟨g1,fun q'=>g2 (hp.sh.feet _ _ q')⟩
    ·rcases q with q | q
     ·exact hp.no b' o' q
     ·exact fun hs=>(hp.sh.grow b' o' hs).elim (h.inv.free id _ hg b' o' (hreg b' o' q)) (f2 b' o' (hreg b' o' q)).2
   ·exact hk.elim
  | agg cs =>
   cases hr with | agg _ us hl hr =>
   obtain⟨S',os,m',F,hk,ho,hp⟩:=L8 ih cs us h hl hr hk
   exact⟨S',_,m',F,hk,.agg os us F ho,hp⟩
  | tup cs =>
   cases hr with | tup _ us hl hr =>
   obtain⟨S',os,m',F,hk,ho,hp⟩:=L8 ih cs us h hl hr hk
   exact⟨S',_,m',F,hk,.tup os us F ho,hp⟩
  | _=>simp only [L1] at hk
end
end Go.Proofs.YtioiigabeoaneaaGreat.V
namespace Go.Proofs.YtioiigabeoaneaaGreat.V
open Go Go.RowKit
section
variable {X:Ctx} {w:World}
structure Laid (X:Ctx) (S:D7) (pl pl':E2) (w:World) (m m':Mem) (F:D7):Prop where
 st:St X S pl' w m'
 kp:Keeps S S pl pl' w w m m'
 feet:∀ b o,U0 pl' m' b o→U0 pl m b o∨F b o
theorem St.adopt {S:D7} {pl:E2} {m:Mem} (h:St X S pl w m) (id:Nat) (f:Nat→Ob) (q:Nat × Nat) (F:D7) (hv:(f m.clk).ver=m.clk)
  (hF:∀ b o,F b o→(X.F0 b o∨X.w0.heap.size≤b)∧¬ S b o∧¬ U0 pl m b o) (hfoot:∀ b o,(f m.clk).foot q b o→F b o)
  (hok:∀ {pl' m'},Keeps S S pl pl' w w m m'→ObOk S pl' w m' q (f m.clk)):Laid X S pl (M2 pl id q) w m (m.new id f) F:=by
 have hne:∀ i ob,i≠id→(m.new id f).get i=some ob→m.get i=some ob:=fun i ob hi hg=>by rw [H7,if_neg hi] at hg;exact hg
 have k:Keeps S S pl (M2 pl id q) w w m (m.new id f) :=
  ⟨fun _ _ h=>h,fun _ _ _=>rfl,fun _ _ h=>h,by rw [L9];omega,fun i ob hg hlt=>by
   by_cases hi:i=id
   ·subst hi;rw [H7,if_pos rfl] at hg;injection hg with hg;subst hg;rw [hv] at hlt;exact absurd hlt (Nat.lt_irrefl _)
   ·exact⟨ob,hne i ob hi hg,by cases ob<;>simp [Ob.alike],by simp [M2,hi]⟩⟩
 have hpl:M2 pl id q id=q:=by simp [M2]
 refine⟨h.step1 id (fun _ _=>False) k (Ext.refl _ _) (fun _ _ hf=>hf.elim) (fun b o hs=>⟨h.inv.low b o hs,.inl hs⟩) (fun i ob hi hg=>⟨hne i ob hi hg,by simp [M2,hi]⟩)
  (fun i ob hi hg b o hf=>⟨fun hf=>hf,h.inv.free i ob (hne i ob hi hg) b o hf⟩) (fun ob hg=>?_),k,fun b o ⟨i,ob,hg,hf⟩=>?_⟩
 ·rw [H7,if_pos rfl] at hg;injection hg with hg;subst hg
  rw [hpl]
  refine⟨by rw [hv,L9];exact Nat.lt_succ_self _,hok k,fun b o hf=>?_⟩
  obtain⟨h1,h2,h3⟩:=hF b o (hfoot b o hf)
  exact⟨h1,h2,fun i ob' hi hg hf2=>h3 ⟨i,ob',hne i ob' hi hg,hf2⟩⟩
 ·by_cases hi:i=id
  ·subst hi;rw [H7,if_pos rfl] at hg;injection hg with hg;subst hg
   rw [hpl] at hf;exact .inr (hfoot b o hf)
  ·exact .inl ⟨i,ob,hne i ob hi hg,by simpa [M2,hi] using hf⟩
def w2o (X:Ctx) (S:D7) (pl:E2) (m:Mem) (F:D7):Prop:=∀ b o,F b o→(X.F0 b o∨X.w0.heap.size≤b)∧¬ S b o∧¬ U0 pl m b o
def w2m (X:Ctx) (w:World) (un:Nat→Mem→OV→AV × Nat × Mem):Prop :=
 ∀ (id:Nat) {S:D7} {pl:E2} {m:Mem} {o:OV} {u:Value} {F:D7},St X S pl w m→Own S w F o u→w2o X S pl m F→∃ pl',Laid X S pl pl' w m (un id m o).2.2 F∧RelV S pl' w (un id m o).2.2 (un id m o).1 u
theorem J2 (un:Nat→Mem→OV→AV × Nat × Mem):∀ (os:List OV) (id:Nat) (m:Mem),(G6 un id m os).1.length=os.length
 | [],_,_=>rfl
 | o :: os,id,m=>by simp only [G6,List.length_cons];rw [J2 un os]
theorem K8 {un:Nat→Mem→OV→AV × Nat × Mem} (hu:w2m X w un):∀ (os:List OV) (us:List Value) (id:Nat) {S:D7} {pl:E2} {m:Mem} {F:D7},St X S pl w m→OwnL S w F os us→w2o X S pl m F →
  ∃ pl',Laid X S pl pl' w m (G6 un id m os).2.2 F∧∀ (j:Nat) x u,(G6 un id m os).1[j]?=some x→us[j]?=some u→RelV S pl' w (G6 un id m os).2.2 x u
 | [],us,id,S,pl,m,F,h,ho,_=>⟨pl,⟨h,Keeps.refl _ _ _ _,fun _ _ q=>.inl q⟩,fun j x u hx=>by simp [G6] at hx⟩
 | o :: os,us,id,S,pl,m,F,h,ho,hm=>by
  cases ho with | cons _ u _ us F1 F2 h1 h2 hd =>
  obtain⟨pl1,l1,r1⟩:=hu id h h1 (fun b q hf=>hm b q (.inl hf))
  obtain⟨pl2,l2,r2⟩:=K8 hu os us (un id m o).2.1 l1.st h2 (fun b q hf=>by
   obtain⟨g1,g2,g3⟩:=hm b q (.inr hf)
   exact⟨g1,g2,fun hf'=>(l1.feet b q hf').elim g3 (fun hf1=>hd b q hf1 hf)⟩)
  refine⟨pl2,⟨l2.st,l1.kp.trans l2.kp,fun b q hf=>?_⟩,fun j x v hx hv=>?_⟩
  ·rcases l2.feet b q hf with g | g
   ·exact (l1.feet b q g).imp (fun q=>q) .inl
   ·exact .inr (.inr g)
  ·cases j with
   | zero=>simp [G6] at hx hv;subst hx hv;exact r1.mono l2.kp
   | succ j=>exact r2 j x v (by simpa [G6] using hx) (by simpa using hv)
theorem U2 (k:Nat):w2m X w (H0 k):=by
 induction k with
 | zero=>intro id S pl m o u F h _ _;exact⟨pl,⟨h,Keeps.refl _ _ _ _,fun _ _ q=>.inl q⟩,.dead u⟩
 | succ k ih =>
  intro id S pl m o u F h ho hm
  cases ho with
  | c x u hr=>exact⟨pl,⟨h,Keeps.refl _ _ _ _,fun _ _ q=>.inl q⟩,.c _ _ hr⟩
  | arr sz es cap pub n b capn ha =>
   obtain⟨h1,h2,⟨e,h3⟩,h4,h5,⟨hl,f,hc,hr⟩,h7,h8⟩:=ha
   refine⟨M2 pl id (b,0),h.adopt id (fun v=>.arr v sz es cap pub) (b,0) _ rfl hm (fun b' o' hf=>hf) (fun {pl' m'} kp=>⟨rfl,h1,h2,⟨e,capn,h3,h4,h5⟩,⟨hl,f,hc,hr⟩,h7⟩),?_⟩
   exact .t id m.clk n b capn (by rw [H0];simp [L9]) (by omega) (fun ob hg _=>by
    simp only [H0] at hg
    rw [H7,if_pos rfl] at hg;injection hg with hg;subst hg
    exact⟨sz,es,cap,pub,e,rfl,h8,by simp [M2],h3⟩)
  | ptr cs us b o' F' hL hb ht hc hd =>
   obtain⟨pl1,l1,r1⟩:=K8 ih cs us (1000000 * (id + 1)) h hL (fun b q hf=>hm b q (.inl hf))
   simp only [H0]
   generalize hq:G6 (H0 k) (1000000 * (id + 1)) m cs=q at l1 r1
   have hlen:us.length=q.1.length:=by rw [← hq,J2,hL.length]
   have hreg:w2o X S pl1 q.2.2 (fun b' o''=>b'=b∧o'≤o''∧o'' < o' + us.length):=fun b' o'' hf=>by
    obtain⟨g1,g2,g3⟩:=hm b' o'' (.inr hf)
    exact⟨g1,g2,fun hf'=>(l1.feet b' o'' hf').elim g3 (fun hf1=>hd b' o'' hf1 hf)⟩
   have l2:=l1.st.adopt id (fun v=>.blk v q.1) (b,o') _ rfl hreg (fun b' o'' hf=>by
    obtain⟨q1,j,x,hx,_,q2⟩:=hf
    have hj:=(List.getElem?_eq_some_iff.1 hx).1
    exact⟨q1,by omega,by omega⟩) (fun {pl' m'} kp=>⟨hb,ht,fun j x hx=>by
     have hj:=(List.getElem?_eq_some_iff.1 hx).1
     have hu:us[j]?=some us[j]:=List.getElem?_eq_getElem (by omega)
     exact⟨_,hc j _ hu,(r1 j x _ hx hu).mono kp⟩⟩)
   refine⟨_,⟨l2.st,l1.kp.trans l2.kp,fun b' o'' hf=>?_⟩,?_⟩
   ·rcases l2.feet b' o'' hf with g | g
    ·exact (l1.feet b' o'' g).imp (fun q=>q) .inl
    ·exact .inr (.inr g)
   ·have:=RelV.p (S:=S) (pl:=M2 pl1 id (b,o')) (w:=w) (m:=q.2.2.new id fun v=>.blk v q.1) id q.2.2.clk 0 b o' (by rw [L9];exact Nat.lt_succ_self _) (fun ob hg _=>by
     rw [H7,if_pos rfl] at hg;injection hg with hg;subst hg
     exact⟨⟨_,rfl⟩,by simp [M2]⟩)
    simpa using this
  | bsl cs us n b o' capn F' hL hb ht hn hc hd =>
   obtain⟨pl1,l1,r1⟩:=K8 ih cs us (1000000 * (id + 1)) h hL (fun b q hf=>hm b q (.inl hf))
   simp only [H0]
   generalize hq:G6 (H0 k) (1000000 * (id + 1)) m cs=q at l1 r1
   have hlen:us.length=q.1.length:=by rw [← hq,J2,hL.length]
   have hreg:w2o X S pl1 q.2.2 (fun b' o''=>b'=b∧o'≤o''∧o'' < o' + us.length):=fun b' o'' hf=>by
    obtain⟨g1,g2,g3⟩:=hm b' o'' (.inr hf)
    exact⟨g1,g2,fun hf'=>(l1.feet b' o'' hf').elim g3 (fun hf1=>hd b' o'' hf1 hf)⟩
   have l2:=l1.st.adopt id (fun v=>.blk v q.1) (b,o') _ rfl hreg (fun b' o'' hf=>by
    obtain⟨q1,j,x,hx,_,q2⟩:=hf
    have hj:=(List.getElem?_eq_some_iff.1 hx).1
    exact⟨q1,by omega,by omega⟩) (fun {pl' m'} kp=>⟨hb,ht,fun j x hx=>by
     have hj:=(List.getElem?_eq_some_iff.1 hx).1
     have hu:us[j]?=some us[j]:=List.getElem?_eq_getElem (by omega)
     exact⟨_,hc j _ hu,(r1 j x _ hx hu).mono kp⟩⟩)
   refine⟨_,⟨l2.st,l1.kp.trans l2.kp,fun b' o'' hf=>?_⟩,?_⟩
   ·rcases l2.feet b' o'' hf with g | g
    ·exact (l1.feet b' o'' g).imp (fun q=>q) .inl
    ·exact .inr (.inr g)
   ·have:=RelV.bs (S:=S) (pl:=M2 pl1 id (b,o')) (w:=w) (m:=q.2.2.new id fun v=>.blk v q.1) id q.2.2.clk n b o' capn (by rw [L9];exact Nat.lt_succ_self _) hn (fun ob hg _=>by
     rw [H7,if_pos rfl] at hg;injection hg with hg;subst hg
     exact⟨⟨_,rfl⟩,by simp [M2]⟩)
    simpa using this
  | agg cs us F hL =>
   obtain⟨pl1,l1,r1⟩:=K8 ih cs us id h hL hm
   exact⟨pl1,l1,.agg _ us (by rw [J2,hL.length]) r1⟩
  | tup cs us F hL =>
   obtain⟨pl1,l1,r1⟩:=K8 ih cs us id h hL hm
   exact⟨pl1,l1,.tup _ us (by rw [J2,hL.length]) r1⟩
end
end Go.Proofs.YtioiigabeoaneaaGreat.V
