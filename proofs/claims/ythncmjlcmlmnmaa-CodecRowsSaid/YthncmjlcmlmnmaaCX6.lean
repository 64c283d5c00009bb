/- A part of the proof. Conditions: none. -/
import Derived.Test.YthncmjlcmlmnmaaCX5
import Derived.Test.YthncmjlcmlmnmaaCX4
import Derived.KernelRfl
namespace Go.Proofs.Ythncmjlcmlmnmaa
open Go V
set_option maxRecDepth 100000
set_option maxHeartbeats 4000000
theorem w4v:∀ (n v:Nat),v < 128 ^ (n + 1)→(varB v).length≤n + 1
 | 0,v,h=>by rw [z7r (by simpa using h)];simp
 | n + 1,v,h=>by
  by_cases h1:v < 128
  ·rw [z7r h1];simp
  ·rw [z7s (by omega),List.length_cons]
   have:=w4v n (v / 128) (by rw [Nat.pow_succ] at h;exact Nat.div_lt_of_lt_mul (by rw [Nat.mul_comm];exact h))
   omega
theorem z1y {v:Nat} (h:v < 2 ^ 64):(varB v).length≤10:=w4v 9 v (Nat.lt_of_lt_of_le h (by decide))
theorem w7f {w:Nat} (h:128≤w):[[CV.v (.int .u8 (IntKind.u8.wrap ((w % 128 + 128:Nat):Int)))]]++encB (varB (w / 128))=encB (varB w):=by
 rw [z7s h,w9h,← z1o];rfl
theorem raw_w {ρ:Type} (fail:ρ) (fu:Nat) (hf:10≤fu) (K:EL→ρ) (z:EL) (v:Nat) (hv:v < 2 ^ 64) (hz:z.length + 10≤35184372088832):p119 fail fu K z (v:Nat)=K (z++encB (varB v)):=by
 obtain⟨m,rfl⟩:∃ m,fu=m + 1:=⟨fu - 1,by omega⟩
 have hv2:v < 128 ^ (m + 1):=Nat.lt_of_lt_of_le hv (Nat.le_trans (show 2 ^ 64≤128 ^ 10 by decide) (Nat.pow_le_pow_right (by omega) (by omega)))
 have h10:=z1y hv
 have hloop:∀ (K:EL→ρ),p140_1L fail (m + 1) K (m + 1) (v:Nat) []=K (encB (varB v)):=fun K=>by
  have h9:∀ (j:Nat) (w:Nat) (y:EL),w < 128 ^ 10→y.length + (varB w).length≤100→(varB w).length≤j→p140_1L fail (m + 1) K j (w:Nat) y=K (y++encB (varB w)):=by
   intro j
   induction j with
   | zero=>intro w y _ _ h;have:=w4w w;omega
   | succ j ih =>
    intro w y hw hy hj
    rw [p140_1L,p140_1]
    by_cases h1:w < 128
    ·rw [geqF (by omega),cond_false,gd_y (by simp),gd_y (by simp;omega),z7r h1,← w9h];rfl
    ·have hs:z0d .shr .u64 ((w:Nat):Int) 7=((w / 128:Nat):Int):=by
      show ((w:Nat):Int).fdiv (2 ^ 7)=_
      rw [k2j _ _ (by decide)];simp
     have ho:z0d .or .u8 (IntKind.u8.wrap ((w:Nat):Int)) 128=IntKind.u8.wrap ((w % 128 + 128:Nat):Int):=by
      show IntKind.u8.wrap (bOr 8 (IntKind.u8.wrap ((w:Nat):Int)) 128:Nat)=_
      rw [or128]
     rw [z7s (by omega),List.length_cons] at hy hj
     rw [geqT (by omega),cond_true,gd_y (by simp),gd_y (by simp;omega),gd_y (by omega),hs,ho]
     have:=ih (w / 128) (y++List.take 1 [[CV.v (.int .u8 (IntKind.u8.wrap ((w % 128 + 128:Nat):Int)))]]) (by omega) (by simp;omega) (by omega)
     rw [this,List.append_assoc]
     exact congrArg (fun q=>K (y++q)) (w7f (by omega))
  have:=h9 (m + 1) v [] (Nat.lt_of_lt_of_le hv (by decide)) (by simp;omega) (by omega)
  simpa using this
 have hadd:z0d .add .i64 (((nilE:EL).length:Nat):Int) 10=10:=by decide
 rw [p119,p140,p120,hadd,gd_y (by omega),gd_y (by omega),gd_y (by decide),gd_y (by decide),gd_y (by decide)]
 have e0:List.replicate (Int.toNat 0) [CV.v (.int .u8 0)]++(nilE:EL)=[]:=rfl
 rw [e0,hloop,gd_y (by rw [z0g];omega)]
def numsB (l:List Int):List UInt8:=l.flatMap fun n=>varB (uv n)
theorem w6q (n:Int) (l:List Int):numsB (n :: l)=varB (uv n)++numsB l:=by unfold numsB;rw [List.flatMap_cons]
theorem num_w {ρ:Type} (fail:ρ) (fu:Nat) (K:EL→ρ) (l:List Int) (hf:l.length + 10≤fu) (z:EL) (hz:z.length + 10 * l.length≤35184372088832):p83 fail fu K z (encI l)=K (z++encB (numsB l)):=by
 have loop:∀ (r i n:Nat) (z:EL),i + r=l.length→r < n→z.length + 10 * r≤35184372088832→p83_1L fail fu K (encI l) n z ((l.length:Nat):Int) ((i:Nat):Int)=K (z++encB (numsB (l.drop i))):=by
  intro r
  induction r with
  | zero =>
   intro i n z hi hn hz
   obtain⟨n,rfl⟩:∃ m,n=m + 1:=⟨n - 1,by omega⟩
   rw [p83_1L,p83_1,lssF (by omega),cond_false,List.drop_eq_nil_of_le (by omega),show numsB []=[] from rfl,k1a,List.append_nil]
  | succ r ih =>
   intro i n z hi hn hz
   obtain⟨n,rfl⟩:∃ m,n=m + 1:=⟨n - 1,by omega⟩
   have hlt:i < l.length:=by omega
   have hr:∀ k:Int→ρ,w5e fail (List.getD (encI l) (((i:Nat):Int)).toNat []) k=k l[i]:=fun k=>by rw [Int.toNat_natCast,k0z hlt];rfl
   have h10:=z1y (uv_lt l[i])
   rw [p83_1L,p83_1,lssT (by omega),cond_true,gd_y (by omega),gd_y (by rw [z8r];omega),hr,k2x,raw_w fail fu (by omega) _ z _ (uv_lt _) (by omega),addZ (by omega) (by omega),show ((i:Nat):Int) + 1=((i + 1:Nat):Int) by omega]
   rw [ih (i + 1) n _ (by omega) (by omega) (by rw [List.length_append,z0g];omega),List.drop_eq_getElem_cons hlt,List.append_assoc,← z1o,w6q]
 rw [p83,z8r]
 have:=loop l.length 0 fu z (by omega) (by omega) (by omega)
 simpa using this
theorem w2g {ρ:Type} (fail:ρ) (fu:Nat) (hf:11≤fu) (K:EL→ρ) (v:Int) (z:EL) (hz:z.length + 10≤35184372088832):p83 fail fu K z (List.take 1 [[.v (.int .i64 v)]])=K (z++encB (varB (uv v))):=by
 have:=num_w fail fu K [v] (by simp only [List.length_singleton];omega) z (by simp only [List.length_singleton];omega)
 simp only [numsB,List.flatMap_cons,List.flatMap_nil,List.append_nil] at this
 exact this
def txB (s:ByteArray):List UInt8:=varB s.size++s.data.toList
theorem z3t (s:ByteArray):s.data.toList.length=s.size:=Array.length_toList
theorem k2z {ρ:Type} (fail:ρ) (fu:Nat) (hf:10≤fu) (K:EL→ρ) (s:ByteArray) (z:EL) (hs:s.size < 1099511627776) (hz:z.length + 10 + s.size≤35184372088832):p87 fail fu K z (List.take s.size (encB s.data.toList))=K (z++encB (txB s)):=by
 have ht:List.take s.size (encB s.data.toList)=encB s.data.toList:=List.take_of_length_le (by rw [z0g,z3t];exact Nat.le_refl _)
 have h10:=z1y (show s.size < 2 ^ 64 by omega)
 rw [ht,p87,z0g,z3t,z6p _ (by omega),raw_w fail fu hf _ z _ (by omega) (by omega),gd_y (by rw [List.length_append,z0g];omega),List.append_assoc,← z1o]
 rfl
mutual
def Lv.enc:Lv→List UInt8
 | .mk k n l=>varB (uv k)++((if k=4 then varB (uv n) else [])++Lv.encs l)
def Lv.encs:List Lv→List UInt8
 | []=>[]
 | a :: l=>Lv.enc a++Lv.encs l
end
mutual
def Lv.sz:Lv→Nat
 | .mk _ _ l=>1 + Lv.szs l
def Lv.szs:List Lv→Nat
 | []=>0
 | a :: l=>1 + Lv.sz a + Lv.szs l
end
theorem Lv.szs_len:∀ l:List Lv,l.length≤Lv.szs l
 | []=>Nat.zero_le _
 | a :: l=>by have:=Lv.szs_len l;simp only [Lv.szs,List.length_cons];omega
mutual
theorem Lv.sz_enc:∀ l:Lv,l.sz + 1≤2 * l.enc.length
 | .mk k n l=>by
  have:=Lv.szs_enc l
  have h2:=w4w (uv k)
  simp only [Lv.sz,Lv.enc,List.length_append];omega
theorem Lv.szs_enc:∀ l:List Lv,Lv.szs l≤2 * (Lv.encs l).length
 | []=>Nat.zero_le _
 | a :: l=>by
  have:=Lv.sz_enc a
  have h2:=Lv.szs_enc l
  simp only [Lv.szs,Lv.encs,List.length_append];omega
end
theorem z4p {ρ:Type} (fail:ρ) (l:List Lv) (i:Nat) (h:i < l.length) (k:Int→Int→EL→ρ):z0n fail (List.getD (Lv.rows l) (((i:Nat):Int)).toNat []) k=k l[i].k l[i].n (Lv.rows l[i].args):=by
 rw [Int.toNat_natCast,Lv.rows_get h,Lv.row_eq];rfl
theorem k0s {ρ:Type} (fail:ρ) (fu:Nat) (K:EL→ρ) (s:(EL→ρ)→EL→Int→Int→EL→ρ) (l:List Lv) (B:Nat) (hs:∀ a ∈ l,∀ (K:EL→ρ) (z:EL),z.length + a.enc.length≤B→s K z a.k a.n (Lv.rows a.args)=K (z++encB a.enc)) :
  ∀ (r i n:Nat) (z:EL),l.length < 1099511627776→i + r=l.length→r < n→z.length + (Lv.encs (l.drop i)).length≤B→p70_1L fail fu s K (Lv.rows l) n z ((l.length:Nat):Int) ((i:Nat):Int)=K (z++encB (Lv.encs (l.drop i))):=by
 intro r
 induction r with
 | zero =>
  intro i n z hl hi hn hz
  obtain⟨n,rfl⟩:∃ m,n=m + 1:=⟨n - 1,by omega⟩
  rw [p70_1L,p70_1,lssF (by omega),cond_false,List.drop_eq_nil_of_le (by omega)]
  simp [Lv.encs]
 | succ r ih =>
  intro i n z hl hi hn hz
  obtain⟨n,rfl⟩:∃ m,n=m + 1:=⟨n - 1,by omega⟩
  have hlt:i < l.length:=by omega
  have hd:l.drop i=l[i] :: l.drop (i + 1):=List.drop_eq_getElem_cons hlt
  rw [hd] at hz ⊢
  simp only [Lv.encs,List.length_append] at hz ⊢
  rw [p70_1L,p70_1,lssT (by omega),cond_true,gd_y (by omega),gd_y (by rw [Lv.rows_len];omega),z4p fail l i hlt,hs _ (List.getElem_mem hlt) _ z (by omega),addZ (by omega) (by omega),show ((i:Nat):Int) + 1=((i + 1:Nat):Int) by omega]
  rw [ih (i + 1) n _ hl (by omega) (by omega) (by rw [List.length_append,z0g];omega),List.append_assoc,← z1o]
theorem Lv.szs_mem:∀ {l:List Lv} {a:Lv},a ∈ l→1 + a.sz≤Lv.szs l
 | b :: l,a,h=>by
  simp only [Lv.szs]
  rcases List.mem_cons.1 h with rfl | h
  ·omega
  ·have:=Lv.szs_mem h;omega
theorem k2e {ρ:Type} (fail:ρ):∀ (N:Nat) (l:Lv),l.sz≤N→∀ (fu:Nat) (K:EL→ρ) (z:EL),l.sz + 20≤fu→l.sz < 1099511627776→z.length + l.enc.length≤35184372088000→p70 fail fu K z l.k l.n (Lv.rows l.args)=K (z++encB l.enc):=by
 intro N
 induction N with
 | zero=>intro l h;cases l;simp [Lv.sz] at h
 | succ N ih =>
  intro l hN fu K z hf hsz hz
  obtain⟨k,n,l⟩:=l
  obtain⟨m,rfl⟩:∃ m,fu=m + 1:=⟨fu - 1,by omega⟩
  simp only [Lv.sz,Lv.enc,List.length_append] at hN hf hsz hz
  simp only [Lv.k,Lv.n,Lv.args,Lv.enc]
  have hl:=Lv.szs_len l
  rw [p70,p70_b]
  generalize hs:p70 fail m=s
  have h10:=z1y (uv_lt k)
  have h11:=z1y (uv_lt n)
  have loop:∀ y:EL,y.length + (Lv.encs l).length≤35184372088000→p70_2 fail m s K (Lv.rows l) y=K (y++encB (Lv.encs l)):=fun y hy=>by
   rw [p70_2,Lv.rows_len]
   have:=k0s fail m K s l 35184372088000 (fun a ha K z hz=>by
    have h3:=Lv.szs_mem ha
    rw [← hs];exact ih a (by omega) m K z (by omega) (by omega) hz) l.length 0 m y (by omega) (by omega) (by omega) (by simpa using hy)
   simpa using this
  rw [gd_y (by simp),w2g fail m (by omega) _ k z (by omega)]
  by_cases h4:k=4
  ·rw [if_pos h4] at hz ⊢
   rw [eqlT h4,cond_true,gd_y (by simp),w2g fail m (by omega) _ n _ (by rw [List.length_append,z0g];omega),loop _ (by simp only [List.length_append,z0g];omega)]
   simp [List.append_assoc]
  ·rw [if_neg h4] at hz ⊢
   rw [eqlF h4,cond_false,loop _ (by simp only [List.length_append,z0g];simp at hz;omega)]
   simp [List.append_assoc]
mutual
def Tm.enc:Tm→List UInt8
 | .mk k n s l a=>varB (uv k)++((if k=0 then varB (uv n) else if k=2 then txB s++varB l.length else [])++(Lv.encs l++Tm.encs a))
def Tm.encs:List Tm→List UInt8
 | []=>[]
 | a :: l=>Tm.enc a++Tm.encs l
end
mutual
def Tm.sz:Tm→Nat
 | .mk _ _ s l a=>1 + s.size + Lv.szs l + Tm.szs a
def Tm.szs:List Tm→Nat
 | []=>0
 | a :: l=>1 + Tm.sz a + Tm.szs l
end
theorem Tm.szs_len:∀ l:List Tm,l.length≤Tm.szs l
 | []=>Nat.zero_le _
 | a :: l=>by have:=Tm.szs_len l;simp only [Tm.szs,List.length_cons];omega
theorem Tm.szs_mem:∀ {l:List Tm} {a:Tm},a ∈ l→1 + a.sz≤Tm.szs l
 | b :: l,a,h=>by
  simp only [Tm.szs]
  rcases List.mem_cons.1 h with rfl | h
  ·omega
  ·have:=Tm.szs_mem h;omega
theorem z4i {ρ:Type} (fail:ρ) (l:List Tm) (i:Nat) (h:i < l.length) (k:Int→Int→ByteArray→EL→EL→ρ):z0i fail (List.getD (Tm.rows l) (((i:Nat):Int)).toNat []) k=k l[i].k l[i].n l[i].nm (Lv.rows l[i].ls) (Tm.rows l[i].args):=by
 rw [Int.toNat_natCast,Tm.rows_get h,Tm.row_eq];rfl
theorem k0i {ρ:Type} (fail:ρ) (fu:Nat) (K:EL→ρ) (s:(EL→ρ)→EL→Int→Int→ByteArray→EL→EL→ρ) (l:List Tm) (B:Nat) (hs:∀ a ∈ l,∀ (K:EL→ρ) (z:EL),z.length + a.enc.length≤B→s K z a.k a.n a.nm (Lv.rows a.ls) (Tm.rows a.args)=K (z++encB a.enc)) :
  ∀ (r i n:Nat) (z:EL),l.length < 1099511627776→i + r=l.length→r < n→z.length + (Tm.encs (l.drop i)).length≤B→p64_1L fail fu s K (Tm.rows l) n z ((l.length:Nat):Int) ((i:Nat):Int)=K (z++encB (Tm.encs (l.drop i))):=by
 intro r
 induction r with
 | zero =>
  intro i n z hl hi hn hz
  obtain⟨n,rfl⟩:∃ m,n=m + 1:=⟨n - 1,by omega⟩
  rw [p64_1L,p64_1,lssF (by omega),cond_false,List.drop_eq_nil_of_le (by omega)]
  simp [Tm.encs]
 | succ r ih =>
  intro i n z hl hi hn hz
  obtain⟨n,rfl⟩:∃ m,n=m + 1:=⟨n - 1,by omega⟩
  have hlt:i < l.length:=by omega
  have hd:l.drop i=l[i] :: l.drop (i + 1):=List.drop_eq_getElem_cons hlt
  rw [hd] at hz ⊢
  simp only [Tm.encs,List.length_append] at hz ⊢
  rw [p64_1L,p64_1,lssT (by omega),cond_true,gd_y (by omega),gd_y (by rw [Tm.rows_len];omega),z4i fail l i hlt,hs _ (List.getElem_mem hlt) _ z (by omega),addZ (by omega) (by omega),show ((i:Nat):Int) + 1=((i + 1:Nat):Int) by omega]
  rw [ih (i + 1) n _ hl (by omega) (by omega) (by rw [List.length_append,z0g];omega),List.append_assoc,← z1o]
theorem w6f {ρ:Type} (fail:ρ) (fu:Nat) (K:EL→ρ) (s:(EL→ρ)→EL→Int→Int→ByteArray→EL→EL→ρ) (l:List Lv) (A:EL) (hfu:Lv.szs l + 20≤fu) (hsz:Lv.szs l < 1099511627776) :
  ∀ (r i n:Nat) (z:EL),i + r=l.length→r < n→z.length + (Lv.encs (l.drop i)).length≤35184372088000→p64_2L fail fu s K (Lv.rows l) A n z ((l.length:Nat):Int) ((i:Nat):Int)=p64_1L fail fu s K A fu (z++encB (Lv.encs (l.drop i))) ((A.length:Nat):Int) 0:=by
 have hl:=Lv.szs_len l
 intro r
 induction r with
 | zero =>
  intro i n z hi hn hz
  obtain⟨n,rfl⟩:∃ m,n=m + 1:=⟨n - 1,by omega⟩
  rw [p64_2L,p64_2,lssF (by omega),cond_false,List.drop_eq_nil_of_le (by omega)]
  simp [Lv.encs]
 | succ r ih =>
  intro i n z hi hn hz
  obtain⟨n,rfl⟩:∃ m,n=m + 1:=⟨n - 1,by omega⟩
  have hlt:i < l.length:=by omega
  have hm:=Lv.szs_mem (List.getElem_mem hlt)
  have hd:l.drop i=l[i] :: l.drop (i + 1):=List.drop_eq_getElem_cons hlt
  rw [hd] at hz ⊢
  simp only [Lv.encs,List.length_append] at hz ⊢
  rw [p64_2L,p64_2,lssT (by omega),cond_true,gd_y (by omega),gd_y (by rw [Lv.rows_len];omega),z4p fail l i hlt,k2e fail _ l[i] (Nat.le_refl _) fu _ z (by omega) (by omega) (by omega),addZ (by omega) (by omega),show ((i:Nat):Int) + 1=((i + 1:Nat):Int) by omega]
  rw [ih (i + 1) n _ (by omega) (by omega) (by rw [List.length_append,z0g];omega),List.append_assoc,← z1o]
theorem k3a {ρ:Type} (fail:ρ):∀ (N:Nat) (l:Tm),l.sz≤N→∀ (fu:Nat) (K:EL→ρ) (z:EL),l.sz + 30≤fu→l.sz < 1099511627776→z.length + l.enc.length≤35184372087000→p64 fail fu K z l.k l.n l.nm (Lv.rows l.ls) (Tm.rows l.args)=K (z++encB l.enc):=by
 intro N
 induction N with
 | zero=>intro l h;cases l;simp [Tm.sz] at h
 | succ N ih =>
  intro t hN fu K z hf hsz hz
  obtain⟨k,n,sn,l,a⟩:=t
  obtain⟨m,rfl⟩:∃ m,fu=m + 1:=⟨fu - 1,by omega⟩
  simp only [Tm.sz,Tm.enc,List.length_append] at hN hf hsz hz
  simp only [Tm.k,Tm.n,Tm.nm,Tm.ls,Tm.args,Tm.enc]
  have hl:=Lv.szs_len l
  have ha:=Tm.szs_len a
  rw [p64,p64_b]
  generalize hs:p64 fail m=s
  have h10:=z1y (uv_lt k)
  have h11:=z1y (uv_lt n)
  have h12:=z1y (show l.length < 2 ^ 64 by omega)
  have loop:∀ y:EL,y.length + (Lv.encs l).length + (Tm.encs a).length≤35184372087000→p64_3 fail m s K (Lv.rows l) (Tm.rows a) y=K (y++encB (Lv.encs l++Tm.encs a)):=fun y hy=>by
   rw [p64_3,Lv.rows_len]
   have h1:=w6f fail m K s l (Tm.rows a) (by omega) (by omega) l.length 0 m y (by omega) (by omega) (by simp;omega)
   rw [show ((0:Nat):Int)=0 from rfl] at h1
   rw [h1,Tm.rows_len]
   have:=k0i fail m K s a 35184372087000 (fun b hb K z hz=>by
    have h3:=Tm.szs_mem hb
    rw [← hs];exact ih b (by omega) m K z (by omega) (by omega) hz) a.length 0 m (y++encB (Lv.encs l)) (by omega) (by omega) (by omega) (by simp;omega)
   rw [List.drop_zero] at this
   rw [List.drop_zero,z1o,← List.append_assoc]
   exact this
  rw [gd_y (by simp),w2g fail m (by omega) _ k z (by omega)]
  by_cases h0:k=0
  ·rw [if_pos h0] at hz ⊢
   rw [eqlT h0,cond_true,gd_y (by simp),w2g fail m (by omega) _ n _ (by rw [List.length_append,z0g];omega),loop _ (by simp only [List.length_append,z0g];omega)]
   simp [List.append_assoc]
  ·rw [if_neg h0] at hz ⊢
   rw [eqlF h0,cond_false]
   by_cases h2:k=2
   ·rw [if_pos h2] at hz ⊢
    simp only [txB,List.length_append,z3t] at hz
    have hg:uv ((l.length:Nat):Int)=l.length:=z5o _ (by omega)
    rw [eqlT h2,cond_true,gd_y (by rw [z0g,z3t];exact Nat.le_refl _),k2z fail m (by omega) _ sn _ (by omega) (by rw [List.length_append,z0g];omega),gd_y (by simp),Lv.rows_len,w2g fail m (by omega) _ _ _ (by simp only [txB,List.length_append,z0g,z3t];omega),hg,p64_4,
     loop _ (by simp only [txB,List.length_append,z0g,z3t];omega)]
    simp [List.append_assoc]
   ·rw [if_neg h2] at hz ⊢
    rw [eqlF h2,cond_false,p64_4,loop _ (by simp only [List.length_append,z0g];simp at hz;omega)]
    simp [List.append_assoc]
def p132b_1 {ρ:Type} (fail:ρ) (fu:Nat) (s_p132b:(Int→Int→EL→ρ)→Int→Int→EL→EL→ρ) (s_p101:(Int→Int→EL→ρ)→Int→Int→EL→ρ) (K0:Int→Int→EL→ρ) (rec1:EL→Int→ρ) (x0 x1:Int) (x2 x3 z8:EL) (z9:Int):ρ :=
 bif (z0a .lss z9 ((x2.length:Nat):Int)) then (gd ((0:Int)≤z9) fail (gd ((z9:Int) < (x2.length:Nat)) fail (z0n fail (List.getD x2 ((z9:Int).toNat) []) (fun c10 c11 c12=>s_p132b (fun y13 y14 y15=>gd (1≤[[(CV.v (.int .i64 y13)),(CV.v (.int .i64 y14)),(CV.sl 3 y15 none)]].length) fail (gd ((z8.length + (List.take 1 [[(CV.v (.int .i64 y13)),(CV.v (.int .i64 y14)),(CV.sl 3 y15 none)]]).length) * 40≤35184372088832) fail (rec1 (z8++(List.take 1 [[(CV.v (.int .i64 y13)),(CV.v (.int .i64 y14)),(CV.sl 3 y15 none)]])) (z0d .add .i64 z9 1)))) c10 c11 c12 x3)))) else (K0 x0 x1 z8)
def p132b_1L {ρ:Type} (fail:ρ) (fu:Nat) (s_p132b:(Int→Int→EL→ρ)→Int→Int→EL→EL→ρ) (s_p101:(Int→Int→EL→ρ)→Int→Int→EL→ρ) (K0:Int→Int→EL→ρ) (x0 x1:Int) (x2 x3:EL):Nat→EL→Int→ρ
 | 0,_,_=>fail
 | n + 1,z8,z9=>p132b_1 fail fu s_p132b s_p101 K0 (p132b_1L fail fu s_p132b s_p101 K0 x0 x1 x2 x3 n) x0 x1 x2 x3 z8 z9
def p132b_2 {ρ:Type} (fail:ρ) (fu:Nat) (s_p132b:(Int→Int→EL→ρ)→Int→Int→EL→EL→ρ) (s_p101:(Int→Int→EL→ρ)→Int→Int→EL→ρ) (K0:Int→Int→EL→ρ) (x0 x1:Int) (x2 x3:EL) (j1:Bool):ρ :=
 bif j1 then (gd ((0:Int)≤x1) fail (gd ((x1:Int) < (x3.length:Nat)) fail (z0n fail (List.getD x3 ((x1:Int).toNat) []) (fun c2 c3 c4=>s_p101 (fun y5 y6 y7=>K0 y5 y6 y7) c2 c3 c4)))) else (p132b_1L fail fu s_p132b s_p101 K0 x0 x1 x2 x3 fu nilE 0)
def p132b_b {ρ:Type} (fail:ρ) (fu:Nat) (s_p132b:(Int→Int→EL→ρ)→Int→Int→EL→EL→ρ) (s_p101:(Int→Int→EL→ρ)→Int→Int→EL→ρ) (K0:Int→Int→EL→ρ) (x0 x1:Int) (x2 x3:EL):ρ :=
 bif (z0a .eql x0 4) then (bif (z0a .geq x1 0) then (p132b_2 fail fu s_p132b s_p101 K0 x0 x1 x2 x3 (z0a .lss x1 ((x3.length:Nat):Int))) else (p132b_2 fail fu s_p132b s_p101 K0 x0 x1 x2 x3 false)) else (p132b_2 fail fu s_p132b s_p101 K0 x0 x1 x2 x3 false)
def p101_b {ρ:Type} (fail:ρ) (fu:Nat) (s_p132b:(Int→Int→EL→ρ)→Int→Int→EL→EL→ρ) (s_p101:(Int→Int→EL→ρ)→Int→Int→EL→ρ) (K0:Int→Int→EL→ρ) (x0 x1:Int) (x2:EL):ρ :=
 s_p132b (fun y1 y2 y3=>K0 y1 y2 y3) x0 x1 x2 nilE
mutual
def p132b {ρ:Type} (fail:ρ):Nat→(Int→Int→EL→ρ)→Int→Int→EL→EL→ρ
 | 0,_,_,_,_,_=>fail
 | n + 1,K0,x0,x1,x2,x3=>p132b_b fail n (p132b fail n) (p101 fail n) K0 x0 x1 x2 x3
def p101 {ρ:Type} (fail:ρ):Nat→(Int→Int→EL→ρ)→Int→Int→EL→ρ
 | 0,_,_,_,_=>fail
 | n + 1,K0,x0,x1,x2=>p101_b fail n (p132b fail n) (p101 fail n) K0 x0 x1 x2
end
def p135_1 {ρ:Type} (fail:ρ) (fu:Nat) (K0:Int→Int→ByteArray→EL→EL→ρ) (rec1:EL→Int→ρ) (x0 x1:Int) (x2:ByteArray) (x3 z1:EL) (z2:Int):ρ :=
 bif (z0a .lss z2 ((x3.length:Nat):Int)) then (gd ((0:Int)≤z2) fail (gd ((z2:Int) < (x3.length:Nat)) fail (z0n fail (List.getD x3 ((z2:Int).toNat) []) (fun c3 c4 c5=>p101 fail fu (fun y6 y7 y8=>gd (1≤[[(CV.v (.int .i64 y6)),(CV.v (.int .i64 y7)),(CV.sl 3 y8 none)]].length) fail (gd ((z1.length + (List.take 1 [[(CV.v (.int .i64 y6)),(CV.v (.int .i64 y7)),(CV.sl 3 y8 none)]]).length) * 40≤35184372088832) fail (rec1 (z1++(List.take 1 [[(CV.v (.int .i64 y6)),(CV.v (.int .i64 y7)),(CV.sl 3 y8 none)]])) (z0d .add .i64 z2 1)))) c3 c4 c5)))) else (K0 x0 x1 x2 z1 nilE)
def p135_1L {ρ:Type} (fail:ρ) (fu:Nat) (K0:Int→Int→ByteArray→EL→EL→ρ) (x0 x1:Int) (x2:ByteArray) (x3:EL):Nat→EL→Int→ρ
 | 0,_,_=>fail
 | n + 1,z1,z2=>p135_1 fail fu K0 (p135_1L fail fu K0 x0 x1 x2 x3 n) x0 x1 x2 x3 z1 z2
def p135 {ρ:Type} (fail:ρ) (fu:Nat) (K0:Int→Int→ByteArray→EL→EL→ρ) (x0 x1:Int) (x2:ByteArray) (x3 x4:EL):ρ :=
 p135_1L fail fu K0 x0 x1 x2 x3 fu nilE 0
def p142_1 {ρ:Type} (fail:ρ) (fu:Nat) (K0:Int→ρ) (j1:Bool):ρ :=
 bif j1 then (K0 1) else (K0 0)
def p142 {ρ:Type} (fail:ρ) (fu:Nat) (K0:Int→ρ) (x0 x1:Int):ρ :=
 bif (z0a .eql x0 4) then (bif (z0a .eql x1 1) then (p142_1 fail fu K0 true) else (bif (z0a .eql x0 6) then (p142_1 fail fu K0 (z0a .eql x1 2)) else (p142_1 fail fu K0 false))) else (bif (z0a .eql x0 5) then (bif (z0a .eql x1 1) then (p142_1 fail fu K0 true) else (bif (z0a .eql x0 6) then (p142_1 fail fu K0 (z0a .eql x1 2)) else (p142_1 fail fu K0 false))) else (bif (z0a .eql x0 6) then (p142_1 fail fu K0 (z0a .eql x1 2)) else (p142_1 fail fu K0 false)))
def p131_1 {ρ:Type} (fail:ρ) (fu:Nat) (s_p131:(Int→Int→ByteArray→EL→EL→ρ)→Int→Int→ByteArray→EL→EL→Int→Int→ρ) (K0:Int→Int→ByteArray→EL→EL→ρ) (rec1:EL→Int→ρ) (x0:Int) (x4:EL) (x5 x6 y1:Int) (y3:ByteArray) (y4:EL) (j7:Int) (z8:EL) (z9:Int):ρ :=
 bif (z0a .lss z9 ((x4.length:Nat):Int)) then (gd ((0:Int)≤z9) fail (gd ((z9:Int) < (x4.length:Nat)) fail (z0i fail (List.getD x4 ((z9:Int).toNat) []) (fun c10 c11 c12 c13 c14=>p142 fail fu (fun y15=>s_p131 (fun y16 y17 y18 y19 y20=>gd (1≤[[(CV.v (.int .i64 y16)),(CV.v (.int .i64 y17)),(CV.v (.string y18)),(CV.sl 3 y19 none),(CV.sl 5 y20 none)]].length) fail (gd ((z8.length + (List.take 1 [[(CV.v (.int .i64 y16)),(CV.v (.int .i64 y17)),(CV.v (.string y18)),(CV.sl 3 y19 none),(CV.sl 5 y20 none)]]).length) * 80≤35184372088832) fail (rec1 (z8++(List.take 1 [[(CV.v (.int .i64 y16)),(CV.v (.int .i64 y17)),(CV.v (.string y18)),(CV.sl 3 y19 none),(CV.sl 5 y20 none)]])) (z0d .add .i64 z9 1)))) c10 c11 c12 c13 c14 x5 (z0d .add .i64 x6 y15)) x0 z9)))) else (K0 y1 j7 y3 y4 z8)
def p131_1L {ρ:Type} (fail:ρ) (fu:Nat) (s_p131:(Int→Int→ByteArray→EL→EL→ρ)→Int→Int→ByteArray→EL→EL→Int→Int→ρ) (K0:Int→Int→ByteArray→EL→EL→ρ) (x0:Int) (x4:EL) (x5 x6 y1:Int) (y3:ByteArray) (y4:EL) (j7:Int):Nat→EL→Int→ρ
 | 0,_,_=>fail
 | n + 1,z8,z9=>p131_1 fail fu s_p131 K0 (p131_1L fail fu s_p131 K0 x0 x4 x5 x6 y1 y3 y4 j7 n) x0 x4 x5 x6 y1 y3 y4 j7 z8 z9
def p131_2 {ρ:Type} (fail:ρ) (fu:Nat) (s_p131:(Int→Int→ByteArray→EL→EL→ρ)→Int→Int→ByteArray→EL→EL→Int→Int→ρ) (K0:Int→Int→ByteArray→EL→EL→ρ) (x0:Int) (x4:EL) (x5 x6 y1:Int) (y3:ByteArray) (y4 y5:EL) (j7:Int):ρ :=
 p131_1L fail fu s_p131 K0 x0 x4 x5 x6 y1 y3 y4 j7 fu y5 0
def p131_3 {ρ:Type} (fail:ρ) (fu:Nat) (s_p131:(Int→Int→ByteArray→EL→EL→ρ)→Int→Int→ByteArray→EL→EL→Int→Int→ρ) (K0:Int→Int→ByteArray→EL→EL→ρ) (x0 x1:Int) (x4:EL) (x5 x6 y1 y2:Int) (y3:ByteArray) (y4 y5:EL) (j6:Bool):ρ :=
 bif j6 then (p131_2 fail fu s_p131 K0 x0 x4 x5 x6 y1 y3 y4 y5 (z0d .add .i64 x1 x5)) else (p131_2 fail fu s_p131 K0 x0 x4 x5 x6 y1 y3 y4 y5 y2)
def p131_b {ρ:Type} (fail:ρ) (fu:Nat) (s_p131:(Int→Int→ByteArray→EL→EL→ρ)→Int→Int→ByteArray→EL→EL→Int→Int→ρ) (K0:Int→Int→ByteArray→EL→EL→ρ) (x0 x1:Int) (x2:ByteArray) (x3 x4:EL) (x5 x6:Int):ρ :=
 p135 fail fu (fun y1 y2 y3 y4 y5=>bif (z0a .eql x0 0) then (p131_3 fail fu s_p131 K0 x0 x1 x4 x5 x6 y1 y2 y3 y4 y5 (z0a .geq x1 x6)) else (p131_3 fail fu s_p131 K0 x0 x1 x4 x5 x6 y1 y2 y3 y4 y5 false)) x0 x1 x2 x3 x4
def p131 {ρ:Type} (fail:ρ):Nat→(Int→Int→ByteArray→EL→EL→ρ)→Int→Int→ByteArray→EL→EL→Int→Int→ρ
 | 0,_,_,_,_,_,_,_,_=>fail
 | n + 1,K0,x0,x1,x2,x3,x4,x5,x6=>p131_b fail n (p131 fail n) K0 x0 x1 x2 x3 x4 x5 x6
def p100 {ρ:Type} (fail:ρ) (fu:Nat) (K0:Int→Int→ByteArray→EL→EL→ρ) (x0 x1:Int) (x2:ByteArray) (x3 x4:EL):ρ :=
 p131 fail fu (fun y1 y2 y3 y4 y5=>K0 y1 y2 y3 y4 y5) x0 x1 x2 x3 x4 0 0
def p68 {ρ:Type} (fail:ρ) (fu:Nat) (K0:Int→Int→ByteArray→EL→EL→ρ) (x0 x1:Int) (x2:ByteArray) (x3 x4:EL) (x5 x6:Int) (x7:ByteArray) (x8 x9:EL):ρ :=
 p100 fail fu (fun y1 y2 y3 y4 y5=>gd (2≤[[(CV.v (.int .i64 x0)),(CV.v (.int .i64 x1)),(CV.v (.string x2)),(CV.sl 3 x3 none),(CV.sl 5 x4 none)],[(CV.v (.int .i64 y1)),(CV.v (.int .i64 y2)),(CV.v (.string y3)),(CV.sl 3 y4 none),(CV.sl 5 y5 none)]].length) fail (K0 3 0 ⟨#[]⟩ nilE (List.take 2 [[(CV.v (.int .i64 x0)),(CV.v (.int .i64 x1)),(CV.v (.string x2)),(CV.sl 3 x3 none),(CV.sl 5 x4 none)],[(CV.v (.int .i64 y1)),(CV.v (.int .i64 y2)),(CV.v (.string y3)),(CV.sl 3 y4 none),(CV.sl 5 y5 none)]]))) x5 x6 x7 x8 x9
def p133_1 {ρ:Type} (fail:ρ) (fu:Nat) (K0:Int→Int→ByteArray→EL→EL→ρ) (rec1:Int→Int→ByteArray→EL→EL→Int→ρ) (x5:EL) (z6 z7:Int) (z8:ByteArray) (z9 z10:EL) (z11:Int):ρ :=
 bif (z0a .lss z11 ((x5.length:Nat):Int)) then (gd ((0:Int)≤z11) fail (gd ((z11:Int) < (x5.length:Nat)) fail (z0i fail (List.getD x5 ((z11:Int).toNat) []) (fun c12 c13 c14 c15 c16=>p68 fail fu (fun y17 y18 y19 y20 y21=>rec1 y17 y18 y19 y20 y21 (z0d .add .i64 z11 1)) z6 z7 z8 z9 z10 c12 c13 c14 c15 c16)))) else (K0 z6 z7 z8 z9 z10)
def p133_1L {ρ:Type} (fail:ρ) (fu:Nat) (K0:Int→Int→ByteArray→EL→EL→ρ) (x5:EL):Nat→Int→Int→ByteArray→EL→EL→Int→ρ
 | 0,_,_,_,_,_,_=>fail
 | n + 1,z6,z7,z8,z9,z10,z11=>p133_1 fail fu K0 (p133_1L fail fu K0 x5 n) x5 z6 z7 z8 z9 z10 z11
def p133 {ρ:Type} (fail:ρ) (fu:Nat) (K0:Int→Int→ByteArray→EL→EL→ρ) (x0 x1:Int) (x2:ByteArray) (x3 x4 x5:EL):ρ :=
 p100 fail fu (fun y1 y2 y3 y4 y5=>p133_1L fail fu K0 x5 fu y1 y2 y3 y4 y5 0) x0 x1 x2 x3 x4
def p131b_1 {ρ:Type} (fail:ρ) (fu:Nat) (K0:Int→Int→ByteArray→EL→EL→ρ) (rec1:EL→Int→ρ) (x0:Int) (x4:EL) (x5 x6 y1:Int) (y3:ByteArray) (y4:EL) (j7:Int) (z8:EL) (z9:Int):ρ :=
 bif (z0a .lss z9 ((x4.length:Nat):Int)) then (gd ((0:Int)≤z9) fail (gd ((z9:Int) < (x4.length:Nat)) fail (z0i fail (List.getD x4 ((z9:Int).toNat) []) (fun c10 c11 c12 c13 c14=>p142 fail fu (fun y15=>p131 fail fu (fun y16 y17 y18 y19 y20=>gd (1≤[[(CV.v (.int .i64 y16)),(CV.v (.int .i64 y17)),(CV.v (.string y18)),(CV.sl 3 y19 none),(CV.sl 5 y20 none)]].length) fail (gd ((z8.length + (List.take 1 [[(CV.v (.int .i64 y16)),(CV.v (.int .i64 y17)),(CV.v (.string y18)),(CV.sl 3 y19 none),(CV.sl 5 y20 none)]]).length) * 80≤35184372088832) fail (rec1 (z8++(List.take 1 [[(CV.v (.int .i64 y16)),(CV.v (.int .i64 y17)),(CV.v (.string y18)),(CV.sl 3 y19 none),(CV.sl 5 y20 none)]])) (z0d .add .i64 z9 1)))) c10 c11 c12 c13 c14 x5 (z0d .add .i64 x6 y15)) x0 z9)))) else (K0 y1 j7 y3 y4 z8)
def p131b_1L {ρ:Type} (fail:ρ) (fu:Nat) (K0:Int→Int→ByteArray→EL→EL→ρ) (x0:Int) (x4:EL) (x5 x6 y1:Int) (y3:ByteArray) (y4:EL) (j7:Int):Nat→EL→Int→ρ
 | 0,_,_=>fail
 | n + 1,z8,z9=>p131b_1 fail fu K0 (p131b_1L fail fu K0 x0 x4 x5 x6 y1 y3 y4 j7 n) x0 x4 x5 x6 y1 y3 y4 j7 z8 z9
def p131b_2 {ρ:Type} (fail:ρ) (fu:Nat) (K0:Int→Int→ByteArray→EL→EL→ρ) (x0:Int) (x4:EL) (x5 x6 y1:Int) (y3:ByteArray) (y4 y5:EL) (j7:Int):ρ :=
 p131b_1L fail fu K0 x0 x4 x5 x6 y1 y3 y4 j7 fu y5 0
def p131b_3 {ρ:Type} (fail:ρ) (fu:Nat) (K0:Int→Int→ByteArray→EL→EL→ρ) (x0 x1:Int) (x4:EL) (x5 x6 y1 y2:Int) (y3:ByteArray) (y4 y5:EL) (j6:Bool):ρ :=
 bif j6 then (p131b_2 fail fu K0 x0 x4 x5 x6 y1 y3 y4 y5 (z0d .add .i64 x1 x5)) else (p131b_2 fail fu K0 x0 x4 x5 x6 y1 y3 y4 y5 y2)
def p131b {ρ:Type} (fail:ρ) (fu:Nat) (K0:Int→Int→ByteArray→EL→EL→ρ) (x0 x1:Int) (x2:ByteArray) (x3 x4:EL) (x5 x6:Int):ρ :=
 p135 fail fu (fun y1 y2 y3 y4 y5=>bif (z0a .eql x0 0) then (p131b_3 fail fu K0 x0 x1 x4 x5 x6 y1 y2 y3 y4 y5 (z0a .geq x1 x6)) else (p131b_3 fail fu K0 x0 x1 x4 x5 x6 y1 y2 y3 y4 y5 false)) x0 x1 x2 x3 x4
def p100b {ρ:Type} (fail:ρ) (fu:Nat) (K0:Int→Int→ByteArray→EL→EL→ρ) (x0 x1:Int) (x2:ByteArray) (x3 x4:EL):ρ :=
 p131b fail fu (fun y1 y2 y3 y4 y5=>K0 y1 y2 y3 y4 y5) x0 x1 x2 x3 x4 0 0
def p106 {ρ:Type} (fail:ρ) (fu:Nat) (K0:Int→Int→ByteArray→EL→EL→ρ) (x0 x1:Int) (x2:ByteArray) (x3 x4:EL) (x5 x6:Int):ρ :=
 p131 fail fu (fun y1 y2 y3 y4 y5=>K0 y1 y2 y3 y4 y5) x0 x1 x2 x3 x4 (if 1073741824 < (if 0 > x5 then 0 else x5) then 1073741824 else (if 0 > x5 then 0 else x5)) (if 1073741824 < (if 0 > x6 then 0 else x6) then 1073741824 else (if 0 > x6 then 0 else x6))
def p103 {ρ:Type} (fail:ρ) (fu:Nat) (K0:Int→Int→ByteArray→EL→EL→ρ) (x0 x1:Int) (x2:ByteArray) (x3 x4:EL) (x5 x6:Int) (x7:ByteArray) (x8 x9:EL):ρ :=
 p100 fail fu (fun y1 y2 y3 y4 y5=>gd (2≤[[(CV.v (.int .i64 y1)),(CV.v (.int .i64 y2)),(CV.v (.string y3)),(CV.sl 3 y4 none),(CV.sl 5 y5 none)],[(CV.v (.int .i64 x5)),(CV.v (.int .i64 x6)),(CV.v (.string x7)),(CV.sl 3 x8 none),(CV.sl 5 x9 none)]].length) fail (K0 4 0 ⟨#[]⟩ nilE (List.take 2 [[(CV.v (.int .i64 y1)),(CV.v (.int .i64 y2)),(CV.v (.string y3)),(CV.sl 3 y4 none),(CV.sl 5 y5 none)],[(CV.v (.int .i64 x5)),(CV.v (.int .i64 x6)),(CV.v (.string x7)),(CV.sl 3 x8 none),(CV.sl 5 x9 none)]]))) x0 x1 x2 x3 x4
def p48 {ρ:Type} (fail:ρ) (fu:Nat) (K0:Int→Int→ByteArray→EL→EL→ρ) (x0 x1:Int) (x2:ByteArray) (x3 x4:EL) (x5 x6:Int) (x7:ByteArray) (x8 x9:EL):ρ :=
 p100 fail fu (fun y1 y2 y3 y4 y5=>gd (2≤[[(CV.v (.int .i64 y1)),(CV.v (.int .i64 y2)),(CV.v (.string y3)),(CV.sl 3 y4 none),(CV.sl 5 y5 none)],[(CV.v (.int .i64 x5)),(CV.v (.int .i64 x6)),(CV.v (.string x7)),(CV.sl 3 x8 none),(CV.sl 5 x9 none)]].length) fail (K0 5 0 ⟨#[]⟩ nilE (List.take 2 [[(CV.v (.int .i64 y1)),(CV.v (.int .i64 y2)),(CV.v (.string y3)),(CV.sl 3 y4 none),(CV.sl 5 y5 none)],[(CV.v (.int .i64 x5)),(CV.v (.int .i64 x6)),(CV.v (.string x7)),(CV.sl 3 x8 none),(CV.sl 5 x9 none)]]))) x0 x1 x2 x3 x4
def p107 {ρ:Type} (fail:ρ) (fu:Nat) (K0:Int→Int→ByteArray→EL→EL→ρ) (x0:ByteArray) (x1:EL):ρ :=
 p135 fail fu (fun y1 y2 y3 y4 y5=>K0 y1 y2 y3 y4 y5) 2 0 x0 x1 nilE
def p49 {ρ:Type} (fail:ρ) (fu:Nat) (K0:Int→Int→ByteArray→EL→EL→ρ) (x0 x1:Int) (x2:EL):ρ :=
 p101 fail fu (fun y1 y2 y3=>gd (1≤[[(CV.v (.int .i64 y1)),(CV.v (.int .i64 y2)),(CV.sl 3 y3 none)]].length) fail (K0 1 0 ⟨#[]⟩ (List.take 1 [[(CV.v (.int .i64 y1)),(CV.v (.int .i64 y2)),(CV.sl 3 y3 none)]]) nilE)) x0 x1 x2
mutual
def Lv.thin:Lv→Prop
 | .mk _ _ l=>l.length≤1000∧Lv.thins l
def Lv.thins:List Lv→Prop
 | []=>True
 | a :: l=>a.thin∧Lv.thins l
end
mutual
def Tm.thin:Tm→Prop
 | .mk _ _ _ ls l=>(ls.length≤1000∧Lv.thins ls)∧l.length≤1000∧Tm.thins l
def Tm.thins:List Tm→Prop
 | []=>True
 | a :: l=>a.thin∧Tm.thins l
end
theorem Lv.thins_iff:∀ {l:List Lv},Lv.thins l ↔ ∀ a ∈ l,a.thin
 | []=>by simp [Lv.thins]
 | b :: l=>by rw [Lv.thins,Lv.thins_iff];simp
theorem Tm.thins_iff:∀ {l:List Tm},Tm.thins l ↔ ∀ a ∈ l,a.thin
 | []=>by simp [Tm.thins]
 | b :: l=>by rw [Tm.thins,Tm.thins_iff];simp
theorem z7n (l:Lv):List.take 1 [[CV.v (.int .i64 l.k),CV.v (.int .i64 l.n),CV.sl 3 (Lv.rows l.args) none]]=Lv.rows [l]:=by rw [Lv.rows,Lv.rows,Lv.row_eq];rfl
theorem w5n (l m:Lv):List.take 2 [[CV.v (.int .i64 l.k),CV.v (.int .i64 l.n),CV.sl 3 (Lv.rows l.args) none],[CV.v (.int .i64 m.k),CV.v (.int .i64 m.n),CV.sl 3 (Lv.rows m.args) none]]=Lv.rows [l,m]:=by rw [Lv.rows,Lv.rows,Lv.rows,Lv.row_eq,Lv.row_eq];rfl
theorem z2g (t:Tm):List.take 1 [[CV.v (.int .i64 t.k),CV.v (.int .i64 t.n),CV.v (.string t.nm),CV.sl 3 (Lv.rows t.ls) none,CV.sl 5 (Tm.rows t.args) none]]=Tm.rows [t]:=by rw [Tm.rows,Tm.rows,Tm.row_eq];rfl
theorem z1z (t u:Tm):List.take 2 [[CV.v (.int .i64 t.k),CV.v (.int .i64 t.n),CV.v (.string t.nm),CV.sl 3 (Lv.rows t.ls) none,CV.sl 5 (Tm.rows t.args) none],[CV.v (.int .i64 u.k),CV.v (.int .i64 u.n),CV.v (.string u.nm),CV.sl 3 (Lv.rows u.ls) none,CV.sl 5 (Tm.rows u.args) none]]=Tm.rows [t,u]:=by rw [Tm.rows,Tm.rows,Tm.rows,Tm.row_eq,Tm.row_eq];rfl
theorem w0e (t u v:Tm):List.take 3 [[CV.v (.int .i64 t.k),CV.v (.int .i64 t.n),CV.v (.string t.nm),CV.sl 3 (Lv.rows t.ls) none,CV.sl 5 (Tm.rows t.args) none],[CV.v (.int .i64 u.k),CV.v (.int .i64 u.n),CV.v (.string u.nm),CV.sl 3 (Lv.rows u.ls) none,CV.sl 5 (Tm.rows u.args) none],[CV.v (.int .i64 v.k),CV.v (.int .i64 v.n),CV.v (.string v.nm),CV.sl 3 (Lv.rows v.ls) none,CV.sl 5 (Tm.rows v.args) none]]=Tm.rows [t,u,v]:=by rw [Tm.rows,Tm.rows,Tm.rows,Tm.rows,Tm.row_eq,Tm.row_eq,Tm.row_eq];rfl
theorem w5a (t u v w:Tm):List.take 4 [[CV.v (.int .i64 t.k),CV.v (.int .i64 t.n),CV.v (.string t.nm),CV.sl 3 (Lv.rows t.ls) none,CV.sl 5 (Tm.rows t.args) none],[CV.v (.int .i64 u.k),CV.v (.int .i64 u.n),CV.v (.string u.nm),CV.sl 3 (Lv.rows u.ls) none,CV.sl 5 (Tm.rows u.args) none],[CV.v (.int .i64 v.k),CV.v (.int .i64 v.n),CV.v (.string v.nm),CV.sl 3 (Lv.rows v.ls) none,CV.sl 5 (Tm.rows v.args) none],[CV.v (.int .i64 w.k),CV.v (.int .i64 w.n),CV.v (.string w.nm),CV.sl 3 (Lv.rows w.ls) none,CV.sl 5 (Tm.rows w.args) none]]=Tm.rows [t,u,v,w]:=by rw [Tm.rows,Tm.rows,Tm.rows,Tm.rows,Tm.rows,Tm.row_eq,Tm.row_eq,Tm.row_eq,Tm.row_eq];rfl
section
variable {ρ:Type} (fail:ρ)
theorem w8t:∀ (N:Nat) (l:Lv),l.sz≤N→l.thin→∀ (fu:Nat) (K:Int→Int→EL→ρ),l.sz + 10≤fu→p132b fail fu K l.k l.n (Lv.rows l.args) nilE=K l.k l.n (Lv.rows l.args):=by
 intro N
 induction N with
 | zero=>intro l h;cases l;simp [Lv.sz] at h
 | succ N ih =>
  intro l hN ht fu K hf
  obtain⟨k,n,l⟩:=l
  obtain⟨m,rfl⟩:∃ m,fu=m + 1:=⟨fu - 1,by omega⟩
  simp only [Lv.sz] at hN hf
  simp only [Lv.thin] at ht
  obtain⟨hl,ht⟩:=ht
  have hlz:=Lv.szs_len l
  have loop:∀ (r q i:Nat),i + r=l.length→r < q→p132b_1L fail m (p132b fail m) (p101 fail m) K k n (Lv.rows l) nilE q (Lv.rows (l.take i)) ((i:Nat):Int)=K k n (Lv.rows l):=by
   intro r
   induction r with
   | zero =>
    intro q i hi hq
    obtain⟨q,rfl⟩:∃ z,q=z + 1:=⟨q - 1,by omega⟩
    rw [p132b_1L,p132b_1,Lv.rows_len,lssF (by omega),cond_false,List.take_of_length_le (by omega)]
   | succ r ihr =>
    intro q i hi hq
    obtain⟨q,rfl⟩:∃ z,q=z + 1:=⟨q - 1,by omega⟩
    have hlt:i < l.length:=by omega
    have hm:=Lv.szs_mem (List.getElem_mem hlt)
    rw [p132b_1L,p132b_1,Lv.rows_len,lssT (by omega),cond_true,gd_y (by omega),gd_y (by omega),z4p fail l i hlt,ih l[i] (by omega) (Lv.thins_iff.1 ht _ (List.getElem_mem hlt)) m _ (by omega),gd_y (by simp),z7n,Lv.rows_len,Lv.rows_len,List.length_take,gd_y (by simp;omega),← Lv.rows_append,addZ (by omega) (by omega),show ((i:Nat):Int) + 1=((i + 1:Nat):Int) by omega,
     show l.take i++[l[i]]=l.take (i + 1) from by rw [List.take_succ_eq_append_getElem hlt]]
    exact ihr q (i + 1) (by omega) (by omega)
  have h0:=loop l.length m 0 (by omega) (by omega)
  have hj:∀ j:Bool,j=false→p132b_2 fail m (p132b fail m) (p101 fail m) K k n (Lv.rows l) nilE j=K k n (Lv.rows l):=fun j hj=>by
   subst hj;rw [p132b_2,cond_false];exact h0
  have hb:p132b_b fail m (p132b fail m) (p101 fail m) K k n (Lv.rows l) nilE=K k n (Lv.rows l):=by
   rw [p132b_b]
   cases z0a .eql k 4 with
   | false=>rw [cond_false,hj _ rfl]
   | true =>
    rw [cond_true]
    cases hg:z0a .geq n 0 with
    | false=>rw [cond_false,hj _ rfl]
    | true =>
     have hn:0≤n:=of_decide_eq_true hg
     rw [cond_true,hj _ (lssF (by show ((0:Nat):Int)≤n;omega))]
  rw [p132b];exact hb
theorem z2f (l:Lv) (ht:l.thin) (fu:Nat) (K:Int→Int→EL→ρ) (hf:l.sz + 20≤fu):p101 fail fu K l.k l.n (Lv.rows l.args)=K l.k l.n (Lv.rows l.args):=by
 obtain⟨m,rfl⟩:∃ m,fu=m + 1:=⟨fu - 1,by omega⟩
 rw [p101,p101_b,w8t fail _ l (Nat.le_refl _) ht m _ (by omega)]
theorem z8l (t:Tm) (ht:t.thin) (fu:Nat) (K:Int→Int→ByteArray→EL→EL→ρ) (hf:t.sz + 30≤fu) (A:EL):p135 fail fu K t.k t.n t.nm (Lv.rows t.ls) A=K t.k t.n t.nm (Lv.rows t.ls) nilE:=by
 obtain⟨k,n,s,l,a⟩:=t
 simp only [Tm.thin] at ht
 simp only [Tm.sz] at hf
 obtain⟨⟨hl,ht⟩,_⟩:=ht
 have hlz:=Lv.szs_len l
 have loop:∀ (r q i:Nat),i + r=l.length→r < q→p135_1L fail fu K k n s (Lv.rows l) q (Lv.rows (l.take i)) ((i:Nat):Int)=K k n s (Lv.rows l) nilE:=by
  intro r
  induction r with
  | zero =>
   intro q i hi hq
   obtain⟨q,rfl⟩:∃ z,q=z + 1:=⟨q - 1,by omega⟩
   rw [p135_1L,p135_1,Lv.rows_len,lssF (by omega),cond_false,List.take_of_length_le (by omega)]
  | succ r ihr =>
   intro q i hi hq
   obtain⟨q,rfl⟩:∃ z,q=z + 1:=⟨q - 1,by omega⟩
   have hlt:i < l.length:=by omega
   have hm:=Lv.szs_mem (List.getElem_mem hlt)
   rw [p135_1L,p135_1,Lv.rows_len,lssT (by omega),cond_true,gd_y (by omega),gd_y (by omega),z4p fail l i hlt,z2f fail l[i] (Lv.thins_iff.1 ht _ (List.getElem_mem hlt)) fu _ (by omega),gd_y (by simp),z7n,Lv.rows_len,Lv.rows_len,List.length_take,gd_y (by simp;omega),← Lv.rows_append,addZ (by omega) (by omega),show ((i:Nat):Int) + 1=((i + 1:Nat):Int) by omega,
    show l.take i++[l[i]]=l.take (i + 1) from by rw [List.take_succ_eq_append_getElem hlt]]
   exact ihr q (i + 1) (by omega) (by omega)
 have h0:=loop l.length fu 0 (by omega) (by omega)
 rw [p135];exact h0
theorem w9t (fu:Nat) (a b:Int):∃ c:Int,∀ K:Int→ρ,p142 fail fu K a b=K c :=
 ⟨p142 (ρ:=Int) 0 0 (fun c=>c) a b,fun K=>by
  cases h1:z0a .eql a 4<;>cases h2:z0a .eql b 1<;>cases h3:z0a .eql a 6<;>cases h4:z0a .eql b 2<;>cases h5:z0a .eql a 5 <;>
   simp [p142,p142_1,h1,h2,h3,h4,h5]⟩
theorem w0s:∀ (N:Nat) (t:Tm),t.sz≤N→t.thin→∀ (by_ from_:Int),∃ t':Tm,(t'.thin∧t'.args.length=t.args.length)∧t'.sz=t.sz∧∀ (fu:Nat) (K:Int→Int→ByteArray→EL→EL→ρ),t.sz + 60≤fu →
  p131 fail fu K t.k t.n t.nm (Lv.rows t.ls) (Tm.rows t.args) by_ from_=K t'.k t'.n t'.nm (Lv.rows t'.ls) (Tm.rows t'.args):=by
 intro N
 induction N with
 | zero=>intro t h;cases t;simp [Tm.sz] at h
 | succ N ih =>
  intro t hN ht by_ from_
  have hth:=ht
  obtain⟨k,n,s,ls,l⟩:=t
  simp only [Tm.sz] at hN
  simp only [Tm.thin] at ht
  obtain⟨hls,hl,ht⟩:=ht
  have hlz:=Tm.szs_len l
  have step:∀ a ∈ l,∃ f:Int→Tm,∀ fr,((f fr).thin∧(f fr).args.length=a.args.length)∧(f fr).sz=a.sz∧∀ (fu:Nat) (K:Int→Int→ByteArray→EL→EL→ρ),a.sz + 60≤fu →
    p131 fail fu K a.k a.n a.nm (Lv.rows a.ls) (Tm.rows a.args) by_ fr=K (f fr).k (f fr).n (f fr).nm (Lv.rows (f fr).ls) (Tm.rows (f fr).args):=fun a ha=>by
   have hm:=Tm.szs_mem ha
   exact⟨fun fr=>(ih a (by omega) (Tm.thins_iff.1 ht a ha) by_ fr).choose,fun fr=>(ih a (by omega) (Tm.thins_iff.1 ht a ha) by_ fr).choose_spec⟩
  have parts:∀ r i:Nat,i + r=l.length→∃ l':List Tm,l'.length=r∧Tm.thins l'∧Tm.szs l'=Tm.szs (l.drop i)∧∀ (m q:Nat) (z:List Tm) (K:Int→Int→ByteArray→EL→EL→ρ) (j:Int),z.length=i→r < q→Tm.szs l + 60≤m →
    p131_1L fail m (p131 fail m) K k (Tm.rows l) by_ from_ k s (Lv.rows ls) j q (Tm.rows z) ((i:Nat):Int)=K k j s (Lv.rows ls) (Tm.rows (z++l')):=by
   intro r
   induction r with
   | zero =>
    intro i hi
    refine⟨[],rfl,trivial,by rw [List.drop_of_length_le (by omega)],fun m q z K j hz hq hm=>?_⟩
    obtain⟨q,rfl⟩:∃ z,q=z + 1:=⟨q - 1,by omega⟩
    rw [p131_1L,p131_1,Tm.rows_len,lssF (by omega),cond_false,List.append_nil]
   | succ r ihr =>
    intro i hi
    have hlt:i < l.length:=by omega
    have hmem:=List.getElem_mem hlt
    have hsz:=Tm.szs_mem hmem
    obtain⟨f,hf⟩:=step l[i] hmem
    obtain⟨l',h1,h2,h3,h4⟩:=ihr (i + 1) (by omega)
    obtain⟨c,hc⟩:=w9t fail 0 k ((i:Nat):Int)
    have hc':∀ (fu:Nat) (K:Int→ρ),p142 fail fu K k ((i:Nat):Int)=K c:=fun fu K=>hc K
    obtain⟨g1,g2,g3⟩:=hf (z0d .add .i64 from_ c)
    refine⟨f (z0d .add .i64 from_ c) :: l',by simp [h1],⟨g1.1,h2⟩,?_,fun m q z K j hz hq hm=>?_⟩
    ·rw [List.drop_eq_getElem_cons hlt,Tm.szs,Tm.szs,h3,g2]
    ·obtain⟨q,rfl⟩:∃ z,q=z + 1:=⟨q - 1,by omega⟩
     rw [p131_1L,p131_1,Tm.rows_len,lssT (by omega),cond_true,gd_y (by omega),gd_y (by omega),z4i fail l i hlt,hc',g3 m _ (by omega),gd_y (by simp),z2g,Tm.rows_len,Tm.rows_len,gd_y (by simp;omega),← Tm.rows_append,show z0d .add .i64 ((i:Nat):Int) 1=((i + 1:Nat):Int) from by rw [addZ (by omega) (by omega)];omega,
      h4 m q (z++[f (z0d .add .i64 from_ c)]) K j (by simp;omega) (by omega) hm,List.append_assoc]
     rfl
  obtain⟨l',h1,h2,h3,h4⟩:=parts l.length 0 (by omega)
  rw [List.drop_zero] at h3
  have fin:∀ (m:Nat) (K:Int→Int→ByteArray→EL→EL→ρ) (j:Int),Tm.szs l + 60≤m→p131_2 fail m (p131 fail m) K k (Tm.rows l) by_ from_ k s (Lv.rows ls) nilE j=K k j s (Lv.rows ls) (Tm.rows l'):=fun m K j hm=>by
   have:=h4 m m [] K j rfl (by omega) hm
   rw [p131_2];exact this
  by_cases hc:k=0∧from_≤n
  ·refine⟨.mk k (z0d .add .i64 n by_) s ls l',⟨⟨hls,by rw [h1];exact hl,h2⟩,h1⟩,by simp only [Tm.sz,h3],fun fu K hf=>?_⟩
   obtain⟨m,rfl⟩:∃ m,fu=m + 1:=⟨fu - 1,by omega⟩
   simp only [Tm.sz] at hf
   have hlf:=z8l fail (.mk k n s ls l) hth m (fun y1 y2 y3 y4 y5=>bif (z0a .eql k 0) then (p131_3 fail m (p131 fail m) K k n (Tm.rows l) by_ from_ y1 y2 y3 y4 y5 (z0a .geq n from_)) else (p131_3 fail m (p131 fail m) K k n (Tm.rows l) by_ from_ y1 y2 y3 y4 y5 false)) (by simp only [Tm.sz];omega) (Tm.rows l)
   have hb:p131_b fail m (p131 fail m) K k n s (Lv.rows ls) (Tm.rows l) by_ from_=K k (z0d .add .i64 n by_) s (Lv.rows ls) (Tm.rows l'):=by
    rw [p131_b]
    refine hlf.trans ?_
    simp only [Tm.k,Tm.n,Tm.nm,Tm.ls]
    rw [eqlT hc.1,cond_true,geqT hc.2,p131_3,cond_true,fin m K _ (by omega)]
   rw [p131];exact hb
  ·refine⟨.mk k n s ls l',⟨⟨hls,by rw [h1];exact hl,h2⟩,h1⟩,by simp only [Tm.sz,h3],fun fu K hf=>?_⟩
   obtain⟨m,rfl⟩:∃ m,fu=m + 1:=⟨fu - 1,by omega⟩
   simp only [Tm.sz] at hf
   have hlf:=z8l fail (.mk k n s ls l) hth m (fun y1 y2 y3 y4 y5=>bif (z0a .eql k 0) then (p131_3 fail m (p131 fail m) K k n (Tm.rows l) by_ from_ y1 y2 y3 y4 y5 (z0a .geq n from_)) else (p131_3 fail m (p131 fail m) K k n (Tm.rows l) by_ from_ y1 y2 y3 y4 y5 false)) (by simp only [Tm.sz];omega) (Tm.rows l)
   have hb:p131_b fail m (p131 fail m) K k n s (Lv.rows ls) (Tm.rows l) by_ from_=K k n s (Lv.rows ls) (Tm.rows l'):=by
    rw [p131_b]
    refine hlf.trans ?_
    simp only [Tm.k,Tm.n,Tm.nm,Tm.ls]
    by_cases h0:k=0
    ·rw [eqlT h0,cond_true,geqF (by omega),p131_3,cond_false,fin m K _ (by omega)]
    ·rw [eqlF h0,cond_false,p131_3,cond_false,fin m K _ (by omega)]
   rw [p131];exact hb
theorem k2g (fu:Nat) (K:Int→Int→ByteArray→EL→EL→ρ) (x0:Int) (x4:EL) (x5 x6 y1:Int) (y3:ByteArray) (y4:EL) (j7:Int):∀ n,p131b_1L fail fu K x0 x4 x5 x6 y1 y3 y4 j7 n=p131_1L fail fu (p131 fail fu) K x0 x4 x5 x6 y1 y3 y4 j7 n:=by
 intro n
 induction n with
 | zero=>funext z i;rw [p131b_1L,p131_1L]
 | succ n ih=>funext z i;rw [p131b_1L,p131_1L,ih];rfl
theorem l2_eq (fu:Nat) (K:Int→Int→ByteArray→EL→EL→ρ) (x0 x1:Int) (x2:ByteArray) (x3 x4:EL) (x5 x6:Int):p131b fail fu K x0 x1 x2 x3 x4 x5 x6=p131_b fail fu (p131 fail fu) K x0 x1 x2 x3 x4 x5 x6:=by
 rw [p131b,p131_b]
 simp only [p131b_3,p131b_2,p131_3,p131_2,k2g]
theorem z7p (t:Tm) (ht:t.thin):∃ t':Tm,(t'.thin∧t'.args.length=t.args.length)∧t'.sz=t.sz∧∀ (fu:Nat) (K:Int→Int→ByteArray→EL→EL→ρ),t.sz + 60≤fu →
  p100 fail fu K t.k t.n t.nm (Lv.rows t.ls) (Tm.rows t.args)=K t'.k t'.n t'.nm (Lv.rows t'.ls) (Tm.rows t'.args):=by
 obtain⟨t',h1,h2,h3⟩:=w0s fail _ t (Nat.le_refl _) ht 0 0
 exact⟨t',h1,h2,fun fu K hf=>by rw [p100,h3 fu _ hf]⟩
theorem w9m (t:Tm) (ht:t.thin):∃ t':Tm,(t'.thin∧t'.args.length=t.args.length)∧t'.sz=t.sz∧∀ (fu:Nat) (K:Int→Int→ByteArray→EL→EL→ρ),t.sz + 60≤fu →
  p100b fail fu K t.k t.n t.nm (Lv.rows t.ls) (Tm.rows t.args)=K t'.k t'.n t'.nm (Lv.rows t'.ls) (Tm.rows t'.args):=by
 obtain⟨t',h1,h2,h3⟩:=w0s fail _ t (Nat.le_refl _) ht 0 0
 exact⟨t',h1,h2,fun fu K hf=>by rw [p100b,l2_eq];have:=h3 (fu + 1) K (by omega);rw [p131] at this;exact this⟩
theorem w6u (t:Tm) (ht:t.thin) (a b:Int):∃ t':Tm,(t'.thin∧t'.args.length=t.args.length)∧t'.sz=t.sz∧∀ (fu:Nat) (K:Int→Int→ByteArray→EL→EL→ρ),t.sz + 60≤fu →
  p106 fail fu K t.k t.n t.nm (Lv.rows t.ls) (Tm.rows t.args) a b=K t'.k t'.n t'.nm (Lv.rows t'.ls) (Tm.rows t'.args):=by
 obtain⟨t',h1,h2,h3⟩:=w0s fail _ t (Nat.le_refl _) ht (if 1073741824 < (if 0 > a then 0 else a) then 1073741824 else (if 0 > a then 0 else a)) (if 1073741824 < (if 0 > b then 0 else b) then 1073741824 else (if 0 > b then 0 else b))
 exact⟨t',h1,h2,fun fu K hf=>by rw [p106];exact h3 fu _ hf⟩
theorem w9y (t u:Tm) (ht:t.thin) (hu:u.thin):∃ v:Tm,v.thin∧∀ (fu:Nat) (K:Int→Int→ByteArray→EL→EL→ρ),u.sz + 60≤fu →
  p68 fail fu K t.k t.n t.nm (Lv.rows t.ls) (Tm.rows t.args) u.k u.n u.nm (Lv.rows u.ls) (Tm.rows u.args)=K v.k v.n v.nm (Lv.rows v.ls) (Tm.rows v.args):=by
 obtain⟨u',⟨h1,_⟩,h2,h3⟩:=z7p fail u hu
 exact⟨.mk 3 0 ⟨#[]⟩ [] [t,u'],⟨⟨by simp,trivial⟩,by simp,ht,h1,trivial⟩,fun fu K hf=>by rw [p68,h3 fu _ hf,gd_y (by simp),z1z];rfl⟩
theorem k2f (t u:Tm) (ht:t.thin) (hu:u.thin):∃ v:Tm,v.thin∧∀ (fu:Nat) (K:Int→Int→ByteArray→EL→EL→ρ),t.sz + 60≤fu →
  p103 fail fu K t.k t.n t.nm (Lv.rows t.ls) (Tm.rows t.args) u.k u.n u.nm (Lv.rows u.ls) (Tm.rows u.args)=K v.k v.n v.nm (Lv.rows v.ls) (Tm.rows v.args):=by
 obtain⟨t',⟨h1,_⟩,h2,h3⟩:=z7p fail t ht
 exact⟨.mk 4 0 ⟨#[]⟩ [] [t',u],⟨⟨by simp,trivial⟩,by simp,h1,hu,trivial⟩,fun fu K hf=>by rw [p103,h3 fu _ hf,gd_y (by simp),z1z];rfl⟩
theorem pi_any (t u:Tm) (ht:t.thin) (hu:u.thin):∃ v:Tm,v.thin∧∀ (fu:Nat) (K:Int→Int→ByteArray→EL→EL→ρ),t.sz + 60≤fu →
  p48 fail fu K t.k t.n t.nm (Lv.rows t.ls) (Tm.rows t.args) u.k u.n u.nm (Lv.rows u.ls) (Tm.rows u.args)=K v.k v.n v.nm (Lv.rows v.ls) (Tm.rows v.args):=by
 obtain⟨t',⟨h1,_⟩,h2,h3⟩:=z7p fail t ht
 exact⟨.mk 5 0 ⟨#[]⟩ [] [t',u],⟨⟨by simp,trivial⟩,by simp,h1,hu,trivial⟩,fun fu K hf=>by rw [p48,h3 fu _ hf,gd_y (by simp),z1z];rfl⟩
theorem k0j (l:Lv) (hl:l.thin):∃ v:Tm,v.thin∧∀ (fu:Nat) (K:Int→Int→ByteArray→EL→EL→ρ),l.sz + 20≤fu →
  p49 fail fu K l.k l.n (Lv.rows l.args)=K v.k v.n v.nm (Lv.rows v.ls) (Tm.rows v.args) :=
 ⟨.mk 1 0 ⟨#[]⟩ [l] [],⟨⟨by simp,hl,trivial⟩,by simp,trivial⟩,fun fu K hf=>by rw [p49,z2f fail l hl fu _ hf,gd_y (by simp),z7n];rfl⟩
theorem z3s (s:ByteArray):∃ v:Tm,v.thin∧∀ (fu:Nat) (K:Int→Int→ByteArray→EL→EL→ρ),s.size + 40≤fu →
  p107 fail fu K s nilE=K v.k v.n v.nm (Lv.rows v.ls) (Tm.rows v.args):=by
 have ht:(Tm.mk 2 0 s [] []).thin:=⟨⟨by simp,trivial⟩,by simp,trivial⟩
 refine⟨.mk 2 0 s [] [],ht,fun fu K hf=>?_⟩
 have:=z8l fail (.mk 2 0 s [] []) ht fu K (by simp [Tm.sz,Lv.szs,Tm.szs];omega) nilE
 rw [p107];exact this
theorem w7d (l:List Tm) (hl:Tm.thins l) (hlen:l.length≤1000):∀ (r i:Nat),i + r=l.length→∀ t:Tm,t.thin→∃ v:Tm,v.thin∧∀ (fu n:Nat) (K:Int→Int→ByteArray→EL→EL→ρ),Tm.szs l + 60≤fu→r < n →
  p133_1L fail fu K (Tm.rows l) n t.k t.n t.nm (Lv.rows t.ls) (Tm.rows t.args) ((i:Nat):Int)=K v.k v.n v.nm (Lv.rows v.ls) (Tm.rows v.args):=by
 intro r
 induction r with
 | zero =>
  intro i hi t ht
  refine⟨t,ht,fun fu n K hf hn=>?_⟩
  obtain⟨n,rfl⟩:∃ z,n=z + 1:=⟨n - 1,by omega⟩
  rw [p133_1L,p133_1,Tm.rows_len,lssF (by omega),cond_false]
 | succ r ih =>
  intro i hi t ht
  have hlt:i < l.length:=by omega
  have hmem:=List.getElem_mem hlt
  have hsz:=Tm.szs_mem hmem
  obtain⟨w,hw,h1⟩:=w9y fail t l[i] ht (Tm.thins_iff.1 hl _ hmem)
  obtain⟨v,hv,h2⟩:=ih (i + 1) (by omega) w hw
  refine⟨v,hv,fun fu n K hf hn=>?_⟩
  obtain⟨n,rfl⟩:∃ z,n=z + 1:=⟨n - 1,by omega⟩
  rw [p133_1L,p133_1,Tm.rows_len,lssT (by omega),cond_true,gd_y (by omega),gd_y (by omega),z4i fail l i hlt,h1 fu _ (by omega),addZ (by omega) (by omega),show ((i:Nat):Int) + 1=((i + 1:Nat):Int) by omega]
  exact h2 fu n K hf (by omega)
theorem w9x (t:Tm) (ht:t.thin) (l:List Tm) (hl:Tm.thins l) (hlen:l.length≤1000):∃ v:Tm,v.thin∧∀ (fu:Nat) (K:Int→Int→ByteArray→EL→EL→ρ),t.sz + Tm.szs l + 1100≤fu →
  p133 fail fu K t.k t.n t.nm (Lv.rows t.ls) (Tm.rows t.args) (Tm.rows l)=K v.k v.n v.nm (Lv.rows v.ls) (Tm.rows v.args):=by
 obtain⟨t',⟨h1,_⟩,h2,h3⟩:=z7p fail t ht
 obtain⟨v,hv,h4⟩:=w7d fail l hl hlen l.length 0 (by omega) t' h1
 refine⟨v,hv,fun fu K hf=>?_⟩
 rw [p133,h3 fu _ (by omega)]
 exact h4 fu fu K (by omega) (by omega)
end
def p152_1 {ρ:Type} (fail:ρ) (fu:Nat) (K0:ByteArray→Int→Int→Int→Int→Int→ρ) (rec1:Int→ρ) (x0:ByteArray) (x2 x3 x4 x5 z1:Int) (j2:Bool):ρ :=
 bif j2 then (rec1 (z0d .add .i64 z1 1)) else (K0 x0 z1 x2 x3 x4 x5)
def p152_2 {ρ:Type} (fail:ρ) (fu:Nat) (K0:ByteArray→Int→Int→Int→Int→Int→ρ) (rec1:Int→ρ) (x0:ByteArray) (x2 x3 x4 x5 z1:Int):ρ :=
 bif (z0a .lss z1 ((x0.size:Nat):Int)) then (gd ((0:Int)≤z1) fail (gd ((z1:Int) < (x0.size:Nat)) fail (bif (z0a .eql ((List.getD x0.data.toList (z1:Int).toNat 0).toNat:Nat) 32) then (p152_1 fail fu K0 rec1 x0 x2 x3 x4 x5 z1 true) else (gd ((0:Int)≤z1) fail (gd ((z1:Int) < (x0.size:Nat)) fail (p152_1 fail fu K0 rec1 x0 x2 x3 x4 x5 z1 (z0a .eql ((List.getD x0.data.toList (z1:Int).toNat 0).toNat:Nat) 10))))))) else (p152_1 fail fu K0 rec1 x0 x2 x3 x4 x5 z1 false)
def p152_2L {ρ:Type} (fail:ρ) (fu:Nat) (K0:ByteArray→Int→Int→Int→Int→Int→ρ) (x0:ByteArray) (x2 x3 x4 x5:Int):Nat→Int→ρ
 | 0,_=>fail
 | n + 1,z1=>p152_2 fail fu K0 (p152_2L fail fu K0 x0 x2 x3 x4 x5 n) x0 x2 x3 x4 x5 z1
def p152 {ρ:Type} (fail:ρ) (fu:Nat) (K0:ByteArray→Int→Int→Int→Int→Int→ρ) (x0:ByteArray) (x1 x2 x3 x4 x5:Int):ρ :=
 p152_2L fail fu K0 x0 x2 x3 x4 x5 fu x1
def p145_1 {ρ:Type} (fail:ρ) (fu:Nat) (K0:Int→ByteArray→Int→Int→Int→Int→Int→ρ) (y1:ByteArray) (y2 y3 y4 y5 y6:Int) (j7:Bool):ρ :=
 bif j7 then (K0 0 y1 y2 y3 y4 y5 y6) else (gd ((0:Int)≤y2) fail (gd ((y2:Int) < (y1.size:Nat)) fail (K0 ((List.getD y1.data.toList (y2:Int).toNat 0).toNat:Nat) y1 y2 y3 y4 y5 y6)))
def p145 {ρ:Type} (fail:ρ) (fu:Nat) (K0:Int→ByteArray→Int→Int→Int→Int→Int→ρ) (x0:ByteArray) (x1 x2 x3 x4 x5:Int):ρ :=
 p152 fail fu (fun y1 y2 y3 y4 y5 y6=>bif (z0a .neq y3 0) then (p145_1 fail fu K0 y1 y2 y3 y4 y5 y6 true) else (p145_1 fail fu K0 y1 y2 y3 y4 y5 y6 (z0a .geq y2 ((y1.size:Nat):Int)))) x0 x1 x2 x3 x4 x5
def p146_1 {ρ:Type} (fail:ρ) (fu:Nat) (K0:Bool→ρ) (j1:Bool):ρ :=
 K0 j1
def p146 {ρ:Type} (fail:ρ) (fu:Nat) (K0:Bool→ρ) (x0:Int):ρ :=
 bif (z0a .geq x0 97) then (bif (z0a .leq x0 122) then (p146_1 fail fu K0 true) else (bif (z0a .geq x0 65) then (p146_1 fail fu K0 (z0a .leq x0 90)) else (p146_1 fail fu K0 false))) else (bif (z0a .geq x0 65) then (p146_1 fail fu K0 (z0a .leq x0 90)) else (p146_1 fail fu K0 false))
def p147_1 {ρ:Type} (fail:ρ) (fu:Nat) (K0:ByteArray→Int→Int→Int→Int→Int→ρ) (x0:ByteArray) (x1 x4 x5 j1 j2:Int):ρ :=
 K0 x0 x1 j1 j2 x4 x5
def p147 {ρ:Type} (fail:ρ) (fu:Nat) (K0:ByteArray→Int→Int→Int→Int→Int→ρ) (x0:ByteArray) (x1 x2 x3 x4 x5 x6 x7:Int):ρ :=
 bif (z0a .eql x2 0) then (p147_1 fail fu K0 x0 x1 x4 x5 x6 x7) else (p147_1 fail fu K0 x0 x1 x4 x5 x2 x3)
def p154_1 {ρ:Type} (fail:ρ) (fu:Nat) (K0:Bool→ρ) (j1:Bool):ρ :=
 K0 j1
def p154 {ρ:Type} (fail:ρ) (fu:Nat) (K0:Bool→ρ) (x0:Int):ρ :=
 bif (z0a .geq x0 48) then (p154_1 fail fu K0 (z0a .leq x0 57)) else (p154_1 fail fu K0 false)
def p153_1 {ρ:Type} (fail:ρ) (fu:Nat) (K0:Int→ρ) (rec1:Int→ρ) (j4:Int):ρ :=
 rec1 j4
def p153_2 {ρ:Type} (fail:ρ) (fu:Nat) (K0:Int→ρ) (rec1:Int→ρ) (z2:Int) (j5:Bool):ρ :=
 bif j5 then (p153_1 fail fu K0 rec1 (z0d .add .i64 z2 1)) else (K0 z2)
def p153_3 {ρ:Type} (fail:ρ) (fu:Nat) (K0:Int→ρ) (rec1:Int→ρ) (x0:ByteArray) (z2:Int) (j3:Bool):ρ :=
 bif j3 then (p153_1 fail fu K0 rec1 (z0d .add .i64 z2 1)) else (gd ((0:Int)≤z2) fail (gd ((z2:Int) < (x0.size:Nat)) fail (bif (z0a .eql ((List.getD x0.data.toList (z2:Int).toNat 0).toNat:Nat) 46) then (bif (z0a .lss (z0d .add .i64 z2 1) ((x0.size:Nat):Int)) then (gd ((0:Int)≤(z0d .add .i64 z2 1)) fail (gd ((z0d .add .i64 z2 1:Int) < (x0.size:Nat)) fail (p146 fail fu (fun y6=>p153_2 fail fu K0 rec1 z2 y6) ((List.getD x0.data.toList (z0d .add .i64 z2 1:Int).toNat 0).toNat:Nat)))) else (p153_2 fail fu K0 rec1 z2 false)) else (p153_2 fail fu K0 rec1 z2 false))))
def p153_4 {ρ:Type} (fail:ρ) (fu:Nat) (K0:Int→ρ) (rec1:Int→ρ) (x0:ByteArray) (z2:Int):ρ :=
 bif (z0a .lss z2 ((x0.size:Nat):Int)) then (gd ((0:Int)≤z2) fail (gd ((z2:Int) < (x0.size:Nat)) fail (p146 fail fu (fun y7=>bif y7 then (p153_3 fail fu K0 rec1 x0 z2 true) else (gd ((0:Int)≤z2) fail (gd ((z2:Int) < (x0.size:Nat)) fail (p154 fail fu (fun y8=>bif y8 then (p153_3 fail fu K0 rec1 x0 z2 true) else (gd ((0:Int)≤z2) fail (gd ((z2:Int) < (x0.size:Nat)) fail (p153_3 fail fu K0 rec1 x0 z2 (z0a .eql ((List.getD x0.data.toList (z2:Int).toNat 0).toNat:Nat) 95))))) ((List.getD x0.data.toList (z2:Int).toNat 0).toNat:Nat))))) ((List.getD x0.data.toList (z2:Int).toNat 0).toNat:Nat)))) else (K0 z2)
def p153_4L {ρ:Type} (fail:ρ) (fu:Nat) (K0:Int→ρ) (x0:ByteArray):Nat→Int→ρ
 | 0,_=>fail
 | n + 1,z2=>p153_4 fail fu K0 (p153_4L fail fu K0 x0 n) x0 z2
def p153_5 {ρ:Type} (fail:ρ) (fu:Nat) (K0:Int→ρ) (x0:ByteArray) (j1:Bool):ρ :=
 bif j1 then (K0 0) else (p153_4L fail fu K0 x0 fu 1)
def p153 {ρ:Type} (fail:ρ) (fu:Nat) (K0:Int→ρ) (x0:ByteArray):ρ :=
 bif (z0a .eql ((x0.size:Nat):Int) 0) then (p153_5 fail fu K0 x0 true) else (gd ((0:Int)≤0) fail (gd ((0:Int) < (x0.size:Nat)) fail (p146 fail fu (fun y9=>p153_5 fail fu K0 x0 (!y9)) ((List.getD x0.data.toList (0:Int).toNat 0).toNat:Nat))))
def p157_1 {ρ:Type} (fail:ρ) (fu:Nat) (K0:Int→Int→EL→ByteArray→Int→Int→Int→Int→Int→ρ) (j8:ByteArray) (j9 j10 j11 j12 j13 j14:Int):ρ :=
 K0 4 j14 nilE j8 (z0d .add .i64 j9 1) j10 j11 j12 j13
def p157_2 {ρ:Type} (fail:ρ) (fu:Nat) (K0:Int→Int→EL→ByteArray→Int→Int→Int→Int→Int→ρ) (x0:ByteArray) (x1 x2 x3 x4 x5:Int) (j1:Bool):ρ :=
 bif j1 then (p147 fail fu (fun y2 y3 y4 y5 y6 y7=>K0 0 0 nilE y2 y3 y4 y5 y6 y7) x0 x1 x2 x3 x4 x5 5 x1) else (gd ((0:Int)≤x1) fail (gd ((x1:Int) < (x0.size:Nat)) fail (bif (z0a .geq (IntKind.i64.wrap (z0d .sub .u8 ((List.getD x0.data.toList (x1:Int).toNat 0).toNat:Nat) 48)) 4) then (p147 fail fu (fun y15 y16 y17 y18 y19 y20=>p157_1 fail fu K0 y15 y16 y17 y18 y19 y20 (IntKind.i64.wrap (z0d .sub .u8 ((List.getD x0.data.toList (x1:Int).toNat 0).toNat:Nat) 48))) x0 x1 x2 x3 x4 x5 7 x1) else (p157_1 fail fu K0 x0 x1 x2 x3 x4 x5 (IntKind.i64.wrap (z0d .sub .u8 ((List.getD x0.data.toList (x1:Int).toNat 0).toNat:Nat) 48))))))
def p157 {ρ:Type} (fail:ρ) (fu:Nat) (K0:Int→Int→EL→ByteArray→Int→Int→Int→Int→Int→ρ) (x0:ByteArray) (x1 x2 x3 x4 x5:Int):ρ :=
 bif (z0a .geq x1 ((x0.size:Nat):Int)) then (p157_2 fail fu K0 x0 x1 x2 x3 x4 x5 true) else (gd ((0:Int)≤x1) fail (gd ((x1:Int) < (x0.size:Nat)) fail (p154 fail fu (fun y21=>p157_2 fail fu K0 x0 x1 x2 x3 x4 x5 (!y21)) ((List.getD x0.data.toList (x1:Int).toNat 0).toNat:Nat))))
def p156_1 {ρ:Type} (fail:ρ) (fu:Nat) (s_p156:(Int→Int→EL→ByteArray→Int→Int→Int→Int→Int→ρ)→ByteArray→Int→Int→Int→Int→Int→Int→ρ) (K0:Int→Int→EL→ByteArray→Int→Int→Int→Int→Int→ρ) (x6:Int) (j21:ByteArray) (j23 j24 j25 j45 j46 j47:Int):ρ :=
 s_p156 (fun y48 y49 y50 y51 y52 y53 y54 y55 y56=>s_p156 (fun y57 y58 y59 y60 y61 y62 y63 y64 y65=>gd (2≤[[(CV.v (.int .i64 y48)),(CV.v (.int .i64 y49)),(CV.sl 3 y50 none)],[(CV.v (.int .i64 y57)),(CV.v (.int .i64 y58)),(CV.sl 3 y59 none)]].length) fail (K0 j47 0 (List.take 2 [[(CV.v (.int .i64 y48)),(CV.v (.int .i64 y49)),(CV.sl 3 y50 none)],[(CV.v (.int .i64 y57)),(CV.v (.int .i64 y58)),(CV.sl 3 y59 none)]]) y60 y61 y62 y63 y64 y65)) y51 y52 y53 y54 y55 y56 (z0d .add .i64 x6 1)) j21 j45 j23 j24 j25 j46 (z0d .add .i64 x6 1)
def p156_2 {ρ:Type} (fail:ρ) (fu:Nat) (s_p156:(Int→Int→EL→ByteArray→Int→Int→Int→Int→Int→ρ)→ByteArray→Int→Int→Int→Int→Int→Int→ρ) (K0:Int→Int→EL→ByteArray→Int→Int→Int→Int→Int→ρ) (x6 y1:Int) (j21:ByteArray) (j22 j23 j24 j25 j26:Int):ρ :=
 bif (z0a .neq j23 0) then (K0 0 0 nilE j21 j22 j23 j24 j25 j26) else (bif (z0a .eql y1 48) then (K0 0 0 nilE j21 (z0d .add .i64 j22 1) j23 j24 j25 (z0d .sub .i64 j26 1)) else (bif (z0a .eql y1 83) then (s_p156 (fun y27 y28 y29 y30 y31 y32 y33 y34 y35=>gd (1≤[[(CV.v (.int .i64 y27)),(CV.v (.int .i64 y28)),(CV.sl 3 y29 none)]].length) fail (K0 1 0 (List.take 1 [[(CV.v (.int .i64 y27)),(CV.v (.int .i64 y28)),(CV.sl 3 y29 none)]]) y30 y31 y32 y33 y34 y35)) j21 (z0d .add .i64 j22 1) j23 j24 j25 (z0d .sub .i64 j26 1) (z0d .add .i64 x6 1)) else (bif (z0a .eql y1 112) then (p157 fail fu (fun y36 y37 y38 y39 y40 y41 y42 y43 y44=>K0 y36 y37 y38 y39 y40 y41 y42 y43 y44) j21 (z0d .add .i64 j22 1) j23 j24 j25 (z0d .sub .i64 j26 1)) else (bif (z0a .eql y1 73) then (p156_1 fail fu s_p156 K0 x6 j21 j23 j24 j25 (z0d .add .i64 j22 1) (z0d .sub .i64 j26 1) 3) else (p156_1 fail fu s_p156 K0 x6 j21 j23 j24 j25 (z0d .add .i64 j22 1) (z0d .sub .i64 j26 1) 2)))))
def p156_3 {ρ:Type} (fail:ρ) (fu:Nat) (s_p156:(Int→Int→EL→ByteArray→Int→Int→Int→Int→Int→ρ)→ByteArray→Int→Int→Int→Int→Int→Int→ρ) (K0:Int→Int→EL→ByteArray→Int→Int→Int→Int→Int→ρ) (x6 y1:Int) (j15:ByteArray) (j16 j17 j18 j19 j20:Int):ρ :=
 bif (z0a .gtr x6 32) then (p147 fail fu (fun y66 y67 y68 y69 y70 y71=>p156_2 fail fu s_p156 K0 x6 y1 y66 y67 y68 y69 y70 y71) j15 j16 j17 j18 j19 j20 6 j16) else (p156_2 fail fu s_p156 K0 x6 y1 j15 j16 j17 j18 j19 j20)
def p156_4 {ρ:Type} (fail:ρ) (fu:Nat) (s_p156:(Int→Int→EL→ByteArray→Int→Int→Int→Int→Int→ρ)→ByteArray→Int→Int→Int→Int→Int→Int→ρ) (K0:Int→Int→EL→ByteArray→Int→Int→Int→Int→Int→ρ) (x6 y1:Int) (y2:ByteArray) (y3 y4 y5 y6 y7:Int) (j8:Bool):ρ :=
 bif j8 then (p147 fail fu (fun y9 y10 y11 y12 y13 y14=>K0 0 0 nilE y9 y10 y11 y12 y13 y14) y2 y3 y4 y5 y6 y7 5 y3) else (bif (z0a .eql y7 0) then (p147 fail fu (fun y72 y73 y74 y75 y76 y77=>p156_3 fail fu s_p156 K0 x6 y1 y72 y73 y74 y75 y76 y77) y2 y3 y4 y5 y6 y7 3 y3) else (p156_3 fail fu s_p156 K0 x6 y1 y2 y3 y4 y5 y6 y7))
def p156_b {ρ:Type} (fail:ρ) (fu:Nat) (s_p156:(Int→Int→EL→ByteArray→Int→Int→Int→Int→Int→ρ)→ByteArray→Int→Int→Int→Int→Int→Int→ρ) (K0:Int→Int→EL→ByteArray→Int→Int→Int→Int→Int→ρ) (x0:ByteArray) (x1 x2 x3 x4 x5 x6:Int):ρ :=
 p145 fail fu (fun y1 y2 y3 y4 y5 y6 y7=>bif (z0a .geq y3 ((y2.size:Nat):Int)) then (p156_4 fail fu s_p156 K0 x6 y1 y2 y3 y4 y5 y6 y7 true) else (bif (z0a .neq y1 48) then (bif (z0a .neq y1 83) then (bif (z0a .neq y1 77) then (bif (z0a .neq y1 73) then (p156_4 fail fu s_p156 K0 x6 y1 y2 y3 y4 y5 y6 y7 (z0a .neq y1 112)) else (p156_4 fail fu s_p156 K0 x6 y1 y2 y3 y4 y5 y6 y7 false)) else (p156_4 fail fu s_p156 K0 x6 y1 y2 y3 y4 y5 y6 y7 false)) else (p156_4 fail fu s_p156 K0 x6 y1 y2 y3 y4 y5 y6 y7 false)) else (p156_4 fail fu s_p156 K0 x6 y1 y2 y3 y4 y5 y6 y7 false))) x0 x1 x2 x3 x4 x5
def p156 {ρ:Type} (fail:ρ):Nat→(Int→Int→EL→ByteArray→Int→Int→Int→Int→Int→ρ)→ByteArray→Int→Int→Int→Int→Int→Int→ρ
 | 0,_,_,_,_,_,_,_,_=>fail
 | n + 1,K0,x0,x1,x2,x3,x4,x5,x6=>p156_b fail n (p156 fail n) K0 x0 x1 x2 x3 x4 x5 x6
def p150 {ρ:Type} (fail:ρ) (fu:Nat) (K0:Int→Int→EL→ByteArray→Int→Int→Int→Int→Int→ρ) (x0:ByteArray) (x1 x2 x3 x4 x5:Int):ρ :=
 p156 fail fu (fun y1 y2 y3 y4 y5 y6 y7 y8 y9=>K0 y1 y2 y3 y4 y5 y6 y7 y8 y9) x0 x1 x2 x3 x4 64 1
def p151_1 {ρ:Type} (fail:ρ) (fu:Nat) (K0:ByteArray→Int→Int→Int→Int→Int→ρ) (j1:ByteArray) (j2 j3 j4 j5 j6:Int) (j7:Bool):ρ :=
 bif j7 then (p147 fail fu (fun y8 y9 y10 y11 y12 y13=>K0 y8 y9 y10 y11 y12 y13) j1 j2 j3 j4 j5 j6 5 (if ((j1.size:Nat):Int) < j2 then ((j1.size:Nat):Int) else j2)) else (K0 j1 (z0d .add .i64 j2 1) j3 j4 j5 j6)
def p151 {ρ:Type} (fail:ρ) (fu:Nat) (K0:ByteArray→Int→Int→Int→Int→Int→ρ) (x0:ByteArray) (x1 x2 x3 x4 x5 x6:Int):ρ :=
 p145 fail fu (fun y14 y15 y16 y17 y18 y19 y20=>bif (z0a .neq y14 x6) then (p151_1 fail fu K0 y15 y16 y17 y18 y19 y20 true) else (p151_1 fail fu K0 y15 y16 y17 y18 y19 y20 (z0a .geq y16 ((y15.size:Nat):Int)))) x0 x1 x2 x3 x4 x5
def p148_1 {ρ:Type} (fail:ρ) (fu:Nat) (K0:Int→Int→ByteArray→EL→EL→ByteArray→Int→Int→Int→Int→Int→ρ) (rec1:ByteArray→Int→Int→Int→Int→Int→ByteArray→EL→ρ) (z21:ByteArray) (z22:EL) (j23:ByteArray) (j24 j25 j26 j27 j28:Int):ρ :=
 p150 fail fu (fun y29 y30 y31 y32 y33 y34 y35 y36 y37=>bif (z0a .neq y34 0) then (K0 2 0 z21 z22 nilE y32 y33 y34 y35 y36 y37) else (gd (1≤[[(CV.v (.int .i64 y29)),(CV.v (.int .i64 y30)),(CV.sl 3 y31 none)]].length) fail (gd ((z22.length + (List.take 1 [[(CV.v (.int .i64 y29)),(CV.v (.int .i64 y30)),(CV.sl 3 y31 none)]]).length) * 40≤35184372088832) fail (p145 fail fu (fun y38 y39 y40 y41 y42 y43 y44=>bif (z0a .neq y38 44) then (p151 fail fu (fun y45 y46 y47 y48 y49 y50=>K0 2 0 z21 (z22++(List.take 1 [[(CV.v (.int .i64 y29)),(CV.v (.int .i64 y30)),(CV.sl 3 y31 none)]])) nilE y45 y46 y47 y48 y49 y50) y39 y40 y41 y42 y43 y44 125) else (rec1 y39 (z0d .add .i64 y40 1) y41 y42 y43 y44 z21 (z22++(List.take 1 [[(CV.v (.int .i64 y29)),(CV.v (.int .i64 y30)),(CV.sl 3 y31 none)]])))) y32 y33 y34 y35 y36 y37)))) j23 j24 j25 j26 j27 j28
def p148_2 {ρ:Type} (fail:ρ) (fu:Nat) (K0:Int→Int→ByteArray→EL→EL→ByteArray→Int→Int→Int→Int→Int→ρ) (rec1:ByteArray→Int→Int→Int→Int→Int→ByteArray→EL→ρ) (z21:ByteArray) (z22:EL) (j59:ByteArray) (j60 j61 j62 j63 j64:Int):ρ :=
 p148_1 fail fu K0 rec1 z21 z22 j59 j60 j61 j62 j63 j64
def p148_3 {ρ:Type} (fail:ρ) (fu:Nat) (K0:Int→Int→ByteArray→EL→EL→ByteArray→Int→Int→Int→Int→Int→ρ) (rec1:ByteArray→Int→Int→Int→Int→Int→ByteArray→EL→ρ) (z21:ByteArray) (z22:EL) (y52:ByteArray) (y53 y54 y55 y56 y57:Int) (j58:Bool):ρ :=
 bif j58 then (p147 fail fu (fun y65 y66 y67 y68 y69 y70=>p148_2 fail fu K0 rec1 z21 z22 y65 y66 y67 y68 y69 y70) y52 y53 y54 y55 y56 y57 7 y53) else (p148_2 fail fu K0 rec1 z21 z22 y52 y53 y54 y55 y56 y57)
def p148_4 {ρ:Type} (fail:ρ) (fu:Nat) (K0:Int→Int→ByteArray→EL→EL→ByteArray→Int→Int→Int→Int→Int→ρ) (rec1:ByteArray→Int→Int→Int→Int→Int→ByteArray→EL→ρ) (z15:ByteArray) (z16 z17 z18 z19 z20:Int) (z21:ByteArray) (z22:EL):ρ :=
 bif (z0a .eql ((z22.length:Nat):Int) 4) then (p145 fail fu (fun y51 y52 y53 y54 y55 y56 y57=>bif (z0a .lss y53 ((y52.size:Nat):Int)) then (bif (z0a .eql y51 48) then (p148_3 fail fu K0 rec1 z21 z22 y52 y53 y54 y55 y56 y57 true) else (bif (z0a .eql y51 83) then (p148_3 fail fu K0 rec1 z21 z22 y52 y53 y54 y55 y56 y57 true) else (bif (z0a .eql y51 77) then (p148_3 fail fu K0 rec1 z21 z22 y52 y53 y54 y55 y56 y57 true) else (bif (z0a .eql y51 73) then (p148_3 fail fu K0 rec1 z21 z22 y52 y53 y54 y55 y56 y57 true) else (p148_3 fail fu K0 rec1 z21 z22 y52 y53 y54 y55 y56 y57 (z0a .eql y51 112)))))) else (p148_3 fail fu K0 rec1 z21 z22 y52 y53 y54 y55 y56 y57 false)) z15 z16 z17 z18 z19 z20) else (p148_1 fail fu K0 rec1 z21 z22 z15 z16 z17 z18 z19 z20)
def p148_4L {ρ:Type} (fail:ρ) (fu:Nat) (K0:Int→Int→ByteArray→EL→EL→ByteArray→Int→Int→Int→Int→Int→ρ):Nat→ByteArray→Int→Int→Int→Int→Int→ByteArray→EL→ρ
 | 0,_,_,_,_,_,_,_,_=>fail
 | n + 1,z15,z16,z17,z18,z19,z20,z21,z22=>p148_4 fail fu K0 (p148_4L fail fu K0 n) z15 z16 z17 z18 z19 z20 z21 z22
def p148 {ρ:Type} (fail:ρ) (fu:Nat) (K0:Int→Int→ByteArray→EL→EL→ByteArray→Int→Int→Int→Int→Int→ρ) (x0:ByteArray) (x1 x2 x3 x4 x5:Int):ρ :=
 gd ((0:Int)≤x1) fail (gd ((x1:Int)≤(x0.size:Nat)) fail (gd (((x0.size:Nat):Int)≤(x0.size:Nat)) fail (p153 fail fu (fun y1=>bif (z0a .gtr y1 24) then (p147 fail fu (fun y2 y3 y4 y5 y6 y7=>K0 0 0 ⟨#[]⟩ nilE nilE y2 y3 y4 y5 y6 y7) x0 x1 x2 x3 x4 x5 3 x1) else (gd ((0:Int)≤x1) fail (gd ((x1:Int)≤(z0d .add .i64 x1 y1)) fail (gd ((z0d .add .i64 x1 y1:Int)≤(x0.size:Nat)) fail (p145 fail fu (fun y8 y9 y10 y11 y12 y13 y14=>bif (z0a .neq y8 123) then (K0 2 0 (x0.extract (x1:Int).toNat (z0d .add .i64 x1 y1:Int).toNat) nilE nilE y9 y10 y11 y12 y13 y14) else (p148_4L fail fu K0 fu y9 (z0d .add .i64 y10 1) y11 y12 y13 y14 (x0.extract (x1:Int).toNat (z0d .add .i64 x1 y1:Int).toNat) nilE)) x0 (z0d .add .i64 x1 y1) x2 x3 x4 x5))))) (x0.extract (x1:Int).toNat ((x0.size:Nat):Int).toNat))))
def p155_1 {ρ:Type} (fail:ρ) (fu:Nat) (K0:ByteArray→Int→Int→Int→Int→Int→ρ) (j2:ByteArray) (j3 j4 j5 j6 j7:Int):ρ :=
 K0 j2 j3 j4 j5 j6 j7
def p155_2 {ρ:Type} (fail:ρ) (fu:Nat) (K0:ByteArray→Int→Int→Int→Int→Int→ρ) (x0:ByteArray) (x1 x2 x3 x4 x5:Int) (j1:Bool):ρ :=
 bif j1 then (p147 fail fu (fun y8 y9 y10 y11 y12 y13=>p155_1 fail fu K0 y8 y9 y10 y11 y12 y13) x0 x1 x2 x3 x4 x5 5 x1) else (p155_1 fail fu K0 x0 x1 x2 x3 x4 x5)
def p155 {ρ:Type} (fail:ρ) (fu:Nat) (K0:ByteArray→Int→Int→Int→Int→Int→ρ) (x0:ByteArray) (x1 x2 x3 x4 x5:Int):ρ :=
 bif (z0a .lss x1 ((x0.size:Nat):Int)) then (gd ((0:Int)≤x1) fail (gd ((x1:Int) < (x0.size:Nat)) fail (p146 fail fu (fun y14=>bif y14 then (p155_2 fail fu K0 x0 x1 x2 x3 x4 x5 true) else (gd ((0:Int)≤x1) fail (gd ((x1:Int) < (x0.size:Nat)) fail (p154 fail fu (fun y15=>p155_2 fail fu K0 x0 x1 x2 x3 x4 x5 y15) ((List.getD x0.data.toList (x1:Int).toNat 0).toNat:Nat))))) ((List.getD x0.data.toList (x1:Int).toNat 0).toNat:Nat)))) else (p155_2 fail fu K0 x0 x1 x2 x3 x4 x5 false)
def p149_1 {ρ:Type} (fail:ρ) (fu:Nat) (K0:Int→ByteArray→Int→Int→Int→Int→Int→ρ) (rec1:Int→ρ) (x0:ByteArray) (x2 x3 x4 x5 z1:Int) (j9:Bool):ρ :=
 bif j9 then (p147 fail fu (fun y10 y11 y12 y13 y14 y15=>K0 0 y10 y11 y12 y13 y14 y15) x0 z1 x2 x3 x4 x5 5 z1) else (rec1 (z0d .add .i64 z1 1))
def p149_2 {ρ:Type} (fail:ρ) (fu:Nat) (K0:Int→ByteArray→Int→Int→Int→Int→Int→ρ) (rec2:Int→Int→ρ) (x0:ByteArray) (x2 x3 x4 x5 z1 z22 z23:Int):ρ :=
 bif (z0a .lss z23 z1) then (gd ((0:Int)≤z23) fail (gd ((z23:Int) < (x0.size:Nat)) fail (rec2 (z0d .add .i64 (z0d .mul .i64 z22 10) (IntKind.i64.wrap (z0d .sub .u8 ((List.getD x0.data.toList (z23:Int).toNat 0).toNat:Nat) 48))) (z0d .add .i64 z23 1)))) else (p155 fail fu (fun y24 y25 y26 y27 y28 y29=>K0 z22 y24 y25 y26 y27 y28 y29) x0 z1 x2 x3 x4 x5)
def p149_2L {ρ:Type} (fail:ρ) (fu:Nat) (K0:Int→ByteArray→Int→Int→Int→Int→Int→ρ) (x0:ByteArray) (x2 x3 x4 x5 z1:Int):Nat→Int→Int→ρ
 | 0,_,_=>fail
 | n + 1,z22,z23=>p149_2 fail fu K0 (p149_2L fail fu K0 x0 x2 x3 x4 x5 z1 n) x0 x2 x3 x4 x5 z1 z22 z23
def p149_3 {ρ:Type} (fail:ρ) (fu:Nat) (K0:Int→ByteArray→Int→Int→Int→Int→Int→ρ) (rec1:Int→ρ) (x0:ByteArray) (x1 x2 x3 x4 x5 z1:Int) (j2:Bool):ρ :=
 bif j2 then (bif (z0a .eql (z0d .sub .i64 z1 x1) 7) then (p147 fail fu (fun y3 y4 y5 y6 y7 y8=>K0 0 y3 y4 y5 y6 y7 y8) x0 z1 x2 x3 x4 x5 3 x1) else (bif (z0a .eql z1 (z0d .add .i64 x1 1)) then (gd ((0:Int)≤x1) fail (gd ((x1:Int) < (x0.size:Nat)) fail (p149_1 fail fu K0 rec1 x0 x2 x3 x4 x5 z1 (z0a .eql ((List.getD x0.data.toList (x1:Int).toNat 0).toNat:Nat) 48)))) else (p149_1 fail fu K0 rec1 x0 x2 x3 x4 x5 z1 false))) else (bif (z0a .eql z1 x1) then (p147 fail fu (fun y16 y17 y18 y19 y20 y21=>K0 0 y16 y17 y18 y19 y20 y21) x0 z1 x2 x3 x4 x5 5 z1) else (p149_2L fail fu K0 x0 x2 x3 x4 x5 z1 fu 0 x1))
def p149_4 {ρ:Type} (fail:ρ) (fu:Nat) (K0:Int→ByteArray→Int→Int→Int→Int→Int→ρ) (rec1:Int→ρ) (x0:ByteArray) (x1 x2 x3 x4 x5 z1:Int):ρ :=
 bif (z0a .lss z1 ((x0.size:Nat):Int)) then (gd ((0:Int)≤z1) fail (gd ((z1:Int) < (x0.size:Nat)) fail (p154 fail fu (fun y30=>p149_3 fail fu K0 rec1 x0 x1 x2 x3 x4 x5 z1 y30) ((List.getD x0.data.toList (z1:Int).toNat 0).toNat:Nat)))) else (p149_3 fail fu K0 rec1 x0 x1 x2 x3 x4 x5 z1 false)
def p149_4L {ρ:Type} (fail:ρ) (fu:Nat) (K0:Int→ByteArray→Int→Int→Int→Int→Int→ρ) (x0:ByteArray) (x1 x2 x3 x4 x5:Int):Nat→Int→ρ
 | 0,_=>fail
 | n + 1,z1=>p149_4 fail fu K0 (p149_4L fail fu K0 x0 x1 x2 x3 x4 x5 n) x0 x1 x2 x3 x4 x5 z1
def p149 {ρ:Type} (fail:ρ) (fu:Nat) (K0:Int→ByteArray→Int→Int→Int→Int→Int→ρ) (x0:ByteArray) (x1 x2 x3 x4 x5:Int):ρ :=
 p149_4L fail fu K0 x0 x1 x2 x3 x4 x5 fu x1
def p143_1 {ρ:Type} (fail:ρ) (fu:Nat) (s_p143:(Int→Int→ByteArray→EL→EL→ByteArray→Int→Int→Int→Int→Int→ρ)→ByteArray→Int→Int→Int→Int→Int→Int→ρ) (K0:Int→Int→ByteArray→EL→EL→ByteArray→Int→Int→Int→Int→Int→ρ) (j145:EL) (j146:ByteArray) (j147 j148 j149 j150 j151 j152:Int):ρ :=
 gd (2≤j145.length) fail (K0 j152 0 ⟨#[]⟩ nilE (List.take 2 j145) j146 j147 j148 j149 j150 j151)
def p143_2 {ρ:Type} (fail:ρ) (fu:Nat) (s_p143:(Int→Int→ByteArray→EL→EL→ByteArray→Int→Int→Int→Int→Int→ρ)→ByteArray→Int→Int→Int→Int→Int→Int→ρ) (K0:Int→Int→ByteArray→EL→EL→ByteArray→Int→Int→Int→Int→Int→ρ) (y1:Int) (j145:EL) (j146:ByteArray) (j147 j148 j149 j150 j151:Int):ρ :=
 bif (z0a .eql y1 33) then (p143_1 fail fu s_p143 K0 j145 j146 j147 j148 j149 j150 j151 5) else (p143_1 fail fu s_p143 K0 j145 j146 j147 j148 j149 j150 j151 4)
def p143_3 {ρ:Type} (fail:ρ) (fu:Nat) (s_p143:(Int→Int→ByteArray→EL→EL→ByteArray→Int→Int→Int→Int→Int→ρ)→ByteArray→Int→Int→Int→Int→Int→Int→ρ) (K0:Int→Int→ByteArray→EL→EL→ByteArray→Int→Int→Int→Int→Int→ρ) (x6 y1:Int) (j21:ByteArray) (j22 j23 j24 j25 j26:Int):ρ :=
 bif (z0a .neq j23 0) then (K0 0 0 ⟨#[]⟩ nilE nilE j21 j22 j23 j24 j25 j26) else (p146 fail fu (fun y27=>bif y27 then (p148 fail fu (fun y28 y29 y30 y31 y32 y33 y34 y35 y36 y37 y38=>K0 y28 y29 y30 y31 y32 y33 y34 y35 y36 y37 y38) j21 j22 j23 j24 (z0d .sub .i64 j25 1) j26) else (bif (z0a .eql y1 35) then (p149 fail fu (fun y39 y40 y41 y42 y43 y44 y45=>K0 0 y39 ⟨#[]⟩ nilE nilE y40 y41 y42 y43 y44 y45) j21 (z0d .add .i64 j22 1) j23 j24 (z0d .sub .i64 j25 1) j26) else (bif (z0a .eql y1 42) then (p150 fail fu (fun y46 y47 y48 y49 y50 y51 y52 y53 y54=>gd (1≤[[(CV.v (.int .i64 y46)),(CV.v (.int .i64 y47)),(CV.sl 3 y48 none)]].length) fail (K0 1 0 ⟨#[]⟩ (List.take 1 [[(CV.v (.int .i64 y46)),(CV.v (.int .i64 y47)),(CV.sl 3 y48 none)]]) nilE y49 y50 y51 y52 y53 y54)) j21 (z0d .add .i64 j22 1) j23 j24 (z0d .sub .i64 j25 1) j26) else (bif (z0a .eql y1 40) then (s_p143 (fun y55 y56 y57 y58 y59 y60 y61 y62 y63 y64 y65=>s_p143 (fun y66 y67 y68 y69 y70 y71 y72 y73 y74 y75 y76=>p151 fail fu (fun y77 y78 y79 y80 y81 y82=>gd (2≤[[(CV.v (.int .i64 y55)),(CV.v (.int .i64 y56)),(CV.v (.string y57)),(CV.sl 3 y58 none),(CV.sl 5 y59 none)],[(CV.v (.int .i64 y66)),(CV.v (.int .i64 y67)),(CV.v (.string y68)),(CV.sl 3 y69 none),(CV.sl 5 y70 none)]].length) fail (K0 3 0 ⟨#[]⟩ nilE (List.take 2 [[(CV.v (.int .i64 y55)),(CV.v (.int .i64 y56)),(CV.v (.string y57)),(CV.sl 3 y58 none),(CV.sl 5 y59 none)],[(CV.v (.int .i64 y66)),(CV.v (.int .i64 y67)),(CV.v (.string y68)),(CV.sl 3 y69 none),(CV.sl 5 y70 none)]]) y77 y78 y79 y80 y81 y82)) y71 y72 y73 y74 y75 y76 41) y60 y61 y62 y63 y64 y65 (z0d .add .i64 x6 1)) j21 (z0d .add .i64 j22 1) j23 j24 (z0d .sub .i64 j25 1) j26 (z0d .add .i64 x6 1)) else (bif (z0a .eql y1 61) then (s_p143 (fun y83 y84 y85 y86 y87 y88 y89 y90 y91 y92 y93=>p151 fail fu (fun y94 y95 y96 y97 y98 y99=>s_p143 (fun y100 y101 y102 y103 y104 y105 y106 y107 y108 y109 y110=>p151 fail fu (fun y111 y112 y113 y114 y115 y116=>s_p143 (fun y117 y118 y119 y120 y121 y122 y123 y124 y125 y126 y127=>gd (3≤[[(CV.v (.int .i64 y83)),(CV.v (.int .i64 y84)),(CV.v (.string y85)),(CV.sl 3 y86 none),(CV.sl 5 y87 none)],[(CV.v (.int .i64 y100)),(CV.v (.int .i64 y101)),(CV.v (.string y102)),(CV.sl 3 y103 none),(CV.sl 5 y104 none)],[(CV.v (.int .i64 y117)),(CV.v (.int .i64 y118)),(CV.v (.string y119)),(CV.sl 3 y120 none),(CV.sl 5 y121 none)]].length) fail (K0 6 0 ⟨#[]⟩ nilE (List.take 3 [[(CV.v (.int .i64 y83)),(CV.v (.int .i64 y84)),(CV.v (.string y85)),(CV.sl 3 y86 none),(CV.sl 5 y87 none)],[(CV.v (.int .i64 y100)),(CV.v (.int .i64 y101)),(CV.v (.string y102)),(CV.sl 3 y103 none),(CV.sl 5 y104 none)],[(CV.v (.int .i64 y117)),(CV.v (.int .i64 y118)),(CV.v (.string y119)),(CV.sl 3 y120 none),(CV.sl 5 y121 none)]]) y122 y123 y124 y125 y126 y127)) y111 y112 y113 y114 y115 y116 (z0d .add .i64 x6 1)) y105 y106 y107 y108 y109 y110 46) y94 y95 y96 y97 y98 y99 (z0d .add .i64 x6 1)) y88 y89 y90 y91 y92 y93 58) j21 (z0d .add .i64 j22 1) j23 j24 (z0d .sub .i64 j25 1) j26 (z0d .add .i64 x6 1)) else (s_p143 (fun y128 y129 y130 y131 y132 y133 y134 y135 y136 y137 y138=>p151 fail fu (fun y139 y140 y141 y142 y143 y144=>s_p143 (fun y153 y154 y155 y156 y157 y158 y159 y160 y161 y162 y163=>p143_2 fail fu s_p143 K0 y1 [[(CV.v (.int .i64 y128)),(CV.v (.int .i64 y129)),(CV.v (.string y130)),(CV.sl 3 y131 none),(CV.sl 5 y132 none)],[(CV.v (.int .i64 y153)),(CV.v (.int .i64 y154)),(CV.v (.string y155)),(CV.sl 3 y156 none),(CV.sl 5 y157 none)]] y158 y159 y160 y161 y162 y163) y139 y140 y141 y142 y143 y144 (z0d .add .i64 x6 1)) y133 y134 y135 y136 y137 y138 46) j21 (z0d .add .i64 j22 1) j23 j24 (z0d .sub .i64 j25 1) j26 (z0d .add .i64 x6 1))))))) y1)
def p143_4 {ρ:Type} (fail:ρ) (fu:Nat) (s_p143:(Int→Int→ByteArray→EL→EL→ByteArray→Int→Int→Int→Int→Int→ρ)→ByteArray→Int→Int→Int→Int→Int→Int→ρ) (K0:Int→Int→ByteArray→EL→EL→ByteArray→Int→Int→Int→Int→Int→ρ) (x6 y1:Int) (j15:ByteArray) (j16 j17 j18 j19 j20:Int):ρ :=
 bif (z0a .gtr x6 100) then (p147 fail fu (fun y164 y165 y166 y167 y168 y169=>p143_3 fail fu s_p143 K0 x6 y1 y164 y165 y166 y167 y168 y169) j15 j16 j17 j18 j19 j20 6 j16) else (p143_3 fail fu s_p143 K0 x6 y1 j15 j16 j17 j18 j19 j20)
def p143_5 {ρ:Type} (fail:ρ) (fu:Nat) (s_p143:(Int→Int→ByteArray→EL→EL→ByteArray→Int→Int→Int→Int→Int→ρ)→ByteArray→Int→Int→Int→Int→Int→Int→ρ) (K0:Int→Int→ByteArray→EL→EL→ByteArray→Int→Int→Int→Int→Int→ρ) (x6 y1:Int) (y2:ByteArray) (y3 y4 y5 y6 y7:Int) (j8:Bool):ρ :=
 bif j8 then (p147 fail fu (fun y9 y10 y11 y12 y13 y14=>K0 0 0 ⟨#[]⟩ nilE nilE y9 y10 y11 y12 y13 y14) y2 y3 y4 y5 y6 y7 5 y3) else (bif (z0a .eql y6 0) then (p147 fail fu (fun y170 y171 y172 y173 y174 y175=>p143_4 fail fu s_p143 K0 x6 y1 y170 y171 y172 y173 y174 y175) y2 y3 y4 y5 y6 y7 3 y3) else (p143_4 fail fu s_p143 K0 x6 y1 y2 y3 y4 y5 y6 y7))
def p143_b {ρ:Type} (fail:ρ) (fu:Nat) (s_p143:(Int→Int→ByteArray→EL→EL→ByteArray→Int→Int→Int→Int→Int→ρ)→ByteArray→Int→Int→Int→Int→Int→Int→ρ) (K0:Int→Int→ByteArray→EL→EL→ByteArray→Int→Int→Int→Int→Int→ρ) (x0:ByteArray) (x1 x2 x3 x4 x5 x6:Int):ρ :=
 p145 fail fu (fun y1 y2 y3 y4 y5 y6 y7=>bif (z0a .geq y3 ((y2.size:Nat):Int)) then (p143_5 fail fu s_p143 K0 x6 y1 y2 y3 y4 y5 y6 y7 true) else (bif (z0a .neq y1 35) then (bif (z0a .neq y1 42) then (bif (z0a .neq y1 40) then (bif (z0a .neq y1 92) then (bif (z0a .neq y1 33) then (bif (z0a .neq y1 61) then (p146 fail fu (fun y176=>p143_5 fail fu s_p143 K0 x6 y1 y2 y3 y4 y5 y6 y7 (!y176)) y1) else (p143_5 fail fu s_p143 K0 x6 y1 y2 y3 y4 y5 y6 y7 false)) else (p143_5 fail fu s_p143 K0 x6 y1 y2 y3 y4 y5 y6 y7 false)) else (p143_5 fail fu s_p143 K0 x6 y1 y2 y3 y4 y5 y6 y7 false)) else (p143_5 fail fu s_p143 K0 x6 y1 y2 y3 y4 y5 y6 y7 false)) else (p143_5 fail fu s_p143 K0 x6 y1 y2 y3 y4 y5 y6 y7 false)) else (p143_5 fail fu s_p143 K0 x6 y1 y2 y3 y4 y5 y6 y7 false))) x0 x1 x2 x3 x4 x5
def p143 {ρ:Type} (fail:ρ):Nat→(Int→Int→ByteArray→EL→EL→ByteArray→Int→Int→Int→Int→Int→ρ)→ByteArray→Int→Int→Int→Int→Int→Int→ρ
 | 0,_,_,_,_,_,_,_,_=>fail
 | n + 1,K0,x0,x1,x2,x3,x4,x5,x6=>p143_b fail n (p143 fail n) K0 x0 x1 x2 x3 x4 x5 x6
def p144_1 {ρ:Type} (fail:ρ) (fu:Nat) (K0:ByteArray→Int→Int→Int→Int→Int→ρ) (j7:ByteArray) (j8 j9 j10 j11 j12:Int):ρ :=
 K0 j7 j8 j9 j10 j11 j12
def p144 {ρ:Type} (fail:ρ) (fu:Nat) (K0:ByteArray→Int→Int→Int→Int→Int→ρ) (x0:ByteArray) (x1 x2 x3 x4 x5:Int):ρ :=
 p152 fail fu (fun y1 y2 y3 y4 y5 y6=>bif (z0a .lss y2 ((y1.size:Nat):Int)) then (p147 fail fu (fun y13 y14 y15 y16 y17 y18=>p144_1 fail fu K0 y13 y14 y15 y16 y17 y18) y1 y2 y3 y4 y5 y6 5 y2) else (p144_1 fail fu K0 y1 y2 y3 y4 y5 y6)) x0 x1 x2 x3 x4 x5
def p134 {ρ:Type} (fail:ρ) (fu:Nat) (K0:Int→Int→ByteArray→EL→EL→Int→Int→ρ) (x0:ByteArray):ρ :=
 bif (z0a .gtr ((x0.size:Nat):Int) 4000) then (K0 0 0 ⟨#[]⟩ nilE nilE 0 3) else (p143 fail fu (fun y1 y2 y3 y4 y5 y6 y7 y8 y9 y10 y11=>p144 fail fu (fun y12 y13 y14 y15 y16 y17=>bif (z0a .neq y14 0) then (K0 0 0 ⟨#[]⟩ nilE nilE y15 y14) else (K0 y1 y2 y3 y4 y5 0 0)) y6 y7 y8 y9 y10 y11) x0 0 0 0 2000 0 1)
def p104 {ρ:Type} (fail:ρ) (fu:Nat) (K0:Int→Int→ByteArray→EL→EL→ρ) (x0:ByteArray):ρ :=
 p134 fail fu (fun y1 y2 y3 y4 y5 y6 y7=>K0 y1 y2 y3 y4 y5) x0
def p57 {ρ:Type} (fail:ρ) (fu:Nat) (K0:Int→Int→ByteArray→EL→EL→ρ) (x0:ByteArray):ρ :=
 p104 fail fu (fun y1 y2 y3 y4 y5=>K0 y1 y2 y3 y4 y5) x0
def pt0:Tm:=.mk 2 0 ⟨#[78,97,116]⟩ [] []
theorem z1q:pt0.thin:=by simp [pt0,Tm.thin,Tm.thins,Lv.thin,Lv.thins]
theorem pt0_T {ρ:Type} (fail:ρ) (fu:Nat) (hf:600≤fu) (K:Int→Int→ByteArray→EL→EL→ρ):p104 fail fu K ⟨#[78,97,116]⟩=K pt0.k pt0.n pt0.nm (Lv.rows pt0.ls) (Tm.rows pt0.args):=by
 obtain⟨m,rfl⟩:∃ m,fu=m + 600:=⟨fu - 600,by omega⟩
 kernel_rfl
theorem pt0_c {ρ:Type} (fail:ρ) (fu:Nat) (hf:600≤fu) (K:Int→Int→ByteArray→EL→EL→ρ):p57 fail fu K ⟨#[78,97,116]⟩=K pt0.k pt0.n pt0.nm (Lv.rows pt0.ls) (Tm.rows pt0.args):=by rw [p57,pt0_T fail fu hf]
def pt1:Tm:=.mk 2 0 ⟨#[115,117,99,99]⟩ [] []
theorem w0k:pt1.thin:=by simp [pt1,Tm.thin,Tm.thins,Lv.thin,Lv.thins]
theorem pt1_T {ρ:Type} (fail:ρ) (fu:Nat) (hf:600≤fu) (K:Int→Int→ByteArray→EL→EL→ρ):p104 fail fu K ⟨#[115,117,99,99]⟩=K pt1.k pt1.n pt1.nm (Lv.rows pt1.ls) (Tm.rows pt1.args):=by
 obtain⟨m,rfl⟩:∃ m,fu=m + 600:=⟨fu - 600,by omega⟩
 kernel_rfl
theorem pt1_c {ρ:Type} (fail:ρ) (fu:Nat) (hf:600≤fu) (K:Int→Int→ByteArray→EL→EL→ρ):p57 fail fu K ⟨#[115,117,99,99]⟩=K pt1.k pt1.n pt1.nm (Lv.rows pt1.ls) (Tm.rows pt1.args):=by rw [p57,pt1_T fail fu hf]
def pt2:Tm:=.mk 2 0 ⟨#[97,100,100]⟩ [] []
theorem w5i:pt2.thin:=by simp [pt2,Tm.thin,Tm.thins,Lv.thin,Lv.thins]
theorem pt2_T {ρ:Type} (fail:ρ) (fu:Nat) (hf:600≤fu) (K:Int→Int→ByteArray→EL→EL→ρ):p104 fail fu K ⟨#[97,100,100]⟩=K pt2.k pt2.n pt2.nm (Lv.rows pt2.ls) (Tm.rows pt2.args):=by
 obtain⟨m,rfl⟩:∃ m,fu=m + 600:=⟨fu - 600,by omega⟩
 kernel_rfl
def pt3:Tm:=.mk 2 0 ⟨#[116,119,111]⟩ [] []
theorem k0q:pt3.thin:=by simp [pt3,Tm.thin,Tm.thins,Lv.thin,Lv.thins]
theorem pt3_T {ρ:Type} (fail:ρ) (fu:Nat) (hf:600≤fu) (K:Int→Int→ByteArray→EL→EL→ρ):p104 fail fu K ⟨#[116,119,111]⟩=K pt3.k pt3.n pt3.nm (Lv.rows pt3.ls) (Tm.rows pt3.args):=by
 obtain⟨m,rfl⟩:∃ m,fu=m + 600:=⟨fu - 600,by omega⟩
 kernel_rfl
theorem pt3_c {ρ:Type} (fail:ρ) (fu:Nat) (hf:600≤fu) (K:Int→Int→ByteArray→EL→EL→ρ):p57 fail fu K ⟨#[116,119,111]⟩=K pt3.k pt3.n pt3.nm (Lv.rows pt3.ls) (Tm.rows pt3.args):=by rw [p57,pt3_T fail fu hf]
def pt4:Tm:=.mk 2 0 ⟨#[105,100]⟩ [.mk 1 0 [.mk 0 0 []]] []
theorem w0j:pt4.thin:=by simp [pt4,Tm.thin,Tm.thins,Lv.thin,Lv.thins]
theorem pt4_T {ρ:Type} (fail:ρ) (fu:Nat) (hf:600≤fu) (K:Int→Int→ByteArray→EL→EL→ρ):p104 fail fu K ⟨#[105,100,123,83,48,125]⟩=K pt4.k pt4.n pt4.nm (Lv.rows pt4.ls) (Tm.rows pt4.args):=by
 obtain⟨m,rfl⟩:∃ m,fu=m + 600:=⟨fu - 600,by omega⟩
 kernel_rfl
def pt5:Tm:=.mk 2 0 ⟨#[122,101,114,111]⟩ [] []
theorem w5h:pt5.thin:=by simp [pt5,Tm.thin,Tm.thins,Lv.thin,Lv.thins]
theorem pt5_T {ρ:Type} (fail:ρ) (fu:Nat) (hf:600≤fu) (K:Int→Int→ByteArray→EL→EL→ρ):p104 fail fu K ⟨#[122,101,114,111]⟩=K pt5.k pt5.n pt5.nm (Lv.rows pt5.ls) (Tm.rows pt5.args):=by
 obtain⟨m,rfl⟩:∃ m,fu=m + 600:=⟨fu - 600,by omega⟩
 kernel_rfl
theorem pt5_c {ρ:Type} (fail:ρ) (fu:Nat) (hf:600≤fu) (K:Int→Int→ByteArray→EL→EL→ρ):p57 fail fu K ⟨#[122,101,114,111]⟩=K pt5.k pt5.n pt5.nm (Lv.rows pt5.ls) (Tm.rows pt5.args):=by rw [p57,pt5_T fail fu hf]
def pt6:Tm:=.mk 2 0 ⟨#[78,97,116,46,114,101,99]⟩ [.mk 1 0 [.mk 0 0 []]] []
theorem k0p:pt6.thin:=by simp [pt6,Tm.thin,Tm.thins,Lv.thin,Lv.thins]
theorem pt6_T {ρ:Type} (fail:ρ) (fu:Nat) (hf:600≤fu) (K:Int→Int→ByteArray→EL→EL→ρ):p104 fail fu K ⟨#[78,97,116,46,114,101,99,123,83,48,125]⟩=K pt6.k pt6.n pt6.nm (Lv.rows pt6.ls) (Tm.rows pt6.args):=by
 obtain⟨m,rfl⟩:∃ m,fu=m + 600:=⟨fu - 600,by omega⟩
 kernel_rfl
def pt7:Tm:=.mk 4 0 ⟨#[]⟩ [] [.mk 2 0 ⟨#[78,97,116]⟩ [] [],.mk 2 0 ⟨#[78,97,116]⟩ [] []]
theorem k0o:pt7.thin:=by simp [pt7,Tm.thin,Tm.thins,Lv.thin,Lv.thins]
theorem pt7_T {ρ:Type} (fail:ρ) (fu:Nat) (hf:600≤fu) (K:Int→Int→ByteArray→EL→EL→ρ):p104 fail fu K ⟨#[92,78,97,116,46,32,78,97,116]⟩=K pt7.k pt7.n pt7.nm (Lv.rows pt7.ls) (Tm.rows pt7.args):=by
 obtain⟨m,rfl⟩:∃ m,fu=m + 600:=⟨fu - 600,by omega⟩
 kernel_rfl
def pt8:Tm:=.mk 5 0 ⟨#[]⟩ [] [.mk 2 0 ⟨#[78,97,116]⟩ [] [],.mk 2 0 ⟨#[78,97,116]⟩ [] []]
theorem k0n:pt8.thin:=by simp [pt8,Tm.thin,Tm.thins,Lv.thin,Lv.thins]
theorem pt8_T {ρ:Type} (fail:ρ) (fu:Nat) (hf:600≤fu) (K:Int→Int→ByteArray→EL→EL→ρ):p104 fail fu K ⟨#[33,78,97,116,46,32,78,97,116]⟩=K pt8.k pt8.n pt8.nm (Lv.rows pt8.ls) (Tm.rows pt8.args):=by
 obtain⟨m,rfl⟩:∃ m,fu=m + 600:=⟨fu - 600,by omega⟩
 kernel_rfl
def pt9:Tm:=.mk 2 0 ⟨#[69,113]⟩ [.mk 1 0 [.mk 0 0 []]] []
theorem w5g:pt9.thin:=by simp [pt9,Tm.thin,Tm.thins,Lv.thin,Lv.thins]
theorem pt9_T {ρ:Type} (fail:ρ) (fu:Nat) (hf:600≤fu) (K:Int→Int→ByteArray→EL→EL→ρ):p104 fail fu K ⟨#[69,113,123,83,48,125]⟩=K pt9.k pt9.n pt9.nm (Lv.rows pt9.ls) (Tm.rows pt9.args):=by
 obtain⟨m,rfl⟩:∃ m,fu=m + 600:=⟨fu - 600,by omega⟩
 kernel_rfl
def pt10:Tm:=.mk 2 0 ⟨#[65,110,100]⟩ [] []
theorem w1z:pt10.thin:=by simp [pt10,Tm.thin,Tm.thins,Lv.thin,Lv.thins]
theorem k1n {ρ:Type} (fail:ρ) (fu:Nat) (hf:600≤fu) (K:Int→Int→ByteArray→EL→EL→ρ):p104 fail fu K ⟨#[65,110,100]⟩=K pt10.k pt10.n pt10.nm (Lv.rows pt10.ls) (Tm.rows pt10.args):=by
 obtain⟨m,rfl⟩:∃ m,fu=m + 600:=⟨fu - 600,by omega⟩
 kernel_rfl
def pt11:Tm:=.mk 2 0 ⟨#[110,111,116]⟩ [] []
theorem w8m:pt11.thin:=by simp [pt11,Tm.thin,Tm.thins,Lv.thin,Lv.thins]
theorem pt11_T {ρ:Type} (fail:ρ) (fu:Nat) (hf:600≤fu) (K:Int→Int→ByteArray→EL→EL→ρ):p104 fail fu K ⟨#[110,111,116]⟩=K pt11.k pt11.n pt11.nm (Lv.rows pt11.ls) (Tm.rows pt11.args):=by
 obtain⟨m,rfl⟩:∃ m,fu=m + 600:=⟨fu - 600,by omega⟩
 kernel_rfl
def pt12:Tm:=.mk 1 0 ⟨#[]⟩ [.mk 0 0 []] []
theorem w1y:pt12.thin:=by simp [pt12,Tm.thin,Tm.thins,Lv.thin,Lv.thins]
theorem pt12_T {ρ:Type} (fail:ρ) (fu:Nat) (hf:600≤fu) (K:Int→Int→ByteArray→EL→EL→ρ):p104 fail fu K ⟨#[42,48]⟩=K pt12.k pt12.n pt12.nm (Lv.rows pt12.ls) (Tm.rows pt12.args):=by
 obtain⟨m,rfl⟩:∃ m,fu=m + 600:=⟨fu - 600,by omega⟩
 kernel_rfl
theorem k1m {ρ:Type} (fail:ρ) (fu:Nat) (hf:600≤fu) (K:Int→Int→ByteArray→EL→EL→ρ):p57 fail fu K ⟨#[42,48]⟩=K pt12.k pt12.n pt12.nm (Lv.rows pt12.ls) (Tm.rows pt12.args):=by rw [p57,pt12_T fail fu hf]
def pt13:Tm:=.mk 2 0 ⟨#[80]⟩ [] []
theorem z5y:pt13.thin:=by simp [pt13,Tm.thin,Tm.thins,Lv.thin,Lv.thins]
theorem w5j {ρ:Type} (fail:ρ) (fu:Nat) (hf:600≤fu) (K:Int→Int→ByteArray→EL→EL→ρ):p104 fail fu K ⟨#[80]⟩=K pt13.k pt13.n pt13.nm (Lv.rows pt13.ls) (Tm.rows pt13.args):=by
 obtain⟨m,rfl⟩:∃ m,fu=m + 600:=⟨fu - 600,by omega⟩
 kernel_rfl
def pt14:Tm:=.mk 2 0 ⟨#[69,113,46,114,101,102,108]⟩ [.mk 1 0 [.mk 0 0 []]] []
theorem w8l:pt14.thin:=by simp [pt14,Tm.thin,Tm.thins,Lv.thin,Lv.thins]
theorem pt14_T {ρ:Type} (fail:ρ) (fu:Nat) (hf:600≤fu) (K:Int→Int→ByteArray→EL→EL→ρ):p104 fail fu K ⟨#[69,113,46,114,101,102,108,123,83,48,125]⟩=K pt14.k pt14.n pt14.nm (Lv.rows pt14.ls) (Tm.rows pt14.args):=by
 obtain⟨m,rfl⟩:∃ m,fu=m + 600:=⟨fu - 600,by omega⟩
 kernel_rfl
def pt15:Tm:=.mk 2 0 ⟨#[65,110,100,46,109,107]⟩ [] []
theorem w8k:pt15.thin:=by simp [pt15,Tm.thin,Tm.thins,Lv.thin,Lv.thins]
theorem pt15_T {ρ:Type} (fail:ρ) (fu:Nat) (hf:600≤fu) (K:Int→Int→ByteArray→EL→EL→ρ):p104 fail fu K ⟨#[65,110,100,46,109,107]⟩=K pt15.k pt15.n pt15.nm (Lv.rows pt15.ls) (Tm.rows pt15.args):=by
 obtain⟨m,rfl⟩:∃ m,fu=m + 600:=⟨fu - 600,by omega⟩
 kernel_rfl
def pt16:Tm:=.mk 2 0 ⟨#[105,100]⟩ [.mk 0 0 []] []
theorem w8j:pt16.thin:=by simp [pt16,Tm.thin,Tm.thins,Lv.thin,Lv.thins]
theorem pt16_T {ρ:Type} (fail:ρ) (fu:Nat) (hf:600≤fu) (K:Int→Int→ByteArray→EL→EL→ρ):p104 fail fu K ⟨#[105,100,123,48,125]⟩=K pt16.k pt16.n pt16.nm (Lv.rows pt16.ls) (Tm.rows pt16.args):=by
 obtain⟨m,rfl⟩:∃ m,fu=m + 600:=⟨fu - 600,by omega⟩
 kernel_rfl
def pt17:Tm:=.mk 2 0 ⟨#[112,46,97,108,108]⟩ [] []
theorem w1x:pt17.thin:=by simp [pt17,Tm.thin,Tm.thins,Lv.thin,Lv.thins]
theorem k1l {ρ:Type} (fail:ρ) (fu:Nat) (hf:600≤fu) (K:Int→Int→ByteArray→EL→EL→ρ):p104 fail fu K ⟨#[112,46,97,108,108]⟩=K pt17.k pt17.n pt17.nm (Lv.rows pt17.ls) (Tm.rows pt17.args):=by
 obtain⟨m,rfl⟩:∃ m,fu=m + 600:=⟨fu - 600,by omega⟩
 kernel_rfl
def pt18:Tm:=.mk 1 0 ⟨#[]⟩ [.mk 1 0 [.mk 0 0 []]] []
theorem w8i:pt18.thin:=by simp [pt18,Tm.thin,Tm.thins,Lv.thin,Lv.thins]
theorem pt18_T {ρ:Type} (fail:ρ) (fu:Nat) (hf:600≤fu) (K:Int→Int→ByteArray→EL→EL→ρ):p104 fail fu K ⟨#[42,83,48]⟩=K pt18.k pt18.n pt18.nm (Lv.rows pt18.ls) (Tm.rows pt18.args):=by
 obtain⟨m,rfl⟩:∃ m,fu=m + 600:=⟨fu - 600,by omega⟩
 kernel_rfl
theorem pt18_c {ρ:Type} (fail:ρ) (fu:Nat) (hf:600≤fu) (K:Int→Int→ByteArray→EL→EL→ρ):p57 fail fu K ⟨#[42,83,48]⟩=K pt18.k pt18.n pt18.nm (Lv.rows pt18.ls) (Tm.rows pt18.args):=by rw [p57,pt18_T fail fu hf]
def pt19:Tm:=.mk 2 0 ⟨#[78,97,116,46,114,101,99]⟩ [.mk 0 0 []] []
theorem w8h:pt19.thin:=by simp [pt19,Tm.thin,Tm.thins,Lv.thin,Lv.thins]
theorem pt19_T {ρ:Type} (fail:ρ) (fu:Nat) (hf:600≤fu) (K:Int→Int→ByteArray→EL→EL→ρ):p104 fail fu K ⟨#[78,97,116,46,114,101,99,123,48,125]⟩=K pt19.k pt19.n pt19.nm (Lv.rows pt19.ls) (Tm.rows pt19.args):=by
 obtain⟨m,rfl⟩:∃ m,fu=m + 600:=⟨fu - 600,by omega⟩
 kernel_rfl
theorem pt19_c {ρ:Type} (fail:ρ) (fu:Nat) (hf:600≤fu) (K:Int→Int→ByteArray→EL→EL→ρ):p57 fail fu K ⟨#[78,97,116,46,114,101,99,123,48,125]⟩=K pt19.k pt19.n pt19.nm (Lv.rows pt19.ls) (Tm.rows pt19.args):=by rw [p57,pt19_T fail fu hf]
def pt20:Tm:=.mk 4 0 ⟨#[]⟩ [] [.mk 1 0 ⟨#[]⟩ [.mk 4 0 []] [],.mk 4 0 ⟨#[]⟩ [] [.mk 0 0 ⟨#[]⟩ [] [],.mk 0 0 ⟨#[]⟩ [] []]]
theorem w8g:pt20.thin:=by simp [pt20,Tm.thin,Tm.thins,Lv.thin,Lv.thins]
theorem pt20_T {ρ:Type} (fail:ρ) (fu:Nat) (hf:600≤fu) (K:Int→Int→ByteArray→EL→EL→ρ):p104 fail fu K ⟨#[92,42,112,48,46,32,92,35,48,46,32,35,48]⟩=K pt20.k pt20.n pt20.nm (Lv.rows pt20.ls) (Tm.rows pt20.args):=by
 obtain⟨m,rfl⟩:∃ m,fu=m + 600:=⟨fu - 600,by omega⟩
 kernel_rfl
theorem pt20_c {ρ:Type} (fail:ρ) (fu:Nat) (hf:600≤fu) (K:Int→Int→ByteArray→EL→EL→ρ):p57 fail fu K ⟨#[92,42,112,48,46,32,92,35,48,46,32,35,48]⟩=K pt20.k pt20.n pt20.nm (Lv.rows pt20.ls) (Tm.rows pt20.args):=by rw [p57,pt20_T fail fu hf]
def pt21:Tm:=.mk 2 0 ⟨#[101,120,116]⟩ [.mk 0 0 [],.mk 1 0 [.mk 0 0 []]] []
theorem w8f:pt21.thin:=by simp [pt21,Tm.thin,Tm.thins,Lv.thin,Lv.thins]
theorem pt21_T {ρ:Type} (fail:ρ) (fu:Nat) (hf:600≤fu) (K:Int→Int→ByteArray→EL→EL→ρ):p104 fail fu K ⟨#[101,120,116,123,48,44,83,48,125]⟩=K pt21.k pt21.n pt21.nm (Lv.rows pt21.ls) (Tm.rows pt21.args):=by
 obtain⟨m,rfl⟩:∃ m,fu=m + 600:=⟨fu - 600,by omega⟩
 kernel_rfl
theorem pt21_c {ρ:Type} (fail:ρ) (fu:Nat) (hf:600≤fu) (K:Int→Int→ByteArray→EL→EL→ρ):p57 fail fu K ⟨#[101,120,116,123,48,44,83,48,125]⟩=K pt21.k pt21.n pt21.nm (Lv.rows pt21.ls) (Tm.rows pt21.args):=by rw [p57,pt21_T fail fu hf]
def pt22:Tm:=.mk 5 0 ⟨#[]⟩ [] [.mk 1 0 ⟨#[]⟩ [.mk 0 0 []] [],.mk 0 0 ⟨#[]⟩ [] []]
theorem w8e:pt22.thin:=by simp [pt22,Tm.thin,Tm.thins,Lv.thin,Lv.thins]
theorem pt22_T {ρ:Type} (fail:ρ) (fu:Nat) (hf:600≤fu) (K:Int→Int→ByteArray→EL→EL→ρ):p104 fail fu K ⟨#[33,42,48,46,32,35,48]⟩=K pt22.k pt22.n pt22.nm (Lv.rows pt22.ls) (Tm.rows pt22.args):=by
 obtain⟨m,rfl⟩:∃ m,fu=m + 600:=⟨fu - 600,by omega⟩
 kernel_rfl
theorem pt22_c {ρ:Type} (fail:ρ) (fu:Nat) (hf:600≤fu) (K:Int→Int→ByteArray→EL→EL→ρ):p57 fail fu K ⟨#[33,42,48,46,32,35,48]⟩=K pt22.k pt22.n pt22.nm (Lv.rows pt22.ls) (Tm.rows pt22.args):=by rw [p57,pt22_T fail fu hf]
def pt23:Tm:=.mk 2 0 ⟨#[76,105,115,116,46,114,101,99]⟩ [.mk 0 0 [],.mk 1 0 [.mk 0 0 []]] []
theorem w8d:pt23.thin:=by simp [pt23,Tm.thin,Tm.thins,Lv.thin,Lv.thins]
theorem pt23_T {ρ:Type} (fail:ρ) (fu:Nat) (hf:600≤fu) (K:Int→Int→ByteArray→EL→EL→ρ):p104 fail fu K ⟨#[76,105,115,116,46,114,101,99,123,48,44,83,48,125]⟩=K pt23.k pt23.n pt23.nm (Lv.rows pt23.ls) (Tm.rows pt23.args):=by
 obtain⟨m,rfl⟩:∃ m,fu=m + 600:=⟨fu - 600,by omega⟩
 kernel_rfl
theorem pt23_c {ρ:Type} (fail:ρ) (fu:Nat) (hf:600≤fu) (K:Int→Int→ByteArray→EL→EL→ρ):p57 fail fu K ⟨#[76,105,115,116,46,114,101,99,123,48,44,83,48,125]⟩=K pt23.k pt23.n pt23.nm (Lv.rows pt23.ls) (Tm.rows pt23.args):=by rw [p57,pt23_T fail fu hf]
def pt24:Tm:=.mk 2 0 ⟨#[86,101,99]⟩ [.mk 0 0 []] []
theorem w8c:pt24.thin:=by simp [pt24,Tm.thin,Tm.thins,Lv.thin,Lv.thins]
theorem pt24_T {ρ:Type} (fail:ρ) (fu:Nat) (hf:600≤fu) (K:Int→Int→ByteArray→EL→EL→ρ):p104 fail fu K ⟨#[86,101,99,123,48,125]⟩=K pt24.k pt24.n pt24.nm (Lv.rows pt24.ls) (Tm.rows pt24.args):=by
 obtain⟨m,rfl⟩:∃ m,fu=m + 600:=⟨fu - 600,by omega⟩
 kernel_rfl
theorem pt24_c {ρ:Type} (fail:ρ) (fu:Nat) (hf:600≤fu) (K:Int→Int→ByteArray→EL→EL→ρ):p57 fail fu K ⟨#[86,101,99,123,48,125]⟩=K pt24.k pt24.n pt24.nm (Lv.rows pt24.ls) (Tm.rows pt24.args):=by rw [p57,pt24_T fail fu hf]
def pt25:Tm:=.mk 4 0 ⟨#[]⟩ [] [.mk 5 0 ⟨#[]⟩ [] [.mk 2 0 ⟨#[78,97,116]⟩ [] [],.mk 1 0 ⟨#[]⟩ [.mk 0 0 []] []],.mk 3 0 ⟨#[]⟩ [] [.mk 0 0 ⟨#[]⟩ [] [],.mk 2 0 ⟨#[122,101,114,111]⟩ [] []]]
theorem w8b:pt25.thin:=by simp [pt25,Tm.thin,Tm.thins,Lv.thin,Lv.thins]
theorem pt25_T {ρ:Type} (fail:ρ) (fu:Nat) (hf:600≤fu) (K:Int→Int→ByteArray→EL→EL→ρ):p104 fail fu K ⟨#[92,33,78,97,116,46,32,42,48,46,32,40,35,48,32,122,101,114,111,41]⟩=K pt25.k pt25.n pt25.nm (Lv.rows pt25.ls) (Tm.rows pt25.args):=by
 obtain⟨m,rfl⟩:∃ m,fu=m + 600:=⟨fu - 600,by omega⟩
 kernel_rfl
theorem pt25_c {ρ:Type} (fail:ρ) (fu:Nat) (hf:600≤fu) (K:Int→Int→ByteArray→EL→EL→ρ):p57 fail fu K ⟨#[92,33,78,97,116,46,32,42,48,46,32,40,35,48,32,122,101,114,111,41]⟩=K pt25.k pt25.n pt25.nm (Lv.rows pt25.ls) (Tm.rows pt25.args):=by rw [p57,pt25_T fail fu hf]
def pt26:Tm:=.mk 3 0 ⟨#[]⟩ [] [.mk 3 0 ⟨#[]⟩ [] [.mk 3 0 ⟨#[]⟩ [] [.mk 2 0 ⟨#[86,101,99,46,114,101,99]⟩ [.mk 0 0 [],.mk 1 0 [.mk 0 0 []]] [],.mk 2 0 ⟨#[78,97,116]⟩ [] []],.mk 4 0 ⟨#[]⟩ [] [.mk 2 0 ⟨#[78,97,116]⟩ [] [],.mk 4 0 ⟨#[]⟩ [] [.mk 3 0 ⟨#[]⟩ [] [.mk 3 0 ⟨#[]⟩ [] [.mk 2 0 ⟨#[86,101,99]⟩ [.mk 0 0 []] [],.mk 2 0 ⟨#[78,97,116]⟩ [] []],.mk 0 0 ⟨#[]⟩ [] []],.mk 2 0 ⟨#[78,97,116]⟩ [] []]]],.mk 2 0 ⟨#[122,101,114,111]⟩ [] []]
theorem w8a:pt26.thin:=by simp [pt26,Tm.thin,Tm.thins,Lv.thin,Lv.thins]
theorem pt26_T {ρ:Type} (fail:ρ) (fu:Nat) (hf:600≤fu) (K:Int→Int→ByteArray→EL→EL→ρ):p104 fail fu K ⟨#[40,40,40,86,101,99,46,114,101,99,123,48,44,83,48,125,32,78,97,116,41,32,92,78,97,116,46,32,92,40,40,86,101,99,123,48,125,32,78,97,116,41,32,35,48,41,46,32,78,97,116,41,32,122,101,114,111,41]⟩=K pt26.k pt26.n pt26.nm (Lv.rows pt26.ls) (Tm.rows pt26.args):=by
 obtain⟨m,rfl⟩:∃ m,fu=m + 600:=⟨fu - 600,by omega⟩
 kernel_rfl
theorem pt26_c {ρ:Type} (fail:ρ) (fu:Nat) (hf:600≤fu) (K:Int→Int→ByteArray→EL→EL→ρ):p57 fail fu K ⟨#[40,40,40,86,101,99,46,114,101,99,123,48,44,83,48,125,32,78,97,116,41,32,92,78,97,116,46,32,92,40,40,86,101,99,123,48,125,32,78,97,116,41,32,35,48,41,46,32,78,97,116,41,32,122,101,114,111,41]⟩=K pt26.k pt26.n pt26.nm (Lv.rows pt26.ls) (Tm.rows pt26.args):=by rw [p57,pt26_T fail fu hf]
def p52_1 {ρ:Type} (fail:ρ) (fu:Nat) (K0:Int→EL→Int→ρ) (x0:EL) (x1 x2:Int) (j1:Bool):ρ :=
 bif j1 then (K0 0 x0 x1) else (gd ((0:Int)≤(z0d .sub .i64 (z0d .add .i64 x1 1) 1)) fail (gd ((z0d .sub .i64 (z0d .add .i64 x1 1) 1:Int) < (x0.length:Nat)) fail (rw_u8 fail (List.getD x0 ((z0d .sub .i64 (z0d .add .i64 x1 1) 1:Int).toNat) []) (fun c2=>gd ((x2:Int)≠0) fail (K0 (z0d .rem .i64 (IntKind.i64.wrap c2) x2) x0 (z0d .add .i64 x1 1))))))
def p52 {ρ:Type} (fail:ρ) (fu:Nat) (K0:Int→EL→Int→ρ) (x0:EL) (x1 x2:Int):ρ :=
 bif (z0a .geq x1 ((x0.length:Nat):Int)) then (p52_1 fail fu K0 x0 x1 x2 true) else (p52_1 fail fu K0 x0 x1 x2 (z0a .lss x2 1))
def p102 {ρ:Type} (fail:ρ) (fu:Nat) (K0:Int→Int→ByteArray→EL→EL→ρ) (x0:ByteArray) (x1:EL):ρ :=
 p104 fail fu (fun y1 y2 y3 y4 y5=>p133 fail fu (fun y6 y7 y8 y9 y10=>K0 y6 y7 y8 y9 y10) y1 y2 y3 y4 y5 x1) x0
def p51 {ρ:Type} (fail:ρ) (fu:Nat) (K0:Int→Int→ByteArray→EL→EL→ρ) (x0:Int):ρ :=
 K0 0 x0 ⟨#[]⟩ nilE nilE
def p54b_b {ρ:Type} (fail:ρ) (fu:Nat) (s_p54b:(Int→Int→ByteArray→EL→EL→EL→Int→ρ)→EL→Int→Int→ρ) (s_p53:(Int→Int→ByteArray→EL→EL→EL→Int→ρ)→EL→Int→Int→ρ) (K0:Int→Int→ByteArray→EL→EL→EL→Int→ρ) (x0:EL) (x1 x2:Int):ρ :=
 p52 fail fu (fun y1 y2 y3=>bif (z0a .eql y1 0) then (p57 fail fu (fun y4 y5 y6 y7 y8=>s_p53 (fun y9 y10 y11 y12 y13 y14 y15=>p103 fail fu (fun y16 y17 y18 y19 y20=>K0 y16 y17 y18 y19 y20 y14 y15) y4 y5 y6 y7 y8 y9 y10 y11 y12 y13) y2 y3 (z0d .add .i64 x2 1)) ⟨#[78,97,116]⟩) else (bif (z0a .eql y1 1) then (p57 fail fu (fun y21 y22 y23 y24 y25=>K0 y21 y22 y23 y24 y25 y2 y3) ⟨#[115,117,99,99]⟩) else (bif (z0a .eql y1 2) then (s_p53 (fun y26 y27 y28 y29 y30 y31 y32=>gd (1≤[[(CV.v (.int .i64 y26)),(CV.v (.int .i64 y27)),(CV.v (.string y28)),(CV.sl 3 y29 none),(CV.sl 5 y30 none)]].length) fail (p102 fail fu (fun y33 y34 y35 y36 y37=>K0 y33 y34 y35 y36 y37 y31 y32) ⟨#[97,100,100]⟩ (List.take 1 [[(CV.v (.int .i64 y26)),(CV.v (.int .i64 y27)),(CV.v (.string y28)),(CV.sl 3 y29 none),(CV.sl 5 y30 none)]]))) y2 y3 x2) else (p104 fail fu (fun y38 y39 y40 y41 y42=>p57 fail fu (fun y43 y44 y45 y46 y47=>s_p53 (fun y48 y49 y50 y51 y52 y53 y54=>p103 fail fu (fun y55 y56 y57 y58 y59=>gd (2≤[[(CV.v (.int .i64 y38)),(CV.v (.int .i64 y39)),(CV.v (.string y40)),(CV.sl 3 y41 none),(CV.sl 5 y42 none)],[(CV.v (.int .i64 y55)),(CV.v (.int .i64 y56)),(CV.v (.string y57)),(CV.sl 3 y58 none),(CV.sl 5 y59 none)]].length) fail (p102 fail fu (fun y60 y61 y62 y63 y64=>K0 y60 y61 y62 y63 y64 y53 y54) ⟨#[105,100,123,83,48,125]⟩ (List.take 2 [[(CV.v (.int .i64 y38)),(CV.v (.int .i64 y39)),(CV.v (.string y40)),(CV.sl 3 y41 none),(CV.sl 5 y42 none)],[(CV.v (.int .i64 y55)),(CV.v (.int .i64 y56)),(CV.v (.string y57)),(CV.sl 3 y58 none),(CV.sl 5 y59 none)]]))) y43 y44 y45 y46 y47 y48 y49 y50 y51 y52) y2 y3 (z0d .add .i64 x2 1)) ⟨#[78,97,116]⟩) ⟨#[33,78,97,116,46,32,78,97,116]⟩)))) x0 x1 4
def p53_1 {ρ:Type} (fail:ρ) (fu:Nat) (s_p54b:(Int→Int→ByteArray→EL→EL→EL→Int→ρ)→EL→Int→Int→ρ) (s_p53:(Int→Int→ByteArray→EL→EL→EL→Int→ρ)→EL→Int→Int→ρ) (K0:Int→Int→ByteArray→EL→EL→EL→Int→ρ) (x2 y1:Int) (y2:EL) (y3:Int) (j4:Bool):ρ :=
 bif j4 then (s_p53 (fun y5 y6 y7 y8 y9 y10 y11=>gd (1≤[[(CV.v (.int .i64 y5)),(CV.v (.int .i64 y6)),(CV.v (.string y7)),(CV.sl 3 y8 none),(CV.sl 5 y9 none)]].length) fail (p102 fail fu (fun y12 y13 y14 y15 y16=>K0 y12 y13 y14 y15 y16 y10 y11) ⟨#[115,117,99,99]⟩ (List.take 1 [[(CV.v (.int .i64 y5)),(CV.v (.int .i64 y6)),(CV.v (.string y7)),(CV.sl 3 y8 none),(CV.sl 5 y9 none)]]))) y2 y3 x2) else (bif (z0a .eql y1 3) then (s_p53 (fun y17 y18 y19 y20 y21 y22 y23=>s_p53 (fun y24 y25 y26 y27 y28 y29 y30=>gd (2≤[[(CV.v (.int .i64 y17)),(CV.v (.int .i64 y18)),(CV.v (.string y19)),(CV.sl 3 y20 none),(CV.sl 5 y21 none)],[(CV.v (.int .i64 y24)),(CV.v (.int .i64 y25)),(CV.v (.string y26)),(CV.sl 3 y27 none),(CV.sl 5 y28 none)]].length) fail (p102 fail fu (fun y31 y32 y33 y34 y35=>K0 y31 y32 y33 y34 y35 y29 y30) ⟨#[97,100,100]⟩ (List.take 2 [[(CV.v (.int .i64 y17)),(CV.v (.int .i64 y18)),(CV.v (.string y19)),(CV.sl 3 y20 none),(CV.sl 5 y21 none)],[(CV.v (.int .i64 y24)),(CV.v (.int .i64 y25)),(CV.v (.string y26)),(CV.sl 3 y27 none),(CV.sl 5 y28 none)]]))) y22 y23 x2) y2 y3 x2) else (bif (z0a .eql y1 4) then (bif (z0a .gtr x2 0) then (p52 fail fu (fun y36 y37 y38=>p51 fail fu (fun y39 y40 y41 y42 y43=>K0 y39 y40 y41 y42 y43 y37 y38) y36) y2 y3 x2) else (p57 fail fu (fun y44 y45 y46 y47 y48=>K0 y44 y45 y46 y47 y48 y2 y3) ⟨#[116,119,111]⟩)) else (bif (z0a .eql y1 5) then (p57 fail fu (fun y49 y50 y51 y52 y53=>s_p53 (fun y54 y55 y56 y57 y58 y59 y60=>gd (2≤[[(CV.v (.int .i64 y49)),(CV.v (.int .i64 y50)),(CV.v (.string y51)),(CV.sl 3 y52 none),(CV.sl 5 y53 none)],[(CV.v (.int .i64 y54)),(CV.v (.int .i64 y55)),(CV.v (.string y56)),(CV.sl 3 y57 none),(CV.sl 5 y58 none)]].length) fail (p102 fail fu (fun y61 y62 y63 y64 y65=>K0 y61 y62 y63 y64 y65 y59 y60) ⟨#[105,100,123,83,48,125]⟩ (List.take 2 [[(CV.v (.int .i64 y49)),(CV.v (.int .i64 y50)),(CV.v (.string y51)),(CV.sl 3 y52 none),(CV.sl 5 y53 none)],[(CV.v (.int .i64 y54)),(CV.v (.int .i64 y55)),(CV.v (.string y56)),(CV.sl 3 y57 none),(CV.sl 5 y58 none)]]))) y2 y3 x2) ⟨#[78,97,116]⟩) else (bif (z0a .eql y1 6) then (s_p54b (fun y66 y67 y68 y69 y70 y71 y72=>s_p53 (fun y73 y74 y75 y76 y77 y78 y79=>p68 fail fu (fun y80 y81 y82 y83 y84=>K0 y80 y81 y82 y83 y84 y78 y79) y66 y67 y68 y69 y70 y73 y74 y75 y76 y77) y71 y72 x2) y2 y3 x2) else (bif (z0a .eql y1 7) then (s_p53 (fun y85 y86 y87 y88 y89 y90 y91=>p57 fail fu (fun y92 y93 y94 y95 y96=>s_p53 (fun y97 y98 y99 y100 y101 y102 y103=>gd (3≤[[(CV.v (.int .i64 y92)),(CV.v (.int .i64 y93)),(CV.v (.string y94)),(CV.sl 3 y95 none),(CV.sl 5 y96 none)],[(CV.v (.int .i64 y85)),(CV.v (.int .i64 y86)),(CV.v (.string y87)),(CV.sl 3 y88 none),(CV.sl 5 y89 none)],[(CV.v (.int .i64 y97)),(CV.v (.int .i64 y98)),(CV.v (.string y99)),(CV.sl 3 y100 none),(CV.sl 5 y101 none)]].length) fail (K0 6 0 ⟨#[]⟩ nilE (List.take 3 [[(CV.v (.int .i64 y92)),(CV.v (.int .i64 y93)),(CV.v (.string y94)),(CV.sl 3 y95 none),(CV.sl 5 y96 none)],[(CV.v (.int .i64 y85)),(CV.v (.int .i64 y86)),(CV.v (.string y87)),(CV.sl 3 y88 none),(CV.sl 5 y89 none)],[(CV.v (.int .i64 y97)),(CV.v (.int .i64 y98)),(CV.v (.string y99)),(CV.sl 3 y100 none),(CV.sl 5 y101 none)]]) y102 y103)) y90 y91 (z0d .add .i64 x2 1)) ⟨#[78,97,116]⟩) y2 y3 x2) else (bif (z0a .eql y1 8) then (s_p53 (fun y104 y105 y106 y107 y108 y109 y110=>p57 fail fu (fun y111 y112 y113 y114 y115=>p57 fail fu (fun y116 y117 y118 y119 y120=>s_p53 (fun y121 y122 y123 y124 y125 y126 y127=>p103 fail fu (fun y128 y129 y130 y131 y132=>p103 fail fu (fun y133 y134 y135 y136 y137=>p104 fail fu (fun y138 y139 y140 y141 y142=>s_p53 (fun y143 y144 y145 y146 y147 y148 y149=>gd (4≤[[(CV.v (.int .i64 y138)),(CV.v (.int .i64 y139)),(CV.v (.string y140)),(CV.sl 3 y141 none),(CV.sl 5 y142 none)],[(CV.v (.int .i64 y104)),(CV.v (.int .i64 y105)),(CV.v (.string y106)),(CV.sl 3 y107 none),(CV.sl 5 y108 none)],[(CV.v (.int .i64 y133)),(CV.v (.int .i64 y134)),(CV.v (.string y135)),(CV.sl 3 y136 none),(CV.sl 5 y137 none)],[(CV.v (.int .i64 y143)),(CV.v (.int .i64 y144)),(CV.v (.string y145)),(CV.sl 3 y146 none),(CV.sl 5 y147 none)]].length) fail (p102 fail fu (fun y150 y151 y152 y153 y154=>K0 y150 y151 y152 y153 y154 y148 y149) ⟨#[78,97,116,46,114,101,99,123,83,48,125]⟩ (List.take 4 [[(CV.v (.int .i64 y138)),(CV.v (.int .i64 y139)),(CV.v (.string y140)),(CV.sl 3 y141 none),(CV.sl 5 y142 none)],[(CV.v (.int .i64 y104)),(CV.v (.int .i64 y105)),(CV.v (.string y106)),(CV.sl 3 y107 none),(CV.sl 5 y108 none)],[(CV.v (.int .i64 y133)),(CV.v (.int .i64 y134)),(CV.v (.string y135)),(CV.sl 3 y136 none),(CV.sl 5 y137 none)],[(CV.v (.int .i64 y143)),(CV.v (.int .i64 y144)),(CV.v (.string y145)),(CV.sl 3 y146 none),(CV.sl 5 y147 none)]]))) y126 y127 x2) ⟨#[92,78,97,116,46,32,78,97,116]⟩) y111 y112 y113 y114 y115 y128 y129 y130 y131 y132) y116 y117 y118 y119 y120 y121 y122 y123 y124 y125) y109 y110 (z0d .add .i64 x2 2)) ⟨#[78,97,116]⟩) ⟨#[78,97,116]⟩) y2 y3 x2) else (p57 fail fu (fun y155 y156 y157 y158 y159=>K0 y155 y156 y157 y158 y159 y2 y3) ⟨#[122,101,114,111]⟩)))))))
def p53_b {ρ:Type} (fail:ρ) (fu:Nat) (s_p54b:(Int→Int→ByteArray→EL→EL→EL→Int→ρ)→EL→Int→Int→ρ) (s_p53:(Int→Int→ByteArray→EL→EL→EL→Int→ρ)→EL→Int→Int→ρ) (K0:Int→Int→ByteArray→EL→EL→EL→Int→ρ) (x0:EL) (x1 x2:Int):ρ :=
 p52 fail fu (fun y1 y2 y3=>bif (z0a .eql y1 1) then (p53_1 fail fu s_p54b s_p53 K0 x2 y1 y2 y3 (z0a .eql y1 1)) else (p53_1 fail fu s_p54b s_p53 K0 x2 y1 y2 y3 (z0a .eql y1 2))) x0 x1 9
mutual
def p54b {ρ:Type} (fail:ρ):Nat→(Int→Int→ByteArray→EL→EL→EL→Int→ρ)→EL→Int→Int→ρ
 | 0,_,_,_,_=>fail
 | n + 1,K0,x0,x1,x2=>p54b_b fail n (p54b fail n) (p53 fail n) K0 x0 x1 x2
def p53 {ρ:Type} (fail:ρ):Nat→(Int→Int→ByteArray→EL→EL→EL→Int→ρ)→EL→Int→Int→ρ
 | 0,_,_,_,_=>fail
 | n + 1,K0,x0,x1,x2=>p53_b fail n (p54b fail n) (p53 fail n) K0 x0 x1 x2
end
def p105 {ρ:Type} (fail:ρ) (fu:Nat) (K0:Bool→EL→Int→ρ) (x0:EL) (x1:Int):ρ :=
 K0 (z0a .geq x1 ((x0.length:Nat):Int)) x0 x1
def p55_1 {ρ:Type} (fail:ρ) (fu:Nat) (s_p55:(Int→Int→ByteArray→EL→EL→EL→Int→ρ)→EL→Int→Int→ρ) (K0:Int→Int→ByteArray→EL→EL→EL→Int→ρ) (x2:Int) (j76:EL) (j77:Int):ρ :=
 p53 fail fu (fun y78 y79 y80 y81 y82 y83 y84=>gd (1≤[[(CV.v (.int .i64 y78)),(CV.v (.int .i64 y79)),(CV.v (.string y80)),(CV.sl 3 y81 none),(CV.sl 5 y82 none)]].length) fail (p102 fail fu (fun y85 y86 y87 y88 y89=>K0 y85 y86 y87 y88 y89 y83 y84) ⟨#[80]⟩ (List.take 1 [[(CV.v (.int .i64 y78)),(CV.v (.int .i64 y79)),(CV.v (.string y80)),(CV.sl 3 y81 none),(CV.sl 5 y82 none)]]))) j76 j77 x2
def p55_b {ρ:Type} (fail:ρ) (fu:Nat) (s_p55:(Int→Int→ByteArray→EL→EL→EL→Int→ρ)→EL→Int→Int→ρ) (K0:Int→Int→ByteArray→EL→EL→EL→Int→ρ) (x0:EL) (x1 x2:Int):ρ :=
 p52 fail fu (fun y1 y2 y3=>bif (z0a .eql y1 1) then (p53 fail fu (fun y4 y5 y6 y7 y8 y9 y10=>p57 fail fu (fun y11 y12 y13 y14 y15=>p53 fail fu (fun y16 y17 y18 y19 y20 y21 y22=>gd (3≤[[(CV.v (.int .i64 y11)),(CV.v (.int .i64 y12)),(CV.v (.string y13)),(CV.sl 3 y14 none),(CV.sl 5 y15 none)],[(CV.v (.int .i64 y4)),(CV.v (.int .i64 y5)),(CV.v (.string y6)),(CV.sl 3 y7 none),(CV.sl 5 y8 none)],[(CV.v (.int .i64 y16)),(CV.v (.int .i64 y17)),(CV.v (.string y18)),(CV.sl 3 y19 none),(CV.sl 5 y20 none)]].length) fail (p102 fail fu (fun y23 y24 y25 y26 y27=>K0 y23 y24 y25 y26 y27 y21 y22) ⟨#[69,113,123,83,48,125]⟩ (List.take 3 [[(CV.v (.int .i64 y11)),(CV.v (.int .i64 y12)),(CV.v (.string y13)),(CV.sl 3 y14 none),(CV.sl 5 y15 none)],[(CV.v (.int .i64 y4)),(CV.v (.int .i64 y5)),(CV.v (.string y6)),(CV.sl 3 y7 none),(CV.sl 5 y8 none)],[(CV.v (.int .i64 y16)),(CV.v (.int .i64 y17)),(CV.v (.string y18)),(CV.sl 3 y19 none),(CV.sl 5 y20 none)]]))) y9 y10 x2) ⟨#[78,97,116]⟩) y2 y3 x2) else (bif (z0a .eql y1 2) then (s_p55 (fun y28 y29 y30 y31 y32 y33 y34=>s_p55 (fun y35 y36 y37 y38 y39 y40 y41=>gd (2≤[[(CV.v (.int .i64 y28)),(CV.v (.int .i64 y29)),(CV.v (.string y30)),(CV.sl 3 y31 none),(CV.sl 5 y32 none)],[(CV.v (.int .i64 y35)),(CV.v (.int .i64 y36)),(CV.v (.string y37)),(CV.sl 3 y38 none),(CV.sl 5 y39 none)]].length) fail (p102 fail fu (fun y42 y43 y44 y45 y46=>K0 y42 y43 y44 y45 y46 y40 y41) ⟨#[65,110,100]⟩ (List.take 2 [[(CV.v (.int .i64 y28)),(CV.v (.int .i64 y29)),(CV.v (.string y30)),(CV.sl 3 y31 none),(CV.sl 5 y32 none)],[(CV.v (.int .i64 y35)),(CV.v (.int .i64 y36)),(CV.v (.string y37)),(CV.sl 3 y38 none),(CV.sl 5 y39 none)]]))) y33 y34 x2) y2 y3 x2) else (bif (z0a .eql y1 3) then (p57 fail fu (fun y47 y48 y49 y50 y51=>s_p55 (fun y52 y53 y54 y55 y56 y57 y58=>p48 fail fu (fun y59 y60 y61 y62 y63=>K0 y59 y60 y61 y62 y63 y57 y58) y47 y48 y49 y50 y51 y52 y53 y54 y55 y56) y2 y3 (z0d .add .i64 x2 1)) ⟨#[78,97,116]⟩) else (bif (z0a .eql y1 4) then (s_p55 (fun y64 y65 y66 y67 y68 y69 y70=>gd (1≤[[(CV.v (.int .i64 y64)),(CV.v (.int .i64 y65)),(CV.v (.string y66)),(CV.sl 3 y67 none),(CV.sl 5 y68 none)]].length) fail (p102 fail fu (fun y71 y72 y73 y74 y75=>K0 y71 y72 y73 y74 y75 y69 y70) ⟨#[110,111,116]⟩ (List.take 1 [[(CV.v (.int .i64 y64)),(CV.v (.int .i64 y65)),(CV.v (.string y66)),(CV.sl 3 y67 none),(CV.sl 5 y68 none)]]))) y2 y3 x2) else (bif (z0a .eql y1 5) then (p105 fail fu (fun y90 y91 y92=>bif (!y90) then (p57 fail fu (fun y93 y94 y95 y96 y97=>s_p55 (fun y98 y99 y100 y101 y102 y103 y104=>gd (2≤[[(CV.v (.int .i64 y93)),(CV.v (.int .i64 y94)),(CV.v (.string y95)),(CV.sl 3 y96 none),(CV.sl 5 y97 none)],[(CV.v (.int .i64 y98)),(CV.v (.int .i64 y99)),(CV.v (.string y100)),(CV.sl 3 y101 none),(CV.sl 5 y102 none)]].length) fail (p102 fail fu (fun y105 y106 y107 y108 y109=>K0 y105 y106 y107 y108 y109 y103 y104) ⟨#[105,100,123,83,48,125]⟩ (List.take 2 [[(CV.v (.int .i64 y93)),(CV.v (.int .i64 y94)),(CV.v (.string y95)),(CV.sl 3 y96 none),(CV.sl 5 y97 none)],[(CV.v (.int .i64 y98)),(CV.v (.int .i64 y99)),(CV.v (.string y100)),(CV.sl 3 y101 none),(CV.sl 5 y102 none)]]))) y91 y92 x2) ⟨#[42,48]⟩) else (p55_1 fail fu s_p55 K0 x2 y91 y92)) y2 y3) else (p55_1 fail fu s_p55 K0 x2 y2 y3)))))) x0 x1 6
def p55 {ρ:Type} (fail:ρ):Nat→(Int→Int→ByteArray→EL→EL→EL→Int→ρ)→EL→Int→Int→ρ
 | 0,_,_,_,_=>fail
 | n + 1,K0,x0,x1,x2=>p55_b fail n (p55 fail n) K0 x0 x1 x2
def p56_1 {ρ:Type} (fail:ρ) (fu:Nat) (s_p56:(Int→Int→ByteArray→EL→EL→Int→Int→ByteArray→EL→EL→EL→Int→ρ)→EL→Int→Int→ρ) (K0:Int→Int→ByteArray→EL→EL→Int→Int→ByteArray→EL→EL→EL→Int→ρ) (y53:EL) (y54 j55 j56:Int) (j57:ByteArray) (j58 j59:EL) (j60 j61:Int) (j62:ByteArray) (j63 j64:EL):ρ :=
 K0 j55 j56 j57 j58 j59 j60 j61 j62 j63 j64 y53 y54
def p56_2 {ρ:Type} (fail:ρ) (fu:Nat) (s_p56:(Int→Int→ByteArray→EL→EL→Int→Int→ByteArray→EL→EL→EL→Int→ρ)→EL→Int→Int→ρ) (K0:Int→Int→ByteArray→EL→EL→Int→Int→ByteArray→EL→EL→EL→Int→ρ) (y141:EL) (y142 j143 j144:Int) (j145:ByteArray) (j146 j147:EL) (j148 j149:Int) (j150:ByteArray) (j151 j152:EL):ρ :=
 K0 j143 j144 j145 j146 j147 j148 j149 j150 j151 j152 y141 y142
def p56_3 {ρ:Type} (fail:ρ) (fu:Nat) (s_p56:(Int→Int→ByteArray→EL→EL→Int→Int→ByteArray→EL→EL→EL→Int→ρ)→EL→Int→Int→ρ) (K0:Int→Int→ByteArray→EL→EL→Int→Int→ByteArray→EL→EL→EL→Int→ρ) (x2:Int) (j134:EL) (j135:Int):ρ :=
 p53 fail fu (fun y136 y137 y138 y139 y140 y141 y142=>gd (1≤[[(CV.v (.int .i64 y136)),(CV.v (.int .i64 y137)),(CV.v (.string y138)),(CV.sl 3 y139 none),(CV.sl 5 y140 none)]].length) fail (p102 fail fu (fun y153 y154 y155 y156 y157=>gd (1≤[[(CV.v (.int .i64 y136)),(CV.v (.int .i64 y137)),(CV.v (.string y138)),(CV.sl 3 y139 none),(CV.sl 5 y140 none)]].length) fail (p102 fail fu (fun y158 y159 y160 y161 y162=>p56_2 fail fu s_p56 K0 y141 y142 y153 y154 y155 y156 y157 y158 y159 y160 y161 y162) ⟨#[80]⟩ (List.take 1 [[(CV.v (.int .i64 y136)),(CV.v (.int .i64 y137)),(CV.v (.string y138)),(CV.sl 3 y139 none),(CV.sl 5 y140 none)]]))) ⟨#[112,46,97,108,108]⟩ (List.take 1 [[(CV.v (.int .i64 y136)),(CV.v (.int .i64 y137)),(CV.v (.string y138)),(CV.sl 3 y139 none),(CV.sl 5 y140 none)]]))) j134 j135 x2
def p56_b {ρ:Type} (fail:ρ) (fu:Nat) (s_p56:(Int→Int→ByteArray→EL→EL→Int→Int→ByteArray→EL→EL→EL→Int→ρ)→EL→Int→Int→ρ) (K0:Int→Int→ByteArray→EL→EL→Int→Int→ByteArray→EL→EL→EL→Int→ρ) (x0:EL) (x1 x2:Int):ρ :=
 p52 fail fu (fun y1 y2 y3=>bif (z0a .eql y1 1) then (p53 fail fu (fun y4 y5 y6 y7 y8 y9 y10=>p57 fail fu (fun y11 y12 y13 y14 y15=>gd (2≤[[(CV.v (.int .i64 y11)),(CV.v (.int .i64 y12)),(CV.v (.string y13)),(CV.sl 3 y14 none),(CV.sl 5 y15 none)],[(CV.v (.int .i64 y4)),(CV.v (.int .i64 y5)),(CV.v (.string y6)),(CV.sl 3 y7 none),(CV.sl 5 y8 none)]].length) fail (p102 fail fu (fun y16 y17 y18 y19 y20=>p57 fail fu (fun y21 y22 y23 y24 y25=>gd (3≤[[(CV.v (.int .i64 y21)),(CV.v (.int .i64 y22)),(CV.v (.string y23)),(CV.sl 3 y24 none),(CV.sl 5 y25 none)],[(CV.v (.int .i64 y4)),(CV.v (.int .i64 y5)),(CV.v (.string y6)),(CV.sl 3 y7 none),(CV.sl 5 y8 none)],[(CV.v (.int .i64 y4)),(CV.v (.int .i64 y5)),(CV.v (.string y6)),(CV.sl 3 y7 none),(CV.sl 5 y8 none)]].length) fail (p102 fail fu (fun y26 y27 y28 y29 y30=>K0 y16 y17 y18 y19 y20 y26 y27 y28 y29 y30 y9 y10) ⟨#[69,113,123,83,48,125]⟩ (List.take 3 [[(CV.v (.int .i64 y21)),(CV.v (.int .i64 y22)),(CV.v (.string y23)),(CV.sl 3 y24 none),(CV.sl 5 y25 none)],[(CV.v (.int .i64 y4)),(CV.v (.int .i64 y5)),(CV.v (.string y6)),(CV.sl 3 y7 none),(CV.sl 5 y8 none)],[(CV.v (.int .i64 y4)),(CV.v (.int .i64 y5)),(CV.v (.string y6)),(CV.sl 3 y7 none),(CV.sl 5 y8 none)]]))) ⟨#[78,97,116]⟩) ⟨#[69,113,46,114,101,102,108,123,83,48,125]⟩ (List.take 2 [[(CV.v (.int .i64 y11)),(CV.v (.int .i64 y12)),(CV.v (.string y13)),(CV.sl 3 y14 none),(CV.sl 5 y15 none)],[(CV.v (.int .i64 y4)),(CV.v (.int .i64 y5)),(CV.v (.string y6)),(CV.sl 3 y7 none),(CV.sl 5 y8 none)]]))) ⟨#[78,97,116]⟩) y2 y3 x2) else (bif (z0a .eql y1 2) then (s_p56 (fun y31 y32 y33 y34 y35 y36 y37 y38 y39 y40 y41 y42=>s_p56 (fun y43 y44 y45 y46 y47 y48 y49 y50 y51 y52 y53 y54=>gd (4≤[[(CV.v (.int .i64 y36)),(CV.v (.int .i64 y37)),(CV.v (.string y38)),(CV.sl 3 y39 none),(CV.sl 5 y40 none)],[(CV.v (.int .i64 y48)),(CV.v (.int .i64 y49)),(CV.v (.string y50)),(CV.sl 3 y51 none),(CV.sl 5 y52 none)],[(CV.v (.int .i64 y31)),(CV.v (.int .i64 y32)),(CV.v (.string y33)),(CV.sl 3 y34 none),(CV.sl 5 y35 none)],[(CV.v (.int .i64 y43)),(CV.v (.int .i64 y44)),(CV.v (.string y45)),(CV.sl 3 y46 none),(CV.sl 5 y47 none)]].length) fail (p102 fail fu (fun y65 y66 y67 y68 y69=>gd (2≤[[(CV.v (.int .i64 y36)),(CV.v (.int .i64 y37)),(CV.v (.string y38)),(CV.sl 3 y39 none),(CV.sl 5 y40 none)],[(CV.v (.int .i64 y48)),(CV.v (.int .i64 y49)),(CV.v (.string y50)),(CV.sl 3 y51 none),(CV.sl 5 y52 none)]].length) fail (p102 fail fu (fun y70 y71 y72 y73 y74=>p56_1 fail fu s_p56 K0 y53 y54 y65 y66 y67 y68 y69 y70 y71 y72 y73 y74) ⟨#[65,110,100]⟩ (List.take 2 [[(CV.v (.int .i64 y36)),(CV.v (.int .i64 y37)),(CV.v (.string y38)),(CV.sl 3 y39 none),(CV.sl 5 y40 none)],[(CV.v (.int .i64 y48)),(CV.v (.int .i64 y49)),(CV.v (.string y50)),(CV.sl 3 y51 none),(CV.sl 5 y52 none)]]))) ⟨#[65,110,100,46,109,107]⟩ (List.take 4 [[(CV.v (.int .i64 y36)),(CV.v (.int .i64 y37)),(CV.v (.string y38)),(CV.sl 3 y39 none),(CV.sl 5 y40 none)],[(CV.v (.int .i64 y48)),(CV.v (.int .i64 y49)),(CV.v (.string y50)),(CV.sl 3 y51 none),(CV.sl 5 y52 none)],[(CV.v (.int .i64 y31)),(CV.v (.int .i64 y32)),(CV.v (.string y33)),(CV.sl 3 y34 none),(CV.sl 5 y35 none)],[(CV.v (.int .i64 y43)),(CV.v (.int .i64 y44)),(CV.v (.string y45)),(CV.sl 3 y46 none),(CV.sl 5 y47 none)]]))) y41 y42 x2) y2 y3 x2) else (bif (z0a .eql y1 3) then (s_p56 (fun y75 y76 y77 y78 y79 y80 y81 y82 y83 y84 y85 y86=>p57 fail fu (fun y87 y88 y89 y90 y91=>p103 fail fu (fun y92 y93 y94 y95 y96=>p57 fail fu (fun y97 y98 y99 y100 y101=>p48 fail fu (fun y102 y103 y104 y105 y106=>K0 y92 y93 y94 y95 y96 y102 y103 y104 y105 y106 y85 y86) y97 y98 y99 y100 y101 y80 y81 y82 y83 y84) ⟨#[78,97,116]⟩) y87 y88 y89 y90 y91 y75 y76 y77 y78 y79) ⟨#[78,97,116]⟩) y2 y3 (z0d .add .i64 x2 1)) else (bif (z0a .eql y1 4) then (p55 fail fu (fun y107 y108 y109 y110 y111 y112 y113=>p51 fail fu (fun y114 y115 y116 y117 y118=>p103 fail fu (fun y119 y120 y121 y122 y123=>p106 fail fu (fun y124 y125 y126 y127 y128=>p48 fail fu (fun y129 y130 y131 y132 y133=>K0 y119 y120 y121 y122 y123 y129 y130 y131 y132 y133 y112 y113) y107 y108 y109 y110 y111 y124 y125 y126 y127 y128) y107 y108 y109 y110 y111 1 0) y107 y108 y109 y110 y111 y114 y115 y116 y117 y118) 0) y2 y3 x2) else (bif (z0a .eql y1 5) then (p105 fail fu (fun y163 y164 y165=>bif (!y163) then (s_p56 (fun y166 y167 y168 y169 y170 y171 y172 y173 y174 y175 y176 y177=>gd (2≤[[(CV.v (.int .i64 y171)),(CV.v (.int .i64 y172)),(CV.v (.string y173)),(CV.sl 3 y174 none),(CV.sl 5 y175 none)],[(CV.v (.int .i64 y166)),(CV.v (.int .i64 y167)),(CV.v (.string y168)),(CV.sl 3 y169 none),(CV.sl 5 y170 none)]].length) fail (p102 fail fu (fun y178 y179 y180 y181 y182=>K0 y178 y179 y180 y181 y182 y171 y172 y173 y174 y175 y176 y177) ⟨#[105,100,123,48,125]⟩ (List.take 2 [[(CV.v (.int .i64 y171)),(CV.v (.int .i64 y172)),(CV.v (.string y173)),(CV.sl 3 y174 none),(CV.sl 5 y175 none)],[(CV.v (.int .i64 y166)),(CV.v (.int .i64 y167)),(CV.v (.string y168)),(CV.sl 3 y169 none),(CV.sl 5 y170 none)]]))) y164 y165 x2) else (p56_3 fail fu s_p56 K0 x2 y164 y165)) y2 y3) else (p56_3 fail fu s_p56 K0 x2 y2 y3)))))) x0 x1 6
def p56 {ρ:Type} (fail:ρ):Nat→(Int→Int→ByteArray→EL→EL→Int→Int→ByteArray→EL→EL→EL→Int→ρ)→EL→Int→Int→ρ
 | 0,_,_,_,_=>fail
 | n + 1,K0,x0,x1,x2=>p56_b fail n (p56 fail n) K0 x0 x1 x2
def p78 {ρ:Type} (fail:ρ) (fu:Nat) (K0:Int→Int→EL→ρ) (x0 x1:Int) (x2:EL):ρ :=
 p101 fail fu (fun y1 y2 y3=>gd (1≤[[(CV.v (.int .i64 y1)),(CV.v (.int .i64 y2)),(CV.sl 3 y3 none)]].length) fail (K0 1 0 (List.take 1 [[(CV.v (.int .i64 y1)),(CV.v (.int .i64 y2)),(CV.sl 3 y3 none)]]))) x0 x1 x2
def p79 {ρ:Type} (fail:ρ) (fu:Nat) (K0:Int→Int→EL→ρ) (x0 x1:Int) (x2:EL) (x3 x4:Int) (x5:EL):ρ :=
 p101 fail fu (fun y1 y2 y3=>p101 fail fu (fun y4 y5 y6=>gd (2≤[[(CV.v (.int .i64 y1)),(CV.v (.int .i64 y2)),(CV.sl 3 y3 none)],[(CV.v (.int .i64 y4)),(CV.v (.int .i64 y5)),(CV.sl 3 y6 none)]].length) fail (K0 2 0 (List.take 2 [[(CV.v (.int .i64 y1)),(CV.v (.int .i64 y2)),(CV.sl 3 y3 none)],[(CV.v (.int .i64 y4)),(CV.v (.int .i64 y5)),(CV.sl 3 y6 none)]]))) x3 x4 x5) x0 x1 x2
def p80 {ρ:Type} (fail:ρ) (fu:Nat) (K0:Int→Int→EL→ρ) (x0 x1:Int) (x2:EL) (x3 x4:Int) (x5:EL):ρ :=
 p101 fail fu (fun y1 y2 y3=>p101 fail fu (fun y4 y5 y6=>gd (2≤[[(CV.v (.int .i64 y1)),(CV.v (.int .i64 y2)),(CV.sl 3 y3 none)],[(CV.v (.int .i64 y4)),(CV.v (.int .i64 y5)),(CV.sl 3 y6 none)]].length) fail (K0 3 0 (List.take 2 [[(CV.v (.int .i64 y1)),(CV.v (.int .i64 y2)),(CV.sl 3 y3 none)],[(CV.v (.int .i64 y4)),(CV.v (.int .i64 y5)),(CV.sl 3 y6 none)]]))) x3 x4 x5) x0 x1 x2
def p81 {ρ:Type} (fail:ρ) (fu:Nat) (K0:Int→Int→EL→ρ) (x0:Int):ρ :=
 K0 4 x0 nilE
def p50 {ρ:Type} (fail:ρ) (fu:Nat) (K0:Int→Int→EL→ρ):ρ :=
 K0 0 0 nilE
def p39_1 {ρ:Type} (fail:ρ) (fu:Nat) (s_p39:(Int→Int→EL→EL→Int→ρ)→EL→Int→Int→ρ) (K0:Int→Int→EL→EL→Int→ρ) (y2:EL) (y3:Int):ρ :=
 p50 fail fu (fun y39 y40 y41=>K0 y39 y40 y41 y2 y3) 
def p39_2 {ρ:Type} (fail:ρ) (fu:Nat) (s_p39:(Int→Int→EL→EL→Int→ρ)→EL→Int→Int→ρ) (K0:Int→Int→EL→EL→Int→ρ) (x2:Int) (y2:EL) (y3:Int) (j38:Bool):ρ :=
 bif j38 then (bif (z0a .gtr x2 0) then (p52 fail fu (fun y42 y43 y44=>p81 fail fu (fun y45 y46 y47=>K0 y45 y46 y47 y43 y44) y42) y2 y3 x2) else (p39_1 fail fu s_p39 K0 y2 y3 )) else (p39_1 fail fu s_p39 K0 y2 y3 )
def p39_b {ρ:Type} (fail:ρ) (fu:Nat) (s_p39:(Int→Int→EL→EL→Int→ρ)→EL→Int→Int→ρ) (K0:Int→Int→EL→EL→Int→ρ) (x0:EL) (x1 x2:Int):ρ :=
 p52 fail fu (fun y1 y2 y3=>bif (z0a .eql y1 1) then (s_p39 (fun y4 y5 y6 y7 y8=>p78 fail fu (fun y9 y10 y11=>K0 y9 y10 y11 y7 y8) y4 y5 y6) y2 y3 x2) else (bif (z0a .eql y1 2) then (s_p39 (fun y12 y13 y14 y15 y16=>s_p39 (fun y17 y18 y19 y20 y21=>p79 fail fu (fun y22 y23 y24=>K0 y22 y23 y24 y20 y21) y12 y13 y14 y17 y18 y19) y15 y16 x2) y2 y3 x2) else (bif (z0a .eql y1 3) then (s_p39 (fun y25 y26 y27 y28 y29=>s_p39 (fun y30 y31 y32 y33 y34=>p80 fail fu (fun y35 y36 y37=>K0 y35 y36 y37 y33 y34) y25 y26 y27 y30 y31 y32) y28 y29 x2) y2 y3 x2) else (bif (z0a .eql y1 4) then (p39_2 fail fu s_p39 K0 x2 y2 y3 (z0a .eql y1 4)) else (p39_2 fail fu s_p39 K0 x2 y2 y3 (z0a .eql y1 5)))))) x0 x1 6
def p39 {ρ:Type} (fail:ρ):Nat→(Int→Int→EL→EL→Int→ρ)→EL→Int→Int→ρ
 | 0,_,_,_,_=>fail
 | n + 1,K0,x0,x1,x2=>p39_b fail n (p39 fail n) K0 x0 x1 x2
end Go.Proofs.Ythncmjlcmlmnmaa
