/- What functions of this seat compute, by values: contracts (lemmas of the statement's proof, under the conditions that each names). -/
import Derived.Test.YtppljhpecoeakaaQN8
import Derived.Test.YtppljhpecoeakaaQV
set_option maxRecDepth 10000
set_option maxHeartbeats 2000000
set_option linter.unusedVariables false
set_option linter.unusedSimpArgs false
namespace Sim
open Go Go.Proofs
attribute [local congr] As At Am AI Av Au AA Gw
def atM (ls:List Lnk) (l:List Snd) (d:Dem) (t:Int):Prop:=d.2.2.2.1≤t∧t≤d.2.2.2.2∧d.2.2.1≤BA ls l d d.2.1 t
instance {ls:List Lnk} {l:List Snd} {d:Dem} {t:Int}:Decidable (atM ls l d t):=inferInstanceAs (Decidable (_∧_))
theorem TM {hn:Int} {ls:List Lnk} {l:List Snd} {d:Dem} (h:A9 hn ls l d=0):OKr hn ls l∧Dc hn d=true∧Br hn ls l=0∧svR ls l d l.length=false∧d.2.2.1≤BA ls l d d.2.1 d.2.2.2.2:=by
 unfold A9 at h
 split at h
 ·contradiction
 ·rename_i h1
  split at h
  ·cases h
  ·rename_i h2
   split at h
   ·contradiction
   ·rename_i h3
    split at h
    ·cases h
    ·rename_i h4
     split at h
     ·cases h
     ·rename_i h5
      exact ⟨right_zero.1 (Classical.not_not.1 h1),by simpa using h2,Classical.not_not.1 h3,by simpa using h4,by omega⟩
end Sim
namespace Sim
open Go Go.Proofs
structure Serving (hn:Int) (ls:List Lnk) (l:List Snd) (d:Dem):Prop where
 ok : OKr hn ls l
 from_ : 0≤d.1∧d.1<hn
 to_ : 0≤d.2.1∧d.2.1<hn
 dem : DX d
 fits : Br hn ls l=0
 fed : ∀k,k<l.length→Dd ls l (l.getD k dS).2.1 (frM ls l k) l.length≤BA ls l d (frM ls l k) (l.getD k dS).2.1
 late : d.2.2.1≤BA ls l d d.2.1 d.2.2.2.2
theorem serves_iff {hn:Int} {ls:List Lnk} {l:List Snd} {d:Dem}:A9 hn ls l d=0↔Serving hn ls l d:=by
 constructor
 ·intro h
  obtain ⟨h1,h2,h3,h4,h5⟩:=TM h
  simp only[Dc,Bool.and_eq_true,decide_eq_true_eq,hOK]at h2
  refine ⟨h1,h2.1.1,h2.1.2,h2.2,h3,fun k hk=>?_,h5⟩
  apply Classical.byContradiction
  intro hc
  have : svR ls l d l.length=true:=svR_iff.2 ⟨k,hk,by omega⟩
  rw [h4]at this;cases this
 ·intro h
  have hd:Dc hn d=true:=by
   simp only[Dc,Bool.and_eq_true,decide_eq_true_eq,hOK]
   exact ⟨⟨h.from_,h.to_⟩,h.dem⟩
  have hs:svR ls l d l.length=false:=by
   cases hs:svR ls l d l.length with
   | false=>rfl
   | true =>
    obtain ⟨k,hk,g⟩:=svR_iff.1 hs
    have := h.fed k hk
    omega
  unfold A9
  rw [if_neg (fun g=>g (right_zero.2 h.ok)),if_neg (by rw[hd];simp),if_neg (fun g=>g h.fits),if_neg (by rw[hs];simp),if_neg (by have:=h.late;omega)]
theorem ends {hn:Int} {ls:List Lnk} {l:List Snd} (ok:OKr hn ls l) {k:Nat} (hk:k<l.length):(0≤(Cb ls (l.getD k dS)).1∧(Cb ls (l.getD k dS)).1<hn)∧(0≤(Cb ls (l.getD k dS)).2.1∧(Cb ls (l.getD k dS)).2.1<hn)∧(Cb ls (l.getD k dS)).1≠(Cb ls (l.getD k dS)).2.1:=by
 have e1:=ok.link k hk
 have := ok.net.ends (l.getD k dS).1.toNat (by omega)
 exact ⟨⟨this.1,this.2.1⟩,⟨this.2.2.1,this.2.2.2.1⟩,this.2.2.2.2⟩
end Sim
namespace Sim
def Fk (A:List Arc) (u v:Nat) (x y:Int):List Arc:=A ++ [(u,v,x,y),(v,u,0,-y)]
def CL (out:List (List Nat)) (u v n:Nat):List (List Nat):=(out.set u (out.getD u [] ++ [n])).set v (out.getD v [] ++ [n+1])
def gA (p:Nat→Arc):Nat→List Arc
 | 0 => []
 | n+1=>Fk (gA p n) (p n).1 (p n).2.1 (p n).2.2.1 (p n).2.2.2
def gO (p:Nat→Arc) (N:Nat):Nat→List (List Nat)
 | 0=>List.replicate N []
 | n+1=>CL (gO p N n) (p n).1 (p n).2.1 (gA p n).length
section
variable {p:Nat→Arc} {N n:Nat}
theorem Cs:∀ {n},(gA p n).length=2*n
 | 0=>rfl
 | n+1=>by rw[gA,Fk,List.length_append,Cs];simp;omega
theorem I5 {k:Nat} (h:k<2*n):(gA p (n+1)).getD k dA=(gA p n).getD k dA:=by
 rw [gA,Fk,List.getD_eq_getElem?_getD,List.getElem?_append_left (by rw[Cs];exact h),List.getD_eq_getElem?_getD]
theorem Ie:∀ {n i:Nat},i<n→(gA p n).getD (2*i) dA=p i
 | 0,i,h=>absurd h (by omega)
 | n+1,i,h=>by
  by_cases e:i=n
  ·subst e
   rw [gA,Fk,List.getD_eq_getElem?_getD,List.getElem?_append_right (by rw[Cs];omega),Cs,Nat.sub_self];rfl
  ·rw [I5 (by omega),Ie (by omega)]
theorem KO:∀ {n i:Nat},i<n→(gA p n).getD (2*i+1) dA=((p i).2.1,(p i).1,0,-(p i).2.2.2)
 | 0,i,h=>absurd h (by omega)
 | n+1,i,h=>by
  by_cases e:i=n
  ·subst e
   rw [gA,Fk,List.getD_eq_getElem?_getD,List.getElem?_append_right (by rw[Cs];omega),Cs,show 2*i+1-2*i=1 by omega];rfl
  ·rw [I5 (by omega),KO (by omega)]
def J3 (p:Nat→Arc) (N n:Nat):Prop:=∀i,i<n→(p i).1<N∧(p i).2.1<N∧(p i).1≠(p i).2.1∧0≤(p i).2.2.1∧0≤(p i).2.2.2∧(p i).2.2.2≤1000000
theorem DA:∀ {n},(gO p N n).length=N
 | 0=>by rw[gO,List.length_replicate]
 | n+1=>by rw[gO,CL,List.length_set,List.length_set,DA]
theorem QX {out:List (List Nat)} {u v m w:Nat} (hu:u<out.length) (hv:v<out.length) (huv:u≠v):(CL out u v m).getD w []=if w=v then out.getD v [] ++ [m+1]else if w=u then out.getD u [] ++ [m]else out.getD w []:=by
 unfold CL
 by_cases c1:w=v
 ·subst c1
  rw [if_pos rfl,List.getD_eq_getElem?_getD,List.getElem?_set_self (by rw[List.length_set];exact hv)];rfl
 ·rw [if_neg c1]
  by_cases c2:w=u
  ·subst c2
   rw [if_pos rfl,List.getD_eq_getElem?_getD,List.getElem?_set_ne (fun e=>c1 e.symm),List.getElem?_set_self hu];rfl
  ·rw [if_neg c2,List.getD_eq_getElem?_getD,List.getElem?_set_ne (fun e=>c1 e.symm),List.getElem?_set_ne (fun e=>c2 e.symm),List.getD_eq_getElem?_getD]
theorem QY:∀ {n},J3 p N n→∀ {u:Nat},u<N→∀ {k},k∈(gO p N n).getD u []↔k<2*n∧aF (gA p n) k=u
 | 0,_,u,hu,k=>by simp[gO,hu]
 | n + 1,h,u,hu,k=>by
  have ih:=QY (n:=n) (fun i hi=>h i (by omega)) hu (k:=k)
  obtain ⟨h1,h2,h3,_⟩:=h n (by omega)
  rw [gO,QX (by rw[DA];exact h1) (by rw[DA];exact h2) h3]
  have e0:k<2*n→aF (gA p (n+1)) k=aF (gA p n) k:=fun hk=>by unfold aF;rw[I5 hk]
  have e1:aF (gA p (n+1)) (2*n)=(p n).1:=by unfold aF;rw[Ie (by omega)]
  have e2:aF (gA p (n+1)) (2*n+1)=(p n).2.1:=by unfold aF;rw[KO (by omega)]
  have key:k<2*(n+1)∧aF (gA p (n+1)) k=u↔(k<2*n∧aF (gA p n) k=u)∨(k=2*n∧(p n).1=u)∨(k=2*n+1∧(p n).2.1=u):=by
   constructor
   ·rintro ⟨a1,a2⟩
    by_cases c:k<2*n
    ·rw [e0 c]at a2;exact .inl ⟨c,a2⟩
    ·by_cases c2:k=2*n
     ·subst c2;rw[e1]at a2;exact .inr (.inl ⟨rfl,a2⟩)
     ·have : k=2*n+1:=by omega
      subst this;rw[e2]at a2;exact .inr (.inr ⟨rfl,a2⟩)
   ·rintro (⟨a1,a2⟩ | ⟨a1,a2⟩ | ⟨a1,a2⟩)
    ·exact ⟨by omega,by rw[e0 a1];exact a2⟩
    ·subst a1;exact⟨by omega,by rw[e1];exact a2⟩
    ·subst a1;exact⟨by omega,by rw[e2];exact a2⟩
  rw [key,Cs]
  by_cases c1:u=(p n).2.1
  ·rw [if_pos c1,List.mem_append,List.mem_singleton,←c1,ih]
   constructor
   ·rintro (a | a)
    ·exact .inl a
    ·exact .inr (.inr ⟨a,rfl⟩)
   ·rintro (a | a | a)
    ·exact .inl a
    ·exact absurd (a.2.trans c1) h3
    ·exact .inr a.1
  ·rw [if_neg c1]
   by_cases c2:u=(p n).1
   ·rw [if_pos c2,List.mem_append,List.mem_singleton,←c2,ih]
    constructor
    ·rintro (a | a)
     ·exact .inl a
     ·exact .inr (.inl ⟨a,rfl⟩)
    ·rintro (a | a | a)
     ·exact .inl a
     ·exact .inr a.1
     ·exact absurd a.2.symm c1
   ·rw [if_neg c2,ih]
    constructor
    ·exact .inl
    ·rintro (a | a | a)
     ·exact a
     ·exact absurd a.2.symm c2
     ·exact absurd a.2.symm c1
theorem MX:∀ {n},J3 p N n→∀u,((gO p N n).getD u []).length≤n
 | 0,_,u=>by
  rw [gO,List.getD_eq_getElem?_getD,List.getElem?_replicate]
  split <;> simp
 | n+1,h,u=>by
  have ih:=MX (n:=n) fun i hi=>h i (by omega)
  obtain ⟨h1,h2,h3,_⟩:=h n (by omega)
  rw [gO,QX (by rw[DA];exact h1) (by rw[DA];exact h2) h3]
  have i1:=ih (p n).1
  have i2:=ih (p n).2.1
  have i3:=ih u
  split
  ·rw [List.length_append,List.length_singleton];omega
  ·split
   ·rw [List.length_append,List.length_singleton];omega
   ·omega
theorem XZ {out:List (List Nat)} {done:List Bool} {b:Nat} (h:∀u,(out.getD u []).length≤b):∀n,QE out done n≤n*b
 | 0=>by simp[QE]
 | n+1=>by
  have ih:=XZ (done:=done) h n
  have := h n
  rw [QE,Nat.succ_mul]
  split <;> omega
theorem Ae7 (h:J3 p N n) {s:Nat}:Ez (gO p N n) (ini N s)≤N*n+1:=by
 have := XZ (done:=(ini N s).done) (MX h) N
 unfold Ez
 rw [DA]
 have e:(ini N s).q.length=1:=rfl
 omega
theorem cR {i:Nat} (h:i<n):aF (gA p n) (2*i)=(p i).1:=by unfold aF;rw[Ie h]
theorem cT {i:Nat} (h:i<n):aT (gA p n) (2*i)=(p i).2.1:=by unfold aT;rw[Ie h]
theorem oD {i:Nat} (h:i<n):aL (gA p n) (2*i)=(p i).2.2.1:=by unfold aL;rw[Ie h]
theorem zO {i:Nat} (h:i<n):aP (gA p n) (2*i)=(p i).2.2.2:=by unfold aP;rw[Ie h]
theorem oE {i:Nat} (h:i<n):aF (gA p n) (2*i+1)=(p i).2.1:=by unfold aF;rw[KO h]
theorem oF {i:Nat} (h:i<n):aT (gA p n) (2*i+1)=(p i).1:=by unfold aT;rw[KO h]
theorem J4 {i:Nat} (h:i<n):aL (gA p n) (2*i+1)=0:=by unfold aL;rw[KO h]
theorem Acj {i:Nat} (h:i<n):aP (gA p n) (2*i+1) = -(p i).2.2.2:=by unfold aP;rw[KO h]
theorem B9 {k:Nat} (h:k<2*n):∃i,i<n∧(k=2*i∨k=2*i+1):=⟨k / 2,by omega,by omega⟩
theorem Ai4 (h:J3 p N n):WPr (gA p n) n:=by
 refine ⟨Cs,fun i hi=>?_,fun i hi=>?_,fun i hi=>?_,fun j hj=>?_⟩
 ·rw [oE hi,cT hi]
 ·rw [oF hi,cR hi]
 ·rw [Acj hi,zO hi]
 ·obtain ⟨i,hi,rfl | rfl⟩:=B9 hj
  ·rw [oD hi];exact (h i hi).2.2.2.1
  ·rw [J4 hi];exact Int.le_refl _
theorem oG (h:J3 p N n) {s t:Nat} (hs:s<N) (ht:t<N) (hst:s≠t):SI (gA p n) (gO p N n) (List.replicate N 0) N n s t 0:=by
 have ar:∀k,k<(gA p n).length→aF (gA p n) k<N∧aT (gA p n) k<N:=fun k hk=>by
  rw [Cs]at hk
  obtain ⟨i,hi,rfl | rfl⟩:=B9 hk
  ·rw [cR hi,cT hi];exact⟨(h i hi).1,(h i hi).2.1⟩
  ·rw [oE hi,oF hi];exact⟨(h i hi).2.1,(h i hi).1⟩
 have l0:∀v,(List.replicate N (0:Int)).getD v 0=0:=fun v=>by
  rw [List.getD_eq_getElem?_getD,List.getElem?_replicate]
  split <;> rfl
 refine ⟨Ai4 h,ar,fun u hu k hk=>?_,fun k hk=>?_,DA,by simp,hs,ht,hst,fun k hk=>?_,l0 s,fun v _=>by rw[l0];omega,fun v hv=>?_,fun _=>0,fun k hk hl=>?_,fun v _=>(l0 v).symm⟩
 ·rw [Cs];exact (QY h hu).1 hk
 ·have :=(ar k hk).1
  rw [Cs]at hk
  exact (QY h this).2 ⟨hk,rfl⟩
 ·rw [Cs]at hk
  obtain ⟨i,hi,rfl | rfl⟩:=B9 hk
  ·rw [zO hi];have:=h i hi;omega
  ·rw [Acj hi];have:=h i hi;omega
 ·unfold FN.net
  rw [A5]
  ·split <;> split <;> rfl
  ·intro i hi
   have hi':i<n:=by
    unfold fnA at hi;dsimp only at hi;rw[Cs]at hi;omega
   have : flA (gA p n) i=0:=J4 hi'
   rw [this]
   split <;> split <;> rfl
 ·rw [Cs]at hk
  obtain ⟨i,hi,rfl | rfl⟩:=B9 hk
  ·rw [zO hi];have:=h i hi;dsimp only;omega
  ·rw [J4 hi]at hl;omega
end
def fnP (p:Nat→Arc) (N n s t:Nat):FN:=⟨N,n,s,t,fun i=>(p i).1,fun i=>(p i).2.1,fun i=>(p i).2.2.1,fun i=>(p i).2.2.2⟩
theorem QZ {p:Nat→Arc} {N n s t:Nat} (h:J3 p N n) (hs:s<N) (ht:t<N):(fnP p N n s t).WF:=⟨hs,ht,fun i hi=>⟨(h i hi).1,(h i hi).2.1⟩⟩
theorem X0 {p:Nat→Arc} {N n s t:Nat} {f:Nat→Int} {v:Nat}:(fnA (gA p n) N s t).net f v=(fnP p N n s t).net f v:=by
 unfold FN.net
 have e:(fnA (gA p n) N s t).m=n:=by unfold fnA;dsimp only;rw[Cs];omega
 rw [e]
 refine Ah fun i hi=>?_
 show (if aF (gA p n) (2*i)=v then f i else 0)-(if aT (gA p n) (2*i)=v then f i else 0)=_
 rw [cR hi,cT hi];rfl
theorem fnA_flow {p:Nat→Arc} {N n s t:Nat} {f:Nat→Int} {b:Int}:(fnA (gA p n) N s t).Flow f b↔(fnP p N n s t).Flow f b:=by
 have e:(fnA (gA p n) N s t).m=n:=by unfold fnA;dsimp only;rw[Cs];omega
 have hc:∀i,i<n→(fnA (gA p n) N s t).cap i=(fnP p N n s t).cap i:=fun i hi=>by
  show aL (gA p n) (2*i)+aL (gA p n) (2*i+1)=_
  rw [oD hi,J4 hi,Int.add_zero];rfl
 constructor
 ·rintro ⟨h1,h2,h3⟩
  rw [e]at h1 h2
  exact ⟨h1,fun i hi=>by rw[←hc i hi];exact h2 i hi,fun v hv=>by rw[←X0];exact h3 v hv⟩
 ·rintro ⟨h1,h2,h3⟩
  exact ⟨by rw[e];exact h1,fun i hi=>by rw[e]at hi;rw[hc i hi];exact h2 i hi,fun v hv=>by rw[X0];exact h3 v hv⟩
theorem fnA_pot {p:Nat→Arc} {N n s t:Nat} {f φ:Nat→Int}:(fnA (gA p n) N s t).Pot f φ↔(fnP p N n s t).Pot f φ:=by
 have e:(fnA (gA p n) N s t).m=n:=by unfold fnA;dsimp only;rw[Cs];omega
 have key:∀i,i<n→(fnA (gA p n) N s t).cap i=(fnP p N n s t).cap i∧(fnA (gA p n) N s t).pr i=(fnP p N n s t).pr i∧(fnA (gA p n) N s t).fr i=(fnP p N n s t).fr i∧(fnA (gA p n) N s t).to i=(fnP p N n s t).to i:=fun i hi=>by
  refine ⟨?_,zO hi,cR hi,cT hi⟩
  show aL (gA p n) (2*i)+aL (gA p n) (2*i+1)=_
  rw [oD hi,J4 hi,Int.add_zero];rfl
 unfold FN.Pot
 rw [e]
 show _↔∀i,i<n→_
 constructor
 ·intro h i hi
  obtain ⟨k1,k2,k3,k4⟩:=key i hi
  have := h i hi
  rwa [k1,k2,k3,k4]at this
 ·intro h i hi
  obtain ⟨k1,k2,k3,k4⟩:=key i hi
  rw [k1,k2,k3,k4]
  exact h i hi
theorem WN {p:Nat→Arc} {N n s t:Nat} (h:J3 p N n) (hs:s<N) (ht:t<N) (hst:s≠t) {bytes:Int} (hb:0≤bytes) :
  (fnP p N n s t).Flow (flA (Da (gA p n) (gO p N n) (List.replicate N 0) N s t bytes).1) (Da (gA p n) (gO p N n) (List.replicate N 0) N s t bytes).2 ∧
  (∃ φ,(fnP p N n s t).Pot (flA (Da (gA p n) (gO p N n) (List.replicate N 0) N s t bytes).1) φ) ∧
  0 ≤ (Da (gA p n) (gO p N n) (List.replicate N 0) N s t bytes).2∧(Da (gA p n) (gO p N n) (List.replicate N 0) N s t bytes).2≤bytes ∧
  ((Da (gA p n) (gO p N n) (List.replicate N 0) N s t bytes).2<bytes→∀f b,(fnP p N n s t).Flow f b→b≤(Da (gA p n) (gO p N n) (List.replicate N 0) N s t bytes).2) ∧
  (Da (gA p n) (gO p N n) (List.replicate N 0) N s t bytes).1.length=2*n:=by
 have S:=oG h hs ht hst
 have R:=QK (bytes:=bytes) S
 obtain ⟨lv',S',h1,h2,h3,h4⟩:=Xo R S hb
 obtain ⟨f1,f2,φ,f3⟩:=QJ S'
 rw [h4]at f2 f3
 exact ⟨fnA_flow.1 f2,⟨φ,fnA_pot.1 f3⟩,h2,h1,fun hlt f b hf=>Aeg S' (h3 hlt) (f:=f) (by rw[h4];exact fnA_flow.2 hf),S'.wp.len⟩
end Sim
namespace Sim
theorem De {f:Nat→Int} {a:Nat}:∀ {b},Aj f (a+b)=Aj f a+Aj (fun i=>f (a+i)) b
 | 0=>by simp[Aj]
 | b+1=>by rw[←Nat.add_assoc,Aj,De,Aj];omega
theorem DM {f:Nat→Int} {W:Nat}:∀ {D},Aj f (D*W)=Aj (fun t=>Aj (fun j=>f (t*W+j)) W) D
 | 0=>by rw[Nat.zero_mul];rfl
 | D+1=>by rw[Nat.succ_mul,De,DM,Aj]
theorem CA {g:Nat→Int} {a:Nat}:∀ {n},Aj (fun i=>if i=a then g i else 0) n=if a<n then g a else 0
 | 0=>by simp[Aj]
 | n+1=>by
  rw [Aj,CA]
  by_cases c:n=a
  ·subst c;rw[if_neg (by omega),if_pos rfl,if_pos (by omega)];omega
  ·rw [if_neg c]
   by_cases c2:a<n
   ·rw [if_pos c2,if_pos (by omega)];omega
   ·rw [if_neg c2,if_neg (by omega)];rfl
theorem Fw {f:Nat→Int} {k:Nat}:∀ {n},(∀i,i<n→0≤f i)→k<n→f k≤Aj f n
 | 0,_,h=>absurd h (by omega)
 | n+1,h,hk=>by
  have h0:=Bt (f:=f) (n:=n) fun i hi=>h i (by omega)
  rw [Aj]
  by_cases c:k=n
  ·subst c;omega
  ·have := Fw (f:=f) (n:=n) (fun i hi=>h i (by omega)) (show k<n by omega)
   have := h n (by omega)
   omega
theorem Dh {h t x t' x':Nat} (hx:x<h) (hx':x'<h):t'*h+x'=t*h+x↔t'=t∧x'=x:=by
 constructor
 ·intro e
  have h1:(t'*h+x') / h=t':=by rw[Nat.mul_comm,Nat.mul_add_div (by omega),Nat.div_eq_of_lt hx'];omega
  have h2:(t*h+x) / h=t:=by rw[Nat.mul_comm,Nat.mul_add_div (by omega),Nat.div_eq_of_lt hx];omega
  rw [e,h2]at h1
  subst h1
  exact ⟨rfl,by omega⟩
 ·rintro ⟨rfl,rfl⟩;rfl
structure TN where
 h : Nat
 L : Nat
 fr : Nat→Nat
 to : Nat→Nat
 lf : Nat→Nat→Int
 pr : Nat→Nat→Int
namespace TN
variable {T:TN} {D:Nat}
def W (T:TN):Nat:=T.h+T.L
def p (T:TN) (i:Nat):Arc :=
 if i % T.W<T.h then (i / T.W*T.h+i % T.W,(i / T.W+1)*T.h+i % T.W,1099511627776,0)
 else (i / T.W*T.h+T.fr (i % T.W-T.h),(i / T.W+1)*T.h+T.to (i % T.W-T.h),T.lf (i % T.W-T.h) (i / T.W),T.pr (i % T.W-T.h) (i / T.W))
structure OK (T:TN) (D:Nat):Prop where
 h1 : 0<T.h
 e : ∀k,k<T.L→T.fr k<T.h∧T.to k<T.h
 lf : ∀k t,k<T.L→t<D→0≤T.lf k t
 pr : ∀k t,k<T.L→t<D→0≤T.pr k t∧T.pr k t≤1000000
theorem row {t j:Nat} (hj:j<T.W):(t*T.W+j) / T.W=t∧(t*T.W+j) % T.W=j:=by
 refine ⟨?_,?_⟩
 ·rw [Nat.mul_comm,Nat.mul_add_div (by omega),Nat.div_eq_of_lt hj];omega
 ·rw [Nat.mul_comm,Nat.mul_add_mod,Nat.mod_eq_of_lt hj]
theorem p_house {t x:Nat} (hx:x<T.h):T.p (t*T.W+x)=(t*T.h+x,(t+1)*T.h+x,1099511627776,0):=by
 have hW:x<T.W:=by unfold W;omega
 unfold p
 rw [(row hW).1,(row hW).2,if_pos hx]
theorem p_link {t k:Nat} (hk:k<T.L):T.p (t*T.W+(T.h+k))=(t*T.h+T.fr k,(t+1)*T.h+T.to k,T.lf k t,T.pr k t):=by
 have hW:T.h+k<T.W:=by unfold W;omega
 unfold p
 rw [(row hW).1,(row hW).2,if_neg (by omega),show T.h+k-T.h=k by omega]
theorem p_ok (ok:T.OK D):J3 T.p ((D+1)*T.h) (D*T.W):=fun i hi=>by
 have h1:=ok.h1
 have hW:0<T.W:=by unfold W;omega
 have ht:i / T.W<D:=by rw[Nat.div_lt_iff_lt_mul hW];exact hi
 have hj:=Nat.mod_lt i hW
 have b1:(i / T.W+1)*T.h≤D*T.h:=Nat.mul_le_mul_right _ (by omega)
 have b2:(D+1)*T.h=D*T.h+T.h:=Nat.succ_mul _ _
 have b3:(i / T.W+1)*T.h=i / T.W*T.h+T.h:=Nat.succ_mul _ _
 unfold p
 by_cases c:i % T.W<T.h
 ·rw [if_pos c]
  dsimp only
  exact ⟨by omega,by omega,by omega,by omega,by omega,by omega⟩
 ·rw [if_neg c]
  have e0:T.W=T.h+T.L:=rfl
  have hk:i % T.W-T.h<T.L:=by omega
  obtain ⟨e1,e2⟩:=ok.e _ hk
  have e3:=ok.lf _ _ hk ht
  have e4:=ok.pr _ _ hk ht
  dsimp only
  exact ⟨by omega,by omega,by omega,e3,e4.1,e4.2⟩
def G (T:TN) (D a c:Nat):FN:=fnP T.p ((D+1)*T.h) (D*T.W) a (D*T.h+c)
def outF (T:TN) (g:Nat→Nat→Int) (x t:Nat):Int:=Aj (fun k=>if T.fr k=x then g k t else 0) T.L
def inF (T:TN) (g:Nat→Nat→Int) (x t:Nat):Int:=Aj (fun k=>if T.to k=x then g k t else 0) T.L
def stk (T:TN) (a:Nat) (b:Int) (g:Nat→Nat→Int):Nat→Nat→Int
 | 0,x=>if a=x then b else 0
 | t+1,x=>stk T a b g t x-T.outF g x t+T.inF g x t
def wf (T:TN) (f:Nat→Int) (x t:Nat):Int:=f (t*T.W+x)
def gf (T:TN) (f:Nat→Int) (k t:Nat):Int:=f (t*T.W+(T.h+k))
theorem WO (ok:T.OK D) {a c:Nat} {f:Nat→Int} {t x:Nat} (hx:x<T.h):(T.G D a c).net f (t*T.h+x)=(if t<D then T.wf f x t+T.outF (T.gf f) x t else 0)-(if 0<t∧t-1<D then T.wf f x (t-1)+T.inF (T.gf f) x (t-1)else 0):=by
 have key:∀t',Aj (fun j=>(if (T.p (t'*T.W+j)).1=t*T.h+x then f (t'*T.W+j)else 0)-(if (T.p (t'*T.W+j)).2.1=t*T.h+x then f (t'*T.W+j)else 0)) T.W
   = (if t'=t then T.wf f x t'+T.outF (T.gf f) x t' else 0)-(if t'+1=t then T.wf f x t'+T.inF (T.gf f) x t' else 0):=fun t'=>by
  have e0:T.W=T.h+T.L:=rfl
  have e1:Aj (fun j=>(if (T.p (t'*T.W+j)).1=t*T.h+x then f (t'*T.W+j)else 0)-(if (T.p (t'*T.W+j)).2.1=t*T.h+x then f (t'*T.W+j)else 0)) T.h=(if t'=t then T.wf f x t' else 0)-(if t'+1=t then T.wf f x t' else 0):=by
   rw [Ah (g:=fun j=>(if j=x then (if t'=t then T.wf f j t' else 0)else 0)-(if j=x then (if t'+1=t then T.wf f j t' else 0)else 0)) (fun j hj=>by
    rw [p_house hj]
    dsimp only
    have n1:=Dh (t:=t) (t':=t') hx hj
    have n2:=Dh (t:=t) (t':=t'+1) hx hj
    by_cases c1:j=x
    ·subst c1
     simp only[n1,n2,and_true,if_true];rfl
    ·simp only[n1,n2,c1,and_false,if_false]),B5,CA,CA,if_pos hx,if_pos hx]
  have e2:Aj (fun k=>(if (T.p (t'*T.W+(T.h+k))).1=t*T.h+x then f (t'*T.W+(T.h+k))else 0)-(if (T.p (t'*T.W+(T.h+k))).2.1=t*T.h+x then f (t'*T.W+(T.h+k))else 0)) T.L=(if t'=t then T.outF (T.gf f) x t' else 0)-(if t'+1=t then T.inF (T.gf f) x t' else 0):=by
   rw [Ah (g:=fun k=>(if t'=t then (if T.fr k=x then T.gf f k t' else 0)else 0)-(if t'+1=t then (if T.to k=x then T.gf f k t' else 0)else 0)) (fun k hk=>by
    rw [p_link hk]
    dsimp only
    obtain ⟨q1,q2⟩:=ok.e k hk
    have n1:=Dh (t:=t) (t':=t') hx q1
    have n2:=Dh (t:=t) (t':=t'+1) hx q2
    simp only[n1,n2]
    unfold gf
    by_cases c1:t'=t <;> by_cases c2:t'+1=t <;> simp[c1,c2]),B5]
   unfold outF inF
   congr 1
   ·by_cases c1:t'=t
    ·simp only[if_pos c1]
    ·simp only[if_neg c1];exact A5 fun _ _=>rfl
   ·by_cases c1:t'+1=t
    ·simp only[if_pos c1]
    ·simp only[if_neg c1];exact A5 fun _ _=>rfl
  rw [e0,De,←e0,e1,e2]
  by_cases c1:t'=t <;> by_cases c2:t'+1=t <;> simp[c1,c2] <;> omega
 have : (T.G D a c).net f (t*T.h+x)=Aj (fun t'=>(if t'=t then T.wf f x t'+T.outF (T.gf f) x t' else 0)-(if t'+1=t then T.wf f x t'+T.inF (T.gf f) x t' else 0)) D:=by
  show Aj _ (D*T.W)=_
  rw [DM]
  exact Ah fun t' _=>key t'
 rw [this,B5,CA (g:=fun t'=>T.wf f x t'+T.outF (T.gf f) x t')]
 congr 1
 by_cases c:0<t
 ·rw [Ah (g:=fun t'=>if t'=t-1 then T.wf f x t'+T.inF (T.gf f) x t' else 0) (fun t' _=>by
   by_cases c1:t'+1=t
   ·rw [if_pos c1,if_pos (by omega)]
   ·rw [if_neg c1,if_neg (by omega)]),CA (g:=fun t'=>T.wf f x t'+T.inF (T.gf f) x t')]
  simp [c]
 ·rw [A5 (fun t' _=>by rw[if_neg (by omega)]),if_neg (fun g=>c g.1)]
theorem X1 {a c:Nat} {f:Nat→Int}:(T.G D a c).cost f=Aj (fun t=>Aj (fun k=>T.pr k t*T.gf f k t) T.L) D:=by
 show Aj (fun i=>(T.p i).2.2.2*f i) (D*T.W)=_
 rw [DM]
 refine Ah fun t _=>?_
 have e0:T.W=T.h+T.L:=rfl
 conv => lhs;rw[e0,De,←e0]
 rw [A5 (fun x hx=>by rw[p_house hx];exact Int.zero_mul _),Int.zero_add]
 exact Ah fun k hk=>by rw[p_link hk];rfl
structure Plan (T:TN) (D a c:Nat) (b:Int) (g:Nat→Nat→Int):Prop where
 nn : ∀k t,k<T.L→t<D→0≤g k t
 le : ∀k t,k<T.L→t<D→g k t≤T.lf k t
 st : ∀t x,t<D→x<T.h→T.outF g x t≤T.stk a b g t x
 en : ∀x,x<T.h→T.stk a b g D x=if c=x then b else 0
def cst (T:TN) (D:Nat) (g:Nat→Nat→Int):Int:=Aj (fun t=>Aj (fun k=>T.pr k t*g k t) T.L) D
theorem outF_congr {g g':Nat→Nat→Int} {x t:Nat} (h:∀k,k<T.L→g k t=g' k t):T.outF g x t=T.outF g' x t:=Ah fun k hk=>by rw[h k hk]
theorem OX {g g':Nat→Nat→Int} {x t:Nat} (h:∀k,k<T.L→g k t=g' k t):T.inF g x t=T.inF g' x t:=Ah fun k hk=>by rw[h k hk]
theorem stk_congr {g g':Nat→Nat→Int} {a:Nat} {b:Int} {x:Nat}:∀ {t},(∀k t',k<T.L→t'<t→g k t'=g' k t')→T.stk a b g t x=T.stk a b g' t x
 | 0,_=>rfl
 | t+1,h=>by
  rw [stk,stk,stk_congr fun k t' hk ht=>h k t' hk (by omega),outF_congr fun k hk=>h k t hk (by omega),OX fun k hk=>h k t hk (by omega)]
theorem Plan.congr {a c:Nat} {b:Int} {g g':Nat→Nat→Int} (P:T.Plan D a c b g) (h:∀k t,k<T.L→t<D→g k t=g' k t):T.Plan D a c b g':=by
 refine ⟨fun k t hk ht=>?_,fun k t hk ht=>?_,fun t x ht hx=>?_,fun x hx=>?_⟩
 ·rw [←h k t hk ht];exact P.nn k t hk ht
 ·rw [←h k t hk ht];exact P.le k t hk ht
 ·rw [←outF_congr fun k hk=>h k t hk ht,←stk_congr fun k t' hk ht'=>h k t' hk (by omega)];exact P.st t x ht hx
 ·rw [←stk_congr fun k t' hk ht'=>h k t' hk ht'];exact P.en x hx
theorem cst_congr {g g':Nat→Nat→Int} (h:∀k t,k<T.L→t<D→g k t=g' k t):T.cst D g=T.cst D g':=Ah fun t ht=>Ah fun k hk=>by rw[h k t hk ht]
theorem house_of {i:Nat} (h1:0<T.h) (hi:i<D*T.W):∃t,t<D∧((∃x,x<T.h∧i=t*T.W+x)∨∃k,k<T.L∧i=t*T.W+(T.h+k)):=by
 have hW:0<T.W:=by unfold W;omega
 have ht:i / T.W<D:=by rw[Nat.div_lt_iff_lt_mul hW];exact hi
 have hj:=Nat.mod_lt i hW
 have e0:T.W=T.h+T.L:=rfl
 have hd:i=i / T.W*T.W+i % T.W:=by rw[Nat.mul_comm];exact (Nat.div_add_mod i T.W).symm
 refine ⟨i / T.W,ht,?_⟩
 by_cases c:i % T.W<T.h
 ·exact .inl ⟨_,c,hd⟩
 ·refine .inr ⟨i % T.W-T.h,by omega,?_⟩
  rw [show T.h+(i % T.W-T.h)=i % T.W by omega];exact hd
theorem zP {v:Nat} (h1:0<T.h) (hv:v<(D+1)*T.h):∃t x,t≤D∧x<T.h∧v=t*T.h+x:=by
 have ht:v / T.h<D+1:=by rw[Nat.div_lt_iff_lt_mul h1];exact hv
 exact ⟨v / T.h,v % T.h,by omega,Nat.mod_lt _ h1,by rw[Nat.mul_comm];exact (Nat.div_add_mod v T.h).symm⟩
theorem pair_lt {t:Nat} (ht:t<D) {j:Nat} (hj:j<T.W):t*T.W+j<D*T.W:=by
 have : (t+1)*T.W≤D*T.W:=Nat.mul_le_mul_right _ (by omega)
 rw [Nat.succ_mul]at this
 omega
theorem node_lt {t x:Nat} (ht:t≤D) (hx:x<T.h):t*T.h+x<(D+1)*T.h:=by
 have : (t+1)*T.h≤(D+1)*T.h:=Nat.mul_le_mul_right _ (by omega)
 rw [Nat.succ_mul]at this
 omega
theorem src_eq {a x t:Nat} (ha:a<T.h) (hx:x<T.h):a=t*T.h+x↔t=0∧a=x:=by
 have := Dh (t:=t) (t':=0) hx ha
 rw [Nat.zero_mul,Nat.zero_add]at this
 rw [this]
 constructor <;> (rintro⟨rfl,rfl⟩;exact⟨rfl,rfl⟩)
theorem flow_plan (ok:T.OK D) {a c:Nat} (ha:a<T.h) (hc:c<T.h) {f:Nat→Int} {b:Int} (hf:(T.G D a c).Flow f b):T.Plan D a c b (T.gf f)∧(T.G D a c).cost f=T.cst D (T.gf f):=by
 have hW:∀x,x<T.h→x<T.W:=fun x hx=>by unfold W;omega
 have hWk:∀k,k<T.L→T.h+k<T.W:=fun k hk=>by unfold W;omega
 have val:∀t x,t≤D→x<T.h→(if t<D then T.wf f x t+T.outF (T.gf f) x t else 0)-(if 0<t∧t-1<D then T.wf f x (t-1)+T.inF (T.gf f) x (t-1)else 0)=(if t=0∧a=x then b else 0)-(if D=t∧c=x then b else 0):=fun t x ht hx=>by
  rw [←WO ok hx,hf.val _ (node_lt ht hx)]
  show (if a=t*T.h+x then b else 0)-(if D*T.h+c=t*T.h+x then b else 0)=_
  have n2:=Dh (t:=t) (t':=D) hx hc
  simp only[src_eq ha hx,n2]
 have key:∀t x,t<D→x<T.h→T.wf f x t+T.outF (T.gf f) x t=T.stk a b (T.gf f) t x:=by
  intro t x ht hx
  induction t with
  | zero =>
   have := val 0 x (by omega) hx
   rw [if_pos ht,if_neg (fun g=>absurd g.1 (by omega)),if_neg (show ¬(D=0∧c=x) from fun g=>by omega)]at this
   simp only[true_and]at this
   rw [stk];omega
  | succ t ih =>
   have ih:=ih (by omega)
   have := val (t+1) x (by omega) hx
   rw [if_pos ht,if_pos ⟨by omega,by omega⟩,if_neg (fun g=>by omega),if_neg (fun g=>by omega),Nat.add_sub_cancel]at this
   rw [stk];omega
 refine ⟨⟨fun k t hk ht=>hf.nn _ (pair_lt ht (hWk k hk)),fun k t hk ht=>?_,fun t x ht hx=>?_,fun x hx=>?_⟩,X1⟩
 ·have := hf.le _ (pair_lt ht (hWk k hk))
  have e:(T.G D a c).cap (t*T.W+(T.h+k))=T.lf k t:=by show (T.p _).2.2.1=_;rw[p_link hk]
  rw [e]at this
  exact this
 ·have h1:=key t x ht hx
  have h2:0≤T.wf f x t:=hf.nn _ (pair_lt ht (hW x hx))
  omega
 ·cases D with
  | zero =>
   have := val 0 x (by omega) hx
   rw [if_neg (by omega),if_neg (fun g=>by omega)]at this
   simp only[true_and]at this
   rw [stk];omega
  | succ D =>
   have h1:=key D x (by omega) hx
   have := val (D+1) x (by omega) hx
   rw [if_neg (by omega),if_pos ⟨by omega,by omega⟩,if_neg (fun g=>by omega),Nat.add_sub_cancel]at this
   simp only[true_and]at this
   rw [stk];omega
theorem zQ (ok:T.OK D) {g:Nat→Nat→Int} {t:Nat}:Aj (fun x=>T.outF g x t) T.h=Aj (fun k=>g k t) T.L:=by
 unfold outF
 rw [DK]
 refine Ah fun k hk=>?_
 rw [Ca,if_pos (ok.e k hk).1]
theorem Ae8 (ok:T.OK D) {g:Nat→Nat→Int} {t:Nat}:Aj (fun x=>T.inF g x t) T.h=Aj (fun k=>g k t) T.L:=by
 unfold inF
 rw [DK]
 refine Ah fun k hk=>?_
 rw [Ca,if_pos (ok.e k hk).2]
theorem X2 (ok:T.OK D) {a:Nat} (ha:a<T.h) {b:Int} {g:Nat→Nat→Int}:∀t,Aj (fun x=>T.stk a b g t x) T.h=b
 | 0=>by
  show Aj (fun x=>if a=x then b else 0) T.h=b
  rw [Ca,if_pos ha]
 | t+1=>by
  show Aj (fun x=>T.stk a b g t x-T.outF g x t+T.inF g x t) T.h=b
  rw [BR,B5,X2 ok ha,zQ ok,Ae8 ok];omega
theorem Q0 {g:Nat→Nat→Int} {x t:Nat} (h:∀k,k<T.L→0≤g k t):0≤T.outF g x t:=Bt fun k hk=>by
 split
 ·exact h k hk
 ·exact Int.le_refl _
theorem Plan.stk_nn {a c:Nat} {b:Int} {g:Nat→Nat→Int} (P:T.Plan D a c b g) {t x:Nat} (ht:t<D) (hx:x<T.h):0≤T.stk a b g t x:=by
 have := P.st t x ht hx
 have := Q0 (T:=T) (x:=x) fun k hk=>P.nn k t hk ht
 omega
theorem Plan.stk_le {a c:Nat} (ok:T.OK D) (ha:a<T.h) {b:Int} {g:Nat→Nat→Int} (P:T.Plan D a c b g) {t x:Nat} (ht:t<D) (hx:x<T.h):T.stk a b g t x≤b:=by
 have := Fw (f:=fun x=>T.stk a b g t x) (fun i hi=>P.stk_nn ht hi) hx
 rw [X2 ok ha]at this
 exact this
def fOf (T:TN) (a:Nat) (b:Int) (g:Nat→Nat→Int) (i:Nat):Int:=if i % T.W<T.h then T.stk a b g (i / T.W) (i % T.W)-T.outF g (i % T.W) (i / T.W)else g (i % T.W-T.h) (i / T.W)
theorem oH {a:Nat} {b:Int} {g:Nat→Nat→Int} {x t:Nat} (hx:x<T.h):T.wf (T.fOf a b g) x t=T.stk a b g t x-T.outF g x t:=by
 have hW:x<T.W:=by unfold W;omega
 unfold wf fOf
 rw [(row hW).1,(row hW).2,if_pos hx]
theorem TO {a:Nat} {b:Int} {g:Nat→Nat→Int} {k t:Nat} (hk:k<T.L):T.gf (T.fOf a b g) k t=g k t:=by
 have hW:T.h+k<T.W:=by unfold W;omega
 unfold gf fOf
 rw [(row hW).1,(row hW).2,if_neg (by omega),show T.h+k-T.h=k by omega]
theorem plan_flow (ok:T.OK D) {a c:Nat} (ha:a<T.h) (hc:c<T.h) {g:Nat→Nat→Int} {b:Int} (hb:b≤1099511627776) (P:T.Plan D a c b g):(T.G D a c).Flow (T.fOf a b g) b∧(T.G D a c).cost (T.fOf a b g)=T.cst D g:=by
 have hw:∀t x,t<D→x<T.h→0≤T.wf (T.fOf a b g) x t∧T.wf (T.fOf a b g) x t≤b:=fun t x ht hx=>by
  rw [oH hx]
  have h1:=P.st t x ht hx
  have h2:=P.stk_le ok ha ht hx
  have h3:=Q0 (T:=T) (x:=x) fun k hk=>P.nn k t hk ht
  omega
 refine ⟨⟨fun i hi=>?_,fun i hi=>?_,fun v hv=>?_⟩,by rw[X1];exact cst_congr fun k t hk ht=>TO hk⟩
 ·obtain ⟨t,ht,⟨x,hx,rfl⟩ | ⟨k,hk,rfl⟩⟩:=house_of ok.h1 hi
  ·exact (hw t x ht hx).1
  ·have := P.nn k t hk ht
   rw [←TO (g:=g) (a:=a) (b:=b) hk]at this
   exact this
 ·obtain ⟨t,ht,⟨x,hx,rfl⟩ | ⟨k,hk,rfl⟩⟩:=house_of ok.h1 hi
  ·show T.wf (T.fOf a b g) x t≤(T.p _).2.2.1
   rw [p_house hx]
   have :=(hw t x ht hx).2
   dsimp only;omega
  ·show T.gf (T.fOf a b g) k t≤(T.p _).2.2.1
   rw [p_link hk,TO hk]
   exact P.le k t hk ht
 ·obtain ⟨t,x,ht,hx,rfl⟩:=zP ok.h1 hv
  rw [WO ok hx]
  show _=(if a=t*T.h+x then b else 0)-(if D*T.h+c=t*T.h+x then b else 0)
  have n2:=Dh (t:=t) (t':=D) hx hc
  simp only[src_eq ha hx,n2]
  have eo:∀t,T.outF (T.gf (T.fOf a b g)) x t=T.outF g x t:=fun t=>outF_congr fun k hk=>TO hk
  have ei:∀t,T.inF (T.gf (T.fOf a b g)) x t=T.inF g x t:=fun t=>OX fun k hk=>TO hk
  rw [eo,ei,oH hx,oH hx]
  have hen:=P.en x hx
  cases t with
  | zero =>
   rw [if_neg (show ¬(0<0∧0-1<D) from fun g=>by omega)]
   by_cases c0:0<D
   ·rw [if_pos c0,if_neg (show ¬(D=0∧c=x) from fun g=>by omega),stk];simp only[true_and];omega
   ·have : D=0:=by omega
    subst this
    rw [if_neg c0]
    rw [stk]at hen
    simp only[true_and];omega
  | succ t =>
   rw [if_neg (show ¬(t+1=0∧a=x) from fun g=>by omega),Nat.add_sub_cancel,if_pos (show 0<t+1∧t<D from ⟨by omega,by omega⟩)]
   by_cases c0:t+1<D
   ·rw [if_pos c0,if_neg (show ¬(D=t+1∧c=x) from fun g=>by omega),stk];omega
   ·have : D=t+1:=by omega
    subst this
    rw [if_neg c0]
    rw [stk]at hen
    simp only[true_and];omega
theorem Plan.more {T':TN} {D' a c:Nat} {b:Int} {g:Nat→Nat→Int} (hh:T'.h=T.h) (hL:T'.L=T.L) (hf:T'.fr=T.fr) (ht:T'.to=T.to) (hl:∀k t,k<T.L→t<D→T.lf k t≤T'.lf k t) (hl0:∀k t,k<T.L→t<D'→0≤T'.lf k t) (hD:D≤D') (hb:0≤b) (P:T.Plan D a c b g) :
  T'.Plan D' a c b (fun k t=>if t<D then g k t else 0):=by
 have eo:∀(g:Nat→Nat→Int) x t,T'.outF g x t=T.outF g x t:=fun g x t=>by unfold outF;rw[hL,hf]
 have ei:∀(g:Nat→Nat→Int) x t,T'.inF g x t=T.inF g x t:=fun g x t=>by unfold inF;rw[hL,ht]
 have es:∀(g:Nat→Nat→Int) t x,T'.stk a b g t x=T.stk a b g t x:=fun g t x=>by
  induction t with
  | zero=>rfl
  | succ t ih=>rw[stk,stk,ih,eo,ei]
 have o0:∀x t,¬t<D→T.outF (fun k t=>if t<D then g k t else 0) x t=0:=fun x t ht=>A5 fun k _=>by dsimp only;rw[if_neg ht];split <;> rfl
 have i0:∀x t,¬t<D→T.inF (fun k t=>if t<D then g k t else 0) x t=0:=fun x t ht=>A5 fun k _=>by dsimp only;rw[if_neg ht];split <;> rfl
 have s0:∀x t,t≤D→T.stk a b (fun k t=>if t<D then g k t else 0) t x=T.stk a b g t x:=fun x t ht=>stk_congr fun k t' _ ht'=>by rw[if_pos (by omega)]
 have s1:∀x j,x<T.h→T.stk a b (fun k t=>if t<D then g k t else 0) (D+j) x=if c=x then b else 0:=fun x j hx=>by
  induction j with
  | zero=>rw[Nat.add_zero,s0 x D (Nat.le_refl _)];exact P.en x hx
  | succ j ih=>rw[←Nat.add_assoc,stk,ih,o0 x _ (by omega),i0 x _ (by omega)];omega
 refine ⟨fun k t hk _=>?_,fun k t hk ht'=>?_,fun t x ht' hx=>?_,fun x hx=>?_⟩
 ·split
  ·rename_i c0;exact P.nn k t (by rw[←hL];exact hk) c0
  ·exact Int.le_refl _
 ·rw [hL]at hk
  split
  ·rename_i c0
   have := P.le k t hk c0
   have := hl k t hk c0
   omega
  ·exact hl0 k t hk ht'
 ·rw [hh]at hx
  rw [eo,es]
  by_cases c0:t<D
  ·rw [outF_congr (g':=g) fun k _=>by rw[if_pos c0],s0 x t (by omega)];exact P.st t x c0 hx
  ·rw [o0 x t c0,show t=D+(t-D) by omega,s1 x _ hx]
   split <;> omega
 ·rw [hh]at hx
  rw [es,show D'=D+(D'-D) by omega,s1 x _ hx]
theorem Plan.add {T2 T':TN} {a c:Nat} {b b2:Int} {g g2:Nat→Nat→Int} (h2:T2.h=T.h) (L2:T2.L=T.L) (f2:T2.fr=T.fr) (t2:T2.to=T.to) (h':T'.h=T.h) (L':T'.L=T.L) (f':T'.fr=T.fr) (t':T'.to=T.to)
  (hl : ∀k t,k<T.L→t<D→g k t+g2 k t≤T'.lf k t) (P:T.Plan D a c b g) (P2:T2.Plan D a c b2 g2):T'.Plan D a c (b+b2) (fun k t=>g k t+g2 k t):=by
 have eo2:∀x t,T2.outF g2 x t=T.outF g2 x t:=fun x t=>by unfold outF;rw[L2,f2]
 have ei2:∀x t,T2.inF g2 x t=T.inF g2 x t:=fun x t=>by unfold inF;rw[L2,t2]
 have es2:∀t x,T2.stk a b2 g2 t x=T.stk a b2 g2 t x:=fun t x=>by
  induction t with
  | zero=>rfl
  | succ t ih=>rw[stk,stk,ih,eo2,ei2]
 have eo:∀x t,T'.outF (fun k t=>g k t+g2 k t) x t=T.outF g x t+T.outF g2 x t:=fun x t=>by
  unfold outF
  rw [L',f',←BR]
  exact Ah fun k _=>by split <;> rfl
 have ei:∀x t,T'.inF (fun k t=>g k t+g2 k t) x t=T.inF g x t+T.inF g2 x t:=fun x t=>by
  unfold inF
  rw [L',t',←BR]
  exact Ah fun k _=>by split <;> rfl
 have es:∀t x,T'.stk a (b+b2) (fun k t=>g k t+g2 k t) t x=T.stk a b g t x+T.stk a b2 g2 t x:=fun t x=>by
  induction t with
  | zero=>rw[stk,stk,stk];split <;> rfl
  | succ t ih=>rw[stk,stk,stk,ih,eo,ei];omega
 refine ⟨fun k t hk ht=>?_,fun k t hk ht=>hl k t (by rw[←L'];exact hk) ht,fun t x ht hx=>?_,fun x hx=>?_⟩
 ·rw [L']at hk
  have := P.nn k t hk ht
  have := P2.nn k t (by rw[L2];exact hk) ht
  omega
 ·rw [h']at hx
  have h3:=P.st t x ht hx
  have h4:=P2.st t x ht (by rw[h2];exact hx)
  rw [eo2,es2]at h4
  rw [eo,es];omega
 ·rw [h']at hx
  have h3:=P.en x hx
  have h4:=P2.en x (by rw[h2];exact hx)
  rw [es2]at h4
  rw [es,h3,h4]
  split <;> rfl
end TN
end Sim
