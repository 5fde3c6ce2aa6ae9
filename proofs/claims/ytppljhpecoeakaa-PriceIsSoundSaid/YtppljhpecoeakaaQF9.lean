/- What functions of this seat compute, by values: contracts (lemmas of the statement's proof, under the conditions that each names). -/
import Derived.Test.YtppljhpecoeakaaQN8
import Derived.Test.YtppljhpecoeakaaQV
set_option maxRecDepth 10000
set_option maxHeartbeats 2000000
set_option linter.unusedVariables false
set_option linter.unusedSimpArgs false
namespace Sim
open Go Go.Proofs
attribute [local congr] Aq Ar Al AG At As Az Gz
def atM (ls:List Lnk) (l:List Snd) (d:Dem) (t:Int):Prop:=d.2.2.2.1≤t∧t≤d.2.2.2.2∧d.2.2.1≤A9 ls l d d.2.1 t
instance {ls:List Lnk} {l:List Snd} {d:Dem} {t:Int}:Decidable (atM ls l d t):=inferInstanceAs (Decidable (_∧_))
theorem Q1 {hn:Int} {ls:List Lnk} {l:List Snd} (ok:OKr hn ls l) {i:Nat}:∀ {k},i≤k→k<l.length→(l.getD i dS).2.1≤(l.getD k dS).2.1
 | 0,h,_=>by rw[show i=0 by omega];exact Int.le_refl _
 | k+1,h,hk=>by
  by_cases e:i=k+1
  ·rw [e];exact Int.le_refl _
  ·have ih:=Q1 ok (i:=i) (k:=k) (by omega) (by omega)
   have := ok.asc (k+1) (by omega) hk
   rw [show k+1-1=k by omega]at this
   omega
theorem TW {hn:Int} {ls:List Lnk} {l:List Snd} {d:Dem} (h:A6 hn ls l d=0):OKr hn ls l∧C6 hn d=true∧Br hn ls l=0∧svR ls l d l.length=false∧d.2.2.1≤A9 ls l d d.2.1 d.2.2.2.2:=by
 unfold A6 at h
 split at h
 ·contradiction
 ·rename_i h1
  split at h
  ·cases h
  ·rename_i h2
   split at h
   ·contradiction
   ·rename_i h3
    split at h
    ·cases h
    ·rename_i h4
     split at h
     ·cases h
     ·rename_i h5
      exact ⟨right_zero.1 (Classical.not_not.1 h1),by simpa using h2,Classical.not_not.1 h3,by simpa using h4,by omega⟩
end Sim
namespace Sim
open Go Go.Proofs
def Sm (f:Nat→Int):Nat→Int
 | 0=>0
 | n+1=>Sm f n+f n
theorem nY {f g:Nat→Int}:∀ {n},(∀i,i<n→f i≤g i)→Sm f n≤Sm g n
 | 0,_=>Int.le_refl _
 | n+1,h=>by
  have ih:=nY (n:=n) fun i hi=>h i (by omega)
  have := h n (by omega)
  simp only[Sm];omega
theorem Lw {f g:Nat→Int}:∀ {n},(∀i,i<n→f i=g i)→Sm f n=Sm g n
 | 0,_=>rfl
 | n+1,h=>by
  have ih:=Lw (n:=n) fun i hi=>h i (by omega)
  simp only[Sm,ih,h n (by omega)]
theorem WM {f g:Nat→Int}:∀n,Sm (fun i=>f i+g i) n=Sm f n+Sm g n
 | 0=>rfl
 | n+1=>by simp only[Sm,WM n];omega
theorem WN {f g:Nat→Int}:∀n,Sm (fun i=>f i-g i) n=Sm f n-Sm g n
 | 0=>rfl
 | n+1=>by simp only[Sm,WN n];omega
theorem GG:∀n,Sm (fun _=>0) n=0
 | 0=>rfl
 | n+1=>by simp only[Sm,GG n];rfl
theorem XX {f:Nat→Nat→Int} {m:Nat}:∀n,Sm (fun i=>Sm (fun h=>f h i) m) n=Sm (fun h=>Sm (fun i=>f h i) n) m
 | 0=>by simp only[Sm];exact (GG m).symm
 | n+1=>by simp only[Sm,XX n,WM]
theorem Q2 {x v:Int}:∀n:Nat,Sm (fun h=>if x=(h:Int)then v else 0) n=if 0≤x∧x<(n:Int)then v else 0
 | 0=>by rw[if_neg (by omega)];rfl
 | n+1=>by
  simp only[Sm,Q2 n]
  by_cases h1:x=(n:Int)
  ·rw [if_neg (by omega),if_pos h1,if_pos (by omega)];omega
  ·by_cases h2:0≤x∧x<(n:Int)
   ·rw [if_pos h2,if_neg h1,if_pos (by omega)];omega
   ·rw [if_neg h2,if_neg h1,if_neg (by omega)];rfl
theorem Pe {f:Nat→Int} {n:Nat} (h:∀i,i<n→0≤f i):0≤Sm f n:=by
 have := nY (f:=fun _=>0) (g:=f) (n:=n) h
 rwa [GG]at this
theorem Aiq {f:Nat→Int} {n k:Nat} (h:∀i,i<n→0≤f i) (hk:k<n):f k≤Sm f n:=by
 induction n with
 | zero=>omega
 | succ n ih =>
  have h0:=Pe (f:=f) (n:=n) fun i hi=>h i (by omega)
  have hn:=h n (by omega)
  simp only[Sm]
  by_cases e:k=n
  ·subst e;omega
  ·have := ih (fun i hi=>h i (by omega)) (by omega)
   omega
theorem Ga {ls:List Lnk} {l:List Snd} {at_ tick:Int}:∀n,D4 ls l at_ tick n=Sm (fun i=>Do ls (l.getD i dS) at_ tick) n
 | 0=>rfl
 | n+1=>by simp only[D4,Sm,Ga n]
theorem Q3 {ls:List Lnk} {l:List Snd} {t f:Int}:∀n,CU ls l t f n=Sm (fun i=>if (l.getD i dS).2.1=t∧frM ls l i=f then (l.getD i dS).2.2 else 0) n
 | 0=>rfl
 | n+1=>by simp only[CU,Sm,Q3 n]
structure Serving (hn:Int) (ls:List Lnk) (l:List Snd) (d:Dem):Prop where
 ok : OKr hn ls l
 from_ : 0≤d.1∧d.1<hn
 to_ : 0≤d.2.1∧d.2.1<hn
 dem : DU d
 fits : Br hn ls l=0
 fed : ∀k,k<l.length→CU ls l (l.getD k dS).2.1 (frM ls l k) l.length≤A9 ls l d (frM ls l k) (l.getD k dS).2.1
 late : d.2.2.1≤A9 ls l d d.2.1 d.2.2.2.2
theorem serves_iff {hn:Int} {ls:List Lnk} {l:List Snd} {d:Dem}:A6 hn ls l d=0↔Serving hn ls l d:=by
 constructor
 ·intro h
  obtain ⟨h1,h2,h3,h4,h5⟩:=TW h
  simp only[C6,Bool.and_eq_true,decide_eq_true_eq,hOK]at h2
  refine ⟨h1,h2.1.1,h2.1.2,h2.2,h3,fun k hk=>?_,h5⟩
  apply Classical.byContradiction
  intro hc
  have : svR ls l d l.length=true:=svR_iff.2 ⟨k,hk,by omega⟩
  rw [h4]at this;cases this
 ·intro h
  have hd:C6 hn d=true:=by
   simp only[C6,Bool.and_eq_true,decide_eq_true_eq,hOK]
   exact ⟨⟨h.from_,h.to_⟩,h.dem⟩
  have hs:svR ls l d l.length=false:=by
   cases hs:svR ls l d l.length with
   | false=>rfl
   | true =>
    obtain ⟨k,hk,g⟩:=svR_iff.1 hs
    have := h.fed k hk
    omega
  unfold A6
  rw [if_neg (fun g=>g (right_zero.2 h.ok)),if_neg (by rw[hd];simp),if_neg (fun g=>g h.fits),if_neg (by rw[hs];simp),if_neg (by have:=h.late;omega)]
theorem ends {hn:Int} {ls:List Lnk} {l:List Snd} (ok:OKr hn ls l) {k:Nat} (hk:k<l.length):(0≤(BX ls (l.getD k dS)).1∧(BX ls (l.getD k dS)).1<hn)∧(0≤(BX ls (l.getD k dS)).2.1∧(BX ls (l.getD k dS)).2.1<hn)∧(BX ls (l.getD k dS)).1≠(BX ls (l.getD k dS)).2.1:=by
 have e1:=ok.link k hk
 have := ok.net.ends (l.getD k dS).1.toNat (by omega)
 exact ⟨⟨this.1,this.2.1⟩,⟨this.2.2.1,this.2.2.2.1⟩,this.2.2.2.2⟩
theorem WO {hn:Int} {ls:List Lnk} {l:List Snd} {d:Dem} (h:Serving hn ls l d):∀k,k<l.length→d.2.2.2.1≤(l.getD k dS).2.1:=by
 intro k hk
 have h0:d.2.2.2.1≤(l.getD 0 dS).2.1:=by
  apply Classical.byContradiction
  intro hc
  have hl:0<l.length:=by omega
  have f:=h.fed 0 hl
  have hb:=h.ok.bytes 0 hl
  have h1:A9 ls l d (frM ls l 0) (l.getD 0 dS).2.1=0:=by
   unfold A9 Dg
   rw [if_neg (fun g=>hc g.2),Ga,Lw (g:=fun _=>0),GG]
   ·rfl
   ·intro i hi
    have := Q1 h.ok (i:=0) (k:=i) (by omega) hi
    simp only[Do]
    rw [if_neg (by omega)]
  have h2:=Aiq (f:=fun i=>if (l.getD i dS).2.1=(l.getD 0 dS).2.1∧frM ls l i=frM ls l 0 then (l.getD i dS).2.2 else 0) (n:=l.length) (k:=0) (fun i hi=>by
   have := h.ok.bytes i hi
   split <;> omega) hl
  rw [if_pos ⟨rfl,rfl⟩,←Q3]at h2
  omega
 have := Q1 h.ok (i:=0) (k:=k) (by omega) hk
 omega
theorem WQ {d:Dem} (hd:0≤d.2.2.1) {a t t':Int} (h:t≤t'):Dg d a t≤Dg d a t':=by
 unfold Dg
 by_cases h1:a=d.1∧d.2.2.2.1≤t
 ·rw [if_pos h1,if_pos ⟨h1.1,by omega⟩];exact Int.le_refl _
 ·rw [if_neg h1];split <;> omega
theorem Pf {ls:List Lnk} {l:List Snd} (a t:Int):∀n,(∀i,i<n→¬(frM ls l i=a∧(l.getD i dS).2.1<t))∨∃i,i<n∧(frM ls l i=a∧(l.getD i dS).2.1<t)∧∀j,i<j→j<n→¬(frM ls l j=a∧(l.getD j dS).2.1<t)
 | 0=>.inl fun i hi=>absurd hi (by omega)
 | n + 1=>by
  by_cases h:frM ls l n=a∧(l.getD n dS).2.1<t
  ·exact .inr ⟨n,by omega,h,fun j h1 h2=>absurd h1 (by omega)⟩
  ·rcases Pf (ls:=ls) (l:=l) a t n with g | ⟨i,h1,h2,h3⟩
   ·exact .inl fun i hi=>by
     by_cases e:i=n
     ·subst e;exact h
     ·exact g i (by omega)
   ·exact .inr ⟨i,by omega,h2,fun j g1 g2=>by
     by_cases e:j=n
     ·subst e;exact h
     ·exact h3 j g1 (by omega)⟩
theorem HJ {hn:Int} {ls:List Lnk} {l:List Snd} {d:Dem} (h:Serving hn ls l d) (a t:Int):0≤A9 ls l d a t:=by
 have hd:0≤d.2.2.1:=by have:=h.dem;unfold DU at this;omega
 rcases Pf (ls:=ls) (l:=l) a t l.length with g | ⟨k,h1,h2,h3⟩
 ·unfold A9
  have h4:0≤Dg d a t:=by unfold Dg;split <;> omega
  rw [Ga]
  have := Pe (f:=fun i=>Do ls (l.getD i dS) a t) (n:=l.length) fun i hi=>by
   have hg:=g i hi
   have hb:=h.ok.bytes i hi
   unfold frM at hg
   simp only[Do]
   by_cases c:(l.getD i dS).2.1<t
   ·rw [if_pos c,if_neg (fun e=>hg ⟨e,c⟩)];split <;> omega
   ·rw [if_neg c];exact Int.le_refl _
  omega
 ·have f:=h.fed k h1
  have hm:=WQ hd (a:=a) (show (l.getD k dS).2.1≤t by omega)
  rw [h2.1]at f
  unfold A9 at f ⊢
  rw [Ga,Q3]at f
  rw [Ga]
  have key:=nY (f:=fun i=>Do ls (l.getD i dS) a (l.getD k dS).2.1-(if (l.getD i dS).2.1=(l.getD k dS).2.1∧frM ls l i=a then (l.getD i dS).2.2 else 0)) (g:=fun i=>Do ls (l.getD i dS) a t) (n:=l.length) fun i hi=>by
   have hb:=h.ok.bytes i hi
   unfold Do
   by_cases c1:(l.getD i dS).2.1<(l.getD k dS).2.1
   ·rw [if_pos c1,if_pos (show (l.getD i dS).2.1<t by omega),if_neg (show ¬((l.getD i dS).2.1=(l.getD k dS).2.1∧frM ls l i=a) from fun e=>by omega)];omega
   ·rw [if_neg c1]
    by_cases c2:(l.getD i dS).2.1=(l.getD k dS).2.1
    ·rw [if_pos (show (l.getD i dS).2.1<t by omega)]
     unfold frM
     by_cases c3:(BX ls (l.getD i dS)).1=a
     ·rw [if_pos ⟨c2,c3⟩,if_pos c3];split <;> omega
     ·rw [if_neg (fun e=>c3 e.2),if_neg c3];split <;> omega
    ·rw [if_neg (fun e=>c2 e.1)]
     by_cases c4:(l.getD i dS).2.1<t
     ·have hik:k<i:=by
       apply Classical.byContradiction
       intro hc
       have := Q1 h.ok (i:=i) (k:=k) (by omega) h1
       omega
      have := h3 i hik hi
      unfold frM at this
      rw [if_pos c4,if_neg (show ¬(BX ls (l.getD i dS)).1=a from fun e=>this ⟨e,c4⟩)];split <;> omega
     ·rw [if_neg c4];exact Int.le_refl _
  rw [WN]at key
  omega
theorem nZ {hn:Int} {ls:List Lnk} {l:List Snd} {d:Dem} (h:Serving hn ls l d) (t:Int):Sm (fun a=>A9 ls l d (a:Int) t) hn.toNat=if d.2.2.2.1≤t then d.2.2.1 else 0:=by
 have hnn:((hn.toNat:Nat):Int)=hn:=by have:=h.from_;omega
 have e1:Sm (fun a:Nat=>Dg d (a:Int) t) hn.toNat=if d.2.2.2.1≤t then d.2.2.1 else 0:=by
  by_cases c:d.2.2.2.1≤t
  ·rw [if_pos c,Lw (g:=fun a:Nat=>if d.1=(a:Int)then d.2.2.1 else 0),Q2,if_pos (by rw[hnn];exact h.from_)]
   intro i hi
   unfold Dg
   by_cases e:(i:Int)=d.1
   ·rw [if_pos ⟨e,c⟩,if_pos e.symm]
   ·rw [if_neg (fun g=>e g.1),if_neg (fun g=>e g.symm)]
  ·rw [if_neg c,Lw (g:=fun _=>0),GG]
   intro i hi
   unfold Dg
   rw [if_neg (fun g=>c g.2)]
 have e2:Sm (fun a:Nat=>D4 ls l (a:Int) t l.length) hn.toNat=0:=by
  rw [Lw (g:=fun a:Nat=>Sm (fun i=>Do ls (l.getD i dS) (a:Int) t) l.length) (fun i _=>Ga _),←XX,Lw (g:=fun _=>0),GG]
  intro i hi
  obtain ⟨g1,g2,_⟩:=ends h.ok hi
  by_cases c:(l.getD i dS).2.1<t
  ·rw [Lw (g:=fun a:Nat=>(if (BX ls (l.getD i dS)).2.1=(a:Int)then (l.getD i dS).2.2 else 0)-(if (BX ls (l.getD i dS)).1=(a:Int)then (l.getD i dS).2.2 else 0)) (fun a _=>by unfold Do;rw[if_pos c]),WN,Q2,Q2,if_pos (by rw[hnn];exact g2),if_pos (by rw[hnn];exact g1)]
   omega
  ·rw [Lw (g:=fun _=>0) (fun a _=>by unfold Do;rw[if_neg c]),GG]
 unfold A9
 rw [WM,e1,e2]
 omega
end Sim
namespace Sim
def Fr (A:List Arc) (u v:Nat) (x y:Int):List Arc:=A ++ [(u,v,x,y),(v,u,0,-y)]
def CK (out:List (List Nat)) (u v n:Nat):List (List Nat):=(out.set u (out.getD u [] ++ [n])).set v (out.getD v [] ++ [n+1])
def gA (p:Nat→Arc):Nat→List Arc
 | 0 => []
 | n+1=>Fr (gA p n) (p n).1 (p n).2.1 (p n).2.2.1 (p n).2.2.2
def gO (p:Nat→Arc) (N:Nat):Nat→List (List Nat)
 | 0=>List.replicate N []
 | n+1=>CK (gO p N n) (p n).1 (p n).2.1 (gA p n).length
section
variable {p:Nat→Arc} {N n:Nat}
theorem Cr:∀ {n},(gA p n).length=2*n
 | 0=>rfl
 | n+1=>by rw[gA,Fr,List.length_append,Cr];simp;omega
theorem Jb {k:Nat} (h:k<2*n):(gA p (n+1)).getD k dA=(gA p n).getD k dA:=by
 rw [gA,Fr,List.getD_eq_getElem?_getD,List.getElem?_append_left (by rw[Cr];exact h),List.getD_eq_getElem?_getD]
theorem Ih:∀ {n i:Nat},i<n→(gA p n).getD (2*i) dA=p i
 | 0,i,h=>absurd h (by omega)
 | n+1,i,h=>by
  by_cases e:i=n
  ·subst e
   rw [gA,Fr,List.getD_eq_getElem?_getD,List.getElem?_append_right (by rw[Cr];omega),Cr,Nat.sub_self];rfl
  ·rw [Jb (by omega),Ih (by omega)]
theorem KR:∀ {n i:Nat},i<n→(gA p n).getD (2*i+1) dA=((p i).2.1,(p i).1,0,-(p i).2.2.2)
 | 0,i,h=>absurd h (by omega)
 | n+1,i,h=>by
  by_cases e:i=n
  ·subst e
   rw [gA,Fr,List.getD_eq_getElem?_getD,List.getElem?_append_right (by rw[Cr];omega),Cr,show 2*i+1-2*i=1 by omega];rfl
  ·rw [Jb (by omega),KR (by omega)]
def J7 (p:Nat→Arc) (N n:Nat):Prop:=∀i,i<n→(p i).1<N∧(p i).2.1<N∧(p i).1≠(p i).2.1∧0≤(p i).2.2.1∧0≤(p i).2.2.2∧(p i).2.2.2≤1000000
theorem DE:∀ {n},(gO p N n).length=N
 | 0=>by rw[gO,List.length_replicate]
 | n+1=>by rw[gO,CK,List.length_set,List.length_set,DE]
theorem Q4 {out:List (List Nat)} {u v m w:Nat} (hu:u<out.length) (hv:v<out.length) (huv:u≠v):(CK out u v m).getD w []=if w=v then out.getD v [] ++ [m+1]else if w=u then out.getD u [] ++ [m]else out.getD w []:=by
 unfold CK
 by_cases c1:w=v
 ·subst c1
  rw [if_pos rfl,List.getD_eq_getElem?_getD,List.getElem?_set_self (by rw[List.length_set];exact hv)];rfl
 ·rw [if_neg c1]
  by_cases c2:w=u
  ·subst c2
   rw [if_pos rfl,List.getD_eq_getElem?_getD,List.getElem?_set_ne (fun e=>c1 e.symm),List.getElem?_set_self hu];rfl
  ·rw [if_neg c2,List.getD_eq_getElem?_getD,List.getElem?_set_ne (fun e=>c1 e.symm),List.getElem?_set_ne (fun e=>c2 e.symm),List.getD_eq_getElem?_getD]
theorem Q5:∀ {n},J7 p N n→∀ {u:Nat},u<N→∀ {k},k∈(gO p N n).getD u []↔k<2*n∧aF (gA p n) k=u
 | 0,_,u,hu,k=>by simp[gO,hu]
 | n + 1,h,u,hu,k=>by
  have ih:=Q5 (n:=n) (fun i hi=>h i (by omega)) hu (k:=k)
  obtain ⟨h1,h2,h3,_⟩:=h n (by omega)
  rw [gO,Q4 (by rw[DE];exact h1) (by rw[DE];exact h2) h3]
  have e0:k<2*n→aF (gA p (n+1)) k=aF (gA p n) k:=fun hk=>by unfold aF;rw[Jb hk]
  have e1:aF (gA p (n+1)) (2*n)=(p n).1:=by unfold aF;rw[Ih (by omega)]
  have e2:aF (gA p (n+1)) (2*n+1)=(p n).2.1:=by unfold aF;rw[KR (by omega)]
  have key:k<2*(n+1)∧aF (gA p (n+1)) k=u↔(k<2*n∧aF (gA p n) k=u)∨(k=2*n∧(p n).1=u)∨(k=2*n+1∧(p n).2.1=u):=by
   constructor
   ·rintro ⟨a1,a2⟩
    by_cases c:k<2*n
    ·rw [e0 c]at a2;exact .inl ⟨c,a2⟩
    ·by_cases c2:k=2*n
     ·subst c2;rw[e1]at a2;exact .inr (.inl ⟨rfl,a2⟩)
     ·have : k=2*n+1:=by omega
      subst this;rw[e2]at a2;exact .inr (.inr ⟨rfl,a2⟩)
   ·rintro (⟨a1,a2⟩ | ⟨a1,a2⟩ | ⟨a1,a2⟩)
    ·exact ⟨by omega,by rw[e0 a1];exact a2⟩
    ·subst a1;exact⟨by omega,by rw[e1];exact a2⟩
    ·subst a1;exact⟨by omega,by rw[e2];exact a2⟩
  rw [key,Cr]
  by_cases c1:u=(p n).2.1
  ·rw [if_pos c1,List.mem_append,List.mem_singleton,←c1,ih]
   constructor
   ·rintro (a | a)
    ·exact .inl a
    ·exact .inr (.inr ⟨a,rfl⟩)
   ·rintro (a | a | a)
    ·exact .inl a
    ·exact absurd (a.2.trans c1) h3
    ·exact .inr a.1
  ·rw [if_neg c1]
   by_cases c2:u=(p n).1
   ·rw [if_pos c2,List.mem_append,List.mem_singleton,←c2,ih]
    constructor
    ·rintro (a | a)
     ·exact .inl a
     ·exact .inr (.inl ⟨a,rfl⟩)
    ·rintro (a | a | a)
     ·exact .inl a
     ·exact .inr a.1
     ·exact absurd a.2.symm c1
   ·rw [if_neg c2,ih]
    constructor
    ·exact .inl
    ·rintro (a | a | a)
     ·exact a
     ·exact absurd a.2.symm c2
     ·exact absurd a.2.symm c1
theorem M4:∀ {n},J7 p N n→∀u,((gO p N n).getD u []).length≤n
 | 0,_,u=>by
  rw [gO,List.getD_eq_getElem?_getD,List.getElem?_replicate]
  split <;> simp
 | n+1,h,u=>by
  have ih:=M4 (n:=n) fun i hi=>h i (by omega)
  obtain ⟨h1,h2,h3,_⟩:=h n (by omega)
  rw [gO,Q4 (by rw[DE];exact h1) (by rw[DE];exact h2) h3]
  have i1:=ih (p n).1
  have i2:=ih (p n).2.1
  have i3:=ih u
  split
  ·rw [List.length_append,List.length_singleton];omega
  ·split
   ·rw [List.length_append,List.length_singleton];omega
   ·omega
theorem XY {out:List (List Nat)} {done:List Bool} {b:Nat} (h:∀u,(out.getD u []).length≤b):∀n,QI out done n≤n*b
 | 0=>by simp[QI]
 | n+1=>by
  have ih:=XY (done:=done) h n
  have := h n
  rw [QI,Nat.succ_mul]
  split <;> omega
theorem Aer (h:J7 p N n) {s:Nat}:EG (gO p N n) (ini N s)≤N*n+1:=by
 have := XY (done:=(ini N s).done) (M4 h) N
 unfold EG
 rw [DE]
 have e:(ini N s).q.length=1:=rfl
 omega
theorem cP {i:Nat} (h:i<n):aF (gA p n) (2*i)=(p i).1:=by unfold aF;rw[Ih h]
theorem cQ {i:Nat} (h:i<n):aT (gA p n) (2*i)=(p i).2.1:=by unfold aT;rw[Ih h]
theorem oA {i:Nat} (h:i<n):aL (gA p n) (2*i)=(p i).2.2.1:=by unfold aL;rw[Ih h]
theorem yX {i:Nat} (h:i<n):aP (gA p n) (2*i)=(p i).2.2.2:=by unfold aP;rw[Ih h]
theorem oB {i:Nat} (h:i<n):aF (gA p n) (2*i+1)=(p i).2.1:=by unfold aF;rw[KR h]
theorem oC {i:Nat} (h:i<n):aT (gA p n) (2*i+1)=(p i).1:=by unfold aT;rw[KR h]
theorem J8 {i:Nat} (h:i<n):aL (gA p n) (2*i+1)=0:=by unfold aL;rw[KR h]
theorem Ab4 {i:Nat} (h:i<n):aP (gA p n) (2*i+1) = -(p i).2.2.2:=by unfold aP;rw[KR h]
theorem B9 {k:Nat} (h:k<2*n):∃i,i<n∧(k=2*i∨k=2*i+1):=⟨k / 2,by omega,by omega⟩
theorem Air (h:J7 p N n):WPr (gA p n) n:=by
 refine ⟨Cr,fun i hi=>?_,fun i hi=>?_,fun i hi=>?_,fun j hj=>?_⟩
 ·rw [oB hi,cQ hi]
 ·rw [oC hi,cP hi]
 ·rw [Ab4 hi,yX hi]
 ·obtain ⟨i,hi,rfl | rfl⟩:=B9 hj
  ·rw [oA hi];exact (h i hi).2.2.2.1
  ·rw [J8 hi];exact Int.le_refl _
theorem oD (h:J7 p N n) {s t:Nat} (hs:s<N) (ht:t<N) (hst:s≠t):SI (gA p n) (gO p N n) (List.replicate N 0) N n s t 0:=by
 have ar:∀k,k<(gA p n).length→aF (gA p n) k<N∧aT (gA p n) k<N:=fun k hk=>by
  rw [Cr]at hk
  obtain ⟨i,hi,rfl | rfl⟩:=B9 hk
  ·rw [cP hi,cQ hi];exact⟨(h i hi).1,(h i hi).2.1⟩
  ·rw [oB hi,oC hi];exact⟨(h i hi).2.1,(h i hi).1⟩
 have l0:∀v,(List.replicate N (0:Int)).getD v 0=0:=fun v=>by
  rw [List.getD_eq_getElem?_getD,List.getElem?_replicate]
  split <;> rfl
 refine ⟨Air h,ar,fun u hu k hk=>?_,fun k hk=>?_,DE,by simp,hs,ht,hst,fun k hk=>?_,l0 s,fun v _=>by rw[l0];omega,fun v hv=>?_,fun _=>0,fun k hk hl=>?_,fun v _=>(l0 v).symm⟩
 ·rw [Cr];exact (Q5 h hu).1 hk
 ·have :=(ar k hk).1
  rw [Cr]at hk
  exact (Q5 h this).2 ⟨hk,rfl⟩
 ·rw [Cr]at hk
  obtain ⟨i,hi,rfl | rfl⟩:=B9 hk
  ·rw [yX hi];have:=h i hi;omega
  ·rw [Ab4 hi];have:=h i hi;omega
 ·unfold FN.net
  rw [AY]
  ·split <;> split <;> rfl
  ·intro i hi
   have hi':i<n:=by
    unfold fnA at hi;dsimp only at hi;rw[Cr]at hi;omega
   have : flA (gA p n) i=0:=J8 hi'
   rw [this]
   split <;> split <;> rfl
 ·rw [Cr]at hk
  obtain ⟨i,hi,rfl | rfl⟩:=B9 hk
  ·rw [yX hi];have:=h i hi;dsimp only;omega
  ·rw [J8 hi]at hl;omega
end
def fnP (p:Nat→Arc) (N n s t:Nat):FN:=⟨N,n,s,t,fun i=>(p i).1,fun i=>(p i).2.1,fun i=>(p i).2.2.1,fun i=>(p i).2.2.2⟩
theorem Q6 {p:Nat→Arc} {N n s t:Nat} (h:J7 p N n) (hs:s<N) (ht:t<N):(fnP p N n s t).WF:=⟨hs,ht,fun i hi=>⟨(h i hi).1,(h i hi).2.1⟩⟩
theorem XZ {p:Nat→Arc} {N n s t:Nat} {f:Nat→Int} {v:Nat}:(fnA (gA p n) N s t).net f v=(fnP p N n s t).net f v:=by
 unfold FN.net
 have e:(fnA (gA p n) N s t).m=n:=by unfold fnA;dsimp only;rw[Cr];omega
 rw [e]
 refine Af fun i hi=>?_
 show (if aF (gA p n) (2*i)=v then f i else 0)-(if aT (gA p n) (2*i)=v then f i else 0)=_
 rw [cP hi,cQ hi];rfl
theorem fnA_flow {p:Nat→Arc} {N n s t:Nat} {f:Nat→Int} {b:Int}:(fnA (gA p n) N s t).Flow f b↔(fnP p N n s t).Flow f b:=by
 have e:(fnA (gA p n) N s t).m=n:=by unfold fnA;dsimp only;rw[Cr];omega
 have hc:∀i,i<n→(fnA (gA p n) N s t).cap i=(fnP p N n s t).cap i:=fun i hi=>by
  show aL (gA p n) (2*i)+aL (gA p n) (2*i+1)=_
  rw [oA hi,J8 hi,Int.add_zero];rfl
 constructor
 ·rintro ⟨h1,h2,h3⟩
  rw [e]at h1 h2
  exact ⟨h1,fun i hi=>by rw[←hc i hi];exact h2 i hi,fun v hv=>by rw[←XZ];exact h3 v hv⟩
 ·rintro ⟨h1,h2,h3⟩
  exact ⟨by rw[e];exact h1,fun i hi=>by rw[e]at hi;rw[hc i hi];exact h2 i hi,fun v hv=>by rw[XZ];exact h3 v hv⟩
theorem fnA_pot {p:Nat→Arc} {N n s t:Nat} {f φ:Nat→Int}:(fnA (gA p n) N s t).Pot f φ↔(fnP p N n s t).Pot f φ:=by
 have e:(fnA (gA p n) N s t).m=n:=by unfold fnA;dsimp only;rw[Cr];omega
 have key:∀i,i<n→(fnA (gA p n) N s t).cap i=(fnP p N n s t).cap i∧(fnA (gA p n) N s t).pr i=(fnP p N n s t).pr i∧(fnA (gA p n) N s t).fr i=(fnP p N n s t).fr i∧(fnA (gA p n) N s t).to i=(fnP p N n s t).to i:=fun i hi=>by
  refine ⟨?_,yX hi,cP hi,cQ hi⟩
  show aL (gA p n) (2*i)+aL (gA p n) (2*i+1)=_
  rw [oA hi,J8 hi,Int.add_zero];rfl
 unfold FN.Pot
 rw [e]
 show _↔∀i,i<n→_
 constructor
 ·intro h i hi
  obtain ⟨k1,k2,k3,k4⟩:=key i hi
  have := h i hi
  rwa [k1,k2,k3,k4]at this
 ·intro h i hi
  obtain ⟨k1,k2,k3,k4⟩:=key i hi
  rw [k1,k2,k3,k4]
  exact h i hi
theorem WR {p:Nat→Arc} {N n s t:Nat} (h:J7 p N n) (hs:s<N) (ht:t<N) (hst:s≠t) {bytes:Int} (hb:0≤bytes) :
  (fnP p N n s t).Flow (flA (De (gA p n) (gO p N n) (List.replicate N 0) N s t bytes).1) (De (gA p n) (gO p N n) (List.replicate N 0) N s t bytes).2 ∧
  (∃ φ,(fnP p N n s t).Pot (flA (De (gA p n) (gO p N n) (List.replicate N 0) N s t bytes).1) φ) ∧
  0 ≤ (De (gA p n) (gO p N n) (List.replicate N 0) N s t bytes).2∧(De (gA p n) (gO p N n) (List.replicate N 0) N s t bytes).2≤bytes ∧
  ((De (gA p n) (gO p N n) (List.replicate N 0) N s t bytes).2<bytes→∀f b,(fnP p N n s t).Flow f b→b≤(De (gA p n) (gO p N n) (List.replicate N 0) N s t bytes).2) ∧
  (De (gA p n) (gO p N n) (List.replicate N 0) N s t bytes).1.length=2*n:=by
 have S:=oD h hs ht hst
 have R:=QO (bytes:=bytes) S
 obtain ⟨lv',S',h1,h2,h3,h4⟩:=Xr R S hb
 obtain ⟨f1,f2,φ,f3⟩:=QN S'
 rw [h4]at f2 f3
 exact ⟨fnA_flow.1 f2,⟨φ,fnA_pot.1 f3⟩,h2,h1,fun hlt f b hf=>Ad2 S' (h3 hlt) (f:=f) (by rw[h4];exact fnA_flow.2 hf),S'.wp.len⟩
end Sim
