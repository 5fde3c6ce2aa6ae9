/- What functions of this seat compute, by values: contracts (lemmas of the statement's proof, under the conditions that each names). -/
import Derived.Test.YtppljhpecoeakaaQR
set_option linter.unusedVariables false
set_option linter.unusedSimpArgs false
namespace Sim
open Go Go.Proofs
theorem Ng {ls:List Lnk} {l:List Snd} {t f:Int}:∀n,CU ls l t f n=Ag (fun i=>if (l.getD i dS).2.1=t∧(BX ls (l.getD i dS)).1=f then (l.getD i dS).2.2 else 0) n
 | 0=>rfl
 | n+1=>by rw[CU,Ag,Ng n];rfl
theorem LN {ls:List Lnk} {l:List Snd} {a t:Int}:∀n,D4 ls l a t n=Ag (fun i=>Do ls (l.getD i dS) a t) n
 | 0=>rfl
 | n+1=>by rw[D4,Ag,LN n]
theorem LO {l:List Snd} {a t:Int}:∀n,Ba l a t n=Ag (fun i=>if (l.getD i dS).1=a∧(l.getD i dS).2.1=t then (l.getD i dS).2.2 else 0) n
 | 0=>rfl
 | n+1=>by rw[Ba,Ag,LO n]
theorem Rm {ls:List Lnk} {l:List Snd}:∀n,EN ls l n=Ag (fun i=>(l.getD i dS).2.2*D3 ls (l.getD i dS).1 (l.getD i dS).2.1) n
 | 0=>rfl
 | n+1=>by rw[EN,Ag,Rm n]
theorem Ai6 {f:Nat→Int}:∀n,Sm f n=Ag f n
 | 0=>rfl
 | n+1=>by rw[Sm,Ag,Ai6 n]
theorem Nh {l:List Snd} {τ:Int} {L:Nat} (P:Nat→Prop) [DecidablePred P]:∀ {n},(∀i,i<n→0≤(l.getD i dS).1∧(l.getD i dS).1<(L:Int)) →
  Ag (fun k=>if P k then Ba l (k:Int) τ n else 0) L=Ag (fun i=>if (l.getD i dS).2.1=τ∧P (l.getD i dS).1.toNat then (l.getD i dS).2.2 else 0) n
 | 0,_=>by
  rw [Ag]
  exact AY fun k _=>by split <;> rfl
 | n + 1,h=>by
  have ih:=Nh (τ:=τ) P (n:=n) fun i hi=>h i (by omega)
  have hn:=h n (by omega)
  rw [Ag,←ih]
  have e:(fun k:Nat=>if P k then Ba l (k:Int) τ (n+1)else 0)=fun k=>(if P k then Ba l (k:Int) τ n else 0)+(if (l.getD n dS).1.toNat=k then (if (l.getD n dS).2.1=τ∧P (l.getD n dS).1.toNat then (l.getD n dS).2.2 else 0)else 0):=by
   funext k
   rw [Ba]
   by_cases c:(l.getD n dS).1.toNat=k
   ·rw [if_pos c]
    have c2:(l.getD n dS).1=(k:Int):=by omega
    rw [c]
    by_cases p:P k
    ·rw [if_pos p,if_pos p]
     by_cases q:(l.getD n dS).2.1=τ
     ·rw [if_pos ⟨c2,q⟩,if_pos ⟨q,p⟩]
     ·rw [if_neg (fun g=>q g.2),if_neg (fun g=>q g.1)]
    ·rw [if_neg p,if_neg p,if_neg (fun g=>p g.2)];rfl
   ·have c2:¬((l.getD n dS).1=(k:Int)∧(l.getD n dS).2.1=τ):=fun g=>c (by rw[g.1];exact Int.toNat_natCast k)
    rw [if_neg c,if_neg c2,Int.add_zero,Int.add_zero]
  rw [e,Bw,BJ,if_pos (by omega)]
def gS (l:List Snd) (r:Int) (k t:Nat):Int:=Ba l (k:Int) (r+(t:Int)) l.length
theorem Aag {ls:List Lnk} {l:List Snd} {i x:Nat} (h:0≤(BX ls (l.getD i dS)).1):((ls.getD (l.getD i dS).1.toNat dL).1.toNat=x)=((BX ls (l.getD i dS)).1=(x:Int)):=by
 unfold BX at h ⊢
 exact propext ⟨fun g=>by omega,fun g=>by omega⟩
theorem Aah {ls:List Lnk} {l:List Snd} {i x:Nat} (h:0≤(BX ls (l.getD i dS)).2.1):((ls.getD (l.getD i dS).1.toNat dL).2.1.toNat=x)=((BX ls (l.getD i dS)).2.1=(x:Int)):=by
 unfold BX at h ⊢
 exact propext ⟨fun g=>by omega,fun g=>by omega⟩
section
variable {hn:Int} {ls:List Lnk} {l us:List Snd} {d:Dem} {r:Int}
theorem Yj (ok:OKr hn ls l) (x t:Nat):(GI hn ls us r).outF (gS l r) x t=CU ls l (r+(t:Int)) (x:Int) l.length:=by
 have := Nh (l:=l) (τ:=r+(t:Int)) (L:=ls.length) (fun k=>(ls.getD k dL).1.toNat=x) (n:=l.length) ok.link
 rw [Ng]
 refine Eq.trans (Eq.trans ?_ this) (Af fun i hi=>?_)
 ·rfl
 ·simp only[Aag (ends ok hi).1.1]
theorem Aj0 (ok:OKr hn ls l) (x t:Nat):(GI hn ls us r).inF (gS l r) x t=Ag (fun i=>if (l.getD i dS).2.1=r+(t:Int)∧(BX ls (l.getD i dS)).2.1=(x:Int)then (l.getD i dS).2.2 else 0) l.length:=by
 have := Nh (l:=l) (τ:=r+(t:Int)) (L:=ls.length) (fun k=>(ls.getD k dL).2.1.toNat=x) (n:=l.length) ok.link
 refine Eq.trans (Eq.trans ?_ this) (Af fun i hi=>?_)
 ·rfl
 ·simp only[Aah (ends ok hi).2.1.1]
theorem Ki (ok:OKr hn ls l) (hd:0≤d.1) (h0:∀i,i<l.length→d.2.2.2.1≤(l.getD i dS).2.1) (x:Nat):∀t:Nat,(GI hn ls us d.2.2.2.1).stk d.1.toNat d.2.2.1 (gS l d.2.2.2.1) t x=A9 ls l d (x:Int) (d.2.2.2.1+(t:Int))
 | 0=>by
  unfold A9 Dg
  rw [LN,AY (fun i hi=>by unfold Do;rw[if_neg (by have:=h0 i hi;omega)]),TN.stk]
  by_cases c:d.1.toNat=x
  ·rw [if_pos c,if_pos ⟨by omega,by omega⟩];omega
  ·rw [if_neg c,if_neg (fun g=>c (by omega))];rfl
 | t + 1=>by
  rw [TN.stk,Ki ok hd h0 x t,Yj ok,Aj0 ok,Ng]
  unfold A9
  have e0:Dg d (x:Int) (d.2.2.2.1+((t+1:Nat):Int))=Dg d (x:Int) (d.2.2.2.1+(t:Int)):=by
   unfold Dg
   by_cases c:(x:Int)=d.1
   ·rw [if_pos ⟨c,by omega⟩,if_pos ⟨c,by omega⟩]
   ·rw [if_neg (fun g=>c g.1),if_neg (fun g=>c g.1)]
  rw [e0,LN,LN]
  have e1:Ag (fun i=>Do ls (l.getD i dS) (x:Int) (d.2.2.2.1+((t+1:Nat):Int))) l.length=Ag (fun i=>(Do ls (l.getD i dS) (x:Int) (d.2.2.2.1+(t:Int))-(if (l.getD i dS).2.1=d.2.2.2.1+(t:Int)∧(BX ls (l.getD i dS)).1=(x:Int)then (l.getD i dS).2.2 else 0))+(if (l.getD i dS).2.1=d.2.2.2.1+(t:Int)∧(BX ls (l.getD i dS)).2.1=(x:Int)then (l.getD i dS).2.2 else 0)) l.length:=by
   refine Af fun i _=>?_
   unfold Do
   by_cases c:(l.getD i dS).2.1=d.2.2.2.1+(t:Int)
   ·have q1:d.2.2.2.1+(t:Int)<d.2.2.2.1+((t+1:Nat):Int):=by omega
    simp only[c,true_and,q1,if_true,Int.lt_irrefl,if_false]
    omega
   ·simp only[c,false_and,if_false]
    by_cases c2:(l.getD i dS).2.1<d.2.2.2.1+(t:Int)
    ·have q1:(l.getD i dS).2.1<d.2.2.2.1+((t+1:Nat):Int):=by omega
     simp only[q1,c2,if_true];omega
    ·have q1:¬(l.getD i dS).2.1<d.2.2.2.1+((t+1:Nat):Int):=by omega
     simp only[q1,c2,if_false];omega
  rw [e1,Bw,BT]
  omega
theorem Rn (ok:OKr hn ls l) (k t:Int):0≤Ba l k t l.length:=by
 rw [LO]
 exact Bt fun i hi=>by
  split
  ·have := ok.bytes i hi;omega
  ·exact Int.le_refl _
theorem Ro (h:Serving hn ls l d) (hu:Br hn ls us=0) (hb:∀i,i<l.length→(l.getD i dS).2.2≤CT ls (l.getD i dS).1 (l.getD i dS).2.1-Ba us (l.getD i dS).1 (l.getD i dS).2.1 us.length) {D:Nat} (ha:d.2.2.1≤A9 ls l d d.2.1 (d.2.2.2.1+(D:Int))):(GI hn ls us d.2.2.2.1).Plan D d.1.toNat d.2.1.toNat d.2.2.1 (gS l d.2.2.2.1):=by
 have ok:=h.ok
 have hf:=h.from_
 have ht:=h.to_
 have okT:=CZ (r:=d.2.2.2.1) (D:=D) hu
 have hdb:1≤d.2.2.1:=h.dem.1
 have h0:=WO h
 have hS:=Ki (us:=us) ok hf.1 h0
 refine ⟨fun k t hk _=>Rn ok _ _,fun k t hk htD=>?_,fun t x htD hx=>?_,fun x hx=>?_⟩
 ·by_cases c:∃i,i<l.length∧((l.getD i dS).1=(k:Int)∧(l.getD i dS).2.1=d.2.2.2.1+(t:Int))
  ·obtain ⟨i,hi,e1,e2⟩:=c
   unfold gS
   rw [Ir ⟨e1,e2⟩ hi fun j hj g=>Nf ok hj hi ⟨g.1.trans e1.symm,g.2.trans e2.symm⟩]
   have := hb i hi
   rw [e1,e2]at this
   exact this
  ·unfold gS
   rw [Fk fun j hj g=>c ⟨j,hj,g⟩]
   exact okT.lf k t hk htD
 ·rw [hS,Yj ok]
  by_cases c:∃i,i<l.length∧((BX ls (l.getD i dS)).1=(x:Int)∧(l.getD i dS).2.1=d.2.2.2.1+(t:Int))
  ·obtain ⟨i,hi,e1,e2⟩:=c
   have := h.fed i hi
   unfold frM at this
   rw [e1,e2]at this
   exact this
  ·rw [Ng,AY fun i hi=>by rw[if_neg fun g=>c ⟨i,hi,g.2,g.1⟩]]
   exact HJ h _ _
 ·rw [hS]
  have hs:=nZ h (d.2.2.2.1+(D:Int))
  rw [if_pos (by omega),Ai6]at hs
  have hx':x<hn.toNat:=hx
  have hnn:=fun i (_:i<hn.toNat)=>HJ h (i:Int) (d.2.2.2.1+(D:Int))
  have hto:A9 ls l d d.2.1 (d.2.2.2.1+(D:Int))=A9 ls l d ((d.2.1.toNat:Nat):Int) (d.2.2.2.1+(D:Int)):=by rw[Int.toNat_of_nonneg ht.1]
  rw [hto]at ha
  have key:∀n:Nat,∀f:Nat→Int,(∀i,i<n→0≤f i)→∀a c,a<n→c<n→a≠c→f a+f c≤Ag f n:=by
   intro n
   induction n with
   | zero=>intro f _ a c ha;omega
   | succ n ih =>
    intro f hf a c ha hc hac
    rw [Ag]
    have hn0:=hf n (by omega)
    by_cases e1:a=n
    ·subst e1
     have := D5 (f:=f) (n:=a) (fun i hi=>hf i (by omega)) (show c<a by omega)
     omega
    ·by_cases e2:c=n
     ·subst e2
      have := D5 (f:=f) (n:=c) (fun i hi=>hf i (by omega)) (show a<c by omega)
      omega
     ·have := ih f (fun i hi=>hf i (by omega)) a c (by omega) (by omega) hac
      omega
  by_cases c:d.2.1.toNat=x
  ·rw [if_pos c]
   have h1:=D5 (f:=fun a:Nat=>A9 ls l d (a:Int) (d.2.2.2.1+(D:Int))) hnn hx'
   rw [c]at ha
   omega
  ·rw [if_neg c]
   have h1:=key hn.toNat (fun a:Nat=>A9 ls l d (a:Int) (d.2.2.2.1+(D:Int))) hnn d.2.1.toNat x (by omega) hx' c
   have h2:=HJ h (x:Int) (d.2.2.2.1+(D:Int))
   omega
theorem Afm (ok:OKr hn ls l) {D:Nat}:(GI hn ls us r).cst D (gS l r)≤EN ls l l.length:=by
 have e:(GI hn ls us r).cst D (gS l r)=Ag (fun i=>if r≤(l.getD i dS).2.1∧(l.getD i dS).2.1<r+(D:Int)then (l.getD i dS).2.2*D3 ls (l.getD i dS).1 (l.getD i dS).2.1 else 0) l.length:=by
  have e1:(GI hn ls us r).cst D (gS l r)=Ag (fun t=>Ag (fun k=>Ag (fun i=>if (l.getD i dS).1=(k:Int)∧(l.getD i dS).2.1=r+(t:Int)then (l.getD i dS).2.2*D3 ls (l.getD i dS).1 (l.getD i dS).2.1 else 0) l.length) ls.length) D:=by
   refine Af fun t _=>Af fun k _=>?_
   show D3 ls (k:Int) (r+(t:Int))*Ba l (k:Int) (r+(t:Int)) l.length=_
   rw [LO,←FZ]
   refine Af fun i _=>?_
   by_cases c:(l.getD i dS).1=(k:Int)∧(l.getD i dS).2.1=r+(t:Int)
   ·rw [if_pos c,if_pos c,c.1,c.2,Int.mul_comm]
   ·rw [if_neg c,if_neg c,Int.mul_zero]
  have e2:∀t,Ag (fun k=>Ag (fun i=>if (l.getD i dS).1=((k:Nat):Int)∧(l.getD i dS).2.1=r+((t:Nat):Int)then (l.getD i dS).2.2*D3 ls (l.getD i dS).1 (l.getD i dS).2.1 else 0) l.length) ls.length=Ag (fun i=>if ((l.getD i dS).2.1-r).toNat=t∧r≤(l.getD i dS).2.1 then (l.getD i dS).2.2*D3 ls (l.getD i dS).1 (l.getD i dS).2.1 else 0) l.length:=fun t=>by
   rw [CR]
   refine Af fun i hi=>?_
   have hl:=ok.link i hi
   rw [Af (g:=fun k=>if (l.getD i dS).1.toNat=k then (if ((l.getD i dS).2.1-r).toNat=t∧r≤(l.getD i dS).2.1 then (l.getD i dS).2.2*D3 ls (l.getD i dS).1 (l.getD i dS).2.1 else 0)else 0) (fun k _=>by
    by_cases c:(l.getD i dS).1.toNat=k
    ·rw [if_pos c]
     by_cases c2:(l.getD i dS).2.1=r+(t:Int)
     ·rw [if_pos ⟨by omega,c2⟩,if_pos ⟨by omega,by omega⟩]
     ·rw [if_neg (fun g=>c2 g.2),if_neg (fun g=>c2 (by omega))]
    ·rw [if_neg c,if_neg (fun g=>c (by omega))]),BJ,if_pos (by omega)]
  rw [e1,Af fun t _=>e2 t,CR]
  refine Af fun i hi=>?_
  rw [Af (g:=fun t=>if ((l.getD i dS).2.1-r).toNat=t then (if r≤(l.getD i dS).2.1 then (l.getD i dS).2.2*D3 ls (l.getD i dS).1 (l.getD i dS).2.1 else 0)else 0) (fun t _=>by
   by_cases c:((l.getD i dS).2.1-r).toNat=t
   ·simp only[c,true_and,if_true]
   ·simp only[c,false_and,if_false]),BJ]
  by_cases c:r≤(l.getD i dS).2.1
  ·by_cases c2:(l.getD i dS).2.1<r+(D:Int)
   ·rw [if_pos (by omega),if_pos c,if_pos ⟨c,c2⟩]
   ·rw [if_neg (by omega),if_neg (fun g=>c2 g.2)]
  ·have q1:¬(r≤(l.getD i dS).2.1∧(l.getD i dS).2.1<r+(D:Int)):=fun g=>c g.1
   rw [if_neg c,if_neg q1];split <;> rfl
 rw [e,Rm]
 refine Ce fun i hi=>?_
 have hl:=ok.link i hi
 have hb:=ok.bytes i hi
 have hp:=If ok.net (tick:=(l.getD i dS).2.1) hl.1 hl.2
 have := Int.mul_nonneg (show 0≤(l.getD i dS).2.2 by omega) hp.1
 split
 ·exact Int.le_refl _
 ·exact this
end
end Sim
namespace Sim
open Go Go.Proofs
theorem Ni {l:List Snd} {x:Snd} {i:Nat} (h:i<l.length):(l ++ [x]).getD i dS=l.getD i dS:=by
 rw [List.getD_eq_getElem?_getD,List.getElem?_append_left h,List.getD_eq_getElem?_getD]
theorem WY {l:List Snd} {x:Snd}:(l ++ [x]).getD l.length dS=x:=by
 rw [List.getD_eq_getElem?_getD,List.getElem?_append_right (Nat.le_refl _),Nat.sub_self];rfl
theorem pB {φ:Snd→Int} {l:List Snd} {x:Snd}:Ag (fun i=>φ ((l ++ [x]).getD i dS)) (l ++ [x]).length=Ag (fun i=>φ (l.getD i dS)) l.length+φ x:=by
 rw [List.length_append,List.length_singleton,Ag,WY]
 congr 1
 exact Af fun i hi=>by rw[Ni hi]
section
variable {A:List Arc} {h W:Nat} {r:Int}
def Nj (A:List Arc) (h W i:Nat):Prop:=h≤i % W∧0<flA A i
instance {A:List Arc} {h W i:Nat}:Decidable (Nj A h W i):=inferInstanceAs (Decidable (_∧_))
def dH (A:List Arc) (h W:Nat) (r:Int) (i:Nat):Snd:=(((i % W-h:Nat):Int),r+((i / W:Nat):Int),flA A i)
theorem K3 {n:Nat}:Cb A h W r (n+1)=Cb A h W r n++if Nj A h W n then [dH A h W r n]else []:=rfl
theorem Nk (φ:Snd→Int):∀n,Ag (fun i=>φ ((Cb A h W r n).getD i dS)) (Cb A h W r n).length=Ag (fun i=>if Nj A h W i then φ (dH A h W r i)else 0) n
 | 0=>rfl
 | n+1=>by
  rw [K3,Ag]
  by_cases c:Nj A h W n
  ·rw [if_pos c,if_pos c,pB,Nk φ n]
  ·rw [if_neg c,if_neg c,List.append_nil,Nk φ n,Int.add_zero]
theorem LP:∀ {n i:Nat},i<(Cb A h W r n).length→∃j,j<n∧Nj A h W j∧(Cb A h W r n).getD i dS=dH A h W r j
 | 0,i,hi=>absurd hi (by simp[Cb])
 | n+1,i,hi=>by
  rw [K3]at hi ⊢
  by_cases c:Nj A h W n
  ·rw [if_pos c]at hi ⊢
   rw [List.length_append,List.length_singleton]at hi
   by_cases e:i=(Cb A h W r n).length
   ·subst e
    exact ⟨n,by omega,c,WY⟩
   ·obtain ⟨j,h1,h2,h3⟩:=LP (n:=n) (i:=i) (by omega)
    exact ⟨j,by omega,h2,by rw[Ni (by omega)];exact h3⟩
  ·rw [if_neg c,List.append_nil]at hi ⊢
   obtain ⟨j,h1,h2,h3⟩:=LP hi
   exact ⟨j,by omega,h2,h3⟩
theorem Nl:∀ {n k:Nat},0<k→k<(Cb A h W r n).length→((Cb A h W r n).getD (k-1) dS).2.1<((Cb A h W r n).getD k dS).2.1∨(((Cb A h W r n).getD (k-1) dS).2.1=((Cb A h W r n).getD k dS).2.1∧((Cb A h W r n).getD (k-1) dS).1<((Cb A h W r n).getD k dS).1)
 | 0,k,_,hk=>absurd hk (by simp[Cb])
 | n + 1,k,h0,hk=>by
  rw [K3]at hk ⊢
  by_cases c:Nj A h W n
  ·rw [if_pos c]at hk ⊢
   rw [List.length_append,List.length_singleton]at hk
   by_cases e:k=(Cb A h W r n).length
   ·rw [Ni (show k-1<_ by omega),e,WY]
    obtain ⟨j,h1,h2,h3⟩:=LP (A:=A) (h:=h) (W:=W) (r:=r) (n:=n) (i:=k-1) (by omega)
    rw [←e,h3]
    have c1:=c.1
    have c2:=h2.1
    have d1:=Nat.div_add_mod j W
    have d2:=Nat.div_add_mod n W
    have d3:j / W≤n / W:=Nat.div_le_div_right (by omega)
    unfold dH
    dsimp only
    by_cases e2:j / W=n / W
    ·rw [e2]at d1
     right
     rw [e2]
     exact ⟨rfl,by omega⟩
    ·left; omega
   ·rw [Ni (show k-1<_ by omega),Ni (show k<_ by omega)]
    exact Nl h0 (by omega)
  ·rw [if_neg c,List.append_nil]at hk ⊢
   exact Nl h0 hk
end
section
variable {T:TN} {D:Nat} {A:List Arc} {r:Int}
theorem Pw {t k:Nat} (hk:k<T.L):Nj A T.h T.W (t*T.W+(T.h+k))=(0<T.gf (flA A) k t):=by
 have hW:T.h+k<T.W:=by show _<T.h+T.L;omega
 unfold Nj
 rw [(TN.row hW).2]
 exact propext ⟨fun g=>g.2,fun g=>⟨by omega,g⟩⟩
theorem Nm {t x:Nat} (hx:x<T.h):¬Nj A T.h T.W (t*T.W+x):=by
 have hW:x<T.W:=by show _<T.h+T.L;omega
 unfold Nj
 rw [(TN.row hW).2]
 exact fun g=>by omega
theorem Px {t k:Nat} (hk:k<T.L):dH A T.h T.W r (t*T.W+(T.h+k))=((k:Int),r+(t:Int),T.gf (flA A) k t):=by
 have hW:T.h+k<T.W:=by show _<T.h+T.L;omega
 unfold dH
 rw [(TN.row hW).2,(TN.row hW).1,show T.h+k-T.h=k by omega];rfl
theorem pC (φ:Snd→Int):Ag (fun i=>φ ((Cb A T.h T.W r (D*T.W)).getD i dS)) (Cb A T.h T.W r (D*T.W)).length=Ag (fun t=>Ag (fun k=>if 0<T.gf (flA A) k t then φ ((k:Int),r+(t:Int),T.gf (flA A) k t)else 0) T.L) D:=by
 rw [Nk,DP]
 refine Af fun t _=>?_
 have e0:T.W=T.h+T.L:=rfl
 conv => lhs;rw[e0,Dh,←e0]
 rw [AY (fun x hx=>if_neg (Nm hx)),Int.zero_add]
 refine Af fun k hk=>?_
 rw [Px hk]
 simp only[Pw hk]
theorem Afn (h1:0<T.h) {i:Nat} (hi:i<(Cb A T.h T.W r (D*T.W)).length):∃t k,t<D∧k<T.L∧0<T.gf (flA A) k t∧(Cb A T.h T.W r (D*T.W)).getD i dS=((k:Int),r+(t:Int),T.gf (flA A) k t):=by
 obtain ⟨j,a1,a2,a3⟩:=LP hi
 obtain ⟨t,ht,⟨x,hx,rfl⟩ | ⟨k,hk,rfl⟩⟩:=TN.house_of (T:=T) (D:=D) h1 a1
 ·exact absurd a2 (Nm hx)
 ·rw [Pw hk]at a2
  rw [Px hk]at a3
  exact ⟨t,k,ht,hk,a2,a3⟩
end
theorem Aai {hn:Int} {ls:List Lnk} {l:List Snd} (ok:OKr hn ls l) (h:∀i,i<l.length→(l.getD i dS).2.2≤CT ls (l.getD i dS).1 (l.getD i dS).2.1):Br hn ls l=0:=by
 unfold Br
 rw [if_neg (fun g=>g (right_zero.2 ok))]
 have key:∀k,k≤l.length→ftT ls l k=false:=by
  intro k
  induction k with
  | zero=>intro _;rfl
  | succ k ih =>
   intro hk
   rw [ftT,ih (by omega),Bool.false_or,decide_eq_false_iff_not]
   have := h k (by omega)
   omega
 rw [if_neg (by rw[key _ (Nat.le_refl _)];simp)]
structure OutOK (hn:Int) (ls:List Lnk) (us:List Snd) (d:Dem) (l:List Snd) (g:Nat→Nat→Int):Prop where
 serves : A6 hn ls l d=0
 besides : ∀i,i<l.length→(l.getD i dS).2.2≤CT ls (l.getD i dS).1 (l.getD i dS).2.1-Ba us (l.getD i dS).1 (l.getD i dS).2.1 us.length
 cost : CY hn ls l=(AA hn ls us d).cst (Ao d) g
 sent : ∀k t,k<ls.length→t<Ao d→gS l d.2.2.2.1 k t=g k t
 ticks : ∀i,i<l.length→d.2.2.2.1≤(l.getD i dS).2.1∧(l.getD i dS).2.1<d.2.2.2.2
theorem Afo {hn:Int} {ls:List Lnk} {us:List Snd} {d:Dem} {A:List Arc} (hu:Br hn ls us=0) (hd:C6 hn d=true) (hD:Ao d≤32)
  (P : (AA hn ls us d).Plan (Ao d) d.1.toNat d.2.1.toNat d.2.2.1 ((AA hn ls us d).gf (flA A))) :
  OutOK hn ls us d (Cb A hn.toNat (hn.toNat+ls.length) d.2.2.2.1 (AW hn ls d)) ((AA hn ls us d).gf (flA A)):=by
 obtain ⟨oku,_⟩:=Cf hu
 have hh:=oku.net.houses
 obtain ⟨⟨a0,a1⟩,⟨c0,c1⟩,hr⟩:=Ca hd
 have hr2:=hr.2.2.1
 have hr3:=hr.2.2.2.2
 have hr4:=hr.2.2.2.1
 have hdu:d.2.2.2.2=d.2.2.2.1+(Ao d:Nat):=by unfold Ao;omega
 have okT:=CZ (r:=d.2.2.2.1) (D:=Ao d) hu
 have hl:Cb A hn.toNat (hn.toNat+ls.length) d.2.2.2.1 (AW hn ls d)=Cb A (AA hn ls us d).h (AA hn ls us d).W d.2.2.2.1 (Ao d*(AA hn ls us d).W):=rfl
 have hat:=fun i (hi:i<(Cb A (AA hn ls us d).h (AA hn ls us d).W d.2.2.2.1 (Ao d*(AA hn ls us d).W)).length)=>Afn (T:=AA hn ls us d) okT.h1 hi
 have hsum:=fun φ=>pC (T:=AA hn ls us d) (D:=Ao d) (A:=A) (r:=d.2.2.2.1) φ
 have hasc:=fun k h0 hk=>Nl (A:=A) (h:=(AA hn ls us d).h) (W:=(AA hn ls us d).W) (r:=d.2.2.2.1) (n:=Ao d*(AA hn ls us d).W) (k:=k) h0 hk
 rw [hl]
 clear hl
 generalize Cb A (AA hn ls us d).h (AA hn ls us d).W d.2.2.2.1 (Ao d*(AA hn ls us d).W)=l at *
 generalize hg:(AA hn ls us d).gf (flA A)=g at *
 have hL:(AA hn ls us d).L=ls.length:=rfl
 rw [hL]at hsum
 have hlf:∀k t,k<ls.length→t<Ao d→g k t≤CT ls (k:Int) (d.2.2.2.1+(t:Int))-Ba us (k:Int) (d.2.2.2.1+(t:Int)) us.length:=fun k t hk ht=>P.le k t hk ht
 have hlen:l.length≤2000:=by
  have h1:=hsum fun _=>1
  have h2:Ag (fun _=>(1:Int)) l.length=l.length:=by
   generalize l.length=n
   induction n with
   | zero=>rfl
   | succ n ih=>rw[Ag,ih];omega
  rw [h2]at h1
  have h3:∀n:Nat,∀f:Nat→Int,∀b:Int,(∀i,i<n→f i≤b)→Ag f n≤(n:Int)*b:=by
   intro n f b hf
   induction n with
   | zero=>rw[Ag];simp
   | succ n ih =>
    have := ih fun i hi=>hf i (by omega)
    have := hf n (by omega)
    rw [Ag,Int.natCast_add,Int.add_mul];omega
  have h4:=h3 (Ao d) (fun t=>Ag (fun k=>if 0<g k t then 1 else 0) ls.length) 60 (fun t _=>by
   have := h3 ls.length (fun k=>if 0<g k t then 1 else 0) 1 (fun k _=>by split <;> decide)
   have hlen:=oku.net.len
   omega)
  omega
 have ok:OKr hn ls l:=by
  refine ⟨oku.net,hlen,fun i hi=>?_,fun i hi=>?_,fun i hi=>?_,fun k h0 hk=>hasc k h0 hk⟩
  ·obtain ⟨t,k,ht,hk,hp,e⟩:=hat i hi
   rw [e]
   have hk':k<ls.length:=hk
   dsimp only;omega
  ·obtain ⟨t,k,ht,hk,hp,e⟩:=hat i hi
   rw [e]
   dsimp only;omega
  ·obtain ⟨t,k,ht,hk,hp,e⟩:=hat i hi
   rw [e]
   have hk':k<ls.length:=hk
   have h1:=hlf k t hk ht
   have h2:=ES oku.net (link:=(k:Int)) (tick:=d.2.2.2.1+(t:Int)) (by omega) (by omega)
   have h3:=Rn oku (k:Int) (d.2.2.2.1+(t:Int))
   dsimp only;omega
 have hse:∀k t,k<ls.length→t<Ao d→gS l d.2.2.2.1 k t=g k t:=fun k t hk ht=>by
  unfold gS
  rw [LO,hsum fun s=>if s.1=(k:Int)∧s.2.1=d.2.2.2.1+(t:Int)then s.2.2 else 0]
  rw [Af (g:=fun t'=>if t'=t then g k t' else 0) (fun t' ht'=>by
   rw [Af (g:=fun k'=>if k'=k then (if t'=t then g k' t' else 0)else 0) (fun k' hk'=>by
    have nn:=P.nn k' t' hk' ht'
    dsimp only
    by_cases e1:k'=k
    ·by_cases e2:t'=t
     ·subst e1;subst e2
      by_cases c:0<g k' t'
      ·simp [c]
      ·simp [c];omega
     ·have : ¬(d.2.2.2.1+(t':Int)=d.2.2.2.1+(t:Int)):=by omega
      simp [e2,this]
    ·have : ¬((k':Int)=(k:Int)):=by omega
     simp [e1,this]),Cz,if_pos hk]),Cz,if_pos ht]
 have h0:∀i,i<l.length→d.2.2.2.1≤(l.getD i dS).2.1∧(l.getD i dS).2.1<d.2.2.2.2:=fun i hi=>by
  obtain ⟨t,k,ht,hk,hp,e⟩:=hat i hi
  rw [e]
  dsimp only;omega
 have hS:=Ki (us:=us) (d:=d) ok a0 (fun i hi=>(h0 i hi).1)
 have hS2:∀x t:Nat,t≤Ao d→A9 ls l d (x:Int) (d.2.2.2.1+(t:Int))=(AA hn ls us d).stk d.1.toNat d.2.2.1 g t x:=fun x t ht=>by
  rw [←hS x t]
  exact TN.stk_congr fun k t' hk ht'=>hse k t' hk (by omega)
 refine ⟨serves_iff.2 ⟨ok,⟨a0,a1⟩,⟨c0,c1⟩,hr,Aai ok fun i hi=>?_,fun i hi=>?_,?_⟩,fun i hi=>?_,?_,hse,h0⟩
 ·obtain ⟨t,k,ht,hk,hp,e⟩:=hat i hi
  rw [e]
  have h1:=hlf k t hk ht
  have h3:=Rn oku (k:Int) (d.2.2.2.1+(t:Int))
  dsimp only;omega
 ·obtain ⟨t,k,ht,hk,hp,e⟩:=hat i hi
  obtain ⟨⟨f0,f1⟩,_⟩:=ends ok hi
  have hfr:frM ls l i=(((BX ls (l.getD i dS)).1.toNat:Nat):Int):=by unfold frM;omega
  have hx:(BX ls (l.getD i dS)).1.toNat<(AA hn ls us d).h:=by show _<hn.toNat;omega
  rw [hfr]
  generalize (BX ls (l.getD i dS)).1.toNat=x at *
  rw [e]
  dsimp only
  rw [hS2 x t (by omega),←Yj (us:=us) (r:=d.2.2.2.1) ok x t,TN.outF_congr (T:=AA hn ls us d) (g':=g) fun k hk=>hse k t hk ht]
  exact P.st t x ht hx
 ·have := P.en d.2.1.toNat (show d.2.1.toNat<hn.toNat by omega)
  rw [if_pos rfl,←hS2 _ _ (Nat.le_refl _),←hdu,Int.toNat_of_nonneg c0]at this
  omega
 ·obtain ⟨t,k,ht,hk,hp,e⟩:=hat i hi
  rw [e]
  exact hlf k t hk ht
 ·unfold CY
  rw [if_neg (fun g=>g (right_zero.2 ok)),Rm,hsum fun s=>s.2.2*D3 ls s.1 s.2.1]
  refine Af fun t ht=>Af fun k hk=>?_
  have nn:=P.nn k t hk ht
  dsimp only
  by_cases c:0<g k t
  ·rw [if_pos c,Int.mul_comm];rfl
  ·have : g k t=0:=by omega
   rw [if_neg c,this,Int.mul_zero]
end Sim
namespace Sim
open Go Go.Proofs
theorem Fm {hn:Int} {ls:List Lnk} {us:List Snd} {d:Dem} (h:DF hn ls us d=0):Dp hn ls us d=0∧(BA hn ls us d d.2.2.1).2=d.2.2.1∧OutOK hn ls us d (CV hn ls us d) (G5 hn ls us d d.2.2.1):=by
 unfold DF at h
 split at h
 ·contradiction
 ·rename_i c
  split at h
  ·cases h
  ·rename_i c2
   have c:Dp hn ls us d=0:=Classical.not_not.1 c
   obtain ⟨hf,hd,hD,_⟩:=CB c
   obtain ⟨_,_,hr⟩:=Ca hd
   have P:=EB (bytes:=d.2.2.1) hf hd (by have:=hr.1;omega)
   have e:(BA hn ls us d d.2.2.1).2=d.2.2.1:=by have:=P.n1;omega
   have p:=P.plan
   rw [e]at p
   refine ⟨c,e,?_⟩
   have hl:CV hn ls us d=Cb (BA hn ls us d d.2.2.1).1 hn.toNat (hn.toNat+ls.length) d.2.2.2.1 (AW hn ls d):=by
    have hE:DF hn ls us d=0:=by unfold DF;rw[if_neg (fun g=>g c),if_neg c2]
    unfold CV
    rw [if_pos hE]
   rw [hl]
   exact Afo hf hd hD p
theorem Jj {hn:Int} {ls:List Lnk} {us:List Snd} {d:Dem} (hc:Dp hn ls us d=0) (h:DF hn ls us d≠0):DF hn ls us d=21∧∀g,¬(AA hn ls us d).Plan (Ao d) d.1.toNat d.2.1.toNat d.2.2.1 g:=by
 obtain ⟨hf,hd,hD,_⟩:=CB hc
 obtain ⟨_,_,hr⟩:=Ca hd
 have hr0:=hr.1
 have hr1:=hr.2.1
 unfold DF at h ⊢
 rw [if_neg (fun g=>g hc)]at h ⊢
 split at h
 ·rename_i c
  rw [if_pos c]
  refine ⟨rfl,fun g hg=>?_⟩
  have P:=EB (bytes:=d.2.2.1) hf hd (by omega)
  have := P.max c _ _ hr1 hg
  omega
 ·contradiction
section
variable {hn:Int} {ls:List Lnk} {us l:List Snd} {d:Dem}
theorem Rp (hc:Dp hn ls us d=0):PlanOK hn ls us d 1099511627776∧IN hn ls us d=(BA hn ls us d 1099511627776).2:=by
 obtain ⟨hf,hd,_,_⟩:=CB hc
 exact ⟨EB hf hd (by decide),by unfold IN;rw[if_pos hc]⟩
theorem Nn (hc:Dp hn ls us d=0):DF hn ls us d=0↔d.2.2.1≤IN hn ls us d:=by
 obtain ⟨P,e⟩:=Rp hc
 obtain ⟨hf,hd,hD,_⟩:=CB hc
 obtain ⟨_,_,hr⟩:=Ca hd
 have hr0:=hr.1
 have hr1:=hr.2.1
 have Q:=EB (bytes:=d.2.2.1) hf hd (by omega)
 rw [e]
 constructor
 ·intro h
  obtain ⟨_,e2,_⟩:=Fm h
  have q:=Q.plan
  rw [e2]at q
  by_cases c:(BA hn ls us d 1099511627776).2<1099511627776
  ·exact P.max c _ _ hr1 q
  ·omega
 ·intro h
  apply Classical.byContradiction
  intro hne
  obtain ⟨_,h2⟩:=Jj hc hne
  by_cases c:(BA hn ls us d d.2.2.1).2<d.2.2.1
  ·have := Q.max c _ _ P.n1 P.plan
   omega
  ·have e2:(BA hn ls us d d.2.2.1).2=d.2.2.1:=by have:=Q.n1;omega
   have q:=Q.plan
   rw [e2]at q
   exact h2 _ q
end
end Sim
