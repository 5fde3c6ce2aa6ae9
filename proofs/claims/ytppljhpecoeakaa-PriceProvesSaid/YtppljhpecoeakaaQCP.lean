/- What functions of this seat compute, by values: contracts (lemmas of the statement's proof, under the conditions that each names). -/
import Derived.Test.YtppljhpecoeakaaQR
set_option linter.unusedVariables false
set_option linter.unusedSimpArgs false
namespace Sim
open Go Go.Proofs
theorem Qf {ls:List Lnk} {l:List Snd} {t f:Int}:∀n,DX ls l t f n=Ag (fun i=>if (l.getD i dS).2.1=t∧(B3 ls (l.getD i dS)).1=f then (l.getD i dS).2.2 else 0) n
 | 0=>rfl
 | n+1=>by rw[DX,Ag,Qf n];rfl
theorem Ld {ls:List Lnk} {l:List Snd} {a t:Int}:∀n,Ii ls l a t n=Ag (fun i=>Ih ls (l.getD i dS) a t) n
 | 0=>rfl
 | n+1=>by rw[Ii,Ag,Ld n]
theorem Qg {l:List Snd} {a t:Int}:∀n,Bx l a t n=Ag (fun i=>if (l.getD i dS).1=a∧(l.getD i dS).2.1=t then (l.getD i dS).2.2 else 0) n
 | 0=>rfl
 | n+1=>by rw[Bx,Ag,Qg n]
theorem WH {ls:List Lnk} {l:List Snd}:∀n,Fd ls l n=Ag (fun i=>(l.getD i dS).2.2*ET ls (l.getD i dS).1 (l.getD i dS).2.1) n
 | 0=>rfl
 | n+1=>by rw[Fd,Ag,WH n]
theorem Mr {l:List Snd} {τ:Int} {L:Nat} (P:Nat→Prop) [DecidablePred P]:∀ {n},(∀i,i<n→0≤(l.getD i dS).1∧(l.getD i dS).1<(L:Int)) →
  Ag (fun k=>if P k then Bx l (k:Int) τ n else 0) L=Ag (fun i=>if (l.getD i dS).2.1=τ∧P (l.getD i dS).1.toNat then (l.getD i dS).2.2 else 0) n
 | 0,_=>by
  rw [Ag]
  exact AU fun k _=>by split <;> rfl
 | n + 1,h=>by
  have ih:=Mr (τ:=τ) P (n:=n) fun i hi=>h i (by omega)
  have hn:=h n (by omega)
  rw [Ag,←ih]
  have e:(fun k:Nat=>if P k then Bx l (k:Int) τ (n+1)else 0)=fun k=>(if P k then Bx l (k:Int) τ n else 0)+(if (l.getD n dS).1.toNat=k then (if (l.getD n dS).2.1=τ∧P (l.getD n dS).1.toNat then (l.getD n dS).2.2 else 0)else 0):=by
   funext k
   rw [Bx]
   by_cases c:(l.getD n dS).1.toNat=k
   ·rw [if_pos c]
    have c2:(l.getD n dS).1=(k:Int):=by omega
    rw [c]
    by_cases p:P k
    ·rw [if_pos p,if_pos p]
     by_cases q:(l.getD n dS).2.1=τ
     ·rw [if_pos ⟨c2,q⟩,if_pos ⟨q,p⟩]
     ·rw [if_neg (fun g=>q g.2),if_neg (fun g=>q g.1)]
    ·rw [if_neg p,if_neg p,if_neg (fun g=>p g.2)];rfl
   ·have c2:¬((l.getD n dS).1=(k:Int)∧(l.getD n dS).2.1=τ):=fun g=>c (by rw[g.1];exact Int.toNat_natCast k)
    rw [if_neg c,if_neg c2,Int.add_zero,Int.add_zero]
  rw [e,BF,BX,if_pos (by omega)]
def gS (l:List Snd) (r:Int) (k t:Nat):Int:=Bx l (k:Int) (r+(t:Int)) l.length
theorem uI {ls:List Lnk} {l:List Snd} {i x:Nat} (h:0≤(B3 ls (l.getD i dS)).1):((ls.getD (l.getD i dS).1.toNat dL).1.toNat=x)=((B3 ls (l.getD i dS)).1=(x:Int)):=by
 unfold B3 at h ⊢
 exact propext ⟨fun g=>by omega,fun g=>by omega⟩
theorem uJ {ls:List Lnk} {l:List Snd} {i x:Nat} (h:0≤(B3 ls (l.getD i dS)).2.1):((ls.getD (l.getD i dS).1.toNat dL).2.1.toNat=x)=((B3 ls (l.getD i dS)).2.1=(x:Int)):=by
 unfold B3 at h ⊢
 exact propext ⟨fun g=>by omega,fun g=>by omega⟩
section
variable {hn:Int} {ls:List Lnk} {l us:List Snd} {d:Dem} {r:Int}
theorem jL (ok:OKr hn ls l) (x t:Nat):(IJ hn ls us r).outF (gS l r) x t=DX ls l (r+(t:Int)) (x:Int) l.length:=by
 have := Mr (l:=l) (τ:=r+(t:Int)) (L:=ls.length) (fun k=>(ls.getD k dL).1.toNat=x) (n:=l.length) ok.link
 rw [Qf]
 refine Eq.trans (Eq.trans ?_ this) (Af fun i hi=>?_)
 ·rfl
 ·simp only[uI (ends ok hi).1.1]
theorem Ae7 (ok:OKr hn ls l) (x t:Nat):(IJ hn ls us r).inF (gS l r) x t=Ag (fun i=>if (l.getD i dS).2.1=r+(t:Int)∧(B3 ls (l.getD i dS)).2.1=(x:Int)then (l.getD i dS).2.2 else 0) l.length:=by
 have := Mr (l:=l) (τ:=r+(t:Int)) (L:=ls.length) (fun k=>(ls.getD k dL).2.1.toNat=x) (n:=l.length) ok.link
 refine Eq.trans (Eq.trans ?_ this) (Af fun i hi=>?_)
 ·rfl
 ·simp only[uJ (ends ok hi).2.1.1]
theorem Ms (ok:OKr hn ls l) (hd:0≤d.1) (h0:∀i,i<l.length→d.2.2.2.1≤(l.getD i dS).2.1) (x:Nat):∀t:Nat,(IJ hn ls us d.2.2.2.1).stk d.1.toNat d.2.2.1 (gS l d.2.2.2.1) t x=BU ls l d (x:Int) (d.2.2.2.1+(t:Int))
 | 0=>by
  unfold BU Hm
  rw [Ld,AU (fun i hi=>by unfold Ih;rw[if_neg (by have:=h0 i hi;omega)]),TN.stk]
  by_cases c:d.1.toNat=x
  ·rw [if_pos c,if_pos ⟨by omega,by omega⟩];omega
  ·rw [if_neg c,if_neg (fun g=>c (by omega))];rfl
 | t + 1=>by
  rw [TN.stk,Ms ok hd h0 x t,jL ok,Ae7 ok,Qf]
  unfold BU
  have e0:Hm d (x:Int) (d.2.2.2.1+((t+1:Nat):Int))=Hm d (x:Int) (d.2.2.2.1+(t:Int)):=by
   unfold Hm
   by_cases c:(x:Int)=d.1
   ·rw [if_pos ⟨c,by omega⟩,if_pos ⟨c,by omega⟩]
   ·rw [if_neg (fun g=>c g.1),if_neg (fun g=>c g.1)]
  rw [e0,Ld,Ld]
  have e1:Ag (fun i=>Ih ls (l.getD i dS) (x:Int) (d.2.2.2.1+((t+1:Nat):Int))) l.length=Ag (fun i=>(Ih ls (l.getD i dS) (x:Int) (d.2.2.2.1+(t:Int))-(if (l.getD i dS).2.1=d.2.2.2.1+(t:Int)∧(B3 ls (l.getD i dS)).1=(x:Int)then (l.getD i dS).2.2 else 0))+(if (l.getD i dS).2.1=d.2.2.2.1+(t:Int)∧(B3 ls (l.getD i dS)).2.1=(x:Int)then (l.getD i dS).2.2 else 0)) l.length:=by
   refine Af fun i _=>?_
   unfold Ih
   by_cases c:(l.getD i dS).2.1=d.2.2.2.1+(t:Int)
   ·have q1:d.2.2.2.1+(t:Int)<d.2.2.2.1+((t+1:Nat):Int):=by omega
    simp only[c,true_and,q1,if_true,Int.lt_irrefl,if_false]
    omega
   ·simp only[c,false_and,if_false]
    by_cases c2:(l.getD i dS).2.1<d.2.2.2.1+(t:Int)
    ·have q1:(l.getD i dS).2.1<d.2.2.2.1+((t+1:Nat):Int):=by omega
     simp only[q1,c2,if_true];omega
    ·have q1:¬(l.getD i dS).2.1<d.2.2.2.1+((t+1:Nat):Int):=by omega
     simp only[q1,c2,if_false];omega
  rw [e1,BF,BT]
  omega
theorem WI (ok:OKr hn ls l) (k t:Int):0≤Bx l k t l.length:=by
 rw [Qg]
 exact Bm fun i hi=>by
  split
  ·have := ok.bytes i hi;omega
  ·exact Int.le_refl _
end
end Sim
namespace Sim
open Go Go.Proofs
theorem Mt {l:List Snd} {x:Snd} {i:Nat} (h:i<l.length):(l ++ [x]).getD i dS=l.getD i dS:=by
 rw [List.getD_eq_getElem?_getD,List.getElem?_append_left h,List.getD_eq_getElem?_getD]
theorem Vp {l:List Snd} {x:Snd}:(l ++ [x]).getD l.length dS=x:=by
 rw [List.getD_eq_getElem?_getD,List.getElem?_append_right (Nat.le_refl _),Nat.sub_self];rfl
theorem jM {φ:Snd→Int} {l:List Snd} {x:Snd}:Ag (fun i=>φ ((l ++ [x]).getD i dS)) (l ++ [x]).length=Ag (fun i=>φ (l.getD i dS)) l.length+φ x:=by
 rw [List.length_append,List.length_singleton,Ag,Vp]
 congr 1
 exact Af fun i hi=>by rw[Mt hi]
section
variable {A:List Arc} {h W:Nat} {r:Int}
def Mu (A:List Arc) (h W i:Nat):Prop:=h≤i % W∧0<flA A i
instance {A:List Arc} {h W i:Nat}:Decidable (Mu A h W i):=inferInstanceAs (Decidable (_∧_))
def Zv (A:List Arc) (h W:Nat) (r:Int) (i:Nat):Snd:=(((i % W-h:Nat):Int),r+((i / W:Nat):Int),flA A i)
theorem KA {n:Nat}:B0 A h W r (n+1)=B0 A h W r n++if Mu A h W n then [Zv A h W r n]else []:=rfl
theorem Mv (φ:Snd→Int):∀n,Ag (fun i=>φ ((B0 A h W r n).getD i dS)) (B0 A h W r n).length=Ag (fun i=>if Mu A h W i then φ (Zv A h W r i)else 0) n
 | 0=>rfl
 | n+1=>by
  rw [KA,Ag]
  by_cases c:Mu A h W n
  ·rw [if_pos c,if_pos c,jM,Mv φ n]
  ·rw [if_neg c,if_neg c,List.append_nil,Mv φ n,Int.add_zero]
theorem Le:∀ {n i:Nat},i<(B0 A h W r n).length→∃j,j<n∧Mu A h W j∧(B0 A h W r n).getD i dS=Zv A h W r j
 | 0,i,hi=>absurd hi (by simp[B0])
 | n+1,i,hi=>by
  rw [KA]at hi ⊢
  by_cases c:Mu A h W n
  ·rw [if_pos c]at hi ⊢
   rw [List.length_append,List.length_singleton]at hi
   by_cases e:i=(B0 A h W r n).length
   ·subst e
    exact ⟨n,by omega,c,Vp⟩
   ·obtain ⟨j,h1,h2,h3⟩:=Le (n:=n) (i:=i) (by omega)
    exact ⟨j,by omega,h2,by rw[Mt (by omega)];exact h3⟩
  ·rw [if_neg c,List.append_nil]at hi ⊢
   obtain ⟨j,h1,h2,h3⟩:=Le hi
   exact ⟨j,by omega,h2,h3⟩
theorem Mw:∀ {n k:Nat},0<k→k<(B0 A h W r n).length→((B0 A h W r n).getD (k-1) dS).2.1<((B0 A h W r n).getD k dS).2.1∨(((B0 A h W r n).getD (k-1) dS).2.1=((B0 A h W r n).getD k dS).2.1∧((B0 A h W r n).getD (k-1) dS).1<((B0 A h W r n).getD k dS).1)
 | 0,k,_,hk=>absurd hk (by simp[B0])
 | n + 1,k,h0,hk=>by
  rw [KA]at hk ⊢
  by_cases c:Mu A h W n
  ·rw [if_pos c]at hk ⊢
   rw [List.length_append,List.length_singleton]at hk
   by_cases e:k=(B0 A h W r n).length
   ·rw [Mt (show k-1<_ by omega),e,Vp]
    obtain ⟨j,h1,h2,h3⟩:=Le (A:=A) (h:=h) (W:=W) (r:=r) (n:=n) (i:=k-1) (by omega)
    rw [←e,h3]
    have c1:=c.1
    have c2:=h2.1
    have d1:=Nat.div_add_mod j W
    have d2:=Nat.div_add_mod n W
    have d3:j / W≤n / W:=Nat.div_le_div_right (by omega)
    unfold Zv
    dsimp only
    by_cases e2:j / W=n / W
    ·rw [e2]at d1
     right
     rw [e2]
     exact ⟨rfl,by omega⟩
    ·left; omega
   ·rw [Mt (show k-1<_ by omega),Mt (show k<_ by omega)]
    exact Mw h0 (by omega)
  ·rw [if_neg c,List.append_nil]at hk ⊢
   exact Mw h0 hk
end
section
variable {T:TN} {D:Nat} {A:List Arc} {r:Int}
theorem Ol {t k:Nat} (hk:k<T.L):Mu A T.h T.W (t*T.W+(T.h+k))=(0<T.gf (flA A) k t):=by
 have hW:T.h+k<T.W:=by show _<T.h+T.L;omega
 unfold Mu
 rw [(TN.row hW).2]
 exact propext ⟨fun g=>g.2,fun g=>⟨by omega,g⟩⟩
theorem Mx {t x:Nat} (hx:x<T.h):¬Mu A T.h T.W (t*T.W+x):=by
 have hW:x<T.W:=by show _<T.h+T.L;omega
 unfold Mu
 rw [(TN.row hW).2]
 exact fun g=>by omega
theorem Om {t k:Nat} (hk:k<T.L):Zv A T.h T.W r (t*T.W+(T.h+k))=((k:Int),r+(t:Int),T.gf (flA A) k t):=by
 have hW:T.h+k<T.W:=by show _<T.h+T.L;omega
 unfold Zv
 rw [(TN.row hW).2,(TN.row hW).1,show T.h+k-T.h=k by omega];rfl
theorem jN (φ:Snd→Int):Ag (fun i=>φ ((B0 A T.h T.W r (D*T.W)).getD i dS)) (B0 A T.h T.W r (D*T.W)).length=Ag (fun t=>Ag (fun k=>if 0<T.gf (flA A) k t then φ ((k:Int),r+(t:Int),T.gf (flA A) k t)else 0) T.L) D:=by
 rw [Mv,Dx]
 refine Af fun t _=>?_
 have e0:T.W=T.h+T.L:=rfl
 conv => lhs;rw[e0,CS,←e0]
 rw [AU (fun x hx=>if_neg (Mx hx)),Int.zero_add]
 refine Af fun k hk=>?_
 rw [Om hk]
 simp only[Ol hk]
theorem Aax (h1:0<T.h) {i:Nat} (hi:i<(B0 A T.h T.W r (D*T.W)).length):∃t k,t<D∧k<T.L∧0<T.gf (flA A) k t∧(B0 A T.h T.W r (D*T.W)).getD i dS=((k:Int),r+(t:Int),T.gf (flA A) k t):=by
 obtain ⟨j,a1,a2,a3⟩:=Le hi
 obtain ⟨t,ht,⟨x,hx,rfl⟩ | ⟨k,hk,rfl⟩⟩:=TN.house_of (T:=T) (D:=D) h1 a1
 ·exact absurd a2 (Mx hx)
 ·rw [Ol hk]at a2
  rw [Om hk]at a3
  exact ⟨t,k,ht,hk,a2,a3⟩
end
theorem uK {hn:Int} {ls:List Lnk} {l:List Snd} (ok:OKr hn ls l) (h:∀i,i<l.length→(l.getD i dS).2.2≤DH ls (l.getD i dS).1 (l.getD i dS).2.1):BZ hn ls l=0:=by
 unfold BZ
 rw [if_neg (fun g=>g (right_zero.2 ok))]
 have key:∀k,k≤l.length→ftT ls l k=false:=by
  intro k
  induction k with
  | zero=>intro _;rfl
  | succ k ih =>
   intro hk
   rw [ftT,ih (by omega),Bool.false_or,decide_eq_false_iff_not]
   have := h k (by omega)
   omega
 rw [if_neg (by rw[key _ (Nat.le_refl _)];simp)]
structure OutOK (hn:Int) (ls:List Lnk) (us:List Snd) (d:Dem) (l:List Snd) (g:Nat→Nat→Int):Prop where
 serves : BO hn ls l d=0
 besides : ∀i,i<l.length→(l.getD i dS).2.2≤DH ls (l.getD i dS).1 (l.getD i dS).2.1-Bx us (l.getD i dS).1 (l.getD i dS).2.1 us.length
 cost : Fe hn ls l=(Au hn ls us d).cst (Aq d) g
 sent : ∀k t,k<ls.length→t<Aq d→gS l d.2.2.2.1 k t=g k t
 ticks : ∀i,i<l.length→d.2.2.2.1≤(l.getD i dS).2.1∧(l.getD i dS).2.1<d.2.2.2.2
theorem Aay {hn:Int} {ls:List Lnk} {us:List Snd} {d:Dem} {A:List Arc} (hu:BZ hn ls us=0) (hd:DO hn d=true) (hD:Aq d≤32)
  (P : (Au hn ls us d).Plan (Aq d) d.1.toNat d.2.1.toNat d.2.2.1 ((Au hn ls us d).gf (flA A))) :
  OutOK hn ls us d (B0 A hn.toNat (hn.toNat+ls.length) d.2.2.2.1 (AO hn ls d)) ((Au hn ls us d).gf (flA A)):=by
 obtain ⟨oku,_⟩:=Ch hu
 have hh:=oku.net.houses
 obtain ⟨⟨a0,a1⟩,⟨c0,c1⟩,hr⟩:=Cr hd
 have hr2:=hr.2.2.1
 have hr3:=hr.2.2.2.2
 have hr4:=hr.2.2.2.1
 have hdu:d.2.2.2.2=d.2.2.2.1+(Aq d:Nat):=by unfold Aq;omega
 have okT:=Di (r:=d.2.2.2.1) (D:=Aq d) hu
 have hl:B0 A hn.toNat (hn.toNat+ls.length) d.2.2.2.1 (AO hn ls d)=B0 A (Au hn ls us d).h (Au hn ls us d).W d.2.2.2.1 (Aq d*(Au hn ls us d).W):=rfl
 have hat:=fun i (hi:i<(B0 A (Au hn ls us d).h (Au hn ls us d).W d.2.2.2.1 (Aq d*(Au hn ls us d).W)).length)=>Aax (T:=Au hn ls us d) okT.h1 hi
 have hsum:=fun φ=>jN (T:=Au hn ls us d) (D:=Aq d) (A:=A) (r:=d.2.2.2.1) φ
 have hasc:=fun k h0 hk=>Mw (A:=A) (h:=(Au hn ls us d).h) (W:=(Au hn ls us d).W) (r:=d.2.2.2.1) (n:=Aq d*(Au hn ls us d).W) (k:=k) h0 hk
 rw [hl]
 clear hl
 generalize B0 A (Au hn ls us d).h (Au hn ls us d).W d.2.2.2.1 (Aq d*(Au hn ls us d).W)=l at *
 generalize hg:(Au hn ls us d).gf (flA A)=g at *
 have hL:(Au hn ls us d).L=ls.length:=rfl
 rw [hL]at hsum
 have hlf:∀k t,k<ls.length→t<Aq d→g k t≤DH ls (k:Int) (d.2.2.2.1+(t:Int))-Bx us (k:Int) (d.2.2.2.1+(t:Int)) us.length:=fun k t hk ht=>P.le k t hk ht
 have hlen:l.length≤2000:=by
  have h1:=hsum fun _=>1
  have h2:Ag (fun _=>(1:Int)) l.length=l.length:=by
   generalize l.length=n
   induction n with
   | zero=>rfl
   | succ n ih=>rw[Ag,ih];omega
  rw [h2]at h1
  have h3:∀n:Nat,∀f:Nat→Int,∀b:Int,(∀i,i<n→f i≤b)→Ag f n≤(n:Int)*b:=by
   intro n f b hf
   induction n with
   | zero=>rw[Ag];simp
   | succ n ih =>
    have := ih fun i hi=>hf i (by omega)
    have := hf n (by omega)
    rw [Ag,Int.natCast_add,Int.add_mul];omega
  have h4:=h3 (Aq d) (fun t=>Ag (fun k=>if 0<g k t then 1 else 0) ls.length) 60 (fun t _=>by
   have := h3 ls.length (fun k=>if 0<g k t then 1 else 0) 1 (fun k _=>by split <;> decide)
   have hlen:=oku.net.len
   omega)
  omega
 have ok:OKr hn ls l:=by
  refine ⟨oku.net,hlen,fun i hi=>?_,fun i hi=>?_,fun i hi=>?_,fun k h0 hk=>hasc k h0 hk⟩
  ·obtain ⟨t,k,ht,hk,hp,e⟩:=hat i hi
   rw [e]
   have hk':k<ls.length:=hk
   dsimp only;omega
  ·obtain ⟨t,k,ht,hk,hp,e⟩:=hat i hi
   rw [e]
   dsimp only;omega
  ·obtain ⟨t,k,ht,hk,hp,e⟩:=hat i hi
   rw [e]
   have hk':k<ls.length:=hk
   have h1:=hlf k t hk ht
   have h2:=Fc oku.net (link:=(k:Int)) (tick:=d.2.2.2.1+(t:Int)) (by omega) (by omega)
   have h3:=WI oku (k:Int) (d.2.2.2.1+(t:Int))
   dsimp only;omega
 have hse:∀k t,k<ls.length→t<Aq d→gS l d.2.2.2.1 k t=g k t:=fun k t hk ht=>by
  unfold gS
  rw [Qg,hsum fun s=>if s.1=(k:Int)∧s.2.1=d.2.2.2.1+(t:Int)then s.2.2 else 0]
  rw [Af (g:=fun t'=>if t'=t then g k t' else 0) (fun t' ht'=>by
   rw [Af (g:=fun k'=>if k'=k then (if t'=t then g k' t' else 0)else 0) (fun k' hk'=>by
    have nn:=P.nn k' t' hk' ht'
    dsimp only
    by_cases e1:k'=k
    ·by_cases e2:t'=t
     ·subst e1;subst e2
      by_cases c:0<g k' t'
      ·simp [c]
      ·simp [c];omega
     ·have : ¬(d.2.2.2.1+(t':Int)=d.2.2.2.1+(t:Int)):=by omega
      simp [e2,this]
    ·have : ¬((k':Int)=(k:Int)):=by omega
     simp [e1,this]),Cp,if_pos hk]),Cp,if_pos ht]
 have h0:∀i,i<l.length→d.2.2.2.1≤(l.getD i dS).2.1∧(l.getD i dS).2.1<d.2.2.2.2:=fun i hi=>by
  obtain ⟨t,k,ht,hk,hp,e⟩:=hat i hi
  rw [e]
  dsimp only;omega
 have hS:=Ms (us:=us) (d:=d) ok a0 (fun i hi=>(h0 i hi).1)
 have hS2:∀x t:Nat,t≤Aq d→BU ls l d (x:Int) (d.2.2.2.1+(t:Int))=(Au hn ls us d).stk d.1.toNat d.2.2.1 g t x:=fun x t ht=>by
  rw [←hS x t]
  exact TN.stk_congr fun k t' hk ht'=>hse k t' hk (by omega)
 refine ⟨serves_iff.2 ⟨ok,⟨a0,a1⟩,⟨c0,c1⟩,hr,uK ok fun i hi=>?_,fun i hi=>?_,?_⟩,fun i hi=>?_,?_,hse,h0⟩
 ·obtain ⟨t,k,ht,hk,hp,e⟩:=hat i hi
  rw [e]
  have h1:=hlf k t hk ht
  have h3:=WI oku (k:Int) (d.2.2.2.1+(t:Int))
  dsimp only;omega
 ·obtain ⟨t,k,ht,hk,hp,e⟩:=hat i hi
  obtain ⟨⟨f0,f1⟩,_⟩:=ends ok hi
  have hfr:frM ls l i=(((B3 ls (l.getD i dS)).1.toNat:Nat):Int):=by unfold frM;omega
  have hx:(B3 ls (l.getD i dS)).1.toNat<(Au hn ls us d).h:=by show _<hn.toNat;omega
  rw [hfr]
  generalize (B3 ls (l.getD i dS)).1.toNat=x at *
  rw [e]
  dsimp only
  rw [hS2 x t (by omega),←jL (us:=us) (r:=d.2.2.2.1) ok x t,TN.outF_congr (T:=Au hn ls us d) (g':=g) fun k hk=>hse k t hk ht]
  exact P.st t x ht hx
 ·have := P.en d.2.1.toNat (show d.2.1.toNat<hn.toNat by omega)
  rw [if_pos rfl,←hS2 _ _ (Nat.le_refl _),←hdu,Int.toNat_of_nonneg c0]at this
  omega
 ·obtain ⟨t,k,ht,hk,hp,e⟩:=hat i hi
  rw [e]
  exact hlf k t hk ht
 ·unfold Fe
  rw [if_neg (fun g=>g (right_zero.2 ok)),WH,hsum fun s=>s.2.2*ET ls s.1 s.2.1]
  refine Af fun t ht=>Af fun k hk=>?_
  have nn:=P.nn k t hk ht
  dsimp only
  by_cases c:0<g k t
  ·rw [if_pos c,Int.mul_comm];rfl
  ·have : g k t=0:=by omega
   rw [if_neg c,this,Int.mul_zero]
end Sim
namespace Sim
open Go Go.Proofs
theorem FJ {hn:Int} {ls:List Lnk} {us:List Snd} {d:Dem} (h:Dz hn ls us d=0):En hn ls us d=0∧(Bs hn ls us d d.2.2.1).2=d.2.2.1∧OutOK hn ls us d (CD hn ls us d) (Hr hn ls us d d.2.2.1):=by
 unfold Dz at h
 split at h
 ·contradiction
 ·rename_i c
  split at h
  ·cases h
  ·rename_i c2
   have c:En hn ls us d=0:=Classical.not_not.1 c
   obtain ⟨hf,hd,hD,_⟩:=CT c
   obtain ⟨_,_,hr⟩:=Cr hd
   have P:=EP (bytes:=d.2.2.1) hf hd (by have:=hr.1;omega)
   have e:(Bs hn ls us d d.2.2.1).2=d.2.2.1:=by have:=P.n1;omega
   have p:=P.plan
   rw [e]at p
   refine ⟨c,e,?_⟩
   have hl:CD hn ls us d=B0 (Bs hn ls us d d.2.2.1).1 hn.toNat (hn.toNat+ls.length) d.2.2.2.1 (AO hn ls d):=by
    have hE:Dz hn ls us d=0:=by unfold Dz;rw[if_neg (fun g=>g c),if_neg c2]
    unfold CD
    rw [if_pos hE]
   rw [hl]
   exact Aay hf hd hD p
theorem My {hn:Int} {ls:List Lnk} {us:List Snd} {d:Dem} (hc:En hn ls us d=0) (h:Dz hn ls us d≠0):Dz hn ls us d=21∧∀g,¬(Au hn ls us d).Plan (Aq d) d.1.toNat d.2.1.toNat d.2.2.1 g:=by
 obtain ⟨hf,hd,hD,_⟩:=CT hc
 obtain ⟨_,_,hr⟩:=Cr hd
 have hr0:=hr.1
 have hr1:=hr.2.1
 unfold Dz at h ⊢
 rw [if_neg (fun g=>g hc)]at h ⊢
 split at h
 ·rename_i c
  rw [if_pos c]
  refine ⟨rfl,fun g hg=>?_⟩
  have P:=EP (bytes:=d.2.2.1) hf hd (by omega)
  have := P.max c _ _ hr1 hg
  omega
 ·contradiction
section
variable {hn:Int} {ls:List Lnk} {us l:List Snd} {d:Dem}
theorem Qh (hc:En hn ls us d=0):PlanOK hn ls us d 1099511627776∧Ij hn ls us d=(Bs hn ls us d 1099511627776).2:=by
 obtain ⟨hf,hd,_,_⟩:=CT hc
 exact ⟨EP hf hd (by decide),by unfold Ij;rw[if_pos hc]⟩
theorem Mz (hc:En hn ls us d=0):Dz hn ls us d=0↔d.2.2.1≤Ij hn ls us d:=by
 obtain ⟨P,e⟩:=Qh hc
 obtain ⟨hf,hd,hD,_⟩:=CT hc
 obtain ⟨_,_,hr⟩:=Cr hd
 have hr0:=hr.1
 have hr1:=hr.2.1
 have Q:=EP (bytes:=d.2.2.1) hf hd (by omega)
 rw [e]
 constructor
 ·intro h
  obtain ⟨_,e2,_⟩:=FJ h
  have q:=Q.plan
  rw [e2]at q
  by_cases c:(Bs hn ls us d 1099511627776).2<1099511627776
  ·exact P.max c _ _ hr1 q
  ·omega
 ·intro h
  apply Classical.byContradiction
  intro hne
  obtain ⟨_,h2⟩:=My hc hne
  by_cases c:(Bs hn ls us d d.2.2.1).2<d.2.2.1
  ·have := Q.max c _ _ P.n1 P.plan
   omega
  ·have e2:(Bs hn ls us d d.2.2.1).2=d.2.2.1:=by have:=Q.n1;omega
   have q:=Q.plan
   rw [e2]at q
   exact h2 _ q
end
end Sim
