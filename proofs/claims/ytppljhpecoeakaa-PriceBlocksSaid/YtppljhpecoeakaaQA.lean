/- What functions of this seat compute, by values: contracts (lemmas of the statement's proof, under the conditions that each names). -/
import Derived.Test.YtppljhpecoeakaaQPS
import Derived.Test.YtppljhpecoeakaaQLM
set_option linter.unusedVariables false
set_option linter.unusedSimpArgs false
set_option maxRecDepth 10000
set_option maxHeartbeats 4000000
namespace Sim
open Go Go.Proofs
theorem MV {l:List Snd} {x:Snd} {i:Nat} (h:i<l.length):(l ++ [x]).getD i dS=l.getD i dS:=by
 rw [List.getD_eq_getElem?_getD,List.getElem?_append_left h,List.getD_eq_getElem?_getD]
theorem Wb {l:List Snd} {x:Snd}:(l ++ [x]).getD l.length dS=x:=by
 rw [List.getD_eq_getElem?_getD,List.getElem?_append_right (Nat.le_refl _),Nat.sub_self];rfl
theorem mW {φ:Snd→Int} {l:List Snd} {x:Snd}:Ai (fun i=>φ ((l ++ [x]).getD i dS)) (l ++ [x]).length=Ai (fun i=>φ (l.getD i dS)) l.length+φ x:=by
 rw [List.length_append,List.length_singleton,Ai,Wb]
 congr 1
 exact Af fun i hi=>by rw[MV hi]
section
variable {A:List Arc} {h W:Nat} {r:Int}
def MW (A:List Arc) (h W i:Nat):Prop:=h≤i % W∧0<flA A i
instance {A:List Arc} {h W i:Nat}:Decidable (MW A h W i):=inferInstanceAs (Decidable (_∧_))
def aX (A:List Arc) (h W:Nat) (r:Int) (i:Nat):Snd:=(((i % W-h:Nat):Int),r+((i / W:Nat):Int),flA A i)
theorem KT {n:Nat}:B5 A h W r (n+1)=B5 A h W r n++if MW A h W n then [aX A h W r n]else []:=rfl
theorem MX (φ:Snd→Int):∀n,Ai (fun i=>φ ((B5 A h W r n).getD i dS)) (B5 A h W r n).length=Ai (fun i=>if MW A h W i then φ (aX A h W r i)else 0) n
 | 0=>rfl
 | n+1=>by
  rw [KT,Ai]
  by_cases c:MW A h W n
  ·rw [if_pos c,if_pos c,mW,MX φ n]
  ·rw [if_neg c,if_neg c,List.append_nil,MX φ n,Int.add_zero]
theorem LD:∀ {n i:Nat},i<(B5 A h W r n).length→∃j,j<n∧MW A h W j∧(B5 A h W r n).getD i dS=aX A h W r j
 | 0,i,hi=>absurd hi (by simp[B5])
 | n+1,i,hi=>by
  rw [KT]at hi ⊢
  by_cases c:MW A h W n
  ·rw [if_pos c]at hi ⊢
   rw [List.length_append,List.length_singleton]at hi
   by_cases e:i=(B5 A h W r n).length
   ·subst e
    exact ⟨n,by omega,c,Wb⟩
   ·obtain ⟨j,h1,h2,h3⟩:=LD (n:=n) (i:=i) (by omega)
    exact ⟨j,by omega,h2,by rw[MV (by omega)];exact h3⟩
  ·rw [if_neg c,List.append_nil]at hi ⊢
   obtain ⟨j,h1,h2,h3⟩:=LD hi
   exact ⟨j,by omega,h2,h3⟩
theorem MY:∀ {n k:Nat},0<k→k<(B5 A h W r n).length→((B5 A h W r n).getD (k-1) dS).2.1<((B5 A h W r n).getD k dS).2.1∨(((B5 A h W r n).getD (k-1) dS).2.1=((B5 A h W r n).getD k dS).2.1∧((B5 A h W r n).getD (k-1) dS).1<((B5 A h W r n).getD k dS).1)
 | 0,k,_,hk=>absurd hk (by simp[B5])
 | n + 1,k,h0,hk=>by
  rw [KT]at hk ⊢
  by_cases c:MW A h W n
  ·rw [if_pos c]at hk ⊢
   rw [List.length_append,List.length_singleton]at hk
   by_cases e:k=(B5 A h W r n).length
   ·rw [MV (show k-1<_ by omega),e,Wb]
    obtain ⟨j,h1,h2,h3⟩:=LD (A:=A) (h:=h) (W:=W) (r:=r) (n:=n) (i:=k-1) (by omega)
    rw [←e,h3]
    have c1:=c.1
    have c2:=h2.1
    have d1:=Nat.div_add_mod j W
    have d2:=Nat.div_add_mod n W
    have d3:j / W≤n / W:=Nat.div_le_div_right (by omega)
    unfold aX
    dsimp only
    by_cases e2:j / W=n / W
    ·rw [e2]at d1
     right
     rw [e2]
     exact ⟨rfl,by omega⟩
    ·left; omega
   ·rw [MV (show k-1<_ by omega),MV (show k<_ by omega)]
    exact MY h0 (by omega)
  ·rw [if_neg c,List.append_nil]at hk ⊢
   exact MY h0 hk
end
section
variable {T:TN} {D:Nat} {A:List Arc} {r:Int}
theorem OR {t k:Nat} (hk:k<T.L):MW A T.h T.W (t*T.W+(T.h+k))=(0<T.gf (flA A) k t):=by
 have hW:T.h+k<T.W:=by show _<T.h+T.L;omega
 unfold MW
 rw [(TN.row hW).2]
 exact propext ⟨fun g=>g.2,fun g=>⟨by omega,g⟩⟩
theorem MZ {t x:Nat} (hx:x<T.h):¬MW A T.h T.W (t*T.W+x):=by
 have hW:x<T.W:=by show _<T.h+T.L;omega
 unfold MW
 rw [(TN.row hW).2]
 exact fun g=>by omega
theorem OS {t k:Nat} (hk:k<T.L):aX A T.h T.W r (t*T.W+(T.h+k))=((k:Int),r+(t:Int),T.gf (flA A) k t):=by
 have hW:T.h+k<T.W:=by show _<T.h+T.L;omega
 unfold aX
 rw [(TN.row hW).2,(TN.row hW).1,show T.h+k-T.h=k by omega];rfl
theorem mX (φ:Snd→Int):Ai (fun i=>φ ((B5 A T.h T.W r (D*T.W)).getD i dS)) (B5 A T.h T.W r (D*T.W)).length=Ai (fun t=>Ai (fun k=>if 0<T.gf (flA A) k t then φ ((k:Int),r+(t:Int),T.gf (flA A) k t)else 0) T.L) D:=by
 rw [MX,DJ]
 refine Af fun t _=>?_
 have e0:T.W=T.h+T.L:=rfl
 conv => lhs;rw[e0,CZ,←e0]
 rw [A3 (fun x hx=>if_neg (MZ hx)),Int.zero_add]
 refine Af fun k hk=>?_
 rw [OS hk]
 simp only[OR hk]
theorem Adh (h1:0<T.h) {i:Nat} (hi:i<(B5 A T.h T.W r (D*T.W)).length):∃t k,t<D∧k<T.L∧0<T.gf (flA A) k t∧(B5 A T.h T.W r (D*T.W)).getD i dS=((k:Int),r+(t:Int),T.gf (flA A) k t):=by
 obtain ⟨j,a1,a2,a3⟩:=LD hi
 obtain ⟨t,ht,⟨x,hx,rfl⟩ | ⟨k,hk,rfl⟩⟩:=TN.house_of (T:=T) (D:=D) h1 a1
 ·exact absurd a2 (MZ hx)
 ·rw [OR hk]at a2
  rw [OS hk]at a3
  exact ⟨t,k,ht,hk,a2,a3⟩
end
theorem xV {hn:Int} {ls:List Lnk} {l:List Snd} (ok:OKr hn ls l) (h:∀i,i<l.length→(l.getD i dS).2.2≤CY ls (l.getD i dS).1 (l.getD i dS).2.1):BA hn ls l=0:=by
 unfold BA
 rw [if_neg (fun g=>g (right_zero.2 ok))]
 have key:∀k,k≤l.length→ftT ls l k=false:=by
  intro k
  induction k with
  | zero=>intro _;rfl
  | succ k ih =>
   intro hk
   rw [ftT,ih (by omega),Bool.false_or,decide_eq_false_iff_not]
   have := h k (by omega)
   omega
 rw [if_neg (by rw[key _ (Nat.le_refl _)];simp)]
structure OutOK (hn:Int) (ls:List Lnk) (us:List Snd) (d:Dem) (l:List Snd) (g:Nat→Nat→Int):Prop where
 serves : BU hn ls l d=0
 besides : ∀i,i<l.length→(l.getD i dS).2.2≤CY ls (l.getD i dS).1 (l.getD i dS).2.1-Bx us (l.getD i dS).1 (l.getD i dS).2.1 us.length
 cost : FQ hn ls l=(Aw hn ls us d).cst (Ar d) g
 sent : ∀k t,k<ls.length→t<Ar d→gS l d.2.2.2.1 k t=g k t
 ticks : ∀i,i<l.length→d.2.2.2.1≤(l.getD i dS).2.1∧(l.getD i dS).2.1<d.2.2.2.2
theorem Adi {hn:Int} {ls:List Lnk} {us:List Snd} {d:Dem} {A:List Arc} (hu:BA hn ls us=0) (hd:Dc hn d=true) (hD:Ar d≤32)
  (P : (Aw hn ls us d).Plan (Ar d) d.1.toNat d.2.1.toNat d.2.2.1 ((Aw hn ls us d).gf (flA A))) :
  OutOK hn ls us d (B5 A hn.toNat (hn.toNat+ls.length) d.2.2.2.1 (AV hn ls d)) ((Aw hn ls us d).gf (flA A)):=by
 obtain ⟨oku,_⟩:=Cm hu
 have hh:=oku.net.houses
 obtain ⟨⟨a0,a1⟩,⟨c0,c1⟩,hr⟩:=Cw hd
 have hr2:=hr.2.2.1
 have hr3:=hr.2.2.2.2
 have hr4:=hr.2.2.2.1
 have hdu:d.2.2.2.2=d.2.2.2.1+(Ar d:Nat):=by unfold Ar;omega
 have okT:=Dr (r:=d.2.2.2.1) (D:=Ar d) hu
 have hl:B5 A hn.toNat (hn.toNat+ls.length) d.2.2.2.1 (AV hn ls d)=B5 A (Aw hn ls us d).h (Aw hn ls us d).W d.2.2.2.1 (Ar d*(Aw hn ls us d).W):=rfl
 have hat:=fun i (hi:i<(B5 A (Aw hn ls us d).h (Aw hn ls us d).W d.2.2.2.1 (Ar d*(Aw hn ls us d).W)).length)=>Adh (T:=Aw hn ls us d) okT.h1 hi
 have hsum:=fun φ=>mX (T:=Aw hn ls us d) (D:=Ar d) (A:=A) (r:=d.2.2.2.1) φ
 have hasc:=fun k h0 hk=>MY (A:=A) (h:=(Aw hn ls us d).h) (W:=(Aw hn ls us d).W) (r:=d.2.2.2.1) (n:=Ar d*(Aw hn ls us d).W) (k:=k) h0 hk
 rw [hl]
 clear hl
 generalize B5 A (Aw hn ls us d).h (Aw hn ls us d).W d.2.2.2.1 (Ar d*(Aw hn ls us d).W)=l at *
 generalize hg:(Aw hn ls us d).gf (flA A)=g at *
 have hL:(Aw hn ls us d).L=ls.length:=rfl
 rw [hL]at hsum
 have hlf:∀k t,k<ls.length→t<Ar d→g k t≤CY ls (k:Int) (d.2.2.2.1+(t:Int))-Bx us (k:Int) (d.2.2.2.1+(t:Int)) us.length:=fun k t hk ht=>P.le k t hk ht
 have hlen:l.length≤2000:=by
  have h1:=hsum fun _=>1
  have h2:Ai (fun _=>(1:Int)) l.length=l.length:=by
   generalize l.length=n
   induction n with
   | zero=>rfl
   | succ n ih=>rw[Ai,ih];omega
  rw [h2]at h1
  have h3:∀n:Nat,∀f:Nat→Int,∀b:Int,(∀i,i<n→f i≤b)→Ai f n≤(n:Int)*b:=by
   intro n f b hf
   induction n with
   | zero=>rw[Ai];simp
   | succ n ih =>
    have := ih fun i hi=>hf i (by omega)
    have := hf n (by omega)
    rw [Ai,Int.natCast_add,Int.add_mul];omega
  have h4:=h3 (Ar d) (fun t=>Ai (fun k=>if 0<g k t then 1 else 0) ls.length) 60 (fun t _=>by
   have := h3 ls.length (fun k=>if 0<g k t then 1 else 0) 1 (fun k _=>by split <;> decide)
   have hlen:=oku.net.len
   omega)
  omega
 have ok:OKr hn ls l:=by
  refine ⟨oku.net,hlen,fun i hi=>?_,fun i hi=>?_,fun i hi=>?_,fun k h0 hk=>hasc k h0 hk⟩
  ·obtain ⟨t,k,ht,hk,hp,e⟩:=hat i hi
   rw [e]
   have hk':k<ls.length:=hk
   dsimp only;omega
  ·obtain ⟨t,k,ht,hk,hp,e⟩:=hat i hi
   rw [e]
   dsimp only;omega
  ·obtain ⟨t,k,ht,hk,hp,e⟩:=hat i hi
   rw [e]
   have hk':k<ls.length:=hk
   have h1:=hlf k t hk ht
   have h2:=Fr oku.net (link:=(k:Int)) (tick:=d.2.2.2.1+(t:Int)) (by omega) (by omega)
   have h3:=Xy oku (k:Int) (d.2.2.2.1+(t:Int))
   dsimp only;omega
 have hse:∀k t,k<ls.length→t<Ar d→gS l d.2.2.2.1 k t=g k t:=fun k t hk ht=>by
  unfold gS
  rw [QJ,hsum fun s=>if s.1=(k:Int)∧s.2.1=d.2.2.2.1+(t:Int)then s.2.2 else 0]
  rw [Af (g:=fun t'=>if t'=t then g k t' else 0) (fun t' ht'=>by
   rw [Af (g:=fun k'=>if k'=k then (if t'=t then g k' t' else 0)else 0) (fun k' hk'=>by
    have nn:=P.nn k' t' hk' ht'
    dsimp only
    by_cases e1:k'=k
    ·by_cases e2:t'=t
     ·subst e1;subst e2
      by_cases c:0<g k' t'
      ·simp [c]
      ·simp [c];omega
     ·have : ¬(d.2.2.2.1+(t':Int)=d.2.2.2.1+(t:Int)):=by omega
      simp [e2,this]
    ·have : ¬((k':Int)=(k:Int)):=by omega
     simp [e1,this]),Cu,if_pos hk]),Cu,if_pos ht]
 have h0:∀i,i<l.length→d.2.2.2.1≤(l.getD i dS).2.1∧(l.getD i dS).2.1<d.2.2.2.2:=fun i hi=>by
  obtain ⟨t,k,ht,hk,hp,e⟩:=hat i hi
  rw [e]
  dsimp only;omega
 have hS:=MU (us:=us) (d:=d) ok a0 (fun i hi=>(h0 i hi).1)
 have hS2:∀x t:Nat,t≤Ar d→BY ls l d (x:Int) (d.2.2.2.1+(t:Int))=(Aw hn ls us d).stk d.1.toNat d.2.2.1 g t x:=fun x t ht=>by
  rw [←hS x t]
  exact TN.stk_congr fun k t' hk ht'=>hse k t' hk (by omega)
 refine ⟨serves_iff.2 ⟨ok,⟨a0,a1⟩,⟨c0,c1⟩,hr,xV ok fun i hi=>?_,fun i hi=>?_,?_⟩,fun i hi=>?_,?_,hse,h0⟩
 ·obtain ⟨t,k,ht,hk,hp,e⟩:=hat i hi
  rw [e]
  have h1:=hlf k t hk ht
  have h3:=Xy oku (k:Int) (d.2.2.2.1+(t:Int))
  dsimp only;omega
 ·obtain ⟨t,k,ht,hk,hp,e⟩:=hat i hi
  obtain ⟨⟨f0,f1⟩,_⟩:=ends ok hi
  have hfr:frM ls l i=(((B8 ls (l.getD i dS)).1.toNat:Nat):Int):=by unfold frM;omega
  have hx:(B8 ls (l.getD i dS)).1.toNat<(Aw hn ls us d).h:=by show _<hn.toNat;omega
  rw [hfr]
  generalize (B8 ls (l.getD i dS)).1.toNat=x at *
  rw [e]
  dsimp only
  rw [hS2 x t (by omega),←mV (us:=us) (r:=d.2.2.2.1) ok x t,TN.outF_congr (T:=Aw hn ls us d) (g':=g) fun k hk=>hse k t hk ht]
  exact P.st t x ht hx
 ·have := P.en d.2.1.toNat (show d.2.1.toNat<hn.toNat by omega)
  rw [if_pos rfl,←hS2 _ _ (Nat.le_refl _),←hdu,Int.toNat_of_nonneg c0]at this
  omega
 ·obtain ⟨t,k,ht,hk,hp,e⟩:=hat i hi
  rw [e]
  exact hlf k t hk ht
 ·unfold FQ
  rw [if_neg (fun g=>g (right_zero.2 ok)),Xx,hsum fun s=>s.2.2*Fd ls s.1 s.2.1]
  refine Af fun t ht=>Af fun k hk=>?_
  have nn:=P.nn k t hk ht
  dsimp only
  by_cases c:0<g k t
  ·rw [if_pos c,Int.mul_comm];rfl
  ·have : g k t=0:=by omega
   rw [if_neg c,this,Int.mul_zero]
end Sim
namespace Sim
open Go Go.Proofs
theorem FY {hn:Int} {ls:List Lnk} {us:List Snd} {d:Dem} (h:Dx hn ls us d=0):CQ hn ls us d=0∧(Bq hn ls us d d.2.2.1).2=d.2.2.1∧OutOK hn ls us d (C6 hn ls us d) (HB hn ls us d d.2.2.1):=by
 unfold Dx at h
 split at h
 ·contradiction
 ·rename_i c
  split at h
  ·cases h
  ·rename_i c2
   have c:CQ hn ls us d=0:=Classical.not_not.1 c
   obtain ⟨hf,hd,hD,_⟩:=Dg c
   obtain ⟨_,_,hr⟩:=Cw hd
   have P:=EY (bytes:=d.2.2.1) hf hd (by have:=hr.1;omega)
   have e:(Bq hn ls us d d.2.2.1).2=d.2.2.1:=by have:=P.n1;omega
   have p:=P.plan
   rw [e]at p
   refine ⟨c,e,?_⟩
   have hl:C6 hn ls us d=B5 (Bq hn ls us d d.2.2.1).1 hn.toNat (hn.toNat+ls.length) d.2.2.2.1 (AV hn ls d):=by
    have hE:Dx hn ls us d=0:=by unfold Dx;rw[if_neg (fun g=>g c),if_neg c2]
    unfold C6
    rw [if_pos hE]
   rw [hl]
   exact Adi hf hd hD p
theorem I7 {hn:Int} {ls:List Lnk} {us:List Snd} {d:Dem} (hc:CQ hn ls us d=0) (h:Dx hn ls us d≠0):Dx hn ls us d=21∧∀g,¬(Aw hn ls us d).Plan (Ar d) d.1.toNat d.2.1.toNat d.2.2.1 g:=by
 obtain ⟨hf,hd,hD,_⟩:=Dg hc
 obtain ⟨_,_,hr⟩:=Cw hd
 have hr0:=hr.1
 have hr1:=hr.2.1
 unfold Dx at h ⊢
 rw [if_neg (fun g=>g hc)]at h ⊢
 split at h
 ·rename_i c
  rw [if_pos c]
  refine ⟨rfl,fun g hg=>?_⟩
  have P:=EY (bytes:=d.2.2.1) hf hd (by omega)
  have := P.max c _ _ hr1 hg
  omega
 ·contradiction
section
variable {hn:Int} {ls:List Lnk} {us l:List Snd} {d:Dem}
theorem QK (hc:CQ hn ls us d=0):PlanOK hn ls us d 1099511627776∧E8 hn ls us d=(Bq hn ls us d 1099511627776).2:=by
 obtain ⟨hf,hd,_,_⟩:=Dg hc
 exact ⟨EY hf hd (by decide),by unfold E8;rw[if_pos hc]⟩
theorem I8 (hc:CQ hn ls us d=0):Dx hn ls us d=0↔d.2.2.1≤E8 hn ls us d:=by
 obtain ⟨P,e⟩:=QK hc
 obtain ⟨hf,hd,hD,_⟩:=Dg hc
 obtain ⟨_,_,hr⟩:=Cw hd
 have hr0:=hr.1
 have hr1:=hr.2.1
 have Q:=EY (bytes:=d.2.2.1) hf hd (by omega)
 rw [e]
 constructor
 ·intro h
  obtain ⟨_,e2,_⟩:=FY h
  have q:=Q.plan
  rw [e2]at q
  by_cases c:(Bq hn ls us d 1099511627776).2<1099511627776
  ·exact P.max c _ _ hr1 q
  ·omega
 ·intro h
  apply Classical.byContradiction
  intro hne
  obtain ⟨_,h2⟩:=I7 hc hne
  by_cases c:(Bq hn ls us d d.2.2.1).2<d.2.2.1
  ·have := Q.max c _ _ P.n1 P.plan
   omega
  ·have e2:(Bq hn ls us d d.2.2.1).2=d.2.2.1:=by have:=Q.n1;omega
   have q:=Q.plan
   rw [e2]at q
   exact h2 _ q
end
end Sim
namespace Sim
open Go Go.Proofs
attribute [local congr] An Ao Al AC Aq Ap Av
abbrev frV (hn:Int) (ls:List Lnk) (us:List Snd) (d:Dem):PV:=.agg [I hn,Az ls,AB us,I d.1,I d.2.1,I d.2.2.1,I d.2.2.2.1,I d.2.2.2.2]
abbrev frP (hn:Int) (ls:List Lnk) (us:List Snd) (d:Dem):PV:=.vptr [I hn,Az ls,AB us,I d.1,I d.2.1,I d.2.2.1,I d.2.2.2.1,I d.2.2.2.2] 0
def lfM (ls:List Lnk) (us:List Snd) (link tick:Int):Int:=CY ls link tick-Bx us link tick us.length
def rnO (ob:Nat→Option IObj) (M:Nat) (us:List Snd):Nat→Option IObj:=fun i=>if i=M then some (.map 0 (.ints 2) (us.map tkE))else if i=M+1 then some (.arr 0 1 [.mref M 0])else ob i
abbrev rnF (hn:Int) (ls:List Lnk) (us:List Snd) (d:Dem) (M:Nat):PV:=.func (.func 53) [] [frP hn ls us d,.ptr (M+1) 0 0 0]
structure RW where
 hn : Int
 ls : List Lnk
 us : List Snd
 d : Dem
def HE (x:RW):List PV := [frV x.hn x.ls x.us x.d]
def I9 (x:RW) (_st:Store):Prop:=BA x.hn x.ls x.us=0
def CM (x:RW) (st:Store):PV×Store:=(rnF x.hn x.ls x.us x.d st.next,⟨rnO st.obj st.next x.us,st.next+2⟩)
theorem xW {K:Nat→Prop} {l:List Snd}:(AB l).In K:=.lits _ _ fun e he c hc=>by
 obtain ⟨s,_,rfl⟩:=List.mem_map.1 he
 simp [PV.cells]at hc
 rcases hc with rfl | rfl | rfl <;> exact .int _ _
theorem xX {K:Nat→Prop} {l:List Lnk}:(Az l).In K:=.lits _ _ fun e he c hc=>by
 obtain ⟨s,_,rfl⟩:=List.mem_map.1 he
 simp only[PV.cells,lkC,List.mem_cons,List.mem_append,List.mem_map]at hc
 rcases hc with rfl | rfl | ⟨_,_,rfl⟩ | ⟨_,_,rfl⟩ <;> exact .int _ _
structure RnI (ob:Nat→Option IObj) (M:Nat) (es:List (PV×PV)) (S:Store):Prop where
 mp : S.obj M=some (.map 0 (.ints 2) es)
 cl : S.obj (M+1)=some (.arr 0 1 [.mref M 0])
 fr : ∀i o,ob i=some o→S.obj i=some o
 nx : M+2≤S.next
theorem RnI.step {ob:Nat→Option IObj} {M:Nat} {es es':List (PV×PV)} {O:Nat→Option IObj} {nx:Nat} (h:RnI ob M es ⟨O,nx⟩) (r0:∀i o,ob i=some o→i<M) {x:Option IObj}:RnI ob M es' ⟨Aa (Aa O nx x) M (some (.map 0 (.ints 2) es')),nx+1⟩:=by
 obtain ⟨h1,h2,h3,h4⟩:=h
 dsimp only at *
 refine ⟨?_,?_,fun i o hi=>?_,by dsimp only;omega⟩ <;> simp only[Aa]
 ·rw [if_pos trivial]
 ·rw [if_neg (by omega),if_neg (by omega)];exact h2
 ·have := r0 i o hi
  rw [if_neg (by omega),if_neg (by omega)];exact h3 i o hi
theorem mY {x:RW} {st:Store} (wf:WF st) (hx:I9 x st):IXC Try.prog 36 (HE x) st (Mi st (CM x st).1 (CM x st).2):=by
 obtain ⟨hn,ls,us,d⟩:=x
 obtain ⟨ob,M⟩:=st
 have hf:BA hn ls us=0:=hx
 have r0:=wf
 obtain ⟨ok,_⟩:=Cm hf
 simp only[HE]
 generalize hR1:(CM ⟨hn,ls,us,d⟩ ⟨ob,M⟩).1=R1
 generalize hR2:(CM ⟨hn,ls,us,d⟩ ⟨ob,M⟩).2=R2
 have r0:∀i o,ob i=some o→i<M:=r0
 refine Cc AR (l := []) (As) [] [] 0 Try.func36 rfl (by decide +kernel) (N:=24) rfl (by simp) rfl (by kernel_rfl) ?_
 simp +contextual (maxSteps:=4000000) only[↓bdD,bdP,Nat.reduceLT,Nat.reduceBEq,Nat.reduceAdd,Nat.reduceLeDiff,reduceCtorEq,Store.new,Store.set,↓reduceIte,Try.f36,AF,Bl,Ij]
 have hul:=ok.len
 have hll:=ok.net.len
 refine AA [5,10,11,12,13,14,15,16,17,18,19,20,21,22] us.length (fun k ρ st'=>ρ 10=I k∧RnI ob M ((us.take k).map tkE) st') (.refl _) ?_ ?_
 ·simp +contextual (maxSteps:=4000000) only[↓bdD,bdP]
  refine ⟨?_,?_,fun i o hi=>?_,Nat.le_refl _⟩
  ·simp [Aa]
  ·simp [Aa]
  ·have := r0 i o hi
   simp [Aa,show ¬i=M by omega,show ¬i=M+1 by omega,hi]
 rintro k ρ ⟨O,nx⟩ hk ⟨h10,hI⟩
 by_cases hlt:k<us.length
 ·have hwk:=BF (k:=k) (by omega)
  have hmp:=hI.mp
  have hcl:=hI.cl
  have hstep:=QG ok hlt
  have e1:=ok.link k hlt
  have e2:=ok.tick k hlt
  generalize hx:us.getD k dS=x at *
  have hkey:=FV (a:=x.1) (b:=x.2.1) (by omega) (by omega)
  dsimp only at hmp hcl
  have hnx:=hI.nx
  dsimp only at hnx
  have d1:¬M=nx:=by omega
  have d2:¬nx=M:=by omega
  have d3:¬M+1=nx:=by omega
  have d4:¬nx=M+1:=by omega
  simp +contextual (maxSteps:=4000000) only[↓bdD,bdP,Nat.reduceLT,Nat.reduceBEq,Nat.reduceAdd,Nat.reduceLeDiff,Store.new,Store.set,↓reduceIte,AJ,ty3,AF,BZ,Gp,Ij,h10,hlt,hwk,hx,hmp,hcl,hkey,hstep,d1,d3,A4]
  exact hI.step r0
 ·have e:k=us.length:=by omega
  subst e
  rw [List.take_length]at hI
  simp +contextual (maxSteps:=4000000) only[↓bdD,bdP,Nat.reduceLT,Nat.reduceBEq,Ag,↓reduceIte,h10]
  rw [←hR1,←hR2]
  refine ⟨[],.inl rfl,fun i o hi=>?_,by dsimp only[CM];omega,?_⟩
  ·dsimp only[CM,rnO]at hi ⊢
   split at hi
   ·rename_i e;subst e;cases hi
    refine ⟨by omega,rfl,hI.mp,.inr fun e he=>?_⟩
    obtain ⟨s,_,rfl⟩:=List.mem_map.1 he
    exact ⟨.agg _ fun c hc=>by simp at hc;rcases hc with rfl | rfl <;> exact .int _ _,.int _ _⟩
   ·split at hi
    ·rename_i e;subst e;cases hi
     refine ⟨by omega,rfl,hI.cl,.inr fun e he c hc=>?_⟩
     simp at he;subst he
     simp [PV.cells]at hc;subst hc
     exact .mref _ _ (by omega)
    ·have := r0 i o hi
     exact ⟨by omega,rfl,hI.fr i o hi,.inl hi⟩
  ·refine .func _ _ _ (fun c hc=>by simp at hc) fun c hc=>?_
   simp only[List.mem_cons,List.not_mem_nil,or_false]at hc
   rcases hc with rfl | rfl
   ·refine .vptr _ _ fun c hc=>?_
    simp only[List.mem_cons,List.not_mem_nil,or_false]at hc
    rcases hc with rfl | rfl | rfl | rfl | rfl | rfl | rfl | rfl <;> first | exact .int _ _ | exact xX | exact xW
   ·exact .ptr _ _ _ _ (by dsimp only[CM];omega)
noncomputable def e_runs:Nat×Ent:=(36,.x (Bd HE I9 CM))
theorem QL:AN Try.prog e_runs.1 e_runs.2:=FL fun _ st hx=>IXC.of_wf (mY (st:=⟨fun _=>none,0⟩) (fun i o h=>by cases h) hx).1 fun wf=>mY wf hx
theorem Adj (a b:RW) (st:Store) (h:HE a=HE b) (hx:I9 a st) (hy:I9 b st):CM a st=CM b st:=by
 obtain ⟨a1,a2,a3,a4,a5,a6,a7,a8⟩:=a
 obtain ⟨b1,b2,b3,b4,b5,b6,b7,b8⟩:=b
 simp only[HE,frV,List.cons.injEq,PV.agg.injEq,PV.int.injEq,PV.lits.injEq,AG,AU,true_and,and_true]at h
 obtain ⟨rfl,rfl,rfl,rfl,rfl,rfl,rfl,rfl⟩:=h
 rfl
theorem M1 (x:RW) {st:Store} (h:I9 x st):Bd HE I9 CM [frV x.hn x.ls x.us x.d] st=some (CM x st):=Bo Adj (i:=x) h
theorem aY {l:List PV} (h:l.length=50) {a b x y:PV}:List.take 51 (List.take 50 (l ++ [a,b]) ++ [x]++List.drop 51 (l ++ [a,b])) ++ [y]++List.drop 52 (List.take 50 (l ++ [a,b]) ++ [x]++List.drop 51 (l ++ [a,b]))=l ++ [x,y]:=by
 have e1:List.take 50 (l ++ [a,b])=l:=List.take_left' h
 have e2:List.drop 51 (l ++ [a,b]) = [b]:=by rw[List.drop_append,h,List.drop_of_length_le (by omega)];rfl
 rw [e1,e2,List.take_left' (by simp[h]),List.drop_of_length_le (by simp[h])]
 simp
def EG (ls:List Lnk) (us:List Snd) (r:Int) (k t:Nat):List PV:=I (k:Nat)::I (r+(t:Int))::(lkC (ls.getD k dL) ++ [I (lfM ls us (k:Nat) (r+(t:Int))),I (Fd ls (k:Nat) (r+(t:Int)))])
abbrev xY (ls:List Lnk) (us:List Snd) (r:Int) (k t:Nat):PV:=.agg (EG ls us r k t)
def rnG (M:Nat) (us:List Snd) (st:Store):Prop:=st.obj M=some (.map 0 (.ints 2) (us.map tkE))∧st.obj (M+1)=some (.arr 0 1 [.mref M 0])
def Ja (ls:List Lnk) (us:List Snd) (r:Int) (D:Nat):List (List PV):=(List.range (D*ls.length)).map fun i => [xY ls us r (i % ls.length) (i / ls.length)]
theorem QM {hn:Int} {ls:List Lnk} {us:List Snd} {d:Dem} {M D:Nat} (hf:BA hn ls us=0) (hd:d.2.2.2.2=d.2.2.2.1+(D:Nat)) (hr0:0≤d.2.2.2.1) (hd1:d.2.2.2.2≤1000000) :
  Ls (rnG M us) Try.prog 0 53 [] [frP hn ls us d,.ptr (M+1) 0 0 0] (Ja ls us d.2.2.2.1 D):=by
 refine Mj (rnG M us) (l := []) As [] [] 0 Try.func53 rfl (by decide +kernel) rfl (N:=52) rfl (by simp) (fun y=>by kernel_rfl) fun y H J E st0 hm h0 hstab hG hy=>?_
 obtain ⟨ok,_⟩:=Cm hf
 obtain ⟨df,dt,db,dr,dd⟩:=d
 dsimp only at hd hr0 hd1 ⊢
 obtain ⟨ob0,M0⟩:=st0
 have hll:=ok.net.len
 obtain ⟨L,hL⟩:∃L,ls.length=L:=⟨_,rfl⟩
 have hlen:(Ja ls us dr D).length=D*L:=by unfold Ja;rw[List.length_map,List.length_range,hL]
 dsimp only at hy
 rw [hlen]
 have hy':∀ {t k:Nat},t<D→k<L→(Ja ls us dr D)[t*L+k]?=some [xY ls us dr k t]:=fun {t k} ht hk=>by
  have h1:t*L+k<D*L:=by
   have := Nat.mul_le_mul_right L (show t+1≤D by omega)
   rw [Nat.add_mul,Nat.one_mul]at this
   omega
  unfold Ja
  rw [hL,List.getElem?_map,List.getElem?_range h1,Option.map_some,Nat.mul_comm t L,Nat.mul_add_mod,Nat.mod_eq_of_lt hk,Nat.mul_add_div (by omega),Nat.div_eq_of_lt hk,Nat.add_zero]
 generalize Ja ls us dr D=ys at *
 simp +contextual (maxSteps:=4000000) only[↓bdD,bdP,Nat.reduceLT,Nat.reduceAdd,↓reduceIte,ty3,AP,Bl]
 refine AA (hm:=hm) [4,5,6,7,8,12,13,14,15,16,17,18,19,20,21,22,23,24,25,26,27,28,29,30,31,32,33,34,35,36,37,38,39,40,41,42,43,44,45,46,47,48,49,50,51] D (fun t ρ st'=>ρ 4=I (dr+(t:Int))∧J (t*L) st') (.refl _) ?_ ?_
 ·simp +contextual (maxSteps:=4000000) only[↓bdD,bdP,Int.add_zero,Nat.zero_mul]
  exact h0
 rintro t ρ ⟨O1,n1⟩ ht ⟨h4,hJ⟩
 by_cases htD:t<D
 ·have hlt:dr+(t:Int)<dd:=by omega
  simp +contextual (maxSteps:=4000000) only[↓bdD,bdP,Nat.reduceLT,Nat.reduceBEq,Nat.reduceAdd,↓reduceIte,ty3,BE,Au,AP,Bl,h4,hlt]
  refine AA (hm:=hm) [5,6,7,8,23,24,25,26,27,28,29,30,31,32,33,34,35,36,37,38,39,40,41,42,43,44,45,46,47,48,49,50,51] L (fun k ρ st'=>ρ 23=I k∧J (t*L+k) st') (.refl _) ?_ ?_
  ·simp +contextual (maxSteps:=4000000) only[↓bdD,bdP]
   exact hJ
  rintro k ρ2 ⟨O2,n2⟩ hkL ⟨h23,hJ⟩
  by_cases hk:k<L
  ·have wk:=BF (k:=k) (by omega)
   have hkl:k<ls.length:=by omega
   have hkli:(k:Int)<L:=by omega
   have g1:=hG _ _ hJ
   have b1:=g1.1
   have b2:=g1.2
   dsimp only at b1 b2
   have hyk:=hy' htD hk
   have hcb:=Fr ok.net (link:=(k:Int)) (tick:=dr+(t:Int)) (by omega) (by omega)
   have hfs:=FW hf (k:=(k:Int)) (t:=dr+(t:Int)) ⟨by omega,by omega⟩
   have hget:=Wa ok (a:=(k:Int)) (b:=dr+(t:Int))
   have hkey:=FV (a:=(k:Int)) (b:=dr+(t:Int)) (by omega) (by omega)
   have hnl:=Bs hkl
   have h24:=My (t:=dr+(t:Int)) (by omega)
   unfold xY EG lfM at hyk
   unfold CY at hyk hcb hfs
   unfold Fd at hyk
   rw [Int.toNat_natCast]at hyk hcb hfs
   have hlt24:(dr+(t:Int)).toNat % 24<24:=Nat.mod_lt _ (by omega)
   have hli24:(((dr+(t:Int)).toNat % 24:Nat):Int)<24:=by omega
   generalize (dr+(t:Int)).toNat % 24=hr at *
   have hc1:=CD (a:=ls.getD k dL) hlt24
   have hc2:=Ee (a:=ls.getD k dL) hlt24
   generalize hlk:ls.getD k dL=lk at *
   generalize Bx us (k:Int) (dr+(t:Int)) us.length=sn at *
   have w5:IntKind.i64.wrap (DL lk hr-sn)=DL lk hr-sn:=Aj (by omega) (by omega)
   have hM1:∀o1 o2,J (t*L+k) ⟨Aa (Aa O2 n2 o1) (n2+1) o2,n2+2⟩:=fun o1 o2=>hstab _ _ _ hJ (by simp) (fun x hx=>by
    dsimp only at hx ⊢
    simp only[Aa]
    rw [if_neg (by omega),if_neg (by omega)])
   have gN:=hG _ _ (hM1 none none)
   have d1:¬M=n2:=fun e=>by have:=gN.1;simp[Aa,e]at this
   have d2:¬M=n2+1:=fun e=>by have:=gN.1;simp[Aa,e]at this
   have d3:¬M+1=n2:=fun e=>by have:=gN.2;simp[Aa,e]at this
   have d4:¬n2=n2+1:=by omega
   simp +contextual (maxSteps:=4000000) only[↓bdD,bdP,Nat.reduceLT,Nat.reduceBEq,Nat.reduceAdd,Nat.reduceLeDiff,reduceCtorEq,Int.reduceEq,Store.new,Store.set,↓reduceIte,Nat.reduceBeqDiff,BO,CI,Nat.mul_one,ty3,BE,Ii,Ck,Gp,GN,Ij,d1,d2,d3,d4,A4,h4,h23,hk,hkli,hL,hnl,h24,hli24,hc1,hc2,hget,hkey,b1,b2,w5,BO,CI,wk]
   rw [aY BO]
   refine ⟨by simp[BO],?_⟩
   refine hy _ _ _ _ hyk (hM1 _ _) (fun st2 h2=>?_) (fun st2 h2=>?_)
   ·simp +contextual (maxSteps:=4000000) only[↓bdD,bdP]
    exact h2
   ·simp +contextual (maxSteps:=4000000) only[↓bdD,bdP]
    exact .inr h2
  ·have e:k=L:=by omega
   subst e
   have wt:IntKind.i64.wrap (dr+(t:Int)+1)=dr+((t+1:Nat):Int):=by rw[Aj (by omega) (by omega)];omega
   rw [show t*k+k=(t+1)*k by rw[Nat.add_mul,Nat.one_mul]]at hJ
   simp +contextual (maxSteps:=4000000) only[↓bdD,bdP,Nat.reduceLT,Nat.reduceBEq,↓reduceIte,h4,h23,wt,hL]
   refine ⟨htD,?_,hJ⟩
   ·rw [AH (by decide +kernel)]
    simp +contextual (maxSteps:=4000000) only[↓bdD,bdP,Nat.reduceBEq]
 ·have e:t=D:=by omega
  subst e
  have hdd:¬dr+(t:Int)<dd:=by omega
  simp +contextual (maxSteps:=4000000) only[↓bdD,bdP,Nat.reduceLT,Nat.reduceBEq,Nat.reduceAdd,reduceCtorEq,↓reduceIte,ty3,AP,Bl,h4,hdd]
  exact .inl hJ
end Sim
namespace Sim
open Go Go.Proofs
attribute [local congr] An Ao Al AC Aq Ap Av
def CN (hn:Int) (ls:List Lnk) (us:List Snd) (d:Dem):Int:=if CQ hn ls us d≠0 then CQ hn ls us d else if 4194304<d.2.2.1 then 2 else 0
noncomputable def HF:(Int)×(List Lnk)×(List Snd)×(Dem)→List PV:=fun (hn,ls,us,d) => [.agg [I hn,Az ls,AB us,I d.1,I d.2.1,I d.2.2.1,I d.2.2.2.1,I d.2.2.2.2]]
noncomputable def Tv:(Int)×(List Lnk)×(List Snd)×(Dem)→PV:=fun (hn,ls,us,d)=>I (CN hn ls us d)
def Tw:(Int)×(List Lnk)×(List Snd)×(Dem)→Prop:=fun (hn,ls,us,d)=>True
noncomputable def e_pcheck:Nat×Ent:=(15,.v (Ah HF Tv Tw))
theorem mZ:∀i j,HF i=HF j→i=j:=by
 rintro ⟨hn₁,ls₁,us₁,d₁⟩ ⟨hn₂,ls₂,us₂,d₂⟩ h
 simp only[HF,List.cons.injEq,and_true,PV.lits.injEq,PV.int.injEq,PV.agg.injEq,true_and,AU,AG]at h
 simp [Prod.ext_iff,h] <;> omega
theorem BJ (hn:Int) (ls:List Lnk) (us:List Snd) (d:Dem):Ah HF Tv Tw [.agg [I hn,Az ls,AB us,I d.1,I d.2.1,I d.2.2.1,I d.2.2.2.1,I d.2.2.2.2]]=some (I (CN hn ls us d)):=Ay mZ (i:=(hn,ls,us,d)) trivial
def Tx:Prop:=∀(hn:Int) (ls:List Lnk) (us:List Snd) (d:Dem) ,VC Try.prog 15 [.agg [I hn,Az ls,AB us,I d.1,I d.2.1,I d.2.2.1,I d.2.2.2.1,I d.2.2.2.2]] (I (CN hn ls us d))
def Ty:Prop:=AN Try.prog e_pcheck.1 e_pcheck.2
theorem nA (c:Tx):Ty:=At fun⟨hn,ls,us,d⟩ h=>c hn ls us d
theorem nB:Tx:=by
 intro hn ls us d
 refine A5 AR (l := [e_fcheck]) ((Ae MR As)) [] []  Try.func15 rfl (by decide +kernel) (N:=18) rfl (by simp) rfl (by kernel_rfl) fun hs=>?_
 simp only[AI,PV.small,List.length_map,and_true,true_and]at hs
 unfold CN
 by_cases h1:CQ hn ls us d=0
 case neg =>
  rw [if_pos h1]
  have sp:=EZ (hn:=hn) (ls:=ls) (us:=us) (d:=d)
  dsimp only[B3,Az,AB]at sp
  generalize hr:CQ hn ls us d=r at *
  simp +contextual (maxSteps:=4000000) only[↓bdD,bdP,Nat.reduceLT,Nat.reduceBEq,Ag,Nat.reduceAdd,Nat.reduceLeDiff,st0,↓reduceIte,e_fcheck,Ac,Ab,Try.f15,Au,AF,AP,Bl,h1,sp]
 rw [if_neg (fun g=>g h1)]
 have sp:=EZ (hn:=hn) (ls:=ls) (us:=us) (d:=d)
 rw [h1]at sp
 dsimp only[B3,Az,AB]at sp
 by_cases h2:4194304<d.2.2.1
 ·rw [if_pos h2]
  simp +contextual (maxSteps:=4000000) only[↓bdD,bdP,Nat.reduceLT,Nat.reduceBEq,Ag,Nat.reduceAdd,Nat.reduceLeDiff,st0,↓reduceIte,e_fcheck,Ac,Ab,Try.f15,ty3,Au,AF,AP,Bl,h2,sp]
 ·rw [if_neg h2]
  simp +contextual (maxSteps:=4000000) only[↓bdD,bdP,Nat.reduceLT,Nat.reduceBEq,Ag,Nat.reduceAdd,Nat.reduceLeDiff,st0,↓reduceIte,e_fcheck,Ac,Ab,Try.f15,ty3,Au,AF,AP,Bl,h2,sp]
theorem HG:Ty:=nA nB
noncomputable def FZ:(Int)×(List Lnk)×(List Snd)×(Dem)→List PV:=fun (hn,ls,us,d) => [.agg [I hn,Az ls,AB us,I d.1,I d.2.1,I d.2.2.1,I d.2.2.2.1,I d.2.2.2.2]]
noncomputable def OT:(Int)×(List Lnk)×(List Snd)×(Dem)→PV:=fun (hn,ls,us,d)=>I (CN hn ls us d)
def OU:(Int)×(List Lnk)×(List Snd)×(Dem)→Prop:=fun (hn,ls,us,d)=>True
noncomputable def e_rpcheck:Nat×Ent:=(16,.v (Ah FZ OT OU))
theorem aZ:∀i j,FZ i=FZ j→i=j:=by
 rintro ⟨hn₁,ls₁,us₁,d₁⟩ ⟨hn₂,ls₂,us₂,d₂⟩ h
 simp only[FZ,List.cons.injEq,and_true,PV.lits.injEq,PV.int.injEq,PV.agg.injEq,true_and,AU,AG]at h
 simp [Prod.ext_iff,h] <;> omega
theorem De (hn:Int) (ls:List Lnk) (us:List Snd) (d:Dem):Ah FZ OT OU [.agg [I hn,Az ls,AB us,I d.1,I d.2.1,I d.2.2.1,I d.2.2.2.1,I d.2.2.2.2]]=some (I (CN hn ls us d)):=Ay aZ (i:=(hn,ls,us,d)) trivial
def OV:Prop:=∀(hn:Int) (ls:List Lnk) (us:List Snd) (d:Dem) ,VC Try.prog 16 [.agg [I hn,Az ls,AB us,I d.1,I d.2.1,I d.2.2.1,I d.2.2.2.1,I d.2.2.2.2]] (I (CN hn ls us d))
def OW:Prop:=AN Try.prog e_rpcheck.1 e_rpcheck.2
theorem bB (c:OV):OW:=At fun⟨hn,ls,us,d⟩ h=>c hn ls us d
theorem bC:OV:=by
 intro hn ls us d
 refine A5 AR (l := [e_rfcheck]) ((Ae aW As)) [] []  Try.func16 rfl (by decide +kernel) (N:=18) rfl (by simp) rfl (by kernel_rfl) fun hs=>?_
 simp only[AI,PV.small,List.length_map,and_true,true_and]at hs
 unfold CN
 by_cases h1:CQ hn ls us d=0
 case neg =>
  rw [if_pos h1]
  have sp:=OO (hn:=hn) (ls:=ls) (us:=us) (d:=d)
  dsimp only[B3,Az,AB]at sp
  generalize hr:CQ hn ls us d=r at *
  simp +contextual (maxSteps:=4000000) only[↓bdD,bdP,Nat.reduceLT,Nat.reduceBEq,Ag,Nat.reduceAdd,Nat.reduceLeDiff,st0,↓reduceIte,e_rfcheck,Ac,Ab,Try.f16,Au,AF,AP,Bl,h1,sp]
 rw [if_neg (fun g=>g h1)]
 have sp:=OO (hn:=hn) (ls:=ls) (us:=us) (d:=d)
 rw [h1]at sp
 dsimp only[B3,Az,AB]at sp
 by_cases h2:4194304<d.2.2.1
 ·rw [if_pos h2]
  simp +contextual (maxSteps:=4000000) only[↓bdD,bdP,Nat.reduceLT,Nat.reduceBEq,Ag,Nat.reduceAdd,Nat.reduceLeDiff,st0,↓reduceIte,e_rfcheck,Ac,Ab,Try.f16,ty3,Au,AF,AP,Bl,h2,sp]
 ·rw [if_neg h2]
  simp +contextual (maxSteps:=4000000) only[↓bdD,bdP,Nat.reduceLT,Nat.reduceBEq,Ag,Nat.reduceAdd,Nat.reduceLeDiff,st0,↓reduceIte,e_rfcheck,Ac,Ab,Try.f16,ty3,Au,AF,AP,Bl,h2,sp]
theorem bE:OW:=bB bC
def nC (hn:Int) (ls:List Lnk) (us:List Snd) (d:Dem) (span:Int):Bool:=decide (hn≤5)&&(decide (ls.length≤8)&&(decide (us.length≤20)&&(decide (IntKind.i64.wrap (d.2.2.2.2-d.2.2.2.1)≤span)||decide (32<IntKind.i64.wrap (d.2.2.2.2-d.2.2.2.1)))))
noncomputable def Tz:(Int)×(List Lnk)×(List Snd)×(Dem)×(Int)→List PV:=fun (hn,ls,us,d,span) => [.agg [I hn,Az ls,AB us,I d.1,I d.2.1,I d.2.2.1,I d.2.2.2.1,I d.2.2.2.2],I span]
noncomputable def zT:(Int)×(List Lnk)×(List Snd)×(Dem)×(Int)→PV:=fun (hn,ls,us,d,span)=>B (nC hn ls us d span)
def zU:(Int)×(List Lnk)×(List Snd)×(Dem)×(Int)→Prop:=fun (hn,ls,us,d,span)=>True
noncomputable def e_few:Nat×Ent:=(10,.v (Ah Tz zT zU))
theorem Agv:∀i j,Tz i=Tz j→i=j:=by
 rintro ⟨hn₁,ls₁,us₁,d₁,span₁⟩ ⟨hn₂,ls₂,us₂,d₂,span₂⟩ h
 simp only[Tz,List.cons.injEq,and_true,PV.lits.injEq,PV.int.injEq,PV.agg.injEq,true_and,AU,AG]at h
 simp [Prod.ext_iff,h] <;> omega
theorem HH (hn:Int) (ls:List Lnk) (us:List Snd) (d:Dem) (span:Int):Ah Tz zT zU [.agg [I hn,Az ls,AB us,I d.1,I d.2.1,I d.2.2.1,I d.2.2.2.1,I d.2.2.2.2],I span]=some (B (nC hn ls us d span)):=Ay Agv (i:=(hn,ls,us,d,span)) trivial
def zV:Prop:=∀(hn:Int) (ls:List Lnk) (us:List Snd) (d:Dem) (span:Int) ,VC Try.prog 10 [.agg [I hn,Az ls,AB us,I d.1,I d.2.1,I d.2.2.1,I d.2.2.2.1,I d.2.2.2.2],I span] (B (nC hn ls us d span))
def zW:Prop:=AN Try.prog e_few.1 e_few.2
theorem Agw (c:zV):zW:=At fun⟨hn,ls,us,d,span⟩ h=>c hn ls us d span
theorem Agx:zV:=by
 intro hn ls us d span
 refine A5 AR (l := []) (As) [] []  Try.func10 rfl (by decide +kernel) (N:=39) rfl (by simp) rfl (by kernel_rfl) fun hs=>?_
 simp only[AI,PV.small,List.length_map,and_true,true_and]at hs
 unfold nC
 generalize hw:IntKind.i64.wrap (d.2.2.2.2-d.2.2.2.1)=w at *
 by_cases h1:hn≤5
 case neg=>simp +contextual (maxSteps:=4000000) only[↓bdD,bdP,Nat.reduceLT,Nat.reduceBEq,Ag,Nat.reduceAdd,st0,↓reduceIte,Try.f10,ty3,Au,AP,Bl,Bool.false_and,h1,hw]
 by_cases h2:ls.length≤8
 case neg =>
  have h2i:¬(ls.length:Int)≤8:=by omega
  simp +contextual (maxSteps:=4000000) only[↓bdD,bdP,Nat.reduceLT,Nat.reduceBEq,Ag,Nat.reduceAdd,st0,↓reduceIte,Try.f10,ty3,BE,Au,AP,Bl,Bool.false_and,h1,h2,h2i,hw]
 have h2i:(ls.length:Int)≤8:=by omega
 by_cases h3:us.length≤20
 case neg =>
  have h3i:¬(us.length:Int)≤20:=by omega
  simp +contextual (maxSteps:=4000000) only[↓bdD,bdP,Nat.reduceLT,Nat.reduceBEq,Ag,Nat.reduceAdd,st0,↓reduceIte,Try.f10,ty3,BE,Au,AF,AP,Bl,Bool.false_and,h1,h2,h2i,h3,h3i,hw]
 have h3i:(us.length:Int)≤20:=by omega
 by_cases h4:w≤span
 ·simp +contextual (maxSteps:=4000000) only[↓bdD,bdP,Nat.reduceLT,Nat.reduceBEq,Ag,Nat.reduceAdd,st0,↓reduceIte,Try.f10,ty3,BE,Au,AF,AP,Bl,h1,h2,h2i,h3,h3i,h4,hw]
 ·by_cases h5:32<w
  ·simp +contextual (maxSteps:=4000000) only[↓bdD,bdP,Nat.reduceLT,Nat.reduceBEq,Ag,Nat.reduceAdd,st0,↓reduceIte,Try.f10,ty3,BE,Au,AF,AP,Bl,h1,h2,h2i,h3,h3i,h4,h5,hw]
  ·simp +contextual (maxSteps:=4000000) only[↓bdD,bdP,Nat.reduceLT,Nat.reduceBEq,Ag,Nat.reduceAdd,st0,↓reduceIte,Try.f10,ty3,BE,Au,AF,AP,Bl,h1,h2,h2i,h3,h3i,h4,h5,hw]
theorem Agy:zW:=Agw Agx
abbrev Ff (y:List (List Int)):PV:=.lits 1 (y.map ints)
theorem C7 {y:List (List Int)} {k:Nat} (h:k<y.length):nth (y.map ints) k=.lits 1 ((y.getD k []).map (PV.int .i64)):=Eh [] h
theorem Dn {y:List (List Int)}:AS (y.map ints)=true:=HZ fun x=>by rw[Md,Hk]
theorem J6 {y z:List (List Int)}:(y.map ints=z.map ints)=(y=z):=H0 fun x y h=>by
 simp only[ints,PV.lits.injEq,true_and]at h
 rwa [DQ]at h
theorem bF {y:List (List Int)} (h:AI (y.map ints)) {k:Nat}:(y.getD k []).length≤9223372036854775807:=by
 induction y generalizing k with
 | nil=>simp
 | cons l y ih =>
  simp only[List.map_cons,AI,ints,PV.small]at h
  cases k with
  | zero=>simpa using h.1.1
  | succ k=>simpa using ih h.2 (k:=k)
end Sim
