/- What functions of this seat compute, by values: contracts (lemmas of the statement's proof, under the conditions that each names). -/
import Derived.Test.YtppljhpecoeakaaQPS
import Derived.Test.YtppljhpecoeakaaQLM
set_option linter.unusedVariables false
set_option linter.unusedSimpArgs false
set_option maxRecDepth 10000
set_option maxHeartbeats 4000000
namespace Sim
open Go Go.Proofs
theorem M1 {l:List Snd} {x:Snd} {i:Nat} (h:i<l.length):(l ++ [x]).getD i dS=l.getD i dS:=by
 rw [List.getD_eq_getElem?_getD,List.getElem?_append_left h,List.getD_eq_getElem?_getD]
theorem Wu {l:List Snd} {x:Snd}:(l ++ [x]).getD l.length dS=x:=by
 rw [List.getD_eq_getElem?_getD,List.getElem?_append_right (Nat.le_refl _),Nat.sub_self];rfl
theorem nR {φ:Snd→Int} {l:List Snd} {x:Snd}:Aj (fun i=>φ ((l ++ [x]).getD i dS)) (l ++ [x]).length=Aj (fun i=>φ (l.getD i dS)) l.length+φ x:=by
 rw [List.length_append,List.length_singleton,Aj,Wu]
 congr 1
 exact Af fun i hi=>by rw[M1 hi]
section
variable {A:List Arc} {h W:Nat} {r:Int}
def M4 (A:List Arc) (h W i:Nat):Prop:=h≤i % W∧0<flA A i
instance {A:List Arc} {h W i:Nat}:Decidable (M4 A h W i):=inferInstanceAs (Decidable (_∧_))
def bW (A:List Arc) (h W:Nat) (r:Int) (i:Nat):Snd:=(((i % W-h:Nat):Int),r+((i / W:Nat):Int),flA A i)
theorem K0 {n:Nat}:Ca A h W r (n+1)=Ca A h W r n++if M4 A h W n then [bW A h W r n]else []:=rfl
theorem M7 (φ:Snd→Int):∀n,Aj (fun i=>φ ((Ca A h W r n).getD i dS)) (Ca A h W r n).length=Aj (fun i=>if M4 A h W i then φ (bW A h W r i)else 0) n
 | 0=>rfl
 | n+1=>by
  rw [K0,Aj]
  by_cases c:M4 A h W n
  ·rw [if_pos c,if_pos c,nR,M7 φ n]
  ·rw [if_neg c,if_neg c,List.append_nil,M7 φ n,Int.add_zero]
theorem LH:∀ {n i:Nat},i<(Ca A h W r n).length→∃j,j<n∧M4 A h W j∧(Ca A h W r n).getD i dS=bW A h W r j
 | 0,i,hi=>absurd hi (by simp[Ca])
 | n+1,i,hi=>by
  rw [K0]at hi ⊢
  by_cases c:M4 A h W n
  ·rw [if_pos c]at hi ⊢
   rw [List.length_append,List.length_singleton]at hi
   by_cases e:i=(Ca A h W r n).length
   ·subst e
    exact ⟨n,by omega,c,Wu⟩
   ·obtain ⟨j,h1,h2,h3⟩:=LH (n:=n) (i:=i) (by omega)
    exact ⟨j,by omega,h2,by rw[M1 (by omega)];exact h3⟩
  ·rw [if_neg c,List.append_nil]at hi ⊢
   obtain ⟨j,h1,h2,h3⟩:=LH hi
   exact ⟨j,by omega,h2,h3⟩
theorem M8:∀ {n k:Nat},0<k→k<(Ca A h W r n).length→((Ca A h W r n).getD (k-1) dS).2.1<((Ca A h W r n).getD k dS).2.1∨(((Ca A h W r n).getD (k-1) dS).2.1=((Ca A h W r n).getD k dS).2.1∧((Ca A h W r n).getD (k-1) dS).1<((Ca A h W r n).getD k dS).1)
 | 0,k,_,hk=>absurd hk (by simp[Ca])
 | n + 1,k,h0,hk=>by
  rw [K0]at hk ⊢
  by_cases c:M4 A h W n
  ·rw [if_pos c]at hk ⊢
   rw [List.length_append,List.length_singleton]at hk
   by_cases e:k=(Ca A h W r n).length
   ·rw [M1 (show k-1<_ by omega),e,Wu]
    obtain ⟨j,h1,h2,h3⟩:=LH (A:=A) (h:=h) (W:=W) (r:=r) (n:=n) (i:=k-1) (by omega)
    rw [←e,h3]
    have c1:=c.1
    have c2:=h2.1
    have d1:=Nat.div_add_mod j W
    have d2:=Nat.div_add_mod n W
    have d3:j / W≤n / W:=Nat.div_le_div_right (by omega)
    unfold bW
    dsimp only
    by_cases e2:j / W=n / W
    ·rw [e2]at d1
     right
     rw [e2]
     exact ⟨rfl,by omega⟩
    ·left; omega
   ·rw [M1 (show k-1<_ by omega),M1 (show k<_ by omega)]
    exact M8 h0 (by omega)
  ·rw [if_neg c,List.append_nil]at hk ⊢
   exact M8 h0 hk
end
section
variable {T:TN} {D:Nat} {A:List Arc} {r:Int}
theorem Pa {t k:Nat} (hk:k<T.L):M4 A T.h T.W (t*T.W+(T.h+k))=(0<T.gf (flA A) k t):=by
 have hW:T.h+k<T.W:=by show _<T.h+T.L;omega
 unfold M4
 rw [(TN.row hW).2]
 exact propext ⟨fun g=>g.2,fun g=>⟨by omega,g⟩⟩
theorem M9 {t x:Nat} (hx:x<T.h):¬M4 A T.h T.W (t*T.W+x):=by
 have hW:x<T.W:=by show _<T.h+T.L;omega
 unfold M4
 rw [(TN.row hW).2]
 exact fun g=>by omega
theorem Pb {t k:Nat} (hk:k<T.L):bW A T.h T.W r (t*T.W+(T.h+k))=((k:Int),r+(t:Int),T.gf (flA A) k t):=by
 have hW:T.h+k<T.W:=by show _<T.h+T.L;omega
 unfold bW
 rw [(TN.row hW).2,(TN.row hW).1,show T.h+k-T.h=k by omega];rfl
theorem nS (φ:Snd→Int):Aj (fun i=>φ ((Ca A T.h T.W r (D*T.W)).getD i dS)) (Ca A T.h T.W r (D*T.W)).length=Aj (fun t=>Aj (fun k=>if 0<T.gf (flA A) k t then φ ((k:Int),r+(t:Int),T.gf (flA A) k t)else 0) T.L) D:=by
 rw [M7,DH]
 refine Af fun t _=>?_
 have e0:T.W=T.h+T.L:=rfl
 conv => lhs;rw[e0,Da,←e0]
 rw [A3 (fun x hx=>if_neg (M9 hx)),Int.zero_add]
 refine Af fun k hk=>?_
 rw [Pb hk]
 simp only[Pa hk]
theorem Aer (h1:0<T.h) {i:Nat} (hi:i<(Ca A T.h T.W r (D*T.W)).length):∃t k,t<D∧k<T.L∧0<T.gf (flA A) k t∧(Ca A T.h T.W r (D*T.W)).getD i dS=((k:Int),r+(t:Int),T.gf (flA A) k t):=by
 obtain ⟨j,a1,a2,a3⟩:=LH hi
 obtain ⟨t,ht,⟨x,hx,rfl⟩ | ⟨k,hk,rfl⟩⟩:=TN.house_of (T:=T) (D:=D) h1 a1
 ·exact absurd a2 (M9 hx)
 ·rw [Pa hk]at a2
  rw [Pb hk]at a3
  exact ⟨t,k,ht,hk,a2,a3⟩
end
theorem zH {hn:Int} {ls:List Lnk} {l:List Snd} (ok:OKr hn ls l) (h:∀i,i<l.length→(l.getD i dS).2.2≤Cp ls (l.getD i dS).1 (l.getD i dS).2.1):Bz hn ls l=0:=by
 unfold Bz
 rw [if_neg (fun g=>g (right_zero.2 ok))]
 have key:∀k,k≤l.length→ftT ls l k=false:=by
  intro k
  induction k with
  | zero=>intro _;rfl
  | succ k ih =>
   intro hk
   rw [ftT,ih (by omega),Bool.false_or,decide_eq_false_iff_not]
   have := h k (by omega)
   omega
 rw [if_neg (by rw[key _ (Nat.le_refl _)];simp)]
structure OutOK (hn:Int) (ls:List Lnk) (us:List Snd) (d:Dem) (l:List Snd) (g:Nat→Nat→Int):Prop where
 serves : BX hn ls l d=0
 besides : ∀i,i<l.length→(l.getD i dS).2.2≤Cp ls (l.getD i dS).1 (l.getD i dS).2.1-A9 us (l.getD i dS).1 (l.getD i dS).2.1 us.length
 cost : FW hn ls l=(Au hn ls us d).cst (An d) g
 sent : ∀k t,k<ls.length→t<An d→gS l d.2.2.2.1 k t=g k t
 ticks : ∀i,i<l.length→d.2.2.2.1≤(l.getD i dS).2.1∧(l.getD i dS).2.1<d.2.2.2.2
theorem Aes {hn:Int} {ls:List Lnk} {us:List Snd} {d:Dem} {A:List Arc} (hu:Bz hn ls us=0) (hd:Dd hn d=true) (hD:An d≤32)
  (P : (Au hn ls us d).Plan (An d) d.1.toNat d.2.1.toNat d.2.2.1 ((Au hn ls us d).gf (flA A))) :
  OutOK hn ls us d (Ca A hn.toNat (hn.toNat+ls.length) d.2.2.2.1 (AW hn ls d)) ((Au hn ls us d).gf (flA A)):=by
 obtain ⟨oku,_⟩:=B8 hu
 have hh:=oku.net.houses
 obtain ⟨⟨a0,a1⟩,⟨c0,c1⟩,hr⟩:=B9 hd
 have hr2:=hr.2.2.1
 have hr3:=hr.2.2.2.2
 have hr4:=hr.2.2.2.1
 have hdu:d.2.2.2.2=d.2.2.2.1+(An d:Nat):=by unfold An;omega
 have okT:=Dq (r:=d.2.2.2.1) (D:=An d) hu
 have hl:Ca A hn.toNat (hn.toNat+ls.length) d.2.2.2.1 (AW hn ls d)=Ca A (Au hn ls us d).h (Au hn ls us d).W d.2.2.2.1 (An d*(Au hn ls us d).W):=rfl
 have hat:=fun i (hi:i<(Ca A (Au hn ls us d).h (Au hn ls us d).W d.2.2.2.1 (An d*(Au hn ls us d).W)).length)=>Aer (T:=Au hn ls us d) okT.h1 hi
 have hsum:=fun φ=>nS (T:=Au hn ls us d) (D:=An d) (A:=A) (r:=d.2.2.2.1) φ
 have hasc:=fun k h0 hk=>M8 (A:=A) (h:=(Au hn ls us d).h) (W:=(Au hn ls us d).W) (r:=d.2.2.2.1) (n:=An d*(Au hn ls us d).W) (k:=k) h0 hk
 rw [hl]
 clear hl
 generalize Ca A (Au hn ls us d).h (Au hn ls us d).W d.2.2.2.1 (An d*(Au hn ls us d).W)=l at *
 generalize hg:(Au hn ls us d).gf (flA A)=g at *
 have hL:(Au hn ls us d).L=ls.length:=rfl
 rw [hL]at hsum
 have hlf:∀k t,k<ls.length→t<An d→g k t≤Cp ls (k:Int) (d.2.2.2.1+(t:Int))-A9 us (k:Int) (d.2.2.2.1+(t:Int)) us.length:=fun k t hk ht=>P.le k t hk ht
 have hlen:l.length≤2000:=by
  have h1:=hsum fun _=>1
  have h2:Aj (fun _=>(1:Int)) l.length=l.length:=by
   generalize l.length=n
   induction n with
   | zero=>rfl
   | succ n ih=>rw[Aj,ih];omega
  rw [h2]at h1
  have h3:∀n:Nat,∀f:Nat→Int,∀b:Int,(∀i,i<n→f i≤b)→Aj f n≤(n:Int)*b:=by
   intro n f b hf
   induction n with
   | zero=>rw[Aj];simp
   | succ n ih =>
    have := ih fun i hi=>hf i (by omega)
    have := hf n (by omega)
    rw [Aj,Int.natCast_add,Int.add_mul];omega
  have h4:=h3 (An d) (fun t=>Aj (fun k=>if 0<g k t then 1 else 0) ls.length) 60 (fun t _=>by
   have := h3 ls.length (fun k=>if 0<g k t then 1 else 0) 1 (fun k _=>by split <;> decide)
   have hlen:=oku.net.len
   omega)
  omega
 have ok:OKr hn ls l:=by
  refine ⟨oku.net,hlen,fun i hi=>?_,fun i hi=>?_,fun i hi=>?_,fun k h0 hk=>hasc k h0 hk⟩
  ·obtain ⟨t,k,ht,hk,hp,e⟩:=hat i hi
   rw [e]
   have hk':k<ls.length:=hk
   dsimp only;omega
  ·obtain ⟨t,k,ht,hk,hp,e⟩:=hat i hi
   rw [e]
   dsimp only;omega
  ·obtain ⟨t,k,ht,hk,hp,e⟩:=hat i hi
   rw [e]
   have hk':k<ls.length:=hk
   have h1:=hlf k t hk ht
   have h2:=Ej oku.net (link:=(k:Int)) (tick:=d.2.2.2.1+(t:Int)) (by omega) (by omega)
   have h3:=XQ oku (k:Int) (d.2.2.2.1+(t:Int))
   dsimp only;omega
 have hse:∀k t,k<ls.length→t<An d→gS l d.2.2.2.1 k t=g k t:=fun k t hk ht=>by
  unfold gS
  rw [QT,hsum fun s=>if s.1=(k:Int)∧s.2.1=d.2.2.2.1+(t:Int)then s.2.2 else 0]
  rw [Af (g:=fun t'=>if t'=t then g k t' else 0) (fun t' ht'=>by
   rw [Af (g:=fun k'=>if k'=k then (if t'=t then g k' t' else 0)else 0) (fun k' hk'=>by
    have nn:=P.nn k' t' hk' ht'
    dsimp only
    by_cases e1:k'=k
    ·by_cases e2:t'=t
     ·subst e1;subst e2
      by_cases c:0<g k' t'
      ·simp [c]
      ·simp [c];omega
     ·have : ¬(d.2.2.2.1+(t':Int)=d.2.2.2.1+(t:Int)):=by omega
      simp [e2,this]
    ·have : ¬((k':Int)=(k:Int)):=by omega
     simp [e1,this]),CA,if_pos hk]),CA,if_pos ht]
 have h0:∀i,i<l.length→d.2.2.2.1≤(l.getD i dS).2.1∧(l.getD i dS).2.1<d.2.2.2.2:=fun i hi=>by
  obtain ⟨t,k,ht,hk,hp,e⟩:=hat i hi
  rw [e]
  dsimp only;omega
 have hS:=MZ (us:=us) (d:=d) ok a0 (fun i hi=>(h0 i hi).1)
 have hS2:∀x t:Nat,t≤An d→B1 ls l d (x:Int) (d.2.2.2.1+(t:Int))=(Au hn ls us d).stk d.1.toNat d.2.2.1 g t x:=fun x t ht=>by
  rw [←hS x t]
  exact TN.stk_congr fun k t' hk ht'=>hse k t' hk (by omega)
 refine ⟨serves_iff.2 ⟨ok,⟨a0,a1⟩,⟨c0,c1⟩,hr,zH ok fun i hi=>?_,fun i hi=>?_,?_⟩,fun i hi=>?_,?_,hse,h0⟩
 ·obtain ⟨t,k,ht,hk,hp,e⟩:=hat i hi
  rw [e]
  have h1:=hlf k t hk ht
  have h3:=XQ oku (k:Int) (d.2.2.2.1+(t:Int))
  dsimp only;omega
 ·obtain ⟨t,k,ht,hk,hp,e⟩:=hat i hi
  obtain ⟨⟨f0,f1⟩,_⟩:=ends ok hi
  have hfr:frM ls l i=(((Cd ls (l.getD i dS)).1.toNat:Nat):Int):=by unfold frM;omega
  have hx:(Cd ls (l.getD i dS)).1.toNat<(Au hn ls us d).h:=by show _<hn.toNat;omega
  rw [hfr]
  generalize (Cd ls (l.getD i dS)).1.toNat=x at *
  rw [e]
  dsimp only
  rw [hS2 x t (by omega),←nQ (us:=us) (r:=d.2.2.2.1) ok x t,TN.outF_congr (T:=Au hn ls us d) (g':=g) fun k hk=>hse k t hk ht]
  exact P.st t x ht hx
 ·have := P.en d.2.1.toNat (show d.2.1.toNat<hn.toNat by omega)
  rw [if_pos rfl,←hS2 _ _ (Nat.le_refl _),←hdu,Int.toNat_of_nonneg c0]at this
  omega
 ·obtain ⟨t,k,ht,hk,hp,e⟩:=hat i hi
  rw [e]
  exact hlf k t hk ht
 ·unfold FW
  rw [if_neg (fun g=>g (right_zero.2 ok)),XP,hsum fun s=>s.2.2*EC ls s.1 s.2.1]
  refine Af fun t ht=>Af fun k hk=>?_
  have nn:=P.nn k t hk ht
  dsimp only
  by_cases c:0<g k t
  ·rw [if_pos c,Int.mul_comm];rfl
  ·have : g k t=0:=by omega
   rw [if_neg c,this,Int.mul_zero]
end Sim
namespace Sim
open Go Go.Proofs
theorem F6 {hn:Int} {ls:List Lnk} {us:List Snd} {d:Dem} (h:D3 hn ls us d=0):Dw hn ls us d=0∧(Bw hn ls us d d.2.2.1).2=d.2.2.1∧OutOK hn ls us d (Df hn ls us d) (HF hn ls us d d.2.2.1):=by
 unfold D3 at h
 split at h
 ·contradiction
 ·rename_i c
  split at h
  ·cases h
  ·rename_i c2
   have c:Dw hn ls us d=0:=Classical.not_not.1 c
   obtain ⟨hf,hd,hD,_⟩:=CC c
   obtain ⟨_,_,hr⟩:=B9 hd
   have P:=Fh (bytes:=d.2.2.1) hf hd (by have:=hr.1;omega)
   have e:(Bw hn ls us d d.2.2.1).2=d.2.2.1:=by have:=P.n1;omega
   have p:=P.plan
   rw [e]at p
   refine ⟨c,e,?_⟩
   have hl:Df hn ls us d=Ca (Bw hn ls us d d.2.2.1).1 hn.toNat (hn.toNat+ls.length) d.2.2.2.1 (AW hn ls d):=by
    have hE:D3 hn ls us d=0:=by unfold D3;rw[if_neg (fun g=>g c),if_neg c2]
    unfold Df
    rw [if_pos hE]
   rw [hl]
   exact Aes hf hd hD p
theorem Na {hn:Int} {ls:List Lnk} {us:List Snd} {d:Dem} (hc:Dw hn ls us d=0) (h:D3 hn ls us d≠0):D3 hn ls us d=21∧∀g,¬(Au hn ls us d).Plan (An d) d.1.toNat d.2.1.toNat d.2.2.1 g:=by
 obtain ⟨hf,hd,hD,_⟩:=CC hc
 obtain ⟨_,_,hr⟩:=B9 hd
 have hr0:=hr.1
 have hr1:=hr.2.1
 unfold D3 at h ⊢
 rw [if_neg (fun g=>g hc)]at h ⊢
 split at h
 ·rename_i c
  rw [if_pos c]
  refine ⟨rfl,fun g hg=>?_⟩
  have P:=Fh (bytes:=d.2.2.1) hf hd (by omega)
  have := P.max c _ _ hr1 hg
  omega
 ·contradiction
section
variable {hn:Int} {ls:List Lnk} {us l:List Snd} {d:Dem}
theorem QU (hc:Dw hn ls us d=0):PlanOK hn ls us d 1099511627776∧IH hn ls us d=(Bw hn ls us d 1099511627776).2:=by
 obtain ⟨hf,hd,_,_⟩:=CC hc
 exact ⟨Fh hf hd (by decide),by unfold IH;rw[if_pos hc]⟩
theorem Nb (hc:Dw hn ls us d=0):D3 hn ls us d=0↔d.2.2.1≤IH hn ls us d:=by
 obtain ⟨P,e⟩:=QU hc
 obtain ⟨hf,hd,hD,_⟩:=CC hc
 obtain ⟨_,_,hr⟩:=B9 hd
 have hr0:=hr.1
 have hr1:=hr.2.1
 have Q:=Fh (bytes:=d.2.2.1) hf hd (by omega)
 rw [e]
 constructor
 ·intro h
  obtain ⟨_,e2,_⟩:=F6 h
  have q:=Q.plan
  rw [e2]at q
  by_cases c:(Bw hn ls us d 1099511627776).2<1099511627776
  ·exact P.max c _ _ hr1 q
  ·omega
 ·intro h
  apply Classical.byContradiction
  intro hne
  obtain ⟨_,h2⟩:=Na hc hne
  by_cases c:(Bw hn ls us d d.2.2.1).2<d.2.2.1
  ·have := Q.max c _ _ P.n1 P.plan
   omega
  ·have e2:(Bw hn ls us d d.2.2.1).2=d.2.2.1:=by have:=Q.n1;omega
   have q:=Q.plan
   rw [e2]at q
   exact h2 _ q
end
end Sim
namespace Sim
open Go Go.Proofs
attribute [local congr] Ap Aq Al AC As Ar Av
abbrev frV (hn:Int) (ls:List Lnk) (us:List Snd) (d:Dem):PV:=.agg [I hn,Az ls,AB us,I d.1,I d.2.1,I d.2.2.1,I d.2.2.2.1,I d.2.2.2.2]
abbrev frP (hn:Int) (ls:List Lnk) (us:List Snd) (d:Dem):PV:=.vptr [I hn,Az ls,AB us,I d.1,I d.2.1,I d.2.2.1,I d.2.2.2.1,I d.2.2.2.2] 0
def lfM (ls:List Lnk) (us:List Snd) (link tick:Int):Int:=Cp ls link tick-A9 us link tick us.length
def rnO (ob:Nat→Option IObj) (M:Nat) (us:List Snd):Nat→Option IObj:=fun i=>if i=M then some (.map 0 (.ints 2) (us.map tkE))else if i=M+1 then some (.arr 0 1 [.mref M 0])else ob i
abbrev rnF (hn:Int) (ls:List Lnk) (us:List Snd) (d:Dem) (M:Nat):PV:=.func (.func 53) [] [frP hn ls us d,.ptr (M+1) 0 0 0]
structure RW where
 hn : Int
 ls : List Lnk
 us : List Snd
 d : Dem
def HI (x:RW):List PV := [frV x.hn x.ls x.us x.d]
def Je (x:RW) (_st:Store):Prop:=Bz x.hn x.ls x.us=0
def CU (x:RW) (st:Store):PV×Store:=(rnF x.hn x.ls x.us x.d st.next,⟨rnO st.obj st.next x.us,st.next+2⟩)
theorem zI {K:Nat→Prop} {l:List Snd}:(AB l).In K:=.lits _ _ fun e he c hc=>by
 obtain ⟨s,_,rfl⟩:=List.mem_map.1 he
 simp [PV.cells]at hc
 rcases hc with rfl | rfl | rfl <;> exact .int _ _
theorem zJ {K:Nat→Prop} {l:List Lnk}:(Az l).In K:=.lits _ _ fun e he c hc=>by
 obtain ⟨s,_,rfl⟩:=List.mem_map.1 he
 simp only[PV.cells,lkC,List.mem_cons,List.mem_append,List.mem_map]at hc
 rcases hc with rfl | rfl | ⟨_,_,rfl⟩ | ⟨_,_,rfl⟩ <;> exact .int _ _
structure RnI (ob:Nat→Option IObj) (M:Nat) (es:List (PV×PV)) (S:Store):Prop where
 mp : S.obj M=some (.map 0 (.ints 2) es)
 cl : S.obj (M+1)=some (.arr 0 1 [.mref M 0])
 fr : ∀i o,ob i=some o→S.obj i=some o
 nx : M+2≤S.next
theorem RnI.step {ob:Nat→Option IObj} {M:Nat} {es es':List (PV×PV)} {O:Nat→Option IObj} {nx:Nat} (h:RnI ob M es ⟨O,nx⟩) (r0:∀i o,ob i=some o→i<M) {x:Option IObj}:RnI ob M es' ⟨Aa (Aa O nx x) M (some (.map 0 (.ints 2) es')),nx+1⟩:=by
 obtain ⟨h1,h2,h3,h4⟩:=h
 dsimp only at *
 refine ⟨?_,?_,fun i o hi=>?_,by dsimp only;omega⟩ <;> simp only[Aa]
 ·rw [if_pos trivial]
 ·rw [if_neg (by omega),if_neg (by omega)];exact h2
 ·have := r0 i o hi
  rw [if_neg (by omega),if_neg (by omega)];exact h3 i o hi
theorem nT {x:RW} {st:Store} (wf:WF st) (hx:Je x st):IXC Try.prog 36 (HI x) st (Mn st (CU x st).1 (CU x st).2):=by
 obtain ⟨hn,ls,us,d⟩:=x
 obtain ⟨ob,M⟩:=st
 have hf:Bz hn ls us=0:=hx
 have r0:=wf
 obtain ⟨ok,_⟩:=B8 hf
 simp only[HI]
 generalize hR1:(CU ⟨hn,ls,us,d⟩ ⟨ob,M⟩).1=R1
 generalize hR2:(CU ⟨hn,ls,us,d⟩ ⟨ob,M⟩).2=R2
 have r0:∀i o,ob i=some o→i<M:=r0
 refine Ch AP (l := []) (Ao) [] [] 0 Try.func36 rfl (by decide +kernel) (N:=24) rfl (by simp) rfl (by kernel_rfl) ?_
 simp +contextual (maxSteps:=4000000) only[↓bdD,bdP,Nat.reduceLT,Nat.reduceBEq,Nat.reduceAdd,Nat.reduceLeDiff,reduceCtorEq,Store.new,Store.set,↓reduceIte,Try.f36,AJ,Bk,Ip]
 have hul:=ok.len
 have hll:=ok.net.len
 refine Ax [5,10,11,12,13,14,15,16,17,18,19,20,21,22] us.length (fun k ρ st'=>ρ 10=I k∧RnI ob M ((us.take k).map tkE) st') (.refl _) ?_ ?_
 ·simp +contextual (maxSteps:=4000000) only[↓bdD,bdP]
  refine ⟨?_,?_,fun i o hi=>?_,Nat.le_refl _⟩
  ·simp [Aa]
  ·simp [Aa]
  ·have := r0 i o hi
   simp [Aa,show ¬i=M by omega,show ¬i=M+1 by omega,hi]
 rintro k ρ ⟨O,nx⟩ hk ⟨h10,hI⟩
 by_cases hlt:k<us.length
 ·have hwk:=BF (k:=k) (by omega)
  have hmp:=hI.mp
  have hcl:=hI.cl
  have hstep:=QQ ok hlt
  have e1:=ok.link k hlt
  have e2:=ok.tick k hlt
  generalize hx:us.getD k dS=x at *
  have hkey:=F3 (a:=x.1) (b:=x.2.1) (by omega) (by omega)
  dsimp only at hmp hcl
  have hnx:=hI.nx
  dsimp only at hnx
  have d1:¬M=nx:=by omega
  have d2:¬nx=M:=by omega
  have d3:¬M+1=nx:=by omega
  have d4:¬nx=M+1:=by omega
  simp +contextual (maxSteps:=4000000) only[↓bdD,bdP,Nat.reduceLT,Nat.reduceBEq,Nat.reduceAdd,Nat.reduceLeDiff,Store.new,Store.set,↓reduceIte,AH,ty3,AJ,BU,Gw,Ip,h10,hlt,hwk,hx,hmp,hcl,hkey,hstep,d1,d3,A4]
  exact hI.step r0
 ·have e:k=us.length:=by omega
  subst e
  rw [List.take_length]at hI
  simp +contextual (maxSteps:=4000000) only[↓bdD,bdP,Nat.reduceLT,Nat.reduceBEq,Ai,↓reduceIte,h10]
  rw [←hR1,←hR2]
  refine ⟨[],.inl rfl,fun i o hi=>?_,by dsimp only[CU];omega,?_⟩
  ·dsimp only[CU,rnO]at hi ⊢
   split at hi
   ·rename_i e;subst e;cases hi
    refine ⟨by omega,rfl,hI.mp,.inr fun e he=>?_⟩
    obtain ⟨s,_,rfl⟩:=List.mem_map.1 he
    exact ⟨.agg _ fun c hc=>by simp at hc;rcases hc with rfl | rfl <;> exact .int _ _,.int _ _⟩
   ·split at hi
    ·rename_i e;subst e;cases hi
     refine ⟨by omega,rfl,hI.cl,.inr fun e he c hc=>?_⟩
     simp at he;subst he
     simp [PV.cells]at hc;subst hc
     exact .mref _ _ (by omega)
    ·have := r0 i o hi
     exact ⟨by omega,rfl,hI.fr i o hi,.inl hi⟩
  ·refine .func _ _ _ (fun c hc=>by simp at hc) fun c hc=>?_
   simp only[List.mem_cons,List.not_mem_nil,or_false]at hc
   rcases hc with rfl | rfl
   ·refine .vptr _ _ fun c hc=>?_
    simp only[List.mem_cons,List.not_mem_nil,or_false]at hc
    rcases hc with rfl | rfl | rfl | rfl | rfl | rfl | rfl | rfl <;> first | exact .int _ _ | exact zJ | exact zI
   ·exact .ptr _ _ _ _ (by dsimp only[CU];omega)
noncomputable def e_runs:Nat×Ent:=(36,.x (Be HI Je CU))
theorem QV:AM Try.prog e_runs.1 e_runs.2:=FS fun _ st hx=>IXC.of_wf (nT (st:=⟨fun _=>none,0⟩) (fun i o h=>by cases h) hx).1 fun wf=>nT wf hx
theorem Aet (a b:RW) (st:Store) (h:HI a=HI b) (hx:Je a st) (hy:Je b st):CU a st=CU b st:=by
 obtain ⟨a1,a2,a3,a4,a5,a6,a7,a8⟩:=a
 obtain ⟨b1,b2,b3,b4,b5,b6,b7,b8⟩:=b
 simp only[HI,frV,List.cons.injEq,PV.agg.injEq,PV.int.injEq,PV.lits.injEq,AG,AR,true_and,and_true]at h
 obtain ⟨rfl,rfl,rfl,rfl,rfl,rfl,rfl,rfl⟩:=h
 rfl
theorem Nc (x:RW) {st:Store} (h:Je x st):Be HI Je CU [frV x.hn x.ls x.us x.d] st=some (CU x st):=Bq Aet (i:=x) h
theorem bX {l:List PV} (h:l.length=50) {a b x y:PV}:List.take 51 (List.take 50 (l ++ [a,b]) ++ [x]++List.drop 51 (l ++ [a,b])) ++ [y]++List.drop 52 (List.take 50 (l ++ [a,b]) ++ [x]++List.drop 51 (l ++ [a,b]))=l ++ [x,y]:=by
 have e1:List.take 50 (l ++ [a,b])=l:=List.take_left' h
 have e2:List.drop 51 (l ++ [a,b]) = [b]:=by rw[List.drop_append,h,List.drop_of_length_le (by omega)];rfl
 rw [e1,e2,List.take_left' (by simp[h]),List.drop_of_length_le (by simp[h])]
 simp
def EN (ls:List Lnk) (us:List Snd) (r:Int) (k t:Nat):List PV:=I (k:Nat)::I (r+(t:Int))::(lkC (ls.getD k dL) ++ [I (lfM ls us (k:Nat) (r+(t:Int))),I (EC ls (k:Nat) (r+(t:Int)))])
abbrev zK (ls:List Lnk) (us:List Snd) (r:Int) (k t:Nat):PV:=.agg (EN ls us r k t)
def rnG (M:Nat) (us:List Snd) (st:Store):Prop:=st.obj M=some (.map 0 (.ints 2) (us.map tkE))∧st.obj (M+1)=some (.arr 0 1 [.mref M 0])
def Jf (ls:List Lnk) (us:List Snd) (r:Int) (D:Nat):List (List PV):=(List.range (D*ls.length)).map fun i => [zK ls us r (i % ls.length) (i / ls.length)]
theorem QW {hn:Int} {ls:List Lnk} {us:List Snd} {d:Dem} {M D:Nat} (hf:Bz hn ls us=0) (hd:d.2.2.2.2=d.2.2.2.1+(D:Nat)) (hr0:0≤d.2.2.2.1) (hd1:d.2.2.2.2≤1000000) :
  Lw (rnG M us) Try.prog 0 53 [] [frP hn ls us d,.ptr (M+1) 0 0 0] (Jf ls us d.2.2.2.1 D):=by
 refine Mo (rnG M us) (l := []) Ao [] [] 0 Try.func53 rfl (by decide +kernel) rfl (N:=52) rfl (by simp) (fun y=>by kernel_rfl) fun y H J E st0 hm h0 hstab hG hy=>?_
 obtain ⟨ok,_⟩:=B8 hf
 obtain ⟨df,dt,db,dr,dd⟩:=d
 dsimp only at hd hr0 hd1 ⊢
 obtain ⟨ob0,M0⟩:=st0
 have hll:=ok.net.len
 obtain ⟨L,hL⟩:∃L,ls.length=L:=⟨_,rfl⟩
 have hlen:(Jf ls us dr D).length=D*L:=by unfold Jf;rw[List.length_map,List.length_range,hL]
 dsimp only at hy
 rw [hlen]
 have hy':∀ {t k:Nat},t<D→k<L→(Jf ls us dr D)[t*L+k]?=some [zK ls us dr k t]:=fun {t k} ht hk=>by
  have h1:t*L+k<D*L:=by
   have := Nat.mul_le_mul_right L (show t+1≤D by omega)
   rw [Nat.add_mul,Nat.one_mul]at this
   omega
  unfold Jf
  rw [hL,List.getElem?_map,List.getElem?_range h1,Option.map_some,Nat.mul_comm t L,Nat.mul_add_mod,Nat.mod_eq_of_lt hk,Nat.mul_add_div (by omega),Nat.div_eq_of_lt hk,Nat.add_zero]
 generalize Jf ls us dr D=ys at *
 simp +contextual (maxSteps:=4000000) only[↓bdD,bdP,Nat.reduceLT,Nat.reduceAdd,↓reduceIte,ty3,AX,Bk]
 refine Ax (hm:=hm) [4,5,6,7,8,12,13,14,15,16,17,18,19,20,21,22,23,24,25,26,27,28,29,30,31,32,33,34,35,36,37,38,39,40,41,42,43,44,45,46,47,48,49,50,51] D (fun t ρ st'=>ρ 4=I (dr+(t:Int))∧J (t*L) st') (.refl _) ?_ ?_
 ·simp +contextual (maxSteps:=4000000) only[↓bdD,bdP,Int.add_zero,Nat.zero_mul]
  exact h0
 rintro t ρ ⟨O1,n1⟩ ht ⟨h4,hJ⟩
 by_cases htD:t<D
 ·have hlt:dr+(t:Int)<dd:=by omega
  simp +contextual (maxSteps:=4000000) only[↓bdD,bdP,Nat.reduceLT,Nat.reduceBEq,Nat.reduceAdd,↓reduceIte,ty3,By,Aw,AX,Bk,h4,hlt]
  refine Ax (hm:=hm) [5,6,7,8,23,24,25,26,27,28,29,30,31,32,33,34,35,36,37,38,39,40,41,42,43,44,45,46,47,48,49,50,51] L (fun k ρ st'=>ρ 23=I k∧J (t*L+k) st') (.refl _) ?_ ?_
  ·simp +contextual (maxSteps:=4000000) only[↓bdD,bdP]
   exact hJ
  rintro k ρ2 ⟨O2,n2⟩ hkL ⟨h23,hJ⟩
  by_cases hk:k<L
  ·have wk:=BF (k:=k) (by omega)
   have hkl:k<ls.length:=by omega
   have hkli:(k:Int)<L:=by omega
   have g1:=hG _ _ hJ
   have b1:=g1.1
   have b2:=g1.2
   dsimp only at b1 b2
   have hyk:=hy' htD hk
   have hcb:=Ej ok.net (link:=(k:Int)) (tick:=dr+(t:Int)) (by omega) (by omega)
   have hfs:=Fg hf (k:=(k:Int)) (t:=dr+(t:Int)) ⟨by omega,by omega⟩
   have hget:=Wt ok (a:=(k:Int)) (b:=dr+(t:Int))
   have hkey:=F3 (a:=(k:Int)) (b:=dr+(t:Int)) (by omega) (by omega)
   have hnl:=Br hkl
   have h24:=MF (t:=dr+(t:Int)) (by omega)
   unfold zK EN lfM at hyk
   unfold Cp at hyk hcb hfs
   unfold EC at hyk
   rw [Int.toNat_natCast]at hyk hcb hfs
   have hlt24:(dr+(t:Int)).toNat % 24<24:=Nat.mod_lt _ (by omega)
   have hli24:(((dr+(t:Int)).toNat % 24:Nat):Int)<24:=by omega
   generalize (dr+(t:Int)).toNat % 24=hr at *
   have hc1:=Cu (a:=ls.getD k dL) hlt24
   have hc2:=Ei (a:=ls.getD k dL) hlt24
   generalize hlk:ls.getD k dL=lk at *
   generalize A9 us (k:Int) (dr+(t:Int)) us.length=sn at *
   have w5:IntKind.i64.wrap (CL lk hr-sn)=CL lk hr-sn:=Ag (by omega) (by omega)
   have hM1:∀o1 o2,J (t*L+k) ⟨Aa (Aa O2 n2 o1) (n2+1) o2,n2+2⟩:=fun o1 o2=>hstab _ _ _ hJ (by simp) (fun x hx=>by
    dsimp only at hx ⊢
    simp only[Aa]
    rw [if_neg (by omega),if_neg (by omega)])
   have gN:=hG _ _ (hM1 none none)
   have d1:¬M=n2:=fun e=>by have:=gN.1;simp[Aa,e]at this
   have d2:¬M=n2+1:=fun e=>by have:=gN.1;simp[Aa,e]at this
   have d3:¬M+1=n2:=fun e=>by have:=gN.2;simp[Aa,e]at this
   have d4:¬n2=n2+1:=by omega
   simp +contextual (maxSteps:=4000000) only[↓bdD,bdP,Nat.reduceLT,Nat.reduceBEq,Nat.reduceAdd,Nat.reduceLeDiff,reduceCtorEq,Int.reduceEq,Store.new,Store.set,↓reduceIte,Nat.reduceBeqDiff,BG,CQ,Nat.mul_one,ty3,By,GT,B6,Gw,GU,Ip,d1,d2,d3,d4,A4,h4,h23,hk,hkli,hL,hnl,h24,hli24,hc1,hc2,hget,hkey,b1,b2,w5,BG,CQ,wk]
   rw [bX BG]
   refine ⟨by simp[BG],?_⟩
   refine hy _ _ _ _ hyk (hM1 _ _) (fun st2 h2=>?_) (fun st2 h2=>?_)
   ·simp +contextual (maxSteps:=4000000) only[↓bdD,bdP]
    exact h2
   ·simp +contextual (maxSteps:=4000000) only[↓bdD,bdP]
    exact .inr h2
  ·have e:k=L:=by omega
   subst e
   have wt:IntKind.i64.wrap (dr+(t:Int)+1)=dr+((t+1:Nat):Int):=by rw[Ag (by omega) (by omega)];omega
   rw [show t*k+k=(t+1)*k by rw[Nat.add_mul,Nat.one_mul]]at hJ
   simp +contextual (maxSteps:=4000000) only[↓bdD,bdP,Nat.reduceLT,Nat.reduceBEq,↓reduceIte,h4,h23,wt,hL]
   refine ⟨htD,?_,hJ⟩
   ·rw [AF (by decide +kernel)]
    simp +contextual (maxSteps:=4000000) only[↓bdD,bdP,Nat.reduceBEq]
 ·have e:t=D:=by omega
  subst e
  have hdd:¬dr+(t:Int)<dd:=by omega
  simp +contextual (maxSteps:=4000000) only[↓bdD,bdP,Nat.reduceLT,Nat.reduceBEq,Nat.reduceAdd,reduceCtorEq,↓reduceIte,ty3,AX,Bk,h4,hdd]
  exact .inl hJ
end Sim
