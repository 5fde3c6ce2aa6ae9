/- What functions of this seat compute, by values: contracts (lemmas of the statement's proof, under the conditions that each names). -/
import Derived.Test.YtdfjimjbdakofaaGreatQN8
set_option maxRecDepth 10000
set_option maxHeartbeats 4000000
set_option linter.unusedVariables false
set_option linter.unusedSimpArgs false
namespace Sim
open Go Go.Proofs
attribute [local congr] Ai Aj Af At Am Al Aq Hr
def atM (ls:List Lnk) (l:List Snd) (d:Dem) (t:Int):Prop:=d.2.2.2.1≤t∧t≤d.2.2.2.2∧d.2.2.1≤Bh ls l d d.2.1 t
instance {ls:List Lnk} {l:List Snd} {d:Dem} {t:Int}:Decidable (atM ls l d t):=inferInstanceAs (Decidable (_∧_))
theorem SR {hn:Int} {ls:List Lnk} {l:List Snd} (ok:OKr hn ls l) {i:Nat}:∀ {k},i≤k→k<l.length→(l.getD i dS).2.1≤(l.getD k dS).2.1
 | 0,h,_=>by rw[show i=0 by omega];exact Int.le_refl _
 | k+1,h,hk=>by
  by_cases e:i=k+1
  ·rw [e];exact Int.le_refl _
  ·have ih:=SR ok (i:=i) (k:=k) (by omega) (by omega)
   have := ok.asc (k+1) (by omega) hk
   rw [show k+1-1=k by omega]at this
   omega
theorem Vu {hn:Int} {ls:List Lnk} {l:List Snd} {d:Dem} (h:Ct hn ls l d=0):OKr hn ls l∧D7 hn d=true∧Cs hn ls l=0∧svR ls l d l.length=false∧d.2.2.1≤Bh ls l d d.2.1 d.2.2.2.2:=by
 unfold Ct at h
 split at h
 ·contradiction
 ·rename_i h1
  split at h
  ·cases h
  ·rename_i h2
   split at h
   ·contradiction
   ·rename_i h3
    split at h
    ·cases h
    ·rename_i h4
     split at h
     ·cases h
     ·rename_i h5
      exact ⟨right_zero.1 (Classical.not_not.1 h1),by simpa using h2,Classical.not_not.1 h3,by simpa using h4,by omega⟩
end Sim
namespace Sim
open Go Go.Proofs
def Sm (f:Nat→Int):Nat→Int
 | 0=>0
 | n+1=>Sm f n+f n
theorem sS {f g:Nat→Int}:∀ {n},(∀i,i<n→f i≤g i)→Sm f n≤Sm g n
 | 0,_=>Int.le_refl _
 | n+1,h=>by
  have ih:=sS (n:=n) fun i hi=>h i (by omega)
  have := h n (by omega)
  simp only[Sm];omega
theorem JY {f g:Nat→Int}:∀ {n},(∀i,i<n→f i=g i)→Sm f n=Sm g n
 | 0,_=>rfl
 | n+1,h=>by
  have ih:=JY (n:=n) fun i hi=>h i (by omega)
  simp only[Sm,ih,h n (by omega)]
theorem Yl {f g:Nat→Int}:∀n,Sm (fun i=>f i+g i) n=Sm f n+Sm g n
 | 0=>rfl
 | n+1=>by simp only[Sm,Yl n];omega
theorem Ym {f g:Nat→Int}:∀n,Sm (fun i=>f i-g i) n=Sm f n-Sm g n
 | 0=>rfl
 | n+1=>by simp only[Sm,Ym n];omega
theorem HD:∀n,Sm (fun _=>0) n=0
 | 0=>rfl
 | n+1=>by simp only[Sm,HD n];rfl
theorem Zy {f:Nat→Nat→Int} {m:Nat}:∀n,Sm (fun i=>Sm (fun h=>f h i) m) n=Sm (fun h=>Sm (fun i=>f h i) n) m
 | 0=>by simp only[Sm];exact (HD m).symm
 | n+1=>by simp only[Sm,Zy n,Yl]
theorem SS {x v:Int}:∀n:Nat,Sm (fun h=>if x=(h:Int)then v else 0) n=if 0≤x∧x<(n:Int)then v else 0
 | 0=>by rw[if_neg (by omega)];rfl
 | n+1=>by
  simp only[Sm,SS n]
  by_cases h1:x=(n:Int)
  ·rw [if_neg (by omega),if_pos h1,if_pos (by omega)];omega
  ·by_cases h2:0≤x∧x<(n:Int)
   ·rw [if_pos h2,if_neg h1,if_pos (by omega)];omega
   ·rw [if_neg h2,if_neg h1,if_neg (by omega)];rfl
theorem Q6 {f:Nat→Int} {n:Nat} (h:∀i,i<n→0≤f i):0≤Sm f n:=by
 have := sS (f:=fun _=>0) (g:=f) (n:=n) h
 rwa [HD]at this
theorem sU {f:Nat→Int} {n k:Nat} (h:∀i,i<n→0≤f i) (hk:k<n):f k≤Sm f n:=by
 induction n with
 | zero=>omega
 | succ n ih =>
  have h0:=Q6 (f:=f) (n:=n) fun i hi=>h i (by omega)
  have hn:=h n (by omega)
  simp only[Sm]
  by_cases e:k=n
  ·subst e;omega
  ·have := ih (fun i hi=>h i (by omega)) (by omega)
   omega
theorem EO {ls:List Lnk} {l:List Snd} {at_ tick:Int}:∀n,EN ls l at_ tick n=Sm (fun i=>CU ls (l.getD i dS) at_ tick) n
 | 0=>rfl
 | n+1=>by simp only[EN,Sm,EO n]
theorem NI {ls:List Lnk} {l:List Snd} {t f:Int}:∀n,D8 ls l t f n=Sm (fun i=>if (l.getD i dS).2.1=t∧frM ls l i=f then (l.getD i dS).2.2 else 0) n
 | 0=>rfl
 | n+1=>by simp only[D8,Sm,NI n]
structure Serving (hn:Int) (ls:List Lnk) (l:List Snd) (d:Dem):Prop where
 ok : OKr hn ls l
 from_ : 0≤d.1∧d.1<hn
 to_ : 0≤d.2.1∧d.2.1<hn
 dem : Il d
 fits : Cs hn ls l=0
 fed : ∀k,k<l.length→D8 ls l (l.getD k dS).2.1 (frM ls l k) l.length≤Bh ls l d (frM ls l k) (l.getD k dS).2.1
 late : d.2.2.1≤Bh ls l d d.2.1 d.2.2.2.2
section
variable {hn:Int} {ls:List Lnk} {l:List Snd}
theorem serves_iff {d:Dem}:Ct hn ls l d=0↔Serving hn ls l d:=by
 constructor
 ·intro h
  obtain ⟨h1,h2,h3,h4,h5⟩:=Vu h
  simp only[D7,Bool.and_eq_true,decide_eq_true_eq,hOK]at h2
  refine ⟨h1,h2.1.1,h2.1.2,h2.2,h3,fun k hk=>?_,h5⟩
  apply Classical.byContradiction
  intro hc
  have : svR ls l d l.length=true:=svR_iff.2 ⟨k,hk,by omega⟩
  rw [h4]at this;cases this
 ·intro h
  have hd:D7 hn d=true:=by
   simp only[D7,Bool.and_eq_true,decide_eq_true_eq,hOK]
   exact ⟨⟨h.from_,h.to_⟩,h.dem⟩
  have hs:svR ls l d l.length=false:=by
   cases hs:svR ls l d l.length with
   | false=>rfl
   | true =>
    obtain ⟨k,hk,g⟩:=svR_iff.1 hs
    have := h.fed k hk
    omega
  unfold Ct
  rw [if_neg (fun g=>g (right_zero.2 h.ok)),if_neg (by rw[hd];simp),if_neg (fun g=>g h.fits),if_neg (by rw[hs];simp),if_neg (by have:=h.late;omega)]
theorem ends (ok:OKr hn ls l) {k:Nat} (hk:k<l.length):(0≤(Bd ls (l.getD k dS)).1∧(Bd ls (l.getD k dS)).1<hn)∧(0≤(Bd ls (l.getD k dS)).2.1∧(Bd ls (l.getD k dS)).2.1<hn)∧(Bd ls (l.getD k dS)).1≠(Bd ls (l.getD k dS)).2.1:=by
 have e1:=ok.link k hk
 have := ok.net.ends (l.getD k dS).1.toNat (by omega)
 exact ⟨⟨this.1,this.2.1⟩,⟨this.2.2.1,this.2.2.2.1⟩,this.2.2.2.2⟩
theorem Yn {d:Dem} (h:Serving hn ls l d):∀k,k<l.length→d.2.2.2.1≤(l.getD k dS).2.1:=by
 intro k hk
 have h0:d.2.2.2.1≤(l.getD 0 dS).2.1:=by
  apply Classical.byContradiction
  intro hc
  have hl:0<l.length:=by omega
  have f:=h.fed 0 hl
  have hb:=h.ok.bytes 0 hl
  have h1:Bh ls l d (frM ls l 0) (l.getD 0 dS).2.1=0:=by
   unfold Bh Ds
   rw [if_neg (fun g=>hc g.2),EO,JY (g:=fun _=>0),HD]
   ·rfl
   ·intro i hi
    have := SR h.ok (i:=0) (k:=i) (by omega) hi
    simp only[CU]
    rw [if_neg (by omega)]
  have h2:=sU (f:=fun i=>if (l.getD i dS).2.1=(l.getD 0 dS).2.1∧frM ls l i=frM ls l 0 then (l.getD i dS).2.2 else 0) (n:=l.length) (k:=0) (fun i hi=>by
   have := h.ok.bytes i hi
   split <;> omega) hl
  rw [if_pos ⟨rfl,rfl⟩,←NI]at h2
  omega
 have := SR h.ok (i:=0) (k:=k) (by omega) hk
 omega
end
theorem Yo {d:Dem} (hd:0≤d.2.2.1) {a t t':Int} (h:t≤t'):Ds d a t≤Ds d a t':=by
 unfold Ds
 by_cases h1:a=d.1∧d.2.2.2.1≤t
 ·rw [if_pos h1,if_pos ⟨h1.1,by omega⟩];exact Int.le_refl _
 ·rw [if_neg h1];split <;> omega
theorem Q7 {ls:List Lnk} {l:List Snd} (a t:Int):∀n,(∀i,i<n→¬(frM ls l i=a∧(l.getD i dS).2.1<t))∨∃i,i<n∧(frM ls l i=a∧(l.getD i dS).2.1<t)∧∀j,i<j→j<n→¬(frM ls l j=a∧(l.getD j dS).2.1<t)
 | 0=>.inl fun i hi=>absurd hi (by omega)
 | n + 1=>by
  by_cases h:frM ls l n=a∧(l.getD n dS).2.1<t
  ·exact .inr ⟨n,by omega,h,fun j h1 h2=>absurd h1 (by omega)⟩
  ·rcases Q7 (ls:=ls) (l:=l) a t n with g | ⟨i,h1,h2,h3⟩
   ·exact .inl fun i hi=>by
     by_cases e:i=n
     ·subst e;exact h
     ·exact g i (by omega)
   ·exact .inr ⟨i,by omega,h2,fun j g1 g2=>by
     by_cases e:j=n
     ·subst e;exact h
     ·exact h3 j g1 (by omega)⟩
section
variable {hn:Int} {ls:List Lnk} {l:List Snd}
theorem EP {d:Dem} (h:Serving hn ls l d) (a t:Int):0≤Bh ls l d a t:=by
 have hd:0≤d.2.2.1:=by have:=h.dem;unfold Il at this;omega
 rcases Q7 (ls:=ls) (l:=l) a t l.length with g | ⟨k,h1,h2,h3⟩
 ·unfold Bh
  have h4:0≤Ds d a t:=by unfold Ds;split <;> omega
  rw [EO]
  have := Q6 (f:=fun i=>CU ls (l.getD i dS) a t) (n:=l.length) fun i hi=>by
   have hg:=g i hi
   have hb:=h.ok.bytes i hi
   unfold frM at hg
   simp only[CU]
   by_cases c:(l.getD i dS).2.1<t
   ·rw [if_pos c,if_neg (fun e=>hg ⟨e,c⟩)];split <;> omega
   ·rw [if_neg c];exact Int.le_refl _
  omega
 ·have f:=h.fed k h1
  have hm:=Yo hd (a:=a) (show (l.getD k dS).2.1≤t by omega)
  rw [h2.1]at f
  unfold Bh at f ⊢
  rw [EO,NI]at f
  rw [EO]
  have key:=sS (f:=fun i=>CU ls (l.getD i dS) a (l.getD k dS).2.1-(if (l.getD i dS).2.1=(l.getD k dS).2.1∧frM ls l i=a then (l.getD i dS).2.2 else 0)) (g:=fun i=>CU ls (l.getD i dS) a t) (n:=l.length) fun i hi=>by
   have hb:=h.ok.bytes i hi
   unfold CU
   by_cases c1:(l.getD i dS).2.1<(l.getD k dS).2.1
   ·rw [if_pos c1,if_pos (show (l.getD i dS).2.1<t by omega),if_neg (show ¬((l.getD i dS).2.1=(l.getD k dS).2.1∧frM ls l i=a) from fun e=>by omega)];omega
   ·rw [if_neg c1]
    by_cases c2:(l.getD i dS).2.1=(l.getD k dS).2.1
    ·rw [if_pos (show (l.getD i dS).2.1<t by omega)]
     unfold frM
     by_cases c3:(Bd ls (l.getD i dS)).1=a
     ·rw [if_pos ⟨c2,c3⟩,if_pos c3];split <;> omega
     ·rw [if_neg (fun e=>c3 e.2),if_neg c3];split <;> omega
    ·rw [if_neg (fun e=>c2 e.1)]
     by_cases c4:(l.getD i dS).2.1<t
     ·have hik:k<i:=by
       apply Classical.byContradiction
       intro hc
       have := SR h.ok (i:=i) (k:=k) (by omega) h1
       omega
      have := h3 i hik hi
      unfold frM at this
      rw [if_pos c4,if_neg (show ¬(Bd ls (l.getD i dS)).1=a from fun e=>this ⟨e,c4⟩)];split <;> omega
     ·rw [if_neg c4];exact Int.le_refl _
  rw [Ym]at key
  omega
theorem Vv {d:Dem} (h:Serving hn ls l d) (t:Int):Sm (fun a=>Bh ls l d (a:Int) t) hn.toNat=if d.2.2.2.1≤t then d.2.2.1 else 0:=by
 have hnn:((hn.toNat:Nat):Int)=hn:=by have:=h.from_;omega
 have e1:Sm (fun a:Nat=>Ds d (a:Int) t) hn.toNat=if d.2.2.2.1≤t then d.2.2.1 else 0:=by
  by_cases c:d.2.2.2.1≤t
  ·rw [if_pos c,JY (g:=fun a:Nat=>if d.1=(a:Int)then d.2.2.1 else 0),SS,if_pos (by rw[hnn];exact h.from_)]
   intro i hi
   unfold Ds
   by_cases e:(i:Int)=d.1
   ·rw [if_pos ⟨e,c⟩,if_pos e.symm]
   ·rw [if_neg (fun g=>e g.1),if_neg (fun g=>e g.symm)]
  ·rw [if_neg c,JY (g:=fun _=>0),HD]
   intro i hi
   unfold Ds
   rw [if_neg (fun g=>c g.2)]
 have e2:Sm (fun a:Nat=>EN ls l (a:Int) t l.length) hn.toNat=0:=by
  rw [JY (g:=fun a:Nat=>Sm (fun i=>CU ls (l.getD i dS) (a:Int) t) l.length) (fun i _=>EO _),←Zy,JY (g:=fun _=>0),HD]
  intro i hi
  obtain ⟨g1,g2,_⟩:=ends h.ok hi
  by_cases c:(l.getD i dS).2.1<t
  ·rw [JY (g:=fun a:Nat=>(if (Bd ls (l.getD i dS)).2.1=(a:Int)then (l.getD i dS).2.2 else 0)-(if (Bd ls (l.getD i dS)).1=(a:Int)then (l.getD i dS).2.2 else 0)) (fun a _=>by unfold CU;rw[if_pos c]),Ym,SS,SS,if_pos (by rw[hnn];exact g2),if_pos (by rw[hnn];exact g1)]
   omega
  ·rw [JY (g:=fun _=>0) (fun a _=>by unfold CU;rw[if_neg c]),HD]
 unfold Bh
 rw [Yl,e1,e2]
 omega
def Im (hn:Int) (ls:List Lnk) (us:List Snd) (r:Int):TN :=
 ⟨hn.toNat, ls.length,fun k=>(ls.getD k dL).1.toNat,fun k=>(ls.getD k dL).2.1.toNat,fun k t=>CJ ls (k:Int) (r+(t:Int))-Bg us (k:Int) (r+(t:Int)) us.length,fun k t=>Df ls (k:Int) (r+(t:Int))⟩
theorem Yp {hn:Int} {ls:List Lnk} {l:List Snd} (ok:OKr hn ls l) {i:Nat}:∀ {j},i<j→j<l.length→(l.getD i dS).2.1<(l.getD j dS).2.1∨((l.getD i dS).2.1=(l.getD j dS).2.1∧(l.getD i dS).1<(l.getD j dS).1)
 | 0,h,_=>absurd h (by omega)
 | j+1,h,hj=>by
  have := ok.asc (j+1) (by omega) hj
  rw [Nat.add_sub_cancel]at this
  by_cases e:i=j
  ·subst e;exact this
  ·have ih:=Yp ok (i:=i) (j:=j) (by omega) (by omega)
   omega
theorem Pb (ok:OKr hn ls l) {i j:Nat} (hi:i<l.length) (hj:j<l.length) (h:(l.getD i dS).1=(l.getD j dS).1∧(l.getD i dS).2.1=(l.getD j dS).2.1):i=j:=by
 apply Classical.byContradiction
 intro e
 rcases Nat.lt_or_ge i j with c | c
 ·have := Yp ok c hj;omega
 ·have := Yp ok (i:=j) (j:=i) (by omega) hi;omega
end
theorem FT {l:List Snd} {a b:Int}:∀ {n},(∀k,k<n→¬((l.getD k dS).1=a∧(l.getD k dS).2.1=b))→Bg l a b n=0
 | 0,_=>rfl
 | n+1,h=>by rw[Bg,FT fun k hk=>h k (by omega),if_neg (h n (by omega))];rfl
theorem Jn {l:List Snd} {a b:Int} {i:Nat} (he:(l.getD i dS).1=a∧(l.getD i dS).2.1=b):∀ {n},i<n→(∀k,k<n→((l.getD k dS).1=a∧(l.getD k dS).2.1=b)→k=i)→Bg l a b n=(l.getD i dS).2.2
 | 0,h,_=>absurd h (by omega)
 | n+1,h,g=>by
  rw [Bg]
  by_cases e:i=n
  ·subst e
   rw [FT fun k hk c=>by have:=g k (by omega) c;omega,if_pos he];omega
  ·rw [Jn he (by omega) fun k hk c=>g k (by omega) c,if_neg fun c=>e (g n (by omega) c).symm];omega
def tkE (s:Snd):PV×PV:=(.agg [I s.1,I s.2.1],I s.2.2)
theorem Lt {a b c d:Int}:DH (.agg [I a,I b]) (.agg [I c,I d])=decide (a=c∧b=d):=by
 have hb:∀x y:Int,(x==y)=decide (x=y):=fun x y=>rfl
 simp [DH,H5,Bool.decide_and,hb]
theorem sV {x:Snd}:∀ {l:List Snd},(∀y∈l,¬(x.1=y.1∧x.2.1=y.2.1))→CH (l.map tkE) (.agg [I x.1,I x.2.1]) (I x.2.2)=(l ++ [x]).map tkE
 | [],_=>rfl
 | y::l,h=>by
  rw [List.map_cons,CH,show (tkE y).1=.agg [I y.1,I y.2.1] from rfl,Lt,if_neg (by simpa using h y (by simp)),sV fun z hz=>h z (by simp[hz])];rfl
theorem Zz {a b:Int}:∀ {l:List Snd},(∀y∈l,¬(a=y.1∧b=y.2.1))→B7 (l.map tkE) (.agg [I a,I b])=none
 | [],_=>rfl
 | y::l,h=>by
  rw [List.map_cons,B7,show (tkE y).1=.agg [I y.1,I y.2.1] from rfl,Lt,if_neg (by simpa using h y (by simp)),Zz fun z hz=>h z (by simp[hz])]
theorem ZA {a b:Int}:∀ {l:List Snd} {i:Nat},i<l.length→(a=(l.getD i dS).1∧b=(l.getD i dS).2.1)→(∀j,j<i→¬(a=(l.getD j dS).1∧b=(l.getD j dS).2.1))→B7 (l.map tkE) (.agg [I a,I b])=some (I (l.getD i dS).2.2)
 | [],i,h,_,_=>absurd h (by simp)
 | y::l,0,h,e,g=>by
  rw [List.map_cons,B7,show (tkE y).1=.agg [I y.1,I y.2.1] from rfl,Lt,if_pos (by simpa using e)];rfl
 | y::l,i+1,h,e,g=>by
  rw [List.map_cons,B7,show (tkE y).1=.agg [I y.1,I y.2.1] from rfl,Lt,if_neg (by simpa using g 0 (by omega))]
  exact ZA (l:=l) (i:=i) (by simpa using h) e fun j hj=>g (j+1) (by omega)
section
variable {hn:Int} {ls:List Lnk} {l:List Snd}
theorem Yq (ok:OKr hn ls l) {a b:Int}:(B7 (l.map tkE) (.agg [I a,I b])).getD (I 0)=I (Bg l a b l.length):=by
 by_cases c:∃i,i<l.length∧((l.getD i dS).1=a∧(l.getD i dS).2.1=b)
 ·obtain ⟨i,hi,e1,e2⟩:=c
  rw [ZA hi ⟨e1.symm,e2.symm⟩ (fun j hj g=>by have:=Pb ok (i:=j) (j:=i) (by omega) hi ⟨g.1.symm.trans e1.symm,g.2.symm.trans e2.symm⟩;omega),
   Jn ⟨e1,e2⟩ hi fun k hk g=>Pb ok hk hi ⟨g.1.trans e1.symm,g.2.trans e2.symm⟩];rfl
 ·rw [FT fun k hk g=>c ⟨k,hk,g⟩,Zz fun y hy g=>by
   obtain ⟨i,hi,he⟩:=List.mem_iff_getElem.1 hy
   exact c ⟨i,hi,by simp[hi,he,g.1],by simp[hi,he,g.2]⟩];rfl
theorem ST (ok:OKr hn ls l) {k:Nat} (hk:k<l.length):CH ((l.take k).map tkE) (.agg [I (l.getD k dS).1,I (l.getD k dS).2.1]) (I (l.getD k dS).2.2)=(l.take (k+1)).map tkE:=by
 rw [sV fun y hy g=>by
  obtain ⟨i,hi,he⟩:=List.mem_iff_getElem.1 hy
  rw [List.length_take]at hi
  have hil:i<l.length:=by omega
  have e:l.getD i dS=y:=by rw[←he];simp[hil]
  have := Pb ok (i:=i) (j:=k) hil hk ⟨by rw[e];exact g.1.symm,by rw[e];exact g.2.symm⟩
  omega, List.take_succ_eq_append_getElem hk]
 congr 2
 simp [hk]
end
theorem GZ {a b:Int} (h1 : -9223372036854775808≤a∧a≤9223372036854775807) (h2 : -9223372036854775808≤b∧b≤9223372036854775807):BM (.ints 2) (.agg [I a,I b])=true:=by
 simp [BM,JP,h1,h2]
theorem Vw {ls:List Lnk} {l:List Snd}:∀ {k},ftT ls l k=false→∀i,i<k→(l.getD i dS).2.2≤CJ ls (l.getD i dS).1 (l.getD i dS).2.1
 | 0,_,i,hi=>absurd hi (by omega)
 | k+1,h,i,hi=>by
  simp only[ftT,Bool.or_eq_false_iff,decide_eq_false_iff_not]at h
  by_cases e:i=k
  ·subst e;omega
  ·exact Vw h.1 i (by omega)
section
variable {hn:Int} {ls:List Lnk}
theorem Ce {l:List Snd} (h:Cs hn ls l=0):OKr hn ls l∧∀i,i<l.length→(l.getD i dS).2.2≤CJ ls (l.getD i dS).1 (l.getD i dS).2.1:=by
 unfold Cs at h
 split at h
 ·contradiction
 ·rename_i h1
  split at h
  ·cases h
  ·rename_i h2
   exact ⟨right_zero.1 (Classical.not_not.1 h1),Vw (by simpa using h2)⟩
theorem G1 {l:List Snd} (h:Cs hn ls l=0) {k t:Int} (hk:0≤k∧k<(ls.length:Int)):0≤Bg l k t l.length∧Bg l k t l.length≤CJ ls k t:=by
 obtain ⟨ok,hf⟩:=Ce h
 have hc:=Gs ok.net hk.1 hk.2 (tick:=t)
 by_cases c:∃i,i<l.length∧((l.getD i dS).1=k∧(l.getD i dS).2.1=t)
 ·obtain ⟨i,hi,e1,e2⟩:=c
  rw [Jn ⟨e1,e2⟩ hi fun j hj g=>Pb ok hj hi ⟨g.1.trans e1.symm,g.2.trans e2.symm⟩]
  have := hf i hi
  rw [e1,e2]at this
  exact ⟨by have:=ok.bytes i hi;omega,this⟩
 ·rw [FT fun j hj g=>c ⟨j,hj,g⟩]
  omega
theorem DB {us:List Snd} {r:Int} {D:Nat} (h:Cs hn ls us=0):(Im hn ls us r).OK D:=by
 obtain ⟨ok,_⟩:=Ce h
 have hh:=ok.net.houses
 refine ⟨by show 0<hn.toNat;omega,fun k hk=>?_,fun k t hk _=>?_,fun k t hk _=>?_⟩
 ·have := ok.net.ends k hk
  show (ls.getD k dL).1.toNat<hn.toNat∧(ls.getD k dL).2.1.toNat<hn.toNat
  omega
 ·have hk':k<ls.length:=hk
  have := G1 h (k:=(k:Int)) (t:=r+(t:Int)) ⟨by omega,by omega⟩
  show 0≤CJ ls (k:Int) (r+(t:Int))-Bg us (k:Int) (r+(t:Int)) us.length
  omega
 ·have hk':k<ls.length:=hk
  exact Jl ok.net (by omega) (by omega)
end
end Sim
namespace Sim
open Go Go.Proofs
attribute [local congr] Ai Aj Af At Am Al Aq
abbrev frV (hn:Int) (ls:List Lnk) (us:List Snd) (d:Dem):PV:=.agg [I hn,AQ ls,Ay us,I d.1,I d.2.1,I d.2.2.1,I d.2.2.2.1,I d.2.2.2.2]
abbrev frP (hn:Int) (ls:List Lnk) (us:List Snd) (d:Dem):PV:=.vptr [I hn,AQ ls,Ay us,I d.1,I d.2.1,I d.2.2.1,I d.2.2.2.1,I d.2.2.2.2] 0
def lfM (ls:List Lnk) (us:List Snd) (link tick:Int):Int:=CJ ls link tick-Bg us link tick us.length
def rnO (ob:Nat→Option IObj) (M:Nat) (us:List Snd):Nat→Option IObj:=fun i=>if i=M then some (.map 0 (.ints 2) (us.map tkE))else if i=M+1 then some (.arr 0 1 [.mref M 0])else ob i
abbrev rnF (hn:Int) (ls:List Lnk) (us:List Snd) (d:Dem) (M:Nat):PV:=.func (.func 85) [] [frP hn ls us d,.ptr (M+1) 0 0 0]
structure RW where
 hn : Int
 ls : List Lnk
 us : List Snd
 d : Dem
def Kp (x:RW):List PV := [frV x.hn x.ls x.us x.d]
def ME (x:RW) (_st:Store):Prop:=Cs x.hn x.ls x.us=0
def DF (x:RW) (st:Store):PV×Store:=(rnF x.hn x.ls x.us x.d st.next,⟨rnO st.obj st.next x.us,st.next+2⟩)
theorem ZB {K:Nat→Prop} {l:List Snd}:(Ay l).In K:=.lits _ _ fun e he c hc=>by
 obtain ⟨s,_,rfl⟩:=List.mem_map.1 he
 simp [PV.cells]at hc
 rcases hc with rfl | rfl | rfl <;> exact .int _ _
theorem Acp {K:Nat→Prop} {l:List Lnk}:(AQ l).In K:=.lits _ _ fun e he c hc=>by
 obtain ⟨s,_,rfl⟩:=List.mem_map.1 he
 simp only[PV.cells,lkC,List.mem_cons,List.mem_append,List.mem_map]at hc
 rcases hc with rfl | rfl | ⟨_,_,rfl⟩ | ⟨_,_,rfl⟩ <;> exact .int _ _
structure RnI (ob:Nat→Option IObj) (M:Nat) (es:List (PV×PV)) (S:Store):Prop where
 mp : S.obj M=some (.map 0 (.ints 2) es)
 cl : S.obj (M+1)=some (.arr 0 1 [.mref M 0])
 fr : ∀i o,ob i=some o→S.obj i=some o
 nx : M+2≤S.next
theorem RnI.step {ob:Nat→Option IObj} {M:Nat} {es es':List (PV×PV)} {O:Nat→Option IObj} {nx:Nat} (h:RnI ob M es ⟨O,nx⟩) (r0:∀i o,ob i=some o→i<M) {x:Option IObj}:RnI ob M es' ⟨Ab (Ab O nx x) M (some (.map 0 (.ints 2) es')),nx+1⟩:=by
 obtain ⟨h1,h2,h3,h4⟩:=h
 dsimp only at *
 refine ⟨?_,?_,fun i o hi=>?_,by dsimp only;omega⟩ <;> simp only[Ab]
 ·rw [if_pos trivial]
 ·rw [if_neg (by omega),if_neg (by omega)];exact h2
 ·have := r0 i o hi
  rw [if_neg (by omega),if_neg (by omega)];exact h3 i o hi
theorem sW {x:RW} {st:Store} (wf:WF st) (hx:ME x st):IXC Tryz.prog 62 (Kp x) st (OC st (DF x st).1 (DF x st).2):=by
 obtain ⟨hn,ls,us,d⟩:=x
 obtain ⟨ob,M⟩:=st
 have hf:Cs hn ls us=0:=hx
 have r0:=wf
 obtain ⟨ok,_⟩:=Ce hf
 simp only[Kp]
 generalize hR1:(DF ⟨hn,ls,us,d⟩ ⟨ob,M⟩).1=R1
 generalize hR2:(DF ⟨hn,ls,us,d⟩ ⟨ob,M⟩).2=R2
 have r0:∀i o,ob i=some o→i<M:=r0
 refine BT AP (l := []) (Au) [] [] 0 Tryz.func62 rfl (by decide +kernel) (N:=24) rfl (by simp) rfl (by kernel_rfl) ?_
 simp only[↓bdD,bdP,seval,Store.new,Store.set,Tryz.f62,AN,BF,Fc]
 have hul:=ok.len
 have hll:=ok.net.len
 refine Aw [5,10,11,12,13,14,15,16,17,18,19,20,21,22] us.length (fun k ρ st'=>ρ 10=I k∧RnI ob M ((us.take k).map tkE) st') (.refl _) ?_ ?_
 ·simp only[↓bdD,bdP]
  refine ⟨?_,?_,fun i o hi=>?_,Nat.le_refl _⟩
  ·simp [Ab]
  ·simp [Ab]
  ·have := r0 i o hi
   simp [Ab,show ¬i=M by omega,show ¬i=M+1 by omega,hi]
 rintro k ρ ⟨O,nx⟩ hk ⟨h10,hI⟩
 by_cases hlt:k<us.length
 ·have hwk:=Co (k:=k) (by omega)
  have hmp:=hI.mp
  have hcl:=hI.cl
  have hstep:=ST ok hlt
  have e1:=ok.link k hlt
  have e2:=ok.tick k hlt
  generalize hx:us.getD k dS=x at *
  have hkey:=GZ (a:=x.1) (b:=x.2.1) (by omega) (by omega)
  dsimp only at hmp hcl
  have hnx:=hI.nx
  dsimp only at hnx
  have d1:¬M=nx:=by omega
  have d2:¬nx=M:=by omega
  have d3:¬M+1=nx:=by omega
  have d4:¬nx=M+1:=by omega
  simp only[↓bdD,bdP,seval,Store.new,Store.set,A6,ty3,AN,Cn,Eg,Fc,h10,hlt,hwk,hx,hmp,hcl,hkey,hstep,d1,d3,Av]
  exact hI.step r0
 ·have e:k=us.length:=by omega
  subst e
  rw [List.take_length]at hI
  simp only[↓bdD,bdP,seval,Ao,h10]
  rw [←hR1,←hR2]
  refine ⟨[],.inl rfl,fun i o hi=>?_,by dsimp only[DF];omega,?_⟩
  ·dsimp only[DF,rnO]at hi ⊢
   split at hi
   ·rename_i e;subst e;cases hi
    refine ⟨by omega,rfl,hI.mp,.inr fun e he=>?_⟩
    obtain ⟨s,_,rfl⟩:=List.mem_map.1 he
    exact ⟨.agg _ fun c hc=>by simp at hc;rcases hc with rfl | rfl <;> exact .int _ _,.int _ _⟩
   ·split at hi
    ·rename_i e;subst e;cases hi
     refine ⟨by omega,rfl,hI.cl,.inr fun e he c hc=>?_⟩
     simp at he;subst he
     simp [PV.cells]at hc;subst hc
     exact .mref _ _ (by omega)
    ·have := r0 i o hi
     exact ⟨by omega,rfl,hI.fr i o hi,.inl hi⟩
  ·refine .func _ _ _ (fun c hc=>by simp at hc) fun c hc=>?_
   simp only[List.mem_cons,List.not_mem_nil,or_false]at hc
   rcases hc with rfl | rfl
   ·refine .vptr _ _ fun c hc=>?_
    simp only[List.mem_cons,List.not_mem_nil,or_false]at hc
    rcases hc with rfl | rfl | rfl | rfl | rfl | rfl | rfl | rfl <;> first | exact .int _ _ | exact Acp | exact ZB
   ·exact .ptr _ _ _ _ (by dsimp only[DF];omega)
noncomputable def e_runs:Nat×Ent:=(62,.x (A8 Kp ME DF))
theorem Yr:AM Tryz.prog e_runs.1 e_runs.2:=Ft fun _ st hx=>IXC.of_wf (sW (st:=⟨fun _=>none,0⟩) (fun i o h=>by cases h) hx).1 fun wf=>sW wf hx
theorem Air (a b:RW) (st:Store) (h:Kp a=Kp b) (hx:ME a st) (hy:ME b st):DF a st=DF b st:=by
 obtain ⟨a1,a2,a3,a4,a5,a6,a7,a8⟩:=a
 obtain ⟨b1,b2,b3,b4,b5,b6,b7,b8⟩:=b
 simp only[Kp,frV,List.cons.injEq,PV.agg.injEq,PV.int.injEq,PV.lits.injEq,AD,AF,true_and,and_true]at h
 obtain ⟨rfl,rfl,rfl,rfl,rfl,rfl,rfl,rfl⟩:=h
 rfl
theorem SU (x:RW) {st:Store} (h:ME x st):A8 Kp ME DF [frV x.hn x.ls x.us x.d] st=some (DF x st):=Ba Air (i:=x) h
theorem iN {l:List PV} (h:l.length=50) {a b x y:PV}:List.take 51 (List.take 50 (l ++ [a,b]) ++ [x]++List.drop 51 (l ++ [a,b])) ++ [y]++List.drop 52 (List.take 50 (l ++ [a,b]) ++ [x]++List.drop 51 (l ++ [a,b]))=l ++ [x,y]:=by
 have e1:List.take 50 (l ++ [a,b])=l:=List.take_left' h
 have e2:List.drop 51 (l ++ [a,b]) = [b]:=by rw[List.drop_append,h,List.drop_of_length_le (by omega)];rfl
 rw [e1,e2,List.take_left' (by simp[h]),List.drop_of_length_le (by simp[h])]
 simp
def Io (ls:List Lnk) (us:List Snd) (r:Int) (k t:Nat):List PV:=I (k:Nat)::I (r+(t:Int))::(lkC (ls.getD k dL) ++ [I (lfM ls us (k:Nat) (r+(t:Int))),I (Df ls (k:Nat) (r+(t:Int)))])
abbrev Acq (ls:List Lnk) (us:List Snd) (r:Int) (k t:Nat):PV:=.agg (Io ls us r k t)
def rnG (M:Nat) (us:List Snd) (st:Store):Prop:=st.obj M=some (.map 0 (.ints 2) (us.map tkE))∧st.obj (M+1)=some (.arr 0 1 [.mref M 0])
def Lu (ls:List Lnk) (us:List Snd) (r:Int) (D:Nat):List (List PV):=(List.range (D*ls.length)).map fun i => [Acq ls us r (i % ls.length) (i / ls.length)]
theorem Ys {hn:Int} {ls:List Lnk} {us:List Snd} {d:Dem} {M D:Nat} (hf:Cs hn ls us=0) (hd:d.2.2.2.2=d.2.2.2.1+(D:Nat)) (hr0:0≤d.2.2.2.1) (hd1:d.2.2.2.2≤1000000) :
  Nx (rnG M us) Tryz.prog 0 85 [] [frP hn ls us d,.ptr (M+1) 0 0 0] (Lu ls us d.2.2.2.1 D):=by
 refine OD (rnG M us) (l := []) Au [] [] 0 Tryz.func85 rfl (by decide +kernel) rfl (N:=52) rfl (by simp) (fun y=>by kernel_rfl) fun y H J E st0 hm h0 hstab hG hy=>?_
 obtain ⟨ok,_⟩:=Ce hf
 obtain ⟨df,dt,db,dr,dd⟩:=d
 dsimp only at hd hr0 hd1 ⊢
 obtain ⟨ob0,M0⟩:=st0
 have hll:=ok.net.len
 obtain ⟨L,hL⟩:∃L,ls.length=L:=⟨_,rfl⟩
 have hlen:(Lu ls us dr D).length=D*L:=by unfold Lu;rw[List.length_map,List.length_range,hL]
 dsimp only at hy
 rw [hlen]
 have hy':∀ {t k:Nat},t<D→k<L→(Lu ls us dr D)[t*L+k]?=some [Acq ls us dr k t]:=fun {t k} ht hk=>by
  have h1:t*L+k<D*L:=by
   have := Nat.mul_le_mul_right L (show t+1≤D by omega)
   rw [Nat.add_mul,Nat.one_mul]at this
   omega
  unfold Lu
  rw [hL,List.getElem?_map,List.getElem?_range h1,Option.map_some,Nat.mul_comm t L,Nat.mul_add_mod,Nat.mod_eq_of_lt hk,Nat.mul_add_div (by omega),Nat.div_eq_of_lt hk,Nat.add_zero]
 generalize Lu ls us dr D=ys at *
 simp only[↓bdD,bdP,seval,ty3,AX,BF]
 refine Aw (hm:=hm) [4,5,6,7,8,12,13,14,15,16,17,18,19,20,21,22,23,24,25,26,27,28,29,30,31,32,33,34,35,36,37,38,39,40,41,42,43,44,45,46,47,48,49,50,51] D (fun t ρ st'=>ρ 4=I (dr+(t:Int))∧J (t*L) st') (.refl _) ?_ ?_
 ·simp only[↓bdD,bdP,Int.add_zero,Nat.zero_mul]
  exact h0
 rintro t ρ ⟨O1,n1⟩ ht ⟨h4,hJ⟩
 by_cases htD:t<D
 ·have hlt:dr+(t:Int)<dd:=by omega
  simp only[↓bdD,bdP,seval,ty3,BP,AI,AX,BF,h4,hlt]
  refine Aw (hm:=hm) [5,6,7,8,23,24,25,26,27,28,29,30,31,32,33,34,35,36,37,38,39,40,41,42,43,44,45,46,47,48,49,50,51] L (fun k ρ st'=>ρ 23=I k∧J (t*L+k) st') (.refl _) ?_ ?_
  ·simp only[↓bdD,bdP]
   exact hJ
  rintro k ρ2 ⟨O2,n2⟩ hkL ⟨h23,hJ⟩
  by_cases hk:k<L
  ·have wk:=Co (k:=k) (by omega)
   have hkl:k<ls.length:=by omega
   have hkli:(k:Int)<L:=by omega
   have g1:=hG _ _ hJ
   have b1:=g1.1
   have b2:=g1.2
   dsimp only at b1 b2
   have hyk:=hy' htD hk
   have hcb:=Gs ok.net (link:=(k:Int)) (tick:=dr+(t:Int)) (by omega) (by omega)
   have hfs:=G1 hf (k:=(k:Int)) (t:=dr+(t:Int)) ⟨by omega,by omega⟩
   have hget:=Yq ok (a:=(k:Int)) (b:=dr+(t:Int))
   have hkey:=GZ (a:=(k:Int)) (b:=dr+(t:Int)) (by omega) (by omega)
   have hnl:=Cb hkl
   have h24:=MA (t:=dr+(t:Int)) (by omega)
   unfold Acq Io lfM at hyk
   unfold CJ at hyk hcb hfs
   unfold Df at hyk
   rw [Int.toNat_natCast]at hyk hcb hfs
   have hlt24:(dr+(t:Int)).toNat % 24<24:=Nat.mod_lt _ (by omega)
   have hli24:(((dr+(t:Int)).toNat % 24:Nat):Int)<24:=by omega
   generalize (dr+(t:Int)).toNat % 24=hr at *
   have hc1:=Fm (a:=ls.getD k dL) hlt24
   have hc2:=Hw (a:=ls.getD k dL) hlt24
   generalize hlk:ls.getD k dL=lk at *
   generalize Bg us (k:Int) (dr+(t:Int)) us.length=sn at *
   have w5:IntKind.i64.wrap (EY lk hr-sn)=EY lk hr-sn:=Ah (by omega) (by omega)
   have hM1:∀o1 o2,J (t*L+k) ⟨Ab (Ab O2 n2 o1) (n2+1) o2,n2+2⟩:=fun o1 o2=>hstab _ _ _ hJ (by simp) (fun x hx=>by
    dsimp only at hx ⊢
    simp only[Ab]
    rw [if_neg (by omega),if_neg (by omega)])
   have gN:=hG _ _ (hM1 none none)
   have d1:¬M=n2:=fun e=>by have:=gN.1;simp[Ab,e]at this
   have d2:¬M=n2+1:=fun e=>by have:=gN.1;simp[Ab,e]at this
   have d3:¬M+1=n2:=fun e=>by have:=gN.2;simp[Ab,e]at this
   have d4:¬n2=n2+1:=by omega
   simp only[↓bdD,bdP,seval,Store.new,Store.set,BJ,CT,Nat.mul_one,ty3,BP,OG,CI,Eg,Fb,Fc,d1,d2,d3,d4,Av,h4,h23,hk,hkli,hL,hnl,h24,hli24,hc1,hc2,hget,hkey,b1,b2,w5,BJ,CT,wk]
   rw [iN BJ]
   refine ⟨by simp[BJ],?_⟩
   refine hy _ _ _ _ hyk (hM1 _ _) (fun st2 h2=>?_) (fun st2 h2=>?_)
   ·simp only[↓bdD,bdP]
    exact h2
   ·simp only[↓bdD,bdP]
    exact .inr h2
  ·have e:k=L:=by omega
   subst e
   have wt:IntKind.i64.wrap (dr+(t:Int)+1)=dr+((t+1:Nat):Int):=by rw[Ah (by omega) (by omega)];omega
   rw [show t*k+k=(t+1)*k by rw[Nat.add_mul,Nat.one_mul]]at hJ
   simp only[↓bdD,bdP,seval,h4,h23,wt,hL]
   refine ⟨htD,?_,hJ⟩
   ·rw [AL (by decide +kernel)]
    simp only[↓bdD,bdP,Nat.reduceBEq]
 ·have e:t=D:=by omega
  subst e
  have hdd:¬dr+(t:Int)<dd:=by omega
  simp only[↓bdD,bdP,seval,ty3,AX,BF,h4,hdd]
  exact .inl hJ
theorem sZ {f:Nat→Option IObj} {nx k z n g z0:Nat} {l es:List PV} (h:f k=some (.arr g z0 es)):Store.re ⟨f,nx⟩ (k+1) z l n=some (.ref k (g+1) 0 n,⟨Ab f k (some (.arr (g+1) z l)),nx⟩):=by
 simp [Store.re,h,Store.set]
def gK (b N k:Nat):List PV:=(List.range N).map fun v=>if v<k then PV.ref (b+v) 0 0 0 else .nils
theorem Ais {b N k:Nat}:(gK b N k).length=N:=by simp[gK]
theorem Ait {b N k v:Nat} (h:v<N):nth (gK b N k) v=if v<k then PV.ref (b+v) 0 0 0 else .nils:=by simp[gK,nth,h]
theorem Ana {b N:Nat}:gK b N 0=List.replicate N .nils:=by
 refine List.ext_getElem (by simp[gK]) fun i h1 h2=>?_
 simp [gK]
theorem Aiu {b N k:Nat} (h:k<N):(gK b N k).set k (PV.ref (b+k) 0 0 0)=gK b N (k+1):=by
 refine List.ext_getElem (by simp[gK]) fun i h1 h2=>?_
 rw [List.getElem_set]
 by_cases c:k=i
 ·subst c;simp[gK]
 ·rw [if_neg c]
  by_cases c2:i<k
  ·simp [gK,c2,show i<k+1 by omega]
  ·simp [gK,c2,show ¬i<k+1 by omega]
theorem Anb {b N:Nat}:gK (b+5) N N=GX b (List.replicate N []):=by
 refine List.ext_getElem (by simp[gK,GX]) fun i h1 h2=>?_
 rw [Ais]at h1
 simp [gK,GX,h1]
def HE (O:Nat→Option IObj) (B b N k:Nat):Nat→Option IObj:=fun i=>if i=B then some (.arr 1 1 (gK b N k))else if b≤i∧i<b+k then some (.arr 0 1 [])else O i
theorem Q8 {ρ:Nat→PV} {O:Nat→Option IObj} {B b N:Nat} (hB:B<b) (h:O B=some (.arr 1 1 (List.replicate N .nils))):∀k,k≤N→Ghost ⟨ρ,⟨O,b⟩⟩ ⟨ρ,⟨HE O B b N k,b+k⟩⟩
 | 0,_=>by
  have : HE O B b N 0=O:=by
   funext i
   unfold HE
   by_cases c:i=B
   ·rw [if_pos c,c,h,Ana]
   ·rw [if_neg c,if_neg (by omega)]
  rw [this];exact .refl _
 | k + 1,hk=>by
  refine .trans (Q8 hB h k (by omega)) ?_
  have hn:nth (gK b N k) k=.nils:=by rw[Ait (by omega),if_neg (by omega)]
  have g:=Ghost.cell ⟨ρ,⟨HE O B b N k,b+k⟩⟩ B 1 1 1 (gK b N k) k 0 (by simp[HE]) (by rw[hn];rfl) (by omega)
  have e:(Store.set (Store.new ⟨HE O B b N k,b+k⟩ (.arr 0 1 [])) B (.arr 1 1 ((gK b N k).set k (Bj (nth (gK b N k) k) 0 [.ref (b+k) 0 0 0]))))=⟨HE O B b N (k+1),b+(k+1)⟩:=by
   rw [hn,show Bj .nils 0 [.ref (b+k) 0 0 0]=PV.ref (b+k) 0 0 0 from rfl,Aiu (by omega)]
   simp only[Store.set,Store.new]
   congr 1
   funext i
   simp only[Ab,HE]
   by_cases c:i=B
   ·rw [if_pos c,if_pos c]
   ·simp only[if_neg c]
    by_cases c2:i=b+k
    ·rw [if_pos c2,if_pos (by omega)]
    ·rw [if_neg c2]
     by_cases c3:b≤i∧i<b+k
     ·rw [if_pos c3,if_pos (by omega)]
     ·rw [if_neg c3,if_neg (by omega)]
  rw [←e]
  exact g
theorem tA {O:Nat→Option IObj} {M N:Nat} (a1:O (M+1)=some (.arr 1 1 (List.replicate N (I 0)))):GrAt M [] (List.replicate N []) (List.replicate N 0) (HE (Ab (Ab O (M+4) (some (.arr 0 4 []))) (M+2) (some (.arr 0 3 [.agg [.ref (M+4) 0 0 0,.ref M 1 0 N,.ref (M+1) 1 0 N]]))) M (M+5) N N):=by
 refine ⟨?_,?_,?_,?_,fun u hu=>?_⟩
 ·simp only[HE,if_true,Anb]
 ·simp only[HE,Ab]
  rw [if_neg (by omega),if_neg (by omega),if_neg (by omega),if_neg (by omega),a1,List.map_replicate]
 ·simp only[HE,Ab]
  rw [if_neg (by omega),if_neg (by omega),if_pos trivial]
  simp [JL]
 ·simp only[HE,Ab]
  rw [if_neg (by omega),if_neg (by omega),if_neg (by omega),if_pos trivial]
  simp
 ·rw [List.length_replicate]at hu
  simp only[HE,Ab]
  rw [if_neg (by omega),if_pos (by omega)]
  simp [hu,Cc]
section
variable {K:Nat→Prop} {g z:Nat}
theorem Acr {l:List Int}:OIn K (.arr g z (l.map (PV.int .i64))):=fun e he c hc=>by
 obtain ⟨x,_,rfl⟩:=List.mem_map.1 he
 simp only[PV.cells,List.mem_singleton]at hc
 rw [hc];exact .int _ _
theorem Acs {l:List Nat}:OIn K (.arr g z (Cc l)):=fun e he c hc=>by
 obtain ⟨x,_,rfl⟩:=List.mem_map.1 he
 simp only[PV.cells,List.mem_singleton]at hc
 rw [hc];exact .int _ _
end
structure GM where
 h : Nat
 D : Nat
 ls : List Lnk
 us : List Snd
 d : Dem
abbrev GM.T (x:GM):TN:=Im (x.h:Nat) x.ls x.us x.d.2.2.2.1
abbrev GM.N (x:GM):Nat:=(x.D+1)*x.h
abbrev GM.n (x:GM):Nat:=x.D*(x.h+x.ls.length)
def Kq (x:GM):List PV := [rG ((x.h:Nat),x.ls),Ay x.us,DY x.d]
def Kr (x:GM) (st:Store):Prop:=WF st∧OKr (x.h:Nat) x.ls x.us∧0≤x.d.2.2.2.1∧x.d.2.2.2.2=x.d.2.2.2.1+(x.D:Nat)∧x.D≤100∧x.d.2.2.2.2≤1000000∧Cs (x.h:Nat) x.ls x.us=0
def mkO (ob:Nat→Option IObj) (M:Nat) (A:List Arc) (out:List (List Nat)) (N:Nat):Nat→Option IObj:=fun i =>
 if i=M then some (.arr 1 1 (GX M out))else if i=M+1 then some (.arr 1 1 ((List.replicate N (0:Int)).map (PV.int .i64)))else if i=M+2 then some (.arr 0 3 [JL M A out (List.replicate N 0)])
 else if i=M+4 then some (.arr (A.length / 2) 4 (A.map EX))else if M+5≤i∧i<M+5+N then some (.arr (out.getD (i-(M+5)) []).length 1 (Cc (out.getD (i-(M+5)) [])))else ob i
def EZ (x:GM) (st:Store):PV×Store:=(gP st.next,⟨mkO st.obj st.next (gA x.T.p x.n) (gO x.T.p x.N x.n) x.N,st.next+5+x.N⟩)
structure MkI (ob:Nat→Option IObj) (M:Nat) (A:List Arc) (out:List (List Nat)) (lv:List Int) (es:List (PV×PV)) (S:Store):Prop where
 gr : GrAt M A out lv S.obj
 mp : S.obj (M+3)=some (.map 0 (.ints 2) es)
 fr : ∀i o,ob i=some o→S.obj i=some o
 nx : M+5+out.length≤S.next
section
variable {ob:Nat→Option IObj} {M:Nat} {A:List Arc} {out:List (List Nat)} {lv:List Int} {es:List (PV×PV)} {O:Nat→Option IObj} {nx:Nat}
theorem MkI.high (h:MkI ob M A out lv es ⟨O,nx⟩) (r0:∀i o,ob i=some o→i<M) {x:Option IObj}:MkI ob M A out lv es ⟨Ab O nx x,nx+1⟩:=by
 have hn:=h.nx
 dsimp only at hn
 have key:∀i,i<nx→Ab O nx x i=O i:=fun i hi=>by simp only[Ab];rw[if_neg (by omega)]
 obtain ⟨⟨g0,g1,g2,g4,g5⟩,h2,h3,_⟩:=h
 exact ⟨⟨by dsimp only;rw[key _ (by omega)];exact g0,by dsimp only;rw[key _ (by omega)];exact g1,by dsimp only;rw[key _ (by omega)];exact g2,by dsimp only;rw[key _ (by omega)];exact g4,fun u hu=>by dsimp only;rw[key _ (by omega)];exact g5 u hu⟩,
  by dsimp only;rw[key _ (by omega)];exact h2,fun i o hi=>by have:=r0 i o hi;dsimp only;rw[key _ (by omega)];exact h3 i o hi,by dsimp only;omega⟩
theorem MkI.again {y:Option IObj} (h:MkI ob M A out lv es ⟨Ab O nx y,nx+1⟩) (r0:∀i o,ob i=some o→i<M) (hn:M+5+out.length≤nx:=by assumption) {x:Option IObj}:MkI ob M A out lv es ⟨Ab (Ab O nx y) nx x,nx+1⟩:=by
 have e:Ab (Ab O nx y) nx x=Ab O nx x:=by
  funext i;simp only[Ab];split <;> rfl
 obtain ⟨⟨g0,g1,g2,g4,g5⟩,h2,h3,_⟩:=h
 have key:∀i,i<nx→Ab (Ab O nx y) nx x i=Ab O nx y i:=fun i hi=>by simp only[Ab];rw[if_neg (by omega)]
 dsimp only at *
 exact ⟨⟨by dsimp only;rw[key _ (by omega)];exact g0,by dsimp only;rw[key _ (by omega)];exact g1,by dsimp only;rw[key _ (by omega)];exact g2,by dsimp only;rw[key _ (by omega)];exact g4,fun u hu=>by dsimp only;rw[key _ (by omega)];exact g5 u hu⟩,
  by dsimp only;rw[key _ (by omega)];exact h2,fun i o hi=>by have:=r0 i o hi;dsimp only;rw[key _ (by omega)];exact h3 i o hi,by dsimp only;omega⟩
end
theorem MkI.map {ob:Nat→Option IObj} {M:Nat} {A:List Arc} {out:List (List Nat)} {lv:List Int} {es es':List (PV×PV)} {O:Nat→Option IObj} {nx:Nat} (h:MkI ob M A out lv es ⟨O,nx⟩) (r0:∀i o,ob i=some o→i<M):MkI ob M A out lv es' ⟨Ab O (M+3) (some (.map 0 (.ints 2) es')),nx⟩:=by
 obtain ⟨⟨g0,g1,g2,g4,g5⟩,h2,h3,h4⟩:=h
 dsimp only at *
 refine ⟨⟨?_,?_,?_,?_,fun u hu=>?_⟩,?_,fun i o hi=>?_,h4⟩ <;> simp only[Ab]
 ·rw [if_neg (by omega)];exact g0
 ·rw [if_neg (by omega)];exact g1
 ·rw [if_neg (by omega)];exact g2
 ·rw [if_neg (by omega)];exact g4
 ·rw [if_neg (by omega)];exact g5 u hu
 ·rw [if_pos trivial]
 ·have := r0 i o hi
  rw [if_neg (by omega)];exact h3 i o hi
theorem MkI.add {ob:Nat→Option IObj} {M u v:Nat} {x y:Int} {A:List Arc} {out:List (List Nat)} {lv:List Int} {es:List (PV×PV)} {O:Nat→Option IObj} {nx:Nat} (h:MkI ob M A out lv es ⟨O,nx⟩) (r0:∀i o,ob i=some o→i<M) (hu:u<out.length) (hv:v<out.length) (huv:¬u=v) :
  MkI ob M (Gf A u v x y) (EJ out u v A.length) lv es ⟨aO O M u v (A.length / 2+1) (Gf A u v x y) (EJ out u v A.length) lv,nx⟩:=by
 obtain ⟨g,h2,h3,h4⟩:=h
 dsimp only at *
 refine ⟨Al9 g hu hv huv,?_,fun i o hi=>?_,by unfold EJ;rw[List.length_set,List.length_set];exact h4⟩
 ·simp only[aO,Ab]
  rw [if_neg (by omega),if_neg (by omega),if_neg (by omega),if_neg (by omega),if_neg (by omega)];exact h2
 ·have := r0 i o hi
  simp only[aO,Ab]
  rw [if_neg (by omega),if_neg (by omega),if_neg (by omega),if_neg (by omega),if_neg (by omega)];exact h3 i o hi
theorem Acu {ob O:Nat→Option IObj} {M N n:Nat} {A:List Arc} {out:List (List Nat)} (h1:WF ⟨ob,M⟩) (g:GrAt M A out (List.replicate N 0) O) (fr:∀i o,ob i=some o→O i=some o) (ho:out.length=N):OC ⟨ob,M⟩ (gP M) ⟨mkO ob M A out N,M+5+N⟩ (.ptr (M+2) 0 0 0) ⟨O,n⟩:=by
 refine ⟨[],.inl rfl,fun i o hi=>?_,by dsimp only;omega,.ptr _ _ _ _ (by dsimp only;omega)⟩
 dsimp only at hi ⊢
 unfold mkO at hi
 by_cases c0:i=M
 ·rw [if_pos c0]at hi
  cases hi
  refine ⟨by omega,rfl,by rw[c0];exact g.o0,.inr fun e he c hc=>?_⟩
  obtain ⟨v,hv,rfl⟩:=List.mem_map.1 he
  rw [List.mem_range,ho]at hv
  simp only[PV.cells,List.mem_singleton]at hc
  rw [hc];exact .ref _ _ _ _ (by omega)
 rw [if_neg c0]at hi
 by_cases c1:i=M+1
 ·rw [if_pos c1]at hi
  cases hi
  exact ⟨by omega,rfl,by rw[c1];exact g.o1,.inr Acr⟩
 rw [if_neg c1]at hi
 by_cases c2:i=M+2
 ·rw [if_pos c2]at hi
  cases hi
  refine ⟨by omega,rfl,by rw[c2];exact g.o2,.inr fun e he c hc=>?_⟩
  rw [List.mem_singleton]at he
  subst he
  simp only[JL,PV.cells,List.mem_cons,List.not_mem_nil,or_false]at hc
  rcases hc with hc | hc | hc <;> (rw[hc];exact .ref _ _ _ _ (by omega))
 rw [if_neg c2]at hi
 by_cases c4:i=M+4
 ·rw [if_pos c4]at hi
  cases hi
  exact ⟨by omega,rfl,by rw[c4];exact g.o4,.inr SF⟩
 rw [if_neg c4]at hi
 by_cases c5:M+5≤i∧i<M+5+N
 ·rw [if_pos c5]at hi
  cases hi
  have := g.o5 (i-(M+5)) (by omega)
  rw [show M+5+(i-(M+5))=i by omega]at this
  exact ⟨c5.2,rfl,this,.inr Acs⟩
 ·rw [if_neg c5]at hi
  have := h1 i o hi
  dsimp only at this
  exact ⟨by omega,rfl,fr i o hi,.inl hi⟩
theorem Aiv {x:GM} {st:Store} (hx:Kr x st):IXC Tryz.prog 68 (Kq x) st (OC st (EZ x st).1 (EZ x st).2):=by
 obtain ⟨h,D,ls,us,⟨df,dt,db,dr,dd⟩⟩:=x
 obtain ⟨ob,M⟩:=st
 unfold Kr at hx
 dsimp only at hx
 obtain ⟨h1,ok,h5,h6,h7,h8,hft⟩:=hx
 have h2:1≤h:=by have:=ok.net.houses;omega
 have h3:h≤12:=by have:=ok.net.houses;omega
 have h4:=ok.net.len
 simp only[Kq]
 generalize hR1:(EZ ⟨h,D,ls,us,df,dt,db,dr,dd⟩ ⟨ob,M⟩).1=R1
 generalize hR2:(EZ ⟨h,D,ls,us,df,dt,db,dr,dd⟩ ⟨ob,M⟩).2=R2
 obtain ⟨N,hN⟩:∃N,(D+1)*h=N:=⟨_,rfl⟩
 have hNb:N≤1212:=by rw[←hN];exact Nat.le_trans (Nat.mul_le_mul (show D+1≤101 by omega) h3) (by decide)
 have w1:IntKind.i64.wrap (dd-dr)=(D:Int):=by rw[Ah (by omega) (by omega)];omega
 have w2:IntKind.i64.wrap ((D:Int)+1)=((D+1:Nat):Int):=Co (by omega)
 have w3:IntKind.i64.wrap (((D+1:Nat):Int)*(h:Int))=(N:Int):=by
  have : ((D+1:Nat):Int)*(h:Int)=(N:Int):=by rw[←hN];exact (Int.natCast_mul _ _).symm
  rw [this,Ah (by omega) (by omega)]
 have hNi:(N:Int)≤4294967296:=by omega
 refine Aa2 AP (l := [e_add]) ((Ad Al6 Au)) [36] [25,26,31,32,100028,200034] 2 Tryz.func68 rfl (by decide +kernel) (N:=130) rfl (by simp) rfl (by kernel_rfl) ?_
 unfold stB
 dsimp only
 obtain ⟨F,hF⟩:∃F:Nat→Option IObj,(fun i=>if M≤i∧i<M+2 then some (IObj.arr 0 1 [])else ob i)=F:=⟨_,rfl⟩
 have F0:F M=some (.arr 0 1 []):=by rw[←hF];simp
 have F1:F (M+1)=some (.arr 0 1 []):=by rw[←hF];simp
 have F9:∀i o,ob i=some o→F i=some o:=fun i o hi=>by
  have := h1 i o hi
  dsimp only at this
  rw [←hF]
  simp only[show ¬(M≤i∧i<M+2) by omega,if_false,hi]
 rw [hF]
 have q1:¬M+1=M:=by omega
 have q2:¬M=M+1:=by omega
 have r1:=sZ (nx:=M+2) (z:=1) (l:=List.replicate N PV.nils) (n:=N) F0
 have r2:Store.re ⟨Ab F M (some (.arr (0+1) 1 (List.replicate N PV.nils))),M+2⟩ (M+2) 1 (List.replicate N (I 0)) N=some (.ref (M+1) (0+1) 0 N,⟨Ab (Ab F M (some (.arr (0+1) 1 (List.replicate N PV.nils)))) (M+1) (some (.arr (0+1) 1 (List.replicate N (I 0)))),M+2⟩) :=
  sZ (k:=M+1) (by simp only[Ab];rw[if_neg q1];exact F1)
 rw [Nat.zero_add]at r1 r2
 simp only[↓bdD,bdP,seval,Store.new,e_add,Tryz.f68,ty3,AI,AN,AX,AS,BL,Ef,qN,Hu,Mk,OE,GQ,w1,w2,w3,hNi,r1,r2]
 obtain ⟨O1,hO1⟩:∃O1:Nat→Option IObj,Ab (Ab (Ab (Ab F M (some (.arr 1 1 (List.replicate N PV.nils)))) (M+1) (some (.arr 1 1 (List.replicate N (I 0))))) (M+2) (some (.arr 0 3 [.agg [.nils,.ref M 1 0 N,.ref (M+1) 1 0 N]]))) (M+2+1) (some (.map 0 (.ints 2) []))=O1:=⟨_,rfl⟩
 have a0:O1 M=some (.arr 1 1 (List.replicate N PV.nils)):=by rw[←hO1];simp[Ab,show ¬M=M+2+1 by omega]
 have a1:O1 (M+1)=some (.arr 1 1 (List.replicate N (I 0))):=by rw[←hO1];simp[Ab]
 have a2:O1 (M+2)=some (.arr 0 3 [.agg [.nils,.ref M 1 0 N,.ref (M+1) 1 0 N]]):=by rw[←hO1];simp[Ab]
 have a3:O1 (M+2+1)=some (.map 0 (.ints 2) []):=by rw[←hO1];simp[Ab]
 have a9:∀i o,ob i=some o→O1 i=some o:=fun i o hi=>by
  have := h1 i o hi
  dsimp only at this
  rw [←hO1]
  simp only[Ab]
  rw [if_neg (by omega),if_neg (by omega),if_neg (by omega),if_neg (by omega),F9 i o hi]
 rw [hO1]
 have gh:∀ρ,Ghost ⟨ρ,⟨O1,M+4⟩⟩ ⟨ρ,⟨HE (Ab (Ab O1 (M+4) (some (.arr 0 4 []))) (M+2) (some (.arr 0 3 [.agg [.ref (M+4) 0 0 0,.ref M 1 0 N,.ref (M+1) 1 0 N]]))) M (M+5) N N,M+5+N⟩⟩:=fun ρ=>by
  refine .trans (Ghost.cell ⟨ρ,⟨O1,M+4⟩⟩ (M+2) 0 3 4 _ 0 0 a2 rfl (by omega)) ?_
  show Ghost ⟨ρ,⟨Ab (Ab O1 (M+4) (some (.arr 0 4 []))) (M+2) (some (.arr 0 3 [.agg [.ref (M+4) 0 0 0,.ref M 1 0 N,.ref (M+1) 1 0 N]])),M+5⟩⟩ _
  refine Q8 (B:=M) (b:=M+5) (by omega) ?_ N (Nat.le_refl _)
  simp only[Ab]
  rw [if_neg (by omega),if_neg (by omega),a0]
 have gr0:=tA (O:=O1) (M:=M) (N:=N) a1
 have mi0:MkI ob M [] (List.replicate N []) (List.replicate N 0) [] ⟨HE (Ab (Ab O1 (M+4) (some (.arr 0 4 []))) (M+2) (some (.arr 0 3 [.agg [.ref (M+4) 0 0 0,.ref M 1 0 N,.ref (M+1) 1 0 N]]))) M (M+5) N N,M+5+N⟩:=by
  refine ⟨gr0,?_,fun i o hi=>?_,by rw[List.length_replicate];exact Nat.le_refl _⟩
  ·simp only[HE,Ab]
   rw [if_neg (by omega),if_neg (by omega),if_neg (by omega),if_neg (by omega)];exact a3
  ·have := h1 i o hi
   dsimp only at this
   simp only[HE,Ab]
   rw [if_neg (by omega),if_neg (by omega),if_neg (by omega),if_neg (by omega)];exact a9 i o hi
 clear gr0
 generalize HE (Ab (Ab O1 (M+4) (some (.arr 0 4 []))) (M+2) (some (.arr 0 3 [.agg [.ref (M+4) 0 0 0,.ref M 1 0 N,.ref (M+1) 1 0 N]]))) M (M+5) N N=O2 at *
 have hul:=ok.len
 have r0:∀i o,ob i=some o→i<M:=h1
 refine Aw [11,40,41,42,43,44,45,46,47,48,49,50,51,52] us.length (fun k ρ st'=>ρ 40=I k∧MkI ob M [] (List.replicate N []) (List.replicate N 0) ((us.take k).map tkE) st') (gh _) ?_ ?_
 ·simp only[↓bdD,bdP]
  exact mi0
 rintro k ρ ⟨O,nx⟩ hk ⟨h40,hI⟩
 by_cases hlt:k<us.length
 ·have hwk:=Co (k:=k) (by omega)
  have hmp:=hI.mp
  have hstep:=ST ok hlt
  have e1:=ok.link k hlt
  have e2:=ok.tick k hlt
  generalize hx:us.getD k dS=x at *
  have hkey:=GZ (a:=x.1) (b:=x.2.1) (by omega) (by omega)
  dsimp only at hmp
  have hnx:=hI.nx
  dsimp only at hnx
  have d1:¬M+3=nx:=by omega
  have d2:¬nx=M+3:=by omega
  simp only[↓bdD,bdP,seval,Store.new,Store.set,A6,ty3,AN,Cn,OH,qN,Hu,OE,GQ,h40,hlt,hwk,hx,hmp,hkey,hstep,d1]
  exact ((hI.high r0).again r0).map r0
 ·have e:k=us.length:=by omega
  subst e
  rw [List.take_length]at hI
  obtain ⟨L,hL⟩:∃L,ls.length=L:=⟨_,rfl⟩
  have hok:=DB (r:=dr) (D:=D) hft
  have hpo:=TN.p_ok hok
  have ph:∀t x,x<h→(Im h ls us dr).p (t*(h+L)+x)=(t*h+x,(t+1)*h+x,1099511627776,0):=fun t x hx=>by
   rw [←hL];exact TN.p_house (T:=Im h ls us dr) hx
  have pl:∀t k,k<L→(Im h ls us dr).p (t*(h+L)+(h+k))=(t*h+(ls.getD k dL).1.toNat,(t+1)*h+(ls.getD k dL).2.1.toNat,CJ ls (k:Int) (dr+(t:Int))-Bg us (k:Int) (dr+(t:Int)) us.length,Df ls (k:Int) (dr+(t:Int))):=fun t k hk=>by
   rw [←hL]at hk ⊢;exact TN.p_link (T:=Im h ls us dr) hk
  have hW:(Im h ls us dr).W=h+L:=by rw[←hL];rfl
  have hh:(Im h ls us dr).h=h:=rfl
  rw [hW,hh,hN]at hpo
  obtain ⟨p,hp⟩:∃p,(Im h ls us dr).p=p:=⟨_,rfl⟩
  have hRp:EZ ⟨h,D,ls,us,df,dt,db,dr,dd⟩ ⟨ob,M⟩=(gP M,⟨mkO ob M (gA p (D*(h+L))) (gO p N (D*(h+L))) N,M+5+N⟩):=by
   simp only[EZ,GM.T,GM.N,GM.n,hp,hN,hL]
  rw [hRp]at hR1 hR2
  clear hRp
  rw [hp]at hpo ph pl
  have hI:MkI ob M (gA p (0*(h+L))) (gO p N (0*(h+L))) (List.replicate N 0) (us.map tkE) ⟨O,nx⟩:=by rw[Nat.zero_mul];exact hI
  simp only[↓bdD,bdP,seval,Hu,h40]
  refine Aw [13,14,15,16,17,56,57,58,59,60,61,62,63,64,65,66,67,68,69,70,71,72,73,74,75,76,77,78,79,80,81,82,83,84,85,86,87,88,89,90,91,92,93,94,95,96,97,98,99,100,101,102,103,104,105,106,107,108,109,110,111,112,113,114,115,116,117,118,119,120,121,122,123,124,125,126,127,128] D (fun t ρ st'=>ρ 56=I t∧MkI ob M (gA p (t*(h+L))) (gO p N (t*(h+L))) (List.replicate N 0) (us.map tkE) st') (.refl _) ?_ ?_
  ·simp only[↓bdD,bdP]
   exact hI
  clear hI
  rintro t ρ5 ⟨O3,n3⟩ ht ⟨h56,hI⟩
  by_cases htD:t<D
  ·clear mi0 gh F9 F0 F1 r1 r2 hF hO1 a0 a1 a2 a3 a9
   have hle:(t+1)*(h+L)≤D*(h+L):=Nat.mul_le_mul_right _ (by omega)
   have hs1:(t+1)*(h+L)=t*(h+L)+(h+L):=Nat.succ_mul _ _
   have hn1:(t+1)*h=t*h+h:=Nat.succ_mul _ _
   have hn2:(t+2)*h≤N:=by rw[←hN];exact Nat.mul_le_mul_right _ (by omega)
   have hn3:(t+2)*h=(t+1)*h+h:=Nat.succ_mul _ _
   have hDW:D*(h+L)≤7200:=Nat.le_trans (Nat.mul_le_mul h7 (show h+L≤72 by omega)) (by decide)
   have wt:IntKind.i64.wrap ((t:Int)*(h:Int))=((t*h:Nat):Int):=by rw[←Int.natCast_mul,Ah (by omega) (by omega)]
   have wt1:=Co (k:=t) (by omega)
   have wth:IntKind.i64.wrap (((t+1:Nat):Int)*(h:Int))=(((t+1)*h:Nat):Int):=by rw[←Int.natCast_mul,Ah (by omega) (by omega)]
   have hol:∀j,(gO p N j).length=N:=fun j=>FM
   have hadd:∀(j:Nat) (S:Store) (u v:Nat) (x y:Int),j<D*(h+L)→p j=(u,v,x,y)→MkI ob M (gA p j) (gO p N j) (List.replicate N 0) (us.map tkE) S →
     A8 OX OV QZ [gP M,I (u:Nat),I (v:Nat),I x,I y] S=some (.tuple [],⟨aO S.obj M u v ((gA p j).length / 2+1) (Gf (gA p j) u v x y) (EJ (gO p N j) u v (gA p j).length) (List.replicate N 0),S.next⟩) ∧
     MkI ob M (gA p (j+1)) (gO p N (j+1)) (List.replicate N 0) (us.map tkE) ⟨aO S.obj M u v ((gA p j).length / 2+1) (Gf (gA p j) u v x y) (EJ (gO p N j) u v (gA p j).length) (List.replicate N 0),S.next⟩:=by
    intro j S u v x y hj hpj hI
    have q:=hpo j hj
    rw [hpj]at q
    dsimp only at q
    obtain ⟨b1,b2,b3,b4,b5,b6⟩:=q
    have c1:=Yd (p:=p) (N:=N) (n:=j) (fun i hi=>hpo i (by omega))
    have c2:=c1 u
    have c3:=c1 v
    have hAl:=CE (p:=p) (n:=j)
    refine ⟨Al8 (gA p j) (gO p N j) (List.replicate N 0) ⟨hI.gr,?_,?_,b3,?_,?_,?_,?_,?_,?_,?_⟩,?_⟩
    all_goals (try dsimp only)
    ·rw [hol];exact b1
    ·rw [hol];exact b2
    ·exact hI.nx
    ·omega
    ·omega
    ·omega
    ·omega
    ·omega
    ·omega
    ·rw [gA,gO,hpj]
     exact MkI.add (O:=S.obj) (nx:=S.next) hI r0 (by rw[hol];exact b1) (by rw[hol];exact b2) b3
   simp only[↓bdD,bdP,seval,ty3,AI,Hu,GQ,h56,htD]
   refine Aw [14,61,62,63,64,65,66,67,68,69,70,71,72,73,74,75,76,77,78,79] h (fun x ρ st'=>ρ 61=I x∧MkI ob M (gA p (t*(h+L)+x)) (gO p N (t*(h+L)+x)) (List.replicate N 0) (us.map tkE) st') (.refl _) ?_ ?_
   ·simp only[↓bdD,bdP]
    exact hI
   clear hI
   rintro x ρ6 ⟨O4,n4⟩ hxh ⟨h61,hI⟩
   by_cases hx:x<h
   ·have wx:=Co (k:=x) (by omega)
    have wx1:IntKind.i64.wrap (((t*h:Nat):Int)+(x:Int))=((t*h+x:Nat):Int):=by rw[←Int.natCast_add,Ah (by omega) (by omega)]
    have wx2:IntKind.i64.wrap ((((t+1)*h:Nat):Int)+(x:Int))=(((t+1)*h+x:Nat):Int):=by rw[←Int.natCast_add,Ah (by omega) (by omega)]
    obtain ⟨sp,hI2⟩:=hadd (t*(h+L)+x) ⟨O4,n4⟩ (t*h+x) ((t+1)*h+x) 1099511627776 0 (by omega) (ph t x hx) hI
    unfold gP at sp
    dsimp only at sp hI2
    simp only[↓bdD,bdP,seval,ty3,AI,Hu,U9,Mk,GQ,YY,h61,hx,wx,wt,wt1,wth,wx1,wx2,sp]
    exact hI2
   have e:x=h:=by omega
   rw [e]at h61 hI
   have hI:MkI ob M (gA p (t*(h+L)+(h+0))) (gO p N (t*(h+L)+(h+0))) (List.replicate N 0) (us.map tkE) ⟨O4,n4⟩:=hI
   simp only[↓bdD,bdP,seval,BP,AI,Hu,GQ,h61,hL]
   refine Aw [15,16,17,83,84,85,86,87,88,89,90,91,92,93,94,95,96,97,98,99,100,101,102,103,104,105,106,107,108,109,110,111,112,113,114,115,116,117,118,119,120,121,122,123,124,125,126,127] L (fun k ρ st'=>ρ 83=I k∧MkI ob M (gA p (t*(h+L)+(h+k))) (gO p N (t*(h+L)+(h+k))) (List.replicate N 0) (us.map tkE) st') (.refl _) ?_ ?_
   ·simp only[↓bdD,bdP]
    exact hI
   clear hI
   rintro k ρ7 ⟨O5,n5⟩ hkL ⟨h83,hI⟩
   by_cases hk:k<L
   ·have wk:=Co (k:=k) (by omega)
    have hkl:k<ls.length:=by omega
    have hmp:=hI.mp
    have hnx:=hI.nx
    dsimp only at hmp hnx
    rw [hol]at hnx
    have hend:=ok.net.ends k hkl
    have hfs:=G1 hft (k:=(k:Int)) (t:=dr+(t:Int)) ⟨by omega,by omega⟩
    have hcb:=Gs ok.net (link:=(k:Int)) (tick:=dr+(t:Int)) (by omega) (by omega)
    have hpe:=pl t k hk
    have hget:=Yq ok (a:=(k:Int)) (b:=dr+(t:Int))
    have hkey:=GZ (a:=(k:Int)) (b:=dr+(t:Int)) (by omega) (by omega)
    have hnl:=Cb hkl
    have w4:IntKind.i64.wrap (dr+(t:Int))=dr+(t:Int):=Ah (by omega) (by omega)
    have h24:=MA (t:=dr+(t:Int)) (by omega)
    unfold CJ at hpe hcb hfs
    unfold Df at hpe
    rw [Int.toNat_natCast]at hpe hcb hfs
    have hlt24:(dr+(t:Int)).toNat % 24<24:=Nat.mod_lt _ (by omega)
    have hli24:(((dr+(t:Int)).toNat % 24:Nat):Int)<24:=by omega
    generalize (dr+(t:Int)).toNat % 24=hr at *
    have hc1:=Fm (a:=ls.getD k dL) hlt24
    have hc2:=Hw (a:=ls.getD k dL) hlt24
    generalize hlk:ls.getD k dL=lk at *
    generalize Bg us (k:Int) (dr+(t:Int)) us.length=sn at *
    obtain ⟨cp,hcp⟩:∃c,EY lk hr=c:=⟨_,rfl⟩
    obtain ⟨pc,hpc⟩:∃c,Ge lk hr=c:=⟨_,rfl⟩
    rw [hcp]at hpe hcb hfs hc1
    rw [hpc]at hpe hc2
    obtain ⟨fu,hfu⟩:∃u,lk.1.toNat=u:=⟨_,rfl⟩
    obtain ⟨fv,hfv⟩:∃u,lk.2.1.toNat=u:=⟨_,rfl⟩
    have hf1:lk.1=(fu:Int):=by omega
    have hf2:lk.2.1=(fv:Int):=by omega
    rw [hfu,hfv]at hpe
    have wx1:IntKind.i64.wrap (((t*h:Nat):Int)+(fu:Int))=((t*h+fu:Nat):Int):=by rw[←Int.natCast_add,Ah (by omega) (by omega)]
    have wx2:IntKind.i64.wrap ((((t+1)*h:Nat):Int)+(fv:Int))=(((t+1)*h+fv:Nat):Int):=by rw[←Int.natCast_add,Ah (by omega) (by omega)]
    have w5:IntKind.i64.wrap (cp-sn)=cp-sn:=Ah (by omega) (by omega)
    have hIh:=(hI.high (x:=some (.arr 0 50 [.agg (lkC lk)])) r0)
    have hlk0:=If (a:=lk)
    have hlk1:=OQ (a:=lk)
    rw [hf1]at hlk0
    rw [hf2]at hlk1
    have d1:¬M+3=n5:=by omega
    have d2:¬n5=M+3:=by omega
    obtain ⟨sp,hI2⟩:=hadd (t*(h+L)+(h+k)) ⟨Ab O5 n5 (some (.arr 0 50 [.agg (lkC lk)])),n5+1⟩ (t*h+fu) ((t+1)*h+fv) (cp-sn) pc (by omega) hpe hIh
    unfold gP at sp
    dsimp only at sp hI2
    simp only[↓bdD,bdP,seval,Store.new,Store.set,ty3,BP,AI,AX,OG,CI,OH,qN,Hu,U9,Mk,OE,GQ,YY,h83,hk,wk,wt,wt1,wth,wx1,wx2,w4,w5,h24,hli24,hmp,hget,hkey,hnl,hc1,hc2,hlk0,hlk1,d1,BJ,CT,hkl,Av,sp,Nat.mul_one]
    exact hI2
   have e:k=L:=by omega
   rw [e]at h83 hI
   simp only[↓bdD,bdP,seval,Hu,h56,h83,wt1]
   refine ⟨?_,by rw[hs1];exact hI⟩
   rw [AL (by decide +kernel)]
   simp only[↓bdD,bdP,Nat.reduceBEq]
   rw [AL (by decide +kernel)]
   simp only[↓bdD,bdP,Nat.reduceBEq]
  ·have e:t=D:=by omega
   subst e
   simp only[↓bdD,bdP,seval,Ao,Hu,h56]
   rw [←hR1,←hR2]
   exact Acu h1 hI.gr hI.fr FM
noncomputable def e_make:Nat×Ent:=(68,.x (A8 Kq Kr EZ))
theorem tB:AM Tryz.prog e_make.1 e_make.2:=Ft fun _ _ hx=>Aiv hx
theorem Aiw (a b:GM) (st:Store) (h:Kq a=Kq b) (hx:Kr a st) (hy:Kr b st):EZ a st=EZ b st:=by
 obtain ⟨h1,D1,ls1,us1,⟨df1,dt1,db1,dr1,dd1⟩⟩:=a
 obtain ⟨h2,D2,ls2,us2,⟨df2,dt2,db2,dr2,dd2⟩⟩:=b
 simp only[Kq,List.cons.injEq,and_true,PV.agg.injEq,PV.int.injEq,PV.lits.injEq,AD,AF,true_and]at h
 obtain ⟨⟨e1,e2⟩,e3,e4,e5,e6,e7,e8⟩:=h
 have e1:h1=h2:=by omega
 have a4:=hx.2.2.2.1
 have b4:=hy.2.2.2.1
 dsimp only at a4 b4
 have e9:D1=D2:=by omega
 subst e1;subst e2;subst e3;subst e4;subst e5;subst e6;subst e7;subst e8;subst e9
 rfl
theorem Aix (x:GM) {st:Store} (h:Kr x st):A8 Kq Kr EZ [rG ((x.h:Nat),x.ls),Ay x.us,DY x.d] st=some (EZ x st):=Ba Aiw (i:=x) h
theorem Amd {ob:Nat→Option IObj} {M N:Nat} {A:List Arc} {out:List (List Nat)} (ho:out.length=N):GrAt M A out (List.replicate N 0) (mkO ob M A out N):=by
 refine ⟨?_,?_,?_,?_,fun u hu=>?_⟩ <;> unfold mkO
 ·rw [if_pos rfl]
 ·rw [if_neg (by omega),if_pos rfl]
 ·rw [if_neg (by omega),if_neg (by omega),if_pos rfl]
 ·rw [if_neg (by omega),if_neg (by omega),if_neg (by omega),if_pos rfl]
 ·rw [if_neg (by omega),if_neg (by omega),if_neg (by omega),if_neg (by omega),if_pos (by omega),show M+5+u-(M+5)=u by omega]
end Sim
