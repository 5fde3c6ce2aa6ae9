/- What functions of this seat compute, by values: contracts (lemmas of the statement's proof, under the conditions that each names). -/
import Derived.Test.YtppljhpecoeakaaQXQ
import Derived.Test.YtppljhpecoeakaaQXM
set_option linter.unusedVariables false
set_option linter.unusedSimpArgs false
namespace Sim
theorem Jl {P:Nat→Prop} [DecidablePred P] {a:Nat} {v:Int}:∀ {n},Aj (fun x=>if P x then (if a=x then v else 0)else 0) n=if a<n∧P a then v else 0
 | 0=>by simp[Aj]
 | n+1=>by
  rw [Aj,Jl]
  by_cases c:a=n
  ·subst c
   rw [if_neg (fun g=>by omega),if_pos rfl]
   by_cases p:P a
   ·rw [if_pos p,if_pos ⟨by omega,p⟩];omega
   ·rw [if_neg p,if_neg (fun g=>p g.2)];rfl
  ·have e:(if P n then (if a=n then v else 0)else 0)=0:=by rw[if_neg c];split <;> rfl
   rw [e,Int.add_zero]
   by_cases c2:a<n∧P a
   ·rw [if_pos c2,if_pos ⟨by omega,c2.2⟩]
   ·rw [if_neg c2,if_neg (fun g=>c2 ⟨by omega,g.2⟩)]
def Q8 (T:TN) (D:Nat) (S:Nat→Nat→Prop) [∀t x,Decidable (S t x)] (f:Nat→Nat→Int):Int:=Aj (fun t=>Aj (fun k=>if S t (T.fr k)∧¬S (t+1) (T.to k)then f k t else 0) T.L) D
theorem T6 {T:TN} {D a c:Nat} {b:Int} {g:Nat→Nat→Int} (ok:T.OK D) (P:T.Plan D a c b g) (ha:a<T.h) (S:Nat→Nat→Prop) [∀t x,Decidable (S t x)] (h0:S 0 a) (hD:∀x,x<T.h→S D x→x≠c) (hm:∀t x,S t x→S (t+1) x) (hb:0≤b):b≤Q8 T D S T.lf:=by
 have key:∀t,t≤D→b≤Aj (fun x=>if S t x then T.stk a b g t x else 0) T.h+Q8 T t S g:=by
  intro t ht
  induction t with
  | zero =>
   have := Fw (f:=fun x=>if S 0 x then T.stk a b g 0 x else 0) (n:=T.h) (fun i hi=>by rw[TN.stk];split <;> (try split) <;> omega) ha
   rw [if_pos h0,TN.stk,if_pos rfl]at this
   have e:Q8 T 0 S g=0:=rfl
   omega
  | succ t ih =>
   have ih:=ih (by omega)
   have e1:Q8 T (t+1) S g=Q8 T t S g+Aj (fun k=>if S t (T.fr k)∧¬S (t+1) (T.to k)then g k t else 0) T.L:=rfl
   have e2:Aj (fun x=>if S (t+1) x then T.stk a b g (t+1) x else 0) T.h=Aj (fun x=>if S (t+1) x then T.stk a b g t x-T.outF g x t else 0) T.h+Aj (fun x=>if S (t+1) x then T.inF g x t else 0) T.h:=by
    rw [←BK]
    exact Af fun x _=>by
     rw [TN.stk]
     split <;> omega
   have e3:Aj (fun x=>if S t x then T.stk a b g t x else 0) T.h=Aj (fun x=>if S t x then T.stk a b g t x-T.outF g x t else 0) T.h+Aj (fun x=>if S t x then T.outF g x t else 0) T.h:=by
    rw [←BK]
    exact Af fun x _=>by
     split <;> omega
   have e4:Aj (fun x=>if S t x then T.stk a b g t x-T.outF g x t else 0) T.h≤Aj (fun x=>if S (t+1) x then T.stk a b g t x-T.outF g x t else 0) T.h:=Ct fun x hx=>by
    have := P.st t x (by omega) hx
    by_cases c:S t x
    ·rw [if_pos c,if_pos (hm t x c)];exact Int.le_refl _
    ·rw [if_neg c];split <;> omega
   have e5:Aj (fun x=>if S t x then T.outF g x t else 0) T.h=Aj (fun k=>if S t (T.fr k)then g k t else 0) T.L:=by
    have : (fun x=>if S t x then T.outF g x t else 0)=fun x=>Aj (fun k=>if S t x then (if T.fr k=x then g k t else 0)else 0) T.L:=by
     funext x
     by_cases c:S t x
     ·simp only[if_pos c];rfl
     ·simp only[if_neg c];exact (A3 fun _ _=>rfl).symm
    rw [this,DE]
    refine Af fun k hk=>?_
    rw [Jl (P:=fun x=>S t x)]
    have :=(ok.e k hk).1
    by_cases c:S t (T.fr k)
    ·rw [if_pos ⟨this,c⟩,if_pos c]
    ·rw [if_neg (fun g=>c g.2),if_neg c]
   have e6:Aj (fun x=>if S (t+1) x then T.inF g x t else 0) T.h=Aj (fun k=>if S (t+1) (T.to k)then g k t else 0) T.L:=by
    have : (fun x=>if S (t+1) x then T.inF g x t else 0)=fun x=>Aj (fun k=>if S (t+1) x then (if T.to k=x then g k t else 0)else 0) T.L:=by
     funext x
     by_cases c:S (t+1) x
     ·simp only[if_pos c];rfl
     ·simp only[if_neg c];exact (A3 fun _ _=>rfl).symm
    rw [this,DE]
    refine Af fun k hk=>?_
    rw [Jl (P:=fun x=>S (t+1) x)]
    have :=(ok.e k hk).2
    by_cases c:S (t+1) (T.to k)
    ·rw [if_pos ⟨this,c⟩,if_pos c]
    ·rw [if_neg (fun g=>c g.2),if_neg c]
   have e7:Aj (fun k=>if S t (T.fr k)then g k t else 0) T.L≤Aj (fun k=>if S (t+1) (T.to k)then g k t else 0) T.L+Aj (fun k=>if S t (T.fr k)∧¬S (t+1) (T.to k)then g k t else 0) T.L:=by
    rw [←BK]
    refine Ct fun k hk=>?_
    have nn:=P.nn k t hk (by omega)
    by_cases c1:S t (T.fr k)
    ·by_cases c2:S (t+1) (T.to k)
     ·rw [if_pos c1,if_pos c2,if_neg (fun g=>g.2 c2)];omega
     ·rw [if_pos c1,if_neg c2,if_pos ⟨c1,c2⟩];omega
    ·have c3:¬(S t (T.fr k)∧¬S (t+1) (T.to k)):=fun g=>c1 g.1
     rw [if_neg c1,if_neg c3];split <;> omega
   omega
 have h1:=key D (Nat.le_refl _)
 rw [A3 fun x hx=>by
  by_cases c:S D x
  ·rw [if_pos c,P.en x hx,if_neg (fun e=>hD x hx c e.symm)]
  ·rw [if_neg c]]at h1
 have h2:Q8 T D S g≤Q8 T D S T.lf:=Ct fun t ht=>Ct fun k hk=>by
  split
  ·exact P.le k t hk ht
  ·exact Int.le_refl _
 omega
def Gc (T:TN) (f:Nat→Int) (k t:Nat):Int:=f (t*T.L+k)
def HU (T:TN) (D:Nat) (f:Nat→Int) (x t:Nat):Int:=f (D*T.L+(t*T.h+x))
abbrev FNB (T:TN) (D a c:Nat):FN:=fnP (qB T D) ((D+1)*T.h) (D*T.L+D*T.h) a (D*T.h+c)
namespace TN
variable {T:TN} {D:Nat}
theorem Q9 {t k:Nat} (ht:t<D) (hk:k<T.L):qB T D (t*T.L+k)=(t*T.h+T.fr k,(t+1)*T.h+T.to k,T.lf k t,0):=by
 unfold qB
 rw [if_pos (row_lt ht hk),(row_idx hk).1,(row_idx hk).2]
theorem qB_house {t x:Nat} (hx:x<T.h):qB T D (D*T.L+(t*T.h+x))=(t*T.h+x,(t+1)*T.h+x,1152921504606846976,0):=by
 unfold qB
 rw [if_neg (by omega),show D*T.L+(t*T.h+x)-D*T.L=t*T.h+x by omega]
 have : (t+1)*T.h=t*T.h+T.h:=Nat.succ_mul _ _
 rw [this,show t*T.h+x+T.h=t*T.h+T.h+x by omega]
theorem Aak (ok:T.OK D) {a c:Nat} {f:Nat→Int} {t x:Nat} (hx:x<T.h):(FNB T D a c).net f (t*T.h+x)=(if t<D then HU T D f x t+T.outF (Gc T f) x t else 0)-(if 0<t∧t-1<D then HU T D f x (t-1)+T.inF (Gc T f) x (t-1)else 0):=by
 have e1:∀t',t'<D→Aj (fun j=>(if (qB T D (D*T.L+(t'*T.h+j))).1=t*T.h+x then f (D*T.L+(t'*T.h+j))else 0)-(if (qB T D (D*T.L+(t'*T.h+j))).2.1=t*T.h+x then f (D*T.L+(t'*T.h+j))else 0)) T.h=(if t'=t then HU T D f x t' else 0)-(if t'+1=t then HU T D f x t' else 0):=fun t' ht'=>by
  rw [Af (g:=fun j=>(if j=x then (if t'=t then HU T D f j t' else 0)else 0)-(if j=x then (if t'+1=t then HU T D f j t' else 0)else 0)) (fun j hj=>by
   rw [qB_house hj]
   dsimp only
   have n1:=De (t:=t) (t':=t') hx hj
   have n2:=De (t:=t) (t':=t'+1) hx hj
   by_cases c1:j=x
   ·subst c1
    simp only[n1,n2,and_true,if_true];rfl
   ·simp only[n1,n2,c1,and_false,if_false]),B0,CA,CA,if_pos hx,if_pos hx]
 have e2:∀t',t'<D→Aj (fun k=>(if (qB T D (t'*T.L+k)).1=t*T.h+x then f (t'*T.L+k)else 0)-(if (qB T D (t'*T.L+k)).2.1=t*T.h+x then f (t'*T.L+k)else 0)) T.L=(if t'=t then T.outF (Gc T f) x t' else 0)-(if t'+1=t then T.inF (Gc T f) x t' else 0):=fun t' ht'=>by
  rw [Af (g:=fun k=>(if t'=t then (if T.fr k=x then Gc T f k t' else 0)else 0)-(if t'+1=t then (if T.to k=x then Gc T f k t' else 0)else 0)) (fun k hk=>by
   rw [Q9 ht' hk]
   dsimp only
   obtain ⟨q1,q2⟩:=ok.e k hk
   have n1:=De (t:=t) (t':=t') hx q1
   have n2:=De (t:=t) (t':=t'+1) hx q2
   simp only[n1,n2]
   unfold Gc
   by_cases c1:t'=t <;> by_cases c2:t'+1=t <;> simp[c1,c2]),B0]
  unfold outF inF
  congr 1
  ·by_cases c1:t'=t
   ·simp only[if_pos c1]
   ·simp only[if_neg c1];exact A3 fun _ _=>rfl
  ·by_cases c1:t'+1=t
   ·simp only[if_pos c1]
   ·simp only[if_neg c1];exact A3 fun _ _=>rfl
 have : (FNB T D a c).net f (t*T.h+x)=Aj (fun t'=>(if t'=t then HU T D f x t'+T.outF (Gc T f) x t' else 0)-(if t'+1=t then HU T D f x t'+T.inF (Gc T f) x t' else 0)) D:=by
  show Aj _ (D*T.L+D*T.h)=_
  rw [Da,DH,DH,←BK]
  refine Af fun t' ht'=>?_
  have h1:=e1 t' ht'
  have h2:=e2 t' ht'
  refine (show _+_=_ from ?_)
  refine Eq.trans (congr (congrArg _ h2) h1) ?_
  by_cases c1:t'=t <;> by_cases c2:t'+1=t <;> simp[c1,c2] <;> omega
 rw [this,B0,CA (g:=fun t'=>HU T D f x t'+T.outF (Gc T f) x t')]
 congr 1
 by_cases c:0<t
 ·rw [Af (g:=fun t'=>if t'=t-1 then HU T D f x t'+T.inF (Gc T f) x t' else 0) (fun t' _=>by
   by_cases c1:t'+1=t
   ·rw [if_pos c1,if_pos (by omega)]
   ·rw [if_neg c1,if_neg (by omega)]),CA (g:=fun t'=>HU T D f x t'+T.inF (Gc T f) x t')]
  simp [c]
 ·rw [A3 (fun t' _=>by rw[if_neg (by omega)]),if_neg (fun g=>c g.1)]
theorem qP {t x:Nat} (ht:t<D) (hx:x<T.h):D*T.L+(t*T.h+x)<D*T.L+D*T.h:=by
 have := row_lt ht hx
 omega
theorem qQ {t k:Nat} (ht:t<D) (hk:k<T.L):t*T.L+k<D*T.L+D*T.h:=by
 have := row_lt ht hk
 omega
theorem bflow_plan (ok:T.OK D) {a c:Nat} (ha:a<T.h) (hc:c<T.h) {f:Nat→Int} {b:Int} (hf:(FNB T D a c).Flow f b):T.Plan D a c b (Gc T f)∧∀t x,t<D→x<T.h→HU T D f x t≤T.stk a b (Gc T f) t x:=by
 have val:∀t x,t≤D→x<T.h→(if t<D then HU T D f x t+T.outF (Gc T f) x t else 0)-(if 0<t∧t-1<D then HU T D f x (t-1)+T.inF (Gc T f) x (t-1)else 0)=(if t=0∧a=x then b else 0)-(if D=t∧c=x then b else 0):=fun t x ht hx=>by
  rw [←Aak ok hx,hf.val _ (node_lt ht hx)]
  show (if a=t*T.h+x then b else 0)-(if D*T.h+c=t*T.h+x then b else 0)=_
  have n2:=De (t:=t) (t':=D) hx hc
  simp only[src_eq ha hx,n2]
 have key:∀t x,t<D→x<T.h→HU T D f x t+T.outF (Gc T f) x t=T.stk a b (Gc T f) t x:=by
  intro t x ht hx
  induction t with
  | zero =>
   have := val 0 x (by omega) hx
   rw [if_pos ht,if_neg (fun g=>absurd g.1 (by omega)),if_neg (show ¬(D=0∧c=x) from fun g=>by omega)]at this
   simp only[true_and]at this
   rw [stk];omega
  | succ t ih =>
   have ih:=ih (by omega)
   have := val (t+1) x (by omega) hx
   rw [if_pos ht,if_pos ⟨by omega,by omega⟩,if_neg (fun g=>by omega),if_neg (fun g=>by omega),Nat.add_sub_cancel]at this
   rw [stk];omega
 have nn:∀k t,k<T.L→t<D→0≤Gc T f k t:=fun k t hk ht=>hf.nn _ (qQ ht hk)
 refine ⟨⟨nn,fun k t hk ht=>?_,fun t x ht hx=>?_,fun x hx=>?_⟩,fun t x ht hx=>?_⟩
 ·have := hf.le _ (qQ ht hk)
  have e:(FNB T D a c).cap (t*T.L+k)=T.lf k t:=by show (qB T D _).2.2.1=_;rw[Q9 ht hk]
  rw [e]at this
  exact this
 ·have h1:=key t x ht hx
  have h2:0≤HU T D f x t:=hf.nn _ (qP ht hx)
  omega
 ·cases D with
  | zero =>
   have := val 0 x (by omega) hx
   rw [if_neg (by omega),if_neg (fun g=>by omega)]at this
   simp only[true_and]at this
   rw [stk];omega
  | succ D =>
   have h1:=key D x (by omega) hx
   have := val (D+1) x (by omega) hx
   rw [if_neg (by omega),if_pos ⟨by omega,by omega⟩,if_neg (fun g=>by omega),Nat.add_sub_cancel]at this
   simp only[true_and]at this
   rw [stk];omega
 ·have h1:=key t x ht hx
  have h2:0≤T.outF (Gc T f) x t:=QD fun k hk=>nn k t hk ht
  omega
theorem bflow_top (ok:T.OK D) {a c:Nat} (ha:a<T.h) (hc:c<T.h) (hac:a≠c) {f:Nat→Int} {b:Int} (hf:(FNB T D a c).Flow f b) (hb:0≤b):b≤Aj (fun t=>Aj (fun k=>T.lf k t) T.L) D:=by
 have P:=(bflow_plan ok ha hc hf).1
 have := T6 ok P ha (fun t x=>x≠c) hac (fun x hx h=>h) (fun t x h=>h) hb
 refine Int.le_trans this (Ct fun t ht=>Ct fun k hk=>?_)
 split
 ·exact Int.le_refl _
 ·exact ok.lf k t hk ht
theorem cls_bar (ok:T.OK D) {a c:Nat} (ha:a<T.h) (hc:c<T.h) {f:Nat→Int} {b:Int} {S:Nat→Prop} [DecidablePred S] (h:Cls (FNB T D a c) f b S) (hb:0≤b) (hB:b<1152921504606846976) :
  (∀ t x,t<D→x<T.h→S (t*T.h+x)→S ((t+1)*T.h+x))∧Aj (fun i=>if S (i / T.L*T.h+T.fr (i % T.L))∧¬S ((i / T.L+1)*T.h+T.to (i % T.L))then T.lf (i % T.L) (i / T.L)else 0) (D*T.L)=b:=by
 obtain ⟨P,hw⟩:=bflow_plan ok ha hc h.flow
 have up:∀t x,t<D→x<T.h→S (t*T.h+x)→S ((t+1)*T.h+x):=fun t x ht hx hs=>by
  have q:=qB_house (T:=T) (D:=D) (t:=t) hx
  have := h.out (D*T.L+(t*T.h+x)) (qP ht hx) (by show S (qB T D _).1;rw[q];exact hs) (by
   show _<(qB T D _).2.2.1
   rw [q]
   have h1:=hw t x ht hx
   have h2:=P.stk_le ok ha ht hx
   show HU T D f x t<1152921504606846976
   omega)
  have : S (qB T D (D*T.L+(t*T.h+x))).2.1:=this
  rwa [q]at this
 refine ⟨up,?_⟩
 have wf:(FNB T D a c).WF:=QC (qB_ok ok) (by have:=node_lt (T:=T) (D:=D) (t:=0) (by omega) ha;omega) (node_lt (Nat.le_refl _) hc)
 have d:=FN.dual wf h.flow.val fun v=>if S v then 1 else 0
 rw [if_pos h.s,if_neg h.t]at d
 have e0:(FNB T D a c).m=D*T.L+D*T.h:=rfl
 rw [e0,Da]at d
 rw [A3 (f:=fun i=>((if S ((FNB T D a c).fr (D*T.L+i))then 1 else 0)-(if S ((FNB T D a c).to (D*T.L+i))then 1 else 0))*f (D*T.L+i)) (fun i hi=>by
  obtain ⟨h1,h2⟩:=idx_lt (i:=i) hi
  have e:i=i / T.h*T.h+i % T.h:=by rw[Nat.mul_comm];exact (Nat.div_add_mod i T.h).symm
  have q:=qB_house (T:=T) (D:=D) (t:=i / T.h) h2
  rw [←e]at q
  have hm:D*T.L+i<D*T.L+D*T.h:=by omega
  have u:=up (i / T.h) (i % T.h) h1 h2
  rw [←e]at u
  show ((if S (qB T D (D*T.L+i)).1 then 1 else 0)-(if S (qB T D (D*T.L+i)).2.1 then 1 else 0))*f (D*T.L+i)=0
  rw [q]
  dsimp only
  by_cases c1:S i
  ·rw [if_pos c1,if_pos (u c1)];simp
  ·rw [if_neg c1]
   by_cases c2:S ((i / T.h+1)*T.h+i % T.h)
   ·have f0:f (D*T.L+i)=0:=by
     have n0:=h.flow.nn _ hm
     have : ¬0<f (D*T.L+i):=fun g=>c1 (by
      have := h.inn _ hm (by show S (qB T D (D*T.L+i)).2.1;rw[q];exact c2) g
      have : S (qB T D (D*T.L+i)).1:=this
      rw [q]at this
      exact this)
     omega
    rw [f0];simp
   ·rw [if_neg c2];simp)]at d
 have d:Aj (fun i=>((if S (qB T D i).1 then 1 else 0)-(if S (qB T D i).2.1 then 1 else 0))*f i) (D*T.L)=b:=by
  have : (1-0)*b=b:=by simp
  rw [←this,←d,Int.add_zero]
  rfl
 rw [←d]
 refine Af fun i hi=>?_
 obtain ⟨h1,h2⟩:=idx_lt (i:=i) hi
 have e:i=i / T.L*T.L+i % T.L:=by rw[Nat.mul_comm];exact (Nat.div_add_mod i T.L).symm
 have q:=Q9 (T:=T) (D:=D) h1 h2
 rw [←e]at q
 have hm:i<D*T.L+D*T.h:=by omega
 have o:=h.out i hm
 have n:=h.inn i hm
 have n0:=h.flow.nn i hm
 have n1:=h.flow.le i hm
 have o:S (qB T D i).1→f i<(qB T D i).2.2.1→S (qB T D i).2.1:=o
 have n:S (qB T D i).2.1→0<f i→S (qB T D i).1:=n
 have n1:f i≤(qB T D i).2.2.1:=n1
 rw [q]at o n n1 ⊢
 dsimp only at o n n1 ⊢
 by_cases c1:S (i / T.L*T.h+T.fr (i % T.L)) <;> by_cases c2:S ((i / T.L+1)*T.h+T.to (i % T.L))
 ·rw [if_neg (fun g=>g.2 c2),if_pos c1,if_pos c2];simp
 ·have : ¬f i<T.lf (i % T.L) (i / T.L):=fun g=>c2 (o c1 g)
  rw [if_pos ⟨c1,c2⟩,if_pos c1,if_neg c2];omega
 ·have : ¬0<f i:=fun g=>c1 (n c2 g)
  rw [if_neg (fun g=>c1 g.1),if_neg c1,if_pos c2];omega
 ·rw [if_neg (fun g=>c1 g.1),if_neg c1,if_neg c2];simp
end TN
theorem Af3 {p:Nat→Arc} {N n s t:Nat} (h:J3 p N n) (hs:s<N) (ht:t<N) (hst:s≠t):∃f x S,Cls (fnP p N n s t) f x S∧0≤x:=by
 obtain ⟨C,hC⟩:∃C,Aj (fun i=>(p i).2.2.1) n=C:=⟨_,rfl⟩
 have hC0:0≤C:=by rw[←hC];exact Bp fun i hi=>(h i hi).2.2.2.1
 have S:=mR h hs ht hst
 have R:=Qr (bytes:=C+1) S
 obtain ⟨lv',S',h1,h2,h3,h4⟩:=WZ R S (by omega)
 generalize (C8 (gA p n) (gO p N n) (List.replicate N 0) N s t (C+1)).1=A at *
 generalize (C8 (gA p n) (gO p N n) (List.replicate N 0) N s t (C+1)).2=r at *
 obtain ⟨f1,f2,_⟩:=Qq S'
 rw [h4]at f2
 have f2:=fnA_flow.1 f2
 have hl:=S'.wp.len
 have hF:∀i,i<n→aF A (2*i)=(p i).1∧aT A (2*i)=(p i).2.1∧aL A (2*i)+aL A (2*i+1)=(p i).2.2.1:=fun i hi=>by
  have e1:aF A (2*i)=aF (gA p n) (2*i):=congrFun (congrArg FN.fr h4) i
  have e2:aT A (2*i)=aT (gA p n) (2*i):=congrFun (congrArg FN.to h4) i
  have e3:aL A (2*i)+aL A (2*i+1)=aL (gA p n) (2*i)+aL (gA p n) (2*i+1):=congrFun (congrArg FN.cap h4) i
  rw [e1,e2,e3,bG hi,bH hi,mO hi,J4 hi,Int.add_zero]
  exact ⟨rfl,rfl,rfl⟩
 have hrC:r≤C:=by
  have v:=f2.val s hs
  unfold FN.net at v
  have e1:(fnP p N n s t).s=s:=rfl
  have e2:(fnP p N n s t).t=t:=rfl
  rw [e1,e2,if_pos rfl,if_neg (fun g=>hst g.symm),Int.sub_zero]at v
  rw [←v,←hC]
  refine Ct fun i hi=>?_
  have n0:=f2.nn i hi
  have n1:flA A i≤(p i).2.2.1:=f2.le i hi
  split <;> split <;> omega
 have hn:=h3 (by omega)
 refine ⟨flA A,r,Rch A s,⟨f2,.src,hn,fun i hi h1 h2=>?_,fun i hi h1 h2=>?_,fun Z hs ho hi v hv=>?_⟩,h2⟩
 ·have hi:i<n:=hi
  have e:=hF i hi
  have h2:flA A i<(p i).2.2.1:=h2
  have h1:Rch A s (p i).1:=h1
  show Rch A s (p i).2.1
  rw [←e.2.1]
  exact .arc (2*i) (by omega) (by unfold flA at h2;omega) (by rw[e.1];exact h1)
 ·have hi:i<n:=hi
  have e:=hF i hi
  have h1:Rch A s (p i).2.1:=h1
  show Rch A s (p i).1
  rw [←e.1,←S'.wp.T i hi]
  exact .arc (2*i+1) (by omega) h2 (by rw[S'.wp.F i hi,e.2.1];exact h1)
 ·induction hv with
  | src=>exact hs
  | arc k hk hl2 _ ih =>
   rw [hl]at hk
   obtain ⟨i,him,e1 | e1⟩:=B5 hk
   ·subst e1
    have e:=hF i him
    rw [e.1]at ih
    rw [e.2.1]
    exact ho i him ih (by show aL A (2*i+1)<(p i).2.2.1;omega)
   ·subst e1
    have e:=hF i him
    rw [S'.wp.F i him,e.2.1]at ih
    rw [S'.wp.T i him,e.1]
    exact hi i him ih hl2
end Sim
namespace Sim
open Go Go.Proofs
noncomputable def T7 (hn:Int) (ls:List Lnk) (us:List Snd) (d:Dem):FN:=fnP (qB (Au hn ls us d) (An d)) (AO hn d) (An d*ls.length+An d*hn.toNat) d.1.toNat (An d*hn.toNat+d.2.1.toNat)
noncomputable def Jm (hn:Int) (ls:List Lnk) (us:List Snd) (d:Dem):List Int:=BA hn.toNat fun x=>frT (fun t=>NZ (T7 hn ls us d) (t*hn.toNat+x)) d.2.2.2.1 (d.2.2.2.2+1) (An d) (An d+1)
def Kk (hn:Int) (ls:List Lnk) (us:List Snd) (d:Dem):Int:=if CH hn ls us d≠0 then CH hn ls us d else if d.1=d.2.1 then 8 else 0
theorem Aal {hn:Int} {ls:List Lnk} {us:List Snd} {d:Dem} {ts:List Int}:Q8 (Au hn ls us d) (An d) (fun t y=>ts.getD y 0≤d.2.2.2.1+(t:Int)) (Au hn ls us d).lf=Iv ls us d ts (An d*ls.length):=by
 unfold Iv Q8
 rw [DH]
 refine Af fun t ht=>Af fun k hk=>?_
 have hk:k<ls.length:=hk
 obtain ⟨e1,e2⟩:=TN.row_idx (t:=t) hk
 rw [e1,e2]
 unfold brI
 have a1:(Au hn ls us d).fr k=(ls.getD k dL).1.toNat:=rfl
 have a2:(Au hn ls us d).to k=(ls.getD k dL).2.1.toNat:=rfl
 have a3:(Au hn ls us d).lf k t=lfM ls us (k:Nat) (d.2.2.2.1+(t:Int)):=rfl
 rw [a1,a2,a3]
 unfold tkA
 by_cases c:ts.getD (ls.getD k dL).1.toNat 0≤d.2.2.2.1+(t:Int)∧d.2.2.2.1+((t+1:Nat):Int)<ts.getD (ls.getD k dL).2.1.toNat 0
 ·rw [if_pos c,if_pos ⟨c.1,by have:=c.2;omega⟩]
 ·rw [if_neg c,if_neg (fun g=>c ⟨g.1,by have:=g.2;omega⟩)]
theorem qR {hn:Int} {ls:List Lnk} {us:List Snd} {d:Dem} {ts:List Int} (h:FG hn ls us d ts=0):IH hn ls us d≤Ga hn ls us d ts:=by
 unfold Ga
 rw [if_neg (fun g=>g h)]
 unfold FG at h
 split at h
 ·rename_i g;exact absurd h g
 rename_i h1
 have h1:CH hn ls us d=0:=Classical.byContradiction h1
 split at h
 ·cases h
 rename_i h2
 have hb:zW hn d ts:=Classical.byContradiction h2
 obtain ⟨hl,hb1,hb2⟩:=hb
 obtain ⟨hfk,hb4⟩:=pck_zero.1 h1
 obtain ⟨hf,hdm,hD,hdu⟩:=CC hfk
 obtain ⟨⟨a0,a1⟩,⟨c0,c1⟩,hr⟩:=B9 hdm
 obtain ⟨P,hm⟩:=QU hfk
 have ok:=Dq (us:=us) (r:=d.2.2.2.1) (D:=An d) hf
 rw [hm,←Aal (hn:=hn)]
 refine T6 ok P.plan (show d.1.toNat<hn.toNat by omega) (fun t y=>ts.getD y 0≤d.2.2.2.1+(t:Int)) ?_ (fun x hx hs e=>?_) (fun t x hs=>?_) P.n0
 ·show ts.getD d.1.toNat 0≤d.2.2.2.1+((0:Nat):Int)
  have : ts.getD d.1.toNat 0≤d.2.2.2.1:=hb1
  omega
 ·subst e
  have : d.2.2.2.2<ts.getD d.2.1.toNat 0:=hb2
  have hs:ts.getD d.2.1.toNat 0≤d.2.2.2.1+((An d:Nat):Int):=hs
  omega
 ·have hs:ts.getD x 0≤d.2.2.2.1+(t:Int):=hs
  show ts.getD x 0≤d.2.2.2.1+((t+1:Nat):Int)
  omega
theorem Aam {hn:Int} {ls:List Lnk} {us:List Snd} {d:Dem} (h1:CH hn ls us d=0) (h2:d.1≠d.2.1):FG hn ls us d (Jm hn ls us d)=0∧min (Ga hn ls us d (Jm hn ls us d)) 1099511627776=IH hn ls us d:=by
 classical
 obtain ⟨hfk,hb4⟩:=pck_zero.1 h1
 obtain ⟨hf,hdm,hD,hdu⟩:=CC hfk
 obtain ⟨⟨a0,a1⟩,⟨c0,c1⟩,hr⟩:=B9 hdm
 obtain ⟨oku,_⟩:=B8 hf
 have hll:=oku.net.len
 have ok:=Dq (us:=us) (r:=d.2.2.2.1) (D:=An d) hf
 have hG:T7 hn ls us d=FNB (Au hn ls us d) (An d) d.1.toNat d.2.1.toNat:=rfl
 have hL:Jm hn ls us d=BA hn.toNat fun x=>frT (fun t=>NZ (T7 hn ls us d) (t*hn.toNat+x)) d.2.2.2.1 (d.2.2.2.2+1) (An d) (An d+1):=rfl
 generalize Jm hn ls us d=ts at *
 have ha:d.1.toNat<(Au hn ls us d).h:=by show _<hn.toNat;omega
 have hc:d.2.1.toNat<(Au hn ls us d).h:=by show _<hn.toNat;omega
 have hac:d.1.toNat≠d.2.1.toNat:=by omega
 have hTh:(Au hn ls us d).h=hn.toNat:=rfl
 have hTL:(Au hn ls us d).L=ls.length:=rfl
 have hTf:∀k,(Au hn ls us d).fr k=(ls.getD k dL).1.toNat:=fun k=>rfl
 have hTt:∀k,(Au hn ls us d).to k=(ls.getD k dL).2.1.toNat:=fun k=>rfl
 have hTl:∀k t,(Au hn ls us d).lf k t=lfM ls us (k:Nat) (d.2.2.2.1+(t:Int)):=fun k t=>rfl
 obtain ⟨D,hDD⟩:∃D,An d=D:=⟨_,rfl⟩
 have hPO:=QU hfk
 rw [hDD]at hG hL ok hD hdu
 obtain ⟨P,hm⟩:=hPO
 have hpl:=P.plan
 have hmax:=P.max
 have hn1:=P.n1
 rw [hDD]at hmax
 rw [←hm]at hmax hn1
 have hbm:=@qR hn ls us d ts
 have hN1:d.1.toNat<(D+1)*(Au hn ls us d).h:=by
  have := TN.node_lt (T:=Au hn ls us d) (D:=D) (t:=0) (by omega) ha
  omega
 have hN2:D*(Au hn ls us d).h+d.2.1.toNat<(D+1)*(Au hn ls us d).h:=TN.node_lt (Nat.le_refl _) hc
 have hne:d.1.toNat≠D*(Au hn ls us d).h+d.2.1.toNat:=fun e=>hac ((TN.src_eq ha hc).1 e).2
 have hpo:=TN.qB_ok ok
 obtain ⟨f,x,S,hC,hx0⟩:=Af3 hpo hN1 hN2 hne
 have hS:∀v,NZ (T7 hn ls us d) v↔S v:=fun v=>by rw[hG];exact (hC.eq (QC hpo hN1 hN2) v).symm
 have hxB:x<1152921504606846976:=by
  have t1:x≤Aj (fun t=>Aj (fun k=>(Au hn ls us d).lf k t) (Au hn ls us d).L) D:=TN.bflow_top ok ha hc hac hC.flow hx0
  have t2:=HM (f:=fun t=>Aj (fun k=>(Au hn ls us d).lf k t) (Au hn ls us d).L) (n:=D) (B:=1073741824*60) fun t ht=>by
   have := HM (f:=fun k=>(Au hn ls us d).lf k t) (n:=(Au hn ls us d).L) (B:=1073741824) fun k hk=>by
    rw [hTl];exact Q2 hf hk
   rw [hTL]at this ⊢
   omega
  omega
 obtain ⟨up,hbar⟩:=TN.cls_bar ok ha hc hC hx0 hxB
 rw [hTL,hTh]at hbar
 have hfr:∀t y,t≤D→y<hn.toNat→(ts.getD y 0≤d.2.2.2.1+(t:Int)↔S (t*hn.toNat+y)):=fun t y ht hy=>by
  rw [hL,Fx hy,qO (P:=fun t=>NZ (T7 hn ls us d) (t*hn.toNat+y)) (by omega) (fun t ht hp=>(hS _).2 (up t y ht hy ((hS _).1 hp))) (D+1) (Nat.le_refl _) t ht (by omega)]
  exact hS _
 have hbE:FG hn ls us d ts=0:=by
  unfold FG
  rw [if_neg (fun g=>g h1),if_neg]
  intro g
  refine g ⟨?_,?_,?_⟩
  ·rw [hL,CE];omega
  ·have :=(hfr 0 d.1.toNat (by omega) ha).2 (by rw[Nat.zero_mul,Nat.zero_add];exact hC.s)
   unfold tkA
   omega
  ·have := mt (hfr D d.2.1.toNat (Nat.le_refl _) hc).1 hC.t
   unfold tkA
   omega
 have hbM:Ga hn ls us d ts=x:=by
  unfold Ga
  rw [if_neg (fun g=>g hbE),hDD,←hbar]
  unfold Iv
  refine Af fun i hi=>?_
  obtain ⟨i1,i2⟩:=TN.idx_lt (i:=i) hi
  have hend:=oku.net.ends (i % ls.length) i2
  have q1:=hfr (i / ls.length) (ls.getD (i % ls.length) dL).1.toNat (by omega) (by omega)
  have q2:=hfr (i / ls.length+1) (ls.getD (i % ls.length) dL).2.1.toNat (by omega) (by omega)
  unfold brI tkA
  rw [hTf,hTt,hTl]
  by_cases c1:S (i / ls.length*hn.toNat+(ls.getD (i % ls.length) dL).1.toNat)∧¬S ((i / ls.length+1)*hn.toNat+(ls.getD (i % ls.length) dL).2.1.toNat)
  ·rw [if_pos c1,if_pos ⟨q1.2 c1.1,by have:=mt q2.1 c1.2;omega⟩]
  ·rw [if_neg c1,if_neg]
   intro g
   exact c1 ⟨q1.1 g.1,fun h=>by have:=q2.2 h;have:=g.2;omega⟩
 refine ⟨hbE,?_⟩
 have hbm:=hbm hbE
 rw [hbM]at hbm ⊢
 obtain ⟨f1,_,f3,f4,f5,_⟩:=Wn hpo hN1 hN2 hne (bytes:=min x 1099511627776) (by omega)
 generalize (C8 (gA (qB (Au hn ls us d) D) (D*(Au hn ls us d).L+D*(Au hn ls us d).h)) (gO (qB (Au hn ls us d) D) ((D+1)*(Au hn ls us d).h) (D*(Au hn ls us d).L+D*(Au hn ls us d).h)) (List.replicate ((D+1)*(Au hn ls us d).h) 0) ((D+1)*(Au hn ls us d).h) d.1.toNat (D*(Au hn ls us d).h+d.2.1.toNat) (min x 1099511627776)).2=r at *
 have hr:r=min x 1099511627776:=by
  by_cases c:r<min x 1099511627776
  ·have := f5 c f x hC.flow
   omega
  ·omega
 have hp2:=(TN.bflow_plan ok ha hc f1).1
 by_cases c:IH hn ls us d<1099511627776
 ·have := hmax c _ _ (by omega) hp2
  omega
 ·omega
end Sim
namespace Sim
open Go Go.Proofs
section
variable {hn:Int} {ls:List Lnk} {us l l2:List Snd} {d:Dem} {y:List (List Int)}
theorem Wz (h:D4 hn ls us d y=0):CH hn ls us d=0∧shA hn d y∧shB hn y∧shC hn y:=by
 obtain ⟨h1,h2⟩:=X1 h
 unfold shE at h2
 split at h2
 ·cases h2
 ·rename_i c1
  split at h2
  ·cases h2
  ·rename_i c2
   split at h2
   ·cases h2
   ·rename_i c3
    exact ⟨h1,Classical.not_not.1 c1,Classical.not_not.1 c2,Classical.not_not.1 c3⟩
theorem Af4:Jg ls us d y (An d*ls.length)=(Au hn ls us d).bnd (An d) d.1.toNat d.2.1.toNat d.2.2.1 (pt y):=by
 unfold Jg TN.bnd
 rw [DH]
 congr 1
 refine Af fun t ht=>Af fun k hk=>?_
 have hk:k<ls.length:=hk
 obtain ⟨e1,e2⟩:=TN.row_idx (t:=t) hk
 rw [e1,e2]
 rfl
theorem T8 (h:D4 hn ls us d y=0):GC hn ls us d y=(Au hn ls us d).bnd (An d) d.1.toNat d.2.1.toNat d.2.2.1 (pt y):=by
 unfold GC
 rw [if_neg (fun g=>g h),Af4 (hn:=hn)]
theorem T9 (hf:Bz hn ls us=0):(∀k,k<(Au hn ls us d).L→(Au hn ls us d).fr k<(Au hn ls us d).h)∧∀k,k<(Au hn ls us d).L→(Au hn ls us d).to k<(Au hn ls us d).h:=by
 have ok:=Dq (us:=us) (r:=d.2.2.2.1) (D:=An d) hf
 exact ⟨fun k hk=>(ok.e k hk).1,fun k hk=>(ok.e k hk).2⟩
theorem Aan (h:D3 hn ls us d=0):Ww hn ls us (Df hn ls us d) d:=by
 obtain ⟨_,_,ho⟩:=F6 h
 exact ⟨ho.serves,ho.besides⟩
theorem Nv:(Ec hn ls us d).length=An d+1:=by unfold Ec;rw[List.length_map,List.length_range]
theorem Aao {t:Nat} (ht:t<An d+1):(Ec hn ls us d).getD t []=BA hn.toNat fun x=>min (GY hn ls us d t x) (GY hn ls us d (An d) d.2.1.toNat):=by
 unfold Ec
 rw [List.getD_eq_getElem?_getD,List.getElem?_map,List.getElem?_range ht]
 rfl
theorem GH {t x:Nat} (ht:t<An d+1) (hx:x<hn.toNat):pt (Ec hn ls us d) t x=min (GY hn ls us d t x) (GY hn ls us d (An d) d.2.1.toNat):=by
 unfold pt
 rw [Aao ht,Fx hx]
theorem Aap (h:D3 hn ls us d=0) (hb4:d.2.2.1≤4194304) (hN:AO hn d≤268):(Au hn ls us d).Fix (An d) d.1.toNat d.2.1.toNat d.2.2.1 (gS (Df hn ls us d) d.2.2.2.1) (GY hn ls us d) 536870912∧(∀t x,t≤An d→x<hn.toNat→0≤GY hn ls us d t x):=by
 obtain ⟨hck,e2,ho⟩:=F6 h
 obtain ⟨hf,hd,hD,hdu⟩:=CC hck
 obtain ⟨⟨a0,a1⟩,⟨c0,c1⟩,hr⟩:=B9 hd
 obtain ⟨lam,PH⟩:=K2 h hb4
 have ok:=Dq (us:=us) (r:=d.2.2.2.1) (D:=An d) hf
 have hle:=PH.le
 have hch:d.2.1.toNat<hn.toNat:=by omega
 obtain ⟨_,hFix,hnn⟩:=TN.prv_ok (T:=Au hn ls us d) (D:=An d) (a:=d.1.toNat) (c:=d.2.1.toNat) (b:=d.2.2.1) (mx:=536870912) (far:=268435456) PH.ok PH.nn (by rw[PH.l0];exact Int.le_refl _) (by have:=hle (An d) d.2.1.toNat (Nat.le_refl _) hch;omega) (fun t x ht hx=>by have:=hle t x ht hx;omega) (by decide) (by decide) (fun k t hk ht=>(ok.pr k t hk ht).1) (fun t x ht hx=>rfl) hch
 exact ⟨hFix,hnn⟩
theorem Aaq (h1:CH hn ls us d=0) (h:D3 hn ls us d=0) (hN:AO hn d≤268):D4 hn ls us d (Ec hn ls us d)=0∧GC hn ls us d (Ec hn ls us d)=FW hn ls (Df hn ls us d)∧Q1 hn ls us d (Df hn ls us d) (Ec hn ls us d):=by
 obtain ⟨hfk,hb4⟩:=pck_zero.1 h1
 obtain ⟨hck,e2,ho⟩:=F6 h
 obtain ⟨hf,hd,hD,hdu⟩:=CC hck
 obtain ⟨⟨a0,a1⟩,⟨c0,c1⟩,hr⟩:=B9 hd
 obtain ⟨oku,_⟩:=B8 hf
 have hhn:=oku.net.houses
 have hr0:=hr.1
 have hr2:=hr.2.2.1
 have hr4:=hr.2.2.2.1
 obtain ⟨hfr,hto⟩:=T9 (d:=d) hf
 obtain ⟨F,nn⟩:=Aap h hb4 hN
 obtain ⟨lam,PH⟩:=K2 h hb4
 have hch:d.2.1.toNat<hn.toNat:=by omega
 have hA:shA hn d (Ec hn ls us d):=by
  refine ⟨by rw[Nv];omega,fun r hrm=>?_⟩
  unfold Ec at hrm
  obtain ⟨t,_,rfl⟩:=List.mem_map.1 hrm
  rw [CE];omega
 have hB:shB hn (Ec hn ls us d):=fun t ht x hx=>by
  rw [Nv]at ht
  rw [GH ht hx]
  have n1:=nn t x (by omega) hx
  have n2:=nn (An d) d.2.1.toNat (Nat.le_refl _) hch
  have n3:=F.le t x (by omega) hx
  omega
 have hC:shC hn (Ec hn ls us d):=fun t ht x hx=>by
  rw [Nv]at ht
  rw [GH (by omega) hx,GH (by omega) hx]
  have := F.mono t x (by omega) hx
  omega
 have hE:D4 hn ls us d (Ec hn ls us d)=0:=by
  unfold D4 shE
  rw [if_neg (fun g=>g h1),if_neg (fun g=>g hA),if_neg (fun g=>g hB),if_neg (fun g=>g hC)]
 have tight:=F.tight PH.plan hfr hto
 have heq:=TN.bnd_eq PH.plan hfr hto (show d.1.toNat<hn.toNat by omega) hch (show 0≤d.2.2.1 by omega) tight
 have hb:(Au hn ls us d).bnd (An d) d.1.toNat d.2.1.toNat d.2.2.1 (pt (Ec hn ls us d))=(Au hn ls us d).bnd (An d) d.1.toNat d.2.1.toNat d.2.2.1 fun t x=>min (GY hn ls us d t x) (GY hn ls us d (An d) d.2.1.toNat):=by
  unfold TN.bnd
  rw [GH (by omega) hch,GH (by omega) (show d.1.toNat<hn.toNat by omega)]
  congr 1
  refine Af fun t ht=>Af fun k hk=>?_
  unfold TN.exc
  rw [GH (by omega) (hto k hk),GH (by omega) (hfr k hk)]
 have hM:GC hn ls us d (Ec hn ls us d)=FW hn ls (Df hn ls us d):=by
  rw [T8 hE,hb,heq,ho.cost]
  exact TN.cst_congr fun k t hk ht=>ho.sent k t hk ht
 exact ⟨hE,hM,hE,Aan h,by rw[hM];exact Int.le_refl _⟩
end
end Sim
