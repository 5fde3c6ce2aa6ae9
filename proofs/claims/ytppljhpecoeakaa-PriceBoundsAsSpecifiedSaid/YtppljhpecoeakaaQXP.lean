/- What functions of this seat compute, by values: contracts (lemmas of the statement's proof, under the conditions that each names). -/
import Derived.Test.YtppljhpecoeakaaQF9
set_option linter.unusedVariables false
set_option linter.unusedSimpArgs false
namespace Sim
theorem C7 {f:Nat→Int} {a:Nat}:∀ {b},Aj f (a+b)=Aj f a+Aj (fun i=>f (a+i)) b
 | 0=>by simp[Aj]
 | b+1=>by rw[←Nat.add_assoc,Aj,C7,Aj];omega
theorem DG {f:Nat→Int} {W:Nat}:∀ {D},Aj f (D*W)=Aj (fun t=>Aj (fun j=>f (t*W+j)) W) D
 | 0=>by rw[Nat.zero_mul];rfl
 | D+1=>by rw[Nat.succ_mul,C7,DG,Aj]
theorem Cy {g:Nat→Int} {a:Nat}:∀ {n},Aj (fun i=>if i=a then g i else 0) n=if a<n then g a else 0
 | 0=>by simp[Aj]
 | n+1=>by
  rw [Aj,Cy]
  by_cases c:n=a
  ·subst c;rw[if_neg (by omega),if_pos rfl,if_pos (by omega)];omega
  ·rw [if_neg c]
   by_cases c2:a<n
   ·rw [if_pos c2,if_pos (by omega)];omega
   ·rw [if_neg c2,if_neg (by omega)];rfl
theorem Fq {f:Nat→Int} {k:Nat}:∀ {n},(∀i,i<n→0≤f i)→k<n→f k≤Aj f n
 | 0,_,h=>absurd h (by omega)
 | n+1,h,hk=>by
  have h0:=Bp (f:=f) (n:=n) fun i hi=>h i (by omega)
  rw [Aj]
  by_cases c:k=n
  ·subst c;omega
  ·have := Fq (f:=f) (n:=n) (fun i hi=>h i (by omega)) (show k<n by omega)
   have := h n (by omega)
   omega
theorem Dd {h t x t' x':Nat} (hx:x<h) (hx':x'<h):t'*h+x'=t*h+x↔t'=t∧x'=x:=by
 constructor
 ·intro e
  have h1:(t'*h+x') / h=t':=by rw[Nat.mul_comm,Nat.mul_add_div (by omega),Nat.div_eq_of_lt hx'];omega
  have h2:(t*h+x) / h=t:=by rw[Nat.mul_comm,Nat.mul_add_div (by omega),Nat.div_eq_of_lt hx];omega
  rw [e,h2]at h1
  subst h1
  exact ⟨rfl,by omega⟩
 ·rintro ⟨rfl,rfl⟩;rfl
structure TN where
 h : Nat
 L : Nat
 fr : Nat→Nat
 to : Nat→Nat
 lf : Nat→Nat→Int
 pr : Nat→Nat→Int
namespace TN
variable {T:TN} {D:Nat}
def W (T:TN):Nat:=T.h+T.L
def p (T:TN) (i:Nat):Arc :=
 if i % T.W<T.h then (i / T.W*T.h+i % T.W,(i / T.W+1)*T.h+i % T.W,1099511627776,0)
 else (i / T.W*T.h+T.fr (i % T.W-T.h),(i / T.W+1)*T.h+T.to (i % T.W-T.h),T.lf (i % T.W-T.h) (i / T.W),T.pr (i % T.W-T.h) (i / T.W))
structure OK (T:TN) (D:Nat):Prop where
 h1 : 0<T.h
 e : ∀k,k<T.L→T.fr k<T.h∧T.to k<T.h
 lf : ∀k t,k<T.L→t<D→0≤T.lf k t
 pr : ∀k t,k<T.L→t<D→0≤T.pr k t∧T.pr k t≤1000000
theorem row {t j:Nat} (hj:j<T.W):(t*T.W+j) / T.W=t∧(t*T.W+j) % T.W=j:=by
 refine ⟨?_,?_⟩
 ·rw [Nat.mul_comm,Nat.mul_add_div (by omega),Nat.div_eq_of_lt hj];omega
 ·rw [Nat.mul_comm,Nat.mul_add_mod,Nat.mod_eq_of_lt hj]
theorem p_house {t x:Nat} (hx:x<T.h):T.p (t*T.W+x)=(t*T.h+x,(t+1)*T.h+x,1099511627776,0):=by
 have hW:x<T.W:=by unfold W;omega
 unfold p
 rw [(row hW).1,(row hW).2,if_pos hx]
theorem p_link {t k:Nat} (hk:k<T.L):T.p (t*T.W+(T.h+k))=(t*T.h+T.fr k,(t+1)*T.h+T.to k,T.lf k t,T.pr k t):=by
 have hW:T.h+k<T.W:=by unfold W;omega
 unfold p
 rw [(row hW).1,(row hW).2,if_neg (by omega),show T.h+k-T.h=k by omega]
theorem p_ok (ok:T.OK D):JW T.p ((D+1)*T.h) (D*T.W):=fun i hi=>by
 have h1:=ok.h1
 have hW:0<T.W:=by unfold W;omega
 have ht:i / T.W<D:=by rw[Nat.div_lt_iff_lt_mul hW];exact hi
 have hj:=Nat.mod_lt i hW
 have b1:(i / T.W+1)*T.h≤D*T.h:=Nat.mul_le_mul_right _ (by omega)
 have b2:(D+1)*T.h=D*T.h+T.h:=Nat.succ_mul _ _
 have b3:(i / T.W+1)*T.h=i / T.W*T.h+T.h:=Nat.succ_mul _ _
 unfold p
 by_cases c:i % T.W<T.h
 ·rw [if_pos c]
  dsimp only
  exact ⟨by omega,by omega,by omega,by omega,by omega,by omega⟩
 ·rw [if_neg c]
  have e0:T.W=T.h+T.L:=rfl
  have hk:i % T.W-T.h<T.L:=by omega
  obtain ⟨e1,e2⟩:=ok.e _ hk
  have e3:=ok.lf _ _ hk ht
  have e4:=ok.pr _ _ hk ht
  dsimp only
  exact ⟨by omega,by omega,by omega,e3,e4.1,e4.2⟩
def G (T:TN) (D a c:Nat):FN:=fnP T.p ((D+1)*T.h) (D*T.W) a (D*T.h+c)
def outF (T:TN) (g:Nat→Nat→Int) (x t:Nat):Int:=Aj (fun k=>if T.fr k=x then g k t else 0) T.L
def inF (T:TN) (g:Nat→Nat→Int) (x t:Nat):Int:=Aj (fun k=>if T.to k=x then g k t else 0) T.L
def stk (T:TN) (a:Nat) (b:Int) (g:Nat→Nat→Int):Nat→Nat→Int
 | 0,x=>if a=x then b else 0
 | t+1,x=>stk T a b g t x-T.outF g x t+T.inF g x t
def wf (T:TN) (f:Nat→Int) (x t:Nat):Int:=f (t*T.W+x)
def gf (T:TN) (f:Nat→Int) (k t:Nat):Int:=f (t*T.W+(T.h+k))
theorem Wr (ok:T.OK D) {a c:Nat} {f:Nat→Int} {t x:Nat} (hx:x<T.h):(T.G D a c).net f (t*T.h+x)=(if t<D then T.wf f x t+T.outF (T.gf f) x t else 0)-(if 0<t∧t-1<D then T.wf f x (t-1)+T.inF (T.gf f) x (t-1)else 0):=by
 have key:∀t',Aj (fun j=>(if (T.p (t'*T.W+j)).1=t*T.h+x then f (t'*T.W+j)else 0)-(if (T.p (t'*T.W+j)).2.1=t*T.h+x then f (t'*T.W+j)else 0)) T.W
   = (if t'=t then T.wf f x t'+T.outF (T.gf f) x t' else 0)-(if t'+1=t then T.wf f x t'+T.inF (T.gf f) x t' else 0):=fun t'=>by
  have e0:T.W=T.h+T.L:=rfl
  have e1:Aj (fun j=>(if (T.p (t'*T.W+j)).1=t*T.h+x then f (t'*T.W+j)else 0)-(if (T.p (t'*T.W+j)).2.1=t*T.h+x then f (t'*T.W+j)else 0)) T.h=(if t'=t then T.wf f x t' else 0)-(if t'+1=t then T.wf f x t' else 0):=by
   rw [Ag (g:=fun j=>(if j=x then (if t'=t then T.wf f j t' else 0)else 0)-(if j=x then (if t'+1=t then T.wf f j t' else 0)else 0)) (fun j hj=>by
    rw [p_house hj]
    dsimp only
    have n1:=Dd (t:=t) (t':=t') hx hj
    have n2:=Dd (t:=t) (t':=t'+1) hx hj
    by_cases c1:j=x
    ·subst c1
     simp only[n1,n2,and_true,if_true];rfl
    ·simp only[n1,n2,c1,and_false,if_false]),B0,Cy,Cy,if_pos hx,if_pos hx]
  have e2:Aj (fun k=>(if (T.p (t'*T.W+(T.h+k))).1=t*T.h+x then f (t'*T.W+(T.h+k))else 0)-(if (T.p (t'*T.W+(T.h+k))).2.1=t*T.h+x then f (t'*T.W+(T.h+k))else 0)) T.L=(if t'=t then T.outF (T.gf f) x t' else 0)-(if t'+1=t then T.inF (T.gf f) x t' else 0):=by
   rw [Ag (g:=fun k=>(if t'=t then (if T.fr k=x then T.gf f k t' else 0)else 0)-(if t'+1=t then (if T.to k=x then T.gf f k t' else 0)else 0)) (fun k hk=>by
    rw [p_link hk]
    dsimp only
    obtain ⟨q1,q2⟩:=ok.e k hk
    have n1:=Dd (t:=t) (t':=t') hx q1
    have n2:=Dd (t:=t) (t':=t'+1) hx q2
    simp only[n1,n2]
    unfold gf
    by_cases c1:t'=t <;> by_cases c2:t'+1=t <;> simp[c1,c2]),B0]
   unfold outF inF
   congr 1
   ·by_cases c1:t'=t
    ·simp only[if_pos c1]
    ·simp only[if_neg c1];exact A4 fun _ _=>rfl
   ·by_cases c1:t'+1=t
    ·simp only[if_pos c1]
    ·simp only[if_neg c1];exact A4 fun _ _=>rfl
  rw [e0,C7,←e0,e1,e2]
  by_cases c1:t'=t <;> by_cases c2:t'+1=t <;> simp[c1,c2] <;> omega
 have : (T.G D a c).net f (t*T.h+x)=Aj (fun t'=>(if t'=t then T.wf f x t'+T.outF (T.gf f) x t' else 0)-(if t'+1=t then T.wf f x t'+T.inF (T.gf f) x t' else 0)) D:=by
  show Aj _ (D*T.W)=_
  rw [DG]
  exact Ag fun t' _=>key t'
 rw [this,B0,Cy (g:=fun t'=>T.wf f x t'+T.outF (T.gf f) x t')]
 congr 1
 by_cases c:0<t
 ·rw [Ag (g:=fun t'=>if t'=t-1 then T.wf f x t'+T.inF (T.gf f) x t' else 0) (fun t' _=>by
   by_cases c1:t'+1=t
   ·rw [if_pos c1,if_pos (by omega)]
   ·rw [if_neg c1,if_neg (by omega)]),Cy (g:=fun t'=>T.wf f x t'+T.inF (T.gf f) x t')]
  simp [c]
 ·rw [A4 (fun t' _=>by rw[if_neg (by omega)]),if_neg (fun g=>c g.1)]
theorem Xz {a c:Nat} {f:Nat→Int}:(T.G D a c).cost f=Aj (fun t=>Aj (fun k=>T.pr k t*T.gf f k t) T.L) D:=by
 show Aj (fun i=>(T.p i).2.2.2*f i) (D*T.W)=_
 rw [DG]
 refine Ag fun t _=>?_
 have e0:T.W=T.h+T.L:=rfl
 conv => lhs;rw[e0,C7,←e0]
 rw [A4 (fun x hx=>by rw[p_house hx];exact Int.zero_mul _),Int.zero_add]
 exact Ag fun k hk=>by rw[p_link hk];rfl
structure Plan (T:TN) (D a c:Nat) (b:Int) (g:Nat→Nat→Int):Prop where
 nn : ∀k t,k<T.L→t<D→0≤g k t
 le : ∀k t,k<T.L→t<D→g k t≤T.lf k t
 st : ∀t x,t<D→x<T.h→T.outF g x t≤T.stk a b g t x
 en : ∀x,x<T.h→T.stk a b g D x=if c=x then b else 0
def cst (T:TN) (D:Nat) (g:Nat→Nat→Int):Int:=Aj (fun t=>Aj (fun k=>T.pr k t*g k t) T.L) D
theorem outF_congr {g g':Nat→Nat→Int} {x t:Nat} (h:∀k,k<T.L→g k t=g' k t):T.outF g x t=T.outF g' x t:=Ag fun k hk=>by rw[h k hk]
theorem OF {g g':Nat→Nat→Int} {x t:Nat} (h:∀k,k<T.L→g k t=g' k t):T.inF g x t=T.inF g' x t:=Ag fun k hk=>by rw[h k hk]
theorem stk_congr {g g':Nat→Nat→Int} {a:Nat} {b:Int} {x:Nat}:∀ {t},(∀k t',k<T.L→t'<t→g k t'=g' k t')→T.stk a b g t x=T.stk a b g' t x
 | 0,_=>rfl
 | t+1,h=>by
  rw [stk,stk,stk_congr fun k t' hk ht=>h k t' hk (by omega),outF_congr fun k hk=>h k t hk (by omega),OF fun k hk=>h k t hk (by omega)]
theorem Plan.congr {a c:Nat} {b:Int} {g g':Nat→Nat→Int} (P:T.Plan D a c b g) (h:∀k t,k<T.L→t<D→g k t=g' k t):T.Plan D a c b g':=by
 refine ⟨fun k t hk ht=>?_,fun k t hk ht=>?_,fun t x ht hx=>?_,fun x hx=>?_⟩
 ·rw [←h k t hk ht];exact P.nn k t hk ht
 ·rw [←h k t hk ht];exact P.le k t hk ht
 ·rw [←outF_congr fun k hk=>h k t hk ht,←stk_congr fun k t' hk ht'=>h k t' hk (by omega)];exact P.st t x ht hx
 ·rw [←stk_congr fun k t' hk ht'=>h k t' hk ht'];exact P.en x hx
theorem cst_congr {g g':Nat→Nat→Int} (h:∀k t,k<T.L→t<D→g k t=g' k t):T.cst D g=T.cst D g':=Ag fun t ht=>Ag fun k hk=>by rw[h k t hk ht]
theorem house_of {i:Nat} (h1:0<T.h) (hi:i<D*T.W):∃t,t<D∧((∃x,x<T.h∧i=t*T.W+x)∨∃k,k<T.L∧i=t*T.W+(T.h+k)):=by
 have hW:0<T.W:=by unfold W;omega
 have ht:i / T.W<D:=by rw[Nat.div_lt_iff_lt_mul hW];exact hi
 have hj:=Nat.mod_lt i hW
 have e0:T.W=T.h+T.L:=rfl
 have hd:i=i / T.W*T.W+i % T.W:=by rw[Nat.mul_comm];exact (Nat.div_add_mod i T.W).symm
 refine ⟨i / T.W,ht,?_⟩
 by_cases c:i % T.W<T.h
 ·exact .inl ⟨_,c,hd⟩
 ·refine .inr ⟨i % T.W-T.h,by omega,?_⟩
  rw [show T.h+(i % T.W-T.h)=i % T.W by omega];exact hd
theorem xQ {v:Nat} (h1:0<T.h) (hv:v<(D+1)*T.h):∃t x,t≤D∧x<T.h∧v=t*T.h+x:=by
 have ht:v / T.h<D+1:=by rw[Nat.div_lt_iff_lt_mul h1];exact hv
 exact ⟨v / T.h,v % T.h,by omega,Nat.mod_lt _ h1,by rw[Nat.mul_comm];exact (Nat.div_add_mod v T.h).symm⟩
theorem pair_lt {t:Nat} (ht:t<D) {j:Nat} (hj:j<T.W):t*T.W+j<D*T.W:=by
 have : (t+1)*T.W≤D*T.W:=Nat.mul_le_mul_right _ (by omega)
 rw [Nat.succ_mul]at this
 omega
theorem node_lt {t x:Nat} (ht:t≤D) (hx:x<T.h):t*T.h+x<(D+1)*T.h:=by
 have : (t+1)*T.h≤(D+1)*T.h:=Nat.mul_le_mul_right _ (by omega)
 rw [Nat.succ_mul]at this
 omega
theorem src_eq {a x t:Nat} (ha:a<T.h) (hx:x<T.h):a=t*T.h+x↔t=0∧a=x:=by
 have := Dd (t:=t) (t':=0) hx ha
 rw [Nat.zero_mul,Nat.zero_add]at this
 rw [this]
 constructor <;> (rintro⟨rfl,rfl⟩;exact⟨rfl,rfl⟩)
theorem flow_plan (ok:T.OK D) {a c:Nat} (ha:a<T.h) (hc:c<T.h) {f:Nat→Int} {b:Int} (hf:(T.G D a c).Flow f b):T.Plan D a c b (T.gf f)∧(T.G D a c).cost f=T.cst D (T.gf f):=by
 have hW:∀x,x<T.h→x<T.W:=fun x hx=>by unfold W;omega
 have hWk:∀k,k<T.L→T.h+k<T.W:=fun k hk=>by unfold W;omega
 have val:∀t x,t≤D→x<T.h→(if t<D then T.wf f x t+T.outF (T.gf f) x t else 0)-(if 0<t∧t-1<D then T.wf f x (t-1)+T.inF (T.gf f) x (t-1)else 0)=(if t=0∧a=x then b else 0)-(if D=t∧c=x then b else 0):=fun t x ht hx=>by
  rw [←Wr ok hx,hf.val _ (node_lt ht hx)]
  show (if a=t*T.h+x then b else 0)-(if D*T.h+c=t*T.h+x then b else 0)=_
  have n2:=Dd (t:=t) (t':=D) hx hc
  simp only[src_eq ha hx,n2]
 have key:∀t x,t<D→x<T.h→T.wf f x t+T.outF (T.gf f) x t=T.stk a b (T.gf f) t x:=by
  intro t x ht hx
  induction t with
  | zero =>
   have := val 0 x (by omega) hx
   rw [if_pos ht,if_neg (fun g=>absurd g.1 (by omega)),if_neg (show ¬(D=0∧c=x) from fun g=>by omega)]at this
   simp only[true_and]at this
   rw [stk];omega
  | succ t ih =>
   have ih:=ih (by omega)
   have := val (t+1) x (by omega) hx
   rw [if_pos ht,if_pos ⟨by omega,by omega⟩,if_neg (fun g=>by omega),if_neg (fun g=>by omega),Nat.add_sub_cancel]at this
   rw [stk];omega
 refine ⟨⟨fun k t hk ht=>hf.nn _ (pair_lt ht (hWk k hk)),fun k t hk ht=>?_,fun t x ht hx=>?_,fun x hx=>?_⟩,Xz⟩
 ·have := hf.le _ (pair_lt ht (hWk k hk))
  have e:(T.G D a c).cap (t*T.W+(T.h+k))=T.lf k t:=by show (T.p _).2.2.1=_;rw[p_link hk]
  rw [e]at this
  exact this
 ·have h1:=key t x ht hx
  have h2:0≤T.wf f x t:=hf.nn _ (pair_lt ht (hW x hx))
  omega
 ·cases D with
  | zero =>
   have := val 0 x (by omega) hx
   rw [if_neg (by omega),if_neg (fun g=>by omega)]at this
   simp only[true_and]at this
   rw [stk];omega
  | succ D =>
   have h1:=key D x (by omega) hx
   have := val (D+1) x (by omega) hx
   rw [if_neg (by omega),if_pos ⟨by omega,by omega⟩,if_neg (fun g=>by omega),Nat.add_sub_cancel]at this
   simp only[true_and]at this
   rw [stk];omega
theorem xR (ok:T.OK D) {g:Nat→Nat→Int} {t:Nat}:Aj (fun x=>T.outF g x t) T.h=Aj (fun k=>g k t) T.L:=by
 unfold outF
 rw [DD]
 refine Ag fun k hk=>?_
 rw [B6,if_pos (ok.e k hk).1]
theorem Adu (ok:T.OK D) {g:Nat→Nat→Int} {t:Nat}:Aj (fun x=>T.inF g x t) T.h=Aj (fun k=>g k t) T.L:=by
 unfold inF
 rw [DD]
 refine Ag fun k hk=>?_
 rw [B6,if_pos (ok.e k hk).2]
theorem XA (ok:T.OK D) {a:Nat} (ha:a<T.h) {b:Int} {g:Nat→Nat→Int}:∀t,Aj (fun x=>T.stk a b g t x) T.h=b
 | 0=>by
  show Aj (fun x=>if a=x then b else 0) T.h=b
  rw [B6,if_pos ha]
 | t+1=>by
  show Aj (fun x=>T.stk a b g t x-T.outF g x t+T.inF g x t) T.h=b
  rw [BM,B0,XA ok ha,xR ok,Adu ok];omega
theorem QA {g:Nat→Nat→Int} {x t:Nat} (h:∀k,k<T.L→0≤g k t):0≤T.outF g x t:=Bp fun k hk=>by
 split
 ·exact h k hk
 ·exact Int.le_refl _
theorem Plan.stk_nn {a c:Nat} {b:Int} {g:Nat→Nat→Int} (P:T.Plan D a c b g) {t x:Nat} (ht:t<D) (hx:x<T.h):0≤T.stk a b g t x:=by
 have := P.st t x ht hx
 have := QA (T:=T) (x:=x) fun k hk=>P.nn k t hk ht
 omega
theorem Plan.stk_le {a c:Nat} (ok:T.OK D) (ha:a<T.h) {b:Int} {g:Nat→Nat→Int} (P:T.Plan D a c b g) {t x:Nat} (ht:t<D) (hx:x<T.h):T.stk a b g t x≤b:=by
 have := Fq (f:=fun x=>T.stk a b g t x) (fun i hi=>P.stk_nn ht hi) hx
 rw [XA ok ha]at this
 exact this
def fOf (T:TN) (a:Nat) (b:Int) (g:Nat→Nat→Int) (i:Nat):Int:=if i % T.W<T.h then T.stk a b g (i / T.W) (i % T.W)-T.outF g (i % T.W) (i / T.W)else g (i % T.W-T.h) (i / T.W)
theorem mO {a:Nat} {b:Int} {g:Nat→Nat→Int} {x t:Nat} (hx:x<T.h):T.wf (T.fOf a b g) x t=T.stk a b g t x-T.outF g x t:=by
 have hW:x<T.W:=by unfold W;omega
 unfold wf fOf
 rw [(row hW).1,(row hW).2,if_pos hx]
theorem Tq {a:Nat} {b:Int} {g:Nat→Nat→Int} {k t:Nat} (hk:k<T.L):T.gf (T.fOf a b g) k t=g k t:=by
 have hW:T.h+k<T.W:=by unfold W;omega
 unfold gf fOf
 rw [(row hW).1,(row hW).2,if_neg (by omega),show T.h+k-T.h=k by omega]
theorem plan_flow (ok:T.OK D) {a c:Nat} (ha:a<T.h) (hc:c<T.h) {g:Nat→Nat→Int} {b:Int} (hb:b≤1099511627776) (P:T.Plan D a c b g):(T.G D a c).Flow (T.fOf a b g) b∧(T.G D a c).cost (T.fOf a b g)=T.cst D g:=by
 have hw:∀t x,t<D→x<T.h→0≤T.wf (T.fOf a b g) x t∧T.wf (T.fOf a b g) x t≤b:=fun t x ht hx=>by
  rw [mO hx]
  have h1:=P.st t x ht hx
  have h2:=P.stk_le ok ha ht hx
  have h3:=QA (T:=T) (x:=x) fun k hk=>P.nn k t hk ht
  omega
 refine ⟨⟨fun i hi=>?_,fun i hi=>?_,fun v hv=>?_⟩,by rw[Xz];exact cst_congr fun k t hk ht=>Tq hk⟩
 ·obtain ⟨t,ht,⟨x,hx,rfl⟩ | ⟨k,hk,rfl⟩⟩:=house_of ok.h1 hi
  ·exact (hw t x ht hx).1
  ·have := P.nn k t hk ht
   rw [←Tq (g:=g) (a:=a) (b:=b) hk]at this
   exact this
 ·obtain ⟨t,ht,⟨x,hx,rfl⟩ | ⟨k,hk,rfl⟩⟩:=house_of ok.h1 hi
  ·show T.wf (T.fOf a b g) x t≤(T.p _).2.2.1
   rw [p_house hx]
   have :=(hw t x ht hx).2
   dsimp only;omega
  ·show T.gf (T.fOf a b g) k t≤(T.p _).2.2.1
   rw [p_link hk,Tq hk]
   exact P.le k t hk ht
 ·obtain ⟨t,x,ht,hx,rfl⟩:=xQ ok.h1 hv
  rw [Wr ok hx]
  show _=(if a=t*T.h+x then b else 0)-(if D*T.h+c=t*T.h+x then b else 0)
  have n2:=Dd (t:=t) (t':=D) hx hc
  simp only[src_eq ha hx,n2]
  have eo:∀t,T.outF (T.gf (T.fOf a b g)) x t=T.outF g x t:=fun t=>outF_congr fun k hk=>Tq hk
  have ei:∀t,T.inF (T.gf (T.fOf a b g)) x t=T.inF g x t:=fun t=>OF fun k hk=>Tq hk
  rw [eo,ei,mO hx,mO hx]
  have hen:=P.en x hx
  cases t with
  | zero =>
   rw [if_neg (show ¬(0<0∧0-1<D) from fun g=>by omega)]
   by_cases c0:0<D
   ·rw [if_pos c0,if_neg (show ¬(D=0∧c=x) from fun g=>by omega),stk];simp only[true_and];omega
   ·have : D=0:=by omega
    subst this
    rw [if_neg c0]
    rw [stk]at hen
    simp only[true_and];omega
  | succ t =>
   rw [if_neg (show ¬(t+1=0∧a=x) from fun g=>by omega),Nat.add_sub_cancel,if_pos (show 0<t+1∧t<D from ⟨by omega,by omega⟩)]
   by_cases c0:t+1<D
   ·rw [if_pos c0,if_neg (show ¬(D=t+1∧c=x) from fun g=>by omega),stk];omega
   ·have : D=t+1:=by omega
    subst this
    rw [if_neg c0]
    rw [stk]at hen
    simp only[true_and];omega
theorem Plan.more {T':TN} {D' a c:Nat} {b:Int} {g:Nat→Nat→Int} (hh:T'.h=T.h) (hL:T'.L=T.L) (hf:T'.fr=T.fr) (ht:T'.to=T.to) (hl:∀k t,k<T.L→t<D→T.lf k t≤T'.lf k t) (hl0:∀k t,k<T.L→t<D'→0≤T'.lf k t) (hD:D≤D') (hb:0≤b) (P:T.Plan D a c b g) :
  T'.Plan D' a c b (fun k t=>if t<D then g k t else 0):=by
 have eo:∀(g:Nat→Nat→Int) x t,T'.outF g x t=T.outF g x t:=fun g x t=>by unfold outF;rw[hL,hf]
 have ei:∀(g:Nat→Nat→Int) x t,T'.inF g x t=T.inF g x t:=fun g x t=>by unfold inF;rw[hL,ht]
 have es:∀(g:Nat→Nat→Int) t x,T'.stk a b g t x=T.stk a b g t x:=fun g t x=>by
  induction t with
  | zero=>rfl
  | succ t ih=>rw[stk,stk,ih,eo,ei]
 have o0:∀x t,¬t<D→T.outF (fun k t=>if t<D then g k t else 0) x t=0:=fun x t ht=>A4 fun k _=>by dsimp only;rw[if_neg ht];split <;> rfl
 have i0:∀x t,¬t<D→T.inF (fun k t=>if t<D then g k t else 0) x t=0:=fun x t ht=>A4 fun k _=>by dsimp only;rw[if_neg ht];split <;> rfl
 have s0:∀x t,t≤D→T.stk a b (fun k t=>if t<D then g k t else 0) t x=T.stk a b g t x:=fun x t ht=>stk_congr fun k t' _ ht'=>by rw[if_pos (by omega)]
 have s1:∀x j,x<T.h→T.stk a b (fun k t=>if t<D then g k t else 0) (D+j) x=if c=x then b else 0:=fun x j hx=>by
  induction j with
  | zero=>rw[Nat.add_zero,s0 x D (Nat.le_refl _)];exact P.en x hx
  | succ j ih=>rw[←Nat.add_assoc,stk,ih,o0 x _ (by omega),i0 x _ (by omega)];omega
 refine ⟨fun k t hk _=>?_,fun k t hk ht'=>?_,fun t x ht' hx=>?_,fun x hx=>?_⟩
 ·split
  ·rename_i c0;exact P.nn k t (by rw[←hL];exact hk) c0
  ·exact Int.le_refl _
 ·rw [hL]at hk
  split
  ·rename_i c0
   have := P.le k t hk c0
   have := hl k t hk c0
   omega
  ·exact hl0 k t hk ht'
 ·rw [hh]at hx
  rw [eo,es]
  by_cases c0:t<D
  ·rw [outF_congr (g':=g) fun k _=>by rw[if_pos c0],s0 x t (by omega)];exact P.st t x c0 hx
  ·rw [o0 x t c0,show t=D+(t-D) by omega,s1 x _ hx]
   split <;> omega
 ·rw [hh]at hx
  rw [es,show D'=D+(D'-D) by omega,s1 x _ hx]
theorem Plan.add {T2 T':TN} {a c:Nat} {b b2:Int} {g g2:Nat→Nat→Int} (h2:T2.h=T.h) (L2:T2.L=T.L) (f2:T2.fr=T.fr) (t2:T2.to=T.to) (h':T'.h=T.h) (L':T'.L=T.L) (f':T'.fr=T.fr) (t':T'.to=T.to)
  (hl : ∀k t,k<T.L→t<D→g k t+g2 k t≤T'.lf k t) (P:T.Plan D a c b g) (P2:T2.Plan D a c b2 g2):T'.Plan D a c (b+b2) (fun k t=>g k t+g2 k t):=by
 have eo2:∀x t,T2.outF g2 x t=T.outF g2 x t:=fun x t=>by unfold outF;rw[L2,f2]
 have ei2:∀x t,T2.inF g2 x t=T.inF g2 x t:=fun x t=>by unfold inF;rw[L2,t2]
 have es2:∀t x,T2.stk a b2 g2 t x=T.stk a b2 g2 t x:=fun t x=>by
  induction t with
  | zero=>rfl
  | succ t ih=>rw[stk,stk,ih,eo2,ei2]
 have eo:∀x t,T'.outF (fun k t=>g k t+g2 k t) x t=T.outF g x t+T.outF g2 x t:=fun x t=>by
  unfold outF
  rw [L',f',←BM]
  exact Ag fun k _=>by split <;> rfl
 have ei:∀x t,T'.inF (fun k t=>g k t+g2 k t) x t=T.inF g x t+T.inF g2 x t:=fun x t=>by
  unfold inF
  rw [L',t',←BM]
  exact Ag fun k _=>by split <;> rfl
 have es:∀t x,T'.stk a (b+b2) (fun k t=>g k t+g2 k t) t x=T.stk a b g t x+T.stk a b2 g2 t x:=fun t x=>by
  induction t with
  | zero=>rw[stk,stk,stk];split <;> rfl
  | succ t ih=>rw[stk,stk,stk,ih,eo,ei];omega
 refine ⟨fun k t hk ht=>?_,fun k t hk ht=>hl k t (by rw[←L'];exact hk) ht,fun t x ht hx=>?_,fun x hx=>?_⟩
 ·rw [L']at hk
  have := P.nn k t hk ht
  have := P2.nn k t (by rw[L2];exact hk) ht
  omega
 ·rw [h']at hx
  have h3:=P.st t x ht hx
  have h4:=P2.st t x ht (by rw[h2];exact hx)
  rw [eo2,es2]at h4
  rw [eo,es];omega
 ·rw [h']at hx
  have h3:=P.en x hx
  have h4:=P2.en x (by rw[h2];exact hx)
  rw [es2]at h4
  rw [es,h3,h4]
  split <;> rfl
end TN
end Sim
namespace Sim
structure RSE (p:Nat→Arc) (m:Nat) (A:List Arc) (E:Nat→Int):Prop where
 len : A.length=2*m
 fr : ∀i,i<m→aF A (2*i)=(p i).1∧aT A (2*i)=(p i).2.1∧aF A (2*i+1)=(p i).2.1∧aT A (2*i+1)=(p i).1
 bk : ∀k,k<2*m→aP A k=((rv k:Nat):Int)
 nn : ∀k,k<2*m→0≤aL A k
 cap : ∀i,i<m→aL A (2*i)+aL A (2*i+1)=(p i).2.2.1
 val : ∀v,Aj (fun i=>(if (p i).1=v then flA A i else 0)-(if (p i).2.1=v then flA A i else 0)) m=E v
def stE (s e:Nat) (x:Int) (v:Nat):Int:=(if s=v then x else 0)-(if e=v then x else 0)
section
variable {p:Nat→Arc} {m N s e:Nat} {A:List Arc} {E:Nat→Int}
theorem RSE.net (R:RSE p m A E) {f:Nat→Int} {v:Nat}:(fnA A N s e).net f v=Aj (fun i=>(if (p i).1=v then f i else 0)-(if (p i).2.1=v then f i else 0)) m:=by
 unfold FN.net fnA
 dsimp only
 rw [R.len,show 2*m / 2=m by omega]
 exact Ag fun i hi=>by simp only[(R.fr i hi).1,(R.fr i hi).2.1]
theorem RSE.aug (R:RSE p m A E) {k:Nat} {y:Int} (hk:k<2*m) (h0:0≤y) (hy:y≤aL A k):RSE p m (CD A y k) (fun v=>E v+stE (aF A k) (aT A k) y v):=by
 have hl:=R.len
 have hF:∀j,aF (CD A y k) j=aF A j:=fun j=>Qm hl hk
 have hT:∀j,aT (CD A y k) j=aT A j:=fun j=>Wg hl hk
 refine ⟨by rw[Ek];exact hl,fun i hi=>?_,fun j hj=>?_,fun j hj=>?_,fun i hi=>?_,fun v=>?_⟩
 ·rw [hF,hF,hT,hT];exact R.fr i hi
 ·rw [kH hl hk];exact R.bk j hj
 ·rw [KC hl hk]
  have := R.nn j hj
  by_cases c:j=k
  ·subst c;rw[if_pos rfl];split <;> omega
  ·rw [if_neg c];split <;> omega
 ·rw [KC hl hk,KC hl hk,←R.cap i hi]
  unfold rv
  by_cases e:k % 2=0
  ·rw [if_pos e]
   by_cases c:k=2*i
   ·subst c
    rw [if_pos rfl,if_neg (show ¬2*i=2*i+1 by omega),if_neg (show ¬2*i+1=2*i by omega),if_pos rfl];omega
   ·rw [if_neg (show ¬2*i=k by omega),if_neg (show ¬2*i=k+1 by omega),if_neg (show ¬2*i+1=k by omega),if_neg (show ¬2*i+1=k+1 by omega)];omega
  ·rw [if_neg e]
   by_cases c:k=2*i+1
   ·subst c
    rw [if_neg (show ¬2*i=2*i+1 by omega),if_pos (show 2*i=2*i+1-1 by omega),if_pos rfl,if_neg (show ¬2*i+1=2*i+1-1 by omega)];omega
   ·rw [if_neg (show ¬2*i=k by omega),if_neg (show ¬2*i=k-1 by omega),if_neg (show ¬2*i+1=k by omega),if_neg (show ¬2*i+1=k-1 by omega)];omega
 ·have hI:IsP A (aF A k) (aT A k) [k]:=.cons k [] .nil
  have := WZ (N:=0) (t:=0) (p:=y) hI (fun i hi=>by
   obtain ⟨a,b,c,d⟩:=R.fr i hi
   exact ⟨by rw[c,b],by rw[d,a]⟩) hl (fun j hj=>by rw[List.mem_singleton]at hj;rw[hj];exact hk) v
  rw [R.net,R.net,R.val]at this
  exact this
theorem RSE.congr {E':Nat→Int} (R:RSE p m A E) (h:∀v,E v=E' v):RSE p m A E':=⟨R.len,R.fr,R.bk,R.nn,R.cap,fun v=>by rw[R.val,h]⟩
theorem RSE.end (R:RSE p m A E) (h:JW p N m) {k:Nat} (hk:k<2*m):aF A k<N∧aT A k<N:=by
 obtain ⟨i,hi,e | e⟩:=B5 hk
 ·subst e;rw[(R.fr i hi).1,(R.fr i hi).2.1];exact⟨(h i hi).1,(h i hi).2.1⟩
 ·subst e;rw[(R.fr i hi).2.2.1,(R.fr i hi).2.2.2];exact⟨(h i hi).2.1,(h i hi).1⟩
theorem RSE.le (R:RSE p m A E) {k:Nat} (hk:k<2*m) {b:Int} (hb:∀i,i<m→(p i).2.2.1≤b):aL A k≤b∧aL A k+aL A (rv k)≤b:=by
 obtain ⟨i,hi,e | e⟩:=B5 hk
 ·have h1:=R.cap i hi
  have h2:=hb i hi
  have h3:=R.nn (2*i+1) (by omega)
  subst e
  have : rv (2*i)=2*i+1:=by unfold rv;rw[if_pos (by omega)]
  rw [this]
  omega
 ·have h1:=R.cap i hi
  have h2:=hb i hi
  have h3:=R.nn (2*i) (by omega)
  subst e
  have : rv (2*i+1)=2*i:=by unfold rv;rw[if_neg (by omega)];omega
  rw [this]
  omega
theorem RSE.flow {x:Int} (R:RSE p m A (stE s e x)):(fnP p N m s e).Flow (flA A) x:=by
 refine ⟨fun i hi=>R.nn (2*i+1) (by have:i<m:=hi;omega),fun i hi=>?_,fun v hv=>R.val v⟩
 have := R.cap i hi
 have := R.nn (2*i) (by have:i<m:=hi;omega)
 show aL A (2*i+1)≤(p i).2.2.1
 omega
theorem RSE.top {x:Int} (R:RSE p m A (stE s e x)) (hse:s≠e):x≤Aj (fun i=>(p i).2.2.1) m:=by
 have := R.val s
 unfold stE at this
 rw [if_pos rfl,if_neg (fun g=>hse g.symm),Int.sub_zero]at this
 rw [←this]
 refine CR fun i hi=>?_
 have h1:=R.cap i hi
 have h2:=R.nn (2*i) (by omega)
 have h3:=R.nn (2*i+1) (by omega)
 unfold flA
 split <;> split <;> omega
end
structure BQ (A:List Arc) (m N s:Nat) (bl:List Int) (q:List Nat) (rk:Nat→Nat):Prop where
 len : bl.length=N
 src : q.getD 0 0=s∧s∈q
 nd : q.Nodup
 mem : ∀v∈q,v<N
 seen : ∀v,v<N→(0≤bl.getD v 0↔v∈q)
 by_ : ∀v∈q,v≠s→∃k:Nat,k<2*m∧bl.getD v 0=(k:Int)∧aT A k=v∧0<aL A k∧aF A k∈q∧rk (aF A k)<rk v
 rkb : ∀v∈q,rk v<q.length
def BD (A:List Arc) (m:Nat) (q:List Nat) (n:Nat):Prop:=∀j,j<n→∀k,k<2*m→aF A k=q.getD j 0→0<aL A k→aT A k∈q
section
variable {A:List Arc} {m N s:Nat} {bl:List Int} {q:List Nat} {rk:Nat→Nat}
theorem BQ.ini (hs:s<N) {x:Int} (hx:0≤x):BQ A m N s ((List.replicate N (-1:Int)).set s x) [s] (fun _=>0):=by
 refine ⟨by simp,⟨rfl,by simp⟩,by simp,fun v hv=>by simp at hv;omega,fun v hv=>?_,fun v hv hvs=>by simp at hv;exact absurd hv hvs,fun v hv=>by simp⟩
 rw [CZ (by simpa using hs)]
 by_cases c:v=s
 ·rw [if_pos c];simp[c,hx]
 ·rw [if_neg c]
  simp [List.getD_eq_getElem?_getD,hv,c]
theorem BQ.add (B:BQ A m N s bl q rk) {k:Nat} (hk:k<2*m) (hN:aT A k<N) (hF:aF A k∈q) (hl:0<aL A k) (hT:bl.getD (aT A k) 0<0):BQ A m N s (bl.set (aT A k) (k:Int)) (q ++ [aT A k]) (fun w=>if w=aT A k then q.length else rk w):=by
 have hTq:aT A k ∉ q:=fun g=>by have:=(B.seen _ hN).2 g;omega
 have hne:∀v∈q,v≠aT A k:=fun v hv e=>hTq (e▸hv)
 refine ⟨by rw[List.length_set];exact B.len,⟨?_,by simp[B.src.2]⟩,?_,fun v hv=>?_,fun v hv=>?_,fun v hv hvs=>?_,fun v hv=>?_⟩
 ·rw [←B.src.1]
  have : 0<q.length:=List.length_pos_of_mem B.src.2
  rw [List.getD_eq_getElem?_getD,List.getElem?_append_left this,List.getD_eq_getElem?_getD]
 ·rw [List.nodup_append]
  exact ⟨B.nd,by simp,fun a ha b hb e=>by simp at hb;subst hb;exact hne a ha e⟩
 ·rw [List.mem_append,List.mem_singleton]at hv
  rcases hv with hv | rfl
  ·exact B.mem v hv
  ·exact hN
 ·rw [CZ (by rw[B.len];exact hN),List.mem_append,List.mem_singleton]
  by_cases c:v=aT A k
  ·rw [if_pos c];simp[c]
  ·rw [if_neg c,B.seen v hv];simp[c]
 ·rw [List.mem_append,List.mem_singleton]at hv
  rcases hv with hv | rfl
  ·obtain ⟨j,h1,h2,h3,h4,h5,h6⟩:=B.by_ v hv hvs
   refine ⟨j,h1,?_,h3,h4,by simp[h5],?_⟩
   ·rw [CZ (by rw[B.len];exact hN),if_neg (hne v hv)];exact h2
   ·rw [if_neg (hne v hv),if_neg (hne _ h5)];exact h6
  ·refine ⟨k,hk,?_,rfl,hl,by simp[hF],?_⟩
   ·rw [CZ (by rw[B.len];exact hN),if_pos rfl]
   ·rw [if_neg (hne _ hF),if_pos rfl];exact B.rkb _ hF
 ·rw [List.mem_append,List.mem_singleton]at hv
  rw [List.length_append,List.length_singleton]
  rcases hv with hv | rfl
  ·rw [if_neg (hne v hv)]
   have := B.rkb v hv
   omega
  ·rw [if_pos rfl];omega
theorem BQ.lenq (B:BQ A m N s bl q rk):q.length≤N:=by
 have := CO N q B.nd B.mem
 exact this
theorem BQ.least (B:BQ A m N s bl q rk) {S:Nat→Prop} (hs:S s) (hc:∀k,k<2*m→0<aL A k→S (aF A k)→S (aT A k)):∀v∈q,S v:=by
 have : ∀n v,v∈q→rk v≤n→S v:=by
  intro n
  induction n with
  | zero =>
   intro v hv hr
   by_cases c:v=s
   ·rw [c];exact hs
   ·obtain ⟨k,h1,h2,h3,h4,h5,h6⟩:=B.by_ v hv c
    omega
  | succ n ih =>
   intro v hv hr
   by_cases c:v=s
   ·rw [c];exact hs
   ·obtain ⟨k,h1,h2,h3,h4,h5,h6⟩:=B.by_ v hv c
    rw [←h3]
    exact hc k h1 h4 (ih _ h5 (by omega))
 exact fun v hv=>this (rk v) v hv (Nat.le_refl _)
theorem BQ.closed (B:BQ A m N s bl q rk) {n:Nat} (hn:n=q.length) (h:BD A m q n):∀k,k<2*m→0<aL A k→aF A k∈q→aT A k∈q:=fun k hk hl hF=>by
 obtain ⟨j,hj,e⟩:=List.getElem_of_mem hF
 exact h j (by omega) k hk (by rw[←e,List.getD_eq_getElem?_getD,List.getElem?_eq_getElem hj];rfl) hl
theorem BD.app {n:Nat} {v:Nat} (h:BD A m q n) (hn:n≤q.length):BD A m (q ++ [v]) n:=fun j hj k hk hF hl=>by
 rw [List.getD_eq_getElem?_getD,List.getElem?_append_left (by omega),←List.getD_eq_getElem?_getD]at hF
 exact List.mem_append_left _ (h j hj k hk hF hl)
end
structure PW (A:List Arc) (s:Nat) (bl:List Int) (q:List Nat) (W:Nat→Prop) (at_:Nat) (least:Int):Prop where
 cur : W at_
 mem : ∀w,W w→w∈q
 nx : ∀w,W w→w=at_∨(w≠s∧least≤aL A (bl.getD w 0).toNat∧W (aF A (bl.getD w 0).toNat))
theorem PW.step {A:List Arc} {m N s:Nat} {bl:List Int} {q:List Nat} {rk:Nat→Nat} (B:BQ A m N s bl q rk) {W:Nat→Prop} {a:Nat} {l:Int} (P:PW A s bl q W a l) {k:Nat} (has:a≠s) (hk:bl.getD a 0=(k:Int)):PW A s bl q (fun w=>W w∨w=aF A k) (aF A k) (min l (aL A k)):=by
 obtain ⟨k',h1,h2,h3,h4,h5,h6⟩:=B.by_ a (P.mem a P.cur) has
 have e:k'=k:=by omega
 subst e
 refine ⟨.inr rfl,fun w hw=>?_,fun w hw=>?_⟩
 ·rcases hw with hw | rfl
  ·exact P.mem w hw
  ·exact h5
 ·rcases hw with hw | rfl
  ·rcases P.nx w hw with rfl | ⟨g1,g2,g3⟩
   ·refine .inr ⟨has,?_,?_⟩
    ·rw [hk,Int.toNat_natCast];omega
    ·rw [hk,Int.toNat_natCast];exact .inr rfl
   ·exact .inr ⟨g1,by omega,.inl g3⟩
  ·exact .inl rfl
structure PA (p:Nat→Arc) (m s e:Nat) (A0:List Arc) (bl:List Int) (W:Nat→Prop) (rk:Nat→Nat) (x least:Int) (A:List Arc) (a:Nat):Prop where
 rs : RSE p m A (fun v=>stE s e x v+stE a e least v)
 cur : W a
 lf : ∀w,W w→w≠s→rk w≤rk a→least≤aL A (bl.getD w 0).toNat
theorem PA.step {p:Nat→Arc} {A0 A:List Arc} {m N s e:Nat} {bl:List Int} {q:List Nat} {rk:Nat→Nat} {W:Nat→Prop} {a k:Nat} {l x:Int} (B:BQ A0 m N s bl q rk) (R0:RSE p m A0 (stE s e x)) (P:PW A0 s bl q W s l) (h:PA p m s e A0 bl W rk x l A a) (has:a≠s) (hk:bl.getD a 0=(k:Int)) (hl:0≤l) :
  PA p m s e A0 bl W rk x l (CD A l k) (aF A0 k)∧k<2*m∧l≤aL A k∧rk (aF A0 k)<rk a∧aF A0 k∈q:=by
 obtain ⟨k',h1,h2,h3,h4,h5,h6⟩:=B.by_ a (P.mem a h.cur) has
 have e1:k'=k:=by omega
 subst e1
 have hF:∀j,j<2*m→aF A j=aF A0 j∧aT A j=aT A0 j:=fun j hj=>by
  obtain ⟨i,hi,e | e⟩:=B5 hj
  ·subst e;rw[(h.rs.fr i hi).1,(h.rs.fr i hi).2.1,(R0.fr i hi).1,(R0.fr i hi).2.1];exact⟨rfl,rfl⟩
  ·subst e;rw[(h.rs.fr i hi).2.2.1,(h.rs.fr i hi).2.2.2,(R0.fr i hi).2.2.1,(R0.fr i hi).2.2.2];exact⟨rfl,rfl⟩
 have hle:l≤aL A k':=by
  have := h.lf a h.cur has (Nat.le_refl _)
  rwa [hk,Int.toNat_natCast]at this
 have hWn:W (aF A0 k'):=by
  rcases P.nx a h.cur with e2 | ⟨_,_,g⟩
  ·exact absurd e2 has
  ·rwa [hk,Int.toNat_natCast]at g
 refine ⟨⟨(h.rs.aug h1 hl hle).congr fun v=>?_,hWn,fun w hw hws hr=>?_⟩,h1,hle,h6,h5⟩
 ·rw [(hF k' h1).1,(hF k' h1).2,h3]
  unfold stE
  omega
 ·have h7:=h.lf w hw hws (by omega)
  obtain ⟨j,g1,g2,g3,g4,g5,g6⟩:=B.by_ w (P.mem w hw) hws
  rw [g2,Int.toNat_natCast]at h7 ⊢
  rw [KC h.rs.len h1]
  have : j≠k':=fun e2=>by
   subst e2
   rw [h3]at g3
   subst g3
   omega
  rw [if_neg this]
  split <;> omega
theorem PA.end_ {p:Nat→Arc} {m s e:Nat} {A0 A:List Arc} {bl:List Int} {W:Nat→Prop} {rk:Nat→Nat} {x l:Int} (h:PA p m s e A0 bl W rk x l A s):RSE p m A (stE s e (x+l)):=h.rs.congr fun v=>by unfold stE;split <;> split <;> omega
theorem PA.ini {p:Nat→Arc} {m s e:Nat} {A0:List Arc} {bl:List Int} {q:List Nat} {W:Nat→Prop} {rk:Nat→Nat} {x l:Int} (R0:RSE p m A0 (stE s e x)) (P:PW A0 s bl q W s l) (he:W e):PA p m s e A0 bl W rk x l A0 e :=
 ⟨R0.congr fun v=>by unfold stE;split <;> split <;> omega,he,fun w hw hws _=>by
  rcases P.nx w hw with e2 | ⟨_,g,_⟩
  ·exact absurd e2 hws
  ·exact g⟩
structure Cls (G:FN) (f:Nat→Int) (x:Int) (S:Nat→Prop):Prop where
 flow : G.Flow f x
 s : S G.s
 t : ¬S G.t
 out : ∀i,i<G.m→S (G.fr i)→f i<G.cap i→S (G.to i)
 inn : ∀i,i<G.m→S (G.to i)→0<f i→S (G.fr i)
 least : ∀S':Nat→Prop,S' G.s→(∀i,i<G.m→S' (G.fr i)→f i<G.cap i→S' (G.to i))→(∀i,i<G.m→S' (G.to i)→0<f i→S' (G.fr i))→∀v,S v→S' v
theorem Cls.max {G:FN} (w:G.WF) {f:Nat→Int} {x:Int} {S:Nat→Prop} (h:Cls G f x S) {g:Nat→Int} {b:Int} (hg:G.Flow g b):b≤x:=by
 classical
 refine FN.cut w (g:=f) (S:=S) h.flow.val hg h.s h.t (fun i hi h1 h2=>?_) (fun i hi h1 h2=>?_)
 ·exact Classical.byContradiction fun c=>h2 (h.out i hi h1 (by omega))
 ·exact Classical.byContradiction fun c=>h1 (h.inn i hi h2 (by omega))
theorem Tr {f:Nat→Int}:∀ {n},(∀i,i<n→0≤f i)→Aj f n≤0→∀i,i<n→f i=0
 | 0,_,_=>fun i hi=>absurd hi (by omega)
 | n+1,h,hs=>fun i hi=>by
  rw [Aj]at hs
  have h1:=Bp (f:=f) (n:=n) fun i hi=>h i (by omega)
  have h2:=h n (by omega)
  by_cases e:i=n
  ·subst e;omega
  ·exact Tr (n:=n) (fun i hi=>h i (by omega)) (by omega) i (by omega)
theorem Cls.full {G:FN} (w:G.WF) {f g:Nat→Int} {x:Int} {S:Nat→Prop} (h:Cls G f x S) (hg:G.Flow g x):∀i,i<G.m→(S (G.fr i)→¬S (G.to i)→g i=G.cap i)∧(¬S (G.fr i)→S (G.to i)→g i=0):=by
 classical
 have d1:=FN.dual w h.flow.val fun v=>if S v then 1 else 0
 have d2:=FN.dual w hg.val fun v=>if S v then 1 else 0
 have key:=Tr (f:=fun i=>((if S (G.fr i)then 1 else 0)-(if S (G.to i)then 1 else 0))*f i-((if S (G.fr i)then 1 else 0)-(if S (G.to i)then 1 else 0))*g i) (n:=G.m) (fun i hi=>?_) (by rw[B0,d1,d2];omega)
 ·intro i hi
  have k:=key i hi
  refine ⟨fun h1 h2=>?_,fun h1 h2=>?_⟩
  ·rw [if_pos h1,if_neg h2]at k
   have e:¬f i<G.cap i:=fun c=>h2 (h.out i hi h1 c)
   have := h.flow.le i hi
   omega
  ·rw [if_neg h1,if_pos h2]at k
   have e:¬0<f i:=fun c=>h1 (h.inn i hi h2 c)
   have := h.flow.nn i hi
   omega
 ·have a1:=h.flow.nn i hi
  have a2:=h.flow.le i hi
  have b1:=hg.nn i hi
  have b2:=hg.le i hi
  by_cases h1:S (G.fr i) <;> by_cases h2:S (G.to i)
  ·rw [if_pos h1,if_pos h2];simp
  ·rw [if_pos h1,if_neg h2]
   have e:¬f i<G.cap i:=fun c=>h2 (h.out i hi h1 c)
   omega
  ·rw [if_neg h1,if_pos h2]
   have e:¬0<f i:=fun c=>h1 (h.inn i hi h2 c)
   omega
  ·rw [if_neg h1,if_neg h2];simp
theorem Cls.sub {G:FN} (w:G.WF) {f g:Nat→Int} {x y:Int} {S T:Nat→Prop} (h:Cls G f x S) (h':Cls G g y T):∀v,S v→T v:=by
 have e1:=h.max w h'.flow
 have e2:=h'.max w h.flow
 have e:x=y:=by omega
 subst e
 have k:=h'.full w h.flow
 refine h.least T h'.s (fun i hi h1 h2=>?_) (fun i hi h1 h2=>?_)
 ·exact Classical.byContradiction fun c=>by have:=(k i hi).1 h1 c;omega
 ·exact Classical.byContradiction fun c=>by have:=(k i hi).2 c h1;omega
def NU (G:FN) (v:Nat):Prop:=∃f x S,Cls G f x S∧S v
theorem Cls.eq {G:FN} (w:G.WF) {f:Nat→Int} {x:Int} {S:Nat→Prop} (h:Cls G f x S) (v:Nat):S v↔NU G v :=
 ⟨fun hv=>⟨f,x,S,h,hv⟩,fun⟨_,_,_,h',hv⟩=>h'.sub w h v hv⟩
theorem BQ.cls {p:Nat→Arc} {A:List Arc} {m N s e:Nat} {bl:List Int} {q:List Nat} {rk:Nat→Nat} {x:Int} (B:BQ A m N s bl q rk) (R:RSE p m A (stE s e x)) {n:Nat} (hn:n=q.length) (hd:BD A m q n) (he:e ∉ q):Cls (fnP p N m s e) (flA A) x (fun v=>v∈q):=by
 have hc:=B.closed hn hd
 refine ⟨R.flow,B.src.2,he,fun i hi h1 h2=>?_,fun i hi h1 h2=>?_,fun S' hs ho hi v hv=>?_⟩
 ·have hi:i<m:=hi
  have h2:flA A i<(p i).2.2.1:=h2
  have h1:(p i).1∈q:=h1
  have f:=R.fr i hi
  have := hc (2*i) (by omega) (by have:=R.cap i hi;unfold flA at h2;omega) (by rw[f.1];exact h1)
  rw [f.2.1]at this
  exact this
 ·have hi:i<m:=hi
  have h1:(p i).2.1∈q:=h1
  have f:=R.fr i hi
  have := hc (2*i+1) (by omega) h2 (by rw[f.2.2.1];exact h1)
  rw [f.2.2.2]at this
  exact this
 ·refine B.least (S:=S') hs (fun k hk hl hF=>?_) v hv
  obtain ⟨i,him,e1 | e1⟩:=B5 hk
  ·subst e1
   have f:=R.fr i him
   rw [f.1]at hF
   rw [f.2.1]
   exact ho i him hF (by have:=R.cap i him;show aL A (2*i+1)<(p i).2.2.1;omega)
  ·subst e1
   have f:=R.fr i him
   rw [f.2.2.1]at hF
   rw [f.2.2.2]
   exact hi i him hF hl
end Sim
