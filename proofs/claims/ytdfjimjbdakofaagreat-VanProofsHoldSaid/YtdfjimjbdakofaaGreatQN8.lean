/- What functions of this seat compute, by values: contracts (lemmas of the statement's proof, under the conditions that each names). -/
import Derived.Test.YtdfjimjbdakofaaGreatQF9
import Derived.Test.YtdfjimjbdakofaaGreatQH
set_option linter.unusedVariables false
set_option linter.unusedSimpArgs false
set_option maxRecDepth 10000
set_option maxHeartbeats 4000000
namespace Sim
theorem EK {f:Nat→Int} {a:Nat}:∀ {b},An f (a+b)=An f a+An (fun i=>f (a+i)) b
 | 0=>by simp[An]
 | b+1=>by rw[←Nat.add_assoc,An,EK,An];omega
theorem Fu {f:Nat→Int} {W:Nat}:∀ {D},An f (D*W)=An (fun t=>An (fun j=>f (t*W+j)) W) D
 | 0=>by rw[Nat.zero_mul];rfl
 | D+1=>by rw[Nat.succ_mul,EK,Fu,An]
theorem Eo {g:Nat→Int} {a:Nat}:∀ {n},An (fun i=>if i=a then g i else 0) n=if a<n then g a else 0
 | 0=>by simp[An]
 | n+1=>by
  rw [An,Eo]
  by_cases c:n=a
  ·subst c;rw[if_neg (by omega),if_pos rfl,if_pos (by omega)];omega
  ·rw [if_neg c]
   by_cases c2:a<n
   ·rw [if_pos c2,if_pos (by omega)];omega
   ·rw [if_neg c2,if_neg (by omega)];rfl
theorem D6 {f:Nat→Int} {k:Nat}:∀ {n},(∀i,i<n→0≤f i)→k<n→f k≤An f n
 | 0,_,h=>absurd h (by omega)
 | n+1,h,hk=>by
  have h0:=BC (f:=f) (n:=n) fun i hi=>h i (by omega)
  rw [An]
  by_cases c:k=n
  ·subst c;omega
  ·have := D6 (f:=f) (n:=n) (fun i hi=>h i (by omega)) (show k<n by omega)
   have := h n (by omega)
   omega
theorem Gq {h t x t' x':Nat} (hx:x<h) (hx':x'<h):t'*h+x'=t*h+x↔t'=t∧x'=x:=by
 constructor
 ·intro e
  have h1:(t'*h+x') / h=t':=by rw[Nat.mul_comm,Nat.mul_add_div (by omega),Nat.div_eq_of_lt hx'];omega
  have h2:(t*h+x) / h=t:=by rw[Nat.mul_comm,Nat.mul_add_div (by omega),Nat.div_eq_of_lt hx];omega
  rw [e,h2]at h1
  subst h1
  exact ⟨rfl,by omega⟩
 ·rintro ⟨rfl,rfl⟩;rfl
structure TN where
 h : Nat
 L : Nat
 fr : Nat→Nat
 to : Nat→Nat
 lf : Nat→Nat→Int
 pr : Nat→Nat→Int
namespace TN
variable {T:TN} {D:Nat}
def W (T:TN):Nat:=T.h+T.L
def p (T:TN) (i:Nat):Arc :=
 if i % T.W<T.h then (i / T.W*T.h+i % T.W,(i / T.W+1)*T.h+i % T.W,1099511627776,0)
 else (i / T.W*T.h+T.fr (i % T.W-T.h),(i / T.W+1)*T.h+T.to (i % T.W-T.h),T.lf (i % T.W-T.h) (i / T.W),T.pr (i % T.W-T.h) (i / T.W))
structure OK (T:TN) (D:Nat):Prop where
 h1 : 0<T.h
 e : ∀k,k<T.L→T.fr k<T.h∧T.to k<T.h
 lf : ∀k t,k<T.L→t<D→0≤T.lf k t
 pr : ∀k t,k<T.L→t<D→0≤T.pr k t∧T.pr k t≤1000000
theorem row {t j:Nat} (hj:j<T.W):(t*T.W+j) / T.W=t∧(t*T.W+j) % T.W=j:=by
 refine ⟨?_,?_⟩
 ·rw [Nat.mul_comm,Nat.mul_add_div (by omega),Nat.div_eq_of_lt hj];omega
 ·rw [Nat.mul_comm,Nat.mul_add_mod,Nat.mod_eq_of_lt hj]
theorem p_house {t x:Nat} (hx:x<T.h):T.p (t*T.W+x)=(t*T.h+x,(t+1)*T.h+x,1099511627776,0):=by
 have hW:x<T.W:=by unfold W;omega
 unfold p
 rw [(row hW).1,(row hW).2,if_pos hx]
theorem p_link {t k:Nat} (hk:k<T.L):T.p (t*T.W+(T.h+k))=(t*T.h+T.fr k,(t+1)*T.h+T.to k,T.lf k t,T.pr k t):=by
 have hW:T.h+k<T.W:=by unfold W;omega
 unfold p
 rw [(row hW).1,(row hW).2,if_neg (by omega),show T.h+k-T.h=k by omega]
theorem p_ok (ok:T.OK D):SG T.p ((D+1)*T.h) (D*T.W):=fun i hi=>by
 have h1:=ok.h1
 have hW:0<T.W:=by unfold W;omega
 have ht:i / T.W<D:=by rw[Nat.div_lt_iff_lt_mul hW];exact hi
 have hj:=Nat.mod_lt i hW
 have b1:(i / T.W+1)*T.h≤D*T.h:=Nat.mul_le_mul_right _ (by omega)
 have b2:(D+1)*T.h=D*T.h+T.h:=Nat.succ_mul _ _
 have b3:(i / T.W+1)*T.h=i / T.W*T.h+T.h:=Nat.succ_mul _ _
 unfold p
 by_cases c:i % T.W<T.h
 ·rw [if_pos c]
  dsimp only
  exact ⟨by omega,by omega,by omega,by omega,by omega,by omega⟩
 ·rw [if_neg c]
  have e0:T.W=T.h+T.L:=rfl
  have hk:i % T.W-T.h<T.L:=by omega
  obtain ⟨e1,e2⟩:=ok.e _ hk
  have e3:=ok.lf _ _ hk ht
  have e4:=ok.pr _ _ hk ht
  dsimp only
  exact ⟨by omega,by omega,by omega,e3,e4.1,e4.2⟩
def G (T:TN) (D a c:Nat):FN:=fnP T.p ((D+1)*T.h) (D*T.W) a (D*T.h+c)
def outF (T:TN) (g:Nat→Nat→Int) (x t:Nat):Int:=An (fun k=>if T.fr k=x then g k t else 0) T.L
def inF (T:TN) (g:Nat→Nat→Int) (x t:Nat):Int:=An (fun k=>if T.to k=x then g k t else 0) T.L
def stk (T:TN) (a:Nat) (b:Int) (g:Nat→Nat→Int):Nat→Nat→Int
 | 0,x=>if a=x then b else 0
 | t+1,x=>stk T a b g t x-T.outF g x t+T.inF g x t
def wf (T:TN) (f:Nat→Int) (x t:Nat):Int:=f (t*T.W+x)
def gf (T:TN) (f:Nat→Int) (k t:Nat):Int:=f (t*T.W+(T.h+k))
theorem Ye (ok:T.OK D) {a c:Nat} {f:Nat→Int} {t x:Nat} (hx:x<T.h):(T.G D a c).net f (t*T.h+x)=(if t<D then T.wf f x t+T.outF (T.gf f) x t else 0)-(if 0<t∧t-1<D then T.wf f x (t-1)+T.inF (T.gf f) x (t-1)else 0):=by
 have key:∀t',An (fun j=>(if (T.p (t'*T.W+j)).1=t*T.h+x then f (t'*T.W+j)else 0)-(if (T.p (t'*T.W+j)).2.1=t*T.h+x then f (t'*T.W+j)else 0)) T.W
   = (if t'=t then T.wf f x t'+T.outF (T.gf f) x t' else 0)-(if t'+1=t then T.wf f x t'+T.inF (T.gf f) x t' else 0):=fun t'=>by
  have e0:T.W=T.h+T.L:=rfl
  have e1:An (fun j=>(if (T.p (t'*T.W+j)).1=t*T.h+x then f (t'*T.W+j)else 0)-(if (T.p (t'*T.W+j)).2.1=t*T.h+x then f (t'*T.W+j)else 0)) T.h=(if t'=t then T.wf f x t' else 0)-(if t'+1=t then T.wf f x t' else 0):=by
   rw [Ag (g:=fun j=>(if j=x then (if t'=t then T.wf f j t' else 0)else 0)-(if j=x then (if t'+1=t then T.wf f j t' else 0)else 0)) (fun j hj=>by
    rw [p_house hj]
    dsimp only
    have n1:=Gq (t:=t) (t':=t') hx hj
    have n2:=Gq (t:=t) (t':=t'+1) hx hj
    by_cases c1:j=x
    ·subst c1
     simp only[n1,n2,and_true,if_true];rfl
    ·simp only[n1,n2,c1,and_false,if_false]),Ci,Eo,Eo,if_pos hx,if_pos hx]
  have e2:An (fun k=>(if (T.p (t'*T.W+(T.h+k))).1=t*T.h+x then f (t'*T.W+(T.h+k))else 0)-(if (T.p (t'*T.W+(T.h+k))).2.1=t*T.h+x then f (t'*T.W+(T.h+k))else 0)) T.L=(if t'=t then T.outF (T.gf f) x t' else 0)-(if t'+1=t then T.inF (T.gf f) x t' else 0):=by
   rw [Ag (g:=fun k=>(if t'=t then (if T.fr k=x then T.gf f k t' else 0)else 0)-(if t'+1=t then (if T.to k=x then T.gf f k t' else 0)else 0)) (fun k hk=>by
    rw [p_link hk]
    dsimp only
    obtain ⟨q1,q2⟩:=ok.e k hk
    have n1:=Gq (t:=t) (t':=t') hx q1
    have n2:=Gq (t:=t) (t':=t'+1) hx q2
    simp only[n1,n2]
    unfold gf
    by_cases c1:t'=t <;> by_cases c2:t'+1=t <;> simp[c1,c2]),Ci]
   unfold outF inF
   congr 1
   ·by_cases c1:t'=t
    ·simp only[if_pos c1]
    ·simp only[if_neg c1];exact Bb fun _ _=>rfl
   ·by_cases c1:t'+1=t
    ·simp only[if_pos c1]
    ·simp only[if_neg c1];exact Bb fun _ _=>rfl
  rw [e0,EK,←e0,e1,e2]
  by_cases c1:t'=t <;> by_cases c2:t'+1=t <;> simp[c1,c2] <;> omega
 have : (T.G D a c).net f (t*T.h+x)=An (fun t'=>(if t'=t then T.wf f x t'+T.outF (T.gf f) x t' else 0)-(if t'+1=t then T.wf f x t'+T.inF (T.gf f) x t' else 0)) D:=by
  show An _ (D*T.W)=_
  rw [Fu]
  exact Ag fun t' _=>key t'
 rw [this,Ci,Eo (g:=fun t'=>T.wf f x t'+T.outF (T.gf f) x t')]
 congr 1
 by_cases c:0<t
 ·rw [Ag (g:=fun t'=>if t'=t-1 then T.wf f x t'+T.inF (T.gf f) x t' else 0) (fun t' _=>by
   by_cases c1:t'+1=t
   ·rw [if_pos c1,if_pos (by omega)]
   ·rw [if_neg c1,if_neg (by omega)]),Eo (g:=fun t'=>T.wf f x t'+T.inF (T.gf f) x t')]
  simp [c]
 ·rw [Bb (fun t' _=>by rw[if_neg (by omega)]),if_neg (fun g=>c g.1)]
theorem Zn {a c:Nat} {f:Nat→Int}:(T.G D a c).cost f=An (fun t=>An (fun k=>T.pr k t*T.gf f k t) T.L) D:=by
 show An (fun i=>(T.p i).2.2.2*f i) (D*T.W)=_
 rw [Fu]
 refine Ag fun t _=>?_
 have e0:T.W=T.h+T.L:=rfl
 conv => lhs;rw[e0,EK,←e0]
 rw [Bb (fun x hx=>by rw[p_house hx];exact Int.zero_mul _),Int.zero_add]
 exact Ag fun k hk=>by rw[p_link hk];rfl
structure Plan (T:TN) (D a c:Nat) (b:Int) (g:Nat→Nat→Int):Prop where
 nn : ∀k t,k<T.L→t<D→0≤g k t
 le : ∀k t,k<T.L→t<D→g k t≤T.lf k t
 st : ∀t x,t<D→x<T.h→T.outF g x t≤T.stk a b g t x
 en : ∀x,x<T.h→T.stk a b g D x=if c=x then b else 0
def cst (T:TN) (D:Nat) (g:Nat→Nat→Int):Int:=An (fun t=>An (fun k=>T.pr k t*g k t) T.L) D
section
variable {g g':Nat→Nat→Int} {x t:Nat}
theorem outF_congr (h:∀k,k<T.L→g k t=g' k t):T.outF g x t=T.outF g' x t:=Ag fun k hk=>by rw[h k hk]
theorem QY (h:∀k,k<T.L→g k t=g' k t):T.inF g x t=T.inF g' x t:=Ag fun k hk=>by rw[h k hk]
end
theorem stk_congr {g g':Nat→Nat→Int} {a:Nat} {b:Int} {x:Nat}:∀ {t},(∀k t',k<T.L→t'<t→g k t'=g' k t')→T.stk a b g t x=T.stk a b g' t x
 | 0,_=>rfl
 | t+1,h=>by
  rw [stk,stk,stk_congr fun k t' hk ht=>h k t' hk (by omega),outF_congr fun k hk=>h k t hk (by omega),QY fun k hk=>h k t hk (by omega)]
theorem Plan.congr {a c:Nat} {b:Int} {g g':Nat→Nat→Int} (P:T.Plan D a c b g) (h:∀k t,k<T.L→t<D→g k t=g' k t):T.Plan D a c b g':=by
 refine ⟨fun k t hk ht=>?_,fun k t hk ht=>?_,fun t x ht hx=>?_,fun x hx=>?_⟩
 ·rw [←h k t hk ht];exact P.nn k t hk ht
 ·rw [←h k t hk ht];exact P.le k t hk ht
 ·rw [←outF_congr fun k hk=>h k t hk ht,←stk_congr fun k t' hk ht'=>h k t' hk (by omega)];exact P.st t x ht hx
 ·rw [←stk_congr fun k t' hk ht'=>h k t' hk ht'];exact P.en x hx
theorem cst_congr {g g':Nat→Nat→Int} (h:∀k t,k<T.L→t<D→g k t=g' k t):T.cst D g=T.cst D g':=Ag fun t ht=>Ag fun k hk=>by rw[h k t hk ht]
theorem house_of {i:Nat} (h1:0<T.h) (hi:i<D*T.W):∃t,t<D∧((∃x,x<T.h∧i=t*T.W+x)∨∃k,k<T.L∧i=t*T.W+(T.h+k)):=by
 have hW:0<T.W:=by unfold W;omega
 have ht:i / T.W<D:=by rw[Nat.div_lt_iff_lt_mul hW];exact hi
 have hj:=Nat.mod_lt i hW
 have e0:T.W=T.h+T.L:=rfl
 have hd:i=i / T.W*T.W+i % T.W:=by rw[Nat.mul_comm];exact (Nat.div_add_mod i T.W).symm
 refine ⟨i / T.W,ht,?_⟩
 by_cases c:i % T.W<T.h
 ·exact .inl ⟨_,c,hd⟩
 ·refine .inr ⟨i % T.W-T.h,by omega,?_⟩
  rw [show T.h+(i % T.W-T.h)=i % T.W by omega];exact hd
theorem Ab3 {v:Nat} (h1:0<T.h) (hv:v<(D+1)*T.h):∃t x,t≤D∧x<T.h∧v=t*T.h+x:=by
 have ht:v / T.h<D+1:=by rw[Nat.div_lt_iff_lt_mul h1];exact hv
 exact ⟨v / T.h,v % T.h,by omega,Nat.mod_lt _ h1,by rw[Nat.mul_comm];exact (Nat.div_add_mod v T.h).symm⟩
theorem pair_lt {t:Nat} (ht:t<D) {j:Nat} (hj:j<T.W):t*T.W+j<D*T.W:=by
 have : (t+1)*T.W≤D*T.W:=Nat.mul_le_mul_right _ (by omega)
 rw [Nat.succ_mul]at this
 omega
theorem node_lt {t x:Nat} (ht:t≤D) (hx:x<T.h):t*T.h+x<(D+1)*T.h:=by
 have : (t+1)*T.h≤(D+1)*T.h:=Nat.mul_le_mul_right _ (by omega)
 rw [Nat.succ_mul]at this
 omega
theorem src_eq {a x t:Nat} (ha:a<T.h) (hx:x<T.h):a=t*T.h+x↔t=0∧a=x:=by
 have := Gq (t:=t) (t':=0) hx ha
 rw [Nat.zero_mul,Nat.zero_add]at this
 rw [this]
 constructor <;> (rintro⟨rfl,rfl⟩;exact⟨rfl,rfl⟩)
theorem flow_plan (ok:T.OK D) {a c:Nat} (ha:a<T.h) (hc:c<T.h) {f:Nat→Int} {b:Int} (hf:(T.G D a c).Flow f b):T.Plan D a c b (T.gf f)∧(T.G D a c).cost f=T.cst D (T.gf f):=by
 have hW:∀x,x<T.h→x<T.W:=fun x hx=>by unfold W;omega
 have hWk:∀k,k<T.L→T.h+k<T.W:=fun k hk=>by unfold W;omega
 have val:∀t x,t≤D→x<T.h→(if t<D then T.wf f x t+T.outF (T.gf f) x t else 0)-(if 0<t∧t-1<D then T.wf f x (t-1)+T.inF (T.gf f) x (t-1)else 0)=(if t=0∧a=x then b else 0)-(if D=t∧c=x then b else 0):=fun t x ht hx=>by
  rw [←Ye ok hx,hf.val _ (node_lt ht hx)]
  show (if a=t*T.h+x then b else 0)-(if D*T.h+c=t*T.h+x then b else 0)=_
  have n2:=Gq (t:=t) (t':=D) hx hc
  simp only[src_eq ha hx,n2]
 have key:∀t x,t<D→x<T.h→T.wf f x t+T.outF (T.gf f) x t=T.stk a b (T.gf f) t x:=by
  intro t x ht hx
  induction t with
  | zero =>
   have := val 0 x (by omega) hx
   rw [if_pos ht,if_neg (fun g=>absurd g.1 (by omega)),if_neg (show ¬(D=0∧c=x) from fun g=>by omega)]at this
   simp only[true_and]at this
   rw [stk];omega
  | succ t ih =>
   have ih:=ih (by omega)
   have := val (t+1) x (by omega) hx
   rw [if_pos ht,if_pos ⟨by omega,by omega⟩,if_neg (fun g=>by omega),if_neg (fun g=>by omega),Nat.add_sub_cancel]at this
   rw [stk];omega
 refine ⟨⟨fun k t hk ht=>hf.nn _ (pair_lt ht (hWk k hk)),fun k t hk ht=>?_,fun t x ht hx=>?_,fun x hx=>?_⟩,Zn⟩
 ·have := hf.le _ (pair_lt ht (hWk k hk))
  have e:(T.G D a c).cap (t*T.W+(T.h+k))=T.lf k t:=by show (T.p _).2.2.1=_;rw[p_link hk]
  rw [e]at this
  exact this
 ·have h1:=key t x ht hx
  have h2:0≤T.wf f x t:=hf.nn _ (pair_lt ht (hW x hx))
  omega
 ·cases D with
  | zero =>
   have := val 0 x (by omega) hx
   rw [if_neg (by omega),if_neg (fun g=>by omega)]at this
   simp only[true_and]at this
   rw [stk];omega
  | succ D =>
   have h1:=key D x (by omega) hx
   have := val (D+1) x (by omega) hx
   rw [if_neg (by omega),if_pos ⟨by omega,by omega⟩,if_neg (fun g=>by omega),Nat.add_sub_cancel]at this
   simp only[true_and]at this
   rw [stk];omega
theorem Ab4 (ok:T.OK D) {g:Nat→Nat→Int} {t:Nat}:An (fun x=>T.outF g x t) T.h=An (fun k=>g k t) T.L:=by
 unfold outF
 rw [CY]
 refine Ag fun k hk=>?_
 rw [BG,if_pos (ok.e k hk).1]
theorem Aib (ok:T.OK D) {g:Nat→Nat→Int} {t:Nat}:An (fun x=>T.inF g x t) T.h=An (fun k=>g k t) T.L:=by
 unfold inF
 rw [CY]
 refine Ag fun k hk=>?_
 rw [BG,if_pos (ok.e k hk).2]
theorem Zo (ok:T.OK D) {a:Nat} (ha:a<T.h) {b:Int} {g:Nat→Nat→Int}:∀t,An (fun x=>T.stk a b g t x) T.h=b
 | 0=>by
  show An (fun x=>if a=x then b else 0) T.h=b
  rw [BG,if_pos ha]
 | t+1=>by
  show An (fun x=>T.stk a b g t x-T.outF g x t+T.inF g x t) T.h=b
  rw [BB,Ci,Zo ok ha,Ab4 ok,Aib ok];omega
theorem Zp {g:Nat→Nat→Int} {x t:Nat} (h:∀k,k<T.L→0≤g k t):0≤T.outF g x t:=BC fun k hk=>by
 split
 ·exact h k hk
 ·exact Int.le_refl _
theorem Plan.stk_nn {a c:Nat} {b:Int} {g:Nat→Nat→Int} (P:T.Plan D a c b g) {t x:Nat} (ht:t<D) (hx:x<T.h):0≤T.stk a b g t x:=by
 have := P.st t x ht hx
 have := Zp (T:=T) (x:=x) fun k hk=>P.nn k t hk ht
 omega
theorem Plan.stk_le {a c:Nat} (ok:T.OK D) (ha:a<T.h) {b:Int} {g:Nat→Nat→Int} (P:T.Plan D a c b g) {t x:Nat} (ht:t<D) (hx:x<T.h):T.stk a b g t x≤b:=by
 have := D6 (f:=fun x=>T.stk a b g t x) (fun i hi=>P.stk_nn ht hi) hx
 rw [Zo ok ha]at this
 exact this
def fOf (T:TN) (a:Nat) (b:Int) (g:Nat→Nat→Int) (i:Nat):Int:=if i % T.W<T.h then T.stk a b g (i / T.W) (i % T.W)-T.outF g (i % T.W) (i / T.W)else g (i % T.W-T.h) (i / T.W)
section
variable {a:Nat} {b:Int} {g:Nat→Nat→Int}
theorem rV {x t:Nat} (hx:x<T.h):T.wf (T.fOf a b g) x t=T.stk a b g t x-T.outF g x t:=by
 have hW:x<T.W:=by unfold W;omega
 unfold wf fOf
 rw [(row hW).1,(row hW).2,if_pos hx]
theorem Vm {k t:Nat} (hk:k<T.L):T.gf (T.fOf a b g) k t=g k t:=by
 have hW:T.h+k<T.W:=by unfold W;omega
 unfold gf fOf
 rw [(row hW).1,(row hW).2,if_neg (by omega),show T.h+k-T.h=k by omega]
end
theorem plan_flow (ok:T.OK D) {a c:Nat} (ha:a<T.h) (hc:c<T.h) {g:Nat→Nat→Int} {b:Int} (hb:b≤1099511627776) (P:T.Plan D a c b g):(T.G D a c).Flow (T.fOf a b g) b∧(T.G D a c).cost (T.fOf a b g)=T.cst D g:=by
 have hw:∀t x,t<D→x<T.h→0≤T.wf (T.fOf a b g) x t∧T.wf (T.fOf a b g) x t≤b:=fun t x ht hx=>by
  rw [rV hx]
  have h1:=P.st t x ht hx
  have h2:=P.stk_le ok ha ht hx
  have h3:=Zp (T:=T) (x:=x) fun k hk=>P.nn k t hk ht
  omega
 refine ⟨⟨fun i hi=>?_,fun i hi=>?_,fun v hv=>?_⟩,by rw[Zn];exact cst_congr fun k t hk ht=>Vm hk⟩
 ·obtain ⟨t,ht,⟨x,hx,rfl⟩ | ⟨k,hk,rfl⟩⟩:=house_of ok.h1 hi
  ·exact (hw t x ht hx).1
  ·have := P.nn k t hk ht
   rw [←Vm (g:=g) (a:=a) (b:=b) hk]at this
   exact this
 ·obtain ⟨t,ht,⟨x,hx,rfl⟩ | ⟨k,hk,rfl⟩⟩:=house_of ok.h1 hi
  ·show T.wf (T.fOf a b g) x t≤(T.p _).2.2.1
   rw [p_house hx]
   have :=(hw t x ht hx).2
   dsimp only;omega
  ·show T.gf (T.fOf a b g) k t≤(T.p _).2.2.1
   rw [p_link hk,Vm hk]
   exact P.le k t hk ht
 ·obtain ⟨t,x,ht,hx,rfl⟩:=Ab3 ok.h1 hv
  rw [Ye ok hx]
  show _=(if a=t*T.h+x then b else 0)-(if D*T.h+c=t*T.h+x then b else 0)
  have n2:=Gq (t:=t) (t':=D) hx hc
  simp only[src_eq ha hx,n2]
  have eo:∀t,T.outF (T.gf (T.fOf a b g)) x t=T.outF g x t:=fun t=>outF_congr fun k hk=>Vm hk
  have ei:∀t,T.inF (T.gf (T.fOf a b g)) x t=T.inF g x t:=fun t=>QY fun k hk=>Vm hk
  rw [eo,ei,rV hx,rV hx]
  have hen:=P.en x hx
  cases t with
  | zero =>
   rw [if_neg (show ¬(0<0∧0-1<D) from fun g=>by omega)]
   by_cases c0:0<D
   ·rw [if_pos c0,if_neg (show ¬(D=0∧c=x) from fun g=>by omega),stk];simp only[true_and];omega
   ·have : D=0:=by omega
    subst this
    rw [if_neg c0]
    rw [stk]at hen
    simp only[true_and];omega
  | succ t =>
   rw [if_neg (show ¬(t+1=0∧a=x) from fun g=>by omega),Nat.add_sub_cancel,if_pos (show 0<t+1∧t<D from ⟨by omega,by omega⟩)]
   by_cases c0:t+1<D
   ·rw [if_pos c0,if_neg (show ¬(D=t+1∧c=x) from fun g=>by omega),stk];omega
   ·have : D=t+1:=by omega
    subst this
    rw [if_neg c0]
    rw [stk]at hen
    simp only[true_and];omega
theorem Plan.more {T':TN} {D' a c:Nat} {b:Int} {g:Nat→Nat→Int} (hh:T'.h=T.h) (hL:T'.L=T.L) (hf:T'.fr=T.fr) (ht:T'.to=T.to) (hl:∀k t,k<T.L→t<D→T.lf k t≤T'.lf k t) (hl0:∀k t,k<T.L→t<D'→0≤T'.lf k t) (hD:D≤D') (hb:0≤b) (P:T.Plan D a c b g) :
  T'.Plan D' a c b (fun k t=>if t<D then g k t else 0):=by
 have eo:∀(g:Nat→Nat→Int) x t,T'.outF g x t=T.outF g x t:=fun g x t=>by unfold outF;rw[hL,hf]
 have ei:∀(g:Nat→Nat→Int) x t,T'.inF g x t=T.inF g x t:=fun g x t=>by unfold inF;rw[hL,ht]
 have es:∀(g:Nat→Nat→Int) t x,T'.stk a b g t x=T.stk a b g t x:=fun g t x=>by
  induction t with
  | zero=>rfl
  | succ t ih=>rw[stk,stk,ih,eo,ei]
 have o0:∀x t,¬t<D→T.outF (fun k t=>if t<D then g k t else 0) x t=0:=fun x t ht=>Bb fun k _=>by dsimp only;rw[if_neg ht];split <;> rfl
 have i0:∀x t,¬t<D→T.inF (fun k t=>if t<D then g k t else 0) x t=0:=fun x t ht=>Bb fun k _=>by dsimp only;rw[if_neg ht];split <;> rfl
 have s0:∀x t,t≤D→T.stk a b (fun k t=>if t<D then g k t else 0) t x=T.stk a b g t x:=fun x t ht=>stk_congr fun k t' _ ht'=>by rw[if_pos (by omega)]
 have s1:∀x j,x<T.h→T.stk a b (fun k t=>if t<D then g k t else 0) (D+j) x=if c=x then b else 0:=fun x j hx=>by
  induction j with
  | zero=>rw[Nat.add_zero,s0 x D (Nat.le_refl _)];exact P.en x hx
  | succ j ih=>rw[←Nat.add_assoc,stk,ih,o0 x _ (by omega),i0 x _ (by omega)];omega
 refine ⟨fun k t hk _=>?_,fun k t hk ht'=>?_,fun t x ht' hx=>?_,fun x hx=>?_⟩
 ·split
  ·rename_i c0;exact P.nn k t (by rw[←hL];exact hk) c0
  ·exact Int.le_refl _
 ·rw [hL]at hk
  split
  ·rename_i c0
   have := P.le k t hk c0
   have := hl k t hk c0
   omega
  ·exact hl0 k t hk ht'
 ·rw [hh]at hx
  rw [eo,es]
  by_cases c0:t<D
  ·rw [outF_congr (g':=g) fun k _=>by rw[if_pos c0],s0 x t (by omega)];exact P.st t x c0 hx
  ·rw [o0 x t c0,show t=D+(t-D) by omega,s1 x _ hx]
   split <;> omega
 ·rw [hh]at hx
  rw [es,show D'=D+(D'-D) by omega,s1 x _ hx]
theorem Plan.add {T2 T':TN} {a c:Nat} {b b2:Int} {g g2:Nat→Nat→Int} (h2:T2.h=T.h) (L2:T2.L=T.L) (f2:T2.fr=T.fr) (t2:T2.to=T.to) (h':T'.h=T.h) (L':T'.L=T.L) (f':T'.fr=T.fr) (t':T'.to=T.to)
  (hl : ∀k t,k<T.L→t<D→g k t+g2 k t≤T'.lf k t) (P:T.Plan D a c b g) (P2:T2.Plan D a c b2 g2):T'.Plan D a c (b+b2) (fun k t=>g k t+g2 k t):=by
 have eo2:∀x t,T2.outF g2 x t=T.outF g2 x t:=fun x t=>by unfold outF;rw[L2,f2]
 have ei2:∀x t,T2.inF g2 x t=T.inF g2 x t:=fun x t=>by unfold inF;rw[L2,t2]
 have es2:∀t x,T2.stk a b2 g2 t x=T.stk a b2 g2 t x:=fun t x=>by
  induction t with
  | zero=>rfl
  | succ t ih=>rw[stk,stk,ih,eo2,ei2]
 have eo:∀x t,T'.outF (fun k t=>g k t+g2 k t) x t=T.outF g x t+T.outF g2 x t:=fun x t=>by
  unfold outF
  rw [L',f',←BB]
  exact Ag fun k _=>by split <;> rfl
 have ei:∀x t,T'.inF (fun k t=>g k t+g2 k t) x t=T.inF g x t+T.inF g2 x t:=fun x t=>by
  unfold inF
  rw [L',t',←BB]
  exact Ag fun k _=>by split <;> rfl
 have es:∀t x,T'.stk a (b+b2) (fun k t=>g k t+g2 k t) t x=T.stk a b g t x+T.stk a b2 g2 t x:=fun t x=>by
  induction t with
  | zero=>rw[stk,stk,stk];split <;> rfl
  | succ t ih=>rw[stk,stk,stk,ih,eo,ei];omega
 refine ⟨fun k t hk ht=>?_,fun k t hk ht=>hl k t (by rw[←L'];exact hk) ht,fun t x ht hx=>?_,fun x hx=>?_⟩
 ·rw [L']at hk
  have := P.nn k t hk ht
  have := P2.nn k t (by rw[L2];exact hk) ht
  omega
 ·rw [h']at hx
  have h3:=P.st t x ht hx
  have h4:=P2.st t x ht (by rw[h2];exact hx)
  rw [eo2,es2]at h4
  rw [eo,es];omega
 ·rw [h']at hx
  have h3:=P.en x hx
  have h4:=P2.en x (by rw[h2];exact hx)
  rw [es2]at h4
  rw [es,h3,h4]
  split <;> rfl
end TN
end Sim
namespace Sim
open Go Go.Proofs
attribute [local congr] Ai Aj Af At Am Al Aq
structure GA where
 B : Nat
 A : List Arc
 out : List (List Nat)
 lv : List Int
 u : Nat
 v : Nat
 x : Int
 y : Int
def OV (x:GA) (st:Store):Prop:=GrAt x.B x.A x.out x.lv st.obj∧x.u<x.out.length∧x.v<x.out.length∧¬x.u=x.v∧x.B+5+x.out.length≤st.next∧x.A.length≤1000000∧x.A.length % 2=0∧(x.out.getD x.u []).length≤1000000∧(x.out.getD x.v []).length≤1000000 ∧ -1000000≤x.y∧x.y≤1000000
def OX (x:GA):List PV := [gP x.B,I (x.u:Nat),I (x.v:Nat),I x.x,I x.y]
def aO (ob:Nat→Option IObj) (B u v n:Nat) (A:List Arc) (out:List (List Nat)) (lv:List Int):Nat→Option IObj :=
 Ab (Ab (Ab (Ab (Ab ob (B+5+u) (some (.arr (out.getD u []).length 1 (Cc (out.getD u []))))) (B+5+v) (some (.arr (out.getD v []).length 1 (Cc (out.getD v []))))) B (some (.arr 1 1 (GX B out)))) (B+4) (some (.arr n 4 (A.map EX)))) (B+2) (some (.arr 0 3 [.agg [.ref (B+4) n 0 A.length,.ref B 1 0 out.length,.ref (B+1) 1 0 lv.length]]))
def QZ (x:GA) (st:Store):PV×Store:=(.tuple [],⟨aO st.obj x.B x.u x.v (x.A.length / 2+1) (Gf x.A x.u x.v x.x x.y) (EJ x.out x.u x.v x.A.length) x.lv,st.next⟩)
noncomputable def e_add:Nat×Ent:=(87,.x (A8 OX OV QZ))
theorem Vn {B u n:Nat} {out:List (List Nat)} (h:u<out.length):(GX B out).set u (PV.ref (B+5+u) ((out.getD u []).length+1) 0 ((out.getD u []).length+1))=GX B (out.set u (out.getD u [] ++ [n])):=by
 refine List.ext_getElem (by simp[GX]) fun i h1 h2=>?_
 rw [List.length_set,GY]at h1
 rw [List.getElem_set]
 by_cases c:u=i
 ·subst c
  rw [if_pos rfl]
  simp [GX,h]
 ·rw [if_neg c]
  simp [GX,c]
theorem Q0 {B u:Nat} {out:List (List Nat)} (h:u<out.length):(GX B out).all PV.isInt=false:=by
 cases hh:(GX B out).all PV.isInt with
 | false=>rfl
 | true =>
  rw [List.all_eq_true]at hh
  have := hh _ (List.mem_of_getElem? (Db (es:=GX B out) (i:=u) (by rw[GY];exact h)))
  rw [Lo h]at this
  cases this
theorem Al6:AM Tryz.prog e_add.1 e_add.2:=Ca fun x st hx=>by
 obtain ⟨B,A,out,lv,u,v,x,y⟩:=x
 obtain ⟨ob,M⟩:=st
 unfold OV at hx
 dsimp only at hx
 obtain ⟨h1,hu,hv,huv,h4,h8,h9,h10,h11,h12,h13⟩:=hx
 simp only[OX,QZ]
 have G0:=h1.o0
 have G2:=h1.o2
 have G4:=h1.o4
 have Gu:=h1.o5 u hu
 have Gv:=h1.o5 v hv
 unfold JL at G2
 obtain ⟨i2,hi2⟩:∃i,i=B+2:=⟨_,rfl⟩
 obtain ⟨i4,hi4⟩:∃i,i=B+4:=⟨_,rfl⟩
 obtain ⟨iu,hiu⟩:∃i,i=B+5+u:=⟨_,rfl⟩
 obtain ⟨iv,hiv⟩:∃i,i=B+5+v:=⟨_,rfl⟩
 have nu:=Lo (B:=B) hu
 have hol:=GY (B:=B) (out:=out)
 have su:=Vn (B:=B) (n:=A.length) hu
 have sv:=Vn (B:=B) (n:=A.length+1) (out:=out.set u (out.getD u [] ++ [A.length])) (u:=v) (by rw[List.length_set];exact hv)
 have nv:=Lo (B:=B) (out:=out.set u (out.getD u [] ++ [A.length])) (u:=v) (by rw[List.length_set];exact hv)
 have ev:(out.set u (out.getD u [] ++ [A.length])).getD v []=out.getD v []:=by
  rw [List.getD_eq_getElem?_getD,List.getElem?_set_ne huv,List.getD_eq_getElem?_getD]
 rw [ev]at sv nv
 have hol2:(GX B (out.set u (out.getD u [] ++ [A.length]))).length=out.length:=by rw[GY,List.length_set]
 have hO:aO ob B u v (A.length / 2+1) (Gf A u v x y) (EJ out u v A.length) lv=aO ob B u v (A.length / 2+1) (Gf A u v x y) (EJ out u v A.length) lv:=rfl
 rw [←hi2,←hi4]at G2
 rw [←hi4]at G4
 rw [←hiu]at Gu nu su
 rw [←hiv]at Gv nv sv
 unfold gP
 rw [←hi2]
 have d1:¬B=i2:=by omega
 have d2:¬B=i4:=by omega
 have d3:¬B=iu:=by omega
 have d4:¬B=iv:=by omega
 have d5:¬i2=B:=by omega
 have d6:¬i2=i4:=by omega
 have d7:¬i2=iu:=by omega
 have d8:¬i2=iv:=by omega
 have d9:¬i4=B:=by omega
 have d10:¬i4=i2:=by omega
 have d11:¬i4=iu:=by omega
 have d12:¬i4=iv:=by omega
 have d13:¬iu=B:=by omega
 have d14:¬iu=iv:=by omega
 have d15:¬iv=B:=by omega
 have d16:¬iv=iu:=by omega
 have d17:¬iu=i2:=by omega
 have d18:¬iv=i2:=by omega
 have d19:¬iu=i4:=by omega
 have d20:¬iv=i4:=by omega
 have wn:IntKind.i64.wrap ((A.length:Int)+1)=((A.length+1:Nat):Int):=Co (by omega)
 have wy:IntKind.i64.wrap (0-y) = -y:=by rw[Ah (by omega) (by omega)];omega
 have k1:=Q0 (B:=B) hu
 have k2:=Q0 (B:=B) (out:=out.set u (out.getD u [] ++ [A.length])) (u:=v) (by rw[List.length_set];exact hv)
 have k3:(out.getD u []).length≤2147483647:=by omega
 have k4:(out.getD v []).length≤2147483647:=by omega
 have k5:List.take (out.getD u []).length (Cc (out.getD u []))=Cc (out.getD u []):=List.take_of_length_le (by rw[GV];exact Nat.le_refl _)
 have k6:List.take (out.getD v []).length (Cc (out.getD v []))=Cc (out.getD v []):=List.take_of_length_le (by rw[GV];exact Nat.le_refl _)
 have k7:A.length≤2147483646:=by omega
 have k9:¬A.length+2≤A.length:=by omega
 have k8:List.take A.length (A.map EX)=A.map EX:=List.take_of_length_le (by rw[List.length_map];exact Nat.le_refl _)
 refine BT AP (l := []) (Au) [] [700011,700012,700013,700029,700028,700031,700032,700033,700050,700049] 0 Tryz.func87 rfl (by decide +kernel) (N:=70) rfl (by simp) rfl (by kernel_rfl) ?_
 simp only[↓bdD,bdP,seval,Ao,Store.set,Tryz.f87,ty3,AS,BL,Mm,Ef,Ie,G0,G2,G4,Gu,Gv,nu,nv,su,sv,hol,hol2,hu,hv,wn,wy,d3,d4,d5,d6,d7,d8,d9,d11,d12,d15,d16,k1,k2,k3,k4,k5,k6,k7,k8,k9,Ya,GV,Nat.mul_one]
 have z1:(EJ out u v A.length).getD u []=out.getD u [] ++ [A.length]:=by
  unfold EJ
  rw [List.getD_eq_getElem?_getD,List.getElem?_set_ne (fun e=>huv e.symm),List.getElem?_set_self hu];rfl
 have z2:(EJ out u v A.length).getD v []=out.getD v [] ++ [A.length+1]:=by
  unfold EJ
  rw [List.getD_eq_getElem?_getD,List.getElem?_set_self (by rw[List.length_set];exact hv)];rfl
 have z3:(EJ out u v A.length).length=out.length:=by unfold EJ;rw[List.length_set,List.length_set]
 have z4:(Gf A u v x y).length=A.length+2:=by unfold Gf;rw[List.length_append];rfl
 have z5:(Gf A u v x y).map EX=A.map EX ++ [.agg [I (u:Nat),I (v:Nat),I x,I y],.agg [I (v:Nat),I (u:Nat),I 0,I (-y)]]:=by unfold Gf;rw[List.map_append];rfl
 have z0:((out.set u (out.getD u [] ++ [A.length])).set v (out.getD v [] ++ [A.length+1]))=EJ out u v A.length:=rfl
 refine ⟨_,rfl,Left.same rfl (fun i o hi=>?_) (Nat.le_refl _)⟩
 rw [←hi]
 subst hi2 hi4 hiu hiv
 simp only[aO,Ab,z1,z2,z3,z4,z5,Vl,List.length_append,List.length_singleton,z0]
 by_cases e1:i=B+2
 ·simp only[if_pos e1]
 ·simp only[if_neg e1]
  by_cases e2:i=B+4
  ·simp only[if_pos e2]
  ·simp only[if_neg e2]
   by_cases e3:i=B
   ·simp only[if_pos e3]
   ·simp only[if_neg e3]
theorem GrAt.same {B:Nat} {A A':List Arc} {out out':List (List Nat)} {lv lv':List Int} {ob:Nat→Option IObj} (g:GrAt B A out lv ob) (g':GrAt B A' out' lv' ob):A=A'∧out=out'∧lv=lv':=by
 have e4:=g.o4.symm.trans g'.o4
 simp only[Option.some.injEq,IObj.arr.injEq,OP,true_and]at e4
 have e5:=g.o1.symm.trans g'.o1
 simp only[Option.some.injEq,IObj.arr.injEq,true_and]at e5
 have e5:lv=lv':=GN (fun x y h=>by injection h) e5
 have e0:=g.o2.symm.trans g'.o2
 simp only[JL,Option.some.injEq,IObj.arr.injEq,List.cons.injEq,PV.agg.injEq,PV.ref.injEq,true_and,and_true]at e0
 refine ⟨e4.2,List.ext_getElem e0.2.1 fun u h1 h2=>?_,e5⟩
 have q:=(g.o5 u h1).symm.trans (g'.o5 u h2)
 simp only[Option.some.injEq,IObj.arr.injEq,OU,true_and]at q
 have q:=q.2
 rwa [List.getD_eq_getElem?_getD,List.getD_eq_getElem?_getD,List.getElem?_eq_getElem h1,List.getElem?_eq_getElem h2]at q
theorem Al7 (a b:GA) (st:Store) (h:OX a=OX b) (hx:OV a st) (hy:OV b st):QZ a st=QZ b st:=by
 obtain ⟨B,A,out,lv,u,v,x,y⟩:=a
 obtain ⟨B',A',out',lv',u',v',x',y'⟩:=b
 simp only[OX,gP,List.cons.injEq,and_true,PV.ptr.injEq,PV.int.injEq,true_and]at h
 have e1:B=B':=by omega
 have e2:u=u':=by omega
 have e3:v=v':=by omega
 obtain ⟨_,_,_,e4,e5⟩:=h
 subst e1;subst e2;subst e3;subst e4;subst e5
 obtain ⟨a1,a2,a3⟩:=GrAt.same hx.1 hy.1
 dsimp only at a1 a2 a3
 subst a1;subst a2;subst a3
 rfl
theorem Al8 {B u v:Nat} {x y:Int} (A:List Arc) (out:List (List Nat)) (lv:List Int) {st:Store} (h:OV ⟨B,A,out,lv,u,v,x,y⟩ st):A8 OX OV QZ [gP B,I (u:Nat),I (v:Nat),I x,I y] st=some (.tuple [],⟨aO st.obj B u v (A.length / 2+1) (Gf A u v x y) (EJ out u v A.length) lv,st.next⟩) :=
 Ba Al7 (i:=⟨B,A,out,lv,u,v,x,y⟩) h
theorem Al9 {ob:Nat→Option IObj} {B u v:Nat} {x y:Int} {A:List Arc} {out:List (List Nat)} {lv:List Int} (h:GrAt B A out lv ob) (hu:u<out.length) (hv:v<out.length) (huv:¬u=v):GrAt B (Gf A u v x y) (EJ out u v A.length) lv (aO ob B u v (A.length / 2+1) (Gf A u v x y) (EJ out u v A.length) lv):=by
 have z3:(EJ out u v A.length).length=out.length:=by unfold EJ;rw[List.length_set,List.length_set]
 have z4:(Gf A u v x y).length=A.length+2:=by unfold Gf;rw[List.length_append];rfl
 have z6:(Gf A u v x y).length / 2=A.length / 2+1:=by omega
 refine ⟨?_,?_,?_,?_,fun w hw=>?_⟩
 ·simp only[aO,Ab];rw[if_neg (by omega),if_neg (by omega),if_pos trivial]
 ·simp only[aO,Ab];rw[if_neg (by omega),if_neg (by omega),if_neg (by omega),if_neg (by omega),if_neg (by omega)];exact h.o1
 ·simp only[aO,Ab,if_true,JL,z6]
 ·simp only[aO,Ab];rw[if_neg (by omega),if_pos trivial,z6]
 ·rw [z3]at hw
  simp only[aO,Ab]
  rw [if_neg (by omega),if_neg (by omega),if_neg (by omega)]
  by_cases c1:w=v
  ·subst c1;rw[if_pos rfl]
  ·rw [if_neg (by omega)]
   by_cases c2:w=u
   ·subst c2;rw[if_pos rfl]
   ·rw [if_neg (by omega),h.o5 w hw]
    have : (EJ out u v A.length).getD w []=out.getD w []:=by
     unfold EJ
     rw [List.getD_eq_getElem?_getD,List.getElem?_set_ne (fun e=>c1 e.symm),List.getElem?_set_ne (fun e=>c2 e.symm),List.getD_eq_getElem?_getD]
    rw [this]
def hOK (hn:Int) (h:Int):Bool:=decide (0≤h∧h<hn)
def Ik (a:Lnk):Nat→Bool
 | 0=>false
 | h+1=>Ik a h||decide (EY a h<0∨1073741824<EY a h∨Ge a h<0∨1000000<Ge a h)
def SH (hn:Int) (a:Lnk):Int:=if hOK hn a.1=false∨hOK hn a.2.1=false∨a.1=a.2.1 then 1 else if Ik a 24=true then 3 else 0
def ckT (hn:Int) (ls:List Lnk):Nat→Int
 | 0=>0
 | k+1=>if ckT hn ls k≠0 then ckT hn ls k else SH hn (ls.getD k dL)
def FO (hn:Int) (ls:List Lnk):Int:=if hn<1∨12<hn∨60<ls.length then 2 else ckT hn ls ls.length
theorem Q1 {hn:Int} {ls:List Lnk} {k:Nat} (h:ckT hn ls k≠0):∀m,ckT hn ls (k+m)=ckT hn ls k
 | 0=>rfl
 | m+1=>by
  have ih:=Q1 h m
  show (if ckT hn ls (k+m)≠0 then ckT hn ls (k+m)else _)=_
  rw [ih,if_pos h]
theorem Zq {hn:Int} {ls:List Lnk} {k m:Nat} (h:ckT hn ls k≠0) (hk:k≤m):ckT hn ls m=ckT hn ls k:=by
 have := Q1 h (m-k)
 rwa [show k+(m-k)=m by omega]at this
theorem OY {a:Lnk} {k:Nat} (h:Ik a k=true):∀m,Ik a (k+m)=true
 | 0=>h
 | m+1=>by show (Ik a (k+m)||_)=true;rw[OY h m];rfl
theorem rW {a:Lnk} {k m:Nat} (h:Ik a k=true) (hk:k≤m):Ik a m=true:=by
 have := OY h (m-k)
 rwa [show k+(m-k)=m by omega]at this
noncomputable def Hy:Int×List Lnk×Int→List PV:=fun (hn,ls,h) => [I h,.vptr [I hn,AQ ls] 0]
noncomputable def ND:Int×List Lnk×Int→PV:=fun (hn,ls,h)=>B (hOK hn h)
noncomputable def e_house:Nat×Ent:=(93,.v (Ap Hy ND AY))
theorem Ab5:∀i j,Hy i=Hy j→i=j:=by
 rintro ⟨_,_,_⟩ ⟨_,_,_⟩ h
 simp only[Hy,List.cons.injEq,and_true,PV.lits.injEq,PV.int.injEq,PV.vptr.injEq,true_and,AD]at h
 simp [h] <;> omega
theorem NE (hn:Int) (ls:List Lnk) (h:Int):Ap Hy ND AY [I h,.vptr [I hn,AQ ls] 0]=some (B (hOK hn h)):=AC Ab5 (i:=(hn,ls,h)) trivial
def Ab6:Prop:=∀(hn:Int) (ls:List Lnk) (h:Int) ,VC Tryz.prog 93 (Hy (hn,ls,h)) (ND (hn,ls,h))
theorem Ab7:Ab6:=by
 intro hn ls h
 dsimp only[Hy,ND]
 refine Bc AP (l := []) (Au) [] []  Tryz.func93 rfl (by decide +kernel) (N:=12) rfl (by simp) rfl (by kernel_rfl) fun hs=>?_
 simp only[AK,PV.small,List.length_map,and_true,true_and]at hs
 generalize hr:hOK hn h=r
 by_cases h1:0≤h
 ·by_cases h2:h<hn
  ·simp only[hOK,h1,h2,and_self,decide_true]at hr
   subst hr
   simp only[↓bdD,bdP,seval,Ao,st0,Tryz.f93,ty3,AI,h1,h2]
  ·simp only[hOK,h1,h2,and_false,decide_false]at hr
   subst hr
   simp only[↓bdD,bdP,seval,Ao,st0,Tryz.f93,ty3,AI,h1,h2]
 ·simp only[hOK,h1,false_and,decide_false]at hr
  subst hr
  simp only[↓bdD,bdP,seval,Ao,st0,Tryz.f93,h1]
theorem Ab8:AM Tryz.prog e_house.1 e_house.2:=Ax fun⟨hn,ls,h⟩ h=>Ab7 hn ls h
noncomputable def Hz:Int×List Lnk→List PV:=fun (hn,ls) => [.agg [I hn,AQ ls]]
noncomputable def NF:Int×List Lnk→PV:=fun (hn,ls)=>I (FO hn ls)
noncomputable def e_check:Nat×Ent:=(76,.v (Ap Hz NF AY))
theorem Ab9:∀i j,Hz i=Hz j→i=j:=by
 rintro ⟨_,_⟩ ⟨_,_⟩ h
 simp only[Hz,List.cons.injEq,and_true,PV.lits.injEq,PV.int.injEq,PV.agg.injEq,true_and,AD]at h
 simp [h] <;> omega
theorem SJ (hn:Int) (ls:List Lnk):Ap Hz NF AY [.agg [I hn,AQ ls]]=some (I (FO hn ls)):=AC Ab9 (i:=(hn,ls)) trivial
def Aca:Prop:=∀(hn:Int) (ls:List Lnk) ,VC Tryz.prog 76 (Hz (hn,ls)) (NF (hn,ls))
theorem Acb:Aca:=by
 intro hn ls
 dsimp only[Hz,NF]
 refine Bc AP (l := [e_house]) ((Ad Ab8 Au)) [] []  Tryz.func76 rfl (by decide +kernel) (N:=79) rfl (by simp) rfl (by kernel_rfl) fun hs=>?_
 simp only[AK,PV.small,List.length_map,and_true,true_and]at hs
 generalize hr:FO hn ls=r
 unfold FO at hr
 by_cases h1:hn<1
 ·rw [if_pos (.inl h1)]at hr
  subst hr
  simp only[↓bdD,bdP,seval,Ao,st0,e_house,Tryz.f76,ty3,AI,h1]
 by_cases h2:12<hn
 ·rw [if_pos (.inr (.inl h2))]at hr
  subst hr
  simp only[↓bdD,bdP,seval,Ao,st0,e_house,Tryz.f76,ty3,AI,h1,h2]
 by_cases h3:60<ls.length
 ·rw [if_pos (.inr (.inr h3))]at hr
  subst hr
  have h3i:(60:Int)<(ls.length:Int):=by omega
  simp only[↓bdD,bdP,seval,Ao,st0,e_house,Tryz.f76,ty3,BP,AI,h1,h2,h3i]
 rw [if_neg (fun h=>h.elim h1 (fun h=>h.elim h2 h3))]at hr
 have h3':¬(60<(ls.length:Int)):=by omega
 have hw:∀i:Nat,i<100→IntKind.i64.wrap ((i:Int)+1)=((i+1:Nat):Int):=fun i g=>by rw[Ah (by omega) (by omega)];omega
 simp only[↓bdD,bdP,seval,st0,e_house,Tryz.f76,ty3,BP,AI,h1,h2,h3']
 refine Aw [2,5,6,25,26,27,28,29,30,31,32,33,34,35,36,37,38,39,40,41,42,43,44,45,46,47,48,49,50,51,52,53,54,55,56,57,58,59,60,61,62,63,64,65,66,67,68,69,70,71,72,73,74,75,76,77,78] ls.length (fun k ρ st'=>ρ 25=I k∧ckT hn ls k=0) (.refl _) ?_ ?_
 ·simp only[↓bdD,bdP,ckT]
 ·rintro k ρ ⟨ob,M⟩ hk ⟨h25,hc⟩
  by_cases hlt:k<ls.length
  ·have hstep:ckT hn ls (k+1)=SH hn (ls.getD k dL):=by simp only[ckT,hc,ne_eq,not_true_eq_false,if_false]
   have hk64:k<100:=by omega
   have hw1:=hw k hk64
   by_cases hb:hOK hn (ls.getD k dL).1=false∨hOK hn (ls.getD k dL).2.1=false∨(ls.getD k dL).1=(ls.getD k dL).2.1
   ·have hb1:SH hn (ls.getD k dL)=1:=by unfold SH;rw[if_pos hb]
    rw [hb1]at hstep
    have hend:=Zq (m:=ls.length) (by rw[hstep];decide) (show k+1≤ls.length by omega)
    rw [hend,hstep]at hr
    subst hr
    cases g1:hOK hn (ls.getD k dL).1
    ·simp only[↓bdD,bdP,seval,Ao,Store.new,Store.set,NE,Cb,Aa,BJ,If,CT,ty3,BP,CI,h25,hlt,g1]
    cases g2:hOK hn (ls.getD k dL).2.1
    ·simp only[↓bdD,bdP,seval,Ao,Store.new,Store.set,NE,Cb,Aa,BJ,If,OQ,CT,ty3,BP,CI,h25,hlt,g1,g2]
    have g3:(ls.getD k dL).1=(ls.getD k dL).2.1:=by
     rcases hb with hb | hb | hb
     ·rw [g1]at hb;cases hb
     ·rw [g2]at hb;cases hb
     ·exact hb
    simp only[↓bdD,bdP,seval,Ao,Store.new,Store.set,NE,Cb,Aa,BJ,If,OQ,CT,ty3,BP,CI,h25,hlt,g2,g3]
   ·have g1:hOK hn (ls.getD k dL).1=true:=by cases g:hOK hn (ls.getD k dL).1;exact absurd (.inl g) hb;rfl
    have g2:hOK hn (ls.getD k dL).2.1=true:=by cases g:hOK hn (ls.getD k dL).2.1;exact absurd (.inr (.inl g)) hb;rfl
    have g3:¬(ls.getD k dL).1=(ls.getD k dL).2.1:=fun g=>hb (.inr (.inr g))
    have hb3:SH hn (ls.getD k dL)=if Ik (ls.getD k dL) 24=true then 3 else 0:=by unfold SH;rw[if_neg hb]
    rw [hb3]at hstep
    generalize hx:ls.getD k dL=x at *
    simp only[↓bdD,bdP,seval,Store.new,Store.set,NE,Cb,Aa,BJ,If,OQ,CT,ty3,BP,CI,h25,hlt,g1,g2,g3,hx]
    refine Aw [2,6,48,49,50,51,52,53,54,55,56,57,58,59,60,61,62,63,64,65,66,67,68,69,70,71,72,73,74,75,76,77] 24 (fun h ρ st'=>ρ 48=I h∧Ik x h=false∧st'.obj M=some (.arr 0 50 [.agg (lkC x)])) (.refl _) ?_ ?_
    ·simp only[↓bdD,bdP,Ik]
    ·rintro h ρ2 ⟨ob2,M2⟩ hh ⟨h48,hbh,hM⟩
     dsimp only at hM
     by_cases hh24:h<24
     ·have hw2:=hw h (by omega)
      have hi24:(h:Int)<24:=by omega
      have hbs:Ik x (h+1)=decide (EY x h<0∨1073741824<EY x h∨Ge x h<0∨1000000<Ge x h):=by simp only[Ik,hbh,Bool.false_or]
      by_cases hbad:EY x h<0∨1073741824<EY x h∨Ge x h<0∨1000000<Ge x h
      ·have he:Ik x 24=true:=rW (k:=h+1) (by rw[hbs];exact decide_eq_true hbad) (by omega)
       rw [if_pos he]at hstep
       have hend:=Zq (m:=ls.length) (by rw[hstep];decide) (show k+1≤ls.length by omega)
       rw [hend,hstep]at hr
       subst hr
       by_cases c1:EY x h<0
       ·simp only[↓bdD,bdP,seval,Ao,Fm,Nat.mul_one,ty3,OG,CI,h48,hM,hh24,hi24,c1]
       by_cases c2:1073741824<EY x h
       ·simp only[↓bdD,bdP,seval,Ao,Fm,Nat.mul_one,ty3,OG,CI,h48,hM,hh24,hi24,c1,c2]
       by_cases c3:Ge x h<0
       ·simp only[↓bdD,bdP,seval,Ao,Fm,Hw,Nat.mul_one,ty3,OG,CI,h48,hM,hh24,hi24,c1,c2,c3]
       have c4:1000000<Ge x h:=by omega
       simp only[↓bdD,bdP,seval,Ao,Fm,Hw,Nat.mul_one,ty3,OG,CI,h48,hM,hh24,hi24,c1,c2,c3,c4]
      ·rw [decide_eq_false hbad]at hbs
       have c1:¬EY x h<0:=by omega
       have c2:¬1073741824<EY x h:=by omega
       have c3:¬Ge x h<0:=by omega
       have c4:¬1000000<Ge x h:=by omega
       simp only[↓bdD,bdP,seval,Fm,Hw,Nat.mul_one,ty3,OG,CI,h48,hM,hh24,hi24,c1,c2,c3,c4,hw2,hbs]
     ·have e:h=24:=by omega
      subst e
      rw [hbh,if_neg (by simp)]at hstep
      simp only[↓bdD,bdP,seval,h25,h48,hstep,hw1]
      rw [AL (by decide +kernel)];simp only[↓bdD,bdP,Nat.reduceBEq]
  ·have e:k=ls.length:=by omega
   subst e
   rw [hc]at hr
   subst hr
   simp only[↓bdD,bdP,seval,Ao,h25]
theorem Acc:AM Tryz.prog e_check.1 e_check.2:=Ax fun⟨hn,ls⟩ h=>Acb hn ls
structure OKn (hn:Int) (ls:List Lnk):Prop where
 houses : 1≤hn∧hn≤12
 len : ls.length≤60
 ends : ∀k,k<ls.length→0≤(ls.getD k dL).1∧(ls.getD k dL).1<hn∧0≤(ls.getD k dL).2.1∧(ls.getD k dL).2.1<hn∧(ls.getD k dL).1≠(ls.getD k dL).2.1
 hours : ∀k h,k<ls.length→h<24→0≤EY (ls.getD k dL) h∧EY (ls.getD k dL) h≤1073741824∧0≤Ge (ls.getD k dL) h∧Ge (ls.getD k dL) h≤1000000
theorem badH_false {a:Lnk}:∀ {k},Ik a k=false↔∀h,h<k→0≤EY a h∧EY a h≤1073741824∧0≤Ge a h∧Ge a h≤1000000
 | 0=>⟨fun _ h g=>absurd g (by omega),fun _=>rfl⟩
 | k+1=>by
  have ih:=@badH_false a k
  simp only[Ik,Bool.or_eq_false_iff,ih,decide_eq_false_iff_not]
  constructor
  ·rintro ⟨h1,h2⟩ h hk
   by_cases e:h=k
   ·subst e;omega
   ·exact h1 h (by omega)
  ·intro h
   have := h k (by omega)
   exact ⟨fun i hi=>h i (by omega),by omega⟩
theorem Vo {hn:Int} {ls:List Lnk}:∀ {k},ckT hn ls k=0↔∀i,i<k→SH hn (ls.getD i dL)=0
 | 0=>⟨fun _ h g=>absurd g (by omega),fun _=>rfl⟩
 | k+1=>by
  have ih:=@Vo hn ls k
  simp only[ckT]
  by_cases h:ckT hn ls k=0
  ·rw [if_neg (fun hn=>hn h)]
   constructor
   ·intro hb i hi
    by_cases e:i=k
    ·subst e;exact hb
    ·exact ih.1 h i (by omega)
   ·intro g;exact g k (by omega)
  ·rw [if_pos h]
   exact ⟨fun g=>absurd g h,fun g=>absurd (ih.2 fun i hi=>g i (by omega)) h⟩
theorem check_zero {hn:Int} {ls:List Lnk}:FO hn ls=0↔OKn hn ls:=by
 unfold FO
 split
 ·rename_i h
  refine ⟨fun h=>(by cases h),fun g=>?_⟩
  have := g.houses
  have := g.len
  omega
 ·rename_i h
  rw [Vo]
  constructor
  ·intro g
   have key:∀k,k<ls.length→¬(hOK hn (ls.getD k dL).1=false∨hOK hn (ls.getD k dL).2.1=false∨(ls.getD k dL).1=(ls.getD k dL).2.1)∧Ik (ls.getD k dL) 24=false:=by
    intro k hk
    have := g k hk
    unfold SH at this
    split at this
    ·cases this
    ·rename_i h1
     refine ⟨h1,?_⟩
     cases hb:Ik (ls.getD k dL) 24
     ·rfl
     ·rw [hb]at this;cases this
   refine ⟨by omega,by omega,fun k hk=>?_,fun k h hk hh=>?_⟩
   ·obtain ⟨h1,_⟩:=key k hk
    simp only[hOK,decide_eq_false_iff_not]at h1
    exact ⟨by omega,by omega,by omega,by omega,by omega⟩
   ·exact badH_false.1 (key k hk).2 h hh
  ·intro g k hk
   have h1:=g.ends k hk
   have h2:Ik (ls.getD k dL) 24=false:=badH_false.2 fun h hh=>g.hours k h hk hh
   unfold SH
   rw [if_neg (by simp only[hOK,decide_eq_false_iff_not];omega),h2];rfl
def iH (ls:List Lnk) (l:List Snd) (k:Nat):Int :=
 if (l.getD k dS).1<0∨(ls.length:Int)≤(l.getD k dS).1 then 1
 else if (l.getD k dS).2.1<0∨1000000≤(l.getD k dS).2.1∨(l.getD k dS).2.2<1∨1073741824<(l.getD k dS).2.2 then 3
 else if 0<k∧((l.getD k dS).2.1<(l.getD (k-1) dS).2.1∨((l.getD k dS).2.1=(l.getD (k-1) dS).2.1∧(l.getD k dS).1≤(l.getD (k-1) dS).1))then 1 else 0
def rgT (ls:List Lnk) (l:List Snd):Nat→Int
 | 0=>0
 | k+1=>if rgT ls l k≠0 then rgT ls l k else iH ls l k
def Bf (hn:Int) (ls:List Lnk) (l:List Snd):Int:=if FO hn ls≠0 then FO hn ls else if 2000<l.length then 2 else rgT ls l l.length
theorem Q2 {ls:List Lnk} {l:List Snd} {k:Nat} (h:rgT ls l k≠0):∀m,rgT ls l (k+m)=rgT ls l k
 | 0=>rfl
 | m+1=>by
  have ih:=Q2 h m
  show (if rgT ls l (k+m)≠0 then rgT ls l (k+m)else _)=_
  rw [ih,if_pos h]
theorem SK {ls:List Lnk} {l:List Snd} {k m:Nat} (h:rgT ls l k≠0) (hk:k≤m):rgT ls l m=rgT ls l k:=by
 have := Q2 h (m-k)
 rwa [show k+(m-k)=m by omega]at this
noncomputable def HA:Int×List Lnk×List Snd→List PV:=fun (hn,ls,l) => [.agg [I hn,AQ ls],Ay l]
noncomputable def NG:Int×List Lnk×List Snd→PV:=fun (hn,ls,l)=>I (Bf hn ls l)
noncomputable def e_right:Nat×Ent:=(47,.v (Ap HA NG AY))
theorem Acd:∀i j,HA i=HA j→i=j:=by
 rintro ⟨_,_,_⟩ ⟨_,_,_⟩ h
 simp only[HA,List.cons.injEq,and_true,PV.lits.injEq,PV.int.injEq,PV.agg.injEq,true_and,AF,AD]at h
 simp [h] <;> omega
theorem By (hn:Int) (ls:List Lnk) (l:List Snd):Ap HA NG AY [.agg [I hn,AQ ls],Ay l]=some (I (Bf hn ls l)):=AC Acd (i:=(hn,ls,l)) trivial
def Ace:Prop:=∀(hn:Int) (ls:List Lnk) (l:List Snd) ,VC Tryz.prog 47 (HA (hn,ls,l)) (NG (hn,ls,l))
theorem Acf:Ace:=by
 intro hn ls l
 dsimp only[HA,NG]
 refine Bc AP (l := [e_check]) ((Ad Acc Au)) [] []  Tryz.func47 rfl (by decide +kernel) (N:=91) rfl (by simp) rfl (by kernel_rfl) fun hs=>?_
 simp only[AK,PV.small,List.length_map,and_true,true_and]at hs
 by_cases h:FO hn ls=0
 case neg =>
  rw [show Bf hn ls l=FO hn ls by simp[Bf,h]]
  generalize hr:FO hn ls=r at *
  simp only[↓bdD,bdP,seval,Ao,st0,e_check,SJ,Aa,Tryz.f47,AI,h,hr]
 have hc:=check_zero.1 h
 have h60:=hc.len
 by_cases hl:2000<l.length
 ·have hli:(2000:Int)<(l.length:Int):=by omega
  rw [show Bf hn ls l=2 by simp[Bf,h,hl]]
  simp only[↓bdD,bdP,seval,Ao,st0,e_check,SJ,Aa,Tryz.f47,AI,AN,h,hli]
 have hli:¬(2000:Int)<(l.length:Int):=by omega
 rw [show Bf hn ls l=rgT ls l l.length by simp[Bf,h,hl]]
 generalize hr:rgT ls l l.length=r
 simp only[↓bdD,bdP,seval,st0,e_check,SJ,Aa,Tryz.f47,AI,AN,h,hli]
 refine Aw [4,6,7,18,19,20,21,22,23,24,25,26,27,28,29,30,31,32,33,34,35,36,37,38,39,40,41,42,43,44,45,46,47,48,49,50,51,52,53,54,55,56,57,58,59,60,61,62,63,64,65,66,67,68,69,70,71,72,73,74,75,76,77,78,79,80,81,82,83,84,85,86,87,88,89,90] l.length (fun k ρ st'=>ρ 18=I k∧rgT ls l k=0) (.refl _) ?_ ?_
 ·simp only[↓bdD,bdP,rgT]
 ·rintro k ρ ⟨ob,M⟩ hk ⟨h18,hz⟩
  by_cases hlt:k<l.length
  ·have hstep:rgT ls l (k+1)=iH ls l k:=by simp only[rgT,hz,ne_eq,not_true_eq_false,if_false]
   have hw1:IntKind.i64.wrap ((k:Int)+1)=((k+1:Nat):Int):=by rw[Ah (by omega) (by omega)];omega
   unfold iH at hstep
   generalize hx:l.getD k dS=x at *
   by_cases e1:x.1<0∨(ls.length:Int)≤x.1
   ·rw [if_pos e1]at hstep
    have hend:=SK (m:=l.length) (by rw[hstep];decide) (show k+1≤l.length by omega)
    rw [hend,hstep]at hr
    subst hr
    have e:x.1<0∨(¬x.1<0∧(ls.length:Int)≤x.1):=by omega
    rcases e with e | e
    ·simp only[↓bdD,bdP,seval,Ao,Store.new,Store.set,A6,ty3,AN,Cn,h18,hlt,hx,e]
    ·simp only[↓bdD,bdP,seval,Ao,Store.new,Store.set,A6,ty3,BP,AI,AN,Cn,h18,hlt,hx,e]
   ·rw [if_neg e1]at hstep
    by_cases e2:x.2.1<0∨1000000≤x.2.1∨x.2.2<1∨1073741824<x.2.2
    ·rw [if_pos e2]at hstep
     have hend:=SK (m:=l.length) (by rw[hstep];decide) (show k+1≤l.length by omega)
     rw [hend,hstep]at hr
     subst hr
     have e:(¬x.1<0∧¬(ls.length:Int)≤x.1∧x.2.1<0)∨(¬x.1<0∧¬(ls.length:Int)≤x.1∧¬x.2.1<0∧1000000≤x.2.1)∨(¬x.1<0∧¬(ls.length:Int)≤x.1∧¬x.2.1<0∧¬1000000≤x.2.1∧x.2.2<1)∨(¬x.1<0∧¬(ls.length:Int)≤x.1∧¬x.2.1<0∧¬1000000≤x.2.1∧¬x.2.2<1∧1073741824<x.2.2):=by omega
     rcases e with e | e | e | e
     ·simp only[↓bdD,bdP,seval,Ao,Store.new,Store.set,A6,ty3,BP,AI,AN,Cn,h18,hlt,hx,e]
     ·simp only[↓bdD,bdP,seval,Ao,Store.new,Store.set,A6,ty3,BP,AI,AN,Cn,h18,hlt,hx,e]
     ·simp only[↓bdD,bdP,seval,Ao,Store.new,Store.set,A6,ty3,BP,AI,AN,Cn,h18,hlt,hx,e]
     ·simp only[↓bdD,bdP,seval,Ao,Store.new,Store.set,A6,ty3,BP,AI,AN,Cn,h18,hlt,hx,e]
    ·rw [if_neg e2]at hstep
     have e:¬x.1<0∧¬(ls.length:Int)≤x.1∧¬x.2.1<0∧¬1000000≤x.2.1∧¬x.2.2<1∧¬1073741824<x.2.2:=by omega
     by_cases h0:0<k
     case neg =>
      rw [if_neg (fun g=>h0 g.1)]at hstep
      have h0i:¬(0:Int)<(k:Int):=by omega
      simp only[↓bdD,bdP,seval,Store.new,Store.set,A6,ty3,BP,AI,AN,Cn,h18,hlt,hx,e,h0i,hw1,hstep]
     have h0i:(0:Int)<(k:Int):=by omega
     have hwm:IntKind.i64.wrap ((k:Int)-1)=((k-1:Nat):Int):=by rw[Ah (by omega) (by omega)];omega
     have hltm:k-1<l.length:=by omega
     generalize hy:l.getD (k-1) dS=y at *
     by_cases e3:x.2.1<y.2.1∨(x.2.1=y.2.1∧x.1≤y.1)
     ·rw [if_pos ⟨h0,e3⟩]at hstep
      have hend:=SK (m:=l.length) (by rw[hstep];decide) (show k+1≤l.length by omega)
      rw [hend,hstep]at hr
      subst hr
      have e':x.2.1<y.2.1∨(¬x.2.1<y.2.1∧x.2.1=y.2.1∧x.1≤y.1∧¬y.2.1<0∧¬1000000≤y.2.1∧¬y.2.1<y.2.1):=by omega
      rcases e' with e' | e'
      ·simp only[↓bdD,bdP,seval,Ao,Store.new,Store.set,A6,ty3,BP,AI,AN,Cn,h18,hlt,hx,e,h0i,hwm,hltm,hy,e']
      ·simp only[↓bdD,bdP,seval,Ao,Store.new,Store.set,A6,ty3,BP,AI,AN,Cn,h18,hlt,hx,e,h0i,hwm,hltm,hy,e']
     ·rw [if_neg (fun g=>e3 g.2)]at hstep
      have e':(¬x.2.1<y.2.1∧¬x.2.1=y.2.1∧¬y.2.1=x.2.1)∨(¬x.2.1<y.2.1∧x.2.1=y.2.1∧¬x.1≤y.1∧¬y.2.1<0∧¬1000000≤y.2.1∧¬y.2.1<y.2.1):=by omega
      rcases e' with e' | e'
      ·simp only[↓bdD,bdP,seval,Store.new,Store.set,A6,ty3,BP,AI,AN,Cn,h18,hlt,hx,e,h0i,hwm,hltm,hy,e',hw1,hstep]
      ·simp only[↓bdD,bdP,seval,Store.new,Store.set,A6,ty3,BP,AI,AN,Cn,h18,hlt,hx,e,h0i,hwm,hltm,hy,e',hw1,hstep]
  ·have e:k=l.length:=by omega
   subst e
   rw [hz]at hr
   subst hr
   simp only[↓bdD,bdP,seval,Ao,h18]
theorem Jk:AM Tryz.prog e_right.1 e_right.2:=Ax fun⟨hn,ls,l⟩ h=>Acf hn ls l
structure OKr (hn:Int) (ls:List Lnk) (l:List Snd):Prop where
 net : OKn hn ls
 len : l.length≤2000
 link : ∀k,k<l.length→0≤(l.getD k dS).1∧(l.getD k dS).1<(ls.length:Int)
 tick : ∀k,k<l.length→0≤(l.getD k dS).2.1∧(l.getD k dS).2.1<1000000
 bytes : ∀k,k<l.length→1≤(l.getD k dS).2.2∧(l.getD k dS).2.2≤1073741824
 asc : ∀k,0<k→k<l.length→(l.getD (k-1) dS).2.1<(l.getD k dS).2.1∨((l.getD (k-1) dS).2.1=(l.getD k dS).2.1∧(l.getD (k-1) dS).1<(l.getD k dS).1)
theorem Vp {ls:List Lnk} {l:List Snd}:∀ {k},rgT ls l k=0↔∀i,i<k→iH ls l i=0
 | 0=>⟨fun _ h g=>absurd g (by omega),fun _=>rfl⟩
 | k+1=>by
  have ih:=@Vp ls l k
  simp only[rgT]
  by_cases h:rgT ls l k=0
  ·rw [if_neg (fun hn=>hn h)]
   constructor
   ·intro hb i hi
    by_cases e:i=k
    ·subst e;exact hb
    ·exact ih.1 h i (by omega)
   ·intro g;exact g k (by omega)
  ·rw [if_pos h]
   exact ⟨fun g=>absurd g h,fun g=>absurd (ih.2 fun i hi=>g i (by omega)) h⟩
theorem sndE_zero {ls:List Lnk} {l:List Snd} {k:Nat}:iH ls l k=0↔(0≤(l.getD k dS).1∧(l.getD k dS).1<(ls.length:Int))∧(0≤(l.getD k dS).2.1∧(l.getD k dS).2.1<1000000)∧(1≤(l.getD k dS).2.2∧(l.getD k dS).2.2≤1073741824)∧(0<k→(l.getD (k-1) dS).2.1<(l.getD k dS).2.1∨((l.getD (k-1) dS).2.1=(l.getD k dS).2.1∧(l.getD (k-1) dS).1<(l.getD k dS).1)):=by
 unfold iH
 generalize l.getD k dS=x
 generalize l.getD (k-1) dS=y
 split
 ·constructor
  ·intro h;cases h
  ·omega
 ·split
  ·constructor
   ·intro h;cases h
   ·omega
  ·split
   ·constructor
    ·intro h;cases h
    ·omega
   ·constructor
    ·intro; omega
    ·intro; rfl
theorem right_zero {hn:Int} {ls:List Lnk} {l:List Snd}:Bf hn ls l=0↔OKr hn ls l:=by
 unfold Bf
 split
 ·rename_i h
  exact ⟨fun g=>absurd g h,fun g=>absurd (check_zero.2 g.net) h⟩
 ·rename_i h
  have h:=check_zero.1 (Classical.not_not.1 h)
  split
  ·exact ⟨fun g=>(by cases g),fun g=>(by have:=g.len;omega)⟩
  ·rw [Vp]
   constructor
   ·intro g
    exact ⟨h,by omega,fun k hk=>(sndE_zero.1 (g k hk)).1,fun k hk=>(sndE_zero.1 (g k hk)).2.1,fun k hk=>(sndE_zero.1 (g k hk)).2.2.1,fun k h0 hk=>(sndE_zero.1 (g k hk)).2.2.2 h0⟩
   ·intro g k hk
    exact sndE_zero.2 ⟨g.link k hk,g.tick k hk,g.bytes k hk,fun h0=>g.asc k h0 hk⟩
def CJ (ls:List Lnk) (link tick:Int):Int:=EY (ls.getD link.toNat dL) (tick.toNat % 24)
def Df (ls:List Lnk) (link tick:Int):Int:=Ge (ls.getD link.toNat dL) (tick.toNat % 24)
theorem MA {t:Int} (h:0≤t):Int.tmod t 24=((t.toNat % 24:Nat):Int):=by
 rw [Int.tmod_eq_emod_of_nonneg h];omega
theorem Ep {a:Int} {n:Nat} (h0:0≤a) (h:a<(n:Int)):a.toNat<n:=by omega
noncomputable def OZ:Int×List Lnk×Int×Int→List PV:=fun (hn,ls,link,tick) => [.agg [I hn,AQ ls],I link,I tick]
noncomputable def Zr:Int×List Lnk×Int×Int→PV:=fun (hn,ls,link,tick)=>I (CJ ls link tick)
def Afw:Int×List Lnk×Int×Int→Prop:=fun (hn,ls,link,tick)=>0≤link∧link<(ls.length:Int)∧0≤tick
noncomputable def e_cap:Nat×Ent:=(53,.v (Ap OZ Zr Afw))
theorem Ama:∀i j,OZ i=OZ j→i=j:=by
 rintro ⟨_,_,_,_⟩ ⟨_,_,_,_⟩ h
 simp only[OZ,List.cons.injEq,and_true,PV.lits.injEq,PV.int.injEq,PV.agg.injEq,true_and,AD]at h
 simp [h] <;> omega
theorem rX (hn:Int) (ls:List Lnk) (link:Int) (tick:Int):Ap OZ Zr Afw [.agg [I hn,AQ ls],I link,I tick]=@ite (Option (PV)) (0≤link∧link<(ls.length:Int)∧0≤tick) (Classical.propDecidable _) (some (I (CJ ls link tick))) none:=Br Ama (hn,ls,link,tick)
def Amb:Prop:=∀(hn:Int) (ls:List Lnk) (link:Int) (tick:Int) (h:0≤link∧link<(ls.length:Int)∧0≤tick) ,VC Tryz.prog 53 (OZ (hn,ls,link,tick)) (Zr (hn,ls,link,tick))
theorem Amc:Amb:=by
 rintro hn ls link tick ⟨h0,h1,h2⟩
 dsimp only[OZ,Zr]
 refine Bc AP (l := []) (Au) [] []  Tryz.func53 rfl (by decide +kernel) (N:=16) rfl (by simp) rfl (by kernel_rfl) fun hs=>?_
 simp only[AK,PV.small,List.length_map,and_true,true_and]at hs
 unfold CJ
 have h3:=MA h2
 have h4:tick.toNat % 24<24:=Nat.mod_lt _ (by omega)
 have h4i:((tick.toNat % 24:Nat):Int)<24:=by omega
 generalize tick.toNat % 24=h at *
 have h5:=Ep h0 h1
 have h6:=Int.toNat_of_nonneg h0
 generalize link.toNat=k at *
 generalize hr:EY (ls.getD k dL) h=r
 subst h6
 simp only[↓bdD,bdP,seval,Ao,st0,Cb,Fm,Nat.mul_one,Tryz.f53,ty3,BP,AI,OG,CI,h0,h1,h3,h4,h4i,h5,hr]
theorem Afx:AM Tryz.prog e_cap.1 e_cap.2:=Ax fun⟨hn,ls,link,tick⟩ h=>Amc hn ls link tick h
def ftT (ls:List Lnk) (l:List Snd):Nat→Bool
 | 0=>false
 | k+1=>ftT ls l k||decide (CJ ls (l.getD k dS).1 (l.getD k dS).2.1<(l.getD k dS).2.2)
def Cs (hn:Int) (ls:List Lnk) (l:List Snd):Int:=if Bf hn ls l≠0 then Bf hn ls l else if ftT ls l l.length=true then 13 else 0
theorem Acg {ls:List Lnk} {l:List Snd} {k m:Nat} (h:ftT ls l k=true) (hk:k≤m):ftT ls l m=true:=by
 induction m with
 | zero=>rwa [show k=0 by omega]at h
 | succ m ih =>
  by_cases e:k=m+1
  ·rwa [←e]
  ·simp only[ftT,ih (by omega),Bool.true_or]
noncomputable def Kl:Int×List Lnk×List Snd→List PV:=fun (hn,ls,l) => [.agg [I hn,AQ ls],Ay l]
noncomputable def SL:Int×List Lnk×List Snd→PV:=fun (hn,ls,l)=>I (Cs hn ls l)
noncomputable def e_fits:Nat×Ent:=(55,.v (Ap Kl SL AY))
theorem Aic:∀i j,Kl i=Kl j→i=j:=by
 rintro ⟨_,_,_⟩ ⟨_,_,_⟩ h
 simp only[Kl,List.cons.injEq,and_true,PV.lits.injEq,PV.int.injEq,PV.agg.injEq,true_and,AF,AD]at h
 simp [h] <;> omega
theorem MC (hn:Int) (ls:List Lnk) (l:List Snd):Ap Kl SL AY [.agg [I hn,AQ ls],Ay l]=some (I (Cs hn ls l)):=AC Aic (i:=(hn,ls,l)) trivial
def Aid:Prop:=∀(hn:Int) (ls:List Lnk) (l:List Snd) ,VC Tryz.prog 55 (Kl (hn,ls,l)) (SL (hn,ls,l))
theorem Aie:Aid:=by
 intro hn ls l
 dsimp only[Kl,SL]
 refine Bc AP (l := [e_right,e_cap]) ((Ad Jk (Ad Afx Au))) [27] []  Tryz.func55 rfl (by decide +kernel) (N:=30) rfl (by simp) rfl (by kernel_rfl) fun hs=>?_
 simp only[AK,PV.small,List.length_map,and_true,true_and]at hs
 by_cases h:Bf hn ls l=0
 case neg =>
  rw [show Cs hn ls l=Bf hn ls l by simp[Cs,h]]
  generalize hr:Bf hn ls l=r at *
  simp only[↓bdD,bdP,seval,Ao,st0,e_right,By,e_cap,Ac,Aa,Tryz.f55,AI,AN,h,hr]
 have ok:=right_zero.1 h
 have hlen:=ok.len
 rw [show Cs hn ls l=if ftT ls l l.length=true then 13 else 0 by simp[Cs,h]]
 generalize hr:(if ftT ls l l.length=true then (13:Int)else 0)=r
 simp only[↓bdD,bdP,seval,st0,e_right,By,e_cap,Ac,Aa,Tryz.f55,AI,AN,h]
 refine Aw [4,7,16,17,18,19,20,21,22,23,24,25,26,27,28,29] l.length (fun k ρ st'=>ρ 16=I k∧ftT ls l k=false) (.refl _) ?_ ?_
 ·simp only[↓bdD,bdP,ftT]
 ·rintro k ρ ⟨ob,M⟩ hk ⟨h16,hz⟩
  by_cases hlt:k<l.length
  ·have hw1:IntKind.i64.wrap ((k:Int)+1)=((k+1:Nat):Int):=by rw[Ah (by omega) (by omega)];omega
   have e1:=ok.link k hlt
   have e2:=(ok.tick k hlt).1
   have hs:ftT ls l (k+1)=decide (CJ ls (l.getD k dS).1 (l.getD k dS).2.1<(l.getD k dS).2.2):=by simp only[ftT,hz,Bool.false_or]
   generalize hx:l.getD k dS=x at *
   by_cases hb:CJ ls x.1 x.2.1<x.2.2
   ·rw [decide_eq_true hb]at hs
    rw [if_pos (Acg hs (by omega))]at hr
    subst hr
    simp only[↓bdD,bdP,seval,Ao,Store.new,Store.set,rX,A6,Aa,ty3,AI,AN,Cn,h16,hlt,hx,e1,e2,hb]
   ·rw [decide_eq_false hb]at hs
    simp only[↓bdD,bdP,seval,Store.new,Store.set,rX,A6,Aa,ty3,AI,AN,Cn,h16,hlt,hx,e1,e2,hb,hs,hw1]
  ·have e:k=l.length:=by omega
   subst e
   rw [hz,if_neg (by simp)]at hr
   subst hr
   simp only[↓bdD,bdP,seval,Ao,h16]
theorem rZ:AM Tryz.prog e_fits.1 e_fits.2:=Ax fun⟨hn,ls,l⟩ h=>Aie hn ls l
section
variable {hn:Int} {ls:List Lnk}
theorem Jl (h:OKn hn ls) {link tick:Int} (h0:0≤link) (h1:link<(ls.length:Int)):0≤Df ls link tick∧Df ls link tick≤1000000:=by
 have := h.hours link.toNat (tick.toNat % 24) (Ep h0 h1) (Nat.mod_lt _ (by omega))
 exact ⟨this.2.2.1,this.2.2.2⟩
theorem Gs (h:OKn hn ls) {link tick:Int} (h0:0≤link) (h1:link<(ls.length:Int)):0≤CJ ls link tick∧CJ ls link tick≤1073741824:=by
 have := h.hours link.toNat (tick.toNat % 24) (Ep h0 h1) (Nat.mod_lt _ (by omega))
 exact ⟨this.1,this.2.1⟩
end
def Dr (ls:List Lnk) (l:List Snd):Nat→Int
 | 0=>0
 | k+1=>Dr ls l k+(l.getD k dS).2.2*Df ls (l.getD k dS).1 (l.getD k dS).2.1
def BN (hn:Int) (ls:List Lnk) (l:List Snd):Int:=if Bf hn ls l≠0 then 0 else Dr ls l l.length
theorem Q3 {a b A B:Int} (h0:0≤a) (h1:a≤A) (h2:0≤b) (h3:b≤B):0≤a*b∧a*b≤A*B :=
 ⟨Int.mul_nonneg h0 h2,Int.mul_le_mul h1 h3 h2 (by omega)⟩
theorem IS {hn:Int} {ls:List Lnk} {l:List Snd} (ok:OKr hn ls l):∀k:Nat,k≤l.length→0≤Dr ls l k∧Dr ls l k≤1073741824000000*(k:Int)
 | 0,_=>⟨Int.le_refl _,by simp[Dr]⟩
 | k+1,h=>by
  have ih:=IS ok k (by omega)
  have h1:=ok.link k (by omega)
  have h2:=ok.bytes k (by omega)
  have h3:=Jl ok.net h1.1 h1.2 (tick:=(l.getD k dS).2.1)
  have h4:=Q3 (by omega) h2.2 h3.1 h3.2
  simp only[Dr]
  omega
theorem Ach {hn:Int} {ls:List Lnk} {l:List Snd} (ok:OKr hn ls l) {k:Nat} (h:k<l.length):IntKind.i64.wrap ((l.getD k dS).2.2*Df ls (l.getD k dS).1 (l.getD k dS).2.1)=(l.getD k dS).2.2*Df ls (l.getD k dS).1 (l.getD k dS).2.1 ∧
  IntKind.i64.wrap (Dr ls l k+(l.getD k dS).2.2*Df ls (l.getD k dS).1 (l.getD k dS).2.1)=Dr ls l (k+1):=by
 have h0:=ok.len
 have h1:=ok.link k h
 have h2:=ok.bytes k h
 have h3:=Jl ok.net h1.1 h1.2 (tick:=(l.getD k dS).2.1)
 have h4:=Q3 (by omega) h2.2 h3.1 h3.2
 have h5:=IS ok k (by omega)
 exact ⟨Ah (by omega) (by omega),Ah (by omega) (by omega)⟩
noncomputable def Km:Int×List Lnk×List Snd→List PV:=fun (hn,ls,l) => [.agg [I hn,AQ ls],Ay l]
noncomputable def SM:Int×List Lnk×List Snd→PV:=fun (hn,ls,l)=>.tuple [I (BN hn ls l),I (Bf hn ls l)]
noncomputable def e_cost:Nat×Ent:=(27,.v (Ap Km SM AY))
theorem Aif:∀i j,Km i=Km j→i=j:=by
 rintro ⟨_,_,_⟩ ⟨_,_,_⟩ h
 simp only[Km,List.cons.injEq,and_true,PV.lits.injEq,PV.int.injEq,PV.agg.injEq,true_and,AF,AD]at h
 simp [h] <;> omega
theorem Aig (hn:Int) (ls:List Lnk) (l:List Snd):Ap Km SM AY [.agg [I hn,AQ ls],Ay l]=some (.tuple [I (BN hn ls l),I (Bf hn ls l)]):=AC Aif (i:=(hn,ls,l)) trivial
def Aih:Prop:=∀(hn:Int) (ls:List Lnk) (l:List Snd) ,VC Tryz.prog 27 (Km (hn,ls,l)) (SM (hn,ls,l))
theorem Aii:Aih:=by
 intro hn ls l
 dsimp only[Km,SM]
 refine Bc AP (l := [e_right]) ((Ad Jk Au)) [] []  Tryz.func27 rfl (by decide +kernel) (N:=40) rfl (by simp) rfl (by kernel_rfl) fun hs=>?_
 simp only[AK,PV.small,List.length_map,and_true,true_and]at hs
 by_cases h:Bf hn ls l=0
 case neg =>
  rw [show BN hn ls l=0 by simp[BN,h]]
  generalize hr:Bf hn ls l=r at *
  simp only[↓bdD,bdP,seval,Ao,st0,e_right,By,Ac,Aa,Tryz.f27,AI,AN,h,hr]
 have ok:=right_zero.1 h
 have hlen:=ok.len
 rw [show BN hn ls l=Dr ls l l.length by simp[BN,h],h]
 generalize hr:Dr ls l l.length=r
 simp only[↓bdD,bdP,seval,st0,e_right,By,Ac,Aa,Tryz.f27,AI,AN,h]
 refine Aw [7,9,18,19,20,21,22,23,24,25,26,27,28,29,30,31,32,33,34,35,36,37,38] l.length (fun k ρ st'=>ρ 18=I k∧ρ 7=I (Dr ls l k)) (.refl _) ?_ ?_
 ·simp only[↓bdD,bdP,Nat.reduceBEq,Dr]
 ·rintro k ρ ⟨ob,M⟩ hk ⟨h18,h7⟩
  by_cases hlt:k<l.length
  ·have hw1:IntKind.i64.wrap ((k:Int)+1)=((k+1:Nat):Int):=by rw[Ah (by omega) (by omega)];omega
   have e1:=ok.link k hlt
   have e2:=(ok.tick k hlt).1
   have hw:=Ach ok hlt
   generalize hx:l.getD k dS=x at *
   have h3:=MA e2
   have h4:x.2.1.toNat % 24<24:=Nat.mod_lt _ (by omega)
   have h4i:((x.2.1.toNat % 24:Nat):Int)<24:=by omega
   unfold Df at hw
   generalize x.2.1.toNat % 24=hh at *
   have h5:=Ep e1.1 e1.2
   have h6:=Int.toNat_of_nonneg e1.1
   generalize x.1.toNat=kk at *
   simp only[↓bdD,bdP,seval,Store.new,Store.set,A6,Cb,Hw,Nat.mul_one,ty3,BP,AI,AN,Cn,OG,CI,h18,h7,hlt,hx,h3,h4,h4i,h5,←h6,hw,hw1]
  ·have e:k=l.length:=by omega
   subst e
   rw [hr]at h7
   simp only[↓bdD,bdP,seval,Ao,h18,h7]
theorem Aij:AM Tryz.prog e_cost.1 e_cost.2:=Ax fun⟨hn,ls,l⟩ h=>Aii hn ls l
def Bg (l:List Snd) (link tick:Int):Nat→Int
 | 0=>0
 | k+1=>Bg l link tick k+if (l.getD k dS).1=link∧(l.getD k dS).2.1=tick then (l.getD k dS).2.2 else 0
def DV (hn:Int) (ls:List Lnk) (l:List Snd) (link tick:Int):Int×Int :=
 if Bf hn ls l≠0 then (0,Bf hn ls l)else if link<0∨(ls.length:Int)≤link∨tick<0∨1000000≤tick then (0,1)else (CJ ls link tick-Bg l link tick l.length,0)
def smB (l:List Snd):Prop:=l.length≤2000∧∀k,k<l.length→1≤(l.getD k dS).2.2∧(l.getD k dS).2.2≤1073741824
theorem Vq {l:List Snd} (h:smB l) (link tick:Int):∀k:Nat,k≤l.length→0≤Bg l link tick k∧Bg l link tick k≤1073741824*(k:Int)
 | 0,_=>⟨Int.le_refl _,by simp[Bg]⟩
 | k+1,hk=>by
  have ih:=Vq h link tick k (by omega)
  have h2:=h.2 k (by omega)
  simp only[Bg]
  split <;> omega
theorem OKr.smB {hn:Int} {ls:List Lnk} {l:List Snd} (h:OKr hn ls l):smB l:=⟨h.len,h.bytes⟩
noncomputable def Kn:Int×List Lnk×List Snd×Int×Int→List PV:=fun (hn,ls,l,link,tick) => [.agg [I hn,AQ ls],Ay l,I link,I tick]
noncomputable def SN:Int×List Lnk×List Snd×Int×Int→PV:=fun (hn,ls,l,link,tick)=>.tuple [I (DV hn ls l link tick).1,I (DV hn ls l link tick).2]
noncomputable def e_left:Nat×Ent:=(29,.v (Ap Kn SN AY))
theorem Aik:∀i j,Kn i=Kn j→i=j:=by
 rintro ⟨_,_,_,_,_⟩ ⟨_,_,_,_,_⟩ h
 simp only[Kn,List.cons.injEq,and_true,PV.lits.injEq,PV.int.injEq,PV.agg.injEq,true_and,AF,AD]at h
 simp [h] <;> omega
theorem sC (hn:Int) (ls:List Lnk) (l:List Snd) (link:Int) (tick:Int):Ap Kn SN AY [.agg [I hn,AQ ls],Ay l,I link,I tick]=some (.tuple [I (DV hn ls l link tick).1,I (DV hn ls l link tick).2]):=AC Aik (i:=(hn,ls,l,link,tick)) trivial
def Ail:Prop:=∀(hn:Int) (ls:List Lnk) (l:List Snd) (link:Int) (tick:Int) ,VC Tryz.prog 29 (Kn (hn,ls,l,link,tick)) (SN (hn,ls,l,link,tick))
theorem Aim:Ail:=by
 intro hn ls l link tick
 dsimp only[Kn,SN]
 refine Bc AP (l := [e_right,e_cap]) ((Ad Jk (Ad Afx Au))) [] []  Tryz.func29 rfl (by decide +kernel) (N:=63) rfl (by simp) rfl (by kernel_rfl) fun hs=>?_
 simp only[AK,PV.small,List.length_map,and_true,true_and]at hs
 by_cases h:Bf hn ls l=0
 case neg =>
  rw [show DV hn ls l link tick=(0,Bf hn ls l) by simp[DV,h]]
  generalize hr:Bf hn ls l=r at *
  simp only[↓bdD,bdP,seval,Ao,st0,e_right,By,e_cap,Ac,Aa,Tryz.f29,AI,AN,h,hr]
 have ok:=right_zero.1 h
 have hlen:=ok.len
 by_cases hb:link<0∨(ls.length:Int)≤link∨tick<0∨1000000≤tick
 ·rw [show DV hn ls l link tick=(0,1) by simp only[DV,h,ne_eq,not_true_eq_false,if_false];rw[if_pos hb]]
  have e:link<0∨(¬link<0∧(ls.length:Int)≤link)∨(¬link<0∧¬(ls.length:Int)≤link∧tick<0)∨(¬link<0∧¬(ls.length:Int)≤link∧¬tick<0∧1000000≤tick):=by omega
  rcases e with e | e | e | e
  ·simp only[↓bdD,bdP,seval,Ao,st0,e_right,By,e_cap,Ac,Aa,Tryz.f29,AI,AN,h,e]
  ·simp only[↓bdD,bdP,seval,Ao,st0,e_right,By,e_cap,Ac,Aa,Tryz.f29,BP,AI,AN,h,e]
  ·simp only[↓bdD,bdP,seval,Ao,st0,e_right,By,e_cap,Ac,Aa,Tryz.f29,BP,AI,AN,h,e]
  ·simp only[↓bdD,bdP,seval,Ao,st0,e_right,By,e_cap,Ac,Aa,Tryz.f29,BP,AI,AN,h,e]
 rw [show DV hn ls l link tick=(CJ ls link tick-Bg l link tick l.length,0) by simp only[DV,h,ne_eq,not_true_eq_false,if_false];rw[if_neg hb]]
 have e:¬link<0∧¬(ls.length:Int)≤link∧¬tick<0∧¬1000000≤tick∧0≤link∧link<(ls.length:Int)∧0≤tick:=by omega
 have hcap:=Gs ok.net e.2.2.2.2.1 e.2.2.2.2.2.1 (tick:=tick)
 have hb:=ok.smB
 generalize hr:CJ ls link tick-Bg l link tick l.length=r
 simp only[↓bdD,bdP,seval,st0,e_right,By,e_cap,rX,Ac,Aa,Tryz.f29,ty3,BP,AI,AN,h,e]
 refine Aw [11,13,43,44,45,46,47,48,49,50,51,52,53,54,55,56,57,58,59,60,61] l.length (fun k ρ st'=>ρ 43=I k∧ρ 11=I (CJ ls link tick-Bg l link tick k)) (.refl _) ?_ ?_
 ·simp only[↓bdD,bdP,Nat.reduceBEq,Bg,Int.sub_zero]
 ·rintro k ρ ⟨ob,M⟩ hk ⟨h43,h11⟩
  by_cases hlt:k<l.length
  ·have hw1:IntKind.i64.wrap ((k:Int)+1)=((k+1:Nat):Int):=by rw[Ah (by omega) (by omega)];omega
   have hs:=Vq hb link tick k hk
   have hbk:=hb.2 k hlt
   have hstep:Bg l link tick (k+1)=Bg l link tick k+if (l.getD k dS).1=link∧(l.getD k dS).2.1=tick then (l.getD k dS).2.2 else 0:=rfl
   generalize hx:l.getD k dS=x at *
   by_cases e1:x.1=link
   ·by_cases e2:x.2.1=tick
    ·rw [if_pos ⟨e1,e2⟩]at hstep
     have hw2:IntKind.i64.wrap (CJ ls link tick-Bg l link tick k-x.2.2)=CJ ls link tick-Bg l link tick (k+1):=by rw[hstep,Ah (by omega) (by omega)];omega
     simp only[↓bdD,bdP,seval,Store.new,Store.set,A6,ty3,AN,Cn,h43,h11,hlt,hx,e1,e2,hw1,hw2]
    ·rw [if_neg (fun h=>e2 h.2),Int.add_zero]at hstep
     simp only[↓bdD,bdP,seval,Store.new,Store.set,A6,ty3,AN,Cn,h43,h11,hlt,hx,e1,e2,hw1,hstep]
   ·rw [if_neg (fun h=>e1 h.1),Int.add_zero]at hstep
    simp only[↓bdD,bdP,seval,Store.new,Store.set,A6,ty3,AN,Cn,h43,h11,hlt,hx,e1,hw1,hstep]
  ·have e:k=l.length:=by omega
   subst e
   rw [hr]at h11
   simp only[↓bdD,bdP,seval,Ao,h43,h11]
theorem Ain:AM Tryz.prog e_left.1 e_left.2:=Ax fun⟨hn,ls,l,link,tick⟩ h=>Aim hn ls l link tick
abbrev Dem:=Int×Int×Int×Int×Int
abbrev DY (d:Dem):PV:=.agg [I d.1,I d.2.1,I d.2.2.1,I d.2.2.2.1,I d.2.2.2.2]
def Il (d:Dem):Prop:=1≤d.2.2.1∧d.2.2.1≤1099511627776∧0≤d.2.2.2.1∧d.2.2.2.1≤d.2.2.2.2∧d.2.2.2.2≤1000000
instance {d:Dem}:Decidable (Il d):=inferInstanceAs (Decidable (_∧_))
def D7 (hn:Int) (d:Dem):Bool:=hOK hn d.1&&hOK hn d.2.1&&decide (Il d)
noncomputable def FP:Int×List Lnk×Int→List PV:=fun (hn,ls,h) => [I h,.vptr [I hn,AQ ls] 0]
noncomputable def Lp:Int×List Lnk×Int→PV:=fun (hn,ls,h)=>B (hOK hn h)
noncomputable def e_dhouse:Nat×Ent:=(82,.v (Ap FP Lp AY))
theorem sD:∀i j,FP i=FP j→i=j:=by
 rintro ⟨_,_,_⟩ ⟨_,_,_⟩ h
 simp only[FP,List.cons.injEq,and_true,PV.lits.injEq,PV.int.injEq,PV.vptr.injEq,true_and,AD]at h
 simp [h] <;> omega
theorem EM (hn:Int) (ls:List Lnk) (h:Int):Ap FP Lp AY [I h,.vptr [I hn,AQ ls] 0]=some (B (hOK hn h)):=AC sD (i:=(hn,ls,h)) trivial
def sE:Prop:=∀(hn:Int) (ls:List Lnk) (h:Int) ,VC Tryz.prog 82 (FP (hn,ls,h)) (Lp (hn,ls,h))
theorem sF:sE:=by
 intro hn ls h
 dsimp only[FP,Lp]
 refine Bc AP (l := []) (Au) [] []  Tryz.func82 rfl (by decide +kernel) (N:=12) rfl (by simp) rfl (by kernel_rfl) fun hs=>?_
 simp only[AK,PV.small,List.length_map,and_true,true_and]at hs
 generalize hr:hOK hn h=r
 by_cases h1:0≤h
 ·by_cases h2:h<hn
  ·simp only[hOK,h1,h2,and_self,decide_true]at hr
   subst hr
   simp only[↓bdD,bdP,seval,Ao,st0,Tryz.f82,ty3,AI,h1,h2]
  ·simp only[hOK,h1,h2,and_false,decide_false]at hr
   subst hr
   simp only[↓bdD,bdP,seval,Ao,st0,Tryz.f82,ty3,AI,h1,h2]
 ·simp only[hOK,h1,false_and,decide_false]at hr
  subst hr
  simp only[↓bdD,bdP,seval,Ao,st0,Tryz.f82,h1]
theorem sG:AM Tryz.prog e_dhouse.1 e_dhouse.2:=Ax fun⟨hn,ls,h⟩ h=>sF hn ls h
noncomputable def DE:Int×List Lnk×Dem→List PV:=fun (hn,ls,d) => [.agg [I hn,AQ ls],DY d]
noncomputable def HB:Int×List Lnk×Dem→PV:=fun (hn,ls,d)=>B (D7 hn d)
noncomputable def e_demanded:Nat×Ent:=(54,.v (Ap DE HB AY))
theorem Yf:∀i j,DE i=DE j→i=j:=by
 rintro ⟨_,_,_⟩ ⟨_,_,_⟩ h
 simp only[DE,List.cons.injEq,and_true,PV.lits.injEq,PV.int.injEq,PV.agg.injEq,true_and,AD]at h
 simp [Prod.ext_iff,h] <;> omega
theorem CP (hn:Int) (ls:List Lnk) (d:Dem):Ap DE HB AY [.agg [I hn,AQ ls],DY d]=some (B (D7 hn d)):=AC Yf (i:=(hn,ls,d)) trivial
def Yg:Prop:=∀(hn:Int) (ls:List Lnk) (d:Dem) ,VC Tryz.prog 54 (DE (hn,ls,d)) (HB (hn,ls,d))
theorem Yh:Yg:=by
 rintro hn ls ⟨f,t,b,r,u⟩
 dsimp only[DE,HB]
 refine Bc AP (l := [e_dhouse]) ((Ad sG Au)) [] []  Tryz.func54 rfl (by decide +kernel) (N:=44) rfl (by simp) rfl (by kernel_rfl) fun hs=>?_
 simp only[AK,PV.small,List.length_map,and_true,true_and]at hs
 unfold D7
 cases g1:hOK hn f
 ·simp only[↓bdD,bdP,seval,Ao,st0,e_dhouse,EM,Aa,Tryz.f54,ty3,AX,g1,Bool.false_and]
 cases g2:hOK hn t
 ·simp only[↓bdD,bdP,seval,Ao,st0,e_dhouse,EM,Aa,Tryz.f54,ty3,AX,g1,g2,Bool.and_false,Bool.false_and]
 have key:∀q:Bool,(hOK hn f&&hOK hn t&&q)=q:=fun q=>by rw[g1,g2];simp
 by_cases h1:1≤b
 case neg=>simp only[↓bdD,bdP,seval,Ao,st0,e_dhouse,EM,Aa,Tryz.f54,ty3,AX,g1,g2,show Il (f,t,b,r,u)=False by simp[Il,h1],h1]
 by_cases h2:b≤1099511627776
 case neg=>simp only[↓bdD,bdP,seval,Ao,st0,e_dhouse,EM,Aa,Tryz.f54,ty3,AX,g1,g2,show Il (f,t,b,r,u)=False by simp[Il,h2],h1,h2]
 by_cases h3:0≤r
 case neg=>simp only[↓bdD,bdP,seval,Ao,st0,e_dhouse,EM,Aa,Tryz.f54,ty3,AX,g1,g2,show Il (f,t,b,r,u)=False by simp[Il,h3],h1,h2,h3]
 by_cases h4:r≤u
 case neg=>simp only[↓bdD,bdP,seval,Ao,st0,e_dhouse,EM,Aa,Tryz.f54,ty3,AX,g1,g2,show Il (f,t,b,r,u)=False by simp[Il,h4],h1,h2,h3,h4]
 by_cases h5:u≤1000000
 case neg=>simp only[↓bdD,bdP,seval,Ao,st0,e_dhouse,EM,Aa,Tryz.f54,ty3,AX,g1,g2,show Il (f,t,b,r,u)=False by simp[Il,h5],h1,h2,h3,h4,h5]
 simp only[↓bdD,bdP,seval,Ao,st0,e_dhouse,EM,Aa,Tryz.f54,ty3,AX,g1,g2,show Il (f,t,b,r,u)=True by simp[Il,h1,h2,h3,h4,h5],h1,h2,h3,h4,h5]
theorem O0:AM Tryz.prog e_demanded.1 e_demanded.2:=Ax fun⟨hn,ls,d⟩ h=>Yh hn ls d
end Sim
namespace Sim
open Go Go.Proofs
attribute [local congr] Ai Aj Af At Am Al Aq Hr
def Bd (ls:List Lnk) (s:Snd):Lnk:=ls.getD s.1.toNat dL
def Ko (ls:List Lnk) (l:List Snd) (i:Nat):Int×Int×Int :=
 if i % 2=0 then ((l.getD (i / 2) dS).2.1,(Bd ls (l.getD (i / 2) dS)).1,-(l.getD (i / 2) dS).2.2)else ((l.getD (i / 2) dS).2.1,(Bd ls (l.getD (i / 2) dS)).2.1,(l.getD (i / 2) dS).2.2)
abbrev Aio (x:Int×Int×Int):List PV := [I x.1,.agg [I x.2.1,I x.2.2]]
def ysL (ls:List Lnk) (l:List Snd):List (List PV):=(List.range (2*l.length)).map fun i=>Aio (Ko ls l i)
section
variable {ls:List Lnk} {l:List Snd}
theorem sH {i:Nat} (h:i<2*l.length):(ysL ls l)[i]?=some (Aio (Ko ls l i)):=by
 simp [ysL,h]
theorem Yi:(ysL ls l).length=2*l.length:=by simp[ysL]
theorem Aip {i:Nat} {y:List PV} (h:(ysL ls l)[i]?=some y):i<2*l.length∧y=Aio (Ko ls l i):=by
 have hlt:=(List.getElem?_eq_some_iff.1 h).1
 rw [Yi]at hlt
 rw [sH hlt]at h
 exact ⟨hlt,(Option.some.inj h).symm⟩
theorem Vr {k:Nat}:Ko ls l (2*k)=((l.getD k dS).2.1,(Bd ls (l.getD k dS)).1,-(l.getD k dS).2.2):=by
 unfold Ko
 rw [if_pos (by omega),show 2*k / 2=k by omega]
theorem Zs {k:Nat}:Ko ls l (2*k+1)=((l.getD k dS).2.1,(Bd ls (l.getD k dS)).2.1,(l.getD k dS).2.2):=by
 unfold Ko
 rw [if_neg (by omega),show (2*k+1) / 2=k by omega]
end
abbrev Aci (hn:Int) (ls:List Lnk) (l:List Snd):PV:=.func (.func 97) [] [.vptr [Ay l] 0,.vptr [I hn,AQ ls] 0]
noncomputable def Er:Int×List Lnk×List Snd→List PV:=fun (hn,ls,l) => [.agg [I hn,AQ ls],Ay l]
noncomputable def Jm:Int×List Lnk×List Snd→PV:=fun (hn,ls,l)=>Aci hn ls l
noncomputable def e_changes:Nat×Ent:=(83,.v (Ap Er Jm AY))
theorem iI:∀i j,Er i=Er j→i=j:=by
 rintro ⟨_,_,_⟩ ⟨_,_,_⟩ h
 simp only[Er,List.cons.injEq,and_true,PV.lits.injEq,PV.int.injEq,PV.agg.injEq,true_and,AF,AD]at h
 simp [h] <;> omega
theorem MD (hn:Int) (ls:List Lnk) (l:List Snd):Ap Er Jm AY [.agg [I hn,AQ ls],Ay l]=some (Aci hn ls l):=AC iI (i:=(hn,ls,l)) trivial
def iJ:Prop:=∀(hn:Int) (ls:List Lnk) (l:List Snd) ,VC Tryz.prog 83 (Er (hn,ls,l)) (Jm (hn,ls,l))
theorem iK:iJ:=by
 intro hn ls l
 dsimp only[Er,Jm]
 refine Bc AP (l := []) (Au) [] []  Tryz.func83 rfl (by decide +kernel) (N:=6) rfl (by simp) rfl (by kernel_rfl) fun hs=>?_
 simp only[AK,PV.small,List.length_map,and_true,true_and]at hs
 simp only[↓bdD,bdP,seval,Ao,st0,Tryz.f83]
 simp [DRx,Aci,UA,CO,Ux,K4,Aa,Ac,Fk,Em]
theorem iL:AM Tryz.prog e_changes.1 e_changes.2:=Ax fun⟨hn,ls,l⟩ h=>iK hn ls l
theorem iM {hn:Int} {ls:List Lnk} {l:List Snd} (ok:OKr hn ls l):Sn Tryz.prog 0 97 [] [.vptr [Ay l] 0,.vptr [I hn,AQ ls] 0] (ysL ls l):=by
 refine XY (l := []) Au [] [] 0 Tryz.func97 rfl (by decide +kernel) rfl (N:=46) rfl (by simp) (fun y=>by kernel_rfl) fun y H J E st0 hm h0 hstab hy=>?_
 have hlen:=ok.len
 have hyl:=Yi (ls:=ls) (l:=l)
 obtain ⟨ob0,M0⟩:=st0
 simp only[↓bdD,bdP,seval,AN]
 refine Aw (hm:=hm) [5,8,9,10,11,12,13,14,15,16,17,18,19,20,21,22,23,24,25,26,27,28,29,30,31,32,33,34,35,36,37,38,39,40,41,42,43,44,45] l.length (fun k ρ st'=>ρ 8=I k∧J (2*k) st'∧M0≤st'.next) (.refl _) ?_ ?_
 ·simp only[↓bdD,bdP,Nat.reduceMul]
  exact h0
 ·rintro k ρ ⟨ob,M⟩ hk ⟨h8,hJ,hMM⟩
  dsimp only at hMM
  by_cases hlt:k<l.length
  ·have hw1:IntKind.i64.wrap ((k:Int)+1)=((k+1:Nat):Int):=by rw[Ah (by omega) (by omega)];omega
   have e1:=ok.link k hlt
   have hb:=ok.bytes k hlt
   have c1:=sH (ls:=ls) (l:=l) (i:=2*k) (by omega)
   have c2:=sH (ls:=ls) (l:=l) (i:=2*k+1) (by omega)
   rw [Vr]at c1
   rw [Zs]at c2
   unfold Bd at c1 c2
   generalize hx:l.getD k dS=x at *
   have hwn:IntKind.i64.wrap (0-x.2.2) = -x.2.2:=by rw[Ah (by omega) (by omega)];omega
   have h5:=Ep e1.1 e1.2
   have h6:=Int.toNat_of_nonneg e1.1
   generalize x.1.toNat=kk at *
   simp only[↓bdD,bdP,seval,Store.new,Store.set,A6,Cb,If,Nat.mul_one,ty3,BP,AI,AN,Cn,CI,OH,h8,hlt,hx,h5,←h6,hwn]
   have hJ':∀o o2,J (2*k) ⟨Ab (Ab ob M o) M o2,M+1⟩:=fun o o2=>hstab _ _ _ hJ (by simp) (fun x hx=>(RZ (by simp;exact Nat.ne_of_lt hx)).trans (RZ (by simp;exact Nat.ne_of_lt hx)))
   refine hy (2*k) _ _ _ c1 (hJ' _ _) (fun st2 h2 hk2=>?_) (fun st2 h2=>?_)
   ·obtain ⟨ob2,M2⟩:=st2
    have hM:=hk2.2 M hMM (by simp) (fun r=>by simp[Ab])
    have hM2:=hk2.1
    dsimp only at hM hM2
    rw [QL]at hM
    simp only[↓bdD,bdP,seval,Cb,OQ,Nat.mul_one,ty3,BP,AI,Cn,CI,OH,hM,h8,h5]
    refine hy (2*k+1) _ _ _ c2 h2 (fun st3 h3 hk3=>?_) (fun st3 h3=>?_)
    ·have hM3:=hk3.1
     dsimp only at hM3
     simp only[↓bdD,bdP,hw1]
     exact ⟨by rw[show 2*(k+1)=2*k+1+1 by omega];exact h3,by omega⟩
    ·simp only[↓bdD,bdP]
     exact .inr h3
   ·simp only[↓bdD,bdP,↓reduceIte]
    exact .inr h2
  ·have e:k=l.length:=by omega
   subst e
   simp only[↓bdD,bdP,seval,h8,hyl]
   exact .inl hJ
theorem Pa {X:Cfg} {N:Nat} {Q:IExit→IState→Prop} {c:Code} {ks:List Kf} {A:Prop} (T:(Nat→PV)→Store→Prop) (h1:(∀ρ st,T ρ st→run X N Q c ks ⟨ρ,st⟩)→A) (h2:∀ρ st,T ρ st→run X N Q c ks ⟨ρ,st⟩):A:=h1 h2
def Ds (d:Dem) (at_ tick:Int):Int:=if at_=d.1∧d.2.2.2.1≤tick then d.2.2.1 else 0
def CU (ls:List Lnk) (s:Snd) (at_ tick:Int):Int:=if s.2.1<tick then (if (Bd ls s).2.1=at_ then s.2.2 else 0)-(if (Bd ls s).1=at_ then s.2.2 else 0)else 0
def EN (ls:List Lnk) (l:List Snd) (at_ tick:Int):Nat→Int
 | 0=>0
 | k+1=>EN ls l at_ tick k+CU ls (l.getD k dS) at_ tick
def Bh (ls:List Lnk) (l:List Snd) (d:Dem) (at_ tick:Int):Int:=Ds d at_ tick+EN ls l at_ tick l.length
def hyT (ls:List Lnk) (l:List Snd) (at_ tick:Int):Nat→Int
 | 0=>0
 | i+1=>hyT ls l at_ tick i+if (Ko ls l i).1<tick∧(Ko ls l i).2.1=at_ then (Ko ls l i).2.2 else 0
theorem Zt {ls:List Lnk} {l:List Snd} {at_ tick:Int}:∀k,hyT ls l at_ tick (2*k)=EN ls l at_ tick k
 | 0=>rfl
 | k+1=>by
  show hyT ls l at_ tick (2*k+1+1)=_
  simp only[hyT,Zs,Vr,EN,CU]
  rw [Zt k]
  by_cases h:(l.getD k dS).2.1<tick
  ·simp only[h,true_and,if_true]
   split <;> split <;> omega
  ·simp only[h,false_and,if_false]
   omega
theorem sJ {hn:Int} {ls:List Lnk} {l:List Snd} (ok:OKr hn ls l) {k:Nat} (hk:k<l.length) (at_ tick:Int) : -1073741824≤CU ls (l.getD k dS) at_ tick∧CU ls (l.getD k dS) at_ tick≤1073741824:=by
 have := ok.bytes k hk
 unfold CU
 split
 ·split <;> split <;> omega
 ·omega
theorem Vs {hn:Int} {ls:List Lnk} {l:List Snd} (ok:OKr hn ls l) (at_ tick:Int):∀k,k≤l.length → -(1073741824*(k:Int))≤EN ls l at_ tick k∧EN ls l at_ tick k≤1073741824*(k:Int)
 | 0,_=>by simp[EN]
 | k+1,hk=>by
  have ih:=Vs ok at_ tick k (by omega)
  have := sJ ok (show k<l.length by omega) at_ tick
  simp only[EN]
  omega
theorem sK {hn:Int} {ls:List Lnk} {l:List Snd} (ok:OKr hn ls l) (at_ tick:Int):∀i,i≤2*l.length → -(1073741824*(i:Int))≤hyT ls l at_ tick i∧hyT ls l at_ tick i≤1073741824*(i:Int)
 | 0,_=>by simp[hyT]
 | i+1,hi=>by
  have ih:=sK ok at_ tick i (by omega)
  have hb:=ok.bytes (i / 2) (by omega)
  simp only[hyT]
  split
  ·unfold Ko
   split <;> dsimp only <;> omega
  ·omega
def Yj (d:Dem):Prop:=0≤d.2.2.1∧d.2.2.1≤1099511627776
theorem Vt {d:Dem} (h:Yj d) (at_ tick:Int):0≤Ds d at_ tick∧Ds d at_ tick≤1099511627776:=by
 unfold Yj at h
 unfold Ds
 split <;> omega
noncomputable def HC:Int×List Lnk×List Snd×Dem×Int×Int→List PV:=fun (hn,ls,l,d,at_,tick) => [.agg [I hn,AQ ls],Ay l,DY d,I at_,I tick]
noncomputable def NH:Int×List Lnk×List Snd×Dem×Int×Int→PV:=fun (hn,ls,l,d,at_,tick)=>I (Bh ls l d at_ tick)
def Zu:Int×List Lnk×List Snd×Dem×Int×Int→Prop:=fun (hn,ls,l,d,at_,tick)=>OKr hn ls l∧Yj d
noncomputable def e_stock:Nat×Ent:=(56,.v (Ap HC NH Zu))
theorem Acj:∀i j,HC i=HC j→i=j:=by
 rintro ⟨_,_,_,_,_,_⟩ ⟨_,_,_,_,_,_⟩ h
 simp only[HC,List.cons.injEq,and_true,PV.lits.injEq,PV.int.injEq,PV.agg.injEq,true_and,AF,AD]at h
 simp [Prod.ext_iff,h] <;> omega
theorem Lq (hn:Int) (ls:List Lnk) (l:List Snd) (d:Dem) (at_:Int) (tick:Int):Ap HC NH Zu [.agg [I hn,AQ ls],Ay l,DY d,I at_,I tick]=@ite (Option (PV)) (OKr hn ls l∧Yj d) (Classical.propDecidable _) (some (I (Bh ls l d at_ tick))) none:=Br Acj (hn,ls,l,d,at_,tick)
def Ack:Prop:=∀(hn:Int) (ls:List Lnk) (l:List Snd) (d:Dem) (at_:Int) (tick:Int) (h:OKr hn ls l∧Yj d) ,VC Tryz.prog 56 (HC (hn,ls,l,d,at_,tick)) (NH (hn,ls,l,d,at_,tick))
theorem Acl:Ack:=by
 rintro hn ls l d at_ tick ⟨ok,hd⟩
 dsimp only[HC,NH]
 refine XG AP (l := [e_changes]) ((Ad iL Au)) [] [] 0 1 Tryz.func56 rfl (by decide +kernel) (N:=45) rfl (by simp) rfl (by kernel_rfl) fun hs=>?_
 simp only[AK,PV.small,List.length_map,and_true,true_and]at hs
 have h0:=Vt hd at_ tick
 have hlen:=ok.len
 generalize hr:Bh ls l d at_ tick=r
 have hr2:Ds d at_ tick+hyT ls l at_ tick (2*l.length)=r:=by rw[←hr,Zt];rfl
 have hle:=sK ok at_ tick
 obtain ⟨c,hc⟩:∃c,c=Ds d at_ tick:=⟨_,rfl⟩
 have tail:∀(ρ:Nat→PV) (st:Store),True:=fun _ _=>trivial
 have hcases:(at_=d.1∧d.2.2.2.1≤tick∧c=d.2.2.1)∨(at_=d.1∧¬d.2.2.2.1≤tick∧c=0)∨(¬at_=d.1∧c=0):=by
  unfold Ds at hc
  by_cases h1:at_=d.1
  ·by_cases h2:d.2.2.2.1≤tick
   ·rw [if_pos ⟨h1,h2⟩]at hc;exact .inl ⟨h1,h2,hc⟩
   ·rw [if_neg (fun h=>h2 h.2)]at hc;exact .inr (.inl ⟨h1,h2,hc⟩)
  ·rw [if_neg (fun h=>h1 h.1)]at hc;exact .inr (.inr ⟨h1,hc⟩)
 rw [←hc]at hr2 h0
 refine Pa (X:=?X) (N:=?N) (Q:=?Q) (c:=?c) (ks:=?ks) (fun ρ st=>ρ 8=.vptr [I at_] 0∧ρ 9=.vptr [I tick] 0∧ρ 11=.ptr 0 0 0 0∧ρ 28=Aci hn ls l∧st.obj 0=some (.arr 0 1 [I c])∧st.next=1) ?h1 ?h2
 case h1 =>
  intro tail
  rcases hcases with ⟨g1,g2,g3⟩ | ⟨g1,g2,g3⟩ | ⟨g1,g3⟩
  ·simp only[↓bdD,bdP,seval,Store.new,Store.set,e_changes,MD,Ac,Aa,Tryz.f56,ty3,AI,AN,AX,g1,g2]
   refine tail _ _ ?_
   simp only[↓bdD,bdP,Nat.reduceBEq,g1,g3]
  ·simp only[↓bdD,bdP,seval,Store.new,Store.set,e_changes,MD,Ac,Aa,Tryz.f56,ty3,AI,AN,AX,g1,g2]
   refine tail _ _ ?_
   simp only[↓bdD,bdP,Nat.reduceBEq,g1,g3]
  ·simp only[↓bdD,bdP,seval,Store.new,Store.set,e_changes,MD,Ac,Aa,Tryz.f56,ty3,AI,AN,AX,g1]
   refine tail _ _ ?_
   simp only[↓bdD,bdP,Nat.reduceBEq,g3]
 case h2 =>
  rintro ρ ⟨ob,M⟩ ⟨h8,h9,h11,h28,ho,hM⟩
  dsimp only at ho hM
  subst hM
  refine XZ (ys:=ysL ls l) (f:=97) (first := []) (captured := [.vptr [Ay l] 0,.vptr [I hn,AQ ls] 0]) rfl rfl (A7 rfl) ?_ (iM ok) rfl ?_ (by kernel_rfl) (by kernel_rfl)
   (fun i st'=>st'.obj 0=some (.arr 0 1 [I (c+hyT ls l at_ tick i)])∧0<st'.next) (fun e st'=>False) ?_ ?_ ?_ ?_ ?_ ?_ ?_
  ·simp only[↓bdD,bdP,h28]
  ·intro y hy
   obtain ⟨x,_,rfl⟩:=List.mem_map.1 hy
   rfl
  ·intro i
   exact Stays.obj (fun _=>by simp)
  ·intro e
   exact Stays.const
  ·exact ⟨by simp[hyT,ho],by simp⟩
  ·rintro i y ⟨ob2,M2⟩ id lr hy hid hlp hbase ⟨a0,a1⟩
   obtain ⟨hi,rfl⟩:=Aip hy
   dsimp only at hid hlp hbase a0 a1
   have hstep:hyT ls l at_ tick (i+1)=hyT ls l at_ tick i+if (Ko ls l i).1<tick∧(Ko ls l i).2.1=at_ then (Ko ls l i).2.2 else 0:=rfl
   have hl1:=hle i (by omega)
   have hl2:=hle (i+1) (by omega)
   rw [hstep]at hl2 ⊢
   generalize Ko ls l i=x at *
   have d0:¬id=0:=by omega
   have d3:¬id=M2:=by omega
   have e0:¬0=M2:=by omega
   have f0:¬0=id:=by omega
   have f3:¬M2=id:=by omega
   have hkeep2:∀(o1 o2 o3 o4:IObj),Keep 1 ⟨ob2,M2⟩ ⟨Ab (Ab (Ab (Ab ob2 M2 (some o1)) M2 (some o2)) id (some o3)) 0 (some o4),M2+1⟩:=fun o1 o2 o3 o4=>⟨by simp,fun x h1 h2 h3=>by
    dsimp only at h2 h3 ⊢
    have n1:x≠M2:=by omega
    have n2:x≠id:=fun e=>h3 lr (by rw[e];exact hlp)
    have n3:x≠0:=by omega
    simp [Ab,n1,n2,n3]⟩
   have hkeep:∀(o1 o2 o3:IObj),Keep 1 ⟨ob2,M2⟩ ⟨Ab (Ab (Ab ob2 M2 (some o1)) M2 (some o2)) id (some o3),M2+1⟩:=fun o1 o2 o3=>⟨by simp,fun x h1 h2 h3=>by
    dsimp only at h2 h3 ⊢
    have n1:x≠M2:=by omega
    have n2:x≠id:=fun e=>h3 lr (by rw[e];exact hlp)
    simp [Ab,n1,n2]⟩
   by_cases c1:x.1<tick
   ·by_cases c2:x.2.1=at_
    ·rw [if_pos ⟨c1,c2⟩]at hl2 ⊢
     have hw:IntKind.i64.wrap (c+hyT ls l at_ tick i+x.2.2)=c+(hyT ls l at_ tick i+x.2.2):=by rw[Ah (by omega) (by omega)];omega
     simp only[↓bdD,bdP,seval,Store.new,Store.set,Nat.mul_one,ty3,OH,hlp,h8,h9,h11,a0,d0,d3,e0,f0,f3,GC,CD,c1,c2,hw]
     exact fun rb=>⟨by omega,by omega,hkeep2 _ _ _ _⟩
    ·rw [if_neg (fun h=>c2 h.2),Int.add_zero]at hl2 ⊢
     simp only[↓bdD,bdP,seval,Store.new,Store.set,Nat.mul_one,ty3,OH,hlp,h8,h9,a0,d3,e0,f0,f3,GC,CD,c1,c2]
     exact fun rb=>⟨by omega,by omega,hkeep _ _ _⟩
   ·rw [if_neg (fun h=>c1 h.1),Int.add_zero]at hl2 ⊢
    simp only[↓bdD,bdP,seval,Store.new,Store.set,ty3,OH,hlp,h9,a0,d3,e0,f0,GC,CD,c1]
    exact fun rb=>⟨by omega,by omega,hkeep _ _ _⟩
  ·rintro ⟨ob2,M2⟩ ⟨a0,a1⟩
   dsimp only at a0 a1
   rw [Yi,hr2]at a0
   simp only[↓bdD,bdP,seval,Ao,ty3,h11,a0]
  ·rintro i ⟨ob2,M2⟩ h
   exact h.elim
  ·rintro ⟨ob2,M2⟩ h
   exact h.elim
theorem Zv:AM Tryz.prog e_stock.1 e_stock.2:=Ax fun⟨hn,ls,l,d,at_,tick⟩ h=>Acl hn ls l d at_ tick h
def Es (hn:Int) (ls:List Lnk) (l:List Snd) (d:Dem) (at_ tick:Int):Int×Int :=
 if Bf hn ls l≠0 then (0,Bf hn ls l)else if D7 hn d=false∨hOK hn at_=false∨tick<0∨1000000<tick then (0,1)else (Bh ls l d at_ tick,0)
theorem Yk {hn:Int} {d:Dem} (h:D7 hn d=true):Yj d:=by
 simp only[D7,Bool.and_eq_true,decide_eq_true_eq]at h
 obtain ⟨_,h⟩:=h
 unfold Il at h
 exact ⟨by omega,h.2.1⟩
noncomputable def Gt:Int×List Lnk×List Snd×Dem×Int×Int→List PV:=fun (hn,ls,l,d,at_,tick) => [.agg [I hn,AQ ls],Ay l,DY d,I at_,I tick]
noncomputable def Lr:Int×List Lnk×List Snd×Dem×Int×Int→PV:=fun (hn,ls,l,d,at_,tick)=>.tuple [I (Es hn ls l d at_ tick).1,I (Es hn ls l d at_ tick).2]
noncomputable def e_Stock:Nat×Ent:=(64,.v (Ap Gt Lr AY))
theorem Acm:∀i j,Gt i=Gt j→i=j:=by
 rintro ⟨_,_,_,_,_,_⟩ ⟨_,_,_,_,_,_⟩ h
 simp only[Gt,List.cons.injEq,and_true,PV.lits.injEq,PV.int.injEq,PV.agg.injEq,true_and,AF,AD]at h
 simp [Prod.ext_iff,h] <;> omega
theorem SP (hn:Int) (ls:List Lnk) (l:List Snd) (d:Dem) (at_:Int) (tick:Int):Ap Gt Lr AY [.agg [I hn,AQ ls],Ay l,DY d,I at_,I tick]=some (.tuple [I (Es hn ls l d at_ tick).1,I (Es hn ls l d at_ tick).2]):=AC Acm (i:=(hn,ls,l,d,at_,tick)) trivial
def Acn:Prop:=∀(hn:Int) (ls:List Lnk) (l:List Snd) (d:Dem) (at_:Int) (tick:Int) ,VC Tryz.prog 64 (Gt (hn,ls,l,d,at_,tick)) (Lr (hn,ls,l,d,at_,tick))
theorem Aco:Acn:=by
 intro hn ls l d at_ tick
 dsimp only[Gt,Lr]
 refine Bc AP (l := [e_right,e_demanded,e_stock]) ((Ad Jk (Ad O0 (Ad Zv Au)))) [] []  Tryz.func64 rfl (by decide +kernel) (N:=47) rfl (by simp) rfl (by kernel_rfl) fun hs=>?_
 simp only[AK,PV.small,List.length_map,and_true,true_and]at hs
 by_cases h:Bf hn ls l=0
 case neg =>
  rw [show Es hn ls l d at_ tick=(0,Bf hn ls l) by simp[Es,h]]
  generalize hr:Bf hn ls l=r at *
  simp only[↓bdD,bdP,Nat.reduceLT,Nat.reduceBEq,Ao,Nat.reduceAdd,st0,↓reduceIte,e_right,By,e_demanded,e_stock,Ac,Aa,Tryz.f64,AI,AN,h,hr]
 have ok:=right_zero.1 h
 have hM:Es hn ls l d at_ tick=if D7 hn d=false∨hOK hn at_=false∨tick<0∨1000000<tick then (0,1)else (Bh ls l d at_ tick,0):=by simp[Es,h]
 rw [hM]
 clear hM
 cases hd:D7 hn d
 ·simp only[↓bdD,bdP,Nat.reduceLT,Nat.reduceBEq,Ao,Nat.reduceEqDiff,Nat.reduceAdd,st0,↓reduceIte,e_right,By,e_demanded,CP,e_stock,Ac,Aa,Tryz.f64,AI,AN,AX,true_or,h,hd]
 have hdb:=Yk hd
 by_cases h1:at_<0
 ·have : hOK hn at_=false:=decide_eq_false (by omega)
  simp only[↓bdD,bdP,Nat.reduceLT,Nat.reduceBEq,Ao,Nat.reduceEqDiff,Nat.reduceAdd,st0,↓reduceIte,e_right,By,e_demanded,CP,e_stock,Ac,Aa,Tryz.f64,AI,AN,AX,true_or,h,hd,h1,this]
 by_cases h2:hn≤at_
 ·have : hOK hn at_=false:=decide_eq_false (by omega)
  simp only[↓bdD,bdP,Nat.reduceLT,Nat.reduceBEq,Ao,Nat.reduceEqDiff,Nat.reduceAdd,st0,↓reduceIte,e_right,By,e_demanded,CP,e_stock,Ac,Aa,Tryz.f64,ty3,AI,AN,AX,true_or,h,hd,h1,h2,this]
 have hk:hOK hn at_=true:=decide_eq_true (by omega)
 by_cases h3:tick<0
 ·simp only[↓bdD,bdP,Nat.reduceLT,Nat.reduceBEq,Ao,Nat.reduceEqDiff,Nat.reduceAdd,st0,↓reduceIte,e_right,By,e_demanded,CP,e_stock,Ac,Aa,Tryz.f64,ty3,AI,AN,AX,true_or,h,hd,h1,h2,h3,hk]
 by_cases h4:1000000<tick
 ·simp only[↓bdD,bdP,Nat.reduceLT,Nat.reduceBEq,Ao,Nat.reduceEqDiff,Nat.reduceAdd,st0,↓reduceIte,e_right,By,e_demanded,CP,e_stock,Ac,Aa,Tryz.f64,ty3,AI,AN,AX,h,hd,h1,h2,h3,h4,hk]
 simp only[↓bdD,bdP,Nat.reduceLT,Nat.reduceBEq,Ao,Nat.reduceEqDiff,Nat.reduceAdd,st0,↓reduceIte,e_right,By,e_demanded,CP,e_stock,Lq,Ac,Aa,Tryz.f64,ty3,AI,AN,AX,h,hd,h1,h2,h3,h4,hk,ok,hdb]
theorem Zw:AM Tryz.prog e_Stock.1 e_Stock.2:=Ax fun⟨hn,ls,l,d,at_,tick⟩ h=>Aco hn ls l d at_ tick
def frM (ls:List Lnk) (l:List Snd) (k:Nat):Int:=(Bd ls (l.getD k dS)).1
def D8 (ls:List Lnk) (l:List Snd) (t f:Int):Nat→Int
 | 0=>0
 | n+1=>D8 ls l t f n+if (l.getD n dS).2.1=t∧frM ls l n=f then (l.getD n dS).2.2 else 0
def svP (ls:List Lnk) (l:List Snd) (d:Dem):Nat→Bool
 | 0=>false
 | k+1=>svP ls l d k||decide (Bh ls l d (frM ls l k) (l.getD k dS).2.1<D8 ls l (l.getD k dS).2.1 (frM ls l k) (k+1))
def svR (ls:List Lnk) (l:List Snd) (d:Dem):Nat→Bool
 | 0=>false
 | k+1=>svR ls l d k||decide (Bh ls l d (frM ls l k) (l.getD k dS).2.1<D8 ls l (l.getD k dS).2.1 (frM ls l k) l.length)
theorem SQ {ls:List Lnk} {l:List Snd} {d:Dem}:∀ {n},svP ls l d n=true↔∃k,k<n∧Bh ls l d (frM ls l k) (l.getD k dS).2.1<D8 ls l (l.getD k dS).2.1 (frM ls l k) (k+1)
 | 0=>⟨fun h=>(by cases h),fun⟨k,h,_⟩=>absurd h (by omega)⟩
 | n+1=>by
  simp only[svP,Bool.or_eq_true,decide_eq_true_eq,SQ (n:=n)]
  constructor
  ·rintro (⟨k,h,g⟩ | h)
   ·exact ⟨k,by omega,g⟩
   ·exact ⟨n,by omega,h⟩
  ·rintro ⟨k,h,g⟩
   by_cases e:k=n
   ·subst e;exact .inr g
   ·exact .inl ⟨k,by omega,g⟩
theorem svR_iff {ls:List Lnk} {l:List Snd} {d:Dem}:∀ {n},svR ls l d n=true↔∃k,k<n∧Bh ls l d (frM ls l k) (l.getD k dS).2.1<D8 ls l (l.getD k dS).2.1 (frM ls l k) l.length
 | 0=>⟨fun h=>(by cases h),fun⟨k,h,_⟩=>absurd h (by omega)⟩
 | n+1=>by
  simp only[svR,Bool.or_eq_true,decide_eq_true_eq,svR_iff (n:=n)]
  constructor
  ·rintro (⟨k,h,g⟩ | h)
   ·exact ⟨k,by omega,g⟩
   ·exact ⟨n,by omega,h⟩
  ·rintro ⟨k,h,g⟩
   by_cases e:k=n
   ·subst e;exact .inr g
   ·exact .inl ⟨k,by omega,g⟩
theorem Q4 {hn:Int} {ls:List Lnk} {l:List Snd} (ok:OKr hn ls l) (t f:Int) {m:Nat}:∀ {n},m≤n→n≤l.length→D8 ls l t f m≤D8 ls l t f n
 | 0,h,_=>by rw[show m=0 by omega];exact Int.le_refl _
 | n+1,h,hl=>by
  by_cases e:m=n+1
  ·rw [e];exact Int.le_refl _
  ·have ih:=Q4 ok t f (m:=m) (n:=n) (by omega) (by omega)
   have := ok.bytes n (by omega)
   simp only[D8]
   split <;> omega
theorem Zx {hn:Int} {ls:List Lnk} {l:List Snd} (ok:OKr hn ls l) (t f:Int):∀n,n≤l.length→0≤D8 ls l t f n∧D8 ls l t f n≤1073741824*(n:Int)
 | 0,_=>by simp[D8]
 | n+1,h=>by
  have ih:=Zx ok t f n (by omega)
  have := ok.bytes n (by omega)
  simp only[D8]
  split <;> omega
theorem Q5 {ls:List Lnk} {l:List Snd} {k:Nat}:∀n,k<n→∃j,j<n∧(l.getD j dS).2.1=(l.getD k dS).2.1∧frM ls l j=frM ls l k∧D8 ls l (l.getD k dS).2.1 (frM ls l k) (j+1)=D8 ls l (l.getD k dS).2.1 (frM ls l k) n
 | 0,h=>absurd h (by omega)
 | n+1,h=>by
  by_cases hm:(l.getD n dS).2.1=(l.getD k dS).2.1∧frM ls l n=frM ls l k
  ·exact ⟨n,by omega,hm.1,hm.2,rfl⟩
  ·have hk:k≠n:=fun e=>hm (by rw[e];exact⟨rfl,rfl⟩)
   obtain ⟨j,h1,h2,h3,h4⟩:=Q5 (ls:=ls) (l:=l) (k:=k) n (by omega)
   refine ⟨j,by omega,h2,h3,?_⟩
   rw [h4]
   simp only[D8]
   rw [if_neg hm,Int.add_zero]
theorem Aiq {hn:Int} {ls:List Lnk} {l:List Snd} {d:Dem} (ok:OKr hn ls l):svP ls l d l.length=svR ls l d l.length:=by
 rw [Bool.eq_iff_iff,SQ,svR_iff]
 constructor
 ·rintro ⟨k,h,g⟩
  have := Q4 ok (l.getD k dS).2.1 (frM ls l k) (m:=k+1) (n:=l.length) (by omega) (by omega)
  exact ⟨k,h,by omega⟩
 ·rintro ⟨k,h,g⟩
  obtain ⟨j,h1,h2,h3,h4⟩:=Q5 (ls:=ls) (l:=l) (k:=k) l.length h
  exact ⟨j,h1,by rw[h2,h3,h4];exact g⟩
def Ct (hn:Int) (ls:List Lnk) (l:List Snd) (d:Dem):Int :=
 if Bf hn ls l≠0 then Bf hn ls l else if D7 hn d=false then 1 else if Cs hn ls l≠0 then Cs hn ls l
 else if svR ls l d l.length=true then 4 else if Bh ls l d d.2.1 d.2.2.2.2<d.2.2.1 then 21 else 0
theorem Afy {k:Nat} {n:Nat} (h:k<n) (hn:n≤2000):IntKind.i64.wrap ((k:Int)+1)=((k+1:Nat):Int):=by rw[Ah (by omega) (by omega)];omega
noncomputable def FS:Int×List Lnk×List Snd×Dem→List PV:=fun (hn,ls,l,d) => [.agg [I hn,AQ ls],Ay l,DY d]
noncomputable def Ls:Int×List Lnk×List Snd×Dem→PV:=fun (hn,ls,l,d)=>I (Ct hn ls l d)
noncomputable def e_serves:Nat×Ent:=(30,.v (Ap FS Ls AY))
theorem sL:∀i j,FS i=FS j→i=j:=by
 rintro ⟨_,_,_,_⟩ ⟨_,_,_,_⟩ h
 simp only[FS,List.cons.injEq,and_true,PV.lits.injEq,PV.int.injEq,PV.agg.injEq,true_and,AF,AD]at h
 simp [Prod.ext_iff,h] <;> omega
theorem sM (hn:Int) (ls:List Lnk) (l:List Snd) (d:Dem):Ap FS Ls AY [.agg [I hn,AQ ls],Ay l,DY d]=some (I (Ct hn ls l d)):=AC sL (i:=(hn,ls,l,d)) trivial
def sP:Prop:=∀(hn:Int) (ls:List Lnk) (l:List Snd) (d:Dem) ,VC Tryz.prog 30 (FS (hn,ls,l,d)) (Ls (hn,ls,l,d))
theorem sQ:sP:=by
 intro hn ls l d
 dsimp only[FS,Ls]
 refine Bc AP (l := [e_right,e_demanded,e_fits,e_stock]) ((Ad Jk (Ad O0 (Ad rZ (Ad Zv Au))))) [92] []  Tryz.func30 rfl (by decide +kernel) (N:=96) rfl (by simp) rfl (by kernel_rfl) fun hs=>?_
 simp only[AK,PV.small,List.length_map,and_true,true_and]at hs
 by_cases h:Bf hn ls l=0
 case neg =>
  rw [show Ct hn ls l d=Bf hn ls l by simp[Ct,h]]
  generalize hr:Bf hn ls l=r at *
  simp only[↓bdD,bdP,Nat.reduceLT,Nat.reduceBEq,Ao,Nat.reduceAdd,st0,↓reduceIte,e_right,By,e_demanded,e_fits,e_stock,Ac,Aa,Tryz.f30,AI,AN,h,hr]
 have ok:=right_zero.1 h
 have hlen:=ok.len
 cases hd:D7 hn d
 ·rw [show Ct hn ls l d=1 by simp[Ct,h,hd]]
  simp only[↓bdD,bdP,Nat.reduceLT,Nat.reduceBEq,Ao,Nat.reduceEqDiff,Nat.reduceAdd,st0,↓reduceIte,e_right,By,e_demanded,CP,e_fits,e_stock,Ac,Aa,Tryz.f30,AI,AN,AX,h,hd]
 have hdb:=Yk hd
 by_cases hf:Cs hn ls l=0
 case neg =>
  rw [show Ct hn ls l d=Cs hn ls l by simp[Ct,h,hd,hf]]
  generalize hr:Cs hn ls l=r at *
  simp only[↓bdD,bdP,Nat.reduceLT,Nat.reduceBEq,Ao,Nat.reduceEqDiff,Nat.reduceAdd,st0,↓reduceIte,e_right,By,e_demanded,CP,e_fits,MC,e_stock,Ac,Aa,Tryz.f30,AI,AN,AX,h,hd,hf,hr]
 have hM:Ct hn ls l d=if svP ls l d l.length=true then 4 else if Bh ls l d d.2.1 d.2.2.2.2<d.2.2.1 then 21 else 0:=by simp[Ct,h,hd,hf,Aiq ok]
 rw [hM]
 clear hM
 generalize hr:(if svP ls l d l.length=true then (4:Int)else if Bh ls l d d.2.1 d.2.2.2.2<d.2.2.1 then 21 else 0)=r
 simp only[↓bdD,bdP,Nat.reduceLT,Nat.reduceBEq,Nat.reduceEqDiff,Nat.reduceAdd,st0,↓reduceIte,e_right,By,e_demanded,CP,e_fits,MC,e_stock,Ac,Aa,Tryz.f30,AI,AN,AX,h,hd,hf]
 refine Aw [6,9,10,11,12,14,33,34,35,36,37,38,39,40,41,42,43,44,45,46,47,48,49,50,51,52,53,54,55,56,57,58,59,60,61,62,63,64,65,66,67,68,69,70,71,72,73,74,75,76,77,78,79,80,81,82,83,84] l.length (fun k ρ st'=>ρ 33=I k∧svP ls l d k=false) (.refl _) ?_ ?_
 ·simp only[↓bdD,bdP,svP]
 ·rintro k ρ ⟨ob,M⟩ hk ⟨h33,hz⟩
  by_cases hlt:k<l.length
  ·have hw1:=Afy hlt hlen
   have e1:=ok.link k hlt
   have hs:svP ls l d (k+1)=decide (Bh ls l d (frM ls l k) (l.getD k dS).2.1<D8 ls l (l.getD k dS).2.1 (frM ls l k) (k+1)):=by simp only[svP,hz,Bool.false_or]
   have hle:=Zx ok (l.getD k dS).2.1 (frM ls l k)
   have htk:List.take (k+1-0) (l.map B5)=(l.take (k+1)).map B5:=List.map_take.symm
   have htl:(l.take (k+1)).length=k+1:=by simp;omega
   have htg:∀i,i<k+1→(l.take (k+1)).getD i dS=l.getD i dS:=fun i hi=>by simp[hi]
   have hk1:((k+1:Nat):Int)≤(l.length:Int):=by omega
   have hfr:frM ls l k=(ls.getD (l.getD k dS).1.toNat dL).1:=rfl
   generalize hf:frM ls l k=f at *
   generalize hx:l.getD k dS=x at *
   have h5:=Ep e1.1 e1.2
   have h6:=Int.toNat_of_nonneg e1.1
   generalize x.1.toNat=kk at *
   have nM:¬M=M+1:=by omega
   simp only[↓bdD,bdP,Nat.reduceLT,Nat.reduceBEq,Nat.reduceAdd,Int.reduceToNat,Store.new,Store.set,↓reduceIte,A6,Cb,If,ty3,BP,AI,AN,Cn,CI,h33,hlt,hx,h5,←h6,hw1,htk,htl,hk1,←hfr]
   refine Aw [12,14,50,51,52,53,54,55,56,57,58,59,60,61,62,63,64,65,66,67,68,69,70,71,72,73,74] (k+1) (fun i ρ st'=>ρ 50=I i∧ρ 12=I (D8 ls l x.2.1 f i)∧st'.obj M=some (.arr 0 3 [.agg [I kk,I x.2.1,I x.2.2]])∧M<st'.next) (.refl _) ?_ ?_
   ·simp only[↓bdD,bdP,Nat.reduceBEq,D8]
   ·rintro i ρ2 ⟨ob2,M2⟩ hi ⟨h50,h12,hob,hMM⟩
    dsimp only at hob hMM
    have q1:¬M=M2:=by omega
    by_cases hilt:i<k+1
    ·have hw2:IntKind.i64.wrap ((i:Int)+1)=((i+1:Nat):Int):=Afy hilt (by omega)
     have hil:i<l.length:=by omega
     have e2:=ok.link i hil
     have b2:=ok.bytes i hil
     have hst:D8 ls l x.2.1 f (i+1)=D8 ls l x.2.1 f i+if (l.getD i dS).2.1=x.2.1∧frM ls l i=f then (l.getD i dS).2.2 else 0:=rfl
     have hl2:=hle i (by omega)
     have hg:=htg i hilt
     have hfi:frM ls l i=(ls.getD (l.getD i dS).1.toNat dL).1:=rfl
     rw [hfi]at hst
     generalize hy:l.getD i dS=y at *
     have h52:=Ep e2.1 e2.2
     have h62:=Int.toNat_of_nonneg e2.1
     generalize y.1.toNat=jj at *
     by_cases c1:y.2.1=x.2.1
     ·by_cases c2:(ls.getD jj dL).1=f
      ·rw [if_pos ⟨c1,c2⟩]at hst
       have hw3:IntKind.i64.wrap (D8 ls l x.2.1 f i+y.2.2)=D8 ls l x.2.1 f (i+1):=by rw[hst,Ah (by omega) (by omega)]
       simp only[↓bdD,bdP,Nat.reduceLT,Nat.reduceBEq,Nat.reduceAdd,Store.new,Store.set,↓reduceIte,A6,Cb,If,ty3,BP,AI,AN,Cn,CI,h50,h12,hob,q1,hilt,htl,hg,h52,←h62,c1,c2,hw2,hw3]
       omega
      ·rw [if_neg (fun h=>c2 h.2),Int.add_zero]at hst
       rw [hst]
       simp only[↓bdD,bdP,Nat.reduceLT,Nat.reduceBEq,Nat.reduceAdd,Store.new,Store.set,↓reduceIte,A6,Cb,If,ty3,BP,AI,AN,Cn,CI,h50,h12,hob,q1,hilt,htl,hg,h52,←h62,c1,c2,hw2]
       omega
     ·rw [if_neg (fun h=>c1 h.1),Int.add_zero]at hst
      rw [hst]
      simp only[↓bdD,bdP,Nat.reduceLT,Nat.reduceBEq,Nat.reduceAdd,Store.new,Store.set,↓reduceIte,A6,ty3,AN,Cn,h50,h12,hob,q1,hilt,htl,hg,c1,hw2]
      omega
    ·have e:i=k+1:=by omega
     subst e
     by_cases hb:Bh ls l d f x.2.1<D8 ls l x.2.1 f (k+1)
     ·rw [decide_eq_true hb]at hs
      have hend:svP ls l d l.length=true:=by
       rw [SQ]at hs ⊢
       obtain ⟨j,j1,j2⟩:=hs
       exact ⟨j,by omega,j2⟩
      rw [if_pos hend]at hr
      subst hr
      simp only[↓bdD,bdP,Nat.reduceLT,Nat.reduceBEq,Ao,Nat.reduceEqDiff,Nat.reduceAdd,↓reduceIte,Lq,Ac,Aa,ty3,AI,AN,AX,Cn,h50,h12,hob,ok,hdb,hb]
     ·rw [decide_eq_false hb]at hs
      simp only[↓bdD,bdP,Nat.reduceLT,Nat.reduceBEq,Nat.reduceEqDiff,Nat.reduceAdd,↓reduceIte,Lq,Ac,Aa,ty3,AI,AN,AX,Cn,h50,h12,hob,ok,hdb,hb,hs,hw1,h33]
      rw [AL (by decide +kernel)];simp only[↓bdD,bdP,Nat.reduceBEq]
  ·have e:k=l.length:=by omega
   subst e
   rw [hz,if_neg (by simp)]at hr
   by_cases hb:Bh ls l d d.2.1 d.2.2.2.2<d.2.2.1
   ·rw [if_pos hb]at hr
    subst hr
    simp only[↓bdD,bdP,Nat.reduceLT,Nat.reduceBEq,Ao,Nat.reduceEqDiff,Nat.reduceAdd,↓reduceIte,Lq,Ac,Aa,ty3,AI,AN,AX,h33,ok,hdb,hb]
   ·rw [if_neg hb]at hr
    subst hr
    simp only[↓bdD,bdP,Nat.reduceLT,Nat.reduceBEq,Ao,Nat.reduceEqDiff,Nat.reduceAdd,↓reduceIte,Lq,Ac,Aa,ty3,AI,AN,AX,h33,ok,hdb,hb]
theorem sR:AM Tryz.prog e_serves.1 e_serves.2:=Ax fun⟨hn,ls,l,d⟩ h=>sQ hn ls l d
end Sim
