/- What functions of this seat compute, by values: contracts (lemmas of the statement's proof, under the conditions that each names). -/
import Derived.Test.YtppljhpecoeakaaQF9
set_option linter.unusedVariables false
set_option linter.unusedSimpArgs false
namespace Sim
theorem Da {f:Nat→Int} {a:Nat}:∀ {b},Aj f (a+b)=Aj f a+Aj (fun i=>f (a+i)) b
 | 0=>by simp[Aj]
 | b+1=>by rw[←Nat.add_assoc,Aj,Da,Aj];omega
theorem DH {f:Nat→Int} {W:Nat}:∀ {D},Aj f (D*W)=Aj (fun t=>Aj (fun j=>f (t*W+j)) W) D
 | 0=>by rw[Nat.zero_mul];rfl
 | D+1=>by rw[Nat.succ_mul,Da,DH,Aj]
theorem CA {g:Nat→Int} {a:Nat}:∀ {n},Aj (fun i=>if i=a then g i else 0) n=if a<n then g a else 0
 | 0=>by simp[Aj]
 | n+1=>by
  rw [Aj,CA]
  by_cases c:n=a
  ·subst c;rw[if_neg (by omega),if_pos rfl,if_pos (by omega)];omega
  ·rw [if_neg c]
   by_cases c2:a<n
   ·rw [if_pos c2,if_pos (by omega)];omega
   ·rw [if_neg c2,if_neg (by omega)];rfl
theorem Fw {f:Nat→Int} {k:Nat}:∀ {n},(∀i,i<n→0≤f i)→k<n→f k≤Aj f n
 | 0,_,h=>absurd h (by omega)
 | n+1,h,hk=>by
  have h0:=Bp (f:=f) (n:=n) fun i hi=>h i (by omega)
  rw [Aj]
  by_cases c:k=n
  ·subst c;omega
  ·have := Fw (f:=f) (n:=n) (fun i hi=>h i (by omega)) (show k<n by omega)
   have := h n (by omega)
   omega
theorem De {h t x t' x':Nat} (hx:x<h) (hx':x'<h):t'*h+x'=t*h+x↔t'=t∧x'=x:=by
 constructor
 ·intro e
  have h1:(t'*h+x') / h=t':=by rw[Nat.mul_comm,Nat.mul_add_div (by omega),Nat.div_eq_of_lt hx'];omega
  have h2:(t*h+x) / h=t:=by rw[Nat.mul_comm,Nat.mul_add_div (by omega),Nat.div_eq_of_lt hx];omega
  rw [e,h2]at h1
  subst h1
  exact ⟨rfl,by omega⟩
 ·rintro ⟨rfl,rfl⟩;rfl
structure TN where
 h : Nat
 L : Nat
 fr : Nat→Nat
 to : Nat→Nat
 lf : Nat→Nat→Int
 pr : Nat→Nat→Int
namespace TN
variable {T:TN} {D:Nat}
def W (T:TN):Nat:=T.h+T.L
def p (T:TN) (i:Nat):Arc :=
 if i % T.W<T.h then (i / T.W*T.h+i % T.W,(i / T.W+1)*T.h+i % T.W,1099511627776,0)
 else (i / T.W*T.h+T.fr (i % T.W-T.h),(i / T.W+1)*T.h+T.to (i % T.W-T.h),T.lf (i % T.W-T.h) (i / T.W),T.pr (i % T.W-T.h) (i / T.W))
structure OK (T:TN) (D:Nat):Prop where
 h1 : 0<T.h
 e : ∀k,k<T.L→T.fr k<T.h∧T.to k<T.h
 lf : ∀k t,k<T.L→t<D→0≤T.lf k t
 pr : ∀k t,k<T.L→t<D→0≤T.pr k t∧T.pr k t≤1000000
theorem row {t j:Nat} (hj:j<T.W):(t*T.W+j) / T.W=t∧(t*T.W+j) % T.W=j:=by
 refine ⟨?_,?_⟩
 ·rw [Nat.mul_comm,Nat.mul_add_div (by omega),Nat.div_eq_of_lt hj];omega
 ·rw [Nat.mul_comm,Nat.mul_add_mod,Nat.mod_eq_of_lt hj]
theorem p_house {t x:Nat} (hx:x<T.h):T.p (t*T.W+x)=(t*T.h+x,(t+1)*T.h+x,1099511627776,0):=by
 have hW:x<T.W:=by unfold W;omega
 unfold p
 rw [(row hW).1,(row hW).2,if_pos hx]
theorem p_link {t k:Nat} (hk:k<T.L):T.p (t*T.W+(T.h+k))=(t*T.h+T.fr k,(t+1)*T.h+T.to k,T.lf k t,T.pr k t):=by
 have hW:T.h+k<T.W:=by unfold W;omega
 unfold p
 rw [(row hW).1,(row hW).2,if_neg (by omega),show T.h+k-T.h=k by omega]
theorem p_ok (ok:T.OK D):J3 T.p ((D+1)*T.h) (D*T.W):=fun i hi=>by
 have h1:=ok.h1
 have hW:0<T.W:=by unfold W;omega
 have ht:i / T.W<D:=by rw[Nat.div_lt_iff_lt_mul hW];exact hi
 have hj:=Nat.mod_lt i hW
 have b1:(i / T.W+1)*T.h≤D*T.h:=Nat.mul_le_mul_right _ (by omega)
 have b2:(D+1)*T.h=D*T.h+T.h:=Nat.succ_mul _ _
 have b3:(i / T.W+1)*T.h=i / T.W*T.h+T.h:=Nat.succ_mul _ _
 unfold p
 by_cases c:i % T.W<T.h
 ·rw [if_pos c]
  dsimp only
  exact ⟨by omega,by omega,by omega,by omega,by omega,by omega⟩
 ·rw [if_neg c]
  have e0:T.W=T.h+T.L:=rfl
  have hk:i % T.W-T.h<T.L:=by omega
  obtain ⟨e1,e2⟩:=ok.e _ hk
  have e3:=ok.lf _ _ hk ht
  have e4:=ok.pr _ _ hk ht
  dsimp only
  exact ⟨by omega,by omega,by omega,e3,e4.1,e4.2⟩
def G (T:TN) (D a c:Nat):FN:=fnP T.p ((D+1)*T.h) (D*T.W) a (D*T.h+c)
def outF (T:TN) (g:Nat→Nat→Int) (x t:Nat):Int:=Aj (fun k=>if T.fr k=x then g k t else 0) T.L
def inF (T:TN) (g:Nat→Nat→Int) (x t:Nat):Int:=Aj (fun k=>if T.to k=x then g k t else 0) T.L
def stk (T:TN) (a:Nat) (b:Int) (g:Nat→Nat→Int):Nat→Nat→Int
 | 0,x=>if a=x then b else 0
 | t+1,x=>stk T a b g t x-T.outF g x t+T.inF g x t
def wf (T:TN) (f:Nat→Int) (x t:Nat):Int:=f (t*T.W+x)
def gf (T:TN) (f:Nat→Int) (k t:Nat):Int:=f (t*T.W+(T.h+k))
theorem Wo (ok:T.OK D) {a c:Nat} {f:Nat→Int} {t x:Nat} (hx:x<T.h):(T.G D a c).net f (t*T.h+x)=(if t<D then T.wf f x t+T.outF (T.gf f) x t else 0)-(if 0<t∧t-1<D then T.wf f x (t-1)+T.inF (T.gf f) x (t-1)else 0):=by
 have key:∀t',Aj (fun j=>(if (T.p (t'*T.W+j)).1=t*T.h+x then f (t'*T.W+j)else 0)-(if (T.p (t'*T.W+j)).2.1=t*T.h+x then f (t'*T.W+j)else 0)) T.W
   = (if t'=t then T.wf f x t'+T.outF (T.gf f) x t' else 0)-(if t'+1=t then T.wf f x t'+T.inF (T.gf f) x t' else 0):=fun t'=>by
  have e0:T.W=T.h+T.L:=rfl
  have e1:Aj (fun j=>(if (T.p (t'*T.W+j)).1=t*T.h+x then f (t'*T.W+j)else 0)-(if (T.p (t'*T.W+j)).2.1=t*T.h+x then f (t'*T.W+j)else 0)) T.h=(if t'=t then T.wf f x t' else 0)-(if t'+1=t then T.wf f x t' else 0):=by
   rw [Af (g:=fun j=>(if j=x then (if t'=t then T.wf f j t' else 0)else 0)-(if j=x then (if t'+1=t then T.wf f j t' else 0)else 0)) (fun j hj=>by
    rw [p_house hj]
    dsimp only
    have n1:=De (t:=t) (t':=t') hx hj
    have n2:=De (t:=t) (t':=t'+1) hx hj
    by_cases c1:j=x
    ·subst c1
     simp only[n1,n2,and_true,if_true];rfl
    ·simp only[n1,n2,c1,and_false,if_false]),B0,CA,CA,if_pos hx,if_pos hx]
  have e2:Aj (fun k=>(if (T.p (t'*T.W+(T.h+k))).1=t*T.h+x then f (t'*T.W+(T.h+k))else 0)-(if (T.p (t'*T.W+(T.h+k))).2.1=t*T.h+x then f (t'*T.W+(T.h+k))else 0)) T.L=(if t'=t then T.outF (T.gf f) x t' else 0)-(if t'+1=t then T.inF (T.gf f) x t' else 0):=by
   rw [Af (g:=fun k=>(if t'=t then (if T.fr k=x then T.gf f k t' else 0)else 0)-(if t'+1=t then (if T.to k=x then T.gf f k t' else 0)else 0)) (fun k hk=>by
    rw [p_link hk]
    dsimp only
    obtain ⟨q1,q2⟩:=ok.e k hk
    have n1:=De (t:=t) (t':=t') hx q1
    have n2:=De (t:=t) (t':=t'+1) hx q2
    simp only[n1,n2]
    unfold gf
    by_cases c1:t'=t <;> by_cases c2:t'+1=t <;> simp[c1,c2]),B0]
   unfold outF inF
   congr 1
   ·by_cases c1:t'=t
    ·simp only[if_pos c1]
    ·simp only[if_neg c1];exact A3 fun _ _=>rfl
   ·by_cases c1:t'+1=t
    ·simp only[if_pos c1]
    ·simp only[if_neg c1];exact A3 fun _ _=>rfl
  rw [e0,Da,←e0,e1,e2]
  by_cases c1:t'=t <;> by_cases c2:t'+1=t <;> simp[c1,c2] <;> omega
 have : (T.G D a c).net f (t*T.h+x)=Aj (fun t'=>(if t'=t then T.wf f x t'+T.outF (T.gf f) x t' else 0)-(if t'+1=t then T.wf f x t'+T.inF (T.gf f) x t' else 0)) D:=by
  show Aj _ (D*T.W)=_
  rw [DH]
  exact Af fun t' _=>key t'
 rw [this,B0,CA (g:=fun t'=>T.wf f x t'+T.outF (T.gf f) x t')]
 congr 1
 by_cases c:0<t
 ·rw [Af (g:=fun t'=>if t'=t-1 then T.wf f x t'+T.inF (T.gf f) x t' else 0) (fun t' _=>by
   by_cases c1:t'+1=t
   ·rw [if_pos c1,if_pos (by omega)]
   ·rw [if_neg c1,if_neg (by omega)]),CA (g:=fun t'=>T.wf f x t'+T.inF (T.gf f) x t')]
  simp [c]
 ·rw [A3 (fun t' _=>by rw[if_neg (by omega)]),if_neg (fun g=>c g.1)]
theorem Xx {a c:Nat} {f:Nat→Int}:(T.G D a c).cost f=Aj (fun t=>Aj (fun k=>T.pr k t*T.gf f k t) T.L) D:=by
 show Aj (fun i=>(T.p i).2.2.2*f i) (D*T.W)=_
 rw [DH]
 refine Af fun t _=>?_
 have e0:T.W=T.h+T.L:=rfl
 conv => lhs;rw[e0,Da,←e0]
 rw [A3 (fun x hx=>by rw[p_house hx];exact Int.zero_mul _),Int.zero_add]
 exact Af fun k hk=>by rw[p_link hk];rfl
structure Plan (T:TN) (D a c:Nat) (b:Int) (g:Nat→Nat→Int):Prop where
 nn : ∀k t,k<T.L→t<D→0≤g k t
 le : ∀k t,k<T.L→t<D→g k t≤T.lf k t
 st : ∀t x,t<D→x<T.h→T.outF g x t≤T.stk a b g t x
 en : ∀x,x<T.h→T.stk a b g D x=if c=x then b else 0
def cst (T:TN) (D:Nat) (g:Nat→Nat→Int):Int:=Aj (fun t=>Aj (fun k=>T.pr k t*g k t) T.L) D
theorem outF_congr {g g':Nat→Nat→Int} {x t:Nat} (h:∀k,k<T.L→g k t=g' k t):T.outF g x t=T.outF g' x t:=Af fun k hk=>by rw[h k hk]
theorem OM {g g':Nat→Nat→Int} {x t:Nat} (h:∀k,k<T.L→g k t=g' k t):T.inF g x t=T.inF g' x t:=Af fun k hk=>by rw[h k hk]
theorem stk_congr {g g':Nat→Nat→Int} {a:Nat} {b:Int} {x:Nat}:∀ {t},(∀k t',k<T.L→t'<t→g k t'=g' k t')→T.stk a b g t x=T.stk a b g' t x
 | 0,_=>rfl
 | t+1,h=>by
  rw [stk,stk,stk_congr fun k t' hk ht=>h k t' hk (by omega),outF_congr fun k hk=>h k t hk (by omega),OM fun k hk=>h k t hk (by omega)]
theorem Plan.congr {a c:Nat} {b:Int} {g g':Nat→Nat→Int} (P:T.Plan D a c b g) (h:∀k t,k<T.L→t<D→g k t=g' k t):T.Plan D a c b g':=by
 refine ⟨fun k t hk ht=>?_,fun k t hk ht=>?_,fun t x ht hx=>?_,fun x hx=>?_⟩
 ·rw [←h k t hk ht];exact P.nn k t hk ht
 ·rw [←h k t hk ht];exact P.le k t hk ht
 ·rw [←outF_congr fun k hk=>h k t hk ht,←stk_congr fun k t' hk ht'=>h k t' hk (by omega)];exact P.st t x ht hx
 ·rw [←stk_congr fun k t' hk ht'=>h k t' hk ht'];exact P.en x hx
theorem cst_congr {g g':Nat→Nat→Int} (h:∀k t,k<T.L→t<D→g k t=g' k t):T.cst D g=T.cst D g':=Af fun t ht=>Af fun k hk=>by rw[h k t hk ht]
theorem house_of {i:Nat} (h1:0<T.h) (hi:i<D*T.W):∃t,t<D∧((∃x,x<T.h∧i=t*T.W+x)∨∃k,k<T.L∧i=t*T.W+(T.h+k)):=by
 have hW:0<T.W:=by unfold W;omega
 have ht:i / T.W<D:=by rw[Nat.div_lt_iff_lt_mul hW];exact hi
 have hj:=Nat.mod_lt i hW
 have e0:T.W=T.h+T.L:=rfl
 have hd:i=i / T.W*T.W+i % T.W:=by rw[Nat.mul_comm];exact (Nat.div_add_mod i T.W).symm
 refine ⟨i / T.W,ht,?_⟩
 by_cases c:i % T.W<T.h
 ·exact .inl ⟨_,c,hd⟩
 ·refine .inr ⟨i % T.W-T.h,by omega,?_⟩
  rw [show T.h+(i % T.W-T.h)=i % T.W by omega];exact hd
theorem xU {v:Nat} (h1:0<T.h) (hv:v<(D+1)*T.h):∃t x,t≤D∧x<T.h∧v=t*T.h+x:=by
 have ht:v / T.h<D+1:=by rw[Nat.div_lt_iff_lt_mul h1];exact hv
 exact ⟨v / T.h,v % T.h,by omega,Nat.mod_lt _ h1,by rw[Nat.mul_comm];exact (Nat.div_add_mod v T.h).symm⟩
theorem pair_lt {t:Nat} (ht:t<D) {j:Nat} (hj:j<T.W):t*T.W+j<D*T.W:=by
 have : (t+1)*T.W≤D*T.W:=Nat.mul_le_mul_right _ (by omega)
 rw [Nat.succ_mul]at this
 omega
theorem node_lt {t x:Nat} (ht:t≤D) (hx:x<T.h):t*T.h+x<(D+1)*T.h:=by
 have : (t+1)*T.h≤(D+1)*T.h:=Nat.mul_le_mul_right _ (by omega)
 rw [Nat.succ_mul]at this
 omega
theorem src_eq {a x t:Nat} (ha:a<T.h) (hx:x<T.h):a=t*T.h+x↔t=0∧a=x:=by
 have := De (t:=t) (t':=0) hx ha
 rw [Nat.zero_mul,Nat.zero_add]at this
 rw [this]
 constructor <;> (rintro⟨rfl,rfl⟩;exact⟨rfl,rfl⟩)
theorem flow_plan (ok:T.OK D) {a c:Nat} (ha:a<T.h) (hc:c<T.h) {f:Nat→Int} {b:Int} (hf:(T.G D a c).Flow f b):T.Plan D a c b (T.gf f)∧(T.G D a c).cost f=T.cst D (T.gf f):=by
 have hW:∀x,x<T.h→x<T.W:=fun x hx=>by unfold W;omega
 have hWk:∀k,k<T.L→T.h+k<T.W:=fun k hk=>by unfold W;omega
 have val:∀t x,t≤D→x<T.h→(if t<D then T.wf f x t+T.outF (T.gf f) x t else 0)-(if 0<t∧t-1<D then T.wf f x (t-1)+T.inF (T.gf f) x (t-1)else 0)=(if t=0∧a=x then b else 0)-(if D=t∧c=x then b else 0):=fun t x ht hx=>by
  rw [←Wo ok hx,hf.val _ (node_lt ht hx)]
  show (if a=t*T.h+x then b else 0)-(if D*T.h+c=t*T.h+x then b else 0)=_
  have n2:=De (t:=t) (t':=D) hx hc
  simp only[src_eq ha hx,n2]
 have key:∀t x,t<D→x<T.h→T.wf f x t+T.outF (T.gf f) x t=T.stk a b (T.gf f) t x:=by
  intro t x ht hx
  induction t with
  | zero =>
   have := val 0 x (by omega) hx
   rw [if_pos ht,if_neg (fun g=>absurd g.1 (by omega)),if_neg (show ¬(D=0∧c=x) from fun g=>by omega)]at this
   simp only[true_and]at this
   rw [stk];omega
  | succ t ih =>
   have ih:=ih (by omega)
   have := val (t+1) x (by omega) hx
   rw [if_pos ht,if_pos ⟨by omega,by omega⟩,if_neg (fun g=>by omega),if_neg (fun g=>by omega),Nat.add_sub_cancel]at this
   rw [stk];omega
 refine ⟨⟨fun k t hk ht=>hf.nn _ (pair_lt ht (hWk k hk)),fun k t hk ht=>?_,fun t x ht hx=>?_,fun x hx=>?_⟩,Xx⟩
 ·have := hf.le _ (pair_lt ht (hWk k hk))
  have e:(T.G D a c).cap (t*T.W+(T.h+k))=T.lf k t:=by show (T.p _).2.2.1=_;rw[p_link hk]
  rw [e]at this
  exact this
 ·have h1:=key t x ht hx
  have h2:0≤T.wf f x t:=hf.nn _ (pair_lt ht (hW x hx))
  omega
 ·cases D with
  | zero =>
   have := val 0 x (by omega) hx
   rw [if_neg (by omega),if_neg (fun g=>by omega)]at this
   simp only[true_and]at this
   rw [stk];omega
  | succ D =>
   have h1:=key D x (by omega) hx
   have := val (D+1) x (by omega) hx
   rw [if_neg (by omega),if_pos ⟨by omega,by omega⟩,if_neg (fun g=>by omega),Nat.add_sub_cancel]at this
   simp only[true_and]at this
   rw [stk];omega
theorem xV (ok:T.OK D) {g:Nat→Nat→Int} {t:Nat}:Aj (fun x=>T.outF g x t) T.h=Aj (fun k=>g k t) T.L:=by
 unfold outF
 rw [DE]
 refine Af fun k hk=>?_
 rw [B7,if_pos (ok.e k hk).1]
theorem Ady (ok:T.OK D) {g:Nat→Nat→Int} {t:Nat}:Aj (fun x=>T.inF g x t) T.h=Aj (fun k=>g k t) T.L:=by
 unfold inF
 rw [DE]
 refine Af fun k hk=>?_
 rw [B7,if_pos (ok.e k hk).2]
theorem Xy (ok:T.OK D) {a:Nat} (ha:a<T.h) {b:Int} {g:Nat→Nat→Int}:∀t,Aj (fun x=>T.stk a b g t x) T.h=b
 | 0=>by
  show Aj (fun x=>if a=x then b else 0) T.h=b
  rw [B7,if_pos ha]
 | t+1=>by
  show Aj (fun x=>T.stk a b g t x-T.outF g x t+T.inF g x t) T.h=b
  rw [BK,B0,Xy ok ha,xV ok,Ady ok];omega
theorem QD {g:Nat→Nat→Int} {x t:Nat} (h:∀k,k<T.L→0≤g k t):0≤T.outF g x t:=Bp fun k hk=>by
 split
 ·exact h k hk
 ·exact Int.le_refl _
theorem Plan.stk_nn {a c:Nat} {b:Int} {g:Nat→Nat→Int} (P:T.Plan D a c b g) {t x:Nat} (ht:t<D) (hx:x<T.h):0≤T.stk a b g t x:=by
 have := P.st t x ht hx
 have := QD (T:=T) (x:=x) fun k hk=>P.nn k t hk ht
 omega
theorem Plan.stk_le {a c:Nat} (ok:T.OK D) (ha:a<T.h) {b:Int} {g:Nat→Nat→Int} (P:T.Plan D a c b g) {t x:Nat} (ht:t<D) (hx:x<T.h):T.stk a b g t x≤b:=by
 have := Fw (f:=fun x=>T.stk a b g t x) (fun i hi=>P.stk_nn ht hi) hx
 rw [Xy ok ha]at this
 exact this
def fOf (T:TN) (a:Nat) (b:Int) (g:Nat→Nat→Int) (i:Nat):Int:=if i % T.W<T.h then T.stk a b g (i / T.W) (i % T.W)-T.outF g (i % T.W) (i / T.W)else g (i % T.W-T.h) (i / T.W)
theorem mS {a:Nat} {b:Int} {g:Nat→Nat→Int} {x t:Nat} (hx:x<T.h):T.wf (T.fOf a b g) x t=T.stk a b g t x-T.outF g x t:=by
 have hW:x<T.W:=by unfold W;omega
 unfold wf fOf
 rw [(row hW).1,(row hW).2,if_pos hx]
theorem Tw {a:Nat} {b:Int} {g:Nat→Nat→Int} {k t:Nat} (hk:k<T.L):T.gf (T.fOf a b g) k t=g k t:=by
 have hW:T.h+k<T.W:=by unfold W;omega
 unfold gf fOf
 rw [(row hW).1,(row hW).2,if_neg (by omega),show T.h+k-T.h=k by omega]
theorem plan_flow (ok:T.OK D) {a c:Nat} (ha:a<T.h) (hc:c<T.h) {g:Nat→Nat→Int} {b:Int} (hb:b≤1099511627776) (P:T.Plan D a c b g):(T.G D a c).Flow (T.fOf a b g) b∧(T.G D a c).cost (T.fOf a b g)=T.cst D g:=by
 have hw:∀t x,t<D→x<T.h→0≤T.wf (T.fOf a b g) x t∧T.wf (T.fOf a b g) x t≤b:=fun t x ht hx=>by
  rw [mS hx]
  have h1:=P.st t x ht hx
  have h2:=P.stk_le ok ha ht hx
  have h3:=QD (T:=T) (x:=x) fun k hk=>P.nn k t hk ht
  omega
 refine ⟨⟨fun i hi=>?_,fun i hi=>?_,fun v hv=>?_⟩,by rw[Xx];exact cst_congr fun k t hk ht=>Tw hk⟩
 ·obtain ⟨t,ht,⟨x,hx,rfl⟩ | ⟨k,hk,rfl⟩⟩:=house_of ok.h1 hi
  ·exact (hw t x ht hx).1
  ·have := P.nn k t hk ht
   rw [←Tw (g:=g) (a:=a) (b:=b) hk]at this
   exact this
 ·obtain ⟨t,ht,⟨x,hx,rfl⟩ | ⟨k,hk,rfl⟩⟩:=house_of ok.h1 hi
  ·show T.wf (T.fOf a b g) x t≤(T.p _).2.2.1
   rw [p_house hx]
   have :=(hw t x ht hx).2
   dsimp only;omega
  ·show T.gf (T.fOf a b g) k t≤(T.p _).2.2.1
   rw [p_link hk,Tw hk]
   exact P.le k t hk ht
 ·obtain ⟨t,x,ht,hx,rfl⟩:=xU ok.h1 hv
  rw [Wo ok hx]
  show _=(if a=t*T.h+x then b else 0)-(if D*T.h+c=t*T.h+x then b else 0)
  have n2:=De (t:=t) (t':=D) hx hc
  simp only[src_eq ha hx,n2]
  have eo:∀t,T.outF (T.gf (T.fOf a b g)) x t=T.outF g x t:=fun t=>outF_congr fun k hk=>Tw hk
  have ei:∀t,T.inF (T.gf (T.fOf a b g)) x t=T.inF g x t:=fun t=>OM fun k hk=>Tw hk
  rw [eo,ei,mS hx,mS hx]
  have hen:=P.en x hx
  cases t with
  | zero =>
   rw [if_neg (show ¬(0<0∧0-1<D) from fun g=>by omega)]
   by_cases c0:0<D
   ·rw [if_pos c0,if_neg (show ¬(D=0∧c=x) from fun g=>by omega),stk];simp only[true_and];omega
   ·have : D=0:=by omega
    subst this
    rw [if_neg c0]
    rw [stk]at hen
    simp only[true_and];omega
  | succ t =>
   rw [if_neg (show ¬(t+1=0∧a=x) from fun g=>by omega),Nat.add_sub_cancel,if_pos (show 0<t+1∧t<D from ⟨by omega,by omega⟩)]
   by_cases c0:t+1<D
   ·rw [if_pos c0,if_neg (show ¬(D=t+1∧c=x) from fun g=>by omega),stk];omega
   ·have : D=t+1:=by omega
    subst this
    rw [if_neg c0]
    rw [stk]at hen
    simp only[true_and];omega
theorem Plan.more {T':TN} {D' a c:Nat} {b:Int} {g:Nat→Nat→Int} (hh:T'.h=T.h) (hL:T'.L=T.L) (hf:T'.fr=T.fr) (ht:T'.to=T.to) (hl:∀k t,k<T.L→t<D→T.lf k t≤T'.lf k t) (hl0:∀k t,k<T.L→t<D'→0≤T'.lf k t) (hD:D≤D') (hb:0≤b) (P:T.Plan D a c b g) :
  T'.Plan D' a c b (fun k t=>if t<D then g k t else 0):=by
 have eo:∀(g:Nat→Nat→Int) x t,T'.outF g x t=T.outF g x t:=fun g x t=>by unfold outF;rw[hL,hf]
 have ei:∀(g:Nat→Nat→Int) x t,T'.inF g x t=T.inF g x t:=fun g x t=>by unfold inF;rw[hL,ht]
 have es:∀(g:Nat→Nat→Int) t x,T'.stk a b g t x=T.stk a b g t x:=fun g t x=>by
  induction t with
  | zero=>rfl
  | succ t ih=>rw[stk,stk,ih,eo,ei]
 have o0:∀x t,¬t<D→T.outF (fun k t=>if t<D then g k t else 0) x t=0:=fun x t ht=>A3 fun k _=>by dsimp only;rw[if_neg ht];split <;> rfl
 have i0:∀x t,¬t<D→T.inF (fun k t=>if t<D then g k t else 0) x t=0:=fun x t ht=>A3 fun k _=>by dsimp only;rw[if_neg ht];split <;> rfl
 have s0:∀x t,t≤D→T.stk a b (fun k t=>if t<D then g k t else 0) t x=T.stk a b g t x:=fun x t ht=>stk_congr fun k t' _ ht'=>by rw[if_pos (by omega)]
 have s1:∀x j,x<T.h→T.stk a b (fun k t=>if t<D then g k t else 0) (D+j) x=if c=x then b else 0:=fun x j hx=>by
  induction j with
  | zero=>rw[Nat.add_zero,s0 x D (Nat.le_refl _)];exact P.en x hx
  | succ j ih=>rw[←Nat.add_assoc,stk,ih,o0 x _ (by omega),i0 x _ (by omega)];omega
 refine ⟨fun k t hk _=>?_,fun k t hk ht'=>?_,fun t x ht' hx=>?_,fun x hx=>?_⟩
 ·split
  ·rename_i c0;exact P.nn k t (by rw[←hL];exact hk) c0
  ·exact Int.le_refl _
 ·rw [hL]at hk
  split
  ·rename_i c0
   have := P.le k t hk c0
   have := hl k t hk c0
   omega
  ·exact hl0 k t hk ht'
 ·rw [hh]at hx
  rw [eo,es]
  by_cases c0:t<D
  ·rw [outF_congr (g':=g) fun k _=>by rw[if_pos c0],s0 x t (by omega)];exact P.st t x c0 hx
  ·rw [o0 x t c0,show t=D+(t-D) by omega,s1 x _ hx]
   split <;> omega
 ·rw [hh]at hx
  rw [es,show D'=D+(D'-D) by omega,s1 x _ hx]
theorem Plan.add {T2 T':TN} {a c:Nat} {b b2:Int} {g g2:Nat→Nat→Int} (h2:T2.h=T.h) (L2:T2.L=T.L) (f2:T2.fr=T.fr) (t2:T2.to=T.to) (h':T'.h=T.h) (L':T'.L=T.L) (f':T'.fr=T.fr) (t':T'.to=T.to)
  (hl : ∀k t,k<T.L→t<D→g k t+g2 k t≤T'.lf k t) (P:T.Plan D a c b g) (P2:T2.Plan D a c b2 g2):T'.Plan D a c (b+b2) (fun k t=>g k t+g2 k t):=by
 have eo2:∀x t,T2.outF g2 x t=T.outF g2 x t:=fun x t=>by unfold outF;rw[L2,f2]
 have ei2:∀x t,T2.inF g2 x t=T.inF g2 x t:=fun x t=>by unfold inF;rw[L2,t2]
 have es2:∀t x,T2.stk a b2 g2 t x=T.stk a b2 g2 t x:=fun t x=>by
  induction t with
  | zero=>rfl
  | succ t ih=>rw[stk,stk,ih,eo2,ei2]
 have eo:∀x t,T'.outF (fun k t=>g k t+g2 k t) x t=T.outF g x t+T.outF g2 x t:=fun x t=>by
  unfold outF
  rw [L',f',←BK]
  exact Af fun k _=>by split <;> rfl
 have ei:∀x t,T'.inF (fun k t=>g k t+g2 k t) x t=T.inF g x t+T.inF g2 x t:=fun x t=>by
  unfold inF
  rw [L',t',←BK]
  exact Af fun k _=>by split <;> rfl
 have es:∀t x,T'.stk a (b+b2) (fun k t=>g k t+g2 k t) t x=T.stk a b g t x+T.stk a b2 g2 t x:=fun t x=>by
  induction t with
  | zero=>rw[stk,stk,stk];split <;> rfl
  | succ t ih=>rw[stk,stk,stk,ih,eo,ei];omega
 refine ⟨fun k t hk ht=>?_,fun k t hk ht=>hl k t (by rw[←L'];exact hk) ht,fun t x ht hx=>?_,fun x hx=>?_⟩
 ·rw [L']at hk
  have := P.nn k t hk ht
  have := P2.nn k t (by rw[L2];exact hk) ht
  omega
 ·rw [h']at hx
  have h3:=P.st t x ht hx
  have h4:=P2.st t x ht (by rw[h2];exact hx)
  rw [eo2,es2]at h4
  rw [eo,es];omega
 ·rw [h']at hx
  have h3:=P.en x hx
  have h4:=P2.en x (by rw[h2];exact hx)
  rw [es2]at h4
  rw [es,h3,h4]
  split <;> rfl
end TN
end Sim
