/- Lemmas. -/
import Derived.Test.YtdfjimjbdakofaaGreatQF9
import Derived.Test.YtdfjimjbdakofaaGreatQH
set_option maxRecDepth 10000
set_option maxHeartbeats 4000000
set_option linter.all false
open Bool renaming false_or->tc,false_and->tq,or_eq_true->kx
open Classical renaming propDecidable->qo
open Go.IntKind renaming i64->nm
open Go.Proofs.Tryz renaming prog->pk,f93->s9,f76->ta,f47->td,f29->tg,f82->ti,f54->tp,f56->tr,f64->tw,f30->t8
open Int renaming le_refl->pj,toNat_of_nonneg->te,add_zero->th
open List renaming ext_getElem->ru,length_set->ra,getD_eq_getElem?_getD->oa,getElem?_set_ne->gc,take->sy,take_of_length_le->sa,length_map->ow,getElem?_set_self->gb,length_append->cu,cons.injEq->ix,getElem?_eq_getElem->gl
open Nat renaming add_assoc->bq,succ_mul->sh,mul_comm->eq,mul_add_div->si,div_eq_of_lt->sj,div_lt_iff_lt_mul->sq,mod_lt->ss,mul_le_mul_right->ff,div_add_mod->er,add_sub_cancel->sx,le_refl->cg,mul_one->s4,reduceBEq->r8,reduceLT->tu,reduceAdd->tv,reduceEqDiff->tx
open Option renaming some.injEq->bp
open Prod renaming ext_iff->tn
open Sim.IObj renaming arr.injEq->q8
open Sim.PV renaming agg.injEq->qr,int.injEq->qt,lits.injEq->s6,vptr.injEq->s7,small->s8
open Sim.Store renaming set->kd,new->kp
noncomputable section
namespace Sim
theorem EU {f:Nat->Int} {a:Nat}:∀ {b},As f (a+b)=As f a+As (λi=>f (a+i)) b
 | 0=>by simp[As]
 | b+1=>by rw[<-bq,As,EU,As];omega
theorem Hc {f:Nat->Int} {W:Nat}:∀ {D},As f (D*W)=As (λt=>As (λj=>f (t*W+j)) W) D
 | 0=>by rw[Nat.zero_mul];rfl
 | D+1=>by rw[sh,EU,Hc,As]
theorem Ew {g:Nat->Int} {a:Nat}:∀ {n},As (λi=>if i=a then g i else 0) n=if a<n then g a else 0
 | 0=>by simp[As]
 | n+1=>by
  rw [As,Ew]
  by_cases c:n=a
  .subst c;rw[if_neg (by omega),if_pos rfl,if_pos (by omega)];omega
  .rw [if_neg c]
   by_cases c2:a<n
   .rw [if_pos c2,if_pos (by omega)];omega
   .rw [if_neg c2,if_neg (by omega)];rfl
theorem EM {f:Nat->Int} {k:Nat}:∀ {n},(∀i,i<n->0<=f i)->k<n->f k<=As f n
 | 0,_,h=>absurd h (by omega)
 | n+1,h,hk=>by
  have h0:=BD (f:=f) (n:=n) λi hi=>h i (by omega)
  rw [As]
  by_cases c:k=n
  .subst c;omega
  .have := EM (f:=f) (n:=n) (λi hi=>h i (by omega)) (show k<n by omega)
   have := h n (by omega)
   omega
theorem GC {h t x t' x':Nat} (hx:x<h) (hx':x'<h):t'*h+x'=t*h+x↔t'=t/\x'=x:=by
 constructor
 .intro e
  have h1:(t'*h+x') / h=t':=by rw[eq,si (by omega),sj hx'];omega
  have h2:(t*h+x) / h=t:=by rw[eq,si (by omega),sj hx];omega
  rw [e,h2]at h1
  subst h1
  exact ⟨rfl,by omega⟩
 .rintro ⟨rfl,rfl⟩;rfl
structure TN where
 h : Nat
 L : Nat
 fr : Nat->Nat
 to : Nat->Nat
 lf : Nat->Nat->Int
 pr : Nat->Nat->Int
namespace TN
variable {T:TN} {D:Nat}
def W (T:TN):Nat:=T.h+T.L
def p (T:TN) (i:Nat):Arc :=
 if i % T.W<T.h then (i / T.W*T.h+i % T.W,(i / T.W+1)*T.h+i % T.W,1099511627776,0)
 else (i / T.W*T.h+T.fr (i % T.W-T.h),(i / T.W+1)*T.h+T.to (i % T.W-T.h),T.lf (i % T.W-T.h) (i / T.W),T.pr (i % T.W-T.h) (i / T.W))
structure OK (T:TN) (D:Nat):Prop where
 h1 : 0<T.h
 e : ∀k,k<T.L->T.fr k<T.h/\T.to k<T.h
 lf : ∀k t,k<T.L->t<D->0<=T.lf k t
 pr : ∀k t,k<T.L->t<D->0<=T.pr k t/\T.pr k t<=1000000
theorem row {t j:Nat} (hj:j<T.W):(t*T.W+j) / T.W=t/\(t*T.W+j) % T.W=j:=by
 refine ⟨?_,?_⟩
 .rw [eq,si (by omega),sj hj];omega
 .rw [eq,Nat.mul_add_mod,Nat.mod_eq_of_lt hj]
theorem p_house {t x:Nat} (hx:x<T.h):T.p (t*T.W+x)=(t*T.h+x,(t+1)*T.h+x,1099511627776,0):=by
 have hW:x<T.W:=by unfold W;omega
 unfold p
 rw [(row hW).1,(row hW).2,if_pos hx]
theorem p_link {t k:Nat} (hk:k<T.L):T.p (t*T.W+(T.h+k))=(t*T.h+T.fr k,(t+1)*T.h+T.to k,T.lf k t,T.pr k t):=by
 have hW:T.h+k<T.W:=by unfold W;omega
 unfold p
 rw [(row hW).1,(row hW).2,if_neg (by omega),show T.h+k-T.h=k by omega]
theorem p_ok (ok:T.OK D):S8 T.p ((D+1)*T.h) (D*T.W):=λi hi=>by
 have h1:=ok.h1
 have hW:0<T.W:=by unfold W;omega
 have ht:i / T.W<D:=by rw[sq hW];exact hi
 have hj:=ss i hW
 have b1:(i / T.W+1)*T.h<=D*T.h:=ff _ (by omega)
 have b2:(D+1)*T.h=D*T.h+T.h:=sh _ _
 have b3:(i / T.W+1)*T.h=i / T.W*T.h+T.h:=sh _ _
 unfold p
 by_cases c:i % T.W<T.h
 .rw [if_pos c]
  dsimp only
  exact ⟨by omega,by omega,by omega,by omega,by omega,by omega⟩
 .rw [if_neg c]
  have e0:T.W=T.h+T.L:=rfl
  have hk:i % T.W-T.h<T.L:=by omega
  obtain ⟨e1,e2⟩:=ok.e _ hk
  have e3:=ok.lf _ _ hk ht
  have e4:=ok.pr _ _ hk ht
  dsimp only
  exact ⟨by omega,by omega,by omega,e3,e4.1,e4.2⟩
def G (T:TN) (D a c:Nat):FN:=fnP T.p ((D+1)*T.h) (D*T.W) a (D*T.h+c)
def outF (T:TN) (g:Nat->Nat->Int) (x t:Nat):Int:=As (λk=>if T.fr k=x then g k t else 0) T.L
def inF (T:TN) (g:Nat->Nat->Int) (x t:Nat):Int:=As (λk=>if T.to k=x then g k t else 0) T.L
def stk (T:TN) (a:Nat) (b:Int) (g:Nat->Nat->Int):Nat->Nat->Int
 | 0,x=>if a=x then b else 0
 | t+1,x=>stk T a b g t x-T.outF g x t+T.inF g x t
def wf (T:TN) (f:Nat->Int) (x t:Nat):Int:=f (t*T.W+x)
def gf (T:TN) (f:Nat->Int) (k t:Nat):Int:=f (t*T.W+(T.h+k))
theorem YA (ok:T.OK D) {a c:Nat} {f:Nat->Int} {t x:Nat} (hx:x<T.h):(T.G D a c).net f (t*T.h+x)=(if t<D then T.wf f x t+T.outF (T.gf f) x t else 0)-(if 0<t/\t-1<D then T.wf f x (t-1)+T.inF (T.gf f) x (t-1)else 0):=by
 have key:∀t',As (λj=>(if (T.p (t'*T.W+j)).1=t*T.h+x then f (t'*T.W+j)else 0)-(if (T.p (t'*T.W+j)).2.1=t*T.h+x then f (t'*T.W+j)else 0)) T.W
   = (if t'=t then T.wf f x t'+T.outF (T.gf f) x t' else 0)-(if t'+1=t then T.wf f x t'+T.inF (T.gf f) x t' else 0):=λt'=>by
  have e0:T.W=T.h+T.L:=rfl
  have e1:As (λj=>(if (T.p (t'*T.W+j)).1=t*T.h+x then f (t'*T.W+j)else 0)-(if (T.p (t'*T.W+j)).2.1=t*T.h+x then f (t'*T.W+j)else 0)) T.h=(if t'=t then T.wf f x t' else 0)-(if t'+1=t then T.wf f x t' else 0):=by
   rw [Am (g:=λj=>(if j=x then (if t'=t then T.wf f j t' else 0)else 0)-(if j=x then (if t'+1=t then T.wf f j t' else 0)else 0)) (λj hj=>by
    rw [p_house hj]
    dsimp only
    have n1:=GC (t:=t) (t':=t') hx hj
    have n2:=GC (t:=t) (t':=t'+1) hx hj
    by_cases c1:j=x
    .subst c1
     simp only[n1,n2,and_true,if_true];rfl
    .simp only[n1,n2,c1,and_false,if_false]),Co,Ew,Ew,if_pos hx,if_pos hx]
  have e2:As (λk=>(if (T.p (t'*T.W+(T.h+k))).1=t*T.h+x then f (t'*T.W+(T.h+k))else 0)-(if (T.p (t'*T.W+(T.h+k))).2.1=t*T.h+x then f (t'*T.W+(T.h+k))else 0)) T.L=(if t'=t then T.outF (T.gf f) x t' else 0)-(if t'+1=t then T.inF (T.gf f) x t' else 0):=by
   rw [Am (g:=λk=>(if t'=t then (if T.fr k=x then T.gf f k t' else 0)else 0)-(if t'+1=t then (if T.to k=x then T.gf f k t' else 0)else 0)) (λk hk=>by
    rw [p_link hk]
    dsimp only
    obtain ⟨q1,q2⟩:=ok.e k hk
    have n1:=GC (t:=t) (t':=t') hx q1
    have n2:=GC (t:=t) (t':=t'+1) hx q2
    simp only[n1,n2]
    unfold gf
    by_cases c1:t'=t <;> by_cases c2:t'+1=t <;> simp[c1,c2]),Co]
   unfold outF inF
   congr 1
   .by_cases c1:t'=t
    .simp only[if_pos c1]
    .simp only[if_neg c1];exact Bu λ_ _=>rfl
   .by_cases c1:t'+1=t
    .simp only[if_pos c1]
    .simp only[if_neg c1];exact Bu λ_ _=>rfl
  rw [e0,EU,<-e0,e1,e2]
  by_cases c1:t'=t <;> by_cases c2:t'+1=t <;> simp[c1,c2] <;> omega
 have : (T.G D a c).net f (t*T.h+x)=As (λt'=>(if t'=t then T.wf f x t'+T.outF (T.gf f) x t' else 0)-(if t'+1=t then T.wf f x t'+T.inF (T.gf f) x t' else 0)) D:=by
  show As _ (D*T.W)=_
  rw [Hc]
  exact Am λt' _=>key t'
 rw [this,Co,Ew (g:=λt'=>T.wf f x t'+T.outF (T.gf f) x t')]
 congr 1
 by_cases c:0<t
 .rw [Am (g:=λt'=>if t'=t-1 then T.wf f x t'+T.inF (T.gf f) x t' else 0) (λt' _=>by
   by_cases c1:t'+1=t
   .rw [if_pos c1,if_pos (by omega)]
   .rw [if_neg c1,if_neg (by omega)]),Ew (g:=λt'=>T.wf f x t'+T.inF (T.gf f) x t')]
  simp [c]
 .rw [Bu (λt' _=>by rw[if_neg (by omega)]),if_neg (λg=>c g.1)]
theorem ZJ {a c:Nat} {f:Nat->Int}:(T.G D a c).cost f=As (λt=>As (λk=>T.pr k t*T.gf f k t) T.L) D:=by
 show As (λi=>(T.p i).2.2.2*f i) (D*T.W)=_
 rw [Hc]
 refine Am λt _=>?_
 have e0:T.W=T.h+T.L:=rfl
 conv => lhs;rw[e0,EU,<-e0]
 rw [Bu (λx hx=>by rw[p_house hx];exact Int.zero_mul _),Int.zero_add]
 exact Am λk hk=>by rw[p_link hk];rfl
structure Plan (T:TN) (D a c:Nat) (b:Int) (g:Nat->Nat->Int):Prop where
 nn : ∀k t,k<T.L->t<D->0<=g k t
 le : ∀k t,k<T.L->t<D->g k t<=T.lf k t
 st : ∀t x,t<D->x<T.h->T.outF g x t<=T.stk a b g t x
 en : ∀x,x<T.h->T.stk a b g D x=if c=x then b else 0
def cst (T:TN) (D:Nat) (g:Nat->Nat->Int):Int:=As (λt=>As (λk=>T.pr k t*g k t) T.L) D
section
variable {g g':Nat->Nat->Int} {x t:Nat}
theorem outF_congr (h:∀k,k<T.L->g k t=g' k t):T.outF g x t=T.outF g' x t:=Am λk hk=>by rw[h k hk]
theorem Rm (h:∀k,k<T.L->g k t=g' k t):T.inF g x t=T.inF g' x t:=Am λk hk=>by rw[h k hk]
end
theorem stk_congr {g g':Nat->Nat->Int} {a:Nat} {b:Int} {x:Nat}:∀ {t},(∀k t',k<T.L->t'<t->g k t'=g' k t')->T.stk a b g t x=T.stk a b g' t x
 | 0,_=>rfl
 | t+1,h=>by
  rw [stk,stk,stk_congr λk t' hk ht=>h k t' hk (by omega),outF_congr λk hk=>h k t hk (by omega),Rm λk hk=>h k t hk (by omega)]
theorem Plan.congr {a c:Nat} {b:Int} {g g':Nat->Nat->Int} (P:T.Plan D a c b g) (h:∀k t,k<T.L->t<D->g k t=g' k t):T.Plan D a c b g':=by
 refine ⟨λk t hk ht=>?_,λk t hk ht=>?_,λt x ht hx=>?_,λx hx=>?_⟩
 .rw [<-h k t hk ht];exact P.nn k t hk ht
 .rw [<-h k t hk ht];exact P.le k t hk ht
 .rw [<-outF_congr λk hk=>h k t hk ht,<-stk_congr λk t' hk ht'=>h k t' hk (by omega)];exact P.st t x ht hx
 .rw [<-stk_congr λk t' hk ht'=>h k t' hk ht'];exact P.en x hx
theorem cst_congr {g g':Nat->Nat->Int} (h:∀k t,k<T.L->t<D->g k t=g' k t):T.cst D g=T.cst D g':=Am λt ht=>Am λk hk=>by rw[h k t hk ht]
theorem house_of {i:Nat} (h1:0<T.h) (hi:i<D*T.W):∃t,t<D/\((∃x,x<T.h/\i=t*T.W+x)\/∃k,k<T.L/\i=t*T.W+(T.h+k)):=by
 have hW:0<T.W:=by unfold W;omega
 have ht:i / T.W<D:=by rw[sq hW];exact hi
 have hj:=ss i hW
 have e0:T.W=T.h+T.L:=rfl
 have hd:i=i / T.W*T.W+i % T.W:=by rw[eq];exact (er i T.W).symm
 refine ⟨i / T.W,ht,?_⟩
 by_cases c:i % T.W<T.h
 .exact .inl ⟨_,c,hd⟩
 .refine .inr ⟨i % T.W-T.h,by omega,?_⟩
  rw [show T.h+(i % T.W-T.h)=i % T.W by omega];exact hd
theorem Acw {v:Nat} (h1:0<T.h) (hv:v<(D+1)*T.h):∃t x,t<=D/\x<T.h/\v=t*T.h+x:=by
 have ht:v / T.h<D+1:=by rw[sq h1];exact hv
 exact ⟨v / T.h,v % T.h,by omega,ss _ h1,by rw[eq];exact (er v T.h).symm⟩
theorem pair_lt {t:Nat} (ht:t<D) {j:Nat} (hj:j<T.W):t*T.W+j<D*T.W:=by
 have : (t+1)*T.W<=D*T.W:=ff _ (by omega)
 rw [sh]at this
 omega
theorem node_lt {t x:Nat} (ht:t<=D) (hx:x<T.h):t*T.h+x<(D+1)*T.h:=by
 have : (t+1)*T.h<=(D+1)*T.h:=ff _ (by omega)
 rw [sh]at this
 omega
theorem src_eq {a x t:Nat} (ha:a<T.h) (hx:x<T.h):a=t*T.h+x↔t=0/\a=x:=by
 have := GC (t:=t) (t':=0) hx ha
 rw [Nat.zero_mul,Nat.zero_add]at this
 rw [this]
 constructor <;> (rintro⟨rfl,rfl⟩;exact⟨rfl,rfl⟩)
theorem flow_plan (ok:T.OK D) {a c:Nat} (ha:a<T.h) (hc:c<T.h) {f:Nat->Int} {b:Int} (hf:(T.G D a c).Flow f b):T.Plan D a c b (T.gf f)/\(T.G D a c).cost f=T.cst D (T.gf f):=by
 have hW:∀x,x<T.h->x<T.W:=λx hx=>by unfold W;omega
 have hWk:∀k,k<T.L->T.h+k<T.W:=λk hk=>by unfold W;omega
 have val:∀t x,t<=D->x<T.h->(if t<D then T.wf f x t+T.outF (T.gf f) x t else 0)-(if 0<t/\t-1<D then T.wf f x (t-1)+T.inF (T.gf f) x (t-1)else 0)=(if t=0/\a=x then b else 0)-(if D=t/\c=x then b else 0):=λt x ht hx=>by
  rw [<-YA ok hx,hf.val _ (node_lt ht hx)]
  show (if a=t*T.h+x then b else 0)-(if D*T.h+c=t*T.h+x then b else 0)=_
  have n2:=GC (t:=t) (t':=D) hx hc
  simp only[src_eq ha hx,n2]
 have key:∀t x,t<D->x<T.h->T.wf f x t+T.outF (T.gf f) x t=T.stk a b (T.gf f) t x:=by
  intro t x ht hx
  induction t with
  | zero =>
   have := val 0 x (by omega) hx
   rw [if_pos ht,if_neg (λg=>absurd g.1 (by omega)),if_neg (show ¬(D=0/\c=x) from λg=>by omega)]at this
   simp only[true_and]at this
   rw [stk];omega
  | succ t ih =>
   have ih:=ih (by omega)
   have := val (t+1) x (by omega) hx
   rw [if_pos ht,if_pos ⟨by omega,by omega⟩,if_neg (λg=>by omega),if_neg (λg=>by omega),sx]at this
   rw [stk];omega
 refine ⟨⟨λk t hk ht=>hf.nn _ (pair_lt ht (hWk k hk)),λk t hk ht=>?_,λt x ht hx=>?_,λx hx=>?_⟩,ZJ⟩
 .have := hf.le _ (pair_lt ht (hWk k hk))
  have e:(T.G D a c).cap (t*T.W+(T.h+k))=T.lf k t:=by show (T.p _).2.2.1=_;rw[p_link hk]
  rw [e]at this
  exact this
 .have h1:=key t x ht hx
  have h2:0<=T.wf f x t:=hf.nn _ (pair_lt ht (hW x hx))
  omega
 .cases D with
  | zero =>
   have := val 0 x (by omega) hx
   rw [if_neg (by omega),if_neg (λg=>by omega)]at this
   simp only[true_and]at this
   rw [stk];omega
  | succ D =>
   have h1:=key D x (by omega) hx
   have := val (D+1) x (by omega) hx
   rw [if_neg (by omega),if_pos ⟨by omega,by omega⟩,if_neg (λg=>by omega),sx]at this
   simp only[true_and]at this
   rw [stk];omega
theorem Acx (ok:T.OK D) {g:Nat->Nat->Int} {t:Nat}:As (λx=>T.outF g x t) T.h=As (λk=>g k t) T.L:=by
 unfold outF
 rw [DY]
 refine Am λk hk=>?_
 rw [BH,if_pos (ok.e k hk).1]
theorem Ai7 (ok:T.OK D) {g:Nat->Nat->Int} {t:Nat}:As (λx=>T.inF g x t) T.h=As (λk=>g k t) T.L:=by
 unfold inF
 rw [DY]
 refine Am λk hk=>?_
 rw [BH,if_pos (ok.e k hk).2]
theorem ZK (ok:T.OK D) {a:Nat} (ha:a<T.h) {b:Int} {g:Nat->Nat->Int}:∀t,As (λx=>T.stk a b g t x) T.h=b
 | 0=>by
  show As (λx=>if a=x then b else 0) T.h=b
  rw [BH,if_pos ha]
 | t+1=>by
  show As (λx=>T.stk a b g t x-T.outF g x t+T.inF g x t) T.h=b
  rw [B8,Co,ZK ok ha,Acx ok,Ai7 ok];omega
theorem ZL {g:Nat->Nat->Int} {x t:Nat} (h:∀k,k<T.L->0<=g k t):0<=T.outF g x t:=BD λk hk=>by
 split
 .exact h k hk
 .exact pj _
theorem Plan.stk_nn {a c:Nat} {b:Int} {g:Nat->Nat->Int} (P:T.Plan D a c b g) {t x:Nat} (ht:t<D) (hx:x<T.h):0<=T.stk a b g t x:=by
 have := P.st t x ht hx
 have := ZL (T:=T) (x:=x) λk hk=>P.nn k t hk ht
 omega
theorem Plan.stk_le {a c:Nat} (ok:T.OK D) (ha:a<T.h) {b:Int} {g:Nat->Nat->Int} (P:T.Plan D a c b g) {t x:Nat} (ht:t<D) (hx:x<T.h):T.stk a b g t x<=b:=by
 have := EM (f:=λx=>T.stk a b g t x) (λi hi=>P.stk_nn ht hi) hx
 rw [ZK ok ha]at this
 exact this
def fOf (T:TN) (a:Nat) (b:Int) (g:Nat->Nat->Int) (i:Nat):Int:=if i % T.W<T.h then T.stk a b g (i / T.W) (i % T.W)-T.outF g (i % T.W) (i / T.W)else g (i % T.W-T.h) (i / T.W)
section
variable {a:Nat} {b:Int} {g:Nat->Nat->Int}
theorem tG {x t:Nat} (hx:x<T.h):T.wf (T.fOf a b g) x t=T.stk a b g t x-T.outF g x t:=by
 have hW:x<T.W:=by unfold W;omega
 unfold wf fOf
 rw [(row hW).1,(row hW).2,if_pos hx]
theorem VH {k t:Nat} (hk:k<T.L):T.gf (T.fOf a b g) k t=g k t:=by
 have hW:T.h+k<T.W:=by unfold W;omega
 unfold gf fOf
 rw [(row hW).1,(row hW).2,if_neg (by omega),show T.h+k-T.h=k by omega]
end
theorem plan_flow (ok:T.OK D) {a c:Nat} (ha:a<T.h) (hc:c<T.h) {g:Nat->Nat->Int} {b:Int} (hb:b<=1099511627776) (P:T.Plan D a c b g):(T.G D a c).Flow (T.fOf a b g) b/\(T.G D a c).cost (T.fOf a b g)=T.cst D g:=by
 have hw:∀t x,t<D->x<T.h->0<=T.wf (T.fOf a b g) x t/\T.wf (T.fOf a b g) x t<=b:=λt x ht hx=>by
  rw [tG hx]
  have h1:=P.st t x ht hx
  have h2:=P.stk_le ok ha ht hx
  have h3:=ZL (T:=T) (x:=x) λk hk=>P.nn k t hk ht
  omega
 refine ⟨⟨λi hi=>?_,λi hi=>?_,λv hv=>?_⟩,by rw[ZJ];exact cst_congr λk t hk ht=>VH hk⟩
 .obtain ⟨t,ht,⟨x,hx,rfl⟩ | ⟨k,hk,rfl⟩⟩:=house_of ok.h1 hi
  .exact (hw t x ht hx).1
  .have := P.nn k t hk ht
   rw [<-VH (g:=g) (a:=a) (b:=b) hk]at this
   exact this
 .obtain ⟨t,ht,⟨x,hx,rfl⟩ | ⟨k,hk,rfl⟩⟩:=house_of ok.h1 hi
  .show T.wf (T.fOf a b g) x t<=(T.p _).2.2.1
   rw [p_house hx]
   have :=(hw t x ht hx).2
   dsimp only;omega
  .show T.gf (T.fOf a b g) k t<=(T.p _).2.2.1
   rw [p_link hk,VH hk]
   exact P.le k t hk ht
 .obtain ⟨t,x,ht,hx,rfl⟩:=Acw ok.h1 hv
  rw [YA ok hx]
  show _=(if a=t*T.h+x then b else 0)-(if D*T.h+c=t*T.h+x then b else 0)
  have n2:=GC (t:=t) (t':=D) hx hc
  simp only[src_eq ha hx,n2]
  have eo:∀t,T.outF (T.gf (T.fOf a b g)) x t=T.outF g x t:=λt=>outF_congr λk hk=>VH hk
  have ei:∀t,T.inF (T.gf (T.fOf a b g)) x t=T.inF g x t:=λt=>Rm λk hk=>VH hk
  rw [eo,ei,tG hx,tG hx]
  have hen:=P.en x hx
  cases t with
  | zero =>
   rw [if_neg (show ¬(0<0/\0-1<D) from λg=>by omega)]
   by_cases c0:0<D
   .rw [if_pos c0,if_neg (show ¬(D=0/\c=x) from λg=>by omega),stk];simp only[true_and];omega
   .have : D=0:=by omega
    subst this
    rw [if_neg c0]
    rw [stk]at hen
    simp only[true_and];omega
  | succ t =>
   rw [if_neg (show ¬(t+1=0/\a=x) from λg=>by omega),sx,if_pos (show 0<t+1/\t<D from ⟨by omega,by omega⟩)]
   by_cases c0:t+1<D
   .rw [if_pos c0,if_neg (show ¬(D=t+1/\c=x) from λg=>by omega),stk];omega
   .have : D=t+1:=by omega
    subst this
    rw [if_neg c0]
    rw [stk]at hen
    simp only[true_and];omega
theorem Plan.more {T':TN} {D' a c:Nat} {b:Int} {g:Nat->Nat->Int} (hh:T'.h=T.h) (hL:T'.L=T.L) (hf:T'.fr=T.fr) (ht:T'.to=T.to) (hl:∀k t,k<T.L->t<D->T.lf k t<=T'.lf k t) (hl0:∀k t,k<T.L->t<D'->0<=T'.lf k t) (hD:D<=D') (hb:0<=b) (P:T.Plan D a c b g) :
  T'.Plan D' a c b (λk t=>if t<D then g k t else 0):=by
 have eo:∀(g:Nat->Nat->Int) x t,T'.outF g x t=T.outF g x t:=λg x t=>by unfold outF;rw[hL,hf]
 have ei:∀(g:Nat->Nat->Int) x t,T'.inF g x t=T.inF g x t:=λg x t=>by unfold inF;rw[hL,ht]
 have es:∀(g:Nat->Nat->Int) t x,T'.stk a b g t x=T.stk a b g t x:=λg t x=>by
  induction t with
  | zero=>rfl
  | succ t ih=>rw[stk,stk,ih,eo,ei]
 have o0:∀x t,¬t<D->T.outF (λk t=>if t<D then g k t else 0) x t=0:=λx t ht=>Bu λk _=>by dsimp only;rw[if_neg ht];split <;> rfl
 have i0:∀x t,¬t<D->T.inF (λk t=>if t<D then g k t else 0) x t=0:=λx t ht=>Bu λk _=>by dsimp only;rw[if_neg ht];split <;> rfl
 have s0:∀x t,t<=D->T.stk a b (λk t=>if t<D then g k t else 0) t x=T.stk a b g t x:=λx t ht=>stk_congr λk t' _ ht'=>by rw[if_pos (by omega)]
 have s1:∀x j,x<T.h->T.stk a b (λk t=>if t<D then g k t else 0) (D+j) x=if c=x then b else 0:=λx j hx=>by
  induction j with
  | zero=>rw[Nat.add_zero,s0 x D (cg _)];exact P.en x hx
  | succ j ih=>rw[<-bq,stk,ih,o0 x _ (by omega),i0 x _ (by omega)];omega
 refine ⟨λk t hk _=>?_,λk t hk ht'=>?_,λt x ht' hx=>?_,λx hx=>?_⟩
 .split
  .rename_i c0;exact P.nn k t (by rw[<-hL];exact hk) c0
  .exact pj _
 .rw [hL]at hk
  split
  .rename_i c0
   have := P.le k t hk c0
   have := hl k t hk c0
   omega
  .exact hl0 k t hk ht'
 .rw [hh]at hx
  rw [eo,es]
  by_cases c0:t<D
  .rw [outF_congr (g':=g) λk _=>by rw[if_pos c0],s0 x t (by omega)];exact P.st t x c0 hx
  .rw [o0 x t c0,show t=D+(t-D) by omega,s1 x _ hx]
   split <;> omega
 .rw [hh]at hx
  rw [es,show D'=D+(D'-D) by omega,s1 x _ hx]
theorem Plan.add {T2 T':TN} {a c:Nat} {b b2:Int} {g g2:Nat->Nat->Int} (h2:T2.h=T.h) (L2:T2.L=T.L) (f2:T2.fr=T.fr) (t2:T2.to=T.to) (h':T'.h=T.h) (L':T'.L=T.L) (f':T'.fr=T.fr) (t':T'.to=T.to)
  (hl : ∀k t,k<T.L->t<D->g k t+g2 k t<=T'.lf k t) (P:T.Plan D a c b g) (P2:T2.Plan D a c b2 g2):T'.Plan D a c (b+b2) (λk t=>g k t+g2 k t):=by
 have eo2:∀x t,T2.outF g2 x t=T.outF g2 x t:=λx t=>by unfold outF;rw[L2,f2]
 have ei2:∀x t,T2.inF g2 x t=T.inF g2 x t:=λx t=>by unfold inF;rw[L2,t2]
 have es2:∀t x,T2.stk a b2 g2 t x=T.stk a b2 g2 t x:=λt x=>by
  induction t with
  | zero=>rfl
  | succ t ih=>rw[stk,stk,ih,eo2,ei2]
 have eo:∀x t,T'.outF (λk t=>g k t+g2 k t) x t=T.outF g x t+T.outF g2 x t:=λx t=>by
  unfold outF
  rw [L',f',<-B8]
  exact Am λk _=>by split <;> rfl
 have ei:∀x t,T'.inF (λk t=>g k t+g2 k t) x t=T.inF g x t+T.inF g2 x t:=λx t=>by
  unfold inF
  rw [L',t',<-B8]
  exact Am λk _=>by split <;> rfl
 have es:∀t x,T'.stk a (b+b2) (λk t=>g k t+g2 k t) t x=T.stk a b g t x+T.stk a b2 g2 t x:=λt x=>by
  induction t with
  | zero=>rw[stk,stk,stk];split <;> rfl
  | succ t ih=>rw[stk,stk,stk,ih,eo,ei];omega
 refine ⟨λk t hk ht=>?_,λk t hk ht=>hl k t (by rw[<-L'];exact hk) ht,λt x ht hx=>?_,λx hx=>?_⟩
 .rw [L']at hk
  have := P.nn k t hk ht
  have := P2.nn k t (by rw[L2];exact hk) ht
  omega
 .rw [h']at hx
  have h3:=P.st t x ht hx
  have h4:=P2.st t x ht (by rw[h2];exact hx)
  rw [eo2,es2]at h4
  rw [eo,es];omega
 .rw [h']at hx
  have h3:=P.en x hx
  have h4:=P2.en x (by rw[h2];exact hx)
  rw [es2]at h4
  rw [es,h3,h4]
  split <;> rfl
end TN
end Sim
namespace Sim
open Go Go.Proofs
attribute [local congr] Ah Ai Ag At Al Aj Aq
structure GA where
 B : Nat
 A : List Arc
 out : List (List Nat)
 lv : List Int
 u : Nat
 v : Nat
 x : Int
 y : Int
def Pl (x:GA) (st:Store):Prop:=GrAt x.B x.A x.out x.lv st.obj/\x.u<x.out.length/\x.v<x.out.length/\¬x.u=x.v/\x.B+5+x.out.length<=st.next/\x.A.length<=1000000/\x.A.length % 2=0/\(x.out.getD x.u []).length<=1000000/\(x.out.getD x.v []).length<=1000000 /\ -1000000<=x.y/\x.y<=1000000
def Pm (x:GA):List PV := [gP x.B,I (x.u:Nat),I (x.v:Nat),I x.x,I x.y]
def aO (ob:Nat->Option IObj) (B u v n:Nat) (A:List Arc) (out:List (List Nat)) (lv:List Int):Nat->Option IObj :=
 Ab (Ab (Ab (Ab (Ab ob (B+5+u) (some (.arr (out.getD u []).length 1 (Ch (out.getD u []))))) (B+5+v) (some (.arr (out.getD v []).length 1 (Ch (out.getD v []))))) B (some (.arr 1 1 (Ha B out)))) (B+4) (some (.arr n 4 (A.map E8)))) (B+2) (some (.arr 0 3 [.agg [.ref (B+4) n 0 A.length,.ref B 1 0 out.length,.ref (B+1) 1 0 lv.length]]))
def Rn (x:GA) (st:Store):PV×Store:=(.tuple [],⟨aO st.obj x.B x.u x.v (x.A.length / 2+1) (Gm x.A x.u x.v x.x x.y) (ET x.out x.u x.v x.A.length) x.lv,st.next⟩)
def e_add:Nat×Ent:=(87,.x (A9 Pm Pl Rn))
theorem VI {B u n:Nat} {out:List (List Nat)} (h:u<out.length):(Ha B out).set u (PV.ref (B+5+u) ((out.getD u []).length+1) 0 ((out.getD u []).length+1))=Ha B (out.set u (out.getD u [] ++ [n])):=by
 refine ru (by simp[Ha]) λi h1 h2=>?_
 rw [ra,Hb]at h1
 rw [List.getElem_set]
 by_cases c:u=i
 .subst c
  rw [if_pos rfl]
  simp [Ha,h]
 .rw [if_neg c]
  simp [Ha,c]
theorem Ro {B u:Nat} {out:List (List Nat)} (h:u<out.length):(Ha B out).all PV.isInt=false:=by
 cases hh:(Ha B out).all PV.isInt with
 | false=>rfl
 | true =>
  rw [List.all_eq_true]at hh
  have := hh _ (List.mem_of_getElem? (Dg (es:=Ha B out) (i:=u) (by rw[Hb];exact h)))
  rw [LD h]at this
  cases this
theorem Am5:AM pk e_add.1 e_add.2:=Cf λx st hx=>by
 obtain ⟨B,A,out,lv,u,v,x,y⟩:=x
 obtain ⟨ob,M⟩:=st
 unfold Pl at hx
 dsimp only at hx
 obtain ⟨h1,hu,hv,huv,h4,h8,h9,h10,h11,h12,h13⟩:=hx
 simp only[Pm,Rn]
 have G0:=h1.o0
 have G2:=h1.o2
 have G4:=h1.o4
 have Gu:=h1.o5 u hu
 have Gv:=h1.o5 v hv
 unfold J4 at G2
 obtain ⟨i2,hi2⟩:∃i,i=B+2:=⟨_,rfl⟩
 obtain ⟨i4,hi4⟩:∃i,i=B+4:=⟨_,rfl⟩
 obtain ⟨iu,hiu⟩:∃i,i=B+5+u:=⟨_,rfl⟩
 obtain ⟨iv,hiv⟩:∃i,i=B+5+v:=⟨_,rfl⟩
 have nu:=LD (B:=B) hu
 have hol:=Hb (B:=B) (out:=out)
 have su:=VI (B:=B) (n:=A.length) hu
 have sv:=VI (B:=B) (n:=A.length+1) (out:=out.set u (out.getD u [] ++ [A.length])) (u:=v) (by rw[ra];exact hv)
 have nv:=LD (B:=B) (out:=out.set u (out.getD u [] ++ [A.length])) (u:=v) (by rw[ra];exact hv)
 have ev:(out.set u (out.getD u [] ++ [A.length])).getD v []=out.getD v []:=by
  rw [oa,gc huv,oa]
 rw [ev]at sv nv
 have hol2:(Ha B (out.set u (out.getD u [] ++ [A.length]))).length=out.length:=by rw[Hb,ra]
 have hO:aO ob B u v (A.length / 2+1) (Gm A u v x y) (ET out u v A.length) lv=aO ob B u v (A.length / 2+1) (Gm A u v x y) (ET out u v A.length) lv:=rfl
 rw [<-hi2,<-hi4]at G2
 rw [<-hi4]at G4
 rw [<-hiu]at Gu nu su
 rw [<-hiv]at Gv nv sv
 unfold gP
 rw [<-hi2]
 have d1:¬B=i2:=by omega
 have d2:¬B=i4:=by omega
 have d3:¬B=iu:=by omega
 have d4:¬B=iv:=by omega
 have d5:¬i2=B:=by omega
 have d6:¬i2=i4:=by omega
 have d7:¬i2=iu:=by omega
 have d8:¬i2=iv:=by omega
 have d9:¬i4=B:=by omega
 have d10:¬i4=i2:=by omega
 have d11:¬i4=iu:=by omega
 have d12:¬i4=iv:=by omega
 have d13:¬iu=B:=by omega
 have d14:¬iu=iv:=by omega
 have d15:¬iv=B:=by omega
 have d16:¬iv=iu:=by omega
 have d17:¬iu=i2:=by omega
 have d18:¬iv=i2:=by omega
 have d19:¬iu=i4:=by omega
 have d20:¬iv=i4:=by omega
 have wn:nm.wrap ((A.length:Int)+1)=((A.length+1:Nat):Int):=Cu (by omega)
 have wy:nm.wrap (0-y) = -y:=by rw[Af (by omega) (by omega)];omega
 have k1:=Ro (B:=B) hu
 have k2:=Ro (B:=B) (out:=out.set u (out.getD u [] ++ [A.length])) (u:=v) (by rw[ra];exact hv)
 have k3:(out.getD u []).length<=2147483647:=by omega
 have k4:(out.getD v []).length<=2147483647:=by omega
 have k5:sy (out.getD u []).length (Ch (out.getD u []))=Ch (out.getD u []):=sa (by rw[G8];exact cg _)
 have k6:sy (out.getD v []).length (Ch (out.getD v []))=Ch (out.getD v []):=sa (by rw[G8];exact cg _)
 have k7:A.length<=2147483646:=by omega
 have k9:¬A.length+2<=A.length:=by omega
 have k8:sy A.length (A.map E8)=A.map E8:=sa (by rw[ow];exact cg _)
 refine BT AQ (l := []) (Au) [] [700011,700012,700013,700029,700028,700031,700032,700033,700050,700049] 0 Tryz.func87 rfl (by decide +kernel) (N:=70) rfl (by simp) rfl (by kernel_rfl) ?_
 simp only[↓bdD,bdP,seval,Ao,kd,Tryz.f87,ty3,AR,BM,MG,Em,Iz,G0,G2,G4,Gu,Gv,nu,nv,su,sv,hol,hol2,hu,hv,wn,wy,d3,d4,d5,d6,d7,d8,d9,d11,d12,d15,d16,k1,k2,k3,k4,k5,k6,k7,k8,k9,Yw,G8,s4]
 have z1:(ET out u v A.length).getD u []=out.getD u [] ++ [A.length]:=by
  unfold ET
  rw [oa,gc (λe=>huv e.symm),gb hu];rfl
 have z2:(ET out u v A.length).getD v []=out.getD v [] ++ [A.length+1]:=by
  unfold ET
  rw [oa,gb (by rw[ra];exact hv)];rfl
 have z3:(ET out u v A.length).length=out.length:=by unfold ET;rw[ra,ra]
 have z4:(Gm A u v x y).length=A.length+2:=by unfold Gm;rw[cu];rfl
 have z5:(Gm A u v x y).map E8=A.map E8 ++ [.agg [I (u:Nat),I (v:Nat),I x,I y],.agg [I (v:Nat),I (u:Nat),I 0,I (-y)]]:=by unfold Gm;rw[List.map_append];rfl
 have z0:((out.set u (out.getD u [] ++ [A.length])).set v (out.getD v [] ++ [A.length+1]))=ET out u v A.length:=rfl
 refine ⟨_,rfl,Left.same rfl (λi o hi=>?_) (cg _)⟩
 rw [<-hi]
 subst hi2 hi4 hiu hiv
 simp only[aO,Ab,z1,z2,z3,z4,z5,VG,cu,List.length_singleton,z0]
 by_cases e1:i=B+2
 .simp only[if_pos e1]
 .simp only[if_neg e1]
  by_cases e2:i=B+4
  .simp only[if_pos e2]
  .simp only[if_neg e2]
   by_cases e3:i=B
   .simp only[if_pos e3]
   .simp only[if_neg e3]
theorem GrAt.same {B:Nat} {A A':List Arc} {out out':List (List Nat)} {lv lv':List Int} {ob:Nat->Option IObj} (g:GrAt B A out lv ob) (g':GrAt B A' out' lv' ob):A=A'/\out=out'/\lv=lv':=by
 have e4:=g.o4.symm.trans g'.o4
 simp only[bp,q8,Pf,true_and]at e4
 have e5:=g.o1.symm.trans g'.o1
 simp only[bp,q8,true_and]at e5
 have e5:lv=lv':=GZ (λx y h=>by injection h) e5
 have e0:=g.o2.symm.trans g'.o2
 simp only[J4,bp,q8,ix,qr,PV.ref.injEq,true_and,and_true]at e0
 refine ⟨e4.2,ru e0.2.1 λu h1 h2=>?_,e5⟩
 have q:=(g.o5 u h1).symm.trans (g'.o5 u h2)
 simp only[bp,q8,Pk,true_and]at q
 have q:=q.2
 rwa [oa,oa,gl h1,gl h2]at q
theorem Am6 (a b:GA) (st:Store) (h:Pm a=Pm b) (hx:Pl a st) (hy:Pl b st):Rn a st=Rn b st:=by
 obtain ⟨B,A,out,lv,u,v,x,y⟩:=a
 obtain ⟨B',A',out',lv',u',v',x',y'⟩:=b
 simp only[Pm,gP,ix,and_true,PV.ptr.injEq,qt,true_and]at h
 have e1:B=B':=by omega
 have e2:u=u':=by omega
 have e3:v=v':=by omega
 obtain ⟨_,_,_,e4,e5⟩:=h
 subst e1;subst e2;subst e3;subst e4;subst e5
 obtain ⟨a1,a2,a3⟩:=GrAt.same hx.1 hy.1
 dsimp only at a1 a2 a3
 subst a1;subst a2;subst a3
 rfl
theorem Am7 {B u v:Nat} {x y:Int} (A:List Arc) (out:List (List Nat)) (lv:List Int) {st:Store} (h:Pl ⟨B,A,out,lv,u,v,x,y⟩ st):A9 Pm Pl Rn [gP B,I (u:Nat),I (v:Nat),I x,I y] st=some (.tuple [],⟨aO st.obj B u v (A.length / 2+1) (Gm A u v x y) (ET out u v A.length) lv,st.next⟩) :=
 Bc Am6 (i:=⟨B,A,out,lv,u,v,x,y⟩) h
theorem Am8 {ob:Nat->Option IObj} {B u v:Nat} {x y:Int} {A:List Arc} {out:List (List Nat)} {lv:List Int} (h:GrAt B A out lv ob) (hu:u<out.length) (hv:v<out.length) (huv:¬u=v):GrAt B (Gm A u v x y) (ET out u v A.length) lv (aO ob B u v (A.length / 2+1) (Gm A u v x y) (ET out u v A.length) lv):=by
 have z3:(ET out u v A.length).length=out.length:=by unfold ET;rw[ra,ra]
 have z4:(Gm A u v x y).length=A.length+2:=by unfold Gm;rw[cu];rfl
 have z6:(Gm A u v x y).length / 2=A.length / 2+1:=by omega
 refine ⟨?_,?_,?_,?_,λw hw=>?_⟩
 .simp only[aO,Ab];rw[if_neg (by omega),if_neg (by omega),if_pos trivial]
 .simp only[aO,Ab];rw[if_neg (by omega),if_neg (by omega),if_neg (by omega),if_neg (by omega),if_neg (by omega)];exact h.o1
 .simp only[aO,Ab,if_true,J4,z6]
 .simp only[aO,Ab];rw[if_neg (by omega),if_pos trivial,z6]
 .rw [z3]at hw
  simp only[aO,Ab]
  rw [if_neg (by omega),if_neg (by omega),if_neg (by omega)]
  by_cases c1:w=v
  .subst c1;rw[if_pos rfl]
  .rw [if_neg (by omega)]
   by_cases c2:w=u
   .subst c2;rw[if_pos rfl]
   .rw [if_neg (by omega),h.o5 w hw]
    have : (ET out u v A.length).getD w []=out.getD w []:=by
     unfold ET
     rw [oa,gc (λe=>c1 e.symm),gc (λe=>c2 e.symm),oa]
    rw [this]
def hOK (hn:Int) (h:Int):Bool:=decide (0<=h/\h<hn)
def IF (a:Lnk):Nat->Bool
 | 0=>false
 | h+1=>IF a h||decide (E9 a h<0\/1073741824<E9 a h\/Gl a h<0\/1000000<Gl a h)
def S9 (hn:Int) (a:Lnk):Int:=if hOK hn a.1=false\/hOK hn a.2.1=false\/a.1=a.2.1 then 1 else if IF a 24=true then 3 else 0
def ckT (hn:Int) (ls:List Lnk):Nat->Int
 | 0=>0
 | k+1=>if ckT hn ls k≠0 then ckT hn ls k else S9 hn (ls.getD k dL)
def FU (hn:Int) (ls:List Lnk):Int:=if hn<1\/12<hn\/60<ls.length then 2 else ckT hn ls ls.length
theorem Rp {hn:Int} {ls:List Lnk} {k:Nat} (h:ckT hn ls k≠0):∀m,ckT hn ls (k+m)=ckT hn ls k
 | 0=>rfl
 | m+1=>by
  have ih:=Rp h m
  show (if ckT hn ls (k+m)≠0 then ckT hn ls (k+m)else _)=_
  rw [ih,if_pos h]
theorem ZM {hn:Int} {ls:List Lnk} {k m:Nat} (h:ckT hn ls k≠0) (hk:k<=m):ckT hn ls m=ckT hn ls k:=by
 have := Rp h (m-k)
 rwa [show k+(m-k)=m by omega]at this
theorem Pn {a:Lnk} {k:Nat} (h:IF a k=true):∀m,IF a (k+m)=true
 | 0=>h
 | m+1=>by show (IF a (k+m)||_)=true;rw[Pn h m];rfl
theorem tH {a:Lnk} {k m:Nat} (h:IF a k=true) (hk:k<=m):IF a m=true:=by
 have := Pn h (m-k)
 rwa [show k+(m-k)=m by omega]at this
def HK:Int×List Lnk×Int->List PV:=λ(hn,ls,h) => [I h,.vptr [I hn,AS ls] 0]
def NV:Int×List Lnk×Int->PV:=λ(hn,ls,h)=>B (hOK hn h)
def e_house:Nat×Ent:=(93,.v (An HK NV AZ))
theorem Acy:∀i j,HK i=HK j->i=j:=by
 rintro ⟨_,_,_⟩ ⟨_,_,_⟩ h
 simp only[HK,ix,and_true,s6,qt,s7,true_and,AF]at h
 simp [h] <;> omega
theorem NW (hn:Int) (ls:List Lnk) (h:Int):An HK NV AZ [I h,.vptr [I hn,AS ls] 0]=some (B (hOK hn h)):=AD Acy (i:=(hn,ls,h)) trivial
def Acz:Prop:=∀(hn:Int) (ls:List Lnk) (h:Int) ,VC pk 93 (HK (hn,ls,h)) (NV (hn,ls,h))
theorem Ac0:Acz:=by
 intro hn ls h
 dsimp only[HK,NV]
 refine Bd AQ (l := []) (Au) [] []  Tryz.func93 rfl (by decide +kernel) (N:=12) rfl (by simp) rfl (by kernel_rfl) λhs=>?_
 simp only[AK,s8,ow,and_true,true_and]at hs
 generalize hr:hOK hn h=r
 by_cases h1:0<=h
 .by_cases h2:h<hn
  .simp only[hOK,h1,h2,and_self,decide_true]at hr
   subst hr
   simp only[↓bdD,bdP,seval,Ao,st0,s9,ty3,AJ,h1,h2]
  .simp only[hOK,h1,h2,and_false,decide_false]at hr
   subst hr
   simp only[↓bdD,bdP,seval,Ao,st0,s9,ty3,AJ,h1,h2]
 .simp only[hOK,h1,false_and,decide_false]at hr
  subst hr
  simp only[↓bdD,bdP,seval,Ao,st0,s9,h1]
theorem Ac1:AM pk e_house.1 e_house.2:=Ax λ⟨hn,ls,h⟩ h=>Ac0 hn ls h
def HL:Int×List Lnk->List PV:=λ(hn,ls) => [.agg [I hn,AS ls]]
def NX:Int×List Lnk->PV:=λ(hn,ls)=>I (FU hn ls)
def e_check:Nat×Ent:=(76,.v (An HL NX AZ))
theorem Ac2:∀i j,HL i=HL j->i=j:=by
 rintro ⟨_,_⟩ ⟨_,_⟩ h
 simp only[HL,ix,and_true,s6,qt,qr,true_and,AF]at h
 simp [h] <;> omega
theorem Ta (hn:Int) (ls:List Lnk):An HL NX AZ [.agg [I hn,AS ls]]=some (I (FU hn ls)):=AD Ac2 (i:=(hn,ls)) trivial
def Ac3:Prop:=∀(hn:Int) (ls:List Lnk) ,VC pk 76 (HL (hn,ls)) (NX (hn,ls))
theorem Ac4:Ac3:=by
 intro hn ls
 dsimp only[HL,NX]
 refine Bd AQ (l := [e_house]) ((Ad Ac1 Au)) [] []  Tryz.func76 rfl (by decide +kernel) (N:=79) rfl (by simp) rfl (by kernel_rfl) λhs=>?_
 simp only[AK,s8,ow,and_true,true_and]at hs
 generalize hr:FU hn ls=r
 unfold FU at hr
 by_cases h1:hn<1
 .rw [if_pos (.inl h1)]at hr
  subst hr
  simp only[↓bdD,bdP,seval,Ao,st0,e_house,ta,ty3,AJ,h1]
 by_cases h2:12<hn
 .rw [if_pos (.inr (.inl h2))]at hr
  subst hr
  simp only[↓bdD,bdP,seval,Ao,st0,e_house,ta,ty3,AJ,h1,h2]
 by_cases h3:60<ls.length
 .rw [if_pos (.inr (.inr h3))]at hr
  subst hr
  have h3i:(60:Int)<(ls.length:Int):=by omega
  simp only[↓bdD,bdP,seval,Ao,st0,e_house,ta,ty3,BP,AJ,h1,h2,h3i]
 rw [if_neg (λh=>h.elim h1 (λh=>h.elim h2 h3))]at hr
 have h3':¬(60<(ls.length:Int)):=by omega
 have hw:∀i:Nat,i<100->nm.wrap ((i:Int)+1)=((i+1:Nat):Int):=λi g=>by rw[Af (by omega) (by omega)];omega
 simp only[↓bdD,bdP,seval,st0,e_house,ta,ty3,BP,AJ,h1,h2,h3']
 refine Aw [2,5,6,25,26,27,28,29,30,31,32,33,34,35,36,37,38,39,40,41,42,43,44,45,46,47,48,49,50,51,52,53,54,55,56,57,58,59,60,61,62,63,64,65,66,67,68,69,70,71,72,73,74,75,76,77,78] ls.length (λk ρ st'=>ρ 25=I k/\ckT hn ls k=0) (.refl _) ?_ ?_
 .simp only[↓bdD,bdP,ckT]
 .rintro k ρ ⟨ob,M⟩ hk ⟨h25,hc⟩
  by_cases hlt:k<ls.length
  .have hstep:ckT hn ls (k+1)=S9 hn (ls.getD k dL):=by simp only[ckT,hc,ne_eq,not_true_eq_false,if_false]
   have hk64:k<100:=by omega
   have hw1:=hw k hk64
   by_cases hb:hOK hn (ls.getD k dL).1=false\/hOK hn (ls.getD k dL).2.1=false\/(ls.getD k dL).1=(ls.getD k dL).2.1
   .have hb1:S9 hn (ls.getD k dL)=1:=by unfold S9;rw[if_pos hb]
    rw [hb1]at hstep
    have hend:=ZM (m:=ls.length) (by rw[hstep];decide) (show k+1<=ls.length by omega)
    rw [hend,hstep]at hr
    subst hr
    cases g1:hOK hn (ls.getD k dL).1
    .simp only[↓bdD,bdP,seval,Ao,kp,kd,NW,Cg,Aa,BK,IA,C8,ty3,BP,CS,h25,hlt,g1]
    cases g2:hOK hn (ls.getD k dL).2.1
    .simp only[↓bdD,bdP,seval,Ao,kp,kd,NW,Cg,Aa,BK,IA,Pg,C8,ty3,BP,CS,h25,hlt,g1,g2]
    have g3:(ls.getD k dL).1=(ls.getD k dL).2.1:=by
     rcases hb with hb | hb | hb
     .rw [g1]at hb;cases hb
     .rw [g2]at hb;cases hb
     .exact hb
    simp only[↓bdD,bdP,seval,Ao,kp,kd,NW,Cg,Aa,BK,IA,Pg,C8,ty3,BP,CS,h25,hlt,g2,g3]
   .have g1:hOK hn (ls.getD k dL).1=true:=by cases g:hOK hn (ls.getD k dL).1;exact absurd (.inl g) hb;rfl
    have g2:hOK hn (ls.getD k dL).2.1=true:=by cases g:hOK hn (ls.getD k dL).2.1;exact absurd (.inr (.inl g)) hb;rfl
    have g3:¬(ls.getD k dL).1=(ls.getD k dL).2.1:=λg=>hb (.inr (.inr g))
    have hb3:S9 hn (ls.getD k dL)=if IF (ls.getD k dL) 24=true then 3 else 0:=by unfold S9;rw[if_neg hb]
    rw [hb3]at hstep
    generalize hx:ls.getD k dL=x at *
    simp only[↓bdD,bdP,seval,kp,kd,NW,Cg,Aa,BK,IA,Pg,C8,ty3,BP,CS,h25,hlt,g1,g2,g3,hx]
    refine Aw [2,6,48,49,50,51,52,53,54,55,56,57,58,59,60,61,62,63,64,65,66,67,68,69,70,71,72,73,74,75,76,77] 24 (λh ρ st'=>ρ 48=I h/\IF x h=false/\st'.obj M=some (.arr 0 50 [.agg (lkC x)])) (.refl _) ?_ ?_
    .simp only[↓bdD,bdP,IF]
    .rintro h ρ2 ⟨ob2,M2⟩ hh ⟨h48,hbh,hM⟩
     dsimp only at hM
     by_cases hh24:h<24
     .have hw2:=hw h (by omega)
      have hi24:(h:Int)<24:=by omega
      have hbs:IF x (h+1)=decide (E9 x h<0\/1073741824<E9 x h\/Gl x h<0\/1000000<Gl x h):=by simp only[IF,hbh,tc]
      by_cases hbad:E9 x h<0\/1073741824<E9 x h\/Gl x h<0\/1000000<Gl x h
      .have he:IF x 24=true:=tH (k:=h+1) (by rw[hbs];exact decide_eq_true hbad) (by omega)
       rw [if_pos he]at hstep
       have hend:=ZM (m:=ls.length) (by rw[hstep];decide) (show k+1<=ls.length by omega)
       rw [hend,hstep]at hr
       subst hr
       by_cases c1:E9 x h<0
       .simp only[↓bdD,bdP,seval,Ao,Fp,s4,ty3,OY,CS,h48,hM,hh24,hi24,c1]
       by_cases c2:1073741824<E9 x h
       .simp only[↓bdD,bdP,seval,Ao,Fp,s4,ty3,OY,CS,h48,hM,hh24,hi24,c1,c2]
       by_cases c3:Gl x h<0
       .simp only[↓bdD,bdP,seval,Ao,Fp,HI,s4,ty3,OY,CS,h48,hM,hh24,hi24,c1,c2,c3]
       have c4:1000000<Gl x h:=by omega
       simp only[↓bdD,bdP,seval,Ao,Fp,HI,s4,ty3,OY,CS,h48,hM,hh24,hi24,c1,c2,c3,c4]
      .rw [decide_eq_false hbad]at hbs
       have c1:¬E9 x h<0:=by omega
       have c2:¬1073741824<E9 x h:=by omega
       have c3:¬Gl x h<0:=by omega
       have c4:¬1000000<Gl x h:=by omega
       simp only[↓bdD,bdP,seval,Fp,HI,s4,ty3,OY,CS,h48,hM,hh24,hi24,c1,c2,c3,c4,hw2,hbs]
     .have e:h=24:=by omega
      subst e
      rw [hbh,if_neg (by simp)]at hstep
      simp only[↓bdD,bdP,seval,h25,h48,hstep,hw1]
      rw [AL (by decide +kernel)];simp only[↓bdD,bdP,r8]
  .have e:k=ls.length:=by omega
   subst e
   rw [hc]at hr
   subst hr
   simp only[↓bdD,bdP,seval,Ao,h25]
theorem Ac5:AM pk e_check.1 e_check.2:=Ax λ⟨hn,ls⟩ h=>Ac4 hn ls
structure OKn (hn:Int) (ls:List Lnk):Prop where
 houses : 1<=hn/\hn<=12
 len : ls.length<=60
 ends : ∀k,k<ls.length->0<=(ls.getD k dL).1/\(ls.getD k dL).1<hn/\0<=(ls.getD k dL).2.1/\(ls.getD k dL).2.1<hn/\(ls.getD k dL).1≠(ls.getD k dL).2.1
 hours : ∀k h,k<ls.length->h<24->0<=E9 (ls.getD k dL) h/\E9 (ls.getD k dL) h<=1073741824/\0<=Gl (ls.getD k dL) h/\Gl (ls.getD k dL) h<=1000000
theorem badH_false {a:Lnk}:∀ {k},IF a k=false↔∀h,h<k->0<=E9 a h/\E9 a h<=1073741824/\0<=Gl a h/\Gl a h<=1000000
 | 0=>⟨λ_ h g=>absurd g (by omega),λ_=>rfl⟩
 | k+1=>by
  have ih:=@badH_false a k
  simp only[IF,Bool.or_eq_false_iff,ih,decide_eq_false_iff_not]
  constructor
  .rintro ⟨h1,h2⟩ h hk
   by_cases e:h=k
   .subst e;omega
   .exact h1 h (by omega)
  .intro h
   have := h k (by omega)
   exact ⟨λi hi=>h i (by omega),by omega⟩
theorem VJ {hn:Int} {ls:List Lnk}:∀ {k},ckT hn ls k=0↔∀i,i<k->S9 hn (ls.getD i dL)=0
 | 0=>⟨λ_ h g=>absurd g (by omega),λ_=>rfl⟩
 | k+1=>by
  have ih:=@VJ hn ls k
  simp only[ckT]
  by_cases h:ckT hn ls k=0
  .rw [if_neg (λhn=>hn h)]
   constructor
   .intro hb i hi
    by_cases e:i=k
    .subst e;exact hb
    .exact ih.1 h i (by omega)
   .intro g;exact g k (by omega)
  .rw [if_pos h]
   exact ⟨λg=>absurd g h,λg=>absurd (ih.2 λi hi=>g i (by omega)) h⟩
theorem check_zero {hn:Int} {ls:List Lnk}:FU hn ls=0↔OKn hn ls:=by
 unfold FU
 split
 .rename_i h
  refine ⟨λh=>(by cases h),λg=>?_⟩
  have := g.houses
  have := g.len
  omega
 .rename_i h
  rw [VJ]
  constructor
  .intro g
   have key:∀k,k<ls.length->¬(hOK hn (ls.getD k dL).1=false\/hOK hn (ls.getD k dL).2.1=false\/(ls.getD k dL).1=(ls.getD k dL).2.1)/\IF (ls.getD k dL) 24=false:=by
    intro k hk
    have := g k hk
    unfold S9 at this
    split at this
    .cases this
    .rename_i h1
     refine ⟨h1,?_⟩
     cases hb:IF (ls.getD k dL) 24
     .rfl
     .rw [hb]at this;cases this
   refine ⟨by omega,by omega,λk hk=>?_,λk h hk hh=>?_⟩
   .obtain ⟨h1,_⟩:=key k hk
    simp only[hOK,decide_eq_false_iff_not]at h1
    exact ⟨by omega,by omega,by omega,by omega,by omega⟩
   .exact badH_false.1 (key k hk).2 h hh
  .intro g k hk
   have h1:=g.ends k hk
   have h2:IF (ls.getD k dL) 24=false:=badH_false.2 λh hh=>g.hours k h hk hh
   unfold S9
   rw [if_neg (by simp only[hOK,decide_eq_false_iff_not];omega),h2];rfl
def jH (ls:List Lnk) (l:List Snd) (k:Nat):Int :=
 if (l.getD k dS).1<0\/(ls.length:Int)<=(l.getD k dS).1 then 1
 else if (l.getD k dS).2.1<0\/1000000<=(l.getD k dS).2.1\/(l.getD k dS).2.2<1\/1073741824<(l.getD k dS).2.2 then 3
 else if 0<k/\((l.getD k dS).2.1<(l.getD (k-1) dS).2.1\/((l.getD k dS).2.1=(l.getD (k-1) dS).2.1/\(l.getD k dS).1<=(l.getD (k-1) dS).1))then 1 else 0
def rgT (ls:List Lnk) (l:List Snd):Nat->Int
 | 0=>0
 | k+1=>if rgT ls l k≠0 then rgT ls l k else jH ls l k
def Bf (hn:Int) (ls:List Lnk) (l:List Snd):Int:=if FU hn ls≠0 then FU hn ls else if 2000<l.length then 2 else rgT ls l l.length
theorem Rq {ls:List Lnk} {l:List Snd} {k:Nat} (h:rgT ls l k≠0):∀m,rgT ls l (k+m)=rgT ls l k
 | 0=>rfl
 | m+1=>by
  have ih:=Rq h m
  show (if rgT ls l (k+m)≠0 then rgT ls l (k+m)else _)=_
  rw [ih,if_pos h]
theorem Tb {ls:List Lnk} {l:List Snd} {k m:Nat} (h:rgT ls l k≠0) (hk:k<=m):rgT ls l m=rgT ls l k:=by
 have := Rq h (m-k)
 rwa [show k+(m-k)=m by omega]at this
def HM:Int×List Lnk×List Snd->List PV:=λ(hn,ls,l) => [.agg [I hn,AS ls],Ay l]
def NY:Int×List Lnk×List Snd->PV:=λ(hn,ls,l)=>I (Bf hn ls l)
def e_right:Nat×Ent:=(47,.v (An HM NY AZ))
theorem Ac6:∀i j,HM i=HM j->i=j:=by
 rintro ⟨_,_,_⟩ ⟨_,_,_⟩ h
 simp only[HM,ix,and_true,s6,qt,qr,true_and,AG,AF]at h
 simp [h] <;> omega
theorem BA (hn:Int) (ls:List Lnk) (l:List Snd):An HM NY AZ [.agg [I hn,AS ls],Ay l]=some (I (Bf hn ls l)):=AD Ac6 (i:=(hn,ls,l)) trivial
def Ac7:Prop:=∀(hn:Int) (ls:List Lnk) (l:List Snd) ,VC pk 47 (HM (hn,ls,l)) (NY (hn,ls,l))
theorem Ac8:Ac7:=by
 intro hn ls l
 dsimp only[HM,NY]
 refine Bd AQ (l := [e_check]) ((Ad Ac5 Au)) [] []  Tryz.func47 rfl (by decide +kernel) (N:=91) rfl (by simp) rfl (by kernel_rfl) λhs=>?_
 simp only[AK,s8,ow,and_true,true_and]at hs
 by_cases h:FU hn ls=0
 case neg =>
  rw [show Bf hn ls l=FU hn ls by simp[Bf,h]]
  generalize hr:FU hn ls=r at *
  simp only[↓bdD,bdP,seval,Ao,st0,e_check,Ta,Aa,td,AJ,h,hr]
 have hc:=check_zero.1 h
 have h60:=hc.len
 by_cases hl:2000<l.length
 .have hli:(2000:Int)<(l.length:Int):=by omega
  rw [show Bf hn ls l=2 by simp[Bf,h,hl]]
  simp only[↓bdD,bdP,seval,Ao,st0,e_check,Ta,Aa,td,AJ,AO,h,hli]
 have hli:¬(2000:Int)<(l.length:Int):=by omega
 rw [show Bf hn ls l=rgT ls l l.length by simp[Bf,h,hl]]
 generalize hr:rgT ls l l.length=r
 simp only[↓bdD,bdP,seval,st0,e_check,Ta,Aa,td,AJ,AO,h,hli]
 refine Aw [4,6,7,18,19,20,21,22,23,24,25,26,27,28,29,30,31,32,33,34,35,36,37,38,39,40,41,42,43,44,45,46,47,48,49,50,51,52,53,54,55,56,57,58,59,60,61,62,63,64,65,66,67,68,69,70,71,72,73,74,75,76,77,78,79,80,81,82,83,84,85,86,87,88,89,90] l.length (λk ρ st'=>ρ 18=I k/\rgT ls l k=0) (.refl _) ?_ ?_
 .simp only[↓bdD,bdP,rgT]
 .rintro k ρ ⟨ob,M⟩ hk ⟨h18,hz⟩
  by_cases hlt:k<l.length
  .have hstep:rgT ls l (k+1)=jH ls l k:=by simp only[rgT,hz,ne_eq,not_true_eq_false,if_false]
   have hw1:nm.wrap ((k:Int)+1)=((k+1:Nat):Int):=by rw[Af (by omega) (by omega)];omega
   unfold jH at hstep
   generalize hx:l.getD k dS=x at *
   by_cases e1:x.1<0\/(ls.length:Int)<=x.1
   .rw [if_pos e1]at hstep
    have hend:=Tb (m:=l.length) (by rw[hstep];decide) (show k+1<=l.length by omega)
    rw [hend,hstep]at hr
    subst hr
    have e:x.1<0\/(¬x.1<0/\(ls.length:Int)<=x.1):=by omega
    rcases e with e | e
    .simp only[↓bdD,bdP,seval,Ao,kp,kd,A7,ty3,AO,Ct,h18,hlt,hx,e]
    .simp only[↓bdD,bdP,seval,Ao,kp,kd,A7,ty3,BP,AJ,AO,Ct,h18,hlt,hx,e]
   .rw [if_neg e1]at hstep
    by_cases e2:x.2.1<0\/1000000<=x.2.1\/x.2.2<1\/1073741824<x.2.2
    .rw [if_pos e2]at hstep
     have hend:=Tb (m:=l.length) (by rw[hstep];decide) (show k+1<=l.length by omega)
     rw [hend,hstep]at hr
     subst hr
     have e:(¬x.1<0/\¬(ls.length:Int)<=x.1/\x.2.1<0)\/(¬x.1<0/\¬(ls.length:Int)<=x.1/\¬x.2.1<0/\1000000<=x.2.1)\/(¬x.1<0/\¬(ls.length:Int)<=x.1/\¬x.2.1<0/\¬1000000<=x.2.1/\x.2.2<1)\/(¬x.1<0/\¬(ls.length:Int)<=x.1/\¬x.2.1<0/\¬1000000<=x.2.1/\¬x.2.2<1/\1073741824<x.2.2):=by omega
     rcases e with e | e | e | e
     .simp only[↓bdD,bdP,seval,Ao,kp,kd,A7,ty3,BP,AJ,AO,Ct,h18,hlt,hx,e]
     .simp only[↓bdD,bdP,seval,Ao,kp,kd,A7,ty3,BP,AJ,AO,Ct,h18,hlt,hx,e]
     .simp only[↓bdD,bdP,seval,Ao,kp,kd,A7,ty3,BP,AJ,AO,Ct,h18,hlt,hx,e]
     .simp only[↓bdD,bdP,seval,Ao,kp,kd,A7,ty3,BP,AJ,AO,Ct,h18,hlt,hx,e]
    .rw [if_neg e2]at hstep
     have e:¬x.1<0/\¬(ls.length:Int)<=x.1/\¬x.2.1<0/\¬1000000<=x.2.1/\¬x.2.2<1/\¬1073741824<x.2.2:=by omega
     by_cases h0:0<k
     case neg =>
      rw [if_neg (λg=>h0 g.1)]at hstep
      have h0i:¬(0:Int)<(k:Int):=by omega
      simp only[↓bdD,bdP,seval,kp,kd,A7,ty3,BP,AJ,AO,Ct,h18,hlt,hx,e,h0i,hw1,hstep]
     have h0i:(0:Int)<(k:Int):=by omega
     have hwm:nm.wrap ((k:Int)-1)=((k-1:Nat):Int):=by rw[Af (by omega) (by omega)];omega
     have hltm:k-1<l.length:=by omega
     generalize hy:l.getD (k-1) dS=y at *
     by_cases e3:x.2.1<y.2.1\/(x.2.1=y.2.1/\x.1<=y.1)
     .rw [if_pos ⟨h0,e3⟩]at hstep
      have hend:=Tb (m:=l.length) (by rw[hstep];decide) (show k+1<=l.length by omega)
      rw [hend,hstep]at hr
      subst hr
      have e':x.2.1<y.2.1\/(¬x.2.1<y.2.1/\x.2.1=y.2.1/\x.1<=y.1/\¬y.2.1<0/\¬1000000<=y.2.1/\¬y.2.1<y.2.1):=by omega
      rcases e' with e' | e'
      .simp only[↓bdD,bdP,seval,Ao,kp,kd,A7,ty3,BP,AJ,AO,Ct,h18,hlt,hx,e,h0i,hwm,hltm,hy,e']
      .simp only[↓bdD,bdP,seval,Ao,kp,kd,A7,ty3,BP,AJ,AO,Ct,h18,hlt,hx,e,h0i,hwm,hltm,hy,e']
     .rw [if_neg (λg=>e3 g.2)]at hstep
      have e':(¬x.2.1<y.2.1/\¬x.2.1=y.2.1/\¬y.2.1=x.2.1)\/(¬x.2.1<y.2.1/\x.2.1=y.2.1/\¬x.1<=y.1/\¬y.2.1<0/\¬1000000<=y.2.1/\¬y.2.1<y.2.1):=by omega
      rcases e' with e' | e'
      .simp only[↓bdD,bdP,seval,kp,kd,A7,ty3,BP,AJ,AO,Ct,h18,hlt,hx,e,h0i,hwm,hltm,hy,e',hw1,hstep]
      .simp only[↓bdD,bdP,seval,kp,kd,A7,ty3,BP,AJ,AO,Ct,h18,hlt,hx,e,h0i,hwm,hltm,hy,e',hw1,hstep]
  .have e:k=l.length:=by omega
   subst e
   rw [hz]at hr
   subst hr
   simp only[↓bdD,bdP,seval,Ao,h18]
theorem JC:AM pk e_right.1 e_right.2:=Ax λ⟨hn,ls,l⟩ h=>Ac8 hn ls l
structure OKr (hn:Int) (ls:List Lnk) (l:List Snd):Prop where
 net : OKn hn ls
 len : l.length<=2000
 link : ∀k,k<l.length->0<=(l.getD k dS).1/\(l.getD k dS).1<(ls.length:Int)
 tick : ∀k,k<l.length->0<=(l.getD k dS).2.1/\(l.getD k dS).2.1<1000000
 bytes : ∀k,k<l.length->1<=(l.getD k dS).2.2/\(l.getD k dS).2.2<=1073741824
 asc : ∀k,0<k->k<l.length->(l.getD (k-1) dS).2.1<(l.getD k dS).2.1\/((l.getD (k-1) dS).2.1=(l.getD k dS).2.1/\(l.getD (k-1) dS).1<(l.getD k dS).1)
theorem VK {ls:List Lnk} {l:List Snd}:∀ {k},rgT ls l k=0↔∀i,i<k->jH ls l i=0
 | 0=>⟨λ_ h g=>absurd g (by omega),λ_=>rfl⟩
 | k+1=>by
  have ih:=@VK ls l k
  simp only[rgT]
  by_cases h:rgT ls l k=0
  .rw [if_neg (λhn=>hn h)]
   constructor
   .intro hb i hi
    by_cases e:i=k
    .subst e;exact hb
    .exact ih.1 h i (by omega)
   .intro g;exact g k (by omega)
  .rw [if_pos h]
   exact ⟨λg=>absurd g h,λg=>absurd (ih.2 λi hi=>g i (by omega)) h⟩
theorem sndE_zero {ls:List Lnk} {l:List Snd} {k:Nat}:jH ls l k=0↔(0<=(l.getD k dS).1/\(l.getD k dS).1<(ls.length:Int))/\(0<=(l.getD k dS).2.1/\(l.getD k dS).2.1<1000000)/\(1<=(l.getD k dS).2.2/\(l.getD k dS).2.2<=1073741824)/\(0<k->(l.getD (k-1) dS).2.1<(l.getD k dS).2.1\/((l.getD (k-1) dS).2.1=(l.getD k dS).2.1/\(l.getD (k-1) dS).1<(l.getD k dS).1)):=by
 unfold jH
 generalize l.getD k dS=x
 generalize l.getD (k-1) dS=y
 split
 .constructor
  .intro h;cases h
  .omega
 .split
  .constructor
   .intro h;cases h
   .omega
  .split
   .constructor
    .intro h;cases h
    .omega
   .constructor
    .intro; omega
    .intro; rfl
theorem right_zero {hn:Int} {ls:List Lnk} {l:List Snd}:Bf hn ls l=0↔OKr hn ls l:=by
 unfold Bf
 split
 .rename_i h
  exact ⟨λg=>absurd g h,λg=>absurd (check_zero.2 g.net) h⟩
 .rename_i h
  have h:=check_zero.1 (Classical.not_not.1 h)
  split
  .exact ⟨λg=>(by cases g),λg=>(by have:=g.len;omega)⟩
  .rw [VK]
   constructor
   .intro g
    exact ⟨h,by omega,λk hk=>(sndE_zero.1 (g k hk)).1,λk hk=>(sndE_zero.1 (g k hk)).2.1,λk hk=>(sndE_zero.1 (g k hk)).2.2.1,λk h0 hk=>(sndE_zero.1 (g k hk)).2.2.2 h0⟩
   .intro g k hk
    exact sndE_zero.2 ⟨g.link k hk,g.tick k hk,g.bytes k hk,λh0=>g.asc k h0 hk⟩
def CT (ls:List Lnk) (link tick:Int):Int:=E9 (ls.getD link.toNat dL) (tick.toNat % 24)
def Dk (ls:List Lnk) (link tick:Int):Int:=Gl (ls.getD link.toNat dL) (tick.toNat % 24)
theorem MV {t:Int} (h:0<=t):Int.tmod t 24=((t.toNat % 24:Nat):Int):=by
 rw [Int.tmod_eq_emod_of_nonneg h];omega
theorem Ey {a:Int} {n:Nat} (h0:0<=a) (h:a<(n:Int)):a.toNat<n:=by omega
def Po:Int×List Lnk×Int×Int->List PV:=λ(hn,ls,link,tick) => [.agg [I hn,AS ls],I link,I tick]
def ZN:Int×List Lnk×Int×Int->PV:=λ(hn,ls,link,tick)=>I (CT ls link tick)
def Agp:Int×List Lnk×Int×Int->Prop:=λ(hn,ls,link,tick)=>0<=link/\link<(ls.length:Int)/\0<=tick
def e_cap:Nat×Ent:=(53,.v (An Po ZN Agp))
theorem Am9:∀i j,Po i=Po j->i=j:=by
 rintro ⟨_,_,_,_⟩ ⟨_,_,_,_⟩ h
 simp only[Po,ix,and_true,s6,qt,qr,true_and,AF]at h
 simp [h] <;> omega
theorem tI (hn:Int) (ls:List Lnk) (link:Int) (tick:Int):An Po ZN Agp [.agg [I hn,AS ls],I link,I tick]=@ite (Option (PV)) (0<=link/\link<(ls.length:Int)/\0<=tick) (qo _) (some (I (CT ls link tick))) none:=Bs Am9 (hn,ls,link,tick)
def Ana:Prop:=∀(hn:Int) (ls:List Lnk) (link:Int) (tick:Int) (h:0<=link/\link<(ls.length:Int)/\0<=tick) ,VC pk 53 (Po (hn,ls,link,tick)) (ZN (hn,ls,link,tick))
theorem Anb:Ana:=by
 rintro hn ls link tick ⟨h0,h1,h2⟩
 dsimp only[Po,ZN]
 refine Bd AQ (l := []) (Au) [] []  Tryz.func53 rfl (by decide +kernel) (N:=16) rfl (by simp) rfl (by kernel_rfl) λhs=>?_
 simp only[AK,s8,ow,and_true,true_and]at hs
 unfold CT
 have h3:=MV h2
 have h4:tick.toNat % 24<24:=ss _ (by omega)
 have h4i:((tick.toNat % 24:Nat):Int)<24:=by omega
 generalize tick.toNat % 24=h at *
 have h5:=Ey h0 h1
 have h6:=te h0
 generalize link.toNat=k at *
 generalize hr:E9 (ls.getD k dL) h=r
 subst h6
 simp only[↓bdD,bdP,seval,Ao,st0,Cg,Fp,s4,Tryz.f53,ty3,BP,AJ,OY,CS,h0,h1,h3,h4,h4i,h5,hr]
theorem Agq:AM pk e_cap.1 e_cap.2:=Ax λ⟨hn,ls,link,tick⟩ h=>Anb hn ls link tick h
def ftT (ls:List Lnk) (l:List Snd):Nat->Bool
 | 0=>false
 | k+1=>ftT ls l k||decide (CT ls (l.getD k dS).1 (l.getD k dS).2.1<(l.getD k dS).2.2)
def Cy (hn:Int) (ls:List Lnk) (l:List Snd):Int:=if Bf hn ls l≠0 then Bf hn ls l else if ftT ls l l.length=true then 13 else 0
theorem Ac9 {ls:List Lnk} {l:List Snd} {k m:Nat} (h:ftT ls l k=true) (hk:k<=m):ftT ls l m=true:=by
 induction m with
 | zero=>rwa [show k=0 by omega]at h
 | succ m ih =>
  by_cases e:k=m+1
  .rwa [<-e]
  .simp only[ftT,ih (by omega),Bool.true_or]
def KD:Int×List Lnk×List Snd->List PV:=λ(hn,ls,l) => [.agg [I hn,AS ls],Ay l]
def Tc:Int×List Lnk×List Snd->PV:=λ(hn,ls,l)=>I (Cy hn ls l)
def e_fits:Nat×Ent:=(55,.v (An KD Tc AZ))
theorem Ai8:∀i j,KD i=KD j->i=j:=by
 rintro ⟨_,_,_⟩ ⟨_,_,_⟩ h
 simp only[KD,ix,and_true,s6,qt,qr,true_and,AG,AF]at h
 simp [h] <;> omega
theorem MW (hn:Int) (ls:List Lnk) (l:List Snd):An KD Tc AZ [.agg [I hn,AS ls],Ay l]=some (I (Cy hn ls l)):=AD Ai8 (i:=(hn,ls,l)) trivial
def Ai9:Prop:=∀(hn:Int) (ls:List Lnk) (l:List Snd) ,VC pk 55 (KD (hn,ls,l)) (Tc (hn,ls,l))
theorem Aja:Ai9:=by
 intro hn ls l
 dsimp only[KD,Tc]
 refine Bd AQ (l := [e_right,e_cap]) ((Ad JC (Ad Agq Au))) [27] []  Tryz.func55 rfl (by decide +kernel) (N:=30) rfl (by simp) rfl (by kernel_rfl) λhs=>?_
 simp only[AK,s8,ow,and_true,true_and]at hs
 by_cases h:Bf hn ls l=0
 case neg =>
  rw [show Cy hn ls l=Bf hn ls l by simp[Cy,h]]
  generalize hr:Bf hn ls l=r at *
  simp only[↓bdD,bdP,seval,Ao,st0,e_right,BA,e_cap,Ac,Aa,Tryz.f55,AJ,AO,h,hr]
 have ok:=right_zero.1 h
 have hlen:=ok.len
 rw [show Cy hn ls l=if ftT ls l l.length=true then 13 else 0 by simp[Cy,h]]
 generalize hr:(if ftT ls l l.length=true then (13:Int)else 0)=r
 simp only[↓bdD,bdP,seval,st0,e_right,BA,e_cap,Ac,Aa,Tryz.f55,AJ,AO,h]
 refine Aw [4,7,16,17,18,19,20,21,22,23,24,25,26,27,28,29] l.length (λk ρ st'=>ρ 16=I k/\ftT ls l k=false) (.refl _) ?_ ?_
 .simp only[↓bdD,bdP,ftT]
 .rintro k ρ ⟨ob,M⟩ hk ⟨h16,hz⟩
  by_cases hlt:k<l.length
  .have hw1:nm.wrap ((k:Int)+1)=((k+1:Nat):Int):=by rw[Af (by omega) (by omega)];omega
   have e1:=ok.link k hlt
   have e2:=(ok.tick k hlt).1
   have hs:ftT ls l (k+1)=decide (CT ls (l.getD k dS).1 (l.getD k dS).2.1<(l.getD k dS).2.2):=by simp only[ftT,hz,tc]
   generalize hx:l.getD k dS=x at *
   by_cases hb:CT ls x.1 x.2.1<x.2.2
   .rw [decide_eq_true hb]at hs
    rw [if_pos (Ac9 hs (by omega))]at hr
    subst hr
    simp only[↓bdD,bdP,seval,Ao,kp,kd,tI,A7,Aa,ty3,AJ,AO,Ct,h16,hlt,hx,e1,e2,hb]
   .rw [decide_eq_false hb]at hs
    simp only[↓bdD,bdP,seval,kp,kd,tI,A7,Aa,ty3,AJ,AO,Ct,h16,hlt,hx,e1,e2,hb,hs,hw1]
  .have e:k=l.length:=by omega
   subst e
   rw [hz,if_neg (by simp)]at hr
   subst hr
   simp only[↓bdD,bdP,seval,Ao,h16]
theorem tJ:AM pk e_fits.1 e_fits.2:=Ax λ⟨hn,ls,l⟩ h=>Aja hn ls l
section
variable {hn:Int} {ls:List Lnk}
theorem JD (h:OKn hn ls) {link tick:Int} (h0:0<=link) (h1:link<(ls.length:Int)):0<=Dk ls link tick/\Dk ls link tick<=1000000:=by
 have := h.hours link.toNat (tick.toNat % 24) (Ey h0 h1) (ss _ (by omega))
 exact ⟨this.2.2.1,this.2.2.2⟩
theorem GD (h:OKn hn ls) {link tick:Int} (h0:0<=link) (h1:link<(ls.length:Int)):0<=CT ls link tick/\CT ls link tick<=1073741824:=by
 have := h.hours link.toNat (tick.toNat % 24) (Ey h0 h1) (ss _ (by omega))
 exact ⟨this.1,this.2.1⟩
end
def Dy (ls:List Lnk) (l:List Snd):Nat->Int
 | 0=>0
 | k+1=>Dy ls l k+(l.getD k dS).2.2*Dk ls (l.getD k dS).1 (l.getD k dS).2.1
def BY (hn:Int) (ls:List Lnk) (l:List Snd):Int:=if Bf hn ls l≠0 then 0 else Dy ls l l.length
theorem Rr {a b A B:Int} (h0:0<=a) (h1:a<=A) (h2:0<=b) (h3:b<=B):0<=a*b/\a*b<=A*B :=
 ⟨Int.mul_nonneg h0 h2,Int.mul_le_mul h1 h3 h2 (by omega)⟩
theorem Jd {hn:Int} {ls:List Lnk} {l:List Snd} (ok:OKr hn ls l):∀k:Nat,k<=l.length->0<=Dy ls l k/\Dy ls l k<=1073741824000000*(k:Int)
 | 0,_=>⟨pj _,by simp[Dy]⟩
 | k+1,h=>by
  have ih:=Jd ok k (by omega)
  have h1:=ok.link k (by omega)
  have h2:=ok.bytes k (by omega)
  have h3:=JD ok.net h1.1 h1.2 (tick:=(l.getD k dS).2.1)
  have h4:=Rr (by omega) h2.2 h3.1 h3.2
  simp only[Dy]
  omega
theorem Ada {hn:Int} {ls:List Lnk} {l:List Snd} (ok:OKr hn ls l) {k:Nat} (h:k<l.length):nm.wrap ((l.getD k dS).2.2*Dk ls (l.getD k dS).1 (l.getD k dS).2.1)=(l.getD k dS).2.2*Dk ls (l.getD k dS).1 (l.getD k dS).2.1 /\
  nm.wrap (Dy ls l k+(l.getD k dS).2.2*Dk ls (l.getD k dS).1 (l.getD k dS).2.1)=Dy ls l (k+1):=by
 have h0:=ok.len
 have h1:=ok.link k h
 have h2:=ok.bytes k h
 have h3:=JD ok.net h1.1 h1.2 (tick:=(l.getD k dS).2.1)
 have h4:=Rr (by omega) h2.2 h3.1 h3.2
 have h5:=Jd ok k (by omega)
 exact ⟨Af (by omega) (by omega),Af (by omega) (by omega)⟩
def KE:Int×List Lnk×List Snd->List PV:=λ(hn,ls,l) => [.agg [I hn,AS ls],Ay l]
def Td:Int×List Lnk×List Snd->PV:=λ(hn,ls,l)=>.tuple [I (BY hn ls l),I (Bf hn ls l)]
def e_cost:Nat×Ent:=(27,.v (An KE Td AZ))
theorem Ajb:∀i j,KE i=KE j->i=j:=by
 rintro ⟨_,_,_⟩ ⟨_,_,_⟩ h
 simp only[KE,ix,and_true,s6,qt,qr,true_and,AG,AF]at h
 simp [h] <;> omega
theorem Ajc (hn:Int) (ls:List Lnk) (l:List Snd):An KE Td AZ [.agg [I hn,AS ls],Ay l]=some (.tuple [I (BY hn ls l),I (Bf hn ls l)]):=AD Ajb (i:=(hn,ls,l)) trivial
def Ajd:Prop:=∀(hn:Int) (ls:List Lnk) (l:List Snd) ,VC pk 27 (KE (hn,ls,l)) (Td (hn,ls,l))
theorem Aje:Ajd:=by
 intro hn ls l
 dsimp only[KE,Td]
 refine Bd AQ (l := [e_right]) ((Ad JC Au)) [] []  Tryz.func27 rfl (by decide +kernel) (N:=40) rfl (by simp) rfl (by kernel_rfl) λhs=>?_
 simp only[AK,s8,ow,and_true,true_and]at hs
 by_cases h:Bf hn ls l=0
 case neg =>
  rw [show BY hn ls l=0 by simp[BY,h]]
  generalize hr:Bf hn ls l=r at *
  simp only[↓bdD,bdP,seval,Ao,st0,e_right,BA,Ac,Aa,Tryz.f27,AJ,AO,h,hr]
 have ok:=right_zero.1 h
 have hlen:=ok.len
 rw [show BY hn ls l=Dy ls l l.length by simp[BY,h],h]
 generalize hr:Dy ls l l.length=r
 simp only[↓bdD,bdP,seval,st0,e_right,BA,Ac,Aa,Tryz.f27,AJ,AO,h]
 refine Aw [7,9,18,19,20,21,22,23,24,25,26,27,28,29,30,31,32,33,34,35,36,37,38] l.length (λk ρ st'=>ρ 18=I k/\ρ 7=I (Dy ls l k)) (.refl _) ?_ ?_
 .simp only[↓bdD,bdP,r8,Dy]
 .rintro k ρ ⟨ob,M⟩ hk ⟨h18,h7⟩
  by_cases hlt:k<l.length
  .have hw1:nm.wrap ((k:Int)+1)=((k+1:Nat):Int):=by rw[Af (by omega) (by omega)];omega
   have e1:=ok.link k hlt
   have e2:=(ok.tick k hlt).1
   have hw:=Ada ok hlt
   generalize hx:l.getD k dS=x at *
   have h3:=MV e2
   have h4:x.2.1.toNat % 24<24:=ss _ (by omega)
   have h4i:((x.2.1.toNat % 24:Nat):Int)<24:=by omega
   unfold Dk at hw
   generalize x.2.1.toNat % 24=hh at *
   have h5:=Ey e1.1 e1.2
   have h6:=te e1.1
   generalize x.1.toNat=kk at *
   simp only[↓bdD,bdP,seval,kp,kd,A7,Cg,HI,s4,ty3,BP,AJ,AO,Ct,OY,CS,h18,h7,hlt,hx,h3,h4,h4i,h5,<-h6,hw,hw1]
  .have e:k=l.length:=by omega
   subst e
   rw [hr]at h7
   simp only[↓bdD,bdP,seval,Ao,h18,h7]
theorem Ajf:AM pk e_cost.1 e_cost.2:=Ax λ⟨hn,ls,l⟩ h=>Aje hn ls l
def Bg (l:List Snd) (link tick:Int):Nat->Int
 | 0=>0
 | k+1=>Bg l link tick k+if (l.getD k dS).1=link/\(l.getD k dS).2.1=tick then (l.getD k dS).2.2 else 0
def D4 (hn:Int) (ls:List Lnk) (l:List Snd) (link tick:Int):Int×Int :=
 if Bf hn ls l≠0 then (0,Bf hn ls l)else if link<0\/(ls.length:Int)<=link\/tick<0\/1000000<=tick then (0,1)else (CT ls link tick-Bg l link tick l.length,0)
def smB (l:List Snd):Prop:=l.length<=2000/\∀k,k<l.length->1<=(l.getD k dS).2.2/\(l.getD k dS).2.2<=1073741824
theorem VL {l:List Snd} (h:smB l) (link tick:Int):∀k:Nat,k<=l.length->0<=Bg l link tick k/\Bg l link tick k<=1073741824*(k:Int)
 | 0,_=>⟨pj _,by simp[Bg]⟩
 | k+1,hk=>by
  have ih:=VL h link tick k (by omega)
  have h2:=h.2 k (by omega)
  simp only[Bg]
  split <;> omega
theorem OKr.smB {hn:Int} {ls:List Lnk} {l:List Snd} (h:OKr hn ls l):smB l:=⟨h.len,h.bytes⟩
def KF:Int×List Lnk×List Snd×Int×Int->List PV:=λ(hn,ls,l,link,tick) => [.agg [I hn,AS ls],Ay l,I link,I tick]
def Te:Int×List Lnk×List Snd×Int×Int->PV:=λ(hn,ls,l,link,tick)=>.tuple [I (D4 hn ls l link tick).1,I (D4 hn ls l link tick).2]
def e_left:Nat×Ent:=(29,.v (An KF Te AZ))
theorem Ajg:∀i j,KF i=KF j->i=j:=by
 rintro ⟨_,_,_,_,_⟩ ⟨_,_,_,_,_⟩ h
 simp only[KF,ix,and_true,s6,qt,qr,true_and,AG,AF]at h
 simp [h] <;> omega
theorem tK (hn:Int) (ls:List Lnk) (l:List Snd) (link:Int) (tick:Int):An KF Te AZ [.agg [I hn,AS ls],Ay l,I link,I tick]=some (.tuple [I (D4 hn ls l link tick).1,I (D4 hn ls l link tick).2]):=AD Ajg (i:=(hn,ls,l,link,tick)) trivial
def Ajh:Prop:=∀(hn:Int) (ls:List Lnk) (l:List Snd) (link:Int) (tick:Int) ,VC pk 29 (KF (hn,ls,l,link,tick)) (Te (hn,ls,l,link,tick))
theorem Aji:Ajh:=by
 intro hn ls l link tick
 dsimp only[KF,Te]
 refine Bd AQ (l := [e_right,e_cap]) ((Ad JC (Ad Agq Au))) [] []  Tryz.func29 rfl (by decide +kernel) (N:=63) rfl (by simp) rfl (by kernel_rfl) λhs=>?_
 simp only[AK,s8,ow,and_true,true_and]at hs
 by_cases h:Bf hn ls l=0
 case neg =>
  rw [show D4 hn ls l link tick=(0,Bf hn ls l) by simp[D4,h]]
  generalize hr:Bf hn ls l=r at *
  simp only[↓bdD,bdP,seval,Ao,st0,e_right,BA,e_cap,Ac,Aa,tg,AJ,AO,h,hr]
 have ok:=right_zero.1 h
 have hlen:=ok.len
 by_cases hb:link<0\/(ls.length:Int)<=link\/tick<0\/1000000<=tick
 .rw [show D4 hn ls l link tick=(0,1) by simp only[D4,h,ne_eq,not_true_eq_false,if_false];rw[if_pos hb]]
  have e:link<0\/(¬link<0/\(ls.length:Int)<=link)\/(¬link<0/\¬(ls.length:Int)<=link/\tick<0)\/(¬link<0/\¬(ls.length:Int)<=link/\¬tick<0/\1000000<=tick):=by omega
  rcases e with e | e | e | e
  .simp only[↓bdD,bdP,seval,Ao,st0,e_right,BA,e_cap,Ac,Aa,tg,AJ,AO,h,e]
  .simp only[↓bdD,bdP,seval,Ao,st0,e_right,BA,e_cap,Ac,Aa,tg,BP,AJ,AO,h,e]
  .simp only[↓bdD,bdP,seval,Ao,st0,e_right,BA,e_cap,Ac,Aa,tg,BP,AJ,AO,h,e]
  .simp only[↓bdD,bdP,seval,Ao,st0,e_right,BA,e_cap,Ac,Aa,tg,BP,AJ,AO,h,e]
 rw [show D4 hn ls l link tick=(CT ls link tick-Bg l link tick l.length,0) by simp only[D4,h,ne_eq,not_true_eq_false,if_false];rw[if_neg hb]]
 have e:¬link<0/\¬(ls.length:Int)<=link/\¬tick<0/\¬1000000<=tick/\0<=link/\link<(ls.length:Int)/\0<=tick:=by omega
 have hcap:=GD ok.net e.2.2.2.2.1 e.2.2.2.2.2.1 (tick:=tick)
 have hb:=ok.smB
 generalize hr:CT ls link tick-Bg l link tick l.length=r
 simp only[↓bdD,bdP,seval,st0,e_right,BA,e_cap,tI,Ac,Aa,tg,ty3,BP,AJ,AO,h,e]
 refine Aw [11,13,43,44,45,46,47,48,49,50,51,52,53,54,55,56,57,58,59,60,61] l.length (λk ρ st'=>ρ 43=I k/\ρ 11=I (CT ls link tick-Bg l link tick k)) (.refl _) ?_ ?_
 .simp only[↓bdD,bdP,r8,Bg,Int.sub_zero]
 .rintro k ρ ⟨ob,M⟩ hk ⟨h43,h11⟩
  by_cases hlt:k<l.length
  .have hw1:nm.wrap ((k:Int)+1)=((k+1:Nat):Int):=by rw[Af (by omega) (by omega)];omega
   have hs:=VL hb link tick k hk
   have hbk:=hb.2 k hlt
   have hstep:Bg l link tick (k+1)=Bg l link tick k+if (l.getD k dS).1=link/\(l.getD k dS).2.1=tick then (l.getD k dS).2.2 else 0:=rfl
   generalize hx:l.getD k dS=x at *
   by_cases e1:x.1=link
   .by_cases e2:x.2.1=tick
    .rw [if_pos ⟨e1,e2⟩]at hstep
     have hw2:nm.wrap (CT ls link tick-Bg l link tick k-x.2.2)=CT ls link tick-Bg l link tick (k+1):=by rw[hstep,Af (by omega) (by omega)];omega
     simp only[↓bdD,bdP,seval,kp,kd,A7,ty3,AO,Ct,h43,h11,hlt,hx,e1,e2,hw1,hw2]
    .rw [if_neg (λh=>e2 h.2),th]at hstep
     simp only[↓bdD,bdP,seval,kp,kd,A7,ty3,AO,Ct,h43,h11,hlt,hx,e1,e2,hw1,hstep]
   .rw [if_neg (λh=>e1 h.1),th]at hstep
    simp only[↓bdD,bdP,seval,kp,kd,A7,ty3,AO,Ct,h43,h11,hlt,hx,e1,hw1,hstep]
  .have e:k=l.length:=by omega
   subst e
   rw [hr]at h11
   simp only[↓bdD,bdP,seval,Ao,h43,h11]
theorem Ajj:AM pk e_left.1 e_left.2:=Ax λ⟨hn,ls,l,link,tick⟩ h=>Aji hn ls l link tick
abbrev Dem:=Int×Int×Int×Int×Int
abbrev D7 (d:Dem):PV:=.agg [I d.1,I d.2.1,I d.2.2.1,I d.2.2.2.1,I d.2.2.2.2]
def IG (d:Dem):Prop:=1<=d.2.2.1/\d.2.2.1<=1099511627776/\0<=d.2.2.2.1/\d.2.2.2.1<=d.2.2.2.2/\d.2.2.2.2<=1000000
instance {d:Dem}:Decidable (IG d):=inferInstanceAs (Decidable (_/\_))
def Ed (hn:Int) (d:Dem):Bool:=hOK hn d.1&&hOK hn d.2.1&&decide (IG d)
def FV:Int×List Lnk×Int->List PV:=λ(hn,ls,h) => [I h,.vptr [I hn,AS ls] 0]
def LF:Int×List Lnk×Int->PV:=λ(hn,ls,h)=>B (hOK hn h)
def e_dhouse:Nat×Ent:=(82,.v (An FV LF AZ))
theorem tL:∀i j,FV i=FV j->i=j:=by
 rintro ⟨_,_,_⟩ ⟨_,_,_⟩ h
 simp only[FV,ix,and_true,s6,qt,s7,true_and,AF]at h
 simp [h] <;> omega
theorem EV (hn:Int) (ls:List Lnk) (h:Int):An FV LF AZ [I h,.vptr [I hn,AS ls] 0]=some (B (hOK hn h)):=AD tL (i:=(hn,ls,h)) trivial
def tM:Prop:=∀(hn:Int) (ls:List Lnk) (h:Int) ,VC pk 82 (FV (hn,ls,h)) (LF (hn,ls,h))
theorem tO:tM:=by
 intro hn ls h
 dsimp only[FV,LF]
 refine Bd AQ (l := []) (Au) [] []  Tryz.func82 rfl (by decide +kernel) (N:=12) rfl (by simp) rfl (by kernel_rfl) λhs=>?_
 simp only[AK,s8,ow,and_true,true_and]at hs
 generalize hr:hOK hn h=r
 by_cases h1:0<=h
 .by_cases h2:h<hn
  .simp only[hOK,h1,h2,and_self,decide_true]at hr
   subst hr
   simp only[↓bdD,bdP,seval,Ao,st0,ti,ty3,AJ,h1,h2]
  .simp only[hOK,h1,h2,and_false,decide_false]at hr
   subst hr
   simp only[↓bdD,bdP,seval,Ao,st0,ti,ty3,AJ,h1,h2]
 .simp only[hOK,h1,false_and,decide_false]at hr
  subst hr
  simp only[↓bdD,bdP,seval,Ao,st0,ti,h1]
theorem tP:AM pk e_dhouse.1 e_dhouse.2:=Ax λ⟨hn,ls,h⟩ h=>tO hn ls h
def DL:Int×List Lnk×Dem->List PV:=λ(hn,ls,d) => [.agg [I hn,AS ls],D7 d]
def HN:Int×List Lnk×Dem->PV:=λ(hn,ls,d)=>B (Ed hn d)
def e_demanded:Nat×Ent:=(54,.v (An DL HN AZ))
theorem YB:∀i j,DL i=DL j->i=j:=by
 rintro ⟨_,_,_⟩ ⟨_,_,_⟩ h
 simp only[DL,ix,and_true,s6,qt,qr,true_and,AF]at h
 simp [tn,h] <;> omega
theorem CY (hn:Int) (ls:List Lnk) (d:Dem):An DL HN AZ [.agg [I hn,AS ls],D7 d]=some (B (Ed hn d)):=AD YB (i:=(hn,ls,d)) trivial
def YC:Prop:=∀(hn:Int) (ls:List Lnk) (d:Dem) ,VC pk 54 (DL (hn,ls,d)) (HN (hn,ls,d))
theorem YD:YC:=by
 rintro hn ls ⟨f,t,b,r,u⟩
 dsimp only[DL,HN]
 refine Bd AQ (l := [e_dhouse]) ((Ad tP Au)) [] []  Tryz.func54 rfl (by decide +kernel) (N:=44) rfl (by simp) rfl (by kernel_rfl) λhs=>?_
 simp only[AK,s8,ow,and_true,true_and]at hs
 unfold Ed
 cases g1:hOK hn f
 .simp only[↓bdD,bdP,seval,Ao,st0,e_dhouse,EV,Aa,tp,ty3,AY,g1,tq]
 cases g2:hOK hn t
 .simp only[↓bdD,bdP,seval,Ao,st0,e_dhouse,EV,Aa,tp,ty3,AY,g1,g2,Bool.and_false,tq]
 have key:∀q:Bool,(hOK hn f&&hOK hn t&&q)=q:=λq=>by rw[g1,g2];simp
 by_cases h1:1<=b
 case neg=>simp only[↓bdD,bdP,seval,Ao,st0,e_dhouse,EV,Aa,tp,ty3,AY,g1,g2,show IG (f,t,b,r,u)=False by simp[IG,h1],h1]
 by_cases h2:b<=1099511627776
 case neg=>simp only[↓bdD,bdP,seval,Ao,st0,e_dhouse,EV,Aa,tp,ty3,AY,g1,g2,show IG (f,t,b,r,u)=False by simp[IG,h2],h1,h2]
 by_cases h3:0<=r
 case neg=>simp only[↓bdD,bdP,seval,Ao,st0,e_dhouse,EV,Aa,tp,ty3,AY,g1,g2,show IG (f,t,b,r,u)=False by simp[IG,h3],h1,h2,h3]
 by_cases h4:r<=u
 case neg=>simp only[↓bdD,bdP,seval,Ao,st0,e_dhouse,EV,Aa,tp,ty3,AY,g1,g2,show IG (f,t,b,r,u)=False by simp[IG,h4],h1,h2,h3,h4]
 by_cases h5:u<=1000000
 case neg=>simp only[↓bdD,bdP,seval,Ao,st0,e_dhouse,EV,Aa,tp,ty3,AY,g1,g2,show IG (f,t,b,r,u)=False by simp[IG,h5],h1,h2,h3,h4,h5]
 simp only[↓bdD,bdP,seval,Ao,st0,e_dhouse,EV,Aa,tp,ty3,AY,g1,g2,show IG (f,t,b,r,u)=True by simp[IG,h1,h2,h3,h4,h5],h1,h2,h3,h4,h5]
theorem Pp:AM pk e_demanded.1 e_demanded.2:=Ax λ⟨hn,ls,d⟩ h=>YD hn ls d
end Sim
namespace Sim
open Go Go.Proofs
attribute [local congr] Ah Ai Ag At Al Aj Aq HD
def AB (ls:List Lnk) (s:Snd):Lnk:=ls.getD s.1.toNat dL
def KG (ls:List Lnk) (l:List Snd) (i:Nat):Int×Int×Int :=
 if i % 2=0 then ((l.getD (i / 2) dS).2.1,(AB ls (l.getD (i / 2) dS)).1,-(l.getD (i / 2) dS).2.2)else ((l.getD (i / 2) dS).2.1,(AB ls (l.getD (i / 2) dS)).2.1,(l.getD (i / 2) dS).2.2)
abbrev Ajk (x:Int×Int×Int):List PV := [I x.1,.agg [I x.2.1,I x.2.2]]
def ysL (ls:List Lnk) (l:List Snd):List (List PV):=(List.range (2*l.length)).map λi=>Ajk (KG ls l i)
section
variable {ls:List Lnk} {l:List Snd}
theorem tQ {i:Nat} (h:i<2*l.length):(ysL ls l)[i]?=some (Ajk (KG ls l i)):=by
 simp [ysL,h]
theorem YE:(ysL ls l).length=2*l.length:=by simp[ysL]
theorem Ajl {i:Nat} {y:List PV} (h:(ysL ls l)[i]?=some y):i<2*l.length/\y=Ajk (KG ls l i):=by
 have hlt:=(List.getElem?_eq_some_iff.1 h).1
 rw [YE]at hlt
 rw [tQ hlt]at h
 exact ⟨hlt,(Option.some.inj h).symm⟩
theorem VM {k:Nat}:KG ls l (2*k)=((l.getD k dS).2.1,(AB ls (l.getD k dS)).1,-(l.getD k dS).2.2):=by
 unfold KG
 rw [if_pos (by omega),show 2*k / 2=k by omega]
theorem ZO {k:Nat}:KG ls l (2*k+1)=((l.getD k dS).2.1,(AB ls (l.getD k dS)).2.1,(l.getD k dS).2.2):=by
 unfold KG
 rw [if_neg (by omega),show (2*k+1) / 2=k by omega]
end
abbrev Adb (hn:Int) (ls:List Lnk) (l:List Snd):PV:=.func (.func 97) [] [.vptr [Ay l] 0,.vptr [I hn,AS ls] 0]
def Ez:Int×List Lnk×List Snd->List PV:=λ(hn,ls,l) => [.agg [I hn,AS ls],Ay l]
def JE:Int×List Lnk×List Snd->PV:=λ(hn,ls,l)=>Adb hn ls l
def e_changes:Nat×Ent:=(83,.v (An Ez JE AZ))
theorem jI:∀i j,Ez i=Ez j->i=j:=by
 rintro ⟨_,_,_⟩ ⟨_,_,_⟩ h
 simp only[Ez,ix,and_true,s6,qt,qr,true_and,AG,AF]at h
 simp [h] <;> omega
theorem MX (hn:Int) (ls:List Lnk) (l:List Snd):An Ez JE AZ [.agg [I hn,AS ls],Ay l]=some (Adb hn ls l):=AD jI (i:=(hn,ls,l)) trivial
def jJ:Prop:=∀(hn:Int) (ls:List Lnk) (l:List Snd) ,VC pk 83 (Ez (hn,ls,l)) (JE (hn,ls,l))
theorem jK:jJ:=by
 intro hn ls l
 dsimp only[Ez,JE]
 refine Bd AQ (l := []) (Au) [] []  Tryz.func83 rfl (by decide +kernel) (N:=6) rfl (by simp) rfl (by kernel_rfl) λhs=>?_
 simp only[AK,s8,ow,and_true,true_and]at hs
 simp only[↓bdD,bdP,seval,Ao,st0,Tryz.f83]
 simp [DRx,Adb,US,CX,UP,Ln,Aa,Ac,Fo,Eu]
theorem jL:AM pk e_changes.1 e_changes.2:=Ax λ⟨hn,ls,l⟩ h=>jK hn ls l
theorem jM {hn:Int} {ls:List Lnk} {l:List Snd} (ok:OKr hn ls l):SP pk 0 97 [] [.vptr [Ay l] 0,.vptr [I hn,AS ls] 0] (ysL ls l):=by
 refine Yk (l := []) Au [] [] 0 Tryz.func97 rfl (by decide +kernel) rfl (N:=46) rfl (by simp) (λy=>by kernel_rfl) λy H J E st0 hm h0 hstab hy=>?_
 have hlen:=ok.len
 have hyl:=YE (ls:=ls) (l:=l)
 obtain ⟨ob0,M0⟩:=st0
 simp only[↓bdD,bdP,seval,AO]
 refine Aw (hm:=hm) [5,8,9,10,11,12,13,14,15,16,17,18,19,20,21,22,23,24,25,26,27,28,29,30,31,32,33,34,35,36,37,38,39,40,41,42,43,44,45] l.length (λk ρ st'=>ρ 8=I k/\J (2*k) st'/\M0<=st'.next) (.refl _) ?_ ?_
 .simp only[↓bdD,bdP,Nat.reduceMul]
  exact h0
 .rintro k ρ ⟨ob,M⟩ hk ⟨h8,hJ,hMM⟩
  dsimp only at hMM
  by_cases hlt:k<l.length
  .have hw1:nm.wrap ((k:Int)+1)=((k+1:Nat):Int):=by rw[Af (by omega) (by omega)];omega
   have e1:=ok.link k hlt
   have hb:=ok.bytes k hlt
   have c1:=tQ (ls:=ls) (l:=l) (i:=2*k) (by omega)
   have c2:=tQ (ls:=ls) (l:=l) (i:=2*k+1) (by omega)
   rw [VM]at c1
   rw [ZO]at c2
   unfold AB at c1 c2
   generalize hx:l.getD k dS=x at *
   have hwn:nm.wrap (0-x.2.2) = -x.2.2:=by rw[Af (by omega) (by omega)];omega
   have h5:=Ey e1.1 e1.2
   have h6:=te e1.1
   generalize x.1.toNat=kk at *
   simp only[↓bdD,bdP,seval,kp,kd,A7,Cg,IA,s4,ty3,BP,AJ,AO,Ct,CS,OZ,h8,hlt,hx,h5,<-h6,hwn]
   have hJ':∀o o2,J (2*k) ⟨Ab (Ab ob M o) M o2,M+1⟩:=λo o2=>hstab _ _ _ hJ (by simp) (λx hx=>(Ss (by simp;exact Nat.ne_of_lt hx)).trans (Ss (by simp;exact Nat.ne_of_lt hx)))
   refine hy (2*k) _ _ _ c1 (hJ' _ _) (λst2 h2 hk2=>?_) (λst2 h2=>?_)
   .obtain ⟨ob2,M2⟩:=st2
    have hM:=hk2.2 M hMM (by simp) (λr=>by simp[Ab])
    have hM2:=hk2.1
    dsimp only at hM hM2
    rw [Ra]at hM
    simp only[↓bdD,bdP,seval,Cg,Pg,s4,ty3,BP,AJ,Ct,CS,OZ,hM,h8,h5]
    refine hy (2*k+1) _ _ _ c2 h2 (λst3 h3 hk3=>?_) (λst3 h3=>?_)
    .have hM3:=hk3.1
     dsimp only at hM3
     simp only[↓bdD,bdP,hw1]
     exact ⟨by rw[show 2*(k+1)=2*k+1+1 by omega];exact h3,by omega⟩
    .simp only[↓bdD,bdP]
     exact .inr h3
   .simp only[↓bdD,bdP,↓reduceIte]
    exact .inr h2
  .have e:k=l.length:=by omega
   subst e
   simp only[↓bdD,bdP,seval,h8,hyl]
   exact .inl hJ
theorem Pq {X:Cfg} {N:Nat} {Q:IExit->IState->Prop} {c:Code} {ks:List Kf} {A:Prop} (T:(Nat->PV)->Store->Prop) (h1:(∀ρ st,T ρ st->run X N Q c ks ⟨ρ,st⟩)->A) (h2:∀ρ st,T ρ st->run X N Q c ks ⟨ρ,st⟩):A:=h1 h2
def CO (d:Dem) (at_ tick:Int):Int:=if at_=d.1/\d.2.2.2.1<=tick then d.2.2.1 else 0
def CI (ls:List Lnk) (s:Snd) (at_ tick:Int):Int:=if s.2.1<tick then (if (AB ls s).2.1=at_ then s.2.2 else 0)-(if (AB ls s).1=at_ then s.2.2 else 0)else 0
def EW (ls:List Lnk) (l:List Snd) (at_ tick:Int):Nat->Int
 | 0=>0
 | k+1=>EW ls l at_ tick k+CI ls (l.getD k dS) at_ tick
def Ba (ls:List Lnk) (l:List Snd) (d:Dem) (at_ tick:Int):Int:=CO d at_ tick+EW ls l at_ tick l.length
def hyT (ls:List Lnk) (l:List Snd) (at_ tick:Int):Nat->Int
 | 0=>0
 | i+1=>hyT ls l at_ tick i+if (KG ls l i).1<tick/\(KG ls l i).2.1=at_ then (KG ls l i).2.2 else 0
theorem ZP {ls:List Lnk} {l:List Snd} {at_ tick:Int}:∀k,hyT ls l at_ tick (2*k)=EW ls l at_ tick k
 | 0=>rfl
 | k+1=>by
  show hyT ls l at_ tick (2*k+1+1)=_
  simp only[hyT,ZO,VM,EW,CI]
  rw [ZP k]
  by_cases h:(l.getD k dS).2.1<tick
  .simp only[h,true_and,if_true]
   split <;> split <;> omega
  .simp only[h,false_and,if_false]
   omega
theorem tR {hn:Int} {ls:List Lnk} {l:List Snd} (ok:OKr hn ls l) {k:Nat} (hk:k<l.length) (at_ tick:Int) : -1073741824<=CI ls (l.getD k dS) at_ tick/\CI ls (l.getD k dS) at_ tick<=1073741824:=by
 have := ok.bytes k hk
 unfold CI
 split
 .split <;> split <;> omega
 .omega
theorem VN {hn:Int} {ls:List Lnk} {l:List Snd} (ok:OKr hn ls l) (at_ tick:Int):∀k,k<=l.length -> -(1073741824*(k:Int))<=EW ls l at_ tick k/\EW ls l at_ tick k<=1073741824*(k:Int)
 | 0,_=>by simp[EW]
 | k+1,hk=>by
  have ih:=VN ok at_ tick k (by omega)
  have := tR ok (show k<l.length by omega) at_ tick
  simp only[EW]
  omega
theorem tS {hn:Int} {ls:List Lnk} {l:List Snd} (ok:OKr hn ls l) (at_ tick:Int):∀i,i<=2*l.length -> -(1073741824*(i:Int))<=hyT ls l at_ tick i/\hyT ls l at_ tick i<=1073741824*(i:Int)
 | 0,_=>by simp[hyT]
 | i+1,hi=>by
  have ih:=tS ok at_ tick i (by omega)
  have hb:=ok.bytes (i / 2) (by omega)
  simp only[hyT]
  split
  .unfold KG
   split <;> dsimp only <;> omega
  .omega
def YF (d:Dem):Prop:=0<=d.2.2.1/\d.2.2.1<=1099511627776
theorem VO {d:Dem} (h:YF d) (at_ tick:Int):0<=CO d at_ tick/\CO d at_ tick<=1099511627776:=by
 unfold YF at h
 unfold CO
 split <;> omega
def HO:Int×List Lnk×List Snd×Dem×Int×Int->List PV:=λ(hn,ls,l,d,at_,tick) => [.agg [I hn,AS ls],Ay l,D7 d,I at_,I tick]
def NZ:Int×List Lnk×List Snd×Dem×Int×Int->PV:=λ(hn,ls,l,d,at_,tick)=>I (Ba ls l d at_ tick)
def ZQ:Int×List Lnk×List Snd×Dem×Int×Int->Prop:=λ(hn,ls,l,d,at_,tick)=>OKr hn ls l/\YF d
def e_stock:Nat×Ent:=(56,.v (An HO NZ ZQ))
theorem Adc:∀i j,HO i=HO j->i=j:=by
 rintro ⟨_,_,_,_,_,_⟩ ⟨_,_,_,_,_,_⟩ h
 simp only[HO,ix,and_true,s6,qt,qr,true_and,AG,AF]at h
 simp [tn,h] <;> omega
theorem LG (hn:Int) (ls:List Lnk) (l:List Snd) (d:Dem) (at_:Int) (tick:Int):An HO NZ ZQ [.agg [I hn,AS ls],Ay l,D7 d,I at_,I tick]=@ite (Option (PV)) (OKr hn ls l/\YF d) (qo _) (some (I (Ba ls l d at_ tick))) none:=Bs Adc (hn,ls,l,d,at_,tick)
def Ade:Prop:=∀(hn:Int) (ls:List Lnk) (l:List Snd) (d:Dem) (at_:Int) (tick:Int) (h:OKr hn ls l/\YF d) ,VC pk 56 (HO (hn,ls,l,d,at_,tick)) (NZ (hn,ls,l,d,at_,tick))
theorem Adf:Ade:=by
 rintro hn ls l d at_ tick ⟨ok,hd⟩
 dsimp only[HO,NZ]
 refine X2 AQ (l := [e_changes]) ((Ad jL Au)) [] [] 0 1 Tryz.func56 rfl (by decide +kernel) (N:=45) rfl (by simp) rfl (by kernel_rfl) λhs=>?_
 simp only[AK,s8,ow,and_true,true_and]at hs
 have h0:=VO hd at_ tick
 have hlen:=ok.len
 generalize hr:Ba ls l d at_ tick=r
 have hr2:CO d at_ tick+hyT ls l at_ tick (2*l.length)=r:=by rw[<-hr,ZP];rfl
 have hle:=tS ok at_ tick
 obtain ⟨c,hc⟩:∃c,c=CO d at_ tick:=⟨_,rfl⟩
 have tail:∀(ρ:Nat->PV) (st:Store),True:=λ_ _=>trivial
 have hcases:(at_=d.1/\d.2.2.2.1<=tick/\c=d.2.2.1)\/(at_=d.1/\¬d.2.2.2.1<=tick/\c=0)\/(¬at_=d.1/\c=0):=by
  unfold CO at hc
  by_cases h1:at_=d.1
  .by_cases h2:d.2.2.2.1<=tick
   .rw [if_pos ⟨h1,h2⟩]at hc;exact .inl ⟨h1,h2,hc⟩
   .rw [if_neg (λh=>h2 h.2)]at hc;exact .inr (.inl ⟨h1,h2,hc⟩)
  .rw [if_neg (λh=>h1 h.1)]at hc;exact .inr (.inr ⟨h1,hc⟩)
 rw [<-hc]at hr2 h0
 refine Pq (X:=?X) (N:=?N) (Q:=?Q) (c:=?c) (ks:=?ks) (λρ st=>ρ 8=.vptr [I at_] 0/\ρ 9=.vptr [I tick] 0/\ρ 11=.ptr 0 0 0 0/\ρ 28=Adb hn ls l/\st.obj 0=some (.arr 0 1 [I c])/\st.next=1) ?h1 ?h2
 case h1 =>
  intro tail
  rcases hcases with ⟨g1,g2,g3⟩ | ⟨g1,g2,g3⟩ | ⟨g1,g3⟩
  .simp only[↓bdD,bdP,seval,kp,kd,e_changes,MX,Ac,Aa,tr,ty3,AJ,AO,AY,g1,g2]
   refine tail _ _ ?_
   simp only[↓bdD,bdP,r8,g1,g3]
  .simp only[↓bdD,bdP,seval,kp,kd,e_changes,MX,Ac,Aa,tr,ty3,AJ,AO,AY,g1,g2]
   refine tail _ _ ?_
   simp only[↓bdD,bdP,r8,g1,g3]
  .simp only[↓bdD,bdP,seval,kp,kd,e_changes,MX,Ac,Aa,tr,ty3,AJ,AO,AY,g1]
   refine tail _ _ ?_
   simp only[↓bdD,bdP,r8,g3]
 case h2 =>
  rintro ρ ⟨ob,M⟩ ⟨h8,h9,h11,h28,ho,hM⟩
  dsimp only at ho hM
  subst hM
  refine Yl (ys:=ysL ls l) (f:=97) (first := []) (captured := [.vptr [Ay l] 0,.vptr [I hn,AS ls] 0]) rfl rfl (A8 rfl) ?_ (jM ok) rfl ?_ (by kernel_rfl) (by kernel_rfl)
   (λi st'=>st'.obj 0=some (.arr 0 1 [I (c+hyT ls l at_ tick i)])/\0<st'.next) (λe st'=>False) ?_ ?_ ?_ ?_ ?_ ?_ ?_
  .simp only[↓bdD,bdP,h28]
  .intro y hy
   obtain ⟨x,_,rfl⟩:=List.mem_map.1 hy
   rfl
  .intro i
   exact Stays.obj (λ_=>by simp)
  .intro e
   exact Stays.const
  .exact ⟨by simp[hyT,ho],by simp⟩
  .rintro i y ⟨ob2,M2⟩ id lr hy hid hlp hbase ⟨a0,a1⟩
   obtain ⟨hi,rfl⟩:=Ajl hy
   dsimp only at hid hlp hbase a0 a1
   have hstep:hyT ls l at_ tick (i+1)=hyT ls l at_ tick i+if (KG ls l i).1<tick/\(KG ls l i).2.1=at_ then (KG ls l i).2.2 else 0:=rfl
   have hl1:=hle i (by omega)
   have hl2:=hle (i+1) (by omega)
   rw [hstep]at hl2 ⊢
   generalize KG ls l i=x at *
   have d0:¬id=0:=by omega
   have d3:¬id=M2:=by omega
   have e0:¬0=M2:=by omega
   have f0:¬0=id:=by omega
   have f3:¬M2=id:=by omega
   have hkeep2:∀(o1 o2 o3 o4:IObj),Keep 1 ⟨ob2,M2⟩ ⟨Ab (Ab (Ab (Ab ob2 M2 (some o1)) M2 (some o2)) id (some o3)) 0 (some o4),M2+1⟩:=λo1 o2 o3 o4=>⟨by simp,λx h1 h2 h3=>by
    dsimp only at h2 h3 ⊢
    have n1:x≠M2:=by omega
    have n2:x≠id:=λe=>h3 lr (by rw[e];exact hlp)
    have n3:x≠0:=by omega
    simp [Ab,n1,n2,n3]⟩
   have hkeep:∀(o1 o2 o3:IObj),Keep 1 ⟨ob2,M2⟩ ⟨Ab (Ab (Ab ob2 M2 (some o1)) M2 (some o2)) id (some o3),M2+1⟩:=λo1 o2 o3=>⟨by simp,λx h1 h2 h3=>by
    dsimp only at h2 h3 ⊢
    have n1:x≠M2:=by omega
    have n2:x≠id:=λe=>h3 lr (by rw[e];exact hlp)
    simp [Ab,n1,n2]⟩
   by_cases c1:x.1<tick
   .by_cases c2:x.2.1=at_
    .rw [if_pos ⟨c1,c2⟩]at hl2 ⊢
     have hw:nm.wrap (c+hyT ls l at_ tick i+x.2.2)=c+(hyT ls l at_ tick i+x.2.2):=by rw[Af (by omega) (by omega)];omega
     simp only[↓bdD,bdP,seval,kp,kd,s4,ty3,OZ,hlp,h8,h9,h11,a0,d0,d3,e0,f0,f3,GL,CM,c1,c2,hw]
     exact λrb=>⟨by omega,by omega,hkeep2 _ _ _ _⟩
    .rw [if_neg (λh=>c2 h.2),th]at hl2 ⊢
     simp only[↓bdD,bdP,seval,kp,kd,s4,ty3,OZ,hlp,h8,h9,a0,d3,e0,f0,f3,GL,CM,c1,c2]
     exact λrb=>⟨by omega,by omega,hkeep _ _ _⟩
   .rw [if_neg (λh=>c1 h.1),th]at hl2 ⊢
    simp only[↓bdD,bdP,seval,kp,kd,ty3,OZ,hlp,h9,a0,d3,e0,f0,GL,CM,c1]
    exact λrb=>⟨by omega,by omega,hkeep _ _ _⟩
  .rintro ⟨ob2,M2⟩ ⟨a0,a1⟩
   dsimp only at a0 a1
   rw [YE,hr2]at a0
   simp only[↓bdD,bdP,seval,Ao,ty3,h11,a0]
  .rintro i ⟨ob2,M2⟩ h
   exact h.elim
  .rintro ⟨ob2,M2⟩ h
   exact h.elim
theorem ZR:AM pk e_stock.1 e_stock.2:=Ax λ⟨hn,ls,l,d,at_,tick⟩ h=>Adf hn ls l d at_ tick h
def EA (hn:Int) (ls:List Lnk) (l:List Snd) (d:Dem) (at_ tick:Int):Int×Int :=
 if Bf hn ls l≠0 then (0,Bf hn ls l)else if Ed hn d=false\/hOK hn at_=false\/tick<0\/1000000<tick then (0,1)else (Ba ls l d at_ tick,0)
theorem YG {hn:Int} {d:Dem} (h:Ed hn d=true):YF d:=by
 simp only[Ed,Bool.and_eq_true,decide_eq_true_eq]at h
 obtain ⟨_,h⟩:=h
 unfold IG at h
 exact ⟨by omega,h.2.1⟩
def GF:Int×List Lnk×List Snd×Dem×Int×Int->List PV:=λ(hn,ls,l,d,at_,tick) => [.agg [I hn,AS ls],Ay l,D7 d,I at_,I tick]
def LH:Int×List Lnk×List Snd×Dem×Int×Int->PV:=λ(hn,ls,l,d,at_,tick)=>.tuple [I (EA hn ls l d at_ tick).1,I (EA hn ls l d at_ tick).2]
def e_Stock:Nat×Ent:=(64,.v (An GF LH AZ))
theorem Adg:∀i j,GF i=GF j->i=j:=by
 rintro ⟨_,_,_,_,_,_⟩ ⟨_,_,_,_,_,_⟩ h
 simp only[GF,ix,and_true,s6,qt,qr,true_and,AG,AF]at h
 simp [tn,h] <;> omega
theorem Tf (hn:Int) (ls:List Lnk) (l:List Snd) (d:Dem) (at_:Int) (tick:Int):An GF LH AZ [.agg [I hn,AS ls],Ay l,D7 d,I at_,I tick]=some (.tuple [I (EA hn ls l d at_ tick).1,I (EA hn ls l d at_ tick).2]):=AD Adg (i:=(hn,ls,l,d,at_,tick)) trivial
def Adh:Prop:=∀(hn:Int) (ls:List Lnk) (l:List Snd) (d:Dem) (at_:Int) (tick:Int) ,VC pk 64 (GF (hn,ls,l,d,at_,tick)) (LH (hn,ls,l,d,at_,tick))
theorem Adi:Adh:=by
 intro hn ls l d at_ tick
 dsimp only[GF,LH]
 refine Bd AQ (l := [e_right,e_demanded,e_stock]) ((Ad JC (Ad Pp (Ad ZR Au)))) [] []  Tryz.func64 rfl (by decide +kernel) (N:=47) rfl (by simp) rfl (by kernel_rfl) λhs=>?_
 simp only[AK,s8,ow,and_true,true_and]at hs
 by_cases h:Bf hn ls l=0
 case neg =>
  rw [show EA hn ls l d at_ tick=(0,Bf hn ls l) by simp[EA,h]]
  generalize hr:Bf hn ls l=r at *
  simp only[↓bdD,bdP,tu,r8,Ao,tv,st0,↓reduceIte,e_right,BA,e_demanded,e_stock,Ac,Aa,tw,AJ,AO,h,hr]
 have ok:=right_zero.1 h
 have hM:EA hn ls l d at_ tick=if Ed hn d=false\/hOK hn at_=false\/tick<0\/1000000<tick then (0,1)else (Ba ls l d at_ tick,0):=by simp[EA,h]
 rw [hM]
 clear hM
 cases hd:Ed hn d
 .simp only[↓bdD,bdP,tu,r8,Ao,tx,tv,st0,↓reduceIte,e_right,BA,e_demanded,CY,e_stock,Ac,Aa,tw,AJ,AO,AY,true_or,h,hd]
 have hdb:=YG hd
 by_cases h1:at_<0
 .have : hOK hn at_=false:=decide_eq_false (by omega)
  simp only[↓bdD,bdP,tu,r8,Ao,tx,tv,st0,↓reduceIte,e_right,BA,e_demanded,CY,e_stock,Ac,Aa,tw,AJ,AO,AY,true_or,h,hd,h1,this]
 by_cases h2:hn<=at_
 .have : hOK hn at_=false:=decide_eq_false (by omega)
  simp only[↓bdD,bdP,tu,r8,Ao,tx,tv,st0,↓reduceIte,e_right,BA,e_demanded,CY,e_stock,Ac,Aa,tw,ty3,AJ,AO,AY,true_or,h,hd,h1,h2,this]
 have hk:hOK hn at_=true:=decide_eq_true (by omega)
 by_cases h3:tick<0
 .simp only[↓bdD,bdP,tu,r8,Ao,tx,tv,st0,↓reduceIte,e_right,BA,e_demanded,CY,e_stock,Ac,Aa,tw,ty3,AJ,AO,AY,true_or,h,hd,h1,h2,h3,hk]
 by_cases h4:1000000<tick
 .simp only[↓bdD,bdP,tu,r8,Ao,tx,tv,st0,↓reduceIte,e_right,BA,e_demanded,CY,e_stock,Ac,Aa,tw,ty3,AJ,AO,AY,h,hd,h1,h2,h3,h4,hk]
 simp only[↓bdD,bdP,tu,r8,Ao,tx,tv,st0,↓reduceIte,e_right,BA,e_demanded,CY,e_stock,LG,Ac,Aa,tw,ty3,AJ,AO,AY,h,hd,h1,h2,h3,h4,hk,ok,hdb]
theorem ZS:AM pk e_Stock.1 e_Stock.2:=Ax λ⟨hn,ls,l,d,at_,tick⟩ h=>Adi hn ls l d at_ tick
def frM (ls:List Lnk) (l:List Snd) (k:Nat):Int:=(AB ls (l.getD k dS)).1
def Dz (ls:List Lnk) (l:List Snd) (t f:Int):Nat->Int
 | 0=>0
 | n+1=>Dz ls l t f n+if (l.getD n dS).2.1=t/\frM ls l n=f then (l.getD n dS).2.2 else 0
def svP (ls:List Lnk) (l:List Snd) (d:Dem):Nat->Bool
 | 0=>false
 | k+1=>svP ls l d k||decide (Ba ls l d (frM ls l k) (l.getD k dS).2.1<Dz ls l (l.getD k dS).2.1 (frM ls l k) (k+1))
def svR (ls:List Lnk) (l:List Snd) (d:Dem):Nat->Bool
 | 0=>false
 | k+1=>svR ls l d k||decide (Ba ls l d (frM ls l k) (l.getD k dS).2.1<Dz ls l (l.getD k dS).2.1 (frM ls l k) l.length)
theorem Tg {ls:List Lnk} {l:List Snd} {d:Dem}:∀ {n},svP ls l d n=true↔∃k,k<n/\Ba ls l d (frM ls l k) (l.getD k dS).2.1<Dz ls l (l.getD k dS).2.1 (frM ls l k) (k+1)
 | 0=>⟨λh=>(by cases h),λ⟨k,h,_⟩=>absurd h (by omega)⟩
 | n+1=>by
  simp only[svP,kx,decide_eq_true_eq,Tg (n:=n)]
  constructor
  .rintro (⟨k,h,g⟩ | h)
   .exact ⟨k,by omega,g⟩
   .exact ⟨n,by omega,h⟩
  .rintro ⟨k,h,g⟩
   by_cases e:k=n
   .subst e;exact .inr g
   .exact .inl ⟨k,by omega,g⟩
theorem svR_iff {ls:List Lnk} {l:List Snd} {d:Dem}:∀ {n},svR ls l d n=true↔∃k,k<n/\Ba ls l d (frM ls l k) (l.getD k dS).2.1<Dz ls l (l.getD k dS).2.1 (frM ls l k) l.length
 | 0=>⟨λh=>(by cases h),λ⟨k,h,_⟩=>absurd h (by omega)⟩
 | n+1=>by
  simp only[svR,kx,decide_eq_true_eq,svR_iff (n:=n)]
  constructor
  .rintro (⟨k,h,g⟩ | h)
   .exact ⟨k,by omega,g⟩
   .exact ⟨n,by omega,h⟩
  .rintro ⟨k,h,g⟩
   by_cases e:k=n
   .subst e;exact .inr g
   .exact .inl ⟨k,by omega,g⟩
theorem Rs {hn:Int} {ls:List Lnk} {l:List Snd} (ok:OKr hn ls l) (t f:Int) {m:Nat}:∀ {n},m<=n->n<=l.length->Dz ls l t f m<=Dz ls l t f n
 | 0,h,_=>by rw[show m=0 by omega];exact pj _
 | n+1,h,hl=>by
  by_cases e:m=n+1
  .rw [e];exact pj _
  .have ih:=Rs ok t f (m:=m) (n:=n) (by omega) (by omega)
   have := ok.bytes n (by omega)
   simp only[Dz]
   split <;> omega
theorem ZT {hn:Int} {ls:List Lnk} {l:List Snd} (ok:OKr hn ls l) (t f:Int):∀n,n<=l.length->0<=Dz ls l t f n/\Dz ls l t f n<=1073741824*(n:Int)
 | 0,_=>by simp[Dz]
 | n+1,h=>by
  have ih:=ZT ok t f n (by omega)
  have := ok.bytes n (by omega)
  simp only[Dz]
  split <;> omega
theorem Rt {ls:List Lnk} {l:List Snd} {k:Nat}:∀n,k<n->∃j,j<n/\(l.getD j dS).2.1=(l.getD k dS).2.1/\frM ls l j=frM ls l k/\Dz ls l (l.getD k dS).2.1 (frM ls l k) (j+1)=Dz ls l (l.getD k dS).2.1 (frM ls l k) n
 | 0,h=>absurd h (by omega)
 | n+1,h=>by
  by_cases hm:(l.getD n dS).2.1=(l.getD k dS).2.1/\frM ls l n=frM ls l k
  .exact ⟨n,by omega,hm.1,hm.2,rfl⟩
  .have hk:k≠n:=λe=>hm (by rw[e];exact⟨rfl,rfl⟩)
   obtain ⟨j,h1,h2,h3,h4⟩:=Rt (ls:=ls) (l:=l) (k:=k) n (by omega)
   refine ⟨j,by omega,h2,h3,?_⟩
   rw [h4]
   simp only[Dz]
   rw [if_neg hm,th]
theorem Ajm {hn:Int} {ls:List Lnk} {l:List Snd} {d:Dem} (ok:OKr hn ls l):svP ls l d l.length=svR ls l d l.length:=by
 rw [Bool.eq_iff_iff,Tg,svR_iff]
 constructor
 .rintro ⟨k,h,g⟩
  have := Rs ok (l.getD k dS).2.1 (frM ls l k) (m:=k+1) (n:=l.length) (by omega) (by omega)
  exact ⟨k,h,by omega⟩
 .rintro ⟨k,h,g⟩
  obtain ⟨j,h1,h2,h3,h4⟩:=Rt (ls:=ls) (l:=l) (k:=k) l.length h
  exact ⟨j,h1,by rw[h2,h3,h4];exact g⟩
def Cz (hn:Int) (ls:List Lnk) (l:List Snd) (d:Dem):Int :=
 if Bf hn ls l≠0 then Bf hn ls l else if Ed hn d=false then 1 else if Cy hn ls l≠0 then Cy hn ls l
 else if svR ls l d l.length=true then 4 else if Ba ls l d d.2.1 d.2.2.2.2<d.2.2.1 then 21 else 0
theorem Agr {k:Nat} {n:Nat} (h:k<n) (hn:n<=2000):nm.wrap ((k:Int)+1)=((k+1:Nat):Int):=by rw[Af (by omega) (by omega)];omega
def FW:Int×List Lnk×List Snd×Dem->List PV:=λ(hn,ls,l,d) => [.agg [I hn,AS ls],Ay l,D7 d]
def LI:Int×List Lnk×List Snd×Dem->PV:=λ(hn,ls,l,d)=>I (Cz hn ls l d)
def e_serves:Nat×Ent:=(30,.v (An FW LI AZ))
theorem tT:∀i j,FW i=FW j->i=j:=by
 rintro ⟨_,_,_,_⟩ ⟨_,_,_,_⟩ h
 simp only[FW,ix,and_true,s6,qt,qr,true_and,AG,AF]at h
 simp [tn,h] <;> omega
theorem tU (hn:Int) (ls:List Lnk) (l:List Snd) (d:Dem):An FW LI AZ [.agg [I hn,AS ls],Ay l,D7 d]=some (I (Cz hn ls l d)):=AD tT (i:=(hn,ls,l,d)) trivial
def tV:Prop:=∀(hn:Int) (ls:List Lnk) (l:List Snd) (d:Dem) ,VC pk 30 (FW (hn,ls,l,d)) (LI (hn,ls,l,d))
theorem tW:tV:=by
 intro hn ls l d
 dsimp only[FW,LI]
 refine Bd AQ (l := [e_right,e_demanded,e_fits,e_stock]) ((Ad JC (Ad Pp (Ad tJ (Ad ZR Au))))) [92] []  Tryz.func30 rfl (by decide +kernel) (N:=96) rfl (by simp) rfl (by kernel_rfl) λhs=>?_
 simp only[AK,s8,ow,and_true,true_and]at hs
 by_cases h:Bf hn ls l=0
 case neg =>
  rw [show Cz hn ls l d=Bf hn ls l by simp[Cz,h]]
  generalize hr:Bf hn ls l=r at *
  simp only[↓bdD,bdP,tu,r8,Ao,tv,st0,↓reduceIte,e_right,BA,e_demanded,e_fits,e_stock,Ac,Aa,t8,AJ,AO,h,hr]
 have ok:=right_zero.1 h
 have hlen:=ok.len
 cases hd:Ed hn d
 .rw [show Cz hn ls l d=1 by simp[Cz,h,hd]]
  simp only[↓bdD,bdP,tu,r8,Ao,tx,tv,st0,↓reduceIte,e_right,BA,e_demanded,CY,e_fits,e_stock,Ac,Aa,t8,AJ,AO,AY,h,hd]
 have hdb:=YG hd
 by_cases hf:Cy hn ls l=0
 case neg =>
  rw [show Cz hn ls l d=Cy hn ls l by simp[Cz,h,hd,hf]]
  generalize hr:Cy hn ls l=r at *
  simp only[↓bdD,bdP,tu,r8,Ao,tx,tv,st0,↓reduceIte,e_right,BA,e_demanded,CY,e_fits,MW,e_stock,Ac,Aa,t8,AJ,AO,AY,h,hd,hf,hr]
 have hM:Cz hn ls l d=if svP ls l d l.length=true then 4 else if Ba ls l d d.2.1 d.2.2.2.2<d.2.2.1 then 21 else 0:=by simp[Cz,h,hd,hf,Ajm ok]
 rw [hM]
 clear hM
 generalize hr:(if svP ls l d l.length=true then (4:Int)else if Ba ls l d d.2.1 d.2.2.2.2<d.2.2.1 then 21 else 0)=r
 simp only[↓bdD,bdP,tu,r8,tx,tv,st0,↓reduceIte,e_right,BA,e_demanded,CY,e_fits,MW,e_stock,Ac,Aa,t8,AJ,AO,AY,h,hd,hf]
 refine Aw [6,9,10,11,12,14,33,34,35,36,37,38,39,40,41,42,43,44,45,46,47,48,49,50,51,52,53,54,55,56,57,58,59,60,61,62,63,64,65,66,67,68,69,70,71,72,73,74,75,76,77,78,79,80,81,82,83,84] l.length (λk ρ st'=>ρ 33=I k/\svP ls l d k=false) (.refl _) ?_ ?_
 .simp only[↓bdD,bdP,svP]
 .rintro k ρ ⟨ob,M⟩ hk ⟨h33,hz⟩
  by_cases hlt:k<l.length
  .have hw1:=Agr hlt hlen
   have e1:=ok.link k hlt
   have hs:svP ls l d (k+1)=decide (Ba ls l d (frM ls l k) (l.getD k dS).2.1<Dz ls l (l.getD k dS).2.1 (frM ls l k) (k+1)):=by simp only[svP,hz,tc]
   have hle:=ZT ok (l.getD k dS).2.1 (frM ls l k)
   have htk:sy (k+1-0) (l.map Ca)=(l.take (k+1)).map Ca:=List.map_take.symm
   have htl:(l.take (k+1)).length=k+1:=by simp;omega
   have htg:∀i,i<k+1->(l.take (k+1)).getD i dS=l.getD i dS:=λi hi=>by simp[hi]
   have hk1:((k+1:Nat):Int)<=(l.length:Int):=by omega
   have hfr:frM ls l k=(ls.getD (l.getD k dS).1.toNat dL).1:=rfl
   generalize hf:frM ls l k=f at *
   generalize hx:l.getD k dS=x at *
   have h5:=Ey e1.1 e1.2
   have h6:=te e1.1
   generalize x.1.toNat=kk at *
   have nM:¬M=M+1:=by omega
   simp only[↓bdD,bdP,tu,r8,tv,Int.reduceToNat,kp,kd,↓reduceIte,A7,Cg,IA,ty3,BP,AJ,AO,Ct,CS,h33,hlt,hx,h5,<-h6,hw1,htk,htl,hk1,<-hfr]
   refine Aw [12,14,50,51,52,53,54,55,56,57,58,59,60,61,62,63,64,65,66,67,68,69,70,71,72,73,74] (k+1) (λi ρ st'=>ρ 50=I i/\ρ 12=I (Dz ls l x.2.1 f i)/\st'.obj M=some (.arr 0 3 [.agg [I kk,I x.2.1,I x.2.2]])/\M<st'.next) (.refl _) ?_ ?_
   .simp only[↓bdD,bdP,r8,Dz]
   .rintro i ρ2 ⟨ob2,M2⟩ hi ⟨h50,h12,hob,hMM⟩
    dsimp only at hob hMM
    have q1:¬M=M2:=by omega
    by_cases hilt:i<k+1
    .have hw2:nm.wrap ((i:Int)+1)=((i+1:Nat):Int):=Agr hilt (by omega)
     have hil:i<l.length:=by omega
     have e2:=ok.link i hil
     have b2:=ok.bytes i hil
     have hst:Dz ls l x.2.1 f (i+1)=Dz ls l x.2.1 f i+if (l.getD i dS).2.1=x.2.1/\frM ls l i=f then (l.getD i dS).2.2 else 0:=rfl
     have hl2:=hle i (by omega)
     have hg:=htg i hilt
     have hfi:frM ls l i=(ls.getD (l.getD i dS).1.toNat dL).1:=rfl
     rw [hfi]at hst
     generalize hy:l.getD i dS=y at *
     have h52:=Ey e2.1 e2.2
     have h62:=te e2.1
     generalize y.1.toNat=jj at *
     by_cases c1:y.2.1=x.2.1
     .by_cases c2:(ls.getD jj dL).1=f
      .rw [if_pos ⟨c1,c2⟩]at hst
       have hw3:nm.wrap (Dz ls l x.2.1 f i+y.2.2)=Dz ls l x.2.1 f (i+1):=by rw[hst,Af (by omega) (by omega)]
       simp only[↓bdD,bdP,tu,r8,tv,kp,kd,↓reduceIte,A7,Cg,IA,ty3,BP,AJ,AO,Ct,CS,h50,h12,hob,q1,hilt,htl,hg,h52,<-h62,c1,c2,hw2,hw3]
       omega
      .rw [if_neg (λh=>c2 h.2),th]at hst
       rw [hst]
       simp only[↓bdD,bdP,tu,r8,tv,kp,kd,↓reduceIte,A7,Cg,IA,ty3,BP,AJ,AO,Ct,CS,h50,h12,hob,q1,hilt,htl,hg,h52,<-h62,c1,c2,hw2]
       omega
     .rw [if_neg (λh=>c1 h.1),th]at hst
      rw [hst]
      simp only[↓bdD,bdP,tu,r8,tv,kp,kd,↓reduceIte,A7,ty3,AO,Ct,h50,h12,hob,q1,hilt,htl,hg,c1,hw2]
      omega
    .have e:i=k+1:=by omega
     subst e
     by_cases hb:Ba ls l d f x.2.1<Dz ls l x.2.1 f (k+1)
     .rw [decide_eq_true hb]at hs
      have hend:svP ls l d l.length=true:=by
       rw [Tg]at hs ⊢
       obtain ⟨j,j1,j2⟩:=hs
       exact ⟨j,by omega,j2⟩
      rw [if_pos hend]at hr
      subst hr
      simp only[↓bdD,bdP,tu,r8,Ao,tx,tv,↓reduceIte,LG,Ac,Aa,ty3,AJ,AO,AY,Ct,h50,h12,hob,ok,hdb,hb]
     .rw [decide_eq_false hb]at hs
      simp only[↓bdD,bdP,tu,r8,tx,tv,↓reduceIte,LG,Ac,Aa,ty3,AJ,AO,AY,Ct,h50,h12,hob,ok,hdb,hb,hs,hw1,h33]
      rw [AL (by decide +kernel)];simp only[↓bdD,bdP,r8]
  .have e:k=l.length:=by omega
   subst e
   rw [hz,if_neg (by simp)]at hr
   by_cases hb:Ba ls l d d.2.1 d.2.2.2.2<d.2.2.1
   .rw [if_pos hb]at hr
    subst hr
    simp only[↓bdD,bdP,tu,r8,Ao,tx,tv,↓reduceIte,LG,Ac,Aa,ty3,AJ,AO,AY,h33,ok,hdb,hb]
   .rw [if_neg hb]at hr
    subst hr
    simp only[↓bdD,bdP,tu,r8,Ao,tx,tv,↓reduceIte,LG,Ac,Aa,ty3,AJ,AO,AY,h33,ok,hdb,hb]
theorem tX:AM pk e_serves.1 e_serves.2:=Ax λ⟨hn,ls,l,d⟩ h=>tW hn ls l d
end Sim
