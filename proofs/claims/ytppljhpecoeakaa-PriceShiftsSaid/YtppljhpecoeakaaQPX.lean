/- What functions of this seat compute, by values: contracts (lemmas of the statement's proof, under the conditions that each names). -/
import Derived.Test.YtppljhpecoeakaaQF10
set_option linter.unusedVariables false
set_option linter.unusedSimpArgs false
namespace Sim
namespace TN
section
variable {T:TN} {D a c:Nat} {b:Int} {g:Nat→Nat→Int} {y:Nat→Nat→Int}
theorem Ty {f:Nat→Int} {t:Nat} (hf:∀k,k<T.L→T.fr k<T.h):Aj (fun x=>f x*T.outF g x t) T.h=Aj (fun k=>f (T.fr k)*g k t) T.L:=by
 have e1:Aj (fun x=>f x*T.outF g x t) T.h=Aj (fun x=>Aj (fun k=>if T.fr k=x then f (T.fr k)*g k t else 0) T.L) T.h:=by
  refine Af fun x _=>?_
  unfold outF
  rw [←Hs]
  refine Af fun k _=>?_
  by_cases e:T.fr k=x
  ·rw [if_pos e,if_pos e,e]
  ·rw [if_neg e,if_neg e,Int.mul_zero]
 rw [e1,DE]
 exact Af fun k hk=>by rw[B7,if_pos (hf k hk)]
theorem Xz {f:Nat→Int} {t:Nat} (hf:∀k,k<T.L→T.to k<T.h):Aj (fun x=>f x*T.inF g x t) T.h=Aj (fun k=>f (T.to k)*g k t) T.L:=by
 have e1:Aj (fun x=>f x*T.inF g x t) T.h=Aj (fun x=>Aj (fun k=>if T.to k=x then f (T.to k)*g k t else 0) T.L) T.h:=by
  refine Af fun x _=>?_
  unfold inF
  rw [←Hs]
  refine Af fun k _=>?_
  by_cases e:T.to k=x
  ·rw [if_pos e,if_pos e,e]
  ·rw [if_neg e,if_neg e,Int.mul_zero]
 rw [e1,DE]
 exact Af fun k hk=>by rw[B7,if_pos (hf k hk)]
theorem MS (hfr:∀k,k<T.L→T.fr k<T.h) (hto:∀k,k<T.L→T.to k<T.h) (ha:a<T.h):∀t,Aj (fun x=>T.stk a b g t x) T.h=b
 | 0=>by
  show Aj (fun x=>if a=x then b else 0) T.h=b
  rw [B7,if_pos ha]
 | t+1=>by
  have ih:=MS hfr hto ha t
  have e:Aj (fun x=>T.stk a b g (t+1) x) T.h=Aj (fun x=>(T.stk a b g t x-T.outF g x t)+T.inF g x t) T.h:=rfl
  have o:=Ty (g:=g) (f:=fun _=>1) (t:=t) hfr
  have i:=Xz (g:=g) (f:=fun _=>1) (t:=t) hto
  simp only[Int.one_mul]at o i
  rw [e,BK,B0,ih,o,i];omega
theorem J5 (P:T.Plan D a c b g) {t x:Nat} (ht:t<D):0≤T.outF g x t:=Bp fun k hk=>by
 split
 ·exact P.nn k t hk ht
 ·exact Int.le_refl _
theorem XA (P:T.Plan D a c b g) {t x:Nat} (ht:t<D) (hx:x<T.h):0≤T.stk a b g t x:=by
 have := P.st t x ht hx
 have := J5 P (x:=x) ht
 omega
theorem xW (P:T.Plan D a c b g) (hfr:∀k,k<T.L→T.fr k<T.h) (hto:∀k,k<T.L→T.to k<T.h) (ha:a<T.h) {k t:Nat} (hk:k<T.L) (ht:t<D):g k t≤b:=by
 have h1:g k t≤T.outF g (T.fr k) t:=by
  have := Fw (f:=fun j=>if T.fr j=T.fr k then g j t else 0) (k:=k) (n:=T.L) (fun i hi=>by
   split
   ·exact P.nn i t hi ht
   ·exact Int.le_refl _) hk
  rw [if_pos rfl]at this
  exact this
 have h2:=P.st t (T.fr k) ht (hfr k hk)
 have h3:=Fw (f:=fun x=>T.stk a b g t x) (k:=T.fr k) (n:=T.h) (fun x hx=>XA P ht hx) (hfr k hk)
 rw [MS hfr hto ha]at h3
 omega
def pot (T:TN) (a:Nat) (b:Int) (g:Nat→Nat→Int) (y:Nat→Nat→Int) (t:Nat):Int:=Aj (fun x=>y t x*T.stk a b g t x) T.h
def exc (T:TN) (y:Nat→Nat→Int) (t k:Nat):Int:=max 0 (y (t+1) (T.to k)-y t (T.fr k)-T.pr k t)
def bnd (T:TN) (D a c:Nat) (b:Int) (y:Nat→Nat→Int):Int:=b*(y D c-y 0 a)-Aj (fun t=>Aj (fun k=>min b (T.lf k t)*T.exc y t k) T.L) D
end
end TN
end Sim
namespace Sim
namespace TN
section
variable {T:TN} {D a c:Nat} {b:Int} {g:Nat→Nat→Int} {y:Nat→Nat→Int}
structure Tight (T:TN) (D a:Nat) (b:Int) (g:Nat→Nat→Int) (y:Nat→Nat→Int):Prop where
 up : ∀t k,t<D→k<T.L→g k t<T.lf k t→y (t+1) (T.to k)≤y t (T.fr k)+T.pr k t
 dn : ∀t k,t<D→k<T.L→0<g k t→y t (T.fr k)+T.pr k t≤y (t+1) (T.to k)
 mono : ∀t x,t<D→x<T.h→y (t+1) x≤y t x
 stay : ∀t x,t<D→x<T.h→0<T.stk a b g t x-T.outF g x t→y t x≤y (t+1) x
theorem Adz (P:T.Plan D a c b g) (hfr:∀k,k<T.L→T.fr k<T.h) (hto:∀k,k<T.L→T.to k<T.h) (H:T.Tight D a b g y) {t:Nat} (ht:t<D) :
  T.pot a b g y (t+1)=T.pot a b g y t+Aj (fun k=>(y (t+1) (T.to k)-y t (T.fr k))*g k t) T.L:=by
 have e1:T.pot a b g y (t+1)=Aj (fun x=>y (t+1) x*(T.stk a b g t x-T.outF g x t)+y (t+1) x*T.inF g x t) T.h:=by
  refine Af fun x _=>?_
  rw [TN.stk,Int.mul_add]
 have e2:Aj (fun x=>y (t+1) x*(T.stk a b g t x-T.outF g x t)) T.h=Aj (fun x=>y t x*T.stk a b g t x-y t x*T.outF g x t) T.h:=by
  refine Af fun x hx=>?_
  rw [←Int.mul_sub]
  have h0:=P.st t x ht hx
  by_cases c0:0<T.stk a b g t x-T.outF g x t
  ·have h1:=H.stay t x ht hx c0
   have h2:=H.mono t x ht hx
   rw [show y (t+1) x=y t x by omega]
  ·rw [show T.stk a b g t x-T.outF g x t=0 by omega,Int.mul_zero,Int.mul_zero]
 have e3:Aj (fun k=>(y (t+1) (T.to k)-y t (T.fr k))*g k t) T.L=Aj (fun k=>y (t+1) (T.to k)*g k t) T.L-Aj (fun k=>y t (T.fr k)*g k t) T.L:=by
  rw [←B0]
  exact Af fun k _=>Int.sub_mul _ _ _
 rw [B0,Ty hfr]at e2
 rw [e1,BK,Xz hto,e3]
 have e4:T.pot a b g y t=Aj (fun x=>y t x*T.stk a b g t x) T.h:=rfl
 omega
theorem Tz (P:T.Plan D a c b g) (hfr:∀k,k<T.L→T.fr k<T.h) (hto:∀k,k<T.L→T.to k<T.h) (H:T.Tight D a b g y):∀t,t≤D →
  T.pot a b g y t=T.pot a b g y 0+Aj (fun s=>Aj (fun k=>(y (s+1) (T.to k)-y s (T.fr k))*g k s) T.L) t
 | 0,_=>by rw[Aj];omega
 | t+1,ht=>by
  have ih:=Tz P hfr hto H t (by omega)
  have h:=Adz P hfr hto H (t:=t) (by omega)
  rw [Aj]
  omega
theorem Ad0 (P:T.Plan D a c b g) (hfr:∀k,k<T.L→T.fr k<T.h) (hto:∀k,k<T.L→T.to k<T.h) (ha:a<T.h) (hb:0≤b) (H:T.Tight D a b g y) {k t:Nat} (hk:k<T.L) (ht:t<D) :
  (y (t+1) (T.to k)-y t (T.fr k))*g k t=T.pr k t*g k t+min b (T.lf k t)*T.exc y t k:=by
 have h0:=P.nn k t hk ht
 have h1:=P.le k t hk ht
 have h2:=xW P hfr hto ha hk ht
 have hu:=H.up t k ht hk
 have hd:=H.dn t k ht hk
 have ex:T.exc y t k=max 0 (y (t+1) (T.to k)-y t (T.fr k)-T.pr k t):=rfl
 generalize y (t+1) (T.to k)=p at *
 generalize y t (T.fr k)=q at *
 generalize T.pr k t=r at *
 generalize T.exc y t k=e at *
 generalize T.lf k t=l at *
 generalize g k t=f at *
 by_cases c1:f<l
 ·have hu:=hu c1
  have e0:e=0:=by omega
  rw [e0,Int.mul_zero,Int.add_zero]
  by_cases c2:0<f
  ·have := hd c2
   rw [show p-q=r by omega]
  ·rw [show f=0 by omega,Int.mul_zero,Int.mul_zero]
 ·have c1:f=l:=by omega
  rw [show min b l=f by omega]
  by_cases c2:0<f
  ·have := hd c2
   rw [show e=p-q-r by omega,Int.mul_comm f,←Int.add_mul]
   congr 1
   omega
  ·rw [show f=0 by omega,Int.mul_zero,Int.mul_zero,Int.zero_mul];rfl
theorem bnd_eq (P:T.Plan D a c b g) (hfr:∀k,k<T.L→T.fr k<T.h) (hto:∀k,k<T.L→T.to k<T.h) (ha:a<T.h) (hc:c<T.h) (hb:0≤b) (H:T.Tight D a b g y):T.bnd D a c b y=T.cst D g:=by
 have h:=Tz P hfr hto H D (Nat.le_refl _)
 have p0:T.pot a b g y 0=y 0 a*b:=by
  have : T.pot a b g y 0=Aj (fun x=>if a=x then y 0 a*b else 0) T.h:=Af fun x _=>by
   show y 0 x*(if a=x then b else 0)=_
   by_cases e:a=x
   ·rw [if_pos e,if_pos e,e]
   ·rw [if_neg e,if_neg e,Int.mul_zero]
  rw [this,B7,if_pos ha]
 have pD:T.pot a b g y D=y D c*b:=by
  have : T.pot a b g y D=Aj (fun x=>if c=x then y D c*b else 0) T.h:=Af fun x hx=>by
   show y D x*T.stk a b g D x=_
   rw [P.en x hx]
   by_cases e:c=x
   ·rw [if_pos e,if_pos e,e]
   ·rw [if_neg e,if_neg e,Int.mul_zero]
  rw [this,B7,if_pos hc]
 have s:Aj (fun s=>Aj (fun k=>(y (s+1) (T.to k)-y s (T.fr k))*g k s) T.L) D=T.cst D g+Aj (fun t=>Aj (fun k=>min b (T.lf k t)*T.exc y t k) T.L) D:=by
  have e:T.cst D g+Aj (fun t=>Aj (fun k=>min b (T.lf k t)*T.exc y t k) T.L) D=Aj (fun t=>Aj (fun k=>T.pr k t*g k t+min b (T.lf k t)*T.exc y t k) T.L) D:=by
   unfold cst
   rw [←BK]
   exact Af fun t _=>by rw[BK]
  rw [e]
  exact Af fun t ht=>Af fun k hk=>Ad0 P hfr hto ha hb H hk ht
 unfold bnd
 rw [Int.mul_sub,Int.mul_comm b,Int.mul_comm b]
 omega
theorem xX (P:T.Plan D a c b g) {t z:Nat} (ht:t<D):0≤T.inF g z t:=Bp fun k hk=>by
 split
 ·exact P.nn k t hk ht
 ·exact Int.le_refl _
theorem J6 (P:T.Plan D a c b g) (hfr:∀k,k<T.L→T.fr k<T.h) (hto:∀k,k<T.L→T.to k<T.h) {k t:Nat} (hk:k<T.L) (ht:t<D) (hg:0<g k t):0<T.stk a b g t (T.fr k)∧0<T.stk a b g (t+1) (T.to k):=by
 have h1:g k t≤T.outF g (T.fr k) t:=by
  have := Fw (f:=fun j=>if T.fr j=T.fr k then g j t else 0) (k:=k) (n:=T.L) (fun i hi=>by
   split
   ·exact P.nn i t hi ht
   ·exact Int.le_refl _) hk
  rw [if_pos rfl]at this
  exact this
 have h2:=P.st t (T.fr k) ht (hfr k hk)
 have h3:=P.st t (T.to k) ht (hto k hk)
 have h4:g k t≤T.inF g (T.to k) t:=by
  have := Fw (f:=fun j=>if T.to j=T.to k then g j t else 0) (k:=k) (n:=T.L) (fun i hi=>by
   split
   ·exact P.nn i t hi ht
   ·exact Int.le_refl _) hk
  rw [if_pos rfl]at this
  exact this
 refine ⟨by omega,?_⟩
 rw [TN.stk];omega
structure Fix (T:TN) (D a c:Nat) (b:Int) (g:Nat→Nat→Int) (y:Nat→Nat→Int) (mx:Int):Prop where
 up : ∀t k,t<D→k<T.L→g k t<T.lf k t→y t (T.fr k)<mx→y (t+1) (T.to k)≤y t (T.fr k)+T.pr k t
 dn : ∀t k,t<D→k<T.L→0<g k t→y (t+1) (T.to k)<mx→y t (T.fr k)≤y (t+1) (T.to k)-T.pr k t
 mono : ∀t x,t<D→x<T.h→y (t+1) x≤y t x
 stay : ∀t x,t<D→x<T.h→0<T.stk a b g t x-T.outF g x t→y t x≤y (t+1) x
 le : ∀t x,t≤D→x<T.h→y t x≤mx
 lt : y D c<mx
 pr : ∀k t,k<T.L→t<D→0≤T.pr k t
theorem Fix.low {mx:Int} (P:T.Plan D a c b g) (hfr:∀k,k<T.L→T.fr k<T.h) (hto:∀k,k<T.L→T.to k<T.h) (H:T.Fix D a c b g y mx):∀j t,t+j=D→∀x,x<T.h→0<T.stk a b g t x→y t x≤y D c
 | 0,t,ht,x,hx,h=>by
  have e:t=D:=by omega
  subst e
  rw [P.en x hx]at h
  by_cases e:c=x
  ·rw [e];exact Int.le_refl _
  ·rw [if_neg e]at h;omega
 | j + 1,t,ht,x,hx,h=>by
  have ih:=Fix.low P hfr hto H j (t+1) (by omega)
  have htD:t<D:=by omega
  by_cases c0:0<T.stk a b g t x-T.outF g x t
  ·have h1:=H.stay t x htD hx c0
   have h2:=ih x hx (by rw[TN.stk];have:=xX P (z:=x) htD;omega)
   omega
  ·have ho:0<T.outF g x t:=by omega
   have : ∃k,k<T.L∧T.fr k=x∧0<g k t:=by
    refine Classical.byContradiction fun hno=>?_
    have : T.outF g x t=0:=A3 fun k hk=>by
     by_cases e:T.fr k=x
     ·rw [if_pos e]
      have := P.nn k t hk htD
      have : ¬0<g k t:=fun g=>hno ⟨k,hk,e,g⟩
      omega
     ·rw [if_neg e]
    omega
   obtain ⟨k,hk,e,hg⟩:=this
   have h2:=ih (T.to k) (hto k hk) (J6 P hfr hto hk htD hg).2
   have h1:=H.dn t k htD hk hg (by have:=H.lt;omega)
   rw [e]at h1
   have := H.pr k t hk htD
   omega
theorem Fix.tight {mx:Int} (P:T.Plan D a c b g) (hfr:∀k,k<T.L→T.fr k<T.h) (hto:∀k,k<T.L→T.to k<T.h) (H:T.Fix D a c b g y mx):T.Tight D a b g fun t x=>min (y t x) (y D c):=by
 have low:=fun t (ht:t≤D)=>Fix.low P hfr hto H (D-t) t (by omega)
 have hlt:=H.lt
 refine ⟨fun t k ht hk h=>?_,fun t k ht hk h=>?_,fun t x ht hx=>?_,fun t x ht hx h=>?_⟩
 ·have hp:=H.pr k t hk ht
  have h1:=H.le (t+1) (T.to k) (by omega) (hto k hk)
  by_cases c1:y t (T.fr k)<mx
  ·have := H.up t k ht hk h c1
   omega
  ·omega
 ·obtain ⟨s1,s2⟩:=J6 P hfr hto hk ht h
  have h1:=low t (by omega) (T.fr k) (hfr k hk) s1
  have h2:=low (t+1) (by omega) (T.to k) (hto k hk) s2
  have h3:=H.dn t k ht hk h (by omega)
  omega
 ·have := H.mono t x ht hx
  omega
 ·have h1:=H.stay t x ht hx h
  omega
end
end TN
end Sim
namespace Sim
structure YS where
 y : Nat→Nat→Int
 ch : Bool
def YS.rl (s:YS) (t x:Nat) (v:Int):YS:=if v<s.y t x then⟨fun t' x'=>if t'=t∧x'=x then v else s.y t' x',true⟩else s
theorem QE {f g:Nat→Int} {i:Nat}:∀ {n},(∀j,j<n→f j≤g j)→i<n→f i<g i→Aj f n<Aj g n
 | 0,_,h,_=>absurd h (by omega)
 | n+1,h,hi,hl=>by
  have h0:=h n (by omega)
  rw [Aj,Aj]
  by_cases e:i=n
  ·subst e
   have := Ct (f:=f) (g:=g) (n:=i) fun j hj=>h j (by omega)
   omega
  ·have := QE (f:=f) (g:=g) (n:=n) (fun j hj=>h j (by omega)) (by omega) hl
   omega
namespace TN
def stU (T:TN) (mx:Int) (g:Nat→Nat→Int) (s:YS) (t k:Nat):YS:=if g k t<T.lf k t∧s.y t (T.fr k)<mx then s.rl (t+1) (T.to k) (s.y t (T.fr k)+T.pr k t)else s
def stD (T:TN) (mx:Int) (g:Nat→Nat→Int) (s:YS) (t k:Nat):YS:=if 0<g k t∧s.y (t+1) (T.to k)<mx then s.rl t (T.fr k) (s.y (t+1) (T.to k)-T.pr k t)else s
def stL (T:TN) (mx:Int) (g:Nat→Nat→Int) (s:YS) (t k:Nat):YS:=T.stD mx g (T.stU mx g s t k) t k
def stA (s:YS) (t x:Nat):YS:=s.rl (t+1) x (s.y t x)
def stB (so:Nat→Nat→Int) (s:YS) (t x:Nat):YS:=if 0<so t x then s.rl t x (s.y (t+1) x)else s
def pass1 (T:TN) (mx:Int) (g:Nat→Nat→Int) (s:YS):Nat→YS
 | 0=>s
 | n+1=>T.stL mx g (pass1 T mx g s n) (n / T.L) (n % T.L)
def pass2 (T:TN) (so:Nat→Nat→Int) (s:YS):Nat→YS
 | 0=>s
 | n+1=>stB so (stA (pass2 T so s n) (n / T.h) (n % T.h)) (n / T.h) (n % T.h)
def rnd (T:TN) (D:Nat) (mx:Int) (g so:Nat→Nat→Int) (y:Nat→Nat→Int):YS:=T.pass2 so (T.pass1 mx g ⟨y,false⟩ (D*T.L)) (D*T.h)
section
variable {T:TN} {D a c:Nat} {b mx far:Int} {g so lam:Nat→Nat→Int}
def ms (T:TN) (D:Nat) (y:Nat→Nat→Int):Int:=Aj (fun t=>Aj (fun x=>y t x) T.h) (D+1)
def Low (T:TN) (D:Nat) (lam y:Nat→Nat→Int):Prop:=∀t x,t≤D→x<T.h→lam t x≤y t x
structure Rel (T:TN) (D:Nat) (lam:Nat→Nat→Int) (s s':YS):Prop where
 same : s'.ch=false→s'=s
 le : ∀t x,s'.y t x≤s.y t x
 lt : s'.ch=true→s.ch=true∨T.ms D s'.y<T.ms D s.y
 low : T.Low D lam s.y→T.Low D lam s'.y
theorem Abe {y y':Nat→Nat→Int} (h:∀t x,y' t x≤y t x):T.ms D y'≤T.ms D y:=Ct fun t _=>Ct fun x _=>h t x
theorem Rel.refl {s:YS}:T.Rel D lam s s:=⟨fun _=>rfl,fun _ _=>Int.le_refl _,fun h=>.inl h,fun h=>h⟩
theorem Rel.trans {s s' s'':YS} (h:T.Rel D lam s s') (k:T.Rel D lam s' s''):T.Rel D lam s s'':=by
 refine ⟨fun e=>?_,fun t x=>Int.le_trans (k.le t x) (h.le t x),fun e=>?_,fun l=>k.low (h.low l)⟩
 ·have := k.same e
  subst this
  exact h.same e
 ·have h1:=Abe (T:=T) (D:=D) h.le
  have h2:=Abe (T:=T) (D:=D) k.le
  rcases k.lt e with g | g
  ·rcases h.lt g with g | g
   ·exact .inl g
   ·exact .inr (by omega)
  ·exact .inr (by omega)
theorem QF {s:YS} {t x:Nat} {v:Int} (ht:t≤D) (hx:x<T.h) (hv:T.Low D lam s.y→lam t x≤v):T.Rel D lam s (s.rl t x v):=by
 unfold YS.rl
 by_cases e:v<s.y t x
 ·rw [if_pos e]
  have hle:∀t' x',(if t'=t∧x'=x then v else s.y t' x')≤s.y t' x':=fun t' x'=>by
   split
   ·rename_i q;rw[q.1,q.2];omega
   ·exact Int.le_refl _
  refine ⟨fun h=>by simp at h,hle,fun _=>.inr ?_,fun l t' x' ht' hx'=>?_⟩
  ·refine QE (i:=t) (fun j _=>Ct fun x _=>hle _ _) (by omega) (QE (i:=x) (fun j _=>hle _ _) hx ?_)
   dsimp only
   rw [if_pos ⟨rfl,rfl⟩];exact e
  ·dsimp only
   split
   ·rename_i q;rw[q.1,q.2];exact hv l
   ·exact l t' x' ht' hx'
 ·rw [if_neg e];exact .refl
structure Lam (T:TN) (D:Nat) (g so lam:Nat→Nat→Int):Prop where
 fr : ∀k,k<T.L→T.fr k<T.h
 to : ∀k,k<T.L→T.to k<T.h
 up : ∀t k,t<D→k<T.L→g k t<T.lf k t→lam (t+1) (T.to k)≤lam t (T.fr k)+T.pr k t
 dn : ∀t k,t<D→k<T.L→0<g k t→lam t (T.fr k)≤lam (t+1) (T.to k)-T.pr k t
 mono : ∀t x,t<D→x<T.h→lam (t+1) x≤lam t x
 stay : ∀t x,t<D→x<T.h→0<so t x→lam t x≤lam (t+1) x
theorem stU_rel (H:T.Lam D g so lam) {s:YS} {t k:Nat} (ht:t<D) (hk:k<T.L):T.Rel D lam s (T.stU mx g s t k):=by
 unfold stU
 split
 ·rename_i h
  exact QF (by omega) (H.to k hk) fun l=>by
   have h1:=H.up t k ht hk h.1
   have h2:=l t (T.fr k) (by omega) (H.fr k hk)
   omega
 ·exact .refl
theorem xY (H:T.Lam D g so lam) {s:YS} {t k:Nat} (ht:t<D) (hk:k<T.L):T.Rel D lam s (T.stD mx g s t k):=by
 unfold stD
 split
 ·rename_i h
  exact QF (by omega) (H.fr k hk) fun l=>by
   have h1:=H.dn t k ht hk h.1
   have h2:=l (t+1) (T.to k) (by omega) (H.to k hk)
   omega
 ·exact .refl
theorem xZ (H:T.Lam D g so lam) {s:YS} {t x:Nat} (ht:t<D) (hx:x<T.h):T.Rel D lam s (stA s t x) :=
 QF (by omega) hx fun l=>by
  have h1:=H.mono t x ht hx
  have h2:=l t x (by omega) hx
  omega
theorem yA (H:T.Lam D g so lam) {s:YS} {t x:Nat} (ht:t<D) (hx:x<T.h):T.Rel D lam s (stB so s t x):=by
 unfold stB
 split
 ·rename_i h
  exact QF (by omega) hx fun l=>by
   have h1:=H.stay t x ht hx h
   have h2:=l (t+1) x (by omega) hx
   omega
 ·exact .refl
theorem idx_lt {n L i:Nat} (h:i<n*L):i / L<n∧i % L<L:=by
 have hL:0<L:=by
  rcases Nat.eq_zero_or_pos L with e | e
  ·rw [e,Nat.mul_zero]at h;omega
  ·exact e
 exact ⟨(Nat.div_lt_iff_lt_mul hL).2 h,Nat.mod_lt _ hL⟩
theorem pass1_rel (H:T.Lam D g so lam) {s:YS}:∀ {n},n≤D*T.L→T.Rel D lam s (T.pass1 mx g s n)
 | 0,_=>.refl
 | n+1,hn=>by
  obtain ⟨h1,h2⟩:=idx_lt (i:=n) (Nat.lt_of_lt_of_le (Nat.lt_succ_self n) hn)
  exact (pass1_rel H (by omega)).trans ((stU_rel H h1 h2).trans (xY H h1 h2))
theorem ON (H:T.Lam D g so lam) {s:YS}:∀ {n},n≤D*T.h→T.Rel D lam s (T.pass2 so s n)
 | 0,_=>.refl
 | n+1,hn=>by
  obtain ⟨h1,h2⟩:=idx_lt (i:=n) (Nat.lt_of_lt_of_le (Nat.lt_succ_self n) hn)
  exact (ON H (by omega)).trans ((xZ H h1 h2).trans (yA H h1 h2))
theorem rnd_rel (H:T.Lam D g so lam) {y:Nat→Nat→Int}:T.Rel D lam ⟨y,false⟩ (T.rnd D mx g so y) :=
 (pass1_rel H (Nat.le_refl _)).trans (ON H (Nat.le_refl _))
theorem QG {s:YS} {t x:Nat} {v:Int} (h:(s.rl t x v).ch=false):s.rl t x v=s∧s.y t x≤v:=by
 unfold YS.rl at h ⊢
 by_cases e:v<s.y t x
 ·rw [if_pos e]at h;cases h
 ·rw [if_neg e];exact⟨rfl,by omega⟩
theorem yB {s:YS} {t k:Nat} (h:(T.stU mx g s t k).ch=false):T.stU mx g s t k=s∧(g k t<T.lf k t→s.y t (T.fr k)<mx→s.y (t+1) (T.to k)≤s.y t (T.fr k)+T.pr k t):=by
 unfold stU at h ⊢
 split
 ·rename_i q
  rw [if_pos q]at h
  obtain ⟨h1,h2⟩:=QG h
  exact ⟨h1,fun _ _=>h2⟩
 ·rename_i q
  exact ⟨rfl,fun a b=>absurd ⟨a,b⟩ q⟩
theorem yC {s:YS} {t k:Nat} (h:(T.stD mx g s t k).ch=false):T.stD mx g s t k=s∧(0<g k t→s.y (t+1) (T.to k)<mx→s.y t (T.fr k)≤s.y (t+1) (T.to k)-T.pr k t):=by
 unfold stD at h ⊢
 split
 ·rename_i q
  rw [if_pos q]at h
  obtain ⟨h1,h2⟩:=QG h
  exact ⟨h1,fun _ _=>h2⟩
 ·rename_i q
  exact ⟨rfl,fun a b=>absurd ⟨a,b⟩ q⟩
theorem yD {s:YS} {t x:Nat} (h:(stB so s t x).ch=false):stB so s t x=s∧(0<so t x→s.y t x≤s.y (t+1) x):=by
 unfold stB at h ⊢
 split
 ·rename_i q
  rw [if_pos q]at h
  obtain ⟨h1,h2⟩:=QG h
  exact ⟨h1,fun _=>h2⟩
 ·rename_i q
  exact ⟨rfl,fun a=>absurd a q⟩
theorem OO {s:YS}:∀ {n},(T.pass1 mx g s n).ch=false→T.pass1 mx g s n=s∧∀i,i<n→(g (i % T.L) (i / T.L)<T.lf (i % T.L) (i / T.L)→s.y (i / T.L) (T.fr (i % T.L))<mx→s.y (i / T.L+1) (T.to (i % T.L))≤s.y (i / T.L) (T.fr (i % T.L))+T.pr (i % T.L) (i / T.L))∧(0<g (i % T.L) (i / T.L)→s.y (i / T.L+1) (T.to (i % T.L))<mx→s.y (i / T.L) (T.fr (i % T.L))≤s.y (i / T.L+1) (T.to (i % T.L))-T.pr (i % T.L) (i / T.L))
 | 0,_=>⟨rfl,fun i hi=>absurd hi (by omega)⟩
 | n+1,h=>by
  obtain ⟨h1,h2⟩:=yC h
  have h1':T.pass1 mx g s (n+1)=T.stU mx g (T.pass1 mx g s n) (n / T.L) (n % T.L):=h1
  rw [h1']at h
  obtain ⟨h3,h4⟩:=yB h
  rw [h3]at h h1' h2
  obtain ⟨h5,h6⟩:=OO h
  rw [h5]at h1' h2 h4
  refine ⟨h1',fun i hi=>?_⟩
  by_cases e:i=n
  ·subst e;exact⟨h4,h2⟩
  ·exact h6 i (by omega)
theorem OP {s:YS}:∀ {n},(T.pass2 so s n).ch=false→T.pass2 so s n=s∧∀i,i<n→s.y (i / T.h+1) (i % T.h)≤s.y (i / T.h) (i % T.h)∧(0<so (i / T.h) (i % T.h)→s.y (i / T.h) (i % T.h)≤s.y (i / T.h+1) (i % T.h))
 | 0,_=>⟨rfl,fun i hi=>absurd hi (by omega)⟩
 | n+1,h=>by
  obtain ⟨h1,h2⟩:=yD h
  have h1':T.pass2 so s (n+1)=stA (T.pass2 so s n) (n / T.h) (n % T.h):=h1
  rw [h1']at h
  obtain ⟨h3,h4⟩:=QG h
  have h3':stA (T.pass2 so s n) (n / T.h) (n % T.h)=T.pass2 so s n:=h3
  rw [h3']at h h1' h2
  obtain ⟨h5,h6⟩:=OP h
  rw [h5]at h1' h2 h4
  refine ⟨h1',fun i hi=>?_⟩
  by_cases e:i=n
  ·subst e;exact⟨h4,h2⟩
  ·exact h6 i (by omega)
theorem row_idx {L t k:Nat} (hk:k<L):(t*L+k) / L=t∧(t*L+k) % L=k :=
 ⟨by rw[Nat.mul_comm,Nat.mul_add_div (by omega),Nat.div_eq_of_lt hk];omega,by rw[Nat.mul_comm,Nat.mul_add_mod,Nat.mod_eq_of_lt hk]⟩
theorem row_lt {D L t k:Nat} (ht:t<D) (hk:k<L):t*L+k<D*L:=by
 have := Nat.mul_le_mul_right L (show t+1≤D by omega)
 rw [Nat.add_mul,Nat.one_mul]at this
 omega
theorem rnd_fix {y:Nat→Nat→Int} (h:(T.rnd D mx g so y).ch=false):(T.rnd D mx g so y).y=y∧(∀t k,t<D→k<T.L→(g k t<T.lf k t→y t (T.fr k)<mx→y (t+1) (T.to k)≤y t (T.fr k)+T.pr k t)∧(0<g k t→y (t+1) (T.to k)<mx→y t (T.fr k)≤y (t+1) (T.to k)-T.pr k t)) ∧
  ∀ t x,t<D→x<T.h→y (t+1) x≤y t x∧(0<so t x→y t x≤y (t+1) x):=by
 unfold rnd at h ⊢
 obtain ⟨h1,h2⟩:=OP h
 rw [h1]at h ⊢
 obtain ⟨h3,h4⟩:=OO h
 rw [h3]at h2 ⊢
 refine ⟨rfl,fun t k ht hk=>?_,fun t x ht hx=>?_⟩
 ·have := h4 (t*T.L+k) (row_lt ht hk)
  rw [(row_idx hk).1,(row_idx hk).2]at this
  exact this
 ·have := h2 (t*T.h+x) (row_lt ht hx)
  rw [(row_idx hx).1,(row_idx hx).2]at this
  exact this
inductive PrvR (T:TN) (D:Nat) (mx:Int) (g so:Nat→Nat→Int):(Nat→Nat→Int)→(Nat→Nat→Int)→Prop
 | done (y:Nat→Nat→Int) (h:(T.rnd D mx g so y).ch=false):PrvR T D mx g so y y
 | more (y y':Nat→Nat→Int) (h:(T.rnd D mx g so y).ch=true) (k:PrvR T D mx g so (T.rnd D mx g so y).y y'):PrvR T D mx g so y y'
theorem prv_det {y y1 y2:Nat→Nat→Int} (h1:T.PrvR D mx g so y y1) (h2:T.PrvR D mx g so y y2):y1=y2:=by
 induction h1 with
 | done y h =>
  cases h2 with
  | done _ _=>rfl
  | more _ _ h' _=>rw[h]at h';cases h'
 | more y y' h k ih =>
  cases h2 with
  | done _ h'=>rw[h]at h';cases h'
  | more _ _ _ k'=>exact ih k'
theorem mT (H:T.Lam D g so lam) (nn:∀t x,0≤lam t x):∀(n:Nat) (y:Nat→Nat→Int),T.Low D lam y→(T.ms D y).toNat≤n→∃y',T.PrvR D mx g so y y'∧T.Low D lam y'∧(∀t x,y' t x≤y t x)∧(T.rnd D mx g so y').ch=false
 | n,y,hl,hn=>by
  have R:=rnd_rel (mx:=mx) H (y:=y)
  cases hc:(T.rnd D mx g so y).ch
  ·exact ⟨y,.done y hc,hl,fun _ _=>Int.le_refl _,hc⟩
  ·have h1:=R.lt hc
   have h2:=R.low hl
   have h3:0≤T.ms D (T.rnd D mx g so y).y:=Bp fun t ht=>Bp fun x hx=>Int.le_trans (nn t x) (h2 t x (by omega) hx)
   rcases h1 with h1 | h1
   ·cases h1
   ·dsimp only at h1
    cases n with
    | zero=>omega
    | succ n =>
     obtain ⟨y',p,q,r,s⟩:=mT H nn n _ h2 (by omega)
     exact ⟨y',.more y y' hc p,q,fun t x=>Int.le_trans (r t x) (R.le t x),s⟩
def iniY (D a c:Nat) (mx far:Int) (t x:Nat):Int:=if t=0∧x=a then 0 else if t=D∧x=c then far else mx
noncomputable def prvY (T:TN) (D a c:Nat) (mx far:Int) (g so:Nat→Nat→Int):Nat→Nat→Int :=
 @dite _ (∃y,T.PrvR D mx g so (iniY D a c mx far) y) (Classical.propDecidable _) (fun h=>h.choose) (fun _=>iniY D a c mx far)
theorem yE {y:Nat→Nat→Int} (h:T.PrvR D mx g so (iniY D a c mx far) y):T.prvY D a c mx far g so=y:=by
 unfold prvY
 have hx:∃y,T.PrvR D mx g so (iniY D a c mx far) y:=⟨y,h⟩
 rw [dif_pos hx]
 exact prv_det hx.choose_spec h
theorem prv_ok (H:T.Lam D g so lam) (nn:∀t x,0≤lam t x) (l0:lam 0 a≤0) (lD:lam D c≤far) (lm:∀t x,t≤D→x<T.h→lam t x≤mx) (hf0:0≤far) (hfar:far<mx) (hpr:∀k t,k<T.L→t<D→0≤T.pr k t)
  (hso : ∀t x,t<D→x<T.h→so t x=T.stk a b g t x-T.outF g x t) (hc:c<T.h) :
  T.PrvR D mx g so (iniY D a c mx far) (T.prvY D a c mx far g so)∧T.Fix D a c b g (T.prvY D a c mx far g so) mx∧∀t x,t≤D→x<T.h→0≤T.prvY D a c mx far g so t x:=by
 have hl:T.Low D lam (iniY D a c mx far):=fun t x ht hx=>by
  unfold iniY
  split
  ·rename_i h;rw[h.1,h.2];exact l0
  ·split
   ·rename_i h;rw[h.1,h.2];exact lD
   ·exact lm t x ht hx
 obtain ⟨y,p,q,r,s⟩:=mT (mx:=mx) H nn _ _ hl (Nat.le_refl _)
 rw [yE p]
 obtain ⟨f1,f2,f3⟩:=rnd_fix s
 refine ⟨p,⟨fun t k ht hk h1 h2=>(f2 t k ht hk).1 h1 h2,fun t k ht hk h1 h2=>(f2 t k ht hk).2 h1 h2,fun t x ht hx=>(f3 t x ht hx).1,fun t x ht hx h=>(f3 t x ht hx).2 (by rw[hso t x ht hx];exact h),fun t x ht hx=>?_,?_,hpr⟩,fun t x ht hx=>Int.le_trans (nn t x) (q t x ht hx)⟩
 ·refine Int.le_trans (r t x) ?_
  unfold iniY
  split
  ·omega
  ·split <;> omega
 ·refine Int.lt_of_le_of_lt (r D c) ?_
  unfold iniY
  split
  ·omega
  ·rw [if_pos ⟨rfl,rfl⟩];exact hfar
end
end TN
end Sim
