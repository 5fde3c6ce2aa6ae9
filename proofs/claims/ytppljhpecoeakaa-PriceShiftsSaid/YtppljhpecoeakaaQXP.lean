/- What functions of this seat compute, by values: contracts (lemmas of the statement's proof, under the conditions that each names). -/
import Derived.Test.YtppljhpecoeakaaQF10
set_option linter.unusedVariables false
set_option linter.unusedSimpArgs false
namespace Sim
structure RSE (p:Nat→Arc) (m:Nat) (A:List Arc) (E:Nat→Int):Prop where
 len : A.length=2*m
 fr : ∀i,i<m→aF A (2*i)=(p i).1∧aT A (2*i)=(p i).2.1∧aF A (2*i+1)=(p i).2.1∧aT A (2*i+1)=(p i).1
 bk : ∀k,k<2*m→aP A k=((rv k:Nat):Int)
 nn : ∀k,k<2*m→0≤aL A k
 cap : ∀i,i<m→aL A (2*i)+aL A (2*i+1)=(p i).2.2.1
 val : ∀v,Aj (fun i=>(if (p i).1=v then flA A i else 0)-(if (p i).2.1=v then flA A i else 0)) m=E v
def stE (s e:Nat) (x:Int) (v:Nat):Int:=(if s=v then x else 0)-(if e=v then x else 0)
section
variable {p:Nat→Arc} {m N s e:Nat} {A:List Arc} {E:Nat→Int}
theorem RSE.net (R:RSE p m A E) {f:Nat→Int} {v:Nat}:(fnA A N s e).net f v=Aj (fun i=>(if (p i).1=v then f i else 0)-(if (p i).2.1=v then f i else 0)) m:=by
 unfold FN.net fnA
 dsimp only
 rw [R.len,show 2*m / 2=m by omega]
 exact Af fun i hi=>by simp only[(R.fr i hi).1,(R.fr i hi).2.1]
theorem RSE.aug (R:RSE p m A E) {k:Nat} {y:Int} (hk:k<2*m) (h0:0≤y) (hy:y≤aL A k):RSE p m (CG A y k) (fun v=>E v+stE (aF A k) (aT A k) y v):=by
 have hl:=R.len
 have hF:∀j,aF (CG A y k) j=aF A j:=fun j=>Qp hl hk
 have hT:∀j,aT (CG A y k) j=aT A j:=fun j=>We hl hk
 refine ⟨by rw[Ep];exact hl,fun i hi=>?_,fun j hj=>?_,fun j hj=>?_,fun i hi=>?_,fun v=>?_⟩
 ·rw [hF,hF,hT,hT];exact R.fr i hi
 ·rw [kM hl hk];exact R.bk j hj
 ·rw [KI hl hk]
  have := R.nn j hj
  by_cases c:j=k
  ·subst c;rw[if_pos rfl];split <;> omega
  ·rw [if_neg c];split <;> omega
 ·rw [KI hl hk,KI hl hk,←R.cap i hi]
  unfold rv
  by_cases e:k % 2=0
  ·rw [if_pos e]
   by_cases c:k=2*i
   ·subst c
    rw [if_pos rfl,if_neg (show ¬2*i=2*i+1 by omega),if_neg (show ¬2*i+1=2*i by omega),if_pos rfl];omega
   ·rw [if_neg (show ¬2*i=k by omega),if_neg (show ¬2*i=k+1 by omega),if_neg (show ¬2*i+1=k by omega),if_neg (show ¬2*i+1=k+1 by omega)];omega
  ·rw [if_neg e]
   by_cases c:k=2*i+1
   ·subst c
    rw [if_neg (show ¬2*i=2*i+1 by omega),if_pos (show 2*i=2*i+1-1 by omega),if_pos rfl,if_neg (show ¬2*i+1=2*i+1-1 by omega)];omega
   ·rw [if_neg (show ¬2*i=k by omega),if_neg (show ¬2*i=k-1 by omega),if_neg (show ¬2*i+1=k by omega),if_neg (show ¬2*i+1=k-1 by omega)];omega
 ·have hI:IsP A (aF A k) (aT A k) [k]:=.cons k [] .nil
  have := WX (N:=0) (t:=0) (p:=y) hI (fun i hi=>by
   obtain ⟨a,b,c,d⟩:=R.fr i hi
   exact ⟨by rw[c,b],by rw[d,a]⟩) hl (fun j hj=>by rw[List.mem_singleton]at hj;rw[hj];exact hk) v
  rw [R.net,R.net,R.val]at this
  exact this
theorem RSE.congr {E':Nat→Int} (R:RSE p m A E) (h:∀v,E v=E' v):RSE p m A E':=⟨R.len,R.fr,R.bk,R.nn,R.cap,fun v=>by rw[R.val,h]⟩
theorem RSE.end (R:RSE p m A E) (h:J3 p N m) {k:Nat} (hk:k<2*m):aF A k<N∧aT A k<N:=by
 obtain ⟨i,hi,e | e⟩:=B5 hk
 ·subst e;rw[(R.fr i hi).1,(R.fr i hi).2.1];exact⟨(h i hi).1,(h i hi).2.1⟩
 ·subst e;rw[(R.fr i hi).2.2.1,(R.fr i hi).2.2.2];exact⟨(h i hi).2.1,(h i hi).1⟩
theorem RSE.le (R:RSE p m A E) {k:Nat} (hk:k<2*m) {b:Int} (hb:∀i,i<m→(p i).2.2.1≤b):aL A k≤b∧aL A k+aL A (rv k)≤b:=by
 obtain ⟨i,hi,e | e⟩:=B5 hk
 ·have h1:=R.cap i hi
  have h2:=hb i hi
  have h3:=R.nn (2*i+1) (by omega)
  subst e
  have : rv (2*i)=2*i+1:=by unfold rv;rw[if_pos (by omega)]
  rw [this]
  omega
 ·have h1:=R.cap i hi
  have h2:=hb i hi
  have h3:=R.nn (2*i) (by omega)
  subst e
  have : rv (2*i+1)=2*i:=by unfold rv;rw[if_neg (by omega)];omega
  rw [this]
  omega
theorem RSE.flow {x:Int} (R:RSE p m A (stE s e x)):(fnP p N m s e).Flow (flA A) x:=by
 refine ⟨fun i hi=>R.nn (2*i+1) (by have:i<m:=hi;omega),fun i hi=>?_,fun v hv=>R.val v⟩
 have := R.cap i hi
 have := R.nn (2*i) (by have:i<m:=hi;omega)
 show aL A (2*i+1)≤(p i).2.2.1
 omega
theorem RSE.top {x:Int} (R:RSE p m A (stE s e x)) (hse:s≠e):x≤Aj (fun i=>(p i).2.2.1) m:=by
 have := R.val s
 unfold stE at this
 rw [if_pos rfl,if_neg (fun g=>hse g.symm),Int.sub_zero]at this
 rw [←this]
 refine Ct fun i hi=>?_
 have h1:=R.cap i hi
 have h2:=R.nn (2*i) (by omega)
 have h3:=R.nn (2*i+1) (by omega)
 unfold flA
 split <;> split <;> omega
end
structure BQ (A:List Arc) (m N s:Nat) (bl:List Int) (q:List Nat) (rk:Nat→Nat):Prop where
 len : bl.length=N
 src : q.getD 0 0=s∧s∈q
 nd : q.Nodup
 mem : ∀v∈q,v<N
 seen : ∀v,v<N→(0≤bl.getD v 0↔v∈q)
 by_ : ∀v∈q,v≠s→∃k:Nat,k<2*m∧bl.getD v 0=(k:Int)∧aT A k=v∧0<aL A k∧aF A k∈q∧rk (aF A k)<rk v
 rkb : ∀v∈q,rk v<q.length
def BD (A:List Arc) (m:Nat) (q:List Nat) (n:Nat):Prop:=∀j,j<n→∀k,k<2*m→aF A k=q.getD j 0→0<aL A k→aT A k∈q
section
variable {A:List Arc} {m N s:Nat} {bl:List Int} {q:List Nat} {rk:Nat→Nat}
theorem BQ.ini (hs:s<N) {x:Int} (hx:0≤x):BQ A m N s ((List.replicate N (-1:Int)).set s x) [s] (fun _=>0):=by
 refine ⟨by simp,⟨rfl,by simp⟩,by simp,fun v hv=>by simp at hv;omega,fun v hv=>?_,fun v hv hvs=>by simp at hv;exact absurd hv hvs,fun v hv=>by simp⟩
 rw [C7 (by simpa using hs)]
 by_cases c:v=s
 ·rw [if_pos c];simp[c,hx]
 ·rw [if_neg c]
  simp [List.getD_eq_getElem?_getD,hv,c]
theorem BQ.add (B:BQ A m N s bl q rk) {k:Nat} (hk:k<2*m) (hN:aT A k<N) (hF:aF A k∈q) (hl:0<aL A k) (hT:bl.getD (aT A k) 0<0):BQ A m N s (bl.set (aT A k) (k:Int)) (q ++ [aT A k]) (fun w=>if w=aT A k then q.length else rk w):=by
 have hTq:aT A k ∉ q:=fun g=>by have:=(B.seen _ hN).2 g;omega
 have hne:∀v∈q,v≠aT A k:=fun v hv e=>hTq (e▸hv)
 refine ⟨by rw[List.length_set];exact B.len,⟨?_,by simp[B.src.2]⟩,?_,fun v hv=>?_,fun v hv=>?_,fun v hv hvs=>?_,fun v hv=>?_⟩
 ·rw [←B.src.1]
  have : 0<q.length:=List.length_pos_of_mem B.src.2
  rw [List.getD_eq_getElem?_getD,List.getElem?_append_left this,List.getD_eq_getElem?_getD]
 ·rw [List.nodup_append]
  exact ⟨B.nd,by simp,fun a ha b hb e=>by simp at hb;subst hb;exact hne a ha e⟩
 ·rw [List.mem_append,List.mem_singleton]at hv
  rcases hv with hv | rfl
  ·exact B.mem v hv
  ·exact hN
 ·rw [C7 (by rw[B.len];exact hN),List.mem_append,List.mem_singleton]
  by_cases c:v=aT A k
  ·rw [if_pos c];simp[c]
  ·rw [if_neg c,B.seen v hv];simp[c]
 ·rw [List.mem_append,List.mem_singleton]at hv
  rcases hv with hv | rfl
  ·obtain ⟨j,h1,h2,h3,h4,h5,h6⟩:=B.by_ v hv hvs
   refine ⟨j,h1,?_,h3,h4,by simp[h5],?_⟩
   ·rw [C7 (by rw[B.len];exact hN),if_neg (hne v hv)];exact h2
   ·rw [if_neg (hne v hv),if_neg (hne _ h5)];exact h6
  ·refine ⟨k,hk,?_,rfl,hl,by simp[hF],?_⟩
   ·rw [C7 (by rw[B.len];exact hN),if_pos rfl]
   ·rw [if_neg (hne _ hF),if_pos rfl];exact B.rkb _ hF
 ·rw [List.mem_append,List.mem_singleton]at hv
  rw [List.length_append,List.length_singleton]
  rcases hv with hv | rfl
  ·rw [if_neg (hne v hv)]
   have := B.rkb v hv
   omega
  ·rw [if_pos rfl];omega
theorem BQ.lenq (B:BQ A m N s bl q rk):q.length≤N:=by
 have := CT N q B.nd B.mem
 exact this
theorem BQ.least (B:BQ A m N s bl q rk) {S:Nat→Prop} (hs:S s) (hc:∀k,k<2*m→0<aL A k→S (aF A k)→S (aT A k)):∀v∈q,S v:=by
 have : ∀n v,v∈q→rk v≤n→S v:=by
  intro n
  induction n with
  | zero =>
   intro v hv hr
   by_cases c:v=s
   ·rw [c];exact hs
   ·obtain ⟨k,h1,h2,h3,h4,h5,h6⟩:=B.by_ v hv c
    omega
  | succ n ih =>
   intro v hv hr
   by_cases c:v=s
   ·rw [c];exact hs
   ·obtain ⟨k,h1,h2,h3,h4,h5,h6⟩:=B.by_ v hv c
    rw [←h3]
    exact hc k h1 h4 (ih _ h5 (by omega))
 exact fun v hv=>this (rk v) v hv (Nat.le_refl _)
theorem BQ.closed (B:BQ A m N s bl q rk) {n:Nat} (hn:n=q.length) (h:BD A m q n):∀k,k<2*m→0<aL A k→aF A k∈q→aT A k∈q:=fun k hk hl hF=>by
 obtain ⟨j,hj,e⟩:=List.getElem_of_mem hF
 exact h j (by omega) k hk (by rw[←e,List.getD_eq_getElem?_getD,List.getElem?_eq_getElem hj];rfl) hl
theorem BD.app {n:Nat} {v:Nat} (h:BD A m q n) (hn:n≤q.length):BD A m (q ++ [v]) n:=fun j hj k hk hF hl=>by
 rw [List.getD_eq_getElem?_getD,List.getElem?_append_left (by omega),←List.getD_eq_getElem?_getD]at hF
 exact List.mem_append_left _ (h j hj k hk hF hl)
end
structure PW (A:List Arc) (s:Nat) (bl:List Int) (q:List Nat) (W:Nat→Prop) (at_:Nat) (least:Int):Prop where
 cur : W at_
 mem : ∀w,W w→w∈q
 nx : ∀w,W w→w=at_∨(w≠s∧least≤aL A (bl.getD w 0).toNat∧W (aF A (bl.getD w 0).toNat))
theorem PW.step {A:List Arc} {m N s:Nat} {bl:List Int} {q:List Nat} {rk:Nat→Nat} (B:BQ A m N s bl q rk) {W:Nat→Prop} {a:Nat} {l:Int} (P:PW A s bl q W a l) {k:Nat} (has:a≠s) (hk:bl.getD a 0=(k:Int)):PW A s bl q (fun w=>W w∨w=aF A k) (aF A k) (min l (aL A k)):=by
 obtain ⟨k',h1,h2,h3,h4,h5,h6⟩:=B.by_ a (P.mem a P.cur) has
 have e:k'=k:=by omega
 subst e
 refine ⟨.inr rfl,fun w hw=>?_,fun w hw=>?_⟩
 ·rcases hw with hw | rfl
  ·exact P.mem w hw
  ·exact h5
 ·rcases hw with hw | rfl
  ·rcases P.nx w hw with rfl | ⟨g1,g2,g3⟩
   ·refine .inr ⟨has,?_,?_⟩
    ·rw [hk,Int.toNat_natCast];omega
    ·rw [hk,Int.toNat_natCast];exact .inr rfl
   ·exact .inr ⟨g1,by omega,.inl g3⟩
  ·exact .inl rfl
structure PA (p:Nat→Arc) (m s e:Nat) (A0:List Arc) (bl:List Int) (W:Nat→Prop) (rk:Nat→Nat) (x least:Int) (A:List Arc) (a:Nat):Prop where
 rs : RSE p m A (fun v=>stE s e x v+stE a e least v)
 cur : W a
 lf : ∀w,W w→w≠s→rk w≤rk a→least≤aL A (bl.getD w 0).toNat
theorem PA.step {p:Nat→Arc} {A0 A:List Arc} {m N s e:Nat} {bl:List Int} {q:List Nat} {rk:Nat→Nat} {W:Nat→Prop} {a k:Nat} {l x:Int} (B:BQ A0 m N s bl q rk) (R0:RSE p m A0 (stE s e x)) (P:PW A0 s bl q W s l) (h:PA p m s e A0 bl W rk x l A a) (has:a≠s) (hk:bl.getD a 0=(k:Int)) (hl:0≤l) :
  PA p m s e A0 bl W rk x l (CG A l k) (aF A0 k)∧k<2*m∧l≤aL A k∧rk (aF A0 k)<rk a∧aF A0 k∈q:=by
 obtain ⟨k',h1,h2,h3,h4,h5,h6⟩:=B.by_ a (P.mem a h.cur) has
 have e1:k'=k:=by omega
 subst e1
 have hF:∀j,j<2*m→aF A j=aF A0 j∧aT A j=aT A0 j:=fun j hj=>by
  obtain ⟨i,hi,e | e⟩:=B5 hj
  ·subst e;rw[(h.rs.fr i hi).1,(h.rs.fr i hi).2.1,(R0.fr i hi).1,(R0.fr i hi).2.1];exact⟨rfl,rfl⟩
  ·subst e;rw[(h.rs.fr i hi).2.2.1,(h.rs.fr i hi).2.2.2,(R0.fr i hi).2.2.1,(R0.fr i hi).2.2.2];exact⟨rfl,rfl⟩
 have hle:l≤aL A k':=by
  have := h.lf a h.cur has (Nat.le_refl _)
  rwa [hk,Int.toNat_natCast]at this
 have hWn:W (aF A0 k'):=by
  rcases P.nx a h.cur with e2 | ⟨_,_,g⟩
  ·exact absurd e2 has
  ·rwa [hk,Int.toNat_natCast]at g
 refine ⟨⟨(h.rs.aug h1 hl hle).congr fun v=>?_,hWn,fun w hw hws hr=>?_⟩,h1,hle,h6,h5⟩
 ·rw [(hF k' h1).1,(hF k' h1).2,h3]
  unfold stE
  omega
 ·have h7:=h.lf w hw hws (by omega)
  obtain ⟨j,g1,g2,g3,g4,g5,g6⟩:=B.by_ w (P.mem w hw) hws
  rw [g2,Int.toNat_natCast]at h7 ⊢
  rw [KI h.rs.len h1]
  have : j≠k':=fun e2=>by
   subst e2
   rw [h3]at g3
   subst g3
   omega
  rw [if_neg this]
  split <;> omega
theorem PA.end_ {p:Nat→Arc} {m s e:Nat} {A0 A:List Arc} {bl:List Int} {W:Nat→Prop} {rk:Nat→Nat} {x l:Int} (h:PA p m s e A0 bl W rk x l A s):RSE p m A (stE s e (x+l)):=h.rs.congr fun v=>by unfold stE;split <;> split <;> omega
theorem PA.ini {p:Nat→Arc} {m s e:Nat} {A0:List Arc} {bl:List Int} {q:List Nat} {W:Nat→Prop} {rk:Nat→Nat} {x l:Int} (R0:RSE p m A0 (stE s e x)) (P:PW A0 s bl q W s l) (he:W e):PA p m s e A0 bl W rk x l A0 e :=
 ⟨R0.congr fun v=>by unfold stE;split <;> split <;> omega,he,fun w hw hws _=>by
  rcases P.nx w hw with e2 | ⟨_,g,_⟩
  ·exact absurd e2 hws
  ·exact g⟩
structure Cls (G:FN) (f:Nat→Int) (x:Int) (S:Nat→Prop):Prop where
 flow : G.Flow f x
 s : S G.s
 t : ¬S G.t
 out : ∀i,i<G.m→S (G.fr i)→f i<G.cap i→S (G.to i)
 inn : ∀i,i<G.m→S (G.to i)→0<f i→S (G.fr i)
 least : ∀S':Nat→Prop,S' G.s→(∀i,i<G.m→S' (G.fr i)→f i<G.cap i→S' (G.to i))→(∀i,i<G.m→S' (G.to i)→0<f i→S' (G.fr i))→∀v,S v→S' v
theorem Cls.max {G:FN} (w:G.WF) {f:Nat→Int} {x:Int} {S:Nat→Prop} (h:Cls G f x S) {g:Nat→Int} {b:Int} (hg:G.Flow g b):b≤x:=by
 classical
 refine FN.cut w (g:=f) (S:=S) h.flow.val hg h.s h.t (fun i hi h1 h2=>?_) (fun i hi h1 h2=>?_)
 ·exact Classical.byContradiction fun c=>h2 (h.out i hi h1 (by omega))
 ·exact Classical.byContradiction fun c=>h1 (h.inn i hi h2 (by omega))
theorem Tx {f:Nat→Int}:∀ {n},(∀i,i<n→0≤f i)→Aj f n≤0→∀i,i<n→f i=0
 | 0,_,_=>fun i hi=>absurd hi (by omega)
 | n+1,h,hs=>fun i hi=>by
  rw [Aj]at hs
  have h1:=Bp (f:=f) (n:=n) fun i hi=>h i (by omega)
  have h2:=h n (by omega)
  by_cases e:i=n
  ·subst e;omega
  ·exact Tx (n:=n) (fun i hi=>h i (by omega)) (by omega) i (by omega)
theorem Cls.full {G:FN} (w:G.WF) {f g:Nat→Int} {x:Int} {S:Nat→Prop} (h:Cls G f x S) (hg:G.Flow g x):∀i,i<G.m→(S (G.fr i)→¬S (G.to i)→g i=G.cap i)∧(¬S (G.fr i)→S (G.to i)→g i=0):=by
 classical
 have d1:=FN.dual w h.flow.val fun v=>if S v then 1 else 0
 have d2:=FN.dual w hg.val fun v=>if S v then 1 else 0
 have key:=Tx (f:=fun i=>((if S (G.fr i)then 1 else 0)-(if S (G.to i)then 1 else 0))*f i-((if S (G.fr i)then 1 else 0)-(if S (G.to i)then 1 else 0))*g i) (n:=G.m) (fun i hi=>?_) (by rw[B0,d1,d2];omega)
 ·intro i hi
  have k:=key i hi
  refine ⟨fun h1 h2=>?_,fun h1 h2=>?_⟩
  ·rw [if_pos h1,if_neg h2]at k
   have e:¬f i<G.cap i:=fun c=>h2 (h.out i hi h1 c)
   have := h.flow.le i hi
   omega
  ·rw [if_neg h1,if_pos h2]at k
   have e:¬0<f i:=fun c=>h1 (h.inn i hi h2 c)
   have := h.flow.nn i hi
   omega
 ·have a1:=h.flow.nn i hi
  have a2:=h.flow.le i hi
  have b1:=hg.nn i hi
  have b2:=hg.le i hi
  by_cases h1:S (G.fr i) <;> by_cases h2:S (G.to i)
  ·rw [if_pos h1,if_pos h2];simp
  ·rw [if_pos h1,if_neg h2]
   have e:¬f i<G.cap i:=fun c=>h2 (h.out i hi h1 c)
   omega
  ·rw [if_neg h1,if_pos h2]
   have e:¬0<f i:=fun c=>h1 (h.inn i hi h2 c)
   omega
  ·rw [if_neg h1,if_neg h2];simp
theorem Cls.sub {G:FN} (w:G.WF) {f g:Nat→Int} {x y:Int} {S T:Nat→Prop} (h:Cls G f x S) (h':Cls G g y T):∀v,S v→T v:=by
 have e1:=h.max w h'.flow
 have e2:=h'.max w h.flow
 have e:x=y:=by omega
 subst e
 have k:=h'.full w h.flow
 refine h.least T h'.s (fun i hi h1 h2=>?_) (fun i hi h1 h2=>?_)
 ·exact Classical.byContradiction fun c=>by have:=(k i hi).1 h1 c;omega
 ·exact Classical.byContradiction fun c=>by have:=(k i hi).2 c h1;omega
def NZ (G:FN) (v:Nat):Prop:=∃f x S,Cls G f x S∧S v
theorem Cls.eq {G:FN} (w:G.WF) {f:Nat→Int} {x:Int} {S:Nat→Prop} (h:Cls G f x S) (v:Nat):S v↔NZ G v :=
 ⟨fun hv=>⟨f,x,S,h,hv⟩,fun⟨_,_,_,h',hv⟩=>h'.sub w h v hv⟩
theorem BQ.cls {p:Nat→Arc} {A:List Arc} {m N s e:Nat} {bl:List Int} {q:List Nat} {rk:Nat→Nat} {x:Int} (B:BQ A m N s bl q rk) (R:RSE p m A (stE s e x)) {n:Nat} (hn:n=q.length) (hd:BD A m q n) (he:e ∉ q):Cls (fnP p N m s e) (flA A) x (fun v=>v∈q):=by
 have hc:=B.closed hn hd
 refine ⟨R.flow,B.src.2,he,fun i hi h1 h2=>?_,fun i hi h1 h2=>?_,fun S' hs ho hi v hv=>?_⟩
 ·have hi:i<m:=hi
  have h2:flA A i<(p i).2.2.1:=h2
  have h1:(p i).1∈q:=h1
  have f:=R.fr i hi
  have := hc (2*i) (by omega) (by have:=R.cap i hi;unfold flA at h2;omega) (by rw[f.1];exact h1)
  rw [f.2.1]at this
  exact this
 ·have hi:i<m:=hi
  have h1:(p i).2.1∈q:=h1
  have f:=R.fr i hi
  have := hc (2*i+1) (by omega) h2 (by rw[f.2.2.1];exact h1)
  rw [f.2.2.2]at this
  exact this
 ·refine B.least (S:=S') hs (fun k hk hl hF=>?_) v hv
  obtain ⟨i,him,e1 | e1⟩:=B5 hk
  ·subst e1
   have f:=R.fr i him
   rw [f.1]at hF
   rw [f.2.1]
   exact ho i him hF (by have:=R.cap i him;show aL A (2*i+1)<(p i).2.2.1;omega)
  ·subst e1
   have f:=R.fr i him
   rw [f.2.2.1]at hF
   rw [f.2.2.2]
   exact hi i him hF hl
end Sim
