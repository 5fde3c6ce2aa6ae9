/- What functions of this seat compute, by values: contracts (lemmas of the statement's proof, under the conditions that each names). -/
import Derived.Test.YtppljhpecoeakaaQF3
set_option linter.unusedVariables false
set_option linter.unusedSimpArgs false
namespace Sim
def ini (N s:Nat):DS:=⟨(List.replicate N (-1)).set s 0,List.replicate N (-1),List.replicate N false,[(0,s)]⟩
def FV (A:List Arc) (out:List (List Nat)) (lv:List Int) (N s:Nat):DS:=Iq A out lv (EB out (ini N s)) (ini N s)
def lvN (lv:List Int) (st:DS) (N:Nat):List Int:=(List.range N).map fun v=>if st.done.getD v true=true then lv.getD v 0+st.far.getD v 0 else lv.getD v 0
def EI (A:List Arc) (last:List Int) (s:Nat):Nat→Nat→List Nat
 | 0,_ => []
 | f+1,v=>if v=s then []else (last.getD v 0).toNat::EI A last s f (aF A (last.getD v 0).toNat)
def CJ (A:List Arc) (out:List (List Nat)) (lv:List Int) (N s t:Nat):List Nat:=EI A (FV A out lv N s).last s N t
def lvM (A:List Arc) (out:List (List Nat)) (lv:List Int) (N s:Nat):List Int:=lvN lv (FV A out lv N s) N
inductive IsP (A:List Arc) (s:Nat):Nat→List Nat→Prop
 | nil:IsP A s s []
 | cons (k:Nat) (P:List Nat) (h:IsP A s (aF A k) P):IsP A s (aT A k) (k::P)
section
variable {A:List Arc} {out:List (List Nat)} {lv:List Int} {N s:Nat}
theorem Aiy {n k:Nat} {x:Int} (h:k<n):(List.replicate n x).getD k 0=x:=by simp[h]
theorem kH (G:Gr A out lv N s):DI A lv N s (ini N s) 0 (fun _=>True) (fun _=>0):=by
 have sN:=G.sN
 have hfa:∀v,v<N→(ini N s).far.getD v 0=if v=s then 0 else -1:=fun v hv=>by
  unfold ini;dsimp only
  rw [C7 (by simpa using sN),Aiy hv]
 have hdn:∀v,v<N→(ini N s).done.getD v true=false:=fun v hv=>by
  unfold ini;dsimp only;simp[hv]
 have hv0:∀v,v<N→0≤(ini N s).far.getD v 0→v=s:=fun v hv h=>by
  rw [hfa v hv]at h
  by_cases e:v=s
  ·exact e
  ·rw [if_neg e]at h;omega
 refine ⟨by simp[ini],by simp[ini],by simp[ini],fun k k0 kl=>?_,fun v hv h=>?_,fun x hx=>?_,fun v hv h1 h2=>?_,fun v hv h=>?_,fun x hx=>?_,fun k hk h=>?_,?_,Int.le_refl _,fun v hv h1 h2=>absurd (hv0 v hv h1) h2,rfl,fun v hv h=>Nat.zero_le _,fun v hv h=>?_,fun v hv h=>?_⟩
 ·simp [ini]at kl;omega
 ·rw [hv0 v hv h];exact .src
 ·simp only[ini,List.mem_singleton]at hx
  subst hx
  rw [hfa s sN,if_pos rfl]
  exact ⟨sN,Int.le_refl _,Int.le_refl _⟩
 ·have := hv0 v hv h1
  subst this
  rw [hfa v hv,if_pos rfl]
  simp [ini]
 ·rw [hdn v hv]at h;cases h
 ·simp only[ini,List.mem_singleton]at hx
  subst hx;exact Int.le_refl _
 ·rw [hdn _ (G.ar k hk).1]at h;cases h
 ·rw [hfa s sN,if_pos rfl]
 ·rw [hdn v hv]at h;cases h
 ·have := hv0 v hv h
  subst this
  rw [hfa v hv,if_pos rfl,G.l0];simp
structure FD (A:List Arc) (lv:List Int) (N s:Nat) (st:DS) (dp:Nat→Nat):Prop where
 lf : st.far.length=N
 ll : st.last.length=N
 ld : st.done.length=N
 don : ∀v,v<N→(st.done.getD v true=true↔Rch A s v)
 far : ∀v,v<N→(0≤st.far.getD v 0↔Rch A s v)
 clo : ∀k,k<A.length→0<aL A k→Rch A s (aF A k)→st.far.getD (aT A k) 0≤nxt A lv (st.far.getD (aF A k) 0) k
 src : st.far.getD s 0=0
 par : ∀v,v<N→Rch A s v→v≠s→∃k:Nat,st.last.getD v 0=(k:Int)∧k<A.length∧0<aL A k∧aT A k=v∧Rch A s (aF A k)∧st.far.getD v 0=nxt A lv (st.far.getD (aF A k) 0) k∧dp v=dp (aF A k)+1
 dps : dp s=0
 dpN : ∀v,v<N→Rch A s v→dp v<N
 mag : ∀v,v<N→Rch A s v → -(1000000*(N:Int))≤st.far.getD v 0+lv.getD v 0∧st.far.getD v 0+lv.getD v 0≤1000000*(N:Int)
theorem Ac6 (G:Gr A out lv N s) {v:Nat} (h:Rch A s v):v<N:=by
 cases h with
 | src=>exact G.sN
 | arc k hk hl h=>exact (G.ar k hk).2
theorem Qo (G:Gr A out lv N s):∃dp,FD A lv N s (FV A out lv N s) dp:=by
 obtain ⟨hq,d,dp,I⟩:=kG G (Nat.le_refl _) (kH G)
 have hst:Iq A out lv (EB out (ini N s)) (ini N s)=FV A out lv N s:=rfl
 rw [hst]at hq I
 generalize FV A out lv N s=st at *
 have hq:st.q = []:=List.length_eq_zero_iff.1 hq
 have h1:∀v,v<N→0≤st.far.getD v 0→st.done.getD v true=true:=fun v hv h=>by
  cases hd:st.done.getD v true with
  | true=>rfl
  | false =>
   have := I.cur v hv h hd
   rw [hq]at this;simp at this
 have h2:∀v,Rch A s v→v<N→0≤st.far.getD v 0:=fun v h=>by
  induction h with
  | src=>intro _;rw[I.src];exact Int.le_refl _
  | arc k hk hl h ih =>
   intro _
   have := ih (G.ar k hk).1
   exact (I.clo k hk (h1 _ (G.ar k hk).1 this) hl trivial).1
 have h3:∀v,v<N→(0≤st.far.getD v 0↔Rch A s v):=fun v hv=>⟨I.rch v hv,fun h=>h2 v h hv⟩
 have h4:∀v,v<N→(st.done.getD v true=true↔Rch A s v):=fun v hv=>⟨fun h=>I.rch v hv (I.dn v hv h).1,fun h=>h1 v hv (h2 v h hv)⟩
 have hcN:st.done.count true≤N:=by rw[←I.ld];exact List.count_le_length
 refine ⟨dp,I.lf,I.ll,I.ld,h4,h3,fun k hk hl hr=>?_,I.src,fun v hv hr hs=>?_,I.dps,fun v hv hr=>?_,fun v hv hr=>?_⟩
 ·exact (I.clo k hk ((h4 _ (G.ar k hk).1).2 hr) hl trivial).2
 ·obtain ⟨k,a1,a2,a3,a4,a5,a6,a7⟩:=I.par v hv ((h3 v hv).2 hr) hs
  exact ⟨k,a1,a2,a3,a4,(h4 _ (G.ar k a2).1).1 a5,a6,a7⟩
 ·have := I.dpd v hv ((h4 v hv).2 hr)
  omega
 ·have h5:=I.mag v hv ((h3 v hv).2 hr)
  have h6:=I.dpd v hv ((h4 v hv).2 hr)
  omega
theorem Mw {st:DS} {v:Nat} (h:v<N):(lvN lv st N).getD v 0=if st.done.getD v true=true then lv.getD v 0+st.far.getD v 0 else lv.getD v 0:=by
 unfold lvN;simp[h]
structure PathOK (A:List Arc) (lv':List Int) (s t:Nat) (P:List Nat):Prop where
 isP : IsP A s t P
 arc : ∀k∈P,k<A.length∧0<aL A k∧Rch A s (aF A k)∧Rch A s (aT A k)∧aP A k+lv'.getD (aF A k) 0-lv'.getD (aT A k) 0=0
 nd : (P.map (aT A)).Nodup
theorem WW (G:Gr A out lv N s) {st:DS} {dp:Nat→Nat} (F:FD A lv N s st dp):∀ {f v:Nat},v<N→Rch A s v→dp v≤f→PathOK A (lvN lv st N) s v (EI A st.last s f v)∧∀k∈EI A st.last s f v,dp (aT A k)≤dp v
 | 0,v,hv,hr,hf=>by
  have e:v=s:=by
   apply Classical.byContradiction
   intro g
   obtain ⟨k,_,_,_,_,_,_,h⟩:=F.par v hv hr g
   omega
  subst e
  exact ⟨⟨.nil,by simp[EI],by simp[EI]⟩,by simp[EI]⟩
 | f + 1,v,hv,hr,hf=>by
  simp only[EI]
  by_cases e:v=s
  ·subst e
   rw [if_pos rfl]
   exact ⟨⟨.nil,by simp,by simp⟩,by simp⟩
  ·rw [if_neg e]
   obtain ⟨k,a1,a2,a3,a4,a5,a6,a7⟩:=F.par v hv hr e
   rw [a1,Int.toNat_natCast]
   obtain ⟨⟨i1,i2,i3⟩,i4⟩:=WW G F (f:=f) (G.ar k a2).1 a5 (by omega)
   refine ⟨⟨?_,?_,?_⟩,?_⟩
   ·rw [←a4];exact .cons k _ i1
   ·intro j hj
    rcases List.mem_cons.1 hj with g | g
    ·subst g
     refine ⟨a2,a3,a5,by rw[a4];exact hr,?_⟩
     rw [Mw (G.ar j a2).1,Mw (G.ar j a2).2,if_pos ((F.don _ (G.ar j a2).1).2 a5),if_pos ((F.don _ (G.ar j a2).2).2 (by rw[a4];exact hr)),a4,a6]
     unfold nxt
     rw [a4];omega
    ·exact i2 j g
   ·rw [List.map_cons,List.nodup_cons]
    refine ⟨fun hm=>?_,i3⟩
    obtain ⟨j,hj,hje⟩:=List.mem_map.1 hm
    have := i4 j hj
    rw [hje,a4]at this
    omega
   ·intro j hj
    rcases List.mem_cons.1 hj with g | g
    ·subst g;rw[a4];exact Nat.le_refl _
    ·have := i4 j g;omega
theorem Lx (G:Gr A out lv N s) {t:Nat} (ht:Rch A s t):PathOK A (lvM A out lv N s) s t (CJ A out lv N s t):=by
 obtain ⟨dp,F⟩:=Qo G
 have hN:=Ac6 G ht
 have := F.dpN t hN ht
 exact (WW G F hN ht (by omega)).1
theorem Aa5 (G:Gr A out lv N s):(lvM A out lv N s).length=N∧(lvM A out lv N s).getD s 0=0∧(∀k,k<A.length→0<aL A k→Rch A s (aF A k)→0≤aP A k+(lvM A out lv N s).getD (aF A k) 0-(lvM A out lv N s).getD (aT A k) 0) ∧
  (∀ v,v<N→Rch A s v→lv.getD v 0≤(lvM A out lv N s).getD v 0 ∧ -(1000000*(N:Int))≤(lvM A out lv N s).getD v 0∧(lvM A out lv N s).getD v 0≤1000000*(N:Int))∧∀v,v<N→¬Rch A s v→(lvM A out lv N s).getD v 0=lv.getD v 0:=by
 obtain ⟨dp,F⟩:=Qo G
 have hy:∀v,v<N→Rch A s v→(lvM A out lv N s).getD v 0=lv.getD v 0+(FV A out lv N s).far.getD v 0:=fun v hv hr=>by
  unfold lvM;rw[Mw hv,if_pos ((F.don v hv).2 hr)]
 refine ⟨by simp[lvM,lvN],?_,fun k hk hl hr=>?_,fun v hv hr=>?_,fun v hv hr=>?_⟩
 ·rw [hy s G.sN .src,G.l0,F.src];rfl
 ·have hr2:Rch A s (aT A k):=.arc k hk hl hr
  rw [hy _ (G.ar k hk).1 hr,hy _ (G.ar k hk).2 hr2]
  have := F.clo k hk hl hr
  unfold nxt at this
  omega
 ·rw [hy v hv hr]
  have h1:=F.mag v hv hr
  have h2:=(F.far v hv).2 hr
  omega
 ·unfold lvM;rw[Mw hv,if_neg (fun h=>hr ((F.don v hv).1 h))]
end
end Sim
namespace Sim
def rv (k:Nat):Nat:=if k % 2=0 then k+1 else k-1
def CP (A:List Arc) (k:Nat) (x:Int):List Arc:=A.set k ((A.getD k dA).1,(A.getD k dA).2.1,(A.getD k dA).2.2.1+x,(A.getD k dA).2.2.2)
def CG (A:List Arc) (p:Int) (k:Nat):List Arc:=CP (CP A k (-p)) (rv k) p
def aug (A:List Arc) (p:Int) (P:List Nat):List Arc:=P.foldl (fun A k=>CG A p k) A
theorem Aa6 {k:Nat}:rv (rv k)=k:=by
 unfold rv
 by_cases h:k % 2=0
 ·rw [if_pos h,if_neg (show ¬(k+1) % 2=0 by omega)];omega
 ·rw [if_neg h,if_pos (show (k-1) % 2=0 by omega)];omega
theorem Ow {k m:Nat} (h:k<2*m):rv k<2*m:=by unfold rv;split <;> omega
theorem kJ {k:Nat}:rv k≠k:=by unfold rv;split <;> omega
theorem Eo {A:List Arc} {k:Nat} {x:Int}:(CP A k x).length=A.length:=by simp[CP]
theorem Ly {A:List Arc} {k j:Nat} {x:Int} (h:k<A.length):(CP A k x).getD j dA=if j=k then ((A.getD k dA).1,(A.getD k dA).2.1,(A.getD k dA).2.2.1+x,(A.getD k dA).2.2.2)else A.getD j dA:=by
 unfold CP
 rw [List.getD_eq_getElem?_getD,List.getElem?_set]
 by_cases e:j=k
 ·subst e;simp[h]
 ·have e':¬k=j:=fun g=>e g.symm
  rw [if_neg e',if_neg e,List.getD_eq_getElem?_getD]
section
variable {A:List Arc} {k j:Nat} {x:Int}
theorem kK (h:k<A.length):aF (CP A k x) j=aF A j:=by
 unfold aF;rw[Ly h];split
 ·rename_i e;rw[e]
 ·rfl
theorem kL (h:k<A.length):aT (CP A k x) j=aT A j:=by
 unfold aT;rw[Ly h];split
 ·rename_i e;rw[e]
 ·rfl
theorem Wd (h:k<A.length):aP (CP A k x) j=aP A j:=by
 unfold aP;rw[Ly h];split
 ·rename_i e;rw[e]
 ·rfl
theorem Mx (h:k<A.length):aL (CP A k x) j=if j=k then aL A k+x else aL A j:=by
 unfold aL;rw[Ly h];split <;> rfl
end
section
variable {A:List Arc} {p:Int} {m k j:Nat}
theorem Ep:(CG A p k).length=A.length:=by unfold CG;rw[Eo,Eo]
theorem Qp (hm:A.length=2*m) (h:k<2*m):aF (CG A p k) j=aF A j:=by
 have := Ow h
 unfold CG;rw[kK (by rw[Eo];omega),kK (by omega)]
theorem We (hm:A.length=2*m) (h:k<2*m):aT (CG A p k) j=aT A j:=by
 have := Ow h
 unfold CG;rw[kL (by rw[Eo];omega),kL (by omega)]
theorem kM (hm:A.length=2*m) (h:k<2*m):aP (CG A p k) j=aP A j:=by
 have := Ow h
 unfold CG;rw[Wd (by rw[Eo];omega),Wd (by omega)]
theorem KI (hm:A.length=2*m) (h:k<2*m):aL (CG A p k) j=aL A j-(if j=k then p else 0)+if j=rv k then p else 0:=by
 have h1:=Ow h
 have h2:=kJ (k:=k)
 unfold CG;rw[Mx (by rw[Eo];omega),Mx (by omega),Mx (by omega)]
 by_cases e1:j=rv k
 ·rw [if_pos e1,if_pos e1,if_neg (by omega),if_neg (by omega),e1];omega
 ·rw [if_neg e1,if_neg e1]
  by_cases e2:j=k
  ·rw [if_pos e2,if_pos e2,e2];omega
  ·rw [if_neg e2,if_neg e2];omega
theorem DT:∀ {P:List Nat} {A:List Arc},(aug A p P).length=A.length
 | [],_=>rfl
 | k::P,A=>by
  have e:aug A p (k::P)=aug (CG A p k) p P:=rfl
  rw [e,DT,Ep]
theorem JQ:∀ {P:List Nat} {A:List Arc},A.length=2*m→(∀k∈P,k<2*m)→aF (aug A p P) j=aF A j∧aT (aug A p P) j=aT A j∧aP (aug A p P) j=aP A j
 | [],_,_,_=>⟨rfl,rfl,rfl⟩
 | k::P,A,hm,h=>by
  have e:aug A p (k::P)=aug (CG A p k) p P:=rfl
  have hk:=h k (by simp)
  obtain ⟨h1,h2,h3⟩:=JQ (P:=P) (A:=CG A p k) (by rw[Ep];exact hm) fun k hk=>h k (by simp[hk])
  rw [e,h1,h2,h3,Qp hm hk,We hm hk,kM hm hk]
  exact ⟨rfl,rfl,rfl⟩
theorem Ox:∀ {P:List Nat} {A:List Arc},A.length=2*m→(∀k∈P,k<2*m)→aL (aug A p P) j=aL A j-p*(P.count j:Int)+p*(P.count (rv j):Int)
 | [],A,_,_=>by simp[aug]
 | k::P,A,hm,h=>by
  have e:aug A p (k::P)=aug (CG A p k) p P:=rfl
  have hk:=h k (by simp)
  rw [e,Ox (P:=P) (A:=CG A p k) (by rw[Ep];exact hm) fun k hk=>h k (by simp[hk]),KI hm hk]
  rw [List.count_cons,List.count_cons]
  have c1:(k==j)=decide (j=k):=by
   rw [Bool.eq_iff_iff];simp;exact⟨fun h=>h.symm,fun h=>h.symm⟩
  have c2:(k==rv j)=decide (j=rv k):=by
   rw [Bool.eq_iff_iff];simp
   exact ⟨fun h=>by rw[h,Aa6],fun h=>by rw[h,Aa6]⟩
  rw [c1,c2]
  have hx:∀(c:Nat) (q:Prop) [Decidable q],p*((c+(if decide q=true then 1 else 0):Nat):Int)=p*(c:Int)+if q then p else 0:=fun c q _=>by
   by_cases hq:q
   ·simp only[hq,decide_true,if_true]
    rw [Int.natCast_add,Int.mul_add];simp
   ·simp only[hq,decide_false,if_false]
    simp
  rw [hx,hx]
  omega
end
def fnA (A:List Arc) (N s t:Nat):FN:=⟨N,A.length / 2,s,t,fun i=>aF A (2*i),fun i=>aT A (2*i),fun i=>aL A (2*i)+aL A (2*i+1),fun i=>aP A (2*i)⟩
def flA (A:List Arc) (i:Nat):Int:=aL A (2*i+1)
structure WPr (A:List Arc) (m:Nat):Prop where
 len : A.length=2*m
 F : ∀i,i<m→aF A (2*i+1)=aT A (2*i)
 T : ∀i,i<m→aT A (2*i+1)=aF A (2*i)
 P : ∀i,i<m→aP A (2*i+1) = - aP A (2*i)
 nn : ∀j,j<2*m→0≤aL A j
theorem WPr.rv {A:List Arc} {m:Nat} (w:WPr A m) {k:Nat} (h:k<2*m):aF A (rv k)=aT A k∧aT A (rv k)=aF A k∧aP A (rv k) = - aP A k:=by
 unfold Sim.rv
 by_cases e:k % 2=0
 ·rw [if_pos e]
  have h1:=w.F (k / 2) (by omega)
  have h2:=w.T (k / 2) (by omega)
  have h3:=w.P (k / 2) (by omega)
  rw [show 2*(k / 2)=k by omega]at h1 h2 h3
  exact ⟨h1,h2,h3⟩
 ·rw [if_neg e]
  have h1:=w.F (k / 2) (by omega)
  have h2:=w.T (k / 2) (by omega)
  have h3:=w.P (k / 2) (by omega)
  rw [show 2*(k / 2)+1=k by omega,show 2*(k / 2)=k-1 by omega]at h1 h2 h3
  exact ⟨h2.symm,h1.symm,by omega⟩
section
variable {A:List Arc} {m N s t:Nat} {p:Int}
theorem aR {B:List Arc} (h:∀k,aF B k=aF A k∧aT B k=aT A k) {v:Nat} {P:List Nat} (hp:IsP A s v P):IsP B s v P:=by
 induction hp with
 | nil=>exact .nil
 | cons k P _ ih =>
  rw [←(h k).2]
  refine .cons k P ?_
  rw [(h k).1];exact ih
theorem WX {v:Nat} {P:List Nat} (hI:IsP A s v P):∀(w:∀i,i<m→aF A (2*i+1)=aT A (2*i)∧aT A (2*i+1)=aF A (2*i)) (hl:A.length=2*m),(∀k∈P,k<2*m)→∀x,(fnA A N s t).net (flA (aug A p P)) x=(fnA A N s t).net (flA A) x+((if s=x then p else 0)-if v=x then p else 0):=by
 intro w hl hP x
 have key:∀ {P:List Nat} {v:Nat} {B:List Arc},IsP B s v P→B.length=2*m→(∀i,i<m→aF B (2*i+1)=aT B (2*i)∧aT B (2*i+1)=aF B (2*i))→(∀k∈P,k<2*m)→(fnA B N s t).net (flA (aug B p P)) x=(fnA B N s t).net (flA B) x+((if s=x then p else 0)-if v=x then p else 0):=by
  intro P
  induction P with
  | nil =>
   intro v B h hl w hP
   cases h
   show (fnA B N s t).net (flA B) x=_
   omega
  | cons k P ih =>
   intro v B h hl w hP
   cases h with
   | cons _ _ h =>
    have hk:=hP k (by simp)
    have hs:∀j,aF (CG B p k) j=aF B j∧aT (CG B p k) j=aT B j:=fun j=>⟨Qp hl hk,We hl hk⟩
    have h1:=ih (v:=aF B k) (B:=CG B p k) (aR hs h) (by rw[Ep];exact hl) (fun i hi=>by rw[(hs _).1,(hs _).2,(hs _).1,(hs _).2];exact w i hi) fun j hj=>hP j (by simp[hj])
    have e:aug B p (k::P)=aug (CG B p k) p P:=rfl
    have hn:∀f,(fnA (CG B p k) N s t).net f x=(fnA B N s t).net f x:=fun f=>by
     unfold FN.net fnA
     dsimp only
     rw [Ep]
     have hF:∀j,aF (CG B p k) j=aF B j:=fun j=>(hs j).1
     have hT:∀j,aT (CG B p k) j=aT B j:=fun j=>(hs j).2
     simp only[hF,hT]
    rw [hn,hn]at h1
    rw [e,h1]
    -- one arc
    have hm:(fnA B N s t).m=m:=by show B.length / 2=m;rw[hl];omega
    have e2:(fnA B N s t).net (flA (CG B p k)) x=(fnA B N s t).net (flA B) x+Aj (fun i=>if k / 2=i then ((if aF B k=x then p else 0)-if aT B k=x then p else 0)else 0) m:=by
     unfold FN.net
     rw [hm,←BK]
     refine Af fun i hi=>?_
     show (if aF B (2*i)=x then flA (CG B p k) i else 0)-(if aT B (2*i)=x then flA (CG B p k) i else 0)=(if aF B (2*i)=x then flA B i else 0)-(if aT B (2*i)=x then flA B i else 0)+_
     unfold flA
     rw [KI hl hk]
     by_cases c:k / 2=i
     ·rw [if_pos c]
      by_cases e:k % 2=0
      ·have e1:k=2*i:=by omega
       have e2:rv k=2*i+1:=by unfold rv;rw[if_pos e];omega
       rw [if_neg (show ¬2*i+1=k by omega),if_pos e2.symm,e1]
       repeat' split
       all_goals omega
      ·have e1:k=2*i+1:=by omega
       have e2:rv k=2*i:=by unfold rv;rw[if_neg e];omega
       rw [if_pos e1.symm,if_neg (show ¬2*i+1=rv k by omega),e1,(w i hi).1,(w i hi).2]
       repeat' split
       all_goals omega
     ·have e2:¬2*i+1=rv k:=by unfold rv;split <;> omega
      rw [if_neg c,if_neg (show ¬2*i+1=k by omega),if_neg e2]
      simp
    rw [e2,B7,if_pos (by omega)]
    omega
 exact key hI hl w hP
theorem Ac7 {P:List Nat}:∀ {A:List Arc} (w:∀i,i<m→aF A (2*i+1)=aT A (2*i)∧aT A (2*i+1)=aF A (2*i)) (hl:A.length=2*m) (hP:∀k∈P,k<2*m),(∀i,(fnA (aug A p P) N s t).cap i=(fnA A N s t).cap i):=by
 intro A w hl hP i
 show aL (aug A p P) (2*i)+aL (aug A p P) (2*i+1)=aL A (2*i)+aL A (2*i+1)
 rw [Ox hl hP,Ox hl hP]
 have e1:rv (2*i)=2*i+1:=by unfold rv;rw[if_pos (by omega)]
 have e2:rv (2*i+1)=2*i:=by unfold rv;rw[if_neg (by omega)];omega
 rw [e1,e2];omega
theorem Ac8 (w:WPr A m) {P:List Nat} {lv':List Int} {v:Nat} (h:PathOK A lv' s v P) (hp:0≤p) (hk:∀k∈P,p≤aL A k):WPr (aug A p P) m:=by
 have hP:∀k∈P,k<2*m:=fun k hk=>by rw[←w.len];exact (h.arc k hk).1
 have hs:=fun j=>JQ (p:=p) (j:=j) w.len hP
 refine ⟨by rw[DT];exact w.len,fun i hi=>?_,fun i hi=>?_,fun i hi=>?_,fun j hj=>?_⟩
 ·rw [(hs _).1,(hs _).2.1];exact w.F i hi
 ·rw [(hs _).1,(hs _).2.1];exact w.T i hi
 ·rw [(hs _).2.2,(hs _).2.2];exact w.P i hi
 ·rw [Ox w.len hP]
  have h0:=w.nn j hj
  have hnd:P.Nodup:=List.Pairwise.of_map (aT A) (fun a b g e=>g (by rw[e])) h.nd
  have c1:P.count j≤1:=List.nodup_iff_count.1 hnd j
  have c2:(0:Int)≤p*(P.count (rv j):Int):=Int.mul_nonneg hp (by omega)
  by_cases hj:j∈P
  ·have := hk j hj
   have e:P.count j=1:=by have:=List.count_pos_iff.2 hj;omega
   rw [e];simp;omega
  ·rw [List.count_eq_zero_of_not_mem hj];simp;omega
end
end Sim
namespace Sim
structure SI (A:List Arc) (out:List (List Nat)) (lv:List Int) (N m s t:Nat) (sent:Int):Prop where
 wp : WPr A m
 ar : ∀k,k<A.length→aF A k<N∧aT A k<N
 out1 : ∀u,u<N→∀k∈out.getD u [],k<A.length∧aF A k=u
 out2 : ∀k,k<A.length→k∈out.getD (aF A k) []
 lo : out.length=N
 ll : lv.length=N
 sN : s<N
 tN : t<N
 st : s≠t
 pr : ∀k,k<A.length → -1000000≤aP A k∧aP A k≤1000000
 l0 : lv.getD s 0=0
 lvb : ∀v,v<N → -(1000000*(N:Int))≤lv.getD v 0∧lv.getD v 0≤1000000*(N:Int)
 val : (fnA A N s t).Val (flA A) sent
 pot : ∃φ:Nat→Int,(∀k,k<A.length→0<aL A k→0≤aP A k+φ (aF A k)-φ (aT A k))∧∀v,Rch A s v→φ v=lv.getD v 0
section
variable {A:List Arc} {out:List (List Nat)} {lv:List Int} {N m s t:Nat} {sent p:Int}
theorem SI.gr (S:SI A out lv N m s t sent):Gr A out lv N s:=by
 obtain ⟨φ,h1,h2⟩:=S.pot
 refine ⟨S.ar,S.out1,S.out2,S.lo,S.ll,S.sN,S.pr,fun k hk hl hr=>?_,S.l0⟩
 have := h1 k hk hl
 rwa [h2 _ hr,h2 _ (.arc k hk hl hr)]at this
theorem KJ {P:List Nat} (w:WPr A m) (hP:∀k∈P,k<2*m):fnA (aug A p P) N s t=fnA A N s t:=by
 have hs:=fun j=>JQ (p:=p) (j:=j) w.len hP
 have hc:=Ac7 (N:=N) (s:=s) (t:=t) (p:=p) (A:=A) (fun i hi=>⟨w.F i hi,w.T i hi⟩) w.len hP
 unfold fnA at hc ⊢
 dsimp only at hc
 rw [DT]
 have e1:(fun i=>aF (aug A p P) (2*i))=fun i=>aF A (2*i):=funext fun i=>(hs _).1
 have e2:(fun i=>aT (aug A p P) (2*i))=fun i=>aT A (2*i):=funext fun i=>(hs _).2.1
 have e3:(fun i=>aP (aug A p P) (2*i))=fun i=>aP A (2*i):=funext fun i=>(hs _).2.2
 have e4:(fun i=>aL (aug A p P) (2*i)+aL (aug A p P) (2*i+1))=fun i=>aL A (2*i)+aL A (2*i+1):=funext hc
 rw [e1,e2,e3,e4]
theorem wK (S:SI A out lv N m s t sent) (ht:Rch A s t) (hp:0≤p) (hk:∀k∈CJ A out lv N s t,p≤aL A k):SI (aug A p (CJ A out lv N s t)) out (lvM A out lv N s) N m s t (sent+p):=by
 have G:=S.gr
 have hpo:=Lx G ht
 obtain ⟨y1,y2,y3,y4,y5⟩:=Aa5 G
 generalize CJ A out lv N s t=P at *
 generalize lvM A out lv N s=lv' at *
 have hP:∀k∈P,k<2*m:=fun k hk=>by rw[←S.wp.len];exact (hpo.arc k hk).1
 have hs:=fun j=>JQ (p:=p) (j:=j) S.wp.len hP
 have hsF:∀j,aF (aug A p P) j=aF A j:=fun j=>(hs j).1
 have hsT:∀j,aT (aug A p P) j=aT A j:=fun j=>(hs j).2.1
 have hsP:∀j,aP (aug A p P) j=aP A j:=fun j=>(hs j).2.2
 -- an open arc was open, or is the reverse of one of the path
 have hop:∀k,k<A.length→0<aL (aug A p P) k→(0<aL A k)∨(rv k∈P):=fun k hk h=>by
  rw [Ox S.wp.len hP]at h
  by_cases c:rv k∈P
  ·exact .inr c
  ·rw [List.count_eq_zero_of_not_mem c]at h
   have := Int.mul_nonneg hp (show (0:Int)≤(P.count k:Int) by omega)
   refine .inl ?_
   simp at h;omega
 have hrev:∀k,k<A.length→rv k∈P→Rch A s (aF A k)∧Rch A s (aT A k)∧aP A k+lv'.getD (aF A k) 0-lv'.getD (aT A k) 0=0:=fun k hk h=>by
  obtain ⟨_,_,a1,a2,a3⟩:=hpo.arc _ h
  obtain ⟨b1,b2,b3⟩:=S.wp.rv (k:=k) (by rw[←S.wp.len];exact hk)
  rw [b1]at a1
  rw [b2]at a2
  rw [b1,b2,b3]at a3
  exact ⟨a2,a1,by omega⟩
 have hR:∀v,Rch (aug A p P) s v→Rch A s v:=fun v h=>by
  induction h with
  | src=>exact .src
  | arc k hk hl h ih =>
   rw [DT]at hk
   rw [hsT]
   rw [hsF]at ih
   rcases hop k hk hl with g | g
   ·exact .arc k hk g ih
   ·exact (hrev k hk g).2.1
 refine ⟨Ac8 S.wp hpo hp hk,fun k hk=>?_,fun u hu k hk=>?_,fun k hk=>?_,S.lo,y1,S.sN,S.tN,S.st,fun k hk=>?_,y2,fun v hv=>?_,fun v hv=>?_,?_⟩
 ·rw [hsF,hsT];rw[DT]at hk;exact S.ar k hk
 ·rw [hsF,DT];exact S.out1 u hu k hk
 ·rw [hsF];rw[DT]at hk;exact S.out2 k hk
 ·rw [hsP];rw[DT]at hk;exact S.pr k hk
 ·by_cases c:Rch A s v
  ·exact (y4 v hv c).2
  ·rw [y5 v hv c];exact S.lvb v hv
 ·have hn:=WX (N:=N) (t:=t) (p:=p) (m:=m) hpo.isP (fun i hi=>⟨S.wp.F i hi,S.wp.T i hi⟩) S.wp.len hP v
  rw [KJ S.wp hP,hn,S.val v hv]
  show (if s=v then sent else 0)-(if t=v then sent else 0)+_=(if s=v then sent+p else 0)-(if t=v then sent+p else 0)
  repeat' split
  all_goals omega
 ·obtain ⟨φ,f1,f2⟩:=S.pot
  refine ⟨fun v=>@ite _ (Rch A s v) (Classical.propDecidable _) (lv'.getD v 0) (φ v+2000000*(N:Int)),fun k hk hl=>?_,fun v hv=>?_⟩
  ·rw [DT]at hk
   rw [hsF,hsT,hsP]
   dsimp only
   rcases hop k hk hl with g | g
   ·have h1:=f1 k hk g
    obtain ⟨u1,u2⟩:=S.ar k hk
    by_cases c1:Rch A s (aF A k)
    ·have c2:Rch A s (aT A k):=.arc k hk g c1
     rw [if_pos c1,if_pos c2]
     exact y3 k hk g c1
    ·rw [if_neg c1]
     by_cases c2:Rch A s (aT A k)
     ·rw [if_pos c2]
      have h2:=f2 _ c2
      have h3:=y4 _ u2 c2
      have h4:=S.lvb _ u2
      omega
     ·rw [if_neg c2];omega
   ·obtain ⟨a1,a2,a3⟩:=hrev k hk g
    rw [if_pos a1,if_pos a2];omega
  ·dsimp only;rw[if_pos (hR v hv)]
theorem Qq (S:SI A out lv N m s t sent):(fnA A N s t).WF∧(fnA A N s t).Flow (flA A) sent∧∃φ,(fnA A N s t).Pot (flA A) φ:=by
 have hm:(fnA A N s t).m=m:=by show A.length / 2=m;rw[S.wp.len];omega
 obtain ⟨φ,f1,f2⟩:=S.pot
 have hl:=S.wp.len
 refine ⟨⟨S.sN,S.tN,fun i hi=>?_⟩,⟨fun i hi=>?_,fun i hi=>?_,S.val⟩,φ,fun i hi=>⟨fun h=>?_,fun h=>?_⟩⟩ <;> rw[hm]at hi
 ·exact S.ar (2*i) (by omega)
 ·exact S.wp.nn _ (by omega)
 ·have := S.wp.nn (2*i) (by omega)
  show aL A (2*i+1)≤aL A (2*i)+aL A (2*i+1)
  omega
 ·have h:aL A (2*i+1)<aL A (2*i)+aL A (2*i+1):=h
  exact f1 (2*i) (by omega) (by omega)
 ·have h:0<aL A (2*i+1):=h
  have := f1 (2*i+1) (by omega) h
  rw [S.wp.F i hi,S.wp.T i hi,S.wp.P i hi]at this
  show aP A (2*i)+φ (aF A (2*i))-φ (aT A (2*i))≤0
  omega
theorem Ac9 (S:SI A out lv N m s t sent) (h:¬Rch A s t) {f:Nat→Int} {b:Int} (hf:(fnA A N s t).Flow f b):b≤sent:=by
 have hm:(fnA A N s t).m=m:=by show A.length / 2=m;rw[S.wp.len];omega
 have hl:=S.wp.len
 refine @FN.cut (fnA A N s t) (Qq S).1 (flA A) f sent b (Rch A s) (fun _=>Classical.propDecidable _) S.val hf .src h (fun i hi h1 h2=>?_) fun i hi h1 h2=>?_
 ·rw [hm]at hi
  show aL A (2*i)+aL A (2*i+1)≤aL A (2*i+1)
  have : ¬0<aL A (2*i):=fun g=>h2 (.arc (2*i) (by omega) g h1)
  omega
 ·rw [hm]at hi
  show aL A (2*i+1)≤0
  have : ¬0<aL A (2*i+1):=fun g=>h1 (by
   have : Rch A s (aT A (2*i+1)):=.arc (2*i+1) (by omega) g (by rw[S.wp.F i hi];exact h2)
   rwa [S.wp.T i hi]at this)
  omega
end
def CV (A:List Arc) (b:Int) (P:List Nat):Int:=P.foldl (fun x k=>if aL A k<x then aL A k else x) b
theorem WY {A:List Arc}:∀ {P:List Nat} {b:Int},CV A b P≤b∧(∀k∈P,CV A b P≤aL A k)∧(0<b→(∀k∈P,0<aL A k)→0<CV A b P)
 | [],b=>⟨Int.le_refl _,by simp,fun h _=>h⟩
 | k::P,b=>by
  obtain ⟨h1,h2,h3⟩:=WY (A:=A) (P:=P) (b:=if aL A k<b then aL A k else b)
  have e:CV A b (k::P)=CV A (if aL A k<b then aL A k else b) P:=rfl
  rw [e]
  refine ⟨?_,fun j hj=>?_,fun hb hj=>h3 ?_ fun j hj'=>hj j (by simp[hj'])⟩
  ·split at h1 <;> rename_i c <;> simp only[c,if_true,if_false] <;> omega
  ·rcases List.mem_cons.1 hj with g | g
   ·subst g
    split at h1 <;> rename_i c <;> simp only[c,if_true,if_false] <;> omega
   ·exact h2 j g
  ·have := hj k (by simp)
   split <;> omega
inductive SendR (out:List (List Nat)) (N s t:Nat) (bytes:Int):List Arc→List Int→Int→List Arc→Int→Prop
 | full (A lv sent) (h:¬sent<bytes):SendR out N s t bytes A lv sent A sent
 | stop (A lv sent) (h:sent<bytes) (hd:(FV A out lv N s).done.getD t true=false):SendR out N s t bytes A lv sent A sent
 | step (A lv sent A' r) (h:sent<bytes) (hd:(FV A out lv N s).done.getD t true=true)
   (hr : SendR out N s t bytes (aug A (CV A (bytes-sent) (CJ A out lv N s t)) (CJ A out lv N s t)) (lvM A out lv N s) (sent+CV A (bytes-sent) (CJ A out lv N s t)) A' r):SendR out N s t bytes A lv sent A' r
theorem kN {out:List (List Nat)} {N s t:Nat} {bytes:Int} {A:List Arc} {lv:List Int} {sent:Int} {A' A'':List Arc} {r r':Int} (h:SendR out N s t bytes A lv sent A' r) (h':SendR out N s t bytes A lv sent A'' r'):A'=A''∧r=r':=by
 induction h with
 | full A lv sent h =>
  cases h' with
  | full=>exact⟨rfl,rfl⟩
  | stop _ _ _ g=>exact absurd g h
  | step _ _ _ _ _ g=>exact absurd g h
 | stop A lv sent h hd =>
  cases h' with
  | full _ _ _ g=>exact absurd h g
  | stop=>exact⟨rfl,rfl⟩
  | step _ _ _ _ _ _ g=>rw[hd]at g;cases g
 | step A lv sent A' r h hd hr ih =>
  cases h' with
  | full _ _ _ g=>exact absurd h g
  | stop _ _ _ _ g=>rw[hd]at g;cases g
  | step _ _ _ _ _ _ _ g=>exact ih g
section
variable {A:List Arc} {out:List (List Nat)} {lv:List Int} {N m s t:Nat} {sent bytes:Int}
theorem JR (S:SI A out lv N m s t sent):(FV A out lv N s).done.getD t true=true↔Rch A s t:=by
 obtain ⟨dp,F⟩:=Qo S.gr
 exact F.don t S.tN
theorem My (S:SI A out lv N m s t sent) (h:sent<bytes) (hd:(FV A out lv N s).done.getD t true=true):SI (aug A (CV A (bytes-sent) (CJ A out lv N s t)) (CJ A out lv N s t)) out (lvM A out lv N s) N m s t (sent+CV A (bytes-sent) (CJ A out lv N s t))∧0<CV A (bytes-sent) (CJ A out lv N s t)∧CV A (bytes-sent) (CJ A out lv N s t)≤bytes-sent:=by
 have ht:=(JR S).1 hd
 have hpo:=Lx S.gr ht
 obtain ⟨h1,h2,h3⟩:=WY (A:=A) (P:=CJ A out lv N s t) (b:=bytes-sent)
 have h4:=h3 (by omega) fun k hk=>(hpo.arc k hk).2.1
 exact ⟨wK S ht (by omega) h2,h4,h1⟩
theorem wL:∀(n:Nat) {A:List Arc} {lv:List Int} {sent:Int},(bytes-sent).toNat≤n→SI A out lv N m s t sent→∃A' r,SendR out N s t bytes A lv sent A' r:=by
 intro n
 induction n with
 | zero =>
  intro A lv sent hn S
  exact ⟨A,sent,.full _ _ _ (by omega)⟩
 | succ n ih =>
  intro A lv sent hn S
  by_cases h:sent<bytes
  ·cases hd:(FV A out lv N s).done.getD t true with
   | false=>exact⟨A,sent,.stop _ _ _ h hd⟩
   | true =>
    obtain ⟨S',h1,h2⟩:=My S h hd
    obtain ⟨A',r,hr⟩:=ih (by omega) S'
    exact ⟨A',r,.step _ _ _ _ _ h hd hr⟩
  ·exact ⟨A,sent,.full _ _ _ h⟩
theorem WZ {A':List Arc} {r:Int} (h:SendR out N s t bytes A lv sent A' r):SI A out lv N m s t sent→sent≤bytes→∃lv',SI A' out lv' N m s t r∧r≤bytes∧sent≤r∧(r<bytes→¬Rch A' s t)∧fnA A' N s t=fnA A N s t:=by
 induction h with
 | full A lv sent h=>exact fun S hb=>⟨lv,S,hb,Int.le_refl _,fun g=>absurd g h,rfl⟩
 | stop A lv sent h hd =>
  intro S hb
  exact ⟨lv,S,hb,Int.le_refl _,fun _ g=>(by rw[(JR S).2 g]at hd;cases hd),rfl⟩
 | step A lv sent A' r h hd hr ih =>
  intro S hb
  obtain ⟨S',h1,h2⟩:=My S h hd
  obtain ⟨lv',a1,a2,a3,a4,a5⟩:=ih S' (by omega)
  refine ⟨lv',a1,a2,by omega,a4,a5.trans ?_⟩
  have hpo:=Lx S.gr ((JR S).1 hd)
  exact KJ S.wp fun k hk=>by rw[←S.wp.len];exact (hpo.arc k hk).1
end
noncomputable def C8 (A:List Arc) (out:List (List Nat)) (lv:List Int) (N s t:Nat) (bytes:Int):List Arc×Int:=@dite _ (∃x:List Arc×Int,SendR out N s t bytes A lv 0 x.1 x.2) (Classical.propDecidable _) Classical.choose fun _=>([],0)
theorem SW {A:List Arc} {out:List (List Nat)} {lv:List Int} {N s t:Nat} {bytes:Int} {A':List Arc} {r:Int} (h:SendR out N s t bytes A lv 0 A' r):C8 A out lv N s t bytes=(A',r):=by
 unfold C8
 rw [dif_pos ⟨(A',r),h⟩]
 have := Classical.choose_spec (⟨(A',r),h⟩:∃x:List Arc×Int,SendR out N s t bytes A lv 0 x.1 x.2)
 obtain ⟨h1,h2⟩:=kN this h
 exact Prod.ext h1 h2
theorem Qr {A:List Arc} {out:List (List Nat)} {lv:List Int} {N m s t:Nat} {bytes:Int} (S:SI A out lv N m s t 0):SendR out N s t bytes A lv 0 (C8 A out lv N s t bytes).1 (C8 A out lv N s t bytes).2:=by
 obtain ⟨A',r,h⟩:=wL (bytes:=bytes) _ (Nat.le_refl _) S
 rw [SW h];exact h
end Sim
