/- What functions of this seat compute, by values: contracts (lemmas of the statement's proof, under the conditions that each names). -/
import Derived.Test.YtppljhpecoeakaaQLM
import Derived.Test.YtppljhpecoeakaaQM
set_option linter.unusedVariables false
set_option linter.unusedSimpArgs false
set_option maxRecDepth 10000
set_option maxHeartbeats 4000000
namespace Sim
open Go Go.Proofs
def Ao (d:Dem):Nat:=(d.2.2.2.2-d.2.2.2.1).toNat
abbrev AA (hn:Int) (ls:List Lnk) (us:List Snd) (d:Dem):TN:=GI hn ls us d.2.2.2.1
def AR (hn:Int) (d:Dem):Nat:=(Ao d+1)*hn.toNat
def AW (hn:Int) (ls:List Lnk) (d:Dem):Nat:=Ao d*(hn.toNat+ls.length)
noncomputable def BA (hn:Int) (ls:List Lnk) (us:List Snd) (d:Dem) (bytes:Int):List Arc×Int :=
 if d.1=d.2.1 then (gA (AA hn ls us d).p (AW hn ls d),bytes)
 else De (gA (AA hn ls us d).p (AW hn ls d)) (gO (AA hn ls us d).p (AR hn d) (AW hn ls d)) (List.replicate (AR hn d) 0) (AR hn d) d.1.toNat (Ao d*hn.toNat+d.2.1.toNat) bytes
noncomputable def G5 (hn:Int) (ls:List Lnk) (us:List Snd) (d:Dem) (bytes:Int):Nat→Nat→Int:=(AA hn ls us d).gf (flA (BA hn ls us d bytes).1)
theorem Ca {hn:Int} {d:Dem} (h:C6 hn d=true):(0≤d.1∧d.1<hn)∧(0≤d.2.1∧d.2.1<hn)∧DU d:=by
 simp only[C6,Bool.and_eq_true,decide_eq_true_eq,hOK]at h
 exact ⟨h.1.1,h.1.2,h.2⟩
structure PlanOK (hn:Int) (ls:List Lnk) (us:List Snd) (d:Dem) (bytes:Int):Prop where
 len : (BA hn ls us d bytes).1.length=2*AW hn ls d
 plan : (AA hn ls us d).Plan (Ao d) d.1.toNat d.2.1.toNat (BA hn ls us d bytes).2 (G5 hn ls us d bytes)
 n0 : 0≤(BA hn ls us d bytes).2
 n1 : (BA hn ls us d bytes).2≤bytes
 max : (BA hn ls us d bytes).2<bytes→∀b g,b≤1099511627776→(AA hn ls us d).Plan (Ao d) d.1.toNat d.2.1.toNat b g→b≤(BA hn ls us d bytes).2
 opt : ∀(c:Int) (f:Nat→Int),0≤c→(∀i,i<((AA hn ls us d).G (Ao d) d.1.toNat d.2.1.toNat).m→0≤f i∧f i≤c*((AA hn ls us d).G (Ao d) d.1.toNat d.2.1.toNat).cap i)→((AA hn ls us d).G (Ao d) d.1.toNat d.2.1.toNat).Val f (c*(BA hn ls us d bytes).2) →
  c * (AA hn ls us d).cst (Ao d) (G5 hn ls us d bytes)≤((AA hn ls us d).G (Ao d) d.1.toNat d.2.1.toNat).cost f
 flow : d.1≠d.2.1→((AA hn ls us d).G (Ao d) d.1.toNat d.2.1.toNat).Flow (flA (BA hn ls us d bytes).1) (BA hn ls us d bytes).2
theorem EB {hn:Int} {ls:List Lnk} {us:List Snd} {d:Dem} {bytes:Int} (hf:Br hn ls us=0) (hd:C6 hn d=true) (hb:0≤bytes):PlanOK hn ls us d bytes:=by
 obtain ⟨⟨a0,a1⟩,⟨c0,c1⟩,hr⟩:=Ca hd
 have ok:=CZ (r:=d.2.2.2.1) (D:=Ao d) hf
 have ha:d.1.toNat<(AA hn ls us d).h:=by show d.1.toNat<hn.toNat;omega
 have hc:d.2.1.toNat<(AA hn ls us d).h:=by show d.2.1.toNat<hn.toNat;omega
 have hpo:=TN.p_ok ok
 by_cases e:d.1=d.2.1
 ·have hP:BA hn ls us d bytes=(gA (AA hn ls us d).p (AW hn ls d),bytes):=by unfold BA;rw[if_pos e]
  have hz:∀k t,k<(AA hn ls us d).L→t<Ao d→G5 hn ls us d bytes k t=0:=fun k t hk ht=>by
   unfold G5
   rw [hP]
   exact J8 (TN.pair_lt ht (by show _<(AA hn ls us d).h+(AA hn ls us d).L;omega))
  have hpl:(AA hn ls us d).Plan (Ao d) d.1.toNat d.2.1.toNat bytes (fun _ _=>0):=by
   have eo:∀x t,(AA hn ls us d).outF (fun _ _=>0) x t=0:=fun x t=>AY fun k _=>by split <;> rfl
   have ei:∀x t,(AA hn ls us d).inF (fun _ _=>0) x t=0:=fun x t=>AY fun k _=>by split <;> rfl
   have es:∀t x,(AA hn ls us d).stk d.1.toNat bytes (fun _ _=>0) t x=if d.1.toNat=x then bytes else 0:=fun t x=>by
    induction t with
    | zero=>rfl
    | succ t ih=>rw[TN.stk,ih,eo,ei];omega
   refine ⟨fun _ _ _ _=>Int.le_refl _,fun k t hk ht=>ok.lf k t hk ht,fun t x ht hx=>?_,fun x hx=>?_⟩
   ·rw [eo,es];split <;> omega
   ·rw [es,e]
  refine ⟨by rw[hP];exact Cr,?_,by rw[hP];exact hb,by rw[hP];exact Int.le_refl _,fun h=>by rw[hP]at h;exact absurd h (Int.lt_irrefl _),fun c f hc0 hfl _=>?_,fun g=>absurd e g⟩
  ·rw [hP];exact hpl.congr fun k t hk ht=>(hz k t hk ht).symm
  ·rw [TN.cst_congr hz]
   have : (AA hn ls us d).cst (Ao d) (fun _ _=>0)=0:=AY fun t _=>AY fun k _=>Int.mul_zero _
   rw [this,Int.mul_zero]
   exact Bt fun i hi=>Int.mul_nonneg (hpo i hi).2.2.2.2.1 (hfl i hi).1
 ·have hP:BA hn ls us d bytes=De (gA (AA hn ls us d).p (AW hn ls d)) (gO (AA hn ls us d).p (AR hn d) (AW hn ls d)) (List.replicate (AR hn d) 0) (AR hn d) d.1.toNat (Ao d*hn.toNat+d.2.1.toNat) bytes:=by unfold BA;rw[if_neg e]
  have hs:d.1.toNat<AR hn d:=by
   have := TN.node_lt (T:=AA hn ls us d) (D:=Ao d) (t:=0) (by omega) ha
   rw [Nat.zero_mul,Nat.zero_add]at this
   exact this
  have ht:Ao d*hn.toNat+d.2.1.toNat<AR hn d:=TN.node_lt (T:=AA hn ls us d) (Nat.le_refl _) hc
  have hst:d.1.toNat≠Ao d*hn.toNat+d.2.1.toNat:=fun g=>by
   have :=(TN.src_eq (T:=AA hn ls us d) (t:=Ao d) ha hc).1 g
   omega
  obtain ⟨g1,⟨φ,g2⟩,g3,g4,g5,g6⟩:=WR (p:=(AA hn ls us d).p) (n:=AW hn ls d) (N:=AR hn d) hpo hs ht hst hb
  rw [←hP]at g1 g2 g3 g4 g5 g6
  have hpl:=TN.flow_plan (T:=AA hn ls us d) (D:=Ao d) ok ha hc g1
  refine ⟨g6,hpl.1,g3,g4,fun hlt b g hb2 hg=>g5 hlt _ _ (TN.plan_flow ok ha hc hb2 hg).1,fun c f hc0 hfl hv=>?_,fun _=>g1⟩
  have := FN.opt (G:=(AA hn ls us d).G (Ao d) d.1.toNat d.2.1.toNat) (Q6 hpo hs ht) g1 g2 (fun i hi=>(hfl i hi).1) (fun i hi=>(hfl i hi).2) hv rfl hc0
  rw [hpl.2]at this
  exact this
theorem PlanOK.best {hn:Int} {ls:List Lnk} {us:List Snd} {d:Dem} {bytes:Int} (P:PlanOK hn ls us d bytes) (hf:Br hn ls us=0) (hd:C6 hn d=true) {b:Int} {g:Nat→Nat→Int} (hb:b≤1099511627776) (h:(AA hn ls us d).Plan (Ao d) d.1.toNat d.2.1.toNat b g) :
  (∀ c:Int,1≤c→b=c*(BA hn ls us d bytes).2→c*(AA hn ls us d).cst (Ao d) (G5 hn ls us d bytes)≤(AA hn ls us d).cst (Ao d) g):=fun c hc e=>by
 obtain ⟨⟨a0,a1⟩,⟨c0,c1⟩,hr⟩:=Ca hd
 have ok:=CZ (r:=d.2.2.2.1) (D:=Ao d) hf
 have ha:d.1.toNat<(AA hn ls us d).h:=by show d.1.toNat<hn.toNat;omega
 have hc':d.2.1.toNat<(AA hn ls us d).h:=by show d.2.1.toNat<hn.toNat;omega
 obtain ⟨f1,f2⟩:=TN.plan_flow ok ha hc' hb h
 have := P.opt c _ (by omega) (fun i hi=>⟨f1.nn i hi,?_⟩) (by rw[←e];exact f1.val)
 ·rw [f2]at this;exact this
 ·have h1:=f1.nn i hi
  have h2:=f1.le i hi
  have h5:=Int.le_trans h1 h2
  have := Int.mul_le_mul_of_nonneg_right hc h5
  rw [Int.one_mul]at this
  exact Int.le_trans h2 this
end Sim
namespace Sim
open Go Go.Proofs
attribute [local congr] Aq Ar Al AG At As Az
theorem Afg (a b:GE) (st:Store) (h:K1 a=K1 b) (hx:K0 a st) (hy:K0 b st):Je a st=Je b st:=by
 obtain ⟨B,A,out,lv,m,s,t,x⟩:=a
 obtain ⟨B',A',out',lv',m',s',t',x'⟩:=b
 simp only[K1,gP,List.cons.injEq,and_true,PV.ptr.injEq,PV.int.injEq,true_and]at h
 have e1:B=B':=by omega
 have e2:s=s':=by omega
 have e3:t=t':=by omega
 obtain ⟨_,_,_,e4⟩:=h
 subst e1;subst e2;subst e3;subst e4
 obtain ⟨a1,a2,a3⟩:=GrAt.same hx.1 hy.1
 dsimp only at a1 a2 a3
 subst a1;subst a2;subst a3
 rfl
theorem Afh (x:GE) {st:Store} (h:K0 x st):Bi K1 K0 Je [gP x.B,I (x.s:Nat),I (x.t:Nat),I x.b] st=some (Je x st):=Bu Afg (i:=x) h
structure GW where
 hn : Int
 ls : List Lnk
 us : List Snd
 d : Dem
 b : Int
def K2 (x:GW):List PV := [lZ (x.hn,x.ls),Av x.us,B7 x.d,I x.b]
def Jh (x:GW) (st:Store):Prop:=WF st∧(∀i r,st.obj i≠some (.lp r))∧Br x.hn x.ls x.us=0∧C6 x.hn x.d=true∧Ao x.d≤100∧0≤x.b∧x.b≤1099511627776
def gBx (M n N:Nat):PV:=.agg [.ref (M+4) n 0 (2*n),.ref M 1 0 N,.ref (M+1) 1 0 N]
def plO (ob:Nat→Option IObj) (M n N:Nat) (A:List Arc):Nat→Option IObj:=fun i=>if i=M+2 then some (.arr 0 3 [gBx M n N])else if i=M+4 then some (.arr n 4 (A.map Dj))else ob i
noncomputable def Ji (x:GW) (st:Store):PV×Store:=(.tuple [gP st.next,I (BA x.hn x.ls x.us x.d x.b).2],⟨plO st.obj st.next (AW x.hn x.ls x.d) (AR x.hn x.d) (BA x.hn x.ls x.us x.d x.b).1,st.next+5⟩)
noncomputable def e_plan:Nat×Ent:=(45,.x (Bi K2 Jh Ji))
theorem Yd {ob O:Nat→Option IObj} {M n N n2:Nat} {A:List Arc} {r r':Int} (h1:WF ⟨ob,M⟩) (g2:O (M+2)=some (.arr 0 3 [gBx M n N])) (g4:O (M+4)=some (.arr n 4 (A.map Dj))) (fr:∀i o,ob i=some o→O i=some o) (hr:r'=r) :
  Mt ⟨ob,M⟩ (.tuple [gP M,I r]) ⟨plO ob M n N A,M+5⟩ (.tuple [gP M,I r']) ⟨O,n2⟩:=by
 refine ⟨[],.inl (by rw[hr]),fun i o hi=>?_,by dsimp only;omega,.tuple _ fun c hc=>?_⟩
 ·dsimp only at hi ⊢
  unfold plO at hi
  by_cases c2:i=M+2
  ·rw [if_pos c2]at hi
   cases hi
   refine ⟨by omega,rfl,by rw[c2];exact g2,.inr fun e he c hc=>?_⟩
   rw [List.mem_singleton]at he
   subst he
   simp only[gBx,PV.cells,List.mem_cons,List.not_mem_nil,or_false]at hc
   rcases hc with hc | hc | hc <;> (rw[hc];exact .ref _ _ _ _ (by omega))
  rw [if_neg c2]at hi
  by_cases c4:i=M+4
  ·rw [if_pos c4]at hi
   cases hi
   exact ⟨by omega,rfl,by rw[c4];exact g4,.inr Rj⟩
  rw [if_neg c4]at hi
  have := h1 i o hi
  dsimp only at this
  exact ⟨by omega,rfl,fr i o hi,.inl hi⟩
 ·simp only[List.mem_cons,List.not_mem_nil,or_false]at hc
  rcases hc with hc | hc
  ·rw [hc];exact .ptr _ _ _ _ (by dsimp only;omega)
  ·rw [hc];exact .int _ _
theorem Ai4 {ob:Nat→Option IObj} {M N:Nat} {A:List Arc} {out:List (List Nat)} (h1:WF ⟨ob,M⟩):WF ⟨mkO ob M A out N,M+5+N⟩:=fun i o hi=>by
 dsimp only at hi ⊢
 unfold mkO at hi
 by_cases c0:i=M
 ·omega
 rw [if_neg c0]at hi
 by_cases c1:i=M+1
 ·omega
 rw [if_neg c1]at hi
 by_cases c2:i=M+2
 ·omega
 rw [if_neg c2]at hi
 by_cases c4:i=M+4
 ·omega
 rw [if_neg c4]at hi
 by_cases c5:M+5≤i∧i<M+5+N
 ·exact c5.2
 rw [if_neg c5]at hi
 have := h1 i o hi
 dsimp only at this
 omega
theorem Ai5 {ob:Nat→Option IObj} {M N:Nat} {A:List Arc} {out:List (List Nat)} (h:∀i r,ob i≠some (.lp r)):∀i r,mkO ob M A out N i≠some (.lp r):=fun i r hi=>by
 unfold mkO at hi
 repeat' (split at hi)
 all_goals first | (cases hi;done) | exact h i r hi
theorem Ab6 {ob:Nat→Option IObj} {M N:Nat} {A:List Arc} {out:List (List Nat)} (h1:WF ⟨ob,M⟩) {i:Nat} {o:IObj} (hi:ob i=some o):mkO ob M A out N i=some o:=by
 have := h1 i o hi
 dsimp only at this
 unfold mkO
 rw [if_neg (by omega),if_neg (by omega),if_neg (by omega),if_neg (by omega),if_neg (by omega)];exact hi
theorem Afi:AL Try.prog e_plan.1 e_plan.2:=FX fun x st hx=>by
 obtain ⟨hn,ls,us,d,b⟩:=x
 obtain ⟨ob,M⟩:=st
 unfold Jh at hx
 dsimp only at hx
 obtain ⟨h1,h2,hf,hd,hD,hb0,hb1⟩:=hx
 have hlp:∀i r,ob i≠some (.lp r):=h2
 simp only[K2,Ji]
 have hP:=EB (bytes:=b) hf hd hb0
 obtain ⟨⟨a0,a1⟩,⟨c0,c1⟩,hr⟩:=Ca hd
 obtain ⟨okr,_⟩:=Cf hf
 have hh:=okr.net.houses
 have hln:=okr.net.len
 have hdu:d.2.2.2.2=d.2.2.2.1+(Ao d:Nat):=by unfold Ao;have:=hr.2.2.2.1;omega
 have hnn:((hn.toNat:Nat):Int)=hn:=by omega
 have sm:=Aff ⟨hn.toNat,Ao d,ls,us,d⟩ (st:=⟨ob,M⟩) ⟨h1,by dsimp only;rw[hnn];exact okr,hr.2.2.1,hdu,hD,hr.2.2.2.2,by dsimp only;rw[hnn];exact hf⟩
 simp only[EI,GM.T,GM.N,GM.n,hnn]at sm
 have ok:=CZ (r:=d.2.2.2.1) (D:=Ao d) hf
 have hpo:=TN.p_ok ok
 have hNb:AR hn d≤1212:=Nat.le_trans (Nat.mul_le_mul (show Ao d+1≤101 by omega) (show hn.toNat≤12 by omega)) (by decide)
 have hnb:AW hn ls d≤7200:=Nat.le_trans (Nat.mul_le_mul hD (show hn.toNat+ls.length≤72 by omega)) (by decide)
 have hg:=Ai3 (ob:=ob) (M:=M) (A:=gA (AA hn ls us d).p (AW hn ls d)) (out:=gO (AA hn ls us d).p (AR hn d) (AW hn ls d)) (N:=AR hn d) DE
 have g2:=hg.o2
 have hAl:=Cr (p:=(AA hn ls us d).p) (n:=AW hn ls d)
 have hOl:=DE (p:=(AA hn ls us d).p) (N:=AR hn d) (n:=AW hn ls d)
 have hbx:Iz M (gA (AA hn ls us d).p (AW hn ls d)) (gO (AA hn ls us d).p (AR hn d) (AW hn ls d)) (List.replicate (AR hn d) 0)=gBx M (AW hn ls d) (AR hn d):=by
  unfold Iz gBx
  rw [hAl,hOl,List.length_replicate,show 2*AW hn ls d / 2=AW hn ls d by omega]
 rw [hbx]at g2
 have hpre:BA hn ls us d b=if d.1=d.2.1 then (gA (AA hn ls us d).p (AW hn ls d),b)else De (gA (AA hn ls us d).p (AW hn ls d)) (gO (AA hn ls us d).p (AR hn d) (AW hn ls d)) (List.replicate (AR hn d) 0) (AR hn d) d.1.toNat (Ao d*hn.toNat+d.2.1.toNat) b:=rfl
 have hNe:(Ao d+1)*hn.toNat=AR hn d:=rfl
 have hne:Ao d*(hn.toNat+ls.length)=AW hn ls d:=rfl
 rw [hNe,hne]at sm
 unfold gP at sm
 by_cases e:d.1=d.2.1
 ·rw [if_pos e]at hpre
  rw [hpre]
  dsimp only[B7]at sm
  rw [e]at sm
  refine Cj AP (l := [e_make,e_send]) ((Ad oX (Ad oS An))) [] [] 0 Try.func45 rfl (by decide +kernel) (N:=39) rfl (by simp) rfl (by kernel_rfl) ?_
  simp +contextual (maxSteps:=4000000) only[↓bdD,bdP,Nat.reduceLT,Nat.reduceBEq,Ai,Nat.reduceAdd,↓reduceIte,e_make,e_send,Ac,Ab,Try.f45,ty3,Au,AB,AQ,sm,e]
  refine Yd h1 g2 ?_ (fun i o hi=>Ab6 h1 hi) rfl
  have := hg.o4
  rw [hAl,show 2*AW hn ls d / 2=AW hn ls d by omega]at this
  exact this
 ·rw [if_neg e]at hpre
  have hs:d.1.toNat<AR hn d:=by
   have := TN.node_lt (T:=AA hn ls us d) (D:=Ao d) (t:=0) (by omega) (show d.1.toNat<hn.toNat by omega)
   rw [Nat.zero_mul,Nat.zero_add]at this
   exact this
  have ht:Ao d*hn.toNat+d.2.1.toNat<AR hn d:=TN.node_lt (T:=AA hn ls us d) (Nat.le_refl _) (show d.2.1.toNat<hn.toNat by omega)
  have hst:d.1.toNat≠Ao d*hn.toNat+d.2.1.toNat:=fun g=>by
   have :=(TN.src_eq (T:=AA hn ls us d) (t:=Ao d) (show d.1.toNat<hn.toNat by omega) (show d.2.1.toNat<hn.toNat by omega)).1 g
   omega
  have hsi:=oD hpo hs ht hst
  have hme:EG (gO (AA hn ls us d).p (AR hn d) (AW hn ls d)) (ini (AR hn d) d.1.toNat)≤AR hn d*AW hn ls d+1:=Aer (N:=AR hn d) (n:=AW hn ls d) hpo
  have hmul:AR hn d*AW hn ls d≤8726400:=Nat.le_trans (Nat.mul_le_mul hNb hnb) (by decide)
  have sd:=Afh ⟨M,gA (AA hn ls us d).p (AW hn ls d),gO (AA hn ls us d).p (AR hn d) (AW hn ls d),List.replicate (AR hn d) 0,AW hn ls d,d.1.toNat,Ao d*hn.toNat+d.2.1.toNat,b⟩ (st:=⟨mkO ob M (gA (AA hn ls us d).p (AW hn ls d)) (gO (AA hn ls us d).p (AR hn d) (AW hn ls d)) (AR hn d),M+5+AR hn d⟩) (by
   refine ⟨hg,?_,?_,Ai4 h1,Ai5 hlp,?_,?_,?_,hb0,hb1,fun i=>?_⟩ <;> simp only[List.length_replicate]
   ·exact hsi
   ·exact Nat.le_refl _
   ·omega
   ·omega
   ·exact Nat.le_trans hme (by omega)
   ·show aL _ (2*i)+aL _ (2*i+1)≤_
    by_cases c:i<AW hn ls d
    ·rw [oA c,J8 c]
     obtain ⟨t,ht',⟨x,hx,rfl⟩ | ⟨k,hk,rfl⟩⟩:=TN.house_of (T:=AA hn ls us d) (D:=Ao d) ok.h1 c
     ·rw [TN.p_house hx];show (1099511627776:Int)+0≤1099511627776;decide
     ·rw [TN.p_link hk]
      have hk':k<ls.length:=hk
      have q1:=Fl hf (k:=(k:Int)) (t:=d.2.2.2.1+(t:Int)) ⟨by omega,by omega⟩
      have q2:=ES okr.net (link:=(k:Int)) (tick:=d.2.2.2.1+(t:Int)) (by omega) (by omega)
      show CT ls (k:Int) (d.2.2.2.1+(t:Int))-Ba us (k:Int) (d.2.2.2.1+(t:Int)) us.length+0≤_
      omega
    ·unfold aL
     rw [List.getD_eq_getElem?_getD,List.getElem?_eq_none (by omega),List.getD_eq_getElem?_getD,List.getElem?_eq_none (by omega)];decide)
  simp only[Je,List.length_replicate]at sd
  unfold gP at sd
  rw [←hpre]at sd
  have hlen:=hP.len
  generalize BA hn ls us d b=res at *
  obtain ⟨u,hu⟩:∃u:Nat,d.1=(u:Int):=⟨d.1.toNat,by omega⟩
  obtain ⟨v,hv⟩:∃v:Nat,d.2.1=(v:Int):=⟨d.2.1.toNat,by omega⟩
  have wD:IntKind.i64.wrap (d.2.2.2.2-d.2.2.2.1)=(Ao d:Int):=by rw[Aj (by omega) (by omega)];omega
  have hDh:Ao d*hn.toNat≤1200:=Nat.le_trans (Nat.mul_le_mul hD (show hn.toNat≤12 by omega)) (by decide)
  have wm:IntKind.i64.wrap ((Ao d:Int)*hn)=((Ao d*hn.toNat:Nat):Int):=by
   rw [show ((Ao d:Int)*hn)=((Ao d*hn.toNat:Nat):Int) by rw[Int.natCast_mul,hnn],Aj (by omega) (by omega)]
  have wa:IntKind.i64.wrap (((Ao d*hn.toNat:Nat):Int)+(v:Int))=((Ao d*hn.toNat+v:Nat):Int):=by rw[←Int.natCast_add,Aj (by omega) (by omega)]
  rw [hu,hv,Int.toNat_natCast,Int.toNat_natCast]at sd
  dsimp only[B7]at sm
  rw [hu,hv]at sm
  have e':¬(u:Int)=(v:Int):=by rw[←hu,←hv];exact e
  refine Cj AP (l := [e_make,e_send]) ((Ad oX (Ad oS An))) [] [] 0 Try.func45 rfl (by decide +kernel) (N:=39) rfl (by simp) rfl (by kernel_rfl) ?_
  simp +contextual (maxSteps:=4000000) only[↓bdD,bdP,Nat.reduceLT,Nat.reduceBEq,Ai,Nat.reduceEqDiff,Nat.reduceAdd,↓reduceIte,e_make,e_send,Ac,Ab,Try.f45,ty3,Au,AB,AQ,JQ,sm,sd,hu,hv,e',wD,wm,wa]
  refine Yd h1 ?_ ?_ (fun i o hi=>?_) rfl
  ·simp only[Aa]
   rw [if_neg (by omega),if_neg (by omega)];exact g2
  ·simp only[Aa]
   rw [if_neg (by omega),if_pos trivial,hAl,show 2*AW hn ls d / 2=AW hn ls d by omega]
  ·have := h1 i o hi
   dsimp only at this
   simp only[Aa]
   rw [if_neg (by omega),if_neg (by omega)];exact Ab6 h1 hi
theorem Afj (a b:GW) (st:Store) (h:K2 a=K2 b) (hx:Jh a st) (hy:Jh b st):Ji a st=Ji b st:=by
 obtain ⟨h1,ls1,us1,⟨df1,dt1,db1,dr1,dd1⟩,b1⟩:=a
 obtain ⟨h2,ls2,us2,⟨df2,dt2,db2,dr2,dd2⟩,b2⟩:=b
 simp only[K2,List.cons.injEq,and_true,PV.agg.injEq,PV.int.injEq,PV.lits.injEq,AF,AM,true_and]at h
 obtain ⟨⟨e1,e2⟩,e3,⟨e4,e5,e6,e7,e8⟩,e9⟩:=h
 subst e1;subst e2;subst e3;subst e4;subst e5;subst e6;subst e7;subst e8;subst e9
 rfl
theorem Afk (x:GW) {st:Store} (h:Jh x st):Bi K2 Jh Ji [lZ (x.hn,x.ls),Av x.us,B7 x.d,I x.b] st=some (Ji x st):=Bu Afj (i:=x) h
end Sim
namespace Sim
open Go Go.Proofs
attribute [local congr] Aq Ar Al AG At As Az
def Dp (hn:Int) (ls:List Lnk) (us:List Snd) (d:Dem):Int:=if Br hn ls us≠0 then Br hn ls us else if C6 hn d=false then 1 else if 32<d.2.2.2.2-d.2.2.2.1 then 2 else 0
theorem fck_zero {hn:Int} {ls:List Lnk} {us:List Snd} {d:Dem}:Dp hn ls us d=0↔Br hn ls us=0∧C6 hn d=true∧d.2.2.2.2-d.2.2.2.1≤32:=by
 unfold Dp
 by_cases h1:Br hn ls us=0
 ·rw [if_neg (fun g=>g h1)]
  by_cases h2:C6 hn d=false
  ·rw [if_pos h2];simp[h2]
  ·rw [if_neg h2]
   by_cases h3:32<d.2.2.2.2-d.2.2.2.1
   ·rw [if_pos h3];simp;intro _ _;omega
   ·rw [if_neg h3];simp[h1];exact⟨by simpa using h2,by omega⟩
 ·rw [if_pos h1];simp[h1]
theorem dB {hn:Int} {ls:List Lnk} {us:List Snd} (h:Br hn ls us=0):AN hn ls []=0:=right_zero.2 ⟨(Cf h).1.net,by simp,by simp,by simp,by simp,by simp⟩
theorem dC {hn:Int} {ls:List Lnk} {us:List Snd} {d:Dem} (h:Br hn ls us=0):(DD hn ls [] d 0 0).2=if C6 hn d=false then 1 else 0:=by
 have hh:=(Cf h).1.net.houses
 unfold DD
 rw [if_neg (fun g=>g (dB h))]
 by_cases c:C6 hn d=false
 ·rw [if_pos (.inl c),if_pos c]
 ·rw [if_neg (by simp[c,hOK];omega),if_neg c]
noncomputable def HN:(Int)×(List Lnk)×(List Snd)×(Dem)→List PV:=fun (hn,ls,us,d) => [.agg [I hn,Ax ls],Av us,B7 d]
noncomputable def T4:(Int)×(List Lnk)×(List Snd)×(Dem)→PV:=fun (hn,ls,us,d)=>I (Dp hn ls us d)
def T5:(Int)×(List Lnk)×(List Snd)×(Dem)→Prop:=fun (hn,ls,us,d)=>True
noncomputable def e_fcheck:Nat×Ent:=(38,.v (Ah HN T4 T5))
theorem oY:∀i j,HN i=HN j→i=j:=by
 rintro ⟨hn₁,ls₁,us₁,d₁⟩ ⟨hn₂,ls₂,us₂,d₂⟩ h
 simp only[HN,List.cons.injEq,and_true,PV.lits.injEq,PV.int.injEq,PV.agg.injEq,true_and,AM,AF]at h
 simp [Prod.ext_iff,h] <;> omega
theorem HO (hn:Int) (ls:List Lnk) (us:List Snd) (d:Dem):Ah HN T4 T5 [.agg [I hn,Ax ls],Av us,B7 d]=some (I (Dp hn ls us d)):=AC oY (i:=(hn,ls,us,d)) trivial
def T6:Prop:=∀(hn:Int) (ls:List Lnk) (us:List Snd) (d:Dem) ,VC Try.prog 38 [.agg [I hn,Ax ls],Av us,B7 d] (I (Dp hn ls us d))
def T7:Prop:=AL Try.prog e_fcheck.1 e_fcheck.2
theorem oZ (c:T6):T7:=Ap fun⟨hn,ls,us,d⟩ h=>c hn ls us d
theorem pA:T6:=by
 intro hn ls us d
 refine A3 AP (l := [e_fits,e_Stock]) ((Ad mW (Ad XV An))) [] []  Try.func38 rfl (by decide +kernel) (N:=31) rfl (by simp) rfl (by kernel_rfl) fun hs=>?_
 simp only[AJ,PV.small,List.length_map,and_true,true_and]at hs
 unfold Dp
 by_cases h1:Br hn ls us=0
 case neg =>
  rw [if_pos h1]
  generalize hr:Br hn ls us=r at *
  simp +contextual (maxSteps:=4000000) only[↓bdD,bdP,Nat.reduceLT,Nat.reduceBEq,Ai,Nat.reduceAdd,st0,↓reduceIte,e_fits,KP,e_Stock,Ac,Ab,Try.f38,Au,AB,h1,hr]
 rw [if_neg (fun g=>g h1)]
 have hsp:=QY (hn:=hn) (ls:=ls) (l := []) (d:=d) (at_:=0) (tick:=0)
 rw [show Av []=PV.lits 3 [] from rfl]at hsp
 have hst:=dC (d:=d) h1
 generalize DD hn ls [] d 0 0=q at *
 by_cases h2:C6 hn d=false
 ·rw [if_pos h2]at hst ⊢
  rw [hst]at hsp
  simp +contextual (maxSteps:=4000000) only[↓bdD,bdP,Nat.reduceLT,Nat.reduceBEq,Ai,Nat.reduceEqDiff,Nat.reduceAdd,Int.reduceEq,st0,↓reduceIte,e_fits,KP,e_Stock,Ac,Ab,Try.f38,ty3,Au,AB,AQ,h1,hsp]
 rw [if_neg h2]at hst ⊢
 rw [hst]at hsp
 obtain ⟨_,_,hr⟩:=Ca (hn:=hn) (d:=d) (by simpa using h2)
 have hr0:=hr.2.2.1
 have hr1:=hr.2.2.2.1
 have hr2:=hr.2.2.2.2
 have wD:IntKind.i64.wrap (d.2.2.2.2-d.2.2.2.1)=d.2.2.2.2-d.2.2.2.1:=Aj (by omega) (by omega)
 by_cases h3:32<d.2.2.2.2-d.2.2.2.1
 ·rw [if_pos h3]
  simp +contextual (maxSteps:=4000000) only[↓bdD,bdP,Nat.reduceLT,Nat.reduceBEq,Ai,Nat.reduceEqDiff,Nat.reduceAdd,st0,↓reduceIte,e_fits,KP,e_Stock,Ac,Ab,Try.f38,ty3,Au,AB,AQ,h1,hsp,wD,h3]
 ·rw [if_neg h3]
  simp +contextual (maxSteps:=4000000) only[↓bdD,bdP,Nat.reduceLT,Nat.reduceBEq,Ai,Nat.reduceEqDiff,Nat.reduceAdd,st0,↓reduceIte,e_fits,KP,e_Stock,Ac,Ab,Try.f38,ty3,Au,AB,AQ,h1,hsp,wD,h3]
theorem T8:T7:=oZ pA
noncomputable def Ge:(Int)×(List Lnk)×(List Snd)×(Dem)→List PV:=fun (hn,ls,us,d) => [.agg [I hn,Ax ls],Av us,B7 d]
noncomputable def Pq:(Int)×(List Lnk)×(List Snd)×(Dem)→PV:=fun (hn,ls,us,d)=>I (Dp hn ls us d)
def Pr:(Int)×(List Lnk)×(List Snd)×(Dem)→Prop:=fun (hn,ls,us,d)=>True
noncomputable def e_rfcheck:Nat×Ent:=(39,.v (Ah Ge Pq Pr))
theorem dD:∀i j,Ge i=Ge j→i=j:=by
 rintro ⟨hn₁,ls₁,us₁,d₁⟩ ⟨hn₂,ls₂,us₂,d₂⟩ h
 simp only[Ge,List.cons.injEq,and_true,PV.lits.injEq,PV.int.injEq,PV.agg.injEq,true_and,AM,AF]at h
 simp [Prod.ext_iff,h] <;> omega
theorem Ps (hn:Int) (ls:List Lnk) (us:List Snd) (d:Dem):Ah Ge Pq Pr [.agg [I hn,Ax ls],Av us,B7 d]=some (I (Dp hn ls us d)):=AC dD (i:=(hn,ls,us,d)) trivial
def Pt:Prop:=∀(hn:Int) (ls:List Lnk) (us:List Snd) (d:Dem) ,VC Try.prog 39 [.agg [I hn,Ax ls],Av us,B7 d] (I (Dp hn ls us d))
def Pv:Prop:=AL Try.prog e_rfcheck.1 e_rfcheck.2
theorem dE (c:Pt):Pv:=Ap fun⟨hn,ls,us,d⟩ h=>c hn ls us d
theorem dF:Pt:=by
 intro hn ls us d
 refine A3 AP (l := [e_rright,e_rfits,e_rdemand]) ((Ad ML (Ad XL (Ad OU An)))) [] []  Try.func39 rfl (by decide +kernel) (N:=33) rfl (by simp) rfl (by kernel_rfl) fun hs=>?_
 simp only[AJ,PV.small,List.length_map,and_true,true_and]at hs
 unfold Dp
 by_cases h0:AN hn ls us=0
 case neg =>
  have : Br hn ls us=AN hn ls us:=by unfold Br;rw[if_pos h0]
  rw [this,if_pos h0]
  generalize hr:AN hn ls us=r at *
  simp +contextual (maxSteps:=4000000) only[↓bdD,bdP,Nat.reduceLT,Nat.reduceBEq,Ai,Nat.reduceAdd,st0,↓reduceIte,e_rright,Df,e_rfits,e_rdemand,Ac,Ab,Try.f39,Au,AB,h0,hr]
 by_cases h1:Br hn ls us=0
 case neg =>
  rw [if_pos h1]
  generalize hr:Br hn ls us=r at *
  simp +contextual (maxSteps:=4000000) only[↓bdD,bdP,Nat.reduceLT,Nat.reduceBEq,Ai,Nat.reduceEqDiff,Nat.reduceAdd,st0,↓reduceIte,e_rright,Df,e_rfits,Ie,e_rdemand,Ac,Ab,Try.f39,Au,AB,h0,h1,hr]
 rw [if_neg (fun g=>g h1)]
 by_cases h2:C6 hn d=false
 ·rw [if_pos h2]
  simp +contextual (maxSteps:=4000000) only[↓bdD,bdP,Nat.reduceLT,Nat.reduceBEq,Ai,Nat.reduceEqDiff,Nat.reduceAdd,st0,↓reduceIte,e_rright,Df,e_rfits,Ie,e_rdemand,EX,Ac,Ab,Try.f39,Au,AB,AQ,h0,h1,h2]
 rw [if_neg h2]
 have h2':C6 hn d=true:=by simpa using h2
 obtain ⟨_,_,hr⟩:=Ca h2'
 have hr0:=hr.2.2.1
 have hr1:=hr.2.2.2.1
 have hr2:=hr.2.2.2.2
 have wD:IntKind.i64.wrap (d.2.2.2.2-d.2.2.2.1)=d.2.2.2.2-d.2.2.2.1:=Aj (by omega) (by omega)
 by_cases h3:32<d.2.2.2.2-d.2.2.2.1
 ·rw [if_pos h3]
  simp +contextual (maxSteps:=4000000) only[↓bdD,bdP,Nat.reduceLT,Nat.reduceBEq,Ai,Nat.reduceEqDiff,Nat.reduceAdd,st0,↓reduceIte,e_rright,Df,e_rfits,Ie,e_rdemand,EX,Ac,Ab,Try.f39,ty3,Au,AB,AQ,h0,h1,h2',wD,h3]
 ·rw [if_neg h3]
  simp +contextual (maxSteps:=4000000) only[↓bdD,bdP,Nat.reduceLT,Nat.reduceBEq,Ai,Nat.reduceEqDiff,Nat.reduceAdd,st0,↓reduceIte,e_rright,Df,e_rfits,Ie,e_rdemand,EX,Ac,Ab,Try.f39,ty3,Au,AB,AQ,h0,h1,h2',wD,h3]
theorem dG:Pv:=dE dF
theorem CB {hn:Int} {ls:List Lnk} {us:List Snd} {d:Dem} (h:Dp hn ls us d=0):Br hn ls us=0∧C6 hn d=true∧Ao d≤32∧d.2.2.2.2=d.2.2.2.1+(Ao d:Nat):=by
 obtain ⟨h1,h2,h3⟩:=fck_zero.1 h
 obtain ⟨_,_,hr⟩:=Ca h2
 have := hr.2.2.2.1
 exact ⟨h1,h2,by unfold Ao;omega,by unfold Ao;omega⟩
theorem Afl {hn:Int} {ls:List Lnk} {us:List Snd} {d:Dem} {b:Int} (h:Dp hn ls us d=0) (hb:0≤b∧b≤1099511627776):Jh ⟨hn,ls,us,d,b⟩ ⟨fun _=>none,0⟩:=by
 obtain ⟨h1,h2,h3,_⟩:=CB h
 exact ⟨fun i o hi=>(by cases hi),fun i r hi=>(by cases hi),h1,h2,(by dsimp only;omega),hb⟩
noncomputable def IN (hn:Int) (ls:List Lnk) (us:List Snd) (d:Dem):Int:=if Dp hn ls us d=0 then (BA hn ls us d 1099511627776).2 else 0
end Sim
namespace Sim
open Go Go.Proofs
attribute [local congr] Aq Ar Al AG At As Az
def Cb (A:List Arc) (h W:Nat) (r:Int):Nat→List Snd
 | 0 => []
 | i+1=>Cb A h W r i++if h≤i % W∧0<flA A i then [(((i % W-h:Nat):Int),r+((i / W:Nat):Int),flA A i)]else []
theorem T9 {A:List Arc} {h W:Nat} {r:Int}:∀n,(Cb A h W r n).length≤n
 | 0=>Nat.le_refl _
 | n+1=>by
  have := T9 (A:=A) (h:=h) (W:=W) (r:=r) n
  rw [Cb,List.length_append]
  split <;> simp <;> omega
noncomputable def DF (hn:Int) (ls:List Lnk) (us:List Snd) (d:Dem):Int:=if Dp hn ls us d≠0 then Dp hn ls us d else if (BA hn ls us d d.2.2.1).2<d.2.2.1 then 21 else 0
noncomputable def CV (hn:Int) (ls:List Lnk) (us:List Snd) (d:Dem):List Snd:=if DF hn ls us d=0 then Cb (BA hn ls us d d.2.2.1).1 hn.toNat (hn.toNat+ls.length) d.2.2.2.1 (AW hn ls d)else []
noncomputable def Kh:(Int)×(List Lnk)×(List Snd)×(Dem)→List PV:=fun (hn,ls,us,d) => [.agg [I hn,Ax ls],Av us,B7 d]
noncomputable def Ye:(Int)×(List Lnk)×(List Snd)×(Dem)→PV:=fun (hn,ls,us,d)=>.tuple [Av (CV hn ls us d),I (DF hn ls us d)]
def Yf:(Int)×(List Lnk)×(List Snd)×(Dem)→Prop:=fun (hn,ls,us,d)=>True
noncomputable def e_cheap:Nat×Ent:=(24,.v (Ah Kh Ye Yf))
theorem Aad:∀i j,Kh i=Kh j→i=j:=by
 rintro ⟨hn₁,ls₁,us₁,d₁⟩ ⟨hn₂,ls₂,us₂,d₂⟩ h
 simp only[Kh,List.cons.injEq,and_true,PV.lits.injEq,PV.int.injEq,PV.agg.injEq,true_and,AM,AF]at h
 simp [Prod.ext_iff,h] <;> omega
theorem Rl (hn:Int) (ls:List Lnk) (us:List Snd) (d:Dem):Ah Kh Ye Yf [.agg [I hn,Ax ls],Av us,B7 d]=some (.tuple [Av (CV hn ls us d),I (DF hn ls us d)]):=AC Aad (i:=(hn,ls,us,d)) trivial
def Yg:Prop:=∀(hn:Int) (ls:List Lnk) (us:List Snd) (d:Dem) ,VC Try.prog 24 [.agg [I hn,Ax ls],Av us,B7 d] (.tuple [Av (CV hn ls us d),I (DF hn ls us d)])
def Yh:Prop:=AL Try.prog e_cheap.1 e_cheap.2
theorem Aae (c:Yg):Yh:=Ap fun⟨hn,ls,us,d⟩ h=>c hn ls us d
theorem Aaf:Yg:=by
 intro hn ls us d
 refine A3 AP (l := [e_fcheck,e_plan]) ((Ad T8 (Ad Afi An))) [] []  Try.func24 rfl (by decide +kernel) (N:=91) rfl (by simp) rfl (by kernel_rfl) fun hs=>?_
 simp only[AJ,PV.small,List.length_map,and_true,true_and]at hs
 by_cases h1:Dp hn ls us d=0
 case neg =>
  have e1:DF hn ls us d=Dp hn ls us d:=by unfold DF;rw[if_pos h1]
  have e2:CV hn ls us d = []:=by unfold CV;rw[e1,if_neg h1]
  rw [e1,e2]
  generalize hr:Dp hn ls us d=r at *
  simp +contextual (maxSteps:=4000000) only[↓bdD,bdP,Nat.reduceLT,Nat.reduceBEq,Ai,Nat.reduceAdd,st0,↓reduceIte,e_fcheck,HO,e_plan,Ac,Ab,Try.f24,Au,AB,AQ,h1,hr]
 obtain ⟨hf,hd,hD,hdu⟩:=CB h1
 obtain ⟨_,_,hr⟩:=Ca hd
 have hr0:=hr.1
 have hr1:=hr.2.1
 have hr2:=hr.2.2.1
 have hr3:=hr.2.2.2.2
 have hh:=(Cf hf).1.net.houses
 have hln:=(Cf hf).1.net.len
 have hP:=EB (bytes:=d.2.2.1) hf hd (by omega)
 have sp:=Afk ⟨hn,ls,us,d,d.2.2.1⟩ (st:=⟨fun _=>none,0⟩) (Afl h1 ⟨by omega,by omega⟩)
 simp only[Ji]at sp
 unfold gP at sp
 dsimp only[lZ,B7]at sp
 have hn1:=hP.n1
 have hlen:=hP.len
 obtain ⟨h,hhe⟩:∃h:Nat,hn=(h:Int):=⟨hn.toNat,by omega⟩
 have hnb:AW hn ls d≤2304:=Nat.le_trans (Nat.mul_le_mul hD (show hn.toNat+ls.length≤72 by omega)) (by decide)
 by_cases h2:(BA hn ls us d d.2.2.1).2<d.2.2.1
 ·have e1:DF hn ls us d=21:=by unfold DF;rw[if_neg (fun g=>g h1),if_pos h2]
  have e2:CV hn ls us d = []:=by unfold CV;rw[e1,if_neg (by decide)]
  rw [e1,e2]
  generalize BA hn ls us d d.2.2.1=q at *
  simp +contextual (maxSteps:=4000000) only[↓bdD,bdP,Nat.reduceLT,Nat.reduceBEq,Ai,Nat.reduceEqDiff,Nat.reduceAdd,st0,↓reduceIte,e_fcheck,HO,e_plan,Ac,Ab,Try.f24,ty3,Au,AB,AQ,h1,sp,h2]
 have e1:DF hn ls us d=0:=by unfold DF;rw[if_neg (fun g=>g h1),if_neg h2]
 have e2:CV hn ls us d=Cb (BA hn ls us d d.2.2.1).1 hn.toNat (hn.toNat+ls.length) d.2.2.2.1 (AW hn ls d):=by unfold CV;rw[if_pos e1]
 rw [e1,e2]
 clear e1 e2
 subst hhe
 rw [Int.toNat_natCast]at *
 generalize AW (h:Int) ls d=n at *
 generalize AR (h:Int) d=N at *
 have wW:IntKind.i64.wrap ((h:Int)+(ls.length:Int))=((h+ls.length:Nat):Int):=by rw[←Int.natCast_add,Aj (by omega) (by omega)]
 obtain ⟨W,hW⟩:∃W,h+ls.length=W:=⟨_,rfl⟩
 rw [hW]at wW ⊢
 generalize BA (h:Int) ls us d d.2.2.1=q at *
 obtain ⟨A,sn⟩:=q
 dsimp only at sp hn1 hlen h2 ⊢
 clear hP
 have hW0:0<W:=by omega
 have hO2:plO (fun _=>none) 0 n N A 2=some (.arr 0 3 [gBx 0 n N]):=rfl
 have hO4:plO (fun _=>none) 0 n N A 4=some (.arr n 4 (A.map Dj)):=rfl
 unfold gBx at hO2
 generalize plO (fun _=>none) 0 n N A=O at *
 simp +contextual (maxSteps:=4000000) only[↓bdD,bdP,Nat.reduceLT,Nat.reduceBEq,Nat.reduceEqDiff,Nat.reduceAdd,st0,↓reduceIte,e_fcheck,HO,e_plan,Ac,Ab,Try.f24,ty3,By,Au,AB,AQ,h1,sp,h2,wW]
 refine Ay [11,13,14,15,16,43,44,45,46,47,48,49,50,51,52,53,54,55,56,57,58,59,60,61,62,63,64,65,66,67,68,69,70,71,72,73,74,75,76,77,78,79,80,81,82,83,84,85,86,87,88,89] n (fun j ρ st'=>ρ 13=I ((2*j:Nat):Int)∧GS st' (ρ 11) 5 3 ((Cb A h W d.2.2.2.1 j).map Hc)∧st'.obj 2=some (.arr 0 3 [.agg [.ref (0+4) n 0 (2*n),.ref 0 1 0 N,.ref (0+1) 1 0 N]])∧st'.obj 4=some (.arr n 4 (A.map Dj))) (.slot _ 11 3 ?_ ?_) ?_ ?_
 ·simp +contextual (maxSteps:=4000000) only[↓bdD,bdP,Nat.reduceBEq]
 ·decide
 ·simp +contextual (maxSteps:=4000000) only[↓bdD,bdP,Nat.reduceBEq,Nat.reduceAdd,Nat.reduceMul,Store.new,hO2,hO4]
  simp [Cb]
 rintro j ρ ⟨ob,M⟩ hj ⟨h13,⟨g,h11,ho⟩,ho2,ho4⟩
 dsimp only at ho ho2 ho4
 rw [List.length_map]at h11
 rw [Nat.zero_add]at ho2
 by_cases hlt:j<n
 ·have hol:=T9 (A:=A) (h:=h) (W:=W) (r:=d.2.2.2.1) j
  have hstep:Cb A h W d.2.2.2.1 (j+1)=Cb A h W d.2.2.2.1 j++if h≤j % W∧0<flA A j then [(((j % W-h:Nat):Int),d.2.2.2.1+((j / W:Nat):Int),flA A j)]else []:=rfl
  have hlen2:2*j+1<A.length:=by omega
  have hnA:=Ck hlen2
  have hfl:(A.getD (2*j+1) dA).2.2.1=flA A j:=rfl
  rw [hfl]at hnA
  have c1:((2*j:Nat):Int)<((2*n:Nat):Int):=by omega
  have w1:IntKind.i64.wrap (((2*j:Nat):Int)+1)=((2*j+1:Nat):Int):=BO (by omega)
  have w2:IntKind.i64.wrap (((2*j:Nat):Int)+2)=((2*(j+1):Nat):Int):=by rw[Aj (by omega) (by omega)];omega
  have t1:Int.tdiv ((2*j:Nat):Int) 2=(j:Int):=by rw[Int.tdiv_eq_ediv_of_nonneg (by omega)];omega
  have t2:Int.tdiv (j:Int) (W:Int)=((j / W:Nat):Int):=by rw[Int.tdiv_eq_ediv_of_nonneg (by omega)];rfl
  have t3:Int.tmod (j:Int) (W:Int)=((j % W:Nat):Int):=by rw[Int.tmod_eq_emod_of_nonneg (by omega)];rfl
  have hdv:j / W≤j:=Nat.div_le_self _ _
  have hml:j % W<W:=Nat.mod_lt _ hW0
  generalize j / W=qd at *
  generalize j % W=md at *
  have w3:IntKind.i64.wrap (j:Int)=(j:Int):=Aj (by omega) (by omega)
  have w4:IntKind.i64.wrap ((qd:Nat):Int)=((qd:Nat):Int):=Aj (by omega) (by omega)
  have w5:IntKind.i64.wrap (d.2.2.2.1+((qd:Nat):Int))=d.2.2.2.1+((qd:Nat):Int):=Aj (by omega) (by omega)
  have hWn:¬(W:Int)=0:=by omega
  have hWn':¬W=0:=by omega
  have hl2:((2*j+1:Nat):Int)<((2*n:Nat):Int):=by omega
  have hAl:(A.map Dj).length=2*n:=by rw[List.length_map,hlen]
  have hol1:(Cb A h W d.2.2.2.1 j).length+1≤2147483648:=by omega
  have htk:∀z,List.take ((Cb A h W d.2.2.2.1 j).length+1) (List.map Hc (Cb A h W d.2.2.2.1 j) ++ [z])=List.map Hc (Cb A h W d.2.2.2.1 j) ++ [z]:=fun z=>List.take_of_length_le (by simp)
  by_cases hc:h≤md
  ·have w6:IntKind.i64.wrap (((md:Nat):Int)-(h:Int))=((md-h:Nat):Int):=by rw[Aj (by omega) (by omega)];omega
   have hci:(h:Int)≤((md:Nat):Int):=by omega
   by_cases hp:0<flA A j
   ·rw [if_pos ⟨hc,hp⟩]at hstep
    generalize Cb A h W d.2.2.2.1 (j+1)=o2 at *
    generalize Cb A h W d.2.2.2.1 j=o1 at *
    generalize flA A j=fl at *
    simp +contextual (maxSteps:=4000000) only[↓bdD,bdP,Nat.reduceLT,Nat.reduceBEq,Nat.reduceAdd,Nat.reduceMul,Nat.reduceLeDiff,reduceCtorEq,Int.reduceEq,Store.set,↓reduceIte,ty3,Au,AB,AQ,Bv,KM,Hb,LA,h13,h11,ho,ho2,ho4,c1,w1,w2,t1,t2,t3,w3,w4,w5,w6,hWn,hl2,hAl,hnA,hci,hp,hol1,hstep]
    exact ⟨hlt,by rw[List.map_append];rfl⟩
   ·rw [if_neg (fun g=>hp g.2),List.append_nil]at hstep
    generalize Cb A h W d.2.2.2.1 (j+1)=o2 at *
    generalize Cb A h W d.2.2.2.1 j=o1 at *
    generalize flA A j=fl at *
    simp +contextual (maxSteps:=4000000) only[↓bdD,bdP,Nat.reduceLT,Nat.reduceBEq,Nat.reduceAdd,Int.reduceEq,↓reduceIte,ty3,Au,KM,Hb,LA,h13,h11,ho,ho2,ho4,c1,w1,w2,t1,t2,t3,w3,w4,hWn,hl2,hAl,hnA,hci,hp,hstep]
    exact hlt
  ·have hci:¬(h:Int)≤((md:Nat):Int):=by omega
   rw [if_neg (fun g=>hc g.1),List.append_nil]at hstep
   generalize Cb A h W d.2.2.2.1 (j+1)=o2 at *
   generalize Cb A h W d.2.2.2.1 j=o1 at *
   generalize flA A j=fl at *
   simp +contextual (maxSteps:=4000000) only[↓bdD,bdP,Nat.reduceLT,Nat.reduceBEq,Nat.reduceAdd,Int.reduceEq,↓reduceIte,ty3,Au,KM,Hb,LA,h13,h11,ho,ho2,ho4,c1,w1,w2,t1,t2,t3,w3,w4,hWn,hl2,hAl,hnA,hci,hstep]
   exact hlt
 ·have e:j=n:=by omega
  subst e
  have c1:¬((2*j:Nat):Int)<((2*j:Nat):Int):=by omega
  generalize Cb A h W d.2.2.2.1 j=o1 at *
  simp +contextual (maxSteps:=4000000) only[↓bdD,bdP,Nat.reduceLT,Nat.reduceBEq,Ai,Nat.reduceAdd,↓reduceIte,Ac,KM,Hb,h13,h11,ho,ho2,ho4,c1]
theorem Yi:Yh:=Aae Aaf
end Sim
