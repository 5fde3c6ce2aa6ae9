/- What functions of this seat compute, by values: contracts (lemmas of the statement's proof, under the conditions that each names). -/
import Derived.Test.YtppljhpecoeakaaQLM
import Derived.Test.YtppljhpecoeakaaQM
set_option linter.unusedVariables false
set_option linter.unusedSimpArgs false
set_option maxRecDepth 10000
set_option maxHeartbeats 4000000
namespace Sim
open Go Go.Proofs
def Aq (d:Dem):Nat:=(d.2.2.2.2-d.2.2.2.1).toNat
abbrev Au (hn:Int) (ls:List Lnk) (us:List Snd) (d:Dem):TN:=IJ hn ls us d.2.2.2.1
def AI (hn:Int) (d:Dem):Nat:=(Aq d+1)*hn.toNat
def AO (hn:Int) (ls:List Lnk) (d:Dem):Nat:=Aq d*(hn.toNat+ls.length)
noncomputable def Bs (hn:Int) (ls:List Lnk) (us:List Snd) (d:Dem) (bytes:Int):List Arc×Int :=
 if d.1=d.2.1 then (gA (Au hn ls us d).p (AO hn ls d),bytes)
 else CQ (gA (Au hn ls us d).p (AO hn ls d)) (gO (Au hn ls us d).p (AI hn d) (AO hn ls d)) (List.replicate (AI hn d) 0) (AI hn d) d.1.toNat (Aq d*hn.toNat+d.2.1.toNat) bytes
noncomputable def Hr (hn:Int) (ls:List Lnk) (us:List Snd) (d:Dem) (bytes:Int):Nat→Nat→Int:=(Au hn ls us d).gf (flA (Bs hn ls us d bytes).1)
theorem Cr {hn:Int} {d:Dem} (h:DO hn d=true):(0≤d.1∧d.1<hn)∧(0≤d.2.1∧d.2.1<hn)∧Hk d:=by
 simp only[DO,Bool.and_eq_true,decide_eq_true_eq,hOK]at h
 exact ⟨h.1.1,h.1.2,h.2⟩
structure PlanOK (hn:Int) (ls:List Lnk) (us:List Snd) (d:Dem) (bytes:Int):Prop where
 len : (Bs hn ls us d bytes).1.length=2*AO hn ls d
 plan : (Au hn ls us d).Plan (Aq d) d.1.toNat d.2.1.toNat (Bs hn ls us d bytes).2 (Hr hn ls us d bytes)
 n0 : 0≤(Bs hn ls us d bytes).2
 n1 : (Bs hn ls us d bytes).2≤bytes
 max : (Bs hn ls us d bytes).2<bytes→∀b g,b≤1099511627776→(Au hn ls us d).Plan (Aq d) d.1.toNat d.2.1.toNat b g→b≤(Bs hn ls us d bytes).2
 opt : ∀(c:Int) (f:Nat→Int),0≤c→(∀i,i<((Au hn ls us d).G (Aq d) d.1.toNat d.2.1.toNat).m→0≤f i∧f i≤c*((Au hn ls us d).G (Aq d) d.1.toNat d.2.1.toNat).cap i)→((Au hn ls us d).G (Aq d) d.1.toNat d.2.1.toNat).Val f (c*(Bs hn ls us d bytes).2) →
  c * (Au hn ls us d).cst (Aq d) (Hr hn ls us d bytes)≤((Au hn ls us d).G (Aq d) d.1.toNat d.2.1.toNat).cost f
 flow : d.1≠d.2.1→((Au hn ls us d).G (Aq d) d.1.toNat d.2.1.toNat).Flow (flA (Bs hn ls us d bytes).1) (Bs hn ls us d bytes).2
theorem EP {hn:Int} {ls:List Lnk} {us:List Snd} {d:Dem} {bytes:Int} (hf:BZ hn ls us=0) (hd:DO hn d=true) (hb:0≤bytes):PlanOK hn ls us d bytes:=by
 obtain ⟨⟨a0,a1⟩,⟨c0,c1⟩,hr⟩:=Cr hd
 have ok:=Di (r:=d.2.2.2.1) (D:=Aq d) hf
 have ha:d.1.toNat<(Au hn ls us d).h:=by show d.1.toNat<hn.toNat;omega
 have hc:d.2.1.toNat<(Au hn ls us d).h:=by show d.2.1.toNat<hn.toNat;omega
 have hpo:=TN.p_ok ok
 by_cases e:d.1=d.2.1
 ·have hP:Bs hn ls us d bytes=(gA (Au hn ls us d).p (AO hn ls d),bytes):=by unfold Bs;rw[if_pos e]
  have hz:∀k t,k<(Au hn ls us d).L→t<Aq d→Hr hn ls us d bytes k t=0:=fun k t hk ht=>by
   unfold Hr
   rw [hP]
   exact JD (TN.pair_lt ht (by show _<(Au hn ls us d).h+(Au hn ls us d).L;omega))
  have hpl:(Au hn ls us d).Plan (Aq d) d.1.toNat d.2.1.toNat bytes (fun _ _=>0):=by
   have eo:∀x t,(Au hn ls us d).outF (fun _ _=>0) x t=0:=fun x t=>AU fun k _=>by split <;> rfl
   have ei:∀x t,(Au hn ls us d).inF (fun _ _=>0) x t=0:=fun x t=>AU fun k _=>by split <;> rfl
   have es:∀t x,(Au hn ls us d).stk d.1.toNat bytes (fun _ _=>0) t x=if d.1.toNat=x then bytes else 0:=fun t x=>by
    induction t with
    | zero=>rfl
    | succ t ih=>rw[TN.stk,ih,eo,ei];omega
   refine ⟨fun _ _ _ _=>Int.le_refl _,fun k t hk ht=>ok.lf k t hk ht,fun t x ht hx=>?_,fun x hx=>?_⟩
   ·rw [eo,es];split <;> omega
   ·rw [es,e]
  refine ⟨by rw[hP];exact Cg,?_,by rw[hP];exact hb,by rw[hP];exact Int.le_refl _,fun h=>by rw[hP]at h;exact absurd h (Int.lt_irrefl _),fun c f hc0 hfl _=>?_,fun g=>absurd e g⟩
  ·rw [hP];exact hpl.congr fun k t hk ht=>(hz k t hk ht).symm
  ·rw [TN.cst_congr hz]
   have : (Au hn ls us d).cst (Aq d) (fun _ _=>0)=0:=AU fun t _=>AU fun k _=>Int.mul_zero _
   rw [this,Int.mul_zero]
   exact Bm fun i hi=>Int.mul_nonneg (hpo i hi).2.2.2.2.1 (hfl i hi).1
 ·have hP:Bs hn ls us d bytes=CQ (gA (Au hn ls us d).p (AO hn ls d)) (gO (Au hn ls us d).p (AI hn d) (AO hn ls d)) (List.replicate (AI hn d) 0) (AI hn d) d.1.toNat (Aq d*hn.toNat+d.2.1.toNat) bytes:=by unfold Bs;rw[if_neg e]
  have hs:d.1.toNat<AI hn d:=by
   have := TN.node_lt (T:=Au hn ls us d) (D:=Aq d) (t:=0) (by omega) ha
   rw [Nat.zero_mul,Nat.zero_add]at this
   exact this
  have ht:Aq d*hn.toNat+d.2.1.toNat<AI hn d:=TN.node_lt (T:=Au hn ls us d) (Nat.le_refl _) hc
  have hst:d.1.toNat≠Aq d*hn.toNat+d.2.1.toNat:=fun g=>by
   have :=(TN.src_eq (T:=Au hn ls us d) (t:=Aq d) ha hc).1 g
   omega
  obtain ⟨g1,⟨φ,g2⟩,g3,g4,g5,g6⟩:=Vi (p:=(Au hn ls us d).p) (n:=AO hn ls d) (N:=AI hn d) hpo hs ht hst hb
  rw [←hP]at g1 g2 g3 g4 g5 g6
  have hpl:=TN.flow_plan (T:=Au hn ls us d) (D:=Aq d) ok ha hc g1
  refine ⟨g6,hpl.1,g3,g4,fun hlt b g hb2 hg=>g5 hlt _ _ (TN.plan_flow ok ha hc hb2 hg).1,fun c f hc0 hfl hv=>?_,fun _=>g1⟩
  have := FN.opt (G:=(Au hn ls us d).G (Aq d) d.1.toNat d.2.1.toNat) (PY hpo hs ht) g1 g2 (fun i hi=>(hfl i hi).1) (fun i hi=>(hfl i hi).2) hv rfl hc0
  rw [hpl.2]at this
  exact this
end Sim
namespace Sim
open Go Go.Proofs
attribute [local congr] Am An Ai Aw Ap Ao As
theorem Aar (a b:GE) (st:Store) (h:Kx a=Kx b) (hx:Kw a st) (hy:Kw b st):II a st=II b st:=by
 obtain ⟨B,A,out,lv,m,s,t,x⟩:=a
 obtain ⟨B',A',out',lv',m',s',t',x'⟩:=b
 simp only[Kx,gP,List.cons.injEq,and_true,PV.ptr.injEq,PV.int.injEq,true_and]at h
 have e1:B=B':=by omega
 have e2:s=s':=by omega
 have e3:t=t':=by omega
 obtain ⟨_,_,_,e4⟩:=h
 subst e1;subst e2;subst e3;subst e4
 obtain ⟨a1,a2,a3⟩:=GrAt.same hx.1 hy.1
 dsimp only at a1 a2 a3
 subst a1;subst a2;subst a3
 rfl
theorem Aas (x:GE) {st:Store} (h:Kw x st):Bc Kx Kw II [gP x.B,I (x.s:Nat),I (x.t:Nat),I x.b] st=some (II x st):=Bn Aar (i:=x) h
structure GW where
 hn : Int
 ls : List Lnk
 us : List Snd
 d : Dem
 b : Int
def Kz (x:GW):List PV := [fX (x.hn,x.ls),AA x.us,CR x.d,I x.b]
def IM (x:GW) (st:Store):Prop:=WF st∧(∀i r,st.obj i≠some (.lp r))∧BZ x.hn x.ls x.us=0∧DO x.hn x.d=true∧Aq x.d≤100∧0≤x.b∧x.b≤1099511627776
def gBx (M n N:Nat):PV:=.agg [.ref (M+4) n 0 (2*n),.ref M 1 0 N,.ref (M+1) 1 0 N]
def plO (ob:Nat→Option IObj) (M n N:Nat) (A:List Arc):Nat→Option IObj:=fun i=>if i=M+2 then some (.arr 0 3 [gBx M n N])else if i=M+4 then some (.arr n 4 (A.map CY))else ob i
noncomputable def IN (x:GW) (st:Store):PV×Store:=(.tuple [gP st.next,I (Bs x.hn x.ls x.us x.d x.b).2],⟨plO st.obj st.next (AO x.hn x.ls x.d) (AI x.hn x.d) (Bs x.hn x.ls x.us x.d x.b).1,st.next+5⟩)
noncomputable def e_plan:Nat×Ent:=(45,.x (Bc Kz IM IN))
theorem WA {ob O:Nat→Option IObj} {M n N n2:Nat} {A:List Arc} {r r':Int} (h1:WF ⟨ob,M⟩) (g2:O (M+2)=some (.arr 0 3 [gBx M n N])) (g4:O (M+4)=some (.arr n 4 (A.map CY))) (fr:∀i o,ob i=some o→O i=some o) (hr:r'=r) :
  LU ⟨ob,M⟩ (.tuple [gP M,I r]) ⟨plO ob M n N A,M+5⟩ (.tuple [gP M,I r']) ⟨O,n2⟩:=by
 refine ⟨[],.inl (by rw[hr]),fun i o hi=>?_,by dsimp only;omega,.tuple _ fun c hc=>?_⟩
 ·dsimp only at hi ⊢
  unfold plO at hi
  by_cases c2:i=M+2
  ·rw [if_pos c2]at hi
   cases hi
   refine ⟨by omega,rfl,by rw[c2];exact g2,.inr fun e he c hc=>?_⟩
   rw [List.mem_singleton]at he
   subst he
   simp only[gBx,PV.cells,List.mem_cons,List.not_mem_nil,or_false]at hc
   rcases hc with hc | hc | hc <;> (rw[hc];exact .ref _ _ _ _ (by omega))
  rw [if_neg c2]at hi
  by_cases c4:i=M+4
  ·rw [if_pos c4]at hi
   cases hi
   exact ⟨by omega,rfl,by rw[c4];exact g4,.inr Qc⟩
  rw [if_neg c4]at hi
  have := h1 i o hi
  dsimp only at this
  exact ⟨by omega,rfl,fr i o hi,.inl hi⟩
 ·simp only[List.mem_cons,List.not_mem_nil,or_false]at hc
  rcases hc with hc | hc
  ·rw [hc];exact .ptr _ _ _ _ (by dsimp only;omega)
  ·rw [hc];exact .int _ _
theorem Aeb {ob:Nat→Option IObj} {M N:Nat} {A:List Arc} {out:List (List Nat)} (h1:WF ⟨ob,M⟩):WF ⟨mkO ob M A out N,M+5+N⟩:=fun i o hi=>by
 dsimp only at hi ⊢
 unfold mkO at hi
 by_cases c0:i=M
 ·omega
 rw [if_neg c0]at hi
 by_cases c1:i=M+1
 ·omega
 rw [if_neg c1]at hi
 by_cases c2:i=M+2
 ·omega
 rw [if_neg c2]at hi
 by_cases c4:i=M+4
 ·omega
 rw [if_neg c4]at hi
 by_cases c5:M+5≤i∧i<M+5+N
 ·exact c5.2
 rw [if_neg c5]at hi
 have := h1 i o hi
 dsimp only at this
 omega
theorem Aec {ob:Nat→Option IObj} {M N:Nat} {A:List Arc} {out:List (List Nat)} (h:∀i r,ob i≠some (.lp r)):∀i r,mkO ob M A out N i≠some (.lp r):=fun i r hi=>by
 unfold mkO at hi
 repeat' (split at hi)
 all_goals first | (cases hi;done) | exact h i r hi
theorem wL {ob:Nat→Option IObj} {M N:Nat} {A:List Arc} {out:List (List Nat)} (h1:WF ⟨ob,M⟩) {i:Nat} {o:IObj} (hi:ob i=some o):mkO ob M A out N i=some o:=by
 have := h1 i o hi
 dsimp only at this
 unfold mkO
 rw [if_neg (by omega),if_neg (by omega),if_neg (by omega),if_neg (by omega),if_neg (by omega)];exact hi
theorem Aat:AT Try.prog e_plan.1 e_plan.2:=Fz fun x st hx=>by
 obtain ⟨hn,ls,us,d,b⟩:=x
 obtain ⟨ob,M⟩:=st
 unfold IM at hx
 dsimp only at hx
 obtain ⟨h1,h2,hf,hd,hD,hb0,hb1⟩:=hx
 have hlp:∀i r,ob i≠some (.lp r):=h2
 simp only[Kz,IN]
 have hP:=EP (bytes:=b) hf hd hb0
 obtain ⟨⟨a0,a1⟩,⟨c0,c1⟩,hr⟩:=Cr hd
 obtain ⟨okr,_⟩:=Ch hf
 have hh:=okr.net.houses
 have hln:=okr.net.len
 have hdu:d.2.2.2.2=d.2.2.2.1+(Aq d:Nat):=by unfold Aq;have:=hr.2.2.2.1;omega
 have hnn:((hn.toNat:Nat):Int)=hn:=by omega
 have sm:=Aaq ⟨hn.toNat,Aq d,ls,us,d⟩ (st:=⟨ob,M⟩) ⟨h1,by dsimp only;rw[hnn];exact okr,hr.2.2.1,hdu,hD,hr.2.2.2.2,by dsimp only;rw[hnn];exact hf⟩
 simp only[Em,GM.T,GM.N,GM.n,hnn]at sm
 have ok:=Di (r:=d.2.2.2.1) (D:=Aq d) hf
 have hpo:=TN.p_ok ok
 have hNb:AI hn d≤1212:=Nat.le_trans (Nat.mul_le_mul (show Aq d+1≤101 by omega) (show hn.toNat≤12 by omega)) (by decide)
 have hnb:AO hn ls d≤7200:=Nat.le_trans (Nat.mul_le_mul hD (show hn.toNat+ls.length≤72 by omega)) (by decide)
 have hg:=Aea (ob:=ob) (M:=M) (A:=gA (Au hn ls us d).p (AO hn ls d)) (out:=gO (Au hn ls us d).p (AI hn d) (AO hn ls d)) (N:=AI hn d) Dn
 have g2:=hg.o2
 have hAl:=Cg (p:=(Au hn ls us d).p) (n:=AO hn ls d)
 have hOl:=Dn (p:=(Au hn ls us d).p) (N:=AI hn d) (n:=AO hn ls d)
 have hbx:H3 M (gA (Au hn ls us d).p (AO hn ls d)) (gO (Au hn ls us d).p (AI hn d) (AO hn ls d)) (List.replicate (AI hn d) 0)=gBx M (AO hn ls d) (AI hn d):=by
  unfold H3 gBx
  rw [hAl,hOl,List.length_replicate,show 2*AO hn ls d / 2=AO hn ls d by omega]
 rw [hbx]at g2
 have hpre:Bs hn ls us d b=if d.1=d.2.1 then (gA (Au hn ls us d).p (AO hn ls d),b)else CQ (gA (Au hn ls us d).p (AO hn ls d)) (gO (Au hn ls us d).p (AI hn d) (AO hn ls d)) (List.replicate (AI hn d) 0) (AI hn d) d.1.toNat (Aq d*hn.toNat+d.2.1.toNat) b:=rfl
 have hNe:(Aq d+1)*hn.toNat=AI hn d:=rfl
 have hne:Aq d*(hn.toNat+ls.length)=AO hn ls d:=rfl
 rw [hNe,hne]at sm
 unfold gP at sm
 by_cases e:d.1=d.2.1
 ·rw [if_pos e]at hpre
  rw [hpre]
  dsimp only[CR]at sm
  rw [e]at sm
  refine B7 AV (l := [e_make,e_send]) ((Ae jH (Ae jC At))) [] [] 0 Try.func45 rfl (by decide +kernel) (N:=39) rfl (by simp) rfl (by kernel_rfl) ?_
  simp +contextual (maxSteps:=4000000) only[↓bdD,bdP,Nat.reduceLT,Nat.reduceBEq,Ar,Nat.reduceAdd,↓reduceIte,e_make,e_send,Ad,Ab,Try.f45,ty3,AH,AR,AZ,sm,e]
  refine WA h1 g2 ?_ (fun i o hi=>wL h1 hi) rfl
  have := hg.o4
  rw [hAl,show 2*AO hn ls d / 2=AO hn ls d by omega]at this
  exact this
 ·rw [if_neg e]at hpre
  have hs:d.1.toNat<AI hn d:=by
   have := TN.node_lt (T:=Au hn ls us d) (D:=Aq d) (t:=0) (by omega) (show d.1.toNat<hn.toNat by omega)
   rw [Nat.zero_mul,Nat.zero_add]at this
   exact this
  have ht:Aq d*hn.toNat+d.2.1.toNat<AI hn d:=TN.node_lt (T:=Au hn ls us d) (Nat.le_refl _) (show d.2.1.toNat<hn.toNat by omega)
  have hst:d.1.toNat≠Aq d*hn.toNat+d.2.1.toNat:=fun g=>by
   have :=(TN.src_eq (T:=Au hn ls us d) (t:=Aq d) (show d.1.toNat<hn.toNat by omega) (show d.2.1.toNat<hn.toNat by omega)).1 g
   omega
  have hsi:=iM hpo hs ht hst
  have hme:Ej (gO (Au hn ls us d).p (AI hn d) (AO hn ls d)) (ini (AI hn d) d.1.toNat)≤AI hn d*AO hn ls d+1:=zT (N:=AI hn d) (n:=AO hn ls d) hpo
  have hmul:AI hn d*AO hn ls d≤8726400:=Nat.le_trans (Nat.mul_le_mul hNb hnb) (by decide)
  have sd:=Aas ⟨M,gA (Au hn ls us d).p (AO hn ls d),gO (Au hn ls us d).p (AI hn d) (AO hn ls d),List.replicate (AI hn d) 0,AO hn ls d,d.1.toNat,Aq d*hn.toNat+d.2.1.toNat,b⟩ (st:=⟨mkO ob M (gA (Au hn ls us d).p (AO hn ls d)) (gO (Au hn ls us d).p (AI hn d) (AO hn ls d)) (AI hn d),M+5+AI hn d⟩) (by
   refine ⟨hg,?_,?_,Aeb h1,Aec hlp,?_,?_,?_,hb0,hb1,fun i=>?_⟩ <;> simp only[List.length_replicate]
   ·exact hsi
   ·exact Nat.le_refl _
   ·omega
   ·omega
   ·exact Nat.le_trans hme (by omega)
   ·show aL _ (2*i)+aL _ (2*i+1)≤_
    by_cases c:i<AO hn ls d
    ·rw [iJ c,JD c]
     obtain ⟨t,ht',⟨x,hx,rfl⟩ | ⟨k,hk,rfl⟩⟩:=TN.house_of (T:=Au hn ls us d) (D:=Aq d) ok.h1 c
     ·rw [TN.p_house hx];show (1099511627776:Int)+0≤1099511627776;decide
     ·rw [TN.p_link hk]
      have hk':k<ls.length:=hk
      have q1:=FI hf (k:=(k:Int)) (t:=d.2.2.2.1+(t:Int)) ⟨by omega,by omega⟩
      have q2:=Fc okr.net (link:=(k:Int)) (tick:=d.2.2.2.1+(t:Int)) (by omega) (by omega)
      show DH ls (k:Int) (d.2.2.2.1+(t:Int))-Bx us (k:Int) (d.2.2.2.1+(t:Int)) us.length+0≤_
      omega
    ·unfold aL
     rw [List.getD_eq_getElem?_getD,List.getElem?_eq_none (by omega),List.getD_eq_getElem?_getD,List.getElem?_eq_none (by omega)];decide)
  simp only[II,List.length_replicate]at sd
  unfold gP at sd
  rw [←hpre]at sd
  have hlen:=hP.len
  generalize Bs hn ls us d b=res at *
  obtain ⟨u,hu⟩:∃u:Nat,d.1=(u:Int):=⟨d.1.toNat,by omega⟩
  obtain ⟨v,hv⟩:∃v:Nat,d.2.1=(v:Int):=⟨d.2.1.toNat,by omega⟩
  have wD:IntKind.i64.wrap (d.2.2.2.2-d.2.2.2.1)=(Aq d:Int):=by rw[Ah (by omega) (by omega)];omega
  have hDh:Aq d*hn.toNat≤1200:=Nat.le_trans (Nat.mul_le_mul hD (show hn.toNat≤12 by omega)) (by decide)
  have wm:IntKind.i64.wrap ((Aq d:Int)*hn)=((Aq d*hn.toNat:Nat):Int):=by
   rw [show ((Aq d:Int)*hn)=((Aq d*hn.toNat:Nat):Int) by rw[Int.natCast_mul,hnn],Ah (by omega) (by omega)]
  have wa:IntKind.i64.wrap (((Aq d*hn.toNat:Nat):Int)+(v:Int))=((Aq d*hn.toNat+v:Nat):Int):=by rw[←Int.natCast_add,Ah (by omega) (by omega)]
  rw [hu,hv,Int.toNat_natCast,Int.toNat_natCast]at sd
  dsimp only[CR]at sm
  rw [hu,hv]at sm
  have e':¬(u:Int)=(v:Int):=by rw[←hu,←hv];exact e
  refine B7 AV (l := [e_make,e_send]) ((Ae jH (Ae jC At))) [] [] 0 Try.func45 rfl (by decide +kernel) (N:=39) rfl (by simp) rfl (by kernel_rfl) ?_
  simp +contextual (maxSteps:=4000000) only[↓bdD,bdP,Nat.reduceLT,Nat.reduceBEq,Ar,Nat.reduceEqDiff,Nat.reduceAdd,↓reduceIte,e_make,e_send,Ad,Ab,Try.f45,ty3,AH,AR,AZ,Jn,sm,sd,hu,hv,e',wD,wm,wa]
  refine WA h1 ?_ ?_ (fun i o hi=>?_) rfl
  ·simp only[Aa]
   rw [if_neg (by omega),if_neg (by omega)];exact g2
  ·simp only[Aa]
   rw [if_neg (by omega),if_pos trivial,hAl,show 2*AO hn ls d / 2=AO hn ls d by omega]
  ·have := h1 i o hi
   dsimp only at this
   simp only[Aa]
   rw [if_neg (by omega),if_neg (by omega)];exact wL h1 hi
theorem Aau (a b:GW) (st:Store) (h:Kz a=Kz b) (hx:IM a st) (hy:IM b st):IN a st=IN b st:=by
 obtain ⟨h1,ls1,us1,⟨df1,dt1,db1,dr1,dd1⟩,b1⟩:=a
 obtain ⟨h2,ls2,us2,⟨df2,dt2,db2,dr2,dd2⟩,b2⟩:=b
 simp only[Kz,List.cons.injEq,and_true,PV.agg.injEq,PV.int.injEq,PV.lits.injEq,AN,AY,true_and]at h
 obtain ⟨⟨e1,e2⟩,e3,⟨e4,e5,e6,e7,e8⟩,e9⟩:=h
 subst e1;subst e2;subst e3;subst e4;subst e5;subst e6;subst e7;subst e8;subst e9
 rfl
theorem Aav (x:GW) {st:Store} (h:IM x st):Bc Kz IM IN [fX (x.hn,x.ls),AA x.us,CR x.d,I x.b] st=some (IN x st):=Bn Aau (i:=x) h
end Sim
namespace Sim
open Go Go.Proofs
attribute [local congr] Am An Ai Aw Ap Ao As
def En (hn:Int) (ls:List Lnk) (us:List Snd) (d:Dem):Int:=if BZ hn ls us≠0 then BZ hn ls us else if DO hn d=false then 1 else if 32<d.2.2.2.2-d.2.2.2.1 then 2 else 0
theorem fck_zero {hn:Int} {ls:List Lnk} {us:List Snd} {d:Dem}:En hn ls us d=0↔BZ hn ls us=0∧DO hn d=true∧d.2.2.2.2-d.2.2.2.1≤32:=by
 unfold En
 by_cases h1:BZ hn ls us=0
 ·rw [if_neg (fun g=>g h1)]
  by_cases h2:DO hn d=false
  ·rw [if_pos h2];simp[h2]
  ·rw [if_neg h2]
   by_cases h3:32<d.2.2.2.2-d.2.2.2.1
   ·rw [if_pos h3];simp;intro _ _;omega
   ·rw [if_neg h3];simp[h1];exact⟨by simpa using h2,by omega⟩
 ·rw [if_pos h1];simp[h1]
theorem Zt {hn:Int} {ls:List Lnk} {us:List Snd} (h:BZ hn ls us=0):A6 hn ls []=0:=right_zero.2 ⟨(Ch h).1.net,by simp,by simp,by simp,by simp,by simp⟩
theorem Zu {hn:Int} {ls:List Lnk} {us:List Snd} {d:Dem} (h:BZ hn ls us=0):(Dm hn ls [] d 0 0).2=if DO hn d=false then 1 else 0:=by
 have hh:=(Ch h).1.net.houses
 unfold Dm
 rw [if_neg (fun g=>g (Zt h))]
 by_cases c:DO hn d=false
 ·rw [if_pos (.inl c),if_pos c]
 ·rw [if_neg (by simp[c,hOK];omega),if_neg c]
noncomputable def Hs:(Int)×(List Lnk)×(List Snd)×(Dem)→List PV:=fun (hn,ls,us,d) => [.agg [I hn,AC ls],AA us,CR d]
noncomputable def SE:(Int)×(List Lnk)×(List Snd)×(Dem)→PV:=fun (hn,ls,us,d)=>I (En hn ls us d)
def SF:(Int)×(List Lnk)×(List Snd)×(Dem)→Prop:=fun (hn,ls,us,d)=>True
noncomputable def e_fcheck:Nat×Ent:=(38,.v (Al Hs SE SF))
theorem jI:∀i j,Hs i=Hs j→i=j:=by
 rintro ⟨hn₁,ls₁,us₁,d₁⟩ ⟨hn₂,ls₂,us₂,d₂⟩ h
 simp only[Hs,List.cons.injEq,and_true,PV.lits.injEq,PV.int.injEq,PV.agg.injEq,true_and,AY,AN]at h
 simp [Prod.ext_iff,h] <;> omega
theorem Ht (hn:Int) (ls:List Lnk) (us:List Snd) (d:Dem):Al Hs SE SF [.agg [I hn,AC ls],AA us,CR d]=some (I (En hn ls us d)):=AD jI (i:=(hn,ls,us,d)) trivial
def SG:Prop:=∀(hn:Int) (ls:List Lnk) (us:List Snd) (d:Dem) ,VC Try.prog 38 [.agg [I hn,AC ls],AA us,CR d] (I (En hn ls us d))
def SH:Prop:=AT Try.prog e_fcheck.1 e_fcheck.2
theorem jJ (c:SG):SH:=Ay fun⟨hn,ls,us,d⟩ h=>c hn ls us d
theorem jK:SG:=by
 intro hn ls us d
 refine Bk AV (l := [e_fits,e_Stock]) ((Ae gG (Ae Wk At))) [] []  Try.func38 rfl (by decide +kernel) (N:=31) rfl (by simp) rfl (by kernel_rfl) fun hs=>?_
 simp only[AJ,PV.small,List.length_map,and_true,true_and]at hs
 unfold En
 by_cases h1:BZ hn ls us=0
 case neg =>
  rw [if_pos h1]
  generalize hr:BZ hn ls us=r at *
  simp +contextual (maxSteps:=4000000) only[↓bdD,bdP,Nat.reduceLT,Nat.reduceBEq,Ar,Nat.reduceAdd,st0,↓reduceIte,e_fits,Kl,e_Stock,Ad,Ab,Try.f38,AH,AR,h1,hr]
 rw [if_neg (fun g=>g h1)]
 have hsp:=PS (hn:=hn) (ls:=ls) (l := []) (d:=d) (at_:=0) (tick:=0)
 rw [show AA []=PV.lits 3 [] from rfl]at hsp
 have hst:=Zu (d:=d) h1
 generalize Dm hn ls [] d 0 0=q at *
 by_cases h2:DO hn d=false
 ·rw [if_pos h2]at hst ⊢
  rw [hst]at hsp
  simp +contextual (maxSteps:=4000000) only[↓bdD,bdP,Nat.reduceLT,Nat.reduceBEq,Ar,Nat.reduceEqDiff,Nat.reduceAdd,Int.reduceEq,st0,↓reduceIte,e_fits,Kl,e_Stock,Ad,Ab,Try.f38,ty3,AH,AR,AZ,h1,hsp]
 rw [if_neg h2]at hst ⊢
 rw [hst]at hsp
 obtain ⟨_,_,hr⟩:=Cr (hn:=hn) (d:=d) (by simpa using h2)
 have hr0:=hr.2.2.1
 have hr1:=hr.2.2.2.1
 have hr2:=hr.2.2.2.2
 have wD:IntKind.i64.wrap (d.2.2.2.2-d.2.2.2.1)=d.2.2.2.2-d.2.2.2.1:=Ah (by omega) (by omega)
 by_cases h3:32<d.2.2.2.2-d.2.2.2.1
 ·rw [if_pos h3]
  simp +contextual (maxSteps:=4000000) only[↓bdD,bdP,Nat.reduceLT,Nat.reduceBEq,Ar,Nat.reduceEqDiff,Nat.reduceAdd,st0,↓reduceIte,e_fits,Kl,e_Stock,Ad,Ab,Try.f38,ty3,AH,AR,AZ,h1,hsp,wD,h3]
 ·rw [if_neg h3]
  simp +contextual (maxSteps:=4000000) only[↓bdD,bdP,Nat.reduceLT,Nat.reduceBEq,Ar,Nat.reduceEqDiff,Nat.reduceAdd,st0,↓reduceIte,e_fits,Kl,e_Stock,Ad,Ab,Try.f38,ty3,AH,AR,AZ,h1,hsp,wD,h3]
theorem SJ:SH:=jJ jK
theorem CT {hn:Int} {ls:List Lnk} {us:List Snd} {d:Dem} (h:En hn ls us d=0):BZ hn ls us=0∧DO hn d=true∧Aq d≤32∧d.2.2.2.2=d.2.2.2.1+(Aq d:Nat):=by
 obtain ⟨h1,h2,h3⟩:=fck_zero.1 h
 obtain ⟨_,_,hr⟩:=Cr h2
 have := hr.2.2.2.1
 exact ⟨h1,h2,by unfold Aq;omega,by unfold Aq;omega⟩
theorem Aaw {hn:Int} {ls:List Lnk} {us:List Snd} {d:Dem} {b:Int} (h:En hn ls us d=0) (hb:0≤b∧b≤1099511627776):IM ⟨hn,ls,us,d,b⟩ ⟨fun _=>none,0⟩:=by
 obtain ⟨h1,h2,h3,_⟩:=CT h
 exact ⟨fun i o hi=>(by cases hi),fun i r hi=>(by cases hi),h1,h2,(by dsimp only;omega),hb⟩
noncomputable def Ij (hn:Int) (ls:List Lnk) (us:List Snd) (d:Dem):Int:=if En hn ls us d=0 then (Bs hn ls us d 1099511627776).2 else 0
end Sim
namespace Sim
open Go Go.Proofs
attribute [local congr] Am An Ai Aw Ap Ao As
def B0 (A:List Arc) (h W:Nat) (r:Int):Nat→List Snd
 | 0 => []
 | i+1=>B0 A h W r i++if h≤i % W∧0<flA A i then [(((i % W-h:Nat):Int),r+((i / W:Nat):Int),flA A i)]else []
theorem SK {A:List Arc} {h W:Nat} {r:Int}:∀n,(B0 A h W r n).length≤n
 | 0=>Nat.le_refl _
 | n+1=>by
  have := SK (A:=A) (h:=h) (W:=W) (r:=r) n
  rw [B0,List.length_append]
  split <;> simp <;> omega
noncomputable def Dz (hn:Int) (ls:List Lnk) (us:List Snd) (d:Dem):Int:=if En hn ls us d≠0 then En hn ls us d else if (Bs hn ls us d d.2.2.1).2<d.2.2.1 then 21 else 0
noncomputable def CD (hn:Int) (ls:List Lnk) (us:List Snd) (d:Dem):List Snd:=if Dz hn ls us d=0 then B0 (Bs hn ls us d d.2.2.1).1 hn.toNat (hn.toNat+ls.length) d.2.2.2.1 (AO hn ls d)else []
noncomputable def JL:(Int)×(List Lnk)×(List Snd)×(Dem)→List PV:=fun (hn,ls,us,d) => [.agg [I hn,AC ls],AA us,CR d]
noncomputable def WB:(Int)×(List Lnk)×(List Snd)×(Dem)→PV:=fun (hn,ls,us,d)=>.tuple [AA (CD hn ls us d),I (Dz hn ls us d)]
def WC:(Int)×(List Lnk)×(List Snd)×(Dem)→Prop:=fun (hn,ls,us,d)=>True
noncomputable def e_cheap:Nat×Ent:=(24,.v (Al JL WB WC))
theorem uF:∀i j,JL i=JL j→i=j:=by
 rintro ⟨hn₁,ls₁,us₁,d₁⟩ ⟨hn₂,ls₂,us₂,d₂⟩ h
 simp only[JL,List.cons.injEq,and_true,PV.lits.injEq,PV.int.injEq,PV.agg.injEq,true_and,AY,AN]at h
 simp [Prod.ext_iff,h] <;> omega
theorem Lc (hn:Int) (ls:List Lnk) (us:List Snd) (d:Dem):Al JL WB WC [.agg [I hn,AC ls],AA us,CR d]=some (.tuple [AA (CD hn ls us d),I (Dz hn ls us d)]):=AD uF (i:=(hn,ls,us,d)) trivial
def WD:Prop:=∀(hn:Int) (ls:List Lnk) (us:List Snd) (d:Dem) ,VC Try.prog 24 [.agg [I hn,AC ls],AA us,CR d] (.tuple [AA (CD hn ls us d),I (Dz hn ls us d)])
def WE:Prop:=AT Try.prog e_cheap.1 e_cheap.2
theorem uG (c:WD):WE:=Ay fun⟨hn,ls,us,d⟩ h=>c hn ls us d
theorem uH:WD:=by
 intro hn ls us d
 refine Bk AV (l := [e_fcheck,e_plan]) ((Ae SJ (Ae Aat At))) [] []  Try.func24 rfl (by decide +kernel) (N:=91) rfl (by simp) rfl (by kernel_rfl) fun hs=>?_
 simp only[AJ,PV.small,List.length_map,and_true,true_and]at hs
 by_cases h1:En hn ls us d=0
 case neg =>
  have e1:Dz hn ls us d=En hn ls us d:=by unfold Dz;rw[if_pos h1]
  have e2:CD hn ls us d = []:=by unfold CD;rw[e1,if_neg h1]
  rw [e1,e2]
  generalize hr:En hn ls us d=r at *
  simp +contextual (maxSteps:=4000000) only[↓bdD,bdP,Nat.reduceLT,Nat.reduceBEq,Ar,Nat.reduceAdd,st0,↓reduceIte,e_fcheck,Ht,e_plan,Ad,Ab,Try.f24,AH,AR,AZ,h1,hr]
 obtain ⟨hf,hd,hD,hdu⟩:=CT h1
 obtain ⟨_,_,hr⟩:=Cr hd
 have hr0:=hr.1
 have hr1:=hr.2.1
 have hr2:=hr.2.2.1
 have hr3:=hr.2.2.2.2
 have hh:=(Ch hf).1.net.houses
 have hln:=(Ch hf).1.net.len
 have hP:=EP (bytes:=d.2.2.1) hf hd (by omega)
 have sp:=Aav ⟨hn,ls,us,d,d.2.2.1⟩ (st:=⟨fun _=>none,0⟩) (Aaw h1 ⟨by omega,by omega⟩)
 simp only[IN]at sp
 unfold gP at sp
 dsimp only[fX,CR]at sp
 have hn1:=hP.n1
 have hlen:=hP.len
 obtain ⟨h,hhe⟩:∃h:Nat,hn=(h:Int):=⟨hn.toNat,by omega⟩
 have hnb:AO hn ls d≤2304:=Nat.le_trans (Nat.mul_le_mul hD (show hn.toNat+ls.length≤72 by omega)) (by decide)
 by_cases h2:(Bs hn ls us d d.2.2.1).2<d.2.2.1
 ·have e1:Dz hn ls us d=21:=by unfold Dz;rw[if_neg (fun g=>g h1),if_pos h2]
  have e2:CD hn ls us d = []:=by unfold CD;rw[e1,if_neg (by decide)]
  rw [e1,e2]
  generalize Bs hn ls us d d.2.2.1=q at *
  simp +contextual (maxSteps:=4000000) only[↓bdD,bdP,Nat.reduceLT,Nat.reduceBEq,Ar,Nat.reduceEqDiff,Nat.reduceAdd,st0,↓reduceIte,e_fcheck,Ht,e_plan,Ad,Ab,Try.f24,ty3,AH,AR,AZ,h1,sp,h2]
 have e1:Dz hn ls us d=0:=by unfold Dz;rw[if_neg (fun g=>g h1),if_neg h2]
 have e2:CD hn ls us d=B0 (Bs hn ls us d d.2.2.1).1 hn.toNat (hn.toNat+ls.length) d.2.2.2.1 (AO hn ls d):=by unfold CD;rw[if_pos e1]
 rw [e1,e2]
 clear e1 e2
 subst hhe
 rw [Int.toNat_natCast]at *
 generalize AO (h:Int) ls d=n at *
 generalize AI (h:Int) d=N at *
 have wW:IntKind.i64.wrap ((h:Int)+(ls.length:Int))=((h+ls.length:Nat):Int):=by rw[←Int.natCast_add,Ah (by omega) (by omega)]
 obtain ⟨W,hW⟩:∃W,h+ls.length=W:=⟨_,rfl⟩
 rw [hW]at wW ⊢
 generalize Bs (h:Int) ls us d d.2.2.1=q at *
 obtain ⟨A,sn⟩:=q
 dsimp only at sp hn1 hlen h2 ⊢
 clear hP
 have hW0:0<W:=by omega
 have hO2:plO (fun _=>none) 0 n N A 2=some (.arr 0 3 [gBx 0 n N]):=rfl
 have hO4:plO (fun _=>none) 0 n N A 4=some (.arr n 4 (A.map CY)):=rfl
 unfold gBx at hO2
 generalize plO (fun _=>none) 0 n N A=O at *
 simp +contextual (maxSteps:=4000000) only[↓bdD,bdP,Nat.reduceLT,Nat.reduceBEq,Nat.reduceEqDiff,Nat.reduceAdd,st0,↓reduceIte,e_fcheck,Ht,e_plan,Ad,Ab,Try.f24,ty3,Cy,AH,AR,AZ,h1,sp,h2,wW]
 refine Az [11,13,14,15,16,43,44,45,46,47,48,49,50,51,52,53,54,55,56,57,58,59,60,61,62,63,64,65,66,67,68,69,70,71,72,73,74,75,76,77,78,79,80,81,82,83,84,85,86,87,88,89] n (fun j ρ st'=>ρ 13=I ((2*j:Nat):Int)∧GS st' (ρ 11) 5 3 ((B0 A h W d.2.2.2.1 j).map GC)∧st'.obj 2=some (.arr 0 3 [.agg [.ref (0+4) n 0 (2*n),.ref 0 1 0 N,.ref (0+1) 1 0 N]])∧st'.obj 4=some (.arr n 4 (A.map CY))) (.slot _ 11 3 ?_ ?_) ?_ ?_
 ·simp +contextual (maxSteps:=4000000) only[↓bdD,bdP,Nat.reduceBEq]
 ·decide
 ·simp +contextual (maxSteps:=4000000) only[↓bdD,bdP,Nat.reduceBEq,Nat.reduceAdd,Nat.reduceMul,Store.new,hO2,hO4]
  simp [B0]
 rintro j ρ ⟨ob,M⟩ hj ⟨h13,⟨g,h11,ho⟩,ho2,ho4⟩
 dsimp only at ho ho2 ho4
 rw [List.length_map]at h11
 rw [Nat.zero_add]at ho2
 by_cases hlt:j<n
 ·have hol:=SK (A:=A) (h:=h) (W:=W) (r:=d.2.2.2.1) j
  have hstep:B0 A h W d.2.2.2.1 (j+1)=B0 A h W d.2.2.2.1 j++if h≤j % W∧0<flA A j then [(((j % W-h:Nat):Int),d.2.2.2.1+((j / W:Nat):Int),flA A j)]else []:=rfl
  have hlen2:2*j+1<A.length:=by omega
  have hnA:=B8 hlen2
  have hfl:(A.getD (2*j+1) dA).2.2.1=flA A j:=rfl
  rw [hfl]at hnA
  have c1:((2*j:Nat):Int)<((2*n:Nat):Int):=by omega
  have w1:IntKind.i64.wrap (((2*j:Nat):Int)+1)=((2*j+1:Nat):Int):=BC (by omega)
  have w2:IntKind.i64.wrap (((2*j:Nat):Int)+2)=((2*(j+1):Nat):Int):=by rw[Ah (by omega) (by omega)];omega
  have t1:Int.tdiv ((2*j:Nat):Int) 2=(j:Int):=by rw[Int.tdiv_eq_ediv_of_nonneg (by omega)];omega
  have t2:Int.tdiv (j:Int) (W:Int)=((j / W:Nat):Int):=by rw[Int.tdiv_eq_ediv_of_nonneg (by omega)];rfl
  have t3:Int.tmod (j:Int) (W:Int)=((j % W:Nat):Int):=by rw[Int.tmod_eq_emod_of_nonneg (by omega)];rfl
  have hdv:j / W≤j:=Nat.div_le_self _ _
  have hml:j % W<W:=Nat.mod_lt _ hW0
  generalize j / W=qd at *
  generalize j % W=md at *
  have w3:IntKind.i64.wrap (j:Int)=(j:Int):=Ah (by omega) (by omega)
  have w4:IntKind.i64.wrap ((qd:Nat):Int)=((qd:Nat):Int):=Ah (by omega) (by omega)
  have w5:IntKind.i64.wrap (d.2.2.2.1+((qd:Nat):Int))=d.2.2.2.1+((qd:Nat):Int):=Ah (by omega) (by omega)
  have hWn:¬(W:Int)=0:=by omega
  have hWn':¬W=0:=by omega
  have hl2:((2*j+1:Nat):Int)<((2*n:Nat):Int):=by omega
  have hAl:(A.map CY).length=2*n:=by rw[List.length_map,hlen]
  have hol1:(B0 A h W d.2.2.2.1 j).length+1≤2147483648:=by omega
  have htk:∀z,List.take ((B0 A h W d.2.2.2.1 j).length+1) (List.map GC (B0 A h W d.2.2.2.1 j) ++ [z])=List.map GC (B0 A h W d.2.2.2.1 j) ++ [z]:=fun z=>List.take_of_length_le (by simp)
  by_cases hc:h≤md
  ·have w6:IntKind.i64.wrap (((md:Nat):Int)-(h:Int))=((md-h:Nat):Int):=by rw[Ah (by omega) (by omega)];omega
   have hci:(h:Int)≤((md:Nat):Int):=by omega
   by_cases hp:0<flA A j
   ·rw [if_pos ⟨hc,hp⟩]at hstep
    generalize B0 A h W d.2.2.2.1 (j+1)=o2 at *
    generalize B0 A h W d.2.2.2.1 j=o1 at *
    generalize flA A j=fl at *
    simp +contextual (maxSteps:=4000000) only[↓bdD,bdP,Nat.reduceLT,Nat.reduceBEq,Nat.reduceAdd,Nat.reduceMul,Nat.reduceLeDiff,reduceCtorEq,Int.reduceEq,Store.set,↓reduceIte,ty3,AH,AR,AZ,CJ,Ki,Gz,K1,h13,h11,ho,ho2,ho4,c1,w1,w2,t1,t2,t3,w3,w4,w5,w6,hWn,hl2,hAl,hnA,hci,hp,hol1,hstep]
    exact ⟨hlt,by rw[List.map_append];rfl⟩
   ·rw [if_neg (fun g=>hp g.2),List.append_nil]at hstep
    generalize B0 A h W d.2.2.2.1 (j+1)=o2 at *
    generalize B0 A h W d.2.2.2.1 j=o1 at *
    generalize flA A j=fl at *
    simp +contextual (maxSteps:=4000000) only[↓bdD,bdP,Nat.reduceLT,Nat.reduceBEq,Nat.reduceAdd,Int.reduceEq,↓reduceIte,ty3,AH,Ki,Gz,K1,h13,h11,ho,ho2,ho4,c1,w1,w2,t1,t2,t3,w3,w4,hWn,hl2,hAl,hnA,hci,hp,hstep]
    exact hlt
  ·have hci:¬(h:Int)≤((md:Nat):Int):=by omega
   rw [if_neg (fun g=>hc g.1),List.append_nil]at hstep
   generalize B0 A h W d.2.2.2.1 (j+1)=o2 at *
   generalize B0 A h W d.2.2.2.1 j=o1 at *
   generalize flA A j=fl at *
   simp +contextual (maxSteps:=4000000) only[↓bdD,bdP,Nat.reduceLT,Nat.reduceBEq,Nat.reduceAdd,Int.reduceEq,↓reduceIte,ty3,AH,Ki,Gz,K1,h13,h11,ho,ho2,ho4,c1,w1,w2,t1,t2,t3,w3,w4,hWn,hl2,hAl,hnA,hci,hstep]
   exact hlt
 ·have e:j=n:=by omega
  subst e
  have c1:¬((2*j:Nat):Int)<((2*j:Nat):Int):=by omega
  generalize B0 A h W d.2.2.2.1 j=o1 at *
  simp +contextual (maxSteps:=4000000) only[↓bdD,bdP,Nat.reduceLT,Nat.reduceBEq,Ar,Nat.reduceAdd,↓reduceIte,Ad,Ki,Gz,h13,h11,ho,ho2,ho4,c1]
theorem WG:WE:=uG uH
end Sim
