/- What functions of this seat compute, by values: contracts (lemmas of the statement's proof, under the conditions that each names). -/
import Derived.Test.YtppljhpecoeakaaQLM
import Derived.Test.YtppljhpecoeakaaQM
set_option linter.unusedVariables false
set_option linter.unusedSimpArgs false
set_option maxRecDepth 10000
set_option maxHeartbeats 4000000
namespace Sim
open Go Go.Proofs
def Ao (d:Dem):Nat:=(d.2.2.2.2-d.2.2.2.1).toNat
abbrev AA (hn:Int) (ls:List Lnk) (us:List Snd) (d:Dem):TN:=IX hn ls us d.2.2.2.1
def AP (hn:Int) (d:Dem):Nat:=(Ao d+1)*hn.toNat
def AY (hn:Int) (ls:List Lnk) (d:Dem):Nat:=Ao d*(hn.toNat+ls.length)
noncomputable def Bv (hn:Int) (ls:List Lnk) (us:List Snd) (d:Dem) (bytes:Int):List Arc×Int :=
 if d.1=d.2.1 then (gA (AA hn ls us d).p (AY hn ls d),bytes)
 else CY (gA (AA hn ls us d).p (AY hn ls d)) (gO (AA hn ls us d).p (AP hn d) (AY hn ls d)) (List.replicate (AP hn d) 0) (AP hn d) d.1.toNat (Ao d*hn.toNat+d.2.1.toNat) bytes
noncomputable def Hz (hn:Int) (ls:List Lnk) (us:List Snd) (d:Dem) (bytes:Int):Nat→Nat→Int:=(AA hn ls us d).gf (flA (Bv hn ls us d bytes).1)
theorem Co {hn:Int} {d:Dem} (h:Db hn d=true):(0≤d.1∧d.1<hn)∧(0≤d.2.1∧d.2.1<hn)∧DT d:=by
 simp only[Db,Bool.and_eq_true,decide_eq_true_eq,hOK]at h
 exact ⟨h.1.1,h.1.2,h.2⟩
structure PlanOK (hn:Int) (ls:List Lnk) (us:List Snd) (d:Dem) (bytes:Int):Prop where
 len : (Bv hn ls us d bytes).1.length=2*AY hn ls d
 plan : (AA hn ls us d).Plan (Ao d) d.1.toNat d.2.1.toNat (Bv hn ls us d bytes).2 (Hz hn ls us d bytes)
 n0 : 0≤(Bv hn ls us d bytes).2
 n1 : (Bv hn ls us d bytes).2≤bytes
 max : (Bv hn ls us d bytes).2<bytes→∀b g,b≤1099511627776→(AA hn ls us d).Plan (Ao d) d.1.toNat d.2.1.toNat b g→b≤(Bv hn ls us d bytes).2
 opt : ∀(c:Int) (f:Nat→Int),0≤c→(∀i,i<((AA hn ls us d).G (Ao d) d.1.toNat d.2.1.toNat).m→0≤f i∧f i≤c*((AA hn ls us d).G (Ao d) d.1.toNat d.2.1.toNat).cap i)→((AA hn ls us d).G (Ao d) d.1.toNat d.2.1.toNat).Val f (c*(Bv hn ls us d bytes).2) →
  c * (AA hn ls us d).cst (Ao d) (Hz hn ls us d bytes)≤((AA hn ls us d).G (Ao d) d.1.toNat d.2.1.toNat).cost f
 flow : d.1≠d.2.1→((AA hn ls us d).G (Ao d) d.1.toNat d.2.1.toNat).Flow (flA (Bv hn ls us d bytes).1) (Bv hn ls us d bytes).2
theorem E8 {hn:Int} {ls:List Lnk} {us:List Snd} {d:Dem} {bytes:Int} (hf:Bz hn ls us=0) (hd:Db hn d=true) (hb:0≤bytes):PlanOK hn ls us d bytes:=by
 obtain ⟨⟨a0,a1⟩,⟨c0,c1⟩,hr⟩:=Co hd
 have ok:=Dq (r:=d.2.2.2.1) (D:=Ao d) hf
 have ha:d.1.toNat<(AA hn ls us d).h:=by show d.1.toNat<hn.toNat;omega
 have hc:d.2.1.toNat<(AA hn ls us d).h:=by show d.2.1.toNat<hn.toNat;omega
 have hpo:=TN.p_ok ok
 by_cases e:d.1=d.2.1
 ·have hP:Bv hn ls us d bytes=(gA (AA hn ls us d).p (AY hn ls d),bytes):=by unfold Bv;rw[if_pos e]
  have hz:∀k t,k<(AA hn ls us d).L→t<Ao d→Hz hn ls us d bytes k t=0:=fun k t hk ht=>by
   unfold Hz
   rw [hP]
   exact JS (TN.pair_lt ht (by show _<(AA hn ls us d).h+(AA hn ls us d).L;omega))
  have hpl:(AA hn ls us d).Plan (Ao d) d.1.toNat d.2.1.toNat bytes (fun _ _=>0):=by
   have eo:∀x t,(AA hn ls us d).outF (fun _ _=>0) x t=0:=fun x t=>A4 fun k _=>by split <;> rfl
   have ei:∀x t,(AA hn ls us d).inF (fun _ _=>0) x t=0:=fun x t=>A4 fun k _=>by split <;> rfl
   have es:∀t x,(AA hn ls us d).stk d.1.toNat bytes (fun _ _=>0) t x=if d.1.toNat=x then bytes else 0:=fun t x=>by
    induction t with
    | zero=>rfl
    | succ t ih=>rw[TN.stk,ih,eo,ei];omega
   refine ⟨fun _ _ _ _=>Int.le_refl _,fun k t hk ht=>ok.lf k t hk ht,fun t x ht hx=>?_,fun x hx=>?_⟩
   ·rw [eo,es];split <;> omega
   ·rw [es,e]
  refine ⟨by rw[hP];exact Cn,?_,by rw[hP];exact hb,by rw[hP];exact Int.le_refl _,fun h=>by rw[hP]at h;exact absurd h (Int.lt_irrefl _),fun c f hc0 hfl _=>?_,fun g=>absurd e g⟩
  ·rw [hP];exact hpl.congr fun k t hk ht=>(hz k t hk ht).symm
  ·rw [TN.cst_congr hz]
   have : (AA hn ls us d).cst (Ao d) (fun _ _=>0)=0:=A4 fun t _=>A4 fun k _=>Int.mul_zero _
   rw [this,Int.mul_zero]
   exact Bp fun i hi=>Int.mul_nonneg (hpo i hi).2.2.2.2.1 (hfl i hi).1
 ·have hP:Bv hn ls us d bytes=CY (gA (AA hn ls us d).p (AY hn ls d)) (gO (AA hn ls us d).p (AP hn d) (AY hn ls d)) (List.replicate (AP hn d) 0) (AP hn d) d.1.toNat (Ao d*hn.toNat+d.2.1.toNat) bytes:=by unfold Bv;rw[if_neg e]
  have hs:d.1.toNat<AP hn d:=by
   have := TN.node_lt (T:=AA hn ls us d) (D:=Ao d) (t:=0) (by omega) ha
   rw [Nat.zero_mul,Nat.zero_add]at this
   exact this
  have ht:Ao d*hn.toNat+d.2.1.toNat<AP hn d:=TN.node_lt (T:=AA hn ls us d) (Nat.le_refl _) hc
  have hst:d.1.toNat≠Ao d*hn.toNat+d.2.1.toNat:=fun g=>by
   have :=(TN.src_eq (T:=AA hn ls us d) (t:=Ao d) ha hc).1 g
   omega
  obtain ⟨g1,⟨φ,g2⟩,g3,g4,g5,g6⟩:=Wc (p:=(AA hn ls us d).p) (n:=AY hn ls d) (N:=AP hn d) hpo hs ht hst hb
  rw [←hP]at g1 g2 g3 g4 g5 g6
  have hpl:=TN.flow_plan (T:=AA hn ls us d) (D:=Ao d) ok ha hc g1
  refine ⟨g6,hpl.1,g3,g4,fun hlt b g hb2 hg=>g5 hlt _ _ (TN.plan_flow ok ha hc hb2 hg).1,fun c f hc0 hfl hv=>?_,fun _=>g1⟩
  have := FN.opt (G:=(AA hn ls us d).G (Ao d) d.1.toNat d.2.1.toNat) (Qx hpo hs ht) g1 g2 (fun i hi=>(hfl i hi).1) (fun i hi=>(hfl i hi).2) hv rfl hc0
  rw [hpl.2]at this
  exact this
end Sim
namespace Sim
open Go Go.Proofs
attribute [local congr] Ap Aq Al AC As Ar Av
theorem Ad4 (a b:GE) (st:Store) (h:KR a=KR b) (hx:KQ a st) (hy:KQ b st):IW a st=IW b st:=by
 obtain ⟨B,A,out,lv,m,s,t,x⟩:=a
 obtain ⟨B',A',out',lv',m',s',t',x'⟩:=b
 simp only[KR,gP,List.cons.injEq,and_true,PV.ptr.injEq,PV.int.injEq,true_and]at h
 have e1:B=B':=by omega
 have e2:s=s':=by omega
 have e3:t=t':=by omega
 obtain ⟨_,_,_,e4⟩:=h
 subst e1;subst e2;subst e3;subst e4
 obtain ⟨a1,a2,a3⟩:=GrAt.same hx.1 hy.1
 dsimp only at a1 a2 a3
 subst a1;subst a2;subst a3
 rfl
theorem Ad5 (x:GE) {st:Store} (h:KQ x st):Bf KR KQ IW [gP x.B,I (x.s:Nat),I (x.t:Nat),I x.b] st=some (IW x st):=Bq Ad4 (i:=x) h
structure GW where
 hn : Int
 ls : List Lnk
 us : List Snd
 d : Dem
 b : Int
def KT (x:GW):List PV := [kG (x.hn,x.ls),Az x.us,Cp x.d,I x.b]
def I0 (x:GW) (st:Store):Prop:=WF st∧(∀i r,st.obj i≠some (.lp r))∧Bz x.hn x.ls x.us=0∧Db x.hn x.d=true∧Ao x.d≤100∧0≤x.b∧x.b≤1099511627776
def gBx (M n N:Nat):PV:=.agg [.ref (M+4) n 0 (2*n),.ref M 1 0 N,.ref (M+1) 1 0 N]
def plO (ob:Nat→Option IObj) (M n N:Nat) (A:List Arc):Nat→Option IObj:=fun i=>if i=M+2 then some (.arr 0 3 [gBx M n N])else if i=M+4 then some (.arr n 4 (A.map Da))else ob i
noncomputable def I3 (x:GW) (st:Store):PV×Store:=(.tuple [gP st.next,I (Bv x.hn x.ls x.us x.d x.b).2],⟨plO st.obj st.next (AY x.hn x.ls x.d) (AP x.hn x.d) (Bv x.hn x.ls x.us x.d x.b).1,st.next+5⟩)
noncomputable def e_plan:Nat×Ent:=(45,.x (Bf KT I0 I3))
theorem XA {ob O:Nat→Option IObj} {M n N n2:Nat} {A:List Arc} {r r':Int} (h1:WF ⟨ob,M⟩) (g2:O (M+2)=some (.arr 0 3 [gBx M n N])) (g4:O (M+4)=some (.arr n 4 (A.map Da))) (fr:∀i o,ob i=some o→O i=some o) (hr:r'=r) :
  Mj ⟨ob,M⟩ (.tuple [gP M,I r]) ⟨plO ob M n N A,M+5⟩ (.tuple [gP M,I r']) ⟨O,n2⟩:=by
 refine ⟨[],.inl (by rw[hr]),fun i o hi=>?_,by dsimp only;omega,.tuple _ fun c hc=>?_⟩
 ·dsimp only at hi ⊢
  unfold plO at hi
  by_cases c2:i=M+2
  ·rw [if_pos c2]at hi
   cases hi
   refine ⟨by omega,rfl,by rw[c2];exact g2,.inr fun e he c hc=>?_⟩
   rw [List.mem_singleton]at he
   subst he
   simp only[gBx,PV.cells,List.mem_cons,List.not_mem_nil,or_false]at hc
   rcases hc with hc | hc | hc <;> (rw[hc];exact .ref _ _ _ _ (by omega))
  rw [if_neg c2]at hi
  by_cases c4:i=M+4
  ·rw [if_pos c4]at hi
   cases hi
   exact ⟨by omega,rfl,by rw[c4];exact g4,.inr QJ⟩
  rw [if_neg c4]at hi
  have := h1 i o hi
  dsimp only at this
  exact ⟨by omega,rfl,fr i o hi,.inl hi⟩
 ·simp only[List.mem_cons,List.not_mem_nil,or_false]at hc
  rcases hc with hc | hc
  ·rw [hc];exact .ptr _ _ _ _ (by dsimp only;omega)
  ·rw [hc];exact .int _ _
theorem Ahp {ob:Nat→Option IObj} {M N:Nat} {A:List Arc} {out:List (List Nat)} (h1:WF ⟨ob,M⟩):WF ⟨mkO ob M A out N,M+5+N⟩:=fun i o hi=>by
 dsimp only at hi ⊢
 unfold mkO at hi
 by_cases c0:i=M
 ·omega
 rw [if_neg c0]at hi
 by_cases c1:i=M+1
 ·omega
 rw [if_neg c1]at hi
 by_cases c2:i=M+2
 ·omega
 rw [if_neg c2]at hi
 by_cases c4:i=M+4
 ·omega
 rw [if_neg c4]at hi
 by_cases c5:M+5≤i∧i<M+5+N
 ·exact c5.2
 rw [if_neg c5]at hi
 have := h1 i o hi
 dsimp only at this
 omega
theorem Ahq {ob:Nat→Option IObj} {M N:Nat} {A:List Arc} {out:List (List Nat)} (h:∀i r,ob i≠some (.lp r)):∀i r,mkO ob M A out N i≠some (.lp r):=fun i r hi=>by
 unfold mkO at hi
 repeat' (split at hi)
 all_goals first | (cases hi;done) | exact h i r hi
theorem Aay {ob:Nat→Option IObj} {M N:Nat} {A:List Arc} {out:List (List Nat)} (h1:WF ⟨ob,M⟩) {i:Nat} {o:IObj} (hi:ob i=some o):mkO ob M A out N i=some o:=by
 have := h1 i o hi
 dsimp only at this
 unfold mkO
 rw [if_neg (by omega),if_neg (by omega),if_neg (by omega),if_neg (by omega),if_neg (by omega)];exact hi
theorem Ad6:AL Try.prog e_plan.1 e_plan.2:=FJ fun x st hx=>by
 obtain ⟨hn,ls,us,d,b⟩:=x
 obtain ⟨ob,M⟩:=st
 unfold I0 at hx
 dsimp only at hx
 obtain ⟨h1,h2,hf,hd,hD,hb0,hb1⟩:=hx
 have hlp:∀i r,ob i≠some (.lp r):=h2
 simp only[KT,I3]
 have hP:=E8 (bytes:=b) hf hd hb0
 obtain ⟨⟨a0,a1⟩,⟨c0,c1⟩,hr⟩:=Co hd
 obtain ⟨okr,_⟩:=B6 hf
 have hh:=okr.net.houses
 have hln:=okr.net.len
 have hdu:d.2.2.2.2=d.2.2.2.1+(Ao d:Nat):=by unfold Ao;have:=hr.2.2.2.1;omega
 have hnn:((hn.toNat:Nat):Int)=hn:=by omega
 have sm:=Ad3 ⟨hn.toNat,Ao d,ls,us,d⟩ (st:=⟨ob,M⟩) ⟨h1,by dsimp only;rw[hnn];exact okr,hr.2.2.1,hdu,hD,hr.2.2.2.2,by dsimp only;rw[hnn];exact hf⟩
 simp only[Ew,GM.T,GM.N,GM.n,hnn]at sm
 have ok:=Dq (r:=d.2.2.2.1) (D:=Ao d) hf
 have hpo:=TN.p_ok ok
 have hNb:AP hn d≤1212:=Nat.le_trans (Nat.mul_le_mul (show Ao d+1≤101 by omega) (show hn.toNat≤12 by omega)) (by decide)
 have hnb:AY hn ls d≤7200:=Nat.le_trans (Nat.mul_le_mul hD (show hn.toNat+ls.length≤72 by omega)) (by decide)
 have hg:=Aho (ob:=ob) (M:=M) (A:=gA (AA hn ls us d).p (AY hn ls d)) (out:=gO (AA hn ls us d).p (AP hn d) (AY hn ls d)) (N:=AP hn d) Dv
 have g2:=hg.o2
 have hAl:=Cn (p:=(AA hn ls us d).p) (n:=AY hn ls d)
 have hOl:=Dv (p:=(AA hn ls us d).p) (N:=AP hn d) (n:=AY hn ls d)
 have hbx:Ii M (gA (AA hn ls us d).p (AY hn ls d)) (gO (AA hn ls us d).p (AP hn d) (AY hn ls d)) (List.replicate (AP hn d) 0)=gBx M (AY hn ls d) (AP hn d):=by
  unfold Ii gBx
  rw [hAl,hOl,List.length_replicate,show 2*AY hn ls d / 2=AY hn ls d by omega]
 rw [hbx]at g2
 have hpre:Bv hn ls us d b=if d.1=d.2.1 then (gA (AA hn ls us d).p (AY hn ls d),b)else CY (gA (AA hn ls us d).p (AY hn ls d)) (gO (AA hn ls us d).p (AP hn d) (AY hn ls d)) (List.replicate (AP hn d) 0) (AP hn d) d.1.toNat (Ao d*hn.toNat+d.2.1.toNat) b:=rfl
 have hNe:(Ao d+1)*hn.toNat=AP hn d:=rfl
 have hne:Ao d*(hn.toNat+ls.length)=AY hn ls d:=rfl
 rw [hNe,hne]at sm
 unfold gP at sm
 by_cases e:d.1=d.2.1
 ·rw [if_pos e]at hpre
  rw [hpre]
  dsimp only[Cp]at sm
  rw [e]at sm
  refine Cf AO (l := [e_make,e_send]) ((Ad mZ (Ad mU An))) [] [] 0 Try.func45 rfl (by decide +kernel) (N:=39) rfl (by simp) rfl (by kernel_rfl) ?_
  simp +contextual (maxSteps:=4000000) only[↓bdD,bdP,Nat.reduceLT,Nat.reduceBEq,Ah,Nat.reduceAdd,↓reduceIte,e_make,e_send,Ac,Ab,Try.f45,ty3,Au,AJ,AS,sm,e]
  refine XA h1 g2 ?_ (fun i o hi=>Aay h1 hi) rfl
  have := hg.o4
  rw [hAl,show 2*AY hn ls d / 2=AY hn ls d by omega]at this
  exact this
 ·rw [if_neg e]at hpre
  have hs:d.1.toNat<AP hn d:=by
   have := TN.node_lt (T:=AA hn ls us d) (D:=Ao d) (t:=0) (by omega) (show d.1.toNat<hn.toNat by omega)
   rw [Nat.zero_mul,Nat.zero_add]at this
   exact this
  have ht:Ao d*hn.toNat+d.2.1.toNat<AP hn d:=TN.node_lt (T:=AA hn ls us d) (Nat.le_refl _) (show d.2.1.toNat<hn.toNat by omega)
  have hst:d.1.toNat≠Ao d*hn.toNat+d.2.1.toNat:=fun g=>by
   have :=(TN.src_eq (T:=AA hn ls us d) (t:=Ao d) (show d.1.toNat<hn.toNat by omega) (show d.2.1.toNat<hn.toNat by omega)).1 g
   omega
  have hsi:=mG hpo hs ht hst
  have hme:Eu (gO (AA hn ls us d).p (AP hn d) (AY hn ls d)) (ini (AP hn d) d.1.toNat)≤AP hn d*AY hn ls d+1:=Adg (N:=AP hn d) (n:=AY hn ls d) hpo
  have hmul:AP hn d*AY hn ls d≤8726400:=Nat.le_trans (Nat.mul_le_mul hNb hnb) (by decide)
  have sd:=Ad5 ⟨M,gA (AA hn ls us d).p (AY hn ls d),gO (AA hn ls us d).p (AP hn d) (AY hn ls d),List.replicate (AP hn d) 0,AY hn ls d,d.1.toNat,Ao d*hn.toNat+d.2.1.toNat,b⟩ (st:=⟨mkO ob M (gA (AA hn ls us d).p (AY hn ls d)) (gO (AA hn ls us d).p (AP hn d) (AY hn ls d)) (AP hn d),M+5+AP hn d⟩) (by
   refine ⟨hg,?_,?_,Ahp h1,Ahq hlp,?_,?_,?_,hb0,hb1,fun i=>?_⟩ <;> simp only[List.length_replicate]
   ·exact hsi
   ·exact Nat.le_refl _
   ·omega
   ·omega
   ·exact Nat.le_trans hme (by omega)
   ·show aL _ (2*i)+aL _ (2*i+1)≤_
    by_cases c:i<AY hn ls d
    ·rw [mD c,JS c]
     obtain ⟨t,ht',⟨x,hx,rfl⟩ | ⟨k,hk,rfl⟩⟩:=TN.house_of (T:=AA hn ls us d) (D:=Ao d) ok.h1 c
     ·rw [TN.p_house hx];show (1099511627776:Int)+0≤1099511627776;decide
     ·rw [TN.p_link hk]
      have hk':k<ls.length:=hk
      have q1:=EZ hf (k:=(k:Int)) (t:=d.2.2.2.1+(t:Int)) ⟨by omega,by omega⟩
      have q2:=EH okr.net (link:=(k:Int)) (tick:=d.2.2.2.1+(t:Int)) (by omega) (by omega)
      show CQ ls (k:Int) (d.2.2.2.1+(t:Int))-Ba us (k:Int) (d.2.2.2.1+(t:Int)) us.length+0≤_
      omega
    ·unfold aL
     rw [List.getD_eq_getElem?_getD,List.getElem?_eq_none (by omega),List.getD_eq_getElem?_getD,List.getElem?_eq_none (by omega)];decide)
  simp only[IW,List.length_replicate]at sd
  unfold gP at sd
  rw [←hpre]at sd
  have hlen:=hP.len
  generalize Bv hn ls us d b=res at *
  obtain ⟨u,hu⟩:∃u:Nat,d.1=(u:Int):=⟨d.1.toNat,by omega⟩
  obtain ⟨v,hv⟩:∃v:Nat,d.2.1=(v:Int):=⟨d.2.1.toNat,by omega⟩
  have wD:IntKind.i64.wrap (d.2.2.2.2-d.2.2.2.1)=(Ao d:Int):=by rw[Ai (by omega) (by omega)];omega
  have hDh:Ao d*hn.toNat≤1200:=Nat.le_trans (Nat.mul_le_mul hD (show hn.toNat≤12 by omega)) (by decide)
  have wm:IntKind.i64.wrap ((Ao d:Int)*hn)=((Ao d*hn.toNat:Nat):Int):=by
   rw [show ((Ao d:Int)*hn)=((Ao d*hn.toNat:Nat):Int) by rw[Int.natCast_mul,hnn],Ai (by omega) (by omega)]
  have wa:IntKind.i64.wrap (((Ao d*hn.toNat:Nat):Int)+(v:Int))=((Ao d*hn.toNat+v:Nat):Int):=by rw[←Int.natCast_add,Ai (by omega) (by omega)]
  rw [hu,hv,Int.toNat_natCast,Int.toNat_natCast]at sd
  dsimp only[Cp]at sm
  rw [hu,hv]at sm
  have e':¬(u:Int)=(v:Int):=by rw[←hu,←hv];exact e
  refine Cf AO (l := [e_make,e_send]) ((Ad mZ (Ad mU An))) [] [] 0 Try.func45 rfl (by decide +kernel) (N:=39) rfl (by simp) rfl (by kernel_rfl) ?_
  simp +contextual (maxSteps:=4000000) only[↓bdD,bdP,Nat.reduceLT,Nat.reduceBEq,Ah,Nat.reduceEqDiff,Nat.reduceAdd,↓reduceIte,e_make,e_send,Ac,Ab,Try.f45,ty3,Au,AJ,AS,JA,sm,sd,hu,hv,e',wD,wm,wa]
  refine XA h1 ?_ ?_ (fun i o hi=>?_) rfl
  ·simp only[Aa]
   rw [if_neg (by omega),if_neg (by omega)];exact g2
  ·simp only[Aa]
   rw [if_neg (by omega),if_pos trivial,hAl,show 2*AY hn ls d / 2=AY hn ls d by omega]
  ·have := h1 i o hi
   dsimp only at this
   simp only[Aa]
   rw [if_neg (by omega),if_neg (by omega)];exact Aay h1 hi
theorem Ad7 (a b:GW) (st:Store) (h:KT a=KT b) (hx:I0 a st) (hy:I0 b st):I3 a st=I3 b st:=by
 obtain ⟨h1,ls1,us1,⟨df1,dt1,db1,dr1,dd1⟩,b1⟩:=a
 obtain ⟨h2,ls2,us2,⟨df2,dt2,db2,dr2,dd2⟩,b2⟩:=b
 simp only[KT,List.cons.injEq,and_true,PV.agg.injEq,PV.int.injEq,PV.lits.injEq,AD,AN,true_and]at h
 obtain ⟨⟨e1,e2⟩,e3,⟨e4,e5,e6,e7,e8⟩,e9⟩:=h
 subst e1;subst e2;subst e3;subst e4;subst e5;subst e6;subst e7;subst e8;subst e9
 rfl
theorem Ad8 (x:GW) {st:Store} (h:I0 x st):Bf KT I0 I3 [kG (x.hn,x.ls),Az x.us,Cp x.d,I x.b] st=some (I3 x st):=Bq Ad7 (i:=x) h
end Sim
