/- What functions of this seat compute, by values: contracts (lemmas of the statement's proof, under the conditions that each names). -/
import Derived.Test.YtppljhpecoeakaaQLM
import Derived.Test.YtppljhpecoeakaaQM
set_option linter.unusedVariables false
set_option linter.unusedSimpArgs false
set_option maxRecDepth 10000
set_option maxHeartbeats 4000000
namespace Sim
open Go Go.Proofs
def Ar (d:Dem):Nat:=(d.2.2.2.2-d.2.2.2.1).toNat
abbrev Aw (hn:Int) (ls:List Lnk) (us:List Snd) (d:Dem):TN:=I3 hn ls us d.2.2.2.1
def AM (hn:Int) (d:Dem):Nat:=(Ar d+1)*hn.toNat
def AV (hn:Int) (ls:List Lnk) (d:Dem):Nat:=Ar d*(hn.toNat+ls.length)
noncomputable def Bq (hn:Int) (ls:List Lnk) (us:List Snd) (d:Dem) (bytes:Int):List Arc×Int :=
 if d.1=d.2.1 then (gA (Aw hn ls us d).p (AV hn ls d),bytes)
 else CX (gA (Aw hn ls us d).p (AV hn ls d)) (gO (Aw hn ls us d).p (AM hn d) (AV hn ls d)) (List.replicate (AM hn d) 0) (AM hn d) d.1.toNat (Ar d*hn.toNat+d.2.1.toNat) bytes
noncomputable def HB (hn:Int) (ls:List Lnk) (us:List Snd) (d:Dem) (bytes:Int):Nat→Nat→Int:=(Aw hn ls us d).gf (flA (Bq hn ls us d bytes).1)
theorem Cw {hn:Int} {d:Dem} (h:Dc hn d=true):(0≤d.1∧d.1<hn)∧(0≤d.2.1∧d.2.1<hn)∧DU d:=by
 simp only[Dc,Bool.and_eq_true,decide_eq_true_eq,hOK]at h
 exact ⟨h.1.1,h.1.2,h.2⟩
structure PlanOK (hn:Int) (ls:List Lnk) (us:List Snd) (d:Dem) (bytes:Int):Prop where
 len : (Bq hn ls us d bytes).1.length=2*AV hn ls d
 plan : (Aw hn ls us d).Plan (Ar d) d.1.toNat d.2.1.toNat (Bq hn ls us d bytes).2 (HB hn ls us d bytes)
 n0 : 0≤(Bq hn ls us d bytes).2
 n1 : (Bq hn ls us d bytes).2≤bytes
 max : (Bq hn ls us d bytes).2<bytes→∀b g,b≤1099511627776→(Aw hn ls us d).Plan (Ar d) d.1.toNat d.2.1.toNat b g→b≤(Bq hn ls us d bytes).2
 opt : ∀(c:Int) (f:Nat→Int),0≤c→(∀i,i<((Aw hn ls us d).G (Ar d) d.1.toNat d.2.1.toNat).m→0≤f i∧f i≤c*((Aw hn ls us d).G (Ar d) d.1.toNat d.2.1.toNat).cap i)→((Aw hn ls us d).G (Ar d) d.1.toNat d.2.1.toNat).Val f (c*(Bq hn ls us d bytes).2) →
  c * (Aw hn ls us d).cst (Ar d) (HB hn ls us d bytes)≤((Aw hn ls us d).G (Ar d) d.1.toNat d.2.1.toNat).cost f
 flow : d.1≠d.2.1→((Aw hn ls us d).G (Ar d) d.1.toNat d.2.1.toNat).Flow (flA (Bq hn ls us d bytes).1) (Bq hn ls us d bytes).2
theorem EY {hn:Int} {ls:List Lnk} {us:List Snd} {d:Dem} {bytes:Int} (hf:BA hn ls us=0) (hd:Dc hn d=true) (hb:0≤bytes):PlanOK hn ls us d bytes:=by
 obtain ⟨⟨a0,a1⟩,⟨c0,c1⟩,hr⟩:=Cw hd
 have ok:=Dr (r:=d.2.2.2.1) (D:=Ar d) hf
 have ha:d.1.toNat<(Aw hn ls us d).h:=by show d.1.toNat<hn.toNat;omega
 have hc:d.2.1.toNat<(Aw hn ls us d).h:=by show d.2.1.toNat<hn.toNat;omega
 have hpo:=TN.p_ok ok
 by_cases e:d.1=d.2.1
 ·have hP:Bq hn ls us d bytes=(gA (Aw hn ls us d).p (AV hn ls d),bytes):=by unfold Bq;rw[if_pos e]
  have hz:∀k t,k<(Aw hn ls us d).L→t<Ar d→HB hn ls us d bytes k t=0:=fun k t hk ht=>by
   unfold HB
   rw [hP]
   exact JW (TN.pair_lt ht (by show _<(Aw hn ls us d).h+(Aw hn ls us d).L;omega))
  have hpl:(Aw hn ls us d).Plan (Ar d) d.1.toNat d.2.1.toNat bytes (fun _ _=>0):=by
   have eo:∀x t,(Aw hn ls us d).outF (fun _ _=>0) x t=0:=fun x t=>A3 fun k _=>by split <;> rfl
   have ei:∀x t,(Aw hn ls us d).inF (fun _ _=>0) x t=0:=fun x t=>A3 fun k _=>by split <;> rfl
   have es:∀t x,(Aw hn ls us d).stk d.1.toNat bytes (fun _ _=>0) t x=if d.1.toNat=x then bytes else 0:=fun t x=>by
    induction t with
    | zero=>rfl
    | succ t ih=>rw[TN.stk,ih,eo,ei];omega
   refine ⟨fun _ _ _ _=>Int.le_refl _,fun k t hk ht=>ok.lf k t hk ht,fun t x ht hx=>?_,fun x hx=>?_⟩
   ·rw [eo,es];split <;> omega
   ·rw [es,e]
  refine ⟨by rw[hP];exact Cl,?_,by rw[hP];exact hb,by rw[hP];exact Int.le_refl _,fun h=>by rw[hP]at h;exact absurd h (Int.lt_irrefl _),fun c f hc0 hfl _=>?_,fun g=>absurd e g⟩
  ·rw [hP];exact hpl.congr fun k t hk ht=>(hz k t hk ht).symm
  ·rw [TN.cst_congr hz]
   have : (Aw hn ls us d).cst (Ar d) (fun _ _=>0)=0:=A3 fun t _=>A3 fun k _=>Int.mul_zero _
   rw [this,Int.mul_zero]
   exact Bn fun i hi=>Int.mul_nonneg (hpo i hi).2.2.2.2.1 (hfl i hi).1
 ·have hP:Bq hn ls us d bytes=CX (gA (Aw hn ls us d).p (AV hn ls d)) (gO (Aw hn ls us d).p (AM hn d) (AV hn ls d)) (List.replicate (AM hn d) 0) (AM hn d) d.1.toNat (Ar d*hn.toNat+d.2.1.toNat) bytes:=by unfold Bq;rw[if_neg e]
  have hs:d.1.toNat<AM hn d:=by
   have := TN.node_lt (T:=Aw hn ls us d) (D:=Ar d) (t:=0) (by omega) ha
   rw [Nat.zero_mul,Nat.zero_add]at this
   exact this
  have ht:Ar d*hn.toNat+d.2.1.toNat<AM hn d:=TN.node_lt (T:=Aw hn ls us d) (Nat.le_refl _) hc
  have hst:d.1.toNat≠Ar d*hn.toNat+d.2.1.toNat:=fun g=>by
   have :=(TN.src_eq (T:=Aw hn ls us d) (t:=Ar d) ha hc).1 g
   omega
  obtain ⟨g1,⟨φ,g2⟩,g3,g4,g5,g6⟩:=V4 (p:=(Aw hn ls us d).p) (n:=AV hn ls d) (N:=AM hn d) hpo hs ht hst hb
  rw [←hP]at g1 g2 g3 g4 g5 g6
  have hpl:=TN.flow_plan (T:=Aw hn ls us d) (D:=Ar d) ok ha hc g1
  refine ⟨g6,hpl.1,g3,g4,fun hlt b g hb2 hg=>g5 hlt _ _ (TN.plan_flow ok ha hc hb2 hg).1,fun c f hc0 hfl hv=>?_,fun _=>g1⟩
  have := FN.opt (G:=(Aw hn ls us d).G (Ar d) d.1.toNat d.2.1.toNat) (Qs hpo hs ht) g1 g2 (fun i hi=>(hfl i hi).1) (fun i hi=>(hfl i hi).2) hv rfl hc0
  rw [hpl.2]at this
  exact this
end Sim
namespace Sim
open Go Go.Proofs
attribute [local congr] An Ao Al AC Aq Ap Av
theorem Ac8 (a b:GE) (st:Store) (h:KQ a=KQ b) (hx:KP a st) (hy:KP b st):I0 a st=I0 b st:=by
 obtain ⟨B,A,out,lv,m,s,t,x⟩:=a
 obtain ⟨B',A',out',lv',m',s',t',x'⟩:=b
 simp only[KQ,gP,List.cons.injEq,and_true,PV.ptr.injEq,PV.int.injEq,true_and]at h
 have e1:B=B':=by omega
 have e2:s=s':=by omega
 have e3:t=t':=by omega
 obtain ⟨_,_,_,e4⟩:=h
 subst e1;subst e2;subst e3;subst e4
 obtain ⟨a1,a2,a3⟩:=GrAt.same hx.1 hy.1
 dsimp only at a1 a2 a3
 subst a1;subst a2;subst a3
 rfl
theorem Ac9 (x:GE) {st:Store} (h:KP x st):Bd KQ KP I0 [gP x.B,I (x.s:Nat),I (x.t:Nat),I x.b] st=some (I0 x st):=Bo Ac8 (i:=x) h
structure GW where
 hn : Int
 ls : List Lnk
 us : List Snd
 d : Dem
 b : Int
def KS (x:GW):List PV := [Z3 (x.hn,x.ls),AB x.us,B3 x.d,I x.b]
def I6 (x:GW) (st:Store):Prop:=WF st∧(∀i r,st.obj i≠some (.lp r))∧BA x.hn x.ls x.us=0∧Dc x.hn x.d=true∧Ar x.d≤100∧0≤x.b∧x.b≤1099511627776
def gBx (M n N:Nat):PV:=.agg [.ref (M+4) n 0 (2*n),.ref M 1 0 N,.ref (M+1) 1 0 N]
def plO (ob:Nat→Option IObj) (M n N:Nat) (A:List Arc):Nat→Option IObj:=fun i=>if i=M+2 then some (.arr 0 3 [gBx M n N])else if i=M+4 then some (.arr n 4 (A.map Db))else ob i
noncomputable def HC (x:GW) (st:Store):PV×Store:=(.tuple [gP st.next,I (Bq x.hn x.ls x.us x.d x.b).2],⟨plO st.obj st.next (AV x.hn x.ls x.d) (AM x.hn x.d) (Bq x.hn x.ls x.us x.d x.b).1,st.next+5⟩)
noncomputable def e_plan:Nat×Ent:=(45,.x (Bd KS I6 HC))
theorem Xr {ob O:Nat→Option IObj} {M n N n2:Nat} {A:List Arc} {r r':Int} (h1:WF ⟨ob,M⟩) (g2:O (M+2)=some (.arr 0 3 [gBx M n N])) (g4:O (M+4)=some (.arr n 4 (A.map Db))) (fr:∀i o,ob i=some o→O i=some o) (hr:r'=r) :
  Mi ⟨ob,M⟩ (.tuple [gP M,I r]) ⟨plO ob M n N A,M+5⟩ (.tuple [gP M,I r']) ⟨O,n2⟩:=by
 refine ⟨[],.inl (by rw[hr]),fun i o hi=>?_,by dsimp only;omega,.tuple _ fun c hc=>?_⟩
 ·dsimp only at hi ⊢
  unfold plO at hi
  by_cases c2:i=M+2
  ·rw [if_pos c2]at hi
   cases hi
   refine ⟨by omega,rfl,by rw[c2];exact g2,.inr fun e he c hc=>?_⟩
   rw [List.mem_singleton]at he
   subst he
   simp only[gBx,PV.cells,List.mem_cons,List.not_mem_nil,or_false]at hc
   rcases hc with hc | hc | hc <;> (rw[hc];exact .ref _ _ _ _ (by omega))
  rw [if_neg c2]at hi
  by_cases c4:i=M+4
  ·rw [if_pos c4]at hi
   cases hi
   exact ⟨by omega,rfl,by rw[c4];exact g4,.inr QE⟩
  rw [if_neg c4]at hi
  have := h1 i o hi
  dsimp only at this
  exact ⟨by omega,rfl,fr i o hi,.inl hi⟩
 ·simp only[List.mem_cons,List.not_mem_nil,or_false]at hc
  rcases hc with hc | hc
  ·rw [hc];exact .ptr _ _ _ _ (by dsimp only;omega)
  ·rw [hc];exact .int _ _
theorem Agt {ob:Nat→Option IObj} {M N:Nat} {A:List Arc} {out:List (List Nat)} (h1:WF ⟨ob,M⟩):WF ⟨mkO ob M A out N,M+5+N⟩:=fun i o hi=>by
 dsimp only at hi ⊢
 unfold mkO at hi
 by_cases c0:i=M
 ·omega
 rw [if_neg c0]at hi
 by_cases c1:i=M+1
 ·omega
 rw [if_neg c1]at hi
 by_cases c2:i=M+2
 ·omega
 rw [if_neg c2]at hi
 by_cases c4:i=M+4
 ·omega
 rw [if_neg c4]at hi
 by_cases c5:M+5≤i∧i<M+5+N
 ·exact c5.2
 rw [if_neg c5]at hi
 have := h1 i o hi
 dsimp only at this
 omega
theorem Agu {ob:Nat→Option IObj} {M N:Nat} {A:List Arc} {out:List (List Nat)} (h:∀i r,ob i≠some (.lp r)):∀i r,mkO ob M A out N i≠some (.lp r):=fun i r hi=>by
 unfold mkO at hi
 repeat' (split at hi)
 all_goals first | (cases hi;done) | exact h i r hi
theorem zS {ob:Nat→Option IObj} {M N:Nat} {A:List Arc} {out:List (List Nat)} (h1:WF ⟨ob,M⟩) {i:Nat} {o:IObj} (hi:ob i=some o):mkO ob M A out N i=some o:=by
 have := h1 i o hi
 dsimp only at this
 unfold mkO
 rw [if_neg (by omega),if_neg (by omega),if_neg (by omega),if_neg (by omega),if_neg (by omega)];exact hi
theorem mL:AN Try.prog e_plan.1 e_plan.2:=FL fun x st hx=>by
 obtain ⟨hn,ls,us,d,b⟩:=x
 obtain ⟨ob,M⟩:=st
 unfold I6 at hx
 dsimp only at hx
 obtain ⟨h1,h2,hf,hd,hD,hb0,hb1⟩:=hx
 have hlp:∀i r,ob i≠some (.lp r):=h2
 simp only[KS,HC]
 have hP:=EY (bytes:=b) hf hd hb0
 obtain ⟨⟨a0,a1⟩,⟨c0,c1⟩,hr⟩:=Cw hd
 obtain ⟨okr,_⟩:=Cm hf
 have hh:=okr.net.houses
 have hln:=okr.net.len
 have hdu:d.2.2.2.2=d.2.2.2.1+(Ar d:Nat):=by unfold Ar;have:=hr.2.2.2.1;omega
 have hnn:((hn.toNat:Nat):Int)=hn:=by omega
 have sm:=Ac7 ⟨hn.toNat,Ar d,ls,us,d⟩ (st:=⟨ob,M⟩) ⟨h1,by dsimp only;rw[hnn];exact okr,hr.2.2.1,hdu,hD,hr.2.2.2.2,by dsimp only;rw[hnn];exact hf⟩
 simp only[Ew,GM.T,GM.N,GM.n,hnn]at sm
 have ok:=Dr (r:=d.2.2.2.1) (D:=Ar d) hf
 have hpo:=TN.p_ok ok
 have hNb:AM hn d≤1212:=Nat.le_trans (Nat.mul_le_mul (show Ar d+1≤101 by omega) (show hn.toNat≤12 by omega)) (by decide)
 have hnb:AV hn ls d≤7200:=Nat.le_trans (Nat.mul_le_mul hD (show hn.toNat+ls.length≤72 by omega)) (by decide)
 have hg:=Ags (ob:=ob) (M:=M) (A:=gA (Aw hn ls us d).p (AV hn ls d)) (out:=gO (Aw hn ls us d).p (AM hn d) (AV hn ls d)) (N:=AM hn d) Dw
 have g2:=hg.o2
 have hAl:=Cl (p:=(Aw hn ls us d).p) (n:=AV hn ls d)
 have hOl:=Dw (p:=(Aw hn ls us d).p) (N:=AM hn d) (n:=AV hn ls d)
 have hbx:Il M (gA (Aw hn ls us d).p (AV hn ls d)) (gO (Aw hn ls us d).p (AM hn d) (AV hn ls d)) (List.replicate (AM hn d) 0)=gBx M (AV hn ls d) (AM hn d):=by
  unfold Il gBx
  rw [hAl,hOl,List.length_replicate,show 2*AV hn ls d / 2=AV hn ls d by omega]
 rw [hbx]at g2
 have hpre:Bq hn ls us d b=if d.1=d.2.1 then (gA (Aw hn ls us d).p (AV hn ls d),b)else CX (gA (Aw hn ls us d).p (AV hn ls d)) (gO (Aw hn ls us d).p (AM hn d) (AV hn ls d)) (List.replicate (AM hn d) 0) (AM hn d) d.1.toNat (Ar d*hn.toNat+d.2.1.toNat) b:=rfl
 have hNe:(Ar d+1)*hn.toNat=AM hn d:=rfl
 have hne:Ar d*(hn.toNat+ls.length)=AV hn ls d:=rfl
 rw [hNe,hne]at sm
 unfold gP at sm
 by_cases e:d.1=d.2.1
 ·rw [if_pos e]at hpre
  rw [hpre]
  dsimp only[B3]at sm
  rw [e]at sm
  refine Cc AR (l := [e_make,e_send]) ((Ae mK (Ae mF As))) [] [] 0 Try.func45 rfl (by decide +kernel) (N:=39) rfl (by simp) rfl (by kernel_rfl) ?_
  simp +contextual (maxSteps:=4000000) only[↓bdD,bdP,Nat.reduceLT,Nat.reduceBEq,Ag,Nat.reduceAdd,↓reduceIte,e_make,e_send,Ac,Ab,Try.f45,ty3,Au,AF,AP,sm,e]
  refine Xr h1 g2 ?_ (fun i o hi=>zS h1 hi) rfl
  have := hg.o4
  rw [hAl,show 2*AV hn ls d / 2=AV hn ls d by omega]at this
  exact this
 ·rw [if_neg e]at hpre
  have hs:d.1.toNat<AM hn d:=by
   have := TN.node_lt (T:=Aw hn ls us d) (D:=Ar d) (t:=0) (by omega) (show d.1.toNat<hn.toNat by omega)
   rw [Nat.zero_mul,Nat.zero_add]at this
   exact this
  have ht:Ar d*hn.toNat+d.2.1.toNat<AM hn d:=TN.node_lt (T:=Aw hn ls us d) (Nat.le_refl _) (show d.2.1.toNat<hn.toNat by omega)
  have hst:d.1.toNat≠Ar d*hn.toNat+d.2.1.toNat:=fun g=>by
   have :=(TN.src_eq (T:=Aw hn ls us d) (t:=Ar d) (show d.1.toNat<hn.toNat by omega) (show d.2.1.toNat<hn.toNat by omega)).1 g
   omega
  have hsi:=lQ hpo hs ht hst
  have hme:Eu (gO (Aw hn ls us d).p (AM hn d) (AV hn ls d)) (ini (AM hn d) d.1.toNat)≤AM hn d*AV hn ls d+1:=Acj (N:=AM hn d) (n:=AV hn ls d) hpo
  have hmul:AM hn d*AV hn ls d≤8726400:=Nat.le_trans (Nat.mul_le_mul hNb hnb) (by decide)
  have sd:=Ac9 ⟨M,gA (Aw hn ls us d).p (AV hn ls d),gO (Aw hn ls us d).p (AM hn d) (AV hn ls d),List.replicate (AM hn d) 0,AV hn ls d,d.1.toNat,Ar d*hn.toNat+d.2.1.toNat,b⟩ (st:=⟨mkO ob M (gA (Aw hn ls us d).p (AV hn ls d)) (gO (Aw hn ls us d).p (AM hn d) (AV hn ls d)) (AM hn d),M+5+AM hn d⟩) (by
   refine ⟨hg,?_,?_,Agt h1,Agu hlp,?_,?_,?_,hb0,hb1,fun i=>?_⟩ <;> simp only[List.length_replicate]
   ·exact hsi
   ·exact Nat.le_refl _
   ·omega
   ·omega
   ·exact Nat.le_trans hme (by omega)
   ·show aL _ (2*i)+aL _ (2*i+1)≤_
    by_cases c:i<AV hn ls d
    ·rw [lN c,JW c]
     obtain ⟨t,ht',⟨x,hx,rfl⟩ | ⟨k,hk,rfl⟩⟩:=TN.house_of (T:=Aw hn ls us d) (D:=Ar d) ok.h1 c
     ·rw [TN.p_house hx];show (1099511627776:Int)+0≤1099511627776;decide
     ·rw [TN.p_link hk]
      have hk':k<ls.length:=hk
      have q1:=FW hf (k:=(k:Int)) (t:=d.2.2.2.1+(t:Int)) ⟨by omega,by omega⟩
      have q2:=Fr okr.net (link:=(k:Int)) (tick:=d.2.2.2.1+(t:Int)) (by omega) (by omega)
      show CY ls (k:Int) (d.2.2.2.1+(t:Int))-Bx us (k:Int) (d.2.2.2.1+(t:Int)) us.length+0≤_
      omega
    ·unfold aL
     rw [List.getD_eq_getElem?_getD,List.getElem?_eq_none (by omega),List.getD_eq_getElem?_getD,List.getElem?_eq_none (by omega)];decide)
  simp only[I0,List.length_replicate]at sd
  unfold gP at sd
  rw [←hpre]at sd
  have hlen:=hP.len
  generalize Bq hn ls us d b=res at *
  obtain ⟨u,hu⟩:∃u:Nat,d.1=(u:Int):=⟨d.1.toNat,by omega⟩
  obtain ⟨v,hv⟩:∃v:Nat,d.2.1=(v:Int):=⟨d.2.1.toNat,by omega⟩
  have wD:IntKind.i64.wrap (d.2.2.2.2-d.2.2.2.1)=(Ar d:Int):=by rw[Aj (by omega) (by omega)];omega
  have hDh:Ar d*hn.toNat≤1200:=Nat.le_trans (Nat.mul_le_mul hD (show hn.toNat≤12 by omega)) (by decide)
  have wm:IntKind.i64.wrap ((Ar d:Int)*hn)=((Ar d*hn.toNat:Nat):Int):=by
   rw [show ((Ar d:Int)*hn)=((Ar d*hn.toNat:Nat):Int) by rw[Int.natCast_mul,hnn],Aj (by omega) (by omega)]
  have wa:IntKind.i64.wrap (((Ar d*hn.toNat:Nat):Int)+(v:Int))=((Ar d*hn.toNat+v:Nat):Int):=by rw[←Int.natCast_add,Aj (by omega) (by omega)]
  rw [hu,hv,Int.toNat_natCast,Int.toNat_natCast]at sd
  dsimp only[B3]at sm
  rw [hu,hv]at sm
  have e':¬(u:Int)=(v:Int):=by rw[←hu,←hv];exact e
  refine Cc AR (l := [e_make,e_send]) ((Ae mK (Ae mF As))) [] [] 0 Try.func45 rfl (by decide +kernel) (N:=39) rfl (by simp) rfl (by kernel_rfl) ?_
  simp +contextual (maxSteps:=4000000) only[↓bdD,bdP,Nat.reduceLT,Nat.reduceBEq,Ag,Nat.reduceEqDiff,Nat.reduceAdd,↓reduceIte,e_make,e_send,Ac,Ab,Try.f45,ty3,Au,AF,AP,JE,sm,sd,hu,hv,e',wD,wm,wa]
  refine Xr h1 ?_ ?_ (fun i o hi=>?_) rfl
  ·simp only[Aa]
   rw [if_neg (by omega),if_neg (by omega)];exact g2
  ·simp only[Aa]
   rw [if_neg (by omega),if_pos trivial,hAl,show 2*AV hn ls d / 2=AV hn ls d by omega]
  ·have := h1 i o hi
   dsimp only at this
   simp only[Aa]
   rw [if_neg (by omega),if_neg (by omega)];exact zS h1 hi
theorem Ada (a b:GW) (st:Store) (h:KS a=KS b) (hx:I6 a st) (hy:I6 b st):HC a st=HC b st:=by
 obtain ⟨h1,ls1,us1,⟨df1,dt1,db1,dr1,dd1⟩,b1⟩:=a
 obtain ⟨h2,ls2,us2,⟨df2,dt2,db2,dr2,dd2⟩,b2⟩:=b
 simp only[KS,List.cons.injEq,and_true,PV.agg.injEq,PV.int.injEq,PV.lits.injEq,AG,AU,true_and]at h
 obtain ⟨⟨e1,e2⟩,e3,⟨e4,e5,e6,e7,e8⟩,e9⟩:=h
 subst e1;subst e2;subst e3;subst e4;subst e5;subst e6;subst e7;subst e8;subst e9
 rfl
theorem mM (x:GW) {st:Store} (h:I6 x st):Bd KS I6 HC [Z3 (x.hn,x.ls),AB x.us,B3 x.d,I x.b] st=some (HC x st):=Bo Ada (i:=x) h
end Sim
