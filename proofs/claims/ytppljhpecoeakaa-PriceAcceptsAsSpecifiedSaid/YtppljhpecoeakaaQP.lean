/- What functions of this seat compute, by values: contracts (lemmas of the statement's proof, under the conditions that each names). -/
import Derived.Test.YtppljhpecoeakaaQLM
import Derived.Test.YtppljhpecoeakaaQM
set_option linter.unusedVariables false
set_option linter.unusedSimpArgs false
set_option maxRecDepth 10000
set_option maxHeartbeats 4000000
namespace Sim
open Go Go.Proofs
def Al (d:Dem):Nat:=(d.2.2.2.2-d.2.2.2.1).toNat
abbrev AF (hn:Int) (ls:List Lnk) (us:List Snd) (d:Dem):TN:=I9 hn ls us d.2.2.2.1
def AR (hn:Int) (d:Dem):Nat:=(Al d+1)*hn.toNat
def AX (hn:Int) (ls:List Lnk) (d:Dem):Nat:=Al d*(hn.toNat+ls.length)
noncomputable def BG (hn:Int) (ls:List Lnk) (us:List Snd) (d:Dem) (bytes:Int):List Arc×Int :=
 if d.1=d.2.1 then (gA (AF hn ls us d).p (AX hn ls d),bytes)
 else Da (gA (AF hn ls us d).p (AX hn ls d)) (gO (AF hn ls us d).p (AR hn d) (AX hn ls d)) (List.replicate (AR hn d) 0) (AR hn d) d.1.toNat (Al d*hn.toNat+d.2.1.toNat) bytes
noncomputable def HI (hn:Int) (ls:List Lnk) (us:List Snd) (d:Dem) (bytes:Int):Nat→Nat→Int:=(AF hn ls us d).gf (flA (BG hn ls us d bytes).1)
theorem Cg {hn:Int} {d:Dem} (h:Dc hn d=true):(0≤d.1∧d.1<hn)∧(0≤d.2.1∧d.2.1<hn)∧DX d:=by
 simp only[Dc,Bool.and_eq_true,decide_eq_true_eq,hOK]at h
 exact ⟨h.1.1,h.1.2,h.2⟩
structure PlanOK (hn:Int) (ls:List Lnk) (us:List Snd) (d:Dem) (bytes:Int):Prop where
 len : (BG hn ls us d bytes).1.length=2*AX hn ls d
 plan : (AF hn ls us d).Plan (Al d) d.1.toNat d.2.1.toNat (BG hn ls us d bytes).2 (HI hn ls us d bytes)
 n0 : 0≤(BG hn ls us d bytes).2
 n1 : (BG hn ls us d bytes).2≤bytes
 max : (BG hn ls us d bytes).2<bytes→∀b g,b≤1099511627776→(AF hn ls us d).Plan (Al d) d.1.toNat d.2.1.toNat b g→b≤(BG hn ls us d bytes).2
 opt : ∀(c:Int) (f:Nat→Int),0≤c→(∀i,i<((AF hn ls us d).G (Al d) d.1.toNat d.2.1.toNat).m→0≤f i∧f i≤c*((AF hn ls us d).G (Al d) d.1.toNat d.2.1.toNat).cap i)→((AF hn ls us d).G (Al d) d.1.toNat d.2.1.toNat).Val f (c*(BG hn ls us d bytes).2) →
  c * (AF hn ls us d).cst (Al d) (HI hn ls us d bytes)≤((AF hn ls us d).G (Al d) d.1.toNat d.2.1.toNat).cost f
 flow : d.1≠d.2.1→((AF hn ls us d).G (Al d) d.1.toNat d.2.1.toNat).Flow (flA (BG hn ls us d bytes).1) (BG hn ls us d bytes).2
theorem Fg {hn:Int} {ls:List Lnk} {us:List Snd} {d:Dem} {bytes:Int} (hf:Br hn ls us=0) (hd:Dc hn d=true) (hb:0≤bytes):PlanOK hn ls us d bytes:=by
 obtain ⟨⟨a0,a1⟩,⟨c0,c1⟩,hr⟩:=Cg hd
 have ok:=Dv (r:=d.2.2.2.1) (D:=Al d) hf
 have ha:d.1.toNat<(AF hn ls us d).h:=by show d.1.toNat<hn.toNat;omega
 have hc:d.2.1.toNat<(AF hn ls us d).h:=by show d.2.1.toNat<hn.toNat;omega
 have hpo:=TN.p_ok ok
 by_cases e:d.1=d.2.1
 ·have hP:BG hn ls us d bytes=(gA (AF hn ls us d).p (AX hn ls d),bytes):=by unfold BG;rw[if_pos e]
  have hz:∀k t,k<(AF hn ls us d).L→t<Al d→HI hn ls us d bytes k t=0:=fun k t hk ht=>by
   unfold HI
   rw [hP]
   exact J4 (TN.pair_lt ht (by show _<(AF hn ls us d).h+(AF hn ls us d).L;omega))
  have hpl:(AF hn ls us d).Plan (Al d) d.1.toNat d.2.1.toNat bytes (fun _ _=>0):=by
   have eo:∀x t,(AF hn ls us d).outF (fun _ _=>0) x t=0:=fun x t=>A5 fun k _=>by split <;> rfl
   have ei:∀x t,(AF hn ls us d).inF (fun _ _=>0) x t=0:=fun x t=>A5 fun k _=>by split <;> rfl
   have es:∀t x,(AF hn ls us d).stk d.1.toNat bytes (fun _ _=>0) t x=if d.1.toNat=x then bytes else 0:=fun t x=>by
    induction t with
    | zero=>rfl
    | succ t ih=>rw[TN.stk,ih,eo,ei];omega
   refine ⟨fun _ _ _ _=>Int.le_refl _,fun k t hk ht=>ok.lf k t hk ht,fun t x ht hx=>?_,fun x hx=>?_⟩
   ·rw [eo,es];split <;> omega
   ·rw [es,e]
  refine ⟨by rw[hP];exact Cs,?_,by rw[hP];exact hb,by rw[hP];exact Int.le_refl _,fun h=>by rw[hP]at h;exact absurd h (Int.lt_irrefl _),fun c f hc0 hfl _=>?_,fun g=>absurd e g⟩
  ·rw [hP];exact hpl.congr fun k t hk ht=>(hz k t hk ht).symm
  ·rw [TN.cst_congr hz]
   have : (AF hn ls us d).cst (Al d) (fun _ _=>0)=0:=A5 fun t _=>A5 fun k _=>Int.mul_zero _
   rw [this,Int.mul_zero]
   exact Bt fun i hi=>Int.mul_nonneg (hpo i hi).2.2.2.2.1 (hfl i hi).1
 ·have hP:BG hn ls us d bytes=Da (gA (AF hn ls us d).p (AX hn ls d)) (gO (AF hn ls us d).p (AR hn d) (AX hn ls d)) (List.replicate (AR hn d) 0) (AR hn d) d.1.toNat (Al d*hn.toNat+d.2.1.toNat) bytes:=by unfold BG;rw[if_neg e]
  have hs:d.1.toNat<AR hn d:=by
   have := TN.node_lt (T:=AF hn ls us d) (D:=Al d) (t:=0) (by omega) ha
   rw [Nat.zero_mul,Nat.zero_add]at this
   exact this
  have ht:Al d*hn.toNat+d.2.1.toNat<AR hn d:=TN.node_lt (T:=AF hn ls us d) (Nat.le_refl _) hc
  have hst:d.1.toNat≠Al d*hn.toNat+d.2.1.toNat:=fun g=>by
   have :=(TN.src_eq (T:=AF hn ls us d) (t:=Al d) ha hc).1 g
   omega
  obtain ⟨g1,⟨φ,g2⟩,g3,g4,g5,g6⟩:=WN (p:=(AF hn ls us d).p) (n:=AX hn ls d) (N:=AR hn d) hpo hs ht hst hb
  rw [←hP]at g1 g2 g3 g4 g5 g6
  have hpl:=TN.flow_plan (T:=AF hn ls us d) (D:=Al d) ok ha hc g1
  refine ⟨g6,hpl.1,g3,g4,fun hlt b g hb2 hg=>g5 hlt _ _ (TN.plan_flow ok ha hc hb2 hg).1,fun c f hc0 hfl hv=>?_,fun _=>g1⟩
  have := FN.opt (G:=(AF hn ls us d).G (Al d) d.1.toNat d.2.1.toNat) (QZ hpo hs ht) g1 g2 (fun i hi=>(hfl i hi).1) (fun i hi=>(hfl i hi).2) hv rfl hc0
  rw [hpl.2]at this
  exact this
end Sim
namespace Sim
open Go Go.Proofs
attribute [local congr] As At Am AI Av Au AA
theorem Afv (a b:GE) (st:Store) (h:KY a=KY b) (hx:KX a st) (hy:KX b st):I8 a st=I8 b st:=by
 obtain ⟨B,A,out,lv,m,s,t,x⟩:=a
 obtain ⟨B',A',out',lv',m',s',t',x'⟩:=b
 simp only[KY,gP,List.cons.injEq,and_true,PV.ptr.injEq,PV.int.injEq,true_and]at h
 have e1:B=B':=by omega
 have e2:s=s':=by omega
 have e3:t=t':=by omega
 obtain ⟨_,_,_,e4⟩:=h
 subst e1;subst e2;subst e3;subst e4
 obtain ⟨a1,a2,a3⟩:=GrAt.same hx.1 hy.1
 dsimp only at a1 a2 a3
 subst a1;subst a2;subst a3
 rfl
theorem Afw (x:GE) {st:Store} (h:KX x st):Bi KY KX I8 [gP x.B,I (x.s:Nat),I (x.t:Nat),I x.b] st=some (I8 x st):=Bw Afv (i:=x) h
structure GW where
 hn : Int
 ls : List Lnk
 us : List Snd
 d : Dem
 b : Int
def K0 (x:GW):List PV := [mG (x.hn,x.ls),Aw x.us,B6 x.d,I x.b]
def Jc (x:GW) (st:Store):Prop:=WF st∧(∀i r,st.obj i≠some (.lp r))∧Br x.hn x.ls x.us=0∧Dc x.hn x.d=true∧Al x.d≤100∧0≤x.b∧x.b≤1099511627776
def gBx (M n N:Nat):PV:=.agg [.ref (M+4) n 0 (2*n),.ref M 1 0 N,.ref (M+1) 1 0 N]
def plO (ob:Nat→Option IObj) (M n N:Nat) (A:List Arc):Nat→Option IObj:=fun i=>if i=M+2 then some (.arr 0 3 [gBx M n N])else if i=M+4 then some (.arr n 4 (A.map Dg))else ob i
noncomputable def Jd (x:GW) (st:Store):PV×Store:=(.tuple [gP st.next,I (BG x.hn x.ls x.us x.d x.b).2],⟨plO st.obj st.next (AX x.hn x.ls x.d) (AR x.hn x.d) (BG x.hn x.ls x.us x.d x.b).1,st.next+5⟩)
noncomputable def e_plan:Nat×Ent:=(45,.x (Bi K0 Jc Jd))
theorem Yd {ob O:Nat→Option IObj} {M n N n2:Nat} {A:List Arc} {r r':Int} (h1:WF ⟨ob,M⟩) (g2:O (M+2)=some (.arr 0 3 [gBx M n N])) (g4:O (M+4)=some (.arr n 4 (A.map Dg))) (fr:∀i o,ob i=some o→O i=some o) (hr:r'=r) :
  Ms ⟨ob,M⟩ (.tuple [gP M,I r]) ⟨plO ob M n N A,M+5⟩ (.tuple [gP M,I r']) ⟨O,n2⟩:=by
 refine ⟨[],.inl (by rw[hr]),fun i o hi=>?_,by dsimp only;omega,.tuple _ fun c hc=>?_⟩
 ·dsimp only at hi ⊢
  unfold plO at hi
  by_cases c2:i=M+2
  ·rw [if_pos c2]at hi
   cases hi
   refine ⟨by omega,rfl,by rw[c2];exact g2,.inr fun e he c hc=>?_⟩
   rw [List.mem_singleton]at he
   subst he
   simp only[gBx,PV.cells,List.mem_cons,List.not_mem_nil,or_false]at hc
   rcases hc with hc | hc | hc <;> (rw[hc];exact .ref _ _ _ _ (by omega))
  rw [if_neg c2]at hi
  by_cases c4:i=M+4
  ·rw [if_pos c4]at hi
   cases hi
   exact ⟨by omega,rfl,by rw[c4];exact g4,.inr Rb⟩
  rw [if_neg c4]at hi
  have := h1 i o hi
  dsimp only at this
  exact ⟨by omega,rfl,fr i o hi,.inl hi⟩
 ·simp only[List.mem_cons,List.not_mem_nil,or_false]at hc
  rcases hc with hc | hc
  ·rw [hc];exact .ptr _ _ _ _ (by dsimp only;omega)
  ·rw [hc];exact .int _ _
theorem Ajh {ob:Nat→Option IObj} {M N:Nat} {A:List Arc} {out:List (List Nat)} (h1:WF ⟨ob,M⟩):WF ⟨mkO ob M A out N,M+5+N⟩:=fun i o hi=>by
 dsimp only at hi ⊢
 unfold mkO at hi
 by_cases c0:i=M
 ·omega
 rw [if_neg c0]at hi
 by_cases c1:i=M+1
 ·omega
 rw [if_neg c1]at hi
 by_cases c2:i=M+2
 ·omega
 rw [if_neg c2]at hi
 by_cases c4:i=M+4
 ·omega
 rw [if_neg c4]at hi
 by_cases c5:M+5≤i∧i<M+5+N
 ·exact c5.2
 rw [if_neg c5]at hi
 have := h1 i o hi
 dsimp only at this
 omega
theorem Aji {ob:Nat→Option IObj} {M N:Nat} {A:List Arc} {out:List (List Nat)} (h:∀i r,ob i≠some (.lp r)):∀i r,mkO ob M A out N i≠some (.lp r):=fun i r hi=>by
 unfold mkO at hi
 repeat' (split at hi)
 all_goals first | (cases hi;done) | exact h i r hi
theorem Acl {ob:Nat→Option IObj} {M N:Nat} {A:List Arc} {out:List (List Nat)} (h1:WF ⟨ob,M⟩) {i:Nat} {o:IObj} (hi:ob i=some o):mkO ob M A out N i=some o:=by
 have := h1 i o hi
 dsimp only at this
 unfold mkO
 rw [if_neg (by omega),if_neg (by omega),if_neg (by omega),if_neg (by omega),if_neg (by omega)];exact hi
theorem Afx:AM Try.prog e_plan.1 e_plan.2:=FQ fun x st hx=>by
 obtain ⟨hn,ls,us,d,b⟩:=x
 obtain ⟨ob,M⟩:=st
 unfold Jc at hx
 dsimp only at hx
 obtain ⟨h1,h2,hf,hd,hD,hb0,hb1⟩:=hx
 have hlp:∀i r,ob i≠some (.lp r):=h2
 simp only[K0,Jd]
 have hP:=Fg (bytes:=b) hf hd hb0
 obtain ⟨⟨a0,a1⟩,⟨c0,c1⟩,hr⟩:=Cg hd
 obtain ⟨okr,_⟩:=B7 hf
 have hh:=okr.net.houses
 have hln:=okr.net.len
 have hdu:d.2.2.2.2=d.2.2.2.1+(Al d:Nat):=by unfold Al;have:=hr.2.2.2.1;omega
 have hnn:((hn.toNat:Nat):Int)=hn:=by omega
 have sm:=Afu ⟨hn.toNat,Al d,ls,us,d⟩ (st:=⟨ob,M⟩) ⟨h1,by dsimp only;rw[hnn];exact okr,hr.2.2.1,hdu,hD,hr.2.2.2.2,by dsimp only;rw[hnn];exact hf⟩
 simp only[EC,GM.T,GM.N,GM.n,hnn]at sm
 have ok:=Dv (r:=d.2.2.2.1) (D:=Al d) hf
 have hpo:=TN.p_ok ok
 have hNb:AR hn d≤1212:=Nat.le_trans (Nat.mul_le_mul (show Al d+1≤101 by omega) (show hn.toNat≤12 by omega)) (by decide)
 have hnb:AX hn ls d≤7200:=Nat.le_trans (Nat.mul_le_mul hD (show hn.toNat+ls.length≤72 by omega)) (by decide)
 have hg:=Ajg (ob:=ob) (M:=M) (A:=gA (AF hn ls us d).p (AX hn ls d)) (out:=gO (AF hn ls us d).p (AR hn d) (AX hn ls d)) (N:=AR hn d) DA
 have g2:=hg.o2
 have hAl:=Cs (p:=(AF hn ls us d).p) (n:=AX hn ls d)
 have hOl:=DA (p:=(AF hn ls us d).p) (N:=AR hn d) (n:=AX hn ls d)
 have hbx:Iu M (gA (AF hn ls us d).p (AX hn ls d)) (gO (AF hn ls us d).p (AR hn d) (AX hn ls d)) (List.replicate (AR hn d) 0)=gBx M (AX hn ls d) (AR hn d):=by
  unfold Iu gBx
  rw [hAl,hOl,List.length_replicate,show 2*AX hn ls d / 2=AX hn ls d by omega]
 rw [hbx]at g2
 have hpre:BG hn ls us d b=if d.1=d.2.1 then (gA (AF hn ls us d).p (AX hn ls d),b)else Da (gA (AF hn ls us d).p (AX hn ls d)) (gO (AF hn ls us d).p (AR hn d) (AX hn ls d)) (List.replicate (AR hn d) 0) (AR hn d) d.1.toNat (Al d*hn.toNat+d.2.1.toNat) b:=rfl
 have hNe:(Al d+1)*hn.toNat=AR hn d:=rfl
 have hne:Al d*(hn.toNat+ls.length)=AX hn ls d:=rfl
 rw [hNe,hne]at sm
 unfold gP at sm
 by_cases e:d.1=d.2.1
 ·rw [if_pos e]at hpre
  rw [hpre]
  dsimp only[B6]at sm
  rw [e]at sm
  refine Ck AO (l := [e_make,e_send]) ((Ad oZ (Ad oU An))) [] [] 0 Try.func45 rfl (by decide +kernel) (N:=39) rfl (by simp) rfl (by kernel_rfl) ?_
  simp +contextual (maxSteps:=4000000) only[↓bdD,bdP,Nat.reduceLT,Nat.reduceBEq,Ai,Nat.reduceAdd,↓reduceIte,e_make,e_send,Ac,Ab,Try.f45,ty3,Aq,AB,AP,sm,e]
  refine Yd h1 g2 ?_ (fun i o hi=>Acl h1 hi) rfl
  have := hg.o4
  rw [hAl,show 2*AX hn ls d / 2=AX hn ls d by omega]at this
  exact this
 ·rw [if_neg e]at hpre
  have hs:d.1.toNat<AR hn d:=by
   have := TN.node_lt (T:=AF hn ls us d) (D:=Al d) (t:=0) (by omega) (show d.1.toNat<hn.toNat by omega)
   rw [Nat.zero_mul,Nat.zero_add]at this
   exact this
  have ht:Al d*hn.toNat+d.2.1.toNat<AR hn d:=TN.node_lt (T:=AF hn ls us d) (Nat.le_refl _) (show d.2.1.toNat<hn.toNat by omega)
  have hst:d.1.toNat≠Al d*hn.toNat+d.2.1.toNat:=fun g=>by
   have :=(TN.src_eq (T:=AF hn ls us d) (t:=Al d) (show d.1.toNat<hn.toNat by omega) (show d.2.1.toNat<hn.toNat by omega)).1 g
   omega
  have hsi:=oG hpo hs ht hst
  have hme:Ez (gO (AF hn ls us d).p (AR hn d) (AX hn ls d)) (ini (AR hn d) d.1.toNat)≤AR hn d*AX hn ls d+1:=Ae7 (N:=AR hn d) (n:=AX hn ls d) hpo
  have hmul:AR hn d*AX hn ls d≤8726400:=Nat.le_trans (Nat.mul_le_mul hNb hnb) (by decide)
  have sd:=Afw ⟨M,gA (AF hn ls us d).p (AX hn ls d),gO (AF hn ls us d).p (AR hn d) (AX hn ls d),List.replicate (AR hn d) 0,AX hn ls d,d.1.toNat,Al d*hn.toNat+d.2.1.toNat,b⟩ (st:=⟨mkO ob M (gA (AF hn ls us d).p (AX hn ls d)) (gO (AF hn ls us d).p (AR hn d) (AX hn ls d)) (AR hn d),M+5+AR hn d⟩) (by
   refine ⟨hg,?_,?_,Ajh h1,Aji hlp,?_,?_,?_,hb0,hb1,fun i=>?_⟩ <;> simp only[List.length_replicate]
   ·exact hsi
   ·exact Nat.le_refl _
   ·omega
   ·omega
   ·exact Nat.le_trans hme (by omega)
   ·show aL _ (2*i)+aL _ (2*i+1)≤_
    by_cases c:i<AX hn ls d
    ·rw [oD c,J4 c]
     obtain ⟨t,ht',⟨x,hx,rfl⟩ | ⟨k,hk,rfl⟩⟩:=TN.house_of (T:=AF hn ls us d) (D:=Al d) ok.h1 c
     ·rw [TN.p_house hx];show (1099511627776:Int)+0≤1099511627776;decide
     ·rw [TN.p_link hk]
      have hk':k<ls.length:=hk
      have q1:=Ff hf (k:=(k:Int)) (t:=d.2.2.2.1+(t:Int)) ⟨by omega,by omega⟩
      have q2:=EN okr.net (link:=(k:Int)) (tick:=d.2.2.2.1+(t:Int)) (by omega) (by omega)
      show CW ls (k:Int) (d.2.2.2.1+(t:Int))-Bd us (k:Int) (d.2.2.2.1+(t:Int)) us.length+0≤_
      omega
    ·unfold aL
     rw [List.getD_eq_getElem?_getD,List.getElem?_eq_none (by omega),List.getD_eq_getElem?_getD,List.getElem?_eq_none (by omega)];decide)
  simp only[I8,List.length_replicate]at sd
  unfold gP at sd
  rw [←hpre]at sd
  have hlen:=hP.len
  generalize BG hn ls us d b=res at *
  obtain ⟨u,hu⟩:∃u:Nat,d.1=(u:Int):=⟨d.1.toNat,by omega⟩
  obtain ⟨v,hv⟩:∃v:Nat,d.2.1=(v:Int):=⟨d.2.1.toNat,by omega⟩
  have wD:IntKind.i64.wrap (d.2.2.2.2-d.2.2.2.1)=(Al d:Int):=by rw[Af (by omega) (by omega)];omega
  have hDh:Al d*hn.toNat≤1200:=Nat.le_trans (Nat.mul_le_mul hD (show hn.toNat≤12 by omega)) (by decide)
  have wm:IntKind.i64.wrap ((Al d:Int)*hn)=((Al d*hn.toNat:Nat):Int):=by
   rw [show ((Al d:Int)*hn)=((Al d*hn.toNat:Nat):Int) by rw[Int.natCast_mul,hnn],Af (by omega) (by omega)]
  have wa:IntKind.i64.wrap (((Al d*hn.toNat:Nat):Int)+(v:Int))=((Al d*hn.toNat+v:Nat):Int):=by rw[←Int.natCast_add,Af (by omega) (by omega)]
  rw [hu,hv,Int.toNat_natCast,Int.toNat_natCast]at sd
  dsimp only[B6]at sm
  rw [hu,hv]at sm
  have e':¬(u:Int)=(v:Int):=by rw[←hu,←hv];exact e
  refine Ck AO (l := [e_make,e_send]) ((Ad oZ (Ad oU An))) [] [] 0 Try.func45 rfl (by decide +kernel) (N:=39) rfl (by simp) rfl (by kernel_rfl) ?_
  simp +contextual (maxSteps:=4000000) only[↓bdD,bdP,Nat.reduceLT,Nat.reduceBEq,Ai,Nat.reduceEqDiff,Nat.reduceAdd,↓reduceIte,e_make,e_send,Ac,Ab,Try.f45,ty3,Aq,AB,AP,JJ,sm,sd,hu,hv,e',wD,wm,wa]
  refine Yd h1 ?_ ?_ (fun i o hi=>?_) rfl
  ·simp only[Aa]
   rw [if_neg (by omega),if_neg (by omega)];exact g2
  ·simp only[Aa]
   rw [if_neg (by omega),if_pos trivial,hAl,show 2*AX hn ls d / 2=AX hn ls d by omega]
  ·have := h1 i o hi
   dsimp only at this
   simp only[Aa]
   rw [if_neg (by omega),if_neg (by omega)];exact Acl h1 hi
theorem Afy (a b:GW) (st:Store) (h:K0 a=K0 b) (hx:Jc a st) (hy:Jc b st):Jd a st=Jd b st:=by
 obtain ⟨h1,ls1,us1,⟨df1,dt1,db1,dr1,dd1⟩,b1⟩:=a
 obtain ⟨h2,ls2,us2,⟨df2,dt2,db2,dr2,dd2⟩,b2⟩:=b
 simp only[K0,List.cons.injEq,and_true,PV.agg.injEq,PV.int.injEq,PV.lits.injEq,AD,AK,true_and]at h
 obtain ⟨⟨e1,e2⟩,e3,⟨e4,e5,e6,e7,e8⟩,e9⟩:=h
 subst e1;subst e2;subst e3;subst e4;subst e5;subst e6;subst e7;subst e8;subst e9
 rfl
theorem Afz (x:GW) {st:Store} (h:Jc x st):Bi K0 Jc Jd [mG (x.hn,x.ls),Aw x.us,B6 x.d,I x.b] st=some (Jd x st):=Bw Afy (i:=x) h
end Sim
