/- What functions of this seat compute, by values: contracts (lemmas of the statement's proof, under the conditions that each names). -/
import Derived.Test.YtppljhpecoeakaaQLM
import Derived.Test.YtppljhpecoeakaaQM
set_option linter.unusedVariables false
set_option linter.unusedSimpArgs false
set_option maxRecDepth 10000
set_option maxHeartbeats 4000000
namespace Sim
open Go Go.Proofs
def An (d:Dem):Nat:=(d.2.2.2.2-d.2.2.2.1).toNat
abbrev Au (hn:Int) (ls:List Lnk) (us:List Snd) (d:Dem):TN:=I9 hn ls us d.2.2.2.1
def AO (hn:Int) (d:Dem):Nat:=(An d+1)*hn.toNat
def AW (hn:Int) (ls:List Lnk) (d:Dem):Nat:=An d*(hn.toNat+ls.length)
noncomputable def Bw (hn:Int) (ls:List Lnk) (us:List Snd) (d:Dem) (bytes:Int):List Arc×Int :=
 if d.1=d.2.1 then (gA (Au hn ls us d).p (AW hn ls d),bytes)
 else C8 (gA (Au hn ls us d).p (AW hn ls d)) (gO (Au hn ls us d).p (AO hn d) (AW hn ls d)) (List.replicate (AO hn d) 0) (AO hn d) d.1.toNat (An d*hn.toNat+d.2.1.toNat) bytes
noncomputable def HF (hn:Int) (ls:List Lnk) (us:List Snd) (d:Dem) (bytes:Int):Nat→Nat→Int:=(Au hn ls us d).gf (flA (Bw hn ls us d bytes).1)
theorem B9 {hn:Int} {d:Dem} (h:Dd hn d=true):(0≤d.1∧d.1<hn)∧(0≤d.2.1∧d.2.1<hn)∧DU d:=by
 simp only[Dd,Bool.and_eq_true,decide_eq_true_eq,hOK]at h
 exact ⟨h.1.1,h.1.2,h.2⟩
structure PlanOK (hn:Int) (ls:List Lnk) (us:List Snd) (d:Dem) (bytes:Int):Prop where
 len : (Bw hn ls us d bytes).1.length=2*AW hn ls d
 plan : (Au hn ls us d).Plan (An d) d.1.toNat d.2.1.toNat (Bw hn ls us d bytes).2 (HF hn ls us d bytes)
 n0 : 0≤(Bw hn ls us d bytes).2
 n1 : (Bw hn ls us d bytes).2≤bytes
 max : (Bw hn ls us d bytes).2<bytes→∀b g,b≤1099511627776→(Au hn ls us d).Plan (An d) d.1.toNat d.2.1.toNat b g→b≤(Bw hn ls us d bytes).2
 opt : ∀(c:Int) (f:Nat→Int),0≤c→(∀i,i<((Au hn ls us d).G (An d) d.1.toNat d.2.1.toNat).m→0≤f i∧f i≤c*((Au hn ls us d).G (An d) d.1.toNat d.2.1.toNat).cap i)→((Au hn ls us d).G (An d) d.1.toNat d.2.1.toNat).Val f (c*(Bw hn ls us d bytes).2) →
  c * (Au hn ls us d).cst (An d) (HF hn ls us d bytes)≤((Au hn ls us d).G (An d) d.1.toNat d.2.1.toNat).cost f
 flow : d.1≠d.2.1→((Au hn ls us d).G (An d) d.1.toNat d.2.1.toNat).Flow (flA (Bw hn ls us d bytes).1) (Bw hn ls us d bytes).2
theorem Fh {hn:Int} {ls:List Lnk} {us:List Snd} {d:Dem} {bytes:Int} (hf:Bz hn ls us=0) (hd:Dd hn d=true) (hb:0≤bytes):PlanOK hn ls us d bytes:=by
 obtain ⟨⟨a0,a1⟩,⟨c0,c1⟩,hr⟩:=B9 hd
 have ok:=Dq (r:=d.2.2.2.1) (D:=An d) hf
 have ha:d.1.toNat<(Au hn ls us d).h:=by show d.1.toNat<hn.toNat;omega
 have hc:d.2.1.toNat<(Au hn ls us d).h:=by show d.2.1.toNat<hn.toNat;omega
 have hpo:=TN.p_ok ok
 by_cases e:d.1=d.2.1
 ·have hP:Bw hn ls us d bytes=(gA (Au hn ls us d).p (AW hn ls d),bytes):=by unfold Bw;rw[if_pos e]
  have hz:∀k t,k<(Au hn ls us d).L→t<An d→HF hn ls us d bytes k t=0:=fun k t hk ht=>by
   unfold HF
   rw [hP]
   exact J4 (TN.pair_lt ht (by show _<(Au hn ls us d).h+(Au hn ls us d).L;omega))
  have hpl:(Au hn ls us d).Plan (An d) d.1.toNat d.2.1.toNat bytes (fun _ _=>0):=by
   have eo:∀x t,(Au hn ls us d).outF (fun _ _=>0) x t=0:=fun x t=>A3 fun k _=>by split <;> rfl
   have ei:∀x t,(Au hn ls us d).inF (fun _ _=>0) x t=0:=fun x t=>A3 fun k _=>by split <;> rfl
   have es:∀t x,(Au hn ls us d).stk d.1.toNat bytes (fun _ _=>0) t x=if d.1.toNat=x then bytes else 0:=fun t x=>by
    induction t with
    | zero=>rfl
    | succ t ih=>rw[TN.stk,ih,eo,ei];omega
   refine ⟨fun _ _ _ _=>Int.le_refl _,fun k t hk ht=>ok.lf k t hk ht,fun t x ht hx=>?_,fun x hx=>?_⟩
   ·rw [eo,es];split <;> omega
   ·rw [es,e]
  refine ⟨by rw[hP];exact Cq,?_,by rw[hP];exact hb,by rw[hP];exact Int.le_refl _,fun h=>by rw[hP]at h;exact absurd h (Int.lt_irrefl _),fun c f hc0 hfl _=>?_,fun g=>absurd e g⟩
  ·rw [hP];exact hpl.congr fun k t hk ht=>(hz k t hk ht).symm
  ·rw [TN.cst_congr hz]
   have : (Au hn ls us d).cst (An d) (fun _ _=>0)=0:=A3 fun t _=>A3 fun k _=>Int.mul_zero _
   rw [this,Int.mul_zero]
   exact Bp fun i hi=>Int.mul_nonneg (hpo i hi).2.2.2.2.1 (hfl i hi).1
 ·have hP:Bw hn ls us d bytes=C8 (gA (Au hn ls us d).p (AW hn ls d)) (gO (Au hn ls us d).p (AO hn d) (AW hn ls d)) (List.replicate (AO hn d) 0) (AO hn d) d.1.toNat (An d*hn.toNat+d.2.1.toNat) bytes:=by unfold Bw;rw[if_neg e]
  have hs:d.1.toNat<AO hn d:=by
   have := TN.node_lt (T:=Au hn ls us d) (D:=An d) (t:=0) (by omega) ha
   rw [Nat.zero_mul,Nat.zero_add]at this
   exact this
  have ht:An d*hn.toNat+d.2.1.toNat<AO hn d:=TN.node_lt (T:=Au hn ls us d) (Nat.le_refl _) hc
  have hst:d.1.toNat≠An d*hn.toNat+d.2.1.toNat:=fun g=>by
   have :=(TN.src_eq (T:=Au hn ls us d) (t:=An d) ha hc).1 g
   omega
  obtain ⟨g1,⟨φ,g2⟩,g3,g4,g5,g6⟩:=Wn (p:=(Au hn ls us d).p) (n:=AW hn ls d) (N:=AO hn d) hpo hs ht hst hb
  rw [←hP]at g1 g2 g3 g4 g5 g6
  have hpl:=TN.flow_plan (T:=Au hn ls us d) (D:=An d) ok ha hc g1
  refine ⟨g6,hpl.1,g3,g4,fun hlt b g hb2 hg=>g5 hlt _ _ (TN.plan_flow ok ha hc hb2 hg).1,fun c f hc0 hfl hv=>?_,fun _=>g1⟩
  have := FN.opt (G:=(Au hn ls us d).G (An d) d.1.toNat d.2.1.toNat) (QC hpo hs ht) g1 g2 (fun i hi=>(hfl i hi).1) (fun i hi=>(hfl i hi).2) hv rfl hc0
  rw [hpl.2]at this
  exact this
end Sim
namespace Sim
open Go Go.Proofs
attribute [local congr] Ap Aq Al AC As Ar Av
theorem Ael (a b:GE) (st:Store) (h:KX a=KX b) (hx:KW a st) (hy:KW b st):I8 a st=I8 b st:=by
 obtain ⟨B,A,out,lv,m,s,t,x⟩:=a
 obtain ⟨B',A',out',lv',m',s',t',x'⟩:=b
 simp only[KX,gP,List.cons.injEq,and_true,PV.ptr.injEq,PV.int.injEq,true_and]at h
 have e1:B=B':=by omega
 have e2:s=s':=by omega
 have e3:t=t':=by omega
 obtain ⟨_,_,_,e4⟩:=h
 subst e1;subst e2;subst e3;subst e4
 obtain ⟨a1,a2,a3⟩:=GrAt.same hx.1 hy.1
 dsimp only at a1 a2 a3
 subst a1;subst a2;subst a3
 rfl
theorem Aem (x:GE) {st:Store} (h:KW x st):Be KX KW I8 [gP x.B,I (x.s:Nat),I (x.t:Nat),I x.b] st=some (I8 x st):=Bq Ael (i:=x) h
structure GW where
 hn : Int
 ls : List Lnk
 us : List Snd
 d : Dem
 b : Int
def KZ (x:GW):List PV := [kT (x.hn,x.ls),AB x.us,Cr x.d,I x.b]
def Jc (x:GW) (st:Store):Prop:=WF st∧(∀i r,st.obj i≠some (.lp r))∧Bz x.hn x.ls x.us=0∧Dd x.hn x.d=true∧An x.d≤100∧0≤x.b∧x.b≤1099511627776
def gBx (M n N:Nat):PV:=.agg [.ref (M+4) n 0 (2*n),.ref M 1 0 N,.ref (M+1) 1 0 N]
def plO (ob:Nat→Option IObj) (M n N:Nat) (A:List Arc):Nat→Option IObj:=fun i=>if i=M+2 then some (.arr 0 3 [gBx M n N])else if i=M+4 then some (.arr n 4 (A.map Dc))else ob i
noncomputable def Jd (x:GW) (st:Store):PV×Store:=(.tuple [gP st.next,I (Bw x.hn x.ls x.us x.d x.b).2],⟨plO st.obj st.next (AW x.hn x.ls x.d) (AO x.hn x.d) (Bw x.hn x.ls x.us x.d x.b).1,st.next+5⟩)
noncomputable def e_plan:Nat×Ent:=(45,.x (Be KZ Jc Jd))
theorem XJ {ob O:Nat→Option IObj} {M n N n2:Nat} {A:List Arc} {r r':Int} (h1:WF ⟨ob,M⟩) (g2:O (M+2)=some (.arr 0 3 [gBx M n N])) (g4:O (M+4)=some (.arr n 4 (A.map Dc))) (fr:∀i o,ob i=some o→O i=some o) (hr:r'=r) :
  Mn ⟨ob,M⟩ (.tuple [gP M,I r]) ⟨plO ob M n N A,M+5⟩ (.tuple [gP M,I r']) ⟨O,n2⟩:=by
 refine ⟨[],.inl (by rw[hr]),fun i o hi=>?_,by dsimp only;omega,.tuple _ fun c hc=>?_⟩
 ·dsimp only at hi ⊢
  unfold plO at hi
  by_cases c2:i=M+2
  ·rw [if_pos c2]at hi
   cases hi
   refine ⟨by omega,rfl,by rw[c2];exact g2,.inr fun e he c hc=>?_⟩
   rw [List.mem_singleton]at he
   subst he
   simp only[gBx,PV.cells,List.mem_cons,List.not_mem_nil,or_false]at hc
   rcases hc with hc | hc | hc <;> (rw[hc];exact .ref _ _ _ _ (by omega))
  rw [if_neg c2]at hi
  by_cases c4:i=M+4
  ·rw [if_pos c4]at hi
   cases hi
   exact ⟨by omega,rfl,by rw[c4];exact g4,.inr QO⟩
  rw [if_neg c4]at hi
  have := h1 i o hi
  dsimp only at this
  exact ⟨by omega,rfl,fr i o hi,.inl hi⟩
 ·simp only[List.mem_cons,List.not_mem_nil,or_false]at hc
  rcases hc with hc | hc
  ·rw [hc];exact .ptr _ _ _ _ (by dsimp only;omega)
  ·rw [hc];exact .int _ _
theorem Ah6 {ob:Nat→Option IObj} {M N:Nat} {A:List Arc} {out:List (List Nat)} (h1:WF ⟨ob,M⟩):WF ⟨mkO ob M A out N,M+5+N⟩:=fun i o hi=>by
 dsimp only at hi ⊢
 unfold mkO at hi
 by_cases c0:i=M
 ·omega
 rw [if_neg c0]at hi
 by_cases c1:i=M+1
 ·omega
 rw [if_neg c1]at hi
 by_cases c2:i=M+2
 ·omega
 rw [if_neg c2]at hi
 by_cases c4:i=M+4
 ·omega
 rw [if_neg c4]at hi
 by_cases c5:M+5≤i∧i<M+5+N
 ·exact c5.2
 rw [if_neg c5]at hi
 have := h1 i o hi
 dsimp only at this
 omega
theorem Ah7 {ob:Nat→Option IObj} {M N:Nat} {A:List Arc} {out:List (List Nat)} (h:∀i r,ob i≠some (.lp r)):∀i r,mkO ob M A out N i≠some (.lp r):=fun i r hi=>by
 unfold mkO at hi
 repeat' (split at hi)
 all_goals first | (cases hi;done) | exact h i r hi
theorem Abf {ob:Nat→Option IObj} {M N:Nat} {A:List Arc} {out:List (List Nat)} (h1:WF ⟨ob,M⟩) {i:Nat} {o:IObj} (hi:ob i=some o):mkO ob M A out N i=some o:=by
 have := h1 i o hi
 dsimp only at this
 unfold mkO
 rw [if_neg (by omega),if_neg (by omega),if_neg (by omega),if_neg (by omega),if_neg (by omega)];exact hi
theorem Aen:AM Try.prog e_plan.1 e_plan.2:=FS fun x st hx=>by
 obtain ⟨hn,ls,us,d,b⟩:=x
 obtain ⟨ob,M⟩:=st
 unfold Jc at hx
 dsimp only at hx
 obtain ⟨h1,h2,hf,hd,hD,hb0,hb1⟩:=hx
 have hlp:∀i r,ob i≠some (.lp r):=h2
 simp only[KZ,Jd]
 have hP:=Fh (bytes:=b) hf hd hb0
 obtain ⟨⟨a0,a1⟩,⟨c0,c1⟩,hr⟩:=B9 hd
 obtain ⟨okr,_⟩:=B8 hf
 have hh:=okr.net.houses
 have hln:=okr.net.len
 have hdu:d.2.2.2.2=d.2.2.2.1+(An d:Nat):=by unfold An;have:=hr.2.2.2.1;omega
 have hnn:((hn.toNat:Nat):Int)=hn:=by omega
 have sm:=Aek ⟨hn.toNat,An d,ls,us,d⟩ (st:=⟨ob,M⟩) ⟨h1,by dsimp only;rw[hnn];exact okr,hr.2.2.1,hdu,hD,hr.2.2.2.2,by dsimp only;rw[hnn];exact hf⟩
 simp only[EE,GM.T,GM.N,GM.n,hnn]at sm
 have ok:=Dq (r:=d.2.2.2.1) (D:=An d) hf
 have hpo:=TN.p_ok ok
 have hNb:AO hn d≤1212:=Nat.le_trans (Nat.mul_le_mul (show An d+1≤101 by omega) (show hn.toNat≤12 by omega)) (by decide)
 have hnb:AW hn ls d≤7200:=Nat.le_trans (Nat.mul_le_mul hD (show hn.toNat+ls.length≤72 by omega)) (by decide)
 have hg:=Ah5 (ob:=ob) (M:=M) (A:=gA (Au hn ls us d).p (AW hn ls d)) (out:=gO (Au hn ls us d).p (AO hn d) (AW hn ls d)) (N:=AO hn d) Dv
 have g2:=hg.o2
 have hAl:=Cq (p:=(Au hn ls us d).p) (n:=AW hn ls d)
 have hOl:=Dv (p:=(Au hn ls us d).p) (N:=AO hn d) (n:=AW hn ls d)
 have hbx:Ir M (gA (Au hn ls us d).p (AW hn ls d)) (gO (Au hn ls us d).p (AO hn d) (AW hn ls d)) (List.replicate (AO hn d) 0)=gBx M (AW hn ls d) (AO hn d):=by
  unfold Ir gBx
  rw [hAl,hOl,List.length_replicate,show 2*AW hn ls d / 2=AW hn ls d by omega]
 rw [hbx]at g2
 have hpre:Bw hn ls us d b=if d.1=d.2.1 then (gA (Au hn ls us d).p (AW hn ls d),b)else C8 (gA (Au hn ls us d).p (AW hn ls d)) (gO (Au hn ls us d).p (AO hn d) (AW hn ls d)) (List.replicate (AO hn d) 0) (AO hn d) d.1.toNat (An d*hn.toNat+d.2.1.toNat) b:=rfl
 have hNe:(An d+1)*hn.toNat=AO hn d:=rfl
 have hne:An d*(hn.toNat+ls.length)=AW hn ls d:=rfl
 rw [hNe,hne]at sm
 unfold gP at sm
 by_cases e:d.1=d.2.1
 ·rw [if_pos e]at hpre
  rw [hpre]
  dsimp only[Cr]at sm
  rw [e]at sm
  refine Ch AP (l := [e_make,e_send]) ((Ae nL (Ae nG Ao))) [] [] 0 Try.func45 rfl (by decide +kernel) (N:=39) rfl (by simp) rfl (by kernel_rfl) ?_
  simp +contextual (maxSteps:=4000000) only[↓bdD,bdP,Nat.reduceLT,Nat.reduceBEq,Ai,Nat.reduceAdd,↓reduceIte,e_make,e_send,Ac,Ab,Try.f45,ty3,Aw,AJ,AX,sm,e]
  refine XJ h1 g2 ?_ (fun i o hi=>Abf h1 hi) rfl
  have := hg.o4
  rw [hAl,show 2*AW hn ls d / 2=AW hn ls d by omega]at this
  exact this
 ·rw [if_neg e]at hpre
  have hs:d.1.toNat<AO hn d:=by
   have := TN.node_lt (T:=Au hn ls us d) (D:=An d) (t:=0) (by omega) (show d.1.toNat<hn.toNat by omega)
   rw [Nat.zero_mul,Nat.zero_add]at this
   exact this
  have ht:An d*hn.toNat+d.2.1.toNat<AO hn d:=TN.node_lt (T:=Au hn ls us d) (Nat.le_refl _) (show d.2.1.toNat<hn.toNat by omega)
  have hst:d.1.toNat≠An d*hn.toNat+d.2.1.toNat:=fun g=>by
   have :=(TN.src_eq (T:=Au hn ls us d) (t:=An d) (show d.1.toNat<hn.toNat by omega) (show d.2.1.toNat<hn.toNat by omega)).1 g
   omega
  have hsi:=mR hpo hs ht hst
  have hme:EB (gO (Au hn ls us d).p (AO hn d) (AW hn ls d)) (ini (AO hn d) d.1.toNat)≤AO hn d*AW hn ls d+1:=Adx (N:=AO hn d) (n:=AW hn ls d) hpo
  have hmul:AO hn d*AW hn ls d≤8726400:=Nat.le_trans (Nat.mul_le_mul hNb hnb) (by decide)
  have sd:=Aem ⟨M,gA (Au hn ls us d).p (AW hn ls d),gO (Au hn ls us d).p (AO hn d) (AW hn ls d),List.replicate (AO hn d) 0,AW hn ls d,d.1.toNat,An d*hn.toNat+d.2.1.toNat,b⟩ (st:=⟨mkO ob M (gA (Au hn ls us d).p (AW hn ls d)) (gO (Au hn ls us d).p (AO hn d) (AW hn ls d)) (AO hn d),M+5+AO hn d⟩) (by
   refine ⟨hg,?_,?_,Ah6 h1,Ah7 hlp,?_,?_,?_,hb0,hb1,fun i=>?_⟩ <;> simp only[List.length_replicate]
   ·exact hsi
   ·exact Nat.le_refl _
   ·omega
   ·omega
   ·exact Nat.le_trans hme (by omega)
   ·show aL _ (2*i)+aL _ (2*i+1)≤_
    by_cases c:i<AW hn ls d
    ·rw [mO c,J4 c]
     obtain ⟨t,ht',⟨x,hx,rfl⟩ | ⟨k,hk,rfl⟩⟩:=TN.house_of (T:=Au hn ls us d) (D:=An d) ok.h1 c
     ·rw [TN.p_house hx];show (1099511627776:Int)+0≤1099511627776;decide
     ·rw [TN.p_link hk]
      have hk':k<ls.length:=hk
      have q1:=Fg hf (k:=(k:Int)) (t:=d.2.2.2.1+(t:Int)) ⟨by omega,by omega⟩
      have q2:=Ej okr.net (link:=(k:Int)) (tick:=d.2.2.2.1+(t:Int)) (by omega) (by omega)
      show Cp ls (k:Int) (d.2.2.2.1+(t:Int))-A9 us (k:Int) (d.2.2.2.1+(t:Int)) us.length+0≤_
      omega
    ·unfold aL
     rw [List.getD_eq_getElem?_getD,List.getElem?_eq_none (by omega),List.getD_eq_getElem?_getD,List.getElem?_eq_none (by omega)];decide)
  simp only[I8,List.length_replicate]at sd
  unfold gP at sd
  rw [←hpre]at sd
  have hlen:=hP.len
  generalize Bw hn ls us d b=res at *
  obtain ⟨u,hu⟩:∃u:Nat,d.1=(u:Int):=⟨d.1.toNat,by omega⟩
  obtain ⟨v,hv⟩:∃v:Nat,d.2.1=(v:Int):=⟨d.2.1.toNat,by omega⟩
  have wD:IntKind.i64.wrap (d.2.2.2.2-d.2.2.2.1)=(An d:Int):=by rw[Ag (by omega) (by omega)];omega
  have hDh:An d*hn.toNat≤1200:=Nat.le_trans (Nat.mul_le_mul hD (show hn.toNat≤12 by omega)) (by decide)
  have wm:IntKind.i64.wrap ((An d:Int)*hn)=((An d*hn.toNat:Nat):Int):=by
   rw [show ((An d:Int)*hn)=((An d*hn.toNat:Nat):Int) by rw[Int.natCast_mul,hnn],Ag (by omega) (by omega)]
  have wa:IntKind.i64.wrap (((An d*hn.toNat:Nat):Int)+(v:Int))=((An d*hn.toNat+v:Nat):Int):=by rw[←Int.natCast_add,Ag (by omega) (by omega)]
  rw [hu,hv,Int.toNat_natCast,Int.toNat_natCast]at sd
  dsimp only[Cr]at sm
  rw [hu,hv]at sm
  have e':¬(u:Int)=(v:Int):=by rw[←hu,←hv];exact e
  refine Ch AP (l := [e_make,e_send]) ((Ae nL (Ae nG Ao))) [] [] 0 Try.func45 rfl (by decide +kernel) (N:=39) rfl (by simp) rfl (by kernel_rfl) ?_
  simp +contextual (maxSteps:=4000000) only[↓bdD,bdP,Nat.reduceLT,Nat.reduceBEq,Ai,Nat.reduceEqDiff,Nat.reduceAdd,↓reduceIte,e_make,e_send,Ac,Ab,Try.f45,ty3,Aw,AJ,AX,JL,sm,sd,hu,hv,e',wD,wm,wa]
  refine XJ h1 ?_ ?_ (fun i o hi=>?_) rfl
  ·simp only[Aa]
   rw [if_neg (by omega),if_neg (by omega)];exact g2
  ·simp only[Aa]
   rw [if_neg (by omega),if_pos trivial,hAl,show 2*AW hn ls d / 2=AW hn ls d by omega]
  ·have := h1 i o hi
   dsimp only at this
   simp only[Aa]
   rw [if_neg (by omega),if_neg (by omega)];exact Abf h1 hi
theorem Aeo (a b:GW) (st:Store) (h:KZ a=KZ b) (hx:Jc a st) (hy:Jc b st):Jd a st=Jd b st:=by
 obtain ⟨h1,ls1,us1,⟨df1,dt1,db1,dr1,dd1⟩,b1⟩:=a
 obtain ⟨h2,ls2,us2,⟨df2,dt2,db2,dr2,dd2⟩,b2⟩:=b
 simp only[KZ,List.cons.injEq,and_true,PV.agg.injEq,PV.int.injEq,PV.lits.injEq,AG,AR,true_and]at h
 obtain ⟨⟨e1,e2⟩,e3,⟨e4,e5,e6,e7,e8⟩,e9⟩:=h
 subst e1;subst e2;subst e3;subst e4;subst e5;subst e6;subst e7;subst e8;subst e9
 rfl
theorem Aep (x:GW) {st:Store} (h:Jc x st):Be KZ Jc Jd [kT (x.hn,x.ls),AB x.us,Cr x.d,I x.b] st=some (Jd x st):=Bq Aeo (i:=x) h
end Sim
