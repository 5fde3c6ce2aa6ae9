/- What functions of this seat compute, by values: contracts (lemmas of the statement's proof, under the conditions that each names). -/
import Derived.Test.YtdfjimjbdakofaaGreatQM
import Derived.Test.YtdfjimjbdakofaaGreatQT
import Derived.Shelf.SlSortCmp.NoneTotal
import Derived.Shelf.Lay
import Derived.Ground.SlsfProg
import Derived.LoopN
import Derived.StillTailTactics
set_option linter.unusedVariables false
set_option linter.unusedSimpArgs false
set_option maxRecDepth 20000
set_option maxHeartbeats 4000000
namespace Sim
open Go Go.Proofs
def As (d:Dem):Nat:=(d.2.2.2.2-d.2.2.2.1).toNat
abbrev AJ (hn:Int) (ls:List Lnk) (us:List Snd) (d:Dem):TN:=Im hn ls us d.2.2.2.1
def AU (hn:Int) (d:Dem):Nat:=(As d+1)*hn.toNat
def AZ (hn:Int) (ls:List Lnk) (d:Dem):Nat:=As d*(hn.toNat+ls.length)
noncomputable def BE (hn:Int) (ls:List Lnk) (us:List Snd) (d:Dem) (bytes:Int):List Arc×Int :=
 if d.1=d.2.1 then (gA (AJ hn ls us d).p (AZ hn ls d),bytes)
 else DT (gA (AJ hn ls us d).p (AZ hn ls d)) (gO (AJ hn ls us d).p (AU hn d) (AZ hn ls d)) (List.replicate (AU hn d) 0) (AU hn d) d.1.toNat (As d*hn.toNat+d.2.1.toNat) bytes
noncomputable def Ig (hn:Int) (ls:List Lnk) (us:List Snd) (d:Dem) (bytes:Int):Nat→Nat→Int:=(AJ hn ls us d).gf (flA (BE hn ls us d bytes).1)
theorem BZ {hn:Int} {d:Dem} (h:D7 hn d=true):(0≤d.1∧d.1<hn)∧(0≤d.2.1∧d.2.1<hn)∧Il d:=by
 simp only[D7,Bool.and_eq_true,decide_eq_true_eq,hOK]at h
 exact ⟨h.1.1,h.1.2,h.2⟩
structure PlanOK (hn:Int) (ls:List Lnk) (us:List Snd) (d:Dem) (bytes:Int):Prop where
 len : (BE hn ls us d bytes).1.length=2*AZ hn ls d
 plan : (AJ hn ls us d).Plan (As d) d.1.toNat d.2.1.toNat (BE hn ls us d bytes).2 (Ig hn ls us d bytes)
 n0 : 0≤(BE hn ls us d bytes).2
 n1 : (BE hn ls us d bytes).2≤bytes
 max : (BE hn ls us d bytes).2<bytes→∀b g,b≤1099511627776→(AJ hn ls us d).Plan (As d) d.1.toNat d.2.1.toNat b g→b≤(BE hn ls us d bytes).2
 opt : ∀(c:Int) (f:Nat→Int),0≤c→(∀i,i<((AJ hn ls us d).G (As d) d.1.toNat d.2.1.toNat).m→0≤f i∧f i≤c*((AJ hn ls us d).G (As d) d.1.toNat d.2.1.toNat).cap i)→((AJ hn ls us d).G (As d) d.1.toNat d.2.1.toNat).Val f (c*(BE hn ls us d bytes).2) →
  c * (AJ hn ls us d).cst (As d) (Ig hn ls us d bytes)≤((AJ hn ls us d).G (As d) d.1.toNat d.2.1.toNat).cost f
 flow : d.1≠d.2.1→((AJ hn ls us d).G (As d) d.1.toNat d.2.1.toNat).Flow (flA (BE hn ls us d bytes).1) (BE hn ls us d bytes).2
section
variable {hn:Int} {ls:List Lnk} {us:List Snd} {d:Dem} {bytes:Int}
theorem EQ (hf:Cs hn ls us=0) (hd:D7 hn d=true) (hb:0≤bytes):PlanOK hn ls us d bytes:=by
 obtain ⟨⟨a0,a1⟩,⟨c0,c1⟩,hr⟩:=BZ hd
 have ok:=DB (r:=d.2.2.2.1) (D:=As d) hf
 have ha:d.1.toNat<(AJ hn ls us d).h:=by show d.1.toNat<hn.toNat;omega
 have hc:d.2.1.toNat<(AJ hn ls us d).h:=by show d.2.1.toNat<hn.toNat;omega
 have hpo:=TN.p_ok ok
 by_cases e:d.1=d.2.1
 ·have hP:BE hn ls us d bytes=(gA (AJ hn ls us d).p (AZ hn ls d),bytes):=by unfold BE;rw[if_pos e]
  have hz:∀k t,k<(AJ hn ls us d).L→t<As d→Ig hn ls us d bytes k t=0:=fun k t hk ht=>by
   unfold Ig
   rw [hP]
   exact Nq (TN.pair_lt ht (by show _<(AJ hn ls us d).h+(AJ hn ls us d).L;omega))
  have hpl:(AJ hn ls us d).Plan (As d) d.1.toNat d.2.1.toNat bytes (fun _ _=>0):=by
   have eo:∀x t,(AJ hn ls us d).outF (fun _ _=>0) x t=0:=fun x t=>Bb fun k _=>by split <;> rfl
   have ei:∀x t,(AJ hn ls us d).inF (fun _ _=>0) x t=0:=fun x t=>Bb fun k _=>by split <;> rfl
   have es:∀t x,(AJ hn ls us d).stk d.1.toNat bytes (fun _ _=>0) t x=if d.1.toNat=x then bytes else 0:=fun t x=>by
    induction t with
    | zero=>rfl
    | succ t ih=>rw[TN.stk,ih,eo,ei];omega
   refine ⟨fun _ _ _ _=>Int.le_refl _,fun k t hk ht=>ok.lf k t hk ht,fun t x ht hx=>?_,fun x hx=>?_⟩
   ·rw [eo,es];split <;> omega
   ·rw [es,e]
  refine ⟨by rw[hP];exact CE,?_,by rw[hP];exact hb,by rw[hP];exact Int.le_refl _,fun h=>by rw[hP]at h;exact absurd h (Int.lt_irrefl _),fun c f hc0 hfl _=>?_,fun g=>absurd e g⟩
  ·rw [hP];exact hpl.congr fun k t hk ht=>(hz k t hk ht).symm
  ·rw [TN.cst_congr hz]
   have : (AJ hn ls us d).cst (As d) (fun _ _=>0)=0:=Bb fun t _=>Bb fun k _=>Int.mul_zero _
   rw [this,Int.mul_zero]
   exact BC fun i hi=>Int.mul_nonneg (hpo i hi).2.2.2.2.1 (hfl i hi).1
 ·have hP:BE hn ls us d bytes=DT (gA (AJ hn ls us d).p (AZ hn ls d)) (gO (AJ hn ls us d).p (AU hn d) (AZ hn ls d)) (List.replicate (AU hn d) 0) (AU hn d) d.1.toNat (As d*hn.toNat+d.2.1.toNat) bytes:=by unfold BE;rw[if_neg e]
  have hs:d.1.toNat<AU hn d:=by
   have := TN.node_lt (T:=AJ hn ls us d) (D:=As d) (t:=0) (by omega) ha
   rw [Nat.zero_mul,Nat.zero_add]at this
   exact this
  have ht:As d*hn.toNat+d.2.1.toNat<AU hn d:=TN.node_lt (T:=AJ hn ls us d) (Nat.le_refl _) hc
  have hst:d.1.toNat≠As d*hn.toNat+d.2.1.toNat:=fun g=>by
   have :=(TN.src_eq (T:=AJ hn ls us d) (t:=As d) ha hc).1 g
   omega
  obtain ⟨g1,⟨φ,g2⟩,g3,g4,g5,g6⟩:=rU (p:=(AJ hn ls us d).p) (n:=AZ hn ls d) (N:=AU hn d) hpo hs ht hst hb
  rw [←hP]at g1 g2 g3 g4 g5 g6
  have hpl:=TN.flow_plan (T:=AJ hn ls us d) (D:=As d) ok ha hc g1
  refine ⟨g6,hpl.1,g3,g4,fun hlt b g hb2 hg=>g5 hlt _ _ (TN.plan_flow ok ha hc hb2 hg).1,fun c f hc0 hfl hv=>?_,fun _=>g1⟩
  have := FN.opt (G:=(AJ hn ls us d).G (As d) d.1.toNat d.2.1.toNat) (Aia hpo hs ht) g1 g2 (fun i hi=>(hfl i hi).1) (fun i hi=>(hfl i hi).2) hv rfl hc0
  rw [hpl.2]at this
  exact this
theorem PlanOK.best (P:PlanOK hn ls us d bytes) (hf:Cs hn ls us=0) (hd:D7 hn d=true) {b:Int} {g:Nat→Nat→Int} (hb:b≤1099511627776) (h:(AJ hn ls us d).Plan (As d) d.1.toNat d.2.1.toNat b g) :
  (∀ c:Int,1≤c→b=c*(BE hn ls us d bytes).2→c*(AJ hn ls us d).cst (As d) (Ig hn ls us d bytes)≤(AJ hn ls us d).cst (As d) g):=fun c hc e=>by
 obtain ⟨⟨a0,a1⟩,⟨c0,c1⟩,hr⟩:=BZ hd
 have ok:=DB (r:=d.2.2.2.1) (D:=As d) hf
 have ha:d.1.toNat<(AJ hn ls us d).h:=by show d.1.toNat<hn.toNat;omega
 have hc':d.2.1.toNat<(AJ hn ls us d).h:=by show d.2.1.toNat<hn.toNat;omega
 obtain ⟨f1,f2⟩:=TN.plan_flow ok ha hc' hb h
 have := P.opt c _ (by omega) (fun i hi=>⟨f1.nn i hi,?_⟩) (by rw[←e];exact f1.val)
 ·rw [f2]at this;exact this
 ·have h1:=f1.nn i hi
  have h2:=f1.le i hi
  have h5:=Int.le_trans h1 h2
  have := Int.mul_le_mul_of_nonneg_right hc h5
  rw [Int.one_mul]at this
  exact Int.le_trans h2 this
end
end Sim
namespace Sim
open Go Go.Proofs
attribute [local congr] Ai Aj Af At Am Al Aq
theorem Aiy (a b:GE) (st:Store) (h:My a=My b) (hx:Mx a st) (hy:Mx b st):Kj a st=Kj b st:=by
 obtain ⟨B,A,out,lv,m,s,t,x⟩:=a
 obtain ⟨B',A',out',lv',m',s',t',x'⟩:=b
 simp only[My,gP,List.cons.injEq,and_true,PV.ptr.injEq,PV.int.injEq,true_and]at h
 have e1:B=B':=by omega
 have e2:s=s':=by omega
 have e3:t=t':=by omega
 obtain ⟨_,_,_,e4⟩:=h
 subst e1;subst e2;subst e3;subst e4
 obtain ⟨a1,a2,a3⟩:=GrAt.same hx.1 hy.1
 dsimp only at a1 a2 a3
 subst a1;subst a2;subst a3
 rfl
theorem Aiz (x:GE) {st:Store} (h:Mx x st):A8 My Mx Kj [gP x.B,I (x.s:Nat),I (x.t:Nat),I x.b] st=some (Kj x st):=Ba Aiy (i:=x) h
structure GW where
 hn : Int
 ls : List Lnk
 us : List Snd
 d : Dem
 b : Int
def MF (x:GW):List PV := [rG (x.hn,x.ls),Ay x.us,DY x.d,I x.b]
def Ks (x:GW) (st:Store):Prop:=WF st∧(∀i r,st.obj i≠some (.lp r))∧Cs x.hn x.ls x.us=0∧D7 x.hn x.d=true∧As x.d≤100∧0≤x.b∧x.b≤1099511627776
def gBx (M n N:Nat):PV:=.agg [.ref (M+4) n 0 (2*n),.ref M 1 0 N,.ref (M+1) 1 0 N]
def plO (ob:Nat→Option IObj) (M n N:Nat) (A:List Arc):Nat→Option IObj:=fun i=>if i=M+2 then some (.arr 0 3 [gBx M n N])else if i=M+4 then some (.arr n 4 (A.map EX))else ob i
noncomputable def Kt (x:GW) (st:Store):PV×Store:=(.tuple [gP st.next,I (BE x.hn x.ls x.us x.d x.b).2],⟨plO st.obj st.next (AZ x.hn x.ls x.d) (AU x.hn x.d) (BE x.hn x.ls x.us x.d x.b).1,st.next+5⟩)
noncomputable def e_plan:Nat×Ent:=(42,.x (A8 MF Ks Kt))
theorem ZC {ob O:Nat→Option IObj} {M n N n2:Nat} {A:List Arc} {r r':Int} (h1:WF ⟨ob,M⟩) (g2:O (M+2)=some (.arr 0 3 [gBx M n N])) (g4:O (M+4)=some (.arr n 4 (A.map EX))) (fr:∀i o,ob i=some o→O i=some o) (hr:r'=r) :
  OC ⟨ob,M⟩ (.tuple [gP M,I r]) ⟨plO ob M n N A,M+5⟩ (.tuple [gP M,I r']) ⟨O,n2⟩:=by
 refine ⟨[],.inl (by rw[hr]),fun i o hi=>?_,by dsimp only;omega,.tuple _ fun c hc=>?_⟩
 ·dsimp only at hi ⊢
  unfold plO at hi
  by_cases c2:i=M+2
  ·rw [if_pos c2]at hi
   cases hi
   refine ⟨by omega,rfl,by rw[c2];exact g2,.inr fun e he c hc=>?_⟩
   rw [List.mem_singleton]at he
   subst he
   simp only[gBx,PV.cells,List.mem_cons,List.not_mem_nil,or_false]at hc
   rcases hc with hc | hc | hc <;> (rw[hc];exact .ref _ _ _ _ (by omega))
  rw [if_neg c2]at hi
  by_cases c4:i=M+4
  ·rw [if_pos c4]at hi
   cases hi
   exact ⟨by omega,rfl,by rw[c4];exact g4,.inr SF⟩
  rw [if_neg c4]at hi
  have := h1 i o hi
  dsimp only at this
  exact ⟨by omega,rfl,fr i o hi,.inl hi⟩
 ·simp only[List.mem_cons,List.not_mem_nil,or_false]at hc
  rcases hc with hc | hc
  ·rw [hc];exact .ptr _ _ _ _ (by dsimp only;omega)
  ·rw [hc];exact .int _ _
section
variable {ob:Nat→Option IObj} {M N:Nat} {A:List Arc} {out:List (List Nat)}
theorem Ame (h1:WF ⟨ob,M⟩):WF ⟨mkO ob M A out N,M+5+N⟩:=fun i o hi=>by
 dsimp only at hi ⊢
 unfold mkO at hi
 by_cases c0:i=M
 ·omega
 rw [if_neg c0]at hi
 by_cases c1:i=M+1
 ·omega
 rw [if_neg c1]at hi
 by_cases c2:i=M+2
 ·omega
 rw [if_neg c2]at hi
 by_cases c4:i=M+4
 ·omega
 rw [if_neg c4]at hi
 by_cases c5:M+5≤i∧i<M+5+N
 ·exact c5.2
 rw [if_neg c5]at hi
 have := h1 i o hi
 dsimp only at this
 omega
theorem Amf (h:∀i r,ob i≠some (.lp r)):∀i r,mkO ob M A out N i≠some (.lp r):=fun i r hi=>by
 unfold mkO at hi
 repeat' (split at hi)
 all_goals first | (cases hi;done) | exact h i r hi
theorem Afz (h1:WF ⟨ob,M⟩) {i:Nat} {o:IObj} (hi:ob i=some o):mkO ob M A out N i=some o:=by
 have := h1 i o hi
 dsimp only at this
 unfold mkO
 rw [if_neg (by omega),if_neg (by omega),if_neg (by omega),if_neg (by omega),if_neg (by omega)];exact hi
end
theorem Ai0:AM Tryz.prog e_plan.1 e_plan.2:=Ft fun x st hx=>by
 obtain ⟨hn,ls,us,d,b⟩:=x
 obtain ⟨ob,M⟩:=st
 unfold Ks at hx
 dsimp only at hx
 obtain ⟨h1,h2,hf,hd,hD,hb0,hb1⟩:=hx
 have hlp:∀i r,ob i≠some (.lp r):=h2
 simp only[MF,Kt]
 have hP:=EQ (bytes:=b) hf hd hb0
 obtain ⟨⟨a0,a1⟩,⟨c0,c1⟩,hr⟩:=BZ hd
 obtain ⟨okr,_⟩:=Ce hf
 have hh:=okr.net.houses
 have hln:=okr.net.len
 have hdu:d.2.2.2.2=d.2.2.2.1+(As d:Nat):=by unfold As;have:=hr.2.2.2.1;omega
 have hnn:((hn.toNat:Nat):Int)=hn:=by omega
 have sm:=Aix ⟨hn.toNat,As d,ls,us,d⟩ (st:=⟨ob,M⟩) ⟨h1,by dsimp only;rw[hnn];exact okr,hr.2.2.1,hdu,hD,hr.2.2.2.2,by dsimp only;rw[hnn];exact hf⟩
 simp only[EZ,GM.T,GM.N,GM.n,hnn]at sm
 have ok:=DB (r:=d.2.2.2.1) (D:=As d) hf
 have hpo:=TN.p_ok ok
 have hNb:AU hn d≤1212:=Nat.le_trans (Nat.mul_le_mul (show As d+1≤101 by omega) (show hn.toNat≤12 by omega)) (by decide)
 have hnb:AZ hn ls d≤7200:=Nat.le_trans (Nat.mul_le_mul hD (show hn.toNat+ls.length≤72 by omega)) (by decide)
 have hg:=Amd (ob:=ob) (M:=M) (A:=gA (AJ hn ls us d).p (AZ hn ls d)) (out:=gO (AJ hn ls us d).p (AU hn d) (AZ hn ls d)) (N:=AU hn d) FM
 have g2:=hg.o2
 have hAl:=CE (p:=(AJ hn ls us d).p) (n:=AZ hn ls d)
 have hOl:=FM (p:=(AJ hn ls us d).p) (N:=AU hn d) (n:=AZ hn ls d)
 have hbx:JL M (gA (AJ hn ls us d).p (AZ hn ls d)) (gO (AJ hn ls us d).p (AU hn d) (AZ hn ls d)) (List.replicate (AU hn d) 0)=gBx M (AZ hn ls d) (AU hn d):=by
  unfold JL gBx
  rw [hAl,hOl,List.length_replicate,show 2*AZ hn ls d / 2=AZ hn ls d by omega]
 rw [hbx]at g2
 have hpre:BE hn ls us d b=if d.1=d.2.1 then (gA (AJ hn ls us d).p (AZ hn ls d),b)else DT (gA (AJ hn ls us d).p (AZ hn ls d)) (gO (AJ hn ls us d).p (AU hn d) (AZ hn ls d)) (List.replicate (AU hn d) 0) (AU hn d) d.1.toNat (As d*hn.toNat+d.2.1.toNat) b:=rfl
 have hNe:(As d+1)*hn.toNat=AU hn d:=rfl
 have hne:As d*(hn.toNat+ls.length)=AZ hn ls d:=rfl
 rw [hNe,hne]at sm
 unfold gP at sm
 by_cases e:d.1=d.2.1
 ·rw [if_pos e]at hpre
  rw [hpre]
  dsimp only[DY]at sm
  rw [e]at sm
  refine BT AP (l := [e_make,e_send]) ((Ad tB (Ad rT Au))) [] [] 0 Tryz.func42 rfl (by decide +kernel) (N:=39) rfl (by simp) rfl (by kernel_rfl) ?_
  simp only[↓bdD,bdP,seval,Ao,e_make,e_send,Ac,Aa,Tryz.f42,ty3,AI,AN,AX,sm,e]
  refine ZC h1 g2 ?_ (fun i o hi=>Afz h1 hi) rfl
  have := hg.o4
  rw [hAl,show 2*AZ hn ls d / 2=AZ hn ls d by omega]at this
  exact this
 ·rw [if_neg e]at hpre
  have hs:d.1.toNat<AU hn d:=by
   have := TN.node_lt (T:=AJ hn ls us d) (D:=As d) (t:=0) (by omega) (show d.1.toNat<hn.toNat by omega)
   rw [Nat.zero_mul,Nat.zero_add]at this
   exact this
  have ht:As d*hn.toNat+d.2.1.toNat<AU hn d:=TN.node_lt (T:=AJ hn ls us d) (Nat.le_refl _) (show d.2.1.toNat<hn.toNat by omega)
  have hst:d.1.toNat≠As d*hn.toNat+d.2.1.toNat:=fun g=>by
   have :=(TN.src_eq (T:=AJ hn ls us d) (t:=As d) (show d.1.toNat<hn.toNat by omega) (show d.2.1.toNat<hn.toNat by omega)).1 g
   omega
  have hsi:=Afv hpo hs ht hst
  have hme:EW (gO (AJ hn ls us d).p (AU hn d) (AZ hn ls d)) (ini (AU hn d) d.1.toNat)≤AU hn d*AZ hn ls d+1:=Ah9 (N:=AU hn d) (n:=AZ hn ls d) hpo
  have hmul:AU hn d*AZ hn ls d≤8726400:=Nat.le_trans (Nat.mul_le_mul hNb hnb) (by decide)
  have sd:=Aiz ⟨M,gA (AJ hn ls us d).p (AZ hn ls d),gO (AJ hn ls us d).p (AU hn d) (AZ hn ls d),List.replicate (AU hn d) 0,AZ hn ls d,d.1.toNat,As d*hn.toNat+d.2.1.toNat,b⟩ (st:=⟨mkO ob M (gA (AJ hn ls us d).p (AZ hn ls d)) (gO (AJ hn ls us d).p (AU hn d) (AZ hn ls d)) (AU hn d),M+5+AU hn d⟩) (by
   refine ⟨hg,?_,?_,Ame h1,Amf hlp,?_,?_,?_,hb0,hb1,fun i=>?_⟩ <;> simp only[List.length_replicate]
   ·exact hsi
   ·exact Nat.le_refl _
   ·omega
   ·omega
   ·exact Nat.le_trans hme (by omega)
   ·show aL _ (2*i)+aL _ (2*i+1)≤_
    by_cases c:i<AZ hn ls d
    ·rw [Ab1 c,Nq c]
     obtain ⟨t,ht',⟨x,hx,rfl⟩ | ⟨k,hk,rfl⟩⟩:=TN.house_of (T:=AJ hn ls us d) (D:=As d) ok.h1 c
     ·rw [TN.p_house hx];show (1099511627776:Int)+0≤1099511627776;decide
     ·rw [TN.p_link hk]
      have hk':k<ls.length:=hk
      have q1:=G1 hf (k:=(k:Int)) (t:=d.2.2.2.1+(t:Int)) ⟨by omega,by omega⟩
      have q2:=Gs okr.net (link:=(k:Int)) (tick:=d.2.2.2.1+(t:Int)) (by omega) (by omega)
      show CJ ls (k:Int) (d.2.2.2.1+(t:Int))-Bg us (k:Int) (d.2.2.2.1+(t:Int)) us.length+0≤_
      omega
    ·unfold aL
     rw [List.getD_eq_getElem?_getD,List.getElem?_eq_none (by omega),List.getD_eq_getElem?_getD,List.getElem?_eq_none (by omega)];decide)
  simp only[Kj,List.length_replicate]at sd
  unfold gP at sd
  rw [←hpre]at sd
  have hlen:=hP.len
  generalize BE hn ls us d b=res at *
  obtain ⟨u,hu⟩:∃u:Nat,d.1=(u:Int):=⟨d.1.toNat,by omega⟩
  obtain ⟨v,hv⟩:∃v:Nat,d.2.1=(v:Int):=⟨d.2.1.toNat,by omega⟩
  have wD:IntKind.i64.wrap (d.2.2.2.2-d.2.2.2.1)=(As d:Int):=by rw[Ah (by omega) (by omega)];omega
  have hDh:As d*hn.toNat≤1200:=Nat.le_trans (Nat.mul_le_mul hD (show hn.toNat≤12 by omega)) (by decide)
  have wm:IntKind.i64.wrap ((As d:Int)*hn)=((As d*hn.toNat:Nat):Int):=by
   rw [show ((As d:Int)*hn)=((As d*hn.toNat:Nat):Int) by rw[Int.natCast_mul,hnn],Ah (by omega) (by omega)]
  have wa:IntKind.i64.wrap (((As d*hn.toNat:Nat):Int)+(v:Int))=((As d*hn.toNat+v:Nat):Int):=by rw[←Int.natCast_add,Ah (by omega) (by omega)]
  rw [hu,hv,Int.toNat_natCast,Int.toNat_natCast]at sd
  dsimp only[DY]at sm
  rw [hu,hv]at sm
  have e':¬(u:Int)=(v:Int):=by rw[←hu,←hv];exact e
  refine BT AP (l := [e_make,e_send]) ((Ad tB (Ad rT Au))) [] [] 0 Tryz.func42 rfl (by decide +kernel) (N:=39) rfl (by simp) rfl (by kernel_rfl) ?_
  simp only[↓bdD,bdP,seval,Ao,e_make,e_send,Ac,Aa,Tryz.f42,ty3,AI,AN,AX,K9,sm,sd,hu,hv,e',wD,wm,wa]
  refine ZC h1 ?_ ?_ (fun i o hi=>?_) rfl
  ·simp only[Ab]
   rw [if_neg (by omega),if_neg (by omega)];exact g2
  ·simp only[Ab]
   rw [if_neg (by omega),if_pos trivial,hAl,show 2*AZ hn ls d / 2=AZ hn ls d by omega]
  ·have := h1 i o hi
   dsimp only at this
   simp only[Ab]
   rw [if_neg (by omega),if_neg (by omega)];exact Afz h1 hi
theorem Ai1 (a b:GW) (st:Store) (h:MF a=MF b) (hx:Ks a st) (hy:Ks b st):Kt a st=Kt b st:=by
 obtain ⟨h1,ls1,us1,⟨df1,dt1,db1,dr1,dd1⟩,b1⟩:=a
 obtain ⟨h2,ls2,us2,⟨df2,dt2,db2,dr2,dd2⟩,b2⟩:=b
 simp only[MF,List.cons.injEq,and_true,PV.agg.injEq,PV.int.injEq,PV.lits.injEq,AD,AF,true_and]at h
 obtain ⟨⟨e1,e2⟩,e3,⟨e4,e5,e6,e7,e8⟩,e9⟩:=h
 subst e1;subst e2;subst e3;subst e4;subst e5;subst e6;subst e7;subst e8;subst e9
 rfl
theorem Ai2 (x:GW) {st:Store} (h:Ks x st):A8 MF Ks Kt [rG (x.hn,x.ls),Ay x.us,DY x.d,I x.b] st=some (Kt x st):=Ba Ai1 (i:=x) h
def DG (hn:Int) (ls:List Lnk) (us:List Snd) (d:Dem):Int:=if Cs hn ls us≠0 then Cs hn ls us else if D7 hn d=false then 1 else if 32<d.2.2.2.2-d.2.2.2.1 then 2 else 0
section
variable {hn:Int} {ls:List Lnk} {us:List Snd}
theorem fck_zero {d:Dem}:DG hn ls us d=0↔Cs hn ls us=0∧D7 hn d=true∧d.2.2.2.2-d.2.2.2.1≤32:=by
 unfold DG
 by_cases h1:Cs hn ls us=0
 ·rw [if_neg (fun g=>g h1)]
  by_cases h2:D7 hn d=false
  ·rw [if_pos h2];simp[h2]
  ·rw [if_neg h2]
   by_cases h3:32<d.2.2.2.2-d.2.2.2.1
   ·rw [if_pos h3];simp;intro _ _;omega
   ·rw [if_neg h3];simp[h1];exact⟨by simpa using h2,by omega⟩
 ·rw [if_pos h1];simp[h1]
theorem iO (h:Cs hn ls us=0):Bf hn ls []=0:=right_zero.2 ⟨(Ce h).1.net,by simp,by simp,by simp,by simp,by simp⟩
theorem iP {d:Dem} (h:Cs hn ls us=0):(Es hn ls [] d 0 0).2=if D7 hn d=false then 1 else 0:=by
 have hh:=(Ce h).1.net.houses
 unfold Es
 rw [if_neg (fun g=>g (iO h))]
 by_cases c:D7 hn d=false
 ·rw [if_pos (.inl c),if_pos c]
 ·rw [if_neg (by simp[c,hOK];omega),if_neg c]
end
noncomputable def FU:Int×List Lnk×List Snd×Dem→List PV:=fun (hn,ls,us,d) => [.agg [I hn,AQ ls],Ay us,DY d]
noncomputable def Lv:Int×List Lnk×List Snd×Dem→PV:=fun (hn,ls,us,d)=>I (DG hn ls us d)
noncomputable def e_fcheck:Nat×Ent:=(39,.v (Ap FU Lv AY))
theorem tC:∀i j,FU i=FU j→i=j:=by
 rintro ⟨_,_,_,_⟩ ⟨_,_,_,_⟩ h
 simp only[FU,List.cons.injEq,and_true,PV.lits.injEq,PV.int.injEq,PV.agg.injEq,true_and,AF,AD]at h
 simp [Prod.ext_iff,h] <;> omega
theorem G3 (hn:Int) (ls:List Lnk) (us:List Snd) (d:Dem):Ap FU Lv AY [.agg [I hn,AQ ls],Ay us,DY d]=some (I (DG hn ls us d)):=AC tC (i:=(hn,ls,us,d)) trivial
def tD:Prop:=∀(hn:Int) (ls:List Lnk) (us:List Snd) (d:Dem) ,VC Tryz.prog 39 (FU (hn,ls,us,d)) (Lv (hn,ls,us,d))
theorem tE:tD:=by
 intro hn ls us d
 dsimp only[FU,Lv]
 refine Bc AP (l := [e_fits,e_Stock]) ((Ad rZ (Ad Zw Au))) [] []  Tryz.func39 rfl (by decide +kernel) (N:=31) rfl (by simp) rfl (by kernel_rfl) fun hs=>?_
 simp only[AK,PV.small,List.length_map,and_true,true_and]at hs
 unfold DG
 by_cases h1:Cs hn ls us=0
 case neg =>
  rw [if_pos h1]
  generalize hr:Cs hn ls us=r at *
  simp only[↓bdD,bdP,seval,Ao,st0,e_fits,MC,e_Stock,Ac,Aa,Tryz.f39,AI,AN,h1,hr]
 rw [if_neg (fun g=>g h1)]
 have hsp:=SP (hn:=hn) (ls:=ls) (l := []) (d:=d) (at_:=0) (tick:=0)
 rw [show Ay []=PV.lits 3 [] from rfl]at hsp
 have hst:=iP (d:=d) h1
 generalize Es hn ls [] d 0 0=q at *
 by_cases h2:D7 hn d=false
 ·rw [if_pos h2]at hst ⊢
  rw [hst]at hsp
  simp only[↓bdD,bdP,seval,Ao,st0,e_fits,MC,e_Stock,Ac,Aa,Tryz.f39,ty3,AI,AN,AX,h1,hsp]
 rw [if_neg h2]at hst ⊢
 rw [hst]at hsp
 obtain ⟨_,_,hr⟩:=BZ (hn:=hn) (d:=d) (by simpa using h2)
 have hr0:=hr.2.2.1
 have hr1:=hr.2.2.2.1
 have hr2:=hr.2.2.2.2
 have wD:IntKind.i64.wrap (d.2.2.2.2-d.2.2.2.1)=d.2.2.2.2-d.2.2.2.1:=Ah (by omega) (by omega)
 by_cases h3:32<d.2.2.2.2-d.2.2.2.1
 ·rw [if_pos h3]
  simp only[↓bdD,bdP,seval,Ao,st0,e_fits,MC,e_Stock,Ac,Aa,Tryz.f39,ty3,AI,AN,AX,h1,hsp,wD,h3]
 ·rw [if_neg h3]
  simp only[↓bdD,bdP,seval,Ao,st0,e_fits,MC,e_Stock,Ac,Aa,Tryz.f39,ty3,AI,AN,AX,h1,hsp,wD,h3]
theorem Pc:AM Tryz.prog e_fcheck.1 e_fcheck.2:=Ax fun⟨hn,ls,us,d⟩ h=>tE hn ls us d
section
variable {hn:Int} {ls:List Lnk} {us:List Snd} {d:Dem}
theorem BK (h:DG hn ls us d=0):Cs hn ls us=0∧D7 hn d=true∧As d≤32∧d.2.2.2.2=d.2.2.2.1+(As d:Nat):=by
 obtain ⟨h1,h2,h3⟩:=fck_zero.1 h
 obtain ⟨_,_,hr⟩:=BZ h2
 have := hr.2.2.2.1
 exact ⟨h1,h2,by unfold As;omega,by unfold As;omega⟩
theorem Ai3 {b:Int} (h:DG hn ls us d=0) (hb:0≤b∧b≤1099511627776):Ks ⟨hn,ls,us,d,b⟩ ⟨fun _=>none,0⟩:=by
 obtain ⟨h1,h2,h3,_⟩:=BK h
 exact ⟨fun i o hi=>(by cases hi),fun i r hi=>(by cases hi),h1,h2,(by dsimp only;omega),hb⟩
end
noncomputable def ZD (hn:Int) (ls:List Lnk) (us:List Snd) (d:Dem):Int:=if DG hn ls us d=0 then (BE hn ls us d 1099511627776).2 else 0
def Cj (A:List Arc) (h W:Nat) (r:Int):Nat→List Snd
 | 0 => []
 | i+1=>Cj A h W r i++if h≤i % W∧0<flA A i then [(((i % W-h:Nat):Int),r+((i / W:Nat):Int),flA A i)]else []
theorem Vx {A:List Arc} {h W:Nat} {r:Int}:∀n,(Cj A h W r n).length≤n
 | 0=>Nat.le_refl _
 | n+1=>by
  have := Vx (A:=A) (h:=h) (W:=W) (r:=r) n
  rw [Cj,List.length_append]
  split <;> simp <;> omega
noncomputable def Dt (hn:Int) (ls:List Lnk) (us:List Snd) (d:Dem):Int:=if DG hn ls us d≠0 then DG hn ls us d else if (BE hn ls us d d.2.2.1).2<d.2.2.1 then 21 else 0
noncomputable def CV (hn:Int) (ls:List Lnk) (us:List Snd) (d:Dem):List Snd:=if Dt hn ls us d=0 then Cj (BE hn ls us d d.2.2.1).1 hn.toNat (hn.toNat+ls.length) d.2.2.2.1 (AZ hn ls d)else []
noncomputable def HF:Int×List Lnk×List Snd×Dem→List PV:=fun (hn,ls,us,d) => [.agg [I hn,AQ ls],Ay us,DY d]
noncomputable def NJ:Int×List Lnk×List Snd×Dem→PV:=fun (hn,ls,us,d)=>.tuple [Ay (CV hn ls us d),I (Dt hn ls us d)]
noncomputable def e_cheap:Nat×Ent:=(20,.v (Ap HF NJ AY))
theorem Acv:∀i j,HF i=HF j→i=j:=by
 rintro ⟨_,_,_,_⟩ ⟨_,_,_,_⟩ h
 simp only[HF,List.cons.injEq,and_true,PV.lits.injEq,PV.int.injEq,PV.agg.injEq,true_and,AF,AD]at h
 simp [Prod.ext_iff,h] <;> omega
theorem SV (hn:Int) (ls:List Lnk) (us:List Snd) (d:Dem):Ap HF NJ AY [.agg [I hn,AQ ls],Ay us,DY d]=some (.tuple [Ay (CV hn ls us d),I (Dt hn ls us d)]):=AC Acv (i:=(hn,ls,us,d)) trivial
def Acw:Prop:=∀(hn:Int) (ls:List Lnk) (us:List Snd) (d:Dem) ,VC Tryz.prog 20 (HF (hn,ls,us,d)) (NJ (hn,ls,us,d))
theorem Acx:Acw:=by
 intro hn ls us d
 dsimp only[HF,NJ]
 refine Bc AP (l := [e_fcheck,e_plan]) ((Ad Pc (Ad Ai0 Au))) [] []  Tryz.func20 rfl (by decide +kernel) (N:=91) rfl (by simp) rfl (by kernel_rfl) fun hs=>?_
 simp only[AK,PV.small,List.length_map,and_true,true_and]at hs
 by_cases h1:DG hn ls us d=0
 case neg =>
  have e1:Dt hn ls us d=DG hn ls us d:=by unfold Dt;rw[if_pos h1]
  have e2:CV hn ls us d = []:=by unfold CV;rw[e1,if_neg h1]
  rw [e1,e2]
  generalize hr:DG hn ls us d=r at *
  simp only[↓bdD,bdP,seval,Ao,st0,e_fcheck,G3,e_plan,Ac,Aa,Tryz.f20,AI,AN,AX,h1,hr]
 obtain ⟨hf,hd,hD,hdu⟩:=BK h1
 obtain ⟨_,_,hr⟩:=BZ hd
 have hr0:=hr.1
 have hr1:=hr.2.1
 have hr2:=hr.2.2.1
 have hr3:=hr.2.2.2.2
 have hh:=(Ce hf).1.net.houses
 have hln:=(Ce hf).1.net.len
 have hP:=EQ (bytes:=d.2.2.1) hf hd (by omega)
 have sp:=Ai2 ⟨hn,ls,us,d,d.2.2.1⟩ (st:=⟨fun _=>none,0⟩) (Ai3 h1 ⟨by omega,by omega⟩)
 simp only[Kt]at sp
 unfold gP at sp
 dsimp only[rG,DY]at sp
 have hn1:=hP.n1
 have hlen:=hP.len
 obtain ⟨h,hhe⟩:∃h:Nat,hn=(h:Int):=⟨hn.toNat,by omega⟩
 have hnb:AZ hn ls d≤2304:=Nat.le_trans (Nat.mul_le_mul hD (show hn.toNat+ls.length≤72 by omega)) (by decide)
 by_cases h2:(BE hn ls us d d.2.2.1).2<d.2.2.1
 ·have e1:Dt hn ls us d=21:=by unfold Dt;rw[if_neg (fun g=>g h1),if_pos h2]
  have e2:CV hn ls us d = []:=by unfold CV;rw[e1,if_neg (by decide)]
  rw [e1,e2]
  generalize BE hn ls us d d.2.2.1=q at *
  simp only[↓bdD,bdP,seval,Ao,st0,e_fcheck,G3,e_plan,Ac,Aa,Tryz.f20,ty3,AI,AN,AX,h1,sp,h2]
 have e1:Dt hn ls us d=0:=by unfold Dt;rw[if_neg (fun g=>g h1),if_neg h2]
 have e2:CV hn ls us d=Cj (BE hn ls us d d.2.2.1).1 hn.toNat (hn.toNat+ls.length) d.2.2.2.1 (AZ hn ls d):=by unfold CV;rw[if_pos e1]
 rw [e1,e2]
 clear e1 e2
 subst hhe
 rw [Int.toNat_natCast]at *
 generalize AZ (h:Int) ls d=n at *
 generalize AU (h:Int) d=N at *
 have wW:IntKind.i64.wrap ((h:Int)+(ls.length:Int))=((h+ls.length:Nat):Int):=by rw[←Int.natCast_add,Ah (by omega) (by omega)]
 obtain ⟨W,hW⟩:∃W,h+ls.length=W:=⟨_,rfl⟩
 rw [hW]at wW ⊢
 generalize BE (h:Int) ls us d d.2.2.1=q at *
 obtain ⟨A,sn⟩:=q
 dsimp only at sp hn1 hlen h2 ⊢
 clear hP
 have hW0:0<W:=by omega
 have hO2:plO (fun _=>none) 0 n N A 2=some (.arr 0 3 [gBx 0 n N]):=rfl
 have hO4:plO (fun _=>none) 0 n N A 4=some (.arr n 4 (A.map EX)):=rfl
 unfold gBx at hO2
 generalize plO (fun _=>none) 0 n N A=O at *
 simp only[↓bdD,bdP,seval,st0,e_fcheck,G3,e_plan,Ac,Aa,Tryz.f20,ty3,BP,AI,AN,AX,h1,sp,h2,wW]
 refine Aw [11,13,14,15,16,43,44,45,46,47,48,49,50,51,52,53,54,55,56,57,58,59,60,61,62,63,64,65,66,67,68,69,70,71,72,73,74,75,76,77,78,79,80,81,82,83,84,85,86,87,88,89] n (fun j ρ st'=>ρ 13=I ((2*j:Nat):Int)∧GS st' (ρ 11) 5 3 ((Cj A h W d.2.2.2.1 j).map B5)∧st'.obj 2=some (.arr 0 3 [.agg [.ref (0+4) n 0 (2*n),.ref 0 1 0 N,.ref (0+1) 1 0 N]])∧st'.obj 4=some (.arr n 4 (A.map EX))) (.slot _ 11 3 ?_ ?_) ?_ ?_
 ·simp only[↓bdD,bdP,Nat.reduceBEq]
 ·decide
 ·simp only[↓bdD,bdP,seval,Store.new,hO2,hO4]
  simp [Cj]
 rintro j ρ ⟨ob,M⟩ hj ⟨h13,⟨g,h11,ho⟩,ho2,ho4⟩
 dsimp only at ho ho2 ho4
 rw [List.length_map]at h11
 rw [Nat.zero_add]at ho2
 by_cases hlt:j<n
 ·have hol:=Vx (A:=A) (h:=h) (W:=W) (r:=d.2.2.2.1) j
  have hstep:Cj A h W d.2.2.2.1 (j+1)=Cj A h W d.2.2.2.1 j++if h≤j % W∧0<flA A j then [(((j % W-h:Nat):Int),d.2.2.2.1+((j / W:Nat):Int),flA A j)]else []:=rfl
  have hlen2:2*j+1<A.length:=by omega
  have hnA:=EH hlen2
  have hfl:(A.getD (2*j+1) dA).2.2.1=flA A j:=rfl
  rw [hfl]at hnA
  have c1:((2*j:Nat):Int)<((2*n:Nat):Int):=by omega
  have w1:IntKind.i64.wrap (((2*j:Nat):Int)+1)=((2*j+1:Nat):Int):=Co (by omega)
  have w2:IntKind.i64.wrap (((2*j:Nat):Int)+2)=((2*(j+1):Nat):Int):=by rw[Ah (by omega) (by omega)];omega
  have t1:Int.tdiv ((2*j:Nat):Int) 2=(j:Int):=by rw[Int.tdiv_eq_ediv_of_nonneg (by omega)];omega
  have t2:Int.tdiv (j:Int) (W:Int)=((j / W:Nat):Int):=by rw[Int.tdiv_eq_ediv_of_nonneg (by omega)];rfl
  have t3:Int.tmod (j:Int) (W:Int)=((j % W:Nat):Int):=by rw[Int.tmod_eq_emod_of_nonneg (by omega)];rfl
  have hdv:j / W≤j:=Nat.div_le_self _ _
  have hml:j % W<W:=Nat.mod_lt _ hW0
  generalize j / W=qd at *
  generalize j % W=md at *
  have w3:IntKind.i64.wrap (j:Int)=(j:Int):=Ah (by omega) (by omega)
  have w4:IntKind.i64.wrap ((qd:Nat):Int)=((qd:Nat):Int):=Ah (by omega) (by omega)
  have w5:IntKind.i64.wrap (d.2.2.2.1+((qd:Nat):Int))=d.2.2.2.1+((qd:Nat):Int):=Ah (by omega) (by omega)
  have hWn:¬(W:Int)=0:=by omega
  have hWn':¬W=0:=by omega
  have hl2:((2*j+1:Nat):Int)<((2*n:Nat):Int):=by omega
  have hAl:(A.map EX).length=2*n:=by rw[List.length_map,hlen]
  have hol1:(Cj A h W d.2.2.2.1 j).length+1≤2147483648:=by omega
  have htk:∀z,List.take ((Cj A h W d.2.2.2.1 j).length+1) (List.map B5 (Cj A h W d.2.2.2.1 j) ++ [z])=List.map B5 (Cj A h W d.2.2.2.1 j) ++ [z]:=fun z=>List.take_of_length_le (by simp)
  by_cases hc:h≤md
  ·have w6:IntKind.i64.wrap (((md:Nat):Int)-(h:Int))=((md-h:Nat):Int):=by rw[Ah (by omega) (by omega)];omega
   have hci:(h:Int)≤((md:Nat):Int):=by omega
   by_cases hp:0<flA A j
   ·rw [if_pos ⟨hc,hp⟩]at hstep
    generalize Cj A h W d.2.2.2.1 (j+1)=o2 at *
    generalize Cj A h W d.2.2.2.1 j=o1 at *
    generalize flA A j=fl at *
    simp only[↓bdD,bdP,seval,Store.set,ty3,AI,AN,AX,Cn,Mm,Ef,Ie,h13,h11,ho,ho2,ho4,c1,w1,w2,t1,t2,t3,w3,w4,w5,w6,hWn,hl2,hAl,hnA,hci,hp,hol1,hstep]
    exact ⟨hlt,by rw[List.map_append];rfl⟩
   ·rw [if_neg (fun g=>hp g.2),List.append_nil]at hstep
    generalize Cj A h W d.2.2.2.1 (j+1)=o2 at *
    generalize Cj A h W d.2.2.2.1 j=o1 at *
    generalize flA A j=fl at *
    simp only[↓bdD,bdP,seval,ty3,AI,Mm,Ef,Ie,h13,h11,ho,ho2,ho4,c1,w1,w2,t1,t2,t3,w3,w4,hWn,hl2,hAl,hnA,hci,hp,hstep]
    exact hlt
  ·have hci:¬(h:Int)≤((md:Nat):Int):=by omega
   rw [if_neg (fun g=>hc g.1),List.append_nil]at hstep
   generalize Cj A h W d.2.2.2.1 (j+1)=o2 at *
   generalize Cj A h W d.2.2.2.1 j=o1 at *
   generalize flA A j=fl at *
   simp only[↓bdD,bdP,seval,ty3,AI,Mm,Ef,Ie,h13,h11,ho,ho2,ho4,c1,w1,w2,t1,t2,t3,w3,w4,hWn,hl2,hAl,hnA,hci,hstep]
   exact hlt
 ·have e:j=n:=by omega
  subst e
  have c1:¬((2*j:Nat):Int)<((2*j:Nat):Int):=by omega
  generalize Cj A h W d.2.2.2.1 j=o1 at *
  simp only[↓bdD,bdP,seval,Ao,Ac,Mm,Ef,h13,h11,ho,ho2,ho4,c1]
theorem ZE:AM Tryz.prog e_cheap.1 e_cheap.2:=Ax fun⟨hn,ls,us,d⟩ h=>Acx hn ls us d
end Sim
namespace Sim
open Go Go.Proofs
theorem Pd {ls:List Lnk} {l:List Snd} {t f:Int}:∀n,D8 ls l t f n=An (fun i=>if (l.getD i dS).2.1=t∧(Bd ls (l.getD i dS)).1=f then (l.getD i dS).2.2 else 0) n
 | 0=>rfl
 | n+1=>by rw[D8,An,Pd n];rfl
theorem NK {ls:List Lnk} {l:List Snd} {a t:Int}:∀n,EN ls l a t n=An (fun i=>CU ls (l.getD i dS) a t) n
 | 0=>rfl
 | n+1=>by rw[EN,An,NK n]
theorem NL {l:List Snd} {a t:Int}:∀n,Bg l a t n=An (fun i=>if (l.getD i dS).1=a∧(l.getD i dS).2.1=t then (l.getD i dS).2.2 else 0) n
 | 0=>rfl
 | n+1=>by rw[Bg,An,NL n]
theorem SW {ls:List Lnk} {l:List Snd}:∀n,Dr ls l n=An (fun i=>(l.getD i dS).2.2*Df ls (l.getD i dS).1 (l.getD i dS).2.1) n
 | 0=>rfl
 | n+1=>by rw[Dr,An,SW n]
theorem Amg {f:Nat→Int}:∀n,Sm f n=An f n
 | 0=>rfl
 | n+1=>by rw[Sm,An,Amg n]
theorem Pe {l:List Snd} {τ:Int} {L:Nat} (P:Nat→Prop) [DecidablePred P]:∀ {n},(∀i,i<n→0≤(l.getD i dS).1∧(l.getD i dS).1<(L:Int)) →
  An (fun k=>if P k then Bg l (k:Int) τ n else 0) L=An (fun i=>if (l.getD i dS).2.1=τ∧P (l.getD i dS).1.toNat then (l.getD i dS).2.2 else 0) n
 | 0,_=>by
  rw [An]
  exact Bb fun k _=>by split <;> rfl
 | n + 1,h=>by
  have ih:=Pe (τ:=τ) P (n:=n) fun i hi=>h i (by omega)
  have hn:=h n (by omega)
  rw [An,←ih]
  have e:(fun k:Nat=>if P k then Bg l (k:Int) τ (n+1)else 0)=fun k=>(if P k then Bg l (k:Int) τ n else 0)+(if (l.getD n dS).1.toNat=k then (if (l.getD n dS).2.1=τ∧P (l.getD n dS).1.toNat then (l.getD n dS).2.2 else 0)else 0):=by
   funext k
   rw [Bg]
   by_cases c:(l.getD n dS).1.toNat=k
   ·rw [if_pos c]
    have c2:(l.getD n dS).1=(k:Int):=by omega
    rw [c]
    by_cases p:P k
    ·rw [if_pos p,if_pos p]
     by_cases q:(l.getD n dS).2.1=τ
     ·rw [if_pos ⟨c2,q⟩,if_pos ⟨q,p⟩]
     ·rw [if_neg (fun g=>q g.2),if_neg (fun g=>q g.1)]
    ·rw [if_neg p,if_neg p,if_neg (fun g=>p g.2)];rfl
   ·have c2:¬((l.getD n dS).1=(k:Int)∧(l.getD n dS).2.1=τ):=fun g=>c (by rw[g.1];exact Int.toNat_natCast k)
    rw [if_neg c,if_neg c2,Int.add_zero,Int.add_zero]
  rw [e,BB,BG,if_pos (by omega)]
def gS (l:List Snd) (r:Int) (k t:Nat):Int:=Bg l (k:Int) (r+(t:Int)) l.length
section
variable {ls:List Lnk} {l:List Snd} {i x:Nat}
theorem Acy (h:0≤(Bd ls (l.getD i dS)).1):((ls.getD (l.getD i dS).1.toNat dL).1.toNat=x)=((Bd ls (l.getD i dS)).1=(x:Int)):=by
 unfold Bd at h ⊢
 exact propext ⟨fun g=>by omega,fun g=>by omega⟩
theorem Acz (h:0≤(Bd ls (l.getD i dS)).2.1):((ls.getD (l.getD i dS).1.toNat dL).2.1.toNat=x)=((Bd ls (l.getD i dS)).2.1=(x:Int)):=by
 unfold Bd at h ⊢
 exact propext ⟨fun g=>by omega,fun g=>by omega⟩
end
section
variable {hn:Int} {ls:List Lnk} {l us:List Snd} {d:Dem} {r:Int}
theorem ZF (ok:OKr hn ls l) (x t:Nat):(Im hn ls us r).outF (gS l r) x t=D8 ls l (r+(t:Int)) (x:Int) l.length:=by
 have := Pe (l:=l) (τ:=r+(t:Int)) (L:=ls.length) (fun k=>(ls.getD k dL).1.toNat=x) (n:=l.length) ok.link
 rw [Pd]
 refine Eq.trans (Eq.trans ?_ this) (Ag fun i hi=>?_)
 ·rfl
 ·simp only[Acy (ends ok hi).1.1]
theorem Anc (ok:OKr hn ls l) (x t:Nat):(Im hn ls us r).inF (gS l r) x t=An (fun i=>if (l.getD i dS).2.1=r+(t:Int)∧(Bd ls (l.getD i dS)).2.1=(x:Int)then (l.getD i dS).2.2 else 0) l.length:=by
 have := Pe (l:=l) (τ:=r+(t:Int)) (L:=ls.length) (fun k=>(ls.getD k dL).2.1.toNat=x) (n:=l.length) ok.link
 refine Eq.trans (Eq.trans ?_ this) (Ag fun i hi=>?_)
 ·rfl
 ·simp only[Acz (ends ok hi).2.1.1]
theorem Lw (ok:OKr hn ls l) (hd:0≤d.1) (h0:∀i,i<l.length→d.2.2.2.1≤(l.getD i dS).2.1) (x:Nat):∀t:Nat,(Im hn ls us d.2.2.2.1).stk d.1.toNat d.2.2.1 (gS l d.2.2.2.1) t x=Bh ls l d (x:Int) (d.2.2.2.1+(t:Int))
 | 0=>by
  unfold Bh Ds
  rw [NK,Bb (fun i hi=>by unfold CU;rw[if_neg (by have:=h0 i hi;omega)]),TN.stk]
  by_cases c:d.1.toNat=x
  ·rw [if_pos c,if_pos ⟨by omega,by omega⟩];omega
  ·rw [if_neg c,if_neg (fun g=>c (by omega))];rfl
 | t + 1=>by
  rw [TN.stk,Lw ok hd h0 x t,ZF ok,Anc ok,Pd]
  unfold Bh
  have e0:Ds d (x:Int) (d.2.2.2.1+((t+1:Nat):Int))=Ds d (x:Int) (d.2.2.2.1+(t:Int)):=by
   unfold Ds
   by_cases c:(x:Int)=d.1
   ·rw [if_pos ⟨c,by omega⟩,if_pos ⟨c,by omega⟩]
   ·rw [if_neg (fun g=>c g.1),if_neg (fun g=>c g.1)]
  rw [e0,NK,NK]
  have e1:An (fun i=>CU ls (l.getD i dS) (x:Int) (d.2.2.2.1+((t+1:Nat):Int))) l.length=An (fun i=>(CU ls (l.getD i dS) (x:Int) (d.2.2.2.1+(t:Int))-(if (l.getD i dS).2.1=d.2.2.2.1+(t:Int)∧(Bd ls (l.getD i dS)).1=(x:Int)then (l.getD i dS).2.2 else 0))+(if (l.getD i dS).2.1=d.2.2.2.1+(t:Int)∧(Bd ls (l.getD i dS)).2.1=(x:Int)then (l.getD i dS).2.2 else 0)) l.length:=by
   refine Ag fun i _=>?_
   unfold CU
   by_cases c:(l.getD i dS).2.1=d.2.2.2.1+(t:Int)
   ·have q1:d.2.2.2.1+(t:Int)<d.2.2.2.1+((t+1:Nat):Int):=by omega
    simp only[c,true_and,q1,if_true,Int.lt_irrefl,if_false]
    omega
   ·simp only[c,false_and,if_false]
    by_cases c2:(l.getD i dS).2.1<d.2.2.2.1+(t:Int)
    ·have q1:(l.getD i dS).2.1<d.2.2.2.1+((t+1:Nat):Int):=by omega
     simp only[q1,c2,if_true];omega
    ·have q1:¬(l.getD i dS).2.1<d.2.2.2.1+((t+1:Nat):Int):=by omega
     simp only[q1,c2,if_false];omega
  rw [e1,BB,Ci]
  omega
theorem SX (ok:OKr hn ls l) (k t:Int):0≤Bg l k t l.length:=by
 rw [NL]
 exact BC fun i hi=>by
  split
  ·have := ok.bytes i hi;omega
  ·exact Int.le_refl _
theorem SY (h:Serving hn ls l d) (hu:Cs hn ls us=0) (hb:∀i,i<l.length→(l.getD i dS).2.2≤CJ ls (l.getD i dS).1 (l.getD i dS).2.1-Bg us (l.getD i dS).1 (l.getD i dS).2.1 us.length) {D:Nat} (ha:d.2.2.1≤Bh ls l d d.2.1 (d.2.2.2.1+(D:Int))):(Im hn ls us d.2.2.2.1).Plan D d.1.toNat d.2.1.toNat d.2.2.1 (gS l d.2.2.2.1):=by
 have ok:=h.ok
 have hf:=h.from_
 have ht:=h.to_
 have okT:=DB (r:=d.2.2.2.1) (D:=D) hu
 have hdb:1≤d.2.2.1:=h.dem.1
 have h0:=Yn h
 have hS:=Lw (us:=us) ok hf.1 h0
 refine ⟨fun k t hk _=>SX ok _ _,fun k t hk htD=>?_,fun t x htD hx=>?_,fun x hx=>?_⟩
 ·by_cases c:∃i,i<l.length∧((l.getD i dS).1=(k:Int)∧(l.getD i dS).2.1=d.2.2.2.1+(t:Int))
  ·obtain ⟨i,hi,e1,e2⟩:=c
   unfold gS
   rw [Jn ⟨e1,e2⟩ hi fun j hj g=>Pb ok hj hi ⟨g.1.trans e1.symm,g.2.trans e2.symm⟩]
   have := hb i hi
   rw [e1,e2]at this
   exact this
  ·unfold gS
   rw [FT fun j hj g=>c ⟨j,hj,g⟩]
   exact okT.lf k t hk htD
 ·rw [hS,ZF ok]
  by_cases c:∃i,i<l.length∧((Bd ls (l.getD i dS)).1=(x:Int)∧(l.getD i dS).2.1=d.2.2.2.1+(t:Int))
  ·obtain ⟨i,hi,e1,e2⟩:=c
   have := h.fed i hi
   unfold frM at this
   rw [e1,e2]at this
   exact this
  ·rw [Pd,Bb fun i hi=>by rw[if_neg fun g=>c ⟨i,hi,g.2,g.1⟩]]
   exact EP h _ _
 ·rw [hS]
  have hs:=Vv h (d.2.2.2.1+(D:Int))
  rw [if_pos (by omega),Amg]at hs
  have hx':x<hn.toNat:=hx
  have hnn:=fun i (_:i<hn.toNat)=>EP h (i:Int) (d.2.2.2.1+(D:Int))
  have hto:Bh ls l d d.2.1 (d.2.2.2.1+(D:Int))=Bh ls l d ((d.2.1.toNat:Nat):Int) (d.2.2.2.1+(D:Int)):=by rw[Int.toNat_of_nonneg ht.1]
  rw [hto]at ha
  have key:∀n:Nat,∀f:Nat→Int,(∀i,i<n→0≤f i)→∀a c,a<n→c<n→a≠c→f a+f c≤An f n:=by
   intro n
   induction n with
   | zero=>intro f _ a c ha;omega
   | succ n ih =>
    intro f hf a c ha hc hac
    rw [An]
    have hn0:=hf n (by omega)
    by_cases e1:a=n
    ·subst e1
     have := D6 (f:=f) (n:=a) (fun i hi=>hf i (by omega)) (show c<a by omega)
     omega
    ·by_cases e2:c=n
     ·subst e2
      have := D6 (f:=f) (n:=c) (fun i hi=>hf i (by omega)) (show a<c by omega)
      omega
     ·have := ih f (fun i hi=>hf i (by omega)) a c (by omega) (by omega) hac
      omega
  by_cases c:d.2.1.toNat=x
  ·rw [if_pos c]
   have h1:=D6 (f:=fun a:Nat=>Bh ls l d (a:Int) (d.2.2.2.1+(D:Int))) hnn hx'
   rw [c]at ha
   omega
  ·rw [if_neg c]
   have h1:=key hn.toNat (fun a:Nat=>Bh ls l d (a:Int) (d.2.2.2.1+(D:Int))) hnn d.2.1.toNat x (by omega) hx' c
   have h2:=EP h (x:Int) (d.2.2.2.1+(D:Int))
   omega
theorem Ai4 (ok:OKr hn ls l) {D:Nat}:(Im hn ls us r).cst D (gS l r)≤Dr ls l l.length:=by
 have e:(Im hn ls us r).cst D (gS l r)=An (fun i=>if r≤(l.getD i dS).2.1∧(l.getD i dS).2.1<r+(D:Int)then (l.getD i dS).2.2*Df ls (l.getD i dS).1 (l.getD i dS).2.1 else 0) l.length:=by
  have e1:(Im hn ls us r).cst D (gS l r)=An (fun t=>An (fun k=>An (fun i=>if (l.getD i dS).1=(k:Int)∧(l.getD i dS).2.1=r+(t:Int)then (l.getD i dS).2.2*Df ls (l.getD i dS).1 (l.getD i dS).2.1 else 0) l.length) ls.length) D:=by
   refine Ag fun t _=>Ag fun k _=>?_
   show Df ls (k:Int) (r+(t:Int))*Bg l (k:Int) (r+(t:Int)) l.length=_
   rw [NL,←GR]
   refine Ag fun i _=>?_
   by_cases c:(l.getD i dS).1=(k:Int)∧(l.getD i dS).2.1=r+(t:Int)
   ·rw [if_pos c,if_pos c,c.1,c.2,Int.mul_comm]
   ·rw [if_neg c,if_neg c,Int.mul_zero]
  have e2:∀t,An (fun k=>An (fun i=>if (l.getD i dS).1=((k:Nat):Int)∧(l.getD i dS).2.1=r+((t:Nat):Int)then (l.getD i dS).2.2*Df ls (l.getD i dS).1 (l.getD i dS).2.1 else 0) l.length) ls.length=An (fun i=>if ((l.getD i dS).2.1-r).toNat=t∧r≤(l.getD i dS).2.1 then (l.getD i dS).2.2*Df ls (l.getD i dS).1 (l.getD i dS).2.1 else 0) l.length:=fun t=>by
   rw [CY]
   refine Ag fun i hi=>?_
   have hl:=ok.link i hi
   rw [Ag (g:=fun k=>if (l.getD i dS).1.toNat=k then (if ((l.getD i dS).2.1-r).toNat=t∧r≤(l.getD i dS).2.1 then (l.getD i dS).2.2*Df ls (l.getD i dS).1 (l.getD i dS).2.1 else 0)else 0) (fun k _=>by
    by_cases c:(l.getD i dS).1.toNat=k
    ·rw [if_pos c]
     by_cases c2:(l.getD i dS).2.1=r+(t:Int)
     ·rw [if_pos ⟨by omega,c2⟩,if_pos ⟨by omega,by omega⟩]
     ·rw [if_neg (fun g=>c2 g.2),if_neg (fun g=>c2 (by omega))]
    ·rw [if_neg c,if_neg (fun g=>c (by omega))]),BG,if_pos (by omega)]
  rw [e1,Ag fun t _=>e2 t,CY]
  refine Ag fun i hi=>?_
  rw [Ag (g:=fun t=>if ((l.getD i dS).2.1-r).toNat=t then (if r≤(l.getD i dS).2.1 then (l.getD i dS).2.2*Df ls (l.getD i dS).1 (l.getD i dS).2.1 else 0)else 0) (fun t _=>by
   by_cases c:((l.getD i dS).2.1-r).toNat=t
   ·simp only[c,true_and,if_true]
   ·simp only[c,false_and,if_false]),BG]
  by_cases c:r≤(l.getD i dS).2.1
  ·by_cases c2:(l.getD i dS).2.1<r+(D:Int)
   ·rw [if_pos (by omega),if_pos c,if_pos ⟨c,c2⟩]
   ·rw [if_neg (by omega),if_neg (fun g=>c2 g.2)]
  ·have q1:¬(r≤(l.getD i dS).2.1∧(l.getD i dS).2.1<r+(D:Int)):=fun g=>c g.1
   rw [if_neg c,if_neg q1];split <;> rfl
 rw [e,SW]
 refine CZ fun i hi=>?_
 have hl:=ok.link i hi
 have hb:=ok.bytes i hi
 have hp:=Jl ok.net (tick:=(l.getD i dS).2.1) hl.1 hl.2
 have := Int.mul_nonneg (show 0≤(l.getD i dS).2.2 by omega) hp.1
 split
 ·exact Int.le_refl _
 ·exact this
end
theorem Pf {l:List Snd} {x:Snd} {i:Nat} (h:i<l.length):(l ++ [x]).getD i dS=l.getD i dS:=by
 rw [List.getD_eq_getElem?_getD,List.getElem?_append_left h,List.getD_eq_getElem?_getD]
theorem Yt {l:List Snd} {x:Snd}:(l ++ [x]).getD l.length dS=x:=by
 rw [List.getD_eq_getElem?_getD,List.getElem?_append_right (Nat.le_refl _),Nat.sub_self];rfl
theorem tF {φ:Snd→Int} {l:List Snd} {x:Snd}:An (fun i=>φ ((l ++ [x]).getD i dS)) (l ++ [x]).length=An (fun i=>φ (l.getD i dS)) l.length+φ x:=by
 rw [List.length_append,List.length_singleton,An,Yt]
 congr 1
 exact Ag fun i hi=>by rw[Pf hi]
section
variable {A:List Arc} {h W:Nat} {r:Int}
def Pg (A:List Arc) (h W i:Nat):Prop:=h≤i % W∧0<flA A i
instance {A:List Arc} {h W i:Nat}:Decidable (Pg A h W i):=inferInstanceAs (Decidable (_∧_))
def iQ (A:List Arc) (h W:Nat) (r:Int) (i:Nat):Snd:=(((i % W-h:Nat):Int),r+((i / W:Nat):Int),flA A i)
theorem MG {n:Nat}:Cj A h W r (n+1)=Cj A h W r n++if Pg A h W n then [iQ A h W r n]else []:=rfl
theorem Ph (φ:Snd→Int):∀n,An (fun i=>φ ((Cj A h W r n).getD i dS)) (Cj A h W r n).length=An (fun i=>if Pg A h W i then φ (iQ A h W r i)else 0) n
 | 0=>rfl
 | n+1=>by
  rw [MG,An]
  by_cases c:Pg A h W n
  ·rw [if_pos c,if_pos c,tF,Ph φ n]
  ·rw [if_neg c,if_neg c,List.append_nil,Ph φ n,Int.add_zero]
theorem NM:∀ {n i:Nat},i<(Cj A h W r n).length→∃j,j<n∧Pg A h W j∧(Cj A h W r n).getD i dS=iQ A h W r j
 | 0,i,hi=>absurd hi (by simp[Cj])
 | n+1,i,hi=>by
  rw [MG]at hi ⊢
  by_cases c:Pg A h W n
  ·rw [if_pos c]at hi ⊢
   rw [List.length_append,List.length_singleton]at hi
   by_cases e:i=(Cj A h W r n).length
   ·subst e
    exact ⟨n,by omega,c,Yt⟩
   ·obtain ⟨j,h1,h2,h3⟩:=NM (n:=n) (i:=i) (by omega)
    exact ⟨j,by omega,h2,by rw[Pf (by omega)];exact h3⟩
  ·rw [if_neg c,List.append_nil]at hi ⊢
   obtain ⟨j,h1,h2,h3⟩:=NM hi
   exact ⟨j,by omega,h2,h3⟩
theorem Pi:∀ {n k:Nat},0<k→k<(Cj A h W r n).length→((Cj A h W r n).getD (k-1) dS).2.1<((Cj A h W r n).getD k dS).2.1∨(((Cj A h W r n).getD (k-1) dS).2.1=((Cj A h W r n).getD k dS).2.1∧((Cj A h W r n).getD (k-1) dS).1<((Cj A h W r n).getD k dS).1)
 | 0,k,_,hk=>absurd hk (by simp[Cj])
 | n + 1,k,h0,hk=>by
  rw [MG]at hk ⊢
  by_cases c:Pg A h W n
  ·rw [if_pos c]at hk ⊢
   rw [List.length_append,List.length_singleton]at hk
   by_cases e:k=(Cj A h W r n).length
   ·rw [Pf (show k-1<_ by omega),e,Yt]
    obtain ⟨j,h1,h2,h3⟩:=NM (A:=A) (h:=h) (W:=W) (r:=r) (n:=n) (i:=k-1) (by omega)
    rw [←e,h3]
    have c1:=c.1
    have c2:=h2.1
    have d1:=Nat.div_add_mod j W
    have d2:=Nat.div_add_mod n W
    have d3:j / W≤n / W:=Nat.div_le_div_right (by omega)
    unfold iQ
    dsimp only
    by_cases e2:j / W=n / W
    ·rw [e2]at d1
     right
     rw [e2]
     exact ⟨rfl,by omega⟩
    ·left; omega
   ·rw [Pf (show k-1<_ by omega),Pf (show k<_ by omega)]
    exact Pi h0 (by omega)
  ·rw [if_neg c,List.append_nil]at hk ⊢
   exact Pi h0 hk
end
section
variable {T:TN} {D:Nat} {A:List Arc} {r:Int}
theorem Q9 {t k:Nat} (hk:k<T.L):Pg A T.h T.W (t*T.W+(T.h+k))=(0<T.gf (flA A) k t):=by
 have hW:T.h+k<T.W:=by show _<T.h+T.L;omega
 unfold Pg
 rw [(TN.row hW).2]
 exact propext ⟨fun g=>g.2,fun g=>⟨by omega,g⟩⟩
theorem Pj {t x:Nat} (hx:x<T.h):¬Pg A T.h T.W (t*T.W+x):=by
 have hW:x<T.W:=by show _<T.h+T.L;omega
 unfold Pg
 rw [(TN.row hW).2]
 exact fun g=>by omega
theorem Ra {t k:Nat} (hk:k<T.L):iQ A T.h T.W r (t*T.W+(T.h+k))=((k:Int),r+(t:Int),T.gf (flA A) k t):=by
 have hW:T.h+k<T.W:=by show _<T.h+T.L;omega
 unfold iQ
 rw [(TN.row hW).2,(TN.row hW).1,show T.h+k-T.h=k by omega];rfl
theorem tG (φ:Snd→Int):An (fun i=>φ ((Cj A T.h T.W r (D*T.W)).getD i dS)) (Cj A T.h T.W r (D*T.W)).length=An (fun t=>An (fun k=>if 0<T.gf (flA A) k t then φ ((k:Int),r+(t:Int),T.gf (flA A) k t)else 0) T.L) D:=by
 rw [Ph,Fu]
 refine Ag fun t _=>?_
 have e0:T.W=T.h+T.L:=rfl
 conv => lhs;rw[e0,EK,←e0]
 rw [Bb (fun x hx=>if_neg (Pj hx)),Int.zero_add]
 refine Ag fun k hk=>?_
 rw [Ra hk]
 simp only[Q9 hk]
theorem Ai5 (h1:0<T.h) {i:Nat} (hi:i<(Cj A T.h T.W r (D*T.W)).length):∃t k,t<D∧k<T.L∧0<T.gf (flA A) k t∧(Cj A T.h T.W r (D*T.W)).getD i dS=((k:Int),r+(t:Int),T.gf (flA A) k t):=by
 obtain ⟨j,a1,a2,a3⟩:=NM hi
 obtain ⟨t,ht,⟨x,hx,rfl⟩ | ⟨k,hk,rfl⟩⟩:=TN.house_of (T:=T) (D:=D) h1 a1
 ·exact absurd a2 (Pj hx)
 ·rw [Q9 hk]at a2
  rw [Ra hk]at a3
  exact ⟨t,k,ht,hk,a2,a3⟩
end
theorem SZ {hn:Int} {ls:List Lnk} {l:List Snd} (ok:OKr hn ls l) (h:∀i,i<l.length→(l.getD i dS).2.2≤CJ ls (l.getD i dS).1 (l.getD i dS).2.1):Cs hn ls l=0:=by
 unfold Cs
 rw [if_neg (fun g=>g (right_zero.2 ok))]
 have key:∀k,k≤l.length→ftT ls l k=false:=by
  intro k
  induction k with
  | zero=>intro _;rfl
  | succ k ih =>
   intro hk
   rw [ftT,ih (by omega),Bool.false_or,decide_eq_false_iff_not]
   have := h k (by omega)
   omega
 rw [if_neg (by rw[key _ (Nat.le_refl _)];simp)]
structure OutOK (hn:Int) (ls:List Lnk) (us:List Snd) (d:Dem) (l:List Snd) (g:Nat→Nat→Int):Prop where
 serves : Ct hn ls l d=0
 besides : ∀i,i<l.length→(l.getD i dS).2.2≤CJ ls (l.getD i dS).1 (l.getD i dS).2.1-Bg us (l.getD i dS).1 (l.getD i dS).2.1 us.length
 cost : BN hn ls l=(AJ hn ls us d).cst (As d) g
 sent : ∀k t,k<ls.length→t<As d→gS l d.2.2.2.1 k t=g k t
 ticks : ∀i,i<l.length→d.2.2.2.1≤(l.getD i dS).2.1∧(l.getD i dS).2.1<d.2.2.2.2
section
variable {hn:Int} {ls:List Lnk} {us:List Snd} {d:Dem}
theorem Ai6 {A:List Arc} (hu:Cs hn ls us=0) (hd:D7 hn d=true) (hD:As d≤32)
  (P : (AJ hn ls us d).Plan (As d) d.1.toNat d.2.1.toNat d.2.2.1 ((AJ hn ls us d).gf (flA A))) :
  OutOK hn ls us d (Cj A hn.toNat (hn.toNat+ls.length) d.2.2.2.1 (AZ hn ls d)) ((AJ hn ls us d).gf (flA A)):=by
 obtain ⟨oku,_⟩:=Ce hu
 have hh:=oku.net.houses
 obtain ⟨⟨a0,a1⟩,⟨c0,c1⟩,hr⟩:=BZ hd
 have hr2:=hr.2.2.1
 have hr3:=hr.2.2.2.2
 have hr4:=hr.2.2.2.1
 have hdu:d.2.2.2.2=d.2.2.2.1+(As d:Nat):=by unfold As;omega
 have okT:=DB (r:=d.2.2.2.1) (D:=As d) hu
 have hl:Cj A hn.toNat (hn.toNat+ls.length) d.2.2.2.1 (AZ hn ls d)=Cj A (AJ hn ls us d).h (AJ hn ls us d).W d.2.2.2.1 (As d*(AJ hn ls us d).W):=rfl
 have hat:=fun i (hi:i<(Cj A (AJ hn ls us d).h (AJ hn ls us d).W d.2.2.2.1 (As d*(AJ hn ls us d).W)).length)=>Ai5 (T:=AJ hn ls us d) okT.h1 hi
 have hsum:=fun φ=>tG (T:=AJ hn ls us d) (D:=As d) (A:=A) (r:=d.2.2.2.1) φ
 have hasc:=fun k h0 hk=>Pi (A:=A) (h:=(AJ hn ls us d).h) (W:=(AJ hn ls us d).W) (r:=d.2.2.2.1) (n:=As d*(AJ hn ls us d).W) (k:=k) h0 hk
 rw [hl]
 clear hl
 generalize Cj A (AJ hn ls us d).h (AJ hn ls us d).W d.2.2.2.1 (As d*(AJ hn ls us d).W)=l at *
 generalize hg:(AJ hn ls us d).gf (flA A)=g at *
 have hL:(AJ hn ls us d).L=ls.length:=rfl
 rw [hL]at hsum
 have hlf:∀k t,k<ls.length→t<As d→g k t≤CJ ls (k:Int) (d.2.2.2.1+(t:Int))-Bg us (k:Int) (d.2.2.2.1+(t:Int)) us.length:=fun k t hk ht=>P.le k t hk ht
 have hlen:l.length≤2000:=by
  have h1:=hsum fun _=>1
  have h2:An (fun _=>(1:Int)) l.length=l.length:=by
   generalize l.length=n
   induction n with
   | zero=>rfl
   | succ n ih=>rw[An,ih];omega
  rw [h2]at h1
  have h3:∀n:Nat,∀f:Nat→Int,∀b:Int,(∀i,i<n→f i≤b)→An f n≤(n:Int)*b:=by
   intro n f b hf
   induction n with
   | zero=>rw[An];simp
   | succ n ih =>
    have := ih fun i hi=>hf i (by omega)
    have := hf n (by omega)
    rw [An,Int.natCast_add,Int.add_mul];omega
  have h4:=h3 (As d) (fun t=>An (fun k=>if 0<g k t then 1 else 0) ls.length) 60 (fun t _=>by
   have := h3 ls.length (fun k=>if 0<g k t then 1 else 0) 1 (fun k _=>by split <;> decide)
   have hlen:=oku.net.len
   omega)
  omega
 have ok:OKr hn ls l:=by
  refine ⟨oku.net,hlen,fun i hi=>?_,fun i hi=>?_,fun i hi=>?_,fun k h0 hk=>hasc k h0 hk⟩
  ·obtain ⟨t,k,ht,hk,hp,e⟩:=hat i hi
   rw [e]
   have hk':k<ls.length:=hk
   dsimp only;omega
  ·obtain ⟨t,k,ht,hk,hp,e⟩:=hat i hi
   rw [e]
   dsimp only;omega
  ·obtain ⟨t,k,ht,hk,hp,e⟩:=hat i hi
   rw [e]
   have hk':k<ls.length:=hk
   have h1:=hlf k t hk ht
   have h2:=Gs oku.net (link:=(k:Int)) (tick:=d.2.2.2.1+(t:Int)) (by omega) (by omega)
   have h3:=SX oku (k:Int) (d.2.2.2.1+(t:Int))
   dsimp only;omega
 have hse:∀k t,k<ls.length→t<As d→gS l d.2.2.2.1 k t=g k t:=fun k t hk ht=>by
  unfold gS
  rw [NL,hsum fun s=>if s.1=(k:Int)∧s.2.1=d.2.2.2.1+(t:Int)then s.2.2 else 0]
  rw [Ag (g:=fun t'=>if t'=t then g k t' else 0) (fun t' ht'=>by
   rw [Ag (g:=fun k'=>if k'=k then (if t'=t then g k' t' else 0)else 0) (fun k' hk'=>by
    have nn:=P.nn k' t' hk' ht'
    dsimp only
    by_cases e1:k'=k
    ·by_cases e2:t'=t
     ·subst e1;subst e2
      by_cases c:0<g k' t'
      ·simp [c]
      ·simp [c];omega
     ·have : ¬(d.2.2.2.1+(t':Int)=d.2.2.2.1+(t:Int)):=by omega
      simp [e2,this]
    ·have : ¬((k':Int)=(k:Int)):=by omega
     simp [e1,this]),Eo,if_pos hk]),Eo,if_pos ht]
 have h0:∀i,i<l.length→d.2.2.2.1≤(l.getD i dS).2.1∧(l.getD i dS).2.1<d.2.2.2.2:=fun i hi=>by
  obtain ⟨t,k,ht,hk,hp,e⟩:=hat i hi
  rw [e]
  dsimp only;omega
 have hS:=Lw (us:=us) (d:=d) ok a0 (fun i hi=>(h0 i hi).1)
 have hS2:∀x t:Nat,t≤As d→Bh ls l d (x:Int) (d.2.2.2.1+(t:Int))=(AJ hn ls us d).stk d.1.toNat d.2.2.1 g t x:=fun x t ht=>by
  rw [←hS x t]
  exact TN.stk_congr fun k t' hk ht'=>hse k t' hk (by omega)
 refine ⟨serves_iff.2 ⟨ok,⟨a0,a1⟩,⟨c0,c1⟩,hr,SZ ok fun i hi=>?_,fun i hi=>?_,?_⟩,fun i hi=>?_,?_,hse,h0⟩
 ·obtain ⟨t,k,ht,hk,hp,e⟩:=hat i hi
  rw [e]
  have h1:=hlf k t hk ht
  have h3:=SX oku (k:Int) (d.2.2.2.1+(t:Int))
  dsimp only;omega
 ·obtain ⟨t,k,ht,hk,hp,e⟩:=hat i hi
  obtain ⟨⟨f0,f1⟩,_⟩:=ends ok hi
  have hfr:frM ls l i=(((Bd ls (l.getD i dS)).1.toNat:Nat):Int):=by unfold frM;omega
  have hx:(Bd ls (l.getD i dS)).1.toNat<(AJ hn ls us d).h:=by show _<hn.toNat;omega
  rw [hfr]
  generalize (Bd ls (l.getD i dS)).1.toNat=x at *
  rw [e]
  dsimp only
  rw [hS2 x t (by omega),←ZF (us:=us) (r:=d.2.2.2.1) ok x t,TN.outF_congr (T:=AJ hn ls us d) (g':=g) fun k hk=>hse k t hk ht]
  exact P.st t x ht hx
 ·have := P.en d.2.1.toNat (show d.2.1.toNat<hn.toNat by omega)
  rw [if_pos rfl,←hS2 _ _ (Nat.le_refl _),←hdu,Int.toNat_of_nonneg c0]at this
  omega
 ·obtain ⟨t,k,ht,hk,hp,e⟩:=hat i hi
  rw [e]
  exact hlf k t hk ht
 ·unfold BN
  rw [if_neg (fun g=>g (right_zero.2 ok)),SW,hsum fun s=>s.2.2*Df ls s.1 s.2.1]
  refine Ag fun t ht=>Ag fun k hk=>?_
  have nn:=P.nn k t hk ht
  dsimp only
  by_cases c:0<g k t
  ·rw [if_pos c,Int.mul_comm];rfl
  ·have : g k t=0:=by omega
   rw [if_neg c,this,Int.mul_zero]
theorem ER (h:Dt hn ls us d=0):DG hn ls us d=0∧(BE hn ls us d d.2.2.1).2=d.2.2.1∧OutOK hn ls us d (CV hn ls us d) (Ig hn ls us d d.2.2.1):=by
 unfold Dt at h
 split at h
 ·contradiction
 ·rename_i c
  split at h
  ·cases h
  ·rename_i c2
   have c:DG hn ls us d=0:=Classical.not_not.1 c
   obtain ⟨hf,hd,hD,_⟩:=BK c
   obtain ⟨_,_,hr⟩:=BZ hd
   have P:=EQ (bytes:=d.2.2.1) hf hd (by have:=hr.1;omega)
   have e:(BE hn ls us d d.2.2.1).2=d.2.2.1:=by have:=P.n1;omega
   have p:=P.plan
   rw [e]at p
   refine ⟨c,e,?_⟩
   have hl:CV hn ls us d=Cj (BE hn ls us d d.2.2.1).1 hn.toNat (hn.toNat+ls.length) d.2.2.2.1 (AZ hn ls d):=by
    have hE:Dt hn ls us d=0:=by unfold Dt;rw[if_neg (fun g=>g c),if_neg c2]
    unfold CV
    rw [if_pos hE]
   rw [hl]
   exact Ai6 hf hd hD p
theorem Pk (hc:DG hn ls us d=0) (h:Dt hn ls us d≠0):Dt hn ls us d=21∧∀g,¬(AJ hn ls us d).Plan (As d) d.1.toNat d.2.1.toNat d.2.2.1 g:=by
 obtain ⟨hf,hd,hD,_⟩:=BK hc
 obtain ⟨_,_,hr⟩:=BZ hd
 have hr0:=hr.1
 have hr1:=hr.2.1
 unfold Dt at h ⊢
 rw [if_neg (fun g=>g hc)]at h ⊢
 split at h
 ·rename_i c
  rw [if_pos c]
  refine ⟨rfl,fun g hg=>?_⟩
  have P:=EQ (bytes:=d.2.2.1) hf hd (by omega)
  have := P.max c _ _ hr1 hg
  omega
 ·contradiction
end
section
variable {hn:Int} {ls:List Lnk} {us l:List Snd} {d:Dem}
theorem ZG (hc:DG hn ls us d=0):PlanOK hn ls us d 1099511627776∧ZD hn ls us d=(BE hn ls us d 1099511627776).2:=by
 obtain ⟨hf,hd,_,_⟩:=BK hc
 exact ⟨EQ hf hd (by decide),by unfold ZD;rw[if_pos hc]⟩
theorem Yu (hc:DG hn ls us d=0):Dt hn ls us d=0↔d.2.2.1≤ZD hn ls us d:=by
 obtain ⟨P,e⟩:=ZG hc
 obtain ⟨hf,hd,hD,_⟩:=BK hc
 obtain ⟨_,_,hr⟩:=BZ hd
 have hr0:=hr.1
 have hr1:=hr.2.1
 have Q:=EQ (bytes:=d.2.2.1) hf hd (by omega)
 rw [e]
 constructor
 ·intro h
  obtain ⟨_,e2,_⟩:=ER h
  have q:=Q.plan
  rw [e2]at q
  by_cases c:(BE hn ls us d 1099511627776).2<1099511627776
  ·exact P.max c _ _ hr1 q
  ·omega
 ·intro h
  apply Classical.byContradiction
  intro hne
  obtain ⟨_,h2⟩:=Pk hc hne
  by_cases c:(BE hn ls us d d.2.2.1).2<d.2.2.1
  ·have := Q.max c _ _ P.n1 P.plan
   omega
  ·have e2:(BE hn ls us d d.2.2.1).2=d.2.2.1:=by have:=Q.n1;omega
   have q:=Q.plan
   rw [e2]at q
   exact h2 _ q
end
end Sim
namespace Sim
open Go Go.Proofs
attribute [local congr] Ai Aj Af At Am Al Aq
def D9 (hn:Int) (ls:List Lnk) (us:List Snd) (d:Dem):Int:=if DG hn ls us d≠0 then DG hn ls us d else if 4194304<d.2.2.1 then 2 else 0
noncomputable def FV:Int×List Lnk×List Snd×Dem→List PV:=fun (hn,ls,us,d) => [.agg [I hn,AQ ls,Ay us,I d.1,I d.2.1,I d.2.2.1,I d.2.2.2.1,I d.2.2.2.2]]
noncomputable def Lx:Int×List Lnk×List Snd×Dem→PV:=fun (hn,ls,us,d)=>I (D9 hn ls us d)
noncomputable def e_pcheck:Nat×Ent:=(35,.v (Ap FV Lx AY))
theorem tH:∀i j,FV i=FV j→i=j:=by
 rintro ⟨_,_,_,_⟩ ⟨_,_,_,_⟩ h
 simp only[FV,List.cons.injEq,and_true,PV.lits.injEq,PV.int.injEq,PV.agg.injEq,true_and,AF,AD]at h
 simp [Prod.ext_iff,h] <;> omega
theorem Cu (hn:Int) (ls:List Lnk) (us:List Snd) (d:Dem):Ap FV Lx AY [.agg [I hn,AQ ls,Ay us,I d.1,I d.2.1,I d.2.2.1,I d.2.2.2.1,I d.2.2.2.2]]=some (I (D9 hn ls us d)):=AC tH (i:=(hn,ls,us,d)) trivial
def tI:Prop:=∀(hn:Int) (ls:List Lnk) (us:List Snd) (d:Dem) ,VC Tryz.prog 35 (FV (hn,ls,us,d)) (Lx (hn,ls,us,d))
theorem tJ:tI:=by
 intro hn ls us d
 dsimp only[FV,Lx]
 refine Bc AP (l := [e_fcheck]) ((Ad Pc Au)) [] []  Tryz.func35 rfl (by decide +kernel) (N:=18) rfl (by simp) rfl (by kernel_rfl) fun hs=>?_
 simp only[AK,PV.small,List.length_map,and_true,true_and]at hs
 unfold D9
 by_cases h1:DG hn ls us d=0
 case neg =>
  rw [if_pos h1]
  have sp:=G3 (hn:=hn) (ls:=ls) (us:=us) (d:=d)
  dsimp only[DY,AQ,Ay]at sp
  generalize hr:DG hn ls us d=r at *
  simp only[↓bdD,bdP,seval,Ao,st0,e_fcheck,Ac,Aa,Tryz.f35,AI,AN,AX,BF,h1,sp]
 rw [if_neg (fun g=>g h1)]
 have sp:=G3 (hn:=hn) (ls:=ls) (us:=us) (d:=d)
 rw [h1]at sp
 dsimp only[DY,AQ,Ay]at sp
 by_cases h2:4194304<d.2.2.1
 ·rw [if_pos h2]
  simp only[↓bdD,bdP,seval,Ao,st0,e_fcheck,Ac,Aa,Tryz.f35,ty3,AI,AN,AX,BF,h2,sp]
 ·rw [if_neg h2]
  simp only[↓bdD,bdP,seval,Ao,st0,e_fcheck,Ac,Aa,Tryz.f35,ty3,AI,AN,AX,BF,h2,sp]
theorem Ly:AM Tryz.prog e_pcheck.1 e_pcheck.2:=Ax fun⟨hn,ls,us,d⟩ h=>tJ hn ls us d
abbrev E4 (y:List (List Int)):PV:=.lits 1 (y.map ints)
theorem CW {y:List (List Int)} {k:Nat} (h:k<y.length):nth (y.map ints) k=.lits 1 ((y.getD k []).map (PV.int .i64)):=B9 [] h
theorem Du {y:List (List Int)}:AT (y.map ints)=true:=Gm fun x=>by rw[K4,GO]
theorem Lz {y z:List (List Int)}:(y.map ints=z.map ints)=(y=z):=Gn fun x y h=>by
 simp only[ints,PV.lits.injEq,true_and]at h
 rwa [B1]at h
theorem iR {y:List (List Int)} (h:AK (y.map ints)) {k:Nat}:(y.getD k []).length≤9223372036854775807:=by
 induction y generalizing k with
 | nil=>simp
 | cons l y ih =>
  simp only[List.map_cons,AK,ints,PV.small]at h
  cases k with
  | zero=>simpa using h.1.1
  | succ k=>simpa using ih h.2 (k:=k)
abbrev Trp:=Int×Int×Int×Int×Int×Int×Int
abbrev dT:Trp:=(0,0,0,0,0,0,0)
abbrev Vy (t:Trp):PV:=.agg [I t.1,I t.2.1,I t.2.2.1,I t.2.2.2.1,I t.2.2.2.2.1,I t.2.2.2.2.2.1,I t.2.2.2.2.2.2]
abbrev CK (l:List Trp):PV:=.lits 7 (l.map Vy)
theorem ES {l:List Trp} {k:Nat} (h:k<l.length):nth (l.map Vy) k=.agg [I (l.getD k dT).1,I (l.getD k dT).2.1,I (l.getD k dT).2.2.1,I (l.getD k dT).2.2.2.1,I (l.getD k dT).2.2.2.2.1,I (l.getD k dT).2.2.2.2.2.1,I (l.getD k dT).2.2.2.2.2.2]:=B9 dT h
theorem AB {l:List Trp}:AT (l.map Vy)=true:=Gm fun x=>by simp[Hp,CO,Fk,Em]
theorem Ck {l m:List Trp}:(l.map Vy=m.map Vy)=(l=m):=Gn fun x y h=>by
 simp only[PV.agg.injEq,List.cons.injEq,true_and,and_true,PV.int.injEq]at h
 obtain ⟨h1,h2,h3,h4,h5,h6,h7⟩:=h
 exact Prod.ext h1 (Prod.ext h2 (Prod.ext h3 (Prod.ext h4 (Prod.ext h5 (Prod.ext h6 h7)))))
end Sim
namespace Sim
open Go Go.Proofs Go.Shelf Go.RowKit Go.Lib Go.Sort
shelf_lay_g SlLaysF0.n14 Slsf 14 at Tryz 94 as Tryz.pdqS
end Sim
namespace Sim
def ltS (x y:Snd):Prop:=x.2.1<y.2.1∨(x.2.1=y.2.1∧x.1<y.1)
instance (x y:Snd):Decidable (ltS x y):=by unfold ltS;infer_instance
def iT (x:Snd):List Snd→List Snd
 | [] => [x]
 | y::l=>if ltS x y then x::y::l else y::iT x l
def Ku:List Snd→List Snd
 | [] => []
 | x::l=>iT x (Ku l)
def HG (l:List Snd):Prop:=l.Pairwise ltS
def Dv (l:List Snd):Prop:=l.Pairwise fun x y=>¬(x.2.1=y.2.1∧x.1=y.1)
theorem Rb {x y z:Snd} (h1:ltS x y) (h2:ltS y z):ltS x z:=by unfold ltS at *;omega
theorem iU {x y:Snd} (h:ltS x y):¬ltS y x:=by unfold ltS at *;omega
theorem Ac0 {x y:Snd} (h:¬(x.2.1=y.2.1∧x.1=y.1)) (g:¬ltS x y):ltS y x:=by unfold ltS at *;omega
theorem putS_perm {x:Snd}:∀ {l:List Snd},(iT x l).Perm (x::l)
 | []=>.refl _
 | y::l=>by
  simp only[iT]
  split
  ·exact .refl _
  ·exact (List.Perm.cons y putS_perm).trans (List.Perm.swap x y l)
theorem srtS_perm:∀ {l:List Snd},(Ku l).Perm l
 | []=>.refl _
 | x::l=>putS_perm.trans (List.Perm.cons x srtS_perm)
theorem Vz {x:Snd}:∀ {l:List Snd},HG l→(∀y∈l,¬(x.2.1=y.2.1∧x.1=y.1))→HG (iT x l)
 | [],_,_=>List.pairwise_singleton _ _
 | y::l,h,hk=>by
  unfold HG at *
  rw [List.pairwise_cons]at h
  simp only[iT]
  by_cases c:ltS x y
  ·rw [if_pos c,List.pairwise_cons,List.pairwise_cons]
   refine ⟨fun z hz=>?_,h⟩
   rcases List.mem_cons.1 hz with rfl | hz
   ·exact c
   ·exact Rb c (h.1 z hz)
  ·rw [if_neg c,List.pairwise_cons]
   refine ⟨fun z hz=>?_,Vz h.2 fun y' hy'=>hk y' (List.mem_cons_of_mem _ hy')⟩
   rcases List.mem_cons.1 (putS_perm.mem_iff.1 hz)with rfl | hz
   ·exact Ac0 (hk y (List.mem_cons_self)) c
   ·exact h.1 z hz
theorem LA:∀ {l:List Snd},Dv l→HG (Ku l)
 | [],_=>List.Pairwise.nil
 | x::l,h=>by
  unfold Dv at h
  rw [List.pairwise_cons]at h
  exact Vz (LA h.2) fun y hy=>h.1 y (srtS_perm.mem_iff.1 hy)
theorem G5 {l:List Snd} (h:HG l):Dv l:=List.Pairwise.imp (fun {x y} h=>by unfold ltS at h;omega) h
section
variable {l m:List Snd}
theorem Rc (h:Dv l) (p:m.Perm l):Dv m:=(p.pairwise_iff (fun {x y} h e=>h ⟨e.1.symm,e.2.symm⟩)).2 h
theorem tK (hl:HG l) (hm:HG m) (p:l.Perm m):l=m :=
 List.Perm.eq_of_pairwise (le:=ltS) (fun a b _ _ h1 h2=>absurd h2 (iU h1)) hl hm p
theorem Ai7 (hm:HG m) (p:l.Perm m):Ku l=m :=
 tK (LA (Rc (G5 hm) p)) hm (srtS_perm.trans p)
end
def leB (x y:Snd):Bool := !decide (ltS y x)
theorem leB_iff {x y:Snd}:leB x y=true↔¬ltS y x:=by simp[leB]
theorem iV {l:List Snd} (h:Dv l):l.mergeSort leB=Ku l:=by
 have hp:(l.mergeSort leB).Perm l:=List.mergeSort_perm l leB
 have hs:(l.mergeSort leB).Pairwise fun a b=>leB a b=true:=by
  refine List.pairwise_mergeSort ?_ ?_ l
  ·intro a b c h1 h2
   rw [leB_iff]at *
   unfold ltS at *;omega
  ·intro a b
   simp only[Bool.or_eq_true]
   rw [leB_iff,leB_iff]
   unfold ltS;omega
 have hk:=Rc h hp
 have : HG (l.mergeSort leB):=by
  unfold HG Dv at *
  have := hs.and hk
  exact List.Pairwise.imp (fun {x y} g=>by
   have g1:=leB_iff.1 g.1
   have g2:=g.2
   unfold ltS at *;omega) this
 exact tK this (LA h) (hp.trans srtS_perm.symm)
end Sim
namespace Sim
open Go Go.Proofs Go.Shelf Go.RowKit Go.Lib Go.Sort
def Qo (x y:Int):Int:=if x<y then -1 else if y<x then 1 else 0
def cfS (x y:Snd):Int:=if Qo x.2.1 y.2.1≠0 then Qo x.2.1 y.2.1 else Qo x.1 y.1
theorem Ane (a b:Int) (w:World):Calls Tryz.prog 81 #[.int .i64 a,.int .i64 b] w fun e w'=>e=.returned (.int .i64 (Qo a b))∧w'=w:=by
 go_enter Tryz.func81,Tryz.ntmps81
 go_wp2
 all_goals go_ret
 all_goals refine⟨?_,rfl⟩
 all_goals unfold Qo
 all_goals first
  | (rw[if_pos (by omega)];rfl)
  | (rw[if_neg (by omega),if_pos (by omega)];rfl)
  | (rw[if_neg (by omega),if_neg (by omega)];rfl)
theorem or2 (a b r:Int) (g:Nat) (w:World) (h1:¬a=0→r=a) (h2:a=0→r=b) (ha:w.cell? ⟨g,0,none⟩=some (.int .i64 a)) (hb:w.cell? ⟨g,1,none⟩=some (.int .i64 b)) :
  Calls Tryz.prog 80 #[.slice (some ⟨g,0,none⟩) 2 2] w fun e' w'=>e'=.returned (.int .i64 r)∧w'=w:=by
 go_enter Tryz.func80,Tryz.ntmps80
 go_wp2
 refine wp_loop_rounds 3 ?_
 repeat any_goals (rw[rounds_succ];go_wp2)
 all_goals go_ret
 all_goals refine⟨?_,rfl⟩
 all_goals first
  | (show Ending.returned (.int .i64 a)=_;rw[h1 (by simp_all)])
  | (show Ending.returned (.int .i64 b)=_;rw[h2 (by simp_all)])
  | (show Ending.returned (.int .i64 0)=_;rw[h2 (by simp_all)];congr 2;simp_all)
theorem Af0 (W:World) (c:Array Value) (t:TypeId) (o:Obj) (i:Nat):((W.alloc (.cells c t)).alloc o).cell? ⟨W.heap.size,i,none⟩=c[i]?:=by
 have h:((W.alloc (.cells c t)).alloc o).heap[W.heap.size]?=some (.cells c t):=by
  show ((W.heap.push _).push _)[W.heap.size]?=_
  rw [Array.getElem?_push,if_neg (by simp),Array.getElem?_push,if_pos rfl]
 unfold World.cell?
 dsimp only
 rw [h];rfl
theorem Af1 (W:World) (c:Array Value) (t:TypeId) (o:Obj) (i:Nat):((W.alloc o).alloc (.cells c t)).cell? ⟨W.heap.size+1,i,none⟩=c[i]?:=by
 have h:((W.alloc o).alloc (.cells c t)).heap[W.heap.size+1]?=some (.cells c t):=by
  show ((W.heap.push _).push _)[W.heap.size+1]?=_
  rw [Array.getElem?_push,if_pos (by simp)]
 unfold World.cell?
 dsimp only
 rw [h];rfl
theorem Af2 (W:World) (c:Array Value) (t:TypeId) (i:Nat):(W.alloc (.cells c t)).cell? ⟨W.heap.size,i,none⟩=c[i]?:=by
 have h:(W.alloc (.cells c t)).heap[W.heap.size]?=some (.cells c t):=by
  show (W.heap.push _)[W.heap.size]?=_
  rw [Array.getElem?_push,if_pos rfl]
 unfold World.cell?
 dsimp only
 rw [h];rfl
theorem Amh (W:World) (o1 o2 o3:Obj):((W.alloc o1).alloc o2).drew.alloc o3=grow (W.drewN 1) #[o1,o2,o3]:=by
 repeat rw[alloc_eq_grow]
 repeat rw[grow_grow]
 rfl
set_option maxHeartbeats 4000000 in
theorem tL (x y:Snd) (W:World):Calls Tryz.prog 79 #[.agg #[.int .i64 x.1,.int .i64 x.2.1,.int .i64 x.2.2],.agg #[.int .i64 y.1,.int .i64 y.2.1,.int .i64 y.2.2]] W fun e w'=>e=.returned (.int .i64 (cfS x y))∧∃q os',w'=grow (W.drewN q) os':=by
 obtain ⟨a,b,c⟩:=x
 obtain ⟨d,e,f⟩:=y
 dsimp only at *
 go_enter Tryz.func79,Tryz.ntmps79
 go_wp2
 obtain ⟨w1,hw1⟩:∃w1,w1=(W.alloc (Obj.cells #[.int .i64 a,.int .i64 b,.int .i64 c] 55)).alloc (Obj.cells #[.int .i64 d,.int .i64 e,.int .i64 f] 55):=⟨_,rfl⟩
 rw [←hw1]
 have c1:w1.cell? ⟨W.heap.size,0,none⟩=some (.int .i64 a):=by rw[hw1];exact Af0 W _ _ _ _
 have c2:w1.cell? ⟨W.heap.size,1,none⟩=some (.int .i64 b):=by rw[hw1];exact Af0 W _ _ _ _
 have c3:w1.cell? ⟨W.heap.size+1,0,none⟩=some (.int .i64 d):=by rw[hw1];exact Af1 W _ _ _ _
 have c4:w1.cell? ⟨W.heap.size+1,1,none⟩=some (.int .i64 e):=by rw[hw1];exact Af1 W _ _ _ _
 refine wp_region_still_tail 10 (by kernel_rfl) (by kernel_rfl) ?_
 simp only[List.take_succ_cons,List.take_zero,List.drop_succ_cons,List.drop_zero]
 generalize hd:({ heap:=w1.heap,tape:=w1.tape,drawn:=w1.drawn+1,os:=w1.os,output:=w1.output }:World)=w2
 have d1:w2.cell? ⟨W.heap.size,0,none⟩=some (.int .i64 a):=by rw[←hd];exact c1
 have d2:w2.cell? ⟨W.heap.size,1,none⟩=some (.int .i64 b):=by rw[←hd];exact c2
 have d3:w2.cell? ⟨W.heap.size+1,0,none⟩=some (.int .i64 d):=by rw[←hd];exact c3
 have d4:w2.cell? ⟨W.heap.size+1,1,none⟩=some (.int .i64 e):=by rw[←hd];exact c4
 clear c1 c2 c3 c4
 repeat (first | still_step | still_call (Ane _ _ _))
 refine wpStill_nil ?_
 clear d1 d2 d3 d4
 have hor:∀W',W'=w2.alloc (Obj.cells #[.int .i64 (Qo b e),.int .i64 (Qo a d)] 3)→Calls Tryz.prog 80 #[.slice (some ⟨w2.heap.size,0,none⟩) 2 2] W' fun e' w'=>e'=.returned (.int .i64 (cfS (a,b,c) (d,e,f)))∧w'=W':=by
  rintro W' rfl
  exact or2 _ _ (cfS (a,b,c) (d,e,f)) _ _ (fun h=>by unfold cfS;rw[if_pos h]) (fun h=>by unfold cfS;rw[if_neg (fun g=>g h)]) (Af2 _ _ _ 0) (Af2 _ _ _ 1)
 go_wp2_with (go_at_call 80;refine (hor _ rfl).mono ?_;rintro e w' ⟨rfl,rfl⟩)
 go_ret
 refine ⟨rfl,1,#[.cells #[.int .i64 a,.int .i64 b,.int .i64 c] 55,.cells #[.int .i64 d,.int .i64 e,.int .i64 f] 55,.cells #[.int .i64 (Qo b e),.int .i64 (Qo a d)] 3],?_⟩
 rw [←hd,hw1]
 exact Amh W _ _ _
theorem Pl {x y:Snd}:cfS x y<0↔ltS x y:=by
 unfold cfS Qo ltS
 repeat' split
 all_goals omega
abbrev Qp (F:Int→Int→Int):={s:Snd // s.2.2=F s.1 s.2.1}
instance {F:Int→Int→Int}:Inhabited (Qp F):=⟨⟨(0,0,F 0 0),rfl⟩⟩
def Ac1 (d:List Snd) (a b:Int):Int:=((d.find? fun s=>decide (s.1=a∧s.2.1=b)).map (·.2.2)).getD 0
theorem Ami:∀ {d:List Snd},Dv d→∀x∈d,x.2.2=Ac1 d x.1 x.2.1
 | [],_,x,hx=>by simp at hx
 | y::d,h,x,hx=>by
  unfold Dv at h
  rw [List.pairwise_cons]at h
  rcases List.mem_cons.1 hx with rfl | hx
  ·simp [Ac1]
  ·have h1:=h.1 x hx
   have := Ami (d:=d) h.2 x hx
   unfold Ac1 at this ⊢
   rw [List.find?_cons_of_neg (by simp;omega)]
   exact this
set_option maxHeartbeats 2000000 in
theorem Amj {α:Type} [Inhabited α] (enc:α→List Value) (hk:∀x,(enc x).length=3) (h1:∀x,∀v∈enc x,v.oneCell'=true) (cf:α→α→Int) (hO:SWO (ltOf cf)) (hT:∀x y,(ltOf cf) x y=false→(ltOf cf) y x=false→x=y) (g:Nat) (blk off cap:Nat) (d:Array α) (w:World)
  (eg : ∀args w,(callFunc g args).run Tryz.prog w=.ok (.enter g args) w) (hcmp:CmpLays Tryz.prog g #[] enc 3 cf blk off d.size w) (hH:HoldsK enc 3 w blk off d) (hblk:blk<w.heap.size) (hsz:d.size<4611686018427387904) :
  Calls Tryz.prog 78 #[.slice (some ⟨blk,off,none⟩) d.size cap,.func (.func g) #[] #[]] w fun e w'=>e=.returned (.tuple #[])∧∃n os,w'=sortWorldK enc 3 w blk off n (d.toList.mergeSort fun x y => !(ltOf cf) y x).toArray os:=by
 have hlim:Lib.bitLen d.size<4611686018427387904:=Nat.lt_of_le_of_lt (Lib.bitLen_le d.size 62 (by omega) (by omega)) (by omega)
 have hp:=AnyQ.pdqsortCmpFunc_all Tryz.pdqS 3 (by intro w;kernel_rfl) (by intro w;kernel_rfl) enc cf g #[] hO blk off cap d w eg hcmp ⟨hk,h1,hH,hblk⟩ (d.size+1) 0 d.size (Lib.bitLen d.size) d w (by omega) rfl (SWK.start hH) (Nat.zero_le _) (Nat.le_refl _) hsz hlim (Or.inl rfl)
 change Calls Tryz.prog 94 _ _ _ at hp
 have hl:Calls Tryz.prog 95 #[.int .u64 (d.size:Int)] w fun e w'=>e=.returned (.int .i64 (Lib.bitLen d.size:Nat))∧w'=w:=by
  have h:=Any.bits_Len (SlLaysF0.n15.bits (P:=Tryz.prog) (ρ:=Tryz.pdqS_ren) { Tryz.pdqS with }) (d.size:Int) w (by omega) (by omega)
  rwa [Int.toNat_natCast]at h
 have wr:IntKind.u64.wrap (d.size:Int)=d.size:=by simp[IntKind.wrap,IntKind.bits,IntKind.signed];omega
 have hsr:=pdq_sorts (ltOf cf) hO d 0 d.size (Lib.bitLen d.size) true true (Nat.zero_le _) (Nat.le_refl _) (Or.inl rfl)
 clear hH hcmp hk h1
 go_enter Tryz.func78,Tryz.ntmps78
 go_wp2_with (first | (go_at_call 95;refine hl.mono ?_;rintro e w' ⟨rfl,rfl⟩) | (go_at_call 94;refine hp.mono ?_;rintro e w' ⟨rfl,n,os,rfl⟩))
 go_end0
 exact ⟨rfl,n,os,by rw[←sorted_unique_holds hO hT d _ hsr.1 hsr.2]⟩
set_option maxHeartbeats 2000000 in
theorem Amk (p:Option Addr) (cap:Nat) (fv:Value) (w:World):Calls Tryz.prog 78 #[.slice p 0 cap,fv] w fun e w'=>e=.returned (.tuple #[])∧w'=w:=by
 have hp:∀lim W,Calls Tryz.prog 94 _ W _:=fun lim W=>AnyF.pdqsortCmpFunc_none Tryz.pdqS p cap lim fv W
 have hl:∀W,Calls Tryz.prog 95 #[.int .u64 0] W fun e w'=>e=.returned (.int .i64 (Lib.bitLen 0:Nat))∧w'=W:=fun W=>by
  have h:=Any.bits_Len (SlLaysF0.n15.bits (P:=Tryz.prog) (ρ:=Tryz.pdqS_ren) { Tryz.pdqS with }) 0 W (by omega) (by omega)
  exact h
 go_enter Tryz.func78,Tryz.ntmps78
 go_wp2_with (first | (go_at_call 95;refine (hl _).mono ?_;rintro e w' ⟨rfl,rfl⟩) | (go_at_call 94;refine (hp _ _).mono ?_;rintro e w' ⟨rfl,rfl⟩))
 go_end0
 exact ⟨rfl,rfl⟩
noncomputable def MH:List Snd→List PV:=fun d=>d.map B5
noncomputable def Yv:List Snd→List PV:=fun d=>(Ku d).map B5
def tM:List Snd→Prop:=fun d=>d.length≤1000000∧Dv d
noncomputable def e_sort:Nat×Ent:=(78,.s 3 79 (Ap MH Yv tM))
theorem Ai8:∀i j,MH i=MH j→i=j:=by
 intro i j h
 simp only[MH,AF]at h
 exact h
theorem Ai9 (d:List Snd):Ap MH Yv tM (d.map B5)=@ite _ (d.length≤1000000∧Dv d) (Classical.propDecidable _) (some ((Ku d).map B5)) none:=Br Ai8 d
def Aja:Prop:=AM Tryz.prog e_sort.1 e_sort.2
theorem Ajb:Aja:=by
 refine WT ⟨_,rfl,rfl,by kernel_rfl⟩ (fun p cap fv w=>Amk p cap fv w) ?_
 rintro d ⟨hlen,hkey⟩
 have hF:=Ami hkey
 have hm:=iV hkey
 generalize Ac1 d=F at hF
 obtain ⟨d',rfl⟩:∃d':List (Qp F),d'.map Subtype.val=d:=⟨d.attach.map fun x=>⟨x.1,hF x.1 x.2⟩,by rw[List.map_map];exact List.attach_map_subtype_val d⟩
 have hO:SWO (ltOf fun x y:Qp F=>cfS x.1 y.1):=⟨fun x=>by simp only[ltOf,decide_eq_false_iff_not,Pl,ltS];omega,fun x y z=>by
   simp only[ltOf,decide_eq_true_eq,Pl,ltS];omega,fun x y z=>by
   simp only[ltOf,decide_eq_false_iff_not,Pl,ltS];omega⟩
 have hT:∀x y:Qp F,(ltOf fun x y:Qp F=>cfS x.1 y.1) x y=false→(ltOf fun x y:Qp F=>cfS x.1 y.1) y x=false→x=y:=fun x y h1 h2=>by
   obtain ⟨⟨a,b,u⟩,hx⟩:=x;obtain⟨⟨d,e,v⟩,hy⟩:=y
   simp only[ltOf,decide_eq_false_iff_not,Pl,ltS]at h1 h2
   have e1:a=d:=by omega
   have e2:b=e:=by omega
   dsimp only at hx hy
   subst e1;subst e2;subst hx;subst hy;rfl
 have key:=Aa3 (α:=Qp F) (f:=78) (z:=3) (P:=Tryz.prog) (by decide) (fun x => [I x.1.1,I x.1.2.1,I x.1.2.2]) (fun _=>rfl) (fun x c hc=>by
   simp at hc;rcases hc with rfl | rfl | rfl <;> rfl) (fun x y=>cfS x.1 y.1) 79
  (fun blk off cap d w hH hblk hsz=>Amj _ (fun x=>rfl) (fun x v hv=>by
   simp at hv;rcases hv with rfl | rfl | rfl <;> rfl) _ hO hT _ blk off cap d w (fun args w=>Fh ⟨_,rfl,rfl,by kernel_rfl⟩) (fun m os dk hs x y=>tL x.1 y.1 _) hH hblk hsz) d' (by simp at hlen;omega)
 have e1:(d'.map Subtype.val).map B5=d'.map fun x=>PV.agg [I x.1.1,I x.1.2.1,I x.1.2.2]:=by rw[List.map_map];rfl
 have e2:((d'.map Subtype.val).mergeSort leB).map B5=(d'.mergeSort fun x y => !(ltOf fun x y:Qp F=>cfS x.1 y.1) y x).map fun x=>PV.agg [I x.1.1,I x.1.2.1,I x.1.2.2]:=by
  rw [←List.map_mergeSort (r:=fun x y:Qp F => !(ltOf fun x y:Qp F=>cfS x.1 y.1) y x) (fun a _ b _=>by
   unfold leB ltOf
   congr 1
   exact decide_eq_decide.2 Pl),List.map_map];rfl
 show VCS Tryz.prog 78 79 3 _ _
 unfold MH Yv
 rw [e1,←hm,e2]
 exact key
end Sim
namespace Sim
open Go Go.Proofs
attribute [local congr] Ai Aj Af At Am Al Aq
theorem tO {x:Lnk}:(FL x).scal=true:=by
 show (lkC x).all PV.scal1=true
 unfold lkC
 simp [PV.scal1]
noncomputable def IT:List Snd→List PV:=fun l => [Ay l]
noncomputable def VA:List Snd→List PV:=fun l=>l.map B5
def VB:List Snd→Prop:=fun l=>l.length≤2147483648
noncomputable def e_cloneW:Nat×Ent:=(77,.a (3) (Ap IT VA VB))
theorem tP:∀i j,IT i=IT j→i=j:=by
 rintro l₁ l₂ h
 simp only[IT,List.cons.injEq,and_true,PV.lits.injEq,true_and,AF]at h
 first | exact h | omega | (simp[Prod.ext_iff,h];done)
theorem tQ (l:List Snd):Ap IT VA VB [Ay l]=@ite (Option (List PV)) (l.length≤2147483648) (Classical.propDecidable _) (some (l.map B5)) none:=Br tP l
def tR:Prop:=∀(l:List Snd) (h:l.length≤2147483648) ,VCA Tryz.prog 77 [Ay l] (3) (l.map B5)
theorem tS:tR:=by
 intro l hl
 refine Nw AP (l := []) (Au) [5] [] 0 0 Tryz.func77 rfl (by decide +kernel) (N:=8) rfl (by simp) rfl (by kernel_rfl) ?_ ?_
 ·intro e he
  obtain ⟨x,_,rfl⟩:=List.mem_map.1 he
  rfl
 cases l with
 | nil =>
  simp only[↓bdD,bdP,seval,Ao,Store.new,Store.set,Tryz.f77,Cn,La,Ay]
  exact ⟨0,0,rfl,by simp[Ab]⟩
 | cons a l =>
  simp only[List.length_cons]at hl
  simp only[↓bdD,bdP,seval,Ao,Store.new,Store.set,Tryz.f77,Cn,La,hl,Ay]
  exact ⟨0,1,rfl,by simp[Ab]⟩
theorem tT:AM Tryz.prog e_cloneW.1 e_cloneW.2:=Ho fun l h=>tS l h
noncomputable def IU:List Snd→List PV:=fun l => [Ay l]
noncomputable def VD:List Snd→List PV:=fun l=>l.map B5
def VE:List Snd→Prop:=fun l=>l.length≤2147483648
noncomputable def e_cloneS:Nat×Ent:=(48,.a (3) (Ap IU VD VE))
theorem tU:∀i j,IU i=IU j→i=j:=by
 rintro l₁ l₂ h
 simp only[IU,List.cons.injEq,and_true,PV.lits.injEq,true_and,AF]at h
 first | exact h | omega | (simp[Prod.ext_iff,h];done)
theorem Pm (l:List Snd):Ap IU VD VE [Ay l]=@ite (Option (List PV)) (l.length≤2147483648) (Classical.propDecidable _) (some (l.map B5)) none:=Br tU l
def tV:Prop:=∀(l:List Snd) (h:l.length≤2147483648) ,VCA Tryz.prog 48 [Ay l] (3) (l.map B5)
theorem tW:tV:=by
 intro l hl
 refine Nw AP (l := []) (Au) [5] [] 0 0 Tryz.func48 rfl (by decide +kernel) (N:=8) rfl (by simp) rfl (by kernel_rfl) ?_ ?_
 ·intro e he
  obtain ⟨x,_,rfl⟩:=List.mem_map.1 he
  rfl
 cases l with
 | nil =>
  simp only[↓bdD,bdP,seval,Ao,Store.new,Store.set,Tryz.f48,AN,Cn,Ay]
  exact ⟨0,0,rfl,by simp[Ab]⟩
 | cons a l =>
  simp only[List.length_cons]at hl
  simp only[↓bdD,bdP,seval,Ao,Store.new,Store.set,Tryz.f48,AN,Cn,hl,Ay]
  exact ⟨0,1,rfl,by simp[Ab]⟩
theorem VF:AM Tryz.prog e_cloneS.1 e_cloneS.2:=Ho fun l h=>tW l h
noncomputable def IV:List Lnk→List PV:=fun l => [AQ l]
noncomputable def VG:List Lnk→List PV:=fun l=>l.map FL
def VH:List Lnk→Prop:=fun l=>l.length≤2147483648
noncomputable def e_cloneL:Nat×Ent:=(50,.a (50) (Ap IV VG VH))
theorem tX:∀i j,IV i=IV j→i=j:=by
 rintro l₁ l₂ h
 simp only[IV,List.cons.injEq,and_true,PV.lits.injEq,true_and,AD]at h
 first | exact h | omega | (simp[Prod.ext_iff,h];done)
theorem VI (l:List Lnk):Ap IV VG VH [AQ l]=@ite (Option (List PV)) (l.length≤2147483648) (Classical.propDecidable _) (some (l.map FL)) none:=Br tX l
def tY:Prop:=∀(l:List Lnk) (h:l.length≤2147483648) ,VCA Tryz.prog 50 [AQ l] (50) (l.map FL)
theorem tZ:tY:=by
 intro l hl
 refine Nw AP (l := []) (Au) [5] [] 0 0 Tryz.func50 rfl (by decide +kernel) (N:=8) rfl (by simp) rfl (by kernel_rfl) ?_ ?_
 ·intro e he
  obtain ⟨x,_,rfl⟩:=List.mem_map.1 he
  exact tO
 cases l with
 | nil =>
  simp only[↓bdD,bdP,seval,Ao,Store.new,Store.set,Tryz.f50,BP,CI,AQ]
  exact ⟨0,0,rfl,by simp[Ab]⟩
 | cons a l =>
  simp only[List.length_cons]at hl
  simp only[↓bdD,bdP,seval,Ao,Store.new,Store.set,Tryz.f50,BP,CI,hl,AQ]
  exact ⟨0,1,rfl,by simp[Ab]⟩
theorem uA:AM Tryz.prog e_cloneL.1 e_cloneL.2:=Ho fun l h=>tZ l h
noncomputable def HH:List Snd→List PV:=fun l => [Ay l]
noncomputable def NN:List Snd→PV:=fun l=>Ay (Ku l)
def ZH:List Snd→Prop:=fun l=>l.length≤1000000∧Dv l
noncomputable def e_order:Nat×Ent:=(49,.v (Ap HH NN ZH))
theorem Ac2:∀i j,HH i=HH j→i=j:=by
 rintro l₁ l₂ h
 simp only[HH,List.cons.injEq,and_true,PV.lits.injEq,true_and,AF]at h
 first | exact h | omega | (simp[Prod.ext_iff,h];done)
theorem ZI (l:List Snd):Ap HH NN ZH [Ay l]=@ite (Option (PV)) (l.length≤1000000∧Dv l) (Classical.propDecidable _) (some (Ay (Ku l))) none:=Br Ac2 l
def Ac3:Prop:=∀(l:List Snd) (h:l.length≤1000000∧Dv l) ,VC Tryz.prog 49 (HH l) (NN l)
theorem Ac4:Ac3:=by
 rintro l ⟨hl,hk⟩
 dsimp only[HH,NN]
 refine Bc AP (l := [e_cloneW,e_sort]) ((Ad tT (Ad Ajb Au))) [] []  Tryz.func49 rfl (by decide +kernel) (N:=9) rfl (by simp) rfl (by kernel_rfl) fun hs=>?_
 simp only[AK,PV.small,List.length_map,and_true]at hs
 have hs1:=Ai9 l
 rw [if_pos ⟨hl,hk⟩]at hs1
 have hn:(Ku l).length=l.length:=srtS_perm.length_eq
 generalize Ku l=L at *
 have htk:List.take l.length (L.map B5)=L.map B5:=List.take_of_length_le (by rw[List.length_map];omega)
 have hl2:l.length≤2147483648:=by omega
 simp only[↓bdD,bdP,seval,Ao,st0,Store.new,Store.set,e_cloneW,tQ,e_sort,Ac,Tryz.f49,La,Alu,hl2,hs1,hn,htk]
 done
theorem ZJ:AM Tryz.prog e_order.1 e_order.2:=Ax fun l h=>Ac4 l h
end Sim
