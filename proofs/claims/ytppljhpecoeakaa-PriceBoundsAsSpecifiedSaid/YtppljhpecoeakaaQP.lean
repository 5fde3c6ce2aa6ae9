/- What functions of this seat compute, by values: contracts (lemmas of the statement's proof, under the conditions that each names). -/
import Derived.Test.YtppljhpecoeakaaQLM
import Derived.Test.YtppljhpecoeakaaQM
set_option linter.unusedVariables false
set_option linter.unusedSimpArgs false
set_option maxRecDepth 10000
set_option maxHeartbeats 4000000
namespace Sim
open Go Go.Proofs
def Al (d:Dem):Nat:=(d.2.2.2.2-d.2.2.2.1).toNat
abbrev Az (hn:Int) (ls:List Lnk) (us:List Snd) (d:Dem):TN:=I5 hn ls us d.2.2.2.1
def AP (hn:Int) (d:Dem):Nat:=(Al d+1)*hn.toNat
def AW (hn:Int) (ls:List Lnk) (d:Dem):Nat:=Al d*(hn.toNat+ls.length)
noncomputable def Bx (hn:Int) (ls:List Lnk) (us:List Snd) (d:Dem) (bytes:Int):List Arc×Int :=
 if d.1=d.2.1 then (gA (Az hn ls us d).p (AW hn ls d),bytes)
 else C6 (gA (Az hn ls us d).p (AW hn ls d)) (gO (Az hn ls us d).p (AP hn d) (AW hn ls d)) (List.replicate (AP hn d) 0) (AP hn d) d.1.toNat (Al d*hn.toNat+d.2.1.toNat) bytes
noncomputable def HD (hn:Int) (ls:List Lnk) (us:List Snd) (d:Dem) (bytes:Int):Nat→Nat→Int:=(Az hn ls us d).gf (flA (Bx hn ls us d bytes).1)
theorem Cb {hn:Int} {d:Dem} (h:Dc hn d=true):(0≤d.1∧d.1<hn)∧(0≤d.2.1∧d.2.1<hn)∧DT d:=by
 simp only[Dc,Bool.and_eq_true,decide_eq_true_eq,hOK]at h
 exact ⟨h.1.1,h.1.2,h.2⟩
structure PlanOK (hn:Int) (ls:List Lnk) (us:List Snd) (d:Dem) (bytes:Int):Prop where
 len : (Bx hn ls us d bytes).1.length=2*AW hn ls d
 plan : (Az hn ls us d).Plan (Al d) d.1.toNat d.2.1.toNat (Bx hn ls us d bytes).2 (HD hn ls us d bytes)
 n0 : 0≤(Bx hn ls us d bytes).2
 n1 : (Bx hn ls us d bytes).2≤bytes
 max : (Bx hn ls us d bytes).2<bytes→∀b g,b≤1099511627776→(Az hn ls us d).Plan (Al d) d.1.toNat d.2.1.toNat b g→b≤(Bx hn ls us d bytes).2
 opt : ∀(c:Int) (f:Nat→Int),0≤c→(∀i,i<((Az hn ls us d).G (Al d) d.1.toNat d.2.1.toNat).m→0≤f i∧f i≤c*((Az hn ls us d).G (Al d) d.1.toNat d.2.1.toNat).cap i)→((Az hn ls us d).G (Al d) d.1.toNat d.2.1.toNat).Val f (c*(Bx hn ls us d bytes).2) →
  c * (Az hn ls us d).cst (Al d) (HD hn ls us d bytes)≤((Az hn ls us d).G (Al d) d.1.toNat d.2.1.toNat).cost f
 flow : d.1≠d.2.1→((Az hn ls us d).G (Al d) d.1.toNat d.2.1.toNat).Flow (flA (Bx hn ls us d bytes).1) (Bx hn ls us d bytes).2
theorem E9 {hn:Int} {ls:List Lnk} {us:List Snd} {d:Dem} {bytes:Int} (hf:Bz hn ls us=0) (hd:Dc hn d=true) (hb:0≤bytes):PlanOK hn ls us d bytes:=by
 obtain ⟨⟨a0,a1⟩,⟨c0,c1⟩,hr⟩:=Cb hd
 have ok:=Dp (r:=d.2.2.2.1) (D:=Al d) hf
 have ha:d.1.toNat<(Az hn ls us d).h:=by show d.1.toNat<hn.toNat;omega
 have hc:d.2.1.toNat<(Az hn ls us d).h:=by show d.2.1.toNat<hn.toNat;omega
 have hpo:=TN.p_ok ok
 by_cases e:d.1=d.2.1
 ·have hP:Bx hn ls us d bytes=(gA (Az hn ls us d).p (AW hn ls d),bytes):=by unfold Bx;rw[if_pos e]
  have hz:∀k t,k<(Az hn ls us d).L→t<Al d→HD hn ls us d bytes k t=0:=fun k t hk ht=>by
   unfold HD
   rw [hP]
   exact JX (TN.pair_lt ht (by show _<(Az hn ls us d).h+(Az hn ls us d).L;omega))
  have hpl:(Az hn ls us d).Plan (Al d) d.1.toNat d.2.1.toNat bytes (fun _ _=>0):=by
   have eo:∀x t,(Az hn ls us d).outF (fun _ _=>0) x t=0:=fun x t=>A4 fun k _=>by split <;> rfl
   have ei:∀x t,(Az hn ls us d).inF (fun _ _=>0) x t=0:=fun x t=>A4 fun k _=>by split <;> rfl
   have es:∀t x,(Az hn ls us d).stk d.1.toNat bytes (fun _ _=>0) t x=if d.1.toNat=x then bytes else 0:=fun t x=>by
    induction t with
    | zero=>rfl
    | succ t ih=>rw[TN.stk,ih,eo,ei];omega
   refine ⟨fun _ _ _ _=>Int.le_refl _,fun k t hk ht=>ok.lf k t hk ht,fun t x ht hx=>?_,fun x hx=>?_⟩
   ·rw [eo,es];split <;> omega
   ·rw [es,e]
  refine ⟨by rw[hP];exact Cp,?_,by rw[hP];exact hb,by rw[hP];exact Int.le_refl _,fun h=>by rw[hP]at h;exact absurd h (Int.lt_irrefl _),fun c f hc0 hfl _=>?_,fun g=>absurd e g⟩
  ·rw [hP];exact hpl.congr fun k t hk ht=>(hz k t hk ht).symm
  ·rw [TN.cst_congr hz]
   have : (Az hn ls us d).cst (Al d) (fun _ _=>0)=0:=A4 fun t _=>A4 fun k _=>Int.mul_zero _
   rw [this,Int.mul_zero]
   exact Bp fun i hi=>Int.mul_nonneg (hpo i hi).2.2.2.2.1 (hfl i hi).1
 ·have hP:Bx hn ls us d bytes=C6 (gA (Az hn ls us d).p (AW hn ls d)) (gO (Az hn ls us d).p (AP hn d) (AW hn ls d)) (List.replicate (AP hn d) 0) (AP hn d) d.1.toNat (Al d*hn.toNat+d.2.1.toNat) bytes:=by unfold Bx;rw[if_neg e]
  have hs:d.1.toNat<AP hn d:=by
   have := TN.node_lt (T:=Az hn ls us d) (D:=Al d) (t:=0) (by omega) ha
   rw [Nat.zero_mul,Nat.zero_add]at this
   exact this
  have ht:Al d*hn.toNat+d.2.1.toNat<AP hn d:=TN.node_lt (T:=Az hn ls us d) (Nat.le_refl _) hc
  have hst:d.1.toNat≠Al d*hn.toNat+d.2.1.toNat:=fun g=>by
   have :=(TN.src_eq (T:=Az hn ls us d) (t:=Al d) ha hc).1 g
   omega
  obtain ⟨g1,⟨φ,g2⟩,g3,g4,g5,g6⟩:=Wq (p:=(Az hn ls us d).p) (n:=AW hn ls d) (N:=AP hn d) hpo hs ht hst hb
  rw [←hP]at g1 g2 g3 g4 g5 g6
  have hpl:=TN.flow_plan (T:=Az hn ls us d) (D:=Al d) ok ha hc g1
  refine ⟨g6,hpl.1,g3,g4,fun hlt b g hb2 hg=>g5 hlt _ _ (TN.plan_flow ok ha hc hb2 hg).1,fun c f hc0 hfl hv=>?_,fun _=>g1⟩
  have := FN.opt (G:=(Az hn ls us d).G (Al d) d.1.toNat d.2.1.toNat) (Qz hpo hs ht) g1 g2 (fun i hi=>(hfl i hi).1) (fun i hi=>(hfl i hi).2) hv rfl hc0
  rw [hpl.2]at this
  exact this
end Sim
namespace Sim
open Go Go.Proofs
attribute [local congr] Ap Aq Am AD As Ar Aw
theorem Aeh (a b:GE) (st:Store) (h:KS a=KS b) (hx:KR a st) (hy:KR b st):I4 a st=I4 b st:=by
 obtain ⟨B,A,out,lv,m,s,t,x⟩:=a
 obtain ⟨B',A',out',lv',m',s',t',x'⟩:=b
 simp only[KS,gP,List.cons.injEq,and_true,PV.ptr.injEq,PV.int.injEq,true_and]at h
 have e1:B=B':=by omega
 have e2:s=s':=by omega
 have e3:t=t':=by omega
 obtain ⟨_,_,_,e4⟩:=h
 subst e1;subst e2;subst e3;subst e4
 obtain ⟨a1,a2,a3⟩:=GrAt.same hx.1 hy.1
 dsimp only at a1 a2 a3
 subst a1;subst a2;subst a3
 rfl
theorem Aei (x:GE) {st:Store} (h:KR x st):Bg KS KR I4 [gP x.B,I (x.s:Nat),I (x.t:Nat),I x.b] st=some (I4 x st):=Bq Aeh (i:=x) h
structure GW where
 hn : Int
 ls : List Lnk
 us : List Snd
 d : Dem
 b : Int
def KU (x:GW):List PV := [kO (x.hn,x.ls),AA x.us,Cq x.d,I x.b]
def I8 (x:GW) (st:Store):Prop:=WF st∧(∀i r,st.obj i≠some (.lp r))∧Bz x.hn x.ls x.us=0∧Dc x.hn x.d=true∧Al x.d≤100∧0≤x.b∧x.b≤1099511627776
def gBx (M n N:Nat):PV:=.agg [.ref (M+4) n 0 (2*n),.ref M 1 0 N,.ref (M+1) 1 0 N]
def plO (ob:Nat→Option IObj) (M n N:Nat) (A:List Arc):Nat→Option IObj:=fun i=>if i=M+2 then some (.arr 0 3 [gBx M n N])else if i=M+4 then some (.arr n 4 (A.map Db))else ob i
noncomputable def I9 (x:GW) (st:Store):PV×Store:=(.tuple [gP st.next,I (Bx x.hn x.ls x.us x.d x.b).2],⟨plO st.obj st.next (AW x.hn x.ls x.d) (AP x.hn x.d) (Bx x.hn x.ls x.us x.d x.b).1,st.next+5⟩)
noncomputable def e_plan:Nat×Ent:=(45,.x (Bg KU I8 I9))
theorem XL {ob O:Nat→Option IObj} {M n N n2:Nat} {A:List Arc} {r r':Int} (h1:WF ⟨ob,M⟩) (g2:O (M+2)=some (.arr 0 3 [gBx M n N])) (g4:O (M+4)=some (.arr n 4 (A.map Db))) (fr:∀i o,ob i=some o→O i=some o) (hr:r'=r) :
  Mk ⟨ob,M⟩ (.tuple [gP M,I r]) ⟨plO ob M n N A,M+5⟩ (.tuple [gP M,I r']) ⟨O,n2⟩:=by
 refine ⟨[],.inl (by rw[hr]),fun i o hi=>?_,by dsimp only;omega,.tuple _ fun c hc=>?_⟩
 ·dsimp only at hi ⊢
  unfold plO at hi
  by_cases c2:i=M+2
  ·rw [if_pos c2]at hi
   cases hi
   refine ⟨by omega,rfl,by rw[c2];exact g2,.inr fun e he c hc=>?_⟩
   rw [List.mem_singleton]at he
   subst he
   simp only[gBx,PV.cells,List.mem_cons,List.not_mem_nil,or_false]at hc
   rcases hc with hc | hc | hc <;> (rw[hc];exact .ref _ _ _ _ (by omega))
  rw [if_neg c2]at hi
  by_cases c4:i=M+4
  ·rw [if_pos c4]at hi
   cases hi
   exact ⟨by omega,rfl,by rw[c4];exact g4,.inr QL⟩
  rw [if_neg c4]at hi
  have := h1 i o hi
  dsimp only at this
  exact ⟨by omega,rfl,fr i o hi,.inl hi⟩
 ·simp only[List.mem_cons,List.not_mem_nil,or_false]at hc
  rcases hc with hc | hc
  ·rw [hc];exact .ptr _ _ _ _ (by dsimp only;omega)
  ·rw [hc];exact .int _ _
theorem Ah0 {ob:Nat→Option IObj} {M N:Nat} {A:List Arc} {out:List (List Nat)} (h1:WF ⟨ob,M⟩):WF ⟨mkO ob M A out N,M+5+N⟩:=fun i o hi=>by
 dsimp only at hi ⊢
 unfold mkO at hi
 by_cases c0:i=M
 ·omega
 rw [if_neg c0]at hi
 by_cases c1:i=M+1
 ·omega
 rw [if_neg c1]at hi
 by_cases c2:i=M+2
 ·omega
 rw [if_neg c2]at hi
 by_cases c4:i=M+4
 ·omega
 rw [if_neg c4]at hi
 by_cases c5:M+5≤i∧i<M+5+N
 ·exact c5.2
 rw [if_neg c5]at hi
 have := h1 i o hi
 dsimp only at this
 omega
theorem Ah1 {ob:Nat→Option IObj} {M N:Nat} {A:List Arc} {out:List (List Nat)} (h:∀i r,ob i≠some (.lp r)):∀i r,mkO ob M A out N i≠some (.lp r):=fun i r hi=>by
 unfold mkO at hi
 repeat' (split at hi)
 all_goals first | (cases hi;done) | exact h i r hi
theorem Abb {ob:Nat→Option IObj} {M N:Nat} {A:List Arc} {out:List (List Nat)} (h1:WF ⟨ob,M⟩) {i:Nat} {o:IObj} (hi:ob i=some o):mkO ob M A out N i=some o:=by
 have := h1 i o hi
 dsimp only at this
 unfold mkO
 rw [if_neg (by omega),if_neg (by omega),if_neg (by omega),if_neg (by omega),if_neg (by omega)];exact hi
theorem Aej:AL Try.prog e_plan.1 e_plan.2:=FJ fun x st hx=>by
 obtain ⟨hn,ls,us,d,b⟩:=x
 obtain ⟨ob,M⟩:=st
 unfold I8 at hx
 dsimp only at hx
 obtain ⟨h1,h2,hf,hd,hD,hb0,hb1⟩:=hx
 have hlp:∀i r,ob i≠some (.lp r):=h2
 simp only[KU,I9]
 have hP:=E9 (bytes:=b) hf hd hb0
 obtain ⟨⟨a0,a1⟩,⟨c0,c1⟩,hr⟩:=Cb hd
 obtain ⟨okr,_⟩:=B2 hf
 have hh:=okr.net.houses
 have hln:=okr.net.len
 have hdu:d.2.2.2.2=d.2.2.2.1+(Al d:Nat):=by unfold Al;have:=hr.2.2.2.1;omega
 have hnn:((hn.toNat:Nat):Int)=hn:=by omega
 have sm:=Aeg ⟨hn.toNat,Al d,ls,us,d⟩ (st:=⟨ob,M⟩) ⟨h1,by dsimp only;rw[hnn];exact okr,hr.2.2.1,hdu,hD,hr.2.2.2.2,by dsimp only;rw[hnn];exact hf⟩
 simp only[Ev,GM.T,GM.N,GM.n,hnn]at sm
 have ok:=Dp (r:=d.2.2.2.1) (D:=Al d) hf
 have hpo:=TN.p_ok ok
 have hNb:AP hn d≤1212:=Nat.le_trans (Nat.mul_le_mul (show Al d+1≤101 by omega) (show hn.toNat≤12 by omega)) (by decide)
 have hnb:AW hn ls d≤7200:=Nat.le_trans (Nat.mul_le_mul hD (show hn.toNat+ls.length≤72 by omega)) (by decide)
 have hg:=Ahz (ob:=ob) (M:=M) (A:=gA (Az hn ls us d).p (AW hn ls d)) (out:=gO (Az hn ls us d).p (AP hn d) (AW hn ls d)) (N:=AP hn d) Du
 have g2:=hg.o2
 have hAl:=Cp (p:=(Az hn ls us d).p) (n:=AW hn ls d)
 have hOl:=Du (p:=(Az hn ls us d).p) (N:=AP hn d) (n:=AW hn ls d)
 have hbx:Io M (gA (Az hn ls us d).p (AW hn ls d)) (gO (Az hn ls us d).p (AP hn d) (AW hn ls d)) (List.replicate (AP hn d) 0)=gBx M (AW hn ls d) (AP hn d):=by
  unfold Io gBx
  rw [hAl,hOl,List.length_replicate,show 2*AW hn ls d / 2=AW hn ls d by omega]
 rw [hbx]at g2
 have hpre:Bx hn ls us d b=if d.1=d.2.1 then (gA (Az hn ls us d).p (AW hn ls d),b)else C6 (gA (Az hn ls us d).p (AW hn ls d)) (gO (Az hn ls us d).p (AP hn d) (AW hn ls d)) (List.replicate (AP hn d) 0) (AP hn d) d.1.toNat (Al d*hn.toNat+d.2.1.toNat) b:=rfl
 have hNe:(Al d+1)*hn.toNat=AP hn d:=rfl
 have hne:Al d*(hn.toNat+ls.length)=AW hn ls d:=rfl
 rw [hNe,hne]at sm
 unfold gP at sm
 by_cases e:d.1=d.2.1
 ·rw [if_pos e]at hpre
  rw [hpre]
  dsimp only[Cq]at sm
  rw [e]at sm
  refine Cf AO (l := [e_make,e_send]) ((Ad nG (Ad nB Ao))) [] [] 0 Try.func45 rfl (by decide +kernel) (N:=39) rfl (by simp) rfl (by kernel_rfl) ?_
  simp +contextual (maxSteps:=4000000) only[↓bdD,bdP,Nat.reduceLT,Nat.reduceBEq,Ai,Nat.reduceAdd,↓reduceIte,e_make,e_send,Ac,Ab,Try.f45,ty3,Av,AJ,AV,sm,e]
  refine XL h1 g2 ?_ (fun i o hi=>Abb h1 hi) rfl
  have := hg.o4
  rw [hAl,show 2*AW hn ls d / 2=AW hn ls d by omega]at this
  exact this
 ·rw [if_neg e]at hpre
  have hs:d.1.toNat<AP hn d:=by
   have := TN.node_lt (T:=Az hn ls us d) (D:=Al d) (t:=0) (by omega) (show d.1.toNat<hn.toNat by omega)
   rw [Nat.zero_mul,Nat.zero_add]at this
   exact this
  have ht:Al d*hn.toNat+d.2.1.toNat<AP hn d:=TN.node_lt (T:=Az hn ls us d) (Nat.le_refl _) (show d.2.1.toNat<hn.toNat by omega)
  have hst:d.1.toNat≠Al d*hn.toNat+d.2.1.toNat:=fun g=>by
   have :=(TN.src_eq (T:=Az hn ls us d) (t:=Al d) (show d.1.toNat<hn.toNat by omega) (show d.2.1.toNat<hn.toNat by omega)).1 g
   omega
  have hsi:=mN hpo hs ht hst
  have hme:Et (gO (Az hn ls us d).p (AP hn d) (AW hn ls d)) (ini (AP hn d) d.1.toNat)≤AP hn d*AW hn ls d+1:=Adt (N:=AP hn d) (n:=AW hn ls d) hpo
  have hmul:AP hn d*AW hn ls d≤8726400:=Nat.le_trans (Nat.mul_le_mul hNb hnb) (by decide)
  have sd:=Aei ⟨M,gA (Az hn ls us d).p (AW hn ls d),gO (Az hn ls us d).p (AP hn d) (AW hn ls d),List.replicate (AP hn d) 0,AW hn ls d,d.1.toNat,Al d*hn.toNat+d.2.1.toNat,b⟩ (st:=⟨mkO ob M (gA (Az hn ls us d).p (AW hn ls d)) (gO (Az hn ls us d).p (AP hn d) (AW hn ls d)) (AP hn d),M+5+AP hn d⟩) (by
   refine ⟨hg,?_,?_,Ah0 h1,Ah1 hlp,?_,?_,?_,hb0,hb1,fun i=>?_⟩ <;> simp only[List.length_replicate]
   ·exact hsi
   ·exact Nat.le_refl _
   ·omega
   ·omega
   ·exact Nat.le_trans hme (by omega)
   ·show aL _ (2*i)+aL _ (2*i+1)≤_
    by_cases c:i<AW hn ls d
    ·rw [mK c,JX c]
     obtain ⟨t,ht',⟨x,hx,rfl⟩ | ⟨k,hk,rfl⟩⟩:=TN.house_of (T:=Az hn ls us d) (D:=Al d) ok.h1 c
     ·rw [TN.p_house hx];show (1099511627776:Int)+0≤1099511627776;decide
     ·rw [TN.p_link hk]
      have hk':k<ls.length:=hk
      have q1:=E8 hf (k:=(k:Int)) (t:=d.2.2.2.1+(t:Int)) ⟨by omega,by omega⟩
      have q2:=EH okr.net (link:=(k:Int)) (tick:=d.2.2.2.1+(t:Int)) (by omega) (by omega)
      show CT ls (k:Int) (d.2.2.2.1+(t:Int))-Bb us (k:Int) (d.2.2.2.1+(t:Int)) us.length+0≤_
      omega
    ·unfold aL
     rw [List.getD_eq_getElem?_getD,List.getElem?_eq_none (by omega),List.getD_eq_getElem?_getD,List.getElem?_eq_none (by omega)];decide)
  simp only[I4,List.length_replicate]at sd
  unfold gP at sd
  rw [←hpre]at sd
  have hlen:=hP.len
  generalize Bx hn ls us d b=res at *
  obtain ⟨u,hu⟩:∃u:Nat,d.1=(u:Int):=⟨d.1.toNat,by omega⟩
  obtain ⟨v,hv⟩:∃v:Nat,d.2.1=(v:Int):=⟨d.2.1.toNat,by omega⟩
  have wD:IntKind.i64.wrap (d.2.2.2.2-d.2.2.2.1)=(Al d:Int):=by rw[Af (by omega) (by omega)];omega
  have hDh:Al d*hn.toNat≤1200:=Nat.le_trans (Nat.mul_le_mul hD (show hn.toNat≤12 by omega)) (by decide)
  have wm:IntKind.i64.wrap ((Al d:Int)*hn)=((Al d*hn.toNat:Nat):Int):=by
   rw [show ((Al d:Int)*hn)=((Al d*hn.toNat:Nat):Int) by rw[Int.natCast_mul,hnn],Af (by omega) (by omega)]
  have wa:IntKind.i64.wrap (((Al d*hn.toNat:Nat):Int)+(v:Int))=((Al d*hn.toNat+v:Nat):Int):=by rw[←Int.natCast_add,Af (by omega) (by omega)]
  rw [hu,hv,Int.toNat_natCast,Int.toNat_natCast]at sd
  dsimp only[Cq]at sm
  rw [hu,hv]at sm
  have e':¬(u:Int)=(v:Int):=by rw[←hu,←hv];exact e
  refine Cf AO (l := [e_make,e_send]) ((Ad nG (Ad nB Ao))) [] [] 0 Try.func45 rfl (by decide +kernel) (N:=39) rfl (by simp) rfl (by kernel_rfl) ?_
  simp +contextual (maxSteps:=4000000) only[↓bdD,bdP,Nat.reduceLT,Nat.reduceBEq,Ai,Nat.reduceEqDiff,Nat.reduceAdd,↓reduceIte,e_make,e_send,Ac,Ab,Try.f45,ty3,Av,AJ,AV,JF,sm,sd,hu,hv,e',wD,wm,wa]
  refine XL h1 ?_ ?_ (fun i o hi=>?_) rfl
  ·simp only[Aa]
   rw [if_neg (by omega),if_neg (by omega)];exact g2
  ·simp only[Aa]
   rw [if_neg (by omega),if_pos trivial,hAl,show 2*AW hn ls d / 2=AW hn ls d by omega]
  ·have := h1 i o hi
   dsimp only at this
   simp only[Aa]
   rw [if_neg (by omega),if_neg (by omega)];exact Abb h1 hi
theorem Aek (a b:GW) (st:Store) (h:KU a=KU b) (hx:I8 a st) (hy:I8 b st):I9 a st=I9 b st:=by
 obtain ⟨h1,ls1,us1,⟨df1,dt1,db1,dr1,dd1⟩,b1⟩:=a
 obtain ⟨h2,ls2,us2,⟨df2,dt2,db2,dr2,dd2⟩,b2⟩:=b
 simp only[KU,List.cons.injEq,and_true,PV.agg.injEq,PV.int.injEq,PV.lits.injEq,AF,AN,true_and]at h
 obtain ⟨⟨e1,e2⟩,e3,⟨e4,e5,e6,e7,e8⟩,e9⟩:=h
 subst e1;subst e2;subst e3;subst e4;subst e5;subst e6;subst e7;subst e8;subst e9
 rfl
theorem Ael (x:GW) {st:Store} (h:I8 x st):Bg KU I8 I9 [kO (x.hn,x.ls),AA x.us,Cq x.d,I x.b] st=some (I9 x st):=Bq Aek (i:=x) h
end Sim
