/- Lemmas. -/
import Derived.Test.YtdfjimjbdakofaaGreatQM
import Derived.Test.YtdfjimjbdakofaaGreatQF6
import Derived.Shelf.SlSortCmp.NoneTotal
import Derived.Shelf.Lay
import Derived.Ground.SlsfProg
import Derived.LoopN
import Derived.StillTailTactics
set_option maxRecDepth 20000
set_option maxHeartbeats 4000000
set_option linter.all false
open Array renaming getElem?_push->iw
open Classical renaming propDecidable->qo
open Eq renaming trans->uq
open Go.Ending renaming returned->uv
open Go.IntKind renaming i64->nm
open Go.Lib renaming bitLen->ux
open Go.Obj renaming cells->uw
open Go.Proofs.SlLaysF0 renaming n15.bits->uy
open Go.Proofs.Tryz renaming prog->pk,f39->um,f20->un,f35->ur,ntmps78->uz
open Go.World renaming cell?->ah
open Int renaming le_refl->pj,lt_irrefl->uj,mul_zero->uk,mul_nonneg->pu,natCast_add->uh,toNat_natCast->pe,tdiv_eq_ediv_of_nonneg->uo,add_zero->th,toNat_of_nonneg->te
open List renaming replicate->ba,cons.injEq->ix,mem_cons->li,not_mem_nil->ua,length_replicate->ft,getD_eq_getElem?_getD->oa,getElem?_eq_none->ia,length_map->ow,length_append->cu,take_of_length_le->sa,append_nil->qq,length_singleton->se,Perm.cons->ut,pairwise_cons->lw,Pairwise.nil->l6,Pairwise.imp->uu,map_map->u5,mem_map->oh,length_cons->pg
open Nat renaming zero_add->cd,le_refl->cg,le_trans->mm,mul_le_mul->uf,div_add_mod->er
open Prod renaming ext_iff->tn,ext->qu
open Sim.PV renaming int.injEq->qt,agg.injEq->qr,lits.injEq->s6,small->s8
open Sim.Store renaming new->kp,set->kd
open Sim.TN renaming node_lt->ul
open Subtype renaming val->u0
noncomputable section
namespace Sim
open Go Go.Proofs
def Ap (d:Dem):Nat:=(d.2.2.2.2-d.2.2.2.1).toNat
abbrev AN (hn:Int) (ls:List Lnk) (us:List Snd) (d:Dem):TN:=IH hn ls us d.2.2.2.1
def AV (hn:Int) (d:Dem):Nat:=(Ap d+1)*hn.toNat
def A2 (hn:Int) (ls:List Lnk) (d:Dem):Nat:=Ap d*(hn.toNat+ls.length)
def B9 (hn:Int) (ls:List Lnk) (us:List Snd) (d:Dem) (bytes:Int):List Arc×Int :=
 if d.1=d.2.1 then (gA (AN hn ls us d).p (A2 hn ls d),bytes)
 else D0 (gA (AN hn ls us d).p (A2 hn ls d)) (gO (AN hn ls us d).p (AV hn d) (A2 hn ls d)) (ba (AV hn d) 0) (AV hn d) d.1.toNat (Ap d*hn.toNat+d.2.1.toNat) bytes
def IB (hn:Int) (ls:List Lnk) (us:List Snd) (d:Dem) (bytes:Int):Nat->Nat->Int:=(AN hn ls us d).gf (flA (B9 hn ls us d bytes).1)
theorem BR {hn:Int} {d:Dem} (h:Ed hn d=true):(0<=d.1/\d.1<hn)/\(0<=d.2.1/\d.2.1<hn)/\IG d:=by
 simp only[Ed,Bool.and_eq_true,decide_eq_true_eq,hOK]at h
 exact ⟨h.1.1,h.1.2,h.2⟩
structure PlanOK (hn:Int) (ls:List Lnk) (us:List Snd) (d:Dem) (bytes:Int):Prop where
 len : (B9 hn ls us d bytes).1.length=2*A2 hn ls d
 plan : (AN hn ls us d).Plan (Ap d) d.1.toNat d.2.1.toNat (B9 hn ls us d bytes).2 (IB hn ls us d bytes)
 n0 : 0<=(B9 hn ls us d bytes).2
 n1 : (B9 hn ls us d bytes).2<=bytes
 max : (B9 hn ls us d bytes).2<bytes->∀b g,b<=1099511627776->(AN hn ls us d).Plan (Ap d) d.1.toNat d.2.1.toNat b g->b<=(B9 hn ls us d bytes).2
 opt : ∀(c:Int) (f:Nat->Int),0<=c->(∀i,i<((AN hn ls us d).G (Ap d) d.1.toNat d.2.1.toNat).m->0<=f i/\f i<=c*((AN hn ls us d).G (Ap d) d.1.toNat d.2.1.toNat).cap i)->((AN hn ls us d).G (Ap d) d.1.toNat d.2.1.toNat).Val f (c*(B9 hn ls us d bytes).2) ->
  c * (AN hn ls us d).cst (Ap d) (IB hn ls us d bytes)<=((AN hn ls us d).G (Ap d) d.1.toNat d.2.1.toNat).cost f
 flow : d.1≠d.2.1->((AN hn ls us d).G (Ap d) d.1.toNat d.2.1.toNat).Flow (flA (B9 hn ls us d bytes).1) (B9 hn ls us d bytes).2
section
variable {hn:Int} {ls:List Lnk} {us:List Snd} {d:Dem} {bytes:Int}
theorem Hg (hf:Cy hn ls us=0) (hd:Ed hn d=true) (hb:0<=bytes):PlanOK hn ls us d bytes:=by
 obtain ⟨⟨a0,a1⟩,⟨c0,c1⟩,hr⟩:=BR hd
 have ok:=Ee (r:=d.2.2.2.1) (D:=Ap d) hf
 have ha:d.1.toNat<(AN hn ls us d).h:=by show d.1.toNat<hn.toNat;omega
 have hc:d.2.1.toNat<(AN hn ls us d).h:=by show d.2.1.toNat<hn.toNat;omega
 have hpo:=TN.p_ok ok
 by_cases e:d.1=d.2.1
 .have hP:B9 hn ls us d bytes=(gA (AN hn ls us d).p (A2 hn ls d),bytes):=by unfold B9;rw[if_pos e]
  have hz:∀k t,k<(AN hn ls us d).L->t<Ap d->IB hn ls us d bytes k t=0:=λk t hk ht=>by
   unfold IB
   rw [hP]
   exact NH (TN.pair_lt ht (by show _<(AN hn ls us d).h+(AN hn ls us d).L;omega))
  have hpl:(AN hn ls us d).Plan (Ap d) d.1.toNat d.2.1.toNat bytes (λ_ _=>0):=by
   have eo:∀x t,(AN hn ls us d).outF (λ_ _=>0) x t=0:=λx t=>Bu λk _=>by split <;> rfl
   have ei:∀x t,(AN hn ls us d).inF (λ_ _=>0) x t=0:=λx t=>Bu λk _=>by split <;> rfl
   have es:∀t x,(AN hn ls us d).stk d.1.toNat bytes (λ_ _=>0) t x=if d.1.toNat=x then bytes else 0:=λt x=>by
    induction t with
    | zero=>rfl
    | succ t ih=>rw[TN.stk,ih,eo,ei];omega
   refine ⟨λ_ _ _ _=>pj _,λk t hk ht=>ok.lf k t hk ht,λt x ht hx=>?_,λx hx=>?_⟩
   .rw [eo,es];split <;> omega
   .rw [es,e]
  refine ⟨by rw[hP];exact CN,?_,by rw[hP];exact hb,by rw[hP];exact pj _,λh=>by rw[hP]at h;exact absurd h (uj _),λc f hc0 hfl _=>?_,λg=>absurd e g⟩
  .rw [hP];exact hpl.congr λk t hk ht=>(hz k t hk ht).symm
  .rw [TN.cst_congr hz]
   have : (AN hn ls us d).cst (Ap d) (λ_ _=>0)=0:=Bu λt _=>Bu λk _=>uk _
   rw [this,uk]
   exact BD λi hi=>pu (hpo i hi).2.2.2.2.1 (hfl i hi).1
 .have hP:B9 hn ls us d bytes=D0 (gA (AN hn ls us d).p (A2 hn ls d)) (gO (AN hn ls us d).p (AV hn d) (A2 hn ls d)) (ba (AV hn d) 0) (AV hn d) d.1.toNat (Ap d*hn.toNat+d.2.1.toNat) bytes:=by unfold B9;rw[if_neg e]
  have hs:d.1.toNat<AV hn d:=by
   have := ul (T:=AN hn ls us d) (D:=Ap d) (t:=0) (by omega) ha
   rw [Nat.zero_mul,cd]at this
   exact this
  have ht:Ap d*hn.toNat+d.2.1.toNat<AV hn d:=ul (T:=AN hn ls us d) (cg _) hc
  have hst:d.1.toNat≠Ap d*hn.toNat+d.2.1.toNat:=λg=>by
   have :=(TN.src_eq (T:=AN hn ls us d) (t:=Ap d) ha hc).1 g
   omega
  obtain ⟨g1,⟨φ,g2⟩,g3,g4,g5,g6⟩:=tF (p:=(AN hn ls us d).p) (n:=A2 hn ls d) (N:=AV hn d) hpo hs ht hst hb
  rw [<-hP]at g1 g2 g3 g4 g5 g6
  have hpl:=TN.flow_plan (T:=AN hn ls us d) (D:=Ap d) ok ha hc g1
  refine ⟨g6,hpl.1,g3,g4,λhlt b g hb2 hg=>g5 hlt _ _ (TN.plan_flow ok ha hc hb2 hg).1,λc f hc0 hfl hv=>?_,λ_=>g1⟩
  have := FN.opt (G:=(AN hn ls us d).G (Ap d) d.1.toNat d.2.1.toNat) (Ai6 hpo hs ht) g1 g2 (λi hi=>(hfl i hi).1) (λi hi=>(hfl i hi).2) hv rfl hc0
  rw [hpl.2]at this
  exact this
theorem PlanOK.best (P:PlanOK hn ls us d bytes) (hf:Cy hn ls us=0) (hd:Ed hn d=true) {b:Int} {g:Nat->Nat->Int} (hb:b<=1099511627776) (h:(AN hn ls us d).Plan (Ap d) d.1.toNat d.2.1.toNat b g) :
  (∀ c:Int,1<=c->b=c*(B9 hn ls us d bytes).2->c*(AN hn ls us d).cst (Ap d) (IB hn ls us d bytes)<=(AN hn ls us d).cst (Ap d) g):=λc hc e=>by
 obtain ⟨⟨a0,a1⟩,⟨c0,c1⟩,hr⟩:=BR hd
 have ok:=Ee (r:=d.2.2.2.1) (D:=Ap d) hf
 have ha:d.1.toNat<(AN hn ls us d).h:=by show d.1.toNat<hn.toNat;omega
 have hc':d.2.1.toNat<(AN hn ls us d).h:=by show d.2.1.toNat<hn.toNat;omega
 obtain ⟨f1,f2⟩:=TN.plan_flow ok ha hc' hb h
 have := P.opt c _ (by omega) (λi hi=>⟨f1.nn i hi,?_⟩) (by rw[<-e];exact f1.val)
 .rw [f2]at this;exact this
 .have h1:=f1.nn i hi
  have h2:=f1.le i hi
  have h5:=Int.le_trans h1 h2
  have := Int.mul_le_mul_of_nonneg_right hc h5
  rw [Int.one_mul]at this
  exact Int.le_trans h2 this
end
end Sim
namespace Sim
open Go Go.Proofs
attribute [local congr] Ah Ai Ag At Al Aj Aq
theorem Aju (a b:GE) (st:Store) (h:MT a=MT b) (hx:MS a st) (hy:MS b st):KB a st=KB b st:=by
 obtain ⟨B,A,out,lv,m,s,t,x⟩:=a
 obtain ⟨B',A',out',lv',m',s',t',x'⟩:=b
 simp only[MT,gP,ix,and_true,PV.ptr.injEq,qt,true_and]at h
 have e1:B=B':=by omega
 have e2:s=s':=by omega
 have e3:t=t':=by omega
 obtain ⟨_,_,_,e4⟩:=h
 subst e1;subst e2;subst e3;subst e4
 obtain ⟨a1,a2,a3⟩:=GrAt.same hx.1 hy.1
 dsimp only at a1 a2 a3
 subst a1;subst a2;subst a3
 rfl
theorem Ajv (x:GE) {st:Store} (h:MS x st):A9 MT MS KB [gP x.B,I (x.s:Nat),I (x.t:Nat),I x.b] st=some (KB x st):=Bc Aju (i:=x) h
structure GW where
 hn : Int
 ls : List Lnk
 us : List Snd
 d : Dem
 b : Int
def M7 (x:GW):List PV := [sP (x.hn,x.ls),Ay x.us,D7 x.d,I x.b]
def KK (x:GW) (st:Store):Prop:=WF st/\(∀i r,st.obj i≠some (.lp r))/\Cy x.hn x.ls x.us=0/\Ed x.hn x.d=true/\Ap x.d<=100/\0<=x.b/\x.b<=1099511627776
def gBx (M n N:Nat):PV:=.agg [.ref (M+4) n 0 (2*n),.ref M 1 0 N,.ref (M+1) 1 0 N]
def plO (ob:Nat->Option IObj) (M n N:Nat) (A:List Arc):Nat->Option IObj:=λi=>if i=M+2 then some (.arr 0 3 [gBx M n N])else if i=M+4 then some (.arr n 4 (A.map E8))else ob i
def KL (x:GW) (st:Store):PV×Store:=(.tuple [gP st.next,I (B9 x.hn x.ls x.us x.d x.b).2],⟨plO st.obj st.next (A2 x.hn x.ls x.d) (AV x.hn x.d) (B9 x.hn x.ls x.us x.d x.b).1,st.next+5⟩)
def e_plan:Nat×Ent:=(42,.x (A9 M7 KK KL))
theorem ZY {ob O:Nat->Option IObj} {M n N n2:Nat} {A:List Arc} {r r':Int} (h1:WF ⟨ob,M⟩) (g2:O (M+2)=some (.arr 0 3 [gBx M n N])) (g4:O (M+4)=some (.arr n 4 (A.map E8))) (fr:∀i o,ob i=some o->O i=some o) (hr:r'=r) :
  OT ⟨ob,M⟩ (.tuple [gP M,I r]) ⟨plO ob M n N A,M+5⟩ (.tuple [gP M,I r']) ⟨O,n2⟩:=by
 refine ⟨[],.inl (by rw[hr]),λi o hi=>?_,by dsimp only;omega,.tuple _ λc hc=>?_⟩
 .dsimp only at hi ⊢
  unfold plO at hi
  by_cases c2:i=M+2
  .rw [if_pos c2]at hi
   cases hi
   refine ⟨by omega,rfl,by rw[c2];exact g2,.inr λe he c hc=>?_⟩
   rw [List.mem_singleton]at he
   subst he
   simp only[gBx,PV.cells,li,ua,or_false]at hc
   rcases hc with hc | hc | hc <;> (rw[hc];exact .ref _ _ _ _ (by omega))
  rw [if_neg c2]at hi
  by_cases c4:i=M+4
  .rw [if_pos c4]at hi
   cases hi
   exact ⟨by omega,rfl,by rw[c4];exact g4,.inr S7⟩
  rw [if_neg c4]at hi
  have := h1 i o hi
  dsimp only at this
  exact ⟨by omega,rfl,fr i o hi,.inl hi⟩
 .simp only[li,ua,or_false]at hc
  rcases hc with hc | hc
  .rw [hc];exact .ptr _ _ _ _ (by dsimp only;omega)
  .rw [hc];exact .int _ _
section
variable {ob:Nat->Option IObj} {M N:Nat} {A:List Arc} {out:List (List Nat)}
theorem Ane (h1:WF ⟨ob,M⟩):WF ⟨mkO ob M A out N,M+5+N⟩:=λi o hi=>by
 dsimp only at hi ⊢
 unfold mkO at hi
 by_cases c0:i=M
 .omega
 rw [if_neg c0]at hi
 by_cases c1:i=M+1
 .omega
 rw [if_neg c1]at hi
 by_cases c2:i=M+2
 .omega
 rw [if_neg c2]at hi
 by_cases c4:i=M+4
 .omega
 rw [if_neg c4]at hi
 by_cases c5:M+5<=i/\i<M+5+N
 .exact c5.2
 rw [if_neg c5]at hi
 have := h1 i o hi
 dsimp only at this
 omega
theorem Anf (h:∀i r,ob i≠some (.lp r)):∀i r,mkO ob M A out N i≠some (.lp r):=λi r hi=>by
 unfold mkO at hi
 repeat' (split at hi)
 all_goals first | (cases hi;done) | exact h i r hi
theorem Ags (h1:WF ⟨ob,M⟩) {i:Nat} {o:IObj} (hi:ob i=some o):mkO ob M A out N i=some o:=by
 have := h1 i o hi
 dsimp only at this
 unfold mkO
 rw [if_neg (by omega),if_neg (by omega),if_neg (by omega),if_neg (by omega),if_neg (by omega)];exact hi
end
theorem Ajw:AM pk e_plan.1 e_plan.2:=Fy λx st hx=>by
 obtain ⟨hn,ls,us,d,b⟩:=x
 obtain ⟨ob,M⟩:=st
 unfold KK at hx
 dsimp only at hx
 obtain ⟨h1,h2,hf,hd,hD,hb0,hb1⟩:=hx
 have hlp:∀i r,ob i≠some (.lp r):=h2
 simp only[M7,KL]
 have hP:=Hg (bytes:=b) hf hd hb0
 obtain ⟨⟨a0,a1⟩,⟨c0,c1⟩,hr⟩:=BR hd
 obtain ⟨okr,_⟩:=Cj hf
 have hh:=okr.net.houses
 have hln:=okr.net.len
 have hdu:d.2.2.2.2=d.2.2.2.1+(Ap d:Nat):=by unfold Ap;have:=hr.2.2.2.1;omega
 have hnn:((hn.toNat:Nat):Int)=hn:=by omega
 have sm:=Ajt ⟨hn.toNat,Ap d,ls,us,d⟩ (st:=⟨ob,M⟩) ⟨h1,by dsimp only;rw[hnn];exact okr,hr.2.2.1,hdu,hD,hr.2.2.2.2,by dsimp only;rw[hnn];exact hf⟩
 simp only[Fa,GM.T,GM.N,GM.n,hnn]at sm
 have ok:=Ee (r:=d.2.2.2.1) (D:=Ap d) hf
 have hpo:=TN.p_ok ok
 have hNb:AV hn d<=1212:=mm (uf (show Ap d+1<=101 by omega) (show hn.toNat<=12 by omega)) (by decide)
 have hnb:A2 hn ls d<=7200:=mm (uf hD (show hn.toNat+ls.length<=72 by omega)) (by decide)
 have hg:=Anc (ob:=ob) (M:=M) (A:=gA (AN hn ls us d).p (A2 hn ls d)) (out:=gO (AN hn ls us d).p (AV hn d) (A2 hn ls d)) (N:=AV hn d) FT
 have g2:=hg.o2
 have hAl:=CN (p:=(AN hn ls us d).p) (n:=A2 hn ls d)
 have hOl:=FT (p:=(AN hn ls us d).p) (N:=AV hn d) (n:=A2 hn ls d)
 have hbx:J4 M (gA (AN hn ls us d).p (A2 hn ls d)) (gO (AN hn ls us d).p (AV hn d) (A2 hn ls d)) (ba (AV hn d) 0)=gBx M (A2 hn ls d) (AV hn d):=by
  unfold J4 gBx
  rw [hAl,hOl,ft,show 2*A2 hn ls d / 2=A2 hn ls d by omega]
 rw [hbx]at g2
 have hpre:B9 hn ls us d b=if d.1=d.2.1 then (gA (AN hn ls us d).p (A2 hn ls d),b)else D0 (gA (AN hn ls us d).p (A2 hn ls d)) (gO (AN hn ls us d).p (AV hn d) (A2 hn ls d)) (ba (AV hn d) 0) (AV hn d) d.1.toNat (Ap d*hn.toNat+d.2.1.toNat) b:=rfl
 have hNe:(Ap d+1)*hn.toNat=AV hn d:=rfl
 have hne:Ap d*(hn.toNat+ls.length)=A2 hn ls d:=rfl
 rw [hNe,hne]at sm
 unfold gP at sm
 by_cases e:d.1=d.2.1
 .rw [if_pos e]at hpre
  rw [hpre]
  dsimp only[D7]at sm
  rw [e]at sm
  refine BT AQ (l := [e_make,e_send]) ((Ad uC (Ad tE Au))) [] [] 0 Tryz.func42 rfl (by decide +kernel) (N:=39) rfl (by simp) rfl (by kernel_rfl) ?_
  simp only[↓bdD,bdP,seval,Ao,e_make,e_send,Ac,Aa,Tryz.f42,ty3,AJ,AO,AY,sm,e]
  refine ZY h1 g2 ?_ (λi o hi=>Ags h1 hi) rfl
  have := hg.o4
  rw [hAl,show 2*A2 hn ls d / 2=A2 hn ls d by omega]at this
  exact this
 .rw [if_neg e]at hpre
  have hs:d.1.toNat<AV hn d:=by
   have := ul (T:=AN hn ls us d) (D:=Ap d) (t:=0) (by omega) (show d.1.toNat<hn.toNat by omega)
   rw [Nat.zero_mul,cd]at this
   exact this
  have ht:Ap d*hn.toNat+d.2.1.toNat<AV hn d:=ul (T:=AN hn ls us d) (cg _) (show d.2.1.toNat<hn.toNat by omega)
  have hst:d.1.toNat≠Ap d*hn.toNat+d.2.1.toNat:=λg=>by
   have :=(TN.src_eq (T:=AN hn ls us d) (t:=Ap d) (show d.1.toNat<hn.toNat by omega) (show d.2.1.toNat<hn.toNat by omega)).1 g
   omega
  have hsi:=Ago hpo hs ht hst
  have hme:E4 (gO (AN hn ls us d).p (AV hn d) (A2 hn ls d)) (ini (AV hn d) d.1.toNat)<=AV hn d*A2 hn ls d+1:=Ai5 (N:=AV hn d) (n:=A2 hn ls d) hpo
  have hmul:AV hn d*A2 hn ls d<=8726400:=mm (uf hNb hnb) (by decide)
  have sd:=Ajv ⟨M,gA (AN hn ls us d).p (A2 hn ls d),gO (AN hn ls us d).p (AV hn d) (A2 hn ls d),ba (AV hn d) 0,A2 hn ls d,d.1.toNat,Ap d*hn.toNat+d.2.1.toNat,b⟩ (st:=⟨mkO ob M (gA (AN hn ls us d).p (A2 hn ls d)) (gO (AN hn ls us d).p (AV hn d) (A2 hn ls d)) (AV hn d),M+5+AV hn d⟩) (by
   refine ⟨hg,?_,?_,Ane h1,Anf hlp,?_,?_,?_,hb0,hb1,λi=>?_⟩ <;> simp only[ft]
   .exact hsi
   .exact cg _
   .omega
   .omega
   .exact mm hme (by omega)
   .show aL _ (2*i)+aL _ (2*i+1)<=_
    by_cases c:i<A2 hn ls d
    .rw [Acu c,NH c]
     obtain ⟨t,ht',⟨x,hx,rfl⟩ | ⟨k,hk,rfl⟩⟩:=TN.house_of (T:=AN hn ls us d) (D:=Ap d) ok.h1 c
     .rw [TN.p_house hx];show (1099511627776:Int)+0<=1099511627776;decide
     .rw [TN.p_link hk]
      have hk':k<ls.length:=hk
      have q1:=Hf hf (k:=(k:Int)) (t:=d.2.2.2.1+(t:Int)) ⟨by omega,by omega⟩
      have q2:=GD okr.net (link:=(k:Int)) (tick:=d.2.2.2.1+(t:Int)) (by omega) (by omega)
      show CT ls (k:Int) (d.2.2.2.1+(t:Int))-Bg us (k:Int) (d.2.2.2.1+(t:Int)) us.length+0<=_
      omega
    .unfold aL
     rw [oa,ia (by omega),oa,ia (by omega)];decide)
  simp only[KB,ft]at sd
  unfold gP at sd
  rw [<-hpre]at sd
  have hlen:=hP.len
  generalize B9 hn ls us d b=res at *
  obtain ⟨u,hu⟩:∃u:Nat,d.1=(u:Int):=⟨d.1.toNat,by omega⟩
  obtain ⟨v,hv⟩:∃v:Nat,d.2.1=(v:Int):=⟨d.2.1.toNat,by omega⟩
  have wD:nm.wrap (d.2.2.2.2-d.2.2.2.1)=(Ap d:Int):=by rw[Af (by omega) (by omega)];omega
  have hDh:Ap d*hn.toNat<=1200:=mm (uf hD (show hn.toNat<=12 by omega)) (by decide)
  have wm:nm.wrap ((Ap d:Int)*hn)=((Ap d*hn.toNat:Nat):Int):=by
   rw [show ((Ap d:Int)*hn)=((Ap d*hn.toNat:Nat):Int) by rw[Int.natCast_mul,hnn],Af (by omega) (by omega)]
  have wa:nm.wrap (((Ap d*hn.toNat:Nat):Int)+(v:Int))=((Ap d*hn.toNat+v:Nat):Int):=by rw[<-uh,Af (by omega) (by omega)]
  rw [hu,hv,pe,pe]at sd
  dsimp only[D7]at sm
  rw [hu,hv]at sm
  have e':¬(u:Int)=(v:Int):=by rw[<-hu,<-hv];exact e
  refine BT AQ (l := [e_make,e_send]) ((Ad uC (Ad tE Au))) [] [] 0 Tryz.func42 rfl (by decide +kernel) (N:=39) rfl (by simp) rfl (by kernel_rfl) ?_
  simp only[↓bdD,bdP,seval,Ao,e_make,e_send,Ac,Aa,Tryz.f42,ty3,AJ,AO,AY,Ls,sm,sd,hu,hv,e',wD,wm,wa]
  refine ZY h1 ?_ ?_ (λi o hi=>?_) rfl
  .simp only[Ab]
   rw [if_neg (by omega),if_neg (by omega)];exact g2
  .simp only[Ab]
   rw [if_neg (by omega),if_pos trivial,hAl,show 2*A2 hn ls d / 2=A2 hn ls d by omega]
  .have := h1 i o hi
   dsimp only at this
   simp only[Ab]
   rw [if_neg (by omega),if_neg (by omega)];exact Ags h1 hi
theorem Ajx (a b:GW) (st:Store) (h:M7 a=M7 b) (hx:KK a st) (hy:KK b st):KL a st=KL b st:=by
 obtain ⟨h1,ls1,us1,⟨df1,dt1,db1,dr1,dd1⟩,b1⟩:=a
 obtain ⟨h2,ls2,us2,⟨df2,dt2,db2,dr2,dd2⟩,b2⟩:=b
 simp only[M7,ix,and_true,qr,qt,s6,AF,AG,true_and]at h
 obtain ⟨⟨e1,e2⟩,e3,⟨e4,e5,e6,e7,e8⟩,e9⟩:=h
 subst e1;subst e2;subst e3;subst e4;subst e5;subst e6;subst e7;subst e8;subst e9
 rfl
theorem Ajy (x:GW) {st:Store} (h:KK x st):A9 M7 KK KL [sP (x.hn,x.ls),Ay x.us,D7 x.d,I x.b] st=some (KL x st):=Bc Ajx (i:=x) h
def EB (hn:Int) (ls:List Lnk) (us:List Snd) (d:Dem):Int:=if Cy hn ls us≠0 then Cy hn ls us else if Ed hn d=false then 1 else if 32<d.2.2.2.2-d.2.2.2.1 then 2 else 0
section
variable {hn:Int} {ls:List Lnk} {us:List Snd}
theorem fck_zero {d:Dem}:EB hn ls us d=0↔Cy hn ls us=0/\Ed hn d=true/\d.2.2.2.2-d.2.2.2.1<=32:=by
 unfold EB
 by_cases h1:Cy hn ls us=0
 .rw [if_neg (λg=>g h1)]
  by_cases h2:Ed hn d=false
  .rw [if_pos h2];simp[h2]
  .rw [if_neg h2]
   by_cases h3:32<d.2.2.2.2-d.2.2.2.1
   .rw [if_pos h3];simp;intro _ _;omega
   .rw [if_neg h3];simp[h1];exact⟨by simpa using h2,by omega⟩
 .rw [if_pos h1];simp[h1]
theorem jO (h:Cy hn ls us=0):Bf hn ls []=0:=right_zero.2 ⟨(Cj h).1.net,by simp,by simp,by simp,by simp,by simp⟩
theorem jP {d:Dem} (h:Cy hn ls us=0):(EA hn ls [] d 0 0).2=if Ed hn d=false then 1 else 0:=by
 have hh:=(Cj h).1.net.houses
 unfold EA
 rw [if_neg (λg=>g (jO h))]
 by_cases c:Ed hn d=false
 .rw [if_pos (.inl c),if_pos c]
 .rw [if_neg (by simp[c,hOK];omega),if_neg c]
end
def FY:Int×List Lnk×List Snd×Dem->List PV:=λ(hn,ls,us,d) => [.agg [I hn,AS ls],Ay us,D7 d]
def LL:Int×List Lnk×List Snd×Dem->PV:=λ(hn,ls,us,d)=>I (EB hn ls us d)
def e_fcheck:Nat×Ent:=(39,.v (An FY LL AZ))
theorem uD:∀i j,FY i=FY j->i=j:=by
 rintro ⟨_,_,_,_⟩ ⟨_,_,_,_⟩ h
 simp only[FY,ix,and_true,s6,qt,qr,true_and,AG,AF]at h
 simp [tn,h] <;> omega
theorem Hh (hn:Int) (ls:List Lnk) (us:List Snd) (d:Dem):An FY LL AZ [.agg [I hn,AS ls],Ay us,D7 d]=some (I (EB hn ls us d)):=AD uD (i:=(hn,ls,us,d)) trivial
def uE:Prop:=∀(hn:Int) (ls:List Lnk) (us:List Snd) (d:Dem) ,VC pk 39 (FY (hn,ls,us,d)) (LL (hn,ls,us,d))
theorem uF:uE:=by
 intro hn ls us d
 dsimp only[FY,LL]
 refine Bd AQ (l := [e_fits,e_Stock]) ((Ad tJ (Ad ZS Au))) [] []  Tryz.func39 rfl (by decide +kernel) (N:=31) rfl (by simp) rfl (by kernel_rfl) λhs=>?_
 simp only[AK,s8,ow,and_true,true_and]at hs
 unfold EB
 by_cases h1:Cy hn ls us=0
 case neg =>
  rw [if_pos h1]
  generalize hr:Cy hn ls us=r at *
  simp only[↓bdD,bdP,seval,Ao,st0,e_fits,MW,e_Stock,Ac,Aa,um,AJ,AO,h1,hr]
 rw [if_neg (λg=>g h1)]
 have hsp:=Tf (hn:=hn) (ls:=ls) (l := []) (d:=d) (at_:=0) (tick:=0)
 rw [show Ay []=PV.lits 3 [] from rfl]at hsp
 have hst:=jP (d:=d) h1
 generalize EA hn ls [] d 0 0=q at *
 by_cases h2:Ed hn d=false
 .rw [if_pos h2]at hst ⊢
  rw [hst]at hsp
  simp only[↓bdD,bdP,seval,Ao,st0,e_fits,MW,e_Stock,Ac,Aa,um,ty3,AJ,AO,AY,h1,hsp]
 rw [if_neg h2]at hst ⊢
 rw [hst]at hsp
 obtain ⟨_,_,hr⟩:=BR (hn:=hn) (d:=d) (by simpa using h2)
 have hr0:=hr.2.2.1
 have hr1:=hr.2.2.2.1
 have hr2:=hr.2.2.2.2
 have wD:nm.wrap (d.2.2.2.2-d.2.2.2.1)=d.2.2.2.2-d.2.2.2.1:=Af (by omega) (by omega)
 by_cases h3:32<d.2.2.2.2-d.2.2.2.1
 .rw [if_pos h3]
  simp only[↓bdD,bdP,seval,Ao,st0,e_fits,MW,e_Stock,Ac,Aa,um,ty3,AJ,AO,AY,h1,hsp,wD,h3]
 .rw [if_neg h3]
  simp only[↓bdD,bdP,seval,Ao,st0,e_fits,MW,e_Stock,Ac,Aa,um,ty3,AJ,AO,AY,h1,hsp,wD,h3]
theorem Pv:AM pk e_fcheck.1 e_fcheck.2:=Ax λ⟨hn,ls,us,d⟩ h=>uF hn ls us d
section
variable {hn:Int} {ls:List Lnk} {us:List Snd} {d:Dem}
theorem BL (h:EB hn ls us d=0):Cy hn ls us=0/\Ed hn d=true/\Ap d<=32/\d.2.2.2.2=d.2.2.2.1+(Ap d:Nat):=by
 obtain ⟨h1,h2,h3⟩:=fck_zero.1 h
 obtain ⟨_,_,hr⟩:=BR h2
 have := hr.2.2.2.1
 exact ⟨h1,h2,by unfold Ap;omega,by unfold Ap;omega⟩
theorem Ajz {b:Int} (h:EB hn ls us d=0) (hb:0<=b/\b<=1099511627776):KK ⟨hn,ls,us,d,b⟩ ⟨λ_=>none,0⟩:=by
 obtain ⟨h1,h2,h3,_⟩:=BL h
 exact ⟨λi o hi=>(by cases hi),λi r hi=>(by cases hi),h1,h2,(by dsimp only;omega),hb⟩
end
def Cp (A:List Arc) (h W:Nat) (r:Int):Nat->List Snd
 | 0 => []
 | i+1=>Cp A h W r i++if h<=i % W/\0<flA A i then [(((i % W-h:Nat):Int),r+((i / W:Nat):Int),flA A i)]else []
theorem VU {A:List Arc} {h W:Nat} {r:Int}:∀n,(Cp A h W r n).length<=n
 | 0=>cg _
 | n+1=>by
  have := VU (A:=A) (h:=h) (W:=W) (r:=r) n
  rw [Cp,cu]
  split <;> simp <;> omega
def DN (hn:Int) (ls:List Lnk) (us:List Snd) (d:Dem):Int:=if EB hn ls us d≠0 then EB hn ls us d else if (B9 hn ls us d d.2.2.1).2<d.2.2.1 then 21 else 0
def Da (hn:Int) (ls:List Lnk) (us:List Snd) (d:Dem):List Snd:=if DN hn ls us d=0 then Cp (B9 hn ls us d d.2.2.1).1 hn.toNat (hn.toNat+ls.length) d.2.2.2.1 (A2 hn ls d)else []
def HQ:Int×List Lnk×List Snd×Dem->List PV:=λ(hn,ls,us,d) => [.agg [I hn,AS ls],Ay us,D7 d]
def N0:Int×List Lnk×List Snd×Dem->PV:=λ(hn,ls,us,d)=>.tuple [Ay (Da hn ls us d),I (DN hn ls us d)]
def e_cheap:Nat×Ent:=(20,.v (An HQ N0 AZ))
theorem Ado:∀i j,HQ i=HQ j->i=j:=by
 rintro ⟨_,_,_,_⟩ ⟨_,_,_,_⟩ h
 simp only[HQ,ix,and_true,s6,qt,qr,true_and,AG,AF]at h
 simp [tn,h] <;> omega
theorem Tk (hn:Int) (ls:List Lnk) (us:List Snd) (d:Dem):An HQ N0 AZ [.agg [I hn,AS ls],Ay us,D7 d]=some (.tuple [Ay (Da hn ls us d),I (DN hn ls us d)]):=AD Ado (i:=(hn,ls,us,d)) trivial
def Adp:Prop:=∀(hn:Int) (ls:List Lnk) (us:List Snd) (d:Dem) ,VC pk 20 (HQ (hn,ls,us,d)) (N0 (hn,ls,us,d))
theorem Adq:Adp:=by
 intro hn ls us d
 dsimp only[HQ,N0]
 refine Bd AQ (l := [e_fcheck,e_plan]) ((Ad Pv (Ad Ajw Au))) [] []  Tryz.func20 rfl (by decide +kernel) (N:=91) rfl (by simp) rfl (by kernel_rfl) λhs=>?_
 simp only[AK,s8,ow,and_true,true_and]at hs
 by_cases h1:EB hn ls us d=0
 case neg =>
  have e1:DN hn ls us d=EB hn ls us d:=by unfold DN;rw[if_pos h1]
  have e2:Da hn ls us d = []:=by unfold Da;rw[e1,if_neg h1]
  rw [e1,e2]
  generalize hr:EB hn ls us d=r at *
  simp only[↓bdD,bdP,seval,Ao,st0,e_fcheck,Hh,e_plan,Ac,Aa,un,AJ,AO,AY,h1,hr]
 obtain ⟨hf,hd,hD,hdu⟩:=BL h1
 obtain ⟨_,_,hr⟩:=BR hd
 have hr0:=hr.1
 have hr1:=hr.2.1
 have hr2:=hr.2.2.1
 have hr3:=hr.2.2.2.2
 have hh:=(Cj hf).1.net.houses
 have hln:=(Cj hf).1.net.len
 have hP:=Hg (bytes:=d.2.2.1) hf hd (by omega)
 have sp:=Ajy ⟨hn,ls,us,d,d.2.2.1⟩ (st:=⟨λ_=>none,0⟩) (Ajz h1 ⟨by omega,by omega⟩)
 simp only[KL]at sp
 unfold gP at sp
 dsimp only[sP,D7]at sp
 have hn1:=hP.n1
 have hlen:=hP.len
 obtain ⟨h,hhe⟩:∃h:Nat,hn=(h:Int):=⟨hn.toNat,by omega⟩
 have hnb:A2 hn ls d<=2304:=mm (uf hD (show hn.toNat+ls.length<=72 by omega)) (by decide)
 by_cases h2:(B9 hn ls us d d.2.2.1).2<d.2.2.1
 .have e1:DN hn ls us d=21:=by unfold DN;rw[if_neg (λg=>g h1),if_pos h2]
  have e2:Da hn ls us d = []:=by unfold Da;rw[e1,if_neg (by decide)]
  rw [e1,e2]
  generalize B9 hn ls us d d.2.2.1=q at *
  simp only[↓bdD,bdP,seval,Ao,st0,e_fcheck,Hh,e_plan,Ac,Aa,un,ty3,AJ,AO,AY,h1,sp,h2]
 have e1:DN hn ls us d=0:=by unfold DN;rw[if_neg (λg=>g h1),if_neg h2]
 have e2:Da hn ls us d=Cp (B9 hn ls us d d.2.2.1).1 hn.toNat (hn.toNat+ls.length) d.2.2.2.1 (A2 hn ls d):=by unfold Da;rw[if_pos e1]
 rw [e1,e2]
 clear e1 e2
 subst hhe
 rw [pe]at *
 generalize A2 (h:Int) ls d=n at *
 generalize AV (h:Int) d=N at *
 have wW:nm.wrap ((h:Int)+(ls.length:Int))=((h+ls.length:Nat):Int):=by rw[<-uh,Af (by omega) (by omega)]
 obtain ⟨W,hW⟩:∃W,h+ls.length=W:=⟨_,rfl⟩
 rw [hW]at wW ⊢
 generalize B9 (h:Int) ls us d d.2.2.1=q at *
 obtain ⟨A,sn⟩:=q
 dsimp only at sp hn1 hlen h2 ⊢
 clear hP
 have hW0:0<W:=by omega
 have hO2:plO (λ_=>none) 0 n N A 2=some (.arr 0 3 [gBx 0 n N]):=rfl
 have hO4:plO (λ_=>none) 0 n N A 4=some (.arr n 4 (A.map E8)):=rfl
 unfold gBx at hO2
 generalize plO (λ_=>none) 0 n N A=O at *
 simp only[↓bdD,bdP,seval,st0,e_fcheck,Hh,e_plan,Ac,Aa,un,ty3,BP,AJ,AO,AY,h1,sp,h2,wW]
 refine Aw [11,13,14,15,16,43,44,45,46,47,48,49,50,51,52,53,54,55,56,57,58,59,60,61,62,63,64,65,66,67,68,69,70,71,72,73,74,75,76,77,78,79,80,81,82,83,84,85,86,87,88,89] n (λj ρ st'=>ρ 13=I ((2*j:Nat):Int)/\GS st' (ρ 11) 5 3 ((Cp A h W d.2.2.2.1 j).map Ca)/\st'.obj 2=some (.arr 0 3 [.agg [.ref (0+4) n 0 (2*n),.ref 0 1 0 N,.ref (0+1) 1 0 N]])/\st'.obj 4=some (.arr n 4 (A.map E8))) (.slot _ 11 3 ?_ ?_) ?_ ?_
 .simp only[↓bdD,bdP,Nat.reduceBEq]
 .decide
 .simp only[↓bdD,bdP,seval,kp,hO2,hO4]
  simp [Cp]
 rintro j ρ ⟨ob,M⟩ hj ⟨h13,⟨g,h11,ho⟩,ho2,ho4⟩
 dsimp only at ho ho2 ho4
 rw [ow]at h11
 rw [cd]at ho2
 by_cases hlt:j<n
 .have hol:=VU (A:=A) (h:=h) (W:=W) (r:=d.2.2.2.1) j
  have hstep:Cp A h W d.2.2.2.1 (j+1)=Cp A h W d.2.2.2.1 j++if h<=j % W/\0<flA A j then [(((j % W-h:Nat):Int),d.2.2.2.1+((j / W:Nat):Int),flA A j)]else []:=rfl
  have hlen2:2*j+1<A.length:=by omega
  have hnA:=ER hlen2
  have hfl:(A.getD (2*j+1) dA).2.2.1=flA A j:=rfl
  rw [hfl]at hnA
  have c1:((2*j:Nat):Int)<((2*n:Nat):Int):=by omega
  have w1:nm.wrap (((2*j:Nat):Int)+1)=((2*j+1:Nat):Int):=Cu (by omega)
  have w2:nm.wrap (((2*j:Nat):Int)+2)=((2*(j+1):Nat):Int):=by rw[Af (by omega) (by omega)];omega
  have t1:Int.tdiv ((2*j:Nat):Int) 2=(j:Int):=by rw[uo (by omega)];omega
  have t2:Int.tdiv (j:Int) (W:Int)=((j / W:Nat):Int):=by rw[uo (by omega)];rfl
  have t3:Int.tmod (j:Int) (W:Int)=((j % W:Nat):Int):=by rw[Int.tmod_eq_emod_of_nonneg (by omega)];rfl
  have hdv:j / W<=j:=Nat.div_le_self _ _
  have hml:j % W<W:=Nat.mod_lt _ hW0
  generalize j / W=qd at *
  generalize j % W=md at *
  have w3:nm.wrap (j:Int)=(j:Int):=Af (by omega) (by omega)
  have w4:nm.wrap ((qd:Nat):Int)=((qd:Nat):Int):=Af (by omega) (by omega)
  have w5:nm.wrap (d.2.2.2.1+((qd:Nat):Int))=d.2.2.2.1+((qd:Nat):Int):=Af (by omega) (by omega)
  have hWn:¬(W:Int)=0:=by omega
  have hWn':¬W=0:=by omega
  have hl2:((2*j+1:Nat):Int)<((2*n:Nat):Int):=by omega
  have hAl:(A.map E8).length=2*n:=by rw[ow,hlen]
  have hol1:(Cp A h W d.2.2.2.1 j).length+1<=2147483648:=by omega
  have htk:∀z,List.take ((Cp A h W d.2.2.2.1 j).length+1) (List.map Ca (Cp A h W d.2.2.2.1 j) ++ [z])=List.map Ca (Cp A h W d.2.2.2.1 j) ++ [z]:=λz=>sa (by simp)
  by_cases hc:h<=md
  .have w6:nm.wrap (((md:Nat):Int)-(h:Int))=((md-h:Nat):Int):=by rw[Af (by omega) (by omega)];omega
   have hci:(h:Int)<=((md:Nat):Int):=by omega
   by_cases hp:0<flA A j
   .rw [if_pos ⟨hc,hp⟩]at hstep
    generalize Cp A h W d.2.2.2.1 (j+1)=o2 at *
    generalize Cp A h W d.2.2.2.1 j=o1 at *
    generalize flA A j=fl at *
    simp only[↓bdD,bdP,seval,kd,ty3,AJ,AO,AY,Ct,MG,Em,Iz,h13,h11,ho,ho2,ho4,c1,w1,w2,t1,t2,t3,w3,w4,w5,w6,hWn,hl2,hAl,hnA,hci,hp,hol1,hstep]
    exact ⟨hlt,by rw[List.map_append];rfl⟩
   .rw [if_neg (λg=>hp g.2),qq]at hstep
    generalize Cp A h W d.2.2.2.1 (j+1)=o2 at *
    generalize Cp A h W d.2.2.2.1 j=o1 at *
    generalize flA A j=fl at *
    simp only[↓bdD,bdP,seval,ty3,AJ,MG,Em,Iz,h13,h11,ho,ho2,ho4,c1,w1,w2,t1,t2,t3,w3,w4,hWn,hl2,hAl,hnA,hci,hp,hstep]
    exact hlt
  .have hci:¬(h:Int)<=((md:Nat):Int):=by omega
   rw [if_neg (λg=>hc g.1),qq]at hstep
   generalize Cp A h W d.2.2.2.1 (j+1)=o2 at *
   generalize Cp A h W d.2.2.2.1 j=o1 at *
   generalize flA A j=fl at *
   simp only[↓bdD,bdP,seval,ty3,AJ,MG,Em,Iz,h13,h11,ho,ho2,ho4,c1,w1,w2,t1,t2,t3,w3,w4,hWn,hl2,hAl,hnA,hci,hstep]
   exact hlt
 .have e:j=n:=by omega
  subst e
  have c1:¬((2*j:Nat):Int)<((2*j:Nat):Int):=by omega
  generalize Cp A h W d.2.2.2.1 j=o1 at *
  simp only[↓bdD,bdP,seval,Ao,Ac,MG,Em,h13,h11,ho,ho2,ho4,c1]
theorem ZZ:AM pk e_cheap.1 e_cheap.2:=Ax λ⟨hn,ls,us,d⟩ h=>Adq hn ls us d
end Sim
namespace Sim
open Go Go.Proofs
theorem Pw {ls:List Lnk} {l:List Snd} {t f:Int}:∀n,Dz ls l t f n=As (λi=>if (l.getD i dS).2.1=t/\(AB ls (l.getD i dS)).1=f then (l.getD i dS).2.2 else 0) n
 | 0=>rfl
 | n+1=>by rw[Dz,As,Pw n];rfl
theorem N2 {ls:List Lnk} {l:List Snd} {a t:Int}:∀n,EW ls l a t n=As (λi=>CI ls (l.getD i dS) a t) n
 | 0=>rfl
 | n+1=>by rw[EW,As,N2 n]
theorem N3 {l:List Snd} {a t:Int}:∀n,Bg l a t n=As (λi=>if (l.getD i dS).1=a/\(l.getD i dS).2.1=t then (l.getD i dS).2.2 else 0) n
 | 0=>rfl
 | n+1=>by rw[Bg,As,N3 n]
theorem Tl {ls:List Lnk} {l:List Snd}:∀n,Dy ls l n=As (λi=>(l.getD i dS).2.2*Dk ls (l.getD i dS).1 (l.getD i dS).2.1) n
 | 0=>rfl
 | n+1=>by rw[Dy,As,Tl n]
theorem Ang {f:Nat->Int}:∀n,Sm f n=As f n
 | 0=>rfl
 | n+1=>by rw[Sm,As,Ang n]
theorem Px {l:List Snd} {τ:Int} {L:Nat} (P:Nat->Prop) [DecidablePred P]:∀ {n},(∀i,i<n->0<=(l.getD i dS).1/\(l.getD i dS).1<(L:Int)) ->
  As (λk=>if P k then Bg l (k:Int) τ n else 0) L=As (λi=>if (l.getD i dS).2.1=τ/\P (l.getD i dS).1.toNat then (l.getD i dS).2.2 else 0) n
 | 0,_=>by
  rw [As]
  exact Bu λk _=>by split <;> rfl
 | n + 1,h=>by
  have ih:=Px (τ:=τ) P (n:=n) λi hi=>h i (by omega)
  have hn:=h n (by omega)
  rw [As,<-ih]
  have e:(λk:Nat=>if P k then Bg l (k:Int) τ (n+1)else 0)=λk=>(if P k then Bg l (k:Int) τ n else 0)+(if (l.getD n dS).1.toNat=k then (if (l.getD n dS).2.1=τ/\P (l.getD n dS).1.toNat then (l.getD n dS).2.2 else 0)else 0):=by
   funext k
   rw [Bg]
   by_cases c:(l.getD n dS).1.toNat=k
   .rw [if_pos c]
    have c2:(l.getD n dS).1=(k:Int):=by omega
    rw [c]
    by_cases p:P k
    .rw [if_pos p,if_pos p]
     by_cases q:(l.getD n dS).2.1=τ
     .rw [if_pos ⟨c2,q⟩,if_pos ⟨q,p⟩]
     .rw [if_neg (λg=>q g.2),if_neg (λg=>q g.1)]
    .rw [if_neg p,if_neg p,if_neg (λg=>p g.2)];rfl
   .have c2:¬((l.getD n dS).1=(k:Int)/\(l.getD n dS).2.1=τ):=λg=>c (by rw[g.1];exact pe k)
    rw [if_neg c,if_neg c2,th,th]
  rw [e,B8,BH,if_pos (by omega)]
def gS (l:List Snd) (r:Int) (k t:Nat):Int:=Bg l (k:Int) (r+(t:Int)) l.length
section
variable {ls:List Lnk} {l:List Snd} {i x:Nat}
theorem Adr (h:0<=(AB ls (l.getD i dS)).1):((ls.getD (l.getD i dS).1.toNat dL).1.toNat=x)=((AB ls (l.getD i dS)).1=(x:Int)):=by
 unfold AB at h ⊢
 exact propext ⟨λg=>by omega,λg=>by omega⟩
theorem Ads (h:0<=(AB ls (l.getD i dS)).2.1):((ls.getD (l.getD i dS).1.toNat dL).2.1.toNat=x)=((AB ls (l.getD i dS)).2.1=(x:Int)):=by
 unfold AB at h ⊢
 exact propext ⟨λg=>by omega,λg=>by omega⟩
end
section
variable {hn:Int} {ls:List Lnk} {l us:List Snd} {d:Dem} {r:Int}
theorem Z0 (ok:OKr hn ls l) (x t:Nat):(IH hn ls us r).outF (gS l r) x t=Dz ls l (r+(t:Int)) (x:Int) l.length:=by
 have := Px (l:=l) (τ:=r+(t:Int)) (L:=ls.length) (λk=>(ls.getD k dL).1.toNat=x) (n:=l.length) ok.link
 rw [Pw]
 refine uq (uq ?_ this) (Am λi hi=>?_)
 .rfl
 .simp only[Adr (ends ok hi).1.1]
theorem Aoe (ok:OKr hn ls l) (x t:Nat):(IH hn ls us r).inF (gS l r) x t=As (λi=>if (l.getD i dS).2.1=r+(t:Int)/\(AB ls (l.getD i dS)).2.1=(x:Int)then (l.getD i dS).2.2 else 0) l.length:=by
 have := Px (l:=l) (τ:=r+(t:Int)) (L:=ls.length) (λk=>(ls.getD k dL).2.1.toNat=x) (n:=l.length) ok.link
 refine uq (uq ?_ this) (Am λi hi=>?_)
 .rfl
 .simp only[Ads (ends ok hi).2.1.1]
theorem LM (ok:OKr hn ls l) (hd:0<=d.1) (h0:∀i,i<l.length->d.2.2.2.1<=(l.getD i dS).2.1) (x:Nat):∀t:Nat,(IH hn ls us d.2.2.2.1).stk d.1.toNat d.2.2.1 (gS l d.2.2.2.1) t x=Ba ls l d (x:Int) (d.2.2.2.1+(t:Int))
 | 0=>by
  unfold Ba CO
  rw [N2,Bu (λi hi=>by unfold CI;rw[if_neg (by have:=h0 i hi;omega)]),TN.stk]
  by_cases c:d.1.toNat=x
  .rw [if_pos c,if_pos ⟨by omega,by omega⟩];omega
  .rw [if_neg c,if_neg (λg=>c (by omega))];rfl
 | t + 1=>by
  rw [TN.stk,LM ok hd h0 x t,Z0 ok,Aoe ok,Pw]
  unfold Ba
  have e0:CO d (x:Int) (d.2.2.2.1+((t+1:Nat):Int))=CO d (x:Int) (d.2.2.2.1+(t:Int)):=by
   unfold CO
   by_cases c:(x:Int)=d.1
   .rw [if_pos ⟨c,by omega⟩,if_pos ⟨c,by omega⟩]
   .rw [if_neg (λg=>c g.1),if_neg (λg=>c g.1)]
  rw [e0,N2,N2]
  have e1:As (λi=>CI ls (l.getD i dS) (x:Int) (d.2.2.2.1+((t+1:Nat):Int))) l.length=As (λi=>(CI ls (l.getD i dS) (x:Int) (d.2.2.2.1+(t:Int))-(if (l.getD i dS).2.1=d.2.2.2.1+(t:Int)/\(AB ls (l.getD i dS)).1=(x:Int)then (l.getD i dS).2.2 else 0))+(if (l.getD i dS).2.1=d.2.2.2.1+(t:Int)/\(AB ls (l.getD i dS)).2.1=(x:Int)then (l.getD i dS).2.2 else 0)) l.length:=by
   refine Am λi _=>?_
   unfold CI
   by_cases c:(l.getD i dS).2.1=d.2.2.2.1+(t:Int)
   .have q1:d.2.2.2.1+(t:Int)<d.2.2.2.1+((t+1:Nat):Int):=by omega
    simp only[c,true_and,q1,if_true,uj,if_false]
    omega
   .simp only[c,false_and,if_false]
    by_cases c2:(l.getD i dS).2.1<d.2.2.2.1+(t:Int)
    .have q1:(l.getD i dS).2.1<d.2.2.2.1+((t+1:Nat):Int):=by omega
     simp only[q1,c2,if_true];omega
    .have q1:¬(l.getD i dS).2.1<d.2.2.2.1+((t+1:Nat):Int):=by omega
     simp only[q1,c2,if_false];omega
  rw [e1,B8,Co]
  omega
theorem Tm (ok:OKr hn ls l) (k t:Int):0<=Bg l k t l.length:=by
 rw [N3]
 exact BD λi hi=>by
  split
  .have := ok.bytes i hi;omega
  .exact pj _
theorem Tn (h:Serving hn ls l d) (hu:Cy hn ls us=0) (hb:∀i,i<l.length->(l.getD i dS).2.2<=CT ls (l.getD i dS).1 (l.getD i dS).2.1-Bg us (l.getD i dS).1 (l.getD i dS).2.1 us.length) {D:Nat} (ha:d.2.2.1<=Ba ls l d d.2.1 (d.2.2.2.1+(D:Int))):(IH hn ls us d.2.2.2.1).Plan D d.1.toNat d.2.1.toNat d.2.2.1 (gS l d.2.2.2.1):=by
 have ok:=h.ok
 have hf:=h.from_
 have ht:=h.to_
 have okT:=Ee (r:=d.2.2.2.1) (D:=D) hu
 have hdb:1<=d.2.2.1:=h.dem.1
 have h0:=Ps h
 have hS:=LM (us:=us) ok hf.1 h0
 refine ⟨λk t hk _=>Tm ok _ _,λk t hk htD=>?_,λt x htD hx=>?_,λx hx=>?_⟩
 .by_cases c:∃i,i<l.length/\((l.getD i dS).1=(k:Int)/\(l.getD i dS).2.1=d.2.2.2.1+(t:Int))
  .obtain ⟨i,hi,e1,e2⟩:=c
   unfold gS
   rw [JG ⟨e1,e2⟩ hi λj hj g=>Pt ok hj hi ⟨g.1.trans e1.symm,g.2.trans e2.symm⟩]
   have := hb i hi
   rw [e1,e2]at this
   exact this
  .unfold gS
   rw [FX λj hj g=>c ⟨j,hj,g⟩]
   exact okT.lf k t hk htD
 .rw [hS,Z0 ok]
  by_cases c:∃i,i<l.length/\((AB ls (l.getD i dS)).1=(x:Int)/\(l.getD i dS).2.1=d.2.2.2.1+(t:Int))
  .obtain ⟨i,hi,e1,e2⟩:=c
   have := h.fed i hi
   unfold frM at this
   rw [e1,e2]at this
   exact this
  .rw [Pw,Bu λi hi=>by rw[if_neg λg=>c ⟨i,hi,g.2,g.1⟩]]
   exact D5 h _ _
 .rw [hS]
  have hs:=VS h (d.2.2.2.1+(D:Int))
  rw [if_pos (by omega),Ang]at hs
  have hx':x<hn.toNat:=hx
  have hnn:=λi (_:i<hn.toNat)=>D5 h (i:Int) (d.2.2.2.1+(D:Int))
  have hto:Ba ls l d d.2.1 (d.2.2.2.1+(D:Int))=Ba ls l d ((d.2.1.toNat:Nat):Int) (d.2.2.2.1+(D:Int)):=by rw[te ht.1]
  rw [hto]at ha
  have key:∀n:Nat,∀f:Nat->Int,(∀i,i<n->0<=f i)->∀a c,a<n->c<n->a≠c->f a+f c<=As f n:=by
   intro n
   induction n with
   | zero=>intro f _ a c ha;omega
   | succ n ih =>
    intro f hf a c ha hc hac
    rw [As]
    have hn0:=hf n (by omega)
    by_cases e1:a=n
    .subst e1
     have := EM (f:=f) (n:=a) (λi hi=>hf i (by omega)) (show c<a by omega)
     omega
    .by_cases e2:c=n
     .subst e2
      have := EM (f:=f) (n:=c) (λi hi=>hf i (by omega)) (show a<c by omega)
      omega
     .have := ih f (λi hi=>hf i (by omega)) a c (by omega) (by omega) hac
      omega
  by_cases c:d.2.1.toNat=x
  .rw [if_pos c]
   have h1:=EM (f:=λa:Nat=>Ba ls l d (a:Int) (d.2.2.2.1+(D:Int))) hnn hx'
   rw [c]at ha
   omega
  .rw [if_neg c]
   have h1:=key hn.toNat (λa:Nat=>Ba ls l d (a:Int) (d.2.2.2.1+(D:Int))) hnn d.2.1.toNat x (by omega) hx' c
   have h2:=D5 h (x:Int) (d.2.2.2.1+(D:Int))
   omega
theorem Aj0 (ok:OKr hn ls l) {D:Nat}:(IH hn ls us r).cst D (gS l r)<=Dy ls l l.length:=by
 have e:(IH hn ls us r).cst D (gS l r)=As (λi=>if r<=(l.getD i dS).2.1/\(l.getD i dS).2.1<r+(D:Int)then (l.getD i dS).2.2*Dk ls (l.getD i dS).1 (l.getD i dS).2.1 else 0) l.length:=by
  have e1:(IH hn ls us r).cst D (gS l r)=As (λt=>As (λk=>As (λi=>if (l.getD i dS).1=(k:Int)/\(l.getD i dS).2.1=r+(t:Int)then (l.getD i dS).2.2*Dk ls (l.getD i dS).1 (l.getD i dS).2.1 else 0) l.length) ls.length) D:=by
   refine Am λt _=>Am λk _=>?_
   show Dk ls (k:Int) (r+(t:Int))*Bg l (k:Int) (r+(t:Int)) l.length=_
   rw [N3,<-G5]
   refine Am λi _=>?_
   by_cases c:(l.getD i dS).1=(k:Int)/\(l.getD i dS).2.1=r+(t:Int)
   .rw [if_pos c,if_pos c,c.1,c.2,Int.mul_comm]
   .rw [if_neg c,if_neg c,uk]
  have e2:∀t,As (λk=>As (λi=>if (l.getD i dS).1=((k:Nat):Int)/\(l.getD i dS).2.1=r+((t:Nat):Int)then (l.getD i dS).2.2*Dk ls (l.getD i dS).1 (l.getD i dS).2.1 else 0) l.length) ls.length=As (λi=>if ((l.getD i dS).2.1-r).toNat=t/\r<=(l.getD i dS).2.1 then (l.getD i dS).2.2*Dk ls (l.getD i dS).1 (l.getD i dS).2.1 else 0) l.length:=λt=>by
   rw [DY]
   refine Am λi hi=>?_
   have hl:=ok.link i hi
   rw [Am (g:=λk=>if (l.getD i dS).1.toNat=k then (if ((l.getD i dS).2.1-r).toNat=t/\r<=(l.getD i dS).2.1 then (l.getD i dS).2.2*Dk ls (l.getD i dS).1 (l.getD i dS).2.1 else 0)else 0) (λk _=>by
    by_cases c:(l.getD i dS).1.toNat=k
    .rw [if_pos c]
     by_cases c2:(l.getD i dS).2.1=r+(t:Int)
     .rw [if_pos ⟨by omega,c2⟩,if_pos ⟨by omega,by omega⟩]
     .rw [if_neg (λg=>c2 g.2),if_neg (λg=>c2 (by omega))]
    .rw [if_neg c,if_neg (λg=>c (by omega))]),BH,if_pos (by omega)]
  rw [e1,Am λt _=>e2 t,DY]
  refine Am λi hi=>?_
  rw [Am (g:=λt=>if ((l.getD i dS).2.1-r).toNat=t then (if r<=(l.getD i dS).2.1 then (l.getD i dS).2.2*Dk ls (l.getD i dS).1 (l.getD i dS).2.1 else 0)else 0) (λt _=>by
   by_cases c:((l.getD i dS).2.1-r).toNat=t
   .simp only[c,true_and,if_true]
   .simp only[c,false_and,if_false]),BH]
  by_cases c:r<=(l.getD i dS).2.1
  .by_cases c2:(l.getD i dS).2.1<r+(D:Int)
   .rw [if_pos (by omega),if_pos c,if_pos ⟨c,c2⟩]
   .rw [if_neg (by omega),if_neg (λg=>c2 g.2)]
  .have q1:¬(r<=(l.getD i dS).2.1/\(l.getD i dS).2.1<r+(D:Int)):=λg=>c g.1
   rw [if_neg c,if_neg q1];split <;> rfl
 rw [e,Tl]
 refine EK λi hi=>?_
 have hl:=ok.link i hi
 have hb:=ok.bytes i hi
 have hp:=JD ok.net (tick:=(l.getD i dS).2.1) hl.1 hl.2
 have := pu (show 0<=(l.getD i dS).2.2 by omega) hp.1
 split
 .exact pj _
 .exact this
end
theorem Py {l:List Snd} {x:Snd} {i:Nat} (h:i<l.length):(l ++ [x]).getD i dS=l.getD i dS:=by
 rw [oa,List.getElem?_append_left h,oa]
theorem YM {l:List Snd} {x:Snd}:(l ++ [x]).getD l.length dS=x:=by
 rw [oa,List.getElem?_append_right (cg _),Nat.sub_self];rfl
theorem uG {φ:Snd->Int} {l:List Snd} {x:Snd}:As (λi=>φ ((l ++ [x]).getD i dS)) (l ++ [x]).length=As (λi=>φ (l.getD i dS)) l.length+φ x:=by
 rw [cu,se,As,YM]
 congr 1
 exact Am λi hi=>by rw[Py hi]
section
variable {A:List Arc} {h W:Nat} {r:Int}
def Pz (A:List Arc) (h W i:Nat):Prop:=h<=i % W/\0<flA A i
instance {A:List Arc} {h W i:Nat}:Decidable (Pz A h W i):=inferInstanceAs (Decidable (_/\_))
def jQ (A:List Arc) (h W:Nat) (r:Int) (i:Nat):Snd:=(((i % W-h:Nat):Int),r+((i / W:Nat):Int),flA A i)
theorem M8 {n:Nat}:Cp A h W r (n+1)=Cp A h W r n++if Pz A h W n then [jQ A h W r n]else []:=rfl
theorem PC (φ:Snd->Int):∀n,As (λi=>φ ((Cp A h W r n).getD i dS)) (Cp A h W r n).length=As (λi=>if Pz A h W i then φ (jQ A h W r i)else 0) n
 | 0=>rfl
 | n+1=>by
  rw [M8,As]
  by_cases c:Pz A h W n
  .rw [if_pos c,if_pos c,uG,PC φ n]
  .rw [if_neg c,if_neg c,qq,PC φ n,th]
theorem N4:∀ {n i:Nat},i<(Cp A h W r n).length->∃j,j<n/\Pz A h W j/\(Cp A h W r n).getD i dS=jQ A h W r j
 | 0,i,hi=>absurd hi (by simp[Cp])
 | n+1,i,hi=>by
  rw [M8]at hi ⊢
  by_cases c:Pz A h W n
  .rw [if_pos c]at hi ⊢
   rw [cu,se]at hi
   by_cases e:i=(Cp A h W r n).length
   .subst e
    exact ⟨n,by omega,c,YM⟩
   .obtain ⟨j,h1,h2,h3⟩:=N4 (n:=n) (i:=i) (by omega)
    exact ⟨j,by omega,h2,by rw[Py (by omega)];exact h3⟩
  .rw [if_neg c,qq]at hi ⊢
   obtain ⟨j,h1,h2,h3⟩:=N4 hi
   exact ⟨j,by omega,h2,h3⟩
theorem PD:∀ {n k:Nat},0<k->k<(Cp A h W r n).length->((Cp A h W r n).getD (k-1) dS).2.1<((Cp A h W r n).getD k dS).2.1\/(((Cp A h W r n).getD (k-1) dS).2.1=((Cp A h W r n).getD k dS).2.1/\((Cp A h W r n).getD (k-1) dS).1<((Cp A h W r n).getD k dS).1)
 | 0,k,_,hk=>absurd hk (by simp[Cp])
 | n + 1,k,h0,hk=>by
  rw [M8]at hk ⊢
  by_cases c:Pz A h W n
  .rw [if_pos c]at hk ⊢
   rw [cu,se]at hk
   by_cases e:k=(Cp A h W r n).length
   .rw [Py (show k-1<_ by omega),e,YM]
    obtain ⟨j,h1,h2,h3⟩:=N4 (A:=A) (h:=h) (W:=W) (r:=r) (n:=n) (i:=k-1) (by omega)
    rw [<-e,h3]
    have c1:=c.1
    have c2:=h2.1
    have d1:=er j W
    have d2:=er n W
    have d3:j / W<=n / W:=Nat.div_le_div_right (by omega)
    unfold jQ
    dsimp only
    by_cases e2:j / W=n / W
    .rw [e2]at d1
     right
     rw [e2]
     exact ⟨rfl,by omega⟩
    .left; omega
   .rw [Py (show k-1<_ by omega),Py (show k<_ by omega)]
    exact PD h0 (by omega)
  .rw [if_neg c,qq]at hk ⊢
   exact PD h0 hk
end
section
variable {T:TN} {D:Nat} {A:List Arc} {r:Int}
theorem Rw {t k:Nat} (hk:k<T.L):Pz A T.h T.W (t*T.W+(T.h+k))=(0<T.gf (flA A) k t):=by
 have hW:T.h+k<T.W:=by show _<T.h+T.L;omega
 unfold Pz
 rw [(TN.row hW).2]
 exact propext ⟨λg=>g.2,λg=>⟨by omega,g⟩⟩
theorem PE {t x:Nat} (hx:x<T.h):¬Pz A T.h T.W (t*T.W+x):=by
 have hW:x<T.W:=by show _<T.h+T.L;omega
 unfold Pz
 rw [(TN.row hW).2]
 exact λg=>by omega
theorem Rx {t k:Nat} (hk:k<T.L):jQ A T.h T.W r (t*T.W+(T.h+k))=((k:Int),r+(t:Int),T.gf (flA A) k t):=by
 have hW:T.h+k<T.W:=by show _<T.h+T.L;omega
 unfold jQ
 rw [(TN.row hW).2,(TN.row hW).1,show T.h+k-T.h=k by omega];rfl
theorem uH (φ:Snd->Int):As (λi=>φ ((Cp A T.h T.W r (D*T.W)).getD i dS)) (Cp A T.h T.W r (D*T.W)).length=As (λt=>As (λk=>if 0<T.gf (flA A) k t then φ ((k:Int),r+(t:Int),T.gf (flA A) k t)else 0) T.L) D:=by
 rw [PC,Hc]
 refine Am λt _=>?_
 have e0:T.W=T.h+T.L:=rfl
 conv => lhs;rw[e0,EU,<-e0]
 rw [Bu (λx hx=>if_neg (PE hx)),Int.zero_add]
 refine Am λk hk=>?_
 rw [Rx hk]
 simp only[Rw hk]
theorem Aj1 (h1:0<T.h) {i:Nat} (hi:i<(Cp A T.h T.W r (D*T.W)).length):∃t k,t<D/\k<T.L/\0<T.gf (flA A) k t/\(Cp A T.h T.W r (D*T.W)).getD i dS=((k:Int),r+(t:Int),T.gf (flA A) k t):=by
 obtain ⟨j,a1,a2,a3⟩:=N4 hi
 obtain ⟨t,ht,⟨x,hx,rfl⟩ | ⟨k,hk,rfl⟩⟩:=TN.house_of (T:=T) (D:=D) h1 a1
 .exact absurd a2 (PE hx)
 .rw [Rw hk]at a2
  rw [Rx hk]at a3
  exact ⟨t,k,ht,hk,a2,a3⟩
end
theorem To {hn:Int} {ls:List Lnk} {l:List Snd} (ok:OKr hn ls l) (h:∀i,i<l.length->(l.getD i dS).2.2<=CT ls (l.getD i dS).1 (l.getD i dS).2.1):Cy hn ls l=0:=by
 unfold Cy
 rw [if_neg (λg=>g (right_zero.2 ok))]
 have key:∀k,k<=l.length->ftT ls l k=false:=by
  intro k
  induction k with
  | zero=>intro _;rfl
  | succ k ih =>
   intro hk
   rw [ftT,ih (by omega),Bool.false_or,decide_eq_false_iff_not]
   have := h k (by omega)
   omega
 rw [if_neg (by rw[key _ (cg _)];simp)]
structure OutOK (hn:Int) (ls:List Lnk) (us:List Snd) (d:Dem) (l:List Snd) (g:Nat->Nat->Int):Prop where
 serves : Cz hn ls l d=0
 besides : ∀i,i<l.length->(l.getD i dS).2.2<=CT ls (l.getD i dS).1 (l.getD i dS).2.1-Bg us (l.getD i dS).1 (l.getD i dS).2.1 us.length
 cost : BY hn ls l=(AN hn ls us d).cst (Ap d) g
 sent : ∀k t,k<ls.length->t<Ap d->gS l d.2.2.2.1 k t=g k t
 ticks : ∀i,i<l.length->d.2.2.2.1<=(l.getD i dS).2.1/\(l.getD i dS).2.1<d.2.2.2.2
section
variable {hn:Int} {ls:List Lnk} {us:List Snd} {d:Dem}
theorem Aj2 {A:List Arc} (hu:Cy hn ls us=0) (hd:Ed hn d=true) (hD:Ap d<=32)
  (P : (AN hn ls us d).Plan (Ap d) d.1.toNat d.2.1.toNat d.2.2.1 ((AN hn ls us d).gf (flA A))) :
  OutOK hn ls us d (Cp A hn.toNat (hn.toNat+ls.length) d.2.2.2.1 (A2 hn ls d)) ((AN hn ls us d).gf (flA A)):=by
 obtain ⟨oku,_⟩:=Cj hu
 have hh:=oku.net.houses
 obtain ⟨⟨a0,a1⟩,⟨c0,c1⟩,hr⟩:=BR hd
 have hr2:=hr.2.2.1
 have hr3:=hr.2.2.2.2
 have hr4:=hr.2.2.2.1
 have hdu:d.2.2.2.2=d.2.2.2.1+(Ap d:Nat):=by unfold Ap;omega
 have okT:=Ee (r:=d.2.2.2.1) (D:=Ap d) hu
 have hl:Cp A hn.toNat (hn.toNat+ls.length) d.2.2.2.1 (A2 hn ls d)=Cp A (AN hn ls us d).h (AN hn ls us d).W d.2.2.2.1 (Ap d*(AN hn ls us d).W):=rfl
 have hat:=λi (hi:i<(Cp A (AN hn ls us d).h (AN hn ls us d).W d.2.2.2.1 (Ap d*(AN hn ls us d).W)).length)=>Aj1 (T:=AN hn ls us d) okT.h1 hi
 have hsum:=λφ=>uH (T:=AN hn ls us d) (D:=Ap d) (A:=A) (r:=d.2.2.2.1) φ
 have hasc:=λk h0 hk=>PD (A:=A) (h:=(AN hn ls us d).h) (W:=(AN hn ls us d).W) (r:=d.2.2.2.1) (n:=Ap d*(AN hn ls us d).W) (k:=k) h0 hk
 rw [hl]
 clear hl
 generalize Cp A (AN hn ls us d).h (AN hn ls us d).W d.2.2.2.1 (Ap d*(AN hn ls us d).W)=l at *
 generalize hg:(AN hn ls us d).gf (flA A)=g at *
 have hL:(AN hn ls us d).L=ls.length:=rfl
 rw [hL]at hsum
 have hlf:∀k t,k<ls.length->t<Ap d->g k t<=CT ls (k:Int) (d.2.2.2.1+(t:Int))-Bg us (k:Int) (d.2.2.2.1+(t:Int)) us.length:=λk t hk ht=>P.le k t hk ht
 have hlen:l.length<=2000:=by
  have h1:=hsum λ_=>1
  have h2:As (λ_=>(1:Int)) l.length=l.length:=by
   generalize l.length=n
   induction n with
   | zero=>rfl
   | succ n ih=>rw[As,ih];omega
  rw [h2]at h1
  have h3:∀n:Nat,∀f:Nat->Int,∀b:Int,(∀i,i<n->f i<=b)->As f n<=(n:Int)*b:=by
   intro n f b hf
   induction n with
   | zero=>rw[As];simp
   | succ n ih =>
    have := ih λi hi=>hf i (by omega)
    have := hf n (by omega)
    rw [As,uh,Int.add_mul];omega
  have h4:=h3 (Ap d) (λt=>As (λk=>if 0<g k t then 1 else 0) ls.length) 60 (λt _=>by
   have := h3 ls.length (λk=>if 0<g k t then 1 else 0) 1 (λk _=>by split <;> decide)
   have hlen:=oku.net.len
   omega)
  omega
 have ok:OKr hn ls l:=by
  refine ⟨oku.net,hlen,λi hi=>?_,λi hi=>?_,λi hi=>?_,λk h0 hk=>hasc k h0 hk⟩
  .obtain ⟨t,k,ht,hk,hp,e⟩:=hat i hi
   rw [e]
   have hk':k<ls.length:=hk
   dsimp only;omega
  .obtain ⟨t,k,ht,hk,hp,e⟩:=hat i hi
   rw [e]
   dsimp only;omega
  .obtain ⟨t,k,ht,hk,hp,e⟩:=hat i hi
   rw [e]
   have hk':k<ls.length:=hk
   have h1:=hlf k t hk ht
   have h2:=GD oku.net (link:=(k:Int)) (tick:=d.2.2.2.1+(t:Int)) (by omega) (by omega)
   have h3:=Tm oku (k:Int) (d.2.2.2.1+(t:Int))
   dsimp only;omega
 have hse:∀k t,k<ls.length->t<Ap d->gS l d.2.2.2.1 k t=g k t:=λk t hk ht=>by
  unfold gS
  rw [N3,hsum λs=>if s.1=(k:Int)/\s.2.1=d.2.2.2.1+(t:Int)then s.2.2 else 0]
  rw [Am (g:=λt'=>if t'=t then g k t' else 0) (λt' ht'=>by
   rw [Am (g:=λk'=>if k'=k then (if t'=t then g k' t' else 0)else 0) (λk' hk'=>by
    have nn:=P.nn k' t' hk' ht'
    dsimp only
    by_cases e1:k'=k
    .by_cases e2:t'=t
     .subst e1;subst e2
      by_cases c:0<g k' t'
      .simp [c]
      .simp [c];omega
     .have : ¬(d.2.2.2.1+(t':Int)=d.2.2.2.1+(t:Int)):=by omega
      simp [e2,this]
    .have : ¬((k':Int)=(k:Int)):=by omega
     simp [e1,this]),Ew,if_pos hk]),Ew,if_pos ht]
 have h0:∀i,i<l.length->d.2.2.2.1<=(l.getD i dS).2.1/\(l.getD i dS).2.1<d.2.2.2.2:=λi hi=>by
  obtain ⟨t,k,ht,hk,hp,e⟩:=hat i hi
  rw [e]
  dsimp only;omega
 have hS:=LM (us:=us) (d:=d) ok a0 (λi hi=>(h0 i hi).1)
 have hS2:∀x t:Nat,t<=Ap d->Ba ls l d (x:Int) (d.2.2.2.1+(t:Int))=(AN hn ls us d).stk d.1.toNat d.2.2.1 g t x:=λx t ht=>by
  rw [<-hS x t]
  exact TN.stk_congr λk t' hk ht'=>hse k t' hk (by omega)
 refine ⟨serves_iff.2 ⟨ok,⟨a0,a1⟩,⟨c0,c1⟩,hr,To ok λi hi=>?_,λi hi=>?_,?_⟩,λi hi=>?_,?_,hse,h0⟩
 .obtain ⟨t,k,ht,hk,hp,e⟩:=hat i hi
  rw [e]
  have h1:=hlf k t hk ht
  have h3:=Tm oku (k:Int) (d.2.2.2.1+(t:Int))
  dsimp only;omega
 .obtain ⟨t,k,ht,hk,hp,e⟩:=hat i hi
  obtain ⟨⟨f0,f1⟩,_⟩:=ends ok hi
  have hfr:frM ls l i=(((AB ls (l.getD i dS)).1.toNat:Nat):Int):=by unfold frM;omega
  have hx:(AB ls (l.getD i dS)).1.toNat<(AN hn ls us d).h:=by show _<hn.toNat;omega
  rw [hfr]
  generalize (AB ls (l.getD i dS)).1.toNat=x at *
  rw [e]
  dsimp only
  rw [hS2 x t (by omega),<-Z0 (us:=us) (r:=d.2.2.2.1) ok x t,TN.outF_congr (T:=AN hn ls us d) (g':=g) λk hk=>hse k t hk ht]
  exact P.st t x ht hx
 .have := P.en d.2.1.toNat (show d.2.1.toNat<hn.toNat by omega)
  rw [if_pos rfl,<-hS2 _ _ (cg _),<-hdu,te c0]at this
  omega
 .obtain ⟨t,k,ht,hk,hp,e⟩:=hat i hi
  rw [e]
  exact hlf k t hk ht
 .unfold BY
  rw [if_neg (λg=>g (right_zero.2 ok)),Tl,hsum λs=>s.2.2*Dk ls s.1 s.2.1]
  refine Am λt ht=>Am λk hk=>?_
  have nn:=P.nn k t hk ht
  dsimp only
  by_cases c:0<g k t
  .rw [if_pos c,Int.mul_comm];rfl
  .have : g k t=0:=by omega
   rw [if_neg c,this,uk]
theorem FZ (h:DN hn ls us d=0):EB hn ls us d=0/\(B9 hn ls us d d.2.2.1).2=d.2.2.1/\OutOK hn ls us d (Da hn ls us d) (IB hn ls us d d.2.2.1):=by
 unfold DN at h
 split at h
 .contradiction
 .rename_i c
  split at h
  .cases h
  .rename_i c2
   have c:EB hn ls us d=0:=Classical.not_not.1 c
   obtain ⟨hf,hd,hD,_⟩:=BL c
   obtain ⟨_,_,hr⟩:=BR hd
   have P:=Hg (bytes:=d.2.2.1) hf hd (by have:=hr.1;omega)
   have e:(B9 hn ls us d d.2.2.1).2=d.2.2.1:=by have:=P.n1;omega
   have p:=P.plan
   rw [e]at p
   refine ⟨c,e,?_⟩
   have hl:Da hn ls us d=Cp (B9 hn ls us d d.2.2.1).1 hn.toNat (hn.toNat+ls.length) d.2.2.2.1 (A2 hn ls d):=by
    have hE:DN hn ls us d=0:=by unfold DN;rw[if_neg (λg=>g c),if_neg c2]
    unfold Da
    rw [if_pos hE]
   rw [hl]
   exact Aj2 hf hd hD p
theorem YN (hc:EB hn ls us d=0) (h:DN hn ls us d≠0):DN hn ls us d=21/\∀g,¬(AN hn ls us d).Plan (Ap d) d.1.toNat d.2.1.toNat d.2.2.1 g:=by
 obtain ⟨hf,hd,hD,_⟩:=BL hc
 obtain ⟨_,_,hr⟩:=BR hd
 have hr0:=hr.1
 have hr1:=hr.2.1
 unfold DN at h ⊢
 rw [if_neg (λg=>g hc)]at h ⊢
 split at h
 .rename_i c
  rw [if_pos c]
  refine ⟨rfl,λg hg=>?_⟩
  have P:=Hg (bytes:=d.2.2.1) hf hd (by omega)
  have := P.max c _ _ hr1 hg
  omega
 .contradiction
end
end Sim
namespace Sim
open Go Go.Proofs
attribute [local congr] Ah Ai Ag At Al Aj Aq
def Ek (hn:Int) (ls:List Lnk) (us:List Snd) (d:Dem):Int:=if EB hn ls us d≠0 then EB hn ls us d else if 4194304<d.2.2.1 then 2 else 0
def F3:Int×List Lnk×List Snd×Dem->List PV:=λ(hn,ls,us,d) => [.agg [I hn,AS ls,Ay us,I d.1,I d.2.1,I d.2.2.1,I d.2.2.2.1,I d.2.2.2.2]]
def LN:Int×List Lnk×List Snd×Dem->PV:=λ(hn,ls,us,d)=>I (Ek hn ls us d)
def e_pcheck:Nat×Ent:=(35,.v (An F3 LN AZ))
theorem uI:∀i j,F3 i=F3 j->i=j:=by
 rintro ⟨_,_,_,_⟩ ⟨_,_,_,_⟩ h
 simp only[F3,ix,and_true,s6,qt,qr,true_and,AG,AF]at h
 simp [tn,h] <;> omega
theorem CA (hn:Int) (ls:List Lnk) (us:List Snd) (d:Dem):An F3 LN AZ [.agg [I hn,AS ls,Ay us,I d.1,I d.2.1,I d.2.2.1,I d.2.2.2.1,I d.2.2.2.2]]=some (I (Ek hn ls us d)):=AD uI (i:=(hn,ls,us,d)) trivial
def uJ:Prop:=∀(hn:Int) (ls:List Lnk) (us:List Snd) (d:Dem) ,VC pk 35 (F3 (hn,ls,us,d)) (LN (hn,ls,us,d))
theorem uK:uJ:=by
 intro hn ls us d
 dsimp only[F3,LN]
 refine Bd AQ (l := [e_fcheck]) ((Ad Pv Au)) [] []  Tryz.func35 rfl (by decide +kernel) (N:=18) rfl (by simp) rfl (by kernel_rfl) λhs=>?_
 simp only[AK,s8,ow,and_true,true_and]at hs
 unfold Ek
 by_cases h1:EB hn ls us d=0
 case neg =>
  rw [if_pos h1]
  have sp:=Hh (hn:=hn) (ls:=ls) (us:=us) (d:=d)
  dsimp only[D7,AS,Ay]at sp
  generalize hr:EB hn ls us d=r at *
  simp only[↓bdD,bdP,seval,Ao,st0,e_fcheck,Ac,Aa,ur,AJ,AO,AY,BG,h1,sp]
 rw [if_neg (λg=>g h1)]
 have sp:=Hh (hn:=hn) (ls:=ls) (us:=us) (d:=d)
 rw [h1]at sp
 dsimp only[D7,AS,Ay]at sp
 by_cases h2:4194304<d.2.2.1
 .rw [if_pos h2]
  simp only[↓bdD,bdP,seval,Ao,st0,e_fcheck,Ac,Aa,ur,ty3,AJ,AO,AY,BG,h2,sp]
 .rw [if_neg h2]
  simp only[↓bdD,bdP,seval,Ao,st0,e_fcheck,Ac,Aa,ur,ty3,AJ,AO,AY,BG,h2,sp]
theorem LO:AM pk e_pcheck.1 e_pcheck.2:=Ax λ⟨hn,ls,us,d⟩ h=>uK hn ls us d
abbrev Hi (y:List (List Int)):PV:=.lits 1 (y.map ints)
theorem Db {y:List (List Int)} {k:Nat} (h:k<y.length):nth (y.map ints) k=.lits 1 ((y.getD k []).map (PV.int .i64)):=BW [] h
theorem DB {y:List (List Int)}:AU (y.map ints)=true:=Gx λx=>by rw[Ln,G1]
theorem LP {y z:List (List Int)}:(y.map ints=z.map ints)=(y=z):=Gy λx y h=>by
 simp only[ints,s6,true_and]at h
 rwa [B7]at h
theorem jR {y:List (List Int)} (h:AK (y.map ints)) {k:Nat}:(y.getD k []).length<=9223372036854775807:=by
 induction y generalizing k with
 | nil=>simp
 | cons l y ih =>
  simp only[List.map_cons,AK,ints,s8]at h
  cases k with
  | zero=>simpa using h.1.1
  | succ k=>simpa using ih h.2 (k:=k)
abbrev Trp:=Int×Int×Int×Int×Int×Int×Int
abbrev dT:Trp:=(0,0,0,0,0,0,0)
abbrev VV (t:Trp):PV:=.agg [I t.1,I t.2.1,I t.2.2.1,I t.2.2.2.1,I t.2.2.2.2.1,I t.2.2.2.2.2.1,I t.2.2.2.2.2.2]
abbrev CU (l:List Trp):PV:=.lits 7 (l.map VV)
theorem Ef {l:List Trp} {k:Nat} (h:k<l.length):nth (l.map VV) k=.agg [I (l.getD k dT).1,I (l.getD k dT).2.1,I (l.getD k dT).2.2.1,I (l.getD k dT).2.2.2.1,I (l.getD k dT).2.2.2.2.1,I (l.getD k dT).2.2.2.2.2.1,I (l.getD k dT).2.2.2.2.2.2]:=BW dT h
theorem AC {l:List Trp}:AU (l.map VV)=true:=Gx λx=>by simp[HB,CX,Fo,Eu]
theorem Cq {l m:List Trp}:(l.map VV=m.map VV)=(l=m):=Gy λx y h=>by
 simp only[qr,ix,true_and,and_true,qt]at h
 obtain ⟨h1,h2,h3,h4,h5,h6,h7⟩:=h
 exact qu h1 (qu h2 (qu h3 (qu h4 (qu h5 (qu h6 h7)))))
end Sim
namespace Sim
open Go Go.Proofs Go.Shelf Go.RowKit Go.Lib Go.Sort
shelf_lay_g SlLaysF0.n14 Slsf 14 at Tryz 94 as Tryz.pdqS
end Sim
namespace Sim
def ltS (x y:Snd):Prop:=x.2.1<y.2.1\/(x.2.1=y.2.1/\x.1<y.1)
instance (x y:Snd):Decidable (ltS x y):=by unfold ltS;infer_instance
def jT (x:Snd):List Snd->List Snd
 | [] => [x]
 | y::l=>if ltS x y then x::y::l else y::jT x l
def KM:List Snd->List Snd
 | [] => []
 | x::l=>jT x (KM l)
def HR (l:List Snd):Prop:=l.Pairwise ltS
def DC (l:List Snd):Prop:=l.Pairwise λx y=>¬(x.2.1=y.2.1/\x.1=y.1)
theorem Ry {x y z:Snd} (h1:ltS x y) (h2:ltS y z):ltS x z:=by unfold ltS at *;omega
theorem jU {x y:Snd} (h:ltS x y):¬ltS y x:=by unfold ltS at *;omega
theorem Adt {x y:Snd} (h:¬(x.2.1=y.2.1/\x.1=y.1)) (g:¬ltS x y):ltS y x:=by unfold ltS at *;omega
theorem putS_perm {x:Snd}:∀ {l:List Snd},(jT x l).Perm (x::l)
 | []=>.refl _
 | y::l=>by
  simp only[jT]
  split
  .exact .refl _
  .exact (ut y putS_perm).trans (List.Perm.swap x y l)
theorem srtS_perm:∀ {l:List Snd},(KM l).Perm l
 | []=>.refl _
 | x::l=>putS_perm.trans (ut x srtS_perm)
theorem VW {x:Snd}:∀ {l:List Snd},HR l->(∀y∈l,¬(x.2.1=y.2.1/\x.1=y.1))->HR (jT x l)
 | [],_,_=>List.pairwise_singleton _ _
 | y::l,h,hk=>by
  unfold HR at *
  rw [lw]at h
  simp only[jT]
  by_cases c:ltS x y
  .rw [if_pos c,lw,lw]
   refine ⟨λz hz=>?_,h⟩
   rcases li.1 hz with rfl | hz
   .exact c
   .exact Ry c (h.1 z hz)
  .rw [if_neg c,lw]
   refine ⟨λz hz=>?_,VW h.2 λy' hy'=>hk y' (List.mem_cons_of_mem _ hy')⟩
   rcases li.1 (putS_perm.mem_iff.1 hz)with rfl | hz
   .exact Adt (hk y (List.mem_cons_self)) c
   .exact h.1 z hz
theorem LQ:∀ {l:List Snd},DC l->HR (KM l)
 | [],_=>l6
 | x::l,h=>by
  unfold DC at h
  rw [lw]at h
  exact VW (LQ h.2) λy hy=>h.1 y (srtS_perm.mem_iff.1 hy)
theorem Hj {l:List Snd} (h:HR l):DC l:=uu (λ{x y} h=>by unfold ltS at h;omega) h
section
variable {l m:List Snd}
theorem Rz (h:DC l) (p:m.Perm l):DC m:=(p.pairwise_iff (λ{x y} h e=>h ⟨e.1.symm,e.2.symm⟩)).2 h
theorem uL (hl:HR l) (hm:HR m) (p:l.Perm m):l=m :=
 List.Perm.eq_of_pairwise (le:=ltS) (λa b _ _ h1 h2=>absurd h2 (jU h1)) hl hm p
theorem Aj3 (hm:HR m) (p:l.Perm m):KM l=m :=
 uL (LQ (Rz (Hj hm) p)) hm (srtS_perm.trans p)
end
def leB (x y:Snd):Bool := !decide (ltS y x)
theorem leB_iff {x y:Snd}:leB x y=true↔¬ltS y x:=by simp[leB]
theorem jV {l:List Snd} (h:DC l):l.mergeSort leB=KM l:=by
 have hp:(l.mergeSort leB).Perm l:=List.mergeSort_perm l leB
 have hs:(l.mergeSort leB).Pairwise λa b=>leB a b=true:=by
  refine List.pairwise_mergeSort ?_ ?_ l
  .intro a b c h1 h2
   rw [leB_iff]at *
   unfold ltS at *;omega
  .intro a b
   simp only[Bool.or_eq_true]
   rw [leB_iff,leB_iff]
   unfold ltS;omega
 have hk:=Rz h hp
 have : HR (l.mergeSort leB):=by
  unfold HR DC at *
  have := hs.and hk
  exact uu (λ{x y} g=>by
   have g1:=leB_iff.1 g.1
   have g2:=g.2
   unfold ltS at *;omega) this
 exact uL this (LQ h) (hp.trans srtS_perm.symm)
end Sim
namespace Sim
open Go Go.Proofs Go.Shelf Go.RowKit Go.Lib Go.Sort
def QL (x y:Int):Int:=if x<y then -1 else if y<x then 1 else 0
def cfS (x y:Snd):Int:=if QL x.2.1 y.2.1≠0 then QL x.2.1 y.2.1 else QL x.1 y.1
theorem Aof (a b:Int) (w:World):Calls pk 81 #[.int .i64 a,.int .i64 b] w λe w'=>e=.returned (.int .i64 (QL a b))/\w'=w:=by
 go_enter Tryz.func81,Tryz.ntmps81
 go_wp2
 all_goals go_ret
 all_goals refine⟨?_,rfl⟩
 all_goals unfold QL
 all_goals first
  | (rw[if_pos (by omega)];rfl)
  | (rw[if_neg (by omega),if_pos (by omega)];rfl)
  | (rw[if_neg (by omega),if_neg (by omega)];rfl)
theorem or2 (a b r:Int) (g:Nat) (w:World) (h1:¬a=0->r=a) (h2:a=0->r=b) (ha:w.cell? ⟨g,0,none⟩=some (.int .i64 a)) (hb:w.cell? ⟨g,1,none⟩=some (.int .i64 b)) :
  Calls pk 80 #[.slice (some ⟨g,0,none⟩) 2 2] w λe' w'=>e'=.returned (.int .i64 r)/\w'=w:=by
 go_enter Tryz.func80,Tryz.ntmps80
 go_wp2
 refine wp_loop_rounds 3 ?_
 repeat any_goals (rw[rounds_succ];go_wp2)
 all_goals go_ret
 all_goals refine⟨?_,rfl⟩
 all_goals first
  | (show uv (.int .i64 a)=_;rw[h1 (by simp_all)])
  | (show uv (.int .i64 b)=_;rw[h2 (by simp_all)])
  | (show uv (.int .i64 0)=_;rw[h2 (by simp_all)];congr 2;simp_all)
theorem Agt (W:World) (c:Array Value) (t:TypeId) (o:Obj) (i:Nat):((W.alloc (.cells c t)).alloc o).cell? ⟨W.heap.size,i,none⟩=c[i]?:=by
 have h:((W.alloc (.cells c t)).alloc o).heap[W.heap.size]?=some (.cells c t):=by
  show ((W.heap.push _).push _)[W.heap.size]?=_
  rw [iw,if_neg (by simp),iw,if_pos rfl]
 unfold ah
 dsimp only
 rw [h];rfl
theorem Agu (W:World) (c:Array Value) (t:TypeId) (o:Obj) (i:Nat):((W.alloc o).alloc (.cells c t)).cell? ⟨W.heap.size+1,i,none⟩=c[i]?:=by
 have h:((W.alloc o).alloc (.cells c t)).heap[W.heap.size+1]?=some (.cells c t):=by
  show ((W.heap.push _).push _)[W.heap.size+1]?=_
  rw [iw,if_pos (by simp)]
 unfold ah
 dsimp only
 rw [h];rfl
theorem Agv (W:World) (c:Array Value) (t:TypeId) (i:Nat):(W.alloc (.cells c t)).cell? ⟨W.heap.size,i,none⟩=c[i]?:=by
 have h:(W.alloc (.cells c t)).heap[W.heap.size]?=some (.cells c t):=by
  show (W.heap.push _)[W.heap.size]?=_
  rw [iw,if_pos rfl]
 unfold ah
 dsimp only
 rw [h];rfl
theorem Anh (W:World) (o1 o2 o3:Obj):((W.alloc o1).alloc o2).drew.alloc o3=grow (W.drewN 1) #[o1,o2,o3]:=by
 repeat rw[alloc_eq_grow]
 repeat rw[grow_grow]
 rfl
set_option maxHeartbeats 4000000 in
theorem uM (x y:Snd) (W:World):Calls pk 79 #[.agg #[.int .i64 x.1,.int .i64 x.2.1,.int .i64 x.2.2],.agg #[.int .i64 y.1,.int .i64 y.2.1,.int .i64 y.2.2]] W λe w'=>e=.returned (.int .i64 (cfS x y))/\∃q os',w'=grow (W.drewN q) os':=by
 obtain ⟨a,b,c⟩:=x
 obtain ⟨d,e,f⟩:=y
 dsimp only at *
 go_enter Tryz.func79,Tryz.ntmps79
 go_wp2
 obtain ⟨w1,hw1⟩:∃w1,w1=(W.alloc (uw #[.int .i64 a,.int .i64 b,.int .i64 c] 55)).alloc (uw #[.int .i64 d,.int .i64 e,.int .i64 f] 55):=⟨_,rfl⟩
 rw [<-hw1]
 have c1:w1.cell? ⟨W.heap.size,0,none⟩=some (.int .i64 a):=by rw[hw1];exact Agt W _ _ _ _
 have c2:w1.cell? ⟨W.heap.size,1,none⟩=some (.int .i64 b):=by rw[hw1];exact Agt W _ _ _ _
 have c3:w1.cell? ⟨W.heap.size+1,0,none⟩=some (.int .i64 d):=by rw[hw1];exact Agu W _ _ _ _
 have c4:w1.cell? ⟨W.heap.size+1,1,none⟩=some (.int .i64 e):=by rw[hw1];exact Agu W _ _ _ _
 refine wp_region_still_tail 10 (by kernel_rfl) (by kernel_rfl) ?_
 simp only[List.take_succ_cons,List.take_zero,List.drop_succ_cons,List.drop_zero]
 generalize hd:({ heap:=w1.heap,tape:=w1.tape,drawn:=w1.drawn+1,os:=w1.os,output:=w1.output }:World)=w2
 have d1:w2.cell? ⟨W.heap.size,0,none⟩=some (.int .i64 a):=by rw[<-hd];exact c1
 have d2:w2.cell? ⟨W.heap.size,1,none⟩=some (.int .i64 b):=by rw[<-hd];exact c2
 have d3:w2.cell? ⟨W.heap.size+1,0,none⟩=some (.int .i64 d):=by rw[<-hd];exact c3
 have d4:w2.cell? ⟨W.heap.size+1,1,none⟩=some (.int .i64 e):=by rw[<-hd];exact c4
 clear c1 c2 c3 c4
 repeat (first | still_step | still_call (Aof _ _ _))
 refine wpStill_nil ?_
 clear d1 d2 d3 d4
 have hor:∀W',W'=w2.alloc (uw #[.int .i64 (QL b e),.int .i64 (QL a d)] 3)->Calls pk 80 #[.slice (some ⟨w2.heap.size,0,none⟩) 2 2] W' λe' w'=>e'=.returned (.int .i64 (cfS (a,b,c) (d,e,f)))/\w'=W':=by
  rintro W' rfl
  exact or2 _ _ (cfS (a,b,c) (d,e,f)) _ _ (λh=>by unfold cfS;rw[if_pos h]) (λh=>by unfold cfS;rw[if_neg (λg=>g h)]) (Agv _ _ _ 0) (Agv _ _ _ 1)
 go_wp2_with (go_at_call 80;refine (hor _ rfl).mono ?_;rintro e w' ⟨rfl,rfl⟩)
 go_ret
 refine ⟨rfl,1,#[.cells #[.int .i64 a,.int .i64 b,.int .i64 c] 55,.cells #[.int .i64 d,.int .i64 e,.int .i64 f] 55,.cells #[.int .i64 (QL b e),.int .i64 (QL a d)] 3],?_⟩
 rw [<-hd,hw1]
 exact Anh W _ _ _
theorem PF {x y:Snd}:cfS x y<0↔ltS x y:=by
 unfold cfS QL ltS
 repeat' split
 all_goals omega
abbrev QM (F:Int->Int->Int):={s:Snd // s.2.2=F s.1 s.2.1}
instance {F:Int->Int->Int}:Inhabited (QM F):=⟨⟨(0,0,F 0 0),rfl⟩⟩
def Adu (d:List Snd) (a b:Int):Int:=((d.find? λs=>decide (s.1=a/\s.2.1=b)).map (·.2.2)).getD 0
theorem Ani:∀ {d:List Snd},DC d->∀x∈d,x.2.2=Adu d x.1 x.2.1
 | [],_,x,hx=>by simp at hx
 | y::d,h,x,hx=>by
  unfold DC at h
  rw [lw]at h
  rcases li.1 hx with rfl | hx
  .simp [Adu]
  .have h1:=h.1 x hx
   have := Ani (d:=d) h.2 x hx
   unfold Adu at this ⊢
   rw [List.find?_cons_of_neg (by simp;omega)]
   exact this
set_option maxHeartbeats 2000000 in
theorem Anj {α:Type} [Inhabited α] (enc:α->List Value) (hk:∀x,(enc x).length=3) (h1:∀x,∀v∈enc x,v.oneCell'=true) (cf:α->α->Int) (hO:SWO (ltOf cf)) (hT:∀x y,(ltOf cf) x y=false->(ltOf cf) y x=false->x=y) (g:Nat) (blk off cap:Nat) (d:Array α) (w:World)
  (eg : ∀args w,(callFunc g args).run pk w=.ok (.enter g args) w) (hcmp:CmpLays pk g #[] enc 3 cf blk off d.size w) (hH:HoldsK enc 3 w blk off d) (hblk:blk<w.heap.size) (hsz:d.size<4611686018427387904) :
  Calls pk 78 #[.slice (some ⟨blk,off,none⟩) d.size cap,.func (.func g) #[] #[]] w λe w'=>e=.returned (.tuple #[])/\∃n os,w'=sortWorldK enc 3 w blk off n (d.toList.mergeSort λx y => !(ltOf cf) y x).toArray os:=by
 have hlim:ux d.size<4611686018427387904:=Nat.lt_of_le_of_lt (Lib.bitLen_le d.size 62 (by omega) (by omega)) (by omega)
 have hp:=AnyQ.pdqsortCmpFunc_all Tryz.pdqS 3 (by intro w;kernel_rfl) (by intro w;kernel_rfl) enc cf g #[] hO blk off cap d w eg hcmp ⟨hk,h1,hH,hblk⟩ (d.size+1) 0 d.size (ux d.size) d w (by omega) rfl (SWK.start hH) (Nat.zero_le _) (cg _) hsz hlim (Or.inl rfl)
 change Calls pk 94 _ _ _ at hp
 have hl:Calls pk 95 #[.int .u64 (d.size:Int)] w λe w'=>e=.returned (.int .i64 (ux d.size:Nat))/\w'=w:=by
  have h:=Any.bits_Len (uy (P:=pk) (ρ:=Tryz.pdqS_ren) { Tryz.pdqS with }) (d.size:Int) w (by omega) (by omega)
  rwa [pe]at h
 have wr:IntKind.u64.wrap (d.size:Int)=d.size:=by simp[IntKind.wrap,IntKind.bits,IntKind.signed];omega
 have hsr:=pdq_sorts (ltOf cf) hO d 0 d.size (ux d.size) true true (Nat.zero_le _) (cg _) (Or.inl rfl)
 clear hH hcmp hk h1
 go_enter Tryz.func78,uz
 go_wp2_with (first | (go_at_call 95;refine hl.mono ?_;rintro e w' ⟨rfl,rfl⟩) | (go_at_call 94;refine hp.mono ?_;rintro e w' ⟨rfl,n,os,rfl⟩))
 go_end0
 exact ⟨rfl,n,os,by rw[<-sorted_unique_holds hO hT d _ hsr.1 hsr.2]⟩
set_option maxHeartbeats 2000000 in
theorem Ank (p:Option Addr) (cap:Nat) (fv:Value) (w:World):Calls pk 78 #[.slice p 0 cap,fv] w λe w'=>e=.returned (.tuple #[])/\w'=w:=by
 have hp:∀lim W,Calls pk 94 _ W _:=λlim W=>AnyF.pdqsortCmpFunc_none Tryz.pdqS p cap lim fv W
 have hl:∀W,Calls pk 95 #[.int .u64 0] W λe w'=>e=.returned (.int .i64 (ux 0:Nat))/\w'=W:=λW=>by
  have h:=Any.bits_Len (uy (P:=pk) (ρ:=Tryz.pdqS_ren) { Tryz.pdqS with }) 0 W (by omega) (by omega)
  exact h
 go_enter Tryz.func78,uz
 go_wp2_with (first | (go_at_call 95;refine (hl _).mono ?_;rintro e w' ⟨rfl,rfl⟩) | (go_at_call 94;refine (hp _ _).mono ?_;rintro e w' ⟨rfl,rfl⟩))
 go_end0
 exact ⟨rfl,rfl⟩
def M9:List Snd->List PV:=λd=>d.map Ca
def YO:List Snd->List PV:=λd=>(KM d).map Ca
def uO:List Snd->Prop:=λd=>d.length<=1000000/\DC d
def e_sort:Nat×Ent:=(78,.s 3 79 (An M9 YO uO))
theorem Aj4:∀i j,M9 i=M9 j->i=j:=by
 intro i j h
 simp only[M9,AG]at h
 exact h
theorem Aj5 (d:List Snd):An M9 YO uO (d.map Ca)=@ite _ (d.length<=1000000/\DC d) (qo _) (some ((KM d).map Ca)) none:=Bs Aj4 d
def Aj6:Prop:=AM pk e_sort.1 e_sort.2
theorem Aj7:Aj6:=by
 refine Xg ⟨_,rfl,rfl,by kernel_rfl⟩ (λp cap fv w=>Ank p cap fv w) ?_
 rintro d ⟨hlen,hkey⟩
 have hF:=Ani hkey
 have hm:=jV hkey
 generalize Adu d=F at hF
 obtain ⟨d',rfl⟩:∃d':List (QM F),d'.map u0=d:=⟨d.attach.map λx=>⟨x.1,hF x.1 x.2⟩,by rw[u5];exact List.attach_map_subtype_val d⟩
 have hO:SWO (ltOf λx y:QM F=>cfS x.1 y.1):=⟨λx=>by simp only[ltOf,decide_eq_false_iff_not,PF,ltS];omega,λx y z=>by
   simp only[ltOf,decide_eq_true_eq,PF,ltS];omega,λx y z=>by
   simp only[ltOf,decide_eq_false_iff_not,PF,ltS];omega⟩
 have hT:∀x y:QM F,(ltOf λx y:QM F=>cfS x.1 y.1) x y=false->(ltOf λx y:QM F=>cfS x.1 y.1) y x=false->x=y:=λx y h1 h2=>by
   obtain ⟨⟨a,b,u⟩,hx⟩:=x;obtain⟨⟨d,e,v⟩,hy⟩:=y
   simp only[ltOf,decide_eq_false_iff_not,PF,ltS]at h1 h2
   have e1:a=d:=by omega
   have e2:b=e:=by omega
   dsimp only at hx hy
   subst e1;subst e2;subst hx;subst hy;rfl
 have key:=Abv (α:=QM F) (f:=78) (z:=3) (P:=pk) (by decide) (λx => [I x.1.1,I x.1.2.1,I x.1.2.2]) (λ_=>rfl) (λx c hc=>by
   simp at hc;rcases hc with rfl | rfl | rfl <;> rfl) (λx y=>cfS x.1 y.1) 79
  (λblk off cap d w hH hblk hsz=>Anj _ (λx=>rfl) (λx v hv=>by
   simp at hv;rcases hv with rfl | rfl | rfl <;> rfl) _ hO hT _ blk off cap d w (λargs w=>Fk ⟨_,rfl,rfl,by kernel_rfl⟩) (λm os dk hs x y=>uM x.1 y.1 _) hH hblk hsz) d' (by simp at hlen;omega)
 have e1:(d'.map u0).map Ca=d'.map λx=>PV.agg [I x.1.1,I x.1.2.1,I x.1.2.2]:=by rw[u5];rfl
 have e2:((d'.map u0).mergeSort leB).map Ca=(d'.mergeSort λx y => !(ltOf λx y:QM F=>cfS x.1 y.1) y x).map λx=>PV.agg [I x.1.1,I x.1.2.1,I x.1.2.2]:=by
  rw [<-List.map_mergeSort (r:=λx y:QM F => !(ltOf λx y:QM F=>cfS x.1 y.1) y x) (λa _ b _=>by
   unfold leB ltOf
   congr 1
   exact decide_eq_decide.2 PF),u5];rfl
 show VCS pk 78 79 3 _ _
 unfold M9 YO
 rw [e1,<-hm,e2]
 exact key
end Sim
namespace Sim
open Go Go.Proofs
attribute [local congr] Ah Ai Ag At Al Aj Aq
theorem uP {x:Lnk}:(FS x).scal=true:=by
 show (lkC x).all PV.scal1=true
 unfold lkC
 simp [PV.scal1]
def Je:List Snd->List PV:=λl => [Ay l]
def VX:List Snd->List PV:=λl=>l.map Ca
def VY:List Snd->Prop:=λl=>l.length<=2147483648
def e_cloneW:Nat×Ent:=(77,.a (3) (An Je VX VY))
theorem uQ:∀i j,Je i=Je j->i=j:=by
 rintro l₁ l₂ h
 simp only[Je,ix,and_true,s6,true_and,AG]at h
 first | exact h | omega | (simp[tn,h];done)
theorem uR (l:List Snd):An Je VX VY [Ay l]=@ite (Option (List PV)) (l.length<=2147483648) (qo _) (some (l.map Ca)) none:=Bs uQ l
def uS:Prop:=∀(l:List Snd) (h:l.length<=2147483648) ,VCA pk 77 [Ay l] (3) (l.map Ca)
theorem uT:uS:=by
 intro l hl
 refine NO AQ (l := []) (Au) [5] [] 0 0 Tryz.func77 rfl (by decide +kernel) (N:=8) rfl (by simp) rfl (by kernel_rfl) ?_ ?_
 .intro e he
  obtain ⟨x,_,rfl⟩:=oh.1 he
  rfl
 cases l with
 | nil =>
  simp only[↓bdD,bdP,seval,Ao,kp,kd,Tryz.f77,Ct,Lt,Ay]
  exact ⟨0,0,rfl,by simp[Ab]⟩
 | cons a l =>
  simp only[pg]at hl
  simp only[↓bdD,bdP,seval,Ao,kp,kd,Tryz.f77,Ct,Lt,hl,Ay]
  exact ⟨0,1,rfl,by simp[Ab]⟩
theorem uU:AM pk e_cloneW.1 e_cloneW.2:=HA λl h=>uT l h
def Jf:List Snd->List PV:=λl => [Ay l]
def VZ:List Snd->List PV:=λl=>l.map Ca
def V0:List Snd->Prop:=λl=>l.length<=2147483648
def e_cloneS:Nat×Ent:=(48,.a (3) (An Jf VZ V0))
theorem uV:∀i j,Jf i=Jf j->i=j:=by
 rintro l₁ l₂ h
 simp only[Jf,ix,and_true,s6,true_and,AG]at h
 first | exact h | omega | (simp[tn,h];done)
theorem PG (l:List Snd):An Jf VZ V0 [Ay l]=@ite (Option (List PV)) (l.length<=2147483648) (qo _) (some (l.map Ca)) none:=Bs uV l
def uW:Prop:=∀(l:List Snd) (h:l.length<=2147483648) ,VCA pk 48 [Ay l] (3) (l.map Ca)
theorem uX:uW:=by
 intro l hl
 refine NO AQ (l := []) (Au) [5] [] 0 0 Tryz.func48 rfl (by decide +kernel) (N:=8) rfl (by simp) rfl (by kernel_rfl) ?_ ?_
 .intro e he
  obtain ⟨x,_,rfl⟩:=oh.1 he
  rfl
 cases l with
 | nil =>
  simp only[↓bdD,bdP,seval,Ao,kp,kd,Tryz.f48,AO,Ct,Ay]
  exact ⟨0,0,rfl,by simp[Ab]⟩
 | cons a l =>
  simp only[pg]at hl
  simp only[↓bdD,bdP,seval,Ao,kp,kd,Tryz.f48,AO,Ct,hl,Ay]
  exact ⟨0,1,rfl,by simp[Ab]⟩
theorem V1:AM pk e_cloneS.1 e_cloneS.2:=HA λl h=>uX l h
def Jg:List Lnk->List PV:=λl => [AS l]
def V2:List Lnk->List PV:=λl=>l.map FS
def V3:List Lnk->Prop:=λl=>l.length<=2147483648
def e_cloneL:Nat×Ent:=(50,.a (50) (An Jg V2 V3))
theorem uY:∀i j,Jg i=Jg j->i=j:=by
 rintro l₁ l₂ h
 simp only[Jg,ix,and_true,s6,true_and,AF]at h
 first | exact h | omega | (simp[tn,h];done)
theorem V4 (l:List Lnk):An Jg V2 V3 [AS l]=@ite (Option (List PV)) (l.length<=2147483648) (qo _) (some (l.map FS)) none:=Bs uY l
def uZ:Prop:=∀(l:List Lnk) (h:l.length<=2147483648) ,VCA pk 50 [AS l] (50) (l.map FS)
theorem vA:uZ:=by
 intro l hl
 refine NO AQ (l := []) (Au) [5] [] 0 0 Tryz.func50 rfl (by decide +kernel) (N:=8) rfl (by simp) rfl (by kernel_rfl) ?_ ?_
 .intro e he
  obtain ⟨x,_,rfl⟩:=oh.1 he
  exact uP
 cases l with
 | nil =>
  simp only[↓bdD,bdP,seval,Ao,kp,kd,Tryz.f50,BP,CS,AS]
  exact ⟨0,0,rfl,by simp[Ab]⟩
 | cons a l =>
  simp only[pg]at hl
  simp only[↓bdD,bdP,seval,Ao,kp,kd,Tryz.f50,BP,CS,hl,AS]
  exact ⟨0,1,rfl,by simp[Ab]⟩
theorem vB:AM pk e_cloneL.1 e_cloneL.2:=HA λl h=>vA l h
def HT:List Snd->List PV:=λl => [Ay l]
def N5:List Snd->PV:=λl=>Ay (KM l)
def Z1:List Snd->Prop:=λl=>l.length<=1000000/\DC l
def e_order:Nat×Ent:=(49,.v (An HT N5 Z1))
theorem Adv:∀i j,HT i=HT j->i=j:=by
 rintro l₁ l₂ h
 simp only[HT,ix,and_true,s6,true_and,AG]at h
 first | exact h | omega | (simp[tn,h];done)
theorem Z2 (l:List Snd):An HT N5 Z1 [Ay l]=@ite (Option (PV)) (l.length<=1000000/\DC l) (qo _) (some (Ay (KM l))) none:=Bs Adv l
def Adw:Prop:=∀(l:List Snd) (h:l.length<=1000000/\DC l) ,VC pk 49 (HT l) (N5 l)
theorem Adx:Adw:=by
 rintro l ⟨hl,hk⟩
 dsimp only[HT,N5]
 refine Bd AQ (l := [e_cloneW,e_sort]) ((Ad uU (Ad Aj7 Au))) [] []  Tryz.func49 rfl (by decide +kernel) (N:=9) rfl (by simp) rfl (by kernel_rfl) λhs=>?_
 simp only[AK,s8,ow,and_true]at hs
 have hs1:=Aj5 l
 rw [if_pos ⟨hl,hk⟩]at hs1
 have hn:(KM l).length=l.length:=srtS_perm.length_eq
 generalize KM l=L at *
 have htk:List.take l.length (L.map Ca)=L.map Ca:=sa (by rw[ow];omega)
 have hl2:l.length<=2147483648:=by omega
 simp only[↓bdD,bdP,seval,Ao,st0,kp,kd,e_cloneW,uR,e_sort,Ac,Tryz.f49,Lt,Amt,hl2,hs1,hn,htk]
 done
theorem Z3:AM pk e_order.1 e_order.2:=Ax λl h=>Adx l h
end Sim
