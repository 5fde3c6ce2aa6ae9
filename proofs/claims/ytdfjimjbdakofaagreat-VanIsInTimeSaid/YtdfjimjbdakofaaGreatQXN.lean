/- Lemmas. -/
import Derived.Test.YtdfjimjbdakofaaGreatQUH
import Derived.Test.YtdfjimjbdakofaaGreatQF6
set_option maxRecDepth 10000
set_option maxHeartbeats 4000000
set_option linter.all false
open Go.IntKind renaming i64->nm
open Go.Proofs.Tryz renaming f37->xm
open Int renaming le_trans->qj
open List renaming getElem?_cons_zero->gp,getElem?_cons_succ->qx,getElem?_eq_some_iff->ab,getElem_map->wq,getElem_range->ws,length_map->ow,replicate->ba,nodup_append->xp,mem_append->kq
open Nat renaming mul_one->s4,reduceBEq->r8
open Option renaming some.injEq->bp
open Sim.PV renaming int->mt,nils->na
open Sim.Store renaming new->kp,set->kd
open Sim.TN renaming iniY->xo
open Sim.WF renaming upd->xn
noncomputable section
namespace Sim
open Go Go.Proofs
attribute [local congr] Ah Ai Ag At Al Aj Aq
theorem kV {v:PV}:Bi .nilf 0 [v]=v:=rfl
theorem xK {st:Store} {e:Int}:DR st (.tuple [.nils,.nils,I e]) (.tuple [Ay [],Hi [],I e]):=by
 refine .tuple _ _ rfl λi c d hc hd=>?_
 match i with
 | 0=>simp at hc hd;subst hc;subst hd;exact .nils _
 | 1=>simp at hc hd;subst hc;subst hd;exact .nils _
 | 2=>simp at hc hd;subst hc;subst hd;exact .pure _ rfl
 | n+3=>simp at hc
theorem Alh {hn:Int} {ls:List Lnk} {us:List Snd} {d:Dem} {l:List Snd} {M0:Nat} {yI:Nat->Nat} {st:Store} (c0:st.obj M0=some (.arr 0 1 (rwK yI (Ap d) hn.toNat (Ap d+1))))
  (rY : ∀t,t<Ap d+1->st.obj (yI t)=some (.arr 0 1 ((Cb hn.toNat λx=>min (IJ hn ls us d t x) (IJ hn ls us d (Ap d) d.2.1.toNat)).map (mt .i64)))) :
  DR st (.tuple [Ay l,.ref M0 0 0 (Ap d+1),I 0]) (.tuple [Ay l,Hi (Dq hn ls us d),I 0]):=by
 have ha:∀ {id:Nat} {es:List PV},st.obj id=some (.arr 0 1 es)->st.arr? id 0=some (1,es):=λ{id es} h=>by simp[Store.arr?,h]
 refine .tuple _ _ rfl λi c e hc he=>?_
 match i with
 | 0 =>
  simp only[gp,bp]at hc he
  subst hc;subst he
  exact .pure _ (by simp only[PV.pur];exact Ac)
 | 1 =>
  simp only[qx,gp,bp]at hc he
  subst hc;subst he
  have get:∀(i:Nat) (e q:PV),(rwK yI (Ap d) hn.toNat (Ap d+1))[0+i]?=some e->((Dq hn ls us d).map ints)[i]?=some q->i<Ap d+1/\e=.ref (yI i) 0 0 hn.toNat/\q=.lits 1 ((Cb hn.toNat λx=>min (IJ hn ls us d i x) (IJ hn ls us d (Ap d) d.2.1.toNat)).map (mt .i64)):=λi e q he hq=>by
   rw [Nat.zero_add]at he
   obtain ⟨hi,rfl⟩:=ab.1 he
   obtain ⟨hi2,rfl⟩:=ab.1 hq
   rw [H6]at hi
   refine ⟨by omega,?_,?_⟩
   .simp only[rwK,wq,ws]
    rw [if_pos hi]
   .simp only[Dq,wq,ws]
  refine .ref M0 0 0 (Ap d+1) 1 _ _ (ha c0) (by rw[H6];omega) (by simp[Dq]) (λi e q he hq=>?_) (λi e q he hq=>?_)
  .obtain ⟨_,rfl,rfl⟩:=get i e q he hq
   exact ⟨rfl,rfl⟩
  .obtain ⟨hi,rfl,rfl⟩:=get i e q he hq
   exact DR.arr (ha (rY i hi)) (by rw[ow,DD]) G1
 | 2 =>
  simp only[qx,gp,bp]at hc he
  subst hc;subst he
  exact .pure _ rfl
 | n+3=>simp at hc
def Gh:Int×List Lnk×List Snd×Dem->List PV:=λ(hn,ls,us,d) => [.agg [I hn,AS ls,Ay us,I d.1,I d.2.1,I d.2.2.1,I d.2.2.2.1,I d.2.2.2.2]]
def Me:Int×List Lnk×List Snd×Dem->PV:=λ(hn,ls,us,d)=>.tuple [Ay (if KW hn ls us d=0 then Da hn ls us d else []),Hi (if KW hn ls us d=0 then Dq hn ls us d else []),I (KW hn ls us d)]
def Wt:Int×List Lnk×List Snd×Dem->Prop:=λ(hn,ls,us,d)=>Ek hn ls us d=0->AV hn d<=268
def e_pprove:Nat×Ent:=(37,.v (An Gh Me Wt))
theorem xL:∀i j,Gh i=Gh j->i=j:=by
 rintro ⟨_,_,_,_⟩ ⟨_,_,_,_⟩ h
 simp only[Gh,List.cons.injEq,and_true,PV.lits.injEq,PV.int.injEq,PV.agg.injEq,true_and,AG,AF]at h
 simp [Prod.ext_iff,h] <;> omega
theorem xM (hn:Int) (ls:List Lnk) (us:List Snd) (d:Dem):An Gh Me Wt [.agg [I hn,AS ls,Ay us,I d.1,I d.2.1,I d.2.2.1,I d.2.2.2.1,I d.2.2.2.2]]=@ite (Option (PV)) (Ek hn ls us d=0->AV hn d<=268) (Classical.propDecidable _) (some (.tuple [Ay (if KW hn ls us d=0 then Da hn ls us d else []),Hi (if KW hn ls us d=0 then Dq hn ls us d else []),I (KW hn ls us d)])) none:=Bs xL (hn,ls,us,d)
def xN:Prop:=∀(hn:Int) (ls:List Lnk) (us:List Snd) (d:Dem) (h:Ek hn ls us d=0->AV hn d<=268) ,VC Tryz.prog 37 (Gh (hn,ls,us,d)) (Me (hn,ls,us,d))
theorem xO:xN:=by
 intro hn ls us d hN
 dsimp only[Gh,Me]
 refine OX [19] AQ (l := [e_pcheck,e_cheap,e_rept,e_Stock,e_runs,e_relax]) ((Ad LO (Ad ZZ (Ad Ak9 (Ad ZS (Ad YK (Ad Aer Au))))))) [] [100068,600079,100079,900090,100090,86,87,88] 1 1 Tryz.func37 rfl (by decide +kernel) (N:=366) rfl (by simp) rfl (by kernel_rfl) λhs=>?_
 simp only[AK,PV.small,ow,and_true,true_and]at hs
 by_cases h1:Ek hn ls us d=0
 case neg =>
  have e0:KW hn ls us d=Ek hn ls us d:=by unfold KW;rw[if_pos h1]
  rw [e0,if_neg h1,if_neg h1]
  generalize hr:Ek hn ls us d=r at *
  simp only[↓bdD,bdP,seval,Ao,kp,kd,e_pcheck,CA,e_cheap,e_rept,e_Stock,e_runs,e_relax,Ac,Aa,xm,BG,BM,↓AP,↓Lq,↓Ev,↓Ar,↓AH,h1,hr]
  exact xK
 have hN:=hN h1
 have e0:KW hn ls us d=DN hn ls us d:=by unfold KW;rw[if_neg (λg=>g h1)]
 rw [e0]
 have sc:=Tk (hn:=hn) (ls:=ls) (us:=us) (d:=d)
 dsimp only[AS,Ay,D7]at sc
 by_cases h2:DN hn ls us d=0
 case neg =>
  rw [if_neg h2,if_neg h2]
  generalize DN hn ls us d=r at *
  generalize Da hn ls us d=l at *
  simp only[↓bdD,bdP,seval,Ao,kp,kd,e_pcheck,CA,e_cheap,e_rept,e_Stock,e_runs,e_relax,Ac,Aa,xm,AJ,AO,AY,BG,BM,↓A6,↓AP,↓Lq,↓Ev,↓Ar,↓AH,h1,sc,h2]
  exact xK
 rw [h2,if_pos rfl,if_pos rfl]
 rw [h2]at sc
 obtain ⟨hfk,hb4⟩:=pck_zero.1 h1
 obtain ⟨_,hpl,hout⟩:=FZ h2
 obtain ⟨hf,hdm,hD,hdu⟩:=BL hfk
 obtain ⟨⟨a0,a1⟩,⟨c0,c1⟩,hr⟩:=BR hdm
 obtain ⟨r0,r1,r2,r3,r4⟩:=hr
 obtain ⟨oku,_⟩:=Cj hf
 have hll:=oku.net.len
 have hhn:=oku.net.houses
 have okl:=(serves_iff.1 hout.serves).ok
 have hln:=okl.len
 obtain ⟨lam,PH⟩:=Nj h2 hb4
 have hprv:Dq hn ls us d=(List.range (Ap d+1)).map λt=>Cb hn.toNat λx=>min (IJ hn ls us d t x) (IJ hn ls us d (Ap d) d.2.1.toNat):=rfl
 have hF:IJ hn ls us d=(AN hn ls us d).prvY (Ap d) d.1.toNat d.2.1.toNat 536870912 268435456 (gS (Da hn ls us d) d.2.2.2.1) (soM hn ls us (Da hn ls us d) d):=rfl
 have dr1:=@Alh hn ls us d
 generalize Dq hn ls us d=R1 at *
 generalize IJ hn ls us d=F at *
 generalize Da hn ls us d=l at *
 obtain ⟨h,hh⟩:∃h:Nat,hn.toNat=h:=⟨_,rfl⟩
 have hhi:hn=(h:Int):=by omega
 have w1:nm.wrap (d.2.2.2.2-d.2.2.2.1)=(Ap d:Int):=by rw[Af (by omega) (by omega)];omega
 have w2:nm.wrap ((Ap d:Int)+1)=((Ap d+1:Nat):Int):=by rw[Af (by omega) (by omega)];omega
 simp only[↓bdD,bdP,seval,kp,kd,e_pcheck,CA,e_cheap,e_rept,e_Stock,e_runs,e_relax,Ac,Aa,xm,AJ,AO,AY,BG,BM,Ff,↓A6,↓AP,↓AI,↓Lq,↓Ar,↓AH,h1,sc]
 refine Aw [9,49,50,51,52,53,54,55,56,57,58,59,60,61] l.length (λk ρ st'=>ρ 49=I k/\PvM d ((l.take k).map tkE) st') (.refl _) ?_ ?_
 .simp only[↓bdD,bdP]
  refine ⟨?_,?_,?_,?_,?_,by simp,λi o hi=>?_⟩
  .simp [Ab]
  .simp [Ab]
  .simp [Ab]
  .simp [Ab]
  .simp [Ab]
  .simp only[Ab]at hi
   dsimp only
   refine Classical.byContradiction λc=>?_
   simp [show ¬i=4 by omega,show ¬i=3 by omega,show ¬i=2 by omega,show ¬i=1 by omega,show ¬i<1 by omega]at hi
 rintro k ρ ⟨O,nx⟩ hk ⟨h49,hI⟩
 by_cases hlt:k<l.length
 .have hwk:=Cu (k:=k) (by omega)
  have hmp:=hI.b3
  have hcl:=hI.b4
  have hstep:=Ti okl hlt
  have e1:=okl.link k hlt
  have e2:=okl.tick k hlt
  generalize hx:l.getD k dS=x at *
  have hkey:=He (a:=x.1) (b:=x.2.1) (by omega) (by omega)
  dsimp only at hmp hcl
  have hnx:=hI.nx
  dsimp only at hnx
  have d1:¬3=nx:=by omega
  have d2:¬nx=3:=by omega
  have d3:¬4=nx:=by omega
  have d4:¬nx=4:=by omega
  simp only[↓bdD,bdP,seval,kp,kd,A7,ty3,AO,Ct,En,Ff,↓A6,↓AP,↓AI,↓Ar,↓AH,h49,hlt,hwk,hx,hmp,hcl,hkey,hstep,d1,d3,Av]
  exact hI.step
 have e:k=l.length:=by omega
 subst e
 rw [List.take_length]at hI
 obtain ⟨b0,b1,b2,b3,b4,b5,b6⟩:=hI
 dsimp only at b0 b1 b2 b3 b4 b5
 clear hk hlt
 obtain ⟨D,hDD⟩:∃D,Ap d=D:=⟨_,rfl⟩
 obtain ⟨D1,hD1⟩:∃D1,D+1=D1:=⟨_,rfl⟩
 rw [hDD]at hD w1 w2 hdu dr1 hF
 rw [hD1]at w2 dr1
 have hDi:(D1:Int)<=4294967296:=by omega
 have q1:¬0=nx:=by omega
 have q2:¬1=nx:=by omega
 have q3:¬nx=0:=by omega
 have q4:¬nx=1:=by omega
 have hre:Store.re ⟨O,nx⟩ 1 1 (ba D1 na) D1=some (.ref 0 1 0 D1,⟨Ab O 0 (some (.arr 1 1 (ba D1 na))),nx⟩):=uA (k:=0) b0
 simp only[↓bdD,bdP,seval,kp,kd,ty3,AY,AR,BM,↓AP,↓AI,↓Ci,↓Ar,↓AH,h49,b1,b2,w1,w2,hDi,q2,q4,hre]
 have p0:PvK D h nx (nx+1) 0 (λ_=>0) (λ_=>0) l d (λ_ _=>0) (λ_ _=>536870912) (Ab (Ab (Ab O 0 (some (.arr 1 1 (ba D1 na)))) nx (some (.arr 0 1 (ba D1 na)))) 1 (some (.arr 0 1 [.ref nx 0 0 D1]))) (nx+1):=by
  refine ⟨?_,?_,?_,?_,?_,?_,λt ht=>absurd ht (by omega),λt ht=>absurd ht (by omega),b5,λt ht=>absurd ht (by omega),λt ht=>absurd ht (by omega),λt s ht=>absurd ht (by omega),λt s ht=>absurd ht (by omega),λt s ht=>absurd ht (by omega),by omega,Nat.le_refl _⟩ <;> simp only[Ab]
  .rw [if_neg (by omega),if_neg (by omega),if_pos trivial,Ag0,hD1]
  .rw [if_pos trivial,hD1]
  .rw [if_neg (by omega),if_neg (by omega),if_neg (by omega)];exact b2
  .rw [if_neg (by omega),if_neg (by omega),if_neg (by omega)];exact b3
  .rw [if_neg (by omega),if_neg (by omega),if_neg (by omega)];exact b4
  .rw [if_neg (by omega),if_pos trivial,Ag0,hD1]
 have wf0:WF ⟨Ab (Ab (Ab O 0 (some (.arr 1 1 (ba D1 na)))) nx (some (.arr 0 1 (ba D1 na)))) 1 (some (.arr 0 1 [.ref nx 0 0 D1])),nx+1⟩ :=
  xn (nx:=nx+1) (xn (nx:=nx) (nx':=nx+1) (xn (nx:=nx) (nx':=nx) b6 (by omega) (by omega)) (by omega) (by omega)) (by omega) (by omega)
 generalize Ab (Ab (Ab O 0 (some (.arr 1 1 (ba D1 na)))) nx (some (.arr 0 1 (ba D1 na)))) 1 (some (.arr 0 1 [.ref nx 0 0 D1]))=O1 at *
 generalize hM0:nx=M0 at *
 refine Aw [11,74,75,76,77,78,79,80,81,82,83,84,85,86,87,88,89,90,91,92] D1 (λk ρ st'=>ρ 74=I k/\∃sI yI,PvK D h M0 st'.next k sI yI l d (λ_ _=>0) (λ_ _=>536870912) st'.obj st'.next/\WF st') (.refl _) ?_ ?_
 .simp only[↓bdD,bdP]
  exact ⟨_,_,p0,wf0⟩
 clear p0 wf0
 rintro k ρ2 ⟨O2,n2⟩ hk ⟨h74,sI,yI,p,wf2⟩
 dsimp only at p
 by_cases hlt:k<D1
 .have hwk:=Cu (k:=k) (by omega)
  have c0:=p.c0
  rw [hD1]at c0
  have cS:=p.cS
  have cY:=p.cY
  have hM5:=p.M5
  have hMn:=p.MB
  have hkl:k<(rwK sI D h k).length:=by rw[H6];omega
  have hkl2:k<(rwK yI D h k).length:=by rw[H6];omega
  have hki:(k:Int)<D1:=by omega
  have hki2:k<D1:=hlt
  have hrl1:(rwK sI D h k).length=D1:=by rw[H6,hD1]
  have hrl2:(rwK yI D h k).length=D1:=by rw[H6,hD1]
  have hn1:(h:Int)<=4294967296:=by omega
  have hn2:h<1001:=by omega
  have hkD:k<=D:=by omega
  have sr:An Ni YW YX [PV.lits 1 [I 536870912],I (h:Nat)]=some (ba h (I 536870912)):=by
   have := wX 536870912 h
   rw [if_pos hn2]at this
   exact this
  have e1:¬0=n2:=by omega
  have e2:¬1=n2:=by omega
  have e3:¬M0=n2:=by omega
  have e4:¬n2=0:=by omega
  have e5:¬n2=1:=by omega
  have e6:¬n2=M0:=by omega
  have e7:¬0=n2+1:=by omega
  have e8:¬1=n2+1:=by omega
  have e9:¬M0=n2+1:=by omega
  have f1:¬n2+1=0:=by omega
  have f2:¬n2+1=1:=by omega
  have f3:¬n2+1=M0:=by omega
  have f4:¬M0=0:=by omega
  have f5:¬0=M0:=by omega
  have f6:¬n2=n2+1:=by omega
  have f7:¬n2+1=n2:=by omega
  simp only[↓bdD,bdP,seval,↓A6,↓AP,↓AI,↓Ar,↓AH,h74,hlt,hki]
  refine Ym 7 12 (by rfl) (by kernel_rfl) ?_ ?_
  .simp only[↓bdD,bdP,seval,kp,kd,s4,ty3,AJ,AR,BG,BM,↓Ar,h74,hwk,c0,cS,cY,hki,hki2,hrl1,hrl2,hhi,hn1,sr,e1,e3,e9,f4,We hkD]
   refine ⟨_,_,p.add hkD (a:=n2) (b:=n2+1) (by omega) (by omega) (by omega) ?_ ?_ ?_ ?_ (λi h1 h2 h3=>?_),xn (nx:=n2+2) (nx':=n2+2) (xn (nx:=n2+2) (nx':=n2+2) (xn (nx:=n2+1) (nx':=n2+2) (xn (nx:=n2) (nx':=n2+1) wf2 (by omega) (by omega)) (by omega) (by omega)) (by omega) (by omega)) (by omega) (by omega)⟩ <;> simp only[Ab]
   .rw [if_neg (by omega),if_pos trivial]
   .rw [if_pos trivial]
   .rw [if_neg (by omega),if_neg (by omega),if_neg (by omega),if_pos trivial,H7]
   .rw [if_neg (by omega),if_neg (by omega),if_pos trivial,H7]
   .rw [if_neg (by omega),if_neg (by omega),if_neg (by omega),if_neg (by omega)]
  .simp only[atO,Qq,List.length_cons,List.length_nil,Nat.reduceAdd,show List.range 17 = [0,1,2,3,4,5,6,7,8,9,10,11,12,13,14,15,16] from rfl,List.flatMap_cons,List.flatMap_nil,Nat.reduceEqDiff,if_false,if_true,List.cons_append,List.nil_append,List.append_nil,List.filterMap_cons,List.filterMap_nil,List.getElem?_toArray,qx,gp,Nat.reduceLT]
   simp only[↓bdD,bdP,seval,kp,kd,s4,ty3,AJ,AR,BG,BM,↓Ar,h74,hwk,c0,cS,cY,hki,hki2,hrl1,hrl2,hhi,hn1,sr,e1,e3,e9,f4,We hkD]
   refine ⟨_,_,p.add hkD (a:=n2+1) (b:=n2) (by omega) (by omega) (by omega) ?_ ?_ ?_ ?_ (λi h1 h2 h3=>?_),xn (nx:=n2+2) (nx':=n2+2) (xn (nx:=n2+2) (nx':=n2+2) (xn (nx:=n2+1) (nx':=n2+2) (xn (nx:=n2) (nx':=n2+1) wf2 (by omega) (by omega)) (by omega) (by omega)) (by omega) (by omega)) (by omega) (by omega)⟩ <;> simp only[Ab]
   .rw [if_neg (by omega),if_pos trivial]
   .rw [if_pos trivial]
   .rw [if_neg (by omega),if_neg (by omega),if_pos trivial,H7]
   .rw [if_neg (by omega),if_neg (by omega),if_neg (by omega),if_pos trivial,H7]
   .rw [if_neg (by omega),if_neg (by omega),if_neg (by omega),if_neg (by omega)]
 have e:D1=k:=by omega
 subst e
 clear hk hlt
 have hll1:∀f:Nat->Nat,(rwK f D h D1).length=D1:=λf=>by rw[H6,hD1]
 have htk:∀i,i<l.length->d.2.2.2.1<=(l.getD i dS).2.1/\(l.getD i dS).2.1<d.2.2.2.2:=hout.ticks
 have hzr:=right_zero.2 okl
 have hstk:∀(x t:Nat),x<h->t<D1->EA hn ls l d (x:Int) (d.2.2.2.1+(t:Int))=(Ba ls l d (x:Int) (d.2.2.2.1+(t:Int)),0):=λx t hx ht=>by
  unfold EA
  rw [if_neg (λg=>g hzr),if_neg]
  rintro (g | g | g | g)
  .rw [hdm]at g;cases g
  .simp only[hOK,decide_eq_false_iff_not]at g
   omega
  .omega
  .omega
 have sk:∀(x t:Nat),x<h->t<D1->An GF LH AZ [.agg [I hn,.lits 50 (ls.map FS)],.lits 3 (l.map Ca),.agg [I d.1,I d.2.1,I d.2.2.1,I d.2.2.2.1,I d.2.2.2.2],I (x:Nat),I (d.2.2.2.1+(t:Int))]=some (.tuple [I (Ba ls l d (x:Int) (d.2.2.2.1+(t:Int))),I 0]):=λx t hx ht=>by
  have := Tf (hn:=hn) (ls:=ls) (l:=l) (d:=d) (at_:=(x:Int)) (tick:=d.2.2.2.1+(t:Int))
  rw [hstk x t hx ht]at this
  exact this
 have cS0:=p.cS
 simp only[↓bdD,bdP,seval,BM,↓AP,↓AI,↓Ci,↓Ar,↓AH,h74,cS0]
 refine Aw [12,13,95,96,97,98,99,100,101,102,103,104,105,106,107,108,109,110,111,112,113,114,115,116,117,118,119,120,121,122,123,124,125,126] D1 (λt ρ st'=>ρ 95=I t/\∃B,PvK D h M0 B D1 sI yI l d (λs z=>if s<t then Ba ls l d (z:Int) (d.2.2.2.1+(s:Int))else 0) (λ_ _=>536870912) st'.obj st'.next/\WF st') (.refl _) ?_ ?_
 .simp only[↓bdD,bdP]
  exact ⟨n2,p,wf2⟩
 clear p cS0 wf2
 rintro t ρ3 ⟨O3,n3⟩ ht ⟨h95,B,p,wf3⟩
 dsimp only at p
 by_cases hlt:t<D1
 .have hwt:=Cu (k:=t) (by omega)
  have cS:=p.cS
  have c1:=p.c1
  have rS:=p.rS t hlt
  have hM5:=p.M5
  have hMB:=p.MB
  have hti:(t:Int)<D1:=by omega
  have hnt:=Eg (f:=sI) (D:=D) (h:=h) (k:=D1) (t:=t) (by omega) hlt
  have hwr:nm.wrap (d.2.2.2.1+(t:Int))=d.2.2.2.1+(t:Int):=Af (by omega) (by omega)
  have hrl:∀f,((Cb h f).map (mt .i64)).length=h:=λf=>by rw[ow,DD]
  simp only[↓bdD,bdP,seval,AR,BM,↓A6,↓AP,↓AI,↓Ar,↓AH,h95,hlt,hti,cS,rS,hnt,hll1]
  refine Aw [13,103,104,105,106,107,108,109,110,111,112,113,114,115,116,117,118,119,120,121,122,123,124,125] h (λx ρ st'=>ρ 103=I x/\∃B,PvK D h M0 B D1 sI yI l d (λs z=>if s<t\/(s=t/\z<x)then Ba ls l d (z:Int) (d.2.2.2.1+(s:Int))else 0) (λ_ _=>536870912) st'.obj st'.next/\WF st') (.refl _) ?_ ?_
  .simp only[↓bdD,bdP]
   exact ⟨B,p.eqS λs z hs hz=>by
    by_cases e:s<t
    .rw [if_pos e,if_pos (.inl e)]
    .rw [if_neg e,if_neg (by omega)],wf3⟩
  clear p cS c1 rS wf3
  rintro x ρ4 ⟨O4,n4⟩ hx ⟨h103,B4,p,wf4⟩
  dsimp only at p
  by_cases hxh:x<h
  .have hwx:=Cu (k:=x) (by omega)
   generalize hso:(λs z=>if s<t\/(s=t/\z<x)then Ba ls l d (z:Int) (d.2.2.2.1+(s:Int))else 0)=so4 at p
   have cS:=p.cS
   have c1:=p.c1
   have rS:=p.rS t hlt
   have hxi:(x:Int)<h:=by omega
   have hsI:=p.iS t hlt
   have hnx:=p.nx
   have skx:=sk x t hxh hlt
   have g1:¬sI t=0:=by omega
   have g2:¬sI t=2:=by omega
   have hru:=L9 (h:=h) (x:=x) (f:=so4 t) (v:=Ba ls l d (x:Int) (d.2.2.2.1+(t:Int))) hxh
   simp only[↓bdD,bdP,seval,kd,Ac,Aa,ty3,AJ,AO,AY,AR,BG,BM,↓A6,↓AP,↓AI,↓Ar,↓AH,h103,hti,hxh,hxi,hwx,cS,c1,rS,hnt,hll1,hrl,hwr,skx,hru]
   refine ⟨B4,(p.so' hlt _).eqS λs z hs hz=>?_,xn (nx:=n4) (nx':=n4) wf4 (by omega) (by omega)⟩
   have hv:so4 s z=if s<t\/(s=t/\z<x)then Ba ls l d (z:Int) (d.2.2.2.1+(s:Int))else 0:=by rw[<-hso]
   by_cases e:s=t
   .subst e
    rw [if_pos rfl,hv]
    by_cases e2:z=x
    .subst e2;rw[if_pos rfl,if_pos (.inr ⟨rfl,by omega⟩)]
    .rw [if_neg e2]
     by_cases c:z<x
     .rw [if_pos (.inr ⟨rfl,c⟩),if_pos (.inr ⟨rfl,by omega⟩)]
     .rw [if_neg (by omega),if_neg (by omega)]
   .rw [if_neg e,hv]
    by_cases c:s<t
    .rw [if_pos (.inl c),if_pos (.inl c)]
    .rw [if_neg (by omega),if_neg (by omega)]
  .have e:h=x:=by omega
   subst e
   have hwt':nm.wrap ((t:Int)+1)=((t+1:Nat):Int):=hwt
   simp only[↓bdD,bdP,seval,↓AP,↓Ci,↓Ar,↓AH,h95,h103,hwt']
   refine ⟨?_,B4,p.eqS λs z hs hz=>?_,wf4⟩
   .rw [AL (by decide +kernel)]
    simp only[↓bdD,bdP,r8]
   .by_cases c:s<t+1
    .rw [if_pos c,if_pos (by omega)]
    .rw [if_neg c,if_neg (by omega)]
 have e:t=D1:=by omega
 rw [e]at h95 p
 clear ht hlt e
 have p:=p.eqS (so':=soS ls l d []) λs z hs hz=>by rw[if_pos hs];unfold soS;simp
 have c2:=p.c2
 have c3:=p.c3
 simp only[↓bdD,bdP,seval,kp,Ff,↓AP,↓AI,↓Ci,↓Ar,↓AH,h95,c2,c3]
 have hB3:=p.nx
 have wf4:WF ⟨Ab O3 n3 (some (.it (some (3,0)) l.length [])),n3+1⟩:=xn (nx:=n3) wf3 (by omega) (by omega)
 have p4:=p.of (O':=Ab O3 n3 (some (.it (some (3,0)) l.length []))) (nx':=n3+1) (λi hi=>by simp only[Ab];rw[if_neg (by omega)]) (by omega)
 have i4:Ab O3 n3 (some (.it (some (3,0)) l.length [])) n3=some (.it (some (3,0)) l.length []):=by simp[Ab]
 generalize Ab O3 n3 (some (.it (some (3,0)) l.length []))=O4 at *
 clear p c2 c3 wf3
 refine Aw [14,15,16,129,130,131,132,133,134,135,136,137,138,139,140,141,142,143,144,145,146,147,148,149,150,151,152,153,154,155,156,157,158,159,160,161,162,163] l.length (λi ρ st'=>∃seen,seen.length=i/\seen.Nodup/\(∀j∈seen,j<l.length)/\PvK D h M0 B D1 sI yI l d (soS ls l d seen) (λ_ _=>536870912) st'.obj st'.next/\WF st'/\st'.obj n3=some (.it (some (3,0)) l.length seen)/\n3<st'.next) (.refl _) ?_ ?_
 .exact ⟨[],rfl,List.nodup_nil,by simp,p4,wf4,i4,by simp⟩
 clear p4 wf4 i4
 rintro i ρ4 ⟨O5,n5⟩ hi ⟨seen,hsl,hsn,hsm,p,wf5,hit,hn35⟩
 dsimp only at p hit hn35
 have c2:=p.c2
 have c1:=p.c1
 simp only[AP,Ar,rQ,r8,iH]
 conv => arg 2;simp only[↓bdD,bdP,seval,Ao,st0,kp,kd,e_pcheck,CA,e_cheap,Tk,e_rept,wX,e_Stock,Tf,e_runs,Tj,e_relax,aH,LA,Ab7,ER,sM,A7,Ac,Cg,Aa,BK,IA,Pg,Fp,HI,C8,ZA,s4,Db,DB,xm,ty3,ty4,BP,AJ,AO,AY,AR,An8,Ct,BG,BM,OY,CS,En,Fe,Ff,NE,Lu,↓A6,↓AP,↓AI,↓Lq,↓Vw,↓Ci,↓Ev,↓Ar,↓AH,Vx,rQ]
 rw [X9 hit c2]
 refine ⟨by simp,λhse=>?_,λj k v hjk hns=>?_⟩
 .have p := p.eqS (so':=soM hn ls us l d) λs z _ _=>Aev okl a0 (λi hi=>(htk i hi).1) hsn hsm hse s z
  clear hsn hsm hse hsl hit
  obtain ⟨fa,hfa⟩:∃u,d.1.toNat=u:=⟨_,rfl⟩
  obtain ⟨fc,hfc⟩:∃u,d.2.1.toNat=u:=⟨_,rfl⟩
  have hfah:fa<h:=by omega
  have hfch:fc<h:=by omega
  have h0D:0<D1:=by omega
  have hDD1:D<D1:=by omega
  have k0:=p.c0
  rw [hD1]at k0
  have cY:=p.cY
  have rYD:=p.rY D hDD1
  have wD:nm.wrap ((D1:Int)-1)=(D:Int):=by rw[Af (by omega) (by omega)];omega
  have hDi1:(D:Int)<D1:=by omega
  have hDi0:(0:Int)<D1:=by omega
  have hai:d.1<(h:Int):=by omega
  have hci:d.2.1<(h:Int):=by omega
  have hnD:=Eg (f:=yI) (D:=D) (h:=h) (k:=D1) (t:=D) (by omega) hDD1
  have hn0:=Eg (f:=yI) (D:=D) (h:=h) (k:=D1) (t:=0) (by omega) h0D
  have hrl:∀f,((Cb h f).map (mt .i64)).length=h:=λf=>by rw[ow,DD]
  have hru:=L9 (h:=h) (x:=fc) (f:=λ_=>536870912) (v:=268435456) hfch
  have hM5':=p.M5
  have hMB':=p.MB
  have hBn:=p.nx
  have hyD:=p.iY D hDD1
  have hy0:=p.iY 0 h0D
  have p1:=p.y' hDD1 λz=>if z=fc then 268435456 else 536870912
  generalize hY1:(λs=>if s=D then λz=>if z=fc then 268435456 else 536870912 else (λ(_:Nat)=>(536870912:Int)))=Y1 at p1
  have rY0:=p1.rY 0 h0D
  have wf6:WF ⟨Ab O5 (yI D) (some (.arr 0 1 ((Cb h λz=>if z=fc then 268435456 else 536870912).map (mt .i64)))),n5⟩:=xn (nx:=n5) wf5 (by omega) (by omega)
  have c1':=p1.c1
  have c0':=p1.c0
  rw [hD1]at c0'
  have cY':=p1.cY
  generalize hO6:Ab O5 (yI D) (some (.arr 0 1 ((Cb h λz=>if z=fc then 268435456 else 536870912).map (mt .i64))))=O6 at *
  have p2:=p1.y' h0D λz=>if z=fa then 0 else Y1 0 z
  have hru2:=L9 (h:=h) (x:=fa) (f:=Y1 0) (v:=0) hfah
  have wf7:WF ⟨Ab O6 (yI 0) (some (.arr 0 1 ((Cb h λz=>if z=fa then 0 else Y1 0 z).map (mt .i64)))),n5⟩:=xn (nx:=n5) wf6 (by omega) (by omega)
  have hsetc:=Hm (h:=h) (x:=fc) (f:=λ_=>536870912) (v:=268435456) hfch
  have hseta:=Hm (h:=h) (x:=fa) (f:=Y1 0) (v:=0) hfah
  have hv:∀s z,Y1 s z=if s=D/\z=fc then 268435456 else 536870912:=λs z=>by
   rw [<-hY1]
   dsimp only
   by_cases e3:s=D
   .rw [if_pos e3]
    by_cases e4:z=fc
    .rw [if_pos e4,if_pos ⟨e3,e4⟩]
    .rw [if_neg e4,if_neg (λg=>e4 g.2)]
   .rw [if_neg e3,if_neg (λg=>e3 g.1)]
  have p2:=p2.eqY (Y':=xo D fa fc 536870912 268435456) λs z hs hz=>by
   unfold xo
   by_cases e:s=0
   .subst e
    rw [if_pos rfl]
    by_cases e2:z=fa
    .rw [if_pos e2,if_pos ⟨rfl,e2⟩]
    .rw [if_neg e2,if_neg (λg=>e2 g.2),hv]
   .rw [if_neg e,if_neg (λg=>e g.1),hv]
  generalize hO7:Ab O6 (yI 0) (some (.arr 0 1 ((Cb h λz=>if z=fa then 0 else Y1 0 z).map (mt .i64))))=O7 at *
  simp only[↓bdD,bdP,seval,kd,ty3,AY,AR,BM,↓AP,↓AI,↓Vw,↓Ci,↓Ar,↓AH,k0,c1,cY,rYD,wD,hDi1,hDi0,hai,hci,a0,c0,hfa,hfc,hfah,hfch,hnD,hn0,hrl,hll1,hru,hO6,c0',c1',cY',rY0,hru2,hO7]
  clear hsetc hseta hru hru2 rY0 rYD wf6 hO6 hO7 cY' cY k0 c1' c0' p1 hv
  have hN1:AV hn d=(D+1)*h:=by unfold AV;rw[hDD,hh]
  rw [hN1]at hN
  obtain ⟨T,hT⟩:∃T,AN hn ls us d=T:=⟨_,rfl⟩
  have okT:=Ee (hn:=hn) (ls:=ls) (us:=us) (r:=d.2.2.2.1) (D:=D) hf
  have hTh:T.h=h:=by rw[<-hT,<-hh];rfl
  have hTL:T.L=ls.length:=by rw[<-hT];rfl
  have hTf:∀k,T.fr k=(ls.getD k dL).1.toNat:=λk=>by rw[<-hT];rfl
  have hTt:∀k,T.to k=(ls.getD k dL).2.1.toNat:=λk=>by rw[<-hT];rfl
  have hTl:∀k t,T.lf k t=lfM ls us (k:Nat) (d.2.2.2.1+(t:Int)):=λk t=>by rw[<-hT];rfl
  have hTp:∀k t,T.pr k t=Dk ls (k:Nat) (d.2.2.2.1+(t:Int)):=λk t=>by rw[<-hT];rfl
  rw [show IH hn ls us d.2.2.2.1=T from hT]at okT
  have hLam:=PH.ok
  have hlam0:=PH.l0
  have hlamle:=PH.le
  have hnn:=PH.nn
  rw [hT,hDD]at hLam
  rw [hfa]at hlam0
  rw [hDD,hh,hN1]at hlamle
  have hlamb:∀t x,t<=D->x<h->lam t x<=268435456:=λt x ht hx=>by have:=hlamle t x ht hx;omega
  rw [hT,hfa,hfc]at hF
  obtain ⟨hPR,hFix,hFnn⟩:=TN.prv_ok (T:=T) (D:=D) (a:=fa) (c:=fc) (b:=d.2.2.1) (mx:=536870912) (far:=268435456) hLam hnn (by rw[hlam0];exact Int.le_refl _) (hlamb D fc (Nat.le_refl _) hfch) (λt x ht hx=>by have:=hlamb t x ht (by rw[<-hTh];exact hx);omega) (by decide) (by decide) (λk t hk ht=>(okT.pr k t hk ht).1) (λt x ht hx=>by unfold soM;rw[hT,hfa]) (by rw[hTh];exact hfch)
  rw [<-hF]at hPR hFix hFnn
  have hlow0:T.Low D lam (xo D fa fc 536870912 268435456):=λt x ht hx=>by
   rw [hTh]at hx
   have := hlamb t x ht hx
   unfold xo
   split
   .rename_i g;rw[g.1,g.2,hlam0];exact Int.le_refl _
   .split <;> omega
  have hle0:∀t x,xo D fa fc 536870912 268435456 t x<=536870912:=λt x=>by
   unfold xo
   split
   .omega
   .split <;> omega
  obtain ⟨g,hg⟩:∃g,gS l d.2.2.2.1=g:=⟨_,rfl⟩
  obtain ⟨so,hso⟩:∃so,soM hn ls us l d=so:=⟨_,rfl⟩
  rw [hg,hso]at hLam hPR
  rw [hso]at p2
  refine Et [17,18,19,20,21,22,179,180,181,183,184,185,186,187,188,189,190,191,192,193,194,195,196,197,198,199,200,201,202,203,204,205,206,207,208,209,210,211,212,213,214,215,216,217,218,219,220,221,222,223,224,225,226,227,228,229,230,231,232,233,234,235,236,237,238,239,240,241,242,243,244,245,246,247,248,249,250,251,252,253,254,255,256,257,258,259,260,261,262,263,264,265,266,267,268,269,270,271,272,273,274,275,276,277,278,279,280,281,282,283,284,285,286,287,288,289,290,291,292,293,294,295,296,297,298,299,300,301,302,303,304,305,306,307,308,309,310,311,312,313,314,315,316,317,318,319,320,321,322,323,324,325,326,327,328,329] (T.ms D (xo D fa fc 536870912 268435456)).toNat (λm ρ st'=>∃Y,m=(T.ms D Y).toNat/\T.PrvR D 536870912 g so Y F/\T.Low D lam Y/\(∀t x,Y t x<=536870912)/\PvK D h M0 B D1 sI yI l d so Y st'.obj st'.next) (.refl _) ?_ ?_
  .exact ⟨_,rfl,hPR,hlow0,hle0,p2⟩
  clear p2 hPR hlow0 hle0 wf7
  rintro m ρ5 ⟨O8,n8⟩ ⟨Y,rfl,hR,hlow,hle,p⟩
  dsimp only at p
  have hRel:=TN.rnd_rel (mx:=536870912) hLam (y:=Y)
  have k1:=p.c1
  have hM5':=p.M5
  have hMB':=p.MB
  have hBn:=p.nx
  obtain ⟨O9,hO9⟩:∃O9:Nat->Option IObj,Ab (Ab O8 n8 (some (.arr 0 1 [.bool false]))) (n8+1) (some (.arr 0 1 [.func (.func 65) [] [.ptr n8 0 0 0]]))=O9:=⟨_,rfl⟩
  have sp:=Tj ⟨hn,ls,us,d⟩ (st:=⟨Ab (Ab O8 n8 (some (.arr 0 1 [.bool false]))) (n8+1) (some (.arr 0 1 [.func (.func 65) [] [.ptr n8 0 0 0]])),n8+1+1⟩) hf
  simp only[DM]at sp
  rw [hO9]at sp
  simp only[↓bdD,bdP,seval,kp,kd,Ac,Aa,ty4,BG,Lu,↓AP,↓AI,↓Ar,Vx,Av,kV,hO9,sp]
  have hOB:∀i,i<B->rnO O9 (n8+1+1) us i=O8 i:=λi hi=>by
   unfold rnO
   rw [if_neg (by omega),if_neg (by omega),<-hO9]
   simp only[Ab]
   rw [if_neg (by omega),if_neg (by omega)]
  have p9:=p.of hOB (nx':=n8+1+1+2) (by omega)
  have e1:rnO O9 (n8+1+1) us n8=some (.arr 0 1 [.bool false]):=by
   unfold rnO
   rw [if_neg (by omega),if_neg (by omega),<-hO9]
   simp only[Ab]
   rw [if_neg (by omega),if_pos trivial]
  have e2:rnO O9 (n8+1+1) us (n8+1)=some (.arr 0 1 [.func (.func 65) [] [.ptr n8 0 0 0]]):=by
   unfold rnO
   rw [if_neg (by omega),if_neg (by omega),<-hO9]
   simp only[Ab]
   rw [if_pos trivial]
  have e3:rnO O9 (n8+1+1) us (n8+1+1)=some (.map 0 (.ints 2) (us.map tkE)):=by
   unfold rnO;rw[if_pos rfl]
  have e4:rnO O9 (n8+1+1) us (n8+1+1+1)=some (.arr 0 1 [.mref (n8+1+1) 0]):=by
   unfold rnO;rw[if_neg (by omega),if_pos rfl]
  generalize rnO O9 (n8+1+1) us=O10 at *
  clear p hOB hO9
  have hyr:=YL (hn:=hn) (M:=n8+1+1) (D:=D) hf hdu r2 r4
  refine HF (ys:=LK ls us d.2.2.2.1 D) (f:=85) (first := []) (captured := [frP hn ls us d,.ptr (n8+1+1+1) 0 0 0]) rfl rfl (A8 rfl) ?_ hyr rfl ?_ (by kernel_rfl) (by kernel_rfl)
   (λi st'=>PvK D h M0 B D1 sI yI l d so (T.pass1 536870912 g ⟨Y,false⟩ i).y st'.obj st'.next/\(st'.obj n8=some (.arr 0 1 [.bool (T.pass1 536870912 g ⟨Y,false⟩ i).ch])/\n8<st'.next)/\(st'.obj (n8+1)=some (.arr 0 1 [.func (.func 65) [] [.ptr n8 0 0 0]])/\n8+1<st'.next)/\(st'.obj (n8+1+1)=some (.map 0 (.ints 2) (us.map tkE))/\n8+1+1<st'.next)/\(st'.obj (n8+1+1+1)=some (.arr 0 1 [.mref (n8+1+1) 0])/\n8+1+1+1<st'.next)) (λe st'=>False) ?_ ?_ ?_ ?_ ?_ ?_ ?_ ?_
  .simp only[↓bdD,bdP]
  .exact PZ
  .exact λi=>.and (λst st' h hL=>h.later hL) (.and (.obj λ_=>by simp) (.and (.obj λ_=>by simp) (.and (.obj λ_=>by simp) (.obj λ_=>by simp))))
  .exact λe=>Stays.const
  .exact ⟨p9,⟨e1,by dsimp only;omega⟩,⟨e2,by dsimp only;omega⟩,⟨e3,by dsimp only;omega⟩,⟨e4,by dsimp only;omega⟩⟩
  .exact λi st' h=>⟨h.2.2.2.1.1,h.2.2.2.2.1⟩
  .rintro i v ⟨O11,n11⟩ id lr hv hid hlp ⟨q,⟨g1,_⟩,⟨g2,_⟩,⟨g3,_⟩,⟨g4,hn11⟩⟩
   obtain ⟨hi,rfl⟩:=TC hv
   dsimp only at hid hlp q g1 g2 g3 g4 hn11
   obtain ⟨htD,hkL⟩:=TN.idx_lt (i:=i) hi
   have hRi:=TN.pass1_rel (mx:=536870912) hLam (s:=⟨Y,false⟩) (n:=i) (by rw[hTL];exact Nat.le_of_lt hi)
   have hsucc:T.pass1 536870912 g ⟨Y,false⟩ (i+1)=T.stD 536870912 g (T.stU 536870912 g (T.pass1 536870912 g ⟨Y,false⟩ i) (i / ls.length) (i % ls.length)) (i / ls.length) (i % ls.length):=by rw[<-hTL];rfl
   rw [hsucc]
   generalize T.pass1 536870912 g ⟨Y,false⟩ i=s0 at *
   generalize i / ls.length=t at *
   generalize i % ls.length=kk at *
   have hlow1:=hRi.low hlow
   have hle1:∀t x,s0.y t x<=536870912:=λt x=>qj (hRi.le t x) (hle t x)
   have hnn1:∀t x,t<=D->x<h->0<=s0.y t x:=λt x ht hx=>qj (hnn t x) (hlow1 t x ht (by rw[hTh];exact hx))
   have hk0:=YY (ls:=ls) (us:=us) (r:=d.2.2.2.1) (k:=kk) (t:=t)
   have hk1:=YT (ls:=ls) (us:=us) (r:=d.2.2.2.1) (k:=kk) (t:=t)
   have hk2:=YU (ls:=ls) (us:=us) (r:=d.2.2.2.1) (k:=kk) (t:=t)
   have hk3:=YV (ls:=ls) (us:=us) (r:=d.2.2.2.1) (k:=kk) (t:=t)
   have hk4:=TB (ls:=ls) (us:=us) (r:=d.2.2.2.1) (k:=kk) (t:=t)
   have hk5:=aD (ls:=ls) (us:=us) (r:=d.2.2.2.1) (k:=kk) (t:=t)
   have hTfk:=hTf kk
   have hTtk:=hTt kk
   have hTlk:=hTl kk t
   have hTpk:=hTp kk t
   have hend:=oku.net.ends kk hkL
   have hprb:=JD oku.net (link:=(kk:Int)) (tick:=d.2.2.2.1+(t:Int)) (by omega) (by omega)
   obtain ⟨fu,hfu⟩:∃u,(ls.getD kk dL).1.toNat=u:=⟨_,rfl⟩
   obtain ⟨fv,hfv⟩:∃u,(ls.getD kk dL).2.1.toNat=u:=⟨_,rfl⟩
   have hf1:(ls.getD kk dL).1=(fu:Int):=by omega
   have hf2:(ls.getD kk dL).2.1=(fv:Int):=by omega
   rw [hf1]at hk2
   rw [hf2]at hk3
   rw [hfu]at hTfk
   rw [hfv]at hTtk
   have hfuh:fu<h:=by omega
   have hfvh:fv<h:=by omega
   have hfui:(fu:Int)<h:=by omega
   have hfvi:(fv:Int)<h:=by omega
   have hget:=YJ okl (a:=(kk:Int)) (b:=d.2.2.2.1+(t:Int))
   have hkey:=He (a:=(kk:Int)) (b:=d.2.2.2.1+(t:Int)) (by omega) (by omega)
   have hgk:Bg l (kk:Int) (d.2.2.2.1+(t:Int)) l.length=g kk t:=by rw[<-hg];rfl
   rw [hgk]at hget
   generalize lfM ls us (kk:Nat) (d.2.2.2.1+(t:Int))=lf at *
   generalize Dk ls (kk:Nat) (d.2.2.2.1+(t:Int))=pr at *
   have w5:nm.wrap (d.2.2.2.1+(t:Int)-d.2.2.2.1)=(t:Int):=by rw[Af (by omega) (by omega)];omega
   have w6:nm.wrap ((t:Int)+1)=((t+1:Nat):Int):=by rw[Af (by omega) (by omega)];omega
   have ht0:t<D1:=by omega
   have ht1:t+1<D1:=by omega
   have ht0i:(t:Int)<D1:=by omega
   have ht1i:((t+1:Nat):Int)<D1:=by omega
   have hn0t:=Eg (f:=yI) (D:=D) (h:=h) (k:=D1) (t:=t) (by omega) ht0
   have hn1t:=Eg (f:=yI) (D:=D) (h:=h) (k:=D1) (t:=t+1) (by omega) ht1
   have hrl:∀f,((Cb h f).map (mt .i64)).length=h:=λf=>by rw[ow,DD]
   have hrn:∀f,nth ((Cb h f).map (mt .i64)) fu=I (f fu):=λf=>JQ hfuh
   have hrn':∀f,nth ((Cb h f).map (mt .i64)) fv=I (f fv):=λf=>JQ hfvh
   have hrg:∀f,(Cb h f).getD fu 0=f fu:=λf=>H5 hfuh
   have hrg':∀f,(Cb h f).getD fv 0=f fv:=λf=>H5 hfvh
   have hrll:∀f,(Cb h f).length=h:=λf=>DD
   have m5:=q.M5
   have mB:=q.MB
   have mn:=q.nx
   have hyb:=q.iY
   have hidy:∀s,s<D1->id≠yI s:=λs hs e=>by rw[e,q.rY s hs]at hlp;cases hlp
   have hid8:id≠n8:=λe=>by rw[e,g1]at hlp;cases hlp
   obtain ⟨O12,hO12⟩:∃O12:Nat->Option IObj,Ab O11 n11 (some (.arr 0 54 [.agg (II ls us d.2.2.2.1 kk t)]))=O12:=⟨_,rfl⟩
   have q12:=q.of (O':=O12) (nx':=n11+1) (λi hi=>by rw[<-hO12];simp only[Ab];rw[if_neg (by omega)]) (by omega)
   have oth:∀i,i<n11->O12 i=O11 i:=λi hi=>by rw[<-hO12];simp only[Ab];rw[if_neg (by omega)]
   have x1:O12 n8=some (.arr 0 1 [.bool s0.ch]):=by rw[oth _ (by omega)];exact g1
   have x2:O12 (n8+1)=some (.arr 0 1 [.func (.func 65) [] [.ptr n8 0 0 0]]):=by rw[oth _ (by omega)];exact g2
   have x3:O12 (n8+1+1)=some (.map 0 (.ints 2) (us.map tkE)):=by rw[oth _ (by omega)];exact g3
   have x4:O12 (n8+1+1+1)=some (.arr 0 1 [.mref (n8+1+1) 0]):=by rw[oth _ (by omega)];exact g4
   have x5:O12 n11=some (.arr 0 54 [.agg (II ls us d.2.2.2.1 kk t)]):=by rw[<-hO12];simp[Ab]
   have x6:O12 id=some (.lp lr):=by rw[oth _ hid];exact hlp
   clear oth g1 g2 g3 g4
   have id1:¬id=n11:=by omega
   have id2:¬n11=id:=by omega
   simp only[↓bdD,bdP,seval,kp,kd,Fe,hO12,id2,x6,CC,GL,Av]
   intro rb
   have x5o:=x5
   have q12:=q12.lp x6 (some (.lp rb))
   have oth:∀i,i≠id->Ab O12 id (some (.lp rb)) i=O12 i:=λi hi=>by simp only[Ab];rw[if_neg hi]
   have x1:Ab O12 id (some (.lp rb)) n8=some (.arr 0 1 [.bool s0.ch]):=by rw[oth _ hid8.symm];exact x1
   have x2:Ab O12 id (some (.lp rb)) (n8+1)=some (.arr 0 1 [.func (.func 65) [] [.ptr n8 0 0 0]]):=by rw[oth _ (λe=>by rw[<-e,x2]at x6;cases x6)];exact x2
   have x3:Ab O12 id (some (.lp rb)) (n8+1+1)=some (.map 0 (.ints 2) (us.map tkE)):=by rw[oth _ (λe=>by rw[<-e,x3]at x6;cases x6)];exact x3
   have x4:Ab O12 id (some (.lp rb)) (n8+1+1+1)=some (.arr 0 1 [.mref (n8+1+1) 0]):=by rw[oth _ (λe=>by rw[<-e,x4]at x6;cases x6)];exact x4
   have x5:Ab O12 id (some (.lp rb)) n11=some (.arr 0 54 [.agg (II ls us d.2.2.2.1 kk t)]):=by rw[oth _ id2];exact x5
   have x6:Ab O12 id (some (.lp rb)) id=some (.lp rb):=by simp[Ab]
   generalize Ab O12 id (some (.lp rb))=O13 at *
   clear oth hO12
   have k0:=q12.c0
   have k1':=q12.c1
   have k2:=q12.c2
   have k3:=q12.c3
   have k4:=q12.cY
   have k5:=q12.rY t ht0
   have k6:=q12.rY (t+1) ht1
   rw [hD1]at k0
   have v1:=hnn1 t fu (by omega) hfuh
   have v2:=hle1 t fu
   have v3:=hnn1 (t+1) fv (by omega) hfvh
   have v4:=hle1 (t+1) fv
   have w7:nm.wrap (s0.y t fu+pr)=s0.y t fu+pr:=Af (by omega) (by omega)
   have hU:T.stU 536870912 g s0 t kk=if g kk t<lf/\s0.y t fu<536870912 then s0.rl (t+1) fv (s0.y t fu+pr)else s0:=by unfold TN.stU;rw[hTlk,hTfk,hTtk,hTpk]
   have hDd:∀s1,T.stD 536870912 g s1 t kk=if 0<g kk t/\s1.y (t+1) fv<536870912 then s1.rl t fu (s1.y (t+1) fv-pr)else s1:=λs1=>by unfold TN.stD;rw[hTfk,hTtk,hTpk]
   have hw8:∀s1:YS,(∀t x,s1.y t x<=536870912)->0<=s1.y (t+1) fv->nm.wrap (s1.y (t+1) fv-pr)=s1.y (t+1) fv-pr:=λs1 g1 g2=>by have:=g1 (t+1) fv;rw[Af (by omega) (by omega)]
   by_cases c1:g kk t<lf/\s0.y t fu<536870912
   .rw [if_pos c1]at hU
    rw [hU]
    have hR1:=TN.stU_rel (mx:=536870912) hLam (s:=s0) (t:=t) (k:=kk) htD (by rw[hTL];exact hkL)
    rw [hU]at hR1
    obtain ⟨O14,sp1,q14,y1,fr⟩:=q12.rl x1 (by omega) ht1 hfvh (s0.y t fu+pr)
    have hlow2:=hR1.low hlow1
    have hle2:∀t' x',(s0.rl (t+1) fv (s0.y t fu+pr)).y t' x'<=536870912:=λt' x'=>qj (hR1.le t' x') (hle1 t' x')
    have hnn2:0<=(s0.rl (t+1) fv (s0.y t fu+pr)).y (t+1) fv:=qj (hnn (t+1) fv) (hlow2 (t+1) fv (by omega) (by rw[hTh];exact hfvh))
    have e0':(⟨s0.y,s0.ch⟩:YS)=s0:=rfl
    rw [e0']at q14 y1
    generalize s0.rl (t+1) fv (s0.y t fu+pr)=s1 at *
    have z1:=y1
    have z2:O14 (n8+1)=some (.arr 0 1 [.func (.func 65) [] [.ptr n8 0 0 0]]):=by rw[fr _ (by omega) (λs hs=>by have:=hyb s hs;omega)];exact x2
    have z3:O14 (n8+1+1)=some (.map 0 (.ints 2) (us.map tkE)):=by rw[fr _ (by omega) (λs hs=>by have:=hyb s hs;omega)];exact x3
    have z4:O14 (n8+1+1+1)=some (.arr 0 1 [.mref (n8+1+1) 0]):=by rw[fr _ (by omega) (λs hs=>by have:=hyb s hs;omega)];exact x4
    have z5:O14 n11=some (.arr 0 54 [.agg (II ls us d.2.2.2.1 kk t)]):=by rw[fr _ (by omega) (λs hs=>by have:=hyb s hs;omega)];exact x5
    have z6:O14 id=some (.lp rb):=by rw[fr _ hid8 hidy];exact x6
    have j0:=q14.c0
    have j1:=q14.c1
    have j2:=q14.c2
    have j3:=q14.c3
    have j4:=q14.cY
    have j5:=q14.rY t ht0
    have j6:=q14.rY (t+1) ht1
    rw [hD1]at j0
    have w8:=hw8 s1 hle2 hnn2
    by_cases c2:0<g kk t/\s1.y (t+1) fv<536870912
    .rw [hDd,if_pos c2]
     obtain ⟨O15,sp2,q15,y2,fr2⟩:=q14.rl z1 (by omega) ht0 hfuh (s1.y (t+1) fv-pr)
     have e1':(⟨s1.y,s1.ch⟩:YS)=s1:=rfl
     rw [e1']at q15 y2
     have u2:O15 (n8+1)=some (.arr 0 1 [.func (.func 65) [] [.ptr n8 0 0 0]]):=by rw[fr2 _ (by omega) (λs hs=>by have:=hyb s hs;omega)];exact z2
     have u3:O15 (n8+1+1)=some (.map 0 (.ints 2) (us.map tkE)):=by rw[fr2 _ (by omega) (λs hs=>by have:=hyb s hs;omega)];exact z3
     have u4:O15 (n8+1+1+1)=some (.arr 0 1 [.mref (n8+1+1) 0]):=by rw[fr2 _ (by omega) (λs hs=>by have:=hyb s hs;omega)];exact z4
     have u6:O15 id=some (.lp rb):=by rw[fr2 _ hid8 hidy];exact z6
     simp only[↓bdD,bdP,seval,ty3,AY,AR,BM,CS,En,Fe,Ff,NE,Lu,x5o,x2,x5,k0,k1',k2,k3,k4,k5,k6,hn0t,hn1t,hll1,hrl,hrn,hrn',ht0i,ht1i,hfui,hfvi,w5,w6,w7,hk0,hk1,hk2,hk3,hk4,hk5,hget,hkey,CC,CM,z2,z5,j0,j2,j3,j4,j5,j6,c1,c2,sp1,sp2,w8,u2,u3,u4,u6,y2]
     exact ⟨by omega,q15,by omega,by omega,by omega,by omega⟩
    .rw [hDd,if_neg c2]
     by_cases b3:0<g kk t
     .have b4:¬s1.y (t+1) fv<536870912:=λg=>c2 ⟨b3,g⟩
      simp only[↓bdD,bdP,seval,ty3,AY,AR,BM,CS,En,Fe,Ff,NE,Lu,x5o,x2,x5,k0,k1',k2,k3,k4,k5,k6,hn0t,hn1t,hll1,hrl,hrn,hrn',ht0i,ht1i,hfui,hfvi,w5,w6,w7,hk0,hk1,hk2,hk3,hk4,hk5,hget,hkey,CC,CM,z1,z2,z3,z4,z5,z6,j0,j2,j3,j4,j6,c1,b3,b4,sp1]
      exact ⟨by omega,q14,by omega,by omega,by omega,by omega⟩
     .simp only[↓bdD,bdP,seval,ty3,AY,AR,BM,CS,En,Fe,Ff,NE,Lu,x5o,x2,x5,k0,k1',k2,k3,k4,k5,k6,hn0t,hn1t,hll1,hrl,hrn,ht0i,ht1i,hfui,hfvi,w5,w6,w7,hk0,hk1,hk2,hk3,hk4,hk5,hget,hkey,CC,CM,z1,z2,z3,z4,z5,z6,j2,j3,c1,b3,sp1]
      exact ⟨by omega,q14,by omega,by omega,by omega,by omega⟩
   .rw [if_neg c1]at hU
    rw [hU]
    have w8:=hw8 s0 hle1 v3
    by_cases c2:0<g kk t/\s0.y (t+1) fv<536870912
    .rw [hDd,if_pos c2]
     obtain ⟨O15,sp2,q15,y2,fr2⟩:=q12.rl x1 (by omega) ht0 hfuh (s0.y (t+1) fv-pr)
     have e1':(⟨s0.y,s0.ch⟩:YS)=s0:=rfl
     rw [e1']at q15 y2
     have u2:O15 (n8+1)=some (.arr 0 1 [.func (.func 65) [] [.ptr n8 0 0 0]]):=by rw[fr2 _ (by omega) (λs hs=>by have:=hyb s hs;omega)];exact x2
     have u3:O15 (n8+1+1)=some (.map 0 (.ints 2) (us.map tkE)):=by rw[fr2 _ (by omega) (λs hs=>by have:=hyb s hs;omega)];exact x3
     have u4:O15 (n8+1+1+1)=some (.arr 0 1 [.mref (n8+1+1) 0]):=by rw[fr2 _ (by omega) (λs hs=>by have:=hyb s hs;omega)];exact x4
     have u6:O15 id=some (.lp rb):=by rw[fr2 _ hid8 hidy];exact x6
     by_cases b1:g kk t<lf
     .have b2:¬s0.y t fu<536870912:=λg=>c1 ⟨b1,g⟩
      simp only[↓bdD,bdP,seval,ty3,AY,AR,BM,CS,En,Fe,Ff,NE,Lu,x5o,x2,x5,k0,k1',k2,k3,k4,k5,k6,hn0t,hn1t,hll1,hrl,hrn,hrn',ht0i,ht1i,hfui,hfvi,w5,w6,hk0,hk1,hk2,hk3,hk4,hk5,hget,hkey,CC,CM,b1,b2,c2,sp2,w8,u2,u3,u4,u6,y2]
      exact ⟨by omega,q15,by omega,by omega,by omega,by omega⟩
     .simp only[↓bdD,bdP,seval,ty3,AY,AR,BM,CS,En,Fe,Ff,NE,Lu,x5o,x2,x5,k0,k1',k2,k3,k4,k5,k6,hn0t,hn1t,hll1,hrl,hrn',ht0i,ht1i,hfui,hfvi,w5,w6,hk0,hk1,hk2,hk3,hk4,hk5,hget,hkey,CC,CM,b1,c2,sp2,w8,u2,u3,u4,u6,y2]
      exact ⟨by omega,q15,by omega,by omega,by omega,by omega⟩
    .rw [hDd,if_neg c2]
     by_cases b1:g kk t<lf
     .have b2:¬s0.y t fu<536870912:=λg=>c1 ⟨b1,g⟩
      by_cases b3:0<g kk t
      .have b4:¬s0.y (t+1) fv<536870912:=λg=>c2 ⟨b3,g⟩
       simp only[↓bdD,bdP,seval,ty3,AY,AR,BM,CS,En,Fe,Ff,x5o,x1,x2,x3,x4,x5,x6,k0,k1',k2,k3,k4,k5,k6,hn0t,hn1t,hll1,hrl,hrn,hrn',ht0i,ht1i,hfui,hfvi,w5,w6,hk0,hk1,hk2,hk3,hk4,hget,hkey,CC,CM,b1,b2,b3,b4]
       exact ⟨by omega,q12,by omega,by omega,by omega,by omega⟩
      .simp only[↓bdD,bdP,seval,ty3,AY,AR,BM,CS,En,Fe,Ff,x5o,x1,x2,x3,x4,x5,x6,k0,k1',k2,k3,k4,k5,hn0t,hll1,hrl,hrn,ht0i,hfui,w5,hk0,hk1,hk2,hk4,hget,hkey,CC,CM,b1,b2,b3]
       exact ⟨by omega,q12,by omega,by omega,by omega,by omega⟩
     .by_cases b3:0<g kk t
      .have b4:¬s0.y (t+1) fv<536870912:=λg=>c2 ⟨b3,g⟩
       simp only[↓bdD,bdP,seval,ty3,AY,AR,BM,CS,En,Fe,Ff,x5o,x1,x2,x3,x4,x5,x6,k0,k1',k2,k3,k4,k6,hn1t,hll1,hrl,hrn',ht1i,hfvi,w5,w6,hk0,hk1,hk3,hk4,hget,hkey,CC,CM,b1,b3,b4]
       exact ⟨by omega,q12,by omega,by omega,by omega,by omega⟩
      .simp only[↓bdD,bdP,seval,ty3,AY,En,Fe,Ff,x5o,x1,x2,x3,x4,x5,x6,k1',k2,k3,w5,hk0,hk1,hk4,hget,hkey,CC,CM,b1,b3]
       exact ⟨by omega,q12,by omega,by omega,by omega,by omega⟩
  .rintro ⟨O11,n11⟩ ⟨q,⟨g1,g1'⟩,⟨g2,g2'⟩,_⟩
   dsimp only at q g1 g2 g1' g2'
   rw [PY,<-hTL]at q g1
   have k0:=q.c0
   rw [hD1]at k0
   have hrnd:T.rnd D 536870912 g so Y=T.pass2 so (T.pass1 536870912 g ⟨Y,false⟩ (D*T.L)) (D*h):=by rw[<-hTh];rfl
   generalize T.pass1 536870912 g ⟨Y,false⟩ (D*T.L)=s1 at *
   have k4:=q.cY
   have m5:=q.M5
   have mB:=q.MB
   have mn:=q.nx
   simp only[↓bdD,bdP,seval,BM,↓AP,↓AI,↓Ar,k0,k4,wD]
   refine Aw [21,22,275,276,277,278,279,280,281,282,283,284,285,286,287,288,289,290,291,292,293,294,295,296,297,298,299,300,301,302,303,304,305,306,307,308,309,310,311,312,313,314,315,316,317,318,319,320,321,322,323,324,325,326,327] D (λt ρ st'=>ρ 275=I t/\PvK D h M0 B D1 sI yI l d so (T.pass2 so s1 (t*h)).y st'.obj st'.next/\st'.obj n8=some (.arr 0 1 [.bool (T.pass2 so s1 (t*h)).ch])/\st'.obj (n8+1)=some (.arr 0 1 [.func (.func 65) [] [.ptr n8 0 0 0]])) (.refl _) ?_ ?_
   .simp only[↓bdD,bdP,Nat.zero_mul]
    exact ⟨q,g1,g2⟩
   clear q k0 k4 mn
   rintro t ρ6 ⟨O12,n12⟩ ht ⟨h275,q,x1,x2⟩
   dsimp only at q x1 x2
   by_cases htD:t<D
   .have wt:=Cu (k:=t) (by omega)
    have ht0:t<D1:=by omega
    have ht1:t+1<D1:=by omega
    have ht0i:(t:Int)<D1:=by omega
    have ht1i:((t+1:Nat):Int)<D1:=by omega
    have htDi:(t:Int)<D:=by omega
    have hn0t:=Eg (f:=yI) (D:=D) (h:=h) (k:=D1) (t:=t) (by omega) ht0
    have hn1t:=Eg (f:=yI) (D:=D) (h:=h) (k:=D1) (t:=t+1) (by omega) ht1
    have hnst:=Eg (f:=sI) (D:=D) (h:=h) (k:=D1) (t:=t) (by omega) ht0
    have hrll:∀f,(Cb h f).length=h:=λf=>DD
    have k0:=q.c0
    have k4:=q.cY
    have k5:=q.rY t ht0
    rw [hD1]at k0
    simp only[↓bdD,bdP,seval,AR,BM,↓A6,↓AP,↓AI,↓Ar,↓AH,h275,htD,htDi,k0,k4,k5,hll1,hn0t,ht0i]
    refine Aw [22,283,284,285,286,287,288,289,290,291,292,293,294,295,296,297,298,299,300,301,302,303,304,305,306,307,308,309,310,311,312,313,314,315,316,317,318,319,320,321,322,323,324,325,326] h (λx ρ st'=>ρ 283=I x/\PvK D h M0 B D1 sI yI l d so (T.pass2 so s1 (t*h+x)).y st'.obj st'.next/\st'.obj n8=some (.arr 0 1 [.bool (T.pass2 so s1 (t*h+x)).ch])/\st'.obj (n8+1)=some (.arr 0 1 [.func (.func 65) [] [.ptr n8 0 0 0]])) (.refl _) ?_ ?_
    .simp only[↓bdD,bdP]
     exact ⟨q,x1,x2⟩
    clear q k0 k4 k5 x1 x2
    rintro x ρ7 ⟨O13,n13⟩ hx ⟨h283,q,x1,x2⟩
    dsimp only at q x1 x2
    by_cases hxh:x<h
    .have wx:=Cu (k:=x) (by omega)
     have hxi:(x:Int)<h:=by omega
     have hrn:∀f,nth ((Cb h f).map (mt .i64)) x=I (f x):=λf=>JQ hxh
     have hrg:∀f,(Cb h f).getD x 0=f x:=λf=>H5 hxh
     have hs2:T.pass2 so s1 (t*h+(x+1))=TN.stB so (TN.stA (T.pass2 so s1 (t*h+x)) t x) t x:=by
      have e1:=TN.row_idx (L:=h) (t:=t) hxh
      show TN.stB so (TN.stA (T.pass2 so s1 (t*h+x)) ((t*h+x) / T.h) ((t*h+x) % T.h)) ((t*h+x) / T.h) ((t*h+x) % T.h)=_
      rw [hTh,e1.1,e1.2]
     rw [hs2]
     generalize T.pass2 so s1 (t*h+x)=s2 at *
     have k0:=q.c0
     have k4:=q.cY
     have k5:=q.rY t ht0
     have k6:=q.rY (t+1) ht1
     have kS:=q.cS
     have kr:=q.rS t ht0
     have hyb:=q.iY
     have mn:=q.nx
     rw [hD1]at k0
     obtain ⟨O14,sp1,q14,y1,fr⟩:=q.rl x1 (by omega) ht1 hxh (s2.y t x)
     have e0':(⟨s2.y,s2.ch⟩:YS)=s2:=rfl
     rw [e0']at q14 y1
     have hA:TN.stA s2 t x=s2.rl (t+1) x (s2.y t x):=rfl
     rw [hA]
     generalize s2.rl (t+1) x (s2.y t x)=s3 at *
     have z2:O14 (n8+1)=some (.arr 0 1 [.func (.func 65) [] [.ptr n8 0 0 0]]):=by rw[fr _ (by omega) (λs hs=>by have:=hyb s hs;omega)];exact x2
     have j0:=q14.c0
     have j4:=q14.cY
     have j5:=q14.rY t ht0
     have j6:=q14.rY (t+1) ht1
     have jS:=q14.cS
     have jr:=q14.rS t ht0
     rw [hD1]at j0
     have hBd:TN.stB so s3 t x=if 0<so t x then s3.rl t x (s3.y (t+1) x)else s3:=rfl
     by_cases c1:0<so t x
     .rw [hBd,if_pos c1]
      obtain ⟨O15,sp2,q15,y2,fr2⟩:=q14.rl y1 (by omega) ht0 hxh (s3.y (t+1) x)
      have e1':(⟨s3.y,s3.ch⟩:YS)=s3:=rfl
      rw [e1']at q15 y2
      have u2:O15 (n8+1)=some (.arr 0 1 [.func (.func 65) [] [.ptr n8 0 0 0]]):=by rw[fr2 _ (by omega) (λs hs=>by have:=hyb s hs;omega)];exact z2
      simp only[↓bdD,bdP,seval,ty3,AR,BM,NE,Lu,↓A6,↓AP,↓AI,↓Ar,↓AH,h283,hxh,hxi,wt,wx,x2,k0,k4,k5,k6,j0,j4,j5,j6,jS,jr,z2,sp1,sp2,c1,u2,y2,hll1,hn0t,hn1t,hnst,hrl,hrn,ht0i,ht1i]
      exact q15
     .rw [hBd,if_neg c1]
      simp only[↓bdD,bdP,seval,ty3,AR,BM,NE,Lu,↓A6,↓AP,↓AI,↓Ar,↓AH,h283,hxh,hxi,wt,wx,x2,k0,k4,k5,k6,jS,jr,y1,z2,sp1,c1,hll1,hn0t,hn1t,hnst,hrl,hrn,ht0i,ht1i]
      exact q14
    .have e:x=h:=by omega
     rw [e]at h283 q x1
     have hs1:(t+1)*h=t*h+h:=Nat.succ_mul _ _
     rw [<-hs1]at q x1
     simp only[↓bdD,bdP,seval,↓AP,↓Ci,↓Ar,↓AH,h275,h283,wt]
     refine ⟨?_,q,x1,x2⟩
     rw [AL (by decide +kernel)]
     simp only[↓bdD,bdP,r8]
   .have e:t=D:=by omega
    rw [e]at h275 q x1
    rw [<-hrnd]at q x1
    have k0:=q.c0
    rw [hD1]at k0
    have k1:=q.c1
    have k4:=q.cY
    have kD:=q.rY D hDD1
    have hnd:=Eg (f:=yI) (D:=D) (h:=h) (k:=D1) (t:=D) (by omega) hDD1
    have hrll:∀f,(Cb h f).length=h:=λf=>DD
    have hrgc:∀f,(Cb h f).getD fc 0=f fc:=λf=>H5 hfch
    have hrnc:∀f,nth ((Cb h f).map (mt .i64)) fc=I (f fc):=λf=>JQ hfch
    cases hch:(T.rnd D 536870912 g so Y).ch
    .rw [hch]at x1
     obtain ⟨hy1,_⟩:=TN.rnd_fix hch
     have hYF:Y=F:=TN.prv_det (.done Y hch) hR
     rw [hy1,hYF]at q kD
     obtain ⟨mo,hmo⟩:∃mo,F D fc=mo:=⟨_,rfl⟩
     simp only[↓bdD,bdP,seval,ty3,ty4,AY,AR,BM,↓AP,↓AI,↓Ci,↓Ar,↓AH,h275,x1,k0,k1,k4,kD,w1,hnd,hll1,hrl,hrnc,hDi1,c0,hci,hfc,hmo]
     refine Aw [25,26,344,345,346,347,348,349,350,351,352,353,354,355,356,357,358,359,360,361,362,363] D1 (λt ρ st'=>ρ 344=I t/\PvK D h M0 B D1 sI yI l d so (λs z=>if s<t then min (F s z) mo else F s z) st'.obj st'.next) (.refl _) ?_ ?_
     .simp only[↓bdD,bdP]
      exact q
     clear q k0 k1 k4 kD x1 x2 hrnd hR hRel hlow hle
     rintro t ρ8 ⟨O13,n13⟩ ht ⟨h344,q⟩
     dsimp only at q
     by_cases htD1:t<D1
     .have wt:=Cu (k:=t) (by omega)
      have hti:(t:Int)<D1:=by omega
      have hnt:=Eg (f:=yI) (D:=D) (h:=h) (k:=D1) (t:=t) (by omega) htD1
      have k4:=q.cY
      have k5:=q.rY t htD1
      simp only[↓bdD,bdP,seval,AR,BM,↓A6,↓AP,↓AI,↓Ar,↓AH,h344,htD1,hti,k4,k5,hnt,hll1]
      refine Aw [26,350,351,352,353,354,355,356,357,358,359,360,361,362] h (λx ρ st'=>ρ 350=I x/\PvK D h M0 B D1 sI yI l d so (λs z=>if s<t\/(s=t/\z<x)then min (F s z) mo else F s z) st'.obj st'.next) (.refl _) ?_ ?_
      .simp only[↓bdD,bdP]
       exact q.eqY λs z hs hz=>by
        by_cases e:s<t
        .rw [if_pos e,if_pos (.inl e)]
        .rw [if_neg e,if_neg (by omega)]
      clear q k4 k5
      rintro x ρ9 ⟨O14,n14⟩ hx ⟨h350,q⟩
      dsimp only at q
      by_cases hxh:x<h
      .have wx:=Cu (k:=x) (by omega)
       have hxi:(x:Int)<h:=by omega
       generalize hY4:(λs z=>if s<t\/(s=t/\z<x)then min (F s z) mo else F s z)=Y4 at q
       have hv:∀s z,Y4 s z=if s<t\/(s=t/\z<x)then min (F s z) mo else F s z:=λs z=>by rw[<-hY4]
       have k5:=q.rY t htD1
       have hrn:=JQ (h:=h) (x:=x) (f:=Y4 t) hxh
       have hrg:=H5 (h:=h) (x:=x) (f:=Y4 t) hxh
       have hset:=Hm (h:=h) (x:=x) (f:=Y4 t) (v:=min (Y4 t x) mo) hxh
       have hru:=L9 (h:=h) (x:=x) (f:=Y4 t) (v:=min (Y4 t x) mo) hxh
       have hmin:(if mo<Y4 t x then mo else Y4 t x)=min (Y4 t x) mo:=by split <;> omega
       simp only[↓bdD,bdP,seval,kd,ty3,AR,↓A6,↓AP,↓AI,↓Ar,↓AH,h350,hxh,hxi,wx,k5,hrl,hrn,hmin,hset]
       refine (q.y' htD1 _).eqY λs z hs hz=>?_
       by_cases e:s=t
       .subst e
        rw [if_pos rfl]
        by_cases e2:z=x
        .subst e2
         rw [if_pos rfl,if_pos (.inr ⟨rfl,by omega⟩),hv,if_neg (by omega)]
        .rw [if_neg e2,hv]
         by_cases c:z<x
         .rw [if_pos (.inr ⟨rfl,c⟩),if_pos (.inr ⟨rfl,by omega⟩)]
         .rw [if_neg (by omega),if_neg (by omega)]
       .rw [if_neg e,hv]
        by_cases c:s<t
        .rw [if_pos (.inl c),if_pos (.inl c)]
        .rw [if_neg (by omega),if_neg (by omega)]
      .have e:x=h:=by omega
       rw [e]at h350 q
       simp only[↓bdD,bdP,seval,↓AP,↓Ci,↓Ar,↓AH,h344,h350,wt]
       refine ⟨?_,q.eqY λs z hs hz=>?_⟩
       .rw [AL (by decide +kernel)]
        simp only[↓bdD,bdP,r8]
       .by_cases c:s<t+1
        .rw [if_pos c,if_pos (by omega)]
        .rw [if_neg c,if_neg (by omega)]
     .have e:t=D1:=by omega
      rw [e]at h344 q
      have k0:=q.c0
      rw [hD1]at k0
      have k4:=q.cY
      simp only[↓bdD,bdP,seval,Ao,kd,BM,↓AP,↓Ci,↓Ev,↓Ar,↓AH,h344,k0]
      rw [<-hmo]at q
      have mB9:=q.MB
      have m59:=q.M5
      refine dr1 (M0:=M0) (yI:=yI) ?_ λt ht=>?_
      .dsimp only
       simp only[Ab]
       rw [if_neg (by omega),hh]
       exact q.cY
      .have hy9:=q.iY t ht
       dsimp only
       simp only[Ab]
       rw [if_neg (by omega),hh,q.rY t ht,hfc]
       simp only[if_pos ht]
    .rw [hch]at x1
     have hlow9:=hRel.low hlow
     have hle9:∀t x,(T.rnd D 536870912 g so Y).y t x<=536870912:=λt x=>qj (hRel.le t x) (hle t x)
     have hms:T.ms D (T.rnd D 536870912 g so Y).y<T.ms D Y:=by
      rcases hRel.lt hch with g | g
      .cases g
      .exact g
     have hms0:0<=T.ms D (T.rnd D 536870912 g so Y).y:=BD λt ht=>BD λx hx=>qj (hnn t x) (hlow9 t x (by omega) hx)
     have hR9:T.PrvR D 536870912 g so (T.rnd D 536870912 g so Y).y F:=by
      cases hR with
      | done _ h'=>rw[hch]at h';cases h'
      | more _ _ _ k'=>exact k'
     simp only[↓bdD,bdP,seval,ty4,↓A6,↓AP,↓Ci,↓Ar,↓AH,h275,x1]
     refine ⟨(T.ms D (T.rnd D 536870912 g so Y).y).toNat,by omega,?_,_,rfl,hR9,hlow9,hle9,q⟩
     rw [AL (by decide +kernel)]
     simp only[↓bdD,bdP,r8]
  .exact λj st' h=>h.elim
  .exact λst' h=>h.elim
 .obtain ⟨hj,hkv⟩:=ab.1 hjk
  rw [ow]at hj
  rw [wq]at hkv
  have hg:l.getD j dS=l[j]:=by simp[hj]
  have tj:=htk j hj
  have lj:=okl.link j hj
  have bj:=okl.bytes j hj
  have hbd:=λt x=>Aex okl (YG hdm) hsn hsm t x
  have happ:=λt x=>Aew (ls:=ls) (l:=l) (d:=d) (seen:=seen) (i:=j) (t:=t) (x:=x)
  rw [hg]at tj lj bj
  rw [<-hg]at hkv
  rw [hg]at hkv
  generalize l[j]=sd at *
  have hout:∀t x:Nat,kL ls l (d.2.2.2.1+(t:Int)) (x:Int) j=if sd.2.1=d.2.2.2.1+(t:Int)/\(AB ls sd).1=(x:Int)then sd.2.2 else 0:=λt x=>by unfold kL;rw[hg]
  simp only[tkE,Prod.mk.injEq]at hkv
  obtain ⟨rfl,rfl⟩:=hkv
  obtain ⟨t,ht⟩:∃t:Nat,sd.2.1=d.2.2.2.1+(t:Int):=⟨(sd.2.1-d.2.2.2.1).toNat,by omega⟩
  have htD:t<D1:=by omega
  have hil:i<l.length:=by
   have := Dm l.length (seen ++ [j]) (by
    rw [xp]
    exact ⟨hsn,by simp,λa ha b hb e=>by simp at hb;subst hb;subst e;exact hns ha⟩) (λa ha=>by
    rcases kq.1 ha with g | g
    .exact hsm a g
    .simp at g;subst g;exact hj)
   rw [List.length_append,List.length_singleton]at this
   omega
  have hlt':sd.1.toNat<ls.length:=by omega
  have hend:=oku.net.ends sd.1.toNat hlt'
  obtain ⟨x,hx⟩:∃x:Nat,(ls.getD sd.1.toNat dL).1=(x:Int):=⟨(ls.getD sd.1.toNat dL).1.toNat,by omega⟩
  have hxh:x<h:=by omega
  have hlk:AB ls sd=ls.getD sd.1.toNat dL:=rfl
  have hk0:=IA (a:=ls.getD sd.1.toNat dL)
  rw [hx]at hk0
  have hB3':=p.iS t htD
  have hM5':=p.M5
  have hent:=Vl (st:=⟨Ab O5 n3 (some (.it (some (3,0)) l.length (seen ++ [j]))),n5⟩) (id:=n3) (m:=3) (g:=0) (n:=l.length) (seen:=seen) (i:=j) (es:=l.map tkE) (k:=.agg [I sd.1,I sd.2.1]) (v:=I sd.2.2) (by simp[Ab]) (by simp only[Ab];rw[if_neg (by omega)];exact c2) (by simp) (by rw[hjk])
  have q1:=p.of (O':=Ab (Ab O5 n3 (some (.it (some (3,0)) l.length (seen ++ [j])))) n5 (some (.arr 0 2 [.agg [I sd.1,I sd.2.1]]))) (nx':=n5+1) (λi hi=>by simp only[Ab];rw[if_neg (by omega),if_neg (by omega)]) (by omega)
  have w5:nm.wrap (sd.2.1-d.2.2.2.1)=(t:Int):=by rw[Af (by omega) (by omega)];omega
  have hb1:=hbd t x
  have w6:nm.wrap (soS ls l d seen t x-sd.2.2)=soS ls l d seen t x-sd.2.2:=Af (by omega) (by omega)
  have cS:=p.cS
  have rS:=p.rS t htD
  have hnt:=Eg (f:=sI) (D:=D) (h:=h) (k:=D1) (t:=t) (by omega) htD
  have hti:(t:Int)<D1:=by omega
  have hxi:(x:Int)<h:=by omega
  have hrl:∀f,((Cb h f).map (mt .i64)).length=h:=λf=>by rw[ow,DD]
  have hru:=L9 (h:=h) (x:=x) (f:=soS ls l d seen t) (v:=soS ls l d seen t x-sd.2.2) hxh
  have hrn:=JQ (h:=h) (x:=x) (f:=soS ls l d seen t) hxh
  have d1:¬n5=n3:=by omega
  have d2:¬n3=n5:=by omega
  have d3:¬0=n3:=by omega
  have d4:¬0=n5:=by omega
  have d5:¬2=n3:=by omega
  have d6:¬2=n5:=by omega
  have d7:¬n3=0:=by omega
  have d8:¬n5=0:=by omega
  have d9:¬sI t=n3:=by omega
  have f1:¬sI t=n5:=by omega
  have f2:¬n5=2:=by omega
  have hl0:sd.1<(ls.length:Int):=lj.2
  have hl1:0<=sd.1:=lj.1
  simp only[↓bdD,bdP,seval,kp,kd,Cg,ty3,BP,AJ,AY,AR,BG,BM,CS,En,↓A6,↓AP,↓AI,↓Ar,↓AH,hent,c1,cS,rS,w5,w6,hnt,hti,hll1,hl0,hl1,hlt',hk0,hxi,hxh,hrl,hrn,d3,d4,d5,d6,d8,d9,f1,Av]
  refine ⟨hil,seen ++ [j],by simp[hsl],?_,λa ha=>?_,?_,xn (nx:=n5+1) (xn (nx:=n5) (nx':=n5+1) (xn (nx:=n5) (nx':=n5) wf5 (by omega) (by omega)) (by omega) (by omega)) (by omega) (by omega),?_,by omega⟩
  .rw [xp]
   exact ⟨hsn,by simp,λa ha b hb e=>by simp at hb;subst hb;subst e;exact hns ha⟩
  .rcases kq.1 ha with g | g
   .exact hsm a g
   .simp at g;subst g;exact hj
  .rw [Hm hxh]
   refine (q1.so' htD _).eqS λs z hs hz=>?_
   rw [happ,hout,hlk,hx,ht]
   by_cases e:s=t
   .subst e
    rw [if_pos rfl]
    by_cases e2:z=x
    .subst e2;rw[if_pos rfl,if_pos ⟨rfl,rfl⟩]
    .rw [if_neg e2,if_neg (λg=>e2 (by have:=g.2;omega)),Int.sub_zero]
   .rw [if_neg e,if_neg (λg=>e (by have:=g.1;omega)),Int.sub_zero]
  .simp only[Ab]
   rw [if_neg (by omega),if_neg (by omega),if_pos trivial]
theorem xP:AM Tryz.prog e_pprove.1 e_pprove.2:=Ax λ⟨hn,ls,us,d⟩ h=>xO hn ls us d h
end Sim
