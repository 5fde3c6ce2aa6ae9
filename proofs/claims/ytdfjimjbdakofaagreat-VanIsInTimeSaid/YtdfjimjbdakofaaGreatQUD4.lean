/- Lemmas. -/
import Derived.Test.YtdfjimjbdakofaaGreatQUN4
import Derived.Test.YtdfjimjbdakofaaGreatQXN
import Derived.Test.YtdfjimjbdakofaaGreatQUH
import Derived.Test.YtdfjimjbdakofaaGreatQUP
import Derived.Test.YtdfjimjbdakofaaGreatQM
set_option maxRecDepth 100000
set_option maxHeartbeats 8000000
set_option linter.all false
open Classical renaming propDecidable->qo
open Go.IntKind renaming i64->nm
open Go.Proofs.Tryz renaming prog->pk,f13->xw
open Int renaming toNat_natCast->pe
open List renaming cons.injEq->ix,replicate->ba,length_set->ra,getD_eq_getElem?_getD->oa,getElem?_set_ne->gc,mem_map->oh,mem_singleton->ku,getElem?_eq_getElem->gl,mem_cons->li,not_mem_nil->ua,length_replicate->ft,getElem?_replicate->fq,range->br,getElem?_eq_some_iff->ab,length_map->ow,cons_append->kh,nil_append->xq,filterMap_cons->xr,filterMap_nil->xu,getElem?_toArray->xv,getElem?_cons_succ->qx,getElem?_cons_zero->gp,take->sy,getElem?_map->bw,length_range->vz
open Nat renaming le_refl->cg,pow_le_pow_right->vd,mul_one->s4,eq_zero_or_pos->ao,reduceBEq->r8
open Option renaming some.injEq->bp,getD_some->gv
open Prod renaming ext->qu,ext_iff->tn
open Sim.DR renaming tuple2->xy
open Sim.IObj renaming arr.injEq->q8
open Sim.PV renaming int.injEq->qt,agg.injEq->qr,lits.injEq->s6,cells->gi,int->mt
open Sim.Store renaming set->kd,new->kp
noncomputable section
namespace Sim
open Go Go.Proofs
attribute [local congr] Ah Ai Ag At Al Aj Aq
structure FQ where
 s : Nat
 hn : Int
 ls : List Lnk
 us : List Snd
 d : Dem
 E : List PV
def FQ.el (x:FQ):PV:=.agg [Hi (Dq x.hn x.ls x.us x.d),(nth x.E x.s).cells.getD 1 .bad]
def JT (x:FQ):List PV := [I (x.s:Nat),.agg [I x.hn,AS x.ls,Ay x.us,I x.d.1,I x.d.2.1,I x.d.2.2.1,I x.d.2.2.2.1,I x.d.2.2.2.2],.ptr 2 0 0 0]
def JU (x:FQ) (st:Store):Prop:=st.obj 2=some (.arr 0 1 [.ref 1 0 0 x.E.length])/\st.obj 1=some (.arr 0 2 x.E)/\x.s<x.E.length/\(∃a b,nth x.E x.s=.agg [a,b])/\AV x.hn x.d<=268/\KW x.hn x.ls x.us x.d=0
def Ik (x:FQ) (st:Store):PV×Store:=(.tuple [Ay (Da x.hn x.ls x.us x.d),B true],⟨Ab st.obj 1 (some (.arr 0 2 (x.E.set x.s x.el))),st.next⟩)
def e_find2:Nat×Ent:=(36,.x (A9 JT JU Ik))
theorem Afo (a b:FQ) (st:Store) (h:JT a=JT b) (hx:JU a st) (hy:JU b st):Ik a st=Ik b st:=by
 obtain ⟨s,hn,ls,us,d,E⟩:=a
 obtain ⟨s',hn',ls',us',d',E'⟩:=b
 simp only[JT,ix,and_true,qt,true_and,qr,s6,AF,AG]at h
 obtain ⟨e1,e2,e3,e4,f1,f2,f3,f4,f5⟩:=h
 have hd:d=d':=qu f1 (qu f2 (qu f3 (qu f4 f5)))
 have e1:s=s':=by omega
 have h1:=hx.2.1.symm.trans hy.2.1
 simp only[bp,q8,true_and]at h1
 subst e1 e2 e3 e4 hd h1
 rfl
theorem Afp {s:Nat} {hn:Int} {ls:List Lnk} {us:List Snd} {d:Dem} (E:List PV) {st:Store} (h:JU ⟨s,hn,ls,us,d,E⟩ st) :
  A9 JT JU Ik [I (s:Nat),.agg [I hn,AS ls,Ay us,I d.1,I d.2.1,I d.2.2.1,I d.2.2.2.1,I d.2.2.2.2],.ptr 2 0 0 0] st=some (Ik ⟨s,hn,ls,us,d,E⟩ st) :=
 Bc Afo (i:=⟨s,hn,ls,us,d,E⟩) h
theorem Afq:AM pk e_find2.1 e_find2.2:=Cf λx st hx=>by
 obtain ⟨s,hn,ls,us,d,E⟩:=x
 obtain ⟨ob,M⟩:=st
 unfold JU at hx
 dsimp only at hx
 obtain ⟨h2,h1,hs,⟨a,b,hab⟩,hN,h⟩:=hx
 simp only[JT,Ik,FQ.el,hab]
 have sp:=xM (hn:=hn) (ls:=ls) (us:=us) (d:=d)
 rw [if_pos (λ_=>hN),if_pos h,if_pos h]at sp
 dsimp only[AS,Ay,Hi]at sp
 have hsi:(s:Int)<(E.length:Int):=by omega
 refine BT AQ (l := [e_pprove]) ((Ad xP Au)) [] [] 0 Tryz.func36 rfl (by decide +kernel) (N:=33) rfl (by simp) rfl (by kernel_rfl) ?_
 generalize Da hn ls us d=cl at *
 generalize Dq hn ls us d=pl at *
 simp only[↓bdD,bdP,seval,Ao,kd,e_pprove,Ac,Aa,Tryz.f36,FL,BG,BM,Lr,sp,h,h2,h1,hs,hsi,hab]
 exact Left.refl
def Qg (hn:Int) (ls:List Lnk) (us:List Snd) (ts:List Trp) (d:Dem) (s:Nat):Int:=KW (wHn hn ts) (wLs hn ls ts d s) (wUs ls us ts d s) d
def elT (hn:Int) (ls:List Lnk) (us:List Snd) (ts:List Trp) (d:Dem) (E:List PV):Nat->List PV
 | 0=>E
 | s+1=>(elT hn ls us ts d E s).set s (FQ.el ⟨s,wHn hn ts,wLs hn ls ts d s,wUs ls us ts d s,d,elT hn ls us ts d E s⟩)
structure BX where
 hn : Int
 ls : List Lnk
 us : List Snd
 ts : List Trp
 d : Dem
 E : List PV
def BX.b (x:BX):Int×List Snd×List Int:=Cn x.hn x.ls x.us x.ts x.d (2 ^ x.ts.length)
def JV (x:BX):List PV := [.agg (Tp x.hn x.ls x.us x.ts x.d),.func (.func 36) [] [.ptr 2 0 0 0]]
def JW (x:BX) (st:Store):Prop:=st.obj 2=some (.arr 0 1 [.ref 1 0 0 x.E.length])/\st.obj 1=some (.arr 0 2 x.E)/\x.E=ba (2 ^ x.ts.length) (.agg [.nils,.nils])/\El x.hn x.ls x.us x.ts x.d=0/\Ap x.d<=12/\(∀i o,st.obj i=some o->i<st.next)/\(∀s,s<2 ^ x.ts.length->Qg x.hn x.ls x.us x.ts x.d s=0)/\¬x.b.1<0
def Il (x:BX) (st:Store):PV×Store:=(.tuple [.agg [Ay x.b.2.1,ints x.b.2.2],I 0],⟨Ab st.obj 1 (some (.arr 0 2 (elT x.hn x.ls x.us x.ts x.d x.E (2 ^ x.ts.length)))),st.next⟩)
theorem Of {hn:Int} {ls:List Lnk} {us:List Snd} {ts:List Trp} {d:Dem} {E:List PV}:∀k,(elT hn ls us ts d E k).length=E.length
 | 0=>rfl
 | k+1=>by simp only[elT,ra,Of k]
theorem JX {hn:Int} {ls:List Lnk} {us:List Snd} {ts:List Trp} {d:Dem} {E:List PV} {s:Nat}:∀k,k<=s->nth (elT hn ls us ts d E k) s=nth E s
 | 0,_=>rfl
 | k+1,h=>by
  have ih:=JX (hn:=hn) (ls:=ls) (us:=us) (ts:=ts) (d:=d) (E:=E) (s:=s) k (by omega)
  rw [<-ih]
  simp only[elT]
  generalize elT hn ls us ts d E k=L
  unfold nth
  rw [oa,gc (by omega),<-oa]
theorem Afr {hn:Int} {ls:List Lnk} {us:List Snd} {ts:List Trp} {d:Dem} {s:Nat} (h:Qg hn ls us ts d s=0):Dc hn ls us ts d s=0:=by
 unfold Qg KW at h
 split at h
 .rename_i g;exact absurd h g
 .exact h
theorem bF {K:Nat->Prop} {l:List Int}:(ints l).In K:=.lits _ _ λe he c hc=>by
 obtain ⟨x,_,rfl⟩:=oh.1 he
 simp only[gi,ku]at hc
 subst hc;exact .int _ _
theorem Afs {K:Nat->Prop} {y:List (List Int)}:(Hi y).In K:=.lits _ _ λe he c hc=>by
 obtain ⟨x,_,rfl⟩:=oh.1 he
 simp only[ints,gi,ku]at hc
 subst hc;exact bF
theorem xQ {hn:Int} {ls:List Lnk} {us:List Snd} {ts:List Trp} {d:Dem} {E:List PV} {K:Nat->Prop} (h0:∀s,s<E.length->nth E s=.agg [.nils,.nils]):∀k,k<=E.length->∀e∈elT hn ls us ts d E k,∀c∈e.cells,c.In K
 | 0,_,e,he,c,hc=>by
  have he:e∈E:=he
  obtain ⟨i,hi,rfl⟩:=List.getElem_of_mem he
  have h1:=h0 i hi
  unfold nth at h1
  rw [oa,gl hi]at h1
  simp only[gv]at h1
  rw [h1]at hc
  simp only[gi,li,ua,or_false,or_self]at hc
  subst hc;exact .nils
 | k+1,hk,e,he,c,hc=>by
  have ih:=xQ (hn:=hn) (ls:=ls) (us:=us) (ts:=ts) (d:=d) (K:=K) h0 k (by omega)
  have hs:nth (elT hn ls us ts d E k) k=.agg [.nils,.nils]:=by rw[JX k (cg _)];exact h0 k (by omega)
  simp only[elT]at he
  rcases List.mem_or_eq_of_mem_set he with he | rfl
  .exact ih e he c hc
  .unfold FQ.el at hc
   dsimp only at hc
   rw [hs]at hc
   simp only[gi,li,ua,or_false]at hc
   rcases hc with rfl | rfl
   .exact Afs
   .exact .nils
def e_best2:Nat×Ent:=(18,.x (A9 JV JW Il))
theorem Aft (a b:BX) (st:Store) (h:JV a=JV b) (hx:JW a st) (hy:JW b st):Il a st=Il b st:=by
 obtain ⟨hn,ls,us,ts,d,E⟩:=a
 obtain ⟨hn',ls',us',ts',d',E'⟩:=b
 simp only[JV,Tp,ix,and_true,qt,true_and,qr,s6,AF,AG,Cq]at h
 obtain ⟨e2,e3,e4,e5,f1,f2,f3,f4,f5⟩:=h
 have hd:d=d':=qu f1 (qu f2 (qu f3 (qu f4 f5)))
 have h1:=hx.2.1.symm.trans hy.2.1
 simp only[bp,q8,true_and]at h1
 subst e2 e3 e4 e5 hd h1
 rfl
theorem Afu {hn:Int} {ls:List Lnk} {us:List Snd} {ts:List Trp} {d:Dem} (E:List PV) {st:Store} (h:JW ⟨hn,ls,us,ts,d,E⟩ st) :
  A9 JV JW Il [.agg (Tp hn ls us ts d),.func (.func 36) [] [.ptr 2 0 0 0]] st=some (Il ⟨hn,ls,us,ts,d,E⟩ st) :=
 Bc Aft (i:=⟨hn,ls,us,ts,d,E⟩) h
theorem Afv:AM pk e_best2.1 e_best2.2:=Fy λx st hx=>by
 obtain ⟨hn,ls,us,ts,d,E⟩:=x
 obtain ⟨ob,M0⟩:=st
 unfold JW at hx
 dsimp only at hx
 obtain ⟨o2,o1,hEr,hv,hD12,wf,hpr,hb0⟩:=hx
 have hEl:E.length=2 ^ ts.length:=by rw[hEr,ft]
 have hE0:∀s,s<E.length->nth E s=.agg [.nils,.nils]:=λs hs=>by
  rw [hEr]at hs ⊢
  rw [ft]at hs
  unfold nth
  rw [oa,fq,if_pos hs];rfl
 have hEa:∀s,s<E.length->∃a b,nth E s=.agg [a,b]:=λs hs=>⟨_,_,hE0 s hs⟩
 have V:=vck_iff.1 hv
 have hn4:=V.few
 have hll:=V.size.2.1
 have hwn:=V.size.1
 have h16:2 ^ ts.length<=2 ^ 4:=vd (by omega) hn4
 have hsh:=LS (k:=ts.length) (by omega)
 have hk0:¬(ts.length:Int)<0:=by omega
 have hk64:ts.length<=64:=by omega
 have l2:2<M0:=wf _ _ o2
 simp only[JV,Il]
 obtain ⟨R,hR0⟩:∃R,BX.b ⟨hn,ls,us,ts,d,E⟩=R:=⟨_,rfl⟩
 rw [hR0]at hb0 ⊢
 obtain ⟨N,hN⟩:∃N,2 ^ ts.length=N:=⟨_,rfl⟩
 rw [hN]at hsh h16 hEl hpr ⊢
 have hR:Cn hn ls us ts d N=R:=by rw[<-hN];exact hR0
 have hnod:∀s:Nat,AV (wHn hn ts) d<=268:=λs=>by
  have h1:(wHn hn ts).toNat<=12:=by unfold wHn;omega
  unfold AV
  exact Nat.le_trans (Nat.mul_le_mul (show Ap d+1<=13 by omega) h1) (by decide)
 have d1:¬M0=0/\¬M0=1/\¬1=M0/\¬M0=2/\¬2=M0/\¬M0+1=1/\¬1=M0+1/\¬M0+1=2/\¬2=M0+1/\¬M0=M0+1/\¬M0+1=M0:=by omega
 refine BT AQ (l := [e_wide,e_find2,e_passage,e_vcost]) ((Ad PR (Ad Afq (Ad RG (Ad N8 Au))))) [4,6] [] 0 Tryz.func18 rfl (by decide +kernel) (N:=55) rfl (by simp) rfl (by kernel_rfl) ?_
 simp only[↓bdD,bdP,seval,kp,e_wide,e_find2,e_passage,e_vcost,Tryz.f18,BF,Be,B5,hk0,hk64,hsh]
 refine Aw [7,8,9,10,11,12,13,18,19,20,21,22,23,24,25,26,27,28,29,30,31,32,33,34,35,36,37,38,39,40,41,42,43,44,45,46,47,48,49,50] N (λs ρ st'=>ρ 18=I s/\ρ 7=I (Cn hn ls us ts d s).1/\(∃c1 c2,st'.obj (M0+1)=some (.arr 0 2 [.agg [c1,c2]])/\(c1=Ay (Cn hn ls us ts d s).2.1/\c2=ints (Cn hn ls us ts d s).2.2\/(Cn hn ls us ts d s).1<0))/\st'.obj M0=some (.arr 0 2 [.agg [.nils,.nils]])/\st'.obj 2=some (.arr 0 1 [.ref 1 0 0 E.length])/\st'.obj 1=some (.arr 0 2 (elT hn ls us ts d E s))/\(∀i,i<M0->¬i=1->st'.obj i=ob i)/\M0+2<=st'.next) (.refl _) ?_ ?_
 .simp only[↓bdD,bdP,seval,Cn,elT,d1,o1,o2]
  exact ⟨⟨_,_,rfl,rfl⟩,λi hi _=>by rw[Ab,if_neg (by omega),Ab,if_neg (by omega)]⟩
 rintro s ρ ⟨ob2,M⟩ hs2 ⟨h18,h7,⟨c1,c2,p1,hc⟩,p0,q2,q1,qe,hM⟩
 dsimp only at p1 p0 q2 q1 qe hM
 have m1:¬M=M0/\¬M0=M/\¬M=M0+1/\¬M0+1=M/\¬M=1/\¬1=M/\¬M=2/\¬2=M:=by omega
 by_cases hlt:s<N
 .have hwk:nm.wrap ((s:Int)+1)=((s+1:Nat):Int):=by rw[Af (by omega) (by omega)];omega
  have hli:(s:Int)<(N:Int):=by omega
  have sw:=PP (hn:=hn) (ls:=ls) (us:=us) (ts:=ts) (d:=d) (s:=s)
  rw [if_pos ⟨hv,by omega⟩]at sw
  have eB:Cn hn ls us ts d (s+1)=if Dc hn ls us ts d s=0/\((Cn hn ls us ts d s).1<0\/Ft hn ls us ts d s<(Cn hn ls us ts d s).1)then (Ft hn ls us ts d s,TH hn ls us ts d s,P7 hn ls us ts d s)else Cn hn ls us ts d s:=rfl
  have eE:elT hn ls us ts d E (s+1)=(elT hn ls us ts d E s).set s (FQ.el ⟨s,wHn hn ts,wLs hn ls ts d s,wUs ls us ts d s,d,elT hn ls us ts d E s⟩):=rfl
  have he:∃a b,nth (elT hn ls us ts d E s) s=.agg [a,b]:=by rw[JX s (cg _)];exact hEa s (by omega)
  have hL:=Of (hn:=hn) (ls:=ls) (us:=us) (ts:=ts) (d:=d) (E:=E) s
  generalize Cn hn ls us ts d (s+1)=B2 at *
  generalize Cn hn ls us ts d s=B at *
  generalize elT hn ls us ts d E (s+1)=E2 at *
  generalize elT hn ls us ts d E s=EL at *
  have sf:∀st:Store,st.obj 2=some (.arr 0 1 [.ref 1 0 0 E.length])->st.obj 1=some (.arr 0 2 EL)->_:=λst a b=>Afp (s:=s) (hn:=wHn hn ts) (ls:=wLs hn ls ts d s) (us:=wUs ls us ts d s) (d:=d) EL (st:=st) ⟨by dsimp only;rw[hL];exact a,b,by dsimp only;omega,he,hnod 0,hpr s hlt⟩
  simp only[Ik]at sf
  rw [<-eE]at sf
  have h:Qg hn ls us ts d s=0:=hpr s hlt
  have hch:Dc hn ls us ts d s=0:=Afr h
  have hpb:=aM hch
  have sp:=RF (hn:=hn) (ls:=ls) (us:=us) (ts:=ts) (d:=d) (l:=KX hn ls us ts d s)
  rw [if_pos ⟨by omega,hn4,hpb⟩]at sp
  unfold Ft TH P7 at eB
  unfold KX at sp eB
  have h0:=hch
  generalize wHn hn ts=wh at *
  generalize wLs hn ls ts d s=wl at *
  generalize wUs ls us ts d s=wu at *
  generalize hC:Da wh wl wu d=C at *
  generalize hS:psS ls.length C=S at *
  generalize hO:psO ls.length ts.length C=O at *
  by_cases a1:B.1<0
  .rw [if_pos ⟨h0,.inl a1⟩]at eB
   subst eB
   simp only[↓bdD,bdP,seval,kp,kd,Fq,Ac,Aa,AC,ty3,AO,Be,B5,BG,h18,h7,p1,p0,q2,q1,d1,m1,hlt,hli,hwk,sw,sf,sp,a1,Av]
   exact ⟨⟨_,_,⟨rfl,rfl⟩,.inl ⟨rfl,rfl⟩⟩,λi hi h1=>by rw[Ab,if_neg (by omega),Ab,if_neg (by omega),Ab,if_neg h1];exact qe i hi h1,by omega⟩
  by_cases a2:Gc hn ls us ts d S O<B.1
  .rw [if_pos ⟨h0,.inr a2⟩]at eB
   subst eB
   simp only[↓bdD,bdP,seval,kp,kd,Fq,Ac,Aa,AC,ty3,AO,Be,B5,BG,h18,h7,p1,p0,q2,q1,d1,m1,hlt,hli,hwk,sw,sf,sp,a1,a2,Av]
   exact ⟨⟨_,_,⟨rfl,rfl⟩,.inl ⟨rfl,rfl⟩⟩,λi hi h1=>by rw[Ab,if_neg (by omega),Ab,if_neg (by omega),Ab,if_neg h1];exact qe i hi h1,by omega⟩
  .rw [if_neg (λg=>by rcases g.2 with g | g;exact a1 g;exact a2 g)]at eB
   subst eB
   simp only[↓bdD,bdP,seval,kp,kd,Fq,Ac,Aa,AC,ty3,AO,Be,B5,BG,h18,h7,p1,p0,q2,q1,d1,m1,hlt,hli,hwk,sw,sf,sp,a1,a2,Av]
   rcases hc with hc | hc
   .exact ⟨⟨_,_,⟨rfl,rfl⟩,hc⟩,λi hi h1=>by rw[Ab,if_neg (by omega),Ab,if_neg h1];exact qe i hi h1,by omega⟩
   .exact absurd hc a1
 .have e:s=N:=by omega
  subst e
  rw [hR]at h7 hc
  have hli:¬(s:Int)<(s:Int):=by omega
  have a1:=hb0
  .rcases hc with ⟨rfl,rfl⟩ | hc
   .simp only[↓bdD,bdP,seval,Ao,kd,B5,h18,h7,p1,p0,d1,hli,a1]
    refine ⟨[],.inl rfl,λi o hi=>?_,cg _,?_⟩
    .by_cases e1:i=1
     .subst e1
      simp only[Ab,if_true]at hi
      refine ⟨by show 1<M0;omega,rfl,?_,.inr ?_⟩
      .rw [<-hi]
       show Ab _ _ _ 1=_
       rw [Ab,if_neg (by omega)];exact q1
      .obtain rfl:=Option.some.inj hi
       exact xQ hE0 _ (by omega)
     .simp only[Ab,if_neg e1]at hi
      have hlt':=wf i o hi
      refine ⟨hlt',rfl,?_,.inl hi⟩
      show Ab _ _ _ i=_
      rw [Ab,if_neg (by omega)]
      exact (qe i hlt' e1).trans hi
    .refine .tuple _ λc hc=>?_
     simp only[li,ua,or_false]at hc
     rcases hc with rfl | rfl
     .refine .agg _ λc hc=>?_
      simp only[li,ua,or_false]at hc
      rcases hc with rfl | rfl
      .exact ZX
      .exact bF
     .exact .int _ _
   .exact absurd hc a1
def J7 (hn:Int) (ls:List Lnk) (us:List Snd) (ts:List Trp) (d:Dem):List Prf:=(br (2 ^ ts.length)).map λs=>(Dq (wHn hn ts) (wLs hn ls ts d s) (wUs ls us ts d s) d,[])
theorem xR {hn:Int} {ls:List Lnk} {us:List Snd} {ts:List Trp} {d:Dem} {E:List PV} {s:Nat} (hs:s<E.length) (h0:nth E s=.agg [.nils,.nils]):∀k,s<k->nth (elT hn ls us ts d E k) s=.agg [Hi (Dq (wHn hn ts) (wLs hn ls ts d s) (wUs ls us ts d s) d),.nils]
 | 0,h=>absurd h (by omega)
 | k+1,h=>by
  simp only[elT]
  by_cases e:s=k
  .subst e
   have hl:=Of (hn:=hn) (ls:=ls) (us:=us) (ts:=ts) (d:=d) (E:=E) s
   have hn0:=JX (hn:=hn) (ls:=ls) (us:=us) (ts:=ts) (d:=d) (E:=E) (s:=s) s (cg _)
   rw [h0]at hn0
   generalize elT hn ls us ts d E s=L at *
   unfold nth
   rw [oa,List.getElem?_set_self (by omega)]
   unfold FQ.el
   dsimp only[gv]
   rw [hn0];rfl
  .have ih:=xR (hn:=hn) (ls:=ls) (us:=us) (ts:=ts) (d:=d) hs h0 k (by omega)
   rw [<-ih]
   generalize elT hn ls us ts d E k=L
   unfold nth
   rw [oa,gc (by omega),<-oa]
theorem Ali {hn:Int} {ls:List Lnk} {us:List Snd} {ts:List Trp} {d:Dem} {l:List Snd} {o:List Int} {st:Store} {N:Nat} {L:List PV} (hl:L.length=N) (hel:∀s,s<N->nth L s=.agg [Hi (Dq (wHn hn ts) (wLs hn ls ts d s) (wUs ls us ts d s) d),.nils]) (h1:st.obj 1=some (.arr 0 2 L)) :
  DR st (.tuple [.agg [Ay l,ints o],.ref 1 0 0 N,I 0]) (.tuple [.agg [Ay l,ints o],TL ((br N).map λs=>(Dq (wHn hn ts) (wLs hn ls ts d s) (wUs ls us ts d s) d,[])),I 0]):=by
 have ha:st.arr? 1 0=some (2,L):=by simp[Store.arr?,h1]
 have key:∀(i:Nat) (e q:PV),L[0+i]?=some e->(((br N).map λs=>(Dq (wHn hn ts) (wLs hn ls ts d s) (wUs ls us ts d s) d,([]:List Int))).map Wk)[i]?=some q->q=.agg [Hi (Dq (wHn hn ts) (wLs hn ls ts d i) (wUs ls us ts d i) d),ints []]/\e=.agg [Hi (Dq (wHn hn ts) (wLs hn ls ts d i) (wUs ls us ts d i) d),.nils]:=λi e q he hq=>by
  rw [Nat.zero_add]at he
  obtain ⟨hi,rfl⟩:=ab.1 he
  obtain ⟨hi2,rfl⟩:=ab.1 hq
  refine ⟨by simp only[List.getElem_map,List.getElem_range],?_⟩
  rw [<-hel i (by omega)]
  unfold nth
  rw [oa,gl hi];rfl
 refine DR.tuple3 (.pure _ ?_) ?_ (.int rfl)
 .simp only[PV.pur,AU,Ac,G1,Bool.and_self]
 .refine .ref 1 0 0 N 2 _ _ ha (by omega) (by simp) (λi e q he hq=>?_) (λi e q he hq=>?_)
  .obtain ⟨rfl,rfl⟩:=key i e q he hq
   exact ⟨rfl,rfl⟩
  .obtain ⟨rfl,rfl⟩:=key i e q he hq
   exact DR.aggs (.cons (.pure _ (by simp only[PV.pur];exact DB)) rfl (.cons (.nils _) rfl .nil))
def Gi:Int×List Lnk×List Snd×List Trp×Dem->List PV:=λ(hn,ls,us,ts,d) => [.agg [I hn,AS ls,Ay us,CU ts,I d.1,I d.2.1,I d.2.2.1,I d.2.2.2.1,I d.2.2.2.2]]
def Mf:Int×List Lnk×List Snd×List Trp×Dem->PV:=λ(hn,ls,us,ts,d)=>.tuple [.agg [Ay (J6 hn ls us ts d).2.1,ints (J6 hn ls us ts d).2.2],TL (J7 hn ls us ts d),I 0]
def Wu:Int×List Lnk×List Snd×List Trp×Dem->Prop:=λ(hn,ls,us,ts,d)=>El hn ls us ts d=0/\Ap d<=12/\(∀s,s<2 ^ ts.length->Qg hn ls us ts d s=0)/\¬(J6 hn ls us ts d).1<0
def e_vprove:Nat×Ent:=(16,.v (An Gi Mf Wu))
theorem xS:∀i j,Gi i=Gi j->i=j:=by
 rintro ⟨_,_,_,_,_⟩ ⟨_,_,_,_,_⟩ h
 simp only[Gi,ix,and_true,s6,qt,qr,true_and,AG,AF,Cq]at h
 simp [tn,h] <;> omega
theorem xT (hn:Int) (ls:List Lnk) (us:List Snd) (ts:List Trp) (d:Dem):An Gi Mf Wu [.agg [I hn,AS ls,Ay us,CU ts,I d.1,I d.2.1,I d.2.2.1,I d.2.2.2.1,I d.2.2.2.2]]=@ite (Option (PV)) (El hn ls us ts d=0/\Ap d<=12/\(∀s,s<2 ^ ts.length->Qg hn ls us ts d s=0)/\¬(J6 hn ls us ts d).1<0) (qo _) (some (.tuple [.agg [Ay (J6 hn ls us ts d).2.1,ints (J6 hn ls us ts d).2.2],TL (J7 hn ls us ts d),I 0])) none:=Bs xS (hn,ls,us,ts,d)
def xU:Prop:=∀(hn:Int) (ls:List Lnk) (us:List Snd) (ts:List Trp) (d:Dem) (h:El hn ls us ts d=0/\Ap d<=12/\(∀s,s<2 ^ ts.length->Qg hn ls us ts d s=0)/\¬(J6 hn ls us ts d).1<0) ,VC pk 16 (Gi (hn,ls,us,ts,d)) (Mf (hn,ls,us,ts,d))
theorem xV:xU:=by
 rintro hn ls us ts d ⟨h,hD,hpr,a1⟩
 dsimp only[Gi,Mf]
 refine OX [11] AQ (l := [e_vcheck,e_wide,e_pcheck,e_best2]) ((Ad PI (Ad PR (Ad LO (Ad Afv Au))))) [] [] 0 0 Tryz.func16 rfl (by decide +kernel) (N:=40) rfl (by simp) rfl (by kernel_rfl) λhs=>?_
 simp only[AK,PV.small,ow,and_true,true_and]at hs
 unfold J7
 have V:=vck_iff.1 h
 have hn4:=V.few
 have h16:2 ^ ts.length<=2 ^ 4:=vd (by omega) hn4
 have hsh:=LS (k:=ts.length) (by omega)
 have hk0:¬(ts.length:Int)<0:=by omega
 have hk64:ts.length<=64:=by omega
 have sw:=PP (hn:=hn) (ls:=ls) (us:=us) (ts:=ts) (d:=d) (s:=0)
 rw [if_pos ⟨h,by omega⟩,show ((0:Nat):Int)=0 from rfl]at sw
 have h2:Ek (wHn hn ts) (wLs hn ls ts d 0) (wUs ls us ts d 0) d=0:=by
  have := hpr 0 (Nat.two_pow_pos _)
  unfold Qg KW at this
  split at this
  .rename_i g;exact absurd this g
  .rename_i g;exact Classical.not_not.1 g
 obtain ⟨N,hN⟩:∃N,2 ^ ts.length=N:=⟨_,rfl⟩
 obtain ⟨B,hB⟩:∃B,J6 hn ls us ts d=B:=⟨_,rfl⟩
 have eb:BX.b ⟨hn,ls,us,ts,d,ba N (.agg [.nils,.nils])⟩=B:=hB
 have sb:∀st:Store,st.obj 2=some (.arr 0 1 [.ref 1 0 0 N])->st.obj 1=some (.arr 0 2 (ba N (.agg [.nils,.nils])))->(∀i o,st.obj i=some o->i<st.next)->_:=λst a b c=>Afu (hn:=hn) (ls:=ls) (us:=us) (ts:=ts) (d:=d) (ba N (.agg [.nils,.nils])) (st:=st) ⟨by dsimp only;rw[ft];exact a,b,by dsimp only;rw[hN],h,hD,c,hpr,a1⟩
 rw [hB]
 rw [hN]at hsh h16 ⊢
 have hNi:(N:Int)<=4294967296:=by omega
 have hN0:¬(N:Int)<0:=by omega
 simp only[Il,eb]at sb
 dsimp only[Tp,AS,Ay,CU,ints]at sb
 rw [hN]at sb
 have hwf:∀i o,(Ab (Ab (Ab (λi=>if i<0 then some (IObj.arr 0 1 [])else none) 0 (some (.arr 0 2 [.agg [.nils,.nils]]))) 1 (some (.arr 0 2 (ba N (.agg [.nils,.nils]))))) 2 (some (.arr 0 1 [.ref 1 0 0 N]))) i=some o->i<3:=λi o g=>by
  unfold Ab at g
  split at g
  .omega
  .split at g
   .omega
   .split at g
    .omega
    .have g2:(if i<0 then some (IObj.arr 0 1 [])else none)=some o:=g
     rw [if_neg (by omega)]at g2;cases g2
 have hel:=λs (hs:s<N)=>xR (hn:=hn) (ls:=ls) (us:=us) (ts:=ts) (d:=d) (E:=ba N (.agg [.nils,.nils])) (s:=s) (by rw[ft];exact hs) (by unfold nth;rw[oa,fq,if_pos hs];rfl) N hs
 have hll:=Of (hn:=hn) (ls:=ls) (us:=us) (ts:=ts) (d:=d) (E:=ba N (.agg [.nils,.nils])) N
 rw [ft]at hll
 generalize elT hn ls us ts d (ba N (.agg [.nils,.nils])) N=L at *
 have dr:=λst=>Ali (hn:=hn) (ls:=ls) (us:=us) (ts:=ts) (d:=d) (l:=B.2.1) (o:=B.2.2) (st:=st) hll hel
 clear hpr
 simp +contextual (maxSteps:=4000000) only[↓bdD,bdP,seval,kp,kd,e_vcheck,EX,e_wide,e_pcheck,CA,e_best2,Ac,Aa,AC,Tryz.f16,ty3,BF,Be,B5,FL,BG,Ams,Lr,↓A6,↓AP,↓Ar,↓AH,h,sw,h2,hsh,hk0,hk64,hNi,sb,hwf,Av]
 refine Ym 1 2 (by rfl) (by kernel_rfl) ?_ ?_
 .simp only[↓bdD,bdP,seval,Ao,kd,B5,FL,↓Ev]
  exact dr _ rfl
 .simp only[atO,Qq,List.length_cons,List.length_nil,Nat.reduceAdd,show br 5 = [0,1,2,3,4] from rfl,List.flatMap_cons,List.flatMap_nil,Nat.reduceEqDiff,if_false,if_true,kh,xq,List.append_nil,xr,xu,xv,qx,gp,Nat.reduceLT]
  simp only[↓bdD,bdP,seval,Ao,kd,B5,FL,↓Ev]
  exact dr _ rfl
theorem xW:AM pk e_vprove.1 e_vprove.2:=Ax λ⟨hn,ls,us,ts,d⟩ h=>xV hn ls us ts d h
def tkN (H:List Int) (h:Nat) (b:Int):Int:=if H.getD h 0<b then H.getD h 0 else b
def tkH (H:List Int) (h:Nat) (b:Int):List Int:=H.set h (nm.wrap (H.getD h 0-tkN H h b))
structure TK where
 A : Nat
 H : List Int
 h : Nat
 b : Int
def Jl (x:TK):List PV := [I (x.h:Nat),I x.b,.ptr x.A 0 0 0]
def Jm (x:TK) (st:Store):Prop:=st.obj x.A=some (.arr 0 12 [.agg (x.H.map (mt .i64))])/\x.H.length=12/\x.h<12
def Jn (x:TK) (st:Store):PV×Store:=(I (tkN x.H x.h x.b),⟨Ab st.obj x.A (some (.arr 0 12 [.agg ((tkH x.H x.h x.b).map (mt .i64))])),st.next⟩)
def e_take:Nat×Ent:=(31,.x (A9 Jl Jm Jn))
theorem Alj (a b:TK) (st:Store) (h:Jl a=Jl b) (hx:Jm a st) (hy:Jm b st):Jn a st=Jn b st:=by
 obtain ⟨A,H,u,v⟩:=a
 obtain ⟨A',H',u',v'⟩:=b
 simp only[Jl,ix,and_true,qt,true_and,PV.ptr.injEq]at h
 obtain ⟨e1,e2,e3⟩:=h
 have e1:u=u':=by omega
 subst e1 e2 e3
 have h1:=hx.1.symm.trans hy.1
 simp only[bp,q8,ix,qr,true_and,and_true,B7]at h1
 subst h1
 rfl
theorem xX {A h:Nat} {b:Int} (H:List Int) {st:Store} (g:Jm ⟨A,H,h,b⟩ st):A9 Jl Jm Jn [I (h:Nat),I b,.ptr A 0 0 0] st=some (Jn ⟨A,H,h,b⟩ st):=Bc Alj (i:=⟨A,H,h,b⟩) g
theorem Mg {H:List Int} {h:Nat} {v:Int} (hl:h<H.length):sy h (H.map (mt .i64)) ++ [mt .i64 v]++List.drop (h+1) (H.map (mt .i64))=(H.set h v).map (mt .i64):=by
 rw [List.map_set,List.set_eq_take_append_cons_drop,if_pos (by rw[ow];exact hl),List.append_assoc];rfl
theorem Eh {H:List Int} {h:Nat} (hl:h<H.length):(H.map (mt .i64))[h]?=some (I (H.getD h 0)):=by
 rw [bw,oa,gl hl];rfl
theorem Alk:AM pk e_take.1 e_take.2:=Cf λx st hx=>by
 obtain ⟨A,H,h,b⟩:=x
 obtain ⟨ob,M⟩:=st
 unfold Jm at hx
 dsimp only at hx
 obtain ⟨h1,hl,hh⟩:=hx
 simp only[Jl,Jn]
 have hg:=Eh (H:=H) (h:=h) (by omega)
 have hs:=Mg (H:=H) (h:=h) (v:=nm.wrap (H.getD h 0-tkN H h b)) (by omega)
 have hi:(h:Int)<12:=by omega
 have hi2:h<=11:=by omega
 have hml:(H.map (mt .i64)).length=12:=by rw[ow,hl]
 unfold tkH
 unfold tkN at hs ⊢
 refine BT AQ (l := []) (Au) [] [] 0 Tryz.func31 rfl (by decide +kernel) (N:=19) rfl (by simp) rfl (by kernel_rfl) ?_
 simp only[↓bdD,bdP,seval,Ao,kd,s4,Tryz.f31,ty3,Yo,h1,hg,hi,hi2]
 rw [hs]
 exact Left.refl
def adI (l:List Int) (i:Nat) (v:Int):List Int:=l.set i (nm.wrap (l.getD i 0+v))
def mvT (H G:List Int):Nat->List Int×List Int
 | 0=>(H,G)
 | k+1=>(adI (mvT H G k).1 k ((mvT H G k).2.getD k 0),(mvT H G k).2.set k 0)
def inT (ts:List Trp) (arr C:List Int) (τ:Int) (H:List Int):Nat->List Int
 | 0=>H
 | k+1=>if arr.getD k 0=τ then adI (inT ts arr C τ H k) (ts.getD k dT).2.1.toNat (C.getD k 0)else inT ts arr C τ H k
def ouT (ts:List Trp) (o:List Int) (τ:Int) (H C:List Int):Nat->List Int×List Int
 | 0=>(H,C)
 | k+1=>if (ts.getD k dT).2.2.1=τ then (tkH (ouT ts o τ H C k).1 (ts.getD k dT).1.toNat (o.getD k 0),(ouT ts o τ H C k).2.set k (tkN (ouT ts o τ H C k).1 (ts.getD k dT).1.toNat (o.getD k 0)))else ouT ts o τ H C k
def seT (ls:List Lnk) (l:List Snd) (τ:Int) (H G:List Int):Nat->List Int×List Int
 | 0=>(H,G)
 | k+1=>if (l.getD k dS).2.1=τ then (tkH (seT ls l τ H G k).1 (AB ls (l.getD k dS)).1.toNat (l.getD k dS).2.2,adI (seT ls l τ H G k).2 (AB ls (l.getD k dS)).2.1.toNat (tkN (seT ls l τ H G k).1 (AB ls (l.getD k dS)).1.toNat (l.getD k dS).2.2))else seT ls l τ H G k
abbrev HGC:=List Int×List Int×List Int
def inA (d:Dem) (τ:Int) (H:List Int):List Int:=if τ=d.2.2.2.1 then adI H d.1.toNat d.2.2.1 else H
def dyA (ts:List Trp) (d:Dem) (arr:List Int) (τ:Int) (S:HGC):HGC:=(inT ts arr S.2.2 τ (inA d τ (mvT S.1 S.2.1 12).1) ts.length,(mvT S.1 S.2.1 12).2,S.2.2)
def dyB (ls:List Lnk) (ts:List Trp) (l:List Snd) (o:List Int) (τ:Int) (S:HGC):HGC :=
 ((seT ls l τ (ouT ts o τ S.1 S.2.2 ts.length).1 S.2.1 l.length).1,(seT ls l τ (ouT ts o τ S.1 S.2.2 ts.length).1 S.2.1 l.length).2,(ouT ts o τ S.1 S.2.2 ts.length).2)
def dlS (ls:List Lnk) (ts:List Trp) (d:Dem) (l:List Snd) (o arr:List Int):Nat->HGC
 | 0=>(ba 12 0,ba 12 0,ba 4 0)
 | t+1=>dyB ls ts l o (d.2.2.2.1+(t:Int)) (dyA ts d arr (d.2.2.2.1+(t:Int)) (dlS ls ts d l o arr t))
def arB (ts:List Trp) (arr:List Int) (k:Nat):Prop:=arr.getD k 0 ≠ -1/\(arr.getD k 0<=(ts.getD k dT).2.2.1\/1000000<arr.getD k 0)
instance (ts:List Trp) (arr:List Int) (k:Nat):Decidable (arB ts arr k):=inferInstanceAs (Decidable (_/\_))
def Nm (hn:Int) (ls:List Lnk) (us:List Snd) (ts:List Trp) (d:Dem) (l:List Snd) (o arr:List Int):Int :=
 if Jj hn ls us ts d l o≠0 then Jj hn ls us ts d l o else if arr.length≠ts.length then 1 else if ¬ ∀k,k<ts.length->¬arB ts arr k then 1 else 0
def Qh (hn:Int) (ls:List Lnk) (us:List Snd) (ts:List Trp) (d:Dem) (l:List Snd) (o arr:List Int):Int :=
 if Nm hn ls us ts d l o arr≠0 then 0 else (dyA ts d arr (d.2.2.2.1+(Ap d:Int)) (dlS ls ts d l o arr (Ap d))).1.getD d.2.1.toNat 0
section
variable {l:List Int} {i:Nat} {v:Int}
theorem Og:(adI l i v).length=l.length:=by unfold adI;rw[ra]
theorem bG:(tkH l i v).length=l.length:=by unfold tkH;rw[ra]
end
theorem JY {H G:List Int}:∀k,(mvT H G k).1.length=H.length/\(mvT H G k).2.length=G.length
 | 0=>⟨rfl,rfl⟩
 | k+1=>by have:=JY (H:=H) (G:=G) k;simp only[mvT,Og,ra];exact this
theorem Mh {ts:List Trp} {arr C H:List Int} {τ:Int}:∀k,(inT ts arr C τ H k).length=H.length
 | 0=>rfl
 | k+1=>by have:=Mh (ts:=ts) (arr:=arr) (C:=C) (H:=H) (τ:=τ) k;simp only[inT];split <;> simp only[Og,this]
theorem Im {ts:List Trp} {o C H:List Int} {τ:Int}:∀k,(ouT ts o τ H C k).1.length=H.length/\(ouT ts o τ H C k).2.length=C.length
 | 0=>⟨rfl,rfl⟩
 | k+1=>by have:=Im (ts:=ts) (o:=o) (C:=C) (H:=H) (τ:=τ) k;simp only[ouT];split <;> simp only[bG,ra,this,and_self]
theorem JZ {ls:List Lnk} {l:List Snd} {H G:List Int} {τ:Int}:∀k,(seT ls l τ H G k).1.length=H.length/\(seT ls l τ H G k).2.length=G.length
 | 0=>⟨rfl,rfl⟩
 | k+1=>by have:=JZ (ls:=ls) (l:=l) (H:=H) (G:=G) (τ:=τ) k;simp only[seT];split <;> simp only[bG,Og,this,and_self]
theorem inA_len {d:Dem} {τ:Int} {H:List Int}:(inA d τ H).length=H.length:=by unfold inA;split <;> simp only[Og]
theorem dyA_len {ts:List Trp} {d:Dem} {arr:List Int} {τ:Int} {S:HGC}:(dyA ts d arr τ S).1.length=S.1.length/\(dyA ts d arr τ S).2.1.length=S.2.1.length/\(dyA ts d arr τ S).2.2.length=S.2.2.length:=by
 unfold dyA
 refine ⟨?_,?_,rfl⟩
 .show (inT _ _ _ _ _ _).length=_
  rw [Mh,inA_len];exact (JY 12).1
 .exact (JY 12).2
theorem Afw {ls:List Lnk} {ts:List Trp} {l:List Snd} {o:List Int} {τ:Int} {S:HGC}:(dyB ls ts l o τ S).1.length=S.1.length/\(dyB ls ts l o τ S).2.1.length=S.2.1.length/\(dyB ls ts l o τ S).2.2.length=S.2.2.length:=by
 unfold dyB
 refine ⟨?_,?_,?_⟩
 .exact (JZ _).1.trans (Im _).1
 .exact (JZ _).2
 .exact (Im _).2
theorem bH {ls:List Lnk} {ts:List Trp} {d:Dem} {l:List Snd} {o arr:List Int}:∀t,(dlS ls ts d l o arr t).1.length=12/\(dlS ls ts d l o arr t).2.1.length=12/\(dlS ls ts d l o arr t).2.2.length=4
 | 0=>by simp[dlS]
 | t+1=>by
  have ih:=bH (ls:=ls) (ts:=ts) (d:=d) (l:=l) (o:=o) (arr:=arr) t
  simp only[dlS]
  have h1:=Afw (ls:=ls) (ts:=ts) (l:=l) (o:=o) (τ:=d.2.2.2.1+(t:Int)) (S:=dyA ts d arr (d.2.2.2.1+(t:Int)) (dlS ls ts d l o arr t))
  have h2:=dyA_len (ts:=ts) (d:=d) (arr:=arr) (τ:=d.2.2.2.1+(t:Int)) (S:=dlS ls ts d l o arr t)
  omega
theorem Mi {H:List Int} {h:Nat} {v:Int} (hl:h<H.length):sy h (H.map (mt .i64)) ++ [mt .i64 (nm.wrap (H.getD h 0+v))]++List.drop (h+1) (H.map (mt .i64))=(adI H h v).map (mt .i64):=Mg hl
def tree44:Tree:=.two 9 0 (.one [4,5,6,7,8,9,0,1,2,3,10,11,12]) (.two 9 1 (.one [4,5,6,7,8,0,9,1,2,3,10,11,12]) (.two 9 2 (.one [4,5,6,7,8,0,1,9,2,3,10,11,12]) (.two 9 3 (.one [4,5,6,7,8,0,1,2,9,3,10,11,12]) (.one [4,5,6,7,8,0,1,2,3,9,10,11,12]))))
theorem Afx {P:List Nat->Prop} (h0:P [4,5,6,7,8,9,0,1,2,3,10,11,12]) (h1:P [4,5,6,7,8,0,9,1,2,3,10,11,12]) (h2:P [4,5,6,7,8,0,1,9,2,3,10,11,12]) (h3:P [4,5,6,7,8,0,1,2,9,3,10,11,12]) (h4:P [4,5,6,7,8,0,1,2,3,9,10,11,12]):∀r∈tree44.orders,P r:=by
 intro r hr
 simp only[tree44,Tree.orders,kh,xq,li,ua,or_false]at hr
 rcases hr with rfl | rfl | rfl | rfl | rfl <;> assumption
theorem K0 {x:Int} (h:0<=x):∃n:Nat,x=(n:Int):=⟨x.toNat,by omega⟩
def Gj (M:Nat) (d:Dem) (H G C:List Int) (st:Store):Prop:=st.obj M=some (.arr 0 12 [.agg (H.map (mt .i64))])/\st.obj (M+1)=some (.arr 0 12 [.agg (G.map (mt .i64))])/\st.obj (M+2)=some (.arr 0 4 [.agg (C.map (mt .i64))])/\st.obj (M+3)=some (.arr 0 5 [.agg [I d.1,I d.2.1,I d.2.2.1,I d.2.2.2.1,I d.2.2.2.2]])/\M+4<=st.next
def Io:Int×List Lnk×List Snd×List Trp×Dem×List Snd×List Int×List Int->List PV:=λ(hn,ls,us,ts,d,l,o,arr) => [.agg [I hn,AS ls,Ay us,CU ts,I d.1,I d.2.1,I d.2.2.1,I d.2.2.2.1,I d.2.2.2.2],.agg [Ay l,ints o],ints arr]
def Oh:Int×List Lnk×List Snd×List Trp×Dem×List Snd×List Int×List Int->PV:=λ(hn,ls,us,ts,d,l,o,arr)=>.tuple [I (Qh hn ls us ts d l o arr),I (Nm hn ls us ts d l o arr)]
def e_deliv:Nat×Ent:=(13,.v (An Io Oh AZ))
theorem Afy:∀i j,Io i=Io j->i=j:=by
 rintro ⟨_,_,_,_,_,_,_,_⟩ ⟨_,_,_,_,_,_,_,_⟩ h
 simp only[Io,ix,and_true,s6,qt,qr,true_and,B7,AG,AF,Cq]at h
 simp [tn,h] <;> omega
theorem Mj (hn:Int) (ls:List Lnk) (us:List Snd) (ts:List Trp) (d:Dem) (l:List Snd) (o:List Int) (arr:List Int):An Io Oh AZ [.agg [I hn,AS ls,Ay us,CU ts,I d.1,I d.2.1,I d.2.2.1,I d.2.2.2.1,I d.2.2.2.2],.agg [Ay l,ints o],ints arr]=some (.tuple [I (Qh hn ls us ts d l o arr),I (Nm hn ls us ts d l o arr)]):=AD Afy (i:=(hn,ls,us,ts,d,l,o,arr)) trivial
def Afz:Prop:=∀(hn:Int) (ls:List Lnk) (us:List Snd) (ts:List Trp) (d:Dem) (l:List Snd) (o:List Int) (arr:List Int) ,VC pk 13 (Io (hn,ls,us,ts,d,l,o,arr)) (Oh (hn,ls,us,ts,d,l,o,arr))
theorem Af0:Afz:=by
 intro hn ls us ts d l o arr
 dsimp only[Io,Oh]
 refine OX [44] AQ (l := [e_sched,e_take]) ((Ad Tt (Ad Alk Au))) [] [] 0 0 Tryz.func13 rfl (by decide +kernel) (N:=196) rfl (by simp) rfl (by kernel_rfl) λhs=>?_
 simp only[AK,PV.small,ow,and_true,true_and]at hs
 obtain ⟨RN,hRN⟩:∃R,Qh hn ls us ts d l o arr=R:=⟨_,rfl⟩
 obtain ⟨RE,hRE⟩:∃R,Nm hn ls us ts d l o arr=R:=⟨_,rfl⟩
 rw [hRN,hRE]
 unfold Qh at hRN
 rw [hRE]at hRN
 unfold Nm at hRE
 have sp:=Ts (hn:=hn) (ls:=ls) (us:=us) (ts:=ts) (d:=d) (l:=l) (o:=o)
 by_cases h1:Jj hn ls us ts d l o=0
 case neg =>
  rw [if_pos h1]at hRE
  rw [if_pos (by rw[<-hRE];exact h1)]at hRN
  subst hRE hRN
  simp only[↓bdD,bdP,seval,Ao,e_sched,e_take,Ac,Aa,AC,xw,Be,B5,↓AP,↓Ev,↓Ar,↓AH,h1,sp]
  exact xy (.int rfl) (.int rfl)
 rw [if_neg (λg=>g h1)]at hRE
 have S:=sch_zero.1 h1
 have V:=S.voy
 have hol:=S.loads
 have hn4:=V.few
 have okr:=S.right
 have okn:=okr.net
 obtain ⟨hf,hdm,hD,hdu⟩:=BL V.fck
 obtain ⟨⟨a0,a1⟩,⟨c0,c1⟩,hr⟩:=BR hdm
 have hr0:=hr.2.2.1
 have hr1:=hr.2.2.2.1
 have hr2:=hr.2.2.2.2
 have hh:=okn.houses
 have hl2:=S.len
 by_cases h2:arr.length=ts.length
 case neg =>
  rw [if_pos h2]at hRE
  rw [if_pos (by omega)]at hRN
  subst hRE hRN
  have h2i:¬(arr.length:Int)=(ts.length:Int):=by omega
  simp only[↓bdD,bdP,seval,Ao,e_sched,e_take,Ac,Aa,AC,xw,BF,Be,AR,B5,↓A6,↓AP,↓Ev,↓Ar,↓AH,h1,sp,h2i]
  exact xy (.int rfl) (.int rfl)
 have h2i:((arr.length:Int)=(ts.length:Int))=True:=eq_true (by omega)
 have h2t:=eq_true h2
 rw [if_neg (λg=>g h2)]at hRE
 simp only[↓bdD,bdP,seval,e_sched,e_take,Ac,Aa,AC,xw,BF,Be,AR,B5,↓A6,↓AP,↓AI,↓Ar,↓AH,h1,sp,h2i]
 refine Aw [6,7,10,11,44,45,46,47,48,49,50,51,52,53,54,55,56,57,58,59,60,61,62,63,64,65,66,67,68,69,70] ts.length (λk ρ st'=>ρ 44=I k/\∀i,i<k->¬arB ts arr i) (.refl _) ?_ ?_
 .simp only[↓bdD,bdP]
  exact λi hi=>absurd hi (by omega)
 rintro k ρ ⟨ob,M⟩ hk ⟨h44,hI⟩
 have m1:¬M=M+1/\¬M+1=M:=by omega
 by_cases hlt:k<ts.length
 .have hwk:nm.wrap ((k:Int)+1)=((k+1:Nat):Int):=by rw[Af (by omega) (by omega)];omega
  have hyk:=Ef hlt
  have hak:nth (arr.map (mt .i64)) k=I (arr.getD k 0):=BW 0 (by omega)
  have hka:k<arr.length:=by omega
  have hki:(k:Int)<(arr.length:Int):=by omega
  have bad:arB ts arr k->RE=1/\RN=0:=λg=>by
   rw [if_pos (λf=>f k hlt g)]at hRE
   rw [if_pos (by omega)]at hRN
   exact ⟨hRE.symm,hRN.symm⟩
  have hI2:¬arB ts arr k->∀i,i<k+1->¬arB ts arr i:=λg i hi=>by
   by_cases e:i=k
   .subst e;exact g
   .exact hI i (by omega)
  unfold arB at bad hI2
  generalize ha:arr.getD k 0=a at *
  generalize hy:ts.getD k dT=y at *
  by_cases b0:a = -1
  .have hI3:=hI2 (λg=>g.1 b0)
   clear hI2 bad
   have b0t:=eq_true b0
   simp only[↓bdD,bdP,seval,kp,kd,ty3,BF,AR,C7,↓A6,↓AP,↓AI,↓Ar,↓AH,h44,hlt,hyk,hak,hki,hwk,b0t,Av]
   exact hI3
  by_cases b1:a<=y.2.2.1
  .obtain ⟨e1,e2⟩:=bad ⟨b0,.inl b1⟩
   subst e1 e2
   simp only[↓bdD,bdP,seval,Ao,kp,kd,ty3,BF,AR,C7,↓A6,↓AP,↓AI,↓Ev,↓Ar,↓AH,h44,hlt,hyk,hak,hki,b0,b1,Av]
   exact xy (.int rfl) (.int rfl)
  by_cases b2:1000000<a
  .obtain ⟨e1,e2⟩:=bad ⟨b0,.inr b2⟩
   subst e1 e2
   simp only[↓bdD,bdP,seval,Ao,kp,kd,ty3,BF,AR,C7,↓A6,↓AP,↓AI,↓Ev,↓Ar,↓AH,h44,hlt,hyk,hak,hki,b0,b1,b2,Av]
   exact xy (.int rfl) (.int rfl)
  have hI3:=hI2 (λg=>by omega)
  clear hI2 bad
  simp only[↓bdD,bdP,seval,kp,kd,ty3,BF,AR,C7,↓A6,↓AP,↓AI,↓Ar,↓AH,h44,hlt,hyk,hak,hki,hwk,b0,b1,b2,Av]
  exact hI3
 have e:k=ts.length:=by omega
 subst e
 rw [if_neg (λg=>g hI)]at hRE
 subst hRE
 rw [if_neg (by decide)]at hRN
 clear hI hk m1
 obtain ⟨f0,hf0⟩:=K0 a0
 obtain ⟨t0,ht0⟩:=K0 c0
 have q1:¬M=M+1/\¬M=M+2/\¬M=M+3/\¬M+1=M/\¬M+1=M+2/\¬M+1=M+3/\¬M+2=M/\¬M+2=M+1/\¬M+2=M+3/\¬M+3=M/\¬M+3=M+1/\¬M+3=M+2:=by omega
 simp only[↓bdD,bdP,seval,kp,kd,ty3,AY,Be,Yo,Aii,↓AP,↓AI,↓Ci,↓Ar,↓AH,h44,hlt]
 refine Aw [16,17,18,19,20,21,22,24,25,75,76,77,78,79,80,81,82,83,84,85,86,87,88,89,90,91,92,93,94,95,96,97,98,99,100,101,102,103,104,105,106,107,108,109,110,111,112,113,114,115,116,117,118,119,120,121,122,123,124,125,126,127,128,129,130,131,132,133,134,135,136,137,138,139,140,141,142,143,144,145,146,147,148,149,150,151,152,153,154,155,156,157,158,159,160,161,162,163,164,165,166,167,168,169,170,171,172,173,174,175,176,177,178,179,180,181,182,183,184,185,186,187,188,189,190,191] (Ap d) (λt ρ st'=>ρ 16=I (d.2.2.2.1+(t:Int))/\Gj M d (dlS ls ts d l o arr t).1 (dlS ls ts d l o arr t).2.1 (dlS ls ts d l o arr t).2.2 st') (.refl _) ?_ ?_
 .simp only[↓bdD,bdP,Nat.reduceBeqDiff,Gj,dlS,q1]
  exact (Int.add_zero _).symm
 clear h44
 rintro t ρ1 ⟨ob1,M1⟩ ht ⟨h16,hI⟩
 have e1:dlS ls ts d l o arr (t+1)=dyB ls ts l o (d.2.2.2.1+(t:Int)) (dyA ts d arr (d.2.2.2.1+(t:Int)) (dlS ls ts d l o arr t)):=rfl
 obtain ⟨lH,lG,lC⟩:=bH (ls:=ls) (ts:=ts) (d:=d) (l:=l) (o:=o) (arr:=arr) t
 have hRN2:t=Ap d->(dyA ts d arr (d.2.2.2.1+(t:Int)) (dlS ls ts d l o arr t)).1.getD t0 0=RN:=λe=>by rw[e,<-hRN,ht0];rfl
 clear hRN
 generalize dlS ls ts d l o arr (t+1)=S2 at *
 generalize dlS ls ts d l o arr t=S at *
 obtain ⟨H,G,C⟩:=S
 unfold dyA dyB at e1
 unfold dyA at hRN2
 dsimp only at lH lG lC hI e1 hRN2
 have hle:d.2.2.2.1+(t:Int)<=d.2.2.2.2:=by omega
 have w16:nm.wrap (d.2.2.2.1+(t:Int)+1)=d.2.2.2.1+((t+1:Nat):Int):=by rw[Af (by omega) (by omega)];omega
 unfold Gj at hI
 dsimp only at hI
 obtain ⟨p0,p1,p2,p3,hM⟩:=hI
 simp only[↓bdD,bdP,seval,ty3,AY,↓A6,↓AP,↓AI,↓Ar,↓AH,h16,p3,hle]
 refine Aw [17,81,82,83,84,85,86,87,88,89,90,91,92,93,94,95] 12 (λk ρ st'=>ρ 81=I k/\Gj M d (mvT H G k).1 (mvT H G k).2 C st') (.refl _) ?_ ?_
 .simp only[↓bdD,bdP,Gj,mvT,p0,p1,p2,p3,hM]
 clear p0 p1 p2 p3 hM
 rintro k ρ2 ⟨ob2,M2⟩ hk ⟨h81,hI⟩
 unfold Gj at hI
 dsimp only at hI
 obtain ⟨p0,p1,p2,p3,hM⟩:=hI
 obtain ⟨lA,lB⟩:=JY (H:=H) (G:=G) k
 rw [lH]at lA
 rw [lG]at lB
 by_cases hlt:k<12
 .have hwk:nm.wrap ((k:Int)+1)=((k+1:Nat):Int):=by rw[Af (by omega) (by omega)];omega
  have eM1:(mvT H G (k+1)).1=adI (mvT H G k).1 k ((mvT H G k).2.getD k 0):=rfl
  have eM2:(mvT H G (k+1)).2=(mvT H G k).2.set k 0:=rfl
  rw [eM1,eM2]
  generalize (mvT H G k).1=A at *
  generalize (mvT H G k).2=B at *
  have gA:=Eh (H:=A) (h:=k) (by omega)
  have gB:=Eh (H:=B) (h:=k) (by omega)
  have sA:=Mi (H:=A) (h:=k) (v:=B.getD k 0) (by omega)
  have sB:=Mg (H:=B) (h:=k) (v:=0) (by omega)
  have mA:(A.map (mt .i64)).length=12:=by rw[ow,lA]
  have mB:(B.map (mt .i64)).length=12:=by rw[ow,lB]
  have hki:(k:Int)<12:=by omega
  have hk11:k<=11:=by omega
  simp only[↓bdD,bdP,seval,kd,s4,ty3,Yo,↓A6,↓AP,↓AI,↓Ar,↓AH,Gj,h81,hlt,hki,hk11,hwk,p0,p1,p2,p3,hM,q1,gA,gB]
  exact ⟨sA,sB⟩
 have e:k=12:=by omega
 subst e
 clear hk
 generalize (mvT H G 12).1=A at *
 generalize (mvT H G 12).2=B at *
 obtain ⟨H1,hH1⟩:∃H1,inA d (d.2.2.2.1+(t:Int)) A=H1:=⟨_,rfl⟩
 rw [hH1]at e1 hRN2
 have lH1:H1.length=12:=by rw[<-hH1,inA_len];exact lA
 unfold inA at hH1
 rcases ao t with tz | tz
 case' inl =>
  have ter:(d.2.2.2.1+(t:Int)=d.2.2.2.1)=True:=eq_true (by omega)
  rw [if_pos (by omega),hf0]at hH1
  have gA:=Eh (H:=A) (h:=f0) (by omega)
  have sA:=Mi (H:=A) (h:=f0) (v:=d.2.2.1) (by omega)
  rw [show ((f0:Nat):Int).toNat=f0 from pe _]at hH1
  rw [hH1]at sA
  have mA:(A.map (mt .i64)).length=12:=by rw[ow,lA]
  have hfi:(f0:Int)<12:=by omega
  have hf11:f0<=11:=by omega
  simp only[↓bdD,bdP,seval,kd,s4,ty3,BF,AY,Be,Yo,↓AP,↓AI,↓Ci,↓Ar,↓AH,h81,h16,ter,hf0,p0,p3,gA,hfi,hf11,sA]
 case' inr =>
  have ter:(d.2.2.2.1+(t:Int)=d.2.2.2.1)=False:=eq_false (by omega)
  rw [if_neg (by omega)]at hH1
  rw [hH1]at p0
  simp only[↓bdD,bdP,seval,ty3,BF,AY,Be,↓A6,↓AP,↓AI,↓Ci,↓Ar,↓AH,h81,h16,ter,p3]
 all_goals
  refine Aw [18,19,111,112,113,114,115,116,117,118,119,120,121,122,123,124,125,126,127,128,129,130,131] ts.length (λk ρ st'=>ρ 111=I k/\Gj M d (inT ts arr C (d.2.2.2.1+(t:Int)) H1 k) B C st') (.refl _) ?_ ?_
  .simp only[↓bdD,bdP,Gj,inT,p0,p1,p2,p3,hM,q1,hf0]
  clear p0 p1 p2 p3 hM h81 lA hH1
  rintro k ρ3 ⟨ob3,M3⟩ hk ⟨h111,hI⟩
  unfold Gj at hI
  dsimp only at hI
  obtain ⟨p0,p1,p2,p3,hM⟩:=hI
  have lI:=Mh (ts:=ts) (arr:=arr) (C:=C) (H:=H1) (τ:=d.2.2.2.1+(t:Int)) k
  rw [lH1]at lI
  have m3:¬M3=M/\¬M=M3/\¬M3=M+1/\¬M+1=M3/\¬M3=M+2/\¬M+2=M3/\¬M3=M+3/\¬M+3=M3:=by omega
  by_cases hlt:k<ts.length
  .have hwk:nm.wrap ((k:Int)+1)=((k+1:Nat):Int):=by rw[Af (by omega) (by omega)];omega
   have hyk:=Ef hlt
   have hak:nth (arr.map (mt .i64)) k=I (arr.getD k 0):=BW 0 (by omega)
   have hka:k<arr.length:=by omega
   have hki:(k:Int)<(arr.length:Int):=by omega
   have ye:=V.ends k hlt
   have eI:inT ts arr C (d.2.2.2.1+(t:Int)) H1 (k+1)=if arr.getD k 0=d.2.2.2.1+(t:Int)then adI (inT ts arr C (d.2.2.2.1+(t:Int)) H1 k) (ts.getD k dT).2.1.toNat (C.getD k 0)else inT ts arr C (d.2.2.2.1+(t:Int)) H1 k:=rfl
   rw [eI]
   generalize inT ts arr C (d.2.2.2.1+(t:Int)) H1 k=A3 at *
   generalize arr.getD k 0=a at *
   generalize ts.getD k dT=y at *
   by_cases c:a=d.2.2.2.1+(t:Int)
   .rw [if_pos c]
    have c2:=eq_true c
    obtain ⟨u,hu⟩:=K0 ye.2.1.1
    rw [hu,show ((u:Nat):Int).toNat=u from pe _]
    have gA:=Eh (H:=A3) (h:=u) (by omega)
    have gC:=Eh (H:=C) (h:=k) (by omega)
    have sA:=Mi (H:=A3) (h:=u) (v:=C.getD k 0) (by omega)
    have mA:(A3.map (mt .i64)).length=12:=by rw[ow,lI]
    have mC:(C.map (mt .i64)).length=4:=by rw[ow,lC]
    have hui:(u:Int)<12:=by omega
    have hu11:u<=11:=by omega
    have hk4:(k:Int)<4:=by omega
    have hk3:k<=3:=by omega
    simp only[↓bdD,bdP,seval,kp,kd,s4,ty3,BF,AR,C7,Yo,Aii,↓A6,↓AP,↓AI,↓Ar,↓AH,Gj,h111,h16,hlt,hyk,hak,hki,hwk,c2,hu,p0,p1,p2,p3,q1,m3,gA,gC,hui,hu11,hk4,sA,Av]
    omega
   .rw [if_neg c]
    simp only[↓bdD,bdP,seval,kp,kd,ty3,BF,AR,C7,↓A6,↓AP,↓AI,↓Ar,↓AH,Gj,h111,h16,hlt,hyk,hak,hki,hwk,c,p0,p1,p2,p3,m3,Av]
    omega
  have e:k=ts.length:=by omega
  subst e
  clear hk m3
  generalize hA4:inT ts arr C (d.2.2.2.1+(t:Int)) H1 ts.length=A4 at *
  by_cases hD2:t=Ap d
  .have c:=hRN2 hD2
   subst c
   have due:(d.2.2.2.1+(t:Int)=d.2.2.2.2)=True:=eq_true (by omega)
   have gA:=Eh (H:=A4) (h:=t0) (by omega)
   have mA:(A4.map (mt .i64)).length=12:=by rw[ow,lI]
   have hti:(t0:Int)<12:=by omega
   have ht11:t0<=11:=by omega
   simp only[↓bdD,bdP,seval,Ao,s4,ty3,AY,Yo,↓AP,↓Ci,↓Ev,↓Ar,↓AH,h111,h16,hlt,due,ht0,p0,p3,gA,hti]
   exact xy (.int rfl) (.int rfl)
  have due:(d.2.2.2.1+(t:Int)=d.2.2.2.2)=False:=eq_false (by omega)
  clear hRN2
  simp only[↓bdD,bdP,seval,ty3,BF,AY,Be,↓A6,↓AP,↓AI,↓Ci,↓Ar,↓AH,h111,h16,hlt,due,p3]
  refine Aw [21,22,140,141,142,143,144,145,146,147,148,149,150,151,152,153,154,155,156,157,158,159,160] ts.length (λk ρ st'=>ρ 140=I k/\Gj M d (ouT ts o (d.2.2.2.1+(t:Int)) A4 C k).1 B (ouT ts o (d.2.2.2.1+(t:Int)) A4 C k).2 st') (.refl _) ?_ ?_
  .simp only[↓bdD,bdP,Gj,ouT,p0,p1,p2,p3,hM]
   done
  clear p0 p1 p2 p3 hM h111 due
  rintro k ρ4 ⟨ob4,M4⟩ hk ⟨h140,hI⟩
  unfold Gj at hI
  dsimp only at hI
  obtain ⟨p0,p1,p2,p3,hM⟩:=hI
  obtain ⟨lU,lV⟩:=Im (ts:=ts) (o:=o) (C:=C) (H:=A4) (τ:=d.2.2.2.1+(t:Int)) k
  rw [lI]at lU
  rw [lC]at lV
  have m4:¬M4=M/\¬M=M4/\¬M4=M+1/\¬M+1=M4/\¬M4=M+2/\¬M+2=M4/\¬M4=M+3/\¬M+3=M4:=by omega
  by_cases hlt:k<ts.length
  .have hwk:nm.wrap ((k:Int)+1)=((k+1:Nat):Int):=by rw[Af (by omega) (by omega)];omega
   have hyk:=Ef hlt
   have hok:nth (o.map (mt .i64)) k=I (o.getD k 0):=BW 0 (by omega)
   have hka:k<o.length:=by omega
   have hki:(k:Int)<(o.length:Int):=by omega
   have ye:=V.ends k hlt
   have eI1:(ouT ts o (d.2.2.2.1+(t:Int)) A4 C (k+1))=if (ts.getD k dT).2.2.1=d.2.2.2.1+(t:Int)then (tkH (ouT ts o (d.2.2.2.1+(t:Int)) A4 C k).1 (ts.getD k dT).1.toNat (o.getD k 0),(ouT ts o (d.2.2.2.1+(t:Int)) A4 C k).2.set k (tkN (ouT ts o (d.2.2.2.1+(t:Int)) A4 C k).1 (ts.getD k dT).1.toNat (o.getD k 0)))else ouT ts o (d.2.2.2.1+(t:Int)) A4 C k:=rfl
   rw [eI1]
   generalize ouT ts o (d.2.2.2.1+(t:Int)) A4 C k=U at *
   obtain ⟨U,X⟩:=U
   dsimp only at lU lV p0 p1 p2
   generalize o.getD k 0=z at *
   generalize ts.getD k dT=y at *
   by_cases c:y.2.2.1=d.2.2.2.1+(t:Int)
   .rw [if_pos c]
    have c2:=eq_true c
    obtain ⟨u,hu⟩:=K0 ye.1.1
    rw [hu,show ((u:Nat):Int).toNat=u from pe _]
    have sT:∀st:Store,st.obj M=some (.arr 0 12 [.agg (U.map (mt .i64))])->A9 Jl Jm Jn [I (u:Nat),I z,.ptr M 0 0 0] st=some (I (tkN U u z),⟨Ab st.obj M (some (.arr 0 12 [.agg ((tkH U u z).map (mt .i64))])),st.next⟩):=λst h=>xX U ⟨h,lU,by dsimp only;omega⟩
    have gX:=Eh (H:=X) (h:=k) (by omega)
    have sX:=Mg (H:=X) (h:=k) (v:=tkN U u z) (by omega)
    have mX:(X.map (mt .i64)).length=4:=by rw[ow,lV]
    have hk4:(k:Int)<4:=by omega
    have hk3:k<=3:=by omega
    generalize tkN U u z=N1 at *
    generalize tkH U u z=U1 at *
    simp only[↓bdD,bdP,seval,kp,kd,s4,ty3,BF,AR,B5,C7,Aii,↓A6,↓AP,↓AI,↓Ar,↓AH,Gj,h140,h16,hlt,hyk,hok,hki,hwk,c2,hu,p0,p1,p2,p3,q1,m4,sT,hk4,hk3,sX,Av]
    omega
   .rw [if_neg c]
    simp only[↓bdD,bdP,seval,kp,kd,ty3,BF,C7,↓A6,↓AP,↓AI,↓Ar,↓AH,Gj,h140,h16,hlt,hyk,hwk,c,p0,p1,p2,p3,m4,Av]
    omega
  have e:k=ts.length:=by omega
  subst e
  clear hk m4
  generalize ouT ts o (d.2.2.2.1+(t:Int)) A4 C ts.length=U at *
  obtain ⟨U,X⟩:=U
  dsimp only at lU lV p0 p1 p2 e1
  simp only[↓bdD,bdP,seval,AO,B5,↓AP,↓AI,↓Ci,↓Ar,↓AH,h140,hlt]
  refine Aw [24,25,164,165,166,167,168,169,170,171,172,173,174,175,176,177,178,179,180,181,182,183,184,185,186,187,188,189,190,191] l.length (λk ρ st'=>ρ 164=I k/\Gj M d (seT ls l (d.2.2.2.1+(t:Int)) U B k).1 (seT ls l (d.2.2.2.1+(t:Int)) U B k).2 X st') (.refl _) ?_ ?_
  .simp only[↓bdD,bdP,Gj,seT,p0,p1,p2,p3,hM]
   done
  clear p0 p1 p2 p3 hM h140 lI
  rintro k ρ5 ⟨ob5,M5⟩ hk ⟨h164,hI⟩
  unfold Gj at hI
  dsimp only at hI
  obtain ⟨p0,p1,p2,p3,hM⟩:=hI
  obtain ⟨lP,lQ⟩:=JZ (ls:=ls) (l:=l) (H:=U) (G:=B) (τ:=d.2.2.2.1+(t:Int)) k
  rw [lU]at lP
  rw [lB]at lQ
  have m5:¬M5=M/\¬M=M5/\¬M5=M+1/\¬M+1=M5/\¬M5=M+2/\¬M+2=M5/\¬M5=M+3/\¬M+3=M5:=by omega
  have n5:¬M5+1=M/\¬M=M5+1/\¬M5+1=M+1/\¬M+1=M5+1/\¬M5+1=M+2/\¬M+2=M5+1/\¬M5+1=M+3/\¬M+3=M5+1/\¬M5=M5+1/\¬M5+1=M5:=by omega
  by_cases hlt:k<l.length
  .have hwk:nm.wrap ((k:Int)+1)=((k+1:Nat):Int):=by rw[Af (by omega) (by omega)];omega
   have hyk:=A7 hlt
   have hxl:=okr.link k hlt
   have eI1:(seT ls l (d.2.2.2.1+(t:Int)) U B (k+1))=if (l.getD k dS).2.1=d.2.2.2.1+(t:Int)then (tkH (seT ls l (d.2.2.2.1+(t:Int)) U B k).1 (AB ls (l.getD k dS)).1.toNat (l.getD k dS).2.2,adI (seT ls l (d.2.2.2.1+(t:Int)) U B k).2 (AB ls (l.getD k dS)).2.1.toNat (tkN (seT ls l (d.2.2.2.1+(t:Int)) U B k).1 (AB ls (l.getD k dS)).1.toNat (l.getD k dS).2.2))else seT ls l (d.2.2.2.1+(t:Int)) U B k:=rfl
   rw [eI1]
   generalize seT ls l (d.2.2.2.1+(t:Int)) U B k=P at *
   obtain ⟨P,Y⟩:=P
   dsimp only at lP lQ p0 p1 p2
   unfold AB
   generalize l.getD k dS=x at *
   by_cases c:x.2.1=d.2.2.2.1+(t:Int)
   .rw [if_pos c]
    have c2:=eq_true c
    obtain ⟨j,hj⟩:=K0 hxl.1
    rw [hj,show ((j:Nat):Int).toNat=j from pe _]
    have hjl:j<ls.length:=by omega
    have hji:(j:Int)<(ls.length:Int):=by omega
    have hnl:=Cg hjl
    have en:=okn.ends j hjl
    generalize ls.getD j dL=y at *
    obtain ⟨u,hu⟩:=K0 en.1
    obtain ⟨v,hv⟩:=K0 en.2.2.1
    rw [hu,hv,show ((u:Nat):Int).toNat=u from pe _,show ((v:Nat):Int).toNat=v from pe _]
    have sT:∀st:Store,st.obj M=some (.arr 0 12 [.agg (P.map (mt .i64))])->A9 Jl Jm Jn [I (u:Nat),I x.2.2,.ptr M 0 0 0] st=some (I (tkN P u x.2.2),⟨Ab st.obj M (some (.arr 0 12 [.agg ((tkH P u x.2.2).map (mt .i64))])),st.next⟩):=λst h=>xX P ⟨h,lP,by dsimp only;omega⟩
    generalize tkN P u x.2.2=N1 at *
    generalize tkH P u x.2.2=U1 at *
    have gY:=Eh (H:=Y) (h:=v) (by omega)
    have sY:=Mi (H:=Y) (h:=v) (v:=N1) (by omega)
    have mY:(Y.map (mt .i64)).length=12:=by rw[ow,lQ]
    have hv12:(v:Int)<12:=by omega
    have hv11:v<=11:=by omega
    simp only[↓bdD,bdP,seval,kp,kd,BK,C8,ty3,BP,AJ,AO,Be,Ct,CS,↓A6,↓AP,↓AI,↓Ar,↓AH,Gj,h164,h16,hlt,hyk,c2,hj,hji,hnl,Av]
    refine Zn tree44 (by rfl) (by kernel_rfl) (Afx ?_ ?_ ?_ ?_ ?_)
    all_goals
     simp only[atO,xr,xu,xv,qx,gp]
     simp only[↓bdD,bdP,seval,kd,IA,Pg,s4,ty3,Ct,Yo,CS,↓Ar,h164,hwk,hu,hv,p0,p1,p2,p3,q1,m5,n5,sT,gY,hv12,hv11,sY]
     omega
   .rw [if_neg c]
    simp only[↓bdD,bdP,seval,kp,kd,ty3,AO,Ct,↓A6,↓AP,↓AI,↓Ar,↓AH,Gj,h164,h16,hlt,hyk,hwk,c,p0,p1,p2,p3,m5,Av]
    omega
  have e:k=l.length:=by omega
  subst e
  subst e1
  simp only[↓bdD,bdP,seval,↓AP,↓Ci,↓Ar,↓AH,Gj,h164,h16,hlt,w16,p0,p1,p2,p3,hM]
  refine ⟨by omega,?_⟩
  rw [AL (by decide +kernel)]
  simp only[↓bdD,bdP,r8]
  rw [AL (by decide +kernel)]
  simp only[↓bdD,bdP,r8]
  rw [AL (by decide +kernel)]
  simp only[↓bdD,bdP,r8]
  rw [AL (by decide +kernel)]
  simp only[↓bdD,bdP,r8]
theorem bI:AM pk e_deliv.1 e_deliv.2:=Ax λ⟨hn,ls,us,ts,d,l,o,arr⟩ h=>Af0 hn ls us ts d l o arr
end Sim
namespace Sim
open Go Go.Proofs
section
variable {hn:Int} {ls:List Lnk} {us:List Snd} {ts:List Trp} {d:Dem}
theorem Wv (V:VoyOK hn ls us ts d) (h:Ek (wHn hn ts) (wLs hn ls ts d 0) (wUs ls us ts d 0) d=0) (s:Nat):Ek (wHn hn ts) (wLs hn ls ts d s) (wUs ls us ts d s) d=0:=pck_zero.2 ⟨Wq V,(pck_zero.1 h).2⟩
theorem xY (V:VoyOK hn ls us ts d) (h:Ek (wHn hn ts) (wLs hn ls ts d 0) (wUs ls us ts d 0) d=0) (s:Nat):Qg hn ls us ts d s=Dc hn ls us ts d s:=by
 unfold Qg KW
 rw [if_neg (λg=>g (Wv V h s))];rfl
theorem Af1 (V:VoyOK hn ls us ts d) (h:Ek (wHn hn ts) (wLs hn ls ts d 0) (wUs ls us ts d 0) d=0) (hN:∀s,s<2 ^ ts.length->Dc hn ls us ts d s=0) (hD:AV (wHn hn ts) d<=268) {l:List Snd} {o:List Int} (hs:Fr hn ls us ts d l o=0) (hc:∀s,s<2 ^ ts.length->Gc hn ls us ts d l o<=wCo hn ls us ts d s):Y2 hn ls us ts d l o (J7 hn ls us ts d):=by
 have hl:(J7 hn ls us ts d).length=2 ^ ts.length:=by unfold J7;rw[ow,vz]
 refine ⟨hs,hl,λs hsl=>?_⟩
 rw [hl]at hsl
 have e1:(J7 hn ls us ts d).getD s dP=(Dq (wHn hn ts) (wLs hn ls ts d s) (wUs ls us ts d s) d,[]):=by
  unfold J7
  rw [oa,bw,List.getElem?_range hsl];rfl
 have w0:=hN s hsl
 rw [e1]
 obtain ⟨p1,p2,_⟩:=Ae0 (Wv V h s) w0 hD
 have := hc s hsl
 rw [KZ w0]at this
 unfold okP
 rw [if_neg (by simp)]
 refine ⟨p1,?_⟩
 dsimp only
 rw [p2]
 exact this
end
def vxL:List Lnk := [(0,1,λ_=>100,λ_=>2),(1,2,λ_=>100,λ_=>2),(0,2,λ_=>10,λ_=>1)]
abbrev vxT (a:Int):List Trp := [(0,2,5,7,a,100,50)]
abbrev vxD:Dem:=(0,2,120,5,8)
abbrev vxO:List Snd := [(2,5,10),(2,6,10)]
abbrev vxB:List Snd := [(0,5,90),(2,5,10),(1,6,90),(2,6,10),(2,7,10)]
abbrev vxC:List Snd := [(2,5,10),(3,5,100),(2,6,10),(4,7,100)]
theorem RM:El 3 vxL [] (vxT 8) vxD=0:=by kernel_rfl
theorem All:El 3 vxL [] [] vxD=0:=by kernel_rfl
theorem xZ:Ek (wHn 3 (vxT 8)) (wLs 3 vxL (vxT 8) vxD 0) (wUs vxL [] (vxT 8) vxD 0) vxD=0:=by kernel_rfl
theorem Alm:decide (kF (wHn 3 (vxT 8)) (wLs 3 vxL (vxT 8) vxD 0) (wUs vxL [] (vxT 8) vxD 0) vxD vxB [[0,2,4,0],[0,2,4,0],[0,2,4,0],[0,2,4,0]])=true:=by kernel_rfl
theorem Aln:decide (kF (wHn 3 (vxT 8)) (wLs 3 vxL (vxT 8) vxD 1) (wUs vxL [] (vxT 8) vxD 1) vxD vxC [[0,0,1,0],[0,0,1,0],[0,0,1,0],[0,0,1,0]])=true:=by kernel_rfl
theorem Alo:decide (kF (wHn 3 []) (wLs 3 vxL [] vxD 0) (wUs vxL [] [] vxD 0) vxD vxB [[0,2,4],[0,2,4],[0,2,4],[0,2,4]])=true:=by kernel_rfl
theorem x_co0:Dc 3 vxL [] (vxT 8) vxD 0=0/\wCo 3 vxL [] (vxT 8) vxD 0=390:=by
 obtain ⟨_,h1,h2⟩:=Nk (l2 := []) (of_decide_eq_true Alm)
 have h1:Dc 3 vxL [] (vxT 8) vxD 0=0:=h1
 refine ⟨h1,?_⟩
 rw [KZ h1]
 unfold KX
 rw [h2]
 kernel_rfl
theorem x_co1:Dc 3 vxL [] (vxT 8) vxD 1=0/\wCo 3 vxL [] (vxT 8) vxD 1=70:=by
 obtain ⟨_,h1,h2⟩:=Nk (l2 := []) (of_decide_eq_true Aln)
 have h1:Dc 3 vxL [] (vxT 8) vxD 1=0:=h1
 refine ⟨h1,?_⟩
 rw [KZ h1]
 unfold KX
 rw [h2]
 kernel_rfl
theorem x_coN:Dc 3 vxL [] [] vxD 0=0/\wCo 3 vxL [] [] vxD 0=390:=by
 obtain ⟨_,h1,h2⟩:=Nk (l2 := []) (of_decide_eq_true Alo)
 have h1:Dc 3 vxL [] [] vxD 0=0:=h1
 refine ⟨h1,?_⟩
 rw [KZ h1]
 unfold KX
 rw [h2]
 kernel_rfl
theorem Anw:lsT 3 vxL [] (vxT 8) vxD (2 ^ (vxT 8).length)=70:=by
 have e:lsT 3 vxL [] (vxT 8) vxD 1=390:=by
  show (if Dc 3 vxL [] (vxT 8) vxD 0=0/\((-1:Int)<0\/wCo 3 vxL [] (vxT 8) vxD 0 < -1)then wCo 3 vxL [] (vxT 8) vxD 0 else -1)=390
  rw [if_pos ⟨x_co0.1,.inl (by decide)⟩,x_co0.2]
 show (if Dc 3 vxL [] (vxT 8) vxD 1=0/\(lsT 3 vxL [] (vxT 8) vxD 1<0\/wCo 3 vxL [] (vxT 8) vxD 1<lsT 3 vxL [] (vxT 8) vxD 1)then wCo 3 vxL [] (vxT 8) vxD 1 else lsT 3 vxL [] (vxT 8) vxD 1)=70
 rw [if_pos ⟨x_co1.1,.inr (by rw[e,x_co1.2];decide)⟩,x_co1.2]
theorem Ag2:lsT 3 vxL [] [] vxD (2 ^ ([]:List Trp).length)=390:=by
 show (if Dc 3 vxL [] [] vxD 0=0/\((-1:Int)<0\/wCo 3 vxL [] [] vxD 0 < -1)then wCo 3 vxL [] [] vxD 0 else -1)=390
 rw [if_pos ⟨x_coN.1,.inl (by decide)⟩,x_coN.2]
theorem x_pln:TJ 3 vxL [] (vxT 8) vxD=0/\Fr 3 vxL [] (vxT 8) vxD (Ib 3 vxL [] (vxT 8) vxD) (Ic 3 vxL [] (vxT 8) vxD)=0/\Gc 3 vxL [] (vxT 8) vxD (Ib 3 vxL [] (vxT 8) vxD) (Ic 3 vxL [] (vxT 8) vxD)=70:=by
 rcases Ws (vck_iff.1 RM)with ⟨_,h,_⟩ | ⟨h1,_,h2,h3⟩
 .rw [Anw]at h;exact absurd h (by decide)
 .exact ⟨h1,h2,by rw[h3,Anw]⟩
theorem x_plnN:TJ 3 vxL [] [] vxD=0/\Fr 3 vxL [] [] vxD (Ib 3 vxL [] [] vxD) (Ic 3 vxL [] [] vxD)=0/\Gc 3 vxL [] [] vxD (Ib 3 vxL [] [] vxD) (Ic 3 vxL [] [] vxD)=390:=by
 rcases Ws (vck_iff.1 All)with ⟨_,h,_⟩ | ⟨h1,_,h2,h3⟩
 .rw [Ag2]at h;exact absurd h (by decide)
 .exact ⟨h1,h2,by rw[h3,Ag2]⟩
theorem x_own:Fr 3 vxL [] (vxT 8) vxD vxO [100]=0/\Gc 3 vxL [] (vxT 8) vxD vxO [100]=70:=⟨by kernel_rfl,by kernel_rfl⟩
theorem Alp:Fr 3 vxL [] (vxT 9) vxD vxO [100]=13:=by kernel_rfl
theorem x_del7:Qh 3 vxL [] (vxT 8) vxD vxO [100] [7]=120/\Nm 3 vxL [] (vxT 8) vxD vxO [100] [7]=0:=⟨by kernel_rfl,by kernel_rfl⟩
theorem x_del9:Qh 3 vxL [] (vxT 8) vxD vxO [100] [9]=20/\Nm 3 vxL [] (vxT 8) vxD vxO [100] [9]=0:=⟨by kernel_rfl,by kernel_rfl⟩
theorem x_delM:Qh 3 vxL [] (vxT 8) vxD vxO [100] [-1]=20/\Nm 3 vxL [] (vxT 8) vxD vxO [100] [-1]=0:=⟨by kernel_rfl,by kernel_rfl⟩
theorem yA {P:Nat->Prop} (h0:P 0) (h1:P 1):∀s,s<2 ^ (vxT 8).length->P s:=λs hs=>by
 have : s<2:=hs
 rcases ao s with e | e
 .rw [e];exact h0
 .rw [show s=1 by omega];exact h1
theorem Ag3 {l:List Snd} {o:List Int} (hs:Fr 3 vxL [] (vxT 8) vxD l o=0) (hc:Gc 3 vxL [] (vxT 8) vxD l o=70):Y2 3 vxL [] (vxT 8) vxD l o (J7 3 vxL [] (vxT 8) vxD) :=
 Af1 (vck_iff.1 RM) xZ (yA x_co0.1 x_co1.1) (by decide) hs (yA (by rw[hc,x_co0.2];decide) (by rw[hc,x_co1.2];decide))
theorem x_plnB:(J6 3 vxL [] (vxT 8) vxD).2.1=Ib 3 vxL [] (vxT 8) vxD/\(J6 3 vxL [] (vxT 8) vxD).2.2=Ic 3 vxL [] (vxT 8) vxD/\¬(J6 3 vxL [] (vxT 8) vxD).1<0:=by
 have hv2:¬El 3 vxL [] (vxT 8) vxD≠0:=λg=>g RM
 refine ⟨?_,?_,λc=>?_⟩
 .unfold Ib;rw[if_neg hv2]
 .unfold Ic;rw[if_neg hv2]
 .have := x_pln.1
  unfold TJ at this
  rw [if_neg hv2,if_pos c]at this
  exact absurd this (by decide)
theorem Anx:∀s,s<2 ^ (vxT 8).length->Qg 3 vxL [] (vxT 8) vxD s=0:=yA (by rw[xY (vck_iff.1 RM) xZ];exact x_co0.1) (by rw[xY (vck_iff.1 RM) xZ];exact x_co1.1)
theorem Ag4:(J7 3 vxL [] (vxT 8) vxD).length=2:=by
 unfold J7
 rw [ow,vz];rfl
theorem Alq:¬Y2 3 vxL [] (vxT 8) vxD vxO [100] ((J7 3 vxL [] (vxT 8) vxD).take 1):=λh=>by
 have := h.2.1
 rw [List.length_take,Ag4]at this
 exact absurd this (by decide)
end Sim
namespace Sim
open Go Go.Proofs
attribute [local congr] Ah Ai Ag At Al Aj Aq
theorem Anz:evR pk 400 [] [] 0 34 [I 0,I 1,I 100,I 2]=some (FS (0,1,λ_=>100,λ_=>2)):=by kernel_rfl
theorem An0:evR pk 400 [] [] 0 34 [I 1,I 2,I 100,I 2]=some (FS (1,2,λ_=>100,λ_=>2)):=by kernel_rfl
theorem An1:evR pk 400 [] [] 0 34 [I 0,I 2,I 10,I 1]=some (FS (0,2,λ_=>10,λ_=>1)):=by kernel_rfl
def Mk:Int×Int×Int×Int->List PV:=λ(a,b,q,p) => [I a,I b,I q,I p]
def bJ:Int×Int×Int×Int->PV:=λ(a,b,q,p)=>FS (a,b,λ_=>q,λ_=>p)
def bK:Int×Int×Int×Int->Prop:=λ(a,b,q,p)=>(a,b,q,p)=(0,1,100,2)\/(a,b,q,p)=(1,2,100,2)\/(a,b,q,p)=(0,2,10,1)
def e_vflat:Nat×Ent:=(34,.v (An Mk bJ bK))
theorem Af2:∀i j,Mk i=Mk j->i=j:=by
 rintro ⟨_,_,_,_⟩ ⟨_,_,_,_⟩ h
 simp only[Mk,ix,and_true,qt,true_and]at h
 simp [h] <;> omega
theorem TX (a:Int) (b:Int) (q:Int) (p:Int):An Mk bJ bK [I a,I b,I q,I p]=@ite (Option (PV)) ((a,b,q,p)=(0,1,100,2)\/(a,b,q,p)=(1,2,100,2)\/(a,b,q,p)=(0,2,10,1)) (qo _) (some (FS (a,b,λ_=>q,λ_=>p))) none:=Bs Af2 (a,b,q,p)
def Af3:Prop:=∀(a:Int) (b:Int) (q:Int) (p:Int) (h:(a,b,q,p)=(0,1,100,2)\/(a,b,q,p)=(1,2,100,2)\/(a,b,q,p)=(0,2,10,1)) ,VC pk 34 [I a,I b,I q,I p] (FS (a,b,λ_=>q,λ_=>p))
theorem Af4:Af3:=by
 rintro a b q p (h | h | h)
 .cases h;exact MF AQ Anz
 .cases h;exact MF AQ An0
 .cases h;exact MF AQ An1
theorem Af5:AM pk e_vflat.1 e_vflat.2:=Ax λ⟨a,b,q,p⟩ h=>Af4 a b q p h
def yB (x:Unit):List PV := []
def Ag5 (x:Unit) (st:Store):Prop:=True
def Ww (x:Unit) (st:Store):PV×Store:=(.agg [I 3,AS vxL,.nils,.ref (st.next+2) 0 0 1,I 0,I 2,I 120,I 5,I 8],⟨Ab (λi=>if i<st.next then st.obj i else none) (st.next+2) (some (.arr 0 7 [.agg [I 0,I 2,I 5,I 7,I 8,I 100,I 50]])),st.next+3⟩)
def e_exv:Nat×Ent:=(15,.x (A9 yB Ag5 Ww))
theorem Ag6 {st:Store}:A9 yB Ag5 Ww [] st=some (Ww () st):=Bc (λ_ _ _ _ _ _=>rfl) (i:=()) trivial
theorem An2:AM pk e_exv.1 e_exv.2:=Cf λx st hx=>by
 obtain ⟨ob,M⟩:=st
 simp only[yB,Ww]
 have f1:=TX (a:=0) (b:=1) (q:=100) (p:=2)
 have f2:=TX (a:=1) (b:=2) (q:=100) (p:=2)
 have f3:=TX (a:=0) (b:=2) (q:=10) (p:=1)
 rw [if_pos (.inl rfl)]at f1
 rw [if_pos (.inr (.inl rfl))]at f2
 rw [if_pos (.inr (.inr rfl))]at f3
 have m1:¬M=M+1/\¬M+1=M/\¬M=M+2/\¬M+2=M/\¬M+1=M+2/\¬M+2=M+1:=by omega
 refine BT AQ (l := [e_vflat]) ((Ad Af5 Au)) [9] [] 0 Tryz.func15 rfl (by decide +kernel) (N:=12) rfl (by simp) rfl (by kernel_rfl) ?_
 simp only[↓bdD,bdP,seval,Ao,kp,kd,e_vflat,BK,Tryz.f15,ty3,BP,AJ,BF,AY,Be,C7,CS,f1,f2,f3,m1,Av]
 refine Left.same rfl (λi o g=>?_) (cg _)
 dsimp only at g ⊢
 by_cases e:i=M+2
 .subst e
  rw [Ab,if_pos rfl]at g
  cases g
  simp only[Ab,m1,if_false];rfl
 .rw [Ab,if_neg e]at g
  have c:i<M:=by
   apply Classical.byContradiction
   intro c
   rw [if_neg c]at g;cases g
  rw [if_pos c]at g
  rw [Ab,if_neg (by omega),Ab,if_neg (by omega),Ab,if_neg (by omega),Ab,if_neg (by omega)]
  exact g
def J0:Unit->List PV:=λ_ => []
def RO:Unit->PV:=λ_=>B true
def RP:Unit->Prop:=λ_=>True
def e_vsanity:Nat×Ent:=(7,.v (An J0 RO RP))
theorem kW:∀i j,J0 i=J0 j->i=j:=by
 rintro _ _ h
 rfl
theorem Ho  : An J0 RO RP []=some (B true):=AD kW (i:=()) trivial
def RR:Prop:=VC pk 7 [] (B true)
def RS:Prop:=AM pk e_vsanity.1 e_vsanity.2
theorem kX (c:RR):RS:=Ax λ_ h=>c
theorem kY:RR:=by
 refine OX [18] AQ (l := [e_exv,e_vplan,e_vcost,e_deliv,e_vprove,e_vserves,e_vaccept]) ((Ad An2 (Ad Afe (Ad N8 (Ad bI (Ad xW (Ad Nf (Ad kP Au)))))))) [] [27,100027,151] 0 0 Tryz.func7 rfl (by decide +kernel) (N:=186) rfl (by simp) rfl (by kernel_rfl) λhs=>?_
 simp only[AK]at hs
 have a1:=aQ (hn:=3) (ls:=vxL) (us := []) (ts:=vxT 8) (d:=vxD)
 have a2:=Fq (hn:=3) (ls:=vxL) (us := []) (ts:=vxT 8) (d:=vxD) (l:=Ib 3 vxL [] (vxT 8) vxD) (o:=Ic 3 vxL [] (vxT 8) vxD)
 have a3:=aQ (hn:=3) (ls:=vxL) (us := []) (ts := []) (d:=vxD)
 have a4:=Fq (hn:=3) (ls:=vxL) (us := []) (ts := []) (d:=vxD) (l:=Ib 3 vxL [] [] vxD) (o:=Ic 3 vxL [] [] vxD)
 have a5:=Mj (hn:=3) (ls:=vxL) (us := []) (ts:=vxT 8) (d:=vxD) (l:=vxO) (o := [100]) (arr := [7])
 have a6:=Mj (hn:=3) (ls:=vxL) (us := []) (ts:=vxT 8) (d:=vxD) (l:=vxO) (o := [100]) (arr := [9])
 have a7:=Mj (hn:=3) (ls:=vxL) (us := []) (ts:=vxT 8) (d:=vxD) (l:=vxO) (o := [100]) (arr := [-1])
 have a8:=xT (hn:=3) (ls:=vxL) (us := []) (ts:=vxT 8) (d:=vxD)
 have b1:=Dn (hn:=3) (ls:=vxL) (us := []) (ts:=vxT 8) (d:=vxD) (l:=Ib 3 vxL [] (vxT 8) vxD) (o:=Ic 3 vxL [] (vxT 8) vxD)
 have b2:=Dn (hn:=3) (ls:=vxL) (us := []) (ts:=vxT 8) (d:=vxD) (l:=vxO) (o := [100])
 have b3:=Dn (hn:=3) (ls:=vxL) (us := []) (ts:=vxT 9) (d:=vxD) (l:=vxO) (o := [100])
 have b4:=Nl (hn:=3) (ls:=vxL) (us := []) (ts:=vxT 8) (d:=vxD) (l:=Ib 3 vxL [] (vxT 8) vxD) (o:=Ic 3 vxL [] (vxT 8) vxD) (p:=J7 3 vxL [] (vxT 8) vxD)
 have b5:=Nl (hn:=3) (ls:=vxL) (us := []) (ts:=vxT 8) (d:=vxD) (l:=vxO) (o := [100]) (p:=J7 3 vxL [] (vxT 8) vxD)
 have b6:=Nl (hn:=3) (ls:=vxL) (us := []) (ts:=vxT 8) (d:=vxD) (l:=vxO) (o := [100]) (p:=(J7 3 vxL [] (vxT 8) vxD).take 1)
 have hl:=Ag4
 have htk:=λL:List Prf=>(show sy (1-0) (List.map Wk L)=List.map Wk (L.take 1) by rw[List.map_take])
 rw [x_pln.1]at a1
 rw [x_pln.2.2,sch_zero.2 (GG x_pln.2.1)]at a2
 rw [x_plnN.1]at a3
 rw [x_plnN.2.2,sch_zero.2 (GG x_plnN.2.1)]at a4
 rw [x_del7.1,x_del7.2]at a5
 rw [x_del9.1,x_del9.2]at a6
 rw [x_delM.1,x_delM.2]at a7
 rw [if_pos ⟨RM,by decide,Anx,x_plnB.2.2⟩,x_plnB.1,x_plnB.2.1]at a8
 rw [x_pln.2.1]at b1
 rw [x_own.1]at b2
 rw [Alp]at b3
 rw [decide_eq_true (Ag3 x_pln.2.1 x_pln.2.2)]at b4
 rw [decide_eq_true (Ag3 x_own.1 x_own.2)]at b5
 rw [decide_eq_false Alq]at b6
 generalize Ib 3 vxL [] (vxT 8) vxD=pl1 at *
 generalize Ic 3 vxL [] (vxT 8) vxD=po1 at *
 generalize Ib 3 vxL [] [] vxD=pl2 at *
 generalize Ic 3 vxL [] [] vxD=po2 at *
 generalize J7 3 vxL [] (vxT 8) vxD=L at *
 dsimp only[AS,Ay,ints,CU,VV,Ca,vxT,vxD,vxO,TL]at a1 a2 a3 a4 a5 a6 a7 a8 b1 b2 b3 b4 b5 b6
 simp only[List.map_cons,List.map_nil]at a1 a2 a3 a4 a5 a6 a7 a8 b1 b2 b3 b4 b5 b6
 simp only[↓bdD,bdP,seval,kp,kd,e_exv,Ag6,e_vplan,e_vcost,e_deliv,e_vprove,e_vserves,e_vaccept,Ac,Aa,s4,Tryz.f7,ty3,AO,BF,Be,AR,B5,C7,Ct,↓A6,↓AP,↓Ar,↓AH,Ag6,Ww,a1,a2,a3,a4,a5,a6,a7,a8,Av]
 refine Zn (.via 36 (.one [0,1,2,3,4,5,6,7,8,9,10,11,12,13,14,15,16,17,18,19,20,21,22,23,24,25,26,27,28,29,30,31,32,33,34,35,36,37,38,39,40,41,42,43,44,45,46,47,48,49,50,51,52,53,54,55,56,57,58,59,60])) (by rfl) (by kernel_rfl) ?_
 intro r hr
 simp only[Tree.orders,ku]at hr
 subst hr
 simp only[atO,xr,xu,xv,qx,gp]
 simp only[↓bdD,bdP,seval,Ao,Ac,Aa,xA,Be,B5,FL,↓Ev,b1,b2,b3,b4,b5,b6,hl,htk]
 exact DR.bool rfl
theorem kZ:RS:=kX kY
end Sim
namespace Sim
open Go Go.Proofs
theorem EF {L:List Int} {i j:Nat} {v:Int} (hi:i<L.length):(L.set i v).getD j 0=if j=i then v else L.getD j 0:=by
 rw [oa,oa,List.getElem?_set]
 by_cases e:i=j
 .rw [if_pos e,if_pos (by omega),if_pos e.symm];rfl
 .rw [if_neg e,if_neg (λg=>e g.symm)]
theorem Ip {f g:Nat->Int} {i:Nat}:∀ {n:Nat},i<n->(∀j,j<n->j≠i->g j=f j)->Sm g n=Sm f n-f i+g i
 | 0,h,_=>absurd h (by omega)
 | n+1,h,hj=>by
  simp only[Sm]
  by_cases e:i=n
  .subst e
   rw [Br (f:=g) (g:=f) λj hj2=>hj j (by omega) (by omega)]
   omega
  .rw [Ip (f:=f) (g:=g) (i:=i) (n:=n) (by omega) (λj hj2=>hj j (by omega)),hj n (by omega) (by omega)]
   omega
theorem Oi {f:Nat->Int} {n:Nat} (h:∀i,i<n->0<=f i):∀k,k<=n->Sm f k<=Sm f n:=λk hk=>by
 induction n with
 | zero=>rw[show k=0 by omega];exact Int.le_refl _
 | succ n ih =>
  by_cases e:k=n+1
  .rw [e];exact Int.le_refl _
  .have := ih (λi hi=>h i (by omega)) (by omega)
   have := h n (by omega)
   simp only[Sm];omega
theorem Y8 {H G:List Int} (hH:H.length=12) (hG:G.length=12):∀k,k<=12->∀h,(mvT H G k).1.getD h 0=(if h<k then nm.wrap (H.getD h 0+G.getD h 0)else H.getD h 0)/\(mvT H G k).2.getD h 0=if h<k then 0 else G.getD h 0
 | 0,_,h=>by simp only[mvT];rw[if_neg (by omega),if_neg (by omega)];exact⟨rfl,rfl⟩
 | k+1,hk,h=>by
  have ih:=Y8 hH hG k (by omega)
  obtain ⟨l1,l2⟩:=JY (H:=H) (G:=G) k
  simp only[mvT,adI]
  rw [EF (by omega),EF (by omega)]
  by_cases e:h=k
  .subst e
   rw [if_pos rfl,if_pos rfl,if_pos (by omega),if_pos (by omega),(ih h).1,(ih h).2,if_neg (by omega),if_neg (by omega)]
   exact ⟨rfl,rfl⟩
  .rw [if_neg e,if_neg e,(ih h).1,(ih h).2]
   by_cases c:h<k
   .rw [if_pos c,if_pos c,if_pos (by omega),if_pos (by omega)];exact⟨rfl,rfl⟩
   .rw [if_neg c,if_neg c,if_neg (by omega),if_neg (by omega)];exact⟨rfl,rfl⟩
section
variable (ls:List Lnk) (ts:List Trp) (d:Dem) (l:List Snd) (o arr:List Int)
def GH (k:Nat):Prop:=arr.getD k 0<0\/(ts.getD k dT).2.2.2.2.1<arr.getD k 0
instance (k:Nat):Decidable (GH ts arr k):=inferInstanceAs (Decidable (_\/_))
def arI (k:Nat):Int:=if GH ts arr k then (ts.getD k dT).2.2.2.2.1 else arr.getD k 0
def plT (σ:Int) (h:Nat) (i:Nat):Int:=(if (AB ls (l.getD i dS)).2.1=(h:Int)/\(l.getD i dS).2.1+1<=σ then (l.getD i dS).2.2 else 0)-(if (AB ls (l.getD i dS)).1=(h:Int)/\(l.getD i dS).2.1<=σ then (l.getD i dS).2.2 else 0)
def pvT (σ:Int) (h:Nat) (k:Nat):Int:=(if (ts.getD k dT).2.1=(h:Int)/\arI ts arr k<=σ then o.getD k 0 else 0)-(if (ts.getD k dT).1=(h:Int)/\(ts.getD k dT).2.2.1<=σ then o.getD k 0 else 0)
def pB (σ:Int) (h:Nat):Int:=(if d.1=(h:Int)/\d.2.2.2.1<=σ then d.2.2.1 else 0)+Sm (plT ls l σ h) l.length+Sm (pvT ts o arr σ h) ts.length
def qT (σ:Int) (h:Nat) (i:Nat):Int:=if (AB ls (l.getD i dS)).2.1=(h:Int)/\(l.getD i dS).2.1=σ then (l.getD i dS).2.2 else 0
def fT (σ:Int) (h:Nat) (i:Nat):Int:=if (AB ls (l.getD i dS)).1=(h:Int)/\(l.getD i dS).2.1=σ then (l.getD i dS).2.2 else 0
def vaT (σ:Int) (h:Nat) (k:Nat):Int:=if (ts.getD k dT).2.1=(h:Int)/\arI ts arr k=σ then o.getD k 0 else 0
def vfT (σ:Int) (h:Nat) (k:Nat):Int:=if (ts.getD k dT).1=(h:Int)/\(ts.getD k dT).2.2.1=σ then o.getD k 0 else 0
def quB (σ:Int) (h:Nat):Int:=Sm (qT ls l σ h) l.length
def vdT (C:List Int) (σ α:Int) (k:Nat):Int:=if ¬GH ts arr k/\(ts.getD k dT).2.2.1<=σ/\α<arr.getD k 0 then o.getD k 0-C.getD k 0 else 0
def ltT (σ:Int) (k:Nat):Int:=if GH ts arr k/\(ts.getD k dT).2.2.2.2.1<=σ then o.getD k 0 else 0
def abT (C:List Int) (σ α:Int) (k:Nat):Int:=if (ts.getD k dT).2.2.1<=σ/\α<arr.getD k 0 then C.getD k 0 else 0
structure Sv60:Prop where
 tick : ∀i,i<l.length->d.2.2.2.1<=(l.getD i dS).2.1
 byt : ∀i,i<l.length->1<=(l.getD i dS).2.2
 lfr : ∀i,i<l.length->0<=(AB ls (l.getD i dS)).1/\(AB ls (l.getD i dS)).1<12
 lto : ∀i,i<l.length->0<=(AB ls (l.getD i dS)).2.1/\(AB ls (l.getD i dS)).2.1<12
 few : ts.length<=4
 load : ∀k,k<ts.length->0<=o.getD k 0/\(o.getD k 0=0\/d.2.2.2.1<=(ts.getD k dT).2.2.1)
 tim : ∀k,k<ts.length->(ts.getD k dT).2.2.1<(ts.getD k dT).2.2.2.2.1
 arv : ∀k,k<ts.length->arr.getD k 0 = -1\/(ts.getD k dT).2.2.1<arr.getD k 0
 tfr : ∀k,k<ts.length->0<=(ts.getD k dT).1/\(ts.getD k dT).1<12
 tto : ∀k,k<ts.length->0<=(ts.getD k dT).2.1/\(ts.getD k dT).2.1<12
 dfr : 0<=d.1/\d.1<12
 byte : 0<=d.2.2.1/\d.2.2.1<=1099511627776
 nn : ∀σ h,d.2.2.2.1<=σ->h<12->0<=pB ls ts d l o arr σ h
structure At60 (σ:Int) (S:List Int×List Int×List Int):Prop where
 lH : S.1.length=12
 lG : S.2.1.length=12
 lC : S.2.2.length=4
 H0 : ∀h,h<12->0<=S.1.getD h 0
 G0 : ∀h,h<12->0<=S.2.1.getD h 0/\S.2.1.getD h 0<=quB ls l σ h
 C0 : ∀k,k<ts.length->0<=S.2.2.getD k 0/\S.2.2.getD k 0<=o.getD k 0
 lack : Sm (λh=>max 0 (pB ls ts d l o arr σ h-S.1.getD h 0)) 12+Sm (λh=>quB ls l σ h-S.2.1.getD h 0) 12+Sm (vdT ts o arr S.2.2 σ σ) ts.length<=Sm (ltT ts o arr σ) ts.length
 mass : Sm (λh=>S.1.getD h 0) 12+Sm (λh=>S.2.1.getD h 0) 12+Sm (abT ts arr S.2.2 σ σ) ts.length<=if d.2.2.2.1<=σ then d.2.2.1 else 0
structure In60 (τ:Int) (H C:List Int):Prop where
 lH : H.length=12
 lC : C.length=4
 H0 : ∀h,h<12->0<=H.getD h 0
 C0 : ∀k,k<ts.length->0<=C.getD k 0/\C.getD k 0<=o.getD k 0
 lack : Sm (λh=>max 0 (pB ls ts d l o arr τ h+Sm (vfT ts o τ h) ts.length+Sm (fT ls l τ h) l.length-H.getD h 0)) 12+Sm (vdT ts o arr C (τ-1) τ) ts.length<=Sm (ltT ts o arr τ) ts.length
 mass : Sm (λh=>H.getD h 0) 12+Sm (abT ts arr C (τ-1) τ) ts.length<=d.2.2.1
end
section
variable {ls:List Lnk} {ts:List Trp} {d:Dem} {l:List Snd} {o arr:List Int}
theorem Af6 (F:Sv60 ls ts d l o arr) (σ:Int) (h:Nat):pB ls ts d l o arr (σ+1) h+Sm (vfT ts o (σ+1) h) ts.length+Sm (fT ls l (σ+1) h) l.length=pB ls ts d l o arr σ h+quB ls l σ h+(if d.1=(h:Int)/\d.2.2.2.1=σ+1 then d.2.2.1 else 0)+Sm (vaT ts o arr (σ+1) h) ts.length:=by
 have e1:Sm (plT ls l (σ+1) h) l.length=Sm (plT ls l σ h) l.length+Sm (qT ls l σ h) l.length-Sm (fT ls l (σ+1) h) l.length:=by
  rw [<-GQ,<-MY]
  exact Br λi _=>by unfold plT qT fT;omega
 have e2:Sm (pvT ts o arr (σ+1) h) ts.length=Sm (pvT ts o arr σ h) ts.length+Sm (vaT ts o arr (σ+1) h) ts.length-Sm (vfT ts o (σ+1) h) ts.length:=by
  rw [<-GQ,<-MY]
  exact Br λi _=>by unfold pvT vaT vfT;omega
 unfold pB quB
 rw [e1,e2]
 have e3:(if d.1=(h:Int)/\d.2.2.2.1<=σ+1 then d.2.2.1 else 0)=(if d.1=(h:Int)/\d.2.2.2.1<=σ then d.2.2.1 else 0)+(if d.1=(h:Int)/\d.2.2.2.1=σ+1 then d.2.2.1 else 0):=by omega
 rw [e3]
 omega
end
end Sim
