/- What functions of this seat compute, by values: contracts (lemmas of the statement's proof, under the conditions that each names). -/
import Derived.Test.YtdfjimjbdakofaaGreatQUN4
import Derived.Test.YtdfjimjbdakofaaGreatQXN
import Derived.Test.YtdfjimjbdakofaaGreatQUP
import Derived.Test.YtdfjimjbdakofaaGreatQT
import Derived.JoinedOf
import Derived.OpenShut
set_option maxRecDepth 100000
set_option maxHeartbeats 8000000
set_option linter.unusedVariables false
set_option linter.unusedSimpArgs false
namespace Sim
open Go Go.Proofs
attribute [local congr] Ai Aj Af At Am Al Aq
structure FQ where
 s : Nat
 hn : Int
 ls : List Lnk
 us : List Snd
 d : Dem
 E : List PV
noncomputable def FQ.el (x:FQ):PV:=.agg [E4 (Dk x.hn x.ls x.us x.d),(nth x.E x.s).cells.getD 1 .bad]
def JD (x:FQ):List PV := [I (x.s:Nat),.agg [I x.hn,AQ x.ls,Ay x.us,I x.d.1,I x.d.2.1,I x.d.2.2.1,I x.d.2.2.2.1,I x.d.2.2.2.2],.ptr 2 0 0 0]
def JE (x:FQ) (st:Store):Prop:=st.obj 2=some (.arr 0 1 [.ref 1 0 0 x.E.length])∧st.obj 1=some (.arr 0 2 x.E)∧x.s<x.E.length∧(∃a b,nth x.E x.s=.agg [a,b])∧AU x.hn x.d≤268∧KG x.hn x.ls x.us x.d=0
noncomputable def H2 (x:FQ) (st:Store):PV×Store:=(.tuple [Ay (CV x.hn x.ls x.us x.d),B true],⟨Ab st.obj 1 (some (.arr 0 2 (x.E.set x.s x.el))),st.next⟩)
noncomputable def e_find2:Nat×Ent:=(36,.x (A8 JD JE H2))
theorem Aex (a b:FQ) (st:Store) (h:JD a=JD b) (hx:JE a st) (hy:JE b st):H2 a st=H2 b st:=by
 obtain ⟨s,hn,ls,us,d,E⟩:=a
 obtain ⟨s',hn',ls',us',d',E'⟩:=b
 simp only[JD,List.cons.injEq,and_true,PV.int.injEq,true_and,PV.agg.injEq,PV.lits.injEq,AD,AF]at h
 obtain ⟨e1,e2,e3,e4,f1,f2,f3,f4,f5⟩:=h
 have hd:d=d':=Prod.ext f1 (Prod.ext f2 (Prod.ext f3 (Prod.ext f4 f5)))
 have e1:s=s':=by omega
 have h1:=hx.2.1.symm.trans hy.2.1
 simp only[Option.some.injEq,IObj.arr.injEq,true_and]at h1
 subst e1 e2 e3 e4 hd h1
 rfl
theorem Aey {s:Nat} {hn:Int} {ls:List Lnk} {us:List Snd} {d:Dem} (E:List PV) {st:Store} (h:JE ⟨s,hn,ls,us,d,E⟩ st) :
  A8 JD JE H2 [I (s:Nat),.agg [I hn,AQ ls,Ay us,I d.1,I d.2.1,I d.2.2.1,I d.2.2.2.1,I d.2.2.2.2],.ptr 2 0 0 0] st=some (H2 ⟨s,hn,ls,us,d,E⟩ st) :=
 Ba Aex (i:=⟨s,hn,ls,us,d,E⟩) h
theorem Aez:AM Tryz.prog e_find2.1 e_find2.2:=Ca fun x st hx=>by
 obtain ⟨s,hn,ls,us,d,E⟩:=x
 obtain ⟨ob,M⟩:=st
 unfold JE at hx
 dsimp only at hx
 obtain ⟨h2,h1,hs,⟨a,b,hab⟩,hN,h⟩:=hx
 simp only[JD,H2,FQ.el,hab]
 have sp:=wJ (hn:=hn) (ls:=ls) (us:=us) (d:=d)
 rw [if_pos (fun _=>hN),if_pos h,if_pos h]at sp
 dsimp only[AQ,Ay,E4]at sp
 have hsi:(s:Int)<(E.length:Int):=by omega
 refine BT AP (l := [e_pprove]) ((Ad wO Au)) [] [] 0 Tryz.func36 rfl (by decide +kernel) (N:=33) rfl (by simp) rfl (by kernel_rfl) ?_
 generalize CV hn ls us d=cl at *
 generalize Dk hn ls us d=pl at *
 simp only[↓bdD,bdP,seval,Ao,Store.set,e_pprove,Ac,Aa,Tryz.f36,Fl,BF,BL,K8,sp,h,h2,h1,hs,hsi,hab]
 exact Left.refl
noncomputable def PR (hn:Int) (ls:List Lnk) (us:List Snd) (ts:List Trp) (d:Dem) (s:Nat):Int:=KG (wHn hn ts) (wLs hn ls ts d s) (wUs ls us ts d s) d
noncomputable def elT (hn:Int) (ls:List Lnk) (us:List Snd) (ts:List Trp) (d:Dem) (E:List PV):Nat→List PV
 | 0=>E
 | s+1=>(elT hn ls us ts d E s).set s (FQ.el ⟨s,wHn hn ts,wLs hn ls ts d s,wUs ls us ts d s,d,elT hn ls us ts d E s⟩)
structure BX where
 hn : Int
 ls : List Lnk
 us : List Snd
 ts : List Trp
 d : Dem
 E : List PV
noncomputable def BX.b (x:BX):Int×List Snd×List Int:=Ch x.hn x.ls x.us x.ts x.d (2 ^ x.ts.length)
def JF (x:BX):List PV := [.agg (S0 x.hn x.ls x.us x.ts x.d),.func (.func 36) [] [.ptr 2 0 0 0]]
def JG (x:BX) (st:Store):Prop:=st.obj 2=some (.arr 0 1 [.ref 1 0 0 x.E.length])∧st.obj 1=some (.arr 0 2 x.E)∧x.E=List.replicate (2 ^ x.ts.length) (.agg [.nils,.nils])∧Ee x.hn x.ls x.us x.ts x.d=0∧As x.d≤12∧(∀i o,st.obj i=some o→i<st.next)∧(∀s,s<2 ^ x.ts.length→PR x.hn x.ls x.us x.ts x.d s=0)∧¬x.b.1<0
noncomputable def H3 (x:BX) (st:Store):PV×Store:=(.tuple [.agg [Ay x.b.2.1,ints x.b.2.2],I 0],⟨Ab st.obj 1 (some (.arr 0 2 (elT x.hn x.ls x.us x.ts x.d x.E (2 ^ x.ts.length)))),st.next⟩)
theorem NW {hn:Int} {ls:List Lnk} {us:List Snd} {ts:List Trp} {d:Dem} {E:List PV}:∀k,(elT hn ls us ts d E k).length=E.length
 | 0=>rfl
 | k+1=>by simp only[elT,List.length_set,NW k]
theorem JH {hn:Int} {ls:List Lnk} {us:List Snd} {ts:List Trp} {d:Dem} {E:List PV} {s:Nat}:∀k,k≤s→nth (elT hn ls us ts d E k) s=nth E s
 | 0,_=>rfl
 | k+1,h=>by
  have ih:=JH (hn:=hn) (ls:=ls) (us:=us) (ts:=ts) (d:=d) (E:=E) (s:=s) k (by omega)
  rw [←ih]
  simp only[elT]
  generalize elT hn ls us ts d E k=L
  unfold nth
  rw [List.getD_eq_getElem?_getD,List.getElem?_set_ne (by omega),←List.getD_eq_getElem?_getD]
theorem Ae0 {hn:Int} {ls:List Lnk} {us:List Snd} {ts:List Trp} {d:Dem} {s:Nat} (h:PR hn ls us ts d s=0):CX hn ls us ts d s=0:=by
 unfold PR KG at h
 split at h
 ·rename_i g;exact absurd h g
 ·exact h
theorem aG {K:Nat→Prop} {l:List Int}:(ints l).In K:=.lits _ _ fun e he c hc=>by
 obtain ⟨x,_,rfl⟩:=List.mem_map.1 he
 simp only[PV.cells,List.mem_singleton]at hc
 subst hc;exact .int _ _
theorem Ae1 {K:Nat→Prop} {y:List (List Int)}:(E4 y).In K:=.lits _ _ fun e he c hc=>by
 obtain ⟨x,_,rfl⟩:=List.mem_map.1 he
 simp only[ints,PV.cells,List.mem_singleton]at hc
 subst hc;exact aG
theorem wP {hn:Int} {ls:List Lnk} {us:List Snd} {ts:List Trp} {d:Dem} {E:List PV} {K:Nat→Prop} (h0:∀s,s<E.length→nth E s=.agg [.nils,.nils]):∀k,k≤E.length→∀e∈elT hn ls us ts d E k,∀c∈e.cells,c.In K
 | 0,_,e,he,c,hc=>by
  have he:e∈E:=he
  obtain ⟨i,hi,rfl⟩:=List.getElem_of_mem he
  have h1:=h0 i hi
  unfold nth at h1
  rw [List.getD_eq_getElem?_getD,List.getElem?_eq_getElem hi]at h1
  simp only[Option.getD_some]at h1
  rw [h1]at hc
  simp only[PV.cells,List.mem_cons,List.not_mem_nil,or_false,or_self]at hc
  subst hc;exact .nils
 | k+1,hk,e,he,c,hc=>by
  have ih:=wP (hn:=hn) (ls:=ls) (us:=us) (ts:=ts) (d:=d) (K:=K) h0 k (by omega)
  have hs:nth (elT hn ls us ts d E k) k=.agg [.nils,.nils]:=by rw[JH k (Nat.le_refl _)];exact h0 k (by omega)
  simp only[elT]at he
  rcases List.mem_or_eq_of_mem_set he with he | rfl
  ·exact ih e he c hc
  ·unfold FQ.el at hc
   dsimp only at hc
   rw [hs]at hc
   simp only[PV.cells,List.mem_cons,List.not_mem_nil,or_false]at hc
   rcases hc with rfl | rfl
   ·exact Ae1
   ·exact .nils
noncomputable def e_best2:Nat×Ent:=(18,.x (A8 JF JG H3))
theorem Ae2 (a b:BX) (st:Store) (h:JF a=JF b) (hx:JG a st) (hy:JG b st):H3 a st=H3 b st:=by
 obtain ⟨hn,ls,us,ts,d,E⟩:=a
 obtain ⟨hn',ls',us',ts',d',E'⟩:=b
 simp only[JF,S0,List.cons.injEq,and_true,PV.int.injEq,true_and,PV.agg.injEq,PV.lits.injEq,AD,AF,Ck]at h
 obtain ⟨e2,e3,e4,e5,f1,f2,f3,f4,f5⟩:=h
 have hd:d=d':=Prod.ext f1 (Prod.ext f2 (Prod.ext f3 (Prod.ext f4 f5)))
 have h1:=hx.2.1.symm.trans hy.2.1
 simp only[Option.some.injEq,IObj.arr.injEq,true_and]at h1
 subst e2 e3 e4 e5 hd h1
 rfl
theorem Ae3 {hn:Int} {ls:List Lnk} {us:List Snd} {ts:List Trp} {d:Dem} (E:List PV) {st:Store} (h:JG ⟨hn,ls,us,ts,d,E⟩ st) :
  A8 JF JG H3 [.agg (S0 hn ls us ts d),.func (.func 36) [] [.ptr 2 0 0 0]] st=some (H3 ⟨hn,ls,us,ts,d,E⟩ st) :=
 Ba Ae2 (i:=⟨hn,ls,us,ts,d,E⟩) h
theorem Ae4:AM Tryz.prog e_best2.1 e_best2.2:=Ft fun x st hx=>by
 obtain ⟨hn,ls,us,ts,d,E⟩:=x
 obtain ⟨ob,M0⟩:=st
 unfold JG at hx
 dsimp only at hx
 obtain ⟨o2,o1,hEr,hv,hD12,wf,hpr,hb0⟩:=hx
 have hEl:E.length=2 ^ ts.length:=by rw[hEr,List.length_replicate]
 have hE0:∀s,s<E.length→nth E s=.agg [.nils,.nils]:=fun s hs=>by
  rw [hEr]at hs ⊢
  rw [List.length_replicate]at hs
  unfold nth
  rw [List.getD_eq_getElem?_getD,List.getElem?_replicate,if_pos hs];rfl
 have hEa:∀s,s<E.length→∃a b,nth E s=.agg [a,b]:=fun s hs=>⟨_,_,hE0 s hs⟩
 have V:=vck_iff.1 hv
 have hn4:=V.few
 have hll:=V.size.2.1
 have hwn:=V.size.1
 have h16:2 ^ ts.length≤2 ^ 4:=Nat.pow_le_pow_right (by omega) hn4
 have hsh:=LC (k:=ts.length) (by omega)
 have hk0:¬(ts.length:Int)<0:=by omega
 have hk64:ts.length≤64:=by omega
 have l2:2<M0:=wf _ _ o2
 simp only[JF,H3]
 obtain ⟨R,hR0⟩:∃R,BX.b ⟨hn,ls,us,ts,d,E⟩=R:=⟨_,rfl⟩
 rw [hR0]at hb0 ⊢
 obtain ⟨N,hN⟩:∃N,2 ^ ts.length=N:=⟨_,rfl⟩
 rw [hN]at hsh h16 hEl hpr ⊢
 have hR:Ch hn ls us ts d N=R:=by rw[←hN];exact hR0
 have hnod:∀s:Nat,AU (wHn hn ts) d≤268:=fun s=>by
  have h1:(wHn hn ts).toNat≤12:=by unfold wHn;omega
  unfold AU
  exact Nat.le_trans (Nat.mul_le_mul (show As d+1≤13 by omega) h1) (by decide)
 have d1:¬M0=0∧¬M0=1∧¬1=M0∧¬M0=2∧¬2=M0∧¬M0+1=1∧¬1=M0+1∧¬M0+1=2∧¬2=M0+1∧¬M0=M0+1∧¬M0+1=M0:=by omega
 refine BT AP (l := [e_wide,e_find2,e_passage,e_vcost]) ((Ad Pr (Ad Aez (Ad Ri (Ad LJ Au))))) [4,6] [] 0 Tryz.func18 rfl (by decide +kernel) (N:=55) rfl (by simp) rfl (by kernel_rfl) ?_
 simp only[↓bdD,bdP,seval,Store.new,e_wide,e_find2,e_passage,e_vcost,Tryz.f18,BR,Be,B3,hk0,hk64,hsh]
 refine Aw [7,8,9,10,11,12,13,18,19,20,21,22,23,24,25,26,27,28,29,30,31,32,33,34,35,36,37,38,39,40,41,42,43,44,45,46,47,48,49,50] N (fun s ρ st'=>ρ 18=I s∧ρ 7=I (Ch hn ls us ts d s).1∧(∃c1 c2,st'.obj (M0+1)=some (.arr 0 2 [.agg [c1,c2]])∧(c1=Ay (Ch hn ls us ts d s).2.1∧c2=ints (Ch hn ls us ts d s).2.2∨(Ch hn ls us ts d s).1<0))∧st'.obj M0=some (.arr 0 2 [.agg [.nils,.nils]])∧st'.obj 2=some (.arr 0 1 [.ref 1 0 0 E.length])∧st'.obj 1=some (.arr 0 2 (elT hn ls us ts d E s))∧(∀i,i<M0→¬i=1→st'.obj i=ob i)∧M0+2≤st'.next) (.refl _) ?_ ?_
 ·simp only[↓bdD,bdP,seval,Ch,elT,d1,o1,o2]
  exact ⟨⟨_,_,rfl,rfl⟩,fun i hi _=>by rw[Ab,if_neg (by omega),Ab,if_neg (by omega)]⟩
 rintro s ρ ⟨ob2,M⟩ hs2 ⟨h18,h7,⟨c1,c2,p1,hc⟩,p0,q2,q1,qe,hM⟩
 dsimp only at p1 p0 q2 q1 qe hM
 have m1:¬M=M0∧¬M0=M∧¬M=M0+1∧¬M0+1=M∧¬M=1∧¬1=M∧¬M=2∧¬2=M:=by omega
 by_cases hlt:s<N
 ·have hwk:IntKind.i64.wrap ((s:Int)+1)=((s+1:Nat):Int):=by rw[Ah (by omega) (by omega)];omega
  have hli:(s:Int)<(N:Int):=by omega
  have sw:=Pq (hn:=hn) (ls:=ls) (us:=us) (ts:=ts) (d:=d) (s:=s)
  rw [if_pos ⟨hv,by omega⟩]at sw
  have eB:Ch hn ls us ts d (s+1)=if CX hn ls us ts d s=0∧((Ch hn ls us ts d s).1<0∨Fp hn ls us ts d s<(Ch hn ls us ts d s).1)then (Fp hn ls us ts d s,Tm hn ls us ts d s,PG hn ls us ts d s)else Ch hn ls us ts d s:=rfl
  have eE:elT hn ls us ts d E (s+1)=(elT hn ls us ts d E s).set s (FQ.el ⟨s,wHn hn ts,wLs hn ls ts d s,wUs ls us ts d s,d,elT hn ls us ts d E s⟩):=rfl
  have he:∃a b,nth (elT hn ls us ts d E s) s=.agg [a,b]:=by rw[JH s (Nat.le_refl _)];exact hEa s (by omega)
  have hL:=NW (hn:=hn) (ls:=ls) (us:=us) (ts:=ts) (d:=d) (E:=E) s
  generalize Ch hn ls us ts d (s+1)=B2 at *
  generalize Ch hn ls us ts d s=B at *
  generalize elT hn ls us ts d E (s+1)=E2 at *
  generalize elT hn ls us ts d E s=EL at *
  have sf:∀st:Store,st.obj 2=some (.arr 0 1 [.ref 1 0 0 E.length])→st.obj 1=some (.arr 0 2 EL)→_:=fun st a b=>Aey (s:=s) (hn:=wHn hn ts) (ls:=wLs hn ls ts d s) (us:=wUs ls us ts d s) (d:=d) EL (st:=st) ⟨by dsimp only;rw[hL];exact a,b,by dsimp only;omega,he,hnod 0,hpr s hlt⟩
  simp only[H2]at sf
  rw [←eE]at sf
  have h:PR hn ls us ts d s=0:=hpr s hlt
  have hch:CX hn ls us ts d s=0:=Ae0 h
  have hpb:=ZY hch
  have sp:=Rh (hn:=hn) (ls:=ls) (us:=us) (ts:=ts) (d:=d) (l:=KH hn ls us ts d s)
  rw [if_pos ⟨by omega,hn4,hpb⟩]at sp
  unfold Fp Tm PG at eB
  unfold KH at sp eB
  have h0:=hch
  generalize wHn hn ts=wh at *
  generalize wLs hn ls ts d s=wl at *
  generalize wUs ls us ts d s=wu at *
  generalize hC:CV wh wl wu d=C at *
  generalize hS:psS ls.length C=S at *
  generalize hO:psO ls.length ts.length C=O at *
  by_cases a1:B.1<0
  ·rw [if_pos ⟨h0,.inl a1⟩]at eB
   subst eB
   simp only[↓bdD,bdP,seval,Store.new,Store.set,EC,Ac,Aa,AB,ty3,AN,Be,B3,BF,h18,h7,p1,p0,q2,q1,d1,m1,hlt,hli,hwk,sw,sf,sp,a1,Av]
   exact ⟨⟨_,_,⟨rfl,rfl⟩,.inl ⟨rfl,rfl⟩⟩,fun i hi h1=>by rw[Ab,if_neg (by omega),Ab,if_neg (by omega),Ab,if_neg h1];exact qe i hi h1,by omega⟩
  by_cases a2:Et hn ls us ts d S O<B.1
  ·rw [if_pos ⟨h0,.inr a2⟩]at eB
   subst eB
   simp only[↓bdD,bdP,seval,Store.new,Store.set,EC,Ac,Aa,AB,ty3,AN,Be,B3,BF,h18,h7,p1,p0,q2,q1,d1,m1,hlt,hli,hwk,sw,sf,sp,a1,a2,Av]
   exact ⟨⟨_,_,⟨rfl,rfl⟩,.inl ⟨rfl,rfl⟩⟩,fun i hi h1=>by rw[Ab,if_neg (by omega),Ab,if_neg (by omega),Ab,if_neg h1];exact qe i hi h1,by omega⟩
  ·rw [if_neg (fun g=>by rcases g.2 with g | g;exact a1 g;exact a2 g)]at eB
   subst eB
   simp only[↓bdD,bdP,seval,Store.new,Store.set,EC,Ac,Aa,AB,ty3,AN,Be,B3,BF,h18,h7,p1,p0,q2,q1,d1,m1,hlt,hli,hwk,sw,sf,sp,a1,a2,Av]
   rcases hc with hc | hc
   ·exact ⟨⟨_,_,⟨rfl,rfl⟩,hc⟩,fun i hi h1=>by rw[Ab,if_neg (by omega),Ab,if_neg h1];exact qe i hi h1,by omega⟩
   ·exact absurd hc a1
 ·have e:s=N:=by omega
  subst e
  rw [hR]at h7 hc
  have hli:¬(s:Int)<(s:Int):=by omega
  have a1:=hb0
  ·rcases hc with ⟨rfl,rfl⟩ | hc
   ·simp only[↓bdD,bdP,seval,Ao,Store.set,B3,h18,h7,p1,p0,d1,hli,a1]
    refine ⟨[],.inl rfl,fun i o hi=>?_,Nat.le_refl _,?_⟩
    ·by_cases e1:i=1
     ·subst e1
      simp only[Ab,if_true]at hi
      refine ⟨by show 1<M0;omega,rfl,?_,.inr ?_⟩
      ·rw [←hi]
       show Ab _ _ _ 1=_
       rw [Ab,if_neg (by omega)];exact q1
      ·obtain rfl:=Option.some.inj hi
       exact wP hE0 _ (by omega)
     ·simp only[Ab,if_neg e1]at hi
      have hlt':=wf i o hi
      refine ⟨hlt',rfl,?_,.inl hi⟩
      show Ab _ _ _ i=_
      rw [Ab,if_neg (by omega)]
      exact (qe i hlt' e1).trans hi
    ·refine .tuple _ fun c hc=>?_
     simp only[List.mem_cons,List.not_mem_nil,or_false]at hc
     rcases hc with rfl | rfl
     ·refine .agg _ fun c hc=>?_
      simp only[List.mem_cons,List.not_mem_nil,or_false]at hc
      rcases hc with rfl | rfl
      ·exact ZB
      ·exact aG
     ·exact .int _ _
   ·exact absurd hc a1
noncomputable def JO (hn:Int) (ls:List Lnk) (us:List Snd) (ts:List Trp) (d:Dem):List Prf:=(List.range (2 ^ ts.length)).map fun s=>(Dk (wHn hn ts) (wLs hn ls ts d s) (wUs ls us ts d s) d,[])
theorem wQ {hn:Int} {ls:List Lnk} {us:List Snd} {ts:List Trp} {d:Dem} {E:List PV} {s:Nat} (hs:s<E.length) (h0:nth E s=.agg [.nils,.nils]):∀k,s<k→nth (elT hn ls us ts d E k) s=.agg [E4 (Dk (wHn hn ts) (wLs hn ls ts d s) (wUs ls us ts d s) d),.nils]
 | 0,h=>absurd h (by omega)
 | k+1,h=>by
  simp only[elT]
  by_cases e:s=k
  ·subst e
   have hl:=NW (hn:=hn) (ls:=ls) (us:=us) (ts:=ts) (d:=d) (E:=E) s
   have hn0:=JH (hn:=hn) (ls:=ls) (us:=us) (ts:=ts) (d:=d) (E:=E) (s:=s) s (Nat.le_refl _)
   rw [h0]at hn0
   generalize elT hn ls us ts d E s=L at *
   unfold nth
   rw [List.getD_eq_getElem?_getD,List.getElem?_set_self (by omega)]
   unfold FQ.el
   dsimp only[Option.getD_some]
   rw [hn0];rfl
  ·have ih:=wQ (hn:=hn) (ls:=ls) (us:=us) (ts:=ts) (d:=d) hs h0 k (by omega)
   rw [←ih]
   generalize elT hn ls us ts d E k=L
   unfold nth
   rw [List.getD_eq_getElem?_getD,List.getElem?_set_ne (by omega),←List.getD_eq_getElem?_getD]
theorem Akl {hn:Int} {ls:List Lnk} {us:List Snd} {ts:List Trp} {d:Dem} {l:List Snd} {o:List Int} {st:Store} {N:Nat} {L:List PV} (hl:L.length=N) (hel:∀s,s<N→nth L s=.agg [E4 (Dk (wHn hn ts) (wLs hn ls ts d s) (wUs ls us ts d s) d),.nils]) (h1:st.obj 1=some (.arr 0 2 L)) :
  DR st (.tuple [.agg [Ay l,ints o],.ref 1 0 0 N,I 0]) (.tuple [.agg [Ay l,ints o],MT ((List.range N).map fun s=>(Dk (wHn hn ts) (wLs hn ls ts d s) (wUs ls us ts d s) d,[])),I 0]):=by
 have ha:st.arr? 1 0=some (2,L):=by simp[Store.arr?,h1]
 have key:∀(i:Nat) (e q:PV),L[0+i]?=some e→(((List.range N).map fun s=>(Dk (wHn hn ts) (wLs hn ls ts d s) (wUs ls us ts d s) d,([]:List Int))).map VY)[i]?=some q→q=.agg [E4 (Dk (wHn hn ts) (wLs hn ls ts d i) (wUs ls us ts d i) d),ints []]∧e=.agg [E4 (Dk (wHn hn ts) (wLs hn ls ts d i) (wUs ls us ts d i) d),.nils]:=fun i e q he hq=>by
  rw [Nat.zero_add]at he
  obtain ⟨hi,rfl⟩:=List.getElem?_eq_some_iff.1 he
  obtain ⟨hi2,rfl⟩:=List.getElem?_eq_some_iff.1 hq
  refine ⟨by simp only[List.getElem_map,List.getElem_range],?_⟩
  rw [←hel i (by omega)]
  unfold nth
  rw [List.getD_eq_getElem?_getD,List.getElem?_eq_getElem hi];rfl
 refine DR.tuple3 (.pure _ ?_) ?_ (.int rfl)
 ·simp only[PV.pur,AT,Ac,GO,Bool.and_self]
 ·refine .ref 1 0 0 N 2 _ _ ha (by omega) (by simp) (fun i e q he hq=>?_) (fun i e q he hq=>?_)
  ·obtain ⟨rfl,rfl⟩:=key i e q he hq
   exact ⟨rfl,rfl⟩
  ·obtain ⟨rfl,rfl⟩:=key i e q he hq
   exact DR.aggs (.cons (.pure _ (by simp only[PV.pur];exact Du)) rfl (.cons (.nils _) rfl .nil))
noncomputable def Gc:Int×List Lnk×List Snd×List Trp×Dem→List PV:=fun (hn,ls,us,ts,d) => [.agg [I hn,AQ ls,Ay us,CK ts,I d.1,I d.2.1,I d.2.2.1,I d.2.2.2.1,I d.2.2.2.2]]
noncomputable def LW:Int×List Lnk×List Snd×List Trp×Dem→PV:=fun (hn,ls,us,ts,d)=>.tuple [.agg [Ay (JN hn ls us ts d).2.1,ints (JN hn ls us ts d).2.2],MT (JO hn ls us ts d),I 0]
def Wa:Int×List Lnk×List Snd×List Trp×Dem→Prop:=fun (hn,ls,us,ts,d)=>Ee hn ls us ts d=0∧As d≤12∧(∀s,s<2 ^ ts.length→PR hn ls us ts d s=0)∧¬(JN hn ls us ts d).1<0
noncomputable def e_vprove:Nat×Ent:=(16,.v (Ap Gc LW Wa))
theorem wR:∀i j,Gc i=Gc j→i=j:=by
 rintro ⟨_,_,_,_,_⟩ ⟨_,_,_,_,_⟩ h
 simp only[Gc,List.cons.injEq,and_true,PV.lits.injEq,PV.int.injEq,PV.agg.injEq,true_and,AF,AD,Ck]at h
 simp [Prod.ext_iff,h] <;> omega
theorem wS (hn:Int) (ls:List Lnk) (us:List Snd) (ts:List Trp) (d:Dem):Ap Gc LW Wa [.agg [I hn,AQ ls,Ay us,CK ts,I d.1,I d.2.1,I d.2.2.1,I d.2.2.2.1,I d.2.2.2.2]]=@ite (Option (PV)) (Ee hn ls us ts d=0∧As d≤12∧(∀s,s<2 ^ ts.length→PR hn ls us ts d s=0)∧¬(JN hn ls us ts d).1<0) (Classical.propDecidable _) (some (.tuple [.agg [Ay (JN hn ls us ts d).2.1,ints (JN hn ls us ts d).2.2],MT (JO hn ls us ts d),I 0])) none:=Br wR (hn,ls,us,ts,d)
def wT:Prop:=∀(hn:Int) (ls:List Lnk) (us:List Snd) (ts:List Trp) (d:Dem) (h:Ee hn ls us ts d=0∧As d≤12∧(∀s,s<2 ^ ts.length→PR hn ls us ts d s=0)∧¬(JN hn ls us ts d).1<0) ,VC Tryz.prog 16 (Gc (hn,ls,us,ts,d)) (LW (hn,ls,us,ts,d))
theorem wU:wT:=by
 rintro hn ls us ts d ⟨h,hD,hpr,a1⟩
 dsimp only[Gc,LW]
 refine OF [11] AP (l := [e_vcheck,e_wide,e_pcheck,e_best2]) ((Ad Pn (Ad Pr (Ad Ly (Ad Ae4 Au))))) [] [] 0 0 Tryz.func16 rfl (by decide +kernel) (N:=40) rfl (by simp) rfl (by kernel_rfl) fun hs=>?_
 simp only[AK,PV.small,List.length_map,and_true,true_and]at hs
 unfold JO
 have V:=vck_iff.1 h
 have hn4:=V.few
 have h16:2 ^ ts.length≤2 ^ 4:=Nat.pow_le_pow_right (by omega) hn4
 have hsh:=LC (k:=ts.length) (by omega)
 have hk0:¬(ts.length:Int)<0:=by omega
 have hk64:ts.length≤64:=by omega
 have sw:=Pq (hn:=hn) (ls:=ls) (us:=us) (ts:=ts) (d:=d) (s:=0)
 rw [if_pos ⟨h,by omega⟩,show ((0:Nat):Int)=0 from rfl]at sw
 have h2:D9 (wHn hn ts) (wLs hn ls ts d 0) (wUs ls us ts d 0) d=0:=by
  have := hpr 0 (Nat.two_pow_pos _)
  unfold PR KG at this
  split at this
  ·rename_i g;exact absurd this g
  ·rename_i g;exact Classical.not_not.1 g
 obtain ⟨N,hN⟩:∃N,2 ^ ts.length=N:=⟨_,rfl⟩
 obtain ⟨B,hB⟩:∃B,JN hn ls us ts d=B:=⟨_,rfl⟩
 have eb:BX.b ⟨hn,ls,us,ts,d,List.replicate N (.agg [.nils,.nils])⟩=B:=hB
 have sb:∀st:Store,st.obj 2=some (.arr 0 1 [.ref 1 0 0 N])→st.obj 1=some (.arr 0 2 (List.replicate N (.agg [.nils,.nils])))→(∀i o,st.obj i=some o→i<st.next)→_:=fun st a b c=>Ae3 (hn:=hn) (ls:=ls) (us:=us) (ts:=ts) (d:=d) (List.replicate N (.agg [.nils,.nils])) (st:=st) ⟨by dsimp only;rw[List.length_replicate];exact a,b,by dsimp only;rw[hN],h,hD,c,hpr,a1⟩
 rw [hB]
 rw [hN]at hsh h16 ⊢
 have hNi:(N:Int)≤4294967296:=by omega
 have hN0:¬(N:Int)<0:=by omega
 simp only[H3,eb]at sb
 dsimp only[S0,AQ,Ay,CK,ints]at sb
 rw [hN]at sb
 have hwf:∀i o,(Ab (Ab (Ab (fun i=>if i<0 then some (IObj.arr 0 1 [])else none) 0 (some (.arr 0 2 [.agg [.nils,.nils]]))) 1 (some (.arr 0 2 (List.replicate N (.agg [.nils,.nils]))))) 2 (some (.arr 0 1 [.ref 1 0 0 N]))) i=some o→i<3:=fun i o g=>by
  unfold Ab at g
  split at g
  ·omega
  ·split at g
   ·omega
   ·split at g
    ·omega
    ·have g2:(if i<0 then some (IObj.arr 0 1 [])else none)=some o:=g
     rw [if_neg (by omega)]at g2;cases g2
 have hel:=fun s (hs:s<N)=>wQ (hn:=hn) (ls:=ls) (us:=us) (ts:=ts) (d:=d) (E:=List.replicate N (.agg [.nils,.nils])) (s:=s) (by rw[List.length_replicate];exact hs) (by unfold nth;rw[List.getD_eq_getElem?_getD,List.getElem?_replicate,if_pos hs];rfl) N hs
 have hll:=NW (hn:=hn) (ls:=ls) (us:=us) (ts:=ts) (d:=d) (E:=List.replicate N (.agg [.nils,.nils])) N
 rw [List.length_replicate]at hll
 generalize elT hn ls us ts d (List.replicate N (.agg [.nils,.nils])) N=L at *
 have dr:=fun st=>Akl (hn:=hn) (ls:=ls) (us:=us) (ts:=ts) (d:=d) (l:=B.2.1) (o:=B.2.2) (st:=st) hll hel
 clear hpr
 simp +contextual (maxSteps:=4000000) only[↓bdD,bdP,seval,Store.new,Store.set,e_vcheck,ET,e_wide,e_pcheck,Cu,e_best2,Ac,Aa,AB,Tryz.f16,ty3,BR,Be,B3,Fl,BF,Alt,K8,↓A5,↓AO,↓Ar,↓AG,h,sw,h2,hsh,hk0,hk64,hNi,sb,hwf,Av]
 refine X0 1 2 (by rfl) (by kernel_rfl) ?_ ?_
 ·simp only[↓bdD,bdP,seval,Ao,Store.set,B3,Fl,↓En]
  exact dr _ rfl
 ·simp only[atO,P3,List.length_cons,List.length_nil,Nat.reduceAdd,show List.range 5 = [0,1,2,3,4] from rfl,List.flatMap_cons,List.flatMap_nil,Nat.reduceEqDiff,if_false,if_true,List.cons_append,List.nil_append,List.append_nil,List.filterMap_cons,List.filterMap_nil,List.getElem?_toArray,List.getElem?_cons_succ,List.getElem?_cons_zero,Nat.reduceLT]
  simp only[↓bdD,bdP,seval,Ao,Store.set,B3,Fl,↓En]
  exact dr _ rfl
theorem wV:AM Tryz.prog e_vprove.1 e_vprove.2:=Ax fun⟨hn,ls,us,ts,d⟩ h=>wU hn ls us ts d h
def tkN (H:List Int) (h:Nat) (b:Int):Int:=if H.getD h 0<b then H.getD h 0 else b
def tkH (H:List Int) (h:Nat) (b:Int):List Int:=H.set h (IntKind.i64.wrap (H.getD h 0-tkN H h b))
structure TK where
 A : Nat
 H : List Int
 h : Nat
 b : Int
def I3 (x:TK):List PV := [I (x.h:Nat),I x.b,.ptr x.A 0 0 0]
def I4 (x:TK) (st:Store):Prop:=st.obj x.A=some (.arr 0 12 [.agg (x.H.map (PV.int .i64))])∧x.H.length=12∧x.h<12
def I5 (x:TK) (st:Store):PV×Store:=(I (tkN x.H x.h x.b),⟨Ab st.obj x.A (some (.arr 0 12 [.agg ((tkH x.H x.h x.b).map (PV.int .i64))])),st.next⟩)
noncomputable def e_take:Nat×Ent:=(31,.x (A8 I3 I4 I5))
theorem Akm (a b:TK) (st:Store) (h:I3 a=I3 b) (hx:I4 a st) (hy:I4 b st):I5 a st=I5 b st:=by
 obtain ⟨A,H,u,v⟩:=a
 obtain ⟨A',H',u',v'⟩:=b
 simp only[I3,List.cons.injEq,and_true,PV.int.injEq,true_and,PV.ptr.injEq]at h
 obtain ⟨e1,e2,e3⟩:=h
 have e1:u=u':=by omega
 subst e1 e2 e3
 have h1:=hx.1.symm.trans hy.1
 simp only[Option.some.injEq,IObj.arr.injEq,List.cons.injEq,PV.agg.injEq,true_and,and_true,B1]at h1
 subst h1
 rfl
theorem wX {A h:Nat} {b:Int} (H:List Int) {st:Store} (g:I4 ⟨A,H,h,b⟩ st):A8 I3 I4 I5 [I (h:Nat),I b,.ptr A 0 0 0] st=some (I5 ⟨A,H,h,b⟩ st):=Ba Akm (i:=⟨A,H,h,b⟩) g
theorem LX {H:List Int} {h:Nat} {v:Int} (hl:h<H.length):List.take h (H.map (PV.int .i64)) ++ [PV.int .i64 v]++List.drop (h+1) (H.map (PV.int .i64))=(H.set h v).map (PV.int .i64):=by
 rw [List.map_set,List.set_eq_take_append_cons_drop,if_pos (by rw[List.length_map];exact hl),List.append_assoc];rfl
theorem Eb {H:List Int} {h:Nat} (hl:h<H.length):(H.map (PV.int .i64))[h]?=some (I (H.getD h 0)):=by
 rw [List.getElem?_map,List.getD_eq_getElem?_getD,List.getElem?_eq_getElem hl];rfl
theorem Akn:AM Tryz.prog e_take.1 e_take.2:=Ca fun x st hx=>by
 obtain ⟨A,H,h,b⟩:=x
 obtain ⟨ob,M⟩:=st
 unfold I4 at hx
 dsimp only at hx
 obtain ⟨h1,hl,hh⟩:=hx
 simp only[I3,I5]
 have hg:=Eb (H:=H) (h:=h) (by omega)
 have hs:=LX (H:=H) (h:=h) (v:=IntKind.i64.wrap (H.getD h 0-tkN H h b)) (by omega)
 have hi:(h:Int)<12:=by omega
 have hi2:h≤11:=by omega
 have hml:(H.map (PV.int .i64)).length=12:=by rw[List.length_map,hl]
 unfold tkH
 unfold tkN at hs ⊢
 refine BT AP (l := []) (Au) [] [] 0 Tryz.func31 rfl (by decide +kernel) (N:=19) rfl (by simp) rfl (by kernel_rfl) ?_
 simp only[↓bdD,bdP,seval,Ao,Store.set,Nat.mul_one,Tryz.f31,ty3,X2,h1,hg,hi,hi2]
 rw [hs]
 exact Left.refl
def adI (l:List Int) (i:Nat) (v:Int):List Int:=l.set i (IntKind.i64.wrap (l.getD i 0+v))
def mvT (H G:List Int):Nat→List Int×List Int
 | 0=>(H,G)
 | k+1=>(adI (mvT H G k).1 k ((mvT H G k).2.getD k 0),(mvT H G k).2.set k 0)
def inT (ts:List Trp) (arr C:List Int) (τ:Int) (H:List Int):Nat→List Int
 | 0=>H
 | k+1=>if arr.getD k 0=τ then adI (inT ts arr C τ H k) (ts.getD k dT).2.1.toNat (C.getD k 0)else inT ts arr C τ H k
def ouT (ts:List Trp) (o:List Int) (τ:Int) (H C:List Int):Nat→List Int×List Int
 | 0=>(H,C)
 | k+1=>if (ts.getD k dT).2.2.1=τ then (tkH (ouT ts o τ H C k).1 (ts.getD k dT).1.toNat (o.getD k 0),(ouT ts o τ H C k).2.set k (tkN (ouT ts o τ H C k).1 (ts.getD k dT).1.toNat (o.getD k 0)))else ouT ts o τ H C k
def seT (ls:List Lnk) (l:List Snd) (τ:Int) (H G:List Int):Nat→List Int×List Int
 | 0=>(H,G)
 | k+1=>if (l.getD k dS).2.1=τ then (tkH (seT ls l τ H G k).1 (Bd ls (l.getD k dS)).1.toNat (l.getD k dS).2.2,adI (seT ls l τ H G k).2 (Bd ls (l.getD k dS)).2.1.toNat (tkN (seT ls l τ H G k).1 (Bd ls (l.getD k dS)).1.toNat (l.getD k dS).2.2))else seT ls l τ H G k
abbrev HGC:=List Int×List Int×List Int
def inA (d:Dem) (τ:Int) (H:List Int):List Int:=if τ=d.2.2.2.1 then adI H d.1.toNat d.2.2.1 else H
def dyA (ts:List Trp) (d:Dem) (arr:List Int) (τ:Int) (S:HGC):HGC:=(inT ts arr S.2.2 τ (inA d τ (mvT S.1 S.2.1 12).1) ts.length,(mvT S.1 S.2.1 12).2,S.2.2)
def dyB (ls:List Lnk) (ts:List Trp) (l:List Snd) (o:List Int) (τ:Int) (S:HGC):HGC :=
 ((seT ls l τ (ouT ts o τ S.1 S.2.2 ts.length).1 S.2.1 l.length).1,(seT ls l τ (ouT ts o τ S.1 S.2.2 ts.length).1 S.2.1 l.length).2,(ouT ts o τ S.1 S.2.2 ts.length).2)
def dlS (ls:List Lnk) (ts:List Trp) (d:Dem) (l:List Snd) (o arr:List Int):Nat→HGC
 | 0=>(List.replicate 12 0,List.replicate 12 0,List.replicate 4 0)
 | t+1=>dyB ls ts l o (d.2.2.2.1+(t:Int)) (dyA ts d arr (d.2.2.2.1+(t:Int)) (dlS ls ts d l o arr t))
def arB (ts:List Trp) (arr:List Int) (k:Nat):Prop:=arr.getD k 0 ≠ -1∧(arr.getD k 0≤(ts.getD k dT).2.2.1∨1000000<arr.getD k 0)
instance (ts:List Trp) (arr:List Int) (k:Nat):Decidable (arB ts arr k):=inferInstanceAs (Decidable (_∧_))
def Wb (hn:Int) (ls:List Lnk) (us:List Snd) (ts:List Trp) (d:Dem) (l:List Snd) (o arr:List Int):Int :=
 if IZ hn ls us ts d l o≠0 then IZ hn ls us ts d l o else if arr.length≠ts.length then 1 else if ¬ ∀k,k<ts.length→¬arB ts arr k then 1 else 0
def YK (hn:Int) (ls:List Lnk) (us:List Snd) (ts:List Trp) (d:Dem) (l:List Snd) (o arr:List Int):Int :=
 if Wb hn ls us ts d l o arr≠0 then 0 else (dyA ts d arr (d.2.2.2.1+(As d:Int)) (dlS ls ts d l o arr (As d))).1.getD d.2.1.toNat 0
section
variable {l:List Int} {i:Nat} {v:Int}
theorem NX:(adI l i v).length=l.length:=by unfold adI;rw[List.length_set]
theorem aH:(tkH l i v).length=l.length:=by unfold tkH;rw[List.length_set]
end
theorem NY {H G:List Int}:∀k,(mvT H G k).1.length=H.length∧(mvT H G k).2.length=G.length
 | 0=>⟨rfl,rfl⟩
 | k+1=>by have:=NY (H:=H) (G:=G) k;simp only[mvT,NX,List.length_set];exact this
theorem TB {ts:List Trp} {arr C H:List Int} {τ:Int}:∀k,(inT ts arr C τ H k).length=H.length
 | 0=>rfl
 | k+1=>by have:=TB (ts:=ts) (arr:=arr) (C:=C) (H:=H) (τ:=τ) k;simp only[inT];split <;> simp only[NX,this]
theorem NZ {ts:List Trp} {o C H:List Int} {τ:Int}:∀k,(ouT ts o τ H C k).1.length=H.length∧(ouT ts o τ H C k).2.length=C.length
 | 0=>⟨rfl,rfl⟩
 | k+1=>by have:=NZ (ts:=ts) (o:=o) (C:=C) (H:=H) (τ:=τ) k;simp only[ouT];split <;> simp only[aH,List.length_set,this,and_self]
theorem N0 {ls:List Lnk} {l:List Snd} {H G:List Int} {τ:Int}:∀k,(seT ls l τ H G k).1.length=H.length∧(seT ls l τ H G k).2.length=G.length
 | 0=>⟨rfl,rfl⟩
 | k+1=>by have:=N0 (ls:=ls) (l:=l) (H:=H) (G:=G) (τ:=τ) k;simp only[seT];split <;> simp only[aH,NX,this,and_self]
theorem aJ {d:Dem} {τ:Int} {H:List Int}:(inA d τ H).length=H.length:=by unfold inA;split <;> simp only[NX]
theorem Ae5 {ts:List Trp} {d:Dem} {arr:List Int} {τ:Int} {S:HGC}:(dyA ts d arr τ S).1.length=S.1.length∧(dyA ts d arr τ S).2.1.length=S.2.1.length∧(dyA ts d arr τ S).2.2.length=S.2.2.length:=by
 unfold dyA
 refine ⟨?_,?_,rfl⟩
 ·show (inT _ _ _ _ _ _).length=_
  rw [TB,aJ];exact (NY 12).1
 ·exact (NY 12).2
theorem Ae6 {ls:List Lnk} {ts:List Trp} {l:List Snd} {o:List Int} {τ:Int} {S:HGC}:(dyB ls ts l o τ S).1.length=S.1.length∧(dyB ls ts l o τ S).2.1.length=S.2.1.length∧(dyB ls ts l o τ S).2.2.length=S.2.2.length:=by
 unfold dyB
 refine ⟨?_,?_,?_⟩
 ·exact (N0 _).1.trans (NZ _).1
 ·exact (N0 _).2
 ·exact (NZ _).2
theorem aK {ls:List Lnk} {ts:List Trp} {d:Dem} {l:List Snd} {o arr:List Int}:∀t,(dlS ls ts d l o arr t).1.length=12∧(dlS ls ts d l o arr t).2.1.length=12∧(dlS ls ts d l o arr t).2.2.length=4
 | 0=>by simp[dlS]
 | t+1=>by
  have ih:=aK (ls:=ls) (ts:=ts) (d:=d) (l:=l) (o:=o) (arr:=arr) t
  simp only[dlS]
  have h1:=Ae6 (ls:=ls) (ts:=ts) (l:=l) (o:=o) (τ:=d.2.2.2.1+(t:Int)) (S:=dyA ts d arr (d.2.2.2.1+(t:Int)) (dlS ls ts d l o arr t))
  have h2:=Ae5 (ts:=ts) (d:=d) (arr:=arr) (τ:=d.2.2.2.1+(t:Int)) (S:=dlS ls ts d l o arr t)
  omega
theorem LY {H:List Int} {h:Nat} {v:Int} (hl:h<H.length):List.take h (H.map (PV.int .i64)) ++ [PV.int .i64 (IntKind.i64.wrap (H.getD h 0+v))]++List.drop (h+1) (H.map (PV.int .i64))=(adI H h v).map (PV.int .i64):=LX hl
def tree44:Tree:=.two 9 0 (.one [4,5,6,7,8,9,0,1,2,3,10,11,12]) (.two 9 1 (.one [4,5,6,7,8,0,9,1,2,3,10,11,12]) (.two 9 2 (.one [4,5,6,7,8,0,1,9,2,3,10,11,12]) (.two 9 3 (.one [4,5,6,7,8,0,1,2,9,3,10,11,12]) (.one [4,5,6,7,8,0,1,2,3,9,10,11,12]))))
theorem Ae7 {P:List Nat→Prop} (h0:P [4,5,6,7,8,9,0,1,2,3,10,11,12]) (h1:P [4,5,6,7,8,0,9,1,2,3,10,11,12]) (h2:P [4,5,6,7,8,0,1,9,2,3,10,11,12]) (h3:P [4,5,6,7,8,0,1,2,9,3,10,11,12]) (h4:P [4,5,6,7,8,0,1,2,3,9,10,11,12]):∀r∈tree44.orders,P r:=by
 intro r hr
 simp only[tree44,Tree.orders,List.cons_append,List.nil_append,List.mem_cons,List.not_mem_nil,or_false]at hr
 rcases hr with rfl | rfl | rfl | rfl | rfl <;> assumption
theorem KL {x:Int} (h:0≤x):∃n:Nat,x=(n:Int):=⟨x.toNat,by omega⟩
def Gd (M:Nat) (d:Dem) (H G C:List Int) (st:Store):Prop:=st.obj M=some (.arr 0 12 [.agg (H.map (PV.int .i64))])∧st.obj (M+1)=some (.arr 0 12 [.agg (G.map (PV.int .i64))])∧st.obj (M+2)=some (.arr 0 4 [.agg (C.map (PV.int .i64))])∧st.obj (M+3)=some (.arr 0 5 [.agg [I d.1,I d.2.1,I d.2.2.1,I d.2.2.2.1,I d.2.2.2.2]])∧M+4≤st.next
noncomputable def H4:Int×List Lnk×List Snd×List Trp×Dem×List Snd×List Int×List Int→List PV:=fun (hn,ls,us,ts,d,l,o,arr) => [.agg [I hn,AQ ls,Ay us,CK ts,I d.1,I d.2.1,I d.2.2.1,I d.2.2.2.1,I d.2.2.2.2],.agg [Ay l,ints o],ints arr]
noncomputable def N2:Int×List Lnk×List Snd×List Trp×Dem×List Snd×List Int×List Int→PV:=fun (hn,ls,us,ts,d,l,o,arr)=>.tuple [I (YK hn ls us ts d l o arr),I (Wb hn ls us ts d l o arr)]
noncomputable def e_deliv:Nat×Ent:=(13,.v (Ap H4 N2 AY))
theorem Ae8:∀i j,H4 i=H4 j→i=j:=by
 rintro ⟨_,_,_,_,_,_,_,_⟩ ⟨_,_,_,_,_,_,_,_⟩ h
 simp only[H4,List.cons.injEq,and_true,PV.lits.injEq,PV.int.injEq,PV.agg.injEq,true_and,B1,AF,AD,Ck]at h
 simp [Prod.ext_iff,h] <;> omega
theorem TC (hn:Int) (ls:List Lnk) (us:List Snd) (ts:List Trp) (d:Dem) (l:List Snd) (o:List Int) (arr:List Int):Ap H4 N2 AY [.agg [I hn,AQ ls,Ay us,CK ts,I d.1,I d.2.1,I d.2.2.1,I d.2.2.2.1,I d.2.2.2.2],.agg [Ay l,ints o],ints arr]=some (.tuple [I (YK hn ls us ts d l o arr),I (Wb hn ls us ts d l o arr)]):=AC Ae8 (i:=(hn,ls,us,ts,d,l,o,arr)) trivial
def Ae9:Prop:=∀(hn:Int) (ls:List Lnk) (us:List Snd) (ts:List Trp) (d:Dem) (l:List Snd) (o:List Int) (arr:List Int) ,VC Tryz.prog 13 (H4 (hn,ls,us,ts,d,l,o,arr)) (N2 (hn,ls,us,ts,d,l,o,arr))
theorem Afa:Ae9:=by
 intro hn ls us ts d l o arr
 dsimp only[H4,N2]
 refine OF [44] AP (l := [e_sched,e_take]) ((Ad S7 (Ad Akn Au))) [] [] 0 0 Tryz.func13 rfl (by decide +kernel) (N:=196) rfl (by simp) rfl (by kernel_rfl) fun hs=>?_
 simp only[AK,PV.small,List.length_map,and_true,true_and]at hs
 obtain ⟨RN,hRN⟩:∃R,YK hn ls us ts d l o arr=R:=⟨_,rfl⟩
 obtain ⟨RE,hRE⟩:∃R,Wb hn ls us ts d l o arr=R:=⟨_,rfl⟩
 rw [hRN,hRE]
 unfold YK at hRN
 rw [hRE]at hRN
 unfold Wb at hRE
 have sp:=S6 (hn:=hn) (ls:=ls) (us:=us) (ts:=ts) (d:=d) (l:=l) (o:=o)
 by_cases h1:IZ hn ls us ts d l o=0
 case neg =>
  rw [if_pos h1]at hRE
  rw [if_pos (by rw[←hRE];exact h1)]at hRN
  subst hRE hRN
  simp only[↓bdD,bdP,seval,Ao,e_sched,e_take,Ac,Aa,AB,Tryz.f13,Be,B3,↓AO,↓En,↓Ar,↓AG,h1,sp]
  exact DR.tuple2 (.int rfl) (.int rfl)
 rw [if_neg (fun g=>g h1)]at hRE
 have S:=sch_zero.1 h1
 have V:=S.voy
 have hol:=S.loads
 have hn4:=V.few
 have okr:=S.right
 have okn:=okr.net
 obtain ⟨hf,hdm,hD,hdu⟩:=BK V.fck
 obtain ⟨⟨a0,a1⟩,⟨c0,c1⟩,hr⟩:=BZ hdm
 have hr0:=hr.2.2.1
 have hr1:=hr.2.2.2.1
 have hr2:=hr.2.2.2.2
 have hh:=okn.houses
 have hl2:=S.len
 by_cases h2:arr.length=ts.length
 case neg =>
  rw [if_pos h2]at hRE
  rw [if_pos (by omega)]at hRN
  subst hRE hRN
  have h2i:¬(arr.length:Int)=(ts.length:Int):=by omega
  simp only[↓bdD,bdP,seval,Ao,e_sched,e_take,Ac,Aa,AB,Tryz.f13,BR,Be,AS,B3,↓A5,↓AO,↓En,↓Ar,↓AG,h1,sp,h2i]
  exact DR.tuple2 (.int rfl) (.int rfl)
 have h2i:((arr.length:Int)=(ts.length:Int))=True:=eq_true (by omega)
 have h2t:=eq_true h2
 rw [if_neg (fun g=>g h2)]at hRE
 simp only[↓bdD,bdP,seval,e_sched,e_take,Ac,Aa,AB,Tryz.f13,BR,Be,AS,B3,↓A5,↓AO,↓AH,↓Ar,↓AG,h1,sp,h2i]
 refine Aw [6,7,10,11,44,45,46,47,48,49,50,51,52,53,54,55,56,57,58,59,60,61,62,63,64,65,66,67,68,69,70] ts.length (fun k ρ st'=>ρ 44=I k∧∀i,i<k→¬arB ts arr i) (.refl _) ?_ ?_
 ·simp only[↓bdD,bdP]
  exact fun i hi=>absurd hi (by omega)
 rintro k ρ ⟨ob,M⟩ hk ⟨h44,hI⟩
 have m1:¬M=M+1∧¬M+1=M:=by omega
 by_cases hlt:k<ts.length
 ·have hwk:IntKind.i64.wrap ((k:Int)+1)=((k+1:Nat):Int):=by rw[Ah (by omega) (by omega)];omega
  have hyk:=ES hlt
  have hak:nth (arr.map (PV.int .i64)) k=I (arr.getD k 0):=B9 0 (by omega)
  have hka:k<arr.length:=by omega
  have hki:(k:Int)<(arr.length:Int):=by omega
  have bad:arB ts arr k→RE=1∧RN=0:=fun g=>by
   rw [if_pos (fun f=>f k hlt g)]at hRE
   rw [if_pos (by omega)]at hRN
   exact ⟨hRE.symm,hRN.symm⟩
  have hI2:¬arB ts arr k→∀i,i<k+1→¬arB ts arr i:=fun g i hi=>by
   by_cases e:i=k
   ·subst e;exact g
   ·exact hI i (by omega)
  unfold arB at bad hI2
  generalize ha:arr.getD k 0=a at *
  generalize hy:ts.getD k dT=y at *
  by_cases b0:a = -1
  ·have hI3:=hI2 (fun g=>g.1 b0)
   clear hI2 bad
   have b0t:=eq_true b0
   simp only[↓bdD,bdP,seval,Store.new,Store.set,ty3,BR,AS,C6,↓A5,↓AO,↓AH,↓Ar,↓AG,h44,hlt,hyk,hak,hki,hwk,b0t,Av]
   exact hI3
  by_cases b1:a≤y.2.2.1
  ·obtain ⟨e1,e2⟩:=bad ⟨b0,.inl b1⟩
   subst e1 e2
   simp only[↓bdD,bdP,seval,Ao,Store.new,Store.set,ty3,BR,AS,C6,↓A5,↓AO,↓AH,↓En,↓Ar,↓AG,h44,hlt,hyk,hak,hki,b0,b1,Av]
   exact DR.tuple2 (.int rfl) (.int rfl)
  by_cases b2:1000000<a
  ·obtain ⟨e1,e2⟩:=bad ⟨b0,.inr b2⟩
   subst e1 e2
   simp only[↓bdD,bdP,seval,Ao,Store.new,Store.set,ty3,BR,AS,C6,↓A5,↓AO,↓AH,↓En,↓Ar,↓AG,h44,hlt,hyk,hak,hki,b0,b1,b2,Av]
   exact DR.tuple2 (.int rfl) (.int rfl)
  have hI3:=hI2 (fun g=>by omega)
  clear hI2 bad
  simp only[↓bdD,bdP,seval,Store.new,Store.set,ty3,BR,AS,C6,↓A5,↓AO,↓AH,↓Ar,↓AG,h44,hlt,hyk,hak,hki,hwk,b0,b1,b2,Av]
  exact hI3
 have e:k=ts.length:=by omega
 subst e
 rw [if_neg (fun g=>g hI)]at hRE
 subst hRE
 rw [if_neg (by decide)]at hRN
 clear hI hk m1
 obtain ⟨f0,hf0⟩:=KL a0
 obtain ⟨t0,ht0⟩:=KL c0
 have q1:¬M=M+1∧¬M=M+2∧¬M=M+3∧¬M+1=M∧¬M+1=M+2∧¬M+1=M+3∧¬M+2=M∧¬M+2=M+1∧¬M+2=M+3∧¬M+3=M∧¬M+3=M+1∧¬M+3=M+2:=by omega
 simp only[↓bdD,bdP,seval,Store.new,Store.set,ty3,AX,Be,X2,Ahm,↓AO,↓AH,↓Cd,↓Ar,↓AG,h44,hlt]
 refine Aw [16,17,18,19,20,21,22,24,25,75,76,77,78,79,80,81,82,83,84,85,86,87,88,89,90,91,92,93,94,95,96,97,98,99,100,101,102,103,104,105,106,107,108,109,110,111,112,113,114,115,116,117,118,119,120,121,122,123,124,125,126,127,128,129,130,131,132,133,134,135,136,137,138,139,140,141,142,143,144,145,146,147,148,149,150,151,152,153,154,155,156,157,158,159,160,161,162,163,164,165,166,167,168,169,170,171,172,173,174,175,176,177,178,179,180,181,182,183,184,185,186,187,188,189,190,191] (As d) (fun t ρ st'=>ρ 16=I (d.2.2.2.1+(t:Int))∧Gd M d (dlS ls ts d l o arr t).1 (dlS ls ts d l o arr t).2.1 (dlS ls ts d l o arr t).2.2 st') (.refl _) ?_ ?_
 ·simp only[↓bdD,bdP,Nat.reduceBeqDiff,Gd,dlS,q1]
  exact (Int.add_zero _).symm
 clear h44
 rintro t ρ1 ⟨ob1,M1⟩ ht ⟨h16,hI⟩
 have e1:dlS ls ts d l o arr (t+1)=dyB ls ts l o (d.2.2.2.1+(t:Int)) (dyA ts d arr (d.2.2.2.1+(t:Int)) (dlS ls ts d l o arr t)):=rfl
 obtain ⟨lH,lG,lC⟩:=aK (ls:=ls) (ts:=ts) (d:=d) (l:=l) (o:=o) (arr:=arr) t
 have hRN2:t=As d→(dyA ts d arr (d.2.2.2.1+(t:Int)) (dlS ls ts d l o arr t)).1.getD t0 0=RN:=fun e=>by rw[e,←hRN,ht0];rfl
 clear hRN
 generalize dlS ls ts d l o arr (t+1)=S2 at *
 generalize dlS ls ts d l o arr t=S at *
 obtain ⟨H,G,C⟩:=S
 unfold dyA dyB at e1
 unfold dyA at hRN2
 dsimp only at lH lG lC hI e1 hRN2
 have hle:d.2.2.2.1+(t:Int)≤d.2.2.2.2:=by omega
 have w16:IntKind.i64.wrap (d.2.2.2.1+(t:Int)+1)=d.2.2.2.1+((t+1:Nat):Int):=by rw[Ah (by omega) (by omega)];omega
 unfold Gd at hI
 dsimp only at hI
 obtain ⟨p0,p1,p2,p3,hM⟩:=hI
 simp only[↓bdD,bdP,seval,ty3,AX,↓A5,↓AO,↓AH,↓Ar,↓AG,h16,p3,hle]
 refine Aw [17,81,82,83,84,85,86,87,88,89,90,91,92,93,94,95] 12 (fun k ρ st'=>ρ 81=I k∧Gd M d (mvT H G k).1 (mvT H G k).2 C st') (.refl _) ?_ ?_
 ·simp only[↓bdD,bdP,Gd,mvT,p0,p1,p2,p3,hM]
 clear p0 p1 p2 p3 hM
 rintro k ρ2 ⟨ob2,M2⟩ hk ⟨h81,hI⟩
 unfold Gd at hI
 dsimp only at hI
 obtain ⟨p0,p1,p2,p3,hM⟩:=hI
 obtain ⟨lA,lB⟩:=NY (H:=H) (G:=G) k
 rw [lH]at lA
 rw [lG]at lB
 by_cases hlt:k<12
 ·have hwk:IntKind.i64.wrap ((k:Int)+1)=((k+1:Nat):Int):=by rw[Ah (by omega) (by omega)];omega
  have eM1:(mvT H G (k+1)).1=adI (mvT H G k).1 k ((mvT H G k).2.getD k 0):=rfl
  have eM2:(mvT H G (k+1)).2=(mvT H G k).2.set k 0:=rfl
  rw [eM1,eM2]
  generalize (mvT H G k).1=A at *
  generalize (mvT H G k).2=B at *
  have gA:=Eb (H:=A) (h:=k) (by omega)
  have gB:=Eb (H:=B) (h:=k) (by omega)
  have sA:=LY (H:=A) (h:=k) (v:=B.getD k 0) (by omega)
  have sB:=LX (H:=B) (h:=k) (v:=0) (by omega)
  have mA:(A.map (PV.int .i64)).length=12:=by rw[List.length_map,lA]
  have mB:(B.map (PV.int .i64)).length=12:=by rw[List.length_map,lB]
  have hki:(k:Int)<12:=by omega
  have hk11:k≤11:=by omega
  simp only[↓bdD,bdP,seval,Store.set,Nat.mul_one,ty3,X2,↓A5,↓AO,↓AH,↓Ar,↓AG,Gd,h81,hlt,hki,hk11,hwk,p0,p1,p2,p3,hM,q1,gA,gB]
  exact ⟨sA,sB⟩
 have e:k=12:=by omega
 subst e
 clear hk
 generalize (mvT H G 12).1=A at *
 generalize (mvT H G 12).2=B at *
 obtain ⟨H1,hH1⟩:∃H1,inA d (d.2.2.2.1+(t:Int)) A=H1:=⟨_,rfl⟩
 rw [hH1]at e1 hRN2
 have lH1:H1.length=12:=by rw[←hH1,aJ];exact lA
 unfold inA at hH1
 rcases Nat.eq_zero_or_pos t with tz | tz
 case' inl =>
  have ter:(d.2.2.2.1+(t:Int)=d.2.2.2.1)=True:=eq_true (by omega)
  rw [if_pos (by omega),hf0]at hH1
  have gA:=Eb (H:=A) (h:=f0) (by omega)
  have sA:=LY (H:=A) (h:=f0) (v:=d.2.2.1) (by omega)
  rw [show ((f0:Nat):Int).toNat=f0 from Int.toNat_natCast _]at hH1
  rw [hH1]at sA
  have mA:(A.map (PV.int .i64)).length=12:=by rw[List.length_map,lA]
  have hfi:(f0:Int)<12:=by omega
  have hf11:f0≤11:=by omega
  simp only[↓bdD,bdP,seval,Store.set,Nat.mul_one,ty3,BR,AX,Be,X2,↓AO,↓AH,↓Cd,↓Ar,↓AG,h81,h16,ter,hf0,p0,p3,gA,hfi,hf11,sA]
 case' inr =>
  have ter:(d.2.2.2.1+(t:Int)=d.2.2.2.1)=False:=eq_false (by omega)
  rw [if_neg (by omega)]at hH1
  rw [hH1]at p0
  simp only[↓bdD,bdP,seval,ty3,BR,AX,Be,↓A5,↓AO,↓AH,↓Cd,↓Ar,↓AG,h81,h16,ter,p3]
 all_goals
  refine Aw [18,19,111,112,113,114,115,116,117,118,119,120,121,122,123,124,125,126,127,128,129,130,131] ts.length (fun k ρ st'=>ρ 111=I k∧Gd M d (inT ts arr C (d.2.2.2.1+(t:Int)) H1 k) B C st') (.refl _) ?_ ?_
  ·simp only[↓bdD,bdP,Gd,inT,p0,p1,p2,p3,hM,q1,hf0]
  clear p0 p1 p2 p3 hM h81 lA hH1
  rintro k ρ3 ⟨ob3,M3⟩ hk ⟨h111,hI⟩
  unfold Gd at hI
  dsimp only at hI
  obtain ⟨p0,p1,p2,p3,hM⟩:=hI
  have lI:=TB (ts:=ts) (arr:=arr) (C:=C) (H:=H1) (τ:=d.2.2.2.1+(t:Int)) k
  rw [lH1]at lI
  have m3:¬M3=M∧¬M=M3∧¬M3=M+1∧¬M+1=M3∧¬M3=M+2∧¬M+2=M3∧¬M3=M+3∧¬M+3=M3:=by omega
  by_cases hlt:k<ts.length
  ·have hwk:IntKind.i64.wrap ((k:Int)+1)=((k+1:Nat):Int):=by rw[Ah (by omega) (by omega)];omega
   have hyk:=ES hlt
   have hak:nth (arr.map (PV.int .i64)) k=I (arr.getD k 0):=B9 0 (by omega)
   have hka:k<arr.length:=by omega
   have hki:(k:Int)<(arr.length:Int):=by omega
   have ye:=V.ends k hlt
   have eI:inT ts arr C (d.2.2.2.1+(t:Int)) H1 (k+1)=if arr.getD k 0=d.2.2.2.1+(t:Int)then adI (inT ts arr C (d.2.2.2.1+(t:Int)) H1 k) (ts.getD k dT).2.1.toNat (C.getD k 0)else inT ts arr C (d.2.2.2.1+(t:Int)) H1 k:=rfl
   rw [eI]
   generalize inT ts arr C (d.2.2.2.1+(t:Int)) H1 k=A3 at *
   generalize arr.getD k 0=a at *
   generalize ts.getD k dT=y at *
   by_cases c:a=d.2.2.2.1+(t:Int)
   ·rw [if_pos c]
    have c2:=eq_true c
    obtain ⟨u,hu⟩:=KL ye.2.1.1
    rw [hu,show ((u:Nat):Int).toNat=u from Int.toNat_natCast _]
    have gA:=Eb (H:=A3) (h:=u) (by omega)
    have gC:=Eb (H:=C) (h:=k) (by omega)
    have sA:=LY (H:=A3) (h:=u) (v:=C.getD k 0) (by omega)
    have mA:(A3.map (PV.int .i64)).length=12:=by rw[List.length_map,lI]
    have mC:(C.map (PV.int .i64)).length=4:=by rw[List.length_map,lC]
    have hui:(u:Int)<12:=by omega
    have hu11:u≤11:=by omega
    have hk4:(k:Int)<4:=by omega
    have hk3:k≤3:=by omega
    simp only[↓bdD,bdP,seval,Store.new,Store.set,Nat.mul_one,ty3,BR,AS,C6,X2,Ahm,↓A5,↓AO,↓AH,↓Ar,↓AG,Gd,h111,h16,hlt,hyk,hak,hki,hwk,c2,hu,p0,p1,p2,p3,q1,m3,gA,gC,hui,hu11,hk4,sA,Av]
    omega
   ·rw [if_neg c]
    simp only[↓bdD,bdP,seval,Store.new,Store.set,ty3,BR,AS,C6,↓A5,↓AO,↓AH,↓Ar,↓AG,Gd,h111,h16,hlt,hyk,hak,hki,hwk,c,p0,p1,p2,p3,m3,Av]
    omega
  have e:k=ts.length:=by omega
  subst e
  clear hk m3
  generalize hA4:inT ts arr C (d.2.2.2.1+(t:Int)) H1 ts.length=A4 at *
  by_cases hD2:t=As d
  ·have c:=hRN2 hD2
   subst c
   have due:(d.2.2.2.1+(t:Int)=d.2.2.2.2)=True:=eq_true (by omega)
   have gA:=Eb (H:=A4) (h:=t0) (by omega)
   have mA:(A4.map (PV.int .i64)).length=12:=by rw[List.length_map,lI]
   have hti:(t0:Int)<12:=by omega
   have ht11:t0≤11:=by omega
   simp only[↓bdD,bdP,seval,Ao,Nat.mul_one,ty3,AX,X2,↓AO,↓Cd,↓En,↓Ar,↓AG,h111,h16,hlt,due,ht0,p0,p3,gA,hti]
   exact DR.tuple2 (.int rfl) (.int rfl)
  have due:(d.2.2.2.1+(t:Int)=d.2.2.2.2)=False:=eq_false (by omega)
  clear hRN2
  simp only[↓bdD,bdP,seval,ty3,BR,AX,Be,↓A5,↓AO,↓AH,↓Cd,↓Ar,↓AG,h111,h16,hlt,due,p3]
  refine Aw [21,22,140,141,142,143,144,145,146,147,148,149,150,151,152,153,154,155,156,157,158,159,160] ts.length (fun k ρ st'=>ρ 140=I k∧Gd M d (ouT ts o (d.2.2.2.1+(t:Int)) A4 C k).1 B (ouT ts o (d.2.2.2.1+(t:Int)) A4 C k).2 st') (.refl _) ?_ ?_
  ·simp only[↓bdD,bdP,Gd,ouT,p0,p1,p2,p3,hM]
   done
  clear p0 p1 p2 p3 hM h111 due
  rintro k ρ4 ⟨ob4,M4⟩ hk ⟨h140,hI⟩
  unfold Gd at hI
  dsimp only at hI
  obtain ⟨p0,p1,p2,p3,hM⟩:=hI
  obtain ⟨lU,lV⟩:=NZ (ts:=ts) (o:=o) (C:=C) (H:=A4) (τ:=d.2.2.2.1+(t:Int)) k
  rw [lI]at lU
  rw [lC]at lV
  have m4:¬M4=M∧¬M=M4∧¬M4=M+1∧¬M+1=M4∧¬M4=M+2∧¬M+2=M4∧¬M4=M+3∧¬M+3=M4:=by omega
  by_cases hlt:k<ts.length
  ·have hwk:IntKind.i64.wrap ((k:Int)+1)=((k+1:Nat):Int):=by rw[Ah (by omega) (by omega)];omega
   have hyk:=ES hlt
   have hok:nth (o.map (PV.int .i64)) k=I (o.getD k 0):=B9 0 (by omega)
   have hka:k<o.length:=by omega
   have hki:(k:Int)<(o.length:Int):=by omega
   have ye:=V.ends k hlt
   have eI1:(ouT ts o (d.2.2.2.1+(t:Int)) A4 C (k+1))=if (ts.getD k dT).2.2.1=d.2.2.2.1+(t:Int)then (tkH (ouT ts o (d.2.2.2.1+(t:Int)) A4 C k).1 (ts.getD k dT).1.toNat (o.getD k 0),(ouT ts o (d.2.2.2.1+(t:Int)) A4 C k).2.set k (tkN (ouT ts o (d.2.2.2.1+(t:Int)) A4 C k).1 (ts.getD k dT).1.toNat (o.getD k 0)))else ouT ts o (d.2.2.2.1+(t:Int)) A4 C k:=rfl
   rw [eI1]
   generalize ouT ts o (d.2.2.2.1+(t:Int)) A4 C k=U at *
   obtain ⟨U,X⟩:=U
   dsimp only at lU lV p0 p1 p2
   generalize o.getD k 0=z at *
   generalize ts.getD k dT=y at *
   by_cases c:y.2.2.1=d.2.2.2.1+(t:Int)
   ·rw [if_pos c]
    have c2:=eq_true c
    obtain ⟨u,hu⟩:=KL ye.1.1
    rw [hu,show ((u:Nat):Int).toNat=u from Int.toNat_natCast _]
    have sT:∀st:Store,st.obj M=some (.arr 0 12 [.agg (U.map (PV.int .i64))])→A8 I3 I4 I5 [I (u:Nat),I z,.ptr M 0 0 0] st=some (I (tkN U u z),⟨Ab st.obj M (some (.arr 0 12 [.agg ((tkH U u z).map (PV.int .i64))])),st.next⟩):=fun st h=>wX U ⟨h,lU,by dsimp only;omega⟩
    have gX:=Eb (H:=X) (h:=k) (by omega)
    have sX:=LX (H:=X) (h:=k) (v:=tkN U u z) (by omega)
    have mX:(X.map (PV.int .i64)).length=4:=by rw[List.length_map,lV]
    have hk4:(k:Int)<4:=by omega
    have hk3:k≤3:=by omega
    generalize tkN U u z=N1 at *
    generalize tkH U u z=U1 at *
    simp only[↓bdD,bdP,seval,Store.new,Store.set,Nat.mul_one,ty3,BR,AS,B3,C6,Ahm,↓A5,↓AO,↓AH,↓Ar,↓AG,Gd,h140,h16,hlt,hyk,hok,hki,hwk,c2,hu,p0,p1,p2,p3,q1,m4,sT,hk4,hk3,sX,Av]
    omega
   ·rw [if_neg c]
    simp only[↓bdD,bdP,seval,Store.new,Store.set,ty3,BR,C6,↓A5,↓AO,↓AH,↓Ar,↓AG,Gd,h140,h16,hlt,hyk,hwk,c,p0,p1,p2,p3,m4,Av]
    omega
  have e:k=ts.length:=by omega
  subst e
  clear hk m4
  generalize ouT ts o (d.2.2.2.1+(t:Int)) A4 C ts.length=U at *
  obtain ⟨U,X⟩:=U
  dsimp only at lU lV p0 p1 p2 e1
  simp only[↓bdD,bdP,seval,AN,B3,↓AO,↓AH,↓Cd,↓Ar,↓AG,h140,hlt]
  refine Aw [24,25,164,165,166,167,168,169,170,171,172,173,174,175,176,177,178,179,180,181,182,183,184,185,186,187,188,189,190,191] l.length (fun k ρ st'=>ρ 164=I k∧Gd M d (seT ls l (d.2.2.2.1+(t:Int)) U B k).1 (seT ls l (d.2.2.2.1+(t:Int)) U B k).2 X st') (.refl _) ?_ ?_
  ·simp only[↓bdD,bdP,Gd,seT,p0,p1,p2,p3,hM]
   done
  clear p0 p1 p2 p3 hM h140 lI
  rintro k ρ5 ⟨ob5,M5⟩ hk ⟨h164,hI⟩
  unfold Gd at hI
  dsimp only at hI
  obtain ⟨p0,p1,p2,p3,hM⟩:=hI
  obtain ⟨lP,lQ⟩:=N0 (ls:=ls) (l:=l) (H:=U) (G:=B) (τ:=d.2.2.2.1+(t:Int)) k
  rw [lU]at lP
  rw [lB]at lQ
  have m5:¬M5=M∧¬M=M5∧¬M5=M+1∧¬M+1=M5∧¬M5=M+2∧¬M+2=M5∧¬M5=M+3∧¬M+3=M5:=by omega
  have n5:¬M5+1=M∧¬M=M5+1∧¬M5+1=M+1∧¬M+1=M5+1∧¬M5+1=M+2∧¬M+2=M5+1∧¬M5+1=M+3∧¬M+3=M5+1∧¬M5=M5+1∧¬M5+1=M5:=by omega
  by_cases hlt:k<l.length
  ·have hwk:IntKind.i64.wrap ((k:Int)+1)=((k+1:Nat):Int):=by rw[Ah (by omega) (by omega)];omega
   have hyk:=A6 hlt
   have hxl:=okr.link k hlt
   have eI1:(seT ls l (d.2.2.2.1+(t:Int)) U B (k+1))=if (l.getD k dS).2.1=d.2.2.2.1+(t:Int)then (tkH (seT ls l (d.2.2.2.1+(t:Int)) U B k).1 (Bd ls (l.getD k dS)).1.toNat (l.getD k dS).2.2,adI (seT ls l (d.2.2.2.1+(t:Int)) U B k).2 (Bd ls (l.getD k dS)).2.1.toNat (tkN (seT ls l (d.2.2.2.1+(t:Int)) U B k).1 (Bd ls (l.getD k dS)).1.toNat (l.getD k dS).2.2))else seT ls l (d.2.2.2.1+(t:Int)) U B k:=rfl
   rw [eI1]
   generalize seT ls l (d.2.2.2.1+(t:Int)) U B k=P at *
   obtain ⟨P,Y⟩:=P
   dsimp only at lP lQ p0 p1 p2
   unfold Bd
   generalize l.getD k dS=x at *
   by_cases c:x.2.1=d.2.2.2.1+(t:Int)
   ·rw [if_pos c]
    have c2:=eq_true c
    obtain ⟨j,hj⟩:=KL hxl.1
    rw [hj,show ((j:Nat):Int).toNat=j from Int.toNat_natCast _]
    have hjl:j<ls.length:=by omega
    have hji:(j:Int)<(ls.length:Int):=by omega
    have hnl:=Cb hjl
    have en:=okn.ends j hjl
    generalize ls.getD j dL=y at *
    obtain ⟨u,hu⟩:=KL en.1
    obtain ⟨v,hv⟩:=KL en.2.2.1
    rw [hu,hv,show ((u:Nat):Int).toNat=u from Int.toNat_natCast _,show ((v:Nat):Int).toNat=v from Int.toNat_natCast _]
    have sT:∀st:Store,st.obj M=some (.arr 0 12 [.agg (P.map (PV.int .i64))])→A8 I3 I4 I5 [I (u:Nat),I x.2.2,.ptr M 0 0 0] st=some (I (tkN P u x.2.2),⟨Ab st.obj M (some (.arr 0 12 [.agg ((tkH P u x.2.2).map (PV.int .i64))])),st.next⟩):=fun st h=>wX P ⟨h,lP,by dsimp only;omega⟩
    generalize tkN P u x.2.2=N1 at *
    generalize tkH P u x.2.2=U1 at *
    have gY:=Eb (H:=Y) (h:=v) (by omega)
    have sY:=LY (H:=Y) (h:=v) (v:=N1) (by omega)
    have mY:(Y.map (PV.int .i64)).length=12:=by rw[List.length_map,lQ]
    have hv12:(v:Int)<12:=by omega
    have hv11:v≤11:=by omega
    simp only[↓bdD,bdP,seval,Store.new,Store.set,BJ,CT,ty3,BP,AI,AN,Be,Cn,CI,↓A5,↓AO,↓AH,↓Ar,↓AG,Gd,h164,h16,hlt,hyk,c2,hj,hji,hnl,Av]
    refine YZ tree44 (by rfl) (by kernel_rfl) (Ae7 ?_ ?_ ?_ ?_ ?_)
    all_goals
     simp only[atO,List.filterMap_cons,List.filterMap_nil,List.getElem?_toArray,List.getElem?_cons_succ,List.getElem?_cons_zero]
     simp only[↓bdD,bdP,seval,Store.set,If,OQ,Nat.mul_one,ty3,Cn,X2,CI,↓Ar,h164,hwk,hu,hv,p0,p1,p2,p3,q1,m5,n5,sT,gY,hv12,hv11,sY]
     omega
   ·rw [if_neg c]
    simp only[↓bdD,bdP,seval,Store.new,Store.set,ty3,AN,Cn,↓A5,↓AO,↓AH,↓Ar,↓AG,Gd,h164,h16,hlt,hyk,hwk,c,p0,p1,p2,p3,m5,Av]
    omega
  have e:k=l.length:=by omega
  subst e
  subst e1
  simp only[↓bdD,bdP,seval,↓AO,↓Cd,↓Ar,↓AG,Gd,h164,h16,hlt,w16,p0,p1,p2,p3,hM]
  refine ⟨by omega,?_⟩
  rw [AL (by decide +kernel)]
  simp only[↓bdD,bdP,Nat.reduceBEq]
  rw [AL (by decide +kernel)]
  simp only[↓bdD,bdP,Nat.reduceBEq]
  rw [AL (by decide +kernel)]
  simp only[↓bdD,bdP,Nat.reduceBEq]
  rw [AL (by decide +kernel)]
  simp only[↓bdD,bdP,Nat.reduceBEq]
theorem Afb:AM Tryz.prog e_deliv.1 e_deliv.2:=Ax fun⟨hn,ls,us,ts,d,l,o,arr⟩ h=>Afa hn ls us ts d l o arr
end Sim
namespace Sim
open Go Go.Proofs
section
variable {hn:Int} {ls:List Lnk} {us:List Snd} {ts:List Trp} {d:Dem}
theorem Wc (V:VoyOK hn ls us ts d) (h:D9 (wHn hn ts) (wLs hn ls ts d 0) (wUs ls us ts d 0) d=0) (s:Nat):D9 (wHn hn ts) (wLs hn ls ts d s) (wUs ls us ts d s) d=0:=pck_zero.2 ⟨V5 V,(pck_zero.1 h).2⟩
theorem wY (V:VoyOK hn ls us ts d) (h:D9 (wHn hn ts) (wLs hn ls ts d 0) (wUs ls us ts d 0) d=0) (s:Nat):PR hn ls us ts d s=CX hn ls us ts d s:=by
 unfold PR KG
 rw [if_neg (fun g=>g (Wc V h s))];rfl
theorem Afc (V:VoyOK hn ls us ts d) (h:D9 (wHn hn ts) (wLs hn ls ts d 0) (wUs ls us ts d 0) d=0) (hN:∀s,s<2 ^ ts.length→CX hn ls us ts d s=0) (hD:AU (wHn hn ts) d≤268) {l:List Snd} {o:List Int} (hs:F3 hn ls us ts d l o=0) (hc:∀s,s<2 ^ ts.length→Et hn ls us ts d l o≤wCo hn ls us ts d s):Tr hn ls us ts d l o (JO hn ls us ts d):=by
 have hl:(JO hn ls us ts d).length=2 ^ ts.length:=by unfold JO;rw[List.length_map,List.length_range]
 refine ⟨hs,hl,fun s hsl=>?_⟩
 rw [hl]at hsl
 have e1:(JO hn ls us ts d).getD s dP=(Dk (wHn hn ts) (wLs hn ls ts d s) (wUs ls us ts d s) d,[]):=by
  unfold JO
  rw [List.getD_eq_getElem?_getD,List.getElem?_map,List.getElem?_range hsl];rfl
 have w0:=hN s hsl
 rw [e1]
 obtain ⟨p1,p2,_⟩:=Ad9 (Wc V h s) w0 hD
 have := hc s hsl
 rw [KK w0]at this
 unfold okP
 rw [if_neg (by simp)]
 refine ⟨p1,?_⟩
 dsimp only
 rw [p2]
 exact this
end
def vxL:List Lnk := [(0,1,fun _=>100,fun _=>2),(1,2,fun _=>100,fun _=>2),(0,2,fun _=>10,fun _=>1)]
abbrev vxT (a:Int):List Trp := [(0,2,5,7,a,100,50)]
abbrev vxD:Dem:=(0,2,120,5,8)
abbrev vxO:List Snd := [(2,5,10),(2,6,10)]
abbrev vxB:List Snd := [(0,5,90),(2,5,10),(1,6,90),(2,6,10),(2,7,10)]
abbrev vxC:List Snd := [(2,5,10),(3,5,100),(2,6,10),(4,7,100)]
theorem Rn:Ee 3 vxL [] (vxT 8) vxD=0:=by kernel_rfl
theorem Ako:Ee 3 vxL [] [] vxD=0:=by kernel_rfl
theorem wZ:D9 (wHn 3 (vxT 8)) (wLs 3 vxL (vxT 8) vxD 0) (wUs vxL [] (vxT 8) vxD 0) vxD=0:=by kernel_rfl
theorem Akp:decide (jE (wHn 3 (vxT 8)) (wLs 3 vxL (vxT 8) vxD 0) (wUs vxL [] (vxT 8) vxD 0) vxD vxB [[0,2,4,0],[0,2,4,0],[0,2,4,0],[0,2,4,0]])=true:=by kernel_rfl
theorem Akq:decide (jE (wHn 3 (vxT 8)) (wLs 3 vxL (vxT 8) vxD 1) (wUs vxL [] (vxT 8) vxD 1) vxD vxC [[0,0,1,0],[0,0,1,0],[0,0,1,0],[0,0,1,0]])=true:=by kernel_rfl
theorem Akr:decide (jE (wHn 3 []) (wLs 3 vxL [] vxD 0) (wUs vxL [] [] vxD 0) vxD vxB [[0,2,4],[0,2,4],[0,2,4],[0,2,4]])=true:=by kernel_rfl
theorem x_co0:CX 3 vxL [] (vxT 8) vxD 0=0∧wCo 3 vxL [] (vxT 8) vxD 0=390:=by
 obtain ⟨_,h1,h2⟩:=MS (l2 := []) (of_decide_eq_true Akp)
 have h1:CX 3 vxL [] (vxT 8) vxD 0=0:=h1
 refine ⟨h1,?_⟩
 rw [KK h1]
 unfold KH
 rw [h2]
 kernel_rfl
theorem x_co1:CX 3 vxL [] (vxT 8) vxD 1=0∧wCo 3 vxL [] (vxT 8) vxD 1=70:=by
 obtain ⟨_,h1,h2⟩:=MS (l2 := []) (of_decide_eq_true Akq)
 have h1:CX 3 vxL [] (vxT 8) vxD 1=0:=h1
 refine ⟨h1,?_⟩
 rw [KK h1]
 unfold KH
 rw [h2]
 kernel_rfl
theorem x_coN:CX 3 vxL [] [] vxD 0=0∧wCo 3 vxL [] [] vxD 0=390:=by
 obtain ⟨_,h1,h2⟩:=MS (l2 := []) (of_decide_eq_true Akr)
 have h1:CX 3 vxL [] [] vxD 0=0:=h1
 refine ⟨h1,?_⟩
 rw [KK h1]
 unfold KH
 rw [h2]
 kernel_rfl
theorem Amw:lsT 3 vxL [] (vxT 8) vxD (2 ^ (vxT 8).length)=70:=by
 have e:lsT 3 vxL [] (vxT 8) vxD 1=390:=by
  show (if CX 3 vxL [] (vxT 8) vxD 0=0∧((-1:Int)<0∨wCo 3 vxL [] (vxT 8) vxD 0 < -1)then wCo 3 vxL [] (vxT 8) vxD 0 else -1)=390
  rw [if_pos ⟨x_co0.1,.inl (by decide)⟩,x_co0.2]
 show (if CX 3 vxL [] (vxT 8) vxD 1=0∧(lsT 3 vxL [] (vxT 8) vxD 1<0∨wCo 3 vxL [] (vxT 8) vxD 1<lsT 3 vxL [] (vxT 8) vxD 1)then wCo 3 vxL [] (vxT 8) vxD 1 else lsT 3 vxL [] (vxT 8) vxD 1)=70
 rw [if_pos ⟨x_co1.1,.inr (by rw[e,x_co1.2];decide)⟩,x_co1.2]
theorem Af9:lsT 3 vxL [] [] vxD (2 ^ ([]:List Trp).length)=390:=by
 show (if CX 3 vxL [] [] vxD 0=0∧((-1:Int)<0∨wCo 3 vxL [] [] vxD 0 < -1)then wCo 3 vxL [] [] vxD 0 else -1)=390
 rw [if_pos ⟨x_coN.1,.inl (by decide)⟩,x_coN.2]
theorem x_pln:To 3 vxL [] (vxT 8) vxD=0∧F3 3 vxL [] (vxT 8) vxD (HW 3 vxL [] (vxT 8) vxD) (HX 3 vxL [] (vxT 8) vxD)=0∧Et 3 vxL [] (vxT 8) vxD (HW 3 vxL [] (vxT 8) vxD) (HX 3 vxL [] (vxT 8) vxD)=70:=by
 rcases V8 (vck_iff.1 Rn)with ⟨_,h,_⟩ | ⟨h1,_,h2,h3⟩
 ·rw [Amw]at h;exact absurd h (by decide)
 ·exact ⟨h1,h2,by rw[h3,Amw]⟩
theorem x_plnN:To 3 vxL [] [] vxD=0∧F3 3 vxL [] [] vxD (HW 3 vxL [] [] vxD) (HX 3 vxL [] [] vxD)=0∧Et 3 vxL [] [] vxD (HW 3 vxL [] [] vxD) (HX 3 vxL [] [] vxD)=390:=by
 rcases V8 (vck_iff.1 Ako)with ⟨_,h,_⟩ | ⟨h1,_,h2,h3⟩
 ·rw [Af9]at h;exact absurd h (by decide)
 ·exact ⟨h1,h2,by rw[h3,Af9]⟩
theorem x_own:F3 3 vxL [] (vxT 8) vxD vxO [100]=0∧Et 3 vxL [] (vxT 8) vxD vxO [100]=70:=⟨by kernel_rfl,by kernel_rfl⟩
theorem Aks:F3 3 vxL [] (vxT 9) vxD vxO [100]=13:=by kernel_rfl
theorem x_del7:YK 3 vxL [] (vxT 8) vxD vxO [100] [7]=120∧Wb 3 vxL [] (vxT 8) vxD vxO [100] [7]=0:=⟨by kernel_rfl,by kernel_rfl⟩
theorem x_del9:YK 3 vxL [] (vxT 8) vxD vxO [100] [9]=20∧Wb 3 vxL [] (vxT 8) vxD vxO [100] [9]=0:=⟨by kernel_rfl,by kernel_rfl⟩
theorem x_delM:YK 3 vxL [] (vxT 8) vxD vxO [100] [-1]=20∧Wb 3 vxL [] (vxT 8) vxD vxO [100] [-1]=0:=⟨by kernel_rfl,by kernel_rfl⟩
theorem xA {P:Nat→Prop} (h0:P 0) (h1:P 1):∀s,s<2 ^ (vxT 8).length→P s:=fun s hs=>by
 have : s<2:=hs
 rcases Nat.eq_zero_or_pos s with e | e
 ·rw [e];exact h0
 ·rw [show s=1 by omega];exact h1
theorem Aga {l:List Snd} {o:List Int} (hs:F3 3 vxL [] (vxT 8) vxD l o=0) (hc:Et 3 vxL [] (vxT 8) vxD l o=70):Tr 3 vxL [] (vxT 8) vxD l o (JO 3 vxL [] (vxT 8) vxD) :=
 Afc (vck_iff.1 Rn) wZ (xA x_co0.1 x_co1.1) (by decide) hs (xA (by rw[hc,x_co0.2];decide) (by rw[hc,x_co1.2];decide))
theorem x_plnB:(JN 3 vxL [] (vxT 8) vxD).2.1=HW 3 vxL [] (vxT 8) vxD∧(JN 3 vxL [] (vxT 8) vxD).2.2=HX 3 vxL [] (vxT 8) vxD∧¬(JN 3 vxL [] (vxT 8) vxD).1<0:=by
 have hv2:¬Ee 3 vxL [] (vxT 8) vxD≠0:=fun g=>g Rn
 refine ⟨?_,?_,fun c=>?_⟩
 ·unfold HW;rw[if_neg hv2]
 ·unfold HX;rw[if_neg hv2]
 ·have := x_pln.1
  unfold To at this
  rw [if_neg hv2,if_pos c]at this
  exact absurd this (by decide)
theorem Amx:∀s,s<2 ^ (vxT 8).length→PR 3 vxL [] (vxT 8) vxD s=0:=xA (by rw[wY (vck_iff.1 Rn) wZ];exact x_co0.1) (by rw[wY (vck_iff.1 Rn) wZ];exact x_co1.1)
theorem Agb:(JO 3 vxL [] (vxT 8) vxD).length=2:=by
 unfold JO
 rw [List.length_map,List.length_range];rfl
theorem Akt:¬Tr 3 vxL [] (vxT 8) vxD vxO [100] ((JO 3 vxL [] (vxT 8) vxD).take 1):=fun h=>by
 have := h.2.1
 rw [List.length_take,Agb]at this
 exact absurd this (by decide)
end Sim
namespace Sim
open Go Go.Proofs
attribute [local congr] Ai Aj Af At Am Al Aq
theorem Amy:evR Tryz.prog 400 [] [] 0 34 [I 0,I 1,I 100,I 2]=some (FL (0,1,fun _=>100,fun _=>2)):=by kernel_rfl
theorem Amz:evR Tryz.prog 400 [] [] 0 34 [I 1,I 2,I 100,I 2]=some (FL (1,2,fun _=>100,fun _=>2)):=by kernel_rfl
theorem Am0:evR Tryz.prog 400 [] [] 0 34 [I 0,I 2,I 10,I 1]=some (FL (0,2,fun _=>10,fun _=>1)):=by kernel_rfl
noncomputable def LZ:Int×Int×Int×Int→List PV:=fun (a,b,q,p) => [I a,I b,I q,I p]
noncomputable def aM:Int×Int×Int×Int→PV:=fun (a,b,q,p)=>FL (a,b,fun _=>q,fun _=>p)
def aN:Int×Int×Int×Int→Prop:=fun (a,b,q,p)=>(a,b,q,p)=(0,1,100,2)∨(a,b,q,p)=(1,2,100,2)∨(a,b,q,p)=(0,2,10,1)
noncomputable def e_vflat:Nat×Ent:=(34,.v (Ap LZ aM aN))
theorem Afd:∀i j,LZ i=LZ j→i=j:=by
 rintro ⟨_,_,_,_⟩ ⟨_,_,_,_⟩ h
 simp only[LZ,List.cons.injEq,and_true,PV.int.injEq,true_and]at h
 simp [h] <;> omega
theorem TD (a:Int) (b:Int) (q:Int) (p:Int):Ap LZ aM aN [I a,I b,I q,I p]=@ite (Option (PV)) ((a,b,q,p)=(0,1,100,2)∨(a,b,q,p)=(1,2,100,2)∨(a,b,q,p)=(0,2,10,1)) (Classical.propDecidable _) (some (FL (a,b,fun _=>q,fun _=>p))) none:=Br Afd (a,b,q,p)
def Afe:Prop:=∀(a:Int) (b:Int) (q:Int) (p:Int) (h:(a,b,q,p)=(0,1,100,2)∨(a,b,q,p)=(1,2,100,2)∨(a,b,q,p)=(0,2,10,1)) ,VC Tryz.prog 34 [I a,I b,I q,I p] (FL (a,b,fun _=>q,fun _=>p))
theorem Aff:Afe:=by
 rintro a b q p (h | h | h)
 ·cases h;exact Ml AP Amy
 ·cases h;exact Ml AP Amz
 ·cases h;exact Ml AP Am0
theorem Afg:AM Tryz.prog e_vflat.1 e_vflat.2:=Ax fun⟨a,b,q,p⟩ h=>Aff a b q p h
def xB (x:Unit):List PV := []
def Agc (x:Unit) (st:Store):Prop:=True
def Wd (x:Unit) (st:Store):PV×Store:=(.agg [I 3,AQ vxL,.nils,.ref (st.next+2) 0 0 1,I 0,I 2,I 120,I 5,I 8],⟨Ab (fun i=>if i<st.next then st.obj i else none) (st.next+2) (some (.arr 0 7 [.agg [I 0,I 2,I 5,I 7,I 8,I 100,I 50]])),st.next+3⟩)
noncomputable def e_exv:Nat×Ent:=(15,.x (A8 xB Agc Wd))
theorem Agd {st:Store}:A8 xB Agc Wd [] st=some (Wd () st):=Ba (fun _ _ _ _ _ _=>rfl) (i:=()) trivial
theorem Am1:AM Tryz.prog e_exv.1 e_exv.2:=Ca fun x st hx=>by
 obtain ⟨ob,M⟩:=st
 simp only[xB,Wd]
 have f1:=TD (a:=0) (b:=1) (q:=100) (p:=2)
 have f2:=TD (a:=1) (b:=2) (q:=100) (p:=2)
 have f3:=TD (a:=0) (b:=2) (q:=10) (p:=1)
 rw [if_pos (.inl rfl)]at f1
 rw [if_pos (.inr (.inl rfl))]at f2
 rw [if_pos (.inr (.inr rfl))]at f3
 have m1:¬M=M+1∧¬M+1=M∧¬M=M+2∧¬M+2=M∧¬M+1=M+2∧¬M+2=M+1:=by omega
 refine BT AP (l := [e_vflat]) ((Ad Afg Au)) [9] [] 0 Tryz.func15 rfl (by decide +kernel) (N:=12) rfl (by simp) rfl (by kernel_rfl) ?_
 simp only[↓bdD,bdP,seval,Ao,Store.new,Store.set,e_vflat,BJ,Tryz.f15,ty3,BP,AI,BR,AX,Be,C6,CI,f1,f2,f3,m1,Av]
 refine Left.same rfl (fun i o g=>?_) (Nat.le_refl _)
 dsimp only at g ⊢
 by_cases e:i=M+2
 ·subst e
  rw [Ab,if_pos rfl]at g
  cases g
  simp only[Ab,m1,if_false];rfl
 ·rw [Ab,if_neg e]at g
  have c:i<M:=by
   apply Classical.byContradiction
   intro c
   rw [if_neg c]at g;cases g
  rw [if_pos c]at g
  rw [Ab,if_neg (by omega),Ab,if_neg (by omega),Ab,if_neg (by omega),Ab,if_neg (by omega)]
  exact g
noncomputable def JI:Unit→List PV:=fun _ => []
noncomputable def Ro:Unit→PV:=fun _=>B true
def Rp:Unit→Prop:=fun _=>True
noncomputable def e_vsanity:Nat×Ent:=(7,.v (Ap JI Ro Rp))
theorem jU:∀i j,JI i=JI j→i=j:=by
 rintro _ _ h
 rfl
theorem Fv  : Ap JI Ro Rp []=some (B true):=AC jU (i:=()) trivial
def Rq:Prop:=VC Tryz.prog 7 [] (B true)
def Rr:Prop:=AM Tryz.prog e_vsanity.1 e_vsanity.2
theorem jV (c:Rq):Rr:=Ax fun _ h=>c
theorem jW:Rq:=by
 refine OF [18] AP (l := [e_exv,e_vplan,e_vcost,e_deliv,e_vprove,e_vserves,e_vaccept]) ((Ad Am1 (Ad Aen (Ad LJ (Ad Afb (Ad wV (Ad MN (Ad Rm Au)))))))) [] [27,100027,151] 0 0 Tryz.func7 rfl (by decide +kernel) (N:=186) rfl (by simp) rfl (by kernel_rfl) fun hs=>?_
 simp only[AK]at hs
 have a1:=Z0 (hn:=3) (ls:=vxL) (us := []) (ts:=vxT 8) (d:=vxD)
 have a2:=EC (hn:=3) (ls:=vxL) (us := []) (ts:=vxT 8) (d:=vxD) (l:=HW 3 vxL [] (vxT 8) vxD) (o:=HX 3 vxL [] (vxT 8) vxD)
 have a3:=Z0 (hn:=3) (ls:=vxL) (us := []) (ts := []) (d:=vxD)
 have a4:=EC (hn:=3) (ls:=vxL) (us := []) (ts := []) (d:=vxD) (l:=HW 3 vxL [] [] vxD) (o:=HX 3 vxL [] [] vxD)
 have a5:=TC (hn:=3) (ls:=vxL) (us := []) (ts:=vxT 8) (d:=vxD) (l:=vxO) (o := [100]) (arr := [7])
 have a6:=TC (hn:=3) (ls:=vxL) (us := []) (ts:=vxT 8) (d:=vxD) (l:=vxO) (o := [100]) (arr := [9])
 have a7:=TC (hn:=3) (ls:=vxL) (us := []) (ts:=vxT 8) (d:=vxD) (l:=vxO) (o := [100]) (arr := [-1])
 have a8:=wS (hn:=3) (ls:=vxL) (us := []) (ts:=vxT 8) (d:=vxD)
 have b1:=DW (hn:=3) (ls:=vxL) (us := []) (ts:=vxT 8) (d:=vxD) (l:=HW 3 vxL [] (vxT 8) vxD) (o:=HX 3 vxL [] (vxT 8) vxD)
 have b2:=DW (hn:=3) (ls:=vxL) (us := []) (ts:=vxT 8) (d:=vxD) (l:=vxO) (o := [100])
 have b3:=DW (hn:=3) (ls:=vxL) (us := []) (ts:=vxT 9) (d:=vxD) (l:=vxO) (o := [100])
 have b4:=Jz (hn:=3) (ls:=vxL) (us := []) (ts:=vxT 8) (d:=vxD) (l:=HW 3 vxL [] (vxT 8) vxD) (o:=HX 3 vxL [] (vxT 8) vxD) (p:=JO 3 vxL [] (vxT 8) vxD)
 have b5:=Jz (hn:=3) (ls:=vxL) (us := []) (ts:=vxT 8) (d:=vxD) (l:=vxO) (o := [100]) (p:=JO 3 vxL [] (vxT 8) vxD)
 have b6:=Jz (hn:=3) (ls:=vxL) (us := []) (ts:=vxT 8) (d:=vxD) (l:=vxO) (o := [100]) (p:=(JO 3 vxL [] (vxT 8) vxD).take 1)
 have hl:=Agb
 have htk:=fun L:List Prf=>(show List.take (1-0) (List.map VY L)=List.map VY (L.take 1) by rw[List.map_take])
 rw [x_pln.1]at a1
 rw [x_pln.2.2,sch_zero.2 (Gw x_pln.2.1)]at a2
 rw [x_plnN.1]at a3
 rw [x_plnN.2.2,sch_zero.2 (Gw x_plnN.2.1)]at a4
 rw [x_del7.1,x_del7.2]at a5
 rw [x_del9.1,x_del9.2]at a6
 rw [x_delM.1,x_delM.2]at a7
 rw [if_pos ⟨Rn,by decide,Amx,x_plnB.2.2⟩,x_plnB.1,x_plnB.2.1]at a8
 rw [x_pln.2.1]at b1
 rw [x_own.1]at b2
 rw [Aks]at b3
 rw [decide_eq_true (Aga x_pln.2.1 x_pln.2.2)]at b4
 rw [decide_eq_true (Aga x_own.1 x_own.2)]at b5
 rw [decide_eq_false Akt]at b6
 generalize HW 3 vxL [] (vxT 8) vxD=pl1 at *
 generalize HX 3 vxL [] (vxT 8) vxD=po1 at *
 generalize HW 3 vxL [] [] vxD=pl2 at *
 generalize HX 3 vxL [] [] vxD=po2 at *
 generalize JO 3 vxL [] (vxT 8) vxD=L at *
 dsimp only[AQ,Ay,ints,CK,Vy,B5,vxT,vxD,vxO,MT]at a1 a2 a3 a4 a5 a6 a7 a8 b1 b2 b3 b4 b5 b6
 simp only[List.map_cons,List.map_nil]at a1 a2 a3 a4 a5 a6 a7 a8 b1 b2 b3 b4 b5 b6
 simp only[↓bdD,bdP,seval,Store.new,Store.set,e_exv,Agd,e_vplan,e_vcost,e_deliv,e_vprove,e_vserves,e_vaccept,Ac,Aa,Nat.mul_one,Tryz.f7,ty3,AN,BR,Be,AS,B3,C6,Cn,↓A5,↓AO,↓Ar,↓AG,Agd,Wd,a1,a2,a3,a4,a5,a6,a7,a8,Av]
 refine YZ (.via 36 (.one [0,1,2,3,4,5,6,7,8,9,10,11,12,13,14,15,16,17,18,19,20,21,22,23,24,25,26,27,28,29,30,31,32,33,34,35,36,37,38,39,40,41,42,43,44,45,46,47,48,49,50,51,52,53,54,55,56,57,58,59,60])) (by rfl) (by kernel_rfl) ?_
 intro r hr
 simp only[Tree.orders,List.mem_singleton]at hr
 subst hr
 simp only[atO,List.filterMap_cons,List.filterMap_nil,List.getElem?_toArray,List.getElem?_cons_succ,List.getElem?_cons_zero]
 simp only[↓bdD,bdP,seval,Ao,Ac,Aa,Hb,Be,B3,Fl,↓En,b1,b2,b3,b4,b5,b6,hl,htk]
 exact DR.bool rfl
theorem jX:Rr:=jV jW
def Afh:Prop:=∀(hn:Int) (ls:List Lnk) (us:List Snd) (ts:List Trp) (d:Dem) (l:List Snd) (o:List Int) (l2:List Snd) (o2:List Int) (p:List Prf) ,VC Tryz.prog 5 [.agg [I hn,AQ ls,Ay us,CK ts,I d.1,I d.2.1,I d.2.2.1,I d.2.2.2.1,I d.2.2.2.2],.agg [Ay l,ints o],.agg [Ay l2,ints o2],MT p] (B true)
theorem Afi:Afh:=by
 intro hn ls us ts d l o l2 o2 p
 refine Bc AP (l := [e_vfew,e_short,e_vsanity,e_vaccept,e_vserves,e_vcost]) ((Ad Akh (Ad Aes (Ad jX (Ad Rm (Ad MN (Ad LJ Au))))))) [] []  Tryz.func5 rfl (by decide +kernel) (N:=75) rfl (by simp) rfl (by kernel_rfl) fun hs=>?_
 simp only[AK,PV.small,List.length_map,and_true,true_and]at hs
 have s1:=Z1 (l:=l) (o:=o) (arr := []) (p:=p)
 have s2:=Z1 (l:=l2) (o:=o2) (arr := []) (p := [])
 have sa:=Jz (hn:=hn) (ls:=ls) (us:=us) (ts:=ts) (d:=d) (l:=l) (o:=o) (p:=p)
 rw [show ints []=PV.lits 1 [] from rfl]at s1 s2
 rw [show MT []=PV.lits 2 [] from rfl]at s2
 by_cases g1:Aeo ls us ts d=true
 case neg=>simp only[↓bdD,bdP,seval,Ao,st0,e_vfew,MU,e_short,e_vsanity,Fv,e_vaccept,e_vserves,e_vcost,Ac,Aa,AB,Tryz.f5,Be,g1]
 by_cases g2:jK l o [] p=true
 case neg=>simp only[↓bdD,bdP,seval,Ao,st0,e_vfew,MU,e_short,e_vsanity,Fv,e_vaccept,e_vserves,e_vcost,Ac,Aa,AB,Hb,Tryz.f5,Be,AS,B3,Fl,g1,s1,g2]
 by_cases g3:jK l2 o2 [] []=true
 case neg=>simp only[↓bdD,bdP,seval,Ao,st0,e_vfew,MU,e_short,e_vsanity,Fv,e_vaccept,e_vserves,e_vcost,Ac,Aa,AB,Hb,Tryz.f5,Be,AS,B3,Fl,g1,s1,g2,s2,g3]
 by_cases ha:Tr hn ls us ts d l o p
 case neg =>
  rw [decide_eq_false ha]at sa
  simp only[↓bdD,bdP,seval,Ao,st0,e_vfew,MU,e_short,e_vsanity,Fv,e_vaccept,e_vserves,e_vcost,Ac,Aa,AB,Hb,Tryz.f5,Be,AS,B3,Fl,g1,s1,g2,s2,g3,sa]
 rw [decide_eq_true ha]at sa
 by_cases hq:F3 hn ls us ts d l2 o2=0
 case neg=>simp only[↓bdD,bdP,seval,Ao,st0,e_vfew,MU,e_short,e_vsanity,Fv,e_vaccept,e_vserves,DW,e_vcost,Ac,Aa,AB,Hb,Tryz.f5,Be,AS,B3,Fl,g1,s1,g2,s2,g3,sa,hq]
 have key:=V2 ha hq
 have e1:=sch_zero.2 (Gw ha.1)
 have e2:=sch_zero.2 (Gw hq)
 have e3:=ha.1
 simp only[↓bdD,bdP,seval,Ao,st0,e_vfew,MU,e_short,e_vsanity,Fv,e_vaccept,e_vserves,DW,e_vcost,EC,Ac,Aa,AB,Hb,Tryz.f5,Be,AS,B3,Fl,g1,s1,g2,s2,g3,sa,hq,key,e1,e2,e3]
 done
end Sim
namespace Sim
open Go Go.ChangeShapes Go.WideShapes Go.ChangeAt Go.RowKit Go.Proofs
section
variable {P:Program} {w:World}
theorem RdC.conv {t:TypeId} {α β:Type} {f:α→PV} {q:α→Prop} (h:RdC P w t f q) (g:β→PV) (q':β→Prop) (hc:∀a,q a→∃b,q' b∧g b=f a):RdC P w t g q':=fun enc bs spare held fuel cs x hx=>by
 obtain ⟨a,h1,h2⟩:=h enc bs spare held fuel cs x hx
 obtain ⟨b,h3,h4⟩:=hc a h1
 exact ⟨b,h3,by rw[h4];exact h2⟩
theorem Am2 {k:IntKind} {cs:List Value} {n:Nat} (hl:cs.length=n) (h:∀i,i<n→∃(H:Type) (enc:TypeId×Value→H) (bs:Nat) (spare:Nat→Bool) (held:Bool) (m:Nat) (e:TypeId) (x:DataW H×List MemPlace),P.underlying e=some (.int k)∧DataW.trod enc P w bs spare held m e ((cs.drop i).take 1)=some x) :
  ∃ l:List Int,l.length=n∧(∀a∈l,(Lit.int k a).wf=true)∧(∀c∈l.map (PV.int k),c.isCell=true)∧∀(j:Nat) (c:PV),(l.map (PV.int k))[j]?=some c→VR (base (full w) w) (cs.getD j undef) c:=by
 obtain ⟨l,h1,h2⟩:=Gp (Q:=fun i (a:Int)=>(Lit.int k a).wf=true∧VR (base (full w) w) (cs.getD i undef) (.int k a)) n fun i hi=>by
  obtain ⟨H,enc,bs,spare,held,m,e,x,he,hx⟩:=h i hi
  obtain ⟨a,h1,_,_,h4⟩:=RdC.int he enc bs spare held m _ x hx
  refine ⟨a,h1,?_⟩
  have := h4 0 _ rfl
  rwa [List.getD_eq_getElem?_getD,List.getElem?_take_of_lt (by omega),List.getElem?_drop,Nat.add_zero,←List.getD_eq_getElem?_getD]at this
 refine ⟨l,h1,fun a ha=>?_,fun c hc=>?_,fun j c hj=>?_⟩
 ·obtain ⟨i,hi,rfl⟩:=List.getElem_of_mem ha
  exact (h2 i hi).1
 ·obtain ⟨a,_,rfl⟩:=List.mem_map.1 hc
  rfl
 ·rw [List.getElem?_map,Option.map_eq_some_iff]at hj
  obtain ⟨a,ha,rfl⟩:=hj
  obtain ⟨hi,rfl⟩:=List.getElem?_eq_some_iff.1 ha
  exact (h2 j hi).2
theorem RdC.arrayI {t e:TypeId} {n:Nat} {k:IntKind} (ht:P.underlying t=some (.array n e)) (hn:P.cellsOf t=n) (hc:P.cellsOf e=1) (he:P.underlying e=some (.int k)) :
  RdC P w t (fun l:List Int=>.agg (l.map (PV.int k))) (fun l=>l.length=n∧∀a∈l,(Lit.int k a).wf=true):=by
 intro H enc bs spare held fuel cs x h
 obtain ⟨xs,m,_,_,hl,hlen,hf⟩:=DataW.trod_array ht h
 rw [hn]at hl
 obtain ⟨l,h1,h2,h3,h4⟩:=Am2 (P:=P) (w:=w) (k:=k) hl fun i hi=>by
  have h5:=hf i hi
  rw [hc,Nat.mul_one,List.getElem?_eq_getElem (by omega)]at h5
  exact ⟨H,enc,bs,spare,held,m,e,_,he,h5⟩
 exact ⟨l,⟨h1,h2⟩,by simp[PV.cells,h1,hl],h3,h4⟩
theorem RdC.structI {t:TypeId} {fs:Array Field} {k:IntKind} (ht:P.underlying t=some (.struct fs)) (hn:P.cellsOf t=fs.size) (hf:∀(i:Nat) (f:Field),fs[i]?=some f→f.offset=i∧P.cellsOf f.type=1∧P.underlying f.type=some (.int k)) :
  RdC P w t (fun l:List Int=>.agg (l.map (PV.int k))) (fun l=>l.length=fs.size∧∀a∈l,(Lit.int k a).wf=true):=by
 intro H enc bs spare held fuel cs x h
 obtain ⟨xs,m,_,_,hl,hlen,hg⟩:=DataW.trod_struct ht h
 rw [hn]at hl
 obtain ⟨l,h1,h2,h3,h4⟩:=Am2 (P:=P) (w:=w) (k:=k) hl fun i hi=>by
  obtain ⟨f1,f2,f3⟩:=hf i fs[i] (by simp[hi])
  have h5:=hg i fs[i] (by simp[hi])
  rw [f1,f2,List.getElem?_eq_getElem (by omega)]at h5
  exact ⟨H,enc,bs,spare,held,m,_,_,f3,h5⟩
 exact ⟨l,⟨h1,h2⟩,by simp[PV.cells,h1,hl],h3,h4⟩
theorem RdC.argS {t:TypeId} (ht:(∃fs,P.underlying t=some (.struct fs))∨∃n e,P.underlying t=some (.array n e)) {α:Type} {l:α→List PV} {q:α→Prop} (h:RdC P w t (fun a=>.agg (l a)) q) {H:Type} {enc:TypeId×Value→H} {bs b0:Nat} {spare:Nat→Bool} {held:Bool} {v:Value} {d:DataW H} {ps:List MemPlace}
  (hval : Value.okWide P w .any b0 t v) (hd:DataW.Trod enc P w bs spare held t v d ps):∃a,q a∧VR (base (full w) w) v (.agg (l a)):=by
 unfold Value.okWide at hval
 have key:∃cs,v=.agg cs:=by
  rcases ht with ⟨fs,ht⟩ | ⟨n,e,ht⟩
  ·rw [ht]at hval;obtain⟨cs,rfl,_⟩:=hval;exact⟨cs,rfl⟩
  ·rw [ht]at hval;obtain⟨cs,rfl,_⟩:=hval;exact⟨cs,rfl⟩
 obtain ⟨cs,rfl⟩:=key
 obtain ⟨fuel,hd⟩:=hd
 obtain ⟨a,qa,h1,h2,h3⟩:=h enc bs spare held fuel _ _ hd
 refine ⟨a,qa,.agg cs _ ?_ h2 fun i p hp=>?_⟩
 ·have h4:(l a).length=cs.toList.length:=h1
  rw [Array.length_toList]at h4;exact h4.symm
 ·have := h3 i p hp
  have e:(Value.agg cs).cells.toList.getD i undef=cs.getD i undef:=by
   simp [Value.cells,Array.getD_eq_getD_getElem?,List.getD_eq_getElem?_getD]
  rwa [e]at this
theorem RdC.any {t:TypeId} {α:Type} {f:α→PV} {q:α→Prop} (h:RdC P w t f q):RdC P w t f (fun _=>True):=fun enc bs spare held fuel cs x hx=>by
 obtain ⟨a,_,h1⟩:=h enc bs spare held fuel cs x hx
 exact ⟨a,trivial,h1⟩
end
theorem Am3:ownKnob Tryz.prog.godebug=Option.none:=by kernel_rfl
theorem Aku:Kids Tryz.prog (· < Tryz.prog.types.size):=kids_rows (by kernel_rfl) (by kernel_rfl)
theorem Afj:((List.range Tryz.prog.types.size).all fun t=>match Tryz.prog.underlying t with | some (.slice e)=>decide (0<Tryz.prog.cellsOf e) | _=>true)=true:=by kernel_rfl
theorem Akv:∀t e,t<Tryz.prog.types.size→Tryz.prog.underlying t=some (.slice e)→0<Tryz.prog.cellsOf e:=fun t e ht hu=>by
 have := List.all_eq_true.1 Afj t (List.mem_range.2 ht)
 rw [hu]at this
 simpa using this
theorem r3 (W:World):RdC Tryz.prog W 3 (fun n:Int=>I n) (fun _=>True):=RdC.any (RdC.int Tryz.underlying3)
theorem r55 (W:World):RdC Tryz.prog W 55 (fun a:Snd=>B5 a) (fun _=>True):=by
 have h:=@RdC.structI Tryz.prog W 55 _ .i64 Tryz.underlying55 (by kernel_rfl) (fun i f h=>by
  match i,h with
  | 0,h=>simp at h;subst h;exact⟨rfl,by kernel_rfl,Tryz.underlying3⟩
  | 1,h=>simp at h;subst h;exact⟨rfl,by kernel_rfl,Tryz.underlying3⟩
  | 2,h=>simp at h;subst h;exact⟨rfl,by kernel_rfl,Tryz.underlying3⟩
  | i+3,h=>simp at h)
 refine @RdC.conv Tryz.prog W 55 (List Int) Snd _ _ h (fun a:Snd=>B5 a) (fun _=>True) ?_
 rintro l ⟨hl,_⟩
 match l,hl with
 | [a,b,c],_=>exact⟨(a,b,c),trivial,rfl⟩
theorem r28 (W:World):RdC Tryz.prog W 28 (fun a:Dem=>DY a) (fun _=>True):=by
 have h:=@RdC.structI Tryz.prog W 28 _ .i64 Tryz.underlying28 (by kernel_rfl) (fun i f h=>by
  match i,h with
  | 0,h=>simp at h;subst h;exact⟨rfl,by kernel_rfl,Tryz.underlying3⟩
  | 1,h=>simp at h;subst h;exact⟨rfl,by kernel_rfl,Tryz.underlying3⟩
  | 2,h=>simp at h;subst h;exact⟨rfl,by kernel_rfl,Tryz.underlying3⟩
  | 3,h=>simp at h;subst h;exact⟨rfl,by kernel_rfl,Tryz.underlying3⟩
  | 4,h=>simp at h;subst h;exact⟨rfl,by kernel_rfl,Tryz.underlying3⟩
  | i+5,h=>simp at h)
 refine @RdC.conv Tryz.prog W 28 (List Int) Dem _ _ h (fun a:Dem=>DY a) (fun _=>True) ?_
 rintro l ⟨hl,_⟩
 match l,hl with
 | [a,b,c,d,e],_=>exact⟨(a,b,c,d,e),trivial,rfl⟩
theorem r81 (W:World):RdC Tryz.prog W 81 (fun l:List Int=>.agg (l.map (PV.int .i64))) (fun l=>l.length=24):=by
 have h:=@RdC.arrayI Tryz.prog W 81 _ _ .i64 Tryz.underlying81 (by kernel_rfl) (by kernel_rfl) Tryz.underlying3
 exact @RdC.conv Tryz.prog W 81 (List Int) (List Int) _ _ h _ _ fun l h=>⟨l,h.1,rfl⟩
theorem d3 (W:World):RdD Tryz.prog W 3 (fun n:Int=>I n) (fun _ _ _=>True):=fun enc bs spare held fuel cs x hx=>r3 W enc bs spare held fuel cs x hx
theorem d81 (W:World):RdD Tryz.prog W 81 (fun l:List Int=>.agg (l.map (PV.int .i64))) (fun l _ _=>l.length=24):=fun enc bs spare held fuel cs x hx=>r81 W enc bs spare held fuel cs x hx
theorem Rs {l:List Int} (h:l.length=24):List.ofFn (fun i:Fin 24=>l.getD i.1 0)=l:=by
 apply List.ext_getElem
 ·simp [h]
 ·intro i h1 h2
  rw [List.getElem_ofFn,List.getD_eq_getElem?_getD,List.getElem?_eq_getElem h2];rfl
theorem r83 (W:World):RdC Tryz.prog W 83 (fun a:Lnk=>FL a) (fun _=>True):=by
 intro H enc bs spare held fuel cs x h
 have hcell:Tryz.prog.cellsOf 83=50:=by kernel_rfl
 have k3:Tryz.prog.cellsOf 3=1:=by kernel_rfl
 have k81:Tryz.prog.cellsOf 81=24:=by kernel_rfl
 obtain ⟨xs,n,_,hx,hl,hlen,hf⟩:=DataW.trod_struct Tryz.underlying83 h
 rw [hcell]at hl
 match xs,hlen with
 | [y0,y1,y2,y3],_ =>
  have f0:DataW.trod enc Tryz.prog W bs spare held n 3 ((cs.drop 0).take (Tryz.prog.cellsOf 3))=some y0:=hf 0 _ rfl
  have f1:DataW.trod enc Tryz.prog W bs spare held n 3 ((cs.drop 1).take (Tryz.prog.cellsOf 3))=some y1:=hf 1 _ rfl
  have f2:DataW.trod enc Tryz.prog W bs spare held n 81 ((cs.drop 2).take (Tryz.prog.cellsOf 81))=some y2:=hf 2 _ rfl
  have f3:DataW.trod enc Tryz.prog W bs spare held n 81 ((cs.drop 26).take (Tryz.prog.cellsOf 81))=some y3:=hf 3 _ rfl
  rw [k3]at f0 f1
  rw [k81]at f2 f3
  obtain ⟨a,_,_,p0⟩:=RdD.part (f:=fun n:Int=>I n) (q:=fun _ _ _=>True) (d3 W) (cs:=cs) (o:=0) (n:=1) (by omega) f0
  obtain ⟨b,_,_,p1⟩:=RdD.part (f:=fun n:Int=>I n) (q:=fun _ _ _=>True) (d3 W) (cs:=cs) (o:=1) (n:=1) (by omega) f1
  obtain ⟨l2,g2,_,p2⟩:=RdD.part (f:=fun l:List Int=>.agg (l.map (PV.int .i64))) (q:=fun l _ _=>l.length=24) (d81 W) (cs:=cs) (o:=2) (n:=24) (by omega) f2
  obtain ⟨l3,g3,_,p3⟩:=RdD.part (f:=fun l:List Int=>.agg (l.map (PV.int .i64))) (q:=fun l _ _=>l.length=24) (d81 W) (cs:=cs) (o:=26) (n:=24) (by omega) f3
  have hc:lkC (a,b,fun i=>l2.getD i.1 0,fun i=>l3.getD i.1 0) = [I a]++([I b]++(l2.map (PV.int .i64)++l3.map (PV.int .i64))):=by
   simp only[lkC,Rs g2,Rs g3];rfl
  have p0:Part W cs 0 [I a]:=p0
  have p1:Part W cs 1 [I b]:=p1
  have p2:Part W cs 2 (l2.map (PV.int .i64)):=p2
  have p3:Part W cs 26 (l3.map (PV.int .i64)):=p3
  have e26:2+(l2.map (PV.int .i64)).length=26:=by simp[g2]
  have hp:Part W cs 0 (lkC (a,b,fun i=>l2.getD i.1 0,fun i=>l3.getD i.1 0)):=by
   rw [hc]
   exact p0.append (p1.append (p2.append (by
    rw [e26]
    exact p3)))
  refine ⟨(a,b,fun i=>l2.getD i.1 0,fun i=>l3.getD i.1 0),trivial,?_,hp.1,fun j c hj=>?_⟩
  ·simp only[PV.cells,BJ];exact hl.symm
  ·have := hp.2 j c hj
   rwa [Nat.zero_add]at this
theorem r25 (W:World):RdC Tryz.prog W 25 (fun l:List Snd=>Ay l) (fun _=>True):=RdC.any (RdC.slice Tryz.underlying25 (by kernel_rfl) (by decide) (r55 W))
theorem r22 (W:World):RdC Tryz.prog W 22 (fun l:List Lnk=>AQ l) (fun _=>True):=RdC.any (RdC.slice Tryz.underlying22 (by kernel_rfl) (by decide) (r83 W))
theorem r24 (W:World):RdC Tryz.prog W 24 (fun a:Int×List Lnk=>.agg [I a.1,AQ a.2]) (fun _=>True) :=
 RdC.any (RdC.struct2 Tryz.underlying24 (by kernel_rfl) ⟨rfl,rfl⟩ ⟨by kernel_rfl,by kernel_rfl⟩ (r3 W) (r22 W) (fun _=>rfl) (fun _=>rfl))
theorem r48 (W:World):RdC Tryz.prog W 48 (fun a:Trp=>Vy a) (fun _=>True):=by
 have h:=@RdC.structI Tryz.prog W 48 _ .i64 Tryz.underlying48 (by kernel_rfl) (fun i f h=>by
  match i,h with
  | 0,h=>simp at h;subst h;exact⟨rfl,by kernel_rfl,Tryz.underlying3⟩
  | 1,h=>simp at h;subst h;exact⟨rfl,by kernel_rfl,Tryz.underlying3⟩
  | 2,h=>simp at h;subst h;exact⟨rfl,by kernel_rfl,Tryz.underlying3⟩
  | 3,h=>simp at h;subst h;exact⟨rfl,by kernel_rfl,Tryz.underlying3⟩
  | 4,h=>simp at h;subst h;exact⟨rfl,by kernel_rfl,Tryz.underlying3⟩
  | 5,h=>simp at h;subst h;exact⟨rfl,by kernel_rfl,Tryz.underlying3⟩
  | 6,h=>simp at h;subst h;exact⟨rfl,by kernel_rfl,Tryz.underlying3⟩
  | i+7,h=>simp at h)
 refine @RdC.conv Tryz.prog W 48 (List Int) Trp _ _ h (fun a:Trp=>Vy a) (fun _=>True) ?_
 rintro l ⟨hl,_⟩
 match l,hl with
 | [a,b,c,d,e,f,g],_=>exact⟨(a,b,c,d,e,f,g),trivial,rfl⟩
theorem r26 (W:World):RdC Tryz.prog W 26 (fun l:List Trp=>CK l) (fun _=>True):=RdC.any (RdC.slice Tryz.underlying26 (by kernel_rfl) (by decide) (r48 W))
theorem r33 (W:World):RdC Tryz.prog W 33 (fun l:List Int=>ints l) (fun _=>True):=RdC.any (RdC.slice Tryz.underlying33 (by kernel_rfl) (by decide) (r3 W))
theorem r75 (W:World):RdC Tryz.prog W 75 (fun y:List (List Int)=>E4 y) (fun _=>True):=RdC.any (RdC.slice Tryz.underlying75 (by kernel_rfl) (by decide) (r33 W))
theorem d24 (W:World):RdD Tryz.prog W 24 (fun a:Int×List Lnk=>.agg [I a.1,AQ a.2]) (fun _ _ _=>True):=fun enc bs spare held fuel cs x hx=>r24 W enc bs spare held fuel cs x hx
theorem d25 (W:World):RdD Tryz.prog W 25 (fun l:List Snd=>Ay l) (fun _ _ _=>True):=fun enc bs spare held fuel cs x hx=>r25 W enc bs spare held fuel cs x hx
theorem d26 (W:World):RdD Tryz.prog W 26 (fun l:List Trp=>CK l) (fun _ _ _=>True):=fun enc bs spare held fuel cs x hx=>r26 W enc bs spare held fuel cs x hx
theorem d28 (W:World):RdD Tryz.prog W 28 (fun a:Dem=>DY a) (fun _ _ _=>True):=fun enc bs spare held fuel cs x hx=>r28 W enc bs spare held fuel cs x hx
theorem d33 (W:World):RdD Tryz.prog W 33 (fun l:List Int=>ints l) (fun _ _ _=>True):=fun enc bs spare held fuel cs x hx=>r33 W enc bs spare held fuel cs x hx
theorem d75 (W:World):RdD Tryz.prog W 75 (fun y:List (List Int)=>E4 y) (fun _ _ _=>True):=fun enc bs spare held fuel cs x hx=>r75 W enc bs spare held fuel cs x hx
abbrev Akw (a:(Int×List Lnk)×List Snd×List Trp×Dem):List PV := [I a.1.1,AQ a.1.2,Ay a.2.1,CK a.2.2.1,I a.2.2.2.1,I a.2.2.2.2.1,I a.2.2.2.2.2.1,I a.2.2.2.2.2.2.1,I a.2.2.2.2.2.2.2]
theorem r30 (W:World):RdC Tryz.prog W 30 (fun a:(Int×List Lnk)×List Snd×List Trp×Dem=>.agg (Akw a)) (fun _=>True):=by
 intro H enc bs spare held fuel cs x h
 have hcell:Tryz.prog.cellsOf 30=9:=by kernel_rfl
 have k24:Tryz.prog.cellsOf 24=2:=by kernel_rfl
 have k25:Tryz.prog.cellsOf 25=1:=by kernel_rfl
 have k26:Tryz.prog.cellsOf 26=1:=by kernel_rfl
 have k28:Tryz.prog.cellsOf 28=5:=by kernel_rfl
 obtain ⟨xs,n,_,hx,hl,hlen,hf⟩:=DataW.trod_struct Tryz.underlying30 h
 rw [hcell]at hl
 match xs,hlen with
 | [y0,y1,y2,y3],_ =>
  have f0:DataW.trod enc Tryz.prog W bs spare held n 24 ((cs.drop 0).take (Tryz.prog.cellsOf 24))=some y0:=hf 0 _ rfl
  have f1:DataW.trod enc Tryz.prog W bs spare held n 25 ((cs.drop 2).take (Tryz.prog.cellsOf 25))=some y1:=hf 1 _ rfl
  have f2:DataW.trod enc Tryz.prog W bs spare held n 26 ((cs.drop 3).take (Tryz.prog.cellsOf 26))=some y2:=hf 2 _ rfl
  have f3:DataW.trod enc Tryz.prog W bs spare held n 28 ((cs.drop 4).take (Tryz.prog.cellsOf 28))=some y3:=hf 3 _ rfl
  rw [k24]at f0
  rw [k25]at f1
  rw [k26]at f2
  rw [k28]at f3
  obtain ⟨a0,_,_,p0⟩:=RdD.part (f:=fun a:Int×List Lnk=>.agg [I a.1,AQ a.2]) (q:=fun _ _ _=>True) (d24 W) (cs:=cs) (o:=0) (n:=2) (by omega) f0
  obtain ⟨a1,_,_,p1⟩:=RdD.part (f:=fun l:List Snd=>Ay l) (q:=fun _ _ _=>True) (d25 W) (cs:=cs) (o:=2) (n:=1) (by omega) f1
  obtain ⟨a2,_,_,p2⟩:=RdD.part (f:=fun l:List Trp=>CK l) (q:=fun _ _ _=>True) (d26 W) (cs:=cs) (o:=3) (n:=1) (by omega) f2
  obtain ⟨a3,_,_,p3⟩:=RdD.part (f:=fun a:Dem=>DY a) (q:=fun _ _ _=>True) (d28 W) (cs:=cs) (o:=4) (n:=5) (by omega) f3
  have p0:Part W cs 0 [I a0.1,AQ a0.2]:=p0
  have p1:Part W cs 2 [Ay a1]:=p1
  have p2:Part W cs 3 [CK a2]:=p2
  have p3:Part W cs 4 [I a3.1,I a3.2.1,I a3.2.2.1,I a3.2.2.2.1,I a3.2.2.2.2]:=p3
  have hp:Part W cs 0 (Akw (a0,a1,a2,a3)):=p0.append (p1.append (p2.append p3))
  refine ⟨(a0,a1,a2,a3),trivial,?_,hp.1,fun j e hj=>?_⟩
  ·show 9=_;exact hl.symm
  ·have := hp.2 j e hj
   rwa [Nat.zero_add]at this
abbrev Akx (a:List Snd×List Int):List PV := [Ay a.1,ints a.2]
theorem r35 (W:World):RdC Tryz.prog W 35 (fun a:List Snd×List Int=>.agg (Akx a)) (fun _=>True):=by
 intro H enc bs spare held fuel cs x h
 have hcell:Tryz.prog.cellsOf 35=2:=by kernel_rfl
 have k25:Tryz.prog.cellsOf 25=1:=by kernel_rfl
 have k33:Tryz.prog.cellsOf 33=1:=by kernel_rfl
 obtain ⟨xs,n,_,hx,hl,hlen,hf⟩:=DataW.trod_struct Tryz.underlying35 h
 rw [hcell]at hl
 match xs,hlen with
 | [y0,y1],_ =>
  have f0:DataW.trod enc Tryz.prog W bs spare held n 25 ((cs.drop 0).take (Tryz.prog.cellsOf 25))=some y0:=hf 0 _ rfl
  have f1:DataW.trod enc Tryz.prog W bs spare held n 33 ((cs.drop 1).take (Tryz.prog.cellsOf 33))=some y1:=hf 1 _ rfl
  rw [k25]at f0
  rw [k33]at f1
  obtain ⟨a0,_,_,p0⟩:=RdD.part (f:=fun l:List Snd=>Ay l) (q:=fun _ _ _=>True) (d25 W) (cs:=cs) (o:=0) (n:=1) (by omega) f0
  obtain ⟨a1,_,_,p1⟩:=RdD.part (f:=fun l:List Int=>ints l) (q:=fun _ _ _=>True) (d33 W) (cs:=cs) (o:=1) (n:=1) (by omega) f1
  have p0:Part W cs 0 [Ay a0]:=p0
  have p1:Part W cs 1 [ints a1]:=p1
  have hp:Part W cs 0 (Akx (a0,a1)):=p0.append p1
  refine ⟨(a0,a1),trivial,?_,hp.1,fun j e hj=>?_⟩
  ·show 2=_;exact hl.symm
  ·have := hp.2 j e hj
   rwa [Nat.zero_add]at this
abbrev Am4 (a:Prf):List PV := [E4 a.1,ints a.2]
theorem r77 (W:World):RdC Tryz.prog W 77 (fun a:Prf=>.agg (Am4 a)) (fun _=>True):=by
 intro H enc bs spare held fuel cs x h
 have hcell:Tryz.prog.cellsOf 77=2:=by kernel_rfl
 have k75:Tryz.prog.cellsOf 75=1:=by kernel_rfl
 have k33:Tryz.prog.cellsOf 33=1:=by kernel_rfl
 obtain ⟨xs,n,_,hx,hl,hlen,hf⟩:=DataW.trod_struct Tryz.underlying77 h
 rw [hcell]at hl
 match xs,hlen with
 | [y0,y1],_ =>
  have f0:DataW.trod enc Tryz.prog W bs spare held n 75 ((cs.drop 0).take (Tryz.prog.cellsOf 75))=some y0:=hf 0 _ rfl
  have f1:DataW.trod enc Tryz.prog W bs spare held n 33 ((cs.drop 1).take (Tryz.prog.cellsOf 33))=some y1:=hf 1 _ rfl
  rw [k75]at f0
  rw [k33]at f1
  obtain ⟨a0,_,_,p0⟩:=RdD.part (f:=fun y:List (List Int)=>E4 y) (q:=fun _ _ _=>True) (d75 W) (cs:=cs) (o:=0) (n:=1) (by omega) f0
  obtain ⟨a1,_,_,p1⟩:=RdD.part (f:=fun l:List Int=>ints l) (q:=fun _ _ _=>True) (d33 W) (cs:=cs) (o:=1) (n:=1) (by omega) f1
  have p0:Part W cs 0 [E4 a0]:=p0
  have p1:Part W cs 1 [ints a1]:=p1
  have hp:Part W cs 0 (Am4 (a0,a1)):=p0.append p1
  refine ⟨(a0,a1),trivial,?_,hp.1,fun j e hj=>?_⟩
  ·show 2=_;exact hl.symm
  ·have := hp.2 j e hj
   rwa [Nat.zero_add]at this
theorem r50 (W:World):RdC Tryz.prog W 50 (fun l:List Prf=>MT l) (fun _=>True):=RdC.any (RdC.slice Tryz.underlying50 (by kernel_rfl) (by decide) (r77 W))
section
variable {W:World} {b0 bs:Nat} {H:Type} {enc:TypeId×Value→H} {spare:Nat→Bool} {held:Bool} {v:Value} {d:DataW H} {ps:List MemPlace}
theorem Afk (hval:Value.okWide Tryz.prog W .any b0 30 v) (hd:DataW.Trod enc Tryz.prog W bs spare held 30 v d ps):∃(hn:Int) (ls:List Lnk) (us:List Snd) (ts:List Trp) (d:Dem),VR (base (full W) W) v (.agg [I hn,AQ ls,Ay us,CK ts,I d.1,I d.2.1,I d.2.2.1,I d.2.2.2.1,I d.2.2.2.2]):=by
 obtain ⟨a,_,h⟩:=RdC.argS (l:=Akw) (.inl ⟨_,Tryz.underlying30⟩) (r30 W) hval hd
 exact ⟨a.1.1,a.1.2,a.2.1,a.2.2.1,a.2.2.2,h⟩
theorem aQ (hval:Value.okWide Tryz.prog W .any b0 35 v) (hd:DataW.Trod enc Tryz.prog W bs spare held 35 v d ps):∃(l:List Snd) (o:List Int),VR (base (full W) W) v (.agg [Ay l,ints o]):=by
 obtain ⟨a,_,h⟩:=RdC.argS (l:=Akx) (.inl ⟨_,Tryz.underlying35⟩) (r35 W) hval hd
 exact ⟨a.1,a.2,h⟩
theorem xC (hval:Value.okWide Tryz.prog W .any b0 50 v) (hd:DataW.Trod enc Tryz.prog W bs spare held 50 v d ps):∃l,VR (base (full W) W) v (MT l):=by
 obtain ⟨a,_,h⟩:=RdC.arg (f:=fun l:List Prf=>MT l) Tryz.underlying50 (r50 W) (fun _=>rfl) hval hd
 exact ⟨a,h⟩
end
end Sim
