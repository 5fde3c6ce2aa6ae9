/- What functions of this seat compute, by values: contracts (lemmas of the statement's proof, under the conditions that each names). -/
import Derived.Test.YtppljhpecoeakaaQYE
set_option maxRecDepth 10000
set_option maxHeartbeats 4000000
set_option linter.unusedVariables false
set_option linter.unusedSimpArgs false
namespace Sim
open Go Go.Proofs
attribute [local congr] Ap Aq Al AC As Ar Av
theorem rU {l:Lnk} {hr:Nat} {v:Int} (h:hr<24):(lkC l).set (2+hr) (I v)=lkC (l.1,l.2.1,(fun i=>if i.1=hr then v else l.2.2.1 i),l.2.2.2):=by
 unfold lkC
 rw [Nat.add_comm 2 hr,List.set_cons_succ,List.set_cons_succ]
 congr 2
 rw [List.set_append_left _ _ (by simp;omega)]
 congr 1
 refine List.ext_getElem? fun j=>?_
 rw [List.getElem?_set,List.getElem?_map,List.getElem?_map]
 by_cases hj:j<24
 ·rw [H5 hj,H5 hj]
  simp only[List.length_map,List.length_ofFn,Option.map_some]
  by_cases e:hr=j
  ·subst e;simp[h]
  ·have e':¬j=hr:=fun g=>e g.symm
   simp [e,e']
 ·rw [List.getElem?_eq_none (l:=List.ofFn _) (by simp;omega),List.getElem?_eq_none (l:=List.ofFn _) (by simp;omega)]
  have e:¬hr=j:=by omega
  simp [e]
theorem rV {ls:List Lnk} {k hr:Nat} {v:Int} (h:hr<24):(ls.map MC).set k (.agg (List.take (2+hr) (lkC (ls.getD k dL)) ++ [.int .i64 v]++List.drop (2+hr+1) (lkC (ls.getD k dL))))=(Ed ls k hr v).map MC:=by
 have e:List.take (2+hr) (lkC (ls.getD k dL)) ++ [I v]++List.drop (2+hr+1) (lkC (ls.getD k dL))=(lkC (ls.getD k dL)).set (2+hr) (I v):=by
  rw [List.set_eq_take_append_cons_drop,if_pos (by rw[BG];omega),List.append_assoc];rfl
 rw [e,rU h]
 unfold Ed
 rw [List.map_set]
theorem rW {a:Int} {y:List (List Int)} {k:Nat} (hk:k<y.length):((upY a y).take (k+1)).map ints=((upY a y).take k).map ints ++ [ints (upL a (y.getD k []))]:=by
 have h:(upY a y)[k]?=some (upL a (y.getD k [])):=by
  unfold upY
  rw [List.getElem?_map,List.getD_eq_getElem?_getD,List.getElem?_eq_getElem hk];rfl
 rw [List.take_add_one,h,List.map_append];rfl
theorem rX {a:Int} {l:List Int} {k:Nat} (hk:k<l.length):((upL a l).take (k+1)).map (PV.int .i64)=((upL a l).take k).map (PV.int .i64) ++ [I (l.getD k 0+a)]:=by
 have h:(upL a l)[k]?=some (l.getD k 0+a):=by
  unfold upL
  rw [List.getElem?_map,List.getD_eq_getElem?_getD,List.getElem?_eq_getElem hk];rfl
 rw [List.take_add_one,h,List.map_append];rfl
theorem rZ {W:List Nat} {ρ1 ρ:Nat→PV} {st:Store} {d M g z n:Nat} {es:List PV} {J:(Nat→PV)→Store→Prop} (hd:W.contains d=true) (hb:ρ d=.ref M g 0 n) (ho:st.obj M=some (.arr g z es)) (hn:n=es.length) (hp:AN es=true) (ha:Em W ρ1 ρ) (hJ:J (upd ρ d (.lits z es)) (st.seal [M])):∃s3,Ghost ⟨ρ,st⟩ s3∧Em W ρ1 s3.env∧J s3.env s3.st:=by
 subst hn
 refine ⟨_,.sealv _ d (.lits z es) [M] ?_ ?_,?_,hJ⟩
 ·show ρ d≠.bad
  rw [hb];intro h;cases h
 ·show rdP _ (ρ d)=_
  rw [hb]
  simp [rdP,rdC,Store.only,Store.arr?,ho,hp]
 ·rw [Ol hd];exact ha
theorem cR {st:Store} {l:List (List Int)}:(l.map ints).map (FK st)=l.map ints:=by simp[List.map_map,Function.comp_def,FK,sealC]
theorem sA {st:Store} {M g z:Nat} {es:List PV} (ho:st.obj M=some (.arr g z es)) (hp:AN es=true):FK (st.only [M]) (.ref M g 0 es.length)=.lits z es:=by
 simp [FK,sealC,rdC,Store.only,Store.arr?,ho,hp]
def Aaz:Prop:=∀(hn:Int) (ls:List Lnk) (us:List Snd) (d:Dem) (y:List (List Int)) (p:Nat) (q:Nat) (r:Nat) (h:p<65536∧q<65536∧r<65536) ,VC Try.prog 8 [.agg [I hn,Az ls,AB us,I d.1,I d.2.1,I d.2.2.1,I d.2.2.2.1,I d.2.2.2.2],DK y,.agg [.int .u16 p,.int .u16 q,.int .u16 r]] (B true)
theorem Aa0:Aaz:=by
 rintro hn ls us d y p q r ⟨hp,hq,hr16⟩
 refine A5 AP (l := [e_few,e_little,e_rpcheck,e_sanity,e_pbound,e_pleft]) ((Ae Aib (Ae rL (Ae cB (Ae rP (Ae Ni (Ae zT Ao))))))) [17,93] [82,159,100159]  Try.func8 rfl (by decide +kernel) (N:=178) rfl (by simp) rfl (by kernel_rfl) fun hs=>?_
 simp only[AI,PV.small,List.length_map,and_true,true_and]at hs
 by_cases g1:cC hn ls us d 12=true
 case neg=>simp +contextual (maxSteps:=4000000) only[↓bdD,bdP,Nat.reduceLT,Nat.reduceBEq,Ai,Nat.reduceEqDiff,Nat.reduceAdd,st0,↓reduceIte,e_few,TP,e_little,e_rpcheck,e_sanity,DX,e_pbound,e_pleft,Ac,Ab,Try.f8,ty3,Bk,g1]
 by_cases g2:Rc y=true
 case neg=>simp +contextual (maxSteps:=4000000) only[↓bdD,bdP,Nat.reduceLT,Nat.reduceBEq,Ai,Nat.reduceEqDiff,Nat.reduceAdd,st0,↓reduceIte,e_few,TP,e_little,Km,e_rpcheck,e_sanity,DX,e_pbound,e_pleft,Ac,Ab,BT,Try.f8,ty3,Bk,Bf,g1,g2]
 by_cases h1:CH hn ls us d=0
 case neg=>simp +contextual (maxSteps:=4000000) only[↓bdD,bdP,Nat.reduceLT,Nat.reduceBEq,Ai,Nat.reduceEqDiff,Nat.reduceAdd,st0,↓reduceIte,e_few,TP,e_little,Km,e_rpcheck,Ii,e_sanity,DX,e_pbound,e_pleft,Ac,Ab,BT,Try.f8,ty3,Bk,Bf,g1,g2,h1]
 by_cases e1:D4 hn ls us d y=0
 case neg=>simp +contextual (maxSteps:=4000000) only[↓bdD,bdP,Nat.reduceLT,Nat.reduceBEq,Ai,Nat.reduceEqDiff,Nat.reduceAdd,st0,↓reduceIte,e_few,TP,e_little,Km,e_rpcheck,Ii,e_sanity,DX,e_pbound,Ev,e_pleft,Ac,Ab,BT,Try.f8,ty3,Bk,Bf,g1,g2,h1,e1]
 obtain ⟨_,hA,hB,hC⟩:=Wz e1
 have hf:=(CC (pck_zero.1 h1).1).1
 obtain ⟨hf',hdm,hD,hdu⟩:=CC (pck_zero.1 h1).1
 obtain ⟨_,_,hr⟩:=B9 hdm
 have hr2:=hr.2.2.1
 have hr3:=hr.2.2.2.2
 have hr4:=hr.2.2.2.1
 have hyl:y.length=An d+1:=by have:=hA.1;omega
 have hrow:∀t,t<y.length→(y.getD t []).length=hn.toNat:=fun t ht=>by
  have : y.getD t []∈y:=by
   rw [List.getD_eq_getElem?_getD,List.getElem?_eq_getElem ht]
   exact List.getElem_mem _
  have := hA.2 _ this
  omega
 have hrng:∀t,t<y.length→∀x,x<(y.getD t []).length→0≤(y.getD t []).getD x 0∧(y.getD t []).getD x 0≤536870912:=fun t ht x hx=>by
  have n1:=hB t ht x (by rw[←hrow t ht];exact hx)
  have n3:pt y t x=(y.getD t []).getD x 0:=rfl
  rw [n3]at n1
  omega
 have hwp:IntKind.i64.wrap (p:Int)=p:=Ag (by omega) (by omega)
 obtain ⟨hrl,hyl2⟩:(∀i,i<y.length→(y.getD i []).length≤20)∧y.length≤40:=by
  unfold Rc at g2
  simp only[Bool.and_eq_true,decide_eq_true_eq]at g2
  exact g2
 simp +contextual (maxSteps:=4000000) only[↓bdD,bdP,Nat.reduceLT,Nat.reduceBEq,Nat.reduceEqDiff,Nat.reduceAdd,st0,↓reduceIte,e_few,TP,e_little,Km,e_rpcheck,Ii,e_sanity,e_pbound,Ev,e_pleft,Ac,Ab,BT,Try.f8,ty3,Bk,Bf,g1,g2,h1,e1]
 refine rR [6,9,11,12,14,48,49,50,51,52,53,54,55,56,57,58,59,60,61,62,63,64,65,66,67,68,69,70,71,72,73,74,75,76,77,78] y.length (fun k ρ st'=>ρ 48=I k∧(∃g,ρ 9=.ref 0 g 0 k∧st'.obj 0=some (.arr g 1 (((upY p y).take k).map ints)))∧1≤st'.next∧(∀t,t<k→∀x,x<(y.getD t []).length→(y.getD t []).getD x 0+(p:Int)≤536870912)) (.slot _ 9 1 ?_ ?_) ?_ ?_
 ·simp +contextual (maxSteps:=4000000) only[↓bdD,bdP,Nat.reduceBEq]
 ·decide
 ·simp +contextual (maxSteps:=4000000) only[↓bdD,bdP,Nat.reduceBEq,Store.new]
  exact ⟨⟨0,rfl,rfl⟩,fun t ht=>absurd ht (by omega)⟩
 rintro k ρ ⟨ob,M⟩ hk ⟨h48,⟨g,h9,o0⟩,hM,hup⟩
 dsimp only at o0 hM
 by_cases hlt:k<y.length
 ·have hwk:=Ag (n:=(k:Int)+1) (by omega) (by omega)
  have hyk:=CD hlt
  have hrk:=hrng k hlt
  have hRl:=hrl k hlt
  have hutk:=rW (a:=p) hlt
  generalize hR:y.getD k []=R at *
  simp +contextual (maxSteps:=4000000) only[↓bdD,bdP,Nat.reduceLT,Nat.reduceBEq,Nat.reduceAdd,↓reduceIte,Bf,AZ,h48,hlt,hyk]
  have z0:¬M=0:=by omega
  have z1:¬0=M:=by omega
  refine Ax [6,12,14,54,55,56,57,58,59,60,61,62,63,64,65,66,67,68,69,70,71,72,73] R.length (fun j ρ st'=>ρ 54=I j∧(∃g,ρ 12=.ref M g 0 j∧st'.obj M=some (.arr g 1 (((upL p R).take j).map (PV.int .i64))))∧st'.obj 0=ob 0∧M+1≤st'.next∧(∀x,x<j→R.getD x 0+(p:Int)≤536870912)) (.slot _ 12 1 ?_ ?_) ?_ ?_
  ·simp +contextual (maxSteps:=4000000) only[↓bdD,bdP,Nat.reduceBEq]
  ·decide
  ·simp +contextual (maxSteps:=4000000) only[↓bdD,bdP,Nat.reduceBEq,Store.new,z1]
   exact ⟨⟨0,rfl,rfl⟩,fun x hx=>absurd hx (by omega)⟩
  rintro j ρ2 ⟨ob2,M2⟩ hj ⟨h54,⟨g2',h12,o2⟩,o02,hM2,hup2⟩
  dsimp only at o2 o02 hM2
  rw [o0]at o02
  by_cases hjt:j<R.length
  ·have hwj:=Ag (n:=(j:Int)+1) (by omega) (by omega)
   have hx:=hrk j hjt
   have hutj:=rX (a:=p) hjt
   have hnx:nth (R.map (PV.int .i64)) j=I (R.getD j 0):=DQ 0 hjt
   have hlj:(upL (p:Int) R).length=R.length:=Re
   obtain ⟨es,hes,hel⟩:∃es,es=((upL (p:Int) R).take j).map (PV.int .i64)∧es.length=j:=⟨_,rfl,by simp;omega⟩
   rw [←hes]at o2 hutj
   have hte:List.take j es=es:=List.take_of_length_le (by omega)
   have nlj:¬j+1≤j:=by omega
   have j1:j≤2147483647:=by omega
   generalize hX:R.getD j 0=X at *
   have hwX:IntKind.i64.wrap (X+(p:Int))=X+p:=Ag (by omega) (by omega)
   by_cases hb:536870912<X+(p:Int)
   ·simp +contextual (maxSteps:=4000000) only[↓bdD,bdP,Nat.reduceLT,Nat.reduceBEq,Ai,Nat.reduceEqDiff,Nat.reduceAdd,Int.reduceLT,Int.reduceToNat,↓reduceIte,DX,Nat.mul_one,ty3,AZ,wG,wH,h54,hjt,hnx,hwp,hwX,hb]
    done
   simp +contextual (maxSteps:=4000000) only[↓bdD,bdP,Nat.reduceLT,Nat.reduceBEq,Nat.reduceAdd,Nat.reduceLeDiff,Int.reduceLT,Int.reduceToNat,Store.set,↓reduceIte,Nat.mul_one,ty3,AZ,wG,wH,h54,h12,o2,hjt,hnx,hwp,hwX,hb,hwj,hutj,hel,hte,nlj,j1]
   refine ⟨by omega,⟨_,rfl,rfl⟩,by rw[Aa,if_neg z1,o02,o0],hM2,fun x hx=>?_⟩
   by_cases e:x=j
   ·rw [e,hX];omega
   ·exact hup2 x (by omega)
  ·have e:j=R.length:=by omega
   subst e
   have hlk:(upY (p:Int) y).length=y.length:=Io
   have hlR:(upL (p:Int) R).length=R.length:=Re
   obtain ⟨es,hes,hel⟩:∃es,es=((upY (p:Int) y).take k).map ints∧es.length=k:=⟨_,rfl,by simp;omega⟩
   rw [←hes]at o02 hutk
   have hep:AN es=true:=by rw[hes];exact BT
   obtain ⟨rs,hrs,hrl2⟩:∃rs,rs=(upL (p:Int) R).map (PV.int .i64)∧rs.length=R.length:=⟨_,rfl,by simp;omega⟩
   rw [List.take_of_length_le (by omega),←hrs]at o2
   have hte:List.take k es=es:=List.take_of_length_le (by omega)
   have nlk:¬k+1≤k:=by omega
   have k1:k≤2147483647:=by omega
   simp +contextual (maxSteps:=4000000) only[↓bdD,bdP,Nat.reduceLT,Nat.reduceBEq,Nat.reduceAdd,Nat.reduceLeDiff,Store.set,↓reduceIte,Nat.mul_one,Bf,AZ,h48,h9,h54,h12,o02,hjt,hwk,hel,hte,nlk,k1]
   have oM:Aa ob2 0 (some (IObj.arr (g+1) 1 (es ++ [PV.ref M g2' 0 R.length]))) M=some (.arr g2' 1 rs):=by rw[Aa,if_neg z0,o2]
   have hsr:=sA (st:=⟨Aa ob2 0 (some (IObj.arr (g+1) 1 (es ++ [PV.ref M g2' 0 R.length]))),M2⟩) oM (by rw[hrs];exact EZ)
   rw [hrl2]at hsr
   refine rZ (st:=⟨Aa ob2 0 (some (IObj.arr (g+1) 1 (es ++ [PV.ref M g2' 0 R.length]))),M2⟩) (J:=fun ρ st'=>ρ 48=I ((k+1:Nat):Int)∧(∃g,ρ 9=.ref 0 g 0 (k+1)∧st'.obj 0=some (.arr g 1 (((upY p y).take (k+1)).map ints)))∧1≤st'.next∧(∀t,t<k+1→∀x,x<(y.getD t []).length→(y.getD t []).getD x 0+(p:Int)≤536870912)) (d:=12) (M:=M) (g:=g2') (z:=1) (n:=R.length) (es:=rs) ?_ ?_ oM hrl2.symm (by rw[hrs];exact EZ) ?_ ?_
   ·decide
   ·simp +contextual (maxSteps:=4000000) only[↓bdD,bdP,Nat.reduceBEq,h12]
   ·simp +contextual (maxSteps:=4000000) only[↓bdD,bdP,Nat.reduceBEq]
    rw [AF (by decide +kernel)]
    simp +contextual (maxSteps:=4000000) only[↓bdD,bdP,Nat.reduceBEq]
   ·simp +contextual (maxSteps:=4000000) only[↓bdD,bdP,Nat.reduceBEq]
    refine ⟨by omega,⟨_,rfl,?_⟩,by show 1≤M2;omega,fun t ht=>?_⟩
    ·rw [if_neg z1,hutk,List.map_append,List.map_cons,List.map_nil,hsr,show es.map (FK _)=es by rw[hes];exact cR,hrs]
    ·by_cases e:t=k
     ·rw [e,hR];exact hup2
     ·exact hup t (by omega)
 have e:k=y.length:=by omega
 subst e
 rw [List.take_of_length_le (by rw[Io];omega)]at o0
 obtain ⟨f1,f2⟩:=rT (a:=(p:Int)) e1 (by omega) hup
 have sb:=Ev (hn:=hn) (ls:=ls) (us:=us) (d:=d) (y:=upY p y)
 rw [f1,f2]at sb
 have hyy:(upY (p:Int) y).length=y.length:=Io
 dsimp only[Az,AB,DK]at sb
 have htY:List.take y.length ((upY (p:Int) y).map ints)=(upY (p:Int) y).map ints:=List.take_of_length_le (by rw[List.length_map];omega)
 have hpY:AN ((upY (p:Int) y).map ints)=true:=BT
 generalize hm:GC hn ls us d y=m at *
 have m12:¬M=M+1:=by omega
 have m13:¬M+1=M:=by omega
 have hll:ls.length≤8:=by
  unfold cC at g1
  simp only[Bool.and_eq_true,decide_eq_true_eq]at g1
  exact g1.2.1
 have hl3:ls.length≤2147483648:=by omega
 by_cases z1:ls.length=0
 ·have z1i:(ls.length:Int)=0:=by omega
  simp +contextual (maxSteps:=4000000) only[↓bdD,bdP,Nat.reduceLT,Nat.reduceBEq,Ai,Nat.reduceEqDiff,Nat.reduceAdd,Nat.reduceMul,Nat.reduceLeDiff,reduceCtorEq,Store.new,Store.set,↓reduceIte,DX,Ac,Ab,By,Aw,Bk,Bf,B6,h48,h9,o0,hlt,sb,z1,htY,hpY,hyy,m12,m13]
 have z1i:¬(ls.length:Int)=0:=by omega
 have z1l:¬ls.length≤0:=by omega
 by_cases z2:d.2.2.2.2=d.2.2.2.1
 ·have z2:=eq_true z2
  simp +contextual (maxSteps:=4000000) only[↓bdD,bdP,Nat.reduceLT,Nat.reduceBEq,Ai,Nat.reduceEqDiff,Nat.reduceAdd,Nat.reduceMul,Nat.reduceLeDiff,reduceCtorEq,Store.new,Store.set,↓reduceIte,DX,Ac,Ab,ty3,By,Aw,AX,Bk,Bf,B6,h48,h9,o0,hlt,sb,z1i,z1l,z2,htY,hpY,hyy,m12,m13,hl3]
 have wq:IntKind.i64.wrap (q:Int)=q:=Ag (by omega) (by omega)
 have wr:IntKind.i64.wrap (r:Int)=r:=Ag (by omega) (by omega)
 have wD:IntKind.i64.wrap (d.2.2.2.2-d.2.2.2.1)=d.2.2.2.2-d.2.2.2.1:=Ag (by omega) (by omega)
 have nD:¬d.2.2.2.2-d.2.2.2.1=0:=by omega
 have tq:Int.tmod (q:Int) (ls.length:Int)=((q % ls.length:Nat):Int):=by rw[Int.tmod_eq_emod_of_nonneg (by omega)];rfl
 have hk:q % ls.length<ls.length:=Nat.mod_lt _ (by omega)
 generalize q % ls.length=k at *
 have tr:Int.tmod (r:Int) (d.2.2.2.2-d.2.2.2.1)=(r:Int) % (d.2.2.2.2-d.2.2.2.1):=Int.tmod_eq_emod_of_nonneg (by omega)
 have t1:=Int.emod_nonneg (r:Int) (b:=d.2.2.2.2-d.2.2.2.1) (by omega)
 have t2:=Int.emod_lt_of_pos (r:Int) (b:=d.2.2.2.2-d.2.2.2.1) (by omega)
 generalize (r:Int) % (d.2.2.2.2-d.2.2.2.1)=m2 at *
 obtain ⟨tk,htk⟩:∃tk:Nat,(tk:Int)=d.2.2.2.1+m2:=⟨(d.2.2.2.1+m2).toNat,by omega⟩
 have wt:IntKind.i64.wrap (d.2.2.2.1+m2)=(tk:Int):=by rw[←htk];exact Ag (by omega) (by omega)
 have h24:Int.tmod (tk:Int) 24=((tk % 24:Nat):Int):=by rw[Int.tmod_eq_emod_of_nonneg (by omega)];rfl
 have hh:tk % 24<24:=Nat.mod_lt _ (by omega)
 have hlf:=Q2 hf (k:=k) (t:=(tk:Int)) hk
 have hcap:=Ej (B8 hf).1.net (link:=(k:Int)) (tick:=(tk:Int)) (by omega) (by omega)
 have hcA:Cp ls (k:Int) (tk:Int)=CL (ls.getD k dL) (tk % 24):=by unfold Cp;rw[Int.toNat_natCast,Int.toNat_natCast]
 rw [hcA]at hcap
 generalize hlv:lfM ls us (k:Int) (tk:Int)=lf at *
 have hq2:Int.tdiv lf 2=lf / 2:=Int.tdiv_eq_ediv_of_nonneg (by omega)
 have w2:IntKind.i64.wrap (lf / 2)=lf / 2:=Ag (by omega) (by omega)
 have hget:=Cu (a:=ls.getD k dL) hh
 have wc:IntKind.i64.wrap (CL (ls.getD k dL) (tk % 24)-lf / 2)=CL (ls.getD k dL) (tk % 24)-lf / 2:=Ag (by omega) (by omega)
 have hset:=rV (ls:=ls) (k:=k) (v:=CL (ls.getD k dL) (tk % 24)-lf / 2) hh
 have hcl:(Ed ls k (tk % 24) (CL (ls.getD k dL) (tk % 24)-lf / 2)).length=ls.length:=Uq
 have hless:∀g3,_:=fun g3=>Aay (v:=CL (ls.getD k dL) (tk % 24)-lf / 2) (hr:=tk % 24) e1 hk (fun i hi=>by unfold CL;rw[dif_pos hh];have:i=⟨tk % 24,hh⟩:=Fin.ext hi;rw[this];omega) g3
 obtain ⟨v,hv⟩:∃v,CL (ls.getD k dL) (tk % 24)-lf / 2=v:=⟨_,rfl⟩
 rw [hv]at hset hcl hless
 have wc:=wc.trans hv
 have sl:=QX (hn:=hn) (ls:=ls) (us:=us) (d:=d) (link:=(k:Int)) (tick:=(tk:Int))
 have hki:(k:Int)<(ls.length:Int):=by omega
 have hk0:(0:Int)≤(k:Int):=by omega
 have htk0:(0:Int)≤(tk:Int):=by omega
 have hnl:=Br hk
 have sc:=Ii (hn:=hn) (ls:=Ed ls k (tk % 24) v) (us:=us) (d:=d)
 have sd:=Ev (hn:=hn) (ls:=Ed ls k (tk % 24) v) (us:=us) (d:=d) (y:=y)
 have h24i:((tk % 24:Nat):Int)<24:=by omega
 have h49:2+tk % 24≤49:=by omega
 have htl2:List.take ls.length ((Ed ls k (tk % 24) v).map MC)=(Ed ls k (tk % 24) v).map MC:=List.take_of_length_le (by rw[List.length_map,hcl];exact Nat.le_refl _)
 generalize hL2:Ed ls k (tk % 24) v=ls2 at *
 by_cases p1:CH hn ls2 us d=0
 case neg =>
  simp +contextual (maxSteps:=4000000) only[↓bdD,bdP,Nat.reduceLT,Nat.reduceBEq,Ai,Nat.reduceEqDiff,Nat.reduceAdd,Nat.reduceMul,Nat.reduceLeDiff,reduceCtorEq,Int.reduceEq,Int.reduceLT,Int.reduceLE,Int.reduceToNat,Store.new,Store.set,↓reduceIte,DX,QX,Ac,Ab,Nat.mul_one,ty3,By,Aw,AX,Bk,Bf,wG,wH,GT,B6,h48,h9,o0,hlt,sb,z1i,z1l,z2,htY,hpY,hyy,m12,m13,hl3,wq,wr,wD,nD,tq,tr,wt,h24,hf,hk,hki,hk0,htk0,hq2,w2,hget,wc,hset,hnl,sc,hlv,h24i,h49,htl2,hcl,p1]
 obtain ⟨q1,q2⟩:=hless p1
 rw [q1]at sd
 rw [hm]at q2
 simp +contextual (maxSteps:=4000000) only[↓bdD,bdP,Nat.reduceLT,Nat.reduceBEq,Ai,Nat.reduceEqDiff,Nat.reduceAdd,Nat.reduceMul,Nat.reduceLeDiff,reduceCtorEq,Int.reduceEq,Int.reduceLT,Int.reduceLE,Int.reduceToNat,Store.new,Store.set,↓reduceIte,DX,QX,Ac,Ab,Nat.mul_one,BT,ty3,By,Aw,AX,Bk,Bf,wG,wH,GT,B6,h48,h9,o0,hlt,sb,z1i,z1l,z2,htY,hpY,hyy,m12,m13,hl3,wq,wr,wD,nD,tq,tr,wt,h24,hf,hk,hki,hk0,htk0,hq2,w2,hget,wc,hset,hnl,sc,sd,hlv,h24i,h49,htl2,hcl,p1,q2]
end Sim
