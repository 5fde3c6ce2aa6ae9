/- What functions of this seat compute, by values: contracts (lemmas of the statement's proof, under the conditions that each names). -/
import Derived.Test.YtdfjimjbdakofaaGreatQUE
import Derived.Test.YtdfjimjbdakofaaGreatQT
import Derived.Test.YtdfjimjbdakofaaGreatQN8
set_option maxRecDepth 10000
set_option maxHeartbeats 4000000
set_option linter.unusedVariables false
set_option linter.unusedSimpArgs false
namespace Sim
open Go Go.Proofs
attribute [local congr] Ai Aj Af At Am Al Aq
noncomputable def JN (hn:Int) (ls:List Lnk) (us:List Snd) (ts:List Trp) (d:Dem):Int×List Snd×List Int:=Ch hn ls us ts d (2 ^ ts.length)
noncomputable def To (hn:Int) (ls:List Lnk) (us:List Snd) (ts:List Trp) (d:Dem):Int:=if Ee hn ls us ts d≠0 then Ee hn ls us ts d else if (JN hn ls us ts d).1<0 then 21 else 0
noncomputable def HW (hn:Int) (ls:List Lnk) (us:List Snd) (ts:List Trp) (d:Dem):List Snd:=if Ee hn ls us ts d≠0 then []else (JN hn ls us ts d).2.1
noncomputable def HX (hn:Int) (ls:List Lnk) (us:List Snd) (ts:List Trp) (d:Dem):List Int:=if Ee hn ls us ts d≠0 then []else (JN hn ls us ts d).2.2
noncomputable def HY:Int×List Lnk×List Snd×List Trp×Dem→List PV:=fun (hn,ls,us,ts,d) => [.agg [I hn,AQ ls,Ay us,CK ts,I d.1,I d.2.1,I d.2.2.1,I d.2.2.2.1,I d.2.2.2.2]]
noncomputable def NU:Int×List Lnk×List Snd×List Trp×Dem→PV:=fun (hn,ls,us,ts,d)=>.tuple [.agg [Ay (HW hn ls us ts d),ints (HX hn ls us ts d)],I (To hn ls us ts d)]
noncomputable def e_vplan:Nat×Ent:=(8,.v (Ap HY NU AY))
theorem Aek:∀i j,HY i=HY j→i=j:=by
 rintro ⟨_,_,_,_,_⟩ ⟨_,_,_,_,_⟩ h
 simp only[HY,List.cons.injEq,and_true,PV.lits.injEq,PV.int.injEq,PV.agg.injEq,true_and,AF,AD,Ck]at h
 simp [Prod.ext_iff,h] <;> omega
theorem Z0 (hn:Int) (ls:List Lnk) (us:List Snd) (ts:List Trp) (d:Dem):Ap HY NU AY [.agg [I hn,AQ ls,Ay us,CK ts,I d.1,I d.2.1,I d.2.2.1,I d.2.2.2.1,I d.2.2.2.2]]=some (.tuple [.agg [Ay (HW hn ls us ts d),ints (HX hn ls us ts d)],I (To hn ls us ts d)]):=AC Aek (i:=(hn,ls,us,ts,d)) trivial
def Ael:Prop:=∀(hn:Int) (ls:List Lnk) (us:List Snd) (ts:List Trp) (d:Dem) ,VC Tryz.prog 8 (HY (hn,ls,us,ts,d)) (NU (hn,ls,us,ts,d))
theorem Aem:Ael:=by
 intro hn ls us ts d
 dsimp only[HY,NU]
 refine Bc AP (l := [e_vcheck,e_best1]) ((Ad Pn (Ad Aej Au))) [2] []  Tryz.func8 rfl (by decide +kernel) (N:=15) rfl (by simp) rfl (by kernel_rfl) fun hs=>?_
 simp only[AK,PV.small,List.length_map,and_true,true_and]at hs
 unfold HW HX To JN
 by_cases h:Ee hn ls us ts d=0
 case neg =>
  rw [if_pos h,if_pos h,if_pos h]
  simp only[↓bdD,bdP,seval,Ao,st0,Store.new,Store.set,e_vcheck,ET,e_best1,Ac,Aa,AB,Tryz.f8,Be,B3,h]
 rw [if_neg (fun g=>g h),if_neg (fun g=>g h),if_neg (fun g=>g h)]
 have sb:=Aeg (hn:=hn) (ls:=ls) (us:=us) (ts:=ts) (d:=d)
 rw [if_pos h]at sb
 generalize Ch hn ls us ts d (2 ^ ts.length)=B at *
 generalize (if B.1<0 then (21:Int)else 0)=e at *
 simp only[↓bdD,bdP,seval,Ao,st0,Store.new,Store.set,e_vcheck,ET,e_best1,Ac,Aa,AB,Tryz.f8,Be,B3,Alt,h,sb]
theorem Aen:AM Tryz.prog e_vplan.1 e_vplan.2:=Ax fun⟨hn,ls,us,ts,d⟩ h=>Aem hn ls us ts d
end Sim
namespace Sim
open Go Go.Proofs
abbrev Prf:=List (List Int)×List Int
abbrev dP:Prf:=([],[])
abbrev VY (p:Prf):PV:=.agg [E4 p.1,ints p.2]
abbrev MT (l:List Prf):PV:=.lits 2 (l.map VY)
theorem VZ {l:List Prf} {k:Nat} (h:k<l.length):nth (l.map VY) k=.agg [E4 (l.getD k dP).1,ints (l.getD k dP).2]:=B9 dP h
theorem Hb {l:List Prf}:AT (l.map VY)=true:=Gm fun x=>by simp only[Hp,CO,K4,Du,GO,Em,Bool.and_self]
theorem V0 {l m:List Prf}:(l.map VY=m.map VY)=(l=m):=Gn fun x y h=>by
 simp only[PV.agg.injEq,List.cons.injEq,true_and,and_true,PV.lits.injEq,ints,Lz,B1]at h
 exact Prod.ext h.1 h.2
def Aeo (ls:List Lnk) (us:List Snd) (ts:List Trp) (d:Dem):Bool :=
 decide (ls.length≤12)&&(decide (us.length≤30)&&(decide (ts.length≤6)&&(decide (0≤d.2.2.2.1)&&(decide (d.2.2.2.1≤1000000)&&(decide (d.2.2.2.2≤d.2.2.2.1+12)&&decide (d.2.2.1≤200))))))
def Tp (p:Prf):Bool:=decide (p.1.length≤20)&&(decide (p.2.length≤20)&&decide (∀i,i<p.1.length→(p.1.getD i []).length≤20))
def jK (l:List Snd) (o arr:List Int) (p:List Prf):Bool :=
 decide (l.length≤60)&&(decide (o.length≤8)&&(decide (arr.length≤8)&&(decide (p.length≤20)&&decide (∀k,k<p.length→Tp (p.getD k dP)=true))))
end Sim
namespace Sim
open Go Go.Proofs
attribute [local congr] Ai Aj Af At Am Al Aq
noncomputable def KI:Int×List Lnk×List Snd×List Trp×Dem→List PV:=fun (hn,ls,us,ts,d) => [.agg [I hn,AQ ls,Ay us,CK ts,I d.1,I d.2.1,I d.2.2.1,I d.2.2.2.1,I d.2.2.2.2]]
noncomputable def Tq:Int×List Lnk×List Snd×List Trp×Dem→PV:=fun (hn,ls,us,ts,d)=>B (Aeo ls us ts d)
noncomputable def e_vfew:Nat×Ent:=(6,.v (Ap KI Tq AY))
theorem Ake:∀i j,KI i=KI j→i=j:=by
 rintro ⟨_,_,_,_,_⟩ ⟨_,_,_,_,_⟩ h
 simp only[KI,List.cons.injEq,and_true,PV.lits.injEq,PV.int.injEq,PV.agg.injEq,true_and,AF,AD,Ck]at h
 simp [Prod.ext_iff,h] <;> omega
theorem MU (hn:Int) (ls:List Lnk) (us:List Snd) (ts:List Trp) (d:Dem):Ap KI Tq AY [.agg [I hn,AQ ls,Ay us,CK ts,I d.1,I d.2.1,I d.2.2.1,I d.2.2.2.1,I d.2.2.2.2]]=some (B (Aeo ls us ts d)):=AC Ake (i:=(hn,ls,us,ts,d)) trivial
def Akf:Prop:=∀(hn:Int) (ls:List Lnk) (us:List Snd) (ts:List Trp) (d:Dem) ,VC Tryz.prog 6 (KI (hn,ls,us,ts,d)) (Tq (hn,ls,us,ts,d))
theorem Akg:Akf:=by
 intro hn ls us ts d
 dsimp only[KI,Tq]
 refine Bc AP (l := []) (Au) [] []  Tryz.func6 rfl (by decide +kernel) (N:=46) rfl (by simp) rfl (by kernel_rfl) fun hs=>?_
 simp only[AK,PV.small,List.length_map,and_true,true_and]at hs
 unfold Aeo
 by_cases h1:ls.length≤12
 case neg =>
  have h1i:¬(ls.length:Int)≤12:=by omega
  simp only[↓bdD,bdP,seval,Ao,st0,Store.new,Store.set,Tryz.f6,BP,AI,AX,Be,h1,h1i]
  exact (Bool.false_and _).symm
 have h1i:(ls.length:Int)≤12:=by omega
 by_cases h2:us.length≤30
 case neg =>
  have h2i:¬(us.length:Int)≤30:=by omega
  simp only[↓bdD,bdP,seval,Ao,st0,Store.new,Store.set,Tryz.f6,BP,AI,AN,AX,Be,h1,h1i,h2,h2i]
  exact (Bool.false_and _).symm
 have h2i:(us.length:Int)≤30:=by omega
 by_cases h3:ts.length≤6
 case neg =>
  have h3i:¬(ts.length:Int)≤6:=by omega
  simp only[↓bdD,bdP,seval,Ao,st0,Store.new,Store.set,Tryz.f6,BP,AI,AN,BR,AX,Be,h1,h1i,h2,h2i,h3,h3i]
  exact (Bool.false_and _).symm
 have h3i:(ts.length:Int)≤6:=by omega
 by_cases h4:0≤d.2.2.2.1
 case neg =>
  simp only[↓bdD,bdP,seval,Ao,st0,Store.new,Store.set,Tryz.f6,ty3,BP,AI,AN,BR,AX,Be,h1,h1i,h2,h2i,h3,h3i,h4]
  exact (Bool.false_and _).symm
 by_cases h5:d.2.2.2.1≤1000000
 case neg =>
  simp only[↓bdD,bdP,seval,Ao,st0,Store.new,Store.set,Tryz.f6,ty3,BP,AI,AN,BR,AX,Be,h1,h1i,h2,h2i,h3,h3i,h4,h5]
  exact (Bool.false_and _).symm
 have w:IntKind.i64.wrap (d.2.2.2.1+12)=d.2.2.2.1+12:=Ah (by omega) (by omega)
 by_cases h6:d.2.2.2.2≤d.2.2.2.1+12
 case neg =>
  simp only[↓bdD,bdP,seval,Ao,st0,Store.new,Store.set,Tryz.f6,ty3,BP,AI,AN,BR,AX,Be,h1,h1i,h2,h2i,h3,h3i,h4,h5,w,h6]
  exact (Bool.false_and _).symm
 simp only[↓bdD,bdP,seval,Ao,st0,Store.new,Store.set,Tryz.f6,ty3,BP,AI,AN,BR,AX,Be,h1,h1i,h2,h2i,h3,h3i,h4,h5,w,h6]
 done
theorem Akh:AM Tryz.prog e_vfew.1 e_vfew.2:=Ax fun⟨hn,ls,us,ts,d⟩ h=>Akg hn ls us ts d
noncomputable def HZ:List Snd×List Int×List Int×List Prf→List PV:=fun (l,o,arr,p) => [.agg [Ay l,ints o],ints arr,MT p]
noncomputable def NV:List Snd×List Int×List Int×List Prf→PV:=fun (l,o,arr,p)=>B (jK l o arr p)
noncomputable def e_short:Nat×Ent:=(12,.v (Ap HZ NV AY))
theorem Aep:∀i j,HZ i=HZ j→i=j:=by
 rintro ⟨_,_,_,_⟩ ⟨_,_,_,_⟩ h
 simp only[HZ,List.cons.injEq,and_true,PV.lits.injEq,PV.agg.injEq,true_and,B1,AF,V0]at h
 simp [h] <;> omega
theorem Z1 (l:List Snd) (o:List Int) (arr:List Int) (p:List Prf):Ap HZ NV AY [.agg [Ay l,ints o],ints arr,MT p]=some (B (jK l o arr p)):=AC Aep (i:=(l,o,arr,p)) trivial
def Aeq:Prop:=∀(l:List Snd) (o:List Int) (arr:List Int) (p:List Prf) ,VC Tryz.prog 12 (HZ (l,o,arr,p)) (NV (l,o,arr,p))
theorem Aer:Aeq:=by
 intro l o arr p
 dsimp only[HZ,NV]
 refine Bc AP (l := []) (Au) [] []  Tryz.func12 rfl (by decide +kernel) (N:=71) rfl (by simp) rfl (by kernel_rfl) fun hs=>?_
 simp only[AK,PV.small,List.length_map,and_true]at hs
 obtain ⟨R,hR⟩:∃R,jK l o arr p=R:=⟨_,rfl⟩
 rw [hR]
 unfold jK at hR
 by_cases h1:l.length≤60
 case neg =>
  rw [decide_eq_false h1,Bool.false_and]at hR
  subst hR
  have h1i:(60:Int)<(l.length:Int):=by omega
  simp only[↓bdD,bdP,seval,Ao,st0,Tryz.f12,AN,B3,h1i]
 have h1i:¬(60:Int)<(l.length:Int):=by omega
 rw [decide_eq_true h1,Bool.true_and]at hR
 by_cases h2:o.length≤8
 case neg =>
  rw [decide_eq_false h2,Bool.false_and]at hR
  subst hR
  have h2i:(8:Int)<(o.length:Int):=by omega
  simp only[↓bdD,bdP,seval,Ao,st0,Tryz.f12,AN,AS,B3,h1i,h2i]
 have h2i:¬(8:Int)<(o.length:Int):=by omega
 rw [decide_eq_true h2,Bool.true_and]at hR
 by_cases h3:arr.length≤8
 case neg =>
  rw [decide_eq_false h3,Bool.false_and]at hR
  subst hR
  have h3i:(8:Int)<(arr.length:Int):=by omega
  simp only[↓bdD,bdP,seval,Ao,st0,Tryz.f12,AN,AS,B3,h1i,h2i,h3i]
 have h3i:¬(8:Int)<(arr.length:Int):=by omega
 rw [decide_eq_true h3,Bool.true_and]at hR
 by_cases h4:p.length≤20
 case neg =>
  rw [decide_eq_false h4,Bool.false_and]at hR
  subst hR
  have h4i:(20:Int)<(p.length:Int):=by omega
  simp only[↓bdD,bdP,seval,Ao,st0,Tryz.f12,AN,AS,B3,Fl,h1i,h2i,h3i,h4i]
 have h4i:¬(20:Int)<(p.length:Int):=by omega
 rw [decide_eq_true h4,Bool.true_and]at hR
 simp only[↓bdD,bdP,seval,st0,Tryz.f12,AN,AS,B3,Fl,h1i,h2i,h3i,h4i]
 refine Aw [6,7,8,29,30,31,32,33,34,35,36,37,38,39,40,41,42,43,44,45,46,47,48,49,50,51,52,53,54,55,56,57,58,59,60,61,62,63,64,65,66,67,68,69,70] p.length (fun k ρ st'=>ρ 7=I k∧∀i,i<k→Tp (p.getD i dP)=true) (.refl _) ?_ ?_
 ·simp only[↓bdD,bdP]
  exact fun i hi=>absurd hi (by omega)
 rintro k ρ ⟨ob,M⟩ hk ⟨h7,hI⟩
 by_cases hlt:k<p.length
 ·have hwk:IntKind.i64.wrap ((k:Int)+1)=((k+1:Nat):Int):=by rw[Ah (by omega) (by omega)];omega
  have hli:(k:Int)<(p.length:Int):=by omega
  have hyk:=VZ hlt
  have bad:Tp (p.getD k dP)≠true→R=false:=fun g=>by
   rw [decide_eq_false (fun f=>g (f k hlt))]at hR
   exact hR.symm
  have hI2:Tp (p.getD k dP)=true→∀i,i<k+1→Tp (p.getD i dP)=true:=fun g i hi=>by
   by_cases e:i=k
   ·subst e;exact g
   ·exact hI i (by omega)
  generalize p.getD k dP=x at *
  by_cases b1:x.1.length≤20
  case neg =>
   have e:=bad (by unfold Tp;rw[decide_eq_false b1,Bool.false_and];decide)
   subst e
   have b1i:(20:Int)<(x.1.length:Int):=by omega
   simp only[↓bdD,bdP,seval,Ao,Fl,BL,K8,h7,hlt,hli,hyk,b1i]
  have b1i:¬(20:Int)<(x.1.length:Int):=by omega
  by_cases b2:x.2.length≤20
  case neg =>
   have e:=bad (by unfold Tp;rw[decide_eq_false b2,Bool.false_and,Bool.and_false];decide)
   subst e
   have b2i:(20:Int)<(x.2.length:Int):=by omega
   simp only[↓bdD,bdP,seval,Ao,AS,Fl,BL,K8,h7,hli,hyk,b1i,b2i]
  have b2i:¬(20:Int)<(x.2.length:Int):=by omega
  simp only[↓bdD,bdP,seval,AS,Fl,BL,K8,h7,hlt,hli,hyk,b1i,b2i]
  refine Aw [6,8,51,52,53,54,55,56,57,58,59,60,61,62,63,64,65,66,67,68,69,70] x.1.length (fun j ρ st'=>ρ 8=I j∧∀i,i<j→(x.1.getD i []).length≤20) (.refl _) ?_ ?_
  ·simp only[↓bdD,bdP]
   exact fun i hi=>absurd hi (by omega)
  rintro j ρ2 ⟨ob2,M2⟩ hj ⟨h8,hJ⟩
  by_cases hjt:j<x.1.length
  ·have hwj:IntKind.i64.wrap ((j:Int)+1)=((j+1:Nat):Int):=by rw[Ah (by omega) (by omega)];omega
   have hji:(j:Int)<(x.1.length:Int):=by omega
   have hyj:=CW hjt
   by_cases b3:(x.1.getD j []).length≤20
   ·have b3i:¬(20:Int)<((x.1.getD j []).length:Int):=by omega
    have hJ2:∀i,i<j+1→(x.1.getD i []).length≤20:=fun i hi=>by
     by_cases e:i=j
     ·subst e;exact b3
     ·exact hJ i (by omega)
    generalize x.1.getD j []=r at *
    simp only[↓bdD,bdP,seval,AS,Fl,BL,K8,h7,h8,hli,hyk,hjt,hji,hyj,b3i,hwj]
    exact hJ2
   ·have e:=bad (by unfold Tp;rw[decide_eq_false (p:=∀i,i<x.1.length→(x.1.getD i []).length≤20) (fun g=>b3 (g j hjt)),Bool.and_false,Bool.and_false];decide)
    subst e
    have b3i:(20:Int)<((x.1.getD j []).length:Int):=by omega
    generalize x.1.getD j []=r at *
    simp only[↓bdD,bdP,seval,Ao,AS,Fl,BL,K8,h7,h8,hli,hyk,hji,hyj,b3i]
  ·have e:j=x.1.length:=by omega
   subst e
   have hji:¬(x.1.length:Int)<(x.1.length:Int):=by omega
   have hok:=hI2 (by unfold Tp;rw[decide_eq_true b1,decide_eq_true b2,decide_eq_true (p:=∀i,i<x.1.length→_) hJ];rfl)
   simp only[↓bdD,bdP,seval,Fl,BL,K8,h7,h8,hli,hyk,hji,hwk]
   refine ⟨?_,hok⟩
   rw [AL (by decide +kernel)]
   simp only[↓bdD,bdP,Nat.reduceBEq]
 ·have e:k=p.length:=by omega
  subst e
  have hli:¬(p.length:Int)<(p.length:Int):=by omega
  rw [decide_eq_true (p:=∀k,k<p.length→_) hI]at hR
  subst hR
  simp only[↓bdD,bdP,seval,Ao,Fl,h7,hli]
theorem Aes:AM Tryz.prog e_short.1 e_short.2:=Ax fun⟨l,o,arr,p⟩ h=>Aer l o arr p
def F8 (ts:List Trp) (s:Nat):Nat→Int
 | 0=>0
 | k+1=>F8 ts s k+(if s.testBit k=true then 1 else 0)*(ts.getD k dT).2.2.2.2.2.2
theorem LR {ts:List Trp} {s:Nat} (h:Yw ts):∀k,k≤ts.length→0≤F8 ts s k∧F8 ts s k≤1000000*(k:Int)
 | 0,_=>by simp[F8]
 | k+1,hk=>by
  have ih:=LR (s:=s) h k (by omega)
  have := h.2 k (by omega)
  simp only[F8]
  split
  ·rw [Int.one_mul];omega
  ·rw [Int.zero_mul];omega
def okP (hn:Int) (ls:List Lnk) (us:List Snd) (ts:List Trp) (d:Dem) (c:Int) (s:Nat) (x:Prf):Prop :=
 if 0<x.2.length then KB (wHn hn ts) (wLs hn ls ts d s) (wUs ls us ts d s) d x.2=0∧MO (wHn hn ts) (wLs hn ls ts d s) (wUs ls us ts d s) d x.2<d.2.2.1
 else HL (wHn hn ts) (wLs hn ls ts d s) (wUs ls us ts d s) d x.1=0∧c≤HM (wHn hn ts) (wLs hn ls ts d s) (wUs ls us ts d s) d x.1+F8 ts s ts.length
def Tr (hn:Int) (ls:List Lnk) (us:List Snd) (ts:List Trp) (d:Dem) (l:List Snd) (o:List Int) (p:List Prf):Prop :=
 F3 hn ls us ts d l o=0∧p.length=2 ^ ts.length∧∀s,s<p.length→okP hn ls us ts d (Et hn ls us ts d l o) s (p.getD s dP)
section
variable {hn:Int} {ls:List Lnk} {us:List Snd}
theorem Gw {ts:List Trp} {d:Dem} {l:List Snd} {o:List Int} (h:F3 hn ls us ts d l o=0):SchOK hn ls us ts d l o:=by
 unfold F3 at h
 split at h
 ·rename_i g;exact absurd h g
 ·rename_i g;exact sch_zero.1 (Classical.not_not.1 g)
theorem Aet {d:Dem} {y:List (List Int)} (h:HL hn ls us d y=0) : -4611686018427387904≤HM hn ls us d y∧HM hn ls us d y≤4611686018427387904:=by
 obtain ⟨h1,hA,hB,hC⟩:=YF h
 obtain ⟨hfk,hb4⟩:=pck_zero.1 h1
 obtain ⟨hf,hdm,hD,hdu⟩:=BK hfk
 obtain ⟨⟨a0,a1⟩,⟨c0,c1⟩,hr⟩:=BZ hdm
 obtain ⟨r0,r1,r2,r3,r4⟩:=hr
 unfold HM
 rw [if_neg (fun g=>g h)]
 have hyl:y.length=As d+1:=by have:=hA.1;omega
 have := LN hf hB ⟨by omega,hb4⟩ r2 hD hyl ⟨a0,a1⟩ ⟨c0,c1⟩ (n:=As d*ls.length) (Nat.le_refl _)
 omega
end
noncomputable instance (hn:Int) (ls:List Lnk) (us:List Snd) (ts:List Trp) (d:Dem) (l:List Snd) (o:List Int) (p:List Prf):Decidable (Tr hn ls us ts d l o p):=Classical.propDecidable _
noncomputable def Ew:Int×List Lnk×List Snd×List Trp×Dem×List Snd×List Int×List Prf→List PV:=fun (hn,ls,us,ts,d,l,o,p) => [.agg [I hn,AQ ls,Ay us,CK ts,I d.1,I d.2.1,I d.2.2.1,I d.2.2.2.1,I d.2.2.2.2],.agg [Ay l,ints o],MT p]
noncomputable def Jy:Int×List Lnk×List Snd×List Trp×Dem×List Snd×List Int×List Prf→PV:=fun (hn,ls,us,ts,d,l,o,p)=>B (decide (Tr hn ls us ts d l o p))
noncomputable def e_vaccept:Nat×Ent:=(14,.v (Ap Ew Jy AY))
theorem jL:∀i j,Ew i=Ew j→i=j:=by
 rintro ⟨_,_,_,_,_,_,_,_⟩ ⟨_,_,_,_,_,_,_,_⟩ h
 simp only[Ew,List.cons.injEq,and_true,PV.lits.injEq,PV.int.injEq,PV.agg.injEq,true_and,B1,AF,AD,Ck,V0]at h
 simp [Prod.ext_iff,h] <;> omega
theorem Jz (hn:Int) (ls:List Lnk) (us:List Snd) (ts:List Trp) (d:Dem) (l:List Snd) (o:List Int) (p:List Prf):Ap Ew Jy AY [.agg [I hn,AQ ls,Ay us,CK ts,I d.1,I d.2.1,I d.2.2.1,I d.2.2.2.1,I d.2.2.2.2],.agg [Ay l,ints o],MT p]=some (B (decide (Tr hn ls us ts d l o p))):=AC jL (i:=(hn,ls,us,ts,d,l,o,p)) trivial
def jM:Prop:=∀(hn:Int) (ls:List Lnk) (us:List Snd) (ts:List Trp) (d:Dem) (l:List Snd) (o:List Int) (p:List Prf) ,VC Tryz.prog 14 (Ew (hn,ls,us,ts,d,l,o,p)) (Jy (hn,ls,us,ts,d,l,o,p))
theorem jN:jM:=by
 intro hn ls us ts d l o p
 dsimp only[Ew,Jy]
 refine Bc AP (l := [e_vserves,e_vcost,e_wide,e_pstops,e_pbound]) ((Ad MN (Ad LJ (Ad Pr (Ad vQ (Ad vL Au)))))) [] []  Tryz.func14 rfl (by decide +kernel) (N:=90) rfl (by simp) rfl (by kernel_rfl) fun hs=>?_
 simp only[AK,PV.small,List.length_map,and_true,true_and]at hs
 obtain ⟨R,hR⟩:∃R,decide (Tr hn ls us ts d l o p)=R:=⟨_,rfl⟩
 rw [hR]
 by_cases h1:F3 hn ls us ts d l o=0
 case neg =>
  rw [decide_eq_false (fun g=>h1 g.1)]at hR
  subst hR
  simp only[↓bdD,bdP,seval,Ao,st0,e_vserves,DW,e_vcost,e_wide,e_pstops,e_pbound,Ac,Aa,AB,Tryz.f14,Be,B3,h1]
 have S:=Gw h1
 have V:=S.voy
 have hv:=vck_iff.2 V
 have hn4:=V.few
 have hp:=MM V
 have h16:2 ^ ts.length≤2 ^ 4:=Nat.pow_le_pow_right (by omega) hn4
 have hsh:=LC (k:=ts.length) (by omega)
 have hk0:¬(ts.length:Int)<0:=by omega
 have hk64:ts.length≤64:=by omega
 by_cases h2:p.length=2 ^ ts.length
 case neg =>
  rw [decide_eq_false (fun g=>h2 g.2.1)]at hR
  subst hR
  have h2i:¬(p.length:Int)=((2 ^ ts.length:Nat):Int):=by omega
  simp only[↓bdD,bdP,seval,Ao,st0,e_vserves,DW,e_vcost,e_wide,e_pstops,e_pbound,Ac,Aa,AB,Tryz.f14,BR,Be,B3,Fl,h1,hsh,hk0,hk64,h2i]
  done
 have h2i:((p.length:Int)=((2 ^ ts.length:Nat):Int))=True:=eq_true (by omega)
 have hok:(∀s,s<p.length→okP hn ls us ts d (Et hn ls us ts d l o) s (p.getD s dP))→R=true:=fun g=>by rw[←hR];exact decide_eq_true ⟨h1,h2,g⟩
 have hno:∀s,s<p.length→¬okP hn ls us ts d (Et hn ls us ts d l o) s (p.getD s dP)→R=false:=fun s hs g=>by rw[←hR];exact decide_eq_false fun f=>g (f.2.2 s hs)
 have hc0:=PI (hn:=hn) (ls:=ls) (us:=us) (ts:=ts) (d:=d) (l:=l) (o:=o)
 generalize hC:Et hn ls us ts d l o=C at *
 simp only[↓bdD,bdP,seval,st0,e_vserves,DW,e_vcost,EC,e_wide,e_pstops,e_pbound,Ac,Aa,AB,Tryz.f14,BR,Be,B3,Fl,h1,hsh,hk0,hk64,h2i,hC]
 refine Aw [6,9,10,11,12,13,14,15,16,38,39,40,41,42,43,44,45,46,47,48,49,50,51,52,53,54,55,56,57,58,59,60,61,62,63,64,65,66,67,68,69,70,71,72,73,74,75,76,77,78,79,80,81,82,83,84,85,86,87,88,89] p.length (fun s ρ st'=>ρ 38=I s∧∀i,i<s→okP hn ls us ts d C i (p.getD i dP)) (.refl _) ?_ ?_
 ·simp only[↓bdD,bdP]
  exact fun i hi=>absurd hi (by omega)
 rintro s ρ ⟨ob,M⟩ hs2 ⟨h38,hI⟩
 have m1:¬M=M+1∧¬M+1=M:=by omega
 by_cases hlt:s<p.length
 ·have hwk:IntKind.i64.wrap ((s:Int)+1)=((s+1:Nat):Int):=by rw[Ah (by omega) (by omega)];omega
  have hyk:=VZ hlt
  have sw:=Pq (hn:=hn) (ls:=ls) (us:=us) (ts:=ts) (d:=d) (s:=s)
  rw [if_pos ⟨hv,by omega⟩]at sw
  have hno:=hno s hlt
  have hI2:okP hn ls us ts d C s (p.getD s dP)→∀i,i<s+1→okP hn ls us ts d C i (p.getD i dP):=fun g i hi=>by
   by_cases e:i=s
   ·subst e;exact g
   ·exact hI i (by omega)
  generalize p.getD s dP=x at *
  by_cases f1:0<x.2.length
  ·have hI2:(KB (wHn hn ts) (wLs hn ls ts d s) (wUs ls us ts d s) d x.2=0∧MO (wHn hn ts) (wLs hn ls ts d s) (wUs ls us ts d s) d x.2<d.2.2.1)→_:=fun g=>hI2 (by unfold okP;rw[if_pos f1];exact g)
   have hno:¬(KB (wHn hn ts) (wLs hn ls ts d s) (wUs ls us ts d s) d x.2=0∧MO (wHn hn ts) (wLs hn ls ts d s) (wUs ls us ts d s) d x.2<d.2.2.1)→_:=fun g=>hno (fun f=>g (by unfold okP at f;rw[if_pos f1]at f;exact f))
   have f1i:(0:Int)<(x.2.length:Int):=by omega
   generalize wHn hn ts=wh at *
   generalize wLs hn ls ts d s=wl at *
   generalize wUs ls us ts d s=wu at *
   by_cases f2:KB wh wl wu d x.2=0∧MO wh wl wu d x.2<d.2.2.1
   ·have hI3:=hI2 f2
    clear hI2 hno
    have f3:=decide_eq_true f2
    simp only[↓bdD,bdP,seval,Store.new,Store.set,VS,Ac,Aa,AB,ty3,Be,AS,Fl,BF,K8,h38,hlt,hyk,sw,f1i,f3,hwk,m1,Av]
    exact hI3
   ·have e:=hno f2
    subst e
    have f3:=decide_eq_false f2
    simp only[↓bdD,bdP,seval,Ao,Store.new,Store.set,VS,Ac,Aa,AB,ty3,Be,AS,Fl,BF,K8,h38,hlt,hyk,sw,f1i,f3,m1,Av]
  have hI2:(HL (wHn hn ts) (wLs hn ls ts d s) (wUs ls us ts d s) d x.1=0∧C≤HM (wHn hn ts) (wLs hn ls ts d s) (wUs ls us ts d s) d x.1+F8 ts s ts.length)→_:=fun g=>hI2 (by unfold okP;rw[if_neg f1];exact g)
  have hno:¬(HL (wHn hn ts) (wLs hn ls ts d s) (wUs ls us ts d s) d x.1=0∧C≤HM (wHn hn ts) (wLs hn ls ts d s) (wUs ls us ts d s) d x.1+F8 ts s ts.length)→_:=fun g=>hno (fun f=>g (by unfold okP at f;rw[if_neg f1]at f;exact f))
  have hrg:=Aet (hn:=wHn hn ts) (ls:=wLs hn ls ts d s) (us:=wUs ls us ts d s) (d:=d) (y:=x.1)
  have f1i:¬(0:Int)<(x.2.length:Int):=by omega
  generalize wHn hn ts=wh at *
  generalize wLs hn ls ts d s=wl at *
  generalize wUs ls us ts d s=wu at *
  simp only[↓bdD,bdP,seval,Store.new,Store.set,Ac,Aa,AB,ty3,BR,Be,AS,Fl,BF,K8,h38,hlt,hyk,sw,f1i,m1,Av]
  refine Aw [12,13,14,58,59,60,61,62,63,64,65,66,67,68,69,70,71,72] ts.length (fun k ρ st'=>ρ 58=I k∧ρ 12=I (F8 ts s k)∧st'.obj M=some (.arr 0 2 [.agg [E4 x.1,ints x.2]])∧st'.obj (M+1)=some (.arr 0 8 [.agg [I wh,AQ wl,Ay wu,I d.1,I d.2.1,I d.2.2.1,I d.2.2.2.1,I d.2.2.2.2]])∧M+2≤st'.next) (.refl _) ?_ ?_
  ·simp only[↓bdD,bdP,Nat.reduceBEq,F8,m1]
   done
  rintro k ρ2 ⟨ob2,M2⟩ hk ⟨h58,h12,p0,p1,hM2⟩
  dsimp only at p0 p1 hM2
  have m2:¬M2=M∧¬M=M2∧¬M2=M+1∧¬M+1=M2:=by omega
  by_cases hkt:k<ts.length
  ·have hwk2:IntKind.i64.wrap ((k:Int)+1)=((k+1:Nat):Int):=by rw[Ah (by omega) (by omega)];omega
   have hkk0:¬(k:Int)<0:=by omega
   have hkk64:k≤64:=by omega
   have hkti:(k:Int)<(ts.length:Int):=by omega
   have hbit:=ZK (a:=s) (i:=k) (by omega)
   have htk:=ES hkt
   have b1:=LR (s:=s) hp k (by omega)
   have b2:=hp.2 k hkt
   have eP:F8 ts s (k+1)=F8 ts s k+(if s.testBit k=true then 1 else 0)*(ts.getD k dT).2.2.2.2.2.2:=rfl
   rw [eP]
   generalize F8 ts s k=q at *
   generalize ts.getD k dT=y at *
   by_cases hb:s.testBit k=true
   ·rw [if_pos hb]at hbit ⊢
    have w1:IntKind.i64.wrap (1*y.2.2.2.2.2.2)=1*y.2.2.2.2.2.2:=Ah (by omega) (by omega)
    have w2:IntKind.i64.wrap (q+1*y.2.2.2.2.2.2)=q+1*y.2.2.2.2.2.2:=Ah (by omega) (by omega)
    simp only[↓bdD,bdP,seval,Store.new,Store.set,ty3,BR,C6,h58,h12,hkt,hkti,htk,hbit,hkk0,hkk64,w1,w2,hwk2,m2,p0,p1,LB,Av]
    omega
   ·rw [if_neg hb]at hbit ⊢
    have w1:IntKind.i64.wrap (0*y.2.2.2.2.2.2)=0*y.2.2.2.2.2.2:=Ah (by omega) (by omega)
    have w2:IntKind.i64.wrap (q+0*y.2.2.2.2.2.2)=q+0*y.2.2.2.2.2.2:=Ah (by omega) (by omega)
    simp only[↓bdD,bdP,seval,Store.new,Store.set,ty3,BR,C6,h58,h12,hkt,hkti,htk,hbit,hkk0,hkk64,w1,w2,hwk2,m2,p0,p1,LB,Av]
    omega
  ·have e:k=ts.length:=by omega
   subst e
   have b1:=LR (s:=s) hp ts.length (Nat.le_refl _)
   by_cases e1:HL wh wl wu d x.1=0
   case neg =>
    have e:=hno (fun g=>e1 g.1)
    subst e
    simp only[↓bdD,bdP,seval,Ao,PC,Ac,Aa,Du,BF,BL,K8,h58,hkt,p0,p1,e1]
    done
   have r1:=hrg e1
   have w3:IntKind.i64.wrap (HM wh wl wu d x.1+F8 ts s ts.length)=HM wh wl wu d x.1+F8 ts s ts.length:=Ah (by omega) (by omega)
   by_cases e2:HM wh wl wu d x.1+F8 ts s ts.length<C
   ·have e:=hno (fun g=>by omega)
    subst e
    simp only[↓bdD,bdP,seval,Ao,PC,Ac,Aa,Du,BF,BL,K8,h58,h12,hkt,p0,p1,e1,w3,e2]
    done
   ·have hI3:=hI2 ⟨e1,by omega⟩
    clear hI2 hno
    simp only[↓bdD,bdP,seval,PC,Ac,Aa,Du,BF,BL,K8,h58,h12,h38,hkt,p0,p1,e1,w3,e2,hwk]
    refine ⟨?_,hI3⟩
    rw [AL (by decide +kernel)]
    simp only[↓bdD,bdP,Nat.reduceBEq]
 ·have e:s=p.length:=by omega
  subst e
  have e:=hok hI
  subst e
  simp only[↓bdD,bdP,seval,Ao,h38,hlt]
theorem Rm:AM Tryz.prog e_vaccept.1 e_vaccept.2:=Ax fun⟨hn,ls,us,ts,d,l,o,p⟩ h=>jN hn ls us ts d l o p
structure BkAt (A:List Arc) (out:List (List Nat)) (ob:Nat→Option IObj):Prop where
 o1 : ob 2=some (.arr 0 1 [.ref 9 (A.length / 2) 0 A.length])
 o2 : ob 3=some (.arr 0 1 (GX 5 out))
 o3 : ob 4=some (.arr 0 1 [.ref 3 0 0 out.length])
 o6 : ob 9=some (.arr (A.length / 2) 4 (A.map EX))
 o7 : ∀u,u<out.length→ob (10+u)=some (.arr (out.getD u []).length 1 (Cc (out.getD u [])))
structure GB where
 A : List Arc
 out : List (List Nat)
 u : Nat
 v : Nat
 x : Int
theorem BkAt.same {A A':List Arc} {out out':List (List Nat)} {ob:Nat→Option IObj} (g:BkAt A out ob) (g':BkAt A' out' ob):A=A'∧out=out':=by
 have e4:=g.o6.symm.trans g'.o6
 simp only[Option.some.injEq,IObj.arr.injEq,OP,true_and]at e4
 have e3:=g.o3.symm.trans g'.o3
 simp only[Option.some.injEq,IObj.arr.injEq,List.cons.injEq,PV.ref.injEq,true_and,and_true]at e3
 refine ⟨e4.2,List.ext_getElem e3 fun u h1 h2=>?_⟩
 have q:=(g.o7 u h1).symm.trans (g'.o7 u h2)
 simp only[Option.some.injEq,IObj.arr.injEq,OU,true_and]at q
 have q:=q.2
 rwa [List.getD_eq_getElem?_getD,List.getD_eq_getElem?_getD,List.getElem?_eq_getElem h1,List.getElem?_eq_getElem h2]at q
end Sim
namespace Sim
structure RSE (p:Nat→Arc) (m:Nat) (A:List Arc) (E:Nat→Int):Prop where
 len : A.length=2*m
 fr : ∀i,i<m→aF A (2*i)=(p i).1∧aT A (2*i)=(p i).2.1∧aF A (2*i+1)=(p i).2.1∧aT A (2*i+1)=(p i).1
 bk : ∀k,k<2*m→aP A k=((rv k:Nat):Int)
 nn : ∀k,k<2*m→0≤aL A k
 cap : ∀i,i<m→aL A (2*i)+aL A (2*i+1)=(p i).2.2.1
 val : ∀v,An (fun i=>(if (p i).1=v then flA A i else 0)-(if (p i).2.1=v then flA A i else 0)) m=E v
def stE (s e:Nat) (x:Int) (v:Nat):Int:=(if s=v then x else 0)-(if e=v then x else 0)
section
variable {p:Nat→Arc} {m N s e:Nat} {A:List Arc} {E:Nat→Int}
theorem RSE.net (R:RSE p m A E) {f:Nat→Int} {v:Nat}:(fnA A N s e).net f v=An (fun i=>(if (p i).1=v then f i else 0)-(if (p i).2.1=v then f i else 0)) m:=by
 unfold FN.net fnA
 dsimp only
 rw [R.len,show 2*m / 2=m by omega]
 exact Ag fun i hi=>by simp only[(R.fr i hi).1,(R.fr i hi).2.1]
theorem RSE.aug (R:RSE p m A E) {k:Nat} {y:Int} (hk:k<2*m) (h0:0≤y) (hy:y≤aL A k):RSE p m (Dq A y k) (fun v=>E v+stE (aF A k) (aT A k) y v):=by
 have hl:=R.len
 have hF:∀j,aF (Dq A y k) j=aF A j:=fun j=>X5 hl hk
 have hT:∀j,aT (Dq A y k) j=aT A j:=fun j=>X6 hl hk
 refine ⟨by rw[GU];exact hl,fun i hi=>?_,fun j hj=>?_,fun j hj=>?_,fun i hi=>?_,fun v=>?_⟩
 ·rw [hF,hF,hT,hT];exact R.fr i hi
 ·rw [qX hl hk];exact R.bk j hj
 ·rw [Mn hl hk]
  have := R.nn j hj
  by_cases c:j=k
  ·subst c;rw[if_pos rfl];split <;> omega
  ·rw [if_neg c];split <;> omega
 ·rw [Mn hl hk,Mn hl hk,←R.cap i hi]
  unfold rv
  by_cases e:k % 2=0
  ·rw [if_pos e]
   by_cases c:k=2*i
   ·subst c
    rw [if_pos rfl,if_neg (show ¬2*i=2*i+1 by omega),if_neg (show ¬2*i+1=2*i by omega),if_pos rfl];omega
   ·rw [if_neg (show ¬2*i=k by omega),if_neg (show ¬2*i=k+1 by omega),if_neg (show ¬2*i+1=k by omega),if_neg (show ¬2*i+1=k+1 by omega)];omega
  ·rw [if_neg e]
   by_cases c:k=2*i+1
   ·subst c
    rw [if_neg (show ¬2*i=2*i+1 by omega),if_pos (show 2*i=2*i+1-1 by omega),if_pos rfl,if_neg (show ¬2*i+1=2*i+1-1 by omega)];omega
   ·rw [if_neg (show ¬2*i=k by omega),if_neg (show ¬2*i=k-1 by omega),if_neg (show ¬2*i+1=k by omega),if_neg (show ¬2*i+1=k-1 by omega)];omega
 ·have hI:IsP A (aF A k) (aT A k) [k]:=.cons k [] .nil
  have := Y9 (N:=0) (t:=0) (p:=y) hI (fun i hi=>by
   obtain ⟨a,b,c,d⟩:=R.fr i hi
   exact ⟨by rw[c,b],by rw[d,a]⟩) hl (fun j hj=>by rw[List.mem_singleton]at hj;rw[hj];exact hk) v
  rw [R.net,R.net,R.val]at this
  exact this
theorem RSE.congr {E':Nat→Int} (R:RSE p m A E) (h:∀v,E v=E' v):RSE p m A E':=⟨R.len,R.fr,R.bk,R.nn,R.cap,fun v=>by rw[R.val,h]⟩
theorem RSE.end (R:RSE p m A E) (h:SG p N m) {k:Nat} (hk:k<2*m):aF A k<N∧aT A k<N:=by
 obtain ⟨i,hi,e | e⟩:=DU hk
 ·subst e;rw[(R.fr i hi).1,(R.fr i hi).2.1];exact⟨(h i hi).1,(h i hi).2.1⟩
 ·subst e;rw[(R.fr i hi).2.2.1,(R.fr i hi).2.2.2];exact⟨(h i hi).2.1,(h i hi).1⟩
theorem RSE.le (R:RSE p m A E) {k:Nat} (hk:k<2*m) {b:Int} (hb:∀i,i<m→(p i).2.2.1≤b):aL A k≤b∧aL A k+aL A (rv k)≤b:=by
 obtain ⟨i,hi,e | e⟩:=DU hk
 ·have h1:=R.cap i hi
  have h2:=hb i hi
  have h3:=R.nn (2*i+1) (by omega)
  subst e
  have : rv (2*i)=2*i+1:=by unfold rv;rw[if_pos (by omega)]
  rw [this]
  omega
 ·have h1:=R.cap i hi
  have h2:=hb i hi
  have h3:=R.nn (2*i) (by omega)
  subst e
  have : rv (2*i+1)=2*i:=by unfold rv;rw[if_neg (by omega)];omega
  rw [this]
  omega
theorem RSE.flow {x:Int} (R:RSE p m A (stE s e x)):(fnP p N m s e).Flow (flA A) x:=by
 refine ⟨fun i hi=>R.nn (2*i+1) (by have:i<m:=hi;omega),fun i hi=>?_,fun v hv=>R.val v⟩
 have := R.cap i hi
 have := R.nn (2*i) (by have:i<m:=hi;omega)
 show aL A (2*i+1)≤(p i).2.2.1
 omega
end
structure BQ (A:List Arc) (m N s:Nat) (bl:List Int) (q:List Nat) (rk:Nat→Nat):Prop where
 len : bl.length=N
 src : q.getD 0 0=s∧s∈q
 nd : q.Nodup
 mem : ∀v∈q,v<N
 seen : ∀v,v<N→(0≤bl.getD v 0↔v∈q)
 by_ : ∀v∈q,v≠s→∃k:Nat,k<2*m∧bl.getD v 0=(k:Int)∧aT A k=v∧0<aL A k∧aF A k∈q∧rk (aF A k)<rk v
 rkb : ∀v∈q,rk v<q.length
section
variable {A:List Arc} {m N s:Nat} {bl:List Int} {q:List Nat} {rk:Nat→Nat}
theorem BQ.ini (hs:s<N) {x:Int} (hx:0≤x):BQ A m N s ((List.replicate N (-1:Int)).set s x) [s] (fun _=>0):=by
 refine ⟨by simp,⟨rfl,by simp⟩,by simp,fun v hv=>by simp at hv;omega,fun v hv=>?_,fun v hv hvs=>by simp at hv;exact absurd hv hvs,fun v hv=>by simp⟩
 rw [Dd (by simpa using hs)]
 by_cases c:v=s
 ·rw [if_pos c];simp[c,hx]
 ·rw [if_neg c]
  simp [List.getD_eq_getElem?_getD,hv,c]
theorem BQ.add (B:BQ A m N s bl q rk) {k:Nat} (hk:k<2*m) (hN:aT A k<N) (hF:aF A k∈q) (hl:0<aL A k) (hT:bl.getD (aT A k) 0<0):BQ A m N s (bl.set (aT A k) (k:Int)) (q ++ [aT A k]) (fun w=>if w=aT A k then q.length else rk w):=by
 have hTq:aT A k ∉ q:=fun g=>by have:=(B.seen _ hN).2 g;omega
 have hne:∀v∈q,v≠aT A k:=fun v hv e=>hTq (e▸hv)
 refine ⟨by rw[List.length_set];exact B.len,⟨?_,by simp[B.src.2]⟩,?_,fun v hv=>?_,fun v hv=>?_,fun v hv hvs=>?_,fun v hv=>?_⟩
 ·rw [←B.src.1]
  have : 0<q.length:=List.length_pos_of_mem B.src.2
  rw [List.getD_eq_getElem?_getD,List.getElem?_append_left this,List.getD_eq_getElem?_getD]
 ·rw [List.nodup_append]
  exact ⟨B.nd,by simp,fun a ha b hb e=>by simp at hb;subst hb;exact hne a ha e⟩
 ·rw [List.mem_append,List.mem_singleton]at hv
  rcases hv with hv | rfl
  ·exact B.mem v hv
  ·exact hN
 ·rw [Dd (by rw[B.len];exact hN),List.mem_append,List.mem_singleton]
  by_cases c:v=aT A k
  ·rw [if_pos c];simp[c]
  ·rw [if_neg c,B.seen v hv];simp[c]
 ·rw [List.mem_append,List.mem_singleton]at hv
  rcases hv with hv | rfl
  ·obtain ⟨j,h1,h2,h3,h4,h5,h6⟩:=B.by_ v hv hvs
   refine ⟨j,h1,?_,h3,h4,by simp[h5],?_⟩
   ·rw [Dd (by rw[B.len];exact hN),if_neg (hne v hv)];exact h2
   ·rw [if_neg (hne v hv),if_neg (hne _ h5)];exact h6
  ·refine ⟨k,hk,?_,rfl,hl,by simp[hF],?_⟩
   ·rw [Dd (by rw[B.len];exact hN),if_pos rfl]
   ·rw [if_neg (hne _ hF),if_pos rfl];exact B.rkb _ hF
 ·rw [List.mem_append,List.mem_singleton]at hv
  rw [List.length_append,List.length_singleton]
  rcases hv with hv | rfl
  ·rw [if_neg (hne v hv)]
   have := B.rkb v hv
   omega
  ·rw [if_pos rfl];omega
theorem BQ.least (B:BQ A m N s bl q rk) {S:Nat→Prop} (hs:S s) (hc:∀k,k<2*m→0<aL A k→S (aF A k)→S (aT A k)):∀v∈q,S v:=by
 have : ∀n v,v∈q→rk v≤n→S v:=by
  intro n
  induction n with
  | zero =>
   intro v hv hr
   by_cases c:v=s
   ·rw [c];exact hs
   ·obtain ⟨k,h1,h2,h3,h4,h5,h6⟩:=B.by_ v hv c
    omega
  | succ n ih =>
   intro v hv hr
   by_cases c:v=s
   ·rw [c];exact hs
   ·obtain ⟨k,h1,h2,h3,h4,h5,h6⟩:=B.by_ v hv c
    rw [←h3]
    exact hc k h1 h4 (ih _ h5 (by omega))
 exact fun v hv=>this (rk v) v hv (Nat.le_refl _)
end
structure PW (A:List Arc) (s:Nat) (bl:List Int) (q:List Nat) (W:Nat→Prop) (at_:Nat) (least:Int):Prop where
 cur : W at_
 mem : ∀w,W w→w∈q
 nx : ∀w,W w→w=at_∨(w≠s∧least≤aL A (bl.getD w 0).toNat∧W (aF A (bl.getD w 0).toNat))
theorem PW.step {A:List Arc} {m N s:Nat} {bl:List Int} {q:List Nat} {rk:Nat→Nat} (B:BQ A m N s bl q rk) {W:Nat→Prop} {a:Nat} {l:Int} (P:PW A s bl q W a l) {k:Nat} (has:a≠s) (hk:bl.getD a 0=(k:Int)):PW A s bl q (fun w=>W w∨w=aF A k) (aF A k) (min l (aL A k)):=by
 obtain ⟨k',h1,h2,h3,h4,h5,h6⟩:=B.by_ a (P.mem a P.cur) has
 have e:k'=k:=by omega
 subst e
 refine ⟨.inr rfl,fun w hw=>?_,fun w hw=>?_⟩
 ·rcases hw with hw | rfl
  ·exact P.mem w hw
  ·exact h5
 ·rcases hw with hw | rfl
  ·rcases P.nx w hw with rfl | ⟨g1,g2,g3⟩
   ·refine .inr ⟨has,?_,?_⟩
    ·rw [hk,Int.toNat_natCast];omega
    ·rw [hk,Int.toNat_natCast];exact .inr rfl
   ·exact .inr ⟨g1,by omega,.inl g3⟩
  ·exact .inl rfl
structure PA (p:Nat→Arc) (m s e:Nat) (A0:List Arc) (bl:List Int) (W:Nat→Prop) (rk:Nat→Nat) (x least:Int) (A:List Arc) (a:Nat):Prop where
 rs : RSE p m A (fun v=>stE s e x v+stE a e least v)
 cur : W a
 lf : ∀w,W w→w≠s→rk w≤rk a→least≤aL A (bl.getD w 0).toNat
section
variable {p:Nat→Arc}
theorem PA.step {A0 A:List Arc} {m N s e:Nat} {bl:List Int} {q:List Nat} {rk:Nat→Nat} {W:Nat→Prop} {a k:Nat} {l x:Int} (B:BQ A0 m N s bl q rk) (R0:RSE p m A0 (stE s e x)) (P:PW A0 s bl q W s l) (h:PA p m s e A0 bl W rk x l A a) (has:a≠s) (hk:bl.getD a 0=(k:Int)) (hl:0≤l) :
  PA p m s e A0 bl W rk x l (Dq A l k) (aF A0 k)∧k<2*m∧l≤aL A k∧rk (aF A0 k)<rk a∧aF A0 k∈q:=by
 obtain ⟨k',h1,h2,h3,h4,h5,h6⟩:=B.by_ a (P.mem a h.cur) has
 have e1:k'=k:=by omega
 subst e1
 have hF:∀j,j<2*m→aF A j=aF A0 j∧aT A j=aT A0 j:=fun j hj=>by
  obtain ⟨i,hi,e | e⟩:=DU hj
  ·subst e;rw[(h.rs.fr i hi).1,(h.rs.fr i hi).2.1,(R0.fr i hi).1,(R0.fr i hi).2.1];exact⟨rfl,rfl⟩
  ·subst e;rw[(h.rs.fr i hi).2.2.1,(h.rs.fr i hi).2.2.2,(R0.fr i hi).2.2.1,(R0.fr i hi).2.2.2];exact⟨rfl,rfl⟩
 have hle:l≤aL A k':=by
  have := h.lf a h.cur has (Nat.le_refl _)
  rwa [hk,Int.toNat_natCast]at this
 have hWn:W (aF A0 k'):=by
  rcases P.nx a h.cur with e2 | ⟨_,_,g⟩
  ·exact absurd e2 has
  ·rwa [hk,Int.toNat_natCast]at g
 refine ⟨⟨(h.rs.aug h1 hl hle).congr fun v=>?_,hWn,fun w hw hws hr=>?_⟩,h1,hle,h6,h5⟩
 ·rw [(hF k' h1).1,(hF k' h1).2,h3]
  unfold stE
  omega
 ·have h7:=h.lf w hw hws (by omega)
  obtain ⟨j,g1,g2,g3,g4,g5,g6⟩:=B.by_ w (P.mem w hw) hws
  rw [g2,Int.toNat_natCast]at h7 ⊢
  rw [Mn h.rs.len h1]
  have : j≠k':=fun e2=>by
   subst e2
   rw [h3]at g3
   subst g3
   omega
  rw [if_neg this]
  split <;> omega
theorem PA.end_ {m s e:Nat} {A0 A:List Arc} {bl:List Int} {W:Nat→Prop} {rk:Nat→Nat} {x l:Int} (h:PA p m s e A0 bl W rk x l A s):RSE p m A (stE s e (x+l)):=h.rs.congr fun v=>by unfold stE;split <;> split <;> omega
theorem PA.ini {m s e:Nat} {A0:List Arc} {bl:List Int} {q:List Nat} {W:Nat→Prop} {rk:Nat→Nat} {x l:Int} (R0:RSE p m A0 (stE s e x)) (P:PW A0 s bl q W s l) (he:W e):PA p m s e A0 bl W rk x l A0 e :=
 ⟨R0.congr fun v=>by unfold stE;split <;> split <;> omega,he,fun w hw hws _=>by
  rcases P.nx w hw with e2 | ⟨_,g,_⟩
  ·exact absurd e2 hws
  ·exact g⟩
end
structure Cls (G:FN) (f:Nat→Int) (x:Int) (S:Nat→Prop):Prop where
 flow : G.Flow f x
 s : S G.s
 t : ¬S G.t
 out : ∀i,i<G.m→S (G.fr i)→f i<G.cap i→S (G.to i)
 inn : ∀i,i<G.m→S (G.to i)→0<f i→S (G.fr i)
 least : ∀S':Nat→Prop,S' G.s→(∀i,i<G.m→S' (G.fr i)→f i<G.cap i→S' (G.to i))→(∀i,i<G.m→S' (G.to i)→0<f i→S' (G.fr i))→∀v,S v→S' v
theorem Cls.max {G:FN} (w:G.WF) {f:Nat→Int} {x:Int} {S:Nat→Prop} (h:Cls G f x S) {g:Nat→Int} {b:Int} (hg:G.Flow g b):b≤x:=by
 classical
 refine FN.cut w (g:=f) (S:=S) h.flow.val hg h.s h.t (fun i hi h1 h2=>?_) (fun i hi h1 h2=>?_)
 ·exact Classical.byContradiction fun c=>h2 (h.out i hi h1 (by omega))
 ·exact Classical.byContradiction fun c=>h1 (h.inn i hi h2 (by omega))
theorem V1 {f:Nat→Int}:∀ {n},(∀i,i<n→0≤f i)→An f n≤0→∀i,i<n→f i=0
 | 0,_,_=>fun i hi=>absurd hi (by omega)
 | n+1,h,hs=>fun i hi=>by
  rw [An]at hs
  have h1:=BC (f:=f) (n:=n) fun i hi=>h i (by omega)
  have h2:=h n (by omega)
  by_cases e:i=n
  ·subst e;omega
  ·exact V1 (n:=n) (fun i hi=>h i (by omega)) (by omega) i (by omega)
theorem Cls.full {G:FN} (w:G.WF) {f g:Nat→Int} {x:Int} {S:Nat→Prop} (h:Cls G f x S) (hg:G.Flow g x):∀i,i<G.m→(S (G.fr i)→¬S (G.to i)→g i=G.cap i)∧(¬S (G.fr i)→S (G.to i)→g i=0):=by
 classical
 have d1:=FN.dual w h.flow.val fun v=>if S v then 1 else 0
 have d2:=FN.dual w hg.val fun v=>if S v then 1 else 0
 have key:=V1 (f:=fun i=>((if S (G.fr i)then 1 else 0)-(if S (G.to i)then 1 else 0))*f i-((if S (G.fr i)then 1 else 0)-(if S (G.to i)then 1 else 0))*g i) (n:=G.m) (fun i hi=>?_) (by rw[Ci,d1,d2];omega)
 ·intro i hi
  have k:=key i hi
  refine ⟨fun h1 h2=>?_,fun h1 h2=>?_⟩
  ·rw [if_pos h1,if_neg h2]at k
   have e:¬f i<G.cap i:=fun c=>h2 (h.out i hi h1 c)
   have := h.flow.le i hi
   omega
  ·rw [if_neg h1,if_pos h2]at k
   have e:¬0<f i:=fun c=>h1 (h.inn i hi h2 c)
   have := h.flow.nn i hi
   omega
 ·have a1:=h.flow.nn i hi
  have a2:=h.flow.le i hi
  have b1:=hg.nn i hi
  have b2:=hg.le i hi
  by_cases h1:S (G.fr i) <;> by_cases h2:S (G.to i)
  ·rw [if_pos h1,if_pos h2];simp
  ·rw [if_pos h1,if_neg h2]
   have e:¬f i<G.cap i:=fun c=>h2 (h.out i hi h1 c)
   omega
  ·rw [if_neg h1,if_pos h2]
   have e:¬0<f i:=fun c=>h1 (h.inn i hi h2 c)
   omega
  ·rw [if_neg h1,if_neg h2];simp
theorem Cls.sub {G:FN} (w:G.WF) {f g:Nat→Int} {x y:Int} {S T:Nat→Prop} (h:Cls G f x S) (h':Cls G g y T):∀v,S v→T v:=by
 have e1:=h.max w h'.flow
 have e2:=h'.max w h.flow
 have e:x=y:=by omega
 subst e
 have k:=h'.full w h.flow
 refine h.least T h'.s (fun i hi h1 h2=>?_) (fun i hi h1 h2=>?_)
 ·exact Classical.byContradiction fun c=>by have:=(k i hi).1 h1 c;omega
 ·exact Classical.byContradiction fun c=>by have:=(k i hi).2 c h1;omega
section
variable {p:Nat→Arc} {N n:Nat}
end
namespace TN
variable {T:TN} {D:Nat}
end TN
open Classical in
theorem KJ {P:Nat→Prop} [DecidablePred P] {a:Nat} {v:Int}:∀ {n},An (fun x=>if P x then (if a=x then v else 0)else 0) n=if a<n∧P a then v else 0
 | 0=>by simp[An]
 | n+1=>by
  rw [An,KJ]
  by_cases c:a=n
  ·subst c
   rw [if_neg (fun g=>by omega),if_pos rfl]
   by_cases p:P a
   ·rw [if_pos p,if_pos ⟨by omega,p⟩];omega
   ·rw [if_neg p,if_neg (fun g=>p g.2)];rfl
  ·have e:(if P n then (if a=n then v else 0)else 0)=0:=by rw[if_neg c];split <;> rfl
   rw [e,Int.add_zero]
   by_cases c2:a<n∧P a
   ·rw [if_pos c2,if_pos ⟨by omega,c2.2⟩]
   ·rw [if_neg c2,if_neg (fun g=>c2 ⟨by omega,g.2⟩)]
def Ts (T:TN) (D:Nat) (S:Nat→Nat→Prop) [∀t x,Decidable (S t x)] (f:Nat→Nat→Int):Int:=An (fun t=>An (fun k=>if S t (T.fr k)∧¬S (t+1) (T.to k)then f k t else 0) T.L) D
theorem vW {T:TN} {D a c:Nat} {b:Int} {g:Nat→Nat→Int} (ok:T.OK D) (P:T.Plan D a c b g) (ha:a<T.h) (S:Nat→Nat→Prop) [∀t x,Decidable (S t x)] (h0:S 0 a) (hD:∀x,x<T.h→S D x→x≠c) (hm:∀t x,S t x→S (t+1) x) (hb:0≤b):b≤Ts T D S T.lf:=by
 have key:∀t,t≤D→b≤An (fun x=>if S t x then T.stk a b g t x else 0) T.h+Ts T t S g:=by
  intro t ht
  induction t with
  | zero =>
   have := D6 (f:=fun x=>if S 0 x then T.stk a b g 0 x else 0) (n:=T.h) (fun i hi=>by rw[TN.stk];split <;> (try split) <;> omega) ha
   rw [if_pos h0,TN.stk,if_pos rfl]at this
   have e:Ts T 0 S g=0:=rfl
   omega
  | succ t ih =>
   have ih:=ih (by omega)
   have e1:Ts T (t+1) S g=Ts T t S g+An (fun k=>if S t (T.fr k)∧¬S (t+1) (T.to k)then g k t else 0) T.L:=rfl
   have e2:An (fun x=>if S (t+1) x then T.stk a b g (t+1) x else 0) T.h=An (fun x=>if S (t+1) x then T.stk a b g t x-T.outF g x t else 0) T.h+An (fun x=>if S (t+1) x then T.inF g x t else 0) T.h:=by
    rw [←BB]
    exact Ag fun x _=>by
     rw [TN.stk]
     split <;> omega
   have e3:An (fun x=>if S t x then T.stk a b g t x else 0) T.h=An (fun x=>if S t x then T.stk a b g t x-T.outF g x t else 0) T.h+An (fun x=>if S t x then T.outF g x t else 0) T.h:=by
    rw [←BB]
    exact Ag fun x _=>by
     split <;> omega
   have e4:An (fun x=>if S t x then T.stk a b g t x-T.outF g x t else 0) T.h≤An (fun x=>if S (t+1) x then T.stk a b g t x-T.outF g x t else 0) T.h:=CZ fun x hx=>by
    have := P.st t x (by omega) hx
    by_cases c:S t x
    ·rw [if_pos c,if_pos (hm t x c)];exact Int.le_refl _
    ·rw [if_neg c];split <;> omega
   have e5:An (fun x=>if S t x then T.outF g x t else 0) T.h=An (fun k=>if S t (T.fr k)then g k t else 0) T.L:=by
    have : (fun x=>if S t x then T.outF g x t else 0)=fun x=>An (fun k=>if S t x then (if T.fr k=x then g k t else 0)else 0) T.L:=by
     funext x
     by_cases c:S t x
     ·simp only[if_pos c];rfl
     ·simp only[if_neg c];exact (Bb fun _ _=>rfl).symm
    rw [this,CY]
    refine Ag fun k hk=>?_
    rw [KJ (P:=fun x=>S t x)]
    have :=(ok.e k hk).1
    by_cases c:S t (T.fr k)
    ·rw [if_pos ⟨this,c⟩,if_pos c]
    ·rw [if_neg (fun g=>c g.2),if_neg c]
   have e6:An (fun x=>if S (t+1) x then T.inF g x t else 0) T.h=An (fun k=>if S (t+1) (T.to k)then g k t else 0) T.L:=by
    have : (fun x=>if S (t+1) x then T.inF g x t else 0)=fun x=>An (fun k=>if S (t+1) x then (if T.to k=x then g k t else 0)else 0) T.L:=by
     funext x
     by_cases c:S (t+1) x
     ·simp only[if_pos c];rfl
     ·simp only[if_neg c];exact (Bb fun _ _=>rfl).symm
    rw [this,CY]
    refine Ag fun k hk=>?_
    rw [KJ (P:=fun x=>S (t+1) x)]
    have :=(ok.e k hk).2
    by_cases c:S (t+1) (T.to k)
    ·rw [if_pos ⟨this,c⟩,if_pos c]
    ·rw [if_neg (fun g=>c g.2),if_neg c]
   have e7:An (fun k=>if S t (T.fr k)then g k t else 0) T.L≤An (fun k=>if S (t+1) (T.to k)then g k t else 0) T.L+An (fun k=>if S t (T.fr k)∧¬S (t+1) (T.to k)then g k t else 0) T.L:=by
    rw [←BB]
    refine CZ fun k hk=>?_
    have nn:=P.nn k t hk (by omega)
    by_cases c1:S t (T.fr k)
    ·by_cases c2:S (t+1) (T.to k)
     ·rw [if_pos c1,if_pos c2,if_neg (fun g=>g.2 c2)];omega
     ·rw [if_pos c1,if_neg c2,if_pos ⟨c1,c2⟩];omega
    ·have c3:¬(S t (T.fr k)∧¬S (t+1) (T.to k)):=fun g=>c1 g.1
     rw [if_neg c1,if_neg c3];split <;> omega
   omega
 have h1:=key D (Nat.le_refl _)
 rw [Bb fun x hx=>by
  by_cases c:S D x
  ·rw [if_pos c,P.en x hx,if_neg (fun e=>hD x hx c e.symm)]
  ·rw [if_neg c]]at h1
 have h2:Ts T D S g≤Ts T D S T.lf:=CZ fun t ht=>CZ fun k hk=>by
  split
  ·exact P.le k t hk ht
  ·exact Int.le_refl _
 omega
namespace TN
variable {T:TN} {D:Nat}
end TN
end Sim
namespace Sim
open Go Go.Proofs
section
variable {hn:Int} {ls:List Lnk} {us:List Snd} {d:Dem} {ts:List Int}
theorem Aeu:Ts (AJ hn ls us d) (As d) (fun t y=>ts.getD y 0≤d.2.2.2.1+(t:Int)) (AJ hn ls us d).lf=KC ls us d ts (As d*ls.length):=by
 unfold KC Ts
 rw [Fu]
 refine Ag fun t ht=>Ag fun k hk=>?_
 have hk:k<ls.length:=hk
 obtain ⟨e1,e2⟩:=TN.row_idx (t:=t) hk
 rw [e1,e2]
 unfold brI
 have a1:(AJ hn ls us d).fr k=(ls.getD k dL).1.toNat:=rfl
 have a2:(AJ hn ls us d).to k=(ls.getD k dL).2.1.toNat:=rfl
 have a3:(AJ hn ls us d).lf k t=lfM ls us (k:Nat) (d.2.2.2.1+(t:Int)):=rfl
 rw [a1,a2,a3]
 unfold tkA
 by_cases c:ts.getD (ls.getD k dL).1.toNat 0≤d.2.2.2.1+(t:Int)∧d.2.2.2.1+((t+1:Nat):Int)<ts.getD (ls.getD k dL).2.1.toNat 0
 ·rw [if_pos c,if_pos ⟨c.1,by have:=c.2;omega⟩]
 ·rw [if_neg c,if_neg (fun g=>c ⟨g.1,by have:=g.2;omega⟩)]
theorem vX (h:KB hn ls us d ts=0):ZD hn ls us d≤MO hn ls us d ts:=by
 unfold MO
 rw [if_neg (fun g=>g h)]
 unfold KB at h
 split at h
 ·rename_i g;exact absurd h g
 rename_i h1
 have h1:D9 hn ls us d=0:=Classical.byContradiction h1
 split at h
 ·cases h
 rename_i h2
 have hb:Adt hn d ts:=Classical.byContradiction h2
 obtain ⟨hl,hb1,hb2⟩:=hb
 obtain ⟨hfk,hb4⟩:=pck_zero.1 h1
 obtain ⟨hf,hdm,hD,hdu⟩:=BK hfk
 obtain ⟨⟨a0,a1⟩,⟨c0,c1⟩,hr⟩:=BZ hdm
 obtain ⟨P,hm⟩:=ZG hfk
 have ok:=DB (us:=us) (r:=d.2.2.2.1) (D:=As d) hf
 rw [hm,←Aeu (hn:=hn)]
 refine vW ok P.plan (show d.1.toNat<hn.toNat by omega) (fun t y=>ts.getD y 0≤d.2.2.2.1+(t:Int)) ?_ (fun x hx hs e=>?_) (fun t x hs=>?_) P.n0
 ·show ts.getD d.1.toNat 0≤d.2.2.2.1+((0:Nat):Int)
  have : ts.getD d.1.toNat 0≤d.2.2.2.1:=hb1
  omega
 ·subst e
  have : d.2.2.2.2<ts.getD d.2.1.toNat 0:=hb2
  have hs:ts.getD d.2.1.toNat 0≤d.2.2.2.1+((As d:Nat):Int):=hs
  omega
 ·have hs:ts.getD x 0≤d.2.2.2.1+(t:Int):=hs
  show ts.getD x 0≤d.2.2.2.1+((t+1:Nat):Int)
  omega
end
def H0 (ls:List Lnk):List Snd→Int
 | []=>0
 | x::l=>H0 ls l+x.2.2*Df ls x.1 x.2.1
theorem PJ {ls:List Lnk} {m:List Snd}:∀ {l:List Snd},H0 ls (l++m)=H0 ls l+H0 ls m
 | []=>by simp[H0]
 | x::l=>by
  have := PJ (ls:=ls) (m:=m) (l:=l)
  simp only[List.cons_append,H0,this]
  omega
theorem jO {ls:List Lnk} {l m:List Snd} (h:l.Perm m):H0 ls l=H0 ls m:=by
 induction h with
 | nil=>rfl
 | cons x _ ih=>simp only[H0,ih]
 | swap x y l=>simp only[H0];omega
 | trans _ _ h1 h2=>exact h1.trans h2
theorem Z2 {ls:List Lnk} {l:List Snd}:∀k,k≤l.length→Dr ls l k=H0 ls (l.take k)
 | 0,_=>by simp[Dr,H0]
 | k+1,hk=>by
  have ih:=Z2 (ls:=ls) (l:=l) k (by omega)
  have e:l.take (k+1)=l.take k ++ [l.getD k dS]:=by
   rw [List.take_add_one,List.getD_eq_getElem?_getD,List.getElem?_eq_getElem (by omega)];rfl
  rw [e,PJ,←ih]
  simp only[Dr,H0]
  omega
section
variable {hn:Int} {ls:List Lnk}
theorem Z3 {l:List Snd} (ok:OKr hn ls l):BN hn ls l=H0 ls l:=by
 unfold BN
 rw [if_neg (fun g=>g (right_zero.2 ok)),Z2 _ (Nat.le_refl _),List.take_length]
theorem Z4 {hn:Int} {d:Dem} {s:Nat} {ts:List Trp}:∀k,∀x∈wLk hn d s ts k,x.2.2.2=fun _=>0
 | 0,x,h=>by simp[wLk]at h
 | k+1,x,h=>by
  simp only[wLk]at h
  rcases List.mem_append.1 h with h | h
  ·exact Z4 k x h
  ·simp only[List.mem_cons,List.not_mem_nil,or_false]at h
   rcases h with rfl | rfl <;> rfl
theorem vY {ts:List Trp} {d:Dem} {s:Nat} {k t:Int} (h0:0≤k) (h1:k<(ls.length:Int)):Df (wLs hn ls ts d s) k t=Df ls k t:=by
 unfold Df wLs
 rw [List.getD_eq_getElem?_getD,List.getD_eq_getElem?_getD,List.getElem?_append_left (by omega)]
theorem vZ {ts:List Trp} {d:Dem} {s:Nat} {k t:Int} (h1:(ls.length:Int)≤k):Df (wLs hn ls ts d s) k t=0:=by
 unfold Df wLs
 rw [List.getD_eq_getElem?_getD,List.getElem?_append_right (by omega)]
 have key:∀a:Lnk,a.2.2.2=(fun _=>0)→∀h,Ge a h=0:=fun a e h=>by
  unfold Ge
  split
  ·rw [e]
  ·rfl
 generalize hj:k.toNat-ls.length=j
 by_cases c:j<(wLk hn d s ts ts.length).length
 ·rw [List.getElem?_eq_getElem c]
  exact key _ (Z4 _ _ (List.getElem_mem _)) _
 ·rw [List.getElem?_eq_none (by omega)]
  exact key _ rfl _
theorem MV {us:List Snd} {ts:List Trp} {d:Dem} {l:List Snd} {o:List Int} {s:Nat} (S:SchOK hn ls us ts d l o) (ok:OKr (wHn hn ts) (wLs hn ls ts d s) (schL hn ls us ts d l o)) :
  BN (wHn hn ts) (wLs hn ls ts d s) (schL hn ls us ts d l o)=BN hn ls l:=by
 rw [Z3 ok,Z3 S.right]
 have e:schL hn ls us ts d l o=Ku (l++CM ls.length ts o ts.length):=by unfold schL;rw[if_pos (sch_zero.2 S)]
 rw [e,jO srtS_perm,PJ]
 have h1:∀m:List Snd,(∀x∈m,0≤x.1∧x.1<(ls.length:Int))→H0 (wLs hn ls ts d s) m=H0 ls m:=by
  intro m
  induction m with
  | nil=>intro _;rfl
  | cons x m ih =>
   intro h
   have hx:=h x List.mem_cons_self
   simp only[H0]
   rw [ih fun y hy=>h y (List.mem_cons_of_mem _ hy),vY hx.1 hx.2]
 have h2:∀m:List Snd,(∀x∈m,(ls.length:Int)≤x.1)→H0 (wLs hn ls ts d s) m=0:=by
  intro m
  induction m with
  | nil=>intro _;rfl
  | cons x m ih =>
   intro h
   simp only[H0]
   rw [ih fun y hy=>h y (List.mem_cons_of_mem _ hy),vZ (h x List.mem_cons_self),Int.mul_zero];rfl
 rw [h1 l (fun x hx=>LI S.right hx),h2 _ (fun x hx=>by
  obtain ⟨i,_,_,_,r⟩:=G8 _ hx
  omega), Int.add_zero]
theorem MW {ts:List Trp} {o:List Int} (n:Nat):∀k,k≤n→F8 ts (Bt o n) k=Cm ts o k
 | 0,_=>rfl
 | k+1,hk=>by
  have ih:=MW (ts:=ts) (o:=o) n k (by omega)
  have hb:=MI (o:=o) (i:=k) n
  rw [decide_eq_true (show k<n by omega),Bool.true_and]at hb
  simp only[F8,Cm,ih]
  by_cases c:0<o.getD k 0
  ·rw [if_pos c,if_pos (by rw[hb];exact decide_eq_true c),Int.one_mul]
  ·rw [if_neg c,if_neg (by rw[hb,decide_eq_false c];decide),Int.zero_mul,Int.add_zero]
theorem Z5 {us:List Snd} {ts:List Trp} {d:Dem} {l:List Snd} {o:List Int} (h:F3 hn ls us ts d l o=0) :
  Th (wHn hn ts) (wLs hn ls ts d (Bt o o.length)) (wUs ls us ts d (Bt o o.length)) (schL hn ls us ts d l o) d:=by
 have S:=Gw h
 unfold F3 at h
 rw [if_neg (fun g=>g (sch_zero.2 S))]at h
 split at h
 ·cases h
 ·rename_i h1
  have h1:=Classical.not_not.1 h1
  have ok:=(serves_iff.1 h).ok
  refine ⟨h,fun i hi=>?_⟩
  have g:=h1 i hi
  have hb:=(ok.bytes i hi).1
  unfold Ade DV at g
  split at g
  ·dsimp only at g;omega
  ·split at g
   ·dsimp only at g;omega
   ·exact g
theorem V2 {us:List Snd} {ts:List Trp} {d:Dem} {l l2:List Snd} {o o2:List Int} {p:List Prf} (hA:Tr hn ls us ts d l o p) (hq:F3 hn ls us ts d l2 o2=0):Et hn ls us ts d l o≤Et hn ls us ts d l2 o2:=by
 obtain ⟨_,hl,hP⟩:=hA
 have S:=Gw hq
 have hpos:=Z5 hq
 have hlt:=IW (o:=o2) o2.length
 have hP:=hP (Bt o2 o2.length) (by rw[hl,←S.loads];exact hlt)
 have e:Et hn ls us ts d l2 o2=BN hn ls l2+Cm ts o2 o2.length:=by unfold Et;rw[if_pos (sch_zero.2 S)]
 have ec:=MV (s:=Bt o2 o2.length) S (serves_iff.1 hpos.1).ok
 unfold okP at hP
 split at hP
 ·exfalso
  have hm:=vX hP.1
  have hfk:DG (wHn hn ts) (wLs hn ls ts d (Bt o2 o2.length)) (wUs ls us ts d (Bt o2 o2.length)) d=0:=by
   have h1:=hP.1
   unfold KB at h1
   split at h1
   ·rename_i g;exact absurd h1 g
   ·rename_i g;exact (pck_zero.1 (Classical.not_not.1 g)).1
  have :=(Yu hfk).1 (Tl hfk hpos).1
  omega
 ·have hb:=PE hP.1 hpos
  have hs:=MW (ts:=ts) (o:=o2) o2.length o2.length (Nat.le_refl _)
  have h2:=hP.2
  rw [←S.loads,hs]at h2
  omega
end
theorem YG {hn:Int} {d:Dem} {s:Nat} {ts:List Trp}:∀n k,k<n→(wLk hn d s ts n).getD (2*k) dL=S1 hn d s ts k∧(wLk hn d s ts n).getD (2*k+1) dL=S3 hn d s ts k
 | 0,k,h=>absurd h (by omega)
 | n+1,k,h=>by
  simp only[wLk]
  have hl:=Js (hn:=hn) (d:=d) (s:=s) (ts:=ts) n
  by_cases e:k=n
  ·subst e
   rw [List.getD_eq_getElem?_getD,List.getD_eq_getElem?_getD,List.getElem?_append_right (by omega),List.getElem?_append_right (by omega),hl,show 2*k-2*k=0 by omega,show 2*k+1-2*k=1 by omega]
   exact ⟨rfl,rfl⟩
  ·have ih:=YG (hn:=hn) (d:=d) (s:=s) (ts:=ts) n k (by omega)
   rw [List.getD_eq_getElem?_getD,List.getD_eq_getElem?_getD]at ih ⊢
   rw [List.getElem?_append_left (by omega),List.getElem?_append_left (by omega)]
   exact ih
section
variable {hn:Int} {ls:List Lnk} {us:List Snd} {ts:List Trp} {d:Dem} {s:Nat}
theorem JA {k:Nat} (h:k<ls.length):(wLs hn ls ts d s).getD k dL=ls.getD k dL:=by
 unfold wLs
 rw [List.getD_eq_getElem?_getD,List.getD_eq_getElem?_getD,List.getElem?_append_left h]
theorem JB {k:Nat} (h:k<ts.length):(wLs hn ls ts d s).getD (ls.length+2*k) dL=S1 hn d s ts k:=by
 have :=(YG (hn:=hn) (d:=d) (s:=s) (ts:=ts) ts.length k h).1
 unfold wLs
 rw [List.getD_eq_getElem?_getD]at this ⊢
 rw [List.getElem?_append_right (by omega),show ls.length+2*k-ls.length=2*k by omega]
 exact this
theorem JC {k:Nat} (h:k<ts.length):(wLs hn ls ts d s).getD (ls.length+2*k+1) dL=S3 hn d s ts k:=by
 have :=(YG (hn:=hn) (d:=d) (s:=s) (ts:=ts) ts.length k h).2
 unfold wLs
 rw [List.getD_eq_getElem?_getD]at this ⊢
 rw [List.getElem?_append_right (by omega),show ls.length+2*k+1-ls.length=2*k+1 by omega]
 exact this
theorem Hc:(wLs hn ls ts d s).length=ls.length+2*ts.length:=by unfold wLs;rw[List.length_append,Js]
section
variable {l:List Snd}
theorem CQ {k:Nat} (h:k<l.length):l.getD k dS∈l:=by
 rw [List.getD_eq_getElem?_getD,List.getElem?_eq_getElem h];exact List.getElem_mem _
theorem YH (a:HG l) {i j:Nat} (hij:i<j) (hj:j<l.length):ltS (l.getD i dS) (l.getD j dS):=by
 unfold HG at a
 rw [List.pairwise_iff_getElem]at a
 have := a i j (by omega) hj hij
 rw [List.getD_eq_getElem?_getD,List.getD_eq_getElem?_getD,List.getElem?_eq_getElem (by omega),List.getElem?_eq_getElem hj]
 exact this
theorem YI (n:OKn hn ls) (hl:l.length≤2000) (h:∀x∈l,(0≤x.1∧x.1<(ls.length:Int))∧(0≤x.2.1∧x.2.1<1000000)∧(1≤x.2.2∧x.2.2≤1073741824)) (a:HG l):OKr hn ls l :=
 ⟨n, hl,fun k hk=>(h _ (CQ hk)).1,fun k hk=>(h _ (CQ hk)).2.1,fun k hk=>(h _ (CQ hk)).2.2,fun k h0 hk=>by
  have := YH a (show k-1<k by omega) hk
  unfold ltS at this;omega⟩
theorem Fq (ok:OKr hn ls l) {x:Snd} (h:x∈l):(0≤x.1∧x.1<(ls.length:Int))∧(0≤x.2.1∧x.2.1<1000000)∧(1≤x.2.2∧x.2.2≤1073741824):=by
 obtain ⟨k,hk,rfl⟩:=G7 h
 exact ⟨ok.link k hk,ok.tick k hk,ok.bytes k hk⟩
end
theorem Tt (V:VoyOK hn ls us ts d):OKn hn ls:=(Ce (BK V.fck).1).1.net
theorem V3 (V:VoyOK hn ls us ts d):OKn (wHn hn ts) (wLs hn ls ts d s):=by
 have n:=Tt V
 have hsz:=V.size
 have split:∀k,k<(wLs hn ls ts d s).length→k<ls.length∨(∃j,j<ts.length∧(k=ls.length+2*j∨k=ls.length+2*j+1)):=fun k hk=>by
  rw [Hc]at hk
  by_cases c:k<ls.length
  ·exact .inl c
  ·refine .inr ⟨(k-ls.length) / 2,by omega,by omega⟩
 refine ⟨?_,by rw[Hc];exact hsz.2.1,fun k hk=>?_,fun k h hk hh=>?_⟩
 ·have := n.houses;unfold wHn;omega
 ·rcases split k hk with c | ⟨j,hj,rfl | rfl⟩
  ·rw [JA c]
   have := n.ends k c
   unfold wHn;omega
  ·rw [JB hj]
   have := V.ends j hj
   show 0≤(ts.getD j dT).1∧(ts.getD j dT).1<wHn hn ts∧0≤hn+(j:Int)∧hn+(j:Int)<wHn hn ts∧(ts.getD j dT).1≠hn+(j:Int)
   unfold wHn;omega
  ·rw [JC hj]
   have := V.ends j hj
   show 0≤hn+(j:Int)∧hn+(j:Int)<wHn hn ts∧0≤(ts.getD j dT).2.1∧(ts.getD j dT).2.1<wHn hn ts∧hn+(j:Int)≠(ts.getD j dT).2.1
   unfold wHn;omega
 ·rcases split k hk with c | ⟨j,hj,rfl | rfl⟩
  ·rw [JA c]
   exact n.hours k h c hh
  ·rw [JB hj]
   have := V.room j hj
   unfold EY Ge S1
   rw [dif_pos hh,dif_pos hh]
   dsimp only
   split <;> omega
  ·rw [JC hj]
   have := V.room j hj
   unfold EY Ge S3
   rw [dif_pos hh,dif_pos hh]
   dsimp only
   split <;> omega
theorem LS {a:Int} (h:Int.tmod a 24=0):∃c:Int,a=24*c:=⟨a.tdiv 24,by have:=Int.mul_tdiv_add_tmod a 24;omega⟩
def InX (L:Nat) (d:Dem) (s:Nat) (ts:List Trp) (k:Nat) (x:Snd):Prop:=onV d s ts k=true∧d.2.2.2.1≤x.2.1∧x.2.1<d.2.2.2.1+(As d:Int)∧x.2.2=(ts.getD k dT).2.2.2.2.2.1∧(x.1=((L+2*k:Nat):Int)∧x.2.1≠(ts.getD k dT).2.2.1∧Int.tmod (x.2.1-(ts.getD k dT).2.2.1) 24=0∨x.1=((L+2*k+1:Nat):Int)∧x.2.1≠(ts.getD k dT).2.2.2.2.1-1∧Int.tmod (x.2.1-((ts.getD k dT).2.2.2.2.1-1)) 24=0)
theorem Z6 {L:Nat} {x:Snd}:∀n,x∈wXt L d s ts n↔∃k,k<n∧InX L d s ts k x
 | 0=>⟨fun h=>by simp[wXt]at h,fun⟨k,h,_⟩=>absurd h (by omega)⟩
 | n + 1=>by
  have ih:=Z6 (L:=L) (x:=x) n
  simp only[wXt]
  have hex:∀tick:Int,d.2.2.2.1≤x.2.1→x.2.1<d.2.2.2.1+(As d:Int)→x.2.1≠tick→Int.tmod (x.2.1-tick) 24=0→x∈Cf d x.1 tick x.2.2 (As d):=fun tick h1 h2 h3 h4=>by
   have e:d.2.2.2.1+((x.2.1-d.2.2.2.1).toNat:Int)=x.2.1:=by omega
   have := Re (d:=d) (link:=x.1) (tick:=tick) (room:=x.2.2) (t:=(x.2.1-d.2.2.2.1).toNat) (by rw[e];exact⟨h3,h4⟩) (As d) (by omega)
   rw [e]at this
   exact this
  constructor
  ·intro h
   split at h
   ·rename_i c
    rcases List.mem_append.1 h with h | h
    ·rcases List.mem_append.1 h with h | h
     ·obtain ⟨k,hk,g⟩:=ih.1 h
      exact ⟨k,by omega,g⟩
     ·obtain ⟨e1,e2,e3,e4,e5,e6⟩:=CG _ h
      exact ⟨n,by omega,c,e2,e3,e6,.inl ⟨e1,e4,e5⟩⟩
    ·obtain ⟨e1,e2,e3,e4,e5,e6⟩:=CG _ h
     exact ⟨n,by omega,c,e2,e3,e6,.inr ⟨e1,e4,e5⟩⟩
   ·obtain ⟨k,hk,g⟩:=ih.1 h
    exact ⟨k,by omega,g⟩
  ·rintro ⟨k,hk,g⟩
   by_cases e:k=n
   ·subst e
    obtain ⟨c,e2,e3,e6,g⟩:=g
    rw [if_pos c]
    rcases g with ⟨e1,e4,e5⟩ | ⟨e1,e4,e5⟩
    ·refine List.mem_append_left _ (List.mem_append_right _ ?_)
     rw [←e1,←e6]
     exact hex _ e2 e3 e4 e5
    ·refine List.mem_append_right _ ?_
     rw [←e1,←e6]
     exact hex _ e2 e3 e4 e5
   ·have := ih.2 ⟨k,by omega,g⟩
    split
    ·exact List.mem_append_left _ (List.mem_append_left _ this)
    ·exact this
theorem V4 {link tick room:Int} (hD:As d≤32) (h0:d.2.2.2.1≤tick) (h1:tick<d.2.2.2.1+(As d:Int)):(Cf d link tick room (As d)).length≤1:=by
 apply Classical.byContradiction
 intro hc
 have a:=YH (Jr (d:=d) (link:=link) (tick:=tick) (room:=room) (As d)) (show 0<1 by omega) (by omega)
 have g0:=CG _ (CQ (l:=Cf d link tick room (As d)) (k:=0) (by omega))
 have g1:=CG _ (CQ (l:=Cf d link tick room (As d)) (k:=1) (by omega))
 obtain ⟨a1,a2,a3,a4,a5,a6⟩:=g0
 obtain ⟨b1,b2,b3,b4,b5,b6⟩:=g1
 obtain ⟨p,hp⟩:=LS a5
 obtain ⟨q,hq⟩:=LS b5
 unfold ltS at a
 omega
theorem Tu (V:VoyOK hn ls us ts d) {k:Nat} (hk:k<ts.length) (h:onV d s ts k=true):s.testBit k=true∧d.2.2.2.1≤(ts.getD k dT).2.2.1∧(ts.getD k dT).2.2.2.2.1≤d.2.2.2.1+(As d:Int):=by
 obtain ⟨_,hdm,hD,hdu⟩:=BK V.fck
 unfold onV usB at h
 simp only[Bool.and_eq_true,decide_eq_true_eq]at h
 exact ⟨h.1,h.2.1,by omega⟩
theorem Z7 (V:VoyOK hn ls us ts d) {L:Nat}:∀k,k≤ts.length→(wXt L d s ts k).length≤2*k
 | 0,_=>by simp[wXt]
 | k+1,hk=>by
  have ih:=Z7 V (L:=L) k (by omega)
  obtain ⟨_,hdm,hD,hdu⟩:=BK V.fck
  simp only[wXt]
  split
  ·rename_i c
   have u:=Tu V (show k<ts.length by omega) c
   have tm:=V.times k (by omega)
   have h1:=V4 (d:=d) (link:=((L+2*k:Nat):Int)) (tick:=(ts.getD k dT).2.2.1) (room:=(ts.getD k dT).2.2.2.2.2.1) hD (by omega) (by omega)
   have h2:=V4 (d:=d) (link:=((L+2*k+1:Nat):Int)) (tick:=(ts.getD k dT).2.2.2.2.1-1) (room:=(ts.getD k dT).2.2.2.2.2.1) hD (by omega) (by omega)
   simp only[List.length_append]
   omega
  ·omega
theorem Tv {k:Nat} (hk:k<ts.length) {t:Int}:CJ (wLs hn ls ts d s) ((ls.length+2*k:Nat):Int) t=if onV d s ts k=true∧t.toNat % 24=(ts.getD k dT).2.2.1.toNat % 24 then (ts.getD k dT).2.2.2.2.2.1 else 0:=by
 have e:(((ls.length+2*k:Nat):Int)).toNat=ls.length+2*k:=Int.toNat_natCast _
 unfold CJ
 rw [e,JB hk]
 unfold EY S1
 rw [dif_pos (Nat.mod_lt _ (by omega))]
theorem Tw {k:Nat} (hk:k<ts.length) {t:Int}:CJ (wLs hn ls ts d s) ((ls.length+2*k+1:Nat):Int) t=if onV d s ts k=true∧t.toNat % 24=((ts.getD k dT).2.2.2.2.1-1).toNat % 24 then (ts.getD k dT).2.2.2.2.2.1 else 0:=by
 have e:(((ls.length+2*k+1:Nat):Int)).toNat=ls.length+2*k+1:=Int.toNat_natCast _
 unfold CJ
 rw [e,JC hk]
 unfold EY S3
 rw [dif_pos (Nat.mod_lt _ (by omega))]
theorem Z8 {a t:Int} (h0:0≤a) (h1:a<(ls.length:Int)):CJ (wLs hn ls ts d s) a t=CJ ls a t:=by
 unfold CJ
 rw [JA (by omega)]
theorem wUs_mem {x:Snd}:x∈wUs ls us ts d s↔x∈us∨∃k,k<ts.length∧InX ls.length d s ts k x:=by
 unfold wUs
 rw [srtS_perm.mem_iff,List.mem_append,Z6]
theorem LU (V:VoyOK hn ls us ts d):OKr (wHn hn ts) (wLs hn ls ts d s) (wUs ls us ts d s):=by
 obtain ⟨hf,hdm,hD,hdu⟩:=BK V.fck
 obtain ⟨oku,_⟩:=Ce hf
 obtain ⟨_,_,hr⟩:=BZ hdm
 have hr2:=hr.2.2.1
 have hr3:=hr.2.2.2.2
 have few:=Z7 V (s:=s) (L:=ls.length) ts.length (Nat.le_refl _)
 have hn4:=V.few
 have hul:=V.size.2.2
 refine YI (V3 V) ?_ (fun x hx=>?_) ?_
 ·unfold wUs
  rw [srtS_perm.length_eq,List.length_append]
  omega
 ·rw [Hc]
  rcases wUs_mem.1 hx with h | ⟨k,hk,c,e2,e3,e6,g⟩
  ·have := Fq oku h
   refine ⟨⟨this.1.1,by omega⟩,this.2⟩
  ·have rm:=V.room k hk
   have u:=Tu V hk c
   have tm:=V.times k hk
   refine ⟨?_,by omega,by omega⟩
   rcases g with ⟨e1,_⟩ | ⟨e1,_⟩ <;> omega
 ·unfold wUs
  exact LA (Rf oku)
theorem V5 (V:VoyOK hn ls us ts d):DG (wHn hn ts) (wLs hn ls ts d s) (wUs ls us ts d s) d=0:=by
 obtain ⟨hf,hdm,hD,hdu⟩:=BK V.fck
 obtain ⟨oku,hcap⟩:=Ce hf
 obtain ⟨⟨a0,a1⟩,⟨c0,c1⟩,hr⟩:=BZ hdm
 have hr2:=hr.2.2.1
 refine fck_zero.2 ⟨SZ (LU V) fun i hi=>?_,?_,by omega⟩
 ·have hx:=CQ hi
  generalize (wUs ls us ts d s).getD i dS=x at *
  rcases wUs_mem.1 hx with h | ⟨k,hk,c,e2,e3,e6,g⟩
  ·obtain ⟨j,hj,rfl⟩:=G7 h
   have := oku.link j hj
   rw [Z8 this.1 this.2]
   exact hcap j hj
  ·have u:=Tu V hk c
   have tm:=V.times k hk
   rcases g with ⟨e1,_,e5⟩ | ⟨e1,_,e5⟩
   ·obtain ⟨p,hp⟩:=LS e5
    rw [e1,Tv hk,if_pos ⟨c,by omega⟩,e6]
    exact Int.le_refl _
   ·obtain ⟨p,hp⟩:=LS e5
    rw [e1,Tw hk,if_pos ⟨c,by omega⟩,e6]
    exact Int.le_refl _
 ·unfold D7
  simp only[Bool.and_eq_true,decide_eq_true_eq,hOK]
  unfold wHn
  exact ⟨⟨⟨a0,by omega⟩,⟨c0,by omega⟩⟩,hr⟩
end
theorem PK {a:Int}:∀ {l:List Snd},(∀x∈l,x.1≠a)→byt a l=0
 | [],_=>rfl
 | x::l,h=>by
  rw [byt,PK fun y hy=>h y (List.mem_cons_of_mem _ hy),if_neg (h x List.mem_cons_self)];rfl
theorem PN {a:Int} {l:List Snd} (h:byt a l≠0):∃y∈l,y.1=a:=by
 apply Classical.byContradiction
 intro c
 exact h (PK fun x hx e=>c ⟨x,hx,e⟩)
theorem Tx {a τ:Int}:∀ {l:List Snd},Dv l→(∀x∈l,x.1=a→x.2.1=τ)→∀y∈l,y.1=a→byt a l=y.2.2
 | [],_,_,y,hy,_=>by simp at hy
 | x::l,hk,ht,y,hy,e=>by
  obtain ⟨h1,h2⟩:=List.pairwise_cons.1 hk
  rw [byt]
  rcases List.mem_cons.1 hy with rfl | hy
  ·rw [PK fun z hz ez=>h1 z hz ⟨by rw[ht _ List.mem_cons_self e,ht z (List.mem_cons_of_mem _ hz) ez],by rw[e,ez]⟩,if_pos e]
   omega
  ·have hx:x.1≠a:=fun ex=>h1 y hy ⟨by rw[ht _ List.mem_cons_self ex,ht y (List.mem_cons_of_mem _ hy) e],by rw[e,ex]⟩
   rw [Tx h2 (fun z hz=>ht z (List.mem_cons_of_mem _ hz)) y hy e,if_neg hx]
   omega
def stL (a t:Int):List Snd→Int
 | []=>0
 | x::l=>stL a t l+if x.1=a∧x.2.1=t then x.2.2 else 0
theorem Ty {a t:Int} {m:List Snd}:∀ {l:List Snd},stL a t (l++m)=stL a t l+stL a t m
 | []=>by simp[stL]
 | x::l=>by
  have := Ty (a:=a) (t:=t) (m:=m) (l:=l)
  simp only[List.cons_append,stL,this];omega
theorem wA {a t:Int} {l m:List Snd} (h:l.Perm m):stL a t l=stL a t m:=by
 induction h with
 | nil=>rfl
 | cons x _ ih=>simp only[stL,ih]
 | swap x y l=>simp only[stL];omega
 | trans _ _ h1 h2=>exact h1.trans h2
theorem PO {a t:Int}:∀ {l:List Snd},(∀x∈l,¬(x.1=a∧x.2.1=t))→stL a t l=0
 | [],_=>rfl
 | x::l,h=>by rw[stL,PO fun y hy=>h y (List.mem_cons_of_mem _ hy),if_neg (h x List.mem_cons_self)];rfl
theorem Tz {a t:Int}:∀ {l:List Snd},(∀x∈l,0≤x.2.2)→0≤stL a t l
 | [],_=>Int.le_refl _
 | x::l,h=>by
  have ih:=Tz (a:=a) (t:=t) (l:=l) fun y hy=>h y (List.mem_cons_of_mem _ hy)
  have := h x List.mem_cons_self
  simp only[stL]
  split <;> omega
theorem Z9:∀ {l:List Snd},(∀x∈l,0≤x.2.2)→∀y∈l,y.2.2≤stL y.1 y.2.1 l
 | [],_,y,hy=>by simp at hy
 | x::l,h,y,hy=>by
  have hn:=Tz (a:=y.1) (t:=y.2.1) (l:=l) fun y hy=>h y (List.mem_cons_of_mem _ hy)
  have hx:=h x List.mem_cons_self
  simp only[stL]
  rcases List.mem_cons.1 hy with rfl | hy
  ·rw [if_pos ⟨rfl,rfl⟩];omega
  ·have := Z9 (l:=l) (fun y hy=>h y (List.mem_cons_of_mem _ hy)) y hy
   split <;> omega
theorem V6 {l:List Snd} {k:Nat} (h:k<l.length):l.take (k+1)=l.take k ++ [l.getD k dS]:=by
 rw [List.take_add_one,List.getD_eq_getElem?_getD,List.getElem?_eq_getElem h];rfl
theorem aA {a t:Int} {l:List Snd}:∀k,k≤l.length→Bg l a t k=stL a t (l.take k)
 | 0,_=>by simp[Bg,stL]
 | k+1,hk=>by
  rw [V6 hk,Ty,Bg,aA k (by omega)]
  simp only[stL];omega
theorem YJ {a t:Int} {l:List Snd}:Bg l a t l.length=stL a t l:=by rw[aA _ (Nat.le_refl _),List.take_length]
def hvL (ls:List Lnk) (a t:Int):List Snd→Int
 | []=>0
 | x::l=>hvL ls a t l+CU ls x a t
theorem aB {ls:List Lnk} {a t:Int} {m:List Snd}:∀ {l:List Snd},hvL ls a t (l++m)=hvL ls a t l+hvL ls a t m
 | []=>by simp[hvL]
 | x::l=>by
  have := aB (ls:=ls) (a:=a) (t:=t) (m:=m) (l:=l)
  simp only[List.cons_append,hvL,this];omega
theorem aC {ls:List Lnk} {a t:Int} {l:List Snd}:∀k,k≤l.length→EN ls l a t k=hvL ls a t (l.take k)
 | 0,_=>by simp[EN,hvL]
 | k+1,hk=>by
  rw [V6 hk,aB,EN,aC k (by omega)]
  simp only[hvL];omega
theorem Aki {ls:List Lnk} {a t:Int} {l:List Snd}:EN ls l a t l.length=hvL ls a t l:=by rw[aC _ (Nat.le_refl _),List.take_length]
theorem PP {l:List Snd} (h:Dv l):l.Nodup:=List.Pairwise.imp (fun {x y} g e=>g ⟨by rw[e],by rw[e]⟩) h
theorem Aev {l:List Snd} (a:HG l) {r:Int} {D:Nat} (h:∀x∈l,(0≤x.1∧x.1<60)∧r≤x.2.1∧x.2.1<r+(D:Int)):l.length≤60*D:=by
 have key:∀k:Nat,k<l.length→60*r+(k:Int)≤60*(l.getD k dS).2.1+(l.getD k dS).1:=by
  intro k
  induction k with
  | zero =>
   intro hk
   have := h _ (CQ hk)
   omega
  | succ k ih =>
   intro hk
   have h1:=ih (by omega)
   have h2:=YH a (show k<k+1 by omega) hk
   have h3:=h _ (CQ hk)
   have h4:=h _ (CQ (show k<l.length by omega))
   unfold ltS at h2
   omega
 by_cases e:l.length=0
 ·omega
 ·have h1:=key (l.length-1) (by omega)
  have h2:=h _ (CQ (show l.length-1<l.length by omega))
  omega
theorem MX {L:Nat} {ts:List Trp} {o:List Int} {i:Nat} (h:0<o.getD i 0):∀k,i<k→(((L+2*i:Nat):Int),(ts.getD i dT).2.2.1,o.getD i 0)∈CM L ts o k∧(((L+2*i+1:Nat):Int),(ts.getD i dT).2.2.2.2.1-1,o.getD i 0)∈CM L ts o k
 | 0,hk=>absurd hk (by omega)
 | k+1,hk=>by
  simp only[CM]
  by_cases e:i=k
  ·subst e
   rw [if_pos h]
   exact ⟨List.mem_append_right _ List.mem_cons_self,List.mem_append_right _ (List.mem_cons_of_mem _ List.mem_cons_self)⟩
  ·have ih:=MX (L:=L) (ts:=ts) h k (by omega)
   split
   ·exact ⟨List.mem_append_left _ ih.1,List.mem_append_left _ ih.2⟩
   ·exact ih
theorem wB {f:Nat→Int}:∀ {n:Nat},(∀i,i<n→0≤f i)→∀ {a c},a<n→c<n→a≠c→f a+f c≤Sm f n
 | 0,_,a,c,ha,_,_=>absurd ha (by omega)
 | n+1,h,a,c,ha,hc,hac=>by
  have hn:=h n (by omega)
  simp only[Sm]
  by_cases e1:a=n
  ·have := sU (f:=f) (n:=n) (k:=c) (fun i hi=>h i (by omega)) (by omega)
   rw [e1];omega
  ·by_cases e2:c=n
   ·have := sU (f:=f) (n:=n) (k:=a) (fun i hi=>h i (by omega)) (by omega)
    rw [e2];omega
   ·have := wB (f:=f) (n:=n) (fun i hi=>h i (by omega)) (a:=a) (c:=c) (by omega) (by omega) hac
    omega
section
variable {hn:Int} {ls:List Lnk} {us:List Snd} {ts:List Trp} {d:Dem} {s:Nat}
theorem jP {s2:Nat} {x:Snd} (h:0≤x.1∧x.1<((ls.length+2*ts.length:Nat):Int)):(Bd (wLs hn ls ts d s) x).1=(Bd (wLs hn ls ts d s2) x).1∧(Bd (wLs hn ls ts d s) x).2.1=(Bd (wLs hn ls ts d s2) x).2.1:=by
 unfold Bd
 by_cases c:x.1.toNat<ls.length
 ·rw [JA c,JA c];exact⟨rfl,rfl⟩
 ·obtain ⟨j,hj,e | e⟩:∃j,j<ts.length∧(x.1.toNat=ls.length+2*j∨x.1.toNat=ls.length+2*j+1):=⟨(x.1.toNat-ls.length) / 2,by omega,by omega⟩
  ·rw [e,JB hj,JB hj];exact⟨rfl,rfl⟩
  ·rw [e,JC hj,JC hj];exact⟨rfl,rfl⟩
theorem wC (V:VoyOK hn ls us ts d) {k:Nat} {t:Int}:∀ {l:List Snd},(∀x∈l,(0≤x.1∧x.1<((ls.length+2*ts.length:Nat):Int))∧x.2.1<t)→hvL (wLs hn ls ts d s) (hn+(k:Int)) t l=byt ((ls.length+2*k:Nat):Int) l-byt ((ls.length+2*k+1:Nat):Int) l
 | [],_=>rfl
 | x :: l,h=>by
  have ih:=wC V (k:=k) (t:=t) (l:=l) fun y hy=>h y (List.mem_cons_of_mem _ hy)
  obtain ⟨⟨x0,x1⟩,x2⟩:=h x List.mem_cons_self
  simp only[hvL,byt,ih]
  unfold CU
  rw [if_pos x2]
  unfold Bd
  by_cases c:x.1.toNat<ls.length
  ·rw [JA c]
   have e:=(Tt V).ends _ c
   rw [if_neg (by omega),if_neg (by omega),if_neg (by omega),if_neg (by omega)]
   omega
  ·obtain ⟨j,hj,e | e⟩:∃j,j<ts.length∧(x.1.toNat=ls.length+2*j∨x.1.toNat=ls.length+2*j+1):=⟨(x.1.toNat-ls.length) / 2,by omega,by omega⟩
   ·have g:=V.ends j hj
    rw [e,JB hj]
    rw [show (S1 hn d s ts j).2.1=hn+(j:Int) from rfl,show (S1 hn d s ts j).1=(ts.getD j dT).1 from rfl]
    by_cases q:j=k
    ·subst q
     rw [if_pos rfl,if_neg (show ¬(ts.getD j dT).1=hn+(j:Int) by omega),if_pos (by omega),if_neg (by omega)]
     omega
    ·rw [if_neg (by omega),if_neg (show ¬(ts.getD j dT).1=hn+(k:Int) by omega),if_neg (by omega),if_neg (by omega)]
     omega
   ·have g:=V.ends j hj
    rw [e,JC hj]
    rw [show (S3 hn d s ts j).2.1=(ts.getD j dT).2.1 from rfl,show (S3 hn d s ts j).1=hn+(j:Int) from rfl]
    by_cases q:j=k
    ·subst q
     rw [if_neg (show ¬(ts.getD j dT).2.1=hn+(j:Int) by omega),if_pos rfl,if_neg (by omega),if_pos (by omega)]
     omega
    ·rw [if_neg (show ¬(ts.getD j dT).2.1=hn+(k:Int) by omega),if_neg (by omega),if_neg (by omega),if_neg (by omega)]
     omega
theorem wE (V:VoyOK hn ls us ts d) {C:List Snd} (ok:OKr (wHn hn ts) (wLs hn ls ts d s) C) (hb:∀i,i<C.length→(C.getD i dS).2.2≤CJ (wLs hn ls ts d s) (C.getD i dS).1 (C.getD i dS).2.1-Bg (wUs ls us ts d s) (C.getD i dS).1 (C.getD i dS).2.1 (wUs ls us ts d s).length)
  (ht : ∀i,i<C.length→d.2.2.2.1≤(C.getD i dS).2.1∧(C.getD i dS).2.1<d.2.2.2.2) {k:Nat} (hk:k<ts.length) {x:Snd} (hx:x∈C) :
  (x.1 =((ls.length+2*k:Nat):Int)→onV d s ts k=true∧x.2.1=(ts.getD k dT).2.2.1∧x.2.2≤(ts.getD k dT).2.2.2.2.2.1)∧(x.1=((ls.length+2*k+1:Nat):Int)→onV d s ts k=true∧x.2.1=(ts.getD k dT).2.2.2.2.1-1∧x.2.2≤(ts.getD k dT).2.2.2.2.2.1):=by
 obtain ⟨_,hdm,hD,hdu⟩:=BK V.fck
 obtain ⟨_,_,hr⟩:=BZ hdm
 have hr2:=hr.2.2.1
 obtain ⟨i,hi,rfl⟩:=G7 hx
 have hb:=hb i hi
 have ht:=ht i hi
 have hbb:=ok.bytes i hi
 have hnn:∀y∈wUs ls us ts d s,0≤y.2.2:=fun y hy=>by have:=(Fq (LU V (s:=s)) hy).2.2;omega
 have tm:=V.times k hk
 generalize C.getD i dS=x at *
 rw [YJ]at hb
 have h0:=Tz (a:=x.1) (t:=x.2.1) hnn
 have fin:∀tick:Int,0≤tick→onV d s ts k=true→x.2.1.toNat % 24=tick.toNat % 24→x.2.2≤(ts.getD k dT).2.2.2.2.2.1-stL x.1 x.2.1 (wUs ls us ts d s)→(x.2.1≠tick→Int.tmod (x.2.1-tick) 24=0→InX ls.length d s ts k (x.1,x.2.1,(ts.getD k dT).2.2.2.2.2.1))→x.2.1=tick:=fun tick t0 c e g hin=>by
  apply Classical.byContradiction
  intro hne
  have hdv:Int.tmod (x.2.1-tick) 24=0:=Int.tmod_eq_zero_of_dvd (by omega)
  have := Z9 hnn _ (wUs_mem.2 (.inr ⟨k,hk,hin hne hdv⟩))
  dsimp only at this
  omega
 refine ⟨fun e=>?_,fun e=>?_⟩
 ·have hb2:=hb
  rw [e,Tv hk,←e]at hb2
  split at hb2
  ·rename_i c
   refine ⟨c.1,fin _ tm.1 c.1 c.2 hb2 fun hne hdv=>⟨c.1,ht.1,by dsimp only;omega,rfl,.inl ⟨e,hne,hdv⟩⟩,by omega⟩
  ·omega
 ·have hb2:=hb
  rw [e,Tw hk,←e]at hb2
  split at hb2
  ·rename_i c
   refine ⟨c.1,fin _ (by omega) c.1 c.2 hb2 fun hne hdv=>⟨c.1,ht.1,by dsimp only;omega,rfl,.inr ⟨e,hne,hdv⟩⟩,by omega⟩
  ·omega
end
section
variable {hn:Int} {ls:List Lnk} {us:List Snd} {ts:List Trp} {d:Dem} {s:Nat}
theorem wF {a:Int}:∀ {l:List Snd},(∀x∈l,1≤x.2.2)→0≤byt a l
 | [],_=>Int.le_refl _
 | x::l,h=>by
  have ih:=wF (a:=a) (l:=l) fun y hy=>h y (List.mem_cons_of_mem _ hy)
  have := h x List.mem_cons_self
  simp only[byt]
  split <;> omega
structure WPlan (hn:Int) (ls:List Lnk) (us:List Snd) (ts:List Trp) (d:Dem) (s:Nat) (C:List Snd):Prop where
 voy : VoyOK hn ls us ts d
 sv : Serving (wHn hn ts) (wLs hn ls ts d s) C d
 bes : ∀i,i<C.length→(C.getD i dS).2.2≤CJ (wLs hn ls ts d s) (C.getD i dS).1 (C.getD i dS).2.1-Bg (wUs ls us ts d s) (C.getD i dS).1 (C.getD i dS).2.1 (wUs ls us ts d s).length
 tk : ∀i,i<C.length→d.2.2.2.1≤(C.getD i dS).2.1∧(C.getD i dS).2.1<d.2.2.2.2
theorem jQ (V:VoyOK hn ls us ts d) (h:CX hn ls us ts d s=0):WPlan hn ls us ts d s (KH hn ls us ts d s):=by
 obtain ⟨_,_,ho⟩:=ER h
 exact ⟨V,serves_iff.1 ho.serves,ho.besides,ho.ticks⟩
variable {C:List Snd}
theorem WPlan.link (W:WPlan hn ls us ts d s C) {x:Snd} (hx:x∈C):0≤x.1∧x.1<((ls.length+2*ts.length:Nat):Int):=by
 have :=(Fq W.sv.ok hx).1
 rw [Hc]at this
 exact this
theorem WPlan.keys (W:WPlan hn ls us ts d s C):Dv C:=G5 (Jq W.sv.ok)
theorem WPlan.mid (W:WPlan hn ls us ts d s C) {k:Nat} (hk:k<ts.length):byt ((ls.length+2*k:Nat):Int) C=byt ((ls.length+2*k+1:Nat):Int) C:=by
 obtain ⟨hf,hdm,hD,hdu⟩:=BK W.voy.fck
 obtain ⟨⟨a0,a1⟩,⟨c0,c1⟩,hr⟩:=BZ hdm
 have e:=wC W.voy (s:=s) (k:=k) (t:=d.2.2.2.2) (l:=C) fun x hx=>by
  obtain ⟨i,hi,rfl⟩:=G7 hx
  exact ⟨W.link (CQ hi),(W.tk i hi).2⟩
 have hs:=Vv W.sv d.2.2.2.2
 rw [if_pos (by omega)]at hs
 have hw:wHn hn ts=hn+(ts.length:Int):=rfl
 have h2:=wB (f:=fun a:Nat=>Bh (wLs hn ls ts d s) C d (a:Int) d.2.2.2.2) (n:=(wHn hn ts).toNat) (fun i _=>EP W.sv _ _) (a:=d.2.1.toNat) (c:=hn.toNat+k) (by omega) (by omega) (by omega)
 have late:=W.sv.late
 rw [show ((d.2.1.toNat:Nat):Int)=d.2.1 by omega,show ((hn.toNat+k:Nat):Int)=hn+(k:Int) by omega]at h2
 have h3:=EP W.sv (hn+(k:Int)) d.2.2.2.2
 have h4:Bh (wLs hn ls ts d s) C d (hn+(k:Int)) d.2.2.2.2=hvL (wLs hn ls ts d s) (hn+(k:Int)) d.2.2.2.2 C:=by
  unfold Bh Ds
  rw [if_neg (by omega),Aki];omega
 omega
theorem WPlan.one (W:WPlan hn ls us ts d s C) {k:Nat} (hk:k<ts.length) {x:Snd} (hx:x∈C):(x.1=((ls.length+2*k:Nat):Int)→onV d s ts k=true∧x.2.1=(ts.getD k dT).2.2.1∧x.2.2≤(ts.getD k dT).2.2.2.2.2.1∧byt ((ls.length+2*k:Nat):Int) C=x.2.2)∧(x.1=((ls.length+2*k+1:Nat):Int)→onV d s ts k=true∧x.2.1=(ts.getD k dT).2.2.2.2.1-1∧x.2.2≤(ts.getD k dT).2.2.2.2.2.1∧byt ((ls.length+2*k+1:Nat):Int) C=x.2.2):=by
 have t:=fun {y:Snd} (hy:y∈C)=>wE W.voy W.sv.ok W.bes W.tk hk hy
 refine ⟨fun e=>?_,fun e=>?_⟩
 ·obtain ⟨h1,h2,h3⟩:=(t hx).1 e
  exact ⟨h1,h2,h3,Tx W.keys (fun y hy ey=>((t hy).1 ey).2.1) x hx e⟩
 ·obtain ⟨h1,h2,h3⟩:=(t hx).2 e
  exact ⟨h1,h2,h3,Tx W.keys (fun y hy ey=>((t hy).2 ey).2.1) x hx e⟩
theorem WPlan.on (W:WPlan hn ls us ts d s C) {k:Nat} (hk:k<ts.length):(psO ls.length ts.length C).getD k 0=byt ((ls.length+2*k+1:Nat):Int) C∧0≤(psO ls.length ts.length C).getD k 0∧(psO ls.length ts.length C).getD k 0≤(ts.getD k dT).2.2.2.2.2.1∧(0<(psO ls.length ts.length C).getD k 0→onV d s ts k=true):=by
 rw [Yx hk]
 have rm:=W.voy.room k hk
 have nn:=wF (a:=((ls.length+2*k+1:Nat):Int)) (l:=C) fun x hx=>(Fq W.sv.ok hx).2.2.1
 by_cases c:byt ((ls.length+2*k+1:Nat):Int) C=0
 ·exact ⟨rfl,nn,by omega,fun h=>by omega⟩
 ·obtain ⟨y,hy,ey⟩:=PN c
  obtain ⟨h1,h2,h3,h4⟩:=(W.one hk hy).2 ey
  exact ⟨rfl,nn,by omega,fun _=>h1⟩
theorem WPlan.perm (W:WPlan hn ls us ts d s C):C.Perm (psS ls.length C++CM ls.length ts (psO ls.length ts.length C) ts.length):=by
 have hp:(psS ls.length C++C.filter fun x => !decide (x.1<(ls.length:Int))).Perm C:=List.filter_append_perm _ _
 refine hp.symm.trans (List.Perm.append_left _ ?_)
 refine (List.perm_ext_iff_of_nodup ((PP W.keys).filter _) (PP (Kw _))).2 fun x=>?_
 rw [List.mem_filter,Bool.not_eq_true',decide_eq_false_iff_not]
 constructor
 ·rintro ⟨hx,hL⟩
  have hl:=W.link hx
  have hb:=(Fq W.sv.ok hx).2.2
  obtain ⟨j,hj,e | e⟩:∃j,j<ts.length∧(x.1=((ls.length+2*j:Nat):Int)∨x.1=((ls.length+2*j+1:Nat):Int)):=⟨(x.1.toNat-ls.length) / 2,by omega,by omega⟩
  ·obtain ⟨h1,h2,h3,h4⟩:=(W.one hj hx).1 e
   have o:=(W.on hj).1
   have m:=W.mid hj
   have :=(MX (L:=ls.length) (ts:=ts) (o:=psO ls.length ts.length C) (i:=j) (by omega) ts.length hj).1
   rw [o,←m,h4,←h2,←e]at this
   exact this
  ·obtain ⟨h1,h2,h3,h4⟩:=(W.one hj hx).2 e
   have o:=(W.on hj).1
   have :=(MX (L:=ls.length) (ts:=ts) (o:=psO ls.length ts.length C) (i:=j) (by omega) ts.length hj).2
   rw [o,h4,←h2,←e]at this
   exact this
 ·intro hx
  obtain ⟨i,hi,h0,h1,g⟩:=G8 _ hx
  have o:=(W.on hi).1
  have m:=W.mid hi
  rw [o]at h0 h1
  rcases g with ⟨e,et⟩ | ⟨e,et⟩
  ·obtain ⟨y,hy,ey⟩:=PN (a:=((ls.length+2*i:Nat):Int)) (l:=C) (by omega)
   obtain ⟨_,k2,_,k4⟩:=(W.one hi hy).1 ey
   have : y=x:=Prod.ext (by omega) (Prod.ext (by omega) (by omega))
   subst this
   exact ⟨hy,by omega⟩
  ·obtain ⟨y,hy,ey⟩:=PN (a:=((ls.length+2*i+1:Nat):Int)) (l:=C) (by omega)
   obtain ⟨_,k2,_,k4⟩:=(W.one hi hy).2 ey
   have : y=x:=Prod.ext (by omega) (Prod.ext (by omega) (by omega))
   subst this
   exact ⟨hy,by omega⟩
theorem WPlan.sch (W:WPlan hn ls us ts d s C):SchOK hn ls us ts d (psS ls.length C) (psO ls.length ts.length C):=by
 have V:=W.voy
 obtain ⟨hf,hdm,hD,hdu⟩:=BK V.fck
 have hsub:(psS ls.length C).Sublist C:=List.filter_sublist
 have hasc:HG (psS ls.length C):=(Jq W.sv.ok).sublist hsub
 have hmem:∀x∈psS ls.length C,x∈C∧x.1<(ls.length:Int):=fun x hx=>by
  have := List.mem_filter.1 hx
  exact ⟨this.1,of_decide_eq_true this.2⟩
 have hll:=V.size.2.1
 have hlen:(psS ls.length C).length≤60*As d:=Aev hasc fun x hx=>by
  obtain ⟨h1,h2⟩:=hmem x hx
  have := W.link h1
  obtain ⟨i,hi,rfl⟩:=G7 h1
  have := W.tk i hi
  exact ⟨by omega,this.1,by omega⟩
 refine ⟨V,YI (Tt V) (by omega) (fun x hx=>?_) hasc,by omega,HK,fun k hk=>?_⟩
 ·obtain ⟨h1,h2⟩:=hmem x hx
  have := Fq W.sv.ok h1
  exact ⟨⟨this.1.1,h2⟩,this.2⟩
 ·obtain ⟨_,h1,h2,_⟩:=W.on hk
  exact ⟨h1,h2⟩
theorem WPlan.schL (W:WPlan hn ls us ts d s C):schL hn ls us ts d (psS ls.length C) (psO ls.length ts.length C)=C:=by
 unfold Sim.schL
 rw [if_pos (sch_zero.2 W.sch)]
 exact Ai7 (Jq W.sv.ok) W.perm.symm
theorem WPlan.bit (W:WPlan hn ls us ts d s C) {k:Nat} (hk:k<ts.length) (h:0<(psO ls.length ts.length C).getD k 0):onV d (Bt (psO ls.length ts.length C) (psO ls.length ts.length C).length) ts k=true:=by
 have h1:=(W.on hk).2.2.2 h
 have hb:=MI (o:=psO ls.length ts.length C) (i:=k) (psO ls.length ts.length C).length
 rw [decide_eq_true h,decide_eq_true (show k<(psO ls.length ts.length C).length by rw[HK];exact hk)]at hb
 unfold onV at h1 ⊢
 simp only[Bool.and_eq_true]at h1
 rw [hb,h1.2];rfl
theorem WPlan.thin (W:WPlan hn ls us ts d s C):WPlan hn ls us ts d (Bt (psO ls.length ts.length C) (psO ls.length ts.length C).length) C:=by
 have V:=W.voy
 have hbit:=fun {k:Nat} (hk:k<ts.length)=>W.bit hk
 generalize hs2:Bt (psO ls.length ts.length C) (psO ls.length ts.length C).length=s2 at *
 have bes:∀i,i<C.length→(C.getD i dS).2.2≤CJ (wLs hn ls ts d s2) (C.getD i dS).1 (C.getD i dS).2.1-Bg (wUs ls us ts d s2) (C.getD i dS).1 (C.getD i dS).2.1 (wUs ls us ts d s2).length:=fun i hi=>by
  have h0:=W.bes i hi
  have hx:=CQ hi
  have tk:=W.tk i hi
  generalize C.getD i dS=x at *
  have hl:=W.link hx
  have hb:=(Fq W.sv.ok hx).2.2
  rw [YJ]at h0 ⊢
  by_cases c:x.1<(ls.length:Int)
  ·rw [Z8 hl.1 c]at h0 ⊢
   have key:∀s',stL x.1 x.2.1 (wUs ls us ts d s')=stL x.1 x.2.1 us:=fun s'=>by
    unfold wUs
    rw [wA srtS_perm,Ty,PO (l:=wXt ls.length d s' ts ts.length) fun y hy g=>by have:=IY _ hy;omega]
    omega
   rw [key]at h0 ⊢
   exact h0
  ·have zero:∀ {k:Nat},k<ts.length→(x.1=((ls.length+2*k:Nat):Int)∧x.2.1=(ts.getD k dT).2.2.1∨x.1=((ls.length+2*k+1:Nat):Int)∧x.2.1=(ts.getD k dT).2.2.2.2.1-1)→stL x.1 x.2.1 (wUs ls us ts d s2)=0:=fun {k} hk g=>by
    refine PO fun y hy ey=>?_
    rcases wUs_mem.1 hy with h | ⟨j,hj,_,_,_,_,g2⟩
    ·have := LI (Ce (BK V.fck).1).1 h
     omega
    ·have ejk:j=k:=by omega
     subst ejk
     omega
   obtain ⟨j,hj,e | e⟩:∃j,j<ts.length∧(x.1=((ls.length+2*j:Nat):Int)∨x.1=((ls.length+2*j+1:Nat):Int)):=⟨(x.1.toNat-ls.length) / 2,by omega,by omega⟩
   ·obtain ⟨h1,h2,h3,h4⟩:=(W.one hj hx).1 e
    have o:=(W.on hj).1
    have m:=W.mid hj
    have hon:=hbit hj (by omega)
    rw [zero hj (.inl ⟨e,h2⟩),e,Tv hj,if_pos ⟨hon,by rw[h2]⟩]
    omega
   ·obtain ⟨h1,h2,h3,h4⟩:=(W.one hj hx).2 e
    have o:=(W.on hj).1
    have hon:=hbit hj (by omega)
    rw [zero hj (.inr ⟨e,h2⟩),e,Tw hj,if_pos ⟨hon,by rw[h2]⟩]
    omega
 have ok2:OKr (wHn hn ts) (wLs hn ls ts d s2) C:=YI (V3 V) W.sv.ok.len (fun x hx=>by
  have := Fq W.sv.ok hx
  have hl:=W.link hx
  rw [Hc]
  exact ⟨hl,this.2⟩) (Jq W.sv.ok)
 have ends2:∀x∈C,(Bd (wLs hn ls ts d s2) x).1=(Bd (wLs hn ls ts d s) x).1∧(Bd (wLs hn ls ts d s2) x).2.1=(Bd (wLs hn ls ts d s) x).2.1:=fun x hx=>jP (W.link hx)
 have hv:∀a t,Bh (wLs hn ls ts d s2) C d a t=Bh (wLs hn ls ts d s) C d a t:=fun a t=>by
  unfold Bh
  rw [EO,EO,JY fun i hi=>by
   obtain ⟨e1,e2⟩:=ends2 _ (CQ hi)
   show CU (wLs hn ls ts d s2) (C.getD i dS) a t=CU (wLs hn ls ts d s) (C.getD i dS) a t
   unfold CU
   rw [e1,e2]]
 have fr:∀i,i<C.length→frM (wLs hn ls ts d s2) C i=frM (wLs hn ls ts d s) C i:=fun i hi=>(ends2 _ (CQ hi)).1
 refine ⟨V,⟨ok2,W.sv.from_,W.sv.to_,W.sv.dem,SZ ok2 fun i hi=>?_,fun k hk=>?_,?_⟩,bes,W.tk⟩
 ·have h1:=bes i hi
  have h2:=Tz (a:=(C.getD i dS).1) (t:=(C.getD i dS).2.1) (l:=wUs ls us ts d s2) fun y hy=>by have:=(Fq (LU V (s:=s2)) hy).2.2;omega
  rw [YJ]at h1
  omega
 ·rw [fr k hk,hv]
  have := W.sv.fed k hk
  rw [NI]at this ⊢
  rw [JY fun i hi=>by
   show (if (C.getD i dS).2.1=(C.getD k dS).2.1∧frM (wLs hn ls ts d s2) C i=frM (wLs hn ls ts d s) C k then (C.getD i dS).2.2 else 0)=(if (C.getD i dS).2.1=(C.getD k dS).2.1∧frM (wLs hn ls ts d s) C i=frM (wLs hn ls ts d s) C k then (C.getD i dS).2.2 else 0)
   rw [fr i hi]]
  exact this
 ·rw [hv]
  exact W.sv.late
theorem jR (V:VoyOK hn ls us ts d) {x:Snd} (h1:0≤x.1∧x.1<((ls.length+2*ts.length:Nat):Int)) (h2:0≤x.2.1∧x.2.1<1000000):DV (wHn hn ts) (wLs hn ls ts d s) (wUs ls us ts d s) x.1 x.2.1=(CJ (wLs hn ls ts d s) x.1 x.2.1-Bg (wUs ls us ts d s) x.1 x.2.1 (wUs ls us ts d s).length,0):=by
 unfold DV
 rw [if_neg (fun g=>g (right_zero.2 (LU V))),if_neg (by rw[Hc];omega)]
theorem WPlan.srv (W:WPlan hn ls us ts d s C):F3 hn ls us ts d (psS ls.length C) (psO ls.length ts.length C)=0:=by
 have W2:=W.thin
 have hB:∀i,i<C.length→(C.getD i dS).2.2≤(DV (wHn hn ts) (wLs hn ls ts d (Bt (psO ls.length ts.length C) (psO ls.length ts.length C).length)) (wUs ls us ts d (Bt (psO ls.length ts.length C) (psO ls.length ts.length C).length)) (C.getD i dS).1 (C.getD i dS).2.1).1:=fun i hi=>by
  rw [jR W.voy (W.link (CQ hi)) (W.sv.ok.tick i hi)]
  exact W2.bes i hi
 unfold F3 Ade
 rw [if_neg (fun g=>g (sch_zero.2 W.sch)),W.schL,if_neg (fun g=>g hB)]
 exact serves_iff.2 W2.sv
theorem aD {o:List Int} {s:Nat} (hp:Yw ts) (h:∀k,k<ts.length→0<o.getD k 0→s.testBit k=true):∀k,k≤ts.length→Cm ts o k≤F8 ts s k
 | 0,_=>Int.le_refl _
 | k+1,hk=>by
  have ih:=aD hp h k (by omega)
  have hk2:=h k (by omega)
  have := hp.2 k (by omega)
  simp only[Cm,F8]
  by_cases c:0<o.getD k 0
  ·rw [if_pos c,if_pos (hk2 c),Int.one_mul];omega
  ·rw [if_neg c]
   split
   ·rw [Int.one_mul];omega
   ·rw [Int.zero_mul];omega
theorem WPlan.cost (W:WPlan hn ls us ts d s C):Et hn ls us ts d (psS ls.length C) (psO ls.length ts.length C)≤BN (wHn hn ts) (wLs hn ls ts d s) C+F8 ts s ts.length:=by
 have S:=W.sch
 have e:=MV (s:=s) S (by rw[W.schL];exact W.sv.ok)
 rw [W.schL]at e
 unfold Et
 rw [if_pos (sch_zero.2 S),S.loads,e]
 have := aD (o:=psO ls.length ts.length C) (s:=s) (MM W.voy) (fun k hk h=>by
  have :=(W.on hk).2.2.2 h
  unfold onV at this
  simp only[Bool.and_eq_true]at this
  exact this.1) ts.length (Nat.le_refl _)
 omega
end
section
variable {hn:Int} {ls:List Lnk} {us:List Snd} {ts:List Trp} {d:Dem}
noncomputable def wCo (hn:Int) (ls:List Lnk) (us:List Snd) (ts:List Trp) (d:Dem) (s:Nat):Int:=BN (wHn hn ts) (wLs hn ls ts d s) (KH hn ls us ts d s)+F8 ts s ts.length
noncomputable def lsT (hn:Int) (ls:List Lnk) (us:List Snd) (ts:List Trp) (d:Dem):Nat→Int
 | 0 => -1
 | s+1=>if CX hn ls us ts d s=0∧(lsT hn ls us ts d s<0∨wCo hn ls us ts d s<lsT hn ls us ts d s)then wCo hn ls us ts d s else lsT hn ls us ts d s
theorem KK {s:Nat} (h:CX hn ls us ts d s=0):wCo hn ls us ts d s=BN (wHn hn ts) (wLs hn ls ts d s) (KH hn ls us ts d s)+F8 ts s ts.length:=by
 rfl
theorem Aew {hn:Int} {ls:List Lnk} {l:List Snd}:0≤BN hn ls l:=by
 unfold BN
 split
 ·exact Int.le_refl _
 ·rename_i h
  exact (IS (right_zero.1 (Classical.not_not.1 h)) _ (Nat.le_refl _)).1
theorem wG (V:VoyOK hn ls us ts d) {s:Nat} (h:CX hn ls us ts d s=0):0≤wCo hn ls us ts d s:=by
 rw [KK h]
 have := Aew (hn:=wHn hn ts) (ls:=wLs hn ls ts d s) (l:=KH hn ls us ts d s)
 have :=(LR (s:=s) (MM V) ts.length (Nat.le_refl _)).1
 omega
theorem Akj {l:List Snd} {o:List Int} (h:F3 hn ls us ts d l o=0):Bt o o.length<2 ^ ts.length∧CX hn ls us ts d (Bt o o.length)=0∧wCo hn ls us ts d (Bt o o.length)≤Et hn ls us ts d l o:=by
 have S:=Gw h
 have hp:=Z5 h
 have hlt:=IW (o:=o) o.length
 obtain ⟨e0,hc⟩:=Tl (V5 S.voy) hp
 have ec:=MV (s:=Bt o o.length) S (serves_iff.1 hp.1).ok
 have e1:CX hn ls us ts d (Bt o o.length)=0:=e0
 refine ⟨by rw[←S.loads];exact hlt,e1,?_⟩
 rw [KK e1]
 have hs:=MW (ts:=ts) (o:=o) o.length o.length (Nat.le_refl _)
 rw [←S.loads,hs]
 unfold Et
 rw [if_pos (sch_zero.2 S),←ec]
 unfold KH
 omega
theorem aE (V:VoyOK hn ls us ts d) {s:Nat} (h:CX hn ls us ts d s=0):F3 hn ls us ts d (Tm hn ls us ts d s) (PG hn ls us ts d s)=0∧Fp hn ls us ts d s≤wCo hn ls us ts d s:=by
 have W:=jQ V h
 refine ⟨W.srv,?_⟩
 rw [KK h]
 exact W.cost
theorem V7:∀n,((Ch hn ls us ts d n).1<0∧∀s,s<n→CX hn ls us ts d s≠0)∨(∃s,s<n∧CX hn ls us ts d s=0∧Ch hn ls us ts d n=(Fp hn ls us ts d s,Tm hn ls us ts d s,PG hn ls us ts d s)∧∀s',s'<n→CX hn ls us ts d s'=0→Fp hn ls us ts d s≤Fp hn ls us ts d s')
 | 0=>.inl ⟨by simp[Ch],fun s h=>absurd h (by omega)⟩
 | n + 1=>by
  have nn:0≤Fp hn ls us ts d n:=PI
  rcases V7 n with ⟨h1,h2⟩ | ⟨s,hs,h1,h2,h3⟩
  ·by_cases c:CX hn ls us ts d n=0
   ·refine .inr ⟨n,by omega,c,?_,fun s' hs' e=>?_⟩
    ·simp only[Ch];rw[if_pos ⟨c,.inl h1⟩]
    ·by_cases e2:s'=n
     ·rw [e2];exact Int.le_refl _
     ·exact absurd e (h2 s' (by omega))
   ·refine .inl ⟨?_,fun s' hs'=>?_⟩
    ·simp only[Ch];rw[if_neg (fun g=>c g.1)];exact h1
    ·by_cases e2:s'=n
     ·rw [e2];exact c
     ·exact h2 s' (by omega)
  ·have hnn:0≤Fp hn ls us ts d s:=PI
   by_cases c:CX hn ls us ts d n=0∧Fp hn ls us ts d n<Fp hn ls us ts d s
   ·refine .inr ⟨n,by omega,c.1,?_,fun s' hs' e=>?_⟩
    ·simp only[Ch];rw[h2,if_pos ⟨c.1,.inr c.2⟩]
    ·by_cases e2:s'=n
     ·rw [e2];exact Int.le_refl _
     ·have := h3 s' (by omega) e;omega
   ·refine .inr ⟨s,by omega,h1,?_,fun s' hs' e=>?_⟩
    ·simp only[Ch];rw[h2,if_neg (fun g=>by
      rcases g.2 with g2 | g2
      ·have g2:Fp hn ls us ts d s<0:=g2
       omega
      ·exact c ⟨g.1,g2⟩)]
    ·by_cases e2:s'=n
     ·subst e2
      have : ¬Fp hn ls us ts d s'<Fp hn ls us ts d s:=fun g=>c ⟨e,g⟩
      omega
     ·exact h3 s' (by omega) e
theorem TA (V:VoyOK hn ls us ts d):∀n,(lsT hn ls us ts d n<0∧∀s,s<n→CX hn ls us ts d s≠0)∨(∃s,s<n∧CX hn ls us ts d s=0∧lsT hn ls us ts d n=wCo hn ls us ts d s∧∀s',s'<n→CX hn ls us ts d s'=0→wCo hn ls us ts d s≤wCo hn ls us ts d s')
 | 0=>.inl ⟨by simp[lsT],fun s h=>absurd h (by omega)⟩
 | n + 1=>by
  rcases TA V n with ⟨h1,h2⟩ | ⟨s,hs,h1,h2,h3⟩
  ·by_cases c:CX hn ls us ts d n=0
   ·refine .inr ⟨n,by omega,c,?_,fun s' hs' e=>?_⟩
    ·simp only[lsT];rw[if_pos ⟨c,.inl h1⟩]
    ·by_cases e2:s'=n
     ·rw [e2];exact Int.le_refl _
     ·exact absurd e (h2 s' (by omega))
   ·refine .inl ⟨?_,fun s' hs'=>?_⟩
    ·simp only[lsT];rw[if_neg (fun g=>c g.1)];exact h1
    ·by_cases e2:s'=n
     ·rw [e2];exact c
     ·exact h2 s' (by omega)
  ·have hnn:=wG V h1
   by_cases c:CX hn ls us ts d n=0∧wCo hn ls us ts d n<wCo hn ls us ts d s
   ·refine .inr ⟨n,by omega,c.1,?_,fun s' hs' e=>?_⟩
    ·simp only[lsT];rw[h2,if_pos ⟨c.1,.inr c.2⟩]
    ·by_cases e2:s'=n
     ·rw [e2];exact Int.le_refl _
     ·have := h3 s' (by omega) e;omega
   ·refine .inr ⟨s,by omega,h1,?_,fun s' hs' e=>?_⟩
    ·simp only[lsT];rw[h2,if_neg (fun g=>by
      rcases g.2 with g2 | g2
      ·omega
      ·exact c ⟨g.1,g2⟩)]
    ·by_cases e2:s'=n
     ·subst e2
      have : ¬wCo hn ls us ts d s'<wCo hn ls us ts d s:=fun g=>c ⟨e,g⟩
      omega
     ·exact h3 s' (by omega) e
theorem V8 (V:VoyOK hn ls us ts d):(To hn ls us ts d=21∧lsT hn ls us ts d (2 ^ ts.length)<0∧HW hn ls us ts d = []∧HX hn ls us ts d = [])∨(To hn ls us ts d=0∧0≤lsT hn ls us ts d (2 ^ ts.length)∧F3 hn ls us ts d (HW hn ls us ts d) (HX hn ls us ts d)=0∧Et hn ls us ts d (HW hn ls us ts d) (HX hn ls us ts d)=lsT hn ls us ts d (2 ^ ts.length)):=by
 have hv:=vck_iff.2 V
 unfold To HW HX JN
 have hv2:¬Ee hn ls us ts d≠0:=fun g=>g hv
 rw [if_neg hv2,if_neg hv2,if_neg hv2]
 rcases V7 (hn:=hn) (ls:=ls) (us:=us) (ts:=ts) (d:=d) (2 ^ ts.length)with ⟨h1,h2⟩ | ⟨s,hs,h1,h2,h3⟩
 ·rcases TA V (2 ^ ts.length)with ⟨g1,g2⟩ | ⟨s,hs,g1,_,_⟩
  ·rw [if_pos h1,Tn _ h1]
   exact .inl ⟨rfl,g1,rfl,rfl⟩
  ·exact absurd g1 (h2 s hs)
 ·rcases TA V (2 ^ ts.length)with ⟨g1,g2⟩ | ⟨s2,hs2,g1,g2,g3⟩
  ·exact absurd h1 (g2 s hs)
  ·have nn:0≤Fp hn ls us ts d s:=PI
   rw [h2,if_neg (by show ¬Fp hn ls us ts d s<0;omega),g2]
   obtain ⟨p1,p2⟩:=aE V h1
   obtain ⟨q1,q2⟩:=aE V g1
   obtain ⟨r1,r2,r3⟩:=Akj p1
   have k1:=h3 s2 hs2 g1
   have k2:=g3 _ r1 r2
   refine .inr ⟨rfl,wG V g1,p1,?_⟩
   show Fp hn ls us ts d s=wCo hn ls us ts d s2
   have r3:wCo hn ls us ts d (Bt (PG hn ls us ts d s) (PG hn ls us ts d s).length)≤Fp hn ls us ts d s:=r3
   omega
end
end Sim
