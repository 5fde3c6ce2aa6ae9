/- What functions of this seat compute, by values: contracts (lemmas of the statement's proof, under the conditions that each names). -/
import Derived.Test.YtdfjimjbdakofaaGreatQUB4
import Derived.Test.YtdfjimjbdakofaaGreatQT
set_option maxRecDepth 10000
set_option maxHeartbeats 4000000
set_option linter.unusedVariables false
set_option linter.unusedSimpArgs false
namespace Sim
open Go Go.Proofs
attribute [local congr] Ai Aj Af At Am Al Aq
def uB (a b:Int):Int:=IntKind.i64.wrap (BitVec.ofInt 64 a &&& BitVec.ofInt 64 b).toNat
theorem LB {a b:Int}:Cq .and .i64 a b=some (uB a b):=nrfl rfl
theorem Jo {a:Nat} (h:a<9223372036854775808):(BitVec.ofInt 64 (a:Int)).toNat=a:=by
 rw [BitVec.toNat_ofInt]
 have : ((a:Int) % ((2 ^ 64:Nat):Int))=a:=Int.emod_eq_of_lt (by omega) (by simp only[Nat.reducePow];omega)
 rw [this];simp
theorem uC {a b:Nat} (ha:a<9223372036854775808) (hb:b<9223372036854775808):uB a b=((a &&& b:Nat):Int):=by
 unfold uB
 rw [BitVec.toNat_and,Jo ha,Jo hb]
 have := @Nat.and_le_left a b
 exact Ah (by omega) (by omega)
theorem Ac5 {a b:Nat} (ha:a<9223372036854775808) (hb:b<9223372036854775808):orI a b=((a ||| b:Nat):Int):=by
 unfold orI
 rw [BitVec.toNat_or,Jo ha,Jo hb]
 have : a ||| b<2 ^ 63:=Nat.or_lt_two_pow ha hb
 exact Ah (by omega) (by omega)
theorem uD {a j:Nat}:(a:Int).fdiv (2 ^ j)=((a / 2 ^ j:Nat):Int):=by
 rw [Int.fdiv_eq_ediv_of_nonneg _ (Int.le_of_lt (Int.pow_pos (by decide)))]
 rw [Int.natCast_ediv,Int.natCast_pow];rfl
theorem Ac6 {a j:Nat}:a / 2 ^ j &&& 1=1↔a.testBit j=true:=by
 rw [Nat.testBit,Nat.shiftRight_eq_div_pow,Nat.and_comm]
 generalize a / 2 ^ j=x
 have : 1 &&& x=x % 2:=by rw[Nat.and_comm,Nat.and_one_is_mod]
 rw [this]
 have := Nat.mod_two_eq_zero_or_one x
 rcases this with h | h <;> simp[h]
theorem ZK {a i:Nat} (ha:a<9223372036854775808):uB ((a:Int).fdiv (2 ^ i)) 1=if a.testBit i=true then 1 else 0:=by
 have h0:uB ((a:Int).fdiv (2 ^ i)) 1=((a / 2 ^ i &&& 1:Nat):Int):=by
  rw [uD];exact uC (b:=1) (Nat.lt_of_le_of_lt (Nat.div_le_self _ _) ha) (by omega)
 have h1:a / 2 ^ i &&& 1=(a / 2 ^ i) % 2:=Nat.and_one_is_mod _
 have h2:=Ac6 (a:=a) (j:=i)
 rw [h0]
 by_cases c:a.testBit i=true
 ·rw [if_pos c,h2.2 c];rfl
 ·rw [if_neg c]
  have h3:¬a / 2 ^ i &&& 1=1:=fun g=>c (h2.1 g)
  omega
theorem LC {k:Nat} (h:k≤62):IntKind.i64.wrap (1*2 ^ k)=((2 ^ k:Nat):Int):=by
 have h1:2 ^ k≤2 ^ 62:=Nat.pow_le_pow_right (by omega) h
 rw [Int.one_mul]
 have e2:(2:Int) ^ k=((2 ^ k:Nat):Int):=by rw[Int.natCast_pow];rfl
 rw [e2]
 generalize 2 ^ k=q at *
 exact Ah (by omega) (by omega)
def Bt (o:List Int):Nat→Nat
 | 0=>0
 | k+1=>if 0<o.getD k 0 then Bt o k ||| 2 ^ k else Bt o k
def Cm (ts:List Trp) (o:List Int):Nat→Int
 | 0=>0
 | k+1=>if 0<o.getD k 0 then Cm ts o k+(ts.getD k dT).2.2.2.2.2.2 else Cm ts o k
theorem IW {o:List Int}:∀k,Bt o k<2 ^ k
 | 0=>by simp[Bt]
 | k+1=>by
  have ih:=IW (o:=o) k
  have h1:2 ^ k<2 ^ (k+1):=Nat.pow_lt_pow_right (by omega) (by omega)
  simp only[Bt]
  split
  ·exact Nat.or_lt_two_pow (by omega) h1
  ·omega
theorem MI {o:List Int} {i:Nat}:∀k,(Bt o k).testBit i=(decide (i<k)&&decide (0<o.getD i 0))
 | 0=>by simp[Bt]
 | k+1=>by
  have ih:=MI (o:=o) (i:=i) k
  simp only[Bt]
  by_cases c:0<o.getD k 0
  ·rw [if_pos c,Nat.testBit_or,ih,Nat.testBit_two_pow]
   by_cases e:i=k
   ·subst e;rw[decide_eq_true c];simp
   ·have e':¬k=i:=fun g=>e g.symm
    have : (i<k+1)=(i<k):=by apply propext;omega
    simp [e',this]
  ·rw [if_neg c,ih]
   by_cases e:i=k
   ·subst e;rw[decide_eq_false c];simp
   ·have : (i<k+1)=(i<k):=by apply propext;omega
    simp [this]
def Yw (ts:List Trp):Prop:=ts.length≤4∧∀k,k<ts.length→0≤(ts.getD k dT).2.2.2.2.2.2∧(ts.getD k dT).2.2.2.2.2.2≤1000000
theorem Jp {ts:List Trp} {o:List Int} (h:Yw ts):∀k,k≤ts.length→0≤Cm ts o k∧Cm ts o k≤1000000*(k:Int)
 | 0,_=>by simp[Cm]
 | k+1,hk=>by
  have ih:=Jp (o:=o) h k (by omega)
  have := h.2 k (by omega)
  simp only[Cm]
  split <;> omega
noncomputable def FW:Int×List Lnk×List Snd×List Trp×Dem×List Snd×List Int→List PV:=fun (hn,ls,us,ts,d,l,o) => [.agg [I hn,AQ ls,Ay us,CK ts,I d.1,I d.2.1,I d.2.2.1,I d.2.2.2.1,I d.2.2.2.2],.agg [Ay l,ints o]]
noncomputable def LD:Int×List Lnk×List Snd×List Trp×Dem×List Snd×List Int→PV:=fun (hn,ls,us,ts,d,l,o)=>.tuple [I (Bt o o.length:Nat),I (Cm ts o o.length)]
def VJ:Int×List Lnk×List Snd×List Trp×Dem×List Snd×List Int→Prop:=fun (hn,ls,us,ts,d,l,o)=>Yw ts∧o.length=ts.length
noncomputable def e_loaded:Nat×Ent:=(26,.v (Ap FW LD VJ))
theorem uE:∀i j,FW i=FW j→i=j:=by
 rintro ⟨_,_,_,_,_,_,_⟩ ⟨_,_,_,_,_,_,_⟩ h
 simp only[FW,List.cons.injEq,and_true,PV.lits.injEq,PV.int.injEq,PV.agg.injEq,true_and,B1,AF,AD,Ck]at h
 simp [Prod.ext_iff,h] <;> omega
theorem VK (hn:Int) (ls:List Lnk) (us:List Snd) (ts:List Trp) (d:Dem) (l:List Snd) (o:List Int):Ap FW LD VJ [.agg [I hn,AQ ls,Ay us,CK ts,I d.1,I d.2.1,I d.2.2.1,I d.2.2.2.1,I d.2.2.2.2],.agg [Ay l,ints o]]=@ite (Option (PV)) (Yw ts∧o.length=ts.length) (Classical.propDecidable _) (some (.tuple [I (Bt o o.length:Nat),I (Cm ts o o.length)])) none:=Br uE (hn,ls,us,ts,d,l,o)
def uF:Prop:=∀(hn:Int) (ls:List Lnk) (us:List Snd) (ts:List Trp) (d:Dem) (l:List Snd) (o:List Int) (h:Yw ts∧o.length=ts.length) ,VC Tryz.prog 26 (FW (hn,ls,us,ts,d,l,o)) (LD (hn,ls,us,ts,d,l,o))
theorem uG:uF:=by
 rintro hn ls us ts d l o ⟨hp,hol⟩
 dsimp only[FW,LD]
 refine Bc AP (l := []) (Au) [] []  Tryz.func26 rfl (by decide +kernel) (N:=33) rfl (by simp) rfl (by kernel_rfl) fun hs=>?_
 simp only[AK,PV.small,List.length_map,and_true,true_and]at hs
 obtain ⟨R1,hR1⟩:∃R1,Bt o o.length=R1:=⟨_,rfl⟩
 obtain ⟨R2,hR2⟩:∃R2,Cm ts o o.length=R2:=⟨_,rfl⟩
 rw [hR1,hR2]
 have hn4:=hp.1
 simp only[↓bdD,bdP,seval,st0,Tryz.f26,AS,B3]
 refine Aw [4,5,6,7,11,12,13,14,15,16,17,18,19,20,21,22,23,24,25,26,27,28,29,30] o.length (fun k ρ st'=>ρ 11=I k∧ρ 4=I (Bt o k:Nat)∧ρ 5=I (Cm ts o k)) (.refl _) ?_ ?_
 ·simp only[↓bdD,bdP,Nat.reduceBEq,Bt,Cm]
 rintro k ρ ⟨ob,M⟩ hk ⟨h11,h4,h5⟩
 by_cases hlt:k<o.length
 ·have hwk:IntKind.i64.wrap ((k:Int)+1)=((k+1:Nat):Int):=by rw[Ah (by omega) (by omega)];omega
  have hok:nth (o.map (PV.int .i64)) k=I (o.getD k 0):=B9 0 hlt
  have hlt2:k<ts.length:=by omega
  have htk:=ES hlt2
  have hki:(k:Int)<(ts.length:Int):=by omega
  have b1:=IW (o:=o) k
  have b2:=Jp (o:=o) hp k (by omega)
  have b3:=hp.2 k hlt2
  have b4:2 ^ k≤2 ^ 4:=Nat.pow_le_pow_right (by omega) (by omega)
  by_cases c:0<o.getD k 0
  ·have e1:Bt o (k+1)=Bt o k ||| 2 ^ k:=by simp only[Bt];rw[if_pos c]
   have e2:Cm ts o (k+1)=Cm ts o k+(ts.getD k dT).2.2.2.2.2.2:=by simp only[Cm];rw[if_pos c]
   have hsh:=LC (k:=k) (by omega)
   have hk0:¬(k:Int)<0:=by omega
   have hk64:k≤64:=by omega
   have hor:=Ac5 (a:=Bt o k) (b:=2 ^ k) (by omega) (by omega)
   have wc:IntKind.i64.wrap (Cm ts o k+(ts.getD k dT).2.2.2.2.2.2)=Cm ts o k+(ts.getD k dT).2.2.2.2.2.2:=Ah (by omega) (by omega)
   rw [e1,e2]
   generalize Bt o k=s at *
   generalize Cm ts o k=t at *
   generalize o.getD k 0=x at *
   generalize ts.getD k dT=y at *
   simp only[↓bdD,bdP,seval,ty3,BR,Be,AS,C6,h11,h4,h5,hlt,hki,hok,htk,c,hsh,hor,wc,hwk,hk0,hk64]
  ·have e1:Bt o (k+1)=Bt o k:=by simp only[Bt];rw[if_neg c]
   have e2:Cm ts o (k+1)=Cm ts o k:=by simp only[Cm];rw[if_neg c]
   rw [e1,e2]
   generalize Bt o k=s at *
   generalize Cm ts o k=t at *
   generalize o.getD k 0=x at *
   simp only[↓bdD,bdP,seval,ty3,AS,h11,h4,h5,hlt,hok,c,hwk]
 ·have e:k=o.length:=by omega
  subst e
  rw [hR1]at h4
  rw [hR2]at h5
  simp only[↓bdD,bdP,seval,Ao,h11,h4,h5,hlt]
theorem VL:AM Tryz.prog e_loaded.1 e_loaded.2:=Ax fun⟨hn,ls,us,ts,d,l,o⟩ h=>uG hn ls us ts d l o h
def trE (hn:Int) (t:Trp):Int :=
 if ¬(hOK hn t.1=true∧hOK hn t.2.1=true∧t.1≠t.2.1)then 1
 else if t.2.2.1<0∨1000000<t.2.2.2.2.1∨t.2.2.2.2.1<t.2.2.2.1∨t.2.2.2.1<t.2.2.1+2∨t.2.2.2.2.2.1<1∨1073741824<t.2.2.2.2.2.1∨t.2.2.2.2.2.2<0∨1000000<t.2.2.2.2.2.2 then 3
 else 0
def JM (hn:Int) (ts:List Trp):Nat→Int
 | 0=>0
 | k+1=>if JM hn ts k≠0 then JM hn ts k else trE hn (ts.getD k dT)
def Ee (hn:Int) (ls:List Lnk) (us:List Snd) (ts:List Trp) (d:Dem):Int :=
 if 4<ts.length then 2
 else if DG hn ls us d≠0 then DG hn ls us d
 else if JM hn ts ts.length≠0 then JM hn ts ts.length
 else if 12<hn+(ts.length:Int)∨60<ls.length+2*ts.length∨1992<us.length then 2
 else 0
theorem Rd {hn:Int} {ts:List Trp} {k:Nat}:∀n,k<n→JM hn ts k=0→trE hn (ts.getD k dT)≠0→JM hn ts n=trE hn (ts.getD k dT)
 | 0,h,_,_=>absurd h (by omega)
 | n+1,h,h0,h1=>by
  by_cases e:k=n
  ·subst e
   simp only[JM,h0,ne_eq,not_true_eq_false,if_false]
  ·have ih:=Rd n (by omega) h0 h1
   simp only[JM]
   rw [ih,if_pos h1]
noncomputable def FX:Int×List Lnk×List Snd×List Trp×Dem×Int→List PV:=fun (hn,ls,us,ts,d,h) => [I h,.vptr [I hn,AQ ls,Ay us,CK ts,I d.1,I d.2.1,I d.2.2.1,I d.2.2.2.1,I d.2.2.2.2] 0]
noncomputable def LF:Int×List Lnk×List Snd×List Trp×Dem×Int→PV:=fun (hn,ls,us,ts,d,h)=>B (hOK hn h)
noncomputable def e_vhouse:Nat×Ent:=(40,.v (Ap FX LF AY))
theorem uH:∀i j,FX i=FX j→i=j:=by
 rintro ⟨_,_,_,_,_,_⟩ ⟨_,_,_,_,_,_⟩ h
 simp only[FX,List.cons.injEq,and_true,PV.lits.injEq,PV.int.injEq,PV.vptr.injEq,true_and,AF,AD,Ck]at h
 simp [Prod.ext_iff,h] <;> omega
theorem CF (hn:Int) (ls:List Lnk) (us:List Snd) (ts:List Trp) (d:Dem) (h:Int):Ap FX LF AY [I h,.vptr [I hn,AQ ls,Ay us,CK ts,I d.1,I d.2.1,I d.2.2.1,I d.2.2.2.1,I d.2.2.2.2] 0]=some (B (hOK hn h)):=AC uH (i:=(hn,ls,us,ts,d,h)) trivial
def uI:Prop:=∀(hn:Int) (ls:List Lnk) (us:List Snd) (ts:List Trp) (d:Dem) (h:Int) ,VC Tryz.prog 40 (FX (hn,ls,us,ts,d,h)) (LF (hn,ls,us,ts,d,h))
theorem uJ:uI:=by
 intro hn ls us ts d h
 dsimp only[FX,LF]
 refine Bc AP (l := []) (Au) [] []  Tryz.func40 rfl (by decide +kernel) (N:=13) rfl (by simp) rfl (by kernel_rfl) fun hs=>?_
 simp only[AK,PV.small,List.length_map,and_true,true_and]at hs
 unfold hOK
 by_cases h1:0≤h
 ·by_cases h2:h<hn
  ·simp only[↓bdD,bdP,seval,Ao,st0,Tryz.f40,ty3,AI,Be,h1,h2]
  ·simp only[↓bdD,bdP,seval,Ao,st0,Tryz.f40,ty3,AI,Be,h1,h2]
 ·simp only[↓bdD,bdP,seval,Ao,st0,Tryz.f40,h1]
theorem uK:AM Tryz.prog e_vhouse.1 e_vhouse.2:=Ax fun⟨hn,ls,us,ts,d,h⟩ h=>uJ hn ls us ts d h
noncomputable def FY:Int×List Lnk×List Snd×List Trp×Dem→List PV:=fun (hn,ls,us,ts,d) => [.agg [I hn,AQ ls,Ay us,CK ts,I d.1,I d.2.1,I d.2.2.1,I d.2.2.2.1,I d.2.2.2.2]]
noncomputable def LG:Int×List Lnk×List Snd×List Trp×Dem→PV:=fun (hn,ls,us,ts,d)=>I (Ee hn ls us ts d)
noncomputable def e_vcheck:Nat×Ent:=(17,.v (Ap FY LG AY))
theorem uL:∀i j,FY i=FY j→i=j:=by
 rintro ⟨_,_,_,_,_⟩ ⟨_,_,_,_,_⟩ h
 simp only[FY,List.cons.injEq,and_true,PV.lits.injEq,PV.int.injEq,PV.agg.injEq,true_and,AF,AD,Ck]at h
 simp [Prod.ext_iff,h] <;> omega
theorem ET (hn:Int) (ls:List Lnk) (us:List Snd) (ts:List Trp) (d:Dem):Ap FY LG AY [.agg [I hn,AQ ls,Ay us,CK ts,I d.1,I d.2.1,I d.2.2.1,I d.2.2.2.1,I d.2.2.2.2]]=some (I (Ee hn ls us ts d)):=AC uL (i:=(hn,ls,us,ts,d)) trivial
def uM:Prop:=∀(hn:Int) (ls:List Lnk) (us:List Snd) (ts:List Trp) (d:Dem) ,VC Tryz.prog 17 (FY (hn,ls,us,ts,d)) (LG (hn,ls,us,ts,d))
theorem uO:uM:=by
 intro hn ls us ts d
 dsimp only[FY,LG]
 refine Bc AP (l := [e_fcheck,e_vhouse]) ((Ad Pc (Ad uK Au))) [] []  Tryz.func17 rfl (by decide +kernel) (N:=121) rfl (by simp) rfl (by kernel_rfl) fun hs=>?_
 simp only[AK,PV.small,List.length_map,and_true,true_and]at hs
 have hs1:=hs.1
 have hs2:=hs.2.1
 generalize hR:Ee hn ls us ts d=R
 unfold Ee at hR
 by_cases h1:4<ts.length
 ·have h1i:(4:Int)<(ts.length:Int):=by omega
  rw [if_pos h1]at hR
  subst hR
  simp only[↓bdD,bdP,seval,Ao,st0,e_fcheck,e_vhouse,Tryz.f17,BR,Be,h1i]
 have h1i:¬(4:Int)<(ts.length:Int):=by omega
 rw [if_neg h1]at hR
 have sp:=G3 (hn:=hn) (ls:=ls) (us:=us) (d:=d)
 dsimp only[DY,AQ,Ay]at sp
 by_cases h2:DG hn ls us d=0
 case neg =>
  rw [if_pos h2]at hR
  subst hR
  simp only[↓bdD,bdP,seval,Ao,st0,e_fcheck,e_vhouse,Ac,Aa,Tryz.f17,AI,AN,BR,AX,Be,h1i,h2,sp]
 rw [if_neg (fun g=>g h2)]at hR
 obtain ⟨hf,_⟩:=BK h2
 have hok:=(Ce hf).1.net
 obtain ⟨q1,q2⟩:=hok.houses
 have q3:=hok.len
 have wn:IntKind.i64.wrap (hn+(ts.length:Int))=hn+(ts.length:Int):=Ah (by omega) (by omega)
 have w2:IntKind.i64.wrap (2*(ts.length:Int))=2*(ts.length:Int):=Ah (by omega) (by omega)
 have w3:IntKind.i64.wrap ((ls.length:Int)+2*(ts.length:Int))=(ls.length:Int)+2*(ts.length:Int):=Ah (by omega) (by omega)
 simp only[↓bdD,bdP,seval,st0,e_fcheck,e_vhouse,Ac,Aa,Tryz.f17,AI,AN,BR,AX,Be,h1i,h2,sp]
 refine Aw [2,7,27,28,29,30,31,32,33,34,35,36,37,38,39,40,41,42,43,44,45,46,47,48,49,50,51,52,53,54,55,56,57,58,59,60,61,62,63,64,65,66,67,68,69,70,71,72,73,74,75,76,77,78,79,80,81,82,83,84,85,86,87,88,89,90,91,92,93,94,95,96,97,98] ts.length (fun k ρ st'=>ρ 27=I k∧JM hn ts k=0) (.refl _) ?_ ?_
 ·simp only[↓bdD,bdP,JM]
 rintro k ρ ⟨ob,M⟩ hk ⟨h27,hI⟩
 by_cases hlt:k<ts.length
 ·have hwk:IntKind.i64.wrap ((k:Int)+1)=((k+1:Nat):Int):=by rw[Ah (by omega) (by omega)];omega
  have hyk:=ES hlt
  have hbad:trE hn (ts.getD k dT)≠0→R=trE hn (ts.getD k dT):=fun g=>by
   have e:=Rd ts.length hlt hI g
   rw [e,if_pos g]at hR
   exact hR.symm
  have hgo:trE hn (ts.getD k dT)=0→JM hn ts (k+1)=0:=fun g=>by
   simp only[JM,hI,ne_eq,not_true_eq_false,if_false];exact g
  generalize ts.getD k dT=x at *
  obtain ⟨x1,x2,x3,x4,x5,x6,x7⟩:=x
  dsimp only at *
  have bad1:¬(hOK hn x1=true∧hOK hn x2=true∧x1≠x2)→R=1:=fun g=>by
   have e:trE hn (x1,x2,x3,x4,x5,x6,x7)=1:=by unfold trE;rw[if_pos g]
   rw [e]at hbad;exact hbad (by decide)
  by_cases a1:hOK hn x1=true
  case neg =>
   rw [bad1 (fun g=>a1 g.1)]
   simp only[↓bdD,bdP,seval,Ao,Store.new,Store.set,CF,Ac,Aa,AB,ty3,BR,C6,h27,hlt,hyk,a1]
  by_cases a2:hOK hn x2=true
  case neg =>
   rw [bad1 (fun g=>a2 g.2.1)]
   simp only[↓bdD,bdP,seval,Ao,Store.new,Store.set,CF,Ac,Aa,AB,ty3,BR,C6,h27,hlt,hyk,a1,a2]
  by_cases a3:x1=x2
  ·rw [bad1 (fun g=>g.2.2 a3)]
   have a3:=eq_true a3
   simp only[↓bdD,bdP,seval,Ao,Store.new,Store.set,CF,Ac,Aa,AB,ty3,BR,C6,h27,hlt,hyk,a1,a2,a3]
  have ok1:hOK hn x1=true∧hOK hn x2=true∧x1≠x2:=⟨a1,a2,a3⟩
  have bad3:(x3<0∨1000000<x5∨x5<x4∨x4<x3+2∨x6<1∨1073741824<x6∨x7<0∨1000000<x7)→R=3:=fun g=>by
   have e:trE hn (x1,x2,x3,x4,x5,x6,x7)=3:=by unfold trE;rw[if_neg (fun f=>f ok1),if_pos g]
   rw [e]at hbad;exact hbad (by decide)
  by_cases b1:x3<0
  ·rw [bad3 (by omega)]
   simp only[↓bdD,bdP,seval,Ao,Store.new,Store.set,CF,Ac,Aa,AB,ty3,BR,C6,h27,hlt,hyk,a1,a2,a3,b1]
  by_cases b2:1000000<x5
  ·rw [bad3 (by omega)]
   simp only[↓bdD,bdP,seval,Ao,Store.new,Store.set,CF,Ac,Aa,AB,ty3,BR,C6,h27,hlt,hyk,a1,a2,a3,b1,b2]
  by_cases b3:x5<x4
  ·rw [bad3 (by omega)]
   simp only[↓bdD,bdP,seval,Ao,Store.new,Store.set,CF,Ac,Aa,AB,ty3,BR,C6,h27,hlt,hyk,a1,a2,a3,b1,b2,b3]
  by_cases b4:x4<2
  ·rw [bad3 (by omega)]
   simp only[↓bdD,bdP,seval,Ao,Store.new,Store.set,CF,Ac,Aa,AB,ty3,BR,C6,h27,hlt,hyk,a1,a2,a3,b1,b2,b3,b4]
  have w4:IntKind.i64.wrap (x4-2)=x4-2:=Ah (by omega) (by omega)
  by_cases b5:x4-2<x3
  ·rw [bad3 (by omega)]
   simp only[↓bdD,bdP,seval,Ao,Store.new,Store.set,CF,Ac,Aa,AB,ty3,BR,C6,h27,hlt,hyk,a1,a2,a3,b1,b2,b3,b4,w4,b5]
  by_cases b6:x6<1
  ·rw [bad3 (by omega)]
   simp only[↓bdD,bdP,seval,Ao,Store.new,Store.set,CF,Ac,Aa,AB,ty3,BR,C6,h27,hlt,hyk,a1,a2,a3,b1,b2,b3,b4,w4,b5,b6]
  by_cases b7:1073741824<x6
  ·rw [bad3 (by omega)]
   simp only[↓bdD,bdP,seval,Ao,Store.new,Store.set,CF,Ac,Aa,AB,ty3,BR,C6,h27,hlt,hyk,a1,a2,a3,b1,b2,b3,b4,w4,b5,b6,b7]
  by_cases b8:x7<0
  ·rw [bad3 (by omega)]
   simp only[↓bdD,bdP,seval,Ao,Store.new,Store.set,CF,Ac,Aa,AB,ty3,BR,C6,h27,hlt,hyk,a1,a2,a3,b1,b2,b3,b4,w4,b5,b6,b7,b8]
  by_cases b9:1000000<x7
  ·rw [bad3 (by omega)]
   simp only[↓bdD,bdP,seval,Ao,Store.new,Store.set,CF,Ac,Aa,AB,ty3,BR,C6,h27,hlt,hyk,a1,a2,a3,b1,b2,b3,b4,w4,b5,b6,b7,b8,b9]
  have ok:=hgo (by unfold trE;rw[if_neg (fun f=>f ok1),if_neg (by dsimp only;omega)])
  clear hgo hbad bad1 bad3
  simp only[↓bdD,bdP,seval,Store.new,Store.set,CF,Ac,Aa,AB,ty3,BR,C6,h27,hlt,hyk,a1,a2,a3,b1,b2,b3,b4,w4,b5,b6,b7,b8,b9,hwk]
  exact ok
 ·have e:k=ts.length:=by omega
  subst e
  rw [if_neg (fun g=>g hI)]at hR
  by_cases c1:12<hn+(ts.length:Int)
  ·rw [if_pos (.inl c1)]at hR
   subst hR
   simp only[↓bdD,bdP,seval,Ao,ty3,AI,Be,h27,hlt,wn,c1]
  by_cases c2:60<ls.length+2*ts.length
  ·rw [if_pos (.inr (.inl c2))]at hR
   subst hR
   have c2i:60<(ls.length:Int)+2*(ts.length:Int):=by omega
   simp only[↓bdD,bdP,seval,Ao,ty3,BP,AI,Be,h27,hlt,wn,c1,w2,w3,c2i]
  have c2i:¬60<(ls.length:Int)+2*(ts.length:Int):=by omega
  by_cases c3:1992<us.length
  ·rw [if_pos (.inr (.inr c3))]at hR
   subst hR
   have c3i:1992<(us.length:Int):=by omega
   simp only[↓bdD,bdP,seval,Ao,ty3,BP,AI,AN,Be,h27,hlt,wn,c1,w2,w3,c2i,c3i]
  have c3i:¬1992<(us.length:Int):=by omega
  rw [if_neg (by omega)]at hR
  subst hR
  simp only[↓bdD,bdP,seval,Ao,ty3,BP,AI,AN,Be,h27,hlt,wn,c1,w2,w3,c2i,c3i]
theorem Pn:AM Tryz.prog e_vcheck.1 e_vcheck.2:=Ax fun⟨hn,ls,us,ts,d⟩ h=>uO hn ls us ts d
def usB (t:Trp) (d:Dem):Bool:=decide (d.2.2.2.1≤t.2.2.1)&&decide (t.2.2.2.2.1≤d.2.2.2.2)
noncomputable def FZ:Trp×Dem→List PV:=fun (t,d) => [.agg [I t.1,I t.2.1,I t.2.2.1,I t.2.2.2.1,I t.2.2.2.2.1,I t.2.2.2.2.2.1,I t.2.2.2.2.2.2],DY d]
noncomputable def LH:Trp×Dem→PV:=fun (t,d)=>B (usB t d)
noncomputable def e_usable:Nat×Ent:=(52,.v (Ap FZ LH AY))
theorem uP:∀i j,FZ i=FZ j→i=j:=by
 rintro ⟨_,_⟩ ⟨_,_⟩ h
 simp only[FZ,List.cons.injEq,and_true,PV.int.injEq,PV.agg.injEq,true_and]at h
 simp [Prod.ext_iff,h] <;> omega
theorem VM (t:Trp) (d:Dem):Ap FZ LH AY [.agg [I t.1,I t.2.1,I t.2.2.1,I t.2.2.2.1,I t.2.2.2.2.1,I t.2.2.2.2.2.1,I t.2.2.2.2.2.2],DY d]=some (B (usB t d)):=AC uP (i:=(t,d)) trivial
def uQ:Prop:=∀(t:Trp) (d:Dem) ,VC Tryz.prog 52 (FZ (t,d)) (LH (t,d))
theorem uR:uQ:=by
 intro t d
 dsimp only[FZ,LH]
 refine Bc AP (l := []) (Au) [] []  Tryz.func52 rfl (by decide +kernel) (N:=17) rfl (by simp) rfl (by kernel_rfl) fun hs=>?_
 simp only[AK,PV.small,and_true]at hs
 unfold usB
 by_cases h1:d.2.2.2.1≤t.2.2.1
 ·by_cases h2:t.2.2.2.2.1≤d.2.2.2.2
  ·simp only[↓bdD,bdP,seval,Ao,st0,Tryz.f52,ty3,AX,C6,h1,h2]
  ·simp only[↓bdD,bdP,seval,Ao,st0,Tryz.f52,ty3,AX,C6,h1,h2]
 ·simp only[↓bdD,bdP,seval,Ao,st0,Tryz.f52,ty3,AX,C6,h1]
  exact (Bool.false_and _).symm
theorem uS:AM Tryz.prog e_usable.1 e_usable.2:=Ax fun⟨t,d⟩ h=>uR t d
def Cf (d:Dem) (link tick room:Int):Nat→List Snd
 | 0 => []
 | j+1=>if d.2.2.2.1+(j:Int)≠tick∧Int.tmod (d.2.2.2.1+(j:Int)-tick) 24=0 then Cf d link tick room j ++ [(link,d.2.2.2.1+(j:Int),room)]else Cf d link tick room j
theorem G6 {d:Dem} {link tick room:Int}:∀j,(Cf d link tick room j).length≤j
 | 0=>by simp[Cf]
 | j+1=>by
  have := G6 (d:=d) (link:=link) (tick:=tick) (room:=room) j
  simp only[Cf]
  split
  ·simp; omega
  ·omega
abbrev S0 (hn:Int) (ls:List Lnk) (us:List Snd) (ts:List Trp) (d:Dem):List PV := [I hn,AQ ls,Ay us,CK ts,I d.1,I d.2.1,I d.2.2.1,I d.2.2.2.1,I d.2.2.2.2]
structure OW where
 hn : Int
 ls : List Lnk
 us : List Snd
 ts : List Trp
 d : Dem
 link : Int
 tick : Int
 room : Int
 l : List Snd
 g : Nat
def OW.new (x:OW):List Snd:=Cf x.d x.link x.tick x.room (As x.d)
def MJ (x:OW):List PV := [I x.link,I x.tick,I x.room,.vptr (S0 x.hn x.ls x.us x.ts x.d) 0,.ptr 6 0 0 0]
def ML (x:OW) (st:Store):Prop:=st.obj 6=some (.arr 0 1 [.ref 5 x.g 0 x.l.length])∧st.obj 5=some (.arr x.g 3 (x.l.map B5))∧(0≤x.d.2.2.2.1∧x.d.2.2.2.1≤x.d.2.2.2.2∧x.d.2.2.2.2≤1000000)∧(0≤x.tick∧x.tick≤1000000)∧x.l.length≤1000000
def IX (x:OW) (st:Store):PV×Store:=(.tuple [],⟨Ab (Ab st.obj 5 (some (.arr (x.g+x.new.length) 3 ((x.l++x.new).map B5)))) 6 (some (.arr 0 1 [.ref 5 (x.g+x.new.length) 0 (x.l++x.new).length])),st.next⟩)
noncomputable def e_only:Nat×Ent:=(51,.x (A8 MJ ML IX))
theorem Ajc (a b:OW) (st:Store) (h:MJ a=MJ b) (hx:ML a st) (hy:ML b st):IX a st=IX b st:=by
 obtain ⟨hn,ls,us,ts,d,link,tick,room,l,g⟩:=a
 obtain ⟨hn',ls',us',ts',d',link',tick',room',l',g'⟩:=b
 simp only[MJ,List.cons.injEq,and_true,PV.int.injEq,true_and,PV.vptr.injEq,PV.lits.injEq]at h
 obtain ⟨e1,e2,e3,_,_,_,_,f1,f2,f3,f4,f5⟩:=h
 have h1:=hx.1.symm.trans hy.1
 have h2:=hx.2.1.symm.trans hy.2.1
 simp only[Option.some.injEq,IObj.arr.injEq,List.cons.injEq,PV.ref.injEq,true_and,and_true,AF]at h1 h2
 have hd:d=d':=Prod.ext f1 (Prod.ext f2 (Prod.ext f3 (Prod.ext f4 f5)))
 subst e1 e2 e3 hd
 obtain ⟨a1,a2⟩:=h2
 subst a1 a2
 rfl
theorem uT {hn:Int} {ls:List Lnk} {us:List Snd} {ts:List Trp} {d:Dem} {link tick room:Int} (l:List Snd) (g:Nat) {st:Store} (h:ML ⟨hn,ls,us,ts,d,link,tick,room,l,g⟩ st) :
  A8 MJ ML IX [I link,I tick,I room,.vptr (S0 hn ls us ts d) 0,.ptr 6 0 0 0] st=some (IX ⟨hn,ls,us,ts,d,link,tick,room,l,g⟩ st) :=
 Ba Ajc (i:=⟨hn,ls,us,ts,d,link,tick,room,l,g⟩) h
theorem Ajd:AM Tryz.prog e_only.1 e_only.2:=Ca fun x st hx=>by
 obtain ⟨hn,ls,us,ts,d,link,tick,room,l,g⟩:=x
 obtain ⟨ob,M⟩:=st
 unfold ML at hx
 dsimp only at hx
 obtain ⟨h6,h5,⟨r0,r1,r2⟩,⟨t0,t1⟩,hl⟩:=hx
 simp only[MJ,IX,OW.new]
 have hdu:d.2.2.2.2=d.2.2.2.1+((As d:Nat):Int):=by unfold As;omega
 have hD:As d≤1000000:=by unfold As;omega
 generalize As d=D at *
 refine BT AP (l := []) (Au) [] [] 0 Tryz.func51 rfl (by decide +kernel) (N:=36) rfl (by simp) rfl (by kernel_rfl) ?_
 simp only[↓bdD,bdP,seval,Tryz.f51,ty3,AX,Be]
 refine Aw [8,12,13,14,15,16,17,18,19,20,21,22,23,24,25,26,27,28,29,30,31,32,33,34,35] D (fun j ρ st'=>ρ 8=I (d.2.2.2.1+(j:Int))∧st'.obj 6=some (.arr 0 1 [.ref 5 (g+(Cf d link tick room j).length) 0 (l++Cf d link tick room j).length])∧st'.obj 5=some (.arr (g+(Cf d link tick room j).length) 3 ((l++Cf d link tick room j).map B5))∧(∀i,¬i=5→¬i=6→st'.obj i=ob i)∧st'.next=M) (.refl _) ?_ ?_
 ·simp only[↓bdD,bdP,Cf,h5,h6]
  omega
 rintro j ρ ⟨ob2,M2⟩ hj ⟨h8,o6,o5,oe,hM⟩
 dsimp only at o6 o5 oe hM
 subst hM
 by_cases hlt:j<D
 ·have hjd:d.2.2.2.1+(j:Int)<d.2.2.2.2:=by omega
  have wj:IntKind.i64.wrap (d.2.2.2.1+(j:Int)+1)=d.2.2.2.1+((j+1:Nat):Int):=by rw[Ah (by omega) (by omega)];omega
  have wt:IntKind.i64.wrap (d.2.2.2.1+(j:Int)-tick)=d.2.2.2.1+(j:Int)-tick:=Ah (by omega) (by omega)
  have hol:=G6 (d:=d) (link:=link) (tick:=tick) (room:=room) j
  have hst:Cf d link tick room (j+1)=if d.2.2.2.1+(j:Int)≠tick∧Int.tmod (d.2.2.2.1+(j:Int)-tick) 24=0 then Cf d link tick room j ++ [(link,d.2.2.2.1+(j:Int),room)]else Cf d link tick room j:=rfl
  rw [hst]
  generalize Cf d link tick room j=O at *
  by_cases c1:d.2.2.2.1+(j:Int)=tick
  ·rw [if_neg (fun g=>g.1 c1)]
   have c1t:=eq_true c1
   simp only[↓bdD,bdP,seval,ty3,AX,Be,h8,hjd,c1t,wj,o6,o5,hlt]
   exact oe
  by_cases c2:Int.tmod (d.2.2.2.1+(j:Int)-tick) 24=0
  ·rw [if_pos ⟨c1,c2⟩]
   have e1:(l++(O ++ [(link,d.2.2.2.1+(j:Int),room)])).map B5=(l++O).map B5 ++ [.agg [I link,I (d.2.2.2.1+(j:Int)),I room]]:=by rw[←List.append_assoc,List.map_append];rfl
   have e2:(l++(O ++ [(link,d.2.2.2.1+(j:Int),room)])).length=(l++O).length+1:=by simp;omega
   have e3:(O ++ [(link,d.2.2.2.1+(j:Int),room)]).length=O.length+1:=by simp
   rw [e1,e2,e3]
   have hP:(l++O).length≤2147483646:=by simp;omega
   generalize l++O=P at *
   have htk:List.take P.length (P.map B5)=P.map B5:=List.take_of_length_le (by rw[List.length_map];exact Nat.le_refl _)
   have nl:¬P.length+1≤P.length:=by omega
   have jl:P.length≤2147483647:=by omega
   simp +contextual (maxSteps:=4000000) only[↓bdD,bdP,seval,Store.set,ty3,AX,Be,Cn,La,h8,hjd,c1,c2,wt,wj,o6,o5,hlt,htk,nl,jl]
   exact ⟨by rw[Nat.add_assoc],by omega,oe⟩
  ·rw [if_neg (fun g=>c2 g.2)]
   simp only[↓bdD,bdP,seval,ty3,AX,Be,h8,hjd,c1,c2,wt,wj,o6,o5,hlt]
   exact oe
 ·have e:j=D:=by omega
  subst e
  have hjd:¬d.2.2.2.1+(j:Int)<d.2.2.2.2:=by omega
  simp only[↓bdD,bdP,seval,Ao,ty3,AX,Be,h8,hjd]
  refine ⟨_,rfl,Left.same rfl (fun i o hi=>?_) (Nat.le_refl _)⟩
  rw [←hi]
  simp only[Ab]
  by_cases e6:i=6
  ·subst e6
   rw [o6,if_pos rfl,List.length_append]
  ·rw [if_neg e6]
   by_cases e5:i=5
   ·subst e5
    rw [o5,if_pos rfl]
   ·rw [if_neg e5]
    exact oe i e5 e6
end Sim
namespace Sim
open Go Go.Proofs
theorem Aje {l:List Snd} (h:∀k,0<k→k<l.length→ltS (l.getD (k-1) dS) (l.getD k dS)):HG l:=by
 unfold HG
 rw [List.pairwise_iff_getElem]
 have key:∀n i,i+n+1<l.length→ltS (l.getD i dS) (l.getD (i+n+1) dS):=by
  intro n
  induction n with
  | zero=>intro i hi;exact h (i+1) (by omega) (by omega)
  | succ n ih =>
   intro i hi
   have h1:=ih i (by omega)
   have h2:=h (i+(n+1)+1) (by omega) hi
   rw [show i+(n+1)+1-1=i+n+1 by omega]at h2
   exact Rb h1 h2
 intro i j hi hj hij
 have := key (j-i-1) i (by omega)
 rw [show i+(j-i-1)+1=j by omega,List.getD_eq_getElem?_getD,List.getD_eq_getElem?_getD,List.getElem?_eq_getElem hi,List.getElem?_eq_getElem hj]at this
 exact this
theorem Jq {hn:Int} {ls:List Lnk} {l:List Snd} (ok:OKr hn ls l):HG l:=Aje fun k h0 h1=>by
 have := ok.asc k h0 h1
 unfold ltS;omega
theorem G7 {l:List Snd} {x:Snd} (h:x∈l):∃k,k<l.length∧l.getD k dS=x:=by
 obtain ⟨k,hk,e⟩:=List.getElem_of_mem h
 exact ⟨k,hk,by rw[List.getD_eq_getElem?_getD,List.getElem?_eq_getElem hk];exact e⟩
section
variable {hn:Int} {ls:List Lnk}
theorem LI {l:List Snd} (ok:OKr hn ls l) {x:Snd} (h:x∈l):0≤x.1∧x.1<(ls.length:Int):=by
 obtain ⟨k,hk,rfl⟩:=G7 h
 exact ok.link k hk
theorem CG {d:Dem} {link tick room:Int} {x:Snd}:∀j,x∈Cf d link tick room j→x.1=link∧d.2.2.2.1≤x.2.1∧x.2.1<d.2.2.2.1+(j:Int)∧x.2.1≠tick∧Int.tmod (x.2.1-tick) 24=0∧x.2.2=room
 | 0,h=>by simp[Cf]at h
 | j+1,h=>by
  have ih:=CG (d:=d) (link:=link) (tick:=tick) (room:=room) (x:=x) j
  simp only[Cf]at h
  split at h
  ·rename_i c
   rcases List.mem_append.1 h with h | h
   ·have := ih h;refine⟨this.1,this.2.1,by omega,this.2.2.2⟩
   ·simp only[List.mem_singleton]at h
    subst h
    exact ⟨rfl,by dsimp only;omega,by dsimp only;omega,c.1,c.2,rfl⟩
  ·have := ih h;refine⟨this.1,this.2.1,by omega,this.2.2.2⟩
theorem Re {d:Dem} {link tick room:Int} {t:Nat} (h:d.2.2.2.1+(t:Int)≠tick∧Int.tmod (d.2.2.2.1+(t:Int)-tick) 24=0):∀j,t<j→(link,d.2.2.2.1+(t:Int),room)∈Cf d link tick room j
 | 0,hj=>absurd hj (by omega)
 | j+1,hj=>by
  simp only[Cf]
  by_cases e:t=j
  ·subst e
   rw [if_pos h]
   exact List.mem_append_right _ (List.mem_singleton.2 rfl)
  ·have := Re (link:=link) (room:=room) h j (by omega)
   split
   ·exact List.mem_append_left _ this
   ·exact this
theorem Jr {d:Dem} {link tick room:Int}:∀j,HG (Cf d link tick room j)
 | 0=>List.Pairwise.nil
 | j+1=>by
  have ih:=Jr (d:=d) (link:=link) (tick:=tick) (room:=room) j
  simp only[Cf]
  split
  ·refine List.pairwise_append.2 ⟨ih,List.pairwise_singleton _ _,fun a ha b hb=>?_⟩
   simp only[List.mem_singleton]at hb
   subst hb
   have := CG j ha
   exact .inl this.2.2.1
  ·exact ih
def onV (d:Dem) (s:Nat) (ts:List Trp) (k:Nat):Bool:=s.testBit k&&usB (ts.getD k dT) d
def wXt (L:Nat) (d:Dem) (s:Nat) (ts:List Trp):Nat→List Snd
 | 0 => []
 | k+1=>if onV d s ts k=true then wXt L d s ts k++Cf d ((L+2*k:Nat):Int) (ts.getD k dT).2.2.1 (ts.getD k dT).2.2.2.2.2.1 (As d)++Cf d ((L+2*k+1:Nat):Int) ((ts.getD k dT).2.2.2.2.1-1) (ts.getD k dT).2.2.2.2.2.1 (As d)else wXt L d s ts k
def S1 (hn:Int) (d:Dem) (s:Nat) (ts:List Trp) (k:Nat):Lnk:=((ts.getD k dT).1,hn+(k:Int),(fun i=>if onV d s ts k=true∧i.1=(ts.getD k dT).2.2.1.toNat % 24 then (ts.getD k dT).2.2.2.2.2.1 else 0),fun _=>0)
def S3 (hn:Int) (d:Dem) (s:Nat) (ts:List Trp) (k:Nat):Lnk:=(hn+(k:Int),(ts.getD k dT).2.1,(fun i=>if onV d s ts k=true∧i.1=((ts.getD k dT).2.2.2.2.1-1).toNat % 24 then (ts.getD k dT).2.2.2.2.2.1 else 0),fun _=>0)
def wLk (hn:Int) (d:Dem) (s:Nat) (ts:List Trp):Nat→List Lnk
 | 0 => []
 | k+1=>wLk hn d s ts k ++ [S1 hn d s ts k,S3 hn d s ts k]
theorem Js {hn:Int} {d:Dem} {s:Nat} {ts:List Trp}:∀k,(wLk hn d s ts k).length=2*k
 | 0=>rfl
 | k+1=>by have:=Js (hn:=hn) (d:=d) (s:=s) (ts:=ts) k;simp only[wLk,List.length_append,this,List.length_cons,List.length_nil];omega
def wHn (hn:Int) (ts:List Trp):Int:=hn+(ts.length:Int)
def wLs (hn:Int) (ls:List Lnk) (ts:List Trp) (d:Dem) (s:Nat):List Lnk:=ls++wLk hn d s ts ts.length
def wUs (ls:List Lnk) (us:List Snd) (ts:List Trp) (d:Dem) (s:Nat):List Snd:=Ku (us++wXt ls.length d s ts ts.length)
theorem S4 {L:Nat} {d:Dem} {s:Nat} {ts:List Trp}:∀k,(wXt L d s ts k).length≤2*k*As d
 | 0=>by simp[wXt]
 | k+1=>by
  have ih:=S4 (L:=L) (d:=d) (s:=s) (ts:=ts) k
  have h1:=G6 (d:=d) (link:=((L+2*k:Nat):Int)) (tick:=(ts.getD k dT).2.2.1) (room:=(ts.getD k dT).2.2.2.2.2.1) (As d)
  have h2:=G6 (d:=d) (link:=((L+2*k+1:Nat):Int)) (tick:=(ts.getD k dT).2.2.2.2.1-1) (room:=(ts.getD k dT).2.2.2.2.2.1) (As d)
  have e:2*(k+1)*As d=2*k*As d+As d+As d:=by rw[show 2*(k+1)=2*k+1+1 by omega,Nat.add_mul,Nat.add_mul,Nat.one_mul]
  simp only[wXt]
  split
  ·simp only[List.length_append];omega
  ·omega
theorem IY {L:Nat} {d:Dem} {s:Nat} {ts:List Trp} {x:Snd}:∀k,x∈wXt L d s ts k→(L:Int)≤x.1∧x.1<((L+2*k:Nat):Int)
 | 0,h=>by simp[wXt]at h
 | k+1,h=>by
  have ih:=IY (L:=L) (d:=d) (s:=s) (ts:=ts) (x:=x) k
  simp only[wXt]at h
  split at h
  ·rcases List.mem_append.1 h with h | h
   ·rcases List.mem_append.1 h with h | h
    ·have := ih h;omega
    ·have :=(CG _ h).1;omega
   ·have :=(CG _ h).1;omega
  ·have := ih h;omega
theorem VN {L:Nat} {d:Dem} {s:Nat} {ts:List Trp}:∀k,Dv (wXt L d s ts k)
 | 0=>List.Pairwise.nil
 | k+1=>by
  have ih:=VN (L:=L) (d:=d) (s:=s) (ts:=ts) k
  simp only[wXt]
  split
  ·refine List.pairwise_append.2 ⟨List.pairwise_append.2 ⟨ih,G5 (Jr _),fun a ha b hb=>?_⟩,G5 (Jr _),fun a ha b hb=>?_⟩
   ·have h1:=IY k ha
    have h2:=(CG _ hb).1
    omega
   ·have h2:=(CG _ hb).1
    rcases List.mem_append.1 ha with ha | ha
    ·have h1:=IY k ha;omega
    ·have h1:=(CG _ ha).1;omega
  ·exact ih
theorem Rf {us:List Snd} {ts:List Trp} {d:Dem} {s k:Nat} (ok:OKr hn ls us):Dv (us++wXt ls.length d s ts k):=by
 refine List.pairwise_append.2 ⟨G5 (Jq ok),VN k,fun a ha b hb=>?_⟩
 have h1:=LI ok ha
 have h2:=IY k hb
 omega
end
structure VoyOK (hn:Int) (ls:List Lnk) (us:List Snd) (ts:List Trp) (d:Dem):Prop where
 few : ts.length≤4
 fck : DG hn ls us d=0
 ends : ∀k,k<ts.length→(0≤(ts.getD k dT).1∧(ts.getD k dT).1<hn)∧(0≤(ts.getD k dT).2.1∧(ts.getD k dT).2.1<hn)∧(ts.getD k dT).1≠(ts.getD k dT).2.1
 times : ∀k,k<ts.length→0≤(ts.getD k dT).2.2.1∧(ts.getD k dT).2.2.2.2.1≤1000000∧(ts.getD k dT).2.2.2.1≤(ts.getD k dT).2.2.2.2.1∧(ts.getD k dT).2.2.1+2≤(ts.getD k dT).2.2.2.1
 room : ∀k,k<ts.length→1≤(ts.getD k dT).2.2.2.2.2.1∧(ts.getD k dT).2.2.2.2.2.1≤1073741824
 price : ∀k,k<ts.length→0≤(ts.getD k dT).2.2.2.2.2.2∧(ts.getD k dT).2.2.2.2.2.2≤1000000
 size : hn+(ts.length:Int)≤12∧ls.length+2*ts.length≤60∧us.length≤1992
theorem trsE_zero {hn:Int} {ts:List Trp}:∀ {n},JM hn ts n=0↔∀k,k<n→trE hn (ts.getD k dT)=0
 | 0=>⟨fun _ k h=>absurd h (by omega),fun _=>rfl⟩
 | n+1=>by
  have ih:=@trsE_zero hn ts n
  simp only[JM]
  by_cases h:JM hn ts n=0
  ·rw [if_neg (fun g=>g h)]
   refine ⟨fun g k hk=>?_,fun g=>g n (by omega)⟩
   by_cases e:k=n
   ·subst e;exact g
   ·exact ih.1 h k (by omega)
  ·rw [if_pos h]
   exact ⟨fun g=>absurd g h,fun g=>absurd (ih.2 fun k hk=>g k (by omega)) h⟩
theorem vck_iff {hn:Int} {ls:List Lnk} {us:List Snd} {ts:List Trp} {d:Dem}:Ee hn ls us ts d=0↔VoyOK hn ls us ts d:=by
 unfold Ee
 constructor
 ·intro h
  split at h
  ·cases h
  ·rename_i h1
   split at h
   ·rename_i h2;exact absurd h h2
   ·rename_i h2
    split at h
    ·rename_i h3;exact absurd h h3
    ·rename_i h3
     split at h
     ·cases h
     ·rename_i h4
      have h3:=trsE_zero.1 (Classical.not_not.1 h3)
      have key:∀k,k<ts.length→(hOK hn (ts.getD k dT).1=true∧hOK hn (ts.getD k dT).2.1=true∧(ts.getD k dT).1≠(ts.getD k dT).2.1)∧¬((ts.getD k dT).2.2.1<0∨1000000<(ts.getD k dT).2.2.2.2.1∨(ts.getD k dT).2.2.2.2.1<(ts.getD k dT).2.2.2.1∨(ts.getD k dT).2.2.2.1<(ts.getD k dT).2.2.1+2∨(ts.getD k dT).2.2.2.2.2.1<1∨1073741824<(ts.getD k dT).2.2.2.2.2.1∨(ts.getD k dT).2.2.2.2.2.2<0∨1000000<(ts.getD k dT).2.2.2.2.2.2):=fun k hk=>by
       have := h3 k hk
       unfold trE at this
       split at this
       ·cases this
       ·rename_i g1
        split at this
        ·cases this
        ·rename_i g2
         exact ⟨Classical.not_not.1 g1,g2⟩
      refine ⟨by omega,Classical.not_not.1 h2,fun k hk=>?_,fun k hk=>?_,fun k hk=>?_,fun k hk=>?_,by omega⟩
      ·have :=(key k hk).1
       simp only[hOK,decide_eq_true_eq]at this
       exact this
      ·have :=(key k hk).2;omega
      ·have :=(key k hk).2;omega
      ·have :=(key k hk).2;omega
 ·intro h
  have ht:JM hn ts ts.length=0:=trsE_zero.2 fun k hk=>by
   have h1:=h.ends k hk
   have h2:=h.times k hk
   have h3:=h.room k hk
   have h4:=h.price k hk
   unfold trE hOK
   rw [if_neg (fun g=>g (by simp only[decide_eq_true_eq];exact h1)),if_neg (by omega)]
  rw [if_neg (by have:=h.few;omega),if_neg (fun g=>g h.fck),if_neg (fun g=>g ht),if_neg (by have:=h.size;omega)]
end Sim
namespace Sim
open Go Go.Proofs
attribute [local congr] Ai Aj Af At Am Al Aq
def Aml (o:Option IObj) (st:Store) (k z:Nat) (e:PV):Option (PV×Store) :=
 match o with
 | some (.arr g _ _)=>some (.ptr (k-1) (g+1) 0 0,st.set (k-1) (.arr (g+1) z [e]))
 | _=>none
theorem Po {st:Store} {k z:Nat} {e:PV}:st.reP k z e=Aml (st.obj (k-1)) st k z e:=nrfl rfl
theorem Pp {st:Store} {k z g z0:Nat} {e:PV} {es:List PV}:Aml (some (.arr g z0 es)) st k z e=some (.ptr (k-1) (g+1) 0 0,st.set (k-1) (.arr (g+1) z [e])):=nrfl rfl
theorem uU {f:Fin 24→Int} {h:Nat} {v:Int}:(List.ofFn f).set h v=List.ofFn (fun i=>if i.1=h then v else f i):=by
 apply List.ext_getElem
 ·simp
 ·intro i h1 h2
  rw [List.getElem_set]
  simp only[List.getElem_ofFn]
  by_cases e:h=i
  ·subst e;simp
  ·rw [if_neg e,if_neg (fun g=>e g.symm)]
theorem Amm (a b:Int) : [PV.int .i64 a,PV.int .i64 b,PV.int .i64 0,PV.int .i64 0,PV.int .i64 0,PV.int .i64 0,PV.int .i64 0,PV.int .i64 0,PV.int .i64 0,PV.int .i64 0,PV.int .i64 0,PV.int .i64 0,PV.int .i64 0,PV.int .i64 0,PV.int .i64 0,PV.int .i64 0,PV.int .i64 0,PV.int .i64 0,PV.int .i64 0,PV.int .i64 0,PV.int .i64 0,PV.int .i64 0,PV.int .i64 0,PV.int .i64 0,PV.int .i64 0,PV.int .i64 0,PV.int .i64 0,PV.int .i64 0,PV.int .i64 0,PV.int .i64 0,PV.int .i64 0,PV.int .i64 0,PV.int .i64 0,PV.int .i64 0,PV.int .i64 0,PV.int .i64 0,PV.int .i64 0,PV.int .i64 0,PV.int .i64 0,PV.int .i64 0,PV.int .i64 0,PV.int .i64 0,PV.int .i64 0,PV.int .i64 0,PV.int .i64 0,PV.int .i64 0,PV.int .i64 0,PV.int .i64 0,PV.int .i64 0,PV.int .i64 0]=lkC (a,b,fun _=>0,fun _=>0):=rfl
theorem ZL {l:Lnk} {hr:Nat} {v:Int} (h:hr<24):List.take (2+hr) (lkC l) ++ [.int .i64 v]++List.drop (2+hr+1) (lkC l)=lkC (l.1,l.2.1,(fun i=>if i.1=hr then v else l.2.2.1 i),l.2.2.2):=by
 have e:List.take (2+hr) (lkC l) ++ [I v]++List.drop (2+hr+1) (lkC l)=(lkC l).set (2+hr) (I v):=by
  rw [List.set_eq_take_append_cons_drop,if_pos (by rw[BJ];omega),List.append_assoc];rfl
 rw [e]
 unfold lkC
 rw [Nat.add_comm 2 hr,List.set_cons_succ,List.set_cons_succ]
 congr 2
 rw [List.set_append_left _ _ (by simp;omega)]
 congr 1
 rw [←List.map_set,uU]
noncomputable def Kv:Int×List Lnk×List Snd×List Trp×Dem×Nat→List PV:=fun (hn,ls,us,ts,d,s) => [.agg [I hn,AQ ls,Ay us,CK ts,I d.1,I d.2.1,I d.2.2.1,I d.2.2.2.1,I d.2.2.2.2],I s]
noncomputable def S5:Int×List Lnk×List Snd×List Trp×Dem×Nat→PV:=fun (hn,ls,us,ts,d,s)=>.agg [I (wHn hn ts),AQ (wLs hn ls ts d s),Ay (wUs ls us ts d s),I d.1,I d.2.1,I d.2.2.1,I d.2.2.2.1,I d.2.2.2.2]
def uV:Int×List Lnk×List Snd×List Trp×Dem×Nat→Prop:=fun (hn,ls,us,ts,d,s)=>Ee hn ls us ts d=0∧s<9223372036854775808
noncomputable def e_wide:Nat×Ent:=(28,.v (Ap Kv S5 uV))
theorem Ajf:∀i j,Kv i=Kv j→i=j:=by
 rintro ⟨_,_,_,_,_,_⟩ ⟨_,_,_,_,_,_⟩ h
 simp only[Kv,List.cons.injEq,and_true,PV.lits.injEq,PV.int.injEq,PV.agg.injEq,true_and,AF,AD,Ck]at h
 simp [Prod.ext_iff,h] <;> omega
theorem Pq (hn:Int) (ls:List Lnk) (us:List Snd) (ts:List Trp) (d:Dem) (s:Nat):Ap Kv S5 uV [.agg [I hn,AQ ls,Ay us,CK ts,I d.1,I d.2.1,I d.2.2.1,I d.2.2.2.1,I d.2.2.2.2],I s]=@ite (Option (PV)) (Ee hn ls us ts d=0∧s<9223372036854775808) (Classical.propDecidable _) (some (.agg [I (wHn hn ts),AQ (wLs hn ls ts d s),Ay (wUs ls us ts d s),I d.1,I d.2.1,I d.2.2.1,I d.2.2.2.1,I d.2.2.2.2])) none:=Br Ajf (hn,ls,us,ts,d,s)
def Ajg:Prop:=∀(hn:Int) (ls:List Lnk) (us:List Snd) (ts:List Trp) (d:Dem) (s:Nat) (h:Ee hn ls us ts d=0∧s<9223372036854775808) ,VC Tryz.prog 28 (Kv (hn,ls,us,ts,d,s)) (S5 (hn,ls,us,ts,d,s))
theorem Ajh:Ajg:=by
 rintro hn ls us ts d s ⟨hv,hsb⟩
 dsimp only[Kv,S5]
 refine OF [1] AP (l := [e_cloneL,e_cloneS,e_usable,e_only,e_order]) ((Ad uA (Ad VF (Ad uS (Ad Ajd (Ad ZJ Au)))))) [4,5,6,9,10,11] [12,13,14,15,16,17,19,20,21,24,25,100010,200011,41,42,43,47,48,49,600039,200039,600040,200040,600052,200052,600053,200053,900010,900011,600066,600067,600069,600070,600073,600074,600075,600076,200066,200067,200069,200070,200073,200074,200075,200076,900078,100078,900080,200080,114] 2 1 Tryz.func28 rfl (by decide +kernel) (N:=117) rfl (by simp) rfl (by kernel_rfl) fun hs=>?_
 simp only[AK,PV.small,List.length_map,and_true,true_and]at hs
 have V:=vck_iff.1 hv
 obtain ⟨hf,hdm,hD,hdu⟩:=BK V.fck
 obtain ⟨oku,_⟩:=Ce hf
 obtain ⟨hh1,hh2⟩:=oku.net.houses
 have hll:=oku.net.len
 have hul:=oku.len
 have hn4:=V.few
 have hsz:=V.size
 have k1:ls.length≤2147483648:=by omega
 have k2:us.length≤2147483648:=by omega
 have wn:IntKind.i64.wrap (hn+(ts.length:Int))=hn+(ts.length:Int):=Ah (by omega) (by omega)
 refine Pa (X:=?X) (N:=?N) (Q:=?Q) (c:=?c) (ks:=?ks) (fun ρ st=>∃cH cL,ρ 1=I s∧ρ 2=.vptr (S0 hn ls us ts d) 0∧ρ 4=.ptr 2 0 0 0∧ρ 5=.ptr cH 0 0 0∧ρ 6=.ptr 6 0 0 0∧ρ 7=.func (.func 51) [] [.vptr (S0 hn ls us ts d) 0,.ptr 6 0 0 0]∧ρ 32=CK ts∧ρ 33=I ts.length∧ρ 34=I 0∧(cH=3∧cL=4∨cH=4∧cL=3)∧st.obj cH=some (.arr 0 8 [.agg [I (wHn hn ts),.ref cL 0 0 ls.length,.nils,I d.1,I d.2.1,I d.2.2.1,I d.2.2.2.1,I d.2.2.2.2]])∧st.obj cL=some (.arr 0 50 (ls.map FL))∧st.obj 6=some (.arr 0 1 [.ref 5 0 0 us.length])∧st.obj 5=some (.arr 0 3 (us.map B5))∧st.obj 2=some (.arr 0 8 [.agg [I 0,.nils,.nils,I 0,I 0,I 0,I 0,I 0]])∧(∃g z es,st.obj 0=some (.arr g z es))∧(∃g z es,st.obj 1=some (.arr g z es))∧st.next=7) ?h1 ?h2
 case h1 =>
  intro tail
  simp only[↓bdD,bdP,seval,Store.new,e_cloneL,e_cloneS,e_usable,e_only,e_order,Tryz.f28,BF,↓AO,↓Ar]
  refine X0 15 10 (by rfl) (by kernel_rfl) ?_ ?_
  ·simp only[↓bdD,bdP,seval,Store.new,Store.set,VI,Pm,Ac,Aa,ty3,BP,AI,AN,BR,AX,Be,BF,La,↓AO,↓AH,↓Ar,wn,k1,k2]
   refine tail _ _ ?_
   refine ⟨4,3,?_⟩
   simp only[↓bdD,bdP,seval,wHn]
   exact ⟨⟨_,_,_,rfl,rfl,rfl⟩,⟨_,_,_,rfl,rfl,rfl⟩⟩
  ·simp only[atO,P3,List.length_cons,List.length_nil,Nat.reduceAdd,show List.range 17 = [0,1,2,3,4,5,6,7,8,9,10,11,12,13,14,15,16] from rfl,List.flatMap_cons,List.flatMap_nil,Nat.reduceEqDiff,if_false,if_true,List.cons_append,List.nil_append,List.append_nil,List.filterMap_cons,List.filterMap_nil,List.getElem?_toArray,List.getElem?_cons_succ,List.getElem?_cons_zero,Nat.reduceLT]
   simp only[↓bdD,bdP,seval,Store.new,Store.set,VI,Pm,Ac,Aa,ty3,BP,AI,AN,BR,AX,Be,BF,La,↓AO,↓AH,↓Ar,wn,k1,k2]
   refine tail _ _ ?_
   refine ⟨3,4,?_⟩
   simp only[↓bdD,bdP,seval,wHn]
   exact ⟨⟨_,_,_,rfl,rfl,rfl⟩,⟨_,_,_,rfl,rfl,rfl⟩⟩
 case h2 =>
  rintro ρ0 ⟨ob0,M0⟩ ⟨cH,cL,t1,t2,t4,t5,t6,t7,t32,t33,t34,hc,oH,oL,o6,o5,o2,o0,o1,hM0⟩
  dsimp only at oH oL o6 o5 o2 o0 o1 hM0
  subst hM0
  have c1:¬cH=cL:=by omega
  have c2:¬cL=cH:=by omega
  have c3:¬cH=0∧¬cH=1∧¬cH=2∧¬cH=5∧¬cH=6∧¬0=cH∧¬1=cH∧¬2=cH∧¬5=cH∧¬6=cH:=by omega
  have c4:¬cL=0∧¬cL=1∧¬cL=2∧¬cL=5∧¬cL=6∧¬0=cL∧¬1=cL∧¬2=cL∧¬5=cL∧¬6=cL:=by omega
  refine Aw [8,9,10,11,34,35,36,37,38,39,40,41,42,43,44,45,46,47,48,49,50,51,52,53,54,55,56,57,58,59,60,61,62,63,64,65,66,67,68,69,70,71,72,73,74,75,76,77,78,79,80,81,82,83,84,85,86,87,88,89,90,91,92,93,94,95,96,97,98,99,100,101,102,103,104,105,106,107,108,109,110,111,112] ts.length (fun k ρ st'=>ρ 34=I k∧(∃g,st'.obj cH=some (.arr 0 8 [.agg [I (wHn hn ts),.ref cL g 0 (ls.length+2*k),.nils,I d.1,I d.2.1,I d.2.2.1,I d.2.2.2.1,I d.2.2.2.2]])∧st'.obj cL=some (.arr g 50 ((ls++wLk hn d s ts k).map FL)))∧(∃g,st'.obj 6=some (.arr 0 1 [.ref 5 g 0 (us++wXt ls.length d s ts k).length])∧st'.obj 5=some (.arr g 3 ((us++wXt ls.length d s ts k).map B5)))∧st'.obj 2=some (.arr 0 8 [.agg [I 0,.nils,.nils,I 0,I 0,I 0,I 0,I 0]])∧(∃g z es,st'.obj 0=some (.arr g z es))∧(∃g z es,st'.obj 1=some (.arr g z es))∧7≤st'.next) (.refl _) ?_ ?_
  ·simp only[↓bdD,bdP,Nat.reduceMul,t34,oH,oL,o6,o5,o2,wLk,wXt]
   exact ⟨⟨0,rfl,rfl⟩,⟨0,rfl,rfl⟩,o0,o1⟩
  rintro k ρ ⟨ob,M⟩ hk ⟨h34,⟨g,pH,pL⟩,⟨g',p6,p5⟩,p2,⟨g0,z0,e0,p0⟩,⟨g1,z1,e1,p1⟩,hM⟩
  dsimp only at pH pL p6 p5 p2 p0 p1 hM
  clear oH oL o6 o5 o2 o0 o1
  have m1:¬M=0∧¬M=1∧¬M=2∧¬M=5∧¬M=6∧¬0=M∧¬1=M∧¬2=M∧¬5=M∧¬6=M∧¬M=cH∧¬cH=M∧¬M=cL∧¬cL=M:=by omega
  have mp:¬M<2:=by omega
  by_cases hlt:k<ts.length
  ·have hwk:IntKind.i64.wrap ((k:Int)+1)=((k+1:Nat):Int):=by rw[Ah (by omega) (by omega)];omega
   have hyk:=ES hlt
   have x1:=V.ends k hlt
   have x2:=V.times k hlt
   have x3:=V.room k hlt
   have whk:IntKind.i64.wrap (hn+(k:Int))=hn+(k:Int):=Ah (by omega) (by omega)
   have hbit:=ZK (a:=s) (i:=k) hsb
   have hk0:¬(k:Int)<0:=by omega
   have hk64:k≤64:=by omega
   have eLk:wLk hn d s ts (k+1)=wLk hn d s ts k ++ [S1 hn d s ts k,S3 hn d s ts k]:=rfl
   have eXt:wXt ls.length d s ts (k+1)=if onV d s ts k=true then wXt ls.length d s ts k++Cf d ((ls.length+2*k:Nat):Int) (ts.getD k dT).2.2.1 (ts.getD k dT).2.2.2.2.2.1 (As d)++Cf d ((ls.length+2*k+1:Nat):Int) ((ts.getD k dT).2.2.2.2.1-1) (ts.getD k dT).2.2.2.2.2.1 (As d)else wXt ls.length d s ts k:=rfl
   have lk1:=Js (hn:=hn) (d:=d) (s:=s) (ts:=ts) k
   have lx1:=S4 (L:=ls.length) (d:=d) (s:=s) (ts:=ts) k
   have hlx:(wXt ls.length d s ts k).length≤1000:=Nat.le_trans lx1 (Nat.le_trans (Nat.mul_le_mul (show 2*k≤8 by omega) (show As d≤32 by omega)) (by decide))
   rw [eLk,eXt]
   unfold S1 S3 onV
   generalize wLk hn d s ts k=K at *
   have hP:(ls++K).length=ls.length+2*k:=by rw[List.length_append,lk1]
   have eK:∀a b,ls++(K ++ [a,b])=(ls++K) ++ [a,b]:=fun a b=>(List.append_assoc _ _ _).symm
   generalize ls++K=P at *
   have htP:List.take (ls.length+2*k) (P.map FL)=P.map FL:=List.take_of_length_le (by rw[List.length_map,hP];exact Nat.le_refl _)
   have nlP:¬ls.length+2*k+2≤ls.length+2*k:=by omega
   have jlP:ls.length+2*k≤2147483646:=by omega
   have e2k:ls.length+2*(k+1)=ls.length+2*k+2:=by omega
   generalize wXt ls.length d s ts k=X at *
   generalize ts.getD k dT=x at *
   have z1:=Amm x.1 (hn+(k:Int))
   have z2:=Amm (hn+(k:Int)) x.2.1
   have n1:1-1=0:=rfl
   have n2:2-1=1:=rfl
   by_cases hb:s.testBit k=true
   case neg =>
    rw [if_neg hb]at hbit
    simp only[↓bdD,bdP,seval,Store.new,Store.set,BJ,CT,ty3,BP,AI,BR,Be,C6,BF,CI,↓A5,↓AO,↓AH,↓Ar,↓AG,h34,t1,t2,t5,t32,t33,c1,c2,c3,c4,pH,pL,p6,p5,p2,p0,p1,m1,mp,hlt,hyk,whk,hbit,hk0,hk64,hwk,hb,Bool.false_and,n1,n2,Po,Pp,Hq,LB,Av,hP,eK,htP,nlP,jlP,e2k,z1,z2]
    exact ⟨⟨_,rfl,rfl,by rw[List.map_append];rfl⟩,⟨_,rfl,rfl⟩,⟨_,_,_,rfl,rfl,rfl⟩,⟨_,_,_,rfl,rfl,rfl⟩,by omega⟩
   rw [if_pos hb]at hbit
   by_cases hu:usB x d=true
   case neg =>
    simp only[↓bdD,bdP,seval,Store.new,Store.set,VM,BJ,CT,ty3,BP,AI,BR,AX,Be,C6,BF,CI,↓A5,↓AO,↓AH,↓Ar,↓AG,h34,t1,t2,t5,t32,t33,c1,c2,c3,c4,pH,pL,p6,p5,p2,p0,p1,m1,mp,hlt,hyk,whk,hbit,hk0,hk64,hwk,hb,Bool.false_and,n1,n2,Po,Pp,Hq,LB,Av,hP,eK,htP,nlP,jlP,e2k,z1,z2,hu,Bool.and_false]
    exact ⟨⟨_,rfl,rfl,by rw[List.map_append];rfl⟩,⟨_,rfl,rfl⟩,⟨_,_,_,rfl,rfl,rfl⟩,⟨_,_,_,rfl,rfl,rfl⟩,by omega⟩
   have hu2:d.2.2.2.1≤x.2.2.1∧x.2.2.2.2.1≤d.2.2.2.2:=by
    unfold usB at hu
    simp only[Bool.and_eq_true,decide_eq_true_eq]at hu
    exact hu
   obtain ⟨_,_,hr⟩:=BZ hdm
   have hr2:=hr.2.2.1
   have hr3:=hr.2.2.2.2
   have hr4:=hr.2.2.2.1
   have wl1:IntKind.i64.wrap (x.2.2.2.2.1-1)=x.2.2.2.2.1-1:=Ah (by omega) (by omega)
   have h24:=MA (t:=x.2.2.1) (by omega)
   have h24':=MA (t:=x.2.2.2.2.1-1) (by omega)
   have hh:x.2.2.1.toNat % 24<24:=Nat.mod_lt _ (by omega)
   have hh':(x.2.2.2.2.1-1).toNat % 24<24:=Nat.mod_lt _ (by omega)
   have wL:IntKind.i64.wrap (((ls.length+2*k:Nat):Int)+1)=((ls.length+2*k+1:Nat):Int):=by rw[Ah (by omega) (by omega)];omega
   have q1:=ZL (l:=(x.1,hn+(k:Int),(fun _=>0),fun _=>0)) (v:=x.2.2.2.2.2.1) hh
   have q2:=ZL (l:=(hn+(k:Int),x.2.1,(fun _=>0),fun _=>0)) (v:=x.2.2.2.2.2.1) hh'
   dsimp only at q1 q2
   obtain ⟨hA,ehA⟩:∃a,x.2.2.1.toNat % 24=a:=⟨_,rfl⟩
   obtain ⟨hB,ehB⟩:∃a,(x.2.2.2.2.1-1).toNat % 24=a:=⟨_,rfl⟩
   rw [ehA]at h24 hh q1 ⊢
   rw [ehB]at h24' hh' q2 ⊢
   have i1:((hA:Nat):Int)<24:=by omega
   have i2:((hB:Nat):Int)<24:=by omega
   have i3:2+hA≤49:=by omega
   have i4:2+hB≤49:=by omega
   have sp1:∀st:Store,st.obj 6=some (.arr 0 1 [.ref 5 g' 0 (us++X).length])→st.obj 5=some (.arr g' 3 ((us++X).map B5))→_:=fun st a b=>uT (hn:=hn) (ls:=ls) (us:=us) (ts:=ts) (d:=d) (link:=((ls.length+2*k:Nat):Int)) (tick:=x.2.2.1) (room:=x.2.2.2.2.2.1) (us++X) g' (st:=st) ⟨a,b,⟨hr2,hr4,hr3⟩,by dsimp only;omega,by dsimp only;rw[List.length_append];omega⟩
   have l1:=G6 (d:=d) (link:=((ls.length+2*k:Nat):Int)) (tick:=x.2.2.1) (room:=x.2.2.2.2.2.1) (As d)
   simp only[IX,OW.new]at sp1
   generalize hO1:Cf d ((ls.length+2*k:Nat):Int) x.2.2.1 x.2.2.2.2.2.1 (As d)=O1 at *
   have sp2:∀st:Store,st.obj 6=some (.arr 0 1 [.ref 5 (g'+O1.length) 0 (us++X++O1).length])→st.obj 5=some (.arr (g'+O1.length) 3 ((us++X++O1).map B5))→_:=fun st a b=>uT (hn:=hn) (ls:=ls) (us:=us) (ts:=ts) (d:=d) (link:=((ls.length+2*k+1:Nat):Int)) (tick:=x.2.2.2.2.1-1) (room:=x.2.2.2.2.2.1) (us++X++O1) (g'+O1.length) (st:=st) ⟨a,b,⟨hr2,hr4,hr3⟩,by dsimp only;omega,by dsimp only;rw[List.length_append,List.length_append];omega⟩
   simp only[IX,OW.new]at sp2
   generalize hO2:Cf d ((ls.length+2*k+1:Nat):Int) (x.2.2.2.2.1-1) x.2.2.2.2.2.1 (As d)=O2 at *
   have eX:us++(X++O1++O2)=us++X++O1++O2:=by simp only[List.append_assoc]
   rw [if_pos (by rw[hb,hu];rfl),eX]
   have eU:(us++X).length=us.length+X.length:=List.length_append
   simp only[↓bdD,bdP,seval,Store.new,Store.set,VM,Ac,Aa,AB,BJ,CT,Nat.mul_one,ty3,BP,AI,BR,AX,Be,C6,BF,OG,CI,↓A5,↓AO,↓AH,↓Ar,↓AG,h34,t1,t2,t5,t7,t32,t33,c1,c2,c3,c4,pH,pL,p6,p5,p2,p0,p1,m1,mp,hlt,hyk,whk,hbit,hk0,hk64,hwk,hb,Bool.false_and,n1,n2,Po,Pp,Hq,LB,Av,hP,eK,htP,nlP,jlP,e2k,z1,z2,hu,wl1,h24,h24',wL,i1,i2,i3,i4,sp1,sp2,q1,q2]
   exact ⟨⟨_,rfl,rfl,by rw[List.map_append];rfl⟩,⟨_,rfl,rfl⟩,⟨_,_,_,rfl,rfl,rfl⟩,⟨_,_,_,rfl,rfl,rfl⟩,by omega⟩
  ·have e:k=ts.length:=by omega
   subst e
   have so:=ZI (l:=us++wXt ls.length d s ts ts.length)
   have lx1:=S4 (L:=ls.length) (d:=d) (s:=s) (ts:=ts) ts.length
   have hlx:(wXt ls.length d s ts ts.length).length≤1000:=Nat.le_trans lx1 (Nat.le_trans (Nat.mul_le_mul (show 2*ts.length≤8 by omega) (show As d≤32 by omega)) (by decide))
   rw [if_pos ⟨by rw[List.length_append];omega,Rf oku⟩]at so
   have eU:wUs ls us ts d s=Ku (us++wXt ls.length d s ts ts.length):=rfl
   have eL:wLs hn ls ts d s=ls++wLk hn d s ts ts.length:=rfl
   have hLl:(ls++wLk hn d s ts ts.length).length=ls.length+2*ts.length:=by rw[List.length_append,Js]
   rw [←eU]at so
   rw [←eL]at hLl pL
   generalize wUs ls us ts d s=U at *
   generalize wLs hn ls ts d s=L at *
   generalize us++wXt ls.length d s ts ts.length=X at *
   have htP:List.take (ls.length+2*ts.length) (L.map FL)=L.map FL:=List.take_of_length_le (by rw[List.length_map,hLl];exact Nat.le_refl _)
   have htX:List.take X.length (X.map B5)=X.map B5:=List.take_of_length_le (by rw[List.length_map];exact Nat.le_refl _)
   simp only[↓bdD,bdP,seval,Ao,Store.set,Ac,AN,BF,La,↓AO,↓Cd,↓En,↓Ar,↓AG,h34,t4,t5,t6,t33,c3,pH,p6,p5,p2,hlt,so,htX]
   refine DRx.sound ?_
   simp only[↓bdD,bdP,↓reduceIte,Ac,Aa,c2,c4,pL,htP,hLl]
   done
theorem Pr:AM Tryz.prog e_wide.1 e_wide.2:=Ax fun⟨hn,ls,us,ts,d,s⟩ h=>Ajh hn ls us ts d s h
def okO (ts:List Trp) (o:List Int):Prop:=∀k,k<ts.length→0≤o.getD k 0∧o.getD k 0≤(ts.getD k dT).2.2.2.2.2.1
instance (ts:List Trp) (o:List Int):Decidable (okO ts o):=by unfold okO;infer_instance
def CM (L:Nat) (ts:List Trp) (o:List Int):Nat→List Snd
 | 0 => []
 | k+1=>if 0<o.getD k 0 then CM L ts o k ++ [(((L+2*k:Nat):Int),(ts.getD k dT).2.2.1,o.getD k 0),(((L+2*k+1:Nat):Int),(ts.getD k dT).2.2.2.2.1-1,o.getD k 0)]else CM L ts o k
def IZ (hn:Int) (ls:List Lnk) (us:List Snd) (ts:List Trp) (d:Dem) (l:List Snd) (o:List Int):Int :=
 if Ee hn ls us ts d≠0 then Ee hn ls us ts d else if Bf hn ls l≠0∨1992<l.length∨o.length≠ts.length then 1 else if ¬okO ts o then 1 else 0
def schL (hn:Int) (ls:List Lnk) (us:List Snd) (ts:List Trp) (d:Dem) (l:List Snd) (o:List Int):List Snd :=
 if IZ hn ls us ts d l o=0 then Ku (l++CM ls.length ts o ts.length)else []
theorem Jt {L:Nat} {ts:List Trp} {o:List Int}:∀k,(CM L ts o k).length≤2*k
 | 0=>by simp[CM]
 | k+1=>by
  have := Jt (L:=L) (ts:=ts) (o:=o) k
  simp only[CM]
  split
  ·simp; omega
  ·omega
theorem G8 {L:Nat} {ts:List Trp} {o:List Int} {x:Snd}:∀k,x∈CM L ts o k→∃i,i<k∧0<o.getD i 0∧x.2.2=o.getD i 0∧(x.1=((L+2*i:Nat):Int)∧x.2.1=(ts.getD i dT).2.2.1∨x.1=((L+2*i+1:Nat):Int)∧x.2.1=(ts.getD i dT).2.2.2.2.1-1)
 | 0,h=>by simp[CM]at h
 | k+1,h=>by
  have ih:=G8 (L:=L) (ts:=ts) (o:=o) (x:=x) k
  simp only[CM]at h
  split at h
  ·rename_i c
   rcases List.mem_append.1 h with h | h
   ·obtain ⟨i,hi,r⟩:=ih h;exact⟨i,by omega,r⟩
   ·simp only[List.mem_cons,List.not_mem_nil,or_false]at h
    rcases h with rfl | rfl
    ·exact ⟨k,by omega,c,rfl,.inl ⟨rfl,rfl⟩⟩
    ·exact ⟨k,by omega,c,rfl,.inr ⟨rfl,rfl⟩⟩
  ·obtain ⟨i,hi,r⟩:=ih h;exact⟨i,by omega,r⟩
theorem Kw {L:Nat} {ts:List Trp} {o:List Int}:∀k,Dv (CM L ts o k)
 | 0=>List.Pairwise.nil
 | k+1=>by
  have ih:=Kw (L:=L) (ts:=ts) (o:=o) k
  simp only[CM]
  split
  ·refine List.pairwise_append.2 ⟨ih,?_,fun a ha b hb=>?_⟩
   ·rw [List.pairwise_cons]
    refine ⟨fun b hb=>?_,List.pairwise_singleton _ _⟩
    simp only[List.mem_singleton]at hb
    subst hb
    dsimp only;omega
   ·obtain ⟨i,hi,_,_,r⟩:=G8 k ha
    simp only[List.mem_cons,List.not_mem_nil,or_false]at hb
    rcases hb with rfl | rfl <;> dsimp only <;> omega
  ·exact ih
theorem uW {hn:Int} {ls:List Lnk} {ts:List Trp} {l:List Snd} {o:List Int} {k:Nat} (ok:OKr hn ls l):Dv (l++CM ls.length ts o k):=by
 refine List.pairwise_append.2 ⟨G5 (Jq ok),Kw k,fun a ha b hb=>?_⟩
 have h1:=LI ok ha
 obtain ⟨i,hi,_,_,r⟩:=G8 k hb
 omega
noncomputable def HI:Int×List Lnk×List Snd×List Trp×Dem×List Snd×List Int→List PV:=fun (hn,ls,us,ts,d,l,o) => [.agg [I hn,AQ ls,Ay us,CK ts,I d.1,I d.2.1,I d.2.2.1,I d.2.2.2.1,I d.2.2.2.2],.agg [Ay l,ints o]]
noncomputable def NO:Int×List Lnk×List Snd×List Trp×Dem×List Snd×List Int→PV:=fun (hn,ls,us,ts,d,l,o)=>.tuple [Ay (schL hn ls us ts d l o),I (IZ hn ls us ts d l o)]
noncomputable def e_sched:Nat×Ent:=(25,.v (Ap HI NO AY))
theorem Ac7:∀i j,HI i=HI j→i=j:=by
 rintro ⟨_,_,_,_,_,_,_⟩ ⟨_,_,_,_,_,_,_⟩ h
 simp only[HI,List.cons.injEq,and_true,PV.lits.injEq,PV.int.injEq,PV.agg.injEq,true_and,B1,AF,AD,Ck]at h
 simp [Prod.ext_iff,h] <;> omega
theorem S6 (hn:Int) (ls:List Lnk) (us:List Snd) (ts:List Trp) (d:Dem) (l:List Snd) (o:List Int):Ap HI NO AY [.agg [I hn,AQ ls,Ay us,CK ts,I d.1,I d.2.1,I d.2.2.1,I d.2.2.2.1,I d.2.2.2.2],.agg [Ay l,ints o]]=some (.tuple [Ay (schL hn ls us ts d l o),I (IZ hn ls us ts d l o)]):=AC Ac7 (i:=(hn,ls,us,ts,d,l,o)) trivial
def Ac8:Prop:=∀(hn:Int) (ls:List Lnk) (us:List Snd) (ts:List Trp) (d:Dem) (l:List Snd) (o:List Int) ,VC Tryz.prog 25 (HI (hn,ls,us,ts,d,l,o)) (NO (hn,ls,us,ts,d,l,o))
theorem Ac9:Ac8:=by
 intro hn ls us ts d l o
 dsimp only[HI,NO]
 refine Bc AP (l := [e_vcheck,e_right,e_cloneS,e_order]) ((Ad Pn (Ad Jk (Ad VF (Ad ZJ Au))))) [] [102]  Tryz.func25 rfl (by decide +kernel) (N:=103) rfl (by simp) rfl (by kernel_rfl) fun hs=>?_
 simp only[AK,PV.small,List.length_map,and_true,true_and]at hs
 obtain ⟨E,hE⟩:∃E,IZ hn ls us ts d l o=E:=⟨_,rfl⟩
 obtain ⟨R,hR⟩:∃R,schL hn ls us ts d l o=R:=⟨_,rfl⟩
 rw [hE,hR]
 unfold schL at hR
 rw [hE]at hR
 unfold IZ at hE
 by_cases h1:Ee hn ls us ts d=0
 case neg =>
  rw [if_pos h1]at hE
  have h2:R = []:=by rw[←hR,if_neg (by rw[←hE];exact h1)]
  subst hE h2
  simp only[↓bdD,bdP,seval,Ao,st0,e_vcheck,ET,e_right,e_cloneS,e_order,Ac,Aa,AB,Tryz.f25,Be,h1]
 rw [if_neg (fun g=>g h1)]at hE
 have V:=vck_iff.1 h1
 by_cases h2:Bf hn ls l=0
 case neg =>
  rw [if_pos (.inl h2)]at hE
  have h3:R = []:=by rw[←hR,if_neg (by omega)]
  subst hE h3
  simp only[↓bdD,bdP,seval,Ao,st0,e_vcheck,ET,e_right,By,e_cloneS,e_order,Ac,Aa,AB,Tryz.f25,AI,AN,Be,B3,h1,h2]
 have ok:=right_zero.1 h2
 by_cases h3:1992<l.length
 ·rw [if_pos (.inr (.inl h3))]at hE
  have h4:R = []:=by rw[←hR,if_neg (by omega)]
  subst hE h4
  have h3i:(1992:Int)<(l.length:Int):=by omega
  simp only[↓bdD,bdP,seval,Ao,st0,e_vcheck,ET,e_right,By,e_cloneS,e_order,Ac,Aa,AB,Tryz.f25,AI,AN,Be,B3,h1,h2,h3i]
 have h3i:¬(1992:Int)<(l.length:Int):=by omega
 by_cases h4:o.length=ts.length
 case neg =>
  rw [if_pos (.inr (.inr h4))]at hE
  have h5:R = []:=by rw[←hR,if_neg (by omega)]
  subst hE h5
  have h4i:¬(o.length:Int)=(ts.length:Int):=by omega
  simp only[↓bdD,bdP,seval,Ao,st0,e_vcheck,ET,e_right,By,e_cloneS,e_order,Ac,Aa,AB,Tryz.f25,AI,AN,BR,Be,AS,B3,h1,h2,h3i,h4i]
 have h4i:((o.length:Int)=(ts.length:Int))=True:=eq_true (by omega)
 have h4t:=eq_true h4
 rw [if_neg (fun g=>by rcases g with g | g | g;exact g h2;exact h3 g;exact g h4)]at hE
 have hn4:=V.few
 have hll:=V.size.2.1
 have k1:l.length≤2147483648:=by omega
 refine Pa (X:=?X) (N:=?N) (Q:=?Q) (c:=?c) (ks:=?ks) (fun ρ st=>ρ 2=.vptr (S0 hn ls us ts d) 0∧ρ 3=.vptr [Ay l,ints o] 0∧ρ 7=.ref 0 0 0 l.length∧ρ 41=CK ts∧ρ 42=I ts.length∧ρ 43=I 0∧st.obj 0=some (.arr 0 3 (l.map B5))∧st.next=1) ?h1 ?h2
 case h1 =>
  intro tail
  simp only[↓bdD,bdP,seval,st0,Store.new,e_vcheck,ET,e_right,By,e_cloneS,Pm,e_order,Ac,Aa,AB,Tryz.f25,AI,AN,BR,Be,AS,B3,h1,h2,h3i,h4,k1]
  refine tail _ _ ?_
  simp only[↓bdD,bdP,Nat.reduceBEq]
 rintro ρ0 ⟨ob0,M0⟩ ⟨t2,t3,t7,t41,t42,t43,o0,hM0⟩
 dsimp only at o0 hM0
 subst hM0
 refine Aw [4,5,7,8,9,10,43,44,45,46,47,48,49,50,51,52,53,54,55,56,57,58,59,60,61,62,63,64,65,66,67,68,69,70,71,72,73,74,75,76,77,78,79,80,81,82,83,84,85,86,87,88,89,90,91,92,93,94,95,96,97,98,99,100] ts.length (fun k ρ st'=>ρ 43=I k∧(∃g,ρ 7=.ref 0 g 0 (l++CM ls.length ts o k).length∧st'.obj 0=some (.arr g 3 ((l++CM ls.length ts o k).map B5)))∧1≤st'.next∧(∀i,i<k→0≤o.getD i 0∧o.getD i 0≤(ts.getD i dT).2.2.2.2.2.1)) (.refl _) ?_ ?_
 ·simp only[↓bdD,bdP,t43,t7,o0,CM]
  exact ⟨⟨0,rfl,rfl⟩,fun i hi=>absurd hi (by omega)⟩
 rintro k ρ ⟨ob,M⟩ hk ⟨h43,⟨g,h7,p0⟩,hM,hI⟩
 dsimp only at p0 hM
 have m1:¬M=0∧¬0=M:=by omega
 by_cases hlt:k<ts.length
 ·have hwk:IntKind.i64.wrap ((k:Int)+1)=((k+1:Nat):Int):=by rw[Ah (by omega) (by omega)];omega
  have hyk:=ES hlt
  have hlo:k<o.length:=by omega
  have hok:nth (o.map (PV.int .i64)) k=I (o.getD k 0):=B9 0 hlo
  have hki:(k:Int)<(o.length:Int):=by omega
  have x2:=V.times k hlt
  have eT:CM ls.length ts o (k+1)=if 0<o.getD k 0 then CM ls.length ts o k ++ [(((ls.length+2*k:Nat):Int),(ts.getD k dT).2.2.1,o.getD k 0),(((ls.length+2*k+1:Nat):Int),(ts.getD k dT).2.2.2.2.1-1,o.getD k 0)]else CM ls.length ts o k:=rfl
  have lT:=Jt (L:=ls.length) (ts:=ts) (o:=o) k
  have bad:¬(0≤o.getD k 0∧o.getD k 0≤(ts.getD k dT).2.2.2.2.2.1)→E=1∧R = []:=fun g=>by
   rw [if_pos (fun f=>g (f k hlt))]at hE
   exact ⟨hE.symm,by rw[←hR,if_neg (by omega)]⟩
  have hI2:0≤o.getD k 0∧o.getD k 0≤(ts.getD k dT).2.2.2.2.2.1→∀i,i<k+1→0≤o.getD i 0∧o.getD i 0≤(ts.getD i dT).2.2.2.2.2.1:=fun g i hi=>by
   by_cases e:i=k
   ·subst e;exact g
   ·exact hI i (by omega)
  rw [eT]
  generalize ts.getD k dT=x at *
  generalize CM ls.length ts o k=T at *
  generalize o.getD k 0=z at *
  have w2:IntKind.i64.wrap (2*(k:Int))=2*(k:Int):=Ah (by omega) (by omega)
  have w3:IntKind.i64.wrap ((ls.length:Int)+2*(k:Int))=((ls.length+2*k:Nat):Int):=by rw[Ah (by omega) (by omega)];omega
  have w4:IntKind.i64.wrap (((ls.length+2*k:Nat):Int)+1)=((ls.length+2*k+1:Nat):Int):=by rw[Ah (by omega) (by omega)];omega
  have w5:IntKind.i64.wrap (x.2.2.2.2.1-1)=x.2.2.2.2.1-1:=Ah (by omega) (by omega)
  have hPl:(l++T).length≤2147483640:=by rw[List.length_append];omega
  have eA:∀a b,l++(T ++ [a,b])=(l++T) ++ [a,b]:=fun a b=>(List.append_assoc _ _ _).symm
  generalize hP:l++T=P at *
  have htP:List.take P.length (P.map B5)=P.map B5:=List.take_of_length_le (by rw[List.length_map];exact Nat.le_refl _)
  have nlP:¬P.length+2≤P.length:=by omega
  have jlP:P.length≤2147483646:=by omega
  by_cases b1:z<0
  ·obtain ⟨e1,e2⟩:=bad (by omega)
   subst e1 e2
   simp only[↓bdD,bdP,seval,Ao,Store.new,Store.set,ty3,BR,AS,B3,C6,h43,t3,t41,t42,m1,hlt,hyk,hok,hki,b1]
  by_cases b2:x.2.2.2.2.2.1<z
  ·obtain ⟨e1,e2⟩:=bad (by omega)
   subst e1 e2
   simp only[↓bdD,bdP,seval,Ao,Store.new,Store.set,ty3,BR,AS,B3,C6,h43,t3,t41,t42,m1,hlt,hyk,hok,hki,b1,b2]
  have hI3:=hI2 (by omega)
  clear hI2 bad
  by_cases b3:0<z
  ·rw [if_pos b3]
   simp only[↓bdD,bdP,seval,Store.new,Store.set,ty3,BP,AI,BR,Be,AS,B3,C6,Cn,La,h43,t2,t3,t41,t42,h7,p0,m1,hlt,hyk,hok,hki,b1,b2,b3,hwk,w2,w3,w4,w5,eA,htP,nlP,jlP,Av]
   exact ⟨⟨_,rfl,rfl,by rw[List.map_append];rfl⟩,hI3⟩
  ·rw [if_neg b3]
   simp only[↓bdD,bdP,seval,Store.new,Store.set,ty3,BR,AS,B3,C6,h43,t3,t41,t42,h7,p0,m1,hlt,hyk,hok,hki,b1,b2,b3,hwk]
   exact ⟨⟨_,by rw[←hP,List.length_append],rfl,by rw[hP]⟩,hI3⟩
 ·have e:k=ts.length:=by omega
  subst e
  rw [if_neg (fun g=>g hI)]at hE
  subst hE
  rw [if_pos rfl]at hR
  have so:=ZI (l:=l++CM ls.length ts o ts.length)
  have lT:=Jt (L:=ls.length) (ts:=ts) (o:=o) ts.length
  rw [if_pos ⟨by rw[List.length_append];omega,uW ok⟩,hR]at so
  generalize l++CM ls.length ts o ts.length=P at *
  have htP:List.take P.length (P.map B5)=P.map B5:=List.take_of_length_le (by rw[List.length_map];exact Nat.le_refl _)
  simp only[↓bdD,bdP,seval,Ao,Ac,La,h43,t42,h7,p0,hlt,so,htP]
theorem S7:AM Tryz.prog e_sched.1 e_sched.2:=Ax fun⟨hn,ls,us,ts,d,l,o⟩ h=>Ac9 hn ls us ts d l o
structure SchOK (hn:Int) (ls:List Lnk) (us:List Snd) (ts:List Trp) (d:Dem) (l:List Snd) (o:List Int):Prop where
 voy : VoyOK hn ls us ts d
 right : OKr hn ls l
 len : l.length≤1992
 loads : o.length=ts.length
 room : okO ts o
section
variable {hn:Int} {ls:List Lnk} {us:List Snd} {ts:List Trp} {d:Dem}
theorem sch_zero {l:List Snd} {o:List Int}:IZ hn ls us ts d l o=0↔SchOK hn ls us ts d l o:=by
 unfold IZ
 constructor
 ·intro h
  split at h
  ·rename_i h1;exact absurd h h1
  ·rename_i h1
   split at h
   ·cases h
   ·rename_i h2
    split at h
    ·cases h
    ·rename_i h3
     exact ⟨vck_iff.1 (Classical.not_not.1 h1),right_zero.1 (Classical.byContradiction fun g=>h2 (.inl g)),by omega,by omega,Classical.not_not.1 h3⟩
 ·intro h
  rw [if_neg (fun g=>g (vck_iff.2 h.voy)),if_neg (fun g=>by
   rcases g with g | g | g
   ·exact g (right_zero.2 h.right)
   ·have := h.len;omega
   ·exact g h.loads),if_neg (fun g=>g h.room)]
theorem MM (V:VoyOK hn ls us ts d):Yw ts:=⟨V.few,V.price⟩
end
def Et (hn:Int) (ls:List Lnk) (us:List Snd) (ts:List Trp) (d:Dem) (l:List Snd) (o:List Int):Int:=if IZ hn ls us ts d l o=0 then BN hn ls l+Cm ts o o.length else 0
noncomputable def HJ:Int×List Lnk×List Snd×List Trp×Dem×List Snd×List Int→List PV:=fun (hn,ls,us,ts,d,l,o) => [.agg [I hn,AQ ls,Ay us,CK ts,I d.1,I d.2.1,I d.2.2.1,I d.2.2.2.1,I d.2.2.2.2],.agg [Ay l,ints o]]
noncomputable def NP:Int×List Lnk×List Snd×List Trp×Dem×List Snd×List Int→PV:=fun (hn,ls,us,ts,d,l,o)=>.tuple [I (Et hn ls us ts d l o),I (IZ hn ls us ts d l o)]
noncomputable def e_vcost:Nat×Ent:=(10,.v (Ap HJ NP AY))
theorem Ada:∀i j,HJ i=HJ j→i=j:=by
 rintro ⟨_,_,_,_,_,_,_⟩ ⟨_,_,_,_,_,_,_⟩ h
 simp only[HJ,List.cons.injEq,and_true,PV.lits.injEq,PV.int.injEq,PV.agg.injEq,true_and,B1,AF,AD,Ck]at h
 simp [Prod.ext_iff,h] <;> omega
theorem EC (hn:Int) (ls:List Lnk) (us:List Snd) (ts:List Trp) (d:Dem) (l:List Snd) (o:List Int):Ap HJ NP AY [.agg [I hn,AQ ls,Ay us,CK ts,I d.1,I d.2.1,I d.2.2.1,I d.2.2.2.1,I d.2.2.2.2],.agg [Ay l,ints o]]=some (.tuple [I (Et hn ls us ts d l o),I (IZ hn ls us ts d l o)]):=AC Ada (i:=(hn,ls,us,ts,d,l,o)) trivial
def Adb:Prop:=∀(hn:Int) (ls:List Lnk) (us:List Snd) (ts:List Trp) (d:Dem) (l:List Snd) (o:List Int) ,VC Tryz.prog 10 (HJ (hn,ls,us,ts,d,l,o)) (NP (hn,ls,us,ts,d,l,o))
theorem Adc:Adb:=by
 intro hn ls us ts d l o
 dsimp only[HJ,NP]
 refine Bc AP (l := [e_sched,e_loaded,e_cost]) ((Ad S7 (Ad VL (Ad Aij Au)))) [] []  Tryz.func10 rfl (by decide +kernel) (N:=38) rfl (by simp) rfl (by kernel_rfl) fun hs=>?_
 simp only[AK,PV.small,List.length_map,and_true,true_and]at hs
 unfold Et
 have sp:=S6 (hn:=hn) (ls:=ls) (us:=us) (ts:=ts) (d:=d) (l:=l) (o:=o)
 by_cases h1:IZ hn ls us ts d l o=0
 case neg =>
  rw [if_neg h1]
  simp only[↓bdD,bdP,seval,Ao,st0,e_sched,e_loaded,e_cost,Ac,Aa,AB,Tryz.f10,Be,B3,h1,sp]
 rw [if_pos h1]
 have S:=sch_zero.1 h1
 have hp:=MM S.voy
 have hol:=S.loads
 have hc:BN hn ls l=Dr ls l l.length:=by unfold BN;rw[if_neg (fun g=>g (right_zero.2 S.right))]
 have b1:=IS S.right l.length (Nat.le_refl _)
 have b2:=Jp (o:=o) hp o.length (by omega)
 have hl:=S.len
 have h4:=hp.1
 have w:IntKind.i64.wrap (BN hn ls l+Cm ts o o.length)=BN hn ls l+Cm ts o o.length:=by rw[hc];exact Ah (by omega) (by omega)
 have sl:=VK (hn:=hn) (ls:=ls) (us:=us) (ts:=ts) (d:=d) (l:=l) (o:=o)
 rw [if_pos ⟨hp,hol⟩]at sl
 simp only[↓bdD,bdP,seval,Ao,st0,e_sched,e_loaded,e_cost,Aig,Ac,Aa,AB,Tryz.f10,AI,AN,Be,B3,h1,sp,sl,w]
theorem LJ:AM Tryz.prog e_vcost.1 e_vcost.2:=Ax fun⟨hn,ls,us,ts,d,l,o⟩ h=>Adc hn ls us ts d l o
def Ade (hn:Int) (ls:List Lnk) (us:List Snd) (ts:List Trp) (d:Dem) (o:List Int) (x:Snd):Int:=(DV (wHn hn ts) (wLs hn ls ts d (Bt o o.length)) (wUs ls us ts d (Bt o o.length)) x.1 x.2.1).1
def F3 (hn:Int) (ls:List Lnk) (us:List Snd) (ts:List Trp) (d:Dem) (l:List Snd) (o:List Int):Int :=
 if IZ hn ls us ts d l o≠0 then IZ hn ls us ts d l o
 else if ¬ ∀i,i<(schL hn ls us ts d l o).length→((schL hn ls us ts d l o).getD i dS).2.2≤Ade hn ls us ts d o ((schL hn ls us ts d l o).getD i dS)then 13
 else Ct (wHn hn ts) (wLs hn ls ts d (Bt o o.length)) (schL hn ls us ts d l o) d
noncomputable def Eu:Int×List Lnk×List Snd×List Trp×Dem×List Snd×List Int→List PV:=fun (hn,ls,us,ts,d,l,o) => [.agg [I hn,AQ ls,Ay us,CK ts,I d.1,I d.2.1,I d.2.2.1,I d.2.2.2.1,I d.2.2.2.2],.agg [Ay l,ints o]]
noncomputable def Ju:Int×List Lnk×List Snd×List Trp×Dem×List Snd×List Int→PV:=fun (hn,ls,us,ts,d,l,o)=>I (F3 hn ls us ts d l o)
noncomputable def e_vserves:Nat×Ent:=(11,.v (Ap Eu Ju AY))
theorem iW:∀i j,Eu i=Eu j→i=j:=by
 rintro ⟨_,_,_,_,_,_,_⟩ ⟨_,_,_,_,_,_,_⟩ h
 simp only[Eu,List.cons.injEq,and_true,PV.lits.injEq,PV.int.injEq,PV.agg.injEq,true_and,B1,AF,AD,Ck]at h
 simp [Prod.ext_iff,h] <;> omega
theorem DW (hn:Int) (ls:List Lnk) (us:List Snd) (ts:List Trp) (d:Dem) (l:List Snd) (o:List Int):Ap Eu Ju AY [.agg [I hn,AQ ls,Ay us,CK ts,I d.1,I d.2.1,I d.2.2.1,I d.2.2.2.1,I d.2.2.2.2],.agg [Ay l,ints o]]=some (I (F3 hn ls us ts d l o)):=AC iW (i:=(hn,ls,us,ts,d,l,o)) trivial
def iX:Prop:=∀(hn:Int) (ls:List Lnk) (us:List Snd) (ts:List Trp) (d:Dem) (l:List Snd) (o:List Int) ,VC Tryz.prog 11 (Eu (hn,ls,us,ts,d,l,o)) (Ju (hn,ls,us,ts,d,l,o))
theorem iZ:iX:=by
 intro hn ls us ts d l o
 dsimp only[Eu,Ju]
 refine Bc AP (l := [e_sched,e_loaded,e_wide,e_left,e_serves]) ((Ad S7 (Ad VL (Ad Pr (Ad Ain (Ad sR Au)))))) [] []  Tryz.func11 rfl (by decide +kernel) (N:=61) rfl (by simp) rfl (by kernel_rfl) fun hs=>?_
 simp only[AK,PV.small,List.length_map,and_true,true_and]at hs
 obtain ⟨R,hR⟩:∃R,F3 hn ls us ts d l o=R:=⟨_,rfl⟩
 rw [hR]
 unfold F3 at hR
 have sp:=S6 (hn:=hn) (ls:=ls) (us:=us) (ts:=ts) (d:=d) (l:=l) (o:=o)
 by_cases h1:IZ hn ls us ts d l o=0
 case neg =>
  rw [if_pos h1]at hR
  subst hR
  simp only[↓bdD,bdP,seval,Ao,st0,e_sched,e_loaded,e_wide,e_left,e_serves,Ac,Aa,AB,Tryz.f11,Be,B3,h1,sp]
 rw [if_neg (fun g=>g h1)]at hR
 have S:=sch_zero.1 h1
 have hv:=vck_iff.2 S.voy
 have hp:=MM S.voy
 have hol:=S.loads
 have h4:=hp.1
 have sl:=VK (hn:=hn) (ls:=ls) (us:=us) (ts:=ts) (d:=d) (l:=l) (o:=o)
 rw [if_pos ⟨hp,hol⟩]at sl
 have b1:=IW (o:=o) o.length
 have b2:2 ^ o.length≤2 ^ 4:=Nat.pow_le_pow_right (by omega) (by omega)
 have sw:=Pq (hn:=hn) (ls:=ls) (us:=us) (ts:=ts) (d:=d) (s:=Bt o o.length)
 rw [if_pos ⟨hv,by omega⟩]at sw
 unfold Ade at hR
 have hll:(schL hn ls us ts d l o).length≤4000:=by
  unfold schL
  rw [if_pos h1,srtS_perm.length_eq,List.length_append]
  have := Jt (L:=ls.length) (ts:=ts) (o:=o) ts.length
  have := S.len
  omega
 generalize Bt o o.length=s at *
 generalize Cm ts o o.length=cc at *
 generalize schL hn ls us ts d l o=L at *
 generalize wHn hn ts=wh at *
 generalize wLs hn ls ts d s=wl at *
 generalize wUs ls us ts d s=wu at *
 simp only[↓bdD,bdP,seval,st0,Store.new,Store.set,e_sched,e_loaded,e_wide,e_left,e_serves,Ac,Aa,AB,Tryz.f11,ty3,AN,Be,B3,BF,h1,sp,sl,sw]
 refine Aw [4,11,12,13,34,35,36,37,38,39,40,41,42,43,44,45,46,47,48,49,50,51,52,53,54] L.length (fun k ρ st'=>ρ 34=I k∧st'.obj 0=some (.arr 0 8 [.agg [I wh,AQ wl,Ay wu,I d.1,I d.2.1,I d.2.2.1,I d.2.2.2.1,I d.2.2.2.2]])∧1≤st'.next∧∀i,i<k→(L.getD i dS).2.2≤(DV wh wl wu (L.getD i dS).1 (L.getD i dS).2.1).1) (.refl _) ?_ ?_
 ·simp only[↓bdD,bdP]
  exact fun i hi=>absurd hi (by omega)
 rintro k ρ ⟨ob,M⟩ hk ⟨h34,p0,hM,hI⟩
 dsimp only at p0 hM
 have m1:¬M=0∧¬0=M:=by omega
 by_cases hlt:k<L.length
 ·have hwk:IntKind.i64.wrap ((k:Int)+1)=((k+1:Nat):Int):=by rw[Ah (by omega) (by omega)];omega
  have hyk:=A6 hlt
  by_cases c:(L.getD k dS).2.2≤(DV wh wl wu (L.getD k dS).1 (L.getD k dS).2.1).1
  ·have ci:¬(DV wh wl wu (L.getD k dS).1 (L.getD k dS).2.1).1<(L.getD k dS).2.2:=by omega
   have hI2:∀i,i<k+1→(L.getD i dS).2.2≤(DV wh wl wu (L.getD i dS).1 (L.getD i dS).2.1).1:=fun i hi=>by
    by_cases e:i=k
    ·subst e;exact c
    ·exact hI i (by omega)
   generalize L.getD k dS=x at *
   simp only[↓bdD,bdP,seval,Store.new,Store.set,sC,Ac,Aa,ty3,AI,AN,Cn,BF,h34,p0,m1,hlt,hyk,hwk,ci,Av]
   exact hI2
  ·rw [if_pos (fun g=>c (g k hlt))]at hR
   subst hR
   have ci:(DV wh wl wu (L.getD k dS).1 (L.getD k dS).2.1).1<(L.getD k dS).2.2:=by omega
   generalize L.getD k dS=x at *
   simp only[↓bdD,bdP,seval,Ao,Store.new,Store.set,sC,Ac,Aa,ty3,AI,AN,Cn,BF,h34,p0,m1,hlt,hyk,ci,Av]
 ·have e:k=L.length:=by omega
  subst e
  rw [if_neg (fun g=>g hI)]at hR
  subst hR
  simp only[↓bdD,bdP,seval,Ao,sM,Ac,Aa,AI,AN,AX,Be,BF,h34,p0,hlt]
theorem MN:AM Tryz.prog e_vserves.1 e_vserves.2:=Ax fun⟨hn,ls,us,ts,d,l,o⟩ h=>iZ hn ls us ts d l o
def psS (L:Nat) (l:List Snd):List Snd:=l.filter fun x=>decide (x.1<(L:Int))
def byt (a:Int):List Snd→Int
 | []=>0
 | x::l=>byt a l+if x.1=a then x.2.2 else 0
theorem F5 {a:Int} {m:List Snd}:∀ {l:List Snd},byt a (l++m)=byt a l+byt a m
 | []=>by simp[byt]
 | x::l=>by
  have := F5 (a:=a) (m:=m) (l:=l)
  simp only[List.cons_append,byt,this];omega
def psO (L n:Nat) (l:List Snd):List Int:=(List.range n).map fun k=>byt ((L+2*k+1:Nat):Int) l
theorem HK {L n:Nat} {l:List Snd}:(psO L n l).length=n:=by simp[psO]
theorem Adf {L n:Nat}:psO L n []=List.replicate n 0:=by
 refine List.eq_replicate_iff.2 ⟨HK,fun b hb=>?_⟩
 unfold psO at hb
 obtain ⟨k,_,rfl⟩:=List.mem_map.1 hb
 rfl
theorem Yx {L n k:Nat} {l:List Snd} (h:k<n):(psO L n l).getD k 0=byt ((L+2*k+1:Nat):Int) l:=by
 unfold psO
 rw [List.getD_eq_getElem?_getD,List.getElem?_map,List.getElem?_range h];rfl
theorem Adg {L n j:Nat} {l:List Snd} {x:Snd} (hj:j<n) (hx:x.1=((L+2*j+1:Nat):Int)):(psO L n l).set j ((psO L n l).getD j 0+x.2.2)=psO L n (l ++ [x]):=by
 rw [Yx hj]
 refine List.ext_getElem? fun i=>?_
 rw [List.getElem?_set,HK]
 unfold psO
 rw [List.getElem?_map,List.getElem?_map]
 by_cases hi:i<n
 ·rw [List.getElem?_range hi]
  by_cases e:j=i
  ·subst e
   rw [if_pos rfl,if_pos hi]
   simp only[Option.map_some,F5,byt,hx,if_true]
   congr 1;omega
  ·rw [if_neg e]
   have : ¬x.1=((L+2*i+1:Nat):Int):=by omega
   simp only[Option.map_some,F5,byt,this,if_false]
   congr 1;omega
 ·rw [if_neg (by omega),List.getElem?_eq_none (by simp;omega)];rfl
theorem VO {L n:Nat} {l:List Snd} {x:Snd} (hx:∀j,j<n→x.1≠((L+2*j+1:Nat):Int)):psO L n (l ++ [x])=psO L n l:=by
 refine List.ext_getElem? fun i=>?_
 unfold psO
 rw [List.getElem?_map,List.getElem?_map]
 by_cases hi:i<n
 ·rw [List.getElem?_range hi]
  simp only[Option.map_some,F5,byt,hx i hi,if_false]
  congr 1;omega
 ·rw [List.getElem?_eq_none (by simp;omega)];rfl
theorem ZM {a:Int} {l:List Snd} (h:∀k,k<l.length→1≤(l.getD k dS).2.2∧(l.getD k dS).2.2≤1073741824):∀k,k≤l.length→0≤byt a (l.take k)∧byt a (l.take k)≤1073741824*(k:Int)
 | 0,_=>by simp[byt]
 | k+1,hk=>by
  have ih:=ZM (a:=a) h k (by omega)
  have h1:=h k (by omega)
  have e:l.take (k+1)=l.take k ++ [l.getD k dS]:=by
   rw [List.take_add_one,List.getD_eq_getElem?_getD,List.getElem?_eq_getElem (by omega)];rfl
  rw [e,F5]
  simp only[byt]
  split <;> omega
def Adh (L n:Nat) (l:List Snd):Prop:=smB l∧∀k,k<l.length→0≤(l.getD k dS).1∧(l.getD k dS).1<((L+2*n:Nat):Int)
noncomputable def Ev:Int×List Lnk×List Snd×List Trp×Dem×List Snd→List PV:=fun (hn,ls,us,ts,d,l) => [.agg [I hn,AQ ls,Ay us,CK ts,I d.1,I d.2.1,I d.2.2.1,I d.2.2.2.1,I d.2.2.2.2],Ay l]
noncomputable def Jv:Int×List Lnk×List Snd×List Trp×Dem×List Snd→PV:=fun (hn,ls,us,ts,d,l)=>.agg [Ay (psS ls.length l),ints (psO ls.length ts.length l)]
def Rg:Int×List Lnk×List Snd×List Trp×Dem×List Snd→Prop:=fun (hn,ls,us,ts,d,l)=>ls.length≤60∧ts.length≤4∧Adh ls.length ts.length l
noncomputable def e_passage:Nat×Ent:=(41,.v (Ap Ev Jv Rg))
theorem jA:∀i j,Ev i=Ev j→i=j:=by
 rintro ⟨_,_,_,_,_,_⟩ ⟨_,_,_,_,_,_⟩ h
 simp only[Ev,List.cons.injEq,and_true,PV.lits.injEq,PV.int.injEq,PV.agg.injEq,true_and,AF,AD,Ck]at h
 simp [Prod.ext_iff,h] <;> omega
theorem Rh (hn:Int) (ls:List Lnk) (us:List Snd) (ts:List Trp) (d:Dem) (l:List Snd):Ap Ev Jv Rg [.agg [I hn,AQ ls,Ay us,CK ts,I d.1,I d.2.1,I d.2.2.1,I d.2.2.2.1,I d.2.2.2.2],Ay l]=@ite (Option (PV)) (ls.length≤60∧ts.length≤4∧Adh ls.length ts.length l) (Classical.propDecidable _) (some (.agg [Ay (psS ls.length l),ints (psO ls.length ts.length l)])) none:=Br jA (hn,ls,us,ts,d,l)
def jB:Prop:=∀(hn:Int) (ls:List Lnk) (us:List Snd) (ts:List Trp) (d:Dem) (l:List Snd) (h:ls.length≤60∧ts.length≤4∧Adh ls.length ts.length l) ,VC Tryz.prog 41 (Ev (hn,ls,us,ts,d,l)) (Jv (hn,ls,us,ts,d,l))
theorem jC:jB:=by
 rintro hn ls us ts d l ⟨hL,hn4,hsm,hlk⟩
 dsimp only[Ev,Jv]
 refine Bc AP (l := []) (Au) [4,5,12] []  Tryz.func41 rfl (by decide +kernel) (N:=52) rfl (by simp) rfl (by kernel_rfl) fun hs=>?_
 simp only[AK,PV.small,List.length_map,and_true,true_and]at hs
 obtain ⟨R1,hR1⟩:∃R1,psS ls.length l=R1:=⟨_,rfl⟩
 obtain ⟨R2,hR2⟩:∃R2,psO ls.length ts.length l=R2:=⟨_,rfl⟩
 rw [hR1,hR2]
 have hll:=hsm.1
 have hni:(ts.length:Int)≤4294967296:=by omega
 simp only[↓bdD,bdP,seval,st0,Store.new,Store.set,Tryz.f41,ty3,AN,BR,Be,AS,B3,hni]
 refine Aw [7,8,16,17,18,19,20,21,22,23,24,25,26,27,28,29,30,31,32,33,34,35,36,37,38,39,40,41,42,43,44,45,46,47,48,49,50] l.length (fun k ρ st'=>ρ 16=I k∧(∃g,st'.obj 2=some (.arr 0 2 [.agg [.ref 3 g 0 (psS ls.length (l.take k)).length,.ref 1 0 0 ts.length]])∧st'.obj 3=some (.arr g 3 ((psS ls.length (l.take k)).map B5)))∧st'.obj 1=some (.arr 0 1 ((psO ls.length ts.length (l.take k)).map (.int .i64)))∧st'.obj 0=some (.arr 0 2 [.agg [.nils,.nils]])∧4≤st'.next) (.cell _ 2 0 2 3 [.agg [.nils,.ref 1 0 0 ts.length]] 0 0 ?_ ?_ ?_) ?_ ?_
 ·simp only[↓bdD,bdP]
 ·rfl
 ·decide
 ·simp only[↓bdD,bdP,seval,Store.new,Store.set,psS,List.filter_nil]
  exact ⟨⟨0,rfl,rfl⟩,by rw[Adf,List.map_replicate]⟩
 rintro k ρ ⟨ob,M⟩ hk ⟨h16,⟨g,o2,o3⟩,o1,o0,hM⟩
 dsimp only at o2 o3 o1 o0 hM
 have m0:¬M=0:=by omega
 have m1:¬M=1:=by omega
 have m2:¬M=2:=by omega
 have m3:¬M=3:=by omega
 have n0:¬0=M:=by omega
 have n1:¬1=M:=by omega
 have n2:¬2=M:=by omega
 have n3:¬3=M:=by omega
 by_cases hlt:k<l.length
 ·have hwk:IntKind.i64.wrap ((k:Int)+1)=((k+1:Nat):Int):=by rw[Ah (by omega) (by omega)];omega
  have hyk:=A6 hlt
  have hb:=hsm.2 k hlt
  have hx:=hlk k hlt
  have hby:=fun a=>ZM (a:=a) hsm.2 k (by omega)
  have htk:l.take (k+1)=l.take k ++ [l.getD k dS]:=by
   rw [List.take_add_one,List.getD_eq_getElem?_getD,List.getElem?_eq_getElem hlt];rfl
  rw [htk]
  have hpl:(psS ls.length (l.take k)).length≤k:=by
   have := List.length_filter_le (fun x:Snd=>decide (x.1<(ls.length:Int))) (l.take k)
   rw [List.length_take]at this
   unfold psS;omega
  generalize l.take k=P at *
  generalize l.getD k dS=x at *
  have wx:IntKind.i64.wrap (x.1-(ls.length:Int))=x.1-(ls.length:Int):=Ah (by omega) (by omega)
  by_cases c:x.1-(ls.length:Int)<0
  ·have e1:psS ls.length (P ++ [x])=psS ls.length P ++ [x]:=by
    unfold psS
    rw [List.filter_append]
    congr 1
    rw [List.filter_cons_of_pos (by simp;omega)];rfl
   rw [e1,VO (fun j _=>by omega)]
   have hSl:((psS ls.length P).map B5).length=(psS ls.length P).length:=by rw[List.length_map]
   obtain ⟨S,hS⟩:∃S,psS ls.length P=S:=⟨_,rfl⟩
   rw [hS]at hpl o2 o3 ⊢
   have hts:List.take S.length (S.map B5)=S.map B5:=List.take_of_length_le (by rw[List.length_map];exact Nat.le_refl _)
   have nl:¬S.length+1≤S.length:=by omega
   have jl:S.length≤2147483647:=by omega
   simp only[↓bdD,bdP,seval,Store.new,Store.set,ty3,BP,AI,AN,Be,B3,Cn,h16,hlt,hyk,o2,o3,o1,o0,m0,n0,n1,n2,n3,wx,c,hwk,hts,nl,jl,Av]
   exact ⟨⟨_,rfl,rfl,by rw[List.map_append];rfl⟩,by omega⟩
  ·have hps:psS ls.length (P ++ [x])=psS ls.length P:=by
    unfold psS
    rw [List.filter_append,List.filter_cons_of_neg (by simp;omega)];simp
   rw [hps]
   obtain ⟨j,hj⟩:∃j:Nat,(j:Int)=x.1-(ls.length:Int):=⟨(x.1-(ls.length:Int)).toNat,by omega⟩
   rw [←hj]at c
   have wx:=wx.trans hj.symm
   have hmod:Int.tmod (j:Int) 2=((j % 2:Nat):Int):=by rw[Int.tmod_eq_emod_of_nonneg (by omega)];rfl
   have hdiv:Int.tdiv (j:Int) 2=((j / 2:Nat):Int):=by rw[Int.tdiv_eq_ediv_of_nonneg (by omega)];rfl
   by_cases c2:j % 2=1
   ·have hj2:j / 2<ts.length:=by omega
    have hj2i:((j / 2:Nat):Int)<(ts.length:Int):=by omega
    have e1:=Adg (L:=ls.length) (n:=ts.length) (l:=P) hj2 (show x.1=_ by omega)
    have e2:=Yx (L:=ls.length) (l:=P) hj2
    have hv:=hby ((ls.length+2*(j / 2)+1:Nat):Int)
    have c2i:((j % 2:Nat):Int)=1:=by omega
    rw [←e1]
    have hnt:nth ((psO ls.length ts.length P).map (PV.int .i64)) (j / 2)=I ((psO ls.length ts.length P).getD (j / 2) 0):=B9 0 (by rw[HK];exact hj2)
    rw [←e2]at hv
    have hol:(psO ls.length ts.length P).length=ts.length:=HK
    generalize psO ls.length ts.length P=Q at *
    generalize hz:Q.getD (j / 2) 0=z at *
    have wz:IntKind.i64.wrap (z+x.2.2)=z+x.2.2:=Ah (by omega) (by omega)
    have wjj:IntKind.i64.wrap ((j / 2:Nat):Int)=((j / 2:Nat):Int):=Ah (by omega) (by omega)
    generalize j / 2=jj at *
    generalize j % 2=jm at *
    simp only[↓bdD,bdP,seval,Store.new,Store.set,ty3,BP,AI,AN,Be,AS,B3,Cn,h16,hlt,hyk,o2,o3,o1,o0,m0,n0,n1,n2,n3,wx,c,hwk,hmod,hdiv,c2,hj2,hj2i,hnt,hol,wz,wjj,Av]
    exact ⟨⟨_,rfl,rfl⟩,by omega⟩
   ·rw [VO (fun i _=>by omega)]
    have c2i:¬((j % 2:Nat):Int)=1:=by omega
    generalize j % 2=jm at *
    simp only[↓bdD,bdP,seval,Store.new,Store.set,ty3,BP,AI,AN,Be,Cn,h16,hlt,hyk,o2,o3,o1,o0,m0,n0,n1,n2,n3,wx,c,hwk,hmod,c2i,Av]
    exact ⟨⟨_,rfl,rfl⟩,by omega⟩
 ·have e:k=l.length:=by omega
  subst e
  rw [List.take_length,hR1]at o2 o3
  rw [List.take_length,hR2]at o1
  have hr2:R2.length=ts.length:=by rw[←hR2];exact HK
  simp only[↓bdD,bdP,seval,Ao,Store.set,Ac,B3,h16,hlt,o2,o3,o1,o0]
  exact ⟨by omega,List.take_of_length_le (by rw[List.length_map];omega)⟩
theorem Ri:AM Tryz.prog e_passage.1 e_passage.2:=Ax fun⟨hn,ls,us,ts,d,l⟩ h=>jC hn ls us ts d l h
end Sim
