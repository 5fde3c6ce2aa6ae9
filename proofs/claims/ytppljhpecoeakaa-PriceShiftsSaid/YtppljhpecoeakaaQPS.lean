/- What functions of this seat compute, by values: contracts (lemmas of the statement's proof, under the conditions that each names). -/
import Derived.Test.YtppljhpecoeakaaQP
set_option maxRecDepth 10000
set_option maxHeartbeats 4000000
set_option linter.unusedVariables false
set_option linter.unusedSimpArgs false
namespace Sim
open Go Go.Proofs
attribute [local congr] Ap Aq Al AC As Ar Av
def Dw (hn:Int) (ls:List Lnk) (us:List Snd) (d:Dem):Int:=if Bz hn ls us≠0 then Bz hn ls us else if Dd hn d=false then 1 else if 32<d.2.2.2.2-d.2.2.2.1 then 2 else 0
theorem fck_zero {hn:Int} {ls:List Lnk} {us:List Snd} {d:Dem}:Dw hn ls us d=0↔Bz hn ls us=0∧Dd hn d=true∧d.2.2.2.2-d.2.2.2.1≤32:=by
 unfold Dw
 by_cases h1:Bz hn ls us=0
 ·rw [if_neg (fun g=>g h1)]
  by_cases h2:Dd hn d=false
  ·rw [if_pos h2];simp[h2]
  ·rw [if_neg h2]
   by_cases h3:32<d.2.2.2.2-d.2.2.2.1
   ·rw [if_pos h3];simp;intro _ _;omega
   ·rw [if_neg h3];simp[h1];exact⟨by simpa using h2,by omega⟩
 ·rw [if_pos h1];simp[h1]
theorem bQ {hn:Int} {ls:List Lnk} {us:List Snd} (h:Bz hn ls us=0):AS hn ls []=0:=right_zero.2 ⟨(B8 h).1.net,by simp,by simp,by simp,by simp,by simp⟩
theorem bR {hn:Int} {ls:List Lnk} {us:List Snd} {d:Dem} (h:Bz hn ls us=0):(Du hn ls [] d 0 0).2=if Dd hn d=false then 1 else 0:=by
 have hh:=(B8 h).1.net.houses
 unfold Du
 rw [if_neg (fun g=>g (bQ h))]
 by_cases c:Dd hn d=false
 ·rw [if_pos (.inl c),if_pos c]
 ·rw [if_neg (by simp[c,hOK];omega),if_neg c]
noncomputable def HG:(Int)×(List Lnk)×(List Snd)×(Dem)→List PV:=fun (hn,ls,us,d) => [.agg [I hn,Az ls],AB us,Cr d]
noncomputable def TD:(Int)×(List Lnk)×(List Snd)×(Dem)→PV:=fun (hn,ls,us,d)=>I (Dw hn ls us d)
def TE:(Int)×(List Lnk)×(List Snd)×(Dem)→Prop:=fun (hn,ls,us,d)=>True
noncomputable def e_fcheck:Nat×Ent:=(38,.v (Ah HG TD TE))
theorem nN:∀i j,HG i=HG j→i=j:=by
 rintro ⟨hn₁,ls₁,us₁,d₁⟩ ⟨hn₂,ls₂,us₂,d₂⟩ h
 simp only[HG,List.cons.injEq,and_true,PV.lits.injEq,PV.int.injEq,PV.agg.injEq,true_and,AR,AG]at h
 simp [Prod.ext_iff,h] <;> omega
theorem HH (hn:Int) (ls:List Lnk) (us:List Snd) (d:Dem):Ah HG TD TE [.agg [I hn,Az ls],AB us,Cr d]=some (I (Dw hn ls us d)):=AA nN (i:=(hn,ls,us,d)) trivial
def TF:Prop:=∀(hn:Int) (ls:List Lnk) (us:List Snd) (d:Dem) ,VC Try.prog 38 [.agg [I hn,Az ls],AB us,Cr d] (I (Dw hn ls us d))
def TG:Prop:=AM Try.prog e_fcheck.1 e_fcheck.2
theorem nO (c:TF):TG:=At fun⟨hn,ls,us,d⟩ h=>c hn ls us d
theorem nP:TF:=by
 intro hn ls us d
 refine A5 AP (l := [e_fits,e_Stock]) ((Ae lQ (Ae Xt Ao))) [] []  Try.func38 rfl (by decide +kernel) (N:=31) rfl (by simp) rfl (by kernel_rfl) fun hs=>?_
 simp only[AI,PV.small,List.length_map,and_true,true_and]at hs
 unfold Dw
 by_cases h1:Bz hn ls us=0
 case neg =>
  rw [if_pos h1]
  generalize hr:Bz hn ls us=r at *
  simp +contextual (maxSteps:=4000000) only[↓bdD,bdP,Nat.reduceLT,Nat.reduceBEq,Ai,Nat.reduceAdd,st0,↓reduceIte,e_fits,KK,e_Stock,Ac,Ab,Try.f38,Aw,AJ,h1,hr]
 rw [if_neg (fun g=>g h1)]
 have hsp:=Qy (hn:=hn) (ls:=ls) (l := []) (d:=d) (at_:=0) (tick:=0)
 rw [show AB []=PV.lits 3 [] from rfl]at hsp
 have hst:=bR (d:=d) h1
 generalize Du hn ls [] d 0 0=q at *
 by_cases h2:Dd hn d=false
 ·rw [if_pos h2]at hst ⊢
  rw [hst]at hsp
  simp +contextual (maxSteps:=4000000) only[↓bdD,bdP,Nat.reduceLT,Nat.reduceBEq,Ai,Nat.reduceEqDiff,Nat.reduceAdd,Int.reduceEq,st0,↓reduceIte,e_fits,KK,e_Stock,Ac,Ab,Try.f38,ty3,Aw,AJ,AX,h1,hsp]
 rw [if_neg h2]at hst ⊢
 rw [hst]at hsp
 obtain ⟨_,_,hr⟩:=B9 (hn:=hn) (d:=d) (by simpa using h2)
 have hr0:=hr.2.2.1
 have hr1:=hr.2.2.2.1
 have hr2:=hr.2.2.2.2
 have wD:IntKind.i64.wrap (d.2.2.2.2-d.2.2.2.1)=d.2.2.2.2-d.2.2.2.1:=Ag (by omega) (by omega)
 by_cases h3:32<d.2.2.2.2-d.2.2.2.1
 ·rw [if_pos h3]
  simp +contextual (maxSteps:=4000000) only[↓bdD,bdP,Nat.reduceLT,Nat.reduceBEq,Ai,Nat.reduceEqDiff,Nat.reduceAdd,st0,↓reduceIte,e_fits,KK,e_Stock,Ac,Ab,Try.f38,ty3,Aw,AJ,AX,h1,hsp,wD,h3]
 ·rw [if_neg h3]
  simp +contextual (maxSteps:=4000000) only[↓bdD,bdP,Nat.reduceLT,Nat.reduceBEq,Ai,Nat.reduceEqDiff,Nat.reduceAdd,st0,↓reduceIte,e_fits,KK,e_Stock,Ac,Ab,Try.f38,ty3,Aw,AJ,AX,h1,hsp,wD,h3]
theorem TH:TG:=nO nP
noncomputable def F5:(Int)×(List Lnk)×(List Snd)×(Dem)→List PV:=fun (hn,ls,us,d) => [.agg [I hn,Az ls],AB us,Cr d]
noncomputable def OW:(Int)×(List Lnk)×(List Snd)×(Dem)→PV:=fun (hn,ls,us,d)=>I (Dw hn ls us d)
def OX:(Int)×(List Lnk)×(List Snd)×(Dem)→Prop:=fun (hn,ls,us,d)=>True
noncomputable def e_rfcheck:Nat×Ent:=(39,.v (Ah F5 OW OX))
theorem bS:∀i j,F5 i=F5 j→i=j:=by
 rintro ⟨hn₁,ls₁,us₁,d₁⟩ ⟨hn₂,ls₂,us₂,d₂⟩ h
 simp only[F5,List.cons.injEq,and_true,PV.lits.injEq,PV.int.injEq,PV.agg.injEq,true_and,AR,AG]at h
 simp [Prod.ext_iff,h] <;> omega
theorem OY (hn:Int) (ls:List Lnk) (us:List Snd) (d:Dem):Ah F5 OW OX [.agg [I hn,Az ls],AB us,Cr d]=some (I (Dw hn ls us d)):=AA bS (i:=(hn,ls,us,d)) trivial
def OZ:Prop:=∀(hn:Int) (ls:List Lnk) (us:List Snd) (d:Dem) ,VC Try.prog 39 [.agg [I hn,Az ls],AB us,Cr d] (I (Dw hn ls us d))
def O0:Prop:=AM Try.prog e_rfcheck.1 e_rfcheck.2
theorem bT (c:OZ):O0:=At fun⟨hn,ls,us,d⟩ h=>c hn ls us d
theorem bU:OZ:=by
 intro hn ls us d
 refine A5 AP (l := [e_rright,e_rfits,e_rdemand]) ((Ae Tg (Ae xL (Ae aY Ao)))) [] []  Try.func39 rfl (by decide +kernel) (N:=33) rfl (by simp) rfl (by kernel_rfl) fun hs=>?_
 simp only[AI,PV.small,List.length_map,and_true,true_and]at hs
 unfold Dw
 by_cases h0:AS hn ls us=0
 case neg =>
  have : Bz hn ls us=AS hn ls us:=by unfold Bz;rw[if_pos h0]
  rw [this,if_pos h0]
  generalize hr:AS hn ls us=r at *
  simp +contextual (maxSteps:=4000000) only[↓bdD,bdP,Nat.reduceLT,Nat.reduceBEq,Ai,Nat.reduceAdd,st0,↓reduceIte,e_rright,Fe,e_rfits,e_rdemand,Ac,Ab,Try.f39,Aw,AJ,h0,hr]
 by_cases h1:Bz hn ls us=0
 case neg =>
  rw [if_pos h1]
  generalize hr:Bz hn ls us=r at *
  simp +contextual (maxSteps:=4000000) only[↓bdD,bdP,Nat.reduceLT,Nat.reduceBEq,Ai,Nat.reduceEqDiff,Nat.reduceAdd,st0,↓reduceIte,e_rright,Fe,e_rfits,LC,e_rdemand,Ac,Ab,Try.f39,Aw,AJ,h0,h1,hr]
 rw [if_neg (fun g=>g h1)]
 by_cases h2:Dd hn d=false
 ·rw [if_pos h2]
  simp +contextual (maxSteps:=4000000) only[↓bdD,bdP,Nat.reduceLT,Nat.reduceBEq,Ai,Nat.reduceEqDiff,Nat.reduceAdd,st0,↓reduceIte,e_rright,Fe,e_rfits,LC,e_rdemand,KL,Ac,Ab,Try.f39,Aw,AJ,AX,h0,h1,h2]
 rw [if_neg h2]
 have h2':Dd hn d=true:=by simpa using h2
 obtain ⟨_,_,hr⟩:=B9 h2'
 have hr0:=hr.2.2.1
 have hr1:=hr.2.2.2.1
 have hr2:=hr.2.2.2.2
 have wD:IntKind.i64.wrap (d.2.2.2.2-d.2.2.2.1)=d.2.2.2.2-d.2.2.2.1:=Ag (by omega) (by omega)
 by_cases h3:32<d.2.2.2.2-d.2.2.2.1
 ·rw [if_pos h3]
  simp +contextual (maxSteps:=4000000) only[↓bdD,bdP,Nat.reduceLT,Nat.reduceBEq,Ai,Nat.reduceEqDiff,Nat.reduceAdd,st0,↓reduceIte,e_rright,Fe,e_rfits,LC,e_rdemand,KL,Ac,Ab,Try.f39,ty3,Aw,AJ,AX,h0,h1,h2',wD,h3]
 ·rw [if_neg h3]
  simp +contextual (maxSteps:=4000000) only[↓bdD,bdP,Nat.reduceLT,Nat.reduceBEq,Ai,Nat.reduceEqDiff,Nat.reduceAdd,st0,↓reduceIte,e_rright,Fe,e_rfits,LC,e_rdemand,KL,Ac,Ab,Try.f39,ty3,Aw,AJ,AX,h0,h1,h2',wD,h3]
theorem bV:O0:=bT bU
theorem CC {hn:Int} {ls:List Lnk} {us:List Snd} {d:Dem} (h:Dw hn ls us d=0):Bz hn ls us=0∧Dd hn d=true∧An d≤32∧d.2.2.2.2=d.2.2.2.1+(An d:Nat):=by
 obtain ⟨h1,h2,h3⟩:=fck_zero.1 h
 obtain ⟨_,_,hr⟩:=B9 h2
 have := hr.2.2.2.1
 exact ⟨h1,h2,by unfold An;omega,by unfold An;omega⟩
theorem Aeq {hn:Int} {ls:List Lnk} {us:List Snd} {d:Dem} {b:Int} (h:Dw hn ls us d=0) (hb:0≤b∧b≤1099511627776):Jc ⟨hn,ls,us,d,b⟩ ⟨fun _=>none,0⟩:=by
 obtain ⟨h1,h2,h3,_⟩:=CC h
 exact ⟨fun i o hi=>(by cases hi),fun i r hi=>(by cases hi),h1,h2,(by dsimp only;omega),hb⟩
noncomputable def IH (hn:Int) (ls:List Lnk) (us:List Snd) (d:Dem):Int:=if Dw hn ls us d=0 then (Bw hn ls us d 1099511627776).2 else 0
end Sim
namespace Sim
open Go Go.Proofs
attribute [local congr] Ap Aq Al AC As Ar Av
def Ca (A:List Arc) (h W:Nat) (r:Int):Nat→List Snd
 | 0 => []
 | i+1=>Ca A h W r i++if h≤i % W∧0<flA A i then [(((i % W-h:Nat):Int),r+((i / W:Nat):Int),flA A i)]else []
theorem TI {A:List Arc} {h W:Nat} {r:Int}:∀n,(Ca A h W r n).length≤n
 | 0=>Nat.le_refl _
 | n+1=>by
  have := TI (A:=A) (h:=h) (W:=W) (r:=r) n
  rw [Ca,List.length_append]
  split <;> simp <;> omega
noncomputable def D3 (hn:Int) (ls:List Lnk) (us:List Snd) (d:Dem):Int:=if Dw hn ls us d≠0 then Dw hn ls us d else if (Bw hn ls us d d.2.2.1).2<d.2.2.1 then 21 else 0
noncomputable def Df (hn:Int) (ls:List Lnk) (us:List Snd) (d:Dem):List Snd:=if D3 hn ls us d=0 then Ca (Bw hn ls us d d.2.2.1).1 hn.toNat (hn.toNat+ls.length) d.2.2.2.1 (AW hn ls d)else []
noncomputable def Kc:(Int)×(List Lnk)×(List Snd)×(Dem)→List PV:=fun (hn,ls,us,d) => [.agg [I hn,Az ls],AB us,Cr d]
noncomputable def XK:(Int)×(List Lnk)×(List Snd)×(Dem)→PV:=fun (hn,ls,us,d)=>.tuple [AB (Df hn ls us d),I (D3 hn ls us d)]
def XL:(Int)×(List Lnk)×(List Snd)×(Dem)→Prop:=fun (hn,ls,us,d)=>True
noncomputable def e_cheap:Nat×Ent:=(24,.v (Ah Kc XK XL))
theorem zB:∀i j,Kc i=Kc j→i=j:=by
 rintro ⟨hn₁,ls₁,us₁,d₁⟩ ⟨hn₂,ls₂,us₂,d₂⟩ h
 simp only[Kc,List.cons.injEq,and_true,PV.lits.injEq,PV.int.injEq,PV.agg.injEq,true_and,AR,AG]at h
 simp [Prod.ext_iff,h] <;> omega
theorem XM (hn:Int) (ls:List Lnk) (us:List Snd) (d:Dem):Ah Kc XK XL [.agg [I hn,Az ls],AB us,Cr d]=some (.tuple [AB (Df hn ls us d),I (D3 hn ls us d)]):=AA zB (i:=(hn,ls,us,d)) trivial
def XN:Prop:=∀(hn:Int) (ls:List Lnk) (us:List Snd) (d:Dem) ,VC Try.prog 24 [.agg [I hn,Az ls],AB us,Cr d] (.tuple [AB (Df hn ls us d),I (D3 hn ls us d)])
def XO:Prop:=AM Try.prog e_cheap.1 e_cheap.2
theorem zC (c:XN):XO:=At fun⟨hn,ls,us,d⟩ h=>c hn ls us d
theorem zD:XN:=by
 intro hn ls us d
 refine A5 AP (l := [e_fcheck,e_plan]) ((Ae TH (Ae Aen Ao))) [] []  Try.func24 rfl (by decide +kernel) (N:=91) rfl (by simp) rfl (by kernel_rfl) fun hs=>?_
 simp only[AI,PV.small,List.length_map,and_true,true_and]at hs
 by_cases h1:Dw hn ls us d=0
 case neg =>
  have e1:D3 hn ls us d=Dw hn ls us d:=by unfold D3;rw[if_pos h1]
  have e2:Df hn ls us d = []:=by unfold Df;rw[e1,if_neg h1]
  rw [e1,e2]
  generalize hr:Dw hn ls us d=r at *
  simp +contextual (maxSteps:=4000000) only[↓bdD,bdP,Nat.reduceLT,Nat.reduceBEq,Ai,Nat.reduceAdd,st0,↓reduceIte,e_fcheck,HH,e_plan,Ac,Ab,Try.f24,Aw,AJ,AX,h1,hr]
 obtain ⟨hf,hd,hD,hdu⟩:=CC h1
 obtain ⟨_,_,hr⟩:=B9 hd
 have hr0:=hr.1
 have hr1:=hr.2.1
 have hr2:=hr.2.2.1
 have hr3:=hr.2.2.2.2
 have hh:=(B8 hf).1.net.houses
 have hln:=(B8 hf).1.net.len
 have hP:=Fh (bytes:=d.2.2.1) hf hd (by omega)
 have sp:=Aep ⟨hn,ls,us,d,d.2.2.1⟩ (st:=⟨fun _=>none,0⟩) (Aeq h1 ⟨by omega,by omega⟩)
 simp only[Jd]at sp
 unfold gP at sp
 dsimp only[kT,Cr]at sp
 have hn1:=hP.n1
 have hlen:=hP.len
 obtain ⟨h,hhe⟩:∃h:Nat,hn=(h:Int):=⟨hn.toNat,by omega⟩
 have hnb:AW hn ls d≤2304:=Nat.le_trans (Nat.mul_le_mul hD (show hn.toNat+ls.length≤72 by omega)) (by decide)
 by_cases h2:(Bw hn ls us d d.2.2.1).2<d.2.2.1
 ·have e1:D3 hn ls us d=21:=by unfold D3;rw[if_neg (fun g=>g h1),if_pos h2]
  have e2:Df hn ls us d = []:=by unfold Df;rw[e1,if_neg (by decide)]
  rw [e1,e2]
  generalize Bw hn ls us d d.2.2.1=q at *
  simp +contextual (maxSteps:=4000000) only[↓bdD,bdP,Nat.reduceLT,Nat.reduceBEq,Ai,Nat.reduceEqDiff,Nat.reduceAdd,st0,↓reduceIte,e_fcheck,HH,e_plan,Ac,Ab,Try.f24,ty3,Aw,AJ,AX,h1,sp,h2]
 have e1:D3 hn ls us d=0:=by unfold D3;rw[if_neg (fun g=>g h1),if_neg h2]
 have e2:Df hn ls us d=Ca (Bw hn ls us d d.2.2.1).1 hn.toNat (hn.toNat+ls.length) d.2.2.2.1 (AW hn ls d):=by unfold Df;rw[if_pos e1]
 rw [e1,e2]
 clear e1 e2
 subst hhe
 rw [Int.toNat_natCast]at *
 generalize AW (h:Int) ls d=n at *
 generalize AO (h:Int) d=N at *
 have wW:IntKind.i64.wrap ((h:Int)+(ls.length:Int))=((h+ls.length:Nat):Int):=by rw[←Int.natCast_add,Ag (by omega) (by omega)]
 obtain ⟨W,hW⟩:∃W,h+ls.length=W:=⟨_,rfl⟩
 rw [hW]at wW ⊢
 generalize Bw (h:Int) ls us d d.2.2.1=q at *
 obtain ⟨A,sn⟩:=q
 dsimp only at sp hn1 hlen h2 ⊢
 clear hP
 have hW0:0<W:=by omega
 have hO2:plO (fun _=>none) 0 n N A 2=some (.arr 0 3 [gBx 0 n N]):=rfl
 have hO4:plO (fun _=>none) 0 n N A 4=some (.arr n 4 (A.map Dc)):=rfl
 unfold gBx at hO2
 generalize plO (fun _=>none) 0 n N A=O at *
 simp +contextual (maxSteps:=4000000) only[↓bdD,bdP,Nat.reduceLT,Nat.reduceBEq,Nat.reduceEqDiff,Nat.reduceAdd,st0,↓reduceIte,e_fcheck,HH,e_plan,Ac,Ab,Try.f24,ty3,By,Aw,AJ,AX,h1,sp,h2,wW]
 refine Ax [11,13,14,15,16,43,44,45,46,47,48,49,50,51,52,53,54,55,56,57,58,59,60,61,62,63,64,65,66,67,68,69,70,71,72,73,74,75,76,77,78,79,80,81,82,83,84,85,86,87,88,89] n (fun j ρ st'=>ρ 13=I ((2*j:Nat):Int)∧GS st' (ρ 11) 5 3 ((Ca A h W d.2.2.2.1 j).map GX)∧st'.obj 2=some (.arr 0 3 [.agg [.ref (0+4) n 0 (2*n),.ref 0 1 0 N,.ref (0+1) 1 0 N]])∧st'.obj 4=some (.arr n 4 (A.map Dc))) (.slot _ 11 3 ?_ ?_) ?_ ?_
 ·simp +contextual (maxSteps:=4000000) only[↓bdD,bdP,Nat.reduceBEq]
 ·decide
 ·simp +contextual (maxSteps:=4000000) only[↓bdD,bdP,Nat.reduceBEq,Nat.reduceAdd,Nat.reduceMul,Store.new,hO2,hO4]
  simp [Ca]
 rintro j ρ ⟨ob,M⟩ hj ⟨h13,⟨g,h11,ho⟩,ho2,ho4⟩
 dsimp only at ho ho2 ho4
 rw [List.length_map]at h11
 rw [Nat.zero_add]at ho2
 by_cases hlt:j<n
 ·have hol:=TI (A:=A) (h:=h) (W:=W) (r:=d.2.2.2.1) j
  have hstep:Ca A h W d.2.2.2.1 (j+1)=Ca A h W d.2.2.2.1 j++if h≤j % W∧0<flA A j then [(((j % W-h:Nat):Int),d.2.2.2.1+((j / W:Nat):Int),flA A j)]else []:=rfl
  have hlen2:2*j+1<A.length:=by omega
  have hnA:=Ci hlen2
  have hfl:(A.getD (2*j+1) dA).2.2.1=flA A j:=rfl
  rw [hfl]at hnA
  have c1:((2*j:Nat):Int)<((2*n:Nat):Int):=by omega
  have w1:IntKind.i64.wrap (((2*j:Nat):Int)+1)=((2*j+1:Nat):Int):=BF (by omega)
  have w2:IntKind.i64.wrap (((2*j:Nat):Int)+2)=((2*(j+1):Nat):Int):=by rw[Ag (by omega) (by omega)];omega
  have t1:Int.tdiv ((2*j:Nat):Int) 2=(j:Int):=by rw[Int.tdiv_eq_ediv_of_nonneg (by omega)];omega
  have t2:Int.tdiv (j:Int) (W:Int)=((j / W:Nat):Int):=by rw[Int.tdiv_eq_ediv_of_nonneg (by omega)];rfl
  have t3:Int.tmod (j:Int) (W:Int)=((j % W:Nat):Int):=by rw[Int.tmod_eq_emod_of_nonneg (by omega)];rfl
  have hdv:j / W≤j:=Nat.div_le_self _ _
  have hml:j % W<W:=Nat.mod_lt _ hW0
  generalize j / W=qd at *
  generalize j % W=md at *
  have w3:IntKind.i64.wrap (j:Int)=(j:Int):=Ag (by omega) (by omega)
  have w4:IntKind.i64.wrap ((qd:Nat):Int)=((qd:Nat):Int):=Ag (by omega) (by omega)
  have w5:IntKind.i64.wrap (d.2.2.2.1+((qd:Nat):Int))=d.2.2.2.1+((qd:Nat):Int):=Ag (by omega) (by omega)
  have hWn:¬(W:Int)=0:=by omega
  have hWn':¬W=0:=by omega
  have hl2:((2*j+1:Nat):Int)<((2*n:Nat):Int):=by omega
  have hAl:(A.map Dc).length=2*n:=by rw[List.length_map,hlen]
  have hol1:(Ca A h W d.2.2.2.1 j).length+1≤2147483648:=by omega
  have htk:∀z,List.take ((Ca A h W d.2.2.2.1 j).length+1) (List.map GX (Ca A h W d.2.2.2.1 j) ++ [z])=List.map GX (Ca A h W d.2.2.2.1 j) ++ [z]:=fun z=>List.take_of_length_le (by simp)
  by_cases hc:h≤md
  ·have w6:IntKind.i64.wrap (((md:Nat):Int)-(h:Int))=((md-h:Nat):Int):=by rw[Ag (by omega) (by omega)];omega
   have hci:(h:Int)≤((md:Nat):Int):=by omega
   by_cases hp:0<flA A j
   ·rw [if_pos ⟨hc,hp⟩]at hstep
    generalize Ca A h W d.2.2.2.1 (j+1)=o2 at *
    generalize Ca A h W d.2.2.2.1 j=o1 at *
    generalize flA A j=fl at *
    simp +contextual (maxSteps:=4000000) only[↓bdD,bdP,Nat.reduceLT,Nat.reduceBEq,Nat.reduceAdd,Nat.reduceMul,Nat.reduceLeDiff,reduceCtorEq,Int.reduceEq,Store.set,↓reduceIte,ty3,Aw,AJ,AX,BU,KH,GV,Lt,h13,h11,ho,ho2,ho4,c1,w1,w2,t1,t2,t3,w3,w4,w5,w6,hWn,hl2,hAl,hnA,hci,hp,hol1,hstep]
    exact ⟨hlt,by rw[List.map_append];rfl⟩
   ·rw [if_neg (fun g=>hp g.2),List.append_nil]at hstep
    generalize Ca A h W d.2.2.2.1 (j+1)=o2 at *
    generalize Ca A h W d.2.2.2.1 j=o1 at *
    generalize flA A j=fl at *
    simp +contextual (maxSteps:=4000000) only[↓bdD,bdP,Nat.reduceLT,Nat.reduceBEq,Nat.reduceAdd,Int.reduceEq,↓reduceIte,ty3,Aw,KH,GV,Lt,h13,h11,ho,ho2,ho4,c1,w1,w2,t1,t2,t3,w3,w4,hWn,hl2,hAl,hnA,hci,hp,hstep]
    exact hlt
  ·have hci:¬(h:Int)≤((md:Nat):Int):=by omega
   rw [if_neg (fun g=>hc g.1),List.append_nil]at hstep
   generalize Ca A h W d.2.2.2.1 (j+1)=o2 at *
   generalize Ca A h W d.2.2.2.1 j=o1 at *
   generalize flA A j=fl at *
   simp +contextual (maxSteps:=4000000) only[↓bdD,bdP,Nat.reduceLT,Nat.reduceBEq,Nat.reduceAdd,Int.reduceEq,↓reduceIte,ty3,Aw,KH,GV,Lt,h13,h11,ho,ho2,ho4,c1,w1,w2,t1,t2,t3,w3,w4,hWn,hl2,hAl,hnA,hci,hstep]
   exact hlt
 ·have e:j=n:=by omega
  subst e
  have c1:¬((2*j:Nat):Int)<((2*j:Nat):Int):=by omega
  generalize Ca A h W d.2.2.2.1 j=o1 at *
  simp +contextual (maxSteps:=4000000) only[↓bdD,bdP,Nat.reduceLT,Nat.reduceBEq,Ai,Nat.reduceAdd,↓reduceIte,Ac,KH,GV,h13,h11,ho,ho2,ho4,c1]
theorem zE:XO:=zC zD
end Sim
namespace Sim
open Go Go.Proofs
theorem QR {ls:List Lnk} {l:List Snd} {t f:Int}:∀n,Ea ls l t f n=Aj (fun i=>if (l.getD i dS).2.1=t∧(Cd ls (l.getD i dS)).1=f then (l.getD i dS).2.2 else 0) n
 | 0=>rfl
 | n+1=>by rw[Ea,Aj,QR n];rfl
theorem LG {ls:List Lnk} {l:List Snd} {a t:Int}:∀n,IG ls l a t n=Aj (fun i=>IF ls (l.getD i dS) a t) n
 | 0=>rfl
 | n+1=>by rw[IG,Aj,LG n]
theorem QT {l:List Snd} {a t:Int}:∀n,A9 l a t n=Aj (fun i=>if (l.getD i dS).1=a∧(l.getD i dS).2.1=t then (l.getD i dS).2.2 else 0) n
 | 0=>rfl
 | n+1=>by rw[A9,Aj,QT n]
theorem XP {ls:List Lnk} {l:List Snd}:∀n,Fv ls l n=Aj (fun i=>(l.getD i dS).2.2*EC ls (l.getD i dS).1 (l.getD i dS).2.1) n
 | 0=>rfl
 | n+1=>by rw[Fv,Aj,XP n]
theorem MY {l:List Snd} {τ:Int} {L:Nat} (P:Nat→Prop) [DecidablePred P]:∀ {n},(∀i,i<n→0≤(l.getD i dS).1∧(l.getD i dS).1<(L:Int)) →
  Aj (fun k=>if P k then A9 l (k:Int) τ n else 0) L=Aj (fun i=>if (l.getD i dS).2.1=τ∧P (l.getD i dS).1.toNat then (l.getD i dS).2.2 else 0) n
 | 0,_=>by
  rw [Aj]
  exact A3 fun k _=>by split <;> rfl
 | n + 1,h=>by
  have ih:=MY (τ:=τ) P (n:=n) fun i hi=>h i (by omega)
  have hn:=h n (by omega)
  rw [Aj,←ih]
  have e:(fun k:Nat=>if P k then A9 l (k:Int) τ (n+1)else 0)=fun k=>(if P k then A9 l (k:Int) τ n else 0)+(if (l.getD n dS).1.toNat=k then (if (l.getD n dS).2.1=τ∧P (l.getD n dS).1.toNat then (l.getD n dS).2.2 else 0)else 0):=by
   funext k
   rw [A9]
   by_cases c:(l.getD n dS).1.toNat=k
   ·rw [if_pos c]
    have c2:(l.getD n dS).1=(k:Int):=by omega
    rw [c]
    by_cases p:P k
    ·rw [if_pos p,if_pos p]
     by_cases q:(l.getD n dS).2.1=τ
     ·rw [if_pos ⟨c2,q⟩,if_pos ⟨q,p⟩]
     ·rw [if_neg (fun g=>q g.2),if_neg (fun g=>q g.1)]
    ·rw [if_neg p,if_neg p,if_neg (fun g=>p g.2)];rfl
   ·have c2:¬((l.getD n dS).1=(k:Int)∧(l.getD n dS).2.1=τ):=fun g=>c (by rw[g.1];exact Int.toNat_natCast k)
    rw [if_neg c,if_neg c2,Int.add_zero,Int.add_zero]
  rw [e,BK,B7,if_pos (by omega)]
def gS (l:List Snd) (r:Int) (k t:Nat):Int:=A9 l (k:Int) (r+(t:Int)) l.length
theorem zF {ls:List Lnk} {l:List Snd} {i x:Nat} (h:0≤(Cd ls (l.getD i dS)).1):((ls.getD (l.getD i dS).1.toNat dL).1.toNat=x)=((Cd ls (l.getD i dS)).1=(x:Int)):=by
 unfold Cd at h ⊢
 exact propext ⟨fun g=>by omega,fun g=>by omega⟩
theorem zG {ls:List Lnk} {l:List Snd} {i x:Nat} (h:0≤(Cd ls (l.getD i dS)).2.1):((ls.getD (l.getD i dS).1.toNat dL).2.1.toNat=x)=((Cd ls (l.getD i dS)).2.1=(x:Int)):=by
 unfold Cd at h ⊢
 exact propext ⟨fun g=>by omega,fun g=>by omega⟩
section
variable {hn:Int} {ls:List Lnk} {l us:List Snd} {d:Dem} {r:Int}
theorem nQ (ok:OKr hn ls l) (x t:Nat):(I9 hn ls us r).outF (gS l r) x t=Ea ls l (r+(t:Int)) (x:Int) l.length:=by
 have := MY (l:=l) (τ:=r+(t:Int)) (L:=ls.length) (fun k=>(ls.getD k dL).1.toNat=x) (n:=l.length) ok.link
 rw [QR]
 refine Eq.trans (Eq.trans ?_ this) (Af fun i hi=>?_)
 ·rfl
 ·simp only[zF (ends ok hi).1.1]
theorem Ai1 (ok:OKr hn ls l) (x t:Nat):(I9 hn ls us r).inF (gS l r) x t=Aj (fun i=>if (l.getD i dS).2.1=r+(t:Int)∧(Cd ls (l.getD i dS)).2.1=(x:Int)then (l.getD i dS).2.2 else 0) l.length:=by
 have := MY (l:=l) (τ:=r+(t:Int)) (L:=ls.length) (fun k=>(ls.getD k dL).2.1.toNat=x) (n:=l.length) ok.link
 refine Eq.trans (Eq.trans ?_ this) (Af fun i hi=>?_)
 ·rfl
 ·simp only[zG (ends ok hi).2.1.1]
theorem MZ (ok:OKr hn ls l) (hd:0≤d.1) (h0:∀i,i<l.length→d.2.2.2.1≤(l.getD i dS).2.1) (x:Nat):∀t:Nat,(I9 hn ls us d.2.2.2.1).stk d.1.toNat d.2.2.1 (gS l d.2.2.2.1) t x=B1 ls l d (x:Int) (d.2.2.2.1+(t:Int))
 | 0=>by
  unfold B1 HA
  rw [LG,A3 (fun i hi=>by unfold IF;rw[if_neg (by have:=h0 i hi;omega)]),TN.stk]
  by_cases c:d.1.toNat=x
  ·rw [if_pos c,if_pos ⟨by omega,by omega⟩];omega
  ·rw [if_neg c,if_neg (fun g=>c (by omega))];rfl
 | t + 1=>by
  rw [TN.stk,MZ ok hd h0 x t,nQ ok,Ai1 ok,QR]
  unfold B1
  have e0:HA d (x:Int) (d.2.2.2.1+((t+1:Nat):Int))=HA d (x:Int) (d.2.2.2.1+(t:Int)):=by
   unfold HA
   by_cases c:(x:Int)=d.1
   ·rw [if_pos ⟨c,by omega⟩,if_pos ⟨c,by omega⟩]
   ·rw [if_neg (fun g=>c g.1),if_neg (fun g=>c g.1)]
  rw [e0,LG,LG]
  have e1:Aj (fun i=>IF ls (l.getD i dS) (x:Int) (d.2.2.2.1+((t+1:Nat):Int))) l.length=Aj (fun i=>(IF ls (l.getD i dS) (x:Int) (d.2.2.2.1+(t:Int))-(if (l.getD i dS).2.1=d.2.2.2.1+(t:Int)∧(Cd ls (l.getD i dS)).1=(x:Int)then (l.getD i dS).2.2 else 0))+(if (l.getD i dS).2.1=d.2.2.2.1+(t:Int)∧(Cd ls (l.getD i dS)).2.1=(x:Int)then (l.getD i dS).2.2 else 0)) l.length:=by
   refine Af fun i _=>?_
   unfold IF
   by_cases c:(l.getD i dS).2.1=d.2.2.2.1+(t:Int)
   ·have q1:d.2.2.2.1+(t:Int)<d.2.2.2.1+((t+1:Nat):Int):=by omega
    simp only[c,true_and,q1,if_true,Int.lt_irrefl,if_false]
    omega
   ·simp only[c,false_and,if_false]
    by_cases c2:(l.getD i dS).2.1<d.2.2.2.1+(t:Int)
    ·have q1:(l.getD i dS).2.1<d.2.2.2.1+((t+1:Nat):Int):=by omega
     simp only[q1,c2,if_true];omega
    ·have q1:¬(l.getD i dS).2.1<d.2.2.2.1+((t+1:Nat):Int):=by omega
     simp only[q1,c2,if_false];omega
  rw [e1,BK,B0]
  omega
theorem XQ (ok:OKr hn ls l) (k t:Int):0≤A9 l k t l.length:=by
 rw [QT]
 exact Bp fun i hi=>by
  split
  ·have := ok.bytes i hi;omega
  ·exact Int.le_refl _
end
end Sim
