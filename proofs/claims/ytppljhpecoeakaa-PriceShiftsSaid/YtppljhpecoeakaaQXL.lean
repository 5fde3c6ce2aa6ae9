/- What functions of this seat compute, by values: contracts (lemmas of the statement's proof, under the conditions that each names). -/
import Derived.Test.YtppljhpecoeakaaQXG
set_option maxRecDepth 10000
set_option maxHeartbeats 4000000
set_option linter.unusedVariables false
set_option linter.unusedSimpArgs false
namespace Sim
open Go Go.Proofs
attribute [local congr] Ap Aq Al AC As Ar Av
abbrev tkA (ts:List Int) (x:Int):Int:=ts.getD x.toNat 0
def zW (hn:Int) (d:Dem) (ts:List Int):Prop:=(ts.length:Int)=hn∧tkA ts d.1≤d.2.2.2.1∧d.2.2.2.2<tkA ts d.2.1
instance {hn:Int} {d:Dem} {ts:List Int}:Decidable (zW hn d ts):=inferInstanceAs (Decidable (_∧_))
def FG (hn:Int) (ls:List Lnk) (us:List Snd) (d:Dem) (ts:List Int):Int:=if CH hn ls us d≠0 then CH hn ls us d else if ¬zW hn d ts then 1 else 0
def brI (ls:List Lnk) (us:List Snd) (d:Dem) (ts:List Int) (t k:Nat):Int :=
 if tkA ts (ls.getD k dL).1≤d.2.2.2.1+(t:Int)∧d.2.2.2.1+((t+1:Nat):Int)<tkA ts (ls.getD k dL).2.1 then lfM ls us (k:Nat) (d.2.2.2.1+(t:Int))else 0
def Iv (ls:List Lnk) (us:List Snd) (d:Dem) (ts:List Int) (n:Nat):Int:=Aj (fun i=>brI ls us d ts (i / ls.length) (i % ls.length)) n
def Ga (hn:Int) (ls:List Lnk) (us:List Snd) (d:Dem) (ts:List Int):Int:=if FG hn ls us d ts≠0 then 0 else Iv ls us d ts (An d*ls.length)
theorem Q2 {hn:Int} {ls:List Lnk} {us:List Snd} (hf:Bz hn ls us=0) {k:Nat} {t:Int} (hk:k<ls.length):0≤lfM ls us (k:Nat) t∧lfM ls us (k:Nat) t≤1073741824:=by
 obtain ⟨ok,_⟩:=B8 hf
 have q1:=Fg hf (k:=(k:Int)) (t:=t) ⟨by omega,by omega⟩
 have q2:=Ej ok.net (link:=(k:Int)) (tick:=t) (by omega) (by omega)
 unfold lfM
 omega
theorem zX {hn:Int} {ls:List Lnk} {us:List Snd} {d:Dem} {ts:List Int} (hf:Bz hn ls us=0) {t k:Nat} (hk:k<ls.length):0≤brI ls us d ts t k∧brI ls us d ts t k≤1073741824:=by
 have := Q2 hf (t:=d.2.2.2.1+(t:Int)) hk
 unfold brI
 split <;> omega
theorem TW {hn:Int} {ls:List Lnk} {us:List Snd} {d:Dem} {ts:List Int} (hf:Bz hn ls us=0) (hD:An d≤32) {n:Nat} (hn':n≤An d*ls.length):0≤Iv ls us d ts n∧Iv ls us d ts n≤2061584302080:=by
 obtain ⟨ok,_⟩:=B8 hf
 have hl:=ok.net.len
 have h1:=HM (f:=fun i=>brI ls us d ts (i / ls.length) (i % ls.length)) (B:=1073741824) (n:=n) fun i hi=>by
  obtain ⟨h1,h2⟩:=TN.idx_lt (i:=i) (Nat.lt_of_lt_of_le hi hn')
  exact zX hf h2
 have hn2:n≤1920:=Nat.le_trans hn' (Nat.le_trans (Nat.mul_le_mul hD hl) (by decide))
 unfold Iv
 omega
theorem cK {ls:List Lnk} {us:List Snd} {d:Dem} {ts:List Int} {n:Nat}:Iv ls us d ts (n+1)=Iv ls us d ts n+brI ls us d ts (n / ls.length) (n % ls.length):=by
 unfold Iv
 rw [Aj]
noncomputable def Nn:(Int)×(List Lnk)×(List Snd)×(Dem)×(List Int)→List PV:=fun (hn,ls,us,d,ts) => [.agg [I hn,Az ls,AB us,I d.1,I d.2.1,I d.2.2.1,I d.2.2.2.1,I d.2.2.2.2],ints ts]
noncomputable def pP:(Int)×(List Lnk)×(List Snd)×(Dem)×(List Int)→PV:=fun (hn,ls,us,d,ts)=>.tuple [I (Ga hn ls us d ts),I (FG hn ls us d ts)]
def pQ:(Int)×(List Lnk)×(List Snd)×(Dem)×(List Int)→Prop:=fun (hn,ls,us,d,ts)=>True
noncomputable def e_pbar:Nat×Ent:=(19,.v (Ah Nn pP pQ))
theorem Afo:∀i j,Nn i=Nn j→i=j:=by
 rintro ⟨hn₁,ls₁,us₁,d₁,ts₁⟩ ⟨hn₂,ls₂,us₂,d₂,ts₂⟩ h
 simp only[Nn,List.cons.injEq,and_true,PV.lits.injEq,PV.int.injEq,PV.agg.injEq,true_and,DP,AR,AG]at h
 simp [Prod.ext_iff,h] <;> omega
theorem Q3 (hn:Int) (ls:List Lnk) (us:List Snd) (d:Dem) (ts:List Int):Ah Nn pP pQ [.agg [I hn,Az ls,AB us,I d.1,I d.2.1,I d.2.2.1,I d.2.2.2.1,I d.2.2.2.2],ints ts]=some (.tuple [I (Ga hn ls us d ts),I (FG hn ls us d ts)]):=AA Afo (i:=(hn,ls,us,d,ts)) trivial
def pR:Prop:=∀(hn:Int) (ls:List Lnk) (us:List Snd) (d:Dem) (ts:List Int) ,VC Try.prog 19 [.agg [I hn,Az ls,AB us,I d.1,I d.2.1,I d.2.2.1,I d.2.2.2.1,I d.2.2.2.2],ints ts] (.tuple [I (Ga hn ls us d ts),I (FG hn ls us d ts)])
def pS:Prop:=AM Try.prog e_pbar.1 e_pbar.2
theorem Afp (c:pR):pS:=At fun⟨hn,ls,us,d,ts⟩ h=>c hn ls us d ts
theorem Afq:pR:=by
 intro hn ls us d ts
 refine VP AP (l := [e_pcheck,e_runs]) ((Ae HK (Ae QV Ao))) [] [] 0 1 Try.func19 rfl (by decide +kernel) (N:=75) rfl (by simp) rfl (by kernel_rfl) fun hs=>?_
 simp only[AI,PV.small,List.length_map,and_true,true_and]at hs
 generalize hR1:Ga hn ls us d ts=R1
 generalize hR2:FG hn ls us d ts=R2
 unfold Ga at hR1
 rw [hR2]at hR1
 unfold FG at hR2
 by_cases h1:CH hn ls us d=0
 case neg =>
  rw [if_pos h1]at hR2
  have e1:R1=0:=by rw[←hR1,if_pos (by rw[←hR2];exact h1)]
  have h2:¬R2=0:=by rw[←hR2];exact h1
  simp +contextual (maxSteps:=4000000) only[↓bdD,bdP,Nat.reduceLT,Nat.reduceBEq,Ai,Nat.reduceAdd,↓reduceIte,e_pcheck,BL,e_runs,Ac,Ab,Try.f19,Bk,h2,hR2,e1]
 rw [if_neg (fun g=>g h1)]at hR2
 obtain ⟨hfk,hb4⟩:=pck_zero.1 h1
 obtain ⟨hf,hdm,hD,hdu⟩:=CC hfk
 obtain ⟨⟨a0,a1⟩,⟨c0,c1⟩,hr⟩:=B9 hdm
 obtain ⟨ok,_⟩:=B8 hf
 have hlen:=ok.net.len
 obtain ⟨r0,r1,r2,r3,r4⟩:=hr
 by_cases hA1:(ts.length:Int)=hn
 case neg =>
  rw [if_pos (fun g=>hA1 g.1)]at hR2
  subst hR2
  have e1:R1=0:=by rw[←hR1,if_pos (by decide)]
  simp +contextual (maxSteps:=4000000) only[↓bdD,bdP,Nat.reduceLT,Nat.reduceBEq,Ai,Nat.reduceAdd,↓reduceIte,e_pcheck,BL,e_runs,Ac,Ab,Try.f19,ty3,Aw,Bk,AZ,h1,hA1,e1]
 have hai:d.1<(ts.length:Int):=by omega
 have hci:d.2.1<(ts.length:Int):=by omega
 have han:d.1.toNat<ts.length:=by omega
 have hcn:d.2.1.toNat<ts.length:=by omega
 have hpA:ts.getD d.1.toNat 0=tkA ts d.1:=rfl
 have hpC:ts.getD d.2.1.toNat 0=tkA ts d.2.1:=rfl
 by_cases hA2:d.2.2.2.1<tkA ts d.1
 ·rw [if_pos (fun g=>by have:=g.2.1;omega)]at hR2
  subst hR2
  have e1:R1=0:=by rw[←hR1,if_pos (by decide)]
  simp +contextual (maxSteps:=4000000) only[↓bdD,bdP,Nat.reduceLT,Nat.reduceBEq,Ai,Nat.reduceAdd,↓reduceIte,e_pcheck,BL,e_runs,Ac,Ab,Try.f19,ty3,Aw,AX,Bk,AZ,h1,hA1,han,a0,a1,hpA,hA2,e1]
 by_cases hA3:tkA ts d.2.1≤d.2.2.2.2
 ·rw [if_pos (fun g=>by have:=g.2.2;omega)]at hR2
  subst hR2
  have e1:R1=0:=by rw[←hR1,if_pos (by decide)]
  simp +contextual (maxSteps:=4000000) only[↓bdD,bdP,Nat.reduceLT,Nat.reduceBEq,Ai,Nat.reduceAdd,↓reduceIte,e_pcheck,BL,e_runs,Ac,Ab,Try.f19,ty3,Aw,AX,Bk,AZ,h1,hA1,han,hcn,a0,a1,c0,c1,hpA,hpC,hA2,hA3,e1]
 have hP:zW hn d ts:=⟨hA1,by omega,by omega⟩
 rw [if_neg (fun g=>g hP)]at hR2
 subst hR2
 rw [if_neg (fun g=>g rfl)]at hR1
 have hz:(0:Int)=Iv ls us d ts 0:=rfl
 obtain ⟨O4,hO4⟩:∃O4:Nat→Option IObj,Aa (fun i=>if i<0 then some (IObj.arr 0 1 [])else none) 0 (some (.arr 0 1 [I 0]))=O4:=⟨_,rfl⟩
 have hw4:WF ⟨O4,1⟩:=fun i o hi=>by
  dsimp only at hi ⊢
  rw [←hO4]at hi
  simp only[Aa]at hi
  split at hi
  ·omega
  ·simp at hi
 have o40:O4 0=some (.arr 0 1 [I 0]):=by rw[←hO4];simp[Aa]
 have o41:Aa O4 0 (some (.arr 0 1 [I 0]))=O4:=Ig o40
 have sp:=Nc ⟨hn,ls,us,d⟩ (st:=⟨O4,1⟩) hf
 simp only[CU]at sp
 simp +contextual (maxSteps:=4000000) only[↓bdD,bdP,Nat.reduceLT,Nat.reduceBEq,Nat.reduceEqDiff,Nat.reduceAdd,Nat.reduceLeDiff,Store.new,Store.set,↓reduceIte,e_pcheck,BL,e_runs,Ac,Ab,Try.f19,ty3,Aw,AX,Bk,AZ,h1,hA1,han,hcn,a0,a1,c0,c1,hpA,hpC,hA2,hA3,hO4,o40,o41,sp]
 have b1:rnO O4 1 us 0=some (.arr 0 1 [I (Iv ls us d ts 0)]):=by simp[rnO,←hO4,Aa,Iv,Aj]
 have b2:rnO O4 1 us 1=some (.map 0 (.ints 2) (us.map tkE)):=by simp[rnO]
 have b3:rnO O4 1 us 2=some (.arr 0 1 [.mref 1 0]):=by simp[rnO]
 generalize rnO O4 1 us=O5 at *
 have hyr:=QW (hn:=hn) (M:=1) (D:=An d) hf hdu r2 r4
 refine Fb (ys:=Jf ls us d.2.2.2.1 (An d)) (f:=53) (first := []) (captured := [frP hn ls us d,.ptr 2 0 0 0]) rfl rfl (AV rfl) ?_ hyr rfl ?_ (by kernel_rfl) (by kernel_rfl)
  (fun i st'=>(st'.obj 0=some (.arr 0 1 [I (Iv ls us d ts i)])∧0<st'.next)∧(st'.obj 1=some (.map 0 (.ints 2) (us.map tkE))∧1<st'.next)∧(st'.obj 2=some (.arr 0 1 [.mref 1 0])∧2<st'.next)) (fun e st'=>False) ?_ ?_ ?_ ?_ ?_ ?_ ?_ ?_
 ·simp +contextual (maxSteps:=4000000) only[↓bdD,bdP]
 ·exact Kh
 ·exact fun i=>.and (.obj fun _=>by simp) (.and (.obj fun _=>by simp) (.obj fun _=>by simp))
 ·exact fun e=>Stays.const
 ·exact ⟨⟨b1,by simp⟩,⟨b2,by simp⟩,⟨b3,by simp⟩⟩
 ·exact fun i st' h=>⟨h.2.1.1,h.2.2.1⟩
 ·rintro i v ⟨O6,M6⟩ id lr hv hid hlp ⟨⟨g1,_⟩,⟨g2,_⟩,⟨g3,hM6⟩⟩
  obtain ⟨hi,rfl⟩:=LJ hv
  dsimp only at hid hlp g1 g2 g3 hM6
  obtain ⟨htD,hkL⟩:=TN.idx_lt (i:=i) hi
  have hsc:=cK (ls:=ls) (us:=us) (d:=d) (ts:=ts) (n:=i)
  have hb2:=TW (ts:=ts) hf hD (n:=i) (Nat.le_of_lt hi)
  have hb3:=TW (ts:=ts) hf hD (n:=i+1) hi
  generalize i / ls.length=t at *
  generalize i % ls.length=k at *
  have hend:=ok.net.ends k hkL
  have w6:IntKind.i64.wrap (d.2.2.2.1+(t:Int)+1)=d.2.2.2.1+((t+1:Nat):Int):=by rw[Ag (by omega) (by omega)];omega
  have hk1:=QY (ls:=ls) (us:=us) (r:=d.2.2.2.1) (k:=k) (t:=t)
  have hk2:=QZ (ls:=ls) (us:=us) (r:=d.2.2.2.1) (k:=k) (t:=t)
  have hk3:=Q0 (ls:=ls) (us:=us) (r:=d.2.2.2.1) (k:=k) (t:=t)
  have hk4:=LI (ls:=ls) (us:=us) (r:=d.2.2.2.1) (k:=k) (t:=t)
  unfold brI at hsc
  generalize ls.getD k dL=lk at *
  generalize lfM ls us (k:Nat) (d.2.2.2.1+(t:Int))=lf at *
  have hto:lk.2.1<(ts.length:Int):=by omega
  have hfr:lk.1<(ts.length:Int):=by omega
  have hto':lk.2.1<hn:=by omega
  have hfr':lk.1<hn:=by omega
  have hto0:0≤lk.2.1:=by omega
  have hfr0:0≤lk.1:=by omega
  have hton:lk.2.1.toNat<ts.length:=by omega
  have hfrn:lk.1.toNat<ts.length:=by omega
  have hpF:ts.getD lk.1.toNat 0=tkA ts lk.1:=rfl
  have hpT:ts.getD lk.2.1.toNat 0=tkA ts lk.2.1:=rfl
  have n1:¬id=0:=fun e=>by rw[e,g1]at hlp;cases hlp
  have n2:¬id=1:=fun e=>by rw[e,g2]at hlp;cases hlp
  have n3:¬id=2:=fun e=>by rw[e,g3]at hlp;cases hlp
  have m1:¬0=id:=fun e=>n1 e.symm
  have m2:¬1=id:=fun e=>n2 e.symm
  have m3:¬2=id:=fun e=>n3 e.symm
  have o1:¬M6=id:=by omega
  have o2:¬id=M6:=by omega
  have o4:¬0=M6:=by omega
  have o5:¬1=M6:=by omega
  have o6:¬2=M6:=by omega
  have o8:¬M6=0:=by omega
  by_cases x1:tkA ts lk.1≤d.2.2.2.1+(t:Int)
  ·by_cases x2:d.2.2.2.1+((t+1:Nat):Int)<tkA ts lk.2.1
   ·rw [if_pos ⟨x1,x2⟩]at hsc
    have w7:IntKind.i64.wrap (Iv ls us d ts i+lf)=Iv ls us d ts (i+1):=by rw[hsc,Ag (by omega) (by omega)]
    simp +contextual (maxSteps:=4000000) only[↓bdD,bdP,Nat.reduceLT,Nat.reduceBEq,Nat.reduceAdd,Nat.reduceLeDiff,Store.new,Store.set,↓reduceIte,ty3,AZ,B6,Gw,GU,hlp,g1,n1,m1,o1,o2,o4,o8,Fa,Co,w6,w7,hk1,hk2,hk3,hk4,Cb,hA1,hto',hfr',hto0,hfr0,hton,hfrn,hpF,hpT,x1,x2,A4]
    intro rb
    refine ⟨by omega,by omega,⟨?_,by omega⟩,?_,by omega⟩ <;> simp only[Aa]
    ·rw [if_neg m2,if_neg o5,g2]
    ·rw [if_neg m3,if_neg o6,g3]
   ·rw [if_neg (fun g=>x2 g.2),Int.add_zero]at hsc
    simp +contextual (maxSteps:=4000000) only[↓bdD,bdP,Nat.reduceLT,Nat.reduceBEq,Nat.reduceAdd,Nat.reduceLeDiff,Store.new,Store.set,↓reduceIte,ty3,AZ,B6,Gw,GU,hlp,g1,m1,o1,o2,o4,o8,Fa,Co,w6,hk1,hk2,hk3,Cb,hA1,hto',hfr',hto0,hfr0,hton,hfrn,hpF,hpT,x1,x2,hsc,A4]
    intro rb
    refine ⟨by omega,by omega,⟨?_,by omega⟩,?_,by omega⟩ <;> simp only[Aa]
    ·rw [if_neg m2,if_neg o5,g2]
    ·rw [if_neg m3,if_neg o6,g3]
  ·rw [if_neg (fun g=>x1 g.1),Int.add_zero]at hsc
   simp +contextual (maxSteps:=4000000) only[↓bdD,bdP,Nat.reduceLT,Nat.reduceBEq,Nat.reduceAdd,Nat.reduceLeDiff,Store.new,Store.set,↓reduceIte,ty3,AZ,B6,Gw,GU,hlp,g1,m1,o1,o2,o4,o8,Fa,Co,hk1,hk2,Cb,hA1,hfr',hfr0,hfrn,hpF,x1,hsc,A4]
   intro rb
   refine ⟨by omega,by omega,⟨?_,by omega⟩,?_,by omega⟩ <;> simp only[Aa]
   ·rw [if_neg m2,if_neg o5,g2]
   ·rw [if_neg m3,if_neg o6,g3]
 ·rintro ⟨O6,M6⟩ ⟨⟨g1,_⟩,_⟩
  dsimp only at g1
  rw [Kg,hR1]at g1
  simp +contextual (maxSteps:=4000000) only[↓bdD,bdP,Nat.reduceLT,Nat.reduceBEq,Ai,Nat.reduceAdd,↓reduceIte,ty3,g1]
 ·exact fun j st' h=>h.elim
 ·exact fun st' h=>h.elim
theorem pT:pS:=Afp Afq
noncomputable def HO:(Int)×(List Lnk)×(List Snd)×(Dem)×(List Int)→List PV:=fun (hn,ls,us,d,ts) => [.agg [I hn,Az ls,AB us,I d.1,I d.2.1,I d.2.2.1,I d.2.2.2.1,I d.2.2.2.2],ints ts]
noncomputable def TX:(Int)×(List Lnk)×(List Snd)×(Dem)×(List Int)→PV:=fun (hn,ls,us,d,ts)=>B (decide (FG hn ls us d ts=0∧Ga hn ls us d ts<d.2.2.1))
def TY:(Int)×(List Lnk)×(List Snd)×(Dem)×(List Int)→Prop:=fun (hn,ls,us,d,ts)=>True
noncomputable def e_pstops:Nat×Ent:=(21,.v (Ah HO TX TY))
theorem pU:∀i j,HO i=HO j→i=j:=by
 rintro ⟨hn₁,ls₁,us₁,d₁,ts₁⟩ ⟨hn₂,ls₂,us₂,d₂,ts₂⟩ h
 simp only[HO,List.cons.injEq,and_true,PV.lits.injEq,PV.int.injEq,PV.agg.injEq,true_and,DP,AR,AG]at h
 simp [Prod.ext_iff,h] <;> omega
theorem No (hn:Int) (ls:List Lnk) (us:List Snd) (d:Dem) (ts:List Int):Ah HO TX TY [.agg [I hn,Az ls,AB us,I d.1,I d.2.1,I d.2.2.1,I d.2.2.2.1,I d.2.2.2.2],ints ts]=some (B (decide (FG hn ls us d ts=0∧Ga hn ls us d ts<d.2.2.1))):=AA pU (i:=(hn,ls,us,d,ts)) trivial
def TZ:Prop:=∀(hn:Int) (ls:List Lnk) (us:List Snd) (d:Dem) (ts:List Int) ,VC Try.prog 21 [.agg [I hn,Az ls,AB us,I d.1,I d.2.1,I d.2.2.1,I d.2.2.2.1,I d.2.2.2.2],ints ts] (B (decide (FG hn ls us d ts=0∧Ga hn ls us d ts<d.2.2.1)))
def T0:Prop:=AM Try.prog e_pstops.1 e_pstops.2
theorem pV (c:TZ):T0:=At fun⟨hn,ls,us,d,ts⟩ h=>c hn ls us d ts
theorem pW:TZ:=by
 intro hn ls us d ts
 refine A5 AP (l := [e_pbar]) ((Ae pT Ao)) [] []  Try.func21 rfl (by decide +kernel) (N:=22) rfl (by simp) rfl (by kernel_rfl) fun hs=>?_
 simp only[AI,PV.small,List.length_map,and_true,true_and]at hs
 have sp:=Q3 (hn:=hn) (ls:=ls) (us:=us) (d:=d) (ts:=ts)
 dsimp only[Az,AB,ints]at sp
 generalize FG hn ls us d ts=e at *
 generalize Ga hn ls us d ts=x at *
 by_cases h:e=0
 ·by_cases c:x<d.2.2.1
  ·rw [decide_eq_true ⟨h,c⟩]
   simp +contextual (maxSteps:=4000000) only[↓bdD,bdP,Nat.reduceLT,Nat.reduceBEq,Ai,Nat.reduceAdd,st0,↓reduceIte,e_pbar,Ac,Ab,Try.f21,ty3,AX,Bk,AZ,sp,h,c]
  ·rw [decide_eq_false (fun g=>c g.2)]
   simp +contextual (maxSteps:=4000000) only[↓bdD,bdP,Nat.reduceLT,Nat.reduceBEq,Ai,Nat.reduceAdd,st0,↓reduceIte,e_pbar,Ac,Ab,Try.f21,ty3,AX,Bk,AZ,sp,h,c]
 ·rw [decide_eq_false (fun g=>h g.1)]
  simp +contextual (maxSteps:=4000000) only[↓bdD,bdP,Nat.reduceLT,Nat.reduceBEq,Ai,Nat.reduceAdd,st0,↓reduceIte,e_pbar,Ac,Ab,Try.f21,Bk,AZ,sp,h]
theorem pX:T0:=pV pW
end Sim
namespace Sim
open Go Go.Proofs
attribute [local congr] Ap Aq Al AC As Ar Av
theorem cL:∀n:Nat,n<1001→Cw .and .u64 (n:Int) 4294967295=some (n:Int):=by decide +kernel
theorem cM:∀n:Nat,n<1001→(n:Int).fdiv 4294967296=0:=by decide +kernel
theorem Aik {n:Nat} (h:n<1001):IntKind.u64.wrap (n:Int)=n:=by rw[IntKind.wrap_u64];omega
noncomputable def Ki:Nat→List PV:=fun n => [.int .u64 1,.int .u64 n]
noncomputable def X2:Nat→PV:=fun n=>.tuple [.int .u64 0,.int .u64 n]
def X3:Nat→Prop:=fun n=>n<1001
noncomputable def e_mul64:Nat×Ent:=(74,.v (Ah Ki X2 X3))
theorem zY:∀i j,Ki i=Ki j→i=j:=by
 rintro n₁ n₂ h
 simp only[Ki,List.cons.injEq,and_true,PV.int.injEq,true_and]at h
 first | exact h | omega | (simp[Prod.ext_iff,h];done)
theorem zZ (n:Nat):Ah Ki X2 X3 [.int .u64 1,.int .u64 n]=@ite (Option (PV)) (n<1001) (Classical.propDecidable _) (some (.tuple [.int .u64 0,.int .u64 n])) none:=BV zY n
def X4:Prop:=∀(n:Nat) (h:n<1001) ,VC Try.prog 74 [.int .u64 1,.int .u64 n] (.tuple [.int .u64 0,.int .u64 n])
def X5:Prop:=AM Try.prog e_mul64.1 e_mul64.2
theorem Aaa (c:X4):X5:=At fun n h=>c n h
theorem Aab:X4:=by
 intro n hn
 refine A5 AP (l := []) (Ao) [] []  Try.func74 rfl (by decide +kernel) (N:=51) rfl (by simp) rfl (by kernel_rfl) fun hs=>?_
 simp only[AI,PV.small,and_true]at hs
 have a1:Cw .and .u64 1 4294967295=some 1:=by decide +kernel
 have a0:Cw .and .u64 0 4294967295=some 0:=by decide +kernel
 have an:=cL n hn
 have s1:(1:Int).fdiv 4294967296=0:=by decide +kernel
 have s0:(0:Int).fdiv 4294967296=0:=by decide +kernel
 have sn:=cM n hn
 have wn:=Aik hn
 have w0:IntKind.u64.wrap 0=0:=by decide +kernel
 simp +contextual (maxSteps:=4000000) only[↓bdD,bdP,Nat.reduceLT,Nat.reduceBEq,Ai,Nat.reduceLeDiff,Int.reduceLT,Int.reduceToNat,st0,↓reduceIte,Int.reducePow,Try.f74,a1,a0,an,s1,s0,sn,wn,w0,Int.one_mul,Int.zero_mul,Int.add_zero]
theorem Aac:X5:=Aaa Aab
noncomputable def Np:Nat→List PV:=fun n => [.int .u64 1,.int .u64 n]
noncomputable def pY:Nat→PV:=fun n=>.tuple [.int .u64 0,.int .u64 n]
def pZ:Nat→Prop:=fun n=>n<1001
noncomputable def e_mulU:Nat×Ent:=(62,.v (Ah Np pY pZ))
theorem Afr:∀i j,Np i=Np j→i=j:=by
 rintro n₁ n₂ h
 simp only[Np,List.cons.injEq,and_true,PV.int.injEq,true_and]at h
 first | exact h | omega | (simp[Prod.ext_iff,h];done)
theorem Afs (n:Nat):Ah Np pY pZ [.int .u64 1,.int .u64 n]=@ite (Option (PV)) (n<1001) (Classical.propDecidable _) (some (.tuple [.int .u64 0,.int .u64 n])) none:=BV Afr n
def qA:Prop:=∀(n:Nat) (h:n<1001) ,VC Try.prog 62 [.int .u64 1,.int .u64 n] (.tuple [.int .u64 0,.int .u64 n])
def qC:Prop:=AM Try.prog e_mulU.1 e_mulU.2
theorem Aft (c:qA):qC:=At fun n h=>c n h
theorem Afu:qA:=by
 intro n hn
 refine A5 AP (l := [e_mul64]) ((Ae Aac Ao)) [] []  Try.func62 rfl (by decide +kernel) (N:=30) rfl (by simp) rfl (by kernel_rfl) fun hs=>?_
 simp only[AI,PV.small,and_true]at hs
 simp +contextual (maxSteps:=4000000) only[↓bdD,bdP,Nat.reduceLT,Nat.reduceBEq,Ai,Nat.reduceAdd,st0,↓reduceIte,e_mul64,zZ,Try.f62,Ahm,hn]
theorem Afv:qC:=Aft Afu
def Jh (n j:Nat) (v:Int):List PV:=List.replicate j (I v)++List.replicate (n-j) (I 0)
theorem qD {n j:Nat} {v:Int} (h:j≤n):(Jh n j v).length=n:=by unfold Jh;rw[List.length_append,List.length_replicate,List.length_replicate];omega
theorem K1 {n j:Nat} {v:Int}:List.take j (Jh n j v)=List.replicate j (I v):=by unfold Jh;exact List.take_left' (List.length_replicate ..)
theorem cN {n j q:Nat} {v:Int} (h:j+q≤n) (hq:q≤j):List.take j (Jh n j v)++List.take q (List.replicate j (I v))++List.drop (j+q) (Jh n j v)=Jh n (j+q) v:=by
 have e:List.drop (j+q) (Jh n j v)=List.replicate (n-(j+q)) (I 0):=by
  unfold Jh
  rw [List.drop_append,List.length_replicate,List.drop_of_length_le (by rw[List.length_replicate];omega),List.nil_append,show j+q-j=q by omega,List.drop_replicate,show n-j-q=n-(j+q) by omega]
 rw [K1,e,List.take_replicate,show min q j=q by omega]
 unfold Jh
 rw [List.replicate_append_replicate]
noncomputable def HP:(Int)×(Nat)→List PV:=fun (v,n) => [ints [v],I n]
noncomputable def Nq:(Int)×(Nat)→List PV:=fun (v,n)=>List.replicate n (I v)
def Nr:(Int)×(Nat)→Prop:=fun (v,n)=>n<1001
noncomputable def e_rept:Nat×Ent:=(42,.a (1) (Ah HP Nq Nr))
theorem Afw:∀i j,HP i=HP j→i=j:=by
 rintro ⟨v₁,n₁⟩ ⟨v₂,n₂⟩ h
 simp only[HP,List.cons.injEq,and_true,PV.lits.injEq,PV.int.injEq,true_and,DP]at h
 simp [Prod.ext_iff,h] <;> omega
theorem Q4 (v:Int) (n:Nat):Ah HP Nq Nr [ints [v],I n]=@ite (Option (List PV)) (n<1001) (Classical.propDecidable _) (some (List.replicate n (I v))) none:=BV Afw (v,n)
def qE:Prop:=∀(v:Int) (n:Nat) (h:n<1001) ,VCA Try.prog 42 [ints [v],I n] (1) (List.replicate n (I v))
def qF:Prop:=AM Try.prog e_rept.1 e_rept.2
theorem Afx (c:qE):qF:=U2 fun⟨v,n⟩ h=>c v n h
theorem Afy:qE:=by
 intro v n hn
 refine vG AP (l := [e_mulU]) ((Ae Afv Ao)) [] [] 0 0 Try.func42 rfl (by decide +kernel) (N:=48) rfl (by simp) rfl (by kernel_rfl) ?_ ?_
 ·intro e he
  rw [List.eq_of_mem_replicate he];rfl
 have hnu:IntKind.u64.wrap (n:Int)=n:=Aik hn
 have h1u:IntKind.u64.wrap 1=1:=by decide +kernel
 have hni:IntKind.i64.wrap (n:Int)=n:=by rw[Ag (by omega) (by omega)]
 have g1:¬(n:Int)<0:=by omega
 have g2:¬(9223372036854775807:Int)<n:=by omega
 have g3:(n:Int)≤4294967296:=by omega
 simp +contextual (maxSteps:=4000000) only[↓bdD,bdP,Nat.reduceLT,Nat.reduceBEq,Nat.reduceAdd,Int.reduceLT,Store.new,Store.set,↓reduceIte,e_mulU,Afs,Try.f42,ty3,AZ,Ahl,hnu,h1u,hni,g1,g2,g3,hn,A4]
 obtain ⟨j0,hj0⟩:∃j,(if 1≤n then 1 else n)=j:=⟨_,rfl⟩
 have hj1:j0≤n∧(0<n→0<j0):=by rw[←hj0];split <;> omega
 have hl0:List.take j0 [I v]++List.drop j0 (List.replicate n (I 0))=Jh n j0 v:=by
  unfold Jh
  rw [List.drop_replicate]
  congr 1
  rw [←hj0]
  split
  ·rfl
  ·rw [show n=0 by omega];rfl
 refine CS [8,34,35,36,37,38,39,40,41,42,43,44,45,46] (n-j0) (fun m ρ st'=>∃j,j≤n∧(0<n→0<j)∧m=n-j∧ρ 8=I (j:Nat)∧st'.obj 0=some (.arr 0 1 (Jh n j v))∧st'.next=1) (.refl _) ?_ ?_
 ·refine ⟨j0,hj1.1,hj1.2,rfl,?_,?_,rfl⟩
  ·simp +contextual (maxSteps:=4000000) only[↓bdD,bdP,hj0]
  ·simp +contextual (maxSteps:=4000000) only[↓bdD,bdP,hj0,hl0]
 rintro m ρ ⟨O,M⟩ ⟨j,h1,h2,rfl,h8,o0,hM⟩
 dsimp only at o0 hM
 subst hM
 have hrl:=qD h1 (v:=v)
 by_cases hjn:j<n
 ·have hji:(j:Int)<n:=by omega
  simp +contextual (maxSteps:=4000000) only[↓bdD,bdP,Nat.reduceLT,Nat.reduceBEq,Nat.reduceAdd,Int.reduceToNat,Store.set,↓reduceIte,AZ,h8,o0,hji,hrl,h1,Nat.sub_zero,K1]
  obtain ⟨q,hq⟩:∃q,(if j≤n-j then j else n-j)=q:=⟨_,rfl⟩
  have hq1:j+q≤n∧q≤j∧0<q:=by rw[←hq];split <;> omega
  rw [hq]
  repeat (refine And.intro (by omega) ?_)
  refine ⟨n-(j+q),by omega,j+q,hq1.1,fun _=>by omega,rfl,?_,?_⟩
  ·rw [Ag (by omega) (by omega)];omega
  ·rw [←cN hq1.1 hq1.2.1,K1]
 ·have e:j=n:=by omega
  subst e
  have e1:Jh j j v=List.replicate j (I v):=by unfold Jh;rw[Nat.sub_self];simp
  rw [e1]at o0
  simp +contextual (maxSteps:=4000000) only[↓bdD,bdP,Nat.reduceLT,Nat.reduceBEq,Ai,Nat.reduceAdd,reduceCtorEq,↓reduceIte,AZ,h8,o0]
  exact ⟨0,0,rfl,o0⟩
theorem qG:qF:=Afx Afy
end Sim
namespace Sim
open Go Go.Proofs
namespace TN
theorem wf_stk {T:TN} {D:Nat} (ok:T.OK D) {a c:Nat} (ha:a<T.h) (hc:c<T.h) {f:Nat→Int} {b:Int} (hf:(T.G D a c).Flow f b) {t x:Nat} (ht:t<D) (hx:x<T.h):T.wf f x t=T.stk a b (T.gf f) t x-T.outF (T.gf f) x t:=by
 have val:∀t x,t≤D→x<T.h→(if t<D then T.wf f x t+T.outF (T.gf f) x t else 0)-(if 0<t∧t-1<D then T.wf f x (t-1)+T.inF (T.gf f) x (t-1)else 0)=(if t=0∧a=x then b else 0)-(if D=t∧c=x then b else 0):=fun t x ht hx=>by
  rw [←Wo ok hx,hf.val _ (node_lt ht hx)]
  show (if a=t*T.h+x then b else 0)-(if D*T.h+c=t*T.h+x then b else 0)=_
  have n2:=De (t:=t) (t':=D) hx hc
  simp only[src_eq ha hx,n2]
 have key:∀t x,t<D→x<T.h→T.wf f x t+T.outF (T.gf f) x t=T.stk a b (T.gf f) t x:=by
  intro t x ht hx
  induction t with
  | zero =>
   have := val 0 x (by omega) hx
   rw [if_pos ht,if_neg (fun g=>absurd g.1 (by omega)),if_neg (show ¬(D=0∧c=x) from fun g=>by omega)]at this
   simp only[true_and]at this
   rw [stk];omega
  | succ t ih =>
   have ih:=ih (by omega)
   have := val (t+1) x (by omega) hx
   rw [if_pos ht,if_pos ⟨by omega,by omega⟩,if_neg (fun g=>by omega),if_neg (fun g=>by omega),Nat.add_sub_cancel]at this
   rw [stk];omega
 have := key t x ht hx
 omega
end TN
theorem qH {hn:Int} {ls:List Lnk} {us:List Snd} {d:Dem} {bytes:Int} (hf:Bz hn ls us=0) (hd:Dd hn d=true) (hb:0≤bytes) (e:d.1≠d.2.1):∃φ,((Au hn ls us d).G (An d) d.1.toNat d.2.1.toNat).Pot (flA (Bw hn ls us d bytes).1) φ:=by
 obtain ⟨⟨a0,a1⟩,⟨c0,c1⟩,hr⟩:=B9 hd
 have ok:=Dq (r:=d.2.2.2.1) (D:=An d) hf
 have ha:d.1.toNat<(Au hn ls us d).h:=by show d.1.toNat<hn.toNat;omega
 have hc:d.2.1.toNat<(Au hn ls us d).h:=by show d.2.1.toNat<hn.toNat;omega
 have hpo:=TN.p_ok ok
 have hP:Bw hn ls us d bytes=C8 (gA (Au hn ls us d).p (AW hn ls d)) (gO (Au hn ls us d).p (AO hn d) (AW hn ls d)) (List.replicate (AO hn d) 0) (AO hn d) d.1.toNat (An d*hn.toNat+d.2.1.toNat) bytes:=by unfold Bw;rw[if_neg e]
 have hs:d.1.toNat<AO hn d:=by
  have := TN.node_lt (T:=Au hn ls us d) (D:=An d) (t:=0) (by omega) ha
  rw [Nat.zero_mul,Nat.zero_add]at this
  exact this
 have ht:An d*hn.toNat+d.2.1.toNat<AO hn d:=TN.node_lt (T:=Au hn ls us d) (Nat.le_refl _) hc
 have hst:d.1.toNat≠An d*hn.toNat+d.2.1.toNat:=fun g=>by
  have :=(TN.src_eq (T:=Au hn ls us d) (t:=An d) ha hc).1 g
  omega
 obtain ⟨g1,g2,g3⟩:=Wn (p:=(Au hn ls us d).p) (n:=AW hn ls d) (N:=AO hn d) hpo hs ht hst hb
 rw [←hP]at g2
 exact g2
def soM (hn:Int) (ls:List Lnk) (us l:List Snd) (d:Dem) (t x:Nat):Int:=(Au hn ls us d).stk d.1.toNat d.2.2.1 (gS l d.2.2.2.1) t x-(Au hn ls us d).outF (gS l d.2.2.2.1) x t
structure PrvH (hn:Int) (ls:List Lnk) (us l:List Snd) (d:Dem) (lam:Nat→Nat→Int):Prop where
 plan : (Au hn ls us d).Plan (An d) d.1.toNat d.2.1.toNat d.2.2.1 (gS l d.2.2.2.1)
 ok : (Au hn ls us d).Lam (An d) (gS l d.2.2.2.1) (soM hn ls us l d) lam
 nn : ∀t x,0≤lam t x
 l0 : lam 0 d.1.toNat=0
 le : ∀t x,t≤An d→x<hn.toNat→lam t x≤1000000*((AO hn d:Nat):Int)
theorem K2 {hn:Int} {ls:List Lnk} {us:List Snd} {d:Dem} (h:D3 hn ls us d=0) (hb4:d.2.2.1≤4194304):∃lam,PrvH hn ls us (Df hn ls us d) d lam:=by
 obtain ⟨hck,e2,ho⟩:=F6 h
 obtain ⟨hf,hd,hD,hdu⟩:=CC hck
 obtain ⟨⟨a0,a1⟩,⟨c0,c1⟩,hr⟩:=B9 hd
 have hr0:=hr.1
 have hr1:=hr.2.1
 have ok:=Dq (hn:=hn) (ls:=ls) (us:=us) (r:=d.2.2.2.1) (D:=An d) hf
 have ha:d.1.toNat<(Au hn ls us d).h:=by show d.1.toNat<hn.toNat;omega
 have hc:d.2.1.toNat<(Au hn ls us d).h:=by show d.2.1.toNat<hn.toNat;omega
 have P:=Fh (bytes:=d.2.2.1) hf hd (by omega)
 have p:=P.plan
 rw [e2]at p
 have hg:∀k t,k<(Au hn ls us d).L→t<An d→HF hn ls us d d.2.2.1 k t=gS (Df hn ls us d) d.2.2.2.1 k t:=fun k t hk ht=>(ho.sent k t hk ht).symm
 have p2:=p.congr hg
 by_cases e:d.1=d.2.1
 ·have hz:∀k t,k<(Au hn ls us d).L→t<An d→HF hn ls us d d.2.2.1 k t=0:=fun k t hk ht=>by
   have hP:Bw hn ls us d d.2.2.1=(gA (Au hn ls us d).p (AW hn ls d),d.2.2.1):=by unfold Bw;rw[if_pos e]
   unfold HF
   rw [hP]
   exact J4 (TN.pair_lt ht (by show _<(Au hn ls us d).h+(Au hn ls us d).L;omega))
  refine ⟨fun _ _=>0,p2,⟨fun k hk=>(ok.e k hk).1,fun k hk=>(ok.e k hk).2,fun t k ht hk _=>?_,fun t k ht hk g=>?_,fun _ _ _ _=>Int.le_refl _,fun _ _ _ _ _=>Int.le_refl _⟩,fun _ _=>Int.le_refl _,rfl,fun _ _ _ _=>by omega⟩
  ·have : 0≤(Au hn ls us d).pr k t:=(ok.pr k t hk ht).1
   omega
  ·rw [←hg k t hk ht,hz k t hk ht]at g
   omega
 ·have hfl:=P.flow e
  rw [e2]at hfl
  have hgf:(Au hn ls us d).gf (flA (Bw hn ls us d d.2.2.1).1)=HF hn ls us d d.2.2.1:=rfl
  obtain ⟨lam,l1,l2,l3,l4⟩:=TN.lam_ex (T:=Au hn ls us d) (D:=An d) (a:=d.1.toNat) (c:=d.2.1.toNat) (b:=d.2.2.1) (g:=gS (Df hn ls us d) d.2.2.2.1) ok ha p2 (f:=flA (Bw hn ls us d d.2.2.1).1)
   (fun t x ht hx=>by
    rw [TN.wf_stk ok ha hc hfl ht hx,hgf]
    have e1:(Au hn ls us d).stk d.1.toNat d.2.2.1 (HF hn ls us d d.2.2.1) t x=(Au hn ls us d).stk d.1.toNat d.2.2.1 (gS (Df hn ls us d) d.2.2.2.1) t x:=TN.stk_congr fun k t' hk ht'=>hg k t' hk (by omega)
    have e2:(Au hn ls us d).outF (HF hn ls us d d.2.2.1) x t=(Au hn ls us d).outF (gS (Df hn ls us d) d.2.2.2.1) x t:=TN.outF_congr fun k hk=>hg k t hk ht
    rw [e1,e2])
   (fun t k ht hk=>by rw[hgf];exact hg k t hk ht)
   (by omega)
   (qH hf hd (by omega) e)
  exact ⟨lam,p2,l1,l2,l3,l4⟩
end Sim
