/- What functions of this seat compute, by values: contracts (lemmas of the statement's proof, under the conditions that each names). -/
import Derived.Test.YtppljhpecoeakaaQXG
set_option maxRecDepth 10000
set_option maxHeartbeats 4000000
set_option linter.unusedVariables false
set_option linter.unusedSimpArgs false
namespace Sim
open Go Go.Proofs
attribute [local congr] An Ao Al AC Aq Ap Av
abbrev tkA (ts:List Int) (x:Int):Int:=ts.getD x.toNat 0
def yC (hn:Int) (d:Dem) (ts:List Int):Prop:=(ts.length:Int)=hn∧tkA ts d.1≤d.2.2.2.1∧d.2.2.2.2<tkA ts d.2.1
instance {hn:Int} {d:Dem} {ts:List Int}:Decidable (yC hn d ts):=inferInstanceAs (Decidable (_∧_))
def E9 (hn:Int) (ls:List Lnk) (us:List Snd) (d:Dem) (ts:List Int):Int:=if CN hn ls us d≠0 then CN hn ls us d else if ¬yC hn d ts then 1 else 0
def brI (ls:List Lnk) (us:List Snd) (d:Dem) (ts:List Int) (t k:Nat):Int :=
 if tkA ts (ls.getD k dL).1≤d.2.2.2.1+(t:Int)∧d.2.2.2.1+((t+1:Nat):Int)<tkA ts (ls.getD k dL).2.1 then lfM ls us (k:Nat) (d.2.2.2.1+(t:Int))else 0
def Ip (ls:List Lnk) (us:List Snd) (d:Dem) (ts:List Int) (n:Nat):Int:=Ai (fun i=>brI ls us d ts (i / ls.length) (i % ls.length)) n
def Fg (hn:Int) (ls:List Lnk) (us:List Snd) (d:Dem) (ts:List Int):Int:=if E9 hn ls us d ts≠0 then 0 else Ip ls us d ts (Ar d*ls.length)
theorem Wf {hn:Int} {ls:List Lnk} {us:List Snd} (hf:BA hn ls us=0) {k:Nat} {t:Int} (hk:k<ls.length):0≤lfM ls us (k:Nat) t∧lfM ls us (k:Nat) t≤1073741824:=by
 obtain ⟨ok,_⟩:=Cm hf
 have q1:=FW hf (k:=(k:Int)) (t:=t) ⟨by omega,by omega⟩
 have q2:=Fr ok.net (link:=(k:Int)) (tick:=t) (by omega) (by omega)
 unfold lfM
 omega
theorem yD {hn:Int} {ls:List Lnk} {us:List Snd} {d:Dem} {ts:List Int} (hf:BA hn ls us=0) {t k:Nat} (hk:k<ls.length):0≤brI ls us d ts t k∧brI ls us d ts t k≤1073741824:=by
 have := Wf hf (t:=d.2.2.2.1+(t:Int)) hk
 unfold brI
 split <;> omega
theorem TH {hn:Int} {ls:List Lnk} {us:List Snd} {d:Dem} {ts:List Int} (hf:BA hn ls us=0) (hD:Ar d≤32) {n:Nat} (hn':n≤Ar d*ls.length):0≤Ip ls us d ts n∧Ip ls us d ts n≤2061584302080:=by
 obtain ⟨ok,_⟩:=Cm hf
 have hl:=ok.net.len
 have h1:=HI (f:=fun i=>brI ls us d ts (i / ls.length) (i % ls.length)) (B:=1073741824) (n:=n) fun i hi=>by
  obtain ⟨h1,h2⟩:=TN.idx_lt (i:=i) (Nat.lt_of_lt_of_le hi hn')
  exact yD hf h2
 have hn2:n≤1920:=Nat.le_trans hn' (Nat.le_trans (Nat.mul_le_mul hD hl) (by decide))
 unfold Ip
 omega
theorem bM {ls:List Lnk} {us:List Snd} {d:Dem} {ts:List Int} {n:Nat}:Ip ls us d ts (n+1)=Ip ls us d ts n+brI ls us d ts (n / ls.length) (n % ls.length):=by
 unfold Ip
 rw [Ai]
noncomputable def Nf:(Int)×(List Lnk)×(List Snd)×(Dem)×(List Int)→List PV:=fun (hn,ls,us,d,ts) => [.agg [I hn,Az ls,AB us,I d.1,I d.2.1,I d.2.2.1,I d.2.2.2.1,I d.2.2.2.2],ints ts]
noncomputable def oU:(Int)×(List Lnk)×(List Snd)×(Dem)×(List Int)→PV:=fun (hn,ls,us,d,ts)=>.tuple [I (Fg hn ls us d ts),I (E9 hn ls us d ts)]
def oV:(Int)×(List Lnk)×(List Snd)×(Dem)×(List Int)→Prop:=fun (hn,ls,us,d,ts)=>True
noncomputable def e_pbar:Nat×Ent:=(19,.v (Ah Nf oU oV))
theorem Aee:∀i j,Nf i=Nf j→i=j:=by
 rintro ⟨hn₁,ls₁,us₁,d₁,ts₁⟩ ⟨hn₂,ls₂,us₂,d₂,ts₂⟩ h
 simp only[Nf,List.cons.injEq,and_true,PV.lits.injEq,PV.int.injEq,PV.agg.injEq,true_and,DQ,AU,AG]at h
 simp [Prod.ext_iff,h] <;> omega
theorem KU (hn:Int) (ls:List Lnk) (us:List Snd) (d:Dem) (ts:List Int):Ah Nf oU oV [.agg [I hn,Az ls,AB us,I d.1,I d.2.1,I d.2.2.1,I d.2.2.2.1,I d.2.2.2.2],ints ts]=some (.tuple [I (Fg hn ls us d ts),I (E9 hn ls us d ts)]):=Ay Aee (i:=(hn,ls,us,d,ts)) trivial
def oW:Prop:=∀(hn:Int) (ls:List Lnk) (us:List Snd) (d:Dem) (ts:List Int) ,VC Try.prog 19 [.agg [I hn,Az ls,AB us,I d.1,I d.2.1,I d.2.2.1,I d.2.2.2.1,I d.2.2.2.2],ints ts] (.tuple [I (Fg hn ls us d ts),I (E9 hn ls us d ts)])
def oX:Prop:=AN Try.prog e_pbar.1 e_pbar.2
theorem Aef (c:oW):oX:=At fun⟨hn,ls,us,d,ts⟩ h=>c hn ls us d ts
theorem Aeg:oW:=by
 intro hn ls us d ts
 refine Vv AR (l := [e_pcheck,e_runs]) ((Ae HG (Ae QL As))) [] [] 0 1 Try.func19 rfl (by decide +kernel) (N:=75) rfl (by simp) rfl (by kernel_rfl) fun hs=>?_
 simp only[AI,PV.small,List.length_map,and_true,true_and]at hs
 generalize hR1:Fg hn ls us d ts=R1
 generalize hR2:E9 hn ls us d ts=R2
 unfold Fg at hR1
 rw [hR2]at hR1
 unfold E9 at hR2
 by_cases h1:CN hn ls us d=0
 case neg =>
  rw [if_pos h1]at hR2
  have e1:R1=0:=by rw[←hR1,if_pos (by rw[←hR2];exact h1)]
  have h2:¬R2=0:=by rw[←hR2];exact h1
  simp +contextual (maxSteps:=4000000) only[↓bdD,bdP,Nat.reduceLT,Nat.reduceBEq,Ag,Nat.reduceAdd,↓reduceIte,e_pcheck,BJ,e_runs,Ac,Ab,Try.f19,Bl,h2,hR2,e1]
 rw [if_neg (fun g=>g h1)]at hR2
 obtain ⟨hfk,hb4⟩:=pck_zero.1 h1
 obtain ⟨hf,hdm,hD,hdu⟩:=Dg hfk
 obtain ⟨⟨a0,a1⟩,⟨c0,c1⟩,hr⟩:=Cw hdm
 obtain ⟨ok,_⟩:=Cm hf
 have hlen:=ok.net.len
 obtain ⟨r0,r1,r2,r3,r4⟩:=hr
 by_cases hA1:(ts.length:Int)=hn
 case neg =>
  rw [if_pos (fun g=>hA1 g.1)]at hR2
  subst hR2
  have e1:R1=0:=by rw[←hR1,if_pos (by decide)]
  simp +contextual (maxSteps:=4000000) only[↓bdD,bdP,Nat.reduceLT,Nat.reduceBEq,Ag,Nat.reduceAdd,↓reduceIte,e_pcheck,BJ,e_runs,Ac,Ab,Try.f19,ty3,Au,Bl,AX,h1,hA1,e1]
 have hai:d.1<(ts.length:Int):=by omega
 have hci:d.2.1<(ts.length:Int):=by omega
 have han:d.1.toNat<ts.length:=by omega
 have hcn:d.2.1.toNat<ts.length:=by omega
 have hpA:ts.getD d.1.toNat 0=tkA ts d.1:=rfl
 have hpC:ts.getD d.2.1.toNat 0=tkA ts d.2.1:=rfl
 by_cases hA2:d.2.2.2.1<tkA ts d.1
 ·rw [if_pos (fun g=>by have:=g.2.1;omega)]at hR2
  subst hR2
  have e1:R1=0:=by rw[←hR1,if_pos (by decide)]
  simp +contextual (maxSteps:=4000000) only[↓bdD,bdP,Nat.reduceLT,Nat.reduceBEq,Ag,Nat.reduceAdd,↓reduceIte,e_pcheck,BJ,e_runs,Ac,Ab,Try.f19,ty3,Au,AP,Bl,AX,h1,hA1,han,a0,a1,hpA,hA2,e1]
 by_cases hA3:tkA ts d.2.1≤d.2.2.2.2
 ·rw [if_pos (fun g=>by have:=g.2.2;omega)]at hR2
  subst hR2
  have e1:R1=0:=by rw[←hR1,if_pos (by decide)]
  simp +contextual (maxSteps:=4000000) only[↓bdD,bdP,Nat.reduceLT,Nat.reduceBEq,Ag,Nat.reduceAdd,↓reduceIte,e_pcheck,BJ,e_runs,Ac,Ab,Try.f19,ty3,Au,AP,Bl,AX,h1,hA1,han,hcn,a0,a1,c0,c1,hpA,hpC,hA2,hA3,e1]
 have hP:yC hn d ts:=⟨hA1,by omega,by omega⟩
 rw [if_neg (fun g=>g hP)]at hR2
 subst hR2
 rw [if_neg (fun g=>g rfl)]at hR1
 have hz:(0:Int)=Ip ls us d ts 0:=rfl
 obtain ⟨O4,hO4⟩:∃O4:Nat→Option IObj,Aa (fun i=>if i<0 then some (IObj.arr 0 1 [])else none) 0 (some (.arr 0 1 [I 0]))=O4:=⟨_,rfl⟩
 have hw4:WF ⟨O4,1⟩:=fun i o hi=>by
  dsimp only at hi ⊢
  rw [←hO4]at hi
  simp only[Aa]at hi
  split at hi
  ·omega
  ·simp at hi
 have o40:O4 0=some (.arr 0 1 [I 0]):=by rw[←hO4];simp[Aa]
 have o41:Aa O4 0 (some (.arr 0 1 [I 0]))=O4:=Ib o40
 have sp:=M1 ⟨hn,ls,us,d⟩ (st:=⟨O4,1⟩) hf
 simp only[CM]at sp
 simp +contextual (maxSteps:=4000000) only[↓bdD,bdP,Nat.reduceLT,Nat.reduceBEq,Nat.reduceEqDiff,Nat.reduceAdd,Nat.reduceLeDiff,Store.new,Store.set,↓reduceIte,e_pcheck,BJ,e_runs,Ac,Ab,Try.f19,ty3,Au,AP,Bl,AX,h1,hA1,han,hcn,a0,a1,c0,c1,hpA,hpC,hA2,hA3,hO4,o40,o41,sp]
 have b1:rnO O4 1 us 0=some (.arr 0 1 [I (Ip ls us d ts 0)]):=by simp[rnO,←hO4,Aa,Ip,Ai]
 have b2:rnO O4 1 us 1=some (.map 0 (.ints 2) (us.map tkE)):=by simp[rnO]
 have b3:rnO O4 1 us 2=some (.arr 0 1 [.mref 1 0]):=by simp[rnO]
 generalize rnO O4 1 us=O5 at *
 have hyr:=QM (hn:=hn) (M:=1) (D:=Ar d) hf hdu r2 r4
 refine ET (ys:=Ja ls us d.2.2.2.1 (Ar d)) (f:=53) (first := []) (captured := [frP hn ls us d,.ptr 2 0 0 0]) rfl rfl (AY rfl) ?_ hyr rfl ?_ (by kernel_rfl) (by kernel_rfl)
  (fun i st'=>(st'.obj 0=some (.arr 0 1 [I (Ip ls us d ts i)])∧0<st'.next)∧(st'.obj 1=some (.map 0 (.ints 2) (us.map tkE))∧1<st'.next)∧(st'.obj 2=some (.arr 0 1 [.mref 1 0])∧2<st'.next)) (fun e st'=>False) ?_ ?_ ?_ ?_ ?_ ?_ ?_ ?_
 ·simp +contextual (maxSteps:=4000000) only[↓bdD,bdP]
 ·exact J9
 ·exact fun i=>.and (.obj fun _=>by simp) (.and (.obj fun _=>by simp) (.obj fun _=>by simp))
 ·exact fun e=>Stays.const
 ·exact ⟨⟨b1,by simp⟩,⟨b2,by simp⟩,⟨b3,by simp⟩⟩
 ·exact fun i st' h=>⟨h.2.1.1,h.2.2.1⟩
 ·rintro i v ⟨O6,M6⟩ id lr hv hid hlp ⟨⟨g1,_⟩,⟨g2,_⟩,⟨g3,hM6⟩⟩
  obtain ⟨hi,rfl⟩:=LG hv
  dsimp only at hid hlp g1 g2 g3 hM6
  obtain ⟨htD,hkL⟩:=TN.idx_lt (i:=i) hi
  have hsc:=bM (ls:=ls) (us:=us) (d:=d) (ts:=ts) (n:=i)
  have hb2:=TH (ts:=ts) hf hD (n:=i) (Nat.le_of_lt hi)
  have hb3:=TH (ts:=ts) hf hD (n:=i+1) hi
  generalize i / ls.length=t at *
  generalize i % ls.length=k at *
  have hend:=ok.net.ends k hkL
  have w6:IntKind.i64.wrap (d.2.2.2.1+(t:Int)+1)=d.2.2.2.1+((t+1:Nat):Int):=by rw[Aj (by omega) (by omega)];omega
  have hk1:=QN (ls:=ls) (us:=us) (r:=d.2.2.2.1) (k:=k) (t:=t)
  have hk2:=QO (ls:=ls) (us:=us) (r:=d.2.2.2.1) (k:=k) (t:=t)
  have hk3:=QP (ls:=ls) (us:=us) (r:=d.2.2.2.1) (k:=k) (t:=t)
  have hk4:=LF (ls:=ls) (us:=us) (r:=d.2.2.2.1) (k:=k) (t:=t)
  unfold brI at hsc
  generalize ls.getD k dL=lk at *
  generalize lfM ls us (k:Nat) (d.2.2.2.1+(t:Int))=lf at *
  have hto:lk.2.1<(ts.length:Int):=by omega
  have hfr:lk.1<(ts.length:Int):=by omega
  have hto':lk.2.1<hn:=by omega
  have hfr':lk.1<hn:=by omega
  have hto0:0≤lk.2.1:=by omega
  have hfr0:0≤lk.1:=by omega
  have hton:lk.2.1.toNat<ts.length:=by omega
  have hfrn:lk.1.toNat<ts.length:=by omega
  have hpF:ts.getD lk.1.toNat 0=tkA ts lk.1:=rfl
  have hpT:ts.getD lk.2.1.toNat 0=tkA ts lk.2.1:=rfl
  have n1:¬id=0:=fun e=>by rw[e,g1]at hlp;cases hlp
  have n2:¬id=1:=fun e=>by rw[e,g2]at hlp;cases hlp
  have n3:¬id=2:=fun e=>by rw[e,g3]at hlp;cases hlp
  have m1:¬0=id:=fun e=>n1 e.symm
  have m2:¬1=id:=fun e=>n2 e.symm
  have m3:¬2=id:=fun e=>n3 e.symm
  have o1:¬M6=id:=by omega
  have o2:¬id=M6:=by omega
  have o4:¬0=M6:=by omega
  have o5:¬1=M6:=by omega
  have o6:¬2=M6:=by omega
  have o8:¬M6=0:=by omega
  by_cases x1:tkA ts lk.1≤d.2.2.2.1+(t:Int)
  ·by_cases x2:d.2.2.2.1+((t+1:Nat):Int)<tkA ts lk.2.1
   ·rw [if_pos ⟨x1,x2⟩]at hsc
    have w7:IntKind.i64.wrap (Ip ls us d ts i+lf)=Ip ls us d ts (i+1):=by rw[hsc,Aj (by omega) (by omega)]
    simp +contextual (maxSteps:=4000000) only[↓bdD,bdP,Nat.reduceLT,Nat.reduceBEq,Nat.reduceAdd,Nat.reduceLeDiff,Store.new,Store.set,↓reduceIte,ty3,AX,Ck,Gp,GN,hlp,g1,n1,m1,o1,o2,o4,o8,ES,Cj,w6,w7,hk1,hk2,hk3,hk4,B6,hA1,hto',hfr',hto0,hfr0,hton,hfrn,hpF,hpT,x1,x2,A4]
    intro rb
    refine ⟨by omega,by omega,⟨?_,by omega⟩,?_,by omega⟩ <;> simp only[Aa]
    ·rw [if_neg m2,if_neg o5,g2]
    ·rw [if_neg m3,if_neg o6,g3]
   ·rw [if_neg (fun g=>x2 g.2),Int.add_zero]at hsc
    simp +contextual (maxSteps:=4000000) only[↓bdD,bdP,Nat.reduceLT,Nat.reduceBEq,Nat.reduceAdd,Nat.reduceLeDiff,Store.new,Store.set,↓reduceIte,ty3,AX,Ck,Gp,GN,hlp,g1,m1,o1,o2,o4,o8,ES,Cj,w6,hk1,hk2,hk3,B6,hA1,hto',hfr',hto0,hfr0,hton,hfrn,hpF,hpT,x1,x2,hsc,A4]
    intro rb
    refine ⟨by omega,by omega,⟨?_,by omega⟩,?_,by omega⟩ <;> simp only[Aa]
    ·rw [if_neg m2,if_neg o5,g2]
    ·rw [if_neg m3,if_neg o6,g3]
  ·rw [if_neg (fun g=>x1 g.1),Int.add_zero]at hsc
   simp +contextual (maxSteps:=4000000) only[↓bdD,bdP,Nat.reduceLT,Nat.reduceBEq,Nat.reduceAdd,Nat.reduceLeDiff,Store.new,Store.set,↓reduceIte,ty3,AX,Ck,Gp,GN,hlp,g1,m1,o1,o2,o4,o8,ES,Cj,hk1,hk2,B6,hA1,hfr',hfr0,hfrn,hpF,x1,hsc,A4]
   intro rb
   refine ⟨by omega,by omega,⟨?_,by omega⟩,?_,by omega⟩ <;> simp only[Aa]
   ·rw [if_neg m2,if_neg o5,g2]
   ·rw [if_neg m3,if_neg o6,g3]
 ·rintro ⟨O6,M6⟩ ⟨⟨g1,_⟩,_⟩
  dsimp only at g1
  rw [J8,hR1]at g1
  simp +contextual (maxSteps:=4000000) only[↓bdD,bdP,Nat.reduceLT,Nat.reduceBEq,Ag,Nat.reduceAdd,↓reduceIte,ty3,g1]
 ·exact fun j st' h=>h.elim
 ·exact fun st' h=>h.elim
theorem Wg:oX:=Aef Aeg
noncomputable def HK:(Int)×(List Lnk)×(List Snd)×(Dem)×(List Int)→List PV:=fun (hn,ls,us,d,ts) => [.agg [I hn,Az ls,AB us,I d.1,I d.2.1,I d.2.2.1,I d.2.2.2.1,I d.2.2.2.2],ints ts]
noncomputable def TI:(Int)×(List Lnk)×(List Snd)×(Dem)×(List Int)→PV:=fun (hn,ls,us,d,ts)=>B (decide (E9 hn ls us d ts=0∧Fg hn ls us d ts<d.2.2.1))
def TJ:(Int)×(List Lnk)×(List Snd)×(Dem)×(List Int)→Prop:=fun (hn,ls,us,d,ts)=>True
noncomputable def e_pstops:Nat×Ent:=(21,.v (Ah HK TI TJ))
theorem oY:∀i j,HK i=HK j→i=j:=by
 rintro ⟨hn₁,ls₁,us₁,d₁,ts₁⟩ ⟨hn₂,ls₂,us₂,d₂,ts₂⟩ h
 simp only[HK,List.cons.injEq,and_true,PV.lits.injEq,PV.int.injEq,PV.agg.injEq,true_and,DQ,AU,AG]at h
 simp [Prod.ext_iff,h] <;> omega
theorem HL (hn:Int) (ls:List Lnk) (us:List Snd) (d:Dem) (ts:List Int):Ah HK TI TJ [.agg [I hn,Az ls,AB us,I d.1,I d.2.1,I d.2.2.1,I d.2.2.2.1,I d.2.2.2.2],ints ts]=some (B (decide (E9 hn ls us d ts=0∧Fg hn ls us d ts<d.2.2.1))):=Ay oY (i:=(hn,ls,us,d,ts)) trivial
def TK:Prop:=∀(hn:Int) (ls:List Lnk) (us:List Snd) (d:Dem) (ts:List Int) ,VC Try.prog 21 [.agg [I hn,Az ls,AB us,I d.1,I d.2.1,I d.2.2.1,I d.2.2.2.1,I d.2.2.2.2],ints ts] (B (decide (E9 hn ls us d ts=0∧Fg hn ls us d ts<d.2.2.1)))
def TL:Prop:=AN Try.prog e_pstops.1 e_pstops.2
theorem oZ (c:TK):TL:=At fun⟨hn,ls,us,d,ts⟩ h=>c hn ls us d ts
theorem pA:TK:=by
 intro hn ls us d ts
 refine A5 AR (l := [e_pbar]) ((Ae Wg As)) [] []  Try.func21 rfl (by decide +kernel) (N:=22) rfl (by simp) rfl (by kernel_rfl) fun hs=>?_
 simp only[AI,PV.small,List.length_map,and_true,true_and]at hs
 have sp:=KU (hn:=hn) (ls:=ls) (us:=us) (d:=d) (ts:=ts)
 dsimp only[Az,AB,ints]at sp
 generalize E9 hn ls us d ts=e at *
 generalize Fg hn ls us d ts=x at *
 by_cases h:e=0
 ·by_cases c:x<d.2.2.1
  ·rw [decide_eq_true ⟨h,c⟩]
   simp +contextual (maxSteps:=4000000) only[↓bdD,bdP,Nat.reduceLT,Nat.reduceBEq,Ag,Nat.reduceAdd,st0,↓reduceIte,e_pbar,Ac,Ab,Try.f21,ty3,AP,Bl,AX,sp,h,c]
  ·rw [decide_eq_false (fun g=>c g.2)]
   simp +contextual (maxSteps:=4000000) only[↓bdD,bdP,Nat.reduceLT,Nat.reduceBEq,Ag,Nat.reduceAdd,st0,↓reduceIte,e_pbar,Ac,Ab,Try.f21,ty3,AP,Bl,AX,sp,h,c]
 ·rw [decide_eq_false (fun g=>h g.1)]
  simp +contextual (maxSteps:=4000000) only[↓bdD,bdP,Nat.reduceLT,Nat.reduceBEq,Ag,Nat.reduceAdd,st0,↓reduceIte,e_pbar,Ac,Ab,Try.f21,Bl,AX,sp,h]
theorem TM:TL:=oZ pA
end Sim
namespace Sim
open Go Go.Proofs
attribute [local congr] An Ao Al AC Aq Ap Av
theorem bN:∀n:Nat,n<1001→Cq .and .u64 (n:Int) 4294967295=some (n:Int):=by decide +kernel
theorem bP:∀n:Nat,n<1001→(n:Int).fdiv 4294967296=0:=by decide +kernel
theorem Ag7 {n:Nat} (h:n<1001):IntKind.u64.wrap (n:Int)=n:=by rw[IntKind.wrap_u64];omega
noncomputable def Kb:Nat→List PV:=fun n => [.int .u64 1,.int .u64 n]
noncomputable def XB:Nat→PV:=fun n=>.tuple [.int .u64 0,.int .u64 n]
def XC:Nat→Prop:=fun n=>n<1001
noncomputable def e_mul64:Nat×Ent:=(74,.v (Ah Kb XB XC))
theorem yE:∀i j,Kb i=Kb j→i=j:=by
 rintro n₁ n₂ h
 simp only[Kb,List.cons.injEq,and_true,PV.int.injEq,true_and]at h
 first | exact h | omega | (simp[Prod.ext_iff,h];done)
theorem yF (n:Nat):Ah Kb XB XC [.int .u64 1,.int .u64 n]=@ite (Option (PV)) (n<1001) (Classical.propDecidable _) (some (.tuple [.int .u64 0,.int .u64 n])) none:=B9 yE n
def XD:Prop:=∀(n:Nat) (h:n<1001) ,VC Try.prog 74 [.int .u64 1,.int .u64 n] (.tuple [.int .u64 0,.int .u64 n])
def XE:Prop:=AN Try.prog e_mul64.1 e_mul64.2
theorem yG (c:XD):XE:=At fun n h=>c n h
theorem yH:XD:=by
 intro n hn
 refine A5 AR (l := []) (As) [] []  Try.func74 rfl (by decide +kernel) (N:=51) rfl (by simp) rfl (by kernel_rfl) fun hs=>?_
 simp only[AI,PV.small,and_true]at hs
 have a1:Cq .and .u64 1 4294967295=some 1:=by decide +kernel
 have a0:Cq .and .u64 0 4294967295=some 0:=by decide +kernel
 have an:=bN n hn
 have s1:(1:Int).fdiv 4294967296=0:=by decide +kernel
 have s0:(0:Int).fdiv 4294967296=0:=by decide +kernel
 have sn:=bP n hn
 have wn:=Ag7 hn
 have w0:IntKind.u64.wrap 0=0:=by decide +kernel
 simp +contextual (maxSteps:=4000000) only[↓bdD,bdP,Nat.reduceLT,Nat.reduceBEq,Ag,Nat.reduceLeDiff,Int.reduceLT,Int.reduceToNat,st0,↓reduceIte,Int.reducePow,Try.f74,a1,a0,an,s1,s0,sn,wn,w0,Int.one_mul,Int.zero_mul,Int.add_zero]
theorem yJ:XE:=yG yH
noncomputable def Ng:Nat→List PV:=fun n => [.int .u64 1,.int .u64 n]
noncomputable def pB:Nat→PV:=fun n=>.tuple [.int .u64 0,.int .u64 n]
def pC:Nat→Prop:=fun n=>n<1001
noncomputable def e_mulU:Nat×Ent:=(62,.v (Ah Ng pB pC))
theorem Aeh:∀i j,Ng i=Ng j→i=j:=by
 rintro n₁ n₂ h
 simp only[Ng,List.cons.injEq,and_true,PV.int.injEq,true_and]at h
 first | exact h | omega | (simp[Prod.ext_iff,h];done)
theorem Aei (n:Nat):Ah Ng pB pC [.int .u64 1,.int .u64 n]=@ite (Option (PV)) (n<1001) (Classical.propDecidable _) (some (.tuple [.int .u64 0,.int .u64 n])) none:=B9 Aeh n
def pE:Prop:=∀(n:Nat) (h:n<1001) ,VC Try.prog 62 [.int .u64 1,.int .u64 n] (.tuple [.int .u64 0,.int .u64 n])
def pF:Prop:=AN Try.prog e_mulU.1 e_mulU.2
theorem Aej (c:pE):pF:=At fun n h=>c n h
theorem Aek:pE:=by
 intro n hn
 refine A5 AR (l := [e_mul64]) ((Ae yJ As)) [] []  Try.func62 rfl (by decide +kernel) (N:=30) rfl (by simp) rfl (by kernel_rfl) fun hs=>?_
 simp only[AI,PV.small,and_true]at hs
 simp +contextual (maxSteps:=4000000) only[↓bdD,bdP,Nat.reduceLT,Nat.reduceBEq,Ag,Nat.reduceAdd,st0,↓reduceIte,e_mul64,yF,Try.f62,Af9,hn]
theorem Ael:pF:=Aej Aek
def Jc (n j:Nat) (v:Int):List PV:=List.replicate j (I v)++List.replicate (n-j) (I 0)
theorem pG {n j:Nat} {v:Int} (h:j≤n):(Jc n j v).length=n:=by unfold Jc;rw[List.length_append,List.length_replicate,List.length_replicate];omega
theorem KV {n j:Nat} {v:Int}:List.take j (Jc n j v)=List.replicate j (I v):=by unfold Jc;exact List.take_left' (List.length_replicate ..)
theorem bQ {n j q:Nat} {v:Int} (h:j+q≤n) (hq:q≤j):List.take j (Jc n j v)++List.take q (List.replicate j (I v))++List.drop (j+q) (Jc n j v)=Jc n (j+q) v:=by
 have e:List.drop (j+q) (Jc n j v)=List.replicate (n-(j+q)) (I 0):=by
  unfold Jc
  rw [List.drop_append,List.length_replicate,List.drop_of_length_le (by rw[List.length_replicate];omega),List.nil_append,show j+q-j=q by omega,List.drop_replicate,show n-j-q=n-(j+q) by omega]
 rw [KV,e,List.take_replicate,show min q j=q by omega]
 unfold Jc
 rw [List.replicate_append_replicate]
noncomputable def HM:(Int)×(Nat)→List PV:=fun (v,n) => [ints [v],I n]
noncomputable def Nh:(Int)×(Nat)→List PV:=fun (v,n)=>List.replicate n (I v)
def Ni:(Int)×(Nat)→Prop:=fun (v,n)=>n<1001
noncomputable def e_rept:Nat×Ent:=(42,.a (1) (Ah HM Nh Ni))
theorem Aem:∀i j,HM i=HM j→i=j:=by
 rintro ⟨v₁,n₁⟩ ⟨v₂,n₂⟩ h
 simp only[HM,List.cons.injEq,and_true,PV.lits.injEq,PV.int.injEq,true_and,DQ]at h
 simp [Prod.ext_iff,h] <;> omega
theorem QR (v:Int) (n:Nat):Ah HM Nh Ni [ints [v],I n]=@ite (Option (List PV)) (n<1001) (Classical.propDecidable _) (some (List.replicate n (I v))) none:=B9 Aem (v,n)
def pH:Prop:=∀(v:Int) (n:Nat) (h:n<1001) ,VCA Try.prog 42 [ints [v],I n] (1) (List.replicate n (I v))
def pI:Prop:=AN Try.prog e_rept.1 e_rept.2
theorem Aen (c:pH):pI:=UJ fun⟨v,n⟩ h=>c v n h
theorem Aeo:pH:=by
 intro v n hn
 refine tX AR (l := [e_mulU]) ((Ae Ael As)) [] [] 0 0 Try.func42 rfl (by decide +kernel) (N:=48) rfl (by simp) rfl (by kernel_rfl) ?_ ?_
 ·intro e he
  rw [List.eq_of_mem_replicate he];rfl
 have hnu:IntKind.u64.wrap (n:Int)=n:=Ag7 hn
 have h1u:IntKind.u64.wrap 1=1:=by decide +kernel
 have hni:IntKind.i64.wrap (n:Int)=n:=by rw[Aj (by omega) (by omega)]
 have g1:¬(n:Int)<0:=by omega
 have g2:¬(9223372036854775807:Int)<n:=by omega
 have g3:(n:Int)≤4294967296:=by omega
 simp +contextual (maxSteps:=4000000) only[↓bdD,bdP,Nat.reduceLT,Nat.reduceBEq,Nat.reduceAdd,Int.reduceLT,Store.new,Store.set,↓reduceIte,e_mulU,Aei,Try.f42,ty3,AX,Af8,hnu,h1u,hni,g1,g2,g3,hn,A4]
 obtain ⟨j0,hj0⟩:∃j,(if 1≤n then 1 else n)=j:=⟨_,rfl⟩
 have hj1:j0≤n∧(0<n→0<j0):=by rw[←hj0];split <;> omega
 have hl0:List.take j0 [I v]++List.drop j0 (List.replicate n (I 0))=Jc n j0 v:=by
  unfold Jc
  rw [List.drop_replicate]
  congr 1
  rw [←hj0]
  split
  ·rfl
  ·rw [show n=0 by omega];rfl
 refine CK [8,34,35,36,37,38,39,40,41,42,43,44,45,46] (n-j0) (fun m ρ st'=>∃j,j≤n∧(0<n→0<j)∧m=n-j∧ρ 8=I (j:Nat)∧st'.obj 0=some (.arr 0 1 (Jc n j v))∧st'.next=1) (.refl _) ?_ ?_
 ·refine ⟨j0,hj1.1,hj1.2,rfl,?_,?_,rfl⟩
  ·simp +contextual (maxSteps:=4000000) only[↓bdD,bdP,hj0]
  ·simp +contextual (maxSteps:=4000000) only[↓bdD,bdP,hj0,hl0]
 rintro m ρ ⟨O,M⟩ ⟨j,h1,h2,rfl,h8,o0,hM⟩
 dsimp only at o0 hM
 subst hM
 have hrl:=pG h1 (v:=v)
 by_cases hjn:j<n
 ·have hji:(j:Int)<n:=by omega
  simp +contextual (maxSteps:=4000000) only[↓bdD,bdP,Nat.reduceLT,Nat.reduceBEq,Nat.reduceAdd,Int.reduceToNat,Store.set,↓reduceIte,AX,h8,o0,hji,hrl,h1,Nat.sub_zero,KV]
  obtain ⟨q,hq⟩:∃q,(if j≤n-j then j else n-j)=q:=⟨_,rfl⟩
  have hq1:j+q≤n∧q≤j∧0<q:=by rw[←hq];split <;> omega
  rw [hq]
  repeat (refine And.intro (by omega) ?_)
  refine ⟨n-(j+q),by omega,j+q,hq1.1,fun _=>by omega,rfl,?_,?_⟩
  ·rw [Aj (by omega) (by omega)];omega
  ·rw [←bQ hq1.1 hq1.2.1,KV]
 ·have e:j=n:=by omega
  subst e
  have e1:Jc j j v=List.replicate j (I v):=by unfold Jc;rw[Nat.sub_self];simp
  rw [e1]at o0
  simp +contextual (maxSteps:=4000000) only[↓bdD,bdP,Nat.reduceLT,Nat.reduceBEq,Ag,Nat.reduceAdd,reduceCtorEq,↓reduceIte,AX,h8,o0]
  exact ⟨0,0,rfl,o0⟩
theorem pJ:pI:=Aen Aeo
end Sim
namespace Sim
open Go Go.Proofs
namespace TN
theorem wf_stk {T:TN} {D:Nat} (ok:T.OK D) {a c:Nat} (ha:a<T.h) (hc:c<T.h) {f:Nat→Int} {b:Int} (hf:(T.G D a c).Flow f b) {t x:Nat} (ht:t<D) (hx:x<T.h):T.wf f x t=T.stk a b (T.gf f) t x-T.outF (T.gf f) x t:=by
 have val:∀t x,t≤D→x<T.h→(if t<D then T.wf f x t+T.outF (T.gf f) x t else 0)-(if 0<t∧t-1<D then T.wf f x (t-1)+T.inF (T.gf f) x (t-1)else 0)=(if t=0∧a=x then b else 0)-(if D=t∧c=x then b else 0):=fun t x ht hx=>by
  rw [←V5 ok hx,hf.val _ (node_lt ht hx)]
  show (if a=t*T.h+x then b else 0)-(if D*T.h+c=t*T.h+x then b else 0)=_
  have n2:=Dd (t:=t) (t':=D) hx hc
  simp only[src_eq ha hx,n2]
 have key:∀t x,t<D→x<T.h→T.wf f x t+T.outF (T.gf f) x t=T.stk a b (T.gf f) t x:=by
  intro t x ht hx
  induction t with
  | zero =>
   have := val 0 x (by omega) hx
   rw [if_pos ht,if_neg (fun g=>absurd g.1 (by omega)),if_neg (show ¬(D=0∧c=x) from fun g=>by omega)]at this
   simp only[true_and]at this
   rw [stk];omega
  | succ t ih =>
   have ih:=ih (by omega)
   have := val (t+1) x (by omega) hx
   rw [if_pos ht,if_pos ⟨by omega,by omega⟩,if_neg (fun g=>by omega),if_neg (fun g=>by omega),Nat.add_sub_cancel]at this
   rw [stk];omega
 have := key t x ht hx
 omega
end TN
theorem pK {hn:Int} {ls:List Lnk} {us:List Snd} {d:Dem} {bytes:Int} (hf:BA hn ls us=0) (hd:Dc hn d=true) (hb:0≤bytes) (e:d.1≠d.2.1):∃φ,((Aw hn ls us d).G (Ar d) d.1.toNat d.2.1.toNat).Pot (flA (Bq hn ls us d bytes).1) φ:=by
 obtain ⟨⟨a0,a1⟩,⟨c0,c1⟩,hr⟩:=Cw hd
 have ok:=Dr (r:=d.2.2.2.1) (D:=Ar d) hf
 have ha:d.1.toNat<(Aw hn ls us d).h:=by show d.1.toNat<hn.toNat;omega
 have hc:d.2.1.toNat<(Aw hn ls us d).h:=by show d.2.1.toNat<hn.toNat;omega
 have hpo:=TN.p_ok ok
 have hP:Bq hn ls us d bytes=CX (gA (Aw hn ls us d).p (AV hn ls d)) (gO (Aw hn ls us d).p (AM hn d) (AV hn ls d)) (List.replicate (AM hn d) 0) (AM hn d) d.1.toNat (Ar d*hn.toNat+d.2.1.toNat) bytes:=by unfold Bq;rw[if_neg e]
 have hs:d.1.toNat<AM hn d:=by
  have := TN.node_lt (T:=Aw hn ls us d) (D:=Ar d) (t:=0) (by omega) ha
  rw [Nat.zero_mul,Nat.zero_add]at this
  exact this
 have ht:Ar d*hn.toNat+d.2.1.toNat<AM hn d:=TN.node_lt (T:=Aw hn ls us d) (Nat.le_refl _) hc
 have hst:d.1.toNat≠Ar d*hn.toNat+d.2.1.toNat:=fun g=>by
  have :=(TN.src_eq (T:=Aw hn ls us d) (t:=Ar d) ha hc).1 g
  omega
 obtain ⟨g1,g2,g3⟩:=V4 (p:=(Aw hn ls us d).p) (n:=AV hn ls d) (N:=AM hn d) hpo hs ht hst hb
 rw [←hP]at g2
 exact g2
def soM (hn:Int) (ls:List Lnk) (us l:List Snd) (d:Dem) (t x:Nat):Int:=(Aw hn ls us d).stk d.1.toNat d.2.2.1 (gS l d.2.2.2.1) t x-(Aw hn ls us d).outF (gS l d.2.2.2.1) x t
structure PrvH (hn:Int) (ls:List Lnk) (us l:List Snd) (d:Dem) (lam:Nat→Nat→Int):Prop where
 plan : (Aw hn ls us d).Plan (Ar d) d.1.toNat d.2.1.toNat d.2.2.1 (gS l d.2.2.2.1)
 ok : (Aw hn ls us d).Lam (Ar d) (gS l d.2.2.2.1) (soM hn ls us l d) lam
 nn : ∀t x,0≤lam t x
 l0 : lam 0 d.1.toNat=0
 le : ∀t x,t≤Ar d→x<hn.toNat→lam t x≤1000000*((AM hn d:Nat):Int)
theorem KW {hn:Int} {ls:List Lnk} {us:List Snd} {d:Dem} (h:Dx hn ls us d=0) (hb4:d.2.2.1≤4194304):∃lam,PrvH hn ls us (C6 hn ls us d) d lam:=by
 obtain ⟨hck,e2,ho⟩:=FY h
 obtain ⟨hf,hd,hD,hdu⟩:=Dg hck
 obtain ⟨⟨a0,a1⟩,⟨c0,c1⟩,hr⟩:=Cw hd
 have hr0:=hr.1
 have hr1:=hr.2.1
 have ok:=Dr (hn:=hn) (ls:=ls) (us:=us) (r:=d.2.2.2.1) (D:=Ar d) hf
 have ha:d.1.toNat<(Aw hn ls us d).h:=by show d.1.toNat<hn.toNat;omega
 have hc:d.2.1.toNat<(Aw hn ls us d).h:=by show d.2.1.toNat<hn.toNat;omega
 have P:=EY (bytes:=d.2.2.1) hf hd (by omega)
 have p:=P.plan
 rw [e2]at p
 have hg:∀k t,k<(Aw hn ls us d).L→t<Ar d→HB hn ls us d d.2.2.1 k t=gS (C6 hn ls us d) d.2.2.2.1 k t:=fun k t hk ht=>(ho.sent k t hk ht).symm
 have p2:=p.congr hg
 by_cases e:d.1=d.2.1
 ·have hz:∀k t,k<(Aw hn ls us d).L→t<Ar d→HB hn ls us d d.2.2.1 k t=0:=fun k t hk ht=>by
   have hP:Bq hn ls us d d.2.2.1=(gA (Aw hn ls us d).p (AV hn ls d),d.2.2.1):=by unfold Bq;rw[if_pos e]
   unfold HB
   rw [hP]
   exact JW (TN.pair_lt ht (by show _<(Aw hn ls us d).h+(Aw hn ls us d).L;omega))
  refine ⟨fun _ _=>0,p2,⟨fun k hk=>(ok.e k hk).1,fun k hk=>(ok.e k hk).2,fun t k ht hk _=>?_,fun t k ht hk g=>?_,fun _ _ _ _=>Int.le_refl _,fun _ _ _ _ _=>Int.le_refl _⟩,fun _ _=>Int.le_refl _,rfl,fun _ _ _ _=>by omega⟩
  ·have : 0≤(Aw hn ls us d).pr k t:=(ok.pr k t hk ht).1
   omega
  ·rw [←hg k t hk ht,hz k t hk ht]at g
   omega
 ·have hfl:=P.flow e
  rw [e2]at hfl
  have hgf:(Aw hn ls us d).gf (flA (Bq hn ls us d d.2.2.1).1)=HB hn ls us d d.2.2.1:=rfl
  obtain ⟨lam,l1,l2,l3,l4⟩:=TN.lam_ex (T:=Aw hn ls us d) (D:=Ar d) (a:=d.1.toNat) (c:=d.2.1.toNat) (b:=d.2.2.1) (g:=gS (C6 hn ls us d) d.2.2.2.1) ok ha p2 (f:=flA (Bq hn ls us d d.2.2.1).1)
   (fun t x ht hx=>by
    rw [TN.wf_stk ok ha hc hfl ht hx,hgf]
    have e1:(Aw hn ls us d).stk d.1.toNat d.2.2.1 (HB hn ls us d d.2.2.1) t x=(Aw hn ls us d).stk d.1.toNat d.2.2.1 (gS (C6 hn ls us d) d.2.2.2.1) t x:=TN.stk_congr fun k t' hk ht'=>hg k t' hk (by omega)
    have e2:(Aw hn ls us d).outF (HB hn ls us d d.2.2.1) x t=(Aw hn ls us d).outF (gS (C6 hn ls us d) d.2.2.2.1) x t:=TN.outF_congr fun k hk=>hg k t hk ht
    rw [e1,e2])
   (fun t k ht hk=>by rw[hgf];exact hg k t hk ht)
   (by omega)
   (pK hf hd (by omega) e)
  exact ⟨lam,p2,l1,l2,l3,l4⟩
end Sim
