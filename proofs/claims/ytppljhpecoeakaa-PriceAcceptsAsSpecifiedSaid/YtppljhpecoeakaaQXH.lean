/- What functions of this seat compute, by values: contracts (lemmas of the statement's proof, under the conditions that each names). -/
import Derived.Test.YtppljhpecoeakaaQXF
set_option maxRecDepth 10000
set_option maxHeartbeats 4000000
set_option linter.unusedVariables false
set_option linter.unusedSimpArgs false
namespace Sim
open Go Go.Proofs
attribute [local congr] As At Am AI Av Au AA
def K3 (hn:Int) (ls:List Lnk) (us:List Snd) (d:Dem) (l:List Snd) (y:List (List Int)):Prop:=ED hn ls us d y=0∧Lz hn ls us l d∧Dq hn ls l≤F8 hn ls us d y
instance {hn:Int} {ls:List Lnk} {us:List Snd} {d:Dem} {l:List Snd} {y:List (List Int)}:Decidable (K3 hn ls us d l y):=inferInstanceAs (Decidable (_∧_))
theorem Yw {hn:Int} {ls:List Lnk} {us:List Snd} {d:Dem} {y:List (List Int)} (h:ED hn ls us d y=0):CF hn ls us d=0∧shE hn d y=0:=by
 unfold ED at h
 split at h
 ·contradiction
 ·rename_i c;exact⟨Classical.not_not.1 c,h⟩
noncomputable def Gc:(Int)×(List Lnk)×(List Snd)×(Dem)×(List Snd)×(List (List Int))→List PV:=fun (hn,ls,us,d,l,y) => [.agg [I hn,Ax ls,Aw us,I d.1,I d.2.1,I d.2.2.1,I d.2.2.2.1,I d.2.2.2.2],Aw l,CN y]
noncomputable def Pt:(Int)×(List Lnk)×(List Snd)×(Dem)×(List Snd)×(List (List Int))→PV:=fun (hn,ls,us,d,l,y)=>B (decide (K3 hn ls us d l y))
def Pv:(Int)×(List Lnk)×(List Snd)×(Dem)×(List Snd)×(List (List Int))→Prop:=fun (hn,ls,us,d,l,y)=>True
noncomputable def e_paccept:Nat×Ent:=(17,.v (Ag Gc Pt Pv))
theorem dT:∀i j,Gc i=Gc j→i=j:=by
 rintro ⟨hn₁,ls₁,us₁,d₁,l₁,y₁⟩ ⟨hn₂,ls₂,us₂,d₂,l₂,y₂⟩ h
 simp only[Gc,List.cons.injEq,and_true,PV.lits.injEq,PV.int.injEq,PV.agg.injEq,true_and,AK,AD,Et]at h
 simp [Prod.ext_iff,h] <;> omega
theorem ET (hn:Int) (ls:List Lnk) (us:List Snd) (d:Dem) (l:List Snd) (y:List (List Int)):Ag Gc Pt Pv [.agg [I hn,Ax ls,Aw us,I d.1,I d.2.1,I d.2.2.1,I d.2.2.2.1,I d.2.2.2.2],Aw l,CN y]=some (B (decide (K3 hn ls us d l y))):=Az dT (i:=(hn,ls,us,d,l,y)) trivial
def Pw:Prop:=∀(hn:Int) (ls:List Lnk) (us:List Snd) (d:Dem) (l:List Snd) (y:List (List Int)) ,VC Try.prog 17 [.agg [I hn,Ax ls,Aw us,I d.1,I d.2.1,I d.2.2.1,I d.2.2.2.1,I d.2.2.2.2],Aw l,CN y] (B (decide (K3 hn ls us d l y)))
def Px:Prop:=AM Try.prog e_paccept.1 e_paccept.2
theorem dU (c:Pw):Px:=Ao fun⟨hn,ls,us,d,l,y⟩ h=>c hn ls us d l y
theorem dV:Pw:=by
 intro hn ls us d l y
 refine AW AO (l := [e_pbound,e_ppos,e_cost]) ((Ad Uf (Ad Agx (Ad Aeu An)))) [] []  Try.func17 rfl (by decide +kernel) (N:=38) rfl (by simp) rfl (by kernel_rfl) fun hs=>?_
 simp only[AH,PV.small,List.length_map,and_true,true_and]at hs
 have sp:=Ki (hn:=hn) (ls:=ls) (us:=us) (d:=d) (y:=y)
 have sq:=Aer (hn:=hn) (ls:=ls) (l:=l)
 dsimp only[Ax,Aw,B6,CN]at sp sq
 by_cases h:ED hn ls us d y=0
 case neg =>
  rw [decide_eq_false (fun g=>h g.1)]
  generalize ED hn ls us d y=r at *
  simp +contextual (maxSteps:=4000000) only[↓bdD,bdP,Nat.reduceLT,Nat.reduceBEq,Ai,Nat.reduceAdd,st0,↓reduceIte,e_pbound,e_ppos,e_cost,Ac,Ab,BH,Try.f17,A6,A8,sp,h]
 have hf:=(CM (pck_zero.1 (Yw h).1).1).1
 rw [h]at sp
 by_cases c:Lz hn ls us l d
 case neg =>
  rw [decide_eq_false (fun g=>c g.2.1)]
  simp +contextual (maxSteps:=4000000) only[↓bdD,bdP,Nat.reduceLT,Nat.reduceBEq,Ai,Nat.reduceEqDiff,Nat.reduceAdd,st0,↓reduceIte,e_pbound,e_ppos,WW,e_cost,Ac,Ab,BH,Try.f17,AB,A6,A8,sp,hf,c]
 have hz:=right_zero.2 (serves_iff.1 c.1).ok
 rw [hz]at sq
 by_cases e:Dq hn ls l≤F8 hn ls us d y
 ·rw [decide_eq_true ⟨h,c,e⟩]
  simp +contextual (maxSteps:=4000000) only[↓bdD,bdP,Nat.reduceLT,Nat.reduceBEq,Ai,Nat.reduceEqDiff,Nat.reduceAdd,Nat.reduceLeDiff,st0,↓reduceIte,e_pbound,e_ppos,WW,e_cost,Ac,Ab,BH,Try.f17,Aq,AB,A6,A8,sp,sq,hf,c,e]
 ·rw [decide_eq_false (fun g=>e g.2.2)]
  simp +contextual (maxSteps:=4000000) only[↓bdD,bdP,Nat.reduceLT,Nat.reduceBEq,Ai,Nat.reduceEqDiff,Nat.reduceAdd,Nat.reduceLeDiff,st0,↓reduceIte,e_pbound,e_ppos,WW,e_cost,Ac,Ab,BH,Try.f17,Aq,AB,A6,A8,sp,sq,hf,c,e]
theorem Py:Px:=dU dV
noncomputable def Gd:(Int)×(List Lnk)×(List Snd)×(Dem)×(List Snd)×(List (List Int))→List PV:=fun (hn,ls,us,d,l,y) => [.agg [I hn,Ax ls,Aw us,I d.1,I d.2.1,I d.2.2.1,I d.2.2.2.1,I d.2.2.2.2],Aw l,CN y]
noncomputable def Pz:(Int)×(List Lnk)×(List Snd)×(Dem)×(List Snd)×(List (List Int))→PV:=fun (hn,ls,us,d,l,y)=>B (decide (K3 hn ls us d l y))
def PC:(Int)×(List Lnk)×(List Snd)×(Dem)×(List Snd)×(List (List Int))→Prop:=fun (hn,ls,us,d,l,y)=>True
noncomputable def e_raccept:Nat×Ent:=(18,.v (Ag Gd Pz PC))
theorem dW:∀i j,Gd i=Gd j→i=j:=by
 rintro ⟨hn₁,ls₁,us₁,d₁,l₁,y₁⟩ ⟨hn₂,ls₂,us₂,d₂,l₂,y₂⟩ h
 simp only[Gd,List.cons.injEq,and_true,PV.lits.injEq,PV.int.injEq,PV.agg.injEq,true_and,AK,AD,Et]at h
 simp [Prod.ext_iff,h] <;> omega
theorem PD (hn:Int) (ls:List Lnk) (us:List Snd) (d:Dem) (l:List Snd) (y:List (List Int)):Ag Gd Pz PC [.agg [I hn,Ax ls,Aw us,I d.1,I d.2.1,I d.2.2.1,I d.2.2.2.1,I d.2.2.2.2],Aw l,CN y]=some (B (decide (K3 hn ls us d l y))):=Az dW (i:=(hn,ls,us,d,l,y)) trivial
def PE:Prop:=∀(hn:Int) (ls:List Lnk) (us:List Snd) (d:Dem) (l:List Snd) (y:List (List Int)) ,VC Try.prog 18 [.agg [I hn,Ax ls,Aw us,I d.1,I d.2.1,I d.2.2.1,I d.2.2.2.1,I d.2.2.2.2],Aw l,CN y] (B (decide (K3 hn ls us d l y)))
def PF:Prop:=AM Try.prog e_raccept.1 e_raccept.2
theorem dX (c:PE):PF:=Ao fun⟨hn,ls,us,d,l,y⟩ h=>c hn ls us d l y
theorem dY:PE:=by
 intro hn ls us d l y
 refine AW AO (l := [e_rbound,e_rpos,e_rcost]) ((Ad qR (Ad Ag1 (Ad zH An)))) [] []  Try.func18 rfl (by decide +kernel) (N:=35) rfl (by simp) rfl (by kernel_rfl) fun hs=>?_
 simp only[AH,PV.small,List.length_map,and_true,true_and]at hs
 have sp:=qO (hn:=hn) (ls:=ls) (us:=us) (d:=d) (y:=y)
 have sq:=zE (hn:=hn) (ls:=ls) (l:=l)
 dsimp only[Ax,Aw,B6,CN]at sp sq
 by_cases h:ED hn ls us d y=0
 case neg =>
  rw [decide_eq_false (fun g=>h g.1)]
  generalize ED hn ls us d y=r at *
  simp +contextual (maxSteps:=4000000) only[↓bdD,bdP,Nat.reduceLT,Nat.reduceBEq,Ai,Nat.reduceAdd,st0,Store.new,Store.set,↓reduceIte,e_rbound,e_rpos,e_rcost,Ac,Ab,BH,Try.f18,A6,A8,lM,Td,sp,h]
 have hf:=(CM (pck_zero.1 (Yw h).1).1).1
 rw [h]at sp
 by_cases c:Lz hn ls us l d
 case neg =>
  rw [decide_eq_false (fun g=>c g.2.1)]
  simp +contextual (maxSteps:=4000000) only[↓bdD,bdP,Nat.reduceLT,Nat.reduceBEq,Ai,Nat.reduceEqDiff,Nat.reduceAdd,st0,Store.new,Store.set,↓reduceIte,e_rbound,e_rpos,WX,e_rcost,Ac,Ab,BH,Try.f18,AB,A6,A8,lM,Td,sp,hf,c]
 have hz:=right_zero.2 (serves_iff.1 c.1).ok
 rw [hz]at sq
 by_cases e:Dq hn ls l≤F8 hn ls us d y
 ·rw [decide_eq_true ⟨h,c,e⟩]
  simp +contextual (maxSteps:=4000000) only[↓bdD,bdP,Nat.reduceLT,Nat.reduceBEq,Ai,Nat.reduceEqDiff,Nat.reduceAdd,Nat.reduceLeDiff,reduceCtorEq,st0,Store.new,Store.set,↓reduceIte,e_rbound,e_rpos,WX,e_rcost,Ac,Ab,BH,Try.f18,ty3,Aq,AB,A6,A8,lM,Td,lN,sp,sq,hf,c,e]
 ·rw [decide_eq_false (fun g=>e g.2.2)]
  simp +contextual (maxSteps:=4000000) only[↓bdD,bdP,Nat.reduceLT,Nat.reduceBEq,Ai,Nat.reduceEqDiff,Nat.reduceAdd,Nat.reduceLeDiff,reduceCtorEq,st0,Store.new,Store.set,↓reduceIte,e_rbound,e_rpos,WX,e_rcost,Ac,Ab,BH,Try.f18,ty3,Aq,AB,A6,A8,lM,Td,lN,sp,sq,hf,c,e]
theorem dZ:PF:=dX dY
end Sim
namespace Sim
open Go Go.Proofs
attribute [local congr] As At Am AI Av Au AA
abbrev tkA (ts:List Int) (x:Int):Int:=ts.getD x.toNat 0
def Abe (hn:Int) (d:Dem) (ts:List Int):Prop:=(ts.length:Int)=hn∧tkA ts d.1≤d.2.2.2.1∧d.2.2.2.2<tkA ts d.2.1
instance {hn:Int} {d:Dem} {ts:List Int}:Decidable (Abe hn d ts):=inferInstanceAs (Decidable (_∧_))
def FG (hn:Int) (ls:List Lnk) (us:List Snd) (d:Dem) (ts:List Int):Int:=if CF hn ls us d≠0 then CF hn ls us d else if ¬Abe hn d ts then 1 else 0
def brI (ls:List Lnk) (us:List Snd) (d:Dem) (ts:List Int) (t k:Nat):Int :=
 if tkA ts (ls.getD k dL).1≤d.2.2.2.1+(t:Int)∧d.2.2.2.1+((t+1:Nat):Int)<tkA ts (ls.getD k dL).2.1 then lfM ls us (k:Nat) (d.2.2.2.1+(t:Int))else 0
def Ix (ls:List Lnk) (us:List Snd) (d:Dem) (ts:List Int) (n:Nat):Int:=Aj (fun i=>brI ls us d ts (i / ls.length) (i % ls.length)) n
def Ge (hn:Int) (ls:List Lnk) (us:List Snd) (d:Dem) (ts:List Int):Int:=if FG hn ls us d ts≠0 then 0 else Ix ls us d ts (Al d*ls.length)
theorem WY {hn:Int} {ls:List Lnk} {us:List Snd} (hf:Br hn ls us=0) {k:Nat} {t:Int} (hk:k<ls.length):0≤lfM ls us (k:Nat) t∧lfM ls us (k:Nat) t≤1073741824:=by
 obtain ⟨ok,_⟩:=B7 hf
 have q1:=Ff hf (k:=(k:Int)) (t:=t) ⟨by omega,by omega⟩
 have q2:=EN ok.net (link:=(k:Int)) (tick:=t) (by omega) (by omega)
 unfold lfM
 omega
theorem Abf {hn:Int} {ls:List Lnk} {us:List Snd} {d:Dem} {ts:List Int} (hf:Br hn ls us=0) {t k:Nat} (hk:k<ls.length):0≤brI ls us d ts t k∧brI ls us d ts t k≤1073741824:=by
 have := WY hf (t:=d.2.2.2.1+(t:Int)) hk
 unfold brI
 split <;> omega
theorem Up {hn:Int} {ls:List Lnk} {us:List Snd} {d:Dem} {ts:List Int} (hf:Br hn ls us=0) (hD:Al d≤32) {n:Nat} (hn':n≤Al d*ls.length):0≤Ix ls us d ts n∧Ix ls us d ts n≤2061584302080:=by
 obtain ⟨ok,_⟩:=B7 hf
 have hl:=ok.net.len
 have h1:=HO (f:=fun i=>brI ls us d ts (i / ls.length) (i % ls.length)) (B:=1073741824) (n:=n) fun i hi=>by
  obtain ⟨h1,h2⟩:=TN.idx_lt (i:=i) (Nat.lt_of_lt_of_le hi hn')
  exact Abf hf h2
 have hn2:n≤1920:=Nat.le_trans hn' (Nat.le_trans (Nat.mul_le_mul hD hl) (by decide))
 unfold Ix
 omega
theorem eA {ls:List Lnk} {us:List Snd} {d:Dem} {ts:List Int} {n:Nat}:Ix ls us d ts (n+1)=Ix ls us d ts n+brI ls us d ts (n / ls.length) (n % ls.length):=by
 unfold Ix
 rw [Aj]
noncomputable def Nt:(Int)×(List Lnk)×(List Snd)×(Dem)×(List Int)→List PV:=fun (hn,ls,us,d,ts) => [.agg [I hn,Ax ls,Aw us,I d.1,I d.2.1,I d.2.2.1,I d.2.2.2.1,I d.2.2.2.2],ints ts]
noncomputable def rT:(Int)×(List Lnk)×(List Snd)×(Dem)×(List Int)→PV:=fun (hn,ls,us,d,ts)=>.tuple [I (Ge hn ls us d ts),I (FG hn ls us d ts)]
def rU:(Int)×(List Lnk)×(List Snd)×(Dem)×(List Int)→Prop:=fun (hn,ls,us,d,ts)=>True
noncomputable def e_pbar:Nat×Ent:=(19,.v (Ag Nt rT rU))
theorem Ag2:∀i j,Nt i=Nt j→i=j:=by
 rintro ⟨hn₁,ls₁,us₁,d₁,ts₁⟩ ⟨hn₂,ls₂,us₂,d₂,ts₂⟩ h
 simp only[Nt,List.cons.injEq,and_true,PV.lits.injEq,PV.int.injEq,PV.agg.injEq,true_and,DV,AK,AD]at h
 simp [Prod.ext_iff,h] <;> omega
theorem Rn (hn:Int) (ls:List Lnk) (us:List Snd) (d:Dem) (ts:List Int):Ag Nt rT rU [.agg [I hn,Ax ls,Aw us,I d.1,I d.2.1,I d.2.2.1,I d.2.2.2.1,I d.2.2.2.2],ints ts]=some (.tuple [I (Ge hn ls us d ts),I (FG hn ls us d ts)]):=Az Ag2 (i:=(hn,ls,us,d,ts)) trivial
def rV:Prop:=∀(hn:Int) (ls:List Lnk) (us:List Snd) (d:Dem) (ts:List Int) ,VC Try.prog 19 [.agg [I hn,Ax ls,Aw us,I d.1,I d.2.1,I d.2.2.1,I d.2.2.2.1,I d.2.2.2.2],ints ts] (.tuple [I (Ge hn ls us d ts),I (FG hn ls us d ts)])
def rW:Prop:=AM Try.prog e_pbar.1 e_pbar.2
theorem Ag3 (c:rV):rW:=Ao fun⟨hn,ls,us,d,ts⟩ h=>c hn ls us d ts
theorem Ag4:rV:=by
 intro hn ls us d ts
 refine Wg AO (l := [e_pcheck,e_runs]) ((Ad HN (Ad Rh An))) [] [] 0 1 Try.func19 rfl (by decide +kernel) (N:=75) rfl (by simp) rfl (by kernel_rfl) fun hs=>?_
 simp only[AH,PV.small,List.length_map,and_true,true_and]at hs
 generalize hR1:Ge hn ls us d ts=R1
 generalize hR2:FG hn ls us d ts=R2
 unfold Ge at hR1
 rw [hR2]at hR1
 unfold FG at hR2
 by_cases h1:CF hn ls us d=0
 case neg =>
  rw [if_pos h1]at hR2
  have e1:R1=0:=by rw[←hR1,if_pos (by rw[←hR2];exact h1)]
  have h2:¬R2=0:=by rw[←hR2];exact h1
  simp +contextual (maxSteps:=4000000) only[↓bdD,bdP,Nat.reduceLT,Nat.reduceBEq,Ai,Nat.reduceAdd,↓reduceIte,e_pcheck,BT,e_runs,Ac,Ab,Try.f19,A6,h2,hR2,e1]
 rw [if_neg (fun g=>g h1)]at hR2
 obtain ⟨hfk,hb4⟩:=pck_zero.1 h1
 obtain ⟨hf,hdm,hD,hdu⟩:=CM hfk
 obtain ⟨⟨a0,a1⟩,⟨c0,c1⟩,hr⟩:=Cg hdm
 obtain ⟨ok,_⟩:=B7 hf
 have hlen:=ok.net.len
 obtain ⟨r0,r1,r2,r3,r4⟩:=hr
 by_cases hA1:(ts.length:Int)=hn
 case neg =>
  rw [if_pos (fun g=>hA1 g.1)]at hR2
  subst hR2
  have e1:R1=0:=by rw[←hR1,if_pos (by decide)]
  simp +contextual (maxSteps:=4000000) only[↓bdD,bdP,Nat.reduceLT,Nat.reduceBEq,Ai,Nat.reduceAdd,↓reduceIte,e_pcheck,BT,e_runs,Ac,Ab,Try.f19,ty3,Aq,A6,AY,h1,hA1,e1]
 have hai:d.1<(ts.length:Int):=by omega
 have hci:d.2.1<(ts.length:Int):=by omega
 have han:d.1.toNat<ts.length:=by omega
 have hcn:d.2.1.toNat<ts.length:=by omega
 have hpA:ts.getD d.1.toNat 0=tkA ts d.1:=rfl
 have hpC:ts.getD d.2.1.toNat 0=tkA ts d.2.1:=rfl
 by_cases hA2:d.2.2.2.1<tkA ts d.1
 ·rw [if_pos (fun g=>by have:=g.2.1;omega)]at hR2
  subst hR2
  have e1:R1=0:=by rw[←hR1,if_pos (by decide)]
  simp +contextual (maxSteps:=4000000) only[↓bdD,bdP,Nat.reduceLT,Nat.reduceBEq,Ai,Nat.reduceAdd,↓reduceIte,e_pcheck,BT,e_runs,Ac,Ab,Try.f19,ty3,Aq,AP,A6,AY,h1,hA1,han,a0,a1,hpA,hA2,e1]
 by_cases hA3:tkA ts d.2.1≤d.2.2.2.2
 ·rw [if_pos (fun g=>by have:=g.2.2;omega)]at hR2
  subst hR2
  have e1:R1=0:=by rw[←hR1,if_pos (by decide)]
  simp +contextual (maxSteps:=4000000) only[↓bdD,bdP,Nat.reduceLT,Nat.reduceBEq,Ai,Nat.reduceAdd,↓reduceIte,e_pcheck,BT,e_runs,Ac,Ab,Try.f19,ty3,Aq,AP,A6,AY,h1,hA1,han,hcn,a0,a1,c0,c1,hpA,hpC,hA2,hA3,e1]
 have hP:Abe hn d ts:=⟨hA1,by omega,by omega⟩
 rw [if_neg (fun g=>g hP)]at hR2
 subst hR2
 rw [if_neg (fun g=>g rfl)]at hR1
 have hz:(0:Int)=Ix ls us d ts 0:=rfl
 obtain ⟨O4,hO4⟩:∃O4:Nat→Option IObj,Aa (fun i=>if i<0 then some (IObj.arr 0 1 [])else none) 0 (some (.arr 0 1 [I 0]))=O4:=⟨_,rfl⟩
 have hw4:WF ⟨O4,1⟩:=fun i o hi=>by
  dsimp only at hi ⊢
  rw [←hO4]at hi
  simp only[Aa]at hi
  split at hi
  ·omega
  ·simp at hi
 have o40:O4 0=some (.arr 0 1 [I 0]):=by rw[←hO4];simp[Aa]
 have o41:Aa O4 0 (some (.arr 0 1 [I 0]))=O4:=Il o40
 have sp:=Nk ⟨hn,ls,us,d⟩ (st:=⟨O4,1⟩) hf
 simp only[CT]at sp
 simp +contextual (maxSteps:=4000000) only[↓bdD,bdP,Nat.reduceLT,Nat.reduceBEq,Nat.reduceEqDiff,Nat.reduceAdd,Nat.reduceLeDiff,Store.new,Store.set,↓reduceIte,e_pcheck,BT,e_runs,Ac,Ab,Try.f19,ty3,Aq,AP,A6,AY,h1,hA1,han,hcn,a0,a1,c0,c1,hpA,hpC,hA2,hA3,hO4,o40,o41,sp]
 have b1:rnO O4 1 us 0=some (.arr 0 1 [I (Ix ls us d ts 0)]):=by simp[rnO,←hO4,Aa,Ix,Aj]
 have b2:rnO O4 1 us 1=some (.map 0 (.ints 2) (us.map tkE)):=by simp[rnO]
 have b3:rnO O4 1 us 2=some (.arr 0 1 [.mref 1 0]):=by simp[rnO]
 generalize rnO O4 1 us=O5 at *
 have hyr:=Ri (hn:=hn) (M:=1) (D:=Al d) hf hdu r2 r4
 refine Fb (ys:=Jf ls us d.2.2.2.1 (Al d)) (f:=53) (first := []) (captured := [frP hn ls us d,.ptr 2 0 0 0]) rfl rfl (A3 rfl) ?_ hyr rfl ?_ (by kernel_rfl) (by kernel_rfl)
  (fun i st'=>(st'.obj 0=some (.arr 0 1 [I (Ix ls us d ts i)])∧0<st'.next)∧(st'.obj 1=some (.map 0 (.ints 2) (us.map tkE))∧1<st'.next)∧(st'.obj 2=some (.arr 0 1 [.mref 1 0])∧2<st'.next)) (fun e st'=>False) ?_ ?_ ?_ ?_ ?_ ?_ ?_ ?_
 ·simp +contextual (maxSteps:=4000000) only[↓bdD,bdP]
 ·exact Kh
 ·exact fun i=>.and (.obj fun _=>by simp) (.and (.obj fun _=>by simp) (.obj fun _=>by simp))
 ·exact fun e=>Stays.const
 ·exact ⟨⟨b1,by simp⟩,⟨b2,by simp⟩,⟨b3,by simp⟩⟩
 ·exact fun i st' h=>⟨h.2.1.1,h.2.2.1⟩
 ·rintro i v ⟨O6,M6⟩ id lr hv hid hlp ⟨⟨g1,_⟩,⟨g2,_⟩,⟨g3,hM6⟩⟩
  obtain ⟨hi,rfl⟩:=LP hv
  dsimp only at hid hlp g1 g2 g3 hM6
  obtain ⟨htD,hkL⟩:=TN.idx_lt (i:=i) hi
  have hsc:=eA (ls:=ls) (us:=us) (d:=d) (ts:=ts) (n:=i)
  have hb2:=Up (ts:=ts) hf hD (n:=i) (Nat.le_of_lt hi)
  have hb3:=Up (ts:=ts) hf hD (n:=i+1) hi
  generalize i / ls.length=t at *
  generalize i % ls.length=k at *
  have hend:=ok.net.ends k hkL
  have w6:IntKind.i64.wrap (d.2.2.2.1+(t:Int)+1)=d.2.2.2.1+((t+1:Nat):Int):=by rw[Af (by omega) (by omega)];omega
  have hk1:=Rj (ls:=ls) (us:=us) (r:=d.2.2.2.1) (k:=k) (t:=t)
  have hk2:=Rk (ls:=ls) (us:=us) (r:=d.2.2.2.1) (k:=k) (t:=t)
  have hk3:=Rl (ls:=ls) (us:=us) (r:=d.2.2.2.1) (k:=k) (t:=t)
  have hk4:=LO (ls:=ls) (us:=us) (r:=d.2.2.2.1) (k:=k) (t:=t)
  unfold brI at hsc
  generalize ls.getD k dL=lk at *
  generalize lfM ls us (k:Nat) (d.2.2.2.1+(t:Int))=lf at *
  have hto:lk.2.1<(ts.length:Int):=by omega
  have hfr:lk.1<(ts.length:Int):=by omega
  have hto':lk.2.1<hn:=by omega
  have hfr':lk.1<hn:=by omega
  have hto0:0≤lk.2.1:=by omega
  have hfr0:0≤lk.1:=by omega
  have hton:lk.2.1.toNat<ts.length:=by omega
  have hfrn:lk.1.toNat<ts.length:=by omega
  have hpF:ts.getD lk.1.toNat 0=tkA ts lk.1:=rfl
  have hpT:ts.getD lk.2.1.toNat 0=tkA ts lk.2.1:=rfl
  have n1:¬id=0:=fun e=>by rw[e,g1]at hlp;cases hlp
  have n2:¬id=1:=fun e=>by rw[e,g2]at hlp;cases hlp
  have n3:¬id=2:=fun e=>by rw[e,g3]at hlp;cases hlp
  have m1:¬0=id:=fun e=>n1 e.symm
  have m2:¬1=id:=fun e=>n2 e.symm
  have m3:¬2=id:=fun e=>n3 e.symm
  have o1:¬M6=id:=by omega
  have o2:¬id=M6:=by omega
  have o4:¬0=M6:=by omega
  have o5:¬1=M6:=by omega
  have o6:¬2=M6:=by omega
  have o8:¬M6=0:=by omega
  by_cases x1:tkA ts lk.1≤d.2.2.2.1+(t:Int)
  ·by_cases x2:d.2.2.2.1+((t+1:Nat):Int)<tkA ts lk.2.1
   ·rw [if_pos ⟨x1,x2⟩]at hsc
    have w7:IntKind.i64.wrap (Ix ls us d ts i+lf)=Ix ls us d ts (i+1):=by rw[hsc,Af (by omega) (by omega)]
    simp +contextual (maxSteps:=4000000) only[↓bdD,bdP,Nat.reduceLT,Nat.reduceBEq,Nat.reduceAdd,Nat.reduceLeDiff,Store.new,Store.set,↓reduceIte,ty3,AY,B0,Gz,GZ,hlp,g1,n1,m1,o1,o2,o4,o8,Fa,Cr,w6,w7,hk1,hk2,hk3,hk4,Cd,hA1,hto',hfr',hto0,hfr0,hton,hfrn,hpF,hpT,x1,x2,A4]
    intro rb
    refine ⟨by omega,by omega,⟨?_,by omega⟩,?_,by omega⟩ <;> simp only[Aa]
    ·rw [if_neg m2,if_neg o5,g2]
    ·rw [if_neg m3,if_neg o6,g3]
   ·rw [if_neg (fun g=>x2 g.2),Int.add_zero]at hsc
    simp +contextual (maxSteps:=4000000) only[↓bdD,bdP,Nat.reduceLT,Nat.reduceBEq,Nat.reduceAdd,Nat.reduceLeDiff,Store.new,Store.set,↓reduceIte,ty3,AY,B0,Gz,GZ,hlp,g1,m1,o1,o2,o4,o8,Fa,Cr,w6,hk1,hk2,hk3,Cd,hA1,hto',hfr',hto0,hfr0,hton,hfrn,hpF,hpT,x1,x2,hsc,A4]
    intro rb
    refine ⟨by omega,by omega,⟨?_,by omega⟩,?_,by omega⟩ <;> simp only[Aa]
    ·rw [if_neg m2,if_neg o5,g2]
    ·rw [if_neg m3,if_neg o6,g3]
  ·rw [if_neg (fun g=>x1 g.1),Int.add_zero]at hsc
   simp +contextual (maxSteps:=4000000) only[↓bdD,bdP,Nat.reduceLT,Nat.reduceBEq,Nat.reduceAdd,Nat.reduceLeDiff,Store.new,Store.set,↓reduceIte,ty3,AY,B0,Gz,GZ,hlp,g1,m1,o1,o2,o4,o8,Fa,Cr,hk1,hk2,Cd,hA1,hfr',hfr0,hfrn,hpF,x1,hsc,A4]
   intro rb
   refine ⟨by omega,by omega,⟨?_,by omega⟩,?_,by omega⟩ <;> simp only[Aa]
   ·rw [if_neg m2,if_neg o5,g2]
   ·rw [if_neg m3,if_neg o6,g3]
 ·rintro ⟨O6,M6⟩ ⟨⟨g1,_⟩,_⟩
  dsimp only at g1
  rw [Kg,hR1]at g1
  simp +contextual (maxSteps:=4000000) only[↓bdD,bdP,Nat.reduceLT,Nat.reduceBEq,Ai,Nat.reduceAdd,↓reduceIte,ty3,g1]
 ·exact fun j st' h=>h.elim
 ·exact fun st' h=>h.elim
theorem rX:rW:=Ag3 Ag4
noncomputable def HT:(Int)×(List Lnk)×(List Snd)×(Dem)×(List Int)→List PV:=fun (hn,ls,us,d,ts) => [.agg [I hn,Ax ls,Aw us,I d.1,I d.2.1,I d.2.2.1,I d.2.2.2.1,I d.2.2.2.2],ints ts]
noncomputable def Uq:(Int)×(List Lnk)×(List Snd)×(Dem)×(List Int)→PV:=fun (hn,ls,us,d,ts)=>B (decide (FG hn ls us d ts=0∧Ge hn ls us d ts<d.2.2.1))
def Ur:(Int)×(List Lnk)×(List Snd)×(Dem)×(List Int)→Prop:=fun (hn,ls,us,d,ts)=>True
noncomputable def e_pstops:Nat×Ent:=(21,.v (Ag HT Uq Ur))
theorem rZ:∀i j,HT i=HT j→i=j:=by
 rintro ⟨hn₁,ls₁,us₁,d₁,ts₁⟩ ⟨hn₂,ls₂,us₂,d₂,ts₂⟩ h
 simp only[HT,List.cons.injEq,and_true,PV.lits.injEq,PV.int.injEq,PV.agg.injEq,true_and,DV,AK,AD]at h
 simp [Prod.ext_iff,h] <;> omega
theorem Nu (hn:Int) (ls:List Lnk) (us:List Snd) (d:Dem) (ts:List Int):Ag HT Uq Ur [.agg [I hn,Ax ls,Aw us,I d.1,I d.2.1,I d.2.2.1,I d.2.2.2.1,I d.2.2.2.2],ints ts]=some (B (decide (FG hn ls us d ts=0∧Ge hn ls us d ts<d.2.2.1))):=Az rZ (i:=(hn,ls,us,d,ts)) trivial
def Us:Prop:=∀(hn:Int) (ls:List Lnk) (us:List Snd) (d:Dem) (ts:List Int) ,VC Try.prog 21 [.agg [I hn,Ax ls,Aw us,I d.1,I d.2.1,I d.2.2.1,I d.2.2.2.1,I d.2.2.2.2],ints ts] (B (decide (FG hn ls us d ts=0∧Ge hn ls us d ts<d.2.2.1)))
def Ut:Prop:=AM Try.prog e_pstops.1 e_pstops.2
theorem sA (c:Us):Ut:=Ao fun⟨hn,ls,us,d,ts⟩ h=>c hn ls us d ts
theorem sB:Us:=by
 intro hn ls us d ts
 refine AW AO (l := [e_pbar]) ((Ad rX An)) [] []  Try.func21 rfl (by decide +kernel) (N:=22) rfl (by simp) rfl (by kernel_rfl) fun hs=>?_
 simp only[AH,PV.small,List.length_map,and_true,true_and]at hs
 have sp:=Rn (hn:=hn) (ls:=ls) (us:=us) (d:=d) (ts:=ts)
 dsimp only[Ax,Aw,ints]at sp
 generalize FG hn ls us d ts=e at *
 generalize Ge hn ls us d ts=x at *
 by_cases h:e=0
 ·by_cases c:x<d.2.2.1
  ·rw [decide_eq_true ⟨h,c⟩]
   simp +contextual (maxSteps:=4000000) only[↓bdD,bdP,Nat.reduceLT,Nat.reduceBEq,Ai,Nat.reduceAdd,st0,↓reduceIte,e_pbar,Ac,Ab,Try.f21,ty3,AP,A6,AY,sp,h,c]
  ·rw [decide_eq_false (fun g=>c g.2)]
   simp +contextual (maxSteps:=4000000) only[↓bdD,bdP,Nat.reduceLT,Nat.reduceBEq,Ai,Nat.reduceAdd,st0,↓reduceIte,e_pbar,Ac,Ab,Try.f21,ty3,AP,A6,AY,sp,h,c]
 ·rw [decide_eq_false (fun g=>h g.1)]
  simp +contextual (maxSteps:=4000000) only[↓bdD,bdP,Nat.reduceLT,Nat.reduceBEq,Ai,Nat.reduceAdd,st0,↓reduceIte,e_pbar,Ac,Ab,Try.f21,A6,AY,sp,h]
theorem sC:Ut:=sA sB
end Sim
