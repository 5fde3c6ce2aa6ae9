/- What functions of this seat compute, by values: contracts (lemmas of the statement's proof, under the conditions that each names). -/
import Derived.Test.YtppljhpecoeakaaQXG
set_option maxRecDepth 10000
set_option maxHeartbeats 4000000
set_option linter.unusedVariables false
set_option linter.unusedSimpArgs false
namespace Sim
open Go Go.Proofs
attribute [local congr] Ap Aq Al AC As Ar Av
abbrev tkA (ts:List Int) (x:Int):Int:=ts.getD x.toNat 0
def pC (hn:Int) (d:Dem) (ts:List Int):Prop:=(ts.length:Int)=hn∧tkA ts d.1≤d.2.2.2.1∧d.2.2.2.2<tkA ts d.2.1
instance {hn:Int} {d:Dem} {ts:List Int}:Decidable (pC hn d ts):=inferInstanceAs (Decidable (_∧_))
def Dm (hn:Int) (ls:List Lnk) (us:List Snd) (d:Dem) (ts:List Int):Int:=if CN hn ls us d≠0 then CN hn ls us d else if ¬pC hn d ts then 1 else 0
def brI (ls:List Lnk) (us:List Snd) (d:Dem) (ts:List Int) (t k:Nat):Int :=
 if tkA ts (ls.getD k dL).1≤d.2.2.2.1+(t:Int)∧d.2.2.2.1+((t+1:Nat):Int)<tkA ts (ls.getD k dL).2.1 then lfM ls us (k:Nat) (d.2.2.2.1+(t:Int))else 0
def Fy (ls:List Lnk) (us:List Snd) (d:Dem) (ts:List Int) (n:Nat):Int:=Aj (fun i=>brI ls us d ts (i / ls.length) (i % ls.length)) n
def Dx (hn:Int) (ls:List Lnk) (us:List Snd) (d:Dem) (ts:List Int):Int:=if Dm hn ls us d ts≠0 then 0 else Fy ls us d ts (Ao d*ls.length)
theorem Wn {hn:Int} {ls:List Lnk} {us:List Snd} (hf:Bz hn ls us=0) {k:Nat} {t:Int} (hk:k<ls.length):0≤lfM ls us (k:Nat) t∧lfM ls us (k:Nat) t≤1073741824:=by
 obtain ⟨ok,_⟩:=B6 hf
 have q1:=EZ hf (k:=(k:Int)) (t:=t) ⟨by omega,by omega⟩
 have q2:=EH ok.net (link:=(k:Int)) (tick:=t) (by omega) (by omega)
 unfold lfM
 omega
theorem zH {hn:Int} {ls:List Lnk} {us:List Snd} {d:Dem} {ts:List Int} (hf:Bz hn ls us=0) {t k:Nat} (hk:k<ls.length):0≤brI ls us d ts t k∧brI ls us d ts t k≤1073741824:=by
 have := Wn hf (t:=d.2.2.2.1+(t:Int)) hk
 unfold brI
 split <;> omega
theorem J9 {hn:Int} {ls:List Lnk} {us:List Snd} {d:Dem} {ts:List Int} (hf:Bz hn ls us=0) (hD:Ao d≤32) {n:Nat} (hn':n≤Ao d*ls.length):0≤Fy ls us d ts n∧Fy ls us d ts n≤2061584302080:=by
 obtain ⟨ok,_⟩:=B6 hf
 have hl:=ok.net.len
 have h1:=HF (f:=fun i=>brI ls us d ts (i / ls.length) (i % ls.length)) (B:=1073741824) (n:=n) fun i hi=>by
  obtain ⟨h1,h2⟩:=TN.idx_lt (i:=i) (Nat.lt_of_lt_of_le hi hn')
  exact zH hf h2
 have hn2:n≤1920:=Nat.le_trans hn' (Nat.le_trans (Nat.mul_le_mul hD hl) (by decide))
 unfold Fy
 omega
theorem Pe {ls:List Lnk} {us:List Snd} {d:Dem} {ts:List Int} {n:Nat}:Fy ls us d ts (n+1)=Fy ls us d ts n+brI ls us d ts (n / ls.length) (n % ls.length):=by
 unfold Fy
 rw [Aj]
noncomputable def Ni:(Int)×(List Lnk)×(List Snd)×(Dem)×(List Int)→List PV:=fun (hn,ls,us,d,ts) => [.agg [I hn,Aw ls,Az us,I d.1,I d.2.1,I d.2.2.1,I d.2.2.2.1,I d.2.2.2.2],ints ts]
noncomputable def pE:(Int)×(List Lnk)×(List Snd)×(Dem)×(List Int)→PV:=fun (hn,ls,us,d,ts)=>.tuple [I (Dx hn ls us d ts),I (Dm hn ls us d ts)]
def pF:(Int)×(List Lnk)×(List Snd)×(Dem)×(List Int)→Prop:=fun (hn,ls,us,d,ts)=>True
noncomputable def e_pbar:Nat×Ent:=(19,.v (Ag Ni pE pF))
theorem Ae7:∀i j,Ni i=Ni j→i=j:=by
 rintro ⟨hn₁,ls₁,us₁,d₁,ts₁⟩ ⟨hn₂,ls₂,us₂,d₂,ts₂⟩ h
 simp only[Ni,List.cons.injEq,and_true,PV.lits.injEq,PV.int.injEq,PV.agg.injEq,true_and,CV,AN,AD]at h
 simp [Prod.ext_iff,h] <;> omega
theorem KV (hn:Int) (ls:List Lnk) (us:List Snd) (d:Dem) (ts:List Int):Ag Ni pE pF [.agg [I hn,Aw ls,Az us,I d.1,I d.2.1,I d.2.2.1,I d.2.2.2.1,I d.2.2.2.2],ints ts]=some (.tuple [I (Dx hn ls us d ts),I (Dm hn ls us d ts)]):=Ax Ae7 (i:=(hn,ls,us,d,ts)) trivial
def pG:Prop:=∀(hn:Int) (ls:List Lnk) (us:List Snd) (d:Dem) (ts:List Int) ,VC Try.prog 19 [.agg [I hn,Aw ls,Az us,I d.1,I d.2.1,I d.2.2.1,I d.2.2.2.1,I d.2.2.2.2],ints ts] (.tuple [I (Dx hn ls us d ts),I (Dm hn ls us d ts)])
def pH:Prop:=AL Try.prog e_pbar.1 e_pbar.2
theorem Ae8 (c:pG):pH:=At fun⟨hn,ls,us,d,ts⟩ h=>c hn ls us d ts
theorem Ae9:pG:=by
 intro hn ls us d ts
 refine VD AO (l := [e_pcheck,e_runs]) ((Ad HE (Ad QP An))) [] [] 0 1 Try.func19 rfl (by decide +kernel) (N:=75) rfl (by simp) rfl (by kernel_rfl) fun hs=>?_
 simp only[AI,PV.small,List.length_map,and_true,true_and]at hs
 generalize hR1:Dx hn ls us d ts=R1
 generalize hR2:Dm hn ls us d ts=R2
 unfold Dx at hR1
 rw [hR2]at hR1
 unfold Dm at hR2
 by_cases h1:CN hn ls us d=0
 case neg =>
  rw [if_pos h1]at hR2
  have e1:R1=0:=by rw[←hR1,if_pos (by rw[←hR2];exact h1)]
  have h2:¬R2=0:=by rw[←hR2];exact h1
  simp +contextual (maxSteps:=4000000) only[↓bdD,bdP,Nat.reduceLT,Nat.reduceBEq,Ah,Nat.reduceAdd,↓reduceIte,e_pcheck,BL,e_runs,Ac,Ab,Try.f19,A8,h2,hR2,e1]
 rw [if_neg (fun g=>g h1)]at hR2
 obtain ⟨hfk,hb4⟩:=pck_zero.1 h1
 obtain ⟨hf,hdm,hD,hdu⟩:=C6 hfk
 obtain ⟨⟨a0,a1⟩,⟨c0,c1⟩,hr⟩:=Co hdm
 obtain ⟨ok,_⟩:=B6 hf
 have hlen:=ok.net.len
 obtain ⟨r0,r1,r2,r3,r4⟩:=hr
 by_cases hA1:(ts.length:Int)=hn
 case neg =>
  rw [if_pos (fun g=>hA1 g.1)]at hR2
  subst hR2
  have e1:R1=0:=by rw[←hR1,if_pos (by decide)]
  simp +contextual (maxSteps:=4000000) only[↓bdD,bdP,Nat.reduceLT,Nat.reduceBEq,Ah,Nat.reduceAdd,↓reduceIte,e_pcheck,BL,e_runs,Ac,Ab,Try.f19,ty3,Au,A8,AW,h1,hA1,e1]
 have hai:d.1<(ts.length:Int):=by omega
 have hci:d.2.1<(ts.length:Int):=by omega
 have han:d.1.toNat<ts.length:=by omega
 have hcn:d.2.1.toNat<ts.length:=by omega
 have hpA:ts.getD d.1.toNat 0=tkA ts d.1:=rfl
 have hpC:ts.getD d.2.1.toNat 0=tkA ts d.2.1:=rfl
 by_cases hA2:d.2.2.2.1<tkA ts d.1
 ·rw [if_pos (fun g=>by have:=g.2.1;omega)]at hR2
  subst hR2
  have e1:R1=0:=by rw[←hR1,if_pos (by decide)]
  simp +contextual (maxSteps:=4000000) only[↓bdD,bdP,Nat.reduceLT,Nat.reduceBEq,Ah,Nat.reduceAdd,↓reduceIte,e_pcheck,BL,e_runs,Ac,Ab,Try.f19,ty3,Au,AS,A8,AW,h1,hA1,han,a0,a1,hpA,hA2,e1]
 by_cases hA3:tkA ts d.2.1≤d.2.2.2.2
 ·rw [if_pos (fun g=>by have:=g.2.2;omega)]at hR2
  subst hR2
  have e1:R1=0:=by rw[←hR1,if_pos (by decide)]
  simp +contextual (maxSteps:=4000000) only[↓bdD,bdP,Nat.reduceLT,Nat.reduceBEq,Ah,Nat.reduceAdd,↓reduceIte,e_pcheck,BL,e_runs,Ac,Ab,Try.f19,ty3,Au,AS,A8,AW,h1,hA1,han,hcn,a0,a1,c0,c1,hpA,hpC,hA2,hA3,e1]
 have hP:pC hn d ts:=⟨hA1,by omega,by omega⟩
 rw [if_neg (fun g=>g hP)]at hR2
 subst hR2
 rw [if_neg (fun g=>g rfl)]at hR1
 have hz:(0:Int)=Fy ls us d ts 0:=rfl
 obtain ⟨O4,hO4⟩:∃O4:Nat→Option IObj,Aa (fun i=>if i<0 then some (IObj.arr 0 1 [])else none) 0 (some (.arr 0 1 [I 0]))=O4:=⟨_,rfl⟩
 have hw4:WF ⟨O4,1⟩:=fun i o hi=>by
  dsimp only at hi ⊢
  rw [←hO4]at hi
  simp only[Aa]at hi
  split at hi
  ·omega
  ·simp at hi
 have o40:O4 0=some (.arr 0 1 [I 0]):=by rw[←hO4];simp[Aa]
 have o41:Aa O4 0 (some (.arr 0 1 [I 0]))=O4:=H8 o40
 have sp:=M8 ⟨hn,ls,us,d⟩ (st:=⟨O4,1⟩) hf
 simp only[CM]at sp
 simp +contextual (maxSteps:=4000000) only[↓bdD,bdP,Nat.reduceLT,Nat.reduceBEq,Nat.reduceEqDiff,Nat.reduceAdd,Nat.reduceLeDiff,Store.new,Store.set,↓reduceIte,e_pcheck,BL,e_runs,Ac,Ab,Try.f19,ty3,Au,AS,A8,AW,h1,hA1,han,hcn,a0,a1,c0,c1,hpA,hpC,hA2,hA3,hO4,o40,o41,sp]
 have b1:rnO O4 1 us 0=some (.arr 0 1 [I (Fy ls us d ts 0)]):=by simp[rnO,←hO4,Aa,Fy,Aj]
 have b2:rnO O4 1 us 1=some (.map 0 (.ints 2) (us.map tkE)):=by simp[rnO]
 have b3:rnO O4 1 us 2=some (.arr 0 1 [.mref 1 0]):=by simp[rnO]
 generalize rnO O4 1 us=O5 at *
 have hyr:=QQ (hn:=hn) (M:=1) (D:=Ao d) hf hdu r2 r4
 refine EV (ys:=I5 ls us d.2.2.2.1 (Ao d)) (f:=53) (first := []) (captured := [frP hn ls us d,.ptr 2 0 0 0]) rfl rfl (AZ rfl) ?_ hyr rfl ?_ (by kernel_rfl) (by kernel_rfl)
  (fun i st'=>(st'.obj 0=some (.arr 0 1 [I (Fy ls us d ts i)])∧0<st'.next)∧(st'.obj 1=some (.map 0 (.ints 2) (us.map tkE))∧1<st'.next)∧(st'.obj 2=some (.arr 0 1 [.mref 1 0])∧2<st'.next)) (fun e st'=>False) ?_ ?_ ?_ ?_ ?_ ?_ ?_ ?_
 ·simp +contextual (maxSteps:=4000000) only[↓bdD,bdP]
 ·exact J7
 ·exact fun i=>.and (.obj fun _=>by simp) (.and (.obj fun _=>by simp) (.obj fun _=>by simp))
 ·exact fun e=>Stays.const
 ·exact ⟨⟨b1,by simp⟩,⟨b2,by simp⟩,⟨b3,by simp⟩⟩
 ·exact fun i st' h=>⟨h.2.1.1,h.2.2.1⟩
 ·rintro i v ⟨O6,M6⟩ id lr hv hid hlp ⟨⟨g1,_⟩,⟨g2,_⟩,⟨g3,hM6⟩⟩
  obtain ⟨hi,rfl⟩:=LH hv
  dsimp only at hid hlp g1 g2 g3 hM6
  obtain ⟨htD,hkL⟩:=TN.idx_lt (i:=i) hi
  have hsc:=Pe (ls:=ls) (us:=us) (d:=d) (ts:=ts) (n:=i)
  have hb2:=J9 (ts:=ts) hf hD (n:=i) (Nat.le_of_lt hi)
  have hb3:=J9 (ts:=ts) hf hD (n:=i+1) hi
  generalize i / ls.length=t at *
  generalize i % ls.length=k at *
  have hend:=ok.net.ends k hkL
  have w6:IntKind.i64.wrap (d.2.2.2.1+(t:Int)+1)=d.2.2.2.1+((t+1:Nat):Int):=by rw[Ai (by omega) (by omega)];omega
  have hk1:=QR (ls:=ls) (us:=us) (r:=d.2.2.2.1) (k:=k) (t:=t)
  have hk2:=QT (ls:=ls) (us:=us) (r:=d.2.2.2.1) (k:=k) (t:=t)
  have hk3:=QU (ls:=ls) (us:=us) (r:=d.2.2.2.1) (k:=k) (t:=t)
  have hk4:=LG (ls:=ls) (us:=us) (r:=d.2.2.2.1) (k:=k) (t:=t)
  unfold brI at hsc
  generalize ls.getD k dL=lk at *
  generalize lfM ls us (k:Nat) (d.2.2.2.1+(t:Int))=lf at *
  have hto:lk.2.1<(ts.length:Int):=by omega
  have hfr:lk.1<(ts.length:Int):=by omega
  have hto':lk.2.1<hn:=by omega
  have hfr':lk.1<hn:=by omega
  have hto0:0≤lk.2.1:=by omega
  have hfr0:0≤lk.1:=by omega
  have hton:lk.2.1.toNat<ts.length:=by omega
  have hfrn:lk.1.toNat<ts.length:=by omega
  have hpF:ts.getD lk.1.toNat 0=tkA ts lk.1:=rfl
  have hpT:ts.getD lk.2.1.toNat 0=tkA ts lk.2.1:=rfl
  have n1:¬id=0:=fun e=>by rw[e,g1]at hlp;cases hlp
  have n2:¬id=1:=fun e=>by rw[e,g2]at hlp;cases hlp
  have n3:¬id=2:=fun e=>by rw[e,g3]at hlp;cases hlp
  have m1:¬0=id:=fun e=>n1 e.symm
  have m2:¬1=id:=fun e=>n2 e.symm
  have m3:¬2=id:=fun e=>n3 e.symm
  have o1:¬M6=id:=by omega
  have o2:¬id=M6:=by omega
  have o4:¬0=M6:=by omega
  have o5:¬1=M6:=by omega
  have o6:¬2=M6:=by omega
  have o8:¬M6=0:=by omega
  by_cases x1:tkA ts lk.1≤d.2.2.2.1+(t:Int)
  ·by_cases x2:d.2.2.2.1+((t+1:Nat):Int)<tkA ts lk.2.1
   ·rw [if_pos ⟨x1,x2⟩]at hsc
    have w7:IntKind.i64.wrap (Fy ls us d ts i+lf)=Fy ls us d ts (i+1):=by rw[hsc,Ai (by omega) (by omega)]
    simp +contextual (maxSteps:=4000000) only[↓bdD,bdP,Nat.reduceLT,Nat.reduceBEq,Nat.reduceAdd,Nat.reduceLeDiff,Store.new,Store.set,↓reduceIte,ty3,AW,Ca,Gl,GJ,hlp,g1,n1,m1,o1,o2,o4,o8,EU,Cm,w6,w7,hk1,hk2,hk3,hk4,B8,hA1,hto',hfr',hto0,hfr0,hton,hfrn,hpF,hpT,x1,x2,AX]
    intro rb
    refine ⟨by omega,by omega,⟨?_,by omega⟩,?_,by omega⟩ <;> simp only[Aa]
    ·rw [if_neg m2,if_neg o5,g2]
    ·rw [if_neg m3,if_neg o6,g3]
   ·rw [if_neg (fun g=>x2 g.2),Int.add_zero]at hsc
    simp +contextual (maxSteps:=4000000) only[↓bdD,bdP,Nat.reduceLT,Nat.reduceBEq,Nat.reduceAdd,Nat.reduceLeDiff,Store.new,Store.set,↓reduceIte,ty3,AW,Ca,Gl,GJ,hlp,g1,m1,o1,o2,o4,o8,EU,Cm,w6,hk1,hk2,hk3,B8,hA1,hto',hfr',hto0,hfr0,hton,hfrn,hpF,hpT,x1,x2,hsc,AX]
    intro rb
    refine ⟨by omega,by omega,⟨?_,by omega⟩,?_,by omega⟩ <;> simp only[Aa]
    ·rw [if_neg m2,if_neg o5,g2]
    ·rw [if_neg m3,if_neg o6,g3]
  ·rw [if_neg (fun g=>x1 g.1),Int.add_zero]at hsc
   simp +contextual (maxSteps:=4000000) only[↓bdD,bdP,Nat.reduceLT,Nat.reduceBEq,Nat.reduceAdd,Nat.reduceLeDiff,Store.new,Store.set,↓reduceIte,ty3,AW,Ca,Gl,GJ,hlp,g1,m1,o1,o2,o4,o8,EU,Cm,hk1,hk2,B8,hA1,hfr',hfr0,hfrn,hpF,x1,hsc,AX]
   intro rb
   refine ⟨by omega,by omega,⟨?_,by omega⟩,?_,by omega⟩ <;> simp only[Aa]
   ·rw [if_neg m2,if_neg o5,g2]
   ·rw [if_neg m3,if_neg o6,g3]
 ·rintro ⟨O6,M6⟩ ⟨⟨g1,_⟩,_⟩
  dsimp only at g1
  rw [J6,hR1]at g1
  simp +contextual (maxSteps:=4000000) only[↓bdD,bdP,Nat.reduceLT,Nat.reduceBEq,Ah,Nat.reduceAdd,↓reduceIte,ty3,g1]
 ·exact fun j st' h=>h.elim
 ·exact fun st' h=>h.elim
theorem Wo:pH:=Ae8 Ae9
noncomputable def Nj:(Int)×(List Lnk)×(List Snd)×(Dem)×(List Int)→List PV:=fun (hn,ls,us,d,ts) => [.agg [I hn,Aw ls,Az us,I d.1,I d.2.1,I d.2.2.1,I d.2.2.2.1,I d.2.2.2.2],ints ts]
noncomputable def pI:(Int)×(List Lnk)×(List Snd)×(Dem)×(List Int)→PV:=fun (hn,ls,us,d,ts)=>.agg [I (Dx hn ls us d ts),I (Dm hn ls us d ts)]
def pJ:(Int)×(List Lnk)×(List Snd)×(Dem)×(List Int)→Prop:=fun (hn,ls,us,d,ts)=>True
noncomputable def e_rbar:Nat×Ent:=(20,.v (Ag Nj pI pJ))
theorem Afa:∀i j,Nj i=Nj j→i=j:=by
 rintro ⟨hn₁,ls₁,us₁,d₁,ts₁⟩ ⟨hn₂,ls₂,us₂,d₂,ts₂⟩ h
 simp only[Nj,List.cons.injEq,and_true,PV.lits.injEq,PV.int.injEq,PV.agg.injEq,true_and,CV,AN,AD]at h
 simp [Prod.ext_iff,h] <;> omega
theorem Wp (hn:Int) (ls:List Lnk) (us:List Snd) (d:Dem) (ts:List Int):Ag Nj pI pJ [.agg [I hn,Aw ls,Az us,I d.1,I d.2.1,I d.2.2.1,I d.2.2.2.1,I d.2.2.2.2],ints ts]=some (.agg [I (Dx hn ls us d ts),I (Dm hn ls us d ts)]):=Ax Afa (i:=(hn,ls,us,d,ts)) trivial
def pK:Prop:=∀(hn:Int) (ls:List Lnk) (us:List Snd) (d:Dem) (ts:List Int) ,VC Try.prog 20 [.agg [I hn,Aw ls,Az us,I d.1,I d.2.1,I d.2.2.1,I d.2.2.2.1,I d.2.2.2.2],ints ts] (.agg [I (Dx hn ls us d ts),I (Dm hn ls us d ts)])
def pL:Prop:=AL Try.prog e_rbar.1 e_rbar.2
theorem Afb (c:pK):pL:=At fun⟨hn,ls,us,d,ts⟩ h=>c hn ls us d ts
theorem Afc:pK:=by
 intro hn ls us d ts
 refine A5 AO (l := [e_rpcheck,e_pleft]) ((Ad bU (Ad zD An))) [] []  Try.func20 rfl (by decide +kernel) (N:=94) rfl (by simp) rfl (by kernel_rfl) fun hs=>?_
 simp only[AI,PV.small,List.length_map,and_true,true_and]at hs
 generalize hR1:Dx hn ls us d ts=R1
 generalize hR2:Dm hn ls us d ts=R2
 unfold Dx at hR1
 rw [hR2]at hR1
 unfold Dm at hR2
 by_cases h1:CN hn ls us d=0
 case neg =>
  rw [if_pos h1]at hR2
  have e1:R1=0:=by rw[←hR1,if_pos (by rw[←hR2];exact h1)]
  have h2:¬R2=0:=by rw[←hR2];exact h1
  simp +contextual (maxSteps:=4000000) only[↓bdD,bdP,Nat.reduceLT,Nat.reduceBEq,Ah,Nat.reduceAdd,st0,Store.new,Store.set,↓reduceIte,e_rpcheck,FX,e_pleft,Ac,Ab,Try.f20,A8,Mn,h2,hR2,e1]
 rw [if_neg (fun g=>g h1)]at hR2
 obtain ⟨hfk,hb4⟩:=pck_zero.1 h1
 obtain ⟨hf,hdm,hD,hdu⟩:=C6 hfk
 obtain ⟨⟨a0,a1⟩,⟨c0,c1⟩,hr⟩:=Co hdm
 obtain ⟨ok,_⟩:=B6 hf
 have hlen:=ok.net.len
 obtain ⟨r0,r1,r2,r3,r4⟩:=hr
 by_cases hA1:(ts.length:Int)=hn
 case neg =>
  rw [if_pos (fun g=>hA1 g.1)]at hR2
  subst hR2
  have e1:R1=0:=by rw[←hR1,if_pos (by decide)]
  simp +contextual (maxSteps:=4000000) only[↓bdD,bdP,Nat.reduceLT,Nat.reduceBEq,Ah,Nat.reduceAdd,Nat.reduceLeDiff,reduceCtorEq,st0,Store.new,Store.set,↓reduceIte,e_rpcheck,FX,e_pleft,Ac,Ab,Try.f20,ty3,Au,AS,A8,Mn,AW,h1,hA1,e1]
 have hai:d.1<(ts.length:Int):=by omega
 have hci:d.2.1<(ts.length:Int):=by omega
 have han:d.1.toNat<ts.length:=by omega
 have hcn:d.2.1.toNat<ts.length:=by omega
 have hpA:ts.getD d.1.toNat 0=tkA ts d.1:=rfl
 have hpC:ts.getD d.2.1.toNat 0=tkA ts d.2.1:=rfl
 by_cases hA2:d.2.2.2.1<tkA ts d.1
 ·rw [if_pos (fun g=>by have:=g.2.1;omega)]at hR2
  subst hR2
  have e1:R1=0:=by rw[←hR1,if_pos (by decide)]
  simp +contextual (maxSteps:=4000000) only[↓bdD,bdP,Nat.reduceLT,Nat.reduceBEq,Ah,Nat.reduceAdd,Nat.reduceLeDiff,reduceCtorEq,st0,Store.new,Store.set,↓reduceIte,e_rpcheck,FX,e_pleft,Ac,Ab,Try.f20,ty3,Au,AS,A8,Mn,AW,h1,hA1,han,a0,a1,hpA,hA2,e1]
 by_cases hA3:tkA ts d.2.1≤d.2.2.2.2
 ·rw [if_pos (fun g=>by have:=g.2.2;omega)]at hR2
  subst hR2
  have e1:R1=0:=by rw[←hR1,if_pos (by decide)]
  simp +contextual (maxSteps:=4000000) only[↓bdD,bdP,Nat.reduceLT,Nat.reduceBEq,Ah,Nat.reduceAdd,Nat.reduceLeDiff,reduceCtorEq,st0,Store.new,Store.set,↓reduceIte,e_rpcheck,FX,e_pleft,Ac,Ab,Try.f20,ty3,Au,AS,A8,Mn,AW,h1,hA1,han,hcn,a0,a1,c0,c1,hpA,hpC,hA2,hA3,e1]
 have hP:pC hn d ts:=⟨hA1,by omega,by omega⟩
 rw [if_neg (fun g=>g hP)]at hR2
 subst hR2
 rw [if_neg (fun g=>g rfl)]at hR1
 simp +contextual (maxSteps:=4000000) only[↓bdD,bdP,Nat.reduceLT,Nat.reduceBEq,Nat.reduceAdd,Nat.reduceLeDiff,reduceCtorEq,st0,Store.new,Store.set,↓reduceIte,e_rpcheck,FX,e_pleft,Ac,Ab,Try.f20,ty3,Au,AS,A8,Mn,AW,h1,hA1,han,hcn,a0,a1,c0,c1,hpA,hpC,hA2,hA3,AX]
 obtain ⟨L,hL⟩:∃L,ls.length=L:=⟨_,rfl⟩
 rw [hL]at hR1
 refine Ay [7,8,9,10,11,48,49,50,51,52,53,54,55,56,57,58,59,60,61,62,63,64,65,66,67,68,69,70,71,72,73,74,75,76,77,78,79,80,81,82,83,84,85,86,87,88,89,90,91] (Ao d) (fun t ρ st'=>ρ 8=I (d.2.2.2.1+(t:Int))∧ρ 7=I (Fy ls us d ts (t*L))∧(st'.obj 0=some (.arr 0 2 [.agg [I 0,I 0]])∧st'.obj 1=some (.arr 0 5 [.agg [I d.1,I d.2.1,I d.2.2.1,I d.2.2.2.1,I d.2.2.2.2]])∧2≤st'.next)) (.refl _) ?_ ?_
 ·simp +contextual (maxSteps:=4000000) only[↓bdD,bdP,Nat.reduceBEq,Int.add_zero,Nat.zero_mul,Fy,Aj]
 rintro t ρ ⟨O,M⟩ ht ⟨h8,h7,o0,o1,hM⟩
 dsimp only at o0 o1 hM
 by_cases htD:t<Ao d
 ·have hlt:d.2.2.2.1+(t:Int)<d.2.2.2.2:=by omega
  have w6:IntKind.i64.wrap (d.2.2.2.1+(t:Int)+1)=d.2.2.2.1+((t+1:Nat):Int):=by rw[Ai (by omega) (by omega)];omega
  simp +contextual (maxSteps:=4000000) only[↓bdD,bdP,Nat.reduceLT,Nat.reduceBEq,Nat.reduceAdd,↓reduceIte,ty3,AS,h8,o1,hlt]
  refine Ay [7,9,10,11,54,55,56,57,58,59,60,61,62,63,64,65,66,67,68,69,70,71,72,73,74,75,76,77,78,79,80,81,82,83,84,85,86,87,88,89,90,91] L (fun k ρ st'=>ρ 9=I k∧ρ 7=I (Fy ls us d ts (t*L+k))∧(st'.obj 0=some (.arr 0 2 [.agg [I 0,I 0]])∧st'.obj 1=some (.arr 0 5 [.agg [I d.1,I d.2.1,I d.2.2.1,I d.2.2.2.1,I d.2.2.2.2]])∧2≤st'.next)) (.refl _) ?_ ?_
  ·simp +contextual (maxSteps:=4000000) only[↓bdD,bdP,Nat.reduceBEq]
   exact ⟨h7,o0,o1,hM⟩
  rintro k ρ2 ⟨O2,M2⟩ hk ⟨h9,h7',o02,o12,hM2⟩
  dsimp only at o02 o12 hM2
  by_cases hkL:k<L
  ·have wk:IntKind.i64.wrap ((k:Int)+1)=((k+1:Nat):Int):=BF (by omega)
   have hkl:k<ls.length:=by omega
   have hki:(k:Int)<(L:Int):=by omega
   have hend:=ok.net.ends k hkl
   have hlt2:t*L+k<Ao d*ls.length:=by rw[hL];exact TN.row_lt htD hkL
   have hsc:=Pe (ls:=ls) (us:=us) (d:=d) (ts:=ts) (n:=t*L+k)
   have hb2:=J9 (ts:=ts) hf hD (n:=t*L+k) (Nat.le_of_lt hlt2)
   have hb3:=J9 (ts:=ts) hf hD (n:=t*L+k+1) hlt2
   rw [hL,(TN.row_idx hkL).1,(TN.row_idx hkL).2]at hsc
   have sp:=zA (hn:=hn) (ls:=ls) (us:=us) (d:=d) (link:=(k:Int)) (tick:=d.2.2.2.1+(t:Int))
   rw [if_pos ⟨hf,by omega,by omega,by omega⟩]at sp
   dsimp only[Aw,Az]at sp
   unfold brI at hsc
   have hk0:=EC (a:=ls.getD k dL)
   have hk1:=Hp (a:=ls.getD k dL)
   generalize hlk:ls.getD k dL=lk at *
   generalize lfM ls us (k:Int) (d.2.2.2.1+(t:Int))=lf at *
   have hto:lk.2.1<(ts.length:Int):=by omega
   have hfr:lk.1<(ts.length:Int):=by omega
   have hto':lk.2.1<hn:=by omega
   have hfr':lk.1<hn:=by omega
   have hto0:0≤lk.2.1:=by omega
   have hfr0:0≤lk.1:=by omega
   have hton:lk.2.1.toNat<ts.length:=by omega
   have hfrn:lk.1.toNat<ts.length:=by omega
   have hpF:ts.getD lk.1.toNat 0=tkA ts lk.1:=rfl
   have hpT:ts.getD lk.2.1.toNat 0=tkA ts lk.2.1:=rfl
   have d0:¬0=M2:=by omega
   have d1:¬1=M2:=by omega
   have d2:¬M2=0:=by omega
   have d3:¬M2=1:=by omega
   have hM3:1≤M2:=by omega
   rw [Nat.add_assoc]at hsc hb3
   by_cases x1:tkA ts lk.1≤d.2.2.2.1+(t:Int)
   ·by_cases x2:d.2.2.2.1+((t+1:Nat):Int)<tkA ts lk.2.1
    ·rw [if_pos ⟨x1,x2⟩]at hsc
     have w7:IntKind.i64.wrap (Fy ls us d ts (t*L+k)+lf)=Fy ls us d ts (t*L+(k+1)):=by rw[hsc,Ai (by omega) (by omega)]
     simp +contextual (maxSteps:=4000000) only[↓bdD,bdP,Nat.reduceLT,Nat.reduceBEq,Nat.reduceEqDiff,Nat.reduceAdd,Nat.reduceLeDiff,Store.new,Store.set,↓reduceIte,Ac,Bk,Ab,Bw,B5,ty3,By,Au,A8,AW,Ca,h8,h9,h7',o02,o12,d0,d1,d2,hL,hkL,hki,hlk,hk0,hk1,w6,w7,wk,sp,hA1,hto',hfr',hto0,hfr0,hton,hfrn,hpF,hpT,x1,x2,hM3,AX]
     skip
    ·rw [if_neg (fun g=>x2 g.2),Int.add_zero]at hsc
     simp +contextual (maxSteps:=4000000) only[↓bdD,bdP,Nat.reduceLT,Nat.reduceBEq,Nat.reduceAdd,Nat.reduceLeDiff,Store.new,Store.set,↓reduceIte,Bk,Bw,B5,ty3,By,Au,A8,AW,Ca,h8,h9,h7',o02,o12,d0,d1,d2,hL,hkL,hki,hlk,hk0,hk1,w6,wk,hA1,hto',hfr',hto0,hfr0,hton,hfrn,hpF,hpT,x1,x2,hM3,hsc,AX]
     skip
   ·rw [if_neg (fun g=>x1 g.1),Int.add_zero]at hsc
    simp +contextual (maxSteps:=4000000) only[↓bdD,bdP,Nat.reduceLT,Nat.reduceBEq,Nat.reduceAdd,Nat.reduceLeDiff,Store.new,Store.set,↓reduceIte,Bk,Bw,B5,ty3,By,Au,A8,AW,Ca,h8,h9,h7',o02,o12,d0,d1,d2,hL,hkL,hki,hlk,hk0,wk,hA1,hfr',hfr0,hfrn,hpF,x1,hM3,hsc,AX]
    skip
  ·have e:k=L:=by omega
   rw [e]at h9 h7'
   have hLL:¬(L:Int)<(L:Int):=by omega
   have hs1:(t+1)*L=t*L+L:=Nat.succ_mul _ _
   simp +contextual (maxSteps:=4000000) only[↓bdD,bdP,Nat.reduceLT,Nat.reduceBEq,Nat.reduceAdd,↓reduceIte,By,Au,A8,h8,h9,h7',o02,o12,hL,w6,hs1]
   refine ⟨htD,?_,hM2⟩
   rw [AG (by decide +kernel)]
   simp +contextual (maxSteps:=4000000) only[↓bdD,bdP,Nat.reduceBEq]
 ·have e:t=Ao d:=by omega
  rw [e]at h8 h7
  have hdd:¬d.2.2.2.1+((Ao d:Nat):Int)<d.2.2.2.2:=by omega
  rw [hR1]at h7
  simp +contextual (maxSteps:=4000000) only[↓bdD,bdP,Nat.reduceLT,Nat.reduceBEq,Ah,Nat.reduceAdd,Nat.reduceLeDiff,Store.set,↓reduceIte,ty3,AS,Mn,h8,h7,o0,o1,hdd]
theorem pM:pL:=Afb Afc
noncomputable def HH:(Int)×(List Lnk)×(List Snd)×(Dem)×(List Int)→List PV:=fun (hn,ls,us,d,ts) => [.agg [I hn,Aw ls,Az us,I d.1,I d.2.1,I d.2.2.1,I d.2.2.2.1,I d.2.2.2.2],ints ts]
noncomputable def TL:(Int)×(List Lnk)×(List Snd)×(Dem)×(List Int)→PV:=fun (hn,ls,us,d,ts)=>B (decide (Dm hn ls us d ts=0∧Dx hn ls us d ts<d.2.2.1))
def TM:(Int)×(List Lnk)×(List Snd)×(Dem)×(List Int)→Prop:=fun (hn,ls,us,d,ts)=>True
noncomputable def e_pstops:Nat×Ent:=(21,.v (Ag HH TL TM))
theorem pN:∀i j,HH i=HH j→i=j:=by
 rintro ⟨hn₁,ls₁,us₁,d₁,ts₁⟩ ⟨hn₂,ls₂,us₂,d₂,ts₂⟩ h
 simp only[HH,List.cons.injEq,and_true,PV.lits.injEq,PV.int.injEq,PV.agg.injEq,true_and,CV,AN,AD]at h
 simp [Prod.ext_iff,h] <;> omega
theorem HI (hn:Int) (ls:List Lnk) (us:List Snd) (d:Dem) (ts:List Int):Ag HH TL TM [.agg [I hn,Aw ls,Az us,I d.1,I d.2.1,I d.2.2.1,I d.2.2.2.1,I d.2.2.2.2],ints ts]=some (B (decide (Dm hn ls us d ts=0∧Dx hn ls us d ts<d.2.2.1))):=Ax pN (i:=(hn,ls,us,d,ts)) trivial
def TO:Prop:=∀(hn:Int) (ls:List Lnk) (us:List Snd) (d:Dem) (ts:List Int) ,VC Try.prog 21 [.agg [I hn,Aw ls,Az us,I d.1,I d.2.1,I d.2.2.1,I d.2.2.2.1,I d.2.2.2.2],ints ts] (B (decide (Dm hn ls us d ts=0∧Dx hn ls us d ts<d.2.2.1)))
def TP:Prop:=AL Try.prog e_pstops.1 e_pstops.2
theorem pO (c:TO):TP:=At fun⟨hn,ls,us,d,ts⟩ h=>c hn ls us d ts
theorem pP:TO:=by
 intro hn ls us d ts
 refine A5 AO (l := [e_pbar]) ((Ad Wo An)) [] []  Try.func21 rfl (by decide +kernel) (N:=22) rfl (by simp) rfl (by kernel_rfl) fun hs=>?_
 simp only[AI,PV.small,List.length_map,and_true,true_and]at hs
 have sp:=KV (hn:=hn) (ls:=ls) (us:=us) (d:=d) (ts:=ts)
 dsimp only[Aw,Az,ints]at sp
 generalize Dm hn ls us d ts=e at *
 generalize Dx hn ls us d ts=x at *
 by_cases h:e=0
 ·by_cases c:x<d.2.2.1
  ·rw [decide_eq_true ⟨h,c⟩]
   simp +contextual (maxSteps:=4000000) only[↓bdD,bdP,Nat.reduceLT,Nat.reduceBEq,Ah,Nat.reduceAdd,st0,↓reduceIte,e_pbar,Ac,Ab,Try.f21,ty3,AS,A8,AW,sp,h,c]
  ·rw [decide_eq_false (fun g=>c g.2)]
   simp +contextual (maxSteps:=4000000) only[↓bdD,bdP,Nat.reduceLT,Nat.reduceBEq,Ah,Nat.reduceAdd,st0,↓reduceIte,e_pbar,Ac,Ab,Try.f21,ty3,AS,A8,AW,sp,h,c]
 ·rw [decide_eq_false (fun g=>h g.1)]
  simp +contextual (maxSteps:=4000000) only[↓bdD,bdP,Nat.reduceLT,Nat.reduceBEq,Ah,Nat.reduceAdd,st0,↓reduceIte,e_pbar,Ac,Ab,Try.f21,A8,AW,sp,h]
theorem TQ:TP:=pO pP
noncomputable def HJ:(Int)×(List Lnk)×(List Snd)×(Dem)×(List Int)→List PV:=fun (hn,ls,us,d,ts) => [.agg [I hn,Aw ls,Az us,I d.1,I d.2.1,I d.2.2.1,I d.2.2.2.1,I d.2.2.2.2],ints ts]
noncomputable def TR:(Int)×(List Lnk)×(List Snd)×(Dem)×(List Int)→PV:=fun (hn,ls,us,d,ts)=>B (decide (Dm hn ls us d ts=0∧Dx hn ls us d ts<d.2.2.1))
def TS:(Int)×(List Lnk)×(List Snd)×(Dem)×(List Int)→Prop:=fun (hn,ls,us,d,ts)=>True
noncomputable def e_rstops:Nat×Ent:=(22,.v (Ag HJ TR TS))
theorem pQ:∀i j,HJ i=HJ j→i=j:=by
 rintro ⟨hn₁,ls₁,us₁,d₁,ts₁⟩ ⟨hn₂,ls₂,us₂,d₂,ts₂⟩ h
 simp only[HJ,List.cons.injEq,and_true,PV.lits.injEq,PV.int.injEq,PV.agg.injEq,true_and,CV,AN,AD]at h
 simp [Prod.ext_iff,h] <;> omega
theorem TT (hn:Int) (ls:List Lnk) (us:List Snd) (d:Dem) (ts:List Int):Ag HJ TR TS [.agg [I hn,Aw ls,Az us,I d.1,I d.2.1,I d.2.2.1,I d.2.2.2.1,I d.2.2.2.2],ints ts]=some (B (decide (Dm hn ls us d ts=0∧Dx hn ls us d ts<d.2.2.1))):=Ax pQ (i:=(hn,ls,us,d,ts)) trivial
def TU:Prop:=∀(hn:Int) (ls:List Lnk) (us:List Snd) (d:Dem) (ts:List Int) ,VC Try.prog 22 [.agg [I hn,Aw ls,Az us,I d.1,I d.2.1,I d.2.2.1,I d.2.2.2.1,I d.2.2.2.2],ints ts] (B (decide (Dm hn ls us d ts=0∧Dx hn ls us d ts<d.2.2.1)))
def TV:Prop:=AL Try.prog e_rstops.1 e_rstops.2
theorem pR (c:TU):TV:=At fun⟨hn,ls,us,d,ts⟩ h=>c hn ls us d ts
theorem pS:TU:=by
 intro hn ls us d ts
 refine A5 AO (l := [e_rbar]) ((Ad pM An)) [] []  Try.func22 rfl (by decide +kernel) (N:=20) rfl (by simp) rfl (by kernel_rfl) fun hs=>?_
 simp only[AI,PV.small,List.length_map,and_true,true_and]at hs
 have sp:=Wp (hn:=hn) (ls:=ls) (us:=us) (d:=d) (ts:=ts)
 dsimp only[Aw,Az,ints]at sp
 generalize Dm hn ls us d ts=e at *
 generalize Dx hn ls us d ts=x at *
 by_cases h:e=0
 ·by_cases c:x<d.2.2.1
  ·rw [decide_eq_true ⟨h,c⟩]
   simp +contextual (maxSteps:=4000000) only[↓bdD,bdP,Nat.reduceLT,Nat.reduceBEq,Ah,Nat.reduceAdd,st0,Store.new,Store.set,↓reduceIte,e_rbar,Ac,Ab,Try.f22,ty3,AS,A8,aE,Mn,AW,sp,h,c]
  ·rw [decide_eq_false (fun g=>c g.2)]
   simp +contextual (maxSteps:=4000000) only[↓bdD,bdP,Nat.reduceLT,Nat.reduceBEq,Ah,Nat.reduceAdd,st0,Store.new,Store.set,↓reduceIte,e_rbar,Ac,Ab,Try.f22,ty3,AS,A8,aE,Mn,AW,sp,h,c]
 ·rw [decide_eq_false (fun g=>h g.1)]
  simp +contextual (maxSteps:=4000000) only[↓bdD,bdP,Nat.reduceLT,Nat.reduceBEq,Ah,Nat.reduceAdd,st0,Store.new,Store.set,↓reduceIte,e_rbar,Ac,Ab,Try.f22,A8,aE,Mn,AW,sp,h]
theorem pT:TV:=pR pS
end Sim
