/- What functions of this seat compute, by values: contracts (lemmas of the statement's proof, under the conditions that each names). -/
import Derived.Test.YtppljhpecoeakaaQLM
import Derived.Test.YtppljhpecoeakaaQCP
set_option maxRecDepth 10000
set_option maxHeartbeats 4000000
set_option linter.unusedVariables false
set_option linter.unusedSimpArgs false
namespace Sim
open Go Go.Proofs
attribute [local congr] Am An Ai Aw Ap Ao As
abbrev frV (hn:Int) (ls:List Lnk) (us:List Snd) (d:Dem):PV:=.agg [I hn,AC ls,AA us,I d.1,I d.2.1,I d.2.2.1,I d.2.2.2.1,I d.2.2.2.2]
abbrev frP (hn:Int) (ls:List Lnk) (us:List Snd) (d:Dem):PV:=.vptr [I hn,AC ls,AA us,I d.1,I d.2.1,I d.2.2.1,I d.2.2.2.1,I d.2.2.2.2] 0
def lfM (ls:List Lnk) (us:List Snd) (link tick:Int):Int:=DH ls link tick-Bx us link tick us.length
def rnO (ob:Nat→Option IObj) (M:Nat) (us:List Snd):Nat→Option IObj:=fun i=>if i=M then some (.map 0 (.ints 2) (us.map tkE))else if i=M+1 then some (.arr 0 1 [.mref M 0])else ob i
abbrev rnF (hn:Int) (ls:List Lnk) (us:List Snd) (d:Dem) (M:Nat):PV:=.func (.func 53) [] [frP hn ls us d,.ptr (M+1) 0 0 0]
structure RW where
 hn : Int
 ls : List Lnk
 us : List Snd
 d : Dem
def Hu (x:RW):List PV := [frV x.hn x.ls x.us x.d]
def IP (x:RW) (_st:Store):Prop:=BZ x.hn x.ls x.us=0
def CG (x:RW) (st:Store):PV×Store:=(rnF x.hn x.ls x.us x.d st.next,⟨rnO st.obj st.next x.us,st.next+2⟩)
theorem uL {K:Nat→Prop} {l:List Snd}:(AA l).In K:=.lits _ _ fun e he c hc=>by
 obtain ⟨s,_,rfl⟩:=List.mem_map.1 he
 simp [PV.cells]at hc
 rcases hc with rfl | rfl | rfl <;> exact .int _ _
theorem uM {K:Nat→Prop} {l:List Lnk}:(AC l).In K:=.lits _ _ fun e he c hc=>by
 obtain ⟨s,_,rfl⟩:=List.mem_map.1 he
 simp only[PV.cells,lkC,List.mem_cons,List.mem_append,List.mem_map]at hc
 rcases hc with rfl | rfl | ⟨_,_,rfl⟩ | ⟨_,_,rfl⟩ <;> exact .int _ _
structure RnI (ob:Nat→Option IObj) (M:Nat) (es:List (PV×PV)) (S:Store):Prop where
 mp : S.obj M=some (.map 0 (.ints 2) es)
 cl : S.obj (M+1)=some (.arr 0 1 [.mref M 0])
 fr : ∀i o,ob i=some o→S.obj i=some o
 nx : M+2≤S.next
theorem RnI.step {ob:Nat→Option IObj} {M:Nat} {es es':List (PV×PV)} {O:Nat→Option IObj} {nx:Nat} (h:RnI ob M es ⟨O,nx⟩) (r0:∀i o,ob i=some o→i<M) {x:Option IObj}:RnI ob M es' ⟨Aa (Aa O nx x) M (some (.map 0 (.ints 2) es')),nx+1⟩:=by
 obtain ⟨h1,h2,h3,h4⟩:=h
 dsimp only at *
 refine ⟨?_,?_,fun i o hi=>?_,by dsimp only;omega⟩ <;> simp only[Aa]
 ·rw [if_pos trivial]
 ·rw [if_neg (by omega),if_neg (by omega)];exact h2
 ·have := r0 i o hi
  rw [if_neg (by omega),if_neg (by omega)];exact h3 i o hi
theorem jO {x:RW} {st:Store} (wf:WF st) (hx:IP x st):IXC Try.prog 36 (Hu x) st (LU st (CG x st).1 (CG x st).2):=by
 obtain ⟨hn,ls,us,d⟩:=x
 obtain ⟨ob,M⟩:=st
 have hf:BZ hn ls us=0:=hx
 have r0:=wf
 obtain ⟨ok,_⟩:=Ch hf
 simp only[Hu]
 generalize hR1:(CG ⟨hn,ls,us,d⟩ ⟨ob,M⟩).1=R1
 generalize hR2:(CG ⟨hn,ls,us,d⟩ ⟨ob,M⟩).2=R2
 have r0:∀i o,ob i=some o→i<M:=r0
 refine B7 AV (l := []) (At) [] [] 0 Try.func36 rfl (by decide +kernel) (N:=24) rfl (by simp) rfl (by kernel_rfl) ?_
 simp +contextual (maxSteps:=4000000) only[↓bdD,bdP,Nat.reduceLT,Nat.reduceBEq,Nat.reduceAdd,Nat.reduceLeDiff,reduceCtorEq,Store.new,Store.set,↓reduceIte,Try.f36,AR,Bz,H1]
 have hul:=ok.len
 have hll:=ok.net.len
 refine Az [5,10,11,12,13,14,15,16,17,18,19,20,21,22] us.length (fun k ρ st'=>ρ 10=I k∧RnI ob M ((us.take k).map tkE) st') (.refl _) ?_ ?_
 ·simp +contextual (maxSteps:=4000000) only[↓bdD,bdP]
  refine ⟨?_,?_,fun i o hi=>?_,Nat.le_refl _⟩
  ·simp [Aa]
  ·simp [Aa]
  ·have := r0 i o hi
   simp [Aa,show ¬i=M by omega,show ¬i=M+1 by omega,hi]
 rintro k ρ ⟨O,nx⟩ hk ⟨h10,hI⟩
 by_cases hlt:k<us.length
 ·have hwk:=BC (k:=k) (by omega)
  have hmp:=hI.mp
  have hcl:=hI.cl
  have hstep:=Qe ok hlt
  have e1:=ok.link k hlt
  have e2:=ok.tick k hlt
  generalize hx:us.getD k dS=x at *
  have hkey:=FH (a:=x.1) (b:=x.2.1) (by omega) (by omega)
  dsimp only at hmp hcl
  have hnx:=hI.nx
  dsimp only at hnx
  have d1:¬M=nx:=by omega
  have d2:¬nx=M:=by omega
  have d3:¬M+1=nx:=by omega
  have d4:¬nx=M+1:=by omega
  simp +contextual (maxSteps:=4000000) only[↓bdD,bdP,Nat.reduceLT,Nat.reduceBEq,Nat.reduceAdd,Nat.reduceLeDiff,Store.new,Store.set,↓reduceIte,A3,ty3,AR,CJ,Gc,H1,h10,hlt,hwk,hx,hmp,hcl,hkey,hstep,d1,d3,AX]
  exact hI.step r0
 ·have e:k=us.length:=by omega
  subst e
  rw [List.take_length]at hI
  simp +contextual (maxSteps:=4000000) only[↓bdD,bdP,Nat.reduceLT,Nat.reduceBEq,Ar,↓reduceIte,h10]
  rw [←hR1,←hR2]
  refine ⟨[],.inl rfl,fun i o hi=>?_,by dsimp only[CG];omega,?_⟩
  ·dsimp only[CG,rnO]at hi ⊢
   split at hi
   ·rename_i e;subst e;cases hi
    refine ⟨by omega,rfl,hI.mp,.inr fun e he=>?_⟩
    obtain ⟨s,_,rfl⟩:=List.mem_map.1 he
    exact ⟨.agg _ fun c hc=>by simp at hc;rcases hc with rfl | rfl <;> exact .int _ _,.int _ _⟩
   ·split at hi
    ·rename_i e;subst e;cases hi
     refine ⟨by omega,rfl,hI.cl,.inr fun e he c hc=>?_⟩
     simp at he;subst he
     simp [PV.cells]at hc;subst hc
     exact .mref _ _ (by omega)
    ·have := r0 i o hi
     exact ⟨by omega,rfl,hI.fr i o hi,.inl hi⟩
  ·refine .func _ _ _ (fun c hc=>by simp at hc) fun c hc=>?_
   simp only[List.mem_cons,List.not_mem_nil,or_false]at hc
   rcases hc with rfl | rfl
   ·refine .vptr _ _ fun c hc=>?_
    simp only[List.mem_cons,List.not_mem_nil,or_false]at hc
    rcases hc with rfl | rfl | rfl | rfl | rfl | rfl | rfl | rfl <;> first | exact .int _ _ | exact uM | exact uL
   ·exact .ptr _ _ _ _ (by dsimp only[CG];omega)
noncomputable def e_runs:Nat×Ent:=(36,.x (Bc Hu IP CG))
theorem Qi:AT Try.prog e_runs.1 e_runs.2:=Fz fun _ st hx=>IXC.of_wf (jO (st:=⟨fun _=>none,0⟩) (fun i o h=>by cases h) hx).1 fun wf=>jO wf hx
theorem Aaz (a b:RW) (st:Store) (h:Hu a=Hu b) (hx:IP a st) (hy:IP b st):CG a st=CG b st:=by
 obtain ⟨a1,a2,a3,a4,a5,a6,a7,a8⟩:=a
 obtain ⟨b1,b2,b3,b4,b5,b6,b7,b8⟩:=b
 simp only[Hu,frV,List.cons.injEq,PV.agg.injEq,PV.int.injEq,PV.lits.injEq,AN,AY,true_and,and_true]at h
 obtain ⟨rfl,rfl,rfl,rfl,rfl,rfl,rfl,rfl⟩:=h
 rfl
theorem MA (x:RW) {st:Store} (h:IP x st):Bc Hu IP CG [frV x.hn x.ls x.us x.d] st=some (CG x st):=Bn Aaz (i:=x) h
theorem Zw {l:List PV} (h:l.length=50) {a b x y:PV}:List.take 51 (List.take 50 (l ++ [a,b]) ++ [x]++List.drop 51 (l ++ [a,b])) ++ [y]++List.drop 52 (List.take 50 (l ++ [a,b]) ++ [x]++List.drop 51 (l ++ [a,b]))=l ++ [x,y]:=by
 have e1:List.take 50 (l ++ [a,b])=l:=List.take_left' h
 have e2:List.drop 51 (l ++ [a,b]) = [b]:=by rw[List.drop_append,h,List.drop_of_length_le (by omega)];rfl
 rw [e1,e2,List.take_left' (by simp[h]),List.drop_of_length_le (by simp[h])]
 simp
def Ey (ls:List Lnk) (us:List Snd) (r:Int) (k t:Nat):List PV:=I (k:Nat)::I (r+(t:Int))::(lkC (ls.getD k dL) ++ [I (lfM ls us (k:Nat) (r+(t:Int))),I (ET ls (k:Nat) (r+(t:Int)))])
abbrev uO (ls:List Lnk) (us:List Snd) (r:Int) (k t:Nat):PV:=.agg (Ey ls us r k t)
def rnG (M:Nat) (us:List Snd) (st:Store):Prop:=st.obj M=some (.map 0 (.ints 2) (us.map tkE))∧st.obj (M+1)=some (.arr 0 1 [.mref M 0])
def IQ (ls:List Lnk) (us:List Snd) (r:Int) (D:Nat):List (List PV):=(List.range (D*ls.length)).map fun i => [uO ls us r (i % ls.length) (i / ls.length)]
theorem Qj {hn:Int} {ls:List Lnk} {us:List Snd} {d:Dem} {M D:Nat} (hf:BZ hn ls us=0) (hd:d.2.2.2.2=d.2.2.2.1+(D:Nat)) (hr0:0≤d.2.2.2.1) (hd1:d.2.2.2.2≤1000000) :
  K4 (rnG M us) Try.prog 0 53 [] [frP hn ls us d,.ptr (M+1) 0 0 0] (IQ ls us d.2.2.2.1 D):=by
 refine LV (rnG M us) (l := []) At [] [] 0 Try.func53 rfl (by decide +kernel) rfl (N:=52) rfl (by simp) (fun y=>by kernel_rfl) fun y H J E st0 hm h0 hstab hG hy=>?_
 obtain ⟨ok,_⟩:=Ch hf
 obtain ⟨df,dt,db,dr,dd⟩:=d
 dsimp only at hd hr0 hd1 ⊢
 obtain ⟨ob0,M0⟩:=st0
 have hll:=ok.net.len
 obtain ⟨L,hL⟩:∃L,ls.length=L:=⟨_,rfl⟩
 have hlen:(IQ ls us dr D).length=D*L:=by unfold IQ;rw[List.length_map,List.length_range,hL]
 dsimp only at hy
 rw [hlen]
 have hy':∀ {t k:Nat},t<D→k<L→(IQ ls us dr D)[t*L+k]?=some [uO ls us dr k t]:=fun {t k} ht hk=>by
  have h1:t*L+k<D*L:=by
   have := Nat.mul_le_mul_right L (show t+1≤D by omega)
   rw [Nat.add_mul,Nat.one_mul]at this
   omega
  unfold IQ
  rw [hL,List.getElem?_map,List.getElem?_range h1,Option.map_some,Nat.mul_comm t L,Nat.mul_add_mod,Nat.mod_eq_of_lt hk,Nat.mul_add_div (by omega),Nat.div_eq_of_lt hk,Nat.add_zero]
 generalize IQ ls us dr D=ys at *
 simp +contextual (maxSteps:=4000000) only[↓bdD,bdP,Nat.reduceLT,Nat.reduceAdd,↓reduceIte,ty3,AZ,Bz]
 refine Az (hm:=hm) [4,5,6,7,8,12,13,14,15,16,17,18,19,20,21,22,23,24,25,26,27,28,29,30,31,32,33,34,35,36,37,38,39,40,41,42,43,44,45,46,47,48,49,50,51] D (fun t ρ st'=>ρ 4=I (dr+(t:Int))∧J (t*L) st') (.refl _) ?_ ?_
 ·simp +contextual (maxSteps:=4000000) only[↓bdD,bdP,Int.add_zero,Nat.zero_mul]
  exact h0
 rintro t ρ ⟨O1,n1⟩ ht ⟨h4,hJ⟩
 by_cases htD:t<D
 ·have hlt:dr+(t:Int)<dd:=by omega
  simp +contextual (maxSteps:=4000000) only[↓bdD,bdP,Nat.reduceLT,Nat.reduceBEq,Nat.reduceAdd,↓reduceIte,ty3,Cy,AH,AZ,Bz,h4,hlt]
  refine Az (hm:=hm) [5,6,7,8,23,24,25,26,27,28,29,30,31,32,33,34,35,36,37,38,39,40,41,42,43,44,45,46,47,48,49,50,51] L (fun k ρ st'=>ρ 23=I k∧J (t*L+k) st') (.refl _) ?_ ?_
  ·simp +contextual (maxSteps:=4000000) only[↓bdD,bdP]
   exact hJ
  rintro k ρ2 ⟨O2,n2⟩ hkL ⟨h23,hJ⟩
  by_cases hk:k<L
  ·have wk:=BC (k:=k) (by omega)
   have hkl:k<ls.length:=by omega
   have hkli:(k:Int)<L:=by omega
   have g1:=hG _ _ hJ
   have b1:=g1.1
   have b2:=g1.2
   dsimp only at b1 b2
   have hyk:=hy' htD hk
   have hcb:=Fc ok.net (link:=(k:Int)) (tick:=dr+(t:Int)) (by omega) (by omega)
   have hfs:=FI hf (k:=(k:Int)) (t:=dr+(t:Int)) ⟨by omega,by omega⟩
   have hget:=Vo ok (a:=(k:Int)) (b:=dr+(t:Int))
   have hkey:=FH (a:=(k:Int)) (b:=dr+(t:Int)) (by omega) (by omega)
   have hnl:=BY hkl
   have h24:=PN (t:=dr+(t:Int)) (by omega)
   unfold uO Ey lfM at hyk
   unfold DH at hyk hcb hfs
   unfold ET at hyk
   rw [Int.toNat_natCast]at hyk hcb hfs
   have hlt24:(dr+(t:Int)).toNat % 24<24:=Nat.mod_lt _ (by omega)
   have hli24:(((dr+(t:Int)).toNat % 24:Nat):Int)<24:=by omega
   generalize (dr+(t:Int)).toNat % 24=hr at *
   have hc1:=Ew (a:=ls.getD k dL) hlt24
   have hc2:=Gd (a:=ls.getD k dL) hlt24
   generalize hlk:ls.getD k dL=lk at *
   generalize Bx us (k:Int) (dr+(t:Int)) us.length=sn at *
   have w5:IntKind.i64.wrap (Fl lk hr-sn)=Fl lk hr-sn:=Ah (by omega) (by omega)
   have hM1:∀o1 o2,J (t*L+k) ⟨Aa (Aa O2 n2 o1) (n2+1) o2,n2+2⟩:=fun o1 o2=>hstab _ _ _ hJ (by simp) (fun x hx=>by
    dsimp only at hx ⊢
    simp only[Aa]
    rw [if_neg (by omega),if_neg (by omega)])
   have gN:=hG _ _ (hM1 none none)
   have d1:¬M=n2:=fun e=>by have:=gN.1;simp[Aa,e]at this
   have d2:¬M=n2+1:=fun e=>by have:=gN.1;simp[Aa,e]at this
   have d3:¬M+1=n2:=fun e=>by have:=gN.2;simp[Aa,e]at this
   have d4:¬n2=n2+1:=by omega
   simp +contextual (maxSteps:=4000000) only[↓bdD,bdP,Nat.reduceLT,Nat.reduceBEq,Nat.reduceAdd,Nat.reduceLeDiff,reduceCtorEq,Int.reduceEq,Store.new,Store.set,↓reduceIte,Nat.reduceBeqDiff,B9,Eb,Nat.mul_one,ty3,Cy,Nu,C7,Gc,Gy,H1,d1,d2,d3,d4,AX,h4,h23,hk,hkli,hL,hnl,h24,hli24,hc1,hc2,hget,hkey,b1,b2,w5,B9,Eb,wk]
   rw [Zw B9]
   refine ⟨by simp[B9],?_⟩
   refine hy _ _ _ _ hyk (hM1 _ _) (fun st2 h2=>?_) (fun st2 h2=>?_)
   ·simp +contextual (maxSteps:=4000000) only[↓bdD,bdP]
    exact h2
   ·simp +contextual (maxSteps:=4000000) only[↓bdD,bdP]
    exact .inr h2
  ·have e:k=L:=by omega
   subst e
   have wt:IntKind.i64.wrap (dr+(t:Int)+1)=dr+((t+1:Nat):Int):=by rw[Ah (by omega) (by omega)];omega
   rw [show t*k+k=(t+1)*k by rw[Nat.add_mul,Nat.one_mul]]at hJ
   simp +contextual (maxSteps:=4000000) only[↓bdD,bdP,Nat.reduceLT,Nat.reduceBEq,↓reduceIte,h4,h23,wt,hL]
   refine ⟨htD,?_,hJ⟩
   ·rw [AB (by decide +kernel)]
    simp +contextual (maxSteps:=4000000) only[↓bdD,bdP,Nat.reduceBEq]
 ·have e:t=D:=by omega
  subst e
  have hdd:¬dr+(t:Int)<dd:=by omega
  simp +contextual (maxSteps:=4000000) only[↓bdD,bdP,Nat.reduceLT,Nat.reduceBEq,Nat.reduceAdd,reduceCtorEq,↓reduceIte,ty3,AZ,Bz,h4,hdd]
  exact .inl hJ
end Sim
namespace Sim
open Go Go.Proofs
attribute [local congr] Am An Ai Aw Ap Ao As
def CU (hn:Int) (ls:List Lnk) (us:List Snd) (d:Dem):Int:=if En hn ls us d≠0 then En hn ls us d else if 4194304<d.2.2.1 then 2 else 0
noncomputable def Hv:(Int)×(List Lnk)×(List Snd)×(Dem)→List PV:=fun (hn,ls,us,d) => [.agg [I hn,AC ls,AA us,I d.1,I d.2.1,I d.2.2.1,I d.2.2.2.1,I d.2.2.2.2]]
noncomputable def SL:(Int)×(List Lnk)×(List Snd)×(Dem)→PV:=fun (hn,ls,us,d)=>I (CU hn ls us d)
def SM:(Int)×(List Lnk)×(List Snd)×(Dem)→Prop:=fun (hn,ls,us,d)=>True
noncomputable def e_pcheck:Nat×Ent:=(15,.v (Al Hv SL SM))
theorem jP:∀i j,Hv i=Hv j→i=j:=by
 rintro ⟨hn₁,ls₁,us₁,d₁⟩ ⟨hn₂,ls₂,us₂,d₂⟩ h
 simp only[Hv,List.cons.injEq,and_true,PV.lits.injEq,PV.int.injEq,PV.agg.injEq,true_and,AY,AN]at h
 simp [Prod.ext_iff,h] <;> omega
theorem Bo (hn:Int) (ls:List Lnk) (us:List Snd) (d:Dem):Al Hv SL SM [.agg [I hn,AC ls,AA us,I d.1,I d.2.1,I d.2.2.1,I d.2.2.2.1,I d.2.2.2.2]]=some (I (CU hn ls us d)):=AD jP (i:=(hn,ls,us,d)) trivial
def SN:Prop:=∀(hn:Int) (ls:List Lnk) (us:List Snd) (d:Dem) ,VC Try.prog 15 [.agg [I hn,AC ls,AA us,I d.1,I d.2.1,I d.2.2.1,I d.2.2.2.1,I d.2.2.2.2]] (I (CU hn ls us d))
def SP:Prop:=AT Try.prog e_pcheck.1 e_pcheck.2
theorem jQ (c:SN):SP:=Ay fun⟨hn,ls,us,d⟩ h=>c hn ls us d
theorem jR:SN:=by
 intro hn ls us d
 refine Bk AV (l := [e_fcheck]) ((Ae SJ At)) [] []  Try.func15 rfl (by decide +kernel) (N:=18) rfl (by simp) rfl (by kernel_rfl) fun hs=>?_
 simp only[AJ,PV.small,List.length_map,and_true,true_and]at hs
 unfold CU
 by_cases h1:En hn ls us d=0
 case neg =>
  rw [if_pos h1]
  have sp:=Ht (hn:=hn) (ls:=ls) (us:=us) (d:=d)
  dsimp only[CR,AC,AA]at sp
  generalize hr:En hn ls us d=r at *
  simp +contextual (maxSteps:=4000000) only[↓bdD,bdP,Nat.reduceLT,Nat.reduceBEq,Ar,Nat.reduceAdd,Nat.reduceLeDiff,st0,↓reduceIte,e_fcheck,Ad,Ab,Try.f15,AH,AR,AZ,Bz,h1,sp]
 rw [if_neg (fun g=>g h1)]
 have sp:=Ht (hn:=hn) (ls:=ls) (us:=us) (d:=d)
 rw [h1]at sp
 dsimp only[CR,AC,AA]at sp
 by_cases h2:4194304<d.2.2.1
 ·rw [if_pos h2]
  simp +contextual (maxSteps:=4000000) only[↓bdD,bdP,Nat.reduceLT,Nat.reduceBEq,Ar,Nat.reduceAdd,Nat.reduceLeDiff,st0,↓reduceIte,e_fcheck,Ad,Ab,Try.f15,ty3,AH,AR,AZ,Bz,h2,sp]
 ·rw [if_neg h2]
  simp +contextual (maxSteps:=4000000) only[↓bdD,bdP,Nat.reduceLT,Nat.reduceBEq,Ar,Nat.reduceAdd,Nat.reduceLeDiff,st0,↓reduceIte,e_fcheck,Ad,Ab,Try.f15,ty3,AH,AR,AZ,Bz,h2,sp]
theorem FK:SP:=jQ jR
def Vq (hn:Int) (ls:List Lnk) (us:List Snd) (d:Dem) (span:Int):Bool:=decide (hn≤5)&&(decide (ls.length≤8)&&(decide (us.length≤20)&&(decide (IntKind.i64.wrap (d.2.2.2.2-d.2.2.2.1)≤span)||decide (32<IntKind.i64.wrap (d.2.2.2.2-d.2.2.2.1)))))
noncomputable def SQ:(Int)×(List Lnk)×(List Snd)×(Dem)×(Int)→List PV:=fun (hn,ls,us,d,span) => [.agg [I hn,AC ls,AA us,I d.1,I d.2.1,I d.2.2.1,I d.2.2.2.1,I d.2.2.2.2],I span]
noncomputable def wM:(Int)×(List Lnk)×(List Snd)×(Dem)×(Int)→PV:=fun (hn,ls,us,d,span)=>B (Vq hn ls us d span)
def wO:(Int)×(List Lnk)×(List Snd)×(Dem)×(Int)→Prop:=fun (hn,ls,us,d,span)=>True
noncomputable def e_few:Nat×Ent:=(10,.v (Al SQ wM wO))
theorem Aed:∀i j,SQ i=SQ j→i=j:=by
 rintro ⟨hn₁,ls₁,us₁,d₁,span₁⟩ ⟨hn₂,ls₂,us₂,d₂,span₂⟩ h
 simp only[SQ,List.cons.injEq,and_true,PV.lits.injEq,PV.int.injEq,PV.agg.injEq,true_and,AY,AN]at h
 simp [Prod.ext_iff,h] <;> omega
theorem WJ (hn:Int) (ls:List Lnk) (us:List Snd) (d:Dem) (span:Int):Al SQ wM wO [.agg [I hn,AC ls,AA us,I d.1,I d.2.1,I d.2.2.1,I d.2.2.2.1,I d.2.2.2.2],I span]=some (B (Vq hn ls us d span)):=AD Aed (i:=(hn,ls,us,d,span)) trivial
def wP:Prop:=∀(hn:Int) (ls:List Lnk) (us:List Snd) (d:Dem) (span:Int) ,VC Try.prog 10 [.agg [I hn,AC ls,AA us,I d.1,I d.2.1,I d.2.2.1,I d.2.2.2.1,I d.2.2.2.2],I span] (B (Vq hn ls us d span))
def wQ:Prop:=AT Try.prog e_few.1 e_few.2
theorem Aee (c:wP):wQ:=Ay fun⟨hn,ls,us,d,span⟩ h=>c hn ls us d span
theorem Aef:wP:=by
 intro hn ls us d span
 refine Bk AV (l := []) (At) [] []  Try.func10 rfl (by decide +kernel) (N:=39) rfl (by simp) rfl (by kernel_rfl) fun hs=>?_
 simp only[AJ,PV.small,List.length_map,and_true,true_and]at hs
 unfold Vq
 generalize hw:IntKind.i64.wrap (d.2.2.2.2-d.2.2.2.1)=w at *
 by_cases h1:hn≤5
 case neg=>simp +contextual (maxSteps:=4000000) only[↓bdD,bdP,Nat.reduceLT,Nat.reduceBEq,Ar,Nat.reduceAdd,st0,↓reduceIte,Try.f10,ty3,AH,AZ,Bz,Bool.false_and,h1,hw]
 by_cases h2:ls.length≤8
 case neg =>
  have h2i:¬(ls.length:Int)≤8:=by omega
  simp +contextual (maxSteps:=4000000) only[↓bdD,bdP,Nat.reduceLT,Nat.reduceBEq,Ar,Nat.reduceAdd,st0,↓reduceIte,Try.f10,ty3,Cy,AH,AZ,Bz,Bool.false_and,h1,h2,h2i,hw]
 have h2i:(ls.length:Int)≤8:=by omega
 by_cases h3:us.length≤20
 case neg =>
  have h3i:¬(us.length:Int)≤20:=by omega
  simp +contextual (maxSteps:=4000000) only[↓bdD,bdP,Nat.reduceLT,Nat.reduceBEq,Ar,Nat.reduceAdd,st0,↓reduceIte,Try.f10,ty3,Cy,AH,AR,AZ,Bz,Bool.false_and,h1,h2,h2i,h3,h3i,hw]
 have h3i:(us.length:Int)≤20:=by omega
 by_cases h4:w≤span
 ·simp +contextual (maxSteps:=4000000) only[↓bdD,bdP,Nat.reduceLT,Nat.reduceBEq,Ar,Nat.reduceAdd,st0,↓reduceIte,Try.f10,ty3,Cy,AH,AR,AZ,Bz,h1,h2,h2i,h3,h3i,h4,hw]
 ·by_cases h5:32<w
  ·simp +contextual (maxSteps:=4000000) only[↓bdD,bdP,Nat.reduceLT,Nat.reduceBEq,Ar,Nat.reduceAdd,st0,↓reduceIte,Try.f10,ty3,Cy,AH,AR,AZ,Bz,h1,h2,h2i,h3,h3i,h4,h5,hw]
  ·simp +contextual (maxSteps:=4000000) only[↓bdD,bdP,Nat.reduceLT,Nat.reduceBEq,Ar,Nat.reduceAdd,st0,↓reduceIte,Try.f10,ty3,Cy,AH,AR,AZ,Bz,h1,h2,h2i,h3,h3i,h4,h5,hw]
theorem Aeg:wQ:=Aee Aef
abbrev Ez (y:List (List Int)):PV:=.lits 1 (y.map ints)
theorem CV {y:List (List Int)} {k:Nat} (h:k<y.length):nth (y.map ints) k=.lits 1 ((y.getD k []).map (PV.int .i64)):=D7 [] h
theorem CW {y:List (List Int)}:AL (y.map ints)=true:=HK fun x=>by rw[LO,Hb]
theorem JM {y z:List (List Int)}:(y.map ints=z.map ints)=(y=z):=HL fun x y h=>by
 simp only[ints,PV.lits.injEq,true_and]at h
 rwa [DF]at h
theorem Zx {y:List (List Int)} (h:AJ (y.map ints)) {k:Nat}:(y.getD k []).length≤9223372036854775807:=by
 induction y generalizing k with
 | nil=>simp
 | cons l y ih =>
  simp only[List.map_cons,AJ,ints,PV.small]at h
  cases k with
  | zero=>simpa using h.1.1
  | succ k=>simpa using ih h.2 (k:=k)
end Sim
