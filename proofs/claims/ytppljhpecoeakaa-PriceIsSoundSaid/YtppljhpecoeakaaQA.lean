/- What functions of this seat compute, by values: contracts (lemmas of the statement's proof, under the conditions that each names). -/
import Derived.Test.YtppljhpecoeakaaQLM
import Derived.Test.YtppljhpecoeakaaQCP
set_option maxRecDepth 10000
set_option maxHeartbeats 4000000
set_option linter.unusedVariables false
set_option linter.unusedSimpArgs false
namespace Sim
open Go Go.Proofs
attribute [local congr] Aq Ar Al AG At As Az
abbrev frV (hn:Int) (ls:List Lnk) (us:List Snd) (d:Dem):PV:=.agg [I hn,Ax ls,Av us,I d.1,I d.2.1,I d.2.2.1,I d.2.2.2.1,I d.2.2.2.2]
abbrev frP (hn:Int) (ls:List Lnk) (us:List Snd) (d:Dem):PV:=.vptr [I hn,Ax ls,Av us,I d.1,I d.2.1,I d.2.2.1,I d.2.2.2.1,I d.2.2.2.2] 0
def lfM (ls:List Lnk) (us:List Snd) (link tick:Int):Int:=CT ls link tick-Ba us link tick us.length
def rnO (ob:Nat→Option IObj) (M:Nat) (us:List Snd):Nat→Option IObj:=fun i=>if i=M then some (.map 0 (.ints 2) (us.map tkE))else if i=M+1 then some (.arr 0 1 [.mref M 0])else ob i
abbrev rnF (hn:Int) (ls:List Lnk) (us:List Snd) (d:Dem) (M:Nat):PV:=.func (.func 53) [] [frP hn ls us d,.ptr (M+1) 0 0 0]
structure RW where
 hn : Int
 ls : List Lnk
 us : List Snd
 d : Dem
def HP (x:RW):List PV := [frV x.hn x.ls x.us x.d]
def Jk (x:RW) (_st:Store):Prop:=Br x.hn x.ls x.us=0
def CW (x:RW) (st:Store):PV×Store:=(rnF x.hn x.ls x.us x.d st.next,⟨rnO st.obj st.next x.us,st.next+2⟩)
theorem Aaj {K:Nat→Prop} {l:List Snd}:(Av l).In K:=.lits _ _ fun e he c hc=>by
 obtain ⟨s,_,rfl⟩:=List.mem_map.1 he
 simp [PV.cells]at hc
 rcases hc with rfl | rfl | rfl <;> exact .int _ _
theorem Aak {K:Nat→Prop} {l:List Lnk}:(Ax l).In K:=.lits _ _ fun e he c hc=>by
 obtain ⟨s,_,rfl⟩:=List.mem_map.1 he
 simp only[PV.cells,lkC,List.mem_cons,List.mem_append,List.mem_map]at hc
 rcases hc with rfl | rfl | ⟨_,_,rfl⟩ | ⟨_,_,rfl⟩ <;> exact .int _ _
structure RnI (ob:Nat→Option IObj) (M:Nat) (es:List (PV×PV)) (S:Store):Prop where
 mp : S.obj M=some (.map 0 (.ints 2) es)
 cl : S.obj (M+1)=some (.arr 0 1 [.mref M 0])
 fr : ∀i o,ob i=some o→S.obj i=some o
 nx : M+2≤S.next
theorem RnI.step {ob:Nat→Option IObj} {M:Nat} {es es':List (PV×PV)} {O:Nat→Option IObj} {nx:Nat} (h:RnI ob M es ⟨O,nx⟩) (r0:∀i o,ob i=some o→i<M) {x:Option IObj}:RnI ob M es' ⟨Aa (Aa O nx x) M (some (.map 0 (.ints 2) es')),nx+1⟩:=by
 obtain ⟨h1,h2,h3,h4⟩:=h
 dsimp only at *
 refine ⟨?_,?_,fun i o hi=>?_,by dsimp only;omega⟩ <;> simp only[Aa]
 ·rw [if_pos trivial]
 ·rw [if_neg (by omega),if_neg (by omega)];exact h2
 ·have := r0 i o hi
  rw [if_neg (by omega),if_neg (by omega)];exact h3 i o hi
theorem pE {x:RW} {st:Store} (wf:WF st) (hx:Jk x st):IXC Try.prog 36 (HP x) st (Mt st (CW x st).1 (CW x st).2):=by
 obtain ⟨hn,ls,us,d⟩:=x
 obtain ⟨ob,M⟩:=st
 have hf:Br hn ls us=0:=hx
 have r0:=wf
 obtain ⟨ok,_⟩:=Cf hf
 simp only[HP]
 generalize hR1:(CW ⟨hn,ls,us,d⟩ ⟨ob,M⟩).1=R1
 generalize hR2:(CW ⟨hn,ls,us,d⟩ ⟨ob,M⟩).2=R2
 have r0:∀i o,ob i=some o→i<M:=r0
 refine Cj AP (l := []) (An) [] [] 0 Try.func36 rfl (by decide +kernel) (N:=24) rfl (by simp) rfl (by kernel_rfl) ?_
 simp +contextual (maxSteps:=4000000) only[↓bdD,bdP,Nat.reduceLT,Nat.reduceBEq,Nat.reduceAdd,Nat.reduceLeDiff,reduceCtorEq,Store.new,Store.set,↓reduceIte,Try.f36,AB,Bd,Ix]
 have hul:=ok.len
 have hll:=ok.net.len
 refine Ay [5,10,11,12,13,14,15,16,17,18,19,20,21,22] us.length (fun k ρ st'=>ρ 10=I k∧RnI ob M ((us.take k).map tkE) st') (.refl _) ?_ ?_
 ·simp +contextual (maxSteps:=4000000) only[↓bdD,bdP]
  refine ⟨?_,?_,fun i o hi=>?_,Nat.le_refl _⟩
  ·simp [Aa]
  ·simp [Aa]
  ·have := r0 i o hi
   simp [Aa,show ¬i=M by omega,show ¬i=M+1 by omega,hi]
 rintro k ρ ⟨O,nx⟩ hk ⟨h10,hI⟩
 by_cases hlt:k<us.length
 ·have hwk:=BO (k:=k) (by omega)
  have hmp:=hI.mp
  have hcl:=hI.cl
  have hstep:=Rk ok hlt
  have e1:=ok.link k hlt
  have e2:=ok.tick k hlt
  generalize hx:us.getD k dS=x at *
  have hkey:=Gd (a:=x.1) (b:=x.2.1) (by omega) (by omega)
  dsimp only at hmp hcl
  have hnx:=hI.nx
  dsimp only at hnx
  have d1:¬M=nx:=by omega
  have d2:¬nx=M:=by omega
  have d3:¬M+1=nx:=by omega
  have d4:¬nx=M+1:=by omega
  simp +contextual (maxSteps:=4000000) only[↓bdD,bdP,Nat.reduceLT,Nat.reduceBEq,Nat.reduceAdd,Nat.reduceLeDiff,Store.new,Store.set,↓reduceIte,Aw,ty3,AB,Bv,GF,Ix,h10,hlt,hwk,hx,hmp,hcl,hkey,hstep,d1,d3,A5]
  exact hI.step r0
 ·have e:k=us.length:=by omega
  subst e
  rw [List.take_length]at hI
  simp +contextual (maxSteps:=4000000) only[↓bdD,bdP,Nat.reduceLT,Nat.reduceBEq,Ai,↓reduceIte,h10]
  rw [←hR1,←hR2]
  refine ⟨[],.inl rfl,fun i o hi=>?_,by dsimp only[CW];omega,?_⟩
  ·dsimp only[CW,rnO]at hi ⊢
   split at hi
   ·rename_i e;subst e;cases hi
    refine ⟨by omega,rfl,hI.mp,.inr fun e he=>?_⟩
    obtain ⟨s,_,rfl⟩:=List.mem_map.1 he
    exact ⟨.agg _ fun c hc=>by simp at hc;rcases hc with rfl | rfl <;> exact .int _ _,.int _ _⟩
   ·split at hi
    ·rename_i e;subst e;cases hi
     refine ⟨by omega,rfl,hI.cl,.inr fun e he c hc=>?_⟩
     simp at he;subst he
     simp [PV.cells]at hc;subst hc
     exact .mref _ _ (by omega)
    ·have := r0 i o hi
     exact ⟨by omega,rfl,hI.fr i o hi,.inl hi⟩
  ·refine .func _ _ _ (fun c hc=>by simp at hc) fun c hc=>?_
   simp only[List.mem_cons,List.not_mem_nil,or_false]at hc
   rcases hc with rfl | rfl
   ·refine .vptr _ _ fun c hc=>?_
    simp only[List.mem_cons,List.not_mem_nil,or_false]at hc
    rcases hc with rfl | rfl | rfl | rfl | rfl | rfl | rfl | rfl <;> first | exact .int _ _ | exact Aak | exact Aaj
   ·exact .ptr _ _ _ _ (by dsimp only[CW];omega)
noncomputable def e_runs:Nat×Ent:=(36,.x (Bi HP Jk CW))
theorem Rq:AL Try.prog e_runs.1 e_runs.2:=FX fun _ st hx=>IXC.of_wf (pE (st:=⟨fun _=>none,0⟩) (fun i o h=>by cases h) hx).1 fun wf=>pE wf hx
theorem Afp (a b:RW) (st:Store) (h:HP a=HP b) (hx:Jk a st) (hy:Jk b st):CW a st=CW b st:=by
 obtain ⟨a1,a2,a3,a4,a5,a6,a7,a8⟩:=a
 obtain ⟨b1,b2,b3,b4,b5,b6,b7,b8⟩:=b
 simp only[HP,frV,List.cons.injEq,PV.agg.injEq,PV.int.injEq,PV.lits.injEq,AF,AM,true_and,and_true]at h
 obtain ⟨rfl,rfl,rfl,rfl,rfl,rfl,rfl,rfl⟩:=h
 rfl
theorem No (x:RW) {st:Store} (h:Jk x st):Bi HP Jk CW [frV x.hn x.ls x.us x.d] st=some (CW x st):=Bu Afp (i:=x) h
theorem dJ {l:List PV} (h:l.length=50) {a b x y:PV}:List.take 51 (List.take 50 (l ++ [a,b]) ++ [x]++List.drop 51 (l ++ [a,b])) ++ [y]++List.drop 52 (List.take 50 (l ++ [a,b]) ++ [x]++List.drop 51 (l ++ [a,b]))=l ++ [x,y]:=by
 have e1:List.take 50 (l ++ [a,b])=l:=List.take_left' h
 have e2:List.drop 51 (l ++ [a,b]) = [b]:=by rw[List.drop_append,h,List.drop_of_length_le (by omega)];rfl
 rw [e1,e2,List.take_left' (by simp[h]),List.drop_of_length_le (by simp[h])]
 simp
def ET (ls:List Lnk) (us:List Snd) (r:Int) (k t:Nat):List PV:=I (k:Nat)::I (r+(t:Int))::(lkC (ls.getD k dL) ++ [I (lfM ls us (k:Nat) (r+(t:Int))),I (D3 ls (k:Nat) (r+(t:Int)))])
abbrev Aal (ls:List Lnk) (us:List Snd) (r:Int) (k t:Nat):PV:=.agg (ET ls us r k t)
def rnG (M:Nat) (us:List Snd) (st:Store):Prop:=st.obj M=some (.map 0 (.ints 2) (us.map tkE))∧st.obj (M+1)=some (.arr 0 1 [.mref M 0])
def Jl (ls:List Lnk) (us:List Snd) (r:Int) (D:Nat):List (List PV):=(List.range (D*ls.length)).map fun i => [Aal ls us r (i % ls.length) (i / ls.length)]
theorem Rr {hn:Int} {ls:List Lnk} {us:List Snd} {d:Dem} {M D:Nat} (hf:Br hn ls us=0) (hd:d.2.2.2.2=d.2.2.2.1+(D:Nat)) (hr0:0≤d.2.2.2.1) (hd1:d.2.2.2.2≤1000000) :
  LD (rnG M us) Try.prog 0 53 [] [frP hn ls us d,.ptr (M+1) 0 0 0] (Jl ls us d.2.2.2.1 D):=by
 refine Mu (rnG M us) (l := []) An [] [] 0 Try.func53 rfl (by decide +kernel) rfl (N:=52) rfl (by simp) (fun y=>by kernel_rfl) fun y H J E st0 hm h0 hstab hG hy=>?_
 obtain ⟨ok,_⟩:=Cf hf
 obtain ⟨df,dt,db,dr,dd⟩:=d
 dsimp only at hd hr0 hd1 ⊢
 obtain ⟨ob0,M0⟩:=st0
 have hll:=ok.net.len
 obtain ⟨L,hL⟩:∃L,ls.length=L:=⟨_,rfl⟩
 have hlen:(Jl ls us dr D).length=D*L:=by unfold Jl;rw[List.length_map,List.length_range,hL]
 dsimp only at hy
 rw [hlen]
 have hy':∀ {t k:Nat},t<D→k<L→(Jl ls us dr D)[t*L+k]?=some [Aal ls us dr k t]:=fun {t k} ht hk=>by
  have h1:t*L+k<D*L:=by
   have := Nat.mul_le_mul_right L (show t+1≤D by omega)
   rw [Nat.add_mul,Nat.one_mul]at this
   omega
  unfold Jl
  rw [hL,List.getElem?_map,List.getElem?_range h1,Option.map_some,Nat.mul_comm t L,Nat.mul_add_mod,Nat.mod_eq_of_lt hk,Nat.mul_add_div (by omega),Nat.div_eq_of_lt hk,Nat.add_zero]
 generalize Jl ls us dr D=ys at *
 simp +contextual (maxSteps:=4000000) only[↓bdD,bdP,Nat.reduceLT,Nat.reduceAdd,↓reduceIte,ty3,AQ,Bd]
 refine Ay (hm:=hm) [4,5,6,7,8,12,13,14,15,16,17,18,19,20,21,22,23,24,25,26,27,28,29,30,31,32,33,34,35,36,37,38,39,40,41,42,43,44,45,46,47,48,49,50,51] D (fun t ρ st'=>ρ 4=I (dr+(t:Int))∧J (t*L) st') (.refl _) ?_ ?_
 ·simp +contextual (maxSteps:=4000000) only[↓bdD,bdP,Int.add_zero,Nat.zero_mul]
  exact h0
 rintro t ρ ⟨O1,n1⟩ ht ⟨h4,hJ⟩
 by_cases htD:t<D
 ·have hlt:dr+(t:Int)<dd:=by omega
  simp +contextual (maxSteps:=4000000) only[↓bdD,bdP,Nat.reduceLT,Nat.reduceBEq,Nat.reduceAdd,↓reduceIte,ty3,By,Au,AQ,Bd,h4,hlt]
  refine Ay (hm:=hm) [5,6,7,8,23,24,25,26,27,28,29,30,31,32,33,34,35,36,37,38,39,40,41,42,43,44,45,46,47,48,49,50,51] L (fun k ρ st'=>ρ 23=I k∧J (t*L+k) st') (.refl _) ?_ ?_
  ·simp +contextual (maxSteps:=4000000) only[↓bdD,bdP]
   exact hJ
  rintro k ρ2 ⟨O2,n2⟩ hkL ⟨h23,hJ⟩
  by_cases hk:k<L
  ·have wk:=BO (k:=k) (by omega)
   have hkl:k<ls.length:=by omega
   have hkli:(k:Int)<L:=by omega
   have g1:=hG _ _ hJ
   have b1:=g1.1
   have b2:=g1.2
   dsimp only at b1 b2
   have hyk:=hy' htD hk
   have hcb:=ES ok.net (link:=(k:Int)) (tick:=dr+(t:Int)) (by omega) (by omega)
   have hfs:=Fl hf (k:=(k:Int)) (t:=dr+(t:Int)) ⟨by omega,by omega⟩
   have hget:=WX ok (a:=(k:Int)) (b:=dr+(t:Int))
   have hkey:=Gd (a:=(k:Int)) (b:=dr+(t:Int)) (by omega) (by omega)
   have hnl:=A8 hkl
   have h24:=MM (t:=dr+(t:Int)) (by omega)
   unfold Aal ET lfM at hyk
   unfold CT at hyk hcb hfs
   unfold D3 at hyk
   rw [Int.toNat_natCast]at hyk hcb hfs
   have hlt24:(dr+(t:Int)).toNat % 24<24:=Nat.mod_lt _ (by omega)
   have hli24:(((dr+(t:Int)).toNat % 24:Nat):Int)<24:=by omega
   generalize (dr+(t:Int)).toNat % 24=hr at *
   have hc1:=CI (a:=ls.getD k dL) hlt24
   have hc2:=Eo (a:=ls.getD k dL) hlt24
   generalize hlk:ls.getD k dL=lk at *
   generalize Ba us (k:Int) (dr+(t:Int)) us.length=sn at *
   have w5:IntKind.i64.wrap (DT lk hr-sn)=DT lk hr-sn:=Aj (by omega) (by omega)
   have hM1:∀o1 o2,J (t*L+k) ⟨Aa (Aa O2 n2 o1) (n2+1) o2,n2+2⟩:=fun o1 o2=>hstab _ _ _ hJ (by simp) (fun x hx=>by
    dsimp only at hx ⊢
    simp only[Aa]
    rw [if_neg (by omega),if_neg (by omega)])
   have gN:=hG _ _ (hM1 none none)
   have d1:¬M=n2:=fun e=>by have:=gN.1;simp[Aa,e]at this
   have d2:¬M=n2+1:=fun e=>by have:=gN.1;simp[Aa,e]at this
   have d3:¬M+1=n2:=fun e=>by have:=gN.2;simp[Aa,e]at this
   have d4:¬n2=n2+1:=by omega
   simp +contextual (maxSteps:=4000000) only[↓bdD,bdP,Nat.reduceLT,Nat.reduceBEq,Nat.reduceAdd,Nat.reduceLeDiff,reduceCtorEq,Int.reduceEq,Store.new,Store.set,↓reduceIte,Nat.reduceBeqDiff,Bz,B6,Nat.mul_one,ty3,By,Iw,B5,GF,Ha,Ix,d1,d2,d3,d4,A5,h4,h23,hk,hkli,hL,hnl,h24,hli24,hc1,hc2,hget,hkey,b1,b2,w5,Bz,B6,wk]
   rw [dJ Bz]
   refine ⟨by simp[Bz],?_⟩
   refine hy _ _ _ _ hyk (hM1 _ _) (fun st2 h2=>?_) (fun st2 h2=>?_)
   ·simp +contextual (maxSteps:=4000000) only[↓bdD,bdP]
    exact h2
   ·simp +contextual (maxSteps:=4000000) only[↓bdD,bdP]
    exact .inr h2
  ·have e:k=L:=by omega
   subst e
   have wt:IntKind.i64.wrap (dr+(t:Int)+1)=dr+((t+1:Nat):Int):=by rw[Aj (by omega) (by omega)];omega
   rw [show t*k+k=(t+1)*k by rw[Nat.add_mul,Nat.one_mul]]at hJ
   simp +contextual (maxSteps:=4000000) only[↓bdD,bdP,Nat.reduceLT,Nat.reduceBEq,↓reduceIte,h4,h23,wt,hL]
   refine ⟨htD,?_,hJ⟩
   ·rw [AI (by decide +kernel)]
    simp +contextual (maxSteps:=4000000) only[↓bdD,bdP,Nat.reduceBEq]
 ·have e:t=D:=by omega
  subst e
  have hdd:¬dr+(t:Int)<dd:=by omega
  simp +contextual (maxSteps:=4000000) only[↓bdD,bdP,Nat.reduceLT,Nat.reduceBEq,Nat.reduceAdd,reduceCtorEq,↓reduceIte,ty3,AQ,Bd,h4,hdd]
  exact .inl hJ
end Sim
namespace Sim
open Go Go.Proofs
attribute [local congr] Aq Ar Al AG At As Az
def CO (hn:Int) (ls:List Lnk) (us:List Snd) (d:Dem):Int:=if Dp hn ls us d≠0 then Dp hn ls us d else if 4194304<d.2.2.1 then 2 else 0
noncomputable def HQ:(Int)×(List Lnk)×(List Snd)×(Dem)→List PV:=fun (hn,ls,us,d) => [.agg [I hn,Ax ls,Av us,I d.1,I d.2.1,I d.2.2.1,I d.2.2.2.1,I d.2.2.2.2]]
noncomputable def Ua:(Int)×(List Lnk)×(List Snd)×(Dem)→PV:=fun (hn,ls,us,d)=>I (CO hn ls us d)
def Ub:(Int)×(List Lnk)×(List Snd)×(Dem)→Prop:=fun (hn,ls,us,d)=>True
noncomputable def e_pcheck:Nat×Ent:=(15,.v (Ah HQ Ua Ub))
theorem pF:∀i j,HQ i=HQ j→i=j:=by
 rintro ⟨hn₁,ls₁,us₁,d₁⟩ ⟨hn₂,ls₂,us₂,d₂⟩ h
 simp only[HQ,List.cons.injEq,and_true,PV.lits.injEq,PV.int.injEq,PV.agg.injEq,true_and,AM,AF]at h
 simp [Prod.ext_iff,h] <;> omega
theorem BU (hn:Int) (ls:List Lnk) (us:List Snd) (d:Dem):Ah HQ Ua Ub [.agg [I hn,Ax ls,Av us,I d.1,I d.2.1,I d.2.2.1,I d.2.2.2.1,I d.2.2.2.2]]=some (I (CO hn ls us d)):=AC pF (i:=(hn,ls,us,d)) trivial
def Uc:Prop:=∀(hn:Int) (ls:List Lnk) (us:List Snd) (d:Dem) ,VC Try.prog 15 [.agg [I hn,Ax ls,Av us,I d.1,I d.2.1,I d.2.2.1,I d.2.2.2.1,I d.2.2.2.2]] (I (CO hn ls us d))
def Ud:Prop:=AL Try.prog e_pcheck.1 e_pcheck.2
theorem pG (c:Uc):Ud:=Ap fun⟨hn,ls,us,d⟩ h=>c hn ls us d
theorem pH:Uc:=by
 intro hn ls us d
 refine A3 AP (l := [e_fcheck]) ((Ad T8 An)) [] []  Try.func15 rfl (by decide +kernel) (N:=18) rfl (by simp) rfl (by kernel_rfl) fun hs=>?_
 simp only[AJ,PV.small,List.length_map,and_true,true_and]at hs
 unfold CO
 by_cases h1:Dp hn ls us d=0
 case neg =>
  rw [if_pos h1]
  have sp:=HO (hn:=hn) (ls:=ls) (us:=us) (d:=d)
  dsimp only[B7,Ax,Av]at sp
  generalize hr:Dp hn ls us d=r at *
  simp +contextual (maxSteps:=4000000) only[↓bdD,bdP,Nat.reduceLT,Nat.reduceBEq,Ai,Nat.reduceAdd,Nat.reduceLeDiff,st0,↓reduceIte,e_fcheck,Ac,Ab,Try.f15,Au,AB,AQ,Bd,h1,sp]
 rw [if_neg (fun g=>g h1)]
 have sp:=HO (hn:=hn) (ls:=ls) (us:=us) (d:=d)
 rw [h1]at sp
 dsimp only[B7,Ax,Av]at sp
 by_cases h2:4194304<d.2.2.1
 ·rw [if_pos h2]
  simp +contextual (maxSteps:=4000000) only[↓bdD,bdP,Nat.reduceLT,Nat.reduceBEq,Ai,Nat.reduceAdd,Nat.reduceLeDiff,st0,↓reduceIte,e_fcheck,Ac,Ab,Try.f15,ty3,Au,AB,AQ,Bd,h2,sp]
 ·rw [if_neg h2]
  simp +contextual (maxSteps:=4000000) only[↓bdD,bdP,Nat.reduceLT,Nat.reduceBEq,Ai,Nat.reduceAdd,Nat.reduceLeDiff,st0,↓reduceIte,e_fcheck,Ac,Ab,Try.f15,ty3,Au,AB,AQ,Bd,h2,sp]
theorem HR:Ud:=pG pH
noncomputable def Gf:(Int)×(List Lnk)×(List Snd)×(Dem)→List PV:=fun (hn,ls,us,d) => [.agg [I hn,Ax ls,Av us,I d.1,I d.2.1,I d.2.2.1,I d.2.2.2.1,I d.2.2.2.2]]
noncomputable def Py:(Int)×(List Lnk)×(List Snd)×(Dem)→PV:=fun (hn,ls,us,d)=>I (CO hn ls us d)
def Pz:(Int)×(List Lnk)×(List Snd)×(Dem)→Prop:=fun (hn,ls,us,d)=>True
noncomputable def e_rpcheck:Nat×Ent:=(16,.v (Ah Gf Py Pz))
theorem dK:∀i j,Gf i=Gf j→i=j:=by
 rintro ⟨hn₁,ls₁,us₁,d₁⟩ ⟨hn₂,ls₂,us₂,d₂⟩ h
 simp only[Gf,List.cons.injEq,and_true,PV.lits.injEq,PV.int.injEq,PV.agg.injEq,true_and,AM,AF]at h
 simp [Prod.ext_iff,h] <;> omega
theorem EY (hn:Int) (ls:List Lnk) (us:List Snd) (d:Dem):Ah Gf Py Pz [.agg [I hn,Ax ls,Av us,I d.1,I d.2.1,I d.2.2.1,I d.2.2.2.1,I d.2.2.2.2]]=some (I (CO hn ls us d)):=AC dK (i:=(hn,ls,us,d)) trivial
def PC:Prop:=∀(hn:Int) (ls:List Lnk) (us:List Snd) (d:Dem) ,VC Try.prog 16 [.agg [I hn,Ax ls,Av us,I d.1,I d.2.1,I d.2.2.1,I d.2.2.2.1,I d.2.2.2.2]] (I (CO hn ls us d))
def PD:Prop:=AL Try.prog e_rpcheck.1 e_rpcheck.2
theorem dM (c:PC):PD:=Ap fun⟨hn,ls,us,d⟩ h=>c hn ls us d
theorem dN:PC:=by
 intro hn ls us d
 refine A3 AP (l := [e_rfcheck]) ((Ad dG An)) [] []  Try.func16 rfl (by decide +kernel) (N:=18) rfl (by simp) rfl (by kernel_rfl) fun hs=>?_
 simp only[AJ,PV.small,List.length_map,and_true,true_and]at hs
 unfold CO
 by_cases h1:Dp hn ls us d=0
 case neg =>
  rw [if_pos h1]
  have sp:=Ps (hn:=hn) (ls:=ls) (us:=us) (d:=d)
  dsimp only[B7,Ax,Av]at sp
  generalize hr:Dp hn ls us d=r at *
  simp +contextual (maxSteps:=4000000) only[↓bdD,bdP,Nat.reduceLT,Nat.reduceBEq,Ai,Nat.reduceAdd,Nat.reduceLeDiff,st0,↓reduceIte,e_rfcheck,Ac,Ab,Try.f16,Au,AB,AQ,Bd,h1,sp]
 rw [if_neg (fun g=>g h1)]
 have sp:=Ps (hn:=hn) (ls:=ls) (us:=us) (d:=d)
 rw [h1]at sp
 dsimp only[B7,Ax,Av]at sp
 by_cases h2:4194304<d.2.2.1
 ·rw [if_pos h2]
  simp +contextual (maxSteps:=4000000) only[↓bdD,bdP,Nat.reduceLT,Nat.reduceBEq,Ai,Nat.reduceAdd,Nat.reduceLeDiff,st0,↓reduceIte,e_rfcheck,Ac,Ab,Try.f16,ty3,Au,AB,AQ,Bd,h2,sp]
 ·rw [if_neg h2]
  simp +contextual (maxSteps:=4000000) only[↓bdD,bdP,Nat.reduceLT,Nat.reduceBEq,Ai,Nat.reduceAdd,Nat.reduceLeDiff,st0,↓reduceIte,e_rfcheck,Ac,Ab,Try.f16,ty3,Au,AB,AQ,Bd,h2,sp]
theorem dO:PD:=dM dN
def pI (hn:Int) (ls:List Lnk) (us:List Snd) (d:Dem) (span:Int):Bool:=decide (hn≤5)&&(decide (ls.length≤8)&&(decide (us.length≤20)&&(decide (IntKind.i64.wrap (d.2.2.2.2-d.2.2.2.1)≤span)||decide (32<IntKind.i64.wrap (d.2.2.2.2-d.2.2.2.1)))))
noncomputable def Ue:(Int)×(List Lnk)×(List Snd)×(Dem)×(Int)→List PV:=fun (hn,ls,us,d,span) => [.agg [I hn,Ax ls,Av us,I d.1,I d.2.1,I d.2.2.1,I d.2.2.2.1,I d.2.2.2.2],I span]
noncomputable def Ab7:(Int)×(List Lnk)×(List Snd)×(Dem)×(Int)→PV:=fun (hn,ls,us,d,span)=>B (pI hn ls us d span)
def Ab8:(Int)×(List Lnk)×(List Snd)×(Dem)×(Int)→Prop:=fun (hn,ls,us,d,span)=>True
noncomputable def e_few:Nat×Ent:=(10,.v (Ah Ue Ab7 Ab8))
theorem Ai7:∀i j,Ue i=Ue j→i=j:=by
 rintro ⟨hn₁,ls₁,us₁,d₁,span₁⟩ ⟨hn₂,ls₂,us₂,d₂,span₂⟩ h
 simp only[Ue,List.cons.injEq,and_true,PV.lits.injEq,PV.int.injEq,PV.agg.injEq,true_and,AM,AF]at h
 simp [Prod.ext_iff,h] <;> omega
theorem IP (hn:Int) (ls:List Lnk) (us:List Snd) (d:Dem) (span:Int):Ah Ue Ab7 Ab8 [.agg [I hn,Ax ls,Av us,I d.1,I d.2.1,I d.2.2.1,I d.2.2.2.1,I d.2.2.2.2],I span]=some (B (pI hn ls us d span)):=AC Ai7 (i:=(hn,ls,us,d,span)) trivial
def Ab9:Prop:=∀(hn:Int) (ls:List Lnk) (us:List Snd) (d:Dem) (span:Int) ,VC Try.prog 10 [.agg [I hn,Ax ls,Av us,I d.1,I d.2.1,I d.2.2.1,I d.2.2.2.1,I d.2.2.2.2],I span] (B (pI hn ls us d span))
def Aca:Prop:=AL Try.prog e_few.1 e_few.2
theorem Ai8 (c:Ab9):Aca:=Ap fun⟨hn,ls,us,d,span⟩ h=>c hn ls us d span
theorem Ai9:Ab9:=by
 intro hn ls us d span
 refine A3 AP (l := []) (An) [] []  Try.func10 rfl (by decide +kernel) (N:=39) rfl (by simp) rfl (by kernel_rfl) fun hs=>?_
 simp only[AJ,PV.small,List.length_map,and_true,true_and]at hs
 unfold pI
 generalize hw:IntKind.i64.wrap (d.2.2.2.2-d.2.2.2.1)=w at *
 by_cases h1:hn≤5
 case neg=>simp +contextual (maxSteps:=4000000) only[↓bdD,bdP,Nat.reduceLT,Nat.reduceBEq,Ai,Nat.reduceAdd,st0,↓reduceIte,Try.f10,ty3,Au,AQ,Bd,Bool.false_and,h1,hw]
 by_cases h2:ls.length≤8
 case neg =>
  have h2i:¬(ls.length:Int)≤8:=by omega
  simp +contextual (maxSteps:=4000000) only[↓bdD,bdP,Nat.reduceLT,Nat.reduceBEq,Ai,Nat.reduceAdd,st0,↓reduceIte,Try.f10,ty3,By,Au,AQ,Bd,Bool.false_and,h1,h2,h2i,hw]
 have h2i:(ls.length:Int)≤8:=by omega
 by_cases h3:us.length≤20
 case neg =>
  have h3i:¬(us.length:Int)≤20:=by omega
  simp +contextual (maxSteps:=4000000) only[↓bdD,bdP,Nat.reduceLT,Nat.reduceBEq,Ai,Nat.reduceAdd,st0,↓reduceIte,Try.f10,ty3,By,Au,AB,AQ,Bd,Bool.false_and,h1,h2,h2i,h3,h3i,hw]
 have h3i:(us.length:Int)≤20:=by omega
 by_cases h4:w≤span
 ·simp +contextual (maxSteps:=4000000) only[↓bdD,bdP,Nat.reduceLT,Nat.reduceBEq,Ai,Nat.reduceAdd,st0,↓reduceIte,Try.f10,ty3,By,Au,AB,AQ,Bd,h1,h2,h2i,h3,h3i,h4,hw]
 ·by_cases h5:32<w
  ·simp +contextual (maxSteps:=4000000) only[↓bdD,bdP,Nat.reduceLT,Nat.reduceBEq,Ai,Nat.reduceAdd,st0,↓reduceIte,Try.f10,ty3,By,Au,AB,AQ,Bd,h1,h2,h2i,h3,h3i,h4,h5,hw]
  ·simp +contextual (maxSteps:=4000000) only[↓bdD,bdP,Nat.reduceLT,Nat.reduceBEq,Ai,Nat.reduceAdd,st0,↓reduceIte,Try.f10,ty3,By,Au,AB,AQ,Bd,h1,h2,h2i,h3,h3i,h4,h5,hw]
theorem Aja:Aca:=Ai8 Ai9
noncomputable def Kj:(Int)×(List Lnk)×(List Snd)×(Dem)×(Int)×(Int)→List PV:=fun (hn,ls,l,d,link,tick) => [.agg [I hn,Ax ls,Av l,I d.1,I d.2.1,I d.2.2.1,I d.2.2.2.1,I d.2.2.2.2],I link,I tick]
noncomputable def Yk:(Int)×(List Lnk)×(List Snd)×(Dem)×(Int)×(Int)→PV:=fun (hn,ls,l,d,link,tick)=>I (Ba l link tick l.length)
def Yl:(Int)×(List Lnk)×(List Snd)×(Dem)×(Int)×(Int)→Prop:=fun (hn,ls,l,d,link,tick)=>smB l
noncomputable def e_taken:Nat×Ent:=(49,.v (Ah Kj Yk Yl))
theorem Aam:∀i j,Kj i=Kj j→i=j:=by
 rintro ⟨hn₁,ls₁,l₁,d₁,link₁,tick₁⟩ ⟨hn₂,ls₂,l₂,d₂,link₂,tick₂⟩ h
 simp only[Kj,List.cons.injEq,and_true,PV.lits.injEq,PV.int.injEq,PV.agg.injEq,true_and,AM,AF]at h
 simp [Prod.ext_iff,h] <;> omega
theorem Aan (hn:Int) (ls:List Lnk) (l:List Snd) (d:Dem) (link:Int) (tick:Int):Ah Kj Yk Yl [.agg [I hn,Ax ls,Av l,I d.1,I d.2.1,I d.2.2.1,I d.2.2.2.1,I d.2.2.2.2],I link,I tick]=@ite (Option (PV)) (smB l) (Classical.propDecidable _) (some (I (Ba l link tick l.length))) none:=BM Aam (hn,ls,l,d,link,tick)
def Ym:Prop:=∀(hn:Int) (ls:List Lnk) (l:List Snd) (d:Dem) (link:Int) (tick:Int) (h:smB l) ,VC Try.prog 49 [.agg [I hn,Ax ls,Av l,I d.1,I d.2.1,I d.2.2.1,I d.2.2.2.1,I d.2.2.2.2],I link,I tick] (I (Ba l link tick l.length))
def Yn:Prop:=AL Try.prog e_taken.1 e_taken.2
theorem Aao (c:Ym):Yn:=Ap fun⟨hn,ls,l,d,link,tick⟩ h=>c hn ls l d link tick h
theorem Aap:Ym:=by
 intro hn ls l d link tick hb
 refine A3 AP (l := []) (An) [] []  Try.func49 rfl (by decide +kernel) (N:=43) rfl (by simp) rfl (by kernel_rfl) fun hs=>?_
 simp only[AJ,PV.small,List.length_map,and_true,true_and]at hs
 have hlen:=hb.1
 generalize hr:Ba l link tick l.length=r
 simp +contextual (maxSteps:=4000000) only[↓bdD,bdP,Nat.reduceLT,Nat.reduceAdd,st0,↓reduceIte,Try.f49]
 refine Ay [7,8,9,10,11,12,13,14,15,16,17,18,19,20,21,22,23,24,25,26,27,28,29,30,31,32,33,34,35,36,37,38,39,40,41] l.length (fun k ρ st'=>ρ 8=I k∧ρ 7=I (Ba l link tick k)) (.refl _) ?_ ?_
 ·simp +contextual (maxSteps:=4000000) only[↓bdD,bdP,Nat.reduceBEq,Ba]
 ·rintro k ρ ⟨ob,M⟩ hk ⟨h8,h7⟩
  by_cases hlt:k<l.length
  ·have hw1:IntKind.i64.wrap ((k:Int)+1)=((k+1:Nat):Int):=by rw[Aj (by omega) (by omega)];omega
   have hs:=MQ hb link tick k hk
   have hbk:=hb.2 k hlt
   have hstep:Ba l link tick (k+1)=Ba l link tick k+if (l.getD k dS).1=link∧(l.getD k dS).2.1=tick then (l.getD k dS).2.2 else 0:=rfl
   generalize hx:l.getD k dS=x at *
   by_cases e1:x.1=link
   ·by_cases e2:x.2.1=tick
    ·rw [if_pos ⟨e1,e2⟩]at hstep
     have hw2:IntKind.i64.wrap (Ba l link tick k+x.2.2)=Ba l link tick (k+1):=by rw[hstep,Aj (by omega) (by omega)]
     simp +contextual (maxSteps:=4000000) only[↓bdD,bdP,Nat.reduceLT,Nat.reduceBEq,Nat.reduceAdd,↓reduceIte,Aw,ty3,AB,Bd,Bv,h8,h7,hlt,hx,e1,e2,hw1,hw2]
    ·rw [if_neg (fun h=>e2 h.2),Int.add_zero]at hstep
     simp +contextual (maxSteps:=4000000) only[↓bdD,bdP,Nat.reduceLT,Nat.reduceBEq,Nat.reduceAdd,↓reduceIte,Aw,ty3,AB,Bd,Bv,h8,h7,hlt,hx,e1,e2,hw1,hstep]
   ·rw [if_neg (fun h=>e1 h.1),Int.add_zero]at hstep
    simp +contextual (maxSteps:=4000000) only[↓bdD,bdP,Nat.reduceLT,Nat.reduceBEq,Nat.reduceAdd,↓reduceIte,Aw,ty3,AB,Bd,Bv,h8,h7,hlt,hx,e1,hw1,hstep]
  ·have e:k=l.length:=by omega
   subst e
   rw [hr]at h7
   simp +contextual (maxSteps:=4000000) only[↓bdD,bdP,Nat.reduceLT,Nat.reduceBEq,Ai,Nat.reduceAdd,↓reduceIte,AB,Bd,h8,h7]
theorem Aaq:Yn:=Aao Aap
noncomputable def Kk:(Int)×(List Lnk)×(List Snd)×(Dem)×(Int)×(Int)→List PV:=fun (hn,ls,us,d,link,tick) => [.agg [I hn,Ax ls,Av us,I d.1,I d.2.1,I d.2.2.1,I d.2.2.2.1,I d.2.2.2.2],I link,I tick]
noncomputable def Yo:(Int)×(List Lnk)×(List Snd)×(Dem)×(Int)×(Int)→PV:=fun (hn,ls,us,d,link,tick)=>I (lfM ls us link tick)
def Yp:(Int)×(List Lnk)×(List Snd)×(Dem)×(Int)×(Int)→Prop:=fun (hn,ls,us,d,link,tick)=>Br hn ls us=0∧0≤link∧link<(ls.length:Int)∧0≤tick
noncomputable def e_pleft:Nat×Ent:=(27,.v (Ah Kk Yo Yp))
theorem Aar:∀i j,Kk i=Kk j→i=j:=by
 rintro ⟨hn₁,ls₁,us₁,d₁,link₁,tick₁⟩ ⟨hn₂,ls₂,us₂,d₂,link₂,tick₂⟩ h
 simp only[Kk,List.cons.injEq,and_true,PV.lits.injEq,PV.int.injEq,PV.agg.injEq,true_and,AM,AF]at h
 simp [Prod.ext_iff,h] <;> omega
theorem Aas (hn:Int) (ls:List Lnk) (us:List Snd) (d:Dem) (link:Int) (tick:Int):Ah Kk Yo Yp [.agg [I hn,Ax ls,Av us,I d.1,I d.2.1,I d.2.2.1,I d.2.2.2.1,I d.2.2.2.2],I link,I tick]=@ite (Option (PV)) (Br hn ls us=0∧0≤link∧link<(ls.length:Int)∧0≤tick) (Classical.propDecidable _) (some (I (lfM ls us link tick))) none:=BM Aar (hn,ls,us,d,link,tick)
def Yq:Prop:=∀(hn:Int) (ls:List Lnk) (us:List Snd) (d:Dem) (link:Int) (tick:Int) (h:Br hn ls us=0∧0≤link∧link<(ls.length:Int)∧0≤tick) ,VC Try.prog 27 [.agg [I hn,Ax ls,Av us,I d.1,I d.2.1,I d.2.2.1,I d.2.2.2.1,I d.2.2.2.2],I link,I tick] (I (lfM ls us link tick))
def Yr:Prop:=AL Try.prog e_pleft.1 e_pleft.2
theorem Aat (c:Yq):Yr:=Ap fun⟨hn,ls,us,d,link,tick⟩ h=>c hn ls us d link tick h
theorem Aau:Yq:=by
 rintro hn ls us d link tick ⟨hf,h0,h1,h2⟩
 refine A3 AP (l := [e_rcap,e_taken]) ((Ad mR (Ad Aaq An))) [] []  Try.func27 rfl (by decide +kernel) (N:=19) rfl (by simp) rfl (by kernel_rfl) fun hs=>?_
 simp only[AJ,PV.small,List.length_map,and_true,true_and]at hs
 obtain ⟨ok,_⟩:=Cf hf
 have q1:=Fl hf (k:=link) (t:=tick) ⟨h0,h1⟩
 have q2:=ES ok.net (link:=link) (tick:=tick) h0 h1
 have sp1:=WH (hn:=hn) (ls:=ls) (link:=link) (tick:=tick)
 rw [if_pos ⟨h0,h1,h2⟩]at sp1
 have sp2:=Aan (hn:=hn) (ls:=ls) (l:=us) (d:=d) (link:=link) (tick:=tick)
 rw [if_pos ok.smB]at sp2
 dsimp only[Ax,Av]at sp1 sp2
 unfold lfM
 generalize CT ls link tick=x at *
 generalize Ba us link tick us.length=z at *
 have w:IntKind.i64.wrap (x-z)=x-z:=Aj (by omega) (by omega)
 simp +contextual (maxSteps:=4000000) only[↓bdD,bdP,Nat.reduceLT,Nat.reduceBEq,Ai,Nat.reduceEqDiff,Nat.reduceAdd,Nat.reduceLeDiff,st0,↓reduceIte,e_rcap,e_taken,Ac,Ab,Try.f27,ty3,Au,Bd,sp1,sp2,w]
theorem Aav:Yr:=Aat Aau
abbrev Dl (y:List (List Int)):PV:=.lits 1 (y.map ints)
theorem CP {y:List (List Int)} {k:Nat} (h:k<y.length):nth (y.map ints) k=.lits 1 ((y.getD k []).map (PV.int .i64)):=Es [] h
theorem BL {y:List (List Int)}:AU (y.map ints)=true:=H9 fun x=>by rw[Mo,Hw]
theorem HT {y z:List (List Int)}:(y.map ints=z.map ints)=(y=z):=Ia fun x y h=>by
 simp only[ints,PV.lits.injEq,true_and]at h
 rwa [DZ]at h
theorem dP {y:List (List Int)} (h:AJ (y.map ints)) {k:Nat}:(y.getD k []).length≤9223372036854775807:=by
 induction y generalizing k with
 | nil=>simp
 | cons l y ih =>
  simp only[List.map_cons,AJ,ints,PV.small]at h
  cases k with
  | zero=>simpa using h.1.1
  | succ k=>simpa using ih h.2 (k:=k)
end Sim
