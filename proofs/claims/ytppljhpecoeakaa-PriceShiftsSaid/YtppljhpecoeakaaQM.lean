/- What functions of this seat compute, by values: contracts (lemmas of the statement's proof, under the conditions that each names). -/
import Derived.Test.YtppljhpecoeakaaQLM
set_option maxRecDepth 10000
set_option maxHeartbeats 4000000
set_option linter.unusedVariables false
set_option linter.unusedSimpArgs false
namespace Sim
open Go Go.Proofs
attribute [local congr] Ap Aq Al AC As Ar Av
theorem XI {f:Nat→Option IObj} {nx k z n g z0:Nat} {l es:List PV} (h:f k=some (.arr g z0 es)):Store.re ⟨f,nx⟩ (k+1) z l n=some (.ref k (g+1) 0 n,⟨Aa f k (some (.arr (g+1) z l)),nx⟩):=by
 simp [Store.re,h,Store.set]
def gK (b N k:Nat):List PV:=(List.range N).map fun v=>if v<k then PV.ref (b+v) 0 0 0 else .nils
theorem Aeh {b N k:Nat}:(gK b N k).length=N:=by simp[gK]
theorem nI {b N k v:Nat} (h:v<N):nth (gK b N k) v=if v<k then PV.ref (b+v) 0 0 0 else .nils:=by simp[gK,nth,h]
theorem Ah3 {b N:Nat}:gK b N 0=List.replicate N .nils:=by
 refine List.ext_getElem (by simp[gK]) fun i h1 h2=>?_
 simp [gK]
theorem nJ {b N k:Nat} (h:k<N):(gK b N k).set k (PV.ref (b+k) 0 0 0)=gK b N (k+1):=by
 refine List.ext_getElem (by simp[gK]) fun i h1 h2=>?_
 rw [List.getElem_set]
 by_cases c:k=i
 ·subst c;simp[gK]
 ·rw [if_neg c]
  by_cases c2:i<k
  ·simp [gK,c2,show i<k+1 by omega]
  ·simp [gK,c2,show ¬i<k+1 by omega]
theorem Ah4 {b N:Nat}:gK (b+5) N N=ED b (List.replicate N []):=by
 refine List.ext_getElem (by simp[gK,ED]) fun i h1 h2=>?_
 rw [Aeh]at h1
 simp [gK,ED,h1]
def Gz (O:Nat→Option IObj) (B b N k:Nat):Nat→Option IObj:=fun i=>if i=B then some (.arr 1 1 (gK b N k))else if b≤i∧i<b+k then some (.arr 0 1 [])else O i
theorem OV {ρ:Nat→PV} {O:Nat→Option IObj} {B b N:Nat} (hB:B<b) (h:O B=some (.arr 1 1 (List.replicate N .nils))):∀k,k≤N→Ghost ⟨ρ,⟨O,b⟩⟩ ⟨ρ,⟨Gz O B b N k,b+k⟩⟩
 | 0,_=>by
  have : Gz O B b N 0=O:=by
   funext i
   unfold Gz
   by_cases c:i=B
   ·rw [if_pos c,c,h,Ah3]
   ·rw [if_neg c,if_neg (by omega)]
  rw [this];exact .refl _
 | k + 1,hk=>by
  refine .trans (OV hB h k (by omega)) ?_
  have hn:nth (gK b N k) k=.nils:=by rw[nI (by omega),if_neg (by omega)]
  have g:=Ghost.cell ⟨ρ,⟨Gz O B b N k,b+k⟩⟩ B 1 1 1 (gK b N k) k 0 (by simp[Gz]) (by rw[hn];rfl) (by omega)
  have e:(Store.set (Store.new ⟨Gz O B b N k,b+k⟩ (.arr 0 1 [])) B (.arr 1 1 ((gK b N k).set k (A6 (nth (gK b N k) k) 0 [.ref (b+k) 0 0 0]))))=⟨Gz O B b N (k+1),b+(k+1)⟩:=by
   rw [hn,show A6 .nils 0 [.ref (b+k) 0 0 0]=PV.ref (b+k) 0 0 0 from rfl,nJ (by omega)]
   simp only[Store.set,Store.new]
   congr 1
   funext i
   simp only[Aa,Gz]
   by_cases c:i=B
   ·rw [if_pos c,if_pos c]
   ·simp only[if_neg c]
    by_cases c2:i=b+k
    ·rw [if_pos c2,if_pos (by omega)]
    ·rw [if_neg c2]
     by_cases c3:b≤i∧i<b+k
     ·rw [if_pos c3,if_pos (by omega)]
     ·rw [if_neg c3,if_neg (by omega)]
  rw [←e]
  exact g
theorem nK {O:Nat→Option IObj} {M N:Nat} (a1:O (M+1)=some (.arr 1 1 (List.replicate N (I 0)))):GrAt M [] (List.replicate N []) (List.replicate N 0) (Gz (Aa (Aa O (M+4) (some (.arr 0 4 []))) (M+2) (some (.arr 0 3 [.agg [.ref (M+4) 0 0 0,.ref M 1 0 N,.ref (M+1) 1 0 N]]))) M (M+5) N N):=by
 refine ⟨?_,?_,?_,?_,fun u hu=>?_⟩
 ·simp only[Gz,if_true,Ah4]
 ·simp only[Gz,Aa]
  rw [if_neg (by omega),if_neg (by omega),if_neg (by omega),if_neg (by omega),a1,List.map_replicate]
 ·simp only[Gz,Aa]
  rw [if_neg (by omega),if_neg (by omega),if_pos trivial]
  simp [Ir]
 ·simp only[Gz,Aa]
  rw [if_neg (by omega),if_neg (by omega),if_neg (by omega),if_pos trivial]
  simp
 ·rw [List.length_replicate]at hu
  simp only[Gz,Aa]
  rw [if_neg (by omega),if_pos (by omega)]
  simp [hu,Ba]
theorem yY {K:Nat→Prop} {g z:Nat} {l:List Int}:OIn K (.arr g z (l.map (PV.int .i64))):=fun e he c hc=>by
 obtain ⟨x,_,rfl⟩:=List.mem_map.1 he
 simp only[PV.cells,List.mem_singleton]at hc
 rw [hc];exact .int _ _
theorem yZ {K:Nat→Prop} {g z:Nat} {l:List Nat}:OIn K (.arr g z (Ba l)):=fun e he c hc=>by
 obtain ⟨x,_,rfl⟩:=List.mem_map.1 he
 simp only[PV.cells,List.mem_singleton]at hc
 rw [hc];exact .int _ _
structure GM where
 h : Nat
 D : Nat
 ls : List Lnk
 us : List Snd
 d : Dem
abbrev GM.T (x:GM):TN:=I9 (x.h:Nat) x.ls x.us x.d.2.2.2.1
abbrev GM.N (x:GM):Nat:=(x.D+1)*x.h
abbrev GM.n (x:GM):Nat:=x.D*(x.h+x.ls.length)
def Ja (x:GM):List PV := [kT ((x.h:Nat),x.ls),AB x.us,Cr x.d]
def Jb (x:GM) (st:Store):Prop:=WF st∧OKr (x.h:Nat) x.ls x.us∧0≤x.d.2.2.2.1∧x.d.2.2.2.2=x.d.2.2.2.1+(x.D:Nat)∧x.D≤100∧x.d.2.2.2.2≤1000000∧Bz (x.h:Nat) x.ls x.us=0
def mkO (ob:Nat→Option IObj) (M:Nat) (A:List Arc) (out:List (List Nat)) (N:Nat):Nat→Option IObj:=fun i =>
 if i=M then some (.arr 1 1 (ED M out))else if i=M+1 then some (.arr 1 1 ((List.replicate N (0:Int)).map (PV.int .i64)))else if i=M+2 then some (.arr 0 3 [Ir M A out (List.replicate N 0)])
 else if i=M+4 then some (.arr (A.length / 2) 4 (A.map Dc))else if M+5≤i∧i<M+5+N then some (.arr (out.getD (i-(M+5)) []).length 1 (Ba (out.getD (i-(M+5)) [])))else ob i
def EE (x:GM) (st:Store):PV×Store:=(gP st.next,⟨mkO st.obj st.next (gA x.T.p x.n) (gO x.T.p x.N x.n) x.N,st.next+5+x.N⟩)
structure MkI (ob:Nat→Option IObj) (M:Nat) (A:List Arc) (out:List (List Nat)) (lv:List Int) (es:List (PV×PV)) (S:Store):Prop where
 gr : GrAt M A out lv S.obj
 mp : S.obj (M+3)=some (.map 0 (.ints 2) es)
 fr : ∀i o,ob i=some o→S.obj i=some o
 nx : M+5+out.length≤S.next
theorem MkI.high {ob:Nat→Option IObj} {M:Nat} {A:List Arc} {out:List (List Nat)} {lv:List Int} {es:List (PV×PV)} {O:Nat→Option IObj} {nx:Nat} (h:MkI ob M A out lv es ⟨O,nx⟩) (r0:∀i o,ob i=some o→i<M) {x:Option IObj}:MkI ob M A out lv es ⟨Aa O nx x,nx+1⟩:=by
 have hn:=h.nx
 dsimp only at hn
 have key:∀i,i<nx→Aa O nx x i=O i:=fun i hi=>by simp only[Aa];rw[if_neg (by omega)]
 obtain ⟨⟨g0,g1,g2,g4,g5⟩,h2,h3,_⟩:=h
 exact ⟨⟨by dsimp only;rw[key _ (by omega)];exact g0,by dsimp only;rw[key _ (by omega)];exact g1,by dsimp only;rw[key _ (by omega)];exact g2,by dsimp only;rw[key _ (by omega)];exact g4,fun u hu=>by dsimp only;rw[key _ (by omega)];exact g5 u hu⟩,
  by dsimp only;rw[key _ (by omega)];exact h2,fun i o hi=>by have:=r0 i o hi;dsimp only;rw[key _ (by omega)];exact h3 i o hi,by dsimp only;omega⟩
theorem MkI.again {ob:Nat→Option IObj} {M:Nat} {A:List Arc} {out:List (List Nat)} {lv:List Int} {es:List (PV×PV)} {O:Nat→Option IObj} {nx:Nat} {y:Option IObj} (h:MkI ob M A out lv es ⟨Aa O nx y,nx+1⟩) (r0:∀i o,ob i=some o→i<M) (hn:M+5+out.length≤nx:=by assumption) {x:Option IObj}:MkI ob M A out lv es ⟨Aa (Aa O nx y) nx x,nx+1⟩:=by
 have e:Aa (Aa O nx y) nx x=Aa O nx x:=by
  funext i;simp only[Aa];split <;> rfl
 obtain ⟨⟨g0,g1,g2,g4,g5⟩,h2,h3,_⟩:=h
 have key:∀i,i<nx→Aa (Aa O nx y) nx x i=Aa O nx y i:=fun i hi=>by simp only[Aa];rw[if_neg (by omega)]
 dsimp only at *
 exact ⟨⟨by dsimp only;rw[key _ (by omega)];exact g0,by dsimp only;rw[key _ (by omega)];exact g1,by dsimp only;rw[key _ (by omega)];exact g2,by dsimp only;rw[key _ (by omega)];exact g4,fun u hu=>by dsimp only;rw[key _ (by omega)];exact g5 u hu⟩,
  by dsimp only;rw[key _ (by omega)];exact h2,fun i o hi=>by have:=r0 i o hi;dsimp only;rw[key _ (by omega)];exact h3 i o hi,by dsimp only;omega⟩
theorem MkI.map {ob:Nat→Option IObj} {M:Nat} {A:List Arc} {out:List (List Nat)} {lv:List Int} {es es':List (PV×PV)} {O:Nat→Option IObj} {nx:Nat} (h:MkI ob M A out lv es ⟨O,nx⟩) (r0:∀i o,ob i=some o→i<M):MkI ob M A out lv es' ⟨Aa O (M+3) (some (.map 0 (.ints 2) es')),nx⟩:=by
 obtain ⟨⟨g0,g1,g2,g4,g5⟩,h2,h3,h4⟩:=h
 dsimp only at *
 refine ⟨⟨?_,?_,?_,?_,fun u hu=>?_⟩,?_,fun i o hi=>?_,h4⟩ <;> simp only[Aa]
 ·rw [if_neg (by omega)];exact g0
 ·rw [if_neg (by omega)];exact g1
 ·rw [if_neg (by omega)];exact g2
 ·rw [if_neg (by omega)];exact g4
 ·rw [if_neg (by omega)];exact g5 u hu
 ·rw [if_pos trivial]
 ·have := r0 i o hi
  rw [if_neg (by omega)];exact h3 i o hi
theorem MkI.add {ob:Nat→Option IObj} {M u v:Nat} {x y:Int} {A:List Arc} {out:List (List Nat)} {lv:List Int} {es:List (PV×PV)} {O:Nat→Option IObj} {nx:Nat} (h:MkI ob M A out lv es ⟨O,nx⟩) (r0:∀i o,ob i=some o→i<M) (hu:u<out.length) (hv:v<out.length) (huv:¬u=v) :
  MkI ob M (Fl A u v x y) (CN out u v A.length) lv es ⟨aO O M u v (A.length / 2+1) (Fl A u v x y) (CN out u v A.length) lv,nx⟩:=by
 obtain ⟨g,h2,h3,h4⟩:=h
 dsimp only at *
 refine ⟨Ah2 g hu hv huv,?_,fun i o hi=>?_,by unfold CN;rw[List.length_set,List.length_set];exact h4⟩
 ·simp only[aO,Aa]
  rw [if_neg (by omega),if_neg (by omega),if_neg (by omega),if_neg (by omega),if_neg (by omega)];exact h2
 ·have := r0 i o hi
  simp only[aO,Aa]
  rw [if_neg (by omega),if_neg (by omega),if_neg (by omega),if_neg (by omega),if_neg (by omega)];exact h3 i o hi
theorem zA {ob O:Nat→Option IObj} {M N n:Nat} {A:List Arc} {out:List (List Nat)} (h1:WF ⟨ob,M⟩) (g:GrAt M A out (List.replicate N 0) O) (fr:∀i o,ob i=some o→O i=some o) (ho:out.length=N):Mn ⟨ob,M⟩ (gP M) ⟨mkO ob M A out N,M+5+N⟩ (.ptr (M+2) 0 0 0) ⟨O,n⟩:=by
 refine ⟨[],.inl rfl,fun i o hi=>?_,by dsimp only;omega,.ptr _ _ _ _ (by dsimp only;omega)⟩
 dsimp only at hi ⊢
 unfold mkO at hi
 by_cases c0:i=M
 ·rw [if_pos c0]at hi
  cases hi
  refine ⟨by omega,rfl,by rw[c0];exact g.o0,.inr fun e he c hc=>?_⟩
  obtain ⟨v,hv,rfl⟩:=List.mem_map.1 he
  rw [List.mem_range,ho]at hv
  simp only[PV.cells,List.mem_singleton]at hc
  rw [hc];exact .ref _ _ _ _ (by omega)
 rw [if_neg c0]at hi
 by_cases c1:i=M+1
 ·rw [if_pos c1]at hi
  cases hi
  exact ⟨by omega,rfl,by rw[c1];exact g.o1,.inr yY⟩
 rw [if_neg c1]at hi
 by_cases c2:i=M+2
 ·rw [if_pos c2]at hi
  cases hi
  refine ⟨by omega,rfl,by rw[c2];exact g.o2,.inr fun e he c hc=>?_⟩
  rw [List.mem_singleton]at he
  subst he
  simp only[Ir,PV.cells,List.mem_cons,List.not_mem_nil,or_false]at hc
  rcases hc with hc | hc | hc <;> (rw[hc];exact .ref _ _ _ _ (by omega))
 rw [if_neg c2]at hi
 by_cases c4:i=M+4
 ·rw [if_pos c4]at hi
  cases hi
  exact ⟨by omega,rfl,by rw[c4];exact g.o4,.inr QO⟩
 rw [if_neg c4]at hi
 by_cases c5:M+5≤i∧i<M+5+N
 ·rw [if_pos c5]at hi
  cases hi
  have := g.o5 (i-(M+5)) (by omega)
  rw [show M+5+(i-(M+5))=i by omega]at this
  exact ⟨c5.2,rfl,this,.inr yZ⟩
 ·rw [if_neg c5]at hi
  have := h1 i o hi
  dsimp only at this
  exact ⟨by omega,rfl,fr i o hi,.inl hi⟩
theorem Aei {x:GM} {st:Store} (hx:Jb x st):IXC Try.prog 65 (Ja x) st (Mn st (EE x st).1 (EE x st).2):=by
 obtain ⟨h,D,ls,us,⟨df,dt,db,dr,dd⟩⟩:=x
 obtain ⟨ob,M⟩:=st
 unfold Jb at hx
 dsimp only at hx
 obtain ⟨h1,ok,h5,h6,h7,h8,hft⟩:=hx
 have h2:1≤h:=by have:=ok.net.houses;omega
 have h3:h≤12:=by have:=ok.net.houses;omega
 have h4:=ok.net.len
 simp only[Ja]
 generalize hR1:(EE ⟨h,D,ls,us,df,dt,db,dr,dd⟩ ⟨ob,M⟩).1=R1
 generalize hR2:(EE ⟨h,D,ls,us,df,dt,db,dr,dd⟩ ⟨ob,M⟩).2=R2
 obtain ⟨N,hN⟩:∃N,(D+1)*h=N:=⟨_,rfl⟩
 have hNb:N≤1212:=by rw[←hN];exact Nat.le_trans (Nat.mul_le_mul (show D+1≤101 by omega) h3) (by decide)
 have w1:IntKind.i64.wrap (dd-dr)=(D:Int):=by rw[Ag (by omega) (by omega)];omega
 have w2:IntKind.i64.wrap ((D:Int)+1)=((D+1:Nat):Int):=BF (by omega)
 have w3:IntKind.i64.wrap (((D+1:Nat):Int)*(h:Int))=(N:Int):=by
  have : ((D+1:Nat):Int)*(h:Int)=(N:Int):=by rw[←hN];exact (Int.natCast_mul _ _).symm
  rw [this,Ag (by omega) (by omega)]
 have hNi:(N:Int)≤4294967296:=by omega
 refine wE AP (l := [e_add]) ((Ae Ahz Ao)) [36] [25,26,31,32,100028,200034] 2 Try.func65 rfl (by decide +kernel) (N:=130) rfl (by simp) rfl (by kernel_rfl) ?_
 unfold stB
 dsimp only
 obtain ⟨F,hF⟩:∃F:Nat→Option IObj,(fun i=>if M≤i∧i<M+2 then some (IObj.arr 0 1 [])else ob i)=F:=⟨_,rfl⟩
 have F0:F M=some (.arr 0 1 []):=by rw[←hF];simp
 have F1:F (M+1)=some (.arr 0 1 []):=by rw[←hF];simp
 have F9:∀i o,ob i=some o→F i=some o:=fun i o hi=>by
  have := h1 i o hi
  dsimp only at this
  rw [←hF]
  simp only[show ¬(M≤i∧i<M+2) by omega,if_false,hi]
 rw [hF]
 have q1:¬M+1=M:=by omega
 have q2:¬M=M+1:=by omega
 have r1:=XI (nx:=M+2) (z:=1) (l:=List.replicate N PV.nils) (n:=N) F0
 have r2:Store.re ⟨Aa F M (some (.arr (0+1) 1 (List.replicate N PV.nils))),M+2⟩ (M+2) 1 (List.replicate N (I 0)) N=some (.ref (M+1) (0+1) 0 N,⟨Aa (Aa F M (some (.arr (0+1) 1 (List.replicate N PV.nils)))) (M+1) (some (.arr (0+1) 1 (List.replicate N (I 0)))),M+2⟩) :=
  XI (k:=M+1) (by simp only[Aa];rw[if_neg q1];exact F1)
 rw [Nat.zero_add]at r1 r2
 simp +contextual (maxSteps:=4000000) only[↓bdD,bdP,Nat.reduceLT,Nat.reduceBEq,Nat.reduceEqDiff,Nat.reduceAdd,Nat.reduceLeDiff,reduceCtorEq,Store.new,↓reduceIte,e_add,Try.f65,ty3,Aw,AJ,AX,Bf,AZ,GV,kA,Gt,KF,Mp,FT,w1,w2,w3,hNi,r1,r2]
 obtain ⟨O1,hO1⟩:∃O1:Nat→Option IObj,Aa (Aa (Aa (Aa F M (some (.arr 1 1 (List.replicate N PV.nils)))) (M+1) (some (.arr 1 1 (List.replicate N (I 0))))) (M+2) (some (.arr 0 3 [.agg [.nils,.ref M 1 0 N,.ref (M+1) 1 0 N]]))) (M+2+1) (some (.map 0 (.ints 2) []))=O1:=⟨_,rfl⟩
 have a0:O1 M=some (.arr 1 1 (List.replicate N PV.nils)):=by rw[←hO1];simp[Aa,show ¬M=M+2+1 by omega]
 have a1:O1 (M+1)=some (.arr 1 1 (List.replicate N (I 0))):=by rw[←hO1];simp[Aa]
 have a2:O1 (M+2)=some (.arr 0 3 [.agg [.nils,.ref M 1 0 N,.ref (M+1) 1 0 N]]):=by rw[←hO1];simp[Aa]
 have a3:O1 (M+2+1)=some (.map 0 (.ints 2) []):=by rw[←hO1];simp[Aa]
 have a9:∀i o,ob i=some o→O1 i=some o:=fun i o hi=>by
  have := h1 i o hi
  dsimp only at this
  rw [←hO1]
  simp only[Aa]
  rw [if_neg (by omega),if_neg (by omega),if_neg (by omega),if_neg (by omega),F9 i o hi]
 rw [hO1]
 have gh:∀ρ,Ghost ⟨ρ,⟨O1,M+4⟩⟩ ⟨ρ,⟨Gz (Aa (Aa O1 (M+4) (some (.arr 0 4 []))) (M+2) (some (.arr 0 3 [.agg [.ref (M+4) 0 0 0,.ref M 1 0 N,.ref (M+1) 1 0 N]]))) M (M+5) N N,M+5+N⟩⟩:=fun ρ=>by
  refine .trans (Ghost.cell ⟨ρ,⟨O1,M+4⟩⟩ (M+2) 0 3 4 _ 0 0 a2 rfl (by omega)) ?_
  show Ghost ⟨ρ,⟨Aa (Aa O1 (M+4) (some (.arr 0 4 []))) (M+2) (some (.arr 0 3 [.agg [.ref (M+4) 0 0 0,.ref M 1 0 N,.ref (M+1) 1 0 N]])),M+5⟩⟩ _
  refine OV (B:=M) (b:=M+5) (by omega) ?_ N (Nat.le_refl _)
  simp only[Aa]
  rw [if_neg (by omega),if_neg (by omega),a0]
 have gr0:=nK (O:=O1) (M:=M) (N:=N) a1
 have mi0:MkI ob M [] (List.replicate N []) (List.replicate N 0) [] ⟨Gz (Aa (Aa O1 (M+4) (some (.arr 0 4 []))) (M+2) (some (.arr 0 3 [.agg [.ref (M+4) 0 0 0,.ref M 1 0 N,.ref (M+1) 1 0 N]]))) M (M+5) N N,M+5+N⟩:=by
  refine ⟨gr0,?_,fun i o hi=>?_,by rw[List.length_replicate];exact Nat.le_refl _⟩
  ·simp only[Gz,Aa]
   rw [if_neg (by omega),if_neg (by omega),if_neg (by omega),if_neg (by omega)];exact a3
  ·have := h1 i o hi
   dsimp only at this
   simp only[Gz,Aa]
   rw [if_neg (by omega),if_neg (by omega),if_neg (by omega),if_neg (by omega)];exact a9 i o hi
 clear gr0
 generalize Gz (Aa (Aa O1 (M+4) (some (.arr 0 4 []))) (M+2) (some (.arr 0 3 [.agg [.ref (M+4) 0 0 0,.ref M 1 0 N,.ref (M+1) 1 0 N]]))) M (M+5) N N=O2 at *
 have hul:=ok.len
 have r0:∀i o,ob i=some o→i<M:=h1
 refine Ax [11,40,41,42,43,44,45,46,47,48,49,50,51,52] us.length (fun k ρ st'=>ρ 40=I k∧MkI ob M [] (List.replicate N []) (List.replicate N 0) ((us.take k).map tkE) st') (gh _) ?_ ?_
 ·simp +contextual (maxSteps:=4000000) only[↓bdD,bdP]
  exact mi0
 rintro k ρ ⟨O,nx⟩ hk ⟨h40,hI⟩
 by_cases hlt:k<us.length
 ·have hwk:=BF (k:=k) (by omega)
  have hmp:=hI.mp
  have hstep:=QQ ok hlt
  have e1:=ok.link k hlt
  have e2:=ok.tick k hlt
  generalize hx:us.getD k dS=x at *
  have hkey:=F3 (a:=x.1) (b:=x.2.1) (by omega) (by omega)
  dsimp only at hmp
  have hnx:=hI.nx
  dsimp only at hnx
  have d1:¬M+3=nx:=by omega
  have d2:¬nx=M+3:=by omega
  simp +contextual (maxSteps:=4000000) only[↓bdD,bdP,Nat.reduceLT,Nat.reduceBEq,Nat.reduceAdd,Nat.reduceMul,Nat.reduceLeDiff,Store.new,Store.set,↓reduceIte,AH,ty3,AJ,BU,Ms,kA,Gt,Mp,FT,h40,hlt,hwk,hx,hmp,hkey,hstep,d1]
  exact ((hI.high r0).again r0).map r0
 ·have e:k=us.length:=by omega
  subst e
  rw [List.take_length]at hI
  obtain ⟨L,hL⟩:∃L,ls.length=L:=⟨_,rfl⟩
  have hok:=Dq (r:=dr) (D:=D) hft
  have hpo:=TN.p_ok hok
  have ph:∀t x,x<h→(I9 h ls us dr).p (t*(h+L)+x)=(t*h+x,(t+1)*h+x,1099511627776,0):=fun t x hx=>by
   rw [←hL];exact TN.p_house (T:=I9 h ls us dr) hx
  have pl:∀t k,k<L→(I9 h ls us dr).p (t*(h+L)+(h+k))=(t*h+(ls.getD k dL).1.toNat,(t+1)*h+(ls.getD k dL).2.1.toNat,Cp ls (k:Int) (dr+(t:Int))-A9 us (k:Int) (dr+(t:Int)) us.length,EC ls (k:Int) (dr+(t:Int))):=fun t k hk=>by
   rw [←hL]at hk ⊢;exact TN.p_link (T:=I9 h ls us dr) hk
  have hW:(I9 h ls us dr).W=h+L:=by rw[←hL];rfl
  have hh:(I9 h ls us dr).h=h:=rfl
  rw [hW,hh,hN]at hpo
  obtain ⟨p,hp⟩:∃p,(I9 h ls us dr).p=p:=⟨_,rfl⟩
  have hRp:EE ⟨h,D,ls,us,df,dt,db,dr,dd⟩ ⟨ob,M⟩=(gP M,⟨mkO ob M (gA p (D*(h+L))) (gO p N (D*(h+L))) N,M+5+N⟩):=by
   simp only[EE,GM.T,GM.N,GM.n,hp,hN,hL]
  rw [hRp]at hR1 hR2
  clear hRp
  rw [hp]at hpo ph pl
  have hI:MkI ob M (gA p (0*(h+L))) (gO p N (0*(h+L))) (List.replicate N 0) (us.map tkE) ⟨O,nx⟩:=by rw[Nat.zero_mul];exact hI
  simp +contextual (maxSteps:=4000000) only[↓bdD,bdP,Nat.reduceLT,Nat.reduceBEq,↓reduceIte,Gt,h40]
  refine Ax [13,14,15,16,17,56,57,58,59,60,61,62,63,64,65,66,67,68,69,70,71,72,73,74,75,76,77,78,79,80,81,82,83,84,85,86,87,88,89,90,91,92,93,94,95,96,97,98,99,100,101,102,103,104,105,106,107,108,109,110,111,112,113,114,115,116,117,118,119,120,121,122,123,124,125,126,127,128] D (fun t ρ st'=>ρ 56=I t∧MkI ob M (gA p (t*(h+L))) (gO p N (t*(h+L))) (List.replicate N 0) (us.map tkE) st') (.refl _) ?_ ?_
  ·simp +contextual (maxSteps:=4000000) only[↓bdD,bdP]
   exact hI
  clear hI
  rintro t ρ5 ⟨O3,n3⟩ ht ⟨h56,hI⟩
  by_cases htD:t<D
  ·clear mi0 gh F9 F0 F1 r1 r2 hF hO1 a0 a1 a2 a3 a9
   have hle:(t+1)*(h+L)≤D*(h+L):=Nat.mul_le_mul_right _ (by omega)
   have hs1:(t+1)*(h+L)=t*(h+L)+(h+L):=Nat.succ_mul _ _
   have hn1:(t+1)*h=t*h+h:=Nat.succ_mul _ _
   have hn2:(t+2)*h≤N:=by rw[←hN];exact Nat.mul_le_mul_right _ (by omega)
   have hn3:(t+2)*h=(t+1)*h+h:=Nat.succ_mul _ _
   have hDW:D*(h+L)≤7200:=Nat.le_trans (Nat.mul_le_mul h7 (show h+L≤72 by omega)) (by decide)
   have wt:IntKind.i64.wrap ((t:Int)*(h:Int))=((t*h:Nat):Int):=by rw[←Int.natCast_mul,Ag (by omega) (by omega)]
   have wt1:=BF (k:=t) (by omega)
   have wth:IntKind.i64.wrap (((t+1:Nat):Int)*(h:Int))=(((t+1)*h:Nat):Int):=by rw[←Int.natCast_mul,Ag (by omega) (by omega)]
   have hol:∀j,(gO p N j).length=N:=fun j=>Dv
   have hadd:∀(j:Nat) (S:Store) (u v:Nat) (x y:Int),j<D*(h+L)→p j=(u,v,x,y)→MkI ob M (gA p j) (gO p N j) (List.replicate N 0) (us.map tkE) S →
     Be MX MW OU [gP M,I (u:Nat),I (v:Nat),I x,I y] S=some (.tuple [],⟨aO S.obj M u v ((gA p j).length / 2+1) (Fl (gA p j) u v x y) (CN (gO p N j) u v (gA p j).length) (List.replicate N 0),S.next⟩) ∧
     MkI ob M (gA p (j+1)) (gO p N (j+1)) (List.replicate N 0) (us.map tkE) ⟨aO S.obj M u v ((gA p j).length / 2+1) (Fl (gA p j) u v x y) (CN (gO p N j) u v (gA p j).length) (List.replicate N 0),S.next⟩:=by
    intro j S u v x y hj hpj hI
    have q:=hpo j hj
    rw [hpj]at q
    dsimp only at q
    obtain ⟨b1,b2,b3,b4,b5,b6⟩:=q
    have c1:=MR (p:=p) (N:=N) (n:=j) (fun i hi=>hpo i (by omega))
    have c2:=c1 u
    have c3:=c1 v
    have hAl:=Cq (p:=p) (n:=j)
    refine ⟨Ah1 (gA p j) (gO p N j) (List.replicate N 0) ⟨hI.gr,?_,?_,b3,?_,?_,?_,?_,?_,?_,?_⟩,?_⟩
    all_goals (try dsimp only)
    ·rw [hol];exact b1
    ·rw [hol];exact b2
    ·exact hI.nx
    ·omega
    ·omega
    ·omega
    ·omega
    ·omega
    ·omega
    ·rw [gA,gO,hpj]
     exact MkI.add (O:=S.obj) (nx:=S.next) hI r0 (by rw[hol];exact b1) (by rw[hol];exact b2) b3
   simp +contextual (maxSteps:=4000000) only[↓bdD,bdP,Nat.reduceLT,Nat.reduceBEq,Nat.reduceAdd,↓reduceIte,ty3,Aw,Gt,FT,h56,htD]
   refine Ax [14,61,62,63,64,65,66,67,68,69,70,71,72,73,74,75,76,77,78,79] h (fun x ρ st'=>ρ 61=I x∧MkI ob M (gA p (t*(h+L)+x)) (gO p N (t*(h+L)+x)) (List.replicate N 0) (us.map tkE) st') (.refl _) ?_ ?_
   ·simp +contextual (maxSteps:=4000000) only[↓bdD,bdP]
    exact hI
   clear hI
   rintro x ρ6 ⟨O4,n4⟩ hxh ⟨h61,hI⟩
   by_cases hx:x<h
   ·have wx:=BF (k:=x) (by omega)
    have wx1:IntKind.i64.wrap (((t*h:Nat):Int)+(x:Int))=((t*h+x:Nat):Int):=by rw[←Int.natCast_add,Ag (by omega) (by omega)]
    have wx2:IntKind.i64.wrap ((((t+1)*h:Nat):Int)+(x:Int))=(((t+1)*h+x:Nat):Int):=by rw[←Int.natCast_add,Ag (by omega) (by omega)]
    obtain ⟨sp,hI2⟩:=hadd (t*(h+L)+x) ⟨O4,n4⟩ (t*h+x) ((t+1)*h+x) 1099511627776 0 (by omega) (ph t x hx) hI
    unfold gP at sp
    dsimp only at sp hI2
    simp +contextual (maxSteps:=4000000) only[↓bdD,bdP,Nat.reduceLT,Nat.reduceBEq,Nat.reduceAdd,↓reduceIte,ty3,Aw,Gt,SQ,KF,FT,WQ,h61,hx,wx,wt,wt1,wth,wx1,wx2,sp]
    exact hI2
   have e:x=h:=by omega
   rw [e]at h61 hI
   have hI:MkI ob M (gA p (t*(h+L)+(h+0))) (gO p N (t*(h+L)+(h+0))) (List.replicate N 0) (us.map tkE) ⟨O4,n4⟩:=hI
   simp +contextual (maxSteps:=4000000) only[↓bdD,bdP,Nat.reduceLT,Nat.reduceBEq,Nat.reduceAdd,↓reduceIte,By,Aw,Gt,FT,h61,hL]
   refine Ax [15,16,17,83,84,85,86,87,88,89,90,91,92,93,94,95,96,97,98,99,100,101,102,103,104,105,106,107,108,109,110,111,112,113,114,115,116,117,118,119,120,121,122,123,124,125,126,127] L (fun k ρ st'=>ρ 83=I k∧MkI ob M (gA p (t*(h+L)+(h+k))) (gO p N (t*(h+L)+(h+k))) (List.replicate N 0) (us.map tkE) st') (.refl _) ?_ ?_
   ·simp +contextual (maxSteps:=4000000) only[↓bdD,bdP]
    exact hI
   clear hI
   rintro k ρ7 ⟨O5,n5⟩ hkL ⟨h83,hI⟩
   by_cases hk:k<L
   ·have wk:=BF (k:=k) (by omega)
    have hkl:k<ls.length:=by omega
    have hmp:=hI.mp
    have hnx:=hI.nx
    dsimp only at hmp hnx
    rw [hol]at hnx
    have hend:=ok.net.ends k hkl
    have hfs:=Fg hft (k:=(k:Int)) (t:=dr+(t:Int)) ⟨by omega,by omega⟩
    have hcb:=Ej ok.net (link:=(k:Int)) (tick:=dr+(t:Int)) (by omega) (by omega)
    have hpe:=pl t k hk
    have hget:=Wt ok (a:=(k:Int)) (b:=dr+(t:Int))
    have hkey:=F3 (a:=(k:Int)) (b:=dr+(t:Int)) (by omega) (by omega)
    have hnl:=Br hkl
    have w4:IntKind.i64.wrap (dr+(t:Int))=dr+(t:Int):=Ag (by omega) (by omega)
    have h24:=MF (t:=dr+(t:Int)) (by omega)
    unfold Cp at hpe hcb hfs
    unfold EC at hpe
    rw [Int.toNat_natCast]at hpe hcb hfs
    have hlt24:(dr+(t:Int)).toNat % 24<24:=Nat.mod_lt _ (by omega)
    have hli24:(((dr+(t:Int)).toNat % 24:Nat):Int)<24:=by omega
    generalize (dr+(t:Int)).toNat % 24=hr at *
    have hc1:=Cu (a:=ls.getD k dL) hlt24
    have hc2:=Ei (a:=ls.getD k dL) hlt24
    generalize hlk:ls.getD k dL=lk at *
    generalize A9 us (k:Int) (dr+(t:Int)) us.length=sn at *
    obtain ⟨cp,hcp⟩:∃c,CL lk hr=c:=⟨_,rfl⟩
    obtain ⟨pc,hpc⟩:∃c,Er lk hr=c:=⟨_,rfl⟩
    rw [hcp]at hpe hcb hfs hc1
    rw [hpc]at hpe hc2
    obtain ⟨fu,hfu⟩:∃u,lk.1.toNat=u:=⟨_,rfl⟩
    obtain ⟨fv,hfv⟩:∃u,lk.2.1.toNat=u:=⟨_,rfl⟩
    have hf1:lk.1=(fu:Int):=by omega
    have hf2:lk.2.1=(fv:Int):=by omega
    rw [hfu,hfv]at hpe
    have wx1:IntKind.i64.wrap (((t*h:Nat):Int)+(fu:Int))=((t*h+fu:Nat):Int):=by rw[←Int.natCast_add,Ag (by omega) (by omega)]
    have wx2:IntKind.i64.wrap ((((t+1)*h:Nat):Int)+(fv:Int))=(((t+1)*h+fv:Nat):Int):=by rw[←Int.natCast_add,Ag (by omega) (by omega)]
    have w5:IntKind.i64.wrap (cp-sn)=cp-sn:=Ag (by omega) (by omega)
    have hIh:=(hI.high (x:=some (.arr 0 50 [.agg (lkC lk)])) r0)
    have hlk0:=Fd (a:=lk)
    have hlk1:=IE (a:=lk)
    rw [hf1]at hlk0
    rw [hf2]at hlk1
    have d1:¬M+3=n5:=by omega
    have d2:¬n5=M+3:=by omega
    obtain ⟨sp,hI2⟩:=hadd (t*(h+L)+(h+k)) ⟨Aa O5 n5 (some (.arr 0 50 [.agg (lkC lk)])),n5+1⟩ (t*h+fu) ((t+1)*h+fv) (cp-sn) pc (by omega) hpe hIh
    unfold gP at sp
    dsimp only at sp hI2
    simp +contextual (maxSteps:=4000000) only[↓bdD,bdP,Nat.reduceLT,Nat.reduceBEq,Nat.reduceAdd,Nat.reduceLeDiff,Int.reduceEq,Store.new,Store.set,↓reduceIte,ty3,By,Aw,AX,GT,B6,Ms,kA,Gt,SQ,KF,Mp,FT,WQ,h83,hk,wk,wt,wt1,wth,wx1,wx2,w4,w5,h24,hli24,hmp,hget,hkey,hnl,hc1,hc2,hlk0,hlk1,d1,BG,CQ,hkl,A4,sp,Nat.mul_one]
    exact hI2
   have e:k=L:=by omega
   rw [e]at h83 hI
   simp +contextual (maxSteps:=4000000) only[↓bdD,bdP,Nat.reduceLT,Nat.reduceBEq,↓reduceIte,Gt,h56,h83,wt1]
   refine ⟨?_,by rw[hs1];exact hI⟩
   rw [AF (by decide +kernel)]
   simp +contextual (maxSteps:=4000000) only[↓bdD,bdP,Nat.reduceBEq]
   rw [AF (by decide +kernel)]
   simp +contextual (maxSteps:=4000000) only[↓bdD,bdP,Nat.reduceBEq]
  ·have e:t=D:=by omega
   subst e
   simp +contextual (maxSteps:=4000000) only[↓bdD,bdP,Nat.reduceLT,Nat.reduceBEq,Ai,↓reduceIte,Gt,h56]
   rw [←hR1,←hR2]
   exact zA h1 hI.gr hI.fr Dv
noncomputable def e_make:Nat×Ent:=(65,.x (Be Ja Jb EE))
theorem nL:AM Try.prog e_make.1 e_make.2:=FS fun _ _ hx=>Aei hx
theorem Aej (a b:GM) (st:Store) (h:Ja a=Ja b) (hx:Jb a st) (hy:Jb b st):EE a st=EE b st:=by
 obtain ⟨h1,D1,ls1,us1,⟨df1,dt1,db1,dr1,dd1⟩⟩:=a
 obtain ⟨h2,D2,ls2,us2,⟨df2,dt2,db2,dr2,dd2⟩⟩:=b
 simp only[Ja,List.cons.injEq,and_true,PV.agg.injEq,PV.int.injEq,PV.lits.injEq,AG,AR,true_and]at h
 obtain ⟨⟨e1,e2⟩,e3,e4,e5,e6,e7,e8⟩:=h
 have e1:h1=h2:=by omega
 have a4:=hx.2.2.2.1
 have b4:=hy.2.2.2.1
 dsimp only at a4 b4
 have e9:D1=D2:=by omega
 subst e1;subst e2;subst e3;subst e4;subst e5;subst e6;subst e7;subst e8;subst e9
 rfl
theorem Aek (x:GM) {st:Store} (h:Jb x st):Be Ja Jb EE [kT ((x.h:Nat),x.ls),AB x.us,Cr x.d] st=some (EE x st):=Bq Aej (i:=x) h
theorem Ah5 {ob:Nat→Option IObj} {M N:Nat} {A:List Arc} {out:List (List Nat)} (ho:out.length=N):GrAt M A out (List.replicate N 0) (mkO ob M A out N):=by
 refine ⟨?_,?_,?_,?_,fun u hu=>?_⟩ <;> unfold mkO
 ·rw [if_pos rfl]
 ·rw [if_neg (by omega),if_pos rfl]
 ·rw [if_neg (by omega),if_neg (by omega),if_pos rfl]
 ·rw [if_neg (by omega),if_neg (by omega),if_neg (by omega),if_pos rfl]
 ·rw [if_neg (by omega),if_neg (by omega),if_neg (by omega),if_neg (by omega),if_pos (by omega),show M+5+u-(M+5)=u by omega]
end Sim
