/- What functions of this seat compute, by values: contracts (lemmas of the statement's proof, under the conditions that each names). -/
import Derived.Test.YtppljhpecoeakaaQYB
import Derived.Test.YtppljhpecoeakaaQXN
import Derived.Test.YtppljhpecoeakaaQXS
import Derived.Test.YtppljhpecoeakaaQA
import Derived.Test.YtppljhpecoeakaaSimAA
import Derived.JoinedOf
import Derived.OpenShut
import Derived.Test.YtppljhpecoeakaaQYA
set_option maxRecDepth 100000
set_option maxHeartbeats 4000000
set_option linter.unusedVariables false
set_option linter.unusedSimpArgs false
namespace Sim
open Go Go.Proofs
attribute [local congr] Ap Aq Al AC As Ar Av
noncomputable def Ug:Int→List PV:=fun b => [I b]
noncomputable def Abw:Int→PV:=fun b=>exV b
def Abx:Int→Prop:=fun b=>b=120∨b=231∨b=4194305
noncomputable def e_exa:Nat×Ent:=(30,.v (Ah Ug Abw Abx))
theorem Aiq:∀i j,Ug i=Ug j→i=j:=by
 rintro b₁ b₂ h
 simp only[Ug,List.cons.injEq,and_true,PV.int.injEq,true_and]at h
 first | exact h | omega | (simp[Prod.ext_iff,h];done)
theorem rC (b:Int):Ah Ug Abw Abx [I b]=@ite (Option (PV)) (b=120∨b=231∨b=4194305) (Classical.propDecidable _) (some (exV b)) none:=BV Aiq b
def Aby:Prop:=∀(b:Int) (h:b=120∨b=231∨b=4194305) ,VC Try.prog 30 [I b] (exV b)
def Abz:Prop:=AM Try.prog e_exa.1 e_exa.2
theorem Air (c:Aby):Abz:=At fun b h=>c b h
theorem Ais:Aby:=by
 rintro b (rfl | rfl | rfl)
 ·exact KG AP Aim
 ·exact KG AP Ain
 ·exact KG AP Aio
theorem Ait:Abz:=Air Ais
noncomputable def Nx:List Int→List PV:=fun l => [ints l]
noncomputable def rD:List Int→PV:=fun l=>DK [l,l,l,l]
def rF:List Int→Prop:=fun l=>True
noncomputable def e_flat:Nat×Ent:=(31,.v (Ah Nx rD rF))
theorem Agf:∀i j,Nx i=Nx j→i=j:=by
 rintro l₁ l₂ h
 simp only[Nx,List.cons.injEq,and_true,PV.lits.injEq,true_and,DP]at h
 first | exact h | omega | (simp[Prod.ext_iff,h];done)
theorem WB (l:List Int):Ah Nx rD rF [ints l]=some (DK [l,l,l,l]):=AA Agf (i:=l) trivial
def rG:Prop:=∀(l:List Int) ,VC Try.prog 31 [ints l] (DK [l,l,l,l])
def rH:Prop:=AM Try.prog e_flat.1 e_flat.2
theorem Agg (c:rG):rH:=At fun l h=>c l
theorem Agh:rG:=by
 intro l
 refine A5 AP (l := []) (Ao) [] []  Try.func31 rfl (by decide +kernel) (N:=8) rfl (by simp) rfl (by kernel_rfl) fun hs=>?_
 simp only[AI,PV.small,List.length_map,and_true]at hs
 simp +contextual (maxSteps:=4000000) only[↓bdD,bdP,Nat.reduceLT,Nat.reduceBEq,Ai,Nat.reduceAdd,Nat.reduceLeDiff,st0,↓reduceIte,Nat.mul_one,Try.f31,Bf,AZ]
theorem Agi:rH:=Agg Agh
def Rc (y:List (List Int)):Bool:=decide (∀i,i<y.length→(y.getD i []).length≤20)&&decide (y.length≤40)
noncomputable def HW:List (List Int)→List PV:=fun y => [DK y]
noncomputable def Uh:List (List Int)→PV:=fun y=>B (Rc y)
def Ui:List (List Int)→Prop:=fun y=>True
noncomputable def e_little:Nat×Ent:=(11,.v (Ah HW Uh Ui))
theorem rI:∀i j,HW i=HW j→i=j:=by
 rintro y₁ y₂ h
 simp only[HW,List.cons.injEq,and_true,PV.lits.injEq,true_and,HL]at h
 first | exact h | omega | (simp[Prod.ext_iff,h];done)
theorem Km (y:List (List Int)):Ah HW Uh Ui [DK y]=some (B (Rc y)):=AA rI (i:=y) trivial
def Uj:Prop:=∀(y:List (List Int)) ,VC Try.prog 11 [DK y] (B (Rc y))
def Uk:Prop:=AM Try.prog e_little.1 e_little.2
theorem rJ (c:Uj):Uk:=At fun y h=>c y
theorem rK:Uj:=by
 intro y
 refine A5 AP (l := []) (Ao) [] []  Try.func11 rfl (by decide +kernel) (N:=18) rfl (by simp) rfl (by kernel_rfl) fun hs=>?_
 simp only[AI,PV.small,List.length_map,and_true]at hs
 have hl:=hs.1
 simp +contextual (maxSteps:=4000000) only[↓bdD,bdP,Nat.reduceLT,Nat.reduceBEq,Nat.reduceAdd,st0,↓reduceIte,Try.f11,Bf]
 refine Ax [2,4,7,8,9,10,11,12,13,14] y.length (fun k ρ st'=>ρ 7=I k∧∀i,i<k→(y.getD i []).length≤20) (.refl _) ?_ ?_
 ·simp +contextual (maxSteps:=4000000) only[↓bdD,bdP]
  exact fun i hi=>absurd hi (by omega)
 rintro k ρ st' hk ⟨h7,hI⟩
 by_cases hlt:k<y.length
 ·have hwk:=Ag (n:=(k:Int)+1) (by omega) (by omega)
  have hyk:=CD hlt
  by_cases c:(y.getD k []).length≤20
  ·have ci:¬(20:Int)<((y.getD k []).length:Int):=by omega
   generalize hr:y.getD k []=r at *
   simp +contextual (maxSteps:=4000000) only[↓bdD,bdP,Nat.reduceLT,Nat.reduceBEq,Nat.reduceAdd,↓reduceIte,Bf,AZ,h7,hlt,hwk,hyk,ci]
   refine ⟨by omega,fun i hi=>?_⟩
   by_cases e:i=k
   ·rw [e,hr];exact c
   ·exact hI i (by omega)
  ·have ci:(20:Int)<((y.getD k []).length:Int):=by omega
   have e:Rc y=false:=by
    unfold Rc
    rw [decide_eq_false (fun g=>c (g k hlt))];rfl
   rw [e]
   generalize y.getD k []=r at *
   simp +contextual (maxSteps:=4000000) only[↓bdD,bdP,Nat.reduceLT,Nat.reduceBEq,Ai,Nat.reduceAdd,↓reduceIte,Bf,AZ,h7,hlt,hyk,ci]
 ·have e:k=y.length:=by omega
  subst e
  have e2:Rc y=decide (y.length≤40):=by
   unfold Rc
   rw [decide_eq_true (p:=∀i,i<y.length→(y.getD i []).length≤20) hI];rfl
  have e3:decide ((y.length:Int)≤40)=decide (y.length≤40):=decide_eq_decide.2 (by omega)
  rw [e2]
  simp +contextual (maxSteps:=4000000) only[↓bdD,bdP,Nat.reduceLT,Nat.reduceBEq,Ai,Nat.reduceAdd,↓reduceIte,Bf,h7,hlt,e3]
theorem rL:Uk:=rJ rK
end Sim
namespace Sim
open Go Go.Proofs
attribute [local congr] Ap Aq Al AC As Ar Av
theorem Agj:Kk 3 exL [] (exD 231)=0:=by
 unfold Kk
 rw [if_neg (fun g=>g Rb),if_neg (by decide)]
noncomputable def Kn:Unit→List PV:=fun _ => []
noncomputable def Ul:Unit→PV:=fun _=>B true
def Um:Unit→Prop:=fun _=>True
noncomputable def e_sanity:Nat×Ent:=(12,.v (Ah Kn Ul Um))
theorem rM:∀i j,Kn i=Kn j→i=j:=by
 rintro _ _ h
 rfl
theorem DX  : Ah Kn Ul Um []=some (B true):=AA rM (i:=()) trivial
def Un:Prop:=VC Try.prog 12 [] (B true)
def Uo:Prop:=AM Try.prog e_sanity.1 e_sanity.2
theorem rN (c:Un):Uo:=At fun _ h=>c
theorem rO:Un:=by
 refine A5 AP (l := [e_exa,e_flat,e_pbound,e_pbar,e_pprove,e_block,e_pcheck,e_paccept,e_pstops]) ((Ae Ait (Ae Agi (Ae Ni (Ae pT (Ae rB (Ae Aav (Ae HK (Ae cJ (Ae pX Ao)))))))))) [] []  Try.func12 rfl (by decide +kernel) (N:=208) rfl (by simp) rfl (by kernel_rfl) fun hs=>?_
 simp only[AI]at hs
 have a1:=Ev (hn:=3) (ls:=exL) (us := []) (d:=exD 120) (y:=exY 0 2 4)
 have a2:=Ev (hn:=3) (ls:=exL) (us := []) (d:=exD 120) (y:=exY 4 2 0)
 have a3:=Ev (hn:=3) (ls:=exL) (us := []) (d:=exD 120) (y := [[0,2,6],[0,2,6],[0,2,5],[0,2,6]])
 have a4:=Q3 (hn:=3) (ls:=exL) (us := []) (d:=exD 120) (ts := [5,9,9])
 have a5:=Q3 (hn:=3) (ls:=exL) (us := []) (d:=exD 120) (ts := [5,6,9])
 have a6:=Q3 (hn:=3) (ls:=exL) (us := []) (d:=exD 120) (ts := [5,6,8])
 have a7:=Ud (hn:=3) (ls:=exL) (us := []) (d:=exD 120)
 have a8:=Ud (hn:=3) (ls:=exL) (us := []) (d:=exD 231)
 have a9:=Aas (hn:=3) (ls:=exL) (us := []) (d:=exD 231)
 have b1:=BL (hn:=3) (ls:=exL) (us := []) (d:=exD 120)
 have b2:=BL (hn:=3) (ls:=exL) (us := []) (d:=exD 4194305)
 have b3:=Ij (hn:=3) (ls:=exL) (us := []) (d:=exD 120) (l:=exB) (y:=exY 0 2 4)
 have b4:=Ij (hn:=3) (ls:=exL) (us := []) (d:=exD 120) (l:=exA) (y:=exY 0 2 4)
 have b5:=Ij (hn:=3) (ls:=exL) (us := []) (d:=exD 120) (l:=exB) (y:=exY 0 0 0)
 have b6:=Ij (hn:=3) (ls:=exL) (us := []) (d:=exD 120) (l:=Df 3 exL [] (exD 120)) (y:=Ec 3 exL [] (exD 120))
 have b7:=No (hn:=3) (ls:=exL) (us := []) (d:=exD 120) (ts := [5,6,9])
 have b8:=No (hn:=3) (ls:=exL) (us := []) (d:=exD 231) (ts := [5,6,9])
 have b9:=No (hn:=3) (ls:=exL) (us := []) (d:=exD 231) (ts:=Jm 3 exL [] (exD 231))
 have e1:HQ 3 exL [] (exD 120)=0:=by unfold HQ;rw[if_neg (fun g=>g Ra),qV]
 have e2:HQ 3 exL [] (exD 231)=21:=by unfold HQ;rw[if_neg (fun g=>g Rb),Agc]
 rw [v_bnd1.1,v_bnd1.2]at a1
 rw [v_bnd2.1,v_bnd2.2]at a2
 rw [Af7]at a3
 rw [v_bar1.1,v_bar1.2]at a4
 rw [v_bar2.1,v_bar2.2]at a5
 rw [Af8]at a6
 rw [if_pos (fun _=>by decide),e1,if_pos rfl,if_pos rfl]at a7
 rw [if_pos (fun _=>by decide),e2,if_neg (by decide),if_neg (by decide)]at a8
 rw [Agj,if_pos rfl]at a9
 rw [Ra]at b1
 rw [Af6]at b2
 rw [Af9]at b3
 rw [Aga]at b4
 rw [Agb]at b5
 rw [decide_eq_true Agd]at b6
 rw [v_bar2.1,v_bar2.2]at b7
 rw [v_bar4.1,v_bar4.2]at b8
 rw [decide_eq_true (show FG 3 exL [] (exD 231) (Jm 3 exL [] (exD 231))=0∧Ga 3 exL [] (exD 231) (Jm 3 exL [] (exD 231))<(exD 231).2.2.1 from Aip)]at b9
 rw [show decide ((0:Int)=0∧(230:Int)<(exD 120).2.2.1)=false from rfl]at b7
 rw [show decide ((0:Int)=0∧(230:Int)<(exD 231).2.2.1)=true from rfl]at b8
 generalize Df 3 exL [] (exD 120)=cl at *
 generalize Ec 3 exL [] (exD 120)=pl at *
 generalize Jm 3 exL [] (exD 231)=bl at *
 generalize GC 3 exL [] (exD 120) [[0,2,6],[0,2,6],[0,2,5],[0,2,6]]=x1 at *
 generalize Ga 3 exL [] (exD 120) [5,6,8]=x2 at *
 have f1:=WB (l := [0,2,4])
 have f2:=WB (l := [4,2,0])
 have f3:=WB (l := [0,0,0])
 have f4:=rC (b:=120)
 have f5:=rC (b:=231)
 have f6:=rC (b:=4194305)
 rw [if_pos (.inl rfl)]at f4
 rw [if_pos (.inr (.inl rfl))]at f5
 rw [if_pos (.inr (.inr rfl))]at f6
 dsimp only[Az,AB,DK,ints,exV,exD,exY,exA,exB,GX]at a1 a2 a3 a4 a5 a6 a7 a8 a9 b1 b2 b3 b4 b5 b6 b7 b8 b9 f1 f2 f3 f4 f5 f6
 simp only[ints,List.map_cons,List.map_nil]at a1 a2 a3 a4 a5 a6 a7 a8 a9 b1 b2 b3 b4 b5 b6 b7 b8 b9 f1 f2 f3
 simp +contextual (maxSteps:=4000000) only[↓bdD,bdP,Nat.reduceLT,Nat.reduceBEq,Ai,Nat.reduceEqDiff,Nat.reduceAdd,Nat.reduceMul,Nat.reduceLeDiff,st0,Store.new,Store.set,↓reduceIte,e_exa,e_flat,e_pbound,e_pbar,e_pprove,e_block,e_pcheck,e_paccept,e_pstops,Ac,Ab,Nat.mul_one,BT,Try.f12,ty3,AJ,Bk,Bf,AZ,BU,f1,f2,f3,f4,f5,f6,a1,a2,a3,a4,a5,a6,a7,a8,a9,b1,b2,b3,b4,b5,b6,b7,b8,b9]
theorem rP:Uo:=rN rO
end Sim
namespace Sim
open Go Go.ChangeShapes Go.WideShapes Go.ChangeAt Go.RowKit Go.Proofs
theorem RdC.conv {P:Program} {w:World} {t:TypeId} {α β:Type} {f:α→PV} {q:α→Prop} (h:RdC P w t f q) (g:β→PV) (q':β→Prop) (hc:∀a,q a→∃b,q' b∧g b=f a):RdC P w t g q':=fun enc bs spare held fuel cs x hx=>by
 obtain ⟨a,h1,h2⟩:=h enc bs spare held fuel cs x hx
 obtain ⟨b,h3,h4⟩:=hc a h1
 exact ⟨b,h3,by rw[h4];exact h2⟩
theorem Aiu {P:Program} {w:World} {k:IntKind} {cs:List Value} {n:Nat} (hl:cs.length=n) (h:∀i,i<n→∃(H:Type) (enc:TypeId×Value→H) (bs:Nat) (spare:Nat→Bool) (held:Bool) (m:Nat) (e:TypeId) (x:DataW H×List MemPlace),P.underlying e=some (.int k)∧DataW.trod enc P w bs spare held m e ((cs.drop i).take 1)=some x) :
  ∃ l:List Int,l.length=n∧(∀a∈l,(Lit.int k a).wf=true)∧(∀c∈l.map (PV.int k),c.isCell=true)∧∀(j:Nat) (c:PV),(l.map (PV.int k))[j]?=some c→VR (base (full w) w) (cs.getD j undef) c:=by
 obtain ⟨l,h1,h2⟩:=Fu (Q:=fun i (a:Int)=>(Lit.int k a).wf=true∧VR (base (full w) w) (cs.getD i undef) (.int k a)) n fun i hi=>by
  obtain ⟨H,enc,bs,spare,held,m,e,x,he,hx⟩:=h i hi
  obtain ⟨a,h1,_,_,h4⟩:=RdC.int he enc bs spare held m _ x hx
  refine ⟨a,h1,?_⟩
  have := h4 0 _ rfl
  rwa [List.getD_eq_getElem?_getD,List.getElem?_take_of_lt (by omega),List.getElem?_drop,Nat.add_zero,←List.getD_eq_getElem?_getD]at this
 refine ⟨l,h1,fun a ha=>?_,fun c hc=>?_,fun j c hj=>?_⟩
 ·obtain ⟨i,hi,rfl⟩:=List.getElem_of_mem ha
  exact (h2 i hi).1
 ·obtain ⟨a,_,rfl⟩:=List.mem_map.1 hc
  rfl
 ·rw [List.getElem?_map,Option.map_eq_some_iff]at hj
  obtain ⟨a,ha,rfl⟩:=hj
  obtain ⟨hi,rfl⟩:=List.getElem?_eq_some_iff.1 ha
  exact (h2 j hi).2
theorem RdC.arrayI {P:Program} {w:World} {t e:TypeId} {n:Nat} {k:IntKind} (ht:P.underlying t=some (.array n e)) (hn:P.cellsOf t=n) (hc:P.cellsOf e=1) (he:P.underlying e=some (.int k)) :
  RdC P w t (fun l:List Int=>.agg (l.map (PV.int k))) (fun l=>l.length=n∧∀a∈l,(Lit.int k a).wf=true):=by
 intro H enc bs spare held fuel cs x h
 obtain ⟨xs,m,_,_,hl,hlen,hf⟩:=DataW.trod_array ht h
 rw [hn]at hl
 obtain ⟨l,h1,h2,h3,h4⟩:=Aiu (P:=P) (w:=w) (k:=k) hl fun i hi=>by
  have h5:=hf i hi
  rw [hc,Nat.mul_one,List.getElem?_eq_getElem (by omega)]at h5
  exact ⟨H,enc,bs,spare,held,m,e,_,he,h5⟩
 exact ⟨l,⟨h1,h2⟩,by simp[PV.cells,h1,hl],h3,h4⟩
theorem RdC.structI {P:Program} {w:World} {t:TypeId} {fs:Array Field} {k:IntKind} (ht:P.underlying t=some (.struct fs)) (hn:P.cellsOf t=fs.size) (hf:∀(i:Nat) (f:Field),fs[i]?=some f→f.offset=i∧P.cellsOf f.type=1∧P.underlying f.type=some (.int k)) :
  RdC P w t (fun l:List Int=>.agg (l.map (PV.int k))) (fun l=>l.length=fs.size∧∀a∈l,(Lit.int k a).wf=true):=by
 intro H enc bs spare held fuel cs x h
 obtain ⟨xs,m,_,_,hl,hlen,hg⟩:=DataW.trod_struct ht h
 rw [hn]at hl
 obtain ⟨l,h1,h2,h3,h4⟩:=Aiu (P:=P) (w:=w) (k:=k) hl fun i hi=>by
  obtain ⟨f1,f2,f3⟩:=hf i fs[i] (by simp[hi])
  have h5:=hg i fs[i] (by simp[hi])
  rw [f1,f2,List.getElem?_eq_getElem (by omega)]at h5
  exact ⟨H,enc,bs,spare,held,m,_,_,f3,h5⟩
 exact ⟨l,⟨h1,h2⟩,by simp[PV.cells,h1,hl],h3,h4⟩
theorem RdC.argS {P:Program} {w:World} {t:TypeId} (ht:(∃fs,P.underlying t=some (.struct fs))∨∃n e,P.underlying t=some (.array n e)) {α:Type} {l:α→List PV} {q:α→Prop} (h:RdC P w t (fun a=>.agg (l a)) q) {H:Type} {enc:TypeId×Value→H} {bs b0:Nat} {spare:Nat→Bool} {held:Bool} {v:Value} {d:DataW H} {ps:List MemPlace}
  (hval : Value.okWide P w .any b0 t v) (hd:DataW.Trod enc P w bs spare held t v d ps):∃a,q a∧VR (base (full w) w) v (.agg (l a)):=by
 unfold Value.okWide at hval
 have key:∃cs,v=.agg cs:=by
  rcases ht with ⟨fs,ht⟩ | ⟨n,e,ht⟩
  ·rw [ht]at hval;obtain⟨cs,rfl,_⟩:=hval;exact⟨cs,rfl⟩
  ·rw [ht]at hval;obtain⟨cs,rfl,_⟩:=hval;exact⟨cs,rfl⟩
 obtain ⟨cs,rfl⟩:=key
 obtain ⟨fuel,hd⟩:=hd
 obtain ⟨a,qa,h1,h2,h3⟩:=h enc bs spare held fuel _ _ hd
 refine ⟨a,qa,.agg cs _ ?_ h2 fun i p hp=>?_⟩
 ·have h4:(l a).length=cs.toList.length:=h1
  rw [Array.length_toList]at h4;exact h4.symm
 ·have := h3 i p hp
  have e:(Value.agg cs).cells.toList.getD i undef=cs.getD i undef:=by
   simp [Value.cells,Array.getD_eq_getD_getElem?,List.getD_eq_getElem?_getD]
  rwa [e]at this
theorem RdC.any {P:Program} {w:World} {t:TypeId} {α:Type} {f:α→PV} {q:α→Prop} (h:RdC P w t f q):RdC P w t f (fun _=>True):=fun enc bs spare held fuel cs x hx=>by
 obtain ⟨a,_,h1⟩:=h enc bs spare held fuel cs x hx
 exact ⟨a,trivial,h1⟩
theorem Aiv:ownKnob Try.prog.godebug=Option.none:=by kernel_rfl
theorem Agk:Kids Try.prog (· < Try.prog.types.size):=kids_rows (by kernel_rfl) (by kernel_rfl)
theorem Aax:((List.range Try.prog.types.size).all fun t=>match Try.prog.underlying t with | some (.slice e)=>decide (0<Try.prog.cellsOf e) | _=>true)=true:=by kernel_rfl
theorem Agl:∀t e,t<Try.prog.types.size→Try.prog.underlying t=some (.slice e)→0<Try.prog.cellsOf e:=fun t e ht hu=>by
 have := List.all_eq_true.1 Aax t (List.mem_range.2 ht)
 rw [hu]at this
 simpa using this
theorem r3 (W:World):RdC Try.prog W 3 (fun n:Int=>I n) (fun _=>True):=RdC.any (RdC.int Try.underlying3)
theorem r69 (W:World):RdC Try.prog W 69 (fun a:Snd=>GX a) (fun _=>True):=by
 have h:=@RdC.structI Try.prog W 69 _ .i64 Try.underlying69 (by kernel_rfl) (fun i f h=>by
  match i,h with
  | 0,h=>simp at h;subst h;exact⟨rfl,by kernel_rfl,Try.underlying3⟩
  | 1,h=>simp at h;subst h;exact⟨rfl,by kernel_rfl,Try.underlying3⟩
  | 2,h=>simp at h;subst h;exact⟨rfl,by kernel_rfl,Try.underlying3⟩
  | i+3,h=>simp at h)
 refine @RdC.conv Try.prog W 69 (List Int) Snd _ _ h (fun a:Snd=>GX a) (fun _=>True) ?_
 rintro l ⟨hl,_⟩
 match l,hl with
 | [a,b,c],_=>exact⟨(a,b,c),trivial,rfl⟩
theorem r27 (W:World):RdC Try.prog W 27 (fun a:Dem=>Cr a) (fun _=>True):=by
 have h:=@RdC.structI Try.prog W 27 _ .i64 Try.underlying27 (by kernel_rfl) (fun i f h=>by
  match i,h with
  | 0,h=>simp at h;subst h;exact⟨rfl,by kernel_rfl,Try.underlying3⟩
  | 1,h=>simp at h;subst h;exact⟨rfl,by kernel_rfl,Try.underlying3⟩
  | 2,h=>simp at h;subst h;exact⟨rfl,by kernel_rfl,Try.underlying3⟩
  | 3,h=>simp at h;subst h;exact⟨rfl,by kernel_rfl,Try.underlying3⟩
  | 4,h=>simp at h;subst h;exact⟨rfl,by kernel_rfl,Try.underlying3⟩
  | i+5,h=>simp at h)
 refine @RdC.conv Try.prog W 27 (List Int) Dem _ _ h (fun a:Dem=>Cr a) (fun _=>True) ?_
 rintro l ⟨hl,_⟩
 match l,hl with
 | [a,b,c,d,e],_=>exact⟨(a,b,c,d,e),trivial,rfl⟩
theorem r60 (W:World):RdC Try.prog W 60 (fun l:List Int=>.agg (l.map (PV.int .i64))) (fun l=>l.length=24):=by
 have h:=@RdC.arrayI Try.prog W 60 _ _ .i64 Try.underlying60 (by kernel_rfl) (by kernel_rfl) Try.underlying3
 exact @RdC.conv Try.prog W 60 (List Int) (List Int) _ _ h _ _ fun l h=>⟨l,h.1,rfl⟩
theorem d3 (W:World):RdD Try.prog W 3 (fun n:Int=>I n) (fun _ _ _=>True):=fun enc bs spare held fuel cs x hx=>r3 W enc bs spare held fuel cs x hx
theorem d60 (W:World):RdD Try.prog W 60 (fun l:List Int=>.agg (l.map (PV.int .i64))) (fun l _ _=>l.length=24):=fun enc bs spare held fuel cs x hx=>r60 W enc bs spare held fuel cs x hx
theorem Pk {l:List Int} (h:l.length=24):List.ofFn (fun i:Fin 24=>l.getD i.1 0)=l:=by
 apply List.ext_getElem
 ·simp [h]
 ·intro i h1 h2
  rw [List.getElem_ofFn,List.getD_eq_getElem?_getD,List.getElem?_eq_getElem h2];rfl
theorem r62 (W:World):RdC Try.prog W 62 (fun a:Lnk=>MC a) (fun _=>True):=by
 intro H enc bs spare held fuel cs x h
 have hcell:Try.prog.cellsOf 62=50:=by kernel_rfl
 have k3:Try.prog.cellsOf 3=1:=by kernel_rfl
 have k60:Try.prog.cellsOf 60=24:=by kernel_rfl
 obtain ⟨xs,n,_,hx,hl,hlen,hf⟩:=DataW.trod_struct Try.underlying62 h
 rw [hcell]at hl
 match xs,hlen with
 | [y0,y1,y2,y3],_ =>
  have f0:DataW.trod enc Try.prog W bs spare held n 3 ((cs.drop 0).take (Try.prog.cellsOf 3))=some y0:=hf 0 _ rfl
  have f1:DataW.trod enc Try.prog W bs spare held n 3 ((cs.drop 1).take (Try.prog.cellsOf 3))=some y1:=hf 1 _ rfl
  have f2:DataW.trod enc Try.prog W bs spare held n 60 ((cs.drop 2).take (Try.prog.cellsOf 60))=some y2:=hf 2 _ rfl
  have f3:DataW.trod enc Try.prog W bs spare held n 60 ((cs.drop 26).take (Try.prog.cellsOf 60))=some y3:=hf 3 _ rfl
  rw [k3]at f0 f1
  rw [k60]at f2 f3
  obtain ⟨a,_,_,p0⟩:=RdD.part (f:=fun n:Int=>I n) (q:=fun _ _ _=>True) (d3 W) (cs:=cs) (o:=0) (n:=1) (by omega) f0
  obtain ⟨b,_,_,p1⟩:=RdD.part (f:=fun n:Int=>I n) (q:=fun _ _ _=>True) (d3 W) (cs:=cs) (o:=1) (n:=1) (by omega) f1
  obtain ⟨l2,g2,_,p2⟩:=RdD.part (f:=fun l:List Int=>.agg (l.map (PV.int .i64))) (q:=fun l _ _=>l.length=24) (d60 W) (cs:=cs) (o:=2) (n:=24) (by omega) f2
  obtain ⟨l3,g3,_,p3⟩:=RdD.part (f:=fun l:List Int=>.agg (l.map (PV.int .i64))) (q:=fun l _ _=>l.length=24) (d60 W) (cs:=cs) (o:=26) (n:=24) (by omega) f3
  have hc:lkC (a,b,fun i=>l2.getD i.1 0,fun i=>l3.getD i.1 0) = [I a]++([I b]++(l2.map (PV.int .i64)++l3.map (PV.int .i64))):=by
   simp only[lkC,Pk g2,Pk g3];rfl
  have p0:Part W cs 0 [I a]:=p0
  have p1:Part W cs 1 [I b]:=p1
  have p2:Part W cs 2 (l2.map (PV.int .i64)):=p2
  have p3:Part W cs 26 (l3.map (PV.int .i64)):=p3
  have e26:2+(l2.map (PV.int .i64)).length=26:=by simp[g2]
  have hp:Part W cs 0 (lkC (a,b,fun i=>l2.getD i.1 0,fun i=>l3.getD i.1 0)):=by
   rw [hc]
   exact p0.append (p1.append (p2.append (by
    rw [e26]
    exact p3)))
  refine ⟨(a,b,fun i=>l2.getD i.1 0,fun i=>l3.getD i.1 0),trivial,?_,hp.1,fun j c hj=>?_⟩
  ·simp only[PV.cells,BG];exact hl.symm
  ·have := hp.2 j c hj
   rwa [Nat.zero_add]at this
theorem r25 (W:World):RdC Try.prog W 25 (fun l:List Snd=>AB l) (fun _=>True):=RdC.any (RdC.slice Try.underlying25 (by kernel_rfl) (by decide) (r69 W))
theorem r22 (W:World):RdC Try.prog W 22 (fun l:List Lnk=>Az l) (fun _=>True):=RdC.any (RdC.slice Try.underlying22 (by kernel_rfl) (by decide) (r62 W))
theorem r24 (W:World):RdC Try.prog W 24 (fun a:Int×List Lnk=>.agg [I a.1,Az a.2]) (fun _=>True) :=
 RdC.any (RdC.struct2 Try.underlying24 (by kernel_rfl) ⟨rfl,rfl⟩ ⟨by kernel_rfl,by kernel_rfl⟩ (r3 W) (r22 W) (fun _=>rfl) (fun _=>rfl))
section
variable {W:World} {b0 bs:Nat} {H:Type} {enc:TypeId×Value→H} {spare:Nat→Bool} {held:Bool} {v:Value} {d:DataW H} {ps:List MemPlace}
end
theorem Agm {n:Int} (h:(Lit.int .u16 n).wf=true):0≤n∧n<65536:=by
 simp [Lit.wf,IntKind.min,IntKind.max,IntKind.signed,IntKind.bits]at h
 omega
theorem Rd {n:Int} (h:(Lit.int .u16 n).wf=true):∃a:Nat,n=(a:Int)∧a<65536:=by
 have := Agm h
 exact ⟨n.toNat,by omega,by omega⟩
theorem r58 (W:World):RdC Try.prog W 58 (fun a:Nat×Nat×Nat=>.agg [.int .u16 a.1,.int .u16 a.2.1,.int .u16 a.2.2]) (fun a=>a.1<65536∧a.2.1<65536∧a.2.2<65536):=by
 have h:=@RdC.arrayI Try.prog W 58 _ _ .u16 Try.underlying58 (by kernel_rfl) (by kernel_rfl) Try.underlying57
 refine @RdC.conv Try.prog W 58 (List Int) (Nat×Nat×Nat) _ _ h _ _ ?_
 rintro l ⟨hl,hw⟩
 match l,hl,hw with
 | [a,b,c],_,hw =>
  obtain ⟨a',rfl,ha⟩:=Rd (hw a (by simp))
  obtain ⟨b',rfl,hb⟩:=Rd (hw b (by simp))
  obtain ⟨c',rfl,hc⟩:=Rd (hw c (by simp))
  exact ⟨(a',b',c'),⟨ha,hb,hc⟩,rfl⟩
section
variable {W:World} {b0 bs:Nat} {H:Type} {enc:TypeId×Value→H} {spare:Nat→Bool} {held:Bool} {v:Value} {d:DataW H} {ps:List MemPlace}
theorem cQ (hval:Value.okWide Try.prog W .any b0 58 v) (hd:DataW.Trod enc Try.prog W bs spare held 58 v d ps):∃a b c:Nat,(a<65536∧b<65536∧c<65536)∧VR (base (full W) W) v (.agg [.int .u16 a,.int .u16 b,.int .u16 c]):=by
 obtain ⟨a,q,h⟩:=RdC.argS (l:=fun a:Nat×Nat×Nat => [.int .u16 a.1,.int .u16 a.2.1,.int .u16 a.2.2]) (.inr ⟨_,_,Try.underlying58⟩) (r58 W) hval hd
 exact ⟨_,_,_,q,h⟩
end
theorem d24 (W:World):RdD Try.prog W 24 (fun a:Int×List Lnk=>.agg [I a.1,Az a.2]) (fun _ _ _=>True):=fun enc bs spare held fuel cs x hx=>r24 W enc bs spare held fuel cs x hx
theorem d25 (W:World):RdD Try.prog W 25 (fun l:List Snd=>AB l) (fun _ _ _=>True):=fun enc bs spare held fuel cs x hx=>r25 W enc bs spare held fuel cs x hx
theorem d27 (W:World):RdD Try.prog W 27 (fun a:Dem=>Cr a) (fun _ _ _=>True):=fun enc bs spare held fuel cs x hx=>r27 W enc bs spare held fuel cs x hx
theorem r43 (W:World):RdC Try.prog W 43 (fun l:List Int=>ints l) (fun _=>True):=RdC.any (RdC.slice Try.underlying43 (by kernel_rfl) (by decide) (r3 W))
theorem r30 (W:World):RdC Try.prog W 30 (fun y:List (List Int)=>DK y) (fun _=>True):=RdC.any (RdC.slice Try.underlying30 (by kernel_rfl) (by decide) (r43 W))
abbrev frC (a:(Int×List Lnk)×List Snd×Dem):List PV := [I a.1.1,Az a.1.2,AB a.2.1,I a.2.2.1,I a.2.2.2.1,I a.2.2.2.2.1,I a.2.2.2.2.2.1,I a.2.2.2.2.2.2]
theorem r29 (W:World):RdC Try.prog W 29 (fun a:(Int×List Lnk)×List Snd×Dem=>.agg (frC a)) (fun _=>True):=by
 intro H enc bs spare held fuel cs x h
 have hcell:Try.prog.cellsOf 29=8:=by kernel_rfl
 have k24:Try.prog.cellsOf 24=2:=by kernel_rfl
 have k25:Try.prog.cellsOf 25=1:=by kernel_rfl
 have k27:Try.prog.cellsOf 27=5:=by kernel_rfl
 obtain ⟨xs,n,_,hx,hl,hlen,hf⟩:=DataW.trod_struct Try.underlying29 h
 rw [hcell]at hl
 match xs,hlen with
 | [y0,y1,y2],_ =>
  have f0:DataW.trod enc Try.prog W bs spare held n 24 ((cs.drop 0).take (Try.prog.cellsOf 24))=some y0:=hf 0 _ rfl
  have f1:DataW.trod enc Try.prog W bs spare held n 25 ((cs.drop 2).take (Try.prog.cellsOf 25))=some y1:=hf 1 _ rfl
  have f2:DataW.trod enc Try.prog W bs spare held n 27 ((cs.drop 3).take (Try.prog.cellsOf 27))=some y2:=hf 2 _ rfl
  rw [k24]at f0
  rw [k25]at f1
  rw [k27]at f2
  obtain ⟨a,_,_,p0⟩:=RdD.part (f:=fun a:Int×List Lnk=>.agg [I a.1,Az a.2]) (q:=fun _ _ _=>True) (d24 W) (cs:=cs) (o:=0) (n:=2) (by omega) f0
  obtain ⟨b,_,_,p1⟩:=RdD.part (f:=fun l:List Snd=>AB l) (q:=fun _ _ _=>True) (d25 W) (cs:=cs) (o:=2) (n:=1) (by omega) f1
  obtain ⟨c,_,_,p2⟩:=RdD.part (f:=fun a:Dem=>Cr a) (q:=fun _ _ _=>True) (d27 W) (cs:=cs) (o:=3) (n:=5) (by omega) f2
  have p0:Part W cs 0 [I a.1,Az a.2]:=p0
  have p1:Part W cs 2 [AB b]:=p1
  have p2:Part W cs 3 [I c.1,I c.2.1,I c.2.2.1,I c.2.2.2.1,I c.2.2.2.2]:=p2
  have hp:Part W cs 0 (frC (a,b,c)):=p0.append (p1.append p2)
  refine ⟨(a,b,c),trivial,?_,hp.1,fun j e hj=>?_⟩
  ·show 8=_;exact hl.symm
  ·have := hp.2 j e hj
   rwa [Nat.zero_add]at this
section
variable {W:World} {b0 bs:Nat} {H:Type} {enc:TypeId×Value→H} {spare:Nat→Bool} {held:Bool} {v:Value} {d:DataW H} {ps:List MemPlace}
theorem Up (hval:Value.okWide Try.prog W .any b0 29 v) (hd:DataW.Trod enc Try.prog W bs spare held 29 v d ps):∃(hn:Int) (ls:List Lnk) (us:List Snd) (d:Dem),VR (base (full W) W) v (.agg [I hn,Az ls,AB us,I d.1,I d.2.1,I d.2.2.1,I d.2.2.2.1,I d.2.2.2.2]):=by
 obtain ⟨a,_,h⟩:=RdC.argS (l:=frC) (.inl ⟨_,Try.underlying29⟩) (r29 W) hval hd
 exact ⟨a.1.1,a.1.2,a.2.1,a.2.2,h⟩
theorem rQ (hval:Value.okWide Try.prog W .any b0 30 v) (hd:DataW.Trod enc Try.prog W bs spare held 30 v d ps):∃y,VR (base (full W) W) v (DK y):=by
 obtain ⟨a,_,h⟩:=RdC.arg (f:=fun y:List (List Int)=>DK y) Try.underlying30 (r30 W) (fun _=>rfl) hval hd
 exact ⟨a,h⟩
end
end Sim
namespace Sim
open Go Go.Proofs
theorem rR {X:Cfg} {N:Nat} {Q:IExit→IState→Prop} {ks:List Kf} {c:Code} (W:List Nat) (n:Nat) (I:Nat→(Nat→PV)→Store→Prop) {ρ0 ρ1:Nat→PV} {st st1:Store} (hg:Ghost ⟨ρ0,st⟩ ⟨ρ1,st1⟩) (h0:I 0 ρ1 st1)
  (h : ∀k ρ st',k≤n→I k ρ st'→run X N Q c (.lp (fun s''=>k<n∧∃s3,Ghost s'' s3∧Em W ρ1 s3.env∧I (k+1) s3.env s3.st)::ks) ⟨Hp W ρ1 ρ,st'⟩) (hm:A8 X:=by first | assumption | exact AV rfl):run X N Q (.loop c) ks ⟨ρ0,st⟩:=by
 refine L8 (fun m s=>∃k,k≤n∧m=n-k∧Em W ρ1 s.env∧I k s.env s.st) n hg ⟨0,by omega,by omega,fun _ _=>rfl,h0⟩ ?_
 rintro m ⟨env,st'⟩ ⟨k,hk,rfl,ha,hJ⟩
 dsimp only at ha hJ
 have := Hk hm (fun s'' ⟨h1,s3,h2,h3,h4⟩=>(⟨n-(k+1),by omega,s3,h2,k+1,by omega,rfl,h3,h4⟩:∃m',m'<n-k∧∃s3,Ghost s'' s3∧∃k,k≤n∧m'=n-k∧Em W ρ1 s3.env∧I k s3.env s3.st)) (h k env st' hk hJ)
 rwa [←E8 ha]at this
def upL (a:Int) (l:List Int):List Int:=l.map (· + a)
def upY (a:Int) (y:List (List Int)):List (List Int):=y.map (upL a)
section
variable {hn:Int} {ls:List Lnk} {us:List Snd} {d:Dem} {y:List (List Int)} {a:Int}
theorem Io:(upY a y).length=y.length:=by unfold upY;rw[List.length_map]
theorem Re {l:List Int}:(upL a l).length=l.length:=by unfold upL;rw[List.length_map]
theorem Agn {t:Nat} (ht:t<y.length):(upY a y).getD t []=upL a (y.getD t []):=by
 unfold upY
 rw [List.getD_eq_getElem?_getD,List.getElem?_map,List.getD_eq_getElem?_getD,List.getElem?_eq_getElem ht]
 rfl
theorem Ago {l:List Int} {x:Nat} (hx:x<l.length):(upL a l).getD x 0=l.getD x 0+a:=by
 unfold upL
 rw [List.getD_eq_getElem?_getD,List.getElem?_map,List.getD_eq_getElem?_getD,List.getElem?_eq_getElem hx]
 rfl
theorem Jn (hA:shA hn d y) {t x:Nat} (ht:t<y.length) (hx:x<hn.toNat):pt (upY a y) t x=pt y t x+a:=by
 unfold pt
 rw [Agn ht,Ago]
 have : y.getD t []∈y:=by
  rw [List.getD_eq_getElem?_getD,List.getElem?_eq_getElem ht]
  exact List.getElem_mem _
 have := hA.2 _ this
 omega
theorem rT (h:D4 hn ls us d y=0) (ha:0≤a) (hM:∀t,t<y.length→∀x,x<(y.getD t []).length→(y.getD t []).getD x 0+a≤536870912):D4 hn ls us d (upY a y)=0∧GC hn ls us d (upY a y)=GC hn ls us d y:=by
 obtain ⟨h1,hA,hB,hC⟩:=Wz h
 obtain ⟨hfk,_⟩:=pck_zero.1 h1
 obtain ⟨hf,hd,hD,hdu⟩:=CC hfk
 obtain ⟨⟨a0,a1⟩,⟨c0,c1⟩,hr⟩:=B9 hd
 obtain ⟨hfr,hto⟩:=T9 (us:=us) (d:=d) hf
 have hyl:y.length=An d+1:=by have:=hA.1;omega
 have hrow:∀t,t<y.length→(y.getD t []).length=hn.toNat:=fun t ht=>by
  have : y.getD t []∈y:=by
   rw [List.getD_eq_getElem?_getD,List.getElem?_eq_getElem ht]
   exact List.getElem_mem _
  have := hA.2 _ this
  omega
 have A2:shA hn d (upY a y):=by
  refine ⟨by rw[Io];exact hA.1,fun l hl=>?_⟩
  unfold upY at hl
  obtain ⟨r,hr,rfl⟩:=List.mem_map.1 hl
  rw [Re]
  exact hA.2 r hr
 have B2:shB hn (upY a y):=fun t ht x hx=>by
  rw [Io]at ht
  rw [Jn hA ht hx]
  have n1:=(hB t ht x hx).1
  have n2:=hM t ht x (by rw[hrow t ht];exact hx)
  have n3:pt y t x=(y.getD t []).getD x 0:=rfl
  omega
 have C2:shC hn (upY a y):=fun t ht x hx=>by
  rw [Io]at ht
  rw [Jn hA (by omega) hx,Jn hA (by omega) hx]
  have := hC t ht x hx
  omega
 have E2:D4 hn ls us d (upY a y)=0:=by
  unfold D4 shE
  rw [if_neg (fun g=>g h1),if_neg (fun g=>g A2),if_neg (fun g=>g B2),if_neg (fun g=>g C2)]
 refine ⟨E2,?_⟩
 rw [T8 E2,T8 h]
 unfold TN.bnd
 rw [Jn hA (by omega) (by omega),Jn hA (by omega) (by omega),show pt y (An d) d.2.1.toNat+a-(pt y 0 d.1.toNat+a)=pt y (An d) d.2.1.toNat-pt y 0 d.1.toNat by omega]
 congr 1
 refine Af fun t ht=>Af fun k hk=>?_
 have e:(Au hn ls us d).exc (pt (upY a y)) t k=(Au hn ls us d).exc (pt y) t k:=by
  unfold TN.exc
  rw [Jn hA (by omega) (hto k hk),Jn hA (by omega) (hfr k hk)]
  congr 1
  omega
 rw [e]
def Ed (ls:List Lnk) (k hr:Nat) (v:Int):List Lnk:=ls.set k ((ls.getD k dL).1,(ls.getD k dL).2.1,(fun i=>if i.1=hr then v else (ls.getD k dL).2.2.1 i),(ls.getD k dL).2.2.2)
theorem Uq {k hr:Nat} {v:Int}:(Ed ls k hr v).length=ls.length:=by unfold Ed;rw[List.length_set]
theorem LK {k hr j:Nat} {v:Int} (hk:k<ls.length):(Ed ls k hr v).getD j dL=if j=k then ((ls.getD k dL).1,(ls.getD k dL).2.1,(fun i=>if i.1=hr then v else (ls.getD k dL).2.2.1 i),(ls.getD k dL).2.2.2)else ls.getD j dL:=by
 unfold Ed
 rw [List.getD_eq_getElem?_getD,List.getElem?_set]
 by_cases e:j=k
 ·subst e;simp[hk]
 ·have e':¬k=j:=fun g=>e g.symm
  rw [if_neg e',if_neg e,List.getD_eq_getElem?_getD]
theorem Aay {k hr:Nat} {v:Int} (h:D4 hn ls us d y=0) (hk:k<ls.length) (hv:∀i:Fin 24,i.1=hr→v≤(ls.getD k dL).2.2.1 i) (hp:CH hn (Ed ls k hr v) us d=0):D4 hn (Ed ls k hr v) us d y=0∧GC hn ls us d y≤GC hn (Ed ls k hr v) us d y:=by
 obtain ⟨h1,hA,hB,hC⟩:=Wz h
 obtain ⟨hfk,_⟩:=pck_zero.1 h1
 obtain ⟨hf,hd,hD,hdu⟩:=CC hfk
 obtain ⟨⟨a0,a1⟩,⟨c0,c1⟩,hr'⟩:=B9 hd
 have E2:D4 hn (Ed ls k hr v) us d y=0:=by
  unfold D4 shE
  rw [if_neg (fun g=>g hp),if_neg (fun g=>g hA),if_neg (fun g=>g hB),if_neg (fun g=>g hC)]
 refine ⟨E2,?_⟩
 rw [T8 E2,T8 h]
 unfold TN.bnd
 have e1:∀j,(Au hn (Ed ls k hr v) us d).fr j=(Au hn ls us d).fr j:=fun j=>by
  show ((Ed ls k hr v).getD j dL).1.toNat=(ls.getD j dL).1.toNat
  rw [LK hk]
  split
  ·rename_i e;rw[e]
  ·rfl
 have e2:∀j,(Au hn (Ed ls k hr v) us d).to j=(Au hn ls us d).to j:=fun j=>by
  show ((Ed ls k hr v).getD j dL).2.1.toNat=(ls.getD j dL).2.1.toNat
  rw [LK hk]
  split
  ·rename_i e;rw[e]
  ·rfl
 have e3:∀j t,(Au hn (Ed ls k hr v) us d).pr j t=(Au hn ls us d).pr j t:=fun j t=>by
  show EC (Ed ls k hr v) (j:Nat) (d.2.2.2.1+(t:Int))=EC ls (j:Nat) (d.2.2.2.1+(t:Int))
  unfold EC
  rw [Int.toNat_natCast,LK hk]
  split
  ·rename_i e;rw[e];rfl
  ·rfl
 have e4:∀j t,(Au hn (Ed ls k hr v) us d).lf j t≤(Au hn ls us d).lf j t:=fun j t=>by
  show Cp (Ed ls k hr v) (j:Nat) (d.2.2.2.1+(t:Int))-_≤Cp ls (j:Nat) (d.2.2.2.1+(t:Int))-_
  have : Cp (Ed ls k hr v) (j:Nat) (d.2.2.2.1+(t:Int))≤Cp ls (j:Nat) (d.2.2.2.1+(t:Int)):=by
   unfold Cp
   rw [Int.toNat_natCast,LK hk]
   split
   ·rename_i e
    rw [e]
    unfold CL
    split
    ·dsimp only
     split
     ·rename_i e2;exact hv _ e2
     ·exact Int.le_refl _
    ·exact Int.le_refl _
   ·exact Int.le_refl _
  exact Int.sub_le_sub_right this _
 have e5:∀t j,(Au hn (Ed ls k hr v) us d).exc (pt y) t j=(Au hn ls us d).exc (pt y) t j:=fun t j=>by
  unfold TN.exc
  rw [e1,e2,e3]
 have e6:(Au hn (Ed ls k hr v) us d).L=(Au hn ls us d).L:=Uq
 rw [e6]
 refine Int.sub_le_sub_left (Ct fun t ht=>Ct fun j hj=>?_) _
 rw [e5]
 refine Int.mul_le_mul_of_nonneg_right ?_ (by unfold TN.exc;omega)
 have := e4 j t
 omega
end
end Sim
