/- What functions of this seat compute, by values: contracts (lemmas of the statement's proof, under the conditions that each names). -/
import Derived.Test.YtppljhpecoeakaaQYB
import Derived.Test.YtppljhpecoeakaaQXN
import Derived.Test.YtppljhpecoeakaaQXS
import Derived.Test.YtppljhpecoeakaaQA
import Derived.Test.YtppljhpecoeakaaSimAA
import Derived.JoinedOf
import Derived.OpenShut
set_option maxRecDepth 100000
set_option maxHeartbeats 4000000
set_option linter.unusedVariables false
set_option linter.unusedSimpArgs false
namespace Sim
open Go Go.Proofs
attribute [local congr] Aq Ar Al AG At As Az
noncomputable def UF:Int→List PV:=fun b => [I b]
noncomputable def Aco:Int→PV:=fun b=>exV b
def Acp:Int→Prop:=fun b=>b=120∨b=231∨b=4194305
noncomputable def e_exa:Nat×Ent:=(30,.v (Ah UF Aco Acp))
theorem Ajp:∀i j,UF i=UF j→i=j:=by
 rintro b₁ b₂ h
 simp only[UF,List.cons.injEq,and_true,PV.int.injEq,true_and]at h
 first | exact h | omega | (simp[Prod.ext_iff,h];done)
theorem sX (b:Int):Ah UF Aco Acp [I b]=@ite (Option (PV)) (b=120∨b=231∨b=4194305) (Classical.propDecidable _) (some (exV b)) none:=BM Ajp b
def Acq:Prop:=∀(b:Int) (h:b=120∨b=231∨b=4194305) ,VC Try.prog 30 [I b] (exV b)
def Acr:Prop:=AL Try.prog e_exa.1 e_exa.2
theorem Ajq (c:Acq):Acr:=Ap fun b h=>c b h
theorem Ajr:Acq:=by
 rintro b (rfl | rfl | rfl)
 ·exact KL AP Ajl
 ·exact KL AP Ajm
 ·exact KL AP Ajn
theorem Ajs:Acr:=Ajq Ajr
noncomputable def NL:List Int→List PV:=fun l => [ints l]
noncomputable def sY:List Int→PV:=fun l=>Dl [l,l,l,l]
def sZ:List Int→Prop:=fun l=>True
noncomputable def e_flat:Nat×Ent:=(31,.v (Ah NL sY sZ))
theorem Ahf:∀i j,NL i=NL j→i=j:=by
 rintro l₁ l₂ h
 simp only[NL,List.cons.injEq,and_true,PV.lits.injEq,true_and,DZ]at h
 first | exact h | omega | (simp[Prod.ext_iff,h];done)
theorem W5 (l:List Int):Ah NL sY sZ [ints l]=some (Dl [l,l,l,l]):=AC Ahf (i:=l) trivial
def tA:Prop:=∀(l:List Int) ,VC Try.prog 31 [ints l] (Dl [l,l,l,l])
def tB:Prop:=AL Try.prog e_flat.1 e_flat.2
theorem Ahg (c:tA):tB:=Ap fun l h=>c l
theorem Ahh:tA:=by
 intro l
 refine A3 AP (l := []) (An) [] []  Try.func31 rfl (by decide +kernel) (N:=8) rfl (by simp) rfl (by kernel_rfl) fun hs=>?_
 simp only[AJ,PV.small,List.length_map,and_true]at hs
 simp +contextual (maxSteps:=4000000) only[↓bdD,bdP,Nat.reduceLT,Nat.reduceBEq,Ai,Nat.reduceAdd,Nat.reduceLeDiff,st0,↓reduceIte,Nat.mul_one,Try.f31,Bk,A4]
theorem Ahi:tB:=Ahg Ahh
def UG (y:List (List Int)):Bool:=decide (∀i,i<y.length→(y.getD i []).length≤20)&&decide (y.length≤40)
noncomputable def H3:List (List Int)→List PV:=fun y => [Dl y]
noncomputable def UH:List (List Int)→PV:=fun y=>B (UG y)
def UI:List (List Int)→Prop:=fun y=>True
noncomputable def e_little:Nat×Ent:=(11,.v (Ah H3 UH UI))
theorem tC:∀i j,H3 i=H3 j→i=j:=by
 rintro y₁ y₂ h
 simp only[H3,List.cons.injEq,and_true,PV.lits.injEq,true_and,HT]at h
 first | exact h | omega | (simp[Prod.ext_iff,h];done)
theorem D9 (y:List (List Int)):Ah H3 UH UI [Dl y]=some (B (UG y)):=AC tC (i:=y) trivial
def UJ:Prop:=∀(y:List (List Int)) ,VC Try.prog 11 [Dl y] (B (UG y))
def UK:Prop:=AL Try.prog e_little.1 e_little.2
theorem tD (c:UJ):UK:=Ap fun y h=>c y
theorem tE:UJ:=by
 intro y
 refine A3 AP (l := []) (An) [] []  Try.func11 rfl (by decide +kernel) (N:=18) rfl (by simp) rfl (by kernel_rfl) fun hs=>?_
 simp only[AJ,PV.small,List.length_map,and_true]at hs
 have hl:=hs.1
 simp +contextual (maxSteps:=4000000) only[↓bdD,bdP,Nat.reduceLT,Nat.reduceBEq,Nat.reduceAdd,st0,↓reduceIte,Try.f11,Bk]
 refine Ay [2,4,7,8,9,10,11,12,13,14] y.length (fun k ρ st'=>ρ 7=I k∧∀i,i<k→(y.getD i []).length≤20) (.refl _) ?_ ?_
 ·simp +contextual (maxSteps:=4000000) only[↓bdD,bdP]
  exact fun i hi=>absurd hi (by omega)
 rintro k ρ st' hk ⟨h7,hI⟩
 by_cases hlt:k<y.length
 ·have hwk:=Aj (n:=(k:Int)+1) (by omega) (by omega)
  have hyk:=CP hlt
  by_cases c:(y.getD k []).length≤20
  ·have ci:¬(20:Int)<((y.getD k []).length:Int):=by omega
   generalize hr:y.getD k []=r at *
   simp +contextual (maxSteps:=4000000) only[↓bdD,bdP,Nat.reduceLT,Nat.reduceBEq,Nat.reduceAdd,↓reduceIte,Bk,A4,h7,hlt,hwk,hyk,ci]
   refine ⟨by omega,fun i hi=>?_⟩
   by_cases e:i=k
   ·rw [e,hr];exact c
   ·exact hI i (by omega)
  ·have ci:(20:Int)<((y.getD k []).length:Int):=by omega
   have e:UG y=false:=by
    unfold UG
    rw [decide_eq_false (fun g=>c (g k hlt))];rfl
   rw [e]
   generalize y.getD k []=r at *
   simp +contextual (maxSteps:=4000000) only[↓bdD,bdP,Nat.reduceLT,Nat.reduceBEq,Ai,Nat.reduceAdd,↓reduceIte,Bk,A4,h7,hlt,hyk,ci]
 ·have e:k=y.length:=by omega
  subst e
  have e2:UG y=decide (y.length≤40):=by
   unfold UG
   rw [decide_eq_true (p:=∀i,i<y.length→(y.getD i []).length≤20) hI];rfl
  have e3:decide ((y.length:Int)≤40)=decide (y.length≤40):=decide_eq_decide.2 (by omega)
  rw [e2]
  simp +contextual (maxSteps:=4000000) only[↓bdD,bdP,Nat.reduceLT,Nat.reduceBEq,Ai,Nat.reduceAdd,↓reduceIte,Bk,h7,hlt,e3]
theorem tF:UK:=tD tE
end Sim
namespace Sim
open Go Go.Proofs
attribute [local congr] Aq Ar Al AG At As Az
theorem Ahj:Kp 3 exL [] (exD 231)=0:=by
 unfold Kp
 rw [if_neg (fun g=>g RE),if_neg (by decide)]
noncomputable def Kr:Unit→List PV:=fun _ => []
noncomputable def UL:Unit→PV:=fun _=>B true
def UM:Unit→Prop:=fun _=>True
noncomputable def e_sanity:Nat×Ent:=(12,.v (Ah Kr UL UM))
theorem tG:∀i j,Kr i=Kr j→i=j:=by
 rintro _ _ h
 rfl
theorem Dw  : Ah Kr UL UM []=some (B true):=AC tG (i:=()) trivial
def UN:Prop:=VC Try.prog 12 [] (B true)
def UO:Prop:=AL Try.prog e_sanity.1 e_sanity.2
theorem tH (c:UN):UO:=Ap fun _ h=>c
theorem tI:UN:=by
 refine A3 AP (l := [e_exa,e_flat,e_pbound,e_pbar,e_pprove,e_block,e_pcheck,e_paccept,e_pstops]) ((Ad Ajs (Ad Ahi (Ad Nt (Ad rK (Ad sW (Ad Abn (Ad HR (Ad PJ (Ad rO An)))))))))) [] []  Try.func12 rfl (by decide +kernel) (N:=208) rfl (by simp) rfl (by kernel_rfl) fun hs=>?_
 simp only[AJ]at hs
 have a1:=D7 (hn:=3) (ls:=exL) (us := []) (d:=exD 120) (y:=exY 0 2 4)
 have a2:=D7 (hn:=3) (ls:=exL) (us := []) (d:=exD 120) (y:=exY 4 2 0)
 have a3:=D7 (hn:=3) (ls:=exL) (us := []) (d:=exD 120) (y := [[0,2,6],[0,2,6],[0,2,5],[0,2,6]])
 have a4:=Rv (hn:=3) (ls:=exL) (us := []) (d:=exD 120) (ts := [5,9,9])
 have a5:=Rv (hn:=3) (ls:=exL) (us := []) (d:=exD 120) (ts := [5,6,9])
 have a6:=Rv (hn:=3) (ls:=exL) (us := []) (d:=exD 120) (ts := [5,6,8])
 have a7:=UC (hn:=3) (ls:=exL) (us := []) (d:=exD 120)
 have a8:=UC (hn:=3) (ls:=exL) (us := []) (d:=exD 231)
 have a9:=Abk (hn:=3) (ls:=exL) (us := []) (d:=exD 231)
 have b1:=BU (hn:=3) (ls:=exL) (us := []) (d:=exD 120)
 have b2:=BU (hn:=3) (ls:=exL) (us := []) (d:=exD 4194305)
 have b3:=EZ (hn:=3) (ls:=exL) (us := []) (d:=exD 120) (l:=exB) (y:=exY 0 2 4)
 have b4:=EZ (hn:=3) (ls:=exL) (us := []) (d:=exD 120) (l:=exA) (y:=exY 0 2 4)
 have b5:=EZ (hn:=3) (ls:=exL) (us := []) (d:=exD 120) (l:=exB) (y:=exY 0 0 0)
 have b6:=EZ (hn:=3) (ls:=exL) (us := []) (d:=exD 120) (l:=CV 3 exL [] (exD 120)) (y:=Ej 3 exL [] (exD 120))
 have b7:=NB (hn:=3) (ls:=exL) (us := []) (d:=exD 120) (ts := [5,6,9])
 have b8:=NB (hn:=3) (ls:=exL) (us := []) (d:=exD 231) (ts := [5,6,9])
 have b9:=NB (hn:=3) (ls:=exL) (us := []) (d:=exD 231) (ts:=Js 3 exL [] (exD 231))
 have e1:HY 3 exL [] (exD 120)=0:=by unfold HY;rw[if_neg (fun g=>g RD),sR]
 have e2:HY 3 exL [] (exD 231)=21:=by unfold HY;rw[if_neg (fun g=>g RE),Ahc]
 rw [v_bnd1.1,v_bnd1.2]at a1
 rw [v_bnd2.1,v_bnd2.2]at a2
 rw [Ag7]at a3
 rw [v_bar1.1,v_bar1.2]at a4
 rw [v_bar2.1,v_bar2.2]at a5
 rw [Ag8]at a6
 rw [if_pos (fun _=>by decide),e1,if_pos rfl,if_pos rfl]at a7
 rw [if_pos (fun _=>by decide),e2,if_neg (by decide),if_neg (by decide)]at a8
 rw [Ahj,if_pos rfl]at a9
 rw [RD]at b1
 rw [Ag6]at b2
 rw [Ag9]at b3
 rw [Aha]at b4
 rw [Ahb]at b5
 rw [decide_eq_true Ahd]at b6
 rw [v_bar2.1,v_bar2.2]at b7
 rw [v_bar4.1,v_bar4.2]at b8
 rw [decide_eq_true (show FM 3 exL [] (exD 231) (Js 3 exL [] (exD 231))=0∧Gh 3 exL [] (exD 231) (Js 3 exL [] (exD 231))<(exD 231).2.2.1 from Ajo)]at b9
 rw [show decide ((0:Int)=0∧(230:Int)<(exD 120).2.2.1)=false from rfl]at b7
 rw [show decide ((0:Int)=0∧(230:Int)<(exD 231).2.2.1)=true from rfl]at b8
 generalize CV 3 exL [] (exD 120)=cl at *
 generalize Ej 3 exL [] (exD 120)=pl at *
 generalize Js 3 exL [] (exD 231)=bl at *
 generalize IB 3 exL [] (exD 120) [[0,2,6],[0,2,6],[0,2,5],[0,2,6]]=x1 at *
 generalize Gh 3 exL [] (exD 120) [5,6,8]=x2 at *
 have f1:=W5 (l := [0,2,4])
 have f2:=W5 (l := [4,2,0])
 have f3:=W5 (l := [0,0,0])
 have f4:=sX (b:=120)
 have f5:=sX (b:=231)
 have f6:=sX (b:=4194305)
 rw [if_pos (.inl rfl)]at f4
 rw [if_pos (.inr (.inl rfl))]at f5
 rw [if_pos (.inr (.inr rfl))]at f6
 dsimp only[Ax,Av,Dl,ints,exV,exD,exY,exA,exB,Hc]at a1 a2 a3 a4 a5 a6 a7 a8 a9 b1 b2 b3 b4 b5 b6 b7 b8 b9 f1 f2 f3 f4 f5 f6
 simp only[ints,List.map_cons,List.map_nil]at a1 a2 a3 a4 a5 a6 a7 a8 a9 b1 b2 b3 b4 b5 b6 b7 b8 b9 f1 f2 f3
 simp +contextual (maxSteps:=4000000) only[↓bdD,bdP,Nat.reduceLT,Nat.reduceBEq,Ai,Nat.reduceEqDiff,Nat.reduceAdd,Nat.reduceMul,Nat.reduceLeDiff,st0,Store.new,Store.set,↓reduceIte,e_exa,e_flat,e_pbound,e_pbar,e_pprove,e_block,e_pcheck,e_paccept,e_pstops,Ac,Ab,Nat.mul_one,BL,Try.f12,ty3,AB,Bd,Bk,A4,Bv,f1,f2,f3,f4,f5,f6,a1,a2,a3,a4,a5,a6,a7,a8,a9,b1,b2,b3,b4,b5,b6,b7,b8,b9]
theorem tJ:UO:=tH tI
end Sim
namespace Sim
open Go Go.ChangeShapes Go.WideShapes Go.ChangeAt Go.RowKit Go.Proofs
theorem RdC.conv {P:Program} {w:World} {t:TypeId} {α β:Type} {f:α→PV} {q:α→Prop} (h:RdC P w t f q) (g:β→PV) (q':β→Prop) (hc:∀a,q a→∃b,q' b∧g b=f a):RdC P w t g q':=fun enc bs spare held fuel cs x hx=>by
 obtain ⟨a,h1,h2⟩:=h enc bs spare held fuel cs x hx
 obtain ⟨b,h3,h4⟩:=hc a h1
 exact ⟨b,h3,by rw[h4];exact h2⟩
theorem Ajt {P:Program} {w:World} {k:IntKind} {cs:List Value} {n:Nat} (hl:cs.length=n) (h:∀i,i<n→∃(H:Type) (enc:TypeId×Value→H) (bs:Nat) (spare:Nat→Bool) (held:Bool) (m:Nat) (e:TypeId) (x:DataW H×List MemPlace),P.underlying e=some (.int k)∧DataW.trod enc P w bs spare held m e ((cs.drop i).take 1)=some x) :
  ∃ l:List Int,l.length=n∧(∀a∈l,(Lit.int k a).wf=true)∧(∀c∈l.map (PV.int k),c.isCell=true)∧∀(j:Nat) (c:PV),(l.map (PV.int k))[j]?=some c→VR (base (full w) w) (cs.getD j undef) c:=by
 obtain ⟨l,h1,h2⟩:=FC (Q:=fun i (a:Int)=>(Lit.int k a).wf=true∧VR (base (full w) w) (cs.getD i undef) (.int k a)) n fun i hi=>by
  obtain ⟨H,enc,bs,spare,held,m,e,x,he,hx⟩:=h i hi
  obtain ⟨a,h1,_,_,h4⟩:=RdC.int he enc bs spare held m _ x hx
  refine ⟨a,h1,?_⟩
  have := h4 0 _ rfl
  rwa [List.getD_eq_getElem?_getD,List.getElem?_take_of_lt (by omega),List.getElem?_drop,Nat.add_zero,←List.getD_eq_getElem?_getD]at this
 refine ⟨l,h1,fun a ha=>?_,fun c hc=>?_,fun j c hj=>?_⟩
 ·obtain ⟨i,hi,rfl⟩:=List.getElem_of_mem ha
  exact (h2 i hi).1
 ·obtain ⟨a,_,rfl⟩:=List.mem_map.1 hc
  rfl
 ·rw [List.getElem?_map,Option.map_eq_some_iff]at hj
  obtain ⟨a,ha,rfl⟩:=hj
  obtain ⟨hi,rfl⟩:=List.getElem?_eq_some_iff.1 ha
  exact (h2 j hi).2
theorem RdC.arrayI {P:Program} {w:World} {t e:TypeId} {n:Nat} {k:IntKind} (ht:P.underlying t=some (.array n e)) (hn:P.cellsOf t=n) (hc:P.cellsOf e=1) (he:P.underlying e=some (.int k)) :
  RdC P w t (fun l:List Int=>.agg (l.map (PV.int k))) (fun l=>l.length=n∧∀a∈l,(Lit.int k a).wf=true):=by
 intro H enc bs spare held fuel cs x h
 obtain ⟨xs,m,_,_,hl,hlen,hf⟩:=DataW.trod_array ht h
 rw [hn]at hl
 obtain ⟨l,h1,h2,h3,h4⟩:=Ajt (P:=P) (w:=w) (k:=k) hl fun i hi=>by
  have h5:=hf i hi
  rw [hc,Nat.mul_one,List.getElem?_eq_getElem (by omega)]at h5
  exact ⟨H,enc,bs,spare,held,m,e,_,he,h5⟩
 exact ⟨l,⟨h1,h2⟩,by simp[PV.cells,h1,hl],h3,h4⟩
theorem RdC.structI {P:Program} {w:World} {t:TypeId} {fs:Array Field} {k:IntKind} (ht:P.underlying t=some (.struct fs)) (hn:P.cellsOf t=fs.size) (hf:∀(i:Nat) (f:Field),fs[i]?=some f→f.offset=i∧P.cellsOf f.type=1∧P.underlying f.type=some (.int k)) :
  RdC P w t (fun l:List Int=>.agg (l.map (PV.int k))) (fun l=>l.length=fs.size∧∀a∈l,(Lit.int k a).wf=true):=by
 intro H enc bs spare held fuel cs x h
 obtain ⟨xs,m,_,_,hl,hlen,hg⟩:=DataW.trod_struct ht h
 rw [hn]at hl
 obtain ⟨l,h1,h2,h3,h4⟩:=Ajt (P:=P) (w:=w) (k:=k) hl fun i hi=>by
  obtain ⟨f1,f2,f3⟩:=hf i fs[i] (by simp[hi])
  have h5:=hg i fs[i] (by simp[hi])
  rw [f1,f2,List.getElem?_eq_getElem (by omega)]at h5
  exact ⟨H,enc,bs,spare,held,m,_,_,f3,h5⟩
 exact ⟨l,⟨h1,h2⟩,by simp[PV.cells,h1,hl],h3,h4⟩
theorem RdC.argS {P:Program} {w:World} {t:TypeId} (ht:(∃fs,P.underlying t=some (.struct fs))∨∃n e,P.underlying t=some (.array n e)) {α:Type} {l:α→List PV} {q:α→Prop} (h:RdC P w t (fun a=>.agg (l a)) q) {H:Type} {enc:TypeId×Value→H} {bs b0:Nat} {spare:Nat→Bool} {held:Bool} {v:Value} {d:DataW H} {ps:List MemPlace}
  (hval : Value.okWide P w .any b0 t v) (hd:DataW.Trod enc P w bs spare held t v d ps):∃a,q a∧VR (base (full w) w) v (.agg (l a)):=by
 unfold Value.okWide at hval
 have key:∃cs,v=.agg cs:=by
  rcases ht with ⟨fs,ht⟩ | ⟨n,e,ht⟩
  ·rw [ht]at hval;obtain⟨cs,rfl,_⟩:=hval;exact⟨cs,rfl⟩
  ·rw [ht]at hval;obtain⟨cs,rfl,_⟩:=hval;exact⟨cs,rfl⟩
 obtain ⟨cs,rfl⟩:=key
 obtain ⟨fuel,hd⟩:=hd
 obtain ⟨a,qa,h1,h2,h3⟩:=h enc bs spare held fuel _ _ hd
 refine ⟨a,qa,.agg cs _ ?_ h2 fun i p hp=>?_⟩
 ·have h4:(l a).length=cs.toList.length:=h1
  rw [Array.length_toList]at h4;exact h4.symm
 ·have := h3 i p hp
  have e:(Value.agg cs).cells.toList.getD i undef=cs.getD i undef:=by
   simp [Value.cells,Array.getD_eq_getD_getElem?,List.getD_eq_getElem?_getD]
  rwa [e]at this
theorem RdC.any {P:Program} {w:World} {t:TypeId} {α:Type} {f:α→PV} {q:α→Prop} (h:RdC P w t f q):RdC P w t f (fun _=>True):=fun enc bs spare held fuel cs x hx=>by
 obtain ⟨a,_,h1⟩:=h enc bs spare held fuel cs x hx
 exact ⟨a,trivial,h1⟩
theorem Aju:ownKnob Try.prog.godebug=Option.none:=by kernel_rfl
theorem Ahk:Kids Try.prog (· < Try.prog.types.size):=kids_rows (by kernel_rfl) (by kernel_rfl)
theorem Abp:((List.range Try.prog.types.size).all fun t=>match Try.prog.underlying t with | some (.slice e)=>decide (0<Try.prog.cellsOf e) | _=>true)=true:=by kernel_rfl
theorem Ahl:∀t e,t<Try.prog.types.size→Try.prog.underlying t=some (.slice e)→0<Try.prog.cellsOf e:=fun t e ht hu=>by
 have := List.all_eq_true.1 Abp t (List.mem_range.2 ht)
 rw [hu]at this
 simpa using this
theorem r3 (W:World):RdC Try.prog W 3 (fun n:Int=>I n) (fun _=>True):=RdC.any (RdC.int Try.underlying3)
theorem r69 (W:World):RdC Try.prog W 69 (fun a:Snd=>Hc a) (fun _=>True):=by
 have h:=@RdC.structI Try.prog W 69 _ .i64 Try.underlying69 (by kernel_rfl) (fun i f h=>by
  match i,h with
  | 0,h=>simp at h;subst h;exact⟨rfl,by kernel_rfl,Try.underlying3⟩
  | 1,h=>simp at h;subst h;exact⟨rfl,by kernel_rfl,Try.underlying3⟩
  | 2,h=>simp at h;subst h;exact⟨rfl,by kernel_rfl,Try.underlying3⟩
  | i+3,h=>simp at h)
 refine @RdC.conv Try.prog W 69 (List Int) Snd _ _ h (fun a:Snd=>Hc a) (fun _=>True) ?_
 rintro l ⟨hl,_⟩
 match l,hl with
 | [a,b,c],_=>exact⟨(a,b,c),trivial,rfl⟩
theorem r27 (W:World):RdC Try.prog W 27 (fun a:Dem=>B7 a) (fun _=>True):=by
 have h:=@RdC.structI Try.prog W 27 _ .i64 Try.underlying27 (by kernel_rfl) (fun i f h=>by
  match i,h with
  | 0,h=>simp at h;subst h;exact⟨rfl,by kernel_rfl,Try.underlying3⟩
  | 1,h=>simp at h;subst h;exact⟨rfl,by kernel_rfl,Try.underlying3⟩
  | 2,h=>simp at h;subst h;exact⟨rfl,by kernel_rfl,Try.underlying3⟩
  | 3,h=>simp at h;subst h;exact⟨rfl,by kernel_rfl,Try.underlying3⟩
  | 4,h=>simp at h;subst h;exact⟨rfl,by kernel_rfl,Try.underlying3⟩
  | i+5,h=>simp at h)
 refine @RdC.conv Try.prog W 27 (List Int) Dem _ _ h (fun a:Dem=>B7 a) (fun _=>True) ?_
 rintro l ⟨hl,_⟩
 match l,hl with
 | [a,b,c,d,e],_=>exact⟨(a,b,c,d,e),trivial,rfl⟩
theorem r60 (W:World):RdC Try.prog W 60 (fun l:List Int=>.agg (l.map (PV.int .i64))) (fun l=>l.length=24):=by
 have h:=@RdC.arrayI Try.prog W 60 _ _ .i64 Try.underlying60 (by kernel_rfl) (by kernel_rfl) Try.underlying3
 exact @RdC.conv Try.prog W 60 (List Int) (List Int) _ _ h _ _ fun l h=>⟨l,h.1,rfl⟩
theorem d3 (W:World):RdD Try.prog W 3 (fun n:Int=>I n) (fun _ _ _=>True):=fun enc bs spare held fuel cs x hx=>r3 W enc bs spare held fuel cs x hx
theorem d60 (W:World):RdD Try.prog W 60 (fun l:List Int=>.agg (l.map (PV.int .i64))) (fun l _ _=>l.length=24):=fun enc bs spare held fuel cs x hx=>r60 W enc bs spare held fuel cs x hx
theorem PK {l:List Int} (h:l.length=24):List.ofFn (fun i:Fin 24=>l.getD i.1 0)=l:=by
 apply List.ext_getElem
 ·simp [h]
 ·intro i h1 h2
  rw [List.getElem_ofFn,List.getD_eq_getElem?_getD,List.getElem?_eq_getElem h2];rfl
theorem r62 (W:World):RdC Try.prog W 62 (fun a:Lnk=>WG a) (fun _=>True):=by
 intro H enc bs spare held fuel cs x h
 have hcell:Try.prog.cellsOf 62=50:=by kernel_rfl
 have k3:Try.prog.cellsOf 3=1:=by kernel_rfl
 have k60:Try.prog.cellsOf 60=24:=by kernel_rfl
 obtain ⟨xs,n,_,hx,hl,hlen,hf⟩:=DataW.trod_struct Try.underlying62 h
 rw [hcell]at hl
 match xs,hlen with
 | [y0,y1,y2,y3],_ =>
  have f0:DataW.trod enc Try.prog W bs spare held n 3 ((cs.drop 0).take (Try.prog.cellsOf 3))=some y0:=hf 0 _ rfl
  have f1:DataW.trod enc Try.prog W bs spare held n 3 ((cs.drop 1).take (Try.prog.cellsOf 3))=some y1:=hf 1 _ rfl
  have f2:DataW.trod enc Try.prog W bs spare held n 60 ((cs.drop 2).take (Try.prog.cellsOf 60))=some y2:=hf 2 _ rfl
  have f3:DataW.trod enc Try.prog W bs spare held n 60 ((cs.drop 26).take (Try.prog.cellsOf 60))=some y3:=hf 3 _ rfl
  rw [k3]at f0 f1
  rw [k60]at f2 f3
  obtain ⟨a,_,_,p0⟩:=RdD.part (f:=fun n:Int=>I n) (q:=fun _ _ _=>True) (d3 W) (cs:=cs) (o:=0) (n:=1) (by omega) f0
  obtain ⟨b,_,_,p1⟩:=RdD.part (f:=fun n:Int=>I n) (q:=fun _ _ _=>True) (d3 W) (cs:=cs) (o:=1) (n:=1) (by omega) f1
  obtain ⟨l2,g2,_,p2⟩:=RdD.part (f:=fun l:List Int=>.agg (l.map (PV.int .i64))) (q:=fun l _ _=>l.length=24) (d60 W) (cs:=cs) (o:=2) (n:=24) (by omega) f2
  obtain ⟨l3,g3,_,p3⟩:=RdD.part (f:=fun l:List Int=>.agg (l.map (PV.int .i64))) (q:=fun l _ _=>l.length=24) (d60 W) (cs:=cs) (o:=26) (n:=24) (by omega) f3
  have hc:lkC (a,b,fun i=>l2.getD i.1 0,fun i=>l3.getD i.1 0) = [I a]++([I b]++(l2.map (PV.int .i64)++l3.map (PV.int .i64))):=by
   simp only[lkC,PK g2,PK g3];rfl
  have p0:Part W cs 0 [I a]:=p0
  have p1:Part W cs 1 [I b]:=p1
  have p2:Part W cs 2 (l2.map (PV.int .i64)):=p2
  have p3:Part W cs 26 (l3.map (PV.int .i64)):=p3
  have e26:2+(l2.map (PV.int .i64)).length=26:=by simp[g2]
  have hp:Part W cs 0 (lkC (a,b,fun i=>l2.getD i.1 0,fun i=>l3.getD i.1 0)):=by
   rw [hc]
   exact p0.append (p1.append (p2.append (by
    rw [e26]
    exact p3)))
  refine ⟨(a,b,fun i=>l2.getD i.1 0,fun i=>l3.getD i.1 0),trivial,?_,hp.1,fun j c hj=>?_⟩
  ·simp only[PV.cells,Bz];exact hl.symm
  ·have := hp.2 j c hj
   rwa [Nat.zero_add]at this
theorem r25 (W:World):RdC Try.prog W 25 (fun l:List Snd=>Av l) (fun _=>True):=RdC.any (RdC.slice Try.underlying25 (by kernel_rfl) (by decide) (r69 W))
theorem r22 (W:World):RdC Try.prog W 22 (fun l:List Lnk=>Ax l) (fun _=>True):=RdC.any (RdC.slice Try.underlying22 (by kernel_rfl) (by decide) (r62 W))
theorem r24 (W:World):RdC Try.prog W 24 (fun a:Int×List Lnk=>.agg [I a.1,Ax a.2]) (fun _=>True) :=
 RdC.any (RdC.struct2 Try.underlying24 (by kernel_rfl) ⟨rfl,rfl⟩ ⟨by kernel_rfl,by kernel_rfl⟩ (r3 W) (r22 W) (fun _=>rfl) (fun _=>rfl))
section
variable {W:World} {b0 bs:Nat} {H:Type} {enc:TypeId×Value→H} {spare:Nat→Bool} {held:Bool} {v:Value} {d:DataW H} {ps:List MemPlace}
end
section
variable {W:World} {b0 bs:Nat} {H:Type} {enc:TypeId×Value→H} {spare:Nat→Bool} {held:Bool} {v:Value} {d:DataW H} {ps:List MemPlace}
end
theorem d24 (W:World):RdD Try.prog W 24 (fun a:Int×List Lnk=>.agg [I a.1,Ax a.2]) (fun _ _ _=>True):=fun enc bs spare held fuel cs x hx=>r24 W enc bs spare held fuel cs x hx
theorem d25 (W:World):RdD Try.prog W 25 (fun l:List Snd=>Av l) (fun _ _ _=>True):=fun enc bs spare held fuel cs x hx=>r25 W enc bs spare held fuel cs x hx
theorem d27 (W:World):RdD Try.prog W 27 (fun a:Dem=>B7 a) (fun _ _ _=>True):=fun enc bs spare held fuel cs x hx=>r27 W enc bs spare held fuel cs x hx
theorem r43 (W:World):RdC Try.prog W 43 (fun l:List Int=>ints l) (fun _=>True):=RdC.any (RdC.slice Try.underlying43 (by kernel_rfl) (by decide) (r3 W))
theorem r30 (W:World):RdC Try.prog W 30 (fun y:List (List Int)=>Dl y) (fun _=>True):=RdC.any (RdC.slice Try.underlying30 (by kernel_rfl) (by decide) (r43 W))
theorem d30 (W:World):RdD Try.prog W 30 (fun y:List (List Int)=>Dl y) (fun _ _ _=>True):=fun enc bs spare held fuel cs x hx=>r30 W enc bs spare held fuel cs x hx
abbrev frC (a:(Int×List Lnk)×List Snd×Dem):List PV := [I a.1.1,Ax a.1.2,Av a.2.1,I a.2.2.1,I a.2.2.2.1,I a.2.2.2.2.1,I a.2.2.2.2.2.1,I a.2.2.2.2.2.2]
theorem r29 (W:World):RdC Try.prog W 29 (fun a:(Int×List Lnk)×List Snd×Dem=>.agg (frC a)) (fun _=>True):=by
 intro H enc bs spare held fuel cs x h
 have hcell:Try.prog.cellsOf 29=8:=by kernel_rfl
 have k24:Try.prog.cellsOf 24=2:=by kernel_rfl
 have k25:Try.prog.cellsOf 25=1:=by kernel_rfl
 have k27:Try.prog.cellsOf 27=5:=by kernel_rfl
 obtain ⟨xs,n,_,hx,hl,hlen,hf⟩:=DataW.trod_struct Try.underlying29 h
 rw [hcell]at hl
 match xs,hlen with
 | [y0,y1,y2],_ =>
  have f0:DataW.trod enc Try.prog W bs spare held n 24 ((cs.drop 0).take (Try.prog.cellsOf 24))=some y0:=hf 0 _ rfl
  have f1:DataW.trod enc Try.prog W bs spare held n 25 ((cs.drop 2).take (Try.prog.cellsOf 25))=some y1:=hf 1 _ rfl
  have f2:DataW.trod enc Try.prog W bs spare held n 27 ((cs.drop 3).take (Try.prog.cellsOf 27))=some y2:=hf 2 _ rfl
  rw [k24]at f0
  rw [k25]at f1
  rw [k27]at f2
  obtain ⟨a,_,_,p0⟩:=RdD.part (f:=fun a:Int×List Lnk=>.agg [I a.1,Ax a.2]) (q:=fun _ _ _=>True) (d24 W) (cs:=cs) (o:=0) (n:=2) (by omega) f0
  obtain ⟨b,_,_,p1⟩:=RdD.part (f:=fun l:List Snd=>Av l) (q:=fun _ _ _=>True) (d25 W) (cs:=cs) (o:=2) (n:=1) (by omega) f1
  obtain ⟨c,_,_,p2⟩:=RdD.part (f:=fun a:Dem=>B7 a) (q:=fun _ _ _=>True) (d27 W) (cs:=cs) (o:=3) (n:=5) (by omega) f2
  have p0:Part W cs 0 [I a.1,Ax a.2]:=p0
  have p1:Part W cs 2 [Av b]:=p1
  have p2:Part W cs 3 [I c.1,I c.2.1,I c.2.2.1,I c.2.2.2.1,I c.2.2.2.2]:=p2
  have hp:Part W cs 0 (frC (a,b,c)):=p0.append (p1.append p2)
  refine ⟨(a,b,c),trivial,?_,hp.1,fun j e hj=>?_⟩
  ·show 8=_;exact hl.symm
  ·have := hp.2 j e hj
   rwa [Nat.zero_add]at this
abbrev twC (a:List Snd×List Snd×List (List Int)):List PV := [Av a.1,Av a.2.1,Dl a.2.2]
theorem r54 (W:World):RdC Try.prog W 54 (fun a:List Snd×List Snd×List (List Int)=>.agg (twC a)) (fun _=>True):=by
 intro H enc bs spare held fuel cs x h
 have hcell:Try.prog.cellsOf 54=3:=by kernel_rfl
 have k25:Try.prog.cellsOf 25=1:=by kernel_rfl
 have k30:Try.prog.cellsOf 30=1:=by kernel_rfl
 obtain ⟨xs,n,_,hx,hl,hlen,hf⟩:=DataW.trod_struct Try.underlying54 h
 rw [hcell]at hl
 match xs,hlen with
 | [y0,y1,y2],_ =>
  have f0:DataW.trod enc Try.prog W bs spare held n 25 ((cs.drop 0).take (Try.prog.cellsOf 25))=some y0:=hf 0 _ rfl
  have f1:DataW.trod enc Try.prog W bs spare held n 25 ((cs.drop 1).take (Try.prog.cellsOf 25))=some y1:=hf 1 _ rfl
  have f2:DataW.trod enc Try.prog W bs spare held n 30 ((cs.drop 2).take (Try.prog.cellsOf 30))=some y2:=hf 2 _ rfl
  rw [k25]at f0 f1
  rw [k30]at f2
  obtain ⟨a,_,_,p0⟩:=RdD.part (f:=fun l:List Snd=>Av l) (q:=fun _ _ _=>True) (d25 W) (cs:=cs) (o:=0) (n:=1) (by omega) f0
  obtain ⟨b,_,_,p1⟩:=RdD.part (f:=fun l:List Snd=>Av l) (q:=fun _ _ _=>True) (d25 W) (cs:=cs) (o:=1) (n:=1) (by omega) f1
  obtain ⟨c,_,_,p2⟩:=RdD.part (f:=fun y:List (List Int)=>Dl y) (q:=fun _ _ _=>True) (d30 W) (cs:=cs) (o:=2) (n:=1) (by omega) f2
  have p0:Part W cs 0 [Av a]:=p0
  have p1:Part W cs 1 [Av b]:=p1
  have p2:Part W cs 2 [Dl c]:=p2
  have hp:Part W cs 0 (twC (a,b,c)):=p0.append (p1.append p2)
  refine ⟨(a,b,c),trivial,?_,hp.1,fun j e hj=>?_⟩
  ·show 3=_;exact hl.symm
  ·have := hp.2 j e hj
   rwa [Nat.zero_add]at this
section
variable {W:World} {b0 bs:Nat} {H:Type} {enc:TypeId×Value→H} {spare:Nat→Bool} {held:Bool} {v:Value} {d:DataW H} {ps:List MemPlace}
theorem UP (hval:Value.okWide Try.prog W .any b0 29 v) (hd:DataW.Trod enc Try.prog W bs spare held 29 v d ps):∃(hn:Int) (ls:List Lnk) (us:List Snd) (d:Dem),VR (base (full W) W) v (.agg [I hn,Ax ls,Av us,I d.1,I d.2.1,I d.2.2.1,I d.2.2.2.1,I d.2.2.2.2]):=by
 obtain ⟨a,_,h⟩:=RdC.argS (l:=frC) (.inl ⟨_,Try.underlying29⟩) (r29 W) hval hd
 exact ⟨a.1.1,a.1.2,a.2.1,a.2.2,h⟩
theorem Abq (hval:Value.okWide Try.prog W .any b0 54 v) (hd:DataW.Trod enc Try.prog W bs spare held 54 v d ps):∃(l l2:List Snd) (y:List (List Int)),VR (base (full W) W) v (.agg [Av l,Av l2,Dl y]):=by
 obtain ⟨a,_,h⟩:=RdC.argS (l:=twC) (.inl ⟨_,Try.underlying54⟩) (r54 W) hval hd
 exact ⟨a.1,a.2.1,a.2.2,h⟩
end
end Sim
namespace Sim
open Go Go.Proofs
attribute [local congr] Aq Ar Al AG At As Az
def Abr:Prop:=∀(hn:Int) (ls:List Lnk) (us:List Snd) (d:Dem) (l:List Snd) (l2:List Snd) (y:List (List Int)) ,VC Try.prog 7 [.agg [I hn,Ax ls,Av us,I d.1,I d.2.1,I d.2.2.1,I d.2.2.2.1,I d.2.2.2.2],.agg [Av l,Av l2,Dl y]] (B true)
theorem Abs:Abr:=by
 intro hn ls us d l l2 y
 refine A3 AP (l := [e_few,e_little,e_sanity,e_rpcheck,e_pbound,e_rpos,e_cost,e_paccept,e_cheap]) ((Ad Aja (Ad tF (Ad tJ (Ad dO (Ad Nt (Ad Agn (Ad nB (Ad PJ (Ad Yi An)))))))))) [] []  Try.func7 rfl (by decide +kernel) (N:=146) rfl (by simp) rfl (by kernel_rfl) fun hs=>?_
 simp only[AJ,PV.small,List.length_map,and_true,true_and]at hs
 by_cases g1:pI hn ls us d 12=true
 case neg=>simp +contextual (maxSteps:=4000000) only[↓bdD,bdP,Nat.reduceLT,Nat.reduceBEq,Ai,Nat.reduceEqDiff,Nat.reduceAdd,st0,↓reduceIte,e_few,IP,e_little,e_sanity,Dw,e_rpcheck,e_pbound,e_rpos,e_cost,e_paccept,e_cheap,Ac,Ab,Try.f7,ty3,Bd,g1]
 by_cases g2:UG y=true
 case neg=>simp +contextual (maxSteps:=4000000) only[↓bdD,bdP,Nat.reduceLT,Nat.reduceBEq,Ai,Nat.reduceEqDiff,Nat.reduceAdd,st0,↓reduceIte,e_few,IP,e_little,D9,e_sanity,Dw,e_rpcheck,e_pbound,e_rpos,e_cost,e_paccept,e_cheap,Ac,Ab,BL,Try.f7,ty3,Bd,Bk,QG,g1,g2]
 by_cases g3:40<l.length
 ·have g3i:(40:Int)<(l.length:Int):=by omega
  simp +contextual (maxSteps:=4000000) only[↓bdD,bdP,Nat.reduceLT,Nat.reduceBEq,Ai,Nat.reduceEqDiff,Nat.reduceAdd,st0,↓reduceIte,e_few,IP,e_little,D9,e_sanity,Dw,e_rpcheck,e_pbound,e_rpos,e_cost,e_paccept,e_cheap,Ac,Ab,BL,Try.f7,ty3,AB,Bd,Bk,QG,g1,g2,g3i]
 have g3i:¬(40:Int)<(l.length:Int):=by omega
 by_cases g4:40<l2.length
 ·have g4i:(40:Int)<(l2.length:Int):=by omega
  simp +contextual (maxSteps:=4000000) only[↓bdD,bdP,Nat.reduceLT,Nat.reduceBEq,Ai,Nat.reduceEqDiff,Nat.reduceAdd,st0,↓reduceIte,e_few,IP,e_little,D9,e_sanity,Dw,e_rpcheck,e_pbound,e_rpos,e_cost,e_paccept,e_cheap,Ac,Ab,BL,Try.f7,ty3,AB,Bd,Bk,QG,g1,g2,g3i,g4i]
 have g4i:¬(40:Int)<(l2.length:Int):=by omega
 by_cases h1:CO hn ls us d=0
 case neg=>simp +contextual (maxSteps:=4000000) only[↓bdD,bdP,Nat.reduceLT,Nat.reduceBEq,Ai,Nat.reduceEqDiff,Nat.reduceAdd,st0,↓reduceIte,e_few,IP,e_little,D9,e_sanity,Dw,e_rpcheck,EY,e_pbound,e_rpos,e_cost,e_paccept,e_cheap,Ac,Ab,BL,Try.f7,ty3,AB,Bd,Bk,QG,g1,g2,g3i,g4i,h1]
 have hfk:=(pck_zero.1 h1).1
 have hf:=(CB hfk).1
 have key:Fs hn ls us d y=0→GK hn ls us l2 d→AN hn ls l2=0∧¬CY hn ls l2<IB hn ls us d y:=fun e p=>by
  have := NI e p
  exact ⟨right_zero.2 (serves_iff.1 p.1).ok,by omega⟩
 by_cases ha:Nz hn ls us d l y
 case neg =>
  have sa:=EZ (hn:=hn) (ls:=ls) (us:=us) (d:=d) (l:=l) (y:=y)
  rw [decide_eq_false ha]at sa
  dsimp only[Ax,Av,Dl]at sa
  by_cases e1:Fs hn ls us d y=0
  case neg =>
   clear key
   simp +contextual (maxSteps:=4000000) only[↓bdD,bdP,Nat.reduceLT,Nat.reduceBEq,Ai,Nat.reduceEqDiff,Nat.reduceAdd,Nat.reduceLeDiff,st0,↓reduceIte,e_few,IP,e_little,D9,e_sanity,Dw,e_rpcheck,EY,e_pbound,D7,e_rpos,K4,e_cost,HG,e_paccept,e_cheap,Ac,Ab,BL,Try.f7,ty3,Au,AB,Bd,Bk,QG,g1,g2,g3i,g4i,h1,hf,e1,sa]
  by_cases p:GK hn ls us l2 d
  ·obtain ⟨k1,k2⟩:=key e1 p
   simp +contextual (maxSteps:=4000000) only[↓bdD,bdP,Nat.reduceLT,Nat.reduceBEq,Ai,Nat.reduceEqDiff,Nat.reduceAdd,Nat.reduceLeDiff,st0,↓reduceIte,e_few,IP,e_little,D9,e_sanity,Dw,e_rpcheck,EY,e_pbound,D7,e_rpos,K4,e_cost,HG,e_paccept,e_cheap,Ac,Ab,BL,Try.f7,ty3,Au,AB,Bd,Bk,QG,g1,g2,g3i,g4i,h1,hf,e1,sa,p,k1,k2]
  ·clear key
   simp +contextual (maxSteps:=4000000) only[↓bdD,bdP,Nat.reduceLT,Nat.reduceBEq,Ai,Nat.reduceEqDiff,Nat.reduceAdd,Nat.reduceLeDiff,st0,↓reduceIte,e_few,IP,e_little,D9,e_sanity,Dw,e_rpcheck,EY,e_pbound,D7,e_rpos,K4,e_cost,HG,e_paccept,e_cheap,Ac,Ab,BL,Try.f7,ty3,Au,AB,Bd,Bk,QG,g1,g2,g3i,g4i,h1,hf,e1,sa,p]
 have sa:=EZ (hn:=hn) (ls:=ls) (us:=us) (d:=d) (l:=l) (y:=y)
 rw [decide_eq_true ha]at sa
 dsimp only[Ax,Av,Dl]at sa
 have e1:=ha.1
 have hpl:=ha.2.1
 have hrl:=right_zero.2 (serves_iff.1 hpl.1).ok
 obtain ⟨q1,q2,q3⟩:=eB (l2:=l2) ha
 have hrc:=right_zero.2 (serves_iff.1 (RC q2).1).ok
 have sl:=K4 (hn:=hn) (ls:=ls) (us:=us) (d:=d) (l:=l)
 rw [if_pos hf,decide_eq_true hpl]at sl
 have so:=HG (hn:=hn) (ls:=ls) (l:=l)
 rw [hrl]at so
 have sc:=Rl (hn:=hn) (ls:=ls) (us:=us) (d:=d)
 rw [q2]at sc
 have so2:=HG (hn:=hn) (ls:=ls) (l:=CV hn ls us d)
 rw [hrc,q3]at so2
 dsimp only[Ax,Av,B7]at sl so sc so2
 clear hrl hrc hpl ha q2 q3
 by_cases p:GK hn ls us l2 d
 ·obtain ⟨k1,k2⟩:=key e1 p
  have q1:=q1 p
  have so3:=HG (hn:=hn) (ls:=ls) (l:=l2)
  rw [k1]at so3
  dsimp only[Ax,Av]at so3
  clear key k1
  simp +contextual (maxSteps:=4000000) only[↓bdD,bdP,Nat.reduceLT,Nat.reduceBEq,Ai,Nat.reduceEqDiff,Nat.reduceAdd,Nat.reduceLeDiff,st0,↓reduceIte,e_few,IP,e_little,D9,e_sanity,Dw,e_rpcheck,EY,e_pbound,D7,e_rpos,K4,e_cost,e_paccept,e_cheap,Ac,Ab,BL,Try.f7,ty3,Au,AB,AQ,Bd,Bk,QG,g1,g2,g3i,g4i,h1,hf,e1,sa,sl,so,sc,so2,so3,p,k2,q1]
 ·clear key q1
  simp +contextual (maxSteps:=4000000) only[↓bdD,bdP,Nat.reduceLT,Nat.reduceBEq,Ai,Nat.reduceEqDiff,Nat.reduceAdd,Nat.reduceLeDiff,st0,↓reduceIte,e_few,IP,e_little,D9,e_sanity,Dw,e_rpcheck,EY,e_pbound,D7,e_rpos,K4,e_cost,HG,e_paccept,e_cheap,Ac,Ab,BL,Try.f7,ty3,Au,AB,AQ,Bd,Bk,QG,g1,g2,g3i,g4i,h1,hf,e1,sa,sl,so,sc,so2,p]
end Sim
