/- What functions of this seat compute, by values: contracts (lemmas of the statement's proof, under the conditions that each names). -/
import Derived.Test.YtppljhpecoeakaaQYB
import Derived.Test.YtppljhpecoeakaaQXN
import Derived.Test.YtppljhpecoeakaaQXS
import Derived.Test.YtppljhpecoeakaaQA
import Derived.Test.YtppljhpecoeakaaSimAA
import Derived.JoinedOf
import Derived.OpenShut
set_option maxRecDepth 100000
set_option maxHeartbeats 4000000
set_option linter.unusedVariables false
set_option linter.unusedSimpArgs false
namespace Sim
open Go Go.Proofs
attribute [local congr] Am An Ai Aw Ap Ao As
noncomputable def Tg:Int→List PV:=fun b => [I b]
noncomputable def xE:Int→PV:=fun b=>exV b
def xF:Int→Prop:=fun b=>b=120∨b=231∨b=4194305
noncomputable def e_exa:Nat×Ent:=(30,.v (Al Tg xE xF))
theorem Aew:∀i j,Tg i=Tg j→i=j:=by
 rintro b₁ b₂ h
 simp only[Tg,List.cons.injEq,and_true,PV.int.injEq,true_and]at h
 first | exact h | omega | (simp[Prod.ext_iff,h];done)
theorem nA (b:Int):Al Tg xE xF [I b]=@ite (Option (PV)) (b=120∨b=231∨b=4194305) (Classical.propDecidable _) (some (exV b)) none:=Cm Aew b
def xG:Prop:=∀(b:Int) (h:b=120∨b=231∨b=4194305) ,VC Try.prog 30 [I b] (exV b)
def xH:Prop:=AT Try.prog e_exa.1 e_exa.2
theorem Aex (c:xG):xH:=Ay fun b h=>c b h
theorem Aey:xG:=by
 rintro b (rfl | rfl | rfl)
 ·exact Kh AV Aes
 ·exact Kh AV Aet
 ·exact Kh AV Aeu
theorem Aez:xH:=Aex Aey
noncomputable def MX:List Int→List PV:=fun l => [ints l]
noncomputable def nB:List Int→PV:=fun l=>Ez [l,l,l,l]
def nC:List Int→Prop:=fun l=>True
noncomputable def e_flat:Nat×Ent:=(31,.v (Al MX nB nC))
theorem Acl:∀i j,MX i=MX j→i=j:=by
 rintro l₁ l₂ h
 simp only[MX,List.cons.injEq,and_true,PV.lits.injEq,true_and,DF]at h
 first | exact h | omega | (simp[Prod.ext_iff,h];done)
theorem Vx (l:List Int):Al MX nB nC [ints l]=some (Ez [l,l,l,l]):=AD Acl (i:=l) trivial
def nD:Prop:=∀(l:List Int) ,VC Try.prog 31 [ints l] (Ez [l,l,l,l])
def nE:Prop:=AT Try.prog e_flat.1 e_flat.2
theorem Acm (c:nD):nE:=Ay fun l h=>c l
theorem Acn:nD:=by
 intro l
 refine Bk AV (l := []) (At) [] []  Try.func31 rfl (by decide +kernel) (N:=8) rfl (by simp) rfl (by kernel_rfl) fun hs=>?_
 simp only[AJ,PV.small,List.length_map,and_true]at hs
 simp +contextual (maxSteps:=4000000) only[↓bdD,bdP,Nat.reduceLT,Nat.reduceBEq,Ar,Nat.reduceAdd,Nat.reduceLeDiff,st0,↓reduceIte,Nat.mul_one,Try.f31,Br,AW]
theorem Aco:nE:=Acm Acn
end Sim
namespace Sim
open Go Go.Proofs
attribute [local congr] Am An Ai Aw Ap Ao As
theorem ZJ {hn:Int} {ls:List Lnk} {us:List Snd} {d:Dem} (h:Vq hn ls us d 12=true):CU hn ls us d=0→AI hn d≤268:=fun h1=>by
 obtain ⟨hfk,hb4⟩:=pck_zero.1 h1
 obtain ⟨hf,hdm,hD,hdu⟩:=CT hfk
 obtain ⟨_,_,hr⟩:=Cr hdm
 have hr2:=hr.2.2.1
 have hr3:=hr.2.2.2.2
 have hr4:=hr.2.2.2.1
 unfold Vq at h
 have w:IntKind.i64.wrap (d.2.2.2.2-d.2.2.2.1)=d.2.2.2.2-d.2.2.2.1:=Ah (by omega) (by omega)
 rw [w]at h
 simp only[Bool.and_eq_true,Bool.or_eq_true,decide_eq_true_eq]at h
 have h12:Aq d≤12:=by omega
 unfold AI
 exact Nat.le_trans (Nat.mul_le_mul (show Aq d+1≤13 by omega) (show hn.toNat≤5 by omega)) (by decide)
theorem Acp:JS 3 exL [] (exD 231)=0:=by
 unfold JS
 rw [if_neg (fun g=>g Qw),if_neg (by decide)]
noncomputable def JU:Unit→List PV:=fun _ => []
noncomputable def Th:Unit→PV:=fun _=>B true
def Ti:Unit→Prop:=fun _=>True
noncomputable def e_sanity:Nat×Ent:=(12,.v (Al JU Th Ti))
theorem nF:∀i j,JU i=JU j→i=j:=by
 rintro _ _ h
 rfl
theorem JV  : Al JU Th Ti []=some (B true):=AD nF (i:=()) trivial
def Tj:Prop:=VC Try.prog 12 [] (B true)
def Tk:Prop:=AT Try.prog e_sanity.1 e_sanity.2
theorem nG (c:Tj):Tk:=Ay fun _ h=>c
theorem nH:Tj:=by
 refine Bk AV (l := [e_exa,e_flat,e_pbound,e_pbar,e_pprove,e_block,e_pcheck,e_paccept,e_pstops]) ((Ae Aez (Ae Aco (Ae MG (Ae lS (Ae Tf (Ae vR (Ae FK (Ae Ou (Ae lW At)))))))))) [] []  Try.func12 rfl (by decide +kernel) (N:=208) rfl (by simp) rfl (by kernel_rfl) fun hs=>?_
 simp only[AJ]at hs
 have a1:=Hy (hn:=3) (ls:=exL) (us := []) (d:=exD 120) (y:=exY 0 2 4)
 have a2:=Hy (hn:=3) (ls:=exL) (us := []) (d:=exD 120) (y:=exY 4 2 0)
 have a3:=Hy (hn:=3) (ls:=exL) (us := []) (d:=exD 120) (y := [[0,2,6],[0,2,6],[0,2,5],[0,2,6]])
 have a4:=Qo (hn:=3) (ls:=exL) (us := []) (d:=exD 120) (ts := [5,9,9])
 have a5:=Qo (hn:=3) (ls:=exL) (us := []) (d:=exD 120) (ts := [5,6,9])
 have a6:=Qo (hn:=3) (ls:=exL) (us := []) (d:=exD 120) (ts := [5,6,8])
 have a7:=MW (hn:=3) (ls:=exL) (us := []) (d:=exD 120)
 have a8:=MW (hn:=3) (ls:=exL) (us := []) (d:=exD 231)
 have a9:=vO (hn:=3) (ls:=exL) (us := []) (d:=exD 231)
 have b1:=Bo (hn:=3) (ls:=exL) (us := []) (d:=exD 120)
 have b2:=Bo (hn:=3) (ls:=exL) (us := []) (d:=exD 4194305)
 have b3:=FM (hn:=3) (ls:=exL) (us := []) (d:=exD 120) (l:=exB) (y:=exY 0 2 4)
 have b4:=FM (hn:=3) (ls:=exL) (us := []) (d:=exD 120) (l:=exA) (y:=exY 0 2 4)
 have b5:=FM (hn:=3) (ls:=exL) (us := []) (d:=exD 120) (l:=exB) (y:=exY 0 0 0)
 have b6:=FM (hn:=3) (ls:=exL) (us := []) (d:=exD 120) (l:=CD 3 exL [] (exD 120)) (y:=DA 3 exL [] (exD 120))
 have b7:=MN (hn:=3) (ls:=exL) (us := []) (d:=exD 120) (ts := [5,6,9])
 have b8:=MN (hn:=3) (ls:=exL) (us := []) (d:=exD 231) (ts := [5,6,9])
 have b9:=MN (hn:=3) (ls:=exL) (us := []) (d:=exD 231) (ts:=IX 3 exL [] (exD 231))
 have e1:Fq 3 exL [] (exD 120)=0:=by unfold Fq;rw[if_neg (fun g=>g Qv),mV]
 have e2:Fq 3 exL [] (exD 231)=21:=by unfold Fq;rw[if_neg (fun g=>g Qw),Aci]
 rw [v_bnd1.1,v_bnd1.2]at a1
 rw [v_bnd2.1,v_bnd2.2]at a2
 rw [Acd]at a3
 rw [v_bar1.1,v_bar1.2]at a4
 rw [v_bar2.1,v_bar2.2]at a5
 rw [Ace]at a6
 rw [if_pos (fun _=>by decide),e1,if_pos rfl,if_pos rfl]at a7
 rw [if_pos (fun _=>by decide),e2,if_neg (by decide),if_neg (by decide)]at a8
 rw [Acp,if_pos rfl]at a9
 rw [Qv]at b1
 rw [Acc]at b2
 rw [Acf]at b3
 rw [Acg]at b4
 rw [Ach]at b5
 rw [decide_eq_true Acj]at b6
 rw [v_bar2.1,v_bar2.2]at b7
 rw [v_bar4.1,v_bar4.2]at b8
 rw [decide_eq_true (show Fp 3 exL [] (exD 231) (IX 3 exL [] (exD 231))=0∧FO 3 exL [] (exD 231) (IX 3 exL [] (exD 231))<(exD 231).2.2.1 from Aev)]at b9
 rw [show decide ((0:Int)=0∧(230:Int)<(exD 120).2.2.1)=false from rfl]at b7
 rw [show decide ((0:Int)=0∧(230:Int)<(exD 231).2.2.1)=true from rfl]at b8
 generalize CD 3 exL [] (exD 120)=cl at *
 generalize DA 3 exL [] (exD 120)=pl at *
 generalize IX 3 exL [] (exD 231)=bl at *
 generalize JN 3 exL [] (exD 120) [[0,2,6],[0,2,6],[0,2,5],[0,2,6]]=x1 at *
 generalize FO 3 exL [] (exD 120) [5,6,8]=x2 at *
 have f1:=Vx (l := [0,2,4])
 have f2:=Vx (l := [4,2,0])
 have f3:=Vx (l := [0,0,0])
 have f4:=nA (b:=120)
 have f5:=nA (b:=231)
 have f6:=nA (b:=4194305)
 rw [if_pos (.inl rfl)]at f4
 rw [if_pos (.inr (.inl rfl))]at f5
 rw [if_pos (.inr (.inr rfl))]at f6
 dsimp only[AC,AA,Ez,ints,exV,exD,exY,exA,exB,GC]at a1 a2 a3 a4 a5 a6 a7 a8 a9 b1 b2 b3 b4 b5 b6 b7 b8 b9 f1 f2 f3 f4 f5 f6
 simp only[ints,List.map_cons,List.map_nil]at a1 a2 a3 a4 a5 a6 a7 a8 a9 b1 b2 b3 b4 b5 b6 b7 b8 b9 f1 f2 f3
 simp +contextual (maxSteps:=4000000) only[↓bdD,bdP,Nat.reduceLT,Nat.reduceBEq,Ar,Nat.reduceEqDiff,Nat.reduceAdd,Nat.reduceMul,Nat.reduceLeDiff,st0,Store.new,Store.set,↓reduceIte,e_exa,e_flat,e_pbound,e_pbar,e_pprove,e_block,e_pcheck,e_paccept,e_pstops,Ad,Ab,Nat.mul_one,CW,Try.f12,ty3,AR,Bz,Br,AW,CJ,f1,f2,f3,f4,f5,f6,a1,a2,a3,a4,a5,a6,a7,a8,a9,b1,b2,b3,b4,b5,b6,b7,b8,b9]
theorem nI:Tk:=nG nH
end Sim
namespace Sim
open Go Go.ChangeShapes Go.WideShapes Go.ChangeAt Go.RowKit Go.Proofs
theorem RdC.conv {P:Program} {w:World} {t:TypeId} {α β:Type} {f:α→PV} {q:α→Prop} (h:RdC P w t f q) (g:β→PV) (q':β→Prop) (hc:∀a,q a→∃b,q' b∧g b=f a):RdC P w t g q':=fun enc bs spare held fuel cs x hx=>by
 obtain ⟨a,h1,h2⟩:=h enc bs spare held fuel cs x hx
 obtain ⟨b,h3,h4⟩:=hc a h1
 exact ⟨b,h3,by rw[h4];exact h2⟩
theorem Ae0 {P:Program} {w:World} {k:IntKind} {cs:List Value} {n:Nat} (hl:cs.length=n) (h:∀i,i<n→∃(H:Type) (enc:TypeId×Value→H) (bs:Nat) (spare:Nat→Bool) (held:Bool) (m:Nat) (e:TypeId) (x:DataW H×List MemPlace),P.underlying e=some (.int k)∧DataW.trod enc P w bs spare held m e ((cs.drop i).take 1)=some x) :
  ∃ l:List Int,l.length=n∧(∀a∈l,(Lit.int k a).wf=true)∧(∀c∈l.map (PV.int k),c.isCell=true)∧∀(j:Nat) (c:PV),(l.map (PV.int k))[j]?=some c→VR (base (full w) w) (cs.getD j undef) c:=by
 obtain ⟨l,h1,h2⟩:=Fb (Q:=fun i (a:Int)=>(Lit.int k a).wf=true∧VR (base (full w) w) (cs.getD i undef) (.int k a)) n fun i hi=>by
  obtain ⟨H,enc,bs,spare,held,m,e,x,he,hx⟩:=h i hi
  obtain ⟨a,h1,_,_,h4⟩:=RdC.int he enc bs spare held m _ x hx
  refine ⟨a,h1,?_⟩
  have := h4 0 _ rfl
  rwa [List.getD_eq_getElem?_getD,List.getElem?_take_of_lt (by omega),List.getElem?_drop,Nat.add_zero,←List.getD_eq_getElem?_getD]at this
 refine ⟨l,h1,fun a ha=>?_,fun c hc=>?_,fun j c hj=>?_⟩
 ·obtain ⟨i,hi,rfl⟩:=List.getElem_of_mem ha
  exact (h2 i hi).1
 ·obtain ⟨a,_,rfl⟩:=List.mem_map.1 hc
  rfl
 ·rw [List.getElem?_map,Option.map_eq_some_iff]at hj
  obtain ⟨a,ha,rfl⟩:=hj
  obtain ⟨hi,rfl⟩:=List.getElem?_eq_some_iff.1 ha
  exact (h2 j hi).2
theorem RdC.arrayI {P:Program} {w:World} {t e:TypeId} {n:Nat} {k:IntKind} (ht:P.underlying t=some (.array n e)) (hn:P.cellsOf t=n) (hc:P.cellsOf e=1) (he:P.underlying e=some (.int k)) :
  RdC P w t (fun l:List Int=>.agg (l.map (PV.int k))) (fun l=>l.length=n∧∀a∈l,(Lit.int k a).wf=true):=by
 intro H enc bs spare held fuel cs x h
 obtain ⟨xs,m,_,_,hl,hlen,hf⟩:=DataW.trod_array ht h
 rw [hn]at hl
 obtain ⟨l,h1,h2,h3,h4⟩:=Ae0 (P:=P) (w:=w) (k:=k) hl fun i hi=>by
  have h5:=hf i hi
  rw [hc,Nat.mul_one,List.getElem?_eq_getElem (by omega)]at h5
  exact ⟨H,enc,bs,spare,held,m,e,_,he,h5⟩
 exact ⟨l,⟨h1,h2⟩,by simp[PV.cells,h1,hl],h3,h4⟩
theorem RdC.structI {P:Program} {w:World} {t:TypeId} {fs:Array Field} {k:IntKind} (ht:P.underlying t=some (.struct fs)) (hn:P.cellsOf t=fs.size) (hf:∀(i:Nat) (f:Field),fs[i]?=some f→f.offset=i∧P.cellsOf f.type=1∧P.underlying f.type=some (.int k)) :
  RdC P w t (fun l:List Int=>.agg (l.map (PV.int k))) (fun l=>l.length=fs.size∧∀a∈l,(Lit.int k a).wf=true):=by
 intro H enc bs spare held fuel cs x h
 obtain ⟨xs,m,_,_,hl,hlen,hg⟩:=DataW.trod_struct ht h
 rw [hn]at hl
 obtain ⟨l,h1,h2,h3,h4⟩:=Ae0 (P:=P) (w:=w) (k:=k) hl fun i hi=>by
  obtain ⟨f1,f2,f3⟩:=hf i fs[i] (by simp[hi])
  have h5:=hg i fs[i] (by simp[hi])
  rw [f1,f2,List.getElem?_eq_getElem (by omega)]at h5
  exact ⟨H,enc,bs,spare,held,m,_,_,f3,h5⟩
 exact ⟨l,⟨h1,h2⟩,by simp[PV.cells,h1,hl],h3,h4⟩
theorem RdC.argS {P:Program} {w:World} {t:TypeId} (ht:(∃fs,P.underlying t=some (.struct fs))∨∃n e,P.underlying t=some (.array n e)) {α:Type} {l:α→List PV} {q:α→Prop} (h:RdC P w t (fun a=>.agg (l a)) q) {H:Type} {enc:TypeId×Value→H} {bs b0:Nat} {spare:Nat→Bool} {held:Bool} {v:Value} {d:DataW H} {ps:List MemPlace}
  (hval : Value.okWide P w .any b0 t v) (hd:DataW.Trod enc P w bs spare held t v d ps):∃a,q a∧VR (base (full w) w) v (.agg (l a)):=by
 unfold Value.okWide at hval
 have key:∃cs,v=.agg cs:=by
  rcases ht with ⟨fs,ht⟩ | ⟨n,e,ht⟩
  ·rw [ht]at hval;obtain⟨cs,rfl,_⟩:=hval;exact⟨cs,rfl⟩
  ·rw [ht]at hval;obtain⟨cs,rfl,_⟩:=hval;exact⟨cs,rfl⟩
 obtain ⟨cs,rfl⟩:=key
 obtain ⟨fuel,hd⟩:=hd
 obtain ⟨a,qa,h1,h2,h3⟩:=h enc bs spare held fuel _ _ hd
 refine ⟨a,qa,.agg cs _ ?_ h2 fun i p hp=>?_⟩
 ·have h4:(l a).length=cs.toList.length:=h1
  rw [Array.length_toList]at h4;exact h4.symm
 ·have := h3 i p hp
  have e:(Value.agg cs).cells.toList.getD i undef=cs.getD i undef:=by
   simp [Value.cells,Array.getD_eq_getD_getElem?,List.getD_eq_getElem?_getD]
  rwa [e]at this
theorem RdC.any {P:Program} {w:World} {t:TypeId} {α:Type} {f:α→PV} {q:α→Prop} (h:RdC P w t f q):RdC P w t f (fun _=>True):=fun enc bs spare held fuel cs x hx=>by
 obtain ⟨a,_,h1⟩:=h enc bs spare held fuel cs x hx
 exact ⟨a,trivial,h1⟩
theorem Ae1:ownKnob Try.prog.godebug=Option.none:=by kernel_rfl
theorem Acq:Kids Try.prog (· < Try.prog.types.size):=kids_rows (by kernel_rfl) (by kernel_rfl)
theorem vT:((List.range Try.prog.types.size).all fun t=>match Try.prog.underlying t with | some (.slice e)=>decide (0<Try.prog.cellsOf e) | _=>true)=true:=by kernel_rfl
theorem Acr:∀t e,t<Try.prog.types.size→Try.prog.underlying t=some (.slice e)→0<Try.prog.cellsOf e:=fun t e ht hu=>by
 have := List.all_eq_true.1 vT t (List.mem_range.2 ht)
 rw [hu]at this
 simpa using this
theorem r3 (W:World):RdC Try.prog W 3 (fun n:Int=>I n) (fun _=>True):=RdC.any (RdC.int Try.underlying3)
theorem r69 (W:World):RdC Try.prog W 69 (fun a:Snd=>GC a) (fun _=>True):=by
 have h:=@RdC.structI Try.prog W 69 _ .i64 Try.underlying69 (by kernel_rfl) (fun i f h=>by
  match i,h with
  | 0,h=>simp at h;subst h;exact⟨rfl,by kernel_rfl,Try.underlying3⟩
  | 1,h=>simp at h;subst h;exact⟨rfl,by kernel_rfl,Try.underlying3⟩
  | 2,h=>simp at h;subst h;exact⟨rfl,by kernel_rfl,Try.underlying3⟩
  | i+3,h=>simp at h)
 refine @RdC.conv Try.prog W 69 (List Int) Snd _ _ h (fun a:Snd=>GC a) (fun _=>True) ?_
 rintro l ⟨hl,_⟩
 match l,hl with
 | [a,b,c],_=>exact⟨(a,b,c),trivial,rfl⟩
theorem r27 (W:World):RdC Try.prog W 27 (fun a:Dem=>CR a) (fun _=>True):=by
 have h:=@RdC.structI Try.prog W 27 _ .i64 Try.underlying27 (by kernel_rfl) (fun i f h=>by
  match i,h with
  | 0,h=>simp at h;subst h;exact⟨rfl,by kernel_rfl,Try.underlying3⟩
  | 1,h=>simp at h;subst h;exact⟨rfl,by kernel_rfl,Try.underlying3⟩
  | 2,h=>simp at h;subst h;exact⟨rfl,by kernel_rfl,Try.underlying3⟩
  | 3,h=>simp at h;subst h;exact⟨rfl,by kernel_rfl,Try.underlying3⟩
  | 4,h=>simp at h;subst h;exact⟨rfl,by kernel_rfl,Try.underlying3⟩
  | i+5,h=>simp at h)
 refine @RdC.conv Try.prog W 27 (List Int) Dem _ _ h (fun a:Dem=>CR a) (fun _=>True) ?_
 rintro l ⟨hl,_⟩
 match l,hl with
 | [a,b,c,d,e],_=>exact⟨(a,b,c,d,e),trivial,rfl⟩
theorem r60 (W:World):RdC Try.prog W 60 (fun l:List Int=>.agg (l.map (PV.int .i64))) (fun l=>l.length=24):=by
 have h:=@RdC.arrayI Try.prog W 60 _ _ .i64 Try.underlying60 (by kernel_rfl) (by kernel_rfl) Try.underlying3
 exact @RdC.conv Try.prog W 60 (List Int) (List Int) _ _ h _ _ fun l h=>⟨l,h.1,rfl⟩
theorem d3 (W:World):RdD Try.prog W 3 (fun n:Int=>I n) (fun _ _ _=>True):=fun enc bs spare held fuel cs x hx=>r3 W enc bs spare held fuel cs x hx
theorem d60 (W:World):RdD Try.prog W 60 (fun l:List Int=>.agg (l.map (PV.int .i64))) (fun l _ _=>l.length=24):=fun enc bs spare held fuel cs x hx=>r60 W enc bs spare held fuel cs x hx
theorem Ov {l:List Int} (h:l.length=24):List.ofFn (fun i:Fin 24=>l.getD i.1 0)=l:=by
 apply List.ext_getElem
 ·simp [h]
 ·intro i h1 h2
  rw [List.getElem_ofFn,List.getD_eq_getElem?_getD,List.getElem?_eq_getElem h2];rfl
theorem r62 (W:World):RdC Try.prog W 62 (fun a:Lnk=>Vb a) (fun _=>True):=by
 intro H enc bs spare held fuel cs x h
 have hcell:Try.prog.cellsOf 62=50:=by kernel_rfl
 have k3:Try.prog.cellsOf 3=1:=by kernel_rfl
 have k60:Try.prog.cellsOf 60=24:=by kernel_rfl
 obtain ⟨xs,n,_,hx,hl,hlen,hf⟩:=DataW.trod_struct Try.underlying62 h
 rw [hcell]at hl
 match xs,hlen with
 | [y0,y1,y2,y3],_ =>
  have f0:DataW.trod enc Try.prog W bs spare held n 3 ((cs.drop 0).take (Try.prog.cellsOf 3))=some y0:=hf 0 _ rfl
  have f1:DataW.trod enc Try.prog W bs spare held n 3 ((cs.drop 1).take (Try.prog.cellsOf 3))=some y1:=hf 1 _ rfl
  have f2:DataW.trod enc Try.prog W bs spare held n 60 ((cs.drop 2).take (Try.prog.cellsOf 60))=some y2:=hf 2 _ rfl
  have f3:DataW.trod enc Try.prog W bs spare held n 60 ((cs.drop 26).take (Try.prog.cellsOf 60))=some y3:=hf 3 _ rfl
  rw [k3]at f0 f1
  rw [k60]at f2 f3
  obtain ⟨a,_,_,p0⟩:=RdD.part (f:=fun n:Int=>I n) (q:=fun _ _ _=>True) (d3 W) (cs:=cs) (o:=0) (n:=1) (by omega) f0
  obtain ⟨b,_,_,p1⟩:=RdD.part (f:=fun n:Int=>I n) (q:=fun _ _ _=>True) (d3 W) (cs:=cs) (o:=1) (n:=1) (by omega) f1
  obtain ⟨l2,g2,_,p2⟩:=RdD.part (f:=fun l:List Int=>.agg (l.map (PV.int .i64))) (q:=fun l _ _=>l.length=24) (d60 W) (cs:=cs) (o:=2) (n:=24) (by omega) f2
  obtain ⟨l3,g3,_,p3⟩:=RdD.part (f:=fun l:List Int=>.agg (l.map (PV.int .i64))) (q:=fun l _ _=>l.length=24) (d60 W) (cs:=cs) (o:=26) (n:=24) (by omega) f3
  have hc:lkC (a,b,fun i=>l2.getD i.1 0,fun i=>l3.getD i.1 0) = [I a]++([I b]++(l2.map (PV.int .i64)++l3.map (PV.int .i64))):=by
   simp only[lkC,Ov g2,Ov g3];rfl
  have p0:Part W cs 0 [I a]:=p0
  have p1:Part W cs 1 [I b]:=p1
  have p2:Part W cs 2 (l2.map (PV.int .i64)):=p2
  have p3:Part W cs 26 (l3.map (PV.int .i64)):=p3
  have e26:2+(l2.map (PV.int .i64)).length=26:=by simp[g2]
  have hp:Part W cs 0 (lkC (a,b,fun i=>l2.getD i.1 0,fun i=>l3.getD i.1 0)):=by
   rw [hc]
   exact p0.append (p1.append (p2.append (by
    rw [e26]
    exact p3)))
  refine ⟨(a,b,fun i=>l2.getD i.1 0,fun i=>l3.getD i.1 0),trivial,?_,hp.1,fun j c hj=>?_⟩
  ·simp only[PV.cells,B9];exact hl.symm
  ·have := hp.2 j c hj
   rwa [Nat.zero_add]at this
theorem r25 (W:World):RdC Try.prog W 25 (fun l:List Snd=>AA l) (fun _=>True):=RdC.any (RdC.slice Try.underlying25 (by kernel_rfl) (by decide) (r69 W))
theorem r22 (W:World):RdC Try.prog W 22 (fun l:List Lnk=>AC l) (fun _=>True):=RdC.any (RdC.slice Try.underlying22 (by kernel_rfl) (by decide) (r62 W))
theorem r24 (W:World):RdC Try.prog W 24 (fun a:Int×List Lnk=>.agg [I a.1,AC a.2]) (fun _=>True) :=
 RdC.any (RdC.struct2 Try.underlying24 (by kernel_rfl) ⟨rfl,rfl⟩ ⟨by kernel_rfl,by kernel_rfl⟩ (r3 W) (r22 W) (fun _=>rfl) (fun _=>rfl))
section
variable {W:World} {b0 bs:Nat} {H:Type} {enc:TypeId×Value→H} {spare:Nat→Bool} {held:Bool} {v:Value} {d:DataW H} {ps:List MemPlace}
end
section
variable {W:World} {b0 bs:Nat} {H:Type} {enc:TypeId×Value→H} {spare:Nat→Bool} {held:Bool} {v:Value} {d:DataW H} {ps:List MemPlace}
end
theorem d24 (W:World):RdD Try.prog W 24 (fun a:Int×List Lnk=>.agg [I a.1,AC a.2]) (fun _ _ _=>True):=fun enc bs spare held fuel cs x hx=>r24 W enc bs spare held fuel cs x hx
theorem d25 (W:World):RdD Try.prog W 25 (fun l:List Snd=>AA l) (fun _ _ _=>True):=fun enc bs spare held fuel cs x hx=>r25 W enc bs spare held fuel cs x hx
theorem d27 (W:World):RdD Try.prog W 27 (fun a:Dem=>CR a) (fun _ _ _=>True):=fun enc bs spare held fuel cs x hx=>r27 W enc bs spare held fuel cs x hx
abbrev frC (a:(Int×List Lnk)×List Snd×Dem):List PV := [I a.1.1,AC a.1.2,AA a.2.1,I a.2.2.1,I a.2.2.2.1,I a.2.2.2.2.1,I a.2.2.2.2.2.1,I a.2.2.2.2.2.2]
theorem r29 (W:World):RdC Try.prog W 29 (fun a:(Int×List Lnk)×List Snd×Dem=>.agg (frC a)) (fun _=>True):=by
 intro H enc bs spare held fuel cs x h
 have hcell:Try.prog.cellsOf 29=8:=by kernel_rfl
 have k24:Try.prog.cellsOf 24=2:=by kernel_rfl
 have k25:Try.prog.cellsOf 25=1:=by kernel_rfl
 have k27:Try.prog.cellsOf 27=5:=by kernel_rfl
 obtain ⟨xs,n,_,hx,hl,hlen,hf⟩:=DataW.trod_struct Try.underlying29 h
 rw [hcell]at hl
 match xs,hlen with
 | [y0,y1,y2],_ =>
  have f0:DataW.trod enc Try.prog W bs spare held n 24 ((cs.drop 0).take (Try.prog.cellsOf 24))=some y0:=hf 0 _ rfl
  have f1:DataW.trod enc Try.prog W bs spare held n 25 ((cs.drop 2).take (Try.prog.cellsOf 25))=some y1:=hf 1 _ rfl
  have f2:DataW.trod enc Try.prog W bs spare held n 27 ((cs.drop 3).take (Try.prog.cellsOf 27))=some y2:=hf 2 _ rfl
  rw [k24]at f0
  rw [k25]at f1
  rw [k27]at f2
  obtain ⟨a,_,_,p0⟩:=RdD.part (f:=fun a:Int×List Lnk=>.agg [I a.1,AC a.2]) (q:=fun _ _ _=>True) (d24 W) (cs:=cs) (o:=0) (n:=2) (by omega) f0
  obtain ⟨b,_,_,p1⟩:=RdD.part (f:=fun l:List Snd=>AA l) (q:=fun _ _ _=>True) (d25 W) (cs:=cs) (o:=2) (n:=1) (by omega) f1
  obtain ⟨c,_,_,p2⟩:=RdD.part (f:=fun a:Dem=>CR a) (q:=fun _ _ _=>True) (d27 W) (cs:=cs) (o:=3) (n:=5) (by omega) f2
  have p0:Part W cs 0 [I a.1,AC a.2]:=p0
  have p1:Part W cs 2 [AA b]:=p1
  have p2:Part W cs 3 [I c.1,I c.2.1,I c.2.2.1,I c.2.2.2.1,I c.2.2.2.2]:=p2
  have hp:Part W cs 0 (frC (a,b,c)):=p0.append (p1.append p2)
  refine ⟨(a,b,c),trivial,?_,hp.1,fun j e hj=>?_⟩
  ·show 8=_;exact hl.symm
  ·have := hp.2 j e hj
   rwa [Nat.zero_add]at this
section
variable {W:World} {b0 bs:Nat} {H:Type} {enc:TypeId×Value→H} {spare:Nat→Bool} {held:Bool} {v:Value} {d:DataW H} {ps:List MemPlace}
theorem Tl (hval:Value.okWide Try.prog W .any b0 29 v) (hd:DataW.Trod enc Try.prog W bs spare held 29 v d ps):∃(hn:Int) (ls:List Lnk) (us:List Snd) (d:Dem),VR (base (full W) W) v (.agg [I hn,AC ls,AA us,I d.1,I d.2.1,I d.2.2.1,I d.2.2.2.1,I d.2.2.2.2]):=by
 obtain ⟨a,_,h⟩:=RdC.argS (l:=frC) (.inl ⟨_,Try.underlying29⟩) (r29 W) hval hd
 exact ⟨a.1.1,a.1.2,a.2.1,a.2.2,h⟩
end
end Sim
namespace Sim
open Go Go.Proofs
attribute [local congr] Am An Ai Aw Ap Ao As
def vU:Prop:=∀(hn:Int) (ls:List Lnk) (us:List Snd) (d:Dem) ,VC Try.prog 6 [.agg [I hn,AC ls,AA us,I d.1,I d.2.1,I d.2.2.1,I d.2.2.2.1,I d.2.2.2.2]] (B true)
theorem vV:vU:=by
 intro hn ls us d
 refine Bk AV (l := [e_few,e_sanity,e_pprove,e_cheap,e_pcheck,e_cost,e_pbound,e_paccept]) ((Ae Aeg (Ae nI (Ae Tf (Ae WG (Ae FK (Ae gQ (Ae MG (Ae Ou At))))))))) [] []  Try.func6 rfl (by decide +kernel) (N:=123) rfl (by simp) rfl (by kernel_rfl) fun hs=>?_
 simp only[AJ,PV.small,List.length_map,and_true,true_and]at hs
 by_cases g1:Vq hn ls us d 12=true
 case neg=>simp +contextual (maxSteps:=4000000) only[↓bdD,bdP,Nat.reduceLT,Nat.reduceBEq,Ar,Nat.reduceEqDiff,Nat.reduceAdd,st0,↓reduceIte,e_few,WJ,e_sanity,JV,e_pprove,e_cheap,e_pcheck,e_cost,e_pbound,e_paccept,Ad,Ab,Try.f6,ty3,Bz,g1]
 have hN:=ZJ g1
 have sp:=MW (hn:=hn) (ls:=ls) (us:=us) (d:=d)
 rw [if_pos hN]at sp
 dsimp only[AC,AA,Ez]at sp
 by_cases h1:CU hn ls us d=0
 case neg =>
  have e0:Fq hn ls us d=CU hn ls us d:=by unfold Fq;rw[if_pos h1]
  rw [e0,if_neg h1,if_neg h1]at sp
  simp +contextual (maxSteps:=4000000) only[↓bdD,bdP,Nat.reduceLT,Nat.reduceBEq,Ar,Nat.reduceEqDiff,Nat.reduceAdd,Nat.reduceLeDiff,st0,↓reduceIte,e_few,WJ,e_sanity,JV,e_pprove,e_cheap,Lc,e_pcheck,Bo,e_cost,e_pbound,e_paccept,Ad,Ab,Try.f6,ty3,AH,AR,AZ,Bz,Br,g1,sp,h1]
 have e0:Fq hn ls us d=Dz hn ls us d:=by unfold Fq;rw[if_neg (fun g=>g h1)]
 rw [e0]at sp
 have sc:=Lc (hn:=hn) (ls:=ls) (us:=us) (d:=d)
 dsimp only[AC,AA,CR]at sc
 by_cases h2:Dz hn ls us d=0
 case neg =>
  rw [if_neg h2,if_neg h2]at sp
  simp +contextual (maxSteps:=4000000) only[↓bdD,bdP,Nat.reduceLT,Nat.reduceBEq,Ar,Nat.reduceEqDiff,Nat.reduceAdd,Nat.reduceLeDiff,st0,↓reduceIte,e_few,WJ,e_sanity,JV,e_pprove,e_cheap,e_pcheck,Bo,e_cost,e_pbound,e_paccept,Ad,Ab,Try.f6,ty3,AH,AR,AZ,Bz,Br,g1,sp,sc,h1,h2]
 rw [h2]at sc sp
 rw [if_pos rfl,if_pos rfl]at sp
 obtain ⟨b1,b2,b3⟩:=WT h1 h2 (hN h1)
 have hrt:=right_zero.2 (serves_iff.1 b3.2.1.1).ok
 have sb:=Hy (hn:=hn) (ls:=ls) (us:=us) (d:=d) (y:=DA hn ls us d)
 rw [b1,b2]at sb
 have sa:=FM (hn:=hn) (ls:=ls) (us:=us) (d:=d) (l:=CD hn ls us d) (y:=DA hn ls us d)
 rw [decide_eq_true b3]at sa
 have so:=gJ (hn:=hn) (ls:=ls) (l:=CD hn ls us d)
 rw [hrt]at so
 dsimp only[AC,AA,Ez]at sb sa so
 clear b1 b2 b3 hrt
 generalize Fe hn ls (CD hn ls us d)=c at *
 generalize CD hn ls us d=cl at *
 generalize DA hn ls us d=pl at *
 simp +contextual (maxSteps:=4000000) only[↓bdD,bdP,Nat.reduceLT,Nat.reduceBEq,Ar,Nat.reduceEqDiff,Nat.reduceAdd,Nat.reduceLeDiff,st0,↓reduceIte,e_few,WJ,e_sanity,JV,e_pprove,e_cheap,e_pcheck,Bo,e_cost,e_pbound,e_paccept,Ad,Ab,CW,Try.f6,ty3,AH,AR,AZ,Bz,Br,g1,sp,sc,sb,sa,so,h1]
end Sim
