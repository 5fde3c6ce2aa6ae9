/- What functions of this seat compute, by values: contracts (lemmas of the statement's proof, under the conditions that each names). -/
import Derived.Test.YtppljhpecoeakaaQYB
import Derived.Test.YtppljhpecoeakaaQXN
import Derived.Test.YtppljhpecoeakaaQXS
import Derived.Test.YtppljhpecoeakaaQA
import Derived.Test.YtppljhpecoeakaaSimAA
import Derived.JoinedOf
import Derived.OpenShut
set_option maxRecDepth 100000
set_option maxHeartbeats 4000000
set_option linter.unusedVariables false
set_option linter.unusedSimpArgs false
namespace Sim
open Go Go.Proofs
attribute [local congr] An Ao Al AC Aq Ap Av
noncomputable def T1:Int→List PV:=fun b => [I b]
noncomputable def Aaj:Int→PV:=fun b=>exV b
def Aak:Int→Prop:=fun b=>b=120∨b=231∨b=4194305
noncomputable def e_exa:Nat×Ent:=(30,.v (Ah T1 Aaj Aak))
theorem Ahe:∀i j,T1 i=T1 j→i=j:=by
 rintro b₁ b₂ h
 simp only[T1,List.cons.injEq,and_true,PV.int.injEq,true_and]at h
 first | exact h | omega | (simp[Prod.ext_iff,h];done)
theorem qF (b:Int):Ah T1 Aaj Aak [I b]=@ite (Option (PV)) (b=120∨b=231∨b=4194305) (Classical.propDecidable _) (some (exV b)) none:=B9 Ahe b
def Aal:Prop:=∀(b:Int) (h:b=120∨b=231∨b=4194305) ,VC Try.prog 30 [I b] (exV b)
def Aam:Prop:=AN Try.prog e_exa.1 e_exa.2
theorem Ahf (c:Aal):Aam:=At fun b h=>c b h
theorem Ahg:Aal:=by
 rintro b (rfl | rfl | rfl)
 ·exact Kz AR Aha
 ·exact Kz AR Ahb
 ·exact Kz AR Ahc
theorem Ahh:Aam:=Ahf Ahg
noncomputable def No:List Int→List PV:=fun l => [ints l]
noncomputable def qG:List Int→PV:=fun l=>Ff [l,l,l,l]
def qH:List Int→Prop:=fun l=>True
noncomputable def e_flat:Nat×Ent:=(31,.v (Ah No qG qH))
theorem Ae5:∀i j,No i=No j→i=j:=by
 rintro l₁ l₂ h
 simp only[No,List.cons.injEq,and_true,PV.lits.injEq,true_and,DQ]at h
 first | exact h | omega | (simp[Prod.ext_iff,h];done)
theorem Wj (l:List Int):Ah No qG qH [ints l]=some (Ff [l,l,l,l]):=Ay Ae5 (i:=l) trivial
def qI:Prop:=∀(l:List Int) ,VC Try.prog 31 [ints l] (Ff [l,l,l,l])
def qJ:Prop:=AN Try.prog e_flat.1 e_flat.2
theorem Ae6 (c:qI):qJ:=At fun l h=>c l
theorem Ae7:qI:=by
 intro l
 refine A5 AR (l := []) (As) [] []  Try.func31 rfl (by decide +kernel) (N:=8) rfl (by simp) rfl (by kernel_rfl) fun hs=>?_
 simp only[AI,PV.small,List.length_map,and_true]at hs
 simp +contextual (maxSteps:=4000000) only[↓bdD,bdP,Nat.reduceLT,Nat.reduceBEq,Ag,Nat.reduceAdd,Nat.reduceLeDiff,st0,↓reduceIte,Nat.mul_one,Try.f31,By,AX]
theorem Ae8:qJ:=Ae6 Ae7
end Sim
namespace Sim
open Go Go.Proofs
attribute [local congr] An Ao Al AC Aq Ap Av
theorem Ae9:HR 3 exL [] (exD 231)=0:=by
 unfold HR
 rw [if_neg (fun g=>g QZ),if_neg (by decide)]
noncomputable def Ke:Unit→List PV:=fun _ => []
noncomputable def T3:Unit→PV:=fun _=>B true
def T4:Unit→Prop:=fun _=>True
noncomputable def e_sanity:Nat×Ent:=(12,.v (Ah Ke T3 T4))
theorem qK:∀i j,Ke i=Ke j→i=j:=by
 rintro _ _ h
 rfl
theorem C8  : Ah Ke T3 T4 []=some (B true):=Ay qK (i:=()) trivial
def T5:Prop:=VC Try.prog 12 [] (B true)
def T6:Prop:=AN Try.prog e_sanity.1 e_sanity.2
theorem qL (c:T5):T6:=At fun _ h=>c
theorem qM:T5:=by
 refine A5 AR (l := [e_exa,e_flat,e_pbound,e_pbar,e_pprove,e_block,e_pcheck,e_paccept,e_pstops]) ((Ae Ahh (Ae Ae8 (Ae TG (Ae Wg (Ae qE (Ae XP (Ae HG (Ae bL (Ae TM As)))))))))) [] []  Try.func12 rfl (by decide +kernel) (N:=208) rfl (by simp) rfl (by kernel_rfl) fun hs=>?_
 simp only[AI]at hs
 have a1:=Ka (hn:=3) (ls:=exL) (us := []) (d:=exD 120) (y:=exY 0 2 4)
 have a2:=Ka (hn:=3) (ls:=exL) (us := []) (d:=exD 120) (y:=exY 4 2 0)
 have a3:=Ka (hn:=3) (ls:=exL) (us := []) (d:=exD 120) (y := [[0,2,6],[0,2,6],[0,2,5],[0,2,6]])
 have a4:=KU (hn:=3) (ls:=exL) (us := []) (d:=exD 120) (ts := [5,9,9])
 have a5:=KU (hn:=3) (ls:=exL) (us := []) (d:=exD 120) (ts := [5,6,9])
 have a6:=KU (hn:=3) (ls:=exL) (us := []) (d:=exD 120) (ts := [5,6,8])
 have a7:=TY (hn:=3) (ls:=exL) (us := []) (d:=exD 120)
 have a8:=TY (hn:=3) (ls:=exL) (us := []) (d:=exD 231)
 have a9:=XM (hn:=3) (ls:=exL) (us := []) (d:=exD 231)
 have b1:=BJ (hn:=3) (ls:=exL) (us := []) (d:=exD 120)
 have b2:=BJ (hn:=3) (ls:=exL) (us := []) (d:=exD 4194305)
 have b3:=Ie (hn:=3) (ls:=exL) (us := []) (d:=exD 120) (l:=exB) (y:=exY 0 2 4)
 have b4:=Ie (hn:=3) (ls:=exL) (us := []) (d:=exD 120) (l:=exA) (y:=exY 0 2 4)
 have b5:=Ie (hn:=3) (ls:=exL) (us := []) (d:=exD 120) (l:=exB) (y:=exY 0 0 0)
 have b6:=Ie (hn:=3) (ls:=exL) (us := []) (d:=exD 120) (l:=C6 3 exL [] (exD 120)) (y:=D9 3 exL [] (exD 120))
 have b7:=HL (hn:=3) (ls:=exL) (us := []) (d:=exD 120) (ts := [5,6,9])
 have b8:=HL (hn:=3) (ls:=exL) (us := []) (d:=exD 231) (ts := [5,6,9])
 have b9:=HL (hn:=3) (ls:=exL) (us := []) (d:=exD 231) (ts:=F6 3 exL [] (exD 231))
 have e1:HN 3 exL [] (exD 120)=0:=by unfold HN;rw[if_neg (fun g=>g QY),pY]
 have e2:HN 3 exL [] (exD 231)=21:=by unfold HN;rw[if_neg (fun g=>g QZ),Ae2]
 rw [v_bnd1.1,v_bnd1.2]at a1
 rw [v_bnd2.1,v_bnd2.2]at a2
 rw [Aex]at a3
 rw [v_bar1.1,v_bar1.2]at a4
 rw [v_bar2.1,v_bar2.2]at a5
 rw [Aey]at a6
 rw [if_pos (fun _=>by decide),e1,if_pos rfl,if_pos rfl]at a7
 rw [if_pos (fun _=>by decide),e2,if_neg (by decide),if_neg (by decide)]at a8
 rw [Ae9,if_pos rfl]at a9
 rw [QY]at b1
 rw [Aew]at b2
 rw [Aez]at b3
 rw [Ae0]at b4
 rw [Ae1]at b5
 rw [decide_eq_true Ae3]at b6
 rw [v_bar2.1,v_bar2.2]at b7
 rw [v_bar4.1,v_bar4.2]at b8
 rw [decide_eq_true (show E9 3 exL [] (exD 231) (F6 3 exL [] (exD 231))=0∧Fg 3 exL [] (exD 231) (F6 3 exL [] (exD 231))<(exD 231).2.2.1 from Ahd)]at b9
 rw [show decide ((0:Int)=0∧(230:Int)<(exD 120).2.2.1)=false from rfl]at b7
 rw [show decide ((0:Int)=0∧(230:Int)<(exD 231).2.2.1)=true from rfl]at b8
 generalize C6 3 exL [] (exD 120)=cl at *
 generalize D9 3 exL [] (exD 120)=pl at *
 generalize F6 3 exL [] (exD 231)=bl at *
 generalize J7 3 exL [] (exD 120) [[0,2,6],[0,2,6],[0,2,5],[0,2,6]]=x1 at *
 generalize Fg 3 exL [] (exD 120) [5,6,8]=x2 at *
 have f1:=Wj (l := [0,2,4])
 have f2:=Wj (l := [4,2,0])
 have f3:=Wj (l := [0,0,0])
 have f4:=qF (b:=120)
 have f5:=qF (b:=231)
 have f6:=qF (b:=4194305)
 rw [if_pos (.inl rfl)]at f4
 rw [if_pos (.inr (.inl rfl))]at f5
 rw [if_pos (.inr (.inr rfl))]at f6
 dsimp only[Az,AB,Ff,ints,exV,exD,exY,exA,exB,GQ]at a1 a2 a3 a4 a5 a6 a7 a8 a9 b1 b2 b3 b4 b5 b6 b7 b8 b9 f1 f2 f3 f4 f5 f6
 simp only[ints,List.map_cons,List.map_nil]at a1 a2 a3 a4 a5 a6 a7 a8 a9 b1 b2 b3 b4 b5 b6 b7 b8 b9 f1 f2 f3
 simp +contextual (maxSteps:=4000000) only[↓bdD,bdP,Nat.reduceLT,Nat.reduceBEq,Ag,Nat.reduceEqDiff,Nat.reduceAdd,Nat.reduceMul,Nat.reduceLeDiff,st0,Store.new,Store.set,↓reduceIte,e_exa,e_flat,e_pbound,e_pbar,e_pprove,e_block,e_pcheck,e_paccept,e_pstops,Ac,Ab,Nat.mul_one,Dn,Try.f12,ty3,AF,Bl,By,AX,BZ,f1,f2,f3,f4,f5,f6,a1,a2,a3,a4,a5,a6,a7,a8,a9,b1,b2,b3,b4,b5,b6,b7,b8,b9]
theorem qN:T6:=qL qM
end Sim
namespace Sim
open Go Go.ChangeShapes Go.WideShapes Go.ChangeAt Go.RowKit Go.Proofs
theorem RdC.conv {P:Program} {w:World} {t:TypeId} {α β:Type} {f:α→PV} {q:α→Prop} (h:RdC P w t f q) (g:β→PV) (q':β→Prop) (hc:∀a,q a→∃b,q' b∧g b=f a):RdC P w t g q':=fun enc bs spare held fuel cs x hx=>by
 obtain ⟨a,h1,h2⟩:=h enc bs spare held fuel cs x hx
 obtain ⟨b,h3,h4⟩:=hc a h1
 exact ⟨b,h3,by rw[h4];exact h2⟩
theorem Ahi {P:Program} {w:World} {k:IntKind} {cs:List Value} {n:Nat} (hl:cs.length=n) (h:∀i,i<n→∃(H:Type) (enc:TypeId×Value→H) (bs:Nat) (spare:Nat→Bool) (held:Bool) (m:Nat) (e:TypeId) (x:DataW H×List MemPlace),P.underlying e=some (.int k)∧DataW.trod enc P w bs spare held m e ((cs.drop i).take 1)=some x) :
  ∃ l:List Int,l.length=n∧(∀a∈l,(Lit.int k a).wf=true)∧(∀c∈l.map (PV.int k),c.isCell=true)∧∀(j:Nat) (c:PV),(l.map (PV.int k))[j]?=some c→VR (base (full w) w) (cs.getD j undef) c:=by
 obtain ⟨l,h1,h2⟩:=Fq (Q:=fun i (a:Int)=>(Lit.int k a).wf=true∧VR (base (full w) w) (cs.getD i undef) (.int k a)) n fun i hi=>by
  obtain ⟨H,enc,bs,spare,held,m,e,x,he,hx⟩:=h i hi
  obtain ⟨a,h1,_,_,h4⟩:=RdC.int he enc bs spare held m _ x hx
  refine ⟨a,h1,?_⟩
  have := h4 0 _ rfl
  rwa [List.getD_eq_getElem?_getD,List.getElem?_take_of_lt (by omega),List.getElem?_drop,Nat.add_zero,←List.getD_eq_getElem?_getD]at this
 refine ⟨l,h1,fun a ha=>?_,fun c hc=>?_,fun j c hj=>?_⟩
 ·obtain ⟨i,hi,rfl⟩:=List.getElem_of_mem ha
  exact (h2 i hi).1
 ·obtain ⟨a,_,rfl⟩:=List.mem_map.1 hc
  rfl
 ·rw [List.getElem?_map,Option.map_eq_some_iff]at hj
  obtain ⟨a,ha,rfl⟩:=hj
  obtain ⟨hi,rfl⟩:=List.getElem?_eq_some_iff.1 ha
  exact (h2 j hi).2
theorem RdC.arrayI {P:Program} {w:World} {t e:TypeId} {n:Nat} {k:IntKind} (ht:P.underlying t=some (.array n e)) (hn:P.cellsOf t=n) (hc:P.cellsOf e=1) (he:P.underlying e=some (.int k)) :
  RdC P w t (fun l:List Int=>.agg (l.map (PV.int k))) (fun l=>l.length=n∧∀a∈l,(Lit.int k a).wf=true):=by
 intro H enc bs spare held fuel cs x h
 obtain ⟨xs,m,_,_,hl,hlen,hf⟩:=DataW.trod_array ht h
 rw [hn]at hl
 obtain ⟨l,h1,h2,h3,h4⟩:=Ahi (P:=P) (w:=w) (k:=k) hl fun i hi=>by
  have h5:=hf i hi
  rw [hc,Nat.mul_one,List.getElem?_eq_getElem (by omega)]at h5
  exact ⟨H,enc,bs,spare,held,m,e,_,he,h5⟩
 exact ⟨l,⟨h1,h2⟩,by simp[PV.cells,h1,hl],h3,h4⟩
theorem RdC.structI {P:Program} {w:World} {t:TypeId} {fs:Array Field} {k:IntKind} (ht:P.underlying t=some (.struct fs)) (hn:P.cellsOf t=fs.size) (hf:∀(i:Nat) (f:Field),fs[i]?=some f→f.offset=i∧P.cellsOf f.type=1∧P.underlying f.type=some (.int k)) :
  RdC P w t (fun l:List Int=>.agg (l.map (PV.int k))) (fun l=>l.length=fs.size∧∀a∈l,(Lit.int k a).wf=true):=by
 intro H enc bs spare held fuel cs x h
 obtain ⟨xs,m,_,_,hl,hlen,hg⟩:=DataW.trod_struct ht h
 rw [hn]at hl
 obtain ⟨l,h1,h2,h3,h4⟩:=Ahi (P:=P) (w:=w) (k:=k) hl fun i hi=>by
  obtain ⟨f1,f2,f3⟩:=hf i fs[i] (by simp[hi])
  have h5:=hg i fs[i] (by simp[hi])
  rw [f1,f2,List.getElem?_eq_getElem (by omega)]at h5
  exact ⟨H,enc,bs,spare,held,m,_,_,f3,h5⟩
 exact ⟨l,⟨h1,h2⟩,by simp[PV.cells,h1,hl],h3,h4⟩
theorem RdC.argS {P:Program} {w:World} {t:TypeId} (ht:(∃fs,P.underlying t=some (.struct fs))∨∃n e,P.underlying t=some (.array n e)) {α:Type} {l:α→List PV} {q:α→Prop} (h:RdC P w t (fun a=>.agg (l a)) q) {H:Type} {enc:TypeId×Value→H} {bs b0:Nat} {spare:Nat→Bool} {held:Bool} {v:Value} {d:DataW H} {ps:List MemPlace}
  (hval : Value.okWide P w .any b0 t v) (hd:DataW.Trod enc P w bs spare held t v d ps):∃a,q a∧VR (base (full w) w) v (.agg (l a)):=by
 unfold Value.okWide at hval
 have key:∃cs,v=.agg cs:=by
  rcases ht with ⟨fs,ht⟩ | ⟨n,e,ht⟩
  ·rw [ht]at hval;obtain⟨cs,rfl,_⟩:=hval;exact⟨cs,rfl⟩
  ·rw [ht]at hval;obtain⟨cs,rfl,_⟩:=hval;exact⟨cs,rfl⟩
 obtain ⟨cs,rfl⟩:=key
 obtain ⟨fuel,hd⟩:=hd
 obtain ⟨a,qa,h1,h2,h3⟩:=h enc bs spare held fuel _ _ hd
 refine ⟨a,qa,.agg cs _ ?_ h2 fun i p hp=>?_⟩
 ·have h4:(l a).length=cs.toList.length:=h1
  rw [Array.length_toList]at h4;exact h4.symm
 ·have := h3 i p hp
  have e:(Value.agg cs).cells.toList.getD i undef=cs.getD i undef:=by
   simp [Value.cells,Array.getD_eq_getD_getElem?,List.getD_eq_getElem?_getD]
  rwa [e]at this
theorem RdC.any {P:Program} {w:World} {t:TypeId} {α:Type} {f:α→PV} {q:α→Prop} (h:RdC P w t f q):RdC P w t f (fun _=>True):=fun enc bs spare held fuel cs x hx=>by
 obtain ⟨a,_,h1⟩:=h enc bs spare held fuel cs x hx
 exact ⟨a,trivial,h1⟩
theorem Ahj:ownKnob Try.prog.godebug=Option.none:=by kernel_rfl
theorem Afa:Kids Try.prog (· < Try.prog.types.size):=kids_rows (by kernel_rfl) (by kernel_rfl)
theorem zB:((List.range Try.prog.types.size).all fun t=>match Try.prog.underlying t with | some (.slice e)=>decide (0<Try.prog.cellsOf e) | _=>true)=true:=by kernel_rfl
theorem Afb:∀t e,t<Try.prog.types.size→Try.prog.underlying t=some (.slice e)→0<Try.prog.cellsOf e:=fun t e ht hu=>by
 have := List.all_eq_true.1 zB t (List.mem_range.2 ht)
 rw [hu]at this
 simpa using this
theorem r3 (W:World):RdC Try.prog W 3 (fun n:Int=>I n) (fun _=>True):=RdC.any (RdC.int Try.underlying3)
theorem r69 (W:World):RdC Try.prog W 69 (fun a:Snd=>GQ a) (fun _=>True):=by
 have h:=@RdC.structI Try.prog W 69 _ .i64 Try.underlying69 (by kernel_rfl) (fun i f h=>by
  match i,h with
  | 0,h=>simp at h;subst h;exact⟨rfl,by kernel_rfl,Try.underlying3⟩
  | 1,h=>simp at h;subst h;exact⟨rfl,by kernel_rfl,Try.underlying3⟩
  | 2,h=>simp at h;subst h;exact⟨rfl,by kernel_rfl,Try.underlying3⟩
  | i+3,h=>simp at h)
 refine @RdC.conv Try.prog W 69 (List Int) Snd _ _ h (fun a:Snd=>GQ a) (fun _=>True) ?_
 rintro l ⟨hl,_⟩
 match l,hl with
 | [a,b,c],_=>exact⟨(a,b,c),trivial,rfl⟩
theorem r27 (W:World):RdC Try.prog W 27 (fun a:Dem=>B3 a) (fun _=>True):=by
 have h:=@RdC.structI Try.prog W 27 _ .i64 Try.underlying27 (by kernel_rfl) (fun i f h=>by
  match i,h with
  | 0,h=>simp at h;subst h;exact⟨rfl,by kernel_rfl,Try.underlying3⟩
  | 1,h=>simp at h;subst h;exact⟨rfl,by kernel_rfl,Try.underlying3⟩
  | 2,h=>simp at h;subst h;exact⟨rfl,by kernel_rfl,Try.underlying3⟩
  | 3,h=>simp at h;subst h;exact⟨rfl,by kernel_rfl,Try.underlying3⟩
  | 4,h=>simp at h;subst h;exact⟨rfl,by kernel_rfl,Try.underlying3⟩
  | i+5,h=>simp at h)
 refine @RdC.conv Try.prog W 27 (List Int) Dem _ _ h (fun a:Dem=>B3 a) (fun _=>True) ?_
 rintro l ⟨hl,_⟩
 match l,hl with
 | [a,b,c,d,e],_=>exact⟨(a,b,c,d,e),trivial,rfl⟩
theorem r60 (W:World):RdC Try.prog W 60 (fun l:List Int=>.agg (l.map (PV.int .i64))) (fun l=>l.length=24):=by
 have h:=@RdC.arrayI Try.prog W 60 _ _ .i64 Try.underlying60 (by kernel_rfl) (by kernel_rfl) Try.underlying3
 exact @RdC.conv Try.prog W 60 (List Int) (List Int) _ _ h _ _ fun l h=>⟨l,h.1,rfl⟩
theorem d3 (W:World):RdD Try.prog W 3 (fun n:Int=>I n) (fun _ _ _=>True):=fun enc bs spare held fuel cs x hx=>r3 W enc bs spare held fuel cs x hx
theorem d60 (W:World):RdD Try.prog W 60 (fun l:List Int=>.agg (l.map (PV.int .i64))) (fun l _ _=>l.length=24):=fun enc bs spare held fuel cs x hx=>r60 W enc bs spare held fuel cs x hx
theorem Pa {l:List Int} (h:l.length=24):List.ofFn (fun i:Fin 24=>l.getD i.1 0)=l:=by
 apply List.ext_getElem
 ·simp [h]
 ·intro i h1 h2
  rw [List.getElem_ofFn,List.getD_eq_getElem?_getD,List.getElem?_eq_getElem h2];rfl
theorem r62 (W:World):RdC Try.prog W 62 (fun a:Lnk=>VX a) (fun _=>True):=by
 intro H enc bs spare held fuel cs x h
 have hcell:Try.prog.cellsOf 62=50:=by kernel_rfl
 have k3:Try.prog.cellsOf 3=1:=by kernel_rfl
 have k60:Try.prog.cellsOf 60=24:=by kernel_rfl
 obtain ⟨xs,n,_,hx,hl,hlen,hf⟩:=DataW.trod_struct Try.underlying62 h
 rw [hcell]at hl
 match xs,hlen with
 | [y0,y1,y2,y3],_ =>
  have f0:DataW.trod enc Try.prog W bs spare held n 3 ((cs.drop 0).take (Try.prog.cellsOf 3))=some y0:=hf 0 _ rfl
  have f1:DataW.trod enc Try.prog W bs spare held n 3 ((cs.drop 1).take (Try.prog.cellsOf 3))=some y1:=hf 1 _ rfl
  have f2:DataW.trod enc Try.prog W bs spare held n 60 ((cs.drop 2).take (Try.prog.cellsOf 60))=some y2:=hf 2 _ rfl
  have f3:DataW.trod enc Try.prog W bs spare held n 60 ((cs.drop 26).take (Try.prog.cellsOf 60))=some y3:=hf 3 _ rfl
  rw [k3]at f0 f1
  rw [k60]at f2 f3
  obtain ⟨a,_,_,p0⟩:=RdD.part (f:=fun n:Int=>I n) (q:=fun _ _ _=>True) (d3 W) (cs:=cs) (o:=0) (n:=1) (by omega) f0
  obtain ⟨b,_,_,p1⟩:=RdD.part (f:=fun n:Int=>I n) (q:=fun _ _ _=>True) (d3 W) (cs:=cs) (o:=1) (n:=1) (by omega) f1
  obtain ⟨l2,g2,_,p2⟩:=RdD.part (f:=fun l:List Int=>.agg (l.map (PV.int .i64))) (q:=fun l _ _=>l.length=24) (d60 W) (cs:=cs) (o:=2) (n:=24) (by omega) f2
  obtain ⟨l3,g3,_,p3⟩:=RdD.part (f:=fun l:List Int=>.agg (l.map (PV.int .i64))) (q:=fun l _ _=>l.length=24) (d60 W) (cs:=cs) (o:=26) (n:=24) (by omega) f3
  have hc:lkC (a,b,fun i=>l2.getD i.1 0,fun i=>l3.getD i.1 0) = [I a]++([I b]++(l2.map (PV.int .i64)++l3.map (PV.int .i64))):=by
   simp only[lkC,Pa g2,Pa g3];rfl
  have p0:Part W cs 0 [I a]:=p0
  have p1:Part W cs 1 [I b]:=p1
  have p2:Part W cs 2 (l2.map (PV.int .i64)):=p2
  have p3:Part W cs 26 (l3.map (PV.int .i64)):=p3
  have e26:2+(l2.map (PV.int .i64)).length=26:=by simp[g2]
  have hp:Part W cs 0 (lkC (a,b,fun i=>l2.getD i.1 0,fun i=>l3.getD i.1 0)):=by
   rw [hc]
   exact p0.append (p1.append (p2.append (by
    rw [e26]
    exact p3)))
  refine ⟨(a,b,fun i=>l2.getD i.1 0,fun i=>l3.getD i.1 0),trivial,?_,hp.1,fun j c hj=>?_⟩
  ·simp only[PV.cells,BO];exact hl.symm
  ·have := hp.2 j c hj
   rwa [Nat.zero_add]at this
theorem r25 (W:World):RdC Try.prog W 25 (fun l:List Snd=>AB l) (fun _=>True):=RdC.any (RdC.slice Try.underlying25 (by kernel_rfl) (by decide) (r69 W))
theorem r22 (W:World):RdC Try.prog W 22 (fun l:List Lnk=>Az l) (fun _=>True):=RdC.any (RdC.slice Try.underlying22 (by kernel_rfl) (by decide) (r62 W))
theorem r24 (W:World):RdC Try.prog W 24 (fun a:Int×List Lnk=>.agg [I a.1,Az a.2]) (fun _=>True) :=
 RdC.any (RdC.struct2 Try.underlying24 (by kernel_rfl) ⟨rfl,rfl⟩ ⟨by kernel_rfl,by kernel_rfl⟩ (r3 W) (r22 W) (fun _=>rfl) (fun _=>rfl))
section
variable {W:World} {b0 bs:Nat} {H:Type} {enc:TypeId×Value→H} {spare:Nat→Bool} {held:Bool} {v:Value} {d:DataW H} {ps:List MemPlace}
end
section
variable {W:World} {b0 bs:Nat} {H:Type} {enc:TypeId×Value→H} {spare:Nat→Bool} {held:Bool} {v:Value} {d:DataW H} {ps:List MemPlace}
end
theorem d24 (W:World):RdD Try.prog W 24 (fun a:Int×List Lnk=>.agg [I a.1,Az a.2]) (fun _ _ _=>True):=fun enc bs spare held fuel cs x hx=>r24 W enc bs spare held fuel cs x hx
theorem d25 (W:World):RdD Try.prog W 25 (fun l:List Snd=>AB l) (fun _ _ _=>True):=fun enc bs spare held fuel cs x hx=>r25 W enc bs spare held fuel cs x hx
theorem d27 (W:World):RdD Try.prog W 27 (fun a:Dem=>B3 a) (fun _ _ _=>True):=fun enc bs spare held fuel cs x hx=>r27 W enc bs spare held fuel cs x hx
theorem r43 (W:World):RdC Try.prog W 43 (fun l:List Int=>ints l) (fun _=>True):=RdC.any (RdC.slice Try.underlying43 (by kernel_rfl) (by decide) (r3 W))
abbrev frC (a:(Int×List Lnk)×List Snd×Dem):List PV := [I a.1.1,Az a.1.2,AB a.2.1,I a.2.2.1,I a.2.2.2.1,I a.2.2.2.2.1,I a.2.2.2.2.2.1,I a.2.2.2.2.2.2]
theorem r29 (W:World):RdC Try.prog W 29 (fun a:(Int×List Lnk)×List Snd×Dem=>.agg (frC a)) (fun _=>True):=by
 intro H enc bs spare held fuel cs x h
 have hcell:Try.prog.cellsOf 29=8:=by kernel_rfl
 have k24:Try.prog.cellsOf 24=2:=by kernel_rfl
 have k25:Try.prog.cellsOf 25=1:=by kernel_rfl
 have k27:Try.prog.cellsOf 27=5:=by kernel_rfl
 obtain ⟨xs,n,_,hx,hl,hlen,hf⟩:=DataW.trod_struct Try.underlying29 h
 rw [hcell]at hl
 match xs,hlen with
 | [y0,y1,y2],_ =>
  have f0:DataW.trod enc Try.prog W bs spare held n 24 ((cs.drop 0).take (Try.prog.cellsOf 24))=some y0:=hf 0 _ rfl
  have f1:DataW.trod enc Try.prog W bs spare held n 25 ((cs.drop 2).take (Try.prog.cellsOf 25))=some y1:=hf 1 _ rfl
  have f2:DataW.trod enc Try.prog W bs spare held n 27 ((cs.drop 3).take (Try.prog.cellsOf 27))=some y2:=hf 2 _ rfl
  rw [k24]at f0
  rw [k25]at f1
  rw [k27]at f2
  obtain ⟨a,_,_,p0⟩:=RdD.part (f:=fun a:Int×List Lnk=>.agg [I a.1,Az a.2]) (q:=fun _ _ _=>True) (d24 W) (cs:=cs) (o:=0) (n:=2) (by omega) f0
  obtain ⟨b,_,_,p1⟩:=RdD.part (f:=fun l:List Snd=>AB l) (q:=fun _ _ _=>True) (d25 W) (cs:=cs) (o:=2) (n:=1) (by omega) f1
  obtain ⟨c,_,_,p2⟩:=RdD.part (f:=fun a:Dem=>B3 a) (q:=fun _ _ _=>True) (d27 W) (cs:=cs) (o:=3) (n:=5) (by omega) f2
  have p0:Part W cs 0 [I a.1,Az a.2]:=p0
  have p1:Part W cs 2 [AB b]:=p1
  have p2:Part W cs 3 [I c.1,I c.2.1,I c.2.2.1,I c.2.2.2.1,I c.2.2.2.2]:=p2
  have hp:Part W cs 0 (frC (a,b,c)):=p0.append (p1.append p2)
  refine ⟨(a,b,c),trivial,?_,hp.1,fun j e hj=>?_⟩
  ·show 8=_;exact hl.symm
  ·have := hp.2 j e hj
   rwa [Nat.zero_add]at this
section
variable {W:World} {b0 bs:Nat} {H:Type} {enc:TypeId×Value→H} {spare:Nat→Bool} {held:Bool} {v:Value} {d:DataW H} {ps:List MemPlace}
theorem T7 (hval:Value.okWide Try.prog W .any b0 29 v) (hd:DataW.Trod enc Try.prog W bs spare held 29 v d ps):∃(hn:Int) (ls:List Lnk) (us:List Snd) (d:Dem),VR (base (full W) W) v (.agg [I hn,Az ls,AB us,I d.1,I d.2.1,I d.2.2.1,I d.2.2.2.1,I d.2.2.2.2]):=by
 obtain ⟨a,_,h⟩:=RdC.argS (l:=frC) (.inl ⟨_,Try.underlying29⟩) (r29 W) hval hd
 exact ⟨a.1.1,a.1.2,a.2.1,a.2.2,h⟩
theorem qO (hval:Value.okWide Try.prog W .any b0 43 v) (hd:DataW.Trod enc Try.prog W bs spare held 43 v d ps):∃l,VR (base (full W) W) v (ints l):=by
 obtain ⟨a,_,h⟩:=RdC.arg (f:=fun l:List Int=>ints l) Try.underlying43 (r43 W) (fun _=>rfl) hval hd
 exact ⟨a,h⟩
end
end Sim
namespace Sim
open Go Go.Proofs
attribute [local congr] An Ao Al AC Aq Ap Av
def zC:Prop:=∀(hn:Int) (ls:List Lnk) (us:List Snd) (d:Dem) (ts:List Int) ,VC Try.prog 9 [.agg [I hn,Az ls,AB us,I d.1,I d.2.1,I d.2.2.1,I d.2.2.2.1,I d.2.2.2.2],ints ts] (B true)
theorem zD:zC:=by
 intro hn ls us d ts
 refine A5 AR (l := [e_few,e_sanity,e_rpcheck,e_most,e_cheap,e_pbar,e_pstops,e_block]) ((Ae Agy (Ae qN (Ae bE (Ae Adg (Ae Xw (Ae Wg (Ae TM (Ae XP As))))))))) [] []  Try.func9 rfl (by decide +kernel) (N:=143) rfl (by simp) rfl (by kernel_rfl) fun hs=>?_
 simp only[AI,PV.small,List.length_map,and_true,true_and]at hs
 by_cases g1:nC hn ls us d 12=true
 case neg=>simp +contextual (maxSteps:=4000000) only[↓bdD,bdP,Nat.reduceLT,Nat.reduceBEq,Ag,Nat.reduceEqDiff,Nat.reduceAdd,st0,↓reduceIte,e_few,HH,e_sanity,C8,e_rpcheck,e_most,e_cheap,e_pbar,e_pstops,e_block,Ac,Ab,Try.f9,ty3,Bl,g1]
 by_cases g3:20<ts.length
 ·have g3i:(20:Int)<(ts.length:Int):=by omega
  simp +contextual (maxSteps:=4000000) only[↓bdD,bdP,Nat.reduceLT,Nat.reduceBEq,Ag,Nat.reduceEqDiff,Nat.reduceAdd,st0,↓reduceIte,e_few,HH,e_sanity,C8,e_rpcheck,e_most,e_cheap,e_pbar,e_pstops,e_block,Ac,Ab,Try.f9,ty3,Bl,AX,g1,g3i]
 have g3i:¬(20:Int)<(ts.length:Int):=by omega
 by_cases h1:CN hn ls us d=0
 case neg=>simp +contextual (maxSteps:=4000000) only[↓bdD,bdP,Nat.reduceLT,Nat.reduceBEq,Ag,Nat.reduceEqDiff,Nat.reduceAdd,st0,↓reduceIte,e_few,HH,e_sanity,C8,e_rpcheck,De,e_most,e_cheap,e_pbar,e_pstops,e_block,Ac,Ab,Try.f9,ty3,Bl,AX,g1,g3i,h1]
 obtain ⟨hfk,hb4⟩:=pck_zero.1 h1
 have hm:=I8 hfk
 have h21:Dx hn ls us d≠0→Dx hn ls us d=21:=fun h=>(I7 hfk h).1
 have hb:=@TU hn ls us d ts
 have hblk:=@XH hn ls us d h1
 have hE:HR hn ls us d=if d.1=d.2.1 then 8 else 0:=by unfold HR;rw[if_neg (fun g=>g h1)]
 have sk:=XM (hn:=hn) (ls:=ls) (us:=us) (d:=d)
 have sc:=QH (hn:=hn) (ls:=ls) (us:=us) (d:=d)
 have sm:=Adc (hn:=hn) (ls:=ls) (us:=us) (d:=d)
 rw [hfk]at sm
 have sb:=KU (hn:=hn) (ls:=ls) (us:=us) (d:=d) (ts:=ts)
 have ss:=HL (hn:=hn) (ls:=ls) (us:=us) (d:=d) (ts:=ts)
 have sb2:=KU (hn:=hn) (ls:=ls) (us:=us) (d:=d) (ts:=F6 hn ls us d)
 have ss2:=HL (hn:=hn) (ls:=ls) (us:=us) (d:=d) (ts:=F6 hn ls us d)
 generalize E9 hn ls us d ts=e1 at *
 generalize Fg hn ls us d ts=m1 at *
 generalize E9 hn ls us d (F6 hn ls us d)=e2 at *
 generalize Fg hn ls us d (F6 hn ls us d)=m2 at *
 generalize F6 hn ls us d=bl at *
 generalize HR hn ls us d=be at *
 generalize E8 hn ls us d=mo at *
 generalize Dx hn ls us d=ce at *
 generalize C6 hn ls us d=cl at *
 dsimp only[Az,AB,B3]at sk sc sm sb ss sb2 ss2
 have hst:∀(e m:Int),decide (e=0∧m<d.2.2.1)=(decide (e=0)&&decide (m<d.2.2.1)):=fun e m=>by
  by_cases a:e=0 <;> by_cases b:m<d.2.2.1 <;> simp[a,b]
 rw [hst]at ss ss2
 have c1:(¬e1=0)∨(e1=0∧¬m1<mo∧m1<d.2.2.1∧ce=21)∨(e1=0∧¬m1<mo∧¬m1<d.2.2.1):=by
  by_cases a:e1=0
  ·have := hb a
   by_cases b:m1<d.2.2.1
   ·exact .inr (.inl ⟨a,by omega,b,h21 fun h=>by have:=hm.1 h;omega⟩)
   ·exact .inr (.inr ⟨a,by omega,b⟩)
  ·exact .inl a
 have c2:(d.1=d.2.1∧be=8)∨(d.1≠d.2.1∧be=0∧e2=0∧(if (1099511627776:Int)<m2 then 1099511627776 else m2)=mo∧((ce=0∧¬m2<d.2.2.1)∨(ce=21∧m2<d.2.2.1))):=by
  by_cases a:d.1=d.2.1
  ·exact .inl ⟨a,by rw[hE,if_pos a]⟩
  ·obtain ⟨k1,k2⟩:=hblk a
   have k3:(if (1099511627776:Int)<m2 then 1099511627776 else m2)=mo:=by split <;> omega
   refine .inr ⟨a,by rw[hE,if_neg a],k1,k3,?_⟩
   by_cases c:ce=0
   ·have := hm.1 c
    exact .inl ⟨c,by omega⟩
   ·have : ¬d.2.2.1≤mo:=fun g=>c (hm.2 g)
    exact .inr ⟨h21 c,by omega⟩
 clear hm h21 hb hblk hE
 rcases c2 with ⟨f1,f2⟩ | ⟨f1,f2,f3,f4,f5⟩
 ·have f0:(d.1=d.2.1)=True:=eq_true f1
  rw [f2,if_neg (by decide)]at sk
  rcases c1 with a | ⟨a,b,c,e⟩ | ⟨a,b,c⟩
  ·rw [decide_eq_false a,Bool.false_and]at ss
   simp +contextual (maxSteps:=4000000) only[↓bdD,bdP,Nat.reduceLT,Nat.reduceBEq,Ag,Nat.reduceEqDiff,Nat.reduceAdd,Nat.reduceLeDiff,st0,↓reduceIte,e_few,HH,e_sanity,C8,e_rpcheck,De,e_most,e_cheap,e_pbar,e_pstops,e_block,Ac,Ab,Try.f9,ty3,ty4,Au,AF,AP,Bl,AX,g1,g3i,h1,sk,sc,sm,sb,ss,f0,a]
  ·rw [a]at sb ss
   rw [decide_eq_true (rfl:(0:Int)=0),decide_eq_true c,Bool.true_and]at ss
   rw [e]at sc
   simp +contextual (maxSteps:=4000000) only[↓bdD,bdP,Nat.reduceLT,Nat.reduceBEq,Ag,Nat.reduceEqDiff,Nat.reduceAdd,Nat.reduceLeDiff,st0,↓reduceIte,e_few,HH,e_sanity,C8,e_rpcheck,De,e_most,e_cheap,e_pbar,e_pstops,e_block,Ac,Ab,Try.f9,ty3,ty4,Au,AF,AP,Bl,AX,g1,g3i,h1,sk,sc,sm,sb,ss,f0,b,c]
  ·rw [a]at sb ss
   rw [decide_eq_true (rfl:(0:Int)=0),decide_eq_false c,Bool.true_and]at ss
   simp +contextual (maxSteps:=4000000) only[↓bdD,bdP,Nat.reduceLT,Nat.reduceBEq,Ag,Nat.reduceEqDiff,Nat.reduceAdd,Nat.reduceLeDiff,st0,↓reduceIte,e_few,HH,e_sanity,C8,e_rpcheck,De,e_most,e_cheap,e_pbar,e_pstops,e_block,Ac,Ab,Try.f9,ty3,ty4,Au,AF,AP,Bl,AX,g1,g3i,h1,sk,sc,sm,sb,ss,f0,b,c]
 ·rw [f2,if_pos rfl]at sk
  rw [f3]at sb2 ss2
  rw [decide_eq_true (rfl:(0:Int)=0),Bool.true_and]at ss2
  rcases f5 with ⟨f5,f6⟩ | ⟨f5,f6⟩
  ·rw [decide_eq_false f6]at ss2
   rw [f5]at sc c1
   rcases c1 with a | ⟨a,b,c,e⟩ | ⟨a,b,c⟩
   ·rw [decide_eq_false a,Bool.false_and]at ss
    simp +contextual (maxSteps:=4000000) only[↓bdD,bdP,Nat.reduceLT,Nat.reduceBEq,Ag,Nat.reduceEqDiff,Nat.reduceAdd,Nat.reduceLeDiff,Int.reduceEq,st0,↓reduceIte,e_few,HH,e_sanity,C8,e_rpcheck,De,e_most,e_cheap,e_pbar,e_pstops,e_block,Ac,Ab,Try.f9,ty3,ty4,Au,AF,AP,Bl,AX,g1,g3i,h1,sk,sc,sm,sb,ss,sb2,ss2,f1,f4,a]
   ·exact absurd e (by decide)
   ·rw [a]at sb ss
    rw [decide_eq_true (rfl:(0:Int)=0),decide_eq_false c,Bool.true_and]at ss
    simp +contextual (maxSteps:=4000000) only[↓bdD,bdP,Nat.reduceLT,Nat.reduceBEq,Ag,Nat.reduceEqDiff,Nat.reduceAdd,Nat.reduceLeDiff,Int.reduceEq,st0,↓reduceIte,e_few,HH,e_sanity,C8,e_rpcheck,De,e_most,e_cheap,e_pbar,e_pstops,e_block,Ac,Ab,Try.f9,ty3,ty4,Au,AF,AP,Bl,AX,g1,g3i,h1,sk,sc,sm,sb,ss,sb2,ss2,f1,f4,b,c]
  ·rw [decide_eq_true f6]at ss2
   rw [f5]at sc c1
   rcases c1 with a | ⟨a,b,c,e⟩ | ⟨a,b,c⟩
   ·rw [decide_eq_false a,Bool.false_and]at ss
    simp +contextual (maxSteps:=4000000) only[↓bdD,bdP,Nat.reduceLT,Nat.reduceBEq,Ag,Nat.reduceEqDiff,Nat.reduceAdd,Nat.reduceLeDiff,st0,↓reduceIte,e_few,HH,e_sanity,C8,e_rpcheck,De,e_most,e_cheap,e_pbar,e_pstops,e_block,Ac,Ab,Try.f9,ty3,ty4,Au,AF,AP,Bl,AX,g1,g3i,h1,sk,sc,sm,sb,ss,sb2,ss2,f1,f4,a]
   ·rw [a]at sb ss
    rw [decide_eq_true (rfl:(0:Int)=0),decide_eq_true c,Bool.true_and]at ss
    simp +contextual (maxSteps:=4000000) only[↓bdD,bdP,Nat.reduceLT,Nat.reduceBEq,Ag,Nat.reduceEqDiff,Nat.reduceAdd,Nat.reduceLeDiff,st0,↓reduceIte,e_few,HH,e_sanity,C8,e_rpcheck,De,e_most,e_cheap,e_pbar,e_pstops,e_block,Ac,Ab,Try.f9,ty3,ty4,Au,AF,AP,Bl,AX,g1,g3i,h1,sk,sc,sm,sb,ss,sb2,ss2,f1,f4,b,c]
   ·rw [a]at sb ss
    rw [decide_eq_true (rfl:(0:Int)=0),decide_eq_false c,Bool.true_and]at ss
    simp +contextual (maxSteps:=4000000) only[↓bdD,bdP,Nat.reduceLT,Nat.reduceBEq,Ag,Nat.reduceEqDiff,Nat.reduceAdd,Nat.reduceLeDiff,st0,↓reduceIte,e_few,HH,e_sanity,C8,e_rpcheck,De,e_most,e_cheap,e_pbar,e_pstops,e_block,Ac,Ab,Try.f9,ty3,ty4,Au,AF,AP,Bl,AX,g1,g3i,h1,sk,sc,sm,sb,ss,sb2,ss2,f1,f4,b,c]
end Sim
