/- What functions of this seat compute, by values: contracts (lemmas of the statement's proof, under the conditions that each names). -/
import Derived.Test.YtppljhpecoeakaaQXL
set_option maxRecDepth 10000
set_option maxHeartbeats 4000000
set_option linter.unusedVariables false
set_option linter.unusedSimpArgs false
namespace Sim
open Go Go.Proofs
attribute [local congr] Ap Aq Al AC As Ar Av
structure RX where
 row : Nat
 g : Nat
 i : Nat
 C : Nat
 by_ : Int
 vals : List Int
 ch : Bool
def GD (x:RX):List PV := [.ptr x.row x.g x.i 0,I x.by_,.ptr x.C 0 0 0]
def Ik (x:RX) (st:Store):Prop:=st.obj x.row=some (.arr x.g 1 (x.vals.map (PV.int .i64)))∧x.i<x.vals.length∧st.obj x.C=some (.arr 0 1 [.bool x.ch])∧x.row≠x.C
def EO (x:RX) (st:Store):PV×Store :=
 if x.by_<x.vals.getD x.i 0 then (.tuple [],⟨Aa (Aa st.obj x.row (some (.arr x.g 1 ((x.vals.set x.i x.by_).map (PV.int .i64))))) x.C (some (.arr 0 1 [.bool true])),st.next⟩)else (.tuple [],st)
noncomputable def e_relax:Nat×Ent:=(44,.x (Be GD Ik EO))
theorem Aad:AM Try.prog e_relax.1 e_relax.2:=Cx fun x st hx=>by
 obtain ⟨row,g,i,C,b,vals,ch⟩:=x
 obtain ⟨ob,M⟩:=st
 obtain ⟨h1,h2,h3,h4⟩:=hx
 dsimp only at h1 h2 h3 h4
 simp only[GD]
 have h4':¬row=C:=h4
 have h5:¬C=row:=fun e=>h4 e.symm
 have hset:(vals.set i b).map (PV.int .i64)=(vals.map (PV.int .i64)).set i (I b):=List.map_set
 have hlm:(vals.map (PV.int .i64)).length=vals.length:=List.length_map _
 refine Ch AP (l := []) (Ao) [] [] 0 Try.func44 rfl (by decide +kernel) (N:=13) rfl (by simp) rfl (by kernel_rfl) ?_
 by_cases c:b<vals.getD i 0
 ·simp only[EO,if_pos c,hset]
  simp +contextual (maxSteps:=4000000) only[↓bdD,bdP,Nat.reduceLT,Nat.reduceBEq,Ai,Nat.reduceAdd,Nat.reduceLeDiff,Store.set,↓reduceIte,Try.f44,ty3,ty4,h1,h2,h3,h5,c,hlm]
  exact ⟨_,rfl,Left.refl⟩
 ·simp only[EO,if_neg c]
  simp +contextual (maxSteps:=4000000) only[↓bdD,bdP,Nat.reduceLT,Nat.reduceBEq,Ai,Nat.reduceAdd,↓reduceIte,Try.f44,ty3,h1,h2,c]
  exact ⟨_,rfl,Left.refl⟩
theorem Aae (a b:RX) (st:Store) (h:GD a=GD b) (hx:Ik a st) (hy:Ik b st):EO a st=EO b st:=by
 obtain ⟨a1,a2,a3,a4,a5,a6,a7⟩:=a
 obtain ⟨b1,b2,b3,b4,b5,b6,b7⟩:=b
 simp only[GD,List.cons.injEq,PV.ptr.injEq,PV.int.injEq,true_and,and_true]at h
 obtain ⟨⟨rfl,rfl,rfl⟩,rfl,rfl⟩:=h
 obtain ⟨x1,x2,x3,x4⟩:=hx
 obtain ⟨y1,y2,y3,y4⟩:=hy
 dsimp only at x1 x3 y1 y3
 rw [x1]at y1
 simp only[Option.some.injEq,IObj.arr.injEq,true_and]at y1
 rw [DP]at y1
 subst y1
 rfl
theorem X6 (x:RX) {st:Store} (h:Ik x st):Be GD Ik EO [.ptr x.row x.g x.i 0,I x.by_,.ptr x.C 0 0 0] st=some (EO x st):=Bq Aae (i:=x) h
def BA (h:Nat) (f:Nat→Int):List Int:=(List.range h).map f
theorem CE {h:Nat} {f:Nat→Int}:(BA h f).length=h:=by simp[BA]
theorem Fx {h x:Nat} {f:Nat→Int} (hx:x<h):(BA h f).getD x 0=f x:=by simp[BA,hx]
theorem Fi {h x:Nat} {f:Nat→Int} {v:Int} (hx:x<h):(BA h f).set x v=BA h fun z=>if z=x then v else f z:=by
 refine List.ext_getElem (by simp[BA]) fun i h1 h2=>?_
 rw [List.getElem_set]
 simp only[BA,List.getElem_map,List.getElem_range]
 by_cases e:x=i
 ·rw [if_pos e,if_pos e.symm]
 ·rw [if_neg e,if_neg (fun g=>e g.symm)]
theorem Il {h x:Nat} {f:Nat→Int} {v:Int} (hx:x<h):((BA h f).map (PV.int .i64)).set x (A6 (nth ((BA h f).map (PV.int .i64)) x) 0 [I v])=(BA h fun z=>if z=x then v else f z).map (PV.int .i64):=by
 have e:nth ((BA h f).map (PV.int .i64)) x=I (f x):=by
  simp [nth,BA,hx]
 rw [e,show A6 (I (f x)) 0 [I v]=I v from rfl,←Fi hx,List.map_set]
theorem Im {h x:Nat} {f:Nat→Int} (hx:x<h):nth ((BA h f).map (PV.int .i64)) x=I (f x):=by
 simp [nth,BA,hx]
theorem Eb {h:Nat} {f g:Nat→Int} (e:∀x,x<h→f x=g x):BA h f=BA h g:=by
 unfold BA
 exact List.map_congr_left fun x hx=>e x (List.mem_range.1 hx)
def rwK (f:Nat→Nat) (D h k:Nat):List PV:=(List.range (D+1)).map fun t=>if t<k then .ref (f t) 0 0 h else .nils
theorem GF {f:Nat→Nat} {D h k:Nat}:(rwK f D h k).length=D+1:=by simp[rwK]
theorem DW {f:Nat→Nat} {D h k t:Nat} (ht:t≤D) (hk:t<k):nth (rwK f D h k) t=.ref (f t) 0 0 h:=by
 simp [rwK,nth,show t<D+1 by omega,hk]
theorem Aaf {f:Nat→Nat} {D h k m:Nat} (hk:k≤D):(rwK f D h k).set k (.ref m 0 0 h)=rwK (fun t=>if t=k then m else f t) D h (k+1):=by
 refine List.ext_getElem (by simp[rwK]) fun i h1 h2=>?_
 rw [List.getElem_set]
 simp only[rwK,List.getElem_map,List.getElem_range]
 by_cases e:k=i
 ·subst e;rw[if_pos rfl,if_pos (by omega),if_pos rfl]
 ·rw [if_neg e]
  by_cases c:i<k
  ·rw [if_pos c,if_pos (by omega),if_neg (fun g=>e g.symm)]
  ·rw [if_neg c,if_neg (by omega)]
theorem Aag {f:Nat→Nat} {D h k:Nat} (hk:k≤D):nth (rwK f D h k) k=.nils:=by
 simp [rwK,nth,show k<D+1 by omega]
theorem T1 {f:Nat→Nat} {D h k m:Nat} (hk:k≤D):A6 (nth (rwK f D h k) k) 0 [PV.ref m 0 0 h]=PV.ref m 0 0 h:=by rw[Aag hk];rfl
theorem Abt {f:Nat→Nat} {D h:Nat}:rwK f D h 0=List.replicate (D+1) .nils:=by
 refine List.ext_getElem (by simp[rwK]) fun i h1 h2=>by simp[rwK]
structure PvK (D h M0 B k:Nat) (sI yI:Nat→Nat) (l:List Snd) (d:Dem) (so Y:Nat→Nat→Int) (O:Nat→Option IObj) (nx:Nat):Prop where
 cS : O 0=some (.arr 1 1 (rwK sI D h k))
 c0 : O 1=some (.arr 0 1 [.ref M0 0 0 (D+1)])
 c1 : O 2=some (.arr 0 5 [.agg [I d.1,I d.2.1,I d.2.2.1,I d.2.2.2.1,I d.2.2.2.2]])
 c2 : O 3=some (.map 0 (.ints 2) (l.map tkE))
 c3 : O 4=some (.arr 0 1 [.mref 3 0])
 cY : O M0=some (.arr 0 1 (rwK yI D h k))
 rS : ∀t,t<k→O (sI t)=some (.arr 0 1 ((BA h (so t)).map (PV.int .i64)))
 rY : ∀t,t<k→O (yI t)=some (.arr 0 1 ((BA h (Y t)).map (PV.int .i64)))
 M5 : 5≤M0
 iS : ∀t,t<k→M0<sI t∧sI t<B
 iY : ∀t,t<k→M0<yI t∧yI t<B
 dj : ∀t s,t<k→s<k→sI t≠yI s
 jS : ∀t s,t<k→s<k→sI t=sI s→t=s
 jY : ∀t s,t<k→s<k→yI t=yI s→t=s
 MB : M0<B
 nx : B≤nx
theorem PvK.of {D h M0 B k:Nat} {sI yI:Nat→Nat} {l:List Snd} {d:Dem} {so Y:Nat→Nat→Int} {O O':Nat→Option IObj} {nx nx':Nat} (p:PvK D h M0 B k sI yI l d so Y O nx) (hO:∀i,i<B→O' i=O i) (hn:B≤nx'):PvK D h M0 B k sI yI l d so Y O' nx':=by
 obtain ⟨a1,a2,a3,a4,a5,a6,a7,a8,a9,b1,b2,b3,b4,b5,b6,b7⟩:=p
 exact ⟨by rw[hO _ (by omega)];exact a1,by rw[hO _ (by omega)];exact a2,by rw[hO _ (by omega)];exact a3,by rw[hO _ (by omega)];exact a4,by rw[hO _ (by omega)];exact a5,by rw[hO _ (by omega)];exact a6,
  fun t ht=>by rw[hO _ (b1 t ht).2];exact a7 t ht,fun t ht=>by rw[hO _ (b2 t ht).2];exact a8 t ht,a9,b1,b2,b3,b4,b5,b6,hn⟩
theorem PvK.later {D h M0 B k:Nat} {sI yI:Nat→Nat} {l:List Snd} {d:Dem} {so Y:Nat→Nat→Int} {st st':Store} (p:PvK D h M0 B k sI yI l d so Y st.obj st.next) (hL:Later st st'):PvK D h M0 B k sI yI l d so Y st'.obj st'.next:=by
 obtain ⟨a1,a2,a3,a4,a5,a6,a7,a8,a9,b1,b2,b3,b4,b5,b6,b7⟩:=p
 exact ⟨hL.2 _ _ (by omega) a1 (by simp),hL.2 _ _ (by omega) a2 (by simp),hL.2 _ _ (by omega) a3 (by simp),hL.2 _ _ (by omega) a4 (by simp),hL.2 _ _ (by omega) a5 (by simp),hL.2 _ _ (by omega) a6 (by simp),
  fun t ht=>hL.2 _ _ (by have:=(b1 t ht).2;omega) (a7 t ht) (by simp),fun t ht=>hL.2 _ _ (by have:=(b2 t ht).2;omega) (a8 t ht) (by simp),a9,b1,b2,b3,b4,b5,b6,Nat.le_trans b7 hL.1⟩
theorem PvK.so' {D h M0 B k:Nat} {sI yI:Nat→Nat} {l:List Snd} {d:Dem} {so Y:Nat→Nat→Int} {O:Nat→Option IObj} {nx:Nat} (p:PvK D h M0 B k sI yI l d so Y O nx) {t:Nat} (ht:t<k) (f:Nat→Int) :
  PvK D h M0 B k sI yI l d (fun s=>if s=t then f else so s) Y (Aa O (sI t) (some (.arr 0 1 ((BA h f).map (PV.int .i64))))) nx:=by
 obtain ⟨a1,a2,a3,a4,a5,a6,a7,a8,a9,b1,b2,b3,b4,b5,b6,b7⟩:=p
 have g:=b1 t ht
 refine ⟨?_,?_,?_,?_,?_,?_,fun s hs=>?_,fun s hs=>?_,a9,b1,b2,b3,b4,b5,b6,b7⟩ <;> simp only[Aa]
 ·rw [if_neg (by omega)];exact a1
 ·rw [if_neg (by omega)];exact a2
 ·rw [if_neg (by omega)];exact a3
 ·rw [if_neg (by omega)];exact a4
 ·rw [if_neg (by omega)];exact a5
 ·rw [if_neg (by omega)];exact a6
 ·by_cases e:s=t
  ·subst e;rw[if_pos rfl,if_pos rfl]
  ·rw [if_neg (fun g=>e (b4 s t hs ht g)),if_neg e];exact a7 s hs
 ·rw [if_neg (fun g=>b3 t s ht hs g.symm)];exact a8 s hs
theorem PvK.y' {D h M0 B k:Nat} {sI yI:Nat→Nat} {l:List Snd} {d:Dem} {so Y:Nat→Nat→Int} {O:Nat→Option IObj} {nx:Nat} (p:PvK D h M0 B k sI yI l d so Y O nx) {t:Nat} (ht:t<k) (f:Nat→Int) :
  PvK D h M0 B k sI yI l d so (fun s=>if s=t then f else Y s) (Aa O (yI t) (some (.arr 0 1 ((BA h f).map (PV.int .i64))))) nx:=by
 obtain ⟨a1,a2,a3,a4,a5,a6,a7,a8,a9,b1,b2,b3,b4,b5,b6,b7⟩:=p
 have g:=b2 t ht
 refine ⟨?_,?_,?_,?_,?_,?_,fun s hs=>?_,fun s hs=>?_,a9,b1,b2,b3,b4,b5,b6,b7⟩ <;> simp only[Aa]
 ·rw [if_neg (by omega)];exact a1
 ·rw [if_neg (by omega)];exact a2
 ·rw [if_neg (by omega)];exact a3
 ·rw [if_neg (by omega)];exact a4
 ·rw [if_neg (by omega)];exact a5
 ·rw [if_neg (by omega)];exact a6
 ·rw [if_neg (fun g=>b3 s t hs ht g)];exact a7 s hs
 ·by_cases e:s=t
  ·subst e;rw[if_pos rfl,if_pos rfl]
  ·rw [if_neg (fun g=>e (b5 s t hs ht g)),if_neg e];exact a8 s hs
theorem PvK.eqY {D h M0 B k:Nat} {sI yI:Nat→Nat} {l:List Snd} {d:Dem} {so Y Y':Nat→Nat→Int} {O:Nat→Option IObj} {nx:Nat} (p:PvK D h M0 B k sI yI l d so Y O nx) (e:∀t x,t<k→x<h→Y t x=Y' t x):PvK D h M0 B k sI yI l d so Y' O nx:=by
 obtain ⟨a1,a2,a3,a4,a5,a6,a7,a8,a9,b1,b2,b3,b4,b5,b6,b7⟩:=p
 exact ⟨a1,a2,a3,a4,a5,a6,a7,fun t ht=>by rw[a8 t ht,Eb (fun x hx=>e t x ht hx)],a9,b1,b2,b3,b4,b5,b6,b7⟩
theorem PvK.eqS {D h M0 B k:Nat} {sI yI:Nat→Nat} {l:List Snd} {d:Dem} {so so' Y:Nat→Nat→Int} {O:Nat→Option IObj} {nx:Nat} (p:PvK D h M0 B k sI yI l d so Y O nx) (e:∀t x,t<k→x<h→so t x=so' t x):PvK D h M0 B k sI yI l d so' Y O nx:=by
 obtain ⟨a1,a2,a3,a4,a5,a6,a7,a8,a9,b1,b2,b3,b4,b5,b6,b7⟩:=p
 exact ⟨a1,a2,a3,a4,a5,a6,fun t ht=>by rw[a7 t ht,Eb (fun x hx=>e t x ht hx)],a8,a9,b1,b2,b3,b4,b5,b6,b7⟩
theorem PvK.rl {D h M0 B k:Nat} {sI yI:Nat→Nat} {l:List Snd} {d:Dem} {so Y:Nat→Nat→Int} {O:Nat→Option IObj} {nx:Nat} (p:PvK D h M0 B k sI yI l d so Y O nx) {C:Nat} {ch:Bool} (hC:O C=some (.arr 0 1 [.bool ch])) (hCB:B≤C) {t x:Nat} (ht:t<k) (hx:x<h) (v:Int) :
  ∃ O',Be GD Ik EO [.ptr (yI t) 0 x 0,I v,.ptr C 0 0 0] ⟨O,nx⟩=some (.tuple [],⟨O',nx⟩)∧PvK D h M0 B k sI yI l d so (YS.rl ⟨Y,ch⟩ t x v).y O' nx∧O' C=some (.arr 0 1 [.bool (YS.rl ⟨Y,ch⟩ t x v).ch])∧∀i,i≠C→(∀s,s<k→i≠yI s)→O' i=O i:=by
 have hyB:=(p.iY t ht).2
 have hne:yI t≠C:=by omega
 have key:=X6 ⟨yI t,0,x,C,v,BA h (Y t),ch⟩ (st:=⟨O,nx⟩) ⟨p.rY t ht,by dsimp only;rw[CE];exact hx,hC,hne⟩
 dsimp only at key
 rw [key]
 unfold EO
 dsimp only
 rw [Fx hx]
 by_cases c:v<Y t x
 ·rw [if_pos c,Fi hx]
  have e:YS.rl ⟨Y,ch⟩ t x v=⟨fun t' x'=>if t'=t∧x'=x then v else Y t' x',true⟩:=by unfold YS.rl;exact if_pos c
  rw [e]
  refine ⟨_,rfl,?_,by simp[Aa],fun i hiC hi=>by simp only[Aa];rw[if_neg hiC,if_neg (hi t ht)]⟩
  have q:=(p.y' ht fun z=>if z=x then v else Y t z).eqY (Y':=fun t' x'=>if t'=t∧x'=x then v else Y t' x') fun s z hs hz=>by
   by_cases e:s=t
   ·subst e;rw[if_pos rfl];simp
   ·rw [if_neg e,if_neg (fun g=>e g.1)]
  exact q.of (fun i hi=>by simp only[Aa];rw[if_neg (by omega)]) q.nx
 ·rw [if_neg c]
  have e:YS.rl ⟨Y,ch⟩ t x v=⟨Y,ch⟩:=by unfold YS.rl;exact if_neg c
  rw [e]
  exact ⟨O,rfl,p,hC,fun _ _ _=>rfl⟩
theorem WF.upd {O:Nat→Option IObj} {nx nx' i:Nat} (h:WF ⟨O,nx⟩) (hi:i<nx') (hn:nx≤nx') {x:Option IObj}:WF ⟨Aa O i x,nx'⟩:=fun j o hj=>by
 dsimp only at hj ⊢
 simp only[Aa]at hj
 split at hj
 ·omega
 ·have := h j o hj
  dsimp only at this
  omega
structure PvM (d:Dem) (es:List (PV×PV)) (S:Store):Prop where
 b0 : S.obj 0=some (.arr 0 1 [])
 b1 : S.obj 1=some (.arr 0 1 [.nils])
 b2 : S.obj 2=some (.arr 0 5 [.agg [I d.1,I d.2.1,I d.2.2.1,I d.2.2.2.1,I d.2.2.2.2]])
 b3 : S.obj 3=some (.map 0 (.ints 2) es)
 b4 : S.obj 4=some (.arr 0 1 [.mref 3 0])
 nx : 5≤S.next
 wf : WF S
theorem PvM.step {d:Dem} {es es':List (PV×PV)} {O:Nat→Option IObj} {nx:Nat} (h:PvM d es ⟨O,nx⟩) {x:Option IObj}:PvM d es' ⟨Aa (Aa O nx x) 3 (some (.map 0 (.ints 2) es')),nx+1⟩:=by
 obtain ⟨h0,h1,h2,h3,h4,h5,h6⟩:=h
 dsimp only at *
 refine ⟨?_,?_,?_,?_,?_,by dsimp only;omega,WF.upd (nx:=nx+1) (i:=3) (WF.upd (nx:=nx) (nx':=nx+1) (i:=nx) h6 (by omega) (by omega)) (by omega) (by omega)⟩ <;> simp only[Aa]
 ·rw [if_neg (by omega),if_neg (by omega)];exact h0
 ·rw [if_neg (by omega),if_neg (by omega)];exact h1
 ·rw [if_neg (by omega),if_neg (by omega)];exact h2
 ·rw [if_pos trivial]
 ·rw [if_neg (by omega),if_neg (by omega)];exact h4
theorem Fj {h:Nat} {v:Int}:(BA h fun _=>v).map (PV.int .i64)=List.replicate h (I v):=by
 unfold BA
 rw [List.map_map]
 refine List.ext_getElem (by simp) fun i h1 h2=>by simp
theorem PvK.add {D h M0 k:Nat} {sI yI:Nat→Nat} {l:List Snd} {d:Dem} {so Y:Nat→Nat→Int} {O O':Nat→Option IObj} {nx:Nat} (p:PvK D h M0 nx k sI yI l d so Y O nx) (hk:k≤D) {a b:Nat} (hab:a≠b) (ha:nx≤a∧a<nx+2) (hb:nx≤b∧b<nx+2)
  (h0 : O' 0=some (.arr 1 1 ((rwK sI D h k).set k (.ref a 0 0 h)))) (hM:O' M0=some (.arr 0 1 ((rwK yI D h k).set k (.ref b 0 0 h)))) (hra:O' a=some (.arr 0 1 ((BA h (so k)).map (PV.int .i64)))) (hrb:O' b=some (.arr 0 1 ((BA h (Y k)).map (PV.int .i64))))
  (hr : ∀i,i<nx→i≠0→i≠M0→O' i=O i):PvK D h M0 (nx+2) (k+1) (fun t=>if t=k then a else sI t) (fun t=>if t=k then b else yI t) l d so Y O' (nx+2):=by
 obtain ⟨a1,a2,a3,a4,a5,a6,a7,a8,a9,b1,b2,b3,b4,b5,b6,b7⟩:=p
 rw [Aaf hk]at h0 hM
 refine ⟨h0,?_,?_,?_,?_,hM,fun t ht=>?_,fun t ht=>?_,a9,fun t ht=>?_,fun t ht=>?_,fun t s ht hs=>?_,fun t s ht hs=>?_,fun t s ht hs=>?_,by omega,Nat.le_refl _⟩
 ·rw [hr _ (by omega) (by omega) (by omega)];exact a2
 ·rw [hr _ (by omega) (by omega) (by omega)];exact a3
 ·rw [hr _ (by omega) (by omega) (by omega)];exact a4
 ·rw [hr _ (by omega) (by omega) (by omega)];exact a5
 ·by_cases e:t=k
  ·rw [if_pos e,e];exact hra
  ·rw [if_neg e]
   have := b1 t (by omega)
   rw [hr _ this.2 (by omega) (by omega)];exact a7 t (by omega)
 ·by_cases e:t=k
  ·rw [if_pos e,e];exact hrb
  ·rw [if_neg e]
   have := b2 t (by omega)
   rw [hr _ this.2 (by omega) (by omega)];exact a8 t (by omega)
 ·by_cases e:t=k
  ·rw [if_pos e];omega
  ·rw [if_neg e];have:=b1 t (by omega);omega
 ·by_cases e:t=k
  ·rw [if_pos e];omega
  ·rw [if_neg e];have:=b2 t (by omega);omega
 ·by_cases e:t=k
  ·rw [if_pos e]
   by_cases e2:s=k
   ·rw [if_pos e2];exact hab
   ·rw [if_neg e2];have:=b2 s (by omega);omega
  ·rw [if_neg e]
   by_cases e2:s=k
   ·rw [if_pos e2];have:=b1 t (by omega);omega
   ·rw [if_neg e2];exact b3 t s (by omega) (by omega)
 ·by_cases e:t=k
  ·rw [if_pos e]
   by_cases e2:s=k
   ·intro _;rw[e,e2]
   ·rw [if_neg e2];have:=b1 s (by omega);intro g;omega
  ·rw [if_neg e]
   by_cases e2:s=k
   ·rw [if_pos e2];have:=b1 t (by omega);intro g;omega
   ·rw [if_neg e2];exact b4 t s (by omega) (by omega)
 ·by_cases e:t=k
  ·rw [if_pos e]
   by_cases e2:s=k
   ·intro _;rw[e,e2]
   ·rw [if_neg e2];have:=b2 s (by omega);intro g;omega
  ·rw [if_neg e]
   by_cases e2:s=k
   ·rw [if_pos e2];have:=b2 t (by omega);intro g;omega
   ·rw [if_neg e2];exact b5 t s (by omega) (by omega)
theorem qI {l m:List Int} (p:l.Perm m):l.sum=m.sum:=by
 induction p with
 | nil=>rfl
 | cons x _ ih=>rw[List.sum_cons,List.sum_cons,ih]
 | swap x y l=>rw[List.sum_cons,List.sum_cons,List.sum_cons,List.sum_cons];omega
 | trans _ _ h1 h2=>rw[h1,h2]
theorem T3 {f:Nat→Int}:∀ {n:Nat} {seen:List Nat},seen.Nodup→(∀i∈seen,i<n)→seen.length=n→(seen.map f).sum=Aj f n
 | 0,seen,_,_,h3=>by
  rw [List.eq_nil_of_length_eq_zero h3];rfl
 | n+1,seen,h1,h2,h3=>by
  have hn:n∈seen:=Classical.byContradiction fun c=>by
   have := CT n seen h1 fun i hi=>by
    have := h2 i hi
    have : i≠n:=fun e=>c (e▸hi)
    omega
   omega
  obtain ⟨p,q,rfl⟩:=List.append_of_mem hn
  have hp:(p++n::q).Perm (n::(p++q)):=List.perm_middle
  have hnd:=hp.nodup_iff.1 h1
  rw [List.nodup_cons]at hnd
  rw [qI (hp.map f),List.map_cons,List.sum_cons,Aj,T3 (n:=n) hnd.2 (fun i hi=>by
   have := h2 i (hp.mem_iff.2 (List.mem_cons_of_mem _ hi))
   have : i≠n:=fun e=>hnd.1 (e▸hi)
   omega) (by simp at h3 ⊢;omega)]
  omega
def cO (ls:List Lnk) (l:List Snd) (t x:Int) (i:Nat):Int:=if (l.getD i dS).2.1=t∧(Cd ls (l.getD i dS)).1=x then (l.getD i dS).2.2 else 0
def soS (ls:List Lnk) (l:List Snd) (d:Dem) (seen:List Nat) (t x:Nat):Int:=B1 ls l d (x:Int) (d.2.2.2.1+(t:Int))-(seen.map (cO ls l (d.2.2.2.1+(t:Int)) (x:Int))).sum
theorem Aah {hn:Int} {ls:List Lnk} {us l:List Snd} {d:Dem} (ok:OKr hn ls l) (hd:0≤d.1) (h0:∀i,i<l.length→d.2.2.2.1≤(l.getD i dS).2.1) {seen:List Nat} (h1:seen.Nodup) (h2:∀i∈seen,i<l.length) (h3:seen.length=l.length) (t x:Nat):soS ls l d seen t x=soM hn ls us l d t x:=by
 unfold soS soM
 rw [T3 h1 h2 h3,MZ ok hd h0 x t,nQ ok x t,QR]
 rfl
theorem Aai {ls:List Lnk} {l:List Snd} {d:Dem} {seen:List Nat} {i t x:Nat}:soS ls l d (seen ++ [i]) t x=soS ls l d seen t x-cO ls l (d.2.2.2.1+(t:Int)) (x:Int) i:=by
 unfold soS
 rw [List.map_append,List.sum_append]
 simp
 omega
theorem X7 {f:Nat→Int} {B:Int}:∀ {seen:List Nat},(∀i∈seen,0≤f i∧f i≤B)→0≤(seen.map f).sum∧(seen.map f).sum≤B*(seen.length:Int)
 | [],_=>by simp
 | i::l,h=>by
  have ih:=X7 (f:=f) (B:=B) (seen:=l) fun j hj=>h j (List.mem_cons_of_mem _ hj)
  have h1:=h i (List.mem_cons_self ..)
  have e:B*((l.length+1:Nat):Int)=B*(l.length:Int)+B:=by rw[show ((l.length+1:Nat):Int)=(l.length:Int)+1 by omega,Int.mul_add,Int.mul_one]
  rw [List.map_cons,List.sum_cons,List.length_cons,e]
  omega
theorem Aaj {hn:Int} {ls:List Lnk} {l:List Snd} {d:Dem} (ok:OKr hn ls l) (hb:Wl d) {seen:List Nat} (h1:seen.Nodup) (h2:∀i∈seen,i<l.length) (t x:Nat) : -8796093022208≤soS ls l d seen t x∧soS ls l d seen t x≤8796093022208:=by
 have hl:=ok.len
 have a:=Tq hb (x:Int) (d.2.2.2.1+(t:Int))
 have b:=Tp ok (x:Int) (d.2.2.2.1+(t:Int)) l.length (Nat.le_refl _)
 have c:=X7 (f:=cO ls l (d.2.2.2.1+(t:Int)) (x:Int)) (B:=1073741824) (seen:=seen) fun i hi=>by
  have := ok.bytes i (h2 i hi)
  unfold cO
  split <;> omega
 have e:=CT l.length seen h1 h2
 unfold soS B1
 omega
theorem PvK.lp {D h M0 B k:Nat} {sI yI:Nat→Nat} {l:List Snd} {d:Dem} {so Y:Nat→Nat→Int} {O:Nat→Option IObj} {nx:Nat} (p:PvK D h M0 B k sI yI l d so Y O nx) {id:Nat} {r:Loop} (hid:O id=some (.lp r)) (x:Option IObj):PvK D h M0 B k sI yI l d so Y (Aa O id x) nx:=by
 have key:∀ {j o},O j=some o→(∀r,o≠.lp r)→Aa O id x j=some o:=fun {j o} hj hr=>by
  simp only[Aa]
  rw [if_neg (fun e=>by rw[e,hid]at hj;cases hj;exact hr r rfl),hj]
 obtain ⟨a1,a2,a3,a4,a5,a6,a7,a8,a9,b1,b2,b3,b4,b5,b6,b7⟩:=p
 exact ⟨key a1 (by simp),key a2 (by simp),key a3 (by simp),key a4 (by simp),key a5 (by simp),key a6 (by simp),fun t ht=>key (a7 t ht) (by simp),fun t ht=>key (a8 t ht) (by simp),a9,b1,b2,b3,b4,b5,b6,b7⟩
theorem Wy {ls:List Lnk} {us:List Snd} {r:Int} {k t:Nat}:List.take 2 (EN ls us r k t) = [I (k:Nat),I (r+(t:Int))]:=rfl
noncomputable def GY (hn:Int) (ls:List Lnk) (us:List Snd) (d:Dem):Nat→Nat→Int:=(Au hn ls us d).prvY (An d) d.1.toNat d.2.1.toNat 536870912 268435456 (gS (Df hn ls us d) d.2.2.2.1) (soM hn ls us (Df hn ls us d) d)
noncomputable def Ec (hn:Int) (ls:List Lnk) (us:List Snd) (d:Dem):List (List Int):=(List.range (An d+1)).map fun t=>BA hn.toNat fun x=>min (GY hn ls us d t x) (GY hn ls us d (An d) d.2.1.toNat)
noncomputable def HQ (hn:Int) (ls:List Lnk) (us:List Snd) (d:Dem):Int:=if CH hn ls us d≠0 then CH hn ls us d else D3 hn ls us d
end Sim
