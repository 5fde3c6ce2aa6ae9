/- What functions of this seat compute, by values: contracts (lemmas of the statement's proof, under the conditions that each names). -/
import Derived.Test.YtppljhpecoeakaaQYA
import Derived.Test.YtppljhpecoeakaaSimAA
set_option maxRecDepth 10000
set_option maxHeartbeats 4000000
set_option linter.unusedVariables false
set_option linter.unusedSimpArgs false
namespace Sim
open Go Go.Proofs
attribute [local congr] Ap Aq Al AC As Ar Av
structure BkM (hn:Int) (ls:List Lnk) (us:List Snd) (d:Dem) (A:List Arc) (out:List (List Nat)) (O:Nat→Option IObj) (nx:Nat):Prop where
 g : BkAt A out O
 o0 : O 1=some (.arr 0 5 [.agg [I d.1,I d.2.1,I d.2.2.1,I d.2.2.2.1,I d.2.2.2.2]])
 o4 : O 5=some (.arr 0 1 [.func (.func 50) [] [frP hn ls us d]])
 o5 : O 6=some (.arr 0 1 [.func (.func 51) [] [.ptr 4 0 0 0,.ptr 2 0 0 0]])
 nx : 10+out.length≤nx
section
variable {hn:Int} {ls:List Lnk} {us:List Snd} {d:Dem} {A:List Arc} {out:List (List Nat)} {O O':Nat→Option IObj} {nx nx':Nat}
theorem BkM.of (h:BkM hn ls us d A out O nx) (e:∀i,1≤i→i<10+out.length→O' i=O i) (hn':nx≤nx'):BkM hn ls us d A out O' nx':=by
 have := h.nx
 refine ⟨⟨?_,?_,?_,?_,fun u hu=>?_⟩,?_,?_,?_,by omega⟩
 ·rw [e _ (by omega) (by omega)];exact h.g.o1
 ·rw [e _ (by omega) (by omega)];exact h.g.o2
 ·rw [e _ (by omega) (by omega)];exact h.g.o3
 ·rw [e _ (by omega) (by omega)];exact h.g.o6
 ·rw [e _ (by omega) (by omega)];exact h.g.o7 u hu
 ·rw [e _ (by omega) (by omega)];exact h.o0
 ·rw [e _ (by omega) (by omega)];exact h.o4
 ·rw [e _ (by omega) (by omega)];exact h.o5
theorem BkM.high (h:BkM hn ls us d A out O nx) {b:Nat} {x:Option IObj} (hb:b=0∨10+out.length≤b) (hn':nx≤nx'):BkM hn ls us d A out (Aa O b x) nx':=h.of (fun i h1 hi=>by simp only[Aa];rw[if_neg (by omega)]) hn'
theorem BkM.add (h:BkM hn ls us d A out O nx) {u v:Nat} {x:Int} (hu:u<out.length) (hv:v<out.length) (huv:¬u=v):BkM hn ls us d (Ji A u v x) (CN out u v A.length) (bO O u v (A.length / 2+1) (Ji A u v x) (CN out u v A.length)) nx:=by
 have hl:(Ji A u v x).length / 2=A.length / 2+1:=by rw[Nt];omega
 refine ⟨⟨?_,?_,?_,?_,fun w hw=>?_⟩,?_,?_,?_,by rw[Ns];exact h.nx⟩
 ·simp only[bO,Aa,if_true,hl]
 ·simp only[bO,Aa];rw[if_neg (by omega),if_neg (by omega),if_pos trivial]
 ·simp only[bO,Aa];rw[if_neg (by omega),if_neg (by omega),if_neg (by omega),if_neg (by omega),if_neg (by omega),Ns];exact h.g.o3
 ·simp only[bO,Aa];rw[if_neg (by omega),if_pos trivial,hl]
 ·rw [Ns]at hw
  simp only[bO,Aa]
  rw [if_neg (by omega),if_neg (by omega),if_neg (by omega)]
  by_cases c1:w=v
  ·subst c1;rw[if_pos rfl]
  ·rw [if_neg (by omega)]
   by_cases c2:w=u
   ·subst c2;rw[if_pos rfl]
   ·rw [if_neg (by omega),h.g.o7 w hw,QA hu hv huv,if_neg c1,if_neg c2]
 ·simp only[bO,Aa];rw[if_neg (by omega),if_neg (by omega),if_neg (by omega),if_neg (by omega),if_neg (by omega)];exact h.o0
 ·simp only[bO,Aa];rw[if_neg (by omega),if_neg (by omega),if_neg (by omega),if_neg (by omega),if_neg (by omega)];exact h.o4
 ·simp only[bO,Aa];rw[if_neg (by omega),if_neg (by omega),if_neg (by omega),if_neg (by omega),if_neg (by omega)];exact h.o5
theorem BkM.arcs (h:BkM hn ls us d A out O nx) {A':List Arc} (hl:A'.length=A.length):BkM hn ls us d A' out (Aa O 9 (some (.arr (A.length / 2) 4 (A'.map Dc)))) nx:=by
 refine ⟨⟨?_,?_,?_,?_,fun w hw=>?_⟩,?_,?_,?_,h.nx⟩ <;> simp only[Aa]
 ·rw [if_neg (by omega),hl];exact h.g.o1
 ·rw [if_neg (by omega)];exact h.g.o2
 ·rw [if_neg (by omega)];exact h.g.o3
 ·rw [if_pos trivial,hl]
 ·rw [if_neg (by omega)];exact h.g.o7 w hw
 ·rw [if_neg (by omega)];exact h.o0
 ·rw [if_neg (by omega)];exact h.o4
 ·rw [if_neg (by omega)];exact h.o5
end
theorem BkM.later {hn:Int} {ls:List Lnk} {us:List Snd} {d:Dem} {A:List Arc} {out:List (List Nat)} {st st':Store} (h:BkM hn ls us d A out st.obj st.next) (hL:Later st st'):BkM hn ls us d A out st'.obj st'.next:=by
 obtain ⟨⟨a1,a2,a3,a4,a5⟩,a6,a7,a8,a9⟩:=h
 exact ⟨⟨hL.2 _ _ (by omega) a1 (by simp),hL.2 _ _ (by omega) a2 (by simp),hL.2 _ _ (by omega) a3 (by simp),hL.2 _ _ (by omega) a4 (by simp),fun u hu=>hL.2 _ _ (by omega) (a5 u hu) (by simp)⟩,
  hL.2 _ _ (by omega) a6 (by simp),hL.2 _ _ (by omega) a7 (by simp),hL.2 _ _ (by omega) a8 (by simp),Nat.le_trans a9 hL.1⟩
theorem BkM.lp {hn:Int} {ls:List Lnk} {us:List Snd} {d:Dem} {A:List Arc} {out:List (List Nat)} {O:Nat→Option IObj} {nx:Nat} (h:BkM hn ls us d A out O nx) {id:Nat} {r:Loop} (hid:O id=some (.lp r)) (x:Option IObj):BkM hn ls us d A out (Aa O id x) nx:=by
 have key:∀ {j o},O j=some o→(∀r,o≠.lp r)→Aa O id x j=some o:=fun {j o} hj hr=>by
  simp only[Aa]
  rw [if_neg (fun e=>by rw[e,hid]at hj;cases hj;exact hr r rfl),hj]
 obtain ⟨⟨a1,a2,a3,a4,a5⟩,a6,a7,a8,a9⟩:=h
 exact ⟨⟨key a1 (by simp),key a2 (by simp),key a3 (by simp),key a4 (by simp),fun u hu=>key (a5 u hu) (by simp)⟩,key a6 (by simp),key a7 (by simp),key a8 (by simp),a9⟩
theorem BkM.lpid {hn:Int} {ls:List Lnk} {us:List Snd} {d:Dem} {A:List Arc} {out:List (List Nat)} {O:Nat→Option IObj} {nx:Nat} (h:BkM hn ls us d A out O nx) {id:Nat} {r:Loop} (hid:O id=some (.lp r)):id=0∨id=1∨id=5∨id=6∨id=7∨id=8∨10+out.length≤id:=by
 refine Classical.byContradiction fun c=>?_
 have e2:id≠2:=fun e=>by rw[e,h.g.o1]at hid;cases hid
 have e3:id≠3:=fun e=>by rw[e,h.g.o2]at hid;cases hid
 have e4:id≠4:=fun e=>by rw[e,h.g.o3]at hid;cases hid
 have e9:id≠9:=fun e=>by rw[e,h.g.o6]at hid;cases hid
 have := h.g.o7 (id-10) (by omega)
 rw [show 10+(id-10)=id by omega,hid]at this
 cases this
structure RnB (hn:Int) (ls:List Lnk) (us:List Snd) (d:Dem) (A:List Arc) (out:List (List Nat)) (st:Store):Prop where
 m : BkM hn ls us d A out st.obj st.next
 z : st.obj 0=some (.arr 0 1 [])
 e7 : st.obj 7=some (.map 0 (.ints 2) (us.map tkE))
 e8 : st.obj 8=some (.arr 0 1 [.mref 7 0])
theorem RnB.later {hn:Int} {ls:List Lnk} {us:List Snd} {d:Dem} {A:List Arc} {out:List (List Nat)} {st st':Store} (h:RnB hn ls us d A out st) (hL:Later st st'):RnB hn ls us d A out st':=by
 have := h.m.nx
 exact ⟨h.m.later hL,hL.2 _ _ (by omega) h.z (by simp),hL.2 _ _ (by omega) h.e7 (by simp),hL.2 _ _ (by omega) h.e8 (by simp)⟩
theorem RnB.new {hn:Int} {ls:List Lnk} {us:List Snd} {d:Dem} {A:List Arc} {out:List (List Nat)} {O:Nat→Option IObj} {nx:Nat} (h:RnB hn ls us d A out ⟨O,nx⟩) (x:Option IObj):RnB hn ls us d A out ⟨Aa O nx x,nx+1⟩:=by
 have hn':=h.m.nx
 dsimp only at hn'
 refine ⟨h.m.high (.inr hn') (by dsimp only;omega),?_,?_,?_⟩ <;> simp only[Aa] <;> rw[if_neg (by omega)]
 ·exact h.z
 ·exact h.e7
 ·exact h.e8
theorem RnB.lp {hn:Int} {ls:List Lnk} {us:List Snd} {d:Dem} {A:List Arc} {out:List (List Nat)} {O:Nat→Option IObj} {nx:Nat} (h:RnB hn ls us d A out ⟨O,nx⟩) {id:Nat} {r:Loop} (hid:O id=some (.lp r)) (x:Option IObj):RnB hn ls us d A out ⟨Aa O id x,nx⟩:=by
 have key:∀ {j o},O j=some o→(∀r,o≠.lp r)→Aa O id x j=some o:=fun {j o} hj hr=>by
  simp only[Aa]
  rw [if_neg (fun e=>by rw[e,hid]at hj;cases hj;exact hr r rfl),hj]
 exact ⟨h.m.lp hid x,key h.z (by simp),key h.e7 (by simp),key h.e8 (by simp)⟩
theorem X8 {hn:Int} {ls:List Lnk} {us:List Snd} {d:Dem} {p:Nat→Arc} {N n i u v:Nat} {x y:Int} (hp:J3 p N n) (hn9:n≤100000) (hi:i<n) (hpi:p i=(u,v,x,y)) {O:Nat→Option IObj} {nx:Nat} (h:BkM hn ls us d (bA p i) (gO p N i) O nx) :
  ∃ O',Be Jj Jk K3 [I (u:Nat),I (v:Nat),I x,.ptr 4 0 0 0,.ptr 2 0 0 0] ⟨O,nx⟩=some (.tuple [],⟨O',nx⟩)∧BkM hn ls us d (bA p (i+1)) (gO p N (i+1)) O' nx∧∀j,j=0∨j=1∨j=5∨j=6∨j=7∨j=8∨10+N≤j→O' j=O j:=by
 have q:=hp i hi
 rw [hpi]at q
 dsimp only at q
 obtain ⟨b1,b2,b3,_⟩:=q
 have c1:=MR (p:=p) (N:=N) (n:=i) (fun j hj=>hp j (by omega))
 have c2:=c1 u
 have c3:=c1 v
 have hAl:=GG (p:=p) (n:=i)
 have hgl:=Cq (p:=p) (n:=i)
 have hol:=Dv (p:=p) (N:=N) (n:=i)
 have hnx:=h.nx
 rw [hol]at hnx
 refine ⟨_,Af1 (bA p i) (gO p N i) ⟨h.g,by dsimp only;omega,by dsimp only;omega,b3,by dsimp only;omega,by dsimp only;omega,by dsimp only;omega,by dsimp only;omega,by dsimp only;omega⟩,?_,fun j hj=>?_⟩
 ·have := h.add (u:=u) (v:=v) (x:=x) (by omega) (by omega) b3
  rw [show bA p (i+1)=Ji (bA p i) u v x by rw[bA,hpi],show gO p N (i+1)=CN (gO p N i) u v (bA p i).length by rw[gO,hpi,hgl,hAl]]
  exact this
 ·simp only[bO,Aa]
  rw [if_neg (by omega),if_neg (by omega),if_neg (by omega),if_neg (by omega),if_neg (by omega)]
theorem bpt {hn:Int} {ls:List Lnk} {us:List Snd} {d:Dem} {h x t:Nat} (hh:hn=(h:Int)) (hb:h≤12) (hx:x≤1000) (ht:t≤1000):Ah Ew HR HT [I (x:Nat),I (t:Nat),frP hn ls us d]=some (I ((t*h+x:Nat):Int)):=by
 have := qK (hn:=hn) (ls:=ls) (us:=us) (d:=d) (x:=(x:Nat)) (t:=(t:Nat))
 rw [if_pos ⟨by omega,by omega,by omega,by omega,by omega,by omega⟩]at this
 rw [this,hh,Int.natCast_add,Int.natCast_mul]
structure BfS (hn:Int) (ls:List Lnk) (us:List Snd) (d:Dem) (A:List Arc) (out:List (List Nat)) (bi:Nat) (bl:List Int) (g:Nat) (ql:List Nat) (st:Store):Prop where
 m : BkM hn ls us d A out st.obj st.next
 q : st.obj 0=some (.arr g 1 (Ba ql))
 b : st.obj bi=some (.arr 0 1 (bl.map (PV.int .i64)))
 b0 : 10+out.length≤bi
 b1 : bi<st.next
section
variable {hn:Int} {ls:List Lnk} {us:List Snd} {d:Dem} {A:List Arc} {out:List (List Nat)} {bi g nx:Nat} {bl:List Int} {ql:List Nat} {O:Nat→Option IObj}
theorem BfS.new (h:BfS hn ls us d A out bi bl g ql ⟨O,nx⟩) (x:Option IObj):BfS hn ls us d A out bi bl g ql ⟨Aa O nx x,nx+1⟩:=by
 have hm:=h.m.nx
 have hb:=h.b1
 dsimp only at hm hb
 refine ⟨h.m.high (.inr hm) (by dsimp only;omega),?_,?_,h.b0,by dsimp only;omega⟩ <;> simp only[Aa] <;> rw[if_neg (by omega)]
 ·exact h.q
 ·exact h.b
theorem BfS.setb (h:BfS hn ls us d A out bi bl g ql ⟨O,nx⟩) (bl':List Int):BfS hn ls us d A out bi bl' g ql ⟨Aa O bi (some (.arr 0 1 (bl'.map (PV.int .i64)))),nx⟩:=by
 have h0:=h.b0
 refine ⟨h.m.high (.inr h0) (Nat.le_refl _),?_,?_,h.b0,h.b1⟩ <;> simp only[Aa]
 ·rw [if_neg (by omega)];exact h.q
 ·rw [if_pos trivial]
theorem BfS.setq (h:BfS hn ls us d A out bi bl g ql ⟨O,nx⟩) (g':Nat) (ql':List Nat):BfS hn ls us d A out bi bl g' ql' ⟨Aa O 0 (some (.arr g' 1 (Ba ql'))),nx⟩:=by
 have h0:=h.b0
 refine ⟨h.m.high (.inl rfl) (Nat.le_refl _),?_,?_,h.b0,h.b1⟩ <;> simp only[Aa]
 ·rw [if_pos trivial]
 ·rw [if_neg (by omega)];exact h.b
theorem BfS.arcs (h:BfS hn ls us d A out bi bl g ql ⟨O,nx⟩) {A':List Arc} (hl:A'.length=A.length):BfS hn ls us d A' out bi bl g ql ⟨Aa O 9 (some (.arr (A.length / 2) 4 (A'.map Dc))),nx⟩:=by
 have h0:=h.b0
 refine ⟨h.m.arcs hl,?_,?_,h.b0,h.b1⟩ <;> simp only[Aa] <;> rw[if_neg (by omega)]
 ·exact h.q
 ·exact h.b
end
theorem WA {v:PV}:A6 .nilf 0 [v]=v:=rfl
def FH (O:Nat→Option IObj) (B b N k:Nat):Nat→Option IObj:=fun i=>if i=B then some (.arr 0 1 (gK b N k))else if b≤i∧i<b+k then some (.arr 0 1 [])else O i
theorem Nw {ρ:Nat→PV} {O:Nat→Option IObj} {B b N:Nat} (hB:B<b) (h:O B=some (.arr 0 1 (List.replicate N .nils))):∀k,k≤N→Ghost ⟨ρ,⟨O,b⟩⟩ ⟨ρ,⟨FH O B b N k,b+k⟩⟩
 | 0,_=>by
  have : FH O B b N 0=O:=by
   funext i
   unfold FH
   by_cases c:i=B
   ·rw [if_pos c,c,h,Ah3]
   ·rw [if_neg c,if_neg (by omega)]
  rw [this];exact .refl _
 | k + 1,hk=>by
  refine .trans (Nw hB h k (by omega)) ?_
  have hn:nth (gK b N k) k=.nils:=by rw[nI (by omega),if_neg (by omega)]
  have g:=Ghost.cell ⟨ρ,⟨FH O B b N k,b+k⟩⟩ B 0 1 1 (gK b N k) k 0 (by simp[FH]) (by rw[hn];rfl) (by omega)
  have e:(Store.set (Store.new ⟨FH O B b N k,b+k⟩ (.arr 0 1 [])) B (.arr 0 1 ((gK b N k).set k (A6 (nth (gK b N k) k) 0 [.ref (b+k) 0 0 0]))))=⟨FH O B b N (k+1),b+(k+1)⟩:=by
   rw [hn,show A6 .nils 0 [.ref (b+k) 0 0 0]=PV.ref (b+k) 0 0 0 from rfl,nJ (by omega)]
   simp only[Store.set,Store.new]
   congr 1
   funext i
   simp only[Aa,FH]
   by_cases c:i=B
   ·rw [if_pos c,if_pos c]
   ·simp only[if_neg c]
    by_cases c2:i=b+k
    ·rw [if_pos c2,if_pos (by omega)]
    ·rw [if_neg c2]
     by_cases c3:b≤i∧i<b+k
     ·rw [if_pos c3,if_pos (by omega)]
     ·rw [if_neg c3,if_neg (by omega)]
  rw [←e]
  exact g
theorem qS {hn:Int} {ls:List Lnk} {us:List Snd} {d:Dem} {O:Nat→Option IObj} {N:Nat} (o0:O 1=some (.arr 0 5 [.agg [I d.1,I d.2.1,I d.2.2.1,I d.2.2.2.1,I d.2.2.2.2]])) (o3:O 4=some (.arr 0 1 [.ref 3 0 0 N]))
  (o4 : O 5=some (.arr 0 1 [.func (.func 50) [] [frP hn ls us d]])) (o5:O 6=some (.arr 0 1 [.func (.func 51) [] [.ptr 4 0 0 0,.ptr 2 0 0 0]])) :
  BkM hn ls us d [] (List.replicate N []) (FH (Aa (Aa O 9 (some (.arr 0 4 []))) 2 (some (.arr 0 1 [.ref 9 0 0 0]))) 3 10 N N) (10+N):=by
 refine ⟨⟨?_,?_,?_,?_,fun u hu=>?_⟩,?_,?_,?_,by rw[List.length_replicate];exact Nat.le_refl _⟩
 ·simp only[FH,Aa];rw[if_neg (by omega),if_neg (by omega),if_pos trivial];simp
 ·simp only[FH,if_true];rw[show (10:Nat)=5+5 from rfl,Ah4]
 ·simp only[FH,Aa];rw[if_neg (by omega),if_neg (by omega),if_neg (by omega),if_neg (by omega),o3,List.length_replicate]
 ·simp only[FH,Aa];rw[if_neg (by omega),if_neg (by omega),if_neg (by omega),if_pos trivial];simp
 ·rw [List.length_replicate]at hu
  simp only[FH,Aa]
  rw [if_neg (by omega),if_pos (by omega)]
  simp [hu,Ba]
 ·simp only[FH,Aa];rw[if_neg (by omega),if_neg (by omega),if_neg (by omega),if_neg (by omega),o0]
 ·simp only[FH,Aa];rw[if_neg (by omega),if_neg (by omega),if_neg (by omega),if_neg (by omega),o4]
 ·simp only[FH,Aa];rw[if_neg (by omega),if_neg (by omega),if_neg (by omega),if_neg (by omega),o5]
theorem X9 {st:Store} {e:Int}:DR st (.tuple [.nils,I e]) (.tuple [ints [],I e]):=by
 refine .tuple _ _ rfl fun i c d hc hd=>?_
 match i with
 | 0=>simp at hc hd;subst hc;subst hd;exact .nils _
 | 1=>simp at hc hd;subst hc;subst hd;exact .pure _ rfl
 | n+2=>simp at hc
theorem Af5 {st:Store} {id h:Nat} {f:Nat→Int} (e:st.obj id=some (.arr 0 1 ((BA h f).map (PV.int .i64)))):DR st (.tuple [.ref id 0 0 h,I 0]) (.tuple [ints (BA h f),I 0]):=by
 refine .tuple _ _ rfl fun i c d hc hd=>?_
 match i with
 | 0 =>
  simp only[List.getElem?_cons_zero,Option.some.injEq]at hc hd
  subst hc;subst hd
  exact DR.arr (by simp[Store.arr?,e]) (by rw[List.length_map,CE]) EZ
 | 1=>simp at hc hd;subst hc;subst hd;exact .pure _ rfl
 | n+2=>simp at hc
theorem Gd {m f:List Nat} {dp:Nat} {y:Option (Nat×Fk)} {rd:Bool} {E1 E3 E4 E5:Ent} {sp:List PV→Option PV}:(cfg Try.prog [(15,E1),(50,Ent.v sp),(51,E3),(42,E4),(36,E5)] m f dp y rd).quiet 50=true:=nrfl rfl
noncomputable def Kl:(Int)×(List Lnk)×(List Snd)×(Dem)→List PV:=fun (hn,ls,us,d) => [.agg [I hn,Az ls,AB us,I d.1,I d.2.1,I d.2.2.1,I d.2.2.2.1,I d.2.2.2.2]]
noncomputable def Ya:(Int)×(List Lnk)×(List Snd)×(Dem)→PV:=fun (hn,ls,us,d)=>.tuple [ints (if Kk hn ls us d=0 then Jm hn ls us d else []),I (Kk hn ls us d)]
def Yb:(Int)×(List Lnk)×(List Snd)×(Dem)→Prop:=fun (hn,ls,us,d)=>True
noncomputable def e_block:Nat×Ent:=(29,.v (Ah Kl Ya Yb))
theorem Aar:∀i j,Kl i=Kl j→i=j:=by
 rintro ⟨hn₁,ls₁,us₁,d₁⟩ ⟨hn₂,ls₂,us₂,d₂⟩ h
 simp only[Kl,List.cons.injEq,and_true,PV.lits.injEq,PV.int.injEq,PV.agg.injEq,true_and,AR,AG]at h
 simp [Prod.ext_iff,h] <;> omega
theorem Aas (hn:Int) (ls:List Lnk) (us:List Snd) (d:Dem):Ah Kl Ya Yb [.agg [I hn,Az ls,AB us,I d.1,I d.2.1,I d.2.2.1,I d.2.2.2.1,I d.2.2.2.2]]=some (.tuple [ints (if Kk hn ls us d=0 then Jm hn ls us d else []),I (Kk hn ls us d)]):=AA Aar (i:=(hn,ls,us,d)) trivial
def Yc:Prop:=∀(hn:Int) (ls:List Lnk) (us:List Snd) (d:Dem) ,VC Try.prog 29 [.agg [I hn,Az ls,AB us,I d.1,I d.2.1,I d.2.2.1,I d.2.2.2.1,I d.2.2.2.2]] (.tuple [ints (if Kk hn ls us d=0 then Jm hn ls us d else []),I (Kk hn ls us d)])
def Yd:Prop:=AM Try.prog e_block.1 e_block.2
theorem Aat (c:Yc):Yd:=At fun⟨hn,ls,us,d⟩ h=>c hn ls us d
theorem Aau:Yc:=by
 intro hn ls us d
 refine jX [] AP (l := [e_pcheck,e_bpoint,e_badd,e_rept,e_runs]) ((Ae HK (Ae qN (Ae Afz (Ae qG (Ae QV Ao)))))) [116,68,80,99,104,115,122,209] [1200068,1200080,1200099,1200104,1200115,1200122,1200209,100116,600117,100117,600118,100118,600119,100119] 1 1 Try.func29 rfl (by decide +kernel) (N:=283) rfl (by simp) rfl (by kernel_rfl) fun hs=>?_
 simp only[AI,PV.small,List.length_map,and_true,true_and]at hs
 by_cases h1:CH hn ls us d=0
 case neg =>
  have e0:Kk hn ls us d=CH hn ls us d:=by unfold Kk;rw[if_pos h1]
  rw [e0,if_neg h1]
  generalize hr:CH hn ls us d=r at *
  simp +contextual (maxSteps:=4000000) only[↓bdD,bdP,Nat.reduceLT,Nat.reduceBEq,Ai,Nat.reduceAdd,↓reduceIte,e_pcheck,BL,e_bpoint,e_badd,e_rept,e_runs,Ac,Ab,Try.f29,Bk,↓AQ,↓I3,↓Am,↓AK,h1,hr]
  exact X9
 by_cases h2:d.1=d.2.1
 ·have e0:Kk hn ls us d=8:=by unfold Kk;rw[if_neg (fun g=>g h1),if_pos h2]
  rw [e0,if_neg (by decide)]
  have h3:(d.1=d.2.1)=True:=eq_true h2
  simp +contextual (maxSteps:=4000000) only[↓bdD,bdP,Nat.reduceLT,Nat.reduceBEq,Ai,Nat.reduceAdd,Nat.reduceLeDiff,reduceCtorEq,Store.new,Store.set,↓reduceIte,e_pcheck,BL,e_bpoint,e_badd,e_rept,e_runs,Ac,Ab,Try.f29,ty3,AX,Bk,↓Bi,↓AQ,↓I3,↓Am,↓AK,h1,h3]
  exact X9
 have e0:Kk hn ls us d=0:=by unfold Kk;rw[if_neg (fun g=>g h1),if_neg h2]
 rw [e0,if_pos rfl]
 obtain ⟨hfk,hb4⟩:=pck_zero.1 h1
 obtain ⟨hf,hdm,hD,hdu⟩:=CC hfk
 obtain ⟨⟨a0,a1⟩,⟨c0,c1⟩,hr⟩:=B9 hdm
 obtain ⟨r0,r1,r2,r3,r4⟩:=hr
 obtain ⟨oku,_⟩:=B8 hf
 have hll:=oku.net.len
 have hhn:=oku.net.houses
 have hRL:Jm hn ls us d=BA hn.toNat fun x=>frT (fun t=>NZ (T7 hn ls us d) (t*hn.toNat+x)) d.2.2.2.1 (d.2.2.2.2+1) (An d) (An d+1):=rfl
 have hG:T7 hn ls us d=fnP (qB (Au hn ls us d) (An d)) (AO hn d) (An d*ls.length+An d*hn.toNat) d.1.toNat (An d*hn.toNat+d.2.1.toNat):=rfl
 generalize Jm hn ls us d=R1 at *
 generalize T7 hn ls us d=G at *
 obtain ⟨h,hh⟩:∃h:Nat,hn.toNat=h:=⟨_,rfl⟩
 obtain ⟨N,hN⟩:∃N,AO hn d=N:=⟨_,rfl⟩
 obtain ⟨D,hDD⟩:∃D,An d=D:=⟨_,rfl⟩
 have hN0:(D+1)*h=N:=by rw[←hN,←hDD,←hh];rfl
 rw [hDD]at hD hdu hRL hG
 rw [hh]at hRL hG
 rw [hN]at hG
 have hNb:N≤396:=by rw[←hN0];exact Nat.le_trans (Nat.mul_le_mul (show D+1≤33 by omega) (show h≤12 by omega)) (by decide)
 have hhi:hn=(h:Int):=by omega
 have w1:IntKind.i64.wrap (d.2.2.2.2-d.2.2.2.1)=(D:Int):=by rw[Ag (by omega) (by omega)];omega
 have w2:IntKind.i64.wrap ((D:Int)+1)=((D+1:Nat):Int):=by rw[Ag (by omega) (by omega)];omega
 have w3:IntKind.i64.wrap (((D+1:Nat):Int)*hn)=(N:Int):=by rw[hhi,←Int.natCast_mul,hN0,Ag (by omega) (by omega)]
 have hNi:(N:Int)≤4294967296:=by omega
 obtain ⟨O1,hO1⟩:∃O1:Nat→Option IObj,Aa (Aa (Aa (Aa (Aa (Aa (fun i=>if i<1 then some (IObj.arr 0 1 [])else none) 1 (some (.arr 0 5 [.agg [I d.1,I d.2.1,I d.2.2.1,I d.2.2.2.1,I d.2.2.2.2]]))) 2 (some (.arr 0 1 [.nils]))) 3 (some (.arr 0 1 (List.replicate N .nils)))) 4 (some (.arr 0 1 [.ref 3 0 0 N]))) 5 (some (.arr 0 1 [.func (.func 50) [] [frP hn ls us d]]))) 6 (some (.arr 0 1 [.func (.func 51) [] [.ptr 4 0 0 0,.ptr 2 0 0 0]]))=O1:=⟨_,rfl⟩
 have sp:∀st,Be HI Je CU [frV hn ls us d] st=some (CU ⟨hn,ls,us,d⟩ st):=fun st=>Nc ⟨hn,ls,us,d⟩ hf
 simp only[CU]at sp
 simp +contextual (maxSteps:=4000000) only[↓bdD,bdP,Nat.reduceLT,Nat.reduceBEq,Nat.reduceEqDiff,Nat.reduceAdd,Nat.reduceLeDiff,reduceCtorEq,Store.new,Store.set,↓reduceIte,e_pcheck,BL,e_bpoint,e_badd,e_rept,e_runs,Ac,Ab,Try.f29,ty3,Aw,AX,Bk,Bf,AZ,JM,Oq,jZ,↓Bi,↓AQ,↓AL,↓Am,↓AK,Mq,h1,h2,w1,w2,w3,hNi,A4,WA,hO1,sp]
 have y0:rnO O1 7 us 0=some (.arr 0 1 []):=by rw[←hO1];simp[rnO,Aa]
 have y1:rnO O1 7 us 1=some (.arr 0 5 [.agg [I d.1,I d.2.1,I d.2.2.1,I d.2.2.2.1,I d.2.2.2.2]]):=by rw[←hO1];simp[rnO,Aa]
 have y2:rnO O1 7 us 2=some (.arr 0 1 [.nils]):=by rw[←hO1];simp[rnO,Aa]
 have y3:rnO O1 7 us 3=some (.arr 0 1 (List.replicate N .nils)):=by rw[←hO1];simp[rnO,Aa]
 have y4:rnO O1 7 us 4=some (.arr 0 1 [.ref 3 0 0 N]):=by rw[←hO1];simp[rnO,Aa]
 have y5:rnO O1 7 us 5=some (.arr 0 1 [.func (.func 50) [] [frP hn ls us d]]):=by rw[←hO1];simp[rnO,Aa]
 have y6:rnO O1 7 us 6=some (.arr 0 1 [.func (.func 51) [] [.ptr 4 0 0 0,.ptr 2 0 0 0]]):=by rw[←hO1];simp[rnO,Aa]
 have y7:rnO O1 7 us 7=some (.map 0 (.ints 2) (us.map tkE)):=by simp[rnO]
 have y8:rnO O1 7 us 8=some (.arr 0 1 [.mref 7 0]):=by simp[rnO]
 generalize rnO O1 7 us=O2 at *
 have gh:∀ρ,Ghost ⟨ρ,⟨O2,9⟩⟩ ⟨ρ,⟨FH (Aa (Aa O2 9 (some (.arr 0 4 []))) 2 (some (.arr 0 1 [.ref 9 0 0 0]))) 3 10 N N,10+N⟩⟩:=fun ρ=>by
  refine .trans (Ghost.cell ⟨ρ,⟨O2,9⟩⟩ 2 0 1 4 _ 0 0 y2 rfl (by omega)) ?_
  show Ghost ⟨ρ,⟨Aa (Aa O2 9 (some (.arr 0 4 []))) 2 (some (.arr 0 1 [.ref 9 0 0 0])),10⟩⟩ _
  refine Nw (B:=3) (b:=10) (by omega) ?_ N (Nat.le_refl _)
  simp only[Aa]
  rw [if_neg (by omega),if_neg (by omega),y3]
 have m0:=qS (hn:=hn) (ls:=ls) (us:=us) (d:=d) y1 y4 y5 y6
 have r0':RnB hn ls us d [] (List.replicate N []) ⟨FH (Aa (Aa O2 9 (some (.arr 0 4 []))) 2 (some (.arr 0 1 [.ref 9 0 0 0]))) 3 10 N N,10+N⟩:=by
  refine ⟨m0,?_,?_,?_⟩ <;> simp only[FH,Aa] <;> rw[if_neg (by omega),if_neg (by omega),if_neg (by omega),if_neg (by omega)]
  ·exact y0
  ·exact y7
  ·exact y8
 refine Wa (gh _) ?_
 clear gh m0 y0 y1 y2 y3 y4 y5 y6 y7 y8
 generalize FH (Aa (Aa O2 9 (some (.arr 0 4 []))) 2 (some (.arr 0 1 [.ref 9 0 0 0]))) 3 10 N N=O3 at *
 obtain ⟨T,hT⟩:∃T,Au hn ls us d=T:=⟨_,rfl⟩
 have okT:=Dq (hn:=hn) (ls:=ls) (us:=us) (r:=d.2.2.2.1) (D:=D) hf
 have hTh:T.h=h:=by rw[←hT,←hh];rfl
 have hTL:T.L=ls.length:=by rw[←hT];rfl
 have hTf:∀k,T.fr k=(ls.getD k dL).1.toNat:=fun k=>by rw[←hT];rfl
 have hTt:∀k,T.to k=(ls.getD k dL).2.1.toNat:=fun k=>by rw[←hT];rfl
 have hTl:∀k t,T.lf k t=lfM ls us (k:Nat) (d.2.2.2.1+(t:Int)):=fun k t=>by rw[←hT];rfl
 rw [show I9 hn ls us d.2.2.2.1=T from hT]at okT
 rw [hT]at hG
 have hpo:=TN.qB_ok okT
 have hqh:∀t x,t<D→x<h→qB T D (D*ls.length+(t*h+x))=(t*h+x,(t+1)*h+x,1152921504606846976,0):=fun t x ht hx=>by
  rw [←hTh,←hTL]
  exact TN.qB_house (by rw[hTh];exact hx)
 have hql:∀i,i<D*ls.length→qB T D i=(i / ls.length*h+(ls.getD (i % ls.length) dL).1.toNat,(i / ls.length+1)*h+(ls.getD (i % ls.length) dL).2.1.toNat,lfM ls us ((i % ls.length:Nat):Int) (d.2.2.2.1+((i / ls.length:Nat):Int)),0):=fun i hi=>by
  unfold qB
  rw [hTL,if_pos hi,hTf,hTt,hTl,hTh]
 have hcp:∀i,i<D*ls.length+D*h→(qB T D i).2.2.1≤1152921504606846976:=fun i hi=>by
  by_cases c:i<D*ls.length
  ·rw [hql i c]
   obtain ⟨_,hkL⟩:=TN.idx_lt (i:=i) c
   have := Q2 hf (t:=d.2.2.2.1+((i / ls.length:Nat):Int)) hkL
   dsimp only
   omega
  ·unfold qB
   rw [hTL,if_neg c]
   exact Int.le_refl _
 rw [hTh,hTL,hN0]at hpo
 generalize qB T D=q at *
 obtain ⟨n,hn9⟩:∃n,D*ls.length+D*h=n:=⟨_,rfl⟩
 rw [hn9]at hpo hG hcp
 have hnb:n≤100000:=by
  have b1:D*ls.length≤32*60:=Nat.mul_le_mul (by omega) hll
  have b2:D*h≤32*12:=Nat.mul_le_mul (by omega) (by omega)
  omega
 have hyr:=QW (hn:=hn) (M:=7) (D:=D) hf hdu r2 r4
 refine Fb (ys:=Jf ls us d.2.2.2.1 D) (f:=53) (first := []) (captured := [frP hn ls us d,.ptr 8 0 0 0]) rfl rfl (AV rfl) ?_ hyr rfl ?_ (by kernel_rfl) (by kernel_rfl)
  (fun i st'=>RnB hn ls us d (bA q i) (gO q N i) st') (fun e st'=>False) ?_ ?_ ?_ ?_ ?_ ?_ ?_ ?_
 ·simp +contextual (maxSteps:=4000000) only[↓bdD,bdP]
 ·exact Kh
 ·exact fun i st st' h hL=>h.later hL
 ·exact fun e=>Stays.const
 ·exact r0'
 ·exact fun i st' h=>⟨h.e7,h.e8⟩
 ·clear r0'
  rintro i v ⟨O11,n11⟩ id lr hv hid hlp hI
  obtain ⟨hi,rfl⟩:=LJ hv
  dsimp only at hid hlp
  obtain ⟨htD,hkL⟩:=TN.idx_lt (i:=i) hi
  have hqi:=hql i hi
  have hin:i<n:=by omega
  generalize i / ls.length=t at *
  generalize i % ls.length=kk at *
  have hend:=oku.net.ends kk hkL
  obtain ⟨fu,hfu⟩:∃u,(ls.getD kk dL).1.toNat=u:=⟨_,rfl⟩
  obtain ⟨fv,hfv⟩:∃u,(ls.getD kk dL).2.1.toNat=u:=⟨_,rfl⟩
  have hf1:(ls.getD kk dL).1=(fu:Int):=by omega
  have hf2:(ls.getD kk dL).2.1=(fv:Int):=by omega
  rw [hfu,hfv]at hqi
  have hk1:=QY (ls:=ls) (us:=us) (r:=d.2.2.2.1) (k:=kk) (t:=t)
  have hk2:=QZ (ls:=ls) (us:=us) (r:=d.2.2.2.1) (k:=kk) (t:=t)
  have hk3:=Q0 (ls:=ls) (us:=us) (r:=d.2.2.2.1) (k:=kk) (t:=t)
  have hk4:=LI (ls:=ls) (us:=us) (r:=d.2.2.2.1) (k:=kk) (t:=t)
  rw [hf1]at hk2
  rw [hf2]at hk3
  generalize lfM ls us (kk:Nat) (d.2.2.2.1+(t:Int))=lf at *
  have w5:IntKind.i64.wrap (d.2.2.2.1+(t:Int)-d.2.2.2.1)=(t:Int):=by rw[Ag (by omega) (by omega)];omega
  have w6:IntKind.i64.wrap ((t:Int)+1)=((t+1:Nat):Int):=by rw[Ag (by omega) (by omega)];omega
  have b1:=bpt (hn:=hn) (ls:=ls) (us:=us) (d:=d) (h:=h) (x:=fu) (t:=t) hhi (by omega) (by omega) (by omega)
  have b2:=bpt (hn:=hn) (ls:=ls) (us:=us) (d:=d) (h:=h) (x:=fv) (t:=t+1) hhi (by omega) (by omega) (by omega)
  have hI1:=hI.new (some (.arr 0 54 [.agg (EN ls us d.2.2.2.1 kk t)]))
  have x5:Aa O11 n11 (some (.arr 0 54 [.agg (EN ls us d.2.2.2.1 kk t)])) n11=some (.arr 0 54 [.agg (EN ls us d.2.2.2.1 kk t)]):=by simp[Aa]
  have id1:¬id=n11:=by omega
  have id2:¬n11=id:=by omega
  have x6:Aa O11 n11 (some (.arr 0 54 [.agg (EN ls us d.2.2.2.1 kk t)])) id=some (.lp lr):=by simp only[Aa];rw[if_neg id1];exact hlp
  obtain ⟨O12,hO12⟩:∃O12:Nat→Option IObj,Aa O11 n11 (some (.arr 0 54 [.agg (EN ls us d.2.2.2.1 kk t)]))=O12:=⟨_,rfl⟩
  rw [hO12]at hI1 x5 x6
  simp +contextual (maxSteps:=4000000) only[↓bdD,bdP,Nat.reduceLT,Nat.reduceBEq,Nat.reduceAdd,Nat.reduceLeDiff,Store.new,Store.set,↓reduceIte,GU,jZ,hO12,x6,Cb,Fa,A4]
  intro rb
  have hI2:=hI1.lp x6 (some (.lp rb))
  have x5:Aa O12 id (some (.lp rb)) n11=some (.arr 0 54 [.agg (EN ls us d.2.2.2.1 kk t)]):=by simp only[Aa];rw[if_neg id2];exact x5
  have x6:Aa O12 id (some (.lp rb)) id=some (.lp rb):=by simp[Aa]
  generalize Aa O12 id (some (.lp rb))=O13 at *
  clear hO12
  obtain ⟨O14,sp,m14,fr⟩:=X8 hpo hnb hin hqi hI2.m
  have k1:=hI2.m.o0
  have k5:=hI2.m.o4
  have k6:=hI2.m.o5
  have hnx:=hI2.m.nx
  rw [Dv]at hnx
  dsimp only at k1 k5 k6 hnx
  have hidN:=hI2.m.lpid x6
  rw [Dv]at hidN
  have u6:O14 id=some (.lp rb):=by rw[fr _ hidN];exact x6
  simp +contextual (maxSteps:=4000000) only[↓bdD,bdP,Nat.reduceLT,Nat.reduceBEq,Nat.reduceEqDiff,Nat.reduceAdd,↓reduceIte,Ac,Ab,ty3,AX,B6,Gw,GU,Oq,x5,k1,k5,k6,hk1,hk2,hk3,hk4,w5,w6,b1,b2,sp,u6,Co,Gd]
  exact ⟨by omega,m14,by dsimp only;rw[fr _ (by omega)];exact hI2.z,by dsimp only;rw[fr _ (by omega)];exact hI2.e7,by dsimp only;rw[fr _ (by omega)];exact hI2.e8⟩
 ·clear r0'
  rintro ⟨O4,n4⟩ ⟨hI,z4,_,_⟩
  dsimp only at hI z4
  rw [Kg]at hI
  have w7:IntKind.i64.wrap (((D+1:Nat):Int)-1)=(D:Int):=by rw[Ag (by omega) (by omega)];omega
  simp +contextual (maxSteps:=4000000) only[↓bdD,bdP,Nat.reduceLT,Nat.reduceBEq,↓AQ,↓AL,↓Am,w7]
  refine Ax [12,13,86,87,88,89,90,91,92,93,94,95,96,97,98,99,100,101,102,103,104,105,106,107] D (fun t ρ st'=>ρ 86=I t∧BkM hn ls us d (bA q (D*ls.length+t*h)) (gO q N (D*ls.length+t*h)) st'.obj st'.next∧st'.obj 0=some (.arr 0 1 [])) (.refl _) ?_ ?_
  ·simp +contextual (maxSteps:=4000000) only[↓bdD,bdP]
   rw [Nat.zero_mul,Nat.add_zero]
   exact ⟨hI,z4⟩
  clear hI z4
  rintro t ρ1 ⟨O5,n5⟩ ht ⟨h86,hI,z5⟩
  dsimp only at hI z5
  by_cases htD:t<D
  ·have wt:=BF (k:=t) (by omega)
   have hti:(t:Int)<D:=by omega
   simp +contextual (maxSteps:=4000000) only[↓bdD,bdP,Nat.reduceLT,Nat.reduceBEq,Nat.reduceAdd,↓reduceIte,ty3,Aw,Bk,↓Bi,↓AQ,↓AL,↓Am,↓AK,h86,htD,hti]
   refine Ax [13,92,93,94,95,96,97,98,99,100,101,102,103,104,105,106] h (fun x ρ st'=>ρ 92=I x∧BkM hn ls us d (bA q (D*ls.length+(t*h+x))) (gO q N (D*ls.length+(t*h+x))) st'.obj st'.next∧st'.obj 0=some (.arr 0 1 [])) (.refl _) ?_ ?_
   ·simp +contextual (maxSteps:=4000000) only[↓bdD,bdP]
    exact ⟨hI,z5⟩
   clear hI z5
   rintro x ρ2 ⟨O6,n6⟩ hx ⟨h92,hI,z6⟩
   dsimp only at hI z6
   by_cases hxh:x<h
   ·have wx:=BF (k:=x) (by omega)
    have hxi:(x:Int)<hn:=by omega
    have hin:D*ls.length+(t*h+x)<n:=by have:=TN.row_lt htD hxh;omega
    have b1:=bpt (hn:=hn) (ls:=ls) (us:=us) (d:=d) (h:=h) (x:=x) (t:=t) hhi (by omega) (by omega) (by omega)
    have b2:=bpt (hn:=hn) (ls:=ls) (us:=us) (d:=d) (h:=h) (x:=x) (t:=t+1) hhi (by omega) (by omega) (by omega)
    obtain ⟨O7,sp7,m7,fr⟩:=X8 hpo hnb hin (hqh t x htD hxh) hI
    have k5:=hI.o4
    have k6:=hI.o5
    simp +contextual (maxSteps:=4000000) only[↓bdD,bdP,Nat.reduceLT,Nat.reduceBEq,Nat.reduceEqDiff,Nat.reduceAdd,↓reduceIte,Ac,Ab,ty3,Oq,jZ,↓Bi,↓AQ,↓AL,↓Am,↓AK,h92,hxi,wt,wx,b1,b2,sp7,k5,k6,Gd]
    exact ⟨hxh,m7,by rw[fr _ (by omega)];exact z6⟩
   ·have e:x=h:=by omega
    rw [e]at h92 hI
    have hs1:(t+1)*h=t*h+h:=Nat.succ_mul _ _
    rw [←hs1]at hI
    have hxi:¬(h:Int)<hn:=by omega
    simp +contextual (maxSteps:=4000000) only[↓bdD,bdP,Nat.reduceLT,Nat.reduceBEq,↓reduceIte,↓AQ,↓BW,↓Am,↓AK,h86,h92,hxi,wt]
    refine ⟨?_,hI,z6⟩
    rw [AF (by decide +kernel)]
    simp +contextual (maxSteps:=4000000) only[↓bdD,bdP,Nat.reduceBEq]
  ·have e:t=D:=by omega
   rw [e]at h86 hI
   rw [hn9]at hI
   simp +contextual (maxSteps:=4000000) only[↓bdD,bdP,Nat.reduceLT,Nat.reduceBEq,↓reduceIte,↓AQ,↓AL,↓BW,↓Am,↓AK,h86]
   obtain ⟨s,hs⟩:∃s,d.1.toNat=s:=⟨_,rfl⟩
   obtain ⟨fc,hfc⟩:∃s,d.2.1.toNat=s:=⟨_,rfl⟩
   obtain ⟨en,hen⟩:∃e,D*h+fc=e:=⟨_,rfl⟩
   have hsi:d.1=(s:Int):=by omega
   have hfi:d.2.1=(fc:Int):=by omega
   have hsh:s<h:=by omega
   have hfh:fc<h:=by omega
   rw [hs,hfc,hen]at hG
   have hsN:s<N:=by
    have := TN.row_lt (D:=D+1) (t:=0) (by omega) hsh
    rw [hN0]at this
    omega
   have heN:en<N:=by
    have := TN.row_lt (D:=D+1) (t:=D) (by omega) hfh
    rw [hN0]at this
    omega
   have hsen:s≠en:=fun e=>by
    have h5:D*h=0∨h≤D*h:=by
     rcases Nat.eq_zero_or_pos D with e | e
     ·left; rw[e,Nat.zero_mul]
     ·right; exact Nat.le_mul_of_pos_left h e
    omega
   have hR0:RSE q n (bA q n) (stE s en 0):=Ail hpo
   obtain ⟨C,hC⟩:∃C,Aj (fun i=>(q i).2.2.1) n=C:=⟨_,rfl⟩
   have htop:∀ {A:List Arc} {x:Int},RSE q n A (stE s en x)→x≤C:=fun R=>by rw[←hC];exact R.top hsen
   have hOl:(gO q N n).length=N:=Dv
   have hOm:∀ {A:List Arc} {E:Nat→Int},RSE q n A E→∀ {u:Nat},u<N→∀ {k:Nat},k∈(gO q N n).getD u []↔k<2*n∧aF A k=u:=fun {A} {E} R {u} hu {k}=>Af2 hpo R hu
   have hOc:∀u,((gO q N n).getD u []).length≤n:=MR hpo
   have sr:Ah HP Nq Nr [PV.lits 1 [I (-1)],I (N:Nat)]=some ((List.replicate N (-1:Int)).map (PV.int .i64)):=by
    have := Q4 (-1) N
    rw [if_pos (by omega)]at this
    rw [List.map_replicate]
    exact this
   have bs:Ah Ew HR HT [I d.1,I 0,frP hn ls us d]=some (I (s:Nat)):=by
    have := bpt (hn:=hn) (ls:=ls) (us:=us) (d:=d) (h:=h) (x:=s) (t:=0) hhi (by omega) (by omega) (by omega)
    rw [Nat.zero_mul,Nat.zero_add]at this
    have e:I d.1=I (s:Nat):=by rw[hsi]
    rw [e]
    exact this
   have be:Ah Ew HR HT [I d.2.1,I (D:Nat),frP hn ls us d]=some (I (en:Nat)):=by
    have := bpt (hn:=hn) (ls:=ls) (us:=us) (d:=d) (h:=h) (x:=fc) (t:=D) hhi (by omega) (by omega) (by omega)
    rw [hen]at this
    have e:I d.2.1=I (fc:Nat):=by rw[hfi]
    rw [e]
    exact this
   have hA0l:(bA q n).length=2*n:=GG
   generalize bA q n=A0 at *
   generalize hOUT:gO q N n=OUT at *
   refine CS [2,3,14,15,16,17,19,20,21,22,23,24,25,26,27,108,109,110,111,112,113,114,115,116,117,118,119,120,121,122,123,124,125,126,127,128,129,130,131,132,133,134,135,136,137,138,139,140,141,142,143,144,145,146,147,148,149,150,151,152,153,154,155,156,157,158,159,160,161,162,163,164,165,166,167,168,169,170,171,172,173,174,175,176,177,178,179,180,181,182,183,184,185,186,187,188,189,190,191,192,193,194,195,196,197,198,199,200,201,202,203,204,205,206,207,208,209,210,211,212,213,214,215,216,217,218,219,220,221,222,223,224,225,226,227,228,229,230,231,232,233,234,235,236,237,238,239,240,241,242,243,244,245,246,247,248,249,250,251,252,253,254,255,256,257,258,259,260,261,262,263,264,265,266,267,268,269,270,271,272,273,274,275,276,277,278,279,280,281,282] (C-0).toNat (fun m ρ st'=>∃A x g es,m=(C-x).toNat∧RSE q n A (stE s en x)∧BkM hn ls us d A OUT st'.obj st'.next∧st'.obj 0=some (.arr g 1 es)) (.refl _) ?_ ?_
   ·exact ⟨A0,0,0,[],rfl,hR0,hI,z5⟩
   clear hI z5 hR0 hA0l
   rintro m ρ3 ⟨O8,n8⟩ ⟨A,x,g,es,rfl,R,hI,z8⟩
   dsimp only at hI z8
   have hAl:=R.len
   have hxC:=htop R
   have k1:=hI.o0
   have k2:=hI.g.o1
   have k3:=hI.g.o2
   have k4:=hI.g.o3
   have k5:=hI.o4
   have k9:=hI.g.o6
   rw [hAl]at k9
   have hgl:(ED 5 OUT).length=N:=by rw[DV,hOl]
   have hnx:=hI.nx
   rw [hOl]at k4 hnx
   rw [hAl]at k2
   have hre:∀st:Store,st.obj 0=some (.arr g 1 es)→Store.re st 1 1 [I (s:Nat)] 1=some (.ref 0 (g+1) 0 1,⟨Aa st.obj 0 (some (.arr (g+1) 1 [I (s:Nat)])),st.next⟩):=fun st hst=>XI (nx:=st.next) (k:=0) hst
   have d9:¬9=n8:=by omega
   have d1:¬1=n8:=by omega
   have d2:¬2=n8:=by omega
   have d3:¬3=n8:=by omega
   have d4:¬4=n8:=by omega
   have d5:¬5=n8:=by omega
   have d0:¬0=n8:=by omega
   have d0':¬n8=0:=by omega
   have hsi2:(s:Int)<N:=by omega
   have z9:Aa O8 n8 (some (.arr 0 1 ((List.replicate N (-1:Int)).map (PV.int .i64)))) 0=some (.arr g 1 es):=by simp only[Aa];rw[if_neg d0];exact z8
   have hre9:=hre ⟨Aa O8 n8 (some (.arr 0 1 ((List.replicate N (-1:Int)).map (PV.int .i64)))),n8+1⟩ z9
   dsimp only at hre9
   simp +contextual (maxSteps:=4000000) only[↓bdD,bdP,Nat.reduceLT,Nat.reduceBEq,Nat.reduceEqDiff,Nat.reduceAdd,Nat.reduceLeDiff,Int.reduceLT,Int.reduceToNat,Store.new,Store.set,↓reduceIte,Ac,Ab,Nat.mul_one,ty3,AX,Bf,AZ,JM,Oq,↓AQ,↓AL,↓Am,k1,k2,k3,k4,k5,k9,sr,bs,be,w7,hre9,d0',d1,d2,d5,d9,hsi2,hsN,Gd]
   clear hre hre9 z9
   have hB0:BfS hn ls us d A OUT n8 ((List.replicate N (-1:Int)).set s ((2*n:Nat):Int)) (g+1) [s] ⟨Aa (Aa (Aa O8 n8 (some (.arr 0 1 ((List.replicate N (-1:Int)).map (PV.int .i64))))) 0 (some (.arr (g+1) 1 [I (s:Nat)]))) n8 (some (.arr 0 1 (((List.replicate N (-1:Int)).set s ((2*n:Nat):Int)).map (PV.int .i64)))),n8+1⟩:=by
    refine ⟨((hI.high (.inr (by rw[hOl];exact hnx)) (nx':=n8+1) (by omega)).high (.inl rfl) (Nat.le_refl _)).high (.inr (by rw[hOl];exact hnx)) (Nat.le_refl _),?_,?_,by rw[hOl];exact hnx,by dsimp only;omega⟩ <;> simp only[Aa]
    ·rw [if_neg (by omega),if_pos trivial];rfl
    ·rw [if_pos trivial]
   have hQ0:=BQ.ini (A:=A) (m:=n) (N:=N) (s:=s) hsN (x:=((2*n:Nat):Int)) (by omega)
   have hbe:(s:Int)<N:=hsi2
   have heNi:(en:Int)<N:=by omega
   refine Ax [15,17,19,20,130,131,132,133,134,135,136,137,138,139,140,141,142,143,144,145,146,147,148,149,150,151,152,153,154,155,156,157,158,159,160,161,162,163,164,165,166,167,168,169,170,171,172,173,174,175,176,177,178,179,180] N (fun k ρ st'=>ρ 17=I k∧∃bl ql rk g,ρ 15=.ref 0 g 0 ql.length∧k≤ql.length∧BQ A n N s bl ql rk∧BD A n ql k∧BfS hn ls us d A OUT n8 bl g ql st') (.refl _) ?_ ?_
   ·simp +contextual (maxSteps:=4000000) only[↓bdD,bdP,Nat.reduceBEq]
    exact ⟨_,[s],_,g+1,rfl,Nat.zero_le _,hQ0,fun j hj=>absurd hj (by omega),hB0⟩
   clear hB0 hQ0 z8 hI
   rintro k ρ4 ⟨O9,n9⟩ hk ⟨h17,bl,ql,rk,g4,h15,hkq,BB,BDk,S⟩
   have hqN:=BB.lenq
   have q0:=S.q
   have qb:=S.b
   have hb0:=S.b0
   have hb1:=S.b1
   rw [hOl]at hb0
   dsimp only at q0 qb hb1
   have hbl:=BB.len
   have hnql:(Ba ql).length=ql.length:=CB
   have e0:¬0=n8:=by omega
   by_cases c0:k<ql.length∧bl.getD en 0<0
   ·obtain ⟨c1,c2⟩:=c0
    have c1i:(k:Int)<ql.length:=by omega
    have wk:=BF (k:=k) (by omega)
    have hnk:=FZ c1
    obtain ⟨u,hu⟩:∃u,ql.getD k 0=u:=⟨_,rfl⟩
    have huN:u<N:=by
     have : ql.getD k 0∈ql:=by
      rw [List.getD_eq_getElem?_getD,List.getElem?_eq_getElem c1]
      exact List.getElem_mem _
     rw [hu]at this
     exact BB.mem u this
    have huq:u∈ql:=by
     rw [←hu,List.getD_eq_getElem?_getD,List.getElem?_eq_getElem c1]
     exact List.getElem_mem _
    have hui:(u:Int)<N:=by omega
    rw [hu]at hnk
    have l1:=S.m.g.o1
    have l2:=S.m.g.o2
    have l3:=S.m.g.o3
    have l9:=S.m.g.o6
    have lu:=S.m.g.o7 u (by rw[hOl];exact huN)
    rw [hOl]at l3
    rw [hAl]at l1 l9
    dsimp only at l1 l2 l3 l9 lu
    obtain ⟨iu,hiu⟩:∃i,10+u=i:=⟨_,rfl⟩
    have hnu:=Eu (B:=5) (out:=OUT) (u:=u) (by rw[hOl];exact huN)
    rw [show 5+5+u=iu by omega]at hnu
    rw [hiu]at lu
    have hnl:(Ba (OUT.getD u [])).length=(OUT.getD u []).length:=CB
    simp +contextual (maxSteps:=4000000) only[↓bdD,bdP,Nat.reduceLT,Nat.reduceBEq,Nat.reduceAdd,↓reduceIte,ty3,Bf,AZ,↓Bi,↓AQ,↓AL,↓Am,↓AK,h17,h15,q0,qb,hnql,hbl,heNi,heN,c1i,c2,hnk,l2,l3,lu,hgl,hnu,hui]
    refine Ax [15,19,20,151,152,153,154,155,156,157,158,159,160,161,162,163,164,165,166,167,168,169,170,171,172,173,174,175,176,177,178,179,180] (OUT.getD u []).length (fun j ρ st'=>ρ 151=I j∧∃bl ql' rk g,ρ 15=.ref 0 g 0 ql'.length∧(∃ext,ql'=ql++ext)∧BQ A n N s bl ql' rk∧BD A n ql' k∧(∀kk∈(OUT.getD u []).take j,0<aL A kk→aT A kk∈ql')∧BfS hn ls us d A OUT n8 bl g ql' st') (.refl _) ?_ ?_
    ·simp +contextual (maxSteps:=4000000) only[↓bdD,bdP,Nat.reduceBEq]
     exact ⟨bl,ql,rk,g4,h15,⟨[],by simp⟩,BB,BDk,by simp,S⟩
    clear S BB BDk q0 qb hbl c2 h15 hqN hnql l1 l2 l3 l9 lu
    rintro j ρ5 ⟨O10,n10⟩ hj ⟨h151,bl,ql',rk,g5,h15,⟨ext,hext⟩,BB,BDk,hdone,S⟩
    have hqN:=BB.lenq
    have q0:=S.q
    have qb:=S.b
    have hb1:=S.b1
    have hbl:=BB.len
    dsimp only at q0 qb hb1
    have hnql:(Ba ql').length=ql'.length:=CB
    have lu:=S.m.g.o7 u (by rw[hOl];exact huN)
    have l1:=S.m.g.o1
    have l9:=S.m.g.o6
    rw [hAl]at l1 l9
    dsimp only at l1 l9 lu
    rw [hiu]at lu
    by_cases hjl:j<(OUT.getD u []).length
    ·have wj:=BF (k:=j) (by have:=hOc u;omega)
     have hjli:(j:Int)<(OUT.getD u []).length:=by omega
     have hnj:=FZ hjl
     obtain ⟨kk,hkk⟩:∃kk,(OUT.getD u []).getD j 0=kk:=⟨_,rfl⟩
     have hkm:kk∈OUT.getD u []:=by
      rw [←hkk]
      generalize OUT.getD u []=lo at *
      rw [List.getD_eq_getElem?_getD,List.getElem?_eq_getElem hjl]
      exact List.getElem_mem _
     obtain ⟨hk2,hkF⟩:=(hOm R huN).1 hkm
     have htk:(OUT.getD u []).take (j+1)=(OUT.getD u []).take j ++ [kk]:=by
      rw [←hkk]
      generalize OUT.getD u []=lo at *
      rw [List.take_add_one,List.getElem?_eq_getElem hjl,List.getD_eq_getElem?_getD,List.getElem?_eq_getElem hjl]
      rfl
     rw [hkk]at hnj
     have hki:(kk:Int)<((2*n:Nat):Int):=by omega
     have hnA:=Ci (l:=A) (k:=kk) (by omega)
     have hTN:=(R.end hpo hk2).2
     have hTi:((aT A kk:Nat):Int)<N:=by omega
     have eT:(A.getD kk dA).2.1=aT A kk:=rfl
     have eL:(A.getD kk dA).2.2.1=aL A kk:=rfl
     have eF:(A.getD kk dA).1=aF A kk:=rfl
     have f0:¬0=n10:=by omega
     have f1:¬n10=0:=by omega
     have f2:¬n8=n10:=by omega
     have f3:¬n10=n8:=by omega
     have f4:¬0=n8:=by omega
     have f5:¬n8=0:=by omega
     have S1:=S.new (some (.arr 0 4 [Dc (A.getD kk dA)]))
     have hFq:aF A kk∈ql':=by rw[hkF,hext];exact List.mem_append_left _ huq
     by_cases p1:0<aL A kk
     case neg =>
      simp +contextual (maxSteps:=4000000) only[↓bdD,bdP,Nat.reduceLT,Nat.reduceBEq,Nat.reduceAdd,Nat.reduceLeDiff,Store.new,Store.set,↓reduceIte,ty3,AZ,JM,Mr,↓Bi,↓AQ,↓AL,↓Am,↓AK,h151,h15,hjli,hjl,hnj,l1,l9,lu,hnl,hki,hnA,eT,eL,eF,p1,f1,wj,A4]
      refine ⟨by omega,bl,ql',rk,g5,rfl,⟨ext,hext⟩,BB,BDk,fun k' hk' hl'=>?_,S1⟩
      rw [htk,List.mem_append,List.mem_singleton]at hk'
      rcases hk' with hk' | rfl
      ·exact hdone k' hk' hl'
      ·exact absurd hl' p1
     by_cases p2:bl.getD (aT A kk) 0<0
     case neg =>
      simp +contextual (maxSteps:=4000000) only[↓bdD,bdP,Nat.reduceLT,Nat.reduceBEq,Nat.reduceAdd,Nat.reduceLeDiff,Store.new,Store.set,↓reduceIte,ty3,AZ,JM,Mr,↓Bi,↓AQ,↓AL,↓Am,↓AK,h151,h15,qb,hbl,hjli,hjl,hnj,l1,l9,lu,hnl,hki,hnA,hTi,hTN,eT,eL,eF,p1,p2,f1,f2,wj,A4]
      refine ⟨by omega,bl,ql',rk,g5,rfl,⟨ext,hext⟩,BB,BDk,fun k' hk' hl'=>?_,S1⟩
      rw [htk,List.mem_append,List.mem_singleton]at hk'
      rcases hk' with hk' | rfl
      ·exact hdone k' hk' hl'
      ·exact (BB.seen _ hTN).1 (by omega)
     simp +contextual (maxSteps:=4000000) only[↓bdD,bdP,Nat.reduceLT,Nat.reduceBEq,Nat.reduceAdd,Nat.reduceLeDiff,Store.new,Store.set,↓reduceIte,Nat.mul_one,ty3,AZ,JM,Mr,↓Bi,↓AQ,↓AL,↓Am,↓AK,h151,h15,q0,qb,hnql,hbl,hjli,hjl,hnj,l1,l9,lu,hnl,hki,hnA,hTi,hTN,eT,eL,eF,p1,p2,f0,f1,f2,f3,f4,f5,wj,A4]
     refine ⟨by omega,by omega,bl.set (aT A kk) (kk:Int),ql' ++ [aT A kk],_,g5+1,by rw[List.length_append];rfl,⟨ext ++ [aT A kk],by rw[hext,List.append_assoc]⟩,BB.add hk2 hTN hFq p1 p2,BDk.app (by rw[hext,List.length_append];omega),fun k' hk' hl'=>?_,?_⟩
     ·rw [htk,List.mem_append,List.mem_singleton]at hk'
      rcases hk' with hk' | rfl
      ·exact List.mem_append_left _ (hdone k' hk' hl')
      ·exact List.mem_append_right _ (by simp)
     ·have htq:List.take ql'.length (Ba ql') ++ [I ((aT A kk:Nat):Int)]=Ba (ql' ++ [aT A kk]):=by rw[J9,List.take_of_length_le (by rw[hnql];exact Nat.le_refl _)]
      rw [htq]
      exact (S1.setb _).setq _ _
    ·have ej:j=(OUT.getD u []).length:=by omega
     rw [ej,List.take_length]at hdone
     have hql:k<ql'.length:=by rw[hext,List.length_append];omega
     have huk:ql'.getD k 0=u:=by rw[←hu,hext,List.getD_eq_getElem?_getD,List.getElem?_append_left c1,←List.getD_eq_getElem?_getD]
     simp +contextual (maxSteps:=4000000) only[↓bdD,bdP,Nat.reduceLT,Nat.reduceBEq,↓reduceIte,↓AQ,↓BW,↓Am,↓AK,h151,h15,hjl,wk,h17]
     refine ⟨by omega,?_,bl,ql',rk,g5,rfl,hql,BB,fun j' hj' k' hk' hF' hl'=>?_,S⟩
     ·rw [AF (by decide +kernel)]
      simp +contextual (maxSteps:=4000000) only[↓bdD,bdP,Nat.reduceBEq]
     ·by_cases e:j'=k
      ·subst e
       rw [huk]at hF'
       exact hdone k' ((hOm R huN).2 ⟨hk',hF'⟩) hl'
      ·exact BDk j' (by omega) k' hk' hF' hl'
   ·by_cases hE:bl.getD en 0<0
    ·have c1:¬k<ql.length:=fun g=>c0 ⟨g,hE⟩
     have c1i:¬(k:Int)<ql.length:=by omega
     have hCl:=BB.cls R (show k=ql.length by omega) BDk (fun g=>by have:=(BB.seen en heN).2 g;omega)
     have hbs:∀v,v<N→(0≤bl.getD v 0↔NZ G v):=fun v hv=>by rw[hG];exact (BB.seen v hv).trans (hCl.eq (QC hpo hsN heN) v)
     obtain ⟨F,hF⟩:∃F:Nat→Nat→Int,F=fun y j=>frT (fun t=>NZ G (t*h+y)) d.2.2.2.1 (d.2.2.2.2+1) D j:=⟨_,rfl⟩
     have hF0:∀y,F y 0=d.2.2.2.2+1:=fun y=>by rw[hF];rfl
     have hFp:∀y j,0≤bl.getD ((D-j)*h+y) 0→(D-j)*h+y<N→F y (j+1)=d.2.2.2.1+((D-j:Nat):Int):=fun y j g1 g2=>by rw[hF];exact Q6 (P:=fun t=>NZ G (t*h+y)) ((hbs _ g2).1 g1)
     have hFn:∀y j,¬0≤bl.getD ((D-j)*h+y) 0→(D-j)*h+y<N→F y (j+1)=F y j:=fun y j g1 g2=>by rw[hF];exact Q7 (P:=fun t=>NZ G (t*h+y)) (fun g=>g1 ((hbs _ g2).2 g))
     have hRF:R1=BA h fun y=>F y (D+1):=by rw[hRL,hF]
     clear hF hCl hbs
     have w8:IntKind.i64.wrap (d.2.2.2.2+1)=d.2.2.2.2+1:=Ag (by omega) (by omega)
     have sr2:Ah HP Nq Nr [PV.lits 1 [I (d.2.2.2.2+1)],I hn]=some ((BA h fun _=>d.2.2.2.2+1).map (PV.int .i64)):=by
      have := Q4 (d.2.2.2.2+1) h
      rw [if_pos (by omega)]at this
      have e:I hn=I (h:Nat):=by rw[hhi]
      rw [Fj,e]
      exact this
     have l0:=S.m.o0
     have l5:=S.m.o4
     dsimp only at l0 l5
     have f0:¬1=n9:=by omega
     have f1:¬5=n9:=by omega
     have f2:¬n8=n9:=by omega
     have hrl:∀f,(BA h f).length=h:=fun f=>CE
     simp +contextual (maxSteps:=4000000) only[↓bdD,bdP,Nat.reduceLT,Nat.reduceBEq,Nat.reduceEqDiff,Nat.reduceAdd,Nat.reduceLeDiff,Store.new,↓reduceIte,Nat.mul_one,ty3,Aw,AX,Bk,AZ,↓AQ,↓AL,↓BW,↓Am,↓AK,h17,h15,q0,qb,hbl,heNi,heN,c1i,hE,sr2,w8,l0,hrl]
     refine Ax [22,23,196,197,198,199,200,201,202,203,204,205,206,207,208,209,210,211,212,213,214,215,216,217,218,219,220] h (fun y ρ st'=>ρ 196=I y∧st'=⟨Aa O9 n9 (some (.arr 0 1 ((BA h fun z=>if z<y then F z (D+1)else d.2.2.2.2+1).map (PV.int .i64)))),n9+1⟩) (.refl _) ?_ ?_
     ·simp +contextual (maxSteps:=4000000) only[↓bdD,bdP]
      simp only[Nat.not_lt_zero,if_false]
     rintro y ρ5 st' hy ⟨h196,rfl⟩
     by_cases hyh:y<h
     ·have wy:=BF (k:=y) (by omega)
      have hyi:(y:Int)<h:=by omega
      simp +contextual (maxSteps:=4000000) only[↓bdD,bdP,Nat.reduceLT,Nat.reduceBEq,↓Bi,↓AQ,↓AL,↓Am,↓AK,h196,hyh,hyi,w7]
      refine Ax [23,201,202,203,204,205,206,207,208,209,210,211,212,213,214,215,216,217,218,219] (D+1) (fun j ρ st'=>ρ 23=I ((D:Int)-(j:Int))∧st'=⟨Aa O9 n9 (some (.arr 0 1 ((BA h fun z=>if z<y then F z (D+1)else if z=y then F y j else d.2.2.2.2+1).map (PV.int .i64)))),n9+1⟩) (.refl _) ?_ ?_
      ·simp +contextual (maxSteps:=4000000) only[↓bdD,bdP]
       refine ⟨by omega,?_⟩
       rw [Eb fun z hz=>?_]
       by_cases g1:z<y
       ·rw [if_pos g1,if_pos g1]
       ·rw [if_neg g1,if_neg g1]
        by_cases g2:z=y
        ·rw [if_pos g2,hF0]
        ·rw [if_neg g2]
      rintro j ρ6 st' hj ⟨h23,rfl⟩
      by_cases hjD:j<D+1
      ·have htj:(D:Int)-(j:Int)=((D-j:Nat):Int):=by omega
       have h0j:0≤(D:Int)-(j:Int):=by omega
       have hpN:(D-j)*h+y<N:=by
        have := TN.row_lt (D:=D+1) (t:=D-j) (by omega) hyh
        rw [hN0]at this
        exact this
       have hpNi:(((D-j)*h+y:Nat):Int)<N:=by omega
       have bt:=bpt (hn:=hn) (ls:=ls) (us:=us) (d:=d) (h:=h) (x:=y) (t:=D-j) hhi (by omega) (by omega) (by omega)
       rw [←htj]at bt
       have wj:IntKind.i64.wrap ((D:Int)-(j:Int)-1)=(D:Int)-((j+1:Nat):Int):=by rw[Ag (by omega) (by omega)];omega
       have wr:IntKind.i64.wrap (d.2.2.2.1+((D:Int)-(j:Int)))=d.2.2.2.1+((D:Int)-(j:Int)):=Ag (by omega) (by omega)
       have hyi2:(y:Int)<h:=hyi
       by_cases p:0≤bl.getD ((D-j)*h+y) 0
       ·have hru:=Il (h:=h) (x:=y) (f:=fun z=>if z<y then F z (D+1)else if z=y then F y j else d.2.2.2.2+1) (v:=d.2.2.2.1+((D:Int)-(j:Int))) hyh
        have hset:=Fi (h:=h) (x:=y) (f:=fun z=>if z<y then F z (D+1)else if z=y then F y j else d.2.2.2.2+1) (v:=d.2.2.2.1+((D:Int)-(j:Int))) hyh
        have hfj:=hFp y j p hpN
        simp +contextual (maxSteps:=4000000) only[↓bdD,bdP,Nat.reduceLT,Nat.reduceBEq,Nat.reduceEqDiff,Nat.reduceAdd,Nat.reduceLeDiff,Store.set,↓reduceIte,Ac,Ab,ty3,AX,AZ,Oq,↓Bi,↓AQ,↓AL,↓Am,↓AK,h23,h0j,f0,f1,f2,l0,l5,qb,bt,hbl,hpN,hpNi,p,wj,wr,hrl,hyh,hyi2,hset,A4,Gd]
        refine ⟨hjD,?_⟩
        rw [Eb fun z hz=>?_]
        by_cases g2:z=y
        ·subst g2
         rw [if_pos rfl,if_neg (Nat.lt_irrefl _),if_pos rfl,hfj,htj]
        ·rw [if_neg g2,if_neg g2]
       ·have hfj:=hFn y j p hpN
        simp +contextual (maxSteps:=4000000) only[↓bdD,bdP,Nat.reduceLT,Nat.reduceBEq,Nat.reduceEqDiff,Nat.reduceAdd,↓reduceIte,Ac,Ab,ty3,AZ,Oq,↓Bi,↓AQ,↓AL,↓Am,↓AK,h23,h0j,f1,f2,l5,qb,bt,hbl,hpN,hpNi,p,wj,Gd]
        refine ⟨hjD,?_⟩
        rw [hfj]
      ·have e:j=D+1:=by omega
       rw [e]at h23 ⊢
       have h0j:¬0≤(D:Int)-((D+1:Nat):Int):=by omega
       simp +contextual (maxSteps:=4000000) only[↓bdD,bdP,Nat.reduceLT,Nat.reduceBEq,↓reduceIte,↓AQ,↓BW,↓Am,↓AK,h196,h23,h0j,wy]
       refine ⟨?_,?_⟩
       ·rw [AF (by decide +kernel)]
        simp +contextual (maxSteps:=4000000) only[↓bdD,bdP,Nat.reduceBEq]
       ·rw [Eb fun z hz=>?_]
        by_cases g1:z<y
        ·rw [if_pos g1,if_pos (by omega)]
        ·rw [if_neg g1]
         by_cases g2:z=y
         ·rw [if_pos g2,if_pos (by omega),g2]
         ·rw [if_neg g2,if_neg (by omega)]
     ·have e:y=h:=by omega
      rw [e]at h196 ⊢
      simp +contextual (maxSteps:=4000000) only[↓bdD,bdP,Nat.reduceLT,Nat.reduceBEq,Ai,↓reduceIte,↓AQ,↓BW,↓I3,↓Am,↓AK,h196]
      rw [hRF,Eb (h:=h) (f:=fun y=>F y (D+1)) (g:=fun z=>if z<h then F z (D+1)else d.2.2.2.2+1) fun z hz=>by rw[if_pos hz]]
      exact Af5 (by simp[Aa])
    ·have hEq:en∈ql:=(BB.seen en heN).1 (by omega)
     have h0q:0<ql.length:=List.length_pos_of_mem hEq
     have h0qi:(0:Int)<ql.length:=by omega
     have hs0:=FZ h0q
     rw [BB.src.1]at hs0
     have l1:=S.m.g.o1
     have l9:=S.m.g.o6
     rw [hAl]at l1 l9
     dsimp only at l1 l9
     by_cases c1:k<ql.length
     case' pos =>
      have c1i:(k:Int)<ql.length:=by omega
     case' neg =>
      have c1i:¬(k:Int)<ql.length:=by omega
     all_goals
      simp +contextual (maxSteps:=4000000) only[↓bdD,bdP,Nat.reduceLT,Nat.reduceBEq,Nat.reduceAdd,↓reduceIte,ty3,AZ,↓Bi,↓AQ,↓AL,↓BW,↓Am,↓AK,h17,h15,q0,qb,hbl,heNi,heN,c1i,hE]
      refine CS [24,25,223,224,225,226,227,228,229,230,231,232,233,234,235,236,237,238,239,240,241,242,243,244,245] (rk en) (fun m ρ st'=>∃a l W,m=rk a∧ρ 25=I (a:Nat)∧ρ 24=I l∧st'=⟨O9,n9⟩∧PW A s bl ql W a l∧0<l∧l≤1152921504606846976∧W en) (.refl _) ?_ ?_
      ·refine ⟨en,1152921504606846976,fun w=>w=en,rfl,?_,?_,rfl,⟨rfl,fun w hw=>by rw[hw];exact hEq,fun w hw=>.inl hw⟩,by decide,by decide,rfl⟩ <;> simp +contextual (maxSteps:=4000000) only[↓bdD,bdP,Nat.reduceBEq]
      rintro m ρ5 st' ⟨a,l,W,rfl,h25,h24,rfl,P,hl0,hl1,hW⟩
      by_cases has:a=s
      case neg =>
       obtain ⟨kk,hk2,hka,hkT,hkl,hkF,hrk⟩:=BB.by_ a (P.mem a P.cur) has
       have haN:=BB.mem a (P.mem a P.cur)
       have hai:(a:Int)<N:=by omega
       have hki:(kk:Int)<((2*n:Nat):Int):=by omega
       have hnA:=Ci (l:=A) (k:=kk) (by omega)
       have eL:(A.getD kk dA).2.2.1=aL A kk:=rfl
       have eF:(A.getD kk dA).1=aF A kk:=rfl
       have hmin:(if aL A kk<l then aL A kk else l)=min l (aL A kk):=by split <;> omega
       simp +contextual (maxSteps:=4000000) only[↓bdD,bdP,Nat.reduceLT,Nat.reduceBEq,Nat.reduceAdd,Int.reduceToNat,↓reduceIte,ty3,AZ,JM,Mr,↓Bi,↓AQ,↓AL,↓Am,↓AK,h15,h25,h24,has,q0,qb,hnql,hbl,h0qi,hs0,l1,l9,hAl,haN,hai,hka,hki,hnA,eL,eF,hmin]
       exact ⟨rk (aF A kk),hrk,aF A kk,min l (aL A kk),_,rfl,rfl,rfl,P.step BB has hka,by omega,by omega,.inl hW⟩
      rw [has]at h25 P
      simp +contextual (maxSteps:=4000000) only[↓bdD,bdP,Nat.reduceLT,Nat.reduceBEq,Nat.reduceAdd,Int.reduceToNat,↓reduceIte,ty3,AZ,↓AQ,↓AL,↓BW,↓Am,↓AK,h15,h25,q0,hnql,h0qi,hs0]
      refine CS [26,27,247,248,249,250,251,252,253,254,255,256,257,258,259,260,261,262,263,264,265,266,267,268,269,270,271,272,273,274,275,276,277,278,279,280,281,282] (rk en) (fun m ρ st'=>∃a A',m=rk a∧ρ 26=I (a:Nat)∧PA q n s en A bl W rk x l A' a∧BfS hn ls us d A' OUT n8 bl g4 ql st') (.refl _) ?_ ?_
      ·refine ⟨en,A,rfl,?_,PA.ini R P hW,S⟩
       simp +contextual (maxSteps:=4000000) only[↓bdD,bdP]
      clear has a S q0 qb hb1 l1 l9
      rintro m ρ6 ⟨O10,n10⟩ ⟨a,A',rfl,h26,PP,S⟩
      have q0:=S.q
      have qb:=S.b
      have hb1:=S.b1
      have l1:=S.m.g.o1
      have l9:=S.m.g.o6
      have hA'l:=PP.rs.len
      rw [hA'l]at l1 l9
      dsimp only at q0 qb hb1 l1 l9
      by_cases has:a=s
      case pos =>
       rw [has]at h26 PP
       have R2:=PP.end_
       have htp:=htop R2
       simp +contextual (maxSteps:=4000000) only[↓bdD,bdP,Nat.reduceLT,Nat.reduceBEq,Nat.reduceAdd,Int.reduceToNat,↓reduceIte,ty3,AZ,↓AQ,↓BW,↓Am,↓AK,h15,h26,q0,hnql,h0qi,hs0]
       refine ⟨(C-(x+l)).toNat,by omega,?_,A',x+l,g4,Ba ql,rfl,R2,S.m,rfl,rfl⟩
       rw [AF (by decide +kernel)]
       simp +contextual (maxSteps:=4000000) only[↓bdD,bdP,Nat.reduceBEq]
       rw [AF (by decide +kernel)]
       simp +contextual (maxSteps:=4000000) only[↓bdD,bdP,Nat.reduceBEq]
       rw [AF (by decide +kernel)]
       simp +contextual (maxSteps:=4000000) only[↓bdD,bdP,Nat.reduceBEq]
      obtain ⟨kk,hk2,hka,hkT,hkl,hkF,hrk⟩:=BB.by_ a (P.mem a PP.cur) has
      have haN:=BB.mem a (P.mem a PP.cur)
      obtain ⟨P2,_,hll2,_,_⟩:=PP.step BB R P has hka (by omega)
      have hai:(a:Int)<N:=by omega
      have hki:(kk:Int)<((2*n:Nat):Int):=by omega
      have hrv:=Ow hk2
      have hrvi:((rv kk:Nat):Int)<((2*n:Nat):Int):=by omega
      have hrne:=kJ (k:=kk)
      have hle:=PP.rs.le hk2 hcp
      have hn0:=PP.rs.nn _ hrv
      have hA1l:(CP A' kk (-l)).length=2*n:=by rw[Eo,hA'l]
      have hA2l:(CG A' l kk).length=2*n:=by rw[Ep,hA'l]
      have hLr:aL (CP A' kk (-l)) (rv kk)=aL A' (rv kk):=by rw[Mx (by omega),if_neg hrne]
      have w1:IntKind.i64.wrap ((A'.getD kk dA).2.2.1-l)=(A'.getD kk dA).2.2.1 + -l:=by
       have e:(A'.getD kk dA).2.2.1=aL A' kk:=rfl
       rw [e,Ag (by omega) (by omega)];omega
      have w2:IntKind.i64.wrap (((CP A' kk (-l)).getD (rv kk) dA).2.2.1+l)=((CP A' kk (-l)).getD (rv kk) dA).2.2.1+l:=by
       have e:((CP A' kk (-l)).getD (rv kk) dA).2.2.1=aL (CP A' kk (-l)) (rv kk):=rfl
       rw [e,hLr,Ag (by omega) (by omega)]
      have hs1:=LF (A:=A') (k:=kk) (x := -l)
      have hs2:=LF (A:=CP A' kk (-l)) (k:=rv kk) (x:=l)
      have hau:CP (CP A' kk (-l)) (rv kk) l=CG A' l kk:=rfl
      have hnA:=Ci (l:=A') (k:=kk) (by omega)
      have hnA1:=Ci (l:=CP A' kk (-l)) (k:=kk) (by omega)
      have hnA2:=Ci (l:=CP A' kk (-l)) (k:=rv kk) (by omega)
      have hnA3:=Ci (l:=CG A' l kk) (k:=kk) (by omega)
      have hbk:((CP A' kk (-l)).getD kk dA).2.2.2=((rv kk:Nat):Int):=by
       have e:((CP A' kk (-l)).getD kk dA).2.2.2=aP (CP A' kk (-l)) kk:=rfl
       rw [e,Wd (by omega),PP.rs.bk kk hk2]
      have hfm:((CG A' l kk).getD kk dA).1=aF A kk:=by
       have e:((CG A' l kk).getD kk dA).1=aF (CG A' l kk) kk:=rfl
       rw [e,Qp hA'l hk2,(Q5 hk2 PP.rs).1,(Q5 hk2 R).1]
      have S2:=S.arcs (A':=CG A' l kk) Ep
      rw [hA'l]at S2
      rw [hau]at hs2
      generalize CG A' l kk=A2 at *
      generalize rv kk=rk2 at *
      generalize CP A' kk (-l)=A1 at *
      have e9:¬9=n8:=by omega
      have e2:¬2=n8:=by omega
      simp +contextual (maxSteps:=4000000) only[↓bdD,bdP,Nat.reduceLT,Nat.reduceBEq,Nat.reduceAdd,Nat.reduceLeDiff,reduceCtorEq,Int.reduceToNat,Store.set,↓reduceIte,ty3,AZ,JM,Mr,↓Bi,↓AQ,↓AL,↓Am,↓AK,h15,h26,h24,has,q0,qb,hnql,hbl,h0qi,hs0,l1,l9,hA'l,hA1l,hA2l,haN,hai,hka,hki,hk2,hrv,hrvi,hnA,hnA1,hnA2,hnA3,hbk,hfm,w1,w2,hs1,hs2,A4]
      exact ⟨rk (aF A kk),hrk,aF A kk,A2,rfl,rfl,P2,S2⟩
 ·exact fun j st' h=>h.elim
 ·exact fun st' h=>h.elim
theorem Aav:Yd:=Aat Aau
end Sim
