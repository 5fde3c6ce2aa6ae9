/- Contracts of functions: from the ideal run of a body; by values; in a table. -/
import Derived.Test.YtppljhpecoeakaaSimT
set_option linter.unusedVariables false
set_option linter.unusedSimpArgs false
namespace Sim
open Go
theorem Gp {X:Cfg} (hyl:X.yl=none) (hX:El X) (hq:Bo X) (hmix:X.P.follows .mixedOrders=true) {f:FuncId} {fn:Func} {c:Code} (hf:X.P.funcs[f]?=some fn) (hb:fn.body=some c)
  (hname : (fn.name == "runtime.NumGoroutine") = false) {args : List PV} (hn : args.length ≤ fn.ntmps) {st : Store} {s0 : IState} (hg : Ghost ⟨FC args, st⟩ s0) {Q : PV → Store → Prop}
  (h : run X fn.ntmps (Ai X.P fn.results.toList Q) c [] s0):IXC X.P f args st Q:=by
 refine ⟨⟨fn,hf,by simp[hb],hname⟩,fun C w vals hi hv=>?_⟩
 have hi1:Inv { C with keep:=C.keep,caller:=C.keep } st w:=hi.same C.keep C.keep (fun _ h=>h)
 have hv1:IXC.VRs { C with keep:=C.keep,caller:=C.keep } vals args:=⟨hv.1,fun i p hp=>VR.same (C:=C) (C':={ C with keep:=C.keep,caller:=C.keep }) rfl rfl rfl (hv.2 i p hp)⟩
 obtain ⟨C0,hle0,hs0⟩:=hg.sound (Ll hi1 hv1 hn (fun _ h=>h))
 refine (callsIn_FR (rd:=none) (n:=0)).1 (callsIn_of_wp_marks hf hb trivial (wpIn_mono (Oh (Oi X.dep) X none C0 hX hq hmix (RU hyl) (.inl rfl) _ c _ C0 _ _ w (Ctx.le.refl C0).lek h hs0) fun e a w' hr=>?_))
 obtain ⟨e',C',s',h1,h2,h3,h4⟩:=hr
 replace h2:=hle0.trans h2
 have fin:(∃p,PO X.P fn.results.toList s'=some p∧Q p s'.st)→LeavesInM (FR none) 0 X.P fn a.tmps (fun e w'=>∃v C' r st',e=.returned v∧C.le C'∧Inv C' st' w'∧VR C' v r∧Q r st') a.defers .returning w':=by
  rintro ⟨p,hp,hQ⟩
  refine Ho a.defers C' w' h3.inv h3.defers h3.nodup h3.own fun C2 w2 e1 e2 e3 e4 e5 e6 e7 e8 hk hi2=>?_
  have hs2:Simul fn.ntmps C2 s' { tmps:=a.tmps,defers := [] } w2:=⟨fun d hd=>by simp at hd,List.nodup_nil,fun b hb=>hk b (by rw[←e8];exact hb),h3.size,fun t ht=>(h3.tmp t ht).same e1 e2 e3,h3.out,hi2⟩
  obtain ⟨v,hv,hv'⟩:=Mg hs2 hp
  have hck:∀b,C.keep b=true→C2.keep b=true:=fun b hb=>hk b (by rw[h2.caller];exact hb)
  refine ⟨v,hv,v,{ C2 with keep:=C.keep,caller:=C.caller },p,s'.st,rfl,?_,hi2.same C.keep C.caller hck,VR.same (C:=C2) (C':={ C2 with keep:=C.keep,caller:=C.caller }) rfl rfl rfl hv',hQ⟩
  exact ⟨fun b o u hu=>by rw[e1];exact h2.imm b o u hu,fun b o hb=>by show C2.imm b o=_;rw[e1];exact h2.old b o hb,fun id hb=>by show C2.born id;rw[e3];exact h2.born id hb,
   fun id hb L' hL=>h2.loc id hb L' (by rw[←e2];exact hL),e4.trans h2.B,e5.trans h2.h,e6.trans h2.os,e7.trans h2.out,fun _ h=>h,rfl⟩
 cases e <;> cases e' <;> first | (exact h1.elim) | skip
 ·exact fin h4
 ·exact h4.elim
 ·exact fin h4
def st0:Store:=⟨fun _=>none,0⟩
def stR (n:Nat):Store:=⟨fun i=>if i<n then some (.arr 0 1 [])else none,n⟩
theorem Ky {ρ:Nat→PV}:∀n,Ghost ⟨ρ,st0⟩ ⟨ρ,stR n⟩
 | 0=>by
  have : stR 0=st0:=by simp[stR,st0]
  rw [this];exact .refl _
 | n+1=>by
  refine .trans (Ky n) ?_
  have : stR (n+1)=(stR n).new (.arr 0 1 []):=by
   simp only[stR,Store.new]
   congr 1
   funext i
   simp only[Aa]
   by_cases h:i=n
   ·simp [h]
   ·by_cases h2:i<n
    ·simp [h,h2,show i<n+1 by omega]
    ·simp [h,h2,show ¬i<n+1 by omega]
  rw [this]
  exact .res _ 1 (by omega)
theorem R7 {imm:Nat→Nat→Option Value} {w:World} (h:∀b o u,imm b o=some u→w.cell? ⟨b,o,none⟩=some u):Inv (base imm w) st0 w where
 os := rfl
 out := rfl
 hB := Nat.le_refl _
 old := fun b _=>rfl
 imm := h
 next := fun _ _ h=>h
 none_ := fun _ _=>rfl
 obj := fun id o h=>by simp[st0]at h
 sep := fun id id' L L' _ h=>by simp[base]at h
 keep := fun b h=>by simp[base]at h
theorem YL {X:Cfg} (hyl:X.yl=none) (hX:El X) (hq:Bo X) (hmix:X.P.follows .mixedOrders=true) {f:FuncId} {fn:Func} {c:Code} (hf:X.P.funcs[f]?=some fn) (hb:fn.body=some c)
  (hname : (fn.name == "runtime.NumGoroutine") = false) {args : List PV} (hn : args.length ≤ fn.ntmps) {r : PV} {s0 : IState} (hg : Ghost ⟨FC args, st0⟩ s0)
  (h : run X fn.ntmps (Ai X.P fn.results.toList (fun p st=>DR st p r)) c [] s0):VC X.P f args r:=by
 obtain ⟨hen,hc⟩:=Gp hyl hX hq hmix hf hb hname hn hg h
 refine ⟨hen,fun imm w vals himm hv=>?_⟩
 refine Calls.mono (hc _ w vals (R7 himm) hv) fun e w' he=>?_
 obtain ⟨v,C',p,st',rfl,hle,hi,hvp,hdr⟩:=he
 have hBB:C'.B=w.heap.size:=hle.B
 have hold:∀b,b<w.heap.size→w'.heap[b]?=w.heap[b]?:=fun b hb=>by
  rw [hi.old b (by omega),hle.h];rfl
 refine ⟨v,rfl,⟨by rw[hi.os,hle.os];rfl,by rw[hi.out,hle.out];rfl⟩,hold,by have:=hi.hB;omega,?_⟩
 refine hdr.sound (imm:=DM imm w.heap.size w') hi (fun b o u hu=>?_) (fun id L hL hcap o u hu=>?_) hvp
 ·unfold DM
  split
  ·rename_i hlt
   have := hle.old b o hlt
   rw [this]at hu;exact hu
  ·exact hi.imm b o u hu
 ·obtain ⟨ob,_,_,hat⟩:=hi.live hL
  have :=(hat.own hcap).1
  unfold DM
  rw [if_neg (by omega)]
  exact hu
end Sim
namespace Sim
open Go
def PV.scal1:PV→Bool
 | .bool _ | .int _ _ | .str _ | .nilp | .nils | .nilf | .nili | .nilm=>true
 | _=>false
def PV.scal:PV→Bool
 | .agg l=>l.all PV.scal1
 | .tuple l=>l.all PV.scal1
 | p=>p.scal1
theorem VR.scal1 {C C':Ctx} {v:Value} {p:PV} (h:VR C v p) (hs:p.scal1=true):VR C' v p:=by
 cases h <;> first | (simp[PV.scal1]at hs;done) | (constructor;done) | (constructor <;> assumption)
theorem VR.scal {C C':Ctx} {v:Value} {p:PV} (h:VR C v p) (hs:p.scal=true):VR C' v p:=by
 cases h with
 | agg cs l hn hc h=>exact .agg cs l hn hc fun i p hi=>(h i p hi).scal1 ((List.all_eq_true.1 hs) p (List.mem_of_getElem? hi))
 | tuple cs l hn h=>exact .tuple cs l hn fun i p hi=>(h i p hi).scal1 ((List.all_eq_true.1 hs) p (List.mem_of_getElem? hi))
 | bad v=>simp[PV.scal,PV.scal1]at hs
 | bool b=>exact .bool b
 | int k n=>exact .int k n
 | str s l h hm=>exact .str s l h hm
 | nilp=>exact .nilp
 | nils=>exact .nils
 | nilf=>exact .nilf
 | nili=>exact .nili
 | nilm=>exact .nilm
 | _=>simp[PV.scal,PV.scal1]at hs
theorem Inv.after {C:Ctx} {st:Store} {w w':World} (hi:Inv C st w) (ho:w'.os=w.os∧w'.output=w.output) (hold:∀b,b<w.heap.size→w'.heap[b]?=w.heap[b]?) (hsz:w.heap.size≤w'.heap.size) :
  C.le { C with imm:=DM C.imm w.heap.size w' }∧Inv { C with imm:=DM C.imm w.heap.size w' } st w':=by
 have himm:∀b o v,C.imm b o=some v→DM C.imm w.heap.size w' b o=some v:=fun b o v hv=>by
  have : b<w.heap.size:=by
   rcases Nat.lt_or_ge b w.heap.size with h | h
   ·exact h
   ·rw [hi.immLt h]at hv;cases hv
  simp [DM,this,hv]
 have hle:C.le { C with imm:=DM C.imm w.heap.size w' } :=
  ⟨himm, fun b o hb=>by have:=hi.hB;simp[DM,show b<w.heap.size by omega],fun _ h=>h,fun id _ L' hL=>⟨L',hL,.inl rfl⟩,rfl,rfl,rfl,rfl,fun _ h=>h,rfl⟩
 refine ⟨hle,?_⟩
 constructor
 ·exact ho.1.trans hi.os
 ·exact ho.2.trans hi.out
 ·exact Nat.le_trans hi.hB hsz
 ·intro b hb
  have hb':b<C.B:=hb
  rw [hold b (by have:=hi.hB;omega)];exact hi.old b hb'
 ·intro b o v hv
  have hv':DM C.imm w.heap.size w' b o=some v:=hv
  unfold DM at hv'
  split at hv'
  ·rename_i hlt
   rw [cell?_heap (hold b hlt)];exact hi.imm b o v hv'
  ·exact hv'
 ·exact hi.next
 ·exact hi.none_
 ·intro id o ho
  obtain ⟨hb,L,hL,hat⟩:=hi.obj id o ho
  refine ⟨hb,L,hL,hat.mono hle (fun hc o ho=>?_) (fun hc=>hold _ (hat.own hc).2.2)⟩
  have :=(hat.own hc).2.2
  show DM C.imm w.heap.size w' L.blk o=none
  simp [DM,this,ho]
 ·exact hi.sep
 ·intro b hb
  obtain ⟨k1,k2⟩:=hi.keep b hb
  exact ⟨k1,by rw[hold b (Array.getElem?_eq_some_iff.1 k2).1];exact k2⟩
mutual
def PV.small:PV→Prop
 | .str l=>l.length≤9223372036854775807
 | .lits _ l=>l.length≤9223372036854775807∧AI l
 | .vptr cs _=>AI cs
 | .agg l=>AI l
 | .tuple l=>AI l
 | .iface _ v=>v.small
 | _=>True
def AI:List PV→Prop
 | []=>True
 | p::l=>p.small∧AI l
end
theorem EQ {l:List PV} (h:∀p∈l,p.small):AI l:=by
 induction l with
 | nil=>trivial
 | cons a l ih=>exact⟨h a (by simp),ih fun p hp=>h p (by simp[hp])⟩
theorem VR.small {C:Ctx} {v:Value} {p:PV} (h:VR C v p):p.small:=by
 have ml:maxLen=9223372036854775807:=rfl
 induction h with
 | str s l h hm=>rw[ml]at hm;exact hm
 | vptr b o off cells hc hi h ih=>exact EQ (fun c hm=>(List.mem_iff_getElem?.1 hm).elim fun j hj=>ih j c hj)
 | lits b o size cap l hcap hmax hsz hl hi h ih =>
  rw [ml]at hmax
  refine ⟨by omega,EQ fun e he=>?_⟩
  obtain ⟨i,hi'⟩:=List.mem_iff_getElem?.1 he
  have hc:∀c∈e.cells,c.small:=fun c hm=>by
   obtain ⟨j,hj⟩:=List.mem_iff_getElem?.1 hm
   exact ih i j e c hi' hj
  cases e <;> first
   | trivial
   | (exact hc _ (List.mem_singleton.2 rfl))
   | (exact EQ hc)
   | skip
  all_goals (have:=(hl _ he).1;simp only[PV.cells,List.length_nil]at this;omega)
 | lits0 a cap z=>exact⟨by simp,trivial⟩
 | iface t v p h ih=>exact ih
 | agg cs l hn hc h ih=>exact EQ (fun c hm=>(List.mem_iff_getElem?.1 hm).elim fun j hj=>ih j c hj)
 | tuple cs l hn h ih=>exact EQ (fun c hm=>(List.mem_iff_getElem?.1 hm).elim fun j hj=>ih j c hj)
 | _=>trivial
def YM (spec:List PV→Option PV) (args:List PV) (st:Store):Option (PV×Store) :=
 if AN args=true then (spec args).map fun r=>(r,st)
 else (BZ st args).bind fun as=>(spec as).bind fun r=>if r.scal=true then some (r,st)else none
theorem Mh {P:Program} {f:FuncId} {spec:List PV→Option PV} (hspec:∀args r,spec args=some r→VC P f args r) {args:List PV} {st st':Store} {r:PV} (h:YM spec args st=some (r,st')) :
  st' = st∧IXC P f args st fun r' st''=>r'=r∧st''=st':=by
 unfold YM at h
 split at h
 ·rename_i hp
  simp only[Option.map_eq_some_iff,Prod.mk.injEq]at h
  obtain ⟨q,hq,rfl,rfl⟩:=h
  obtain ⟨hen,hc⟩:=hspec _ _ hq
  refine ⟨rfl,hen,fun C w vals hi hv=>?_⟩
  refine Calls.mono (hc C.imm w vals hi.imm ⟨hv.1,fun i p hi'=>(hv.2 i p hi').pureMono (fun _ _ _ h=>h) (B3 hp p (List.mem_of_getElem? hi'))⟩) fun e w' he=>?_
  obtain ⟨v,rfl,ho,hold,hsz,hvr⟩:=he
  obtain ⟨h1,h2⟩:=hi.after ho hold hsz
  exact ⟨v,_,q,st,rfl,h1,h2,hvr.ofBase (fun _ _ _ h=>h),rfl,rfl⟩
 ·simp only[Option.bind_eq_some_iff]at h
  obtain ⟨as,has,q,hq,h⟩:=h
  split at h
  ·rename_i hsc
   simp only[Option.some.injEq,Prod.mk.injEq]at h
   obtain ⟨rfl,rfl⟩:=h
   obtain ⟨hen,hc⟩:=hspec _ _ hq
   refine ⟨rfl,hen,fun C w vals hi hv=>?_⟩
   obtain ⟨hl,hget⟩:=Ks has
   refine Calls.mono (hc (fun b o=>w.cell? ⟨b,o,none⟩) w vals (fun _ _ _ h=>h) ⟨by rw[hv.1,hl],fun i p hi'=>?_⟩) fun e w' he=>?_
   ·have hlt:i<args.length:=by have:=(List.getElem?_eq_some_iff.1 hi').1;omega
    exact (hget i _ p (List.getElem?_eq_getElem hlt) hi').sound hi (fun b o u h=>hi.imm b o u h) (fun _ _ _ _ _ _ h=>h) (hv.2 i _ (List.getElem?_eq_getElem hlt))
   ·obtain ⟨v,rfl,ho,hold,hsz,hvr⟩:=he
    obtain ⟨h1,h2⟩:=hi.after ho hold hsz
    exact ⟨v,_,q,st,rfl,h1,h2,hvr.scal hsc,rfl,rfl⟩
  ·cases h
def VCM (P:Program) (f:FuncId) (args:List PV) (mk:MK) (es:List (PV×PV)):Prop :=
 DN P f∧∀(imm:Nat→Nat→Option Value) (w:World) (vals:Array Value),(∀b o u,imm b o=some u→w.cell? ⟨b,o,none⟩=some u)→IXC.VRs (base imm w) vals args →
  Calls P f vals w fun e w'=>∃(b:Nat) (ces:Array MapEntry),e=.returned (.map (some b))∧(w'.os=w.os∧w'.output=w.output)∧(∀b,b<w.heap.size→w'.heap[b]?=w.heap[b]?)∧w.heap.size≤w'.heap.size∧w.heap.size≤b ∧
   w'.heap[b]? = some (.map ces es.length)∧ces.size=es.length∧∀(i:Nat) (k v:PV),es[i]?=some (k,v)→∃e:MapEntry,ces[i]?=some e∧(∀C,VR C e.key k)∧(∀C,VR C e.val v)∧e.born=i∧BE mk k=true
def Ab3 (mk:MK) (spec:List PV→Option (List (PV×PV))) (args:List PV) (st:Store):Option (PV×Store) :=
 if AN args=true then (spec args).map fun es=>(.mref st.next 0,st.new (.map 0 mk es))else none
theorem UV {P:Program} {f:FuncId} {mk:MK} {spec:List PV→Option (List (PV×PV))} (hspec:∀args r,spec args=some r→VCM P f args mk r) {args:List PV} {st st':Store} {r:PV} (h:Ab3 mk spec args st=some (r,st')) :
  IXC P f args st fun r' st''=>r'=r∧st''=st':=by
 unfold Ab3 at h
 split at h
 ·rename_i hp
  simp only[Option.map_eq_some_iff,Prod.mk.injEq]at h
  obtain ⟨es,hq,rfl,rfl⟩:=h
  obtain ⟨hen,hc⟩:=hspec _ _ hq
  refine ⟨hen,fun C w vals hi hv=>?_⟩
  refine Calls.mono (hc C.imm w vals hi.imm ⟨hv.1,fun i p hi'=>(hv.2 i p hi').pureMono (fun _ _ _ h=>h) (B3 hp p (List.mem_of_getElem? hi'))⟩) fun e w' he=>?_
  obtain ⟨b,ces,rfl,ho,hold,hsz,hb,hblk,hces,hes⟩:=he
  obtain ⟨h1,h2⟩:=hi.put (w':=w') (id:=st.next) (nx:=st.next+1) (o:=.map 0 mk es) (L':=⟨b,0,0,1,0⟩) (.inr (hi.next _ (Nat.le_refl _))) (.inr (.inl hb)) (fun x hx _=>hold x hx) hsz
   (fun hle=>⟨rfl,rfl,by rw[hle.B];exact Nat.le_trans hi.hB hb,fun o=>hi.immLt hb,ces,hblk,hces,fun i k v hk=>by
    obtain ⟨e,g1,g2,g3,g4,g5⟩:=hes i k v hk
    exact ⟨e,g1,g2 _,g3 _,g4,g5⟩⟩) (by omega) (by omega) ho.1 ho.2
  exact ⟨.map (some b),_,_,_,rfl,h1,h2,Rv hi,rfl,rfl⟩
 ·cases h
def VCA (P:Program) (f:FuncId) (args:List PV) (z:Nat) (es:List PV):Prop :=
 DN P f∧∀(imm:Nat→Nat→Option Value) (w:World) (vals:Array Value),(∀b o u,imm b o=some u→w.cell? ⟨b,o,none⟩=some u)→IXC.VRs (base imm w) vals args →
  Calls P f vals w fun e w'=>∃(v:Value) (L:Loc),e=.returned v∧(w'.os=w.os∧w'.output=w.output)∧(∀b,b<w.heap.size→w'.heap[b]?=w.heap[b]?)∧w.heap.size≤w'.heap.size ∧
   (v.oneCell' = true∧cT L 0 es.length v)∧(L.size=z∧0<z∧(es.length≤L.cap∧L.cap≤maxLen))∧(0<L.cap→w.heap.size≤L.blk ∧
    ∃ cs T,w'.heap[L.blk]?=some (.cells cs T (0,0))∧L.off+L.cap*L.size≤cs.size∧∀i e,es[i]?=some e→∀C,CellsAt C cs (L.off+i*L.size) L.size e)
def sR (z:Nat) (spec:List PV→Option (List PV)) (args:List PV) (st:Store):Option (PV×Store) :=
 if AN args=true then (spec args).map fun es=>(.ref st.next 0 0 es.length,st.new (.arr 0 z es))else none
theorem UW {P:Program} {f:FuncId} {z:Nat} {spec:List PV→Option (List PV)} (hspec:∀args r,spec args=some r→VCA P f args z r) {args:List PV} {st st':Store} {r:PV} (h:sR z spec args st=some (r,st')) :
  IXC P f args st fun r' st''=>r'=r∧st''=st':=by
 unfold sR at h
 split at h
 ·rename_i hp
  simp only[Option.map_eq_some_iff,Prod.mk.injEq]at h
  obtain ⟨es,hq,rfl,rfl⟩:=h
  obtain ⟨hen,hc⟩:=hspec _ _ hq
  refine ⟨hen,fun C w vals hi hv=>?_⟩
  refine Calls.mono (hc C.imm w vals hi.imm ⟨hv.1,fun i p hi'=>(hv.2 i p hi').pureMono (fun _ _ _ h=>h) (B3 hp p (List.mem_of_getElem? hi'))⟩) fun e w' he=>?_
  obtain ⟨v,L,rfl,ho,hold,hsz,⟨hone,href⟩,⟨hz1,hz2,hz3⟩,harr⟩:=he
  obtain ⟨h1,h2⟩:=hi.put (w':=w') (id:=st.next) (nx:=st.next+1) (o:=.arr 0 z es) (L':={ L with gen:=0 }) (.inr (hi.next _ (Nat.le_refl _))) (by
    rcases Nat.eq_zero_or_pos L.cap with h0 | h0
    ·exact .inl h0
    ·exact .inr (.inl (harr h0).1)) (fun x hx _=>hold x hx) hsz
   (fun hle=>⟨rfl,hz1,hz2,hz3,fun hcap=>by
    obtain ⟨g1,cs,T,g2,g3,g4⟩:=harr hcap
    exact ⟨by rw[hle.B];exact Nat.le_trans hi.hB g1,fun o=>hi.immLt g1,cs,T,g2,g3,fun i e he=>g4 i e he _⟩⟩) (by omega) (by omega) ho.1 ho.2
  refine ⟨v,_,_,_,rfl,h1,h2,?_,rfl,rfl⟩
  refine .ref v st.next 0 0 es.length hone (.inl rfl) (fun L' hL=>by omega) (fun L' hL _=>?_)
  have : L'={ L with gen:=0 }:=by simpa [Ctx.set]using hL.symm
  subst this
  obtain ⟨a,r1,r2,r3⟩:=href
  exact ⟨a,r1,r2,r3⟩
 ·cases h
def VCS (P:Program) (f g:FuncId) (z:Nat) (es es':List PV):Prop :=
 es'.length = es.length∧(∀e∈es,e.scal=true) ∧
 ∀ (w:World) (blk off cap:Nat) (cs:Array Value) (T:TypeId),w.heap[blk]?=some (.cells cs T (0,0))→0<es.length→off+es.length*z≤cs.size→(∀i e,es[i]?=some e→∀C,CellsAt C cs (off+i*z) z e) →
  Calls P f #[.slice (some ⟨blk,off,none⟩) es.length cap,.func (.func g) #[] #[]] w fun e w' =>
   e = .returned (.tuple #[])∧(w'.os=w.os∧w'.output=w.output)∧w.heap.size≤w'.heap.size∧(∀b,b<w.heap.size→b≠blk→w'.heap[b]?=w.heap[b]?) ∧
   ∃ cs',w'.heap[blk]?=some (.cells cs' T (0,0))∧cs'.size=cs.size∧∀i e,es'[i]?=some e→∀C,CellsAt C cs' (off+i*z) z e
def Agq (P:Program) (f:FuncId):Prop:=∀(p:Option Addr) (cap:Nat) (fv:Value) (w:World),Calls P f #[.slice p 0 cap,fv] w fun e w'=>e=.returned (.tuple #[])∧w'=w
def Oj (z g:Nat) (spec:List PV→Option (List PV)) (args:List PV) (st:Store):Option (PV×Store) :=
 match args with
 | [.nils,_]=>some (.tuple [],st)
 | [.ref id gen 0 n,.func (.func g') [] []]=>if g'=g then (st.arr? id gen).bind fun a=>if a.1=z∧n=a.2.length then (spec a.2).map fun es'=>(.tuple [],st.set id (.arr gen z es'))else none else none
 | _=>none
theorem YN {e:PV} (h:e.scal=true):∀c∈e.cells,c.scal1=true:=by
 intro c hm
 cases e <;> simp only[PV.cells,List.mem_singleton]at hm <;> first | (subst hm;exact h) | (cases hm;done) | exact List.all_eq_true.1 h c hm
theorem eC {C:Ctx} {v:Value} {f:Fn} (h:VR C v (.func f [] [])):v=.func f #[] #[]:=by
 cases h with
 | func _ first captured _ _ hf hc _ _ =>
  have h1:first = #[]:=Array.eq_empty_of_size_eq_zero hf
  have h2:captured = #[]:=Array.eq_empty_of_size_eq_zero hc
  rw [h1,h2]
theorem R8 {P:Program} {f g:FuncId} {z:Nat} {spec:List PV→Option (List PV)} (hen:DN P f) (h0:Agq P f) (hspec:∀es es',spec es=some es'→VCS P f g z es es') {args:List PV} {st st':Store} {r:PV} (h:Oj z g spec args st=some (r,st')) :
  IXC P f args st fun r' st''=>r'=r∧st''=st':=by
 have two:∀ {C:Ctx} {vals:Array Value} {a b:PV},IXC.VRs C vals [a,b]→∃x y,vals = #[x,y]∧VR C x a∧VR C y b:=by
  rintro C ⟨vals⟩ a b ⟨h1,h2⟩
  match vals,h1 with
  | [x,y],_=>exact⟨x,y,rfl,h2 0 a rfl,h2 1 b rfl⟩
 unfold Oj at h
 split at h
 ·simp only[Option.some.injEq,Prod.mk.injEq]at h
  obtain ⟨rfl,rfl⟩:=h
  refine ⟨hen,fun C w vals hi hv=>?_⟩
  obtain ⟨x,y,rfl,hx,hy⟩:=two hv
  cases hx
  refine (h0 none 0 y w).mono ?_
  rintro e w' ⟨rfl,rfl⟩
  exact ⟨_,C,_,_,rfl,Ctx.le.refl C,hi,.tuple #[] [] rfl (by simp),rfl,rfl⟩
 ·rename_i id gen n g'
  split at h
  ·rename_i hg
   subst hg
   simp only[Option.bind_eq_some_iff]at h
   obtain ⟨⟨z',es⟩,hes,h⟩:=h
   dsimp only at h
   split at h
   ·rename_i hzn
    obtain ⟨rfl,rfl⟩:=hzn
    simp only[Option.map_eq_some_iff,Prod.mk.injEq]at h
    obtain ⟨es',hs,rfl,rfl⟩:=h
    obtain ⟨hlen,hsc,hc⟩:=hspec _ _ hs
    refine ⟨hen,fun C w vals hi hv=>?_⟩
    obtain ⟨x,y,rfl,hx,hy⟩:=two hv
    cases eC hy
    obtain ⟨K,hK,hb,hgen,hKz,hzz,hcap,hat⟩:=hi.arr hes
    cases hx with
    | ref _ _ _ _ _ hv' hb' hg' hr =>
     obtain ⟨a,rfl,h10,h11⟩:=hr K hK hgen.symm
     rcases Nat.eq_zero_or_pos es.length with hn | hn
     ·have e1:es = []:=List.eq_nil_of_length_eq_zero hn
      subst e1
      have e2:es' = []:=List.eq_nil_of_length_eq_zero (by rw[hlen];rfl)
      subst e2
      refine (h0 a _ _ w).mono ?_
      rintro e w' ⟨rfl,rfl⟩
      exact ⟨_,C,_,_,rfl,Ctx.le.refl C,hi.sameObj (arr?_parts hes),.tuple #[] [] rfl (by simp),rfl,rfl⟩
     ·obtain ⟨h5,h6,cur,T,h7,h8,h9⟩:=hat (by omega)
      have ha:=h11 (by omega)
      rw [Nat.zero_mul,Nat.add_zero]at ha
      subst ha
      have hmul:=Nat.mul_le_mul_right K.size hcap
      rw [hKz]at h8 hmul
      refine Calls.mono (hc w K.blk K.off _ cur T h7 hn (by omega) (fun i e he C'=>?_)) fun e w' he=>?_
      ·obtain ⟨c1,c2,c3⟩:=h9 i e he
       rw [hKz]at c1 c3
       exact ⟨c1,c2,fun j c hj=>(c3 j c hj).scal1 (YN (hsc e (List.mem_of_getElem? he)) c (List.mem_of_getElem? hj))⟩
      ·obtain ⟨rfl,ho,hsz,hold,cs',hb1,hb2,hb3⟩:=he
       obtain ⟨C',k1,k2,k3,k4⟩:=hi.reArr (gen':=gen) (L':=K) (cs:=cs') hes hK (by omega) (.inl rfl) hgen rfl (by omega) (by rw[hlen];exact hcap) (hi.arrMax hes hK) h7 (by rw[hb2,hKz];exact h8) (fun i e he=>by rw[hKz];exact hb3 i e he C)
       rw [hKz]at k2
       obtain ⟨m1,m2⟩:=k2.after (w':=w') ho (fun b hb=>by
        by_cases e:b=K.blk
        ·subst e
         rw [hb1,setRow_heap w _ _ cs' T _ h7]
        ·rw [setRow_other w K.blk b cs' e];exact hold b (by simpa using hb) e) (by simpa using hsz)
       exact ⟨_,_,_,_,rfl,k1.trans m1,m2,.tuple #[] [] rfl (by simp),rfl,rfl⟩
   ·cases h
  ·cases h
 ·cases h
inductive Ent where
 | v (spec:List PV→Option PV)
 | m (mk:MK) (spec:List PV→Option (List (PV×PV)))
 | a (z:Nat) (spec:List PV→Option (List PV))
 | s (z g:Nat) (spec:List PV→Option (List PV))
 | x (spec:List PV→Store→Option (PV×Store))
 | c (spec:List PV→(Nat→Option IObj)→Option PV)
def Ent.tab:Ent→List PV→Store→Option (PV×Store)
 | .v spec=>YM spec
 | .m mk spec=>Ab3 mk spec
 | .a z spec=>sR z spec
 | .s z g spec=>Oj z g spec
 | .x spec=>spec
 | .c spec=>fun args st=>(spec args st.obj).map fun r=>(r,st)
def Ent.calm:Ent→Bool
 | .c _=>true
 | _=>false
def Ent.anew:Ent→Bool
 | .a ..=>true
 | _=>false
def Ent.quiet:Ent→Bool
 | .v _=>true
 | .m ..=>false
 | .a ..=>false
 | .s ..=>false
 | .x ..=>false
 | .c ..=>false
def AM (P:Program) (f:FuncId):Ent→Prop
 | .v spec=>∀args r,spec args=some r→VC P f args r
 | .m mk spec=>∀args r,spec args=some r→VCM P f args mk r
 | .a z spec=>∀args r,spec args=some r→VCA P f args z r
 | .s z g spec=>DN P f∧Agq P f∧∀es es',spec es=some es'→VCS P f g z es es'
 | .x spec=>∀args st r st',spec args st=some (r,st')→IXC P f args st fun r' st''=>r'=r∧st''=st'
 | .c spec=>(∀args ob ob' r,(∀i o,ob i=some o→ob' i=some o)→spec args ob=some r→spec args ob'=some r)∧∀args st r,spec args st.obj=some r→IXC P f args st fun r' st''=>r'=r∧st''=st
abbrev AU:=List (Nat×Ent)
def EH (l:AU):Tab:=fun f args st=>match l.find? (fun e=>e.1==f)with | some e=>e.2.tab args st | none=>none
def PT (l:AU):Nat→Bool:=fun f=>match l.find? (fun e=>e.1==f)with | some e=>e.2.quiet | none=>true
def Kz (l:AU):Nat→Bool:=fun f=>if f<1000000 then (match l.find? (fun e=>e.1==f)with | some e=>e.2.calm | none=>false)else (match l.find? (fun e=>e.1==f-1000000)with | some e=>e.2.anew | none=>false)
def Bm (P:Program) (l:AU):Prop:=∀e∈l,AM P e.1 e.2
theorem FO {P:Program} {l:AU} (h:Bm P l) {muts quiet frz calm:Nat→Bool} {num:Nat→Nat} {yl:Option (Nat×Fk)} {dep:Nat} {rnd:Bool}:El ⟨P,EH l,muts,quiet,frz,num,yl,dep,rnd,calm⟩:=by
 intro f args st r st' ht
 simp only[EH]at ht
 split at ht
 ·rename_i e he
  have hm:=List.mem_of_find?_eq_some he
  have hf:=List.find?_some he
  have hf:e.1=f:=by simpa using hf
  subst hf
  have := h e hm
  obtain ⟨f,e⟩:=e
  cases e with
  | v spec=>exact (Mh this ht).2
  | m mk spec=>exact UV this ht
  | a z spec=>exact UW this ht
  | s z g spec=>exact R8 this.1 this.2.1 this.2.2 ht
  | x spec=>exact this _ _ _ _ ht
  | c spec =>
   simp only[Ent.tab,Option.map_eq_some_iff,Prod.mk.injEq]at ht
   obtain ⟨r',h1,rfl,rfl⟩:=ht
   exact this.2 _ _ _ h1
 ·cases ht
theorem UX {P:Program} {l:AU} (h:Bm P l):∀f args st r st',f<1000000→Kz l f=true→EH l f args st=some (r,st')→st'=st∧∀st2:Store,(∀i o,st.obj i=some o→st2.obj i=some o)→EH l f args st2=some (r,st2):=by
 intro f args st r st' hf6 hqu ht
 simp only[EH]at ht ⊢
 simp only[Kz,if_pos hf6]at hqu
 split at ht
 ·rename_i e he
  have hok:=h e (List.mem_of_find?_eq_some he)
  obtain ⟨f',e⟩:=e
  simp only[he]at hqu ⊢
  cases e with
  | c spec =>
   simp only[Ent.tab,Option.map_eq_some_iff,Prod.mk.injEq]at ht ⊢
   obtain ⟨r',h1,rfl,rfl⟩:=ht
   exact ⟨rfl,fun st2 he2=>⟨r',hok.1 _ _ _ _ he2 h1,rfl,trivial⟩⟩
  | _=>simp[Ent.calm]at hqu
 ·cases ht
theorem UY {l:AU}:∀f args st r st',Kz l (1000000+f)=true→EH l f args st=some (r,st')→(∀i o,st.obj i=some o→i<st.next)→∀i o,st.obj i=some o→st'.obj i=some o:=by
 intro f args st r st' hqu ht hwf i o ho
 simp only[EH]at ht
 simp only[Kz,if_neg (show ¬1000000+f<1000000 by omega),show 1000000+f-1000000=f by omega]at hqu
 split at ht
 ·rename_i e he
  obtain ⟨f',e⟩:=e
  simp only[he]at hqu
  cases e with
  | a z spec =>
   simp only[Ent.tab,sR]at ht
   split at ht
   ·simp only[Option.map_eq_some_iff,Prod.mk.injEq]at ht
    obtain ⟨es,_,_,rfl⟩:=ht
    have := hwf i o ho
    simp [Store.new,Aa,show i≠st.next by omega,ho]
   ·cases ht
  | _=>simp[Ent.anew]at hqu
 ·cases ht
theorem DC {P:Program} {l:AU} (h:Bm P l) {muts frz:Nat→Bool} {num:Nat→Nat} {yl:Option (Nat×Fk)} {dep:Nat} {rnd:Bool}:Bo ⟨P,EH l,muts,PT l,frz,num,yl,dep,rnd,Kz l⟩:=by
 refine ⟨?_,UY,UX h⟩
 intro f args st r st' hqu ht
 simp only[EH]at ht
 simp only[PT]at hqu
 split at ht
 ·rename_i e he
  have hok:=h e (List.mem_of_find?_eq_some he)
  obtain ⟨f',e⟩:=e
  simp only[he]at hqu
  cases e with
  | m mk spec=>simp[Ent.quiet]at hqu
  | a z spec=>simp[Ent.quiet]at hqu
  | s z g spec=>simp[Ent.quiet]at hqu
  | x spec=>simp[Ent.quiet]at hqu
  | c spec=>simp[Ent.quiet]at hqu
  | v spec =>
   refine ⟨(Mh hok ht).1,fun hp st2=>?_⟩
   simp only[EH,he]
   simp only[Ent.tab]at ht ⊢
   unfold YM at ht ⊢
   rw [if_pos hp]at ht ⊢
   simp only[Option.map_eq_some_iff,Prod.mk.injEq]at ht ⊢
   obtain ⟨q,h1,h2,h3⟩:=ht
   exact ⟨q,h1,h2,trivial⟩
 ·cases ht
def JG (frz:List Nat) (d:Nat):Nat:=if frz.contains (100000+d)then 1 else if frz.contains (200000+d)then 2 else if frz.contains (300000+d)then 3 else if frz.contains (500000+d)then 4 else 0
def cfg (P:Program) (l:AU) (muts:List Nat) (frz:List Nat := []) (dep:Nat:=0) (yl:Option (Nat×Fk):=none) (rnd:Bool:=false):Cfg:=⟨P,EH l,fun d=>muts.contains d,PT l,fun d=>frz.contains d,JG frz,yl,dep,rnd,Kz l⟩
theorem VC.of_small {P:Program} {f:FuncId} {args:List PV} {r:PV} (h:AI args→VC P f args r) (hen:DN P f):VC P f args r:=by
 refine ⟨hen,fun imm w vals himm hv=>?_⟩
 have hs:AI args:=EQ fun p hp=>by
  obtain ⟨i,hi⟩:=List.mem_iff_getElem?.1 hp
  exact (hv.2 i p hi).small
 exact (h hs).2 imm w vals himm hv
theorem UZ {P:Program} (hmix:P.follows .mixedOrders=true) {l:AU} (hl:Bm P l) (muts:List Nat) (frz:List Nat) {f:FuncId} {fn:Func} {c:Code} (hf:P.funcs[f]?=some fn) (hb:fn.body=some c)
  (hname : (fn.name == "runtime.NumGoroutine") = false) {args : List PV} {N : Nat} (hN : fn.ntmps = N) (hn : args.length ≤ N) {rs : List ResultVar} (hrs : fn.results.toList = rs) {r : PV} (n : Nat) {dep : Nat}
  (h : AI args→run (cfg P l muts frz dep) N (Ai P rs (fun p st=>DR st p r)) c [] ⟨FC args,stR n⟩):VC P f args r:=by
 subst hN;subst hrs
 exact VC.of_small (fun hs=>YL (X:=cfg P l muts frz dep) rfl (FO hl) (DC hl) hmix hf hb hname hn (Ky n) (h hs)) ⟨fn,hf,by simp[hb],hname⟩
theorem WN {P:Program} (hmix:P.follows .mixedOrders=true) {l:AU} (hl:Bm P l) (muts:List Nat) (frz:List Nat) {f:FuncId} {fn:Func} {c:Code} (hf:P.funcs[f]?=some fn) (hb:fn.body=some c)
  (hname : (fn.name == "runtime.NumGoroutine") = false) {args : List PV} {N : Nat} (hN : fn.ntmps = N) (hn : args.length ≤ N) {rs : List ResultVar} (hrs : fn.results.toList = rs) {st : Store} {Q : PV → Store → Prop} {dep : Nat}
  (h : run (cfg P l muts frz dep) N (Ai P rs Q) c [] ⟨FC args,st⟩):IXC P f args st Q:=by
 subst hN;subst hrs
 exact Gp (X:=cfg P l muts frz dep) rfl (FO hl) (DC hl) hmix hf hb hname hn (.refl _) h
theorem sS {P:Program} (hmix:P.follows .mixedOrders=true) {l:AU} (hl:Bm P l) (muts:List Nat) (frz:List Nat) {f:FuncId} {fn:Func} {c:Code} (hf:P.funcs[f]?=some fn) (hb:fn.body=some c)
  (hname : (fn.name == "runtime.NumGoroutine") = false) {args : List PV} {N : Nat} (hN : fn.ntmps = N) (hn : args.length ≤ N) {rs : List ResultVar} (hrs : fn.results.toList = rs) {z : Nat} {es : List PV} (n : Nat) {dep : Nat}
  (hs : ∀e∈es,e.scal=true)
  (h : run (cfg P l muts frz dep) N (Ai P rs (fun p st=>(∃id g,p=.ref id g 0 es.length∧st.obj id=some (.arr g z es))∨(es = []∧0<z∧p=.nils))) c [] ⟨FC args,stR n⟩):VCA P f args z es:=by
 subst hN;subst hrs
 obtain ⟨hen,hc⟩:=Gp (X:=cfg P l muts frz dep) rfl (FO hl) (DC hl) hmix hf hb hname hn (Ky n) h
 refine ⟨hen,fun imm w vals himm hv=>?_⟩
 refine Calls.mono (hc _ w vals (R7 himm) hv) fun e w' he=>?_
 obtain ⟨v,C',p,st',rfl,hle,hi,hvp,hpp⟩:=he
 have hBB:C'.B=w.heap.size:=hle.B
 have hold:∀b,b<w.heap.size→w'.heap[b]?=w.heap[b]?:=fun b hb=>by
  rw [hi.old b (by omega),hle.h];rfl
 rcases hpp with ⟨id,g,rfl,ho⟩ | ⟨rfl,hz,rfl⟩
 case inr =>
  cases hvp
  exact ⟨_,⟨0,0,z,0,0⟩,rfl,⟨by rw[hi.os,hle.os];rfl,by rw[hi.out,hle.out];rfl⟩,hold,by have:=hi.hB;omega,⟨rfl,none,rfl,Nat.le_refl _,fun h=>absurd h (by simp)⟩,⟨rfl,hz,Nat.le_refl _,by simp⟩,fun h=>absurd h (by simp)⟩
 obtain ⟨_,L,hL,hat⟩:=hi.obj id _ ho
 obtain ⟨a1,a2,a3,a4,a5⟩:=hat
 cases hvp with
 | ref _ _ _ _ _ h1 h2 h3 h4 =>
  refine ⟨v,L,rfl,⟨by rw[hi.os,hle.os];rfl,by rw[hi.out,hle.out];rfl⟩,hold,by have:=hi.hB;omega,⟨h1,h4 L hL a1.symm⟩,⟨a2,a3,a4⟩,fun hcap=>?_⟩
  obtain ⟨b1,b2,cs,T,b3,b4,b5⟩:=a5 hcap
  refine ⟨by omega,cs,T,b3,b4,fun i e he C=>?_⟩
  obtain ⟨c1,c2,c3⟩:=b5 i e he
  refine ⟨c1,c2,fun j c hj=>?_⟩
  have hsc:=hs e (List.mem_of_getElem? he)
  refine (c3 j c hj).scal1 (C':=C) ?_
  have hm:=List.mem_of_getElem? hj
  cases e <;> simp only[PV.cells,List.mem_singleton]at hm <;> first | (subst hm;exact hsc) | (cases hm;done) | skip
  ·exact List.all_eq_true.1 hsc c hm
end Sim
