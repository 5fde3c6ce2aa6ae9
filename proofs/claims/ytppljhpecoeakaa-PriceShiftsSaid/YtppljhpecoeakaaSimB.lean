/- The ideal values, what machine value represents which, and how that is kept while memory grows. A library of lemmas; no statement of a seat is proved here. -/
import Derived.WalkKit
import Derived.ProofKit
set_option linter.unusedVariables false
set_option linter.unusedSimpArgs false
namespace Sim
theorem nrfl.{u} {α:Sort u} {a b:α} (h:a=b):a=b:=h
open Go
inductive PV where
 | bad
 | bool (b:Bool)
 | int (k:IntKind) (n:Int)
 | str (s:List UInt8)
 | nilp
 | ptr (id gen idx off:Nat)
 | vptr (cells:List PV) (off:Nat)
 | nils
 | lits (z:Nat) (l:List PV)
 | ref (id gen start len:Nat)
 | func (fn:Fn) (first captured:List PV)
 | nilf
 | iface (t:TypeId) (v:PV)
 | nili
 | agg (cells:List PV)
 | tuple (vs:List PV)
 | nilm
 | mref (id gen:Nat)
 | iter (id gen:Nat)
 deriving Inhabited
def PV.cells:PV→List PV
 | .agg cs=>cs
 | .tuple _ => []
 | .bad => []
 | v => [v]
def PV.isCell:PV→Bool
 | .agg _ | .tuple _ | .bad=>false
 | _=>true
structure Loc where
 blk : Nat
 off : Nat
 size : Nat
 cap : Nat
 gen : Nat
structure Ctx where
 imm : Nat→Nat→Option Value
 loc : Nat→Option Loc
 born : Nat→Prop
 B : Nat
 h : Nat→Option Obj
 os : Os
 out : Array (Nat×ByteArray)
 keep : Nat→Bool
 caller : Nat→Bool
structure Ctx.le (C C':Ctx):Prop where
 imm : ∀b o v,C.imm b o=some v→C'.imm b o=some v
 old : ∀b o,b<C.B→C'.imm b o=C.imm b o
 born : ∀id,C.born id→C'.born id
 loc : ∀id,C.born id→∀L',C'.loc id=some L'→∃L,C.loc id=some L∧(L'=L∨L.gen<L'.gen)
 B : C'.B=C.B
 h : C'.h=C.h
 os : C'.os=C.os
 out : C'.out=C.out
 keep : ∀b,C.keep b=true→C'.keep b=true
 caller : C'.caller=C.caller
theorem Ctx.le.refl (C:Ctx):C.le C:=⟨fun _ _ _ h=>h,fun _ _ _=>rfl,fun _ h=>h,fun _ _ L' h=>⟨L',h,.inl rfl⟩,rfl,rfl,rfl,rfl,fun _ h=>h,rfl⟩
theorem Ctx.le.trans {A B C:Ctx} (h:A.le B) (g:B.le C):A.le C where
 imm := fun b o v x=>g.imm b o v (h.imm b o v x)
 old := fun b o x=>(g.old b o (by rw[h.B];exact x)).trans (h.old b o x)
 born := fun id x=>g.born id (h.born id x)
 loc := fun id x L' hL=>by
  obtain ⟨L1,h1,h2⟩:=g.loc id (h.born id x) L' hL
  obtain ⟨L0,h3,h4⟩:=h.loc id x L1 h1
  refine ⟨L0,h3,?_⟩
  rcases h2 with rfl | h2
  ·exact h4
  ·rcases h4 with rfl | h4
   ·exact .inr h2
   ·exact .inr (by omega)
 B := g.B.trans h.B
 h := g.h.trans h.h
 os := g.os.trans h.os
 out := g.out.trans h.out
 keep := fun b x=>g.keep b (h.keep b x)
 caller := g.caller.trans h.caller
def cT (L:Loc) (start len:Nat) (v:Value):Prop :=
 ∃ a,v=.slice a len (L.cap-start)∧start+len≤L.cap∧(start<L.cap→a=some ⟨L.blk,L.off+start*L.size,none⟩)
inductive VR (C:Ctx):Value→PV→Prop where
 | bad (v:Value):VR C v .bad
 | bool (b:Bool):VR C (.bool b) (.bool b)
 | int (k:IntKind) (n:Int):VR C (.int k n) (.int k n)
 | str (s:ByteArray) (l:List UInt8) (h:l=s.data.toList) (hm:l.length≤maxLen):VR C (.string s) (.str l)
 | nilp:VR C (.pointer none) .nilp
 | ptr (v:Value) (id gen idx off:Nat) (hv:v.oneCell'=true) (hb:C.born id) (hg:∀L,C.loc id=some L→gen≤L.gen)
   (h : ∀L,C.loc id=some L→gen=L.gen→v=.pointer (some ⟨L.blk,L.off+idx*L.size+off,none⟩)):VR C v (.ptr id gen idx off)
 | vptr (b o off:Nat) (cells:List PV) (hc:∀c∈cells,c.isCell=true) (hi:∀j,j<cells.length→(C.imm b (o+j)).isSome=true)
   (h : ∀j c,cells[j]?=some c→VR C ((C.imm b (o+j)).getD undef) c):VR C (.pointer (some ⟨b,o+off,none⟩)) (.vptr cells off)
 | nils:VR C (.slice none 0 0) .nils
 | lits (b o size cap:Nat) (l:List PV) (hcap:l.length≤cap) (hmax:cap≤maxLen) (hsz:0<size) (hl:∀e∈l,e.cells.length=size∧∀c∈e.cells,c.isCell=true)
   (hi : ∀i j,i<l.length→j<size→(C.imm b (o+i*size+j)).isSome=true)
   (h : ∀i j e c,l[i]?=some e→e.cells[j]?=some c→VR C ((C.imm b (o+i*size+j)).getD undef) c):VR C (.slice (some ⟨b,o,none⟩) l.length cap) (.lits size l)
 | lits0 (a:Option Addr) (cap z:Nat):VR C (.slice a 0 cap) (.lits z [])
 | ref (v:Value) (id gen start len:Nat) (hv:v.oneCell'=true) (hb:C.born id) (hg:∀L,C.loc id=some L→gen≤L.gen)
   (h : ∀L,C.loc id=some L→gen=L.gen→cT L start len v):VR C v (.ref id gen start len)
 | func (fn:Fn) (first captured:Array Value) (pf pc:List PV) (hf:first.size=pf.length) (hc:captured.size=pc.length)
   (h1 : ∀i p,pf[i]?=some p→VR C (first.getD i undef) p) (h2:∀i p,pc[i]?=some p→VR C (captured.getD i undef) p):VR C (.func fn first captured) (.func fn pf pc)
 | nilf:VR C .nilFunc .nilf
 | iface (t:TypeId) (v:Value) (p:PV) (h:VR C v p):VR C (.iface t v) (.iface t p)
 | nili:VR C .nilIface .nili
 | agg (cs:Array Value) (l:List PV) (hn:cs.size=l.length) (hc:∀c∈l,c.isCell=true) (h:∀i p,l[i]?=some p→VR C (cs.getD i undef) p):VR C (.agg cs) (.agg l)
 | tuple (cs:Array Value) (l:List PV) (hn:cs.size=l.length) (h:∀i p,l[i]?=some p→VR C (cs.getD i undef) p):VR C (.tuple cs) (.tuple l)
 | nilm:VR C (.map none) .nilm
 | mref (v:Value) (id gen:Nat) (hv:v.oneCell'=true) (hb:C.born id) (hg:∀L,C.loc id=some L→gen≤L.gen)
   (h : ∀L,C.loc id=some L→gen=L.gen→v=.map (some L.blk)):VR C v (.mref id gen)
 | iter (v:Value) (id gen:Nat) (hv:v.oneCell'=true) (hb:C.born id) (hg:∀L,C.loc id=some L→gen≤L.gen)
   (h : ∀L,C.loc id=some L→gen=L.gen→v=.pointer (some ⟨L.blk,0,none⟩)):VR C v (.iter id gen)
theorem Ctx.le.isSome {C C':Ctx} (h:C.le C') {b o:Nat} (x:(C.imm b o).isSome=true):(C'.imm b o).isSome=true:=by
 obtain ⟨v,hv⟩:=Option.isSome_iff_exists.1 x
 rw [h.imm _ _ _ hv];rfl
theorem Ctx.le.getD {C C':Ctx} (h:C.le C') {b o:Nat} (x:(C.imm b o).isSome=true) (d:Value):(C'.imm b o).getD d=(C.imm b o).getD d:=by
 obtain ⟨v,hv⟩:=Option.isSome_iff_exists.1 x
 rw [h.imm _ _ _ hv,hv]
section
variable {C C':Ctx} (hle:C.le C') {id gen:Nat} (hb:C.born id) (hg:∀L,C.loc id=some L→gen≤L.gen)
include hle hb hg
theorem Ctx.le.genle:∀L',C'.loc id=some L'→gen≤L'.gen:=fun L' hL'=>by
 obtain ⟨L,h1,h2⟩:=hle.loc id hb L' hL'
 have := hg L h1
 rcases h2 with rfl | h2
 ·exact this
 ·omega
theorem Ctx.le.live {R:Loc→Prop} (h:∀L,C.loc id=some L→gen=L.gen→R L):∀L',C'.loc id=some L'→gen=L'.gen→R L':=fun L' hL' he=>by
 obtain ⟨L,h1,h2⟩:=hle.loc id hb L' hL'
 have := hg L h1
 rcases h2 with rfl | h2
 ·exact h _ h1 he
 ·omega
end
theorem VR.mono {C C':Ctx} (hle:C.le C') {v:Value} {p:PV} (h:VR C v p):VR C' v p:=by
 induction h with
 | bad v=>exact .bad v
 | bool b=>exact .bool b
 | int k n=>exact .int k n
 | str s l h hm=>exact .str s l h hm
 | nilp=>exact .nilp
 | ptr v id gen idx off hv hb hg h=>exact .ptr v id gen idx off hv (hle.born _ hb) (hle.genle hb hg) (hle.live hb hg h)
 | vptr b o off cells hc hi h ih =>
  refine .vptr b o off cells hc (fun j hj=>hle.isSome (hi j hj)) (fun j c hj=>?_)
  have hlt:j<cells.length:=(List.getElem?_eq_some_iff.1 hj).1
  rw [hle.getD (hi j hlt)]
  exact ih j c hj
 | nils=>exact .nils
 | lits b o size cap l hcap hmax hsz hl hi h ih =>
  refine .lits b o size cap l hcap hmax hsz hl (fun i j a b=>hle.isSome (hi i j a b)) (fun i j e c he hc=>?_)
  have h1:i<l.length:=(List.getElem?_eq_some_iff.1 he).1
  have h2:j<size:=by
   have :=(hl e (List.mem_of_getElem? he)).1
   have :=(List.getElem?_eq_some_iff.1 hc).1
   omega
  rw [hle.getD (hi i j h1 h2)]
  exact ih i j e c he hc
 | lits0 a cap z=>exact .lits0 a cap z
 | ref v id gen start len hv hb hg h=>exact .ref v id gen start len hv (hle.born _ hb) (hle.genle hb hg) (hle.live hb hg h)
 | func fn first captured pf pc hf hc h1 h2 ih1 ih2=>exact .func fn first captured pf pc hf hc ih1 ih2
 | nilf=>exact .nilf
 | iface t v p h ih=>exact .iface t v p ih
 | nili=>exact .nili
 | agg cs l hn hc h ih=>exact .agg cs l hn hc ih
 | tuple cs l hn h ih=>exact .tuple cs l hn ih
 | nilm=>exact .nilm
 | mref v id gen hv hb hg h=>exact .mref v id gen hv (hle.born _ hb) (hle.genle hb hg) (hle.live hb hg h)
 | iter v id gen hv hb hg h=>exact .iter v id gen hv (hle.born _ hb) (hle.genle hb hg) (hle.live hb hg h)
theorem VR.oneCell {C:Ctx} {v:Value} {p:PV} (h:VR C v p) (hc:p.isCell=true):v.oneCell'=true:=by
 cases h <;> first | rfl | assumption | simp[PV.isCell]at hc
theorem VR.cells {C:Ctx} {v:Value} {p:PV} (h:VR C v p) (hn:p.cells ≠ []) :
  v.cells.size = p.cells.length∧(∀c∈p.cells,c.isCell=true)∧∀i c,p.cells[i]?=some c→VR C (v.cells.getD i undef) c:=by
 have one:∀ {v:Value} {p:PV},VR C v p→p.isCell=true→p.cells = [p]→v.cells = #[v] →
   v.cells.size = p.cells.length∧(∀c∈p.cells,c.isCell=true)∧∀i c,p.cells[i]?=some c→VR C (v.cells.getD i undef) c:=by
  intro v p h h1 h2 h3
  rw [h2,h3]
  refine ⟨rfl,by simpa using h1,fun i c hi=>?_⟩
  cases i with
  | zero=>simp at hi;subst hi;simpa using h
  | succ i=>simp at hi
 have cv:∀ {v:Value},v.oneCell'=true→v.cells = #[v]:=by intro v hv;cases v <;> first | rfl | simp[Value.oneCell']at hv
 cases hp:p.isCell with
 | true =>
  refine one h hp ?_ (cv (h.oneCell hp))
  cases p <;> first | rfl | simp[PV.isCell]at hp
 | false =>
  cases h <;> first
   | (simp[PV.isCell]at hp;done)
   | (simp[PV.cells]at hn;done)
   | skip
  rename_i cs l hn' hc h
  exact ⟨by simpa [Value.cells,PV.cells]using hn',hc,by simpa [Value.cells,PV.cells]using h⟩
theorem VR.same {C C':Ctx} (hi:C'.imm=C.imm) (hl:C'.loc=C.loc) (hb:C'.born=C.born) {v:Value} {p:PV} (h:VR C v p):VR C' v p:=by
 obtain ⟨imm,loc,born,B,hh,os,out,keep,caller⟩:=C'
 dsimp only at hi hl hb
 subst hi hl hb
 induction h with
 | bad v=>exact .bad v
 | bool b=>exact .bool b
 | int k n=>exact .int k n
 | str s l h hm=>exact .str s l h hm
 | nilp=>exact .nilp
 | ptr v id g i o hv hb hg h=>exact .ptr v id g i o hv hb hg h
 | vptr b o off cells hc hi h ih=>exact .vptr b o off cells hc hi ih
 | nils=>exact .nils
 | lits b o size cap l hcap hmax hsz hl hi h ih=>exact .lits b o size cap l hcap hmax hsz hl hi ih
 | lits0 a cap z=>exact .lits0 a cap z
 | ref v id g s n hv hb hg h=>exact .ref v id g s n hv hb hg h
 | func fn first captured pf pc hf hc h1 h2 ih1 ih2=>exact .func fn first captured pf pc hf hc ih1 ih2
 | nilf=>exact .nilf
 | iface t v p h ih=>exact .iface t v p ih
 | nili=>exact .nili
 | agg cs l hn hc h ih=>exact .agg cs l hn hc ih
 | tuple cs l hn h ih=>exact .tuple cs l hn ih
 | nilm=>exact .nilm
 | mref v id g hv hb hg h=>exact .mref v id g hv hb hg h
 | iter v id g hv hb hg h=>exact .iter v id g hv hb hg h
end Sim
namespace Sim
open Go
inductive MK where
 | int (k:IntKind)
 | str
 | bool
 | ints (n:Nat)
 deriving DecidableEq
inductive IObj where
 | arr (gen z:Nat) (es:List PV)
 | map (gen:Nat) (mk:MK) (es:List (PV×PV))
 | it (m:Option (Nat×Nat)) (n:Nat) (seen:List Nat)
 | lp (r:Loop)
def Iw:List PV→Bool
 | []=>true
 | .int .i64 n::l=>decide (-9223372036854775808≤n∧n≤9223372036854775807)&&Iw l
 | _=>false
def BE:MK→PV→Bool
 | .int k,.int k' _=>decide (k=k')
 | .str,.str _=>true
 | .bool,.bool _=>true
 | .ints n,.agg l=>l.length==n&&Iw l
 | _,_=>false
structure Store where
 obj : Nat→Option IObj
 next : Nat
def Aa (f:Nat→Option IObj) (id:Nat) (o:Option IObj):Nat→Option IObj:=fun i=>if i=id then o else f i
def CellsAt (C:Ctx) (cs:Array Value) (base size:Nat) (e:PV):Prop :=
 e.cells.length = size∧(∀c∈e.cells,c.isCell=true)∧∀j c,e.cells[j]?=some c→VR C (cs.getD (base+j) undef) c
def Aa1 (C:Ctx) (w:World) (L:Loc) (es:List PV):Prop :=
 C.B ≤ L.blk∧(∀o,C.imm L.blk o=none)∧∃cs T,w.heap[L.blk]?=some (.cells cs T (0,0))∧L.off+L.cap*L.size≤cs.size ∧
  ∀ i e,es[i]?=some e→CellsAt C cs (L.off+i*L.size) L.size e
def ObjAt (C:Ctx) (w:World) (L:Loc):IObj→Prop
 | .arr gen z es=>L.gen=gen∧L.size=z∧0<z∧(es.length≤L.cap∧L.cap≤maxLen)∧(0<L.cap→Aa1 C w L es)
 | .map gen mk es=>L.gen=gen∧L.cap=1∧C.B≤L.blk∧(∀o,C.imm L.blk o=none)∧∃ces:Array MapEntry,w.heap[L.blk]?=some (.map ces es.length)∧ces.size=es.length ∧
   ∀ (i:Nat) (k v:PV),es[i]?=some (k,v)→∃e:MapEntry,ces[i]?=some e∧VR C e.key k∧VR C e.val v∧e.born=i∧BE mk k=true
 | .it m n seen=>L.gen=0∧L.cap=1∧C.B≤L.blk∧(∀o,C.imm L.blk o=none)∧seen.Nodup∧(∀i∈seen,i<n)∧(match m with
   | none=>n=0∧w.heap[L.blk]?=some (.mapIter none 0 #[] 0)
   | some (m,g)=>C.born m∧(∀Lm,C.loc m=some Lm→g≤Lm.gen)∧∃mb,(∀Lm,C.loc m=some Lm→g=Lm.gen→mb=Lm.blk)∧w.heap[L.blk]?=some (.mapIter (some mb) n seen.toArray n))
 | .lp r=>L.gen=0∧L.cap=1∧C.B≤L.blk∧(∀o,C.imm L.blk o=none)∧w.heap[L.blk]?=some (.loop r)
structure Inv (C:Ctx) (st:Store) (w:World):Prop where
 os : w.os=C.os
 out : w.output=C.out
 hB : C.B≤w.heap.size
 old : ∀b,b<C.B→w.heap[b]?=C.h b
 imm : ∀b o v,C.imm b o=some v→w.cell? ⟨b,o,none⟩=some v
 next : ∀id,st.next≤id→¬C.born id
 none_ : ∀id,st.obj id=none→C.loc id=none
 obj : ∀id o,st.obj id=some o→C.born id∧∃L,C.loc id=some L∧ObjAt C w L o
 sep : ∀id id' L L',id≠id'→C.loc id=some L→C.loc id'=some L'→L.blk=L'.blk→L.cap=0∨L'.cap=0
 keep : ∀b,C.keep b=true→C.B≤b∧w.heap[b]?=some (.deferred (some []))
theorem cell?_heap {w w':World} {b o:Nat} (h:w'.heap[b]?=w.heap[b]?):w'.cell? ⟨b,o,none⟩=w.cell? ⟨b,o,none⟩:=by
 simp [World.cell?,h]
theorem CellsAt.mono {C C':Ctx} (hle:C.le C') {cs:Array Value} {base size:Nat} {e:PV} (h:CellsAt C cs base size e):CellsAt C' cs base size e :=
 ⟨h.1, h.2.1,fun j c hj=>(h.2.2 j c hj).mono hle⟩
theorem ObjAt.mono {C C':Ctx} (hle:C.le C') {w w':World} {L:Loc} {o:IObj} (h:ObjAt C w L o) (hi:0<L.cap→∀o,C.imm L.blk o=none→C'.imm L.blk o=none)
  (hw : 0<L.cap→w'.heap[L.blk]?=w.heap[L.blk]?):ObjAt C' w' L o:=by
 cases o with
 | arr gen z es =>
  obtain ⟨h1,h1',h2,h3,h4⟩:=h
  refine ⟨h1,h1',h2,h3,fun hc=>?_⟩
  obtain ⟨h5,h6,cs,T,h7,h8,h9⟩:=h4 hc
  exact ⟨by rw[hle.B];exact h5,fun o=>hi hc o (h6 o),cs,T,by rw[hw hc];exact h7,h8,fun i e he=>(h9 i e he).mono hle⟩
 | map gen mk es =>
  obtain ⟨h1,h2,h3,h4,ces,h5,h6,h7⟩:=h
  refine ⟨h1,h2,by rw[hle.B];exact h3,fun o=>hi (by omega) o (h4 o),ces,by rw[hw (by omega)];exact h5,h6,fun i k v he=>?_⟩
  obtain ⟨e,g1,g2,g3,g4,g5⟩:=h7 i k v he
  exact ⟨e,g1,g2.mono hle,g3.mono hle,g4,g5⟩
 | it m n seen =>
  obtain ⟨h1,h2,h3,h4,h5,h6,h7⟩:=h
  refine ⟨h1,h2,by rw[hle.B];exact h3,fun o=>hi (by omega) o (h4 o),h5,h6,?_⟩
  cases m with
  | none=>exact⟨h7.1,by rw[hw (by omega)];exact h7.2⟩
  | some q =>
   obtain ⟨g1,g2,mb,g3,g4⟩:=h7
   exact ⟨hle.born _ g1,hle.genle g1 g2,mb,hle.live g1 g2 (R:=fun Lm=>mb=Lm.blk) g3,by rw[hw (by omega)];exact g4⟩
 | lp r =>
  obtain ⟨h1,h2,h3,h4,h5⟩:=h
  exact ⟨h1,h2,by rw[hle.B];exact h3,fun o=>hi (by omega) o (h4 o),by rw[hw (by omega)];exact h5⟩
theorem ObjAt.own {C:Ctx} {w:World} {L:Loc} {o:IObj} (h:ObjAt C w L o) (hc:0<L.cap):C.B≤L.blk∧(∀o,C.imm L.blk o=none)∧L.blk<w.heap.size:=by
 have lt:∀ {x:Obj},w.heap[L.blk]?=some x→L.blk<w.heap.size:=fun hx=>(Array.getElem?_eq_some_iff.1 hx).1
 cases o with
 | arr gen z es =>
  obtain ⟨h1,h1',h2,h3,h4⟩:=h
  obtain ⟨h5,h6,cs,T,h7,h8,h9⟩:=h4 hc
  exact ⟨h5,h6,lt h7⟩
 | map gen mk es =>
  obtain ⟨h1,h2,h3,h4,ces,h5,h6,h7⟩:=h
  exact ⟨h3,h4,lt h5⟩
 | it m n seen =>
  obtain ⟨h1,h2,h3,h4,h5,h6,h7⟩:=h
  cases m with
  | none=>exact⟨h3,h4,lt h7.2⟩
  | some q=>obtain⟨g1,g2,mb,g3,g4⟩:=h7;exact⟨h3,h4,lt g4⟩
 | lp r =>
  obtain ⟨h1,h2,h3,h4,h5⟩:=h
  exact ⟨h3,h4,lt h5⟩
theorem ObjAt.notDfr {C:Ctx} {w:World} {L:Loc} {o:IObj} (h:ObjAt C w L o) (hc:0<L.cap) {ds:Option (List Deferred)}:w.heap[L.blk]?≠some (.deferred ds):=by
 cases o with
 | arr gen z es =>
  obtain ⟨h1,h1',h2,h3,h4⟩:=h
  obtain ⟨h5,h6,cs,T,h7,h8,h9⟩:=h4 hc
  rw [h7];simp
 | map gen mk es =>
  obtain ⟨h1,h2,h3,h4,ces,h5,h6,h7⟩:=h
  rw [h5];simp
 | it m n seen =>
  obtain ⟨h1,h2,h3,h4,h5,h6,h7⟩:=h
  cases m with
  | none=>rw[h7.2];simp
  | some q=>obtain⟨g1,g2,mb,g3,g4⟩:=h7;rw[g4];simp
 | lp r =>
  obtain ⟨h1,h2,h3,h4,h5⟩:=h
  rw [h5];simp
theorem Inv.live {C:Ctx} {st:Store} {w:World} (h:Inv C st w) {id:Nat} {L:Loc} (hl:C.loc id=some L):∃o,st.obj id=some o∧C.born id∧ObjAt C w L o:=by
 cases ho:st.obj id with
 | none=>rw[h.none_ id ho]at hl;cases hl
 | some o =>
  obtain ⟨hb,L',hL',hat⟩:=h.obj id o ho
  rw [hl]at hL';cases hL'
  exact ⟨o,rfl,hb,hat⟩
theorem Inv.immLt {C:Ctx} {st:Store} {w:World} (h:Inv C st w) {b o:Nat} (hb:w.heap.size≤b):C.imm b o=none:=by
 cases hi:C.imm b o with
 | none=>rfl
 | some v =>
  have := h.imm b o v hi
  simp [World.cell?,Array.getElem?_eq_none hb]at this
theorem Inv.heap {C:Ctx} {st:Store} {w w':World} (h:Inv C st w) (hw:w'.heap=w.heap) (ho:w'.os=w.os:=by rfl) (hu:w'.output=w.output:=by rfl):Inv C st w' where
 os := ho.trans h.os
 out := hu.trans h.out
 hB := by rw[hw];exact h.hB
 old := fun b hb=>by rw[hw];exact h.old b hb
 imm := fun b o v hv=>by rw[cell?_heap (w:=w) (by rw[hw])];exact h.imm b o v hv
 next := h.next
 none_ := h.none_
 obj := fun id o ho=>by
  obtain ⟨hb,L,hL,hat⟩:=h.obj id o ho
  exact ⟨hb,L,hL,hat.mono (Ctx.le.refl C) (fun _ _ x=>x) (fun _=>by rw[hw])⟩
 sep := h.sep
 keep := fun b hb=>by rw[hw];exact h.keep b hb
def Ctx.addImm (C:Ctx) (b:Nat) (cs:Array Value):Ctx:={ C with imm:=fun b' o=>if b'=b then cs[o]? else C.imm b' o }
theorem Inv.newImm {C:Ctx} {st:Store} {w:World} (h:Inv C st w) (cs:Array Value) (T:TypeId) :
  C.le (C.addImm w.heap.size cs)∧Inv (C.addImm w.heap.size cs) st (w.alloc (.cells cs T)):=by
 have hold:∀b,b<w.heap.size→(w.alloc (.cells cs T)).heap[b]?=w.heap[b]?:=fun b hb=>Go.heap_alloc_old w _ hb
 have hle:C.le (C.addImm w.heap.size cs):=by
  refine ⟨fun b o v hv=>?_,fun b o hb=>?_,fun _ x=>x,fun id _ L' hL=>⟨L',hL,.inl rfl⟩,rfl,rfl,rfl,rfl,fun _ h=>h,rfl⟩
  ·have : b≠w.heap.size:=fun e=>by rw[h.immLt (by omega)]at hv;cases hv
   simp [Ctx.addImm,this,hv]
  ·have : b≠w.heap.size:=by have:=h.hB;omega
   simp [Ctx.addImm,this]
 refine ⟨hle,?_⟩
 constructor
 ·exact h.os
 ·exact h.out
 ·have := h.hB;simp[Ctx.addImm];omega
 ·intro b hb
  have hb':b<C.B:=hb
  rw [hold b (by have:=h.hB;omega)];exact h.old b hb'
 ·intro b o v hv
  by_cases hb:b=w.heap.size
  ·subst hb
   simp [Ctx.addImm]at hv
   rw [World.cell?_alloc_new];exact hv
  ·simp [Ctx.addImm,hb]at hv
   have h1:=h.imm b o v hv
   rw [cell?_heap (hold b (World.block_lt_of_cell? _ _ h1))];exact h1
 ·exact h.next
 ·exact h.none_
 ·intro id o ho
  obtain ⟨hb,L,hL,hat⟩:=h.obj id o ho
  refine ⟨hb,L,hL,hat.mono hle (fun hc o ho=>?_) (fun hc=>hold _ (hat.own hc).2.2)⟩
  have : L.blk≠w.heap.size:=Nat.ne_of_lt (hat.own hc).2.2
  simp [Ctx.addImm,this,ho]
 ·exact h.sep
 ·intro b hb
  obtain ⟨k1,k2⟩:=h.keep b hb
  exact ⟨k1,by rw[hold b (Array.getElem?_eq_some_iff.1 k2).1];exact k2⟩
def Ctx.set (C:Ctx) (id:Nat) (L:Loc):Ctx:={ C with loc:=fun i=>if i=id then some L else C.loc i,born:=fun i=>i=id∨C.born i }
theorem Inv.put {C:Ctx} {st:Store} {w w':World} (h:Inv C st w) {id nx:Nat} {o:IObj} {L':Loc}
  (hid : (∃L,C.loc id=some L∧(L'=L∨L.gen<L'.gen))∨¬C.born id)
  (hblk : L'.cap=0∨w.heap.size≤L'.blk∨∃L,C.loc id=some L∧L.blk=L'.blk∧0<L.cap)
  (hw : ∀b,b<w.heap.size→(∀L,C.loc id=some L→0<L.cap→b≠L.blk)→w'.heap[b]?=w.heap[b]?)
  (hsz : w.heap.size≤w'.heap.size)
  (hat : C.le (C.set id L')→ObjAt (C.set id L') w' L' o)
  (hnx : st.next≤nx) (hnx':id<nx) (hos:w'.os=w.os:=by rfl) (hout:w'.output=w.output:=by rfl) :
  C.le (C.set id L')∧Inv (C.set id L') ⟨Aa st.obj id (some o),nx⟩ w':=by
 have hle:C.le (C.set id L'):=by
  refine ⟨fun _ _ _ x=>x,fun _ _ _=>rfl,fun _ x=>.inr x,fun i hb L1 hL1=>?_,rfl,rfl,rfl,rfl,fun _ h=>h,rfl⟩
  by_cases hi:i=id
  ·subst hi
   simp [Ctx.set]at hL1
   subst hL1
   rcases hid with ⟨L,hL,hg⟩ | hn
   ·exact ⟨L,hL,hg⟩
   ·exact absurd hb hn
  ·simp [Ctx.set,hi]at hL1
   exact ⟨L1,hL1,.inl rfl⟩
 have hlt:∀L,C.loc id=some L→0<L.cap→C.B≤L.blk:=fun L hL hc=>by
  obtain ⟨o,_,_,ho⟩:=h.live hL
  exact (ho.own hc).1
 refine ⟨hle,?_⟩
 constructor
 ·exact hos.trans h.os
 ·exact hout.trans h.out
 ·exact Nat.le_trans h.hB hsz
 ·intro b hb
  have hb':b<C.B:=hb
  rw [hw b (by have:=h.hB;omega) (fun L hL hc=>by have:=hlt L hL hc;omega)]
  exact h.old b hb'
 ·intro b o v hv
  have hv':C.imm b o=some v:=hv
  have h1:=h.imm b o v hv'
  rw [cell?_heap (hw b (World.block_lt_of_cell? _ _ h1) (fun L hL hc e=>?_))]
  ·exact h1
  ·obtain ⟨o',_,_,ho⟩:=h.live hL
   have :=(ho.own hc).2.1 o
   rw [←e,hv']at this;cases this
 ·intro i hi hb
  have hi':nx≤i:=hi
  rcases hb with rfl | hb
  ·omega
  ·exact h.next i (by omega) hb
 ·intro i hi
  by_cases he:i=id
  ·subst he;simp[Aa]at hi
  ·simp [Aa,he]at hi
   simp [Ctx.set,he]
   exact h.none_ i hi
 ·intro i o1 hi
  by_cases he:i=id
  ·subst he
   simp [Aa]at hi
   subst hi
   exact ⟨.inl rfl,L',by simp[Ctx.set],hat hle⟩
  ·simp [Aa,he]at hi
   obtain ⟨hb,L,hL,ho⟩:=h.obj i o1 hi
   refine ⟨.inr hb,L,by simp[Ctx.set,he,hL],ho.mono hle (fun _ _ x=>x) (fun hc=>hw _ (ho.own hc).2.2 (fun L1 hL1 hc1 e=>?_))⟩
   rcases h.sep i id L L1 he hL hL1 e with h0 | h0 <;> omega
 ·intro i j Li Lj hij hi hj hblk'
  have key:∀k Lk,k≠id→C.loc k=some Lk→L'.blk=Lk.blk→L'.cap=0∨Lk.cap=0:=by
   intro k Lk hk hLk he
   rcases Nat.eq_zero_or_pos Lk.cap with h0 | h0
   ·exact .inr h0
   rcases hblk with h1 | h1 | ⟨L,hL,h1,h2⟩
   ·exact .inl h1
   ·obtain ⟨o',_,_,ho⟩:=h.live hLk
    have :=(ho.own h0).2.2
    omega
   ·rcases h.sep k id Lk L hk hLk hL (by omega)with h3 | h3
    ·exact .inr h3
    ·omega
  by_cases h1:i=id
  ·subst h1
   simp [Ctx.set]at hi
   subst hi
   have h2:j≠i:=fun e=>hij e.symm
   simp [Ctx.set,h2]at hj
   exact key j Lj h2 hj hblk'
  ·simp [Ctx.set,h1]at hi
   by_cases h2:j=id
   ·subst h2
    simp [Ctx.set]at hj
    subst hj
    exact (key i Li h1 hi hblk'.symm).symm
   ·simp [Ctx.set,h2]at hj
    exact h.sep i j Li Lj hij hi hj hblk'
 ·intro b hb
  obtain ⟨k1,k2⟩:=h.keep b hb
  refine ⟨k1,?_⟩
  rw [hw b (Array.getElem?_eq_some_iff.1 k2).1 (fun L hL hc e=>?_)]
  ·exact k2
  ·obtain ⟨o',_,_,ho⟩:=h.live hL
   exact ho.notDfr hc (ds:=some []) (by rw[←e];exact k2)
theorem ObjAt.same {C C':Ctx} (hi:C'.imm=C.imm) (hl:C'.loc=C.loc) (hb:C'.born=C.born) (hB:C'.B=C.B) {w:World} {L:Loc} {o:IObj} (h:ObjAt C w L o):ObjAt C' w L o:=by
 cases o with
 | arr gen z es =>
  obtain ⟨h1,h1',h2,h3,h4⟩:=h
  refine ⟨h1,h1',h2,h3,fun hc=>?_⟩
  obtain ⟨h5,h6,cs,T,h7,h8,h9⟩:=h4 hc
  exact ⟨by rw[hB];exact h5,by rw[hi];exact h6,cs,T,h7,h8,fun i e he=>⟨(h9 i e he).1,(h9 i e he).2.1,fun j c hj=>((h9 i e he).2.2 j c hj).same hi hl hb⟩⟩
 | map gen mk es =>
  obtain ⟨h1,h2,h3,h4,ces,h5,h6,h7⟩:=h
  refine ⟨h1,h2,by rw[hB];exact h3,by rw[hi];exact h4,ces,h5,h6,fun i k v he=>?_⟩
  obtain ⟨e,g1,g2,g3,g4,g5⟩:=h7 i k v he
  exact ⟨e,g1,g2.same hi hl hb,g3.same hi hl hb,g4,g5⟩
 | it m n seen =>
  obtain ⟨h1,h2,h3,h4,h5,h6,h7⟩:=h
  refine ⟨h1,h2,by rw[hB];exact h3,by rw[hi];exact h4,h5,h6,?_⟩
  cases m with
  | none=>exact h7
  | some q =>
   obtain ⟨g1,g2,mb,g3,g4⟩:=h7
   exact ⟨by rw[hb];exact g1,by rw[hl];exact g2,mb,by rw[hl];exact g3,g4⟩
 | lp r =>
  obtain ⟨h1,h2,h3,h4,h5⟩:=h
  exact ⟨h1,h2,by rw[hB];exact h3,by rw[hi];exact h4,h5⟩
theorem Inv.same {C:Ctx} {st:Store} {w:World} (h:Inv C st w) (keep caller:Nat→Bool) (hk:∀b,keep b=true→C.keep b=true):Inv { C with keep:=keep,caller:=caller } st w where
 os := h.os
 out := h.out
 hB := h.hB
 old := h.old
 imm := h.imm
 next := h.next
 none_ := h.none_
 obj := fun id o ho=>by
  obtain ⟨hb,L,hL,hat⟩:=h.obj id o ho
  exact ⟨hb,L,hL,ObjAt.same (C:=C) (C':={ C with keep:=keep,caller:=caller }) rfl rfl rfl rfl hat⟩
 sep := h.sep
 keep := fun b hb=>h.keep b (hk b hb)
theorem Inv.shut {C:Ctx} {st:Store} {w:World} (h:Inv C st w) {b:Nat} (hb:C.keep b=true) {w':World} (hw:∀k,k≠b→w'.heap[k]?=w.heap[k]?) (hsz:w'.heap.size=w.heap.size) (hos:w'.os=w.os) (hout:w'.output=w.output) :
  Inv { C with keep:=fun x => !(x==b)&&C.keep x } st w':=by
 obtain ⟨k1,k2⟩:=h.keep b hb
 constructor
 ·exact hos.trans h.os
 ·exact hout.trans h.out
 ·rw [hsz];exact h.hB
 ·intro x hx
  have hx':x<C.B:=hx
  rw [hw x (by omega)];exact h.old x hx'
 ·intro x o v hv
  have h1:=h.imm x o v hv
  have hne:x≠b:=fun e=>by subst e;simp[World.cell?,k2]at h1
  rw [cell?_heap (hw x hne)];exact h1
 ·exact h.next
 ·exact h.none_
 ·intro id o ho
  obtain ⟨hbn,L,hL,hat⟩:=h.obj id o ho
  refine ⟨hbn,L,hL,?_⟩
  have hm:ObjAt C w' L o:=hat.mono (Ctx.le.refl C) (fun _ _ x=>x) (fun hc=>hw _ (fun e=>hat.notDfr hc (ds:=some []) (by rw[e];exact k2)))
  exact ObjAt.same (C:=C) (C':={ C with keep:=fun x => !(x==b)&&C.keep x }) rfl rfl rfl rfl hm
 ·exact h.sep
 ·intro x hx
  simp only[Bool.and_eq_true,Bool.not_eq_true',beq_eq_false_iff_ne]at hx
  obtain ⟨m1,m2⟩:=h.keep x hx.2
  exact ⟨m1,by rw[hw x hx.1];exact m2⟩
end Sim
