/- Lemmas. -/
import Derived.WalkKit
import Derived.ProofKit
import Derived.Lib.Strings
set_option linter.all false
open Array renaming getElem?_eq_some_iff->ai,getD->bm,getElem?_toList->bx,getElem?_eq_getElem->bz,length_toList->cy
open BitVec renaming ofInt->ap
open Go renaming heap_alloc_old->aj,sizeOf->bd,Lib.extract_data->ed
open Go.Builtin renaming len_->ee,lenOf->ef,firstCells->ej,append_->eu,nextslicecap->ew
open Go.Instr renaming loadAt->bn,sureAddr->bo,alloc->cm,storeAt->c6,fieldAt->da,indexAt->dc,field->di,extract->dl,index->dm,sliceBounds->dq,sliceBound->du,sliceAt->dv,slice->dw
open Go.Op renaming bytesLess->aq
open Go.Program renaming cellsOf->bc
open Go.Question renaming forced->fb
open Go.Result renaming andThen->bg
open Go.Sem renaming run_bind->bf,run_pure->c8
open Go.Value renaming cells->ae
open Go.World renaming cell?->ah,block_lt_of_cell?->ak
open List renaming getElem?_eq_some_iff->ab,mem_of_getElem?->ac,replicate->ba,getD->bi,range->br,mem_iff_getElem?->bt,getElem?_take->bu,getElem?_drop->bv,getElem?_map->bw,append_assoc->co,getElem?_append_left->cq,getElem?_take_of_lt->cr,getElem?_append_right->ct,length_append->cu,length_take->cw,length_drop->cx,take_zero->cz,mem_of_mem_drop->dg,mem_of_mem_take->dh
open Nat renaming eq_zero_or_pos->ao,lt_or_ge->bh,add_assoc->bq,zero_add->cd,le_refl->cg,add_mul->de,div_lt_of_lt_mul->ek,mul_comm->eq,div_add_mod->er
open Option renaming isSome_iff_exists->aa,bind_eq_some_iff->au,bind_some->aw,map_eq_some_iff->az,some.injEq->bp,some.inj->c7,map_some->dz
open Prod renaming mk.injEq->c9
namespace Sim
theorem nrfl.{u} {α:Sort u} {a b:α} (h:a=b):a=b:=h
open Go
theorem aI {a b:Prop} (h:a) (g:b):a/\b:=⟨h,g⟩
inductive PV where
 | bad
 | bool (b:Bool)
 | int (k:IntKind) (n:Int)
 | str (s:List UInt8)
 | nilp
 | ptr (id gen idx off:Nat)
 | vptr (cells:List PV) (off:Nat)
 | nils
 | lits (z:Nat) (l:List PV)
 | ref (id gen start len:Nat)
 | func (fn:Fn) (first captured:List PV)
 | nilf
 | iface (t:TypeId) (v:PV)
 | nili
 | agg (cells:List PV)
 | tuple (vs:List PV)
 | nilm
 | mref (id gen:Nat)
 | iter (id gen:Nat)
 deriving Inhabited
def PV.cells:PV->List PV
 | .agg cs=>cs
 | .tuple _ => []
 | .bad => []
 | v => [v]
def PV.isCell:PV->Bool
 | .agg _ | .tuple _ | .bad=>false
 | _=>true
structure Loc where
 blk : Nat
 off : Nat
 size : Nat
 cap : Nat
 gen : Nat
structure Ctx where
 imm : Nat->Nat->Option Value
 loc : Nat->Option Loc
 born : Nat->Prop
 B : Nat
 h : Nat->Option Obj
 os : Os
 out : Array (Nat×ByteArray)
 keep : Nat->Bool
 caller : Nat->Bool
structure Ctx.le (C C':Ctx):Prop where
 imm : ∀b o v,C.imm b o=some v->C'.imm b o=some v
 old : ∀b o,b<C.B->C'.imm b o=C.imm b o
 born : ∀id,C.born id->C'.born id
 loc : ∀id,C.born id->∀L',C'.loc id=some L'->∃L,C.loc id=some L/\(L'=L\/L.gen<L'.gen)
 B : C'.B=C.B
 h : C'.h=C.h
 os : C'.os=C.os
 out : C'.out=C.out
 keep : ∀b,C.keep b=true->C'.keep b=true
 caller : C'.caller=C.caller
theorem Ctx.le.refl (C:Ctx):C.le C:=⟨λ_ _ _ h=>h,λ_ _ _=>rfl,λ_ h=>h,λ_ _ L' h=>⟨L',h,.inl rfl⟩,rfl,rfl,rfl,rfl,λ_ h=>h,rfl⟩
theorem Ctx.le.trans {A B C:Ctx} (h:A.le B) (g:B.le C):A.le C where
 imm := λb o v x=>g.imm b o v (h.imm b o v x)
 old := λb o x=>(g.old b o (by rw[h.B];exact x)).trans (h.old b o x)
 born := λid x=>g.born id (h.born id x)
 loc := λid x L' hL=>by
  obtain ⟨L1,h1,h2⟩:=g.loc id (h.born id x) L' hL
  obtain ⟨L0,h3,h4⟩:=h.loc id x L1 h1
  refine ⟨L0,h3,?_⟩
  rcases h2 with rfl | h2
  .exact h4
  .rcases h4 with rfl | h4
   .exact .inr h2
   .exact .inr (by omega)
 B := g.B.trans h.B
 h := g.h.trans h.h
 os := g.os.trans h.os
 out := g.out.trans h.out
 keep := λb x=>g.keep b (h.keep b x)
 caller := g.caller.trans h.caller
def lF (L:Loc) (start len:Nat) (v:Value):Prop :=
 ∃ a,v=.slice a len (L.cap-start)/\start+len<=L.cap/\(start<L.cap->a=some ⟨L.blk,L.off+start*L.size,none⟩)
inductive VR (C:Ctx):Value->PV->Prop where
 | bad (v:Value):VR C v .bad
 | bool (b:Bool):VR C (.bool b) (.bool b)
 | int (k:IntKind) (n:Int):VR C (.int k n) (.int k n)
 | str (s:ByteArray) (l:List UInt8) (h:l=s.data.toList) (hm:l.length<=maxLen):VR C (.string s) (.str l)
 | nilp:VR C (.pointer none) .nilp
 | ptr (v:Value) (id gen idx off:Nat) (hv:v.oneCell'=true) (hb:C.born id) (hg:∀L,C.loc id=some L->gen<=L.gen)
   (h : ∀L,C.loc id=some L->gen=L.gen->v=.pointer (some ⟨L.blk,L.off+idx*L.size+off,none⟩)):VR C v (.ptr id gen idx off)
 | vptr (b o off:Nat) (cells:List PV) (hc:∀c∈cells,c.isCell=true) (hi:∀j,j<cells.length->(C.imm b (o+j)).isSome=true)
   (h : ∀j c,cells[j]?=some c->VR C ((C.imm b (o+j)).getD undef) c):VR C (.pointer (some ⟨b,o+off,none⟩)) (.vptr cells off)
 | nils:VR C (.slice none 0 0) .nils
 | lits (b o size cap:Nat) (l:List PV) (hcap:l.length<=cap) (hmax:cap<=maxLen) (hsz:0<size) (hl:∀e∈l,e.cells.length=size/\∀c∈e.cells,c.isCell=true)
   (hi : ∀i j,i<l.length->j<size->(C.imm b (o+i*size+j)).isSome=true)
   (h : ∀i j e c,l[i]?=some e->e.cells[j]?=some c->VR C ((C.imm b (o+i*size+j)).getD undef) c):VR C (.slice (some ⟨b,o,none⟩) l.length cap) (.lits size l)
 | lits0 (a:Option Addr) (cap z:Nat):VR C (.slice a 0 cap) (.lits z [])
 | ref (v:Value) (id gen start len:Nat) (hv:v.oneCell'=true) (hb:C.born id) (hg:∀L,C.loc id=some L->gen<=L.gen)
   (h : ∀L,C.loc id=some L->gen=L.gen->lF L start len v):VR C v (.ref id gen start len)
 | func (fn:Fn) (first captured:Array Value) (pf pc:List PV) (hf:first.size=pf.length) (hc:captured.size=pc.length)
   (h1 : ∀i p,pf[i]?=some p->VR C (first.getD i undef) p) (h2:∀i p,pc[i]?=some p->VR C (captured.getD i undef) p):VR C (.func fn first captured) (.func fn pf pc)
 | nilf:VR C .nilFunc .nilf
 | iface (t:TypeId) (v:Value) (p:PV) (h:VR C v p):VR C (.iface t v) (.iface t p)
 | nili:VR C .nilIface .nili
 | agg (cs:Array Value) (l:List PV) (hn:cs.size=l.length) (hc:∀c∈l,c.isCell=true) (h:∀i p,l[i]?=some p->VR C (cs.getD i undef) p):VR C (.agg cs) (.agg l)
 | tuple (cs:Array Value) (l:List PV) (hn:cs.size=l.length) (h:∀i p,l[i]?=some p->VR C (cs.getD i undef) p):VR C (.tuple cs) (.tuple l)
 | nilm:VR C (.map none) .nilm
 | mref (v:Value) (id gen:Nat) (hv:v.oneCell'=true) (hb:C.born id) (hg:∀L,C.loc id=some L->gen<=L.gen)
   (h : ∀L,C.loc id=some L->gen=L.gen->v=.map (some L.blk)):VR C v (.mref id gen)
 | iter (v:Value) (id gen:Nat) (hv:v.oneCell'=true) (hb:C.born id) (hg:∀L,C.loc id=some L->gen<=L.gen)
   (h : ∀L,C.loc id=some L->gen=L.gen->v=.pointer (some ⟨L.blk,0,none⟩)):VR C v (.iter id gen)
theorem Ctx.le.isSome {C C':Ctx} (h:C.le C') {b o:Nat} (x:(C.imm b o).isSome=true):(C'.imm b o).isSome=true:=by
 obtain ⟨v,hv⟩:=aa.1 x
 rw [h.imm _ _ _ hv];rfl
theorem Ctx.le.getD {C C':Ctx} (h:C.le C') {b o:Nat} (x:(C.imm b o).isSome=true) (d:Value):(C'.imm b o).getD d=(C.imm b o).getD d:=by
 obtain ⟨v,hv⟩:=aa.1 x
 rw [h.imm _ _ _ hv,hv]
section
variable {C C':Ctx} (hle:C.le C') {id gen:Nat} (hb:C.born id) (hg:∀L,C.loc id=some L->gen<=L.gen)
include hle hb hg
theorem Ctx.le.genle:∀L',C'.loc id=some L'->gen<=L'.gen:=λL' hL'=>by
 obtain ⟨L,h1,h2⟩:=hle.loc id hb L' hL'
 have := hg L h1
 rcases h2 with rfl | h2
 .exact this
 .omega
theorem Ctx.le.live {R:Loc->Prop} (h:∀L,C.loc id=some L->gen=L.gen->R L):∀L',C'.loc id=some L'->gen=L'.gen->R L':=λL' hL' he=>by
 obtain ⟨L,h1,h2⟩:=hle.loc id hb L' hL'
 have := hg L h1
 rcases h2 with rfl | h2
 .exact h _ h1 he
 .omega
end
theorem VR.mono {C C':Ctx} (hle:C.le C') {v:Value} {p:PV} (h:VR C v p):VR C' v p:=by
 induction h with
 | bad v=>exact .bad v
 | bool b=>exact .bool b
 | int k n=>exact .int k n
 | str s l h hm=>exact .str s l h hm
 | nilp=>exact .nilp
 | ptr v id gen idx off hv hb hg h=>exact .ptr v id gen idx off hv (hle.born _ hb) (hle.genle hb hg) (hle.live hb hg h)
 | vptr b o off cells hc hi h ih =>
  refine .vptr b o off cells hc (λj hj=>hle.isSome (hi j hj)) (λj c hj=>?_)
  have hlt:j<cells.length:=(ab.1 hj).1
  rw [hle.getD (hi j hlt)]
  exact ih j c hj
 | nils=>exact .nils
 | lits b o size cap l hcap hmax hsz hl hi h ih =>
  refine .lits b o size cap l hcap hmax hsz hl (λi j a b=>hle.isSome (hi i j a b)) (λi j e c he hc=>?_)
  have h1:i<l.length:=(ab.1 he).1
  have h2:j<size:=by
   have :=(hl e (ac he)).1
   have :=(ab.1 hc).1
   omega
  rw [hle.getD (hi i j h1 h2)]
  exact ih i j e c he hc
 | lits0 a cap z=>exact .lits0 a cap z
 | ref v id gen start len hv hb hg h=>exact .ref v id gen start len hv (hle.born _ hb) (hle.genle hb hg) (hle.live hb hg h)
 | func fn first captured pf pc hf hc h1 h2 ih1 ih2=>exact .func fn first captured pf pc hf hc ih1 ih2
 | nilf=>exact .nilf
 | iface t v p h ih=>exact .iface t v p ih
 | nili=>exact .nili
 | agg cs l hn hc h ih=>exact .agg cs l hn hc ih
 | tuple cs l hn h ih=>exact .tuple cs l hn ih
 | nilm=>exact .nilm
 | mref v id gen hv hb hg h=>exact .mref v id gen hv (hle.born _ hb) (hle.genle hb hg) (hle.live hb hg h)
 | iter v id gen hv hb hg h=>exact .iter v id gen hv (hle.born _ hb) (hle.genle hb hg) (hle.live hb hg h)
theorem VR.oneCell {C:Ctx} {v:Value} {p:PV} (h:VR C v p) (hc:p.isCell=true):v.oneCell'=true:=by
 cases h <;> first | rfl | assumption | simp[PV.isCell]at hc
theorem VR.cells {C:Ctx} {v:Value} {p:PV} (h:VR C v p) (hn:p.cells ≠ []) :
  v.cells.size = p.cells.length/\(∀c∈p.cells,c.isCell=true)/\∀i c,p.cells[i]?=some c->VR C (v.cells.getD i undef) c:=by
 have one:∀ {v:Value} {p:PV},VR C v p->p.isCell=true->p.cells = [p]->v.cells = #[v] ->
   v.cells.size = p.cells.length/\(∀c∈p.cells,c.isCell=true)/\∀i c,p.cells[i]?=some c->VR C (v.cells.getD i undef) c:=by
  intro v p h h1 h2 h3
  rw [h2,h3]
  refine ⟨rfl,by simpa using h1,λi c hi=>?_⟩
  cases i with
  | zero=>simp at hi;subst hi;simpa using h
  | succ i=>simp at hi
 have cv:∀ {v:Value},v.oneCell'=true->v.cells = #[v]:=by intro v hv;cases v <;> first | rfl | simp[Value.oneCell']at hv
 cases hp:p.isCell with
 | true =>
  refine one h hp ?_ (cv (h.oneCell hp))
  cases p <;> first | rfl | simp[PV.isCell]at hp
 | false =>
  cases h <;> first
   | (simp[PV.isCell]at hp;done)
   | (simp[PV.cells]at hn;done)
   | skip
  rename_i cs l hn' hc h
  exact ⟨by simpa [ae,PV.cells]using hn',hc,by simpa [ae,PV.cells]using h⟩
theorem VR.same {C C':Ctx} (hi:C'.imm=C.imm) (hl:C'.loc=C.loc) (hb:C'.born=C.born) {v:Value} {p:PV} (h:VR C v p):VR C' v p:=by
 obtain ⟨imm,loc,born,B,hh,os,out,keep,caller⟩:=C'
 dsimp only at hi hl hb
 subst hi hl hb
 induction h with
 | bad v=>exact .bad v
 | bool b=>exact .bool b
 | int k n=>exact .int k n
 | str s l h hm=>exact .str s l h hm
 | nilp=>exact .nilp
 | ptr v id g i o hv hb hg h=>exact .ptr v id g i o hv hb hg h
 | vptr b o off cells hc hi h ih=>exact .vptr b o off cells hc hi ih
 | nils=>exact .nils
 | lits b o size cap l hcap hmax hsz hl hi h ih=>exact .lits b o size cap l hcap hmax hsz hl hi ih
 | lits0 a cap z=>exact .lits0 a cap z
 | ref v id g s n hv hb hg h=>exact .ref v id g s n hv hb hg h
 | func fn first captured pf pc hf hc h1 h2 ih1 ih2=>exact .func fn first captured pf pc hf hc ih1 ih2
 | nilf=>exact .nilf
 | iface t v p h ih=>exact .iface t v p ih
 | nili=>exact .nili
 | agg cs l hn hc h ih=>exact .agg cs l hn hc ih
 | tuple cs l hn h ih=>exact .tuple cs l hn ih
 | nilm=>exact .nilm
 | mref v id g hv hb hg h=>exact .mref v id g hv hb hg h
 | iter v id g hv hb hg h=>exact .iter v id g hv hb hg h
inductive MK where
 | int (k:IntKind)
 | str
 | bool
 | ints (n:Nat)
 deriving DecidableEq
inductive IObj where
 | arr (gen z:Nat) (es:List PV)
 | map (gen:Nat) (mk:MK) (es:List (PV×PV))
 | it (m:Option (Nat×Nat)) (n:Nat) (seen:List Nat)
 | lp (r:Loop)
def J9:List PV->Bool
 | []=>true
 | .int .i64 n::l=>decide (-9223372036854775808<=n/\n<=9223372036854775807)&&J9 l
 | _=>false
def BN:MK->PV->Bool
 | .int k,.int k' _=>decide (k=k')
 | .str,.str _=>true
 | .bool,.bool _=>true
 | .ints n,.agg l=>l.length==n&&J9 l
 | _,_=>false
structure Store where
 obj : Nat->Option IObj
 next : Nat
def Ab (f:Nat->Option IObj) (id:Nat) (o:Option IObj):Nat->Option IObj:=λi=>if i=id then o else f i
def CellsAt (C:Ctx) (cs:Array Value) (base size:Nat) (e:PV):Prop :=
 e.cells.length = size/\(∀c∈e.cells,c.isCell=true)/\∀j c,e.cells[j]?=some c->VR C (cs.getD (base+j) undef) c
def Age (C:Ctx) (w:World) (L:Loc) (es:List PV):Prop :=
 C.B <= L.blk/\(∀o,C.imm L.blk o=none)/\∃cs T,w.heap[L.blk]?=some (.cells cs T (0,0))/\L.off+L.cap*L.size<=cs.size /\
  ∀ i e,es[i]?=some e->CellsAt C cs (L.off+i*L.size) L.size e
def ObjAt (C:Ctx) (w:World) (L:Loc):IObj->Prop
 | .arr gen z es=>L.gen=gen/\L.size=z/\0<z/\(es.length<=L.cap/\L.cap<=maxLen)/\(0<L.cap->Age C w L es)
 | .map gen mk es=>L.gen=gen/\L.cap=1/\C.B<=L.blk/\(∀o,C.imm L.blk o=none)/\∃ces:Array MapEntry,w.heap[L.blk]?=some (.map ces es.length)/\ces.size=es.length /\
   ∀ (i:Nat) (k v:PV),es[i]?=some (k,v)->∃e:MapEntry,ces[i]?=some e/\VR C e.key k/\VR C e.val v/\e.born=i/\BN mk k=true
 | .it m n seen=>L.gen=0/\L.cap=1/\C.B<=L.blk/\(∀o,C.imm L.blk o=none)/\seen.Nodup/\(∀i∈seen,i<n)/\(match m with
   | none=>n=0/\w.heap[L.blk]?=some (.mapIter none 0 #[] 0)
   | some (m,g)=>C.born m/\(∀Lm,C.loc m=some Lm->g<=Lm.gen)/\∃mb,(∀Lm,C.loc m=some Lm->g=Lm.gen->mb=Lm.blk)/\w.heap[L.blk]?=some (.mapIter (some mb) n seen.toArray n))
 | .lp r=>L.gen=0/\L.cap=1/\C.B<=L.blk/\(∀o,C.imm L.blk o=none)/\w.heap[L.blk]?=some (.loop r)
structure Inv (C:Ctx) (st:Store) (w:World):Prop where
 os : w.os=C.os
 out : w.output=C.out
 hB : C.B<=w.heap.size
 old : ∀b,b<C.B->w.heap[b]?=C.h b
 imm : ∀b o v,C.imm b o=some v->w.cell? ⟨b,o,none⟩=some v
 next : ∀id,st.next<=id->¬C.born id
 none_ : ∀id,st.obj id=none->C.loc id=none
 obj : ∀id o,st.obj id=some o->C.born id/\∃L,C.loc id=some L/\ObjAt C w L o
 sep : ∀id id' L L',id≠id'->C.loc id=some L->C.loc id'=some L'->L.blk=L'.blk->L.cap=0\/L'.cap=0
 keep : ∀b,C.keep b=true->C.B<=b/\w.heap[b]?=some (.deferred (some []))
theorem cell?_heap {w w':World} {b o:Nat} (h:w'.heap[b]?=w.heap[b]?):w'.cell? ⟨b,o,none⟩=w.cell? ⟨b,o,none⟩:=by
 simp [ah,h]
theorem CellsAt.mono {C C':Ctx} (hle:C.le C') {cs:Array Value} {base size:Nat} {e:PV} (h:CellsAt C cs base size e):CellsAt C' cs base size e :=
 ⟨h.1, h.2.1,λj c hj=>(h.2.2 j c hj).mono hle⟩
theorem ObjAt.mono {C C':Ctx} (hle:C.le C') {w w':World} {L:Loc} {o:IObj} (h:ObjAt C w L o) (hi:0<L.cap->∀o,C.imm L.blk o=none->C'.imm L.blk o=none)
  (hw : 0<L.cap->w'.heap[L.blk]?=w.heap[L.blk]?):ObjAt C' w' L o:=by
 cases o with
 | arr gen z es =>
  obtain ⟨h1,h1',h2,h3,h4⟩:=h
  refine ⟨h1,h1',h2,h3,λhc=>?_⟩
  obtain ⟨h5,h6,cs,T,h7,h8,h9⟩:=h4 hc
  exact ⟨by rw[hle.B];exact h5,λo=>hi hc o (h6 o),cs,T,by rw[hw hc];exact h7,h8,λi e he=>(h9 i e he).mono hle⟩
 | map gen mk es =>
  obtain ⟨h1,h2,h3,h4,ces,h5,h6,h7⟩:=h
  refine ⟨h1,h2,by rw[hle.B];exact h3,λo=>hi (by omega) o (h4 o),ces,by rw[hw (by omega)];exact h5,h6,λi k v he=>?_⟩
  obtain ⟨e,g1,g2,g3,g4,g5⟩:=h7 i k v he
  exact ⟨e,g1,g2.mono hle,g3.mono hle,g4,g5⟩
 | it m n seen =>
  obtain ⟨h1,h2,h3,h4,h5,h6,h7⟩:=h
  refine ⟨h1,h2,by rw[hle.B];exact h3,λo=>hi (by omega) o (h4 o),h5,h6,?_⟩
  cases m with
  | none=>exact⟨h7.1,by rw[hw (by omega)];exact h7.2⟩
  | some q =>
   obtain ⟨g1,g2,mb,g3,g4⟩:=h7
   exact ⟨hle.born _ g1,hle.genle g1 g2,mb,hle.live g1 g2 (R:=λLm=>mb=Lm.blk) g3,by rw[hw (by omega)];exact g4⟩
 | lp r =>
  obtain ⟨h1,h2,h3,h4,h5⟩:=h
  exact ⟨h1,h2,by rw[hle.B];exact h3,λo=>hi (by omega) o (h4 o),by rw[hw (by omega)];exact h5⟩
section
variable {C:Ctx}
theorem ObjAt.own {w:World} {L:Loc} {o:IObj} (h:ObjAt C w L o) (hc:0<L.cap):C.B<=L.blk/\(∀o,C.imm L.blk o=none)/\L.blk<w.heap.size:=by
 have lt:∀ {x:Obj},w.heap[L.blk]?=some x->L.blk<w.heap.size:=λhx=>(ai.1 hx).1
 cases o with
 | arr gen z es =>
  obtain ⟨h1,h1',h2,h3,h4⟩:=h
  obtain ⟨h5,h6,cs,T,h7,h8,h9⟩:=h4 hc
  exact ⟨h5,h6,lt h7⟩
 | map gen mk es =>
  obtain ⟨h1,h2,h3,h4,ces,h5,h6,h7⟩:=h
  exact ⟨h3,h4,lt h5⟩
 | it m n seen =>
  obtain ⟨h1,h2,h3,h4,h5,h6,h7⟩:=h
  cases m with
  | none=>exact⟨h3,h4,lt h7.2⟩
  | some q=>obtain⟨g1,g2,mb,g3,g4⟩:=h7;exact⟨h3,h4,lt g4⟩
 | lp r =>
  obtain ⟨h1,h2,h3,h4,h5⟩:=h
  exact ⟨h3,h4,lt h5⟩
theorem ObjAt.notDfr {w:World} {L:Loc} {o:IObj} (h:ObjAt C w L o) (hc:0<L.cap) {ds:Option (List Deferred)}:w.heap[L.blk]?≠some (.deferred ds):=by
 cases o with
 | arr gen z es =>
  obtain ⟨h1,h1',h2,h3,h4⟩:=h
  obtain ⟨h5,h6,cs,T,h7,h8,h9⟩:=h4 hc
  rw [h7];simp
 | map gen mk es =>
  obtain ⟨h1,h2,h3,h4,ces,h5,h6,h7⟩:=h
  rw [h5];simp
 | it m n seen =>
  obtain ⟨h1,h2,h3,h4,h5,h6,h7⟩:=h
  cases m with
  | none=>rw[h7.2];simp
  | some q=>obtain⟨g1,g2,mb,g3,g4⟩:=h7;rw[g4];simp
 | lp r =>
  obtain ⟨h1,h2,h3,h4,h5⟩:=h
  rw [h5];simp
theorem Inv.live {st:Store} {w:World} (h:Inv C st w) {id:Nat} {L:Loc} (hl:C.loc id=some L):∃o,st.obj id=some o/\C.born id/\ObjAt C w L o:=by
 cases ho:st.obj id with
 | none=>rw[h.none_ id ho]at hl;cases hl
 | some o =>
  obtain ⟨hb,L',hL',hat⟩:=h.obj id o ho
  rw [hl]at hL';cases hL'
  exact ⟨o,rfl,hb,hat⟩
theorem Inv.immLt {st:Store} {w:World} (h:Inv C st w) {b o:Nat} (hb:w.heap.size<=b):C.imm b o=none:=by
 cases hi:C.imm b o with
 | none=>rfl
 | some v =>
  have := h.imm b o v hi
  simp [ah,Array.getElem?_eq_none hb]at this
theorem Inv.heap {C:Ctx} {st:Store} {w w':World} (h:Inv C st w) (hw:w'.heap=w.heap) (ho:w'.os=w.os:=by rfl) (hu:w'.output=w.output:=by rfl):Inv C st w' where
 os := ho.trans h.os
 out := hu.trans h.out
 hB := by rw[hw];exact h.hB
 old := λb hb=>by rw[hw];exact h.old b hb
 imm := λb o v hv=>by rw[cell?_heap (w:=w) (by rw[hw])];exact h.imm b o v hv
 next := h.next
 none_ := h.none_
 obj := λid o ho=>by
  obtain ⟨hb,L,hL,hat⟩:=h.obj id o ho
  exact ⟨hb,L,hL,hat.mono (Ctx.le.refl C) (λ_ _ x=>x) (λ_=>by rw[hw])⟩
 sep := h.sep
 keep := λb hb=>by rw[hw];exact h.keep b hb
def Ctx.addImm (C:Ctx) (b:Nat) (cs:Array Value):Ctx:={ C with imm:=λb' o=>if b'=b then cs[o]? else C.imm b' o }
theorem Inv.newImm {st:Store} {w:World} (h:Inv C st w) (cs:Array Value) (T:TypeId) :
  C.le (C.addImm w.heap.size cs)/\Inv (C.addImm w.heap.size cs) st (w.alloc (.cells cs T)):=by
 have hold:∀b,b<w.heap.size->(w.alloc (.cells cs T)).heap[b]?=w.heap[b]?:=λb hb=>aj w _ hb
 have hle:C.le (C.addImm w.heap.size cs):=by
  refine ⟨λb o v hv=>?_,λb o hb=>?_,λ_ x=>x,λid _ L' hL=>⟨L',hL,.inl rfl⟩,rfl,rfl,rfl,rfl,λ_ h=>h,rfl⟩
  .have : b≠w.heap.size:=λe=>by rw[h.immLt (by omega)]at hv;cases hv
   simp [Ctx.addImm,this,hv]
  .have : b≠w.heap.size:=by have:=h.hB;omega
   simp [Ctx.addImm,this]
 refine ⟨hle,?_⟩
 constructor
 .exact h.os
 .exact h.out
 .have := h.hB;simp[Ctx.addImm];omega
 .intro b hb
  have hb':b<C.B:=hb
  rw [hold b (by have:=h.hB;omega)];exact h.old b hb'
 .intro b o v hv
  by_cases hb:b=w.heap.size
  .subst hb
   simp [Ctx.addImm]at hv
   rw [World.cell?_alloc_new];exact hv
  .simp [Ctx.addImm,hb]at hv
   have h1:=h.imm b o v hv
   rw [cell?_heap (hold b (ak _ _ h1))];exact h1
 .exact h.next
 .exact h.none_
 .intro id o ho
  obtain ⟨hb,L,hL,hat⟩:=h.obj id o ho
  refine ⟨hb,L,hL,hat.mono hle (λhc o ho=>?_) (λhc=>hold _ (hat.own hc).2.2)⟩
  have : L.blk≠w.heap.size:=Nat.ne_of_lt (hat.own hc).2.2
  simp [Ctx.addImm,this,ho]
 .exact h.sep
 .intro b hb
  obtain ⟨k1,k2⟩:=h.keep b hb
  exact ⟨k1,by rw[hold b (ai.1 k2).1];exact k2⟩
def Ctx.set (C:Ctx) (id:Nat) (L:Loc):Ctx:={ C with loc:=λi=>if i=id then some L else C.loc i,born:=λi=>i=id\/C.born i }
theorem Inv.put {st:Store} {w w':World} (h:Inv C st w) {id nx:Nat} {o:IObj} {L':Loc}
  (hid : (∃L,C.loc id=some L/\(L'=L\/L.gen<L'.gen))\/¬C.born id)
  (hblk : L'.cap=0\/w.heap.size<=L'.blk\/∃L,C.loc id=some L/\L.blk=L'.blk/\0<L.cap)
  (hw : ∀b,b<w.heap.size->(∀L,C.loc id=some L->0<L.cap->b≠L.blk)->w'.heap[b]?=w.heap[b]?)
  (hsz : w.heap.size<=w'.heap.size)
  (hat : C.le (C.set id L')->ObjAt (C.set id L') w' L' o)
  (hnx : st.next<=nx) (hnx':id<nx) (hos:w'.os=w.os:=by rfl) (hout:w'.output=w.output:=by rfl) :
  C.le (C.set id L')/\Inv (C.set id L') ⟨Ab st.obj id (some o),nx⟩ w':=by
 have hle:C.le (C.set id L'):=by
  refine ⟨λ_ _ _ x=>x,λ_ _ _=>rfl,λ_ x=>.inr x,λi hb L1 hL1=>?_,rfl,rfl,rfl,rfl,λ_ h=>h,rfl⟩
  by_cases hi:i=id
  .subst hi
   simp [Ctx.set]at hL1
   subst hL1
   rcases hid with ⟨L,hL,hg⟩ | hn
   .exact ⟨L,hL,hg⟩
   .exact absurd hb hn
  .simp [Ctx.set,hi]at hL1
   exact ⟨L1,hL1,.inl rfl⟩
 have hlt:∀L,C.loc id=some L->0<L.cap->C.B<=L.blk:=λL hL hc=>by
  obtain ⟨o,_,_,ho⟩:=h.live hL
  exact (ho.own hc).1
 refine ⟨hle,?_⟩
 constructor
 .exact hos.trans h.os
 .exact hout.trans h.out
 .exact Nat.le_trans h.hB hsz
 .intro b hb
  have hb':b<C.B:=hb
  rw [hw b (by have:=h.hB;omega) (λL hL hc=>by have:=hlt L hL hc;omega)]
  exact h.old b hb'
 .intro b o v hv
  have hv':C.imm b o=some v:=hv
  have h1:=h.imm b o v hv'
  rw [cell?_heap (hw b (ak _ _ h1) (λL hL hc e=>?_))]
  .exact h1
  .obtain ⟨o',_,_,ho⟩:=h.live hL
   have :=(ho.own hc).2.1 o
   rw [<-e,hv']at this;cases this
 .intro i hi hb
  have hi':nx<=i:=hi
  rcases hb with rfl | hb
  .omega
  .exact h.next i (by omega) hb
 .intro i hi
  by_cases he:i=id
  .subst he;simp[Ab]at hi
  .simp [Ab,he]at hi
   simp [Ctx.set,he]
   exact h.none_ i hi
 .intro i o1 hi
  by_cases he:i=id
  .subst he
   simp [Ab]at hi
   subst hi
   exact ⟨.inl rfl,L',by simp[Ctx.set],hat hle⟩
  .simp [Ab,he]at hi
   obtain ⟨hb,L,hL,ho⟩:=h.obj i o1 hi
   refine ⟨.inr hb,L,by simp[Ctx.set,he,hL],ho.mono hle (λ_ _ x=>x) (λhc=>hw _ (ho.own hc).2.2 (λL1 hL1 hc1 e=>?_))⟩
   rcases h.sep i id L L1 he hL hL1 e with h0 | h0 <;> omega
 .intro i j Li Lj hij hi hj hblk'
  have key:∀k Lk,k≠id->C.loc k=some Lk->L'.blk=Lk.blk->L'.cap=0\/Lk.cap=0:=by
   intro k Lk hk hLk he
   rcases ao Lk.cap with h0 | h0
   .exact .inr h0
   rcases hblk with h1 | h1 | ⟨L,hL,h1,h2⟩
   .exact .inl h1
   .obtain ⟨o',_,_,ho⟩:=h.live hLk
    have :=(ho.own h0).2.2
    omega
   .rcases h.sep k id Lk L hk hLk hL (by omega)with h3 | h3
    .exact .inr h3
    .omega
  by_cases h1:i=id
  .subst h1
   simp [Ctx.set]at hi
   subst hi
   have h2:j≠i:=λe=>hij e.symm
   simp [Ctx.set,h2]at hj
   exact key j Lj h2 hj hblk'
  .simp [Ctx.set,h1]at hi
   by_cases h2:j=id
   .subst h2
    simp [Ctx.set]at hj
    subst hj
    exact (key i Li h1 hi hblk'.symm).symm
   .simp [Ctx.set,h2]at hj
    exact h.sep i j Li Lj hij hi hj hblk'
 .intro b hb
  obtain ⟨k1,k2⟩:=h.keep b hb
  refine ⟨k1,?_⟩
  rw [hw b (ai.1 k2).1 (λL hL hc e=>?_)]
  .exact k2
  .obtain ⟨o',_,_,ho⟩:=h.live hL
   exact ho.notDfr hc (ds:=some []) (by rw[<-e];exact k2)
theorem ObjAt.same {C C':Ctx} (hi:C'.imm=C.imm) (hl:C'.loc=C.loc) (hb:C'.born=C.born) (hB:C'.B=C.B) {w:World} {L:Loc} {o:IObj} (h:ObjAt C w L o):ObjAt C' w L o:=by
 cases o with
 | arr gen z es =>
  obtain ⟨h1,h1',h2,h3,h4⟩:=h
  refine ⟨h1,h1',h2,h3,λhc=>?_⟩
  obtain ⟨h5,h6,cs,T,h7,h8,h9⟩:=h4 hc
  exact ⟨by rw[hB];exact h5,by rw[hi];exact h6,cs,T,h7,h8,λi e he=>⟨(h9 i e he).1,(h9 i e he).2.1,λj c hj=>((h9 i e he).2.2 j c hj).same hi hl hb⟩⟩
 | map gen mk es =>
  obtain ⟨h1,h2,h3,h4,ces,h5,h6,h7⟩:=h
  refine ⟨h1,h2,by rw[hB];exact h3,by rw[hi];exact h4,ces,h5,h6,λi k v he=>?_⟩
  obtain ⟨e,g1,g2,g3,g4,g5⟩:=h7 i k v he
  exact ⟨e,g1,g2.same hi hl hb,g3.same hi hl hb,g4,g5⟩
 | it m n seen =>
  obtain ⟨h1,h2,h3,h4,h5,h6,h7⟩:=h
  refine ⟨h1,h2,by rw[hB];exact h3,by rw[hi];exact h4,h5,h6,?_⟩
  cases m with
  | none=>exact h7
  | some q =>
   obtain ⟨g1,g2,mb,g3,g4⟩:=h7
   exact ⟨by rw[hb];exact g1,by rw[hl];exact g2,mb,by rw[hl];exact g3,g4⟩
 | lp r =>
  obtain ⟨h1,h2,h3,h4,h5⟩:=h
  exact ⟨h1,h2,by rw[hB];exact h3,by rw[hi];exact h4,h5⟩
theorem Inv.same {C:Ctx} {st:Store} {w:World} (h:Inv C st w) (keep caller:Nat->Bool) (hk:∀b,keep b=true->C.keep b=true):Inv { C with keep:=keep,caller:=caller } st w where
 os := h.os
 out := h.out
 hB := h.hB
 old := h.old
 imm := h.imm
 next := h.next
 none_ := h.none_
 obj := λid o ho=>by
  obtain ⟨hb,L,hL,hat⟩:=h.obj id o ho
  exact ⟨hb,L,hL,ObjAt.same (C:=C) (C':={ C with keep:=keep,caller:=caller }) rfl rfl rfl rfl hat⟩
 sep := h.sep
 keep := λb hb=>h.keep b (hk b hb)
theorem Inv.shut {st:Store} {w:World} (h:Inv C st w) {b:Nat} (hb:C.keep b=true) {w':World} (hw:∀k,k≠b->w'.heap[k]?=w.heap[k]?) (hsz:w'.heap.size=w.heap.size) (hos:w'.os=w.os) (hout:w'.output=w.output) :
  Inv { C with keep:=λx => !(x==b)&&C.keep x } st w':=by
 obtain ⟨k1,k2⟩:=h.keep b hb
 constructor
 .exact hos.trans h.os
 .exact hout.trans h.out
 .rw [hsz];exact h.hB
 .intro x hx
  have hx':x<C.B:=hx
  rw [hw x (by omega)];exact h.old x hx'
 .intro x o v hv
  have h1:=h.imm x o v hv
  have hne:x≠b:=λe=>by subst e;simp[ah,k2]at h1
  rw [cell?_heap (hw x hne)];exact h1
 .exact h.next
 .exact h.none_
 .intro id o ho
  obtain ⟨hbn,L,hL,hat⟩:=h.obj id o ho
  refine ⟨hbn,L,hL,?_⟩
  have hm:ObjAt C w' L o:=hat.mono (Ctx.le.refl C) (λ_ _ x=>x) (λhc=>hw _ (λe=>hat.notDfr hc (ds:=some []) (by rw[e];exact k2)))
  exact ObjAt.same (C:=C) (C':={ C with keep:=λx => !(x==b)&&C.keep x }) rfl rfl rfl rfl hm
 .exact h.sep
 .intro x hx
  simp only[Bool.and_eq_true,Bool.not_eq_true',beq_eq_false_iff_ne]at hx
  obtain ⟨m1,m2⟩:=h.keep x hx.2
  exact ⟨m1,by rw[hw x hx.1];exact m2⟩
end
def Dd:Value->PV
 | .bool b=>.bool b
 | .int k n=>.int k n
 | .string s=>if s.data.toList.length<=9223372036854775807 then .str s.data.toList else .bad
 | .pointer none=>.nilp
 | .slice none 0 0=>.nils
 | .func fn ⟨[]⟩ ⟨[]⟩=>.func fn [] []
 | .nilFunc=>.nilf
 | .nilIface=>.nili
 | .map none=>.nilm
 | _=>.bad
def Bn:Value->PV
 | .agg cs=>if (cs.toList.map Dd).all PV.isCell then .agg (cs.toList.map Dd)else .bad
 | v=>Dd v
def Ae (P:Program) (t:TypeId):Nat :=
 match P.underlying t with
 | some (.slice e) =>
  match P.info? e with
  | some i=>match i.zero with
   | some v=>if 0<i.size/\i.size<=65536/\i.bytes<=65536/\v.cells.size=i.size/\(Bn v).cells.length=i.size then i.size else 0
   | none=>0
  | none=>0
 | _=>0
def BO (P:Program) (t:TypeId):TypeId:=match P.underlying t with | some (.slice e)=>e | _=>0
def BB (P:Program) (t:TypeId):Option (Nat×Nat):=match P.underlying t with | some (.array n e)=>some (n,P.cellsOf e) | _=>none
def IK (P:Program) (t:TypeId):Option (Nat×TypeId):=match P.underlying t with | some (.array n e)=>some (n,e) | _=>none
def A5 (P:Program) (t:TypeId) (f:Nat):Option (Nat×Nat×TypeId) :=
 match P.underlying t with
 | some (.struct fs)=>(fs[f]?).map λx=>(x.offset,P.cellsOf x.type,x.type)
 | _=>none
def Za (P:Program) (t:TypeId):Bool:=match P.underlying t with | some (.struct _) | some (.array ..)=>true | _=>false
def Bv (P:Program) (t:TypeId):Option (Nat×Bool):=match P.underlying t with | some _=>if 0<P.cellsOf t then some (P.cellsOf t,Za P t)else none | none=>none
def AT (P:Program) (t:TypeId):Bool:=match P.underlying t with | some .string=>true | _=>false
def Gn (P:Program) (t:TypeId):Option IntKind:=match P.underlying t with | some (.int k)=>some k | _=>none
def IL (P:Program) (t:TypeId):Bool:=match P.underlying t with | some .bool=>true | _=>false
def K1 (P:Program) (t:TypeId):Bool:=match P.underlying t with | some (.interface _)=>true | _=>false
def Az (P:Program) (t:TypeId):PV:=match (P.info? t).bind (·.zero)with | some v=>Bn v | none=>.bad
def AA (ρ:Nat->PV):Operand->PV
 | .tmp t=>ρ t
 | .const v=>Bn v
 | .global _=>.bad
 | .func f=>.func (.func f) [] []
def nth (l:List PV) (i:Nat):PV:=l.getD i .bad
def Store.arr? (st:Store) (id gen:Nat):Option (Nat×List PV) :=
 match st.obj id with
 | some (.arr g z es)=>if gen=g then some (z,es)else none
 | _=>none
def Store.new (st:Store) (o:IObj):Store:=⟨Ab st.obj st.next (some o),st.next+1⟩
def Store.set (st:Store) (id:Nat) (o:IObj):Store:=⟨Ab st.obj id (some o),st.next⟩
def Store.re (st:Store) (k z:Nat) (l:List PV) (n:Nat):Option (PV×Store) :=
 match st.obj (k-1)with
 | some (.arr g _ _)=>some (.ref (k-1) (g+1) 0 n,st.set (k-1) (.arr (g+1) z l))
 | _=>none
def Store.reP (st:Store) (k z:Nat) (e:PV):Option (PV×Store) :=
 match st.obj (k-1)with
 | some (.arr g _ _)=>some (.ptr (k-1) (g+1) 0 0,st.set (k-1) (.arr (g+1) z [e]))
 | _=>none
def EN (k:Nat) (x y:PV):Bool :=
 match x,y with
 | .ref id _ _ _,.lits _ _ | .ref id _ _ _,.nils=>id==k-1
 | _,_=>false
def CV (cells:List PV) (off sz:Nat) (ag:Bool):Option PV :=
 if ag then (if off+sz<=cells.length then some (.agg ((cells.drop off).take sz))else none)else cells[off]?
def Ds (st:Store) (sz:Nat) (ag:Bool):PV->Option PV
 | .vptr cells off=>CV cells off sz ag
 | .ptr id gen idx off=>(st.arr? id gen).bind λq=>CV (nth q.2 idx).cells off sz ag
 | _=>none
def DJ (cells:List PV) (off:Nat) (vs:List PV):List PV:=cells.take off++vs++cells.drop (off+vs.length)
def Bi (e:PV) (off:Nat) (vs:List PV):PV :=
 match e with
 | .agg cs=>.agg (DJ cs off vs)
 | _=>match vs with | [v]=>v | _=>.agg vs
def Fz (st:Store) (sz:Nat) (a v:PV):Option Store :=
 match a with
 | .ptr id gen idx off=>(st.arr? id gen).bind λq =>
   if v.cells.length=sz/\0<sz/\idx<q.2.length/\off+sz<=q.1 then some (st.set id (.arr gen q.1 (q.2.set idx (Bi (nth q.2 idx) off v.cells))))else none
 | _=>none
def De (st:Store) (p:PV) (o:Nat):Option PV :=
 match p with
 | .vptr cells off=>some (.vptr cells (off+o))
 | .ptr id gen idx off=>(st.arr? id gen).map λ_=>.ptr id gen idx (off+o)
 | _=>none
def CL (P:Program) (st:Store) (t:TypeId) (x:PV) (i:Int):Option PV :=
 match x with
 | .lits z l=>if 0<=i/\i<l.length/\z=Ae P t/\0<z then some (.vptr (nth l i.toNat).cells 0)else none
 | .ref id gen s n=>(st.arr? id gen).bind λq =>
   if 0<=i/\i<n/\s+n<=q.2.length/\q.1=Ae P t then some (.ptr id gen (s+i.toNat) 0)else none
 | .vptr cells off=>(BB P t).bind λ(n,z)=>if 0<=i/\i<n/\0<z then some (.vptr cells (off+i.toNat*z))else none
 | .ptr id gen idx off=>(st.arr? id gen).bind λ_=>(BB P t).bind λ(n,z)=>if 0<=i/\i<n/\0<z then some (.ptr id gen idx (off+i.toNat*z))else none
 | _=>none
def Kj (P:Program) (t:TypeId) (x:PV) (i:Int):Option PV :=
 match x with
 | .str s=>if 0<=i/\i<s.length/\AT P t=true then some (.int .u8 (s.getD i.toNat 0).toNat)else none
 | .agg cs=>(IK P t).bind λ(n,e)=>(Bv P e).bind λ(z,ag)=>if 0<=i/\i<n then CV cs (i.toNat*z) z ag else none
 | _=>none
def K2 (st:Store) (z:Nat) (sb:Bool):PV->Option Int
 | .nils=>if 0<z then some 0 else none
 | .lits _ l=>if 0<z then some l.length else none
 | .ref id gen _ n=>(st.arr? id gen).bind λ_=>if 0<z then some n else none
 | .str s=>if sb=true then some s.length else none
 | _=>none
def Df:PV->Option Int
 | .int _ n=>some n
 | _=>none
def CD (st:Store) (z:Nat):PV->Option (List PV)
 | .nils=>some []
 | .lits z' l=>if z'=z then some l else none
 | .ref id gen s n=>(st.arr? id gen).bind λq=>if s+n<=q.2.length/\q.1=z then some ((q.2.drop s).take n)else none
 | .str s=>if z=1 then some (s.map λb=>.int .u8 b.toNat)else none
 | _=>none
def CE (st:Store) (z:Nat) (sb:Bool) (ar:Option (Nat×Nat)) (x:PV) (lo hi:Option Int):Option PV :=
 match x with
 | .nils=>if lo.getD 0=0/\hi.getD 0=0/\0<z then some .nils else none
 | .lits z' l=>if 0<=lo.getD 0/\lo.getD 0<=hi.getD l.length/\hi.getD l.length<=l.length/\z'=z/\0<z then some (.lits z ((l.drop (lo.getD 0).toNat).take ((hi.getD l.length).toNat-(lo.getD 0).toNat)))else none
 | .ref id gen s n=>(st.arr? id gen).bind λq=>if 0<=lo.getD 0/\lo.getD 0<=hi.getD n/\hi.getD n<=(q.2.length:Int)-s/\s<=q.2.length/\q.1=z then some (.ref id gen (s+(lo.getD 0).toNat) ((hi.getD n).toNat-(lo.getD 0).toNat))else none
 | .str s=>if 0<=lo.getD 0/\lo.getD 0<=hi.getD s.length/\hi.getD s.length<=s.length/\sb=true then some (.str ((s.drop (lo.getD 0).toNat).take ((hi.getD s.length).toNat-(lo.getD 0).toNat)))else none
 | .vptr cs off=>ar.bind λa=>if a.2=1/\lo=none/\hi=none/\off+a.1<=cs.length/\0<a.1/\a.1<=65536 then some (.lits 1 ((cs.drop off).take a.1))else none
 | _=>none
def CJ (st:Store) (z:Nat) (x:PV) (ys:List PV):Option (PV×Store) :=
 match x with
 | .nils=>if 0<z/\ys.length<=2147483648 then (if ys.length=0 then some (.nils,st)else some (.ref st.next 0 0 ys.length,st.new (.arr 0 z ys)))else none
 | .ref id gen s n=>(st.arr? id gen).bind λq =>
   if s+n<=q.2.length/\q.1=z/\n+ys.length<=2147483648 then
    if s+n+ys.length<=q.2.length then
     some (.ref id gen s (n+ys.length),st.set id (.arr gen z (q.2.take (s+n)++ys++q.2.drop (s+n+ys.length))))
    else some (.ref id (gen+1) 0 (n+ys.length),st.set id (.arr (gen+1) z ((q.2.drop s).take n++ys)))
   else none
 | _=>none
def Hp (P:Program) (k:TypeId):Option Nat :=
 if P.keyType k=true/\P.keyTypeAt 2 k=true/\P.tiled 2 k=true/\0<P.types.size then
  match P.underlying k with
  | some (.struct fs)=>if P.cellsOf k=fs.size/\(fs.toList.zipIdx.all λ(f,i)=>f.offset==i&&P.cellsOf f.type==1&&Gn P f.type==some .i64)=true then some fs.size else none
  | some (.array n e)=>if P.cellsOf k=n/\P.cellsOf e=1/\Gn P e=some .i64 then some n else none
  | _=>none
 else none
def AW (P:Program) (t:TypeId):Option (MK×PV) :=
 match P.underlying t with
 | some (.map k e)=>match (P.info? e).bind (·.zero)with
  | some z=>match P.underlying k with
   | some (.int k)=>some (.int k,Bn z)
   | some .string=>some (.str,Bn z)
   | some .bool=>some (.bool,Bn z)
   | _=>(Hp P k).map λn=>(.ints n,Bn z)
  | none=>none
 | _=>none
def Iq:List PV->List PV->Bool
 | [],[]=>true
 | .int k a::l,.int k' b::m=>decide (k=k')&&a==b&&Iq l m
 | _,_=>false
def DO:PV->PV->Bool
 | .int k a,.int k' b=>decide (k=k')&&a==b
 | .str a,.str b=>a==b
 | .bool a,.bool b=>a==b
 | .agg l,.agg m=>Iq l m
 | _,_=>false
def Cd:List (PV×PV)->PV->Option PV
 | [],_=>none
 | e::es,k=>if DO k e.1=true then some e.2 else Cd es k
def CR:List (PV×PV)->PV->PV->List (PV×PV)
 | [],k,v => [(k,v)]
 | e::es,k,v=>if DO k e.1=true then (k,v)::es else e::CR es k v
def Kk (st:Store) (ty:Option (MK×PV)) (m k v:PV):Option Store :=
 match m with
 | .mref id gen=>match st.obj id with
  | some (.map g mk es)=>if gen=g/\ty.map (·.1)=some mk/\BN mk k=true then some (st.set id (.map g mk (CR es k v)))else none
  | _=>none
 | _=>none
def Qj:List (PV×PV)->PV->Nat
 | [],_=>0
 | e::es,k=>if DO k e.1=true then 0 else Qj es k+1
def EG (st:Store) (ty:Option (MK×PV)) (m k:PV):Option (PV×Store) :=
 ty.bind λ(mk,z)=>match m with
 | .mref id gen=>match st.obj id with
  | some (.map g mk' es)=>if gen=g/\mk'=mk/\BN mk' k=true then some (.tuple [(Cd es k).getD z,.int .i64 (Qj es k)],st.set id (.map g mk' (CR es k ((Cd es k).getD z))))else none
  | _=>none
 | _=>none
def GR (st:Store) (m s x:PV):Option Store :=
 match m,s with
 | .mref id gen,.int _ n=>match st.obj id with
  | some (.map g mk es)=>if gen=g/\0<=n then (es[n.toNat]?).map λe=>st.set id (.map g mk (es.set n.toNat (e.1,x)))else none
  | _=>none
 | _,_=>none
def CW (st:Store) (ty:Option (MK×PV)) (m k:PV) (ok:Bool):Option PV :=
 ty.bind λ(mk,z)=>if BN mk k=true then (match m with
  | .nilm=>some (if ok then .tuple [z,.bool false]else z)
  | .mref id gen=>match st.obj id with
   | some (.map g mk' es)=>if gen=g/\mk'=mk then (match Cd es k with
    | some v=>some (if ok then .tuple [v,.bool true]else v)
    | none=>some (if ok then .tuple [z,.bool false]else z))else none
   | _=>none
  | _=>none)else none
def IM (st:Store) (t:Option (MK×PV)) (m:PV):Option Int :=
 t.bind λ_=>match m with
  | .nilm=>some 0
  | .mref id gen=>match st.obj id with
   | some (.map g _ es)=>if gen=g then some es.length else none
   | _=>none
  | _=>none
def FA (st:Store) (t:Option (MK×PV)) (m:PV):Option (PV×Store) :=
 t.bind λ_=>match m with
  | .nilm=>some (.iter st.next 0,st.new (.it none 0 []))
  | .mref id gen=>match st.obj id with
   | some (.map g _ es)=>if gen=g then some (.iter st.next 0,st.new (.it (some (id,gen)) es.length []))else none
   | _=>none
  | _=>none
def mapEntry (st:Store) (x:PV):Option PV :=
 match x with
 | .iter id 0=>match st.obj id with
  | some (.it (some (m,g)) n seen)=>match st.obj m with
   | some (.map g' _ es)=>if g=g'/\es.length=n then (seen.getLast?).bind λi=>(es[i]?).map λe=>.tuple [e.1,e.2]else none
   | _=>none
  | _=>none
 | _=>none
def EH (st:Store) (x:PV) (K:PV->Store->Prop):Prop :=
 match x with
 | .iter id 0=>match st.obj id with
  | some (.it none _ _)=>K (.tuple [.bool false]) st
  | some (.it (some (m,g)) n seen)=>match st.obj m with
   | some (.map g' _ es)=>g=g'/\es.length=n/\(seen.length=n->K (.tuple [.bool false]) st) /\
     (∀ i k v,es[i]?=some (k,v)->i ∉ seen->K (.tuple [.bool true,k,v]) (st.set id (.it (some (m,g)) n (seen ++ [i]))))
   | _=>False
  | _=>False
 | _=>False
def PV.isStr:PV->Bool
 | .str _=>true
 | _=>false
def TY (st:Store) (z:Nat) (x y:PV):Option (Nat×Store) :=
 match x with
 | .ref id gen s n=>(st.arr? id gen).bind λq=>if s+n<=q.2.length/\q.1=z/\0<z/\y.isStr=false then (CD st z y).bind λys=>some (min ys.length n,st.set id (.arr gen z (q.2.take s++ys.take (min ys.length n)++q.2.drop (s+min ys.length n))))else none
 | _=>none
def Cw (op:BinOp) (k:IntKind) (x y:Int):Option Int :=
 let a:=ap k.bits x
 let b:=ap k.bits y
 match op with
 | .and=>some (k.wrap (a &&& b).toNat)
 | .or=>some (k.wrap (a ||| b).toNat)
 | .xor=>some (k.wrap (a ^^^ b).toNat)
 | .andNot=>some (k.wrap (a &&& ~~~b).toNat)
 | _=>none
def IC (op:BinOp) (k:IntKind) (a b:Int):Option PV :=
 match op with
 | .add=>some (.int k (k.wrap (a+b)))
 | .sub=>some (.int k (k.wrap (a-b)))
 | .mul=>some (.int k (k.wrap (a*b)))
 | .quo=>if b=0 then none else some (.int k (k.wrap (a.tdiv b)))
 | .rem=>if b=0 then none else some (.int k (a.tmod b))
 | .and | .or | .xor | .andNot=>(Cw op k a b).map (.int k)
 | .eql=>some (.bool (decide (a=b)))
 | .neq=>some (.bool (decide (¬a=b)))
 | .lss=>some (.bool (decide (a<b)))
 | .leq=>some (.bool (decide (a<=b)))
 | .gtr=>some (.bool (decide (b<a)))
 | .geq=>some (.bool (decide (b<=a)))
 | _=>none
def RV (op:BinOp) (k:IntKind) (a b:Int):Option PV :=
 match op with
 | .shl=>if b<0 then none else some (.int k (k.wrap (a*2 ^ (min b.toNat k.bits))))
 | .shr=>if b<0 then none else some (.int k (a.fdiv (2 ^ (min b.toNat k.bits))))
 | _=>none
def Aha (op:BinOp) (a b:List UInt8):Option PV :=
 match op with
 | .add=>if a.length+b.length<=2147483648 then some (.str (a++b))else none
 | .eql=>some (.bool (decide (a=b)))
 | .neq=>some (.bool (decide (¬a=b)))
 | .lss=>some (.bool (aq a b))
 | .leq=>some (.bool (aq a b||decide (a=b)))
 | .gtr=>some (.bool !(aq a b||decide (a=b)))
 | .geq=>some (.bool !(aq a b))
 | _=>none
def GT (op:BinOp) (ok r:Bool):Option PV :=
 match op with
 | .eql=>if ok=true then some (.bool r)else none
 | .neq=>if ok=true then some (.bool (!r))else none
 | _=>none
def ID (op:BinOp) (k k':IntKind) (a b:Int):Option PV :=
 match op with
 | .shl=>RV .shl k a b
 | .shr=>RV .shr k a b
 | op=>if k=k' then IC op k a b else none
def NL (P:Program) (t:TypeId) (a b:PV):Option Bool :=
 match P.underlying t,a,b with
 | some (.int _),.int k x,.int k' y=>if k=k' then some (x==y)else none
 | some .bool,.bool x,.bool y=>some (x==y)
 | _,_,_=>none
def TZ (P:Program) (l m:List PV):List Field->Option Bool
 | []=>some true
 | f :: fs => if f.name = "_" then none else match Bv P f.type, l[f.offset]?, m[f.offset]? with
  | some (_,false),some a,some b=>(NL P f.type a b).bind λx=>(TZ P l m fs).map λy=>x&&y
  | _,_,_=>none
def Oj (P:Program) (e:TypeId):List PV->List PV->Option Bool
 | [],[]=>some true
 | a::l,b::m=>(NL P e a b).bind λx=>(Oj P e l m).map λy=>x&&y
 | _,_=>none
def Agf (P:Program) (l m:List PV) (t:TypeId):Option Bool :=
 match P.underlying t with
 | some (.array n e)=>if P.cellsOf e=1/\Bv P e=some (1,false)/\(P.info? e).isSome=true/\l.length=n then Oj P e l m else none
 | _=>none
def Ok (P:Program) (t:TypeId):Bool:=match P.underlying t with | some (.struct _)=>true | _=>false
def BU (P:Program) (op:BinOp) (t:TypeId) (x y:PV):Option PV :=
 match x,y with
 | .int k a,.int k' b=>ID op k k' a b
 | .str a,.str b=>Aha op a b
 | .bool a,.bool b=>GT op (IL P t) (a==b)
 | .nils,.nils=>GT op (Ae P t != 0) true
 | .lits _ (_::_),.nils=>GT op (Ae P t != 0) false
 | .agg l,.agg m=>if P.stoodInHeld t=false/\P.eqGuardType P.depth t=false then (if Ok P t=true then TZ P l m (P.fieldsOf t).toList else Agf P l m t).bind λr=>GT op true r else none
 | _,_=>none
def unP (op:UnOp) (x:PV):Option PV :=
 match op,x with
 | .neg,.int k n=>some (.int k (k.wrap (0-n)))
 | .not,.bool b=>some (.bool (!b))
 | .xor,.int k n=>(Cw .xor k (if k.signed then -1 else k.max) n).map (.int k)
 | _,_=>none
def QO (P:Program) (src dst:TypeId) (x:PV):Option PV :=
 match x with
 | .int _ n=>(Gn P dst).bind λk=>(Gn P src).bind λ_=>some (.int k (k.wrap n))
 | .str s=>if AT P src=true/\AT P dst=true then some (.str s)else none
 | _=>none
def FC (place:Nat->Option (Nat×Nat)) (cells:List PV):List (Nat×PV)->Option (List PV)
 | []=>some cells
 | (i,v)::rest =>
  match place i with
  | none=>none
  | some (off,size)=>if v.cells.length=size/\off+size<=cells.length/\0<size then FC place (DJ cells off v.cells) rest else none
def PV.isAgg:PV->Bool
 | .agg _=>true
 | _=>false
def B3 (P:Program) (t:TypeId):Bool :=
 (Az P t).isAgg &&
 match P.underlying t with
 | some (.struct fs)=>fs.toList.all λf=>(P.info? f.type).isSome
 | some (.array _ e)=>(P.info? e).isSome
 | _=>false
def Mm (P:Program) (t:TypeId) (parts:List (Nat×PV)):Option PV :=
 if B3 P t=true then match BB P t with
 | some (_,z)=>(FC (λi=>some (i*z,z)) (Az P t).cells parts).map .agg
 | none=>(FC (λi=>(A5 P t i).map λ(o,z,_)=>(o,z)) (Az P t).cells parts).map .agg
 else none
def CF (z:Nat) (l:List PV):List (Nat×PV)->Option (List PV)
 | []=>some l
 | (i,v)::rest=>if i<l.length/\v.cells.length=z then CF z (l.set i v) rest else none
abbrev Tab:=Nat->List PV->Store->Option (PV×Store)
abbrev GI:=List PV->Store->(Bool->Store->Prop)->Prop
structure Cfg where
 P : Program
 tab : Tab
 muts : Nat->Bool
 quiet : Nat->Bool
 frz : Nat->Bool
 num : Nat->Nat
 yl : Option (Nat×GI)
 dep : Nat
 rnd : Bool
 /-- Looks at objects alone, and changes none. -/
 calm : Nat->Bool
mutual
def PV.pur:PV->Bool
 | .bad=>false
 | .ptr _ _ _ _=>false
 | .ref _ _ _ _=>false
 | .mref _ _=>false
 | .iter _ _=>false
 | .vptr cs _=>AU cs
 | .lits _ l=>AU l
 | .func _ a b=>AU a&&AU b
 | .iface _ v=>v.pur
 | .agg l=>AU l
 | .tuple l=>AU l
 | _=>true
def AU:List PV->Bool
 | []=>true
 | p::l=>p.pur&&AU l
end
def rdC (st:Store):PV->Option PV
 | .ref id gen s n=>(st.arr? id gen).bind λq=>if s+n<=q.2.length/\AU q.2=true then some (.lits q.1 ((q.2.drop s).take n))else none
 | p=>if p.pur=true then some p else none
def rdL (st:Store):List PV->Option (List PV)
 | []=>some []
 | c::l=>(rdC st c).bind λd=>(rdL st l).map λds=>d::ds
def rdP (st:Store):PV->Option PV
 | .agg cs=>(rdL st cs).bind λds=>if ds.all PV.isCell=true then some (.agg ds)else none
 | p=>rdC st p
def Ce (st:Store):List PV->Option (List PV)
 | []=>some []
 | c::l=>(rdP st c).bind λd=>(Ce st l).map λds=>d::ds
def Agg (P:Program):Nat->TypeId->Nat->List (Nat×Nat)
 | 0,_,_ => []
 | k+1,t,b=>match P.underlying t with
  | some (.slice _) => [(b,Ae P t)]
  | some (.struct fs)=>fs.toList.flatMap λf=>Agg P k f.type (b+f.offset)
  | _ => []
def Bp (P:Program) (t:TypeId):List (Nat×Nat):=Agg P 3 t 0
def nrm1 (z:Option Nat) (p:PV):PV:=match p with | .nils=>(match z with | some z=>.lits z [] | none=>.nils) | p=>p
def K3 (m:List (Nat×Nat)):Nat->List PV->List PV
 | _,[] => []
 | i,c::l=>nrm1 (m.lookup i) c::K3 m (i+1) l
def nrm (m:List (Nat×Nat)) (p:PV):PV:=match p with | .agg cs=>.agg (K3 m 0 cs) | p=>nrm1 (m.lookup 0) p
def nrmAll (P:Program):List TypeId->List PV->List PV
 | t::ts,p::l=>nrm (Bp P t) p::nrmAll P ts l
 | _,l=>l
def idC:PV->List Nat
 | .ref id _ _ _ => [id]
 | .agg cs=>cs.flatMap λc=>match c with | .ref id _ _ _ => [id] | _ => []
 | _ => []
def D8 (l:List PV):List Nat:=l.flatMap idC
def Store.only (st:Store) (ids:List Nat):Store:=⟨λi=>if ids.contains i=true then st.obj i else none,st.next⟩
def Store.without (st:Store) (ids:List Nat):Store:=⟨λi=>if ids.contains i=true then none else st.obj i,st.next⟩
def bN (P:Program) (st:Store) (t:TypeId) (x:PV):Option (PV×Store) :=
 match x with
 | .ptr id gen idx off=>(st.arr? id gen).bind λq=>(BB P t).bind λa=>if a.2=1/\idx<q.2.length/\AU q.2=true/\off+a.1<=(nth q.2 idx).cells.length/\0<a.1/\a.1<=65536 then some (.lits 1 (((nth q.2 idx).cells.drop off).take a.1),st.without [id])else none
 | _=>none
def sealC (st:Store) (c:PV):PV:=match c with
 | .ref id g s n=>(rdC st (.ref id g s n)).getD (.ref id g s n)
 | c=>c
def Nn (st:Store) (e:PV):PV:=match e with
 | .agg cs=>.agg (cs.map (sealC st))
 | e=>sealC st e
def T0 (st:Store) (o:IObj):IObj:=match o with
 | .arr g z es=>.arr g z (es.map (Nn st))
 | o=>o
def CG (o:IObj):Option IObj:=match o with
 | .arr g z _=>some (.arr (g+1) z [])
 | _=>none
def Store.seal (st:Store) (ids:List Nat):Store:=⟨λi=>if ids.contains i=true then (st.obj i).bind CG else (st.obj i).map (T0 (st.only ids)),st.next⟩
def Store.again (st:Store) (id:Nat):Store:=⟨Ab st.obj id ((st.obj id).bind CG),st.next⟩
def Store.past (st:Store) (k:Nat):Store:=⟨λi=>if i<k then none else st.obj i,st.next⟩
def PV.isInt1:PV->Bool
 | .int ..=>true
 | _=>false
def PV.isInt:PV->Bool
 | .int ..=>true
 | .agg cs=>cs.all PV.isInt1
 | _=>false
def Ir:IObj->Bool
 | .arr _ z es=>decide (z<=2)&&es.all PV.isInt
 | _=>false
def Store.hard (st:Store):Store:=⟨λi=>(st.obj i).bind λo=>if Ir o=true then none else some o,st.next⟩
def Ol (st:Store) (x y:PV):Bool :=
 (match y with | .lits _ l=>l.all PV.isInt | _=>false)&&match x with | .ref id gen _ _=>(match st.arr? id gen with | some q=>decide (q.1<=2)&&q.2.all PV.isInt | none=>false) | _=>false
def QP (st:Store) (a v:PV):Bool :=
 v.isInt1 && match a with | .ptr id gen _ _=>(match st.arr? id gen with | some q=>decide (q.1<=2)&&q.2.all PV.isInt | none=>false) | _=>false
def QQ (k:Nat) (a:PV):Bool:=match a with | .ptr id _ _ _=>id==k-1 | _=>false
def Dt:Operand->Nat
 | .tmp n=>n
 | _=>0
def Cfg.see (X:Cfg) (d:Nat) (st:Store):Store:=if X.frz d=true then⟨λ_=>none,0⟩else if X.frz (600000+d)=true then st.past (X.num d)else if X.frz (700000+d)=true then st.hard else st
def Ei (st st':Store):Prop:=∀id gen q,st.arr? id gen=some q->st'.arr? id gen=some q
theorem QR {st st':Store} (h:Ei st st') {z:Nat} {sb:Bool} {p:PV} {n:Int} (hq:K2 st z sb p=some n):K2 st' z sb p=some n:=by
 unfold K2 at hq ⊢
 split at hq
 .exact hq
 .exact hq
 .simp only[au]at hq ⊢
  obtain ⟨r,h1,h2⟩:=hq
  exact ⟨r,h _ _ _ h1,h2⟩
 .exact hq
 .cases hq
theorem Jo {X:Cfg} {d:Nat} {st:Store}:Ei (X.see d st) st:=by
 intro i g q h
 unfold Cfg.see at h
 split at h
 .simp [Store.arr?]at h
 .split at h
  .unfold Store.arr? Store.past at h
   unfold Store.arr?
   dsimp only at h
   by_cases c:i<X.num d
   .rw [if_pos c]at h;cases h
   .rw [if_neg c]at h;exact h
  .split at h
   .unfold Store.arr? Store.hard at h
    unfold Store.arr?
    dsimp only at h
    cases ho:st.obj i with
    | none=>rw[ho]at h;cases h
    | some o =>
     rw [ho]at h
     simp only[aw]at h
     by_cases c:Ir o=true
     .rw [if_pos c]at h;cases h
     .rw [if_neg c]at h;exact h
   .exact h
theorem Kl {st st':Store} (h:Ei st st') {z:Nat} {ag:Bool} {p q:PV} (hq:Ds st z ag p=some q):Ds st' z ag p=some q:=by
 unfold Ds at hq ⊢
 split at hq
 .exact hq
 .simp only[au]at hq ⊢
  obtain ⟨r,h1,h2⟩:=hq
  exact ⟨r,h _ _ _ h1,h2⟩
 .cases hq
theorem IN {st st':Store} (h:Ei st st') {o:Nat} {p q:PV} (hq:De st p o=some q):De st' p o=some q:=by
 unfold De at hq ⊢
 split at hq
 .exact hq
 .simp only[az]at hq ⊢
  obtain ⟨r,h1,h2⟩:=hq
  exact ⟨r,h _ _ _ h1,h2⟩
 .cases hq
theorem IP {P:Program} {st st':Store} (h:Ei st st') {t:TypeId} {n:Int} {p q:PV} (hq:CL P st t p n=some q):CL P st' t p n=some q:=by
 unfold CL at hq ⊢
 split at hq
 .exact hq
 .simp only[au]at hq ⊢
  obtain ⟨r,h1,h2⟩:=hq
  exact ⟨r,h _ _ _ h1,h2⟩
 .exact hq
 .simp only[au]at hq ⊢
  obtain ⟨r,h1,h2⟩:=hq
  exact ⟨r,h _ _ _ h1,h2⟩
 .cases hq
theorem T1 {st st':Store} (h:Ei st st') {z:Nat} {sb:Bool} {ar:Option (Nat×Nat)} {lo hi:Option Int} {p q:PV} (hq:CE st z sb ar p lo hi=some q):CE st' z sb ar p lo hi=some q:=by
 unfold CE at hq ⊢
 split at hq
 .exact hq
 .exact hq
 .simp only[au]at hq ⊢
  obtain ⟨r,h1,h2⟩:=hq
  exact ⟨r,h _ _ _ h1,h2⟩
 .exact hq
 .exact hq
 .cases hq
section
variable {X:Cfg}
theorem bO {d z:Nat} {st:Store} {ag:Bool} {p q:PV} (h:Ds (X.see d st) z ag p=some q):Ds st z ag p=some q:=Kl Jo h
theorem WA {d:Nat} {P:Program} {t:TypeId} {n:Int} {st:Store} {p q:PV} (h:CL P (X.see d st) t p n=some q):CL P st t p n=some q:=IP Jo h
theorem WB {d z:Nat} {sb:Bool} {ar:Option (Nat×Nat)} {lo hi:Option Int} {st:Store} {p q:PV} (h:CE (X.see d st) z sb ar p lo hi=some q):CE st z sb ar p lo hi=some q:=T1 Jo h
theorem WC {d o:Nat} {st:Store} {p q:PV} (h:De (X.see d st) p o=some q):De st p o=some q:=IN Jo h
end
def RY (X:Cfg) (d:Nat) (ts:List TypeId):List TypeId:=if X.frz (400000+d)=true then []else ts
def DP (X:Cfg) (d:Nat) (f:PV) (ts:List TypeId) (args:List PV) (st:Store):Option (PV×Store) :=
 match f with
 | .func (.func f) first captured =>
  if X.frz d=true then
   if X.muts d=true/\X.num d≠0 then (if (D8 (first++nrmAll X.P ts args++captured)).all (λi=>i==X.num d-1)=true then (Ce (st.only [X.num d-1]) (first++nrmAll X.P ts args++captured)).bind λas=>X.tab f as (st.again (X.num d-1))else none)
   else (Ce (st.only (D8 (first++nrmAll X.P ts args++captured))) (first++nrmAll X.P ts args++captured)).bind λas=>X.tab f as (if X.num d=0 then st.without (D8 (first++nrmAll X.P ts args++captured))else st.seal (D8 (first++nrmAll X.P ts args++captured)))
  else if X.muts d=true/\(AU (first++nrmAll X.P ts args++captured)=false\/(X.frz (1200000+d)=true/\X.quiet f=false))then none
  else X.tab f (first++nrmAll X.P ts args++captured) st
 | _=>none
def K4 (P:Program) (t:TypeId) (name:String):Option (Nat×Bool×TypeId) :=
 match P.info? t,P.underlying t with
 | some i,some (.pointer e)=>(i.methods.find? (·.name==name)).bind λm=>if m.path.isEmpty=true then m.func.map λ(f,pr)=>(f,pr,e)else none
 | _,_=>none
def lJ (P:Program) (st:Store) (x:PV) (name:String):Option (Nat×PV) :=
 match x with
 | .iface t v=>(K4 P t name).bind λq=>if q.2.1=true then some (q.1,v)else (Bv P q.2.2).bind λr=>(Ds st r.1 r.2 v).map λr=>(q.1,r)
 | _=>none
def Gp (mx:Bool) (x y:PV):Option PV :=
 match x,y with
 | .int k x,.int k' y=>if k=k' then some (.int k (if mx then (if x<y then y else x)else (if y<x then y else x)))else none
 | _,_=>none
def Bj (X:Cfg) (d:Nat) (b:Builtin) (ts:List TypeId) (args:List PV) (st:Store):Option (PV×Store) :=
 match b,ts,args with
 | .len,[t],[x]=>(match AW X.P t with | some q=>IM st (some q) x | none=>K2 (X.see d st) (Ae X.P t) (AT X.P t) x).map λn=>(.int .i64 n,st)
 | .append,[t,u],[x,y]=>if (X.num d=0\/EN (X.num d) x y=true)/\(Ae X.P u≠0\/AT X.P u=true)/\(X.frz (700000+d)=true->X.num d=0/\Ol st x y=true)then (CD st (Ae X.P t) y).bind λys=>CJ st (Ae X.P t) x ys else none
 | .copy,[t,u],[x,y]=>(TY st (Ae X.P t) x y).map λ(n,st')=>(.int .i64 n,st')
 | .min,_,[x,y]=>(Gp false x y).map λv=>(v,st)
 | .max,_,[x,y]=>(Gp true x y).map λv=>(v,st)
 | _,_,_=>none
def iop (X:Cfg) (d:Nat) (op:Op) (ρ:Operand->PV) (st:Store):Option (PV×Store) :=
 match op with
 | .move x | .assign x=>some (ρ x,st)
 | .pick c a b=>match ρ c with | .bool v=>some (if v then ρ a else ρ b,st) | _=>none
 | .alloc t=>if 0<X.P.cellsOf t/\(Az X.P t).cells.length=X.P.cellsOf t then (if X.num d=0 then some (.ptr st.next 0 0 0,st.new (.arr 0 (X.P.cellsOf t) [Az X.P t]))else st.reP (X.num d) (X.P.cellsOf t) (Az X.P t))else none
 | .box _ x=>if 0<(ρ x).cells.length then (if X.muts d then some (.ptr st.next 0 0 0,st.new (.arr 0 (ρ x).cells.length [ρ x]))else some (.vptr (ρ x).cells 0,st))else none
 | .build t parts=>(Mm X.P t (parts.toList.map λ(i,x)=>(i,ρ x))).map λv=>(v,st)
 | .buildSlice t len parts =>
  if 0<Ae X.P t/\len*Ae X.P t<=16777216 then
   (CF (Ae X.P t) (ba len (Az X.P (BO X.P t))) (parts.toList.map λ(i,x)=>(i,ρ x))).bind λl =>
    if X.muts d then (if X.num d=0 then some (.ref st.next 0 0 len,st.new (.arr 0 (Ae X.P t) l))else st.re (X.num d) (Ae X.P t) l len)else some (.lits (Ae X.P t) l,st)
  else none
 | .load t x=>(Bv X.P t).bind λ(z,ag)=>(Ds (X.see d st) z ag (ρ x)).map λv=>(v,st)
 | .store t a x=>if (X.frz (800000+Dt a)=true/\QP st (ρ a) (ρ x)=false)\/(X.frz (900000+Dt a)=true/\QQ (X.num (Dt a)) (ρ a)=false)then none else (Fz st (X.P.cellsOf t) (ρ a) (ρ x)).map λst'=>(.bad,st')
 | .nilCheck x=>match ρ x with | .vptr c o=>some (.vptr c o,st) | .ptr i g x o=>((X.see d st).arr? i g).map λ_=>(.ptr i g x o,st) | _=>none
 | .binOp op t x y _=>(BU X.P op t (ρ x) (ρ y)).map λv=>(v,st)
 | .unOp op _ x=>(unP op (ρ x)).map λv=>(v,st)
 | .convert s t x=>(QO X.P s t (ρ x)).map λv=>(v,st)
 | .makeFunc fn first captured=>some (.func fn (first.toList.map ρ) (captured.toList.map ρ),st)
 | .makeMap t r=>(AW X.P t).bind λ(mk,_)=>(match r with | none=>some 0 | some r=>Df (ρ r)).map λ_=>(.mref st.next 0,st.new (.map 0 mk []))
 | .insert t m k v | .mapUpdate t m k v=>(Kk st (AW X.P t) (ρ m) (ρ k) (ρ v)).map λst'=>(.bad,st')
 | .mapEntry t m k=>EG st (AW X.P t) (ρ m) (ρ k)
 | .entryStore _ m s x=>(GR st (ρ m) (ρ s) (ρ x)).map λst'=>(.bad,st')
 | .lookup t m k ok=>(CW st (AW X.P t) (ρ m) (ρ k) ok).map λv=>(v,st)
 | .range t m=>FA st (AW X.P t) (ρ m)
 | .entry x=>(mapEntry st (ρ x)).map λv=>(v,st)
 | .makeSlice t l c =>
  match ρ l,ρ c with
  | .int .i64 n,.int .i64 m=>if 0<=n/\n<=m/\m<=4294967296/\0<Ae X.P t then (if X.num d=0 then (if X.frz d=true then some (.lits (Ae X.P t) (ba n.toNat (Az X.P (BO X.P t))),st)else some (.ref st.next 0 0 n.toNat,st.new (.arr 0 (Ae X.P t) (ba n.toNat (Az X.P (BO X.P t))))))else st.re (X.num d) (Ae X.P t) (ba n.toNat (Az X.P (BO X.P t))) n.toNat)else none
  | _,_=>none
 | .slice t x lo hi none =>
  if X.muts d=true then (match lo,hi with | none,none=>bN X.P st t (ρ x) | _,_=>none)else
  match lo.map (Df∘ρ),hi.map (Df∘ρ)with
  | some none,_ | _,some none=>none
  | l,h=>(CE (X.see d st) (Ae X.P t) (AT X.P t) (BB X.P t) (ρ x) (l.bind id) (h.bind id)).map λv=>(v,st)
 | .fieldAddr t x f=>(A5 X.P t f).bind λ(o,z,_)=>if 0<z then (De (X.see d st) (ρ x) o).map λv=>(v,st)else none
 | .field t x f=>match ρ x with | .agg cs=>(A5 X.P t f).bind λ(o,_,u)=>(Bv X.P u).bind λ(z,ag)=>(CV cs o z ag).map λv=>(v,st) | _=>none
 | .indexAddr t x i=>match ρ i with | .int _ n=>(CL X.P (X.see d st) t (ρ x) n).map λv=>(v,st) | _=>none
 | .index t x i=>match ρ i with | .int _ n=>(Kj X.P t (ρ x) n).map λv=>(v,st) | _=>none
 | .extract x i=>match ρ x with | .tuple vs=>(vs[i]?).map λv=>(v,st) | _=>none
 | .call c =>
  match c.callee with
  | .value f=>DP X d (ρ f) (RY X d c.argTypes.toList) (c.args.toList.map ρ) st
  | .builtin b=>Bj X d b c.argTypes.toList (c.args.toList.map ρ) st
  | .invoke x m=>(lJ X.P st (ρ x) m).bind λq=>DP X d (.func (.func q.1) [q.2] []) (RY X d c.argTypes.toList) (c.args.toList.map ρ) st
 | .makeInterface t x=>if (K1 X.P t)=false/\(X.P.underlying t).isSome=true then some (.iface t (ρ x),st)else none
 | .typeAssert x _ t false=>match ρ x with | .iface t' v=>if t'=t/\(K1 X.P t)=false/\(X.P.underlying t).isSome=true then some (v,st)else none | _=>none
 | _=>none
section
variable {P:Program} {w:World}
section
variable {t:TypeId}
theorem Ka (h:0<P.cellsOf t):∃i,P.info? t=some i/\i.size=P.cellsOf t:=by
 unfold bc at *
 cases hi:P.info? t with
 | none=>rw[hi]at h;simp at h
 | some i=>exact⟨i,rfl,by simp⟩
theorem Cx (h:0<P.cellsOf t):(bd t).run P w=.ok (P.cellsOf t) w:=by
 obtain ⟨i,hi,hs⟩:=Ka h
 simp [bd,typeInfo,hi,hs]
theorem Om {d:TypeDesc} (h:P.underlying t=some d):(isAgg t).run P w=.ok (Za P t) w:=by
 unfold isAgg Za
 rw [h]
 simp only[bf,run_underlying h,bg]
 cases d <;> rfl
theorem Eo {z:Nat} {ag:Bool} (h:Bv P t=some (z,ag)):(∃d,P.underlying t=some d)/\0<P.cellsOf t/\z=P.cellsOf t/\ag=Za P t:=by
 unfold Bv at h
 split at h
 .rename_i d hd
  split at h
  .simp at h;exact⟨⟨d,hd⟩,by assumption,h.1.symm,h.2.symm⟩
  .cases h
 .cases h
end
theorem IQ {b o i:Nat}:(⟨b,o,none⟩:Addr).add i=⟨b,o+i,none⟩:=by
 unfold Addr.add;split <;> simp_all
def Mn (C:Ctx) (w:World) (v:Value) (cells:List PV) (off:Nat):Prop :=
 ∃ b o,v=.pointer (some ⟨b,o+off,none⟩)/\∀j c,cells[j]?=some c->∃u,w.cell? ⟨b,o+j,none⟩=some u/\VR C u c/\c.isCell=true
theorem Gq {C:Ctx} {st:Store} (hi:Inv C st w) {v:Value} {cells:List PV} {off:Nat} (h:VR C v (.vptr cells off)):Mn C w v cells off:=by
 cases h with
 | vptr b o off cells hc hi' h =>
  refine ⟨b,o,rfl,λj c hj=>?_⟩
  have hlt:j<cells.length:=(ab.1 hj).1
  obtain ⟨u,hu⟩:=aa.1 (hi' j hlt)
  have := h j c hj
  rw [hu]at this
  exact ⟨u,hi.imm _ _ _ hu,this,hc c (ac hj)⟩
theorem arr?_parts {st:Store} {id gen z:Nat} {es:List PV} (h:st.arr? id gen=some (z,es)):st.obj id=some (.arr gen z es):=by
 unfold Store.arr? at h
 split at h
 .rename_i g z' es' ho
  split at h
  .rename_i e;subst e;simp at h;obtain⟨rfl,rfl⟩:=h;exact ho
  .cases h
 .cases h
theorem Dg {es:List PV} {i:Nat} (h:i<es.length):es[i]?=some (nth es i):=by
 simp [nth,h]
theorem RZ {es:List PV} {i:Nat} (h:(nth es i).cells ≠ []):i<es.length:=by
 rcases bh i es.length with hl | hl
 .exact hl
 .exfalso; apply h;simp[nth,bi,List.getElem?_eq_none hl,PV.cells]
theorem Inv.arr {C:Ctx} {st:Store} (hi:Inv C st w) {id gen z:Nat} {es:List PV} (ho:st.arr? id gen=some (z,es)) :
  ∃ L,C.loc id=some L/\C.born id/\L.gen=gen/\L.size=z/\0<z/\es.length<=L.cap/\(0<L.cap->Age C w L es):=by
 obtain ⟨hb,L,hL,h1,h1',h2,h3,h4⟩:=hi.obj id _ (arr?_parts ho)
 exact ⟨L,hL,hb,h1,h1',h2,h3.1,h4⟩
theorem Inv.arrMax {C:Ctx} {st:Store} (hi:Inv C st w) {id gen z:Nat} {es:List PV} (ho:st.arr? id gen=some (z,es)) {L:Loc} (hL:C.loc id=some L):L.cap<=maxLen:=by
 obtain ⟨hb,L',hL',h1,h1',h2,h3,h4⟩:=hi.obj id _ (arr?_parts ho)
 rw [hL]at hL';cases hL';exact h3.2
theorem FE {cs:Array Value} {T:TypeId} {fr:Nat×Nat} {b o:Nat} (h:w.heap[b]?=some (.cells cs T fr)):w.cell? ⟨b,o,none⟩=cs[o]?:=by
 simp [ah,h]
theorem CellsAt.cell {C:Ctx} {cs:Array Value} {T:TypeId} {fr:Nat×Nat} {b base size:Nat} {e:PV} (h:CellsAt C cs base size e) (hb:w.heap[b]?=some (.cells cs T fr))
  (hs : base+size<=cs.size) {j:Nat} {c:PV} (hj:e.cells[j]?=some c):∃u,w.cell? ⟨b,base+j,none⟩=some u/\VR C u c/\c.isCell=true:=by
 have hlt:j<size:=by have:=(ab.1 hj).1;have:=h.1;omega
 have h1:base+j<cs.size:=by omega
 refine ⟨cs[base+j],by rw[FE hb];simp[h1],?_,h.2.1 c (ac hj)⟩
 have := h.2.2 j c hj
 simpa [bm,h1]using this
theorem Bm {i n z cap:Nat} (h:i<n) (hn:n<=cap):i*z+z<=cap*z:=by
 have : (i+1)*z<=cap*z:=Nat.mul_le_mul_right z (by omega)
 rw [Nat.succ_mul]at this;exact this
theorem Km {C:Ctx} {st:Store} (hi:Inv C st w) {v:Value} {id gen idx off z:Nat} {es:List PV} (h:VR C v (.ptr id gen idx off)) (ho:st.arr? id gen=some (z,es))
  (hidx : idx<es.length):Mn C w v (nth es idx).cells off:=by
 obtain ⟨L,hL,hb,hg,hLz,hz,hcap,hat⟩:=hi.arr ho
 cases h with
 | ptr _ _ _ _ _ hv hb' hg' h =>
  have hv:=h L hL hg.symm
  obtain ⟨_,_,cs,T,h1,h2,h3⟩:=hat (by omega)
  refine ⟨L.blk,L.off+idx*L.size,hv,λj c hj=>?_⟩
  have := Bm (z:=L.size) hidx hcap
  exact (h3 idx _ (Dg hidx)).cell h1 (by omega) hj
theorem Kn {C:Ctx} {v:Value} {cells:List PV} {off:Nat} (hp:Mn C w v cells off) {t:TypeId} {z:Nat} {ag:Bool} (ht:Bv P t=some (z,ag)) {p:PV}
  (h : CV cells off z ag=some p):∃u,(bn t v).run P w=.ok u w/\VR C u p:=by
 obtain ⟨⟨d,hd⟩,hpos,rfl,rfl⟩:=Eo ht
 obtain ⟨b,o,rfl,hc⟩:=hp
 unfold CV at h
 have e1:(bn t (.pointer (some ⟨b,o+off,none⟩))).run P w=(loadVar t ⟨b,o+off,none⟩).run P w:=by
  simp [bn,bo]
 rw [e1]
 unfold loadVar
 simp only[bf,Om hd,bg]
 split at h
 .rename_i hag
  simp only[hag,if_true]
  split at h
  .rename_i hle
   simp only[bp]at h
   subst h
   have hf:∀j,j<P.cellsOf t->∃u,w.cell? ⟨b,o+off+j,none⟩=some u/\VR C u (cells.getD (off+j) .bad)/\(cells.getD (off+j) .bad).isCell=true:=λj hj=>by
    have hlt:off+j<cells.length:=by omega
    have := hc (off+j) (cells.getD (off+j) .bad) (by simp[hlt])
    rw [bq];exact this
   let f:Nat->Value:=λj=>(w.cell? ⟨b,o+off+j,none⟩).getD undef
   have hrun:=run_loadCells (P:=P) w ⟨b,o+off,none⟩ (P.cellsOf t) f (λj hj=>by
    obtain ⟨u,hu,_⟩:=hf j hj
    rw [IQ,hu];simp[f,hu])
   refine ⟨.agg ((br (P.cellsOf t)).map f).toArray,?_,?_⟩
   .simp [Cx hpos,hrun]
   .refine .agg _ _ (by simp;omega) (λc hc'=>?_) (λi p hi=>?_)
    .obtain ⟨i,hi⟩:=bt.1 hc'
     simp only[bu]at hi
     split at hi
     .rename_i hiz
      obtain ⟨u,_,_,h3⟩:=hf i hiz
      simp only[bv]at hi
      simpa [bi,hi]using h3
     .cases hi
    .simp only[bu]at hi
     split at hi
     .rename_i hiz
      obtain ⟨u,h1,h2,_⟩:=hf i hiz
      simp only[bv]at hi
      simp only[bi,hi,Option.getD_some]at h2
      simpa [hiz,f,h1]using h2
     .cases hi
  .cases h
 .rename_i hag
  obtain ⟨u,h1,h2,_⟩:=hc off p h
  refine ⟨u,?_,h2⟩
  simp [hag,h1]
end
section
variable {P:Program} {w:World} {C:Ctx} {st:Store}
theorem IR (v:Value):VR C v (Dd v):=by
 unfold Dd
 split
 .exact .bool _
 .exact .int _ _
 .split
  .exact .str _ _ rfl (by simp only[maxLen];omega)
  .exact .bad _
 .exact .nilp
 .exact .nils
 .exact .func _ _ _ _ _ rfl rfl (by intro i p h;simp at h) (by intro i p h;simp at h)
 .exact .nilf
 .exact .nili
 .exact .nilm
 .exact .bad _
theorem CH (v:Value):VR C v (Bn v):=by
 unfold Bn
 split
 .rename_i cs
  split
  .rename_i h
   refine .agg _ _ (by simp) (λc hc=>(List.all_eq_true.1 h) c hc) (λi p hi=>?_)
   simp only[bw,az]at hi
   obtain ⟨u,hu,rfl⟩:=hi
   have : cs.getD i undef=u:=by
    have hlt:i<cs.size:=by
     have :=(ab.1 hu).1;simpa using this
    have h2:cs[i]?=some u:=by rw[<-bx];exact hu
    simp [bm,hlt]
    rw [bz hlt]at h2;simpa using h2
   rw [this];exact IR u
  .exact .bad _
 .exact IR v
theorem BC {t:TypeId} {z:Nat} (h:Ae P t=z) (hz:0<z) :
  ∃ e i v,P.underlying t=some (.slice e)/\P.info? e=some i/\i.zero=some v/\i.size=z/\z<=65536/\i.bytes<=65536/\v.cells.size=z/\(Bn v).cells.length=z /\
   P.cellsOf e=z/\BO P t=e/\Az P e=Bn v:=by
 unfold Ae at h
 split at h
 .rename_i e he
  split at h
  .rename_i i hi
   split at h
   .rename_i v hv
    split at h
    .rename_i hc
     obtain ⟨h1,h2,h3,h4,h5⟩:=hc
     refine ⟨e,i,v,he,hi,hv,h,by omega,h3,by omega,by omega,?_,by simp[BO,he],by simp[Az,hi,hv]⟩
     simp [bc,hi,h]
    .omega
   .omega
  .omega
 .omega
theorem Inv.lits (hi:Inv C st w) {l:List PV} {cs:Array Value} {T:TypeId} {z cap:Nat} (hz:0<z) (hcap:l.length<=cap) (hmax:cap<=maxLen) (hcs:cap*z<=cs.size)
  (hc : ∀i e,l[i]?=some e->CellsAt C cs (i*z) z e) :
  ∃ C',C.le C'/\Inv C' st (w.alloc (.cells cs T))/\VR C' (.slice (some ⟨w.heap.size,0,none⟩) l.length cap) (.lits z l):=by
 obtain ⟨h1,h2⟩:=hi.newImm cs T
 refine ⟨_,h1,h2,?_⟩
 have imm:∀k,(C.addImm w.heap.size cs).imm w.heap.size k=cs[k]?:=λk=>by simp[Ctx.addImm]
 refine .lits _ _ z _ _ hcap hmax hz (λe he=>?_) (λi j hi' hj=>?_) (λi j e c he hj=>?_)
 .obtain ⟨i,hi'⟩:=bt.1 he
  exact ⟨(hc i e hi').1,(hc i e hi').2.1⟩
 .have := Bm (z:=z) hi' hcap
  rw [imm];simp;omega
 .rw [imm]
  have :=(hc i e he).2.2 j c hj
  simp only[cd]
  have e2:(cs[i*z+j]?).getD undef=cs.getD (i*z+j) undef:=by simp
  rw [e2];exact this.mono h1
theorem Inv.vptr (hi:Inv C st w) {cells:List PV} {cs:Array Value} {T:TypeId} (hn:cells.length<=cs.size) (hc:∀c∈cells,c.isCell=true)
  (h : ∀j c,cells[j]?=some c->VR C (cs.getD j undef) c) :
  ∃ C',C.le C'/\Inv C' st (w.alloc (.cells cs T))/\VR C' (.pointer (some ⟨w.heap.size,0,none⟩)) (.vptr cells 0):=by
 obtain ⟨h1,h2⟩:=hi.newImm cs T
 refine ⟨_,h1,h2,?_⟩
 have imm:∀k,(C.addImm w.heap.size cs).imm w.heap.size k=cs[k]?:=λk=>by simp[Ctx.addImm]
 refine .vptr w.heap.size 0 0 cells hc (λj hj=>?_) (λj c hj=>?_)
 .rw [imm];simp;omega
 .rw [imm]
  have :=(h j c hj).mono h1
  simp only[cd]
  have e2:(cs[j]?).getD undef=cs.getD j undef:=by simp
  rw [e2];exact this
theorem Inv.newArr (hi:Inv C st w) {es:List PV} {cs:Array Value} {T:TypeId} {z cap:Nat} (hz:0<z) (hcap:es.length<=cap) (hmax:cap<=maxLen) (hcs:cap*z<=cs.size)
  (hc : ∀i e,es[i]?=some e->CellsAt C cs (i*z) z e) :
  ∃ C',C.le C'/\Inv C' (st.new (.arr 0 z es)) (w.alloc (.cells cs T))/\C'.born st.next/\C'.loc st.next=some ⟨w.heap.size,0,z,cap,0⟩:=by
 have hnb:=hi.next st.next (cg _)
 have hall:=heap_alloc_new w (.cells cs T)
 have := hi.put (w':=w.alloc (.cells cs T)) (id:=st.next) (nx:=st.next+1) (o:=.arr 0 z es) (L':=⟨w.heap.size,0,z,cap,0⟩) (.inr hnb) (.inr (.inl (cg _)))
  (λb hb _=>aj w _ hb) (by simp) (λhle=>⟨rfl,rfl,hz,⟨hcap,hmax⟩,λ_=>⟨hi.hB,λo=>hi.immLt (cg _),cs,T,hall,by simpa using hcs,λi e he=>?_⟩⟩)
  (by omega) (by omega)
 .exact ⟨_,this.1,this.2,.inl rfl,by simp[Ctx.set]⟩
 .simpa using (hc i e he).mono hle
theorem Inv.reNew (hi:Inv C st w) {id g z0:Nat} {es0:List PV} (ho:st.obj id=some (.arr g z0 es0)) {es:List PV} {cs:Array Value} {T:TypeId} {z cap:Nat} (hz:0<z) (hcap:es.length<=cap) (hmax:cap<=maxLen) (hcs:cap*z<=cs.size)
  (hc : ∀i e,es[i]?=some e->CellsAt C cs (i*z) z e) :
  ∃ C',C.le C'/\Inv C' (st.set id (.arr (g+1) z es)) (w.alloc (.cells cs T))/\C'.born id/\C'.loc id=some ⟨w.heap.size,0,z,cap,g+1⟩:=by
 obtain ⟨hb,L,hL,hat⟩:=hi.obj id _ ho
 have hlt:id<st.next:=by
  rcases bh id st.next with h | h
  .exact h
  .exact absurd hb (hi.next id h)
 have hall:=heap_alloc_new w (.cells cs T)
 have := hi.put (w':=w.alloc (.cells cs T)) (id:=id) (nx:=st.next) (o:=.arr (g+1) z es) (L':=⟨w.heap.size,0,z,cap,g+1⟩) (.inl ⟨L,hL,.inr (by have:=hat.1;show L.gen<g+1;omega)⟩) (.inr (.inl (cg _)))
  (λb hb _=>aj w _ hb) (by simp) (λhle=>⟨rfl,rfl,hz,⟨hcap,hmax⟩,λ_=>⟨hi.hB,λo=>hi.immLt (cg _),cs,T,hall,by simpa using hcs,λi e he=>?_⟩⟩)
  (cg _) hlt
 .exact ⟨_,this.1,this.2,.inl rfl,by simp[Ctx.set]⟩
 .simpa using (hc i e he).mono hle
theorem VR.newRefG {C:Ctx} {id b z cap n g:Nat} (hb:C.born id) (hl:C.loc id=some ⟨b,0,z,cap,g⟩) (hn:n<=cap):VR C (.slice (some ⟨b,0,none⟩) n cap) (.ref id g 0 n):=by
 refine .ref _ _ _ _ _ rfl hb (λL hL=>by rw[hl]at hL;cases hL;exact cg _) (λL hL _=>?_)
 rw [hl]at hL;cases hL
 exact ⟨some ⟨b,0,none⟩,by simp,by simpa using hn,by simp⟩
theorem VR.newPtr {C:Ctx} {id b z cap:Nat} (hb:C.born id) (hl:C.loc id=some ⟨b,0,z,cap,0⟩):VR C (.pointer (some ⟨b,0,none⟩)) (.ptr id 0 0 0):=by
 refine .ptr _ _ _ _ _ rfl hb (λL _=>Nat.zero_le _) (λL hL _=>?_)
 rw [hl]at hL;cases hL;simp
theorem VR.newRef {C:Ctx} {id b z cap n:Nat} (hb:C.born id) (hl:C.loc id=some ⟨b,0,z,cap,0⟩) (hn:n<=cap):VR C (.slice (some ⟨b,0,none⟩) n cap) (.ref id 0 0 n):=by
 refine .ref _ _ _ _ _ rfl hb (λL _=>Nat.zero_le _) (λL hL _=>?_)
 rw [hl]at hL;cases hL
 exact ⟨some ⟨b,0,none⟩,by simp,by simpa using hn,by simp⟩
theorem VR.cellsAt {v:Value} {p:PV} {z:Nat} (h:VR C v p) (hz:0<z) (hl:p.cells.length=z):v.cells.size=z/\CellsAt C v.cells 0 z p:=by
 have hne:p.cells ≠ []:=λe=>by simp[e]at hl;omega
 obtain ⟨h1,h2,h3⟩:=h.cells hne
 exact ⟨by omega,hl,h2,λj c hj=>by simpa using h3 j c hj⟩
theorem No {cs:Array Value} {p:PV} {z:Nat} (h:CellsAt C cs 0 z p):∀(i:Nat) (e:PV),[p][i]?=some e->CellsAt C cs (i*z) z e:=by
 intro i e he
 cases i with
 | zero=>simp at he;subst he;simpa using h
 | succ i=>simp at he
theorem K5 (hi:Inv C st w) {v:Value} {p:PV} (h:VR C v p) (hn:0<p.cells.length) (T:TypeId) :
  ∃ C',C.le C'/\Inv C' (st.new (.arr 0 p.cells.length [p])) (w.alloc (.cells v.cells T))/\VR C' (.pointer (some ⟨w.heap.size,0,none⟩)) (.ptr st.next 0 0 0):=by
 obtain ⟨h1,h2⟩:=h.cellsAt hn rfl
 obtain ⟨C',a,b,c,d⟩:=hi.newArr (T:=T) (cap:=1) (es := [p]) hn (by simp) (by simp only[maxLen];omega) (by omega) (No h2)
 exact ⟨C',a,b,VR.newPtr c d⟩
theorem VR.newPtrG {C:Ctx} {id b z cap g:Nat} (hb:C.born id) (hl:C.loc id=some ⟨b,0,z,cap,g⟩):VR C (.pointer (some ⟨b,0,none⟩)) (.ptr id g 0 0):=by
 refine .ptr _ _ _ _ _ rfl hb (λL hL=>by rw[hl]at hL;cases hL;exact cg _) (λL hL _=>?_)
 rw [hl]at hL;cases hL;simp
theorem T3 (hi:Inv C st w) {v:Value} {p:PV} (h:VR C v p) (hn:0<p.cells.length) (T:TypeId) {id g z0:Nat} {es0:List PV} (ho:st.obj id=some (.arr g z0 es0)) :
  ∃ C',C.le C'/\Inv C' (st.set id (.arr (g+1) p.cells.length [p])) (w.alloc (.cells v.cells T))/\VR C' (.pointer (some ⟨w.heap.size,0,none⟩)) (.ptr id (g+1) 0 0):=by
 obtain ⟨h1,h2⟩:=h.cellsAt hn rfl
 obtain ⟨C',a,b,c,d⟩:=hi.reNew ho (T:=T) (cap:=1) (es := [p]) hn (by simp) (by simp only[maxLen];omega) (by omega) (No h2)
 exact ⟨C',a,b,VR.newPtrG c d⟩
theorem bP (hi:Inv C st w) {v:Value} {p:PV} (h:VR C v p) (hn:0<p.cells.length) (T:TypeId) :
  ∃ C',C.le C'/\Inv C' st (w.alloc (.cells v.cells T))/\VR C' (.pointer (some ⟨w.heap.size,0,none⟩)) (.vptr p.cells 0):=by
 obtain ⟨h1,h2⟩:=h.cellsAt hn rfl
 exact hi.vptr (T:=T) (by omega) h2.2.1 (λj c hj=>by simpa using h2.2.2 j c hj)
theorem Np (a:Array Value) (k:Nat):a.toList.getD k undef=a.getD k undef:=by simp
theorem Zb (T:TypeId) (v:Value):(Instr.box T v).run P w=.ok (.pointer (some ⟨w.heap.size,0,none⟩)) (w.alloc (.cells v.cells T)):=by
 simp [Instr.box,newVar,newRow]
theorem QT (T:TypeId) (i:TypeInfo) (v:Value) (hi:P.info? T=some i) (hz:i.zero=some v) :
  (cm T true (.tuple #[])).run P w=.ok (.pointer (some ⟨w.heap.size,0,none⟩)) (w.alloc (.cells v.cells T)):=by
 simp [cm,newVar,newRow,zeroValue,typeInfo,hi,hz]
section
variable {cur:Array Value} {a:Nat} {vs:List Value}
theorem Fi (h:a+vs.length<=cur.size) (k:Nat) :
  (cur.toList.take a++vs++cur.toList.drop (a+vs.length)).toArray.getD k undef=if a<=k/\k<a+vs.length then vs.getD (k-a) undef else cur.getD k undef:=by
 have e:∀(l:List Value) k,l.toArray.getD k undef=l.getD k undef:=λl k=>by simp[bm,bi];split <;> simp_all
 rw [e]
 have el:∀k,cur.getD k undef=cur.toList.getD k undef:=λk=>by rw[<-e]
 rw [el]
 simp only[bi,co]
 have hlen:(cur.toList.take a).length=a:=by simp;omega
 by_cases h1:k<a
 .rw [cq (by omega),cr h1,if_neg (by omega)]
 .rw [ct (by omega),hlen]
  by_cases h2:k<a+vs.length
  .rw [cq (by omega),if_pos ⟨by omega,h2⟩]
  .rw [ct (by omega),bv,if_neg (by omega)]
   congr 2;omega
theorem Fj (h:a+vs.length<=cur.size) :
  (cur.toList.take a++vs++cur.toList.drop (a+vs.length)).toArray.size=cur.size:=by
 simp only[List.size_toArray,cu,cw,cx,cy];omega
end
theorem Inv.reArr (hi:Inv C st w) {id gen gen' z0:Nat} {es es':List PV} (ho:st.arr? id gen=some (z0,es)) {L L':Loc} (hL:C.loc id=some L) (hcap:0<L.cap)
  (hL' : L'=L\/L.gen<L'.gen) (hg:L'.gen=gen') (hblk:L'.blk=L.blk) (hz:0<L'.size) (hlen:es'.length<=L'.cap) (hmax:L'.cap<=maxLen) {cur cs:Array Value} {T:TypeId} (hcur:w.heap[L.blk]?=some (.cells cur T (0,0)))
  (hcs : L'.off+L'.cap*L'.size<=cs.size) (hc:∀i e,es'[i]?=some e->CellsAt C cs (L'.off+i*L'.size) L'.size e) :
  ∃ C',C.le C'/\Inv C' (st.set id (.arr gen' L'.size es')) (w.setRow L.blk cs)/\C'.loc id=some L'/\C'.born id:=by
 obtain ⟨L0,hL0,hb,h1,h1',h2,h3,h4⟩:=hi.arr ho
 rw [hL]at hL0;cases hL0
 obtain ⟨h5,h6,_⟩:=h4 hcap
 have hlt:id<st.next:=by
  rcases bh id st.next with h | h
  .exact h
  .exact absurd hb (hi.next id h)
 have := hi.put (w':=w.setRow L.blk cs) (id:=id) (nx:=st.next) (o:=.arr gen' L'.size es') (L':=L') (.inl ⟨L,hL,hL'⟩) (.inr (.inr ⟨L,hL,hblk.symm,hcap⟩))
  (λb hb hne=>setRow_other w L.blk b cs (hne L hL hcap)) (by simp)
  (λhle=>⟨hg,rfl,hz,⟨hlen,hmax⟩,λ_=>⟨by rw[hblk];exact h5,λo=>by rw[hblk];exact h6 o,cs,T,by rw[hblk];exact setRow_heap w _ _ cs T _ hcur,hcs,λi e he=>(hc i e he).mono hle⟩⟩)
  (cg _) hlt
 exact ⟨_,this.1,this.2,by simp[Ctx.set],.inl rfl⟩
theorem IS {e:PV} {off:Nat} {vs:List PV} (hv:∀c∈vs,c.isCell=true) (hn:0<vs.length) (h:off+vs.length<=e.cells.length) :
  (Bi e off vs).cells=DJ e.cells off vs:=by
 have one:∀e:PV,e.cells.length<=1->off+vs.length<=e.cells.length->(match vs with | [v]=>v | _=>PV.agg vs).cells=DJ e.cells off vs:=by
  intro e h1 h2
  have : off=0:=by omega
  subst this
  match vs,hn with
  | [v],_ =>
   have hv':=hv v (by simp)
   have hc:v.cells = [v]:=by cases v <;> first | rfl | simp[PV.isCell]at hv'
   simp only[DJ,hc,cz,List.nil_append,List.length_singleton,cd]
   rw [List.drop_of_length_le h1];rfl
  | a::b::l,_=>simp at h2;omega
 cases e <;> first
  | (simp[PV.cells]at h;omega)
  | exact one _ (by simp[PV.cells]) h
  | rfl
section
variable {cells vs:List PV} {off:Nat}
theorem Ep (h:off+vs.length<=cells.length) (j:Nat) :
  (DJ cells off vs)[j]?=if off<=j/\j<off+vs.length then vs[j-off]? else cells[j]?:=by
 unfold DJ
 have hlen:(cells.take off).length=off:=by simp;omega
 rw [co]
 by_cases h1:j<off
 .rw [cq (by omega),cr h1,if_neg (by omega)]
 .rw [ct (by omega),hlen]
  by_cases h2:j<off+vs.length
  .rw [cq (by omega),if_pos ⟨by omega,h2⟩]
  .rw [ct (by omega),bv,if_neg (by omega)]
   congr 1;omega
theorem GJ (h:off+vs.length<=cells.length):(DJ cells off vs).length=cells.length:=by
 simp only[DJ,cu,cw,cx];omega
end
theorem CellsAt.congr {cs cs':Array Value} {base z:Nat} {e:PV} (h:CellsAt C cs base z e) (he:∀j,j<z->cs'.getD (base+j) undef=cs.getD (base+j) undef):CellsAt C cs' base z e :=
 ⟨h.1, h.2.1,λj c hj=>by
  have :=(ab.1 hj).1
  rw [he j (by have:=h.1;omega)];exact h.2.2 j c hj⟩
theorem T4 (hi:Inv C st w) {a v:Value} {pa pv:PV} (ha:VR C a pa) (hv:VR C v pv) {t:TypeId} {st':Store} (h:Fz st (P.cellsOf t) pa pv=some st') :
  ∃ w' C',(c6 t a v).run P w=.ok () w'/\C.le C'/\Inv C' st' w':=by
 unfold Fz at h
 split at h
 .rename_i id gen idx off
  cases hes:st.arr? id gen with
  | none=>rw[hes]at h;cases h
  | some q =>
   obtain ⟨z0,es⟩:=q
   rw [hes]at h
   simp only[aw]at h
   split at h
   .rename_i hc
    obtain ⟨hsz,hpos,hidx,hoff⟩:=hc
    simp only[bp]at h
    subst h
    obtain ⟨L,hL,hb,hg,hLz,hz,hcap,hat⟩:=hi.arr hes
    subst hLz
    obtain ⟨h5,h6,cur,T,h7,h8,h9⟩:=hat (by omega)
    obtain ⟨hvs,hva⟩:=hv.cellsAt hpos hsz
    have hva':a=.pointer (some ⟨L.blk,L.off+idx*L.size+off,none⟩):=by
     cases ha with
     | ptr _ _ _ _ _ _ _ _ h=>exact h L hL hg.symm
    have he:=h9 idx _ (Dg hidx)
    have hel:(nth es idx).cells.length=L.size:=he.1
    have hmb:=Bm (z:=L.size) hidx hcap
    have hlist:v.cells.toList.length=P.cellsOf t:=by simpa using hvs
    have hone:∀x∈v.cells.toList,x.oneCell'=true:=by
     intro x hx
     obtain ⟨j,hj⟩:=bt.1 hx
     have hjlt:j<v.cells.size:=by have:=(ab.1 hj).1;simpa using this
     have hc:pv.cells[j]?=some (pv.cells.getD j .bad):=by simp[bi,show j<pv.cells.length by omega]
     have h1:=hva.2.2 j _ hc
     have h2:v.cells.getD (0+j) undef=x:=by
      rw [cd]
      have : v.cells[j]?=some x:=by rw[<-bx];exact hj
      simp [bm,hjlt];rw[bz hjlt]at this;simpa using this
     rw [h2]at h1
     exact h1.oneCell (hva.2.1 _ (ac hc))
    have hfit:L.off+idx*L.size+off+v.cells.toList.length<=cur.size:=by omega
    have hrun:=run_storeCells_at P L.blk (L.off+idx*L.size+off) T v.cells.toList 0 cur w h7 (by simpa using hfit) hone
    simp only[Nat.add_zero]at hrun
    have hcells:∀i e,(es.set idx (Bi (nth es idx) off pv.cells))[i]?=some e->CellsAt C (cur.toList.take (L.off+idx*L.size+off)++v.cells.toList++cur.toList.drop (L.off+idx*L.size+off+v.cells.toList.length)).toArray (L.off+i*L.size) L.size e:=by
     intro i e hie
     by_cases hii:i=idx
     .subst hii
      have hse:e=Bi (nth es i) off pv.cells:=by
       rw [List.getElem?_set_self hidx]at hie
       exact (c7 hie).symm
      have hcs:=IS (e:=nth es i) (off:=off) hva.2.1 (by omega) (by omega)
      have hsl:=GJ (cells:=(nth es i).cells) (vs:=pv.cells) (off:=off) (by omega)
      refine ⟨by rw[hse,hcs,hsl,hel],λc hc=>?_,λj c hj=>?_⟩
      .rw [hse,hcs]at hc
       obtain ⟨j,hj⟩:=bt.1 hc
       rw [Ep (by omega)]at hj
       split at hj
       .exact hva.2.1 _ (ac hj)
       .exact he.2.1 _ (ac hj)
      .rw [hse,hcs,Ep (by omega)]at hj
       rw [Fi hfit]
       split at hj
       .rename_i hr
        rw [if_pos (by omega)]
        have := hva.2.2 _ c hj
        have e1:L.off+i*L.size+j-(L.off+i*L.size+off)=j-off:=by omega
        rw [e1,Np]
        rw [cd]at this;exact this
       .rename_i hr
        rw [if_neg (by omega)]
        exact he.2.2 j c hj
     .rw [List.getElem?_set_ne (λe=>hii e.symm)]at hie
      have hi2:=h9 i e hie
      refine hi2.congr (λj hj=>?_)
      rw [Fi hfit]
      refine if_neg (λhr=>?_)
      have hilt:i<es.length:=(ab.1 hie).1
      rcases bh i idx with h12 | h12
      .have := Bm (z:=L.size) h12 (cg _);omega
      .have := Bm (z:=L.size) (show idx<i by omega) (cg _);omega
    obtain ⟨C',h10,h11,_,_⟩:=hi.reArr (gen':=gen) (L':=L) hes hL (by omega) (.inl rfl) hg rfl hz (by simpa using hcap) (hi.arrMax hes hL) h7 (by rw[Fj hfit];exact h8) hcells
    refine ⟨_,C',?_,h10,h11⟩
    rw [hva']
    simp only[c6,bo,storeVar,bf,c8,bg,Cx hpos,hvs]
    simp only[ne_eq,not_true,if_false,bf,c8]
    exact hrun
   .cases h
 .cases h
end
section
variable {P:Program} {w:World} {C:Ctx} {st:Store}
theorem IT {t:TypeId} {f o z:Nat} {u:TypeId} (h:A5 P t f=some (o,z,u)):∃(fs:Array Field) (x:Field),P.underlying t=some (.struct fs)/\fs[f]?=some x/\x.offset=o/\P.cellsOf x.type=z/\x.type=u:=by
 unfold A5 at h
 split at h
 .rename_i fs hfs
  simp only[az,c9]at h
  obtain ⟨x,hx,h1,h2,h3⟩:=h
  exact ⟨fs,x,hfs,hx,h1,h2,h3⟩
 .cases h
theorem R3 (hi:Inv C st w) {v:Value} {p q:PV} (hv:VR C v p) {o:Nat} (h:De st p o=some q) :
  ∃ b k,v=.pointer (some ⟨b,k,none⟩)/\VR C (.pointer (some ⟨b,k+o,none⟩)) q:=by
 unfold De at h
 split at h
 .rename_i cells off
  cases hv with
  | vptr b k _ _ hc hi h' =>
   simp at h;subst h
   refine ⟨b,k+off,rfl,?_⟩
   rw [bq];exact .vptr b k _ cells hc hi h'
 .rename_i id g i x
  cases hes:st.arr? id g with
  | none=>rw[hes]at h;cases h
  | some es =>
   rw [hes]at h
   simp at h;subst h
   obtain ⟨L,hL,_,hg,_⟩:=hi.arr (z:=es.1) (es:=es.2) hes
   cases hv with
   | ptr _ _ _ _ _ hv hb hg' h' =>
    refine ⟨L.blk,L.off+i*L.size+x,h' L hL hg.symm,?_⟩
    refine .ptr _ _ _ _ _ rfl hb hg' (λL' hL' _=>?_)
    rw [hL]at hL';cases hL'
    rw [bq]
 .cases h
theorem R4 {t:TypeId} {f o z b k:Nat} {u:TypeId} (h:A5 P t f=some (o,z,u)) (hz:0<z) :
  (da t (.pointer (some ⟨b,k,none⟩)) f).run P w=.ok (.pointer (some ⟨b,k+o,none⟩)) w:=by
 obtain ⟨fs,x,h1,h2,h3,h4,h5⟩:=IT h
 have hs:=Cx (P:=P) (w:=w) (t:=x.type) (by omega)
 have hne:¬P.cellsOf x.type=0:=by omega
 simp [da,run_underlying h1,h2,bo,fieldPlace,hs,hne,IQ,h3]
theorem Is {t e:TypeId} {b o len cap z:Nat} {k:IntKind} {i:Int} (ht:P.underlying t=some (.slice e)) (hz:P.cellsOf e=z) (hp:0<z) (h0:0<=i) (h1:i<len) :
  (dc t (.slice (some ⟨b,o,none⟩) len cap) (.int k i)).run P w=.ok (.pointer (some ⟨b,o+i.toNat*z,none⟩)) w:=by
 have hs:=Cx (P:=P) (w:=w) (t:=e) (by omega)
 simp [dc,asIntOf,run_underlying ht,h0,h1,hs,hz,IQ]
theorem Iu {t e:TypeId} {b o n z:Nat} {k:IntKind} {i:Int} (ht:P.underlying t=some (.array n e)) (hz:P.cellsOf e=z) (hp:0<z) (h0:0<=i) (h1:i<n) :
  (dc t (.pointer (some ⟨b,o,none⟩)) (.int k i)).run P w=.ok (.pointer (some ⟨b,o+i.toNat*z,none⟩)) w:=by
 have hs:=Cx (P:=P) (w:=w) (t:=e) (by omega)
 simp [dc,asIntOf,run_underlying ht,h0,h1,hs,hz,IQ,bo]
theorem Gs {t:TypeId} {n z:Nat} (h:BB P t=some (n,z)):∃e,P.underlying t=some (.array n e)/\P.cellsOf e=z:=by
 unfold BB at h
 split at h
 .rename_i n' e he
  simp only[bp,c9]at h
  obtain ⟨rfl,rfl⟩:=h
  exact ⟨e,he,rfl⟩
 .cases h
theorem T5 (hi:Inv C st w) {x:Value} {px q:PV} (hx:VR C x px) {t:TypeId} {k:IntKind} {i:Int} (h:CL P st t px i=some q) :
  ∃ v,(dc t x (.int k i)).run P w=.ok v w/\VR C v q:=by
 unfold CL at h
 split at h
 .rename_i z l
  split at h
  .rename_i hc
   obtain ⟨h0,h1,h2,h3⟩:=hc
   simp at h;subst h
   subst h2
   obtain ⟨e,_,_,ht,_,_,_,_,_,_,_,hz,_⟩:=BC (t:=t) rfl h3
   have hlt:i.toNat<l.length:=by omega
   cases hx with
   | lits b o size cap _ hcap hmax hszz hl hi' hv =>
    have hmem:nth l i.toNat∈l:=ac (Dg hlt)
    refine ⟨_,Is ht hz h3 h0 h1,?_⟩
    refine .vptr b (o+i.toNat*Ae P t) 0 _ (hl _ hmem).2 (λj hj=>hi' _ j hlt (by have:=(hl _ hmem).1;omega)) (λj c hj=>hv _ j _ c (Dg hlt) hj)
   | lits0 a cap z=>simp at hlt
  .cases h
 .rename_i id gen s n
  cases hes:st.arr? id gen with
  | none=>rw[hes]at h;cases h
  | some q =>
   obtain ⟨z,es⟩:=q
   rw [hes]at h
   simp only[aw]at h
   split at h
   .rename_i hc
    obtain ⟨h0,h1,h2,h3⟩:=hc
    simp at h;subst h
    obtain ⟨L,hL,hb,hg,hLz,h4,hcap,hat⟩:=hi.arr hes
    rw [h3]at h4
    obtain ⟨e,_,_,ht,_,_,_,_,_,_,_,hz,_⟩:=BC (t:=t) rfl h4
    have hlt:s+i.toNat<es.length:=by omega
    have hsz:L.size=Ae P t:=by rw[hLz,h3]
    cases hx with
    | ref _ _ _ _ _ hv hb' hg' hr =>
     obtain ⟨a,rfl,h10,h11⟩:=hr L hL hg.symm
     have ha:=h11 (by omega)
     subst ha
     refine ⟨_,Is ht hz h4 h0 (by omega),?_⟩
     refine .ptr _ _ _ _ _ rfl hb' hg' (λL' hL' _=>?_)
     rw [hL]at hL';cases hL'
     rw [<-hsz,de]
     congr 3;omega
   .cases h
 .rename_i cells off
  cases ha:BB P t with
  | none=>rw[ha]at h;cases h
  | some nz =>
   obtain ⟨n,z⟩:=nz
   rw [ha]at h
   simp only[aw]at h
   split at h
   .rename_i hc
    simp at h;subst h
    obtain ⟨e,ht,hz⟩:=Gs ha
    cases hx with
    | vptr b o _ _ hcc hii hv =>
     refine ⟨_,Iu ht hz hc.2.2 hc.1 hc.2.1,?_⟩
     rw [bq];exact .vptr b o _ cells hcc hii hv
   .cases h
 .rename_i id gen idx off
  cases hes:st.arr? id gen with
  | none=>rw[hes]at h;cases h
  | some es =>
   rw [hes]at h
   simp only[aw]at h
   cases ha:BB P t with
   | none=>rw[ha]at h;cases h
   | some nz =>
    obtain ⟨n,z⟩:=nz
    rw [ha]at h
    simp only[aw]at h
    split at h
    .rename_i hc
     simp at h;subst h
     obtain ⟨e,ht,hz⟩:=Gs ha
     obtain ⟨L,hL,_,hg,_⟩:=hi.arr (z:=es.1) (es:=es.2) hes
     cases hx with
     | ptr _ _ _ _ _ hv hb hg' h' =>
      rw [h' L hL hg.symm]
      refine ⟨_,Iu ht hz hc.2.2 hc.1 hc.2.1,?_⟩
      refine .ptr _ _ _ _ _ rfl hb hg' (λL' hL' _=>?_)
      rw [hL]at hL';cases hL'
      rw [bq]
    .cases h
 .cases h
theorem VR.agg_get {v:Value} {l:List PV} (h:VR C v (.agg l)):∃cs:Array Value,v=.agg cs/\cs.size=l.length/\(∀c∈l,c.isCell=true)/\∀i p,l[i]?=some p->cs[i]?=some (cs.getD i undef)/\VR C (cs.getD i undef) p:=by
 cases h with
 | agg cs _ hn hc h =>
  refine ⟨cs,rfl,hn,hc,λi p hi=>⟨?_,h i p hi⟩⟩
  have : i<cs.size:=by have:=(ab.1 hi).1;omega
  simp [bm,this]
theorem Er {cs:Array Value} {l:List PV} (hn:cs.size=l.length) (hc:∀c∈l,c.isCell=true) (hv:∀i p,l[i]?=some p->VR C (cs.getD i undef) p) {t:TypeId} {z:Nat} {ag:Bool}
  (ht : Bv P t=some (z,ag)) {off:Nat} {p:PV} (h:CV l off z ag=some p):∃u,(part t cs off).run P w=.ok u w/\VR C u p:=by
 obtain ⟨⟨d,hd⟩,hpos,rfl,rfl⟩:=Eo ht
 unfold CV at h
 unfold part
 simp only[bf,Om hd,bg]
 split at h
 .rename_i hag
  simp only[hag,if_true]
  split at h
  .rename_i hle
   simp only[bp]at h
   subst h
   refine ⟨.agg (cs.extract off (off+P.cellsOf t)),by simp[Cx hpos],.agg _ _ (by simp;omega) (λc hc'=>?_) (λi p hi=>?_)⟩
   .exact hc c (dg (dh hc'))
   .simp only[bu]at hi
    split at hi
    .rename_i hiz
     simp only[bv]at hi
     have := hv _ _ hi
     have h1:off+i<cs.size:=by have:=(ab.1 hi).1;omega
     have h2:i<(cs.extract off (off+P.cellsOf t)).size:=by simp;omega
     simp only[bm,h1,h2,dif_pos]at this ⊢
     simpa [Array.getInternal_eq_getElem,Array.getElem_extract]using this
    .cases hi
  .cases h
 .rename_i hag
  have h1:off<cs.size:=by have:=(ab.1 h).1;omega
  refine ⟨cs.getD off undef,?_,hv _ _ h⟩
  simp [hag,bz h1,bm,h1]
theorem T6 {v:Value} {l:List PV} (h:VR C v (.agg l)) {t u:TypeId} {f o z' z:Nat} {ag:Bool} (hf:A5 P t f=some (o,z',u)) (hl:Bv P u=some (z,ag)) {p:PV}
  (hp : CV l o z ag=some p):∃x,(di t v f).run P w=.ok x w/\VR C x p:=by
 obtain ⟨fs,x,h1,h2,h3,h4,h5⟩:=IT hf
 obtain ⟨cs,rfl,hn,hc,hv⟩:=h.agg_get
 obtain ⟨y,hy,hy'⟩:=Er (P:=P) (w:=w) hn hc (λi p hi=>(hv i p hi).2) hl hp
 refine ⟨y,?_,hy'⟩
 simp [di,run_underlying h1,h2,asAgg,h3,h5,hy]
theorem Qk {v:Value} {l:List PV} (h:VR C v (.tuple l)) {i:Nat} {p:PV} (hp:l[i]?=some p):∃x,(dl v i).run P w=.ok x w/\VR C x p:=by
 cases h with
 | tuple cs _ hn h =>
  have : i<cs.size:=by have:=(ab.1 hp).1;omega
  refine ⟨cs.getD i undef,?_,h i p hp⟩
  simp [dl,bz this,bm,this]
theorem DQ {t:TypeId} (h:AT P t=true):P.underlying t=some .string:=by
 unfold AT at h;split at h
 .assumption
 .cases h
theorem R5 {x:Value} {px q:PV} (hx:VR C x px) {t:TypeId} {k:IntKind} {i:Int} (h:Kj P t px i=some q) :
  ∃ v,(dm t x (.int k i)).run P w=.ok v w/\VR C v q:=by
 unfold Kj at h
 split at h
 .rename_i s
  split at h
  .rename_i hc
   obtain ⟨h0,h1,h2⟩:=hc
   simp only[bp]at h;subst h
   cases hx with
   | str s _ hs _ =>
    subst hs
    have hlt:i.toNat<s.data.size:=by rw[cy]at h1;omega
    refine ⟨.int .u8 ((s.data.toList.getD i.toNat 0).toNat:Int),?_,.int _ _⟩
    have hb:s[i.toNat]?=some (s.data.toList.getD i.toNat 0):=by
     have e1:s[i.toNat]?=s.data[i.toNat]?:=by
      show (if h:i.toNat<s.size then some (s[i.toNat]'h)else none)=_
      have h3:i.toNat<s.size:=hlt
      rw [dif_pos h3,bz hlt];rfl
     rw [e1,bz hlt]
     simp [bi,bz hlt]
    simp [dm,asIntOf,run_underlying (DQ h2),h0,hb]
  .cases h
 .rename_i cs
  cases ha:IK P t with
  | none=>rw[ha]at h;cases h
  | some ne =>
   obtain ⟨n,e⟩:=ne
   rw [ha]at h
   simp only[aw]at h
   cases hl:Bv P e with
   | none=>rw[hl]at h;cases h
   | some za =>
    obtain ⟨z,ag⟩:=za
    rw [hl]at h
    simp only[aw]at h
    split at h
    .rename_i hc
     obtain ⟨h0,h1⟩:=hc
     have ht:P.underlying t=some (.array n e):=by
      unfold IK at ha;split at ha
      .simp only[bp,c9]at ha;obtain⟨rfl,rfl⟩:=ha;assumption
      .cases ha
     obtain ⟨cs,rfl,hn,hcc,hv⟩:=hx.agg_get
     obtain ⟨y,hy,hy'⟩:=Er (P:=P) (w:=w) hn hcc (λi p hi=>(hv i p hi).2) hl h
     refine ⟨y,?_,hy'⟩
     obtain ⟨_,hpos,rfl,_⟩:=Eo hl
     simp [dm,asIntOf,run_underlying ht,h0,h1,Cx hpos,hy]
    .cases h
 .cases h
end
section
variable {P:Program} {w:World} {C:Ctx} {st:Store}
theorem Ko {bb:Bool} {len cap:Nat} {lo hi:Option Value} {l h:Int} (hlo:(lo=none/\l=0)\/∃k,lo=some (.int k l)) (hhi:(hi=none/\h=len)\/∃k,hi=some (.int k h))
  (h0 : 0<=l) (h1:l<=h) (h2:h<=cap):(dq bb len cap lo hi none).run P w=.ok (l.toNat,h.toNat,cap) w:=by
 have h3:0<=h:=by omega
 rcases hlo with ⟨rfl,rfl⟩ | ⟨k,rfl⟩ <;> rcases hhi with ⟨rfl,rfl⟩ | ⟨k',rfl⟩
 .simp [dq]
 .simp [dq,du,asIntOf,h3,h2]
 .have : l<=(len:Int):=h1
  simp [dq,du,asIntOf,h0,this]
 .have e:((h.toNat:Nat):Int)=h:=Int.toNat_of_nonneg h3
  simp [dq,du,asIntOf,h3,h2,h0,h1,e]
theorem T7 {p:PV} {n:Int} (h:Df p=some n):∃k,p=.int k n:=by
 unfold Df at h;split at h
 .simp at h;subst h;exact⟨_,rfl⟩
 .cases h
theorem EI {t e:TypeId} {a:Option Addr} {len cap z:Nat} {lo hi:Option Value} {l h:Int} (ht:P.underlying t=some (.slice e)) (hz:P.cellsOf e=z) (hp:0<z)
  (hlo : (lo=none/\l=0)\/∃k,lo=some (.int k l)) (hhi:(hi=none/\h=len)\/∃k,hi=some (.int k h)) (h0:0<=l) (h1:l<=h) (h2:h<=cap) :
  (dv t (.slice a len cap) lo hi none).run P w=.ok (.slice (if cap=l.toNat then a else a.map (·.add (l.toNat*z))) (h.toNat-l.toNat) (cap-l.toNat)) w:=by
 have hs:=Cx (P:=P) (w:=w) (t:=e) (by omega)
 simp [dv,run_underlying ht,dw,Ko (bb:=true) hlo hhi h0 h1 h2,hs,hz]
theorem Ql {t:TypeId} {s:ByteArray} {lo hi:Option Value} {l h:Int} (ht:P.underlying t=some .string)
  (hlo : (lo=none/\l=0)\/∃k,lo=some (.int k l)) (hhi:(hi=none/\h=s.size)\/∃k,hi=some (.int k h)) (h0:0<=l) (h1:l<=h) (h2:h<=s.size) :
  (dv t (.string s) lo hi none).run P w=.ok (.string (s.extract l.toNat h.toNat)) w:=by
 simp [dv,run_underlying ht,dw,Ko (bb:=false) hlo hhi h0 h1 h2]
theorem lK {ev:Operand->Value} {ρ:Operand->PV} {lo:Option Operand} {l:Option Int} (hev:∀x,lo=some x->VR C (ev x) (ρ x)) (h:lo.map (Df∘ρ)=l.map some) (d:Int) :
  (lo.map ev=none/\l.getD d=d)\/∃k,lo.map ev=some (.int k (l.getD d)):=by
 cases lo with
 | none=>cases l with
  | none=>exact .inl ⟨rfl,rfl⟩
  | some l=>simp at h
 | some x=>cases l with
  | none=>simp at h
  | some l =>
   simp only[dz,Function.comp_apply,bp]at h
   obtain ⟨k,hk⟩:=T7 h
   have := hev x rfl
   rw [hk]at this
   refine .inr ⟨k,?_⟩
   cases hx:ev x with
   | int k' n=>rw[hx]at this;cases this;simp[hx]
   | _=>rw[hx]at this;cases this
theorem Nq (hi:Inv C st w) {x:Value} {px q:PV} (hx:VR C x px) {t:TypeId} {lo hii:Option Value} {l h:Option Int}
  (hlo : ∀d,(lo=none/\l.getD d=d)\/∃k,lo=some (.int k (l.getD d))) (hhi:∀d,(hii=none/\h.getD d=d)\/∃k,hii=some (.int k (h.getD d)))
  (hq : CE st (Ae P t) (AT P t) (BB P t) px l h=some q) :
  ∃ v,(dv t x lo hii none).run P w=.ok v w/\VR C v q:=by
 unfold CE at hq
 split at hq
 .split at hq
  .rename_i hc
   obtain ⟨h1,h2,h3⟩:=hc
   simp at hq;subst hq
   obtain ⟨e,_,_,he,_,_,_,_,_,_,_,hz,_⟩:=BC (t:=t) rfl h3
   cases hx
   have := EI (P:=P) (w:=w) (a:=none) (len:=0) (cap:=0) he hz h3 (hlo 0) (hhi 0) (by omega) (by omega) (by omega)
   refine ⟨_,this,?_⟩
   rw [h1,h2];exact .nils
  .cases hq
 .rename_i z' ls
  split at hq
  .rename_i hc
   obtain ⟨h0,h1,h2,hzz',hz0⟩:=hc
   simp at hq;subst hq
   subst hzz'
   obtain ⟨e,_,_,he,_,_,_,_,_,_,_,hz,_⟩:=BC (t:=t) rfl hz0
   generalize hl:l.getD 0=L at *
   have hlo':=hlo 0;rw[hl]at hlo'
   have hhi':=hhi ls.length
   generalize hh:h.getD (ls.length:Int)=H at *
   cases hx with
   | lits b o size cap _ hcap hmax hszz hle hi' hv =>
    refine ⟨_,EI (P:=P) (w:=w) he hz hz0 hlo' hhi' h0 h1 (by omega),?_⟩
    by_cases hne:H.toNat-L.toNat=0
    .rw [hne,cz];exact .lits0 _ _ _
    .have hlen:ls.length≠0:=by omega
     rw [if_neg (by omega)]
     simp only[dz,IQ]
     have hn:H.toNat-L.toNat=((ls.drop L.toNat).take (H.toNat-L.toNat)).length:=by simp;omega
     rw [hn]
     rw [<-hn]
     have key:∀i e,((ls.drop L.toNat).take (H.toNat-L.toNat))[i]?=some e->ls[L.toNat+i]?=some e:=by
      intro i e he
      simp only[bu]at he
      split at he
      .simpa [bv]using he
      .cases he
     have hlen2:((ls.drop L.toNat).take (H.toNat-L.toNat)).length=H.toNat-L.toNat:=hn.symm
     have goal:VR C (.slice (some ⟨b,o+L.toNat*Ae P t,none⟩) ((ls.drop L.toNat).take (H.toNat-L.toNat)).length (cap-L.toNat)) (.lits (Ae P t) ((ls.drop L.toNat).take (H.toNat-L.toNat))):=by
      refine .lits b (o+L.toNat*Ae P t) (Ae P t) _ _ (by omega) (by omega) hz0 (λe he=>?_) (λi j hi1 hj=>?_) (λi j e c he hj=>?_)
      .exact hle e (dg (dh he))
      .have := hi' (L.toNat+i) j (by omega) hj
       rw [de]at this
       rw [show o+L.toNat*Ae P t+i*Ae P t+j=o+(L.toNat*Ae P t+i*Ae P t)+j by omega];exact this
      .have := hv _ j e c (key i e he) hj
       rw [de]at this
       rw [show o+L.toNat*Ae P t+i*Ae P t+j=o+(L.toNat*Ae P t+i*Ae P t)+j by omega];exact this
     rw [hlen2]at goal;exact goal
   | lits0 a cap z =>
    refine ⟨_,EI (P:=P) (w:=w) he hz hz0 hlo' hhi' h0 h1 (by simp at h2;omega),?_⟩
    have : H.toNat-L.toNat=0:=by simp at h2;omega
    rw [this,cz];exact .lits0 _ _ _
  .cases hq
 .rename_i id gen s n
  cases hes:st.arr? id gen with
  | none=>rw[hes]at hq;cases hq
  | some q =>
   obtain ⟨z',es⟩:=q
   rw [hes]at hq
   simp only[aw]at hq
   split at hq
   .rename_i hc
    obtain ⟨h0,h1,h2,h3,h4⟩:=hc
    simp at hq;subst hq
    obtain ⟨K,hK,hb,hg,hKz,hz0,hcap,hat⟩:=hi.arr hes
    rw [h4]at hz0
    obtain ⟨e,_,_,he,_,_,_,_,_,_,_,hz,_⟩:=BC (t:=t) rfl hz0
    generalize hl:l.getD 0=L at *
    have hlo':=hlo 0;rw[hl]at hlo'
    have hhi':=hhi n
    generalize hh:h.getD (n:Int)=H at *
    cases hx with
    | ref _ _ _ _ _ hv hb' hg' hr =>
     obtain ⟨a,rfl,h10,h11⟩:=hr K hK hg.symm
     refine ⟨_,EI (P:=P) (w:=w) he hz hz0 hlo' hhi' h0 h1 (by omega),?_⟩
     refine .ref _ _ _ _ _ rfl hb' hg' (λL' hL' _=>?_)
     rw [hK]at hL';cases hL'
     refine ⟨if K.cap-s=L.toNat then a else a.map (·.add (L.toNat*Ae P t)),?_,by omega,λhlt=>?_⟩
     .rw [show K.cap-(s+L.toNat)=K.cap-s-L.toNat by omega]
     .have hlt':s+L.toNat<K.cap:=hlt
      rw [if_neg (by omega),h11 (by omega)]
      simp only[dz,IQ]
      by_cases hL0:L.toNat=0
      .simp [hL0]
      .have hsz:K.size=Ae P t:=by rw[hKz,h4]
       rw [hsz,de,bq]
   .cases hq
 .rename_i s
  split at hq
  .rename_i hc
   obtain ⟨h0,h1,h2,hst⟩:=hc
   simp at hq;subst hq
   generalize hl:l.getD 0=L at *
   have hlo':=hlo 0;rw[hl]at hlo'
   have hhi':=hhi s.length
   generalize hh:h.getD (s.length:Int)=H at *
   cases hx with
   | str s' _ hs hsm =>
    subst hs
    have hsz:(s'.data.toList.length:Int)=(s'.size:Int):=by rw[cy];rfl
    rw [hsz]at hhi' h2
    refine ⟨_,Ql (P:=P) (w:=w) (DQ hst) hlo' hhi' h0 h1 h2,.str _ _ ?_ (by simp only[cw,cx];omega)⟩
    rw [ed]
  .cases hq
 .rename_i cs off
  simp only[au]at hq
  obtain ⟨⟨n,m⟩,har,hq⟩:=hq
  dsimp only at hq
  split at hq
  .rename_i hc
   obtain ⟨rfl,rfl,rfl,hoff,h0,hm⟩:=hc
   simp only[bp]at hq;subst hq
   obtain ⟨e,he,hz⟩:=Gs har
   have hnone:∀ {o:Option Value},(∀d:Int,(o=none/\(none:Option Int).getD d=d)\/∃k,o=some (.int k ((none:Option Int).getD d)))->o=none:=by
    intro o hh
    rcases hh 0 with ⟨g,_⟩ | ⟨k,g⟩
    .exact g
    .rcases hh 1 with ⟨g',_⟩ | ⟨k',g'⟩
     .exact g'
     .rw [g]at g';simp at g'
   have e1:=hnone hlo
   have e2:=hnone hhi
   subst e1 e2
   cases hx with
   | vptr b o _ _ hcell hi' hv =>
    have hs:=Cx (P:=P) (w:=w) (t:=e) (by omega)
    have hb:=Ko (P:=P) (w:=w) (bb:=false) (len:=n) (cap:=n) (lo:=none) (hi:=none) (l:=0) (h:=n) (.inl ⟨rfl,rfl⟩) (.inl ⟨rfl,rfl⟩) (by omega) (by omega) (by omega)
    have hcs:∀c∈cs,c.cells = [c]:=λc hc=>by
     have := hcell c hc
     cases c <;> first | rfl | cases this
    have hin:∀c∈(cs.drop off).take n,c∈cs:=λc hc=>dg (dh hc)
    have hlen:((cs.drop off).take n).length=n:=by rw[cw,cx];omega
    have hat:∀i e,((cs.drop off).take n)[i]?=some e->i<n/\cs[off+i]?=some e:=λi e he=>by
     rw [bu]at he
     split at he
     .rw [bv]at he;exact⟨by omega,he⟩
     .cases he
    have goal:VR C (.slice (some ⟨b,o+off,none⟩) ((cs.drop off).take n).length n) (.lits 1 ((cs.drop off).take n)):=by
     refine .lits b (o+off) 1 n _ (by omega) (by unfold maxLen;omega) (by omega) (λc hc=>⟨by rw[hcs c (hin c hc)];rfl,λd hd=>by rw[hcs c (hin c hc)]at hd;simp at hd;subst hd;exact hcell d (hin d hc)⟩) (λi j hi1 hj=>?_) (λi j e c he hj=>?_)
     .have : j=0:=by omega
      subst this
      have := hi' (off+i) (by omega)
      rw [show o+off+i*1+0=o+(off+i) by omega];exact this
     .obtain ⟨hin',hat'⟩:=hat i e he
      have hce:=hcs e (ac hat')
      rw [hce]at hj
      have : j=0:=by
       rcases j with _ | j
       .rfl
       .simp at hj
      subst this
      simp at hj
      subst hj
      have := hv (off+i) e hat'
      rw [show o+off+i*1+0=o+(off+i) by omega];exact this
    rw [hlen]at goal
    exact ⟨.slice (some ⟨b,o+off,none⟩) n n,by simp[dv,run_underlying he,bo,hb,hs,hz,Addr.add],goal⟩
  .cases hq
 .cases hq
theorem bQ (hi:Inv C st w) {x:Value} {px:PV} (hx:VR C x px) {t ty:TypeId} {n:Int} (h:K2 st (Ae P t) (AT P t) px=some n) :
  (ee #[t] ty #[x]).run P w=.ok (.int .i64 n) w:=by
 have slc:0<Ae P t->∀ {a:Option Addr} {len cap:Nat},(ee #[t] ty #[.slice a len cap]).run P w=.ok (.int .i64 len) w:=λh0 a len cap=>by
  obtain ⟨e,_,_,he,_⟩:=BC (t:=t) rfl h0
  simp [ee,run_underlying he,goInt]
 unfold K2 at h
 split at h
 .split at h
  .simp at h;subst h;cases hx;exact slc (by assumption)
  .cases h
 .split at h
  .simp at h;subst h
   cases hx
   .exact slc (by assumption)
   .exact slc (by assumption)
  .cases h
 .rename_i id gen s n'
  cases hes:st.arr? id gen with
  | none=>rw[hes]at h;cases h
  | some q =>
   obtain ⟨z',es⟩:=q
   rw [hes]at h
   simp only[aw]at h
   split at h
   .simp at h;subst h
    obtain ⟨K,hK,hb,hg,_⟩:=hi.arr hes
    cases hx with
    | ref _ _ _ _ _ hv hb' hg' hr =>
     obtain ⟨a,rfl,_⟩:=hr K hK hg.symm
     exact slc (by assumption)
   .cases h
 .split at h
  .rename_i hst
   simp at h;subst h
   cases hx with
   | str s _ hs hsm =>
    subst hs
    simp [ee,run_underlying (DQ hst),goInt]
  .cases h
 .cases h
end
section
variable {P:Program} {w:World} {C:Ctx} {st:Store}
def Src (P:Program) (C:Ctx) (w:World) (z:Nat) (y:Value) (ys:List PV) (news:List Value):Prop :=
 news.length = ys.length*z/\(ef y).run P w=.ok ys.length w/\(∀w':World,w'.heap=w.heap->(ej z ys.length y).run P w'=.ok news.toArray w') /\
  (∀ i e,ys[i]?=some e->CellsAt C news.toArray (i*z) z e)
theorem Src.one {z:Nat} {y:Value} {ys:List PV} {news:List Value} (h:Src P C w z y ys news) (hz:0<z):∀x∈news,x.oneCell'=true:=by
 intro x hx
 obtain ⟨k,hk⟩:=bt.1 hx
 have hlt:k<ys.length*z:=by rw[<-h.1];exact (ab.1 hk).1
 have hi:k / z<ys.length:=ek (by rw[eq];exact hlt)
 have hj:k % z<z:=Nat.mod_lt _ hz
 obtain ⟨h1,h2,h3⟩:=h.2.2.2 (k / z) _ (Dg hi)
 have hc:(nth ys (k / z)).cells[k % z]?=some ((nth ys (k / z)).cells.getD (k % z) .bad):=by simp[bi,show k % z<(nth ys (k / z)).cells.length by omega]
 have h4:=h3 _ _ hc
 have e1:k / z*z+k % z=k:=by rw[eq];exact er k z
 rw [e1]at h4
 have h5:news.toArray.getD k undef=x:=by
  have : k<news.length:=(ab.1 hk).1
  have h6:=(ab.1 hk).2
  simp [bm,this,h6]
 rw [h5]at h4
 exact h4.oneCell (h2 _ (ac hc))
theorem K6 {z:Nat} {a:Option Addr} {cap:Nat}:Src P C w z (.slice a 0 cap) [] []:=by
 refine ⟨by simp,by simp[ef],λw' _=>?_,by intro i e h;simp at h⟩
 cases a <;> simp[ej,loadCells,loadCellsFrom]
theorem Zc {z:Nat} {ys:List PV} {b o cap:Nat} (f:Nat->Value) (hf:∀k,k<ys.length*z->w.cell? ⟨b,o+k,none⟩=some (f k))
  (hc : ∀i e j c,ys[i]?=some e->e.cells[j]?=some c->VR C (f (i*z+j)) c) (hl:∀e∈ys,e.cells.length=z/\∀c∈e.cells,c.isCell=true) :
  Src P C w z (.slice (some ⟨b,o,none⟩) ys.length cap) ys ((br (ys.length*z)).map f):=by
 refine ⟨by simp,by simp[ef],λw' hw'=>?_,λi e he=>?_⟩
 .exact run_firstCells_some w' z ys.length ⟨b,o,none⟩ ys.length cap _ (by simp) (λj v hj=>by
   simp only[bw,az]at hj
   obtain ⟨k,hk,rfl⟩:=hj
   have hlt:j<ys.length*z:=by have:=(ab.1 hk).1;simpa using this
   have : k=j:=by rw[List.getElem?_range hlt]at hk;exact (c7 hk).symm
   subst this
   rw [IQ,cell?_heap (w:=w) (by rw[hw'])];exact hf k hlt)
 .obtain ⟨h1,h2⟩:=hl e (ac he)
  refine ⟨h1,h2,λj c hj=>?_⟩
  have hi:i<ys.length:=(ab.1 he).1
  have hj':j<z:=by have:=(ab.1 hj).1;omega
  have hb:=Bm (z:=z) hi (cg _)
  have : i*z+j<ys.length*z:=by omega
  have e1:((br (ys.length*z)).map f).toArray.getD (i*z+j) undef=f (i*z+j):=by
   simp [bm,this]
  rw [e1];exact hc i e j c he hj
theorem GU (hi:Inv C st w) {y:Value} {py:PV} (hy:VR C y py) {ys:List PV} {z:Nat} (hz:0<z) (h:CD st z py=some ys) :
  ∃ news,Src P C w z y ys news:=by
 unfold CD at h
 split at h
 .simp at h;subst h;cases hy;exact⟨[],K6⟩
 .split at h
  .rename_i hzz
   simp at h;subst h;subst hzz
   cases hy with
   | lits b o size cap _ hcap hmax hszz hl hi' hv =>
    rename_i size l
    refine ⟨_,Zc (λk=>(C.imm b (o+k)).getD undef) (λk hk=>?_) (λi e j c he hj=>?_) hl⟩
    .have hi1:k / size<l.length:=ek (by rw[eq];exact hk)
     have := hi' (k / size) (k % size) hi1 (Nat.mod_lt _ hz)
     rw [bq,show k / size*size+k % size=k by rw[eq];exact er k size]at this
     obtain ⟨u,hu⟩:=aa.1 this
     rw [hi.imm _ _ _ hu,hu];rfl
    .have := hv i j e c he hj
     rw [bq]at this;exact this
   | lits0 a cap z=>exact⟨[],K6⟩
  .cases h
 .rename_i id gen s n
  cases hes:st.arr? id gen with
  | none=>rw[hes]at h;cases h
  | some q =>
   obtain ⟨z',es⟩:=q
   rw [hes]at h
   simp only[aw]at h
   split at h
   .rename_i hsn
    obtain ⟨hsn,hz'⟩:=hsn
    simp at h;subst h
    obtain ⟨K,hK,hb,hg,hKz,hzz,hcap,hat⟩:=hi.arr hes
    have hsz:K.size=z:=by rw[hKz];exact hz'
    cases hy with
    | ref _ _ _ _ _ hv hb' hg' hr =>
     obtain ⟨a,rfl,h10,h11⟩:=hr K hK hg.symm
     have hlen:((es.drop s).take n).length=n:=by simp;omega
     rcases ao n with h0 | h0
     .subst h0;rw[cz];exact⟨[],K6⟩
     .have ha:=h11 (by omega)
      subst ha
      obtain ⟨_,_,cs,T,h7,h8,h9⟩:=hat (by omega)
      have key:∀i e,((es.drop s).take n)[i]?=some e->i<n/\es[s+i]?=some e:=by
       intro i e he
       simp only[bu]at he
       split at he
       .exact ⟨by assumption,by simpa [bv]using he⟩
       .cases he
      have hb1:=Bm (i:=s+n-1) (z:=K.size) (show s+n-1<es.length by omega) hcap
      have e2:(s+n-1)*K.size+K.size=s*K.size+n*K.size:=by
       rw [<-Nat.succ_mul,<-de];congr 1;omega
      have := Zc (P:=P) (w:=w) (C:=C) (z:=z) (ys:=(es.drop s).take n) (b:=K.blk) (o:=K.off+s*K.size) (cap:=K.cap-s) (λk=>cs.getD (K.off+s*K.size+k) undef) (λk hk=>?_) (λi e j c he hj=>?_) (λe he=>?_)
      .rw [hlen]at this
       exact ⟨_,this⟩
      .rw [hlen,<-hsz]at hk
       have : K.off+s*K.size+k<cs.size:=by omega
       rw [FE h7,bz this];simp[bm,this]
      .obtain ⟨_,h12⟩:=key i e he
       have :=(h9 _ e h12).2.2 j c hj
       rw [<-hsz,show K.off+s*K.size+(i*K.size+j)=K.off+(s+i)*K.size+j by rw[de];omega]
       exact this
      .obtain ⟨i,hi1⟩:=bt.1 he
       obtain ⟨_,h12⟩:=key i e hi1
       have := h9 _ e h12
       exact ⟨by rw[this.1,hsz],this.2.1⟩
   .cases h
 .rename_i s
  split at h
  .rename_i hz1
   simp at h;subst h
   subst hz1
   cases hy with
   | str s' _ hs hsm =>
    subst hs
    have hsz:s'.data.toList.length=s'.size:=by rw[cy];rfl
    refine ⟨s'.data.toList.map λb=>.int .u8 b.toNat,by simp,by simp[ef],λw' _=>?_,λi e he=>?_⟩
    .have e1:(s'.extract 0 s'.data.toList.length).data.toList=s'.data.toList:=by
      rw [ed,List.drop_zero,Nat.sub_zero,List.take_of_length_le (cg _)]
     simp only[ej,List.length_map,c8]
     congr 1
     apply Array.ext'
     rw [Array.toList_map,e1]
    .simp only[bw,az]at he
     obtain ⟨b,hb,rfl⟩:=he
     refine ⟨rfl,by simp[PV.cells,PV.isCell],λj c hj=>?_⟩
     cases j with
     | zero =>
      simp [PV.cells]at hj;subst hj
      have hlt:i<s'.data.toList.length:=(ab.1 hb).1
      have : (s'.data.toList.map λb=>Value.int .u8 b.toNat).toArray.getD (i*1+0) undef=.int .u8 b.toNat:=by
       have hb':=(ab.1 hb).2
       simp at hlt
       simp [bm,hlt]
       simp at hb'
       rw [hb']
      rw [this];exact .int _ _
     | succ j=>simp[PV.cells]at hj
  .cases h
 .cases h
theorem WD {u:TypeId} (h:Ae P u≠0\/AT P u=true):(∃e,P.underlying u=some (.slice e))\/P.underlying u=some .string:=by
 rcases h with h | h
 .obtain ⟨e,_,_,he,_⟩:=BC (t:=u) rfl (Nat.pos_of_ne_zero h)
  exact .inl ⟨_,he⟩
 .exact .inr (DQ h)
section
variable {t u ty e:TypeId} {i:TypeInfo}
theorem IU {v:Value} (ht:P.underlying t=some (.slice e)) (hu:Ae P u≠0\/AT P u=true) (hi:P.info? e=some i) (hz:i.zero=some v)
  {base : Option Addr} {sLen sCap n:Nat} {y:Value} {olds news:Array Value} (hy:(ef y).run P w=.ok n w)
  (ho : ∀w':World,w'.heap=w.heap->(ej i.size sLen (.slice base sLen sCap)).run P w'=.ok olds w')
  (hn : ∀w':World,w'.heap=w.heap->(ej i.size n y).run P w'=.ok news w') (hg:sCap<sLen+n) (hb:sLen+n<=2147483648) (hby:i.bytes<=65536) :
  (eu #[t,u] ty #[.slice base sLen sCap,y]).run P w =
   .ok (.slice (some ⟨w.heap.size,0,none⟩) (sLen+n) (grownCap w (sLen+n) sCap e)) (w.drew.alloc (.cells (olds++news++Builtin.zeroCells v.cells (grownCap w (sLen+n) sCap e-(sLen+n))) e)):=by
 have hn1:¬(sLen+n<=sCap):=by omega
 have h63:¬(9223372036854775807<((sLen:Int)+(n:Int))):=by omega
 have hcap:=nextslicecap_le hg
 have h48:¬(281474976710656<ew (sLen+n) sCap*i.bytes):=by
  have : ew (sLen+n) sCap*i.bytes<=4294967296*65536:=Nat.mul_le_mul (by omega) hby
  omega
 have h1:=ho w.drew rfl
 have h2:=hn w.drew rfl
 rcases WD hu with ⟨e',hd⟩ | hd
 .simp [eu,run_underlying ht,run_underlying hd,bd,typeInfo,zeroValue,hi,hz,hy,hn1,h63,h48,fb,h1,h2,newRow,grownCap]
 .simp [eu,run_underlying ht,run_underlying hd,bd,typeInfo,zeroValue,hi,hz,hy,hn1,h63,h48,fb,h1,h2,newRow,grownCap]
theorem GK (ht:P.underlying t=some (.slice e)) (hu:Ae P u≠0\/AT P u=true) (hi:P.info? e=some i)
  {base : Option Addr} {sLen sCap n:Nat} {y:Value} {news:List Value} (hy:(ef y).run P w=.ok n w) {w':World}
  (hn : (ej i.size n y).run P w=.ok news.toArray w) (hg:sLen+n<=sCap) (hs:∀a,base=some a->(storeCells (a.add (sLen*i.size)) news).run P w=.ok () w') (h0:base=none->w'=w) :
  (eu #[t,u] ty #[.slice base sLen sCap,y]).run P w=.ok (.slice base (sLen+n) sCap) w':=by
 cases base with
 | none =>
  rw [h0 rfl]
  rcases WD hu with ⟨e',hd⟩ | hd <;> simp[eu,run_underlying ht,run_underlying hd,bd,typeInfo,hi,hy,hg,hn]
 | some a =>
  have hs:=hs a rfl
  rcases WD hu with ⟨e',hd⟩ | hd <;> simp[eu,run_underlying ht,run_underlying hd,bd,typeInfo,hi,hy,hg,hn,hs]
end
end
end Sim
