/- Contracts of functions that change objects of their caller: what they leave behind is given up. -/
import Derived.Test.YtppljhpecoeakaaSimU
set_option linter.unusedVariables false
set_option linter.unusedSimpArgs false
namespace Sim
open Go
noncomputable def Be {ι:Type} (A:ι→List PV) (H:ι→Store→Prop) (R:ι→Store→PV×Store):List PV→Store→Option (PV×Store):=fun args st =>
 @dite _ (∃i,A i=args∧H i st) (Classical.propDecidable _) (fun h=>some (R h.choose st)) (fun _=>none)
theorem Bq {ι:Type} {A:ι→List PV} {H:ι→Store→Prop} {R:ι→Store→PV×Store} (hj:∀i j st,A i=A j→H i st→H j st→R i st=R j st) {i:ι} {st:Store} (hi:H i st):Be A H R (A i) st=some (R i st):=by
 unfold Be
 have h:∃j,A j=A i∧H j st:=⟨i,rfl,hi⟩
 rw [dif_pos h]
 exact congrArg some (hj _ _ _ h.choose_spec.1 h.choose_spec.2 hi)
def Left (r:PV) (st':Store) (p:PV) (st1:Store):Prop :=
 ∃ ids:List Nat,(p=r∨rdP (st1.only ids) p=some r)∧(∀i o,st'.obj i=some o→ids.contains i=false∧st1.obj i=some o)∧st1.next≤st'.next
theorem Inv.skip {C:Ctx} {st:Store} {w:World} (h:Inv C st w) {n:Nat} (hn:st.next≤n):Inv C ⟨st.obj,n⟩ w where
 os := h.os
 out := h.out
 hB := h.hB
 old := h.old
 imm := h.imm
 next := fun id hid=>h.next id (Nat.le_trans hn hid)
 none_ := h.none_
 obj := h.obj
 sep := h.sep
 keep := h.keep
theorem IXC.left {P:Program} {f:FuncId} {args:List PV} {st:Store} {r:PV} {st':Store} (h:IXC P f args st (Left r st')):IXC P f args st fun r' st''=>r'=r∧st''=st':=by
 refine ⟨h.1,fun C w vals hi hv=>Calls.mono (h.2 C w vals hi hv) fun e w' he=>?_⟩
 obtain ⟨v,C1,p,st1,rfl,hle,hi1,hvr,ids,hp,ho,hn⟩:=he
 obtain ⟨a1,a2,_⟩:=hi1.without ids
 have hv2:VR (C1.closeIn ids w') v r:=by
  rcases hp with rfl | hp
  ·exact hvr.mono a1
  ·exact VR.freeze hi1 ids hp hvr
 obtain ⟨b1,b2,_⟩:=a2.without ((List.range st1.next).filter fun i=>(st'.obj i).isNone)
 have e:((st1.without ids).without ((List.range st1.next).filter fun i=>(st'.obj i).isNone)).obj=st'.obj:=by
  funext i
  unfold Store.without
  dsimp only
  cases hs:st'.obj i with
  | some o =>
   obtain ⟨g1,g2⟩:=ho i o hs
   rw [if_neg (by simp[hs]),if_neg (by rw[g1];exact Bool.false_ne_true),g2]
  | none =>
   by_cases c:i<st1.next
   ·rw [if_pos (by simp[hs,c])]
   ·rw [if_neg (by simp[c])]
    cases hs1:st1.obj i with
    | none=>split <;> rfl
    | some o=>exact absurd (hi1.obj i o hs1).1 (hi1.next i (by omega))
 refine ⟨v,_,r,st',rfl,(hle.trans a1).trans b1,?_,hv2.mono b1,rfl,rfl⟩
 have := b2.skip (n:=st'.next) (by show st1.next≤_;exact hn)
 rw [e]at this
 exact this
theorem Left.refl {r:PV} {st:Store}:Left r st r st:=⟨[],.inl rfl,fun i o h=>⟨rfl,h⟩,Nat.le_refl _⟩
theorem Left.same {r p:PV} {st st':Store} (h:p=r) (ho:∀i o,st'.obj i=some o→st.obj i=some o) (hn:st.next≤st'.next):Left r st' p st:=⟨[],.inl h,fun i o g=>⟨rfl,ho i o g⟩,hn⟩
theorem Cx {ι:Type} {P:Program} {f:FuncId} {A:ι→List PV} {H:ι→Store→Prop} {R:ι→Store→PV×Store} (h:∀i st,H i st→IXC P f (A i) st (Left (R i st).1 (R i st).2)):AM P f (.x (Be A H R)):=by
 intro args st r st' hs
 unfold Be at hs
 split at hs
 ·rename_i hc
  have e:=Option.some.inj hs
  have h1:=hc.choose_spec
  have :=(h hc.choose st h1.2).left
  rw [h1.1,e]at this
  exact this
 ·cases hs
inductive PV.In (K:Nat→Prop):PV→Prop where
 | bad:PV.In K .bad
 | bool (b:Bool):PV.In K (.bool b)
 | int (k:IntKind) (n:Int):PV.In K (.int k n)
 | str (s:List UInt8):PV.In K (.str s)
 | nilp:PV.In K .nilp
 | ptr (id gen idx off:Nat) (h:K id):PV.In K (.ptr id gen idx off)
 | vptr (cells:List PV) (off:Nat) (h:∀c∈cells,PV.In K c):PV.In K (.vptr cells off)
 | nils:PV.In K .nils
 | lits (z:Nat) (l:List PV) (h:∀e∈l,∀c∈e.cells,PV.In K c):PV.In K (.lits z l)
 | ref (id gen s n:Nat) (h:K id):PV.In K (.ref id gen s n)
 | func (fn:Fn) (a b:List PV) (h1:∀c∈a,PV.In K c) (h2:∀c∈b,PV.In K c):PV.In K (.func fn a b)
 | nilf:PV.In K .nilf
 | iface (t:TypeId) (v:PV) (h:PV.In K v):PV.In K (.iface t v)
 | nili:PV.In K .nili
 | agg (l:List PV) (h:∀c∈l,PV.In K c):PV.In K (.agg l)
 | tuple (l:List PV) (h:∀c∈l,PV.In K c):PV.In K (.tuple l)
 | nilm:PV.In K .nilm
 | mref (id gen:Nat) (h:K id):PV.In K (.mref id gen)
 | iter (id gen:Nat) (h:K id):PV.In K (.iter id gen)
def OIn (K:Nat→Prop):IObj→Prop
 | .arr _ _ es=>∀e∈es,∀c∈e.cells,c.In K
 | .map _ _ es=>∀e∈es,e.1.In K∧e.2.In K
 | .it m _ _=>∀id g,m=some (id,g)→K id
 | .lp _=>True
theorem PV.In.mono {K K':Nat→Prop} (hk:∀i,K i→K' i) {p:PV} (h:p.In K):p.In K':=by
 induction h with
 | bad=>exact .bad
 | bool b=>exact .bool b
 | int k n=>exact .int k n
 | str s=>exact .str s
 | nilp=>exact .nilp
 | ptr id gen idx off h=>exact .ptr id gen idx off (hk _ h)
 | vptr cells off h ih=>exact .vptr cells off ih
 | nils=>exact .nils
 | lits z l h ih=>exact .lits z l ih
 | ref id gen s n h=>exact .ref id gen s n (hk _ h)
 | func fn a b h1 h2 ih1 ih2=>exact .func fn a b ih1 ih2
 | nilf=>exact .nilf
 | iface t v h ih=>exact .iface t v ih
 | nili=>exact .nili
 | agg l h ih=>exact .agg l ih
 | tuple l h ih=>exact .tuple l ih
 | nilm=>exact .nilm
 | mref id gen h=>exact .mref id gen (hk _ h)
 | iter id gen h=>exact .iter id gen (hk _ h)
theorem OIn.mono {K K':Nat→Prop} (hk:∀i,K i→K' i) {o:IObj} (h:OIn K o):OIn K' o:=by
 cases o with
 | arr g z es=>exact fun e he c hc=>(h e he c hc).mono hk
 | map g mk es=>exact fun e he=>⟨(h e he).1.mono hk,(h e he).2.mono hk⟩
 | it m n s=>exact fun id g e=>hk _ (h id g e)
 | lp r=>trivial
theorem Gs {α:Type} {l:List α} {P:α→Prop} (h:∀(j:Nat) (c:α),l[j]?=some c→P c):∀c∈l,P c:=fun c hc=>by
 obtain ⟨j,hj⟩:=List.mem_iff_getElem?.1 hc
 exact h j c hj
theorem VR.born {C:Ctx} {v:Value} {p:PV} (h:VR C v p):p.In C.born:=by
 induction h with
 | bad v=>exact .bad
 | bool b=>exact .bool b
 | int k n=>exact .int k n
 | str s l h hm=>exact .str l
 | nilp=>exact .nilp
 | ptr v id g i o hv hb hg h=>exact .ptr id g i o hb
 | vptr b o off cells hc hi h ih=>exact .vptr cells off (Gs ih)
 | nils=>exact .nils
 | lits b o size cap l hcap hmax hsz hl hi h ih=>exact .lits size l (Gs fun i e hi=>Gs fun j c hj=>ih i j e c hi hj)
 | lits0 a cap z=>exact .lits z [] fun e he=>by simp at he
 | ref v id g s n hv hb hg h=>exact .ref id g s n hb
 | func fn first captured pf pc hf hc h1 h2 ih1 ih2=>exact .func fn pf pc (Gs ih1) (Gs ih2)
 | nilf=>exact .nilf
 | iface t v p h ih=>exact .iface t p ih
 | nili=>exact .nili
 | agg cs l hn hc h ih=>exact .agg l (Gs ih)
 | tuple cs l hn h ih=>exact .tuple l (Gs ih)
 | nilm=>exact .nilm
 | mref v id g hv hb hg h=>exact .mref id g hb
 | iter v id g hv hb hg h=>exact .iter id g hb
def Ctx.lower (C:Ctx) (K:Nat→Prop):Ctx:={ C with born:=fun i=>C.born i∧K i }
theorem VR.lower {C:Ctx} {K:Nat→Prop} {v:Value} {p:PV} (h:VR C v p):p.In K→VR (C.lower K) v p:=by
 induction h with
 | bad v=>exact fun _=>.bad v
 | bool b=>exact fun _=>.bool b
 | int k n=>exact fun _=>.int k n
 | str s l h hm=>exact fun _=>.str s l h hm
 | nilp=>exact fun _=>.nilp
 | ptr v id g i o hv hb hg h=>intro hk;cases hk with | ptr _ _ _ _ hk=>exact .ptr v id g i o hv ⟨hb,hk⟩ hg h
 | vptr b o off cells hc hi h ih=>intro hk;cases hk with | vptr _ _ hk=>exact .vptr b o off cells hc hi fun j c hj=>ih j c hj (hk c (List.mem_of_getElem? hj))
 | nils=>exact fun _=>.nils
 | lits b o size cap l hcap hmax hsz hl hi h ih=>intro hk;cases hk with | lits _ _ hk=>exact .lits b o size cap l hcap hmax hsz hl hi fun i j e c he hc=>ih i j e c he hc (hk e (List.mem_of_getElem? he) c (List.mem_of_getElem? hc))
 | lits0 a cap z=>exact fun _=>.lits0 a cap z
 | ref v id g s n hv hb hg h=>intro hk;cases hk with | ref _ _ _ _ hk=>exact .ref v id g s n hv ⟨hb,hk⟩ hg h
 | func fn first captured pf pc hf hc h1 h2 ih1 ih2=>intro hk;cases hk with | func _ _ _ k1 k2=>exact .func fn first captured pf pc hf hc (fun i p hp=>ih1 i p hp (k1 p (List.mem_of_getElem? hp))) (fun i p hp=>ih2 i p hp (k2 p (List.mem_of_getElem? hp)))
 | nilf=>exact fun _=>.nilf
 | iface t v p h ih=>intro hk;cases hk with | iface _ _ hk=>exact .iface t v p (ih hk)
 | nili=>exact fun _=>.nili
 | agg cs l hn hc h ih=>intro hk;cases hk with | agg _ hk=>exact .agg cs l hn hc fun i p hp=>ih i p hp (hk p (List.mem_of_getElem? hp))
 | tuple cs l hn h ih=>intro hk;cases hk with | tuple _ hk=>exact .tuple cs l hn fun i p hp=>ih i p hp (hk p (List.mem_of_getElem? hp))
 | nilm=>exact fun _=>.nilm
 | mref v id g hv hb hg h=>intro hk;cases hk with | mref _ _ hk=>exact .mref v id g hv ⟨hb,hk⟩ hg h
 | iter v id g hv hb hg h=>intro hk;cases hk with | iter _ _ hk=>exact .iter v id g hv ⟨hb,hk⟩ hg h
theorem ObjAt.born {C:Ctx} {w:World} {L:Loc} {o:IObj} (h:ObjAt C w L o):OIn C.born o:=by
 cases o with
 | arr gen z es =>
  obtain ⟨h1,h1',h2,h3,h4⟩:=h
  intro e he c hc
  obtain ⟨i,hi⟩:=List.mem_iff_getElem?.1 he
  have hlt:i<es.length:=(List.getElem?_eq_some_iff.1 hi).1
  obtain ⟨h5,h6,cs,T,h7,h8,h9⟩:=h4 (by omega)
  obtain ⟨j,hj⟩:=List.mem_iff_getElem?.1 hc
  exact ((h9 i e hi).2.2 j c hj).born
 | map gen mk es =>
  obtain ⟨h1,h2,h3,h4,ces,h5,h6,h7⟩:=h
  intro e he
  obtain ⟨i,hi⟩:=List.mem_iff_getElem?.1 he
  obtain ⟨x,g1,g2,g3,g4,g5⟩:=h7 i e.1 e.2 hi
  exact ⟨g2.born,g3.born⟩
 | it m n seen =>
  obtain ⟨h1,h2,h3,h4,h5,h6,h7⟩:=h
  intro id g e
  subst e
  exact h7.1
 | lp r=>trivial
theorem ObjAt.lower {C:Ctx} {w:World} {L:Loc} {o:IObj} {K:Nat→Prop} (h:ObjAt C w L o) (hk:OIn K o):ObjAt (C.lower K) w L o:=by
 cases o with
 | arr gen z es =>
  obtain ⟨h1,h1',h2,h3,h4⟩:=h
  refine ⟨h1,h1',h2,h3,fun hc=>?_⟩
  obtain ⟨h5,h6,cs,T,h7,h8,h9⟩:=h4 hc
  exact ⟨h5,h6,cs,T,h7,h8,fun i e he=>⟨(h9 i e he).1,(h9 i e he).2.1,fun j c hj=>((h9 i e he).2.2 j c hj).lower (hk e (List.mem_of_getElem? he) c (List.mem_of_getElem? hj))⟩⟩
 | map gen mk es =>
  obtain ⟨h1,h2,h3,h4,ces,h5,h6,h7⟩:=h
  refine ⟨h1,h2,h3,h4,ces,h5,h6,fun i k v he=>?_⟩
  obtain ⟨e,g1,g2,g3,g4,g5⟩:=h7 i k v he
  have := hk _ (List.mem_of_getElem? he)
  exact ⟨e,g1,g2.lower this.1,g3.lower this.2,g4,g5⟩
 | it m n seen =>
  obtain ⟨h1,h2,h3,h4,h5,h6,h7⟩:=h
  refine ⟨h1,h2,h3,h4,h5,h6,?_⟩
  cases m with
  | none=>exact h7
  | some q =>
   obtain ⟨g1,g2,mb,g3,g4⟩:=h7
   exact ⟨⟨g1,hk _ _ rfl⟩,g2,mb,g3,g4⟩
 | lp r=>exact h
theorem Inv.lower {C:Ctx} {st:Store} {w:World} (h:Inv C st w) {n:Nat} (hk:∀i o,st.obj i=some o→i<n∧OIn (· < n) o):Inv (C.lower (· < n)) ⟨st.obj,n⟩ w where
 os := h.os
 out := h.out
 hB := h.hB
 old := h.old
 imm := h.imm
 next := fun id hid hb=>Nat.lt_irrefl _ (Nat.lt_of_lt_of_le hb.2 hid)
 none_ := h.none_
 obj := fun id o ho=>by
  obtain ⟨a1,L,a2,a3⟩:=h.obj id o ho
  obtain ⟨b1,b2⟩:=hk id o ho
  exact ⟨⟨a1,b1⟩,L,a2,a3.lower b2⟩
 sep := h.sep
 keep := h.keep
theorem Ctx.le.lower {C C':Ctx} (h:C.le C') {K:Nat→Prop} (hk:∀i,C.born i→K i):C.le (C'.lower K) :=
 ⟨h.imm, h.old,fun id hb=>⟨h.born id hb,hk id hb⟩,h.loc,h.B,h.h,h.os,h.out,h.keep,h.caller⟩
def Mn (st0:Store) (r:PV) (st':Store) (p:PV) (st1:Store):Prop :=
 ∃ ids:List Nat,(p=r∨rdP (st1.only ids) p=some r)∧(∀i o,st'.obj i=some o→i<st'.next∧ids.contains i=false∧st1.obj i=some o∧(st0.obj i=some o∨OIn (· < st'.next) o))∧st0.next≤st'.next∧r.In (· < st'.next)
theorem IXC.left0 {P:Program} {f:FuncId} {args:List PV} {st:Store} {r:PV} {st':Store} (h:IXC P f args st (Mn st r st')):IXC P f args st fun r' st''=>r'=r∧st''=st':=by
 refine ⟨h.1,fun C w vals hi hv=>Calls.mono (h.2 C w vals hi hv) fun e w' he=>?_⟩
 obtain ⟨v,C1,p,st1,rfl,hle,hi1,hvr,ids,hp,ho,hn,hr⟩:=he
 obtain ⟨a1,a2,_⟩:=hi1.without ids
 have hv2:VR (C1.closeIn ids w') v r:=by
  rcases hp with rfl | hp
  ·exact hvr.mono a1
  ·exact VR.freeze hi1 ids hp hvr
 obtain ⟨b1,b2,_⟩:=a2.without ((List.range st1.next).filter fun i=>(st'.obj i).isNone)
 have e:((st1.without ids).without ((List.range st1.next).filter fun i=>(st'.obj i).isNone)).obj=st'.obj:=by
  funext i
  unfold Store.without
  dsimp only
  cases hs:st'.obj i with
  | some o =>
   obtain ⟨_,g1,g2,_⟩:=ho i o hs
   rw [if_neg (by simp[hs]),if_neg (by rw[g1];exact Bool.false_ne_true),g2]
  | none =>
   by_cases c:i<st1.next
   ·rw [if_pos (by simp[hs,c])]
   ·rw [if_neg (by simp[c])]
    cases hs1:st1.obj i with
    | none=>split <;> rfl
    | some o=>exact absurd (hi1.obj i o hs1).1 (hi1.next i (by omega))
 have hborn:∀i,C.born i→i<st'.next:=fun i hb=>by
  rcases Nat.lt_or_ge i st.next with c | c
  ·exact Nat.lt_of_lt_of_le c hn
  ·exact absurd hb (hi.next i c)
 have hlow:=b2.lower (n:=st'.next) (fun i o hio=>by
  rw [e]at hio
  obtain ⟨g0,g1,g2,g3⟩:=ho i o hio
  refine ⟨g0,?_⟩
  rcases g3 with g3 | g3
  ·obtain ⟨_,L,_,hat⟩:=hi.obj i o g3
   exact hat.born.mono hborn
  ·exact g3)
 rw [e]at hlow
 exact ⟨v,_,r,st',rfl,((hle.trans a1).trans b1).lower hborn,hlow,(hv2.mono b1).lower hr,rfl,rfl⟩
theorem FS {ι:Type} {P:Program} {f:FuncId} {A:ι→List PV} {H:ι→Store→Prop} {R:ι→Store→PV×Store} (h:∀i st,H i st→IXC P f (A i) st (Mn st (R i st).1 (R i st).2)):AM P f (.x (Be A H R)):=by
 intro args st r st' hs
 unfold Be at hs
 split at hs
 ·rename_i hc
  have e:=Option.some.inj hs
  have h1:=hc.choose_spec
  have :=(h hc.choose st h1.2).left0
  rw [h1.1,e]at this
  exact this
 ·cases hs
theorem IXC.of_wf {P:Program} {f:FuncId} {args:List PV} {st:Store} {Q:PV→Store→Prop} (hen:DN P f) (h:WF st→IXC P f args st Q):IXC P f args st Q :=
 ⟨hen, fun C w vals hi hv=>(h hi.wf).2 C w vals hi hv⟩
def Lw (G:Store→Prop) (P:Program) (d:Nat) (f:FuncId) (first captured:List PV) (ys:List (List PV)):Prop :=
 ∃ fn c, P.funcs[f]? = some fn ∧ fn.body = some c ∧ (fn.name == "runtime.NumGoroutine") = false ∧ fn.results.toList = [] ∧ first.length + 1 + captured.length ≤ fn.ntmps ∧
  ∀ (l:Nat) (H:Fk) (J:Nat→Store→Prop) (E:Store→Prop) (st:Store) (X:Cfg),X.P=P→X.yl=some (l,H)→X.rnd=false→A8 X→J 0 st →
   (∀ i st st',J i st→st.next≤st'.next→(∀x,x<st.next→st'.obj x=st.obj x)→J i st')→(∀i st,J i st→G st) →
   (∀ i y st,ys[i]?=some y→J i st→H y st fun b st'=>if b=true then J (i+1) st' else E st') →
   gen (d+1) X fn.ntmps c (fun e s=>(e=.normal∨e=.ret)∧(J ys.length s.st∨E s.st)) ⟨FC (first++.func (.yield l) [] []::captured),st⟩
theorem Mo (G:Store→Prop) {P:Program} {l:AU} (hl:Bm P l) (muts frz:List Nat) (dep:Nat) {f:FuncId} {fn:Func} {c:Code} (hf:P.funcs[f]?=some fn) (hb:fn.body=some c)
  (hname : (fn.name == "runtime.NumGoroutine") = false) (hrs : fn.results.toList = []) {first captured : List PV} {N : Nat} (hN : fn.ntmps = N) (hn : first.length + 1 + captured.length ≤ N)
  (hd : ∀y,Bn (cfg P l muts frz dep (some y)) c=true) {ys:List (List PV)}
  (h : ∀(y:Nat) (H:Fk) (J:Nat→Store→Prop) (E:Store→Prop) (st:Store),A8 (cfg P l muts frz dep (some (y,H)))→J 0 st →
   (∀ i st st',J i st→st.next≤st'.next→(∀x,x<st.next→st'.obj x=st.obj x)→J i st')→(∀i st,J i st→G st) →
   (∀ i v st (K:Bool→Store→Prop),ys[i]?=some v→J i st→(∀st',J (i+1) st'→K true st')→(∀st',E st'→K false st')→H v st K) →
   run (cfg P l muts frz dep (some (y,H))) N (fun e s=>(e=.normal∨e=.ret)∧(J ys.length s.st∨E s.st)) (Bj c) [] ⟨FC (first++.func (.yield y) [] []::captured),st⟩) :
  Lw G P dep f first captured ys:=by
 subst hN
 refine ⟨fn,c,hf,hb,hname,hrs,hn,fun y H J E st X hP hyl hrnd hm h0 hst hG hH=>⟨cfg P l muts frz dep (some (y,H)),hP.symm,hyl.symm,hrnd.symm,rfl,FO hl,DC hl,?_⟩⟩
 have hm':A8 (cfg P l muts frz dep (some (y,H))):=fun l' H' he=>hm l' H' (by rw[hyl];exact he)
 have := h y H J E st hm' h0 hst hG (fun i v st K hv hJ ht hf=>hm' y H rfl _ _ _ _ (fun b st' hb=>by
  cases b
  ·exact hf st' (by simpa using hb)
  ·exact ht st' (by simpa using hb)) (hH i v st hv hJ))
 exact C6 hm' (hd _) this
theorem Wa {X:Cfg} {N:Nat} {Q:IExit→IState→Prop} {ks:List Kf} {s s':IState} {g:Operand} {ps:Array Tmp} {assign body:Code} (hg:Ghost s s') (h:run X N Q (.rangeFunc g ps assign body) ks s'):run X N Q (.rangeFunc g ps assign body) ks s:=by
 simp only[run,wpI,wpC]at h ⊢
 obtain ⟨s1,g1,h⟩:=h
 exact ⟨s1,.trans hg g1,h⟩
theorem Fb {G:Store→Prop} {X:Cfg} {N:Nat} {Q:IExit→IState→Prop} {ks:List Kf} {ρ:Nat→PV} {st:Store} {g:Operand} {ps:Array Tmp} {assign body:Code} {d:Nat} {f:FuncId} {first captured:List PV} {ys:List (List PV)}
  (hr : X.rnd=false) (hd:X.dep=d+1) (hm:A8 X) (hg:Ay ρ g=.func (.func f) first captured) (hy:Lw G X.P d f first captured ys) (hps:(ps.toList.all fun p=>decide (p<N))=true) (hlen:∀y∈ys,y.length=ps.size)
  (ha : Bn (DJ X) assign=true) (hb:Bn (DJ X) body=true)
  (J : Nat→Store→Prop) (Ex:IExit→Store→Prop) (hJ:∀i,Stays (J i)) (hE:∀e,Stays (Ex e)) (h0:J 0 st) (hG:∀i st,J i st→G st)
  (hround : ∀i y st id r,ys[i]?=some y→id<st.next→st.obj id=some (.lp r)→J i st→run (DJ X) N (Fa X N id r (J (i+1)) Ex body) (Bj assign) [] ⟨Fs ρ ps.toList y,st⟩)
  (hend : ∀st,J ys.length st→Gk X N Q ks ⟨ρ,st⟩) (hex:∀i st,Ex (.exit i) st→GN X N Q ks i ⟨ρ,st⟩) (hret:∀st,Ex .ret st→done X N Q ks ⟨ρ,st⟩) :
  run X N Q (.rangeFunc g ps assign body) ks ⟨ρ,st⟩:=by
 have hmr:A8 (DJ X):=hm
 simp only[run,wpI,wpC]
 refine ⟨_,.refl _,hr,?_⟩
 rw [hg]
 obtain ⟨fn,c,h1,h2,h3,h4,h5,h6⟩:=hy
 refine ⟨fn,c,h1,h2,h3,h4,h5,hps,fun l r hr1 hr2=>?_⟩
 have hgm:=DO X.dep
 generalize hH:(fun (args:List PV) (st1:Store) (K:Bool→Store→Prop)=>st1.obj st.next=some (IObj.lp r)∧args.length=ps.size ∧
       wpC (gen X.dep) (DJ X) N assign (fun e s1=>e=.normal∧s1.st.obj st.next=some (.lp r) ∧
        wpC (gen X.dep) (DJ X) N body (fun e s2=>s2.st.obj st.next=some (.lp { r with state:=.busy }) ∧
         match e with
         | .normal=>K true (s2.st.set st.next (.lp r))
         | .ret=>K false (s2.st.set st.next (.lp { r with state:=.done,pending:=some .ret }))
         | .exit i=>K false (s2.st.set st.next (.lp { r with state:=.done,pending:=some (.exit i) })))
         ⟨s1.env, s1.st.set st.next (.lp { r with state:=.busy })⟩)
        ⟨Fs ρ ps.toList args,st1⟩)=H
 have hHm:A8 (L5 X (l,H)):=by
  intro l' H' he args st K K' hk hh
  simp only[L5,Option.some.injEq,Prod.mk.injEq]at he
  obtain ⟨rfl,rfl⟩:=he
  subst hH
  obtain ⟨g1,g2,g3⟩:=hh
  refine ⟨g1,g2,CO hgm (DJ X) N assign _ _ _ hmr (fun e s1 he=>⟨he.1,he.2.1,CO hgm (DJ X) N body _ _ _ hmr (fun e s2 he2=>⟨he2.1,?_⟩) he.2.2⟩) g3⟩
  cases e with
  | normal=>exact hk _ _ he2.2
  | exit i=>exact hk _ _ he2.2
  | ret=>exact hk _ _ he2.2
 have key:=h6 l H (fun i st1=>st1.obj st.next=some (.lp r)∧st.next<st1.next∧J i st1)
  (fun st1=>(st1.obj st.next=some (.lp { r with state:=.done,pending:=some .ret })∧Ex .ret st1)∨∃i,st1.obj st.next=some (.lp { r with state:=.done,pending:=some (.exit i) })∧Ex (.exit i) st1)
  (st.new (.lp r)) (L5 X (l,H)) rfl rfl rfl hHm ⟨by simp[Store.new,Aa],by simp[Store.new],hJ 0 _ _ h0 On⟩
  (fun i s1 s2 ⟨a1,a2,a3⟩ hn ho=>⟨by rw[ho _ a2];exact a1,by omega,hJ i _ _ a3 ⟨hn,fun x o hx hox _=>by rw[ho x hx];exact hox⟩⟩)
  (fun i s1 ⟨_,_,a3⟩=>hG i s1 a3)
  (fun i y s1 hy' ⟨a1,a2,a3⟩=>by
   subst hH
   refine ⟨a1,hlen y (List.mem_of_getElem? hy'),?_⟩
   have hrn:=E9 hgm hmr ha (hround i y s1 st.next r hy' a2 a1 a3)
   refine CO hgm (DJ X) N assign _ _ _ hmr (fun e t1 he=>?_) hrn
   obtain ⟨rfl,b2,b3⟩:=he
   refine ⟨rfl,b2,?_⟩
   have hrb:=E9 hgm hmr hb (b3 { r with state:=.busy })
   refine CO hgm (DJ X) N body _ _ _ hmr (fun e t2 he=>?_) hrb
   obtain ⟨c1,c2,c3⟩:=he
   refine ⟨c1,?_⟩
   cases e with
   | normal =>
    simp only[if_true]
    exact ⟨by simp[Store.set,Aa],c2,hJ (i+1) _ _ c3 (Ce c1)⟩
   | ret=>simp only[Bool.false_eq_true,if_false];exact .inl ⟨by simp[Store.set,Aa],hE _ _ _ c3 (Ce c1)⟩
   | exit j=>simp only[Bool.false_eq_true,if_false];exact .inr ⟨j,by simp[Store.set,Aa],hE _ _ _ c3 (Ce c1)⟩)
 rw [←hd]at key
 refine DO X.dep _ _ _ _ _ _ hHm (fun e s1 he=>⟨he.1,?_⟩) key
 rcases he.2 with ⟨a1,a2,a3⟩ | ⟨a1,a2⟩ | ⟨i,a1,a2⟩
 ·exact .inl ⟨a1,hend _ (hJ _ _ _ a3 (Ce a1))⟩
 ·exact .inr (.inl ⟨a1,hret _ (hE _ _ _ a2 (Ce a1))⟩)
 ·exact .inr (.inr ⟨i,a1,hex i _ (hE _ _ _ a2 (Ce a1))⟩)
def Dm (P:Program) (l:AU) (muts frz:List Nat) (base:Nat):Cfg:={ cfg P l muts frz with num:=fun d=>if JG frz d=0 then 0 else base+JG frz d }
theorem Gt {P:Program} {l:AU} {m f:List Nat} {b:Nat}:(Dm P l m f b).P=P:=nrfl rfl
theorem SQ {P:Program} {l:AU} {m f:List Nat} {b:Nat}:(Dm P l m f b).tab=EH l:=nrfl rfl
theorem KF {P:Program} {l:AU} {m f:List Nat} {b d:Nat}:(Dm P l m f b).muts d=m.contains d:=nrfl rfl
theorem Mp {P:Program} {l:AU} {m f:List Nat} {b d:Nat}:(Dm P l m f b).num d=if JG f d=0 then 0 else b+JG f d:=nrfl rfl
theorem FT {P:Program} {l:AU} {m f:List Nat} {b d:Nat}:(Dm P l m f b).frz d=f.contains d:=nrfl rfl
theorem WQ {P:Program} {l:AU} {m f:List Nat} {b:Nat}:(Dm P l m f b).yl=none:=nrfl rfl
theorem aM {P:Program} {l:AU} {m f:List Nat} {b:Nat} {c:Code}:Bn (Dm P l m f b) c=Bn (cfg P l m f) c:=by
 induction c <;> simp only[Bn]
 case region id ops dr =>
  cases dr
  ·rfl
  have h1:∀op,BO (Dm P l m f b) op=BO (cfg P l m f) op:=fun _=>rfl
  have h2:∀o,Gj (Dm P l m f b) o=Gj (cfg P l m f) o:=fun _=>rfl
  have h3:∀o,LZ (Dm P l m f b) o=LZ (cfg P l m f) o:=fun _=>rfl
  have h4:∀o,L3 (Dm P l m f b) o=L3 (cfg P l m f) o:=fun _=>rfl
  have h5:∀o,EF (Dm P l m f b) o=EF (cfg P l m f) o:=fun _=>rfl
  have hn:∀d,(Dm P l m f b).num d=if (cfg P l m f).num d=0 then 0 else b+(cfg P l m f).num d:=fun _=>rfl
  have hz:∀d,((Dm P l m f b).num d==0)=((cfg P l m f).num d==0):=fun d=>by
   rw [hn]
   by_cases e:(cfg P l m f).num d=0
   ·rw [if_pos e,e]
   ·rw [if_neg e]
    have e2:¬b+(cfg P l m f).num d=0:=by omega
    rw [beq_eq_false_iff_ne.2 e,beq_eq_false_iff_ne.2 e2]
  have hz2:∀d,((Dm P l m f b).num d != 0)=((cfg P l m f).num d != 0):=fun d=>by simp only[bne,hz]
  have h6:∀o,EX (Dm P l m f b) o=EX (cfg P l m f) o:=fun o=>by
   unfold EX
   simp only[hz]
   rfl
  have h7:∀o,Bx (Dm P l m f b) o=Bx (cfg P l m f) o:=fun o=>by
   unfold Bx
   rw [hz2]
   rfl
  have h9:∀o,L4 (Dm P l m f b) o=L4 (cfg P l m f) o:=fun _=>rfl
  have h8:∀o,Ey (Dm P l m f b) o=Ey (cfg P l m f) o:=fun o=>by
   unfold Ey
   rw [hz]
   rfl
  have loc0:∀o,Bx (cfg P l m f) o=true→(Dm P l m f b).num (o.dst.getD 0)=b+(cfg P l m f).num (o.dst.getD 0)∧0<(cfg P l m f).num (o.dst.getD 0):=fun o ho=>by
   unfold Bx at ho
   simp only[Bool.and_eq_true,bne_iff_ne]at ho
   rw [hn,if_neg ho.1]
   exact ⟨rfl,by omega⟩
  have hc:∀(x y:Oper),Fr (Dm P l m f b) ops x y=Fr (cfg P l m f) ops x y:=fun x y=>by
   unfold Fr
   simp only[h1,h2,h3,h4,h5,h6,h7,h8,h9]
   have e1:(Bx (cfg P l m f) x&&Bx (cfg P l m f) y&&((Dm P l m f b).num (x.dst.getD 0)-1 !=(Dm P l m f b).num (y.dst.getD 0)-1))=(Bx (cfg P l m f) x&&Bx (cfg P l m f) y&&((cfg P l m f).num (x.dst.getD 0)-1 !=(cfg P l m f).num (y.dst.getD 0)-1)):=by
    cases hx:Bx (cfg P l m f) x with
    | false=>rfl
    | true =>
     cases hy:Bx (cfg P l m f) y with
     | false=>rfl
     | true =>
      obtain ⟨a1,a2⟩:=loc0 x hx
      obtain ⟨b1,b2⟩:=loc0 y hy
      rw [a1,b1]
      simp only[Bool.true_and]
      rw [Bool.eq_iff_iff,bne_iff_ne,bne_iff_ne]
      omega
   have e0:∀(x y:Oper),(EF (cfg P l m f) x&&Bx (cfg P l m f) y&&decide ((Dm P l m f b).num (y.dst.getD 0)-1<(Dm P l m f b).num (x.dst.getD 0)))=(EF (cfg P l m f) x&&Bx (cfg P l m f) y&&decide ((cfg P l m f).num (y.dst.getD 0)-1<(cfg P l m f).num (x.dst.getD 0))):=fun x y=>by
    cases hx:EF (cfg P l m f) x with
    | false=>rfl
    | true =>
     cases hy:Bx (cfg P l m f) y with
     | false=>rfl
     | true =>
      obtain ⟨b1,b2⟩:=loc0 y hy
      rw [b1,hn (x.dst.getD 0)]
      simp only[Bool.true_and]
      rw [Bool.eq_iff_iff,decide_eq_true_eq,decide_eq_true_eq]
      split <;> omega
   have e4:∀(x y:Oper),(Bx (cfg P l m f) x&&EF (cfg P l m f) y&&decide ((Dm P l m f b).num (x.dst.getD 0)-1<(Dm P l m f b).num (y.dst.getD 0)))=(Bx (cfg P l m f) x&&EF (cfg P l m f) y&&decide ((cfg P l m f).num (x.dst.getD 0)-1<(cfg P l m f).num (y.dst.getD 0))):=fun x y=>by
    rw [Bool.and_comm (Bx (cfg P l m f) x),e0 y x]
   have e6:∀x,JA (Dm P l m f b) x=JA (cfg P l m f) x:=fun x=>rfl
   have e5:Lf (Dm P l m f b) x y=Lf (cfg P l m f) x y:=by
    unfold Lf
    rw [h5]
    cases hx:EF (cfg P l m f) x with
    | false=>rfl
    | true =>
     simp only[Bool.true_and]
     split
     ·rename_i t a v _
      have hf:(Dm P l m f b).frz (900000+Di a)=(cfg P l m f).frz (900000+Di a):=rfl
      rw [hf,hz2]
      cases hk:((cfg P l m f).num (Di a) != 0)with
      | false=>simp
      | true =>
       simp only[Bool.and_true]
       congr 1
       have hk0:¬(cfg P l m f).num (Di a)=0:=by simpa using hk
       rw [hn (Di a),if_neg hk0,hn (x.dst.getD 0),decide_eq_decide]
       split <;> omega
     ·rfl
   rw [e1,e0,e4,e5,e6,e6]
  simp only[IU,hc]
 case seq a b iha ihb=>rw[iha,ihb]
 case cond iha ihb=>rw[iha,ihb]
 case block ih=>rw[ih]
 case loop ih=>rw[ih]
 case scope ih=>rw[ih]
def stB (st:Store) (n:Nat):Store:=⟨fun i=>if st.next≤i∧i<st.next+n then some (.arr 0 1 [])else st.obj i,st.next+n⟩
theorem Oo {ρ:Nat→PV} {st:Store}:∀n,Ghost ⟨ρ,st⟩ ⟨ρ,stB st n⟩
 | 0=>by
  have : stB st 0=st:=by
   unfold stB
   congr 1
   funext i
   rw [if_neg (by omega)]
  rw [this];exact .refl _
 | n+1=>by
  refine .trans (Oo n) ?_
  have : stB st (n+1)=(stB st n).new (.arr 0 1 []):=by
   simp only[stB,Store.new]
   congr 1
   funext i
   simp only[Aa]
   by_cases h:i=st.next+n
   ·rw [if_pos (by omega),if_pos h]
   ·rw [if_neg h]
    by_cases h2:st.next≤i∧i<st.next+n
    ·rw [if_pos h2,if_pos (by omega)]
    ·rw [if_neg h2,if_neg (by omega)]
  rw [this]
  exact .res _ 1 (by omega)
theorem wE {P:Program} (hmix:P.follows .mixedOrders=true) {l:AU} (hl:Bm P l) (muts:List Nat) (frz:List Nat) (n:Nat) {f:FuncId} {fn:Func} {c:Code} (hf:P.funcs[f]?=some fn) (hb:fn.body=some c)
  (hname : (fn.name == "runtime.NumGoroutine") = false) {args : List PV} {N : Nat} (hN : fn.ntmps = N) (hn : args.length ≤ N) {rs : List ResultVar} (hrs : fn.results.toList = rs) (hd : Bn (cfg P l muts frz) c = true) {st : Store} {Q : PV → Store → Prop}
  (h : run (Dm P l muts frz st.next) N (Ai P rs Q) (Bj c) [] ⟨FC args,stB st n⟩):IXC P f args st Q:=by
 subst hN;subst hrs
 exact Gp (X:=Dm P l muts frz st.next) rfl (FO hl) (DC hl) hmix hf hb hname hn (Oo n) (C6 (AV rfl) (by rw[aM];exact hd) h)
end Sim
