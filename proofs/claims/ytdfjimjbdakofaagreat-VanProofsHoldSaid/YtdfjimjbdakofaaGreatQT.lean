/- A function at given values, by computing. -/
import Derived.Test.YtdfjimjbdakofaaGreatSimX
import Derived.Test.YtdfjimjbdakofaaGreatSimP
import Derived.Shelf.SlSortCmp.NoneTotal
import Derived.Test.YtdfjimjbdakofaaGreatProg
import Derived.KernelRfl
set_option linter.unusedVariables false
set_option linter.unusedSimpArgs false
set_option maxRecDepth 100000
set_option linter.defProp false
namespace Sim
open Go
def ev (X:Cfg) (N:Nat):Nat→Code→IState→Option (IExit×IState)
 | 0,_,_=>none
 | n+1,c,s=>match c with
  | .skip=>some (.normal,s)
  | .region _ ops _=>if noY X ops=true then (kH X N ops ops.toList s).map fun s'=>(.normal,s')else none
  | .seq a b=>match ev X N n a s with
   | some (.normal,s')=>ev X N n b s'
   | r=>r
  | .cond c a b=>match AA s.env c with
   | .bool true=>ev X N n a s
   | .bool false=>ev X N n b s
   | _=>none
  | .block id c=>match ev X N n c s with
   | some (.exit i,s')=>if i=id then some (.normal,s')else some (.exit i,s')
   | r=>r
  | .loop c=>match ev X N n c s with
   | some (.normal,s')=>ev X N n (.loop c) s'
   | r=>r
  | .exit id=>some (.exit id,s)
  | .ret=>some (.ret,s)
  | _=>none
theorem Va {X:Cfg} (hy:X.yl=none) {N:Nat}:∀(n:Nat) (c:Code) (s:IState) (e:IExit) (s':IState),ev X N n c s=some (e,s')→∀Q:IExit→IState→Prop,Q e s'→wpI X N (Bo c) Q s:=by
 intro n
 induction n using Nat.strongRecOn with
 | _ n ih =>
  intro c s e s' h Q hQ
  cases n with
  | zero=>simp[ev]at h
  | succ n =>
   cases c <;> simp only[ev]at h
   case skip=>cases h;exact hQ
   case region id ops dr =>
    split at h
    ·rename_i hn
     simp only[Option.map_eq_some_iff,Prod.mk.injEq]at h
     obtain ⟨s1,h1,rfl,rfl⟩:=h
     exact .inl ⟨fun h=>by simp at h,(Oe (fun o ho=>List.all_eq_true.1 hn o ho)).2 ⟨s1,h1,hQ⟩⟩
    ·cases h
   case seq a b =>
    split at h
    ·rename_i s1 h1
     exact ih n (Nat.lt_succ_self n) a s _ _ h1 _ (ih n (Nat.lt_succ_self n) b s1 e s' h Q hQ)
    ·rename_i h1
     refine ih n (Nat.lt_succ_self n) a s _ _ h _ ?_
     cases e with
     | normal=>exact absurd h (h1 _)
     | exit i=>exact hQ
     | ret=>exact hQ
   case cond c a b =>
    simp only[Bo,wpI,wpC]
    split at h
    ·rename_i h1
     simp only[h1]
     exact ⟨fun _=>ih n (Nat.lt_succ_self n) a s _ _ h _ hQ,fun h=>by simp at h⟩
    ·rename_i h1
     simp only[h1]
     exact ⟨fun h=>by simp at h,fun _=>ih n (Nat.lt_succ_self n) b s _ _ h _ hQ⟩
    ·cases h
   case block id c =>
    split at h
    ·rename_i i s1 h1
     refine ih n (Nat.lt_succ_self n) c s _ _ h1 _ ?_
     dsimp only
     split at h
     ·rename_i hi
      cases h
      rw [if_pos hi];exact hQ
     ·rename_i hi
      cases h
      rw [if_neg hi];exact hQ
    ·rename_i h1
     refine ih n (Nat.lt_succ_self n) c s _ _ h _ ?_
     cases e with
     | normal=>exact hQ
     | exit i=>exact absurd h (h1 _ _)
     | ret=>exact hQ
   case loop c =>
    refine ⟨fun m t=>m≤n+1∧ev X N m (.loop c) t=some (e,s'),n+1,⟨s,.refl s,Nat.le_refl _,by simp only[ev];exact h⟩,?_⟩
    rintro m t ⟨hm,ht⟩
    cases m with
    | zero=>simp[ev]at ht
    | succ m =>
     simp only[ev]at ht
     split at ht
     ·rename_i s1 h1
      exact ih m (by omega) c t _ _ h1 _ ⟨m,Nat.lt_succ_self m,s1,.refl s1,by omega,ht⟩
     ·rename_i h1
      refine ih m (by omega) c t _ _ ht _ ?_
      cases e with
      | normal=>exact absurd ht (h1 _)
      | exit i=>exact hQ
      | ret=>exact hQ
   case exit id=>cases h;exact hQ
   case ret=>cases h;exact hQ
   all_goals cases h
def rdF (st:Store):PV→Option PV
 | .tuple vs=>(B8 st vs).map .tuple
 | p=>rdP st p
theorem qL {st:Store} {p q:PV} (h:rdF st p=some q):DR st p q:=by
 unfold rdF at h
 split at h
 ·simp only[Option.map_eq_some_iff]at h
  obtain ⟨ds,h1,rfl⟩:=h
  obtain ⟨h2,h3⟩:=L7 h1
  exact .tuple _ _ h2 h3
 ·exact RB h
end Sim
namespace Sim
open Go Go.ChangeShapes Go.WideShapes Go.RowKit
def full (w:World):Nat→Nat→Option Value:=fun b o=>w.cell? ⟨b,o,none⟩
def RdC (P:Program) (w:World) (t:TypeId) {α:Type} (f:α→PV) (q:α→Prop):Prop :=
 ∀ {H:Type} (enc:TypeId×Value→H) (bs:Nat) (spare:Nat→Bool) (held:Bool) (fuel:Nat) (cs:List Value) (x:DataW H×List MemPlace),DataW.trod enc P w bs spare held fuel t cs=some x →
  ∃ a,q a∧(f a).cells.length=cs.length∧(∀c∈(f a).cells,c.isCell=true)∧∀(j:Nat) (c:PV),(f a).cells[j]?=some c→VR (base (full w) w) (cs.getD j undef) c
theorem Gp {α:Type} {Q:Nat→α→Prop}:∀(n:Nat),(∀i,i<n→∃a,Q i a)→∃l:List α,l.length=n∧∀i (h:i<l.length),Q i l[i]
 | 0,_=>⟨[],rfl,fun i h=>absurd h (by simp)⟩
 | n+1,h=>by
  obtain ⟨l,h1,h2⟩:=Gp n fun i hi=>h i (by omega)
  obtain ⟨a,ha⟩:=h n (by omega)
  refine ⟨l ++ [a],by simp[h1],fun i hi=>?_⟩
  rw [List.getElem_append]
  split
  ·exact h2 i _
  ·have : i=n:=by simp at hi;omega
   subst this
   simpa using ha
theorem RdC.int {P:Program} {w:World} {t:TypeId} {k:IntKind} (ht:P.underlying t=some (.int k)):RdC P w t (PV.int k) (fun n=>(Lit.int k n).wf=true):=by
 intro H enc bs spare held fuel cs x h
 cases fuel with
 | zero=>simp[DataW.trod]at h
 | succ n =>
  unfold DataW.trod at h
  rw [ht]at h
  split at h <;> simp_all
  obtain ⟨⟨rfl,hw⟩,_⟩:=h
  refine ⟨_,hw,by simp[PV.cells],by simp[PV.cells,PV.isCell],fun j c hj=>?_⟩
  simp only[PV.cells]at hj
  cases j with
  | zero=>simp at hj;subst hj;exact .int _ _
  | succ j=>simp at hj
theorem RdC.slice {P:Program} {w:World} {t e:TypeId} (ht:P.underlying t=some (.slice e)) {z:Nat} (hz:P.cellsOf e=z) (hz0:0<z) {α:Type} {f:α→PV} {q:α→Prop} (he:RdC P w e f q) :
  RdC P w t (fun l:List α=>.lits z (l.map f)) (fun l=>∀a∈l,q a):=by
 intro H enc bs spare held fuel cs x h
 rcases DataW.trod_slice ht h with ⟨rfl,rfl⟩ | ⟨a,len,cap,elems,rest,n,_,rfl,rfl,hb,hl,hm,hlen,hel,hsp,hns⟩
 ·refine ⟨[],by simp,by simp[PV.cells],by simp[PV.cells,PV.isCell],fun j c hj=>?_⟩
  simp only[PV.cells]at hj
  cases j with
  | zero=>simp at hj;subst hj;exact .lits0 _ _ _
  | succ j=>simp at hj
 ·obtain ⟨l,h1,h2⟩:=Gp (Q:=fun i v=>q v∧(f v).cells.length=z∧(∀c∈(f v).cells,c.isCell=true)∧∀j,j<z→∃u,w.cell? ((a.add (i*z)).add j)=some u∧∀c,(f v).cells[j]?=some c→VR (base (full w) w) u c) len (fun i hi=>by
   have h3:=hel i hi
   rw [hz]at h3
   have h4:elems[i]?=some (elems[i]'(by omega)):=List.getElem?_eq_getElem (by omega)
   rw [h4,Option.bind_eq_some_iff]at h3
   obtain ⟨cs,h5,h6⟩:=h3
   obtain ⟨v,hq,h7,h8,h9⟩:=he enc bs spare held n cs _ h6
   obtain ⟨_,h10,h11⟩:=World.cells?_some h5
   refine ⟨v,hq,by omega,h8,fun j hj=>?_⟩
   refine ⟨cs[j]'(by omega),by rw[h11 j hj];exact List.getElem?_eq_getElem _,fun c hc=>?_⟩
   have := h9 j c hc
   rwa [List.getD_eq_getElem?_getD,List.getElem?_eq_getElem (by omega),Option.getD_some]at this)
  refine ⟨l,fun v hv=>?_,by simp[PV.cells],by simp[PV.cells,PV.isCell],fun j c hj=>?_⟩
  ·obtain ⟨i,hi,rfl⟩:=List.mem_iff_getElem.1 hv
   exact (h2 i hi).1
  simp only[PV.cells]at hj
  cases j with
  | succ j=>simp at hj
  | zero =>
   simp at hj;subst hj
   simp only[List.getD_cons_zero]
   cases len with
   | zero =>
    have : l = []:=List.eq_nil_of_length_eq_zero h1
    subst this
    exact .lits0 _ _ _
   | succ m =>
    obtain ⟨u,hu,_⟩:=(h2 0 (by omega)).2.2.2 0 hz0
    simp only[Nat.zero_mul,Addr.add,if_true]at hu
    obtain ⟨b,o,sp⟩:=a
    have hsp0:sp=none:=by
     cases sp with
     | none=>rfl
     | some s=>simp[World.cell?]at hu;split at hu <;> simp at hu
    subst hsp0
    have hlen':(l.map f).length=m+1:=by simp[h1]
    rw [←hlen']
    have hadd:∀i j,((Addr.mk b o none).add (i*z)).add j=⟨b,o+i*z+j,none⟩:=fun i j=>by
     unfold Addr.add
     split
     ·rename_i h3;split
      ·rename_i h4;simp[h3,h4]
      ·simp [h3]
     ·split
      ·rename_i h3 h4;rw[h4];rfl
      ·rfl
    refine .lits b o z cap (l.map f) (by omega) hm hz0 (fun v hv=>?_) (fun i j hi hj=>?_) (fun i j v c hv hc=>?_)
    ·obtain ⟨a',ha',rfl⟩:=List.mem_map.1 hv
     obtain ⟨i,hi,rfl⟩:=List.mem_iff_getElem.1 ha'
     exact ⟨(h2 i hi).2.1,(h2 i hi).2.2.1⟩
    ·have hi':i<l.length:=by simpa using hi
     obtain ⟨u,hu,_⟩:=(h2 i hi').2.2.2 j hj
     rw [hadd]at hu
     show (w.cell? ⟨b,o+i*z+j,none⟩).isSome=true
     rw [hu];rfl
    ·rw [List.getElem?_map,Option.map_eq_some_iff]at hv
     obtain ⟨a',ha',rfl⟩:=hv
     obtain ⟨hi,rfl⟩:=List.getElem?_eq_some_iff.1 ha'
     have hj:j<z:=by
      have :=(List.getElem?_eq_some_iff.1 hc).1
      have :=(h2 i hi).2.1
      omega
     obtain ⟨u,hu,hv⟩:=(h2 i hi).2.2.2 j hj
     rw [hadd]at hu
     show VR _ ((w.cell? ⟨b,o+i*z+j,none⟩).getD undef) c
     rw [hu];exact hv c hc
theorem RdC.struct2 {P:Program} {w:World} {t:TypeId} {f0 f1:Field} (ht:P.underlying t=some (.struct #[f0,f1])) (hn:P.cellsOf t=2) (ho:f0.offset=0∧f1.offset=1) (hc:P.cellsOf f0.type=1∧P.cellsOf f1.type=1)
  {α β:Type} {f:α→PV} {g:β→PV} {q:α→Prop} {r:β→Prop} (hf:RdC P w f0.type f q) (hg:RdC P w f1.type g r) (hfc:∀a,(f a).cells = [f a]) (hgc:∀b,(g b).cells = [g b]) :
  RdC P w t (fun a:α×β=>.agg [f a.1,g a.2]) (fun a=>q a.1∧r a.2):=by
 intro H enc bs spare held fuel cs x h
 obtain ⟨y0,y1,n,_,hl,h0,h1⟩:=trod_struct2 ht h
 rw [hn]at hl
 rw [ho.1,hc.1]at h0
 rw [ho.2,hc.2]at h1
 match cs,hl with
 | [c0,c1],_ =>
  simp only[List.drop_zero,List.take_succ_cons,List.take_zero,List.drop_succ_cons,List.drop_zero]at h0 h1
  obtain ⟨a,qa,_,a2,a3⟩:=hf enc bs spare held n _ _ h0
  obtain ⟨b,rb,_,b2,b3⟩:=hg enc bs spare held n _ _ h1
  refine ⟨(a,b),⟨qa,rb⟩,rfl,fun c hc=>?_,fun j c hj=>?_⟩
  ·simp only[PV.cells,List.mem_cons,List.not_mem_nil,or_false]at hc
   rcases hc with rfl | rfl
   ·exact a2 _ (by rw[hfc];simp)
   ·exact b2 _ (by rw[hgc];simp)
  ·simp only[PV.cells]at hj
   match j,hj with
   | 0,hj =>
    simp at hj;subst hj
    exact a3 0 _ (by rw[hfc];rfl)
   | 1,hj =>
    simp at hj;subst hj
    exact b3 0 _ (by rw[hgc];rfl)
   | j+2,hj=>simp at hj
theorem RdC.arg {P:Program} {w:World} {t e:TypeId} (ht:P.underlying t=some (.slice e)) {α:Type} {f:α→PV} {q:α→Prop} (h:RdC P w t f q) (hc:∀a,(f a).cells = [f a]) {H:Type} {enc:TypeId×Value→H} {bs b0:Nat} {spare:Nat→Bool} {held:Bool} {v:Value} {d:DataW H} {ps:List MemPlace}
  (hval : Value.okWide P w .any b0 t v) (hd:DataW.Trod enc P w bs spare held t v d ps):∃a,q a∧VR (base (full w) w) v (f a):=by
 obtain ⟨s,len,cap,rfl⟩:=okWide_slice ht hval
 obtain ⟨fuel,hd⟩:=hd
 obtain ⟨a,qa,_,_,h3⟩:=h enc bs spare held fuel _ _ hd
 exact ⟨a,qa,h3 0 _ (by rw[hc];rfl)⟩
theorem K6 {H:Type} {enc:TypeId×Value→H} {P:Program} {w w':World} (hold:∀b,b<w.heap.size→w'.heap[b]?=w.heap[b]?) {bs:Nat} {spare:Nat→Bool} {held:Bool} :
  ∀ {ts:List TypeId} {vs:List Value} {ds:List (DataW H)} {ps:List MemPlace},(∀p∈ps,p.block<w.heap.size)→DataW.TrodAll enc P w bs spare held ts vs ds ps→DataW.TrodAll enc P w' bs spare held ts vs ds ps
 | [],_,_,_,hp,h=>by
  obtain ⟨rfl,rfl,rfl⟩:=trodAll_nil h
  exact trodAll_mk0
 | _::_,_,_,_,hp,h=>by
  obtain ⟨v,vs1,d,ds1,a,b,rfl,rfl,rfl,⟨n,h1⟩,h2⟩:=trodAll_cons h
  refine ⟨a,b,⟨n,DataW.trod_carry n _ _ _ h1 fun p hp'=>?_⟩,K6 hold (fun p h=>hp p (by simp[h])) h2,rfl⟩
  have hb:=hp p (by simp only[List.mem_append];exact .inl hp')
  cases p with
  | cell b off=>simp only[World.sameAt,World.cell?];rw[hold b hb]
  | map b=>exact hold b hb
theorem gU {H:Type} {enc:TypeId×Value→H} {P:Program} {T:TypeId→Prop} (K:Kids P T) (hz:∀t e,T t→P.underlying t=some (.slice e)→0<P.cellsOf e)
  {f : Func} {s:ChangeSpec} {apart fresh handsOn again:Bool} {W W':World} {args:Array Value} {v:Value} {ds gs:List (DataW H)} {before:List MemPlace}
  (hT : ∀t∈f.params.toList,T t) (hv:s.vars = []) (hW:DataW.Whole enc P f.params.toList s.vars apart W args.toList ds gs before)
  (hfr : W'.os=W.os∧W'.output=W.output) (hold:∀b,b<W.heap.size→W'.heap[b]?=W.heap[b]?)
  (ha : (s.fn H (ds++gs)).args=ds) (hvs:(s.fn H (ds++gs)).vars = [])
  (hres : ∀(b:Nat) (sp:Nat→Bool) (hd:Bool),DataW.TrodAll enc P W' b sp hd f.resultTypes.toList (v.resultList f.resultTypes.size) (s.fn H (ds++gs)).results [])
  (hok : ∀(j:Nat) (t:TypeId) (r:Value),f.resultTypes[j]?=some t→(v.resultList f.resultTypes.size)[j]?=some r→Value.okWide P W' .any 0 t r) :
  s.post enc P f apart fresh handsOn again W args v W':=by
 have hlt:=hW.lt
 have hW':=hW
 obtain ⟨p,q,hA,hV,rfl,hfz,hnd⟩:=hW
 rw [hv]at hV
 obtain ⟨rfl,rfl⟩:=trodVars_none hV
 have hA':=K6 hold (fun x hx=>hlt x (by simp[hx])) hA
 have hargs:∀sp:Nat→Bool,(∀x∈p,sp x.block=true)→DataW.TrodAll enc P W' 0 sp true f.params.toList args.toList (s.fn H (ds ++ [])).args p:=fun sp hsp=>by
  rw [ha];exact DataW.TrodAll.respare K hz hT hA' hsp
 have hvars:∀sp:Nat→Bool,DataW.TrodVars enc P W' sp s.vars (s.fn H (ds ++ [])).vars []:=fun sp=>by rw[hv,hvs];rfl
 have hspec:∀x∈p,(fun b=>decide (b<W.heap.size)) x.block=true:=fun x hx=>by simpa using hlt x (by simp[hx])
 refine ⟨ds,[],p ++ [],[],p,[],hW',hres _ _ _,hargs _ hspec,hvars _,⟨hfr.1,hfr.2,fun i hi=>?_⟩,fun _=>?_⟩
 ·rw [hold i hi]
  cases hh:W.heap[i]? with
  | none=>trivial
  | some o=>cases o with
   | cells c t fr=>exact⟨rfl,rfl,rfl,fun _ _=>rfl⟩
   | map es clock=>exact .inr ⟨rfl,rfl⟩
   | _=>rfl
 ·refine ⟨hok,_,_,([]++p) ++ [],⟨[]++p,[],trodAll_append (hargs _ (fun _ _=>rfl)) (hres _ _ _),hvars _,rfl,?_,?_⟩,?_⟩
  ·intro b off hp
   have hp':MemPlace.cell b off∈p:=by simpa using hp
   have := hfz b off (by simp[hp'])
   have hb:=hlt _ (List.mem_append_left [] hp')
   unfold World.frozen? at this ⊢
   rw [hold b hb];exact this
  ·intro ha;simpa using hnd ha
  ·intro x hx _;simpa using hx
def RdD (P:Program) (w:World) (t:TypeId) {α:Type} (f:α→PV) (q:α→(H:Type)→DataW H→Prop):Prop :=
 ∀ {H:Type} (enc:TypeId×Value→H) (bs:Nat) (spare:Nat→Bool) (held:Bool) (fuel:Nat) (cs:List Value) (x:DataW H×List MemPlace),DataW.trod enc P w bs spare held fuel t cs=some x →
  ∃ a,q a H x.1∧(f a).cells.length=cs.length∧(∀c∈(f a).cells,c.isCell=true)∧∀(j:Nat) (c:PV),(f a).cells[j]?=some c→VR (base (full w) w) (cs.getD j undef) c
theorem RdC.d {P:Program} {w:World} {t:TypeId} {α:Type} {f:α→PV} {q:α→Prop} (h:RdC P w t f q):RdD P w t f (fun a _ _=>q a):=h
theorem RdD.str {P:Program} {w:World} {t:TypeId} (ht:P.underlying t=some .string):RdD P w t PV.str (fun s H d=>d=.lit (.string s)):=by
 intro H enc bs spare held fuel cs x h
 cases fuel with
 | zero=>simp[DataW.trod]at h
 | succ n =>
  unfold DataW.trod at h
  rw [ht]at h
  match cs,h with
  | [.string s],h =>
   dsimp only at h
   split at h
   ·rename_i hs
    cases h
    refine ⟨s.data.toList,rfl,rfl,by simp[PV.cells,PV.isCell],fun j c hj=>?_⟩
    simp only[PV.cells]at hj
    cases j with
    | zero=>simp at hj;subst hj;exact .str _ _ rfl (by rw[Array.length_toList];exact hs)
    | succ j=>simp at hj
   ·cases h
  | [],h=>simp at h
  | _::_::_,h=>simp at h
theorem RdD.slice {P:Program} {w:World} {t e:TypeId} (ht:P.underlying t=some (.slice e)) {z:Nat} (hz:P.cellsOf e=z) (hz0:0<z) {α:Type} {f:α→PV} {q:α→(H:Type)→DataW H→Prop} (he:RdD P w e f q) :
  RdD P w t (fun l:List α=>.lits z (l.map f)) (fun l H d=>l = []∨∃ds sp,d=.slice ds sp∧ds.length=l.length∧∀i (h:i<l.length) (h':i<ds.length),q l[i] H ds[i]):=by
 intro H enc bs spare held fuel cs x h
 rcases DataW.trod_slice ht h with ⟨rfl,rfl⟩ | ⟨a,len,cap,elems,rest,n,_,rfl,rfl,hb,hl,hm,hlen,hel,hsp,hns⟩
 ·refine ⟨[],.inl rfl,by simp[PV.cells],by simp[PV.cells,PV.isCell],fun j c hj=>?_⟩
  simp only[PV.cells]at hj
  cases j with
  | zero=>simp at hj;subst hj;exact .lits0 _ _ _
  | succ j=>simp at hj
 ·obtain ⟨l,h1,h2⟩:=Gp (Q:=fun i v=>(∀h:i<elems.length,q v H elems[i].1)∧(f v).cells.length=z∧(∀c∈(f v).cells,c.isCell=true)∧∀j,j<z→∃u,w.cell? ((a.add (i*z)).add j)=some u∧∀c,(f v).cells[j]?=some c→VR (base (full w) w) u c) len (fun i hi=>by
   have h3:=hel i hi
   rw [hz]at h3
   have h4:elems[i]?=some (elems[i]'(by omega)):=List.getElem?_eq_getElem (by omega)
   rw [h4,Option.bind_eq_some_iff]at h3
   obtain ⟨cs,h5,h6⟩:=h3
   obtain ⟨v,hq,h7,h8,h9⟩:=he enc bs spare held n cs _ h6
   obtain ⟨_,h10,h11⟩:=World.cells?_some h5
   refine ⟨v,fun _=>hq,by omega,h8,fun j hj=>?_⟩
   refine ⟨cs[j]'(by omega),by rw[h11 j hj];exact List.getElem?_eq_getElem _,fun c hc=>?_⟩
   have := h9 j c hc
   rwa [List.getD_eq_getElem?_getD,List.getElem?_eq_getElem (by omega),Option.getD_some]at this)
  refine ⟨l,.inr ⟨_,_,rfl,by simp[h1,hlen],fun i hi hi'=>?_⟩,by simp[PV.cells],by simp[PV.cells,PV.isCell],fun j c hj=>?_⟩
  ·have :=(h2 i hi).1 (by omega)
   simpa using this
  simp only[PV.cells]at hj
  cases j with
  | succ j=>simp at hj
  | zero =>
   simp at hj;subst hj
   simp only[List.getD_cons_zero]
   cases len with
   | zero =>
    have : l = []:=List.eq_nil_of_length_eq_zero h1
    subst this
    exact .lits0 _ _ _
   | succ m =>
    obtain ⟨u,hu,_⟩:=(h2 0 (by omega)).2.2.2 0 hz0
    simp only[Nat.zero_mul,Addr.add,if_true]at hu
    obtain ⟨b,o,sp⟩:=a
    have hsp0:sp=none:=by
     cases sp with
     | none=>rfl
     | some s=>simp[World.cell?]at hu;split at hu <;> simp at hu
    subst hsp0
    have hlen':(l.map f).length=m+1:=by simp[h1]
    rw [←hlen']
    have hadd:∀i j,((Addr.mk b o none).add (i*z)).add j=⟨b,o+i*z+j,none⟩:=fun i j=>by
     unfold Addr.add
     split
     ·rename_i h3;split
      ·rename_i h4;simp[h3,h4]
      ·simp [h3]
     ·split
      ·rename_i h3 h4;rw[h4];rfl
      ·rfl
    refine .lits b o z cap (l.map f) (by omega) hm hz0 (fun v hv=>?_) (fun i j hi hj=>?_) (fun i j v c hv hc=>?_)
    ·obtain ⟨a',ha',rfl⟩:=List.mem_map.1 hv
     obtain ⟨i,hi,rfl⟩:=List.mem_iff_getElem.1 ha'
     exact ⟨(h2 i hi).2.1,(h2 i hi).2.2.1⟩
    ·have hi':i<l.length:=by simpa using hi
     obtain ⟨u,hu,_⟩:=(h2 i hi').2.2.2 j hj
     rw [hadd]at hu
     show (w.cell? ⟨b,o+i*z+j,none⟩).isSome=true
     rw [hu];rfl
    ·rw [List.getElem?_map,Option.map_eq_some_iff]at hv
     obtain ⟨a',ha',rfl⟩:=hv
     obtain ⟨hi,rfl⟩:=List.getElem?_eq_some_iff.1 ha'
     have hj:j<z:=by
      have :=(List.getElem?_eq_some_iff.1 hc).1
      have :=(h2 i hi).2.1
      omega
     obtain ⟨u,hu,hv⟩:=(h2 i hi).2.2.2 j hj
     rw [hadd]at hu
     show VR _ ((w.cell? ⟨b,o+i*z+j,none⟩).getD undef) c
     rw [hu];exact hv c hc
def Part (w:World) (cs:List Value) (o:Nat) (l:List PV):Prop:=(∀c∈l,c.isCell=true)∧∀(j:Nat) (c:PV),l[j]?=some c→VR (base (full w) w) (cs.getD (o+j) undef) c
section
variable {w:World} {cs:List Value} {o:Nat}
theorem Part.nil:Part w cs o []:=⟨by simp,by simp⟩
theorem Part.append {l m:List PV} (h:Part w cs o l) (g:Part w cs (o+l.length) m):Part w cs o (l++m):=by
 refine ⟨fun c hc=>?_,fun j c hj=>?_⟩
 ·rcases List.mem_append.1 hc with h1 | h1
  ·exact h.1 c h1
  ·exact g.1 c h1
 ·by_cases hl:j<l.length
  ·rw [List.getElem?_append_left hl]at hj;exact h.2 j c hj
  ·rw [List.getElem?_append_right (by omega)]at hj
   have := g.2 _ c hj
   rwa [show o+l.length+(j-l.length)=o+j by omega]at this
end
theorem RdD.part {P:Program} {w:World} {t:TypeId} {α:Type} {f:α→PV} {q:α→(H:Type)→DataW H→Prop} (h:RdD P w t f q) {H:Type} {enc:TypeId×Value→H} {bs:Nat} {spare:Nat→Bool} {held:Bool} {fuel:Nat} {cs:List Value} {o n:Nat} (ho:o+n≤cs.length) {x:DataW H×List MemPlace}
  (hx : DataW.trod enc P w bs spare held fuel t ((cs.drop o).take n)=some x):∃a,q a H x.1∧(f a).cells.length=n∧Part w cs o (f a).cells:=by
 obtain ⟨a,h1,h2,h3,h4⟩:=h enc bs spare held fuel _ x hx
 have hn:((cs.drop o).take n).length=n:=by simp;omega
 refine ⟨a,h1,by omega,h3,fun j c hj=>?_⟩
 have hjn:j<n:=by have:=(List.getElem?_eq_some_iff.1 hj).1;omega
 have := h4 j c hj
 rwa [List.getD_eq_getElem?_getD,List.getElem?_take_of_lt hjn,List.getElem?_drop,←List.getD_eq_getElem?_getD]at this
theorem Part.arg {w:World} {cs:Array Value} {l:List PV} (h:Part w cs.toList 0 l) (hn:cs.size=l.length):VR (base (full w) w) (.agg cs) (.agg l):=by
 refine .agg cs l hn h.1 fun i p hp=>?_
 have := h.2 i p hp
 rw [Nat.zero_add]at this
 simpa [Array.getD_eq_getD_getElem?,List.getD_eq_getElem?_getD]using this
end Sim
namespace Sim
open Go
def A9 (K:List Nat):Code→Code
 | .region id ops dr=>if K.contains id=true then .region id ops dr else .region id ops false
 | .seq a b=>.seq (A9 K a) (A9 K b)
 | .cond c a b=>.cond c (A9 K a) (A9 K b)
 | .block id c=>.block id (A9 K c)
 | .loop c=>.loop (A9 K c)
 | .scope c=>.scope (A9 K c)
 | c=>c
def CS (K:List Nat) (X:Cfg):Code→Bool
 | .region id ops dr=>K.contains id || !dr||Kb X ops
 | .seq a b=>CS K X a&&CS K X b
 | .cond _ a b=>CS K X a&&CS K X b
 | .block _ c=>CS K X c
 | .loop c=>CS K X c
 | .scope c=>CS K X c
 | _=>true
theorem Vb {K:List Nat} {G:WP} (hG:G.Mono) {X:Cfg} (hm:Bl X) {N:Nat} {c:Code}:∀ {Q:IExit→IState→Prop} {s:IState},CS K X c=true→wpC G X N (A9 K c) Q s→wpC G X N c Q s:=by
 induction c with
 | skip=>intro Q s hd hs;exact hs
 | region id ops dr =>
  intro Q s hd hs
  simp only[A9]at hs
  split at hs
  ·exact hs
  ·rename_i hk
   rcases hs with hs | hs
   ·refine .inl ⟨fun h=>?_,hs.2⟩
    subst h
    simp only[CS,Bool.or_eq_true]at hd
    rcases hd with (h | h) | h
    ·exact absurd h hk
    ·cases h
    ·exact h
   ·cases hs.1
 | seq a b iha ihb =>
  intro Q s hd hs
  simp only[CS,Bool.and_eq_true]at hd
  refine iha hd.1 (CR hG X N _ _ _ _ hm (fun e s' he=>?_) hs)
  cases e with
  | normal=>exact ihb hd.2 he
  | exit i=>exact he
  | ret=>exact he
 | cond c a b iha ihb =>
  intro Q s hd hs
  simp only[CS,Bool.and_eq_true]at hd
  simp only[A9,wpC]at hs ⊢
  split at hs
  ·exact ⟨fun hv=>iha hd.1 (hs.1 hv),fun hv=>ihb hd.2 (hs.2 hv)⟩
  ·exact hs.elim
 | block id c ih=>intro Q s hd hs;exact ih hd hs
 | loop c ih =>
  intro Q s hd hs
  obtain ⟨J,n,h0,hr⟩:=hs
  exact ⟨J,n,h0,fun m s' hs'=>ih hd (hr m s' hs')⟩
 | exit id=>intro Q s hd hs;exact hs
 | ret=>intro Q s hd hs;exact hs
 | rangeFunc=>intro Q s hd hs;exact hs
 | scope c ih=>intro Q s hd hs;exact ih hd hs
 | label=>intro Q s hd hs;exact hs
 | goto=>intro Q s hd hs;exact hs
 | refuse=>intro Q s hd hs;exact hs
theorem qM {a i:Nat} : [a].contains i=(i==a):=by
 rw [List.contains_cons]
 simp
section
variable {X:Cfg} {N:Nat} {Q:IExit→IState→Prop} {ks:List Kf} {s:IState} {K:List Nat}
theorem A5:run X N Q (A9 K .skip) ks s=Hi X N Q ks s:=nrfl rfl
theorem AO {a b:Code}:run X N Q (A9 K (.seq a b)) ks s=run X N Q (A9 K a) (.seq (A9 K b)::ks) s:=RI
theorem AH {id:Nat} {c:Code}:run X N Q (A9 K (.block id c)) ks s=run X N Q (A9 K c) (.blk id::ks) s:=Ma
theorem K7 {c:Code}:run X N Q (A9 K (.scope c)) ks s=run X N Q (A9 K c) ks s:=bG
theorem Vc {l:Nat}:run X N Q (A9 K (.label l)) ks s=Hi X N Q ks s:=bH
theorem Cd {id:Nat}:run X N Q (A9 K (.exit id)) ks s=H9 X N Q ks id s:=nrfl rfl
theorem En:run X N Q (A9 K .ret) ks s=done X N Q ks s:=nrfl rfl
theorem Ar {id:Nat} {l:List Oper} {dr:Bool} (h:K.contains id=false):run X N Q (A9 K (.region id l.toArray dr)) ks s=ops X N Q l.toArray l ks s:=by
 simp only[A9,h,Bool.false_eq_true,if_false]
 exact Kd
theorem AG {c:Operand} {a b:Code}:run X N Q (A9 K (.cond c a b)) ks s=Ia (AA s.env c) (run X N Q (A9 K a) ks s) (run X N Q (A9 K b) ks s):=Ol
theorem Vd {g:Operand} {ps:Array Tmp} {a b:Code}:run X N Q (A9 K (.rangeFunc g ps a b)) ks s=run X N Q (.rangeFunc g ps a b) ks s:=nrfl rfl
section
variable {id:Nat} {l:List Oper}
theorem X0 (a b:Nat) (h:K.contains id=true) (hd:Nu X l.toArray a b=true) (h1:ops X N Q l.toArray l ks s) (h2:ops X N Q l.toArray (atO l.toArray (P3 l.length a b)) ks s):run X N Q (A9 K (.region id l.toArray true)) ks s:=by
 simp only[A9,h,if_true]
 exact Ok a b hd h1 h2
theorem YZ (t:Tree) (h:K.contains id=true) (hd:Kc X l.toArray t=true) (h1:∀r∈t.orders,ops X N Q l.toArray (atO l.toArray r) ks s):run X N Q (A9 K (.region id l.toArray true)) ks s:=by
 simp only[A9,h,if_true]
 exact Ib t hd h1
end
end
theorem OF {P:Program} (K:List Nat) (hmix:P.follows .mixedOrders=true) {l:AW} (hl:Bv P l) (muts:List Nat) (frz:List Nat) (n dep:Nat) {f:FuncId} {fn:Func} {c:Code} (hf:P.funcs[f]?=some fn) (hb:fn.body=some c)
  (hname : (fn.name == "runtime.NumGoroutine") = false) {args : List PV} {N : Nat} (hN : fn.ntmps = N) (hn : args.length ≤ N) {rs : List ResultVar} (hrs : fn.results.toList = rs) (hd : CS K (cfg P l muts frz dep) c = true) {r : PV}
  (h : AK args→run (cfg P l muts frz dep) N (Ao P rs (fun p st=>DR st p r)) (A9 K c) [] ⟨GK args,⟨fun i=>if i<n then some (.arr 0 1 [])else none,n⟩⟩):VC P f args r :=
 WQ hmix hl muts frz hf hb hname hN hn hrs n (dep:=dep) fun hs=>Vb (EF _) (A7 rfl) hd (h hs)
def evR (P:Program) (fuel:Nat) (mu fr:List Nat) (n:Nat) (f:FuncId) (args:List PV):Option PV :=
 match P.funcs[f]? with
 | none=>none
 | some fn=>match fn.body with
  | none=>none
  | some c =>
   if (fn.name == "runtime.NumGoroutine") = false ∧ args.length ≤ fn.ntmps ∧ Bs (cfg P [] mu fr) c = true then
    match ev (cfg P [] mu fr) fn.ntmps fuel c ⟨GK args,stR n⟩with
    | some (.ret,s)=>(RS P fn.results.toList s).bind fun p=>rdF s.st p
    | some (.normal,s)=>(RS P fn.results.toList s).bind fun p=>rdF s.st p
    | _=>none
   else none
theorem Ml {P:Program} (hmix:P.follows .mixedOrders=true) {fuel:Nat} {mu fr:List Nat} {n:Nat} {f:FuncId} {args:List PV} {q:PV} (h:evR P fuel mu fr n f args=some q):VC P f args q:=by
 unfold evR at h
 split at h
 ·cases h
 ·rename_i fn hf
  split at h
  ·cases h
  ·rename_i c hb
   split at h
   ·rename_i hc
    obtain ⟨hname,hn,hd⟩:=hc
    refine WQ (dep:=0) hmix (l := []) Au mu fr hf hb hname rfl hn rfl n fun _=>?_
    refine Dc (A7 rfl) hd ?_
    split at h
    ·rename_i s hs
     simp only[Option.bind_eq_some_iff]at h
     obtain ⟨p,hp,hq⟩:=h
     exact Va rfl _ _ _ _ _ hs _ ⟨p,hp,qL hq⟩
    ·rename_i s hs
     simp only[Option.bind_eq_some_iff]at h
     obtain ⟨p,hp,hq⟩:=h
     exact Va rfl _ _ _ _ _ hs _ ⟨p,hp,qL hq⟩
    ·cases h
   ·cases h
end Sim
namespace Sim
open Go Go.Proofs Go.Shelf Go.RowKit Go.Lib Go.Sort
variable {P:Program} {ρ:Ren} {α:Type} [Inhabited α]
def toV:PV→Value
 | .int k n=>.int k n
 | .bool b=>.bool b
 | _=>undef
def Hv:PV→Bool
 | .int _ _ | .bool _=>true
 | _=>false
theorem Ahj {C:Ctx} {p:PV} (h:Hv p=true):VR C (toV p) p:=by
 cases p <;> simp[Hv]at h
 ·exact .bool _
 ·exact .int _ _
theorem Ahk {C:Ctx} {v:Value} {p:PV} (h:Hv p=true) (hv:VR C v p):v=toV p:=by
 cases p <;> simp[Hv]at h
 ·cases hv;rfl
 ·cases hv;rfl
theorem So {p:PV} (h:Hv p=true):p.isCell=true:=by
 cases p <;> simp[Hv]at h <;> rfl
theorem X1 {p:PV} (h:Hv p=true):p.scal1=true:=by
 cases p <;> simp[Hv]at h <;> rfl
theorem Ve {z i j:Nat} (h:j<z):(i*z+j) / z=i∧(i*z+j) % z=j:=by
 have hz:0<z:=by omega
 rw [Nat.mul_comm,Nat.mul_add_div hz,Nat.div_eq_of_lt h,Nat.mul_add_mod,Nat.mod_eq_of_lt h]
 exact ⟨by omega,rfl⟩
theorem Y0 {z i j n:Nat} (hi:i<n) (h:j<z):i*z+j<n*z:=by
 have := Nat.mul_le_mul_right z (show i+1≤n by omega)
 rw [Nat.add_mul]at this;omega
theorem Aa3 {f:FuncId} {z:Nat} (hz:0<z) (enc:α→List PV) (hk:∀x,(enc x).length=z) (hp:∀x,∀c∈enc x,Hv c=true) (cf:α→α→Int) (g:Nat)
  (htot : ∀(blk off cap:Nat) (d:Array α) (w:World),HoldsK (fun x=>(enc x).map toV) z w blk off d→blk<w.heap.size→d.size<4611686018427387904 →
   Calls P f #[.slice (some ⟨blk,off,none⟩) d.size cap,.func (.func g) #[] #[]] w fun e w'=>e=.returned (.tuple #[])∧∃n os,w'=sortWorldK (fun x=>(enc x).map toV) z w blk off n (d.toList.mergeSort fun x y => !(ltOf cf) y x).toArray os)
  (d : List α) (hsz:d.length<4611686018427387904) :
  VCS P f g z (d.map fun x=>.agg (enc x)) ((d.mergeSort fun x y => !(ltOf cf) y x).map fun x=>.agg (enc x)):=by
 have hk':∀x,((enc x).map toV).length=z:=fun x=>by rw[List.length_map,hk]
 refine ⟨by simp,fun e he=>?_,fun w blk off cap cs T hb hn hfit hc=>?_⟩
 ·obtain ⟨x,_,rfl⟩:=List.mem_map.1 he
  exact List.all_eq_true.2 fun c hcm=>X1 (hp x c hcm)
 ·rw [List.length_map]at hn hfit ⊢
  have hlt:blk<w.heap.size:=(Array.getElem?_eq_some_iff.1 hb).1
  have flat:∀(l:List α) (i j:Nat) (c:PV),j<z→∀hi:i<l.length,(enc l[i])[j]?=some c→(flatK (fun x=>(enc x).map toV) z l.toArray)[i*z+j]! = toV c:=by
   intro l i j c hj hi hcj
   rw [get_flatK _ _ _ _ (by simpa using Y0 hi hj),(Ve hj).1,(Ve hj).2]
   have h1:l.toArray[i]! = l[i]:=by rw[getElem!_pos _ _ (by simpa using hi)];simp
   rw [h1]
   have h2:=(List.getElem?_eq_some_iff.1 hcj)
   obtain ⟨h2,rfl⟩:=h2
   simp [h2]
  have hH:HoldsK (fun x=>(enc x).map toV) z w blk off d.toArray:=by
   intro t ht
   rw [size_flatK]at ht
   have ht:t<d.length*z:=by simpa using ht
   have hi:t / z<d.length:=Nat.div_lt_of_lt_mul (by rw[Nat.mul_comm];exact ht)
   have hj:t % z<z:=Nat.mod_lt _ hz
   have htd:t / z*z+t % z=t:=by rw[Nat.mul_comm];exact Nat.div_add_mod t z
   have hcj:(enc d[t / z])[t % z]?=some ((enc d[t / z])[t % z]'(by rw[hk];exact hj)):=List.getElem?_eq_getElem _
   obtain ⟨c1,c2,c3⟩:=hc (t / z) (.agg (enc d[t / z])) (by rw[List.getElem?_map,List.getElem?_eq_getElem hi];rfl) ⟨fun _ _=>none,fun _=>none,fun _=>False,0,fun _=>none,w.os,#[],fun _=>false,fun _=>false⟩
   have h3:=Ahk (hp _ _ (List.getElem_mem _)) (c3 (t % z) _ hcj)
   rw [Nat.add_assoc,htd]at h3
   have hcs:off+t<cs.size:=by omega
   refine ⟨?_,by simp[World.frozen?,hb]⟩
   have := flat d (t / z) (t % z) _ hj hi hcj
   rw [htd]at this
   simp only[id_eq]
   rw [this,←h3]
   simp [World.cell?,hb,Array.getD_eq_getD_getElem?,hcs]
  refine (htot blk off cap d.toArray w hH hlt (by simpa using hsz)).mono ?_
  ·rintro e w' ⟨he,n,os,rfl⟩
   generalize hd':(d.mergeSort fun x y => !(ltOf cf) y x)=d' at *
   have hl':d'.length=d.length:=by rw[←hd'];simp
   refine ⟨he,⟨rfl,rfl⟩,?_,fun b hb' hne=>?_,putCells id off (flatK (fun x=>(enc x).map toV) z d'.toArray) cs,?_,by simp[putCells],fun i e hi C=>?_⟩
   ·simp [sortWorldK,putRowK,putRow,mapBlock,Sort.ahead,grow]
   ·simp only[sortWorldK,putRowK,putRow,mapBlock,Sort.ahead,grow]
    rw [Array.getElem?_append_left (by simpa using hb'),Array.getElem?_modify,if_neg (Ne.symm hne)]
   ·simp only[sortWorldK,putRowK,putRow,mapBlock,Sort.ahead,grow,Array.getElem?_append,Array.size_modify,hlt,if_true,Array.getElem?_modify,hb,Option.map_some,onCells]
   ·rw [List.getElem?_map,Option.map_eq_some_iff]at hi
    obtain ⟨x,hx,rfl⟩:=hi
    obtain ⟨hi,rfl⟩:=List.getElem?_eq_some_iff.1 hx
    refine ⟨hk _,fun c hcm=>So (hp _ c hcm),fun j c hj=>?_⟩
    have hjz:j<z:=by have:=(List.getElem?_eq_some_iff.1 hj).1;simpa [PV.cells,hk]using this
    have hf:=flat d' i j c hjz hi hj
    have hlt2:=Y0 (n:=d'.length) hi hjz
    rw [hl']at hlt2
    have hcs:off+i*z+j<cs.size:=by generalize i*z=q at *;generalize d.length*z=q2 at *;omega
    have hsz2:i*z+j<d'.length*z:=by rw[hl'];exact hlt2
    have hv:(putCells id off (flatK (fun x=>(enc x).map toV) z d'.toArray) cs).getD (off+i*z+j) undef=toV c:=by
     rw [←hf]
     simp only[putCells,Array.getD_eq_getD_getElem?,Array.getElem?_mapIdx,size_flatK,List.size_toArray]
     rw [Array.getElem?_eq_getElem hcs,Option.map_some,Option.getD_some,if_pos ⟨by omega,by omega⟩]
     rw [show off+i*z+j-off=i*z+j by omega];rfl
    rw [hv]
    exact Ahj (hp _ c (List.mem_of_getElem? hj))
end Sim
namespace Sim
open Go
def bdD:=(aI (aI (aI (aI (aI (aI @Aae @Ahd) (aI @oY (aI @Aaf @Ahe))) (aI (aI @fI (aI @Aag
 @kJ)) (aI @kK (aI @xI @Ol)))) (aI (aI (aI @kM @kN) (aI @kO (aI @xJ @bJ))) (aI (And.intro
 @bK (aI @kP @kQ)) (aI @kR (aI @kT @xK))))) (aI (aI (aI (aI @RI @Kd) (aI @Ma (And.intro
 @gH @fX))) (aI (aI @XO (aI @gQ @XX)) (aI @gR (aI @XU @U6)))) (aI (aI (And.intro
 @fY (aI @Kh @xL)) (aI @kG (aI @Agf @Uu))) (aI (aI @Ja (aI @Agk @Agl)) (aI @yP (aI @Agm
 @yQ)))))) (aI (aI (aI (aI (aI @yR @yS) (aI @yT (aI @Agn @yU))) (aI (aI @dC (aI @nK
 @Xf)) (aI @Xg (aI @Xh @UE)))) (aI (aI (aI @nL (aI @dD @yX)) (aI @dE (And.intro
 @Oy @nP))) (aI (aI @dF (aI @R4 @dM)) (aI @nQ (aI @UF @R5))))) (aI (aI (And.intro
 (aI @P9 @dN) (aI @Qa (aI @dW @Qb))) (aI (aI @dX (aI @UH @Mg)) (aI @dY
 (aI @dV @UV)))) (aI (aI (aI @Se (aI @XI @Qe)) (aI @Sf (aI @OB @XJ)))
 (aI (aI @fO (aI @fP @nR)) (aI @zB (aI @nN @yZ)))))))
def bdP:=(aI (aI (aI (aI (aI (aI (aI (aI (aI @oZ @Nat.one_ne_zero) (aI @qK @Aay)) (aI (And.intro
 @gI @Aaz) (aI @pS @Ahh))) (aI (aI (aI @pT @Qi) (aI @gJ @Aa0)) (aI (aI @pU @U2)
 (aI @pV @pW)))) (aI (aI (aI (aI @pX @gL) (aI @pY @pZ)) (aI (aI @XQ @gE) (And.intro
 @gF @pQ))) (aI (aI (aI @gG @pR) (aI @Ahg @Aaw)) (aI (aI @Aax @Aa1) (aI @XR @Mj)))))
 (aI (aI (aI (aI (aI @U3 @XS) (aI @Si @qA)) (aI (aI @Sj @qB) (aI @Sk
 @qC))) (aI (aI (aI @gM @Sl) (aI @U4 @Qj)) (aI (aI @qD @qE) (aI @Qk @XT))))
 (aI (aI (aI (aI @qF @qG) (aI @qH @qI)) (aI (aI @qJ @U5) (aI @Ahi @Wt))) (And.intro
 (aI (aI @Wu @kU) (aI @bL @Agg)) (aI (aI @xM @Ws) (aI @T5 (aI @T4 @bB))))))) (And.intro
 (aI (aI (aI (aI (aI @bC @bE) (aI @bF @Option.map_some.{0,0})) (aI (aI @Option.map_none.{0,0} @Option.bind_some.{0,0})
 (aI @Option.bind_none.{0,0} @Option.getD_some.{0}))) (aI (aI (aI @Option.getD_none.{0} @Bool.false_eq_true) (aI @true_and @and_true)) (aI (And.intro
 @List.getD_cons_zero.{0} @List.getD_cons_succ.{0}) (aI @List.getElem?_toArray.{0} @List.getElem?_cons_zero.{0})))) (aI (aI (aI (aI @List.getElem?_cons_succ.{0}
 @decide_eq_true_eq) (aI @decide_eq_false_iff_not @true_implies)) (aI (aI @forall_const.{1} @forall_const.{0}) (aI @yA @Akz))) (aI (aI (And.intro
 @xV @lS) (aI @xX @xW)) (aI (aI @cC @lW) (aI @List.map_cons.{0,0} (aI @List.map_nil.{0,0} @List.length_map.{0,0})))))) (And.intro
 (aI (aI (aI (aI @cE @Uv) (aI @WU @List.contains_cons.{0})) (aI (aI @List.contains_nil.{0} @Bool.or_false) (And.intro
 @Bool.or_true @Bool.false_or))) (aI (aI (aI @Bool.true_or @Int.natCast_nonneg) (aI @Int.ofNat_lt @Int.toNat_natCast)) (aI (aI @xY @xZ) (And.intro
 @decide_true @decide_false)))) (aI (aI (aI (aI @Option.some.injEq.{0} @exists_eq_left'.{1}) (aI @PV.int.injEq @PV.bool.injEq)) (aI (aI @PV.str.injEq
 @PV.lits.injEq) (aI @PV.tuple.injEq @PV.agg.injEq))) (aI (aI (aI @List.cons.injEq.{0} @List.lookup_cons.{0,0}) (aI @List.lookup_nil.{0,0} @WR)) (And.intro
 (aI @Ak0 @Ak1) (aI @Ak2 (aI @Ak5 @Ak3)))))))) (aI (aI (aI (aI (aI (aI (aI @Ak4 @cD) (aI @WS
 @GO)) (aI (aI @lX @Bool.and_true) (aI @Bool.and_self @Bool.true_and))) (aI (aI (aI @List.cons_append.{0} @List.nil_append.{0}) (And.intro
 @List.append_nil.{0} @Agj)) (aI (aI @QL @RZ) (aI @List.length_append.{0} @List.length_cons.{0})))) (aI (aI (aI (And.intro
 @List.length_nil.{0} @Nat.zero_add) (aI @Nat.add_zero @List.drop_zero.{0})) (aI (aI @List.take_length.{0} @List.take_zero.{0}) (aI @Nat.not_succ_le_self
 @List.replicate_succ.{0}))) (aI (aI (aI @List.replicate_zero.{0} @List.length_replicate.{0}) (aI @List.set_cons_zero.{0} @List.set_cons_succ.{0})) (aI (And.intro
 @lY @lZ) (aI @Prod.mk.injEq.{0,0} (aI @IObj.arr.injEq @Nat.lt_irrefl)))))) (aI (aI (aI (aI (aI @Nat.lt_succ_self @Bool.not_true)
 (aI @Bool.not_false @not_true_eq_false)) (aI (aI @not_false_eq_true @false_implies) (aI @RY @or_false))) (aI (aI (aI @or_true @Nat.le_refl)
 (aI @Classical.not_not @WV)) (aI (aI @WW @cF) (aI @mD @mE)))) (aI (aI (aI (aI @mF @Uw)
 (aI @cG @cI)) (aI (aI @mG @Fk) (aI @yB @yC))) (aI (aI (aI @WX @cJ) (aI @cK
 @mH)) (aI (aI @yD @yE) (aI @yF (aI @WY @WZ))))))) (aI (aI (aI (aI (aI (aI @W0
 @cM) (aI @mI @mJ)) (aI (aI @mK @cN) (aI @W1 @Ux))) (aI (aI (aI @mL @mM) (And.intro
 @W3 @W4)) (aI (aI @cO @mN) (aI @mO @mP)))) (aI (aI (aI (aI @Uy @W5) (aI @W6
 @cP)) (aI (aI @K4 @mQ) (aI @mR @Uz))) (aI (aI (aI @cQ @yG) (aI @cR @yH)) (And.intro
 (aI @yJ @W7) (aI @UA (aI @mS @mT)))))) (aI (aI (aI (aI (aI @W8 @W9) (aI @cT
 @mU)) (aI (aI @mV @mW) (aI @UB @UC))) (aI (aI (aI @Xa @Xb) (aI @cU @mZ)) (And.intro
 (aI @nA @nB) (aI @UD @cV)))) (aI (aI (aI (aI @nC @Hp) (aI @yK @Xc)) (aI (And.intro
 @cW @Xd) (aI @XV @XW))) (aI (aI (aI @U7 @U8) (aI @Ql @Qm)) (aI (aI @Xe
 @cX) (aI @nD (aI @nE @nF))))))))) (aI (aI (aI (aI (aI (aI (aI (aI @yL @nG) (And.intro
 @yM @P5)) (aI (aI @P6 @nH) (aI @yN @yO))) (aI (aI (aI @cZ @dB) (aI @nI @Ago))
 (aI (aI @yV @yW) (aI @Agp @nJ)))) (aI (aI (aI (aI @Xi @dK) (aI @nS @nT)) (aI (And.intro
 @zC @Xj) (aI @zD @zE))) (aI (aI (aI @zF @zG) (aI @nY @nZ)) (aI (aI @oA @Xn) (And.intro
 @Xm @K5))))) (aI (aI (aI (aI (aI @Oz @nX) (aI @nV @dG)) (aI (aI @dJ @dH)
 (aI @Xk @Xl))) (aI (aI (aI @dO @dQ) (aI @dR @dU)) (aI (aI @List.all_cons.{0} @List.all_nil.{0})
 (aI @nW @UI)))) (aI (aI (aI (aI @Xo @Agw) (aI @eC @fR)) (aI (aI @fS @zK) (And.intro
 @fV @fW))) (aI (aI (aI @XL @XM) (aI @UW @Sg)) (aI (aI @Qh @Aav) (aI @UZ
 (aI @UX @UY))))))) (aI (aI (aI (aI (aI (aI @Qf @Qg) (aI @pO @pP)) (aI (And.intro
 @fQ @fT) (aI @fU @XK))) (aI (aI (aI @eD @R6) (aI @P7 @P8)) (aI (aI @Agr
 @Agx) (aI @Agy @zL)))) (aI (aI (aI (aI @eG @oC) (aI @oD @eH)) (aI (aI @eJ @Agz) (And.intro
 @zN @zO))) (aI (aI (aI @oE @oF) (aI @zP @oG)) (aI (aI @oI @zQ) (aI @oJ (aI @oK
 @eM)))))) (aI (aI (aI (aI (aI @eN @oM) (aI @zR @zS)) (aI (aI @Xp @eQ) (aI @R7
 @R8))) (aI (aI (aI @Qc @Qd) (aI @R9 @Xq)) (aI (aI @UJ @Xr) (aI @UK
 @Xs)))) (aI (aI (aI (aI @UL @Xt) (aI @Xu @Xv)) (aI (aI @eR @eS) (aI @oN
 @oO))) (aI (aI (aI @UM @UN) (aI @Xw @Xx)) (aI (aI @UO @UP) (aI @Xy (And.intro
 @Xz @UQ)))))))) (aI (aI (aI (aI (aI (aI (aI @oP @Sa) (aI @UR @Alc)) (aI (aI @Ald
 @Ale) (aI @Alf @Alg))) (aI (aI (aI @Alh @Am5) (aI @Ali @oQ)) (aI (aI @Alj @Alk) (aI @All @Alm)))) (And.intro
 (aI (aI (aI @Aln @Alo) (aI @Alp @Alq)) (aI (aI @Ag2 @Ag3) (aI @Ag4 @Ag5))) (aI (aI (aI @Ag6 @Ag7)
 (aI @Ag8 @Alr)) (aI (aI @Als @Ahb) (aI @Ahc (aI @oR @eV)))))) (aI (aI (aI (aI (aI @XA
 @eW) (aI @eY @eZ)) (aI (aI @zU @oT) (aI @fA @zV))) (aI (aI (aI @zW @zX) (aI @zY
 @US)) (aI (aI @Sb @UT) (aI @Sc @Aab)))) (aI (aI (aI (aI @Aaa @zZ) (aI @oV @oW))
 (aI (aI @fB @XB) (aI @fC @fD))) (aI (aI (aI @fE @fF) (aI @XC @XD)) (aI (And.intro
 @XE @fG) (aI @XF (aI @fH @oX))))))) (aI (aI (aI (aI (aI (aI @Aac @Aad) (aI @CO
 @Em)) (aI (aI @Int.natCast_eq_zero @Ag1) (aI @eO @oB))) (aI (aI (aI @zJ @yY) (aI @zA @beq_eq_false_iff_ne.{0}))
 (aI (aI @ne_eq.{1} @Aah) (aI @fJ @Int.natCast_inj)))) (aI (aI (aI (aI @List.take_succ_cons.{0} @List.drop_succ_cons.{0}) (And.intro
 @List.drop_nil.{0} @List.take_nil.{0})) (aI (aI @fK @fL) (aI @Aai @Aaj))) (aI (aI (aI @Aak @implies_true.{1}) (And.intro
 @implies_true.{0} @Int.natCast_zero)) (aI (aI @pA @fM) (aI @UU (aI @Sd @XH)))))) (aI (aI (aI (And.intro
 (aI @fN @Aal) (aI @Aam @pB)) (aI (aI @Aan @pC) (aI @pE @Aao))) (aI (aI (aI @pF @Aap)
 (aI @Aaq @Aar)) (aI (aI @pG @Aas) (aI @pI @pJ)))) (aI (aI (aI (aI @Int.le_refl @Int.natCast_pos) (And.intro
 @beq_self_eq_true.{0} @beq_iff_eq.{0})) (aI (aI @Ags @zI) (aI @zH @false_and))) (aI (aI (aI @and_false @Bool.true_eq_false) (And.intro
 @pK @pM)) (aI (aI @pN @Aat) (aI @Ahf (aI @Nat.min_def @Int.cast_ofNat_Int))))))))))
end Sim
namespace Sim
open Go Go.Proofs
theorem ty3:Tryz.prog.cellsOf 3=1∧Ae Tryz.prog 3=0∧AR Tryz.prog 3=false∧AV Tryz.prog 3=none∧Gg Tryz.prog 3=some .i64∧Bu Tryz.prog 3=some (1,false)∧Az Tryz.prog 3=.int .i64 0∧Bp Tryz.prog 3 = []:=by
 refine ⟨?_,?_,?_,?_,?_,?_,?_,?_⟩ <;> kernel_rfl
theorem ty4:Tryz.prog.cellsOf 4=1∧Ae Tryz.prog 4=0∧AR Tryz.prog 4=false∧AV Tryz.prog 4=none∧Ir Tryz.prog 4=true∧Bu Tryz.prog 4=some (1,false)∧Az Tryz.prog 4=.bool false∧Bp Tryz.prog 4 = []:=by
 refine ⟨?_,?_,?_,?_,?_,?_,?_,?_⟩ <;> kernel_rfl
theorem Ahl:Tryz.prog.cellsOf 20=1∧Ae Tryz.prog 20=0∧AR Tryz.prog 20=false∧AV Tryz.prog 20=none∧Bu Tryz.prog 20=some (1,false)∧Az Tryz.prog 20=.nili∧Bp Tryz.prog 20 = []:=by
 refine ⟨?_,?_,?_,?_,?_,?_,?_⟩ <;> kernel_rfl
theorem BP:Tryz.prog.cellsOf 22=1∧Ae Tryz.prog 22=50∧BO Tryz.prog 22=83∧AR Tryz.prog 22=false∧AV Tryz.prog 22=none∧Bu Tryz.prog 22=some (1,false)∧Az Tryz.prog 22=.nils∧Bp Tryz.prog 22 = [(0,50)]:=by
 refine ⟨?_,?_,?_,?_,?_,?_,?_,?_⟩ <;> kernel_rfl
theorem AI:Tryz.prog.cellsOf 24=2∧Ae Tryz.prog 24=0∧AR Tryz.prog 24=false∧AV Tryz.prog 24=none∧Bu Tryz.prog 24=some (2,true)∧Az Tryz.prog 24=.agg [.int .i64 0,.nils]∧A2 Tryz.prog 24 0=some (0,1,3)∧A2 Tryz.prog 24 1=some (1,1,22)∧Bz Tryz.prog 24=none∧B0 Tryz.prog 24=true∧Bp Tryz.prog 24 = [(1,50)]:=by
 refine ⟨?_,?_,?_,?_,?_,?_,?_,?_,?_,?_,?_⟩ <;> kernel_rfl
theorem AN:Tryz.prog.cellsOf 25=1∧Ae Tryz.prog 25=3∧BO Tryz.prog 25=55∧AR Tryz.prog 25=false∧AV Tryz.prog 25=none∧Bu Tryz.prog 25=some (1,false)∧Az Tryz.prog 25=.nils∧Bp Tryz.prog 25 = [(0,3)]:=by
 refine ⟨?_,?_,?_,?_,?_,?_,?_,?_⟩ <;> kernel_rfl
theorem BR:Tryz.prog.cellsOf 26=1∧Ae Tryz.prog 26=7∧BO Tryz.prog 26=48∧AR Tryz.prog 26=false∧AV Tryz.prog 26=none∧Bu Tryz.prog 26=some (1,false)∧Az Tryz.prog 26=.nils∧Bp Tryz.prog 26 = [(0,7)]:=by
 refine ⟨?_,?_,?_,?_,?_,?_,?_,?_⟩ <;> kernel_rfl
theorem AX:Tryz.prog.cellsOf 28=5∧Ae Tryz.prog 28=0∧AR Tryz.prog 28=false∧AV Tryz.prog 28=none∧Bu Tryz.prog 28=some (5,true)∧Az Tryz.prog 28=.agg [.int .i64 0,.int .i64 0,.int .i64 0,.int .i64 0,.int .i64 0]∧A2 Tryz.prog 28 0=some (0,1,3)∧A2 Tryz.prog 28 1=some (1,1,3)∧A2 Tryz.prog 28 2=some (2,1,3)∧A2 Tryz.prog 28 3=some (3,1,3)∧A2 Tryz.prog 28 4=some (4,1,3)∧Bz Tryz.prog 28=none∧B0 Tryz.prog 28=true∧Bp Tryz.prog 28 = []:=by
 refine ⟨?_,?_,?_,?_,?_,?_,?_,?_,?_,?_,?_,?_,?_,?_⟩ <;> kernel_rfl
theorem Be:Tryz.prog.cellsOf 30=9∧Ae Tryz.prog 30=0∧AR Tryz.prog 30=false∧AV Tryz.prog 30=none∧Bu Tryz.prog 30=some (9,true)∧Az Tryz.prog 30=.agg [.int .i64 0,.nils,.nils,.nils,.int .i64 0,.int .i64 0,.int .i64 0,.int .i64 0,.int .i64 0]∧A2 Tryz.prog 30 0=some (0,2,24)∧A2 Tryz.prog 30 1=some (2,1,25)∧A2 Tryz.prog 30 2=some (3,1,26)∧A2 Tryz.prog 30 3=some (4,5,28)∧Bz Tryz.prog 30=none∧B0 Tryz.prog 30=true∧Bp Tryz.prog 30 = [(1,50),(2,3),(3,7)]:=by
 refine ⟨?_,?_,?_,?_,?_,?_,?_,?_,?_,?_,?_,?_,?_⟩ <;> kernel_rfl
theorem AS:Tryz.prog.cellsOf 33=1∧Ae Tryz.prog 33=1∧BO Tryz.prog 33=3∧AR Tryz.prog 33=false∧AV Tryz.prog 33=none∧Bu Tryz.prog 33=some (1,false)∧Az Tryz.prog 33=.nils∧Bp Tryz.prog 33 = [(0,1)]:=by
 refine ⟨?_,?_,?_,?_,?_,?_,?_,?_⟩ <;> kernel_rfl
theorem B3:Tryz.prog.cellsOf 35=2∧Ae Tryz.prog 35=0∧AR Tryz.prog 35=false∧AV Tryz.prog 35=none∧Bu Tryz.prog 35=some (2,true)∧Az Tryz.prog 35=.agg [.nils,.nils]∧A2 Tryz.prog 35 0=some (0,1,25)∧A2 Tryz.prog 35 1=some (1,1,33)∧Bz Tryz.prog 35=none∧B0 Tryz.prog 35=true∧Bp Tryz.prog 35 = [(0,3),(1,1)]:=by
 refine ⟨?_,?_,?_,?_,?_,?_,?_,?_,?_,?_,?_⟩ <;> kernel_rfl
theorem Am6:Tryz.prog.cellsOf 36=1∧Ae Tryz.prog 36=0∧AR Tryz.prog 36=false∧AV Tryz.prog 36=none∧Gg Tryz.prog 36=some .i64∧Bu Tryz.prog 36=some (1,false)∧Az Tryz.prog 36=.int .i64 0∧Bp Tryz.prog 36 = []:=by
 refine ⟨?_,?_,?_,?_,?_,?_,?_,?_⟩ <;> kernel_rfl
theorem C6:Tryz.prog.cellsOf 48=7∧Ae Tryz.prog 48=0∧AR Tryz.prog 48=false∧AV Tryz.prog 48=none∧Bu Tryz.prog 48=some (7,true)∧Az Tryz.prog 48=.agg [.int .i64 0,.int .i64 0,.int .i64 0,.int .i64 0,.int .i64 0,.int .i64 0,.int .i64 0]∧A2 Tryz.prog 48 0=some (0,1,3)∧A2 Tryz.prog 48 1=some (1,1,3)∧A2 Tryz.prog 48 2=some (2,1,3)∧A2 Tryz.prog 48 3=some (3,1,3)∧A2 Tryz.prog 48 4=some (4,1,3)∧A2 Tryz.prog 48 5=some (5,1,3)∧A2 Tryz.prog 48 6=some (6,1,3)∧Bz Tryz.prog 48=none∧B0 Tryz.prog 48=true∧Bp Tryz.prog 48 = []:=by
 refine ⟨?_,?_,?_,?_,?_,?_,?_,?_,?_,?_,?_,?_,?_,?_,?_,?_⟩ <;> kernel_rfl
theorem Fl:Tryz.prog.cellsOf 50=1∧Ae Tryz.prog 50=2∧BO Tryz.prog 50=77∧AR Tryz.prog 50=false∧AV Tryz.prog 50=none∧Bu Tryz.prog 50=some (1,false)∧Az Tryz.prog 50=.nils∧Bp Tryz.prog 50 = [(0,2)]:=by
 refine ⟨?_,?_,?_,?_,?_,?_,?_,?_⟩ <;> kernel_rfl
theorem Cn:Tryz.prog.cellsOf 55=3∧Ae Tryz.prog 55=0∧AR Tryz.prog 55=false∧AV Tryz.prog 55=none∧Bu Tryz.prog 55=some (3,true)∧Az Tryz.prog 55=.agg [.int .i64 0,.int .i64 0,.int .i64 0]∧A2 Tryz.prog 55 0=some (0,1,3)∧A2 Tryz.prog 55 1=some (1,1,3)∧A2 Tryz.prog 55 2=some (2,1,3)∧Bz Tryz.prog 55=none∧B0 Tryz.prog 55=true∧Bp Tryz.prog 55 = []:=by
 refine ⟨?_,?_,?_,?_,?_,?_,?_,?_,?_,?_,?_,?_⟩ <;> kernel_rfl
theorem BF:Tryz.prog.cellsOf 61=8∧Ae Tryz.prog 61=0∧AR Tryz.prog 61=false∧AV Tryz.prog 61=none∧Bu Tryz.prog 61=some (8,true)∧Az Tryz.prog 61=.agg [.int .i64 0,.nils,.nils,.int .i64 0,.int .i64 0,.int .i64 0,.int .i64 0,.int .i64 0]∧A2 Tryz.prog 61 0=some (0,2,24)∧A2 Tryz.prog 61 1=some (2,1,25)∧A2 Tryz.prog 61 2=some (3,5,28)∧Bz Tryz.prog 61=none∧B0 Tryz.prog 61=true∧Bp Tryz.prog 61 = [(1,50),(2,3)]:=by
 refine ⟨?_,?_,?_,?_,?_,?_,?_,?_,?_,?_,?_,?_⟩ <;> kernel_rfl
theorem Alt:Tryz.prog.cellsOf 64=1∧Ae Tryz.prog 64=0∧AR Tryz.prog 64=false∧AV Tryz.prog 64=none∧Bu Tryz.prog 64=some (1,false)∧Az Tryz.prog 64=.nilf∧Bp Tryz.prog 64 = []:=by
 refine ⟨?_,?_,?_,?_,?_,?_,?_⟩ <;> kernel_rfl
theorem BL:Tryz.prog.cellsOf 75=1∧Ae Tryz.prog 75=1∧BO Tryz.prog 75=33∧AR Tryz.prog 75=false∧AV Tryz.prog 75=none∧Bu Tryz.prog 75=some (1,false)∧Az Tryz.prog 75=.nils∧Bp Tryz.prog 75 = [(0,1)]:=by
 refine ⟨?_,?_,?_,?_,?_,?_,?_,?_⟩ <;> kernel_rfl
theorem K8:Tryz.prog.cellsOf 77=2∧Ae Tryz.prog 77=0∧AR Tryz.prog 77=false∧AV Tryz.prog 77=none∧Bu Tryz.prog 77=some (2,true)∧Az Tryz.prog 77=.agg [.nils,.nils]∧A2 Tryz.prog 77 0=some (0,1,75)∧A2 Tryz.prog 77 1=some (1,1,33)∧Bz Tryz.prog 77=none∧B0 Tryz.prog 77=true∧Bp Tryz.prog 77 = [(0,1),(1,1)]:=by
 refine ⟨?_,?_,?_,?_,?_,?_,?_,?_,?_,?_,?_⟩ <;> kernel_rfl
theorem X2:Tryz.prog.cellsOf 78=12∧Ae Tryz.prog 78=0∧AR Tryz.prog 78=false∧AV Tryz.prog 78=none∧Bu Tryz.prog 78=some (12,true)∧Az Tryz.prog 78=.agg [.int .i64 0,.int .i64 0,.int .i64 0,.int .i64 0,.int .i64 0,.int .i64 0,.int .i64 0,.int .i64 0,.int .i64 0,.int .i64 0,.int .i64 0,.int .i64 0]∧Bz Tryz.prog 78=some (12,1)∧Iq Tryz.prog 78=some (12,3)∧B0 Tryz.prog 78=true∧Bp Tryz.prog 78 = []:=by
 refine ⟨?_,?_,?_,?_,?_,?_,?_,?_,?_,?_⟩ <;> kernel_rfl
theorem Ahm:Tryz.prog.cellsOf 79=4∧Ae Tryz.prog 79=0∧AR Tryz.prog 79=false∧AV Tryz.prog 79=none∧Bu Tryz.prog 79=some (4,true)∧Az Tryz.prog 79=.agg [.int .i64 0,.int .i64 0,.int .i64 0,.int .i64 0]∧Bz Tryz.prog 79=some (4,1)∧Iq Tryz.prog 79=some (4,3)∧B0 Tryz.prog 79=true∧Bp Tryz.prog 79 = []:=by
 refine ⟨?_,?_,?_,?_,?_,?_,?_,?_,?_,?_⟩ <;> kernel_rfl
theorem OG:Tryz.prog.cellsOf 81=24∧Ae Tryz.prog 81=0∧AR Tryz.prog 81=false∧AV Tryz.prog 81=none∧Bu Tryz.prog 81=some (24,true)∧Az Tryz.prog 81=.agg [.int .i64 0,.int .i64 0,.int .i64 0,.int .i64 0,.int .i64 0,.int .i64 0,.int .i64 0,.int .i64 0,.int .i64 0,.int .i64 0,.int .i64 0,.int .i64 0,.int .i64 0,.int .i64 0,.int .i64 0,.int .i64 0,.int .i64 0,.int .i64 0,.int .i64 0,.int .i64 0,.int .i64 0,.int .i64 0,.int .i64 0,.int .i64 0]∧Bz Tryz.prog 81=some (24,1)∧Iq Tryz.prog 81=some (24,3)∧B0 Tryz.prog 81=true∧Bp Tryz.prog 81 = []:=by
 refine ⟨?_,?_,?_,?_,?_,?_,?_,?_,?_,?_⟩ <;> kernel_rfl
theorem CI:Tryz.prog.cellsOf 83=50∧Ae Tryz.prog 83=0∧AR Tryz.prog 83=false∧AV Tryz.prog 83=none∧Bu Tryz.prog 83=some (50,true)∧Az Tryz.prog 83=.agg [.int .i64 0,.int .i64 0,.int .i64 0,.int .i64 0,.int .i64 0,.int .i64 0,.int .i64 0,.int .i64 0,.int .i64 0,.int .i64 0,.int .i64 0,.int .i64 0,.int .i64 0,.int .i64 0,.int .i64 0,.int .i64 0,.int .i64 0,.int .i64 0,.int .i64 0,.int .i64 0,.int .i64 0,.int .i64 0,.int .i64 0,.int .i64 0,.int .i64 0,.int .i64 0,.int .i64 0,.int .i64 0,.int .i64 0,.int .i64 0,.int .i64 0,.int .i64 0,.int .i64 0,.int .i64 0,.int .i64 0,.int .i64 0,.int .i64 0,.int .i64 0,.int .i64 0,.int .i64 0,.int .i64 0,.int .i64 0,.int .i64 0,.int .i64 0,.int .i64 0,.int .i64 0,.int .i64 0,.int .i64 0,.int .i64 0,.int .i64 0]∧A2 Tryz.prog 83 0=some (0,1,3)∧A2 Tryz.prog 83 1=some (1,1,3)∧A2 Tryz.prog 83 2=some (2,24,81)∧A2 Tryz.prog 83 3=some (26,24,81)∧Bz Tryz.prog 83=none∧B0 Tryz.prog 83=true∧Bp Tryz.prog 83 = []:=by
 refine ⟨?_,?_,?_,?_,?_,?_,?_,?_,?_,?_,?_,?_,?_⟩ <;> kernel_rfl
theorem K9:Tryz.prog.cellsOf 95=1∧Ae Tryz.prog 95=0∧AR Tryz.prog 95=false∧AV Tryz.prog 95=none∧Bu Tryz.prog 95=some (1,false)∧Az Tryz.prog 95=.nilp∧Bp Tryz.prog 95 = []:=by
 refine ⟨?_,?_,?_,?_,?_,?_,?_⟩ <;> kernel_rfl
theorem Mm:Tryz.prog.cellsOf 98=1∧Ae Tryz.prog 98=4∧BO Tryz.prog 98=102∧AR Tryz.prog 98=false∧AV Tryz.prog 98=none∧Bu Tryz.prog 98=some (1,false)∧Az Tryz.prog 98=.nils∧Bp Tryz.prog 98 = [(0,4)]:=by
 refine ⟨?_,?_,?_,?_,?_,?_,?_,?_⟩ <;> kernel_rfl
theorem Ef:Tryz.prog.cellsOf 100=3∧Ae Tryz.prog 100=0∧AR Tryz.prog 100=false∧AV Tryz.prog 100=none∧Bu Tryz.prog 100=some (3,true)∧Az Tryz.prog 100=.agg [.nils,.nils,.nils]∧A2 Tryz.prog 100 0=some (0,1,98)∧A2 Tryz.prog 100 1=some (1,1,75)∧A2 Tryz.prog 100 2=some (2,1,33)∧Bz Tryz.prog 100=none∧B0 Tryz.prog 100=true∧Bp Tryz.prog 100 = [(0,4),(1,1),(2,1)]:=by
 refine ⟨?_,?_,?_,?_,?_,?_,?_,?_,?_,?_,?_,?_⟩ <;> kernel_rfl
theorem Ie:Tryz.prog.cellsOf 102=4∧Ae Tryz.prog 102=0∧AR Tryz.prog 102=false∧AV Tryz.prog 102=none∧Bu Tryz.prog 102=some (4,true)∧Az Tryz.prog 102=.agg [.int .i64 0,.int .i64 0,.int .i64 0,.int .i64 0]∧A2 Tryz.prog 102 0=some (0,1,3)∧A2 Tryz.prog 102 1=some (1,1,3)∧A2 Tryz.prog 102 2=some (2,1,3)∧A2 Tryz.prog 102 3=some (3,1,3)∧Bz Tryz.prog 102=none∧B0 Tryz.prog 102=true∧Bp Tryz.prog 102 = []:=by
 refine ⟨?_,?_,?_,?_,?_,?_,?_,?_,?_,?_,?_,?_,?_⟩ <;> kernel_rfl
theorem La:Tryz.prog.cellsOf 112=1∧Ae Tryz.prog 112=3∧BO Tryz.prog 112=55∧AR Tryz.prog 112=false∧AV Tryz.prog 112=none∧Bu Tryz.prog 112=some (1,false)∧Az Tryz.prog 112=.nils∧Bp Tryz.prog 112 = [(0,3)]:=by
 refine ⟨?_,?_,?_,?_,?_,?_,?_,?_⟩ <;> kernel_rfl
theorem Y2:Tryz.prog.cellsOf 123=1∧Ae Tryz.prog 123=0∧AR Tryz.prog 123=false∧AV Tryz.prog 123=none∧Bu Tryz.prog 123=some (1,false)∧Az Tryz.prog 123=.nilf∧Bp Tryz.prog 123 = []:=by
 refine ⟨?_,?_,?_,?_,?_,?_,?_⟩ <;> kernel_rfl
theorem Eg:Tryz.prog.cellsOf 129=2∧Ae Tryz.prog 129=0∧AR Tryz.prog 129=false∧AV Tryz.prog 129=none∧Bu Tryz.prog 129=some (2,true)∧Az Tryz.prog 129=.agg [.int .i64 0,.int .i64 0]∧A2 Tryz.prog 129 0=some (0,1,3)∧A2 Tryz.prog 129 1=some (1,1,3)∧Bz Tryz.prog 129=none∧B0 Tryz.prog 129=true∧Bp Tryz.prog 129 = []:=by
 refine ⟨?_,?_,?_,?_,?_,?_,?_,?_,?_,?_,?_⟩ <;> kernel_rfl
theorem Fb:Tryz.prog.cellsOf 131=54∧Ae Tryz.prog 131=0∧AR Tryz.prog 131=false∧AV Tryz.prog 131=none∧Bu Tryz.prog 131=some (54,true)∧Az Tryz.prog 131=.agg [.int .i64 0,.int .i64 0,.int .i64 0,.int .i64 0,.int .i64 0,.int .i64 0,.int .i64 0,.int .i64 0,.int .i64 0,.int .i64 0,.int .i64 0,.int .i64 0,.int .i64 0,.int .i64 0,.int .i64 0,.int .i64 0,.int .i64 0,.int .i64 0,.int .i64 0,.int .i64 0,.int .i64 0,.int .i64 0,.int .i64 0,.int .i64 0,.int .i64 0,.int .i64 0,.int .i64 0,.int .i64 0,.int .i64 0,.int .i64 0,.int .i64 0,.int .i64 0,.int .i64 0,.int .i64 0,.int .i64 0,.int .i64 0,.int .i64 0,.int .i64 0,.int .i64 0,.int .i64 0,.int .i64 0,.int .i64 0,.int .i64 0,.int .i64 0,.int .i64 0,.int .i64 0,.int .i64 0,.int .i64 0,.int .i64 0,.int .i64 0,.int .i64 0,.int .i64 0,.int .i64 0,.int .i64 0]∧A2 Tryz.prog 131 0=some (0,2,129)∧A2 Tryz.prog 131 1=some (2,50,83)∧A2 Tryz.prog 131 2=some (52,1,3)∧A2 Tryz.prog 131 3=some (53,1,3)∧Bz Tryz.prog 131=none∧B0 Tryz.prog 131=true∧Bp Tryz.prog 131 = []:=by
 refine ⟨?_,?_,?_,?_,?_,?_,?_,?_,?_,?_,?_,?_,?_⟩ <;> kernel_rfl
theorem Fc:Tryz.prog.cellsOf 132=1∧Ae Tryz.prog 132=0∧AR Tryz.prog 132=false∧AV Tryz.prog 132=some (.ints 2,.int .i64 0)∧Bu Tryz.prog 132=some (1,false)∧Az Tryz.prog 132=.nilm∧Bp Tryz.prog 132 = []:=by
 refine ⟨?_,?_,?_,?_,?_,?_,?_⟩ <;> kernel_rfl
theorem Nn:Tryz.prog.cellsOf 135=1∧Ae Tryz.prog 135=0∧AR Tryz.prog 135=false∧AV Tryz.prog 135=none∧Bu Tryz.prog 135=some (1,false)∧Az Tryz.prog 135=.nilp∧Bp Tryz.prog 135 = []:=by
 refine ⟨?_,?_,?_,?_,?_,?_,?_⟩ <;> kernel_rfl
theorem Lb:Tryz.prog.cellsOf 136=1∧Ae Tryz.prog 136=0∧AR Tryz.prog 136=false∧AV Tryz.prog 136=none∧Bu Tryz.prog 136=some (1,false)∧Az Tryz.prog 136=.nilf∧Bp Tryz.prog 136 = []:=by
 refine ⟨?_,?_,?_,?_,?_,?_,?_⟩ <;> kernel_rfl
theorem Alu:Tryz.prog.cellsOf 151=1∧Ae Tryz.prog 151=0∧AR Tryz.prog 151=false∧AV Tryz.prog 151=none∧Bu Tryz.prog 151=some (1,false)∧Az Tryz.prog 151=.nilf∧Bp Tryz.prog 151 = []:=by
 refine ⟨?_,?_,?_,?_,?_,?_,?_⟩ <;> kernel_rfl
theorem OH:Tryz.prog.cellsOf 155=2∧Ae Tryz.prog 155=0∧AR Tryz.prog 155=false∧AV Tryz.prog 155=none∧Bu Tryz.prog 155=some (2,true)∧Az Tryz.prog 155=.agg [.int .i64 0,.int .i64 0]∧Bz Tryz.prog 155=some (2,1)∧Iq Tryz.prog 155=some (2,3)∧B0 Tryz.prog 155=true∧Bp Tryz.prog 155 = []:=by
 refine ⟨?_,?_,?_,?_,?_,?_,?_,?_,?_,?_⟩ <;> kernel_rfl
theorem Alv:Tryz.prog.cellsOf 158=1∧Ae Tryz.prog 158=0∧AR Tryz.prog 158=false∧AV Tryz.prog 158=none∧Gg Tryz.prog 158=some .u64∧Bu Tryz.prog 158=some (1,false)∧Az Tryz.prog 158=.int .u64 0∧Bp Tryz.prog 158 = []:=by
 refine ⟨?_,?_,?_,?_,?_,?_,?_,?_⟩ <;> kernel_rfl
theorem qN:Tryz.prog.cellsOf 161=1∧Ae Tryz.prog 161=0∧AR Tryz.prog 161=false∧AV Tryz.prog 161=some (.ints 2,.int .i64 0)∧Bu Tryz.prog 161=some (1,false)∧Az Tryz.prog 161=.nilm∧Bp Tryz.prog 161 = []:=by
 refine ⟨?_,?_,?_,?_,?_,?_,?_⟩ <;> kernel_rfl
theorem OI:Tryz.prog.cellsOf 167=1∧Ae Tryz.prog 167=1∧BO Tryz.prog 167=4∧AR Tryz.prog 167=false∧AV Tryz.prog 167=none∧Bu Tryz.prog 167=some (1,false)∧Az Tryz.prog 167=.nils∧Bp Tryz.prog 167 = [(0,1)]:=by
 refine ⟨?_,?_,?_,?_,?_,?_,?_,?_⟩ <;> kernel_rfl
theorem Alw:Tryz.prog.cellsOf 174=1∧Ae Tryz.prog 174=0∧AR Tryz.prog 174=false∧AV Tryz.prog 174=none∧Gg Tryz.prog 174=some .u64∧Bu Tryz.prog 174=some (1,false)∧Az Tryz.prog 174=.int .u64 0∧Bp Tryz.prog 174 = []:=by
 refine ⟨?_,?_,?_,?_,?_,?_,?_,?_⟩ <;> kernel_rfl
theorem DP : Tryz.prog.cellsOf 177 = 1 ∧ Ae Tryz.prog 177 = 0 ∧ AR Tryz.prog 177 = false ∧ AV Tryz.prog 177 = none ∧ Bu Tryz.prog 177 = some (1, false) ∧ Az Tryz.prog 177 = .nilp ∧ KP Tryz.prog 177 "Len" = some (100, false, 181) ∧ KP Tryz.prog 177 "Less" = some (140, false, 181) ∧ KP Tryz.prog 177 "Pop" = some (141, true, 181) ∧ KP Tryz.prog 177 "Push" = some (142, true, 181) ∧ KP Tryz.prog 177 "Swap" = some (143, false, 181) ∧ Mf Tryz.prog 177 = true ∧ Bp Tryz.prog 177 = [] := by
 refine ⟨?_,?_,?_,?_,?_,?_,?_,?_,?_,?_,?_,?_,?_⟩ <;> kernel_rfl
theorem IL:Tryz.prog.cellsOf 179=2∧Ae Tryz.prog 179=0∧AR Tryz.prog 179=false∧AV Tryz.prog 179=none∧Bu Tryz.prog 179=some (2,true)∧Az Tryz.prog 179=.agg [.int .i64 0,.int .i64 0]∧A2 Tryz.prog 179 0=some (0,1,3)∧A2 Tryz.prog 179 1=some (1,1,3)∧Bz Tryz.prog 179=none∧B0 Tryz.prog 179=true∧Mf Tryz.prog 179=true∧Bp Tryz.prog 179 = []:=by
 refine ⟨?_,?_,?_,?_,?_,?_,?_,?_,?_,?_,?_,?_⟩ <;> kernel_rfl
theorem Di:Tryz.prog.cellsOf 181=1∧Ae Tryz.prog 181=2∧BO Tryz.prog 181=179∧AR Tryz.prog 181=false∧AV Tryz.prog 181=none∧Bu Tryz.prog 181=some (1,false)∧Az Tryz.prog 181=.nils∧Bp Tryz.prog 181 = [(0,2)]:=by
 refine ⟨?_,?_,?_,?_,?_,?_,?_,?_⟩ <;> kernel_rfl
theorem QP:Tryz.prog.cellsOf 200=1∧Ae Tryz.prog 200=0∧AR Tryz.prog 200=false∧AV Tryz.prog 200=none∧Bu Tryz.prog 200=some (1,false)∧Az Tryz.prog 200=.nili∧Bp Tryz.prog 200 = []:=by
 refine ⟨?_,?_,?_,?_,?_,?_,?_⟩ <;> kernel_rfl
end Sim
