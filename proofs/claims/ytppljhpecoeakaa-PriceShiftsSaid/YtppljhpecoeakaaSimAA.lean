/- A function at given values, by computing. -/
import Derived.Test.YtppljhpecoeakaaSimU
import Derived.Test.YtppljhpecoeakaaSimX
set_option linter.unusedVariables false
set_option linter.unusedSimpArgs false
namespace Sim
open Go
def ev (X:Cfg) (N:Nat):Nat→Code→IState→Option (IExit×IState)
 | 0,_,_=>none
 | n+1,c,s=>match c with
  | .skip=>some (.normal,s)
  | .region _ ops _=>if noY X ops=true then (dC X N ops ops.toList s).map fun s'=>(.normal,s')else none
  | .seq a b=>match ev X N n a s with
   | some (.normal,s')=>ev X N n b s'
   | r=>r
  | .cond c a b=>match Ay s.env c with
   | .bool true=>ev X N n a s
   | .bool false=>ev X N n b s
   | _=>none
  | .block id c=>match ev X N n c s with
   | some (.exit i,s')=>if i=id then some (.normal,s')else some (.exit i,s')
   | r=>r
  | .loop c=>match ev X N n c s with
   | some (.normal,s')=>ev X N n (.loop c) s'
   | r=>r
  | .exit id=>some (.exit id,s)
  | .ret=>some (.ret,s)
  | _=>none
theorem SR {X:Cfg} (hy:X.yl=none) {N:Nat}:∀(n:Nat) (c:Code) (s:IState) (e:IExit) (s':IState),ev X N n c s=some (e,s')→∀Q:IExit→IState→Prop,Q e s'→wpI X N (Bj c) Q s:=by
 intro n
 induction n using Nat.strongRecOn with
 | _ n ih =>
  intro c s e s' h Q hQ
  cases n with
  | zero=>simp[ev]at h
  | succ n =>
   cases c <;> simp only[ev]at h
   case skip=>cases h;exact hQ
   case region id ops dr =>
    split at h
    ·rename_i hn
     simp only[Option.map_eq_some_iff,Prod.mk.injEq]at h
     obtain ⟨s1,h1,rfl,rfl⟩:=h
     exact .inl ⟨fun h=>by simp at h,(LX (fun o ho=>List.all_eq_true.1 hn o ho)).2 ⟨s1,h1,hQ⟩⟩
    ·cases h
   case seq a b =>
    split at h
    ·rename_i s1 h1
     exact ih n (Nat.lt_succ_self n) a s _ _ h1 _ (ih n (Nat.lt_succ_self n) b s1 e s' h Q hQ)
    ·rename_i h1
     refine ih n (Nat.lt_succ_self n) a s _ _ h _ ?_
     cases e with
     | normal=>exact absurd h (h1 _)
     | exit i=>exact hQ
     | ret=>exact hQ
   case cond c a b =>
    simp only[Bj,wpI,wpC]
    split at h
    ·rename_i h1
     simp only[h1]
     exact ⟨fun _=>ih n (Nat.lt_succ_self n) a s _ _ h _ hQ,fun h=>by simp at h⟩
    ·rename_i h1
     simp only[h1]
     exact ⟨fun h=>by simp at h,fun _=>ih n (Nat.lt_succ_self n) b s _ _ h _ hQ⟩
    ·cases h
   case block id c =>
    split at h
    ·rename_i i s1 h1
     refine ih n (Nat.lt_succ_self n) c s _ _ h1 _ ?_
     dsimp only
     split at h
     ·rename_i hi
      cases h
      rw [if_pos hi];exact hQ
     ·rename_i hi
      cases h
      rw [if_neg hi];exact hQ
    ·rename_i h1
     refine ih n (Nat.lt_succ_self n) c s _ _ h _ ?_
     cases e with
     | normal=>exact hQ
     | exit i=>exact absurd h (h1 _ _)
     | ret=>exact hQ
   case loop c =>
    refine ⟨fun m t=>m≤n+1∧ev X N m (.loop c) t=some (e,s'),n+1,⟨s,.refl s,Nat.le_refl _,by simp only[ev];exact h⟩,?_⟩
    rintro m t ⟨hm,ht⟩
    cases m with
    | zero=>simp[ev]at ht
    | succ m =>
     simp only[ev]at ht
     split at ht
     ·rename_i s1 h1
      exact ih m (by omega) c t _ _ h1 _ ⟨m,Nat.lt_succ_self m,s1,.refl s1,by omega,ht⟩
     ·rename_i h1
      refine ih m (by omega) c t _ _ ht _ ?_
      cases e with
      | normal=>exact absurd ht (h1 _)
      | exit i=>exact hQ
      | ret=>exact hQ
   case exit id=>cases h;exact hQ
   case ret=>cases h;exact hQ
   all_goals cases h
def rdF (st:Store):PV→Option PV
 | .tuple vs=>(BZ st vs).map .tuple
 | p=>rdP st p
theorem jU {st:Store} {p q:PV} (h:rdF st p=some q):DR st p q:=by
 unfold rdF at h
 split at h
 ·simp only[Option.map_eq_some_iff]at h
  obtain ⟨ds,h1,rfl⟩:=h
  obtain ⟨h2,h3⟩:=Ks h1
  exact .tuple _ _ h2 h3
 ·exact Pt h
end Sim
namespace Sim
open Go Go.ChangeShapes Go.WideShapes Go.RowKit
def full (w:World):Nat→Nat→Option Value:=fun b o=>w.cell? ⟨b,o,none⟩
def RdC (P:Program) (w:World) (t:TypeId) {α:Type} (f:α→PV) (q:α→Prop):Prop :=
 ∀ {H:Type} (enc:TypeId×Value→H) (bs:Nat) (spare:Nat→Bool) (held:Bool) (fuel:Nat) (cs:List Value) (x:DataW H×List MemPlace),DataW.trod enc P w bs spare held fuel t cs=some x →
  ∃ a,q a∧(f a).cells.length=cs.length∧(∀c∈(f a).cells,c.isCell=true)∧∀(j:Nat) (c:PV),(f a).cells[j]?=some c→VR (base (full w) w) (cs.getD j undef) c
theorem Fu {α:Type} {Q:Nat→α→Prop}:∀(n:Nat),(∀i,i<n→∃a,Q i a)→∃l:List α,l.length=n∧∀i (h:i<l.length),Q i l[i]
 | 0,_=>⟨[],rfl,fun i h=>absurd h (by simp)⟩
 | n+1,h=>by
  obtain ⟨l,h1,h2⟩:=Fu n fun i hi=>h i (by omega)
  obtain ⟨a,ha⟩:=h n (by omega)
  refine ⟨l ++ [a],by simp[h1],fun i hi=>?_⟩
  rw [List.getElem_append]
  split
  ·exact h2 i _
  ·have : i=n:=by simp at hi;omega
   subst this
   simpa using ha
theorem RdC.int {P:Program} {w:World} {t:TypeId} {k:IntKind} (ht:P.underlying t=some (.int k)):RdC P w t (PV.int k) (fun n=>(Lit.int k n).wf=true):=by
 intro H enc bs spare held fuel cs x h
 cases fuel with
 | zero=>simp[DataW.trod]at h
 | succ n =>
  unfold DataW.trod at h
  rw [ht]at h
  split at h <;> simp_all
  obtain ⟨⟨rfl,hw⟩,_⟩:=h
  refine ⟨_,hw,by simp[PV.cells],by simp[PV.cells,PV.isCell],fun j c hj=>?_⟩
  simp only[PV.cells]at hj
  cases j with
  | zero=>simp at hj;subst hj;exact .int _ _
  | succ j=>simp at hj
theorem RdC.slice {P:Program} {w:World} {t e:TypeId} (ht:P.underlying t=some (.slice e)) {z:Nat} (hz:P.cellsOf e=z) (hz0:0<z) {α:Type} {f:α→PV} {q:α→Prop} (he:RdC P w e f q) :
  RdC P w t (fun l:List α=>.lits z (l.map f)) (fun l=>∀a∈l,q a):=by
 intro H enc bs spare held fuel cs x h
 rcases DataW.trod_slice ht h with ⟨rfl,rfl⟩ | ⟨a,len,cap,elems,rest,n,_,rfl,rfl,hb,hl,hm,hlen,hel,hsp,hns⟩
 ·refine ⟨[],by simp,by simp[PV.cells],by simp[PV.cells,PV.isCell],fun j c hj=>?_⟩
  simp only[PV.cells]at hj
  cases j with
  | zero=>simp at hj;subst hj;exact .lits0 _ _ _
  | succ j=>simp at hj
 ·obtain ⟨l,h1,h2⟩:=Fu (Q:=fun i v=>q v∧(f v).cells.length=z∧(∀c∈(f v).cells,c.isCell=true)∧∀j,j<z→∃u,w.cell? ((a.add (i*z)).add j)=some u∧∀c,(f v).cells[j]?=some c→VR (base (full w) w) u c) len (fun i hi=>by
   have h3:=hel i hi
   rw [hz]at h3
   have h4:elems[i]?=some (elems[i]'(by omega)):=List.getElem?_eq_getElem (by omega)
   rw [h4,Option.bind_eq_some_iff]at h3
   obtain ⟨cs,h5,h6⟩:=h3
   obtain ⟨v,hq,h7,h8,h9⟩:=he enc bs spare held n cs _ h6
   obtain ⟨_,h10,h11⟩:=World.cells?_some h5
   refine ⟨v,hq,by omega,h8,fun j hj=>?_⟩
   refine ⟨cs[j]'(by omega),by rw[h11 j hj];exact List.getElem?_eq_getElem _,fun c hc=>?_⟩
   have := h9 j c hc
   rwa [List.getD_eq_getElem?_getD,List.getElem?_eq_getElem (by omega),Option.getD_some]at this)
  refine ⟨l,fun v hv=>?_,by simp[PV.cells],by simp[PV.cells,PV.isCell],fun j c hj=>?_⟩
  ·obtain ⟨i,hi,rfl⟩:=List.mem_iff_getElem.1 hv
   exact (h2 i hi).1
  simp only[PV.cells]at hj
  cases j with
  | succ j=>simp at hj
  | zero =>
   simp at hj;subst hj
   simp only[List.getD_cons_zero]
   cases len with
   | zero =>
    have : l = []:=List.eq_nil_of_length_eq_zero h1
    subst this
    exact .lits0 _ _ _
   | succ m =>
    obtain ⟨u,hu,_⟩:=(h2 0 (by omega)).2.2.2 0 hz0
    simp only[Nat.zero_mul,Addr.add,if_true]at hu
    obtain ⟨b,o,sp⟩:=a
    have hsp0:sp=none:=by
     cases sp with
     | none=>rfl
     | some s=>simp[World.cell?]at hu;split at hu <;> simp at hu
    subst hsp0
    have hlen':(l.map f).length=m+1:=by simp[h1]
    rw [←hlen']
    have hadd:∀i j,((Addr.mk b o none).add (i*z)).add j=⟨b,o+i*z+j,none⟩:=fun i j=>by
     unfold Addr.add
     split
     ·rename_i h3;split
      ·rename_i h4;simp[h3,h4]
      ·simp [h3]
     ·split
      ·rename_i h3 h4;rw[h4];rfl
      ·rfl
    refine .lits b o z cap (l.map f) (by omega) hm hz0 (fun v hv=>?_) (fun i j hi hj=>?_) (fun i j v c hv hc=>?_)
    ·obtain ⟨a',ha',rfl⟩:=List.mem_map.1 hv
     obtain ⟨i,hi,rfl⟩:=List.mem_iff_getElem.1 ha'
     exact ⟨(h2 i hi).2.1,(h2 i hi).2.2.1⟩
    ·have hi':i<l.length:=by simpa using hi
     obtain ⟨u,hu,_⟩:=(h2 i hi').2.2.2 j hj
     rw [hadd]at hu
     show (w.cell? ⟨b,o+i*z+j,none⟩).isSome=true
     rw [hu];rfl
    ·rw [List.getElem?_map,Option.map_eq_some_iff]at hv
     obtain ⟨a',ha',rfl⟩:=hv
     obtain ⟨hi,rfl⟩:=List.getElem?_eq_some_iff.1 ha'
     have hj:j<z:=by
      have :=(List.getElem?_eq_some_iff.1 hc).1
      have :=(h2 i hi).2.1
      omega
     obtain ⟨u,hu,hv⟩:=(h2 i hi).2.2.2 j hj
     rw [hadd]at hu
     show VR _ ((w.cell? ⟨b,o+i*z+j,none⟩).getD undef) c
     rw [hu];exact hv c hc
theorem RdC.struct2 {P:Program} {w:World} {t:TypeId} {f0 f1:Field} (ht:P.underlying t=some (.struct #[f0,f1])) (hn:P.cellsOf t=2) (ho:f0.offset=0∧f1.offset=1) (hc:P.cellsOf f0.type=1∧P.cellsOf f1.type=1)
  {α β:Type} {f:α→PV} {g:β→PV} {q:α→Prop} {r:β→Prop} (hf:RdC P w f0.type f q) (hg:RdC P w f1.type g r) (hfc:∀a,(f a).cells = [f a]) (hgc:∀b,(g b).cells = [g b]) :
  RdC P w t (fun a:α×β=>.agg [f a.1,g a.2]) (fun a=>q a.1∧r a.2):=by
 intro H enc bs spare held fuel cs x h
 obtain ⟨y0,y1,n,_,hl,h0,h1⟩:=trod_struct2 ht h
 rw [hn]at hl
 rw [ho.1,hc.1]at h0
 rw [ho.2,hc.2]at h1
 match cs,hl with
 | [c0,c1],_ =>
  simp only[List.drop_zero,List.take_succ_cons,List.take_zero,List.drop_succ_cons,List.drop_zero]at h0 h1
  obtain ⟨a,qa,_,a2,a3⟩:=hf enc bs spare held n _ _ h0
  obtain ⟨b,rb,_,b2,b3⟩:=hg enc bs spare held n _ _ h1
  refine ⟨(a,b),⟨qa,rb⟩,rfl,fun c hc=>?_,fun j c hj=>?_⟩
  ·simp only[PV.cells,List.mem_cons,List.not_mem_nil,or_false]at hc
   rcases hc with rfl | rfl
   ·exact a2 _ (by rw[hfc];simp)
   ·exact b2 _ (by rw[hgc];simp)
  ·simp only[PV.cells]at hj
   match j,hj with
   | 0,hj =>
    simp at hj;subst hj
    exact a3 0 _ (by rw[hfc];rfl)
   | 1,hj =>
    simp at hj;subst hj
    exact b3 0 _ (by rw[hgc];rfl)
   | j+2,hj=>simp at hj
theorem RdC.arg {P:Program} {w:World} {t e:TypeId} (ht:P.underlying t=some (.slice e)) {α:Type} {f:α→PV} {q:α→Prop} (h:RdC P w t f q) (hc:∀a,(f a).cells = [f a]) {H:Type} {enc:TypeId×Value→H} {bs b0:Nat} {spare:Nat→Bool} {held:Bool} {v:Value} {d:DataW H} {ps:List MemPlace}
  (hval : Value.okWide P w .any b0 t v) (hd:DataW.Trod enc P w bs spare held t v d ps):∃a,q a∧VR (base (full w) w) v (f a):=by
 obtain ⟨s,len,cap,rfl⟩:=okWide_slice ht hval
 obtain ⟨fuel,hd⟩:=hd
 obtain ⟨a,qa,_,_,h3⟩:=h enc bs spare held fuel _ _ hd
 exact ⟨a,qa,h3 0 _ (by rw[hc];rfl)⟩
theorem JJ {H:Type} {enc:TypeId×Value→H} {P:Program} {w w':World} (hold:∀b,b<w.heap.size→w'.heap[b]?=w.heap[b]?) {bs:Nat} {spare:Nat→Bool} {held:Bool} :
  ∀ {ts:List TypeId} {vs:List Value} {ds:List (DataW H)} {ps:List MemPlace},(∀p∈ps,p.block<w.heap.size)→DataW.TrodAll enc P w bs spare held ts vs ds ps→DataW.TrodAll enc P w' bs spare held ts vs ds ps
 | [],_,_,_,hp,h=>by
  obtain ⟨rfl,rfl,rfl⟩:=trodAll_nil h
  exact trodAll_mk0
 | _::_,_,_,_,hp,h=>by
  obtain ⟨v,vs1,d,ds1,a,b,rfl,rfl,rfl,⟨n,h1⟩,h2⟩:=trodAll_cons h
  refine ⟨a,b,⟨n,DataW.trod_carry n _ _ _ h1 fun p hp'=>?_⟩,JJ hold (fun p h=>hp p (by simp[h])) h2,rfl⟩
  have hb:=hp p (by simp only[List.mem_append];exact .inl hp')
  cases p with
  | cell b off=>simp only[World.sameAt,World.cell?];rw[hold b hb]
  | map b=>exact hold b hb
theorem aN {H:Type} {enc:TypeId×Value→H} {P:Program} {T:TypeId→Prop} (K:Kids P T) (hz:∀t e,T t→P.underlying t=some (.slice e)→0<P.cellsOf e)
  {f : Func} {s:ChangeSpec} {apart fresh handsOn again:Bool} {W W':World} {args:Array Value} {v:Value} {ds gs:List (DataW H)} {before:List MemPlace}
  (hT : ∀t∈f.params.toList,T t) (hv:s.vars = []) (hW:DataW.Whole enc P f.params.toList s.vars apart W args.toList ds gs before)
  (hfr : W'.os=W.os∧W'.output=W.output) (hold:∀b,b<W.heap.size→W'.heap[b]?=W.heap[b]?)
  (ha : (s.fn H (ds++gs)).args=ds) (hvs:(s.fn H (ds++gs)).vars = [])
  (hres : ∀(b:Nat) (sp:Nat→Bool) (hd:Bool),DataW.TrodAll enc P W' b sp hd f.resultTypes.toList (v.resultList f.resultTypes.size) (s.fn H (ds++gs)).results [])
  (hok : ∀(j:Nat) (t:TypeId) (r:Value),f.resultTypes[j]?=some t→(v.resultList f.resultTypes.size)[j]?=some r→Value.okWide P W' .any 0 t r) :
  s.post enc P f apart fresh handsOn again W args v W':=by
 have hlt:=hW.lt
 have hW':=hW
 obtain ⟨p,q,hA,hV,rfl,hfz,hnd⟩:=hW
 rw [hv]at hV
 obtain ⟨rfl,rfl⟩:=trodVars_none hV
 have hA':=JJ hold (fun x hx=>hlt x (by simp[hx])) hA
 have hargs:∀sp:Nat→Bool,(∀x∈p,sp x.block=true)→DataW.TrodAll enc P W' 0 sp true f.params.toList args.toList (s.fn H (ds ++ [])).args p:=fun sp hsp=>by
  rw [ha];exact DataW.TrodAll.respare K hz hT hA' hsp
 have hvars:∀sp:Nat→Bool,DataW.TrodVars enc P W' sp s.vars (s.fn H (ds ++ [])).vars []:=fun sp=>by rw[hv,hvs];rfl
 have hspec:∀x∈p,(fun b=>decide (b<W.heap.size)) x.block=true:=fun x hx=>by simpa using hlt x (by simp[hx])
 refine ⟨ds,[],p ++ [],[],p,[],hW',hres _ _ _,hargs _ hspec,hvars _,⟨hfr.1,hfr.2,fun i hi=>?_⟩,fun _=>?_⟩
 ·rw [hold i hi]
  cases hh:W.heap[i]? with
  | none=>trivial
  | some o=>cases o with
   | cells c t fr=>exact⟨rfl,rfl,rfl,fun _ _=>rfl⟩
   | map es clock=>exact .inr ⟨rfl,rfl⟩
   | _=>rfl
 ·refine ⟨hok,_,_,([]++p) ++ [],⟨[]++p,[],trodAll_append (hargs _ (fun _ _=>rfl)) (hres _ _ _),hvars _,rfl,?_,?_⟩,?_⟩
  ·intro b off hp
   have hp':MemPlace.cell b off∈p:=by simpa using hp
   have := hfz b off (by simp[hp'])
   have hb:=hlt _ (List.mem_append_left [] hp')
   unfold World.frozen? at this ⊢
   rw [hold b hb];exact this
  ·intro ha;simpa using hnd ha
  ·intro x hx _;simpa using hx
end Sim
namespace Sim
open Go Go.ChangeShapes Go.WideShapes Go.RowKit
def RdD (P:Program) (w:World) (t:TypeId) {α:Type} (f:α→PV) (q:α→(H:Type)→DataW H→Prop):Prop :=
 ∀ {H:Type} (enc:TypeId×Value→H) (bs:Nat) (spare:Nat→Bool) (held:Bool) (fuel:Nat) (cs:List Value) (x:DataW H×List MemPlace),DataW.trod enc P w bs spare held fuel t cs=some x →
  ∃ a,q a H x.1∧(f a).cells.length=cs.length∧(∀c∈(f a).cells,c.isCell=true)∧∀(j:Nat) (c:PV),(f a).cells[j]?=some c→VR (base (full w) w) (cs.getD j undef) c
theorem RdC.d {P:Program} {w:World} {t:TypeId} {α:Type} {f:α→PV} {q:α→Prop} (h:RdC P w t f q):RdD P w t f (fun a _ _=>q a):=h
theorem RdD.str {P:Program} {w:World} {t:TypeId} (ht:P.underlying t=some .string):RdD P w t PV.str (fun s H d=>d=.lit (.string s)):=by
 intro H enc bs spare held fuel cs x h
 cases fuel with
 | zero=>simp[DataW.trod]at h
 | succ n =>
  unfold DataW.trod at h
  rw [ht]at h
  match cs,h with
  | [.string s],h =>
   dsimp only at h
   split at h
   ·rename_i hs
    cases h
    refine ⟨s.data.toList,rfl,rfl,by simp[PV.cells,PV.isCell],fun j c hj=>?_⟩
    simp only[PV.cells]at hj
    cases j with
    | zero=>simp at hj;subst hj;exact .str _ _ rfl (by rw[Array.length_toList];exact hs)
    | succ j=>simp at hj
   ·cases h
  | [],h=>simp at h
  | _::_::_,h=>simp at h
theorem RdD.slice {P:Program} {w:World} {t e:TypeId} (ht:P.underlying t=some (.slice e)) {z:Nat} (hz:P.cellsOf e=z) (hz0:0<z) {α:Type} {f:α→PV} {q:α→(H:Type)→DataW H→Prop} (he:RdD P w e f q) :
  RdD P w t (fun l:List α=>.lits z (l.map f)) (fun l H d=>l = []∨∃ds sp,d=.slice ds sp∧ds.length=l.length∧∀i (h:i<l.length) (h':i<ds.length),q l[i] H ds[i]):=by
 intro H enc bs spare held fuel cs x h
 rcases DataW.trod_slice ht h with ⟨rfl,rfl⟩ | ⟨a,len,cap,elems,rest,n,_,rfl,rfl,hb,hl,hm,hlen,hel,hsp,hns⟩
 ·refine ⟨[],.inl rfl,by simp[PV.cells],by simp[PV.cells,PV.isCell],fun j c hj=>?_⟩
  simp only[PV.cells]at hj
  cases j with
  | zero=>simp at hj;subst hj;exact .lits0 _ _ _
  | succ j=>simp at hj
 ·obtain ⟨l,h1,h2⟩:=Fu (Q:=fun i v=>(∀h:i<elems.length,q v H elems[i].1)∧(f v).cells.length=z∧(∀c∈(f v).cells,c.isCell=true)∧∀j,j<z→∃u,w.cell? ((a.add (i*z)).add j)=some u∧∀c,(f v).cells[j]?=some c→VR (base (full w) w) u c) len (fun i hi=>by
   have h3:=hel i hi
   rw [hz]at h3
   have h4:elems[i]?=some (elems[i]'(by omega)):=List.getElem?_eq_getElem (by omega)
   rw [h4,Option.bind_eq_some_iff]at h3
   obtain ⟨cs,h5,h6⟩:=h3
   obtain ⟨v,hq,h7,h8,h9⟩:=he enc bs spare held n cs _ h6
   obtain ⟨_,h10,h11⟩:=World.cells?_some h5
   refine ⟨v,fun _=>hq,by omega,h8,fun j hj=>?_⟩
   refine ⟨cs[j]'(by omega),by rw[h11 j hj];exact List.getElem?_eq_getElem _,fun c hc=>?_⟩
   have := h9 j c hc
   rwa [List.getD_eq_getElem?_getD,List.getElem?_eq_getElem (by omega),Option.getD_some]at this)
  refine ⟨l,.inr ⟨_,_,rfl,by simp[h1,hlen],fun i hi hi'=>?_⟩,by simp[PV.cells],by simp[PV.cells,PV.isCell],fun j c hj=>?_⟩
  ·have :=(h2 i hi).1 (by omega)
   simpa using this
  simp only[PV.cells]at hj
  cases j with
  | succ j=>simp at hj
  | zero =>
   simp at hj;subst hj
   simp only[List.getD_cons_zero]
   cases len with
   | zero =>
    have : l = []:=List.eq_nil_of_length_eq_zero h1
    subst this
    exact .lits0 _ _ _
   | succ m =>
    obtain ⟨u,hu,_⟩:=(h2 0 (by omega)).2.2.2 0 hz0
    simp only[Nat.zero_mul,Addr.add,if_true]at hu
    obtain ⟨b,o,sp⟩:=a
    have hsp0:sp=none:=by
     cases sp with
     | none=>rfl
     | some s=>simp[World.cell?]at hu;split at hu <;> simp at hu
    subst hsp0
    have hlen':(l.map f).length=m+1:=by simp[h1]
    rw [←hlen']
    have hadd:∀i j,((Addr.mk b o none).add (i*z)).add j=⟨b,o+i*z+j,none⟩:=fun i j=>by
     unfold Addr.add
     split
     ·rename_i h3;split
      ·rename_i h4;simp[h3,h4]
      ·simp [h3]
     ·split
      ·rename_i h3 h4;rw[h4];rfl
      ·rfl
    refine .lits b o z cap (l.map f) (by omega) hm hz0 (fun v hv=>?_) (fun i j hi hj=>?_) (fun i j v c hv hc=>?_)
    ·obtain ⟨a',ha',rfl⟩:=List.mem_map.1 hv
     obtain ⟨i,hi,rfl⟩:=List.mem_iff_getElem.1 ha'
     exact ⟨(h2 i hi).2.1,(h2 i hi).2.2.1⟩
    ·have hi':i<l.length:=by simpa using hi
     obtain ⟨u,hu,_⟩:=(h2 i hi').2.2.2 j hj
     rw [hadd]at hu
     show (w.cell? ⟨b,o+i*z+j,none⟩).isSome=true
     rw [hu];rfl
    ·rw [List.getElem?_map,Option.map_eq_some_iff]at hv
     obtain ⟨a',ha',rfl⟩:=hv
     obtain ⟨hi,rfl⟩:=List.getElem?_eq_some_iff.1 ha'
     have hj:j<z:=by
      have :=(List.getElem?_eq_some_iff.1 hc).1
      have :=(h2 i hi).2.1
      omega
     obtain ⟨u,hu,hv⟩:=(h2 i hi).2.2.2 j hj
     rw [hadd]at hu
     show VR _ ((w.cell? ⟨b,o+i*z+j,none⟩).getD undef) c
     rw [hu];exact hv c hc
def Part (w:World) (cs:List Value) (o:Nat) (l:List PV):Prop:=(∀c∈l,c.isCell=true)∧∀(j:Nat) (c:PV),l[j]?=some c→VR (base (full w) w) (cs.getD (o+j) undef) c
theorem Part.nil {w:World} {cs:List Value} {o:Nat}:Part w cs o []:=⟨by simp,by simp⟩
theorem Part.append {w:World} {cs:List Value} {o:Nat} {l m:List PV} (h:Part w cs o l) (g:Part w cs (o+l.length) m):Part w cs o (l++m):=by
 refine ⟨fun c hc=>?_,fun j c hj=>?_⟩
 ·rcases List.mem_append.1 hc with h1 | h1
  ·exact h.1 c h1
  ·exact g.1 c h1
 ·by_cases hl:j<l.length
  ·rw [List.getElem?_append_left hl]at hj;exact h.2 j c hj
  ·rw [List.getElem?_append_right (by omega)]at hj
   have := g.2 _ c hj
   rwa [show o+l.length+(j-l.length)=o+j by omega]at this
theorem RdD.part {P:Program} {w:World} {t:TypeId} {α:Type} {f:α→PV} {q:α→(H:Type)→DataW H→Prop} (h:RdD P w t f q) {H:Type} {enc:TypeId×Value→H} {bs:Nat} {spare:Nat→Bool} {held:Bool} {fuel:Nat} {cs:List Value} {o n:Nat} (ho:o+n≤cs.length) {x:DataW H×List MemPlace}
  (hx : DataW.trod enc P w bs spare held fuel t ((cs.drop o).take n)=some x):∃a,q a H x.1∧(f a).cells.length=n∧Part w cs o (f a).cells:=by
 obtain ⟨a,h1,h2,h3,h4⟩:=h enc bs spare held fuel _ x hx
 have hn:((cs.drop o).take n).length=n:=by simp;omega
 refine ⟨a,h1,by omega,h3,fun j c hj=>?_⟩
 have hjn:j<n:=by have:=(List.getElem?_eq_some_iff.1 hj).1;omega
 have := h4 j c hj
 rwa [List.getD_eq_getElem?_getD,List.getElem?_take_of_lt hjn,List.getElem?_drop,←List.getD_eq_getElem?_getD]at this
theorem Part.arg {w:World} {cs:Array Value} {l:List PV} (h:Part w cs.toList 0 l) (hn:cs.size=l.length):VR (base (full w) w) (.agg cs) (.agg l):=by
 refine .agg cs l hn h.1 fun i p hp=>?_
 have := h.2 i p hp
 rw [Nat.zero_add]at this
 simpa [Array.getD_eq_getD_getElem?,List.getD_eq_getElem?_getD]using this
end Sim
namespace Sim
open Go
def A7 (K:List Nat):Code→Code
 | .region id ops dr=>if K.contains id=true then .region id ops dr else .region id ops false
 | .seq a b=>.seq (A7 K a) (A7 K b)
 | .cond c a b=>.cond c (A7 K a) (A7 K b)
 | .block id c=>.block id (A7 K c)
 | .loop c=>.loop (A7 K c)
 | .scope c=>.scope (A7 K c)
 | c=>c
def Cy (K:List Nat) (X:Cfg):Code→Bool
 | .region id ops dr=>K.contains id || !dr||IU X ops
 | .seq a b=>Cy K X a&&Cy K X b
 | .cond _ a b=>Cy K X a&&Cy K X b
 | .block _ c=>Cy K X c
 | .loop c=>Cy K X c
 | .scope c=>Cy K X c
 | _=>true
theorem Lo {K:List Nat} {G:WP} (hG:G.Mono) {X:Cfg} (hm:A8 X) {N:Nat} {c:Code}:∀ {Q:IExit→IState→Prop} {s:IState},Cy K X c=true→wpC G X N (A7 K c) Q s→wpC G X N c Q s:=by
 induction c with
 | skip=>intro Q s hd hs;exact hs
 | region id ops dr =>
  intro Q s hd hs
  simp only[A7]at hs
  split at hs
  ·exact hs
  ·rename_i hk
   rcases hs with hs | hs
   ·refine .inl ⟨fun h=>?_,hs.2⟩
    subst h
    simp only[Cy,Bool.or_eq_true]at hd
    rcases hd with (h | h) | h
    ·exact absurd h hk
    ·cases h
    ·exact h
   ·cases hs.1
 | seq a b iha ihb =>
  intro Q s hd hs
  simp only[Cy,Bool.and_eq_true]at hd
  refine iha hd.1 (CO hG X N _ _ _ _ hm (fun e s' he=>?_) hs)
  cases e with
  | normal=>exact ihb hd.2 he
  | exit i=>exact he
  | ret=>exact he
 | cond c a b iha ihb =>
  intro Q s hd hs
  simp only[Cy,Bool.and_eq_true]at hd
  simp only[A7,wpC]at hs ⊢
  split at hs
  ·exact ⟨fun hv=>iha hd.1 (hs.1 hv),fun hv=>ihb hd.2 (hs.2 hv)⟩
  ·exact hs.elim
 | block id c ih=>intro Q s hd hs;exact ih hd hs
 | loop c ih =>
  intro Q s hd hs
  obtain ⟨J,n,h0,hr⟩:=hs
  exact ⟨J,n,h0,fun m s' hs'=>ih hd (hr m s' hs')⟩
 | exit id=>intro Q s hd hs;exact hs
 | ret=>intro Q s hd hs;exact hs
 | rangeFunc=>intro Q s hd hs;exact hs
 | scope c ih=>intro Q s hd hs;exact ih hd hs
 | label=>intro Q s hd hs;exact hs
 | goto=>intro Q s hd hs;exact hs
 | refuse=>intro Q s hd hs;exact hs
theorem jV {a i:Nat} : [a].contains i=(i==a):=by
 rw [List.contains_cons]
 simp
section
variable {X:Cfg} {N:Nat} {Q:IExit→IState→Prop} {ks:List Kf} {s:IState} {K:List Nat}
theorem Bi:run X N Q (A7 K .skip) ks s=Gk X N Q ks s:=nrfl rfl
theorem AQ {a b:Code}:run X N Q (A7 K (.seq a b)) ks s=run X N Q (A7 K a) (.seq (A7 K b)::ks) s:=PD
theorem AL {id:Nat} {c:Code}:run X N Q (A7 K (.block id c)) ks s=run X N Q (A7 K c) (.blk id::ks) s:=Ku
theorem JK {c:Code}:run X N Q (A7 K (.scope c)) ks s=run X N Q (A7 K c) ks s:=Yu
theorem SS {l:Nat}:run X N Q (A7 K (.label l)) ks s=Gk X N Q ks s:=Yv
theorem BW {id:Nat}:run X N Q (A7 K (.exit id)) ks s=GN X N Q ks id s:=nrfl rfl
theorem I3:run X N Q (A7 K .ret) ks s=done X N Q ks s:=nrfl rfl
theorem Am {id:Nat} {l:List Oper} {dr:Bool} (h:K.contains id=false):run X N Q (A7 K (.region id l.toArray dr)) ks s=ops X N Q l.toArray l ks s:=by
 simp only[A7,h,Bool.false_eq_true,if_false]
 exact IV
theorem AK {c:Operand} {a b:Code}:run X N Q (A7 K (.cond c a b)) ks s=GO (Ay s.env c) (run X N Q (A7 K a) ks s) (run X N Q (A7 K b) ks s):=L7
theorem Mq {g:Operand} {ps:Array Tmp} {a b:Code}:run X N Q (A7 K (.rangeFunc g ps a b)) ks s=run X N Q (.rangeFunc g ps a b) ks s:=nrfl rfl
theorem jW {id:Nat} {l:List Oper} (a b:Nat) (h:K.contains id=true) (hd:JB X l.toArray a b=true) (h1:ops X N Q l.toArray l ks s) (h2:ops X N Q l.toArray (atO l.toArray (Kt l.length a b)) ks s):run X N Q (A7 K (.region id l.toArray true)) ks s:=by
 simp only[A7,h,if_true]
 exact L6 a b hd h1 h2
end
theorem jX {P:Program} (K:List Nat) (hmix:P.follows .mixedOrders=true) {l:AU} (hl:Bm P l) (muts:List Nat) (frz:List Nat) (n dep:Nat) {f:FuncId} {fn:Func} {c:Code} (hf:P.funcs[f]?=some fn) (hb:fn.body=some c)
  (hname : (fn.name == "runtime.NumGoroutine") = false) {args : List PV} {N : Nat} (hN : fn.ntmps = N) (hn : args.length ≤ N) {rs : List ResultVar} (hrs : fn.results.toList = rs) (hd : Cy K (cfg P l muts frz dep) c = true) {r : PV}
  (h : AI args→run (cfg P l muts frz dep) N (Ai P rs (fun p st=>DR st p r)) (A7 K c) [] ⟨FC args,⟨fun i=>if i<n then some (.arr 0 1 [])else none,n⟩⟩):VC P f args r :=
 UZ hmix hl muts frz hf hb hname hN hn hrs n (dep:=dep) fun hs=>Lo (DO _) (AV rfl) hd (h hs)
theorem wF {P:Program} (K:List Nat) (hmix:P.follows .mixedOrders=true) {l:AU} (hl:Bm P l) (muts:List Nat) (frz:List Nat) (dep:Nat) {f:FuncId} {fn:Func} {c:Code} (hf:P.funcs[f]?=some fn) (hb:fn.body=some c)
  (hname : (fn.name == "runtime.NumGoroutine") = false) {args : List PV} {N : Nat} (hN : fn.ntmps = N) (hn : args.length ≤ N) {rs : List ResultVar} (hrs : fn.results.toList = rs) (hd : Cy K (cfg P l muts frz dep) c = true) {st : Store} {Q : PV → Store → Prop}
  (h : run (cfg P l muts frz dep) N (Ai P rs Q) (A7 K c) [] ⟨FC args,st⟩):IXC P f args st Q :=
 WN hmix hl muts frz hf hb hname hN hn hrs (dep:=dep) (Lo (DO _) (AV rfl) hd h)
def evR (P:Program) (fuel:Nat) (mu fr:List Nat) (n:Nat) (f:FuncId) (args:List PV):Option PV :=
 match P.funcs[f]? with
 | none=>none
 | some fn=>match fn.body with
  | none=>none
  | some c =>
   if (fn.name == "runtime.NumGoroutine") = false ∧ args.length ≤ fn.ntmps ∧ Bn (cfg P [] mu fr) c = true then
    match ev (cfg P [] mu fr) fn.ntmps fuel c ⟨FC args,stR n⟩with
    | some (.ret,s)=>(PO P fn.results.toList s).bind fun p=>rdF s.st p
    | some (.normal,s)=>(PO P fn.results.toList s).bind fun p=>rdF s.st p
    | _=>none
   else none
theorem KG {P:Program} (hmix:P.follows .mixedOrders=true) {fuel:Nat} {mu fr:List Nat} {n:Nat} {f:FuncId} {args:List PV} {q:PV} (h:evR P fuel mu fr n f args=some q):VC P f args q:=by
 unfold evR at h
 split at h
 ·cases h
 ·rename_i fn hf
  split at h
  ·cases h
  ·rename_i c hb
   split at h
   ·rename_i hc
    obtain ⟨hname,hn,hd⟩:=hc
    refine UZ (dep:=0) hmix (l := []) Ao mu fr hf hb hname rfl hn rfl n fun _=>?_
    refine C6 (AV rfl) hd ?_
    split at h
    ·rename_i s hs
     simp only[Option.bind_eq_some_iff]at h
     obtain ⟨p,hp,hq⟩:=h
     exact SR rfl _ _ _ _ _ hs _ ⟨p,hp,jU hq⟩
    ·rename_i s hs
     simp only[Option.bind_eq_some_iff]at h
     obtain ⟨p,hp,hq⟩:=h
     exact SR rfl _ _ _ _ _ hs _ ⟨p,hp,jU hq⟩
    ·cases h
   ·cases h
end Sim
