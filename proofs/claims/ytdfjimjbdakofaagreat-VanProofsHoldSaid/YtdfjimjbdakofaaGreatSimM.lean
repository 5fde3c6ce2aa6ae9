/- The ideal run of code is what the machine does. -/
import Derived.Test.YtdfjimjbdakofaaGreatSimD
import Derived.OrdersIn
import Derived.TacticsIn
import Derived.RangeFuncRecord
set_option linter.unusedVariables false
set_option linter.unusedSimpArgs false
namespace Sim
open Go
structure Simul (N:Nat) (C:Ctx) (s:IState) (a:Act) (w:World):Prop where
 defers : ∀d∈a.defers,∃b,d=⟨.collected b,#[]⟩∧C.keep b=true∧C.caller b=false
 nodup : a.defers.Nodup
 own : ∀b,C.caller b=true→C.keep b=true
 size : a.tmps.size=N
 tmp : ∀t,t<N→VR C (a.tmps.getD t undef) (s.env t)
 out : ∀t,N≤t→s.env t=.bad
 inv : Inv C s.st w
section
variable {X:Cfg} {N:Nat} {C:Ctx} {s s':IState} {a:Act} {w:World}
theorem Simul.defersMono {C':Ctx} (h:Simul N C s a w) (hle:C.le C'):∀d∈a.defers,∃b,d=⟨.collected b,#[]⟩∧C'.keep b=true∧C'.caller b=false:=fun d hd=>let ⟨b,h1,h2,h3⟩:=h.defers d hd;⟨b,h1,hle.keep b h2,by rw[hle.caller];exact h3⟩
theorem Simul.ownMono {C':Ctx} (h:Simul N C s a w) (hle:C.le C'):∀b,C'.caller b=true→C'.keep b=true:=fun b hb=>hle.keep b (h.own b (by rw[←hle.caller];exact hb))
theorem Simul.eval (h:Simul N C s a w) (x:Operand):VR C (a.eval x) (AA s.env x):=by
 cases x with
 | tmp t =>
  rcases Nat.lt_or_ge t N with hl | hl
  ·exact h.tmp t hl
  ·have : AA s.env (.tmp t)=.bad:=h.out t hl
   rw [this];exact .bad _
 | const v=>exact CA v
 | global g=>exact .bad _
 | func f=>exact .func _ _ _ _ _ rfl rfl (by intro i p h;simp at h) (by intro i p h;simp at h)
theorem Simul.put {C':Ctx} (h:Simul N C s a w) {dst:Option Nat} {v:Value} {p:PV} {st':Store} {w':World} (hle:C.le C') (hi:Inv C' st' w') (hv:VR C' v p)
  (hp : (match dst with | none=>some ⟨s.env,st'⟩ | some d=>if d<N then some ⟨upd s.env d p,st'⟩else none)=some s'):Simul N C' s' (a.put dst v) w':=by
 cases dst with
 | none =>
  simp only[Option.some.injEq]at hp;subst hp
  exact ⟨h.defersMono hle,h.nodup,h.ownMono hle,h.size,fun t ht=>(h.tmp t ht).mono hle,h.out,hi⟩
 | some d =>
  dsimp only at hp
  split at hp
  ·rename_i hd
   simp only[Option.some.injEq]at hp;subst hp
   refine ⟨h.defersMono hle,h.nodup,h.ownMono hle,by simp[Act.put,h.size],fun t ht=>?_,fun t ht=>?_,hi⟩
   ·by_cases e:t=d
    ·subst e
     have : (a.put (some t) v).tmps.getD t undef=v:=by simp[Act.put,Array.getD,h.size,ht]
     rw [this];simpa [upd]using hv
    ·have : (a.put (some d) v).tmps.getD t undef=a.tmps.getD t undef:=by
      simp only[Act.put,Array.getD_eq_getD_getElem?,Array.getElem?_setIfInBounds_ne (fun x=>e x.symm)]
     rw [this]
     simp only[upd,e,if_false]
     exact (h.tmp t ht).mono hle
   ·have : t≠d:=by omega
    simp only[upd,this,if_false]
    exact h.out t ht
  ·cases hp
def FR (rd:Option Nat):Fence:={ Fence.wide with round:=rd }
theorem callsIn_FR {rd:Option Nat} {n:Nat} {P:Program} {f:FuncId} {args:Array Value} {w:World} {R:Ending→World→Prop}:CallsIn (FR rd) n P f args w R↔Calls P f args w R:=by
 rw [←callsIn_wide (n:=n)];exact Iff.rfl
theorem kV {rd:Option Nat} {P:Program} {o:Oper} {next:Act→World→Prop} {Q:Exit→Act→World→Prop} {r:Result Next} {R:Value→World→Prop} (h:Res P r R)
  (hn : ∀v w',R v w'→next (a.put o.dst v) w'):o.uponIn (FR rd) 0 P a next Q r:=by
 unfold Res at h
 split at h
 ·exact hn _ _ h
 ·exact hn _ _ h
 ·refine ⟨fun hd=>by simp[FR,Fence.wide]at hd,CallsIn.mono (callsIn_FR.2 h) fun e w' he=>?_⟩
  obtain ⟨v,rfl,hr⟩:=he
  exact hn _ _ hr
 ·exact h.elim
theorem P4 {X:Cfg} {d:Nat} {op:Op} {ρ:Operand→PV} {st:Store} {r:PV×Store} (h:iop X d op ρ st=some r):∀c,op≠.defer c:=by
 intro c e;subst e;simp[iop]at h
theorem T7 {rd:Option Nat} (hX:E8 X) {all:Array Oper} {o:Oper} (h:stepG X N all o s=some s') (hs:Simul N C s a w) {K:Act→World→Prop} {Q:Exit→Act→World→Prop}
  (hK : ∀C' a' w',C.le C'→Simul N C' s' a' w'→K a' w') :
  if Region.wanted o (yielded all a.tmps)then o.wpIn (FR rd) 0 X.P a w K Q else (∀f,o.about X.P w a.eval=some f→(FR rd).fn f)∧K (a.put o.dst undef) w:=by
 unfold stepG at h
 simp only[Option.bind_eq_some_iff]at h
 obtain ⟨⟨p,st'⟩,hact,hput⟩:=h
 have go:iop X (o.dst.getD 0) o.op (AA s.env) s.st=some (p,st')→o.wpIn (FR rd) 0 X.P a w K Q:=fun hop=>by
  refine ⟨fun _ _=>trivial,?_⟩
  rw [Oper.semAt_eq _ _ _ (P4 hop)]
  refine kV (bA hX hop hs.inv hs.eval) fun v w' hv=>?_
  obtain ⟨C',h1,h2,h3⟩:=hv
  exact hK C' _ _ h1 (hs.put h1 h2 h3 hput)
 have skip:p=.tuple []→st'=s.st→K (a.put o.dst undef) w:=fun e1 e2=>by
  subst e1 e2
  exact hK C _ _ (Ctx.le.refl C) (hs.put (Ctx.le.refl C) hs.inv (.tuple #[] [] rfl (by intro i p h;simp at h)) hput)
 unfold Bw at hact
 split at hact
 ·rename_i hg
  rw [if_pos (by simp[Region.wanted,hg])]
  exact go hact
 ·rename_i j want hg
  split at hact
  ·rename_i b hb
   have hy:yielded all a.tmps j=some b:=by
    unfold DD at hb
    split at hb
    ·rename_i d hd
     have hd':d<N:=by
      rcases Nat.lt_or_ge d N with hl | hl
      ·exact hl
      ·rw [hs.out d hl]at hb;cases hb
     have := hs.tmp d hd'
     rw [hb]at this
     have h2:=Dn this
     have h3:a.tmps[d]?=some (.bool b):=by
      have hlt:d<a.tmps.size:=by rw[hs.size];exact hd'
      rw [Array.getElem?_eq_getElem hlt]
      simpa [Array.getD,hlt]using h2
     simp [yielded,hd,h3]
    ·cases hb
   split at hact
   ·rename_i hbw
    rw [if_pos (by simp[Region.wanted,hg,hy,hbw])]
    exact go hact
   ·rename_i hbw
    rw [if_neg (by simp[Region.wanted,hg,hy,hbw])]
    simp only[Option.some.injEq,Prod.mk.injEq]at hact
    exact ⟨fun _ _=>trivial,skip hact.1.symm hact.2.symm⟩
  ·rename_i hb
   have hy:yielded all a.tmps j=none:=by
    unfold DD at hb
    split at hb
    ·rename_i d hd
     have hd':d<N:=by
      rcases Nat.lt_or_ge d N with hl | hl
      ·exact hl
      ·rw [hs.out d hl]at hb;cases hb
     have := hs.tmp d hd'
     rw [hb]at this
     have h2:∃cs,a.tmps.getD d undef=.tuple cs:=by
      generalize a.tmps.getD d undef=v at this
      cases this with
      | tuple cs=>exact⟨cs,rfl⟩
     obtain ⟨cs,h2⟩:=h2
     have h3:a.tmps[d]?=some (.tuple cs):=by
      have hlt:d<a.tmps.size:=by rw[hs.size];exact hd'
      rw [Array.getElem?_eq_getElem hlt]
      simpa [Array.getD,hlt]using h2
     simp [yielded,hd,h3]
    ·cases hb
   rw [if_neg (by simp[Region.wanted,hg,hy])]
   simp only[Option.some.injEq,Prod.mk.injEq]at hact
   exact ⟨fun _ _=>trivial,skip hact.1.symm hact.2.symm⟩
  ·cases hact
theorem T8 {ρ ρ':Nat→PV} {x:Operand} (h:∀t,x=.tmp t→ρ t=ρ' t):AA ρ x=AA ρ' x:=by
 cases x <;> first | rfl | exact h _ rfl
theorem bM {d:Nat} {o:Op} {ρ ρ':Operand→PV} {st:Store} (h:∀x∈o.operands,ρ x=ρ' x):iop X d o ρ st=iop X d o ρ' st:=by
 have pairs:∀ps:Array (Nat×Operand),(∀x∈(ps.toList.map (·.2)),ρ x=ρ' x)→(ps.toList.map fun (i,x)=>(i,ρ x))=(ps.toList.map fun (i,x)=>(i,ρ' x)):=fun ps hp =>
  List.map_congr_left fun p hm=>by
   obtain ⟨i,x⟩:=p
   simp only[hp x (List.mem_map.2 ⟨(i,x),hm,rfl⟩)]
 have lst:∀(l:List Operand),(∀x∈l,ρ x=ρ' x)→l.map ρ=l.map ρ':=fun l hl=>List.map_congr_left hl
 cases o <;> simp only[Op.operands]at h <;> simp only[iop]
 case build t ps=>rw[pairs ps fun x hx=>h x (by simpa using hx)]
 case buildSlice t n ps=>rw[pairs ps fun x hx=>h x (by simpa using hx)]
 case makeFunc fn first captured=>rw[lst first.toList fun x hx=>h x (by simp at hx;simp[hx]),lst captured.toList fun x hx=>h x (by simp at hx;simp[hx])]
 case call c =>
  have ha:=lst c.args.toList fun x hx=>h x (by simp at hx;simp[Call.operands,hx])
  cases hc:c.callee with
  | value f=>have hf:ρ f=ρ' f:=h f (by simp[Call.operands,hc]);simp only[hf,ha]
  | invoke r m=>have hr:ρ r=ρ' r:=h r (by simp[Call.operands,hc]);simp only[hr,ha]
  | builtin b=>simp only[ha]
 case typeAssert x xt t ok =>
  have hx:ρ x=ρ' x:=h x (by simp)
  cases ok with
  | true=>rfl
  | false=>simp only[iop,hx]
 case slice t x lo hi mx =>
  cases mx with
  | some m=>rfl
  | none=>cases lo <;> cases hi <;> simp_all
 case makeMap t r =>
  cases r with
  | none=>rfl
  | some r=>simp only[h r (by simp)]
 all_goals (first | rfl | (simp_all;done))
theorem T9 (hq:Bx X) {o:Oper} (h:Hh X o=true) {ρ:Nat→PV} {st st':Store} {p:PV}
  (hop : iop X (o.dst.getD 0) o.op (AA ρ) st=some (p,st')):st'=st:=by
 obtain ⟨dst,op,ty,pos,after,guard⟩:=o
 dsimp only at hop
 cases op <;> simp only[Hh,Bool.false_eq_true]at h <;> (try simp only[iop]at hop)
 case move x=>simp only[Option.some.injEq,Prod.mk.injEq]at hop;exact hop.2.symm
 case assign x=>simp only[Option.some.injEq,Prod.mk.injEq]at hop;exact hop.2.symm
 case pick c x y =>
  split at hop
  ·simp only[Option.some.injEq,Prod.mk.injEq]at hop;exact hop.2.symm
  ·cases hop
 case box t x =>
  simp only[Bool.not_eq_true']at h
  simp only[h,Bool.false_eq_true,if_false]at hop
  split at hop
  ·simp only[Option.some.injEq,Prod.mk.injEq]at hop;exact hop.2.symm
  ·cases hop
 case buildSlice t n ps =>
  simp only[Bool.not_eq_true']at h
  simp only[h,Bool.false_eq_true,if_false]at hop
  split at hop
  ·simp only[Option.bind_eq_some_iff,Option.some.injEq,Prod.mk.injEq]at hop;obtain⟨_,_,_,e⟩:=hop;exact e.symm
  ·cases hop
 case load t x=>simp only[Option.bind_eq_some_iff,Option.map_eq_some_iff,Prod.mk.injEq]at hop;obtain⟨_,_,_,_,_,e⟩:=hop;exact e.symm
 case nilCheck x =>
  split at hop
  ·simp only[Option.some.injEq,Prod.mk.injEq]at hop;exact hop.2.symm
  ·simp only[Option.map_eq_some_iff,Prod.mk.injEq]at hop;obtain⟨_,_,_,e⟩:=hop;exact e.symm
  ·cases hop
 case slice t x lo hi mx =>
  simp only[Bool.not_eq_true']at h
  cases mx with
  | some m=>simp at hop
  | none =>
   simp only[h,Bool.false_eq_true,if_false]at hop
   split at hop
   ·cases hop
   ·cases hop
   ·simp only[Option.map_eq_some_iff,Prod.mk.injEq]at hop;obtain⟨_,_,_,e⟩:=hop;exact e.symm
 case fieldAddr t x f =>
  simp only[Option.bind_eq_some_iff]at hop
  obtain ⟨_,_,hop⟩:=hop
  split at hop
  ·simp only[Option.map_eq_some_iff,Prod.mk.injEq]at hop;obtain⟨_,_,_,e⟩:=hop;exact e.symm
  ·cases hop
 case field t x f =>
  split at hop
  ·simp only[Option.bind_eq_some_iff,Option.map_eq_some_iff,Prod.mk.injEq]at hop
   obtain ⟨_,_,_,_,_,_,_,e⟩:=hop;exact e.symm
  ·cases hop
 case indexAddr t x i =>
  split at hop
  ·simp only[Option.map_eq_some_iff,Prod.mk.injEq]at hop;obtain⟨_,_,_,e⟩:=hop;exact e.symm
  ·cases hop
 case index t x i =>
  split at hop
  ·simp only[Option.map_eq_some_iff,Prod.mk.injEq]at hop;obtain⟨_,_,_,e⟩:=hop;exact e.symm
  ·cases hop
 case extract x i =>
  split at hop
  ·simp only[Option.map_eq_some_iff,Prod.mk.injEq]at hop;obtain⟨_,_,_,e⟩:=hop;exact e.symm
  ·cases hop
 case lookup t m k ok=>simp only[Option.map_eq_some_iff,Prod.mk.injEq]at hop;obtain⟨_,_,_,e⟩:=hop;exact e.symm
 case makeFunc fn first captured=>simp only[Option.some.injEq,Prod.mk.injEq]at hop;exact hop.2.symm
 case makeInterface t x =>
  split at hop
  ·simp only[Option.some.injEq,Prod.mk.injEq]at hop;exact hop.2.symm
  ·cases hop
 case typeAssert x xt t ok =>
  cases ok with
  | true=>simp[iop]at hop
  | false =>
   simp only[iop]at hop
   split at hop
   ·split at hop
    ·simp only[Option.some.injEq,Prod.mk.injEq]at hop;exact hop.2.symm
    ·cases hop
   ·cases hop
 case call c =>
  obtain ⟨callee,args,argTypes⟩:=c
  dsimp only at h hop
  cases callee with
  | value f =>
   cases f <;> simp only[Bool.false_eq_true]at h
   rename_i f
   simp only[Bool.and_eq_true,Bool.not_eq_true']at h
   simp only[AA,DJ,h.2,Bool.false_eq_true,if_false]at hop
   split at hop
   ·cases hop
   ·exact (hq.1 _ _ _ _ _ h.1 hop).1
  | invoke r m=>simp at h
  | builtin b =>
   dsimp only at h hop
   cases b <;> simp only[Bool.false_eq_true]at h <;> (unfold Bk at hop;split at hop) <;> first
    | (cases hop;done)
    | (rename_i hb _ _;simp at hb;done)
    | (simp only[Option.map_eq_some_iff,Prod.mk.injEq]at hop;obtain⟨_,_,_,e⟩:=hop;exact e.symm)
    | skip
 all_goals (simp only[Option.map_eq_some_iff,Prod.mk.injEq]at hop;obtain⟨_,_,_,e⟩:=hop;exact e.symm)
theorem Ua (hq:Bx X) {o:Oper} (h:FC X o=true) {ρ:Nat→PV} {st st':Store} {p:PV}
  (hop : iop X (o.dst.getD 0) o.op (AA ρ) st=some (p,st')):st'=st∧∀st2,iop X (o.dst.getD 0) o.op (AA ρ) st2=some (p,st2):=by
 obtain ⟨dst,op,ty,pos,after,guard⟩:=o
 dsimp only at hop ⊢
 have mp:∀ {α:Type} {x:Option α} {f:α→PV},x.map (fun v=>(f v,st))=some (p,st')→st'=st∧∀st2:Store,x.map (fun v=>(f v,st2))=some (p,st2):=fun {α x f} h=>by
  simp only[Option.map_eq_some_iff,Prod.mk.injEq]at h ⊢
  obtain ⟨a,h1,h2,h3⟩:=h
  exact ⟨h3.symm,fun st2=>⟨a,h1,h2,trivial⟩⟩
 cases op <;> simp only[FC,Bool.false_eq_true]at h <;> (try simp only[iop]at hop ⊢)
 case makeInterface t x =>
  split at hop
  ·rename_i hc
   simp only[Option.some.injEq,Prod.mk.injEq]at hop;exact⟨hop.2.symm,fun _=>by rw[if_pos hc,hop.1]⟩
  ·cases hop
 case typeAssert x xt t ok =>
  cases ok with
  | true=>simp[iop]at hop
  | false =>
   simp only[iop]at hop ⊢
   split at hop
   ·split at hop
    ·rename_i hc
     simp only[Option.some.injEq,Prod.mk.injEq]at hop
     exact ⟨hop.2.symm,fun _=>by rw[if_pos hc,hop.1]⟩
    ·cases hop
   ·cases hop
 case move x=>simp only[Option.some.injEq,Prod.mk.injEq]at hop;exact⟨hop.2.symm,fun _=>by rw[hop.1]⟩
 case assign x=>simp only[Option.some.injEq,Prod.mk.injEq]at hop;exact⟨hop.2.symm,fun _=>by rw[hop.1]⟩
 case pick c x y =>
  split at hop
  ·simp only[Option.some.injEq,Prod.mk.injEq]at hop;exact⟨hop.2.symm,fun _=>by rw[hop.1]⟩
  ·cases hop
 case box t x =>
  simp only[Bool.not_eq_true']at h
  simp only[h,Bool.false_eq_true,if_false]at hop ⊢
  split at hop
  ·rename_i hc
   simp only[Option.some.injEq,Prod.mk.injEq]at hop;exact⟨hop.2.symm,fun _=>by rw[if_pos hc,hop.1]⟩
  ·cases hop
 case makeSlice t l c =>
  simp only[Bool.and_eq_true,beq_iff_eq]at h
  split at hop
  ·rename_i n m h1 h2
   split at hop
   ·rename_i hc
    simp only[h.1,h.2,if_true,Option.some.injEq,Prod.mk.injEq]at hop
    exact ⟨hop.2.symm,fun st2=>by simp only[if_pos hc,h.1,h.2,if_true,hop.1]⟩
   ·cases hop
  ·cases hop
 case load t x =>
  simp only[Cfg.see,h,if_true,Option.bind_eq_some_iff,Option.map_eq_some_iff,Prod.mk.injEq]at hop ⊢
  obtain ⟨a,h1,b,h2,h3,h4⟩:=hop
  exact ⟨h4.symm,fun st2=>⟨a,h1,b,h2,h3,trivial⟩⟩
 case fieldAddr t x f =>
  simp only[Cfg.see,h,if_true,Option.bind_eq_some_iff]at hop ⊢
  obtain ⟨a,h1,h2⟩:=hop
  split at h2
  ·rename_i hz
   simp only[Option.map_eq_some_iff,Prod.mk.injEq]at h2
   obtain ⟨b,h3,h4,h5⟩:=h2
   exact ⟨h5.symm,fun st2=>⟨a,h1,by rw[if_pos hz];simp[h3,h4]⟩⟩
  ·cases h2
 case indexAddr t x i =>
  simp only[Cfg.see,h,if_true]at hop ⊢
  split at hop
  ·exact mp (f:=fun v=>v) hop
  ·cases hop
 case slice t x lo hi mx =>
  simp only[Bool.and_eq_true,Bool.not_eq_true']at h
  simp only[Cfg.see,h.1,if_true]at hop ⊢
  cases mx with
  | some m=>cases hop
  | none =>
   simp only[h.2,Bool.false_eq_true,if_false]at hop ⊢
   split at hop
   ·cases hop
   ·cases hop
   ·exact mp (f:=fun v=>v) hop
 case buildSlice t n ps =>
  simp only[Bool.not_eq_true']at h
  simp only[h,Bool.false_eq_true,if_false]at hop ⊢
  split at hop
  ·rename_i hc
   simp only[Option.bind_eq_some_iff,Option.some.injEq,Prod.mk.injEq]at hop
   obtain ⟨a,h1,h2,h3⟩:=hop
   exact ⟨h3.symm,fun st2=>by rw[if_pos hc];simp only[Option.bind_eq_some_iff,Option.some.injEq,Prod.mk.injEq];exact⟨a,h1,h2,trivial⟩⟩
  ·cases hop
 case field t x f =>
  split at hop
  ·cases h1:A2 X.P t f with
   | none=>simp[h1]at hop
   | some q =>
    obtain ⟨o,z,u⟩:=q
    simp only[h1,Option.bind_some]at hop ⊢
    cases h2:Bu X.P u with
    | none=>simp[h2]at hop
    | some q =>
     obtain ⟨z,ag⟩:=q
     simp only[h2,Option.bind_some]at hop ⊢
     exact mp (f:=fun v=>v) hop
  ·cases hop
 case index t x i =>
  split at hop
  ·exact mp (f:=fun v=>v) hop
  ·cases hop
 case extract x i =>
  split at hop
  ·exact mp (f:=fun v=>v) hop
  ·cases hop
 case makeFunc fn first captured=>simp only[Option.some.injEq,Prod.mk.injEq]at hop;exact⟨hop.2.symm,fun _=>by rw[hop.1]⟩
 case call c =>
  obtain ⟨callee,args,argTypes⟩:=c
  dsimp only at h hop ⊢
  cases callee with
  | value f =>
   cases f <;> simp only[Bool.false_eq_true]at h
   ·rename_i f
    simp only[Bool.and_eq_true,Bool.not_eq_true']at h
    obtain ⟨⟨h1,h2⟩,h3⟩:=h
    simp only[AA,DJ]
    simp only[AA,DJ]at hop
    split at hop
    ·rename_i g fi ca hg
     simp only[h3,Bool.false_eq_true,if_false,h2,true_and]at hop ⊢
     split at hop
     ·cases hop
     ·rename_i hc
      rw [not_or]at hc
      obtain ⟨hc1,hc2⟩:=hc
      have hqg:X.quiet g=true:=by
       cases hx:X.quiet g with
       | true=>rfl
       | false=>exact absurd ⟨h1,hx⟩ hc2
      have hp:=hq.1 _ _ _ _ _ hqg hop
      refine ⟨hp.1,fun st2=>?_⟩
      rw [if_neg (fun hh=>hh.elim hc1 hc2)]
      exact hp.2 (by simpa using hc1) st2
    ·cases hop
   ·rename_i f
    simp only[Bool.and_eq_true,Bool.not_eq_true']at h
    obtain ⟨⟨h1,h2⟩,h3⟩:=h
    simp only[AA,DJ,h3,Bool.false_eq_true,if_false,h2,true_and]at hop ⊢
    split at hop
    ·cases hop
    ·rename_i hc
     have hp:=hq.1 _ _ _ _ _ h1 hop
     refine ⟨hp.1,fun st2=>?_⟩
     rw [if_neg hc]
     rw [not_or]at hc
     exact hp.2 (by simpa using hc.1) st2
  | invoke r m=>simp at h
  | builtin b =>
   dsimp only at h hop ⊢
   cases b <;> simp only[Bool.false_eq_true]at h
   ·unfold Bk at hop ⊢
    split at hop <;> first
     | (cases hop;done)
     | (rename_i hb _ _;simp at hb;done)
     | exact mp (f:=fun v=>v) hop
     | skip
   ·unfold Bk at hop ⊢
    split at hop <;> first
     | (cases hop;done)
     | (rename_i hb _ _;simp at hb;done)
     | exact mp (f:=fun v=>v) hop
     | skip
 all_goals exact mp (f:=fun v=>v) hop
theorem On {all:Array Oper} {o:Oper} {s1 s2:IState} (he:∀t∈o.looksAt all,s1.env t=s2.env t) (hst:s1.st=s2.st):Bw X all o s1=Bw X all o s2:=by
 have h1:iop X (o.dst.getD 0) o.op (AA s1.env) s1.st=iop X (o.dst.getD 0) o.op (AA s2.env) s2.st:=by
  rw [hst]
  exact bM fun x hx=>T8 fun t ht=>he t (List.mem_append_left _ (List.mem_filterMap.2 ⟨.tmp t,by rw[←ht];simpa using hx,rfl⟩))
 unfold Bw
 split
 ·exact h1
 ·rename_i j want hg
  have h2:DD all s1.env j=DD all s2.env j:=by
   unfold DD
   split
   ·rename_i d hd
    exact he d (List.mem_append_right _ (by simp[hg,hd]))
   ·rfl
  rw [h2]
  split
  ·split
   ·exact h1
   ·rw [hst]
  ·rw [hst]
  ·rfl
theorem BY (hq:Bx X) {all:Array Oper} {o:Oper} (h:Hh X o=true) {s:IState} {r:PV×Store} (ha:Bw X all o s=some r):r.2=s.st:=by
 unfold Bw at ha
 split at ha
 ·exact T9 hq h ha
 ·split at ha
  ·split at ha
   ·exact T9 hq h ha
   ·simp only[Option.some.injEq]at ha;rw[←ha]
  ·simp only[Option.some.injEq]at ha;rw[←ha]
  ·cases ha
theorem FF (hq:Bx X) {all:Array Oper} {o:Oper} (h:FC X o=true) {s:IState} {r:PV×Store} (ha:Bw X all o s=some r):r.2=s.st∧∀st2,Bw X all o ⟨s.env,st2⟩=some (r.1,st2):=by
 unfold Bw at ha ⊢
 split at ha
 ·rename_i hg
  obtain ⟨h1,h2⟩:=Ua hq h (p:=r.1) (st':=r.2) ha
  exact ⟨h1,fun st2=>by simp only[hg];exact h2 st2⟩
 ·rename_i j want hg
  split at ha
  ·rename_i b hb
   split at ha
   ·rename_i hbw
    obtain ⟨h1,h2⟩:=Ua hq h (p:=r.1) (st':=r.2) ha
    exact ⟨h1,fun st2=>by simp only[hg,hb,hbw,if_true];exact h2 st2⟩
   ·rename_i hbw
    simp only[Option.some.injEq]at ha
    subst ha
    exact ⟨rfl,fun st2=>by simp only[hg,hb,hbw,if_false]⟩
  ·rename_i hb
   simp only[Option.some.injEq]at ha
   subst ha
   exact ⟨rfl,fun st2=>by simp only[hg,hb]⟩
  ·cases ha
def Local (id:Nat) (F:Store→Option (PV×Store)) (st:Store) (p:PV) (st':Store):Prop :=
 st'.next = st.next∧(∀i,i≠id→st'.obj i=st.obj i)∧∀st2:Store,st2.obj id=st.obj id→F st2=some (p,⟨Ab st2.obj id (st'.obj id),st2.next⟩)
theorem Local.same {id:Nat} {F:Store→Option (PV×Store)} {st:Store} {p:PV} (h:∀st2,F st2=some (p,st2)):Local id F st p st:=by
 refine ⟨rfl,fun _ _=>rfl,fun st2 e=>?_⟩
 rw [h,←e]
 congr 2
 cases st2
 congr 1
 funext i
 by_cases hi:i=id <;> simp[Ab,hi]
theorem Ub {k z n:Nat} {l:List PV} {st st':Store} {p:PV} (h:st.re k z l n=some (p,st')):Local (k-1) (fun st=>st.re k z l n) st p st':=by
 unfold Store.re at h
 split at h
 ·rename_i g z0 es0 ho
  simp only[Option.some.injEq,Prod.mk.injEq]at h
  obtain ⟨rfl,rfl⟩:=h
  refine ⟨rfl,fun i hi=>by simp[Store.set,Ab,hi],fun st2 e=>?_⟩
  simp only[Store.re,e,ho,Store.set,Ab,if_true]
 ·cases h
theorem bN {k z:Nat} {e:PV} {st st':Store} {p:PV} (h:st.reP k z e=some (p,st')):Local (k-1) (fun st=>st.reP k z e) st p st':=by
 unfold Store.reP at h
 split at h
 ·rename_i g z0 es0 ho
  simp only[Option.some.injEq,Prod.mk.injEq]at h
  obtain ⟨rfl,rfl⟩:=h
  refine ⟨rfl,fun i hi=>by simp[Store.set,Ab,hi],fun st2 e=>?_⟩
  simp only[Store.reP,e,ho,Store.set,Ab,if_true]
 ·cases h
theorem RK {id gen s n z:Nat} {ys:List PV} {st st':Store} {p:PV} (h:CB st z (.ref id gen s n) ys=some (p,st')):Local id (fun st=>CB st z (.ref id gen s n) ys) st p st':=by
 simp only[CB,Option.bind_eq_some_iff]at h
 obtain ⟨q,hq,h⟩:=h
 have hq2:∀st2:Store,st2.obj id=st.obj id→st2.arr? id gen=some q:=fun st2 e=>by
  unfold Store.arr? at hq ⊢;rw[e];exact hq
 split at h
 ·rename_i hc
  split at h
  ·rename_i hc2
   simp only[Option.some.injEq,Prod.mk.injEq]at h
   obtain ⟨rfl,rfl⟩:=h
   refine ⟨rfl,fun i hi=>by simp[Store.set,Ab,hi],fun st2 e=>?_⟩
   simp only[CB,hq2 st2 e,Option.bind_some,if_pos hc,if_pos hc2,Store.set,Ab,if_true]
  ·rename_i hc2
   simp only[Option.some.injEq,Prod.mk.injEq]at h
   obtain ⟨rfl,rfl⟩:=h
   refine ⟨rfl,fun i hi=>by simp[Store.set,Ab,hi],fun st2 e=>?_⟩
   simp only[CB,hq2 st2 e,Option.bind_some,if_pos hc,if_neg hc2,Store.set,Ab,if_true]
 ·cases h
theorem Uc (hq:Bx X) {o:Oper} (h:BD X o=true) {ρ:Nat→PV} {st st':Store} {p:PV}
  (hop : iop X (o.dst.getD 0) o.op (AA ρ) st=some (p,st')):Local (X.num (o.dst.getD 0)-1) (fun st=>iop X (o.dst.getD 0) o.op (AA ρ) st) st p st':=by
 obtain ⟨dst,op,ty,pos,after,guard⟩:=o
 dsimp only at hop ⊢
 simp only[BD,Bool.and_eq_true,bne_iff_ne]at h
 obtain ⟨hn,h⟩:=h
 cases op <;> (try simp only[Bool.false_eq_true]at h) <;> simp only[iop]at hop ⊢
 case buildSlice t n ps =>
  split at hop
  ·rename_i hc
   simp only[Option.bind_eq_some_iff,h,hn,if_true,if_false]at hop
   obtain ⟨l,hl,hop⟩:=hop
   have := Ub hop
   simp only[if_pos hc,hl,Option.bind_some,h,hn,if_true,if_false]
   exact this
  ·cases hop
 case alloc t =>
  split at hop
  ·rename_i hc
   (try rw[if_neg hn]at hop)
   have := bN hop
   simp only[if_pos hc,if_neg hn]
   exact this
  ·cases hop
 case makeSlice t l c =>
  split at hop
  ·rename_i n m h1 h2
   split at hop
   ·rename_i hc
    (try rw[if_neg hn]at hop)
    have := Ub hop
    simp only[if_pos hc,if_neg hn]
    exact this
   ·cases hop
  ·cases hop
 case call c =>
  obtain ⟨callee,args,ats⟩:=c
  cases callee with
  | value f =>
   cases f <;> simp only[Bool.false_eq_true]at h
   rename_i f
   simp only[Bool.and_eq_true]at h
   obtain ⟨⟨h1,h2⟩,h3⟩:=h
   dsimp only at hop ⊢
   simp only[AA,DJ,h2,h3,if_true,true_and,ne_eq,hn,not_false_eq_true]at hop ⊢
   split at hop
   ·rename_i hids
    simp only[Option.bind_eq_some_iff]at hop
    obtain ⟨as,has,ht⟩:=hop
    obtain ⟨e1,e2⟩:=hq.1 _ _ _ _ _ h1 ht
    subst e1
    refine ⟨rfl,fun i hi=>by simp[Store.again,Ab,hi],fun st2 e=>?_⟩
    have honly:st2.only [X.num (dst.getD 0)-1]=⟨(st.only [X.num (dst.getD 0)-1]).obj,st2.next⟩:=by
     unfold Store.only
     congr 1
     funext i
     by_cases hc:i=X.num (dst.getD 0)-1
     ·subst hc;simp[e]
     ·simp [hc]
    have hrd:∀(l:List PV),B8 (st2.only [X.num (dst.getD 0)-1]) l=B8 (st.only [X.num (dst.getD 0)-1]) l:=fun l=>by
     have hC:∀c,rdC (st2.only [X.num (dst.getD 0)-1]) c=rdC (st.only [X.num (dst.getD 0)-1]) c:=fun c=>by
      rw [honly];cases c <;> rfl
     have hL:∀l,rdL (st2.only [X.num (dst.getD 0)-1]) l=rdL (st.only [X.num (dst.getD 0)-1]) l:=fun l=>by
      induction l with
      | nil=>rfl
      | cons c l ih=>simp only[rdL,hC,ih]
     have hP:∀c,rdP (st2.only [X.num (dst.getD 0)-1]) c=rdP (st.only [X.num (dst.getD 0)-1]) c:=fun c=>by
      unfold rdP;split
      ·rw [hL]
      ·exact hC _
     induction l with
     | nil=>rfl
     | cons c l ih=>simp only[B8,hP,ih]
    dsimp only
    rw [if_pos hids,hrd,has]
    simp only[Option.bind_some]
    rw [e2 (Qv has) (st2.again (X.num (dst.getD 0)-1))]
    simp only[Store.again,Ab,if_true,e]
   ·cases hop
  | invoke r m=>simp at h
  | builtin b =>
   dsimp only at h hop ⊢
   cases b <;> (try (simp only[Bool.false_eq_true]at h;done))
   unfold Bk at hop
   split at hop
   ·rename_i hb _ _;cases hb
   ·rename_i t u x y _ hts has
    split at hop
    ·rename_i hc
     have hg:ED (X.num (dst.getD 0)) x y=true:=by
      rcases hc.1 with h0 | h0
      ·exact absurd h0 hn
      ·exact h0
     have key:∃id gen s n,x=.ref id gen s n∧id=X.num (dst.getD 0)-1∧∀st2:Store,(Cw st2 (Ae X.P t) y).bind (fun ys=>CB st2 (Ae X.P t) x ys)=(Cw st (Ae X.P t) y).bind (fun ys=>CB st2 (Ae X.P t) x ys):=by
      unfold ED at hg
      split at hg
      ·simp only[beq_iff_eq]at hg
       exact ⟨_,_,_,_,rfl,hg,fun st2=>rfl⟩
      ·simp only[beq_iff_eq]at hg
       exact ⟨_,_,_,_,rfl,hg,fun st2=>rfl⟩
      ·cases hg
     obtain ⟨id,gen,s,n,rfl,hid,hk⟩:=key
     simp only[Option.bind_eq_some_iff]at hop
     obtain ⟨ys,hys,hop⟩:=hop
     have := RK hop
     rw [←hid]
     refine ⟨this.1,this.2.1,fun st2 e=>?_⟩
     have h3:=this.2.2 st2 e
     simp only[Bk]
     rw [hts,has]
     have hc2:(X.num (dst.getD 0)=0∨ED (X.num (dst.getD 0)) (.ref id gen s n) y=true)∧(Ae X.P u≠0∨AR X.P u=true)∧(X.frz (700000+dst.getD 0)=true→X.num (dst.getD 0)=0∧N5 st2 (.ref id gen s n) y=true):=⟨hc.1,hc.2.1,fun hf=>absurd (hc.2.2 hf).1 hn⟩
     simp only[if_pos hc2,hk st2,hys,Option.bind_some]
     exact h3
    ·cases hop
   all_goals first | (cases hop;done) | (rename_i hb _;cases hb;done) | (rename_i hb _ _;cases hb;done)
theorem Hk (hq:Bx X) {all:Array Oper} {o:Oper} (h:BD X o=true) {s:IState} {r:PV×Store} (ha:Bw X all o s=some r):Local (X.num (o.dst.getD 0)-1) (fun st=>Bw X all o ⟨s.env,st⟩) s.st r.1 r.2:=by
 unfold Bw at ha ⊢
 split at ha
 ·rename_i hg
  have := Uc hq h (p:=r.1) (st':=r.2) ha
  simp only[hg]
  exact this
 ·rename_i j want hg
  split at ha
  ·rename_i b hb
   split at ha
   ·rename_i hbw
    have := Uc hq h (p:=r.1) (st':=r.2) ha
    simp only[hg,hb,hbw,if_true]
    exact this
   ·rename_i hbw
    simp only[Option.some.injEq]at ha
    subst ha
    simp only[hg,hb,hbw,if_false]
    exact Local.same fun _=>rfl
  ·rename_i hb
   simp only[Option.some.injEq]at ha
   subst ha
   simp only[hg,hb]
   exact Local.same fun _=>rfl
  ·cases ha
theorem kW {ρ:Nat→PV} {d e:Nat} {u v:PV} (h:d≠e):upd (upd ρ d u) e v=upd (upd ρ e v) d u:=by
 funext t
 simp only[upd]
 by_cases h1:t=e
 ·subst h1
  rw [if_pos rfl,if_neg (fun x=>h x.symm),if_pos rfl]
 ·simp [h1]
theorem Ud:∀ {l m:List PV},H5 l m=true→l=m
 | [],[],_=>rfl
 | [],_::_,h=>by simp[H5]at h
 | a::l,[],h=>by cases a <;> simp[H5]at h
 | a::l,b::m,h=>by
  cases a <;> cases b <;> simp[H5]at h
  obtain ⟨⟨rfl,rfl⟩,h⟩:=h
  rw [Ud h]
theorem kX {a b:PV} (h:DH a b=true):a=b:=by
 cases a <;> cases b <;> simp[DH]at h
 ·exact congrArg _ h
 ·obtain ⟨rfl,rfl⟩:=h;rfl
 ·exact congrArg _ h
 ·exact congrArg _ (Ud h)
theorem QE {k v:PV}:∀ {es:List (PV×PV)},B7 es k=some v→CH es k v=es
 | [],h=>by simp[B7]at h
 | e::es,h=>by
  unfold B7 at h
  split at h
  ·rename_i hs
   simp only[Option.some.injEq]at h
   rw [CH,if_pos hs,kX hs,←h]
  ·rename_i hs
   rw [CH,if_neg hs,QE h]
theorem Ue {k v:PV}:∀ {es:List (PV×PV)},B7 es k=none→CH es k v=es ++ [(k,v)]
 | [],h=>rfl
 | e::es,h=>by
  unfold B7 at h
  split at h
  ·cases h
  ·rename_i hs
   rw [CH,if_neg hs,Ue h];rfl
theorem Uf {k v q:PV}:∀ {es:List (PV×PV)},B7 (es ++ [(k,v)]) q=(B7 es q).or (if DH q k=true then some v else none)
 | []=>by simp[B7]
 | e::es=>by
  rw [List.cons_append]
  unfold B7
  split
  ·rfl
  ·exact Uf
theorem bO {k z q:PV} {es:List (PV×PV)}:(B7 (CH es k ((B7 es k).getD z)) q).getD z=(B7 es q).getD z:=by
 cases h:B7 es k with
 | some v=>rw[Option.getD_some,QE h]
 | none =>
  rw [Option.getD_none,Ue h,Uf]
  cases B7 es q with
  | some v=>rfl
  | none =>
   simp only[Option.none_or]
   split <;> rfl
theorem bP {st:Store} {mk:MK} {z m k q:PV} (h:CN st (some (mk,z)) m k false=some q):BM mk k=true∧(m=.nilm∧q=z∨∃id gen es,m=.mref id gen∧st.obj id=some (.map gen mk es)∧q=(B7 es k).getD z):=by
 simp only[CN,Option.bind_some]at h
 split at h
 ·rename_i hk
  refine ⟨hk,?_⟩
  split at h
  ·simp at h;exact .inl ⟨rfl,h.symm⟩
  ·rename_i id gen
   split at h
   ·rename_i g mk' es ho
    split at h
    ·rename_i hc
     obtain ⟨rfl,rfl⟩:=hc
     refine .inr ⟨id,_,es,rfl,ho,?_⟩
     split at h
     ·rename_i v hv
      simp at h;rw[hv];exact h.symm
     ·rename_i hv
      simp at h;rw[hv];exact h.symm
    ·cases h
   ·cases h
  ·cases h
 ·cases h
theorem QF {st:Store} {mk:MK} {z k:PV} {id gen:Nat} {es:List (PV×PV)} (hk:BM mk k=true) (ho:st.obj id=some (.map gen mk es)):CN st (some (mk,z)) (.mref id gen) k false=some ((B7 es k).getD z):=by
 simp only[CN,Option.bind_some,hk,if_true,ho]
 cases B7 es k <;> rfl
theorem Ug {st st':Store} {ty:Option (MK×PV)} {m m' k k' q r:PV} (h:CN st ty m k false=some q) (h':Ey st ty m' k'=some (r,st')):CN st' ty m k false=some q:=by
 cases ty with
 | none=>simp[CN]at h
 | some t =>
  obtain ⟨mk,z⟩:=t
  simp only[Ey,Option.bind_some]at h'
  split at h'
  ·rename_i id gen
   split at h'
   ·rename_i g mk' es ho
    split at h'
    ·rename_i hc
     obtain ⟨rfl,rfl,hk'⟩:=hc
     simp only[Option.some.injEq,Prod.mk.injEq]at h'
     obtain ⟨rfl,rfl⟩:=h'
     obtain ⟨hk,⟨rfl,rfl⟩ | ⟨i,g,es',rfl,ho',rfl⟩⟩:=bP h
     ·simp [CN,hk]
     ·by_cases hi:i=id
      ·subst hi
       rw [ho]at ho';cases ho'
       rw [QF hk (show ((st.set i _).obj i)=_ from by simp[Store.set,Ab];rfl),bO]
      ·exact QF hk (by simp[Store.set,Ab,hi,ho'])
    ·cases h'
   ·cases h'
  ·cases h'
theorem kY {st:Store} {k i g:Nat}:(st.past k).arr? i g=if i<k then none else st.arr? i g:=by
 unfold Store.arr? Store.past
 dsimp only
 by_cases c:i<k
 ·rw [if_pos c,if_pos c]
 ·rw [if_neg c,if_neg c]
theorem kZ {st:Store} {i g:Nat}:(st.hard).arr? i g=(st.arr? i g).bind fun q=>if (decide (q.1≤2)&&q.2.all PV.isInt)=true then none else some q:=by
 unfold Store.arr? Store.hard
 dsimp only
 cases ho:st.obj i with
 | none=>rfl
 | some o =>
  cases o with
  | arr g' z es =>
   simp only[Option.bind_some]
   by_cases c:(decide (z≤2)&&es.all PV.isInt)=true
   ·have c':H6 (.arr g' z es)=true:=c
    rw [if_pos c']
    by_cases e:g=g'
    ·simp only[e,if_true,Option.bind_some,if_pos c]
    ·simp only[if_neg e,Option.bind_none]
   ·have c':¬H6 (.arr g' z es)=true:=c
    rw [if_neg c']
    by_cases e:g=g'
    ·simp only[e,if_true,Option.bind_some,if_neg c]
    ·simp only[if_neg e,Option.bind_none]
  | _=>rfl
theorem bQ {st st':Store} (h:Ec st st'):Ec st.hard st'.hard:=by
 intro i g q hq
 rw [kZ]at hq ⊢
 simp only[Option.bind_eq_some_iff]at hq ⊢
 obtain ⟨r,h1,h2⟩:=hq
 exact ⟨r,h _ _ _ h1,h2⟩
theorem Oo {st st':Store} (h:Ec st st') (d:Nat):Ec (X.see d st) (X.see d st'):=by
 unfold Cfg.see
 split
 ·exact fun _ _ _ h=>h
 ·split
  ·intro i g q hq
   rw [kY]at hq ⊢
   split at hq
   ·cases hq
   ·rename_i c
    rw [if_neg c];exact h _ _ _ hq
  ·split
   ·exact bQ h
   ·exact h
theorem lE {d:Nat} {op:Op} (ho:(match op with | .load ..=>true | .fieldAddr ..=>true | .indexAddr ..=>true | _=>false)=true) {ρ:Operand→PV} {st st' st1:Store} (h:Ec st st') {p:PV} (hq:iop X d op ρ st=some (p,st1)):st1=st∧iop X d op ρ st'=some (p,st'):=by
 split at ho
 ·simp only[iop,Option.bind_eq_some_iff,Option.map_eq_some_iff,Prod.mk.injEq]at hq ⊢
  obtain ⟨r,h1,q,h2,rfl,rfl⟩:=hq
  exact ⟨rfl,r,h1,_,J2 (Oo h d) h2,rfl,trivial⟩
 ·simp only[iop,Option.bind_eq_some_iff]at hq ⊢
  obtain ⟨r,h1,h2⟩:=hq
  split at h2
  ·rename_i hz
   simp only[Option.map_eq_some_iff,Prod.mk.injEq]at h2
   obtain ⟨q,h2,rfl,rfl⟩:=h2
   refine ⟨rfl,r,h1,?_⟩
   rw [if_pos hz,Iu (Oo h d) h2];rfl
  ·cases h2
 ·simp only[iop]at hq ⊢
  split at hq
  ·rename_i n hn
   simp only[Option.map_eq_some_iff,Prod.mk.injEq]at hq
   obtain ⟨q,h2,rfl,rfl⟩:=hq
   refine ⟨rfl,?_⟩
   rw [Iv (Oo h d) h2];rfl
  ·cases hq
 ·cases ho
theorem RL {st st':Store} {ty:Option (MK×PV)} {m k r:PV} (h:Ey st ty m k=some (r,st')):Ec st st':=by
 unfold Ey at h
 simp only[Option.bind_eq_some_iff]at h
 obtain ⟨⟨mk,z⟩,_,h⟩:=h
 dsimp only at h
 split at h
 ·rename_i id gen
  split at h
  ·rename_i g mk' es ho
   split at h
   ·simp only[Option.some.injEq,Prod.mk.injEq]at h
    obtain ⟨_,rfl⟩:=h
    intro i gn q hq
    unfold Store.arr? at hq ⊢
    by_cases e:i=id
    ·subst e;rw[ho]at hq;cases hq
    ·simp only[Store.set,Ab,e,if_false];exact hq
   ·cases h
  ·cases h
 ·cases h
section
variable {all:Array Oper}
theorem bR {y:Oper} {t:TypeId} {m k:Operand} (h:y.op=.mapEntry t m k) {s:IState} {py:PV} {sty:Store} (hy:Bw X all y s=some (py,sty)):Ec s.st sty:=by
 obtain ⟨yd,yop,yty,ypos,yaf,yg⟩:=y
 dsimp only at h
 subst h
 have key:∀p,iop X (yd.getD 0) (.mapEntry t m k) (AA s.env) s.st=some (p,sty)→Ec s.st sty:=fun p hp=>RL hp
 unfold Bw at hy
 dsimp only at hy
 split at hy
 ·exact key _ hy
 ·split at hy
  ·split at hy
   ·exact key _ hy
   ·cases hy;exact fun _ _ _ h=>h
  ·cases hy;exact fun _ _ _ h=>h
  ·cases hy
theorem Wv {x:Oper} (ho:(match x.op with | .load ..=>true | .fieldAddr ..=>true | .indexAddr ..=>true | _=>false)=true) {s:IState} {sty:Store} (hext:Ec s.st sty) {px:PV} {stx:Store} (ax:Bw X all x s=some (px,stx)) :
  stx = s.st∧Bw X all x ⟨s.env,sty⟩=some (px,sty):=by
 obtain ⟨xd,xop,xty,xpos,xaf,xg⟩:=x
 have hl:∀q st,iop X (xd.getD 0) xop (AA s.env) s.st=some (q,st)→st=s.st∧iop X (xd.getD 0) xop (AA s.env) sty=some (q,sty):=fun q st hq=>lE (by exact ho) hext hq
 unfold Bw at ax ⊢
 dsimp only at ax ⊢
 cases xg with
 | none=>exact hl _ _ ax
 | some g =>
  obtain ⟨j,w⟩:=g
  dsimp only at ax ⊢
  split at ax
  ·rename_i b hb
   split at ax
   ·rename_i hw
    obtain ⟨e1,e2⟩:=hl _ _ ax
    exact ⟨e1,by simp only[hb,hw,if_true];exact e2⟩
   ·rename_i hw
    cases ax
    exact ⟨rfl,by simp only[hb,if_neg hw]⟩
  ·rename_i hb
   cases ax
   exact ⟨rfl,by simp only[hb]⟩
  ·cases ax
theorem bS {x y:Oper} (h:Of x y=true) {s:IState} {px py:PV} {stx sty:Store} (hx:Bw X all x s=some (px,stx)) (hy:Bw X all y s=some (py,sty)) :
  stx = s.st∧Bw X all x ⟨s.env,sty⟩=some (px,sty):=by
 obtain ⟨xd,xop,xty,xpos,xaf,xg⟩:=x
 obtain ⟨yd,yop,yty,ypos,yaf,yg⟩:=y
 unfold Of at h
 dsimp only at h
 split at h
 ·rename_i t m k u m' k'
  have ht:t=u:=by simpa using h
  subst ht
  -- what y leaves
  have hl:∀q st,iop X (xd.getD 0) (.lookup t m k false) (AA s.env) s.st=some (q,st)→st=s.st∧iop X (xd.getD 0) (.lookup t m k false) (AA s.env) sty=some (q,sty):=by
   intro q st hq
   simp only[iop,Option.map_eq_some_iff,Prod.mk.injEq]at hq ⊢
   obtain ⟨v,hv,rfl,rfl⟩:=hq
   refine ⟨rfl,v,?_,rfl,trivial⟩
   have key:∀p,iop X (yd.getD 0) (.mapEntry t m' k') (AA s.env) s.st=some (p,sty)→CN sty (AV X.P t) (AA s.env m) (AA s.env k) false=some v:=fun p hp=>Ug hv hp
   unfold Bw at hy
   dsimp only at hy
   split at hy
   ·exact key _ hy
   ·split at hy
    ·split at hy
     ·exact key _ hy
     ·cases hy;exact hv
    ·cases hy;exact hv
    ·cases hy
  unfold Bw at hx ⊢
  dsimp only at hx ⊢
  cases xg with
  | none=>exact hl _ _ hx
  | some g =>
   obtain ⟨j,w⟩:=g
   dsimp only at hx ⊢
   split at hx
   ·rename_i b hb
    split at hx
    ·rename_i hw
     obtain ⟨e1,e2⟩:=hl _ _ hx
     exact ⟨e1,by simp only[hb,hw,if_true];exact e2⟩
    ·rename_i hw
     cases hx
     exact ⟨rfl,by simp only[hb,if_neg hw]⟩
   ·rename_i hb
    cases hx
    exact ⟨rfl,by simp only[hb]⟩
   ·cases hx
 all_goals first
  | exact Wv rfl (bR rfl hy) hx
  | cases h
end
def WF (st:Store):Prop:=∀i o,st.obj i=some o→i<st.next
theorem Inv.wf {C:Ctx} {st:Store} {w:World} (hi:Inv C st w):WF st:=fun i o h=>by
 rcases Nat.lt_or_ge i st.next with h1 | h1
 ·exact h1
 ·exact absurd (hi.obj i o h).1 (hi.next i h1)
def Ext (st st':Store):Prop:=∀i o,st.obj i=some o→st'.obj i=some o
section
variable {st st':Store}
theorem KZ (h:Ext st st') {id gen:Nat} {q:Nat×List PV} (hq:st.arr? id gen=some q):st'.arr? id gen=some q:=by
 unfold Store.arr? at hq ⊢
 cases ho:st.obj id with
 | none=>rw[ho]at hq;cases hq
 | some o=>rw[ho]at hq;rw[h id o ho];exact hq
theorem bT (h:Ext st st') {z:Nat} {ag:Bool} {p q:PV} (hq:Dl st z ag p=some q):Dl st' z ag p=some q:=by
 unfold Dl at hq ⊢
 split at hq
 ·exact hq
 ·simp only[Option.bind_eq_some_iff]at hq ⊢
  obtain ⟨r,h1,h2⟩:=hq
  exact ⟨r,KZ h h1,h2⟩
 ·cases hq
theorem Ww (h:Ext st st') {o:Nat} {p q:PV} (hq:C8 st p o=some q):C8 st' p o=some q:=by
 unfold C8 at hq ⊢
 split at hq
 ·exact hq
 ·simp only[Option.map_eq_some_iff]at hq ⊢
  obtain ⟨r,h1,h2⟩:=hq
  exact ⟨r,KZ h h1,h2⟩
 ·cases hq
end
theorem Wx {P:Program} {st st':Store} (h:Ext st st') {t:TypeId} {n:Int} {p q:PV} (hq:CC P st t p n=some q):CC P st' t p n=some q:=by
 unfold CC at hq ⊢
 split at hq
 ·exact hq
 ·simp only[Option.bind_eq_some_iff]at hq ⊢
  obtain ⟨r,h1,h2⟩:=hq
  exact ⟨r,KZ h h1,h2⟩
 ·exact hq
 ·simp only[Option.bind_eq_some_iff]at hq ⊢
  obtain ⟨r,h1,h2⟩:=hq
  exact ⟨r,KZ h h1,h2⟩
 ·cases hq
section
variable {st st':Store}
theorem lF (h:Ext st st') {z:Nat} {sb:Bool} {p:PV} {n:Int} (hq:KN st z sb p=some n):KN st' z sb p=some n:=by
 unfold KN at hq ⊢
 split at hq
 ·exact hq
 ·exact hq
 ·simp only[Option.bind_eq_some_iff]at hq ⊢
  obtain ⟨r,h1,h2⟩:=hq
  exact ⟨r,KZ h h1,h2⟩
 ·exact hq
 ·cases hq
theorem Wy (h:Ext st st') {t:Option (MK×PV)} {p:PV} {n:Int} (hq:Is st t p=some n):Is st' t p=some n:=by
 unfold Is at hq ⊢
 simp only[Option.bind_eq_some_iff]at hq ⊢
 obtain ⟨r,h1,h2⟩:=hq
 refine ⟨r,h1,?_⟩
 split at h2
 ·exact h2
 ·rename_i id gen
  cases ho:st.obj id with
  | none=>rw[ho]at h2;cases h2
  | some o=>rw[ho]at h2;rw[h id o ho];exact h2
 ·cases h2
theorem Nv (h:Ext st st') (d:Nat):Ext (X.see d st) (X.see d st'):=by
 unfold Cfg.see
 split
 ·exact fun _ _ h=>h
 ·split
  ·intro i o hq
   unfold Store.past at hq ⊢
   dsimp only at hq ⊢
   split at hq
   ·cases hq
   ·rename_i c
    rw [if_neg c];exact h _ _ hq
  ·split
   ·intro i o hq
    unfold Store.hard at hq ⊢
    dsimp only at hq ⊢
    simp only[Option.bind_eq_some_iff]at hq ⊢
    obtain ⟨r,h1,h2⟩:=hq
    exact ⟨r,h _ _ h1,h2⟩
   ·exact h
theorem Wz (h:Ext st st') {t:Option (MK×PV)} {m k:PV} {ok:Bool} {q:PV} (hq:CN st t m k ok=some q):CN st' t m k ok=some q:=by
 unfold CN at hq ⊢
 simp only[Option.bind_eq_some_iff]at hq ⊢
 obtain ⟨r,h1,h2⟩:=hq
 refine ⟨r,h1,?_⟩
 split at h2
 ·rename_i hk
  rw [if_pos hk]
  split at h2
  ·exact h2
  ·rename_i id gen
   cases ho:st.obj id with
   | none=>rw[ho]at h2;cases h2
   | some o=>rw[ho]at h2;rw[h id o ho];exact h2
  ·cases h2
 ·cases h2
end
theorem lJ {d : Nat} {op : Op} (ho : Ng ⟨none, op, 0, "", #[], none⟩ = true) {ρ : Operand → PV} {st st' st1 : Store} (h : Ext st st') {p : PV} (hq : iop X d op ρ st = some (p, st1)) : st1 = st ∧ iop X d op ρ st' = some (p, st') := by
 unfold Ng at ho
 dsimp only at ho
 split at ho
 ·simp only[iop,Option.map_eq_some_iff,Prod.mk.injEq]at hq ⊢
  obtain ⟨q,h2,rfl,rfl⟩:=hq
  exact ⟨rfl,_,Wz h h2,rfl,trivial⟩
 ·simp only[iop,Option.bind_eq_some_iff,Option.map_eq_some_iff,Prod.mk.injEq]at hq ⊢
  obtain ⟨r,h1,q,h2,rfl,rfl⟩:=hq
  exact ⟨rfl,r,h1,_,bT (Nv h d) h2,rfl,trivial⟩
 ·simp only[iop,Option.bind_eq_some_iff]at hq ⊢
  obtain ⟨r,h1,h2⟩:=hq
  split at h2
  ·rename_i hz
   simp only[Option.map_eq_some_iff,Prod.mk.injEq]at h2
   obtain ⟨q,h2,rfl,rfl⟩:=h2
   refine ⟨rfl,r,h1,?_⟩
   rw [if_pos hz,Ww (Nv h d) h2];rfl
  ·cases h2
 ·simp only[iop]at hq ⊢
  split at hq
  ·rename_i n hn
   simp only[Option.map_eq_some_iff,Prod.mk.injEq]at hq
   obtain ⟨q,h2,rfl,rfl⟩:=hq
   refine ⟨rfl,?_⟩
   rw [Wx (Nv h d) h2];rfl
  ·cases hq
 ·rename_i c0 as ts
  simp only[iop]at hq ⊢
  generalize ts.toList=tl at *
  generalize as.toList.map ρ=al at *
  unfold Bk at hq ⊢
  split at hq <;> simp_all
  obtain ⟨n,h1,rfl,rfl⟩:=hq
  refine ⟨rfl,n,?_,rfl⟩
  split at h1
  ·exact Wy h h1
  ·exact lF (Nv h _) h1
 ·cases ho
theorem QG (hq:Bx X) {all:Array Oper} {y:Oper} (hy:EU X y=true) {s:IState} (wf:WF s.st) {py:PV} {sty:Store} (ay:Bw X all y s=some (py,sty)):Ext s.st sty:=by
 have key:∀p,iop X (y.dst.getD 0) y.op (AA s.env) s.st=some (p,sty)→Ext s.st sty:=fun p hp=>by
  obtain ⟨yd,yop,yty,ypos,yaf,yg⟩:=y
  unfold EU at hy
  dsimp only at hy hp
  simp only[Bool.and_eq_true,beq_iff_eq]at hy
  obtain ⟨h1,h2⟩:=hy
  split at h2
  ·simp only[iop,h1,if_true]at hp
   split at hp
   ·simp only[Option.some.injEq,Prod.mk.injEq]at hp
    obtain ⟨_,rfl⟩:=hp
    intro i o ho
    have := wf i o ho
    simp [Store.new,Ab,show i≠s.st.next by omega,ho]
   ·cases hp
  ·rename_i t l c
   simp only[Bool.not_eq_true']at h2
   simp only[iop]at hp
   split at hp
   ·split at hp
    ·simp only[h1,if_true,h2,Bool.false_eq_true,if_false,Option.some.injEq,Prod.mk.injEq]at hp
     obtain ⟨_,rfl⟩:=hp
     intro i o ho
     have := wf i o ho
     simp [Store.new,Ab,show i≠s.st.next by omega,ho]
    ·cases hp
   ·cases hp
  ·rename_i f args ats
   simp only[Bool.and_eq_true,Bool.not_eq_true']at h2
   obtain ⟨⟨h3,h4⟩,h5⟩:=h2
   simp only[iop,AA,DJ,h4,h5,Bool.false_eq_true,if_false,false_and]at hp
   exact hq.2.1 _ _ _ _ _ h3 hp wf
  ·cases h2
 unfold Bw at ay
 dsimp only at ay
 split at ay
 ·exact key _ ay
 ·split at ay
  ·split at ay
   ·exact key _ ay
   ·cases ay;exact fun _ _ h=>h
  ·cases ay;exact fun _ _ h=>h
  ·cases ay
theorem K0 (hq:Bx X) {o:Oper} (h:Oi X o=true) {ρ:Nat→PV} {st st1:Store} {p:PV} (hop:iop X (o.dst.getD 0) o.op (AA ρ) st=some (p,st1)):st1=st∧∀st2,Ext st st2→iop X (o.dst.getD 0) o.op (AA ρ) st2=some (p,st2):=by
 obtain ⟨xd,xop,xty,xpos,xaf,xg⟩:=o
 unfold Oi at h
 dsimp only at h hop ⊢
 split at h
 ·rename_i f args ats
  simp only[Bool.and_eq_true,Bool.not_eq_true',decide_eq_true_eq]at h
  obtain ⟨⟨⟨h0,h1⟩,h2⟩,h3⟩:=h
  simp only[iop]at hop ⊢
  simp only[AA,DJ,h2,h3,Bool.false_eq_true,if_false,false_and]at hop ⊢
  exact hq.2.2 _ _ _ _ _ h0 h1 hop
 ·cases h
theorem Hl (hq:Bx X) {all:Array Oper} {o:Oper} (h:Oi X o=true) {s:IState} {p:PV} {st1:Store} (ha:Bw X all o s=some (p,st1)):st1=s.st:=by
 unfold Bw at ha
 dsimp only at ha
 split at ha
 ·exact (K0 hq h ha).1
 ·split at ha
  ·split at ha
   ·exact (K0 hq h ha).1
   ·cases ha;rfl
  ·cases ha;rfl
  ·cases ha
theorem WA (hq:Bx X) {all:Array Oper} {o:Oper} (h:Oi X o=true) {s:IState} {p:PV} {st1 st2:Store} (ha:Bw X all o s=some (p,st1)) (he:Ext s.st st2):Bw X all o ⟨s.env,st2⟩=some (p,st2):=by
 unfold Bw at ha ⊢
 dsimp only at ha ⊢
 split at ha
 ·exact (K0 hq h ha).2 st2 he
 ·rename_i j w hg
  split at ha
  ·rename_i b hb
   split at ha
   ·rename_i hw
    simp only[hb,hw,if_true]
    exact (K0 hq h ha).2 st2 he
   ·rename_i hw
    cases ha
    simp only[hb,if_neg hw]
  ·rename_i hb
   cases ha
   simp only[hb]
  ·cases ha
theorem WB (hq:Bx X) {all:Array Oper} {x y:Oper} (hx:Ng x=true) (hy:EU X y=true) {s:IState} (wf:WF s.st) {px py:PV} {stx sty:Store} (ax:Bw X all x s=some (px,stx)) (ay:Bw X all y s=some (py,sty)) :
  stx = s.st∧Bw X all x ⟨s.env,sty⟩=some (px,sty):=by
 have hext:Ext s.st sty:=QG hq hy wf ay
 obtain ⟨xd,xop,xty,xpos,xaf,xg⟩:=x
 have hl:∀q st,iop X (xd.getD 0) xop (AA s.env) s.st=some (q,st)→st=s.st∧iop X (xd.getD 0) xop (AA s.env) sty=some (q,sty):=fun q st hq=>lJ (by exact hx) hext hq
 unfold Bw at ax ⊢
 dsimp only at ax ⊢
 cases xg with
 | none=>exact hl _ _ ax
 | some g =>
  obtain ⟨j,w⟩:=g
  dsimp only at ax ⊢
  split at ax
  ·rename_i b hb
   split at ax
   ·rename_i hw
    obtain ⟨e1,e2⟩:=hl _ _ ax
    exact ⟨e1,by simp only[hb,hw,if_true];exact e2⟩
   ·rename_i hw
    cases ax
    exact ⟨rfl,by simp only[hb,if_neg hw]⟩
  ·rename_i hb
   cases ax
   exact ⟨rfl,by simp only[hb]⟩
  ·cases ax
theorem Mb {st st':Store} {k:Nat} (hn:st'.next=st.next) (ho:∀i,¬i<k→st'.obj i=st.obj i):st'.past k=st.past k:=by
 unfold Store.past
 congr 1
 funext i
 by_cases c:i<k
 ·rw [if_pos c,if_pos c]
 ·rw [if_neg c,if_neg c,ho i c]
theorem lK {d:Nat} {op:Op} (hf:X.frz (600000+d)=true) (ho:(match op with | .load .. | .fieldAddr .. | .indexAddr ..=>true | _=>false)=true) {ρ:Operand→PV} {st st' st1:Store} (h:st'.past (X.num d)=st.past (X.num d)) {p:PV} (hq:iop X d op ρ st=some (p,st1)):st1=st∧iop X d op ρ st'=some (p,st'):=by
 have hs:X.see d st'=X.see d st:=by
  unfold Cfg.see
  rw [if_pos hf,if_pos hf,h]
 split at ho
 ·simp only[iop,Option.bind_eq_some_iff,Option.map_eq_some_iff,Prod.mk.injEq]at hq ⊢
  obtain ⟨r,h1,q,h2,rfl,rfl⟩:=hq
  exact ⟨rfl,r,h1,_,by rw[hs];exact h2,rfl,trivial⟩
 ·simp only[iop,Option.bind_eq_some_iff]at hq ⊢
  obtain ⟨r,h1,h2⟩:=hq
  split at h2
  ·rename_i hz
   simp only[Option.map_eq_some_iff,Prod.mk.injEq]at h2
   obtain ⟨q,h2,rfl,rfl⟩:=h2
   refine ⟨rfl,r,h1,?_⟩
   rw [if_pos hz,hs,h2];rfl
  ·cases h2
 ·simp only[iop]at hq ⊢
  split at hq
  ·rename_i n hn
   simp only[Option.map_eq_some_iff,Prod.mk.injEq]at hq
   obtain ⟨q,h2,rfl,rfl⟩:=hq
   refine ⟨rfl,?_⟩
   rw [hs,h2];rfl
  ·cases hq
 ·cases ho
theorem Fr {all:Array Oper} {x:Oper} (hx:E9 X x=true) {s:IState} {sty:Store} (hp:sty.past (X.num (x.dst.getD 0))=s.st.past (X.num (x.dst.getD 0))) {px:PV} {stx:Store} (ax:Bw X all x s=some (px,stx)) :
  stx = s.st∧Bw X all x ⟨s.env,sty⟩=some (px,sty):=by
 obtain ⟨xd,xop,xty,xpos,xaf,xg⟩:=x
 unfold E9 at hx
 simp only[Bool.and_eq_true]at hx
 have hl:∀q st,iop X (xd.getD 0) xop (AA s.env) s.st=some (q,st)→st=s.st∧iop X (xd.getD 0) xop (AA s.env) sty=some (q,sty):=fun q st hq=>lK hx.1 hx.2 hp hq
 unfold Bw at ax ⊢
 dsimp only at ax ⊢
 cases xg with
 | none=>exact hl _ _ ax
 | some g =>
  obtain ⟨j,w⟩:=g
  dsimp only at ax ⊢
  split at ax
  ·rename_i b hb
   split at ax
   ·rename_i hw
    obtain ⟨e1,e2⟩:=hl _ _ ax
    exact ⟨e1,by simp only[hb,hw,if_true];exact e2⟩
   ·rename_i hw
    cases ax
    exact ⟨rfl,by simp only[hb,if_neg hw]⟩
  ·rename_i hb
   cases ax
   exact ⟨rfl,by simp only[hb]⟩
  ·cases ax
theorem Mc {o:Oper} (h:Og X o=true):Hh X o=true:=by
 obtain ⟨d,op,ty,pos,af,g⟩:=o
 cases op <;> simp[Og,Hh]at h ⊢
 rename_i c
 obtain ⟨_,h⟩:=h
 obtain ⟨callee,args,ats⟩:=c
 cases callee <;> simp at h ⊢
 rename_i b
 cases b <;> simp[xH]at h ⊢
theorem xN {d:Nat} {op:Op} (hf:X.frz (700000+d)=true) (hf2:X.frz (600000+d)=false) (ho:(match op with | .load .. | .fieldAddr .. | .indexAddr .. | .nilCheck _=>true | .call { callee:=.builtin b,argTypes:=ats,.. }=>xH b&&(match ats.toList with | [t]=>(AV X.P t).isNone | _=>false) | _=>false)=true) {ρ:Operand→PV} {st st' st1:Store} (h:Ec st.hard st'.hard) {p:PV} (hq:iop X d op ρ st=some (p,st1)):st1=st∧iop X d op ρ st'=some (p,st'):=by
 have hs:Ec (X.see d st) (X.see d st'):=by
  unfold Cfg.see
  split
  ·exact fun _ _ _ h=>h
  ·have e6:¬X.frz (600000+d)=true:=by rw[hf2];exact Bool.false_ne_true
   simp only[if_neg e6,if_pos hf];exact h
 split at ho
 ·simp only[iop,Option.bind_eq_some_iff,Option.map_eq_some_iff,Prod.mk.injEq]at hq ⊢
  obtain ⟨r,h1,q,h2,rfl,rfl⟩:=hq
  exact ⟨rfl,r,h1,_,J2 hs h2,rfl,trivial⟩
 ·simp only[iop,Option.bind_eq_some_iff]at hq ⊢
  obtain ⟨r,h1,h2⟩:=hq
  split at h2
  ·rename_i hz
   simp only[Option.map_eq_some_iff,Prod.mk.injEq]at h2
   obtain ⟨q,h2,rfl,rfl⟩:=h2
   refine ⟨rfl,r,h1,?_⟩
   rw [if_pos hz,Iu hs h2];rfl
  ·cases h2
 ·simp only[iop]at hq ⊢
  split at hq
  ·rename_i n hn
   simp only[Option.map_eq_some_iff,Prod.mk.injEq]at hq
   obtain ⟨q,h2,rfl,rfl⟩:=hq
   refine ⟨rfl,?_⟩
   rw [Iv hs h2];rfl
  ·cases hq
 ·simp only[iop]at hq ⊢
  split at hq
  ·simp only[Option.some.injEq,Prod.mk.injEq]at hq
   exact ⟨hq.2.symm,by simp only[hq.1]⟩
  ·simp only[Option.map_eq_some_iff,Prod.mk.injEq]at hq
   obtain ⟨q,h2,h3,h4⟩:=hq
   refine ⟨h4.symm,?_⟩
   rw [hs _ _ _ h2,←h3];rfl
  ·cases hq
 ·rename_i b as ts
  simp only[Bool.and_eq_true]at ho
  obtain ⟨hb,ho⟩:=ho
  cases b <;> simp only[xH,Bool.false_eq_true]at hb
  simp only[iop]at hq ⊢
  generalize ts.toList=tl at *
  generalize as.toList.map ρ=al at *
  unfold Bk at hq ⊢
  split at hq <;> simp_all
  obtain ⟨n,h1,rfl,rfl⟩:=hq
  exact ⟨rfl,n,Qt hs h1,rfl⟩
 ·cases ho
theorem K1 {all:Array Oper} {x:Oper} (hx:Og X x=true) {s:IState} {sty:Store} (hp:Ec s.st.hard sty.hard) {px:PV} {stx:Store} (ax:Bw X all x s=some (px,stx)) :
  stx = s.st∧Bw X all x ⟨s.env,sty⟩=some (px,sty):=by
 obtain ⟨xd,xop,xty,xpos,xaf,xg⟩:=x
 unfold Og at hx
 simp only[Bool.and_eq_true,Bool.not_eq_true']at hx
 have hl:∀q st,iop X (xd.getD 0) xop (AA s.env) s.st=some (q,st)→st=s.st∧iop X (xd.getD 0) xop (AA s.env) sty=some (q,sty):=fun q st hq=>xN hx.1.1 hx.1.2 hx.2 hp hq
 unfold Bw at ax ⊢
 dsimp only at ax ⊢
 cases xg with
 | none=>exact hl _ _ ax
 | some g =>
  obtain ⟨j,w⟩:=g
  dsimp only at ax ⊢
  split at ax
  ·rename_i b hb
   split at ax
   ·rename_i hw
    obtain ⟨e1,e2⟩:=hl _ _ ax
    exact ⟨e1,by simp only[hb,hw,if_true];exact e2⟩
   ·rename_i hw
    cases ax
    exact ⟨rfl,by simp only[hb,if_neg hw]⟩
  ·rename_i hb
   cases ax
   exact ⟨rfl,by simp only[hb]⟩
  ·cases ax
theorem Uh {l:List PV} {n:Nat} (h:l.all PV.isInt=true):(l.take n).all PV.isInt=true:=by
 rw [List.all_eq_true]at h ⊢
 exact fun x hx=>h x (List.mem_of_mem_take hx)
theorem Ui {l:List PV} {n:Nat} (h:l.all PV.isInt=true):(l.drop n).all PV.isInt=true:=by
 rw [List.all_eq_true]at h ⊢
 exact fun x hx=>h x (List.mem_of_mem_drop hx)
theorem Oq {st:Store} {id:Nat} {o:IObj} {nx:Nat} (ho:H6 o=true) (h:∀o',st.obj id=some o'→H6 o'=true):Ec st.hard (Store.hard ⟨Ab st.obj id (some o),nx⟩)∧Ec (Store.hard ⟨Ab st.obj id (some o),nx⟩) st.hard:=by
 have e:(Store.hard ⟨Ab st.obj id (some o),nx⟩).obj=st.hard.obj:=by
  funext i
  unfold Store.hard
  dsimp only
  by_cases c:i=id
  ·subst c
   simp only[Ab,if_true,Option.bind_some,ho]
   cases hs:st.obj i with
   | none=>rfl
   | some o'=>simp[h o' hs]
  ·simp [Ab,c]
 have e2:∀i g,(Store.hard ⟨Ab st.obj id (some o),nx⟩).arr? i g=st.hard.arr? i g:=fun i g=>by unfold Store.arr?;rw[e]
 exact ⟨fun i g q hq=>by rw[e2];exact hq,fun i g q hq=>by rw[e2]at hq;exact hq⟩
theorem Uj {st:Store} {id gen:Nat} {q:Nat×List PV} (hq:st.arr? id gen=some q) (hx:(decide (q.1≤2)&&q.2.all PV.isInt)=true):∀o',st.obj id=some o'→H6 o'=true:=fun o' ho=>by
 unfold Store.arr? at hq
 rw [ho]at hq
 cases o' with
 | arr g z es =>
  dsimp only at hq
  split at hq
  ·cases hq;exact hx
  ·cases hq
 | _=>cases hq
theorem K2 {v:PV} (h:v.isInt1=true):v.isInt=true∧v.cells = [v]:=by
 cases v <;> first | exact⟨rfl,rfl⟩ | (simp[PV.isInt1]at h)
theorem lL {e v:PV} {off:Nat} (he:e.isInt=true) (hv:v.isInt1=true):(Bj e off [v]).isInt=true:=by
 cases e with
 | int k n=>exact (K2 hv).1
 | agg cs =>
  simp only[PV.isInt]at he
  simp only[Bj,PV.isInt,DC]
  rw [List.all_eq_true]at he ⊢
  intro x hx
  simp only[List.mem_append,List.mem_singleton]at hx
  rcases hx with (hx | hx) | hx
  ·exact he x (List.mem_of_mem_take hx)
  ·rw [hx];exact hv
  ·exact he x (List.mem_of_mem_drop hx)
 | _=>simp[PV.isInt]at he
theorem WC {z:Nat} {a v:PV} {st st':Store} (hs:Qr st a v=true) (h:Fw st z a v=some st'):Ec st.hard st'.hard∧Ec st'.hard st.hard:=by
 unfold Qr at hs
 simp only[Bool.and_eq_true]at hs
 obtain ⟨hv,hx⟩:=hs
 split at hx
 ·rename_i id gen i o
  split at hx
  ·rename_i q hq
   simp only[Fw,hq,Option.bind_some]at h
   split at h
   ·rename_i hc
    cases h
    refine Oq ?_ (Uj hq hx)
    simp only[Bool.and_eq_true,decide_eq_true_eq]at hx
    simp only[H6,Bool.and_eq_true,decide_eq_true_eq]
    refine ⟨hx.1,?_⟩
    have hall:=hx.2
    rw [List.all_eq_true]at hall ⊢
    intro e he
    rcases List.mem_or_eq_of_mem_set he with he | he
    ·exact hall e he
    ·rw [he,(K2 hv).2]
     exact lL (hall _ (List.mem_of_getElem? (Db hc.2.2.1))) hv
   ·cases h
  ·cases hx
 ·cases hx
theorem Uk {z:Nat} {x y p:PV} {st st':Store} {ys:List PV} (hs:N5 st x y=true) (hys:Cw st z y=some ys) (h:CB st z x ys=some (p,st')):Ec st.hard st'.hard∧Ec st'.hard st.hard:=by
 unfold N5 at hs
 simp only[Bool.and_eq_true]at hs
 obtain ⟨hy,hx⟩:=hs
 split at hy
 ·rename_i z' l
  simp only[Cw]at hys
  split at hys
  ·cases hys
   split at hx
   ·rename_i id gen s n
    split at hx
    ·rename_i q hq
     simp only[CB,hq,Option.bind_some]at h
     have hold:=Uj hq hx
     simp only[Bool.and_eq_true,decide_eq_true_eq]at hx
     split at h
     ·rename_i hz
      have hz2:z≤2:=by rw[←hz.2.1];exact hx.1
      split at h
      ·cases h
       exact Oq (by simp[H6,List.all_append,Uh hx.2,Ui hx.2,hy,hz2]) hold
      ·cases h
       exact Oq (by simp[H6,List.all_append,Uh (Ui hx.2),hy,hz2]) hold
     ·cases h
    ·cases hx
   ·cases hx
  ·cases hys
 ·cases hy
theorem lM {d:Nat} {o:Oper} (hy:Oh X o=true) {ρ:Operand→PV} {st:Store}:∀q,iop X (o.dst.getD 0) o.op ρ st=some q→Ec st.hard q.2.hard∧Ec q.2.hard st.hard:=by
 obtain ⟨yd,yop,yty,ypos,yaf,yg⟩:=o
 unfold Oh at hy
 dsimp only at hy ⊢
 intro q hq
 split at hy
 ·rename_i b args ats
  simp only[Bool.and_eq_true]at hy
  obtain ⟨hf,ho⟩:=hy
  split at ho
  ·simp only[iop]at hq
   unfold Bk at hq
   split at hq
   ·rename_i hb _ _;cases hb
   ·rename_i t u x y _ hts has
    split at hq
    ·rename_i hc
     simp only[Option.bind_eq_some_iff]at hq
     obtain ⟨ys,hys,hq⟩:=hq
     exact Uk (hc.2.2 hf).2 hys hq
    ·cases hq
   all_goals first | (cases hq;done) | (rename_i hb _;cases hb;done) | (rename_i hb _ _;cases hb;done)
  ·cases ho
 ·rename_i t a x
  simp only[iop]at hq
  split at hq
  ·cases hq
  ·rename_i hc
   simp only[Option.map_eq_some_iff]at hq
   obtain ⟨st',h1,rfl⟩:=hq
   refine WC (a:=ρ a) (v:=ρ x) ?_ h1
   cases hss:Qr st (ρ a) (ρ x)with
   | true=>rfl
   | false=>exact absurd (Or.inl ⟨hy,hss⟩) hc
 ·cases hy
theorem QH {all:Array Oper} {y:Oper} (hy:Oh X y=true) {s:IState} {py:PV} {sty:Store} (ay:Bw X all y s=some (py,sty)):Ec s.st.hard sty.hard∧Ec sty.hard s.st.hard:=by
 have key:=lM (d:=0) hy (ρ:=AA s.env) (st:=s.st)
 unfold Bw at ay
 dsimp only at ay
 split at ay
 ·exact key _ ay
 ·split at ay
  ·split at ay
   ·exact key _ ay
   ·cases ay;exact⟨fun _ _ _ h=>h,fun _ _ _ h=>h⟩
  ·cases ay;exact⟨fun _ _ _ h=>h,fun _ _ _ h=>h⟩
  ·cases ay
theorem WD {z k j:Nat} {a v:PV} {st st':Store} (hs:Qs k a=true) (hk:k≠0) (hj:k-1<j) (h:Fw st z a v=some st'):st'.next=st.next∧∀i,j≤i→st'.obj i=st.obj i:=by
 unfold Qs at hs
 split at hs
 ·rename_i id gen i o
  have e:id=k-1:=by simpa using hs
  simp only[Fw,Option.bind_eq_some_iff]at h
  obtain ⟨q,h1,h2⟩:=h
  split at h2
  ·cases h2
   refine ⟨rfl,fun i hi=>?_⟩
   simp only[Store.set,Ab]
   rw [if_neg (by omega)]
  ·cases h2
 ·cases hs
theorem bU {all:Array Oper} {x y:Oper} (hy:(match y.op with | .store _ a _=>X.frz (900000+Dm a)&&(X.num (Dm a) != 0)&&decide (X.num (Dm a)-1<X.num (x.dst.getD 0)) | _=>false)=true) {s:IState} {py:PV} {sty:Store} (ay:Bw X all y s=some (py,sty)) :
  sty.next = s.st.next∧∀i,X.num (x.dst.getD 0)≤i→sty.obj i=s.st.obj i:=by
 obtain ⟨yd,yop,yty,ypos,yaf,yg⟩:=y
 dsimp only at hy
 split at hy
 ·rename_i t a v
  simp only[Bool.and_eq_true,bne_iff_ne,decide_eq_true_eq]at hy
  obtain ⟨⟨hf,hn⟩,hlt⟩:=hy
  have key:∀q,iop X (yd.getD 0) (.store t a v) (AA s.env) s.st=some q→q.2.next=s.st.next∧∀i,X.num (x.dst.getD 0)≤i→q.2.obj i=s.st.obj i:=fun q hq=>by
   simp only[iop]at hq
   split at hq
   ·cases hq
   ·rename_i hc
    simp only[Option.map_eq_some_iff]at hq
    obtain ⟨st',h1,rfl⟩:=hq
    refine WD (k:=X.num (Dm a)) ?_ hn hlt h1
    cases hh:Qs (X.num (Dm a)) (AA s.env a)with
    | true=>rfl
    | false=>exact absurd (Or.inr ⟨hf,hh⟩) hc
  unfold Bw at ay
  dsimp only at ay
  split at ay
  ·exact key _ ay
  ·split at ay
   ·split at ay
    ·exact key _ ay
    ·cases ay;exact⟨rfl,fun _ _=>rfl⟩
   ·cases ay;exact⟨rfl,fun _ _=>rfl⟩
   ·cases ay
 ·cases hy
def IG (st st':Store):Prop:=∀id gen q,st.arr? id gen=some q→∃es,st'.arr? id gen=some (q.1,es)∧es.length=q.2.length
theorem RM {st st':Store} (h:IG st st') {p q:PV} {o:Nat} (hq:C8 st p o=some q):C8 st' p o=some q:=by
 unfold C8 at hq ⊢
 split at hq
 ·exact hq
 ·simp only[Option.map_eq_some_iff]at hq ⊢
  obtain ⟨r,h1,h2⟩:=hq
  obtain ⟨es,h3,_⟩:=h _ _ _ h1
  exact ⟨_,h3,h2⟩
 ·cases hq
theorem RO {P:Program} {st st':Store} (h:IG st st') {t:TypeId} {n:Int} {p q:PV} (hq:CC P st t p n=some q):CC P st' t p n=some q:=by
 unfold CC at hq ⊢
 split at hq
 ·exact hq
 ·simp only[Option.bind_eq_some_iff]at hq ⊢
  obtain ⟨r,h1,h2⟩:=hq
  obtain ⟨es,h3,h4⟩:=h _ _ _ h1
  exact ⟨_,h3,by rw[h4];exact h2⟩
 ·exact hq
 ·simp only[Option.bind_eq_some_iff]at hq ⊢
  obtain ⟨r,h1,h2⟩:=hq
  obtain ⟨es,h3,h4⟩:=h _ _ _ h1
  exact ⟨_,h3,h2⟩
 ·cases hq
theorem I8 {all:Array Oper} {x:Oper} (hx:KY X x=true) {s:IState} {sty:Store} (hp:IG s.st sty) {px:PV} {stx:Store} (ax:Bw X all x s=some (px,stx)) :
  stx = s.st∧Bw X all x ⟨s.env,sty⟩=some (px,sty):=by
 obtain ⟨xd,xop,xty,xpos,xaf,xg⟩:=x
 unfold KY at hx
 simp only[Bool.and_eq_true,Bool.not_eq_true']at hx
 obtain ⟨⟨⟨f1,f2⟩,f3⟩,ho⟩:=hx
 have hsee:∀st:Store,X.see (xd.getD 0) st=st:=fun st=>by
  unfold Cfg.see
  simp only[f1,f2,f3,Bool.false_eq_true,if_false]
 have hl:∀q st,iop X (xd.getD 0) xop (AA s.env) s.st=some (q,st)→st=s.st∧iop X (xd.getD 0) xop (AA s.env) sty=some (q,sty):=fun q st hq=>by
  split at ho
  ·simp only[iop,hsee,Option.bind_eq_some_iff]at hq ⊢
   obtain ⟨r,h1,h2⟩:=hq
   split at h2
   ·rename_i hz
    simp only[Option.map_eq_some_iff,Prod.mk.injEq]at h2
    obtain ⟨q,h2,rfl,rfl⟩:=h2
    refine ⟨rfl,r,h1,?_⟩
    rw [if_pos hz,RM hp h2];rfl
   ·cases h2
  ·simp only[iop,hsee]at hq ⊢
   split at hq
   ·rename_i n hn
    simp only[Option.map_eq_some_iff,Prod.mk.injEq]at hq
    obtain ⟨q,h2,rfl,rfl⟩:=hq
    refine ⟨rfl,?_⟩
    rw [RO hp h2];rfl
   ·cases hq
  ·cases ho
 unfold Bw at ax ⊢
 dsimp only at ax ⊢
 cases xg with
 | none=>exact hl _ _ ax
 | some g =>
  obtain ⟨j,w⟩:=g
  dsimp only at ax ⊢
  split at ax
  ·rename_i b hb
   split at ax
   ·rename_i hw
    obtain ⟨e1,e2⟩:=hl _ _ ax
    exact ⟨e1,by simp only[hb,hw,if_true];exact e2⟩
   ·rename_i hw
    cases ax
    exact ⟨rfl,by simp only[hb,if_neg hw]⟩
  ·rename_i hb
   cases ax
   exact ⟨rfl,by simp only[hb]⟩
  ·cases ax
theorem RP {z:Nat} {a v:PV} {st st':Store} (h:Fw st z a v=some st'):IG st st'∧IG st' st:=by
 unfold Fw at h
 split at h
 ·rename_i id gen i o
  simp only[Option.bind_eq_some_iff]at h
  obtain ⟨q,h1,h2⟩:=h
  split at h2
  ·cases h2
   have h0:=h1
   unfold Store.arr? at h1
   split at h1
   ·rename_i g z0 es he
    split at h1
    ·rename_i hg
     cases h1
     refine ⟨fun id' gen' q' hq=>?_,fun id' gen' q' hq=>?_⟩
     ·by_cases e:id'=id
      ·subst e
       unfold Store.arr? at hq ⊢
       rw [he]at hq
       simp only[Store.set,Ab,if_true]
       dsimp only at hq
       split at hq
       ·rename_i hg2
        cases hq
        exact ⟨_,by rw[if_pos (by omega)],by simp⟩
       ·cases hq
      ·unfold Store.arr? at hq ⊢
       simp only[Store.set,Ab,if_neg e]
       exact ⟨q'.2,hq,rfl⟩
     ·by_cases e:id'=id
      ·subst e
       unfold Store.arr? at hq ⊢
       simp only[Store.set,Ab,if_true]at hq
       rw [he]
       dsimp only
       split at hq
       ·rename_i hg2
        cases hq
        exact ⟨es,by rw[if_pos (by omega)],by simp⟩
       ·cases hq
      ·unfold Store.arr? at hq ⊢
       simp only[Store.set,Ab,if_neg e]at hq
       exact ⟨q'.2,hq,rfl⟩
    ·cases h1
   ·cases h1
  ·cases h2
 ·cases h
theorem Ul {all:Array Oper} {y:Oper} (hy:Wr y=true) {s:IState} {py:PV} {sty:Store} (ay:Bw X all y s=some (py,sty)):IG s.st sty∧IG sty s.st:=by
 obtain ⟨yd,yop,yty,ypos,yaf,yg⟩:=y
 unfold Wr at hy
 dsimp only at hy
 have rf:IG s.st s.st∧IG s.st s.st:=⟨fun _ _ q h=>⟨q.2,h,rfl⟩,fun _ _ q h=>⟨q.2,h,rfl⟩⟩
 split at hy
 ·rename_i t a v
  have key:∀q,iop X (yd.getD 0) (.store t a v) (AA s.env) s.st=some q→IG s.st q.2∧IG q.2 s.st:=fun q hq=>by
   simp only[iop]at hq
   split at hq
   ·cases hq
   ·simp only[Option.map_eq_some_iff]at hq
    obtain ⟨st',h1,rfl⟩:=hq
    exact RP h1
  unfold Bw at ay
  dsimp only at ay
  split at ay
  ·exact key _ ay
  ·split at ay
   ·split at ay
    ·exact key _ ay
    ·cases ay;exact rf
   ·cases ay;exact rf
   ·cases ay
 ·cases hy
theorem bV (hq:Bx X) {all:Array Oper} {x y:Oper} (hc:FE X all x y=true) {s s1 s2:IState} (hwf:EU X y=true→WF s.st) (hx:stepG X N all x s=some s1) (hy:stepG X N all y s1=some s2) :
  ∃ s1',stepG X N all y s=some s1'∧stepG X N all x s1'=some s2:=by
 unfold FE at hc
 simp only[Bool.and_eq_true,Bool.or_eq_true]at hc
 obtain ⟨⟨⟨hap,_⟩,_⟩,hk⟩:=hc
 obtain ⟨a1,a2,a3⟩:=Oper.apart_spec hap
 unfold stepG at hx hy ⊢
 simp only[Option.bind_eq_some_iff]at hx hy ⊢
 obtain ⟨⟨px,stx⟩,hax,hpx⟩:=hx
 obtain ⟨⟨py,sty⟩,hay,hpy⟩:=hy
 -- what x leaves
 have hs1:s1.st=stx∧(∀t,t ∉ x.dst.toList→s1.env t=s.env t):=by
  unfold Hg at hpx
  split at hpx
  ·simp only[Option.some.injEq]at hpx;subst hpx;exact⟨rfl,fun _ _=>rfl⟩
  ·rename_i d hd
   split at hpx
   ·simp only[Option.some.injEq]at hpx;subst hpx
    exact ⟨rfl,fun t ht=>by simp[hd]at ht;simp[upd,ht]⟩
   ·cases hpx
 have hylook:∀t∈y.looksAt all,t ∉ x.dst.toList:=fun t ht hm=>by
  have : x.dst=some t:=by simpa using hm
  exact a1 t this ht
 have hxlook:∀t∈x.looksAt all,t ∉ y.dst.toList:=fun t ht hm=>by
  have : y.dst=some t:=by simpa using hm
  exact a3 t this ht
 -- y first
 have hay':∃st1,Bw X all y s=some (py,st1)∧(∀e:Nat→PV,(∀t∈x.looksAt all,e t=s.env t)→Bw X all x ⟨e,st1⟩=some (px,sty)):=by
  have cong:Bw X all y ⟨s.env,stx⟩=some (py,sty):=by
   rw [←hay]
   exact On (fun t ht=>(hs1.2 t (hylook t ht)).symm) hs1.1.symm
  have xe:∀(e:Nat→PV) (st:Store),(∀t∈x.looksAt all,e t=s.env t)→Bw X all x ⟨e,st⟩=Bw X all x ⟨s.env,st⟩:=fun e st he=>On he rfl
  rcases hk with ((((((((((((⟨hqx,hqy⟩ | hax') | hay') | ⟨⟨hlx,hly⟩,hne⟩) | hsl) | ⟨hlk,hfr⟩) | ⟨⟨hpx',hly⟩,hlt⟩) | ⟨⟨hlx,hpy'⟩,hlt⟩) | ⟨hlo,hhi⟩) | ⟨hhi,hlo⟩) | hhe) | ⟨hca,hfr⟩) | ⟨had,hst⟩) | ⟨hst,had⟩
  ·have e1:=BY hq hqx hax
   have e1:stx=s.st:=e1
   subst e1
   have e2:=BY hq hqy cong
   have e2:sty=s.st:=e2
   subst e2
   exact ⟨s.st,cong,fun e he=>by rw[xe e _ he];exact hax⟩
  ·obtain ⟨e1,e2⟩:=FF hq hax' hax
   have e1:stx=s.st:=e1
   subst e1
   exact ⟨sty,cong,fun e he=>by rw[xe e _ he];exact e2 sty⟩
  ·obtain ⟨e1,e2⟩:=FF hq hay' cong
   have e1:sty=stx:=e1
   subst e1
   exact ⟨s.st,e2 s.st,fun e he=>by rw[xe e _ he];exact hax⟩
  ·simp only[bne_iff_ne]at hne
   have l1:=Hk hq hlx hax
   have l2:=Hk hq hly cong
   dsimp only at l1 l2
   obtain ⟨n1,o1,f1⟩:=l1
   obtain ⟨n2,o2,f2⟩:=l2
   dsimp only at f1 f2
   refine ⟨_,f2 s.st (o1 _ (fun e=>hne e.symm)).symm,fun e he=>?_⟩
   rw [xe e _ he,f1 _ (by simp[Ab,hne])]
   congr 2
   cases sty with
   | mk ob nx =>
    dsimp only at n2 o2 ⊢
    congr 1
    ·funext i
     by_cases hi:i=X.num (x.dst.getD 0)-1
     ·subst hi
      simp only[Ab,if_true]
      exact (o2 _ hne).symm
     ·by_cases hj:i=X.num (y.dst.getD 0)-1
      ·subst hj
       simp [Ab,hi]
      ·simp only[Ab,hi,hj,if_false]
       rw [o2 i hj,o1 i hi]
    ·rw [n2,n1]
  ·have e0:stx=s.st:=by
    obtain ⟨xd,xop,xty,xpos,xaf,xg⟩:=x
    exact BY hq (by
     unfold Of at hsl
     dsimp only at hsl
     split at hsl <;> first | rfl | (cases hsl;done)) hax
   subst e0
   obtain ⟨e1,e2⟩:=bS hsl hax cong
   exact ⟨sty,cong,fun e he=>by rw[xe e _ he];exact e2⟩
  ·have e0:stx=s.st:=by
    obtain ⟨xd,xop,xty,xpos,xaf,xg⟩:=x
    exact BY hq (by
     unfold Ng at hlk
     dsimp only at hlk
     split at hlk <;> first | rfl | (cases hlk;done)) hax
   subst e0
   obtain ⟨e1,e2⟩:=WB hq hlk hfr (hwf hfr) hax cong
   exact ⟨sty,cong,fun e he=>by rw[xe e _ he];exact e2⟩
  ·simp only[decide_eq_true_eq]at hlt
   have e1:=(Fr hpx' (sty:=s.st) rfl hax).1
   subst e1
   obtain ⟨n2,o2,_⟩:=Hk hq hly cong
   dsimp only at n2 o2
   have e2:=(Fr hpx' (sty:=sty) (Mb n2 fun i hi=>o2 i (by omega)) hax).2
   exact ⟨sty,cong,fun e he=>by rw[xe e _ he];exact e2⟩
  ·simp only[decide_eq_true_eq]at hlt
   obtain ⟨n1,o1,_⟩:=Hk hq hlx hax
   dsimp only at n1 o1
   have e1:=(Fr hpy' (sty:=stx) rfl cong).1
   have e1:sty=stx:=e1
   subst e1
   have e2:=(Fr hpy' (s:=⟨s.env,sty⟩) (sty:=s.st) (Mb n1.symm fun i hi=>(o1 i (by omega)).symm) cong).2
   exact ⟨s.st,e2,fun e he=>by rw[xe e _ he];exact hax⟩
  ·have e1:=(K1 hlo (sty:=s.st) (fun _ _ _ h=>h) hax).1
   subst e1
   have hh:=(QH hhi cong).1
   exact ⟨sty,cong,fun e he=>by rw[xe e _ he];exact (K1 hlo hh hax).2⟩
  ·have e1:=(K1 hlo (sty:=stx) (fun _ _ _ h=>h) cong).1
   have e1:sty=stx:=e1
   subst e1
   have hh:=(QH hhi hax).2
   exact ⟨s.st,(K1 hlo (s:=⟨s.env,sty⟩) (sty:=s.st) hh cong).2,fun e he=>by rw[xe e _ he];exact hax⟩
  ·unfold Nh at hhe
   simp only[Bool.and_eq_true]at hhe
   obtain ⟨hpx',hh⟩:=hhe
   have e1:=(Fr hpx' (sty:=s.st) rfl hax).1
   subst e1
   obtain ⟨n2,o2⟩:=bU hh cong
   have e2:=(Fr hpx' (sty:=sty) (Mb n2 fun i hi=>o2 i (by omega)) hax).2
   exact ⟨sty,cong,fun e he=>by rw[xe e _ he];exact e2⟩
  ·have e0:=Hl hq hca hax
   have e0:stx=s.st:=e0
   subst e0
   exact ⟨sty,cong,fun e he=>by rw[xe e _ he];exact WA hq hca hax (QG hq hfr (hwf hfr) cong)⟩
  ·have e1:=(I8 had (sty:=s.st) (fun _ _ q h=>⟨q.2,h,rfl⟩) hax).1
   subst e1
   exact ⟨sty,cong,fun e he=>by rw[xe e _ he];exact (I8 had (Ul hst cong).1 hax).2⟩
  ·have e1:=(I8 had (sty:=stx) (fun _ _ q h=>⟨q.2,h,rfl⟩) cong).1
   have e1:sty=stx:=e1
   subst e1
   exact ⟨s.st,(I8 had (s:=⟨s.env,sty⟩) (sty:=s.st) (Ul hst hax).2 cong).2,fun e he=>by rw[xe e _ he];exact hax⟩
 obtain ⟨st1,hy1,hx1⟩:=hay'
 unfold Hg at hpx hpy
 cases hdy:y.dst with
 | none =>
  rw [hdy]at hpy
  simp only[Option.some.injEq]at hpy
  refine ⟨⟨s.env,st1⟩,⟨_,hy1,by simp[Hg,hdy]⟩,⟨_,hx1 s.env (fun _ _=>rfl),?_⟩⟩
  cases hdx:x.dst with
  | none=>rw[hdx]at hpx;simp only[Option.some.injEq]at hpx;subst hpx;subst hpy;simp[Hg,hdx]
  | some dx =>
   rw [hdx]at hpx
   dsimp only at hpx
   split at hpx
   ·rename_i hlt
    simp only[Option.some.injEq]at hpx;subst hpx;subst hpy;simp[Hg,hdx,hlt]
   ·cases hpx
 | some dy =>
  rw [hdy]at hpy
  dsimp only at hpy
  split at hpy
  ·rename_i hltY
   simp only[Option.some.injEq]at hpy
   refine ⟨⟨upd s.env dy py,st1⟩,⟨_,hy1,by simp[Hg,hdy,hltY]⟩,⟨_,hx1 _ (fun t ht=>?_),?_⟩⟩
   ·have := hxlook t ht
    simp [hdy]at this
    simp [upd,this]
   ·cases hdx:x.dst with
    | none=>rw[hdx]at hpx;simp only[Option.some.injEq]at hpx;subst hpx;subst hpy;simp[Hg,hdx]
    | some dx =>
     rw [hdx]at hpx
     dsimp only at hpx
     split at hpx
     ·rename_i hlt
      simp only[Option.some.injEq]at hpx;subst hpx;subst hpy
      have hne:dx≠dy:=fun e=>a2 dx hdx (by rw[hdy,e])
      simp [Hg,hdx,hlt,kW hne]
     ·cases hpx
  ·cases hpy
def JJ (X:Cfg) (N:Nat) (all:Array Oper):List Nat→IState→(IState→Prop)→Prop
 | [],s,K=>K s
 | i::l,s,K=>match all[i]? with | some o=>DM X N all o s fun s1=>JJ X N all l s1 K | none=>False
theorem lN {all:Array Oper} {x y:Oper} (hc:FE X all x y=true):BV X x.op=true∧BV X y.op=true:=by
 unfold FE at hc
 simp only[Bool.and_eq_true]at hc
 exact ⟨hc.1.1.2,hc.1.2⟩
theorem WE (hq:Bx X) {all:Array Oper} {x y:Oper} (hf:EU X y=true) (hc:FE X all x y=true) {s s1:IState} (hx:stepG X N all x s=some s1):s1.st=s.st:=by
 unfold stepG at hx
 simp only[Option.bind_eq_some_iff]at hx
 obtain ⟨⟨px,stx⟩,hax,hpx⟩:=hx
 have hst:s1.st=stx:=by
  unfold Hg at hpx
  split at hpx
  ·simp only[Option.some.injEq]at hpx;subst hpx;rfl
  ·split at hpx
   ·simp only[Option.some.injEq]at hpx;subst hpx;rfl
   ·cases hpx
 rw [hst]
 unfold FE at hc
 simp only[Bool.and_eq_true,Bool.or_eq_true]at hc
 obtain ⟨_,hk⟩:=hc
 obtain ⟨yd,yop,yty,ypos,yaf,yg⟩:=y
 unfold EU at hf
 dsimp only at hf
 simp only[Bool.and_eq_true,beq_iff_eq]at hf
 obtain ⟨h1,h2⟩:=hf
 split at h2
 ·rcases hk with ((((((((((((⟨hqx,hqy⟩ | hax') | hay') | ⟨⟨hlx,hly⟩,hne⟩) | hsl) | ⟨hlk,hfr⟩) | ⟨⟨hpx',hly⟩,hlt⟩) | ⟨⟨hlx,hpy'⟩,hlt⟩) | ⟨hlo,hhi⟩) | ⟨hhi,hlo⟩) | hhe) | ⟨hca,hfr⟩) | ⟨had,hst⟩) | ⟨hst,had⟩
  ·exact BY hq hqx hax
  ·exact (FF hq hax' hax).1
  ·simp [FC]at hay'
  ·simp [BD,h1]at hly
  ·unfold Of at hsl
   dsimp only at hsl
   split at hsl <;> first | (rename_i he;cases he;done) | (cases hsl;done)
  ·obtain ⟨xd,xop,xty,xpos,xaf,xg⟩:=x
   exact BY hq (by
    unfold Ng at hlk
    dsimp only at hlk
    split at hlk <;> first | rfl | (cases hlk;done)) hax
  ·simp [BD,h1]at hly
  ·simp [E9]at hpy'
  ·exact BY hq (Mc hlo) hax
  ·simp [Og]at hlo
  ·simp [Nh]at hhe
  ·exact Hl hq hca hax
  ·simp [Wr]at hst
  ·simp [KY]at had
 ·rcases hk with ((((((((((((⟨hqx,hqy⟩ | hax') | hay') | ⟨⟨hlx,hly⟩,hne⟩) | hsl) | ⟨hlk,hfr⟩) | ⟨⟨hpx',hly⟩,hlt⟩) | ⟨⟨hlx,hpy'⟩,hlt⟩) | ⟨hlo,hhi⟩) | ⟨hhi,hlo⟩) | hhe) | ⟨hca,hfr⟩) | ⟨had,hst⟩) | ⟨hst,had⟩
  ·exact BY hq hqx hax
  ·exact (FF hq hax' hax).1
  ·simp [FC,h1]at hay';simp[hay']at h2
  ·simp [BD,h1]at hly
  ·unfold Of at hsl
   dsimp only at hsl
   split at hsl <;> first | (rename_i he;cases he;done) | (cases hsl;done)
  ·obtain ⟨xd,xop,xty,xpos,xaf,xg⟩:=x
   exact BY hq (by
    unfold Ng at hlk
    dsimp only at hlk
    split at hlk <;> first | rfl | (cases hlk;done)) hax
  ·simp [BD,h1]at hly
  ·simp [E9]at hpy'
  ·exact BY hq (Mc hlo) hax
  ·simp [Og]at hlo
  ·simp [Nh]at hhe
  ·exact Hl hq hca hax
  ·simp [Wr]at hst
  ·simp [KY]at had
 ·rename_i f args ats
  simp only[Bool.and_eq_true,Bool.not_eq_true']at h2
  rcases hk with ((((((((((((⟨hqx,hqy⟩ | hax') | hay') | ⟨⟨hlx,hly⟩,hne⟩) | hsl) | ⟨hlk,hfr⟩) | ⟨⟨hpx',hly⟩,hlt⟩) | ⟨⟨hlx,hpy'⟩,hlt⟩) | ⟨hlo,hhi⟩) | ⟨hhi,hlo⟩) | hhe) | ⟨hca,hfr⟩) | ⟨had,hst⟩) | ⟨hst,had⟩
  ·exact BY hq hqx hax
  ·exact (FF hq hax' hax).1
  ·simp [FC,h2.1.2,h2.2]at hay'
  ·simp [BD,h1]at hly
  ·unfold Of at hsl
   dsimp only at hsl
   split at hsl <;> first | (rename_i he;cases he;done) | (cases hsl;done)
  ·obtain ⟨xd,xop,xty,xpos,xaf,xg⟩:=x
   exact BY hq (by
    unfold Ng at hlk
    dsimp only at hlk
    split at hlk <;> first | rfl | (cases hlk;done)) hax
  ·simp [BD,h1]at hly
  ·simp [E9]at hpy'
  ·exact BY hq (Mc hlo) hax
  ·simp [Og]at hlo
  ·simp [Nh]at hhe
  ·exact Hl hq hca hax
  ·simp [Wr]at hst
  ·simp [KY]at had
 ·cases h2
theorem WG (hq:Bx X) {all:Array Oper} {i:Nat} {oi:Oper} (hi:all[i]?=some oi) {K:IState→Prop}:∀(pre post:List Nat) (s:IState),(EU X oi=true→WF s.st)→(∀k∈pre,∃ok,all[k]?=some ok∧FE X all ok oi=true) →
  JJ X N all (pre++i::post) s K→DM X N all oi s fun s1=>JJ X N all (pre++post) s1 K
 | [],post,s,_,_,h=>by
  simp only[List.nil_append,JJ,hi]at h
  exact h
 | k::pre,post,s,hwf,hp,h=>by
  obtain ⟨ok,hok,hc⟩:=hp k (by simp)
  obtain ⟨n1,n2⟩:=lN hc
  simp only[List.cons_append,JJ,hok,DN n1]at h
  obtain ⟨s1,h1,h2⟩:=h
  have h2:=WG hq hi pre post s1 (fun hf=>by rw[WE hq hf hc h1];exact hwf hf) (fun k hk=>hp k (by simp[hk])) h2
  rw [DN n2]at h2
  obtain ⟨s2,h3,h4⟩:=h2
  obtain ⟨s3,h5,h6⟩:=bV hq hc hwf h1 h3
  rw [DN n2]
  exact ⟨s3,h5,by simp only[List.cons_append,JJ,hok,DN n1];exact⟨s2,h6,h4⟩⟩
def ClB (all:Array Oper) (listed:Array Bool):Prop:=∀(j:Nat) (y:Oper),all[j]?=some y→listed.getD j false=true→∀e∈y.after,Region.binds .any e=true→listed.getD e.on false=true
theorem Ek {all:Array Oper} {listed:Array Bool} (hcl:ClB all listed):∀(n i j:Nat) (y:Oper),all[j]?=some y→(∀e∈y.after,Region.binds .any e=true→listed.getD e.on false=true)→Ka all n i j=true→listed.getD i false=true
 | 0,i,j,y,hy,he,h=>by simp[Ka]at h
 | n+1,i,j,y,hy,he,h=>by
  simp only[Ka,hy,List.any_eq_true,Bool.and_eq_true,Bool.or_eq_true,beq_iff_eq]at h
  obtain ⟨e,hm,hb,h⟩:=h
  have hl:=he e (by simpa using hm) hb
  rcases h with h | h
  ·rw [←h];exact hl
  ·cases hz:all[e.on]? with
   | none=>cases n with
    | zero=>simp[Ka]at h
    | succ n=>simp[Ka,hz]at h
   | some z=>exact Ek hcl n i e.on z hz (fun e' he' hb'=>hcl e.on z hz hl e' he' hb') h
theorem JV {listed:Array Bool} {i k:Nat} (h:listed.getD k false=true):(listed.setIfInBounds i true).getD k false=true:=by
 simp only[Array.getD_eq_getD_getElem?,Array.getElem?_setIfInBounds]at h ⊢
 by_cases e:i=k
 ·subst e
  by_cases hb:i<listed.size
  ·simp [hb]
  ·simp [hb]at h
 ·simpa [e]using h
theorem ClB.set {all:Array Oper} {listed:Array Bool} (hcl:ClB all listed) {i:Nat} {o:Oper} (ho:all[i]?=some o) (he:∀e∈o.after,Region.binds .any e=true→listed.getD e.on false=true):ClB all (listed.setIfInBounds i true):=by
 intro j y hy hl e hm hb
 by_cases e1:j=i
 ·subst e1
  rw [ho]at hy;cases hy
  exact JV (he e hm hb)
 ·refine JV (hcl j y hy ?_ e hm hb)
  rw [getD_set_ne false (fun x=>e1 x.symm)]at hl;exact hl
theorem Nj {all:Array Oper} (h:Kb X all=true):∀(j:Nat) (y:Oper),all[j]?=some y→(∀e∈y.after,Region.binds .any e=true→e.on<j) ∧
  ∀ (i:Nat) (x:Oper),i<j→all[i]?=some x→(∃e∈y.after,Region.binds .any e=true∧e.on=i)∨FE X all x y=true∨Ka all 8 i j=true:=by
 intro j y hy
 unfold Kb at h
 have hy':all.toList[j]?=some y:=by rw[Array.getElem?_toList];exact hy
 have hm:(y,j)∈all.toList.zipIdx:=by
  rw [List.mem_zipIdx_iff_getElem?];exact hy'
 have := List.all_eq_true.1 h (y,j) hm
 simp only[Bool.and_eq_true,List.all_eq_true,Bool.or_eq_true,Bool.not_eq_true',decide_eq_true_eq,List.any_eq_true,beq_iff_eq]at this
 obtain ⟨h1,h2⟩:=this
 refine ⟨fun e he hb=>?_,fun i x hij hx=>?_⟩
 ·rcases h1 e (by simpa using he)with h3 | h3
  ·rw [h3]at hb;cases hb
  ·exact h3
 ·have hx':all.toList[i]?=some x:=by rw[Array.getElem?_toList];exact hx
  have hm2:(x,i)∈(all.toList.take j).zipIdx:=by
   rw [List.mem_zipIdx_iff_getElem?]
   show (all.toList.take j)[i]?=some x
   rw [List.getElem?_take_of_lt hij];exact hx'
  rcases h2 (x,i) hm2 with h3 | h3
  ·obtain ⟨e,he,hb,hon⟩:=h3
   exact .inl ⟨e,by simpa using he,hb,hon⟩
  ·exact .inr h3
theorem bW {z:Nat}:jZ ⟨0,0,z,0,0⟩ 0 0 (.slice none 0 0):=⟨none,rfl,Nat.le_refl _,by intro h;simp at h⟩
theorem Inv.nilObj {C:Ctx} {st:Store} {w:World} (hi:Inv C st w) {z:Nat} (hz:0<z) :
  ∃ C',C.le C'∧Inv C' (st.new (.arr 0 z [])) w∧VR C' (.slice none 0 0) (.ref st.next 0 0 0):=by
 have hnb:=hi.next st.next (Nat.le_refl _)
 obtain ⟨h1,h2⟩:=hi.put (w':=w) (id:=st.next) (nx:=st.next+1) (o:=.arr 0 z []) (L':=⟨0,0,z,0,0⟩) (.inr hnb) (.inl rfl) (fun _ _ _=>rfl) (Nat.le_refl _)
  (fun _=>⟨rfl,rfl,hz,⟨Nat.le_refl _,Nat.zero_le _⟩,fun h=>by simp at h⟩) (by omega) (by omega)
 refine ⟨_,h1,h2,.ref _ _ _ _ _ rfl (.inl rfl) (fun L _=>Nat.zero_le _) (fun L hL _=>?_)⟩
 simp [Ctx.set]at hL;subst hL;exact bW
theorem Ghost.sound {s s':IState} (h:Ghost s s'):∀ {C:Ctx} {a:Act} {w:World},Simul N C s a w→∃C',C.le C'∧Simul N C' s' a w:=by
 induction h with
 | refl s=>intro C a w hs;exact⟨C,Ctx.le.refl C,hs⟩
 | slot s d z h hz =>
  intro C a w hs
  obtain ⟨C',h1,h2,h3⟩:=hs.inv.nilObj hz
  refine ⟨C',h1,hs.defersMono h1,hs.nodup,hs.ownMono h1,hs.size,fun t ht=>?_,fun t ht=>?_,h2⟩
  ·by_cases e:t=d
   ·subst e
    have := hs.tmp t ht
    rw [h]at this
    simp only[upd,if_true]
    cases hv:a.tmps.getD t undef <;> rw[hv]at this <;> cases this
    exact h3
   ·simp only[upd,e,if_false];exact (hs.tmp t ht).mono h1
  ·have : t≠d:=fun e=>by subst e;rw[hs.out t ht]at h;cases h
   simp only[upd,this,if_false];exact hs.out t ht
 | cell s id gen z z' es idx off h hc hz =>
  intro C a w hs
  obtain ⟨C1,h1,h2,h3⟩:=hs.inv.nilObj hz
  have hlt:id<s.st.next:=by
   rcases Nat.lt_or_ge id s.st.next with hl | hl
   ·exact hl
   ·exact absurd (hs.inv.obj id _ h).1 (hs.inv.next id hl)
  have hne:id≠s.st.next:=by omega
  have ho:(s.st.new (.arr 0 z' [])).obj id=some (.arr gen z es):=by simp[Store.new,Ab,hne,h]
  obtain ⟨hb,L,hL,hat⟩:=h2.obj id _ ho
  have hput:=h2.put (w':=w) (id:=id) (nx:=(s.st.new (.arr 0 z' [])).next) (o:=.arr gen z (es.set idx (Bj (nth es idx) off [.ref s.st.next 0 0 0]))) (L':=L) (.inl ⟨L,hL,.inl rfl⟩)
   (by
    rcases Nat.eq_zero_or_pos L.cap with h0 | h0
    ·exact .inl h0
    ·exact .inr (.inr ⟨L,hL,rfl,h0⟩)) (fun _ _ _=>rfl) (Nat.le_refl _)
   (fun hle=>by
    obtain ⟨g1,g2,g3,g4,g5⟩:=hat
    refine ⟨g1,g2,g3,by simpa using g4,fun hcap=>?_⟩
    obtain ⟨k1,k2,cs,T,k3,k4,k5⟩:=g5 hcap
    refine ⟨k1,k2,cs,T,k3,k4,fun i e he=>?_⟩
    have hoff:off<(nth es idx).cells.length:=(List.getElem?_eq_some_iff.1 hc).1
    have hidx:idx<es.length:=Rv (fun e=>by simp[e]at hoff)
    by_cases hi:i=idx
    ·subst hi
     rw [List.getElem?_set_self hidx]at he
     cases he
     obtain ⟨m1,m2,m3⟩:=k5 i _ (Db hidx)
     have hvs:∀c ∈ [PV.ref s.st.next 0 0 0],c.isCell=true:=by simp[PV.isCell]
     have hcs:=Iy (e:=nth es i) (off:=off) hvs (by simp) (by simp;omega)
     have hsl:=Gy (cells:=(nth es i).cells) (vs := [PV.ref s.st.next 0 0 0]) (off:=off) (by simp;omega)
     refine ⟨by rw[hcs,hsl,m1],fun c hc'=>?_,fun j c hj=>?_⟩
     ·rw [hcs]at hc'
      obtain ⟨j,hj⟩:=List.mem_iff_getElem?.1 hc'
      rw [Ei (by simp;omega)]at hj
      split at hj
      ·exact hvs _ (List.mem_of_getElem? hj)
      ·exact m2 _ (List.mem_of_getElem? hj)
     ·rw [hcs,Ei (by simp;omega)]at hj
      split at hj
      ·rename_i hr
       simp only[List.length_singleton]at hr
       have : j=off:=by omega
       subst this
       simp at hj;subst hj
       have hold:=m3 j _ hc
       generalize cs.getD (L.off+i*L.size+j) undef=v at hold
       cases hold
       exact h3.mono hle
      ·exact (m3 j c hj).mono hle
    ·rw [List.getElem?_set_ne (fun e=>hi e.symm)]at he
     exact (k5 i e he).mono hle) (Nat.le_refl _) (by simp[Store.new];omega)
  refine ⟨_,h1.trans hput.1,hs.defersMono (h1.trans hput.1),hs.nodup,hs.ownMono (h1.trans hput.1),hs.size,fun t ht=>(hs.tmp t ht).mono (h1.trans hput.1),hs.out,hput.2⟩
 | res s z hz =>
  intro C a w hs
  obtain ⟨C',h1,h2,_⟩:=hs.inv.nilObj hz
  exact ⟨C',h1,hs.defersMono h1,hs.nodup,hs.ownMono h1,hs.size,fun t ht=>(hs.tmp t ht).mono h1,hs.out,h2⟩
 | sealv s d q ids hb h =>
  intro C a w hs
  obtain ⟨h1,h2⟩:=hs.inv.seal ids
  refine ⟨_,h1,hs.defersMono h1,hs.nodup,hs.ownMono h1,hs.size,fun t ht=>?_,fun t ht=>?_,h2⟩
  ·by_cases e:t=d
   ·subst e
    simp only[upd,if_true]
    have :=(VR.freezeAgain hs.inv ids (l := [s.env t]) (as := [q]) (vals:=fun _=>a.tmps.getD t undef) (by simp[B8,h]) (fun i p hp=>by
     cases i with
     | zero=>simp at hp;subst hp;exact hs.tmp t ht
     | succ i=>simp at hp)).2 0 q rfl
    exact this
   ·simp only[upd,e,if_false];exact (hs.tmp t ht).mono h1
  ·have : t≠d:=fun e=>by subst e;exact hb (hs.out t ht)
   simp only[upd,this,if_false];exact hs.out t ht
 | fix s d id gen idx z es h ho hi hp =>
  intro C a w hs
  obtain ⟨h1,h2,h3⟩:=hs.inv.without [id]
  refine ⟨_,h1,hs.defersMono h1,hs.nodup,hs.ownMono h1,hs.size,fun t ht=>?_,fun t ht=>?_,h2⟩
  ·by_cases e:t=d
   ·subst e
    simp only[upd,if_true]
    have hv:=hs.tmp t ht
    rw [h]at hv
    obtain ⟨L,hL,hb,hg,hLz,hz,hcap,hat⟩:=hs.inv.arr ho
    generalize a.tmps.getD t undef=v0 at hv
    cases hv with
    | ptr _ _ _ _ _ _ _ _ hr =>
     rw [hr L hL hg.symm]
     obtain ⟨k1,k2,cs,T,k3,k4,k5⟩:=hat (by omega)
     obtain ⟨m1,m2,m3⟩:=k5 idx _ (Db hi)
     have hmb:=Bm (z:=L.size) hi hcap
     have himm:∀j,j<(nth es idx).cells.length→(C.closeIn [id] w).imm L.blk (L.off+idx*L.size+j)=some (cs.getD (L.off+idx*L.size+j) undef):=fun j hj=>by
      have hlt:L.off+idx*L.size+j<cs.size:=by omega
      refine h3 id L (by simp) hL (by omega) _ _ ?_
      rw [Fz k3,Array.getElem?_eq_getElem hlt]
      simp [Array.getD,hlt]
     refine .vptr L.blk (L.off+idx*L.size) 0 _ m2 (fun j hj=>by rw[himm j hj];rfl) (fun j c hj=>?_)
     have hjl:j<(nth es idx).cells.length:=(List.getElem?_eq_some_iff.1 hj).1
     rw [himm j hjl]
     exact (m3 j c hj).mono h1
   ·simp only[upd,e,if_false];exact (hs.tmp t ht).mono h1
  ·have : t≠d:=fun e=>by subst e;rw[hs.out t ht]at h;cases h
   simp only[upd,this,if_false];exact hs.out t ht
 | trans h g ih1 ih2 =>
  intro C a w hs
  obtain ⟨C1,h1,h2⟩:=ih1 hs
  obtain ⟨C2,h3,h4⟩:=ih2 h2
  exact ⟨C2,h1.trans h3,h4⟩
def RQ (N:Nat) (C:Ctx) (R:IExit→IState→Prop) (e:Exit) (a:Act) (w:World):Prop :=
 ∃ e' C' s,(match e,e' with | .normal,.normal=>True | .exit i,.exit j=>i=j | .ret,.ret=>True | _,_=>False)∧C.le C'∧Simul N C' s a w∧R e' s
theorem RQ.mono {C C':Ctx} (hle:C.le C') {R R':IExit→IState→Prop} (hR:∀e s,R e s→R' e s) {e:Exit} {a:Act} {w:World} (h:RQ N C' R e a w):RQ N C R' e a w:=by
 obtain ⟨e',C'',s,h1,h2,h3,h4⟩:=h
 exact ⟨e',C'',s,h1,hle.trans h2,h3,hR _ _ h4⟩
def Ctx.lek (A B:Ctx):Prop:=A.le { B with caller:=A.caller }
theorem Ctx.lek.trans {A B C:Ctx} (h:A.lek B) (g:B.lek C):A.lek C:=Ctx.le.trans h ⟨g.imm,g.old,g.born,g.loc,g.B,g.h,g.os,g.out,g.keep,rfl⟩
theorem Ctx.le.lek {A B:Ctx} (h:A.le B):A.lek B:=⟨h.imm,h.old,h.born,h.loc,h.B,h.h,h.os,h.out,h.keep,rfl⟩
theorem VR.lek {A B:Ctx} (h:A.lek B) {v:Value} {p:PV} (hv:VR A v p):VR B v p:=VR.same (C:={ B with caller:=A.caller }) (C':=B) rfl rfl rfl (hv.mono h)
def FG (X:Cfg) (C0:Ctx):Prop:=∀l H,X.yl=some (l,H)→∀(args:List PV) (st:Store) (K:Bool→Store→Prop) (C:Ctx) (w:World) (vals:Array Value),C0.lek C→H args st K→Inv C st w→IXC.VRs C vals args→(∀b,C.caller b=true→C.keep b=true) →
 ∃ f tmps assign body,(Instr.yield l vals).run X.P w=.ok (.round l f tmps assign body) w∧RoundIn (FR none) 0 X.P l f tmps assign body w (fun e w'=>∃b C' st',e=.returned (.bool b)∧C.le C'∧Inv C' st' w'∧K b st')
theorem Um {X:Cfg} {C0:Ctx} (h:X.yl=none):FG X C0:=fun l H hl=>by rw[h]at hl;cases hl
theorem Ns {all:Array Oper} {o:Oper} (hs:Simul N C s a w) (h:Dy all o s.env=true):Region.wanted o (yielded all a.tmps)=true:=by
 unfold Dy at h
 split at h
 ·rename_i hg;simp[Region.wanted,hg]
 ·rename_i j want hg
  split at h
  ·rename_i b hb
   unfold DD at hb
   split at hb
   ·rename_i d hd
    have hd':d<N:=by
     rcases Nat.lt_or_ge d N with hl | hl
     ·exact hl
     ·rw [hs.out d hl]at hb;cases hb
    have := hs.tmp d hd'
    rw [hb]at this
    have h2:=Dn this
    have h3:a.tmps[d]?=some (.bool b):=by
     have hlt:d<a.tmps.size:=by rw[hs.size];exact hd'
     rw [Array.getElem?_eq_getElem hlt]
     simpa [Array.getD,hlt]using h2
    simp only[beq_iff_eq]at h
    simp [Region.wanted,hg,yielded,hd,h3,h]
   ·cases hb
  ·cases h
theorem bX {X:Cfg} {op:Op} {ρ:Operand→PV} {D:Store→(PV→Store→Prop)→Prop} (h:yOf X op ρ=some D) :
  (∃ x,op=.next x false∧D=fun st K=>Ez st (ρ x) K)∨(∃o t x u z,op=.binOp o t x (.const (.slice none 0 0)) u∧ρ x=.lits z []∧D=fun st K=>∃p q,GH o (Ae X.P t != 0) true=some p∧GH o (Ae X.P t != 0) false=some q∧K p st∧K q st)∨∃l H c f,X.yl=some (l,H)∧op=.call c∧c.callee=.value f∧ρ f=.func (.yield l) [] []∧D=fun st K=>H (c.args.toList.map ρ) st fun b st'=>K (.bool b) st':=by
 unfold yOf at h
 split at h
 ·cases h;exact .inl ⟨_,rfl,rfl⟩
 ·split at h
  ·rename_i c0 _ _ l H f hy hf
   split at h
   ·rename_i l' hl
    split at h
    ·rename_i e
     cases h
     exact .inr (.inr ⟨l,H,_,f,hy,rfl,hf,by rw[hl,e],rfl⟩)
    ·cases h
   ·cases h
  ·cases h
 ·split at h
  ·rename_i hz
   split at h
   ·rename_i hx
    cases h
    unfold Nr at hz
    split at hz
    ·exact .inr (.inl ⟨_,_,_,_,_,rfl,hx,rfl⟩)
    ·cases hz
   ·cases h
  ·cases h
 ·cases h
section
variable {rd:Option Nat} {C0:Ctx}
theorem IH (hX:E8 X) (hY:FG X C0) {all:Array Oper} {o:Oper} {K:IState→Prop} (h:DM X N all o s K) (hs:Simul N C s a w) (hC:C0.lek C) {next:Act→World→Prop} {Q:Exit→Act→World→Prop}
  (hK : ∀C' s' a' w',C.le C'→Simul N C' s' a' w'→K s'→next a' w') :
  if Region.wanted o (yielded all a.tmps)then o.wpIn (FR rd) 0 X.P a w next Q else (∀f,o.about X.P w a.eval=some f→(FR rd).fn f)∧next (a.put o.dst undef) w:=by
 unfold DM at h
 split at h
 ·rename_i D he
  split at he
  ·rename_i hg
   rw [if_pos (Ns hs hg)]
   rcases bX he with ⟨x,hop,rfl⟩ | ⟨op,t,x,u,z,hop,hx,rfl⟩ | ⟨l,H,c,f,hy,hop,hcal,hf,rfl⟩
   ·refine ⟨fun _ _=>trivial,?_⟩
    rw [Oper.semAt_eq _ _ _ (fun c' e=>by rw[hop]at e;cases e)]
    obtain ⟨v,w',C',p,st',hrun,hle,hi',hv',s',hput,hk⟩:=PZ (P:=X.P) (ty:=o.type) hs.inv (hs.eval x) h
    have hex:(execOp a.eval o).run X.P w=.ok (.value v) w':=by
     obtain ⟨dst,op,ty,pos,after,guard⟩:=o
     dsimp only at hop hrun
     subst hop
     simp only[execOp,Sem.run_bind,hrun,Result.andThen,Sem.run_pure]
    rw [hex]
    exact hK C' s' _ w' hle (hs.put hle hi' hv' hput) hk
   ·refine ⟨fun _ _=>trivial,?_⟩
    rw [Oper.semAt_eq _ _ _ (fun c' e=>by rw[hop]at e;cases e)]
    obtain ⟨p,q,hp,hq,⟨s1,hput1,hk1⟩,s2,hput2,hk2⟩:=h
    have hvx:=hs.eval x
    rw [hx]at hvx
    obtain ⟨v,hv⟩:∃v,v=a.eval x:=⟨_,rfl⟩
    rw [←hv]at hvx
    obtain ⟨ad,n,cp,hsl⟩:∃ad n cp,v=.slice ad n cp:=by
     cases hvx with
     | lits b o size cap _ hcap hmax hsz hl hi' hv=>exact⟨_,_,_,rfl⟩
     | lits0 a cap z=>exact⟨_,_,_,rfl⟩
    have hguard:∀ox oy,(eqGuard op t ox oy (.slice ad n cp) (.slice none 0 0)).run X.P w=.ok () w:=by
     intro ox oy;cases op <;> simp[eqGuard]
    have key:∀(r:Bool) (p:PV),GH op (Ae X.P t != 0) r=some p→r=ad.isNone→∃v',(execOp a.eval o).run X.P w=.ok (.value v') w∧VR C v' p:=by
     intro r p hr hr2
     obtain ⟨v',hv1,hv2⟩:=kF (C:=C) (P:=X.P) (w:=w) (n:=n) (c:=cp) hr hr2
     refine ⟨v',?_,hv2⟩
     obtain ⟨dst,op',ty,pos,after,guard⟩:=o
     dsimp only at hop
     subst hop
     have e1:a.eval x=.slice ad n cp:=hv.symm.trans hsl
     have e2:a.eval (.const (.slice none 0 0))=.slice none 0 0:=rfl
     simp only[execOp,e1,e2,Sem.run_bind,hguard,Result.andThen,hv1,Sem.run_pure]
    cases had:ad.isNone with
    | true =>
     obtain ⟨v',h1,h2⟩:=key true p hp had.symm
     rw [h1]
     exact hK C s1 _ w (Ctx.le.refl C) (hs.put (Ctx.le.refl C) hs.inv h2 hput1) hk1
    | false =>
     obtain ⟨v',h1,h2⟩:=key false q hq had.symm
     rw [h1]
     exact hK C s2 _ w (Ctx.le.refl C) (hs.put (Ctx.le.refl C) hs.inv h2 hput2) hk2
   refine ⟨fun _ _=>trivial,?_⟩
   rw [Oper.semAt_eq _ _ _ (fun c' e=>by rw[hop]at e;cases e)]
   have hvf:=hs.eval f
   rw [hf]at hvf
   have hfv:a.eval f=.func (.yield l) #[] #[]:=by
    generalize a.eval f=v at hvf
    cases hvf with
    | func fn first captured pf pc h1 h2 h3 h4 =>
     have e1:first = #[]:=by simpa using h1
     have e2:captured = #[]:=by simpa using h2
     rw [e1,e2]
   obtain ⟨g,tmps,assign,body,hrun,hround⟩:=hY l H hy _ _ _ C w (c.args.map a.eval) hC h hs.inv ⟨by simp,fun i q hq=>by
    simp only[List.getElem?_map,Option.map_eq_some_iff]at hq
    obtain ⟨x,hx,rfl⟩:=hq
    have e:(c.args.map a.eval).getD i undef=a.eval x:=by
     rw [Array.getElem?_toList]at hx
     simp [Array.getD_eq_getD_getElem?,hx]
    rw [e];exact hs.eval x⟩ hs.own
   have hex:(execOp a.eval o).run X.P w=(Instr.yield l (c.args.map a.eval)).run X.P w:=by
    obtain ⟨dst,op,ty,pos,after,guard⟩:=o
    dsimp only at hop
    subst hop
    obtain ⟨callee,cargs,ats⟩:=c
    dsimp only at hcal
    subst hcal
    simp [execOp,resolve,hfv,Deferred.ofValue,Sem.run_bind,Sem.run_pure,Result.andThen,invoke]
   rw [hex,hrun]
   refine ⟨fun hd=>by simp[FR,Fence.wide]at hd,RoundIn.mono (F:=FR rd) hround fun e w' he=>?_⟩
   obtain ⟨b,C',st',rfl,hle,hi',s',hput,hk⟩:=he
   exact hK C' s' _ w' hle (hs.put hle hi' (.bool b) hput) hk
  ·cases he
 ·rename_i he
  obtain ⟨s',h1,h2⟩:=h
  exact T7 hX h1 hs fun C' a' w' hle hs'=>hK C' s' a' w' hle hs' h2
theorem Ot {rd:Option Nat} {C0:Ctx} (hX:E8 X) (hY:FG X C0) {all:Array Oper} {Q:Exit→Act→World→Prop}:∀(l:List Oper) (s:IState) (C:Ctx) (a:Act) (w:World) (K:IState→Prop),EE X N all l s K→Simul N C s a w→C0.lek C →
  (∀ C' s' a' w',C.le C'→Simul N C' s' a' w'→K s'→Q .normal a' w')→wpListIn (FR rd) 0 X.P all Q l a w
 | [],s,C,a,w,K,h,hs,hC,hQ=>hQ C s a w (Ctx.le.refl C) hs h
 | o::l,s,C,a,w,K,h,hs,hC,hQ=>IH hX hY h hs hC fun C' s' a' w' hle hs' h' =>
   Ot hX hY l s' C' a' w' K h' hs' (hC.trans hle.lek) fun C'' s'' a'' w'' hle' hs'' hk=>hQ C'' s'' a'' w'' (hle.trans hle') hs'' hk
theorem WH (hX:E8 X) (hq:Bx X) (hY:FG X C0) {all:Array Oper} (hd:Kb X all=true) {K:IState→Prop} {Q:Exit→Act→World→Prop}:∀(fuel:Nat) (rem:List Nat) (listed:Array Bool) (C:Ctx) (s:IState) (a:Act) (w:World),
  ClB all listed→rem.length=fuel→rem.Pairwise (· < ·)→(∀i,i∈rem↔(i<all.size∧listed.getD i true=false))→listed.size=all.size→JJ X N all rem s K→Simul N C s a w→C0.lek C →
  (∀ C' s' a' w',C.le C'→Simul N C' s' a' w'→K s'→Q .normal a' w')→wpAnyIn (FR rd) 0 X.P .any all Q fuel listed a w:=by
 intro fuel
 induction fuel with
 | zero =>
  intro rem listed C s a w hcl hlen hsort hrem hsz hrun hs hC hQ
  have : rem = []:=List.eq_nil_of_length_eq_zero hlen
  subst this
  simp only[JJ]at hrun
  refine ⟨?_,hQ C s a w (Ctx.le.refl C) hs hrun⟩
  rw [List.eq_nil_iff_forall_not_mem]
  intro i hi
  obtain ⟨h1,o,ho,_⟩:=mem_ready.1 hi
  have :=(hrem i).2 ⟨(Array.getElem?_eq_some_iff.1 ho).1,h1⟩
  simp at this
 | succ fuel ih =>
  intro rem listed C s a w hcl hlen hsort hrem hsz hrun hs hC hQ
  refine ⟨fun hnil=>?_,fun i hi=>?_⟩
  ·exfalso
   match rem,hlen with
   | i0::rest,_ =>
    obtain ⟨hlt,hnl⟩:=(hrem i0).1 (by simp)
    obtain ⟨o,ho⟩:∃o,all[i0]?=some o:=⟨all[i0],Array.getElem?_eq_getElem hlt⟩
    have : i0∈Region.ready .any all listed:=mem_ready.2 ⟨hnl,o,ho,fun e he hb=>by
     have hlt2:=(Nj hd i0 o ho).1 e he hb
     have hn:e.on ∉ i0::rest:=fun hm=>by
      rcases List.mem_cons.1 hm with h | h
      ·omega
      ·have := List.rel_of_pairwise_cons hsort h;omega
     have h2:¬(e.on<all.size∧listed.getD e.on true=false):=fun h=>hn ((hrem e.on).2 h)
     have h3:e.on<listed.size:=by omega
     have h4:listed.getD e.on true=true:=by
      cases hb:listed.getD e.on true with
      | true=>rfl
      | false=>exact absurd ⟨by omega,hb⟩ h2
     simpa [Array.getD,h3]using h4⟩
    rw [hnil]at this
    simp at this
  ·obtain ⟨h1,o,ho,hedges⟩:=mem_ready.1 hi
   have hmem:=(hrem i).2 ⟨(Array.getElem?_eq_some_iff.1 ho).1,h1⟩
   obtain ⟨pre,post,rfl⟩:=List.append_of_mem hmem
   have hpre:∀k∈pre,k<i:=fun k hk=>by
    have :=(List.pairwise_append.1 hsort).2.2 k hk i (by simp)
    exact this
   have hst:=WG hq ho pre post s (fun _=>hs.inv.wf) (fun k hk=>by
    have hkm:k∈pre++i::post:=by simp[hk]
    obtain ⟨hklt,hkl⟩:=(hrem k).1 hkm
    refine ⟨all[k],Array.getElem?_eq_getElem hklt,?_⟩
    rcases (Nj hd i o ho).2 k all[k] (hpre k hk) (Array.getElem?_eq_getElem hklt)with ⟨e,he,hb,hon⟩ | h
    ·have := hedges e he hb
     rw [hon]at this
     have h3:k<listed.size:=by omega
     simp [Array.getD,h3]at this hkl
     rw [this]at hkl;cases hkl
    ·rcases h with h | h
     ·exact h
     ·have h4:=Ek hcl 8 k i o ho hedges h
      have h3:k<listed.size:=by omega
      simp [Array.getD,h3]at h4 hkl
      rw [h4]at hkl;cases hkl) hrun
   unfold wpOpIn
   simp only[ho]
   refine IH hX hY hst hs hC fun C' s1 a' w' hle hs' hrest=>?_
   have hni:i ∉ pre++post:=by
    intro hm
    rcases List.mem_append.1 hm with h | h
    ·have := hpre i h;omega
    ·have h2:=(List.pairwise_append.1 hsort).2.1
     have := List.rel_of_pairwise_cons h2 h;omega
   refine ih (pre++post) _ C' s1 a' w' (hcl.set ho hedges) (by simp at hlen ⊢;omega) ?_ (fun k=>?_) (by simpa using hsz) hrest hs' (hC.trans hle.lek) (fun C'' s'' a'' w'' hle' hs'' hk=>hQ C'' s'' a'' w'' (hle.trans hle') hs'' hk)
   ·rw [List.pairwise_append]at hsort ⊢
    exact ⟨hsort.1,(List.pairwise_cons.1 hsort.2.1).2,fun x hx y hy=>hsort.2.2 x hx y (by simp[hy])⟩
   ·by_cases hki:k=i
    ·subst hki
     constructor
     ·intro h;exact absurd h hni
     ·rintro ⟨h2,h3⟩
      have : k<listed.size:=by omega
      simp [Array.getD,this]at h3
    ·rw [getD_set_ne true (fun e=>hki e.symm),←hrem k]
     simp [hki]
end
theorem Ou {all:Array Oper} {K:IState→Prop}:∀(l:List Oper) (k:Nat) (s:IState),(∀j,l[j]?=all[k+j]?)→JJ X N all (List.range' k l.length) s K=EE X N all l s K
 | [],k,s,_=>rfl
 | o::l,k,s,h=>by
  have h0:all[k]?=some o:=by simpa using (h 0).symm
  simp only[List.length_cons,List.range'_succ,JJ,h0,EE]
  congr 1
  funext s1
  exact Ou l (k+1) s1 (fun j=>by have:=h (j+1);simpa [Nat.add_assoc,Nat.add_comm 1 j]using this)
section
variable {all:Array Oper} {listed:Array Bool}
theorem bY (hcl:ClB all listed) {i k:Nat} {o:Oper} (ho:all[i]?=some o) (hedges:∀e∈o.after,Region.binds .any e=true→listed.getD e.on false=true) (hk:listed.getD k false=false) (hp:L8 X all k i=true):∃ok,all[k]?=some ok∧FE X all ok o=true:=by
 unfold L8 at hp
 rw [ho]at hp
 cases hok:all[k]? with
 | none=>rw[hok]at hp;cases hp
 | some ok =>
  rw [hok]at hp
  simp only[Bool.or_eq_true,List.any_eq_true,Bool.and_eq_true,beq_iff_eq]at hp
  refine ⟨ok,rfl,?_⟩
  rcases hp with (⟨e,he,hb,hon⟩ | h) | h
  ·have := hedges e (by simpa using he) hb
   rw [hon,hk]at this;cases this
  ·exact h
  ·have := Ek hcl 8 k i o ho hedges h
   rw [hk]at this;cases this
theorem lO {rem:List Nat} (hrem:∀i,i∈rem↔(i<all.size∧listed.getD i true=false)) (hsz:listed.size=all.size) (hrng:∀(i:Nat) (o:Oper),all[i]?=some o→∀e∈o.after,Region.binds .any e=true→e.on<all.size)
  {i0 : Nat} {rest:List Nat} (hr:rem=i0::rest) (hself:GJ all i0 i0=true) (hdep:∀j∈rest,GJ all i0 j=true):i0∈Region.ready .any all listed:=by
 obtain ⟨hlt,hnl⟩:=(hrem i0).1 (by rw[hr];simp)
 obtain ⟨o,ho⟩:∃o,all[i0]?=some o:=⟨all[i0],Array.getElem?_eq_getElem hlt⟩
 have nod:∀j,GJ all i0 j=true→∀e∈o.after,Region.binds .any e=true→e.on≠j:=fun j hj e he hb=>by
  unfold GJ at hj
  rw [ho]at hj
  have := List.all_eq_true.1 hj e (by simpa using he)
  simp only[hb,Bool.not_true,Bool.false_or,bne_iff_ne]at this
  exact this
 refine mem_ready.2 ⟨hnl,o,ho,fun e he hb=>?_⟩
 have hn:e.on ∉ rem:=fun hm=>by
  rw [hr]at hm
  rcases List.mem_cons.1 hm with h | h
  ·exact nod i0 hself e he hb h
  ·exact nod _ (hdep _ h) e he hb rfl
 have h2:¬(e.on<all.size∧listed.getD e.on true=false):=fun h=>hn ((hrem e.on).2 h)
 have h0:=hrng i0 o ho e he hb
 have h3:e.on<listed.size:=by omega
 have h4:listed.getD e.on true=true:=by
  cases hb:listed.getD e.on true with
  | true=>rfl
  | false=>exact absurd ⟨by omega,hb⟩ h2
 simpa [Array.getD,h3]using h4
theorem xO {rem:List Nat} (hrem:∀i,i∈rem↔(i<all.size∧listed.getD i true=false)) (hsz:listed.size=all.size) {i:Nat} {pre post:List Nat} (hr:rem=pre++i::post) (hnd:rem.Nodup) :
  (pre ++ post).Nodup∧∀k,k∈pre++post↔(k<all.size∧(listed.setIfInBounds i true).getD k true=false):=by
 subst hr
 have hni:i ∉ pre++post:=fun hm=>by
  have :=(List.perm_middle.nodup_iff.1 hnd)
  rw [List.nodup_cons]at this
  exact this.1 hm
 have hnd2:(pre++post).Nodup:=by
  have :=(List.perm_middle.nodup_iff.1 hnd)
  rw [List.nodup_cons]at this
  exact this.2
 refine ⟨hnd2,fun k=>?_⟩
 by_cases hki:k=i
 ·subst hki
  constructor
  ·intro h;exact absurd h hni
  ·rintro ⟨h2,h3⟩
   have : k<listed.size:=by omega
   simp [Array.getD,this]at h3
 ·rw [getD_set_ne true (fun e=>hki e.symm),←hrem k]
  simp [hki]
end
theorem Nk {p:Nat→Nat→Bool}:∀ {l:List Nat},D3 p l=true→l.Pairwise (fun i j=>p i j=true)
 | [],_=>List.Pairwise.nil
 | i::l,h=>by
  simp only[D3,Bool.and_eq_true,List.all_eq_true]at h
  exact List.Pairwise.cons h.1 (Nk h.2)
theorem Un {all:Array Oper} {o:Oper} {s:IState} {K K':IState→Prop} (hk:∀s,K s→K' s) (ho:BV X o.op=true) (h:DM X N all o s K):DM X N all o s K':=by
 rw [DN ho]at h ⊢
 obtain ⟨s1,a,b⟩:=h
 exact ⟨s1,a,hk _ b⟩
theorem YV {all:Array Oper} {K:IState→Prop}:∀(l:List Nat) (s:IState),(∀i∈l,i<all.size)→(∀(i:Nat) (o:Oper),all[i]?=some o→BV X o.op=true)→EE X N all (atO all l) s K→JJ X N all l s K
 | [],s,_,_,h=>h
 | i::l,s,hl,hn,h=>by
  have hi:=hl i (by simp)
  have e:all[i]?=some all[i]:=Array.getElem?_eq_getElem hi
  have e2:atO all (i::l)=all[i]::atO all l:=by simp[atO,e]
  rw [e2]at h
  simp only[EE]at h
  simp only[JJ,e]
  exact Un (fun s' h'=>YV l s' (fun j hj=>hl j (by simp[hj])) hn h') (hn i _ e) h
def Tree.leaves:List (Nat×Nat)→Tree→List (List (Nat×Nat)×List Nat)
 | E,.one r => [(E,r)]
 | E,.two a b s t=>s.leaves ((a,b)::E)++t.leaves ((b,a)::E)
 | E,.via m t=>t.leaves ((m,m)::E)
theorem Fi:∀ {t:Tree} {E:List (Nat×Nat)} {p:List (Nat×Nat)×List Nat},p∈t.leaves E→p.2∈t.orders
 | .one r,E,p,h=>by
  simp only[Tree.leaves,List.mem_singleton]at h
  rw [h];simp[Tree.orders]
 | .two a b s t,E,p,h=>by
  simp only[Tree.leaves,List.mem_append]at h
  simp only[Tree.orders,List.mem_append]
  exact h.imp Fi Fi
 | .via m t,E,p,h=>Fi (t:=t) h
theorem I9 {all:Array Oper}:∀ {t:Tree} {E:List (Nat×Nat)} {p:List (Nat×Nat)×List Nat},D4 X all E t=true→p∈t.leaves E→D4 X all p.1 (.one p.2)=true
 | .one r,E,p,ht,h=>by
  simp only[Tree.leaves,List.mem_singleton]at h
  rw [h];exact ht
 | .two a b s t,E,p,ht,h=>by
  simp only[D4,Bool.and_eq_true]at ht
  simp only[Tree.leaves,List.mem_append]at h
  rcases h with h | h
  ·exact I9 ht.1.2 h
  ·exact I9 ht.2 h
 | .via m t,E,p,ht,h=>I9 (t:=t) ht h
theorem Fj {all:Array Oper} {σ:Nat→Nat} (hσ:∀a b,σ a=σ b→a=b):∀ {t:Tree} {E:List (Nat×Nat)},D4 X all E t=true→(∀e∈E,e.1≠e.2→σ e.1<σ e.2)→∃p∈t.leaves E,∀e∈p.1,e.1≠e.2→σ e.1<σ e.2
 | .one r,E,ht,h=>⟨(E,r),by simp[Tree.leaves],h⟩
 | .two a b s t,E,ht,h=>by
  simp only[D4,Bool.and_eq_true,decide_eq_true_eq]at ht
  have hne:σ a≠σ b:=fun e=>ht.1.1 (hσ _ _ e)
  by_cases c:σ a<σ b
  ·obtain ⟨p,hp,h2⟩:=Fj hσ ht.1.2 (fun e he=>(List.mem_cons.1 he).elim (fun e1 _=>by rw[e1];exact c) (fun e1=>h e e1))
   exact ⟨p,by simp only[Tree.leaves,List.mem_append];exact .inl hp,h2⟩
  ·obtain ⟨p,hp,h2⟩:=Fj hσ ht.2 (fun e he=>(List.mem_cons.1 he).elim (fun e1 _=>by rw[e1];show σ b<σ a;omega) (fun e1=>h e e1))
   exact ⟨p,by simp only[Tree.leaves,List.mem_append];exact .inr hp,h2⟩
 | .via m t,E,ht,h=>Fj (t:=t) hσ ht (fun e he=>(List.mem_cons.1 he).elim (fun e1 g=>absurd (by rw[e1]) g) (fun e1=>h e e1))
structure LeafOK (X:Cfg) (all:Array Oper) (listed:Array Bool) (n:Nat) (E:List (Nat×Nat)) (r:List Nat):Prop where
 len : r.length=n
 nd : r.Nodup
 self : ∀i∈r,GJ all i i=true
 pw : r.Pairwise (fun i j=>QB X all E i j=true∧GJ all i j=true)
 mem : ∀i,i∈r↔(i<all.size∧listed.getD i true=false)
 cl : ∀e∈E,e.1≠e.2→listed.getD e.2 false=true→¬(e.1<all.size∧listed.getD e.1 true=false)
section
variable {listed:Array Bool} {k:Nat}
theorem YW:listed.getD k true=false→listed.getD k false=false:=fun h=>by
 by_cases h3:k<listed.size
 ·simpa [Array.getD,h3]using h
 ·simp [Array.getD,h3]at h
theorem xP (h3:k<listed.size) (h:¬listed.getD k true=false):listed.getD k false=true:=by
 simpa [Array.getD,h3]using h
end
theorem WI {all:Array Oper} {listed:Array Bool} (hsz:listed.size=all.size) (hcl:ClB all listed) {E:List (Nat×Nat)} {i k:Nat} {o:Oper} (ho:all[i]?=some o) (hedges:∀e∈o.after,Region.binds .any e=true→listed.getD e.on false=true) (hk:listed.getD k false=false)
  (hE : ∀e∈E,e.1≠e.2→e.2=i→¬(e.1<all.size∧listed.getD e.1 true=false)) (hcE:∀e∈E,e.1≠e.2→listed.getD e.2 false=true→¬(e.1<all.size∧listed.getD e.1 true=false)) (hks:k<all.size) (hp:QB X all E k i=true):∃ok,all[k]?=some ok∧FE X all ok o=true:=by
 unfold QB at hp
 rw [Bool.or_eq_true,List.any_eq_true]at hp
 rcases hp with hp | ⟨e,he,hp⟩
 ·exact bY hcl ho hedges hk hp
 ·exfalso
  have fin:¬(e.1<all.size∧listed.getD e.1 true=false)→(e.1=k∨Ka all 8 k e.1=true)→False:=fun h1 hp2=>by
   by_cases hsz1:e.1<all.size
   ·have h2:listed.getD e.1 false=true:=xP (by omega) (fun g=>h1 ⟨hsz1,g⟩)
    rcases hp2 with h | h
    ·rw [h,hk]at h2;cases h2
    ·obtain ⟨z,hz⟩:∃z,all[e.1]?=some z:=⟨all[e.1],Array.getElem?_eq_getElem hsz1⟩
     have := Ek hcl 8 k e.1 z hz (fun e' he' hb'=>hcl e.1 z hz h2 e' he' hb') h
     rw [hk]at this;cases this
   ·rcases hp2 with h | h
    ·omega
    ·have hz:all[e.1]?=none:=Array.getElem?_eq_none (by omega)
     simp [Ka,hz]at h
  split at hp
  ·rename_i em
   simp only[Bool.and_eq_true]at hp
   have h3:=Ek hcl 8 e.2 i o ho hedges hp.1
   rw [←em]at h3
   refine fin (fun g=>?_) (.inr hp.2)
   rw [YW g.2]at h3;cases h3
  ·rename_i em
   simp only[Bool.and_eq_true,Bool.or_eq_true,beq_iff_eq]at hp
   refine fin ?_ hp.2
   rcases hp.1 with h | h
   ·exact hE e he em h
   ·exact hcE e he em (Ek hcl 8 e.2 i o ho hedges h)
section
variable {rd:Option Nat} {C0:Ctx}
theorem RR (hX:E8 X) (hq:Bx X) (hY:FG X C0) {all:Array Oper} (hrng:∀(i:Nat) (o:Oper),all[i]?=some o→∀e∈o.after,Region.binds .any e=true→e.on<all.size) (hny:∀(i:Nat) (o:Oper),all[i]?=some o→BV X o.op=true) {K:IState→Prop} {Q:Exit→Act→World→Prop}:∀(fuel:Nat) (L:List (Nat×Nat)→List Nat→Prop) (listed:Array Bool) (C:Ctx) (s:IState) (a:Act) (w:World),
  ClB all listed→(∀E r,L E r→LeafOK X all listed fuel E r∧JJ X N all r s K)→(∀σ:Nat→Nat,(∀a b,σ a=σ b→a=b)→∃E r,L E r∧∀e∈E,e.1≠e.2→listed.getD e.1 true=false→listed.getD e.2 true=false→σ e.1<σ e.2)→listed.size=all.size→Simul N C s a w→C0.lek C →
  (∀ C' s' a' w',C.le C'→Simul N C' s' a' w'→K s'→Q .normal a' w')→wpAnyIn (FR rd) 0 X.P .any all Q fuel listed a w:=by
 intro fuel
 induction fuel with
 | zero =>
  intro L listed C s a w hcl hL hcov hsz hs hC hQ
  obtain ⟨E,r,hLr,_⟩:=hcov id (fun a b h=>h)
  obtain ⟨hok,hrun⟩:=hL E r hLr
  have : r = []:=List.eq_nil_of_length_eq_zero hok.len
  subst this
  simp only[JJ]at hrun
  refine ⟨?_,hQ C s a w (Ctx.le.refl C) hs hrun⟩
  rw [List.eq_nil_iff_forall_not_mem]
  intro i hi
  obtain ⟨h1,o,ho,_⟩:=mem_ready.1 hi
  have :=(hok.mem i).2 ⟨(Array.getElem?_eq_some_iff.1 ho).1,h1⟩
  simp at this
 | succ fuel ih =>
  intro L listed C s a w hcl hL hcov hsz hs hC hQ
  refine ⟨fun hnil=>?_,fun i hi=>?_⟩
  ·exfalso
   obtain ⟨E,r,hLr,_⟩:=hcov id (fun a b h=>h)
   obtain ⟨hok,hrun⟩:=hL E r hLr
   match r,hok with
   | [],hok=>have:=hok.len;simp at this
   | i0::rest,hok =>
    have := lO hok.mem hsz hrng rfl (hok.self i0 (by simp)) (fun j hj=>(List.rel_of_pairwise_cons hok.pw hj).2)
    rw [hnil]at this
    simp at this
  ·obtain ⟨h1,o,ho,hedges⟩:=mem_ready.1 hi
   have hlt:i<all.size:=(Array.getElem?_eq_some_iff.1 ho).1
   have hny0:=hny i o ho
   let keep:List (Nat×Nat)→Prop:=fun E=>∀e∈E,e.1≠e.2→e.2=i→¬(e.1<all.size∧listed.getD e.1 true=false)
   have step:∀E pre post,L E (pre++i::post)→keep E→DM X N all o s fun s1=>JJ X N all (pre++post) s1 K:=fun E pre post h hk=>by
    obtain ⟨hok,hrun⟩:=hL E _ h
    refine WG hq ho pre post s (fun _=>hs.inv.wf) (fun k hkm=>?_) hrun
    obtain ⟨hklt,hkl⟩:=(hok.mem k).1 (by simp[hkm])
    exact WI hsz hcl ho hedges (YW hkl) hk hok.cl hklt ((List.pairwise_append.1 hok.pw).2.2 k hkm i (by simp)).1
   have cov2:∀σ:Nat→Nat,(∀a b,σ a=σ b→a=b)→∃E pre post,L E (pre++i::post)∧keep E∧∀e∈E,e.1≠e.2→(listed.setIfInBounds i true).getD e.1 true=false→(listed.setIfInBounds i true).getD e.2 true=false→σ e.1<σ e.2:=fun σ hσ=>by
    obtain ⟨E,r,hLr,hr⟩:=hcov (fun j=>if j=i then 0 else σ j+1) (fun a b h=>by
     by_cases ca:a=i <;> by_cases cb:b=i
     ·rw [ca,cb]
     ·rw [if_pos ca,if_neg cb]at h;omega
     ·rw [if_neg ca,if_pos cb]at h;omega
     ·rw [if_neg ca,if_neg cb]at h;exact hσ _ _ (by omega))
    obtain ⟨hok,_⟩:=hL E r hLr
    obtain ⟨pre,post,e1⟩:=List.append_of_mem ((hok.mem i).2 ⟨hlt,h1⟩)
    refine ⟨E,pre,post,e1▸hLr,fun e he em h2 h3=>?_,fun e he em g1 g2=>?_⟩
    ·have := hr e he em h3.2 (by rw[h2];exact h1)
     rw [h2,if_pos rfl]at this
     omega
    ·have hn:∀k,(listed.setIfInBounds i true).getD k true=false→k≠i∧listed.getD k true=false:=fun k g=>by
      by_cases c:k=i
      ·subst c
       have h3:k<listed.size:=by omega
       simp [Array.getD,h3]at g
      ·rw [getD_set_ne true (fun e=>c e.symm)]at g
       exact ⟨c,g⟩
     obtain ⟨n1,n2⟩:=hn _ g1
     obtain ⟨n3,n4⟩:=hn _ g2
     have := hr e he em n2 n4
     rw [if_neg n1,if_neg n3]at this
     omega
   have hst:DM X N all o s fun s1=>∀E pre post,L E (pre++i::post)→keep E→JJ X N all (pre++post) s1 K:=by
    obtain ⟨E,pre,post,hL0,hk0,_⟩:=cov2 id (fun a b h=>h)
    have g0:=step E pre post hL0 hk0
    rw [DN hny0]at g0 ⊢
    obtain ⟨s1,x1,_⟩:=g0
    refine ⟨s1,x1,fun E pre post hl hk=>?_⟩
    have g:=step E pre post hl hk
    rw [DN hny0]at g
    obtain ⟨s2,y1,y2⟩:=g
    rw [x1]at y1
    cases y1
    exact y2
   unfold wpOpIn
   simp only[ho]
   refine IH hX hY hst hs hC fun C' s1 a' w' hle hs' hrest=>?_
   refine ih (fun E r=>∃pre post,L E (pre++i::post)∧keep E∧r=pre++post) _ C' s1 a' w' (hcl.set ho hedges) ?_ ?_ (by simpa using hsz) hs' (hC.trans hle.lek) (fun C'' s'' a'' w'' hle' hs'' hk=>hQ C'' s'' a'' w'' (hle.trans hle') hs'' hk)
   ·rintro E r ⟨pre,post,hl,hk,rfl⟩
    obtain ⟨hok,_⟩:=hL E _ hl
    obtain ⟨hnd,hrem⟩:=xO hok.mem hsz rfl hok.nd
    refine ⟨⟨by have:=hok.len;simp at this ⊢;omega,hnd,fun j hj=>hok.self j (by simp at hj ⊢;rcases hj with h | h <;> simp[h]),?_,hrem,fun e he em hl2=>?_⟩,hrest E pre post hl hk⟩
    have hp1:=hok.pw
    rw [List.pairwise_append]at hp1 ⊢
    exact ⟨hp1.1,(List.pairwise_cons.1 hp1.2.1).2,fun x hx y hy=>hp1.2.2 x hx y (by simp[hy])⟩
    have h5:¬(e.1<all.size∧listed.getD e.1 true=false):=by
     by_cases c:e.2=i
     ·exact hk e he em c
     ·rw [getD_set_ne false (fun x=>c x.symm)]at hl2
      exact hok.cl e he em hl2
    rintro ⟨g1,g2⟩
    by_cases c:e.1=i
    ·have h3:i<listed.size:=by omega
     rw [c]at g2
     simp [Array.getD,h3]at g2
    ·rw [getD_set_ne true (fun x=>c x.symm)]at g2
     exact h5 ⟨g1,g2⟩
   ·intro σ hσ
    obtain ⟨E,pre,post,hl,hk,h2⟩:=cov2 σ hσ
    exact ⟨E,pre++post,⟨pre,post,hl,hk,rfl⟩,h2⟩
theorem Uo (hX:E8 X) (hq:Bx X) (hY:FG X C0) {all:Array Oper} {t:Tree} (hd:Kc X all t=true) {K:IState→Prop} {Q:Exit→Act→World→Prop} {C:Ctx} {s:IState} {a:Act} {w:World}
  (h1 : ∀r∈t.orders,EE X N all (atO all r) s K) (hs:Simul N C s a w) (hC:C0.lek C) (hQ:∀C' s' a' w',C.le C'→Simul N C' s' a' w'→K s'→Q .normal a' w') :
  wpAnyIn (FR rd) 0 X.P .any all Q all.size (Array.replicate all.size false) a w:=by
 unfold Kc at hd
 simp only[Bool.and_eq_true,List.all_eq_true]at hd
 obtain ⟨⟨d1,d2⟩,d3⟩:=hd
 have hop:∀(i:Nat) (o:Oper),all[i]?=some o→o∈all.toList:=fun i o h=>by
  have : all.toList[i]?=some o:=by rw[Array.getElem?_toList];exact h
  exact List.mem_of_getElem? this
 have hny:∀(i:Nat) (o:Oper),all[i]?=some o→BV X o.op=true:=fun i o h=>(d1 o (hop i o h)).1
 have hmem1:∀i,i∈List.range all.size↔(i<all.size∧(Array.replicate all.size false).getD i true=false):=fun i=>by
  by_cases hlt:i<all.size <;> simp[hlt,Array.getD]
 refine RR hX hq hY (fun i o h e he hb=>?_) hny all.size (fun E r=>(E,r)∈t.leaves []) _ C s a w (fun j y hy hl=>by simp[Array.getD]at hl) (fun E r hl=>?_) (fun σ hσ=>?_) (by simp) hs hC hQ
 ·have :=(d1 o (hop i o h)).2 e (by simpa using he)
  simpa [hb]using this
 ·have hok:=I9 d3 hl
  simp only[D4,Bool.and_eq_true,List.all_eq_true,decide_eq_true_eq]at hok
  obtain ⟨⟨⟨k1,k2⟩,k3⟩,k4⟩:=hok
  have hmem2:∀i,i∈r↔i∈List.range all.size:=fun i=>by
   constructor
   ·intro h;exact List.mem_range.2 (k2 i h)
   ·intro h
    have := k3 i h
    simpa using this
  have p:r.Perm (List.range all.size):=(List.perm_ext_iff_of_nodup k4 List.nodup_range).2 hmem2
  refine ⟨⟨by rw[p.length_eq,List.length_range],k4,fun i hi=>d2 i ((hmem2 i).1 hi),?_,fun i=>by rw[hmem2,hmem1],fun e _ _ hl2=>by simp[Array.getD]at hl2⟩,YV _ _ k2 hny (h1 r (Fi hl))⟩
  exact (Nk k1).imp fun {i j} h=>by
   simp only[Bool.and_eq_true]at h
   exact h
 ·obtain ⟨p,hp,h2⟩:=Fj (E := []) hσ d3 (fun e he=>by simp at he)
  exact ⟨p.1,p.2,hp,fun e he em _ _=>h2 e he em⟩
end
end
end Sim
