/- Lemmas. -/
import Derived.Test.YtdfjimjbdakofaaGreatSimD
import Derived.OrdersIn
import Derived.TacticsIn
import Derived.RangeFuncRecord
set_option linter.all false
open Array renaming getD->bm,getD_eq_getD_getElem?->fd,getElem?_eq_getElem->bz,getElem?_toList->bx,getElem?_eq_some_iff->ai,replicate->l8
open Bool renaming false_eq_true->gu,not_eq_true'->j9,and_eq_true->fy,or_eq_true->kx
open Go.Call renaming operands->j8
open Go.Fence renaming wide->jx
open Go.Instr renaming yield->lb
open Go.Oper renaming semAt_eq->jz
open Go.Region renaming wanted->jy,binds->jw,ready->lh
open Go.Result renaming andThen->bg
open Go.Sem renaming run_bind->bf,run_pure->c8
open List renaming map_congr_left->j7,cons_append->kh,all_eq_true->ga,mem_of_mem_take->dh,mem_of_mem_drop->dg,mem_append->kq,mem_singleton->ku,mem_of_getElem?->ac,all_append->kw,any_eq_true->ky,mem_zipIdx_iff_getElem?->kz,getElem?_eq_some_iff->ab,eq_nil_of_length_eq_zero->fo,eq_nil_iff_forall_not_mem->lg,mem_cons->li,rel_of_pairwise_cons->ln,append_of_mem->lq,pairwise_append->lu,pairwise_cons->lw,perm_middle->lz,nodup_cons->l5,Pairwise.nil->l6,Pairwise.cons->l7,range->br
open Nat renaming lt_or_ge->bh,le_refl->cg
open Option renaming some.injEq->bp,bind_eq_some_iff->au,map_eq_some_iff->az,bind_some->aw,bind_none->ko
open Prod renaming mk.injEq->c9
open Sim.Cfg renaming see->kc
open Sim.Ctx renaming le.refl->fg
open Sim.PV renaming isInt->kj
open Sim.Store renaming set->kd,arr?->kf,again->kg,past->ki,hard->km,new->kp
namespace Sim
open Go
structure Simul (N:Nat) (C:Ctx) (s:IState) (a:Act) (w:World):Prop where
 defers : ∀d∈a.defers,∃b,d=⟨.collected b,#[]⟩/\C.keep b=true/\C.caller b=false
 nodup : a.defers.Nodup
 own : ∀b,C.caller b=true->C.keep b=true
 size : a.tmps.size=N
 tmp : ∀t,t<N->VR C (a.tmps.getD t undef) (s.env t)
 out : ∀t,N<=t->s.env t=.bad
 inv : Inv C s.st w
section
variable {X:Cfg} {N:Nat} {C:Ctx} {s s':IState} {a:Act} {w:World}
theorem Simul.defersMono {C':Ctx} (h:Simul N C s a w) (hle:C.le C'):∀d∈a.defers,∃b,d=⟨.collected b,#[]⟩/\C'.keep b=true/\C'.caller b=false:=λd hd=>let ⟨b,h1,h2,h3⟩:=h.defers d hd;⟨b,h1,hle.keep b h2,by rw[hle.caller];exact h3⟩
theorem Simul.ownMono {C':Ctx} (h:Simul N C s a w) (hle:C.le C'):∀b,C'.caller b=true->C'.keep b=true:=λb hb=>hle.keep b (h.own b (by rw[<-hle.caller];exact hb))
theorem Simul.eval (h:Simul N C s a w) (x:Operand):VR C (a.eval x) (AA s.env x):=by
 cases x with
 | tmp t =>
  rcases bh t N with hl | hl
  .exact h.tmp t hl
  .have : AA s.env (.tmp t)=.bad:=h.out t hl
   rw [this];exact .bad _
 | const v=>exact CH v
 | global g=>exact .bad _
 | func f=>exact .func _ _ _ _ _ rfl rfl (by intro i p h;simp at h) (by intro i p h;simp at h)
theorem Simul.put {C':Ctx} (h:Simul N C s a w) {dst:Option Nat} {v:Value} {p:PV} {st':Store} {w':World} (hle:C.le C') (hi:Inv C' st' w') (hv:VR C' v p)
  (hp : (match dst with | none=>some ⟨s.env,st'⟩ | some d=>if d<N then some ⟨upd s.env d p,st'⟩else none)=some s'):Simul N C' s' (a.put dst v) w':=by
 cases dst with
 | none =>
  simp only[bp]at hp;subst hp
  exact ⟨h.defersMono hle,h.nodup,h.ownMono hle,h.size,λt ht=>(h.tmp t ht).mono hle,h.out,hi⟩
 | some d =>
  dsimp only at hp
  split at hp
  .rename_i hd
   simp only[bp]at hp;subst hp
   refine ⟨h.defersMono hle,h.nodup,h.ownMono hle,by simp[Act.put,h.size],λt ht=>?_,λt ht=>?_,hi⟩
   .by_cases e:t=d
    .subst e
     have : (a.put (some t) v).tmps.getD t undef=v:=by simp[Act.put,bm,h.size,ht]
     rw [this];simpa [upd]using hv
    .have : (a.put (some d) v).tmps.getD t undef=a.tmps.getD t undef:=by
      simp only[Act.put,fd,Array.getElem?_setIfInBounds_ne (λx=>e x.symm)]
     rw [this]
     simp only[upd,e,if_false]
     exact (h.tmp t ht).mono hle
   .have : t≠d:=by omega
    simp only[upd,this,if_false]
    exact h.out t ht
  .cases hp
def FR (rd:Option Nat):Fence:={ jx with round:=rd }
theorem callsIn_FR {rd:Option Nat} {n:Nat} {P:Program} {f:FuncId} {args:Array Value} {w:World} {R:Ending->World->Prop}:CallsIn (FR rd) n P f args w R↔Calls P f args w R:=by
 rw [<-callsIn_wide (n:=n)];exact Iff.rfl
theorem mK {rd:Option Nat} {P:Program} {o:Oper} {next:Act->World->Prop} {Q:Exit->Act->World->Prop} {r:Result Next} {R:Value->World->Prop} (h:Res P r R)
  (hn : ∀v w',R v w'->next (a.put o.dst v) w'):o.uponIn (FR rd) 0 P a next Q r:=by
 unfold Res at h
 split at h
 .exact hn _ _ h
 .exact hn _ _ h
 .refine ⟨λhd=>by simp[FR,jx]at hd,CallsIn.mono (callsIn_FR.2 h) λe w' he=>?_⟩
  obtain ⟨v,rfl,hr⟩:=he
  exact hn _ _ hr
 .exact h.elim
theorem Qr {X:Cfg} {d:Nat} {op:Op} {ρ:Operand->PV} {st:Store} {r:PV×Store} (h:iop X d op ρ st=some r):∀c,op≠.defer c:=by
 intro c e;subst e;simp[iop]at h
theorem Up {rd:Option Nat} (hX:Fb X) {all:Array Oper} {o:Oper} (h:stepG X N all o s=some s') (hs:Simul N C s a w) {K:Act->World->Prop} {Q:Exit->Act->World->Prop}
  (hK : ∀C' a' w',C.le C'->Simul N C' s' a' w'->K a' w') :
  if jy o (yielded all a.tmps)then o.wpIn (FR rd) 0 X.P a w K Q else (∀f,o.about X.P w a.eval=some f->(FR rd).fn f)/\K (a.put o.dst undef) w:=by
 unfold stepG at h
 simp only[au]at h
 obtain ⟨⟨p,st'⟩,hact,hput⟩:=h
 have go:iop X (o.dst.getD 0) o.op (AA s.env) s.st=some (p,st')->o.wpIn (FR rd) 0 X.P a w K Q:=λhop=>by
  refine ⟨λ_ _=>trivial,?_⟩
  rw [jz _ _ _ (Qr hop)]
  refine mK (bV hX hop hs.inv hs.eval) λv w' hv=>?_
  obtain ⟨C',h1,h2,h3⟩:=hv
  exact hK C' _ _ h1 (hs.put h1 h2 h3 hput)
 have skip:p=.tuple []->st'=s.st->K (a.put o.dst undef) w:=λe1 e2=>by
  subst e1 e2
  exact hK C _ _ (fg C) (hs.put (fg C) hs.inv (.tuple #[] [] rfl (by intro i p h;simp at h)) hput)
 unfold Bx at hact
 split at hact
 .rename_i hg
  rw [if_pos (by simp[jy,hg])]
  exact go hact
 .rename_i j want hg
  split at hact
  .rename_i b hb
   have hy:yielded all a.tmps j=some b:=by
    unfold DK at hb
    split at hb
    .rename_i d hd
     have hd':d<N:=by
      rcases bh d N with hl | hl
      .exact hl
      .rw [hs.out d hl]at hb;cases hb
     have := hs.tmp d hd'
     rw [hb]at this
     have h2:=Du this
     have h3:a.tmps[d]?=some (.bool b):=by
      have hlt:d<a.tmps.size:=by rw[hs.size];exact hd'
      rw [bz hlt]
      simpa [bm,hlt]using h2
     simp [yielded,hd,h3]
    .cases hb
   split at hact
   .rename_i hbw
    rw [if_pos (by simp[jy,hg,hy,hbw])]
    exact go hact
   .rename_i hbw
    rw [if_neg (by simp[jy,hg,hy,hbw])]
    simp only[bp,c9]at hact
    exact ⟨λ_ _=>trivial,skip hact.1.symm hact.2.symm⟩
  .rename_i hb
   have hy:yielded all a.tmps j=none:=by
    unfold DK at hb
    split at hb
    .rename_i d hd
     have hd':d<N:=by
      rcases bh d N with hl | hl
      .exact hl
      .rw [hs.out d hl]at hb;cases hb
     have := hs.tmp d hd'
     rw [hb]at this
     have h2:∃cs,a.tmps.getD d undef=.tuple cs:=by
      generalize a.tmps.getD d undef=v at this
      cases this with
      | tuple cs=>exact⟨cs,rfl⟩
     obtain ⟨cs,h2⟩:=h2
     have h3:a.tmps[d]?=some (.tuple cs):=by
      have hlt:d<a.tmps.size:=by rw[hs.size];exact hd'
      rw [bz hlt]
      simpa [bm,hlt]using h2
     simp [yielded,hd,h3]
    .cases hb
   rw [if_neg (by simp[jy,hg,hy])]
   simp only[bp,c9]at hact
   exact ⟨λ_ _=>trivial,skip hact.1.symm hact.2.symm⟩
  .cases hact
theorem Uq {ρ ρ':Nat->PV} {x:Operand} (h:∀t,x=.tmp t->ρ t=ρ' t):AA ρ x=AA ρ' x:=by
 cases x <;> first | rfl | exact h _ rfl
theorem cG {d:Nat} {o:Op} {ρ ρ':Operand->PV} {st:Store} (h:∀x∈o.operands,ρ x=ρ' x):iop X d o ρ st=iop X d o ρ' st:=by
 have pairs:∀ps:Array (Nat×Operand),(∀x∈(ps.toList.map (·.2)),ρ x=ρ' x)->(ps.toList.map λ(i,x)=>(i,ρ x))=(ps.toList.map λ(i,x)=>(i,ρ' x)):=λps hp =>
  j7 λp hm=>by
   obtain ⟨i,x⟩:=p
   simp only[hp x (List.mem_map.2 ⟨(i,x),hm,rfl⟩)]
 have lst:∀(l:List Operand),(∀x∈l,ρ x=ρ' x)->l.map ρ=l.map ρ':=λl hl=>j7 hl
 cases o <;> simp only[Op.operands]at h <;> simp only[iop]
 case build t ps=>rw[pairs ps λx hx=>h x (by simpa using hx)]
 case buildSlice t n ps=>rw[pairs ps λx hx=>h x (by simpa using hx)]
 case makeFunc fn first captured=>rw[lst first.toList λx hx=>h x (by simp at hx;simp[hx]),lst captured.toList λx hx=>h x (by simp at hx;simp[hx])]
 case call c =>
  have ha:=lst c.args.toList λx hx=>h x (by simp at hx;simp[j8,hx])
  cases hc:c.callee with
  | value f=>have hf:ρ f=ρ' f:=h f (by simp[j8,hc]);simp only[hf,ha]
  | invoke r m=>have hr:ρ r=ρ' r:=h r (by simp[j8,hc]);simp only[hr,ha]
  | builtin b=>simp only[ha]
 case typeAssert x xt t ok =>
  have hx:ρ x=ρ' x:=h x (by simp)
  cases ok with
  | true=>rfl
  | false=>simp only[iop,hx]
 case slice t x lo hi mx =>
  cases mx with
  | some m=>rfl
  | none=>cases lo <;> cases hi <;> simp_all
 case makeMap t r =>
  cases r with
  | none=>rfl
  | some r=>simp only[h r (by simp)]
 all_goals (first | rfl | (simp_all;done))
theorem Ur (hq:By X) {o:Oper} (h:Ht X o=true) {ρ:Nat->PV} {st st':Store} {p:PV}
  (hop : iop X (o.dst.getD 0) o.op (AA ρ) st=some (p,st')):st'=st:=by
 obtain ⟨dst,op,ty,pos,after,guard⟩:=o
 dsimp only at hop
 cases op <;> simp only[Ht,gu]at h <;> (try simp only[iop]at hop)
 case move x=>simp only[bp,c9]at hop;exact hop.2.symm
 case assign x=>simp only[bp,c9]at hop;exact hop.2.symm
 case pick c x y =>
  split at hop
  .simp only[bp,c9]at hop;exact hop.2.symm
  .cases hop
 case box t x =>
  simp only[j9]at h
  simp only[h,gu,if_false]at hop
  split at hop
  .simp only[bp,c9]at hop;exact hop.2.symm
  .cases hop
 case buildSlice t n ps =>
  simp only[j9]at h
  simp only[h,gu,if_false]at hop
  split at hop
  .simp only[au,bp,c9]at hop;obtain⟨_,_,_,e⟩:=hop;exact e.symm
  .cases hop
 case load t x=>simp only[au,az,c9]at hop;obtain⟨_,_,_,_,_,e⟩:=hop;exact e.symm
 case nilCheck x =>
  split at hop
  .simp only[bp,c9]at hop;exact hop.2.symm
  .simp only[az,c9]at hop;obtain⟨_,_,_,e⟩:=hop;exact e.symm
  .cases hop
 case slice t x lo hi mx =>
  simp only[j9]at h
  cases mx with
  | some m=>simp at hop
  | none =>
   simp only[h,gu,if_false]at hop
   split at hop
   .cases hop
   .cases hop
   .simp only[az,c9]at hop;obtain⟨_,_,_,e⟩:=hop;exact e.symm
 case fieldAddr t x f =>
  simp only[au]at hop
  obtain ⟨_,_,hop⟩:=hop
  split at hop
  .simp only[az,c9]at hop;obtain⟨_,_,_,e⟩:=hop;exact e.symm
  .cases hop
 case field t x f =>
  split at hop
  .simp only[au,az,c9]at hop
   obtain ⟨_,_,_,_,_,_,_,e⟩:=hop;exact e.symm
  .cases hop
 case indexAddr t x i =>
  split at hop
  .simp only[az,c9]at hop;obtain⟨_,_,_,e⟩:=hop;exact e.symm
  .cases hop
 case index t x i =>
  split at hop
  .simp only[az,c9]at hop;obtain⟨_,_,_,e⟩:=hop;exact e.symm
  .cases hop
 case extract x i =>
  split at hop
  .simp only[az,c9]at hop;obtain⟨_,_,_,e⟩:=hop;exact e.symm
  .cases hop
 case lookup t m k ok=>simp only[az,c9]at hop;obtain⟨_,_,_,e⟩:=hop;exact e.symm
 case makeFunc fn first captured=>simp only[bp,c9]at hop;exact hop.2.symm
 case makeInterface t x =>
  split at hop
  .simp only[bp,c9]at hop;exact hop.2.symm
  .cases hop
 case typeAssert x xt t ok =>
  cases ok with
  | true=>simp[iop]at hop
  | false =>
   simp only[iop]at hop
   split at hop
   .split at hop
    .simp only[bp,c9]at hop;exact hop.2.symm
    .cases hop
   .cases hop
 case call c =>
  obtain ⟨callee,args,argTypes⟩:=c
  dsimp only at h hop
  cases callee with
  | value f =>
   cases f <;> simp only[gu]at h
   rename_i f
   simp only[fy,j9]at h
   simp only[AA,DP,h.2,gu,if_false]at hop
   split at hop
   .cases hop
   .exact (hq.1 _ _ _ _ _ h.1 hop).1
  | invoke r m=>simp at h
  | builtin b =>
   dsimp only at h hop
   cases b <;> simp only[gu]at h <;> (unfold Bj at hop;split at hop) <;> first
    | (cases hop;done)
    | (rename_i hb _ _;simp at hb;done)
    | (simp only[az,c9]at hop;obtain⟨_,_,_,e⟩:=hop;exact e.symm)
    | skip
 all_goals (simp only[az,c9]at hop;obtain⟨_,_,_,e⟩:=hop;exact e.symm)
theorem Us (hq:By X) {o:Oper} (h:FG X o=true) {ρ:Nat->PV} {st st':Store} {p:PV}
  (hop : iop X (o.dst.getD 0) o.op (AA ρ) st=some (p,st')):st'=st/\∀st2,iop X (o.dst.getD 0) o.op (AA ρ) st2=some (p,st2):=by
 obtain ⟨dst,op,ty,pos,after,guard⟩:=o
 dsimp only at hop ⊢
 have mp:∀ {α:Type} {x:Option α} {f:α->PV},x.map (λv=>(f v,st))=some (p,st')->st'=st/\∀st2:Store,x.map (λv=>(f v,st2))=some (p,st2):=λ{α x f} h=>by
  simp only[az,c9]at h ⊢
  obtain ⟨a,h1,h2,h3⟩:=h
  exact ⟨h3.symm,λst2=>⟨a,h1,h2,trivial⟩⟩
 cases op <;> simp only[FG,gu]at h <;> (try simp only[iop]at hop ⊢)
 case makeInterface t x =>
  split at hop
  .rename_i hc
   simp only[bp,c9]at hop;exact⟨hop.2.symm,λ_=>by rw[if_pos hc,hop.1]⟩
  .cases hop
 case typeAssert x xt t ok =>
  cases ok with
  | true=>simp[iop]at hop
  | false =>
   simp only[iop]at hop ⊢
   split at hop
   .split at hop
    .rename_i hc
     simp only[bp,c9]at hop
     exact ⟨hop.2.symm,λ_=>by rw[if_pos hc,hop.1]⟩
    .cases hop
   .cases hop
 case move x=>simp only[bp,c9]at hop;exact⟨hop.2.symm,λ_=>by rw[hop.1]⟩
 case assign x=>simp only[bp,c9]at hop;exact⟨hop.2.symm,λ_=>by rw[hop.1]⟩
 case pick c x y =>
  split at hop
  .simp only[bp,c9]at hop;exact⟨hop.2.symm,λ_=>by rw[hop.1]⟩
  .cases hop
 case box t x =>
  simp only[j9]at h
  simp only[h,gu,if_false]at hop ⊢
  split at hop
  .rename_i hc
   simp only[bp,c9]at hop;exact⟨hop.2.symm,λ_=>by rw[if_pos hc,hop.1]⟩
  .cases hop
 case makeSlice t l c =>
  simp only[fy,beq_iff_eq]at h
  split at hop
  .rename_i n m h1 h2
   split at hop
   .rename_i hc
    simp only[h.1,h.2,if_true,bp,c9]at hop
    exact ⟨hop.2.symm,λst2=>by simp only[if_pos hc,h.1,h.2,if_true,hop.1]⟩
   .cases hop
  .cases hop
 case load t x =>
  simp only[kc,h,if_true,au,az,c9]at hop ⊢
  obtain ⟨a,h1,b,h2,h3,h4⟩:=hop
  exact ⟨h4.symm,λst2=>⟨a,h1,b,h2,h3,trivial⟩⟩
 case fieldAddr t x f =>
  simp only[kc,h,if_true,au]at hop ⊢
  obtain ⟨a,h1,h2⟩:=hop
  split at h2
  .rename_i hz
   simp only[az,c9]at h2
   obtain ⟨b,h3,h4,h5⟩:=h2
   exact ⟨h5.symm,λst2=>⟨a,h1,by rw[if_pos hz];simp[h3,h4]⟩⟩
  .cases h2
 case indexAddr t x i =>
  simp only[kc,h,if_true]at hop ⊢
  split at hop
  .exact mp (f:=λv=>v) hop
  .cases hop
 case slice t x lo hi mx =>
  simp only[fy,j9]at h
  simp only[kc,h.1,if_true]at hop ⊢
  cases mx with
  | some m=>cases hop
  | none =>
   simp only[h.2,gu,if_false]at hop ⊢
   split at hop
   .cases hop
   .cases hop
   .exact mp (f:=λv=>v) hop
 case buildSlice t n ps =>
  simp only[j9]at h
  simp only[h,gu,if_false]at hop ⊢
  split at hop
  .rename_i hc
   simp only[au,bp,c9]at hop
   obtain ⟨a,h1,h2,h3⟩:=hop
   exact ⟨h3.symm,λst2=>by rw[if_pos hc];simp only[au,bp,c9];exact⟨a,h1,h2,trivial⟩⟩
  .cases hop
 case field t x f =>
  split at hop
  .cases h1:A5 X.P t f with
   | none=>simp[h1]at hop
   | some q =>
    obtain ⟨o,z,u⟩:=q
    simp only[h1,aw]at hop ⊢
    cases h2:Bv X.P u with
    | none=>simp[h2]at hop
    | some q =>
     obtain ⟨z,ag⟩:=q
     simp only[h2,aw]at hop ⊢
     exact mp (f:=λv=>v) hop
  .cases hop
 case index t x i =>
  split at hop
  .exact mp (f:=λv=>v) hop
  .cases hop
 case extract x i =>
  split at hop
  .exact mp (f:=λv=>v) hop
  .cases hop
 case makeFunc fn first captured=>simp only[bp,c9]at hop;exact⟨hop.2.symm,λ_=>by rw[hop.1]⟩
 case call c =>
  obtain ⟨callee,args,argTypes⟩:=c
  dsimp only at h hop ⊢
  cases callee with
  | value f =>
   cases f <;> simp only[gu]at h
   .rename_i f
    simp only[fy,j9]at h
    obtain ⟨⟨h1,h2⟩,h3⟩:=h
    simp only[AA,DP]
    simp only[AA,DP]at hop
    split at hop
    .rename_i g fi ca hg
     simp only[h3,gu,if_false,h2,true_and]at hop ⊢
     split at hop
     .cases hop
     .rename_i hc
      rw [not_or]at hc
      obtain ⟨hc1,hc2⟩:=hc
      have hqg:X.quiet g=true:=by
       cases hx:X.quiet g with
       | true=>rfl
       | false=>exact absurd ⟨h1,hx⟩ hc2
      have hp:=hq.1 _ _ _ _ _ hqg hop
      refine ⟨hp.1,λst2=>?_⟩
      rw [if_neg (λhh=>hh.elim hc1 hc2)]
      exact hp.2 (by simpa using hc1) st2
    .cases hop
   .rename_i f
    simp only[fy,j9]at h
    obtain ⟨⟨h1,h2⟩,h3⟩:=h
    simp only[AA,DP,h3,gu,if_false,h2,true_and]at hop ⊢
    split at hop
    .cases hop
    .rename_i hc
     have hp:=hq.1 _ _ _ _ _ h1 hop
     refine ⟨hp.1,λst2=>?_⟩
     rw [if_neg hc]
     rw [not_or]at hc
     exact hp.2 (by simpa using hc.1) st2
  | invoke r m=>simp at h
  | builtin b =>
   dsimp only at h hop ⊢
   cases b <;> simp only[gu]at h
   .unfold Bj at hop ⊢
    split at hop <;> first
     | (cases hop;done)
     | (rename_i hb _ _;simp at hb;done)
     | exact mp (f:=λv=>v) hop
     | skip
   .unfold Bj at hop ⊢
    split at hop <;> first
     | (cases hop;done)
     | (rename_i hb _ _;simp at hb;done)
     | exact mp (f:=λv=>v) hop
     | skip
 all_goals exact mp (f:=λv=>v) hop
theorem OG {all:Array Oper} {o:Oper} {s1 s2:IState} (he:∀t∈o.looksAt all,s1.env t=s2.env t) (hst:s1.st=s2.st):Bx X all o s1=Bx X all o s2:=by
 have h1:iop X (o.dst.getD 0) o.op (AA s1.env) s1.st=iop X (o.dst.getD 0) o.op (AA s2.env) s2.st:=by
  rw [hst]
  exact cG λx hx=>Uq λt ht=>he t (List.mem_append_left _ (List.mem_filterMap.2 ⟨.tmp t,by rw[<-ht];simpa using hx,rfl⟩))
 unfold Bx
 split
 .exact h1
 .rename_i j want hg
  have h2:DK all s1.env j=DK all s2.env j:=by
   unfold DK
   split
   .rename_i d hd
    exact he d (List.mem_append_right _ (by simp[hg,hd]))
   .rfl
  rw [h2]
  split
  .split
   .exact h1
   .rw [hst]
  .rw [hst]
  .rfl
theorem B1 (hq:By X) {all:Array Oper} {o:Oper} (h:Ht X o=true) {s:IState} {r:PV×Store} (ha:Bx X all o s=some r):r.2=s.st:=by
 unfold Bx at ha
 split at ha
 .exact Ur hq h ha
 .split at ha
  .split at ha
   .exact Ur hq h ha
   .simp only[bp]at ha;rw[<-ha]
  .simp only[bp]at ha;rw[<-ha]
  .cases ha
theorem FI (hq:By X) {all:Array Oper} {o:Oper} (h:FG X o=true) {s:IState} {r:PV×Store} (ha:Bx X all o s=some r):r.2=s.st/\∀st2,Bx X all o ⟨s.env,st2⟩=some (r.1,st2):=by
 unfold Bx at ha ⊢
 split at ha
 .rename_i hg
  obtain ⟨h1,h2⟩:=Us hq h (p:=r.1) (st':=r.2) ha
  exact ⟨h1,λst2=>by simp only[hg];exact h2 st2⟩
 .rename_i j want hg
  split at ha
  .rename_i b hb
   split at ha
   .rename_i hbw
    obtain ⟨h1,h2⟩:=Us hq h (p:=r.1) (st':=r.2) ha
    exact ⟨h1,λst2=>by simp only[hg,hb,hbw,if_true];exact h2 st2⟩
   .rename_i hbw
    simp only[bp]at ha
    subst ha
    exact ⟨rfl,λst2=>by simp only[hg,hb,hbw,if_false]⟩
  .rename_i hb
   simp only[bp]at ha
   subst ha
   exact ⟨rfl,λst2=>by simp only[hg,hb]⟩
  .cases ha
def Local (id:Nat) (F:Store->Option (PV×Store)) (st:Store) (p:PV) (st':Store):Prop :=
 st'.next = st.next/\(∀i,i≠id->st'.obj i=st.obj i)/\∀st2:Store,st2.obj id=st.obj id->F st2=some (p,⟨Ab st2.obj id (st'.obj id),st2.next⟩)
theorem Local.same {id:Nat} {F:Store->Option (PV×Store)} {st:Store} {p:PV} (h:∀st2,F st2=some (p,st2)):Local id F st p st:=by
 refine ⟨rfl,λ_ _=>rfl,λst2 e=>?_⟩
 rw [h,<-e]
 congr 2
 cases st2
 congr 1
 funext i
 by_cases hi:i=id <;> simp[Ab,hi]
theorem Ut {k z n:Nat} {l:List PV} {st st':Store} {p:PV} (h:st.re k z l n=some (p,st')):Local (k-1) (λst=>st.re k z l n) st p st':=by
 unfold Store.re at h
 split at h
 .rename_i g z0 es0 ho
  simp only[bp,c9]at h
  obtain ⟨rfl,rfl⟩:=h
  refine ⟨rfl,λi hi=>by simp[kd,Ab,hi],λst2 e=>?_⟩
  simp only[Store.re,e,ho,kd,Ab,if_true]
 .cases h
theorem cI {k z:Nat} {e:PV} {st st':Store} {p:PV} (h:st.reP k z e=some (p,st')):Local (k-1) (λst=>st.reP k z e) st p st':=by
 unfold Store.reP at h
 split at h
 .rename_i g z0 es0 ho
  simp only[bp,c9]at h
  obtain ⟨rfl,rfl⟩:=h
  refine ⟨rfl,λi hi=>by simp[kd,Ab,hi],λst2 e=>?_⟩
  simp only[Store.reP,e,ho,kd,Ab,if_true]
 .cases h
theorem Sg {id gen s n z:Nat} {ys:List PV} {st st':Store} {p:PV} (h:CJ st z (.ref id gen s n) ys=some (p,st')):Local id (λst=>CJ st z (.ref id gen s n) ys) st p st':=by
 simp only[CJ,au]at h
 obtain ⟨q,hq,h⟩:=h
 have hq2:∀st2:Store,st2.obj id=st.obj id->st2.arr? id gen=some q:=λst2 e=>by
  unfold kf at hq ⊢;rw[e];exact hq
 split at h
 .rename_i hc
  split at h
  .rename_i hc2
   simp only[bp,c9]at h
   obtain ⟨rfl,rfl⟩:=h
   refine ⟨rfl,λi hi=>by simp[kd,Ab,hi],λst2 e=>?_⟩
   simp only[CJ,hq2 st2 e,aw,if_pos hc,if_pos hc2,kd,Ab,if_true]
  .rename_i hc2
   simp only[bp,c9]at h
   obtain ⟨rfl,rfl⟩:=h
   refine ⟨rfl,λi hi=>by simp[kd,Ab,hi],λst2 e=>?_⟩
   simp only[CJ,hq2 st2 e,aw,if_pos hc,if_neg hc2,kd,Ab,if_true]
 .cases h
theorem Uu (hq:By X) {o:Oper} (h:BE X o=true) {ρ:Nat->PV} {st st':Store} {p:PV}
  (hop : iop X (o.dst.getD 0) o.op (AA ρ) st=some (p,st')):Local (X.num (o.dst.getD 0)-1) (λst=>iop X (o.dst.getD 0) o.op (AA ρ) st) st p st':=by
 obtain ⟨dst,op,ty,pos,after,guard⟩:=o
 dsimp only at hop ⊢
 simp only[BE,fy,bne_iff_ne]at h
 obtain ⟨hn,h⟩:=h
 cases op <;> (try simp only[gu]at h) <;> simp only[iop]at hop ⊢
 case buildSlice t n ps =>
  split at hop
  .rename_i hc
   simp only[au,h,hn,if_true,if_false]at hop
   obtain ⟨l,hl,hop⟩:=hop
   have := Ut hop
   simp only[if_pos hc,hl,aw,h,hn,if_true,if_false]
   exact this
  .cases hop
 case alloc t =>
  split at hop
  .rename_i hc
   (try rw[if_neg hn]at hop)
   have := cI hop
   simp only[if_pos hc,if_neg hn]
   exact this
  .cases hop
 case makeSlice t l c =>
  split at hop
  .rename_i n m h1 h2
   split at hop
   .rename_i hc
    (try rw[if_neg hn]at hop)
    have := Ut hop
    simp only[if_pos hc,if_neg hn]
    exact this
   .cases hop
  .cases hop
 case call c =>
  obtain ⟨callee,args,ats⟩:=c
  cases callee with
  | value f =>
   cases f <;> simp only[gu]at h
   rename_i f
   simp only[fy]at h
   obtain ⟨⟨h1,h2⟩,h3⟩:=h
   dsimp only at hop ⊢
   simp only[AA,DP,h2,h3,if_true,true_and,ne_eq,hn,not_false_eq_true]at hop ⊢
   split at hop
   .rename_i hids
    simp only[au]at hop
    obtain ⟨as,has,ht⟩:=hop
    obtain ⟨e1,e2⟩:=hq.1 _ _ _ _ _ h1 ht
    subst e1
    refine ⟨rfl,λi hi=>by simp[kg,Ab,hi],λst2 e=>?_⟩
    have honly:st2.only [X.num (dst.getD 0)-1]=⟨(st.only [X.num (dst.getD 0)-1]).obj,st2.next⟩:=by
     unfold Store.only
     congr 1
     funext i
     by_cases hc:i=X.num (dst.getD 0)-1
     .subst hc;simp[e]
     .simp [hc]
    have hrd:∀(l:List PV),Ce (st2.only [X.num (dst.getD 0)-1]) l=Ce (st.only [X.num (dst.getD 0)-1]) l:=λl=>by
     have hC:∀c,rdC (st2.only [X.num (dst.getD 0)-1]) c=rdC (st.only [X.num (dst.getD 0)-1]) c:=λc=>by
      rw [honly];cases c <;> rfl
     have hL:∀l,rdL (st2.only [X.num (dst.getD 0)-1]) l=rdL (st.only [X.num (dst.getD 0)-1]) l:=λl=>by
      induction l with
      | nil=>rfl
      | cons c l ih=>simp only[rdL,hC,ih]
     have hP:∀c,rdP (st2.only [X.num (dst.getD 0)-1]) c=rdP (st.only [X.num (dst.getD 0)-1]) c:=λc=>by
      unfold rdP;split
      .rw [hL]
      .exact hC _
     induction l with
     | nil=>rfl
     | cons c l ih=>simp only[Ce,hP,ih]
    dsimp only
    rw [if_pos hids,hrd,has]
    simp only[aw]
    rw [e2 (QU has) (st2.again (X.num (dst.getD 0)-1))]
    simp only[kg,Ab,if_true,e]
   .cases hop
  | invoke r m=>simp at h
  | builtin b =>
   dsimp only at h hop ⊢
   cases b <;> (try (simp only[gu]at h;done))
   unfold Bj at hop
   split at hop
   .rename_i hb _ _;cases hb
   .rename_i t u x y _ hts has
    split at hop
    .rename_i hc
     have hg:EN (X.num (dst.getD 0)) x y=true:=by
      rcases hc.1 with h0 | h0
      .exact absurd h0 hn
      .exact h0
     have key:∃id gen s n,x=.ref id gen s n/\id=X.num (dst.getD 0)-1/\∀st2:Store,(CD st2 (Ae X.P t) y).bind (λys=>CJ st2 (Ae X.P t) x ys)=(CD st (Ae X.P t) y).bind (λys=>CJ st2 (Ae X.P t) x ys):=by
      unfold EN at hg
      split at hg
      .simp only[beq_iff_eq]at hg
       exact ⟨_,_,_,_,rfl,hg,λst2=>rfl⟩
      .simp only[beq_iff_eq]at hg
       exact ⟨_,_,_,_,rfl,hg,λst2=>rfl⟩
      .cases hg
     obtain ⟨id,gen,s,n,rfl,hid,hk⟩:=key
     simp only[au]at hop
     obtain ⟨ys,hys,hop⟩:=hop
     have := Sg hop
     rw [<-hid]
     refine ⟨this.1,this.2.1,λst2 e=>?_⟩
     have h3:=this.2.2 st2 e
     simp only[Bj]
     rw [hts,has]
     have hc2:(X.num (dst.getD 0)=0\/EN (X.num (dst.getD 0)) (.ref id gen s n) y=true)/\(Ae X.P u≠0\/AT X.P u=true)/\(X.frz (700000+dst.getD 0)=true->X.num (dst.getD 0)=0/\Ol st2 (.ref id gen s n) y=true):=⟨hc.1,hc.2.1,λhf=>absurd (hc.2.2 hf).1 hn⟩
     simp only[if_pos hc2,hk st2,hys,aw]
     exact h3
    .cases hop
   all_goals first | (cases hop;done) | (rename_i hb _;cases hb;done) | (rename_i hb _ _;cases hb;done)
theorem Hw (hq:By X) {all:Array Oper} {o:Oper} (h:BE X o=true) {s:IState} {r:PV×Store} (ha:Bx X all o s=some r):Local (X.num (o.dst.getD 0)-1) (λst=>Bx X all o ⟨s.env,st⟩) s.st r.1 r.2:=by
 unfold Bx at ha ⊢
 split at ha
 .rename_i hg
  have := Uu hq h (p:=r.1) (st':=r.2) ha
  simp only[hg]
  exact this
 .rename_i j want hg
  split at ha
  .rename_i b hb
   split at ha
   .rename_i hbw
    have := Uu hq h (p:=r.1) (st':=r.2) ha
    simp only[hg,hb,hbw,if_true]
    exact this
   .rename_i hbw
    simp only[bp]at ha
    subst ha
    simp only[hg,hb,hbw,if_false]
    exact Local.same λ_=>rfl
  .rename_i hb
   simp only[bp]at ha
   subst ha
   simp only[hg,hb]
   exact Local.same λ_=>rfl
  .cases ha
theorem mL {ρ:Nat->PV} {d e:Nat} {u v:PV} (h:d≠e):upd (upd ρ d u) e v=upd (upd ρ e v) d u:=by
 funext t
 simp only[upd]
 by_cases h1:t=e
 .subst h1
  rw [if_pos rfl,if_neg (λx=>h x.symm),if_pos rfl]
 .simp [h1]
theorem Uv:∀ {l m:List PV},Iq l m=true->l=m
 | [],[],_=>rfl
 | [],_::_,h=>by simp[Iq]at h
 | a::l,[],h=>by cases a <;> simp[Iq]at h
 | a::l,b::m,h=>by
  cases a <;> cases b <;> simp[Iq]at h
  obtain ⟨⟨rfl,rfl⟩,h⟩:=h
  rw [Uv h]
theorem mM {a b:PV} (h:DO a b=true):a=b:=by
 cases a <;> cases b <;> simp[DO]at h
 .exact congrArg _ h
 .obtain ⟨rfl,rfl⟩:=h;rfl
 .exact congrArg _ h
 .exact congrArg _ (Uv h)
theorem Q3 {k v:PV}:∀ {es:List (PV×PV)},Cd es k=some v->CR es k v=es
 | [],h=>by simp[Cd]at h
 | e::es,h=>by
  unfold Cd at h
  split at h
  .rename_i hs
   simp only[bp]at h
   rw [CR,if_pos hs,mM hs,<-h]
  .rename_i hs
   rw [CR,if_neg hs,Q3 h]
theorem Uw {k v:PV}:∀ {es:List (PV×PV)},Cd es k=none->CR es k v=es ++ [(k,v)]
 | [],h=>rfl
 | e::es,h=>by
  unfold Cd at h
  split at h
  .cases h
  .rename_i hs
   rw [CR,if_neg hs,Uw h];rfl
theorem Ux {k v q:PV}:∀ {es:List (PV×PV)},Cd (es ++ [(k,v)]) q=(Cd es q).or (if DO q k=true then some v else none)
 | []=>by simp[Cd]
 | e::es=>by
  rw [kh]
  unfold Cd
  split
  .rfl
  .exact Ux
theorem cJ {k z q:PV} {es:List (PV×PV)}:(Cd (CR es k ((Cd es k).getD z)) q).getD z=(Cd es q).getD z:=by
 cases h:Cd es k with
 | some v=>rw[Option.getD_some,Q3 h]
 | none =>
  rw [Option.getD_none,Uw h,Ux]
  cases Cd es q with
  | some v=>rfl
  | none =>
   simp only[Option.none_or]
   split <;> rfl
theorem cK {st:Store} {mk:MK} {z m k q:PV} (h:CW st (some (mk,z)) m k false=some q):BN mk k=true/\(m=.nilm/\q=z\/∃id gen es,m=.mref id gen/\st.obj id=some (.map gen mk es)/\q=(Cd es k).getD z):=by
 simp only[CW,aw]at h
 split at h
 .rename_i hk
  refine ⟨hk,?_⟩
  split at h
  .simp at h;exact .inl ⟨rfl,h.symm⟩
  .rename_i id gen
   split at h
   .rename_i g mk' es ho
    split at h
    .rename_i hc
     obtain ⟨rfl,rfl⟩:=hc
     refine .inr ⟨id,_,es,rfl,ho,?_⟩
     split at h
     .rename_i v hv
      simp at h;rw[hv];exact h.symm
     .rename_i hv
      simp at h;rw[hv];exact h.symm
    .cases h
   .cases h
  .cases h
 .cases h
theorem Q4 {st:Store} {mk:MK} {z k:PV} {id gen:Nat} {es:List (PV×PV)} (hk:BN mk k=true) (ho:st.obj id=some (.map gen mk es)):CW st (some (mk,z)) (.mref id gen) k false=some ((Cd es k).getD z):=by
 simp only[CW,aw,hk,if_true,ho]
 cases Cd es k <;> rfl
theorem Uy {st st':Store} {ty:Option (MK×PV)} {m m' k k' q r:PV} (h:CW st ty m k false=some q) (h':EG st ty m' k'=some (r,st')):CW st' ty m k false=some q:=by
 cases ty with
 | none=>simp[CW]at h
 | some t =>
  obtain ⟨mk,z⟩:=t
  simp only[EG,aw]at h'
  split at h'
  .rename_i id gen
   split at h'
   .rename_i g mk' es ho
    split at h'
    .rename_i hc
     obtain ⟨rfl,rfl,hk'⟩:=hc
     simp only[bp,c9]at h'
     obtain ⟨rfl,rfl⟩:=h'
     obtain ⟨hk,⟨rfl,rfl⟩ | ⟨i,g,es',rfl,ho',rfl⟩⟩:=cK h
     .simp [CW,hk]
     .by_cases hi:i=id
      .subst hi
       rw [ho]at ho';cases ho'
       rw [Q4 hk (show ((st.set i _).obj i)=_ from by simp[kd,Ab];rfl),cJ]
      .exact Q4 hk (by simp[kd,Ab,hi,ho'])
    .cases h'
   .cases h'
  .cases h'
theorem mN {st:Store} {k i g:Nat}:(st.past k).arr? i g=if i<k then none else st.arr? i g:=by
 unfold kf ki
 dsimp only
 by_cases c:i<k
 .rw [if_pos c,if_pos c]
 .rw [if_neg c,if_neg c]
theorem mO {st:Store} {i g:Nat}:(st.hard).arr? i g=(st.arr? i g).bind λq=>if (decide (q.1<=2)&&q.2.all kj)=true then none else some q:=by
 unfold kf km
 dsimp only
 cases ho:st.obj i with
 | none=>rfl
 | some o =>
  cases o with
  | arr g' z es =>
   simp only[aw]
   by_cases c:(decide (z<=2)&&es.all kj)=true
   .have c':Ir (.arr g' z es)=true:=c
    rw [if_pos c']
    by_cases e:g=g'
    .simp only[e,if_true,aw,if_pos c]
    .simp only[if_neg e,ko]
   .have c':¬Ir (.arr g' z es)=true:=c
    rw [if_neg c']
    by_cases e:g=g'
    .simp only[e,if_true,aw,if_neg c]
    .simp only[if_neg e,ko]
  | _=>rfl
theorem cM {st st':Store} (h:Ei st st'):Ei st.hard st'.hard:=by
 intro i g q hq
 rw [mO]at hq ⊢
 simp only[au]at hq ⊢
 obtain ⟨r,h1,h2⟩:=hq
 exact ⟨r,h _ _ _ h1,h2⟩
theorem OH {st st':Store} (h:Ei st st') (d:Nat):Ei (X.see d st) (X.see d st'):=by
 unfold kc
 split
 .exact λ_ _ _ h=>h
 .split
  .intro i g q hq
   rw [mN]at hq ⊢
   split at hq
   .cases hq
   .rename_i c
    rw [if_neg c];exact h _ _ _ hq
  .split
   .exact cM h
   .exact h
theorem mP {d:Nat} {op:Op} (ho:(match op with | .load ..=>true | .fieldAddr ..=>true | .indexAddr ..=>true | _=>false)=true) {ρ:Operand->PV} {st st' st1:Store} (h:Ei st st') {p:PV} (hq:iop X d op ρ st=some (p,st1)):st1=st/\iop X d op ρ st'=some (p,st'):=by
 split at ho
 .simp only[iop,au,az,c9]at hq ⊢
  obtain ⟨r,h1,q,h2,rfl,rfl⟩:=hq
  exact ⟨rfl,r,h1,_,Kl (OH h d) h2,rfl,trivial⟩
 .simp only[iop,au]at hq ⊢
  obtain ⟨r,h1,h2⟩:=hq
  split at h2
  .rename_i hz
   simp only[az,c9]at h2
   obtain ⟨q,h2,rfl,rfl⟩:=h2
   refine ⟨rfl,r,h1,?_⟩
   rw [if_pos hz,IN (OH h d) h2];rfl
  .cases h2
 .simp only[iop]at hq ⊢
  split at hq
  .rename_i n hn
   simp only[az,c9]at hq
   obtain ⟨q,h2,rfl,rfl⟩:=hq
   refine ⟨rfl,?_⟩
   rw [IP (OH h d) h2];rfl
  .cases hq
 .cases ho
theorem Sh {st st':Store} {ty:Option (MK×PV)} {m k r:PV} (h:EG st ty m k=some (r,st')):Ei st st':=by
 unfold EG at h
 simp only[au]at h
 obtain ⟨⟨mk,z⟩,_,h⟩:=h
 dsimp only at h
 split at h
 .rename_i id gen
  split at h
  .rename_i g mk' es ho
   split at h
   .simp only[bp,c9]at h
    obtain ⟨_,rfl⟩:=h
    intro i gn q hq
    unfold kf at hq ⊢
    by_cases e:i=id
    .subst e;rw[ho]at hq;cases hq
    .simp only[kd,Ab,e,if_false];exact hq
   .cases h
  .cases h
 .cases h
section
variable {all:Array Oper}
theorem cN {y:Oper} {t:TypeId} {m k:Operand} (h:y.op=.mapEntry t m k) {s:IState} {py:PV} {sty:Store} (hy:Bx X all y s=some (py,sty)):Ei s.st sty:=by
 obtain ⟨yd,yop,yty,ypos,yaf,yg⟩:=y
 dsimp only at h
 subst h
 have key:∀p,iop X (yd.getD 0) (.mapEntry t m k) (AA s.env) s.st=some (p,sty)->Ei s.st sty:=λp hp=>Sh hp
 unfold Bx at hy
 dsimp only at hy
 split at hy
 .exact key _ hy
 .split at hy
  .split at hy
   .exact key _ hy
   .cases hy;exact λ_ _ _ h=>h
  .cases hy;exact λ_ _ _ h=>h
  .cases hy
theorem WT {x:Oper} (ho:(match x.op with | .load ..=>true | .fieldAddr ..=>true | .indexAddr ..=>true | _=>false)=true) {s:IState} {sty:Store} (hext:Ei s.st sty) {px:PV} {stx:Store} (ax:Bx X all x s=some (px,stx)) :
  stx = s.st/\Bx X all x ⟨s.env,sty⟩=some (px,sty):=by
 obtain ⟨xd,xop,xty,xpos,xaf,xg⟩:=x
 have hl:∀q st,iop X (xd.getD 0) xop (AA s.env) s.st=some (q,st)->st=s.st/\iop X (xd.getD 0) xop (AA s.env) sty=some (q,sty):=λq st hq=>mP (by exact ho) hext hq
 unfold Bx at ax ⊢
 dsimp only at ax ⊢
 cases xg with
 | none=>exact hl _ _ ax
 | some g =>
  obtain ⟨j,w⟩:=g
  dsimp only at ax ⊢
  split at ax
  .rename_i b hb
   split at ax
   .rename_i hw
    obtain ⟨e1,e2⟩:=hl _ _ ax
    exact ⟨e1,by simp only[hb,hw,if_true];exact e2⟩
   .rename_i hw
    cases ax
    exact ⟨rfl,by simp only[hb,if_neg hw]⟩
  .rename_i hb
   cases ax
   exact ⟨rfl,by simp only[hb]⟩
  .cases ax
theorem cO {x y:Oper} (h:Oy x y=true) {s:IState} {px py:PV} {stx sty:Store} (hx:Bx X all x s=some (px,stx)) (hy:Bx X all y s=some (py,sty)) :
  stx = s.st/\Bx X all x ⟨s.env,sty⟩=some (px,sty):=by
 obtain ⟨xd,xop,xty,xpos,xaf,xg⟩:=x
 obtain ⟨yd,yop,yty,ypos,yaf,yg⟩:=y
 unfold Oy at h
 dsimp only at h
 split at h
 .rename_i t m k u m' k'
  have ht:t=u:=by simpa using h
  subst ht
  -- what y leaves
  have hl:∀q st,iop X (xd.getD 0) (.lookup t m k false) (AA s.env) s.st=some (q,st)->st=s.st/\iop X (xd.getD 0) (.lookup t m k false) (AA s.env) sty=some (q,sty):=by
   intro q st hq
   simp only[iop,az,c9]at hq ⊢
   obtain ⟨v,hv,rfl,rfl⟩:=hq
   refine ⟨rfl,v,?_,rfl,trivial⟩
   have key:∀p,iop X (yd.getD 0) (.mapEntry t m' k') (AA s.env) s.st=some (p,sty)->CW sty (AW X.P t) (AA s.env m) (AA s.env k) false=some v:=λp hp=>Uy hv hp
   unfold Bx at hy
   dsimp only at hy
   split at hy
   .exact key _ hy
   .split at hy
    .split at hy
     .exact key _ hy
     .cases hy;exact hv
    .cases hy;exact hv
    .cases hy
  unfold Bx at hx ⊢
  dsimp only at hx ⊢
  cases xg with
  | none=>exact hl _ _ hx
  | some g =>
   obtain ⟨j,w⟩:=g
   dsimp only at hx ⊢
   split at hx
   .rename_i b hb
    split at hx
    .rename_i hw
     obtain ⟨e1,e2⟩:=hl _ _ hx
     exact ⟨e1,by simp only[hb,hw,if_true];exact e2⟩
    .rename_i hw
     cases hx
     exact ⟨rfl,by simp only[hb,if_neg hw]⟩
   .rename_i hb
    cases hx
    exact ⟨rfl,by simp only[hb]⟩
   .cases hx
 all_goals first
  | exact WT rfl (cN rfl hy) hx
  | cases h
end
def WF (st:Store):Prop:=∀i o,st.obj i=some o->i<st.next
theorem Inv.wf {C:Ctx} {st:Store} {w:World} (hi:Inv C st w):WF st:=λi o h=>by
 rcases bh i st.next with h1 | h1
 .exact h1
 .exact absurd (hi.obj i o h).1 (hi.next i h1)
def Ext (st st':Store):Prop:=∀i o,st.obj i=some o->st'.obj i=some o
section
variable {st st':Store}
theorem Le (h:Ext st st') {id gen:Nat} {q:Nat×List PV} (hq:st.arr? id gen=some q):st'.arr? id gen=some q:=by
 unfold kf at hq ⊢
 cases ho:st.obj id with
 | none=>rw[ho]at hq;cases hq
 | some o=>rw[ho]at hq;rw[h id o ho];exact hq
theorem cP (h:Ext st st') {z:Nat} {ag:Bool} {p q:PV} (hq:Ds st z ag p=some q):Ds st' z ag p=some q:=by
 unfold Ds at hq ⊢
 split at hq
 .exact hq
 .simp only[au]at hq ⊢
  obtain ⟨r,h1,h2⟩:=hq
  exact ⟨r,Le h h1,h2⟩
 .cases hq
theorem WU (h:Ext st st') {o:Nat} {p q:PV} (hq:De st p o=some q):De st' p o=some q:=by
 unfold De at hq ⊢
 split at hq
 .exact hq
 .simp only[az]at hq ⊢
  obtain ⟨r,h1,h2⟩:=hq
  exact ⟨r,Le h h1,h2⟩
 .cases hq
end
theorem WV {P:Program} {st st':Store} (h:Ext st st') {t:TypeId} {n:Int} {p q:PV} (hq:CL P st t p n=some q):CL P st' t p n=some q:=by
 unfold CL at hq ⊢
 split at hq
 .exact hq
 .simp only[au]at hq ⊢
  obtain ⟨r,h1,h2⟩:=hq
  exact ⟨r,Le h h1,h2⟩
 .exact hq
 .simp only[au]at hq ⊢
  obtain ⟨r,h1,h2⟩:=hq
  exact ⟨r,Le h h1,h2⟩
 .cases hq
section
variable {st st':Store}
theorem mQ (h:Ext st st') {z:Nat} {sb:Bool} {p:PV} {n:Int} (hq:K2 st z sb p=some n):K2 st' z sb p=some n:=by
 unfold K2 at hq ⊢
 split at hq
 .exact hq
 .exact hq
 .simp only[au]at hq ⊢
  obtain ⟨r,h1,h2⟩:=hq
  exact ⟨r,Le h h1,h2⟩
 .exact hq
 .cases hq
theorem WW (h:Ext st st') {t:Option (MK×PV)} {p:PV} {n:Int} (hq:IM st t p=some n):IM st' t p=some n:=by
 unfold IM at hq ⊢
 simp only[au]at hq ⊢
 obtain ⟨r,h1,h2⟩:=hq
 refine ⟨r,h1,?_⟩
 split at h2
 .exact h2
 .rename_i id gen
  cases ho:st.obj id with
  | none=>rw[ho]at h2;cases h2
  | some o=>rw[ho]at h2;rw[h id o ho];exact h2
 .cases h2
theorem NN (h:Ext st st') (d:Nat):Ext (X.see d st) (X.see d st'):=by
 unfold kc
 split
 .exact λ_ _ h=>h
 .split
  .intro i o hq
   unfold ki at hq ⊢
   dsimp only at hq ⊢
   split at hq
   .cases hq
   .rename_i c
    rw [if_neg c];exact h _ _ hq
  .split
   .intro i o hq
    unfold km at hq ⊢
    dsimp only at hq ⊢
    simp only[au]at hq ⊢
    obtain ⟨r,h1,h2⟩:=hq
    exact ⟨r,h _ _ h1,h2⟩
   .exact h
theorem WX (h:Ext st st') {t:Option (MK×PV)} {m k:PV} {ok:Bool} {q:PV} (hq:CW st t m k ok=some q):CW st' t m k ok=some q:=by
 unfold CW at hq ⊢
 simp only[au]at hq ⊢
 obtain ⟨r,h1,h2⟩:=hq
 refine ⟨r,h1,?_⟩
 split at h2
 .rename_i hk
  rw [if_pos hk]
  split at h2
  .exact h2
  .rename_i id gen
   cases ho:st.obj id with
   | none=>rw[ho]at h2;cases h2
   | some o=>rw[ho]at h2;rw[h id o ho];exact h2
  .cases h2
 .cases h2
end
theorem mR {d : Nat} {op : Op} (ho : Nx ⟨none, op, 0, "", #[], none⟩ = true) {ρ : Operand → PV} {st st' st1 : Store} (h : Ext st st') {p : PV} (hq : iop X d op ρ st = some (p, st1)) : st1 = st ∧ iop X d op ρ st' = some (p, st') := by
 unfold Nx at ho
 dsimp only at ho
 split at ho
 .simp only[iop,az,c9]at hq ⊢
  obtain ⟨q,h2,rfl,rfl⟩:=hq
  exact ⟨rfl,_,WX h h2,rfl,trivial⟩
 .simp only[iop,au,az,c9]at hq ⊢
  obtain ⟨r,h1,q,h2,rfl,rfl⟩:=hq
  exact ⟨rfl,r,h1,_,cP (NN h d) h2,rfl,trivial⟩
 .simp only[iop,au]at hq ⊢
  obtain ⟨r,h1,h2⟩:=hq
  split at h2
  .rename_i hz
   simp only[az,c9]at h2
   obtain ⟨q,h2,rfl,rfl⟩:=h2
   refine ⟨rfl,r,h1,?_⟩
   rw [if_pos hz,WU (NN h d) h2];rfl
  .cases h2
 .simp only[iop]at hq ⊢
  split at hq
  .rename_i n hn
   simp only[az,c9]at hq
   obtain ⟨q,h2,rfl,rfl⟩:=hq
   refine ⟨rfl,?_⟩
   rw [WV (NN h d) h2];rfl
  .cases hq
 .rename_i c0 as ts
  simp only[iop]at hq ⊢
  generalize ts.toList=tl at *
  generalize as.toList.map ρ=al at *
  unfold Bj at hq ⊢
  split at hq <;> simp_all
  obtain ⟨n,h1,rfl,rfl⟩:=hq
  refine ⟨rfl,n,?_,rfl⟩
  split at h1
  .exact WW h h1
  .exact mQ (NN h _) h1
 .cases ho
theorem Q5 (hq:By X) {all:Array Oper} {y:Oper} (hy:EY X y=true) {s:IState} (wf:WF s.st) {py:PV} {sty:Store} (ay:Bx X all y s=some (py,sty)):Ext s.st sty:=by
 have key:∀p,iop X (y.dst.getD 0) y.op (AA s.env) s.st=some (p,sty)->Ext s.st sty:=λp hp=>by
  obtain ⟨yd,yop,yty,ypos,yaf,yg⟩:=y
  unfold EY at hy
  dsimp only at hy hp
  simp only[fy,beq_iff_eq]at hy
  obtain ⟨h1,h2⟩:=hy
  split at h2
  .simp only[iop,h1,if_true]at hp
   split at hp
   .simp only[bp,c9]at hp
    obtain ⟨_,rfl⟩:=hp
    intro i o ho
    have := wf i o ho
    simp [kp,Ab,show i≠s.st.next by omega,ho]
   .cases hp
  .rename_i t l c
   simp only[j9]at h2
   simp only[iop]at hp
   split at hp
   .split at hp
    .simp only[h1,if_true,h2,gu,if_false,bp,c9]at hp
     obtain ⟨_,rfl⟩:=hp
     intro i o ho
     have := wf i o ho
     simp [kp,Ab,show i≠s.st.next by omega,ho]
    .cases hp
   .cases hp
  .rename_i f args ats
   simp only[fy,j9]at h2
   obtain ⟨⟨h3,h4⟩,h5⟩:=h2
   simp only[iop,AA,DP,h4,h5,gu,if_false,false_and]at hp
   exact hq.2.1 _ _ _ _ _ h3 hp wf
  .cases h2
 unfold Bx at ay
 dsimp only at ay
 split at ay
 .exact key _ ay
 .split at ay
  .split at ay
   .exact key _ ay
   .cases ay;exact λ_ _ h=>h
  .cases ay;exact λ_ _ h=>h
  .cases ay
theorem Lf (hq:By X) {o:Oper} (h:OB X o=true) {ρ:Nat->PV} {st st1:Store} {p:PV} (hop:iop X (o.dst.getD 0) o.op (AA ρ) st=some (p,st1)):st1=st/\∀st2,Ext st st2->iop X (o.dst.getD 0) o.op (AA ρ) st2=some (p,st2):=by
 obtain ⟨xd,xop,xty,xpos,xaf,xg⟩:=o
 unfold OB at h
 dsimp only at h hop ⊢
 split at h
 .rename_i f args ats
  simp only[fy,j9,decide_eq_true_eq]at h
  obtain ⟨⟨⟨h0,h1⟩,h2⟩,h3⟩:=h
  simp only[iop]at hop ⊢
  simp only[AA,DP,h2,h3,gu,if_false,false_and]at hop ⊢
  exact hq.2.2 _ _ _ _ _ h0 h1 hop
 .cases h
theorem Hx (hq:By X) {all:Array Oper} {o:Oper} (h:OB X o=true) {s:IState} {p:PV} {st1:Store} (ha:Bx X all o s=some (p,st1)):st1=s.st:=by
 unfold Bx at ha
 dsimp only at ha
 split at ha
 .exact (Lf hq h ha).1
 .split at ha
  .split at ha
   .exact (Lf hq h ha).1
   .cases ha;rfl
  .cases ha;rfl
  .cases ha
theorem WY (hq:By X) {all:Array Oper} {o:Oper} (h:OB X o=true) {s:IState} {p:PV} {st1 st2:Store} (ha:Bx X all o s=some (p,st1)) (he:Ext s.st st2):Bx X all o ⟨s.env,st2⟩=some (p,st2):=by
 unfold Bx at ha ⊢
 dsimp only at ha ⊢
 split at ha
 .exact (Lf hq h ha).2 st2 he
 .rename_i j w hg
  split at ha
  .rename_i b hb
   split at ha
   .rename_i hw
    simp only[hb,hw,if_true]
    exact (Lf hq h ha).2 st2 he
   .rename_i hw
    cases ha
    simp only[hb,if_neg hw]
  .rename_i hb
   cases ha
   simp only[hb]
  .cases ha
theorem WZ (hq:By X) {all:Array Oper} {x y:Oper} (hx:Nx x=true) (hy:EY X y=true) {s:IState} (wf:WF s.st) {px py:PV} {stx sty:Store} (ax:Bx X all x s=some (px,stx)) (ay:Bx X all y s=some (py,sty)) :
  stx = s.st/\Bx X all x ⟨s.env,sty⟩=some (px,sty):=by
 have hext:Ext s.st sty:=Q5 hq hy wf ay
 obtain ⟨xd,xop,xty,xpos,xaf,xg⟩:=x
 have hl:∀q st,iop X (xd.getD 0) xop (AA s.env) s.st=some (q,st)->st=s.st/\iop X (xd.getD 0) xop (AA s.env) sty=some (q,sty):=λq st hq=>mR (by exact hx) hext hq
 unfold Bx at ax ⊢
 dsimp only at ax ⊢
 cases xg with
 | none=>exact hl _ _ ax
 | some g =>
  obtain ⟨j,w⟩:=g
  dsimp only at ax ⊢
  split at ax
  .rename_i b hb
   split at ax
   .rename_i hw
    obtain ⟨e1,e2⟩:=hl _ _ ax
    exact ⟨e1,by simp only[hb,hw,if_true];exact e2⟩
   .rename_i hw
    cases ax
    exact ⟨rfl,by simp only[hb,if_neg hw]⟩
  .rename_i hb
   cases ax
   exact ⟨rfl,by simp only[hb]⟩
  .cases ax
theorem Mu {st st':Store} {k:Nat} (hn:st'.next=st.next) (ho:∀i,¬i<k->st'.obj i=st.obj i):st'.past k=st.past k:=by
 unfold ki
 congr 1
 funext i
 by_cases c:i<k
 .rw [if_pos c,if_pos c]
 .rw [if_neg c,if_neg c,ho i c]
theorem mS {d:Nat} {op:Op} (hf:X.frz (600000+d)=true) (ho:(match op with | .load .. | .fieldAddr .. | .indexAddr ..=>true | _=>false)=true) {ρ:Operand->PV} {st st' st1:Store} (h:st'.past (X.num d)=st.past (X.num d)) {p:PV} (hq:iop X d op ρ st=some (p,st1)):st1=st/\iop X d op ρ st'=some (p,st'):=by
 have hs:X.see d st'=X.see d st:=by
  unfold kc
  rw [if_pos hf,if_pos hf,h]
 split at ho
 .simp only[iop,au,az,c9]at hq ⊢
  obtain ⟨r,h1,q,h2,rfl,rfl⟩:=hq
  exact ⟨rfl,r,h1,_,by rw[hs];exact h2,rfl,trivial⟩
 .simp only[iop,au]at hq ⊢
  obtain ⟨r,h1,h2⟩:=hq
  split at h2
  .rename_i hz
   simp only[az,c9]at h2
   obtain ⟨q,h2,rfl,rfl⟩:=h2
   refine ⟨rfl,r,h1,?_⟩
   rw [if_pos hz,hs,h2];rfl
  .cases h2
 .simp only[iop]at hq ⊢
  split at hq
  .rename_i n hn
   simp only[az,c9]at hq
   obtain ⟨q,h2,rfl,rfl⟩:=hq
   refine ⟨rfl,?_⟩
   rw [hs,h2];rfl
  .cases hq
 .cases ho
theorem Fw {all:Array Oper} {x:Oper} (hx:Fc X x=true) {s:IState} {sty:Store} (hp:sty.past (X.num (x.dst.getD 0))=s.st.past (X.num (x.dst.getD 0))) {px:PV} {stx:Store} (ax:Bx X all x s=some (px,stx)) :
  stx = s.st/\Bx X all x ⟨s.env,sty⟩=some (px,sty):=by
 obtain ⟨xd,xop,xty,xpos,xaf,xg⟩:=x
 unfold Fc at hx
 simp only[fy]at hx
 have hl:∀q st,iop X (xd.getD 0) xop (AA s.env) s.st=some (q,st)->st=s.st/\iop X (xd.getD 0) xop (AA s.env) sty=some (q,sty):=λq st hq=>mS hx.1 hx.2 hp hq
 unfold Bx at ax ⊢
 dsimp only at ax ⊢
 cases xg with
 | none=>exact hl _ _ ax
 | some g =>
  obtain ⟨j,w⟩:=g
  dsimp only at ax ⊢
  split at ax
  .rename_i b hb
   split at ax
   .rename_i hw
    obtain ⟨e1,e2⟩:=hl _ _ ax
    exact ⟨e1,by simp only[hb,hw,if_true];exact e2⟩
   .rename_i hw
    cases ax
    exact ⟨rfl,by simp only[hb,if_neg hw]⟩
  .rename_i hb
   cases ax
   exact ⟨rfl,by simp only[hb]⟩
  .cases ax
theorem Mv {o:Oper} (h:Oz X o=true):Ht X o=true:=by
 obtain ⟨d,op,ty,pos,af,g⟩:=o
 cases op <;> simp[Oz,Ht]at h ⊢
 rename_i c
 obtain ⟨_,h⟩:=h
 obtain ⟨callee,args,ats⟩:=c
 cases callee <;> simp at h ⊢
 rename_i b
 cases b <;> simp[yK]at h ⊢
theorem yQ {d:Nat} {op:Op} (hf:X.frz (700000+d)=true) (hf2:X.frz (600000+d)=false) (ho:(match op with | .load .. | .fieldAddr .. | .indexAddr .. | .nilCheck _=>true | .call { callee:=.builtin b,argTypes:=ats,.. }=>yK b&&(match ats.toList with | [t]=>(AW X.P t).isNone | _=>false) | _=>false)=true) {ρ:Operand->PV} {st st' st1:Store} (h:Ei st.hard st'.hard) {p:PV} (hq:iop X d op ρ st=some (p,st1)):st1=st/\iop X d op ρ st'=some (p,st'):=by
 have hs:Ei (X.see d st) (X.see d st'):=by
  unfold kc
  split
  .exact λ_ _ _ h=>h
  .have e6:¬X.frz (600000+d)=true:=by rw[hf2];exact Bool.false_ne_true
   simp only[if_neg e6,if_pos hf];exact h
 split at ho
 .simp only[iop,au,az,c9]at hq ⊢
  obtain ⟨r,h1,q,h2,rfl,rfl⟩:=hq
  exact ⟨rfl,r,h1,_,Kl hs h2,rfl,trivial⟩
 .simp only[iop,au]at hq ⊢
  obtain ⟨r,h1,h2⟩:=hq
  split at h2
  .rename_i hz
   simp only[az,c9]at h2
   obtain ⟨q,h2,rfl,rfl⟩:=h2
   refine ⟨rfl,r,h1,?_⟩
   rw [if_pos hz,IN hs h2];rfl
  .cases h2
 .simp only[iop]at hq ⊢
  split at hq
  .rename_i n hn
   simp only[az,c9]at hq
   obtain ⟨q,h2,rfl,rfl⟩:=hq
   refine ⟨rfl,?_⟩
   rw [IP hs h2];rfl
  .cases hq
 .simp only[iop]at hq ⊢
  split at hq
  .simp only[bp,c9]at hq
   exact ⟨hq.2.symm,by simp only[hq.1]⟩
  .simp only[az,c9]at hq
   obtain ⟨q,h2,h3,h4⟩:=hq
   refine ⟨h4.symm,?_⟩
   rw [hs _ _ _ h2,<-h3];rfl
  .cases hq
 .rename_i b as ts
  simp only[fy]at ho
  obtain ⟨hb,ho⟩:=ho
  cases b <;> simp only[yK,gu]at hb
  simp only[iop]at hq ⊢
  generalize ts.toList=tl at *
  generalize as.toList.map ρ=al at *
  unfold Bj at hq ⊢
  split at hq <;> simp_all
  obtain ⟨n,h1,rfl,rfl⟩:=hq
  exact ⟨rfl,n,QR hs h1,rfl⟩
 .cases ho
theorem Lg {all:Array Oper} {x:Oper} (hx:Oz X x=true) {s:IState} {sty:Store} (hp:Ei s.st.hard sty.hard) {px:PV} {stx:Store} (ax:Bx X all x s=some (px,stx)) :
  stx = s.st/\Bx X all x ⟨s.env,sty⟩=some (px,sty):=by
 obtain ⟨xd,xop,xty,xpos,xaf,xg⟩:=x
 unfold Oz at hx
 simp only[fy,j9]at hx
 have hl:∀q st,iop X (xd.getD 0) xop (AA s.env) s.st=some (q,st)->st=s.st/\iop X (xd.getD 0) xop (AA s.env) sty=some (q,sty):=λq st hq=>yQ hx.1.1 hx.1.2 hx.2 hp hq
 unfold Bx at ax ⊢
 dsimp only at ax ⊢
 cases xg with
 | none=>exact hl _ _ ax
 | some g =>
  obtain ⟨j,w⟩:=g
  dsimp only at ax ⊢
  split at ax
  .rename_i b hb
   split at ax
   .rename_i hw
    obtain ⟨e1,e2⟩:=hl _ _ ax
    exact ⟨e1,by simp only[hb,hw,if_true];exact e2⟩
   .rename_i hw
    cases ax
    exact ⟨rfl,by simp only[hb,if_neg hw]⟩
  .rename_i hb
   cases ax
   exact ⟨rfl,by simp only[hb]⟩
  .cases ax
theorem Uz {l:List PV} {n:Nat} (h:l.all kj=true):(l.take n).all kj=true:=by
 rw [ga]at h ⊢
 exact λx hx=>h x (dh hx)
theorem UA {l:List PV} {n:Nat} (h:l.all kj=true):(l.drop n).all kj=true:=by
 rw [ga]at h ⊢
 exact λx hx=>h x (dg hx)
theorem OI {st:Store} {id:Nat} {o:IObj} {nx:Nat} (ho:Ir o=true) (h:∀o',st.obj id=some o'->Ir o'=true):Ei st.hard (km ⟨Ab st.obj id (some o),nx⟩)/\Ei (km ⟨Ab st.obj id (some o),nx⟩) st.hard:=by
 have e:(km ⟨Ab st.obj id (some o),nx⟩).obj=st.hard.obj:=by
  funext i
  unfold km
  dsimp only
  by_cases c:i=id
  .subst c
   simp only[Ab,if_true,aw,ho]
   cases hs:st.obj i with
   | none=>rfl
   | some o'=>simp[h o' hs]
  .simp [Ab,c]
 have e2:∀i g,(km ⟨Ab st.obj id (some o),nx⟩).arr? i g=st.hard.arr? i g:=λi g=>by unfold kf;rw[e]
 exact ⟨λi g q hq=>by rw[e2];exact hq,λi g q hq=>by rw[e2]at hq;exact hq⟩
theorem UB {st:Store} {id gen:Nat} {q:Nat×List PV} (hq:st.arr? id gen=some q) (hx:(decide (q.1<=2)&&q.2.all kj)=true):∀o',st.obj id=some o'->Ir o'=true:=λo' ho=>by
 unfold kf at hq
 rw [ho]at hq
 cases o' with
 | arr g z es =>
  dsimp only at hq
  split at hq
  .cases hq;exact hx
  .cases hq
 | _=>cases hq
theorem Lh {v:PV} (h:v.isInt1=true):v.isInt=true/\v.cells = [v]:=by
 cases v <;> first | exact⟨rfl,rfl⟩ | (simp[PV.isInt1]at h)
theorem mT {e v:PV} {off:Nat} (he:e.isInt=true) (hv:v.isInt1=true):(Bi e off [v]).isInt=true:=by
 cases e with
 | int k n=>exact (Lh hv).1
 | agg cs =>
  simp only[kj]at he
  simp only[Bi,kj,DJ]
  rw [ga]at he ⊢
  intro x hx
  simp only[kq,ku]at hx
  rcases hx with (hx | hx) | hx
  .exact he x (dh hx)
  .rw [hx];exact hv
  .exact he x (dg hx)
 | _=>simp[kj]at he
theorem W0 {z:Nat} {a v:PV} {st st':Store} (hs:QP st a v=true) (h:Fz st z a v=some st'):Ei st.hard st'.hard/\Ei st'.hard st.hard:=by
 unfold QP at hs
 simp only[fy]at hs
 obtain ⟨hv,hx⟩:=hs
 split at hx
 .rename_i id gen i o
  split at hx
  .rename_i q hq
   simp only[Fz,hq,aw]at h
   split at h
   .rename_i hc
    cases h
    refine OI ?_ (UB hq hx)
    simp only[fy,decide_eq_true_eq]at hx
    simp only[Ir,fy,decide_eq_true_eq]
    refine ⟨hx.1,?_⟩
    have hall:=hx.2
    rw [ga]at hall ⊢
    intro e he
    rcases List.mem_or_eq_of_mem_set he with he | he
    .exact hall e he
    .rw [he,(Lh hv).2]
     exact mT (hall _ (ac (Dg hc.2.2.1))) hv
   .cases h
  .cases hx
 .cases hx
theorem UC {z:Nat} {x y p:PV} {st st':Store} {ys:List PV} (hs:Ol st x y=true) (hys:CD st z y=some ys) (h:CJ st z x ys=some (p,st')):Ei st.hard st'.hard/\Ei st'.hard st.hard:=by
 unfold Ol at hs
 simp only[fy]at hs
 obtain ⟨hy,hx⟩:=hs
 split at hy
 .rename_i z' l
  simp only[CD]at hys
  split at hys
  .cases hys
   split at hx
   .rename_i id gen s n
    split at hx
    .rename_i q hq
     simp only[CJ,hq,aw]at h
     have hold:=UB hq hx
     simp only[fy,decide_eq_true_eq]at hx
     split at h
     .rename_i hz
      have hz2:z<=2:=by rw[<-hz.2.1];exact hx.1
      split at h
      .cases h
       exact OI (by simp[Ir,kw,Uz hx.2,UA hx.2,hy,hz2]) hold
      .cases h
       exact OI (by simp[Ir,kw,Uz (UA hx.2),hy,hz2]) hold
     .cases h
    .cases hx
   .cases hx
  .cases hys
 .cases hy
theorem mU {d:Nat} {o:Oper} (hy:OA X o=true) {ρ:Operand->PV} {st:Store}:∀q,iop X (o.dst.getD 0) o.op ρ st=some q->Ei st.hard q.2.hard/\Ei q.2.hard st.hard:=by
 obtain ⟨yd,yop,yty,ypos,yaf,yg⟩:=o
 unfold OA at hy
 dsimp only at hy ⊢
 intro q hq
 split at hy
 .rename_i b args ats
  simp only[fy]at hy
  obtain ⟨hf,ho⟩:=hy
  split at ho
  .simp only[iop]at hq
   unfold Bj at hq
   split at hq
   .rename_i hb _ _;cases hb
   .rename_i t u x y _ hts has
    split at hq
    .rename_i hc
     simp only[au]at hq
     obtain ⟨ys,hys,hq⟩:=hq
     exact UC (hc.2.2 hf).2 hys hq
    .cases hq
   all_goals first | (cases hq;done) | (rename_i hb _;cases hb;done) | (rename_i hb _ _;cases hb;done)
  .cases ho
 .rename_i t a x
  simp only[iop]at hq
  split at hq
  .cases hq
  .rename_i hc
   simp only[az]at hq
   obtain ⟨st',h1,rfl⟩:=hq
   refine W0 (a:=ρ a) (v:=ρ x) ?_ h1
   cases hss:QP st (ρ a) (ρ x)with
   | true=>rfl
   | false=>exact absurd (Or.inl ⟨hy,hss⟩) hc
 .cases hy
theorem Q6 {all:Array Oper} {y:Oper} (hy:OA X y=true) {s:IState} {py:PV} {sty:Store} (ay:Bx X all y s=some (py,sty)):Ei s.st.hard sty.hard/\Ei sty.hard s.st.hard:=by
 have key:=mU (d:=0) hy (ρ:=AA s.env) (st:=s.st)
 unfold Bx at ay
 dsimp only at ay
 split at ay
 .exact key _ ay
 .split at ay
  .split at ay
   .exact key _ ay
   .cases ay;exact⟨λ_ _ _ h=>h,λ_ _ _ h=>h⟩
  .cases ay;exact⟨λ_ _ _ h=>h,λ_ _ _ h=>h⟩
  .cases ay
theorem W1 {z k j:Nat} {a v:PV} {st st':Store} (hs:QQ k a=true) (hk:k≠0) (hj:k-1<j) (h:Fz st z a v=some st'):st'.next=st.next/\∀i,j<=i->st'.obj i=st.obj i:=by
 unfold QQ at hs
 split at hs
 .rename_i id gen i o
  have e:id=k-1:=by simpa using hs
  simp only[Fz,au]at h
  obtain ⟨q,h1,h2⟩:=h
  split at h2
  .cases h2
   refine ⟨rfl,λi hi=>?_⟩
   simp only[kd,Ab]
   rw [if_neg (by omega)]
  .cases h2
 .cases hs
theorem cQ {all:Array Oper} {x y:Oper} (hy:(match y.op with | .store _ a _=>X.frz (900000+Dt a)&&(X.num (Dt a) != 0)&&decide (X.num (Dt a)-1<X.num (x.dst.getD 0)) | _=>false)=true) {s:IState} {py:PV} {sty:Store} (ay:Bx X all y s=some (py,sty)) :
  sty.next = s.st.next/\∀i,X.num (x.dst.getD 0)<=i->sty.obj i=s.st.obj i:=by
 obtain ⟨yd,yop,yty,ypos,yaf,yg⟩:=y
 dsimp only at hy
 split at hy
 .rename_i t a v
  simp only[fy,bne_iff_ne,decide_eq_true_eq]at hy
  obtain ⟨⟨hf,hn⟩,hlt⟩:=hy
  have key:∀q,iop X (yd.getD 0) (.store t a v) (AA s.env) s.st=some q->q.2.next=s.st.next/\∀i,X.num (x.dst.getD 0)<=i->q.2.obj i=s.st.obj i:=λq hq=>by
   simp only[iop]at hq
   split at hq
   .cases hq
   .rename_i hc
    simp only[az]at hq
    obtain ⟨st',h1,rfl⟩:=hq
    refine W1 (k:=X.num (Dt a)) ?_ hn hlt h1
    cases hh:QQ (X.num (Dt a)) (AA s.env a)with
    | true=>rfl
    | false=>exact absurd (Or.inr ⟨hf,hh⟩) hc
  unfold Bx at ay
  dsimp only at ay
  split at ay
  .exact key _ ay
  .split at ay
   .split at ay
    .exact key _ ay
    .cases ay;exact⟨rfl,λ_ _=>rfl⟩
   .cases ay;exact⟨rfl,λ_ _=>rfl⟩
   .cases ay
 .cases hy
def I0 (st st':Store):Prop:=∀id gen q,st.arr? id gen=some q->∃es,st'.arr? id gen=some (q.1,es)/\es.length=q.2.length
theorem Si {st st':Store} (h:I0 st st') {p q:PV} {o:Nat} (hq:De st p o=some q):De st' p o=some q:=by
 unfold De at hq ⊢
 split at hq
 .exact hq
 .simp only[az]at hq ⊢
  obtain ⟨r,h1,h2⟩:=hq
  obtain ⟨es,h3,_⟩:=h _ _ _ h1
  exact ⟨_,h3,h2⟩
 .cases hq
theorem Sj {P:Program} {st st':Store} (h:I0 st st') {t:TypeId} {n:Int} {p q:PV} (hq:CL P st t p n=some q):CL P st' t p n=some q:=by
 unfold CL at hq ⊢
 split at hq
 .exact hq
 .simp only[au]at hq ⊢
  obtain ⟨r,h1,h2⟩:=hq
  obtain ⟨es,h3,h4⟩:=h _ _ _ h1
  exact ⟨_,h3,by rw[h4];exact h2⟩
 .exact hq
 .simp only[au]at hq ⊢
  obtain ⟨r,h1,h2⟩:=hq
  obtain ⟨es,h3,h4⟩:=h _ _ _ h1
  exact ⟨_,h3,h2⟩
 .cases hq
theorem Jq {all:Array Oper} {x:Oper} (hx:Ld X x=true) {s:IState} {sty:Store} (hp:I0 s.st sty) {px:PV} {stx:Store} (ax:Bx X all x s=some (px,stx)) :
  stx = s.st/\Bx X all x ⟨s.env,sty⟩=some (px,sty):=by
 obtain ⟨xd,xop,xty,xpos,xaf,xg⟩:=x
 unfold Ld at hx
 simp only[fy,j9]at hx
 obtain ⟨⟨⟨f1,f2⟩,f3⟩,ho⟩:=hx
 have hsee:∀st:Store,X.see (xd.getD 0) st=st:=λst=>by
  unfold kc
  simp only[f1,f2,f3,gu,if_false]
 have hl:∀q st,iop X (xd.getD 0) xop (AA s.env) s.st=some (q,st)->st=s.st/\iop X (xd.getD 0) xop (AA s.env) sty=some (q,sty):=λq st hq=>by
  split at ho
  .simp only[iop,hsee,au]at hq ⊢
   obtain ⟨r,h1,h2⟩:=hq
   split at h2
   .rename_i hz
    simp only[az,c9]at h2
    obtain ⟨q,h2,rfl,rfl⟩:=h2
    refine ⟨rfl,r,h1,?_⟩
    rw [if_pos hz,Si hp h2];rfl
   .cases h2
  .simp only[iop,hsee]at hq ⊢
   split at hq
   .rename_i n hn
    simp only[az,c9]at hq
    obtain ⟨q,h2,rfl,rfl⟩:=hq
    refine ⟨rfl,?_⟩
    rw [Sj hp h2];rfl
   .cases hq
  .cases ho
 unfold Bx at ax ⊢
 dsimp only at ax ⊢
 cases xg with
 | none=>exact hl _ _ ax
 | some g =>
  obtain ⟨j,w⟩:=g
  dsimp only at ax ⊢
  split at ax
  .rename_i b hb
   split at ax
   .rename_i hw
    obtain ⟨e1,e2⟩:=hl _ _ ax
    exact ⟨e1,by simp only[hb,hw,if_true];exact e2⟩
   .rename_i hw
    cases ax
    exact ⟨rfl,by simp only[hb,if_neg hw]⟩
  .rename_i hb
   cases ax
   exact ⟨rfl,by simp only[hb]⟩
  .cases ax
theorem Sk {z:Nat} {a v:PV} {st st':Store} (h:Fz st z a v=some st'):I0 st st'/\I0 st' st:=by
 unfold Fz at h
 split at h
 .rename_i id gen i o
  simp only[au]at h
  obtain ⟨q,h1,h2⟩:=h
  split at h2
  .cases h2
   have h0:=h1
   unfold kf at h1
   split at h1
   .rename_i g z0 es he
    split at h1
    .rename_i hg
     cases h1
     refine ⟨λid' gen' q' hq=>?_,λid' gen' q' hq=>?_⟩
     .by_cases e:id'=id
      .subst e
       unfold kf at hq ⊢
       rw [he]at hq
       simp only[kd,Ab,if_true]
       dsimp only at hq
       split at hq
       .rename_i hg2
        cases hq
        exact ⟨_,by rw[if_pos (by omega)],by simp⟩
       .cases hq
      .unfold kf at hq ⊢
       simp only[kd,Ab,if_neg e]
       exact ⟨q'.2,hq,rfl⟩
     .by_cases e:id'=id
      .subst e
       unfold kf at hq ⊢
       simp only[kd,Ab,if_true]at hq
       rw [he]
       dsimp only
       split at hq
       .rename_i hg2
        cases hq
        exact ⟨es,by rw[if_pos (by omega)],by simp⟩
       .cases hq
      .unfold kf at hq ⊢
       simp only[kd,Ab,if_neg e]at hq
       exact ⟨q'.2,hq,rfl⟩
    .cases h1
   .cases h1
  .cases h2
 .cases h
theorem UD {all:Array Oper} {y:Oper} (hy:WO y=true) {s:IState} {py:PV} {sty:Store} (ay:Bx X all y s=some (py,sty)):I0 s.st sty/\I0 sty s.st:=by
 obtain ⟨yd,yop,yty,ypos,yaf,yg⟩:=y
 unfold WO at hy
 dsimp only at hy
 have rf:I0 s.st s.st/\I0 s.st s.st:=⟨λ_ _ q h=>⟨q.2,h,rfl⟩,λ_ _ q h=>⟨q.2,h,rfl⟩⟩
 split at hy
 .rename_i t a v
  have key:∀q,iop X (yd.getD 0) (.store t a v) (AA s.env) s.st=some q->I0 s.st q.2/\I0 q.2 s.st:=λq hq=>by
   simp only[iop]at hq
   split at hq
   .cases hq
   .simp only[az]at hq
    obtain ⟨st',h1,rfl⟩:=hq
    exact Sk h1
  unfold Bx at ay
  dsimp only at ay
  split at ay
  .exact key _ ay
  .split at ay
   .split at ay
    .exact key _ ay
    .cases ay;exact rf
   .cases ay;exact rf
   .cases ay
 .cases hy
theorem cR (hq:By X) {all:Array Oper} {x y:Oper} (hc:FH X all x y=true) {s s1 s2:IState} (hwf:EY X y=true->WF s.st) (hx:stepG X N all x s=some s1) (hy:stepG X N all y s1=some s2) :
  ∃ s1',stepG X N all y s=some s1'/\stepG X N all x s1'=some s2:=by
 unfold FH at hc
 simp only[fy,kx]at hc
 obtain ⟨⟨⟨hap,_⟩,_⟩,hk⟩:=hc
 obtain ⟨a1,a2,a3⟩:=Oper.apart_spec hap
 unfold stepG at hx hy ⊢
 simp only[au]at hx hy ⊢
 obtain ⟨⟨px,stx⟩,hax,hpx⟩:=hx
 obtain ⟨⟨py,sty⟩,hay,hpy⟩:=hy
 -- what x leaves
 have hs1:s1.st=stx/\(∀t,t ∉ x.dst.toList->s1.env t=s.env t):=by
  unfold Hs at hpx
  split at hpx
  .simp only[bp]at hpx;subst hpx;exact⟨rfl,λ_ _=>rfl⟩
  .rename_i d hd
   split at hpx
   .simp only[bp]at hpx;subst hpx
    exact ⟨rfl,λt ht=>by simp[hd]at ht;simp[upd,ht]⟩
   .cases hpx
 have hylook:∀t∈y.looksAt all,t ∉ x.dst.toList:=λt ht hm=>by
  have : x.dst=some t:=by simpa using hm
  exact a1 t this ht
 have hxlook:∀t∈x.looksAt all,t ∉ y.dst.toList:=λt ht hm=>by
  have : y.dst=some t:=by simpa using hm
  exact a3 t this ht
 -- y first
 have hay':∃st1,Bx X all y s=some (py,st1)/\(∀e:Nat->PV,(∀t∈x.looksAt all,e t=s.env t)->Bx X all x ⟨e,st1⟩=some (px,sty)):=by
  have cong:Bx X all y ⟨s.env,stx⟩=some (py,sty):=by
   rw [<-hay]
   exact OG (λt ht=>(hs1.2 t (hylook t ht)).symm) hs1.1.symm
  have xe:∀(e:Nat->PV) (st:Store),(∀t∈x.looksAt all,e t=s.env t)->Bx X all x ⟨e,st⟩=Bx X all x ⟨s.env,st⟩:=λe st he=>OG he rfl
  rcases hk with ((((((((((((⟨hqx,hqy⟩ | hax') | hay') | ⟨⟨hlx,hly⟩,hne⟩) | hsl) | ⟨hlk,hfr⟩) | ⟨⟨hpx',hly⟩,hlt⟩) | ⟨⟨hlx,hpy'⟩,hlt⟩) | ⟨hlo,hhi⟩) | ⟨hhi,hlo⟩) | hhe) | ⟨hca,hfr⟩) | ⟨had,hst⟩) | ⟨hst,had⟩
  .have e1:=B1 hq hqx hax
   have e1:stx=s.st:=e1
   subst e1
   have e2:=B1 hq hqy cong
   have e2:sty=s.st:=e2
   subst e2
   exact ⟨s.st,cong,λe he=>by rw[xe e _ he];exact hax⟩
  .obtain ⟨e1,e2⟩:=FI hq hax' hax
   have e1:stx=s.st:=e1
   subst e1
   exact ⟨sty,cong,λe he=>by rw[xe e _ he];exact e2 sty⟩
  .obtain ⟨e1,e2⟩:=FI hq hay' cong
   have e1:sty=stx:=e1
   subst e1
   exact ⟨s.st,e2 s.st,λe he=>by rw[xe e _ he];exact hax⟩
  .simp only[bne_iff_ne]at hne
   have l1:=Hw hq hlx hax
   have l2:=Hw hq hly cong
   dsimp only at l1 l2
   obtain ⟨n1,o1,f1⟩:=l1
   obtain ⟨n2,o2,f2⟩:=l2
   dsimp only at f1 f2
   refine ⟨_,f2 s.st (o1 _ (λe=>hne e.symm)).symm,λe he=>?_⟩
   rw [xe e _ he,f1 _ (by simp[Ab,hne])]
   congr 2
   cases sty with
   | mk ob nx =>
    dsimp only at n2 o2 ⊢
    congr 1
    .funext i
     by_cases hi:i=X.num (x.dst.getD 0)-1
     .subst hi
      simp only[Ab,if_true]
      exact (o2 _ hne).symm
     .by_cases hj:i=X.num (y.dst.getD 0)-1
      .subst hj
       simp [Ab,hi]
      .simp only[Ab,hi,hj,if_false]
       rw [o2 i hj,o1 i hi]
    .rw [n2,n1]
  .have e0:stx=s.st:=by
    obtain ⟨xd,xop,xty,xpos,xaf,xg⟩:=x
    exact B1 hq (by
     unfold Oy at hsl
     dsimp only at hsl
     split at hsl <;> first | rfl | (cases hsl;done)) hax
   subst e0
   obtain ⟨e1,e2⟩:=cO hsl hax cong
   exact ⟨sty,cong,λe he=>by rw[xe e _ he];exact e2⟩
  .have e0:stx=s.st:=by
    obtain ⟨xd,xop,xty,xpos,xaf,xg⟩:=x
    exact B1 hq (by
     unfold Nx at hlk
     dsimp only at hlk
     split at hlk <;> first | rfl | (cases hlk;done)) hax
   subst e0
   obtain ⟨e1,e2⟩:=WZ hq hlk hfr (hwf hfr) hax cong
   exact ⟨sty,cong,λe he=>by rw[xe e _ he];exact e2⟩
  .simp only[decide_eq_true_eq]at hlt
   have e1:=(Fw hpx' (sty:=s.st) rfl hax).1
   subst e1
   obtain ⟨n2,o2,_⟩:=Hw hq hly cong
   dsimp only at n2 o2
   have e2:=(Fw hpx' (sty:=sty) (Mu n2 λi hi=>o2 i (by omega)) hax).2
   exact ⟨sty,cong,λe he=>by rw[xe e _ he];exact e2⟩
  .simp only[decide_eq_true_eq]at hlt
   obtain ⟨n1,o1,_⟩:=Hw hq hlx hax
   dsimp only at n1 o1
   have e1:=(Fw hpy' (sty:=stx) rfl cong).1
   have e1:sty=stx:=e1
   subst e1
   have e2:=(Fw hpy' (s:=⟨s.env,sty⟩) (sty:=s.st) (Mu n1.symm λi hi=>(o1 i (by omega)).symm) cong).2
   exact ⟨s.st,e2,λe he=>by rw[xe e _ he];exact hax⟩
  .have e1:=(Lg hlo (sty:=s.st) (λ_ _ _ h=>h) hax).1
   subst e1
   have hh:=(Q6 hhi cong).1
   exact ⟨sty,cong,λe he=>by rw[xe e _ he];exact (Lg hlo hh hax).2⟩
  .have e1:=(Lg hlo (sty:=stx) (λ_ _ _ h=>h) cong).1
   have e1:sty=stx:=e1
   subst e1
   have hh:=(Q6 hhi hax).2
   exact ⟨s.st,(Lg hlo (s:=⟨s.env,sty⟩) (sty:=s.st) hh cong).2,λe he=>by rw[xe e _ he];exact hax⟩
  .unfold Ny at hhe
   simp only[fy]at hhe
   obtain ⟨hpx',hh⟩:=hhe
   have e1:=(Fw hpx' (sty:=s.st) rfl hax).1
   subst e1
   obtain ⟨n2,o2⟩:=cQ hh cong
   have e2:=(Fw hpx' (sty:=sty) (Mu n2 λi hi=>o2 i (by omega)) hax).2
   exact ⟨sty,cong,λe he=>by rw[xe e _ he];exact e2⟩
  .have e0:=Hx hq hca hax
   have e0:stx=s.st:=e0
   subst e0
   exact ⟨sty,cong,λe he=>by rw[xe e _ he];exact WY hq hca hax (Q5 hq hfr (hwf hfr) cong)⟩
  .have e1:=(Jq had (sty:=s.st) (λ_ _ q h=>⟨q.2,h,rfl⟩) hax).1
   subst e1
   exact ⟨sty,cong,λe he=>by rw[xe e _ he];exact (Jq had (UD hst cong).1 hax).2⟩
  .have e1:=(Jq had (sty:=stx) (λ_ _ q h=>⟨q.2,h,rfl⟩) cong).1
   have e1:sty=stx:=e1
   subst e1
   exact ⟨s.st,(Jq had (s:=⟨s.env,sty⟩) (sty:=s.st) (UD hst hax).2 cong).2,λe he=>by rw[xe e _ he];exact hax⟩
 obtain ⟨st1,hy1,hx1⟩:=hay'
 unfold Hs at hpx hpy
 cases hdy:y.dst with
 | none =>
  rw [hdy]at hpy
  simp only[bp]at hpy
  refine ⟨⟨s.env,st1⟩,⟨_,hy1,by simp[Hs,hdy]⟩,⟨_,hx1 s.env (λ_ _=>rfl),?_⟩⟩
  cases hdx:x.dst with
  | none=>rw[hdx]at hpx;simp only[bp]at hpx;subst hpx;subst hpy;simp[Hs,hdx]
  | some dx =>
   rw [hdx]at hpx
   dsimp only at hpx
   split at hpx
   .rename_i hlt
    simp only[bp]at hpx;subst hpx;subst hpy;simp[Hs,hdx,hlt]
   .cases hpx
 | some dy =>
  rw [hdy]at hpy
  dsimp only at hpy
  split at hpy
  .rename_i hltY
   simp only[bp]at hpy
   refine ⟨⟨upd s.env dy py,st1⟩,⟨_,hy1,by simp[Hs,hdy,hltY]⟩,⟨_,hx1 _ (λt ht=>?_),?_⟩⟩
   .have := hxlook t ht
    simp [hdy]at this
    simp [upd,this]
   .cases hdx:x.dst with
    | none=>rw[hdx]at hpx;simp only[bp]at hpx;subst hpx;subst hpy;simp[Hs,hdx]
    | some dx =>
     rw [hdx]at hpx
     dsimp only at hpx
     split at hpx
     .rename_i hlt
      simp only[bp]at hpx;subst hpx;subst hpy
      have hne:dx≠dy:=λe=>a2 dx hdx (by rw[hdy,e])
      simp [Hs,hdx,hlt,mL hne]
     .cases hpx
  .cases hpy
def J2 (X:Cfg) (N:Nat) (all:Array Oper):List Nat->IState->(IState->Prop)->Prop
 | [],s,K=>K s
 | i::l,s,K=>match all[i]? with | some o=>DU X N all o s λs1=>J2 X N all l s1 K | none=>False
theorem mV {all:Array Oper} {x y:Oper} (hc:FH X all x y=true):BV X x.op=true/\BV X y.op=true:=by
 unfold FH at hc
 simp only[fy]at hc
 exact ⟨hc.1.1.2,hc.1.2⟩
theorem W3 (hq:By X) {all:Array Oper} {x y:Oper} (hf:EY X y=true) (hc:FH X all x y=true) {s s1:IState} (hx:stepG X N all x s=some s1):s1.st=s.st:=by
 unfold stepG at hx
 simp only[au]at hx
 obtain ⟨⟨px,stx⟩,hax,hpx⟩:=hx
 have hst:s1.st=stx:=by
  unfold Hs at hpx
  split at hpx
  .simp only[bp]at hpx;subst hpx;rfl
  .split at hpx
   .simp only[bp]at hpx;subst hpx;rfl
   .cases hpx
 rw [hst]
 unfold FH at hc
 simp only[fy,kx]at hc
 obtain ⟨_,hk⟩:=hc
 obtain ⟨yd,yop,yty,ypos,yaf,yg⟩:=y
 unfold EY at hf
 dsimp only at hf
 simp only[fy,beq_iff_eq]at hf
 obtain ⟨h1,h2⟩:=hf
 split at h2
 .rcases hk with ((((((((((((⟨hqx,hqy⟩ | hax') | hay') | ⟨⟨hlx,hly⟩,hne⟩) | hsl) | ⟨hlk,hfr⟩) | ⟨⟨hpx',hly⟩,hlt⟩) | ⟨⟨hlx,hpy'⟩,hlt⟩) | ⟨hlo,hhi⟩) | ⟨hhi,hlo⟩) | hhe) | ⟨hca,hfr⟩) | ⟨had,hst⟩) | ⟨hst,had⟩
  .exact B1 hq hqx hax
  .exact (FI hq hax' hax).1
  .simp [FG]at hay'
  .simp [BE,h1]at hly
  .unfold Oy at hsl
   dsimp only at hsl
   split at hsl <;> first | (rename_i he;cases he;done) | (cases hsl;done)
  .obtain ⟨xd,xop,xty,xpos,xaf,xg⟩:=x
   exact B1 hq (by
    unfold Nx at hlk
    dsimp only at hlk
    split at hlk <;> first | rfl | (cases hlk;done)) hax
  .simp [BE,h1]at hly
  .simp [Fc]at hpy'
  .exact B1 hq (Mv hlo) hax
  .simp [Oz]at hlo
  .simp [Ny]at hhe
  .exact Hx hq hca hax
  .simp [WO]at hst
  .simp [Ld]at had
 .rcases hk with ((((((((((((⟨hqx,hqy⟩ | hax') | hay') | ⟨⟨hlx,hly⟩,hne⟩) | hsl) | ⟨hlk,hfr⟩) | ⟨⟨hpx',hly⟩,hlt⟩) | ⟨⟨hlx,hpy'⟩,hlt⟩) | ⟨hlo,hhi⟩) | ⟨hhi,hlo⟩) | hhe) | ⟨hca,hfr⟩) | ⟨had,hst⟩) | ⟨hst,had⟩
  .exact B1 hq hqx hax
  .exact (FI hq hax' hax).1
  .simp [FG,h1]at hay';simp[hay']at h2
  .simp [BE,h1]at hly
  .unfold Oy at hsl
   dsimp only at hsl
   split at hsl <;> first | (rename_i he;cases he;done) | (cases hsl;done)
  .obtain ⟨xd,xop,xty,xpos,xaf,xg⟩:=x
   exact B1 hq (by
    unfold Nx at hlk
    dsimp only at hlk
    split at hlk <;> first | rfl | (cases hlk;done)) hax
  .simp [BE,h1]at hly
  .simp [Fc]at hpy'
  .exact B1 hq (Mv hlo) hax
  .simp [Oz]at hlo
  .simp [Ny]at hhe
  .exact Hx hq hca hax
  .simp [WO]at hst
  .simp [Ld]at had
 .rename_i f args ats
  simp only[fy,j9]at h2
  rcases hk with ((((((((((((⟨hqx,hqy⟩ | hax') | hay') | ⟨⟨hlx,hly⟩,hne⟩) | hsl) | ⟨hlk,hfr⟩) | ⟨⟨hpx',hly⟩,hlt⟩) | ⟨⟨hlx,hpy'⟩,hlt⟩) | ⟨hlo,hhi⟩) | ⟨hhi,hlo⟩) | hhe) | ⟨hca,hfr⟩) | ⟨had,hst⟩) | ⟨hst,had⟩
  .exact B1 hq hqx hax
  .exact (FI hq hax' hax).1
  .simp [FG,h2.1.2,h2.2]at hay'
  .simp [BE,h1]at hly
  .unfold Oy at hsl
   dsimp only at hsl
   split at hsl <;> first | (rename_i he;cases he;done) | (cases hsl;done)
  .obtain ⟨xd,xop,xty,xpos,xaf,xg⟩:=x
   exact B1 hq (by
    unfold Nx at hlk
    dsimp only at hlk
    split at hlk <;> first | rfl | (cases hlk;done)) hax
  .simp [BE,h1]at hly
  .simp [Fc]at hpy'
  .exact B1 hq (Mv hlo) hax
  .simp [Oz]at hlo
  .simp [Ny]at hhe
  .exact Hx hq hca hax
  .simp [WO]at hst
  .simp [Ld]at had
 .cases h2
theorem W4 (hq:By X) {all:Array Oper} {i:Nat} {oi:Oper} (hi:all[i]?=some oi) {K:IState->Prop}:∀(pre post:List Nat) (s:IState),(EY X oi=true->WF s.st)->(∀k∈pre,∃ok,all[k]?=some ok/\FH X all ok oi=true) ->
  J2 X N all (pre++i::post) s K->DU X N all oi s λs1=>J2 X N all (pre++post) s1 K
 | [],post,s,_,_,h=>by
  simp only[List.nil_append,J2,hi]at h
  exact h
 | k::pre,post,s,hwf,hp,h=>by
  obtain ⟨ok,hok,hc⟩:=hp k (by simp)
  obtain ⟨n1,n2⟩:=mV hc
  simp only[kh,J2,hok,DV n1]at h
  obtain ⟨s1,h1,h2⟩:=h
  have h2:=W4 hq hi pre post s1 (λhf=>by rw[W3 hq hf hc h1];exact hwf hf) (λk hk=>hp k (by simp[hk])) h2
  rw [DV n2]at h2
  obtain ⟨s2,h3,h4⟩:=h2
  obtain ⟨s3,h5,h6⟩:=cR hq hc hwf h1 h3
  rw [DV n2]
  exact ⟨s3,h5,by simp only[kh,J2,hok,DV n1];exact⟨s2,h6,h4⟩⟩
def ClB (all:Array Oper) (listed:Array Bool):Prop:=∀(j:Nat) (y:Oper),all[j]?=some y->listed.getD j false=true->∀e∈y.after,jw .any e=true->listed.getD e.on false=true
theorem Es {all:Array Oper} {listed:Array Bool} (hcl:ClB all listed):∀(n i j:Nat) (y:Oper),all[j]?=some y->(∀e∈y.after,jw .any e=true->listed.getD e.on false=true)->Kt all n i j=true->listed.getD i false=true
 | 0,i,j,y,hy,he,h=>by simp[Kt]at h
 | n+1,i,j,y,hy,he,h=>by
  simp only[Kt,hy,ky,fy,kx,beq_iff_eq]at h
  obtain ⟨e,hm,hb,h⟩:=h
  have hl:=he e (by simpa using hm) hb
  rcases h with h | h
  .rw [<-h];exact hl
  .cases hz:all[e.on]? with
   | none=>cases n with
    | zero=>simp[Kt]at h
    | succ n=>simp[Kt,hz]at h
   | some z=>exact Es hcl n i e.on z hz (λe' he' hb'=>hcl e.on z hz hl e' he' hb') h
theorem Kg {listed:Array Bool} {i k:Nat} (h:listed.getD k false=true):(listed.setIfInBounds i true).getD k false=true:=by
 simp only[fd,Array.getElem?_setIfInBounds]at h ⊢
 by_cases e:i=k
 .subst e
  by_cases hb:i<listed.size
  .simp [hb]
  .simp [hb]at h
 .simpa [e]using h
theorem ClB.set {all:Array Oper} {listed:Array Bool} (hcl:ClB all listed) {i:Nat} {o:Oper} (ho:all[i]?=some o) (he:∀e∈o.after,jw .any e=true->listed.getD e.on false=true):ClB all (listed.setIfInBounds i true):=by
 intro j y hy hl e hm hb
 by_cases e1:j=i
 .subst e1
  rw [ho]at hy;cases hy
  exact Kg (he e hm hb)
 .refine Kg (hcl j y hy ?_ e hm hb)
  rw [getD_set_ne false (λx=>e1 x.symm)]at hl;exact hl
theorem NA {all:Array Oper} (h:Ku X all=true):∀(j:Nat) (y:Oper),all[j]?=some y->(∀e∈y.after,jw .any e=true->e.on<j) /\
  ∀ (i:Nat) (x:Oper),i<j->all[i]?=some x->(∃e∈y.after,jw .any e=true/\e.on=i)\/FH X all x y=true\/Kt all 8 i j=true:=by
 intro j y hy
 unfold Ku at h
 have hy':all.toList[j]?=some y:=by rw[bx];exact hy
 have hm:(y,j)∈all.toList.zipIdx:=by
  rw [kz];exact hy'
 have := ga.1 h (y,j) hm
 simp only[fy,ga,kx,j9,decide_eq_true_eq,ky,beq_iff_eq]at this
 obtain ⟨h1,h2⟩:=this
 refine ⟨λe he hb=>?_,λi x hij hx=>?_⟩
 .rcases h1 e (by simpa using he)with h3 | h3
  .rw [h3]at hb;cases hb
  .exact h3
 .have hx':all.toList[i]?=some x:=by rw[bx];exact hx
  have hm2:(x,i)∈(all.toList.take j).zipIdx:=by
   rw [kz]
   show (all.toList.take j)[i]?=some x
   rw [List.getElem?_take_of_lt hij];exact hx'
  rcases h2 (x,i) hm2 with h3 | h3
  .obtain ⟨e,he,hb,hon⟩:=h3
   exact .inl ⟨e,by simpa using he,hb,hon⟩
  .exact .inr h3
theorem cT {z:Nat}:lF ⟨0,0,z,0,0⟩ 0 0 (.slice none 0 0):=⟨none,rfl,cg _,by intro h;simp at h⟩
theorem Inv.nilObj {C:Ctx} {st:Store} {w:World} (hi:Inv C st w) {z:Nat} (hz:0<z) :
  ∃ C',C.le C'/\Inv C' (st.new (.arr 0 z [])) w/\VR C' (.slice none 0 0) (.ref st.next 0 0 0):=by
 have hnb:=hi.next st.next (cg _)
 obtain ⟨h1,h2⟩:=hi.put (w':=w) (id:=st.next) (nx:=st.next+1) (o:=.arr 0 z []) (L':=⟨0,0,z,0,0⟩) (.inr hnb) (.inl rfl) (λ_ _ _=>rfl) (cg _)
  (λ_=>⟨rfl,rfl,hz,⟨cg _,Nat.zero_le _⟩,λh=>by simp at h⟩) (by omega) (by omega)
 refine ⟨_,h1,h2,.ref _ _ _ _ _ rfl (.inl rfl) (λL _=>Nat.zero_le _) (λL hL _=>?_)⟩
 simp [Ctx.set]at hL;subst hL;exact cT
theorem Ghost.sound {s s':IState} (h:Ghost s s'):∀ {C:Ctx} {a:Act} {w:World},Simul N C s a w->∃C',C.le C'/\Simul N C' s' a w:=by
 induction h with
 | refl s=>intro C a w hs;exact⟨C,fg C,hs⟩
 | slot s d z h hz =>
  intro C a w hs
  obtain ⟨C',h1,h2,h3⟩:=hs.inv.nilObj hz
  refine ⟨C',h1,hs.defersMono h1,hs.nodup,hs.ownMono h1,hs.size,λt ht=>?_,λt ht=>?_,h2⟩
  .by_cases e:t=d
   .subst e
    have := hs.tmp t ht
    rw [h]at this
    simp only[upd,if_true]
    cases hv:a.tmps.getD t undef <;> rw[hv]at this <;> cases this
    exact h3
   .simp only[upd,e,if_false];exact (hs.tmp t ht).mono h1
  .have : t≠d:=λe=>by subst e;rw[hs.out t ht]at h;cases h
   simp only[upd,this,if_false];exact hs.out t ht
 | cell s id gen z z' es idx off h hc hz =>
  intro C a w hs
  obtain ⟨C1,h1,h2,h3⟩:=hs.inv.nilObj hz
  have hlt:id<s.st.next:=by
   rcases bh id s.st.next with hl | hl
   .exact hl
   .exact absurd (hs.inv.obj id _ h).1 (hs.inv.next id hl)
  have hne:id≠s.st.next:=by omega
  have ho:(s.st.new (.arr 0 z' [])).obj id=some (.arr gen z es):=by simp[kp,Ab,hne,h]
  obtain ⟨hb,L,hL,hat⟩:=h2.obj id _ ho
  have hput:=h2.put (w':=w) (id:=id) (nx:=(s.st.new (.arr 0 z' [])).next) (o:=.arr gen z (es.set idx (Bi (nth es idx) off [.ref s.st.next 0 0 0]))) (L':=L) (.inl ⟨L,hL,.inl rfl⟩)
   (by
    rcases Nat.eq_zero_or_pos L.cap with h0 | h0
    .exact .inl h0
    .exact .inr (.inr ⟨L,hL,rfl,h0⟩)) (λ_ _ _=>rfl) (cg _)
   (λhle=>by
    obtain ⟨g1,g2,g3,g4,g5⟩:=hat
    refine ⟨g1,g2,g3,by simpa using g4,λhcap=>?_⟩
    obtain ⟨k1,k2,cs,T,k3,k4,k5⟩:=g5 hcap
    refine ⟨k1,k2,cs,T,k3,k4,λi e he=>?_⟩
    have hoff:off<(nth es idx).cells.length:=(ab.1 hc).1
    have hidx:idx<es.length:=RZ (λe=>by simp[e]at hoff)
    by_cases hi:i=idx
    .subst hi
     rw [List.getElem?_set_self hidx]at he
     cases he
     obtain ⟨m1,m2,m3⟩:=k5 i _ (Dg hidx)
     have hvs:∀c ∈ [PV.ref s.st.next 0 0 0],c.isCell=true:=by simp[PV.isCell]
     have hcs:=IS (e:=nth es i) (off:=off) hvs (by simp) (by simp;omega)
     have hsl:=GJ (cells:=(nth es i).cells) (vs := [PV.ref s.st.next 0 0 0]) (off:=off) (by simp;omega)
     refine ⟨by rw[hcs,hsl,m1],λc hc'=>?_,λj c hj=>?_⟩
     .rw [hcs]at hc'
      obtain ⟨j,hj⟩:=List.mem_iff_getElem?.1 hc'
      rw [Ep (by simp;omega)]at hj
      split at hj
      .exact hvs _ (ac hj)
      .exact m2 _ (ac hj)
     .rw [hcs,Ep (by simp;omega)]at hj
      split at hj
      .rename_i hr
       simp only[List.length_singleton]at hr
       have : j=off:=by omega
       subst this
       simp at hj;subst hj
       have hold:=m3 j _ hc
       generalize cs.getD (L.off+i*L.size+j) undef=v at hold
       cases hold
       exact h3.mono hle
      .exact (m3 j c hj).mono hle
    .rw [List.getElem?_set_ne (λe=>hi e.symm)]at he
     exact (k5 i e he).mono hle) (cg _) (by simp[kp];omega)
  refine ⟨_,h1.trans hput.1,hs.defersMono (h1.trans hput.1),hs.nodup,hs.ownMono (h1.trans hput.1),hs.size,λt ht=>(hs.tmp t ht).mono (h1.trans hput.1),hs.out,hput.2⟩
 | res s z hz =>
  intro C a w hs
  obtain ⟨C',h1,h2,_⟩:=hs.inv.nilObj hz
  exact ⟨C',h1,hs.defersMono h1,hs.nodup,hs.ownMono h1,hs.size,λt ht=>(hs.tmp t ht).mono h1,hs.out,h2⟩
 | sealv s d q ids hb h =>
  intro C a w hs
  obtain ⟨h1,h2⟩:=hs.inv.seal ids
  refine ⟨_,h1,hs.defersMono h1,hs.nodup,hs.ownMono h1,hs.size,λt ht=>?_,λt ht=>?_,h2⟩
  .by_cases e:t=d
   .subst e
    simp only[upd,if_true]
    have :=(VR.freezeAgain hs.inv ids (l := [s.env t]) (as := [q]) (vals:=λ_=>a.tmps.getD t undef) (by simp[Ce,h]) (λi p hp=>by
     cases i with
     | zero=>simp at hp;subst hp;exact hs.tmp t ht
     | succ i=>simp at hp)).2 0 q rfl
    exact this
   .simp only[upd,e,if_false];exact (hs.tmp t ht).mono h1
  .have : t≠d:=λe=>by subst e;exact hb (hs.out t ht)
   simp only[upd,this,if_false];exact hs.out t ht
 | fix s d id gen idx z es h ho hi hp =>
  intro C a w hs
  obtain ⟨h1,h2,h3⟩:=hs.inv.without [id]
  refine ⟨_,h1,hs.defersMono h1,hs.nodup,hs.ownMono h1,hs.size,λt ht=>?_,λt ht=>?_,h2⟩
  .by_cases e:t=d
   .subst e
    simp only[upd,if_true]
    have hv:=hs.tmp t ht
    rw [h]at hv
    obtain ⟨L,hL,hb,hg,hLz,hz,hcap,hat⟩:=hs.inv.arr ho
    generalize a.tmps.getD t undef=v0 at hv
    cases hv with
    | ptr _ _ _ _ _ _ _ _ hr =>
     rw [hr L hL hg.symm]
     obtain ⟨k1,k2,cs,T,k3,k4,k5⟩:=hat (by omega)
     obtain ⟨m1,m2,m3⟩:=k5 idx _ (Dg hi)
     have hmb:=Bm (z:=L.size) hi hcap
     have himm:∀j,j<(nth es idx).cells.length->(C.closeIn [id] w).imm L.blk (L.off+idx*L.size+j)=some (cs.getD (L.off+idx*L.size+j) undef):=λj hj=>by
      have hlt:L.off+idx*L.size+j<cs.size:=by omega
      refine h3 id L (by simp) hL (by omega) _ _ ?_
      rw [FE k3,bz hlt]
      simp [bm,hlt]
     refine .vptr L.blk (L.off+idx*L.size) 0 _ m2 (λj hj=>by rw[himm j hj];rfl) (λj c hj=>?_)
     have hjl:j<(nth es idx).cells.length:=(ab.1 hj).1
     rw [himm j hjl]
     exact (m3 j c hj).mono h1
   .simp only[upd,e,if_false];exact (hs.tmp t ht).mono h1
  .have : t≠d:=λe=>by subst e;rw[hs.out t ht]at h;cases h
   simp only[upd,this,if_false];exact hs.out t ht
 | trans h g ih1 ih2 =>
  intro C a w hs
  obtain ⟨C1,h1,h2⟩:=ih1 hs
  obtain ⟨C2,h3,h4⟩:=ih2 h2
  exact ⟨C2,h1.trans h3,h4⟩
def RQ (N:Nat) (C:Ctx) (R:IExit->IState->Prop) (e:Exit) (a:Act) (w:World):Prop :=
 ∃ e' C' s,(match e,e' with | .normal,.normal=>True | .exit i,.exit j=>i=j | .ret,.ret=>True | _,_=>False)/\C.le C'/\Simul N C' s a w/\R e' s
theorem RQ.mono {C C':Ctx} (hle:C.le C') {R R':IExit->IState->Prop} (hR:∀e s,R e s->R' e s) {e:Exit} {a:Act} {w:World} (h:RQ N C' R e a w):RQ N C R' e a w:=by
 obtain ⟨e',C'',s,h1,h2,h3,h4⟩:=h
 exact ⟨e',C'',s,h1,hle.trans h2,h3,hR _ _ h4⟩
def Ctx.lek (A B:Ctx):Prop:=A.le { B with caller:=A.caller }
theorem Ctx.lek.trans {A B C:Ctx} (h:A.lek B) (g:B.lek C):A.lek C:=Ctx.le.trans h ⟨g.imm,g.old,g.born,g.loc,g.B,g.h,g.os,g.out,g.keep,rfl⟩
theorem Ctx.le.lek {A B:Ctx} (h:A.le B):A.lek B:=⟨h.imm,h.old,h.born,h.loc,h.B,h.h,h.os,h.out,h.keep,rfl⟩
theorem VR.lek {A B:Ctx} (h:A.lek B) {v:Value} {p:PV} (hv:VR A v p):VR B v p:=VR.same (C:={ B with caller:=A.caller }) (C':=B) rfl rfl rfl (hv.mono h)
def FJ (X:Cfg) (C0:Ctx):Prop:=∀l H,X.yl=some (l,H)->∀(args:List PV) (st:Store) (K:Bool->Store->Prop) (C:Ctx) (w:World) (vals:Array Value),C0.lek C->H args st K->Inv C st w->IXC.VRs C vals args->(∀b,C.caller b=true->C.keep b=true) ->
 ∃ f tmps assign body,(lb l vals).run X.P w=.ok (.round l f tmps assign body) w/\RoundIn (FR none) 0 X.P l f tmps assign body w (λe w'=>∃b C' st',e=.returned (.bool b)/\C.le C'/\Inv C' st' w'/\K b st')
theorem UE {X:Cfg} {C0:Ctx} (h:X.yl=none):FJ X C0:=λl H hl=>by rw[h]at hl;cases hl
theorem NJ {all:Array Oper} {o:Oper} (hs:Simul N C s a w) (h:DF all o s.env=true):jy o (yielded all a.tmps)=true:=by
 unfold DF at h
 split at h
 .rename_i hg;simp[jy,hg]
 .rename_i j want hg
  split at h
  .rename_i b hb
   unfold DK at hb
   split at hb
   .rename_i d hd
    have hd':d<N:=by
     rcases bh d N with hl | hl
     .exact hl
     .rw [hs.out d hl]at hb;cases hb
    have := hs.tmp d hd'
    rw [hb]at this
    have h2:=Du this
    have h3:a.tmps[d]?=some (.bool b):=by
     have hlt:d<a.tmps.size:=by rw[hs.size];exact hd'
     rw [bz hlt]
     simpa [bm,hlt]using h2
    simp only[beq_iff_eq]at h
    simp [jy,hg,yielded,hd,h3,h]
   .cases hb
  .cases h
theorem cU {X:Cfg} {op:Op} {ρ:Operand->PV} {D:Store->(PV->Store->Prop)->Prop} (h:yOf X op ρ=some D) :
  (∃ x,op=.next x false/\D=λst K=>EH st (ρ x) K)\/(∃o t x u z,op=.binOp o t x (.const (.slice none 0 0)) u/\ρ x=.lits z []/\D=λst K=>∃p q,GT o (Ae X.P t != 0) true=some p/\GT o (Ae X.P t != 0) false=some q/\K p st/\K q st)\/∃l H c f,X.yl=some (l,H)/\op=.call c/\c.callee=.value f/\ρ f=.func (.yield l) [] []/\D=λst K=>H (c.args.toList.map ρ) st λb st'=>K (.bool b) st':=by
 unfold yOf at h
 split at h
 .cases h;exact .inl ⟨_,rfl,rfl⟩
 .split at h
  .rename_i c0 _ _ l H f hy hf
   split at h
   .rename_i l' hl
    split at h
    .rename_i e
     cases h
     exact .inr (.inr ⟨l,H,_,f,hy,rfl,hf,by rw[hl,e],rfl⟩)
    .cases h
   .cases h
  .cases h
 .split at h
  .rename_i hz
   split at h
   .rename_i hx
    cases h
    unfold NI at hz
    split at hz
    .exact .inr (.inl ⟨_,_,_,_,_,rfl,hx,rfl⟩)
    .cases hz
   .cases h
  .cases h
 .cases h
section
variable {rd:Option Nat} {C0:Ctx}
theorem I3 (hX:Fb X) (hY:FJ X C0) {all:Array Oper} {o:Oper} {K:IState->Prop} (h:DU X N all o s K) (hs:Simul N C s a w) (hC:C0.lek C) {next:Act->World->Prop} {Q:Exit->Act->World->Prop}
  (hK : ∀C' s' a' w',C.le C'->Simul N C' s' a' w'->K s'->next a' w') :
  if jy o (yielded all a.tmps)then o.wpIn (FR rd) 0 X.P a w next Q else (∀f,o.about X.P w a.eval=some f->(FR rd).fn f)/\next (a.put o.dst undef) w:=by
 unfold DU at h
 split at h
 .rename_i D he
  split at he
  .rename_i hg
   rw [if_pos (NJ hs hg)]
   rcases cU he with ⟨x,hop,rfl⟩ | ⟨op,t,x,u,z,hop,hx,rfl⟩ | ⟨l,H,c,f,hy,hop,hcal,hf,rfl⟩
   .refine ⟨λ_ _=>trivial,?_⟩
    rw [jz _ _ _ (λc' e=>by rw[hop]at e;cases e)]
    obtain ⟨v,w',C',p,st',hrun,hle,hi',hv',s',hput,hk⟩:=Qo (P:=X.P) (ty:=o.type) hs.inv (hs.eval x) h
    have hex:(execOp a.eval o).run X.P w=.ok (.value v) w':=by
     obtain ⟨dst,op,ty,pos,after,guard⟩:=o
     dsimp only at hop hrun
     subst hop
     simp only[execOp,bf,hrun,bg,c8]
    rw [hex]
    exact hK C' s' _ w' hle (hs.put hle hi' hv' hput) hk
   .refine ⟨λ_ _=>trivial,?_⟩
    rw [jz _ _ _ (λc' e=>by rw[hop]at e;cases e)]
    obtain ⟨p,q,hp,hq,⟨s1,hput1,hk1⟩,s2,hput2,hk2⟩:=h
    have hvx:=hs.eval x
    rw [hx]at hvx
    obtain ⟨v,hv⟩:∃v,v=a.eval x:=⟨_,rfl⟩
    rw [<-hv]at hvx
    obtain ⟨ad,n,cp,hsl⟩:∃ad n cp,v=.slice ad n cp:=by
     cases hvx with
     | lits b o size cap _ hcap hmax hsz hl hi' hv=>exact⟨_,_,_,rfl⟩
     | lits0 a cap z=>exact⟨_,_,_,rfl⟩
    have hguard:∀ox oy,(eqGuard op t ox oy (.slice ad n cp) (.slice none 0 0)).run X.P w=.ok () w:=by
     intro ox oy;cases op <;> simp[eqGuard]
    have key:∀(r:Bool) (p:PV),GT op (Ae X.P t != 0) r=some p->r=ad.isNone->∃v',(execOp a.eval o).run X.P w=.ok (.value v') w/\VR C v' p:=by
     intro r p hr hr2
     obtain ⟨v',hv1,hv2⟩:=lN (C:=C) (P:=X.P) (w:=w) (n:=n) (c:=cp) hr hr2
     refine ⟨v',?_,hv2⟩
     obtain ⟨dst,op',ty,pos,after,guard⟩:=o
     dsimp only at hop
     subst hop
     have e1:a.eval x=.slice ad n cp:=hv.symm.trans hsl
     have e2:a.eval (.const (.slice none 0 0))=.slice none 0 0:=rfl
     simp only[execOp,e1,e2,bf,hguard,bg,hv1,c8]
    cases had:ad.isNone with
    | true =>
     obtain ⟨v',h1,h2⟩:=key true p hp had.symm
     rw [h1]
     exact hK C s1 _ w (fg C) (hs.put (fg C) hs.inv h2 hput1) hk1
    | false =>
     obtain ⟨v',h1,h2⟩:=key false q hq had.symm
     rw [h1]
     exact hK C s2 _ w (fg C) (hs.put (fg C) hs.inv h2 hput2) hk2
   refine ⟨λ_ _=>trivial,?_⟩
   rw [jz _ _ _ (λc' e=>by rw[hop]at e;cases e)]
   have hvf:=hs.eval f
   rw [hf]at hvf
   have hfv:a.eval f=.func (.yield l) #[] #[]:=by
    generalize a.eval f=v at hvf
    cases hvf with
    | func fn first captured pf pc h1 h2 h3 h4 =>
     have e1:first = #[]:=by simpa using h1
     have e2:captured = #[]:=by simpa using h2
     rw [e1,e2]
   obtain ⟨g,tmps,assign,body,hrun,hround⟩:=hY l H hy _ _ _ C w (c.args.map a.eval) hC h hs.inv ⟨by simp,λi q hq=>by
    simp only[List.getElem?_map,az]at hq
    obtain ⟨x,hx,rfl⟩:=hq
    have e:(c.args.map a.eval).getD i undef=a.eval x:=by
     rw [bx]at hx
     simp [fd,hx]
    rw [e];exact hs.eval x⟩ hs.own
   have hex:(execOp a.eval o).run X.P w=(lb l (c.args.map a.eval)).run X.P w:=by
    obtain ⟨dst,op,ty,pos,after,guard⟩:=o
    dsimp only at hop
    subst hop
    obtain ⟨callee,cargs,ats⟩:=c
    dsimp only at hcal
    subst hcal
    simp [execOp,resolve,hfv,Deferred.ofValue,bf,c8,bg,invoke]
   rw [hex,hrun]
   refine ⟨λhd=>by simp[FR,jx]at hd,RoundIn.mono (F:=FR rd) hround λe w' he=>?_⟩
   obtain ⟨b,C',st',rfl,hle,hi',s',hput,hk⟩:=he
   exact hK C' s' _ w' hle (hs.put hle hi' (.bool b) hput) hk
  .cases he
 .rename_i he
  obtain ⟨s',h1,h2⟩:=h
  exact Up hX h1 hs λC' a' w' hle hs'=>hK C' s' a' w' hle hs' h2
theorem OJ {rd:Option Nat} {C0:Ctx} (hX:Fb X) (hY:FJ X C0) {all:Array Oper} {Q:Exit->Act->World->Prop}:∀(l:List Oper) (s:IState) (C:Ctx) (a:Act) (w:World) (K:IState->Prop),EO X N all l s K->Simul N C s a w->C0.lek C ->
  (∀ C' s' a' w',C.le C'->Simul N C' s' a' w'->K s'->Q .normal a' w')->wpListIn (FR rd) 0 X.P all Q l a w
 | [],s,C,a,w,K,h,hs,hC,hQ=>hQ C s a w (fg C) hs h
 | o::l,s,C,a,w,K,h,hs,hC,hQ=>I3 hX hY h hs hC λC' s' a' w' hle hs' h' =>
   OJ hX hY l s' C' a' w' K h' hs' (hC.trans hle.lek) λC'' s'' a'' w'' hle' hs'' hk=>hQ C'' s'' a'' w'' (hle.trans hle') hs'' hk
theorem W5 (hX:Fb X) (hq:By X) (hY:FJ X C0) {all:Array Oper} (hd:Ku X all=true) {K:IState->Prop} {Q:Exit->Act->World->Prop}:∀(fuel:Nat) (rem:List Nat) (listed:Array Bool) (C:Ctx) (s:IState) (a:Act) (w:World),
  ClB all listed->rem.length=fuel->rem.Pairwise (· < ·)->(∀i,i∈rem↔(i<all.size/\listed.getD i true=false))->listed.size=all.size->J2 X N all rem s K->Simul N C s a w->C0.lek C ->
  (∀ C' s' a' w',C.le C'->Simul N C' s' a' w'->K s'->Q .normal a' w')->wpAnyIn (FR rd) 0 X.P .any all Q fuel listed a w:=by
 intro fuel
 induction fuel with
 | zero =>
  intro rem listed C s a w hcl hlen hsort hrem hsz hrun hs hC hQ
  have : rem = []:=fo hlen
  subst this
  simp only[J2]at hrun
  refine ⟨?_,hQ C s a w (fg C) hs hrun⟩
  rw [lg]
  intro i hi
  obtain ⟨h1,o,ho,_⟩:=mem_ready.1 hi
  have :=(hrem i).2 ⟨(ai.1 ho).1,h1⟩
  simp at this
 | succ fuel ih =>
  intro rem listed C s a w hcl hlen hsort hrem hsz hrun hs hC hQ
  refine ⟨λhnil=>?_,λi hi=>?_⟩
  .exfalso
   match rem,hlen with
   | i0::rest,_ =>
    obtain ⟨hlt,hnl⟩:=(hrem i0).1 (by simp)
    obtain ⟨o,ho⟩:∃o,all[i0]?=some o:=⟨all[i0],bz hlt⟩
    have : i0∈lh .any all listed:=mem_ready.2 ⟨hnl,o,ho,λe he hb=>by
     have hlt2:=(NA hd i0 o ho).1 e he hb
     have hn:e.on ∉ i0::rest:=λhm=>by
      rcases li.1 hm with h | h
      .omega
      .have := ln hsort h;omega
     have h2:¬(e.on<all.size/\listed.getD e.on true=false):=λh=>hn ((hrem e.on).2 h)
     have h3:e.on<listed.size:=by omega
     have h4:listed.getD e.on true=true:=by
      cases hb:listed.getD e.on true with
      | true=>rfl
      | false=>exact absurd ⟨by omega,hb⟩ h2
     simpa [bm,h3]using h4⟩
    rw [hnil]at this
    simp at this
  .obtain ⟨h1,o,ho,hedges⟩:=mem_ready.1 hi
   have hmem:=(hrem i).2 ⟨(ai.1 ho).1,h1⟩
   obtain ⟨pre,post,rfl⟩:=lq hmem
   have hpre:∀k∈pre,k<i:=λk hk=>by
    have :=(lu.1 hsort).2.2 k hk i (by simp)
    exact this
   have hst:=W4 hq ho pre post s (λ_=>hs.inv.wf) (λk hk=>by
    have hkm:k∈pre++i::post:=by simp[hk]
    obtain ⟨hklt,hkl⟩:=(hrem k).1 hkm
    refine ⟨all[k],bz hklt,?_⟩
    rcases (NA hd i o ho).2 k all[k] (hpre k hk) (bz hklt)with ⟨e,he,hb,hon⟩ | h
    .have := hedges e he hb
     rw [hon]at this
     have h3:k<listed.size:=by omega
     simp [bm,h3]at this hkl
     rw [this]at hkl;cases hkl
    .rcases h with h | h
     .exact h
     .have h4:=Es hcl 8 k i o ho hedges h
      have h3:k<listed.size:=by omega
      simp [bm,h3]at h4 hkl
      rw [h4]at hkl;cases hkl) hrun
   unfold wpOpIn
   simp only[ho]
   refine I3 hX hY hst hs hC λC' s1 a' w' hle hs' hrest=>?_
   have hni:i ∉ pre++post:=by
    intro hm
    rcases kq.1 hm with h | h
    .have := hpre i h;omega
    .have h2:=(lu.1 hsort).2.1
     have := ln h2 h;omega
   refine ih (pre++post) _ C' s1 a' w' (hcl.set ho hedges) (by simp at hlen ⊢;omega) ?_ (λk=>?_) (by simpa using hsz) hrest hs' (hC.trans hle.lek) (λC'' s'' a'' w'' hle' hs'' hk=>hQ C'' s'' a'' w'' (hle.trans hle') hs'' hk)
   .rw [lu]at hsort ⊢
    exact ⟨hsort.1,(lw.1 hsort.2.1).2,λx hx y hy=>hsort.2.2 x hx y (by simp[hy])⟩
   .by_cases hki:k=i
    .subst hki
     constructor
     .intro h;exact absurd h hni
     .rintro ⟨h2,h3⟩
      have : k<listed.size:=by omega
      simp [bm,this]at h3
    .rw [getD_set_ne true (λe=>hki e.symm),<-hrem k]
     simp [hki]
end
theorem OL {all:Array Oper} {K:IState->Prop}:∀(l:List Oper) (k:Nat) (s:IState),(∀j,l[j]?=all[k+j]?)->J2 X N all (List.range' k l.length) s K=EO X N all l s K
 | [],k,s,_=>rfl
 | o::l,k,s,h=>by
  have h0:all[k]?=some o:=by simpa using (h 0).symm
  simp only[List.length_cons,List.range'_succ,J2,h0,EO]
  congr 1
  funext s1
  exact OL l (k+1) s1 (λj=>by have:=h (j+1);simpa [Nat.add_assoc,Nat.add_comm 1 j]using this)
section
variable {all:Array Oper} {listed:Array Bool}
theorem cV (hcl:ClB all listed) {i k:Nat} {o:Oper} (ho:all[i]?=some o) (hedges:∀e∈o.after,jw .any e=true->listed.getD e.on false=true) (hk:listed.getD k false=false) (hp:Mr X all k i=true):∃ok,all[k]?=some ok/\FH X all ok o=true:=by
 unfold Mr at hp
 rw [ho]at hp
 cases hok:all[k]? with
 | none=>rw[hok]at hp;cases hp
 | some ok =>
  rw [hok]at hp
  simp only[kx,ky,fy,beq_iff_eq]at hp
  refine ⟨ok,rfl,?_⟩
  rcases hp with (⟨e,he,hb,hon⟩ | h) | h
  .have := hedges e (by simpa using he) hb
   rw [hon,hk]at this;cases this
  .exact h
  .have := Es hcl 8 k i o ho hedges h
   rw [hk]at this;cases this
theorem mW {rem:List Nat} (hrem:∀i,i∈rem↔(i<all.size/\listed.getD i true=false)) (hsz:listed.size=all.size) (hrng:∀(i:Nat) (o:Oper),all[i]?=some o->∀e∈o.after,jw .any e=true->e.on<all.size)
  {i0 : Nat} {rest:List Nat} (hr:rem=i0::rest) (hself:GV all i0 i0=true) (hdep:∀j∈rest,GV all i0 j=true):i0∈lh .any all listed:=by
 obtain ⟨hlt,hnl⟩:=(hrem i0).1 (by rw[hr];simp)
 obtain ⟨o,ho⟩:∃o,all[i0]?=some o:=⟨all[i0],bz hlt⟩
 have nod:∀j,GV all i0 j=true->∀e∈o.after,jw .any e=true->e.on≠j:=λj hj e he hb=>by
  unfold GV at hj
  rw [ho]at hj
  have := ga.1 hj e (by simpa using he)
  simp only[hb,Bool.not_true,Bool.false_or,bne_iff_ne]at this
  exact this
 refine mem_ready.2 ⟨hnl,o,ho,λe he hb=>?_⟩
 have hn:e.on ∉ rem:=λhm=>by
  rw [hr]at hm
  rcases li.1 hm with h | h
  .exact nod i0 hself e he hb h
  .exact nod _ (hdep _ h) e he hb rfl
 have h2:¬(e.on<all.size/\listed.getD e.on true=false):=λh=>hn ((hrem e.on).2 h)
 have h0:=hrng i0 o ho e he hb
 have h3:e.on<listed.size:=by omega
 have h4:listed.getD e.on true=true:=by
  cases hb:listed.getD e.on true with
  | true=>rfl
  | false=>exact absurd ⟨by omega,hb⟩ h2
 simpa [bm,h3]using h4
theorem yR {rem:List Nat} (hrem:∀i,i∈rem↔(i<all.size/\listed.getD i true=false)) (hsz:listed.size=all.size) {i:Nat} {pre post:List Nat} (hr:rem=pre++i::post) (hnd:rem.Nodup) :
  (pre ++ post).Nodup/\∀k,k∈pre++post↔(k<all.size/\(listed.setIfInBounds i true).getD k true=false):=by
 subst hr
 have hni:i ∉ pre++post:=λhm=>by
  have :=(lz.nodup_iff.1 hnd)
  rw [l5]at this
  exact this.1 hm
 have hnd2:(pre++post).Nodup:=by
  have :=(lz.nodup_iff.1 hnd)
  rw [l5]at this
  exact this.2
 refine ⟨hnd2,λk=>?_⟩
 by_cases hki:k=i
 .subst hki
  constructor
  .intro h;exact absurd h hni
  .rintro ⟨h2,h3⟩
   have : k<listed.size:=by omega
   simp [bm,this]at h3
 .rw [getD_set_ne true (λe=>hki e.symm),<-hrem k]
  simp [hki]
end
theorem NB {p:Nat->Nat->Bool}:∀ {l:List Nat},Ea p l=true->l.Pairwise (λi j=>p i j=true)
 | [],_=>l6
 | i::l,h=>by
  simp only[Ea,fy,ga]at h
  exact l7 h.1 (NB h.2)
theorem UF {all:Array Oper} {o:Oper} {s:IState} {K K':IState->Prop} (hk:∀s,K s->K' s) (ho:BV X o.op=true) (h:DU X N all o s K):DU X N all o s K':=by
 rw [DV ho]at h ⊢
 obtain ⟨s1,a,b⟩:=h
 exact ⟨s1,a,hk _ b⟩
theorem Zj {all:Array Oper} {K:IState->Prop}:∀(l:List Nat) (s:IState),(∀i∈l,i<all.size)->(∀(i:Nat) (o:Oper),all[i]?=some o->BV X o.op=true)->EO X N all (atO all l) s K->J2 X N all l s K
 | [],s,_,_,h=>h
 | i::l,s,hl,hn,h=>by
  have hi:=hl i (by simp)
  have e:all[i]?=some all[i]:=bz hi
  have e2:atO all (i::l)=all[i]::atO all l:=by simp[atO,e]
  rw [e2]at h
  simp only[EO]at h
  simp only[J2,e]
  exact UF (λs' h'=>Zj l s' (λj hj=>hl j (by simp[hj])) hn h') (hn i _ e) h
def Tree.leaves:List (Nat×Nat)->Tree->List (List (Nat×Nat)×List Nat)
 | E,.one r => [(E,r)]
 | E,.two a b s t=>s.leaves ((a,b)::E)++t.leaves ((b,a)::E)
 | E,.via m t=>t.leaves ((m,m)::E)
theorem Fl:∀ {t:Tree} {E:List (Nat×Nat)} {p:List (Nat×Nat)×List Nat},p∈t.leaves E->p.2∈t.orders
 | .one r,E,p,h=>by
  simp only[Tree.leaves,ku]at h
  rw [h];simp[Tree.orders]
 | .two a b s t,E,p,h=>by
  simp only[Tree.leaves,kq]at h
  simp only[Tree.orders,kq]
  exact h.imp Fl Fl
 | .via m t,E,p,h=>Fl (t:=t) h
theorem Jr {all:Array Oper}:∀ {t:Tree} {E:List (Nat×Nat)} {p:List (Nat×Nat)×List Nat},Eb X all E t=true->p∈t.leaves E->Eb X all p.1 (.one p.2)=true
 | .one r,E,p,ht,h=>by
  simp only[Tree.leaves,ku]at h
  rw [h];exact ht
 | .two a b s t,E,p,ht,h=>by
  simp only[Eb,fy]at ht
  simp only[Tree.leaves,kq]at h
  rcases h with h | h
  .exact Jr ht.1.2 h
  .exact Jr ht.2 h
 | .via m t,E,p,ht,h=>Jr (t:=t) ht h
theorem Fm {all:Array Oper} {σ:Nat->Nat} (hσ:∀a b,σ a=σ b->a=b):∀ {t:Tree} {E:List (Nat×Nat)},Eb X all E t=true->(∀e∈E,e.1≠e.2->σ e.1<σ e.2)->∃p∈t.leaves E,∀e∈p.1,e.1≠e.2->σ e.1<σ e.2
 | .one r,E,ht,h=>⟨(E,r),by simp[Tree.leaves],h⟩
 | .two a b s t,E,ht,h=>by
  simp only[Eb,fy,decide_eq_true_eq]at ht
  have hne:σ a≠σ b:=λe=>ht.1.1 (hσ _ _ e)
  by_cases c:σ a<σ b
  .obtain ⟨p,hp,h2⟩:=Fm hσ ht.1.2 (λe he=>(li.1 he).elim (λe1 _=>by rw[e1];exact c) (λe1=>h e e1))
   exact ⟨p,by simp only[Tree.leaves,kq];exact .inl hp,h2⟩
  .obtain ⟨p,hp,h2⟩:=Fm hσ ht.2 (λe he=>(li.1 he).elim (λe1 _=>by rw[e1];show σ b<σ a;omega) (λe1=>h e e1))
   exact ⟨p,by simp only[Tree.leaves,kq];exact .inr hp,h2⟩
 | .via m t,E,ht,h=>Fm (t:=t) hσ ht (λe he=>(li.1 he).elim (λe1 g=>absurd (by rw[e1]) g) (λe1=>h e e1))
structure LeafOK (X:Cfg) (all:Array Oper) (listed:Array Bool) (n:Nat) (E:List (Nat×Nat)) (r:List Nat):Prop where
 len : r.length=n
 nd : r.Nodup
 self : ∀i∈r,GV all i i=true
 pw : r.Pairwise (λi j=>Q0 X all E i j=true/\GV all i j=true)
 mem : ∀i,i∈r↔(i<all.size/\listed.getD i true=false)
 cl : ∀e∈E,e.1≠e.2->listed.getD e.2 false=true->¬(e.1<all.size/\listed.getD e.1 true=false)
section
variable {listed:Array Bool} {k:Nat}
theorem Zk:listed.getD k true=false->listed.getD k false=false:=λh=>by
 by_cases h3:k<listed.size
 .simpa [bm,h3]using h
 .simp [bm,h3]at h
theorem yS (h3:k<listed.size) (h:¬listed.getD k true=false):listed.getD k false=true:=by
 simpa [bm,h3]using h
end
theorem W6 {all:Array Oper} {listed:Array Bool} (hsz:listed.size=all.size) (hcl:ClB all listed) {E:List (Nat×Nat)} {i k:Nat} {o:Oper} (ho:all[i]?=some o) (hedges:∀e∈o.after,jw .any e=true->listed.getD e.on false=true) (hk:listed.getD k false=false)
  (hE : ∀e∈E,e.1≠e.2->e.2=i->¬(e.1<all.size/\listed.getD e.1 true=false)) (hcE:∀e∈E,e.1≠e.2->listed.getD e.2 false=true->¬(e.1<all.size/\listed.getD e.1 true=false)) (hks:k<all.size) (hp:Q0 X all E k i=true):∃ok,all[k]?=some ok/\FH X all ok o=true:=by
 unfold Q0 at hp
 rw [kx,ky]at hp
 rcases hp with hp | ⟨e,he,hp⟩
 .exact cV hcl ho hedges hk hp
 .exfalso
  have fin:¬(e.1<all.size/\listed.getD e.1 true=false)->(e.1=k\/Kt all 8 k e.1=true)->False:=λh1 hp2=>by
   by_cases hsz1:e.1<all.size
   .have h2:listed.getD e.1 false=true:=yS (by omega) (λg=>h1 ⟨hsz1,g⟩)
    rcases hp2 with h | h
    .rw [h,hk]at h2;cases h2
    .obtain ⟨z,hz⟩:∃z,all[e.1]?=some z:=⟨all[e.1],bz hsz1⟩
     have := Es hcl 8 k e.1 z hz (λe' he' hb'=>hcl e.1 z hz h2 e' he' hb') h
     rw [hk]at this;cases this
   .rcases hp2 with h | h
    .omega
    .have hz:all[e.1]?=none:=Array.getElem?_eq_none (by omega)
     simp [Kt,hz]at h
  split at hp
  .rename_i em
   simp only[fy]at hp
   have h3:=Es hcl 8 e.2 i o ho hedges hp.1
   rw [<-em]at h3
   refine fin (λg=>?_) (.inr hp.2)
   rw [Zk g.2]at h3;cases h3
  .rename_i em
   simp only[fy,kx,beq_iff_eq]at hp
   refine fin ?_ hp.2
   rcases hp.1 with h | h
   .exact hE e he em h
   .exact hcE e he em (Es hcl 8 e.2 i o ho hedges h)
section
variable {rd:Option Nat} {C0:Ctx}
theorem Sl (hX:Fb X) (hq:By X) (hY:FJ X C0) {all:Array Oper} (hrng:∀(i:Nat) (o:Oper),all[i]?=some o->∀e∈o.after,jw .any e=true->e.on<all.size) (hny:∀(i:Nat) (o:Oper),all[i]?=some o->BV X o.op=true) {K:IState->Prop} {Q:Exit->Act->World->Prop}:∀(fuel:Nat) (L:List (Nat×Nat)->List Nat->Prop) (listed:Array Bool) (C:Ctx) (s:IState) (a:Act) (w:World),
  ClB all listed->(∀E r,L E r->LeafOK X all listed fuel E r/\J2 X N all r s K)->(∀σ:Nat->Nat,(∀a b,σ a=σ b->a=b)->∃E r,L E r/\∀e∈E,e.1≠e.2->listed.getD e.1 true=false->listed.getD e.2 true=false->σ e.1<σ e.2)->listed.size=all.size->Simul N C s a w->C0.lek C ->
  (∀ C' s' a' w',C.le C'->Simul N C' s' a' w'->K s'->Q .normal a' w')->wpAnyIn (FR rd) 0 X.P .any all Q fuel listed a w:=by
 intro fuel
 induction fuel with
 | zero =>
  intro L listed C s a w hcl hL hcov hsz hs hC hQ
  obtain ⟨E,r,hLr,_⟩:=hcov id (λa b h=>h)
  obtain ⟨hok,hrun⟩:=hL E r hLr
  have : r = []:=fo hok.len
  subst this
  simp only[J2]at hrun
  refine ⟨?_,hQ C s a w (fg C) hs hrun⟩
  rw [lg]
  intro i hi
  obtain ⟨h1,o,ho,_⟩:=mem_ready.1 hi
  have :=(hok.mem i).2 ⟨(ai.1 ho).1,h1⟩
  simp at this
 | succ fuel ih =>
  intro L listed C s a w hcl hL hcov hsz hs hC hQ
  refine ⟨λhnil=>?_,λi hi=>?_⟩
  .exfalso
   obtain ⟨E,r,hLr,_⟩:=hcov id (λa b h=>h)
   obtain ⟨hok,hrun⟩:=hL E r hLr
   match r,hok with
   | [],hok=>have:=hok.len;simp at this
   | i0::rest,hok =>
    have := mW hok.mem hsz hrng rfl (hok.self i0 (by simp)) (λj hj=>(ln hok.pw hj).2)
    rw [hnil]at this
    simp at this
  .obtain ⟨h1,o,ho,hedges⟩:=mem_ready.1 hi
   have hlt:i<all.size:=(ai.1 ho).1
   have hny0:=hny i o ho
   let keep:List (Nat×Nat)->Prop:=λE=>∀e∈E,e.1≠e.2->e.2=i->¬(e.1<all.size/\listed.getD e.1 true=false)
   have step:∀E pre post,L E (pre++i::post)->keep E->DU X N all o s λs1=>J2 X N all (pre++post) s1 K:=λE pre post h hk=>by
    obtain ⟨hok,hrun⟩:=hL E _ h
    refine W4 hq ho pre post s (λ_=>hs.inv.wf) (λk hkm=>?_) hrun
    obtain ⟨hklt,hkl⟩:=(hok.mem k).1 (by simp[hkm])
    exact W6 hsz hcl ho hedges (Zk hkl) hk hok.cl hklt ((lu.1 hok.pw).2.2 k hkm i (by simp)).1
   have cov2:∀σ:Nat->Nat,(∀a b,σ a=σ b->a=b)->∃E pre post,L E (pre++i::post)/\keep E/\∀e∈E,e.1≠e.2->(listed.setIfInBounds i true).getD e.1 true=false->(listed.setIfInBounds i true).getD e.2 true=false->σ e.1<σ e.2:=λσ hσ=>by
    obtain ⟨E,r,hLr,hr⟩:=hcov (λj=>if j=i then 0 else σ j+1) (λa b h=>by
     by_cases ca:a=i <;> by_cases cb:b=i
     .rw [ca,cb]
     .rw [if_pos ca,if_neg cb]at h;omega
     .rw [if_neg ca,if_pos cb]at h;omega
     .rw [if_neg ca,if_neg cb]at h;exact hσ _ _ (by omega))
    obtain ⟨hok,_⟩:=hL E r hLr
    obtain ⟨pre,post,e1⟩:=lq ((hok.mem i).2 ⟨hlt,h1⟩)
    refine ⟨E,pre,post,e1▸hLr,λe he em h2 h3=>?_,λe he em g1 g2=>?_⟩
    .have := hr e he em h3.2 (by rw[h2];exact h1)
     rw [h2,if_pos rfl]at this
     omega
    .have hn:∀k,(listed.setIfInBounds i true).getD k true=false->k≠i/\listed.getD k true=false:=λk g=>by
      by_cases c:k=i
      .subst c
       have h3:k<listed.size:=by omega
       simp [bm,h3]at g
      .rw [getD_set_ne true (λe=>c e.symm)]at g
       exact ⟨c,g⟩
     obtain ⟨n1,n2⟩:=hn _ g1
     obtain ⟨n3,n4⟩:=hn _ g2
     have := hr e he em n2 n4
     rw [if_neg n1,if_neg n3]at this
     omega
   have hst:DU X N all o s λs1=>∀E pre post,L E (pre++i::post)->keep E->J2 X N all (pre++post) s1 K:=by
    obtain ⟨E,pre,post,hL0,hk0,_⟩:=cov2 id (λa b h=>h)
    have g0:=step E pre post hL0 hk0
    rw [DV hny0]at g0 ⊢
    obtain ⟨s1,x1,_⟩:=g0
    refine ⟨s1,x1,λE pre post hl hk=>?_⟩
    have g:=step E pre post hl hk
    rw [DV hny0]at g
    obtain ⟨s2,y1,y2⟩:=g
    rw [x1]at y1
    cases y1
    exact y2
   unfold wpOpIn
   simp only[ho]
   refine I3 hX hY hst hs hC λC' s1 a' w' hle hs' hrest=>?_
   refine ih (λE r=>∃pre post,L E (pre++i::post)/\keep E/\r=pre++post) _ C' s1 a' w' (hcl.set ho hedges) ?_ ?_ (by simpa using hsz) hs' (hC.trans hle.lek) (λC'' s'' a'' w'' hle' hs'' hk=>hQ C'' s'' a'' w'' (hle.trans hle') hs'' hk)
   .rintro E r ⟨pre,post,hl,hk,rfl⟩
    obtain ⟨hok,_⟩:=hL E _ hl
    obtain ⟨hnd,hrem⟩:=yR hok.mem hsz rfl hok.nd
    refine ⟨⟨by have:=hok.len;simp at this ⊢;omega,hnd,λj hj=>hok.self j (by simp at hj ⊢;rcases hj with h | h <;> simp[h]),?_,hrem,λe he em hl2=>?_⟩,hrest E pre post hl hk⟩
    have hp1:=hok.pw
    rw [lu]at hp1 ⊢
    exact ⟨hp1.1,(lw.1 hp1.2.1).2,λx hx y hy=>hp1.2.2 x hx y (by simp[hy])⟩
    have h5:¬(e.1<all.size/\listed.getD e.1 true=false):=by
     by_cases c:e.2=i
     .exact hk e he em c
     .rw [getD_set_ne false (λx=>c x.symm)]at hl2
      exact hok.cl e he em hl2
    rintro ⟨g1,g2⟩
    by_cases c:e.1=i
    .have h3:i<listed.size:=by omega
     rw [c]at g2
     simp [bm,h3]at g2
    .rw [getD_set_ne true (λx=>c x.symm)]at g2
     exact h5 ⟨g1,g2⟩
   .intro σ hσ
    obtain ⟨E,pre,post,hl,hk,h2⟩:=cov2 σ hσ
    exact ⟨E,pre++post,⟨pre,post,hl,hk,rfl⟩,h2⟩
theorem UG (hX:Fb X) (hq:By X) (hY:FJ X C0) {all:Array Oper} {t:Tree} (hd:Kv X all t=true) {K:IState->Prop} {Q:Exit->Act->World->Prop} {C:Ctx} {s:IState} {a:Act} {w:World}
  (h1 : ∀r∈t.orders,EO X N all (atO all r) s K) (hs:Simul N C s a w) (hC:C0.lek C) (hQ:∀C' s' a' w',C.le C'->Simul N C' s' a' w'->K s'->Q .normal a' w') :
  wpAnyIn (FR rd) 0 X.P .any all Q all.size (l8 all.size false) a w:=by
 unfold Kv at hd
 simp only[fy,ga]at hd
 obtain ⟨⟨d1,d2⟩,d3⟩:=hd
 have hop:∀(i:Nat) (o:Oper),all[i]?=some o->o∈all.toList:=λi o h=>by
  have : all.toList[i]?=some o:=by rw[bx];exact h
  exact ac this
 have hny:∀(i:Nat) (o:Oper),all[i]?=some o->BV X o.op=true:=λi o h=>(d1 o (hop i o h)).1
 have hmem1:∀i,i∈br all.size↔(i<all.size/\(l8 all.size false).getD i true=false):=λi=>by
  by_cases hlt:i<all.size <;> simp[hlt,bm]
 refine Sl hX hq hY (λi o h e he hb=>?_) hny all.size (λE r=>(E,r)∈t.leaves []) _ C s a w (λj y hy hl=>by simp[bm]at hl) (λE r hl=>?_) (λσ hσ=>?_) (by simp) hs hC hQ
 .have :=(d1 o (hop i o h)).2 e (by simpa using he)
  simpa [hb]using this
 .have hok:=Jr d3 hl
  simp only[Eb,fy,ga,decide_eq_true_eq]at hok
  obtain ⟨⟨⟨k1,k2⟩,k3⟩,k4⟩:=hok
  have hmem2:∀i,i∈r↔i∈br all.size:=λi=>by
   constructor
   .intro h;exact List.mem_range.2 (k2 i h)
   .intro h
    have := k3 i h
    simpa using this
  have p:r.Perm (br all.size):=(List.perm_ext_iff_of_nodup k4 List.nodup_range).2 hmem2
  refine ⟨⟨by rw[p.length_eq,List.length_range],k4,λi hi=>d2 i ((hmem2 i).1 hi),?_,λi=>by rw[hmem2,hmem1],λe _ _ hl2=>by simp[bm]at hl2⟩,Zj _ _ k2 hny (h1 r (Fl hl))⟩
  exact (NB k1).imp λ{i j} h=>by
   simp only[fy]at h
   exact h
 .obtain ⟨p,hp,h2⟩:=Fm (E := []) hσ d3 (λe he=>by simp at he)
  exact ⟨p.1,p.2,hp,λe he em _ _=>h2 e he em⟩
end
end
end Sim
