/- Lemmas. -/
import Derived.Test.YtdfjimjbdakofaaGreatSimV
import Derived.WalkSpells
import Derived.ChangeKeysEq
set_option linter.all false
open Array renaming length_toList->cy,getElem?_eq_getElem->bz,getD_eq_getD_getElem?->fd,append_assoc->jo,getElem?_append_left->jp,getElem?_append_right->jq,getElem?_toList->bx,toList_map->jt,toList_inj->jv
open Bool renaming false_eq_true->gu,and_eq_true->fy
open Go.ByteArray renaming toList_eq->jb
open Go.Instr renaming loadAt->bn,makeMap->ju
open Go.IntKind renaming max->jc,signed->jd,bits->je
open Go.Op renaming equalIn->jf,eqFields->jg,eqItems->ji,unary->jn
open Go.Region renaming binds->jw
open Go.Result renaming andThen_ok->jh,andThen->bg
open Go.Sem renaming run_bind->bf,run_pure->c8
open List renaming getElem?_drop->bv,tail_drop->jk,getElem?_eq_some_iff->ab,getElem?_append_left->cq,getElem?_append_right->ct,getElem?_map->bw,range->br,all_eq_true->ga,mem_range->gz
open Option renaming some.injEq->bp,bind_eq_some_iff->au,map_eq_some_iff->az,isSome_iff_exists->aa,bind_some->aw
open Prod renaming mk.injEq->c9
open Sim.Ctx renaming le.refl->fg
open Sim.VR renaming freezeAgain->js
namespace Sim
open Go
section
variable {P:Program} {w:World} {C:Ctx} {st:Store}
theorem La {op:BinOp} {k yk:IntKind} {a b:Int} {p:PV} (h:RV op k a b=some p) {t:TypeId} (hop:op=.shl\/op=.shr) :
  ∃ v,(binOp op t (.int k a) (.int yk b)).run P w=.ok v w/\VR C v p:=by
 rcases hop with rfl | rfl <;> simp only[RV]at h <;> split at h <;> first | (cases h;done) | skip
 all_goals
  rename_i hb
  simp only[bp]at h
  subst h
  refine ⟨_,?_,.int _ _⟩
  simp [binOp,Op.shift,hb]
theorem Lb {t:TypeId} (h:IL P t=true):P.underlying t=some .bool:=by
 unfold IL at h;split at h
 .assumption
 .cases h
theorem Qp {op:BinOp} {t:TypeId} {a b:ByteArray} {p:PV} (h:Aha op a.data.toList b.data.toList=some p) :
  ∃ v,(binOp op t (.string a) (.string b)).run P w=.ok v w/\VR C v p:=by
 have ea:a.toList=a.data.toList:=jb a
 have eb:b.toList=b.data.toList:=jb b
 have hsz:∀c:ByteArray,c.data.toList.length=c.size:=λc=>by rw[cy];rfl
 cases op <;> simp only[Aha]at h <;> first | (cases h;done) | skip
 case add =>
  split at h
  .rename_i hle
   simp only[bp]at h;subst h
   rw [hsz,hsz]at hle
   refine ⟨.string (a++b),?_,.str _ _ ?_ ?_⟩
   .have : ¬(IntKind.i64.max<((a.size+b.size:Nat):Int)):=by simp[jc,jd,je];omega
    have h2:¬(9223372036854775807<((a.size:Int)+(b.size:Int))):=by omega
    simp [binOp,Op.stringOp,jc,jd,je,h2]
   .simp [ByteArray.data_append]
   .rw [List.length_append,hsz,hsz];simp only[maxLen];omega
  .cases h
 all_goals
  simp only[bp]at h
  subst h
  refine ⟨_,?_,.bool _⟩
  simp [binOp,Op.stringOp,ea,eb]
  try (by_cases hd:a.data=b.data <;> simp[hd])
theorem WL {op:BinOp} {k k':IntKind} {a b:Int} {p:PV} (h:ID op k k' a b=some p) {t:TypeId}:∃v,(binOp op t (.int k a) (.int k' b)).run P w=.ok v w/\VR C v p:=by
 unfold ID at h
 split at h
 .exact La h (.inl rfl)
 .exact La h (.inr rfl)
 .rename_i h1 h2
  split at h
  .rename_i hk;subst hk
   exact WH ⟨h1,h2⟩ h
  .cases h
theorem Ks {op:BinOp} {ok r:Bool} {p:PV} (h:GT op ok r=some p):ok=true/\((op=.eql/\p=.bool r)\/(op=.neq/\p=.bool (!r))):=by
 unfold GT at h
 split at h
 .split at h
  .simp only[bp]at h;exact⟨by assumption,.inl ⟨rfl,h.symm⟩⟩
  .cases h
 .split at h
  .simp only[bp]at h;exact⟨by assumption,.inr ⟨rfl,h.symm⟩⟩
  .cases h
 .cases h
theorem Uh (w:World) (d:Nat) (t e:TypeId) (a:Option Addr) (n c:Nat) (h:P.underlying t=some (.slice e)):(jf (d+1) t (.slice a n c) (.slice none 0 0)).run P w=.ok a.isNone w:=by
 cases a <;> simp[jf,run_underlying h]
theorem yG (w:World) (t e:TypeId) (a:Option Addr) (n c:Nat) (h:P.underlying t=some (.slice e)):(binOp .eql t (.slice a n c) (.slice none 0 0)).run P w=.ok (.bool a.isNone) w:=by
 have : (Op.equal t (.slice a n c) (.slice none 0 0)).run P w=.ok a.isNone w:=Uh w 9999 t e a n c h
 simp only[binOp];simp[this]
theorem yH (w:World) (t e:TypeId) (a:Option Addr) (n c:Nat) (h:P.underlying t=some (.slice e)):(binOp .neq t (.slice a n c) (.slice none 0 0)).run P w=.ok (.bool (!a.isNone)) w:=by
 have : (Op.equal t (.slice a n c) (.slice none 0 0)).run P w=.ok a.isNone w:=Uh w 9999 t e a n c h
 simp only[binOp];simp[this]
theorem lN {op:BinOp} {t:TypeId} {a:Option Addr} {n c:Nat} {r:Bool} {p:PV} (h:GT op (Ae P t != 0) r=some p) (hr:r=a.isNone) :
  ∃ v,(binOp op t (.slice a n c) (.slice none 0 0)).run P w=.ok v w/\VR C v p:=by
 obtain ⟨hz,h⟩:=Ks h
 obtain ⟨e,_,_,he,_⟩:=BC (t:=t) rfl (Nat.pos_of_ne_zero (by simpa using hz))
 subst hr
 rcases h with ⟨rfl,rfl⟩ | ⟨rfl,rfl⟩
 .exact ⟨_,yG w t e a n c he,.bool _⟩
 .exact ⟨_,yH w t e a n c he,.bool _⟩
theorem Ke {w:World} {t:TypeId} {u v:Value} {a b:PV} {x:Bool} (hu':VR C u a) (hv':VR C v b) (hxx:NL P t a b=some x) (d:Nat):(jf (d+1) t u v).run P w=.ok x w:=by
 unfold NL at hxx
 split at hxx
 .rename_i kk k a' k' b' hty
  have e1:=Cr hu'
  have e2:=Cr hv'
  subst e1 e2
  split at hxx
  .rename_i hk
   subst hk
   simp only[bp]at hxx;subst hxx
   exact run_equalIn_int w d t _ _ _ _ hty
  .cases hxx
 .rename_i a' b' hty
  have e1:=Du hu'
  have e2:=Du hv'
  subst e1 e2
  simp only[bp]at hxx;subst hxx
  exact run_equalIn_bool' w d t _ _ hty
 .cases hxx
theorem Nu {w:World} {xs ys:Array Value} {l m:List PV} (hx:VR C (.agg xs) (.agg l)) (hy:VR C (.agg ys) (.agg m)) (d:Nat):∀(fs:List Field) (r:Bool),TZ P l m fs=some r->(jg (d+1) xs ys fs).run P w=.ok r w
 | [],r,h=>by simp only[TZ,bp]at h;subst h;simp[jg]
 | f :: fs,r,h=>by
  simp only[TZ]at h
  split at h
  .cases h
  .rename_i hn
   split at h
   .rename_i z a b ht ha hb
    simp only[au,az]at h
    obtain ⟨x,hxx,y,hyy,rfl⟩:=h
    have gx:xs.size=l.length/\(∀c∈l,c.isCell=true)/\∀i p,l[i]?=some p->VR C (xs.getD i undef) p:=by
     cases hx with
     | agg cs l hn hc h=>exact⟨hn,hc,h⟩
    have gy:ys.size=m.length/\(∀c∈m,c.isCell=true)/\∀i p,m[i]?=some p->VR C (ys.getD i undef) p:=by
     cases hy with
     | agg cs l hn hc h=>exact⟨hn,hc,h⟩
    obtain ⟨u,hu,hu'⟩:=Er (w:=w) gx.1 gx.2.1 gx.2.2 ht (off:=f.offset) (p:=a) (by simpa [CV]using ha)
    obtain ⟨v,hv,hv'⟩:=Er (w:=w) gy.1 gy.2.1 gy.2.2 ht (off:=f.offset) (p:=b) (by simpa [CV]using hb)
    have ih:=Nu (w:=w) hx hy d fs y hyy
    have he:(jf (d+1) f.type u v).run P w=.ok x w:=Ke hu' hv' hxx d
    simp only[jg,ne_eq,hn,not_false_eq_true,if_true,bf,hu,hv,he,jh]
    cases x
    .simp
    .simp [ih]
   .cases h
theorem Nv {w:World} {xs ys:Array Value} {l m:List PV} (hx:VR C (.agg xs) (.agg l)) (hy:VR C (.agg ys) (.agg m)) {e:TypeId} (ht:Bv P e=some (1,false)) (d:Nat):∀(l' m':List PV) (j:Nat) (r:Bool),l.drop j=l'->m.drop j=m'->Oj P e l' m'=some r->(ji (d+1) e 1 xs ys (List.range' j l'.length)).run P w=.ok r w
 | [],[],j,r,_,_,h=>by simp only[Oj,bp]at h;subst h;simp[ji]
 | [],_::_,j,r,_,_,h=>by simp[Oj]at h
 | _::_,[],j,r,_,_,h=>by simp[Oj]at h
 | a::l',b::m',j,r,h1,h2,h=>by
  simp only[Oj,au,az]at h
  obtain ⟨x,hxx,y,hyy,rfl⟩:=h
  have ha:l[j]?=some a:=by
   have := congrArg (λz=>z[0]?) h1
   simpa [bv]using this
  have hb:m[j]?=some b:=by
   have := congrArg (λz=>z[0]?) h2
   simpa [bv]using this
  have g1:l.drop (j+1)=l':=by rw[<-jk,h1];rfl
  have g2:m.drop (j+1)=m':=by rw[<-jk,h2];rfl
  have gx:xs.size=l.length/\(∀c∈l,c.isCell=true)/\∀i p,l[i]?=some p->VR C (xs.getD i undef) p:=by
   cases hx with
   | agg cs l hn hc h=>exact⟨hn,hc,h⟩
  have gy:ys.size=m.length/\(∀c∈m,c.isCell=true)/\∀i p,m[i]?=some p->VR C (ys.getD i undef) p:=by
   cases hy with
   | agg cs l hn hc h=>exact⟨hn,hc,h⟩
  obtain ⟨u,hu,hu'⟩:=Er (w:=w) gx.1 gx.2.1 gx.2.2 ht (off:=j) (p:=a) (by simpa [CV]using ha)
  obtain ⟨v,hv,hv'⟩:=Er (w:=w) gy.1 gy.2.1 gy.2.2 ht (off:=j) (p:=b) (by simpa [CV]using hb)
  have ih:=Nv (w:=w) hx hy ht d l' m' (j+1) y g1 g2 hyy
  have he:(jf (d+1) e u v).run P w=.ok x w:=Ke hu' hv' hxx d
  simp only[List.length_cons,List.range'_succ,ji,Nat.mul_one,bf,hu,hv,he,jh]
  cases x
  .simp
  .simp [ih]
theorem WM {op:BinOp} {t:TypeId} {x y:Value} {px py p:PV} (hx:VR C x px) (hy:VR C y py) (h:BU P op t px py=some p) :
  (∃ v,(binOp op t x y).run P w=.ok v w/\VR C v p)/\(∀ox oy,(eqGuard op t ox oy x y).run P w=.ok () w):=by
 have guard:(∀cs,x≠.agg cs)->x≠.nilIface->∀ox oy,(eqGuard op t ox oy x y).run P w=.ok () w:=by
  intro h1 h2 ox oy
  cases op <;> cases x <;> first | (simp[eqGuard];done) | (exact absurd rfl h2) | (exact absurd rfl (h1 _))
 unfold BU at h
 split at h
 .have ex:=Cr hx
  have ey:=Cr hy
  subst ex ey
  exact ⟨WL h,guard (by intro cs h;cases h) (by intro h;cases h)⟩
 .obtain ⟨a,rfl,ea,_⟩:=R7 hx
  obtain ⟨b,rfl,eb,_⟩:=R7 hy
  subst ea eb
  exact ⟨Qp h,guard (by intro cs h;cases h) (by intro h;cases h)⟩
 .rename_i a b
  have ex:=Du hx
  have ey:=Du hy
  subst ex ey
  refine ⟨?_,guard (by intro cs h;cases h) (by intro h;cases h)⟩
  obtain ⟨hb,h⟩:=Ks h
  rcases h with ⟨rfl,rfl⟩ | ⟨rfl,rfl⟩
  .exact ⟨_,run_eql_bool w t a b (Lb hb),.bool _⟩
  .exact ⟨_,run_neq_bool w t a b (Lb hb),.bool _⟩
 .cases hx
  cases hy
  exact ⟨lN h rfl,guard (by intro cs h;cases h) (by intro h;cases h)⟩
 .cases hy
  cases hx with
  | lits b o size cap _ hcap hmax hszz hl hi' hv=>exact⟨lN h rfl,guard (by intro cs h;cases h) (by intro h;cases h)⟩
 .rename_i l m
  split at h
  .rename_i hc
   simp only[au]at h
   obtain ⟨r,hr,h⟩:=h
   obtain ⟨hb,h⟩:=Ks h
   obtain ⟨xs,rfl⟩:∃xs,x=.agg xs:=by cases hx;exact⟨_,rfl⟩
   obtain ⟨ys,rfl⟩:∃ys,y=.agg ys:=by cases hy;exact⟨_,rfl⟩
   have he:(jf 10000 t (.agg xs) (.agg ys)).run P w=.ok r w:=by
    by_cases hb:Ok P t=true
    .rw [if_pos hb]at hr
     have ht:P.underlying t=some (.struct (P.fieldsOf t)):=by
      unfold Ok at hb
      unfold Program.fieldsOf
      split at hb
      .rename_i fs hfs;rw[hfs]
      .cases hb
     rw [run_equalIn_agg w 9999 t xs ys ht hc.1]
     exact Nu hx hy 9998 _ r hr
    .rw [if_neg hb]at hr
     unfold Agf at hr
     split at hr
     .rename_i n e hu
      split at hr
      .rename_i hcc
       obtain ⟨c1,c2,c3,c4⟩:=hcc
       obtain ⟨i,hi⟩:=aa.1 c3
       rw [run_equalIn_array w 9999 xs ys hu hi,c1,List.range_eq_range']
       have := Nv (w:=w) hx hy c2 9998 l m 0 r rfl rfl hr
       rwa [c4]at this
      .cases hr
     .cases hr
   refine ⟨?_,λox oy=>run_eqGuard_agg w op t ox oy xs ys hc.2⟩
   rcases h with ⟨rfl,rfl⟩ | ⟨rfl,rfl⟩
   .exact ⟨_,by rw[run_eql_struct,he];rfl,.bool _⟩
   .exact ⟨_,by rw[run_neq_struct,he];rfl,.bool _⟩
  .cases h
 .cases h
theorem bT {op:UnOp} {x:Value} {px p:PV} (hx:VR C x px) (h:unP op px=some p):∃v,(jn op x).run P w=.ok v w/\VR C v p:=by
 unfold unP at h
 split at h
 .have ex:=Cr hx;subst ex
  simp only[bp]at h;subst h
  exact ⟨_,by simp[jn,Op.intArith],.int _ _⟩
 .have ex:=Du hx;subst ex
  simp only[bp]at h;subst h
  exact ⟨_,by simp[jn],.bool _⟩
 .have ex:=Cr hx;subst ex
  simp only[Cw,Option.map_some,bp]at h;subst h
  exact ⟨_,by simp[jn,Op.intBits],.int _ _⟩
 .cases h
theorem Nw {t:TypeId} {k:IntKind} (h:Gn P t=some k):P.underlying t=some (.int k):=by
 unfold Gn at h;split at h
 .simp at h;subst h;assumption
 .cases h
theorem Ui {s t:TypeId} {x:Value} {px p:PV} (hx:VR C x px) (h:QO P s t px=some p):∃v,(convert s t x).run P w=.ok v w/\VR C v p:=by
 unfold QO at h
 split at h
 .have ex:=Cr hx;subst ex
  simp only[au,bp]at h
  obtain ⟨k,hk,k',hk',rfl⟩:=h
  exact ⟨_,by simp[convert,run_underlying (Nw hk),run_underlying (Nw hk'),Conv.intToInt],.int _ _⟩
 .split at h
  .rename_i hc
   simp only[bp]at h;subst h
   obtain ⟨b,rfl,eb⟩:=R7 hx
   exact ⟨_,by simp[convert,run_underlying (DQ hc.1),run_underlying (DQ hc.2)],.str _ _ eb.1 eb.2⟩
  .cases h
 .cases h
theorem Lc {mx:Bool} {x y:Value} {px py p:PV} (hx:VR C x px) (hy:VR C y py) (h:Gp mx px py=some p) (ts:Array TypeId) (t:TypeId) :
  ∃ v,((if mx then Builtin.max_ ts t #[x,y]else Builtin.min_ ts t #[x,y]):Sem Value).run P w=.ok v w/\VR C v p:=by
 unfold Gp at h
 split at h
 .have ex:=Cr hx;have ey:=Cr hy
  subst ex ey
  split at h
  .rename_i hk;subst hk
   simp only[bp]at h;subst h
   cases mx
   .exact ⟨_,run_min_int2 w ts t _ _ _ _,.int _ _⟩
   .exact ⟨_,run_max_int2 w ts t _ _ _ _,.int _ _⟩
  .cases h
 .cases h
def Res (P:Program) (r:Result Next) (R:Value->World->Prop):Prop :=
 match r with
 | .ok (.value v) w'=>R v w'
 | .ok .skip w'=>R undef w'
 | .ok (.enter f args) w'=>Calls P f args w' λe w''=>∃v,e=.returned v/\R v w''
 | _=>False
def DE (P : Program) (f : FuncId) : Prop := ∃ fn, P.funcs[f]? = some fn ∧ fn.body.isSome = true ∧ (fn.name == "runtime.NumGoroutine") = false
def IXC (P:Program) (f:FuncId) (args:List PV) (st:Store) (Q:PV->Store->Prop):Prop :=
 DE P f/\∀C w (vals:Array Value),Inv C st w->VRs C vals args->Calls P f vals w λe w'=>∃v C' r st',e=.returned v/\C.le C'/\Inv C' st' w'/\VR C' v r/\Q r st'
where VRs (C:Ctx) (vals:Array Value) (args:List PV):Prop:=vals.size=args.length/\∀(i:Nat) (p:PV),args[i]?=some p->VR C (vals.getD i undef) p
def Fb (X:Cfg):Prop:=∀f args st r st',X.tab f args st=some (r,st')->IXC X.P f args st λr' st''=>r'=r/\st''=st'
theorem Fk {f:FuncId} {args:Array Value} (h:DE P f):(callFunc f args).run P w=.ok (.enter f args) w:=by
 obtain ⟨fn,h1,h2,h3⟩:=h
 have h4 : ¬ fn.name = "runtime.NumGoroutine" := by simpa using h3
 have h5:fn.body≠none:=by intro e;simp[e]at h2
 simp [callFunc,h1,h4,h5]
theorem Res.value {s:Sem Value} {v:Value} {w':World} {R:Value->World->Prop} (h:s.run P w=.ok v w') (hr:R v w'):Res P ((do let x <-s;pure (Next.value x):Sem Next).run P w) R:=by
 simp only[bf,h,bg,c8,Res];exact hr
theorem Res.unit {s:Sem Unit} {w':World} {R:Value->World->Prop} (h:s.run P w=.ok () w') (hr:R undef w'):Res P ((do s;pure Next.skip:Sem Next).run P w) R:=by
 simp only[bf,h,bg,c8,Res];exact hr
def Post (C:Ctx) (st':Store) (p:PV) (v:Value) (w':World):Prop:=∃C',C.le C'/\Inv C' st' w'/\VR C' v p
theorem Post.same (hi:Inv C st w) {v:Value} {p:PV} (h:VR C v p):Post C st p v w:=⟨C,fg C,hi,h⟩
theorem yJ {t:TypeId} {x:Value} {px p:PV} {st':Store} (hi:Inv C st w) (hx:VR C x px) (h:bN P st t px=some (p,st')):Res P ((do let v <-Instr.sliceAt t x none none none;pure (Next.value v):Sem Next).run P w) (Post C st' p):=by
 unfold bN at h
 split at h
 .rename_i id gen idx off
  simp only[au]at h
  obtain ⟨⟨z,es⟩,ho,⟨n,m⟩,har,h⟩:=h
  dsimp only at h
  split at h
  .rename_i hc
   obtain ⟨rfl,hidx,hp,hoff,h0,hmx⟩:=hc
   simp only[bp,c9]at h
   obtain ⟨rfl,rfl⟩:=h
   obtain ⟨h1,h2,h3⟩:=hi.without [id]
   obtain ⟨L,hL,hb,hg,hLz,hz,hcap,hat⟩:=hi.arr ho
   have hvp:VR (C.closeIn [id] w) x (.vptr (nth es idx).cells off):=by
    cases hx with
    | ptr _ _ _ _ _ _ _ _ hr =>
     rw [hr L hL hg.symm]
     obtain ⟨k1,k2,cs,T,k3,k4,k5⟩:=hat (by omega)
     obtain ⟨m1,m2,m3⟩:=k5 idx _ (Dg hidx)
     have hmb:=Bm (z:=L.size) hidx hcap
     have himm:∀j,j<(nth es idx).cells.length->(C.closeIn [id] w).imm L.blk (L.off+idx*L.size+j)=some (cs.getD (L.off+idx*L.size+j) undef):=λj hj=>by
      have hlt:L.off+idx*L.size+j<cs.size:=by omega
      refine h3 id L (by simp) hL (by omega) _ _ ?_
      rw [FE k3,bz hlt]
      simp [Array.getD,hlt]
     refine .vptr L.blk (L.off+idx*L.size) off _ m2 (λj hj=>by rw[himm j hj];rfl) (λj c hj=>?_)
     have hjl:j<(nth es idx).cells.length:=(ab.1 hj).1
     rw [himm j hjl]
     exact (m3 j c hj).mono h1
   have hq:CE (st.without [id]) (Ae P t) (AT P t) (BB P t) (.vptr (nth es idx).cells off) none none=some (.lits 1 (((nth es idx).cells.drop off).take n)):=by
    simp only[CE,har,aw]
    rw [if_pos ⟨trivial,trivial,trivial,hoff,h0,hmx⟩]
   obtain ⟨v,hv,hv'⟩:=Nq (P:=P) h2 hvp (t:=t) (lo:=none) (hii:=none) (λd=>.inl ⟨rfl,rfl⟩) (λd=>.inl ⟨rfl,rfl⟩) hq
   exact Res.value hv ⟨_,h1,h2,hv'⟩
  .cases h
 .cases h
theorem Uj {t:TypeId} {z:Nat} {ag:Bool} {x:Value} {px q:PV} (hi:Inv C st w) (hx:VR C x px) (ht:Bv P t=some (z,ag)) (hq:Ds st z ag px=some q) :
  ∃ a u,x=.pointer (some a)/\(loadVar t a).run P w=.ok u w/\VR C u q:=by
 have hp:∃cells off,Mn C w x cells off/\CV cells off z ag=some q:=by
  unfold Ds at hq
  split at hq
  .exact ⟨_,_,Gq hi hx,hq⟩
  .rename_i id gen idx off
   simp only[au]at hq
   obtain ⟨⟨z',es⟩,hes,hq⟩:=hq
   have hne:(nth es idx).cells ≠ []:=by
    intro e0
    obtain ⟨_,hpos,rfl,rfl⟩:=Eo ht
    simp only[CV,e0]at hq
    split at hq
    .split at hq
     .rename_i hle;simp at hle;omega
     .cases hq
    .simp at hq
   exact ⟨_,_,Km hi hx hes (RZ hne),hq⟩
  .cases hq
 obtain ⟨cells,off,hp,hq⟩:=hp
 obtain ⟨u,hu,hu'⟩:=Kn hp ht hq
 obtain ⟨b,o,rfl,_⟩:=hp
 refine ⟨_,u,rfl,?_,hu'⟩
 have e1:(bn t (.pointer (some ⟨b,o+off,none⟩))).run P w=(loadVar t ⟨b,o+off,none⟩).run P w:=by
  simp [bn,Instr.sureAddr]
 rw [<-e1];exact hu
theorem Uk {t:TypeId} {name:String} {f:Nat} {pr:Bool} {e:TypeId} (h:K4 P t name=some (f,pr,e)) :
  ∃ i m,P.info? t=some i/\P.underlying t=some (.pointer e)/\i.methods.find? (·.name==name)=some m/\m.path.isEmpty=true/\m.func=some (f,pr):=by
 unfold K4 at h
 split at h
 .rename_i i e' hi hu
  simp only[au]at h
  obtain ⟨m,hm,h⟩:=h
  split at h
  .rename_i hp
   simp only[az,c9]at h
   obtain ⟨⟨f',pr'⟩,hf,rfl,rfl,rfl⟩:=h
   exact ⟨i,m,hi,hu,hm,hp,hf⟩
  .cases h
 .cases h
theorem bU {x:Value} {px:PV} {name:String} {f:Nat} {r:PV} (hi:Inv C st w) (hx:VR C x px) (h:lJ P st px name=some (f,r)) :
  ∃ t u u',x=.iface t u/\(∀n,(method (n+1) t u name).run P w=.ok (f,u') w)/\VR C u' r:=by
 unfold lJ at h
 split at h
 .rename_i t v
  cases hx with
  | iface _ u _ hu =>
   simp only[au]at h
   obtain ⟨⟨f',pr,e⟩,hm,h⟩:=h
   obtain ⟨i,m,h1,h2,h3,h4,h5⟩:=Uk hm
   have hti:(typeInfo t).run P w=.ok i w:=by simp[typeInfo,h1]
   have hpe:m.path.toList = []:=by simpa using h4
   dsimp only at h
   split at h
   .rename_i hpr
    simp only[bp,c9]at h
    obtain ⟨rfl,rfl⟩:=h
    subst hpr
    refine ⟨t,u,u,rfl,λn=>?_,hu⟩
    simp only[method,bf,hti,bg,h3,hpe,follow,c8,h5,receiverAt,run_underlying h2,Place.get]
   .rename_i hpr
    simp only[au,az,c9]at h
    obtain ⟨⟨z,ag⟩,ht,q,hq,rfl,rfl⟩:=h
    have hpr:pr=false:=by simpa using hpr
    subst hpr
    obtain ⟨a,u',rfl,hl,hu'⟩:=Uj hi hu ht hq
    refine ⟨t,_,u',rfl,λn=>?_,hu'⟩
    have hck : ∀ ts t' n a, Builtin.ssaWrapNilChk_ ts t' #[.pointer (some a), strVal "", strVal n] = (pure (.pointer (some a)) : Sem Value) := fun _ _ _ _ => rfl
    simp only[method,bf,hti,bg,h3,hpe,follow,c8,h5,receiverAt,run_underlying h2,Place.get,h4,if_true,hck,asAddr,hl]
 .cases h
theorem Ul {X:Cfg} (hX:Fb X) {d:Nat} {n:Sem Next} {f':Nat} {fi ca:List PV} {ts:List TypeId} {args:Array Operand} {ρ:Operand->PV} {ev:Operand->Value} {p:PV} {st':Store} (hi:Inv C st w)
  (hev : ∀x,VR C (ev x) (ρ x)) {first captured:Array Value} (h1:first.size=fi.length) (h2:captured.size=ca.length) (h3:∀i p,fi[i]?=some p->VR C (first.getD i undef) p) (h4:∀i p,ca[i]?=some p->VR C (captured.getD i undef) p)
  (hrun : DE X.P f'->n.run X.P w=.ok (.enter f' (first++args.map ev++captured)) w) (h:DP X d (.func (.func f') fi ca) ts (args.toList.map ρ) st=some (p,st')):Res X.P (n.run X.P w) (Post C st' p):=by
 unfold DP at h
 dsimp only at h
 have hvals0:IXC.VRs C (first++args.map ev++captured) (fi++nrmAll X.P ts (args.toList.map ρ)++ca):=by
  refine ⟨by simp[h1,h2,Dv],λi q hq=>?_⟩
  simp only[List.append_assoc]at hq
  rcases Nat.lt_or_ge i fi.length with hi1 | hi1
  .rw [cq hi1]at hq
   have := h3 i q hq
   have e:(first++args.map ev++captured).getD i undef=first.getD i undef:=by
    simp only[fd,jo]
    rw [jp (by omega)]
   rw [e];exact this
  .rw [ct hi1]at hq
   rcases Nat.lt_or_ge (i-fi.length) args.size with hi2 | hi2
   .rw [cq (by simpa [Dv]using hi2)]at hq
    have e:(first++args.map ev++captured).getD i undef=(args.map ev).getD (i-fi.length) undef:=by
     simp only[fd,jo]
     rw [jq (by omega),h1,jp (by simpa using hi2)]
    rw [e]
    refine VR.nrmAll (P:=X.P) (vals:=λi=>(args.map ev).getD i undef) (λj p hp=>?_) _ q hq
    simp only[bw,az]at hp
    obtain ⟨x,hx,rfl⟩:=hp
    have e:(args.map ev).getD j undef=ev x:=by
     rw [bx]at hx
     simp [fd,hx]
    rw [e];exact hev x
   .rw [ct (by simpa [Dv]using hi2)]at hq
    have hq':ca[i-fi.length-args.size]?=some q:=by simpa [Dv]using hq
    have := h4 _ q hq'
    have e:(first++args.map ev++captured).getD i undef=captured.getD (i-fi.length-args.size) undef:=by
     simp only[fd,jo]
     rw [jq (by omega),h1,jq (by simpa using hi2)]
     simp
    rw [e];exact this
 obtain ⟨C1,st1,as,hC1,hi,hvals,h⟩:∃C1 st1 as,C.le C1/\Inv C1 st1 w/\IXC.VRs C1 (first++args.map ev++captured) as/\X.tab f' as st1=some (p,st'):=by
  split at h
  .split at h
   .split at h
    .simp only[au]at h
     obtain ⟨as,has,h⟩:=h
     obtain ⟨g1,g2⟩:=hi.again [X.num d-1]
     obtain ⟨g4,g5⟩:=js hi _ has hvals0.2
     refine ⟨_,st.again (X.num d-1),as,g1,?_,⟨by rw[hvals0.1,g4],g5⟩,h⟩
     have e:st.again (X.num d-1)=⟨λi=>if [X.num d-1].contains i=true then (st.obj i).bind CG else st.obj i,st.next⟩:=by
      unfold Store.again
      congr 1
      funext i
      by_cases hc:i=X.num d-1
      .subst hc;simp[Ab]
      .simp [Ab,hc]
     rw [e];exact g2
    .cases h
   simp only[au]at h
   obtain ⟨as,has,h⟩:=h
   split at h
   .obtain ⟨g1,g2,g3⟩:=hi.without (D8 (fi++nrmAll X.P ts (args.toList.map ρ)++ca))
    obtain ⟨g4,g5⟩:=VR.freezeAll hi _ has hvals0.2
    exact ⟨_,_,as,g1,g2,⟨by rw[hvals0.1,g4],g5⟩,h⟩
   .obtain ⟨g1,g2⟩:=hi.seal (D8 (fi++nrmAll X.P ts (args.toList.map ρ)++ca))
    obtain ⟨g4,g5⟩:=js hi _ has hvals0.2
    exact ⟨_,_,as,g1,g2,⟨by rw[hvals0.1,g4],g5⟩,h⟩
  .split at h
   .cases h
   .exact ⟨C,st,_,fg C,hi,hvals0,h⟩
 obtain ⟨hen,hcall⟩:=hX _ _ _ _ _ h
 have hc:=hcall C1 w _ hi hvals
 rw [hrun hen]
 refine Calls.mono hc λe w' he=>?_
 obtain ⟨v,C',r,st1,rfl,h5,h6,h7,rfl,rfl⟩:=he
 exact ⟨v,rfl,C',hC1.trans h5,h6,h7⟩
theorem bV {X:Cfg} (hX:Fb X) {d:Nat} {o:Oper} {ρ:Operand->PV} {p:PV} {st':Store} (h:iop X d o.op ρ st=some (p,st')) (hi:Inv C st w) {ev:Operand->Value}
  (hev : ∀x,VR C (ev x) (ρ x)):Res X.P ((execOp ev o).run X.P w) (Post C st' p):=by
 obtain ⟨dst,op,ty,pos,after,guard⟩:=o
 dsimp only at h
 cases op <;> simp only[iop]at h <;> first | (cases h;done) | skip
 case move x =>
  simp only[bp,c9]at h;obtain⟨rfl,rfl⟩:=h
  exact Post.same hi (hev x)
 case assign x =>
  simp only[bp,c9]at h;obtain⟨rfl,rfl⟩:=h
  exact Post.same hi (hev x)
 case pick c a b =>
  split at h
  .rename_i v hc
   simp only[bp,c9]at h;obtain⟨rfl,rfl⟩:=h
   have hcv:=hev c
   rw [hc]at hcv
   have := Du hcv
   simp only[execOp,this,asBool,bf,c8,bg,Res]
   cases v
   .exact Post.same hi (hev b)
   .exact Post.same hi (hev a)
  .cases h
 case alloc t =>
  split at h
  .rename_i hc
   obtain ⟨h1,h2⟩:=hc
   obtain ⟨i,hin,hsz⟩:=Ka h1
   have hz:∃zv,i.zero=some zv/\Az X.P t=Bn zv:=by
    unfold Az at h2 ⊢
    cases hz:i.zero with
    | none=>simp[hin,hz,PV.cells]at h2;omega
    | some zv=>exact⟨zv,rfl,by simp[hin,hz]⟩
   obtain ⟨zv,hzv,hz0⟩:=hz
   rw [hz0]at h2 h
   split at h
   rotate_left
   .unfold Store.reP at h
    split at h
    .rename_i g z0 es0 ho
     simp only[bp,c9]at h;obtain⟨rfl,rfl⟩:=h
     obtain ⟨C',a,b,c⟩:=T3 hi (CH (C:=C) zv) (by omega) t ho
     rw [h2]at b
     exact Res.value (QT t i zv hin hzv) ⟨C',a,b,c⟩
    .cases h
   simp only[bp,c9]at h;obtain⟨rfl,rfl⟩:=h
   obtain ⟨C',a,b,c⟩:=K5 hi (CH (C:=C) zv) (by omega) t
   rw [h2]at b
   exact Res.value (QT t i zv hin hzv) ⟨C',a,b,c⟩
  .cases h
 case box t x =>
  split at h
  .rename_i hc
   split at h
   .simp only[bp,c9]at h;obtain⟨rfl,rfl⟩:=h
    obtain ⟨C',a,b,c⟩:=K5 hi (hev x) hc t
    exact Res.value (Zb t (ev x)) ⟨C',a,b,c⟩
   .simp only[bp,c9]at h;obtain⟨rfl,rfl⟩:=h
    obtain ⟨C',a,b,c⟩:=bP hi (hev x) hc t
    exact Res.value (Zb t (ev x)) ⟨C',a,b,c⟩
  .cases h
 case build t parts =>
  simp only[az,c9]at h
  obtain ⟨q,hq,rfl,rfl⟩:=h
  obtain ⟨v,hv,hv'⟩:=T9 (P:=X.P) (w:=w) (C:=C) (parts:=parts.map λ(i,x)=>(i,ev x)) (by simp) (λk i v j p h1 h2=>by
   simp only[jt,bw,az,c9]at h1 h2
   obtain ⟨⟨a,b⟩,e1,rfl,rfl⟩:=h1
   obtain ⟨⟨a',b'⟩,e2,rfl,rfl⟩:=h2
   rw [e1]at e2;cases e2
   exact ⟨rfl,hev b⟩) hq
  exact Res.value hv (Post.same hi hv')
 case buildSlice t len parts =>
  split at h
  .rename_i hc
   simp only[au]at h
   obtain ⟨l,hl,he⟩:=h
   obtain ⟨v,w',hv,h1,h2,h3⟩:=Mo (P:=X.P) hi (parts:=parts.map λ(i,x)=>(i,ev x)) (by simp) (λk i v j p h1 h2=>by
    simp only[jt,bw,az,c9]at h1 h2
    obtain ⟨⟨a,b⟩,e1,rfl,rfl⟩:=h1
    obtain ⟨⟨a',b'⟩,e2,rfl,rfl⟩:=h2
    rw [e1]at e2;cases e2
    exact ⟨rfl,hev b⟩) hc.1 hc.2 hl
   split at he
   .split at he
    .simp only[bp,c9]at he;obtain⟨rfl,rfl⟩:=he
     exact Res.value hv h2
    .unfold Store.re at he
     split at he
     .rename_i g z0 es0 ho
      simp only[bp,c9]at he;obtain⟨rfl,rfl⟩:=he
      exact Res.value hv (h3 _ _ _ _ ho)
     .cases he
   .simp only[bp,c9]at he;obtain⟨rfl,rfl⟩:=he
    exact Res.value hv h1
  .cases h
 case load t x =>
  simp only[au,az,c9]at h
  obtain ⟨⟨z,ag⟩,ht,q,hq,rfl,rfl⟩:=h
  replace hq:=bO hq
  have hx:=hev x
  have hp:∃cells off,Mn C w (ev x) cells off/\CV cells off z ag=some q:=by
   unfold Ds at hq
   split at hq
   .rename_i hr;rw[hr]at hx
    exact ⟨_,_,Gq hi hx,hq⟩
   .rename_i id gen idx off hr
    rw [hr]at hx
    simp only[au]at hq
    obtain ⟨⟨z',es⟩,hes,hq⟩:=hq
    have hne:(nth es idx).cells ≠ []:=by
     intro e0
     obtain ⟨_,hpos,rfl,rfl⟩:=Eo ht
     simp only[CV,e0]at hq
     split at hq
     .split at hq
      .rename_i hle;simp at hle;omega
      .cases hq
     .simp at hq
    exact ⟨_,_,Km hi hx hes (RZ hne),hq⟩
   .cases hq
  obtain ⟨cells,off,hp,hq⟩:=hp
  obtain ⟨u,hu,hu'⟩:=Kn hp ht hq
  exact Res.value hu (Post.same hi hu')
 case store t a x =>
  split at h
  .cases h
  simp only[az,c9]at h
  obtain ⟨st1,hst,rfl,rfl⟩:=h
  obtain ⟨w',C',h1,h2,h3⟩:=T4 hi (hev a) (hev x) hst
  exact Res.unit h1 ⟨C',h2,h3,.bad _⟩
 case nilCheck x =>
  have hx:=hev x
  split at h
  .rename_i hr
   simp only[bp,c9]at h;obtain⟨rfl,rfl⟩:=h
   rw [hr]at hx
   obtain ⟨b,o,he,_⟩:=Gq hi hx
   simp only[execOp,he]
   rw [he]at hx
   exact Post.same hi hx
  .rename_i id g xx o hr
   rw [hr]at hx
   simp only[az,c9]at h
   obtain ⟨⟨z,es⟩,hes,rfl,rfl⟩:=h
   obtain ⟨L,hL,_,hg,_⟩:=hi.arr (Jo _ _ _ hes)
   have : ∃a,ev x=.pointer (some a):=by
    generalize ev x=vx at hx
    cases hx with
    | ptr _ _ _ _ _ hv hb hg' h'=>exact⟨_,h' L hL hg.symm⟩
   obtain ⟨a,ha⟩:=this
   simp only[execOp,ha]
   rw [ha]at hx
   exact Post.same hi hx
  .cases h
 case binOp op t x y _ =>
  simp only[az,c9]at h
  obtain ⟨q,hq,rfl,rfl⟩:=h
  obtain ⟨⟨v,hv,hv'⟩,hg⟩:=WM (w:=w) (hev x) (hev y) hq
  refine Res.value (v:=v) (w':=w) ?_ (Post.same hi hv')
  simp only[bf,hg,bg,hv]
 case unOp op _ x =>
  simp only[az,c9]at h
  obtain ⟨q,hq,rfl,rfl⟩:=h
  obtain ⟨v,hv,hv'⟩:=bT (P:=X.P) (w:=w) (hev x) hq
  exact Res.value hv (Post.same hi hv')
 case convert s t x =>
  simp only[az,c9]at h
  obtain ⟨q,hq,rfl,rfl⟩:=h
  obtain ⟨v,hv,hv'⟩:=Ui (w:=w) (hev x) hq
  exact Res.value hv (Post.same hi hv')
 case makeFunc fn first captured =>
  simp only[bp,c9]at h;obtain⟨rfl,rfl⟩:=h
  have hm:∀(a:Array Operand),(a.map ev).size=(a.toList.map ρ).length/\∀(i:Nat) (p:PV),(a.toList.map ρ)[i]?=some p->VR C ((a.map ev).getD i undef) p:=λa=>by
   refine ⟨by simp,λi p hp=>?_⟩
   simp only[bw,az]at hp
   obtain ⟨x,hx,rfl⟩:=hp
   have hlt:i<a.size:=by have:=(ab.1 hx).1;simpa using this
   have : a[i]=x:=by
    have :=(ab.1 hx).2;simpa using this
   have e:(a.map ev).getD i undef=ev x:=by simp[Array.getD,hlt,this]
   rw [e];exact hev x
  refine Res.value (v:=.func fn (first.map ev) (captured.map ev)) (w':=w) (by simp[Instr.makeFunc]) (Post.same hi ?_)
  exact .func _ _ _ _ _ (hm first).1 (hm captured).1 (hm first).2 (hm captured).2
 case makeMap t r =>
  simp only[au,az,c9]at h
  obtain ⟨⟨mk,z⟩,ht,n,hr,rfl,rfl⟩:=h
  obtain ⟨kt,et,i,zv,h1,h2,h3,_,h5⟩:=DT ht
  obtain ⟨q1,q2⟩:=Qn hi mk
  refine Res.value (v:=.map (some w.heap.size)) (w':=w.alloc (.map #[] 0)) ?_ ⟨_,q1,q2,Uf hi⟩
  cases r with
  | none=>simp[ju]
  | some r =>
   have hev':=hev r
   dsimp only at hr
   cases hp:ρ r <;> rw[hp]at hr <;> simp only[Df,reduceCtorEq]at hr
   rw [hp]at hev'
   have := Cr hev'
   simp [ju,run_underlying h1,this,asInt,asIntOf]
 case insert t m k v =>
  simp only[az,c9]at h
  obtain ⟨st1,hst,rfl,rfl⟩:=h
  obtain ⟨w',C',h1,h2,h3⟩:=K9 (P:=X.P) hi (hev m) (hev k) (hev v) hst
  exact Res.unit h1 ⟨C',h2,h3,.bad _⟩
 case mapUpdate t m k v =>
  simp only[az,c9]at h
  obtain ⟨st1,hst,rfl,rfl⟩:=h
  obtain ⟨w',C',h1,h2,h3⟩:=K9 (P:=X.P) hi (hev m) (hev k) (hev v) hst
  exact Res.unit h1 ⟨C',h2,h3,.bad _⟩
 case mapEntry t m k =>
  obtain ⟨v,w',C',h1,h2,h3,h4⟩:=Qm (P:=X.P) hi (hev m) (hev k) h
  exact Res.value h1 ⟨C',h2,h3,h4⟩
 case entryStore t m s x =>
  simp only[az,c9]at h
  obtain ⟨st1,hst,rfl,rfl⟩:=h
  obtain ⟨w',C',h1,h2,h3⟩:=Ot (P:=X.P) (t:=t) hi (hev m) (hev s) (hev x) hst
  exact Res.unit h1 ⟨C',h2,h3,.bad _⟩
 case lookup t m k ok =>
  simp only[az,c9]at h
  obtain ⟨q,hq,rfl,rfl⟩:=h
  obtain ⟨v,hv,hv'⟩:=Sa (P:=X.P) hi (hev m) (hev k) hq
  exact Res.value hv (Post.same hi hv')
 case range t m =>
  obtain ⟨v,w',C',h1,h2,h3,h4⟩:=Ov (P:=X.P) hi (hev m) h
  exact Res.value h1 ⟨C',h2,h3,h4⟩
 case entry x =>
  simp only[az,c9]at h
  obtain ⟨q,hq,rfl,rfl⟩:=h
  obtain ⟨v,hv,hv'⟩:=Ow (P:=X.P) hi (hev x) hq
  exact Res.value hv (Post.same hi hv')
 case makeSlice t l c =>
  split at h
  .rename_i n m hn hm
   split at h
   .rename_i hc
    have h1:=hev l;have h2:=hev c
    rw [hn]at h1;rw[hm]at h2
    have e1:=Cr h1;have e2:=Cr h2
    obtain ⟨v,w',C',g1,g2,g3,g4,g5,g6⟩:=WG hi hc.1 hc.2.1 hc.2.2.1 hc.2.2.2
    split at h
    .split at h
     .simp only[bp,c9]at h;obtain⟨rfl,rfl⟩:=h
      exact Res.value (v:=v) (w':=w') (by rw[e1,e2];exact g1) g6
     simp only[bp,c9]at h;obtain⟨rfl,rfl⟩:=h
     exact Res.value (v:=v) (w':=w') (by rw[e1,e2];exact g1) ⟨C',g2,g3,g4⟩
    .unfold Store.re at h
     split at h
     .rename_i g z0 es0 ho
      simp only[bp,c9]at h;obtain⟨rfl,rfl⟩:=h
      exact Res.value (v:=v) (w':=w') (by rw[e1,e2];exact g1) (g5 _ _ _ _ ho)
     .cases h
   .cases h
  .cases h
 case slice t x lo hii mx =>
  cases mx with
  | some m=>simp at h
  | none =>
   dsimp only at h
   split at h
   .split at h
    .exact yJ hi (hev x) h
    .cases h
   have key:∃l hh:Option Int,lo.map (Df∘ρ)=l.map some/\hii.map (Df∘ρ)=hh.map some/\(CE (X.see d st) (Ae X.P t) (AT X.P t) (BB X.P t) (ρ x) l hh).map (λv=>(v,st))=some (p,st'):=by
    split at h
    .cases h
    .cases h
    .rename_i h1 h2
     refine ⟨(lo.map (Df∘ρ)).bind id,(hii.map (Df∘ρ)).bind id,?_,?_,h⟩
     .cases lo with
      | none=>rfl
      | some a=>cases ha:Df (ρ a)with
       | none=>exact absurd (by simp[ha]) h1
       | some n=>simp[ha]
     .cases hii with
      | none=>rfl
      | some a=>cases ha:Df (ρ a)with
       | none=>exact absurd (by simp[ha]) h2
       | some n=>simp[ha]
   obtain ⟨l,hh,h1,h2,h⟩:=key
   simp only[az,c9]at h
   obtain ⟨q,hq,rfl,rfl⟩:=h
   obtain ⟨v,hv,hv'⟩:=Nq (P:=X.P) hi (hev x) (lo:=lo.map ev) (hii:=hii.map ev) (λd=>lK (C:=C) (λy _=>hev y) h1 d) (λd=>lK (C:=C) (λy _=>hev y) h2 d) (WB hq)
   exact Res.value hv (Post.same hi hv')
 case fieldAddr t x f =>
  simp only[au]at h
  obtain ⟨⟨o,z,u⟩,hf,h⟩:=h
  dsimp only at h
  split at h
  .rename_i hz
   simp only[az,c9]at h
   obtain ⟨q,hq,rfl,rfl⟩:=h
   obtain ⟨b,k,he,hv⟩:=R3 hi (hev x) (WC hq)
   refine Res.value (v:=.pointer (some ⟨b,k+o,none⟩)) (w':=w) ?_ (Post.same hi hv)
   rw [he];exact R4 hf hz
  .cases h
 case field t x f =>
  split at h
  .rename_i cs hr
   simp only[au,az,c9]at h
   obtain ⟨⟨o,z',u⟩,hf,⟨z,ag⟩,hl,q,hq,rfl,rfl⟩:=h
   have hx:=hev x
   rw [hr]at hx
   obtain ⟨v,hv,hv'⟩:=T6 (w:=w) hx hf hl hq
   exact Res.value hv (Post.same hi hv')
  .cases h
 case indexAddr t x i =>
  split at h
  .rename_i k n hr
   simp only[az,c9]at h
   obtain ⟨q,hq,rfl,rfl⟩:=h
   have hx:=hev i
   rw [hr]at hx
   have e:=Cr hx
   obtain ⟨v,hv,hv'⟩:=T5 (k:=k) hi (hev x) (WA hq)
   exact Res.value (v:=v) (w':=w) (by rw[e];exact hv) (Post.same hi hv')
  .cases h
 case index t x i =>
  split at h
  .rename_i k n hr
   simp only[az,c9]at h
   obtain ⟨q,hq,rfl,rfl⟩:=h
   have hx:=hev i
   rw [hr]at hx
   have e:=Cr hx
   obtain ⟨v,hv,hv'⟩:=R5 (P:=X.P) (w:=w) (k:=k) (hev x) hq
   exact Res.value (v:=v) (w':=w) (by rw[e];exact hv) (Post.same hi hv')
  .cases h
 case extract x i =>
  split at h
  .rename_i vs hr
   simp only[az,c9]at h
   obtain ⟨q,hq,rfl,rfl⟩:=h
   have hx:=hev x
   rw [hr]at hx
   obtain ⟨v,hv,hv'⟩:=Qk (P:=X.P) (w:=w) hx hq
   exact Res.value hv (Post.same hi hv')
  .cases h
 case call c =>
  obtain ⟨callee,args,argTypes⟩:=c
  dsimp only at h
  split at h
  .rename_i f
   have hfc:∃f' fi ca,ρ f=.func (.func f') fi ca:=by
    unfold DP at h
    split at h
    .exact ⟨_,_,_,by assumption⟩
    .cases h
   obtain ⟨f',fi,ca,hr⟩:=hfc
   rw [hr]at h
   .have hf:=hev f
    rw [hr]at hf
    generalize hvf:ev f=vf at hf
    cases hf with
    | func fn first captured pf pc h1 h2 h3 h4 =>
     refine Ul hX hi hev h1 h2 h3 h4 (λhen=>?_) h
     simp only[execOp,resolve,hvf,Deferred.ofValue,bf,c8,bg,invoke]
     exact Fk hen
  .rename_i b
   unfold Bj at h
   split at h
   .rename_i t x hts has
    have e1:argTypes = #[t]:=by rw[<-jv];exact hts
    subst e1
    obtain ⟨ax,rfl,rfl⟩:∃ax,args = #[ax]/\ρ ax=x:=by
     match args,has with
     | ⟨[ax]⟩,has=>exact⟨ax,rfl,by simpa using has⟩
    simp only[az,c9]at h
    obtain ⟨n,hn,rfl,rfl⟩:=h
    have :=(show (Builtin.len_ #[t] ty #[ev ax]).run X.P w=.ok (.int .i64 n) w by
     split at hn
     .rename_i q hq;exact Sb (P:=X.P) hi hq (hev ax) hn
     .exact bQ (P:=X.P) (ty:=ty) hi (hev ax) (QR Jo hn))
    simp only[execOp,resolve,bf,c8,bg,invoke,builtin]
    have hm:(#[ax]:Array Operand).map ev = #[ev ax]:=by simp
    rw [hm,this]
    exact Post.same hi (.int _ _)
   .rename_i t u x y hts has
    have e1:argTypes = #[t,u]:=by rw[<-jv];exact hts
    subst e1
    obtain ⟨ax,ay,rfl,rfl,rfl⟩:∃ax ay,args = #[ax,ay]/\ρ ax=x/\ρ ay=y:=by
     match args,has with
     | ⟨[ax,ay]⟩,has=>exact⟨ax,ay,rfl,by simpa using has⟩
    split at h
    .rename_i hu
     replace hu:=hu.2
     simp only[au]at h
     obtain ⟨ys,hys,h⟩:=h
     obtain ⟨v,w',C',h1,h2,h3,h4⟩:=R6 (P:=X.P) (ty:=ty) hi (hev ax) (hev ay) hys hu.1 h
     simp only[execOp,resolve,bf,c8,bg,invoke,builtin]
     have hm:(#[ax,ay]:Array Operand).map ev = #[ev ax,ev ay]:=by simp
     rw [hm,h1]
     exact ⟨C',h2,h3,h4⟩
    .cases h
   .rename_i t u x y hts has
    have e1:argTypes = #[t,u]:=by rw[<-jv];exact hts
    subst e1
    obtain ⟨ax,ay,rfl,rfl,rfl⟩:∃ax ay,args = #[ax,ay]/\ρ ax=x/\ρ ay=y:=by
     match args,has with
     | ⟨[ax,ay]⟩,has=>exact⟨ax,ay,rfl,by simpa using has⟩
    simp only[az,c9]at h
    obtain ⟨⟨n,st1⟩,hn,rfl,rfl⟩:=h
    obtain ⟨w',C',h1,h2,h3⟩:=WK (P:=X.P) (u:=u) (ty:=ty) hi (hev ax) (hev ay) hn
    simp only[execOp,resolve,bf,c8,bg,invoke,builtin]
    have hm:(#[ax,ay]:Array Operand).map ev = #[ev ax,ev ay]:=by simp
    rw [hm,h1]
    exact ⟨C',h2,h3,.int _ _⟩
   .rename_i x y has
    obtain ⟨ax,ay,rfl,rfl,rfl⟩:∃ax ay,args = #[ax,ay]/\ρ ax=x/\ρ ay=y:=by
     match args,has with
     | ⟨[ax,ay]⟩,has=>exact⟨ax,ay,rfl,by simpa using has⟩
    simp only[az,c9]at h
    obtain ⟨q,hq,rfl,rfl⟩:=h
    obtain ⟨v,hv,hv'⟩:=Lc (P:=X.P) (w:=w) (hev ax) (hev ay) hq argTypes ty
    simp only[execOp,resolve,bf,c8,bg,invoke,builtin]
    have hm:(#[ax,ay]:Array Operand).map ev = #[ev ax,ev ay]:=by simp
    simp only[gu,if_false]at hv
    rw [hm,hv]
    exact Post.same hi hv'
   .rename_i x y has
    obtain ⟨ax,ay,rfl,rfl,rfl⟩:∃ax ay,args = #[ax,ay]/\ρ ax=x/\ρ ay=y:=by
     match args,has with
     | ⟨[ax,ay]⟩,has=>exact⟨ax,ay,rfl,by simpa using has⟩
    simp only[az,c9]at h
    obtain ⟨q,hq,rfl,rfl⟩:=h
    obtain ⟨v,hv,hv'⟩:=Lc (P:=X.P) (w:=w) (hev ax) (hev ay) hq argTypes ty
    simp only[execOp,resolve,bf,c8,bg,invoke,builtin]
    have hm:(#[ax,ay]:Array Operand).map ev = #[ev ax,ev ay]:=by simp
    simp only[if_true]at hv
    rw [hm,hv]
    exact Post.same hi hv'
   .cases h
  .rename_i recv m
   simp only[au]at h
   obtain ⟨⟨f',r⟩,hm,h⟩:=h
   obtain ⟨t,u,u',hx,hmeth,hu'⟩:=bU hi (hev recv) hm
   refine Ul (first := #[u']) (captured := #[]) hX hi hev rfl rfl (λi p hp=>?_) (λi p hp=>by simp at hp) (λhen=>?_) h
   .cases i with
    | zero=>simp at hp;subst hp;exact hu'
    | succ i=>simp at hp
   .have hme:=hmeth (X.P.types.size+99)
    have e0:((#[ev recv]:Array Value)++args.map ev)[0]?=some (ev recv):=by rw[jp (by simp)];rfl
    have e1:((#[ev recv]:Array Value)++args.map ev).extract 1 ((#[ev recv]:Array Value)++args.map ev).size=args.map ev:=by
     apply Array.ext'
     simp
     exact List.take_of_length_le (by simp)
    rw [hx]at e0 e1
    have e2:(Go.program).run X.P w=.ok X.P w:=rfl
    simp only[execOp,resolve,bf,c8,bg,invoke,hx,e0,callMethod,e1,e2]
    rw [show X.P.types.size+Made.depth=X.P.types.size+99+1 from rfl,hme]
    simp only[bg]
    rw [Array.append_empty]
    exact Fk hen
 case makeInterface t x =>
  split at h
  .rename_i hc
   obtain ⟨hc1,hc2⟩:=hc
   simp only[bp,c9]at h;obtain⟨rfl,rfl⟩:=h
   obtain ⟨u,hu⟩:=aa.1 hc2
   refine Res.value (v:=.iface t (ev x)) (w':=w) ?_ (Post.same hi (.iface _ _ _ (hev x)))
   unfold K1 at hc1
   rw [hu]at hc1
   unfold Instr.makeInterface
   simp only[bf,run_underlying hu,bg]
   split
   .simp at hc1
   .rfl
  .cases h
 case typeAssert x xt t ok =>
  cases ok with
  | true=>simp at h
  | false =>
   dsimp only at h
   split at h
   .rename_i t' v hr
    split at h
    .rename_i hc
     obtain ⟨rfl,hc1,hc2⟩:=hc
     simp only[bp,c9]at h;obtain⟨rfl,rfl⟩:=h
     obtain ⟨u,hu⟩:=aa.1 hc2
     have hx:=hev x
     rw [hr]at hx
     generalize hvx:ev x=vx at hx
     cases hx with
     | iface _ y _ hy =>
      refine Res.value (v:=y) (w':=w) ?_ (Post.same hi hy)
      unfold K1 at hc1
      rw [hu]at hc1
      rw [hvx]
      unfold Instr.typeAssert
      simp only[bf,run_underlying hu,bg]
      split
      .simp at hc1
      .simp at hc1
      .rename_i heq;cases heq
      .rename_i heq;cases heq;simp
      .rename_i h1 h2 h3;first | exact absurd rfl (h3 _ _) | exact absurd rfl (h2 _ _) | exact absurd rfl (h1 _ _) | exact absurd rfl (h3 _) | trace_state
    .cases h
   .cases h
end
structure IState where
 env : Nat->PV
 st : Store
def upd (ρ:Nat->PV) (d:Nat) (v:PV):Nat->PV:=λt=>if t=d then v else ρ t
theorem lO (ρ:Nat->PV) (d:Nat) (v:PV):upd ρ d v d=v:=by simp[upd]
theorem Ahb (ρ:Nat->PV) (d t:Nat) (v:PV) (h:(t==d)=false):upd ρ d v t=ρ t:=by
 have : t≠d:=by simpa using h
 simp [upd,this]
def DK (ops:Array Oper) (ρ:Nat->PV) (j:Nat):PV:=match (ops[j]?).bind (·.dst)with | some d=>ρ d | none=>.bad
def Bx (X:Cfg) (all:Array Oper) (o:Oper) (s:IState):Option (PV×Store) :=
 let go:=iop X (o.dst.getD 0) o.op (AA s.env) s.st
 match o.guard with
 | none=>go
 | some (j,want)=>match DK all s.env j with
  | .bool b=>if b=want then go else some (.tuple [],s.st)
  | .tuple []=>some (.tuple [],s.st)
  | _=>none
def Hs (N:Nat) (o:Oper) (s:IState) (r:PV×Store):Option IState :=
 match o.dst with
 | none=>some ⟨s.env,r.2⟩
 | some d=>if d<N then some ⟨upd s.env d r.1,r.2⟩else none
def stepG (X:Cfg) (N:Nat) (all:Array Oper) (o:Oper) (s:IState):Option IState:=(Bx X all o s).bind (Hs N o s)
def lR (X:Cfg) (N:Nat) (all:Array Oper):List Oper->IState->Option IState
 | [],s=>some s
 | o::rest,s=>(stepG X N all o s).bind (lR X N all rest)
def rwp (X:Cfg) (N:Nat) (all:Array Oper) (l:List Oper) (s:IState) (K:IState->Prop):Prop:=∃s',lR X N all l s=some s'/\K s'
def NI (x:Operand):Bool:=match x with | .const (.slice none 0 0)=>true | _=>false
def yOf (X:Cfg) (op:Op) (ρ:Operand->PV):Option (Store->(PV->Store->Prop)->Prop) :=
 match op with
 | .next x false=>some λst K=>EH st (ρ x) K
 | .call c=>match X.yl,c.callee with
  | some (l,H),.value f=>match ρ f with
   | .func (.yield l') [] []=>if l'=l then some (λst K=>H (c.args.toList.map ρ) st λb st'=>K (.bool b) st')else none
   | _=>none
  | _,_=>none
 | .binOp op t x y _=>if NI y=true then (match ρ x with
  | .lits _ []=>some (λst K=>∃p q,GT op (Ae X.P t != 0) true=some p/\GT op (Ae X.P t != 0) false=some q/\K p st/\K q st)
  | _=>none)else none
 | _=>none
def DF (all:Array Oper) (o:Oper) (ρ:Nat->PV):Bool :=
 match o.guard with
 | none=>true
 | some (j,want)=>match DK all ρ j with | .bool b=>b==want | _=>false
def DU (X:Cfg) (N:Nat) (all:Array Oper) (o:Oper) (s:IState) (K:IState->Prop):Prop :=
 match (if DF all o s.env=true then yOf X o.op (AA s.env)else none)with
 | some D=>D s.st (λr st'=>∃s',Hs N o s (r,st')=some s'/\K s')
 | none=>∃s',stepG X N all o s=some s'/\K s'
def EO (X:Cfg) (N:Nat) (all:Array Oper):List Oper->IState->(IState->Prop)->Prop
 | [],s,K=>K s
 | o::rest,s,K=>DU X N all o s (λs'=>EO X N all rest s' K)
def BV (X:Cfg) (op:Op):Bool:=match op with | .next ..=>false | .binOp _ _ _ y _ => !NI y | .call { callee:=.value (.func _),.. }=>true | .call { callee:=.value _,.. }=>X.yl.isNone | _=>true
def noY (X:Cfg) (all:Array Oper):Bool:=all.toList.all λo=>BV X o.op
theorem Sc {X:Cfg} {op:Op} (ho:BV X op=true) {s:IState}:yOf X op (AA s.env)=none:=by
 cases op <;> simp only[BV,gu]at ho <;> simp only[yOf]
 case binOp=>rw[if_neg (by intro h;rw[h]at ho;cases ho)]
 rename_i c
 obtain ⟨callee,cargs,ats⟩:=c
 cases callee with
 | value f =>
  cases hy:X.yl with
  | none=>rfl
  | some q=>cases f <;> simp[hy]at ho <;> simp[AA]
 | invoke=>cases X.yl <;> rfl
 | builtin=>cases X.yl <;> rfl
theorem DV {X:Cfg} {N:Nat} {all:Array Oper} {o:Oper} {s:IState} (ho:BV X o.op=true) {K:IState->Prop}:DU X N all o s K=∃s',stepG X N all o s=some s'/\K s':=by
 simp only[DU,Sc ho,ite_self]
theorem Ox {X:Cfg} {N:Nat} {all:Array Oper}:∀ {l:List Oper} {s:IState} {K:IState->Prop},(∀o∈l,BV X o.op=true)->(EO X N all l s K↔rwp X N all l s K)
 | [],s,K,_=>by simp[EO,rwp,lR]
 | o::rest,s,K,ho=>by
  have ho2:∀o∈rest,BV X o.op=true:=λo h=>ho o (by simp[h])
  simp only[EO,DV (ho o (by simp)),rwp,lR,au]
  constructor
  .rintro ⟨s1,h1,h2⟩
   obtain ⟨s2,h3,h4⟩:=(Ox ho2).1 h2
   exact ⟨s2,⟨s1,h1,h3⟩,h4⟩
  .rintro ⟨s2,⟨s1,h1,h3⟩,h4⟩
   exact ⟨s1,h1,(Ox ho2).2 ⟨s2,h3,h4⟩⟩
theorem Sd {st:Store} {x:PV} {K K':PV->Store->Prop} (hk:∀r st,K r st->K' r st) (h:EH st x K):EH st x K':=by
 unfold EH at h ⊢
 split at h
 .split at h
  .exact hk _ _ h
  .split at h
   .exact ⟨h.1,h.2.1,λhl=>hk _ _ (h.2.2.1 hl),λi k v he hs=>hk _ _ (h.2.2.2 i k v he hs)⟩
   .exact h
  .exact h
 .exact h
theorem WN {X:Cfg} (hm:∀l H,X.yl=some (l,H)->∀args st (K K':Bool->Store->Prop),(∀b st,K b st->K' b st)->H args st K->H args st K') {N:Nat} {all:Array Oper} {o:Oper} {s:IState} {K K':IState->Prop} (hk:∀s,K s->K' s) (h:DU X N all o s K):DU X N all o s K':=by
 unfold DU at h ⊢
 split at h
 .rename_i D he
  split at he
  .unfold yOf at he
   split at he
   .cases he
    exact Sd (λr st ⟨s',h1,h2⟩=>⟨s',h1,hk _ h2⟩) h
   .split at he
    .rename_i l H f hy hc
     split at he
     .split at he
      .cases he
       exact hm l H hy _ _ _ _ (λb st ⟨s',h1,h2⟩=>⟨s',h1,hk _ h2⟩) h
      .cases he
     .cases he
    .cases he
   .split at he
    .split at he
     .cases he
      obtain ⟨p,q,h1,h2,⟨s3,h3,h4⟩,s5,h5,h6⟩:=h
      exact ⟨p,q,h1,h2,⟨s3,h3,hk _ h4⟩,s5,h5,hk _ h6⟩
     .cases he
    .cases he
   .cases he
  .cases he
 .rename_i he
  obtain ⟨s',h1,h2⟩:=h
  exact ⟨s',h1,hk _ h2⟩
def Ht (X:Cfg) (o:Oper):Bool :=
 match o.op with
 | .move _ | .assign _ | .pick .. | .load .. | .nilCheck _ | .binOp .. | .unOp .. | .convert .. | .makeInterface .. | .typeAssert .. | .makeFunc .. | .fieldAddr .. | .field .. | .indexAddr .. | .index .. | .extract .. | .build .. | .lookup ..=>true
 | .box .. | .buildSlice .. | .slice .. => !X.muts (o.dst.getD 0)
 | .call { callee:=.builtin b,.. }=>match b with | .len | .min | .max=>true | _=>false
 | .call { callee:=.value (.func f),.. }=>X.quiet f && !X.frz (o.dst.getD 0)
 | _=>false
def FG (X:Cfg) (o:Oper):Bool :=
 match o.op with
 | .move _ | .assign _ | .pick .. | .binOp .. | .unOp .. | .convert .. | .makeInterface .. | .typeAssert .. | .makeFunc .. | .field .. | .index .. | .extract .. | .build ..=>true
 | .box .. | .buildSlice .. => !X.muts (o.dst.getD 0)
 | .call { callee:=.builtin b,.. }=>match b with | .min | .max=>true | _=>false
 | .load .. | .fieldAddr .. | .indexAddr ..=>X.frz (o.dst.getD 0)
 | .slice ..=>X.frz (o.dst.getD 0) && !X.muts (o.dst.getD 0)
 | .makeSlice ..=>X.frz (o.dst.getD 0)&&X.num (o.dst.getD 0)==0
 | .call { callee:=.value (.func f),.. }=>X.quiet f&&X.muts (o.dst.getD 0) && !X.frz (o.dst.getD 0)
 | .call { callee:=.value (.tmp _),.. }=>X.frz (1200000+o.dst.getD 0)&&X.muts (o.dst.getD 0) && !X.frz (o.dst.getD 0)
 | _=>false
def BE (X:Cfg) (o:Oper):Bool :=
 X.num (o.dst.getD 0) != 0&&match o.op with
 | .buildSlice ..=>X.muts (o.dst.getD 0)
 | .makeSlice .. | .alloc _=>true
 | .call { callee:=.builtin b,.. }=>match b with | .append=>true | _=>false
 | .call { callee:=.value (.func f),.. }=>X.quiet f&&X.frz (o.dst.getD 0)&&X.muts (o.dst.getD 0)
 | _=>false
def Oy (x y:Oper):Bool:=match x.op,y.op with | .lookup t _ _ false,.mapEntry u _ _=>decide (t=u) | .load ..,.mapEntry ..=>true | .fieldAddr ..,.mapEntry ..=>true | .indexAddr ..,.mapEntry ..=>true | _,_=>false
def Nx (x:Oper):Bool:=match x.op with | .lookup ..=>true | .load ..=>true | .fieldAddr ..=>true | .indexAddr ..=>true | .call { callee:=.builtin .len,.. }=>true | _=>false
def EY (X:Cfg) (y:Oper):Bool:=X.num (y.dst.getD 0)==0&&match y.op with | .alloc _=>true | .makeSlice .. => !X.frz (y.dst.getD 0) | .call { callee:=.value (.func f),.. }=>X.calm (1000000+f) && !X.frz (y.dst.getD 0) && !X.muts (y.dst.getD 0) | _=>false
def Fc (X:Cfg) (o:Oper):Bool:=X.frz (600000+o.dst.getD 0)&&match o.op with | .load .. | .fieldAddr .. | .indexAddr ..=>true | _=>false
def yK:Builtin->Bool
 | .len=>true
 | _=>false
def Oz (X:Cfg) (o:Oper):Bool:=X.frz (700000+o.dst.getD 0) && !X.frz (600000+o.dst.getD 0)&&match o.op with | .load .. | .fieldAddr .. | .indexAddr .. | .nilCheck _=>true | .call { callee:=.builtin b,argTypes:=ats,.. }=>yK b&&(match ats.toList with | [t]=>(AW X.P t).isNone | _=>false) | _=>false
def OA (X:Cfg) (o:Oper):Bool:=match o.op with | .call { callee:=.builtin b,.. }=>X.frz (700000+o.dst.getD 0)&&(match b with | .append=>true | _=>false) | .store _ a _=>X.frz (800000+Dt a) | _=>false
def Ny (X:Cfg) (x y:Oper):Bool:=Fc X x&&match y.op with | .store _ a _=>X.frz (900000+Dt a)&&(X.num (Dt a) != 0)&&decide (X.num (Dt a)-1<X.num (x.dst.getD 0)) | _=>false
def OB (X:Cfg) (o:Oper):Bool:=match o.op with | .call { callee:=.value (.func f),.. }=>decide (f<1000000)&&X.calm f && !X.frz (o.dst.getD 0) && !X.muts (o.dst.getD 0) | _=>false
def Ld (X:Cfg) (o:Oper):Bool := !X.frz (o.dst.getD 0) && !X.frz (600000+o.dst.getD 0) && !X.frz (700000+o.dst.getD 0)&&match o.op with | .fieldAddr .. | .indexAddr ..=>true | _=>false
def WO (o:Oper):Bool:=match o.op with | .store ..=>true | _=>false
def FH (X:Cfg) (all:Array Oper) (x y:Oper):Bool:=x.apart all y&&BV X x.op&&BV X y.op&&((Ht X x&&Ht X y)||FG X x||FG X y||(BE X x&&BE X y&&(X.num (x.dst.getD 0)-1 != X.num (y.dst.getD 0)-1))||Oy x y||(Nx x&&EY X y)||(Fc X x&&BE X y&&decide (X.num (y.dst.getD 0)-1<X.num (x.dst.getD 0)))||(BE X x&&Fc X y&&decide (X.num (x.dst.getD 0)-1<X.num (y.dst.getD 0)))||(Oz X x&&OA X y)||(OA X x&&Oz X y)||Ny X x y||(OB X x&&EY X y)||(Ld X x&&WO y)||(WO x&&Ld X y))
def Kt (all:Array Oper):Nat->Nat->Nat->Bool
 | 0,_,_=>false
 | n+1,i,j=>match all[j]? with
  | some y=>y.after.toList.any λe=>jw .any e&&(e.on==i||Kt all n i e.on)
  | none=>false
def Ku (X:Cfg) (all:Array Oper):Bool :=
 all.toList.zipIdx.all λ(y,j) =>
  (y.after.toList.all λe => !jw .any e||e.on<j) &&
  ((all.toList.take j).zipIdx.all λ(x,i)=>(y.after.toList.any λe=>jw .any e&&e.on==i)||(FH X all x y||Kt all 8 i j))
def Mr (X:Cfg) (all:Array Oper) (i j:Nat):Bool:=match all[i]?,all[j]? with
 | some x,some y=>(y.after.toList.any λe=>jw .any e&&e.on==i)||FH X all x y||Kt all 8 i j
 | _,_=>false
def GV (all:Array Oper) (i j:Nat):Bool:=match all[i]? with
 | some x=>x.after.toList.all λe => !jw .any e||e.on != j
 | none=>false
def Ea (p:Nat->Nat->Bool):List Nat->Bool
 | []=>true
 | i::l=>l.all (p i)&&Ea p l
def Qq (n a b:Nat):List Nat:=(br n).flatMap λi=>if i=a then []else if i=b then (if a<b then [b,a]else [a,b])else [i]
def NM (X:Cfg) (all:Array Oper) (a b:Nat):Bool :=
 decide (a≠b)&&decide (a<all.size/\b<all.size)&&(all.toList.all λo=>BV X o.op&&o.after.toList.all λe => !jw .any e||decide (e.on<all.size))&&((br all.size).all λi=>GV all i i) &&
 (Ea (λi j=>(Mr X all i j||(i==min a b&&j==max a b))&&GV all i j) (br all.size)) &&
 (Ea (λi j=>(Mr X all i j||(i==max a b&&j==min a b))&&GV all i j) (Qq all.size a b)) &&
 ((Qq all.size a b).all λi=>decide (i<all.size))&&((br all.size).all λi=>(Qq all.size a b).contains i)&&decide (Qq all.size a b).Nodup
def atO (all:Array Oper) (l:List Nat):List Oper:=l.filterMap λi=>all[i]?
inductive Tree where
 | one (r:List Nat)
 | two (a b:Nat) (s t:Tree)
 | via (m:Nat) (t:Tree)
def Tree.orders:Tree->List (List Nat)
 | .one r => [r]
 | .two _ _ s t=>s.orders++t.orders
 | .via _ t=>t.orders
def Q0 (X:Cfg) (all:Array Oper) (E:List (Nat×Nat)) (i j:Nat):Bool:=Mr X all i j||E.any λe=>if e.1=e.2 then Kt all 8 e.2 j&&Kt all 8 i e.1 else (e.2==j||Kt all 8 e.2 j)&&(e.1==i||Kt all 8 i e.1)
def Eb (X:Cfg) (all:Array Oper):List (Nat×Nat)->Tree->Bool
 | E,.one r=>Ea (λi j=>Q0 X all E i j&&GV all i j) r&&(r.all λi=>decide (i<all.size))&&((br all.size).all λi=>r.contains i)&&decide r.Nodup
 | E,.two a b s t=>decide (a≠b)&&Eb X all ((a,b)::E) s&&Eb X all ((b,a)::E) t
 | E,.via m t=>Eb X all ((m,m)::E) t
def Kv (X:Cfg) (all:Array Oper) (t:Tree):Bool :=
 (all.toList.all λo=>BV X o.op&&o.after.toList.all λe => !jw .any e||decide (e.on<all.size))&&((br all.size).all λi=>GV all i i)&&Eb X all [] t
inductive Ghost:IState->IState->Prop where
 | refl (s:IState):Ghost s s
 | slot (s:IState) (d z:Nat) (h:s.env d=.nils) (hz:0<z):Ghost s ⟨upd s.env d (.ref s.st.next 0 0 0),s.st.new (.arr 0 z [])⟩
 | cell (s:IState) (id gen z z':Nat) (es:List PV) (idx off:Nat) (h:s.st.obj id=some (.arr gen z es)) (hc:(nth es idx).cells[off]?=some .nils) (hz:0<z') :
   Ghost s ⟨s.env,(s.st.new (.arr 0 z' [])).set id (.arr gen z (es.set idx (Bi (nth es idx) off [.ref s.st.next 0 0 0])))⟩
 | res (s:IState) (z:Nat) (hz:0<z):Ghost s ⟨s.env,s.st.new (.arr 0 z [])⟩
 | sealv (s:IState) (d:Nat) (q:PV) (ids:List Nat) (hb:s.env d≠.bad) (h:rdP (s.st.only ids) (s.env d)=some q):Ghost s ⟨upd s.env d q,s.st.seal ids⟩
 | fix (s:IState) (d id gen idx z:Nat) (es:List PV) (h:s.env d=.ptr id gen idx 0) (ho:s.st.arr? id gen=some (z,es)) (hi:idx<es.length) (hp:AU es=true):Ghost s ⟨upd s.env d (.vptr (nth es idx).cells 0),s.st.without [id]⟩
 | trans {s s' s'':IState} (h:Ghost s s') (g:Ghost s' s''):Ghost s s''
inductive IExit where
 | normal
 | exit (id:Nat)
 | ret
def GX (args:List PV):Nat->PV:=λt=>args.getD t .bad
def Gw (ρ:Nat->PV):List Nat->List PV->(Nat->PV)
 | p::ps,v::vs=>Gw (upd ρ p v) ps vs
 | _,_=>ρ
def By (X:Cfg):Prop:=(∀f args st r st',X.quiet f=true->X.tab f args st=some (r,st')->st'=st/\(AU args=true->∀st2,X.tab f args st2=some (r,st2))) /\
 (∀ f args st r st',X.calm (1000000+f)=true->X.tab f args st=some (r,st')->(∀i o,st.obj i=some o->i<st.next)->∀i o,st.obj i=some o->st'.obj i=some o) /\
 ∀ f args st r st',f<1000000->X.calm f=true->X.tab f args st=some (r,st')->st'=st/\∀st2:Store,(∀i o,st.obj i=some o->st2.obj i=some o)->X.tab f args st2=some (r,st2)
def OC (X:Cfg) (y:Nat×GI):Cfg:={ X with yl:=some y,rnd:=false }
def D6 (X:Cfg):Cfg:={ X with rnd:=true }
abbrev WP:=Cfg->Nat->Code->(IExit->IState->Prop)->IState->Prop
def wpC (G:WP):WP
 | X,N,.skip,Q,s=>Q .normal s
 | X,N,.region _ ops dr,Q,s=>((dr=true->Ku X ops=true)/\EO X N ops ops.toList s (Q .normal))\/(dr=true/\∃t:Tree,Kv X ops t=true/\∀r∈t.orders,EO X N ops (atO ops r) s (Q .normal))
 | X,N,.seq a b,Q,s=>wpC G X N a (λe s'=>match e with | .normal=>wpC G X N b Q s' | e=>Q e s') s
 | X,N,.cond c a b,Q,s=>match AA s.env c with | .bool v=>(v=true->wpC G X N a Q s)/\(v=false->wpC G X N b Q s) | _=>False
 | X,N,.block id c,Q,s=>wpC G X N c (λe s'=>match e with | .exit i=>if i=id then Q .normal s' else Q (.exit i) s' | e=>Q e s') s
 | X,N,.loop c,Q,s=>∃(J:Nat->IState->Prop) (n:Nat),(∃s0,Ghost s s0/\J n s0)/\∀m s',J m s'->wpC G X N c (λe s''=>match e with | .normal=>∃m',m'<m/\∃s3,Ghost s'' s3/\J m' s3 | e=>Q e s'') s'
 | X,N,.exit id,Q,s=>Q (.exit id) s
 | X,N,.ret,Q,s=>Q .ret s
 | X, N, .rangeFunc g ps assign body,Q,s00=>∃s,Ghost s00 s/\X.rnd=false/\(match AA s.env g with
  | .func (.func f) first captured => ∃ fn c, X.P.funcs[f]? = some fn ∧ fn.body = some c ∧ (fn.name == "runtime.NumGoroutine") = false ∧ fn.results.toList = [] ∧ first.length + 1 + captured.length ≤ fn.ntmps ∧ (ps.toList.all fun p => decide (p < N)) = true ∧
    ∀ (l : Nat) (r:Loop),r.state=.ready->r.pending=none ->
     G (OC X (l,λargs st K=>st.obj s.st.next=some (.lp r)/\args.length=ps.size /\
       wpC G (D6 X) N assign (λe s1=>e=.normal/\s1.st.obj s.st.next=some (.lp r) /\
        wpC G (D6 X) N body (λe s2=>s2.st.obj s.st.next=some (.lp { r with state:=.busy }) /\
         match e with
         | .normal=>K true (s2.st.set s.st.next (.lp r))
         | .ret=>K false (s2.st.set s.st.next (.lp { r with state:=.done,pending:=some .ret }))
         | .exit i=>K false (s2.st.set s.st.next (.lp { r with state:=.done,pending:=some (.exit i) })))
         ⟨s1.env, s1.st.set s.st.next (.lp { r with state:=.busy })⟩)
        ⟨Gw s.env ps.toList args,st⟩))
      fn.ntmps c
      (λe s'=>(e=.normal\/e=.ret)/\((s'.st.obj s.st.next=some (.lp r)/\Q .normal ⟨s.env,s'.st.set s.st.next (.lp { r with state:=.exhausted })⟩) \/
       (s'.st.obj s.st.next=some (.lp { r with state:=.done,pending:=some .ret })/\Q .ret ⟨s.env,s'.st.set s.st.next (.lp { r with state:=.exhausted,pending:=some .ret })⟩) \/
       (∃ i,s'.st.obj s.st.next=some (.lp { r with state:=.done,pending:=some (.exit i) })/\Q (.exit i) ⟨s.env,s'.st.set s.st.next (.lp { r with state:=.exhausted,pending:=some (.exit i) })⟩)))
      ⟨GX (first++.func (.yield l) [] []::captured),s.st.new (.lp r)⟩
  | _=>False)
 | X,N,.scope c,Q,s=>wpC G X N c Q s
 | X,N,.label _,Q,s=>Q .normal s
 | _,_,_,_,_=>False
def gen:Nat->WP
 | 0=>λ_ _ _ _ _=>False
 | d+1=>λX N c Q s=>∃X':Cfg,X'.P=X.P/\X'.yl=X.yl/\X'.rnd=X.rnd/\X'.dep=d/\Fb X'/\By X'/\wpC (gen d) X' N c Q s
def wpI (X:Cfg) (N:Nat) (c:Code) (Q:IExit->IState->Prop) (s:IState):Prop:=wpC (gen X.dep) X N c Q s
def Bk (X:Cfg):Prop:=∀l H,X.yl=some (l,H)->∀args st (K K':Bool->Store->Prop),(∀b st,K b st->K' b st)->H args st K->H args st K'
theorem A8 {X:Cfg} (h:X.yl=none):Bk X:=λl H hl=>by rw[h]at hl;cases hl
theorem Ms {X:Cfg} (hm:Bk X) {N:Nat} {all:Array Oper}:∀ {l:List Oper} {s:IState} {K K':IState->Prop},(∀s,K s->K' s)->EO X N all l s K->EO X N all l s K'
 | [],s,K,K',hk,h=>hk s h
 | o::rest,s,K,K',hk,h=>WN hm (λs' h'=>Ms hm hk h') h
def WP.Mono (G:WP):Prop:=∀X N c Q Q' s,Bk X->(∀e s,Q e s->Q' e s)->G X N c Q s->G X N c Q' s
theorem CZ {G:WP} (hG:G.Mono):(wpC G).Mono:=by
 intro X N c
 induction c generalizing X with
 | skip=>intro Q Q' s hm h hs;exact h _ _ hs
 | region id ops dr =>
  intro Q Q' s hm h hs
  rcases hs with hs | ⟨h1,t,h2,h3⟩
  .exact .inl ⟨hs.1,Ms hm (λs h'=>h _ _ h') hs.2⟩
  .exact .inr ⟨h1,t,h2,λr hr=>Ms hm (λs h'=>h _ _ h') (h3 r hr)⟩
 | seq a b iha ihb =>
  intro Q Q' s hm h hs
  refine iha X _ _ _ hm (λe s' he=>?_) hs
  cases e with
  | normal=>exact ihb X _ _ _ hm h he
  | exit i=>exact h _ _ he
  | ret=>exact h _ _ he
 | cond c a b iha ihb =>
  intro Q Q' s hm h hs
  simp only[wpC]at hs ⊢
  split at hs
  .exact ⟨λhv=>iha X _ _ _ hm h (hs.1 hv),λhv=>ihb X _ _ _ hm h (hs.2 hv)⟩
  .exact hs.elim
 | block id c ih =>
  intro Q Q' s hm h hs
  refine ih X _ _ _ hm (λe s' he=>?_) hs
  cases e with
  | normal=>exact h _ _ he
  | exit i =>
   dsimp only at he ⊢
   split at he
   .rw [if_pos (by assumption)];exact h _ _ he
   .rw [if_neg (by assumption)];exact h _ _ he
  | ret=>exact h _ _ he
 | loop c ih =>
  intro Q Q' s hm h hs
  obtain ⟨J,n,h0,hr⟩:=hs
  refine ⟨J,n,h0,λm s' hs'=>ih X _ _ _ hm (λe s'' he=>?_) (hr m s' hs')⟩
  cases e with
  | normal=>exact he
  | exit i=>exact h _ _ he
  | ret=>exact h _ _ he
 | exit id=>intro Q Q' s hm h hs;exact h _ _ hs
 | ret=>intro Q Q' s hm h hs;exact h _ _ hs
 | rangeFunc g ps assign body iha ihb =>
  intro Q Q' s hm h hs
  simp only[wpC]at hs ⊢
  obtain ⟨s0,hgh,hr,hs⟩:=hs
  refine ⟨s0,hgh,hr,?_⟩
  split at hs
  .rename_i f first captured
   obtain ⟨fn,c,h1,h2,h3,h3',h4,h4',h5⟩:=hs
   refine ⟨fn,c,h1,h2,h3,h3',h4,h4',λl r hr1 hr2=>hG _ _ _ _ _ _ ?_ (λe s' he=>⟨he.1,?_⟩) (h5 l r hr1 hr2)⟩
   .intro l' H' he args st K K' hk hH
    simp only[OC,bp,c9]at he
    obtain ⟨rfl,rfl⟩:=he
    obtain ⟨g1,g2,g3⟩:=hH
    refine ⟨g1,g2,iha (D6 X) _ _ _ hm (λe s1 he=>⟨he.1,he.2.1,ihb (D6 X) _ _ _ hm (λe s2 he2=>⟨he2.1,?_⟩) he.2.2⟩) g3⟩
    cases e with
    | normal=>exact hk _ _ he2.2
    | exit i=>exact hk _ _ he2.2
    | ret=>exact hk _ _ he2.2
   .rcases he.2 with ⟨a,b⟩ | ⟨a,b⟩ | ⟨i,a,b⟩
    .exact .inl ⟨a,h _ _ b⟩
    .exact .inr (.inl ⟨a,h _ _ b⟩)
    .exact .inr (.inr ⟨i,a,h _ _ b⟩)
  .exact hs.elim
 | scope c ih=>intro Q Q' s hm h hs;exact ih X _ _ _ hm h hs
 | label l=>intro Q Q' s hm h hs;exact h _ _ hs
 | goto=>intro Q Q' s hm h hs;exact hs
 | refuse=>intro Q Q' s hm h hs;exact hs
theorem EP:∀d,(gen d).Mono
 | 0=>λ_ _ _ _ _ _ _ _ h=>h.elim
 | d+1=>λX N c Q Q' s hm hk ⟨X',h1,h2,h3,h4,h5,h6,h⟩=>⟨X',h1,h2,h3,h4,h5,h6,CZ (EP d) X' N c Q Q' s (λl H hl=>hm l H (h2▸hl)) hk h⟩
theorem Q1 {X:Cfg} (hm:Bk X) {N:Nat} {c:Code} {Q Q':IExit->IState->Prop} {s:IState} (h:∀e s,Q e s->Q' e s) (hs:wpI X N c Q s):wpI X N c Q' s:=CZ (EP X.dep) X N c Q Q' s hm h hs
inductive Kf where
 | seq (c:Code)
 | blk (id:Nat)
 | lp (J:IState->Prop)
def post (X:Cfg) (N:Nat) (Q:IExit->IState->Prop):List Kf->IExit->IState->Prop
 | [],e,s=>Q e s
 | .seq c::ks,e,s=>match e with | .normal=>wpI X N c (post X N Q ks) s | e=>post X N Q ks e s
 | .blk id::ks,e,s=>match e with | .exit i=>if i=id then post X N Q ks .normal s else post X N Q ks (.exit i) s | e=>post X N Q ks e s
 | .lp J::ks,e,s=>match e with | .normal=>J s | e=>post X N Q ks e s
def run (X:Cfg) (N:Nat) (Q:IExit->IState->Prop) (c:Code) (ks:List Kf) (s:IState):Prop:=wpI X N c (post X N Q ks) s
def Hu (X:Cfg) (N:Nat) (Q:IExit->IState->Prop) (ks:List Kf) (s:IState):Prop:=post X N Q ks .normal s
def Iv (X:Cfg) (N:Nat) (Q:IExit->IState->Prop) (ks:List Kf) (id:Nat) (s:IState):Prop:=post X N Q ks (.exit id) s
def done (X:Cfg) (N:Nat) (Q:IExit->IState->Prop) (ks:List Kf) (s:IState):Prop:=post X N Q ks .ret s
def ops (X:Cfg) (N:Nat) (Q:IExit->IState->Prop) (all:Array Oper) (l:List Oper) (ks:List Kf) (s:IState):Prop:=EO X N all l s (Hu X N Q ks)
def Bq (X:Cfg) (N:Nat) (Q:IExit->IState->Prop) (all:Array Oper) (l:List Oper) (ks:List Kf) (d:Option Nat) (s:IState) (r:Option (PV×Store)):Prop :=
 match r with
 | some r=>match d with
  | none=>ops X N Q all l ks ⟨s.env,r.2⟩
  | some d=>d<N/\ops X N Q all l ks ⟨upd s.env d r.1,r.2⟩
 | none=>False
def Iw (g:PV) (A B:Prop):Prop:=match g with | .bool v=>(v=true->A)/\(v=false->B) | _=>False
def BZ (g:PV) (want:Bool) (A B:Prop):Prop:=match g with | .bool b=>(b=want->A)/\(b=(!want)->B) | .tuple []=>B | _=>False
theorem Um {w:Bool} {A B:Prop}:BZ (.tuple []) w A B=B:=nrfl rfl
section
variable {A B:Prop}
theorem WQ:Iw (.bool true) A B=A:=by simp[Iw]
theorem Un:Iw (.bool false) A B=B:=by simp[Iw]
theorem bW:BZ (.bool true) true A B=A:=by simp[BZ]
theorem bX:BZ (.bool true) false A B=B:=by simp[BZ]
theorem bY:BZ (.bool false) true A B=B:=by simp[BZ]
theorem bZ:BZ (.bool false) false A B=A:=by simp[BZ]
end
section
variable {X:Cfg} {N:Nat} {Q:IExit->IState->Prop} {ks:List Kf} {s:IState}
theorem lS:run X N Q .skip ks s=Hu X N Q ks s:=nrfl rfl
theorem Se {a b:Code}:run X N Q (.seq a b) ks s=run X N Q a (.seq b::ks) s:=by
 simp only[run,wpI,wpC];congr 1
theorem Mt {id:Nat} {c:Code}:run X N Q (.block id c) ks s=run X N Q c (.blk id::ks) s:=by
 simp only[run,wpI,wpC];congr 1
theorem cA {c:Code}:run X N Q (.scope c) ks s=run X N Q c ks s:=by
 simp only[run,wpI,wpC]
theorem cB {l:Nat}:run X N Q (.label l) ks s=Hu X N Q ks s:=nrfl rfl
theorem lW {id:Nat}:run X N Q (.exit id) ks s=Iv X N Q ks id s:=nrfl rfl
theorem yL:run X N Q .ret ks s=done X N Q ks s:=nrfl rfl
section
variable {id:Nat} {l:List Oper}
theorem Kw:run X N Q (.region id l.toArray false) ks s=ops X N Q l.toArray l ks s:=by
 simp only[run,wpI,wpC,ops];simp;rfl
theorem Ix (t:Tree) (h:Kv X l.toArray t=true) (h1:∀r∈t.orders,ops X N Q l.toArray (atO l.toArray r) ks s):run X N Q (.region id l.toArray true) ks s:=.inr ⟨rfl,t,h,h1⟩
end
theorem cC {all:Array Oper}:atO all (br all.size)=all.toList:=by
 unfold atO
 refine List.ext_getElem? λi=>?_
 have key:∀n,n<=all.size->(br n).filterMap (λi=>all[i]?)=all.toList.take n:=by
  intro n
  induction n with
  | zero=>intro _;rfl
  | succ n ih =>
   intro hn
   have e:all[n]?=some all[n]:=bz (by omega)
   rw [List.range_succ,List.filterMap_append,ih (by omega),List.take_add_one,bx,e]
   simp [e]
 rw [key _ (Nat.le_refl _),<-cy,List.take_length]
theorem Hv {p q:Nat->Nat->Bool} (h:∀i j,p i j=true->q i j=true):∀ {l:List Nat},Ea p l=true->Ea q l=true
 | [],_=>rfl
 | i::l,g=>by
  simp only[Ea,fy,ga]at g ⊢
  exact ⟨λj hj=>h i j (g.1 j hj),Hv h g.2⟩
theorem lY {all:Array Oper} {a b:Nat} (h:NM X all a b=true):Kv X all (.two (min a b) (max a b) (.one (br all.size)) (.one (Qq all.size a b)))=true:=by
 unfold NM at h
 simp only[fy,decide_eq_true_eq]at h
 obtain ⟨⟨⟨⟨⟨⟨⟨⟨d1,d2⟩,d3⟩,d4⟩,d5⟩,d6⟩,d7⟩,d8⟩,d9⟩:=h
 have hne:min a b≠max a b:=by omega
 have imp:∀u v:Nat,u≠v->∀i j,((Mr X all i j||(i==u&&j==v))&&GV all i j)=true->(Q0 X all [(u,v)] i j&&GV all i j)=true:=λu v huv i j g=>by
  simp only[fy,Bool.or_eq_true,beq_iff_eq]at g ⊢
  refine ⟨?_,g.2⟩
  unfold Q0
  rcases g.1 with g1 | ⟨rfl,rfl⟩
  .rw [g1];rfl
  .simp [huv]
 simp only[Kv,Eb,fy,decide_eq_true_eq]
 refine ⟨⟨d3,d4⟩,⟨hne,⟨⟨Hv (imp _ _ hne) d5,?_⟩,?_⟩,List.nodup_range⟩,⟨⟨Hv (imp _ _ hne.symm) d6,d7⟩,d8⟩,d9⟩
 .simp only[ga,decide_eq_true_eq];exact λi hi=>gz.1 hi
 .simp only[ga];exact λi hi=>by simpa using gz.1 hi
theorem OD {id:Nat} {l:List Oper} (a b:Nat) (h:NM X l.toArray a b=true) (h1:ops X N Q l.toArray l ks s) (h2:ops X N Q l.toArray (atO l.toArray (Qq l.length a b)) ks s):run X N Q (.region id l.toArray true) ks s:=by
 refine Ix _ (lY h) λr hr=>?_
 simp only[Tree.orders,List.cons_append,List.nil_append,List.mem_cons,List.not_mem_nil,or_false]at hr
 rcases hr with rfl | rfl
 .rw [cC];exact h1
 .rw [List.size_toArray];exact h2
theorem OE {c:Operand} {a b:Code}:run X N Q (.cond c a b) ks s=Iw (AA s.env c) (run X N Q a ks s) (run X N Q b ks s):=by
 simp only[run,wpI,wpC,Iw]
theorem Uo {c:Code} (J:Nat->IState->Prop) (n:Nat) {s0:IState} (hg:Ghost s s0) (h0:J n s0) (h:∀m s',J m s'->run X N Q c (.lp (λs''=>∃m',m'<m/\∃s3,Ghost s'' s3/\J m' s3)::ks) s') :
  run X N Q (.loop c) ks s:=by
 simp only[run,wpI,wpC]
 refine ⟨J,n,⟨s0,hg,h0⟩,λm s' hs'=>?_⟩
 have e:(λ(e:IExit) s''=>match e with | .normal=>∃m',m'<m/\∃s3,Ghost s'' s3/\J m' s3 | e=>post X N Q ks e s'')=post X N Q (.lp (λs''=>∃m',m'<m/\∃s3,Ghost s'' s3/\J m' s3)::ks):=by
  funext e s'';cases e <;> rfl
 exact e▸h m s' hs'
theorem Nz {c:Code} {J J':IState->Prop} (hm:Bk X) (hj:∀s,J s->J' s) (h:run X N Q c (.lp J::ks) s):run X N Q c (.lp J'::ks) s:=by
 simp only[run]at h ⊢
 refine Q1 hm ?_ h
 intro e s'' he
 cases e with
 | normal=>exact hj _ he
 | exit i=>exact he
 | ret=>exact he
theorem Sf {c:Code} (hm:Bk X) (n:Nat) (I:Nat->IState->Prop) {s0:IState} (hg:Ghost s s0) (h0:I 0 s0) (h:∀k s',k<=n->I k s'->run X N Q c (.lp (λs''=>k<n/\I (k+1) s'')::ks) s'):run X N Q (.loop c) ks s :=
 Uo (λm s=>∃k,k+m=n/\I k s) n hg ⟨0,by omega,h0⟩ λm s' ⟨k,hk,hI⟩ =>
  Nz hm (λs'' ⟨h1,h2⟩=>⟨m-1,by omega,s'',.refl _,k+1,by omega,h2⟩) (h k s' (by omega) hI)
theorem lZ:Hu X N Q [] s=Q .normal s:=nrfl rfl
theorem mD {c:Code}:Hu X N Q (.seq c::ks) s=run X N Q c ks s:=nrfl rfl
theorem mE {id:Nat}:Hu X N Q (.blk id::ks) s=Hu X N Q ks s:=nrfl rfl
theorem yM {J:IState->Prop}:Hu X N Q (.lp J::ks) s=J s:=nrfl rfl
theorem cD {c:Code} {id:Nat}:Iv X N Q (.seq c::ks) id s=Iv X N Q ks id s:=nrfl rfl
theorem cE {i id:Nat}:Iv X N Q (.blk i::ks) id s=if id=i then Hu X N Q ks s else Iv X N Q ks id s:=nrfl rfl
theorem mF {J:IState->Prop} {id:Nat}:Iv X N Q (.lp J::ks) id s=Iv X N Q ks id s:=nrfl rfl
theorem mG:done X N Q [] s=Q .ret s:=nrfl rfl
theorem mH {c:Code}:done X N Q (.seq c::ks) s=done X N Q ks s:=nrfl rfl
theorem mI {id:Nat}:done X N Q (.blk id::ks) s=done X N Q ks s:=nrfl rfl
theorem yN {J:IState->Prop}:done X N Q (.lp J::ks) s=done X N Q ks s:=nrfl rfl
section
variable {all:Array Oper}
theorem yO:ops X N Q all [] ks s=Hu X N Q ks s:=by
 simp [ops,EO]
theorem IZ {o:Oper} {rest:List Oper} {r:Option (PV×Store)} (hy:yOf X o.op (AA s.env)=none) (h:Bx X all o s=r):ops X N Q all (o::rest) ks s=Bq X N Q all rest ks o.dst s r:=by
 subst h
 simp only[ops,EO,DU,hy,ite_self,stepG]
 cases hr:Bx X all o s with
 | none=>simp[Bq]
 | some r =>
  simp only[aw,Hs,Bq]
  cases o.dst with
  | none=>simp[ops]
  | some d =>
   by_cases hd:d<N
   .simp [hd,ops]
   .simp [hd]
theorem OF {rest:List Oper} {dst:Option Nat} {op:Op} {ty:TypeId} {pos:String} {after:Array Edge} (hy:yOf X op (AA s.env)=none) :
  ops X N Q all (⟨dst,op,ty,pos,after,none⟩::rest) ks s=Bq X N Q all rest ks dst s (iop X (dst.getD 0) op (AA s.env) s.st):=IZ hy rfl
theorem Q2 {rest:List Oper} {dst:Option Nat} {op:Op} {ty:TypeId} {pos:String} {after:Array Edge} {j:Nat} {want:Bool} (hy:yOf X op (AA s.env)=none) :
  ops X N Q all (⟨dst,op,ty,pos,after,some (j,want)⟩::rest) ks s =
   BZ (DK all s.env j) want (Bq X N Q all rest ks dst s (iop X (dst.getD 0) op (AA s.env) s.st)) (Bq X N Q all rest ks dst s (some (.tuple [],s.st))):=by
 cases h:DK all s.env j with
 | bool b =>
  rw [IZ hy (r:=if b=want then iop X (dst.getD 0) op (AA s.env) s.st else some (.tuple [],s.st)) (by simp[Bx,h])]
  cases b <;> cases want <;> simp[BZ]
 | tuple l =>
  cases l with
  | nil=>rw[IZ hy (r:=some (.tuple [],s.st)) (by simp[Bx,h])];simp[BZ]
  | cons x l=>rw[IZ hy (r:=none) (by simp[Bx,h])];simp[BZ,Bq]
 | _=>rw[IZ hy (r:=none) (by simp[Bx,h])];simp[BZ,Bq]
theorem WR {l:List Oper} {d:Nat} {p:PV} {st:Store}:Bq X N Q all l ks (some d) s (some (p,st))=(d<N/\ops X N Q all l ks ⟨upd s.env d p,st⟩):=nrfl rfl
theorem WS {l:List Oper} {p:PV} {st:Store}:Bq X N Q all l ks none s (some (p,st))=ops X N Q all l ks ⟨s.env,st⟩:=nrfl rfl
theorem mJ {l:List Oper} {d:Option Nat} {c:Prop} [Decidable c] {x:Option (PV×Store)}:Bq X N Q all l ks d s (if c then x else none)=(c/\Bq X N Q all l ks d s x):=by
 by_cases h:c <;> simp[h,Bq]
theorem cF {l:List Oper} {d:Option Nat} {c:Prop} [Decidable c] {x:Option (PV×Store)}:Bq X N Q all l ks d s (if c then none else x)=(¬c/\Bq X N Q all l ks d s x):=by
 by_cases h:c <;> simp[h,Bq]
end
end
section
variable {X:Cfg} {N:Nat} {Q:IExit->IState->Prop} {ks:List Kf} {s:IState}
theorem Ah {all:Array Oper} {l:List Oper} {d:Option Nat} {r r':Option (PV×Store)} (h:r=r'):Bq X N Q all l ks d s r=Bq X N Q all l ks d s r':=by rw[h]
theorem Ai {g g':PV} {A B:Prop} (h:g=g'):Iw g A B=Iw g' A B:=by rw[h]
theorem Ag {g g':PV} {w:Bool} {A B:Prop} (h:g=g'):BZ g w A B=BZ g' w A B:=by rw[h]
end
theorem Ahc {α β:Type} {c:Prop} [Decidable c] {f:α->β} {x y:Option α}:(if c then x else y).map f=if c then x.map f else y.map f:=by split <;> rfl
theorem yP {α β:Type} {c:Prop} [Decidable c] {f:α->Option β} {x y:Option α}:(if c then x else y).bind f=if c then x.bind f else y.bind f:=by split <;> rfl
end Sim
