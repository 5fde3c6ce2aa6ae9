/- All ideal operations. -/
import Derived.Test.YtppljhpecoeakaaSimV
import Derived.WalkSpells
import Derived.ChangeKeysEq
set_option linter.unusedVariables false
set_option linter.unusedSimpArgs false
namespace Sim
open Go
section
variable {P:Program} {w:World} {C:Ctx} {st:Store}
theorem Jx {op:BinOp} {k yk:IntKind} {a b:Int} {p:PV} (h:Pl op k a b=some p) {t:TypeId} (hop:op=.shl∨op=.shr) :
  ∃ v,(binOp op t (.int k a) (.int yk b)).run P w=.ok v w∧VR C v p:=by
 rcases hop with rfl | rfl <;> simp only[Pl]at h <;> split at h <;> first | (cases h;done) | skip
 all_goals
  rename_i hb
  simp only[Option.some.injEq]at h
  subst h
  refine ⟨_,?_,.int _ _⟩
  simp [binOp,Op.shift,hb]
theorem Jy {t:TypeId} (h:GZ P t=true):P.underlying t=some .bool:=by
 unfold GZ at h;split at h
 ·assumption
 ·cases h
theorem NE {op:BinOp} {t:TypeId} {a b:ByteArray} {p:PV} (h:Ab0 op a.data.toList b.data.toList=some p) :
  ∃ v,(binOp op t (.string a) (.string b)).run P w=.ok v w∧VR C v p:=by
 have ea:a.toList=a.data.toList:=ByteArray.toList_eq a
 have eb:b.toList=b.data.toList:=ByteArray.toList_eq b
 have hsz:∀c:ByteArray,c.data.toList.length=c.size:=fun c=>by rw[Array.length_toList];rfl
 cases op <;> simp only[Ab0]at h <;> first | (cases h;done) | skip
 case add =>
  split at h
  ·rename_i hle
   simp only[Option.some.injEq]at h;subst h
   rw [hsz,hsz]at hle
   refine ⟨.string (a++b),?_,.str _ _ ?_ ?_⟩
   ·have : ¬(IntKind.i64.max<((a.size+b.size:Nat):Int)):=by simp[IntKind.max,IntKind.signed,IntKind.bits];omega
    have h2:¬(9223372036854775807<((a.size:Int)+(b.size:Int))):=by omega
    simp [binOp,Op.stringOp,IntKind.max,IntKind.signed,IntKind.bits,h2]
   ·simp [ByteArray.data_append]
   ·rw [List.length_append,hsz,hsz];simp only[maxLen];omega
  ·cases h
 all_goals
  simp only[Option.some.injEq]at h
  subst h
  refine ⟨_,?_,.bool _⟩
  simp [binOp,Op.stringOp,ea,eb]
  try (by_cases hd:a.data=b.data <;> simp[hd])
theorem UB {op:BinOp} {k k':IntKind} {a b:Int} {p:PV} (h:GR op k k' a b=some p) {t:TypeId}:∃v,(binOp op t (.int k a) (.int k' b)).run P w=.ok v w∧VR C v p:=by
 unfold GR at h
 split at h
 ·exact Jx h (.inl rfl)
 ·exact Jx h (.inr rfl)
 ·rename_i h1 h2
  split at h
  ·rename_i hk;subst hk
   exact Ux ⟨h1,h2⟩ h
  ·cases h
theorem IT {op:BinOp} {ok r:Bool} {p:PV} (h:FJ op ok r=some p):ok=true∧((op=.eql∧p=.bool r)∨(op=.neq∧p=.bool (!r))):=by
 unfold FJ at h
 split at h
 ·split at h
  ·simp only[Option.some.injEq]at h;exact⟨by assumption,.inl ⟨rfl,h.symm⟩⟩
  ·cases h
 ·split at h
  ·simp only[Option.some.injEq]at h;exact⟨by assumption,.inr ⟨rfl,h.symm⟩⟩
  ·cases h
 ·cases h
theorem Rx (w:World) (d:Nat) (t e:TypeId) (a:Option Addr) (n c:Nat) (h:P.underlying t=some (.slice e)):(Op.equalIn (d+1) t (.slice a n c) (.slice none 0 0)).run P w=.ok a.isNone w:=by
 cases a <;> simp[Op.equalIn,run_underlying h]
theorem sC (w:World) (t e:TypeId) (a:Option Addr) (n c:Nat) (h:P.underlying t=some (.slice e)):(binOp .eql t (.slice a n c) (.slice none 0 0)).run P w=.ok (.bool a.isNone) w:=by
 have : (Op.equal t (.slice a n c) (.slice none 0 0)).run P w=.ok a.isNone w:=Rx w 9999 t e a n c h
 simp only[binOp];simp[this]
theorem sD (w:World) (t e:TypeId) (a:Option Addr) (n c:Nat) (h:P.underlying t=some (.slice e)):(binOp .neq t (.slice a n c) (.slice none 0 0)).run P w=.ok (.bool (!a.isNone)) w:=by
 have : (Op.equal t (.slice a n c) (.slice none 0 0)).run P w=.ok a.isNone w:=Rx w 9999 t e a n c h
 simp only[binOp];simp[this]
theorem cZ {op:BinOp} {t:TypeId} {a:Option Addr} {n c:Nat} {r:Bool} {p:PV} (h:FJ op (Ad P t != 0) r=some p) (hr:r=a.isNone) :
  ∃ v,(binOp op t (.slice a n c) (.slice none 0 0)).run P w=.ok v w∧VR C v p:=by
 obtain ⟨hz,h⟩:=IT h
 obtain ⟨e,_,_,he,_⟩:=Bv (t:=t) rfl (Nat.pos_of_ne_zero (by simpa using hz))
 subst hr
 rcases h with ⟨rfl,rfl⟩ | ⟨rfl,rfl⟩
 ·exact ⟨_,sC w t e a n c he,.bool _⟩
 ·exact ⟨_,sD w t e a n c he,.bool _⟩
theorem IB {w:World} {t:TypeId} {u v:Value} {a b:PV} {x:Bool} (hu':VR C u a) (hv':VR C v b) (hxx:Lu P t a b=some x) (d:Nat):(Op.equalIn (d+1) t u v).run P w=.ok x w:=by
 unfold Lu at hxx
 split at hxx
 ·rename_i kk k a' k' b' hty
  have e1:=Cc hu'
  have e2:=Cc hv'
  subst e1 e2
  split at hxx
  ·rename_i hk
   subst hk
   simp only[Option.some.injEq]at hxx;subst hxx
   exact run_equalIn_int w d t _ _ _ _ hty
  ·cases hxx
 ·rename_i a' b' hty
  have e1:=Dj hu'
  have e2:=Dj hv'
  subst e1 e2
  simp only[Option.some.injEq]at hxx;subst hxx
  exact run_equalIn_bool' w d t _ _ hty
 ·cases hxx
theorem Lb {w:World} {xs ys:Array Value} {l m:List PV} (hx:VR C (.agg xs) (.agg l)) (hy:VR C (.agg ys) (.agg m)) (d:Nat):∀(fs:List Field) (r:Bool),Rg P l m fs=some r→(Op.eqFields (d+1) xs ys fs).run P w=.ok r w
 | [],r,h=>by simp only[Rg,Option.some.injEq]at h;subst h;simp[Op.eqFields]
 | f :: fs,r,h=>by
  simp only[Rg]at h
  split at h
  ·cases h
  ·rename_i hn
   split at h
   ·rename_i z a b ht ha hb
    simp only[Option.bind_eq_some_iff,Option.map_eq_some_iff]at h
    obtain ⟨x,hxx,y,hyy,rfl⟩:=h
    have gx:xs.size=l.length∧(∀c∈l,c.isCell=true)∧∀i p,l[i]?=some p→VR C (xs.getD i undef) p:=by
     cases hx with
     | agg cs l hn hc h=>exact⟨hn,hc,h⟩
    have gy:ys.size=m.length∧(∀c∈m,c.isCell=true)∧∀i p,m[i]?=some p→VR C (ys.getD i undef) p:=by
     cases hy with
     | agg cs l hn hc h=>exact⟨hn,hc,h⟩
    obtain ⟨u,hu,hu'⟩:=D8 (w:=w) gx.1 gx.2.1 gx.2.2 ht (off:=f.offset) (p:=a) (by simpa [CI]using ha)
    obtain ⟨v,hv,hv'⟩:=D8 (w:=w) gy.1 gy.2.1 gy.2.2 ht (off:=f.offset) (p:=b) (by simpa [CI]using hb)
    have ih:=Lb (w:=w) hx hy d fs y hyy
    have he:(Op.equalIn (d+1) f.type u v).run P w=.ok x w:=IB hu' hv' hxx d
    simp only[Op.eqFields,ne_eq,hn,not_false_eq_true,if_true,Sem.run_bind,hu,hv,he,Result.andThen_ok]
    cases x
    ·simp
    ·simp [ih]
   ·cases h
theorem Lc {w:World} {xs ys:Array Value} {l m:List PV} (hx:VR C (.agg xs) (.agg l)) (hy:VR C (.agg ys) (.agg m)) {e:TypeId} (ht:Bu P e=some (1,false)) (d:Nat):∀(l' m':List PV) (j:Nat) (r:Bool),l.drop j=l'→m.drop j=m'→LL P e l' m'=some r→(Op.eqItems (d+1) e 1 xs ys (List.range' j l'.length)).run P w=.ok r w
 | [],[],j,r,_,_,h=>by simp only[LL,Option.some.injEq]at h;subst h;simp[Op.eqItems]
 | [],_::_,j,r,_,_,h=>by simp[LL]at h
 | _::_,[],j,r,_,_,h=>by simp[LL]at h
 | a::l',b::m',j,r,h1,h2,h=>by
  simp only[LL,Option.bind_eq_some_iff,Option.map_eq_some_iff]at h
  obtain ⟨x,hxx,y,hyy,rfl⟩:=h
  have ha:l[j]?=some a:=by
   have := congrArg (fun z=>z[0]?) h1
   simpa [List.getElem?_drop]using this
  have hb:m[j]?=some b:=by
   have := congrArg (fun z=>z[0]?) h2
   simpa [List.getElem?_drop]using this
  have g1:l.drop (j+1)=l':=by rw[←List.tail_drop,h1];rfl
  have g2:m.drop (j+1)=m':=by rw[←List.tail_drop,h2];rfl
  have gx:xs.size=l.length∧(∀c∈l,c.isCell=true)∧∀i p,l[i]?=some p→VR C (xs.getD i undef) p:=by
   cases hx with
   | agg cs l hn hc h=>exact⟨hn,hc,h⟩
  have gy:ys.size=m.length∧(∀c∈m,c.isCell=true)∧∀i p,m[i]?=some p→VR C (ys.getD i undef) p:=by
   cases hy with
   | agg cs l hn hc h=>exact⟨hn,hc,h⟩
  obtain ⟨u,hu,hu'⟩:=D8 (w:=w) gx.1 gx.2.1 gx.2.2 ht (off:=j) (p:=a) (by simpa [CI]using ha)
  obtain ⟨v,hv,hv'⟩:=D8 (w:=w) gy.1 gy.2.1 gy.2.2 ht (off:=j) (p:=b) (by simpa [CI]using hb)
  have ih:=Lc (w:=w) hx hy ht d l' m' (j+1) y g1 g2 hyy
  have he:(Op.equalIn (d+1) e u v).run P w=.ok x w:=IB hu' hv' hxx d
  simp only[List.length_cons,List.range'_succ,Op.eqItems,Nat.mul_one,Sem.run_bind,hu,hv,he,Result.andThen_ok]
  cases x
  ·simp
  ·simp [ih]
theorem UC {op:BinOp} {t:TypeId} {x y:Value} {px py p:PV} (hx:VR C x px) (hy:VR C y py) (h:BJ P op t px py=some p) :
  (∃ v,(binOp op t x y).run P w=.ok v w∧VR C v p)∧(∀ox oy,(eqGuard op t ox oy x y).run P w=.ok () w):=by
 have guard:(∀cs,x≠.agg cs)→x≠.nilIface→∀ox oy,(eqGuard op t ox oy x y).run P w=.ok () w:=by
  intro h1 h2 ox oy
  cases op <;> cases x <;> first | (simp[eqGuard];done) | (exact absurd rfl h2) | (exact absurd rfl (h1 _))
 unfold BJ at h
 split at h
 ·have ex:=Cc hx
  have ey:=Cc hy
  subst ex ey
  exact ⟨UB h,guard (by intro cs h;cases h) (by intro h;cases h)⟩
 ·obtain ⟨a,rfl,ea,_⟩:=Ps hx
  obtain ⟨b,rfl,eb,_⟩:=Ps hy
  subst ea eb
  exact ⟨NE h,guard (by intro cs h;cases h) (by intro h;cases h)⟩
 ·rename_i a b
  have ex:=Dj hx
  have ey:=Dj hy
  subst ex ey
  refine ⟨?_,guard (by intro cs h;cases h) (by intro h;cases h)⟩
  obtain ⟨hb,h⟩:=IT h
  rcases h with ⟨rfl,rfl⟩ | ⟨rfl,rfl⟩
  ·exact ⟨_,run_eql_bool w t a b (Jy hb),.bool _⟩
  ·exact ⟨_,run_neq_bool w t a b (Jy hb),.bool _⟩
 ·cases hx
  cases hy
  exact ⟨cZ h rfl,guard (by intro cs h;cases h) (by intro h;cases h)⟩
 ·cases hy
  cases hx with
  | lits b o size cap _ hcap hmax hszz hl hi' hv=>exact⟨cZ h rfl,guard (by intro cs h;cases h) (by intro h;cases h)⟩
 ·rename_i l m
  split at h
  ·rename_i hc
   simp only[Option.bind_eq_some_iff]at h
   obtain ⟨r,hr,h⟩:=h
   obtain ⟨hb,h⟩:=IT h
   obtain ⟨xs,rfl⟩:∃xs,x=.agg xs:=by cases hx;exact⟨_,rfl⟩
   obtain ⟨ys,rfl⟩:∃ys,y=.agg ys:=by cases hy;exact⟨_,rfl⟩
   have he:(Op.equalIn 10000 t (.agg xs) (.agg ys)).run P w=.ok r w:=by
    by_cases hb:LM P t=true
    ·rw [if_pos hb]at hr
     have ht:P.underlying t=some (.struct (P.fieldsOf t)):=by
      unfold LM at hb
      unfold Program.fieldsOf
      split at hb
      ·rename_i fs hfs;rw[hfs]
      ·cases hb
     rw [run_equalIn_agg w 9999 t xs ys ht hc.1]
     exact Lb hx hy 9998 _ r hr
    ·rw [if_neg hb]at hr
     unfold Aa2 at hr
     split at hr
     ·rename_i n e hu
      split at hr
      ·rename_i hcc
       obtain ⟨c1,c2,c3,c4⟩:=hcc
       obtain ⟨i,hi⟩:=Option.isSome_iff_exists.1 c3
       rw [run_equalIn_array w 9999 xs ys hu hi,c1,List.range_eq_range']
       have := Lc (w:=w) hx hy c2 9998 l m 0 r rfl rfl hr
       rwa [c4]at this
      ·cases hr
     ·cases hr
   refine ⟨?_,fun ox oy=>run_eqGuard_agg w op t ox oy xs ys hc.2⟩
   rcases h with ⟨rfl,rfl⟩ | ⟨rfl,rfl⟩
   ·exact ⟨_,by rw[run_eql_struct,he];rfl,.bool _⟩
   ·exact ⟨_,by rw[run_neq_struct,he];rfl,.bool _⟩
  ·cases h
 ·cases h
theorem Yn {op:UnOp} {x:Value} {px p:PV} (hx:VR C x px) (h:unP op px=some p):∃v,(Op.unary op x).run P w=.ok v w∧VR C v p:=by
 unfold unP at h
 split at h
 ·have ex:=Cc hx;subst ex
  simp only[Option.some.injEq]at h;subst h
  exact ⟨_,by simp[Op.unary,Op.intArith],.int _ _⟩
 ·have ex:=Dj hx;subst ex
  simp only[Option.some.injEq]at h;subst h
  exact ⟨_,by simp[Op.unary],.bool _⟩
 ·have ex:=Cc hx;subst ex
  simp only[Cw,Option.map_some,Option.some.injEq]at h;subst h
  exact ⟨_,by simp[Op.unary,Op.intBits],.int _ _⟩
 ·cases h
theorem Ld {t:TypeId} {k:IntKind} (h:ER P t=some k):P.underlying t=some (.int k):=by
 unfold ER at h;split at h
 ·simp at h;subst h;assumption
 ·cases h
theorem Ry {s t:TypeId} {x:Value} {px p:PV} (hx:VR C x px) (h:N0 P s t px=some p):∃v,(convert s t x).run P w=.ok v w∧VR C v p:=by
 unfold N0 at h
 split at h
 ·have ex:=Cc hx;subst ex
  simp only[Option.bind_eq_some_iff,Option.some.injEq]at h
  obtain ⟨k,hk,k',hk',rfl⟩:=h
  exact ⟨_,by simp[convert,run_underlying (Ld hk),run_underlying (Ld hk'),Conv.intToInt],.int _ _⟩
 ·split at h
  ·rename_i hc
   simp only[Option.some.injEq]at h;subst h
   obtain ⟨b,rfl,eb⟩:=Ps hx
   exact ⟨_,by simp[convert,run_underlying (Dz hc.1),run_underlying (Dz hc.2)],.str _ _ eb.1 eb.2⟩
  ·cases h
 ·cases h
theorem Jz {mx:Bool} {x y:Value} {px py p:PV} (hx:VR C x px) (hy:VR C y py) (h:Fm mx px py=some p) (ts:Array TypeId) (t:TypeId) :
  ∃ v,((if mx then Builtin.max_ ts t #[x,y]else Builtin.min_ ts t #[x,y]):Sem Value).run P w=.ok v w∧VR C v p:=by
 unfold Fm at h
 split at h
 ·have ex:=Cc hx;have ey:=Cc hy
  subst ex ey
  split at h
  ·rename_i hk;subst hk
   simp only[Option.some.injEq]at h;subst h
   cases mx
   ·exact ⟨_,run_min_int2 w ts t _ _ _ _,.int _ _⟩
   ·exact ⟨_,run_max_int2 w ts t _ _ _ _,.int _ _⟩
  ·cases h
 ·cases h
def Res (P:Program) (r:Result Next) (R:Value→World→Prop):Prop :=
 match r with
 | .ok (.value v) w'=>R v w'
 | .ok .skip w'=>R undef w'
 | .ok (.enter f args) w'=>Calls P f args w' fun e w''=>∃v,e=.returned v∧R v w''
 | _=>False
def DN (P : Program) (f : FuncId) : Prop := ∃ fn, P.funcs[f]? = some fn ∧ fn.body.isSome = true ∧ (fn.name == "runtime.NumGoroutine") = false
def IXC (P:Program) (f:FuncId) (args:List PV) (st:Store) (Q:PV→Store→Prop):Prop :=
 DN P f∧∀C w (vals:Array Value),Inv C st w→VRs C vals args→Calls P f vals w fun e w'=>∃v C' r st',e=.returned v∧C.le C'∧Inv C' st' w'∧VR C' v r∧Q r st'
where VRs (C:Ctx) (vals:Array Value) (args:List PV):Prop:=vals.size=args.length∧∀(i:Nat) (p:PV),args[i]?=some p→VR C (vals.getD i undef) p
def El (X:Cfg):Prop:=∀f args st r st',X.tab f args st=some (r,st')→IXC X.P f args st fun r' st''=>r'=r∧st''=st'
theorem Gh {f:FuncId} {args:Array Value} (h:DN P f):(callFunc f args).run P w=.ok (.enter f args) w:=by
 obtain ⟨fn,h1,h2,h3⟩:=h
 have h4 : ¬ fn.name = "runtime.NumGoroutine" := by simpa using h3
 have h5:fn.body≠none:=by intro e;simp[e]at h2
 simp [callFunc,h1,h4,h5]
theorem Res.value {s:Sem Value} {v:Value} {w':World} {R:Value→World→Prop} (h:s.run P w=.ok v w') (hr:R v w'):Res P ((do let x ←s;pure (Next.value x):Sem Next).run P w) R:=by
 simp only[Sem.run_bind,h,Result.andThen,Sem.run_pure,Res];exact hr
theorem Res.unit {s:Sem Unit} {w':World} {R:Value→World→Prop} (h:s.run P w=.ok () w') (hr:R undef w'):Res P ((do s;pure Next.skip:Sem Next).run P w) R:=by
 simp only[Sem.run_bind,h,Result.andThen,Sem.run_pure,Res];exact hr
def Post (C:Ctx) (st':Store) (p:PV) (v:Value) (w':World):Prop:=∃C',C.le C'∧Inv C' st' w'∧VR C' v p
theorem Post.same (hi:Inv C st w) {v:Value} {p:PV} (h:VR C v p):Post C st p v w:=⟨C,Ctx.le.refl C,hi,h⟩
theorem sE {t:TypeId} {x:Value} {px p:PV} {st':Store} (hi:Inv C st w) (hx:VR C x px) (h:Yh P st t px=some (p,st')):Res P ((do let v ←Instr.sliceAt t x none none none;pure (Next.value v):Sem Next).run P w) (Post C st' p):=by
 unfold Yh at h
 split at h
 ·rename_i id gen idx off
  simp only[Option.bind_eq_some_iff]at h
  obtain ⟨⟨z,es⟩,ho,⟨n,m⟩,har,h⟩:=h
  dsimp only at h
  split at h
  ·rename_i hc
   obtain ⟨rfl,hidx,hp,hoff,h0,hmx⟩:=hc
   simp only[Option.some.injEq,Prod.mk.injEq]at h
   obtain ⟨rfl,rfl⟩:=h
   obtain ⟨h1,h2,h3⟩:=hi.without [id]
   obtain ⟨L,hL,hb,hg,hLz,hz,hcap,hat⟩:=hi.arr ho
   have hvp:VR (C.closeIn [id] w) x (.vptr (nth es idx).cells off):=by
    cases hx with
    | ptr _ _ _ _ _ _ _ _ hr =>
     rw [hr L hL hg.symm]
     obtain ⟨k1,k2,cs,T,k3,k4,k5⟩:=hat (by omega)
     obtain ⟨m1,m2,m3⟩:=k5 idx _ (CZ hidx)
     have hmb:=Bg (z:=L.size) hidx hcap
     have himm:∀j,j<(nth es idx).cells.length→(C.closeIn [id] w).imm L.blk (L.off+idx*L.size+j)=some (cs.getD (L.off+idx*L.size+j) undef):=fun j hj=>by
      have hlt:L.off+idx*L.size+j<cs.size:=by omega
      refine h3 id L (by simp) hL (by omega) _ _ ?_
      rw [EV k3,Array.getElem?_eq_getElem hlt]
      simp [Array.getD,hlt]
     refine .vptr L.blk (L.off+idx*L.size) off _ m2 (fun j hj=>by rw[himm j hj];rfl) (fun j c hj=>?_)
     have hjl:j<(nth es idx).cells.length:=(List.getElem?_eq_some_iff.1 hj).1
     rw [himm j hjl]
     exact (m3 j c hj).mono h1
   have hq:Ck (st.without [id]) (Ad P t) (AT P t) (BH P t) (.vptr (nth es idx).cells off) none none=some (.lits 1 (((nth es idx).cells.drop off).take n)):=by
    simp only[Ck,har,Option.bind_some]
    rw [if_pos ⟨trivial,trivial,trivial,hoff,h0,hmx⟩]
   obtain ⟨v,hv,hv'⟩:=K7 (P:=P) h2 hvp (t:=t) (lo:=none) (hii:=none) (fun d=>.inl ⟨rfl,rfl⟩) (fun d=>.inl ⟨rfl,rfl⟩) hq
   exact Res.value hv ⟨_,h1,h2,hv'⟩
  ·cases h
 ·cases h
theorem Rz {t:TypeId} {z:Nat} {ag:Bool} {x:Value} {px q:PV} (hi:Inv C st w) (hx:VR C x px) (ht:Bu P t=some (z,ag)) (hq:Dh st z ag px=some q) :
  ∃ a u,x=.pointer (some a)∧(loadVar t a).run P w=.ok u w∧VR C u q:=by
 have hp:∃cells off,Kp C w x cells off∧CI cells off z ag=some q:=by
  unfold Dh at hq
  split at hq
  ·exact ⟨_,_,Fo hi hx,hq⟩
  ·rename_i id gen idx off
   simp only[Option.bind_eq_some_iff]at hq
   obtain ⟨⟨z',es⟩,hes,hq⟩:=hq
   have hne:(nth es idx).cells ≠ []:=by
    intro e0
    obtain ⟨_,hpos,rfl,rfl⟩:=D6 ht
    simp only[CI,e0]at hq
    split at hq
    ·split at hq
     ·rename_i hle;simp at hle;omega
     ·cases hq
    ·simp at hq
   exact ⟨_,_,IM hi hx hes (Pn hne),hq⟩
  ·cases hq
 obtain ⟨cells,off,hp,hq⟩:=hp
 obtain ⟨u,hu,hu'⟩:=IN hp ht hq
 obtain ⟨b,o,rfl,_⟩:=hp
 refine ⟨_,u,rfl,?_,hu'⟩
 have e1:(Instr.loadAt t (.pointer (some ⟨b,o+off,none⟩))).run P w=(loadVar t ⟨b,o+off,none⟩).run P w:=by
  simp [Instr.loadAt,Instr.sureAddr]
 rw [←e1];exact hu
theorem RA {t:TypeId} {name:String} {f:Nat} {pr:Bool} {e:TypeId} (h:Jr P t name=some (f,pr,e)) :
  ∃ i m,P.info? t=some i∧P.underlying t=some (.pointer e)∧i.methods.find? (·.name==name)=some m∧m.path.isEmpty=true∧m.func=some (f,pr):=by
 unfold Jr at h
 split at h
 ·rename_i i e' hi hu
  simp only[Option.bind_eq_some_iff]at h
  obtain ⟨m,hm,h⟩:=h
  split at h
  ·rename_i hp
   simp only[Option.map_eq_some_iff,Prod.mk.injEq]at h
   obtain ⟨⟨f',pr'⟩,hf,rfl,rfl,rfl⟩:=h
   exact ⟨i,m,hi,hu,hm,hp,hf⟩
  ·cases h
 ·cases h
theorem Yo {x:Value} {px:PV} {name:String} {f:Nat} {r:PV} (hi:Inv C st w) (hx:VR C x px) (h:cU P st px name=some (f,r)) :
  ∃ t u u',x=.iface t u∧(∀n,(method (n+1) t u name).run P w=.ok (f,u') w)∧VR C u' r:=by
 unfold cU at h
 split at h
 ·rename_i t v
  cases hx with
  | iface _ u _ hu =>
   simp only[Option.bind_eq_some_iff]at h
   obtain ⟨⟨f',pr,e⟩,hm,h⟩:=h
   obtain ⟨i,m,h1,h2,h3,h4,h5⟩:=RA hm
   have hti:(typeInfo t).run P w=.ok i w:=by simp[typeInfo,h1]
   have hpe:m.path.toList = []:=by simpa using h4
   dsimp only at h
   split at h
   ·rename_i hpr
    simp only[Option.some.injEq,Prod.mk.injEq]at h
    obtain ⟨rfl,rfl⟩:=h
    subst hpr
    refine ⟨t,u,u,rfl,fun n=>?_,hu⟩
    simp only[method,Sem.run_bind,hti,Result.andThen,h3,hpe,follow,Sem.run_pure,h5,receiverAt,run_underlying h2,Place.get]
   ·rename_i hpr
    simp only[Option.bind_eq_some_iff,Option.map_eq_some_iff,Prod.mk.injEq]at h
    obtain ⟨⟨z,ag⟩,ht,q,hq,rfl,rfl⟩:=h
    have hpr:pr=false:=by simpa using hpr
    subst hpr
    obtain ⟨a,u',rfl,hl,hu'⟩:=Rz hi hu ht hq
    refine ⟨t,_,u',rfl,fun n=>?_,hu'⟩
    have hck : ∀ ts t' n a, Builtin.ssaWrapNilChk_ ts t' #[.pointer (some a), strVal "", strVal n] = (pure (.pointer (some a)) : Sem Value) := fun _ _ _ _ => rfl
    simp only[method,Sem.run_bind,hti,Result.andThen,h3,hpe,follow,Sem.run_pure,h5,receiverAt,run_underlying h2,Place.get,h4,if_true,hck,asAddr,hl]
 ·cases h
theorem RB {X:Cfg} (hX:El X) {d:Nat} {n:Sem Next} {f':Nat} {fi ca:List PV} {ts:List TypeId} {args:Array Operand} {ρ:Operand→PV} {ev:Operand→Value} {p:PV} {st':Store} (hi:Inv C st w)
  (hev : ∀x,VR C (ev x) (ρ x)) {first captured:Array Value} (h1:first.size=fi.length) (h2:captured.size=ca.length) (h3:∀i p,fi[i]?=some p→VR C (first.getD i undef) p) (h4:∀i p,ca[i]?=some p→VR C (captured.getD i undef) p)
  (hrun : DN X.P f'→n.run X.P w=.ok (.enter f' (first++args.map ev++captured)) w) (h:Dy X d (.func (.func f') fi ca) ts (args.toList.map ρ) st=some (p,st')):Res X.P (n.run X.P w) (Post C st' p):=by
 unfold Dy at h
 dsimp only at h
 have hvals0:IXC.VRs C (first++args.map ev++captured) (fi++nrmAll X.P ts (args.toList.map ρ)++ca):=by
  refine ⟨by simp[h1,h2,Dk],fun i q hq=>?_⟩
  simp only[List.append_assoc]at hq
  rcases Nat.lt_or_ge i fi.length with hi1 | hi1
  ·rw [List.getElem?_append_left hi1]at hq
   have := h3 i q hq
   have e:(first++args.map ev++captured).getD i undef=first.getD i undef:=by
    simp only[Array.getD_eq_getD_getElem?,Array.append_assoc]
    rw [Array.getElem?_append_left (by omega)]
   rw [e];exact this
  ·rw [List.getElem?_append_right hi1]at hq
   rcases Nat.lt_or_ge (i-fi.length) args.size with hi2 | hi2
   ·rw [List.getElem?_append_left (by simpa [Dk]using hi2)]at hq
    have e:(first++args.map ev++captured).getD i undef=(args.map ev).getD (i-fi.length) undef:=by
     simp only[Array.getD_eq_getD_getElem?,Array.append_assoc]
     rw [Array.getElem?_append_right (by omega),h1,Array.getElem?_append_left (by simpa using hi2)]
    rw [e]
    refine VR.nrmAll (P:=X.P) (vals:=fun i=>(args.map ev).getD i undef) (fun j p hp=>?_) _ q hq
    simp only[List.getElem?_map,Option.map_eq_some_iff]at hp
    obtain ⟨x,hx,rfl⟩:=hp
    have e:(args.map ev).getD j undef=ev x:=by
     rw [Array.getElem?_toList]at hx
     simp [Array.getD_eq_getD_getElem?,hx]
    rw [e];exact hev x
   ·rw [List.getElem?_append_right (by simpa [Dk]using hi2)]at hq
    have hq':ca[i-fi.length-args.size]?=some q:=by simpa [Dk]using hq
    have := h4 _ q hq'
    have e:(first++args.map ev++captured).getD i undef=captured.getD (i-fi.length-args.size) undef:=by
     simp only[Array.getD_eq_getD_getElem?,Array.append_assoc]
     rw [Array.getElem?_append_right (by omega),h1,Array.getElem?_append_right (by simpa using hi2)]
     simp
    rw [e];exact this
 obtain ⟨C1,st1,as,hC1,hi,hvals,h⟩:∃C1 st1 as,C.le C1∧Inv C1 st1 w∧IXC.VRs C1 (first++args.map ev++captured) as∧X.tab f' as st1=some (p,st'):=by
  split at h
  ·split at h
   ·split at h
    ·simp only[Option.bind_eq_some_iff]at h
     obtain ⟨as,has,h⟩:=h
     obtain ⟨g1,g2⟩:=hi.again [X.num d-1]
     obtain ⟨g4,g5⟩:=VR.freezeAgain hi _ has hvals0.2
     refine ⟨_,st.again (X.num d-1),as,g1,?_,⟨by rw[hvals0.1,g4],g5⟩,h⟩
     have e:st.again (X.num d-1)=⟨fun i=>if [X.num d-1].contains i=true then (st.obj i).bind Cm else st.obj i,st.next⟩:=by
      unfold Store.again
      congr 1
      funext i
      by_cases hc:i=X.num d-1
      ·subst hc;simp[Aa]
      ·simp [Aa,hc]
     rw [e];exact g2
    ·cases h
   simp only[Option.bind_eq_some_iff]at h
   obtain ⟨as,has,h⟩:=h
   split at h
   ·obtain ⟨g1,g2,g3⟩:=hi.without (DL (fi++nrmAll X.P ts (args.toList.map ρ)++ca))
    obtain ⟨g4,g5⟩:=VR.freezeAll hi _ has hvals0.2
    exact ⟨_,_,as,g1,g2,⟨by rw[hvals0.1,g4],g5⟩,h⟩
   ·obtain ⟨g1,g2⟩:=hi.seal (DL (fi++nrmAll X.P ts (args.toList.map ρ)++ca))
    obtain ⟨g4,g5⟩:=VR.freezeAgain hi _ has hvals0.2
    exact ⟨_,_,as,g1,g2,⟨by rw[hvals0.1,g4],g5⟩,h⟩
  ·split at h
   ·cases h
   ·exact ⟨C,st,_,Ctx.le.refl C,hi,hvals0,h⟩
 obtain ⟨hen,hcall⟩:=hX _ _ _ _ _ h
 have hc:=hcall C1 w _ hi hvals
 rw [hrun hen]
 refine Calls.mono hc fun e w' he=>?_
 obtain ⟨v,C',r,st1,rfl,h5,h6,h7,rfl,rfl⟩:=he
 exact ⟨v,rfl,C',hC1.trans h5,h6,h7⟩
theorem Yp {X:Cfg} (hX:El X) {d:Nat} {o:Oper} {ρ:Operand→PV} {p:PV} {st':Store} (h:iop X d o.op ρ st=some (p,st')) (hi:Inv C st w) {ev:Operand→Value}
  (hev : ∀x,VR C (ev x) (ρ x)):Res X.P ((execOp ev o).run X.P w) (Post C st' p):=by
 obtain ⟨dst,op,ty,pos,after,guard⟩:=o
 dsimp only at h
 cases op <;> simp only[iop]at h <;> first | (cases h;done) | skip
 case move x =>
  simp only[Option.some.injEq,Prod.mk.injEq]at h;obtain⟨rfl,rfl⟩:=h
  exact Post.same hi (hev x)
 case assign x =>
  simp only[Option.some.injEq,Prod.mk.injEq]at h;obtain⟨rfl,rfl⟩:=h
  exact Post.same hi (hev x)
 case pick c a b =>
  split at h
  ·rename_i v hc
   simp only[Option.some.injEq,Prod.mk.injEq]at h;obtain⟨rfl,rfl⟩:=h
   have hcv:=hev c
   rw [hc]at hcv
   have := Dj hcv
   simp only[execOp,this,asBool,Sem.run_bind,Sem.run_pure,Result.andThen,Res]
   cases v
   ·exact Post.same hi (hev b)
   ·exact Post.same hi (hev a)
  ·cases h
 case alloc t =>
  split at h
  ·rename_i hc
   obtain ⟨h1,h2⟩:=hc
   obtain ⟨i,hin,hsz⟩:=Ix h1
   have hz:∃zv,i.zero=some zv∧AD X.P t=Bh zv:=by
    unfold AD at h2 ⊢
    cases hz:i.zero with
    | none=>simp[hin,hz,PV.cells]at h2;omega
    | some zv=>exact⟨zv,rfl,by simp[hin,hz]⟩
   obtain ⟨zv,hzv,hz0⟩:=hz
   rw [hz0]at h2 h
   split at h
   rotate_left
   ·unfold Store.reP at h
    split at h
    ·rename_i g z0 es0 ho
     simp only[Option.some.injEq,Prod.mk.injEq]at h;obtain⟨rfl,rfl⟩:=h
     obtain ⟨C',a,b,c⟩:=Rj hi (Cn (C:=C) zv) (by omega) t ho
     rw [h2]at b
     exact Res.value (N4 t i zv hin hzv) ⟨C',a,b,c⟩
    ·cases h
   simp only[Option.some.injEq,Prod.mk.injEq]at h;obtain⟨rfl,rfl⟩:=h
   obtain ⟨C',a,b,c⟩:=Js hi (Cn (C:=C) zv) (by omega) t
   rw [h2]at b
   exact Res.value (N4 t i zv hin hzv) ⟨C',a,b,c⟩
  ·cases h
 case box t x =>
  split at h
  ·rename_i hc
   split at h
   ·simp only[Option.some.injEq,Prod.mk.injEq]at h;obtain⟨rfl,rfl⟩:=h
    obtain ⟨C',a,b,c⟩:=Js hi (hev x) hc t
    exact Res.value (WD t (ev x)) ⟨C',a,b,c⟩
   ·simp only[Option.some.injEq,Prod.mk.injEq]at h;obtain⟨rfl,rfl⟩:=h
    obtain ⟨C',a,b,c⟩:=Yj hi (hev x) hc t
    exact Res.value (WD t (ev x)) ⟨C',a,b,c⟩
  ·cases h
 case build t parts =>
  simp only[Option.map_eq_some_iff,Prod.mk.injEq]at h
  obtain ⟨q,hq,rfl,rfl⟩:=h
  obtain ⟨v,hv,hv'⟩:=Rp (P:=X.P) (w:=w) (C:=C) (parts:=parts.map fun (i,x)=>(i,ev x)) (by simp) (fun k i v j p h1 h2=>by
   simp only[Array.toList_map,List.getElem?_map,Option.map_eq_some_iff,Prod.mk.injEq]at h1 h2
   obtain ⟨⟨a,b⟩,e1,rfl,rfl⟩:=h1
   obtain ⟨⟨a',b'⟩,e2,rfl,rfl⟩:=h2
   rw [e1]at e2;cases e2
   exact ⟨rfl,hev b⟩) hq
  exact Res.value hv (Post.same hi hv')
 case buildSlice t len parts =>
  split at h
  ·rename_i hc
   simp only[Option.bind_eq_some_iff]at h
   obtain ⟨l,hl,he⟩:=h
   obtain ⟨v,w',hv,h1,h2,h3⟩:=Kq (P:=X.P) hi (parts:=parts.map fun (i,x)=>(i,ev x)) (by simp) (fun k i v j p h1 h2=>by
    simp only[Array.toList_map,List.getElem?_map,Option.map_eq_some_iff,Prod.mk.injEq]at h1 h2
    obtain ⟨⟨a,b⟩,e1,rfl,rfl⟩:=h1
    obtain ⟨⟨a',b'⟩,e2,rfl,rfl⟩:=h2
    rw [e1]at e2;cases e2
    exact ⟨rfl,hev b⟩) hc.1 hc.2 hl
   split at he
   ·split at he
    ·simp only[Option.some.injEq,Prod.mk.injEq]at he;obtain⟨rfl,rfl⟩:=he
     exact Res.value hv h2
    ·unfold Store.re at he
     split at he
     ·rename_i g z0 es0 ho
      simp only[Option.some.injEq,Prod.mk.injEq]at he;obtain⟨rfl,rfl⟩:=he
      exact Res.value hv (h3 _ _ _ _ ho)
     ·cases he
   ·simp only[Option.some.injEq,Prod.mk.injEq]at he;obtain⟨rfl,rfl⟩:=he
    exact Res.value hv h1
  ·cases h
 case load t x =>
  simp only[Option.bind_eq_some_iff,Option.map_eq_some_iff,Prod.mk.injEq]at h
  obtain ⟨⟨z,ag⟩,ht,q,hq,rfl,rfl⟩:=h
  replace hq:=Yi hq
  have hx:=hev x
  have hp:∃cells off,Kp C w (ev x) cells off∧CI cells off z ag=some q:=by
   unfold Dh at hq
   split at hq
   ·rename_i hr;rw[hr]at hx
    exact ⟨_,_,Fo hi hx,hq⟩
   ·rename_i id gen idx off hr
    rw [hr]at hx
    simp only[Option.bind_eq_some_iff]at hq
    obtain ⟨⟨z',es⟩,hes,hq⟩:=hq
    have hne:(nth es idx).cells ≠ []:=by
     intro e0
     obtain ⟨_,hpos,rfl,rfl⟩:=D6 ht
     simp only[CI,e0]at hq
     split at hq
     ·split at hq
      ·rename_i hle;simp at hle;omega
      ·cases hq
     ·simp at hq
    exact ⟨_,_,IM hi hx hes (Pn hne),hq⟩
   ·cases hq
  obtain ⟨cells,off,hp,hq⟩:=hp
  obtain ⟨u,hu,hu'⟩:=IN hp ht hq
  exact Res.value hu (Post.same hi hu')
 case store t a x =>
  split at h
  ·cases h
  simp only[Option.map_eq_some_iff,Prod.mk.injEq]at h
  obtain ⟨st1,hst,rfl,rfl⟩:=h
  obtain ⟨w',C',h1,h2,h3⟩:=Rk hi (hev a) (hev x) hst
  exact Res.unit h1 ⟨C',h2,h3,.bad _⟩
 case nilCheck x =>
  have hx:=hev x
  split at h
  ·rename_i hr
   simp only[Option.some.injEq,Prod.mk.injEq]at h;obtain⟨rfl,rfl⟩:=h
   rw [hr]at hx
   obtain ⟨b,o,he,_⟩:=Fo hi hx
   simp only[execOp,he]
   rw [he]at hx
   exact Post.same hi hx
  ·rename_i id g xx o hr
   rw [hr]at hx
   simp only[Option.map_eq_some_iff,Prod.mk.injEq]at h
   obtain ⟨⟨z,es⟩,hes,rfl,rfl⟩:=h
   obtain ⟨L,hL,_,hg,_⟩:=hi.arr (HX _ _ _ hes)
   have : ∃a,ev x=.pointer (some a):=by
    generalize ev x=vx at hx
    cases hx with
    | ptr _ _ _ _ _ hv hb hg' h'=>exact⟨_,h' L hL hg.symm⟩
   obtain ⟨a,ha⟩:=this
   simp only[execOp,ha]
   rw [ha]at hx
   exact Post.same hi hx
  ·cases h
 case binOp op t x y _ =>
  simp only[Option.map_eq_some_iff,Prod.mk.injEq]at h
  obtain ⟨q,hq,rfl,rfl⟩:=h
  obtain ⟨⟨v,hv,hv'⟩,hg⟩:=UC (w:=w) (hev x) (hev y) hq
  refine Res.value (v:=v) (w':=w) ?_ (Post.same hi hv')
  simp only[Sem.run_bind,hg,Result.andThen,hv]
 case unOp op _ x =>
  simp only[Option.map_eq_some_iff,Prod.mk.injEq]at h
  obtain ⟨q,hq,rfl,rfl⟩:=h
  obtain ⟨v,hv,hv'⟩:=Yn (P:=X.P) (w:=w) (hev x) hq
  exact Res.value hv (Post.same hi hv')
 case convert s t x =>
  simp only[Option.map_eq_some_iff,Prod.mk.injEq]at h
  obtain ⟨q,hq,rfl,rfl⟩:=h
  obtain ⟨v,hv,hv'⟩:=Ry (w:=w) (hev x) hq
  exact Res.value hv (Post.same hi hv')
 case makeFunc fn first captured =>
  simp only[Option.some.injEq,Prod.mk.injEq]at h;obtain⟨rfl,rfl⟩:=h
  have hm:∀(a:Array Operand),(a.map ev).size=(a.toList.map ρ).length∧∀(i:Nat) (p:PV),(a.toList.map ρ)[i]?=some p→VR C ((a.map ev).getD i undef) p:=fun a=>by
   refine ⟨by simp,fun i p hp=>?_⟩
   simp only[List.getElem?_map,Option.map_eq_some_iff]at hp
   obtain ⟨x,hx,rfl⟩:=hp
   have hlt:i<a.size:=by have:=(List.getElem?_eq_some_iff.1 hx).1;simpa using this
   have : a[i]=x:=by
    have :=(List.getElem?_eq_some_iff.1 hx).2;simpa using this
   have e:(a.map ev).getD i undef=ev x:=by simp[Array.getD,hlt,this]
   rw [e];exact hev x
  refine Res.value (v:=.func fn (first.map ev) (captured.map ev)) (w':=w) (by simp[Instr.makeFunc]) (Post.same hi ?_)
  exact .func _ _ _ _ _ (hm first).1 (hm captured).1 (hm first).2 (hm captured).2
 case makeMap t r =>
  simp only[Option.bind_eq_some_iff,Option.map_eq_some_iff,Prod.mk.injEq]at h
  obtain ⟨⟨mk,z⟩,ht,n,hr,rfl,rfl⟩:=h
  obtain ⟨kt,et,i,zv,h1,h2,h3,_,h5⟩:=DA ht
  obtain ⟨q1,q2⟩:=NC hi mk
  refine Res.value (v:=.map (some w.heap.size)) (w':=w.alloc (.map #[] 0)) ?_ ⟨_,q1,q2,Rv hi⟩
  cases r with
  | none=>simp[Instr.makeMap]
  | some r =>
   have hev':=hev r
   dsimp only at hr
   cases hp:ρ r <;> rw[hp]at hr <;> simp only[CY,reduceCtorEq]at hr
   rw [hp]at hev'
   have := Cc hev'
   simp [Instr.makeMap,run_underlying h1,this,asInt,asIntOf]
 case insert t m k v =>
  simp only[Option.map_eq_some_iff,Prod.mk.injEq]at h
  obtain ⟨st1,hst,rfl,rfl⟩:=h
  obtain ⟨w',C',h1,h2,h3⟩:=Jw (P:=X.P) hi (hev m) (hev k) (hev v) hst
  exact Res.unit h1 ⟨C',h2,h3,.bad _⟩
 case mapUpdate t m k v =>
  simp only[Option.map_eq_some_iff,Prod.mk.injEq]at h
  obtain ⟨st1,hst,rfl,rfl⟩:=h
  obtain ⟨w',C',h1,h2,h3⟩:=Jw (P:=X.P) hi (hev m) (hev k) (hev v) hst
  exact Res.unit h1 ⟨C',h2,h3,.bad _⟩
 case mapEntry t m k =>
  obtain ⟨v,w',C',h1,h2,h3,h4⟩:=NB (P:=X.P) hi (hev m) (hev k) h
  exact Res.value h1 ⟨C',h2,h3,h4⟩
 case entryStore t m s x =>
  simp only[Option.map_eq_some_iff,Prod.mk.injEq]at h
  obtain ⟨st1,hst,rfl,rfl⟩:=h
  obtain ⟨w',C',h1,h2,h3⟩:=LS (P:=X.P) (t:=t) hi (hev m) (hev s) (hev x) hst
  exact Res.unit h1 ⟨C',h2,h3,.bad _⟩
 case lookup t m k ok =>
  simp only[Option.map_eq_some_iff,Prod.mk.injEq]at h
  obtain ⟨q,hq,rfl,rfl⟩:=h
  obtain ⟨v,hv,hv'⟩:=Pw (P:=X.P) hi (hev m) (hev k) hq
  exact Res.value hv (Post.same hi hv')
 case range t m =>
  obtain ⟨v,w',C',h1,h2,h3,h4⟩:=LV (P:=X.P) hi (hev m) h
  exact Res.value h1 ⟨C',h2,h3,h4⟩
 case entry x =>
  simp only[Option.map_eq_some_iff,Prod.mk.injEq]at h
  obtain ⟨q,hq,rfl,rfl⟩:=h
  obtain ⟨v,hv,hv'⟩:=LW (P:=X.P) hi (hev x) hq
  exact Res.value hv (Post.same hi hv')
 case makeSlice t l c =>
  split at h
  ·rename_i n m hn hm
   split at h
   ·rename_i hc
    have h1:=hev l;have h2:=hev c
    rw [hn]at h1;rw[hm]at h2
    have e1:=Cc h1;have e2:=Cc h2
    obtain ⟨v,w',C',g1,g2,g3,g4,g5,g6⟩:=Uw hi hc.1 hc.2.1 hc.2.2.1 hc.2.2.2
    split at h
    ·split at h
     ·simp only[Option.some.injEq,Prod.mk.injEq]at h;obtain⟨rfl,rfl⟩:=h
      exact Res.value (v:=v) (w':=w') (by rw[e1,e2];exact g1) g6
     simp only[Option.some.injEq,Prod.mk.injEq]at h;obtain⟨rfl,rfl⟩:=h
     exact Res.value (v:=v) (w':=w') (by rw[e1,e2];exact g1) ⟨C',g2,g3,g4⟩
    ·unfold Store.re at h
     split at h
     ·rename_i g z0 es0 ho
      simp only[Option.some.injEq,Prod.mk.injEq]at h;obtain⟨rfl,rfl⟩:=h
      exact Res.value (v:=v) (w':=w') (by rw[e1,e2];exact g1) (g5 _ _ _ _ ho)
     ·cases h
   ·cases h
  ·cases h
 case slice t x lo hii mx =>
  cases mx with
  | some m=>simp at h
  | none =>
   dsimp only at h
   split at h
   ·split at h
    ·exact sE hi (hev x) h
    ·cases h
   have key:∃l hh:Option Int,lo.map (CY∘ρ)=l.map some∧hii.map (CY∘ρ)=hh.map some∧(Ck (X.see d st) (Ad X.P t) (AT X.P t) (BH X.P t) (ρ x) l hh).map (fun v=>(v,st))=some (p,st'):=by
    split at h
    ·cases h
    ·cases h
    ·rename_i h1 h2
     refine ⟨(lo.map (CY∘ρ)).bind id,(hii.map (CY∘ρ)).bind id,?_,?_,h⟩
     ·cases lo with
      | none=>rfl
      | some a=>cases ha:CY (ρ a)with
       | none=>exact absurd (by simp[ha]) h1
       | some n=>simp[ha]
     ·cases hii with
      | none=>rfl
      | some a=>cases ha:CY (ρ a)with
       | none=>exact absurd (by simp[ha]) h2
       | some n=>simp[ha]
   obtain ⟨l,hh,h1,h2,h⟩:=key
   simp only[Option.map_eq_some_iff,Prod.mk.injEq]at h
   obtain ⟨q,hq,rfl,rfl⟩:=h
   obtain ⟨v,hv,hv'⟩:=K7 (P:=X.P) hi (hev x) (lo:=lo.map ev) (hii:=hii.map ev) (fun d=>cV (C:=C) (fun y _=>hev y) h1 d) (fun d=>cV (C:=C) (fun y _=>hev y) h2 d) (Us hq)
   exact Res.value hv (Post.same hi hv')
 case fieldAddr t x f =>
  simp only[Option.bind_eq_some_iff]at h
  obtain ⟨⟨o,z,u⟩,hf,h⟩:=h
  dsimp only at h
  split at h
  ·rename_i hz
   simp only[Option.map_eq_some_iff,Prod.mk.injEq]at h
   obtain ⟨q,hq,rfl,rfl⟩:=h
   obtain ⟨b,k,he,hv⟩:=Po hi (hev x) (Ut hq)
   refine Res.value (v:=.pointer (some ⟨b,k+o,none⟩)) (w':=w) ?_ (Post.same hi hv)
   rw [he];exact Pp hf hz
  ·cases h
 case field t x f =>
  split at h
  ·rename_i cs hr
   simp only[Option.bind_eq_some_iff,Option.map_eq_some_iff,Prod.mk.injEq]at h
   obtain ⟨⟨o,z',u⟩,hf,⟨z,ag⟩,hl,q,hq,rfl,rfl⟩:=h
   have hx:=hev x
   rw [hr]at hx
   obtain ⟨v,hv,hv'⟩:=Rm (w:=w) hx hf hl hq
   exact Res.value hv (Post.same hi hv')
  ·cases h
 case indexAddr t x i =>
  split at h
  ·rename_i k n hr
   simp only[Option.map_eq_some_iff,Prod.mk.injEq]at h
   obtain ⟨q,hq,rfl,rfl⟩:=h
   have hx:=hev i
   rw [hr]at hx
   have e:=Cc hx
   obtain ⟨v,hv,hv'⟩:=Rl (k:=k) hi (hev x) (Ur hq)
   exact Res.value (v:=v) (w':=w) (by rw[e];exact hv) (Post.same hi hv')
  ·cases h
 case index t x i =>
  split at h
  ·rename_i k n hr
   simp only[Option.map_eq_some_iff,Prod.mk.injEq]at h
   obtain ⟨q,hq,rfl,rfl⟩:=h
   have hx:=hev i
   rw [hr]at hx
   have e:=Cc hx
   obtain ⟨v,hv,hv'⟩:=Pq (P:=X.P) (w:=w) (k:=k) (hev x) hq
   exact Res.value (v:=v) (w':=w) (by rw[e];exact hv) (Post.same hi hv')
  ·cases h
 case extract x i =>
  split at h
  ·rename_i vs hr
   simp only[Option.map_eq_some_iff,Prod.mk.injEq]at h
   obtain ⟨q,hq,rfl,rfl⟩:=h
   have hx:=hev x
   rw [hr]at hx
   obtain ⟨v,hv,hv'⟩:=Nz (P:=X.P) (w:=w) hx hq
   exact Res.value hv (Post.same hi hv')
  ·cases h
 case call c =>
  obtain ⟨callee,args,argTypes⟩:=c
  dsimp only at h
  split at h
  ·rename_i f
   have hfc:∃f' fi ca,ρ f=.func (.func f') fi ca:=by
    unfold Dy at h
    split at h
    ·exact ⟨_,_,_,by assumption⟩
    ·cases h
   obtain ⟨f',fi,ca,hr⟩:=hfc
   rw [hr]at h
   ·have hf:=hev f
    rw [hr]at hf
    generalize hvf:ev f=vf at hf
    cases hf with
    | func fn first captured pf pc h1 h2 h3 h4 =>
     refine RB hX hi hev h1 h2 h3 h4 (fun hen=>?_) h
     simp only[execOp,resolve,hvf,Deferred.ofValue,Sem.run_bind,Sem.run_pure,Result.andThen,invoke]
     exact Gh hen
  ·rename_i b
   unfold Bd at h
   split at h
   ·rename_i t x hts has
    have e1:argTypes = #[t]:=by rw[←Array.toList_inj];exact hts
    subst e1
    obtain ⟨ax,rfl,rfl⟩:∃ax,args = #[ax]∧ρ ax=x:=by
     match args,has with
     | ⟨[ax]⟩,has=>exact⟨ax,rfl,by simpa using has⟩
    simp only[Option.map_eq_some_iff,Prod.mk.injEq]at h
    obtain ⟨n,hn,rfl,rfl⟩:=h
    have :=(show (Builtin.len_ #[t] ty #[ev ax]).run X.P w=.ok (.int .i64 n) w by
     split at hn
     ·rename_i q hq;exact Px (P:=X.P) hi hq (hev ax) hn
     ·exact Yk (P:=X.P) (ty:=ty) hi (hev ax) (N3 HX hn))
    simp only[execOp,resolve,Sem.run_bind,Sem.run_pure,Result.andThen,invoke,builtin]
    have hm:(#[ax]:Array Operand).map ev = #[ev ax]:=by simp
    rw [hm,this]
    exact Post.same hi (.int _ _)
   ·rename_i t u x y hts has
    have e1:argTypes = #[t,u]:=by rw[←Array.toList_inj];exact hts
    subst e1
    obtain ⟨ax,ay,rfl,rfl,rfl⟩:∃ax ay,args = #[ax,ay]∧ρ ax=x∧ρ ay=y:=by
     match args,has with
     | ⟨[ax,ay]⟩,has=>exact⟨ax,ay,rfl,by simpa using has⟩
    split at h
    ·rename_i hu
     replace hu:=hu.2
     simp only[Option.bind_eq_some_iff]at h
     obtain ⟨ys,hys,h⟩:=h
     obtain ⟨v,w',C',h1,h2,h3,h4⟩:=Pr (P:=X.P) (ty:=ty) hi (hev ax) (hev ay) hys hu.1 h
     simp only[execOp,resolve,Sem.run_bind,Sem.run_pure,Result.andThen,invoke,builtin]
     have hm:(#[ax,ay]:Array Operand).map ev = #[ev ax,ev ay]:=by simp
     rw [hm,h1]
     exact ⟨C',h2,h3,h4⟩
    ·cases h
   ·rename_i t u x y hts has
    have e1:argTypes = #[t,u]:=by rw[←Array.toList_inj];exact hts
    subst e1
    obtain ⟨ax,ay,rfl,rfl,rfl⟩:∃ax ay,args = #[ax,ay]∧ρ ax=x∧ρ ay=y:=by
     match args,has with
     | ⟨[ax,ay]⟩,has=>exact⟨ax,ay,rfl,by simpa using has⟩
    simp only[Option.map_eq_some_iff,Prod.mk.injEq]at h
    obtain ⟨⟨n,st1⟩,hn,rfl,rfl⟩:=h
    obtain ⟨w',C',h1,h2,h3⟩:=UA (P:=X.P) (u:=u) (ty:=ty) hi (hev ax) (hev ay) hn
    simp only[execOp,resolve,Sem.run_bind,Sem.run_pure,Result.andThen,invoke,builtin]
    have hm:(#[ax,ay]:Array Operand).map ev = #[ev ax,ev ay]:=by simp
    rw [hm,h1]
    exact ⟨C',h2,h3,.int _ _⟩
   ·rename_i x y has
    obtain ⟨ax,ay,rfl,rfl,rfl⟩:∃ax ay,args = #[ax,ay]∧ρ ax=x∧ρ ay=y:=by
     match args,has with
     | ⟨[ax,ay]⟩,has=>exact⟨ax,ay,rfl,by simpa using has⟩
    simp only[Option.map_eq_some_iff,Prod.mk.injEq]at h
    obtain ⟨q,hq,rfl,rfl⟩:=h
    obtain ⟨v,hv,hv'⟩:=Jz (P:=X.P) (w:=w) (hev ax) (hev ay) hq argTypes ty
    simp only[execOp,resolve,Sem.run_bind,Sem.run_pure,Result.andThen,invoke,builtin]
    have hm:(#[ax,ay]:Array Operand).map ev = #[ev ax,ev ay]:=by simp
    simp only[Bool.false_eq_true,if_false]at hv
    rw [hm,hv]
    exact Post.same hi hv'
   ·rename_i x y has
    obtain ⟨ax,ay,rfl,rfl,rfl⟩:∃ax ay,args = #[ax,ay]∧ρ ax=x∧ρ ay=y:=by
     match args,has with
     | ⟨[ax,ay]⟩,has=>exact⟨ax,ay,rfl,by simpa using has⟩
    simp only[Option.map_eq_some_iff,Prod.mk.injEq]at h
    obtain ⟨q,hq,rfl,rfl⟩:=h
    obtain ⟨v,hv,hv'⟩:=Jz (P:=X.P) (w:=w) (hev ax) (hev ay) hq argTypes ty
    simp only[execOp,resolve,Sem.run_bind,Sem.run_pure,Result.andThen,invoke,builtin]
    have hm:(#[ax,ay]:Array Operand).map ev = #[ev ax,ev ay]:=by simp
    simp only[if_true]at hv
    rw [hm,hv]
    exact Post.same hi hv'
   ·cases h
  ·rename_i recv m
   simp only[Option.bind_eq_some_iff]at h
   obtain ⟨⟨f',r⟩,hm,h⟩:=h
   obtain ⟨t,u,u',hx,hmeth,hu'⟩:=Yo hi (hev recv) hm
   refine RB (first := #[u']) (captured := #[]) hX hi hev rfl rfl (fun i p hp=>?_) (fun i p hp=>by simp at hp) (fun hen=>?_) h
   ·cases i with
    | zero=>simp at hp;subst hp;exact hu'
    | succ i=>simp at hp
   ·have hme:=hmeth (X.P.types.size+99)
    have e0:((#[ev recv]:Array Value)++args.map ev)[0]?=some (ev recv):=by rw[Array.getElem?_append_left (by simp)];rfl
    have e1:((#[ev recv]:Array Value)++args.map ev).extract 1 ((#[ev recv]:Array Value)++args.map ev).size=args.map ev:=by
     apply Array.ext'
     simp
     exact List.take_of_length_le (by simp)
    rw [hx]at e0 e1
    have e2:(Go.program).run X.P w=.ok X.P w:=rfl
    simp only[execOp,resolve,Sem.run_bind,Sem.run_pure,Result.andThen,invoke,hx,e0,callMethod,e1,e2]
    rw [show X.P.types.size+Made.depth=X.P.types.size+99+1 from rfl,hme]
    simp only[Result.andThen]
    rw [Array.append_empty]
    exact Gh hen
 case makeInterface t x =>
  split at h
  ·rename_i hc
   obtain ⟨hc1,hc2⟩:=hc
   simp only[Option.some.injEq,Prod.mk.injEq]at h;obtain⟨rfl,rfl⟩:=h
   obtain ⟨u,hu⟩:=Option.isSome_iff_exists.1 hc2
   refine Res.value (v:=.iface t (ev x)) (w':=w) ?_ (Post.same hi (.iface _ _ _ (hev x)))
   unfold Jo at hc1
   rw [hu]at hc1
   unfold Instr.makeInterface
   simp only[Sem.run_bind,run_underlying hu,Result.andThen]
   split
   ·simp at hc1
   ·rfl
  ·cases h
 case typeAssert x xt t ok =>
  cases ok with
  | true=>simp at h
  | false =>
   dsimp only at h
   split at h
   ·rename_i t' v hr
    split at h
    ·rename_i hc
     obtain ⟨rfl,hc1,hc2⟩:=hc
     simp only[Option.some.injEq,Prod.mk.injEq]at h;obtain⟨rfl,rfl⟩:=h
     obtain ⟨u,hu⟩:=Option.isSome_iff_exists.1 hc2
     have hx:=hev x
     rw [hr]at hx
     generalize hvx:ev x=vx at hx
     cases hx with
     | iface _ y _ hy =>
      refine Res.value (v:=y) (w':=w) ?_ (Post.same hi hy)
      unfold Jo at hc1
      rw [hu]at hc1
      rw [hvx]
      unfold Instr.typeAssert
      simp only[Sem.run_bind,run_underlying hu,Result.andThen]
      split
      ·simp at hc1
      ·simp at hc1
      ·rename_i heq;cases heq
      ·rename_i heq;cases heq;simp
      ·rename_i h1 h2 h3;first | exact absurd rfl (h3 _ _) | exact absurd rfl (h2 _ _) | exact absurd rfl (h1 _ _) | exact absurd rfl (h3 _) | trace_state
    ·cases h
   ·cases h
end
end Sim
