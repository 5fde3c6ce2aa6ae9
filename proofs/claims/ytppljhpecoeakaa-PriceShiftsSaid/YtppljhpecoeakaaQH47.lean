/- PriceShifts, for every input: the law returns true and its arguments read as they did. -/
import Derived.Test.YtppljhpecoeakaaRows
import Derived.Test.YtppljhpecoeakaaQYE
import Derived.Test.YtppljhpecoeakaaQL47
import Derived.ReadAgain
import Derived.JoinedOf
set_option linter.unusedVariables false
namespace Go.Proofs.Ytppljhpecoeakaa
open Go Go.ChangeShapes Go.WideShapes Go.ChangeAt Go.RowKit Sim
set_option maxRecDepth 100000 in
theorem lifted8 (os:Os) (started:os.Started) (H:Type) (enc:TypeId×Value→H) :
  ReturnsInHanded {} Try.checked os 8 .any (Rows.priceShiftsSpec.pre6 enc Try.prog Try.f8 Rows.priceShiftsRow.domain false) (Rows.priceShiftsSpec.post enc Try.prog Try.f8 false true false false):=by
 refine returnsInHanded_of_change (C:=Try.checked) Aiv started (by kernel_rfl) Try.func8
  (ChangeSpec.witness6 (enc:=enc) (C:=Try.checked) false ⟨#[],#[.agg #[.int .i64 0,.slice Option.none 0 0,.slice Option.none 0 0,.int .i64 0,.int .i64 0,.int .i64 0,.int .i64 0,.int .i64 0],.slice Option.none 0 0,.agg #[.int .u16 0,.int .u16 0,.int .u16 0]],[]⟩ 8 (by kernel_rfl) (by kernel_rfl) (by kernel_rfl) (by kernel_rfl)) ?_
 intro W base args ds gs before hval0 hW hcnd _
 have hval:∀(j:Nat) t v,Try.f8.params[j]?=some t→args[j]?=some v→Value.okWide Try.prog W .any base t v:=hval0
 have hW':=hW
 obtain ⟨p,q,hA0,hV,rfl,hfz,hnd⟩:=hW
 have hA:DataW.TrodAll enc Try.prog W 0 (fun _=>true) true Try.f8.params.toList args.toList ds p:=hA0
 rw [Try.params8]at hA hval
 obtain ⟨v0,vs0,d0,ds0,p0,q0,hargs,rfl,rfl,h0,r0⟩:=trodAll_cons hA
 obtain ⟨v1,vs1,d1,ds1,p1,q1,rfl,rfl,rfl,h1,r1⟩:=trodAll_cons r0
 obtain ⟨v2,vs2,d2,ds2,p2,q2,rfl,rfl,rfl,h2,r2⟩:=trodAll_cons r1
 obtain ⟨rfl,rfl,rfl⟩:=trodAll_nil r2
 obtain rfl:args = #[v0,v1,v2]:=by cases args;simp_all
 obtain ⟨rfl,rfl⟩:=trodVars_none hV
 obtain ⟨hn0,ls0,us0,dm0,g0⟩:=Up (hval 0 29 v0 rfl rfl) h0
 obtain ⟨y1,g1⟩:=rQ (hval 1 30 v1 rfl rfl) h1
 obtain ⟨a2,b2,c2,u2,g2⟩:=cQ (hval 2 58 v2 rfl rfl) h2
 refine ((Aa0 hn0 ls0 us0 dm0 y1 a2 b2 c2 u2).2 (full W) W #[v0,v1,v2] (fun _ _ _ h=>h) ⟨rfl,fun i p hp=>?_⟩).mono fun e W' ⟨v,he,hfr,hold,hsz,hv⟩=>?_
 ·match i,hp with
  | 0,hp=>simp at hp;subst hp;exact g0
  | 1,hp=>simp at hp;subst hp;exact g1
  | 2,hp=>simp at hp;subst hp;exact g2
  | i+3,hp=>simp at hp
 ·subst he
  have e:=Dj hv
  subst e
  exact ⟨_,rfl,aN Agk Agl (by rw[Try.params8];decide +kernel) rfl hW' hfr hold rfl rfl (fun _ _ _=>trodAll_mk1 (shut_bool Try.underlying4 _)) (ok_one (by kernel_rfl) rfl (okWide_bool_mk Try.underlying4 _))⟩
theorem priceShifts_holds:Rows.PriceShiftsSaid :=
 OpenClaim.holds_of_wide 8 Try.f8 rfl rfl rfl rfl rfl rfl rfl ⟨rfl,rfl,rfl,rfl,rfl⟩ rfl rfl rfl rfl rfl (by kernel_rfl) Try.func8 (by kernel_rfl)
  (of_decide_eq_true (by kernel_rfl)) (by unfold Func.isWrapper;first | (rw[if_pos (by decide +kernel)];kernel_rfl) | (rw[if_neg (by decide +kernel)];exact⟨rfl,rfl⟩))
  (fun os started H enc _=>lifted8 os started H enc)
end Go.Proofs.Ytppljhpecoeakaa
