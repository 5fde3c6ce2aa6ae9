/- PriceProves, for every input: the law returns true and its arguments read as they did. -/
import Derived.Test.YtppljhpecoeakaaRows
import Derived.Test.YtppljhpecoeakaaQL45
import Derived.ReadAgain
import Derived.JoinedOf
set_option linter.unusedVariables false
namespace Go.Proofs.Ytppljhpecoeakaa
open Go Go.ChangeShapes Go.WideShapes Go.ChangeAt Go.RowKit Sim
set_option maxRecDepth 100000 in
theorem lifted6 (os:Os) (started:os.Started) (H:Type) (enc:TypeId×Value→H) :
  ReturnsInHanded {} Try.checked os 6 .any (Rows.priceProvesSpec.pre6 enc Try.prog Try.f6 Rows.priceProvesRow.domain false) (Rows.priceProvesSpec.post enc Try.prog Try.f6 false true false false):=by
 refine returnsInHanded_of_change (C:=Try.checked) Ae1 started (by kernel_rfl) Try.func6
  (ChangeSpec.witness6 (enc:=enc) (C:=Try.checked) false ⟨#[],#[.agg #[.int .i64 0,.slice Option.none 0 0,.slice Option.none 0 0,.int .i64 0,.int .i64 0,.int .i64 0,.int .i64 0,.int .i64 0]],[]⟩ 8 (by kernel_rfl) (by kernel_rfl) (by kernel_rfl) (by kernel_rfl)) ?_
 intro W base args ds gs before hval0 hW hcnd _
 have hval:∀(j:Nat) t v,Try.f6.params[j]?=some t→args[j]?=some v→Value.okWide Try.prog W .any base t v:=hval0
 have hW':=hW
 obtain ⟨p,q,hA0,hV,rfl,hfz,hnd⟩:=hW
 have hA:DataW.TrodAll enc Try.prog W 0 (fun _=>true) true Try.f6.params.toList args.toList ds p:=hA0
 rw [Try.params6]at hA hval
 obtain ⟨v0,vs0,d0,ds0,p0,q0,hargs,rfl,rfl,h0,r0⟩:=trodAll_cons hA
 obtain ⟨rfl,rfl,rfl⟩:=trodAll_nil r0
 obtain rfl:args = #[v0]:=by cases args;simp_all
 obtain ⟨rfl,rfl⟩:=trodVars_none hV
 obtain ⟨hn0,ls0,us0,dm0,g0⟩:=Tl (hval 0 29 v0 rfl rfl) h0
 refine ((vV hn0 ls0 us0 dm0).2 (full W) W #[v0] (fun _ _ _ h=>h) ⟨rfl,fun i p hp=>?_⟩).mono fun e W' ⟨v,he,hfr,hold,hsz,hv⟩=>?_
 ·match i,hp with
  | 0,hp=>simp at hp;subst hp;exact g0
  | i+1,hp=>simp at hp
 ·subst he
  have e:=Db hv
  subst e
  exact ⟨_,rfl,Y9 Acq Acr (by rw[Try.params6];decide +kernel) rfl hW' hfr hold rfl rfl (fun _ _ _=>trodAll_mk1 (shut_bool Try.underlying4 _)) (ok_one (by kernel_rfl) rfl (okWide_bool_mk Try.underlying4 _))⟩
theorem priceProves_holds:Rows.PriceProvesSaid :=
 OpenClaim.holds_of_wide 6 Try.f6 rfl rfl rfl rfl rfl rfl rfl ⟨rfl,rfl,rfl,rfl,rfl⟩ rfl rfl rfl rfl rfl (by kernel_rfl) Try.func6 (by kernel_rfl)
  (of_decide_eq_true (by kernel_rfl)) (by unfold Func.isWrapper;first | (rw[if_pos (by decide +kernel)];kernel_rfl) | (rw[if_neg (by decide +kernel)];exact⟨rfl,rfl⟩))
  (fun os started H enc _=>lifted6 os started H enc)
end Go.Proofs.Ytppljhpecoeakaa
