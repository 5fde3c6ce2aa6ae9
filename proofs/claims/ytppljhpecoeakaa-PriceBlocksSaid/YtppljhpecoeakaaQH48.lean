/- PriceBlocks, for every input: the law returns true and its arguments read as they did. -/
import Derived.Test.YtppljhpecoeakaaRows
import Derived.Test.YtppljhpecoeakaaQL48
import Derived.ReadAgain
import Derived.JoinedOf
set_option linter.unusedVariables false
namespace Go.Proofs.Ytppljhpecoeakaa
open Go Go.ChangeShapes Go.WideShapes Go.ChangeAt Go.RowKit Sim
set_option maxRecDepth 100000 in
theorem lifted9 (os:Os) (started:os.Started) (H:Type) (enc:TypeId×Value→H) :
  ReturnsInHanded {} Try.checked os 9 .any (Rows.priceBlocksSpec.pre6 enc Try.prog Try.f9 Rows.priceBlocksRow.domain false) (Rows.priceBlocksSpec.post enc Try.prog Try.f9 false true false false):=by
 refine returnsInHanded_of_change (C:=Try.checked) Ahj started (by kernel_rfl) Try.func9
  (ChangeSpec.witness6 (enc:=enc) (C:=Try.checked) false ⟨#[],#[.agg #[.int .i64 0,.slice Option.none 0 0,.slice Option.none 0 0,.int .i64 0,.int .i64 0,.int .i64 0,.int .i64 0,.int .i64 0],.slice Option.none 0 0],[]⟩ 8 (by kernel_rfl) (by kernel_rfl) (by kernel_rfl) (by kernel_rfl)) ?_
 intro W base args ds gs before hval0 hW hcnd _
 have hval:∀(j:Nat) t v,Try.f9.params[j]?=some t→args[j]?=some v→Value.okWide Try.prog W .any base t v:=hval0
 have hW':=hW
 obtain ⟨p,q,hA0,hV,rfl,hfz,hnd⟩:=hW
 have hA:DataW.TrodAll enc Try.prog W 0 (fun _=>true) true Try.f9.params.toList args.toList ds p:=hA0
 rw [Try.params9]at hA hval
 obtain ⟨v0,vs0,d0,ds0,p0,q0,hargs,rfl,rfl,h0,r0⟩:=trodAll_cons hA
 obtain ⟨v1,vs1,d1,ds1,p1,q1,rfl,rfl,rfl,h1,r1⟩:=trodAll_cons r0
 obtain ⟨rfl,rfl,rfl⟩:=trodAll_nil r1
 obtain rfl:args = #[v0,v1]:=by cases args;simp_all
 obtain ⟨rfl,rfl⟩:=trodVars_none hV
 obtain ⟨hn0,ls0,us0,dm0,g0⟩:=T7 (hval 0 29 v0 rfl rfl) h0
 obtain ⟨ts1,g1⟩:=qO (hval 1 43 v1 rfl rfl) h1
 refine ((zD hn0 ls0 us0 dm0 ts1).2 (full W) W #[v0,v1] (fun _ _ _ h=>h) ⟨rfl,fun i p hp=>?_⟩).mono fun e W' ⟨v,he,hfr,hold,hsz,hv⟩=>?_
 ·match i,hp with
  | 0,hp=>simp at hp;subst hp;exact g0
  | 1,hp=>simp at hp;subst hp;exact g1
  | i+2,hp=>simp at hp
 ·subst he
  have e:=Dj hv
  subst e
  exact ⟨_,rfl,ZY Afa Afb (by rw[Try.params9];decide +kernel) rfl hW' hfr hold rfl rfl (fun _ _ _=>trodAll_mk1 (shut_bool Try.underlying4 _)) (ok_one (by kernel_rfl) rfl (okWide_bool_mk Try.underlying4 _))⟩
theorem priceBlocks_holds:Rows.PriceBlocksSaid :=
 OpenClaim.holds_of_wide 9 Try.f9 rfl rfl rfl rfl rfl rfl rfl ⟨rfl,rfl,rfl,rfl,rfl⟩ rfl rfl rfl rfl rfl (by kernel_rfl) Try.func9 (by kernel_rfl)
  (of_decide_eq_true (by kernel_rfl)) (by unfold Func.isWrapper;first | (rw[if_pos (by decide +kernel)];kernel_rfl) | (rw[if_neg (by decide +kernel)];exact⟨rfl,rfl⟩))
  (fun os started H enc _=>lifted9 os started H enc)
end Go.Proofs.Ytppljhpecoeakaa
