/- VanProofsHold, for every input: the law returns true and its arguments read as they did. -/
import Derived.Test.YtdfjimjbdakofaaGreatRows
import Derived.Test.YtdfjimjbdakofaaGreatQW
import Derived.ReadAgain
import Derived.JoinedOf
set_option linter.unusedVariables false
namespace Go.Proofs.YtdfjimjbdakofaaGreat
open Go Go.ChangeShapes Go.WideShapes Go.ChangeAt Go.RowKit Sim
set_option maxRecDepth 100000 in
theorem lifted5 (os:Os) (started:os.Started) (H:Type) (enc:TypeId×Value→H) :
  ReturnsInHanded {} Tryz.checked os 5 .any (Rows.vanProofsHoldSpec.pre6 enc Tryz.prog Tryz.f5 Rows.vanProofsHoldRow.domain false) (Rows.vanProofsHoldSpec.post enc Tryz.prog Tryz.f5 false true false false):=by
 refine returnsInHanded_of_change (C:=Tryz.checked) Am3 started (by kernel_rfl) Tryz.func5
  (ChangeSpec.witness6 (enc:=enc) (C:=Tryz.checked) false ⟨#[],#[.agg #[.int .i64 0,.slice Option.none 0 0,.slice Option.none 0 0,.slice Option.none 0 0,.int .i64 0,.int .i64 0,.int .i64 0,.int .i64 0,.int .i64 0],.agg #[.slice Option.none 0 0,.slice Option.none 0 0],.agg #[.slice Option.none 0 0,.slice Option.none 0 0],.slice Option.none 0 0],[]⟩ 8 (by kernel_rfl) (by kernel_rfl) (by kernel_rfl) (by kernel_rfl)) ?_
 intro W base args ds gs before hval0 hW hcnd _
 have hval:∀(j:Nat) t v,Tryz.f5.params[j]?=some t→args[j]?=some v→Value.okWide Tryz.prog W .any base t v:=hval0
 have hW':=hW
 obtain ⟨p,q,hA0,hV,rfl,hfz,hnd⟩:=hW
 have hA:DataW.TrodAll enc Tryz.prog W 0 (fun _=>true) true Tryz.f5.params.toList args.toList ds p:=hA0
 rw [Tryz.params5]at hA hval
 obtain ⟨v0,vs0,d0,ds0,p0,q0,hargs,rfl,rfl,h0,r0⟩:=trodAll_cons hA
 obtain ⟨v1,vs1,d1,ds1,p1,q1,rfl,rfl,rfl,h1,r1⟩:=trodAll_cons r0
 obtain ⟨v2,vs2,d2,ds2,p2,q2,rfl,rfl,rfl,h2,r2⟩:=trodAll_cons r1
 obtain ⟨v3,vs3,d3,ds3,p3,q3,rfl,rfl,rfl,h3,r3⟩:=trodAll_cons r2
 obtain ⟨rfl,rfl,rfl⟩:=trodAll_nil r3
 obtain rfl:args = #[v0,v1,v2,v3]:=by cases args;simp_all
 obtain ⟨rfl,rfl⟩:=trodVars_none hV
 obtain ⟨hn0,ls0,us0,ts0,dm0,g0⟩:=Afk (hval 0 30 v0 rfl rfl) h0
 obtain ⟨l1,o1,g1⟩:=aQ (hval 1 35 v1 rfl rfl) h1
 obtain ⟨l2,o2,g2⟩:=aQ (hval 2 35 v2 rfl rfl) h2
 obtain ⟨pr3,g3⟩:=xC (hval 3 50 v3 rfl rfl) h3
 refine ((Afi hn0 ls0 us0 ts0 dm0 l1 o1 l2 o2 pr3).2 (full W) W #[v0,v1,v2,v3] (fun _ _ _ h=>h) ⟨rfl,fun i p hp=>?_⟩).mono fun e W' ⟨v,he,hfr,hold,hsz,hv⟩=>?_
 ·match i,hp with
  | 0,hp=>simp at hp;subst hp;exact g0
  | 1,hp=>simp at hp;subst hp;exact g1
  | 2,hp=>simp at hp;subst hp;exact g2
  | 3,hp=>simp at hp;subst hp;exact g3
  | i+4,hp=>simp at hp
 ·subst he
  have e:=Dn hv
  subst e
  exact ⟨_,rfl,gU Aku Akv (by rw[Tryz.params5];decide +kernel) rfl hW' hfr hold rfl rfl (fun _ _ _=>trodAll_mk1 (shut_bool Tryz.underlying4 _)) (ok_one (by kernel_rfl) rfl (okWide_bool_mk Tryz.underlying4 _))⟩
theorem vanProofsHold_holds:Rows.VanProofsHoldSaid :=
 OpenClaim.holds_of_wide 5 Tryz.f5 rfl rfl rfl rfl rfl rfl rfl ⟨rfl,rfl,rfl,rfl,rfl⟩ rfl rfl rfl rfl rfl (by kernel_rfl) Tryz.func5 (by kernel_rfl)
  (of_decide_eq_true (by kernel_rfl)) (by unfold Func.isWrapper;first | (rw[if_pos (by decide +kernel)];kernel_rfl) | (rw[if_neg (by decide +kernel)];exact⟨rfl,rfl⟩))
  (fun os started H enc _=>lifted5 os started H enc)
end Go.Proofs.YtdfjimjbdakofaaGreat

