/- Lemmas. -/
import Derived.Test.YtdfjimjbdakofaaGreatRows
import Derived.Test.YtdfjimjbdakofaaGreatQW
import Derived.ReadAgain
import Derived.JoinedOf
set_option linter.all false
open Go.Proofs.Tryz renaming checked->yr,prog->pk,f4->x9,params4->yu,underlying4->yv
open Option renaming none->yt
namespace Go.Proofs.YtdfjimjbdakofaaGreat
open Go Go.ChangeShapes Go.WideShapes Go.ChangeAt Go.RowKit Sim
set_option maxRecDepth 100000 in
theorem lifted4 (os:Os) (started:os.Started) (H:Type) (enc:TypeId×Value->H) :
  ReturnsInHanded {} yr os 4 .any (Rows.vanIsInTimeSpec.pre6 enc pk x9 Rows.vanIsInTimeRow.domain false) (Rows.vanIsInTimeSpec.post enc pk x9 false true false false):=by
 refine returnsInHanded_of_change (C:=yr) An6 started (by kernel_rfl) Tryz.func4
  (ChangeSpec.witness6 (enc:=enc) (C:=yr) false ⟨#[],#[.agg #[.int .i64 0,.slice yt 0 0,.slice yt 0 0,.slice yt 0 0,.int .i64 0,.int .i64 0,.int .i64 0,.int .i64 0,.int .i64 0],.agg #[.slice yt 0 0,.slice yt 0 0],.slice yt 0 0],[]⟩ 8 (by kernel_rfl) (by kernel_rfl) (by kernel_rfl) (by kernel_rfl)) ?_
 intro W base args ds gs before hval0 hW hcnd _
 have hval:∀(j:Nat) t v,x9.params[j]?=some t->args[j]?=some v->Value.okWide pk W .any base t v:=hval0
 have hW':=hW
 obtain ⟨p,q,hA0,hV,rfl,hfz,hnd⟩:=hW
 have hA:DataW.TrodAll enc pk W 0 (λ_=>true) true x9.params.toList args.toList ds p:=hA0
 rw [yu]at hA hval
 obtain ⟨v0,vs0,d0,ds0,p0,q0,hargs,rfl,rfl,h0,r0⟩:=trodAll_cons hA
 obtain ⟨v1,vs1,d1,ds1,p1,q1,rfl,rfl,rfl,h1,r1⟩:=trodAll_cons r0
 obtain ⟨v2,vs2,d2,ds2,p2,q2,rfl,rfl,rfl,h2,r2⟩:=trodAll_cons r1
 obtain ⟨rfl,rfl,rfl⟩:=trodAll_nil r2
 obtain rfl:args = #[v0,v1,v2]:=by cases args;simp_all
 obtain ⟨rfl,rfl⟩:=trodVars_none hV
 obtain ⟨hn0,ls0,us0,ts0,dm0,g0⟩:=Agc (hval 0 30 v0 rfl rfl) h0
 obtain ⟨l1,o1,g1⟩:=Agd (hval 1 35 v1 rfl rfl) h1
 obtain ⟨ar2,g2⟩:=yE (hval 2 33 v2 rfl rfl) h2
 refine ((Aga hn0 ls0 us0 ts0 dm0 l1 o1 ar2).2 (full W) W #[v0,v1,v2] (λ_ _ _ h=>h) ⟨rfl,λi p hp=>?_⟩).mono λe W' ⟨v,he,hfr,hold,hsz,hv⟩=>?_
 .match i,hp with
  | 0,hp=>simp at hp;subst hp;exact g0
  | 1,hp=>simp at hp;subst hp;exact g1
  | 2,hp=>simp at hp;subst hp;exact g2
  | i+3,hp=>simp at hp
 .subst he
  have e:=Du hv
  subst e
  exact ⟨_,rfl,iU Alt Alu (by rw[yu];decide +kernel) rfl hW' hfr hold rfl rfl (λ_ _ _=>trodAll_mk1 (shut_bool yv _)) (ok_one (by kernel_rfl) rfl (okWide_bool_mk yv _))⟩
theorem vanIsInTime_holds:Rows.VanIsInTimeSaid :=
 OpenClaim.holds_of_wide 4 x9 rfl rfl rfl rfl rfl rfl rfl ⟨rfl,rfl,rfl,rfl,rfl⟩ rfl rfl rfl rfl rfl (by kernel_rfl) Tryz.func4 (by kernel_rfl)
  (of_decide_eq_true (by kernel_rfl)) (by unfold Func.isWrapper;first | (rw[if_pos (by decide +kernel)];kernel_rfl) | (rw[if_neg (by decide +kernel)];exact⟨rfl,rfl⟩))
  (λos started H enc _=>lifted4 os started H enc)
end Go.Proofs.YtdfjimjbdakofaaGreat

