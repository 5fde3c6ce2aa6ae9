/- Maps, iterators and generators, for walks. -/
import Derived.Test.YtbojbamchaohpaaSimS
namespace Sim
open Go
set_option linter.unusedVariables false
set_option linter.unusedSimpArgs false
section
variable {X : Cfg} {d : Nat} {ρ : Operand → PV} {st : Store}
theorem iop_makeMap {t : TypeId} : iop X d (.makeMap t none) ρ st = (tvMap X.P t).bind fun q => some (.mref st.next 0, st.new (.map 0 q.1 [])) := nrfl rfl
theorem iop_mapUpdate {t : TypeId} {m k v : Operand} : iop X d (.mapUpdate t m k v) ρ st = (mapPut st (tvMap X.P t) (ρ m) (ρ k) (ρ v)).map fun st' => (.bad, st') := nrfl rfl
theorem iop_lookup {t : TypeId} {m k : Operand} {ok : Bool} : iop X d (.lookup t m k ok) ρ st = (mapGet st (tvMap X.P t) (ρ m) (ρ k) ok).map fun v => (v, st) := nrfl rfl
def mapB (o : Option IObj) (gen : Nat) : Option (MK × List (PV × PV)) := match o with | some (.map g mk es) => if gen = g then some (mk, es) else none | _ => none
theorem mapB_some {g h : Nat} {mk : MK} {es : List (PV × PV)} : mapB (some (.map h mk es)) g = if g = h then some (mk, es) else none := nrfl rfl
theorem mapPut_mref {mk : MK} {z : PV} {id gen : Nat} {k v : PV} : mapPut st (some (mk, z)) (.mref id gen) k v = (mapB (st.obj id) gen).bind fun q => if mk = q.1 ∧ keyIs q.1 k = true then some (st.set id (.map gen q.1 (mput q.2 k v))) else none := by
 simp only [mapPut, mapB]
 cases st.obj id with
 | none => rfl
 | some o =>
  cases o <;> try rfl
  rename_i g mk' es
  by_cases h : gen = g
  ·subst h; simp
  ·simp [h]
def mapLk (mk : MK) (z : PV) (k : PV) (ok : Bool) (q : MK × List (PV × PV)) : Option PV := if q.1 = mk then (match mget q.2 k with
    | some v => some (if ok then .tuple [v, .bool true] else v)
    | none => some (if ok then .tuple [z, .bool false] else z)) else none
theorem mapGet_mref {mk : MK} {z : PV} {id gen : Nat} {k : PV} {ok : Bool} : mapGet st (some (mk, z)) (.mref id gen) k ok = if keyIs mk k = true then (mapB (st.obj id) gen).bind (mapLk mk z k ok) else none := by
 simp only [mapGet, mapB, Option.bind_some]
 split
 ·cases st.obj id with
  | none => rfl
  | some o =>
   cases o <;> try rfl
   rename_i g mk' es
   by_cases h : gen = g
   ·subst h
    by_cases hm : mk' = mk
    ·simp [mapLk, hm]; cases mget es k <;> rfl
    ·simp [mapLk, hm]
   ·simp [h]
 ·rfl
theorem mapLk_ff {mk : MK} {z k : PV} {es : List (PV × PV)} : mapLk mk z k false (mk, es) = some ((mget es k).getD z) := by
 cases h : mget es k <;> simp [mapLk, h]
end
section
variable {X : Cfg} {N : Nat} {Q : IExit → IState → Prop} {ks : List Kf} {s : IState}
theorem ops_consN {all : Array Oper} {rest : List Oper} {dst : Option Nat} {op : Op} {ty : TypeId} {pos : String} {after : Array Edge} (hn : noY1 X op = true) :
  ops X N Q all (⟨dst, op, ty, pos, after, none⟩ :: rest) ks s = opsIf X N Q all rest ks dst s (iop X (dst.getD 0) op (evalP s.env) s.st) := ops_cons (yOf_noY hn)
theorem ops_guardN {all : Array Oper} {rest : List Oper} {dst : Option Nat} {op : Op} {ty : TypeId} {pos : String} {after : Array Edge} {j : Nat} {want : Bool} (hn : noY1 X op = true) :
  ops X N Q all (⟨dst, op, ty, pos, after, some (j, want)⟩ :: rest) ks s =
   guardC (guardP all s.env j) want (opsIf X N Q all rest ks dst s (iop X (dst.getD 0) op (evalP s.env) s.st)) (opsIf X N Q all rest ks dst s (some (.tuple [], s.st))) := ops_guard (yOf_noY hn)
theorem opsIf_ex {all : Array Oper} {l : List Oper} {o : Oper} {r : PV × Store} : (∃ s', putO N o s r = some s' ∧ ops X N Q all l ks s') = opsIf X N Q all l ks o.dst s (some r) := by
 simp only [putO, opsIf]
 cases o.dst with
 | none => simp
 | some d =>
  by_cases hd : d < N
  ·simp [hd]
  ·simp [hd]
def opsV (p : PV) (l : Nat) (A B : Prop) : Prop := match p with | .func (.yield l') [] [] => if l' = l then B else A | _ => A
theorem opsV_congr {p p' : PV} {l : Nat} {A B : Prop} (h : p = p') : opsV p l A B = opsV p' l A B := by rw [h]
theorem opsV_yield {l : Nat} {A B : Prop} : opsV (.func (.yield l) [] []) l A B = B := by simp [opsV]
theorem ops_consV {l : Nat} {H : Hook} (hy : X.yl = some (l, H)) {all : Array Oper} {rest : List Oper} {dst : Option Nat} {f : Operand} {as : List Operand} {ts : List TypeId} {ty : TypeId} {pos : String} {after : Array Edge} :
  ops X N Q all (⟨dst, .call ⟨.value f, as.toArray, ts.toArray⟩, ty, pos, after, none⟩ :: rest) ks s =
   opsV (evalP s.env f) l (opsIf X N Q all rest ks dst s (callP X (dst.getD 0) (evalP s.env f) (tsOf X (dst.getD 0) ts) (evs (evalP s.env) as) s.st)) (H (evs (evalP s.env) as) s.st fun b st' => opsIf X N Q all rest ks dst s (some (.bool b, st'))) := by
 by_cases h : evalP s.env f = .func (.yield l) [] []
 ·rw [h, opsV_yield]
  simp only [ops, rwpY, stepY, guardOn, if_true, yOf, hy, h]
  simp only [evs_eq]
  have : (fun (b : Bool) (st' : Store) => ∃ s', putO N ⟨dst, .call ⟨.value f, as.toArray, ts.toArray⟩, ty, pos, after, none⟩ s (.bool b, st') = some s' ∧ rwpY X N all rest s' (cont X N Q ks)) = fun b st' => opsIf X N Q all rest ks dst s (some (.bool b, st')) := by
   funext b st'; exact opsIf_ex (o := ⟨dst, .call ⟨.value f, as.toArray, ts.toArray⟩, ty, pos, after, none⟩)
  rw [this]
 ·have hn : yOf X (.call ⟨.value f, as.toArray, ts.toArray⟩) (evalP s.env) = none := by
   simp only [yOf, hy]
   split
   ·rename_i l' hl
    split
    ·rename_i e; subst e; exact absurd hl h
    ·rfl
   ·rfl
  rw [ops_cons hn, iop_callv]
  have : ∀ A B : Prop, opsV (evalP s.env f) l A B = A := fun A B => by
   unfold opsV
   split
   ·rename_i l' hl
    split
    ·rename_i e; subst e; exact absurd hl h
    ·rfl
   ·rfl
  rw [this]
theorem ops_guardV {l : Nat} {H : Hook} (hy : X.yl = some (l, H)) {all : Array Oper} {rest : List Oper} {dst : Option Nat} {f : Operand} {as : List Operand} {ts : List TypeId} {ty : TypeId} {pos : String} {after : Array Edge} {j : Nat} {want : Bool} :
  ops X N Q all (⟨dst, .call ⟨.value f, as.toArray, ts.toArray⟩, ty, pos, after, some (j, want)⟩ :: rest) ks s =
   guardC (guardP all s.env j) want (opsV (evalP s.env f) l (opsIf X N Q all rest ks dst s (callP X (dst.getD 0) (evalP s.env f) (tsOf X (dst.getD 0) ts) (evs (evalP s.env) as) s.st)) (H (evs (evalP s.env) as) s.st fun b st' => opsIf X N Q all rest ks dst s (some (.bool b, st'))))
    (opsIf X N Q all rest ks dst s (some (.tuple [], s.st))) := by
 by_cases h : evalP s.env f = .func (.yield l) [] []
 ·rw [h, opsV_yield]
  have skip : guardOn all ⟨dst, .call ⟨.value f, as.toArray, ts.toArray⟩, ty, pos, after, some (j, want)⟩ s.env = false → ops X N Q all (⟨dst, .call ⟨.value f, as.toArray, ts.toArray⟩, ty, pos, after, some (j, want)⟩ :: rest) ks s = ∃ s', stepG X N all ⟨dst, .call ⟨.value f, as.toArray, ts.toArray⟩, ty, pos, after, some (j, want)⟩ s = some s' ∧ ops X N Q all rest ks s' := fun hg => by
   simp only [ops, rwpY, stepY, hg, Bool.false_eq_true, if_false]
  have out : (∃ s', (Option.bind (some (PV.tuple [], s.st)) (putO N ⟨dst, .call ⟨.value f, as.toArray, ts.toArray⟩, ty, pos, after, some (j, want)⟩ s)) = some s' ∧ ops X N Q all rest ks s') = opsIf X N Q all rest ks dst s (some (.tuple [], s.st)) := opsIf_ex (o := ⟨dst, .call ⟨.value f, as.toArray, ts.toArray⟩, ty, pos, after, some (j, want)⟩)
  cases hg : guardP all s.env j with
  | bool b =>
   by_cases hb : b = want
   ·subst hb
    have h1 : ops X N Q all (⟨dst, .call ⟨.value f, as.toArray, ts.toArray⟩, ty, pos, after, some (j, b)⟩ :: rest) ks s = H (evs (evalP s.env) as) s.st fun b' st' => opsIf X N Q all rest ks dst s (some (.bool b', st')) := by
     have e1 : guardOn all ⟨dst, .call ⟨.value f, as.toArray, ts.toArray⟩, ty, pos, after, some (j, b)⟩ s.env = true := by simp [guardOn, hg]
     simp only [ops, rwpY, stepY, e1, if_true, yOf, hy, h]
     simp only [evs_eq]
     have : (fun (b' : Bool) (st' : Store) => ∃ s', putO N ⟨dst, .call ⟨.value f, as.toArray, ts.toArray⟩, ty, pos, after, some (j, b)⟩ s (.bool b', st') = some s' ∧ rwpY X N all rest s' (cont X N Q ks)) = fun b' st' => opsIf X N Q all rest ks dst s (some (.bool b', st')) := by
      funext b' st'; exact opsIf_ex (o := ⟨dst, .call ⟨.value f, as.toArray, ts.toArray⟩, ty, pos, after, some (j, b)⟩)
     rw [this]
    rw [h1]
    cases b <;> simp [guardC]
   ·rw [skip (by simp [guardOn, hg, hb])]
    simp only [stepG, actO, hg, if_neg hb]
    rw [out]
    cases b <;> cases want <;> simp [guardC] at hb ⊢
  | tuple t =>
   rw [skip (by simp [guardOn, hg])]
   cases t with
   | nil =>
    simp only [stepG, actO, hg]
    rw [out, guardC_u]
   | cons a t => simp [stepG, actO, hg, guardC]
  | _ =>
   rw [skip (by simp [guardOn, hg])]
   simp [stepG, actO, hg, guardC]
 ·have hn : yOf X (.call ⟨.value f, as.toArray, ts.toArray⟩) (evalP s.env) = none := by
   simp only [yOf, hy]
   split
   ·rename_i l' hl
    split
    ·rename_i e; subst e; exact absurd hl h
    ·rfl
   ·rfl
  rw [ops_guard hn, iop_callv]
  have : ∀ A B : Prop, opsV (evalP s.env f) l A B = A := fun A B => by
   unfold opsV
   split
   ·rename_i l' hl
    split
    ·rename_i e; subst e; exact absurd hl h
    ·rfl
   ·rfl
  rw [this]
end
def nilC (p : PV) (op : BinOp) (ok : Bool) (A : Prop) (K : PV → Prop) : Prop := match p with | .lits _ [] => ∃ p q, cmpB op ok true = some p ∧ cmpB op ok false = some q ∧ K p ∧ K q | _ => A
theorem nilC_nils {op : BinOp} {ok : Bool} {A : Prop} {K : PV → Prop} : nilC .nils op ok A K = A := nrfl rfl
theorem bn_eql {P : Program} {t : TypeId} {z : Nat} {x : PV} {l : List PV} : binP P .eql t (.lits z (x :: l)) .nils = if (tvSlc P t != 0) = true then some (.bool false) else none := by
 simp [binP, cmpB]
theorem bnn_eql {P : Program} {t : TypeId} : binP P .eql t .nils .nils = if (tvSlc P t != 0) = true then some (.bool true) else none := by
 simp [binP, cmpB]
theorem ops_consL {X : Cfg} {N : Nat} {Q : IExit → IState → Prop} {ks : List Kf} {s : IState} {all : Array Oper} {rest : List Oper} {dst : Option Nat} {op : BinOp} {t u : TypeId} {x : Operand} {ty : TypeId} {pos : String} {after : Array Edge} :
  ops X N Q all (⟨dst, .binOp op t x (.const (.slice none 0 0)) u, ty, pos, after, none⟩ :: rest) ks s = nilC (evalP s.env x) op (tvSlc X.P t != 0) (opsIf X N Q all rest ks dst s (iop X (dst.getD 0) (.binOp op t x (.const (.slice none 0 0)) u) (evalP s.env) s.st)) (fun p => opsIf X N Q all rest ks dst s (some (p, s.st))) := by
 have ex : ∀ r : PV × Store, (∃ s', putO N ⟨dst, .binOp op t x (.const (.slice none 0 0)) u, ty, pos, after, none⟩ s r = some s' ∧ rwpY X N all rest s' (cont X N Q ks)) = opsIf X N Q all rest ks dst s (some r) := fun r => opsIf_ex (o := ⟨dst, .binOp op t x (.const (.slice none 0 0)) u, ty, pos, after, none⟩)
 generalize hp : evalP s.env x = p
 have rest_ : yOf X (.binOp op t x (.const (.slice none 0 0)) u) (evalP s.env) = none → ops X N Q all (⟨dst, .binOp op t x (.const (.slice none 0 0)) u, ty, pos, after, none⟩ :: rest) ks s = opsIf X N Q all rest ks dst s (iop X (dst.getD 0) (.binOp op t x (.const (.slice none 0 0)) u) (evalP s.env) s.st) := fun h => ops_cons h
 unfold nilC
 split
 ·simp only [ops, rwpY, stepY, guardOn, if_true, yOf]
  rw [if_pos (show nilO (.const (.slice none 0 0)) = true from rfl)]
  simp only [hp]
  have := ex
  simp only [ex]
 ·rename_i hne
  apply rest_
  simp only [yOf]
  rw [if_pos (show nilO (.const (.slice none 0 0)) = true from rfl)]
  split
  ·rename_i he; exact absurd (hp.symm.trans he) (hne _)
  ·rfl
theorem nY_move {X : Cfg} : ∀ a0, noY1 X (.move a0) = true := by intros; exact nrfl rfl
theorem nY_assign {X : Cfg} : ∀ a0, noY1 X (.assign a0) = true := by intros; exact nrfl rfl
theorem nY_pick {X : Cfg} : ∀ a0 a1 a2, noY1 X (.pick a0 a1 a2) = true := by intros; exact nrfl rfl
theorem nY_alloc {X : Cfg} : ∀ a0, noY1 X (.alloc a0) = true := by intros; exact nrfl rfl
theorem nY_box {X : Cfg} : ∀ a0 a1, noY1 X (.box a0 a1) = true := by intros; exact nrfl rfl
theorem nY_build {X : Cfg} : ∀ a0 a1, noY1 X (.build a0 a1) = true := by intros; exact nrfl rfl
theorem nY_buildSlice {X : Cfg} : ∀ a0 a1 a2, noY1 X (.buildSlice a0 a1 a2) = true := by intros; exact nrfl rfl
theorem nY_load {X : Cfg} : ∀ a0 a1, noY1 X (.load a0 a1) = true := by intros; exact nrfl rfl
theorem nY_store {X : Cfg} : ∀ a0 a1 a2, noY1 X (.store a0 a1 a2) = true := by intros; exact nrfl rfl
theorem nY_nilCheck {X : Cfg} : ∀ a0, noY1 X (.nilCheck a0) = true := by intros; exact nrfl rfl
theorem nY_binOp {X : Cfg} : ∀ a0 a1 a2 a3 a4, noY1 X (.binOp a0 a1 a2 a3 a4) = !nilO a3 := by intros; exact nrfl rfl
theorem nilO_tmp {t : Nat} : nilO (.tmp t) = false := nrfl rfl
theorem nilO_int {k : IntKind} {n : Int} : nilO (.const (.int k n)) = false := nrfl rfl
theorem nY_unOp {X : Cfg} : ∀ a0 a1 a2, noY1 X (.unOp a0 a1 a2) = true := by intros; exact nrfl rfl
theorem nY_convert {X : Cfg} : ∀ a0 a1 a2, noY1 X (.convert a0 a1 a2) = true := by intros; exact nrfl rfl
theorem nY_makeInterface {X : Cfg} : ∀ a0 a1, noY1 X (.makeInterface a0 a1) = true := by intros; exact nrfl rfl
theorem nY_makeFunc {X : Cfg} : ∀ a0 a1 a2, noY1 X (.makeFunc a0 a1 a2) = true := by intros; exact nrfl rfl
theorem nY_makeMap {X : Cfg} : ∀ a0 a1, noY1 X (.makeMap a0 a1) = true := by intros; exact nrfl rfl
theorem nY_makeSlice {X : Cfg} : ∀ a0 a1 a2, noY1 X (.makeSlice a0 a1 a2) = true := by intros; exact nrfl rfl
theorem nY_slice {X : Cfg} : ∀ a0 a1 a2 a3 a4, noY1 X (.slice a0 a1 a2 a3 a4) = true := by intros; exact nrfl rfl
theorem nY_fieldAddr {X : Cfg} : ∀ a0 a1 a2, noY1 X (.fieldAddr a0 a1 a2) = true := by intros; exact nrfl rfl
theorem nY_field {X : Cfg} : ∀ a0 a1 a2, noY1 X (.field a0 a1 a2) = true := by intros; exact nrfl rfl
theorem nY_indexAddr {X : Cfg} : ∀ a0 a1 a2, noY1 X (.indexAddr a0 a1 a2) = true := by intros; exact nrfl rfl
theorem nY_lookup {X : Cfg} : ∀ a0 a1 a2 a3, noY1 X (.lookup a0 a1 a2 a3) = true := by intros; exact nrfl rfl
theorem nY_mapUpdate {X : Cfg} : ∀ a0 a1 a2 a3, noY1 X (.mapUpdate a0 a1 a2 a3) = true := by intros; exact nrfl rfl
theorem nY_typeAssert {X : Cfg} : ∀ a0 a1 a2 a3, noY1 X (.typeAssert a0 a1 a2 a3) = true := by intros; exact nrfl rfl
theorem nY_extract {X : Cfg} : ∀ a0 a1, noY1 X (.extract a0 a1) = true := by intros; exact nrfl rfl
theorem nY_callf {X : Cfg} {f : FuncId} {a : Array Operand} {b : Array TypeId} : noY1 X (.call ⟨.value (.func f), a, b⟩) = true := nrfl rfl
theorem nY_callb {X : Cfg} {f : Builtin} {a : Array Operand} {b : Array TypeId} : noY1 X (.call ⟨.builtin f, a, b⟩) = true := nrfl rfl
theorem nY_calli {X : Cfg} {r : Operand} {m : String} {a : Array Operand} {b : Array TypeId} : noY1 X (.call ⟨.invoke r m, a, b⟩) = true := nrfl rfl
theorem nY_callt {X : Cfg} {t : Nat} {a : Array Operand} {b : Array TypeId} : noY1 X (.call ⟨.value (.tmp t), a, b⟩) = X.yl.isNone := nrfl rfl
theorem isNone_none {α : Type} : (none : Option α).isNone = true := nrfl rfl
theorem ops_consVc {P : Program} {E : Entries} {m f : List Nat} {dp : Nat} {rd : Bool} {l : Nat} {H : Hook} {N : Nat} {Q : IExit → IState → Prop} {ks : List Kf} {s : IState} {all : Array Oper} {rest : List Oper} {dst : Option Nat} {t : Nat} {as : List Operand} {ts : List TypeId} {ty : TypeId} {pos : String} {after : Array Edge} :
  ops (cfg P E m f dp (some (l, H)) rd) N Q all (⟨dst, .call ⟨.value (.tmp t), as.toArray, ts.toArray⟩, ty, pos, after, none⟩ :: rest) ks s =
   opsV (evalP s.env (.tmp t)) l (opsIf (cfg P E m f dp (some (l, H)) rd) N Q all rest ks dst s (callP (cfg P E m f dp (some (l, H)) rd) (dst.getD 0) (evalP s.env (.tmp t)) (tsOf (cfg P E m f dp (some (l, H)) rd) (dst.getD 0) ts) (evs (evalP s.env) as) s.st))
    (H (evs (evalP s.env) as) s.st fun b st' => opsIf (cfg P E m f dp (some (l, H)) rd) N Q all rest ks dst s (some (.bool b, st'))) := ops_consV rfl
theorem ops_guardVc {P : Program} {E : Entries} {m f : List Nat} {dp : Nat} {rd : Bool} {l : Nat} {H : Hook} {N : Nat} {Q : IExit → IState → Prop} {ks : List Kf} {s : IState} {all : Array Oper} {rest : List Oper} {dst : Option Nat} {t : Nat} {as : List Operand} {ts : List TypeId} {ty : TypeId} {pos : String} {after : Array Edge} {j : Nat} {want : Bool} :
  ops (cfg P E m f dp (some (l, H)) rd) N Q all (⟨dst, .call ⟨.value (.tmp t), as.toArray, ts.toArray⟩, ty, pos, after, some (j, want)⟩ :: rest) ks s =
   guardC (guardP all s.env j) want (opsV (evalP s.env (.tmp t)) l (opsIf (cfg P E m f dp (some (l, H)) rd) N Q all rest ks dst s (callP (cfg P E m f dp (some (l, H)) rd) (dst.getD 0) (evalP s.env (.tmp t)) (tsOf (cfg P E m f dp (some (l, H)) rd) (dst.getD 0) ts) (evs (evalP s.env) as) s.st))
    (H (evs (evalP s.env) as) s.st fun b st' => opsIf (cfg P E m f dp (some (l, H)) rd) N Q all rest ks dst s (some (.bool b, st'))))
    (opsIf (cfg P E m f dp (some (l, H)) rd) N Q all rest ks dst s (some (.tuple [], s.st))) := ops_guardV rfl
theorem cfg_yl {P : Program} {l : Entries} {m f : List Nat} {dp : Nat} {yl : Option (Nat × Hook)} {rnd : Bool} : (cfg P l m f dp yl rnd).yl = yl := nrfl rfl
theorem rndX_cfg {P : Program} {l : Entries} {m f : List Nat} {dp : Nat} {yl : Option (Nat × Hook)} {rnd : Bool} : rndX (cfg P l m f dp yl rnd) = cfg P l m f dp yl true := nrfl rfl
theorem setps_cons {ρ : Nat → PV} {p : Nat} {ps : List Nat} {v : PV} {vs : List PV} : setps ρ (p :: ps) (v :: vs) = setps (upd ρ p v) ps vs := nrfl rfl
theorem setps_nil {ρ : Nat → PV} {vs : List PV} : setps ρ [] vs = ρ := nrfl rfl
def Later (st st' : Store) : Prop := st.next ≤ st'.next ∧ ∀ x o, x < st.next → st.obj x = some o → (∀ r, o ≠ .lp r) → st'.obj x = some o
theorem Later.refl (st : Store) : Later st st := ⟨Nat.le_refl _, fun _ _ _ h _ => h⟩
def Stays (J : Store → Prop) : Prop := ∀ st st', J st → Later st st' → J st'
theorem Stays.obj {x : Nat} {o : IObj} (h : ∀ r, o ≠ .lp r) : Stays fun st => st.obj x = some o ∧ x < st.next := fun st st' ⟨h1, h2⟩ hl => ⟨hl.2 x o h2 h1 h, Nat.lt_of_lt_of_le h2 hl.1⟩
theorem Stays.and {J K : Store → Prop} (h : Stays J) (g : Stays K) : Stays fun st => J st ∧ K st := fun st st' ⟨a, b⟩ hl => ⟨h st st' a hl, g st st' b hl⟩
theorem Stays.const {P : Prop} : Stays fun _ => P := fun _ _ h _ => h
theorem Stays.ex {α : Type} {J : α → Store → Prop} (h : ∀ a, Stays (J a)) : Stays fun st => ∃ a, J a st := fun st st' ⟨a, g⟩ hl => ⟨a, h a st st' g hl⟩
def roundB (id : Nat) (rb : Loop) (J1 : Store → Prop) (Ex : IExit → Store → Prop) : IExit → IState → Prop := fun e s2 =>
 s2.st.obj id = some (.lp rb) ∧ id < s2.st.next ∧ match e with | .normal => J1 s2.st | e => Ex e s2.st
def roundA (X : Cfg) (N id : Nat) (r : Loop) (J1 : Store → Prop) (Ex : IExit → Store → Prop) (body : Code) : IExit → IState → Prop := fun e s1 =>
 e = .normal ∧ s1.st.obj id = some (.lp r) ∧ ∀ rb, run (rndX X) N (roundB id rb J1 Ex) (undraw body) [] ⟨s1.env, s1.st.set id (.lp rb)⟩
theorem later_set {st : Store} {id : Nat} {r r' : Loop} (h : st.obj id = some (.lp r)) : Later st (st.set id (.lp r')) := by
 refine ⟨Nat.le_refl _, fun x o hx ho hl => ?_⟩
 have hne : x ≠ id := fun e => by subst e; rw [h] at ho; cases ho; exact hl r rfl
 simp [Store.set, updO, hne, ho]
theorem later_new {st : Store} {o : IObj} : Later st (st.new o) := by
 refine ⟨by simp [Store.new], fun x o' hx ho _ => ?_⟩
 have : x ≠ st.next := by omega
 simp [Store.new, updO, this, ho]
def Keep (base : Nat) (st st' : Store) : Prop := st.next ≤ st'.next ∧ ∀ x, base ≤ x → x < st.next → (∀ r, st.obj x ≠ some (.lp r)) → st'.obj x = st.obj x
theorem Keep.mono {b b' : Nat} {st st' : Store} (h : Keep b st st') (hb : b ≤ b') : Keep b' st st' := ⟨h.1, fun x hx => h.2 x (by omega)⟩
def YieldsF (P : Program) (d : Nat) (f : FuncId) (first captured : List PV) (ys : List (List PV)) : Prop :=
 ∃ fn c, P.funcs[f]? = some fn ∧ fn.body = some c ∧ (fn.name == "runtime.NumGoroutine") = false ∧ fn.results.toList = [] ∧ first.length + 1 + captured.length ≤ fn.ntmps ∧
  ∀ (l : Nat) (H : Hook) (J : Nat → Store → Prop) (E : Store → Prop) (st : Store) (X : Cfg), X.P = P → X.yl = some (l, H) → X.rnd = false → HookMono X → J 0 st →
   (∀ i st st', J i st → st.next ≤ st'.next → (∀ x, x < st.next → st'.obj x = st.obj x) → J i st') →
   (∀ i y st1, ys[i]? = some y → J i st1 → H y st1 fun b st' => if b = true then J (i + 1) st' ∧ Keep st.next st1 st' else E st') →
   gen (d + 1) X fn.ntmps c (fun e s => (e = .normal ∨ e = .ret) ∧ (J ys.length s.st ∨ E s.st)) ⟨env0 (first ++ .func (.yield l) [] [] :: captured), st⟩
theorem yields_ofF {P : Program} {l : Entries} (hl : EntriesOK P l) (muts frz : List Nat) (dep : Nat) {f : FuncId} {fn : Func} {c : Code} (hf : P.funcs[f]? = some fn) (hb : fn.body = some c)
  (hname : (fn.name == "runtime.NumGoroutine") = false) (hrs : fn.results.toList = []) {first captured : List PV} {N : Nat} (hN : fn.ntmps = N) (hn : first.length + 1 + captured.length ≤ N)
  (hd : ∀ y, drawsOk (cfg P l muts frz dep (some y)) c = true) {ys : List (List PV)}
  (h : ∀ (y : Nat) (H : Hook) (J : Nat → Store → Prop) (E : Store → Prop) (st : Store), HookMono (cfg P l muts frz dep (some (y, H))) → J 0 st →
   (∀ i st st', J i st → st.next ≤ st'.next → (∀ x, x < st.next → st'.obj x = st.obj x) → J i st') →
   (∀ i v st1 (K : Bool → Store → Prop), ys[i]? = some v → J i st1 → (∀ st', J (i + 1) st' → Keep st.next st1 st' → K true st') → (∀ st', E st' → K false st') → H v st1 K) →
   run (cfg P l muts frz dep (some (y, H))) N (fun e s => (e = .normal ∨ e = .ret) ∧ (J ys.length s.st ∨ E s.st)) (undraw c) [] ⟨env0 (first ++ .func (.yield y) [] [] :: captured), st⟩) :
  YieldsF P dep f first captured ys := by
 subst hN
 refine ⟨fn, c, hf, hb, hname, hrs, hn, fun y H J E st X hP hyl hrnd hm h0 hst hH => ⟨cfg P l muts frz dep (some (y, H)), hP.symm, hyl.symm, hrnd.symm, rfl, tabOf_ok hl, tabOf_quiet hl, ?_⟩⟩
 have hm' : HookMono (cfg P l muts frz dep (some (y, H))) := fun l' H' he => hm l' H' (by rw [hyl]; exact he)
 have := h y H J E st hm' h0 hst (fun i v st K hv hJ ht hf => hm' y H rfl _ _ _ _ (fun b st' hb => by
  cases b
  ·exact hf st' (by simpa using hb)
  ·have := (show _ ∧ _ by simpa using hb); exact ht st' this.1 this.2) (hH i v st hv hJ))
 exact wpI_undraw hm' (hd _) this
theorem run_rangeF {X : Cfg} {N : Nat} {Q : IExit → IState → Prop} {ks : List Kf} {ρ : Nat → PV} {st : Store} {g : Operand} {ps : Array Tmp} {assign body : Code} {d : Nat} {f : FuncId} {first captured : List PV} {ys : List (List PV)}
  (hr : X.rnd = false) (hd : X.dep = d + 1) (hm : HookMono X) (hg : evalP ρ g = .func (.func f) first captured) (hy : YieldsF X.P d f first captured ys) (hps : (ps.toList.all fun p => decide (p < N)) = true) (hlen : ∀ y ∈ ys, y.length = ps.size)
  (ha : drawsOk (rndX X) assign = true) (hb : drawsOk (rndX X) body = true)
  (J : Nat → Store → Prop) (Ex : IExit → Store → Prop) (hJ : ∀ i, Stays (J i)) (hE : ∀ e, Stays (Ex e)) (h0 : J 0 st)
  (hround : ∀ i y st1 id r, ys[i]? = some y → id < st1.next → st1.obj id = some (.lp r) → st.next ≤ id → J i st1 → run (rndX X) N (roundA X N id r (fun st' => J (i + 1) st' ∧ Keep st.next st1 st') Ex body) (undraw assign) [] ⟨setps ρ ps.toList y, st1⟩)
  (hend : ∀ st, J ys.length st → cont X N Q ks ⟨ρ, st⟩) (hex : ∀ i st, Ex (.exit i) st → leave X N Q ks i ⟨ρ, st⟩) (hret : ∀ st, Ex .ret st → done X N Q ks ⟨ρ, st⟩) :
  run X N Q (.rangeFunc g ps assign body) ks ⟨ρ, st⟩ := by
 have hmr : HookMono (rndX X) := hm
 simp only [run, wpI, wpC]
 refine ⟨hr, ?_⟩
 rw [hg]
 obtain ⟨fn, c, h1, h2, h3, h4, h5, h6⟩ := hy
 refine ⟨fn, c, h1, h2, h3, h4, h5, hps, fun l r hr1 hr2 => ?_⟩
 have hgm := gen_mono X.dep
 generalize hH : (fun (args : List PV) (st1 : Store) (K : Bool → Store → Prop) => st1.obj st.next = some (IObj.lp r) ∧ args.length = ps.size ∧
       wpC (gen X.dep) (rndX X) N assign (fun e s1 => e = .normal ∧ s1.st.obj st.next = some (.lp r) ∧
        wpC (gen X.dep) (rndX X) N body (fun e s2 => s2.st.obj st.next = some (.lp { r with state := .busy }) ∧
         match e with
         | .normal => K true (s2.st.set st.next (.lp r))
         | .ret => K false (s2.st.set st.next (.lp { r with state := .done, pending := some .ret }))
         | .exit i => K false (s2.st.set st.next (.lp { r with state := .done, pending := some (.exit i) })))
         ⟨s1.env, s1.st.set st.next (.lp { r with state := .busy })⟩)
        ⟨setps ρ ps.toList args, st1⟩) = H
 have hHm : HookMono (genX X (l, H)) := by
  intro l' H' he args st K K' hk hh
  simp only [genX, Option.some.injEq, Prod.mk.injEq] at he
  obtain ⟨rfl, rfl⟩ := he
  subst hH
  obtain ⟨g1, g2, g3⟩ := hh
  refine ⟨g1, g2, wpC_mono hgm (rndX X) N assign _ _ _ hmr (fun e s1 he => ⟨he.1, he.2.1, wpC_mono hgm (rndX X) N body _ _ _ hmr (fun e s2 he2 => ⟨he2.1, ?_⟩) he.2.2⟩) g3⟩
  cases e with
  | normal => exact hk _ _ he2.2
  | exit i => exact hk _ _ he2.2
  | ret => exact hk _ _ he2.2
 have key := h6 l H (fun i st1 => st1.obj st.next = some (.lp r) ∧ st.next < st1.next ∧ J i st1)
  (fun st1 => (st1.obj st.next = some (.lp { r with state := .done, pending := some .ret }) ∧ Ex .ret st1) ∨ ∃ i, st1.obj st.next = some (.lp { r with state := .done, pending := some (.exit i) }) ∧ Ex (.exit i) st1)
  (st.new (.lp r)) (genX X (l, H)) rfl rfl rfl hHm ⟨by simp [Store.new, updO], by simp [Store.new], hJ 0 _ _ h0 later_new⟩
  (fun i s1 s2 ⟨a1, a2, a3⟩ hn ho => ⟨by rw [ho _ a2]; exact a1, by omega, hJ i _ _ a3 ⟨hn, fun x o hx hox _ => by rw [ho x hx]; exact hox⟩⟩)
  (fun i y s1 hy' ⟨a1, a2, a3⟩ => by
   subst hH
   refine ⟨a1, hlen y (List.mem_of_getElem? hy'), ?_⟩
   have hrn := wpC_undraw hgm hmr ha (hround i y s1 st.next r hy' a2 a1 (Nat.le_refl _) a3)
   refine wpC_mono hgm (rndX X) N assign _ _ _ hmr (fun e t1 he => ?_) hrn
   obtain ⟨rfl, b2, b3⟩ := he
   refine ⟨rfl, b2, ?_⟩
   have hrb := wpC_undraw hgm hmr hb (b3 { r with state := .busy })
   refine wpC_mono hgm (rndX X) N body _ _ _ hmr (fun e t2 he => ?_) hrb
   obtain ⟨c1, c2, c3⟩ := he
   refine ⟨c1, ?_⟩
   cases e with
   | normal =>
    obtain ⟨c3, c4, c5⟩ := c3
    simp only [if_true]
    refine ⟨⟨by simp [Store.set, updO], c2, hJ (i + 1) _ _ c3 (later_set c1)⟩, c4, fun x hx hlt hlp => ?_⟩
    have hne : x ≠ st.next := fun e => by subst e; exact hlp r a1
    rw [← c5 x (by simp [Store.new] at hx; omega) hlt hlp]
    simp [Store.set, updO, hne]
   | ret => simp only [Bool.false_eq_true, if_false]; exact .inl ⟨by simp [Store.set, updO], hE _ _ _ c3 (later_set c1)⟩
   | exit j => simp only [Bool.false_eq_true, if_false]; exact .inr ⟨j, by simp [Store.set, updO], hE _ _ _ c3 (later_set c1)⟩)
 rw [← hd] at key
 refine gen_mono X.dep _ _ _ _ _ _ hHm (fun e s1 he => ⟨he.1, ?_⟩) key
 rcases he.2 with ⟨a1, a2, a3⟩ | ⟨a1, a2⟩ | ⟨i, a1, a2⟩
 ·exact .inl ⟨a1, hend _ (hJ _ _ _ a3 (later_set a1))⟩
 ·exact .inr (.inl ⟨a1, hret _ (hE _ _ _ a2 (later_set a1))⟩)
 ·exact .inr (.inr ⟨i, a1, hex i _ (hE _ _ _ a2 (later_set a1))⟩)
end Sim
