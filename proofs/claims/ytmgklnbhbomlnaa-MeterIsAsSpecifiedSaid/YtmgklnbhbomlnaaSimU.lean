/- Maps, iterators and generators, for walks. -/
import Derived.Test.YtmgklnbhbomlnaaSimS
namespace Sim
open Go
set_option linter.unusedVariables false
set_option linter.unusedSimpArgs false
section
variable {X : Cfg} {d : Nat} {ρ : Operand → PV} {st : Store}
theorem iop_makeMap {t : TypeId} : iop X d (.makeMap t none) ρ st = (tvMap X.P t).bind fun q => some (.mref st.next 0, st.new (.map 0 q.1 [])) := nrfl rfl
theorem iop_makeMap' {t : TypeId} {r : Operand} : iop X d (.makeMap t (some r)) ρ st = (tvMap X.P t).bind fun q => (intOfP (ρ r)).map fun _ => (.mref st.next 0, st.new (.map 0 q.1 [])) := nrfl rfl
theorem iop_insert {t : TypeId} {m k v : Operand} : iop X d (.insert t m k v) ρ st = (mapPut st (tvMap X.P t) (ρ m) (ρ k) (ρ v)).map fun st' => (.bad, st') := nrfl rfl
theorem iop_mapUpdate {t : TypeId} {m k v : Operand} : iop X d (.mapUpdate t m k v) ρ st = (mapPut st (tvMap X.P t) (ρ m) (ρ k) (ρ v)).map fun st' => (.bad, st') := nrfl rfl
theorem iop_lookup {t : TypeId} {m k : Operand} {ok : Bool} : iop X d (.lookup t m k ok) ρ st = (mapGet st (tvMap X.P t) (ρ m) (ρ k) ok).map fun v => (v, st) := nrfl rfl
theorem iop_range {t : TypeId} {m : Operand} : iop X d (.range t m) ρ st = mapRange st (tvMap X.P t) (ρ m) := nrfl rfl
theorem iop_entry {x : Operand} : iop X d (.entry x) ρ st = (mapEntry st (ρ x)).map fun v => (v, st) := nrfl rfl
/-- The map that lies at a place. -/
def mapB (o : Option IObj) (gen : Nat) : Option (MK × List (PV × PV)) := match o with | some (.map g mk es) => if gen = g then some (mk, es) else none | _ => none
theorem mapB_some {g h : Nat} {mk : MK} {es : List (PV × PV)} : mapB (some (.map h mk es)) g = if g = h then some (mk, es) else none := nrfl rfl
theorem mapPut_mref {mk : MK} {z : PV} {id gen : Nat} {k v : PV} : mapPut st (some (mk, z)) (.mref id gen) k v = (mapB (st.obj id) gen).bind fun q => if mk = q.1 ∧ keyIs q.1 k = true then some (st.set id (.map gen q.1 (mput q.2 k v))) else none := by
  simp only [mapPut, mapB]
  cases st.obj id with
  | none => rfl
  | some o =>
    cases o <;> try rfl
    rename_i g mk' es
    by_cases h : gen = g
    · subst h; simp
    · simp [h]
def mapLk (mk : MK) (z : PV) (k : PV) (ok : Bool) (q : MK × List (PV × PV)) : Option PV := if q.1 = mk then (match mget q.2 k with
        | some v => some (if ok then .tuple [v, .bool true] else v)
        | none => some (if ok then .tuple [z, .bool false] else z)) else none
theorem mapGet_mref {mk : MK} {z : PV} {id gen : Nat} {k : PV} {ok : Bool} : mapGet st (some (mk, z)) (.mref id gen) k ok = if keyIs mk k = true then (mapB (st.obj id) gen).bind (mapLk mk z k ok) else none := by
  simp only [mapGet, mapB, Option.bind_some]
  split
  · cases st.obj id with
    | none => rfl
    | some o =>
      cases o <;> try rfl
      rename_i g mk' es
      by_cases h : gen = g
      · subst h
        by_cases hm : mk' = mk
        · simp [mapLk, hm]; cases mget es k <;> rfl
        · simp [mapLk, hm]
      · simp [h]
  · rfl
theorem mapLk_tt {mk : MK} {z k : PV} {es : List (PV × PV)} : mapLk mk z k true (mk, es) = some (.tuple [(mget es k).getD z, .bool (mget es k).isSome]) := by
  cases h : mget es k <;> simp [mapLk, h]
theorem mapLk_ff {mk : MK} {z k : PV} {es : List (PV × PV)} : mapLk mk z k false (mk, es) = some ((mget es k).getD z) := by
  cases h : mget es k <;> simp [mapLk, h]
theorem mapGet_nilm {mk : MK} {z k : PV} {ok : Bool} : mapGet st (some (mk, z)) .nilm k ok = if keyIs mk k = true then some (if ok then .tuple [z, .bool false] else z) else none := nrfl rfl
theorem mapRange_mref {q : MK × PV} {id gen : Nat} : mapRange st (some q) (.mref id gen) = (mapB (st.obj id) gen).bind fun r => some (.iter st.next 0, st.new (.it (some (id, gen)) r.2.length [])) := by
  simp only [mapRange, mapB, Option.bind_some]
  cases st.obj id with
  | none => rfl
  | some o =>
    cases o <;> try rfl
    rename_i g mk' es
    by_cases h : gen = g
    · subst h; simp
    · simp [h]
theorem mapRange_nilm {q : MK × PV} : mapRange st (some q) .nilm = some (.iter st.next 0, st.new (.it none 0 [])) := nrfl rfl
theorem lenM_mref {q : MK × PV} {L : Option Int} {id gen : Nat} : lenM st (some q) L (.mref id gen) = (mapB (st.obj id) gen).bind fun r => some (r.2.length : Int) := by
  simp only [lenM, mapLen, mapB, Option.bind_some]
  cases st.obj id with
  | none => rfl
  | some o =>
    cases o <;> try rfl
    rename_i g mk' es
    by_cases h : gen = g
    · subst h; simp
    · simp [h]
theorem lenM_nilm {q : MK × PV} {L : Option Int} : lenM st (some q) L .nilm = some 0 := nrfl rfl
theorem keyIs_int {k k' : IntKind} {n : Int} : keyIs (.int k) (.int k' n) = decide (k = k') := nrfl rfl
theorem keyIs_str {s : List UInt8} : keyIs .str (.str s) = true := nrfl rfl
theorem keyIs_bool {b : Bool} : keyIs .bool (.bool b) = true := nrfl rfl
theorem copyP_ref {z id gen s n : Nat} {y : PV} : copyP st z (.ref id gen s n) y = (arrB (st.obj id) gen).bind fun q => if s + n ≤ q.2.length ∧ q.1 = z ∧ 0 < z ∧ y.isStr = false then (elemsP st z y).bind fun ys => some (min ys.length n, st.set id (.arr gen z (q.2.take s ++ ys.take (min ys.length n) ++ q.2.drop (s + min ys.length n)))) else none := nrfl rfl
theorem isStr_ref {i g s n : Nat} : PV.isStr (.ref i g s n) = false := nrfl rfl
theorem isStr_lits {z : Nat} {l : List PV} : PV.isStr (.lits z l) = false := nrfl rfl
theorem isStr_nils : PV.isStr .nils = false := nrfl rfl
theorem iop_mapEntry {t : TypeId} {m k : Operand} : iop X d (.mapEntry t m k) ρ st = mapSlot st (tvMap X.P t) (ρ m) (ρ k) := nrfl rfl
theorem iop_entryStore {t : TypeId} {m s x : Operand} : iop X d (.entryStore t m s x) ρ st = (mapStore st (ρ m) (ρ s) (ρ x)).map fun st' => (.bad, st') := nrfl rfl
theorem mapSlot_mref {mk : MK} {z : PV} {id gen : Nat} {k : PV} : mapSlot st (some (mk, z)) (.mref id gen) k = (mapB (st.obj id) gen).bind fun q => if q.1 = mk ∧ keyIs q.1 k = true then some (.tuple [(mget q.2 k).getD z, .int .i64 (mpos q.2 k)], st.set id (.map gen q.1 (mput q.2 k ((mget q.2 k).getD z)))) else none := by
  simp only [mapSlot, mapB, Option.bind_some]
  cases st.obj id with
  | none => rfl
  | some o =>
    cases o <;> try rfl
    rename_i g mk' es
    by_cases h : gen = g
    · subst h; simp
    · simp [h]
/-- An entry gets its value. -/
def mset (es : List (PV × PV)) (n : Nat) (x : PV) : Option (List (PV × PV)) := (es[n]?).map fun e => es.set n (e.1, x)
theorem mset_eq {es : List (PV × PV)} {k v x : PV} : mset (mput es k v) (mpos es k) x = some (mput es k x) := by
  induction es with
  | nil => rfl
  | cons e es ih =>
    simp only [mput, mpos]
    split
    · rfl
    · simp only [mset, List.getElem?_cons_succ, List.set_cons_succ] at ih ⊢
      simp only [Option.map_eq_some_iff] at ih ⊢
      obtain ⟨a, h1, h2⟩ := ih
      exact ⟨a, h1, by rw [h2]⟩
theorem mapStore_mref {id gen : Nat} {ik : IntKind} {n : Int} {x : PV} : mapStore st (.mref id gen) (.int ik n) x = (mapB (st.obj id) gen).bind fun q => if 0 ≤ n then (mset q.2 n.toNat x).map fun es => st.set id (.map gen q.1 es) else none := by
  simp only [mapStore, mapB]
  cases st.obj id with
  | none => rfl
  | some o =>
    cases o <;> try rfl
    rename_i g mk' es
    by_cases h : gen = g
    · subst h
      by_cases hn : 0 ≤ n
      · simp [hn, mset, Option.map_map, Function.comp_def]
      · simp [hn]
    · simp [h]
theorem keyIs_ints2 {a b : Int} : keyIs (.ints 2) (.agg [.int .i64 a, .int .i64 b]) = decide ((-9223372036854775808 ≤ a ∧ a ≤ 9223372036854775807) ∧ (-9223372036854775808 ≤ b ∧ b ≤ 9223372036854775807)) := by
  simp [keyIs, intsL]
/-- A step of an iterator over a map. -/
theorem mapNext_eq {id m g n : Nat} {seen : List Nat} {mk : MK} {es : List (PV × PV)} (h1 : st.obj id = some (.it (some (m, g)) n seen)) (h2 : st.obj m = some (.map g mk es)) {K : PV → Store → Prop} :
    mapNext st (.iter id 0) K = (es.length = n ∧ (seen.length = n → K (.tuple [.bool false]) st) ∧ (∀ i k v, es[i]? = some (k, v) → i ∉ seen → K (.tuple [.bool true, k, v]) (st.set id (.it (some (m, g)) n (seen ++ [i]))))) := by
  simp [mapNext, h1, h2]
theorem mapEntry_eq {id m g n : Nat} {seen : List Nat} {i : Nat} {mk : MK} {es : List (PV × PV)} {k v : PV} (h1 : st.obj id = some (.it (some (m, g)) n (seen ++ [i]))) (h2 : st.obj m = some (.map g mk es)) (h3 : es.length = n) (h4 : es[i]? = some (k, v)) :
    mapEntry st (.iter id 0) = some (.tuple [k, v]) := by
  simp [mapEntry, h1, h2, h3, h4]
end
section
variable {X : Cfg} {N : Nat} {Q : IExit → IState → Prop} {ks : List Kf} {s : IState}
theorem ops_consN {all : Array Oper} {rest : List Oper} {dst : Option Nat} {op : Op} {ty : TypeId} {pos : String} {after : Array Edge} (hn : noY1 X op = true) :
    ops X N Q all (⟨dst, op, ty, pos, after, none⟩ :: rest) ks s = opsIf X N Q all rest ks dst s (iop X (dst.getD 0) op (evalP s.env) s.st) := ops_cons (yOf_noY hn)
theorem ops_guardN {all : Array Oper} {rest : List Oper} {dst : Option Nat} {op : Op} {ty : TypeId} {pos : String} {after : Array Edge} {j : Nat} {want : Bool} (hn : noY1 X op = true) :
    ops X N Q all (⟨dst, op, ty, pos, after, some (j, want)⟩ :: rest) ks s =
      guardC (guardP all s.env j) want (opsIf X N Q all rest ks dst s (iop X (dst.getD 0) op (evalP s.env) s.st)) (opsIf X N Q all rest ks dst s (some (.tuple [], s.st))) := ops_guard (yOf_noY hn)
theorem opsIf_ex {all : Array Oper} {l : List Oper} {o : Oper} {r : PV × Store} : (∃ s', putO N o s r = some s' ∧ ops X N Q all l ks s') = opsIf X N Q all l ks o.dst s (some r) := by
  simp only [putO, opsIf]
  cases o.dst with
  | none => simp
  | some d =>
    by_cases hd : d < N
    · simp [hd]
    · simp [hd]
/-- What a call of a function value comes to: l: the number of yield. -/
def opsV (p : PV) (l : Nat) (A B : Prop) : Prop := match p with | .func (.yield l') [] [] => if l' = l then B else A | _ => A
theorem opsV_congr {p p' : PV} {l : Nat} {A B : Prop} (h : p = p') : opsV p l A B = opsV p' l A B := by rw [h]
theorem opsV_func {f l : Nat} {a b : List PV} {A B : Prop} : opsV (.func (.func f) a b) l A B = A := nrfl rfl
theorem opsV_yield {l : Nat} {A B : Prop} : opsV (.func (.yield l) [] []) l A B = B := by simp [opsV]
theorem ops_consV {l : Nat} {H : Hook} (hy : X.yl = some (l, H)) {all : Array Oper} {rest : List Oper} {dst : Option Nat} {f : Operand} {as : List Operand} {ts : List TypeId} {ty : TypeId} {pos : String} {after : Array Edge} :
    ops X N Q all (⟨dst, .call ⟨.value f, as.toArray, ts.toArray⟩, ty, pos, after, none⟩ :: rest) ks s =
      opsV (evalP s.env f) l (opsIf X N Q all rest ks dst s (callP X (dst.getD 0) (evalP s.env f) (tsOf X (dst.getD 0) ts) (evs (evalP s.env) as) s.st)) (H (evs (evalP s.env) as) s.st fun b st' => opsIf X N Q all rest ks dst s (some (.bool b, st'))) := by
  by_cases h : evalP s.env f = .func (.yield l) [] []
  · rw [h, opsV_yield]
    simp only [ops, rwpY, stepY, guardOn, if_true, yOf, hy, h]
    simp only [evs_eq]
    have : (fun (b : Bool) (st' : Store) => ∃ s', putO N ⟨dst, .call ⟨.value f, as.toArray, ts.toArray⟩, ty, pos, after, none⟩ s (.bool b, st') = some s' ∧ rwpY X N all rest s' (cont X N Q ks)) = fun b st' => opsIf X N Q all rest ks dst s (some (.bool b, st')) := by
      funext b st'; exact opsIf_ex (o := ⟨dst, .call ⟨.value f, as.toArray, ts.toArray⟩, ty, pos, after, none⟩)
    rw [this]
  · have hn : yOf X (.call ⟨.value f, as.toArray, ts.toArray⟩) (evalP s.env) = none := by
      simp only [yOf, hy]
      split
      · rename_i l' hl
        split
        · rename_i e; subst e; exact absurd hl h
        · rfl
      · rfl
    rw [ops_cons hn, iop_callv]
    have : ∀ A B : Prop, opsV (evalP s.env f) l A B = A := fun A B => by
      unfold opsV
      split
      · rename_i l' hl
        split
        · rename_i e; subst e; exact absurd hl h
        · rfl
      · rfl
    rw [this]
theorem ops_guardV {l : Nat} {H : Hook} (hy : X.yl = some (l, H)) {all : Array Oper} {rest : List Oper} {dst : Option Nat} {f : Operand} {as : List Operand} {ts : List TypeId} {ty : TypeId} {pos : String} {after : Array Edge} {j : Nat} {want : Bool} :
    ops X N Q all (⟨dst, .call ⟨.value f, as.toArray, ts.toArray⟩, ty, pos, after, some (j, want)⟩ :: rest) ks s =
      guardC (guardP all s.env j) want (opsV (evalP s.env f) l (opsIf X N Q all rest ks dst s (callP X (dst.getD 0) (evalP s.env f) (tsOf X (dst.getD 0) ts) (evs (evalP s.env) as) s.st)) (H (evs (evalP s.env) as) s.st fun b st' => opsIf X N Q all rest ks dst s (some (.bool b, st'))))
        (opsIf X N Q all rest ks dst s (some (.tuple [], s.st))) := by
  by_cases h : evalP s.env f = .func (.yield l) [] []
  · rw [h, opsV_yield]
    have skip : guardOn all ⟨dst, .call ⟨.value f, as.toArray, ts.toArray⟩, ty, pos, after, some (j, want)⟩ s.env = false → ops X N Q all (⟨dst, .call ⟨.value f, as.toArray, ts.toArray⟩, ty, pos, after, some (j, want)⟩ :: rest) ks s = ∃ s', stepG X N all ⟨dst, .call ⟨.value f, as.toArray, ts.toArray⟩, ty, pos, after, some (j, want)⟩ s = some s' ∧ ops X N Q all rest ks s' := fun hg => by
      simp only [ops, rwpY, stepY, hg, Bool.false_eq_true, if_false]
    have out : (∃ s', (Option.bind (some (PV.tuple [], s.st)) (putO N ⟨dst, .call ⟨.value f, as.toArray, ts.toArray⟩, ty, pos, after, some (j, want)⟩ s)) = some s' ∧ ops X N Q all rest ks s') = opsIf X N Q all rest ks dst s (some (.tuple [], s.st)) := opsIf_ex (o := ⟨dst, .call ⟨.value f, as.toArray, ts.toArray⟩, ty, pos, after, some (j, want)⟩)
    cases hg : guardP all s.env j with
    | bool b =>
      by_cases hb : b = want
      · subst hb
        have h1 : ops X N Q all (⟨dst, .call ⟨.value f, as.toArray, ts.toArray⟩, ty, pos, after, some (j, b)⟩ :: rest) ks s = H (evs (evalP s.env) as) s.st fun b' st' => opsIf X N Q all rest ks dst s (some (.bool b', st')) := by
          have e1 : guardOn all ⟨dst, .call ⟨.value f, as.toArray, ts.toArray⟩, ty, pos, after, some (j, b)⟩ s.env = true := by simp [guardOn, hg]
          simp only [ops, rwpY, stepY, e1, if_true, yOf, hy, h]
          simp only [evs_eq]
          have : (fun (b' : Bool) (st' : Store) => ∃ s', putO N ⟨dst, .call ⟨.value f, as.toArray, ts.toArray⟩, ty, pos, after, some (j, b)⟩ s (.bool b', st') = some s' ∧ rwpY X N all rest s' (cont X N Q ks)) = fun b' st' => opsIf X N Q all rest ks dst s (some (.bool b', st')) := by
            funext b' st'; exact opsIf_ex (o := ⟨dst, .call ⟨.value f, as.toArray, ts.toArray⟩, ty, pos, after, some (j, b)⟩)
          rw [this]
        rw [h1]
        cases b <;> simp [guardC]
      · rw [skip (by simp [guardOn, hg, hb])]
        simp only [stepG, actO, hg, if_neg hb]
        rw [out]
        cases b <;> cases want <;> simp [guardC] at hb ⊢
    | tuple t =>
      rw [skip (by simp [guardOn, hg])]
      cases t with
      | nil =>
        simp only [stepG, actO, hg]
        rw [out, guardC_u]
      | cons a t => simp [stepG, actO, hg, guardC]
    | _ =>
      rw [skip (by simp [guardOn, hg])]
      simp [stepG, actO, hg, guardC]
  · have hn : yOf X (.call ⟨.value f, as.toArray, ts.toArray⟩) (evalP s.env) = none := by
      simp only [yOf, hy]
      split
      · rename_i l' hl
        split
        · rename_i e; subst e; exact absurd hl h
        · rfl
      · rfl
    rw [ops_guard hn, iop_callv]
    have : ∀ A B : Prop, opsV (evalP s.env f) l A B = A := fun A B => by
      unfold opsV
      split
      · rename_i l' hl
        split
        · rename_i e; subst e; exact absurd hl h
        · rfl
      · rfl
    rw [this]
theorem ops_consI {all : Array Oper} {rest : List Oper} {dst : Option Nat} {x : Operand} {ty : TypeId} {pos : String} {after : Array Edge} :
    ops X N Q all (⟨dst, .next x false, ty, pos, after, none⟩ :: rest) ks s = mapNext s.st (evalP s.env x) fun r st' => opsIf X N Q all rest ks dst s (some (r, st')) := by
  simp only [ops, rwpY, stepY, guardOn, if_true, yOf]
  have : (fun (r : PV) (st' : Store) => ∃ s', putO N ⟨dst, .next x false, ty, pos, after, none⟩ s (r, st') = some s' ∧ rwpY X N all rest s' (cont X N Q ks)) = fun r st' => opsIf X N Q all rest ks dst s (some (r, st')) := by
    funext r st'; exact opsIf_ex (o := ⟨dst, .next x false, ty, pos, after, none⟩)
  rw [this]
end
/-- A slice held against nil: an empty one may be nil, or not. -/
def nilC (p : PV) (op : BinOp) (ok : Bool) (A : Prop) (K : PV → Prop) : Prop := match p with | .lits _ [] => ∃ p q, cmpB op ok true = some p ∧ cmpB op ok false = some q ∧ K p ∧ K q | _ => A
theorem nilC_congr {p p' : PV} {op : BinOp} {ok ok' : Bool} {A : Prop} {K : PV → Prop} (h : p = p') (h2 : ok = ok') : nilC p op ok A K = nilC p' op ok' A K := by rw [h, h2]
theorem nilC_nils {op : BinOp} {ok : Bool} {A : Prop} {K : PV → Prop} : nilC .nils op ok A K = A := nrfl rfl
theorem nilC_cons {op : BinOp} {ok : Bool} {A : Prop} {K : PV → Prop} {z : Nat} {x : PV} {l : List PV} : nilC (.lits z (x :: l)) op ok A K = A := nrfl rfl
theorem nilC_nil {A : Prop} {K : PV → Prop} {z : Nat} : nilC (.lits z []) .eql true A K = (K (.bool true) ∧ K (.bool false)) := by simp [nilC, cmpB]
theorem nilC_nil' {A : Prop} {K : PV → Prop} {z : Nat} : nilC (.lits z []) .neq true A K = (K (.bool false) ∧ K (.bool true)) := by simp [nilC, cmpB]
theorem bn_eql {P : Program} {t : TypeId} {z : Nat} {x : PV} {l : List PV} : binP P .eql t (.lits z (x :: l)) .nils = if (tvSlc P t != 0) = true then some (.bool false) else none := by
  simp [binP, cmpB]
theorem bn_neq {P : Program} {t : TypeId} {z : Nat} {x : PV} {l : List PV} : binP P .neq t (.lits z (x :: l)) .nils = if (tvSlc P t != 0) = true then some (.bool true) else none := by
  simp [binP, cmpB]
theorem bnn_eql {P : Program} {t : TypeId} : binP P .eql t .nils .nils = if (tvSlc P t != 0) = true then some (.bool true) else none := by
  simp [binP, cmpB]
theorem bnn_neq {P : Program} {t : TypeId} : binP P .neq t .nils .nils = if (tvSlc P t != 0) = true then some (.bool false) else none := by
  simp [binP, cmpB]
theorem ops_consL {X : Cfg} {N : Nat} {Q : IExit → IState → Prop} {ks : List Kf} {s : IState} {all : Array Oper} {rest : List Oper} {dst : Option Nat} {op : BinOp} {t u : TypeId} {x : Operand} {ty : TypeId} {pos : String} {after : Array Edge} :
    ops X N Q all (⟨dst, .binOp op t x (.const (.slice none 0 0)) u, ty, pos, after, none⟩ :: rest) ks s = nilC (evalP s.env x) op (tvSlc X.P t != 0) (opsIf X N Q all rest ks dst s (iop X (dst.getD 0) (.binOp op t x (.const (.slice none 0 0)) u) (evalP s.env) s.st)) (fun p => opsIf X N Q all rest ks dst s (some (p, s.st))) := by
  have ex : ∀ r : PV × Store, (∃ s', putO N ⟨dst, .binOp op t x (.const (.slice none 0 0)) u, ty, pos, after, none⟩ s r = some s' ∧ rwpY X N all rest s' (cont X N Q ks)) = opsIf X N Q all rest ks dst s (some r) := fun r => opsIf_ex (o := ⟨dst, .binOp op t x (.const (.slice none 0 0)) u, ty, pos, after, none⟩)
  generalize hp : evalP s.env x = p
  have rest_ : yOf X (.binOp op t x (.const (.slice none 0 0)) u) (evalP s.env) = none → ops X N Q all (⟨dst, .binOp op t x (.const (.slice none 0 0)) u, ty, pos, after, none⟩ :: rest) ks s = opsIf X N Q all rest ks dst s (iop X (dst.getD 0) (.binOp op t x (.const (.slice none 0 0)) u) (evalP s.env) s.st) := fun h => ops_cons h
  unfold nilC
  split
  · simp only [ops, rwpY, stepY, guardOn, if_true, yOf]
    rw [if_pos (show nilO (.const (.slice none 0 0)) = true from rfl)]
    simp only [hp]
    have := ex
    simp only [ex]
  · rename_i hne
    apply rest_
    simp only [yOf]
    rw [if_pos (show nilO (.const (.slice none 0 0)) = true from rfl)]
    split
    · rename_i he; exact absurd (hp.symm.trans he) (hne _)
    · rfl
theorem nY_move {X : Cfg} : ∀ a0, noY1 X (.move a0) = true := by intros; exact nrfl rfl
theorem nY_assign {X : Cfg} : ∀ a0, noY1 X (.assign a0) = true := by intros; exact nrfl rfl
theorem nY_pick {X : Cfg} : ∀ a0 a1 a2, noY1 X (.pick a0 a1 a2) = true := by intros; exact nrfl rfl
theorem nY_alloc {X : Cfg} : ∀ a0, noY1 X (.alloc a0) = true := by intros; exact nrfl rfl
theorem nY_box {X : Cfg} : ∀ a0 a1, noY1 X (.box a0 a1) = true := by intros; exact nrfl rfl
theorem nY_build {X : Cfg} : ∀ a0 a1, noY1 X (.build a0 a1) = true := by intros; exact nrfl rfl
theorem nY_buildSlice {X : Cfg} : ∀ a0 a1 a2, noY1 X (.buildSlice a0 a1 a2) = true := by intros; exact nrfl rfl
theorem nY_insert {X : Cfg} : ∀ a0 a1 a2 a3, noY1 X (.insert a0 a1 a2 a3) = true := by intros; exact nrfl rfl
theorem nY_load {X : Cfg} : ∀ a0 a1, noY1 X (.load a0 a1) = true := by intros; exact nrfl rfl
theorem nY_store {X : Cfg} : ∀ a0 a1 a2, noY1 X (.store a0 a1 a2) = true := by intros; exact nrfl rfl
theorem nY_nilCheck {X : Cfg} : ∀ a0, noY1 X (.nilCheck a0) = true := by intros; exact nrfl rfl
theorem nY_binOp {X : Cfg} : ∀ a0 a1 a2 a3 a4, noY1 X (.binOp a0 a1 a2 a3 a4) = !nilO a3 := by intros; exact nrfl rfl
theorem nilO_tmp {t : Nat} : nilO (.tmp t) = false := nrfl rfl
theorem nilO_int {k : IntKind} {n : Int} : nilO (.const (.int k n)) = false := nrfl rfl
theorem nilO_bool {b : Bool} : nilO (.const (.bool b)) = false := nrfl rfl
theorem nilO_str {s : ByteArray} : nilO (.const (.string s)) = false := nrfl rfl
theorem nilO_ptr {a : Option Addr} : nilO (.const (.pointer a)) = false := nrfl rfl
theorem nilO_iface : nilO (.const .nilIface) = false := nrfl rfl
theorem nY_unOp {X : Cfg} : ∀ a0 a1 a2, noY1 X (.unOp a0 a1 a2) = true := by intros; exact nrfl rfl
theorem nY_convert {X : Cfg} : ∀ a0 a1 a2, noY1 X (.convert a0 a1 a2) = true := by intros; exact nrfl rfl
theorem nY_makeInterface {X : Cfg} : ∀ a0 a1, noY1 X (.makeInterface a0 a1) = true := by intros; exact nrfl rfl
theorem nY_makeFunc {X : Cfg} : ∀ a0 a1 a2, noY1 X (.makeFunc a0 a1 a2) = true := by intros; exact nrfl rfl
theorem nY_makeMap {X : Cfg} : ∀ a0 a1, noY1 X (.makeMap a0 a1) = true := by intros; exact nrfl rfl
theorem nY_makeSlice {X : Cfg} : ∀ a0 a1 a2, noY1 X (.makeSlice a0 a1 a2) = true := by intros; exact nrfl rfl
theorem nY_slice {X : Cfg} : ∀ a0 a1 a2 a3 a4, noY1 X (.slice a0 a1 a2 a3 a4) = true := by intros; exact nrfl rfl
theorem nY_fieldAddr {X : Cfg} : ∀ a0 a1 a2, noY1 X (.fieldAddr a0 a1 a2) = true := by intros; exact nrfl rfl
theorem nY_field {X : Cfg} : ∀ a0 a1 a2, noY1 X (.field a0 a1 a2) = true := by intros; exact nrfl rfl
theorem nY_indexAddr {X : Cfg} : ∀ a0 a1 a2, noY1 X (.indexAddr a0 a1 a2) = true := by intros; exact nrfl rfl
theorem nY_index {X : Cfg} : ∀ a0 a1 a2, noY1 X (.index a0 a1 a2) = true := by intros; exact nrfl rfl
theorem nY_lookup {X : Cfg} : ∀ a0 a1 a2 a3, noY1 X (.lookup a0 a1 a2 a3) = true := by intros; exact nrfl rfl
theorem nY_mapUpdate {X : Cfg} : ∀ a0 a1 a2 a3, noY1 X (.mapUpdate a0 a1 a2 a3) = true := by intros; exact nrfl rfl
theorem nY_mapEntry {X : Cfg} : ∀ a0 a1 a2, noY1 X (.mapEntry a0 a1 a2) = true := by intros; exact nrfl rfl
theorem nY_entryStore {X : Cfg} : ∀ a0 a1 a2 a3, noY1 X (.entryStore a0 a1 a2 a3) = true := by intros; exact nrfl rfl
theorem nY_range {X : Cfg} : ∀ a0 a1, noY1 X (.range a0 a1) = true := by intros; exact nrfl rfl
theorem nY_entry {X : Cfg} : ∀ a0, noY1 X (.entry a0) = true := by intros; exact nrfl rfl
theorem nY_typeAssert {X : Cfg} : ∀ a0 a1 a2 a3, noY1 X (.typeAssert a0 a1 a2 a3) = true := by intros; exact nrfl rfl
theorem nY_extract {X : Cfg} : ∀ a0 a1, noY1 X (.extract a0 a1) = true := by intros; exact nrfl rfl
theorem nY_panic {X : Cfg} : ∀ a0, noY1 X (.panic a0) = true := by intros; exact nrfl rfl
theorem nY_callf {X : Cfg} {f : FuncId} {a : Array Operand} {b : Array TypeId} : noY1 X (.call ⟨.value (.func f), a, b⟩) = true := nrfl rfl
theorem nY_callb {X : Cfg} {f : Builtin} {a : Array Operand} {b : Array TypeId} : noY1 X (.call ⟨.builtin f, a, b⟩) = true := nrfl rfl
theorem nY_callt {X : Cfg} {t : Nat} {a : Array Operand} {b : Array TypeId} : noY1 X (.call ⟨.value (.tmp t), a, b⟩) = X.yl.isNone := nrfl rfl
theorem isNone_none {α : Type} : (none : Option α).isNone = true := nrfl rfl
theorem ops_consVc {P : Program} {E : Entries} {m f : List Nat} {dp : Nat} {rd : Bool} {l : Nat} {H : Hook} {N : Nat} {Q : IExit → IState → Prop} {ks : List Kf} {s : IState} {all : Array Oper} {rest : List Oper} {dst : Option Nat} {t : Nat} {as : List Operand} {ts : List TypeId} {ty : TypeId} {pos : String} {after : Array Edge} :
    ops (cfg P E m f dp (some (l, H)) rd) N Q all (⟨dst, .call ⟨.value (.tmp t), as.toArray, ts.toArray⟩, ty, pos, after, none⟩ :: rest) ks s =
      opsV (evalP s.env (.tmp t)) l (opsIf (cfg P E m f dp (some (l, H)) rd) N Q all rest ks dst s (callP (cfg P E m f dp (some (l, H)) rd) (dst.getD 0) (evalP s.env (.tmp t)) (tsOf (cfg P E m f dp (some (l, H)) rd) (dst.getD 0) ts) (evs (evalP s.env) as) s.st))
        (H (evs (evalP s.env) as) s.st fun b st' => opsIf (cfg P E m f dp (some (l, H)) rd) N Q all rest ks dst s (some (.bool b, st'))) := ops_consV rfl
theorem ops_guardVc {P : Program} {E : Entries} {m f : List Nat} {dp : Nat} {rd : Bool} {l : Nat} {H : Hook} {N : Nat} {Q : IExit → IState → Prop} {ks : List Kf} {s : IState} {all : Array Oper} {rest : List Oper} {dst : Option Nat} {t : Nat} {as : List Operand} {ts : List TypeId} {ty : TypeId} {pos : String} {after : Array Edge} {j : Nat} {want : Bool} :
    ops (cfg P E m f dp (some (l, H)) rd) N Q all (⟨dst, .call ⟨.value (.tmp t), as.toArray, ts.toArray⟩, ty, pos, after, some (j, want)⟩ :: rest) ks s =
      guardC (guardP all s.env j) want (opsV (evalP s.env (.tmp t)) l (opsIf (cfg P E m f dp (some (l, H)) rd) N Q all rest ks dst s (callP (cfg P E m f dp (some (l, H)) rd) (dst.getD 0) (evalP s.env (.tmp t)) (tsOf (cfg P E m f dp (some (l, H)) rd) (dst.getD 0) ts) (evs (evalP s.env) as) s.st))
        (H (evs (evalP s.env) as) s.st fun b st' => opsIf (cfg P E m f dp (some (l, H)) rd) N Q all rest ks dst s (some (.bool b, st'))))
        (opsIf (cfg P E m f dp (some (l, H)) rd) N Q all rest ks dst s (some (.tuple [], s.st))) := ops_guardV rfl
theorem cfg_yl {P : Program} {l : Entries} {m f : List Nat} {dp : Nat} {yl : Option (Nat × Hook)} {rnd : Bool} : (cfg P l m f dp yl rnd).yl = yl := nrfl rfl
theorem rndX_cfg {P : Program} {l : Entries} {m f : List Nat} {dp : Nat} {yl : Option (Nat × Hook)} {rnd : Bool} : rndX (cfg P l m f dp yl rnd) = cfg P l m f dp yl true := nrfl rfl

theorem leave_nil {X : Cfg} {N : Nat} {Q : IExit → IState → Prop} {i : Nat} {s : IState} : leave X N Q [] i s = Q (.exit i) s := nrfl rfl
theorem cells_mref {i g : Nat} : (PV.mref i g).cells = [.mref i g] := nrfl rfl
theorem cells_iter {i g : Nat} : (PV.iter i g).cells = [.iter i g] := nrfl rfl
theorem isCell_mref {i g : Nat} : (PV.mref i g).isCell = true := nrfl rfl
theorem isCell_iter {i g : Nat} : (PV.iter i g).isCell = true := nrfl rfl
theorem setCells_nilm {v : PV} : setCells .nilm 0 [v] = v := nrfl rfl
theorem setCells_mref {i g : Nat} {v : PV} : setCells (.mref i g) 0 [v] = v := nrfl rfl
theorem setps_cons {ρ : Nat → PV} {p : Nat} {ps : List Nat} {v : PV} {vs : List PV} : setps ρ (p :: ps) (v :: vs) = setps (upd ρ p v) ps vs := nrfl rfl
theorem setps_nil {ρ : Nat → PV} {vs : List PV} : setps ρ [] vs = ρ := nrfl rfl

/-- From a store to a later one in which all that lay there, but records of loops, lies as it did. -/
def Later (st st' : Store) : Prop := st.next ≤ st'.next ∧ ∀ x o, x < st.next → st.obj x = some o → (∀ r, o ≠ .lp r) → st'.obj x = some o
theorem Later.refl (st : Store) : Later st st := ⟨Nat.le_refl _, fun _ _ _ h _ => h⟩
/-- Something that new objects, and records of loops, do not change. -/
def Stays (J : Store → Prop) : Prop := ∀ st st', J st → Later st st' → J st'

theorem Stays.obj {x : Nat} {o : IObj} (h : ∀ r, o ≠ .lp r) : Stays fun st => st.obj x = some o ∧ x < st.next := fun st st' ⟨h1, h2⟩ hl => ⟨hl.2 x o h2 h1 h, Nat.lt_of_lt_of_le h2 hl.1⟩
theorem Stays.and {J K : Store → Prop} (h : Stays J) (g : Stays K) : Stays fun st => J st ∧ K st := fun st st' ⟨a, b⟩ hl => ⟨h st st' a hl, g st st' b hl⟩
theorem Stays.const {P : Prop} : Stays fun _ => P := fun _ _ h _ => h
theorem Stays.ex {α : Type} {J : α → Store → Prop} (h : ∀ a, Stays (J a)) : Stays fun st => ∃ a, J a st := fun st st' ⟨a, g⟩ hl => ⟨a, h a st st' g hl⟩

/-- What lies from base on is as it was, but records of loops. -/
def Keep (base : Nat) (st st' : Store) : Prop := st.next ≤ st'.next ∧ ∀ x, base ≤ x → x < st.next → (∀ r, st.obj x ≠ some (.lp r)) → st'.obj x = st.obj x
theorem Keep.mono {b b' : Nat} {st st' : Store} (h : Keep b st st') (hb : b ≤ b') : Keep b' st st' := ⟨h.1, fun x hx => h.2 x (by omega)⟩
end Sim
