/- The ideal run of code. -/
import Derived.Test.YtbojbamchaohpaaSimL
namespace Sim
open Go
set_option linter.unusedVariables false
set_option linter.unusedSimpArgs false
set_option linter.unusedVariables false
set_option linter.unusedSimpArgs false
structure IState where
 env : Nat → PV
 st : Store
def upd (ρ : Nat → PV) (d : Nat) (v : PV) : Nat → PV := fun t => if t = d then v else ρ t
theorem upd_same (ρ : Nat → PV) (d : Nat) (v : PV) : upd ρ d v d = v := by simp [upd]
theorem upd_ne (ρ : Nat → PV) (d t : Nat) (v : PV) (h : (t == d) = false) : upd ρ d v t = ρ t := by
 have : t ≠ d := by simpa using h
 simp [upd, this]
def guardP (ops : Array Oper) (ρ : Nat → PV) (j : Nat) : PV := match (ops[j]?).bind (·.dst) with | some d => ρ d | none => .bad
def actO (X : Cfg) (all : Array Oper) (o : Oper) (s : IState) : Option (PV × Store) :=
 let go := iop X (o.dst.getD 0) o.op (evalP s.env) s.st
 match o.guard with
 | none => go
 | some (j, want) => match guardP all s.env j with
  | .bool b => if b = want then go else some (.tuple [], s.st)
  | .tuple [] => some (.tuple [], s.st)
  | _ => none
def putO (N : Nat) (o : Oper) (s : IState) (r : PV × Store) : Option IState :=
 match o.dst with
 | none => some ⟨s.env, r.2⟩
 | some d => if d < N then some ⟨upd s.env d r.1, r.2⟩ else none
def stepG (X : Cfg) (N : Nat) (all : Array Oper) (o : Oper) (s : IState) : Option IState := (actO X all o s).bind (putO N o s)
def rrun (X : Cfg) (N : Nat) (all : Array Oper) : List Oper → IState → Option IState
 | [], s => some s
 | o :: rest, s => (stepG X N all o s).bind (rrun X N all rest)
def rwp (X : Cfg) (N : Nat) (all : Array Oper) (l : List Oper) (s : IState) (K : IState → Prop) : Prop := ∃ s', rrun X N all l s = some s' ∧ K s'
def nilO (x : Operand) : Bool := match x with | .const (.slice none 0 0) => true | _ => false
def yOf (X : Cfg) (op : Op) (ρ : Operand → PV) : Option (Store → (PV → Store → Prop) → Prop) :=
 match op with
 | .next x false => some fun st K => mapNext st (ρ x) K
 | .call c => match X.yl, c.callee with
  | some (l, H), .value f => match ρ f with
   | .func (.yield l') [] [] => if l' = l then some (fun st K => H (c.args.toList.map ρ) st fun b st' => K (.bool b) st') else none
   | _ => none
  | _, _ => none
 | .binOp op t x y _ => if nilO y = true then (match ρ x with
  | .lits _ [] => some (fun st K => ∃ p q, cmpB op (tvSlc X.P t != 0) true = some p ∧ cmpB op (tvSlc X.P t != 0) false = some q ∧ K p st ∧ K q st)
  | _ => none) else none
 | _ => none
def guardOn (all : Array Oper) (o : Oper) (ρ : Nat → PV) : Bool :=
 match o.guard with
 | none => true
 | some (j, want) => match guardP all ρ j with | .bool b => b == want | _ => false
def stepY (X : Cfg) (N : Nat) (all : Array Oper) (o : Oper) (s : IState) (K : IState → Prop) : Prop :=
 match (if guardOn all o s.env = true then yOf X o.op (evalP s.env) else none) with
 | some D => D s.st (fun r st' => ∃ s', putO N o s (r, st') = some s' ∧ K s')
 | none => ∃ s', stepG X N all o s = some s' ∧ K s'
def rwpY (X : Cfg) (N : Nat) (all : Array Oper) : List Oper → IState → (IState → Prop) → Prop
 | [], s, K => K s
 | o :: rest, s, K => stepY X N all o s (fun s' => rwpY X N all rest s' K)
def noY1 (X : Cfg) (op : Op) : Bool := match op with | .next .. => false | .binOp _ _ _ y _ => !nilO y | .call { callee := .value (.func _), .. } => true | .call { callee := .value _, .. } => X.yl.isNone | _ => true
def noY (X : Cfg) (all : Array Oper) : Bool := all.toList.all fun o => noY1 X o.op
theorem yOf_noY {X : Cfg} {op : Op} (ho : noY1 X op = true) {s : IState} : yOf X op (evalP s.env) = none := by
 cases op <;> simp only [noY1, Bool.false_eq_true] at ho <;> simp only [yOf]
 case binOp => rw [if_neg (by intro h; rw [h] at ho; cases ho)]
 rename_i c
 obtain ⟨callee, cargs, ats⟩ := c
 cases callee with
 | value f =>
  cases hy : X.yl with
  | none => rfl
  | some q => cases f <;> simp [hy] at ho <;> simp [evalP]
 | invoke => cases X.yl <;> rfl
 | builtin => cases X.yl <;> rfl
theorem stepY_noY {X : Cfg} {N : Nat} {all : Array Oper} {o : Oper} {s : IState} (ho : noY1 X o.op = true) {K : IState → Prop} : stepY X N all o s K = ∃ s', stepG X N all o s = some s' ∧ K s' := by
 simp only [stepY, yOf_noY ho, ite_self]
theorem rwpY_noY {X : Cfg} {N : Nat} {all : Array Oper} : ∀ {l : List Oper} {s : IState} {K : IState → Prop}, (∀ o ∈ l, noY1 X o.op = true) → (rwpY X N all l s K ↔ rwp X N all l s K)
 | [], s, K, _ => by simp [rwpY, rwp, rrun]
 | o :: rest, s, K, ho => by
  have ho2 : ∀ o ∈ rest, noY1 X o.op = true := fun o h => ho o (by simp [h])
  simp only [rwpY, stepY_noY (ho o (by simp)), rwp, rrun, Option.bind_eq_some_iff]
  constructor
  ·rintro ⟨s1, h1, h2⟩
   obtain ⟨s2, h3, h4⟩ := (rwpY_noY ho2).1 h2
   exact ⟨s2, ⟨s1, h1, h3⟩, h4⟩
  ·rintro ⟨s2, ⟨s1, h1, h3⟩, h4⟩
   exact ⟨s1, h1, (rwpY_noY ho2).2 ⟨s2, h3, h4⟩⟩
theorem mapNext_mono {st : Store} {x : PV} {K K' : PV → Store → Prop} (hk : ∀ r st, K r st → K' r st) (h : mapNext st x K) : mapNext st x K' := by
 unfold mapNext at h ⊢
 split at h
 ·split at h
  ·exact hk _ _ h
  ·split at h
   ·exact ⟨h.1, h.2.1, fun hl => hk _ _ (h.2.2.1 hl), fun i k v he hs => hk _ _ (h.2.2.2 i k v he hs)⟩
   ·exact h
  ·exact h
 ·exact h
theorem stepY_mono {X : Cfg} (hm : ∀ l H, X.yl = some (l, H) → ∀ args st (K K' : Bool → Store → Prop), (∀ b st, K b st → K' b st) → H args st K → H args st K') {N : Nat} {all : Array Oper} {o : Oper} {s : IState} {K K' : IState → Prop} (hk : ∀ s, K s → K' s) (h : stepY X N all o s K) : stepY X N all o s K' := by
 unfold stepY at h ⊢
 split at h
 ·rename_i D he
  split at he
  ·unfold yOf at he
   split at he
   ·cases he
    exact mapNext_mono (fun r st ⟨s', h1, h2⟩ => ⟨s', h1, hk _ h2⟩) h
   ·split at he
    ·rename_i l H f hy hc
     split at he
     ·split at he
      ·cases he
       exact hm l H hy _ _ _ _ (fun b st ⟨s', h1, h2⟩ => ⟨s', h1, hk _ h2⟩) h
      ·cases he
     ·cases he
    ·cases he
   ·split at he
    ·split at he
     ·cases he
      obtain ⟨p, q, h1, h2, ⟨s3, h3, h4⟩, s5, h5, h6⟩ := h
      exact ⟨p, q, h1, h2, ⟨s3, h3, hk _ h4⟩, s5, h5, hk _ h6⟩
     ·cases he
    ·cases he
   ·cases he
  ·cases he
 ·rename_i he
  obtain ⟨s', h1, h2⟩ := h
  exact ⟨s', h1, hk _ h2⟩
def quietO (X : Cfg) (o : Oper) : Bool :=
 match o.op with
 | .move _ | .assign _ | .pick .. | .load .. | .nilCheck _ | .binOp .. | .unOp .. | .convert .. | .makeInterface .. | .typeAssert .. | .makeFunc .. | .fieldAddr .. | .field .. | .indexAddr .. | .index .. | .extract .. | .build .. | .lookup .. => true
 | .box .. | .buildSlice .. | .slice .. => !X.muts (o.dst.getD 0)
 | .call { callee := .builtin b, .. } => match b with | .len | .min | .max => true | _ => false
 | .call { callee := .value (.func f), .. } => X.quiet f && !X.frz (o.dst.getD 0)
 | _ => false
def aloofO (X : Cfg) (o : Oper) : Bool :=
 match o.op with
 | .move _ | .assign _ | .pick .. | .binOp .. | .unOp .. | .convert .. | .makeInterface .. | .typeAssert .. | .makeFunc .. | .field .. | .index .. | .extract .. | .build .. => true
 | .box .. | .buildSlice .. => !X.muts (o.dst.getD 0)
 | .call { callee := .builtin b, .. } => match b with | .min | .max => true | _ => false
 | .load .. | .fieldAddr .. | .indexAddr .. => X.frz (o.dst.getD 0)
 | .slice .. => X.frz (o.dst.getD 0) && !X.muts (o.dst.getD 0)
 | .makeSlice .. => X.frz (o.dst.getD 0) && X.num (o.dst.getD 0) == 0
 | .call { callee := .value (.func f), .. } => X.quiet f && X.muts (o.dst.getD 0) && !X.frz (o.dst.getD 0)
 | _ => false
def localO (X : Cfg) (o : Oper) : Bool :=
 X.num (o.dst.getD 0) != 0 && match o.op with
 | .buildSlice .. => X.muts (o.dst.getD 0)
 | .makeSlice .. | .alloc _ => true
 | .call { callee := .builtin b, .. } => match b with | .append => true | _ => false
 | .call { callee := .value (.func f), .. } => X.quiet f && X.frz (o.dst.getD 0) && X.muts (o.dst.getD 0)
 | _ => false
def slotO (x y : Oper) : Bool := match x.op, y.op with | .lookup t _ _ false, .mapEntry u _ _ => decide (t = u) | .load .., .mapEntry .. => true | .fieldAddr .., .mapEntry .. => true | .indexAddr .., .mapEntry .. => true | _, _ => false
def lookO (x : Oper) : Bool := match x.op with | .lookup .. => true | .load .. => true | .fieldAddr .. => true | .indexAddr .. => true | .call { callee := .builtin .len, .. } => true | _ => false
def freshO (X : Cfg) (y : Oper) : Bool := X.num (y.dst.getD 0) == 0 && match y.op with | .alloc _ => true | _ => false
def pastO (X : Cfg) (o : Oper) : Bool := X.frz (600000 + o.dst.getD 0) && match o.op with | .load .. | .fieldAddr .. | .indexAddr .. => true | _ => false
def lowO (X : Cfg) (o : Oper) : Bool := X.frz (700000 + o.dst.getD 0) && !X.frz (600000 + o.dst.getD 0) && match o.op with | .load .. | .fieldAddr .. | .indexAddr .. | .nilCheck _ => true | _ => false
def highO (X : Cfg) (o : Oper) : Bool := match o.op with | .call { callee := .builtin b, .. } => X.frz (700000 + o.dst.getD 0) && (match b with | .append => true | _ => false) | .store _ a _ => X.frz (800000 + tmpNo a) | _ => false
def heldO (X : Cfg) (x y : Oper) : Bool := pastO X x && match y.op with | .store _ a _ => X.frz (900000 + tmpNo a) && (X.num (tmpNo a) != 0) && decide (X.num (tmpNo a) - 1 < X.num (x.dst.getD 0)) | _ => false
def calmO (X : Cfg) (o : Oper) : Bool := match o.op with | .call { callee := .value (.func f), .. } => X.calm f && !X.frz (o.dst.getD 0) && !X.muts (o.dst.getD 0) | _ => false
def commO (X : Cfg) (all : Array Oper) (x y : Oper) : Bool := x.apart all y && noY1 X x.op && noY1 X y.op && ((quietO X x && quietO X y) || aloofO X x || aloofO X y || (localO X x && localO X y && (X.num (x.dst.getD 0) - 1 != X.num (y.dst.getD 0) - 1)) || slotO x y || (lookO x && freshO X y) || (pastO X x && localO X y && decide (X.num (y.dst.getD 0) - 1 < X.num (x.dst.getD 0))) || (localO X x && pastO X y && decide (X.num (x.dst.getD 0) - 1 < X.num (y.dst.getD 0))) || (lowO X x && highO X y) || (highO X x && lowO X y) || heldO X x y || (calmO X x && freshO X y))
def ancB (all : Array Oper) : Nat → Nat → Nat → Bool
 | 0, _, _ => false
 | n + 1, i, j => match all[j]? with
  | some y => y.after.toList.any fun e => Region.binds .any e && (e.on == i || ancB all n i e.on)
  | none => false
def drawOk (X : Cfg) (all : Array Oper) : Bool :=
 all.toList.zipIdx.all fun (y, j) =>
  (y.after.toList.all fun e => !Region.binds .any e || e.on < j) &&
  ((all.toList.take j).zipIdx.all fun (x, i) => (y.after.toList.any fun e => Region.binds .any e && e.on == i) || (commO X all x y || ancB all 8 i j))
inductive Ghost : IState → IState → Prop where
 | refl (s : IState) : Ghost s s
 | slot (s : IState) (d z : Nat) (h : s.env d = .nils) (hz : 0 < z) : Ghost s ⟨upd s.env d (.ref s.st.next 0 0 0), s.st.new (.arr 0 z [])⟩
 | cell (s : IState) (id gen z z' : Nat) (es : List PV) (idx off : Nat) (h : s.st.obj id = some (.arr gen z es)) (hc : (nth es idx).cells[off]? = some .nils) (hz : 0 < z') :
   Ghost s ⟨s.env, (s.st.new (.arr 0 z' [])).set id (.arr gen z (es.set idx (setCells (nth es idx) off [.ref s.st.next 0 0 0])))⟩
 | res (s : IState) (z : Nat) (hz : 0 < z) : Ghost s ⟨s.env, s.st.new (.arr 0 z [])⟩
 | sealv (s : IState) (d : Nat) (q : PV) (ids : List Nat) (hb : s.env d ≠ .bad) (h : rdP (s.st.only ids) (s.env d) = some q) : Ghost s ⟨upd s.env d q, s.st.seal ids⟩
 | fix (s : IState) (d id gen idx z : Nat) (es : List PV) (h : s.env d = .ptr id gen idx 0) (ho : s.st.arr? id gen = some (z, es)) (hi : idx < es.length) (hp : pursL es = true) : Ghost s ⟨upd s.env d (.vptr (nth es idx).cells 0), s.st.without [id]⟩
 | trans {s s' s'' : IState} (h : Ghost s s') (g : Ghost s' s'') : Ghost s s''
inductive IExit where
 | normal
 | exit (id : Nat)
 | ret
def env0 (args : List PV) : Nat → PV := fun t => args.getD t .bad
def setps (ρ : Nat → PV) : List Nat → List PV → (Nat → PV)
 | p :: ps, v :: vs => setps (upd ρ p v) ps vs
 | _, _ => ρ
def QuietOK (X : Cfg) : Prop := (∀ f args st r st', X.quiet f = true → X.tab f args st = some (r, st') → st' = st ∧ (pursL args = true → ∀ st2, X.tab f args st2 = some (r, st2))) ∧
 ∀ f args st r st', X.calm f = true → X.tab f args st = some (r, st') → st' = st ∧ ∀ st2 : Store, (∀ i o, st.obj i = some o → st2.obj i = some o) → X.tab f args st2 = some (r, st2)
def genX (X : Cfg) (y : Nat × Hook) : Cfg := { X with yl := some y, rnd := false }
def rndX (X : Cfg) : Cfg := { X with rnd := true }
abbrev WP := Cfg → Nat → Code → (IExit → IState → Prop) → IState → Prop
def wpC (G : WP) : WP
 | X, N, .skip, Q, s => Q .normal s
 | X, N, .region _ ops dr, Q, s => (dr = true → drawOk X ops = true) ∧ rwpY X N ops ops.toList s (Q .normal)
 | X, N, .seq a b, Q, s => wpC G X N a (fun e s' => match e with | .normal => wpC G X N b Q s' | e => Q e s') s
 | X, N, .cond c a b, Q, s => match evalP s.env c with | .bool v => (v = true → wpC G X N a Q s) ∧ (v = false → wpC G X N b Q s) | _ => False
 | X, N, .block id c, Q, s => wpC G X N c (fun e s' => match e with | .exit i => if i = id then Q .normal s' else Q (.exit i) s' | e => Q e s') s
 | X, N, .loop c, Q, s => ∃ (J : Nat → IState → Prop) (n : Nat), (∃ s0, Ghost s s0 ∧ J n s0) ∧ ∀ m s', J m s' → wpC G X N c (fun e s'' => match e with | .normal => ∃ m', m' < m ∧ ∃ s3, Ghost s'' s3 ∧ J m' s3 | e => Q e s'') s'
 | X, N, .exit id, Q, s => Q (.exit id) s
 | X, N, .ret, Q, s => Q .ret s
 | X, N, .rangeFunc g ps assign body, Q, s => X.rnd = false ∧ (match evalP s.env g with
  | .func (.func f) first captured => ∃ fn c, X.P.funcs[f]? = some fn ∧ fn.body = some c ∧ (fn.name == "runtime.NumGoroutine") = false ∧ fn.results.toList = [] ∧ first.length + 1 + captured.length ≤ fn.ntmps ∧ (ps.toList.all fun p => decide (p < N)) = true ∧
    ∀ (l : Nat) (r : Loop), r.state = .ready → r.pending = none →
     G (genX X (l, fun args st K => st.obj s.st.next = some (.lp r) ∧ args.length = ps.size ∧
       wpC G (rndX X) N assign (fun e s1 => e = .normal ∧ s1.st.obj s.st.next = some (.lp r) ∧
        wpC G (rndX X) N body (fun e s2 => s2.st.obj s.st.next = some (.lp { r with state := .busy }) ∧
         match e with
         | .normal => K true (s2.st.set s.st.next (.lp r))
         | .ret => K false (s2.st.set s.st.next (.lp { r with state := .done, pending := some .ret }))
         | .exit i => K false (s2.st.set s.st.next (.lp { r with state := .done, pending := some (.exit i) })))
         ⟨s1.env, s1.st.set s.st.next (.lp { r with state := .busy })⟩)
        ⟨setps s.env ps.toList args, st⟩))
      fn.ntmps c
      (fun e s' => (e = .normal ∨ e = .ret) ∧ ((s'.st.obj s.st.next = some (.lp r) ∧ Q .normal ⟨s.env, s'.st.set s.st.next (.lp { r with state := .exhausted })⟩) ∨
       (s'.st.obj s.st.next = some (.lp { r with state := .done, pending := some .ret }) ∧ Q .ret ⟨s.env, s'.st.set s.st.next (.lp { r with state := .exhausted, pending := some .ret })⟩) ∨
       (∃ i, s'.st.obj s.st.next = some (.lp { r with state := .done, pending := some (.exit i) }) ∧ Q (.exit i) ⟨s.env, s'.st.set s.st.next (.lp { r with state := .exhausted, pending := some (.exit i) })⟩)))
      ⟨env0 (first ++ .func (.yield l) [] [] :: captured), s.st.new (.lp r)⟩
  | _ => False)
 | _, _, _, _, _ => False
def gen : Nat → WP
 | 0 => fun _ _ _ _ _ => False
 | d + 1 => fun X N c Q s => ∃ X' : Cfg, X'.P = X.P ∧ X'.yl = X.yl ∧ X'.rnd = X.rnd ∧ X'.dep = d ∧ TabOK X' ∧ QuietOK X' ∧ wpC (gen d) X' N c Q s
def wpI (X : Cfg) (N : Nat) (c : Code) (Q : IExit → IState → Prop) (s : IState) : Prop := wpC (gen X.dep) X N c Q s
def HookMono (X : Cfg) : Prop := ∀ l H, X.yl = some (l, H) → ∀ args st (K K' : Bool → Store → Prop), (∀ b st, K b st → K' b st) → H args st K → H args st K'
theorem hookMono_none {X : Cfg} (h : X.yl = none) : HookMono X := fun l H hl => by rw [h] at hl; cases hl
theorem rwpY_mono {X : Cfg} (hm : HookMono X) {N : Nat} {all : Array Oper} : ∀ {l : List Oper} {s : IState} {K K' : IState → Prop}, (∀ s, K s → K' s) → rwpY X N all l s K → rwpY X N all l s K'
 | [], s, K, K', hk, h => hk s h
 | o :: rest, s, K, K', hk, h => stepY_mono hm (fun s' h' => rwpY_mono hm hk h') h
def WP.Mono (G : WP) : Prop := ∀ X N c Q Q' s, HookMono X → (∀ e s, Q e s → Q' e s) → G X N c Q s → G X N c Q' s
theorem wpC_mono {G : WP} (hG : G.Mono) : (wpC G).Mono := by
 intro X N c
 induction c generalizing X with
 | skip => intro Q Q' s hm h hs; exact h _ _ hs
 | region id ops dr => intro Q Q' s hm h hs; exact ⟨hs.1, rwpY_mono hm (fun s h' => h _ _ h') hs.2⟩
 | seq a b iha ihb =>
  intro Q Q' s hm h hs
  refine iha X _ _ _ hm (fun e s' he => ?_) hs
  cases e with
  | normal => exact ihb X _ _ _ hm h he
  | exit i => exact h _ _ he
  | ret => exact h _ _ he
 | cond c a b iha ihb =>
  intro Q Q' s hm h hs
  simp only [wpC] at hs ⊢
  split at hs
  ·exact ⟨fun hv => iha X _ _ _ hm h (hs.1 hv), fun hv => ihb X _ _ _ hm h (hs.2 hv)⟩
  ·exact hs.elim
 | block id c ih =>
  intro Q Q' s hm h hs
  refine ih X _ _ _ hm (fun e s' he => ?_) hs
  cases e with
  | normal => exact h _ _ he
  | exit i =>
   dsimp only at he ⊢
   split at he
   ·rw [if_pos (by assumption)]; exact h _ _ he
   ·rw [if_neg (by assumption)]; exact h _ _ he
  | ret => exact h _ _ he
 | loop c ih =>
  intro Q Q' s hm h hs
  obtain ⟨J, n, h0, hr⟩ := hs
  refine ⟨J, n, h0, fun m s' hs' => ih X _ _ _ hm (fun e s'' he => ?_) (hr m s' hs')⟩
  cases e with
  | normal => exact he
  | exit i => exact h _ _ he
  | ret => exact h _ _ he
 | exit id => intro Q Q' s hm h hs; exact h _ _ hs
 | ret => intro Q Q' s hm h hs; exact h _ _ hs
 | rangeFunc g ps assign body iha ihb =>
  intro Q Q' s hm h hs
  simp only [wpC] at hs ⊢
  obtain ⟨hr, hs⟩ := hs
  refine ⟨hr, ?_⟩
  split at hs
  ·rename_i f first captured
   obtain ⟨fn, c, h1, h2, h3, h3', h4, h4', h5⟩ := hs
   refine ⟨fn, c, h1, h2, h3, h3', h4, h4', fun l r hr1 hr2 => hG _ _ _ _ _ _ ?_ (fun e s' he => ⟨he.1, ?_⟩) (h5 l r hr1 hr2)⟩
   ·intro l' H' he args st K K' hk hH
    simp only [genX, Option.some.injEq, Prod.mk.injEq] at he
    obtain ⟨rfl, rfl⟩ := he
    obtain ⟨g1, g2, g3⟩ := hH
    refine ⟨g1, g2, iha (rndX X) _ _ _ hm (fun e s1 he => ⟨he.1, he.2.1, ihb (rndX X) _ _ _ hm (fun e s2 he2 => ⟨he2.1, ?_⟩) he.2.2⟩) g3⟩
    cases e with
    | normal => exact hk _ _ he2.2
    | exit i => exact hk _ _ he2.2
    | ret => exact hk _ _ he2.2
   ·rcases he.2 with ⟨a, b⟩ | ⟨a, b⟩ | ⟨i, a, b⟩
    ·exact .inl ⟨a, h _ _ b⟩
    ·exact .inr (.inl ⟨a, h _ _ b⟩)
    ·exact .inr (.inr ⟨i, a, h _ _ b⟩)
  ·exact hs.elim
 | scope => intro Q Q' s hm h hs; exact hs
 | label => intro Q Q' s hm h hs; exact hs
 | goto => intro Q Q' s hm h hs; exact hs
 | refuse => intro Q Q' s hm h hs; exact hs
theorem gen_mono : ∀ d, (gen d).Mono
 | 0 => fun _ _ _ _ _ _ _ _ h => h.elim
 | d + 1 => fun X N c Q Q' s hm hk ⟨X', h1, h2, h3, h4, h5, h6, h⟩ => ⟨X', h1, h2, h3, h4, h5, h6, wpC_mono (gen_mono d) X' N c Q Q' s (fun l H hl => hm l H (h2 ▸ hl)) hk h⟩
theorem wpI_mono' {X : Cfg} (hm : HookMono X) {N : Nat} {c : Code} {Q Q' : IExit → IState → Prop} {s : IState} (h : ∀ e s, Q e s → Q' e s) (hs : wpI X N c Q s) : wpI X N c Q' s := wpC_mono (gen_mono X.dep) X N c Q Q' s hm h hs
inductive Kf where
 | seq (c : Code)
 | blk (id : Nat)
 | lp (J : IState → Prop)
def post (X : Cfg) (N : Nat) (Q : IExit → IState → Prop) : List Kf → IExit → IState → Prop
 | [], e, s => Q e s
 | .seq c :: ks, e, s => match e with | .normal => wpI X N c (post X N Q ks) s | e => post X N Q ks e s
 | .blk id :: ks, e, s => match e with | .exit i => if i = id then post X N Q ks .normal s else post X N Q ks (.exit i) s | e => post X N Q ks e s
 | .lp J :: ks, e, s => match e with | .normal => J s | e => post X N Q ks e s
def run (X : Cfg) (N : Nat) (Q : IExit → IState → Prop) (c : Code) (ks : List Kf) (s : IState) : Prop := wpI X N c (post X N Q ks) s
def cont (X : Cfg) (N : Nat) (Q : IExit → IState → Prop) (ks : List Kf) (s : IState) : Prop := post X N Q ks .normal s
def leave (X : Cfg) (N : Nat) (Q : IExit → IState → Prop) (ks : List Kf) (id : Nat) (s : IState) : Prop := post X N Q ks (.exit id) s
def done (X : Cfg) (N : Nat) (Q : IExit → IState → Prop) (ks : List Kf) (s : IState) : Prop := post X N Q ks .ret s
def ops (X : Cfg) (N : Nat) (Q : IExit → IState → Prop) (all : Array Oper) (l : List Oper) (ks : List Kf) (s : IState) : Prop := rwpY X N all l s (cont X N Q ks)
def opsIf (X : Cfg) (N : Nat) (Q : IExit → IState → Prop) (all : Array Oper) (l : List Oper) (ks : List Kf) (d : Option Nat) (s : IState) (r : Option (PV × Store)) : Prop :=
 match r with
 | some r => match d with
  | none => ops X N Q all l ks ⟨s.env, r.2⟩
  | some d => d < N ∧ ops X N Q all l ks ⟨upd s.env d r.1, r.2⟩
 | none => False
def condC (g : PV) (A B : Prop) : Prop := match g with | .bool v => (v = true → A) ∧ (v = false → B) | _ => False
def guardC (g : PV) (want : Bool) (A B : Prop) : Prop := match g with | .bool b => (b = want → A) ∧ (b = (!want) → B) | .tuple [] => B | _ => False
theorem guardC_u {w : Bool} {A B : Prop} : guardC (.tuple []) w A B = B := nrfl rfl
theorem condC_true {A B : Prop} : condC (.bool true) A B = A := by simp [condC]
theorem condC_false {A B : Prop} : condC (.bool false) A B = B := by simp [condC]
theorem guardC_tt {A B : Prop} : guardC (.bool true) true A B = A := by simp [guardC]
theorem guardC_tf {A B : Prop} : guardC (.bool true) false A B = B := by simp [guardC]
theorem guardC_ft {A B : Prop} : guardC (.bool false) true A B = B := by simp [guardC]
theorem guardC_ff {A B : Prop} : guardC (.bool false) false A B = A := by simp [guardC]
section
variable {X : Cfg} {N : Nat} {Q : IExit → IState → Prop} {ks : List Kf} {s : IState}
theorem run_seq {a b : Code} : run X N Q (.seq a b) ks s = run X N Q a (.seq b :: ks) s := by
 simp only [run, wpI, wpC]; congr 1
theorem run_block {id : Nat} {c : Code} : run X N Q (.block id c) ks s = run X N Q c (.blk id :: ks) s := by
 simp only [run, wpI, wpC]; congr 1
theorem run_region {id : Nat} {l : List Oper} : run X N Q (.region id l.toArray false) ks s = ops X N Q l.toArray l ks s := by
 simp only [run, wpI, wpC, ops]; simp; rfl
theorem run_cond {c : Operand} {a b : Code} : run X N Q (.cond c a b) ks s = condC (evalP s.env c) (run X N Q a ks s) (run X N Q b ks s) := by
 simp only [run, wpI, wpC, condC]
theorem run_loop {c : Code} (J : Nat → IState → Prop) (n : Nat) {s0 : IState} (hg : Ghost s s0) (h0 : J n s0) (h : ∀ m s', J m s' → run X N Q c (.lp (fun s'' => ∃ m', m' < m ∧ ∃ s3, Ghost s'' s3 ∧ J m' s3) :: ks) s') :
  run X N Q (.loop c) ks s := by
 simp only [run, wpI, wpC]
 refine ⟨J, n, ⟨s0, hg, h0⟩, fun m s' hs' => ?_⟩
 have e : (fun (e : IExit) s'' => match e with | .normal => ∃ m', m' < m ∧ ∃ s3, Ghost s'' s3 ∧ J m' s3 | e => post X N Q ks e s'') = post X N Q (.lp (fun s'' => ∃ m', m' < m ∧ ∃ s3, Ghost s'' s3 ∧ J m' s3) :: ks) := by
  funext e s''; cases e <;> rfl
 exact e ▸ h m s' hs'
theorem run_mono_lp {c : Code} {J J' : IState → Prop} (hm : HookMono X) (hj : ∀ s, J s → J' s) (h : run X N Q c (.lp J :: ks) s) : run X N Q c (.lp J' :: ks) s := by
 simp only [run] at h ⊢
 refine wpI_mono' hm ?_ h
 intro e s'' he
 cases e with
 | normal => exact hj _ he
 | exit i => exact he
 | ret => exact he
theorem run_loop_cnt {c : Code} (hm : HookMono X) (n : Nat) (I : Nat → IState → Prop) {s0 : IState} (hg : Ghost s s0) (h0 : I 0 s0) (h : ∀ k s', k ≤ n → I k s' → run X N Q c (.lp (fun s'' => k < n ∧ I (k + 1) s'') :: ks) s') : run X N Q (.loop c) ks s :=
 run_loop (fun m s => ∃ k, k + m = n ∧ I k s) n hg ⟨0, by omega, h0⟩ fun m s' ⟨k, hk, hI⟩ =>
  run_mono_lp hm (fun s'' ⟨h1, h2⟩ => ⟨m - 1, by omega, s'', .refl _, k + 1, by omega, h2⟩) (h k s' (by omega) hI)
theorem cont_nil : cont X N Q [] s = Q .normal s := nrfl rfl
theorem cont_seq {c : Code} : cont X N Q (.seq c :: ks) s = run X N Q c ks s := nrfl rfl
theorem cont_blk {id : Nat} : cont X N Q (.blk id :: ks) s = cont X N Q ks s := nrfl rfl
theorem cont_lp {J : IState → Prop} : cont X N Q (.lp J :: ks) s = J s := nrfl rfl
theorem leave_seq {c : Code} {id : Nat} : leave X N Q (.seq c :: ks) id s = leave X N Q ks id s := nrfl rfl
theorem leave_blk {i id : Nat} : leave X N Q (.blk i :: ks) id s = if id = i then cont X N Q ks s else leave X N Q ks id s := nrfl rfl
theorem leave_lp {J : IState → Prop} {id : Nat} : leave X N Q (.lp J :: ks) id s = leave X N Q ks id s := nrfl rfl
theorem done_nil : done X N Q [] s = Q .ret s := nrfl rfl
theorem done_seq {c : Code} : done X N Q (.seq c :: ks) s = done X N Q ks s := nrfl rfl
theorem done_blk {id : Nat} : done X N Q (.blk id :: ks) s = done X N Q ks s := nrfl rfl
theorem done_lp {J : IState → Prop} : done X N Q (.lp J :: ks) s = done X N Q ks s := nrfl rfl
theorem ops_nil {all : Array Oper} : ops X N Q all [] ks s = cont X N Q ks s := by
 simp [ops, rwpY]
theorem opsIf_of {all : Array Oper} {o : Oper} {rest : List Oper} {r : Option (PV × Store)} (hy : yOf X o.op (evalP s.env) = none) (h : actO X all o s = r) : ops X N Q all (o :: rest) ks s = opsIf X N Q all rest ks o.dst s r := by
 subst h
 simp only [ops, rwpY, stepY, hy, ite_self, stepG]
 cases hr : actO X all o s with
 | none => simp [opsIf]
 | some r =>
  simp only [Option.bind_some, putO, opsIf]
  cases o.dst with
  | none => simp [ops]
  | some d =>
   by_cases hd : d < N
   ·simp [hd, ops]
   ·simp [hd]
theorem ops_cons {all : Array Oper} {rest : List Oper} {dst : Option Nat} {op : Op} {ty : TypeId} {pos : String} {after : Array Edge} (hy : yOf X op (evalP s.env) = none) :
  ops X N Q all (⟨dst, op, ty, pos, after, none⟩ :: rest) ks s = opsIf X N Q all rest ks dst s (iop X (dst.getD 0) op (evalP s.env) s.st) := opsIf_of hy rfl
theorem ops_guard {all : Array Oper} {rest : List Oper} {dst : Option Nat} {op : Op} {ty : TypeId} {pos : String} {after : Array Edge} {j : Nat} {want : Bool} (hy : yOf X op (evalP s.env) = none) :
  ops X N Q all (⟨dst, op, ty, pos, after, some (j, want)⟩ :: rest) ks s =
   guardC (guardP all s.env j) want (opsIf X N Q all rest ks dst s (iop X (dst.getD 0) op (evalP s.env) s.st)) (opsIf X N Q all rest ks dst s (some (.tuple [], s.st))) := by
 cases h : guardP all s.env j with
 | bool b =>
  rw [opsIf_of hy (r := if b = want then iop X (dst.getD 0) op (evalP s.env) s.st else some (.tuple [], s.st)) (by simp [actO, h])]
  cases b <;> cases want <;> simp [guardC]
 | tuple l =>
  cases l with
  | nil => rw [opsIf_of hy (r := some (.tuple [], s.st)) (by simp [actO, h])]; simp [guardC]
  | cons x l => rw [opsIf_of hy (r := none) (by simp [actO, h])]; simp [guardC, opsIf]
 | _ => rw [opsIf_of hy (r := none) (by simp [actO, h])]; simp [guardC, opsIf]
theorem opsIf_some {all : Array Oper} {l : List Oper} {d : Nat} {p : PV} {st : Store} : opsIf X N Q all l ks (some d) s (some (p, st)) = (d < N ∧ ops X N Q all l ks ⟨upd s.env d p, st⟩) := nrfl rfl
theorem opsIf_none {all : Array Oper} {l : List Oper} {p : PV} {st : Store} : opsIf X N Q all l ks none s (some (p, st)) = ops X N Q all l ks ⟨s.env, st⟩ := nrfl rfl
theorem opsIf_if {all : Array Oper} {l : List Oper} {d : Option Nat} {c : Prop} [Decidable c] {x : Option (PV × Store)} : opsIf X N Q all l ks d s (if c then x else none) = (c ∧ opsIf X N Q all l ks d s x) := by
 by_cases h : c <;> simp [h, opsIf]
end
section
variable {X : Cfg} {N : Nat} {Q : IExit → IState → Prop} {ks : List Kf} {s : IState}
theorem opsIf_congr {all : Array Oper} {l : List Oper} {d : Option Nat} {r r' : Option (PV × Store)} (h : r = r') : opsIf X N Q all l ks d s r = opsIf X N Q all l ks d s r' := by rw [h]
theorem condC_congr {g g' : PV} {A B : Prop} (h : g = g') : condC g A B = condC g' A B := by rw [h]
theorem guardC_congr {g g' : PV} {w : Bool} {A B : Prop} (h : g = g') : guardC g w A B = guardC g' w A B := by rw [h]
end
theorem map_if {α β : Type} {c : Prop} [Decidable c] {f : α → β} {x y : Option α} : (if c then x else y).map f = if c then x.map f else y.map f := by split <;> rfl
end Sim
