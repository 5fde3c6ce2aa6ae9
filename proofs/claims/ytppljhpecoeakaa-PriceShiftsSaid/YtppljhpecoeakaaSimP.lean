/- What symbolic runs are written with: encodings, contracts as table entries, small laws. -/
import Derived.Test.YtppljhpecoeakaaSimO
set_option linter.unusedVariables false
set_option linter.unusedSimpArgs false
namespace Sim
open Go
abbrev I (n:Int):PV:=.int .i64 n
abbrev B (b:Bool):PV:=.bool b
@[reducible] def ints (l:List Int):PV:=.lits 1 (l.map (PV.int .i64))
theorem Agr {P:Program} {l:AU} {m f:List Nat} {dp:Nat} {yl:Option (Nat×Fk)} {rnd:Bool}:(cfg P l m f dp yl rnd).P=P:=nrfl rfl
theorem sT {P:Program} {l:AU} {m f:List Nat} {dp:Nat} {yl:Option (Nat×Fk)} {rnd:Bool}:(cfg P l m f dp yl rnd).tab=EH l:=nrfl rfl
theorem eD {P:Program} {l:AU} {m f:List Nat} {dp:Nat} {yl:Option (Nat×Fk)} {rnd:Bool} {d:Nat}:(cfg P l m f dp yl rnd).muts d=m.contains d:=nrfl rfl
theorem sU {P:Program} {l:AU} {m f:List Nat} {dp:Nat} {yl:Option (Nat×Fk)} {rnd:Bool} {d:Nat}:(cfg P l m f dp yl rnd).num d=JG f d:=nrfl rfl
theorem YO {d:Nat}:JG [] d=0:=by simp[JG]
theorem eE {f:List Nat} {d:Nat}:JG f d=if f.contains (100000+d)then 1 else if f.contains (200000+d)then 2 else if f.contains (300000+d)then 3 else if f.contains (500000+d)then 4 else 0:=nrfl rfl
theorem sV {P:Program} {l:AU} {m f:List Nat} {dp:Nat} {yl:Option (Nat×Fk)} {rnd:Bool} {d:Nat}:(cfg P l m f dp yl rnd).frz d=f.contains d:=nrfl rfl
theorem U0 {g f:Nat} {e:Ent} {l:AU} {args:List PV} {st:Store}:EH ((g,e)::l) f args st=if g=f then e.tab args st else EH l f args st:=by
 unfold EH
 by_cases h:g=f
 ·subst h;simp
 ·simp [h]
theorem Ags {spec:List PV→Option PV} {args:List PV} {st:Store}:(Ent.v spec).tab args st=YM spec args st:=nrfl rfl
theorem Agt {mk:MK} {spec:List PV→Option (List (PV×PV))} {args:List PV} {st:Store}:(Ent.m mk spec).tab args st=if AN args=true then (spec args).map fun es=>(.mref st.next 0,st.new (.map 0 mk es))else none:=nrfl rfl
theorem Agu {z:Nat} {spec:List PV→Option (List PV)} {args:List PV} {st:Store}:(Ent.a z spec).tab args st=if AN args=true then (spec args).map fun es=>(.ref st.next 0 0 es.length,st.new (.arr 0 z es))else none:=nrfl rfl
theorem Agv {spec:List PV→Store→Option (PV×Store)} {args:List PV} {st:Store}:(Ent.x spec).tab args st=spec args st:=nrfl rfl
theorem Agw {spec:List PV→(Nat→Option IObj)→Option PV} {args:List PV} {st:Store}:(Ent.c spec).tab args st=(spec args st.obj).map fun r=>(r,st):=nrfl rfl
theorem Agx {z g:Nat} {spec:List PV→Option (List PV)} {args:List PV} {st:Store}:(Ent.s z g spec).tab args st=Oj z g spec args st:=nrfl rfl
theorem YP {z g g' id gen n:Nat} {spec:List PV→Option (List PV)} {st:Store}:Oj z g spec [.ref id gen 0 n,.func (.func g') [] []] st=if g'=g then (st.arr? id gen).bind fun a=>if a.1=z∧n=a.2.length then (spec a.2).map fun es'=>(.tuple [],st.set id (.arr gen z es'))else none else none:=nrfl rfl
theorem U1 {z g:Nat} {spec:List PV→Option (List PV)} {st:Store} {p:PV}:Oj z g spec [.nils,p] st=some (.tuple [],st):=nrfl rfl
noncomputable def Ah {ι ω:Type} (A:ι→List PV) (R:ι→ω) (H:ι→Prop) (args:List PV):Option ω :=
 open Classical in if h:∃i,A i=args∧H i then some (R h.choose)else none
theorem AA {ι ω:Type} {A:ι→List PV} {R:ι→ω} {H:ι→Prop} (hinj:∀i j,A i=A j→i=j) {i:ι} (hi:H i):Ah A R H (A i)=some (R i):=by
 unfold Ah
 have h:∃j,A j=A i∧H j:=⟨i,rfl,hi⟩
 rw [dif_pos h,hinj _ _ h.choose_spec.1]
theorem BV {ι ω:Type} {A:ι→List PV} {R:ι→ω} {H:ι→Prop} (hinj:∀i j,A i=A j→i=j) (i:ι):Ah A R H (A i)=@ite (Option ω) (H i) (Classical.propDecidable _) (some (R i)) none:=by
 by_cases h:H i
 ·rw [if_pos h];exact AA hinj h
 ·rw [if_neg h]
  unfold Ah
  rw [dif_neg]
  rintro ⟨j,hj,hh⟩
  rw [hinj _ _ hj]at hh
  exact h hh
theorem At {P:Program} {f:FuncId} {ι:Type} {A:ι→List PV} {R:ι→PV} {H:ι→Prop} (hok:∀i,H i→VC P f (A i) (R i)):AM P f (.v (Ah A R H)):=by
 intro args r h
 unfold Ah at h
 split at h
 ·rename_i hx
  simp only[Option.some.injEq]at h;subst h
  have := hok _ hx.choose_spec.2
  rw [hx.choose_spec.1]at this;exact this
 ·cases h
theorem U2 {P:Program} {f:FuncId} {ι:Type} {A:ι→List PV} {z:Nat} {R:ι→List PV} {H:ι→Prop} (hok:∀i,H i→VCA P f (A i) z (R i)):AM P f (.a z (Ah A R H)):=by
 intro args r h
 unfold Ah at h
 split at h
 ·rename_i hx
  simp only[Option.some.injEq]at h;subst h
  have := hok _ hx.choose_spec.2
  rw [hx.choose_spec.1]at this;exact this
 ·cases h
theorem Ao {P:Program}:Bm P []:=by intro e h;simp at h
theorem Ae {P:Program} {f:Nat} {x:Ent} {l:AU} (h:AM P f x) (hl:Bm P l):Bm P ((f,x)::l):=by
 intro e he
 rcases List.mem_cons.1 he with rfl | he
 ·exact h
 ·exact hl e he
theorem FP {α β:Type} {f:α→β} (hf:∀x y,f x=f y→x=y):∀ {l m:List α},l.map f=m.map f→l=m
 | [],[],_=>rfl
 | [],b::m,h=>by simp at h
 | a::l,[],h=>by simp at h
 | a::l,b::m,h=>by
  simp only[List.map_cons,List.cons.injEq]at h
  rw [hf _ _ h.1,FP hf h.2]
theorem DP {k:IntKind} {l m:List Int}:(l.map (PV.int k)=m.map (PV.int k))=(l=m):=propext ⟨FP fun x y h=>by injection h,fun h=>by rw[h]⟩
theorem EZ {k:IntKind} {l:List Int}:AN (l.map (PV.int k))=true:=Kr fun _=>rfl
theorem eG {l:List (List UInt8)}:AN (l.map PV.str)=true:=Kr fun _=>rfl
theorem inj:True=True:=nrfl rfl
theorem sW {k:IntKind} {l:List Int} {i:Nat} (h:i<l.length):nth (l.map (PV.int k)) i=PV.int k (l.getD i 0):=by simp[nth,h]
theorem sX {l:List (List UInt8)} {i:Nat} (h:i<l.length):nth (l.map PV.str) i=PV.str (l.getD i []):=by simp[nth,h]
theorem eH {a:PV} {l:List PV}:nth (a::l) 0=a:=nrfl rfl
theorem eI {a:PV} {l:List PV} {i:Nat}:nth (a::l) (i+1)=nth l i:=by simp[nth]
theorem PU {α β:Type} {f:α→β} {l:List α}:(l.map f).take l.length=l.map f:=by rw[←List.length_map (f:=f)];exact List.take_length
def GS (st:Store) (p:PV) (id z:Nat) (es:List PV):Prop:=∃g,p=.ref id g 0 es.length∧st.obj id=some (.arr g z es)
theorem Ab4 {st:Store} {id' g n id z:Nat} {es:List PV}:GS st (.ref id' g 0 n) id z es=(id'=id∧n=es.length∧st.obj id=some (.arr g z es)):=by
 refine propext ⟨?_,?_⟩
 ·rintro ⟨g',h1,h2⟩;cases h1;exact⟨rfl,rfl,h2⟩
 ·rintro ⟨rfl,rfl,h⟩;exact⟨g,rfl,h⟩
theorem Ok {f:Nat→Option IObj} {id:Nat} {o:Option IObj}:Aa f id o id=o:=by simp[Aa]
theorem PX {f:Nat→Option IObj} {id i:Nat} {o:Option IObj} (h:(i==id)=false):Aa f id o i=f i:=by
 have : i≠id:=by simpa using h
 simp [Aa,this]
theorem DR.eq {st:Store} {p q:PV} (h:p=q) (hp:q.pur=true):DR st p q:=by rw[h];exact .pure q hp
theorem DR.int {st:Store} {k:IntKind} {a b:Int} (h:a=b):DR st (.int k a) (.int k b):=h▸.pure _ rfl
theorem DR.bool {st:Store} {a b:Bool} (h:a=b):DR st (.bool a) (.bool b):=h▸.pure _ rfl
inductive DRs (st:Store):List PV→List PV→Prop where
 | nil:DRs st [] []
 | cons {a b:PV} {l m:List PV} (h:DR st a b) (hb:b.isCell=true) (t:DRs st l m):DRs st (a::l) (b::m)
theorem DRs.get {st:Store} {l m:List PV} (h:DRs st l m):l.length=m.length∧(∀c∈m,c.isCell=true)∧∀(i:Nat) (c d:PV),l[i]?=some c→m[i]?=some d→DR st c d:=by
 induction h with
 | nil=>exact⟨rfl,by simp,by intro i c d h;simp at h⟩
 | cons h hb t ih =>
  refine ⟨by simp[ih.1],fun c hc=>?_,fun i c d hc hd=>?_⟩
  ·rcases List.mem_cons.1 hc with rfl | hc
   ·exact hb
   ·exact ih.2.1 c hc
  ·cases i with
   | zero=>simp at hc hd;subst hc;subst hd;exact h
   | succ i=>exact ih.2.2 i c d (by simpa using hc) (by simpa using hd)
theorem Ag {n:Int} (h1 : -9223372036854775808≤n) (h2:n≤9223372036854775807):IntKind.i64.wrap n=n:=by rw[IntKind.wrap_i64];omega
theorem sY {p:Prop} [Decidable p]:(!decide p)=decide (¬p):=by by_cases h:p <;> simp[h]
def Hp (W:List Nat) (ρ0 ρ:Nat→PV):Nat→PV:=fun t=>if W.contains t=true then ρ t else ρ0 t
theorem R9 {W:List Nat} {ρ0 ρ:Nat→PV} {t:Nat} (h:W.contains t=true):Hp W ρ0 ρ t=ρ t:=by simp only[Hp,h,if_true]
theorem H1 {W:List Nat} {ρ0 ρ:Nat→PV} {t:Nat} (h:W.contains t=false):Hp W ρ0 ρ t=ρ0 t:=by simp only[Hp,h,Bool.false_eq_true,if_false]
def Em (W:List Nat) (ρ0 ρ:Nat→PV):Prop:=∀t,W.contains t=false→ρ t=ρ0 t
theorem Ol {W:List Nat} {ρ0 ρ:Nat→PV} {t:Nat} {v:PV} (h:W.contains t=true):Em W ρ0 (upd ρ t v)=Em W ρ0 ρ:=by
 refine propext ⟨fun g u hu=>?_,fun g u hu=>?_⟩
 all_goals
  have hne:u≠t:=fun e=>by subst e;rw[h]at hu;cases hu
  have := g u hu
  simpa [upd,hne]using this
theorem Sa {W:List Nat} {ρ0 ρ:Nat→PV}:Em W ρ0 (Hp W ρ0 ρ)=True:=eq_true fun t ht=>H1 ht
theorem U3 {W:List Nat} {ρ0:Nat→PV}:Em W ρ0 ρ0=True:=eq_true fun _ _=>rfl
theorem E8 {W:List Nat} {ρ0 ρ:Nat→PV} (h:Em W ρ0 ρ):ρ=Hp W ρ0 ρ:=by
 funext t
 cases hc:W.contains t with
 | true=>rw[R9 hc]
 | false=>rw[H1 hc,h t hc]
section
variable {X:Cfg} {N:Nat} {Q:IExit→IState→Prop} {ks:List Kf}
theorem Ax {c:Code} (W:List Nat) (n:Nat) (J:Nat→(Nat→PV)→Store→Prop) {ρ0 ρ1:Nat→PV} {st st1:Store} (hg:Ghost ⟨ρ0,st⟩ ⟨ρ1,st1⟩) (h0:J 0 ρ1 st1)
  (h : ∀k ρ st',k≤n→J k ρ st'→run X N Q c (.lp (fun s''=>k<n∧Em W ρ1 s''.env∧J (k+1) s''.env s''.st)::ks) ⟨Hp W ρ1 ρ,st'⟩) (hm:A8 X:=by first | assumption | exact AV rfl):run X N Q (.loop c) ks ⟨ρ0,st⟩:=by
 refine PE hm n (fun k s=>Em W ρ1 s.env∧J k s.env s.st) hg ⟨fun _ _=>rfl,h0⟩ ?_
 rintro k ⟨env,st'⟩ hk ⟨ha,hJ⟩
 dsimp only at ha hJ
 have := h k env st' hk hJ
 rwa [←E8 ha]at this
theorem CS {c:Code} (W:List Nat) (n:Nat) (J:Nat→(Nat→PV)→Store→Prop) {ρ0 ρ1:Nat→PV} {st st1:Store} (hg:Ghost ⟨ρ0,st⟩ ⟨ρ1,st1⟩) (h0:J n ρ1 st1)
  (h : ∀m ρ st',J m ρ st'→run X N Q c (.lp (fun s''=>∃m',m'<m∧Em W ρ1 s''.env∧J m' s''.env s''.st)::ks) ⟨Hp W ρ1 ρ,st'⟩) (hm:A8 X:=by first | assumption | exact AV rfl):run X N Q (.loop c) ks ⟨ρ0,st⟩:=by
 refine L8 (fun m s=>Em W ρ1 s.env∧J m s.env s.st) n hg ⟨fun _ _=>rfl,h0⟩ ?_
 rintro m ⟨env,st'⟩ ⟨ha,hJ⟩
 dsimp only at ha hJ
 have := Hk hm (fun s'' ⟨m',h1,h2⟩=>(⟨m',h1,s'',.refl _,h2⟩:∃m',m'<m∧∃s3,Ghost s'' s3∧(Em W ρ1 s3.env∧J m' s3.env s3.st))) (h m env st' hJ)
 rwa [←E8 ha]at this
end
mutual
def DRx (st:Store):PV→PV→Prop
 | .int k a,.int k' b=>k=k'∧a=b
 | .bool a,.bool b=>a=b
 | .str a,.str b=>a=b
 | .nils,.lits _ l=>l = []
 | .lits z l,.lits z' m=>z=z'∧l=m∧AN m=true
 | .ref id gen s n,.lits z l=>∃es,st.arr? id gen=some (z,es)∧s+n≤es.length∧AN es=true∧(es.drop s).take n=l
 | .agg cs,.agg ds=>(∀c∈ds,c.isCell=true)∧DRxL st cs ds
 | .tuple cs,.tuple ds=>DRxL st cs ds
 | p,q=>p=q∧q.pur=true
def DRxL (st:Store):List PV→List PV→Prop
 | [],[]=>True
 | a::l,b::m=>DRx st a b∧DRxL st l m
 | _,_=>False
end
theorem Agy {st:Store} {id gen s n z:Nat} {es:List PV} (h:st.arr? id gen=some (z,es)) (hn:s+n≤es.length) (hp:AN es=true):DR st (.ref id gen s n) (.lits z ((es.drop s).take n)) :=
 Uy (by simp[rdC,h,hn,hp])
mutual
theorem DRx.sound {st:Store}:∀ {p q:PV},DRx st p q→DR st p q
 | .int k a,q,h=>by
  cases q <;> simp only[DRx,reduceCtorEq,false_and]at h
  obtain ⟨rfl,rfl⟩:=h;exact .pure _ rfl
 | .bool a,q,h=>by
  cases q <;> simp only[DRx,reduceCtorEq,false_and]at h
  subst h;exact .pure _ rfl
 | .str a,q,h=>by
  cases q <;> simp only[DRx,reduceCtorEq,false_and]at h
  subst h;exact .pure _ rfl
 | .nils,q,h=>by
  cases q <;> simp only[DRx,reduceCtorEq,false_and]at h
  ·exact .pure _ rfl
  ·subst h;exact .nils _
 | .lits z l,q,h=>by
  cases q <;> simp only[DRx,reduceCtorEq,false_and]at h
  obtain ⟨rfl,rfl,hp⟩:=h;exact .pure _ hp
 | .ref id gen s n,q,h=>by
  cases q <;> simp only[DRx,reduceCtorEq,false_and]at h
  ·obtain ⟨es,h1,h2,h3,rfl⟩:=h;exact Agy h1 h2 h3
  ·simp [PV.pur]at h
 | .agg cs,q,h=>by
  cases q <;> simp only[DRx,reduceCtorEq,false_and]at h
  exact .agg _ _ (DRxL.sound h.2).1 h.1 (DRxL.sound h.2).2
 | .tuple cs,q,h=>by
  cases q <;> simp only[DRx,reduceCtorEq,false_and]at h
  exact .tuple _ _ (DRxL.sound h).1 (DRxL.sound h).2
 | .bad,q,h=>by cases q <;> simp only[DRx,reduceCtorEq,false_and]at h <;> simp[PV.pur]at h
 | .nilp,q,h=>by cases q <;> simp only[DRx,reduceCtorEq,false_and]at h;exact .pure _ rfl
 | .ptr ..,q,h=>by cases q <;> simp only[DRx,reduceCtorEq,false_and]at h;simp[PV.pur]at h
 | .vptr ..,q,h=>by cases q <;> simp only[DRx,reduceCtorEq,false_and]at h;rw[h.1];exact .pure _ h.2
 | .func ..,q,h=>by cases q <;> simp only[DRx,reduceCtorEq,false_and]at h;rw[h.1];exact .pure _ h.2
 | .nilf,q,h=>by cases q <;> simp only[DRx,reduceCtorEq,false_and]at h;exact .pure _ rfl
 | .iface ..,q,h=>by cases q <;> simp only[DRx,reduceCtorEq,false_and]at h;rw[h.1];exact .pure _ h.2
 | .nili,q,h=>by cases q <;> simp only[DRx,reduceCtorEq,false_and]at h;exact .pure _ rfl
 | .nilm,q,h=>by cases q <;> simp only[DRx,reduceCtorEq,false_and]at h;exact .pure _ rfl
 | .mref ..,q,h=>by cases q <;> simp only[DRx,reduceCtorEq,false_and]at h;simp[PV.pur]at h
 | .iter ..,q,h=>by cases q <;> simp only[DRx,reduceCtorEq,false_and]at h;simp[PV.pur]at h
theorem DRxL.sound {st:Store}:∀ {l m:List PV},DRxL st l m→l.length=m.length∧∀(i:Nat) (c d:PV),l[i]?=some c→m[i]?=some d→DR st c d
 | [],m,h=>by
  cases m <;> simp only[DRxL]at h
  exact ⟨rfl,by intro i c d h;simp at h⟩
 | a::l,m,h=>by
  cases m <;> simp only[DRxL]at h
  obtain ⟨h1,h2⟩:=DRxL.sound h.2
  refine ⟨by simp[h1],fun i c d hc hd=>?_⟩
  cases i with
  | zero=>simp at hc hd;subst hc;subst hd;exact DRx.sound h.1
  | succ i=>exact h2 i c d (by simpa using hc) (by simpa using hd)
end
theorem U4 (b:Bool):PV.cells (PV.bool b) = [(PV.bool b)]:=nrfl rfl
theorem U5 (b:Bool):PV.scal1 (PV.bool b)=true:=nrfl rfl
theorem YQ (b:Bool):PV.scal (PV.bool b)=true:=nrfl rfl
theorem eJ (b:Bool):PV.pur (PV.bool b)=true:=by simp only[PV.pur]
theorem eK (st:Store) (b:Bool):rdC st (PV.bool b)=some (PV.bool b):=by simp[rdC,PV.pur]
theorem eM (st:Store) (b:Bool):rdP st (PV.bool b)=some (PV.bool b):=by simp[rdP,rdC,PV.pur]
theorem Sb (b:Bool):PV.isCell (PV.bool b)=true:=nrfl rfl
theorem YR (k:IntKind) (n:Int):PV.cells (PV.int k n) = [(PV.int k n)]:=nrfl rfl
theorem YT (k:IntKind) (n:Int):PV.scal1 (PV.int k n)=true:=nrfl rfl
theorem eN (k:IntKind) (n:Int):PV.scal (PV.int k n)=true:=nrfl rfl
theorem Ft (k:IntKind) (n:Int):PV.pur (PV.int k n)=true:=by simp only[PV.pur]
theorem sZ (st:Store) (k:IntKind) (n:Int):rdC st (PV.int k n)=some (PV.int k n):=by simp[rdC,PV.pur]
theorem tA (st:Store) (k:IntKind) (n:Int):rdP st (PV.int k n)=some (PV.int k n):=by simp[rdP,rdC,PV.pur]
theorem U6 (k:IntKind) (n:Int):PV.isCell (PV.int k n)=true:=nrfl rfl
theorem YU (s:List UInt8):PV.cells (PV.str s) = [(PV.str s)]:=nrfl rfl
theorem YV (s:List UInt8):PV.scal1 (PV.str s)=true:=nrfl rfl
theorem eO (s:List UInt8):PV.scal (PV.str s)=true:=nrfl rfl
theorem tB (s:List UInt8):PV.pur (PV.str s)=true:=by simp only[PV.pur]
theorem tC (st:Store) (s:List UInt8):rdC st (PV.str s)=some (PV.str s):=by simp[rdC,PV.pur]
theorem tD (st:Store) (s:List UInt8):rdP st (PV.str s)=some (PV.str s):=by simp[rdP,rdC,PV.pur]
theorem U7 (s:List UInt8):PV.isCell (PV.str s)=true:=nrfl rfl
theorem U8  : PV.cells PV.nilp = [PV.nilp]:=nrfl rfl
theorem U9  : PV.scal1 PV.nilp=true:=nrfl rfl
theorem YW  : PV.scal PV.nilp=true:=nrfl rfl
theorem eQ  : PV.pur PV.nilp=true:=by simp only[PV.pur]
theorem eR (st:Store)  : rdC st PV.nilp=some PV.nilp:=by simp[rdC,PV.pur]
theorem eS (st:Store)  : rdP st PV.nilp=some PV.nilp:=by simp[rdP,rdC,PV.pur]
theorem YX (i g x o:Nat):PV.cells (PV.ptr i g x o) = [(PV.ptr i g x o)]:=nrfl rfl
theorem Va (cs:List PV) (o:Nat):PV.cells (PV.vptr cs o) = [(PV.vptr cs o)]:=nrfl rfl
theorem Sc (cs:List PV) (o:Nat):PV.pur (PV.vptr cs o)=AN cs:=by simp only[PV.pur]
theorem eU (st:Store) (cs:List PV) (o:Nat):rdC st (PV.vptr cs o)=if AN cs=true then some (PV.vptr cs o)else none:=by simp only[rdC,PV.pur];congr
theorem eV (st:Store) (cs:List PV) (o:Nat):rdP st (PV.vptr cs o)=if AN cs=true then some (PV.vptr cs o)else none:=by simp only[rdP,rdC,PV.pur];congr
theorem Vb  : PV.cells PV.nils = [PV.nils]:=nrfl rfl
theorem Vc  : PV.scal1 PV.nils=true:=nrfl rfl
theorem YY  : PV.scal PV.nils=true:=nrfl rfl
theorem eW  : PV.pur PV.nils=true:=by simp only[PV.pur]
theorem eX (st:Store)  : rdC st PV.nils=some PV.nils:=by simp[rdC,PV.pur]
theorem eY (st:Store)  : rdP st PV.nils=some PV.nils:=by simp[rdP,rdC,PV.pur]
theorem Sd  : PV.isCell PV.nils=true:=nrfl rfl
theorem Vd (z:Nat) (l:List PV):PV.cells (PV.lits z l) = [(PV.lits z l)]:=nrfl rfl
theorem Ve (z:Nat) (l:List PV):PV.scal1 (PV.lits z l)=false:=nrfl rfl
theorem YZ (z:Nat) (l:List PV):PV.scal (PV.lits z l)=false:=nrfl rfl
theorem Mi (z:Nat) (l:List PV):PV.pur (PV.lits z l)=AN l:=by simp only[PV.pur]
theorem eZ (st:Store) (z:Nat) (l:List PV):rdC st (PV.lits z l)=if AN l=true then some (PV.lits z l)else none:=by simp only[rdC,PV.pur];congr
theorem fA (st:Store) (z:Nat) (l:List PV):rdP st (PV.lits z l)=if AN l=true then some (PV.lits z l)else none:=by simp only[rdP,rdC,PV.pur];congr
theorem Se (z:Nat) (l:List PV):PV.isCell (PV.lits z l)=true:=nrfl rfl
theorem Y0 (i g s n:Nat):PV.cells (PV.ref i g s n) = [(PV.ref i g s n)]:=nrfl rfl
theorem tE (i g s n:Nat):PV.pur (PV.ref i g s n)=false:=by simp only[PV.pur]
theorem Y2 (i g s n:Nat):PV.scal1 (PV.ref i g s n)=false:=nrfl rfl
theorem tF (st:Store) (i g s n:Nat):rdC st (PV.ref i g s n)=(st.arr? i g).bind fun q=>if s+n≤q.2.length∧AN q.2=true then some (.lits q.1 ((q.2.drop s).take n))else none:=by simp only[rdC]
theorem tG (st:Store) (i g s n:Nat):rdP st (PV.ref i g s n)=(st.arr? i g).bind fun q=>if s+n≤q.2.length∧AN q.2=true then some (.lits q.1 ((q.2.drop s).take n))else none:=by simp only[rdP,rdC]
theorem Vf (f:Fn) (a b:List PV):PV.cells (PV.func f a b) = [(PV.func f a b)]:=nrfl rfl
theorem Sf (f:Fn) (a b:List PV):PV.pur (PV.func f a b)=(AN a&&AN b):=by simp only[PV.pur]
theorem fB (st:Store) (f:Fn) (a b:List PV):rdC st (PV.func f a b)=if (AN a&&AN b)=true then some (PV.func f a b)else none:=by simp only[rdC,PV.pur];congr
theorem fC (st:Store) (f:Fn) (a b:List PV):rdP st (PV.func f a b)=if (AN a&&AN b)=true then some (PV.func f a b)else none:=by simp only[rdP,rdC,PV.pur];congr
theorem Vg  : PV.cells PV.nilf = [PV.nilf]:=nrfl rfl
theorem Vh  : PV.scal1 PV.nilf=true:=nrfl rfl
theorem Y3  : PV.scal PV.nilf=true:=nrfl rfl
theorem fD  : PV.pur PV.nilf=true:=by simp only[PV.pur]
theorem fE (st:Store)  : rdC st PV.nilf=some PV.nilf:=by simp[rdC,PV.pur]
theorem fF (st:Store)  : rdP st PV.nilf=some PV.nilf:=by simp[rdP,rdC,PV.pur]
theorem Sg  : PV.isCell PV.nilf=true:=nrfl rfl
theorem Sh (t:TypeId) (v:PV):PV.cells (PV.iface t v) = [(PV.iface t v)]:=nrfl rfl
theorem Vi  : PV.cells PV.nili = [PV.nili]:=nrfl rfl
theorem Vj  : PV.scal1 PV.nili=true:=nrfl rfl
theorem Y5  : PV.scal PV.nili=true:=nrfl rfl
theorem fG  : PV.pur PV.nili=true:=by simp only[PV.pur]
theorem fH (st:Store)  : rdC st PV.nili=some PV.nili:=by simp[rdC,PV.pur]
theorem fI (st:Store)  : rdP st PV.nili=some PV.nili:=by simp[rdP,rdC,PV.pur]
theorem Si  : PV.isCell PV.nili=true:=nrfl rfl
theorem Y6 (l:List PV):PV.cells (PV.agg l)=l:=nrfl rfl
theorem fJ (l:List PV):PV.scal (PV.agg l)=l.all PV.scal1:=nrfl rfl
theorem JH (l:List PV):PV.pur (PV.agg l)=AN l:=by simp only[PV.pur]
theorem tH (st:Store) (l:List PV):rdP st (PV.agg l)=(rdL st l).bind fun ds=>if ds.all PV.isCell=true then some (.agg ds)else none:=by simp only[rdP]
theorem Vk (l:List PV):PV.scal (PV.tuple l)=l.all PV.scal1:=nrfl rfl
theorem Y7 (l:List PV):PV.pur (PV.tuple l)=AN l:=by simp only[PV.pur]
theorem Vl  : PV.cells PV.nilm = [PV.nilm]:=nrfl rfl
theorem Vm  : PV.scal1 PV.nilm=true:=nrfl rfl
theorem Y8  : PV.scal PV.nilm=true:=nrfl rfl
theorem fK  : PV.pur PV.nilm=true:=by simp only[PV.pur]
theorem fL (st:Store)  : rdC st PV.nilm=some PV.nilm:=by simp[rdC,PV.pur]
theorem fM (st:Store)  : rdP st PV.nilm=some PV.nilm:=by simp[rdP,rdC,PV.pur]
theorem tI (st:Store) (k k2:IntKind) (a b:Int):DRx st (.int k a) (.int k2 b)=(k=k2∧a=b):=by rw[DRx]
theorem fN (st:Store) (a b:Bool):DRx st (.bool a) (.bool b)=(a=b):=by rw[DRx]
theorem tJ (st:Store) (a b:List UInt8):DRx st (.str a) (.str b)=(a=b):=by rw[DRx]
theorem NG (st:Store) (z:Nat) (l:List PV):DRx st .nils (.lits z l)=(l = []):=by rw[DRx]
theorem NH (st:Store):DRx st .nils .nils=True:=by simp[DRx,PV.pur]
theorem fO (st:Store) (z y:Nat) (l m:List PV):DRx st (.lits z l) (.lits y m)=(z=y∧l=m∧AN m=true):=by rw[DRx]
theorem tK (st:Store) (i g s n z:Nat) (l:List PV):DRx st (.ref i g s n) (.lits z l)=∃es,st.arr? i g=some (z,es)∧s+n≤es.length∧AN es=true∧(es.drop s).take n=l:=by rw[DRx]
theorem tL (st:Store) (l m:List PV):DRx st (.agg l) (.agg m)=(m.all PV.isCell=true∧DRxL st l m):=by rw[DRx,List.all_eq_true]
theorem Y9 (st:Store) (l m:List PV):DRx st (.tuple l) (.tuple m)=DRxL st l m:=by rw[DRx]
theorem Za (st:Store) (a b:PV) (l m:List PV):DRxL st (a::l) (b::m)=(DRx st a b∧DRxL st l m):=by rw[DRxL]
theorem fP (st:Store):DRxL st [] []=True:=by rw[DRxL]
theorem PY {X:Cfg} (hm:A8 X) {N:Nat} {Q Q':IExit→IState→Prop} {c:Code} {s:IState} (h:∀e s,Q e s→Q' e s) (hr:run X N Q c [] s):run X N Q' c [] s:=Ob hm h hr
theorem Aa4 {P:Program} (hmix:P.follows .mixedOrders=true) {l:AU} (hl:Bm P l) (muts:List Nat) (frz:List Nat) {f:FuncId} {fn:Func} {c:Code} (hf:P.funcs[f]?=some fn) (hb:fn.body=some c)
  (hname : (fn.name == "runtime.NumGoroutine") = false) {args : List PV} {N : Nat} (hN : fn.ntmps = N) (hn : args.length ≤ N) {rs : List ResultVar} (hrs : fn.results.toList = rs) {r : PV} (n : Nat) {dep : Nat}
  (h : AI args→run (cfg P l muts frz dep) N (Ai P rs (fun p st=>DRx st p r)) c [] ⟨FC args,stR n⟩):VC P f args r :=
 UZ hmix hl muts frz hf hb hname hN hn hrs n fun hs=>PY (AV rfl) (fun e s hq=>by
  cases e with
  | normal=>obtain⟨p,h1,h2⟩:=hq;exact⟨p,h1,h2.sound⟩
  | exit i=>exact hq.elim
  | ret=>obtain⟨p,h1,h2⟩:=hq;exact⟨p,h1,h2.sound⟩) (h hs)
end Sim
