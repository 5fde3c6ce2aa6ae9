/- What symbolic runs are written with: encodings, contracts as table entries, small laws. -/
import Derived.Test.YtppljhpecoeakaaSimO
set_option linter.unusedVariables false
set_option linter.unusedSimpArgs false
namespace Sim
open Go
abbrev I (n:Int):PV:=.int .i64 n
abbrev B (b:Bool):PV:=.bool b
@[reducible] def ints (l:List Int):PV:=.lits 1 (l.map (PV.int .i64))
theorem Aho {P:Program} {l:AV} {m f:List Nat} {dp:Nat} {yl:Option (Nat×Fq)} {rnd:Bool}:(cfg P l m f dp yl rnd).P=P:=nrfl rfl
theorem uA {P:Program} {l:AV} {m f:List Nat} {dp:Nat} {yl:Option (Nat×Fq)} {rnd:Bool}:(cfg P l m f dp yl rnd).tab=EL l:=nrfl rfl
theorem fM {P:Program} {l:AV} {m f:List Nat} {dp:Nat} {yl:Option (Nat×Fq)} {rnd:Bool} {d:Nat}:(cfg P l m f dp yl rnd).muts d=m.contains d:=nrfl rfl
theorem uB {P:Program} {l:AV} {m f:List Nat} {dp:Nat} {yl:Option (Nat×Fq)} {rnd:Bool} {d:Nat}:(cfg P l m f dp yl rnd).num d=JL f d:=nrfl rfl
theorem Zk {d:Nat}:JL [] d=0:=by simp[JL]
theorem fN {f:List Nat} {d:Nat}:JL f d=if f.contains (100000+d)then 1 else if f.contains (200000+d)then 2 else if f.contains (300000+d)then 3 else if f.contains (500000+d)then 4 else 0:=nrfl rfl
theorem uC {P:Program} {l:AV} {m f:List Nat} {dp:Nat} {yl:Option (Nat×Fq)} {rnd:Bool} {d:Nat}:(cfg P l m f dp yl rnd).frz d=f.contains d:=nrfl rfl
theorem Vp {g f:Nat} {e:Ent} {l:AV} {args:List PV} {st:Store}:EL ((g,e)::l) f args st=if g=f then e.tab args st else EL l f args st:=by
 unfold EL
 by_cases h:g=f
 ·subst h;simp
 ·simp [h]
theorem Ahp {spec:List PV→Option PV} {args:List PV} {st:Store}:(Ent.v spec).tab args st=Zi spec args st:=nrfl rfl
theorem Ahq {mk:MK} {spec:List PV→Option (List (PV×PV))} {args:List PV} {st:Store}:(Ent.m mk spec).tab args st=if AU args=true then (spec args).map fun es=>(.mref st.next 0,st.new (.map 0 mk es))else none:=nrfl rfl
theorem Ahr {z:Nat} {spec:List PV→Option (List PV)} {args:List PV} {st:Store}:(Ent.a z spec).tab args st=if AU args=true then (spec args).map fun es=>(.ref st.next 0 0 es.length,st.new (.arr 0 z es))else none:=nrfl rfl
theorem Ahs {spec:List PV→Store→Option (PV×Store)} {args:List PV} {st:Store}:(Ent.x spec).tab args st=spec args st:=nrfl rfl
theorem Aht {spec:List PV→(Nat→Option IObj)→Option PV} {args:List PV} {st:Store}:(Ent.c spec).tab args st=(spec args st.obj).map fun r=>(r,st):=nrfl rfl
theorem Ahu {z g:Nat} {spec:List PV→Option (List PV)} {args:List PV} {st:Store}:(Ent.s z g spec).tab args st=OB z g spec args st:=nrfl rfl
theorem Zl {z g g' id gen n:Nat} {spec:List PV→Option (List PV)} {st:Store}:OB z g spec [.ref id gen 0 n,.func (.func g') [] []] st=if g'=g then (st.arr? id gen).bind fun a=>if a.1=z∧n=a.2.length then (spec a.2).map fun es'=>(.tuple [],st.set id (.arr gen z es'))else none else none:=nrfl rfl
theorem Vq {z g:Nat} {spec:List PV→Option (List PV)} {st:Store} {p:PV}:OB z g spec [.nils,p] st=some (.tuple [],st):=nrfl rfl
noncomputable def Ah {ι ω:Type} (A:ι→List PV) (R:ι→ω) (H:ι→Prop) (args:List PV):Option ω :=
 open Classical in if h:∃i,A i=args∧H i then some (R h.choose)else none
theorem AC {ι ω:Type} {A:ι→List PV} {R:ι→ω} {H:ι→Prop} (hinj:∀i j,A i=A j→i=j) {i:ι} (hi:H i):Ah A R H (A i)=some (R i):=by
 unfold Ah
 have h:∃j,A j=A i∧H j:=⟨i,rfl,hi⟩
 rw [dif_pos h,hinj _ _ h.choose_spec.1]
theorem BM {ι ω:Type} {A:ι→List PV} {R:ι→ω} {H:ι→Prop} (hinj:∀i j,A i=A j→i=j) (i:ι):Ah A R H (A i)=@ite (Option ω) (H i) (Classical.propDecidable _) (some (R i)) none:=by
 by_cases h:H i
 ·rw [if_pos h];exact AC hinj h
 ·rw [if_neg h]
  unfold Ah
  rw [dif_neg]
  rintro ⟨j,hj,hh⟩
  rw [hinj _ _ hj]at hh
  exact h hh
theorem Ap {P:Program} {f:FuncId} {ι:Type} {A:ι→List PV} {R:ι→PV} {H:ι→Prop} (hok:∀i,H i→VC P f (A i) (R i)):AL P f (.v (Ah A R H)):=by
 intro args r h
 unfold Ah at h
 split at h
 ·rename_i hx
  simp only[Option.some.injEq]at h;subst h
  have := hok _ hx.choose_spec.2
  rw [hx.choose_spec.1]at this;exact this
 ·cases h
theorem Vr {P:Program} {f:FuncId} {ι:Type} {A:ι→List PV} {z:Nat} {R:ι→List PV} {H:ι→Prop} (hok:∀i,H i→VCA P f (A i) z (R i)):AL P f (.a z (Ah A R H)):=by
 intro args r h
 unfold Ah at h
 split at h
 ·rename_i hx
  simp only[Option.some.injEq]at h;subst h
  have := hok _ hx.choose_spec.2
  rw [hx.choose_spec.1]at this;exact this
 ·cases h
theorem An {P:Program}:Bp P []:=by intro e h;simp at h
theorem Ad {P:Program} {f:Nat} {x:Ent} {l:AV} (h:AL P f x) (hl:Bp P l):Bp P ((f,x)::l):=by
 intro e he
 rcases List.mem_cons.1 he with rfl | he
 ·exact h
 ·exact hl e he
theorem FV {α β:Type} {f:α→β} (hf:∀x y,f x=f y→x=y):∀ {l m:List α},l.map f=m.map f→l=m
 | [],[],_=>rfl
 | [],b::m,h=>by simp at h
 | a::l,[],h=>by simp at h
 | a::l,b::m,h=>by
  simp only[List.map_cons,List.cons.injEq]at h
  rw [hf _ _ h.1,FV hf h.2]
theorem DZ {k:IntKind} {l m:List Int}:(l.map (PV.int k)=m.map (PV.int k))=(l=m):=propext ⟨FV fun x y h=>by injection h,fun h=>by rw[h]⟩
theorem Hw {k:IntKind} {l:List Int}:AU (l.map (PV.int k))=true:=Kw fun _=>rfl
theorem fO {l:List (List UInt8)}:AU (l.map PV.str)=true:=Kw fun _=>rfl
theorem inj:True=True:=nrfl rfl
theorem uD {k:IntKind} {l:List Int} {i:Nat} (h:i<l.length):nth (l.map (PV.int k)) i=PV.int k (l.getD i 0):=by simp[nth,h]
theorem uE {l:List (List UInt8)} {i:Nat} (h:i<l.length):nth (l.map PV.str) i=PV.str (l.getD i []):=by simp[nth,h]
theorem fP {a:PV} {l:List PV}:nth (a::l) 0=a:=nrfl rfl
theorem fQ {a:PV} {l:List PV} {i:Nat}:nth (a::l) (i+1)=nth l i:=by simp[nth]
theorem Qk {α β:Type} {f:α→β} {l:List α}:(l.map f).take l.length=l.map f:=by rw[←List.length_map (f:=f)];exact List.take_length
def GS (st:Store) (p:PV) (id z:Nat) (es:List PV):Prop:=∃g,p=.ref id g 0 es.length∧st.obj id=some (.arr g z es)
theorem Acx {st:Store} {id' g n id z:Nat} {es:List PV}:GS st (.ref id' g 0 n) id z es=(id'=id∧n=es.length∧st.obj id=some (.arr g z es)):=by
 refine propext ⟨?_,?_⟩
 ·rintro ⟨g',h1,h2⟩;cases h1;exact⟨rfl,rfl,h2⟩
 ·rintro ⟨rfl,rfl,h⟩;exact⟨g,rfl,h⟩
theorem OC {f:Nat→Option IObj} {id:Nat} {o:Option IObj}:Aa f id o id=o:=by simp[Aa]
theorem Ql {f:Nat→Option IObj} {id i:Nat} {o:Option IObj} (h:(i==id)=false):Aa f id o i=f i:=by
 have : i≠id:=by simpa using h
 simp [Aa,this]
theorem DR.eq {st:Store} {p q:PV} (h:p=q) (hp:q.pur=true):DR st p q:=by rw[h];exact .pure q hp
theorem DR.int {st:Store} {k:IntKind} {a b:Int} (h:a=b):DR st (.int k a) (.int k b):=h▸.pure _ rfl
theorem DR.bool {st:Store} {a b:Bool} (h:a=b):DR st (.bool a) (.bool b):=h▸.pure _ rfl
inductive DRs (st:Store):List PV→List PV→Prop where
 | nil:DRs st [] []
 | cons {a b:PV} {l m:List PV} (h:DR st a b) (hb:b.isCell=true) (t:DRs st l m):DRs st (a::l) (b::m)
theorem DRs.get {st:Store} {l m:List PV} (h:DRs st l m):l.length=m.length∧(∀c∈m,c.isCell=true)∧∀(i:Nat) (c d:PV),l[i]?=some c→m[i]?=some d→DR st c d:=by
 induction h with
 | nil=>exact⟨rfl,by simp,by intro i c d h;simp at h⟩
 | cons h hb t ih =>
  refine ⟨by simp[ih.1],fun c hc=>?_,fun i c d hc hd=>?_⟩
  ·rcases List.mem_cons.1 hc with rfl | hc
   ·exact hb
   ·exact ih.2.1 c hc
  ·cases i with
   | zero=>simp at hc hd;subst hc;subst hd;exact h
   | succ i=>exact ih.2.2 i c d (by simpa using hc) (by simpa using hd)
theorem Aj {n:Int} (h1 : -9223372036854775808≤n) (h2:n≤9223372036854775807):IntKind.i64.wrap n=n:=by rw[IntKind.wrap_i64];omega
theorem uF {p:Prop} [Decidable p]:(!decide p)=decide (¬p):=by by_cases h:p <;> simp[h]
def IL (W:List Nat) (ρ0 ρ:Nat→PV):Nat→PV:=fun t=>if W.contains t=true then ρ t else ρ0 t
theorem SC {W:List Nat} {ρ0 ρ:Nat→PV} {t:Nat} (h:W.contains t=true):IL W ρ0 ρ t=ρ t:=by simp only[IL,h,if_true]
theorem H8 {W:List Nat} {ρ0 ρ:Nat→PV} {t:Nat} (h:W.contains t=false):IL W ρ0 ρ t=ρ0 t:=by simp only[IL,h,Bool.false_eq_true,if_false]
def GZ (W:List Nat) (ρ0 ρ:Nat→PV):Prop:=∀t,W.contains t=false→ρ t=ρ0 t
theorem Zm {W:List Nat} {ρ0 ρ:Nat→PV} {t:Nat} {v:PV} (h:W.contains t=true):GZ W ρ0 (upd ρ t v)=GZ W ρ0 ρ:=by
 refine propext ⟨fun g u hu=>?_,fun g u hu=>?_⟩
 all_goals
  have hne:u≠t:=fun e=>by subst e;rw[h]at hu;cases hu
  have := g u hu
  simpa [upd,hne]using this
theorem SD {W:List Nat} {ρ0 ρ:Nat→PV}:GZ W ρ0 (IL W ρ0 ρ)=True:=eq_true fun t ht=>H8 ht
theorem Vs {W:List Nat} {ρ0:Nat→PV}:GZ W ρ0 ρ0=True:=eq_true fun _ _=>rfl
theorem Hx {W:List Nat} {ρ0 ρ:Nat→PV} (h:GZ W ρ0 ρ):ρ=IL W ρ0 ρ:=by
 funext t
 cases hc:W.contains t with
 | true=>rw[SC hc]
 | false=>rw[H8 hc,h t hc]
section
variable {X:Cfg} {N:Nat} {Q:IExit→IState→Prop} {ks:List Kf}
theorem Ay {c:Code} (W:List Nat) (n:Nat) (J:Nat→(Nat→PV)→Store→Prop) {ρ0 ρ1:Nat→PV} {st st1:Store} (hg:Ghost ⟨ρ0,st⟩ ⟨ρ1,st1⟩) (h0:J 0 ρ1 st1)
  (h : ∀k ρ st',k≤n→J k ρ st'→run X N Q c (.lp (fun s''=>k<n∧GZ W ρ1 s''.env∧J (k+1) s''.env s''.st)::ks) ⟨IL W ρ1 ρ,st'⟩) (hm:Bh X:=by first | assumption | exact AX rfl):run X N Q (.loop c) ks ⟨ρ0,st⟩:=by
 refine P9 hm n (fun k s=>GZ W ρ1 s.env∧J k s.env s.st) hg ⟨fun _ _=>rfl,h0⟩ ?_
 rintro k ⟨env,st'⟩ hk ⟨ha,hJ⟩
 dsimp only at ha hJ
 have := h k env st' hk hJ
 rwa [←Hx ha]at this
theorem CQ {c:Code} (W:List Nat) (n:Nat) (J:Nat→(Nat→PV)→Store→Prop) {ρ0 ρ1:Nat→PV} {st st1:Store} (hg:Ghost ⟨ρ0,st⟩ ⟨ρ1,st1⟩) (h0:J n ρ1 st1)
  (h : ∀m ρ st',J m ρ st'→run X N Q c (.lp (fun s''=>∃m',m'<m∧GZ W ρ1 s''.env∧J m' s''.env s''.st)::ks) ⟨IL W ρ1 ρ,st'⟩) (hm:Bh X:=by first | assumption | exact AX rfl):run X N Q (.loop c) ks ⟨ρ0,st⟩:=by
 refine Sa (fun m s=>GZ W ρ1 s.env∧J m s.env s.st) n hg ⟨fun _ _=>rfl,h0⟩ ?_
 rintro m ⟨env,st'⟩ ⟨ha,hJ⟩
 dsimp only at ha hJ
 have := Lp hm (fun s'' ⟨m',h1,h2⟩=>(⟨m',h1,s'',.refl _,h2⟩:∃m',m'<m∧∃s3,Ghost s'' s3∧(GZ W ρ1 s3.env∧J m' s3.env s3.st))) (h m env st' hJ)
 rwa [←Hx ha]at this
end
mutual
def DRx (st:Store):PV→PV→Prop
 | .int k a,.int k' b=>k=k'∧a=b
 | .bool a,.bool b=>a=b
 | .str a,.str b=>a=b
 | .nils,.lits _ l=>l = []
 | .lits z l,.lits z' m=>z=z'∧l=m∧AU m=true
 | .ref id gen s n,.lits z l=>∃es,st.arr? id gen=some (z,es)∧s+n≤es.length∧AU es=true∧(es.drop s).take n=l
 | .agg cs,.agg ds=>(∀c∈ds,c.isCell=true)∧DRxL st cs ds
 | .tuple cs,.tuple ds=>DRxL st cs ds
 | p,q=>p=q∧q.pur=true
def DRxL (st:Store):List PV→List PV→Prop
 | [],[]=>True
 | a::l,b::m=>DRx st a b∧DRxL st l m
 | _,_=>False
end
theorem Ahv {st:Store} {id gen s n z:Nat} {es:List PV} (h:st.arr? id gen=some (z,es)) (hn:s+n≤es.length) (hp:AU es=true):DR st (.ref id gen s n) (.lits z ((es.drop s).take n)) :=
 UX (by simp[rdC,h,hn,hp])
mutual
theorem DRx.sound {st:Store}:∀ {p q:PV},DRx st p q→DR st p q
 | .int k a,q,h=>by
  cases q <;> simp only[DRx,reduceCtorEq,false_and]at h
  obtain ⟨rfl,rfl⟩:=h;exact .pure _ rfl
 | .bool a,q,h=>by
  cases q <;> simp only[DRx,reduceCtorEq,false_and]at h
  subst h;exact .pure _ rfl
 | .str a,q,h=>by
  cases q <;> simp only[DRx,reduceCtorEq,false_and]at h
  subst h;exact .pure _ rfl
 | .nils,q,h=>by
  cases q <;> simp only[DRx,reduceCtorEq,false_and]at h
  ·exact .pure _ rfl
  ·subst h;exact .nils _
 | .lits z l,q,h=>by
  cases q <;> simp only[DRx,reduceCtorEq,false_and]at h
  obtain ⟨rfl,rfl,hp⟩:=h;exact .pure _ hp
 | .ref id gen s n,q,h=>by
  cases q <;> simp only[DRx,reduceCtorEq,false_and]at h
  ·obtain ⟨es,h1,h2,h3,rfl⟩:=h;exact Ahv h1 h2 h3
  ·simp [PV.pur]at h
 | .agg cs,q,h=>by
  cases q <;> simp only[DRx,reduceCtorEq,false_and]at h
  exact .agg _ _ (DRxL.sound h.2).1 h.1 (DRxL.sound h.2).2
 | .tuple cs,q,h=>by
  cases q <;> simp only[DRx,reduceCtorEq,false_and]at h
  exact .tuple _ _ (DRxL.sound h).1 (DRxL.sound h).2
 | .bad,q,h=>by cases q <;> simp only[DRx,reduceCtorEq,false_and]at h <;> simp[PV.pur]at h
 | .nilp,q,h=>by cases q <;> simp only[DRx,reduceCtorEq,false_and]at h;exact .pure _ rfl
 | .ptr ..,q,h=>by cases q <;> simp only[DRx,reduceCtorEq,false_and]at h;simp[PV.pur]at h
 | .vptr ..,q,h=>by cases q <;> simp only[DRx,reduceCtorEq,false_and]at h;rw[h.1];exact .pure _ h.2
 | .func ..,q,h=>by cases q <;> simp only[DRx,reduceCtorEq,false_and]at h;rw[h.1];exact .pure _ h.2
 | .nilf,q,h=>by cases q <;> simp only[DRx,reduceCtorEq,false_and]at h;exact .pure _ rfl
 | .iface ..,q,h=>by cases q <;> simp only[DRx,reduceCtorEq,false_and]at h;rw[h.1];exact .pure _ h.2
 | .nili,q,h=>by cases q <;> simp only[DRx,reduceCtorEq,false_and]at h;exact .pure _ rfl
 | .nilm,q,h=>by cases q <;> simp only[DRx,reduceCtorEq,false_and]at h;exact .pure _ rfl
 | .mref ..,q,h=>by cases q <;> simp only[DRx,reduceCtorEq,false_and]at h;simp[PV.pur]at h
 | .iter ..,q,h=>by cases q <;> simp only[DRx,reduceCtorEq,false_and]at h;simp[PV.pur]at h
theorem DRxL.sound {st:Store}:∀ {l m:List PV},DRxL st l m→l.length=m.length∧∀(i:Nat) (c d:PV),l[i]?=some c→m[i]?=some d→DR st c d
 | [],m,h=>by
  cases m <;> simp only[DRxL]at h
  exact ⟨rfl,by intro i c d h;simp at h⟩
 | a::l,m,h=>by
  cases m <;> simp only[DRxL]at h
  obtain ⟨h1,h2⟩:=DRxL.sound h.2
  refine ⟨by simp[h1],fun i c d hc hd=>?_⟩
  cases i with
  | zero=>simp at hc hd;subst hc;subst hd;exact DRx.sound h.1
  | succ i=>exact h2 i c d (by simpa using hc) (by simpa using hd)
end
theorem Vt (b:Bool):PV.cells (PV.bool b) = [(PV.bool b)]:=nrfl rfl
theorem Vu (b:Bool):PV.scal1 (PV.bool b)=true:=nrfl rfl
theorem Zn (b:Bool):PV.scal (PV.bool b)=true:=nrfl rfl
theorem fR (b:Bool):PV.pur (PV.bool b)=true:=by simp only[PV.pur]
theorem fS (st:Store) (b:Bool):rdC st (PV.bool b)=some (PV.bool b):=by simp[rdC,PV.pur]
theorem fT (st:Store) (b:Bool):rdP st (PV.bool b)=some (PV.bool b):=by simp[rdP,rdC,PV.pur]
theorem SE (b:Bool):PV.isCell (PV.bool b)=true:=nrfl rfl
theorem Zo (k:IntKind) (n:Int):PV.cells (PV.int k n) = [(PV.int k n)]:=nrfl rfl
theorem Zp (k:IntKind) (n:Int):PV.scal1 (PV.int k n)=true:=nrfl rfl
theorem fU (k:IntKind) (n:Int):PV.scal (PV.int k n)=true:=nrfl rfl
theorem FA (k:IntKind) (n:Int):PV.pur (PV.int k n)=true:=by simp only[PV.pur]
theorem uG (st:Store) (k:IntKind) (n:Int):rdC st (PV.int k n)=some (PV.int k n):=by simp[rdC,PV.pur]
theorem uH (st:Store) (k:IntKind) (n:Int):rdP st (PV.int k n)=some (PV.int k n):=by simp[rdP,rdC,PV.pur]
theorem Vv (k:IntKind) (n:Int):PV.isCell (PV.int k n)=true:=nrfl rfl
theorem Zq (s:List UInt8):PV.cells (PV.str s) = [(PV.str s)]:=nrfl rfl
theorem Zr (s:List UInt8):PV.scal1 (PV.str s)=true:=nrfl rfl
theorem fV (s:List UInt8):PV.scal (PV.str s)=true:=nrfl rfl
theorem uI (s:List UInt8):PV.pur (PV.str s)=true:=by simp only[PV.pur]
theorem uJ (st:Store) (s:List UInt8):rdC st (PV.str s)=some (PV.str s):=by simp[rdC,PV.pur]
theorem uK (st:Store) (s:List UInt8):rdP st (PV.str s)=some (PV.str s):=by simp[rdP,rdC,PV.pur]
theorem Vw (s:List UInt8):PV.isCell (PV.str s)=true:=nrfl rfl
theorem Vx  : PV.cells PV.nilp = [PV.nilp]:=nrfl rfl
theorem Vy  : PV.scal1 PV.nilp=true:=nrfl rfl
theorem Zs  : PV.scal PV.nilp=true:=nrfl rfl
theorem fW  : PV.pur PV.nilp=true:=by simp only[PV.pur]
theorem fX (st:Store)  : rdC st PV.nilp=some PV.nilp:=by simp[rdC,PV.pur]
theorem fY (st:Store)  : rdP st PV.nilp=some PV.nilp:=by simp[rdP,rdC,PV.pur]
theorem Zt (i g x o:Nat):PV.cells (PV.ptr i g x o) = [(PV.ptr i g x o)]:=nrfl rfl
theorem Vz (cs:List PV) (o:Nat):PV.cells (PV.vptr cs o) = [(PV.vptr cs o)]:=nrfl rfl
theorem SF (cs:List PV) (o:Nat):PV.pur (PV.vptr cs o)=AU cs:=by simp only[PV.pur]
theorem fZ (st:Store) (cs:List PV) (o:Nat):rdC st (PV.vptr cs o)=if AU cs=true then some (PV.vptr cs o)else none:=by simp only[rdC,PV.pur];congr
theorem gB (st:Store) (cs:List PV) (o:Nat):rdP st (PV.vptr cs o)=if AU cs=true then some (PV.vptr cs o)else none:=by simp only[rdP,rdC,PV.pur];congr
theorem VA  : PV.cells PV.nils = [PV.nils]:=nrfl rfl
theorem VB  : PV.scal1 PV.nils=true:=nrfl rfl
theorem Zu  : PV.scal PV.nils=true:=nrfl rfl
theorem gC  : PV.pur PV.nils=true:=by simp only[PV.pur]
theorem gD (st:Store)  : rdC st PV.nils=some PV.nils:=by simp[rdC,PV.pur]
theorem gE (st:Store)  : rdP st PV.nils=some PV.nils:=by simp[rdP,rdC,PV.pur]
theorem SG  : PV.isCell PV.nils=true:=nrfl rfl
theorem VD (z:Nat) (l:List PV):PV.cells (PV.lits z l) = [(PV.lits z l)]:=nrfl rfl
theorem VE (z:Nat) (l:List PV):PV.scal1 (PV.lits z l)=false:=nrfl rfl
theorem Zv (z:Nat) (l:List PV):PV.scal (PV.lits z l)=false:=nrfl rfl
theorem Mo (z:Nat) (l:List PV):PV.pur (PV.lits z l)=AU l:=by simp only[PV.pur]
theorem gF (st:Store) (z:Nat) (l:List PV):rdC st (PV.lits z l)=if AU l=true then some (PV.lits z l)else none:=by simp only[rdC,PV.pur];congr
theorem gG (st:Store) (z:Nat) (l:List PV):rdP st (PV.lits z l)=if AU l=true then some (PV.lits z l)else none:=by simp only[rdP,rdC,PV.pur];congr
theorem SH (z:Nat) (l:List PV):PV.isCell (PV.lits z l)=true:=nrfl rfl
theorem Zw (i g s n:Nat):PV.cells (PV.ref i g s n) = [(PV.ref i g s n)]:=nrfl rfl
theorem uL (i g s n:Nat):PV.pur (PV.ref i g s n)=false:=by simp only[PV.pur]
theorem Zx (i g s n:Nat):PV.scal1 (PV.ref i g s n)=false:=nrfl rfl
theorem uM (st:Store) (i g s n:Nat):rdC st (PV.ref i g s n)=(st.arr? i g).bind fun q=>if s+n≤q.2.length∧AU q.2=true then some (.lits q.1 ((q.2.drop s).take n))else none:=by simp only[rdC]
theorem uO (st:Store) (i g s n:Nat):rdP st (PV.ref i g s n)=(st.arr? i g).bind fun q=>if s+n≤q.2.length∧AU q.2=true then some (.lits q.1 ((q.2.drop s).take n))else none:=by simp only[rdP,rdC]
theorem VF (f:Fn) (a b:List PV):PV.cells (PV.func f a b) = [(PV.func f a b)]:=nrfl rfl
theorem SJ (f:Fn) (a b:List PV):PV.pur (PV.func f a b)=(AU a&&AU b):=by simp only[PV.pur]
theorem gH (st:Store) (f:Fn) (a b:List PV):rdC st (PV.func f a b)=if (AU a&&AU b)=true then some (PV.func f a b)else none:=by simp only[rdC,PV.pur];congr
theorem gI (st:Store) (f:Fn) (a b:List PV):rdP st (PV.func f a b)=if (AU a&&AU b)=true then some (PV.func f a b)else none:=by simp only[rdP,rdC,PV.pur];congr
theorem VG  : PV.cells PV.nilf = [PV.nilf]:=nrfl rfl
theorem VH  : PV.scal1 PV.nilf=true:=nrfl rfl
theorem Zy  : PV.scal PV.nilf=true:=nrfl rfl
theorem gJ  : PV.pur PV.nilf=true:=by simp only[PV.pur]
theorem gL (st:Store)  : rdC st PV.nilf=some PV.nilf:=by simp[rdC,PV.pur]
theorem gM (st:Store)  : rdP st PV.nilf=some PV.nilf:=by simp[rdP,rdC,PV.pur]
theorem SK  : PV.isCell PV.nilf=true:=nrfl rfl
theorem SL (t:TypeId) (v:PV):PV.cells (PV.iface t v) = [(PV.iface t v)]:=nrfl rfl
theorem VI  : PV.cells PV.nili = [PV.nili]:=nrfl rfl
theorem VJ  : PV.scal1 PV.nili=true:=nrfl rfl
theorem Zz  : PV.scal PV.nili=true:=nrfl rfl
theorem gQ  : PV.pur PV.nili=true:=by simp only[PV.pur]
theorem gR (st:Store)  : rdC st PV.nili=some PV.nili:=by simp[rdC,PV.pur]
theorem gT (st:Store)  : rdP st PV.nili=some PV.nili:=by simp[rdP,rdC,PV.pur]
theorem SM  : PV.isCell PV.nili=true:=nrfl rfl
theorem ZA (l:List PV):PV.cells (PV.agg l)=l:=nrfl rfl
theorem gU (l:List PV):PV.scal (PV.agg l)=l.all PV.scal1:=nrfl rfl
theorem JM (l:List PV):PV.pur (PV.agg l)=AU l:=by simp only[PV.pur]
theorem uP (st:Store) (l:List PV):rdP st (PV.agg l)=(rdL st l).bind fun ds=>if ds.all PV.isCell=true then some (.agg ds)else none:=by simp only[rdP]
theorem VK (l:List PV):PV.scal (PV.tuple l)=l.all PV.scal1:=nrfl rfl
theorem ZB (l:List PV):PV.pur (PV.tuple l)=AU l:=by simp only[PV.pur]
theorem VL  : PV.cells PV.nilm = [PV.nilm]:=nrfl rfl
theorem VM  : PV.scal1 PV.nilm=true:=nrfl rfl
theorem ZC  : PV.scal PV.nilm=true:=nrfl rfl
theorem gV  : PV.pur PV.nilm=true:=by simp only[PV.pur]
theorem gW (st:Store)  : rdC st PV.nilm=some PV.nilm:=by simp[rdC,PV.pur]
theorem gX (st:Store)  : rdP st PV.nilm=some PV.nilm:=by simp[rdP,rdC,PV.pur]
theorem uQ (st:Store) (k k2:IntKind) (a b:Int):DRx st (.int k a) (.int k2 b)=(k=k2∧a=b):=by rw[DRx]
theorem gY (st:Store) (a b:Bool):DRx st (.bool a) (.bool b)=(a=b):=by rw[DRx]
theorem uR (st:Store) (a b:List UInt8):DRx st (.str a) (.str b)=(a=b):=by rw[DRx]
theorem NU (st:Store) (z:Nat) (l:List PV):DRx st .nils (.lits z l)=(l = []):=by rw[DRx]
theorem NV (st:Store):DRx st .nils .nils=True:=by simp[DRx,PV.pur]
theorem gZ (st:Store) (z y:Nat) (l m:List PV):DRx st (.lits z l) (.lits y m)=(z=y∧l=m∧AU m=true):=by rw[DRx]
theorem uS (st:Store) (i g s n z:Nat) (l:List PV):DRx st (.ref i g s n) (.lits z l)=∃es,st.arr? i g=some (z,es)∧s+n≤es.length∧AU es=true∧(es.drop s).take n=l:=by rw[DRx]
theorem uT (st:Store) (l m:List PV):DRx st (.agg l) (.agg m)=(m.all PV.isCell=true∧DRxL st l m):=by rw[DRx,List.all_eq_true]
theorem ZD (st:Store) (l m:List PV):DRx st (.tuple l) (.tuple m)=DRxL st l m:=by rw[DRx]
theorem ZE (st:Store) (a b:PV) (l m:List PV):DRxL st (a::l) (b::m)=(DRx st a b∧DRxL st l m):=by rw[DRxL]
theorem hZ (st:Store):DRxL st [] []=True:=by rw[DRxL]
theorem Qm {X:Cfg} (hm:Bh X) {N:Nat} {Q Q':IExit→IState→Prop} {c:Code} {s:IState} (h:∀e s,Q e s→Q' e s) (hr:run X N Q c [] s):run X N Q' c [] s:=Ot hm h hr
theorem Abw {P:Program} (hmix:P.follows .mixedOrders=true) {l:AV} (hl:Bp P l) (muts:List Nat) (frz:List Nat) {f:FuncId} {fn:Func} {c:Code} (hf:P.funcs[f]?=some fn) (hb:fn.body=some c)
  (hname : (fn.name == "runtime.NumGoroutine") = false) {args : List PV} {N : Nat} (hN : fn.ntmps = N) (hn : args.length ≤ N) {rs : List ResultVar} (hrs : fn.results.toList = rs) {r : PV} (n : Nat) {dep : Nat}
  (h : AJ args→run (cfg P l muts frz dep) N (Ai P rs (fun p st=>DRx st p r)) c [] ⟨FJ args,stR n⟩):VC P f args r :=
 Vo hmix hl muts frz hf hb hname hN hn hrs n fun hs=>Qm (AX rfl) (fun e s hq=>by
  cases e with
  | normal=>obtain⟨p,h1,h2⟩:=hq;exact⟨p,h1,h2.sound⟩
  | exit i=>exact hq.elim
  | ret=>obtain⟨p,h1,h2⟩:=hq;exact⟨p,h1,h2.sound⟩) (h hs)
end Sim
