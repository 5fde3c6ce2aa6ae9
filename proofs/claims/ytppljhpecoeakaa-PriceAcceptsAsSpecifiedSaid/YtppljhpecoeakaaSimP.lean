/- What symbolic runs are written with: encodings, contracts as table entries, small laws. -/
import Derived.Test.YtppljhpecoeakaaSimO
set_option linter.unusedVariables false
set_option linter.unusedSimpArgs false
namespace Sim
open Go
abbrev I (n:Int):PV:=.int .i64 n
abbrev B (b:Bool):PV:=.bool b
@[reducible] def ints (l:List Int):PV:=.lits 1 (l.map (PV.int .i64))
theorem Ah2 {P:Program} {l:AV} {m f:List Nat} {dp:Nat} {yl:Option (Nat×Fj)} {rnd:Bool}:(cfg P l m f dp yl rnd).P=P:=nrfl rfl
theorem uO {P:Program} {l:AV} {m f:List Nat} {dp:Nat} {yl:Option (Nat×Fj)} {rnd:Bool}:(cfg P l m f dp yl rnd).tab=EG l:=nrfl rfl
theorem fQ {P:Program} {l:AV} {m f:List Nat} {dp:Nat} {yl:Option (Nat×Fj)} {rnd:Bool} {d:Nat}:(cfg P l m f dp yl rnd).muts d=m.contains d:=nrfl rfl
theorem uP {P:Program} {l:AV} {m f:List Nat} {dp:Nat} {yl:Option (Nat×Fj)} {rnd:Bool} {d:Nat}:(cfg P l m f dp yl rnd).num d=JE f d:=nrfl rfl
theorem Zm {d:Nat}:JE [] d=0:=by simp[JE]
theorem fR {f:List Nat} {d:Nat}:JE f d=if f.contains (100000+d)then 1 else if f.contains (200000+d)then 2 else if f.contains (300000+d)then 3 else if f.contains (500000+d)then 4 else 0:=nrfl rfl
theorem uQ {P:Program} {l:AV} {m f:List Nat} {dp:Nat} {yl:Option (Nat×Fj)} {rnd:Bool} {d:Nat}:(cfg P l m f dp yl rnd).frz d=f.contains d:=nrfl rfl
theorem Vq {g f:Nat} {e:Ent} {l:AV} {args:List PV} {st:Store}:EG ((g,e)::l) f args st=if g=f then e.tab args st else EG l f args st:=by
 unfold EG
 by_cases h:g=f
 ·subst h;simp
 ·simp [h]
theorem Ah3 {spec:List PV→Option PV} {args:List PV} {st:Store}:(Ent.v spec).tab args st=Zk spec args st:=nrfl rfl
theorem Ah4 {mk:MK} {spec:List PV→Option (List (PV×PV))} {args:List PV} {st:Store}:(Ent.m mk spec).tab args st=if AU args=true then (spec args).map fun es=>(.mref st.next 0,st.new (.map 0 mk es))else none:=nrfl rfl
theorem Ah5 {z:Nat} {spec:List PV→Option (List PV)} {args:List PV} {st:Store}:(Ent.a z spec).tab args st=if AU args=true then (spec args).map fun es=>(.ref st.next 0 0 es.length,st.new (.arr 0 z es))else none:=nrfl rfl
theorem Ah6 {spec:List PV→Store→Option (PV×Store)} {args:List PV} {st:Store}:(Ent.x spec).tab args st=spec args st:=nrfl rfl
theorem Ah7 {spec:List PV→(Nat→Option IObj)→Option PV} {args:List PV} {st:Store}:(Ent.c spec).tab args st=(spec args st.obj).map fun r=>(r,st):=nrfl rfl
theorem Ah8 {z g:Nat} {spec:List PV→Option (List PV)} {args:List PV} {st:Store}:(Ent.s z g spec).tab args st=Ot z g spec args st:=nrfl rfl
theorem Zn {z g g' id gen n:Nat} {spec:List PV→Option (List PV)} {st:Store}:Ot z g spec [.ref id gen 0 n,.func (.func g') [] []] st=if g'=g then (st.arr? id gen).bind fun a=>if a.1=z∧n=a.2.length then (spec a.2).map fun es'=>(.tuple [],st.set id (.arr gen z es'))else none else none:=nrfl rfl
theorem Vr {z g:Nat} {spec:List PV→Option (List PV)} {st:Store} {p:PV}:Ot z g spec [.nils,p] st=some (.tuple [],st):=nrfl rfl
noncomputable def Ag {ι ω:Type} (A:ι→List PV) (R:ι→ω) (H:ι→Prop) (args:List PV):Option ω :=
 open Classical in if h:∃i,A i=args∧H i then some (R h.choose)else none
theorem Az {ι ω:Type} {A:ι→List PV} {R:ι→ω} {H:ι→Prop} (hinj:∀i j,A i=A j→i=j) {i:ι} (hi:H i):Ag A R H (A i)=some (R i):=by
 unfold Ag
 have h:∃j,A j=A i∧H j:=⟨i,rfl,hi⟩
 rw [dif_pos h,hinj _ _ h.choose_spec.1]
theorem BF {ι ω:Type} {A:ι→List PV} {R:ι→ω} {H:ι→Prop} (hinj:∀i j,A i=A j→i=j) (i:ι):Ag A R H (A i)=@ite (Option ω) (H i) (Classical.propDecidable _) (some (R i)) none:=by
 by_cases h:H i
 ·rw [if_pos h];exact Az hinj h
 ·rw [if_neg h]
  unfold Ag
  rw [dif_neg]
  rintro ⟨j,hj,hh⟩
  rw [hinj _ _ hj]at hh
  exact h hh
theorem Ao {P:Program} {f:FuncId} {ι:Type} {A:ι→List PV} {R:ι→PV} {H:ι→Prop} (hok:∀i,H i→VC P f (A i) (R i)):AM P f (.v (Ag A R H)):=by
 intro args r h
 unfold Ag at h
 split at h
 ·rename_i hx
  simp only[Option.some.injEq]at h;subst h
  have := hok _ hx.choose_spec.2
  rw [hx.choose_spec.1]at this;exact this
 ·cases h
theorem Vs {P:Program} {f:FuncId} {ι:Type} {A:ι→List PV} {z:Nat} {R:ι→List PV} {H:ι→Prop} (hok:∀i,H i→VCA P f (A i) z (R i)):AM P f (.a z (Ag A R H)):=by
 intro args r h
 unfold Ag at h
 split at h
 ·rename_i hx
  simp only[Option.some.injEq]at h;subst h
  have := hok _ hx.choose_spec.2
  rw [hx.choose_spec.1]at this;exact this
 ·cases h
theorem An {P:Program}:Bo P []:=by intro e h;simp at h
theorem Ad {P:Program} {f:Nat} {x:Ent} {l:AV} (h:AM P f x) (hl:Bo P l):Bo P ((f,x)::l):=by
 intro e he
 rcases List.mem_cons.1 he with rfl | he
 ·exact h
 ·exact hl e he
theorem FO {α β:Type} {f:α→β} (hf:∀x y,f x=f y→x=y):∀ {l m:List α},l.map f=m.map f→l=m
 | [],[],_=>rfl
 | [],b::m,h=>by simp at h
 | a::l,[],h=>by simp at h
 | a::l,b::m,h=>by
  simp only[List.map_cons,List.cons.injEq]at h
  rw [hf _ _ h.1,FO hf h.2]
theorem DV {k:IntKind} {l m:List Int}:(l.map (PV.int k)=m.map (PV.int k))=(l=m):=propext ⟨FO fun x y h=>by injection h,fun h=>by rw[h]⟩
theorem Hs {k:IntKind} {l:List Int}:AU (l.map (PV.int k))=true:=Kt fun _=>rfl
theorem fS {l:List (List UInt8)}:AU (l.map PV.str)=true:=Kt fun _=>rfl
theorem inj:True=True:=nrfl rfl
theorem uR {k:IntKind} {l:List Int} {i:Nat} (h:i<l.length):nth (l.map (PV.int k)) i=PV.int k (l.getD i 0):=by simp[nth,h]
theorem uS {l:List (List UInt8)} {i:Nat} (h:i<l.length):nth (l.map PV.str) i=PV.str (l.getD i []):=by simp[nth,h]
theorem fT {a:PV} {l:List PV}:nth (a::l) 0=a:=nrfl rfl
theorem fU {a:PV} {l:List PV} {i:Nat}:nth (a::l) (i+1)=nth l i:=by simp[nth]
theorem Qh {α β:Type} {f:α→β} {l:List α}:(l.map f).take l.length=l.map f:=by rw[←List.length_map (f:=f)];exact List.take_length
def GS (st:Store) (p:PV) (id z:Nat) (es:List PV):Prop:=∃g,p=.ref id g 0 es.length∧st.obj id=some (.arr g z es)
theorem Adb {st:Store} {id' g n id z:Nat} {es:List PV}:GS st (.ref id' g 0 n) id z es=(id'=id∧n=es.length∧st.obj id=some (.arr g z es)):=by
 refine propext ⟨?_,?_⟩
 ·rintro ⟨g',h1,h2⟩;cases h1;exact⟨rfl,rfl,h2⟩
 ·rintro ⟨rfl,rfl,h⟩;exact⟨g,rfl,h⟩
theorem Ou {f:Nat→Option IObj} {id:Nat} {o:Option IObj}:Aa f id o id=o:=by simp[Aa]
theorem Qi {f:Nat→Option IObj} {id i:Nat} {o:Option IObj} (h:(i==id)=false):Aa f id o i=f i:=by
 have : i≠id:=by simpa using h
 simp [Aa,this]
theorem DR.eq {st:Store} {p q:PV} (h:p=q) (hp:q.pur=true):DR st p q:=by rw[h];exact .pure q hp
theorem DR.int {st:Store} {k:IntKind} {a b:Int} (h:a=b):DR st (.int k a) (.int k b):=h▸.pure _ rfl
theorem DR.bool {st:Store} {a b:Bool} (h:a=b):DR st (.bool a) (.bool b):=h▸.pure _ rfl
inductive DRs (st:Store):List PV→List PV→Prop where
 | nil:DRs st [] []
 | cons {a b:PV} {l m:List PV} (h:DR st a b) (hb:b.isCell=true) (t:DRs st l m):DRs st (a::l) (b::m)
theorem DRs.get {st:Store} {l m:List PV} (h:DRs st l m):l.length=m.length∧(∀c∈m,c.isCell=true)∧∀(i:Nat) (c d:PV),l[i]?=some c→m[i]?=some d→DR st c d:=by
 induction h with
 | nil=>exact⟨rfl,by simp,by intro i c d h;simp at h⟩
 | cons h hb t ih =>
  refine ⟨by simp[ih.1],fun c hc=>?_,fun i c d hc hd=>?_⟩
  ·rcases List.mem_cons.1 hc with rfl | hc
   ·exact hb
   ·exact ih.2.1 c hc
  ·cases i with
   | zero=>simp at hc hd;subst hc;subst hd;exact h
   | succ i=>exact ih.2.2 i c d (by simpa using hc) (by simpa using hd)
theorem Af {n:Int} (h1 : -9223372036854775808≤n) (h2:n≤9223372036854775807):IntKind.i64.wrap n=n:=by rw[IntKind.wrap_i64];omega
theorem uT {p:Prop} [Decidable p]:(!decide p)=decide (¬p):=by by_cases h:p <;> simp[h]
def IF (W:List Nat) (ρ0 ρ:Nat→PV):Nat→PV:=fun t=>if W.contains t=true then ρ t else ρ0 t
theorem Sr {W:List Nat} {ρ0 ρ:Nat→PV} {t:Nat} (h:W.contains t=true):IF W ρ0 ρ t=ρ t:=by simp only[IF,h,if_true]
theorem H6 {W:List Nat} {ρ0 ρ:Nat→PV} {t:Nat} (h:W.contains t=false):IF W ρ0 ρ t=ρ0 t:=by simp only[IF,h,Bool.false_eq_true,if_false]
def GT (W:List Nat) (ρ0 ρ:Nat→PV):Prop:=∀t,W.contains t=false→ρ t=ρ0 t
theorem Zo {W:List Nat} {ρ0 ρ:Nat→PV} {t:Nat} {v:PV} (h:W.contains t=true):GT W ρ0 (upd ρ t v)=GT W ρ0 ρ:=by
 refine propext ⟨fun g u hu=>?_,fun g u hu=>?_⟩
 all_goals
  have hne:u≠t:=fun e=>by subst e;rw[h]at hu;cases hu
  have := g u hu
  simpa [upd,hne]using this
theorem Ss {W:List Nat} {ρ0 ρ:Nat→PV}:GT W ρ0 (IF W ρ0 ρ)=True:=eq_true fun t ht=>H6 ht
theorem Vt {W:List Nat} {ρ0:Nat→PV}:GT W ρ0 ρ0=True:=eq_true fun _ _=>rfl
theorem Ht {W:List Nat} {ρ0 ρ:Nat→PV} (h:GT W ρ0 ρ):ρ=IF W ρ0 ρ:=by
 funext t
 cases hc:W.contains t with
 | true=>rw[Sr hc]
 | false=>rw[H6 hc,h t hc]
section
variable {X:Cfg} {N:Nat} {Q:IExit→IState→Prop} {ks:List Kf}
theorem Ar {c:Code} (W:List Nat) (n:Nat) (J:Nat→(Nat→PV)→Store→Prop) {ρ0 ρ1:Nat→PV} {st st1:Store} (hg:Ghost ⟨ρ0,st⟩ ⟨ρ1,st1⟩) (h0:J 0 ρ1 st1)
  (h : ∀k ρ st',k≤n→J k ρ st'→run X N Q c (.lp (fun s''=>k<n∧GT W ρ1 s''.env∧J (k+1) s''.env s''.st)::ks) ⟨IF W ρ1 ρ,st'⟩) (hm:Bh X:=by first | assumption | exact A3 rfl):run X N Q (.loop c) ks ⟨ρ0,st⟩:=by
 refine P6 hm n (fun k s=>GT W ρ1 s.env∧J k s.env s.st) hg ⟨fun _ _=>rfl,h0⟩ ?_
 rintro k ⟨env,st'⟩ hk ⟨ha,hJ⟩
 dsimp only at ha hJ
 have := h k env st' hk hJ
 rwa [←Ht ha]at this
theorem CR {c:Code} (W:List Nat) (n:Nat) (J:Nat→(Nat→PV)→Store→Prop) {ρ0 ρ1:Nat→PV} {st st1:Store} (hg:Ghost ⟨ρ0,st⟩ ⟨ρ1,st1⟩) (h0:J n ρ1 st1)
  (h : ∀m ρ st',J m ρ st'→run X N Q c (.lp (fun s''=>∃m',m'<m∧GT W ρ1 s''.env∧J m' s''.env s''.st)::ks) ⟨IF W ρ1 ρ,st'⟩) (hm:Bh X:=by first | assumption | exact A3 rfl):run X N Q (.loop c) ks ⟨ρ0,st⟩:=by
 refine RY (fun m s=>GT W ρ1 s.env∧J m s.env s.st) n hg ⟨fun _ _=>rfl,h0⟩ ?_
 rintro m ⟨env,st'⟩ ⟨ha,hJ⟩
 dsimp only at ha hJ
 have := Lo hm (fun s'' ⟨m',h1,h2⟩=>(⟨m',h1,s'',.refl _,h2⟩:∃m',m'<m∧∃s3,Ghost s'' s3∧(GT W ρ1 s3.env∧J m' s3.env s3.st))) (h m env st' hJ)
 rwa [←Ht ha]at this
end
mutual
def DRx (st:Store):PV→PV→Prop
 | .int k a,.int k' b=>k=k'∧a=b
 | .bool a,.bool b=>a=b
 | .str a,.str b=>a=b
 | .nils,.lits _ l=>l = []
 | .lits z l,.lits z' m=>z=z'∧l=m∧AU m=true
 | .ref id gen s n,.lits z l=>∃es,st.arr? id gen=some (z,es)∧s+n≤es.length∧AU es=true∧(es.drop s).take n=l
 | .agg cs,.agg ds=>(∀c∈ds,c.isCell=true)∧DRxL st cs ds
 | .tuple cs,.tuple ds=>DRxL st cs ds
 | p,q=>p=q∧q.pur=true
def DRxL (st:Store):List PV→List PV→Prop
 | [],[]=>True
 | a::l,b::m=>DRx st a b∧DRxL st l m
 | _,_=>False
end
theorem Ah9 {st:Store} {id gen s n z:Nat} {es:List PV} (h:st.arr? id gen=some (z,es)) (hn:s+n≤es.length) (hp:AU es=true):DR st (.ref id gen s n) (.lits z ((es.drop s).take n)) :=
 UY (by simp[rdC,h,hn,hp])
mutual
theorem DRx.sound {st:Store}:∀ {p q:PV},DRx st p q→DR st p q
 | .int k a,q,h=>by
  cases q <;> simp only[DRx,reduceCtorEq,false_and]at h
  obtain ⟨rfl,rfl⟩:=h;exact .pure _ rfl
 | .bool a,q,h=>by
  cases q <;> simp only[DRx,reduceCtorEq,false_and]at h
  subst h;exact .pure _ rfl
 | .str a,q,h=>by
  cases q <;> simp only[DRx,reduceCtorEq,false_and]at h
  subst h;exact .pure _ rfl
 | .nils,q,h=>by
  cases q <;> simp only[DRx,reduceCtorEq,false_and]at h
  ·exact .pure _ rfl
  ·subst h;exact .nils _
 | .lits z l,q,h=>by
  cases q <;> simp only[DRx,reduceCtorEq,false_and]at h
  obtain ⟨rfl,rfl,hp⟩:=h;exact .pure _ hp
 | .ref id gen s n,q,h=>by
  cases q <;> simp only[DRx,reduceCtorEq,false_and]at h
  ·obtain ⟨es,h1,h2,h3,rfl⟩:=h;exact Ah9 h1 h2 h3
  ·simp [PV.pur]at h
 | .agg cs,q,h=>by
  cases q <;> simp only[DRx,reduceCtorEq,false_and]at h
  exact .agg _ _ (DRxL.sound h.2).1 h.1 (DRxL.sound h.2).2
 | .tuple cs,q,h=>by
  cases q <;> simp only[DRx,reduceCtorEq,false_and]at h
  exact .tuple _ _ (DRxL.sound h).1 (DRxL.sound h).2
 | .bad,q,h=>by cases q <;> simp only[DRx,reduceCtorEq,false_and]at h <;> simp[PV.pur]at h
 | .nilp,q,h=>by cases q <;> simp only[DRx,reduceCtorEq,false_and]at h;exact .pure _ rfl
 | .ptr ..,q,h=>by cases q <;> simp only[DRx,reduceCtorEq,false_and]at h;simp[PV.pur]at h
 | .vptr ..,q,h=>by cases q <;> simp only[DRx,reduceCtorEq,false_and]at h;rw[h.1];exact .pure _ h.2
 | .func ..,q,h=>by cases q <;> simp only[DRx,reduceCtorEq,false_and]at h;rw[h.1];exact .pure _ h.2
 | .nilf,q,h=>by cases q <;> simp only[DRx,reduceCtorEq,false_and]at h;exact .pure _ rfl
 | .iface ..,q,h=>by cases q <;> simp only[DRx,reduceCtorEq,false_and]at h;rw[h.1];exact .pure _ h.2
 | .nili,q,h=>by cases q <;> simp only[DRx,reduceCtorEq,false_and]at h;exact .pure _ rfl
 | .nilm,q,h=>by cases q <;> simp only[DRx,reduceCtorEq,false_and]at h;exact .pure _ rfl
 | .mref ..,q,h=>by cases q <;> simp only[DRx,reduceCtorEq,false_and]at h;simp[PV.pur]at h
 | .iter ..,q,h=>by cases q <;> simp only[DRx,reduceCtorEq,false_and]at h;simp[PV.pur]at h
theorem DRxL.sound {st:Store}:∀ {l m:List PV},DRxL st l m→l.length=m.length∧∀(i:Nat) (c d:PV),l[i]?=some c→m[i]?=some d→DR st c d
 | [],m,h=>by
  cases m <;> simp only[DRxL]at h
  exact ⟨rfl,by intro i c d h;simp at h⟩
 | a::l,m,h=>by
  cases m <;> simp only[DRxL]at h
  obtain ⟨h1,h2⟩:=DRxL.sound h.2
  refine ⟨by simp[h1],fun i c d hc hd=>?_⟩
  cases i with
  | zero=>simp at hc hd;subst hc;subst hd;exact DRx.sound h.1
  | succ i=>exact h2 i c d (by simpa using hc) (by simpa using hd)
end
theorem Vu (b:Bool):PV.cells (PV.bool b) = [(PV.bool b)]:=nrfl rfl
theorem Vv (b:Bool):PV.scal1 (PV.bool b)=true:=nrfl rfl
theorem Zp (b:Bool):PV.scal (PV.bool b)=true:=nrfl rfl
theorem fV (b:Bool):PV.pur (PV.bool b)=true:=by simp only[PV.pur]
theorem fW (st:Store) (b:Bool):rdC st (PV.bool b)=some (PV.bool b):=by simp[rdC,PV.pur]
theorem fX (st:Store) (b:Bool):rdP st (PV.bool b)=some (PV.bool b):=by simp[rdP,rdC,PV.pur]
theorem St (b:Bool):PV.isCell (PV.bool b)=true:=nrfl rfl
theorem Zq (k:IntKind) (n:Int):PV.cells (PV.int k n) = [(PV.int k n)]:=nrfl rfl
theorem Zr (k:IntKind) (n:Int):PV.scal1 (PV.int k n)=true:=nrfl rfl
theorem fY (k:IntKind) (n:Int):PV.scal (PV.int k n)=true:=nrfl rfl
theorem Ft (k:IntKind) (n:Int):PV.pur (PV.int k n)=true:=by simp only[PV.pur]
theorem uU (st:Store) (k:IntKind) (n:Int):rdC st (PV.int k n)=some (PV.int k n):=by simp[rdC,PV.pur]
theorem uV (st:Store) (k:IntKind) (n:Int):rdP st (PV.int k n)=some (PV.int k n):=by simp[rdP,rdC,PV.pur]
theorem Vw (k:IntKind) (n:Int):PV.isCell (PV.int k n)=true:=nrfl rfl
theorem Zs (s:List UInt8):PV.cells (PV.str s) = [(PV.str s)]:=nrfl rfl
theorem Zt (s:List UInt8):PV.scal1 (PV.str s)=true:=nrfl rfl
theorem fZ (s:List UInt8):PV.scal (PV.str s)=true:=nrfl rfl
theorem uW (s:List UInt8):PV.pur (PV.str s)=true:=by simp only[PV.pur]
theorem uX (st:Store) (s:List UInt8):rdC st (PV.str s)=some (PV.str s):=by simp[rdC,PV.pur]
theorem uY (st:Store) (s:List UInt8):rdP st (PV.str s)=some (PV.str s):=by simp[rdP,rdC,PV.pur]
theorem Vx (s:List UInt8):PV.isCell (PV.str s)=true:=nrfl rfl
theorem Vy  : PV.cells PV.nilp = [PV.nilp]:=nrfl rfl
theorem Vz  : PV.scal1 PV.nilp=true:=nrfl rfl
theorem Zu  : PV.scal PV.nilp=true:=nrfl rfl
theorem gB  : PV.pur PV.nilp=true:=by simp only[PV.pur]
theorem gC (st:Store)  : rdC st PV.nilp=some PV.nilp:=by simp[rdC,PV.pur]
theorem gD (st:Store)  : rdP st PV.nilp=some PV.nilp:=by simp[rdP,rdC,PV.pur]
theorem Zv (i g x o:Nat):PV.cells (PV.ptr i g x o) = [(PV.ptr i g x o)]:=nrfl rfl
theorem VA (cs:List PV) (o:Nat):PV.cells (PV.vptr cs o) = [(PV.vptr cs o)]:=nrfl rfl
theorem Su (cs:List PV) (o:Nat):PV.pur (PV.vptr cs o)=AU cs:=by simp only[PV.pur]
theorem gE (st:Store) (cs:List PV) (o:Nat):rdC st (PV.vptr cs o)=if AU cs=true then some (PV.vptr cs o)else none:=by simp only[rdC,PV.pur];congr
theorem gF (st:Store) (cs:List PV) (o:Nat):rdP st (PV.vptr cs o)=if AU cs=true then some (PV.vptr cs o)else none:=by simp only[rdP,rdC,PV.pur];congr
theorem VB  : PV.cells PV.nils = [PV.nils]:=nrfl rfl
theorem VD  : PV.scal1 PV.nils=true:=nrfl rfl
theorem Zw  : PV.scal PV.nils=true:=nrfl rfl
theorem gG  : PV.pur PV.nils=true:=by simp only[PV.pur]
theorem gH (st:Store)  : rdC st PV.nils=some PV.nils:=by simp[rdC,PV.pur]
theorem gI (st:Store)  : rdP st PV.nils=some PV.nils:=by simp[rdP,rdC,PV.pur]
theorem Sv  : PV.isCell PV.nils=true:=nrfl rfl
theorem VE (z:Nat) (l:List PV):PV.cells (PV.lits z l) = [(PV.lits z l)]:=nrfl rfl
theorem VF (z:Nat) (l:List PV):PV.scal1 (PV.lits z l)=false:=nrfl rfl
theorem Zx (z:Nat) (l:List PV):PV.scal (PV.lits z l)=false:=nrfl rfl
theorem Mn (z:Nat) (l:List PV):PV.pur (PV.lits z l)=AU l:=by simp only[PV.pur]
theorem gJ (st:Store) (z:Nat) (l:List PV):rdC st (PV.lits z l)=if AU l=true then some (PV.lits z l)else none:=by simp only[rdC,PV.pur];congr
theorem gL (st:Store) (z:Nat) (l:List PV):rdP st (PV.lits z l)=if AU l=true then some (PV.lits z l)else none:=by simp only[rdP,rdC,PV.pur];congr
theorem Sw (z:Nat) (l:List PV):PV.isCell (PV.lits z l)=true:=nrfl rfl
theorem Zy (i g s n:Nat):PV.cells (PV.ref i g s n) = [(PV.ref i g s n)]:=nrfl rfl
theorem uZ (i g s n:Nat):PV.pur (PV.ref i g s n)=false:=by simp only[PV.pur]
theorem Zz (i g s n:Nat):PV.scal1 (PV.ref i g s n)=false:=nrfl rfl
theorem vA (st:Store) (i g s n:Nat):rdC st (PV.ref i g s n)=(st.arr? i g).bind fun q=>if s+n≤q.2.length∧AU q.2=true then some (.lits q.1 ((q.2.drop s).take n))else none:=by simp only[rdC]
theorem vB (st:Store) (i g s n:Nat):rdP st (PV.ref i g s n)=(st.arr? i g).bind fun q=>if s+n≤q.2.length∧AU q.2=true then some (.lits q.1 ((q.2.drop s).take n))else none:=by simp only[rdP,rdC]
theorem VG (f:Fn) (a b:List PV):PV.cells (PV.func f a b) = [(PV.func f a b)]:=nrfl rfl
theorem Sx (f:Fn) (a b:List PV):PV.pur (PV.func f a b)=(AU a&&AU b):=by simp only[PV.pur]
theorem gM (st:Store) (f:Fn) (a b:List PV):rdC st (PV.func f a b)=if (AU a&&AU b)=true then some (PV.func f a b)else none:=by simp only[rdC,PV.pur];congr
theorem gQ (st:Store) (f:Fn) (a b:List PV):rdP st (PV.func f a b)=if (AU a&&AU b)=true then some (PV.func f a b)else none:=by simp only[rdP,rdC,PV.pur];congr
theorem VH  : PV.cells PV.nilf = [PV.nilf]:=nrfl rfl
theorem VI  : PV.scal1 PV.nilf=true:=nrfl rfl
theorem ZA  : PV.scal PV.nilf=true:=nrfl rfl
theorem gR  : PV.pur PV.nilf=true:=by simp only[PV.pur]
theorem gT (st:Store)  : rdC st PV.nilf=some PV.nilf:=by simp[rdC,PV.pur]
theorem gU (st:Store)  : rdP st PV.nilf=some PV.nilf:=by simp[rdP,rdC,PV.pur]
theorem Sy  : PV.isCell PV.nilf=true:=nrfl rfl
theorem Sz (t:TypeId) (v:PV):PV.cells (PV.iface t v) = [(PV.iface t v)]:=nrfl rfl
theorem VJ  : PV.cells PV.nili = [PV.nili]:=nrfl rfl
theorem VK  : PV.scal1 PV.nili=true:=nrfl rfl
theorem ZB  : PV.scal PV.nili=true:=nrfl rfl
theorem gV  : PV.pur PV.nili=true:=by simp only[PV.pur]
theorem gW (st:Store)  : rdC st PV.nili=some PV.nili:=by simp[rdC,PV.pur]
theorem gX (st:Store)  : rdP st PV.nili=some PV.nili:=by simp[rdP,rdC,PV.pur]
theorem SA  : PV.isCell PV.nili=true:=nrfl rfl
theorem ZC (l:List PV):PV.cells (PV.agg l)=l:=nrfl rfl
theorem gY (l:List PV):PV.scal (PV.agg l)=l.all PV.scal1:=nrfl rfl
theorem JF (l:List PV):PV.pur (PV.agg l)=AU l:=by simp only[PV.pur]
theorem vC (st:Store) (l:List PV):rdP st (PV.agg l)=(rdL st l).bind fun ds=>if ds.all PV.isCell=true then some (.agg ds)else none:=by simp only[rdP]
theorem VL (l:List PV):PV.scal (PV.tuple l)=l.all PV.scal1:=nrfl rfl
theorem ZD (l:List PV):PV.pur (PV.tuple l)=AU l:=by simp only[PV.pur]
theorem VM  : PV.cells PV.nilm = [PV.nilm]:=nrfl rfl
theorem VN  : PV.scal1 PV.nilm=true:=nrfl rfl
theorem ZE  : PV.scal PV.nilm=true:=nrfl rfl
theorem gZ  : PV.pur PV.nilm=true:=by simp only[PV.pur]
theorem hZ (st:Store)  : rdC st PV.nilm=some PV.nilm:=by simp[rdC,PV.pur]
theorem iA (st:Store)  : rdP st PV.nilm=some PV.nilm:=by simp[rdP,rdC,PV.pur]
theorem vD (st:Store) (k k2:IntKind) (a b:Int):DRx st (.int k a) (.int k2 b)=(k=k2∧a=b):=by rw[DRx]
theorem iB (st:Store) (a b:Bool):DRx st (.bool a) (.bool b)=(a=b):=by rw[DRx]
theorem vE (st:Store) (a b:List UInt8):DRx st (.str a) (.str b)=(a=b):=by rw[DRx]
theorem NM (st:Store) (z:Nat) (l:List PV):DRx st .nils (.lits z l)=(l = []):=by rw[DRx]
theorem NN (st:Store):DRx st .nils .nils=True:=by simp[DRx,PV.pur]
theorem iC (st:Store) (z y:Nat) (l m:List PV):DRx st (.lits z l) (.lits y m)=(z=y∧l=m∧AU m=true):=by rw[DRx]
theorem vF (st:Store) (i g s n z:Nat) (l:List PV):DRx st (.ref i g s n) (.lits z l)=∃es,st.arr? i g=some (z,es)∧s+n≤es.length∧AU es=true∧(es.drop s).take n=l:=by rw[DRx]
theorem vG (st:Store) (l m:List PV):DRx st (.agg l) (.agg m)=(m.all PV.isCell=true∧DRxL st l m):=by rw[DRx,List.all_eq_true]
theorem ZF (st:Store) (l m:List PV):DRx st (.tuple l) (.tuple m)=DRxL st l m:=by rw[DRx]
theorem ZG (st:Store) (a b:PV) (l m:List PV):DRxL st (a::l) (b::m)=(DRx st a b∧DRxL st l m):=by rw[DRxL]
theorem iD (st:Store):DRxL st [] []=True:=by rw[DRxL]
theorem Qj {X:Cfg} (hm:Bh X) {N:Nat} {Q Q':IExit→IState→Prop} {c:Code} {s:IState} (h:∀e s,Q e s→Q' e s) (hr:run X N Q c [] s):run X N Q' c [] s:=Oi hm h hr
theorem Acb {P:Program} (hmix:P.follows .mixedOrders=true) {l:AV} (hl:Bo P l) (muts:List Nat) (frz:List Nat) {f:FuncId} {fn:Func} {c:Code} (hf:P.funcs[f]?=some fn) (hb:fn.body=some c)
  (hname : (fn.name == "runtime.NumGoroutine") = false) {args : List PV} {N : Nat} (hN : fn.ntmps = N) (hn : args.length ≤ N) {rs : List ResultVar} (hrs : fn.results.toList = rs) {r : PV} (n : Nat) {dep : Nat}
  (h : AH args→run (cfg P l muts frz dep) N (Ai P rs (fun p st=>DRx st p r)) c [] ⟨FC args,stR n⟩):VC P f args r :=
 Vp hmix hl muts frz hf hb hname hN hn hrs n fun hs=>Qj (A3 rfl) (fun e s hq=>by
  cases e with
  | normal=>obtain⟨p,h1,h2⟩:=hq;exact⟨p,h1,h2.sound⟩
  | exit i=>exact hq.elim
  | ret=>obtain⟨p,h1,h2⟩:=hq;exact⟨p,h1,h2.sound⟩) (h hs)
end Sim
