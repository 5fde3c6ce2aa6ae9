/- What symbolic runs are written with: encodings, contracts as table entries, small laws. -/
import Derived.Test.YtppljhpecoeakaaSimO
set_option linter.unusedVariables false
set_option linter.unusedSimpArgs false
namespace Sim
open Go
abbrev I (n:Int):PV:=.int .i64 n
abbrev B (b:Bool):PV:=.bool b
@[reducible] def ints (l:List Int):PV:=.lits 1 (l.map (PV.int .i64))
theorem Acv {P:Program} {l:AM} {m f:List Nat} {dp:Nat} {yl:Option (Nat×ES)} {rnd:Bool}:(cfg P l m f dp yl rnd).P=P:=nrfl rfl
theorem nZ {P:Program} {l:AM} {m f:List Nat} {dp:Nat} {yl:Option (Nat×ES)} {rnd:Bool}:(cfg P l m f dp yl rnd).tab=Er l:=nrfl rfl
theorem aG {P:Program} {l:AM} {m f:List Nat} {dp:Nat} {yl:Option (Nat×ES)} {rnd:Bool} {d:Nat}:(cfg P l m f dp yl rnd).muts d=m.contains d:=nrfl rfl
theorem oA {P:Program} {l:AM} {m f:List Nat} {dp:Nat} {yl:Option (Nat×ES)} {rnd:Bool} {d:Nat}:(cfg P l m f dp yl rnd).num d=Ji f d:=nrfl rfl
theorem XB {d:Nat}:Ji [] d=0:=by simp[Ji]
theorem aH {f:List Nat} {d:Nat}:Ji f d=if f.contains (100000+d)then 1 else if f.contains (200000+d)then 2 else if f.contains (300000+d)then 3 else if f.contains (500000+d)then 4 else 0:=nrfl rfl
theorem oB {P:Program} {l:AM} {m f:List Nat} {dp:Nat} {yl:Option (Nat×ES)} {rnd:Bool} {d:Nat}:(cfg P l m f dp yl rnd).frz d=f.contains d:=nrfl rfl
theorem TW {g f:Nat} {e:Ent} {l:AM} {args:List PV} {st:Store}:Er ((g,e)::l) f args st=if g=f then e.tab args st else Er l f args st:=by
 unfold Er
 by_cases h:g=f
 ·subst h;simp
 ·simp [h]
theorem Acw {spec:List PV→Option PV} {args:List PV} {st:Store}:(Ent.v spec).tab args st=Xz spec args st:=nrfl rfl
theorem Acx {mk:MK} {spec:List PV→Option (List (PV×PV))} {args:List PV} {st:Store}:(Ent.m mk spec).tab args st=if AL args=true then (spec args).map fun es=>(.mref st.next 0,st.new (.map 0 mk es))else none:=nrfl rfl
theorem Acy {z:Nat} {spec:List PV→Option (List PV)} {args:List PV} {st:Store}:(Ent.a z spec).tab args st=if AL args=true then (spec args).map fun es=>(.ref st.next 0 0 es.length,st.new (.arr 0 z es))else none:=nrfl rfl
theorem Acz {spec:List PV→Store→Option (PV×Store)} {args:List PV} {st:Store}:(Ent.x spec).tab args st=spec args st:=nrfl rfl
theorem Ac0 {spec:List PV→(Nat→Option IObj)→Option PV} {args:List PV} {st:Store}:(Ent.c spec).tab args st=(spec args st.obj).map fun r=>(r,st):=nrfl rfl
theorem Ac1 {z g:Nat} {spec:List PV→Option (List PV)} {args:List PV} {st:Store}:(Ent.s z g spec).tab args st=NQ z g spec args st:=nrfl rfl
theorem XC {z g g' id gen n:Nat} {spec:List PV→Option (List PV)} {st:Store}:NQ z g spec [.ref id gen 0 n,.func (.func g') [] []] st=if g'=g then (st.arr? id gen).bind fun a=>if a.1=z∧n=a.2.length then (spec a.2).map fun es'=>(.tuple [],st.set id (.arr gen z es'))else none else none:=nrfl rfl
theorem TX {z g:Nat} {spec:List PV→Option (List PV)} {st:Store} {p:PV}:NQ z g spec [.nils,p] st=some (.tuple [],st):=nrfl rfl
noncomputable def Al {ι ω:Type} (A:ι→List PV) (R:ι→ω) (H:ι→Prop) (args:List PV):Option ω :=
 open Classical in if h:∃i,A i=args∧H i then some (R h.choose)else none
theorem AD {ι ω:Type} {A:ι→List PV} {R:ι→ω} {H:ι→Prop} (hinj:∀i j,A i=A j→i=j) {i:ι} (hi:H i):Al A R H (A i)=some (R i):=by
 unfold Al
 have h:∃j,A j=A i∧H j:=⟨i,rfl,hi⟩
 rw [dif_pos h,hinj _ _ h.choose_spec.1]
theorem Cm {ι ω:Type} {A:ι→List PV} {R:ι→ω} {H:ι→Prop} (hinj:∀i j,A i=A j→i=j) (i:ι):Al A R H (A i)=@ite (Option ω) (H i) (Classical.propDecidable _) (some (R i)) none:=by
 by_cases h:H i
 ·rw [if_pos h];exact AD hinj h
 ·rw [if_neg h]
  unfold Al
  rw [dif_neg]
  rintro ⟨j,hj,hh⟩
  rw [hinj _ _ hj]at hh
  exact h hh
theorem Ay {P:Program} {f:FuncId} {ι:Type} {A:ι→List PV} {R:ι→PV} {H:ι→Prop} (hok:∀i,H i→VC P f (A i) (R i)):AT P f (.v (Al A R H)):=by
 intro args r h
 unfold Al at h
 split at h
 ·rename_i hx
  simp only[Option.some.injEq]at h;subst h
  have := hok _ hx.choose_spec.2
  rw [hx.choose_spec.1]at this;exact this
 ·cases h
theorem TY {P:Program} {f:FuncId} {ι:Type} {A:ι→List PV} {z:Nat} {R:ι→List PV} {H:ι→Prop} (hok:∀i,H i→VCA P f (A i) z (R i)):AT P f (.a z (Al A R H)):=by
 intro args r h
 unfold Al at h
 split at h
 ·rename_i hx
  simp only[Option.some.injEq]at h;subst h
  have := hok _ hx.choose_spec.2
  rw [hx.choose_spec.1]at this;exact this
 ·cases h
theorem At {P:Program}:Bi P []:=by intro e h;simp at h
theorem Ae {P:Program} {f:Nat} {x:Ent} {l:AM} (h:AT P f x) (hl:Bi P l):Bi P ((f,x)::l):=by
 intro e he
 rcases List.mem_cons.1 he with rfl | he
 ·exact h
 ·exact hl e he
theorem Fx {α β:Type} {f:α→β} (hf:∀x y,f x=f y→x=y):∀ {l m:List α},l.map f=m.map f→l=m
 | [],[],_=>rfl
 | [],b::m,h=>by simp at h
 | a::l,[],h=>by simp at h
 | a::l,b::m,h=>by
  simp only[List.map_cons,List.cons.injEq]at h
  rw [hf _ _ h.1,Fx hf h.2]
theorem DF {k:IntKind} {l m:List Int}:(l.map (PV.int k)=m.map (PV.int k))=(l=m):=propext ⟨Fx fun x y h=>by injection h,fun h=>by rw[h]⟩
theorem Hb {k:IntKind} {l:List Int}:AL (l.map (PV.int k))=true:=J0 fun _=>rfl
theorem aI {l:List (List UInt8)}:AL (l.map PV.str)=true:=J0 fun _=>rfl
theorem inj:True=True:=nrfl rfl
theorem oC {k:IntKind} {l:List Int} {i:Nat} (h:i<l.length):nth (l.map (PV.int k)) i=PV.int k (l.getD i 0):=by simp[nth,h]
theorem oD {l:List (List UInt8)} {i:Nat} (h:i<l.length):nth (l.map PV.str) i=PV.str (l.getD i []):=by simp[nth,h]
theorem aJ {a:PV} {l:List PV}:nth (a::l) 0=a:=nrfl rfl
theorem aK {a:PV} {l:List PV} {i:Nat}:nth (a::l) (i+1)=nth l i:=by simp[nth]
theorem OY {α β:Type} {f:α→β} {l:List α}:(l.map f).take l.length=l.map f:=by rw[←List.length_map (f:=f)];exact List.take_length
def GS (st:Store) (p:PV) (id z:Nat) (es:List PV):Prop:=∃g,p=.ref id g 0 es.length∧st.obj id=some (.arr g z es)
theorem xM {st:Store} {id' g n id z:Nat} {es:List PV}:GS st (.ref id' g 0 n) id z es=(id'=id∧n=es.length∧st.obj id=some (.arr g z es)):=by
 refine propext ⟨?_,?_⟩
 ·rintro ⟨g',h1,h2⟩;cases h1;exact⟨rfl,rfl,h2⟩
 ·rintro ⟨rfl,rfl,h⟩;exact⟨g,rfl,h⟩
theorem NR {f:Nat→Option IObj} {id:Nat} {o:Option IObj}:Aa f id o id=o:=by simp[Aa]
theorem OZ {f:Nat→Option IObj} {id i:Nat} {o:Option IObj} (h:(i==id)=false):Aa f id o i=f i:=by
 have : i≠id:=by simpa using h
 simp [Aa,this]
theorem DR.eq {st:Store} {p q:PV} (h:p=q) (hp:q.pur=true):DR st p q:=by rw[h];exact .pure q hp
theorem DR.int {st:Store} {k:IntKind} {a b:Int} (h:a=b):DR st (.int k a) (.int k b):=h▸.pure _ rfl
theorem DR.bool {st:Store} {a b:Bool} (h:a=b):DR st (.bool a) (.bool b):=h▸.pure _ rfl
inductive DRs (st:Store):List PV→List PV→Prop where
 | nil:DRs st [] []
 | cons {a b:PV} {l m:List PV} (h:DR st a b) (hb:b.isCell=true) (t:DRs st l m):DRs st (a::l) (b::m)
theorem DRs.get {st:Store} {l m:List PV} (h:DRs st l m):l.length=m.length∧(∀c∈m,c.isCell=true)∧∀(i:Nat) (c d:PV),l[i]?=some c→m[i]?=some d→DR st c d:=by
 induction h with
 | nil=>exact⟨rfl,by simp,by intro i c d h;simp at h⟩
 | cons h hb t ih =>
  refine ⟨by simp[ih.1],fun c hc=>?_,fun i c d hc hd=>?_⟩
  ·rcases List.mem_cons.1 hc with rfl | hc
   ·exact hb
   ·exact ih.2.1 c hc
  ·cases i with
   | zero=>simp at hc hd;subst hc;subst hd;exact h
   | succ i=>exact ih.2.2 i c d (by simpa using hc) (by simpa using hd)
theorem Ah {n:Int} (h1 : -9223372036854775808≤n) (h2:n≤9223372036854775807):IntKind.i64.wrap n=n:=by rw[IntKind.wrap_i64];omega
theorem oE {p:Prop} [Decidable p]:(!decide p)=decide (¬p):=by by_cases h:p <;> simp[h]
def If (W:List Nat) (ρ0 ρ:Nat→PV):Nat→PV:=fun t=>if W.contains t=true then ρ t else ρ0 t
theorem Rn {W:List Nat} {ρ0 ρ:Nat→PV} {t:Nat} (h:W.contains t=true):If W ρ0 ρ t=ρ t:=by simp only[If,h,if_true]
theorem HJ {W:List Nat} {ρ0 ρ:Nat→PV} {t:Nat} (h:W.contains t=false):If W ρ0 ρ t=ρ0 t:=by simp only[If,h,Bool.false_eq_true,if_false]
def Gt (W:List Nat) (ρ0 ρ:Nat→PV):Prop:=∀t,W.contains t=false→ρ t=ρ0 t
theorem XD {W:List Nat} {ρ0 ρ:Nat→PV} {t:Nat} {v:PV} (h:W.contains t=true):Gt W ρ0 (upd ρ t v)=Gt W ρ0 ρ:=by
 refine propext ⟨fun g u hu=>?_,fun g u hu=>?_⟩
 all_goals
  have hne:u≠t:=fun e=>by subst e;rw[h]at hu;cases hu
  have := g u hu
  simpa [upd,hne]using this
theorem Ro {W:List Nat} {ρ0 ρ:Nat→PV}:Gt W ρ0 (If W ρ0 ρ)=True:=eq_true fun t ht=>HJ ht
theorem TZ {W:List Nat} {ρ0:Nat→PV}:Gt W ρ0 ρ0=True:=eq_true fun _ _=>rfl
theorem Hc {W:List Nat} {ρ0 ρ:Nat→PV} (h:Gt W ρ0 ρ):ρ=If W ρ0 ρ:=by
 funext t
 cases hc:W.contains t with
 | true=>rw[Rn hc]
 | false=>rw[HJ hc,h t hc]
section
variable {X:Cfg} {N:Nat} {Q:IExit→IState→Prop} {ks:List Kf}
theorem Az {c:Code} (W:List Nat) (n:Nat) (J:Nat→(Nat→PV)→Store→Prop) {ρ0 ρ1:Nat→PV} {st st1:Store} (hg:Ghost ⟨ρ0,st⟩ ⟨ρ1,st1⟩) (h0:J 0 ρ1 st1)
  (h : ∀k ρ st',k≤n→J k ρ st'→run X N Q c (.lp (fun s''=>k<n∧Gt W ρ1 s''.env∧J (k+1) s''.env s''.st)::ks) ⟨If W ρ1 ρ,st'⟩) (hm:Bb X:=by first | assumption | exact AQ rfl):run X N Q (.loop c) ks ⟨ρ0,st⟩:=by
 refine ON hm n (fun k s=>Gt W ρ1 s.env∧J k s.env s.st) hg ⟨fun _ _=>rfl,h0⟩ ?_
 rintro k ⟨env,st'⟩ hk ⟨ha,hJ⟩
 dsimp only at ha hJ
 have := h k env st' hk hJ
 rwa [←Hc ha]at this
theorem CE {c:Code} (W:List Nat) (n:Nat) (J:Nat→(Nat→PV)→Store→Prop) {ρ0 ρ1:Nat→PV} {st st1:Store} (hg:Ghost ⟨ρ0,st⟩ ⟨ρ1,st1⟩) (h0:J n ρ1 st1)
  (h : ∀m ρ st',J m ρ st'→run X N Q c (.lp (fun s''=>∃m',m'<m∧Gt W ρ1 s''.env∧J m' s''.env s''.st)::ks) ⟨If W ρ1 ρ,st'⟩) (hm:Bb X:=by first | assumption | exact AQ rfl):run X N Q (.loop c) ks ⟨ρ0,st⟩:=by
 refine QX (fun m s=>Gt W ρ1 s.env∧J m s.env s.st) n hg ⟨fun _ _=>rfl,h0⟩ ?_
 rintro m ⟨env,st'⟩ ⟨ha,hJ⟩
 dsimp only at ha hJ
 have := KR hm (fun s'' ⟨m',h1,h2⟩=>(⟨m',h1,s'',.refl _,h2⟩:∃m',m'<m∧∃s3,Ghost s'' s3∧(Gt W ρ1 s3.env∧J m' s3.env s3.st))) (h m env st' hJ)
 rwa [←Hc ha]at this
end
mutual
def DRx (st:Store):PV→PV→Prop
 | .int k a,.int k' b=>k=k'∧a=b
 | .bool a,.bool b=>a=b
 | .str a,.str b=>a=b
 | .nils,.lits _ l=>l = []
 | .lits z l,.lits z' m=>z=z'∧l=m∧AL m=true
 | .ref id gen s n,.lits z l=>∃es,st.arr? id gen=some (z,es)∧s+n≤es.length∧AL es=true∧(es.drop s).take n=l
 | .agg cs,.agg ds=>(∀c∈ds,c.isCell=true)∧DRxL st cs ds
 | .tuple cs,.tuple ds=>DRxL st cs ds
 | p,q=>p=q∧q.pur=true
def DRxL (st:Store):List PV→List PV→Prop
 | [],[]=>True
 | a::l,b::m=>DRx st a b∧DRxL st l m
 | _,_=>False
end
theorem Ac2 {st:Store} {id gen s n z:Nat} {es:List PV} (h:st.arr? id gen=some (z,es)) (hn:s+n≤es.length) (hp:AL es=true):DR st (.ref id gen s n) (.lits z ((es.drop s).take n)) :=
 Tt (by simp[rdC,h,hn,hp])
mutual
theorem DRx.sound {st:Store}:∀ {p q:PV},DRx st p q→DR st p q
 | .int k a,q,h=>by
  cases q <;> simp only[DRx,reduceCtorEq,false_and]at h
  obtain ⟨rfl,rfl⟩:=h;exact .pure _ rfl
 | .bool a,q,h=>by
  cases q <;> simp only[DRx,reduceCtorEq,false_and]at h
  subst h;exact .pure _ rfl
 | .str a,q,h=>by
  cases q <;> simp only[DRx,reduceCtorEq,false_and]at h
  subst h;exact .pure _ rfl
 | .nils,q,h=>by
  cases q <;> simp only[DRx,reduceCtorEq,false_and]at h
  ·exact .pure _ rfl
  ·subst h;exact .nils _
 | .lits z l,q,h=>by
  cases q <;> simp only[DRx,reduceCtorEq,false_and]at h
  obtain ⟨rfl,rfl,hp⟩:=h;exact .pure _ hp
 | .ref id gen s n,q,h=>by
  cases q <;> simp only[DRx,reduceCtorEq,false_and]at h
  ·obtain ⟨es,h1,h2,h3,rfl⟩:=h;exact Ac2 h1 h2 h3
  ·simp [PV.pur]at h
 | .agg cs,q,h=>by
  cases q <;> simp only[DRx,reduceCtorEq,false_and]at h
  exact .agg _ _ (DRxL.sound h.2).1 h.1 (DRxL.sound h.2).2
 | .tuple cs,q,h=>by
  cases q <;> simp only[DRx,reduceCtorEq,false_and]at h
  exact .tuple _ _ (DRxL.sound h).1 (DRxL.sound h).2
 | .bad,q,h=>by cases q <;> simp only[DRx,reduceCtorEq,false_and]at h <;> simp[PV.pur]at h
 | .nilp,q,h=>by cases q <;> simp only[DRx,reduceCtorEq,false_and]at h;exact .pure _ rfl
 | .ptr ..,q,h=>by cases q <;> simp only[DRx,reduceCtorEq,false_and]at h;simp[PV.pur]at h
 | .vptr ..,q,h=>by cases q <;> simp only[DRx,reduceCtorEq,false_and]at h;rw[h.1];exact .pure _ h.2
 | .func ..,q,h=>by cases q <;> simp only[DRx,reduceCtorEq,false_and]at h;rw[h.1];exact .pure _ h.2
 | .nilf,q,h=>by cases q <;> simp only[DRx,reduceCtorEq,false_and]at h;exact .pure _ rfl
 | .iface ..,q,h=>by cases q <;> simp only[DRx,reduceCtorEq,false_and]at h;rw[h.1];exact .pure _ h.2
 | .nili,q,h=>by cases q <;> simp only[DRx,reduceCtorEq,false_and]at h;exact .pure _ rfl
 | .nilm,q,h=>by cases q <;> simp only[DRx,reduceCtorEq,false_and]at h;exact .pure _ rfl
 | .mref ..,q,h=>by cases q <;> simp only[DRx,reduceCtorEq,false_and]at h;simp[PV.pur]at h
 | .iter ..,q,h=>by cases q <;> simp only[DRx,reduceCtorEq,false_and]at h;simp[PV.pur]at h
theorem DRxL.sound {st:Store}:∀ {l m:List PV},DRxL st l m→l.length=m.length∧∀(i:Nat) (c d:PV),l[i]?=some c→m[i]?=some d→DR st c d
 | [],m,h=>by
  cases m <;> simp only[DRxL]at h
  exact ⟨rfl,by intro i c d h;simp at h⟩
 | a::l,m,h=>by
  cases m <;> simp only[DRxL]at h
  obtain ⟨h1,h2⟩:=DRxL.sound h.2
  refine ⟨by simp[h1],fun i c d hc hd=>?_⟩
  cases i with
  | zero=>simp at hc hd;subst hc;subst hd;exact DRx.sound h.1
  | succ i=>exact h2 i c d (by simpa using hc) (by simpa using hd)
end
theorem T0 (b:Bool):PV.cells (PV.bool b) = [(PV.bool b)]:=nrfl rfl
theorem T1 (b:Bool):PV.scal1 (PV.bool b)=true:=nrfl rfl
theorem XE (b:Bool):PV.scal (PV.bool b)=true:=nrfl rfl
theorem aM (b:Bool):PV.pur (PV.bool b)=true:=by simp only[PV.pur]
theorem aN (st:Store) (b:Bool):rdC st (PV.bool b)=some (PV.bool b):=by simp[rdC,PV.pur]
theorem aQ (st:Store) (b:Bool):rdP st (PV.bool b)=some (PV.bool b):=by simp[rdP,rdC,PV.pur]
theorem Rp (b:Bool):PV.isCell (PV.bool b)=true:=nrfl rfl
theorem XF (k:IntKind) (n:Int):PV.cells (PV.int k n) = [(PV.int k n)]:=nrfl rfl
theorem XG (k:IntKind) (n:Int):PV.scal1 (PV.int k n)=true:=nrfl rfl
theorem aR (k:IntKind) (n:Int):PV.scal (PV.int k n)=true:=nrfl rfl
theorem Fa (k:IntKind) (n:Int):PV.pur (PV.int k n)=true:=by simp only[PV.pur]
theorem oF (st:Store) (k:IntKind) (n:Int):rdC st (PV.int k n)=some (PV.int k n):=by simp[rdC,PV.pur]
theorem oG (st:Store) (k:IntKind) (n:Int):rdP st (PV.int k n)=some (PV.int k n):=by simp[rdP,rdC,PV.pur]
theorem T3 (k:IntKind) (n:Int):PV.isCell (PV.int k n)=true:=nrfl rfl
theorem XH (s:List UInt8):PV.cells (PV.str s) = [(PV.str s)]:=nrfl rfl
theorem XI (s:List UInt8):PV.scal1 (PV.str s)=true:=nrfl rfl
theorem aS (s:List UInt8):PV.scal (PV.str s)=true:=nrfl rfl
theorem oH (s:List UInt8):PV.pur (PV.str s)=true:=by simp only[PV.pur]
theorem oI (st:Store) (s:List UInt8):rdC st (PV.str s)=some (PV.str s):=by simp[rdC,PV.pur]
theorem oJ (st:Store) (s:List UInt8):rdP st (PV.str s)=some (PV.str s):=by simp[rdP,rdC,PV.pur]
theorem T4 (s:List UInt8):PV.isCell (PV.str s)=true:=nrfl rfl
theorem T5  : PV.cells PV.nilp = [PV.nilp]:=nrfl rfl
theorem T6  : PV.scal1 PV.nilp=true:=nrfl rfl
theorem XJ  : PV.scal PV.nilp=true:=nrfl rfl
theorem aU  : PV.pur PV.nilp=true:=by simp only[PV.pur]
theorem aV (st:Store)  : rdC st PV.nilp=some PV.nilp:=by simp[rdC,PV.pur]
theorem aW (st:Store)  : rdP st PV.nilp=some PV.nilp:=by simp[rdP,rdC,PV.pur]
theorem XK (i g x o:Nat):PV.cells (PV.ptr i g x o) = [(PV.ptr i g x o)]:=nrfl rfl
theorem T7 (cs:List PV) (o:Nat):PV.cells (PV.vptr cs o) = [(PV.vptr cs o)]:=nrfl rfl
theorem Rq (cs:List PV) (o:Nat):PV.pur (PV.vptr cs o)=AL cs:=by simp only[PV.pur]
theorem aX (st:Store) (cs:List PV) (o:Nat):rdC st (PV.vptr cs o)=if AL cs=true then some (PV.vptr cs o)else none:=by simp only[rdC,PV.pur];congr
theorem aY (st:Store) (cs:List PV) (o:Nat):rdP st (PV.vptr cs o)=if AL cs=true then some (PV.vptr cs o)else none:=by simp only[rdP,rdC,PV.pur];congr
theorem T8  : PV.cells PV.nils = [PV.nils]:=nrfl rfl
theorem T9  : PV.scal1 PV.nils=true:=nrfl rfl
theorem XL  : PV.scal PV.nils=true:=nrfl rfl
theorem aZ  : PV.pur PV.nils=true:=by simp only[PV.pur]
theorem bB (st:Store)  : rdC st PV.nils=some PV.nils:=by simp[rdC,PV.pur]
theorem bC (st:Store)  : rdP st PV.nils=some PV.nils:=by simp[rdP,rdC,PV.pur]
theorem Rr  : PV.isCell PV.nils=true:=nrfl rfl
theorem Ua (z:Nat) (l:List PV):PV.cells (PV.lits z l) = [(PV.lits z l)]:=nrfl rfl
theorem Ub (z:Nat) (l:List PV):PV.scal1 (PV.lits z l)=false:=nrfl rfl
theorem XM (z:Nat) (l:List PV):PV.scal (PV.lits z l)=false:=nrfl rfl
theorem LO (z:Nat) (l:List PV):PV.pur (PV.lits z l)=AL l:=by simp only[PV.pur]
theorem bE (st:Store) (z:Nat) (l:List PV):rdC st (PV.lits z l)=if AL l=true then some (PV.lits z l)else none:=by simp only[rdC,PV.pur];congr
theorem bF (st:Store) (z:Nat) (l:List PV):rdP st (PV.lits z l)=if AL l=true then some (PV.lits z l)else none:=by simp only[rdP,rdC,PV.pur];congr
theorem Rs (z:Nat) (l:List PV):PV.isCell (PV.lits z l)=true:=nrfl rfl
theorem XN (i g s n:Nat):PV.cells (PV.ref i g s n) = [(PV.ref i g s n)]:=nrfl rfl
theorem oK (i g s n:Nat):PV.pur (PV.ref i g s n)=false:=by simp only[PV.pur]
theorem XO (i g s n:Nat):PV.scal1 (PV.ref i g s n)=false:=nrfl rfl
theorem oL (st:Store) (i g s n:Nat):rdC st (PV.ref i g s n)=(st.arr? i g).bind fun q=>if s+n≤q.2.length∧AL q.2=true then some (.lits q.1 ((q.2.drop s).take n))else none:=by simp only[rdC]
theorem oM (st:Store) (i g s n:Nat):rdP st (PV.ref i g s n)=(st.arr? i g).bind fun q=>if s+n≤q.2.length∧AL q.2=true then some (.lits q.1 ((q.2.drop s).take n))else none:=by simp only[rdP,rdC]
theorem Uc (f:Fn) (a b:List PV):PV.cells (PV.func f a b) = [(PV.func f a b)]:=nrfl rfl
theorem Rt (f:Fn) (a b:List PV):PV.pur (PV.func f a b)=(AL a&&AL b):=by simp only[PV.pur]
theorem bG (st:Store) (f:Fn) (a b:List PV):rdC st (PV.func f a b)=if (AL a&&AL b)=true then some (PV.func f a b)else none:=by simp only[rdC,PV.pur];congr
theorem bH (st:Store) (f:Fn) (a b:List PV):rdP st (PV.func f a b)=if (AL a&&AL b)=true then some (PV.func f a b)else none:=by simp only[rdP,rdC,PV.pur];congr
theorem Ud  : PV.cells PV.nilf = [PV.nilf]:=nrfl rfl
theorem Ue  : PV.scal1 PV.nilf=true:=nrfl rfl
theorem XP  : PV.scal PV.nilf=true:=nrfl rfl
theorem bI  : PV.pur PV.nilf=true:=by simp only[PV.pur]
theorem bJ (st:Store)  : rdC st PV.nilf=some PV.nilf:=by simp[rdC,PV.pur]
theorem bK (st:Store)  : rdP st PV.nilf=some PV.nilf:=by simp[rdP,rdC,PV.pur]
theorem Ru  : PV.isCell PV.nilf=true:=nrfl rfl
theorem Rv (t:TypeId) (v:PV):PV.cells (PV.iface t v) = [(PV.iface t v)]:=nrfl rfl
theorem Uf  : PV.cells PV.nili = [PV.nili]:=nrfl rfl
theorem Ug  : PV.scal1 PV.nili=true:=nrfl rfl
theorem XQ  : PV.scal PV.nili=true:=nrfl rfl
theorem bL  : PV.pur PV.nili=true:=by simp only[PV.pur]
theorem bM (st:Store)  : rdC st PV.nili=some PV.nili:=by simp[rdC,PV.pur]
theorem bN (st:Store)  : rdP st PV.nili=some PV.nili:=by simp[rdP,rdC,PV.pur]
theorem Rw  : PV.isCell PV.nili=true:=nrfl rfl
theorem XR (l:List PV):PV.cells (PV.agg l)=l:=nrfl rfl
theorem bP (l:List PV):PV.scal (PV.agg l)=l.all PV.scal1:=nrfl rfl
theorem Jj (l:List PV):PV.pur (PV.agg l)=AL l:=by simp only[PV.pur]
theorem oN (st:Store) (l:List PV):rdP st (PV.agg l)=(rdL st l).bind fun ds=>if ds.all PV.isCell=true then some (.agg ds)else none:=by simp only[rdP]
theorem Uh (l:List PV):PV.scal (PV.tuple l)=l.all PV.scal1:=nrfl rfl
theorem XS (l:List PV):PV.pur (PV.tuple l)=AL l:=by simp only[PV.pur]
theorem Ui  : PV.cells PV.nilm = [PV.nilm]:=nrfl rfl
theorem Uj  : PV.scal1 PV.nilm=true:=nrfl rfl
theorem XT  : PV.scal PV.nilm=true:=nrfl rfl
theorem bQ  : PV.pur PV.nilm=true:=by simp only[PV.pur]
theorem bR (st:Store)  : rdC st PV.nilm=some PV.nilm:=by simp[rdC,PV.pur]
theorem bS (st:Store)  : rdP st PV.nilm=some PV.nilm:=by simp[rdP,rdC,PV.pur]
theorem oO (st:Store) (k k2:IntKind) (a b:Int):DRx st (.int k a) (.int k2 b)=(k=k2∧a=b):=by rw[DRx]
theorem bT (st:Store) (a b:Bool):DRx st (.bool a) (.bool b)=(a=b):=by rw[DRx]
theorem oP (st:Store) (a b:List UInt8):DRx st (.str a) (.str b)=(a=b):=by rw[DRx]
theorem Nb (st:Store) (z:Nat) (l:List PV):DRx st .nils (.lits z l)=(l = []):=by rw[DRx]
theorem Nc (st:Store):DRx st .nils .nils=True:=by simp[DRx,PV.pur]
theorem bU (st:Store) (z y:Nat) (l m:List PV):DRx st (.lits z l) (.lits y m)=(z=y∧l=m∧AL m=true):=by rw[DRx]
theorem oQ (st:Store) (i g s n z:Nat) (l:List PV):DRx st (.ref i g s n) (.lits z l)=∃es,st.arr? i g=some (z,es)∧s+n≤es.length∧AL es=true∧(es.drop s).take n=l:=by rw[DRx]
theorem oR (st:Store) (l m:List PV):DRx st (.agg l) (.agg m)=(m.all PV.isCell=true∧DRxL st l m):=by rw[DRx,List.all_eq_true]
theorem XU (st:Store) (l m:List PV):DRx st (.tuple l) (.tuple m)=DRxL st l m:=by rw[DRx]
theorem XV (st:Store) (a b:PV) (l m:List PV):DRxL st (a::l) (b::m)=(DRx st a b∧DRxL st l m):=by rw[DRxL]
theorem bV (st:Store):DRxL st [] []=True:=by rw[DRxL]
theorem O0 {X:Cfg} (hm:Bb X) {N:Nat} {Q Q':IExit→IState→Prop} {c:Code} {s:IState} (h:∀e s,Q e s→Q' e s) (hr:run X N Q c [] s):run X N Q' c [] s:=NI hm h hr
theorem vZ {P:Program} (hmix:P.follows .mixedOrders=true) {l:AM} (hl:Bi P l) (muts:List Nat) (frz:List Nat) {f:FuncId} {fn:Func} {c:Code} (hf:P.funcs[f]?=some fn) (hb:fn.body=some c)
  (hname : (fn.name == "runtime.NumGoroutine") = false) {args : List PV} {N : Nat} (hN : fn.ntmps = N) (hn : args.length ≤ N) {rs : List ResultVar} (hrs : fn.results.toList = rs) {r : PV} (n : Nat) {dep : Nat}
  (h : AJ args→run (cfg P l muts frz dep) N (Ar P rs (fun p st=>DRx st p r)) c [] ⟨Fk args,stR n⟩):VC P f args r :=
 TV hmix hl muts frz hf hb hname hN hn hrs n fun hs=>O0 (AQ rfl) (fun e s hq=>by
  cases e with
  | normal=>obtain⟨p,h1,h2⟩:=hq;exact⟨p,h1,h2.sound⟩
  | exit i=>exact hq.elim
  | ret=>obtain⟨p,h1,h2⟩:=hq;exact⟨p,h1,h2.sound⟩) (h hs)
end Sim
