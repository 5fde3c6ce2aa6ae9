/- Maps: what the machine does with them. -/
import Derived.Test.YtppljhpecoeakaaSimR
import Derived.Maps.RangeRun
import Derived.DeepKeys3
set_option linter.unusedVariables false
set_option linter.unusedSimpArgs false
namespace Sim
open Go
def Pv:MK→Option TypeDesc
 | .int k=>some (.int k)
 | .str=>some .string
 | .bool=>some .bool
 | .ints _=>none
def WK (P:Program) (kt:TypeId) (mk:MK):Prop:=(∃d,Pv mk=some d∧P.underlying kt=some d)∨∃n,mk=.ints n∧Ge P kt=some n
theorem DA {P:Program} {t:TypeId} {mk:MK} {z:PV} (h:AY P t=some (mk,z)):∃kt et i zv,P.underlying t=some (.map kt et)∧P.info? et=some i∧i.zero=some zv∧z=Bh zv∧WK P kt mk:=by
 unfold AY at h
 split at h
 ·rename_i k e ht
  split at h
  ·rename_i zv hz
   simp only[Option.bind_eq_some_iff]at hz
   obtain ⟨i,hi,hz⟩:=hz
   split at h
   case h_4 =>
    simp only[Option.map_eq_some_iff,Prod.mk.injEq]at h
    obtain ⟨n,hn,rfl,rfl⟩:=h
    exact ⟨k,e,i,zv,ht,hi,hz,rfl,.inr ⟨n,rfl,hn⟩⟩
   all_goals
    rename_i hk
    simp only[Option.some.injEq,Prod.mk.injEq]at h
    obtain ⟨rfl,rfl⟩:=h
    exact ⟨k,e,i,zv,ht,hi,hz,rfl,.inl ⟨_,rfl,hk⟩⟩
  ·cases h
 ·cases h
section
variable {C:Ctx} {P:Program} {st:Store} {w:World}
theorem IR {a:PV} {l:List PV} (h:Iw (a::l)=true):∃n,a=.int .i64 n∧(-9223372036854775808≤n∧n≤9223372036854775807)∧Iw l=true:=by
 unfold Iw at h
 split at h
 ·rename_i he;cases he
 ·rename_i n l' he
  cases he
  simp only[Bool.and_eq_true,decide_eq_true_eq]at h
  exact ⟨n,rfl,h.1,h.2⟩
 ·cases h
theorem Hg:∀ {l:List PV} {i:Nat} {p:PV},Iw l=true→l[i]?=some p→∃n,p=.int .i64 n ∧ -9223372036854775808≤n∧n≤9223372036854775807
 | [],i,p,_,h=>by simp at h
 | a::l,i,p,hl,h=>by
  obtain ⟨n,rfl,hl1,hl2⟩:=IR hl
  cases i with
  | zero=>simp at h;subst h;exact⟨n,rfl,hl1⟩
  | succ i=>exact Hg hl2 (by simpa using h)
theorem IS {α β:Type} {f:α→Option β}:∀ {L:List α},(∀x∈L,∃y,f x=some y)→∃ys,L.mapM f=some ys
 | [],_=>⟨[],by simp⟩
 | a::L,h=>by
  obtain ⟨y,hy⟩:=h a (by simp)
  obtain ⟨ys,hys⟩:=IS (L:=L) fun x hx=>h x (by simp[hx])
  exact ⟨y::ys,by simp[hy,hys]⟩
theorem N7 {t:TypeId} {k:IntKind} (h:ER P t=some k):P.underlying t=some (.int k):=by
 unfold ER at h;split at h
 ·simp only[Option.some.injEq]at h;subst h;assumption
 ·cases h
theorem La {e:TypeId} {d:Nat} {n:Int} (he:P.underlying e=some (.int .i64)) (hn : -9223372036854775808≤n∧n≤9223372036854775807):P.keyLits (d+1) e [.int .i64 n]=some [.int .i64 n]:=by
 unfold Program.keyLits
 rw [he]
 have : (Lit.int .i64 n).wf=true:=by
  simp [Lit.wf,IntKind.min,IntKind.max,IntKind.signed,IntKind.bits]
  omega
 simp [this]
theorem Hh {kt:TypeId} {n:Nat} (h:Ge P kt=some n):(match P.underlying kt with | some (.array _ _) | some (.struct _)=>true | _=>false)=true:=by
 unfold Ge at h
 split at h
 ·split at h
  ·rename_i hu;rw[hu]
  ·rename_i hu;rw[hu]
  ·cases h
 ·cases h
theorem HY {kt:TypeId} {n:Nat} (h:Ge P kt=some n):P.keyType kt=true∧P.keyTypeAt 2 kt=true∧P.tiled 2 kt=true∧0<P.types.size:=by
 unfold Ge at h
 split at h
 ·rename_i hc;exact hc
 ·cases h
theorem Iy {α:Type} {l:List α} {i:Nat} {a:α} (h:l[i]?=some a):(l.drop i).take 1 = [a]:=by
 obtain ⟨hlt,rfl⟩:=List.getElem?_eq_some_iff.1 h
 rw [List.drop_eq_getElem_cons hlt];rfl
theorem Gg {kt:TypeId} {n:Nat} (h:Ge P kt=some n) {v:Value} {k:PV} (hv:VR C v k) (hk:BE (.ints n) k=true):∃l,keyOf P kt v=some l:=by
 obtain ⟨q1,q2,q3,q4⟩:=HY h
 cases k <;> simp only[BE,Bool.false_eq_true,Bool.and_eq_true,beq_iff_eq]at hk
 rename_i l
 cases hv with
 | agg cs _ hsz hc hat =>
  obtain ⟨hlen,hil⟩:=hk
  have hcell:∀i,i<n→∃m,cs.toList[i]?=some (.int .i64 m) ∧ -9223372036854775808≤m∧m≤9223372036854775807:=by
   intro i hi
   obtain ⟨p,hp⟩:∃p,l[i]?=some p:=⟨_,List.getElem?_eq_getElem (by omega)⟩
   obtain ⟨m,rfl,hm⟩:=Hg hil hp
   have := hat i _ hp
   have e:=Cc this
   refine ⟨m,?_,hm⟩
   have hlt:i<cs.size:=by omega
   simp only[Array.getD_eq_getD_getElem?,Array.getElem?_eq_getElem hlt,Option.getD_some]at e
   simp [hlt,e]
  obtain ⟨d,hd⟩:∃d,P.types.size=d+1:=⟨P.types.size-1,by omega⟩
  unfold Ge at h
  rw [if_pos ⟨q1,q2,q3,q4⟩]at h
  split at h
  ·rename_i fs hu
   split at h
   ·rename_i hc2
    obtain ⟨hc1,hc2⟩:=hc2
    have hnn:fs.size=n:=Option.some.inj h
    subst hnn
    have hform:(Value.agg cs).formed P kt=true:=by simp[Value.formed,hu,hc1,hsz,hlen]
    have hname : fs.all (·.name != "_") = true := by
     have := q2
     unfold Program.keyTypeAt at this
     rw [hu]at this
     simp only[Bool.and_eq_true,Array.all_eq_true]at this ⊢
     intro i hi
     exact (this.1.1 i hi).1
    have hm:∃ys,fs.toList.mapM (fun f=>P.keyLits (d+1) f.type ((cs.toList.drop f.offset).take (P.cellsOf f.type)))=some ys:=IS fun f hf=>by
     obtain ⟨i,hi,rfl⟩:=List.getElem_of_mem hf
     have hz:=List.all_eq_true.1 hc2 (fs.toList[i],i) (by rw[List.mem_zipIdx_iff_getElem?];simp[hi])
     simp only[Bool.and_eq_true,beq_iff_eq]at hz
     obtain ⟨⟨z1,z2⟩,z3⟩:=hz
     obtain ⟨m,e1,e2⟩:=hcell i (by simpa using hi)
     have hint:P.underlying fs.toList[i].type=some (.int .i64):=N7 z3
     rw [z1,z2,Iy e1]
     exact ⟨_,La hint e2⟩
    obtain ⟨ys,hys⟩:=hm
    refine ⟨.string (keyBytes ys.flatten),?_⟩
    unfold keyOf
    rw [hu]
    have hlits:P.keyLits (P.types.size+1) kt cs.toList=some ys.flatten:=by
     rw [hd]
     unfold Program.keyLits
     rw [hu]
     simp only[Array.length_toList]
     rw [if_pos ⟨by omega,hname⟩,hys];rfl
    simp [q1,hform,Value.cells,hlits]
   ·cases h
  ·rename_i n' e hu
   split at h
   ·rename_i hc2
    obtain ⟨hc1,hc2,hc3⟩:=hc2
    have hnn:n'=n:=Option.some.inj h
    subst hnn
    have hint:P.underlying e=some (.int .i64):=N7 hc3
    have hform:(Value.agg cs).formed P kt=true:=by simp[Value.formed,hu,hc1,hsz,hlen]
    have hm:∃ys,(List.range n').mapM (fun i=>P.keyLits (d+1) e ((cs.toList.drop (i*P.cellsOf e)).take (P.cellsOf e)))=some ys:=IS fun i hi=>by
     obtain ⟨m,e1,e2⟩:=hcell i (List.mem_range.1 hi)
     rw [hc2,Nat.mul_one,Iy e1]
     exact ⟨_,La hint e2⟩
    obtain ⟨ys,hys⟩:=hm
    refine ⟨.string (keyBytes ys.flatten),?_⟩
    unfold keyOf
    rw [hu]
    have hlits:P.keyLits (P.types.size+1) kt cs.toList=some ys.flatten:=by
     rw [hd]
     unfold Program.keyLits
     rw [hu]
     simp only[Array.length_toList]
     rw [if_pos (by omega),hys];rfl
    simp [q1,hform,Value.cells,hlits]
   ·cases h
  ·cases h
theorem N8:∀ {l m:List PV},Iw l=true→Iw m=true→(GI l m=true↔l=m)
 | [],[],_,_=>by simp[GI]
 | [],b::m,_,_=>by simp[GI]
 | a::l,[],_,_=>by cases a <;> simp[GI]
 | a::l,b::m,hl,hm=>by
  obtain ⟨x,rfl,_,hl⟩:=IR hl
  obtain ⟨y,rfl,_,hm⟩:=IR hm
  have ih:=N8 hl hm
  simp [GI,ih]
theorem Fq {v:Value} {k:PV} {mk:MK} {d:TypeDesc} (hd:Pv mk=some d) (hv:VR C v k) (hk:BE mk k=true):MapKept.IsKey d v:=by
 cases mk <;> simp only[Pv,Option.some.injEq,reduceCtorEq]at hd <;> subst hd <;> cases k <;> simp[BE]at hk <;> cases hv <;> simp[MapKept.IsKey]
 ·exact hk.symm
theorem N9 {a b:Value} {pa pb:PV} {mk:MK} (ha:VR C a pa) (hb:VR C b pb) (ka:BE mk pa=true) (kb:BE mk pb=true):a=b↔Dx pa pb=true:=by
 cases mk
 case ints n =>
  cases pa <;> simp only[BE,Bool.false_eq_true,Bool.and_eq_true,beq_iff_eq]at ka
  cases pb <;> simp only[BE,Bool.false_eq_true,Bool.and_eq_true,beq_iff_eq]at kb
  rename_i l m
  simp only[Dx]
  rw [N8 ka.2 kb.2]
  cases ha with
  | agg cs _ hsz hc hat =>
   cases hb with
   | agg ds _ hsz2 hc2 hat2 =>
    have key:∀i,i<n→∀x y,l[i]?=some (.int .i64 x)→m[i]?=some (.int .i64 y)→cs.getD i undef=.int .i64 x∧ds.getD i undef=.int .i64 y:=fun i hi x y h1 h2=>⟨Cc (hat i _ h1),Cc (hat2 i _ h2)⟩
    constructor
    ·intro e
     simp only[Value.agg.injEq]at e
     subst e
     refine List.ext_getElem? fun i=>?_
     by_cases hi:i<n
     ·obtain ⟨p,hp⟩:∃p,l[i]?=some p:=⟨_,List.getElem?_eq_getElem (by omega)⟩
      obtain ⟨q,hq⟩:∃q,m[i]?=some q:=⟨_,List.getElem?_eq_getElem (by omega)⟩
      obtain ⟨x,rfl,_⟩:=Hg ka.2 hp
      obtain ⟨y,rfl,_⟩:=Hg kb.2 hq
      obtain ⟨e1,e2⟩:=key i hi x y hp hq
      rw [e1]at e2
      simp only[Value.int.injEq,true_and]at e2
      rw [hp,hq,e2]
     ·rw [List.getElem?_eq_none (by omega),List.getElem?_eq_none (by omega)]
    ·intro e
     subst e
     congr 1
     apply Array.ext
     ·omega
     ·intro i h1 h2
      obtain ⟨p,hp⟩:∃p,l[i]?=some p:=⟨_,List.getElem?_eq_getElem (by omega)⟩
      obtain ⟨x,rfl,_⟩:=Hg ka.2 hp
      obtain ⟨e1,e2⟩:=key i (by omega) x x hp hp
      simp only[Array.getD_eq_getD_getElem?,Array.getElem?_eq_getElem h1,Array.getElem?_eq_getElem h2,Option.getD_some]at e1 e2
      rw [e1,e2]
 all_goals cases pa <;> simp[BE]at ka <;> cases pb <;> simp[BE]at kb <;> cases ha <;> cases hb
 ·subst ka;subst kb;simp[Dx]
 ·rename_i s1 l1 h1 s2 l2 h2
  subst l1;subst l2
  simp only[Dx,beq_iff_eq,Value.string.injEq]
  constructor
  ·rintro rfl;rfl
  ·intro h
   have : s1.data=s2.data:=Array.toList_inj.1 h
   cases s1;cases s2;simp at this;subst this;rfl
 ·simp [Dx]
theorem Iz {mk:MK} {d:TypeDesc} (hd:Pv mk=some d) {kv:Value} {k:PV} (hv:VR C kv k) (hk:BE mk k=true):∀(ces:List MapEntry) (es:List (PV×PV)) (i0:Nat),ces.length=es.length →
  (∀ (i:Nat) (a b:PV),es[i]?=some (a,b)→∃e:MapEntry,ces[i]?=some e∧VR C e.key a∧VR C e.val b∧BE mk a=true) →
  (∃ j e q,Instr.findNow d kv ces i0=some (some (i0+j,e.val))∧ces[j]?=some e∧e.key=kv∧BY es k=some q∧VR C e.val q∧j<es.length∧∀v,CF es k v=es.set j (k,v)) ∨
  (Instr.findNow d kv ces i0=some none∧BY es k=none∧∀v,CF es k v=es ++ [(k,v)])
 | [],[],i0,_,_=>.inr ⟨rfl,rfl,fun _=>rfl⟩
 | [],_::_,i0,hl,_=>by simp at hl
 | _::_,[],i0,hl,_=>by simp at hl
 | c::ces,(a,b)::es,i0,hl,hat=>by
  obtain ⟨e,he,h1,h2,h3⟩:=hat 0 a b rfl
  simp at he;subst he
  obtain ⟨r,hr,hiff⟩:=MapKept.sameNow_of_keys (Fq hd hv hk) (Fq hd h1 h3)
  have hs:=N9 hv h1 hk h3
  cases r with
  | true =>
   have hsk:Dx k a=true:=hs.1 (hiff.1 rfl)
   exact .inl ⟨0,c,b,by simp[Instr.findNow,hr],rfl,(hiff.1 rfl).symm,by simp[BY,hsk],h2,by simp,fun v=>by simp[CF,hsk]⟩
  | false =>
   have hsk:Dx k a=false:=by
    cases hx:Dx k a with
    | false=>rfl
    | true=>have:=hiff.2 (hs.2 hx);cases this
   rcases Iz hd hv hk ces es (i0+1) (by simpa using hl) (fun i x y h=>by simpa using hat (i+1) x y (by simpa using h))with ⟨j,e,q,g1,g2,g3,g4,g5,g6,g7⟩ | ⟨g1,g2,g3⟩
   ·exact .inl ⟨j+1,e,q,by simp[Instr.findNow,hr,g1];omega,by simpa using g2,g3,by simp[BY,hsk,g4],g5,by simp;omega,fun v=>by simp[CF,hsk,g7]⟩
   ·exact .inr ⟨by simp[Instr.findNow,hr,g1],by simp[BY,hsk,g2],fun v=>by simp[CF,hsk,g3]⟩
theorem IA {kt:TypeId} {n:Nat} (hkt:Ge P kt=some n) (w:World) {kv:Value} {k:PV} (hv:VR C kv k) (hk:BE (.ints n) k=true):∀(ces:List MapEntry) (es:List (PV×PV)) (i0:Nat),ces.length=es.length →
  (∀ (i:Nat) (a b:PV),es[i]?=some (a,b)→∃e:MapEntry,ces[i]?=some e∧VR C e.key a∧VR C e.val b∧BE (.ints n) a=true) →
  (∃ j e q,(Instr.findAsking kt kv ces i0).run P w=.ok (some (i0+j,e.val)) w∧ces[j]?=some e∧e.key=kv∧BY es k=some q∧VR C e.val q∧j<es.length∧∀v,CF es k v=es.set j (k,v)) ∨
  ((Instr.findAsking kt kv ces i0).run P w=.ok none w∧BY es k=none∧∀v,CF es k v=es ++ [(k,v)])
 | [],[],i0,_,_=>.inr ⟨by simp[Instr.findAsking],rfl,fun _=>rfl⟩
 | [],_::_,i0,hl,_=>by simp at hl
 | _::_,[],i0,hl,_=>by simp at hl
 | c::ces,(a,b)::es,i0,hl,hat=>by
  obtain ⟨e,he,h1,h2,h3⟩:=hat 0 a b rfl
  simp at he;subst he
  obtain ⟨lx,hx⟩:=Gg hkt hv hk
  obtain ⟨ly,hy⟩:=Gg hkt h1 h3
  obtain ⟨q1,q2,q3,q4⟩:=HY hkt
  have hwide:=Hh hkt
  obtain ⟨r,hr,hiff⟩:=run_equal_deep (P:=P) w (m:=2) (by omega) q2 hwide hx hy
  have hs:=N9 hv h1 hk h3
  have hval:r=true↔kv=c.key:=by
   rw [hiff]
   constructor
   ·intro e;rw[e]at hx;exact keyOf_inj_deep q3 hwide hx hy
   ·intro e;rw[e,hy]at hx;exact (Option.some.inj hx).symm
  cases r with
  | true =>
   have hsk:Dx k a=true:=hs.1 (hval.1 rfl)
   exact .inl ⟨0,c,b,by simp[Instr.findAsking,hr],rfl,(hval.1 rfl).symm,by simp[BY,hsk],h2,by simp,fun v=>by simp[CF,hsk]⟩
  | false =>
   have hsk:Dx k a=false:=by
    cases hx:Dx k a with
    | false=>rfl
    | true=>have:=hval.2 (hs.2 hx);cases this
   rcases IA hkt w hv hk ces es (i0+1) (by simpa using hl) (fun i x y h=>by simpa using hat (i+1) x y (by simpa using h))with ⟨j,e,q,g1,g2,g3,g4,g5,g6,g7⟩ | ⟨g1,g2,g3⟩
   ·exact .inl ⟨j+1,e,q,by simp[Instr.findAsking,hr,g1];omega,by simpa using g2,g3,by simp[BY,hsk,g4],g5,by simp;omega,fun v=>by simp[CF,hsk,g7]⟩
   ·exact .inr ⟨by simp[Instr.findAsking,hr,g1],by simp[BY,hsk,g2],fun v=>by simp[CF,hsk,g3]⟩
theorem Jv {kt:TypeId} {d:TypeDesc} {kv:Value} {l:List MapEntry} {r:Option (Nat×Value)} (hd:P.underlying kt=some d) (h:Instr.findNow d kv l 0=some r):(Instr.findKey kt kv l).run P w=.ok r w:=by
 simp [Instr.findKey,run_underlying hd,h]
theorem Eh {kt:TypeId} {mk:MK} (hkt:WK P kt mk) {kv:Value} {k:PV} (hv:VR C kv k) (hk:BE mk k=true) (ces:List MapEntry) (es:List (PV×PV)) (hl:ces.length=es.length)
  (hat : ∀(i:Nat) (a b:PV),es[i]?=some (a,b)→∃e:MapEntry,ces[i]?=some e∧VR C e.key a∧VR C e.val b∧BE mk a=true) :
  (∃ j e q,(Instr.findKey kt kv ces).run P w=.ok (some (j,e.val)) w∧ces[j]?=some e∧e.key=kv∧BY es k=some q∧VR C e.val q∧j<es.length∧∀v,CF es k v=es.set j (k,v)) ∨
  ((Instr.findKey kt kv ces).run P w=.ok none w∧BY es k=none∧∀v,CF es k v=es ++ [(k,v)]):=by
 rcases hkt with ⟨d,hd,h5⟩ | ⟨n,rfl,hn⟩
 ·rcases Iz hd hv hk ces es 0 hl hat with ⟨j,e,q',g1,g2,g3,g4,g5,g6,g7⟩ | ⟨g1,g2,g3⟩
  ·exact .inl ⟨j,e,q',by rw[Jv h5 g1];simp,g2,g3,g4,g5,g6,g7⟩
  ·exact .inr ⟨Jv h5 g1,g2,g3⟩
 ·rcases IA hn w hv hk ces es 0 hl hat with ⟨j,e,q',g1,g2,g3,g4,g5,g6,g7⟩ | ⟨g1,g2,g3⟩
  ·exact .inl ⟨j,e,q',by rw[run_findKey_eq w (Hh hn),g1];simp,g2,g3,g4,g5,g6,g7⟩
  ·exact .inr ⟨by rw[run_findKey_eq w (Hh hn),g1],g2,g3⟩
theorem EW {kt:TypeId} {mk:MK} (hkt:WK P kt mk) {kv:Value} {k:PV} (hv:VR C kv k) (hk:BE mk k=true) (b:Bool):(Instr.checkKey b 10000 kt kv).run P w=.ok () w:=by
 rcases hkt with ⟨d,hd,h5⟩ | ⟨n,rfl,hn⟩
 ·exact MapKept.run_checkKey h5 (Fq hd hv hk) b 9999
 ·obtain ⟨l,hl⟩:=Gg hn hv hk
  obtain ⟨q1,q2,q3,q4⟩:=HY hn
  exact (deep_law (m:=2) (by omega) q2 q3 (Hh hn)).check w b hl
theorem Hi {kt:TypeId} {mk:MK} (hkt:WK P kt mk) {kv:Value} {k:PV} (hv:VR C kv k) (hk:BE mk k=true):(Instr.keyThatStays kv kv).run P w=.ok kv w:=by
 rcases hkt with ⟨d,hd,h5⟩ | ⟨n,rfl,hn⟩
 ·exact MapKept.run_keyThatStays (Fq hd hv hk)
 ·obtain ⟨l,hl⟩:=Gg hn hv hk
  obtain ⟨q1,q2,q3,q4⟩:=HY hn
  exact (deep_law (m:=2) (by omega) q2 q3 (Hh hn)).stays w hl
theorem Inv.map (hi:Inv C st w) {id g:Nat} {mk:MK} {es:List (PV×PV)} (ho:st.obj id=some (.map g mk es)) {v:Value} (hv:VR C v (.mref id g)) :
  ∃ L,C.loc id=some L∧C.born id∧ObjAt C w L (.map g mk es)∧v=.map (some L.blk):=by
 obtain ⟨hb,L,hL,hat⟩:=hi.obj id _ ho
 cases hv with
 | mref _ _ _ h1 h2 h3 h4=>exact⟨L,hL,hb,hat,h4 L hL hat.1.symm⟩
theorem Pw (hi:Inv C st w) {t:TypeId} {m kv:Value} {pm k q:PV} {ok:Bool} (hm:VR C m pm) (hv:VR C kv k) (h:CK st (AY P t) pm k ok=some q) :
  ∃ v,(Instr.lookup t m kv ok).run P w=.ok v w∧VR C v q:=by
 unfold CK at h
 simp only[Option.bind_eq_some_iff]at h
 obtain ⟨⟨mk,z⟩,ht,h⟩:=h
 obtain ⟨kt,et,i,zv,h1,h2,h3,rfl,h5⟩:=DA ht
 dsimp only at h
 split at h
 ·rename_i hk
  have hz:(zeroValue et).run P w=.ok zv w:=by simp[zeroValue,typeInfo,h2,h3]
  have hzr:VR C zv (Bh zv):=Cn zv
  have hck:∀b,(Instr.checkKey b 10000 kt kv).run P w=.ok () w:=fun b=>EW h5 hv hk b
  have hfk0:(Instr.findKey kt kv []).run P w=.ok none w:=by
   rcases Eh (w:=w) h5 hv hk [] [] rfl (by simp)with ⟨j,e,q,_,g2,_⟩ | ⟨g1,_⟩
   ·simp at g2
   ·exact g1
  have tup:∀ {v:Value} {p:PV} {b:Bool},VR C v p→VR C (.tuple #[v,.bool b]) (.tuple [p,.bool b]):=fun {v p b} hv=>.tuple _ _ rfl (fun i q hq=>by
   match i,hq with
   | 0,hq=>simp at hq;subst hq;exact hv
   | 1,hq=>simp at hq;subst hq;exact .bool b
   | n+2,hq=>simp at hq)
  split at h
  ·simp only[Option.some.injEq]at h;subst h
   cases hm
   refine ⟨if ok then .tuple #[zv,.bool false]else zv,?_,?_⟩
   ·simp [Instr.lookup,run_underlying h1,hck,hfk0,hz]
   ·cases ok
    ·exact hzr
    ·exact tup hzr
  ·rename_i id gen
   split at h
   ·rename_i g mk' es ho
    split at h
    ·rename_i hc
     obtain ⟨rfl,rfl⟩:=hc
     obtain ⟨L,hL,hb,hat,rfl⟩:=hi.map ho hm
     obtain ⟨a1,a2,a3,a4,ces,a5,a6,a7⟩:=hat
     have hfn:=Eh (w:=w) h5 hv hk ces.toList es (by simpa using a6) (fun i a b h=>by
      obtain ⟨e,e1,e2,e3,e4,e5⟩:=a7 i a b h
      exact ⟨e,by simpa using e1,e2,e3,e5⟩)
     rcases hfn with ⟨j,e,q',g1,g2,g3,g4,g5,g6,g7⟩ | ⟨g1,g2,g3⟩
     ·rw [g4]at h
      simp only[Option.some.injEq]at h;subst h
      refine ⟨if ok then .tuple #[e.val,.bool true]else e.val,?_,?_⟩
      ·simp [Instr.lookup,run_underlying h1,MapKept.run_getObj_map a5,hck,g1]
      ·cases ok
       ·exact g5
       ·exact tup g5
     ·rw [g2]at h
      simp only[Option.some.injEq]at h;subst h
      refine ⟨if ok then .tuple #[zv,.bool false]else zv,?_,?_⟩
      ·simp [Instr.lookup,run_underlying h1,MapKept.run_getObj_map a5,hck,g1,hz]
      ·cases ok
       ·exact hzr
       ·exact tup hzr
    ·cases h
   ·cases h
  ·cases h
 ·cases h
theorem Jw (hi:Inv C st w) {t:TypeId} {m kv vv:Value} {pm k v:PV} {st':Store} (hm:VR C m pm) (hk:VR C kv k) (hv:VR C vv v) (h:IK st (AY P t) pm k v=some st') :
  ∃ w' C',(Instr.mapUpdate t m kv vv).run P w=.ok () w'∧C.le C'∧Inv C' st' w':=by
 unfold IK at h
 split at h
 ·rename_i id gen
  split at h
  ·rename_i g mk es ho
   split at h
   ·rename_i hc
    obtain ⟨rfl,ht,hki⟩:=hc
    simp only[Option.some.injEq]at h;subst h
    simp only[Option.map_eq_some_iff]at ht
    obtain ⟨⟨mk',z⟩,ht,hmk⟩:=ht
    dsimp only at hmk;subst hmk
    obtain ⟨kt,et,i,zv,h1,h2,h3,rfl,h5⟩:=DA ht
    have hck:∀b,(Instr.checkKey b 10000 kt kv).run P w=.ok () w:=fun b=>EW h5 hk hki b
    obtain ⟨L,hL,hb,hat,rfl⟩:=hi.map ho hm
    obtain ⟨a1,a2,a3,a4,ces,a5,a6,a7⟩:=hat
    have hlt:id<st.next:=by
     rcases Nat.lt_or_ge id st.next with h | h
     ·exact h
     ·exact absurd hb (hi.next id h)
    have hblk:L.blk<w.heap.size:=(Array.getElem?_eq_some_iff.1 a5).1
    have hsound:∀(ces':Array MapEntry) (clock':Nat),clock'=(CF es k v).length→ces'.size=(CF es k v).length→(∀C':Ctx,C.le C'→∀(i:Nat) (a b:PV),(CF es k v)[i]?=some (a,b)→∃e:MapEntry,ces'[i]?=some e∧VR C' e.key a∧VR C' e.val b∧e.born=i∧BE mk' a=true) →
      C.le (C.set id L)∧Inv (C.set id L) (st.set id (.map gen mk' (CF es k v))) { w with heap:=w.heap.setIfInBounds L.blk (.map ces' clock') }:=by
     intro ces' clock' hcl hsz hent
     exact hi.put (id:=id) (nx:=st.next) (o:=.map gen mk' (CF es k v)) (L':=L) (.inl ⟨L,hL,.inl rfl⟩) (.inr (.inr ⟨L,hL,rfl,by omega⟩))
      (fun b hb hne=>by simp[Array.getElem?_setIfInBounds_ne (Ne.symm (hne L hL (by omega)))]) (by simp)
      (fun hle=>⟨a1,a2,a3,a4,ces',by simp[hblk,hcl],hsz,hent _ hle⟩) (Nat.le_refl _) hlt
    have hfn:=Eh (w:=w) h5 hk hki ces.toList es (by simpa using a6) (fun i a b h=>by
     obtain ⟨e,e1,e2,e3,e4,e5⟩:=a7 i a b h
     exact ⟨e,by simpa using e1,e2,e3,e5⟩)
    rcases hfn with ⟨j,e,q',g1,g2,g3,g4,g5,g6,g7⟩ | ⟨g1,g2,g3⟩
    ·have hj:ces[j]?=some e:=by simpa using g2
     have hjl:j<ces.size:=(Array.getElem?_eq_some_iff.1 hj).1
     have hkeep:∀(u:Value),(Instr.keyThatStays kv kv).run P w=.ok kv w:=fun _=>Hi h5 hk hki
     obtain ⟨q1,q2⟩:=hsound (ces.modify j fun e=>{ e with key:=kv,val:=vv }) es.length (by rw[g7];simp) (by rw[g7];simp[a6]) (fun C' hle i a b hab=>by
      rw [g7]at hab
      by_cases hij:i=j
      ·subst hij
       rw [List.getElem?_set_self g6]at hab
       simp only[Option.some.injEq,Prod.mk.injEq]at hab
       obtain ⟨rfl,rfl⟩:=hab
       refine ⟨{ e with key:=kv,val:=vv },by simp[Array.getElem?_modify,hj],hk.mono hle,hv.mono hle,?_,hki⟩
       obtain ⟨⟨x,y⟩,hxy⟩:∃p,es[i]?=some p:=⟨_,List.getElem?_eq_getElem g6⟩
       obtain ⟨e',e1,_,_,e4,_⟩:=a7 i x y hxy
       rw [hj]at e1;cases e1
       exact e4
      ·rw [List.getElem?_set_ne (fun e=>hij e.symm)]at hab
       obtain ⟨e',e1,e2,e3,e4,e5⟩:=a7 i a b hab
       exact ⟨e',by simp[Array.getElem?_modify,e1,show ¬j=i from fun e=>hij e.symm],e2.mono hle,e3.mono hle,e4,e5⟩)
     refine ⟨_,_,?_,q1,q2⟩
     simp only[Instr.mapUpdate,run_underlying h1,Sem.run_bind,Result.andThen,MapKept.run_getObj_map a5,hck,g1,hj,Option.map_some,Option.getD_some,g3,hkeep kv,MapKept.run_setObj_map _ a5]
    ·obtain ⟨q1,q2⟩:=hsound (ces.push { key:=kv,val:=vv,born:=es.length }) (es.length+1) (by rw[g3];simp) (by rw[g3];simp[a6]) (fun C' hle i a b hab=>by
      rw [g3]at hab
      rcases Nat.lt_or_ge i es.length with hi' | hi'
      ·rw [List.getElem?_append_left hi']at hab
       obtain ⟨e',e1,e2,e3,e4,e5⟩:=a7 i a b hab
       exact ⟨e',by rw[Array.getElem?_push];simp[show i≠ces.size by omega,e1],e2.mono hle,e3.mono hle,e4,e5⟩
      ·rw [List.getElem?_append_right hi']at hab
       have : i=es.length:=by
        have :=(List.getElem?_eq_some_iff.1 hab).1
        simp at this;omega
       subst this
       simp at hab
       obtain ⟨rfl,rfl⟩:=hab
       exact ⟨{ key:=kv,val:=vv,born:=es.length },by rw[Array.getElem?_push];simp[a6],hk.mono hle,hv.mono hle,rfl,hki⟩)
     refine ⟨_,_,?_,q1,q2⟩
     simp only[Instr.mapUpdate,run_underlying h1,Sem.run_bind,Result.andThen,MapKept.run_getObj_map a5,hck,g1,MapKept.run_setObj_map _ a5]
   ·cases h
  ·cases h
 ·cases h
theorem WL {k:PV}:∀ {es:List (PV×PV)} {j:Nat},j<es.length→(∀v,CF es k v=es.set j (k,v))→Ny es k=j
 | [],j,hj,_=>by simp at hj
 | e :: es,j,hj,h=>by
  by_cases hs:Dx k e.1=true
  ·cases j with
   | zero=>simp[Ny,hs]
   | succ j =>
    exfalso
    have h1:=h (.bool true)
    have h2:=h (.bool false)
    simp only[CF,hs,if_true,List.set_cons_succ,List.cons.injEq]at h1 h2
    have := h1.1.trans h2.1.symm
    simp at this
  ·cases j with
   | zero =>
    exfalso
    have h1:=h (.bool true)
    have h2:=h (.bool false)
    rw [CF,if_neg hs,List.set_cons_zero,List.cons.injEq]at h1 h2
    have := h1.1.symm.trans h2.1
    simp at this
   | succ j =>
    have := WL (k:=k) (es:=es) (j:=j) (by simpa using hj) fun v=>by
     have := h v
     simpa [CF,hs]using this
    simp [Ny,hs,this]
theorem Oa {k:PV}:∀ {es:List (PV×PV)},BY es k=none→Ny es k=es.length
 | [],_=>rfl
 | e::es,h=>by
  unfold BY at h
  split at h
  ·cases h
  ·rename_i hs
   simp [Ny,hs,Oa h]
theorem Inv.putMap (hi:Inv C st w) {id g:Nat} {mk:MK} {es es':List (PV×PV)} (ho:st.obj id=some (.map g mk es)) {L:Loc} (hL:C.loc id=some L) (hat:ObjAt C w L (.map g mk es))
  (ces' : Array MapEntry) (clock':Nat) (hcl:clock'=es'.length) (hsz:ces'.size=es'.length)
  (hent : ∀C':Ctx,C.le C'→∀(i:Nat) (a b:PV),es'[i]?=some (a,b)→∃e:MapEntry,ces'[i]?=some e∧VR C' e.key a∧VR C' e.val b∧e.born=i∧BE mk a=true) :
  C.le (C.set id L)∧Inv (C.set id L) (st.set id (.map g mk es')) { w with heap:=w.heap.setIfInBounds L.blk (.map ces' clock') }:=by
 obtain ⟨a1,a2,a3,a4,ces,a5,a6,a7⟩:=hat
 have hb:C.born id:=(hi.obj id _ ho).1
 have hlt:id<st.next:=by
  rcases Nat.lt_or_ge id st.next with h | h
  ·exact h
  ·exact absurd hb (hi.next id h)
 have hblk:L.blk<w.heap.size:=(Array.getElem?_eq_some_iff.1 a5).1
 exact hi.put (id:=id) (nx:=st.next) (o:=.map g mk es') (L':=L) (.inl ⟨L,hL,.inl rfl⟩) (.inr (.inr ⟨L,hL,rfl,by omega⟩))
  (fun b hb hne=>by simp[Array.getElem?_setIfInBounds_ne (Ne.symm (hne L hL (by omega)))]) (by simp)
  (fun hle=>⟨a1,a2,a3,a4,ces',by simp[hblk,hcl],hsz,hent _ hle⟩) (Nat.le_refl _) hlt
theorem Agp {u v:Value} {p q:PV} (hu:VR C u p) (hv:VR C v q):VR C (.tuple #[u,v]) (.tuple [p,q]):=.tuple _ _ rfl (fun i r hq=>by
 match i,hq with
 | 0,hq=>simp at hq;subst hq;exact hu
 | 1,hq=>simp at hq;subst hq;exact hv
 | n+2,hq=>simp at hq)
theorem NB (hi:Inv C st w) {t:TypeId} {m kv:Value} {pm k q:PV} {st':Store} (hm:VR C m pm) (hk:VR C kv k) (h:Ee st (AY P t) pm k=some (q,st')) :
  ∃ v w' C',(Instr.mapEntry t m kv).run P w=.ok v w'∧C.le C'∧Inv C' st' w'∧VR C' v q:=by
 unfold Ee at h
 simp only[Option.bind_eq_some_iff]at h
 obtain ⟨⟨mk,z⟩,ht,h⟩:=h
 dsimp only at h
 split at h
 ·rename_i id gen
  split at h
  ·rename_i g mk' es ho
   split at h
   ·rename_i hc
    obtain ⟨rfl,rfl,hki⟩:=hc
    simp only[Option.some.injEq,Prod.mk.injEq]at h
    obtain ⟨rfl,rfl⟩:=h
    obtain ⟨kt,et,i,zv,h1,h2,h3,rfl,h5⟩:=DA ht
    have hz:(zeroValue et).run P w=.ok zv w:=by simp[zeroValue,typeInfo,h2,h3]
    have hzr:∀ {C:Ctx},VR C zv (Bh zv):=Cn zv
    have hck:∀b,(Instr.checkKey b 10000 kt kv).run P w=.ok () w:=fun b=>EW h5 hk hki b
    obtain ⟨L,hL,hb,hat,rfl⟩:=hi.map ho hm
    have hput:=fun (es':List (PV×PV)) (ces':Array MapEntry) (clock':Nat)=>Inv.putMap (es':=es') hi ho hL hat ces' clock'
    obtain ⟨a1,a2,a3,a4,ces,a5,a6,a7⟩:=hat
    have hfn:=Eh (w:=w) h5 hk hki ces.toList es (by simpa using a6) (fun i a b h=>by
     obtain ⟨e,e1,e2,e3,e4,e5⟩:=a7 i a b h
     exact ⟨e,by simpa using e1,e2,e3,e5⟩)
    rcases hfn with ⟨j,e,q',g1,g2,g3,g4,g5,g6,g7⟩ | ⟨g1,g2,g3⟩
    ·have hj:ces[j]?=some e:=by simpa using g2
     have hjl:j<ces.size:=(Array.getElem?_eq_some_iff.1 hj).1
     have hborn:e.born=j:=by
      obtain ⟨⟨x,y⟩,hxy⟩:∃p,es[j]?=some p:=⟨_,List.getElem?_eq_getElem g6⟩
      obtain ⟨e',e1,_,_,e4,_⟩:=a7 j x y hxy
      rw [hj]at e1;cases e1
      exact e4
     rw [g4,WL g6 g7]
     simp only[Option.getD_some]
     obtain ⟨q1,q2⟩:=hput (CF es k q') (ces.modify j fun e=>{ e with key:=kv }) es.length (by rw[g7];simp) (by rw[g7];simp[a6]) (fun C' hle i a b hab=>by
      rw [g7]at hab
      by_cases hij:i=j
      ·subst hij
       rw [List.getElem?_set_self g6]at hab
       simp only[Option.some.injEq,Prod.mk.injEq]at hab
       obtain ⟨rfl,rfl⟩:=hab
       exact ⟨{ e with key:=kv },by simp[Array.getElem?_modify,hj],hk.mono hle,g5.mono hle,hborn,hki⟩
      ·rw [List.getElem?_set_ne (fun e=>hij e.symm)]at hab
       obtain ⟨e',e1,e2,e3,e4,e5⟩:=a7 i a b hab
       exact ⟨e',by simp[Array.getElem?_modify,e1,show ¬j=i from fun e=>hij e.symm],e2.mono hle,e3.mono hle,e4,e5⟩)
     refine ⟨.tuple #[e.val,.int .i64 j],_,_,?_,q1,q2,Agp (g5.mono q1) (.int _ _)⟩
     simp only[Instr.mapEntry,run_underlying h1,Sem.run_bind,Result.andThen,MapKept.run_getObj_map a5,hck,g1,hj,Option.map_some,Option.getD_some,g3,Hi h5 hk hki,MapKept.run_setObj_map _ a5]
     simp [goInt,hborn]
    ·rw [g2,Oa g2]
     simp only[Option.getD_none]
     obtain ⟨q1,q2⟩:=hput (CF es k (Bh zv)) (ces.push { key:=kv,val:=zv,born:=es.length }) (es.length+1) (by rw[g3];simp) (by rw[g3];simp[a6]) (fun C' hle i a b hab=>by
      rw [g3]at hab
      rcases Nat.lt_or_ge i es.length with hi' | hi'
      ·rw [List.getElem?_append_left hi']at hab
       obtain ⟨e',e1,e2,e3,e4,e5⟩:=a7 i a b hab
       exact ⟨e',by rw[Array.getElem?_push];simp[show i≠ces.size by omega,e1],e2.mono hle,e3.mono hle,e4,e5⟩
      ·rw [List.getElem?_append_right hi']at hab
       have : i=es.length:=by
        have :=(List.getElem?_eq_some_iff.1 hab).1
        simp at this;omega
       subst this
       simp at hab
       obtain ⟨rfl,rfl⟩:=hab
       exact ⟨{ key:=kv,val:=zv,born:=es.length },by rw[Array.getElem?_push];simp[a6],hk.mono hle,hzr,rfl,hki⟩)
     refine ⟨.tuple #[zv,.int .i64 es.length],_,_,?_,q1,q2,Agp hzr (.int _ _)⟩
     simp only[Instr.mapEntry,run_underlying h1,Sem.run_bind,Result.andThen,MapKept.run_getObj_map a5,hck,g1,hz,MapKept.run_setObj_map _ a5]
     simp [goInt]
   ·cases h
  ·cases h
 ·cases h
theorem LS (hi:Inv C st w) {t:TypeId} {m s x:Value} {pm ps px:PV} {st':Store} (hm:VR C m pm) (hs:VR C s ps) (hx:VR C x px) (h:FI st pm ps px=some st') :
  ∃ w' C',(Instr.entryStore t m s x).run P w=.ok () w'∧C.le C'∧Inv C' st' w':=by
 unfold FI at h
 split at h
 ·rename_i id gen kk n
  split at h
  ·rename_i g mk es ho
   split at h
   ·rename_i hc
    obtain ⟨rfl,hn⟩:=hc
    simp only[Option.map_eq_some_iff]at h
    obtain ⟨⟨ka,vb⟩,he,rfl⟩:=h
    obtain ⟨L,hL,hb,hat,rfl⟩:=hi.map ho hm
    have hput:=fun (es':List (PV×PV)) (ces':Array MapEntry) (clock':Nat)=>Inv.putMap (es':=es') hi ho hL hat ces' clock'
    obtain ⟨a1,a2,a3,a4,ces,a5,a6,a7⟩:=hat
    obtain ⟨j,rfl⟩:∃j:Nat,n=j:=⟨n.toNat,by omega⟩
    simp only[Int.toNat_natCast]at he ⊢
    have hjl:j<es.length:=(List.getElem?_eq_some_iff.1 he).1
    obtain ⟨e,f1,f2,f3,f4,f5⟩:=a7 j ka vb he
    have hfind:ces.findIdx? (fun e=>(e.born:Int)==(j:Int))=some j:=by
     rw [Array.findIdx?_eq_some_iff_getElem]
     have hlt:j<ces.size:=by omega
     refine ⟨hlt,?_,fun i hij=>?_⟩
     ·have : ces[j]=e:=by
       have :=(Array.getElem?_eq_some_iff.1 f1).2;exact this
      simp [this,f4]
     ·obtain ⟨⟨xa,yb⟩,hxy⟩:∃p,es[i]?=some p:=⟨_,List.getElem?_eq_getElem (by omega)⟩
      obtain ⟨e',e1,_,_,e4,_⟩:=a7 i xa yb hxy
      have : ces[i]=e':=(Array.getElem?_eq_some_iff.1 e1).2
      simp [this,e4]
      omega
    obtain ⟨q1,q2⟩:=hput (es.set j (ka,px)) (ces.modify j fun e=>{ e with val:=x }) es.length (by simp) (by simp[a6]) (fun C' hle i a b hab=>by
     by_cases hij:i=j
     ·subst hij
      rw [List.getElem?_set_self hjl]at hab
      simp only[Option.some.injEq,Prod.mk.injEq]at hab
      obtain ⟨rfl,rfl⟩:=hab
      exact ⟨{ e with val:=x },by simp[Array.getElem?_modify,f1],f2.mono hle,hx.mono hle,f4,f5⟩
     ·rw [List.getElem?_set_ne (fun e=>hij e.symm)]at hab
      obtain ⟨e',e1,e2,e3,e4,e5⟩:=a7 i a b hab
      exact ⟨e',by simp[Array.getElem?_modify,e1,show ¬j=i from fun e=>hij e.symm],e2.mono hle,e3.mono hle,e4,e5⟩)
    refine ⟨_,_,?_,q1,q2⟩
    have := Cc hs
    simp only[Instr.entryStore,Sem.run_bind,Result.andThen,MapKept.run_getObj_map a5,this,asInt,asIntOf,Sem.run_pure,hfind,MapKept.run_setObj_map _ a5]
   ·cases h
  ·cases h
 ·cases h
theorem Px (hi:Inv C st w) {t ty:TypeId} {m:Value} {pm:PV} {n:Int} {q:MK×PV} (hq:AY P t=some q) (hm:VR C m pm) (h:G5 st (some q) pm=some n) :
  (Builtin.len_ #[t] ty #[m]).run P w=.ok (.int .i64 n) w:=by
 obtain ⟨mk,z⟩:=q
 obtain ⟨kt,et,i,zv,h1,h2,h3,rfl,h5⟩:=DA hq
 simp only[G5,Option.bind_some]at h
 split at h
 ·simp only[Option.some.injEq]at h;subst h
  cases hm
  simp [Builtin.len_,run_underlying h1,goInt]
 ·split at h
  ·rename_i id gen g mk' es ho
   split at h
   ·rename_i hg;subst hg
    simp only[Option.some.injEq]at h;subst h
    obtain ⟨L,hL,hb,hat,rfl⟩:=hi.map ho hm
    obtain ⟨a1,a2,a3,a4,ces,a5,a6,a7⟩:=hat
    simp [Builtin.len_,run_underlying h1,MapKept.run_getObj_map a5,goInt,a6]
   ·cases h
  ·cases h
 ·cases h
theorem Inv.newBlk (hi:Inv C st w) {o:IObj} {ob:Obj} (hat:∀C':Ctx,C.le C'→C'.imm=C.imm→C'.B=C.B→ObjAt C' (w.alloc ob) ⟨w.heap.size,0,0,1,0⟩ o) :
  C.le (C.set st.next ⟨w.heap.size,0,0,1,0⟩)∧Inv (C.set st.next ⟨w.heap.size,0,0,1,0⟩) (st.new o) (w.alloc ob) :=
 hi.put (id:=st.next) (nx:=st.next+1) (o:=o) (L':=⟨w.heap.size,0,0,1,0⟩) (.inr (hi.next _ (Nat.le_refl _))) (.inr (.inl (Nat.le_refl _)))
  (fun b hb _=>Go.heap_alloc_old w _ hb) (by simp) (fun hle=>hat _ hle rfl rfl) (by omega) (by omega)
theorem LU {w:World} {ob:Obj}:(w.alloc ob).heap[w.heap.size]?=some ob:=(MapKept.heap_alloc w ob).1
theorem Rv (hi:Inv C st w) {b:Nat}:VR (C.set st.next ⟨b,0,0,1,0⟩) (.map (some b)) (.mref st.next 0) :=
 .mref _ _ _ rfl (.inl rfl) (fun L hL=>by simp[Ctx.set]at hL;subst hL;exact Nat.le_refl _) (fun L hL _=>by simp[Ctx.set]at hL;subst hL;rfl)
theorem Rw (hi:Inv C st w) {b:Nat}:VR (C.set st.next ⟨b,0,0,1,0⟩) (.pointer (some ⟨b,0,none⟩)) (.iter st.next 0) :=
 .iter _ _ _ rfl (.inl rfl) (fun L hL=>by simp[Ctx.set]at hL;subst hL;exact Nat.le_refl _) (fun L hL _=>by simp[Ctx.set]at hL;subst hL;rfl)
theorem NC (hi:Inv C st w) (mk:MK) :
  C.le (C.set st.next ⟨w.heap.size,0,0,1,0⟩)∧Inv (C.set st.next ⟨w.heap.size,0,0,1,0⟩) (st.new (.map 0 mk [])) (w.alloc (.map #[] 0)) :=
 hi.newBlk fun C' hle he hB=>⟨rfl,rfl,by rw[hB];exact hi.hB,fun o=>by rw[he];exact hi.immLt (Nat.le_refl _),#[],LU,rfl,by intro i k v h;simp at h⟩
theorem LV (hi:Inv C st w) {t:TypeId} {m:Value} {pm p:PV} {st':Store} (hm:VR C m pm) (h:ET st (AY P t) pm=some (p,st')) :
  ∃ v w' C',(Instr.range t m).run P w=.ok v w'∧C.le C'∧Inv C' st' w'∧VR C' v p:=by
 unfold ET at h
 simp only[Option.bind_eq_some_iff]at h
 obtain ⟨⟨mk,z⟩,ht,h⟩:=h
 obtain ⟨kt,et,i,zv,h1,h2,h3,rfl,h5⟩:=DA ht
 split at h
 ·simp only[Option.some.injEq,Prod.mk.injEq]at h;obtain⟨rfl,rfl⟩:=h
  cases hm
  obtain ⟨q1,q2⟩:=hi.newBlk (o:=.it none 0 []) (ob:=.mapIter none 0 #[] 0) fun C' hle he hB=>⟨rfl,rfl,by rw[hB];exact hi.hB,fun o=>by rw[he];exact hi.immLt (Nat.le_refl _),List.nodup_nil,by simp,rfl,LU⟩
  exact ⟨_,_,_,by simp[Instr.range,run_underlying h1],q1,q2,Rw hi⟩
 ·rename_i id gen
  split at h
  ·rename_i g mk' es ho
   split at h
   ·rename_i hg;subst hg
    simp only[Option.some.injEq,Prod.mk.injEq]at h;obtain⟨rfl,rfl⟩:=h
    have hm':=hm
    obtain ⟨L,hL,hb,hat,rfl⟩:=hi.map ho hm
    obtain ⟨a1,a2,a3,a4,ces,a5,a6,a7⟩:=hat
    obtain ⟨q1,q2⟩:=hi.newBlk (o:=.it (some (id,gen)) es.length []) (ob:=.mapIter (some L.blk) es.length #[] es.length) fun C' hle he hB=>by
     have hmC:=hm'.mono hle
     cases hmC with
     | mref _ _ _ m1 m2 m3 m4 =>
      refine ⟨rfl,rfl,by rw[hB];exact hi.hB,fun o=>by rw[he];exact hi.immLt (Nat.le_refl _),List.nodup_nil,by simp,m2,m3,L.blk,fun Lm hLm hgm=>?_,LU⟩
      have := m4 Lm hLm hgm
      simpa using this
    exact ⟨_,_,_,by simp[Instr.range,run_underlying h1,MapKept.run_getObj_map a5],q1,q2,Rw hi⟩
   ·cases h
  ·cases h
 ·cases h
theorem Inv.it (hi:Inv C st w) {id n:Nat} {m:Option (Nat×Nat)} {seen:List Nat} (ho:st.obj id=some (.it m n seen)) {v:Value} (hv:VR C v (.iter id 0)) :
  ∃ L,C.loc id=some L∧C.born id∧ObjAt C w L (.it m n seen)∧v=.pointer (some ⟨L.blk,0,none⟩):=by
 obtain ⟨hb,L,hL,hat⟩:=hi.obj id _ ho
 cases hv with
 | iter _ _ _ h1 h2 h3 h4=>exact⟨L,hL,hb,hat,h4 L hL hat.1.symm⟩
theorem LW (hi:Inv C st w) {x:Value} {px p:PV} (hx:VR C x px) (h:mapEntry st px=some p) :
  ∃ v,(Instr.entry x).run P w=.ok v w∧VR C v p:=by
 unfold mapEntry at h
 split at h
 ·rename_i id
  split at h
  ·rename_i m g n seen ho
   split at h
   ·rename_i g' mk es hom
    split at h
    ·rename_i hc
     obtain ⟨rfl,rfl⟩:=hc
     simp only[Option.bind_eq_some_iff,Option.map_eq_some_iff]at h
     obtain ⟨i,hlast,⟨k,v⟩,hes,rfl⟩:=h
     obtain ⟨L,hL,hb,hat,rfl⟩:=hi.it ho hx
     obtain ⟨b1,b2,b3,b4,b5,b6,b7,b8,mb,b9,b10⟩:=hat
     obtain ⟨hbm,Lm,hLm,hatm⟩:=hi.obj m _ hom
     have hmb:=b9 Lm hLm hatm.1.symm
     subst hmb
     obtain ⟨a1,a2,a3,a4,ces,a5,a6,a7⟩:=hatm
     obtain ⟨e,e1,e2,e3,e4,e5⟩:=a7 i k v hes
     have hget:(getObj L.blk).run P w=.ok (.mapIter (some Lm.blk) es.length seen.toArray es.length) w:=by simp[getObj,Sem.run,b10]
     have hback:seen.toArray.back?=some i:=by simpa using hlast
     have hfind:ces.find? (fun e=>e.born==i)=some e:=by
      obtain ⟨hlt,hget'⟩:=Array.getElem?_eq_some_iff.1 e1
      rw [Array.find?_eq_some_iff_getElem]
      refine ⟨by simp[e4],i,hlt,hget',fun j hj=>?_⟩
      obtain ⟨⟨a,b⟩,hab⟩:∃p,es[j]?=some p:=⟨_,List.getElem?_eq_getElem (by omega)⟩
      obtain ⟨e',f1,_,_,f4,_⟩:=a7 j a b hab
      have : ces[j]=e':=(Array.getElem?_eq_some_iff.1 f1).2
      rw [this];simp[f4];omega
     refine ⟨.tuple #[e.key,e.val],?_,.tuple _ _ rfl (fun j q hq=>?_)⟩
     ·simp [Instr.entry,hget,hback,MapKept.run_getObj_map a5,hfind]
     ·match j,hq with
      | 0,hq=>simp at hq;subst hq;exact e2
      | 1,hq=>simp at hq;subst hq;exact e3
      | n+2,hq=>simp at hq
    ·cases h
   ·cases h
  ·cases h
 ·cases h
theorem ND (hi:Inv C st w) {x:Value} {px:PV} {ty:TypeId} {K:PV→Store→Prop} (hx:VR C x px) (h:Ef st px K) :
  ∃ v w' C' p st',(Instr.next x false ty).run P w=.ok v w'∧C.le C'∧Inv C' st' w'∧VR C' v p∧K p st':=by
 have one:VR C (.tuple #[.bool false]) (.tuple [.bool false]):=.tuple _ _ rfl (fun j q hq=>by
  match j,hq with
  | 0,hq=>simp at hq;subst hq;exact .bool false
  | n+1,hq=>simp at hq)
 unfold Ef at h
 split at h
 ·rename_i id
  split at h
  ·rename_i n seen ho
   obtain ⟨L,hL,hb,hat,rfl⟩:=hi.it ho hx
   obtain ⟨b1,b2,b3,b4,b5,b6,b7,b8⟩:=hat
   have hget:(getObj L.blk).run P w=.ok (.mapIter none 0 #[] 0) w:=by simp[getObj,Sem.run,b8]
   exact ⟨_,w,C,_,st,by simp[Instr.next,hget],Ctx.le.refl C,hi,one,h⟩
  ·rename_i m g n seen ho
   split at h
   ·rename_i g' mk es hom
    obtain ⟨rfl,rfl,hend,hstep⟩:=h
    obtain ⟨L,hL,hb,hat,rfl⟩:=hi.it ho hx
    obtain ⟨b1,b2,b3,b4,b5,b6,b7,b8,mb,b9,b10⟩:=hat
    obtain ⟨hbm,Lm,hLm,hatm⟩:=hi.obj m _ hom
    have hmb:=b9 Lm hLm hatm.1.symm
    subst hmb
    obtain ⟨a1,a2,a3,a4,ces,a5,a6,a7⟩:=hatm
    have hborn:∀x∈ces.toList,x.born<es.length:=fun x hx=>by
     obtain ⟨i,hix⟩:=List.mem_iff_getElem?.1 hx
     have hlt:i<es.length:=by have:=(List.getElem?_eq_some_iff.1 hix).1;simp at this;omega
     obtain ⟨e,e1,_,_,e4,_⟩:=a7 i _ _ (List.getElem?_eq_getElem hlt)
     have : ces[i]?=some x:=by simpa using hix
     rw [this]at e1;cases e1;omega
    rcases run_next_at (P:=P) w ty L.blk Lm.blk es.length es.length seen.toArray ces es.length b10 a5 hborn (Nat.le_refl _)with ⟨hl,hrun⟩ | ⟨e,he,w1,hw1,hrun⟩
    ·refine ⟨_,w,C,_,st,hrun,Ctx.le.refl C,hi,one,hend ?_⟩
     -- all have been
     have hall:∀i,i<es.length→i∈seen:=fun i hlt=>by
      obtain ⟨e,e1,_,_,e4,_⟩:=a7 i _ _ (List.getElem?_eq_getElem hlt)
      have hem:e∈ces:=Array.mem_of_getElem? e1
      by_cases hs:i∈seen
      ·exact hs
      ·have : e∈leftOf ces seen.toArray:=by simp[leftOf,hem,e4,hs]
       have h0:=Array.size_pos_of_mem this
       omega
     have h1:es.length≤seen.length:=by
      have hsub:List.range es.length ⊆ seen:=fun i hi'=>hall i (List.mem_range.1 hi')
      have :=(List.nodup_range (n:=es.length)).length_le_of_subset hsub
      simpa using this
     have h2:seen.length≤es.length:=by
      have hsub:seen ⊆ List.range es.length:=fun i hi'=>List.mem_range.2 (b6 i hi')
      have := b5.length_le_of_subset hsub
      simpa using this
     omega
    ·have he2:e∈ces∧¬e.born∈seen:=by simpa [leftOf]using he
     obtain ⟨i,hix⟩:=Array.mem_iff_getElem?.1 he2.1
     have hlt:i<es.length:=by have:=(Array.getElem?_eq_some_iff.1 hix).1;omega
     obtain ⟨e',e1,e2,e3,e4,e5⟩:=a7 i _ _ (List.getElem?_eq_getElem hlt)
     rw [hix]at e1;cases e1
     have hlt0:id<st.next:=by
      rcases Nat.lt_or_ge id st.next with h | h
      ·exact h
      ·exact absurd hb (hi.next id h)
     have hi1:Inv C st w1:=by
      rcases hw1 with rfl | rfl
      ·exact hi
      ·exact hi.heap rfl
     have hw1h:w1.heap=w.heap:=by rcases hw1 with rfl | rfl <;> rfl
     have hblk:L.blk<w1.heap.size:=by rw[hw1h];exact (Array.getElem?_eq_some_iff.1 b10).1
     have hns:e.born ∉ seen:=he2.2
     obtain ⟨q1,q2⟩:=hi1.put (id:=id) (nx:=st.next) (o:=.it (some (m,g)) es.length (seen ++ [i])) (L':=L) (w':=ChangeMaps.setBlock w1 L.blk (.mapIter (some Lm.blk) es.length (seen.toArray.push e.born) es.length)) (.inl ⟨L,hL,.inl rfl⟩) (.inr (.inr ⟨L,hL,rfl,by omega⟩))
      (fun b hb hne=>by simp[ChangeMaps.setBlock,Array.getElem?_setIfInBounds_ne (Ne.symm (hne L hL (by omega)))]) (by simp[ChangeMaps.setBlock])
      (fun hle=>by
       refine ⟨b1,b2,b3,b4,?_,?_,hle.born _ b7,hle.genle b7 b8,Lm.blk,hle.live b7 b8 (R:=fun K=>Lm.blk=K.blk) b9,?_⟩
       ·rw [List.nodup_append]
        refine ⟨b5,by simp,?_⟩
        intro a ha b hb
        simp at hb;subst hb
        rintro rfl
        exact hns (by rw[e4];exact ha)
       ·intro j hj
        rcases List.mem_append.1 hj with hj | hj
        ·exact b6 j hj
        ·simp at hj;subst hj;exact hlt
       ·simp [ChangeMaps.setBlock,hblk,e4]) (Nat.le_refl _) hlt0
     refine ⟨_,_,_,_,_,hrun,q1,q2,?_,hstep i _ _ (List.getElem?_eq_getElem hlt) (by rw[←e4];exact hns)⟩
     refine .tuple _ _ rfl (fun j q hq=>?_)
     match j,hq with
     | 0,hq=>simp at hq;subst hq;exact .bool true
     | 1,hq=>simp at hq;subst hq;exact e2.mono q1
     | 2,hq=>simp at hq;subst hq;exact e3.mono q1
     | n+3,hq=>simp at hq
   ·exact h.elim
  ·exact h.elim
 ·exact h.elim
theorem cX (hi:Inv C st w) {y:Value} {py:PV} (hy:VR C y py) {ys:List PV} {z:Nat} (hz:0<z) (hs:∀s,py≠.str s) (h:Cj st z py=some ys) (m:Nat) (hm:m≤ys.length) :
  ∃ a len cap news,y=.slice a len cap∧len=ys.length∧Src P C w z (.slice a m cap) (ys.take m) news:=by
 cases py <;> simp only[Cj,reduceCtorEq]at h
 case nils =>
  cases hy
  simp at h;subst h
  simp at hm;subst hm
  exact ⟨none,0,0,[],rfl,rfl,Jt⟩
 case lits z' l =>
  split at h
  ·rename_i hzz
   simp at h;subst h;subst hzz
   cases hy with
   | lits b o size cap _ hcap hmax hszz hl hi' hv =>
    have hy':VR C (.slice (some ⟨b,o,none⟩) (l.take m).length cap) (.lits z' (l.take m)):=by
     refine .lits b o z' cap (l.take m) (by simp;omega) hmax hszz (fun e he=>hl e (List.mem_of_mem_take he)) (fun i j hi1 hj=>hi' i j (by simp at hi1;omega) hj) (fun i j e c he hc=>hv i j e c ?_ hc)
     simp only[List.getElem?_take]at he
     split at he
     ·exact he
     ·cases he
    obtain ⟨news,hn⟩:=FL (P:=P) hi hy' hz (ys:=l.take m) (by simp[Cj])
    rw [show (l.take m).length=m by simp;omega]at hn
    exact ⟨_,_,_,news,rfl,rfl,hn⟩
   | lits0 a cap z =>
    simp at hm;subst hm
    exact ⟨a,0,cap,[],rfl,rfl,Jt⟩
  ·cases h
 case ref id gen s n =>
  have h0:=h
  cases hes:st.arr? id gen with
  | none=>rw[hes]at h;cases h
  | some q =>
   obtain ⟨z',es⟩:=q
   rw [hes]at h
   simp only[Option.bind_some]at h
   split at h
   ·rename_i hsn
    obtain ⟨hsn,hz'⟩:=hsn
    simp at h
    have hyl:ys.length=n:=by subst h;simp;omega
    obtain ⟨K,hK,hb,hg,hKz,hzz,hcap,hat⟩:=hi.arr hes
    cases hy with
    | ref _ _ _ _ _ hv hb' hg' hr =>
     obtain ⟨a,rfl,h10,h11⟩:=hr K hK hg.symm
     have hy':VR C (.slice a m (K.cap-s)) (.ref id gen s m):=.ref _ _ _ _ _ rfl hb' hg' (fun L hL hgl=>by
      rw [hK]at hL;cases hL
      exact ⟨a,rfl,by omega,h11⟩)
     obtain ⟨news,hn⟩:=FL (P:=P) hi hy' hz (ys:=ys.take m) (by
      simp only[Cj,hes,Option.bind_some]
      rw [if_pos ⟨by omega,hz'⟩,←h]
      simp [List.take_take,Nat.min_eq_left (show m≤n by omega)])
     exact ⟨a,n,_,news,rfl,hyl.symm,hn⟩
   ·cases h
 case str s=>exact absurd rfl (hs s)
theorem UA (hi:Inv C st w) {x y:Value} {px py:PV} (hx:VR C x px) (hy:VR C y py) {t u ty:TypeId} {n:Nat} {st':Store} (h:Rf st (Ad P t) px py=some (n,st')) :
  ∃ w' C',(Builtin.copy_ #[t,u] ty #[x,y]).run P w=.ok (.int .i64 n) w'∧C.le C'∧Inv C' st' w':=by
 unfold Rf at h
 split at h
 ·rename_i id gen s n'
  simp only[Option.bind_eq_some_iff]at h
  obtain ⟨⟨z',es⟩,hes,h⟩:=h
  dsimp only at h
  split at h
  ·rename_i hc
   obtain ⟨hsn,hz',hz,hns⟩:=hc
   simp only[Option.bind_eq_some_iff,Option.some.injEq,Prod.mk.injEq]at h
   obtain ⟨ys,hys,rfl,rfl⟩:=h
   have hnstr:∀s,py≠.str s:=fun s e=>by subst e;simp[PV.isStr]at hns
   obtain ⟨e,i,zv,he,hin,hzv,hsz,hz16,hby,hzs,hzc,hcell,hel,hz0⟩:=Bv (t:=t) rfl hz
   obtain ⟨a2,len2,cap2,news,rfl,hl2,hsrc⟩:=cX (P:=P) hi hy hz hnstr hys (min ys.length n') (by omega)
   subst len2
   obtain ⟨K,hK,hb,hg,hKz,hzz,hcap,hat⟩:=hi.arr hes
   rw [hz']at hKz hzz
   have hylen:(ys.take (min ys.length n')).length=min ys.length n':=by simp
   cases hx with
   | ref _ _ _ _ _ hv hb' hg' hr =>
    obtain ⟨a,rfl,h10,h11⟩:=hr K hK hg.symm
    have hfc:(Builtin.firstCells (Ad P t) (min ys.length n') (.slice a2 ys.length cap2)).run P w=.ok news.toArray w:=by
     have := hsrc.2.2.1 w rfl
     rw [hylen]at this
     cases a2 <;> exact this
    rcases Nat.eq_zero_or_pos (min ys.length n')with h0 | h0
    ·have hn0:news = []:=List.eq_nil_of_length_eq_zero (by rw[hsrc.1,hylen,h0];simp)
     subst hn0
     refine ⟨w,C,?_,Ctx.le.refl C,?_⟩
     ·rw [h0]at hfc
      cases a <;> simp[Builtin.copy_,run_underlying he,Go.sizeOf,typeInfo,hin,hsz,Builtin.lenOf,show Nat.min ys.length n'=0 from h0,hfc,goInt,h0,storeCells]
     ·rw [h0]
      simp only[List.take_zero,List.append_nil,Nat.add_zero,List.take_append_drop]
      rw [←hz']
      exact hi.sameObj (arr?_parts hes)
    ·obtain ⟨h5,h6,cur,T,h7,h8,h9⟩:=hat (by omega)
     have ha:=h11 (by omega)
     rw [hKz]at ha h9
     have hnl:news.length=min ys.length n'*Ad P t:=by rw[hsrc.1,hylen]
     have hmb:=Nat.mul_le_mul_right K.size (show s+min ys.length n'≤K.cap by omega)
     rw [Nat.add_mul,hKz]at hmb
     have hfit2:K.off+s*Ad P t+news.length≤cur.size:=by rw[hnl];rw[hKz]at h8;omega
     have hst:=run_storeCells_at P K.blk (K.off+s*Ad P t) T news 0 cur w h7 (by simpa using hfit2) (hsrc.one hz)
     simp only[Nat.add_zero]at hst
     have hcells:∀i e,(es.take s++ys.take (min ys.length n')++es.drop (s+min ys.length n'))[i]?=some e→CellsAt C (cur.toList.take (K.off+s*Ad P t)++news++cur.toList.drop (K.off+s*Ad P t+news.length)).toArray (K.off+i*K.size) K.size e:=by
      intro i e hie
      rw [hKz]
      refine Gf (ys:=ys.take (min ys.length n')) hsrc.1 hfit2 h9 hsrc.2.2.2 ?_
      rw [hylen]
      have hlen1:(es.take s).length=s:=by simp;omega
      by_cases hin':s≤i∧i<s+min ys.length n'
      ·refine .inl ⟨hin'.1,?_⟩
       rw [List.append_assoc,List.getElem?_append_right (by omega),hlen1,List.getElem?_append_left (by omega)]at hie;exact hie
      ·refine .inr ⟨hin',?_⟩
       rcases Nat.lt_or_ge i s with h18 | h18
       ·rw [List.append_assoc,List.getElem?_append_left (by omega),List.getElem?_take_of_lt h18]at hie;exact hie
       ·have hlen2:(es.take s++ys.take (min ys.length n')).length=s+min ys.length n':=by rw[List.length_append,hlen1,hylen]
        rw [List.getElem?_append_right (by omega),hlen2,List.getElem?_drop]at hie
        rw [show i=s+min ys.length n'+(i-(s+min ys.length n')) by omega];exact hie
     obtain ⟨C',h12,h13,h14,h15⟩:=hi.reArr (gen':=gen) (L':=K) hes hK (by omega) (.inl rfl) hg rfl (by omega) (by simp;omega) (hi.arrMax hes hK) h7 (by rw[EL hfit2];exact h8) hcells
     rw [hKz]at h13
     refine ⟨_,C',?_,h12,h13⟩
     rw [ha]
     simp [Builtin.copy_,run_underlying he,Go.sizeOf,typeInfo,hin,hsz,Builtin.lenOf,show Nat.min ys.length n'=min ys.length n' from rfl,hfc,hst,goInt]
  ·cases h
 ·cases h
end
end Sim
