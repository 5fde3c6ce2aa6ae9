/- Fields, indices, parts of slices. -/
import Derived.Test.YtppljhpecoeakaaSimF
import Derived.Lib.Strings
set_option linter.unusedVariables false
set_option linter.unusedSimpArgs false
namespace Sim
open Go
section
variable {P:Program} {w:World} {C:Ctx} {st:Store}
theorem Hd {t:TypeId} {f o z:Nat} {u:TypeId} (h:Bc P t f=some (o,z,u)):∃(fs:Array Field) (x:Field),P.underlying t=some (.struct fs)∧fs[f]?=some x∧x.offset=o∧P.cellsOf x.type=z∧x.type=u:=by
 unfold Bc at h
 split at h
 ·rename_i fs hfs
  simp only[Option.map_eq_some_iff,Prod.mk.injEq]at h
  obtain ⟨x,hx,h1,h2,h3⟩:=h
  exact ⟨fs,x,hfs,hx,h1,h2,h3⟩
 ·cases h
theorem Po (hi:Inv C st w) {v:Value} {p q:PV} (hv:VR C v p) {o:Nat} (h:CX st p o=some q) :
  ∃ b k,v=.pointer (some ⟨b,k,none⟩)∧VR C (.pointer (some ⟨b,k+o,none⟩)) q:=by
 unfold CX at h
 split at h
 ·rename_i cells off
  cases hv with
  | vptr b k _ _ hc hi h' =>
   simp at h;subst h
   refine ⟨b,k+off,rfl,?_⟩
   rw [Nat.add_assoc];exact .vptr b k _ cells hc hi h'
 ·rename_i id g i x
  cases hes:st.arr? id g with
  | none=>rw[hes]at h;cases h
  | some es =>
   rw [hes]at h
   simp at h;subst h
   obtain ⟨L,hL,_,hg,_⟩:=hi.arr (z:=es.1) (es:=es.2) hes
   cases hv with
   | ptr _ _ _ _ _ hv hb hg' h' =>
    refine ⟨L.blk,L.off+i*L.size+x,h' L hL hg.symm,?_⟩
    refine .ptr _ _ _ _ _ rfl hb hg' (fun L' hL' _=>?_)
    rw [hL]at hL';cases hL'
    rw [Nat.add_assoc]
 ·cases h
theorem Pp {t:TypeId} {f o z b k:Nat} {u:TypeId} (h:Bc P t f=some (o,z,u)) (hz:0<z) :
  (Instr.fieldAt t (.pointer (some ⟨b,k,none⟩)) f).run P w=.ok (.pointer (some ⟨b,k+o,none⟩)) w:=by
 obtain ⟨fs,x,h1,h2,h3,h4,h5⟩:=Hd h
 have hs:=Cg (P:=P) (w:=w) (t:=x.type) (by omega)
 have hne:¬P.cellsOf x.type=0:=by omega
 simp [Instr.fieldAt,run_underlying h1,h2,Instr.sureAddr,fieldPlace,hs,hne,Ha,h3]
theorem GK {t e:TypeId} {b o len cap z:Nat} {k:IntKind} {i:Int} (ht:P.underlying t=some (.slice e)) (hz:P.cellsOf e=z) (hp:0<z) (h0:0≤i) (h1:i<len) :
  (Instr.indexAt t (.slice (some ⟨b,o,none⟩) len cap) (.int k i)).run P w=.ok (.pointer (some ⟨b,o+i.toNat*z,none⟩)) w:=by
 have hs:=Cg (P:=P) (w:=w) (t:=e) (by omega)
 simp [Instr.indexAt,asIntOf,run_underlying ht,h0,h1,hs,hz,Ha]
theorem GL {t e:TypeId} {b o n z:Nat} {k:IntKind} {i:Int} (ht:P.underlying t=some (.array n e)) (hz:P.cellsOf e=z) (hp:0<z) (h0:0≤i) (h1:i<n) :
  (Instr.indexAt t (.pointer (some ⟨b,o,none⟩)) (.int k i)).run P w=.ok (.pointer (some ⟨b,o+i.toNat*z,none⟩)) w:=by
 have hs:=Cg (P:=P) (w:=w) (t:=e) (by omega)
 simp [Instr.indexAt,asIntOf,run_underlying ht,h0,h1,hs,hz,Ha,Instr.sureAddr]
theorem Fp {t:TypeId} {n z:Nat} (h:BH P t=some (n,z)):∃e,P.underlying t=some (.array n e)∧P.cellsOf e=z:=by
 unfold BH at h
 split at h
 ·rename_i n' e he
  simp only[Option.some.injEq,Prod.mk.injEq]at h
  obtain ⟨rfl,rfl⟩:=h
  exact ⟨e,he,rfl⟩
 ·cases h
theorem Rl (hi:Inv C st w) {x:Value} {px q:PV} (hx:VR C x px) {t:TypeId} {k:IntKind} {i:Int} (h:Cv P st t px i=some q) :
  ∃ v,(Instr.indexAt t x (.int k i)).run P w=.ok v w∧VR C v q:=by
 unfold Cv at h
 split at h
 ·rename_i z l
  split at h
  ·rename_i hc
   obtain ⟨h0,h1,h2,h3⟩:=hc
   simp at h;subst h
   subst h2
   obtain ⟨e,_,_,ht,_,_,_,_,_,_,_,hz,_⟩:=Bv (t:=t) rfl h3
   have hlt:i.toNat<l.length:=by omega
   cases hx with
   | lits b o size cap _ hcap hmax hszz hl hi' hv =>
    have hmem:nth l i.toNat∈l:=List.mem_of_getElem? (CZ hlt)
    refine ⟨_,GK ht hz h3 h0 h1,?_⟩
    refine .vptr b (o+i.toNat*Ad P t) 0 _ (hl _ hmem).2 (fun j hj=>hi' _ j hlt (by have:=(hl _ hmem).1;omega)) (fun j c hj=>hv _ j _ c (CZ hlt) hj)
   | lits0 a cap z=>simp at hlt
  ·cases h
 ·rename_i id gen s n
  cases hes:st.arr? id gen with
  | none=>rw[hes]at h;cases h
  | some q =>
   obtain ⟨z,es⟩:=q
   rw [hes]at h
   simp only[Option.bind_some]at h
   split at h
   ·rename_i hc
    obtain ⟨h0,h1,h2,h3⟩:=hc
    simp at h;subst h
    obtain ⟨L,hL,hb,hg,hLz,h4,hcap,hat⟩:=hi.arr hes
    rw [h3]at h4
    obtain ⟨e,_,_,ht,_,_,_,_,_,_,_,hz,_⟩:=Bv (t:=t) rfl h4
    have hlt:s+i.toNat<es.length:=by omega
    have hsz:L.size=Ad P t:=by rw[hLz,h3]
    cases hx with
    | ref _ _ _ _ _ hv hb' hg' hr =>
     obtain ⟨a,rfl,h10,h11⟩:=hr L hL hg.symm
     have ha:=h11 (by omega)
     subst ha
     refine ⟨_,GK ht hz h4 h0 (by omega),?_⟩
     refine .ptr _ _ _ _ _ rfl hb' hg' (fun L' hL' _=>?_)
     rw [hL]at hL';cases hL'
     rw [←hsz,Nat.add_mul]
     congr 3;omega
   ·cases h
 ·rename_i cells off
  cases ha:BH P t with
  | none=>rw[ha]at h;cases h
  | some nz =>
   obtain ⟨n,z⟩:=nz
   rw [ha]at h
   simp only[Option.bind_some]at h
   split at h
   ·rename_i hc
    simp at h;subst h
    obtain ⟨e,ht,hz⟩:=Fp ha
    cases hx with
    | vptr b o _ _ hcc hii hv =>
     refine ⟨_,GL ht hz hc.2.2 hc.1 hc.2.1,?_⟩
     rw [Nat.add_assoc];exact .vptr b o _ cells hcc hii hv
   ·cases h
 ·rename_i id gen idx off
  cases hes:st.arr? id gen with
  | none=>rw[hes]at h;cases h
  | some es =>
   rw [hes]at h
   simp only[Option.bind_some]at h
   cases ha:BH P t with
   | none=>rw[ha]at h;cases h
   | some nz =>
    obtain ⟨n,z⟩:=nz
    rw [ha]at h
    simp only[Option.bind_some]at h
    split at h
    ·rename_i hc
     simp at h;subst h
     obtain ⟨e,ht,hz⟩:=Fp ha
     obtain ⟨L,hL,_,hg,_⟩:=hi.arr (z:=es.1) (es:=es.2) hes
     cases hx with
     | ptr _ _ _ _ _ hv hb hg' h' =>
      rw [h' L hL hg.symm]
      refine ⟨_,GL ht hz hc.2.2 hc.1 hc.2.1,?_⟩
      refine .ptr _ _ _ _ _ rfl hb hg' (fun L' hL' _=>?_)
      rw [hL]at hL';cases hL'
      rw [Nat.add_assoc]
    ·cases h
 ·cases h
theorem VR.agg_get {v:Value} {l:List PV} (h:VR C v (.agg l)):∃cs:Array Value,v=.agg cs∧cs.size=l.length∧(∀c∈l,c.isCell=true)∧∀i p,l[i]?=some p→cs[i]?=some (cs.getD i undef)∧VR C (cs.getD i undef) p:=by
 cases h with
 | agg cs _ hn hc h =>
  refine ⟨cs,rfl,hn,hc,fun i p hi=>⟨?_,h i p hi⟩⟩
  have : i<cs.size:=by have:=(List.getElem?_eq_some_iff.1 hi).1;omega
  simp [Array.getD,this]
theorem D8 {cs:Array Value} {l:List PV} (hn:cs.size=l.length) (hc:∀c∈l,c.isCell=true) (hv:∀i p,l[i]?=some p→VR C (cs.getD i undef) p) {t:TypeId} {z:Nat} {ag:Bool}
  (ht : Bu P t=some (z,ag)) {off:Nat} {p:PV} (h:CI l off z ag=some p):∃u,(part t cs off).run P w=.ok u w∧VR C u p:=by
 obtain ⟨⟨d,hd⟩,hpos,rfl,rfl⟩:=D6 ht
 unfold CI at h
 unfold part
 simp only[Sem.run_bind,LO hd,Result.andThen]
 split at h
 ·rename_i hag
  simp only[hag,if_true]
  split at h
  ·rename_i hle
   simp only[Option.some.injEq]at h
   subst h
   refine ⟨.agg (cs.extract off (off+P.cellsOf t)),by simp[Cg hpos],.agg _ _ (by simp;omega) (fun c hc'=>?_) (fun i p hi=>?_)⟩
   ·exact hc c (List.mem_of_mem_drop (List.mem_of_mem_take hc'))
   ·simp only[List.getElem?_take]at hi
    split at hi
    ·rename_i hiz
     simp only[List.getElem?_drop]at hi
     have := hv _ _ hi
     have h1:off+i<cs.size:=by have:=(List.getElem?_eq_some_iff.1 hi).1;omega
     have h2:i<(cs.extract off (off+P.cellsOf t)).size:=by simp;omega
     simp only[Array.getD,h1,h2,dif_pos]at this ⊢
     simpa [Array.getInternal_eq_getElem,Array.getElem_extract]using this
    ·cases hi
  ·cases h
 ·rename_i hag
  have h1:off<cs.size:=by have:=(List.getElem?_eq_some_iff.1 h).1;omega
  refine ⟨cs.getD off undef,?_,hv _ _ h⟩
  simp [hag,Array.getElem?_eq_getElem h1,Array.getD,h1]
theorem Rm {v:Value} {l:List PV} (h:VR C v (.agg l)) {t u:TypeId} {f o z' z:Nat} {ag:Bool} (hf:Bc P t f=some (o,z',u)) (hl:Bu P u=some (z,ag)) {p:PV}
  (hp : CI l o z ag=some p):∃x,(Instr.field t v f).run P w=.ok x w∧VR C x p:=by
 obtain ⟨fs,x,h1,h2,h3,h4,h5⟩:=Hd hf
 obtain ⟨cs,rfl,hn,hc,hv⟩:=h.agg_get
 obtain ⟨y,hy,hy'⟩:=D8 (P:=P) (w:=w) hn hc (fun i p hi=>(hv i p hi).2) hl hp
 refine ⟨y,?_,hy'⟩
 simp [Instr.field,run_underlying h1,h2,asAgg,h3,h5,hy]
theorem Nz {v:Value} {l:List PV} (h:VR C v (.tuple l)) {i:Nat} {p:PV} (hp:l[i]?=some p):∃x,(Instr.extract v i).run P w=.ok x w∧VR C x p:=by
 cases h with
 | tuple cs _ hn h =>
  have : i<cs.size:=by have:=(List.getElem?_eq_some_iff.1 hp).1;omega
  refine ⟨cs.getD i undef,?_,h i p hp⟩
  simp [Instr.extract,Array.getElem?_eq_getElem this,Array.getD,this]
theorem Dz {t:TypeId} (h:AT P t=true):P.underlying t=some .string:=by
 unfold AT at h;split at h
 ·assumption
 ·cases h
theorem Pq {x:Value} {px q:PV} (hx:VR C x px) {t:TypeId} {k:IntKind} {i:Int} (h:IJ P t px i=some q) :
  ∃ v,(Instr.index t x (.int k i)).run P w=.ok v w∧VR C v q:=by
 unfold IJ at h
 split at h
 ·rename_i s
  split at h
  ·rename_i hc
   obtain ⟨h0,h1,h2⟩:=hc
   simp only[Option.some.injEq]at h;subst h
   cases hx with
   | str s _ hs _ =>
    subst hs
    have hlt:i.toNat<s.data.size:=by rw[Array.length_toList]at h1;omega
    refine ⟨.int .u8 ((s.data.toList.getD i.toNat 0).toNat:Int),?_,.int _ _⟩
    have hb:s[i.toNat]?=some (s.data.toList.getD i.toNat 0):=by
     have e1:s[i.toNat]?=s.data[i.toNat]?:=by
      show (if h:i.toNat<s.size then some (s[i.toNat]'h)else none)=_
      have h3:i.toNat<s.size:=hlt
      rw [dif_pos h3,Array.getElem?_eq_getElem hlt];rfl
     rw [e1,Array.getElem?_eq_getElem hlt]
     simp [List.getD,Array.getElem?_eq_getElem hlt]
    simp [Instr.index,asIntOf,run_underlying (Dz h2),h0,hb]
  ·cases h
 ·rename_i cs
  cases ha:II P t with
  | none=>rw[ha]at h;cases h
  | some ne =>
   obtain ⟨n,e⟩:=ne
   rw [ha]at h
   simp only[Option.bind_some]at h
   cases hl:Bu P e with
   | none=>rw[hl]at h;cases h
   | some za =>
    obtain ⟨z,ag⟩:=za
    rw [hl]at h
    simp only[Option.bind_some]at h
    split at h
    ·rename_i hc
     obtain ⟨h0,h1⟩:=hc
     have ht:P.underlying t=some (.array n e):=by
      unfold II at ha;split at ha
      ·simp only[Option.some.injEq,Prod.mk.injEq]at ha;obtain⟨rfl,rfl⟩:=ha;assumption
      ·cases ha
     obtain ⟨cs,rfl,hn,hcc,hv⟩:=hx.agg_get
     obtain ⟨y,hy,hy'⟩:=D8 (P:=P) (w:=w) hn hcc (fun i p hi=>(hv i p hi).2) hl h
     refine ⟨y,?_,hy'⟩
     obtain ⟨_,hpos,rfl,_⟩:=D6 hl
     simp [Instr.index,asIntOf,run_underlying ht,h0,h1,Cg hpos,hy]
    ·cases h
 ·cases h
end
end Sim
namespace Sim
open Go
section
variable {P:Program} {w:World} {C:Ctx} {st:Store}
theorem IP {bb:Bool} {len cap:Nat} {lo hi:Option Value} {l h:Int} (hlo:(lo=none∧l=0)∨∃k,lo=some (.int k l)) (hhi:(hi=none∧h=len)∨∃k,hi=some (.int k h))
  (h0 : 0≤l) (h1:l≤h) (h2:h≤cap):(Instr.sliceBounds bb len cap lo hi none).run P w=.ok (l.toNat,h.toNat,cap) w:=by
 have h3:0≤h:=by omega
 rcases hlo with ⟨rfl,rfl⟩ | ⟨k,rfl⟩ <;> rcases hhi with ⟨rfl,rfl⟩ | ⟨k',rfl⟩
 ·simp [Instr.sliceBounds]
 ·simp [Instr.sliceBounds,Instr.sliceBound,asIntOf,h3,h2]
 ·have : l≤(len:Int):=h1
  simp [Instr.sliceBounds,Instr.sliceBound,asIntOf,h0,this]
 ·have e:((h.toNat:Nat):Int)=h:=Int.toNat_of_nonneg h3
  simp [Instr.sliceBounds,Instr.sliceBound,asIntOf,h3,h2,h0,h1,e]
theorem Rn {p:PV} {n:Int} (h:CY p=some n):∃k,p=.int k n:=by
 unfold CY at h;split at h
 ·simp at h;subst h;exact⟨_,rfl⟩
 ·cases h
theorem Eg {t e:TypeId} {a:Option Addr} {len cap z:Nat} {lo hi:Option Value} {l h:Int} (ht:P.underlying t=some (.slice e)) (hz:P.cellsOf e=z) (hp:0<z)
  (hlo : (lo=none∧l=0)∨∃k,lo=some (.int k l)) (hhi:(hi=none∧h=len)∨∃k,hi=some (.int k h)) (h0:0≤l) (h1:l≤h) (h2:h≤cap) :
  (Instr.sliceAt t (.slice a len cap) lo hi none).run P w=.ok (.slice (if cap=l.toNat then a else a.map (·.add (l.toNat*z))) (h.toNat-l.toNat) (cap-l.toNat)) w:=by
 have hs:=Cg (P:=P) (w:=w) (t:=e) (by omega)
 simp [Instr.sliceAt,run_underlying ht,Instr.slice,IP (bb:=true) hlo hhi h0 h1 h2,hs,hz]
theorem NA {t:TypeId} {s:ByteArray} {lo hi:Option Value} {l h:Int} (ht:P.underlying t=some .string)
  (hlo : (lo=none∧l=0)∨∃k,lo=some (.int k l)) (hhi:(hi=none∧h=s.size)∨∃k,hi=some (.int k h)) (h0:0≤l) (h1:l≤h) (h2:h≤s.size) :
  (Instr.sliceAt t (.string s) lo hi none).run P w=.ok (.string (s.extract l.toNat h.toNat)) w:=by
 simp [Instr.sliceAt,run_underlying ht,Instr.slice,IP (bb:=false) hlo hhi h0 h1 h2]
theorem cV {ev:Operand→Value} {ρ:Operand→PV} {lo:Option Operand} {l:Option Int} (hev:∀x,lo=some x→VR C (ev x) (ρ x)) (h:lo.map (CY∘ρ)=l.map some) (d:Int) :
  (lo.map ev=none∧l.getD d=d)∨∃k,lo.map ev=some (.int k (l.getD d)):=by
 cases lo with
 | none=>cases l with
  | none=>exact .inl ⟨rfl,rfl⟩
  | some l=>simp at h
 | some x=>cases l with
  | none=>simp at h
  | some l =>
   simp only[Option.map_some,Function.comp_apply,Option.some.injEq]at h
   obtain ⟨k,hk⟩:=Rn h
   have := hev x rfl
   rw [hk]at this
   refine .inr ⟨k,?_⟩
   cases hx:ev x with
   | int k' n=>rw[hx]at this;cases this;simp[hx]
   | _=>rw[hx]at this;cases this
theorem K7 (hi:Inv C st w) {x:Value} {px q:PV} (hx:VR C x px) {t:TypeId} {lo hii:Option Value} {l h:Option Int}
  (hlo : ∀d,(lo=none∧l.getD d=d)∨∃k,lo=some (.int k (l.getD d))) (hhi:∀d,(hii=none∧h.getD d=d)∨∃k,hii=some (.int k (h.getD d)))
  (hq : Ck st (Ad P t) (AT P t) (BH P t) px l h=some q) :
  ∃ v,(Instr.sliceAt t x lo hii none).run P w=.ok v w∧VR C v q:=by
 unfold Ck at hq
 split at hq
 ·split at hq
  ·rename_i hc
   obtain ⟨h1,h2,h3⟩:=hc
   simp at hq;subst hq
   obtain ⟨e,_,_,he,_,_,_,_,_,_,_,hz,_⟩:=Bv (t:=t) rfl h3
   cases hx
   have := Eg (P:=P) (w:=w) (a:=none) (len:=0) (cap:=0) he hz h3 (hlo 0) (hhi 0) (by omega) (by omega) (by omega)
   refine ⟨_,this,?_⟩
   rw [h1,h2];exact .nils
  ·cases hq
 ·rename_i z' ls
  split at hq
  ·rename_i hc
   obtain ⟨h0,h1,h2,hzz',hz0⟩:=hc
   simp at hq;subst hq
   subst hzz'
   obtain ⟨e,_,_,he,_,_,_,_,_,_,_,hz,_⟩:=Bv (t:=t) rfl hz0
   generalize hl:l.getD 0=L at *
   have hlo':=hlo 0;rw[hl]at hlo'
   have hhi':=hhi ls.length
   generalize hh:h.getD (ls.length:Int)=H at *
   cases hx with
   | lits b o size cap _ hcap hmax hszz hle hi' hv =>
    refine ⟨_,Eg (P:=P) (w:=w) he hz hz0 hlo' hhi' h0 h1 (by omega),?_⟩
    by_cases hne:H.toNat-L.toNat=0
    ·rw [hne,List.take_zero];exact .lits0 _ _ _
    ·have hlen:ls.length≠0:=by omega
     rw [if_neg (by omega)]
     simp only[Option.map_some,Ha]
     have hn:H.toNat-L.toNat=((ls.drop L.toNat).take (H.toNat-L.toNat)).length:=by simp;omega
     rw [hn]
     rw [←hn]
     have key:∀i e,((ls.drop L.toNat).take (H.toNat-L.toNat))[i]?=some e→ls[L.toNat+i]?=some e:=by
      intro i e he
      simp only[List.getElem?_take]at he
      split at he
      ·simpa [List.getElem?_drop]using he
      ·cases he
     have hlen2:((ls.drop L.toNat).take (H.toNat-L.toNat)).length=H.toNat-L.toNat:=hn.symm
     have goal:VR C (.slice (some ⟨b,o+L.toNat*Ad P t,none⟩) ((ls.drop L.toNat).take (H.toNat-L.toNat)).length (cap-L.toNat)) (.lits (Ad P t) ((ls.drop L.toNat).take (H.toNat-L.toNat))):=by
      refine .lits b (o+L.toNat*Ad P t) (Ad P t) _ _ (by omega) (by omega) hz0 (fun e he=>?_) (fun i j hi1 hj=>?_) (fun i j e c he hj=>?_)
      ·exact hle e (List.mem_of_mem_drop (List.mem_of_mem_take he))
      ·have := hi' (L.toNat+i) j (by omega) hj
       rw [Nat.add_mul]at this
       rw [show o+L.toNat*Ad P t+i*Ad P t+j=o+(L.toNat*Ad P t+i*Ad P t)+j by omega];exact this
      ·have := hv _ j e c (key i e he) hj
       rw [Nat.add_mul]at this
       rw [show o+L.toNat*Ad P t+i*Ad P t+j=o+(L.toNat*Ad P t+i*Ad P t)+j by omega];exact this
     rw [hlen2]at goal;exact goal
   | lits0 a cap z =>
    refine ⟨_,Eg (P:=P) (w:=w) he hz hz0 hlo' hhi' h0 h1 (by simp at h2;omega),?_⟩
    have : H.toNat-L.toNat=0:=by simp at h2;omega
    rw [this,List.take_zero];exact .lits0 _ _ _
  ·cases hq
 ·rename_i id gen s n
  cases hes:st.arr? id gen with
  | none=>rw[hes]at hq;cases hq
  | some q =>
   obtain ⟨z',es⟩:=q
   rw [hes]at hq
   simp only[Option.bind_some]at hq
   split at hq
   ·rename_i hc
    obtain ⟨h0,h1,h2,h3,h4⟩:=hc
    simp at hq;subst hq
    obtain ⟨K,hK,hb,hg,hKz,hz0,hcap,hat⟩:=hi.arr hes
    rw [h4]at hz0
    obtain ⟨e,_,_,he,_,_,_,_,_,_,_,hz,_⟩:=Bv (t:=t) rfl hz0
    generalize hl:l.getD 0=L at *
    have hlo':=hlo 0;rw[hl]at hlo'
    have hhi':=hhi n
    generalize hh:h.getD (n:Int)=H at *
    cases hx with
    | ref _ _ _ _ _ hv hb' hg' hr =>
     obtain ⟨a,rfl,h10,h11⟩:=hr K hK hg.symm
     refine ⟨_,Eg (P:=P) (w:=w) he hz hz0 hlo' hhi' h0 h1 (by omega),?_⟩
     refine .ref _ _ _ _ _ rfl hb' hg' (fun L' hL' _=>?_)
     rw [hK]at hL';cases hL'
     refine ⟨if K.cap-s=L.toNat then a else a.map (·.add (L.toNat*Ad P t)),?_,by omega,fun hlt=>?_⟩
     ·rw [show K.cap-(s+L.toNat)=K.cap-s-L.toNat by omega]
     ·have hlt':s+L.toNat<K.cap:=hlt
      rw [if_neg (by omega),h11 (by omega)]
      simp only[Option.map_some,Ha]
      by_cases hL0:L.toNat=0
      ·simp [hL0]
      ·have hsz:K.size=Ad P t:=by rw[hKz,h4]
       rw [hsz,Nat.add_mul,Nat.add_assoc]
   ·cases hq
 ·rename_i s
  split at hq
  ·rename_i hc
   obtain ⟨h0,h1,h2,hst⟩:=hc
   simp at hq;subst hq
   generalize hl:l.getD 0=L at *
   have hlo':=hlo 0;rw[hl]at hlo'
   have hhi':=hhi s.length
   generalize hh:h.getD (s.length:Int)=H at *
   cases hx with
   | str s' _ hs hsm =>
    subst hs
    have hsz:(s'.data.toList.length:Int)=(s'.size:Int):=by rw[Array.length_toList];rfl
    rw [hsz]at hhi' h2
    refine ⟨_,NA (P:=P) (w:=w) (Dz hst) hlo' hhi' h0 h1 h2,.str _ _ ?_ (by simp only[List.length_take,List.length_drop];omega)⟩
    rw [Go.Lib.extract_data]
  ·cases hq
 ·rename_i cs off
  simp only[Option.bind_eq_some_iff]at hq
  obtain ⟨⟨n,m⟩,har,hq⟩:=hq
  dsimp only at hq
  split at hq
  ·rename_i hc
   obtain ⟨rfl,rfl,rfl,hoff,h0,hm⟩:=hc
   simp only[Option.some.injEq]at hq;subst hq
   obtain ⟨e,he,hz⟩:=Fp har
   have hnone:∀ {o:Option Value},(∀d:Int,(o=none∧(none:Option Int).getD d=d)∨∃k,o=some (.int k ((none:Option Int).getD d)))→o=none:=by
    intro o hh
    rcases hh 0 with ⟨g,_⟩ | ⟨k,g⟩
    ·exact g
    ·rcases hh 1 with ⟨g',_⟩ | ⟨k',g'⟩
     ·exact g'
     ·rw [g]at g';simp at g'
   have e1:=hnone hlo
   have e2:=hnone hhi
   subst e1 e2
   cases hx with
   | vptr b o _ _ hcell hi' hv =>
    have hs:=Cg (P:=P) (w:=w) (t:=e) (by omega)
    have hb:=IP (P:=P) (w:=w) (bb:=false) (len:=n) (cap:=n) (lo:=none) (hi:=none) (l:=0) (h:=n) (.inl ⟨rfl,rfl⟩) (.inl ⟨rfl,rfl⟩) (by omega) (by omega) (by omega)
    have hcs:∀c∈cs,c.cells = [c]:=fun c hc=>by
     have := hcell c hc
     cases c <;> first | rfl | cases this
    have hin:∀c∈(cs.drop off).take n,c∈cs:=fun c hc=>List.mem_of_mem_drop (List.mem_of_mem_take hc)
    have hlen:((cs.drop off).take n).length=n:=by rw[List.length_take,List.length_drop];omega
    have hat:∀i e,((cs.drop off).take n)[i]?=some e→i<n∧cs[off+i]?=some e:=fun i e he=>by
     rw [List.getElem?_take]at he
     split at he
     ·rw [List.getElem?_drop]at he;exact⟨by omega,he⟩
     ·cases he
    have goal:VR C (.slice (some ⟨b,o+off,none⟩) ((cs.drop off).take n).length n) (.lits 1 ((cs.drop off).take n)):=by
     refine .lits b (o+off) 1 n _ (by omega) (by unfold maxLen;omega) (by omega) (fun c hc=>⟨by rw[hcs c (hin c hc)];rfl,fun d hd=>by rw[hcs c (hin c hc)]at hd;simp at hd;subst hd;exact hcell d (hin d hc)⟩) (fun i j hi1 hj=>?_) (fun i j e c he hj=>?_)
     ·have : j=0:=by omega
      subst this
      have := hi' (off+i) (by omega)
      rw [show o+off+i*1+0=o+(off+i) by omega];exact this
     ·obtain ⟨hin',hat'⟩:=hat i e he
      have hce:=hcs e (List.mem_of_getElem? hat')
      rw [hce]at hj
      have : j=0:=by
       rcases j with _ | j
       ·rfl
       ·simp at hj
      subst this
      simp at hj
      subst hj
      have := hv (off+i) e hat'
      rw [show o+off+i*1+0=o+(off+i) by omega];exact this
    rw [hlen]at goal
    exact ⟨.slice (some ⟨b,o+off,none⟩) n n,by simp[Instr.sliceAt,run_underlying he,Instr.sureAddr,hb,hs,hz,Addr.add],goal⟩
  ·cases hq
 ·cases hq
theorem Yk (hi:Inv C st w) {x:Value} {px:PV} (hx:VR C x px) {t ty:TypeId} {n:Int} (h:Jp st (Ad P t) (AT P t) px=some n) :
  (Builtin.len_ #[t] ty #[x]).run P w=.ok (.int .i64 n) w:=by
 have slc:0<Ad P t→∀ {a:Option Addr} {len cap:Nat},(Builtin.len_ #[t] ty #[.slice a len cap]).run P w=.ok (.int .i64 len) w:=fun h0 a len cap=>by
  obtain ⟨e,_,_,he,_⟩:=Bv (t:=t) rfl h0
  simp [Builtin.len_,run_underlying he,goInt]
 unfold Jp at h
 split at h
 ·split at h
  ·simp at h;subst h;cases hx;exact slc (by assumption)
  ·cases h
 ·split at h
  ·simp at h;subst h
   cases hx
   ·exact slc (by assumption)
   ·exact slc (by assumption)
  ·cases h
 ·rename_i id gen s n'
  cases hes:st.arr? id gen with
  | none=>rw[hes]at h;cases h
  | some q =>
   obtain ⟨z',es⟩:=q
   rw [hes]at h
   simp only[Option.bind_some]at h
   split at h
   ·simp at h;subst h
    obtain ⟨K,hK,hb,hg,_⟩:=hi.arr hes
    cases hx with
    | ref _ _ _ _ _ hv hb' hg' hr =>
     obtain ⟨a,rfl,_⟩:=hr K hK hg.symm
     exact slc (by assumption)
   ·cases h
 ·split at h
  ·rename_i hst
   simp at h;subst h
   cases hx with
   | str s _ hs hsm =>
    subst hs
    simp [Builtin.len_,run_underlying (Dz hst),goInt]
  ·cases h
 ·cases h
end
end Sim
namespace Sim
open Go
section
variable {P:Program} {w:World} {C:Ctx} {st:Store}
def Src (P:Program) (C:Ctx) (w:World) (z:Nat) (y:Value) (ys:List PV) (news:List Value):Prop :=
 news.length = ys.length*z∧(Builtin.lenOf y).run P w=.ok ys.length w∧(∀w':World,w'.heap=w.heap→(Builtin.firstCells z ys.length y).run P w'=.ok news.toArray w') ∧
  (∀ i e,ys[i]?=some e→CellsAt C news.toArray (i*z) z e)
theorem Src.one {z:Nat} {y:Value} {ys:List PV} {news:List Value} (h:Src P C w z y ys news) (hz:0<z):∀x∈news,x.oneCell'=true:=by
 intro x hx
 obtain ⟨k,hk⟩:=List.mem_iff_getElem?.1 hx
 have hlt:k<ys.length*z:=by rw[←h.1];exact (List.getElem?_eq_some_iff.1 hk).1
 have hi:k / z<ys.length:=Nat.div_lt_of_lt_mul (by rw[Nat.mul_comm];exact hlt)
 have hj:k % z<z:=Nat.mod_lt _ hz
 obtain ⟨h1,h2,h3⟩:=h.2.2.2 (k / z) _ (CZ hi)
 have hc:(nth ys (k / z)).cells[k % z]?=some ((nth ys (k / z)).cells.getD (k % z) .bad):=by simp[List.getD,show k % z<(nth ys (k / z)).cells.length by omega]
 have h4:=h3 _ _ hc
 have e1:k / z*z+k % z=k:=by rw[Nat.mul_comm];exact Nat.div_add_mod k z
 rw [e1]at h4
 have h5:news.toArray.getD k undef=x:=by
  have : k<news.length:=(List.getElem?_eq_some_iff.1 hk).1
  have h6:=(List.getElem?_eq_some_iff.1 hk).2
  simp [Array.getD,this,h6]
 rw [h5]at h4
 exact h4.oneCell (h2 _ (List.mem_of_getElem? hc))
theorem Jt {z:Nat} {a:Option Addr} {cap:Nat}:Src P C w z (.slice a 0 cap) [] []:=by
 refine ⟨by simp,by simp[Builtin.lenOf],fun w' _=>?_,by intro i e h;simp at h⟩
 cases a <;> simp[Builtin.firstCells,loadCells,loadCellsFrom]
theorem WE {z:Nat} {ys:List PV} {b o cap:Nat} (f:Nat→Value) (hf:∀k,k<ys.length*z→w.cell? ⟨b,o+k,none⟩=some (f k))
  (hc : ∀i e j c,ys[i]?=some e→e.cells[j]?=some c→VR C (f (i*z+j)) c) (hl:∀e∈ys,e.cells.length=z∧∀c∈e.cells,c.isCell=true) :
  Src P C w z (.slice (some ⟨b,o,none⟩) ys.length cap) ys ((List.range (ys.length*z)).map f):=by
 refine ⟨by simp,by simp[Builtin.lenOf],fun w' hw'=>?_,fun i e he=>?_⟩
 ·exact run_firstCells_some w' z ys.length ⟨b,o,none⟩ ys.length cap _ (by simp) (fun j v hj=>by
   simp only[List.getElem?_map,Option.map_eq_some_iff]at hj
   obtain ⟨k,hk,rfl⟩:=hj
   have hlt:j<ys.length*z:=by have:=(List.getElem?_eq_some_iff.1 hk).1;simpa using this
   have : k=j:=by rw[List.getElem?_range hlt]at hk;exact (Option.some.inj hk).symm
   subst this
   rw [Ha,cell?_heap (w:=w) (by rw[hw'])];exact hf k hlt)
 ·obtain ⟨h1,h2⟩:=hl e (List.mem_of_getElem? he)
  refine ⟨h1,h2,fun j c hj=>?_⟩
  have hi:i<ys.length:=(List.getElem?_eq_some_iff.1 he).1
  have hj':j<z:=by have:=(List.getElem?_eq_some_iff.1 hj).1;omega
  have hb:=Bg (z:=z) hi (Nat.le_refl _)
  have : i*z+j<ys.length*z:=by omega
  have e1:((List.range (ys.length*z)).map f).toArray.getD (i*z+j) undef=f (i*z+j):=by
   simp [Array.getD,this]
  rw [e1];exact hc i e j c he hj
theorem FL (hi:Inv C st w) {y:Value} {py:PV} (hy:VR C y py) {ys:List PV} {z:Nat} (hz:0<z) (h:Cj st z py=some ys) :
  ∃ news,Src P C w z y ys news:=by
 unfold Cj at h
 split at h
 ·simp at h;subst h;cases hy;exact⟨[],Jt⟩
 ·split at h
  ·rename_i hzz
   simp at h;subst h;subst hzz
   cases hy with
   | lits b o size cap _ hcap hmax hszz hl hi' hv =>
    rename_i size l
    refine ⟨_,WE (fun k=>(C.imm b (o+k)).getD undef) (fun k hk=>?_) (fun i e j c he hj=>?_) hl⟩
    ·have hi1:k / size<l.length:=Nat.div_lt_of_lt_mul (by rw[Nat.mul_comm];exact hk)
     have := hi' (k / size) (k % size) hi1 (Nat.mod_lt _ hz)
     rw [Nat.add_assoc,show k / size*size+k % size=k by rw[Nat.mul_comm];exact Nat.div_add_mod k size]at this
     obtain ⟨u,hu⟩:=Option.isSome_iff_exists.1 this
     rw [hi.imm _ _ _ hu,hu];rfl
    ·have := hv i j e c he hj
     rw [Nat.add_assoc]at this;exact this
   | lits0 a cap z=>exact⟨[],Jt⟩
  ·cases h
 ·rename_i id gen s n
  cases hes:st.arr? id gen with
  | none=>rw[hes]at h;cases h
  | some q =>
   obtain ⟨z',es⟩:=q
   rw [hes]at h
   simp only[Option.bind_some]at h
   split at h
   ·rename_i hsn
    obtain ⟨hsn,hz'⟩:=hsn
    simp at h;subst h
    obtain ⟨K,hK,hb,hg,hKz,hzz,hcap,hat⟩:=hi.arr hes
    have hsz:K.size=z:=by rw[hKz];exact hz'
    cases hy with
    | ref _ _ _ _ _ hv hb' hg' hr =>
     obtain ⟨a,rfl,h10,h11⟩:=hr K hK hg.symm
     have hlen:((es.drop s).take n).length=n:=by simp;omega
     rcases Nat.eq_zero_or_pos n with h0 | h0
     ·subst h0;rw[List.take_zero];exact⟨[],Jt⟩
     ·have ha:=h11 (by omega)
      subst ha
      obtain ⟨_,_,cs,T,h7,h8,h9⟩:=hat (by omega)
      have key:∀i e,((es.drop s).take n)[i]?=some e→i<n∧es[s+i]?=some e:=by
       intro i e he
       simp only[List.getElem?_take]at he
       split at he
       ·exact ⟨by assumption,by simpa [List.getElem?_drop]using he⟩
       ·cases he
      have hb1:=Bg (i:=s+n-1) (z:=K.size) (show s+n-1<es.length by omega) hcap
      have e2:(s+n-1)*K.size+K.size=s*K.size+n*K.size:=by
       rw [←Nat.succ_mul,←Nat.add_mul];congr 1;omega
      have := WE (P:=P) (w:=w) (C:=C) (z:=z) (ys:=(es.drop s).take n) (b:=K.blk) (o:=K.off+s*K.size) (cap:=K.cap-s) (fun k=>cs.getD (K.off+s*K.size+k) undef) (fun k hk=>?_) (fun i e j c he hj=>?_) (fun e he=>?_)
      ·rw [hlen]at this
       exact ⟨_,this⟩
      ·rw [hlen,←hsz]at hk
       have : K.off+s*K.size+k<cs.size:=by omega
       rw [EV h7,Array.getElem?_eq_getElem this];simp[Array.getD,this]
      ·obtain ⟨_,h12⟩:=key i e he
       have :=(h9 _ e h12).2.2 j c hj
       rw [←hsz,show K.off+s*K.size+(i*K.size+j)=K.off+(s+i)*K.size+j by rw[Nat.add_mul];omega]
       exact this
      ·obtain ⟨i,hi1⟩:=List.mem_iff_getElem?.1 he
       obtain ⟨_,h12⟩:=key i e hi1
       have := h9 _ e h12
       exact ⟨by rw[this.1,hsz],this.2.1⟩
   ·cases h
 ·rename_i s
  split at h
  ·rename_i hz1
   simp at h;subst h
   subst hz1
   cases hy with
   | str s' _ hs hsm =>
    subst hs
    have hsz:s'.data.toList.length=s'.size:=by rw[Array.length_toList];rfl
    refine ⟨s'.data.toList.map fun b=>.int .u8 b.toNat,by simp,by simp[Builtin.lenOf],fun w' _=>?_,fun i e he=>?_⟩
    ·have e1:(s'.extract 0 s'.data.toList.length).data.toList=s'.data.toList:=by
      rw [Go.Lib.extract_data,List.drop_zero,Nat.sub_zero,List.take_of_length_le (Nat.le_refl _)]
     simp only[Builtin.firstCells,List.length_map,Sem.run_pure]
     congr 1
     apply Array.ext'
     rw [Array.toList_map,e1]
    ·simp only[List.getElem?_map,Option.map_eq_some_iff]at he
     obtain ⟨b,hb,rfl⟩:=he
     refine ⟨rfl,by simp[PV.cells,PV.isCell],fun j c hj=>?_⟩
     cases j with
     | zero =>
      simp [PV.cells]at hj;subst hj
      have hlt:i<s'.data.toList.length:=(List.getElem?_eq_some_iff.1 hb).1
      have : (s'.data.toList.map fun b=>Value.int .u8 b.toNat).toArray.getD (i*1+0) undef=.int .u8 b.toNat:=by
       have hb':=(List.getElem?_eq_some_iff.1 hb).2
       simp at hlt
       simp [Array.getD,hlt]
       simp at hb'
       rw [hb']
      rw [this];exact .int _ _
     | succ j=>simp[PV.cells]at hj
  ·cases h
 ·cases h
theorem Uu {u:TypeId} (h:Ad P u≠0∨AT P u=true):(∃e,P.underlying u=some (.slice e))∨P.underlying u=some .string:=by
 rcases h with h | h
 ·obtain ⟨e,_,_,he,_⟩:=Bv (t:=u) rfl (Nat.pos_of_ne_zero h)
  exact .inl ⟨_,he⟩
 ·exact .inr (Dz h)
theorem He {t u ty e:TypeId} {i:TypeInfo} {v:Value} (ht:P.underlying t=some (.slice e)) (hu:Ad P u≠0∨AT P u=true) (hi:P.info? e=some i) (hz:i.zero=some v)
  {base : Option Addr} {sLen sCap n:Nat} {y:Value} {olds news:Array Value} (hy:(Builtin.lenOf y).run P w=.ok n w)
  (ho : ∀w':World,w'.heap=w.heap→(Builtin.firstCells i.size sLen (.slice base sLen sCap)).run P w'=.ok olds w')
  (hn : ∀w':World,w'.heap=w.heap→(Builtin.firstCells i.size n y).run P w'=.ok news w') (hg:sCap<sLen+n) (hb:sLen+n≤2147483648) (hby:i.bytes≤65536) :
  (Builtin.append_ #[t,u] ty #[.slice base sLen sCap,y]).run P w =
   .ok (.slice (some ⟨w.heap.size,0,none⟩) (sLen+n) (grownCap w (sLen+n) sCap e)) (w.drew.alloc (.cells (olds++news++Builtin.zeroCells v.cells (grownCap w (sLen+n) sCap e-(sLen+n))) e)):=by
 have hn1:¬(sLen+n≤sCap):=by omega
 have h63:¬(9223372036854775807<((sLen:Int)+(n:Int))):=by omega
 have hcap:=nextslicecap_le hg
 have h48:¬(281474976710656<Builtin.nextslicecap (sLen+n) sCap*i.bytes):=by
  have : Builtin.nextslicecap (sLen+n) sCap*i.bytes≤4294967296*65536:=Nat.mul_le_mul (by omega) hby
  omega
 have h1:=ho w.drew rfl
 have h2:=hn w.drew rfl
 rcases Uu hu with ⟨e',hd⟩ | hd
 ·simp [Builtin.append_,run_underlying ht,run_underlying hd,Go.sizeOf,typeInfo,zeroValue,hi,hz,hy,hn1,h63,h48,Question.forced,h1,h2,newRow,grownCap]
 ·simp [Builtin.append_,run_underlying ht,run_underlying hd,Go.sizeOf,typeInfo,zeroValue,hi,hz,hy,hn1,h63,h48,Question.forced,h1,h2,newRow,grownCap]
theorem Fz {t u ty e:TypeId} {i:TypeInfo} (ht:P.underlying t=some (.slice e)) (hu:Ad P u≠0∨AT P u=true) (hi:P.info? e=some i)
  {base : Option Addr} {sLen sCap n:Nat} {y:Value} {news:List Value} (hy:(Builtin.lenOf y).run P w=.ok n w) {w':World}
  (hn : (Builtin.firstCells i.size n y).run P w=.ok news.toArray w) (hg:sLen+n≤sCap) (hs:∀a,base=some a→(storeCells (a.add (sLen*i.size)) news).run P w=.ok () w') (h0:base=none→w'=w) :
  (Builtin.append_ #[t,u] ty #[.slice base sLen sCap,y]).run P w=.ok (.slice base (sLen+n) sCap) w':=by
 cases base with
 | none =>
  rw [h0 rfl]
  rcases Uu hu with ⟨e',hd⟩ | hd <;> simp[Builtin.append_,run_underlying ht,run_underlying hd,Go.sizeOf,typeInfo,hi,hy,hg,hn]
 | some a =>
  have hs:=hs a rfl
  rcases Uu hu with ⟨e',hd⟩ | hd <;> simp[Builtin.append_,run_underlying ht,run_underlying hd,Go.sizeOf,typeInfo,hi,hy,hg,hn,hs]
end
end Sim
