/- append, make, literals: the ideal operations. -/
import Derived.Test.YtdfjimjbdakofaaGreatSimI
import Derived.Maps.RangeRun
import Derived.DeepKeys3
set_option linter.unusedVariables false
set_option linter.unusedSimpArgs false
namespace Sim
open Go
section
variable {P:Program} {w:World} {C:Ctx} {st:Store}
theorem KS {olds news rest:Array Value} {k:Nat}:(olds++news++rest).getD k undef=if k<olds.size then olds.getD k undef else if k<olds.size+news.size then news.getD (k-olds.size) undef else rest.getD (k-olds.size-news.size) undef:=by
 simp only[Array.getD_eq_getD_getElem?,Array.getElem?_append,Array.size_append]
 by_cases h1:k<olds.size
 ·rw [if_pos h1,if_pos (by omega),if_pos h1]
 ·rw [if_neg h1]
  by_cases h2:k<olds.size+news.size
  ·rw [if_pos h2,if_pos h2,if_neg h1]
  ·rw [if_neg h2,if_neg h2,if_neg h1,show k-(olds.size+news.size)=k-olds.size-news.size by omega]
theorem IB {z:Nat} {es ys:List PV} {olds news rest:Array Value} (ho:olds.size=es.length*z) (hn:news.size=ys.length*z)
  (h1 : ∀i e,es[i]?=some e→CellsAt C olds (i*z) z e) (h2:∀i e,ys[i]?=some e→CellsAt C news (i*z) z e) :
  ∀ i e,(es++ys)[i]?=some e→CellsAt C (olds++news++rest) (i*z) z e:=by
 intro i e he
 rcases Nat.lt_or_ge i es.length with hi | hi
 ·rw [List.getElem?_append_left hi]at he
  refine (h1 i e he).congr (fun j hj=>?_)
  have := Bm (z:=z) hi (Nat.le_refl _)
  rw [KS,if_pos (by omega)]
 ·rw [List.getElem?_append_right hi]at he
  have h3:=h2 _ e he
  have hi2:i-es.length<ys.length:=(List.getElem?_eq_some_iff.1 he).1
  have := Bm (z:=z) hi2 (Nat.le_refl _)
  have e1:i*z=es.length*z+(i-es.length)*z:=by rw[←Nat.add_mul];congr 1;omega
  refine ⟨h3.1,h3.2.1,fun j c hj=>?_⟩
  have hj':j<z:=by have:=(List.getElem?_eq_some_iff.1 hj).1;have:=h3.1;omega
  rw [KS,if_neg (by omega),if_pos (by omega),show i*z+j-olds.size=(i-es.length)*z+j by omega]
  exact h3.2.2 j c hj
theorem Inv.sameObj (hi:Inv C st w) {id:Nat} {o:IObj} (h:st.obj id=some o):Inv C (st.set id o) w:=by
 have : st.set id o=st:=by
  unfold Store.set
  have : Ab st.obj id (some o)=st.obj:=by
   funext i;unfold Ab;split
   ·rename_i e;rw[e,h]
   ·rfl
  rw [this]
 rw [this];exact hi
theorem He {z base q:Nat} {es ys:List PV} {cur:Array Value} {news:List Value} (hn:news.length=ys.length*z) (hfit:base+q*z+news.length≤cur.size)
  (h1 : ∀i e,es[i]?=some e→CellsAt C cur (base+i*z) z e) (h2:∀i e,ys[i]?=some e→CellsAt C news.toArray (i*z) z e) {p:Nat} {e:PV}
  (he : (q≤p∧ys[p-q]?=some e)∨(¬(q≤p∧p<q+ys.length)∧es[p]?=some e)) :
  CellsAt C (cur.toList.take (base+q*z)++news++cur.toList.drop (base+q*z+news.length)).toArray (base+p*z) z e:=by
 rcases he with ⟨h3,h4⟩ | ⟨h3,h4⟩
 ·have h5:=h2 _ e h4
  have hlt:p-q<ys.length:=(List.getElem?_eq_some_iff.1 h4).1
  have hmb:=Bm (z:=z) hlt (Nat.le_refl _)
  have e1:p*z=q*z+(p-q)*z:=by rw[←Nat.add_mul];congr 1;omega
  refine ⟨h5.1,h5.2.1,fun j c hj=>?_⟩
  have hj':j<z:=by have:=(List.getElem?_eq_some_iff.1 hj).1;have:=h5.1;omega
  rw [Ff hfit,if_pos (by omega),show base+p*z+j-(base+q*z)=(p-q)*z+j by omega]
  have := h5.2.2 j c hj
  simpa using this
 ·refine (h1 p e h4).congr (fun j hj=>?_)
  rw [Ff hfit]
  refine if_neg (fun hr=>?_)
  rw [hn]at hr
  rcases Nat.lt_or_ge p q with h5 | h5
  ·have := Bm (z:=z) h5 (Nat.le_refl _);omega
  ·have := Nat.mul_le_mul_right z (show q+ys.length≤p by omega)
   rw [Nat.add_mul]at this;omega
theorem Rz (hi:Inv C st w) {x y:Value} {px py q:PV} (hx:VR C x px) (hy:VR C y py) {t u ty:TypeId} {ys:List PV} (hys:Cw st (Ae P t) py=some ys) (hu:Ae P u≠0∨AR P u=true)
  {st' : Store} (h:CB st (Ae P t) px ys=some (q,st')) :
  ∃ v w' C',(Builtin.append_ #[t,u] ty #[x,y]).run P w=.ok v w'∧C.le C'∧Inv C' st' w'∧VR C' v q:=by
 unfold CB at h
 split at h
 ·split at h
  ·rename_i hc
   obtain ⟨hz,hm⟩:=hc
   obtain ⟨e,i,zv,he,hin,hzv,hsz,hz16,hby,hzs,hzc,hcell,hel,hz0⟩:=BA (t:=t) rfl hz
   obtain ⟨news,hsrc⟩:=GI (P:=P) hi hy hz hys
   have hnsz:news.toArray.size=ys.length*Ae P t:=by simpa using hsrc.1
   cases hx
   split at h
   ·rename_i h0
    simp only[Option.some.injEq,Prod.mk.injEq]at h;obtain⟨rfl,rfl⟩:=h
    have hn0:=hsrc.2.2.1 w rfl
    have := Gz (P:=P) (w:=w) (ty:=ty) (base:=none) (sLen:=0) (sCap:=0) (w':=w) he hu hin hsrc.2.1 (by rw[hsz];exact hn0) (by omega) (by intro a h;cases h) (fun _=>rfl)
    rw [h0]at this
    exact ⟨_,w,C,this,Ctx.le.refl C,hi,.nils⟩
   ·rename_i h0
    simp only[Option.some.injEq,Prod.mk.injEq]at h;obtain⟨rfl,rfl⟩:=h
    have := IA (P:=P) (w:=w) (ty:=ty) (base:=none) (sLen:=0) (sCap:=0) (olds := #[]) he hu hin hzv hsrc.2.1 (fun w' _=>by simp[Builtin.firstCells]) (by rw[hsz];exact hsrc.2.2.1) (by omega) (by omega) hby
    simp only[Nat.zero_add,Array.empty_append]at this
    have hge:=grownCap_ge w ys.length 0 e
    obtain ⟨C',h1,h2,h3,h4⟩:=(hi.heap (w':=w.drew) rfl).newArr (T:=e) (z:=Ae P t) (cap:=grownCap w ys.length 0 e) (es:=ys) (cs:=news.toArray++Builtin.zeroCells zv.cells (grownCap w ys.length 0 e-ys.length)) hz hge (grownCap_le_maxLen w ys.length 0 e (by simp only[maxLen];omega))
     (by rw[Array.size_append,hnsz,size_zeroCells,hzs,←Nat.add_mul];exact Nat.mul_le_mul_right _ (by omega))
     (fun i e he=>by
      have := IB (C:=C) (z:=Ae P t) (es := []) (ys:=ys) (olds := #[]) (news:=news.toArray) (rest:=Builtin.zeroCells zv.cells (grownCap w ys.length 0 (BO P t)-ys.length)) (by simp) hnsz (by intro i e h;simp at h) hsrc.2.2.2 i e (by simpa using he)
      simp only[Array.empty_append]at this
      rw [hel]at this;exact this)
    exact ⟨_,_,C',this,h1,h2,VR.newRef h3 h4 hge⟩
  ·cases h
 ·rename_i id gen s n
  cases hes:st.arr? id gen with
  | none=>rw[hes]at h;cases h
  | some zes =>
   obtain ⟨z',es⟩:=zes
   rw [hes]at h
   simp only[Option.bind_some]at h
   obtain ⟨K,hK,hb,hg,hKz,hzz,hcap,hat⟩:=hi.arr hes
   split at h
   ·rename_i hc
    obtain ⟨hsn,hz',hmax⟩:=hc
    rw [hz']at hKz hzz
    have hz:=hzz
    obtain ⟨e,i,zv,he,hin,hzv,hsz,hz16,hby,hzs,hzc,hcell,hel,hz0⟩:=BA (t:=t) rfl hz
    obtain ⟨news,hsrc⟩:=GI (P:=P) hi hy hz hys
    have hnsz:news.toArray.size=ys.length*Ae P t:=by simpa using hsrc.1
    have hold:=hx
    cases hx with
    | ref _ _ _ _ _ hv hb' hg' hr =>
     obtain ⟨a,rfl,h10,h11⟩:=hr K hK hg.symm
     -- what is written in place
     have inPlace:0<ys.length→n+ys.length≤K.cap-s→∃cur T,w.heap[K.blk]?=some (.cells cur T (0,0))∧K.off+K.cap*K.size≤cur.size∧K.off+(s+n)*Ae P t+news.length≤cur.size ∧
       a = some ⟨K.blk,K.off+s*Ae P t,none⟩∧(∀i e,es[i]?=some e→CellsAt C cur (K.off+i*Ae P t) (Ae P t) e) ∧
       (Builtin.append_ #[t,u] ty #[.slice a n (K.cap-s),y]).run P w=.ok (.slice a (n+ys.length) (K.cap-s)) (w.setRow K.blk (cur.toList.take (K.off+(s+n)*Ae P t)++news++cur.toList.drop (K.off+(s+n)*Ae P t+news.length)).toArray):=by
      intro h0 hroom
      obtain ⟨h5,h6,cur,T,h7,h8,h9⟩:=hat (by omega)
      have ha:=h11 (by omega)
      rw [hKz]at ha h9
      have hmb:=Nat.mul_le_mul_right K.size (show s+n+ys.length≤K.cap by omega)
      rw [Nat.add_mul,hKz]at hmb
      have hfit2:K.off+(s+n)*Ae P t+news.length≤cur.size:=by rw[hsrc.1];rw[hKz]at h8;omega
      have hst:=run_storeCells_at P K.blk (K.off+(s+n)*Ae P t) T news 0 cur w h7 (by simpa using hfit2) (hsrc.one hz)
      simp only[Nat.add_zero]at hst
      refine ⟨cur,T,h7,h8,hfit2,ha,h9,?_⟩
      exact Gz (P:=P) (w:=w) (ty:=ty) (sLen:=n) (sCap:=K.cap-s) (base:=a) he hu hin hsrc.2.1 (by rw[hsz];exact hsrc.2.2.1 w rfl) (by omega)
       (fun a' ha'=>by rw[ha]at ha';cases ha';rw[Iw,hsz,Nat.add_assoc,←Nat.add_mul];exact hst) (by intro h;rw[ha]at h;cases h)
     split at h
     ·rename_i hfit
      simp only[Option.some.injEq,Prod.mk.injEq]at h;obtain⟨rfl,rfl⟩:=h
      rcases Nat.eq_zero_or_pos ys.length with h0 | h0
      ·have hy0:ys = []:=List.eq_nil_of_length_eq_zero h0
       subst hy0
       have hn0:news = []:=List.eq_nil_of_length_eq_zero (by simpa using hsrc.1)
       subst hn0
       have := Gz (P:=P) (w:=w) (ty:=ty) (base:=a) (sLen:=n) (sCap:=K.cap-s) (w':=w) he hu hin hsrc.2.1 (by rw[hsz];exact hsrc.2.2.1 w rfl) (by simp;omega) (by intro a _;rfl) (fun _=>rfl)
       refine ⟨_,w,C,this,Ctx.le.refl C,?_,by simpa using hold⟩
       have e1:es.take (s+n) ++ []++es.drop (s+n+([]:List PV).length)=es:=by simp
       rw [e1,←hz']
       exact hi.sameObj (arr?_parts hes)
      ·obtain ⟨cur,T,h7,h8,hfit2,ha,h9,hrun⟩:=inPlace h0 (by omega)
       have hcells:∀i e,(es.take (s+n)++ys++es.drop (s+n+ys.length))[i]?=some e→CellsAt C (cur.toList.take (K.off+(s+n)*Ae P t)++news++cur.toList.drop (K.off+(s+n)*Ae P t+news.length)).toArray (K.off+i*K.size) K.size e:=by
        intro i e hie
        rw [hKz]
        refine He hsrc.1 hfit2 h9 hsrc.2.2.2 ?_
        have hlen1:(es.take (s+n)).length=s+n:=by simp;omega
        by_cases hin':s+n≤i∧i<s+n+ys.length
        ·refine .inl ⟨hin'.1,?_⟩
         rw [List.append_assoc,List.getElem?_append_right (by omega),hlen1,List.getElem?_append_left (by omega)]at hie;exact hie
        ·refine .inr ⟨hin',?_⟩
         rcases Nat.lt_or_ge i (s+n)with h18 | h18
         ·rw [List.append_assoc,List.getElem?_append_left (by omega),List.getElem?_take_of_lt h18]at hie;exact hie
         ·have hlen2:(es.take (s+n)++ys).length=s+n+ys.length:=by simp;omega
          rw [List.getElem?_append_right (by omega),hlen2,List.getElem?_drop]at hie
          rw [show i=s+n+ys.length+(i-(s+n+ys.length)) by omega];exact hie
       obtain ⟨C',h12,h13,h14,h15⟩:=hi.reArr (gen':=gen) (L':=K) hes hK (by omega) (.inl rfl) hg rfl (by omega) (by simp;omega) (hi.arrMax hes hK) h7 (by rw[Fg hfit2];exact h8) hcells
       rw [hKz]at h13
       refine ⟨_,_,C',hrun,h12,h13,.ref _ _ _ _ _ rfl h15 (fun L' hL'=>?_) (fun L' hL' _=>?_)⟩
       ·rw [h14]at hL';cases hL';omega
       ·rw [h14]at hL';cases hL'
        exact ⟨_,rfl,by omega,fun _=>by rw[ha,hKz]⟩
     ·rename_i hfit
      simp only[Option.some.injEq,Prod.mk.injEq]at h;obtain⟨rfl,rfl⟩:=h
      have helen:((es.drop s).take n).length=n:=by simp;omega
      have hels:∀i e,((es.drop s).take n)[i]?=some e→i<n∧es[s+i]?=some e:=by
       intro i e he
       simp only[List.getElem?_take]at he
       split at he
       ·exact ⟨by assumption,by simpa [List.getElem?_drop]using he⟩
       ·cases he
      have hy0:0<ys.length:=by omega
      by_cases hroom:n+ys.length≤K.cap-s
      ·-- in place, beyond what was there
       obtain ⟨cur,T,h7,h8,hfit2,ha,h9,hrun⟩:=inPlace hy0 hroom
       have hcells:∀i e,((es.drop s).take n++ys)[i]?=some e→CellsAt C (cur.toList.take (K.off+(s+n)*Ae P t)++news++cur.toList.drop (K.off+(s+n)*Ae P t+news.length)).toArray (K.off+s*Ae P t+i*Ae P t) (Ae P t) e:=by
        intro i e hie
        rw [show K.off+s*Ae P t+i*Ae P t=K.off+(s+i)*Ae P t by rw[Nat.add_mul];omega]
        refine He hsrc.1 hfit2 h9 hsrc.2.2.2 ?_
        rcases Nat.lt_or_ge i n with h18 | h18
        ·refine .inr ⟨by omega,?_⟩
         rw [List.getElem?_append_left (by omega)]at hie
         exact (hels i e hie).2
        ·refine .inl ⟨by omega,?_⟩
         rw [List.getElem?_append_right (by omega),helen]at hie
         rw [show s+i-(s+n)=i-n by omega];exact hie
       obtain ⟨C',h12,h13,h14,h15⟩:=hi.reArr (gen':=gen+1) (L':=⟨K.blk,K.off+s*Ae P t,Ae P t,K.cap-s,gen+1⟩) hes hK (by omega) (.inr (by simp;omega)) rfl rfl hz (by simp;omega) (by have:=hi.arrMax hes hK;show K.cap-s≤maxLen;omega) h7
        (by
          rw [Fg hfit2]
          have : s*Ae P t+(K.cap-s)*Ae P t=K.cap*Ae P t:=by rw[←Nat.add_mul];congr 1;omega
          rw [hKz]at h8;dsimp only;omega) hcells
       refine ⟨_,_,C',hrun,h12,h13,.ref _ _ _ _ _ rfl h15 (fun L' hL'=>?_) (fun L' hL' _=>?_)⟩
       ·rw [h14]at hL';cases hL';simp
       ·rw [h14]at hL';cases hL'
        exact ⟨a,by simp,by simpa using hroom,fun _=>by rw[ha];simp⟩
      ·-- a new block
       obtain ⟨olds,hosrc⟩:=GI (P:=P) hi hold hz (ys:=(es.drop s).take n) (by simp[Cw,hes,hsn,hz'])
       have hosz:olds.toArray.size=((es.drop s).take n).length*Ae P t:=by simpa using hosrc.1
       have hofirst:=hosrc.2.2.1
       rw [helen]at hofirst
       have hrun:=IA (P:=P) (w:=w) (ty:=ty) (base:=a) (sLen:=n) (sCap:=K.cap-s) (olds:=olds.toArray) he hu hin hzv hsrc.2.1 (by rw[hsz];exact hofirst) (by rw[hsz];exact hsrc.2.2.1) (by omega) (by omega) hby
       have hge:=grownCap_ge w (n+ys.length) (K.cap-s) e
       have hgm:=grownCap_le_maxLen w (n+ys.length) (K.cap-s) e (by simp only[maxLen];omega)
       generalize hcp:grownCap w (n+ys.length) (K.cap-s) e=cap at *
       have hi':=hi.heap (w':=w.drew) rfl
       have hlt:id<st.next:=by
        rcases Nat.lt_or_ge id st.next with h | h
        ·exact h
        ·exact absurd hb (hi.next id h)
       have hput:=hi'.put (w':=w.drew.alloc (.cells (olds.toArray++news.toArray++Builtin.zeroCells zv.cells (cap-(n+ys.length))) e)) (id:=id) (nx:=st.next) (o:=.arr (gen+1) (Ae P t) ((es.drop s).take n++ys)) (L':=⟨w.heap.size,0,Ae P t,cap,gen+1⟩)
        (.inl ⟨K,hK,.inr (by simp;omega)⟩) (.inr (.inl (Nat.le_refl _))) (fun b hb _=>Go.heap_alloc_old w.drew _ hb) (by simp)
        (fun hle=>⟨rfl,rfl,hz,⟨by simp;omega,hgm⟩,fun _=>⟨hi.hB,fun o=>hi.immLt (Nat.le_refl _),_,e,heap_alloc_new w.drew _,by
         simp only[Array.size_append,hosz,hnsz,size_zeroCells,hzs,helen,←Nat.add_mul,Nat.zero_add]
         exact Nat.mul_le_mul_right _ (by omega),fun i e he=>by
          have := IB (C:=C) (z:=Ae P t) (rest:=Builtin.zeroCells zv.cells (cap-(n+ys.length))) hosz hnsz hosrc.2.2.2 hsrc.2.2.2 i e he
          simpa using this.mono hle⟩⟩) (Nat.le_refl _) hlt
       refine ⟨_,_,_,hrun,hput.1,hput.2,.ref _ _ _ _ _ rfl (.inl rfl) (fun L' hL'=>?_) (fun L' hL' _=>?_)⟩
       ·simp [Ctx.set]at hL';subst hL';simp
       ·simp [Ctx.set]at hL';subst hL'
        exact ⟨some ⟨w.heap.size,0,none⟩,by simp,by simp;omega,by simp⟩
   ·cases h
 ·cases h
end
section
variable {P:Program} {w:World} {C:Ctx} {st:Store}
theorem Wi {v:Value} {z:Nat} (hz:0<z) (hl:(Bn v).cells.length=z):v.cells.size=z∧CellsAt C v.cells 0 z (Bn v) :=
 (CA v).cellsAt hz hl
theorem aW {zc:Array Value} {n k:Nat} (hk:k<n):(madeCells zc n).getD k undef=zc[k % zc.size]! := by
 simp [madeCells,Array.getD,hk]
theorem N7 {v:Value} {z n:Nat} (hz:0<z) (hl:(Bn v).cells.length=z) :
  ∀ i e,(List.replicate n (Bn v))[i]?=some e→CellsAt C (madeCells v.cells (n*z)) (i*z) z e:=by
 obtain ⟨h1,h2,h3,h4⟩:=Wi (C:=C) hz hl
 intro i e he
 have hi:i<n:=by have:=(List.getElem?_eq_some_iff.1 he).1;simpa using this
 have : e=Bn v:=by
  rw [List.getElem?_replicate,if_pos hi]at he;exact (Option.some.inj he).symm
 subst this
 refine ⟨h2,h3,fun j c hj=>?_⟩
 have hj':j<z:=by have:=(List.getElem?_eq_some_iff.1 hj).1;omega
 have hb:=Bm (z:=z) hi (Nat.le_refl _)
 rw [aW (by omega),h1,show (i*z+j) % z=j by rw[Nat.mul_comm,Nat.mul_add_mod];exact Nat.mod_eq_of_lt hj']
 have := h4 j c hj
 simpa [Array.getD,show j<v.cells.size by omega,getElem!_def]using this
theorem Wj (hi:Inv C st w) {t:TypeId} {n m:Int} (h0:0≤n) (h1:n≤m) (h2:m≤4294967296) (hz:0<Ae P t) :
  ∃ v w' C',(Instr.makeSlice t (.int .i64 n) (.int .i64 m)).run P w=.ok v w'∧C.le C'∧Inv C' (st.new (.arr 0 (Ae P t) (List.replicate n.toNat (Az P (BO P t))))) w'∧VR C' v (.ref st.next 0 0 n.toNat) ∧
   (∀ id g z0 es0,st.obj id=some (.arr g z0 es0)→∃C',C.le C'∧Inv C' (st.set id (.arr (g+1) (Ae P t) (List.replicate n.toNat (Az P (BO P t))))) w'∧VR C' v (.ref id (g+1) 0 n.toNat)) ∧
   (∃ C',C.le C'∧Inv C' st w'∧VR C' v (.lits (Ae P t) (List.replicate n.toNat (Az P (BO P t))))):=by
 obtain ⟨e,i,zv,he,hin,hzv,hsz,hz16,hby,hzs,hzc,hcell,hel,hz0⟩:=BA (t:=t) rfl hz
 have hb:(i.bytes:Int)*m≤281474976710656:=by
  have : (i.bytes:Int)*m≤65536*4294967296:=Int.mul_le_mul (by omega) h2 (by omega) (by omega)
  omega
 have hrun:=run_make (P:=P) w t e i zv he hin hzv .i64 .i64 n m h0 h1 hb (by omega)
 rw [hel,hz0]
 rw [hsz]at hrun
 have hc:=N7 (C:=C) (v:=zv) (n:=m.toNat) hz hzc
 have hel':∀(i:Nat) (e:PV),(List.replicate n.toNat (Bn zv))[i]?=some e→CellsAt C (madeCells zv.cells (m.toNat*Ae P t)) (i*Ae P t) (Ae P t) e :=
  (fun i e he=>hc i e (by
   rw [List.getElem?_replicate]at he ⊢
   split at he
   ·rw [if_pos (by omega)];exact he
   ·cases he))
 obtain ⟨C',a,b,c,d⟩:=hi.newArr (T:=e) (es:=List.replicate n.toNat (Bn zv)) (z:=Ae P t) (cap:=m.toNat) (cs:=madeCells zv.cells (m.toNat*Ae P t)) hz (by simp;omega) (by simp only[maxLen];omega) (by rw[size_madeCells];exact Nat.le_refl _) hel'
 refine ⟨_,_,C',hrun,a,b,VR.newRef c d (by omega),fun id g z0 es0 ho=>?_,?_⟩
 case refine_2 =>
  obtain ⟨C3,a3,b3,c3⟩:=hi.lits (T:=e) (l:=List.replicate n.toNat (Bn zv)) (z:=Ae P t) (cap:=m.toNat) (cs:=madeCells zv.cells (m.toNat*Ae P t)) hz (by simp;omega) (by simp only[maxLen];omega) (by rw[size_madeCells];exact Nat.le_refl _) hel'
  rw [List.length_replicate]at c3
  exact ⟨C3,a3,b3,c3⟩
 obtain ⟨C2,a2,b2,c2,d2⟩:=hi.reNew ho (T:=e) (es:=List.replicate n.toNat (Bn zv)) (z:=Ae P t) (cap:=m.toNat) (cs:=madeCells zv.cells (m.toNat*Ae P t)) hz (by simp;omega) (by simp only[maxLen];omega) (by rw[size_madeCells];exact Nat.le_refl _) hel'
 exact ⟨C2,a2,b2,VR.newRefG c2 d2 (by omega)⟩
def VRL (C:Ctx) (cs:Array Value) (l:List PV):Prop:=cs.size=l.length∧(∀c∈l,c.isCell=true)∧∀i p,l[i]?=some p→VR C (cs.getD i undef) p
theorem YO (off:Nat):∀(l:List Value) (n:Nat) (cells:Array Value),off+n+l.length≤cells.size →
  ((l.zipIdx n).foldl (fun cs (p:Value×Nat)=>cs.setIfInBounds (off+p.2) p.1) cells).size=cells.size ∧
  ∀ k,((l.zipIdx n).foldl (fun cs (p:Value×Nat)=>cs.setIfInBounds (off+p.2) p.1) cells).getD k undef=if off+n≤k∧k<off+n+l.length then l.getD (k-(off+n)) undef else cells.getD k undef
 | [],n,cells,h=>⟨rfl,fun k=>by rw[if_neg (by simp)];rfl⟩
 | v::l,n,cells,h=>by
  have ih:=YO off l (n+1) (cells.setIfInBounds (off+n) v) (by simp at h ⊢;omega)
  simp only[List.zipIdx_cons,List.foldl_cons]
  refine ⟨by rw[ih.1];simp,fun k=>?_⟩
  rw [ih.2 k]
  simp only[List.length_cons]at h ⊢
  by_cases h1:off+(n+1)≤k∧k<off+(n+1)+l.length
  ·rw [if_pos h1,if_pos (by omega)]
   rw [show k-(off+n)=(k-(off+(n+1)))+1 by omega];simp
  ·rw [if_neg h1]
   by_cases h2:k=off+n
   ·subst h2
    rw [if_pos (by omega)]
    simp [Array.getD,show off+n<cells.size by omega]
   ·rw [if_neg (by omega)]
    simp only[Array.getD_eq_getD_getElem?,Array.getElem?_setIfInBounds_ne (fun e=>h2 e.symm)]
theorem TP {cells:Array Value} {v:Value} {off:Nat} (h:off+v.cells.size≤cells.size) :
  (v.cells.zipIdx.foldl (fun cs (c,j)=>cs.setIfInBounds (off+j) c) cells).size=cells.size ∧
  ∀ k,(v.cells.zipIdx.foldl (fun cs (c,j)=>cs.setIfInBounds (off+j) c) cells).getD k undef=if off≤k∧k<off+v.cells.size then v.cells.getD (k-off) undef else cells.getD k undef:=by
 have := YO off v.cells.toList 0 cells (by simpa using h)
 have e:v.cells.zipIdx.foldl (fun cs (c,j)=>cs.setIfInBounds (off+j) c) cells=(v.cells.toList.zipIdx 0).foldl (fun cs (p:Value×Nat)=>cs.setIfInBounds (off+p.2) p.1) cells:=by
  rw [←Array.foldl_toList,Array.toList_zipIdx]
 rw [e]
 refine ⟨this.1,fun k=>?_⟩
 rw [this.2 k,Nat.add_zero,Array.length_toList,M7]
theorem J6 {place place':Nat→Option (Nat×Nat)} (hp:∀i q,place i=some q→place' i=some q):∀(parts:List (Nat×Value)) (pp:List (Nat×PV)) (cs:Array Value) (l l':List PV),
  parts.length = pp.length→(∀(k i:Nat) (v:Value) (j:Nat) (p:PV),parts[k]?=some (i,v)→pp[k]?=some (j,p)→i=j∧VR C v p)→VRL C cs l→Fy place l pp=some l'→∃cs',Instr.fill place' cs parts=some cs'∧VRL C cs' l'
 | [],[],cs,l,l',_,_,hl,h=>by simp[Fy]at h;subst h;exact⟨cs,rfl,hl⟩
 | (i, v)::parts,(j,p)::pp,cs,l,l',hlen,hv,hl,h=>by
  obtain ⟨rfl,hvp⟩:=hv 0 i v j p rfl rfl
  unfold Fy at h
  split at h
  ·cases h
  ·rename_i off size hpl
   split at h
   ·rename_i hc
    obtain ⟨h1,h2,h3⟩:=hc
    obtain ⟨h4,h5,h6,h7⟩:=hvp.cellsAt h3 h1
    obtain ⟨hl1,hl2,hl3⟩:=hl
    have hsz:off+v.cells.size≤cs.size:=by omega
    obtain ⟨f1,f2⟩:=TP (cells:=cs) hsz
    have hl':VRL C (v.cells.zipIdx.foldl (fun cs (c,j)=>cs.setIfInBounds (off+j) c) cs) (DC l off p.cells):=by
     have hs:off+p.cells.length≤l.length:=by omega
     refine ⟨by rw[f1,Gy hs,hl1],fun c hc=>?_,fun k q hk=>?_⟩
     ·obtain ⟨k,hk⟩:=List.mem_iff_getElem?.1 hc
      rw [Ei hs]at hk
      split at hk
      ·exact h6 _ (List.mem_of_getElem? hk)
      ·exact hl2 _ (List.mem_of_getElem? hk)
     ·rw [Ei hs]at hk
      rw [f2 k]
      split at hk
      ·rw [if_pos (by omega)]
       have := h7 _ q hk
       simpa using this
      ·rw [if_neg (by omega)];exact hl3 k q hk
    obtain ⟨cs',g1,g2⟩:=J6 hp parts pp _ _ l' (by simpa using hlen) (fun k i v j p h1 h2=>hv (k+1) i v j p h1 h2) hl' h
    refine ⟨cs',?_,g2⟩
    rw [Instr.fill,hp _ _ hpl]
    simp only[h4]
    rw [if_neg (by simp;omega)]
    exact g1
   ·cases h
 | [],_::_,_,_,_,h,_,_,_=>by simp at h
 | _::_,[],_,_,_,h,_,_,_=>by simp at h
theorem TQ {t:TypeId} {parts:Array (Nat×Value)} {pp:List (Nat×PV)} (hlen:parts.size=pp.length) (hv:∀(k i:Nat) (v:Value) (j:Nat) (p:PV),parts.toList[k]?=some (i,v)→pp[k]?=some (j,p)→i=j∧VR C v p)
  {q : PV} (h:L3 P t pp=some q):∃v,(Instr.build t parts).run P w=.ok v w∧VR C v q:=by
 unfold L3 at h
 split at h
 ·rename_i hb
  unfold B0 at hb
  simp only[Bool.and_eq_true]at hb
  obtain ⟨hag,hb⟩:=hb
  obtain ⟨i,zv,l0,hi,hzv,hz0,hl0⟩:∃i zv l0,P.info? t=some i∧i.zero=some zv∧Az P t=Bn zv∧Bn zv=.agg l0:=by
   unfold Az at hag ⊢
   cases hi:P.info? t with
   | none=>simp[hi,PV.isAgg]at hag
   | some i =>
    cases hz:i.zero with
    | none=>simp[hi,hz,PV.isAgg]at hag
    | some zv =>
     simp only[hi,hz,Option.bind_some]at hag ⊢
     cases hc:Bn zv <;> simp[hc,PV.isAgg]at hag
     exact ⟨i,zv,_,rfl,hz,hc.symm▸rfl,hc⟩
  have hzr:(zeroValue t).run P w=.ok zv w:=by simp[zeroValue,typeInfo,hi,hzv]
  have hvz:=CA (C:=C) zv
  rw [hl0]at hvz
  obtain ⟨cs,rfl,hn,hcc,hcv⟩:=hvz.agg_get
  have hl:VRL C cs l0:=⟨hn,hcc,fun i p hi=>(hcv i p hi).2⟩
  rw [hz0,hl0]at h
  have hps:parts.toList.length=pp.length:=by simpa using hlen
  split at h
  ·rename_i n z ha
   obtain ⟨e,he,hez⟩:=Gj ha
   rw [he]at hb
   obtain ⟨ie,hie⟩:=Option.isSome_iff_exists.1 hb
   simp only[Option.map_eq_some_iff]at h
   obtain ⟨l',hf,rfl⟩:=h
   obtain ⟨cs',h1,h2⟩:=J6 (place':=fun i=>some (i*z,z)) (fun _ _ h=>h) _ _ _ _ _ hps hv hl hf
   refine ⟨.agg cs',?_,.agg _ _ h2.1 h2.2.1 h2.2.2⟩
   have hsz:ie.size=z:=by rw[←hez];simp[Program.cellsOf,hie]
   refine run_build w t parts cs' ?_
   simp [Program.built,hi,he,hzv,hie,Value.cells,hsz,h1]
  ·rename_i ha
   split at hb
   ·rename_i fs hfs
    simp only[Option.map_eq_some_iff]at h
    obtain ⟨l',hf,rfl⟩:=h
    have hall:=List.all_eq_true.1 hb
    have hplaces:∃places:List (Nat×Nat),fs.toList.mapM (fun f=>(P.info? f.type).map fun i=>(f.offset,i.size))=some places∧∀(k:Nat) (f:Field),fs.toList[k]?=some f→places[k]?=some (f.offset,P.cellsOf f.type):=by
     clear hf hb hfs
     generalize fs.toList=l at hall ⊢
     induction l with
     | nil=>exact⟨[],rfl,by intro k f h;simp at h⟩
     | cons f l ih =>
      obtain ⟨pl,h1,h2⟩:=ih (fun x hx=>hall x (by simp[hx]))
      obtain ⟨fi,hfi⟩:=Option.isSome_iff_exists.1 (hall f (by simp))
      refine ⟨(f.offset,fi.size)::pl,by simp[List.mapM_cons,hfi,h1],fun k g hk=>?_⟩
      cases k with
      | zero=>simp at hk;subst hk;simp[Program.cellsOf,hfi]
      | succ k=>simpa using h2 k g (by simpa using hk)
    obtain ⟨places,hpl,hpk⟩:=hplaces
    obtain ⟨cs',h1,h2⟩:=J6 (place':=fun i=>places.toArray[i]?) (fun i q hq=>by
     simp only[Option.map_eq_some_iff]at hq
     obtain ⟨⟨o,z,u⟩,hf2,rfl⟩:=hq
     obtain ⟨fs',x,g1,g2,g3,g4,g5⟩:=Iz hf2
     rw [hfs]at g1;cases g1
     have := hpk i x (by rw[Array.getElem?_toList];exact g2)
     simp [this,g3,g4]) _ _ _ _ _ hps hv hl hf
    refine ⟨.agg cs',?_,.agg _ _ h2.1 h2.2.1 h2.2.2⟩
    refine run_build w t parts cs' ?_
    simp only[Program.built,hi,hfs,hzv,hpl,Value.cells]
    exact h1
   ·rename_i n e he
    exfalso
    simp [Bz,he]at ha
   ·cases hb
 ·cases h
theorem M9 {z:Nat} (hz:0<z) {place:Nat→Option (Nat×Nat)} (hp:∀i,place i=some (i*z,z)):∀(parts:List (Nat×Value)) (pp:List (Nat×PV)) (cs:Array Value) (l l':List PV),
  parts.length = pp.length→(∀(k i:Nat) (v:Value) (j:Nat) (p:PV),parts[k]?=some (i,v)→pp[k]?=some (j,p)→i=j∧VR C v p)→l.length*z≤cs.size→(∀i e,l[i]?=some e→CellsAt C cs (i*z) z e) →
  Cy z l pp=some l'→∃cs',Instr.fill place cs parts=some cs'∧cs'.size=cs.size∧l'.length=l.length∧∀i e,l'[i]?=some e→CellsAt C cs' (i*z) z e
 | [],[],cs,l,l',_,_,hs,hl,h=>by simp[Cy]at h;subst h;exact⟨cs,rfl,rfl,rfl,hl⟩
 | (i,v)::parts,(j,p)::pp,cs,l,l',hlen,hv,hs,hl,h=>by
  obtain ⟨rfl,hvp⟩:=hv 0 i v j p rfl rfl
  unfold Cy at h
  split at h
  ·rename_i hc
   obtain ⟨h1,h2⟩:=hc
   obtain ⟨h4,h5,h6,h7⟩:=hvp.cellsAt hz h2
   have hmb:=Bm (z:=z) h1 (Nat.le_refl _)
   have hsz:i*z+v.cells.size≤cs.size:=by omega
   obtain ⟨f1,f2⟩:=TP (cells:=cs) hsz
   obtain ⟨cs',g1,g2,g3,g4⟩:=M9 hz hp parts pp (v.cells.zipIdx.foldl (fun cs (c,j)=>cs.setIfInBounds (i*z+j) c) cs) (l.set i p) l' (by simpa using hlen) (fun k i v j p h1 h2=>hv (k+1) i v j p h1 h2) (by rw[f1];simpa using hs)
    (fun k e hk=>by
     by_cases hik:k=i
     ·subst hik
      rw [List.getElem?_set_self h1]at hk
      cases hk
      refine ⟨h5,h6,fun j c hj=>?_⟩
      have hj':j<z:=by have:=(List.getElem?_eq_some_iff.1 hj).1;omega
      rw [f2,if_pos (by omega),show k*z+j-k*z=j by omega]
      have := h7 j c hj
      rw [Nat.zero_add]at this;exact this
     ·rw [List.getElem?_set_ne (fun e=>hik e.symm)]at hk
      refine (hl k e hk).congr (fun j hj=>?_)
      rw [f2]
      refine if_neg (fun hr=>?_)
      rcases Nat.lt_or_ge k i with h12 | h12
      ·have := Bm (z:=z) h12 (Nat.le_refl _);omega
      ·have := Bm (z:=z) (show i<k by omega) (Nat.le_refl _);omega) h
   refine ⟨cs',?_,by rw[g2,f1],by simpa using g3,g4⟩
   rw [Instr.fill,hp]
   simp only[h4]
   rw [if_neg (by simp;omega)]
   exact g1
  ·cases h
 | [],_::_,_,_,_,h,_,_,_,_=>by simp at h
 | _::_,[],_,_,_,h,_,_,_,_=>by simp at h
theorem N8 {t e:TypeId} {i:TypeInfo} {zv:Value} {z len:Nat} (he:P.underlying t=some (.slice e)) (hi:P.info? e=some i) (hz:i.zero=some zv) (hsz:i.size=z) (hzs:zv.cells.size=z)
  (hmax : len*z≤16777216) {parts:Array (Nat×Value)} {cs':Array Value} (hf:Instr.fill (fun i=>some (i*z,z)) (madeCells zv.cells (len*z)) parts.toList=some cs') :
  (Instr.buildSlice t len parts).run P w=.ok (.slice (some ⟨w.heap.size,0,none⟩) len len) (w.alloc (.cells cs' e)):=by
 have hm:¬(16777216<len*z):=by omega
 have hso:(Go.sizeOf e).run P w=.ok z w:=by simp[Go.sizeOf,typeInfo,hi,hsz]
 by_cases h0:len*z=0
 ·have e1:(Array.range (len*z)).map ((#[]:Array Value)[· % (#[]:Array Value).size]!)=madeCells zv.cells (len*z):=by
   rw [h0];simp[madeCells,Array.range_zero']
  rw [←e1]at hf
  simp only[Instr.buildSlice,Sem.run_bind,run_underlying he,Result.andThen,hso]
  rw [if_neg (by omega)]
  simp only[h0,if_true,Sem.run_bind,Sem.run_pure,Result.andThen]
  rw [h0]at hf
  simp only[hf]
  simp [newRow]
 ·simp only[Instr.buildSlice,Sem.run_bind,run_underlying he,Result.andThen,hso]
  rw [if_neg (by omega)]
  simp only[h0,if_false,Sem.run_bind,Sem.run_pure,Result.andThen]
  have hzr:(zeroValue e).run P w=.ok zv w:=by simp[zeroValue,typeInfo,hi,hz]
  simp only[hzr]
  have : Instr.fill (fun i=>some (i*z,z)) ((Array.range (len*z)).map (zv.cells[· % zv.cells.size]!)) parts.toList=some cs':=hf
  simp only[this]
  simp [newRow]
theorem L5 (hi:Inv C st w) {t:TypeId} {len:Nat} {parts:Array (Nat×Value)} {pp:List (Nat×PV)} (hlen:parts.size=pp.length) (hv:∀(k i:Nat) (v:Value) (j:Nat) (p:PV),parts.toList[k]?=some (i,v)→pp[k]?=some (j,p)→i=j∧VR C v p)
  (hz : 0<Ae P t) (hmax:len*Ae P t≤16777216) {l:List PV} (h:Cy (Ae P t) (List.replicate len (Az P (BO P t))) pp=some l) :
  ∃ v w',(Instr.buildSlice t len parts).run P w=.ok v w'∧(∃C',C.le C'∧Inv C' st w'∧VR C' v (.lits (Ae P t) l)) ∧
   (∃ C',C.le C'∧Inv C' (st.new (.arr 0 (Ae P t) l)) w'∧VR C' v (.ref st.next 0 0 len)) ∧
   (∀ id g z0 es0,st.obj id=some (.arr g z0 es0)→∃C',C.le C'∧Inv C' (st.set id (.arr (g+1) (Ae P t) l)) w'∧VR C' v (.ref id (g+1) 0 len)):=by
 obtain ⟨e,i,zv,he,hin,hzv,hsz,hz16,hby,hzs,hzc,hcell,hel,hz0⟩:=BA (t:=t) rfl hz
 rw [hel,hz0]at h
 have hps:parts.toList.length=pp.length:=by simpa using hlen
 obtain ⟨cs',h1,h2,h3,h4⟩:=M9 (C:=C) hz (place:=fun i=>some (i*Ae P t,Ae P t)) (fun _=>rfl) _ _ (madeCells zv.cells (len*Ae P t)) _ l hps hv (by simp[size_madeCells]) (N7 hz hzc) h
 simp only[List.length_replicate,size_madeCells]at h2 h3
 have hlm:len≤maxLen:=by
  have : len*1≤len*Ae P t:=Nat.mul_le_mul_left _ hz
  simp only[maxLen];omega
 refine ⟨_,_,N8 he hin hzv hsz hzs hmax h1,?_,?_,fun id g z0 es0 ho=>?_⟩
 ·obtain ⟨C',a,b,c⟩:=hi.lits (T:=e) (cap:=len) hz (by omega) hlm (by omega) h4
  rw [h3]at c
  exact ⟨C',a,b,c⟩
 ·obtain ⟨C',a,b,c,d⟩:=hi.newArr (T:=e) (cap:=len) hz (by omega) hlm (by omega) h4
  exact ⟨C',a,b,VR.newRef c d (Nat.le_refl _)⟩
 ·obtain ⟨C',a,b,c,d⟩:=hi.reNew ho (T:=e) (cap:=len) hz (by omega) hlm (by omega) h4
  exact ⟨C',a,b,VR.newRefG c d (Nat.le_refl _)⟩
theorem Cl {v:Value} {k:IntKind} {n:Int} (h:VR C v (.int k n)):v=.int k n:=by cases h;rfl
theorem Dn {v:Value} {b:Bool} (h:VR C v (.bool b)):v=.bool b:=by cases h;rfl
theorem RA {v:Value} {s:List UInt8} (h:VR C v (.str s)):∃b:ByteArray,v=.string b∧s=b.data.toList∧s.length≤maxLen:=by cases h;exact⟨_,rfl,by assumption,by assumption⟩
theorem Wk {op:BinOp} {k:IntKind} {a b:Int} {p:PV} (hop:op≠.shl∧op≠.shr) (h:Ih op k a b=some p) {t:TypeId} :
  ∃ v,(binOp op t (.int k a) (.int k b)).run P w=.ok v w∧VR C v p:=by
 have e1:(a==b)=decide (a=b):=by by_cases h:a=b <;> simp[h]
 have e2:(a != b)=decide (¬a=b):=by by_cases h:a=b <;> simp[h]
 cases op <;> simp only[Ih,Cq,Option.some.injEq,Option.map_some]at h <;> try (first | (cases h;done) | (exact absurd rfl hop.1) | (exact absurd rfl hop.2))
 case quo =>
  split at h
  ·cases h
  ·rename_i hb;simp only[Option.some.injEq]at h;subst h;exact⟨_,by simp[binOp,Op.intDiv,hb],.int _ _⟩
 case rem =>
  split at h
  ·cases h
  ·rename_i hb;simp only[Option.some.injEq]at h;subst h;exact⟨_,by simp[binOp,Op.intDiv,hb],.int _ _⟩
 case eql=>subst h;exact⟨.bool (decide (a=b)),by simp only[binOp,←e1];simp[Op.intCmp],.bool _⟩
 case neq=>subst h;exact⟨.bool (decide (¬a=b)),by simp only[binOp,←e2];simp[Op.intCmp],.bool _⟩
 all_goals (subst h;refine⟨_,?_,by constructor⟩;simp[binOp,Op.intArith,Op.intBits,Op.intCmp])
end
theorem Cg {l:List PV} (h:AT l=true):∀p∈l,p.pur=true:=by
 induction l with
 | nil=>simp
 | cons a l ih =>
  simp only[AT,Bool.and_eq_true]at h
  intro p hp
  rcases List.mem_cons.1 hp with rfl | hp
  ·exact h.1
  ·exact ih h.2 p hp
theorem TR {l:List PV} (h:∀p∈l,p.pur=true):AT l=true:=by
 induction l with
 | nil=>rfl
 | cons a l ih=>simp only[AT,Bool.and_eq_true];exact⟨h a (by simp),ih fun p hp=>h p (by simp[hp])⟩
theorem L6 {α:Type} {f:α→PV} {l:List α} (h:∀x,(f x).pur=true):AT (l.map f)=true :=
 TR fun p hp=>by obtain⟨x,_,rfl⟩:=List.mem_map.1 hp;exact h x
theorem aX {e:PV} (h:e.pur=true):∀c∈e.cells,c.pur=true:=by
 cases e <;> first
  | (simp[PV.cells];done)
  | (simp only[PV.cells,List.mem_singleton,forall_eq];exact h)
  | (exact Cg h)
theorem VR.pureMono {C C':Ctx} {v:Value} {p:PV} (h:VR C v p) (hle:∀b o u,C.imm b o=some u→C'.imm b o=some u) (hp:p.pur=true):VR C' v p:=by
 have sm:∀ {b o},(C.imm b o).isSome=true→(C'.imm b o).isSome=true∧∀d,(C'.imm b o).getD d=(C.imm b o).getD d:=fun {b o} hs=>by
  obtain ⟨u,hu⟩:=Option.isSome_iff_exists.1 hs
  rw [hle _ _ _ hu,hu];exact⟨rfl,fun _=>rfl⟩
 induction h with
 | bad v=>exact .bad v
 | bool b=>exact .bool b
 | int k n=>exact .int k n
 | str s l h hm=>exact .str s l h hm
 | nilp=>exact .nilp
 | ptr=>simp[PV.pur]at hp
 | vptr b o off cells hc hi h ih =>
  simp only[PV.pur]at hp
  have hp:=Cg hp
  refine .vptr b o off cells hc (fun j hj=>(sm (hi j hj)).1) (fun j c hj=>?_)
  have hlt:j<cells.length:=(List.getElem?_eq_some_iff.1 hj).1
  rw [(sm (hi j hlt)).2]
  exact ih j c hj (hp c (List.mem_of_getElem? hj))
 | nils=>exact .nils
 | lits b o size cap l hcap hmax hsz hl hi h ih =>
  simp only[PV.pur]at hp
  have hp:=Cg hp
  refine .lits b o size cap l hcap hmax hsz hl (fun i j a b=>(sm (hi i j a b)).1) (fun i j e c he hc=>?_)
  have h1:i<l.length:=(List.getElem?_eq_some_iff.1 he).1
  have h2:j<size:=by
   have :=(hl e (List.mem_of_getElem? he)).1
   have :=(List.getElem?_eq_some_iff.1 hc).1
   omega
  rw [(sm (hi i j h1 h2)).2]
  exact ih i j e c he hc (aX (hp e (List.mem_of_getElem? he)) c (List.mem_of_getElem? hc))
 | lits0 a cap z=>exact .lits0 a cap z
 | ref=>simp[PV.pur]at hp
 | func fn first captured pf pc hf hc h1 h2 ih1 ih2 =>
  simp only[PV.pur,Bool.and_eq_true]at hp
  exact .func fn first captured pf pc hf hc (fun i p hi=>ih1 i p hi (Cg hp.1 p (List.mem_of_getElem? hi))) (fun i p hi=>ih2 i p hi (Cg hp.2 p (List.mem_of_getElem? hi)))
 | nilf=>exact .nilf
 | iface t v p h ih=>exact .iface t v p (ih (by simpa [PV.pur]using hp))
 | nili=>exact .nili
 | agg cs l hn hc h ih =>
  simp only[PV.pur]at hp
  exact .agg cs l hn hc fun i p hi=>ih i p hi (Cg hp p (List.mem_of_getElem? hi))
 | tuple cs l hn h ih =>
  simp only[PV.pur]at hp
  exact .tuple cs l hn fun i p hi=>ih i p hi (Cg hp p (List.mem_of_getElem? hi))
 | nilm=>exact .nilm
 | mref=>simp[PV.pur]at hp
 | iter=>simp[PV.pur]at hp
inductive DR (st:Store):PV→PV→Prop where
 | pure (p:PV) (h:p.pur=true):DR st p p
 | nils (z:Nat):DR st .nils (.lits z [])
 | ref (id gen s n z:Nat) (es l:List PV) (h:st.arr? id gen=some (z,es)) (hn:s+n≤es.length) (hl:l.length=n) (hc:∀(i:Nat) (e q:PV),es[s+i]?=some e→l[i]?=some q→e.cells.length=q.cells.length∧q.isAgg=e.isAgg)
   (hs : ∀(i:Nat) (e q:PV),es[s+i]?=some e→l[i]?=some q→DR st e q):DR st (.ref id gen s n) (.lits z l)
 | agg (cs ds:List PV) (hl:cs.length=ds.length) (hc:∀c∈ds,c.isCell=true) (h:∀(i:Nat) (c d:PV),cs[i]?=some c→ds[i]?=some d→DR st c d):DR st (.agg cs) (.agg ds)
 | tuple (cs ds:List PV) (hl:cs.length=ds.length) (h:∀(i:Nat) (c d:PV),cs[i]?=some c→ds[i]?=some d→DR st c d):DR st (.tuple cs) (.tuple ds)
theorem DR.arr {st:Store} {id gen z n:Nat} {es:List PV} (h:st.arr? id gen=some (z,es)) (hn:n=es.length) (hp:AT es=true):DR st (.ref id gen 0 n) (.lits z es):=by
 subst hn
 refine .ref id gen 0 _ z es es h (by omega) rfl (fun i e q he hq=>?_) (fun i e q he hq=>?_)
 ·rw [Nat.zero_add]at he
  rw [he]at hq;cases hq
  exact ⟨rfl,rfl⟩
 ·rw [Nat.zero_add]at he
  rw [he]at hq;cases hq
  exact .pure _ (Cg hp e (List.mem_of_getElem? he))
def base (imm:Nat→Nat→Option Value) (w:World):Ctx:={ imm,loc:=fun _=>none,born:=fun _=>False,B:=w.heap.size,h:=fun b=>w.heap[b]?,os:=w.os,out:=w.output,keep:=fun _=>false,caller:=fun _=>false }
def D0 (imm:Nat→Nat→Option Value) (n:Nat) (w':World):Nat→Nat→Option Value:=fun b o=>if b<n then imm b o else w'.cell? ⟨b,o,none⟩
theorem DR.sound {C:Ctx} {st:Store} {w:World} (hi:Inv C st w) {imm:Nat→Nat→Option Value} (himm:∀b o u,C.imm b o=some u→imm b o=some u)
  (hobj : ∀id L,C.loc id=some L→0<L.cap→∀o u,w.cell? ⟨L.blk,o,none⟩=some u→imm L.blk o=some u) {p q:PV} (h:DR st p q):∀ {v:Value},VR C v p→VR (base imm w) v q:=by
 induction h with
 | pure p hp=>intro v hv;exact hv.pureMono himm hp
 | nils z=>intro v hv;cases hv;exact .lits0 _ _ _
 | ref id gen s n z es l h hn hl hc hs ih =>
  intro v hv
  obtain ⟨L,hL,hb,hg,hLz,hz,hcap,hat⟩:=hi.arr h
  cases hv with
  | ref _ _ _ _ _ hv hb' hg' hr =>
   obtain ⟨a,rfl,h10,h11⟩:=hr L hL hg.symm
   rcases Nat.eq_zero_or_pos n with h0 | h0
   ·have : l = []:=List.eq_nil_of_length_eq_zero (by omega)
    subst this;subst h0;exact .lits0 _ _ _
   ·obtain ⟨_,_,cs,T,h7,h8,h9⟩:=hat (by omega)
    have ha:=h11 (by omega)
    subst ha
    rw [hLz]at h8 h9 ⊢
    rw [←hl]
    have get:∀i q,l[i]?=some q→∃e,es[s+i]?=some e:=fun i q hq=>by
     have : i<l.length:=(List.getElem?_eq_some_iff.1 hq).1
     exact ⟨_,Db (by omega)⟩
    have cell:∀i j,i<l.length→j<z→imm L.blk (L.off+s*z+i*z+j)=some (cs.getD (L.off+(s+i)*z+j) undef):=fun i j hi' hj=>by
     have hmb:=Bm (z:=z) (show s+i<es.length by omega) hcap
     rw [Nat.add_mul]at hmb ⊢
     have hlt:L.off+(s*z+i*z)+j<cs.size:=by omega
     refine hobj id L hL (by omega) _ _ ?_
     rw [Fz h7,show L.off+s*z+i*z+j=L.off+(s*z+i*z)+j by omega,Array.getElem?_eq_getElem hlt]
     simp [Array.getD,hlt]
    have qc:∀i e q,es[s+i]?=some e→l[i]?=some q→q.cells.length=z∧(∀c∈q.cells,c.isCell=true)∧∀j c,q.cells[j]?=some c→VR (base imm w) (cs.getD (L.off+(s+i)*z+j) undef) c:=by
     intro i e q he hq
     obtain ⟨g1,g2,g3⟩:=h9 _ e he
     obtain ⟨hcl,hag⟩:=hc i e q he hq
     have ihq:=fun {v}=>@ih i e q he hq v
     -- an element by its cells
     cases hisag:e.isAgg with
     | true =>
      cases e <;> simp[PV.isAgg]at hisag
      rename_i ecs
      have hv:VR C (.agg (cs.extract (L.off+(s+i)*z) (L.off+(s+i)*z+z))) (.agg ecs):=by
       have hlt:s+i<es.length:=(List.getElem?_eq_some_iff.1 he).1
       have hmb:=Bm (z:=z) hlt hcap
       have g1':ecs.length=z:=g1
       refine .agg _ _ (by simp;omega) (fun c hc=>g2 c hc) (fun j c hj=>?_)
       have hjz:j<z:=by have:=(List.getElem?_eq_some_iff.1 hj).1;omega
       have := g3 j c hj
       have e1:(cs.extract (L.off+(s+i)*z) (L.off+(s+i)*z+z)).getD j undef=cs.getD (L.off+(s+i)*z+j) undef:=by
        have hh1:j<(cs.extract (L.off+(s+i)*z) (L.off+(s+i)*z+z)).size:=by simp;omega
        have hh2:L.off+(s+i)*z+j<cs.size:=by omega
        simp only[Array.getD,hh1,hh2,dif_pos]
        simp [Array.getElem_extract]
       rw [e1];exact this
      have hv2:=ihq hv
      cases q <;> simp[PV.isAgg]at hag
      rename_i qcs
      obtain ⟨_,hvv,k1,k2,k3⟩:=hv2.agg_get
      cases hvv
      refine ⟨by rw[←hcl];exact g1,k2,fun j c hj=>?_⟩
      have :=(k3 j c hj).2
      have hlt:s+i<es.length:=(List.getElem?_eq_some_iff.1 he).1
      have hmb:=Bm (z:=z) hlt hcap
      have hjz:j<z:=by
       have h5:j<qcs.length:=(List.getElem?_eq_some_iff.1 hj).1
       have h6:ecs.length=qcs.length:=hcl
       have h7':ecs.length=z:=g1
       omega
      have e1:(cs.extract (L.off+(s+i)*z) (L.off+(s+i)*z+z)).getD j undef=cs.getD (L.off+(s+i)*z+j) undef:=by
       have hh1:j<(cs.extract (L.off+(s+i)*z) (L.off+(s+i)*z+z)).size:=by simp;omega
       have hh2:L.off+(s+i)*z+j<cs.size:=by omega
       simp only[Array.getD,hh1,hh2,dif_pos]
       simp [Array.getElem_extract]
      rw [e1]at this;exact this
     | false =>
      have hone:e.cells = [e]:=by
       cases e <;> first | rfl | (simp[PV.isAgg]at hisag;done) | (simp[PV.cells]at g1;omega)
      have hq0:q.isAgg=false:=by rw[hag];exact hisag
      have hqone:q.cells = [q]:=by
       cases q <;> first | rfl | (simp[PV.isAgg]at hq0;done) | (rw[hone]at hcl;simp[PV.cells]at hcl;done)
      have g1':z=1:=by rw[←g1,hone];rfl
      subst g1'
      have hv2:=ihq (g3 0 e (by rw[hone];rfl))
      refine ⟨by rw[hqone];rfl,fun c hc=>?_,fun j c hj=>?_⟩
      ·rw [hqone]at hc;simp at hc;subst hc
       cases c <;> first | rfl | (simp[PV.cells]at hqone;done) | (simp[PV.isAgg]at hq0;done)
      ·rw [hqone]at hj
       cases j with
       | zero=>simp at hj;subst hj;exact hv2
       | succ j=>simp at hj
    refine .lits L.blk (L.off+s*z) z _ l (by omega) (by have:=hi.arrMax h hL;omega) hz (fun q hq=>?_) (fun i j hi' hj=>by show (imm _ _).isSome=true;rw[cell i j hi' hj];rfl) (fun i j q c hq hc=>?_)
    ·obtain ⟨i,hi'⟩:=List.mem_iff_getElem?.1 hq
     obtain ⟨e,he⟩:=get i q hi'
     exact ⟨(qc i e q he hi').1,(qc i e q he hi').2.1⟩
    ·obtain ⟨e,he⟩:=get i q hq
     obtain ⟨g1,_,g3⟩:=qc i e q he hq
     have hj:j<z:=by have:=(List.getElem?_eq_some_iff.1 hc).1;omega
     have hi':i<l.length:=(List.getElem?_eq_some_iff.1 hq).1
     show VR _ ((imm _ _).getD undef) c
     rw [cell i j hi' hj]
     exact g3 j c hc
 | agg cs ds hl hc h ih =>
  intro v hv
  obtain ⟨xs,rfl,h1,h2,h3⟩:=hv.agg_get
  refine .agg xs ds (by omega) hc (fun i d hd=>?_)
  have hi':i<cs.length:=by have:=(List.getElem?_eq_some_iff.1 hd).1;omega
  exact ih i _ d (List.getElem?_eq_getElem hi') hd (h3 i _ (List.getElem?_eq_getElem hi')).2
 | tuple cs ds hl h ih =>
  intro v hv
  cases hv with
  | tuple xs _ hn hv =>
   refine .tuple xs ds (by omega) (fun i d hd=>?_)
   have hi':i<cs.length:=by have:=(List.getElem?_eq_some_iff.1 hd).1;omega
   exact ih i _ d (List.getElem?_eq_getElem hi') hd (hv i _ (List.getElem?_eq_getElem hi'))
section
variable {st:Store} {p q:PV}
theorem Wl (h:rdC st p=some q):DR st p q:=by
 unfold rdC at h
 split at h
 ·rename_i id gen s n
  simp only[Option.bind_eq_some_iff]at h
  obtain ⟨⟨z,es⟩,hes,h⟩:=h
  split at h
  ·rename_i hc
   obtain ⟨h1,h2⟩:=hc
   have h1:s+n≤es.length:=h1
   simp only[Option.some.injEq]at h;subst h
   have key:∀(i:Nat) (e q:PV),es[s+i]?=some e→((es.drop s).take n)[i]?=some q→e=q:=by
    intro i e q he hq
    simp only[List.getElem?_take]at hq
    split at hq
    ·rw [List.getElem?_drop,he]at hq;exact Option.some.inj hq
    ·cases hq
   refine .ref id gen s n z es _ hes h1 (by simp;omega) (fun i e q he hq=>?_) (fun i e q he hq=>?_)
   ·rw [key i e q he hq];exact⟨rfl,rfl⟩
   ·rw [←key i e q he hq];exact .pure _ (Cg h2 e (List.mem_of_getElem? he))
  ·cases h
 ·split at h
  ·simp only[Option.some.injEq]at h;subst h;exact .pure _ (by assumption)
  ·cases h
theorem YP {st:Store}:∀ {l ds:List PV},rdL st l=some ds→l.length=ds.length∧∀(i:Nat) (c d:PV),l[i]?=some c→ds[i]?=some d→rdC st c=some d
 | [],ds,h=>by simp only[rdL,Option.some.injEq]at h;subst h;exact⟨rfl,by intro i c d h;simp at h⟩
 | c::l,ds,h=>by
  simp only[rdL,Option.bind_eq_some_iff,Option.map_eq_some_iff]at h
  obtain ⟨d,hd,ds',hds,rfl⟩:=h
  obtain ⟨h1,h2⟩:=YP hds
  refine ⟨by simp[h1],fun i c' d' hc hd'=>?_⟩
  cases i with
  | zero=>simp at hc hd';subst hc;subst hd';exact hd
  | succ i=>exact h2 i c' d' (by simpa using hc) (by simpa using hd')
theorem RB (h:rdP st p=some q):DR st p q:=by
 unfold rdP at h
 split at h
 ·simp only[Option.bind_eq_some_iff]at h
  obtain ⟨ds,hds,h⟩:=h
  split at h
  ·rename_i hc
   simp only[Option.some.injEq]at h;subst h
   obtain ⟨h1,h2⟩:=YP hds
   exact .agg _ _ h1 (fun c hc'=>(List.all_eq_true.1 hc) c hc') fun i c d hc hd=>Wl (h2 i c d hc hd)
  ·cases h
 ·exact Wl h
theorem L7 {st:Store}:∀ {l ds:List PV},B8 st l=some ds→l.length=ds.length∧∀(i:Nat) (c d:PV),l[i]?=some c→ds[i]?=some d→DR st c d
 | [],ds,h=>by simp only[B8,Option.some.injEq]at h;subst h;exact⟨rfl,by intro i c d h;simp at h⟩
 | c::l,ds,h=>by
  simp only[B8,Option.bind_eq_some_iff,Option.map_eq_some_iff]at h
  obtain ⟨d,hd,ds',hds,rfl⟩:=h
  obtain ⟨h1,h2⟩:=L7 hds
  refine ⟨by simp[h1],fun i c' d' hc hd'=>?_⟩
  cases i with
  | zero=>simp at hc hd';subst hc;subst hd';exact RB hd
  | succ i=>exact h2 i c' d' (by simpa using hc) (by simpa using hd')
theorem YQ (h:rdC st p=some q):q.pur=true:=by
 unfold rdC at h
 split at h
 ·simp only[Option.bind_eq_some_iff]at h
  obtain ⟨a,_,h2⟩:=h
  split at h2
  ·rename_i hc
   cases h2
   simp only[PV.pur]
   exact TR fun x hx=>Cg hc.2 x (List.mem_of_mem_drop (List.mem_of_mem_take hx))
  ·cases h2
 ·split at h
  ·rename_i hp;cases h;exact hp
  ·cases h
theorem YR {st:Store}:∀ {l ds:List PV},rdL st l=some ds→AT ds=true
 | [],ds,h=>by simp only[rdL,Option.some.injEq]at h;subst h;rfl
 | c::l,ds,h=>by
  simp only[rdL,Option.bind_eq_some_iff,Option.map_eq_some_iff]at h
  obtain ⟨d,hd,ds',hds,rfl⟩:=h
  simp only[AT,YQ hd,YR hds,Bool.and_self]
theorem xD (h:rdP st p=some q):q.pur=true:=by
 unfold rdP at h
 split at h
 ·simp only[Option.bind_eq_some_iff]at h
  obtain ⟨ds,h1,h2⟩:=h
  split at h2
  ·cases h2;simp only[PV.pur];exact YR h1
  ·cases h2
 ·exact YQ h
end
theorem Qv {st:Store}:∀ {l ds:List PV},B8 st l=some ds→AT ds=true
 | [],ds,h=>by simp only[B8,Option.some.injEq]at h;subst h;rfl
 | c::l,ds,h=>by
  simp only[B8,Option.bind_eq_some_iff,Option.map_eq_some_iff]at h
  obtain ⟨d,hd,ds',hds,rfl⟩:=h
  simp only[AT,xD hd,Qv hds,Bool.and_self]
theorem VR.ofBase {imm:Nat→Nat→Option Value} {w:World} {C':Ctx} (hle:∀b o u,imm b o=some u→C'.imm b o=some u) {v:Value} {p:PV} (h:VR (base imm w) v p):VR C' v p:=by
 have sm:∀ {b o},(imm b o).isSome=true→(C'.imm b o).isSome=true∧∀d,(C'.imm b o).getD d=(imm b o).getD d:=fun {b o} hs=>by
  obtain ⟨u,hu⟩:=Option.isSome_iff_exists.1 hs
  rw [hle _ _ _ hu,hu];exact⟨rfl,fun _=>rfl⟩
 induction h with
 | bad v=>exact .bad v
 | bool b=>exact .bool b
 | int k n=>exact .int k n
 | str s l h hm=>exact .str s l h hm
 | nilp=>exact .nilp
 | ptr v id g i o hv hb=>exact hb.elim
 | vptr b o off cells hc hi h ih =>
  refine .vptr b o off cells hc (fun j hj=>(sm (hi j hj)).1) (fun j c hj=>?_)
  have hlt:j<cells.length:=(List.getElem?_eq_some_iff.1 hj).1
  rw [(sm (hi j hlt)).2]
  exact ih j c hj
 | nils=>exact .nils
 | lits b o size cap l hcap hmax hsz hl hi h ih =>
  refine .lits b o size cap l hcap hmax hsz hl (fun i j a b=>(sm (hi i j a b)).1) (fun i j e c he hc=>?_)
  have h1:i<l.length:=(List.getElem?_eq_some_iff.1 he).1
  have h2:j<size:=by
   have :=(hl e (List.mem_of_getElem? he)).1
   have :=(List.getElem?_eq_some_iff.1 hc).1
   omega
  rw [(sm (hi i j h1 h2)).2]
  exact ih i j e c he hc
 | lits0 a cap z=>exact .lits0 a cap z
 | ref v id g s n hv hb=>exact hb.elim
 | func fn first captured pf pc hf hc h1 h2 ih1 ih2=>exact .func fn first captured pf pc hf hc ih1 ih2
 | nilf=>exact .nilf
 | iface t v p h ih=>exact .iface t v p ih
 | nili=>exact .nili
 | agg cs l hn hc h ih=>exact .agg cs l hn hc ih
 | tuple cs l hn h ih=>exact .tuple cs l hn ih
 | nilm=>exact .nilm
 | mref v id g hv hb=>exact hb.elim
 | iter v id g hv hb=>exact hb.elim
theorem VR.nrm1 {C:Ctx} {v:Value} {p:PV} (h:VR C v p) (z:Option Nat):VR C v (nrm1 z p):=by
 unfold Sim.nrm1
 split
 ·cases z with
  | none=>exact h
  | some z=>cases h;exact .lits0 _ _ _
 ·exact h
theorem TS {p:PV} (h:p.isCell=true) (z:Option Nat):(nrm1 z p).isCell=true:=by
 unfold nrm1
 split
 ·cases z <;> rfl
 ·exact h
theorem N9 {m:List (Nat×Nat)}:∀ {i:Nat} {l:List PV} {j:Nat},(KO m i l)[j]?=(l[j]?).map (nrm1 (m.lookup (i+j)))
 | i,[],j=>by simp[KO]
 | i,c::l,0=>by simp[KO]
 | i,c::l,j+1=>by simp only[KO,List.getElem?_cons_succ,N9];congr 3;omega
theorem Na {m:List (Nat×Nat)}:∀ {i:Nat} {l:List PV},(KO m i l).length=l.length
 | i,[]=>rfl
 | i,c::l=>by simp[KO,Na]
theorem VR.nrm {C:Ctx} {v:Value} {p:PV} (h:VR C v p) (m:List (Nat×Nat)):VR C v (nrm m p):=by
 unfold Sim.nrm
 split
 ·rename_i cs
  cases h with
  | agg vs l hn hc h =>
   refine .agg vs _ (by rw[Na];exact hn) (fun c hc'=>?_) (fun i p hp=>?_)
   ·obtain ⟨j,hj⟩:=List.mem_iff_getElem?.1 hc'
    rw [N9,Option.map_eq_some_iff]at hj
    obtain ⟨d,hd,rfl⟩:=hj
    exact TS (hc d (List.mem_of_getElem? hd)) _
   ·rw [N9,Option.map_eq_some_iff]at hp
    obtain ⟨d,hd,rfl⟩:=hp
    exact (h i d hd).nrm1 _
 ·exact h.nrm1 _
theorem Do {P:Program}:∀ {ts:List TypeId} {l:List PV},(nrmAll P ts l).length=l.length
 | [],l=>by cases l <;> rfl
 | t::ts,[]=>rfl
 | t::ts,p::l=>by simp[nrmAll,Do]
theorem VR.nrmAll {P:Program} {C:Ctx}:∀ {ts:List TypeId} {l:List PV} {vals:Nat→Value},(∀(i:Nat) (p:PV),l[i]?=some p→VR C (vals i) p)→∀(i:Nat) (p:PV),(nrmAll P ts l)[i]?=some p→VR C (vals i) p
 | [],l,vals,h=>by cases l <;> exact h
 | t::ts,[],vals,h=>h
 | t::ts,q::l,vals,h=>by
  intro i p hp
  cases i with
  | zero=>simp only[Sim.nrmAll,List.getElem?_cons_zero,Option.some.injEq]at hp;subst hp;exact (h 0 q rfl).nrm _
  | succ i=>exact VR.nrmAll (ts:=ts) (l:=l) (vals:=fun i=>vals (i+1)) (fun j p hj=>h (j+1) p (by simpa using hj)) i p (by simpa [Sim.nrmAll]using hp)
theorem Inv.only {C:Ctx} {st:Store} {w:World} (h:Inv C st w) (ids:List Nat):C.le { C with loc:=fun id=>if ids.contains id=true then C.loc id else none }∧Inv { C with loc:=fun id=>if ids.contains id=true then C.loc id else none } (st.only ids) w:=by
 have hle:C.le { C with loc:=fun id=>if ids.contains id=true then C.loc id else none } :=
  ⟨fun _ _ _ h=>h,fun _ _ _=>rfl,fun _ h=>h,fun id _ L' hL=>⟨L',(by
   have hL:(if ids.contains id=true then C.loc id else none)=some L':=hL
   split at hL
   ·exact hL
   ·cases hL),.inl rfl⟩,rfl,rfl,rfl,rfl,fun _ h=>h,rfl⟩
 refine ⟨hle,?_⟩
 constructor
 ·exact h.os
 ·exact h.out
 ·exact h.hB
 ·exact h.old
 ·exact h.imm
 ·exact h.next
 ·intro id hid
  have hid:(if ids.contains id=true then st.obj id else none)=none:=hid
  show (if ids.contains id=true then C.loc id else none)=none
  split at hid
  ·rename_i hc;rw[if_pos hc];exact h.none_ id hid
  ·rename_i hc;rw[if_neg hc]
 ·intro id o hid
  have hid:(if ids.contains id=true then st.obj id else none)=some o:=hid
  split at hid
  ·rename_i hc
   obtain ⟨hb,L,hL,hat⟩:=h.obj id o hid
   exact ⟨hb,L,by show (if ids.contains id=true then C.loc id else none)=some L;rw[if_pos hc];exact hL,hat.mono hle (fun _ _ x=>x) fun _=>rfl⟩
  ·cases hid
 ·intro id id' L L' hne hL hL' hb
  have hL:(if ids.contains id=true then C.loc id else none)=some L:=hL
  have hL':(if ids.contains id'=true then C.loc id' else none)=some L':=hL'
  split at hL
  ·split at hL'
   ·exact h.sep id id' L L' hne hL hL' hb
   ·cases hL'
  ·cases hL
 ·exact h.keep
open Classical in
noncomputable def Ctx.closeIn (C:Ctx) (ids:List Nat) (w:World):Ctx :=
 { C with imm:=fun b o=>if ∃id L,ids.contains id=true∧C.loc id=some L∧0<L.cap∧L.blk=b then w.cell? ⟨b,o,none⟩else C.imm b o,loc:=fun id=>if ids.contains id=true then none else C.loc id }
theorem Inv.without {C:Ctx} {st:Store} {w:World} (h:Inv C st w) (ids:List Nat):C.le (C.closeIn ids w)∧Inv (C.closeIn ids w) (st.without ids) w ∧
  (∀ id L,ids.contains id=true→C.loc id=some L→0<L.cap→∀o u,w.cell? ⟨L.blk,o,none⟩=some u→(C.closeIn ids w).imm L.blk o=some u):=by
 have himm:∀b o v,C.imm b o=some v→(C.closeIn ids w).imm b o=some v:=fun b o v hv=>by
  unfold Ctx.closeIn
  dsimp only
  split
  ·exact h.imm b o v hv
  ·exact hv
 have hle:C.le (C.closeIn ids w):=by
  refine ⟨himm,fun b o hb=>?_,fun _ h=>h,fun id _ L' hL=>⟨L',?_,.inl rfl⟩,rfl,rfl,rfl,rfl,fun _ h=>h,rfl⟩
  ·unfold Ctx.closeIn
   dsimp only
   split
   ·rename_i hx
    obtain ⟨id,L,hc,hL,hcap,rfl⟩:=hx
    obtain ⟨ob,_,_,hat⟩:=h.live hL
    have :=(hat.own hcap).1
    omega
   ·rfl
  ·have hL:(if ids.contains id=true then none else C.loc id)=some L':=hL
   split at hL
   ·cases hL
   ·exact hL
 refine ⟨hle,?_,fun id L hc hL hcap o u hu=>?_⟩
 ·constructor
  ·exact h.os
  ·exact h.out
  ·exact h.hB
  ·exact h.old
  ·intro b o v hv
   unfold Ctx.closeIn at hv
   dsimp only at hv
   split at hv
   ·exact hv
   ·exact h.imm b o v hv
  ·exact h.next
  ·intro id hid
   have hid:(if ids.contains id=true then none else st.obj id)=none:=hid
   show (if ids.contains id=true then none else C.loc id)=none
   split at hid
   ·rename_i hc;rw[if_pos hc]
   ·rename_i hc;rw[if_neg hc];exact h.none_ id hid
  ·intro id o hid
   have hid:(if ids.contains id=true then none else st.obj id)=some o:=hid
   split at hid
   ·cases hid
   ·rename_i hc
    obtain ⟨hb,L,hL,hat⟩:=h.obj id o hid
    refine ⟨hb,L,by show (if ids.contains id=true then none else C.loc id)=some L;rw[if_neg hc];exact hL,hat.mono hle (fun hcap o ho=>?_) fun _=>rfl⟩
    unfold Ctx.closeIn
    dsimp only
    split
    ·rename_i hx
     obtain ⟨id',L',hc',hL',hcap',hb'⟩:=hx
     have hne:id'≠id:=fun e=>by subst e;exact hc hc'
     rcases h.sep id' id L' L hne hL' hL hb' with h0 | h0 <;> omega
    ·exact ho
  ·intro id id' L L' hne hL hL' hb
   have hL:(if ids.contains id=true then none else C.loc id)=some L:=hL
   have hL':(if ids.contains id'=true then none else C.loc id')=some L':=hL'
   split at hL
   ·cases hL
   ·split at hL'
    ·cases hL'
    ·exact h.sep id id' L L' hne hL hL' hb
  ·exact h.keep
 ·unfold Ctx.closeIn
  dsimp only
  rw [if_pos ⟨id,L,hc,hL,hcap,rfl⟩]
  exact hu
section
variable {C:Ctx} {st:Store} {w:World}
theorem VR.freeze (h:Inv C st w) (ids:List Nat) {v:Value} {p q:PV} (hq:rdP (st.only ids) p=some q) (hv:VR C v p):VR (C.closeIn ids w) v q:=by
 obtain ⟨h1,h2⟩:=h.only ids
 obtain ⟨h3,h4,h5⟩:=h.without ids
 refine ((RB hq).sound h2 (imm:=(C.closeIn ids w).imm) (fun b o u hu=>h3.imm b o u hu) (fun id L hL hcap o u hu=>?_) (hv.mono h1)).ofBase (fun _ _ _ h=>h)
 have hL:(if ids.contains id=true then C.loc id else none)=some L:=hL
 split at hL
 ·rename_i hc;exact h5 id L hc hL hcap o u hu
 ·cases hL
theorem VR.freezeB (h:Inv C st w) (ids:List Nat) {v:Value} {p q:PV} (hq:rdP (st.only ids) p=some q) (hv:VR C v p):VR (base (C.closeIn ids w).imm w) v q:=by
 obtain ⟨h1,h2⟩:=h.only ids
 obtain ⟨h3,h4,h5⟩:=h.without ids
 refine ((RB hq).sound h2 (imm:=(C.closeIn ids w).imm) (fun b o u hu=>h3.imm b o u hu) (fun id L hL hcap o u hu=>?_) (hv.mono h1))
 have hL:(if ids.contains id=true then C.loc id else none)=some L:=hL
 split at hL
 ·rename_i hc;exact h5 id L hc hL hcap o u hu
 ·cases hL
end
noncomputable def Ctx.closeAgain (C:Ctx) (st:Store) (ids:List Nat) (w:World):Ctx :=
 { C.closeIn ids w with loc:=fun id=>if ids.contains id=true then (match st.obj id with | some (.arr g z _)=>some ⟨0,0,z,0,g+1⟩ | _=>none)else C.loc id }
theorem Wm {st:Store} {c:PV} (h:c.isCell=true):(sealC st c).isCell=true:=by
 unfold sealC
 split
 ·simp only[rdC]
  cases st.arr? _ _ with
  | none=>exact h
  | some q =>
   simp only[Option.bind_some]
   split <;> rfl
 ·exact h
theorem TT {st:Store} {c:PV}:(sealC st c).cells.length=c.cells.length:=by
 unfold sealC
 split
 ·simp only[rdC]
  cases st.arr? _ _ with
  | none=>rfl
  | some q =>
   simp only[Option.bind_some]
   split <;> rfl
 ·rfl
theorem TU {st:Store} {e:PV}:(MY st e).cells.length=e.cells.length:=by
 unfold MY
 split
 ·simp [PV.cells]
 ·exact TT
theorem TV (st:Store) (c:PV):Sim.sealC st c=c∨(c.cells = [c]∧(Sim.sealC st c).cells = [Sim.sealC st c]):=by
 unfold Sim.sealC
 split
 ·right
  refine ⟨rfl,?_⟩
  simp only[rdC]
  cases st.arr? _ _ with
  | none=>rfl
  | some q =>
   simp only[Option.bind_some]
   split <;> rfl
 ·exact .inl rfl
theorem kC {e c:PV} {j:Nat} (hn:∀cs,e≠.agg cs) (h:e.cells[j]?=some c):c=e:=by
 cases e <;> first
  | (exact absurd rfl (hn _))
  | (simp[PV.cells]at h;done)
  | (cases j with | zero=>(simp[PV.cells]at h;exact h.symm) | succ j=>(simp[PV.cells]at h))
theorem Qw {st:Store} {e:PV} {j:Nat} {c:PV} (h:(MY st e).cells[j]?=some c):∃c0,e.cells[j]?=some c0∧c=Sim.sealC st c0:=by
 unfold MY at h
 split at h
 ·simp only[PV.cells,List.getElem?_map,Option.map_eq_some_iff]at h ⊢
  obtain ⟨c0,h1,h2⟩:=h
  exact ⟨c0,h1,h2.symm⟩
 ·rename_i hna
  rcases TV st e with h1 | ⟨h1,h2⟩
  ·rw [h1]at h
   have := kC (fun cs he=>hna cs he) h
   exact ⟨c,h,by rw[this,h1]⟩
  ·rw [h2]at h
   cases j with
   | zero=>simp at h;exact⟨e,by rw[h1];rfl,h.symm⟩
   | succ j=>simp at h
theorem VR.sealC {C:Ctx} {st:Store} {w:World} (h:Inv C st w) (ids:List Nat) {C2:Ctx} (hle:C.le C2) (himm:∀b o u,(C.closeIn ids w).imm b o=some u→C2.imm b o=some u) {v:Value} {c:PV} (hv:VR C v c):VR C2 v (Sim.sealC (st.only ids) c):=by
 unfold Sim.sealC
 split
 ·rename_i id g s n
  cases hr:rdC (st.only ids) (.ref id g s n)with
  | none=>exact hv.mono hle
  | some q=>exact (VR.freezeB h ids (p:=.ref id g s n) (by simpa [rdP]using hr) hv).ofBase himm
 ·exact hv.mono hle
theorem Inv.seal {C:Ctx} {st:Store} {w:World} (h:Inv C st w) (ids:List Nat):C.le (C.closeAgain st ids w)∧Inv (C.closeAgain st ids w) (st.seal ids) w:=by
 obtain ⟨h3,h4,h5⟩:=h.without ids
 have hle:C.le (C.closeAgain st ids w):=by
  refine ⟨h3.imm,h3.old,fun _ h=>h,fun id hb L' hL=>?_,rfl,rfl,rfl,rfl,fun _ h=>h,rfl⟩
  have hL:(if ids.contains id=true then (match st.obj id with | some (.arr g z _)=>some (⟨0,0,z,0,g+1⟩:Loc) | _=>none)else C.loc id)=some L':=hL
  split at hL
  ·split at hL
   ·rename_i g z es ho
    cases hL
    obtain ⟨_,L,hL0,hat⟩:=h.obj id _ ho
    exact ⟨L,hL0,.inr (by have:=hat.1;show L.gen<g+1;omega)⟩
   ·cases hL
  ·exact ⟨L',hL,.inl rfl⟩
 refine ⟨hle,?_⟩
 constructor
 ·exact h.os
 ·exact h.out
 ·exact h.hB
 ·exact h.old
 ·exact h4.imm
 ·exact h.next
 ·intro id hid
  have hid:(if ids.contains id=true then (st.obj id).bind Cz else (st.obj id).map (TG (st.only ids)))=none:=hid
  show (if ids.contains id=true then (match st.obj id with | some (.arr g z _)=>some (⟨0,0,z,0,g+1⟩:Loc) | _=>none)else C.loc id)=none
  split at hid
  ·rename_i hc;rw[if_pos hc]
   cases ho:st.obj id with
   | none=>rfl
   | some o =>
    rw [ho]at hid
    cases o with
    | arr g z es=>simp[Cz]at hid
    | map g mk es=>rfl
    | it m n seen=>rfl
    | lp r=>rfl
  ·rename_i hc;rw[if_neg hc];exact h.none_ id (by simpa using hid)
 ·intro id o hid
  have hid:(if ids.contains id=true then (st.obj id).bind Cz else (st.obj id).map (TG (st.only ids)))=some o:=hid
  split at hid
  ·rename_i hc
   cases ho:st.obj id with
   | none=>rw[ho]at hid;simp at hid
   | some o1 =>
    rw [ho]at hid
    cases o1 with
    | arr g z es =>
     simp only[Option.bind_some,Cz,Option.some.injEq]at hid
     subst hid
     obtain ⟨hb,L,hL,hat⟩:=h.obj id _ ho
     refine ⟨hb,⟨0,0,z,0,g+1⟩,?_,rfl,rfl,hat.2.2.1,⟨Nat.le_refl _,Nat.zero_le _⟩,fun hx=>by simp at hx⟩
     show (if ids.contains id=true then (match st.obj id with | some (.arr g z _)=>some (⟨0,0,z,0,g+1⟩:Loc) | _=>none)else C.loc id)=_
     rw [if_pos hc,ho]
    | map g mk es=>simp[Cz]at hid
    | it m n seen=>simp[Cz]at hid
    | lp r=>simp[Cz]at hid
  ·rename_i hc
   simp only[Option.map_eq_some_iff]at hid
   obtain ⟨o1,ho,rfl⟩:=hid
   obtain ⟨hb,L,hL,hat⟩:=h.obj id o1 ho
   have hout:0<L.cap→∀o,C.imm L.blk o=none→(C.closeAgain st ids w).imm L.blk o=none:=fun hcap o ho=>by
    show (C.closeIn ids w).imm L.blk o=none
    unfold Ctx.closeIn
    dsimp only
    split
    ·rename_i hx
     obtain ⟨id',L',hc',hL',hcap',hb'⟩:=hx
     have hne:id'≠id:=fun e=>by subst e;exact hc hc'
     rcases h.sep id' id L' L hne hL' hL hb' with h0 | h0 <;> omega
    ·exact ho
   refine ⟨hb,L,by show (if ids.contains id=true then _ else C.loc id)=some L;rw[if_neg hc];exact hL,?_⟩
   have hm:=hat.mono hle hout fun _=>rfl
   cases o1 with
   | map g mk es=>exact hm
   | it m n seen=>exact hm
   | lp r=>exact hm
   | arr g z es =>
    obtain ⟨m1,m2,m3,m4,m5⟩:=hm
    refine ⟨m1,m2,m3,⟨by simpa using m4.1,m4.2⟩,fun hcap=>?_⟩
    obtain ⟨a1,a2,cs,T,a3,a4,_⟩:=m5 hcap
    obtain ⟨b1,b2,cs',T',b3,b4,b5⟩:=hat.2.2.2.2 hcap
    have ecs:cs'=cs:=by rw[a3]at b3;cases b3;rfl
    subst ecs
    refine ⟨a1,a2,cs',T,a3,a4,fun i e he=>?_⟩
    simp only[List.getElem?_map,Option.map_eq_some_iff]at he
    obtain ⟨e0,he0,rfl⟩:=he
    obtain ⟨c1,c2,c3⟩:=b5 i e0 he0
    refine ⟨by rw[TU];exact c1,fun c hc=>?_,fun j c hj=>?_⟩
    ·obtain ⟨j,hj⟩:=List.mem_iff_getElem?.1 hc
     obtain ⟨c0,hc0,rfl⟩:=Qw hj
     exact Wm (c2 c0 (List.mem_of_getElem? hc0))
    ·obtain ⟨c0,hc0,rfl⟩:=Qw hj
     exact VR.sealC h ids hle (fun _ _ _ x=>x) (c3 j c0 hc0)
 ·intro id id' L L' hne hL hL' hb
  have hL:(if ids.contains id=true then (match st.obj id with | some (.arr g z _)=>some (⟨0,0,z,0,g+1⟩:Loc) | _=>none)else C.loc id)=some L:=hL
  have hL':(if ids.contains id'=true then (match st.obj id' with | some (.arr g z _)=>some (⟨0,0,z,0,g+1⟩:Loc) | _=>none)else C.loc id')=some L':=hL'
  split at hL
  ·split at hL
   ·cases hL;exact .inl rfl
   ·cases hL
  ·split at hL'
   ·split at hL'
    ·cases hL';exact .inr rfl
    ·cases hL'
   ·exact h.sep id id' L L' hne hL hL' hb
 ·exact h.keep
section
variable {C:Ctx} {st:Store} {w:World}
theorem Inv.again (h:Inv C st w) (ids:List Nat):C.le (C.closeAgain st ids w)∧Inv (C.closeAgain st ids w) ⟨fun i=>if ids.contains i=true then (st.obj i).bind Cz else st.obj i,st.next⟩ w:=by
 obtain ⟨h3,h4,h5⟩:=h.without ids
 have hle:C.le (C.closeAgain st ids w):=by
  refine ⟨h3.imm,h3.old,fun _ h=>h,fun id hb L' hL=>?_,rfl,rfl,rfl,rfl,fun _ h=>h,rfl⟩
  have hL:(if ids.contains id=true then (match st.obj id with | some (.arr g z _)=>some (⟨0,0,z,0,g+1⟩:Loc) | _=>none)else C.loc id)=some L':=hL
  split at hL
  ·split at hL
   ·rename_i g z es ho
    cases hL
    obtain ⟨_,L,hL0,hat⟩:=h.obj id _ ho
    exact ⟨L,hL0,.inr (by have:=hat.1;show L.gen<g+1;omega)⟩
   ·cases hL
  ·exact ⟨L',hL,.inl rfl⟩
 refine ⟨hle,?_⟩
 constructor
 ·exact h.os
 ·exact h.out
 ·exact h.hB
 ·exact h.old
 ·exact h4.imm
 ·exact h.next
 ·intro id hid
  have hid:(if ids.contains id=true then (st.obj id).bind Cz else st.obj id)=none:=hid
  show (if ids.contains id=true then (match st.obj id with | some (.arr g z _)=>some (⟨0,0,z,0,g+1⟩:Loc) | _=>none)else C.loc id)=none
  split at hid
  ·rename_i hc;rw[if_pos hc]
   cases ho:st.obj id with
   | none=>rfl
   | some o =>
    rw [ho]at hid
    cases o with
    | arr g z es=>simp[Cz]at hid
    | map g mk es=>rfl
    | it m n seen=>rfl
    | lp r=>rfl
  ·rename_i hc;rw[if_neg hc];exact h.none_ id hid
 ·intro id o hid
  have hid:(if ids.contains id=true then (st.obj id).bind Cz else st.obj id)=some o:=hid
  split at hid
  ·rename_i hc
   cases ho:st.obj id with
   | none=>rw[ho]at hid;simp at hid
   | some o1 =>
    rw [ho]at hid
    cases o1 with
    | arr g z es =>
     simp only[Option.bind_some,Cz,Option.some.injEq]at hid
     subst hid
     obtain ⟨hb,L,hL,hat⟩:=h.obj id _ ho
     refine ⟨hb,⟨0,0,z,0,g+1⟩,?_,rfl,rfl,hat.2.2.1,⟨Nat.le_refl _,Nat.zero_le _⟩,fun hx=>by simp at hx⟩
     show (if ids.contains id=true then (match st.obj id with | some (.arr g z _)=>some (⟨0,0,z,0,g+1⟩:Loc) | _=>none)else C.loc id)=_
     rw [if_pos hc,ho]
    | map g mk es=>simp[Cz]at hid
    | it m n seen=>simp[Cz]at hid
    | lp r=>simp[Cz]at hid
  ·rename_i hc
   obtain ⟨hb,L,hL,hat⟩:=h.obj id o hid
   have hout:0<L.cap→∀o,C.imm L.blk o=none→(C.closeAgain st ids w).imm L.blk o=none:=fun hcap o ho=>by
    show (C.closeIn ids w).imm L.blk o=none
    unfold Ctx.closeIn
    dsimp only
    split
    ·rename_i hx
     obtain ⟨id',L',hc',hL',hcap',hb'⟩:=hx
     have hne:id'≠id:=fun e=>by subst e;exact hc hc'
     rcases h.sep id' id L' L hne hL' hL hb' with h0 | h0 <;> omega
    ·exact ho
   refine ⟨hb,L,by show (if ids.contains id=true then _ else C.loc id)=some L;rw[if_neg hc];exact hL,?_⟩
   exact hat.mono hle hout fun _=>rfl
 ·intro id id' L L' hne hL hL' hb
  have hL:(if ids.contains id=true then (match st.obj id with | some (.arr g z _)=>some (⟨0,0,z,0,g+1⟩:Loc) | _=>none)else C.loc id)=some L:=hL
  have hL':(if ids.contains id'=true then (match st.obj id' with | some (.arr g z _)=>some (⟨0,0,z,0,g+1⟩:Loc) | _=>none)else C.loc id')=some L':=hL'
  split at hL
  ·split at hL
   ·cases hL;exact .inl rfl
   ·cases hL
  ·split at hL'
   ·split at hL'
    ·cases hL';exact .inr rfl
    ·cases hL'
   ·exact h.sep id id' L L' hne hL hL' hb
 ·exact h.keep
theorem VR.freezeAgain (h:Inv C st w) (ids:List Nat) {l as:List PV} (hq:B8 (st.only ids) l=some as) {vals:Nat→Value} (hv:∀(i:Nat) (p:PV),l[i]?=some p→VR C (vals i) p) :
  l.length = as.length∧∀(i:Nat) (p:PV),as[i]?=some p→VR (C.closeAgain st ids w) (vals i) p:=by
 induction l generalizing as vals with
 | nil=>simp only[B8,Option.some.injEq]at hq;subst hq;exact⟨rfl,by intro i p h;simp at h⟩
 | cons c l ih =>
  simp only[B8,Option.bind_eq_some_iff,Option.map_eq_some_iff]at hq
  obtain ⟨d,hd,ds,hds,rfl⟩:=hq
  obtain ⟨h1,h2⟩:=ih hds (vals:=fun i=>vals (i+1)) (fun i p hp=>hv (i+1) p (by simpa using hp))
  refine ⟨by simp[h1],fun i p hp=>?_⟩
  cases i with
  | zero=>simp only[List.getElem?_cons_zero,Option.some.injEq]at hp;subst hp;exact (VR.freezeB h ids hd (hv 0 c rfl)).ofBase (C':=C.closeAgain st ids w) (fun _ _ _ x=>x)
  | succ i=>exact h2 i p (by simpa using hp)
theorem VR.freezeAll (h:Inv C st w) (ids:List Nat) {l as:List PV} (hq:B8 (st.only ids) l=some as) {vals:Nat→Value} (hv:∀(i:Nat) (p:PV),l[i]?=some p→VR C (vals i) p) :
  l.length = as.length∧∀(i:Nat) (p:PV),as[i]?=some p→VR (C.closeIn ids w) (vals i) p:=by
 induction l generalizing as vals with
 | nil=>simp only[B8,Option.some.injEq]at hq;subst hq;exact⟨rfl,by intro i p h;simp at h⟩
 | cons c l ih =>
  simp only[B8,Option.bind_eq_some_iff,Option.map_eq_some_iff]at hq
  obtain ⟨d,hd,ds,hds,rfl⟩:=hq
  obtain ⟨h1,h2⟩:=ih hds (vals:=fun i=>vals (i+1)) (fun i p hp=>hv (i+1) p (by simpa using hp))
  refine ⟨by simp[h1],fun i p hp=>?_⟩
  cases i with
  | zero=>simp only[List.getElem?_cons_zero,Option.some.injEq]at hp;subst hp;exact VR.freeze h ids hd (hv 0 c rfl)
  | succ i=>exact h2 i p (by simpa using hp)
end
def RC:MK→Option TypeDesc
 | .int k=>some (.int k)
 | .str=>some .string
 | .bool=>some .bool
 | .ints _=>none
def YT (P:Program) (kt:TypeId) (mk:MK):Prop:=(∃d,RC mk=some d∧P.underlying kt=some d)∨∃n,mk=.ints n∧Hd P kt=some n
theorem DL {P:Program} {t:TypeId} {mk:MK} {z:PV} (h:AV P t=some (mk,z)):∃kt et i zv,P.underlying t=some (.map kt et)∧P.info? et=some i∧i.zero=some zv∧z=Bn zv∧YT P kt mk:=by
 unfold AV at h
 split at h
 ·rename_i k e ht
  split at h
  ·rename_i zv hz
   simp only[Option.bind_eq_some_iff]at hz
   obtain ⟨i,hi,hz⟩:=hz
   split at h
   case h_4 =>
    simp only[Option.map_eq_some_iff,Prod.mk.injEq]at h
    obtain ⟨n,hn,rfl,rfl⟩:=h
    exact ⟨k,e,i,zv,ht,hi,hz,rfl,.inr ⟨n,rfl,hn⟩⟩
   all_goals
    rename_i hk
    simp only[Option.some.injEq,Prod.mk.injEq]at h
    obtain ⟨rfl,rfl⟩:=h
    exact ⟨k,e,i,zv,ht,hi,hz,rfl,.inl ⟨_,rfl,hk⟩⟩
  ·cases h
 ·cases h
section
variable {C:Ctx} {P:Program} {st:Store} {w:World}
theorem J7 {a:PV} {l:List PV} (h:JP (a::l)=true):∃n,a=.int .i64 n∧(-9223372036854775808≤n∧n≤9223372036854775807)∧JP l=true:=by
 unfold JP at h
 split at h
 ·rename_i he;cases he
 ·rename_i n l' he
  cases he
  simp only[Bool.and_eq_true,decide_eq_true_eq]at h
  exact ⟨n,rfl,h.1,h.2⟩
 ·cases h
theorem IC:∀ {l:List PV} {i:Nat} {p:PV},JP l=true→l[i]?=some p→∃n,p=.int .i64 n ∧ -9223372036854775808≤n∧n≤9223372036854775807
 | [],i,p,_,h=>by simp at h
 | a::l,i,p,hl,h=>by
  obtain ⟨n,rfl,hl1,hl2⟩:=J7 hl
  cases i with
  | zero=>simp at h;subst h;exact⟨n,rfl,hl1⟩
  | succ i=>exact IC hl2 (by simpa using h)
theorem J8 {α β:Type} {f:α→Option β}:∀ {L:List α},(∀x∈L,∃y,f x=some y)→∃ys,L.mapM f=some ys
 | [],_=>⟨[],by simp⟩
 | a::L,h=>by
  obtain ⟨y,hy⟩:=h a (by simp)
  obtain ⟨ys,hys⟩:=J8 (L:=L) fun x hx=>h x (by simp[hx])
  exact ⟨y::ys,by simp[hy,hys]⟩
theorem Qx {t:TypeId} {k:IntKind} (h:Gg P t=some k):P.underlying t=some (.int k):=by
 unfold Gg at h;split at h
 ·simp only[Option.some.injEq]at h;subst h;assumption
 ·cases h
theorem Nb {e:TypeId} {d:Nat} {n:Int} (he:P.underlying e=some (.int .i64)) (hn : -9223372036854775808≤n∧n≤9223372036854775807):P.keyLits (d+1) e [.int .i64 n]=some [.int .i64 n]:=by
 unfold Program.keyLits
 rw [he]
 have : (Lit.int .i64 n).wf=true:=by
  simp [Lit.wf,IntKind.min,IntKind.max,IntKind.signed,IntKind.bits]
  omega
 simp [this]
theorem ID {kt:TypeId} {n:Nat} (h:Hd P kt=some n):(match P.underlying kt with | some (.array _ _) | some (.struct _)=>true | _=>false)=true:=by
 unfold Hd at h
 split at h
 ·split at h
  ·rename_i hu;rw[hu]
  ·rename_i hu;rw[hu]
  ·cases h
 ·cases h
theorem I7 {kt:TypeId} {n:Nat} (h:Hd P kt=some n):P.keyType kt=true∧P.keyTypeAt 2 kt=true∧P.tiled 2 kt=true∧0<P.types.size:=by
 unfold Hd at h
 split at h
 ·rename_i hc;exact hc
 ·cases h
theorem JR {α:Type} {l:List α} {i:Nat} {a:α} (h:l[i]?=some a):(l.drop i).take 1 = [a]:=by
 obtain ⟨hlt,rfl⟩:=List.getElem?_eq_some_iff.1 h
 rw [List.drop_eq_getElem_cons hlt];rfl
theorem Hf {kt:TypeId} {n:Nat} (h:Hd P kt=some n) {v:Value} {k:PV} (hv:VR C v k) (hk:BM (.ints n) k=true):∃l,keyOf P kt v=some l:=by
 obtain ⟨q1,q2,q3,q4⟩:=I7 h
 cases k <;> simp only[BM,Bool.false_eq_true,Bool.and_eq_true,beq_iff_eq]at hk
 rename_i l
 cases hv with
 | agg cs _ hsz hc hat =>
  obtain ⟨hlen,hil⟩:=hk
  have hcell:∀i,i<n→∃m,cs.toList[i]?=some (.int .i64 m) ∧ -9223372036854775808≤m∧m≤9223372036854775807:=by
   intro i hi
   obtain ⟨p,hp⟩:∃p,l[i]?=some p:=⟨_,List.getElem?_eq_getElem (by omega)⟩
   obtain ⟨m,rfl,hm⟩:=IC hil hp
   have := hat i _ hp
   have e:=Cl this
   refine ⟨m,?_,hm⟩
   have hlt:i<cs.size:=by omega
   simp only[Array.getD_eq_getD_getElem?,Array.getElem?_eq_getElem hlt,Option.getD_some]at e
   simp [hlt,e]
  obtain ⟨d,hd⟩:∃d,P.types.size=d+1:=⟨P.types.size-1,by omega⟩
  unfold Hd at h
  rw [if_pos ⟨q1,q2,q3,q4⟩]at h
  split at h
  ·rename_i fs hu
   split at h
   ·rename_i hc2
    obtain ⟨hc1,hc2⟩:=hc2
    have hnn:fs.size=n:=Option.some.inj h
    subst hnn
    have hform:(Value.agg cs).formed P kt=true:=by simp[Value.formed,hu,hc1,hsz,hlen]
    have hname : fs.all (·.name != "_") = true := by
     have := q2
     unfold Program.keyTypeAt at this
     rw [hu]at this
     simp only[Bool.and_eq_true,Array.all_eq_true]at this ⊢
     intro i hi
     exact (this.1.1 i hi).1
    have hm:∃ys,fs.toList.mapM (fun f=>P.keyLits (d+1) f.type ((cs.toList.drop f.offset).take (P.cellsOf f.type)))=some ys:=J8 fun f hf=>by
     obtain ⟨i,hi,rfl⟩:=List.getElem_of_mem hf
     have hz:=List.all_eq_true.1 hc2 (fs.toList[i],i) (by rw[List.mem_zipIdx_iff_getElem?];simp[hi])
     simp only[Bool.and_eq_true,beq_iff_eq]at hz
     obtain ⟨⟨z1,z2⟩,z3⟩:=hz
     obtain ⟨m,e1,e2⟩:=hcell i (by simpa using hi)
     have hint:P.underlying fs.toList[i].type=some (.int .i64):=Qx z3
     rw [z1,z2,JR e1]
     exact ⟨_,Nb hint e2⟩
    obtain ⟨ys,hys⟩:=hm
    refine ⟨.string (keyBytes ys.flatten),?_⟩
    unfold keyOf
    rw [hu]
    have hlits:P.keyLits (P.types.size+1) kt cs.toList=some ys.flatten:=by
     rw [hd]
     unfold Program.keyLits
     rw [hu]
     simp only[Array.length_toList]
     rw [if_pos ⟨by omega,hname⟩,hys];rfl
    simp [q1,hform,Value.cells,hlits]
   ·cases h
  ·rename_i n' e hu
   split at h
   ·rename_i hc2
    obtain ⟨hc1,hc2,hc3⟩:=hc2
    have hnn:n'=n:=Option.some.inj h
    subst hnn
    have hint:P.underlying e=some (.int .i64):=Qx hc3
    have hform:(Value.agg cs).formed P kt=true:=by simp[Value.formed,hu,hc1,hsz,hlen]
    have hm:∃ys,(List.range n').mapM (fun i=>P.keyLits (d+1) e ((cs.toList.drop (i*P.cellsOf e)).take (P.cellsOf e)))=some ys:=J8 fun i hi=>by
     obtain ⟨m,e1,e2⟩:=hcell i (List.mem_range.1 hi)
     rw [hc2,Nat.mul_one,JR e1]
     exact ⟨_,Nb hint e2⟩
    obtain ⟨ys,hys⟩:=hm
    refine ⟨.string (keyBytes ys.flatten),?_⟩
    unfold keyOf
    rw [hu]
    have hlits:P.keyLits (P.types.size+1) kt cs.toList=some ys.flatten:=by
     rw [hd]
     unfold Program.keyLits
     rw [hu]
     simp only[Array.length_toList]
     rw [if_pos (by omega),hys];rfl
    simp [q1,hform,Value.cells,hlits]
   ·cases h
  ·cases h
theorem Qy:∀ {l m:List PV},JP l=true→JP m=true→(H5 l m=true↔l=m)
 | [],[],_,_=>by simp[H5]
 | [],b::m,_,_=>by simp[H5]
 | a::l,[],_,_=>by cases a <;> simp[H5]
 | a::l,b::m,hl,hm=>by
  obtain ⟨x,rfl,_,hl⟩:=J7 hl
  obtain ⟨y,rfl,_,hm⟩:=J7 hm
  have ih:=Qy hl hm
  simp [H5,ih]
theorem Gk {v:Value} {k:PV} {mk:MK} {d:TypeDesc} (hd:RC mk=some d) (hv:VR C v k) (hk:BM mk k=true):MapKept.IsKey d v:=by
 cases mk <;> simp only[RC,Option.some.injEq,reduceCtorEq]at hd <;> subst hd <;> cases k <;> simp[BM]at hk <;> cases hv <;> simp[MapKept.IsKey]
 ·exact hk.symm
theorem Qz {a b:Value} {pa pb:PV} {mk:MK} (ha:VR C a pa) (hb:VR C b pb) (ka:BM mk pa=true) (kb:BM mk pb=true):a=b↔DH pa pb=true:=by
 cases mk
 case ints n =>
  cases pa <;> simp only[BM,Bool.false_eq_true,Bool.and_eq_true,beq_iff_eq]at ka
  cases pb <;> simp only[BM,Bool.false_eq_true,Bool.and_eq_true,beq_iff_eq]at kb
  rename_i l m
  simp only[DH]
  rw [Qy ka.2 kb.2]
  cases ha with
  | agg cs _ hsz hc hat =>
   cases hb with
   | agg ds _ hsz2 hc2 hat2 =>
    have key:∀i,i<n→∀x y,l[i]?=some (.int .i64 x)→m[i]?=some (.int .i64 y)→cs.getD i undef=.int .i64 x∧ds.getD i undef=.int .i64 y:=fun i hi x y h1 h2=>⟨Cl (hat i _ h1),Cl (hat2 i _ h2)⟩
    constructor
    ·intro e
     simp only[Value.agg.injEq]at e
     subst e
     refine List.ext_getElem? fun i=>?_
     by_cases hi:i<n
     ·obtain ⟨p,hp⟩:∃p,l[i]?=some p:=⟨_,List.getElem?_eq_getElem (by omega)⟩
      obtain ⟨q,hq⟩:∃q,m[i]?=some q:=⟨_,List.getElem?_eq_getElem (by omega)⟩
      obtain ⟨x,rfl,_⟩:=IC ka.2 hp
      obtain ⟨y,rfl,_⟩:=IC kb.2 hq
      obtain ⟨e1,e2⟩:=key i hi x y hp hq
      rw [e1]at e2
      simp only[Value.int.injEq,true_and]at e2
      rw [hp,hq,e2]
     ·rw [List.getElem?_eq_none (by omega),List.getElem?_eq_none (by omega)]
    ·intro e
     subst e
     congr 1
     apply Array.ext
     ·omega
     ·intro i h1 h2
      obtain ⟨p,hp⟩:∃p,l[i]?=some p:=⟨_,List.getElem?_eq_getElem (by omega)⟩
      obtain ⟨x,rfl,_⟩:=IC ka.2 hp
      obtain ⟨e1,e2⟩:=key i (by omega) x x hp hp
      simp only[Array.getD_eq_getD_getElem?,Array.getElem?_eq_getElem h1,Array.getElem?_eq_getElem h2,Option.getD_some]at e1 e2
      rw [e1,e2]
 all_goals cases pa <;> simp[BM]at ka <;> cases pb <;> simp[BM]at kb <;> cases ha <;> cases hb
 ·subst ka;subst kb;simp[DH]
 ·rename_i s1 l1 h1 s2 l2 h2
  subst l1;subst l2
  simp only[DH,beq_iff_eq,Value.string.injEq]
  constructor
  ·rintro rfl;rfl
  ·intro h
   have : s1.data=s2.data:=Array.toList_inj.1 h
   cases s1;cases s2;simp at this;subst this;rfl
 ·simp [DH]
theorem JS {mk:MK} {d:TypeDesc} (hd:RC mk=some d) {kv:Value} {k:PV} (hv:VR C kv k) (hk:BM mk k=true):∀(ces:List MapEntry) (es:List (PV×PV)) (i0:Nat),ces.length=es.length →
  (∀ (i:Nat) (a b:PV),es[i]?=some (a,b)→∃e:MapEntry,ces[i]?=some e∧VR C e.key a∧VR C e.val b∧BM mk a=true) →
  (∃ j e q,Instr.findNow d kv ces i0=some (some (i0+j,e.val))∧ces[j]?=some e∧e.key=kv∧B7 es k=some q∧VR C e.val q∧j<es.length∧∀v,CH es k v=es.set j (k,v)) ∨
  (Instr.findNow d kv ces i0=some none∧B7 es k=none∧∀v,CH es k v=es ++ [(k,v)])
 | [],[],i0,_,_=>.inr ⟨rfl,rfl,fun _=>rfl⟩
 | [],_::_,i0,hl,_=>by simp at hl
 | _::_,[],i0,hl,_=>by simp at hl
 | c::ces,(a,b)::es,i0,hl,hat=>by
  obtain ⟨e,he,h1,h2,h3⟩:=hat 0 a b rfl
  simp at he;subst he
  obtain ⟨r,hr,hiff⟩:=MapKept.sameNow_of_keys (Gk hd hv hk) (Gk hd h1 h3)
  have hs:=Qz hv h1 hk h3
  cases r with
  | true =>
   have hsk:DH k a=true:=hs.1 (hiff.1 rfl)
   exact .inl ⟨0,c,b,by simp[Instr.findNow,hr],rfl,(hiff.1 rfl).symm,by simp[B7,hsk],h2,by simp,fun v=>by simp[CH,hsk]⟩
  | false =>
   have hsk:DH k a=false:=by
    cases hx:DH k a with
    | false=>rfl
    | true=>have:=hiff.2 (hs.2 hx);cases this
   rcases JS hd hv hk ces es (i0+1) (by simpa using hl) (fun i x y h=>by simpa using hat (i+1) x y (by simpa using h))with ⟨j,e,q,g1,g2,g3,g4,g5,g6,g7⟩ | ⟨g1,g2,g3⟩
   ·exact .inl ⟨j+1,e,q,by simp[Instr.findNow,hr,g1];omega,by simpa using g2,g3,by simp[B7,hsk,g4],g5,by simp;omega,fun v=>by simp[CH,hsk,g7]⟩
   ·exact .inr ⟨by simp[Instr.findNow,hr,g1],by simp[B7,hsk,g2],fun v=>by simp[CH,hsk,g3]⟩
theorem JT {kt:TypeId} {n:Nat} (hkt:Hd P kt=some n) (w:World) {kv:Value} {k:PV} (hv:VR C kv k) (hk:BM (.ints n) k=true):∀(ces:List MapEntry) (es:List (PV×PV)) (i0:Nat),ces.length=es.length →
  (∀ (i:Nat) (a b:PV),es[i]?=some (a,b)→∃e:MapEntry,ces[i]?=some e∧VR C e.key a∧VR C e.val b∧BM (.ints n) a=true) →
  (∃ j e q,(Instr.findAsking kt kv ces i0).run P w=.ok (some (i0+j,e.val)) w∧ces[j]?=some e∧e.key=kv∧B7 es k=some q∧VR C e.val q∧j<es.length∧∀v,CH es k v=es.set j (k,v)) ∨
  ((Instr.findAsking kt kv ces i0).run P w=.ok none w∧B7 es k=none∧∀v,CH es k v=es ++ [(k,v)])
 | [],[],i0,_,_=>.inr ⟨by simp[Instr.findAsking],rfl,fun _=>rfl⟩
 | [],_::_,i0,hl,_=>by simp at hl
 | _::_,[],i0,hl,_=>by simp at hl
 | c::ces,(a,b)::es,i0,hl,hat=>by
  obtain ⟨e,he,h1,h2,h3⟩:=hat 0 a b rfl
  simp at he;subst he
  obtain ⟨lx,hx⟩:=Hf hkt hv hk
  obtain ⟨ly,hy⟩:=Hf hkt h1 h3
  obtain ⟨q1,q2,q3,q4⟩:=I7 hkt
  have hwide:=ID hkt
  obtain ⟨r,hr,hiff⟩:=run_equal_deep (P:=P) w (m:=2) (by omega) q2 hwide hx hy
  have hs:=Qz hv h1 hk h3
  have hval:r=true↔kv=c.key:=by
   rw [hiff]
   constructor
   ·intro e;rw[e]at hx;exact keyOf_inj_deep q3 hwide hx hy
   ·intro e;rw[e,hy]at hx;exact (Option.some.inj hx).symm
  cases r with
  | true =>
   have hsk:DH k a=true:=hs.1 (hval.1 rfl)
   exact .inl ⟨0,c,b,by simp[Instr.findAsking,hr],rfl,(hval.1 rfl).symm,by simp[B7,hsk],h2,by simp,fun v=>by simp[CH,hsk]⟩
  | false =>
   have hsk:DH k a=false:=by
    cases hx:DH k a with
    | false=>rfl
    | true=>have:=hval.2 (hs.2 hx);cases this
   rcases JT hkt w hv hk ces es (i0+1) (by simpa using hl) (fun i x y h=>by simpa using hat (i+1) x y (by simpa using h))with ⟨j,e,q,g1,g2,g3,g4,g5,g6,g7⟩ | ⟨g1,g2,g3⟩
   ·exact .inl ⟨j+1,e,q,by simp[Instr.findAsking,hr,g1];omega,by simpa using g2,g3,by simp[B7,hsk,g4],g5,by simp;omega,fun v=>by simp[CH,hsk,g7]⟩
   ·exact .inr ⟨by simp[Instr.findAsking,hr,g1],by simp[B7,hsk,g2],fun v=>by simp[CH,hsk,g3]⟩
section
variable {kt:TypeId}
theorem KT {d:TypeDesc} {kv:Value} {l:List MapEntry} {r:Option (Nat×Value)} (hd:P.underlying kt=some d) (h:Instr.findNow d kv l 0=some r):(Instr.findKey kt kv l).run P w=.ok r w:=by
 simp [Instr.findKey,run_underlying hd,h]
theorem EB {mk:MK} (hkt:YT P kt mk) {kv:Value} {k:PV} (hv:VR C kv k) (hk:BM mk k=true) (ces:List MapEntry) (es:List (PV×PV)) (hl:ces.length=es.length)
  (hat : ∀(i:Nat) (a b:PV),es[i]?=some (a,b)→∃e:MapEntry,ces[i]?=some e∧VR C e.key a∧VR C e.val b∧BM mk a=true) :
  (∃ j e q,(Instr.findKey kt kv ces).run P w=.ok (some (j,e.val)) w∧ces[j]?=some e∧e.key=kv∧B7 es k=some q∧VR C e.val q∧j<es.length∧∀v,CH es k v=es.set j (k,v)) ∨
  ((Instr.findKey kt kv ces).run P w=.ok none w∧B7 es k=none∧∀v,CH es k v=es ++ [(k,v)]):=by
 rcases hkt with ⟨d,hd,h5⟩ | ⟨n,rfl,hn⟩
 ·rcases JS hd hv hk ces es 0 hl hat with ⟨j,e,q',g1,g2,g3,g4,g5,g6,g7⟩ | ⟨g1,g2,g3⟩
  ·exact .inl ⟨j,e,q',by rw[KT h5 g1];simp,g2,g3,g4,g5,g6,g7⟩
  ·exact .inr ⟨KT h5 g1,g2,g3⟩
 ·rcases JT hn w hv hk ces es 0 hl hat with ⟨j,e,q',g1,g2,g3,g4,g5,g6,g7⟩ | ⟨g1,g2,g3⟩
  ·exact .inl ⟨j,e,q',by rw[run_findKey_eq w (ID hn),g1];simp,g2,g3,g4,g5,g6,g7⟩
  ·exact .inr ⟨by rw[run_findKey_eq w (ID hn),g1],g2,g3⟩
theorem FA {mk:MK} (hkt:YT P kt mk) {kv:Value} {k:PV} (hv:VR C kv k) (hk:BM mk k=true) (b:Bool):(Instr.checkKey b 10000 kt kv).run P w=.ok () w:=by
 rcases hkt with ⟨d,hd,h5⟩ | ⟨n,rfl,hn⟩
 ·exact MapKept.run_checkKey h5 (Gk hd hv hk) b 9999
 ·obtain ⟨l,hl⟩:=Hf hn hv hk
  obtain ⟨q1,q2,q3,q4⟩:=I7 hn
  exact (deep_law (m:=2) (by omega) q2 q3 (ID hn)).check w b hl
theorem IE {mk:MK} (hkt:YT P kt mk) {kv:Value} {k:PV} (hv:VR C kv k) (hk:BM mk k=true):(Instr.keyThatStays kv kv).run P w=.ok kv w:=by
 rcases hkt with ⟨d,hd,h5⟩ | ⟨n,rfl,hn⟩
 ·exact MapKept.run_keyThatStays (Gk hd hv hk)
 ·obtain ⟨l,hl⟩:=Hf hn hv hk
  obtain ⟨q1,q2,q3,q4⟩:=I7 hn
  exact (deep_law (m:=2) (by omega) q2 q3 (ID hn)).stays w hl
end
theorem Inv.map (hi:Inv C st w) {id g:Nat} {mk:MK} {es:List (PV×PV)} (ho:st.obj id=some (.map g mk es)) {v:Value} (hv:VR C v (.mref id g)) :
  ∃ L,C.loc id=some L∧C.born id∧ObjAt C w L (.map g mk es)∧v=.map (some L.blk):=by
 obtain ⟨hb,L,hL,hat⟩:=hi.obj id _ ho
 cases hv with
 | mref _ _ _ h1 h2 h3 h4=>exact⟨L,hL,hb,hat,h4 L hL hat.1.symm⟩
theorem RD (hi:Inv C st w) {t:TypeId} {m kv:Value} {pm k q:PV} {ok:Bool} (hm:VR C m pm) (hv:VR C kv k) (h:CN st (AV P t) pm k ok=some q) :
  ∃ v,(Instr.lookup t m kv ok).run P w=.ok v w∧VR C v q:=by
 unfold CN at h
 simp only[Option.bind_eq_some_iff]at h
 obtain ⟨⟨mk,z⟩,ht,h⟩:=h
 obtain ⟨kt,et,i,zv,h1,h2,h3,rfl,h5⟩:=DL ht
 dsimp only at h
 split at h
 ·rename_i hk
  have hz:(zeroValue et).run P w=.ok zv w:=by simp[zeroValue,typeInfo,h2,h3]
  have hzr:VR C zv (Bn zv):=CA zv
  have hck:∀b,(Instr.checkKey b 10000 kt kv).run P w=.ok () w:=fun b=>FA h5 hv hk b
  have hfk0:(Instr.findKey kt kv []).run P w=.ok none w:=by
   rcases EB (w:=w) h5 hv hk [] [] rfl (by simp)with ⟨j,e,q,_,g2,_⟩ | ⟨g1,_⟩
   ·simp at g2
   ·exact g1
  have tup:∀ {v:Value} {p:PV} {b:Bool},VR C v p→VR C (.tuple #[v,.bool b]) (.tuple [p,.bool b]):=fun {v p b} hv=>.tuple _ _ rfl (fun i q hq=>by
   match i,hq with
   | 0,hq=>simp at hq;subst hq;exact hv
   | 1,hq=>simp at hq;subst hq;exact .bool b
   | n+2,hq=>simp at hq)
  split at h
  ·simp only[Option.some.injEq]at h;subst h
   cases hm
   refine ⟨if ok then .tuple #[zv,.bool false]else zv,?_,?_⟩
   ·simp [Instr.lookup,run_underlying h1,hck,hfk0,hz]
   ·cases ok
    ·exact hzr
    ·exact tup hzr
  ·rename_i id gen
   split at h
   ·rename_i g mk' es ho
    split at h
    ·rename_i hc
     obtain ⟨rfl,rfl⟩:=hc
     obtain ⟨L,hL,hb,hat,rfl⟩:=hi.map ho hm
     obtain ⟨a1,a2,a3,a4,ces,a5,a6,a7⟩:=hat
     have hfn:=EB (w:=w) h5 hv hk ces.toList es (by simpa using a6) (fun i a b h=>by
      obtain ⟨e,e1,e2,e3,e4,e5⟩:=a7 i a b h
      exact ⟨e,by simpa using e1,e2,e3,e5⟩)
     rcases hfn with ⟨j,e,q',g1,g2,g3,g4,g5,g6,g7⟩ | ⟨g1,g2,g3⟩
     ·rw [g4]at h
      simp only[Option.some.injEq]at h;subst h
      refine ⟨if ok then .tuple #[e.val,.bool true]else e.val,?_,?_⟩
      ·simp [Instr.lookup,run_underlying h1,MapKept.run_getObj_map a5,hck,g1]
      ·cases ok
       ·exact g5
       ·exact tup g5
     ·rw [g2]at h
      simp only[Option.some.injEq]at h;subst h
      refine ⟨if ok then .tuple #[zv,.bool false]else zv,?_,?_⟩
      ·simp [Instr.lookup,run_underlying h1,MapKept.run_getObj_map a5,hck,g1,hz]
      ·cases ok
       ·exact hzr
       ·exact tup hzr
    ·cases h
   ·cases h
  ·cases h
 ·cases h
theorem KU (hi:Inv C st w) {t:TypeId} {m kv vv:Value} {pm k v:PV} {st':Store} (hm:VR C m pm) (hk:VR C kv k) (hv:VR C vv v) (h:J0 st (AV P t) pm k v=some st') :
  ∃ w' C',(Instr.mapUpdate t m kv vv).run P w=.ok () w'∧C.le C'∧Inv C' st' w':=by
 unfold J0 at h
 split at h
 ·rename_i id gen
  split at h
  ·rename_i g mk es ho
   split at h
   ·rename_i hc
    obtain ⟨rfl,ht,hki⟩:=hc
    simp only[Option.some.injEq]at h;subst h
    simp only[Option.map_eq_some_iff]at ht
    obtain ⟨⟨mk',z⟩,ht,hmk⟩:=ht
    dsimp only at hmk;subst hmk
    obtain ⟨kt,et,i,zv,h1,h2,h3,rfl,h5⟩:=DL ht
    have hck:∀b,(Instr.checkKey b 10000 kt kv).run P w=.ok () w:=fun b=>FA h5 hk hki b
    obtain ⟨L,hL,hb,hat,rfl⟩:=hi.map ho hm
    obtain ⟨a1,a2,a3,a4,ces,a5,a6,a7⟩:=hat
    have hlt:id<st.next:=by
     rcases Nat.lt_or_ge id st.next with h | h
     ·exact h
     ·exact absurd hb (hi.next id h)
    have hblk:L.blk<w.heap.size:=(Array.getElem?_eq_some_iff.1 a5).1
    have hsound:∀(ces':Array MapEntry) (clock':Nat),clock'=(CH es k v).length→ces'.size=(CH es k v).length→(∀C':Ctx,C.le C'→∀(i:Nat) (a b:PV),(CH es k v)[i]?=some (a,b)→∃e:MapEntry,ces'[i]?=some e∧VR C' e.key a∧VR C' e.val b∧e.born=i∧BM mk' a=true) →
      C.le (C.set id L)∧Inv (C.set id L) (st.set id (.map gen mk' (CH es k v))) { w with heap:=w.heap.setIfInBounds L.blk (.map ces' clock') }:=by
     intro ces' clock' hcl hsz hent
     exact hi.put (id:=id) (nx:=st.next) (o:=.map gen mk' (CH es k v)) (L':=L) (.inl ⟨L,hL,.inl rfl⟩) (.inr (.inr ⟨L,hL,rfl,by omega⟩))
      (fun b hb hne=>by simp[Array.getElem?_setIfInBounds_ne (Ne.symm (hne L hL (by omega)))]) (by simp)
      (fun hle=>⟨a1,a2,a3,a4,ces',by simp[hblk,hcl],hsz,hent _ hle⟩) (Nat.le_refl _) hlt
    have hfn:=EB (w:=w) h5 hk hki ces.toList es (by simpa using a6) (fun i a b h=>by
     obtain ⟨e,e1,e2,e3,e4,e5⟩:=a7 i a b h
     exact ⟨e,by simpa using e1,e2,e3,e5⟩)
    rcases hfn with ⟨j,e,q',g1,g2,g3,g4,g5,g6,g7⟩ | ⟨g1,g2,g3⟩
    ·have hj:ces[j]?=some e:=by simpa using g2
     have hjl:j<ces.size:=(Array.getElem?_eq_some_iff.1 hj).1
     have hkeep:∀(u:Value),(Instr.keyThatStays kv kv).run P w=.ok kv w:=fun _=>IE h5 hk hki
     obtain ⟨q1,q2⟩:=hsound (ces.modify j fun e=>{ e with key:=kv,val:=vv }) es.length (by rw[g7];simp) (by rw[g7];simp[a6]) (fun C' hle i a b hab=>by
      rw [g7]at hab
      by_cases hij:i=j
      ·subst hij
       rw [List.getElem?_set_self g6]at hab
       simp only[Option.some.injEq,Prod.mk.injEq]at hab
       obtain ⟨rfl,rfl⟩:=hab
       refine ⟨{ e with key:=kv,val:=vv },by simp[Array.getElem?_modify,hj],hk.mono hle,hv.mono hle,?_,hki⟩
       obtain ⟨⟨x,y⟩,hxy⟩:∃p,es[i]?=some p:=⟨_,List.getElem?_eq_getElem g6⟩
       obtain ⟨e',e1,_,_,e4,_⟩:=a7 i x y hxy
       rw [hj]at e1;cases e1
       exact e4
      ·rw [List.getElem?_set_ne (fun e=>hij e.symm)]at hab
       obtain ⟨e',e1,e2,e3,e4,e5⟩:=a7 i a b hab
       exact ⟨e',by simp[Array.getElem?_modify,e1,show ¬j=i from fun e=>hij e.symm],e2.mono hle,e3.mono hle,e4,e5⟩)
     refine ⟨_,_,?_,q1,q2⟩
     simp only[Instr.mapUpdate,run_underlying h1,Sem.run_bind,Result.andThen,MapKept.run_getObj_map a5,hck,g1,hj,Option.map_some,Option.getD_some,g3,hkeep kv,MapKept.run_setObj_map _ a5]
    ·obtain ⟨q1,q2⟩:=hsound (ces.push { key:=kv,val:=vv,born:=es.length }) (es.length+1) (by rw[g3];simp) (by rw[g3];simp[a6]) (fun C' hle i a b hab=>by
      rw [g3]at hab
      rcases Nat.lt_or_ge i es.length with hi' | hi'
      ·rw [List.getElem?_append_left hi']at hab
       obtain ⟨e',e1,e2,e3,e4,e5⟩:=a7 i a b hab
       exact ⟨e',by rw[Array.getElem?_push];simp[show i≠ces.size by omega,e1],e2.mono hle,e3.mono hle,e4,e5⟩
      ·rw [List.getElem?_append_right hi']at hab
       have : i=es.length:=by
        have :=(List.getElem?_eq_some_iff.1 hab).1
        simp at this;omega
       subst this
       simp at hab
       obtain ⟨rfl,rfl⟩:=hab
       exact ⟨{ key:=kv,val:=vv,born:=es.length },by rw[Array.getElem?_push];simp[a6],hk.mono hle,hv.mono hle,rfl,hki⟩)
     refine ⟨_,_,?_,q1,q2⟩
     simp only[Instr.mapUpdate,run_underlying h1,Sem.run_bind,Result.andThen,MapKept.run_getObj_map a5,hck,g1,MapKept.run_setObj_map _ a5]
   ·cases h
  ·cases h
 ·cases h
theorem YU {k:PV}:∀ {es:List (PV×PV)} {j:Nat},j<es.length→(∀v,CH es k v=es.set j (k,v))→PS es k=j
 | [],j,hj,_=>by simp at hj
 | e :: es,j,hj,h=>by
  by_cases hs:DH k e.1=true
  ·cases j with
   | zero=>simp[PS,hs]
   | succ j =>
    exfalso
    have h1:=h (.bool true)
    have h2:=h (.bool false)
    simp only[CH,hs,if_true,List.set_cons_succ,List.cons.injEq]at h1 h2
    have := h1.1.trans h2.1.symm
    simp at this
  ·cases j with
   | zero =>
    exfalso
    have h1:=h (.bool true)
    have h2:=h (.bool false)
    rw [CH,if_neg hs,List.set_cons_zero,List.cons.injEq]at h1 h2
    have := h1.1.symm.trans h2.1
    simp at this
   | succ j =>
    have := YU (k:=k) (es:=es) (j:=j) (by simpa using hj) fun v=>by
     have := h v
     simpa [CH,hs]using this
    simp [PS,hs,this]
theorem QA {k:PV}:∀ {es:List (PV×PV)},B7 es k=none→PS es k=es.length
 | [],_=>rfl
 | e::es,h=>by
  unfold B7 at h
  split at h
  ·cases h
  ·rename_i hs
   simp [PS,hs,QA h]
theorem Inv.putMap (hi:Inv C st w) {id g:Nat} {mk:MK} {es es':List (PV×PV)} (ho:st.obj id=some (.map g mk es)) {L:Loc} (hL:C.loc id=some L) (hat:ObjAt C w L (.map g mk es))
  (ces' : Array MapEntry) (clock':Nat) (hcl:clock'=es'.length) (hsz:ces'.size=es'.length)
  (hent : ∀C':Ctx,C.le C'→∀(i:Nat) (a b:PV),es'[i]?=some (a,b)→∃e:MapEntry,ces'[i]?=some e∧VR C' e.key a∧VR C' e.val b∧e.born=i∧BM mk a=true) :
  C.le (C.set id L)∧Inv (C.set id L) (st.set id (.map g mk es')) { w with heap:=w.heap.setIfInBounds L.blk (.map ces' clock') }:=by
 obtain ⟨a1,a2,a3,a4,ces,a5,a6,a7⟩:=hat
 have hb:C.born id:=(hi.obj id _ ho).1
 have hlt:id<st.next:=by
  rcases Nat.lt_or_ge id st.next with h | h
  ·exact h
  ·exact absurd hb (hi.next id h)
 have hblk:L.blk<w.heap.size:=(Array.getElem?_eq_some_iff.1 a5).1
 exact hi.put (id:=id) (nx:=st.next) (o:=.map g mk es') (L':=L) (.inl ⟨L,hL,.inl rfl⟩) (.inr (.inr ⟨L,hL,rfl,by omega⟩))
  (fun b hb hne=>by simp[Array.getElem?_setIfInBounds_ne (Ne.symm (hne L hL (by omega)))]) (by simp)
  (fun hle=>⟨a1,a2,a3,a4,ces',by simp[hblk,hcl],hsz,hent _ hle⟩) (Nat.le_refl _) hlt
theorem Aky {u v:Value} {p q:PV} (hu:VR C u p) (hv:VR C v q):VR C (.tuple #[u,v]) (.tuple [p,q]):=.tuple _ _ rfl (fun i r hq=>by
 match i,hq with
 | 0,hq=>simp at hq;subst hq;exact hu
 | 1,hq=>simp at hq;subst hq;exact hv
 | n+2,hq=>simp at hq)
theorem PX (hi:Inv C st w) {t:TypeId} {m kv:Value} {pm k q:PV} {st':Store} (hm:VR C m pm) (hk:VR C kv k) (h:Ey st (AV P t) pm k=some (q,st')) :
  ∃ v w' C',(Instr.mapEntry t m kv).run P w=.ok v w'∧C.le C'∧Inv C' st' w'∧VR C' v q:=by
 unfold Ey at h
 simp only[Option.bind_eq_some_iff]at h
 obtain ⟨⟨mk,z⟩,ht,h⟩:=h
 dsimp only at h
 split at h
 ·rename_i id gen
  split at h
  ·rename_i g mk' es ho
   split at h
   ·rename_i hc
    obtain ⟨rfl,rfl,hki⟩:=hc
    simp only[Option.some.injEq,Prod.mk.injEq]at h
    obtain ⟨rfl,rfl⟩:=h
    obtain ⟨kt,et,i,zv,h1,h2,h3,rfl,h5⟩:=DL ht
    have hz:(zeroValue et).run P w=.ok zv w:=by simp[zeroValue,typeInfo,h2,h3]
    have hzr:∀ {C:Ctx},VR C zv (Bn zv):=CA zv
    have hck:∀b,(Instr.checkKey b 10000 kt kv).run P w=.ok () w:=fun b=>FA h5 hk hki b
    obtain ⟨L,hL,hb,hat,rfl⟩:=hi.map ho hm
    have hput:=fun (es':List (PV×PV)) (ces':Array MapEntry) (clock':Nat)=>Inv.putMap (es':=es') hi ho hL hat ces' clock'
    obtain ⟨a1,a2,a3,a4,ces,a5,a6,a7⟩:=hat
    have hfn:=EB (w:=w) h5 hk hki ces.toList es (by simpa using a6) (fun i a b h=>by
     obtain ⟨e,e1,e2,e3,e4,e5⟩:=a7 i a b h
     exact ⟨e,by simpa using e1,e2,e3,e5⟩)
    rcases hfn with ⟨j,e,q',g1,g2,g3,g4,g5,g6,g7⟩ | ⟨g1,g2,g3⟩
    ·have hj:ces[j]?=some e:=by simpa using g2
     have hjl:j<ces.size:=(Array.getElem?_eq_some_iff.1 hj).1
     have hborn:e.born=j:=by
      obtain ⟨⟨x,y⟩,hxy⟩:∃p,es[j]?=some p:=⟨_,List.getElem?_eq_getElem g6⟩
      obtain ⟨e',e1,_,_,e4,_⟩:=a7 j x y hxy
      rw [hj]at e1;cases e1
      exact e4
     rw [g4,YU g6 g7]
     simp only[Option.getD_some]
     obtain ⟨q1,q2⟩:=hput (CH es k q') (ces.modify j fun e=>{ e with key:=kv }) es.length (by rw[g7];simp) (by rw[g7];simp[a6]) (fun C' hle i a b hab=>by
      rw [g7]at hab
      by_cases hij:i=j
      ·subst hij
       rw [List.getElem?_set_self g6]at hab
       simp only[Option.some.injEq,Prod.mk.injEq]at hab
       obtain ⟨rfl,rfl⟩:=hab
       exact ⟨{ e with key:=kv },by simp[Array.getElem?_modify,hj],hk.mono hle,g5.mono hle,hborn,hki⟩
      ·rw [List.getElem?_set_ne (fun e=>hij e.symm)]at hab
       obtain ⟨e',e1,e2,e3,e4,e5⟩:=a7 i a b hab
       exact ⟨e',by simp[Array.getElem?_modify,e1,show ¬j=i from fun e=>hij e.symm],e2.mono hle,e3.mono hle,e4,e5⟩)
     refine ⟨.tuple #[e.val,.int .i64 j],_,_,?_,q1,q2,Aky (g5.mono q1) (.int _ _)⟩
     simp only[Instr.mapEntry,run_underlying h1,Sem.run_bind,Result.andThen,MapKept.run_getObj_map a5,hck,g1,hj,Option.map_some,Option.getD_some,g3,IE h5 hk hki,MapKept.run_setObj_map _ a5]
     simp [goInt,hborn]
    ·rw [g2,QA g2]
     simp only[Option.getD_none]
     obtain ⟨q1,q2⟩:=hput (CH es k (Bn zv)) (ces.push { key:=kv,val:=zv,born:=es.length }) (es.length+1) (by rw[g3];simp) (by rw[g3];simp[a6]) (fun C' hle i a b hab=>by
      rw [g3]at hab
      rcases Nat.lt_or_ge i es.length with hi' | hi'
      ·rw [List.getElem?_append_left hi']at hab
       obtain ⟨e',e1,e2,e3,e4,e5⟩:=a7 i a b hab
       exact ⟨e',by rw[Array.getElem?_push];simp[show i≠ces.size by omega,e1],e2.mono hle,e3.mono hle,e4,e5⟩
      ·rw [List.getElem?_append_right hi']at hab
       have : i=es.length:=by
        have :=(List.getElem?_eq_some_iff.1 hab).1
        simp at this;omega
       subst this
       simp at hab
       obtain ⟨rfl,rfl⟩:=hab
       exact ⟨{ key:=kv,val:=zv,born:=es.length },by rw[Array.getElem?_push];simp[a6],hk.mono hle,hzr,rfl,hki⟩)
     refine ⟨.tuple #[zv,.int .i64 es.length],_,_,?_,q1,q2,Aky hzr (.int _ _)⟩
     simp only[Instr.mapEntry,run_underlying h1,Sem.run_bind,Result.andThen,MapKept.run_getObj_map a5,hck,g1,hz,MapKept.run_setObj_map _ a5]
     simp [goInt]
   ·cases h
  ·cases h
 ·cases h
theorem Oa (hi:Inv C st w) {t:TypeId} {m s x:Value} {pm ps px:PV} {st':Store} (hm:VR C m pm) (hs:VR C s ps) (hx:VR C x px) (h:GG st pm ps px=some st') :
  ∃ w' C',(Instr.entryStore t m s x).run P w=.ok () w'∧C.le C'∧Inv C' st' w':=by
 unfold GG at h
 split at h
 ·rename_i id gen kk n
  split at h
  ·rename_i g mk es ho
   split at h
   ·rename_i hc
    obtain ⟨rfl,hn⟩:=hc
    simp only[Option.map_eq_some_iff]at h
    obtain ⟨⟨ka,vb⟩,he,rfl⟩:=h
    obtain ⟨L,hL,hb,hat,rfl⟩:=hi.map ho hm
    have hput:=fun (es':List (PV×PV)) (ces':Array MapEntry) (clock':Nat)=>Inv.putMap (es':=es') hi ho hL hat ces' clock'
    obtain ⟨a1,a2,a3,a4,ces,a5,a6,a7⟩:=hat
    obtain ⟨j,rfl⟩:∃j:Nat,n=j:=⟨n.toNat,by omega⟩
    simp only[Int.toNat_natCast]at he ⊢
    have hjl:j<es.length:=(List.getElem?_eq_some_iff.1 he).1
    obtain ⟨e,f1,f2,f3,f4,f5⟩:=a7 j ka vb he
    have hfind:ces.findIdx? (fun e=>(e.born:Int)==(j:Int))=some j:=by
     rw [Array.findIdx?_eq_some_iff_getElem]
     have hlt:j<ces.size:=by omega
     refine ⟨hlt,?_,fun i hij=>?_⟩
     ·have : ces[j]=e:=by
       have :=(Array.getElem?_eq_some_iff.1 f1).2;exact this
      simp [this,f4]
     ·obtain ⟨⟨xa,yb⟩,hxy⟩:∃p,es[i]?=some p:=⟨_,List.getElem?_eq_getElem (by omega)⟩
      obtain ⟨e',e1,_,_,e4,_⟩:=a7 i xa yb hxy
      have : ces[i]=e':=(Array.getElem?_eq_some_iff.1 e1).2
      simp [this,e4]
      omega
    obtain ⟨q1,q2⟩:=hput (es.set j (ka,px)) (ces.modify j fun e=>{ e with val:=x }) es.length (by simp) (by simp[a6]) (fun C' hle i a b hab=>by
     by_cases hij:i=j
     ·subst hij
      rw [List.getElem?_set_self hjl]at hab
      simp only[Option.some.injEq,Prod.mk.injEq]at hab
      obtain ⟨rfl,rfl⟩:=hab
      exact ⟨{ e with val:=x },by simp[Array.getElem?_modify,f1],f2.mono hle,hx.mono hle,f4,f5⟩
     ·rw [List.getElem?_set_ne (fun e=>hij e.symm)]at hab
      obtain ⟨e',e1,e2,e3,e4,e5⟩:=a7 i a b hab
      exact ⟨e',by simp[Array.getElem?_modify,e1,show ¬j=i from fun e=>hij e.symm],e2.mono hle,e3.mono hle,e4,e5⟩)
    refine ⟨_,_,?_,q1,q2⟩
    have := Cl hs
    simp only[Instr.entryStore,Sem.run_bind,Result.andThen,MapKept.run_getObj_map a5,this,asInt,asIntOf,Sem.run_pure,hfind,MapKept.run_setObj_map _ a5]
   ·cases h
  ·cases h
 ·cases h
theorem RF (hi:Inv C st w) {t ty:TypeId} {m:Value} {pm:PV} {n:Int} {q:MK×PV} (hq:AV P t=some q) (hm:VR C m pm) (h:Is st (some q) pm=some n) :
  (Builtin.len_ #[t] ty #[m]).run P w=.ok (.int .i64 n) w:=by
 obtain ⟨mk,z⟩:=q
 obtain ⟨kt,et,i,zv,h1,h2,h3,rfl,h5⟩:=DL hq
 simp only[Is,Option.bind_some]at h
 split at h
 ·simp only[Option.some.injEq]at h;subst h
  cases hm
  simp [Builtin.len_,run_underlying h1,goInt]
 ·split at h
  ·rename_i id gen g mk' es ho
   split at h
   ·rename_i hg;subst hg
    simp only[Option.some.injEq]at h;subst h
    obtain ⟨L,hL,hb,hat,rfl⟩:=hi.map ho hm
    obtain ⟨a1,a2,a3,a4,ces,a5,a6,a7⟩:=hat
    simp [Builtin.len_,run_underlying h1,MapKept.run_getObj_map a5,goInt,a6]
   ·cases h
  ·cases h
 ·cases h
theorem Inv.newBlk (hi:Inv C st w) {o:IObj} {ob:Obj} (hat:∀C':Ctx,C.le C'→C'.imm=C.imm→C'.B=C.B→ObjAt C' (w.alloc ob) ⟨w.heap.size,0,0,1,0⟩ o) :
  C.le (C.set st.next ⟨w.heap.size,0,0,1,0⟩)∧Inv (C.set st.next ⟨w.heap.size,0,0,1,0⟩) (st.new o) (w.alloc ob) :=
 hi.put (id:=st.next) (nx:=st.next+1) (o:=o) (L':=⟨w.heap.size,0,0,1,0⟩) (.inr (hi.next _ (Nat.le_refl _))) (.inr (.inl (Nat.le_refl _)))
  (fun b hb _=>Go.heap_alloc_old w _ hb) (by simp) (fun hle=>hat _ hle rfl rfl) (by omega) (by omega)
theorem Ob {w:World} {ob:Obj}:(w.alloc ob).heap[w.heap.size]?=some ob:=(MapKept.heap_alloc w ob).1
theorem TW (hi:Inv C st w) {b:Nat}:VR (C.set st.next ⟨b,0,0,1,0⟩) (.map (some b)) (.mref st.next 0) :=
 .mref _ _ _ rfl (.inl rfl) (fun L hL=>by simp[Ctx.set]at hL;subst hL;exact Nat.le_refl _) (fun L hL _=>by simp[Ctx.set]at hL;subst hL;rfl)
theorem TX (hi:Inv C st w) {b:Nat}:VR (C.set st.next ⟨b,0,0,1,0⟩) (.pointer (some ⟨b,0,none⟩)) (.iter st.next 0) :=
 .iter _ _ _ rfl (.inl rfl) (fun L hL=>by simp[Ctx.set]at hL;subst hL;exact Nat.le_refl _) (fun L hL _=>by simp[Ctx.set]at hL;subst hL;rfl)
theorem PY (hi:Inv C st w) (mk:MK) :
  C.le (C.set st.next ⟨w.heap.size,0,0,1,0⟩)∧Inv (C.set st.next ⟨w.heap.size,0,0,1,0⟩) (st.new (.map 0 mk [])) (w.alloc (.map #[] 0)) :=
 hi.newBlk fun C' hle he hB=>⟨rfl,rfl,by rw[hB];exact hi.hB,fun o=>by rw[he];exact hi.immLt (Nat.le_refl _),#[],Ob,rfl,by intro i k v h;simp at h⟩
theorem Oc (hi:Inv C st w) {t:TypeId} {m:Value} {pm p:PV} {st':Store} (hm:VR C m pm) (h:Fx st (AV P t) pm=some (p,st')) :
  ∃ v w' C',(Instr.range t m).run P w=.ok v w'∧C.le C'∧Inv C' st' w'∧VR C' v p:=by
 unfold Fx at h
 simp only[Option.bind_eq_some_iff]at h
 obtain ⟨⟨mk,z⟩,ht,h⟩:=h
 obtain ⟨kt,et,i,zv,h1,h2,h3,rfl,h5⟩:=DL ht
 split at h
 ·simp only[Option.some.injEq,Prod.mk.injEq]at h;obtain⟨rfl,rfl⟩:=h
  cases hm
  obtain ⟨q1,q2⟩:=hi.newBlk (o:=.it none 0 []) (ob:=.mapIter none 0 #[] 0) fun C' hle he hB=>⟨rfl,rfl,by rw[hB];exact hi.hB,fun o=>by rw[he];exact hi.immLt (Nat.le_refl _),List.nodup_nil,by simp,rfl,Ob⟩
  exact ⟨_,_,_,by simp[Instr.range,run_underlying h1],q1,q2,TX hi⟩
 ·rename_i id gen
  split at h
  ·rename_i g mk' es ho
   split at h
   ·rename_i hg;subst hg
    simp only[Option.some.injEq,Prod.mk.injEq]at h;obtain⟨rfl,rfl⟩:=h
    have hm':=hm
    obtain ⟨L,hL,hb,hat,rfl⟩:=hi.map ho hm
    obtain ⟨a1,a2,a3,a4,ces,a5,a6,a7⟩:=hat
    obtain ⟨q1,q2⟩:=hi.newBlk (o:=.it (some (id,gen)) es.length []) (ob:=.mapIter (some L.blk) es.length #[] es.length) fun C' hle he hB=>by
     have hmC:=hm'.mono hle
     cases hmC with
     | mref _ _ _ m1 m2 m3 m4 =>
      refine ⟨rfl,rfl,by rw[hB];exact hi.hB,fun o=>by rw[he];exact hi.immLt (Nat.le_refl _),List.nodup_nil,by simp,m2,m3,L.blk,fun Lm hLm hgm=>?_,Ob⟩
      have := m4 Lm hLm hgm
      simpa using this
    exact ⟨_,_,_,by simp[Instr.range,run_underlying h1,MapKept.run_getObj_map a5],q1,q2,TX hi⟩
   ·cases h
  ·cases h
 ·cases h
theorem Inv.it (hi:Inv C st w) {id n:Nat} {m:Option (Nat×Nat)} {seen:List Nat} (ho:st.obj id=some (.it m n seen)) {v:Value} (hv:VR C v (.iter id 0)) :
  ∃ L,C.loc id=some L∧C.born id∧ObjAt C w L (.it m n seen)∧v=.pointer (some ⟨L.blk,0,none⟩):=by
 obtain ⟨hb,L,hL,hat⟩:=hi.obj id _ ho
 cases hv with
 | iter _ _ _ h1 h2 h3 h4=>exact⟨L,hL,hb,hat,h4 L hL hat.1.symm⟩
theorem Od (hi:Inv C st w) {x:Value} {px p:PV} (hx:VR C x px) (h:mapEntry st px=some p) :
  ∃ v,(Instr.entry x).run P w=.ok v w∧VR C v p:=by
 unfold mapEntry at h
 split at h
 ·rename_i id
  split at h
  ·rename_i m g n seen ho
   split at h
   ·rename_i g' mk es hom
    split at h
    ·rename_i hc
     obtain ⟨rfl,rfl⟩:=hc
     simp only[Option.bind_eq_some_iff,Option.map_eq_some_iff]at h
     obtain ⟨i,hlast,⟨k,v⟩,hes,rfl⟩:=h
     obtain ⟨L,hL,hb,hat,rfl⟩:=hi.it ho hx
     obtain ⟨b1,b2,b3,b4,b5,b6,b7,b8,mb,b9,b10⟩:=hat
     obtain ⟨hbm,Lm,hLm,hatm⟩:=hi.obj m _ hom
     have hmb:=b9 Lm hLm hatm.1.symm
     subst hmb
     obtain ⟨a1,a2,a3,a4,ces,a5,a6,a7⟩:=hatm
     obtain ⟨e,e1,e2,e3,e4,e5⟩:=a7 i k v hes
     have hget:(getObj L.blk).run P w=.ok (.mapIter (some Lm.blk) es.length seen.toArray es.length) w:=by simp[getObj,Sem.run,b10]
     have hback:seen.toArray.back?=some i:=by simpa using hlast
     have hfind:ces.find? (fun e=>e.born==i)=some e:=by
      obtain ⟨hlt,hget'⟩:=Array.getElem?_eq_some_iff.1 e1
      rw [Array.find?_eq_some_iff_getElem]
      refine ⟨by simp[e4],i,hlt,hget',fun j hj=>?_⟩
      obtain ⟨⟨a,b⟩,hab⟩:∃p,es[j]?=some p:=⟨_,List.getElem?_eq_getElem (by omega)⟩
      obtain ⟨e',f1,_,_,f4,_⟩:=a7 j a b hab
      have : ces[j]=e':=(Array.getElem?_eq_some_iff.1 f1).2
      rw [this];simp[f4];omega
     refine ⟨.tuple #[e.key,e.val],?_,.tuple _ _ rfl (fun j q hq=>?_)⟩
     ·simp [Instr.entry,hget,hback,MapKept.run_getObj_map a5,hfind]
     ·match j,hq with
      | 0,hq=>simp at hq;subst hq;exact e2
      | 1,hq=>simp at hq;subst hq;exact e3
      | n+2,hq=>simp at hq
    ·cases h
   ·cases h
  ·cases h
 ·cases h
theorem PZ (hi:Inv C st w) {x:Value} {px:PV} {ty:TypeId} {K:PV→Store→Prop} (hx:VR C x px) (h:Ez st px K) :
  ∃ v w' C' p st',(Instr.next x false ty).run P w=.ok v w'∧C.le C'∧Inv C' st' w'∧VR C' v p∧K p st':=by
 have one:VR C (.tuple #[.bool false]) (.tuple [.bool false]):=.tuple _ _ rfl (fun j q hq=>by
  match j,hq with
  | 0,hq=>simp at hq;subst hq;exact .bool false
  | n+1,hq=>simp at hq)
 unfold Ez at h
 split at h
 ·rename_i id
  split at h
  ·rename_i n seen ho
   obtain ⟨L,hL,hb,hat,rfl⟩:=hi.it ho hx
   obtain ⟨b1,b2,b3,b4,b5,b6,b7,b8⟩:=hat
   have hget:(getObj L.blk).run P w=.ok (.mapIter none 0 #[] 0) w:=by simp[getObj,Sem.run,b8]
   exact ⟨_,w,C,_,st,by simp[Instr.next,hget],Ctx.le.refl C,hi,one,h⟩
  ·rename_i m g n seen ho
   split at h
   ·rename_i g' mk es hom
    obtain ⟨rfl,rfl,hend,hstep⟩:=h
    obtain ⟨L,hL,hb,hat,rfl⟩:=hi.it ho hx
    obtain ⟨b1,b2,b3,b4,b5,b6,b7,b8,mb,b9,b10⟩:=hat
    obtain ⟨hbm,Lm,hLm,hatm⟩:=hi.obj m _ hom
    have hmb:=b9 Lm hLm hatm.1.symm
    subst hmb
    obtain ⟨a1,a2,a3,a4,ces,a5,a6,a7⟩:=hatm
    have hborn:∀x∈ces.toList,x.born<es.length:=fun x hx=>by
     obtain ⟨i,hix⟩:=List.mem_iff_getElem?.1 hx
     have hlt:i<es.length:=by have:=(List.getElem?_eq_some_iff.1 hix).1;simp at this;omega
     obtain ⟨e,e1,_,_,e4,_⟩:=a7 i _ _ (List.getElem?_eq_getElem hlt)
     have : ces[i]?=some x:=by simpa using hix
     rw [this]at e1;cases e1;omega
    rcases run_next_at (P:=P) w ty L.blk Lm.blk es.length es.length seen.toArray ces es.length b10 a5 hborn (Nat.le_refl _)with ⟨hl,hrun⟩ | ⟨e,he,w1,hw1,hrun⟩
    ·refine ⟨_,w,C,_,st,hrun,Ctx.le.refl C,hi,one,hend ?_⟩
     -- all have been
     have hall:∀i,i<es.length→i∈seen:=fun i hlt=>by
      obtain ⟨e,e1,_,_,e4,_⟩:=a7 i _ _ (List.getElem?_eq_getElem hlt)
      have hem:e∈ces:=Array.mem_of_getElem? e1
      by_cases hs:i∈seen
      ·exact hs
      ·have : e∈leftOf ces seen.toArray:=by simp[leftOf,hem,e4,hs]
       have h0:=Array.size_pos_of_mem this
       omega
     have h1:es.length≤seen.length:=by
      have hsub:List.range es.length ⊆ seen:=fun i hi'=>hall i (List.mem_range.1 hi')
      have :=(List.nodup_range (n:=es.length)).length_le_of_subset hsub
      simpa using this
     have h2:seen.length≤es.length:=by
      have hsub:seen ⊆ List.range es.length:=fun i hi'=>List.mem_range.2 (b6 i hi')
      have := b5.length_le_of_subset hsub
      simpa using this
     omega
    ·have he2:e∈ces∧¬e.born∈seen:=by simpa [leftOf]using he
     obtain ⟨i,hix⟩:=Array.mem_iff_getElem?.1 he2.1
     have hlt:i<es.length:=by have:=(Array.getElem?_eq_some_iff.1 hix).1;omega
     obtain ⟨e',e1,e2,e3,e4,e5⟩:=a7 i _ _ (List.getElem?_eq_getElem hlt)
     rw [hix]at e1;cases e1
     have hlt0:id<st.next:=by
      rcases Nat.lt_or_ge id st.next with h | h
      ·exact h
      ·exact absurd hb (hi.next id h)
     have hi1:Inv C st w1:=by
      rcases hw1 with rfl | rfl
      ·exact hi
      ·exact hi.heap rfl
     have hw1h:w1.heap=w.heap:=by rcases hw1 with rfl | rfl <;> rfl
     have hblk:L.blk<w1.heap.size:=by rw[hw1h];exact (Array.getElem?_eq_some_iff.1 b10).1
     have hns:e.born ∉ seen:=he2.2
     obtain ⟨q1,q2⟩:=hi1.put (id:=id) (nx:=st.next) (o:=.it (some (m,g)) es.length (seen ++ [i])) (L':=L) (w':=ChangeMaps.setBlock w1 L.blk (.mapIter (some Lm.blk) es.length (seen.toArray.push e.born) es.length)) (.inl ⟨L,hL,.inl rfl⟩) (.inr (.inr ⟨L,hL,rfl,by omega⟩))
      (fun b hb hne=>by simp[ChangeMaps.setBlock,Array.getElem?_setIfInBounds_ne (Ne.symm (hne L hL (by omega)))]) (by simp[ChangeMaps.setBlock])
      (fun hle=>by
       refine ⟨b1,b2,b3,b4,?_,?_,hle.born _ b7,hle.genle b7 b8,Lm.blk,hle.live b7 b8 (R:=fun K=>Lm.blk=K.blk) b9,?_⟩
       ·rw [List.nodup_append]
        refine ⟨b5,by simp,?_⟩
        intro a ha b hb
        simp at hb;subst hb
        rintro rfl
        exact hns (by rw[e4];exact ha)
       ·intro j hj
        rcases List.mem_append.1 hj with hj | hj
        ·exact b6 j hj
        ·simp at hj;subst hj;exact hlt
       ·simp [ChangeMaps.setBlock,hblk,e4]) (Nat.le_refl _) hlt0
     refine ⟨_,_,_,_,_,hrun,q1,q2,?_,hstep i _ _ (List.getElem?_eq_getElem hlt) (by rw[←e4];exact hns)⟩
     refine .tuple _ _ rfl (fun j q hq=>?_)
     match j,hq with
     | 0,hq=>simp at hq;subst hq;exact .bool true
     | 1,hq=>simp at hq;subst hq;exact e2.mono q1
     | 2,hq=>simp at hq;subst hq;exact e3.mono q1
     | n+3,hq=>simp at hq
   ·exact h.elim
  ·exact h.elim
 ·exact h.elim
theorem kE (hi:Inv C st w) {y:Value} {py:PV} (hy:VR C y py) {ys:List PV} {z:Nat} (hz:0<z) (hs:∀s,py≠.str s) (h:Cw st z py=some ys) (m:Nat) (hm:m≤ys.length) :
  ∃ a len cap news,y=.slice a len cap∧len=ys.length∧Src P C w z (.slice a m cap) (ys.take m) news:=by
 cases py <;> simp only[Cw,reduceCtorEq]at h
 case nils =>
  cases hy
  simp at h;subst h
  simp at hm;subst hm
  exact ⟨none,0,0,[],rfl,rfl,KR⟩
 case lits z' l =>
  split at h
  ·rename_i hzz
   simp at h;subst h;subst hzz
   cases hy with
   | lits b o size cap _ hcap hmax hszz hl hi' hv =>
    have hy':VR C (.slice (some ⟨b,o,none⟩) (l.take m).length cap) (.lits z' (l.take m)):=by
     refine .lits b o z' cap (l.take m) (by simp;omega) hmax hszz (fun e he=>hl e (List.mem_of_mem_take he)) (fun i j hi1 hj=>hi' i j (by simp at hi1;omega) hj) (fun i j e c he hc=>hv i j e c ?_ hc)
     simp only[List.getElem?_take]at he
     split at he
     ·exact he
     ·cases he
    obtain ⟨news,hn⟩:=GI (P:=P) hi hy' hz (ys:=l.take m) (by simp[Cw])
    rw [show (l.take m).length=m by simp;omega]at hn
    exact ⟨_,_,_,news,rfl,rfl,hn⟩
   | lits0 a cap z =>
    simp at hm;subst hm
    exact ⟨a,0,cap,[],rfl,rfl,KR⟩
  ·cases h
 case ref id gen s n =>
  have h0:=h
  cases hes:st.arr? id gen with
  | none=>rw[hes]at h;cases h
  | some q =>
   obtain ⟨z',es⟩:=q
   rw [hes]at h
   simp only[Option.bind_some]at h
   split at h
   ·rename_i hsn
    obtain ⟨hsn,hz'⟩:=hsn
    simp at h
    have hyl:ys.length=n:=by subst h;simp;omega
    obtain ⟨K,hK,hb,hg,hKz,hzz,hcap,hat⟩:=hi.arr hes
    cases hy with
    | ref _ _ _ _ _ hv hb' hg' hr =>
     obtain ⟨a,rfl,h10,h11⟩:=hr K hK hg.symm
     have hy':VR C (.slice a m (K.cap-s)) (.ref id gen s m):=.ref _ _ _ _ _ rfl hb' hg' (fun L hL hgl=>by
      rw [hK]at hL;cases hL
      exact ⟨a,rfl,by omega,h11⟩)
     obtain ⟨news,hn⟩:=GI (P:=P) hi hy' hz (ys:=ys.take m) (by
      simp only[Cw,hes,Option.bind_some]
      rw [if_pos ⟨by omega,hz'⟩,←h]
      simp [List.take_take,Nat.min_eq_left (show m≤n by omega)])
     exact ⟨a,n,_,news,rfl,hyl.symm,hn⟩
   ·cases h
 case str s=>exact absurd rfl (hs s)
theorem Wn (hi:Inv C st w) {x y:Value} {px py:PV} (hx:VR C x px) (hy:VR C y py) {t u ty:TypeId} {n:Nat} {st':Store} (h:TE st (Ae P t) px py=some (n,st')) :
  ∃ w' C',(Builtin.copy_ #[t,u] ty #[x,y]).run P w=.ok (.int .i64 n) w'∧C.le C'∧Inv C' st' w':=by
 unfold TE at h
 split at h
 ·rename_i id gen s n'
  simp only[Option.bind_eq_some_iff]at h
  obtain ⟨⟨z',es⟩,hes,h⟩:=h
  dsimp only at h
  split at h
  ·rename_i hc
   obtain ⟨hsn,hz',hz,hns⟩:=hc
   simp only[Option.bind_eq_some_iff,Option.some.injEq,Prod.mk.injEq]at h
   obtain ⟨ys,hys,rfl,rfl⟩:=h
   have hnstr:∀s,py≠.str s:=fun s e=>by subst e;simp[PV.isStr]at hns
   obtain ⟨e,i,zv,he,hin,hzv,hsz,hz16,hby,hzs,hzc,hcell,hel,hz0⟩:=BA (t:=t) rfl hz
   obtain ⟨a2,len2,cap2,news,rfl,hl2,hsrc⟩:=kE (P:=P) hi hy hz hnstr hys (min ys.length n') (by omega)
   subst len2
   obtain ⟨K,hK,hb,hg,hKz,hzz,hcap,hat⟩:=hi.arr hes
   rw [hz']at hKz hzz
   have hylen:(ys.take (min ys.length n')).length=min ys.length n':=by simp
   cases hx with
   | ref _ _ _ _ _ hv hb' hg' hr =>
    obtain ⟨a,rfl,h10,h11⟩:=hr K hK hg.symm
    have hfc:(Builtin.firstCells (Ae P t) (min ys.length n') (.slice a2 ys.length cap2)).run P w=.ok news.toArray w:=by
     have := hsrc.2.2.1 w rfl
     rw [hylen]at this
     cases a2 <;> exact this
    rcases Nat.eq_zero_or_pos (min ys.length n')with h0 | h0
    ·have hn0:news = []:=List.eq_nil_of_length_eq_zero (by rw[hsrc.1,hylen,h0];simp)
     subst hn0
     refine ⟨w,C,?_,Ctx.le.refl C,?_⟩
     ·rw [h0]at hfc
      cases a <;> simp[Builtin.copy_,run_underlying he,Go.sizeOf,typeInfo,hin,hsz,Builtin.lenOf,show Nat.min ys.length n'=0 from h0,hfc,goInt,h0,storeCells]
     ·rw [h0]
      simp only[List.take_zero,List.append_nil,Nat.add_zero,List.take_append_drop]
      rw [←hz']
      exact hi.sameObj (arr?_parts hes)
    ·obtain ⟨h5,h6,cur,T,h7,h8,h9⟩:=hat (by omega)
     have ha:=h11 (by omega)
     rw [hKz]at ha h9
     have hnl:news.length=min ys.length n'*Ae P t:=by rw[hsrc.1,hylen]
     have hmb:=Nat.mul_le_mul_right K.size (show s+min ys.length n'≤K.cap by omega)
     rw [Nat.add_mul,hKz]at hmb
     have hfit2:K.off+s*Ae P t+news.length≤cur.size:=by rw[hnl];rw[hKz]at h8;omega
     have hst:=run_storeCells_at P K.blk (K.off+s*Ae P t) T news 0 cur w h7 (by simpa using hfit2) (hsrc.one hz)
     simp only[Nat.add_zero]at hst
     have hcells:∀i e,(es.take s++ys.take (min ys.length n')++es.drop (s+min ys.length n'))[i]?=some e→CellsAt C (cur.toList.take (K.off+s*Ae P t)++news++cur.toList.drop (K.off+s*Ae P t+news.length)).toArray (K.off+i*K.size) K.size e:=by
      intro i e hie
      rw [hKz]
      refine He (ys:=ys.take (min ys.length n')) hsrc.1 hfit2 h9 hsrc.2.2.2 ?_
      rw [hylen]
      have hlen1:(es.take s).length=s:=by simp;omega
      by_cases hin':s≤i∧i<s+min ys.length n'
      ·refine .inl ⟨hin'.1,?_⟩
       rw [List.append_assoc,List.getElem?_append_right (by omega),hlen1,List.getElem?_append_left (by omega)]at hie;exact hie
      ·refine .inr ⟨hin',?_⟩
       rcases Nat.lt_or_ge i s with h18 | h18
       ·rw [List.append_assoc,List.getElem?_append_left (by omega),List.getElem?_take_of_lt h18]at hie;exact hie
       ·have hlen2:(es.take s++ys.take (min ys.length n')).length=s+min ys.length n':=by rw[List.length_append,hlen1,hylen]
        rw [List.getElem?_append_right (by omega),hlen2,List.getElem?_drop]at hie
        rw [show i=s+min ys.length n'+(i-(s+min ys.length n')) by omega];exact hie
     obtain ⟨C',h12,h13,h14,h15⟩:=hi.reArr (gen':=gen) (L':=K) hes hK (by omega) (.inl rfl) hg rfl (by omega) (by simp;omega) (hi.arrMax hes hK) h7 (by rw[Fg hfit2];exact h8) hcells
     rw [hKz]at h13
     refine ⟨_,C',?_,h12,h13⟩
     rw [ha]
     simp [Builtin.copy_,run_underlying he,Go.sizeOf,typeInfo,hin,hsz,Builtin.lenOf,show Nat.min ys.length n'=min ys.length n' from rfl,hfc,hst,goInt]
  ·cases h
 ·cases h
end
end Sim
