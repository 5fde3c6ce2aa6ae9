/- append, make, literals: the ideal operations. -/
import Derived.Test.YtppljhpecoeakaaSimI
set_option linter.unusedVariables false
set_option linter.unusedSimpArgs false
namespace Sim
open Go
section
variable {P:Program} {w:World} {C:Ctx} {st:Store}
theorem Ju {olds news rest:Array Value} {k:Nat}:(olds++news++rest).getD k undef=if k<olds.size then olds.getD k undef else if k<olds.size+news.size then news.getD (k-olds.size) undef else rest.getD (k-olds.size-news.size) undef:=by
  simp only[Array.getD_eq_getD_getElem?,Array.getElem?_append,Array.size_append]
  by_cases h1:k<olds.size
  · rw [if_pos h1,if_pos (by omega),if_pos h1]
  · rw [if_neg h1]
    by_cases h2:k<olds.size+news.size
    · rw [if_pos h2,if_pos h2,if_neg h1]
    · rw [if_neg h2,if_neg h2,if_neg h1,show k-(olds.size+news.size)=k-olds.size-news.size by omega]
theorem Hf {z:Nat} {es ys:List PV} {olds news rest:Array Value} (ho:olds.size=es.length*z) (hn:news.size=ys.length*z)
    (h1 : ∀i e,es[i]?=some e→CellsAt C olds (i*z) z e) (h2:∀i e,ys[i]?=some e→CellsAt C news (i*z) z e) :
    ∀ i e,(es++ys)[i]?=some e→CellsAt C (olds++news++rest) (i*z) z e:=by
  intro i e he
  rcases Nat.lt_or_ge i es.length with hi | hi
  · rw [List.getElem?_append_left hi]at he
    refine (h1 i e he).congr (fun j hj=>?_)
    have := Bg (z:=z) hi (Nat.le_refl _)
    rw [Ju,if_pos (by omega)]
  · rw [List.getElem?_append_right hi]at he
    have h3:=h2 _ e he
    have hi2:i-es.length<ys.length:=(List.getElem?_eq_some_iff.1 he).1
    have := Bg (z:=z) hi2 (Nat.le_refl _)
    have e1:i*z=es.length*z+(i-es.length)*z:=by rw[←Nat.add_mul];congr 1;omega
    refine ⟨h3.1,h3.2.1,fun j c hj=>?_⟩
    have hj':j<z:=by have:=(List.getElem?_eq_some_iff.1 hj).1;have:=h3.1;omega
    rw [Ju,if_neg (by omega),if_pos (by omega),show i*z+j-olds.size=(i-es.length)*z+j by omega]
    exact h3.2.2 j c hj
theorem Inv.sameObj (hi:Inv C st w) {id:Nat} {o:IObj} (h:st.obj id=some o):Inv C (st.set id o) w:=by
  have : st.set id o=st:=by
    unfold Store.set
    have : Aa st.obj id (some o)=st.obj:=by
      funext i;unfold Aa;split
      · rename_i e;rw[e,h]
      · rfl
    rw [this]
  rw [this];exact hi
theorem Gf {z base q:Nat} {es ys:List PV} {cur:Array Value} {news:List Value} (hn:news.length=ys.length*z) (hfit:base+q*z+news.length≤cur.size)
    (h1 : ∀i e,es[i]?=some e→CellsAt C cur (base+i*z) z e) (h2:∀i e,ys[i]?=some e→CellsAt C news.toArray (i*z) z e) {p:Nat} {e:PV}
    (he : (q≤p∧ys[p-q]?=some e)∨(¬(q≤p∧p<q+ys.length)∧es[p]?=some e)) :
    CellsAt C (cur.toList.take (base+q*z)++news++cur.toList.drop (base+q*z+news.length)).toArray (base+p*z) z e:=by
  rcases he with ⟨h3,h4⟩ | ⟨h3,h4⟩
  · have h5:=h2 _ e h4
    have hlt:p-q<ys.length:=(List.getElem?_eq_some_iff.1 h4).1
    have hmb:=Bg (z:=z) hlt (Nat.le_refl _)
    have e1:p*z=q*z+(p-q)*z:=by rw[←Nat.add_mul];congr 1;omega
    refine ⟨h5.1,h5.2.1,fun j c hj=>?_⟩
    have hj':j<z:=by have:=(List.getElem?_eq_some_iff.1 hj).1;have:=h5.1;omega
    rw [EK hfit,if_pos (by omega),show base+p*z+j-(base+q*z)=(p-q)*z+j by omega]
    have := h5.2.2 j c hj
    simpa using this
  · refine (h1 p e h4).congr (fun j hj=>?_)
    rw [EK hfit]
    refine if_neg (fun hr=>?_)
    rw [hn]at hr
    rcases Nat.lt_or_ge p q with h5 | h5
    · have := Bg (z:=z) h5 (Nat.le_refl _);omega
    · have := Nat.mul_le_mul_right z (show q+ys.length≤p by omega)
      rw [Nat.add_mul]at this;omega
theorem Pr (hi:Inv C st w) {x y:Value} {px py q:PV} (hx:VR C x px) (hy:VR C y py) {t u ty:TypeId} {ys:List PV} (hys:Cj st (Ad P t) py=some ys) (hu:Ad P u≠0∨AT P u=true)
    {st' : Store} (h:Cs st (Ad P t) px ys=some (q,st')) :
    ∃ v w' C',(Builtin.append_ #[t,u] ty #[x,y]).run P w=.ok v w'∧C.le C'∧Inv C' st' w'∧VR C' v q:=by
  unfold Cs at h
  split at h
  · split at h
    · rename_i hc
      obtain ⟨hz,hm⟩:=hc
      obtain ⟨e,i,zv,he,hin,hzv,hsz,hz16,hby,hzs,hzc,hcell,hel,hz0⟩:=Bv (t:=t) rfl hz
      obtain ⟨news,hsrc⟩:=FL (P:=P) hi hy hz hys
      have hnsz:news.toArray.size=ys.length*Ad P t:=by simpa using hsrc.1
      cases hx
      split at h
      · rename_i h0
        simp only[Option.some.injEq,Prod.mk.injEq]at h;obtain⟨rfl,rfl⟩:=h
        have hn0:=hsrc.2.2.1 w rfl
        have := Fz (P:=P) (w:=w) (ty:=ty) (base:=none) (sLen:=0) (sCap:=0) (w':=w) he hu hin hsrc.2.1 (by rw[hsz];exact hn0) (by omega) (by intro a h;cases h) (fun _=>rfl)
        rw [h0]at this
        exact ⟨_,w,C,this,Ctx.le.refl C,hi,.nils⟩
      · rename_i h0
        simp only[Option.some.injEq,Prod.mk.injEq]at h;obtain⟨rfl,rfl⟩:=h
        have := He (P:=P) (w:=w) (ty:=ty) (base:=none) (sLen:=0) (sCap:=0) (olds := #[]) he hu hin hzv hsrc.2.1 (fun w' _=>by simp[Builtin.firstCells]) (by rw[hsz];exact hsrc.2.2.1) (by omega) (by omega) hby
        simp only[Nat.zero_add,Array.empty_append]at this
        have hge:=grownCap_ge w ys.length 0 e
        obtain ⟨C',h1,h2,h3,h4⟩:=(hi.heap (w':=w.drew) rfl).newArr (T:=e) (z:=Ad P t) (cap:=grownCap w ys.length 0 e) (es:=ys) (cs:=news.toArray++Builtin.zeroCells zv.cells (grownCap w ys.length 0 e-ys.length)) hz hge (grownCap_le_maxLen w ys.length 0 e (by simp only[maxLen];omega))
          (by rw[Array.size_append,hnsz,size_zeroCells,hzs,←Nat.add_mul];exact Nat.mul_le_mul_right _ (by omega))
          (fun i e he=>by
            have := Hf (C:=C) (z:=Ad P t) (es := []) (ys:=ys) (olds := #[]) (news:=news.toArray) (rest:=Builtin.zeroCells zv.cells (grownCap w ys.length 0 (BR P t)-ys.length)) (by simp) hnsz (by intro i e h;simp at h) hsrc.2.2.2 i e (by simpa using he)
            simp only[Array.empty_append]at this
            rw [hel]at this;exact this)
        exact ⟨_,_,C',this,h1,h2,VR.newRef h3 h4 hge⟩
    · cases h
  · rename_i id gen s n
    cases hes:st.arr? id gen with
    | none=>rw[hes]at h;cases h
    | some zes =>
      obtain ⟨z',es⟩:=zes
      rw [hes]at h
      simp only[Option.bind_some]at h
      obtain ⟨K,hK,hb,hg,hKz,hzz,hcap,hat⟩:=hi.arr hes
      split at h
      · rename_i hc
        obtain ⟨hsn,hz',hmax⟩:=hc
        rw [hz']at hKz hzz
        have hz:=hzz
        obtain ⟨e,i,zv,he,hin,hzv,hsz,hz16,hby,hzs,hzc,hcell,hel,hz0⟩:=Bv (t:=t) rfl hz
        obtain ⟨news,hsrc⟩:=FL (P:=P) hi hy hz hys
        have hnsz:news.toArray.size=ys.length*Ad P t:=by simpa using hsrc.1
        have hold:=hx
        cases hx with
        | ref _ _ _ _ _ hv hb' hg' hr =>
          obtain ⟨a,rfl,h10,h11⟩:=hr K hK hg.symm
          -- what is written in place
          have inPlace:0<ys.length→n+ys.length≤K.cap-s→∃cur T,w.heap[K.blk]?=some (.cells cur T (0,0))∧K.off+K.cap*K.size≤cur.size∧K.off+(s+n)*Ad P t+news.length≤cur.size ∧
              a = some ⟨K.blk,K.off+s*Ad P t,none⟩∧(∀i e,es[i]?=some e→CellsAt C cur (K.off+i*Ad P t) (Ad P t) e) ∧
              (Builtin.append_ #[t,u] ty #[.slice a n (K.cap-s),y]).run P w=.ok (.slice a (n+ys.length) (K.cap-s)) (w.setRow K.blk (cur.toList.take (K.off+(s+n)*Ad P t)++news++cur.toList.drop (K.off+(s+n)*Ad P t+news.length)).toArray):=by
            intro h0 hroom
            obtain ⟨h5,h6,cur,T,h7,h8,h9⟩:=hat (by omega)
            have ha:=h11 (by omega)
            rw [hKz]at ha h9
            have hmb:=Nat.mul_le_mul_right K.size (show s+n+ys.length≤K.cap by omega)
            rw [Nat.add_mul,hKz]at hmb
            have hfit2:K.off+(s+n)*Ad P t+news.length≤cur.size:=by rw[hsrc.1];rw[hKz]at h8;omega
            have hst:=run_storeCells_at P K.blk (K.off+(s+n)*Ad P t) T news 0 cur w h7 (by simpa using hfit2) (hsrc.one hz)
            simp only[Nat.add_zero]at hst
            refine ⟨cur,T,h7,h8,hfit2,ha,h9,?_⟩
            exact Fz (P:=P) (w:=w) (ty:=ty) (sLen:=n) (sCap:=K.cap-s) (base:=a) he hu hin hsrc.2.1 (by rw[hsz];exact hsrc.2.2.1 w rfl) (by omega)
              (fun a' ha'=>by rw[ha]at ha';cases ha';rw[Ha,hsz,Nat.add_assoc,←Nat.add_mul];exact hst) (by intro h;rw[ha]at h;cases h)
          split at h
          · rename_i hfit
            simp only[Option.some.injEq,Prod.mk.injEq]at h;obtain⟨rfl,rfl⟩:=h
            rcases Nat.eq_zero_or_pos ys.length with h0 | h0
            · have hy0:ys = []:=List.eq_nil_of_length_eq_zero h0
              subst hy0
              have hn0:news = []:=List.eq_nil_of_length_eq_zero (by simpa using hsrc.1)
              subst hn0
              have := Fz (P:=P) (w:=w) (ty:=ty) (base:=a) (sLen:=n) (sCap:=K.cap-s) (w':=w) he hu hin hsrc.2.1 (by rw[hsz];exact hsrc.2.2.1 w rfl) (by simp;omega) (by intro a _;rfl) (fun _=>rfl)
              refine ⟨_,w,C,this,Ctx.le.refl C,?_,by simpa using hold⟩
              have e1:es.take (s+n) ++ []++es.drop (s+n+([]:List PV).length)=es:=by simp
              rw [e1,←hz']
              exact hi.sameObj (arr?_parts hes)
            · obtain ⟨cur,T,h7,h8,hfit2,ha,h9,hrun⟩:=inPlace h0 (by omega)
              have hcells:∀i e,(es.take (s+n)++ys++es.drop (s+n+ys.length))[i]?=some e→CellsAt C (cur.toList.take (K.off+(s+n)*Ad P t)++news++cur.toList.drop (K.off+(s+n)*Ad P t+news.length)).toArray (K.off+i*K.size) K.size e:=by
                intro i e hie
                rw [hKz]
                refine Gf hsrc.1 hfit2 h9 hsrc.2.2.2 ?_
                have hlen1:(es.take (s+n)).length=s+n:=by simp;omega
                by_cases hin':s+n≤i∧i<s+n+ys.length
                · refine .inl ⟨hin'.1,?_⟩
                  rw [List.append_assoc,List.getElem?_append_right (by omega),hlen1,List.getElem?_append_left (by omega)]at hie;exact hie
                · refine .inr ⟨hin',?_⟩
                  rcases Nat.lt_or_ge i (s+n)with h18 | h18
                  · rw [List.append_assoc,List.getElem?_append_left (by omega),List.getElem?_take_of_lt h18]at hie;exact hie
                  · have hlen2:(es.take (s+n)++ys).length=s+n+ys.length:=by simp;omega
                    rw [List.getElem?_append_right (by omega),hlen2,List.getElem?_drop]at hie
                    rw [show i=s+n+ys.length+(i-(s+n+ys.length)) by omega];exact hie
              obtain ⟨C',h12,h13,h14,h15⟩:=hi.reArr (gen':=gen) (L':=K) hes hK (by omega) (.inl rfl) hg rfl (by omega) (by simp;omega) (hi.arrMax hes hK) h7 (by rw[EL hfit2];exact h8) hcells
              rw [hKz]at h13
              refine ⟨_,_,C',hrun,h12,h13,.ref _ _ _ _ _ rfl h15 (fun L' hL'=>?_) (fun L' hL' _=>?_)⟩
              · rw [h14]at hL';cases hL';omega
              · rw [h14]at hL';cases hL'
                exact ⟨_,rfl,by omega,fun _=>by rw[ha,hKz]⟩
          · rename_i hfit
            simp only[Option.some.injEq,Prod.mk.injEq]at h;obtain⟨rfl,rfl⟩:=h
            have helen:((es.drop s).take n).length=n:=by simp;omega
            have hels:∀i e,((es.drop s).take n)[i]?=some e→i<n∧es[s+i]?=some e:=by
              intro i e he
              simp only[List.getElem?_take]at he
              split at he
              · exact ⟨by assumption,by simpa [List.getElem?_drop]using he⟩
              · cases he
            have hy0:0<ys.length:=by omega
            by_cases hroom:n+ys.length≤K.cap-s
            · -- in place, beyond what was there
              obtain ⟨cur,T,h7,h8,hfit2,ha,h9,hrun⟩:=inPlace hy0 hroom
              have hcells:∀i e,((es.drop s).take n++ys)[i]?=some e→CellsAt C (cur.toList.take (K.off+(s+n)*Ad P t)++news++cur.toList.drop (K.off+(s+n)*Ad P t+news.length)).toArray (K.off+s*Ad P t+i*Ad P t) (Ad P t) e:=by
                intro i e hie
                rw [show K.off+s*Ad P t+i*Ad P t=K.off+(s+i)*Ad P t by rw[Nat.add_mul];omega]
                refine Gf hsrc.1 hfit2 h9 hsrc.2.2.2 ?_
                rcases Nat.lt_or_ge i n with h18 | h18
                · refine .inr ⟨by omega,?_⟩
                  rw [List.getElem?_append_left (by omega)]at hie
                  exact (hels i e hie).2
                · refine .inl ⟨by omega,?_⟩
                  rw [List.getElem?_append_right (by omega),helen]at hie
                  rw [show s+i-(s+n)=i-n by omega];exact hie
              obtain ⟨C',h12,h13,h14,h15⟩:=hi.reArr (gen':=gen+1) (L':=⟨K.blk,K.off+s*Ad P t,Ad P t,K.cap-s,gen+1⟩) hes hK (by omega) (.inr (by simp;omega)) rfl rfl hz (by simp;omega) (by have:=hi.arrMax hes hK;show K.cap-s≤maxLen;omega) h7
                (by rw[EL hfit2]
                    have : s*Ad P t+(K.cap-s)*Ad P t=K.cap*Ad P t:=by rw[←Nat.add_mul];congr 1;omega
                    rw [hKz]at h8;dsimp only;omega) hcells
              refine ⟨_,_,C',hrun,h12,h13,.ref _ _ _ _ _ rfl h15 (fun L' hL'=>?_) (fun L' hL' _=>?_)⟩
              · rw [h14]at hL';cases hL';simp
              · rw [h14]at hL';cases hL'
                exact ⟨a,by simp,by simpa using hroom,fun _=>by rw[ha];simp⟩
            · -- a new block
              obtain ⟨olds,hosrc⟩:=FL (P:=P) hi hold hz (ys:=(es.drop s).take n) (by simp[Cj,hes,hsn,hz'])
              have hosz:olds.toArray.size=((es.drop s).take n).length*Ad P t:=by simpa using hosrc.1
              have hofirst:=hosrc.2.2.1
              rw [helen]at hofirst
              have hrun:=He (P:=P) (w:=w) (ty:=ty) (base:=a) (sLen:=n) (sCap:=K.cap-s) (olds:=olds.toArray) he hu hin hzv hsrc.2.1 (by rw[hsz];exact hofirst) (by rw[hsz];exact hsrc.2.2.1) (by omega) (by omega) hby
              have hge:=grownCap_ge w (n+ys.length) (K.cap-s) e
              have hgm:=grownCap_le_maxLen w (n+ys.length) (K.cap-s) e (by simp only[maxLen];omega)
              generalize hcp:grownCap w (n+ys.length) (K.cap-s) e=cap at *
              have hi':=hi.heap (w':=w.drew) rfl
              have hlt:id<st.next:=by
                rcases Nat.lt_or_ge id st.next with h | h
                · exact h
                · exact absurd hb (hi.next id h)
              have hput:=hi'.put (w':=w.drew.alloc (.cells (olds.toArray++news.toArray++Builtin.zeroCells zv.cells (cap-(n+ys.length))) e)) (id:=id) (nx:=st.next) (o:=.arr (gen+1) (Ad P t) ((es.drop s).take n++ys)) (L':=⟨w.heap.size,0,Ad P t,cap,gen+1⟩)
                (.inl ⟨K,hK,.inr (by simp;omega)⟩) (.inr (.inl (Nat.le_refl _))) (fun b hb _=>Go.heap_alloc_old w.drew _ hb) (by simp)
                (fun hle=>⟨rfl,rfl,hz,⟨by simp;omega,hgm⟩,fun _=>⟨hi.hB,fun o=>hi.immLt (Nat.le_refl _),_,e,heap_alloc_new w.drew _,by
                  simp only[Array.size_append,hosz,hnsz,size_zeroCells,hzs,helen,←Nat.add_mul,Nat.zero_add]
                  exact Nat.mul_le_mul_right _ (by omega),fun i e he=>by
                    have := Hf (C:=C) (z:=Ad P t) (rest:=Builtin.zeroCells zv.cells (cap-(n+ys.length))) hosz hnsz hosrc.2.2.2 hsrc.2.2.2 i e he
                    simpa using this.mono hle⟩⟩) (Nat.le_refl _) hlt
              refine ⟨_,_,_,hrun,hput.1,hput.2,.ref _ _ _ _ _ rfl (.inl rfl) (fun L' hL'=>?_) (fun L' hL' _=>?_)⟩
              · simp [Ctx.set]at hL';subst hL';simp
              · simp [Ctx.set]at hL';subst hL'
                exact ⟨some ⟨w.heap.size,0,none⟩,by simp,by simp;omega,by simp⟩
      · cases h
  · cases h
end
end Sim
namespace Sim
open Go
section
variable {P:Program} {w:World} {C:Ctx} {st:Store}
theorem Uv {v:Value} {z:Nat} (hz:0<z) (hl:(Bh v).cells.length=z):v.cells.size=z∧CellsAt C v.cells 0 z (Bh v) :=
  (Cn v).cellsAt hz hl
theorem Yl {zc:Array Value} {n k:Nat} (hk:k<n):(madeCells zc n).getD k undef=zc[k % zc.size]! := by
  simp [madeCells,Array.getD,hk]
theorem LP {v:Value} {z n:Nat} (hz:0<z) (hl:(Bh v).cells.length=z) :
    ∀ i e,(List.replicate n (Bh v))[i]?=some e→CellsAt C (madeCells v.cells (n*z)) (i*z) z e:=by
  obtain ⟨h1,h2,h3,h4⟩:=Uv (C:=C) hz hl
  intro i e he
  have hi:i<n:=by have:=(List.getElem?_eq_some_iff.1 he).1;simpa using this
  have : e=Bh v:=by
    rw [List.getElem?_replicate,if_pos hi]at he;exact (Option.some.inj he).symm
  subst this
  refine ⟨h2,h3,fun j c hj=>?_⟩
  have hj':j<z:=by have:=(List.getElem?_eq_some_iff.1 hj).1;omega
  have hb:=Bg (z:=z) hi (Nat.le_refl _)
  rw [Yl (by omega),h1,show (i*z+j) % z=j by rw[Nat.mul_comm,Nat.mul_add_mod];exact Nat.mod_eq_of_lt hj']
  have := h4 j c hj
  simpa [Array.getD,show j<v.cells.size by omega,getElem!_def]using this
theorem Uw (hi:Inv C st w) {t:TypeId} {n m:Int} (h0:0≤n) (h1:n≤m) (h2:m≤4294967296) (hz:0<Ad P t) :
    ∃ v w' C',(Instr.makeSlice t (.int .i64 n) (.int .i64 m)).run P w=.ok v w'∧C.le C'∧Inv C' (st.new (.arr 0 (Ad P t) (List.replicate n.toNat (AD P (BR P t))))) w'∧VR C' v (.ref st.next 0 0 n.toNat) ∧
      (∀ id g z0 es0,st.obj id=some (.arr g z0 es0)→∃C',C.le C'∧Inv C' (st.set id (.arr (g+1) (Ad P t) (List.replicate n.toNat (AD P (BR P t))))) w'∧VR C' v (.ref id (g+1) 0 n.toNat)) ∧
      (∃ C',C.le C'∧Inv C' st w'∧VR C' v (.lits (Ad P t) (List.replicate n.toNat (AD P (BR P t))))):=by
  obtain ⟨e,i,zv,he,hin,hzv,hsz,hz16,hby,hzs,hzc,hcell,hel,hz0⟩:=Bv (t:=t) rfl hz
  have hb:(i.bytes:Int)*m≤281474976710656:=by
    have : (i.bytes:Int)*m≤65536*4294967296:=Int.mul_le_mul (by omega) h2 (by omega) (by omega)
    omega
  have hrun:=run_make (P:=P) w t e i zv he hin hzv .i64 .i64 n m h0 h1 hb (by omega)
  rw [hel,hz0]
  rw [hsz]at hrun
  have hc:=LP (C:=C) (v:=zv) (n:=m.toNat) hz hzc
  have hel':∀(i:Nat) (e:PV),(List.replicate n.toNat (Bh zv))[i]?=some e→CellsAt C (madeCells zv.cells (m.toNat*Ad P t)) (i*Ad P t) (Ad P t) e :=
    (fun i e he=>hc i e (by
      rw [List.getElem?_replicate]at he ⊢
      split at he
      · rw [if_pos (by omega)];exact he
      · cases he))
  obtain ⟨C',a,b,c,d⟩:=hi.newArr (T:=e) (es:=List.replicate n.toNat (Bh zv)) (z:=Ad P t) (cap:=m.toNat) (cs:=madeCells zv.cells (m.toNat*Ad P t)) hz (by simp;omega) (by simp only[maxLen];omega) (by rw[size_madeCells];exact Nat.le_refl _) hel'
  refine ⟨_,_,C',hrun,a,b,VR.newRef c d (by omega),fun id g z0 es0 ho=>?_,?_⟩
  case refine_2 =>
    obtain ⟨C3,a3,b3,c3⟩:=hi.lits (T:=e) (l:=List.replicate n.toNat (Bh zv)) (z:=Ad P t) (cap:=m.toNat) (cs:=madeCells zv.cells (m.toNat*Ad P t)) hz (by simp;omega) (by simp only[maxLen];omega) (by rw[size_madeCells];exact Nat.le_refl _) hel'
    rw [List.length_replicate]at c3
    exact ⟨C3,a3,b3,c3⟩
  obtain ⟨C2,a2,b2,c2,d2⟩:=hi.reNew ho (T:=e) (es:=List.replicate n.toNat (Bh zv)) (z:=Ad P t) (cap:=m.toNat) (cs:=madeCells zv.cells (m.toNat*Ad P t)) hz (by simp;omega) (by simp only[maxLen];omega) (by rw[size_madeCells];exact Nat.le_refl _) hel'
  exact ⟨C2,a2,b2,VR.newRefG c2 d2 (by omega)⟩
def VRL (C:Ctx) (cs:Array Value) (l:List PV):Prop:=cs.size=l.length∧(∀c∈l,c.isCell=true)∧∀i p,l[i]?=some p→VR C (cs.getD i undef) p
theorem WG (off:Nat):∀(l:List Value) (n:Nat) (cells:Array Value),off+n+l.length≤cells.size →
    ((l.zipIdx n).foldl (fun cs (p:Value×Nat)=>cs.setIfInBounds (off+p.2) p.1) cells).size=cells.size ∧
    ∀ k,((l.zipIdx n).foldl (fun cs (p:Value×Nat)=>cs.setIfInBounds (off+p.2) p.1) cells).getD k undef=if off+n≤k∧k<off+n+l.length then l.getD (k-(off+n)) undef else cells.getD k undef
  | [],n,cells,h=>⟨rfl,fun k=>by rw[if_neg (by simp)];rfl⟩
  | v :: l,n,cells,h=>by
    have ih:=WG off l (n+1) (cells.setIfInBounds (off+n) v) (by simp at h ⊢;omega)
    simp only[List.zipIdx_cons,List.foldl_cons]
    refine ⟨by rw[ih.1];simp,fun k=>?_⟩
    rw [ih.2 k]
    simp only[List.length_cons]at h ⊢
    by_cases h1:off+(n+1)≤k∧k<off+(n+1)+l.length
    · rw [if_pos h1,if_pos (by omega)]
      rw [show k-(off+n)=(k-(off+(n+1)))+1 by omega];simp
    · rw [if_neg h1]
      by_cases h2:k=off+n
      · subst h2
        rw [if_pos (by omega)]
        simp [Array.getD,show off+n<cells.size by omega]
      · rw [if_neg (by omega)]
        simp only[Array.getD_eq_getD_getElem?,Array.getElem?_setIfInBounds_ne (fun e=>h2 e.symm)]
theorem Ro {cells:Array Value} {v:Value} {off:Nat} (h:off+v.cells.size≤cells.size) :
    (v.cells.zipIdx.foldl (fun cs (c,j)=>cs.setIfInBounds (off+j) c) cells).size=cells.size ∧
    ∀ k,(v.cells.zipIdx.foldl (fun cs (c,j)=>cs.setIfInBounds (off+j) c) cells).getD k undef=if off≤k∧k<off+v.cells.size then v.cells.getD (k-off) undef else cells.getD k undef:=by
  have := WG off v.cells.toList 0 cells (by simpa using h)
  have e:v.cells.zipIdx.foldl (fun cs (c,j)=>cs.setIfInBounds (off+j) c) cells=(v.cells.toList.zipIdx 0).foldl (fun cs (p:Value×Nat)=>cs.setIfInBounds (off+p.2) p.1) cells:=by
    rw [←Array.foldl_toList,Array.toList_zipIdx]
  rw [e]
  refine ⟨this.1,fun k=>?_⟩
  rw [this.2 k,Nat.add_zero,Array.length_toList,K6]
theorem IQ {place place':Nat→Option (Nat×Nat)} (hp:∀i q,place i=some q→place' i=some q):∀(parts:List (Nat×Value)) (pp:List (Nat×PV)) (cs:Array Value) (l l':List PV),
    parts.length = pp.length→(∀(k i:Nat) (v:Value) (j:Nat) (p:PV),parts[k]?=some (i,v)→pp[k]?=some (j,p)→i=j∧VR C v p)→VRL C cs l→EU place l pp=some l'→∃cs',Instr.fill place' cs parts=some cs'∧VRL C cs' l'
  | [],[],cs,l,l',_,_,hl,h=>by simp[EU]at h;subst h;exact⟨cs,rfl,hl⟩
  | (i, v) :: parts,(j,p)::pp,cs,l,l',hlen,hv,hl,h=>by
    obtain ⟨rfl,hvp⟩:=hv 0 i v j p rfl rfl
    unfold EU at h
    split at h
    · cases h
    · rename_i off size hpl
      split at h
      · rename_i hc
        obtain ⟨h1,h2,h3⟩:=hc
        obtain ⟨h4,h5,h6,h7⟩:=hvp.cellsAt h3 h1
        obtain ⟨hl1,hl2,hl3⟩:=hl
        have hsz:off+v.cells.size≤cs.size:=by omega
        obtain ⟨f1,f2⟩:=Ro (cells:=cs) hsz
        have hl':VRL C (v.cells.zipIdx.foldl (fun cs (c,j)=>cs.setIfInBounds (off+j) c) cs) (Dr l off p.cells):=by
          have hs:off+p.cells.length≤l.length:=by omega
          refine ⟨by rw[f1,Fy hs,hl1],fun c hc=>?_,fun k q hk=>?_⟩
          · obtain ⟨k,hk⟩:=List.mem_iff_getElem?.1 hc
            rw [D7 hs]at hk
            split at hk
            · exact h6 _ (List.mem_of_getElem? hk)
            · exact hl2 _ (List.mem_of_getElem? hk)
          · rw [D7 hs]at hk
            rw [f2 k]
            split at hk
            · rw [if_pos (by omega)]
              have := h7 _ q hk
              simpa using this
            · rw [if_neg (by omega)];exact hl3 k q hk
        obtain ⟨cs',g1,g2⟩:=IQ hp parts pp _ _ l' (by simpa using hlen) (fun k i v j p h1 h2=>hv (k+1) i v j p h1 h2) hl' h
        refine ⟨cs',?_,g2⟩
        rw [Instr.fill,hp _ _ hpl]
        simp only[h4]
        rw [if_neg (by simp;omega)]
        exact g1
      · cases h
  | [],_::_,_,_,_,h,_,_,_=>by simp at h
  | _::_,[],_,_,_,h,_,_,_=>by simp at h
theorem Rp {t:TypeId} {parts:Array (Nat×Value)} {pp:List (Nat×PV)} (hlen:parts.size=pp.length) (hv:∀(k i:Nat) (v:Value) (j:Nat) (p:PV),parts.toList[k]?=some (i,v)→pp[k]?=some (j,p)→i=j∧VR C v p)
    {q : PV} (h:Ko P t pp=some q):∃v,(Instr.build t parts).run P w=.ok v w∧VR C v q:=by
  unfold Ko at h
  split at h
  · rename_i hb
    unfold Cf at hb
    simp only[Bool.and_eq_true]at hb
    obtain ⟨hag,hb⟩:=hb
    obtain ⟨i,zv,l0,hi,hzv,hz0,hl0⟩:∃i zv l0,P.info? t=some i∧i.zero=some zv∧AD P t=Bh zv∧Bh zv=.agg l0:=by
      unfold AD at hag ⊢
      cases hi:P.info? t with
      | none=>simp[hi,PV.isAgg]at hag
      | some i =>
        cases hz:i.zero with
        | none=>simp[hi,hz,PV.isAgg]at hag
        | some zv =>
          simp only[hi,hz,Option.bind_some]at hag ⊢
          cases hc:Bh zv <;> simp[hc,PV.isAgg]at hag
          exact ⟨i,zv,_,rfl,hz,hc.symm▸rfl,hc⟩
    have hzr:(zeroValue t).run P w=.ok zv w:=by simp[zeroValue,typeInfo,hi,hzv]
    have hvz:=Cn (C:=C) zv
    rw [hl0]at hvz
    obtain ⟨cs,rfl,hn,hcc,hcv⟩:=hvz.agg_get
    have hl:VRL C cs l0:=⟨hn,hcc,fun i p hi=>(hcv i p hi).2⟩
    rw [hz0,hl0]at h
    have hps:parts.toList.length=pp.length:=by simpa using hlen
    split at h
    · rename_i n z ha
      obtain ⟨e,he,hez⟩:=Fp ha
      rw [he]at hb
      obtain ⟨ie,hie⟩:=Option.isSome_iff_exists.1 hb
      simp only[Option.map_eq_some_iff]at h
      obtain ⟨l',hf,rfl⟩:=h
      obtain ⟨cs',h1,h2⟩:=IQ (place':=fun i=>some (i*z,z)) (fun _ _ h=>h) _ _ _ _ _ hps hv hl hf
      refine ⟨.agg cs',?_,.agg _ _ h2.1 h2.2.1 h2.2.2⟩
      have hsz:ie.size=z:=by rw[←hez];simp[Program.cellsOf,hie]
      refine run_build w t parts cs' ?_
      simp [Program.built,hi,he,hzv,hie,Value.cells,hsz,h1]
    · rename_i ha
      split at hb
      · rename_i fs hfs
        simp only[Option.map_eq_some_iff]at h
        obtain ⟨l',hf,rfl⟩:=h
        have hall:=List.all_eq_true.1 hb
        have hplaces:∃places:List (Nat×Nat),fs.toList.mapM (fun f=>(P.info? f.type).map fun i=>(f.offset,i.size))=some places∧∀(k:Nat) (f:Field),fs.toList[k]?=some f→places[k]?=some (f.offset,P.cellsOf f.type):=by
          clear hf hb hfs
          generalize fs.toList=l at hall ⊢
          induction l with
          | nil=>exact⟨[],rfl,by intro k f h;simp at h⟩
          | cons f l ih =>
            obtain ⟨pl,h1,h2⟩:=ih (fun x hx=>hall x (by simp[hx]))
            obtain ⟨fi,hfi⟩:=Option.isSome_iff_exists.1 (hall f (by simp))
            refine ⟨(f.offset,fi.size)::pl,by simp[List.mapM_cons,hfi,h1],fun k g hk=>?_⟩
            cases k with
            | zero=>simp at hk;subst hk;simp[Program.cellsOf,hfi]
            | succ k=>simpa using h2 k g (by simpa using hk)
        obtain ⟨places,hpl,hpk⟩:=hplaces
        obtain ⟨cs',h1,h2⟩:=IQ (place':=fun i=>places.toArray[i]?) (fun i q hq=>by
          simp only[Option.map_eq_some_iff]at hq
          obtain ⟨⟨o,z,u⟩,hf2,rfl⟩:=hq
          obtain ⟨fs',x,g1,g2,g3,g4,g5⟩:=Hd hf2
          rw [hfs]at g1;cases g1
          have := hpk i x (by rw[Array.getElem?_toList];exact g2)
          simp [this,g3,g4]) _ _ _ _ _ hps hv hl hf
        refine ⟨.agg cs',?_,.agg _ _ h2.1 h2.2.1 h2.2.2⟩
        refine run_build w t parts cs' ?_
        simp only[Program.built,hi,hfs,hzv,hpl,Value.cells]
        exact h1
      · rename_i n e he
        exfalso
        simp [BH,he]at ha
      · cases hb
  · cases h
theorem K8 {z:Nat} (hz:0<z) {place:Nat→Option (Nat×Nat)} (hp:∀i,place i=some (i*z,z)):∀(parts:List (Nat×Value)) (pp:List (Nat×PV)) (cs:Array Value) (l l':List PV),
    parts.length = pp.length→(∀(k i:Nat) (v:Value) (j:Nat) (p:PV),parts[k]?=some (i,v)→pp[k]?=some (j,p)→i=j∧VR C v p)→l.length*z≤cs.size→(∀i e,l[i]?=some e→CellsAt C cs (i*z) z e) →
    Cl z l pp=some l'→∃cs',Instr.fill place cs parts=some cs'∧cs'.size=cs.size∧l'.length=l.length∧∀i e,l'[i]?=some e→CellsAt C cs' (i*z) z e
  | [],[],cs,l,l',_,_,hs,hl,h=>by simp[Cl]at h;subst h;exact⟨cs,rfl,rfl,rfl,hl⟩
  | (i, v)::parts,(j,p)::pp,cs,l,l',hlen,hv,hs,hl,h=>by
    obtain ⟨rfl,hvp⟩:=hv 0 i v j p rfl rfl
    unfold Cl at h
    split at h
    · rename_i hc
      obtain ⟨h1,h2⟩:=hc
      obtain ⟨h4,h5,h6,h7⟩:=hvp.cellsAt hz h2
      have hmb:=Bg (z:=z) h1 (Nat.le_refl _)
      have hsz:i*z+v.cells.size≤cs.size:=by omega
      obtain ⟨f1,f2⟩:=Ro (cells:=cs) hsz
      obtain ⟨cs',g1,g2,g3,g4⟩:=K8 hz hp parts pp (v.cells.zipIdx.foldl (fun cs (c,j)=>cs.setIfInBounds (i*z+j) c) cs) (l.set i p) l' (by simpa using hlen) (fun k i v j p h1 h2=>hv (k+1) i v j p h1 h2) (by rw[f1];simpa using hs)
        (fun k e hk=>by
          by_cases hik:k=i
          · subst hik
            rw [List.getElem?_set_self h1]at hk
            cases hk
            refine ⟨h5,h6,fun j c hj=>?_⟩
            have hj':j<z:=by have:=(List.getElem?_eq_some_iff.1 hj).1;omega
            rw [f2,if_pos (by omega),show k*z+j-k*z=j by omega]
            have := h7 j c hj
            rw [Nat.zero_add]at this;exact this
          · rw [List.getElem?_set_ne (fun e=>hik e.symm)]at hk
            refine (hl k e hk).congr (fun j hj=>?_)
            rw [f2]
            refine if_neg (fun hr=>?_)
            rcases Nat.lt_or_ge k i with h12 | h12
            · have := Bg (z:=z) h12 (Nat.le_refl _);omega
            · have := Bg (z:=z) (show i<k by omega) (Nat.le_refl _);omega) h
      refine ⟨cs',?_,by rw[g2,f1],by simpa using g3,g4⟩
      rw [Instr.fill,hp]
      simp only[h4]
      rw [if_neg (by simp;omega)]
      exact g1
    · cases h
  | [],_::_,_,_,_,h,_,_,_,_=>by simp at h
  | _::_,[],_,_,_,h,_,_,_,_=>by simp at h
theorem LQ {t e:TypeId} {i:TypeInfo} {zv:Value} {z len:Nat} (he:P.underlying t=some (.slice e)) (hi:P.info? e=some i) (hz:i.zero=some zv) (hsz:i.size=z) (hzs:zv.cells.size=z)
    (hmax : len*z≤16777216) {parts:Array (Nat×Value)} {cs':Array Value} (hf:Instr.fill (fun i=>some (i*z,z)) (madeCells zv.cells (len*z)) parts.toList=some cs') :
    (Instr.buildSlice t len parts).run P w=.ok (.slice (some ⟨w.heap.size,0,none⟩) len len) (w.alloc (.cells cs' e)):=by
  have hm:¬(16777216<len*z):=by omega
  have hso:(Go.sizeOf e).run P w=.ok z w:=by simp[Go.sizeOf,typeInfo,hi,hsz]
  by_cases h0:len*z=0
  · have e1:(Array.range (len*z)).map ((#[]:Array Value)[· % (#[]:Array Value).size]!)=madeCells zv.cells (len*z):=by
      rw [h0];simp[madeCells,Array.range_zero']
    rw [←e1]at hf
    simp only[Instr.buildSlice,Sem.run_bind,run_underlying he,Result.andThen,hso]
    rw [if_neg (by omega)]
    simp only[h0,if_true,Sem.run_bind,Sem.run_pure,Result.andThen]
    rw [h0]at hf
    simp only[hf]
    simp [newRow]
  · simp only[Instr.buildSlice,Sem.run_bind,run_underlying he,Result.andThen,hso]
    rw [if_neg (by omega)]
    simp only[h0,if_false,Sem.run_bind,Sem.run_pure,Result.andThen]
    have hzr:(zeroValue e).run P w=.ok zv w:=by simp[zeroValue,typeInfo,hi,hz]
    simp only[hzr]
    have : Instr.fill (fun i=>some (i*z,z)) ((Array.range (len*z)).map (zv.cells[· % zv.cells.size]!)) parts.toList=some cs':=hf
    simp only[this]
    simp [newRow]
theorem Kq (hi:Inv C st w) {t:TypeId} {len:Nat} {parts:Array (Nat×Value)} {pp:List (Nat×PV)} (hlen:parts.size=pp.length) (hv:∀(k i:Nat) (v:Value) (j:Nat) (p:PV),parts.toList[k]?=some (i,v)→pp[k]?=some (j,p)→i=j∧VR C v p)
    (hz : 0<Ad P t) (hmax:len*Ad P t≤16777216) {l:List PV} (h:Cl (Ad P t) (List.replicate len (AD P (BR P t))) pp=some l) :
    ∃ v w',(Instr.buildSlice t len parts).run P w=.ok v w'∧(∃C',C.le C'∧Inv C' st w'∧VR C' v (.lits (Ad P t) l)) ∧
      (∃ C',C.le C'∧Inv C' (st.new (.arr 0 (Ad P t) l)) w'∧VR C' v (.ref st.next 0 0 len)) ∧
      (∀ id g z0 es0,st.obj id=some (.arr g z0 es0)→∃C',C.le C'∧Inv C' (st.set id (.arr (g+1) (Ad P t) l)) w'∧VR C' v (.ref id (g+1) 0 len)):=by
  obtain ⟨e,i,zv,he,hin,hzv,hsz,hz16,hby,hzs,hzc,hcell,hel,hz0⟩:=Bv (t:=t) rfl hz
  rw [hel,hz0]at h
  have hps:parts.toList.length=pp.length:=by simpa using hlen
  obtain ⟨cs',h1,h2,h3,h4⟩:=K8 (C:=C) hz (place:=fun i=>some (i*Ad P t,Ad P t)) (fun _=>rfl) _ _ (madeCells zv.cells (len*Ad P t)) _ l hps hv (by simp[size_madeCells]) (LP hz hzc) h
  simp only[List.length_replicate,size_madeCells]at h2 h3
  have hlm:len≤maxLen:=by
    have : len*1≤len*Ad P t:=Nat.mul_le_mul_left _ hz
    simp only[maxLen];omega
  refine ⟨_,_,LQ he hin hzv hsz hzs hmax h1,?_,?_,fun id g z0 es0 ho=>?_⟩
  · obtain ⟨C',a,b,c⟩:=hi.lits (T:=e) (cap:=len) hz (by omega) hlm (by omega) h4
    rw [h3]at c
    exact ⟨C',a,b,c⟩
  · obtain ⟨C',a,b,c,d⟩:=hi.newArr (T:=e) (cap:=len) hz (by omega) hlm (by omega) h4
    exact ⟨C',a,b,VR.newRef c d (Nat.le_refl _)⟩
  · obtain ⟨C',a,b,c,d⟩:=hi.reNew ho (T:=e) (cap:=len) hz (by omega) hlm (by omega) h4
    exact ⟨C',a,b,VR.newRefG c d (Nat.le_refl _)⟩
theorem Cc {v:Value} {k:IntKind} {n:Int} (h:VR C v (.int k n)):v=.int k n:=by cases h;rfl
theorem Dj {v:Value} {b:Bool} (h:VR C v (.bool b)):v=.bool b:=by cases h;rfl
theorem Ps {v:Value} {s:List UInt8} (h:VR C v (.str s)):∃b:ByteArray,v=.string b∧s=b.data.toList∧s.length≤maxLen:=by cases h;exact⟨_,rfl,by assumption,by assumption⟩
theorem Ux {op:BinOp} {k:IntKind} {a b:Int} {p:PV} (hop:op≠.shl∧op≠.shr) (h:GQ op k a b=some p) {t:TypeId} :
    ∃ v,(binOp op t (.int k a) (.int k b)).run P w=.ok v w∧VR C v p:=by
  have e1:(a==b)=decide (a=b):=by by_cases h:a=b <;> simp[h]
  have e2:(a != b)=decide (¬a=b):=by by_cases h:a=b <;> simp[h]
  cases op <;> simp only[GQ,Cw,Option.some.injEq,Option.map_some]at h <;> try (first | (cases h;done) | (exact absurd rfl hop.1) | (exact absurd rfl hop.2))
  case quo => split at h;· cases h
              · rename_i hb;simp only[Option.some.injEq]at h;subst h;exact⟨_,by simp[binOp,Op.intDiv,hb],.int _ _⟩
  case rem => split at h;· cases h
              · rename_i hb;simp only[Option.some.injEq]at h;subst h;exact⟨_,by simp[binOp,Op.intDiv,hb],.int _ _⟩
  case eql=>subst h;exact⟨.bool (decide (a=b)),by simp only[binOp,←e1];simp[Op.intCmp],.bool _⟩
  case neq=>subst h;exact⟨.bool (decide (¬a=b)),by simp only[binOp,←e2];simp[Op.intCmp],.bool _⟩
  all_goals (subst h;refine⟨_,?_,by constructor⟩;simp[binOp,Op.intArith,Op.intBits,Op.intCmp])
end
end Sim
