/- Lemmas. -/
import Derived.Test.YtdfjimjbdakofaaGreatSimI
import Derived.Maps.RangeRun
import Derived.DeepKeys3
set_option linter.all false
open Array renaming getD_eq_getD_getElem?->fd,size_append->fe,empty_append->fh,getD->bm,getElem?_setIfInBounds_ne->fw,length_toList->cy,range->ge,getElem?_eq_getElem->bz,getElem_extract->gk,getElem?_eq_some_iff->ai,getElem?_modify->iq,getElem?_push->iw
open Bool renaming and_eq_true->fy,and_self->gm,false_eq_true->gu
open Go renaming heap_alloc_old->aj,sizeOf->bd
open Go.Builtin renaming append_->eu,firstCells->ej,zeroCells->fj,len_->ee,copy_->ja,lenOf->ef
open Go.ChangeMaps renaming setBlock->i9
open Go.Instr renaming fill->fx,buildSlice->gd,findNow->ib,findAsking->ig,findKey->ii,checkKey->ij,keyThatStays->il,lookup->im,mapUpdate->ip,mapEntry->iy,entryStore->iz,range->i6,entry->i8
open Go.MapKept renaming IsKey->g8,run_getObj_map->io,run_setObj_map->ir
open Go.Op renaming intCmp->gg
open Go.Program renaming cellsOf->bc,built->f9,keyLits->gt
open Go.Result renaming andThen->bg
open Go.Sem renaming run_bind->bf,run_pure->c8
open Go.Value renaming cells->ae,formed->gw
open List renaming getElem?_append_left->cq,getElem?_append_right->ct,getElem?_eq_some_iff->ab,eq_nil_of_length_eq_zero->fo,append_assoc->co,getElem?_take_of_lt->cr,getElem?_drop->bv,getElem?_take->bu,replicate->ba,getElem?_replicate->fq,length_replicate->ft,mem_iff_getElem?->bt,mem_of_getElem?->ac,all_eq_true->ga,getElem?_set_self->gb,getElem?_set_ne->gc,getElem?_eq_getElem->gl,mem_of_mem_take->dh,getElem?_cons_zero->gp,getElem?_map->bw,range->br,mem_range->gz,getElem?_eq_none->ia,cons.injEq->ix,nodup_nil->i7
open Nat renaming lt_or_ge->bh,le_refl->cg,add_mul->de,mul_le_mul_right->ff,zero_add->cd,add_zero->fm,eq_zero_or_pos->ao
open Option renaming some.injEq->bp,bind_some->aw,some.inj->c7,isSome_iff_exists->aa,map_eq_some_iff->az,map_some->dz,bind_eq_some_iff->au,getD_some->gv
open Prod renaming mk.injEq->c9
open Sim renaming sealC->gq
open Sim.Ctx renaming le.refl->fg,set->fp
open Sim.PV renaming isAgg->fz,cells->gi,pur->gj
open Sim.VR renaming newRef->fk
noncomputable section
namespace Sim
open Go
section
variable {P:Program} {w:World} {C:Ctx} {st:Store}
theorem K7 {olds news rest:Array Value} {k:Nat}:(olds++news++rest).getD k undef=if k<olds.size then olds.getD k undef else if k<olds.size+news.size then news.getD (k-olds.size) undef else rest.getD (k-olds.size-news.size) undef:=by
 simp only[fd,Array.getElem?_append,fe]
 by_cases h1:k<olds.size
 .rw [if_pos h1,if_pos (by omega),if_pos h1]
 .rw [if_neg h1]
  by_cases h2:k<olds.size+news.size
  .rw [if_pos h2,if_pos h2,if_neg h1]
  .rw [if_neg h2,if_neg h2,if_neg h1,show k-(olds.size+news.size)=k-olds.size-news.size by omega]
theorem IV {z:Nat} {es ys:List PV} {olds news rest:Array Value} (ho:olds.size=es.length*z) (hn:news.size=ys.length*z)
  (h1 : ∀i e,es[i]?=some e->CellsAt C olds (i*z) z e) (h2:∀i e,ys[i]?=some e->CellsAt C news (i*z) z e) :
  ∀ i e,(es++ys)[i]?=some e->CellsAt C (olds++news++rest) (i*z) z e:=by
 intro i e he
 rcases bh i es.length with hi | hi
 .rw [cq hi]at he
  refine (h1 i e he).congr (λj hj=>?_)
  have := Bm (z:=z) hi (cg _)
  rw [K7,if_pos (by omega)]
 .rw [ct hi]at he
  have h3:=h2 _ e he
  have hi2:i-es.length<ys.length:=(ab.1 he).1
  have := Bm (z:=z) hi2 (cg _)
  have e1:i*z=es.length*z+(i-es.length)*z:=by rw[<-de];congr 1;omega
  refine ⟨h3.1,h3.2.1,λj c hj=>?_⟩
  have hj':j<z:=by have:=(ab.1 hj).1;have:=h3.1;omega
  rw [K7,if_neg (by omega),if_pos (by omega),show i*z+j-olds.size=(i-es.length)*z+j by omega]
  exact h3.2.2 j c hj
theorem Inv.sameObj (hi:Inv C st w) {id:Nat} {o:IObj} (h:st.obj id=some o):Inv C (st.set id o) w:=by
 have : st.set id o=st:=by
  unfold Store.set
  have : Ab st.obj id (some o)=st.obj:=by
   funext i;unfold Ab;split
   .rename_i e;rw[e,h]
   .rfl
  rw [this]
 rw [this];exact hi
theorem Hq {z base q:Nat} {es ys:List PV} {cur:Array Value} {news:List Value} (hn:news.length=ys.length*z) (hfit:base+q*z+news.length<=cur.size)
  (h1 : ∀i e,es[i]?=some e->CellsAt C cur (base+i*z) z e) (h2:∀i e,ys[i]?=some e->CellsAt C news.toArray (i*z) z e) {p:Nat} {e:PV}
  (he : (q<=p/\ys[p-q]?=some e)\/(¬(q<=p/\p<q+ys.length)/\es[p]?=some e)) :
  CellsAt C (cur.toList.take (base+q*z)++news++cur.toList.drop (base+q*z+news.length)).toArray (base+p*z) z e:=by
 rcases he with ⟨h3,h4⟩ | ⟨h3,h4⟩
 .have h5:=h2 _ e h4
  have hlt:p-q<ys.length:=(ab.1 h4).1
  have hmb:=Bm (z:=z) hlt (cg _)
  have e1:p*z=q*z+(p-q)*z:=by rw[<-de];congr 1;omega
  refine ⟨h5.1,h5.2.1,λj c hj=>?_⟩
  have hj':j<z:=by have:=(ab.1 hj).1;have:=h5.1;omega
  rw [Fi hfit,if_pos (by omega),show base+p*z+j-(base+q*z)=(p-q)*z+j by omega]
  have := h5.2.2 j c hj
  simpa using this
 .refine (h1 p e h4).congr (λj hj=>?_)
  rw [Fi hfit]
  refine if_neg (λhr=>?_)
  rw [hn]at hr
  rcases bh p q with h5 | h5
  .have := Bm (z:=z) h5 (cg _);omega
  .have := ff z (show q+ys.length<=p by omega)
   rw [de]at this;omega
theorem R6 (hi:Inv C st w) {x y:Value} {px py q:PV} (hx:VR C x px) (hy:VR C y py) {t u ty:TypeId} {ys:List PV} (hys:CD st (Ae P t) py=some ys) (hu:Ae P u≠0\/AT P u=true)
  {st' : Store} (h:CJ st (Ae P t) px ys=some (q,st')) :
  ∃ v w' C',(eu #[t,u] ty #[x,y]).run P w=.ok v w'/\C.le C'/\Inv C' st' w'/\VR C' v q:=by
 unfold CJ at h
 split at h
 .split at h
  .rename_i hc
   obtain ⟨hz,hm⟩:=hc
   obtain ⟨e,i,zv,he,hin,hzv,hsz,hz16,hby,hzs,hzc,hcell,hel,hz0⟩:=BC (t:=t) rfl hz
   obtain ⟨news,hsrc⟩:=GU (P:=P) hi hy hz hys
   have hnsz:news.toArray.size=ys.length*Ae P t:=by simpa using hsrc.1
   cases hx
   split at h
   .rename_i h0
    simp only[bp,c9]at h;obtain⟨rfl,rfl⟩:=h
    have hn0:=hsrc.2.2.1 w rfl
    have := GK (P:=P) (w:=w) (ty:=ty) (base:=none) (sLen:=0) (sCap:=0) (w':=w) he hu hin hsrc.2.1 (by rw[hsz];exact hn0) (by omega) (by intro a h;cases h) (λ_=>rfl)
    rw [h0]at this
    exact ⟨_,w,C,this,fg C,hi,.nils⟩
   .rename_i h0
    simp only[bp,c9]at h;obtain⟨rfl,rfl⟩:=h
    have := IU (P:=P) (w:=w) (ty:=ty) (base:=none) (sLen:=0) (sCap:=0) (olds := #[]) he hu hin hzv hsrc.2.1 (λw' _=>by simp[ej]) (by rw[hsz];exact hsrc.2.2.1) (by omega) (by omega) hby
    simp only[cd,fh]at this
    have hge:=grownCap_ge w ys.length 0 e
    obtain ⟨C',h1,h2,h3,h4⟩:=(hi.heap (w':=w.drew) rfl).newArr (T:=e) (z:=Ae P t) (cap:=grownCap w ys.length 0 e) (es:=ys) (cs:=news.toArray++fj zv.cells (grownCap w ys.length 0 e-ys.length)) hz hge (grownCap_le_maxLen w ys.length 0 e (by simp only[maxLen];omega))
     (by rw[fe,hnsz,size_zeroCells,hzs,<-de];exact ff _ (by omega))
     (λi e he=>by
      have := IV (C:=C) (z:=Ae P t) (es := []) (ys:=ys) (olds := #[]) (news:=news.toArray) (rest:=fj zv.cells (grownCap w ys.length 0 (BO P t)-ys.length)) (by simp) hnsz (by intro i e h;simp at h) hsrc.2.2.2 i e (by simpa using he)
      simp only[fh]at this
      rw [hel]at this;exact this)
    exact ⟨_,_,C',this,h1,h2,fk h3 h4 hge⟩
  .cases h
 .rename_i id gen s n
  cases hes:st.arr? id gen with
  | none=>rw[hes]at h;cases h
  | some zes =>
   obtain ⟨z',es⟩:=zes
   rw [hes]at h
   simp only[aw]at h
   obtain ⟨K,hK,hb,hg,hKz,hzz,hcap,hat⟩:=hi.arr hes
   split at h
   .rename_i hc
    obtain ⟨hsn,hz',hmax⟩:=hc
    rw [hz']at hKz hzz
    have hz:=hzz
    obtain ⟨e,i,zv,he,hin,hzv,hsz,hz16,hby,hzs,hzc,hcell,hel,hz0⟩:=BC (t:=t) rfl hz
    obtain ⟨news,hsrc⟩:=GU (P:=P) hi hy hz hys
    have hnsz:news.toArray.size=ys.length*Ae P t:=by simpa using hsrc.1
    have hold:=hx
    cases hx with
    | ref _ _ _ _ _ hv hb' hg' hr =>
     obtain ⟨a,rfl,h10,h11⟩:=hr K hK hg.symm
     -- what is written in place
     have inPlace:0<ys.length->n+ys.length<=K.cap-s->∃cur T,w.heap[K.blk]?=some (.cells cur T (0,0))/\K.off+K.cap*K.size<=cur.size/\K.off+(s+n)*Ae P t+news.length<=cur.size /\
       a = some ⟨K.blk,K.off+s*Ae P t,none⟩/\(∀i e,es[i]?=some e->CellsAt C cur (K.off+i*Ae P t) (Ae P t) e) /\
       (eu #[t,u] ty #[.slice a n (K.cap-s),y]).run P w=.ok (.slice a (n+ys.length) (K.cap-s)) (w.setRow K.blk (cur.toList.take (K.off+(s+n)*Ae P t)++news++cur.toList.drop (K.off+(s+n)*Ae P t+news.length)).toArray):=by
      intro h0 hroom
      obtain ⟨h5,h6,cur,T,h7,h8,h9⟩:=hat (by omega)
      have ha:=h11 (by omega)
      rw [hKz]at ha h9
      have hmb:=ff K.size (show s+n+ys.length<=K.cap by omega)
      rw [de,hKz]at hmb
      have hfit2:K.off+(s+n)*Ae P t+news.length<=cur.size:=by rw[hsrc.1];rw[hKz]at h8;omega
      have hst:=run_storeCells_at P K.blk (K.off+(s+n)*Ae P t) T news 0 cur w h7 (by simpa using hfit2) (hsrc.one hz)
      simp only[fm]at hst
      refine ⟨cur,T,h7,h8,hfit2,ha,h9,?_⟩
      exact GK (P:=P) (w:=w) (ty:=ty) (sLen:=n) (sCap:=K.cap-s) (base:=a) he hu hin hsrc.2.1 (by rw[hsz];exact hsrc.2.2.1 w rfl) (by omega)
       (λa' ha'=>by rw[ha]at ha';cases ha';rw[IQ,hsz,Nat.add_assoc,<-de];exact hst) (by intro h;rw[ha]at h;cases h)
     split at h
     .rename_i hfit
      simp only[bp,c9]at h;obtain⟨rfl,rfl⟩:=h
      rcases ao ys.length with h0 | h0
      .have hy0:ys = []:=fo h0
       subst hy0
       have hn0:news = []:=fo (by simpa using hsrc.1)
       subst hn0
       have := GK (P:=P) (w:=w) (ty:=ty) (base:=a) (sLen:=n) (sCap:=K.cap-s) (w':=w) he hu hin hsrc.2.1 (by rw[hsz];exact hsrc.2.2.1 w rfl) (by simp;omega) (by intro a _;rfl) (λ_=>rfl)
       refine ⟨_,w,C,this,fg C,?_,by simpa using hold⟩
       have e1:es.take (s+n) ++ []++es.drop (s+n+([]:List PV).length)=es:=by simp
       rw [e1,<-hz']
       exact hi.sameObj (arr?_parts hes)
      .obtain ⟨cur,T,h7,h8,hfit2,ha,h9,hrun⟩:=inPlace h0 (by omega)
       have hcells:∀i e,(es.take (s+n)++ys++es.drop (s+n+ys.length))[i]?=some e->CellsAt C (cur.toList.take (K.off+(s+n)*Ae P t)++news++cur.toList.drop (K.off+(s+n)*Ae P t+news.length)).toArray (K.off+i*K.size) K.size e:=by
        intro i e hie
        rw [hKz]
        refine Hq hsrc.1 hfit2 h9 hsrc.2.2.2 ?_
        have hlen1:(es.take (s+n)).length=s+n:=by simp;omega
        by_cases hin':s+n<=i/\i<s+n+ys.length
        .refine .inl ⟨hin'.1,?_⟩
         rw [co,ct (by omega),hlen1,cq (by omega)]at hie;exact hie
        .refine .inr ⟨hin',?_⟩
         rcases bh i (s+n)with h18 | h18
         .rw [co,cq (by omega),cr h18]at hie;exact hie
         .have hlen2:(es.take (s+n)++ys).length=s+n+ys.length:=by simp;omega
          rw [ct (by omega),hlen2,bv]at hie
          rw [show i=s+n+ys.length+(i-(s+n+ys.length)) by omega];exact hie
       obtain ⟨C',h12,h13,h14,h15⟩:=hi.reArr (gen':=gen) (L':=K) hes hK (by omega) (.inl rfl) hg rfl (by omega) (by simp;omega) (hi.arrMax hes hK) h7 (by rw[Fj hfit2];exact h8) hcells
       rw [hKz]at h13
       refine ⟨_,_,C',hrun,h12,h13,.ref _ _ _ _ _ rfl h15 (λL' hL'=>?_) (λL' hL' _=>?_)⟩
       .rw [h14]at hL';cases hL';omega
       .rw [h14]at hL';cases hL'
        exact ⟨_,rfl,by omega,λ_=>by rw[ha,hKz]⟩
     .rename_i hfit
      simp only[bp,c9]at h;obtain⟨rfl,rfl⟩:=h
      have helen:((es.drop s).take n).length=n:=by simp;omega
      have hels:∀i e,((es.drop s).take n)[i]?=some e->i<n/\es[s+i]?=some e:=by
       intro i e he
       simp only[bu]at he
       split at he
       .exact ⟨by assumption,by simpa [bv]using he⟩
       .cases he
      have hy0:0<ys.length:=by omega
      by_cases hroom:n+ys.length<=K.cap-s
      ·-- in place, beyond what was there
       obtain ⟨cur,T,h7,h8,hfit2,ha,h9,hrun⟩:=inPlace hy0 hroom
       have hcells:∀i e,((es.drop s).take n++ys)[i]?=some e->CellsAt C (cur.toList.take (K.off+(s+n)*Ae P t)++news++cur.toList.drop (K.off+(s+n)*Ae P t+news.length)).toArray (K.off+s*Ae P t+i*Ae P t) (Ae P t) e:=by
        intro i e hie
        rw [show K.off+s*Ae P t+i*Ae P t=K.off+(s+i)*Ae P t by rw[de];omega]
        refine Hq hsrc.1 hfit2 h9 hsrc.2.2.2 ?_
        rcases bh i n with h18 | h18
        .refine .inr ⟨by omega,?_⟩
         rw [cq (by omega)]at hie
         exact (hels i e hie).2
        .refine .inl ⟨by omega,?_⟩
         rw [ct (by omega),helen]at hie
         rw [show s+i-(s+n)=i-n by omega];exact hie
       obtain ⟨C',h12,h13,h14,h15⟩:=hi.reArr (gen':=gen+1) (L':=⟨K.blk,K.off+s*Ae P t,Ae P t,K.cap-s,gen+1⟩) hes hK (by omega) (.inr (by simp;omega)) rfl rfl hz (by simp;omega) (by have:=hi.arrMax hes hK;show K.cap-s<=maxLen;omega) h7
        (by
          rw [Fj hfit2]
          have : s*Ae P t+(K.cap-s)*Ae P t=K.cap*Ae P t:=by rw[<-de];congr 1;omega
          rw [hKz]at h8;dsimp only;omega) hcells
       refine ⟨_,_,C',hrun,h12,h13,.ref _ _ _ _ _ rfl h15 (λL' hL'=>?_) (λL' hL' _=>?_)⟩
       .rw [h14]at hL';cases hL';simp
       .rw [h14]at hL';cases hL'
        exact ⟨a,by simp,by simpa using hroom,λ_=>by rw[ha];simp⟩
      ·-- a new block
       obtain ⟨olds,hosrc⟩:=GU (P:=P) hi hold hz (ys:=(es.drop s).take n) (by simp[CD,hes,hsn,hz'])
       have hosz:olds.toArray.size=((es.drop s).take n).length*Ae P t:=by simpa using hosrc.1
       have hofirst:=hosrc.2.2.1
       rw [helen]at hofirst
       have hrun:=IU (P:=P) (w:=w) (ty:=ty) (base:=a) (sLen:=n) (sCap:=K.cap-s) (olds:=olds.toArray) he hu hin hzv hsrc.2.1 (by rw[hsz];exact hofirst) (by rw[hsz];exact hsrc.2.2.1) (by omega) (by omega) hby
       have hge:=grownCap_ge w (n+ys.length) (K.cap-s) e
       have hgm:=grownCap_le_maxLen w (n+ys.length) (K.cap-s) e (by simp only[maxLen];omega)
       generalize hcp:grownCap w (n+ys.length) (K.cap-s) e=cap at *
       have hi':=hi.heap (w':=w.drew) rfl
       have hlt:id<st.next:=by
        rcases bh id st.next with h | h
        .exact h
        .exact absurd hb (hi.next id h)
       have hput:=hi'.put (w':=w.drew.alloc (.cells (olds.toArray++news.toArray++fj zv.cells (cap-(n+ys.length))) e)) (id:=id) (nx:=st.next) (o:=.arr (gen+1) (Ae P t) ((es.drop s).take n++ys)) (L':=⟨w.heap.size,0,Ae P t,cap,gen+1⟩)
        (.inl ⟨K,hK,.inr (by simp;omega)⟩) (.inr (.inl (cg _))) (λb hb _=>aj w.drew _ hb) (by simp)
        (λhle=>⟨rfl,rfl,hz,⟨by simp;omega,hgm⟩,λ_=>⟨hi.hB,λo=>hi.immLt (cg _),_,e,heap_alloc_new w.drew _,by
         simp only[fe,hosz,hnsz,size_zeroCells,hzs,helen,<-de,cd]
         exact ff _ (by omega),λi e he=>by
          have := IV (C:=C) (z:=Ae P t) (rest:=fj zv.cells (cap-(n+ys.length))) hosz hnsz hosrc.2.2.2 hsrc.2.2.2 i e he
          simpa using this.mono hle⟩⟩) (cg _) hlt
       refine ⟨_,_,_,hrun,hput.1,hput.2,.ref _ _ _ _ _ rfl (.inl rfl) (λL' hL'=>?_) (λL' hL' _=>?_)⟩
       .simp [fp]at hL';subst hL';simp
       .simp [fp]at hL';subst hL'
        exact ⟨some ⟨w.heap.size,0,none⟩,by simp,by simp;omega,by simp⟩
   .cases h
 .cases h
end
section
variable {P:Program} {w:World} {C:Ctx} {st:Store}
theorem WE {v:Value} {z:Nat} (hz:0<z) (hl:(Bn v).cells.length=z):v.cells.size=z/\CellsAt C v.cells 0 z (Bn v) :=
 (CH v).cellsAt hz hl
theorem bR {zc:Array Value} {n k:Nat} (hk:k<n):(madeCells zc n).getD k undef=zc[k % zc.size]! := by
 simp [madeCells,bm,hk]
theorem On {v:Value} {z n:Nat} (hz:0<z) (hl:(Bn v).cells.length=z) :
  ∀ i e,(ba n (Bn v))[i]?=some e->CellsAt C (madeCells v.cells (n*z)) (i*z) z e:=by
 obtain ⟨h1,h2,h3,h4⟩:=WE (C:=C) hz hl
 intro i e he
 have hi:i<n:=by have:=(ab.1 he).1;simpa using this
 have : e=Bn v:=by
  rw [fq,if_pos hi]at he;exact (c7 he).symm
 subst this
 refine ⟨h2,h3,λj c hj=>?_⟩
 have hj':j<z:=by have:=(ab.1 hj).1;omega
 have hb:=Bm (z:=z) hi (cg _)
 rw [bR (by omega),h1,show (i*z+j) % z=j by rw[Nat.mul_comm,Nat.mul_add_mod];exact Nat.mod_eq_of_lt hj']
 have := h4 j c hj
 simpa [bm,show j<v.cells.size by omega,getElem!_def]using this
theorem WG (hi:Inv C st w) {t:TypeId} {n m:Int} (h0:0<=n) (h1:n<=m) (h2:m<=4294967296) (hz:0<Ae P t) :
  ∃ v w' C',(Instr.makeSlice t (.int .i64 n) (.int .i64 m)).run P w=.ok v w'/\C.le C'/\Inv C' (st.new (.arr 0 (Ae P t) (ba n.toNat (Az P (BO P t))))) w'/\VR C' v (.ref st.next 0 0 n.toNat) /\
   (∀ id g z0 es0,st.obj id=some (.arr g z0 es0)->∃C',C.le C'/\Inv C' (st.set id (.arr (g+1) (Ae P t) (ba n.toNat (Az P (BO P t))))) w'/\VR C' v (.ref id (g+1) 0 n.toNat)) /\
   (∃ C',C.le C'/\Inv C' st w'/\VR C' v (.lits (Ae P t) (ba n.toNat (Az P (BO P t))))):=by
 obtain ⟨e,i,zv,he,hin,hzv,hsz,hz16,hby,hzs,hzc,hcell,hel,hz0⟩:=BC (t:=t) rfl hz
 have hb:(i.bytes:Int)*m<=281474976710656:=by
  have : (i.bytes:Int)*m<=65536*4294967296:=Int.mul_le_mul (by omega) h2 (by omega) (by omega)
  omega
 have hrun:=run_make (P:=P) w t e i zv he hin hzv .i64 .i64 n m h0 h1 hb (by omega)
 rw [hel,hz0]
 rw [hsz]at hrun
 have hc:=On (C:=C) (v:=zv) (n:=m.toNat) hz hzc
 have hel':∀(i:Nat) (e:PV),(ba n.toNat (Bn zv))[i]?=some e->CellsAt C (madeCells zv.cells (m.toNat*Ae P t)) (i*Ae P t) (Ae P t) e :=
  (λi e he=>hc i e (by
   rw [fq]at he ⊢
   split at he
   .rw [if_pos (by omega)];exact he
   .cases he))
 obtain ⟨C',a,b,c,d⟩:=hi.newArr (T:=e) (es:=ba n.toNat (Bn zv)) (z:=Ae P t) (cap:=m.toNat) (cs:=madeCells zv.cells (m.toNat*Ae P t)) hz (by simp;omega) (by simp only[maxLen];omega) (by rw[size_madeCells];exact cg _) hel'
 refine ⟨_,_,C',hrun,a,b,fk c d (by omega),λid g z0 es0 ho=>?_,?_⟩
 case refine_2 =>
  obtain ⟨C3,a3,b3,c3⟩:=hi.lits (T:=e) (l:=ba n.toNat (Bn zv)) (z:=Ae P t) (cap:=m.toNat) (cs:=madeCells zv.cells (m.toNat*Ae P t)) hz (by simp;omega) (by simp only[maxLen];omega) (by rw[size_madeCells];exact cg _) hel'
  rw [ft]at c3
  exact ⟨C3,a3,b3,c3⟩
 obtain ⟨C2,a2,b2,c2,d2⟩:=hi.reNew ho (T:=e) (es:=ba n.toNat (Bn zv)) (z:=Ae P t) (cap:=m.toNat) (cs:=madeCells zv.cells (m.toNat*Ae P t)) hz (by simp;omega) (by simp only[maxLen];omega) (by rw[size_madeCells];exact cg _) hel'
 exact ⟨C2,a2,b2,VR.newRefG c2 d2 (by omega)⟩
def VRL (C:Ctx) (cs:Array Value) (l:List PV):Prop:=cs.size=l.length/\(∀c∈l,c.isCell=true)/\∀i p,l[i]?=some p->VR C (cs.getD i undef) p
theorem Zd (off:Nat):∀(l:List Value) (n:Nat) (cells:Array Value),off+n+l.length<=cells.size ->
  ((l.zipIdx n).foldl (λcs (p:Value×Nat)=>cs.setIfInBounds (off+p.2) p.1) cells).size=cells.size /\
  ∀ k,((l.zipIdx n).foldl (λcs (p:Value×Nat)=>cs.setIfInBounds (off+p.2) p.1) cells).getD k undef=if off+n<=k/\k<off+n+l.length then l.getD (k-(off+n)) undef else cells.getD k undef
 | [],n,cells,h=>⟨rfl,λk=>by rw[if_neg (by simp)];rfl⟩
 | v::l,n,cells,h=>by
  have ih:=Zd off l (n+1) (cells.setIfInBounds (off+n) v) (by simp at h ⊢;omega)
  simp only[List.zipIdx_cons,List.foldl_cons]
  refine ⟨by rw[ih.1];simp,λk=>?_⟩
  rw [ih.2 k]
  simp only[List.length_cons]at h ⊢
  by_cases h1:off+(n+1)<=k/\k<off+(n+1)+l.length
  .rw [if_pos h1,if_pos (by omega)]
   rw [show k-(off+n)=(k-(off+(n+1)))+1 by omega];simp
  .rw [if_neg h1]
   by_cases h2:k=off+n
   .subst h2
    rw [if_pos (by omega)]
    simp [bm,show off+n<cells.size by omega]
   .rw [if_neg (by omega)]
    simp only[fd,fw (λe=>h2 e.symm)]
theorem T8 {cells:Array Value} {v:Value} {off:Nat} (h:off+v.cells.size<=cells.size) :
  (v.cells.zipIdx.foldl (λcs (c,j)=>cs.setIfInBounds (off+j) c) cells).size=cells.size /\
  ∀ k,(v.cells.zipIdx.foldl (λcs (c,j)=>cs.setIfInBounds (off+j) c) cells).getD k undef=if off<=k/\k<off+v.cells.size then v.cells.getD (k-off) undef else cells.getD k undef:=by
 have := Zd off v.cells.toList 0 cells (by simpa using h)
 have e:v.cells.zipIdx.foldl (λcs (c,j)=>cs.setIfInBounds (off+j) c) cells=(v.cells.toList.zipIdx 0).foldl (λcs (p:Value×Nat)=>cs.setIfInBounds (off+p.2) p.1) cells:=by
  rw [<-Array.foldl_toList,Array.toList_zipIdx]
 rw [e]
 refine ⟨this.1,λk=>?_⟩
 rw [this.2 k,fm,cy,Np]
theorem Kp {place place':Nat->Option (Nat×Nat)} (hp:∀i q,place i=some q->place' i=some q):∀(parts:List (Nat×Value)) (pp:List (Nat×PV)) (cs:Array Value) (l l':List PV),
  parts.length = pp.length->(∀(k i:Nat) (v:Value) (j:Nat) (p:PV),parts[k]?=some (i,v)->pp[k]?=some (j,p)->i=j/\VR C v p)->VRL C cs l->FC place l pp=some l'->∃cs',fx place' cs parts=some cs'/\VRL C cs' l'
 | [],[],cs,l,l',_,_,hl,h=>by simp[FC]at h;subst h;exact⟨cs,rfl,hl⟩
 | (i, v)::parts,(j,p)::pp,cs,l,l',hlen,hv,hl,h=>by
  obtain ⟨rfl,hvp⟩:=hv 0 i v j p rfl rfl
  unfold FC at h
  split at h
  .cases h
  .rename_i off size hpl
   split at h
   .rename_i hc
    obtain ⟨h1,h2,h3⟩:=hc
    obtain ⟨h4,h5,h6,h7⟩:=hvp.cellsAt h3 h1
    obtain ⟨hl1,hl2,hl3⟩:=hl
    have hsz:off+v.cells.size<=cs.size:=by omega
    obtain ⟨f1,f2⟩:=T8 (cells:=cs) hsz
    have hl':VRL C (v.cells.zipIdx.foldl (λcs (c,j)=>cs.setIfInBounds (off+j) c) cs) (DJ l off p.cells):=by
     have hs:off+p.cells.length<=l.length:=by omega
     refine ⟨by rw[f1,GJ hs,hl1],λc hc=>?_,λk q hk=>?_⟩
     .obtain ⟨k,hk⟩:=bt.1 hc
      rw [Ep hs]at hk
      split at hk
      .exact h6 _ (ac hk)
      .exact hl2 _ (ac hk)
     .rw [Ep hs]at hk
      rw [f2 k]
      split at hk
      .rw [if_pos (by omega)]
       have := h7 _ q hk
       simpa using this
      .rw [if_neg (by omega)];exact hl3 k q hk
    obtain ⟨cs',g1,g2⟩:=Kp hp parts pp _ _ l' (by simpa using hlen) (λk i v j p h1 h2=>hv (k+1) i v j p h1 h2) hl' h
    refine ⟨cs',?_,g2⟩
    rw [fx,hp _ _ hpl]
    simp only[h4]
    rw [if_neg (by simp;omega)]
    exact g1
   .cases h
 | [],_::_,_,_,_,h,_,_,_=>by simp at h
 | _::_,[],_,_,_,h,_,_,_=>by simp at h
theorem T9 {t:TypeId} {parts:Array (Nat×Value)} {pp:List (Nat×PV)} (hlen:parts.size=pp.length) (hv:∀(k i:Nat) (v:Value) (j:Nat) (p:PV),parts.toList[k]?=some (i,v)->pp[k]?=some (j,p)->i=j/\VR C v p)
  {q : PV} (h:Mm P t pp=some q):∃v,(Instr.build t parts).run P w=.ok v w/\VR C v q:=by
 unfold Mm at h
 split at h
 .rename_i hb
  unfold B3 at hb
  simp only[fy]at hb
  obtain ⟨hag,hb⟩:=hb
  obtain ⟨i,zv,l0,hi,hzv,hz0,hl0⟩:∃i zv l0,P.info? t=some i/\i.zero=some zv/\Az P t=Bn zv/\Bn zv=.agg l0:=by
   unfold Az at hag ⊢
   cases hi:P.info? t with
   | none=>simp[hi,fz]at hag
   | some i =>
    cases hz:i.zero with
    | none=>simp[hi,hz,fz]at hag
    | some zv =>
     simp only[hi,hz,aw]at hag ⊢
     cases hc:Bn zv <;> simp[hc,fz]at hag
     exact ⟨i,zv,_,rfl,hz,hc.symm▸rfl,hc⟩
  have hzr:(zeroValue t).run P w=.ok zv w:=by simp[zeroValue,typeInfo,hi,hzv]
  have hvz:=CH (C:=C) zv
  rw [hl0]at hvz
  obtain ⟨cs,rfl,hn,hcc,hcv⟩:=hvz.agg_get
  have hl:VRL C cs l0:=⟨hn,hcc,λi p hi=>(hcv i p hi).2⟩
  rw [hz0,hl0]at h
  have hps:parts.toList.length=pp.length:=by simpa using hlen
  split at h
  .rename_i n z ha
   obtain ⟨e,he,hez⟩:=Gs ha
   rw [he]at hb
   obtain ⟨ie,hie⟩:=aa.1 hb
   simp only[az]at h
   obtain ⟨l',hf,rfl⟩:=h
   obtain ⟨cs',h1,h2⟩:=Kp (place':=λi=>some (i*z,z)) (λ_ _ h=>h) _ _ _ _ _ hps hv hl hf
   refine ⟨.agg cs',?_,.agg _ _ h2.1 h2.2.1 h2.2.2⟩
   have hsz:ie.size=z:=by rw[<-hez];simp[bc,hie]
   refine run_build w t parts cs' ?_
   simp [f9,hi,he,hzv,hie,ae,hsz,h1]
  .rename_i ha
   split at hb
   .rename_i fs hfs
    simp only[az]at h
    obtain ⟨l',hf,rfl⟩:=h
    have hall:=ga.1 hb
    have hplaces:∃places:List (Nat×Nat),fs.toList.mapM (λf=>(P.info? f.type).map λi=>(f.offset,i.size))=some places/\∀(k:Nat) (f:Field),fs.toList[k]?=some f->places[k]?=some (f.offset,P.cellsOf f.type):=by
     clear hf hb hfs
     generalize fs.toList=l at hall ⊢
     induction l with
     | nil=>exact⟨[],rfl,by intro k f h;simp at h⟩
     | cons f l ih =>
      obtain ⟨pl,h1,h2⟩:=ih (λx hx=>hall x (by simp[hx]))
      obtain ⟨fi,hfi⟩:=aa.1 (hall f (by simp))
      refine ⟨(f.offset,fi.size)::pl,by simp[List.mapM_cons,hfi,h1],λk g hk=>?_⟩
      cases k with
      | zero=>simp at hk;subst hk;simp[bc,hfi]
      | succ k=>simpa using h2 k g (by simpa using hk)
    obtain ⟨places,hpl,hpk⟩:=hplaces
    obtain ⟨cs',h1,h2⟩:=Kp (place':=λi=>places.toArray[i]?) (λi q hq=>by
     simp only[az]at hq
     obtain ⟨⟨o,z,u⟩,hf2,rfl⟩:=hq
     obtain ⟨fs',x,g1,g2,g3,g4,g5⟩:=IT hf2
     rw [hfs]at g1;cases g1
     have := hpk i x (by rw[Array.getElem?_toList];exact g2)
     simp [this,g3,g4]) _ _ _ _ _ hps hv hl hf
    refine ⟨.agg cs',?_,.agg _ _ h2.1 h2.2.1 h2.2.2⟩
    refine run_build w t parts cs' ?_
    simp only[f9,hi,hfs,hzv,hpl,ae]
    exact h1
   .rename_i n e he
    exfalso
    simp [BB,he]at ha
   .cases hb
 .cases h
theorem Nr {z:Nat} (hz:0<z) {place:Nat->Option (Nat×Nat)} (hp:∀i,place i=some (i*z,z)):∀(parts:List (Nat×Value)) (pp:List (Nat×PV)) (cs:Array Value) (l l':List PV),
  parts.length = pp.length->(∀(k i:Nat) (v:Value) (j:Nat) (p:PV),parts[k]?=some (i,v)->pp[k]?=some (j,p)->i=j/\VR C v p)->l.length*z<=cs.size->(∀i e,l[i]?=some e->CellsAt C cs (i*z) z e) ->
  CF z l pp=some l'->∃cs',fx place cs parts=some cs'/\cs'.size=cs.size/\l'.length=l.length/\∀i e,l'[i]?=some e->CellsAt C cs' (i*z) z e
 | [],[],cs,l,l',_,_,hs,hl,h=>by simp[CF]at h;subst h;exact⟨cs,rfl,rfl,rfl,hl⟩
 | (i,v)::parts,(j,p)::pp,cs,l,l',hlen,hv,hs,hl,h=>by
  obtain ⟨rfl,hvp⟩:=hv 0 i v j p rfl rfl
  unfold CF at h
  split at h
  .rename_i hc
   obtain ⟨h1,h2⟩:=hc
   obtain ⟨h4,h5,h6,h7⟩:=hvp.cellsAt hz h2
   have hmb:=Bm (z:=z) h1 (cg _)
   have hsz:i*z+v.cells.size<=cs.size:=by omega
   obtain ⟨f1,f2⟩:=T8 (cells:=cs) hsz
   obtain ⟨cs',g1,g2,g3,g4⟩:=Nr hz hp parts pp (v.cells.zipIdx.foldl (λcs (c,j)=>cs.setIfInBounds (i*z+j) c) cs) (l.set i p) l' (by simpa using hlen) (λk i v j p h1 h2=>hv (k+1) i v j p h1 h2) (by rw[f1];simpa using hs)
    (λk e hk=>by
     by_cases hik:k=i
     .subst hik
      rw [gb h1]at hk
      cases hk
      refine ⟨h5,h6,λj c hj=>?_⟩
      have hj':j<z:=by have:=(ab.1 hj).1;omega
      rw [f2,if_pos (by omega),show k*z+j-k*z=j by omega]
      have := h7 j c hj
      rw [cd]at this;exact this
     .rw [gc (λe=>hik e.symm)]at hk
      refine (hl k e hk).congr (λj hj=>?_)
      rw [f2]
      refine if_neg (λhr=>?_)
      rcases bh k i with h12 | h12
      .have := Bm (z:=z) h12 (cg _);omega
      .have := Bm (z:=z) (show i<k by omega) (cg _);omega) h
   refine ⟨cs',?_,by rw[g2,f1],by simpa using g3,g4⟩
   rw [fx,hp]
   simp only[h4]
   rw [if_neg (by simp;omega)]
   exact g1
  .cases h
 | [],_::_,_,_,_,h,_,_,_,_=>by simp at h
 | _::_,[],_,_,_,h,_,_,_,_=>by simp at h
theorem Oo {t e:TypeId} {i:TypeInfo} {zv:Value} {z len:Nat} (he:P.underlying t=some (.slice e)) (hi:P.info? e=some i) (hz:i.zero=some zv) (hsz:i.size=z) (hzs:zv.cells.size=z)
  (hmax : len*z<=16777216) {parts:Array (Nat×Value)} {cs':Array Value} (hf:fx (λi=>some (i*z,z)) (madeCells zv.cells (len*z)) parts.toList=some cs') :
  (gd t len parts).run P w=.ok (.slice (some ⟨w.heap.size,0,none⟩) len len) (w.alloc (.cells cs' e)):=by
 have hm:¬(16777216<len*z):=by omega
 have hso:(bd e).run P w=.ok z w:=by simp[bd,typeInfo,hi,hsz]
 by_cases h0:len*z=0
 .have e1:(ge (len*z)).map ((#[]:Array Value)[· % (#[]:Array Value).size]!)=madeCells zv.cells (len*z):=by
   rw [h0];simp[madeCells,Array.range_zero']
  rw [<-e1]at hf
  simp only[gd,bf,run_underlying he,bg,hso]
  rw [if_neg (by omega)]
  simp only[h0,if_true,bf,c8,bg]
  rw [h0]at hf
  simp only[hf]
  simp [newRow]
 .simp only[gd,bf,run_underlying he,bg,hso]
  rw [if_neg (by omega)]
  simp only[h0,if_false,bf,c8,bg]
  have hzr:(zeroValue e).run P w=.ok zv w:=by simp[zeroValue,typeInfo,hi,hz]
  simp only[hzr]
  have : fx (λi=>some (i*z,z)) ((ge (len*z)).map (zv.cells[· % zv.cells.size]!)) parts.toList=some cs':=hf
  simp only[this]
  simp [newRow]
theorem Mo (hi:Inv C st w) {t:TypeId} {len:Nat} {parts:Array (Nat×Value)} {pp:List (Nat×PV)} (hlen:parts.size=pp.length) (hv:∀(k i:Nat) (v:Value) (j:Nat) (p:PV),parts.toList[k]?=some (i,v)->pp[k]?=some (j,p)->i=j/\VR C v p)
  (hz : 0<Ae P t) (hmax:len*Ae P t<=16777216) {l:List PV} (h:CF (Ae P t) (ba len (Az P (BO P t))) pp=some l) :
  ∃ v w',(gd t len parts).run P w=.ok v w'/\(∃C',C.le C'/\Inv C' st w'/\VR C' v (.lits (Ae P t) l)) /\
   (∃ C',C.le C'/\Inv C' (st.new (.arr 0 (Ae P t) l)) w'/\VR C' v (.ref st.next 0 0 len)) /\
   (∀ id g z0 es0,st.obj id=some (.arr g z0 es0)->∃C',C.le C'/\Inv C' (st.set id (.arr (g+1) (Ae P t) l)) w'/\VR C' v (.ref id (g+1) 0 len)):=by
 obtain ⟨e,i,zv,he,hin,hzv,hsz,hz16,hby,hzs,hzc,hcell,hel,hz0⟩:=BC (t:=t) rfl hz
 rw [hel,hz0]at h
 have hps:parts.toList.length=pp.length:=by simpa using hlen
 obtain ⟨cs',h1,h2,h3,h4⟩:=Nr (C:=C) hz (place:=λi=>some (i*Ae P t,Ae P t)) (λ_=>rfl) _ _ (madeCells zv.cells (len*Ae P t)) _ l hps hv (by simp[size_madeCells]) (On hz hzc) h
 simp only[ft,size_madeCells]at h2 h3
 have hlm:len<=maxLen:=by
  have : len*1<=len*Ae P t:=Nat.mul_le_mul_left _ hz
  simp only[maxLen];omega
 refine ⟨_,_,Oo he hin hzv hsz hzs hmax h1,?_,?_,λid g z0 es0 ho=>?_⟩
 .obtain ⟨C',a,b,c⟩:=hi.lits (T:=e) (cap:=len) hz (by omega) hlm (by omega) h4
  rw [h3]at c
  exact ⟨C',a,b,c⟩
 .obtain ⟨C',a,b,c,d⟩:=hi.newArr (T:=e) (cap:=len) hz (by omega) hlm (by omega) h4
  exact ⟨C',a,b,fk c d (cg _)⟩
 .obtain ⟨C',a,b,c,d⟩:=hi.reNew ho (T:=e) (cap:=len) hz (by omega) hlm (by omega) h4
  exact ⟨C',a,b,VR.newRefG c d (cg _)⟩
theorem Cr {v:Value} {k:IntKind} {n:Int} (h:VR C v (.int k n)):v=.int k n:=by cases h;rfl
theorem Du {v:Value} {b:Bool} (h:VR C v (.bool b)):v=.bool b:=by cases h;rfl
theorem R7 {v:Value} {s:List UInt8} (h:VR C v (.str s)):∃b:ByteArray,v=.string b/\s=b.data.toList/\s.length<=maxLen:=by cases h;exact⟨_,rfl,by assumption,by assumption⟩
theorem WH {op:BinOp} {k:IntKind} {a b:Int} {p:PV} (hop:op≠.shl/\op≠.shr) (h:IC op k a b=some p) {t:TypeId} :
  ∃ v,(binOp op t (.int k a) (.int k b)).run P w=.ok v w/\VR C v p:=by
 have e1:(a==b)=decide (a=b):=by by_cases h:a=b <;> simp[h]
 have e2:(a != b)=decide (¬a=b):=by by_cases h:a=b <;> simp[h]
 cases op <;> simp only[IC,Cw,bp,dz]at h <;> try (first | (cases h;done) | (exact absurd rfl hop.1) | (exact absurd rfl hop.2))
 case quo =>
  split at h
  .cases h
  .rename_i hb;simp only[bp]at h;subst h;exact⟨_,by simp[binOp,Op.intDiv,hb],.int _ _⟩
 case rem =>
  split at h
  .cases h
  .rename_i hb;simp only[bp]at h;subst h;exact⟨_,by simp[binOp,Op.intDiv,hb],.int _ _⟩
 case eql=>subst h;exact⟨.bool (decide (a=b)),by simp only[binOp,<-e1];simp[gg],.bool _⟩
 case neq=>subst h;exact⟨.bool (decide (¬a=b)),by simp only[binOp,<-e2];simp[gg],.bool _⟩
 all_goals (subst h;refine⟨_,?_,by constructor⟩;simp[binOp,Op.intArith,Op.intBits,gg])
end
theorem Cl {l:List PV} (h:AU l=true):∀p∈l,p.pur=true:=by
 induction l with
 | nil=>simp
 | cons a l ih =>
  simp only[AU,fy]at h
  intro p hp
  rcases List.mem_cons.1 hp with rfl | hp
  .exact h.1
  .exact ih h.2 p hp
theorem Ua {l:List PV} (h:∀p∈l,p.pur=true):AU l=true:=by
 induction l with
 | nil=>rfl
 | cons a l ih=>simp only[AU,fy];exact⟨h a (by simp),ih λp hp=>h p (by simp[hp])⟩
theorem Mp {α:Type} {f:α->PV} {l:List α} (h:∀x,(f x).pur=true):AU (l.map f)=true :=
 Ua λp hp=>by obtain⟨x,_,rfl⟩:=List.mem_map.1 hp;exact h x
theorem bS {e:PV} (h:e.pur=true):∀c∈e.cells,c.pur=true:=by
 cases e <;> first
  | (simp[gi];done)
  | (simp only[gi,List.mem_singleton,forall_eq];exact h)
  | (exact Cl h)
theorem VR.pureMono {C C':Ctx} {v:Value} {p:PV} (h:VR C v p) (hle:∀b o u,C.imm b o=some u->C'.imm b o=some u) (hp:p.pur=true):VR C' v p:=by
 have sm:∀ {b o},(C.imm b o).isSome=true->(C'.imm b o).isSome=true/\∀d,(C'.imm b o).getD d=(C.imm b o).getD d:=λ{b o} hs=>by
  obtain ⟨u,hu⟩:=aa.1 hs
  rw [hle _ _ _ hu,hu];exact⟨rfl,λ_=>rfl⟩
 induction h with
 | bad v=>exact .bad v
 | bool b=>exact .bool b
 | int k n=>exact .int k n
 | str s l h hm=>exact .str s l h hm
 | nilp=>exact .nilp
 | ptr=>simp[gj]at hp
 | vptr b o off cells hc hi h ih =>
  simp only[gj]at hp
  have hp:=Cl hp
  refine .vptr b o off cells hc (λj hj=>(sm (hi j hj)).1) (λj c hj=>?_)
  have hlt:j<cells.length:=(ab.1 hj).1
  rw [(sm (hi j hlt)).2]
  exact ih j c hj (hp c (ac hj))
 | nils=>exact .nils
 | lits b o size cap l hcap hmax hsz hl hi h ih =>
  simp only[gj]at hp
  have hp:=Cl hp
  refine .lits b o size cap l hcap hmax hsz hl (λi j a b=>(sm (hi i j a b)).1) (λi j e c he hc=>?_)
  have h1:i<l.length:=(ab.1 he).1
  have h2:j<size:=by
   have :=(hl e (ac he)).1
   have :=(ab.1 hc).1
   omega
  rw [(sm (hi i j h1 h2)).2]
  exact ih i j e c he hc (bS (hp e (ac he)) c (ac hc))
 | lits0 a cap z=>exact .lits0 a cap z
 | ref=>simp[gj]at hp
 | func fn first captured pf pc hf hc h1 h2 ih1 ih2 =>
  simp only[gj,fy]at hp
  exact .func fn first captured pf pc hf hc (λi p hi=>ih1 i p hi (Cl hp.1 p (ac hi))) (λi p hi=>ih2 i p hi (Cl hp.2 p (ac hi)))
 | nilf=>exact .nilf
 | iface t v p h ih=>exact .iface t v p (ih (by simpa [gj]using hp))
 | nili=>exact .nili
 | agg cs l hn hc h ih =>
  simp only[gj]at hp
  exact .agg cs l hn hc λi p hi=>ih i p hi (Cl hp p (ac hi))
 | tuple cs l hn h ih =>
  simp only[gj]at hp
  exact .tuple cs l hn λi p hi=>ih i p hi (Cl hp p (ac hi))
 | nilm=>exact .nilm
 | mref=>simp[gj]at hp
 | iter=>simp[gj]at hp
inductive DR (st:Store):PV->PV->Prop where
 | pure (p:PV) (h:p.pur=true):DR st p p
 | nils (z:Nat):DR st .nils (.lits z [])
 | ref (id gen s n z:Nat) (es l:List PV) (h:st.arr? id gen=some (z,es)) (hn:s+n<=es.length) (hl:l.length=n) (hc:∀(i:Nat) (e q:PV),es[s+i]?=some e->l[i]?=some q->e.cells.length=q.cells.length/\q.isAgg=e.isAgg)
   (hs : ∀(i:Nat) (e q:PV),es[s+i]?=some e->l[i]?=some q->DR st e q):DR st (.ref id gen s n) (.lits z l)
 | agg (cs ds:List PV) (hl:cs.length=ds.length) (hc:∀c∈ds,c.isCell=true) (h:∀(i:Nat) (c d:PV),cs[i]?=some c->ds[i]?=some d->DR st c d):DR st (.agg cs) (.agg ds)
 | tuple (cs ds:List PV) (hl:cs.length=ds.length) (h:∀(i:Nat) (c d:PV),cs[i]?=some c->ds[i]?=some d->DR st c d):DR st (.tuple cs) (.tuple ds)
theorem DR.arr {st:Store} {id gen z n:Nat} {es:List PV} (h:st.arr? id gen=some (z,es)) (hn:n=es.length) (hp:AU es=true):DR st (.ref id gen 0 n) (.lits z es):=by
 subst hn
 refine .ref id gen 0 _ z es es h (by omega) rfl (λi e q he hq=>?_) (λi e q he hq=>?_)
 .rw [cd]at he
  rw [he]at hq;cases hq
  exact ⟨rfl,rfl⟩
 .rw [cd]at he
  rw [he]at hq;cases hq
  exact .pure _ (Cl hp e (ac he))
def base (imm:Nat->Nat->Option Value) (w:World):Ctx:={ imm,loc:=λ_=>none,born:=λ_=>False,B:=w.heap.size,h:=λb=>w.heap[b]?,os:=w.os,out:=w.output,keep:=λ_=>false,caller:=λ_=>false }
def D9 (imm:Nat->Nat->Option Value) (n:Nat) (w':World):Nat->Nat->Option Value:=λb o=>if b<n then imm b o else w'.cell? ⟨b,o,none⟩
theorem DR.sound {C:Ctx} {st:Store} {w:World} (hi:Inv C st w) {imm:Nat->Nat->Option Value} (himm:∀b o u,C.imm b o=some u->imm b o=some u)
  (hobj : ∀id L,C.loc id=some L->0<L.cap->∀o u,w.cell? ⟨L.blk,o,none⟩=some u->imm L.blk o=some u) {p q:PV} (h:DR st p q):∀ {v:Value},VR C v p->VR (base imm w) v q:=by
 induction h with
 | pure p hp=>intro v hv;exact hv.pureMono himm hp
 | nils z=>intro v hv;cases hv;exact .lits0 _ _ _
 | ref id gen s n z es l h hn hl hc hs ih =>
  intro v hv
  obtain ⟨L,hL,hb,hg,hLz,hz,hcap,hat⟩:=hi.arr h
  cases hv with
  | ref _ _ _ _ _ hv hb' hg' hr =>
   obtain ⟨a,rfl,h10,h11⟩:=hr L hL hg.symm
   rcases ao n with h0 | h0
   .have : l = []:=fo (by omega)
    subst this;subst h0;exact .lits0 _ _ _
   .obtain ⟨_,_,cs,T,h7,h8,h9⟩:=hat (by omega)
    have ha:=h11 (by omega)
    subst ha
    rw [hLz]at h8 h9 ⊢
    rw [<-hl]
    have get:∀i q,l[i]?=some q->∃e,es[s+i]?=some e:=λi q hq=>by
     have : i<l.length:=(ab.1 hq).1
     exact ⟨_,Dg (by omega)⟩
    have cell:∀i j,i<l.length->j<z->imm L.blk (L.off+s*z+i*z+j)=some (cs.getD (L.off+(s+i)*z+j) undef):=λi j hi' hj=>by
     have hmb:=Bm (z:=z) (show s+i<es.length by omega) hcap
     rw [de]at hmb ⊢
     have hlt:L.off+(s*z+i*z)+j<cs.size:=by omega
     refine hobj id L hL (by omega) _ _ ?_
     rw [FE h7,show L.off+s*z+i*z+j=L.off+(s*z+i*z)+j by omega,bz hlt]
     simp [bm,hlt]
    have qc:∀i e q,es[s+i]?=some e->l[i]?=some q->q.cells.length=z/\(∀c∈q.cells,c.isCell=true)/\∀j c,q.cells[j]?=some c->VR (base imm w) (cs.getD (L.off+(s+i)*z+j) undef) c:=by
     intro i e q he hq
     obtain ⟨g1,g2,g3⟩:=h9 _ e he
     obtain ⟨hcl,hag⟩:=hc i e q he hq
     have ihq:=λ{v}=>@ih i e q he hq v
     -- an element by its cells
     cases hisag:e.isAgg with
     | true =>
      cases e <;> simp[fz]at hisag
      rename_i ecs
      have hv:VR C (.agg (cs.extract (L.off+(s+i)*z) (L.off+(s+i)*z+z))) (.agg ecs):=by
       have hlt:s+i<es.length:=(ab.1 he).1
       have hmb:=Bm (z:=z) hlt hcap
       have g1':ecs.length=z:=g1
       refine .agg _ _ (by simp;omega) (λc hc=>g2 c hc) (λj c hj=>?_)
       have hjz:j<z:=by have:=(ab.1 hj).1;omega
       have := g3 j c hj
       have e1:(cs.extract (L.off+(s+i)*z) (L.off+(s+i)*z+z)).getD j undef=cs.getD (L.off+(s+i)*z+j) undef:=by
        have hh1:j<(cs.extract (L.off+(s+i)*z) (L.off+(s+i)*z+z)).size:=by simp;omega
        have hh2:L.off+(s+i)*z+j<cs.size:=by omega
        simp only[bm,hh1,hh2,dif_pos]
        simp [gk]
       rw [e1];exact this
      have hv2:=ihq hv
      cases q <;> simp[fz]at hag
      rename_i qcs
      obtain ⟨_,hvv,k1,k2,k3⟩:=hv2.agg_get
      cases hvv
      refine ⟨by rw[<-hcl];exact g1,k2,λj c hj=>?_⟩
      have :=(k3 j c hj).2
      have hlt:s+i<es.length:=(ab.1 he).1
      have hmb:=Bm (z:=z) hlt hcap
      have hjz:j<z:=by
       have h5:j<qcs.length:=(ab.1 hj).1
       have h6:ecs.length=qcs.length:=hcl
       have h7':ecs.length=z:=g1
       omega
      have e1:(cs.extract (L.off+(s+i)*z) (L.off+(s+i)*z+z)).getD j undef=cs.getD (L.off+(s+i)*z+j) undef:=by
       have hh1:j<(cs.extract (L.off+(s+i)*z) (L.off+(s+i)*z+z)).size:=by simp;omega
       have hh2:L.off+(s+i)*z+j<cs.size:=by omega
       simp only[bm,hh1,hh2,dif_pos]
       simp [gk]
      rw [e1]at this;exact this
     | false =>
      have hone:e.cells = [e]:=by
       cases e <;> first | rfl | (simp[fz]at hisag;done) | (simp[gi]at g1;omega)
      have hq0:q.isAgg=false:=by rw[hag];exact hisag
      have hqone:q.cells = [q]:=by
       cases q <;> first | rfl | (simp[fz]at hq0;done) | (rw[hone]at hcl;simp[gi]at hcl;done)
      have g1':z=1:=by rw[<-g1,hone];rfl
      subst g1'
      have hv2:=ihq (g3 0 e (by rw[hone];rfl))
      refine ⟨by rw[hqone];rfl,λc hc=>?_,λj c hj=>?_⟩
      .rw [hqone]at hc;simp at hc;subst hc
       cases c <;> first | rfl | (simp[gi]at hqone;done) | (simp[fz]at hq0;done)
      .rw [hqone]at hj
       cases j with
       | zero=>simp at hj;subst hj;exact hv2
       | succ j=>simp at hj
    refine .lits L.blk (L.off+s*z) z _ l (by omega) (by have:=hi.arrMax h hL;omega) hz (λq hq=>?_) (λi j hi' hj=>by show (imm _ _).isSome=true;rw[cell i j hi' hj];rfl) (λi j q c hq hc=>?_)
    .obtain ⟨i,hi'⟩:=bt.1 hq
     obtain ⟨e,he⟩:=get i q hi'
     exact ⟨(qc i e q he hi').1,(qc i e q he hi').2.1⟩
    .obtain ⟨e,he⟩:=get i q hq
     obtain ⟨g1,_,g3⟩:=qc i e q he hq
     have hj:j<z:=by have:=(ab.1 hc).1;omega
     have hi':i<l.length:=(ab.1 hq).1
     show VR _ ((imm _ _).getD undef) c
     rw [cell i j hi' hj]
     exact g3 j c hc
 | agg cs ds hl hc h ih =>
  intro v hv
  obtain ⟨xs,rfl,h1,h2,h3⟩:=hv.agg_get
  refine .agg xs ds (by omega) hc (λi d hd=>?_)
  have hi':i<cs.length:=by have:=(ab.1 hd).1;omega
  exact ih i _ d (gl hi') hd (h3 i _ (gl hi')).2
 | tuple cs ds hl h ih =>
  intro v hv
  cases hv with
  | tuple xs _ hn hv =>
   refine .tuple xs ds (by omega) (λi d hd=>?_)
   have hi':i<cs.length:=by have:=(ab.1 hd).1;omega
   exact ih i _ d (gl hi') hd (hv i _ (gl hi'))
section
variable {st:Store} {p q:PV}
theorem WI (h:rdC st p=some q):DR st p q:=by
 unfold rdC at h
 split at h
 .rename_i id gen s n
  simp only[au]at h
  obtain ⟨⟨z,es⟩,hes,h⟩:=h
  split at h
  .rename_i hc
   obtain ⟨h1,h2⟩:=hc
   have h1:s+n<=es.length:=h1
   simp only[bp]at h;subst h
   have key:∀(i:Nat) (e q:PV),es[s+i]?=some e->((es.drop s).take n)[i]?=some q->e=q:=by
    intro i e q he hq
    simp only[bu]at hq
    split at hq
    .rw [bv,he]at hq;exact c7 hq
    .cases hq
   refine .ref id gen s n z es _ hes h1 (by simp;omega) (λi e q he hq=>?_) (λi e q he hq=>?_)
   .rw [key i e q he hq];exact⟨rfl,rfl⟩
   .rw [<-key i e q he hq];exact .pure _ (Cl h2 e (ac he))
  .cases h
 .split at h
  .simp only[bp]at h;subst h;exact .pure _ (by assumption)
  .cases h
theorem Ze {st:Store}:∀ {l ds:List PV},rdL st l=some ds->l.length=ds.length/\∀(i:Nat) (c d:PV),l[i]?=some c->ds[i]?=some d->rdC st c=some d
 | [],ds,h=>by simp only[rdL,bp]at h;subst h;exact⟨rfl,by intro i c d h;simp at h⟩
 | c::l,ds,h=>by
  simp only[rdL,au,az]at h
  obtain ⟨d,hd,ds',hds,rfl⟩:=h
  obtain ⟨h1,h2⟩:=Ze hds
  refine ⟨by simp[h1],λi c' d' hc hd'=>?_⟩
  cases i with
  | zero=>simp at hc hd';subst hc;subst hd';exact hd
  | succ i=>exact h2 i c' d' (by simpa using hc) (by simpa using hd')
theorem R8 (h:rdP st p=some q):DR st p q:=by
 unfold rdP at h
 split at h
 .simp only[au]at h
  obtain ⟨ds,hds,h⟩:=h
  split at h
  .rename_i hc
   simp only[bp]at h;subst h
   obtain ⟨h1,h2⟩:=Ze hds
   exact .agg _ _ h1 (λc hc'=>(ga.1 hc) c hc') λi c d hc hd=>WI (h2 i c d hc hd)
  .cases h
 .exact WI h
theorem Mq {st:Store}:∀ {l ds:List PV},Ce st l=some ds->l.length=ds.length/\∀(i:Nat) (c d:PV),l[i]?=some c->ds[i]?=some d->DR st c d
 | [],ds,h=>by simp only[Ce,bp]at h;subst h;exact⟨rfl,by intro i c d h;simp at h⟩
 | c::l,ds,h=>by
  simp only[Ce,au,az]at h
  obtain ⟨d,hd,ds',hds,rfl⟩:=h
  obtain ⟨h1,h2⟩:=Mq hds
  refine ⟨by simp[h1],λi c' d' hc hd'=>?_⟩
  cases i with
  | zero=>simp at hc hd';subst hc;subst hd';exact R8 hd
  | succ i=>exact h2 i c' d' (by simpa using hc) (by simpa using hd')
theorem Zf (h:rdC st p=some q):q.pur=true:=by
 unfold rdC at h
 split at h
 .simp only[au]at h
  obtain ⟨a,_,h2⟩:=h
  split at h2
  .rename_i hc
   cases h2
   simp only[gj]
   exact Ua λx hx=>Cl hc.2 x (List.mem_of_mem_drop (dh hx))
  .cases h2
 .split at h
  .rename_i hp;cases h;exact hp
  .cases h
theorem Zg {st:Store}:∀ {l ds:List PV},rdL st l=some ds->AU ds=true
 | [],ds,h=>by simp only[rdL,bp]at h;subst h;rfl
 | c::l,ds,h=>by
  simp only[rdL,au,az]at h
  obtain ⟨d,hd,ds',hds,rfl⟩:=h
  simp only[AU,Zf hd,Zg hds,gm]
theorem yF (h:rdP st p=some q):q.pur=true:=by
 unfold rdP at h
 split at h
 .simp only[au]at h
  obtain ⟨ds,h1,h2⟩:=h
  split at h2
  .cases h2;simp only[gj];exact Zg h1
  .cases h2
 .exact Zf h
end
theorem QU {st:Store}:∀ {l ds:List PV},Ce st l=some ds->AU ds=true
 | [],ds,h=>by simp only[Ce,bp]at h;subst h;rfl
 | c::l,ds,h=>by
  simp only[Ce,au,az]at h
  obtain ⟨d,hd,ds',hds,rfl⟩:=h
  simp only[AU,yF hd,QU hds,gm]
theorem VR.ofBase {imm:Nat->Nat->Option Value} {w:World} {C':Ctx} (hle:∀b o u,imm b o=some u->C'.imm b o=some u) {v:Value} {p:PV} (h:VR (base imm w) v p):VR C' v p:=by
 have sm:∀ {b o},(imm b o).isSome=true->(C'.imm b o).isSome=true/\∀d,(C'.imm b o).getD d=(imm b o).getD d:=λ{b o} hs=>by
  obtain ⟨u,hu⟩:=aa.1 hs
  rw [hle _ _ _ hu,hu];exact⟨rfl,λ_=>rfl⟩
 induction h with
 | bad v=>exact .bad v
 | bool b=>exact .bool b
 | int k n=>exact .int k n
 | str s l h hm=>exact .str s l h hm
 | nilp=>exact .nilp
 | ptr v id g i o hv hb=>exact hb.elim
 | vptr b o off cells hc hi h ih =>
  refine .vptr b o off cells hc (λj hj=>(sm (hi j hj)).1) (λj c hj=>?_)
  have hlt:j<cells.length:=(ab.1 hj).1
  rw [(sm (hi j hlt)).2]
  exact ih j c hj
 | nils=>exact .nils
 | lits b o size cap l hcap hmax hsz hl hi h ih =>
  refine .lits b o size cap l hcap hmax hsz hl (λi j a b=>(sm (hi i j a b)).1) (λi j e c he hc=>?_)
  have h1:i<l.length:=(ab.1 he).1
  have h2:j<size:=by
   have :=(hl e (ac he)).1
   have :=(ab.1 hc).1
   omega
  rw [(sm (hi i j h1 h2)).2]
  exact ih i j e c he hc
 | lits0 a cap z=>exact .lits0 a cap z
 | ref v id g s n hv hb=>exact hb.elim
 | func fn first captured pf pc hf hc h1 h2 ih1 ih2=>exact .func fn first captured pf pc hf hc ih1 ih2
 | nilf=>exact .nilf
 | iface t v p h ih=>exact .iface t v p ih
 | nili=>exact .nili
 | agg cs l hn hc h ih=>exact .agg cs l hn hc ih
 | tuple cs l hn h ih=>exact .tuple cs l hn ih
 | nilm=>exact .nilm
 | mref v id g hv hb=>exact hb.elim
 | iter v id g hv hb=>exact hb.elim
theorem VR.nrm1 {C:Ctx} {v:Value} {p:PV} (h:VR C v p) (z:Option Nat):VR C v (nrm1 z p):=by
 unfold Sim.nrm1
 split
 .cases z with
  | none=>exact h
  | some z=>cases h;exact .lits0 _ _ _
 .exact h
theorem Ub {p:PV} (h:p.isCell=true) (z:Option Nat):(nrm1 z p).isCell=true:=by
 unfold nrm1
 split
 .cases z <;> rfl
 .exact h
theorem Oq {m:List (Nat×Nat)}:∀ {i:Nat} {l:List PV} {j:Nat},(K3 m i l)[j]?=(l[j]?).map (nrm1 (m.lookup (i+j)))
 | i,[],j=>by simp[K3]
 | i,c::l,0=>by simp[K3]
 | i,c::l,j+1=>by simp only[K3,List.getElem?_cons_succ,Oq];congr 3;omega
theorem Ns {m:List (Nat×Nat)}:∀ {i:Nat} {l:List PV},(K3 m i l).length=l.length
 | i,[]=>rfl
 | i,c::l=>by simp[K3,Ns]
theorem VR.nrm {C:Ctx} {v:Value} {p:PV} (h:VR C v p) (m:List (Nat×Nat)):VR C v (nrm m p):=by
 unfold Sim.nrm
 split
 .rename_i cs
  cases h with
  | agg vs l hn hc h =>
   refine .agg vs _ (by rw[Ns];exact hn) (λc hc'=>?_) (λi p hp=>?_)
   .obtain ⟨j,hj⟩:=bt.1 hc'
    rw [Oq,az]at hj
    obtain ⟨d,hd,rfl⟩:=hj
    exact Ub (hc d (ac hd)) _
   .rw [Oq,az]at hp
    obtain ⟨d,hd,rfl⟩:=hp
    exact (h i d hd).nrm1 _
 .exact h.nrm1 _
theorem Dv {P:Program}:∀ {ts:List TypeId} {l:List PV},(nrmAll P ts l).length=l.length
 | [],l=>by cases l <;> rfl
 | t::ts,[]=>rfl
 | t::ts,p::l=>by simp[nrmAll,Dv]
theorem VR.nrmAll {P:Program} {C:Ctx}:∀ {ts:List TypeId} {l:List PV} {vals:Nat->Value},(∀(i:Nat) (p:PV),l[i]?=some p->VR C (vals i) p)->∀(i:Nat) (p:PV),(nrmAll P ts l)[i]?=some p->VR C (vals i) p
 | [],l,vals,h=>by cases l <;> exact h
 | t::ts,[],vals,h=>h
 | t::ts,q::l,vals,h=>by
  intro i p hp
  cases i with
  | zero=>simp only[Sim.nrmAll,gp,bp]at hp;subst hp;exact (h 0 q rfl).nrm _
  | succ i=>exact VR.nrmAll (ts:=ts) (l:=l) (vals:=λi=>vals (i+1)) (λj p hj=>h (j+1) p (by simpa using hj)) i p (by simpa [Sim.nrmAll]using hp)
theorem Inv.only {C:Ctx} {st:Store} {w:World} (h:Inv C st w) (ids:List Nat):C.le { C with loc:=λid=>if ids.contains id=true then C.loc id else none }/\Inv { C with loc:=λid=>if ids.contains id=true then C.loc id else none } (st.only ids) w:=by
 have hle:C.le { C with loc:=λid=>if ids.contains id=true then C.loc id else none } :=
  ⟨λ_ _ _ h=>h,λ_ _ _=>rfl,λ_ h=>h,λid _ L' hL=>⟨L',(by
   have hL:(if ids.contains id=true then C.loc id else none)=some L':=hL
   split at hL
   .exact hL
   .cases hL),.inl rfl⟩,rfl,rfl,rfl,rfl,λ_ h=>h,rfl⟩
 refine ⟨hle,?_⟩
 constructor
 .exact h.os
 .exact h.out
 .exact h.hB
 .exact h.old
 .exact h.imm
 .exact h.next
 .intro id hid
  have hid:(if ids.contains id=true then st.obj id else none)=none:=hid
  show (if ids.contains id=true then C.loc id else none)=none
  split at hid
  .rename_i hc;rw[if_pos hc];exact h.none_ id hid
  .rename_i hc;rw[if_neg hc]
 .intro id o hid
  have hid:(if ids.contains id=true then st.obj id else none)=some o:=hid
  split at hid
  .rename_i hc
   obtain ⟨hb,L,hL,hat⟩:=h.obj id o hid
   exact ⟨hb,L,by show (if ids.contains id=true then C.loc id else none)=some L;rw[if_pos hc];exact hL,hat.mono hle (λ_ _ x=>x) λ_=>rfl⟩
  .cases hid
 .intro id id' L L' hne hL hL' hb
  have hL:(if ids.contains id=true then C.loc id else none)=some L:=hL
  have hL':(if ids.contains id'=true then C.loc id' else none)=some L':=hL'
  split at hL
  .split at hL'
   .exact h.sep id id' L L' hne hL hL' hb
   .cases hL'
  .cases hL
 .exact h.keep
open Classical in
def Ctx.closeIn (C:Ctx) (ids:List Nat) (w:World):Ctx :=
 { C with imm:=λb o=>if ∃id L,ids.contains id=true/\C.loc id=some L/\0<L.cap/\L.blk=b then w.cell? ⟨b,o,none⟩else C.imm b o,loc:=λid=>if ids.contains id=true then none else C.loc id }
theorem Inv.without {C:Ctx} {st:Store} {w:World} (h:Inv C st w) (ids:List Nat):C.le (C.closeIn ids w)/\Inv (C.closeIn ids w) (st.without ids) w /\
  (∀ id L,ids.contains id=true->C.loc id=some L->0<L.cap->∀o u,w.cell? ⟨L.blk,o,none⟩=some u->(C.closeIn ids w).imm L.blk o=some u):=by
 have himm:∀b o v,C.imm b o=some v->(C.closeIn ids w).imm b o=some v:=λb o v hv=>by
  unfold Ctx.closeIn
  dsimp only
  split
  .exact h.imm b o v hv
  .exact hv
 have hle:C.le (C.closeIn ids w):=by
  refine ⟨himm,λb o hb=>?_,λ_ h=>h,λid _ L' hL=>⟨L',?_,.inl rfl⟩,rfl,rfl,rfl,rfl,λ_ h=>h,rfl⟩
  .unfold Ctx.closeIn
   dsimp only
   split
   .rename_i hx
    obtain ⟨id,L,hc,hL,hcap,rfl⟩:=hx
    obtain ⟨ob,_,_,hat⟩:=h.live hL
    have :=(hat.own hcap).1
    omega
   .rfl
  .have hL:(if ids.contains id=true then none else C.loc id)=some L':=hL
   split at hL
   .cases hL
   .exact hL
 refine ⟨hle,?_,λid L hc hL hcap o u hu=>?_⟩
 .constructor
  .exact h.os
  .exact h.out
  .exact h.hB
  .exact h.old
  .intro b o v hv
   unfold Ctx.closeIn at hv
   dsimp only at hv
   split at hv
   .exact hv
   .exact h.imm b o v hv
  .exact h.next
  .intro id hid
   have hid:(if ids.contains id=true then none else st.obj id)=none:=hid
   show (if ids.contains id=true then none else C.loc id)=none
   split at hid
   .rename_i hc;rw[if_pos hc]
   .rename_i hc;rw[if_neg hc];exact h.none_ id hid
  .intro id o hid
   have hid:(if ids.contains id=true then none else st.obj id)=some o:=hid
   split at hid
   .cases hid
   .rename_i hc
    obtain ⟨hb,L,hL,hat⟩:=h.obj id o hid
    refine ⟨hb,L,by show (if ids.contains id=true then none else C.loc id)=some L;rw[if_neg hc];exact hL,hat.mono hle (λhcap o ho=>?_) λ_=>rfl⟩
    unfold Ctx.closeIn
    dsimp only
    split
    .rename_i hx
     obtain ⟨id',L',hc',hL',hcap',hb'⟩:=hx
     have hne:id'≠id:=λe=>by subst e;exact hc hc'
     rcases h.sep id' id L' L hne hL' hL hb' with h0 | h0 <;> omega
    .exact ho
  .intro id id' L L' hne hL hL' hb
   have hL:(if ids.contains id=true then none else C.loc id)=some L:=hL
   have hL':(if ids.contains id'=true then none else C.loc id')=some L':=hL'
   split at hL
   .cases hL
   .split at hL'
    .cases hL'
    .exact h.sep id id' L L' hne hL hL' hb
  .exact h.keep
 .unfold Ctx.closeIn
  dsimp only
  rw [if_pos ⟨id,L,hc,hL,hcap,rfl⟩]
  exact hu
section
variable {C:Ctx} {st:Store} {w:World}
theorem VR.freeze (h:Inv C st w) (ids:List Nat) {v:Value} {p q:PV} (hq:rdP (st.only ids) p=some q) (hv:VR C v p):VR (C.closeIn ids w) v q:=by
 obtain ⟨h1,h2⟩:=h.only ids
 obtain ⟨h3,h4,h5⟩:=h.without ids
 refine ((R8 hq).sound h2 (imm:=(C.closeIn ids w).imm) (λb o u hu=>h3.imm b o u hu) (λid L hL hcap o u hu=>?_) (hv.mono h1)).ofBase (λ_ _ _ h=>h)
 have hL:(if ids.contains id=true then C.loc id else none)=some L:=hL
 split at hL
 .rename_i hc;exact h5 id L hc hL hcap o u hu
 .cases hL
theorem VR.freezeB (h:Inv C st w) (ids:List Nat) {v:Value} {p q:PV} (hq:rdP (st.only ids) p=some q) (hv:VR C v p):VR (base (C.closeIn ids w).imm w) v q:=by
 obtain ⟨h1,h2⟩:=h.only ids
 obtain ⟨h3,h4,h5⟩:=h.without ids
 refine ((R8 hq).sound h2 (imm:=(C.closeIn ids w).imm) (λb o u hu=>h3.imm b o u hu) (λid L hL hcap o u hu=>?_) (hv.mono h1))
 have hL:(if ids.contains id=true then C.loc id else none)=some L:=hL
 split at hL
 .rename_i hc;exact h5 id L hc hL hcap o u hu
 .cases hL
end
def Ctx.closeAgain (C:Ctx) (st:Store) (ids:List Nat) (w:World):Ctx :=
 { C.closeIn ids w with loc:=λid=>if ids.contains id=true then (match st.obj id with | some (.arr g z _)=>some ⟨0,0,z,0,g+1⟩ | _=>none)else C.loc id }
theorem WJ {st:Store} {c:PV} (h:c.isCell=true):(sealC st c).isCell=true:=by
 unfold sealC
 split
 .simp only[rdC]
  cases st.arr? _ _ with
  | none=>exact h
  | some q =>
   simp only[aw]
   split <;> rfl
 .exact h
theorem Uc {st:Store} {c:PV}:(sealC st c).cells.length=c.cells.length:=by
 unfold sealC
 split
 .simp only[rdC]
  cases st.arr? _ _ with
  | none=>rfl
  | some q =>
   simp only[aw]
   split <;> rfl
 .rfl
theorem Ud {st:Store} {e:PV}:(Nn st e).cells.length=e.cells.length:=by
 unfold Nn
 split
 .simp [gi]
 .exact Uc
theorem Ue (st:Store) (c:PV):gq st c=c\/(c.cells = [c]/\(gq st c).cells = [gq st c]):=by
 unfold gq
 split
 .right
  refine ⟨rfl,?_⟩
  simp only[rdC]
  cases st.arr? _ _ with
  | none=>rfl
  | some q =>
   simp only[aw]
   split <;> rfl
 .exact .inl rfl
theorem lL {e c:PV} {j:Nat} (hn:∀cs,e≠.agg cs) (h:e.cells[j]?=some c):c=e:=by
 cases e <;> first
  | (exact absurd rfl (hn _))
  | (simp[gi]at h;done)
  | (cases j with | zero=>(simp[gi]at h;exact h.symm) | succ j=>(simp[gi]at h))
theorem QV {st:Store} {e:PV} {j:Nat} {c:PV} (h:(Nn st e).cells[j]?=some c):∃c0,e.cells[j]?=some c0/\c=gq st c0:=by
 unfold Nn at h
 split at h
 .simp only[gi,bw,az]at h ⊢
  obtain ⟨c0,h1,h2⟩:=h
  exact ⟨c0,h1,h2.symm⟩
 .rename_i hna
  rcases Ue st e with h1 | ⟨h1,h2⟩
  .rw [h1]at h
   have := lL (λcs he=>hna cs he) h
   exact ⟨c,h,by rw[this,h1]⟩
  .rw [h2]at h
   cases j with
   | zero=>simp at h;exact⟨e,by rw[h1];rfl,h.symm⟩
   | succ j=>simp at h
theorem VR.sealC {C:Ctx} {st:Store} {w:World} (h:Inv C st w) (ids:List Nat) {C2:Ctx} (hle:C.le C2) (himm:∀b o u,(C.closeIn ids w).imm b o=some u->C2.imm b o=some u) {v:Value} {c:PV} (hv:VR C v c):VR C2 v (gq (st.only ids) c):=by
 unfold gq
 split
 .rename_i id g s n
  cases hr:rdC (st.only ids) (.ref id g s n)with
  | none=>exact hv.mono hle
  | some q=>exact (VR.freezeB h ids (p:=.ref id g s n) (by simpa [rdP]using hr) hv).ofBase himm
 .exact hv.mono hle
theorem Inv.seal {C:Ctx} {st:Store} {w:World} (h:Inv C st w) (ids:List Nat):C.le (C.closeAgain st ids w)/\Inv (C.closeAgain st ids w) (st.seal ids) w:=by
 obtain ⟨h3,h4,h5⟩:=h.without ids
 have hle:C.le (C.closeAgain st ids w):=by
  refine ⟨h3.imm,h3.old,λ_ h=>h,λid hb L' hL=>?_,rfl,rfl,rfl,rfl,λ_ h=>h,rfl⟩
  have hL:(if ids.contains id=true then (match st.obj id with | some (.arr g z _)=>some (⟨0,0,z,0,g+1⟩:Loc) | _=>none)else C.loc id)=some L':=hL
  split at hL
  .split at hL
   .rename_i g z es ho
    cases hL
    obtain ⟨_,L,hL0,hat⟩:=h.obj id _ ho
    exact ⟨L,hL0,.inr (by have:=hat.1;show L.gen<g+1;omega)⟩
   .cases hL
  .exact ⟨L',hL,.inl rfl⟩
 refine ⟨hle,?_⟩
 constructor
 .exact h.os
 .exact h.out
 .exact h.hB
 .exact h.old
 .exact h4.imm
 .exact h.next
 .intro id hid
  have hid:(if ids.contains id=true then (st.obj id).bind CG else (st.obj id).map (T0 (st.only ids)))=none:=hid
  show (if ids.contains id=true then (match st.obj id with | some (.arr g z _)=>some (⟨0,0,z,0,g+1⟩:Loc) | _=>none)else C.loc id)=none
  split at hid
  .rename_i hc;rw[if_pos hc]
   cases ho:st.obj id with
   | none=>rfl
   | some o =>
    rw [ho]at hid
    cases o with
    | arr g z es=>simp[CG]at hid
    | map g mk es=>rfl
    | it m n seen=>rfl
    | lp r=>rfl
  .rename_i hc;rw[if_neg hc];exact h.none_ id (by simpa using hid)
 .intro id o hid
  have hid:(if ids.contains id=true then (st.obj id).bind CG else (st.obj id).map (T0 (st.only ids)))=some o:=hid
  split at hid
  .rename_i hc
   cases ho:st.obj id with
   | none=>rw[ho]at hid;simp at hid
   | some o1 =>
    rw [ho]at hid
    cases o1 with
    | arr g z es =>
     simp only[aw,CG,bp]at hid
     subst hid
     obtain ⟨hb,L,hL,hat⟩:=h.obj id _ ho
     refine ⟨hb,⟨0,0,z,0,g+1⟩,?_,rfl,rfl,hat.2.2.1,⟨cg _,Nat.zero_le _⟩,λhx=>by simp at hx⟩
     show (if ids.contains id=true then (match st.obj id with | some (.arr g z _)=>some (⟨0,0,z,0,g+1⟩:Loc) | _=>none)else C.loc id)=_
     rw [if_pos hc,ho]
    | map g mk es=>simp[CG]at hid
    | it m n seen=>simp[CG]at hid
    | lp r=>simp[CG]at hid
  .rename_i hc
   simp only[az]at hid
   obtain ⟨o1,ho,rfl⟩:=hid
   obtain ⟨hb,L,hL,hat⟩:=h.obj id o1 ho
   have hout:0<L.cap->∀o,C.imm L.blk o=none->(C.closeAgain st ids w).imm L.blk o=none:=λhcap o ho=>by
    show (C.closeIn ids w).imm L.blk o=none
    unfold Ctx.closeIn
    dsimp only
    split
    .rename_i hx
     obtain ⟨id',L',hc',hL',hcap',hb'⟩:=hx
     have hne:id'≠id:=λe=>by subst e;exact hc hc'
     rcases h.sep id' id L' L hne hL' hL hb' with h0 | h0 <;> omega
    .exact ho
   refine ⟨hb,L,by show (if ids.contains id=true then _ else C.loc id)=some L;rw[if_neg hc];exact hL,?_⟩
   have hm:=hat.mono hle hout λ_=>rfl
   cases o1 with
   | map g mk es=>exact hm
   | it m n seen=>exact hm
   | lp r=>exact hm
   | arr g z es =>
    obtain ⟨m1,m2,m3,m4,m5⟩:=hm
    refine ⟨m1,m2,m3,⟨by simpa using m4.1,m4.2⟩,λhcap=>?_⟩
    obtain ⟨a1,a2,cs,T,a3,a4,_⟩:=m5 hcap
    obtain ⟨b1,b2,cs',T',b3,b4,b5⟩:=hat.2.2.2.2 hcap
    have ecs:cs'=cs:=by rw[a3]at b3;cases b3;rfl
    subst ecs
    refine ⟨a1,a2,cs',T,a3,a4,λi e he=>?_⟩
    simp only[bw,az]at he
    obtain ⟨e0,he0,rfl⟩:=he
    obtain ⟨c1,c2,c3⟩:=b5 i e0 he0
    refine ⟨by rw[Ud];exact c1,λc hc=>?_,λj c hj=>?_⟩
    .obtain ⟨j,hj⟩:=bt.1 hc
     obtain ⟨c0,hc0,rfl⟩:=QV hj
     exact WJ (c2 c0 (ac hc0))
    .obtain ⟨c0,hc0,rfl⟩:=QV hj
     exact VR.sealC h ids hle (λ_ _ _ x=>x) (c3 j c0 hc0)
 .intro id id' L L' hne hL hL' hb
  have hL:(if ids.contains id=true then (match st.obj id with | some (.arr g z _)=>some (⟨0,0,z,0,g+1⟩:Loc) | _=>none)else C.loc id)=some L:=hL
  have hL':(if ids.contains id'=true then (match st.obj id' with | some (.arr g z _)=>some (⟨0,0,z,0,g+1⟩:Loc) | _=>none)else C.loc id')=some L':=hL'
  split at hL
  .split at hL
   .cases hL;exact .inl rfl
   .cases hL
  .split at hL'
   .split at hL'
    .cases hL';exact .inr rfl
    .cases hL'
   .exact h.sep id id' L L' hne hL hL' hb
 .exact h.keep
section
variable {C:Ctx} {st:Store} {w:World}
theorem Inv.again (h:Inv C st w) (ids:List Nat):C.le (C.closeAgain st ids w)/\Inv (C.closeAgain st ids w) ⟨λi=>if ids.contains i=true then (st.obj i).bind CG else st.obj i,st.next⟩ w:=by
 obtain ⟨h3,h4,h5⟩:=h.without ids
 have hle:C.le (C.closeAgain st ids w):=by
  refine ⟨h3.imm,h3.old,λ_ h=>h,λid hb L' hL=>?_,rfl,rfl,rfl,rfl,λ_ h=>h,rfl⟩
  have hL:(if ids.contains id=true then (match st.obj id with | some (.arr g z _)=>some (⟨0,0,z,0,g+1⟩:Loc) | _=>none)else C.loc id)=some L':=hL
  split at hL
  .split at hL
   .rename_i g z es ho
    cases hL
    obtain ⟨_,L,hL0,hat⟩:=h.obj id _ ho
    exact ⟨L,hL0,.inr (by have:=hat.1;show L.gen<g+1;omega)⟩
   .cases hL
  .exact ⟨L',hL,.inl rfl⟩
 refine ⟨hle,?_⟩
 constructor
 .exact h.os
 .exact h.out
 .exact h.hB
 .exact h.old
 .exact h4.imm
 .exact h.next
 .intro id hid
  have hid:(if ids.contains id=true then (st.obj id).bind CG else st.obj id)=none:=hid
  show (if ids.contains id=true then (match st.obj id with | some (.arr g z _)=>some (⟨0,0,z,0,g+1⟩:Loc) | _=>none)else C.loc id)=none
  split at hid
  .rename_i hc;rw[if_pos hc]
   cases ho:st.obj id with
   | none=>rfl
   | some o =>
    rw [ho]at hid
    cases o with
    | arr g z es=>simp[CG]at hid
    | map g mk es=>rfl
    | it m n seen=>rfl
    | lp r=>rfl
  .rename_i hc;rw[if_neg hc];exact h.none_ id hid
 .intro id o hid
  have hid:(if ids.contains id=true then (st.obj id).bind CG else st.obj id)=some o:=hid
  split at hid
  .rename_i hc
   cases ho:st.obj id with
   | none=>rw[ho]at hid;simp at hid
   | some o1 =>
    rw [ho]at hid
    cases o1 with
    | arr g z es =>
     simp only[aw,CG,bp]at hid
     subst hid
     obtain ⟨hb,L,hL,hat⟩:=h.obj id _ ho
     refine ⟨hb,⟨0,0,z,0,g+1⟩,?_,rfl,rfl,hat.2.2.1,⟨cg _,Nat.zero_le _⟩,λhx=>by simp at hx⟩
     show (if ids.contains id=true then (match st.obj id with | some (.arr g z _)=>some (⟨0,0,z,0,g+1⟩:Loc) | _=>none)else C.loc id)=_
     rw [if_pos hc,ho]
    | map g mk es=>simp[CG]at hid
    | it m n seen=>simp[CG]at hid
    | lp r=>simp[CG]at hid
  .rename_i hc
   obtain ⟨hb,L,hL,hat⟩:=h.obj id o hid
   have hout:0<L.cap->∀o,C.imm L.blk o=none->(C.closeAgain st ids w).imm L.blk o=none:=λhcap o ho=>by
    show (C.closeIn ids w).imm L.blk o=none
    unfold Ctx.closeIn
    dsimp only
    split
    .rename_i hx
     obtain ⟨id',L',hc',hL',hcap',hb'⟩:=hx
     have hne:id'≠id:=λe=>by subst e;exact hc hc'
     rcases h.sep id' id L' L hne hL' hL hb' with h0 | h0 <;> omega
    .exact ho
   refine ⟨hb,L,by show (if ids.contains id=true then _ else C.loc id)=some L;rw[if_neg hc];exact hL,?_⟩
   exact hat.mono hle hout λ_=>rfl
 .intro id id' L L' hne hL hL' hb
  have hL:(if ids.contains id=true then (match st.obj id with | some (.arr g z _)=>some (⟨0,0,z,0,g+1⟩:Loc) | _=>none)else C.loc id)=some L:=hL
  have hL':(if ids.contains id'=true then (match st.obj id' with | some (.arr g z _)=>some (⟨0,0,z,0,g+1⟩:Loc) | _=>none)else C.loc id')=some L':=hL'
  split at hL
  .split at hL
   .cases hL;exact .inl rfl
   .cases hL
  .split at hL'
   .split at hL'
    .cases hL';exact .inr rfl
    .cases hL'
   .exact h.sep id id' L L' hne hL hL' hb
 .exact h.keep
theorem VR.freezeAgain (h:Inv C st w) (ids:List Nat) {l as:List PV} (hq:Ce (st.only ids) l=some as) {vals:Nat->Value} (hv:∀(i:Nat) (p:PV),l[i]?=some p->VR C (vals i) p) :
  l.length = as.length/\∀(i:Nat) (p:PV),as[i]?=some p->VR (C.closeAgain st ids w) (vals i) p:=by
 induction l generalizing as vals with
 | nil=>simp only[Ce,bp]at hq;subst hq;exact⟨rfl,by intro i p h;simp at h⟩
 | cons c l ih =>
  simp only[Ce,au,az]at hq
  obtain ⟨d,hd,ds,hds,rfl⟩:=hq
  obtain ⟨h1,h2⟩:=ih hds (vals:=λi=>vals (i+1)) (λi p hp=>hv (i+1) p (by simpa using hp))
  refine ⟨by simp[h1],λi p hp=>?_⟩
  cases i with
  | zero=>simp only[gp,bp]at hp;subst hp;exact (VR.freezeB h ids hd (hv 0 c rfl)).ofBase (C':=C.closeAgain st ids w) (λ_ _ _ x=>x)
  | succ i=>exact h2 i p (by simpa using hp)
theorem VR.freezeAll (h:Inv C st w) (ids:List Nat) {l as:List PV} (hq:Ce (st.only ids) l=some as) {vals:Nat->Value} (hv:∀(i:Nat) (p:PV),l[i]?=some p->VR C (vals i) p) :
  l.length = as.length/\∀(i:Nat) (p:PV),as[i]?=some p->VR (C.closeIn ids w) (vals i) p:=by
 induction l generalizing as vals with
 | nil=>simp only[Ce,bp]at hq;subst hq;exact⟨rfl,by intro i p h;simp at h⟩
 | cons c l ih =>
  simp only[Ce,au,az]at hq
  obtain ⟨d,hd,ds,hds,rfl⟩:=hq
  obtain ⟨h1,h2⟩:=ih hds (vals:=λi=>vals (i+1)) (λi p hp=>hv (i+1) p (by simpa using hp))
  refine ⟨by simp[h1],λi p hp=>?_⟩
  cases i with
  | zero=>simp only[gp,bp]at hp;subst hp;exact VR.freeze h ids hd (hv 0 c rfl)
  | succ i=>exact h2 i p (by simpa using hp)
end
def R9:MK->Option TypeDesc
 | .int k=>some (.int k)
 | .str=>some .string
 | .bool=>some .bool
 | .ints _=>none
def Zh (P:Program) (kt:TypeId) (mk:MK):Prop:=(∃d,R9 mk=some d/\P.underlying kt=some d)\/∃n,mk=.ints n/\Hp P kt=some n
theorem DT {P:Program} {t:TypeId} {mk:MK} {z:PV} (h:AW P t=some (mk,z)):∃kt et i zv,P.underlying t=some (.map kt et)/\P.info? et=some i/\i.zero=some zv/\z=Bn zv/\Zh P kt mk:=by
 unfold AW at h
 split at h
 .rename_i k e ht
  split at h
  .rename_i zv hz
   simp only[au]at hz
   obtain ⟨i,hi,hz⟩:=hz
   split at h
   case h_4 =>
    simp only[az,c9]at h
    obtain ⟨n,hn,rfl,rfl⟩:=h
    exact ⟨k,e,i,zv,ht,hi,hz,rfl,.inr ⟨n,rfl,hn⟩⟩
   all_goals
    rename_i hk
    simp only[bp,c9]at h
    obtain ⟨rfl,rfl⟩:=h
    exact ⟨k,e,i,zv,ht,hi,hz,rfl,.inl ⟨_,rfl,hk⟩⟩
  .cases h
 .cases h
section
variable {C:Ctx} {P:Program} {st:Store} {w:World}
theorem Kq {a:PV} {l:List PV} (h:J9 (a::l)=true):∃n,a=.int .i64 n/\(-9223372036854775808<=n/\n<=9223372036854775807)/\J9 l=true:=by
 unfold J9 at h
 split at h
 .rename_i he;cases he
 .rename_i n l' he
  cases he
  simp only[fy,decide_eq_true_eq]at h
  exact ⟨n,rfl,h.1,h.2⟩
 .cases h
theorem IW:∀ {l:List PV} {i:Nat} {p:PV},J9 l=true->l[i]?=some p->∃n,p=.int .i64 n /\ -9223372036854775808<=n/\n<=9223372036854775807
 | [],i,p,_,h=>by simp at h
 | a::l,i,p,hl,h=>by
  obtain ⟨n,rfl,hl1,hl2⟩:=Kq hl
  cases i with
  | zero=>simp at h;subst h;exact⟨n,rfl,hl1⟩
  | succ i=>exact IW hl2 (by simpa using h)
theorem Kr {α β:Type} {f:α->Option β}:∀ {L:List α},(∀x∈L,∃y,f x=some y)->∃ys,L.mapM f=some ys
 | [],_=>⟨[],by simp⟩
 | a::L,h=>by
  obtain ⟨y,hy⟩:=h a (by simp)
  obtain ⟨ys,hys⟩:=Kr (L:=L) λx hx=>h x (by simp[hx])
  exact ⟨y::ys,by simp[hy,hys]⟩
theorem QW {t:TypeId} {k:IntKind} (h:Gn P t=some k):P.underlying t=some (.int k):=by
 unfold Gn at h;split at h
 .simp only[bp]at h;subst h;assumption
 .cases h
theorem Nt {e:TypeId} {d:Nat} {n:Int} (he:P.underlying e=some (.int .i64)) (hn : -9223372036854775808<=n/\n<=9223372036854775807):P.keyLits (d+1) e [.int .i64 n]=some [.int .i64 n]:=by
 unfold gt
 rw [he]
 have : (Lit.int .i64 n).wf=true:=by
  simp [Lit.wf,IntKind.min,IntKind.max,IntKind.signed,IntKind.bits]
  omega
 simp [this]
theorem IX {kt:TypeId} {n:Nat} (h:Hp P kt=some n):(match P.underlying kt with | some (.array _ _) | some (.struct _)=>true | _=>false)=true:=by
 unfold Hp at h
 split at h
 .split at h
  .rename_i hu;rw[hu]
  .rename_i hu;rw[hu]
  .cases h
 .cases h
theorem Jp {kt:TypeId} {n:Nat} (h:Hp P kt=some n):P.keyType kt=true/\P.keyTypeAt 2 kt=true/\P.tiled 2 kt=true/\0<P.types.size:=by
 unfold Hp at h
 split at h
 .rename_i hc;exact hc
 .cases h
theorem Kb {α:Type} {l:List α} {i:Nat} {a:α} (h:l[i]?=some a):(l.drop i).take 1 = [a]:=by
 obtain ⟨hlt,rfl⟩:=ab.1 h
 rw [List.drop_eq_getElem_cons hlt];rfl
theorem Hr {kt:TypeId} {n:Nat} (h:Hp P kt=some n) {v:Value} {k:PV} (hv:VR C v k) (hk:BN (.ints n) k=true):∃l,keyOf P kt v=some l:=by
 obtain ⟨q1,q2,q3,q4⟩:=Jp h
 cases k <;> simp only[BN,gu,fy,beq_iff_eq]at hk
 rename_i l
 cases hv with
 | agg cs _ hsz hc hat =>
  obtain ⟨hlen,hil⟩:=hk
  have hcell:∀i,i<n->∃m,cs.toList[i]?=some (.int .i64 m) /\ -9223372036854775808<=m/\m<=9223372036854775807:=by
   intro i hi
   obtain ⟨p,hp⟩:∃p,l[i]?=some p:=⟨_,gl (by omega)⟩
   obtain ⟨m,rfl,hm⟩:=IW hil hp
   have := hat i _ hp
   have e:=Cr this
   refine ⟨m,?_,hm⟩
   have hlt:i<cs.size:=by omega
   simp only[fd,bz hlt,gv]at e
   simp [hlt,e]
  obtain ⟨d,hd⟩:∃d,P.types.size=d+1:=⟨P.types.size-1,by omega⟩
  unfold Hp at h
  rw [if_pos ⟨q1,q2,q3,q4⟩]at h
  split at h
  .rename_i fs hu
   split at h
   .rename_i hc2
    obtain ⟨hc1,hc2⟩:=hc2
    have hnn:fs.size=n:=c7 h
    subst hnn
    have hform:(Value.agg cs).formed P kt=true:=by simp[gw,hu,hc1,hsz,hlen]
    have hname : fs.all (·.name != "_") = true := by
     have := q2
     unfold Program.keyTypeAt at this
     rw [hu]at this
     simp only[fy,Array.all_eq_true]at this ⊢
     intro i hi
     exact (this.1.1 i hi).1
    have hm:∃ys,fs.toList.mapM (λf=>P.keyLits (d+1) f.type ((cs.toList.drop f.offset).take (P.cellsOf f.type)))=some ys:=Kr λf hf=>by
     obtain ⟨i,hi,rfl⟩:=List.getElem_of_mem hf
     have hz:=ga.1 hc2 (fs.toList[i],i) (by rw[List.mem_zipIdx_iff_getElem?];simp[hi])
     simp only[fy,beq_iff_eq]at hz
     obtain ⟨⟨z1,z2⟩,z3⟩:=hz
     obtain ⟨m,e1,e2⟩:=hcell i (by simpa using hi)
     have hint:P.underlying fs.toList[i].type=some (.int .i64):=QW z3
     rw [z1,z2,Kb e1]
     exact ⟨_,Nt hint e2⟩
    obtain ⟨ys,hys⟩:=hm
    refine ⟨.string (keyBytes ys.flatten),?_⟩
    unfold keyOf
    rw [hu]
    have hlits:P.keyLits (P.types.size+1) kt cs.toList=some ys.flatten:=by
     rw [hd]
     unfold gt
     rw [hu]
     simp only[cy]
     rw [if_pos ⟨by omega,hname⟩,hys];rfl
    simp [q1,hform,ae,hlits]
   .cases h
  .rename_i n' e hu
   split at h
   .rename_i hc2
    obtain ⟨hc1,hc2,hc3⟩:=hc2
    have hnn:n'=n:=c7 h
    subst hnn
    have hint:P.underlying e=some (.int .i64):=QW hc3
    have hform:(Value.agg cs).formed P kt=true:=by simp[gw,hu,hc1,hsz,hlen]
    have hm:∃ys,(br n').mapM (λi=>P.keyLits (d+1) e ((cs.toList.drop (i*P.cellsOf e)).take (P.cellsOf e)))=some ys:=Kr λi hi=>by
     obtain ⟨m,e1,e2⟩:=hcell i (gz.1 hi)
     rw [hc2,Nat.mul_one,Kb e1]
     exact ⟨_,Nt hint e2⟩
    obtain ⟨ys,hys⟩:=hm
    refine ⟨.string (keyBytes ys.flatten),?_⟩
    unfold keyOf
    rw [hu]
    have hlits:P.keyLits (P.types.size+1) kt cs.toList=some ys.flatten:=by
     rw [hd]
     unfold gt
     rw [hu]
     simp only[cy]
     rw [if_pos (by omega),hys];rfl
    simp [q1,hform,ae,hlits]
   .cases h
  .cases h
theorem QX:∀ {l m:List PV},J9 l=true->J9 m=true->(Iq l m=true↔l=m)
 | [],[],_,_=>by simp[Iq]
 | [],b::m,_,_=>by simp[Iq]
 | a::l,[],_,_=>by cases a <;> simp[Iq]
 | a::l,b::m,hl,hm=>by
  obtain ⟨x,rfl,_,hl⟩:=Kq hl
  obtain ⟨y,rfl,_,hm⟩:=Kq hm
  have ih:=QX hl hm
  simp [Iq,ih]
theorem Gt {v:Value} {k:PV} {mk:MK} {d:TypeDesc} (hd:R9 mk=some d) (hv:VR C v k) (hk:BN mk k=true):g8 d v:=by
 cases mk <;> simp only[R9,bp,reduceCtorEq]at hd <;> subst hd <;> cases k <;> simp[BN]at hk <;> cases hv <;> simp[g8]
 .exact hk.symm
theorem QY {a b:Value} {pa pb:PV} {mk:MK} (ha:VR C a pa) (hb:VR C b pb) (ka:BN mk pa=true) (kb:BN mk pb=true):a=b↔DO pa pb=true:=by
 cases mk
 case ints n =>
  cases pa <;> simp only[BN,gu,fy,beq_iff_eq]at ka
  cases pb <;> simp only[BN,gu,fy,beq_iff_eq]at kb
  rename_i l m
  simp only[DO]
  rw [QX ka.2 kb.2]
  cases ha with
  | agg cs _ hsz hc hat =>
   cases hb with
   | agg ds _ hsz2 hc2 hat2 =>
    have key:∀i,i<n->∀x y,l[i]?=some (.int .i64 x)->m[i]?=some (.int .i64 y)->cs.getD i undef=.int .i64 x/\ds.getD i undef=.int .i64 y:=λi hi x y h1 h2=>⟨Cr (hat i _ h1),Cr (hat2 i _ h2)⟩
    constructor
    .intro e
     simp only[Value.agg.injEq]at e
     subst e
     refine List.ext_getElem? λi=>?_
     by_cases hi:i<n
     .obtain ⟨p,hp⟩:∃p,l[i]?=some p:=⟨_,gl (by omega)⟩
      obtain ⟨q,hq⟩:∃q,m[i]?=some q:=⟨_,gl (by omega)⟩
      obtain ⟨x,rfl,_⟩:=IW ka.2 hp
      obtain ⟨y,rfl,_⟩:=IW kb.2 hq
      obtain ⟨e1,e2⟩:=key i hi x y hp hq
      rw [e1]at e2
      simp only[Value.int.injEq,true_and]at e2
      rw [hp,hq,e2]
     .rw [ia (by omega),ia (by omega)]
    .intro e
     subst e
     congr 1
     apply Array.ext
     .omega
     .intro i h1 h2
      obtain ⟨p,hp⟩:∃p,l[i]?=some p:=⟨_,gl (by omega)⟩
      obtain ⟨x,rfl,_⟩:=IW ka.2 hp
      obtain ⟨e1,e2⟩:=key i (by omega) x x hp hp
      simp only[fd,bz h1,bz h2,gv]at e1 e2
      rw [e1,e2]
 all_goals cases pa <;> simp[BN]at ka <;> cases pb <;> simp[BN]at kb <;> cases ha <;> cases hb
 .subst ka;subst kb;simp[DO]
 .rename_i s1 l1 h1 s2 l2 h2
  subst l1;subst l2
  simp only[DO,beq_iff_eq,Value.string.injEq]
  constructor
  .rintro rfl;rfl
  .intro h
   have : s1.data=s2.data:=Array.toList_inj.1 h
   cases s1;cases s2;simp at this;subst this;rfl
 .simp [DO]
theorem Kc {mk:MK} {d:TypeDesc} (hd:R9 mk=some d) {kv:Value} {k:PV} (hv:VR C kv k) (hk:BN mk k=true):∀(ces:List MapEntry) (es:List (PV×PV)) (i0:Nat),ces.length=es.length ->
  (∀ (i:Nat) (a b:PV),es[i]?=some (a,b)->∃e:MapEntry,ces[i]?=some e/\VR C e.key a/\VR C e.val b/\BN mk a=true) ->
  (∃ j e q,ib d kv ces i0=some (some (i0+j,e.val))/\ces[j]?=some e/\e.key=kv/\Cd es k=some q/\VR C e.val q/\j<es.length/\∀v,CR es k v=es.set j (k,v)) \/
  (ib d kv ces i0=some none/\Cd es k=none/\∀v,CR es k v=es ++ [(k,v)])
 | [],[],i0,_,_=>.inr ⟨rfl,rfl,λ_=>rfl⟩
 | [],_::_,i0,hl,_=>by simp at hl
 | _::_,[],i0,hl,_=>by simp at hl
 | c::ces,(a,b)::es,i0,hl,hat=>by
  obtain ⟨e,he,h1,h2,h3⟩:=hat 0 a b rfl
  simp at he;subst he
  obtain ⟨r,hr,hiff⟩:=MapKept.sameNow_of_keys (Gt hd hv hk) (Gt hd h1 h3)
  have hs:=QY hv h1 hk h3
  cases r with
  | true =>
   have hsk:DO k a=true:=hs.1 (hiff.1 rfl)
   exact .inl ⟨0,c,b,by simp[ib,hr],rfl,(hiff.1 rfl).symm,by simp[Cd,hsk],h2,by simp,λv=>by simp[CR,hsk]⟩
  | false =>
   have hsk:DO k a=false:=by
    cases hx:DO k a with
    | false=>rfl
    | true=>have:=hiff.2 (hs.2 hx);cases this
   rcases Kc hd hv hk ces es (i0+1) (by simpa using hl) (λi x y h=>by simpa using hat (i+1) x y (by simpa using h))with ⟨j,e,q,g1,g2,g3,g4,g5,g6,g7⟩ | ⟨g1,g2,g3⟩
   .exact .inl ⟨j+1,e,q,by simp[ib,hr,g1];omega,by simpa using g2,g3,by simp[Cd,hsk,g4],g5,by simp;omega,λv=>by simp[CR,hsk,g7]⟩
   .exact .inr ⟨by simp[ib,hr,g1],by simp[Cd,hsk,g2],λv=>by simp[CR,hsk,g3]⟩
theorem Kd {kt:TypeId} {n:Nat} (hkt:Hp P kt=some n) (w:World) {kv:Value} {k:PV} (hv:VR C kv k) (hk:BN (.ints n) k=true):∀(ces:List MapEntry) (es:List (PV×PV)) (i0:Nat),ces.length=es.length ->
  (∀ (i:Nat) (a b:PV),es[i]?=some (a,b)->∃e:MapEntry,ces[i]?=some e/\VR C e.key a/\VR C e.val b/\BN (.ints n) a=true) ->
  (∃ j e q,(ig kt kv ces i0).run P w=.ok (some (i0+j,e.val)) w/\ces[j]?=some e/\e.key=kv/\Cd es k=some q/\VR C e.val q/\j<es.length/\∀v,CR es k v=es.set j (k,v)) \/
  ((ig kt kv ces i0).run P w=.ok none w/\Cd es k=none/\∀v,CR es k v=es ++ [(k,v)])
 | [],[],i0,_,_=>.inr ⟨by simp[ig],rfl,λ_=>rfl⟩
 | [],_::_,i0,hl,_=>by simp at hl
 | _::_,[],i0,hl,_=>by simp at hl
 | c::ces,(a,b)::es,i0,hl,hat=>by
  obtain ⟨e,he,h1,h2,h3⟩:=hat 0 a b rfl
  simp at he;subst he
  obtain ⟨lx,hx⟩:=Hr hkt hv hk
  obtain ⟨ly,hy⟩:=Hr hkt h1 h3
  obtain ⟨q1,q2,q3,q4⟩:=Jp hkt
  have hwide:=IX hkt
  obtain ⟨r,hr,hiff⟩:=run_equal_deep (P:=P) w (m:=2) (by omega) q2 hwide hx hy
  have hs:=QY hv h1 hk h3
  have hval:r=true↔kv=c.key:=by
   rw [hiff]
   constructor
   .intro e;rw[e]at hx;exact keyOf_inj_deep q3 hwide hx hy
   .intro e;rw[e,hy]at hx;exact (c7 hx).symm
  cases r with
  | true =>
   have hsk:DO k a=true:=hs.1 (hval.1 rfl)
   exact .inl ⟨0,c,b,by simp[ig,hr],rfl,(hval.1 rfl).symm,by simp[Cd,hsk],h2,by simp,λv=>by simp[CR,hsk]⟩
  | false =>
   have hsk:DO k a=false:=by
    cases hx:DO k a with
    | false=>rfl
    | true=>have:=hval.2 (hs.2 hx);cases this
   rcases Kd hkt w hv hk ces es (i0+1) (by simpa using hl) (λi x y h=>by simpa using hat (i+1) x y (by simpa using h))with ⟨j,e,q,g1,g2,g3,g4,g5,g6,g7⟩ | ⟨g1,g2,g3⟩
   .exact .inl ⟨j+1,e,q,by simp[ig,hr,g1];omega,by simpa using g2,g3,by simp[Cd,hsk,g4],g5,by simp;omega,λv=>by simp[CR,hsk,g7]⟩
   .exact .inr ⟨by simp[ig,hr,g1],by simp[Cd,hsk,g2],λv=>by simp[CR,hsk,g3]⟩
section
variable {kt:TypeId}
theorem K8 {d:TypeDesc} {kv:Value} {l:List MapEntry} {r:Option (Nat×Value)} (hd:P.underlying kt=some d) (h:ib d kv l 0=some r):(ii kt kv l).run P w=.ok r w:=by
 simp [ii,run_underlying hd,h]
theorem EJ {mk:MK} (hkt:Zh P kt mk) {kv:Value} {k:PV} (hv:VR C kv k) (hk:BN mk k=true) (ces:List MapEntry) (es:List (PV×PV)) (hl:ces.length=es.length)
  (hat : ∀(i:Nat) (a b:PV),es[i]?=some (a,b)->∃e:MapEntry,ces[i]?=some e/\VR C e.key a/\VR C e.val b/\BN mk a=true) :
  (∃ j e q,(ii kt kv ces).run P w=.ok (some (j,e.val)) w/\ces[j]?=some e/\e.key=kv/\Cd es k=some q/\VR C e.val q/\j<es.length/\∀v,CR es k v=es.set j (k,v)) \/
  ((ii kt kv ces).run P w=.ok none w/\Cd es k=none/\∀v,CR es k v=es ++ [(k,v)]):=by
 rcases hkt with ⟨d,hd,h5⟩ | ⟨n,rfl,hn⟩
 .rcases Kc hd hv hk ces es 0 hl hat with ⟨j,e,q',g1,g2,g3,g4,g5,g6,g7⟩ | ⟨g1,g2,g3⟩
  .exact .inl ⟨j,e,q',by rw[K8 h5 g1];simp,g2,g3,g4,g5,g6,g7⟩
  .exact .inr ⟨K8 h5 g1,g2,g3⟩
 .rcases Kd hn w hv hk ces es 0 hl hat with ⟨j,e,q',g1,g2,g3,g4,g5,g6,g7⟩ | ⟨g1,g2,g3⟩
  .exact .inl ⟨j,e,q',by rw[run_findKey_eq w (IX hn),g1];simp,g2,g3,g4,g5,g6,g7⟩
  .exact .inr ⟨by rw[run_findKey_eq w (IX hn),g1],g2,g3⟩
theorem FF {mk:MK} (hkt:Zh P kt mk) {kv:Value} {k:PV} (hv:VR C kv k) (hk:BN mk k=true) (b:Bool):(ij b 10000 kt kv).run P w=.ok () w:=by
 rcases hkt with ⟨d,hd,h5⟩ | ⟨n,rfl,hn⟩
 .exact MapKept.run_checkKey h5 (Gt hd hv hk) b 9999
 .obtain ⟨l,hl⟩:=Hr hn hv hk
  obtain ⟨q1,q2,q3,q4⟩:=Jp hn
  exact (deep_law (m:=2) (by omega) q2 q3 (IX hn)).check w b hl
theorem IY {mk:MK} (hkt:Zh P kt mk) {kv:Value} {k:PV} (hv:VR C kv k) (hk:BN mk k=true):(il kv kv).run P w=.ok kv w:=by
 rcases hkt with ⟨d,hd,h5⟩ | ⟨n,rfl,hn⟩
 .exact MapKept.run_keyThatStays (Gt hd hv hk)
 .obtain ⟨l,hl⟩:=Hr hn hv hk
  obtain ⟨q1,q2,q3,q4⟩:=Jp hn
  exact (deep_law (m:=2) (by omega) q2 q3 (IX hn)).stays w hl
end
theorem Inv.map (hi:Inv C st w) {id g:Nat} {mk:MK} {es:List (PV×PV)} (ho:st.obj id=some (.map g mk es)) {v:Value} (hv:VR C v (.mref id g)) :
  ∃ L,C.loc id=some L/\C.born id/\ObjAt C w L (.map g mk es)/\v=.map (some L.blk):=by
 obtain ⟨hb,L,hL,hat⟩:=hi.obj id _ ho
 cases hv with
 | mref _ _ _ h1 h2 h3 h4=>exact⟨L,hL,hb,hat,h4 L hL hat.1.symm⟩
theorem Sa (hi:Inv C st w) {t:TypeId} {m kv:Value} {pm k q:PV} {ok:Bool} (hm:VR C m pm) (hv:VR C kv k) (h:CW st (AW P t) pm k ok=some q) :
  ∃ v,(im t m kv ok).run P w=.ok v w/\VR C v q:=by
 unfold CW at h
 simp only[au]at h
 obtain ⟨⟨mk,z⟩,ht,h⟩:=h
 obtain ⟨kt,et,i,zv,h1,h2,h3,rfl,h5⟩:=DT ht
 dsimp only at h
 split at h
 .rename_i hk
  have hz:(zeroValue et).run P w=.ok zv w:=by simp[zeroValue,typeInfo,h2,h3]
  have hzr:VR C zv (Bn zv):=CH zv
  have hck:∀b,(ij b 10000 kt kv).run P w=.ok () w:=λb=>FF h5 hv hk b
  have hfk0:(ii kt kv []).run P w=.ok none w:=by
   rcases EJ (w:=w) h5 hv hk [] [] rfl (by simp)with ⟨j,e,q,_,g2,_⟩ | ⟨g1,_⟩
   .simp at g2
   .exact g1
  have tup:∀ {v:Value} {p:PV} {b:Bool},VR C v p->VR C (.tuple #[v,.bool b]) (.tuple [p,.bool b]):=λ{v p b} hv=>.tuple _ _ rfl (λi q hq=>by
   match i,hq with
   | 0,hq=>simp at hq;subst hq;exact hv
   | 1,hq=>simp at hq;subst hq;exact .bool b
   | n+2,hq=>simp at hq)
  split at h
  .simp only[bp]at h;subst h
   cases hm
   refine ⟨if ok then .tuple #[zv,.bool false]else zv,?_,?_⟩
   .simp [im,run_underlying h1,hck,hfk0,hz]
   .cases ok
    .exact hzr
    .exact tup hzr
  .rename_i id gen
   split at h
   .rename_i g mk' es ho
    split at h
    .rename_i hc
     obtain ⟨rfl,rfl⟩:=hc
     obtain ⟨L,hL,hb,hat,rfl⟩:=hi.map ho hm
     obtain ⟨a1,a2,a3,a4,ces,a5,a6,a7⟩:=hat
     have hfn:=EJ (w:=w) h5 hv hk ces.toList es (by simpa using a6) (λi a b h=>by
      obtain ⟨e,e1,e2,e3,e4,e5⟩:=a7 i a b h
      exact ⟨e,by simpa using e1,e2,e3,e5⟩)
     rcases hfn with ⟨j,e,q',g1,g2,g3,g4,g5,g6,g7⟩ | ⟨g1,g2,g3⟩
     .rw [g4]at h
      simp only[bp]at h;subst h
      refine ⟨if ok then .tuple #[e.val,.bool true]else e.val,?_,?_⟩
      .simp [im,run_underlying h1,io a5,hck,g1]
      .cases ok
       .exact g5
       .exact tup g5
     .rw [g2]at h
      simp only[bp]at h;subst h
      refine ⟨if ok then .tuple #[zv,.bool false]else zv,?_,?_⟩
      .simp [im,run_underlying h1,io a5,hck,g1,hz]
      .cases ok
       .exact hzr
       .exact tup hzr
    .cases h
   .cases h
  .cases h
 .cases h
theorem K9 (hi:Inv C st w) {t:TypeId} {m kv vv:Value} {pm k v:PV} {st':Store} (hm:VR C m pm) (hk:VR C kv k) (hv:VR C vv v) (h:Kk st (AW P t) pm k v=some st') :
  ∃ w' C',(ip t m kv vv).run P w=.ok () w'/\C.le C'/\Inv C' st' w':=by
 unfold Kk at h
 split at h
 .rename_i id gen
  split at h
  .rename_i g mk es ho
   split at h
   .rename_i hc
    obtain ⟨rfl,ht,hki⟩:=hc
    simp only[bp]at h;subst h
    simp only[az]at ht
    obtain ⟨⟨mk',z⟩,ht,hmk⟩:=ht
    dsimp only at hmk;subst hmk
    obtain ⟨kt,et,i,zv,h1,h2,h3,rfl,h5⟩:=DT ht
    have hck:∀b,(ij b 10000 kt kv).run P w=.ok () w:=λb=>FF h5 hk hki b
    obtain ⟨L,hL,hb,hat,rfl⟩:=hi.map ho hm
    obtain ⟨a1,a2,a3,a4,ces,a5,a6,a7⟩:=hat
    have hlt:id<st.next:=by
     rcases bh id st.next with h | h
     .exact h
     .exact absurd hb (hi.next id h)
    have hblk:L.blk<w.heap.size:=(ai.1 a5).1
    have hsound:∀(ces':Array MapEntry) (clock':Nat),clock'=(CR es k v).length->ces'.size=(CR es k v).length->(∀C':Ctx,C.le C'->∀(i:Nat) (a b:PV),(CR es k v)[i]?=some (a,b)->∃e:MapEntry,ces'[i]?=some e/\VR C' e.key a/\VR C' e.val b/\e.born=i/\BN mk' a=true) ->
      C.le (C.set id L)/\Inv (C.set id L) (st.set id (.map gen mk' (CR es k v))) { w with heap:=w.heap.setIfInBounds L.blk (.map ces' clock') }:=by
     intro ces' clock' hcl hsz hent
     exact hi.put (id:=id) (nx:=st.next) (o:=.map gen mk' (CR es k v)) (L':=L) (.inl ⟨L,hL,.inl rfl⟩) (.inr (.inr ⟨L,hL,rfl,by omega⟩))
      (λb hb hne=>by simp[fw (Ne.symm (hne L hL (by omega)))]) (by simp)
      (λhle=>⟨a1,a2,a3,a4,ces',by simp[hblk,hcl],hsz,hent _ hle⟩) (cg _) hlt
    have hfn:=EJ (w:=w) h5 hk hki ces.toList es (by simpa using a6) (λi a b h=>by
     obtain ⟨e,e1,e2,e3,e4,e5⟩:=a7 i a b h
     exact ⟨e,by simpa using e1,e2,e3,e5⟩)
    rcases hfn with ⟨j,e,q',g1,g2,g3,g4,g5,g6,g7⟩ | ⟨g1,g2,g3⟩
    .have hj:ces[j]?=some e:=by simpa using g2
     have hjl:j<ces.size:=(ai.1 hj).1
     have hkeep:∀(u:Value),(il kv kv).run P w=.ok kv w:=λ_=>IY h5 hk hki
     obtain ⟨q1,q2⟩:=hsound (ces.modify j λe=>{ e with key:=kv,val:=vv }) es.length (by rw[g7];simp) (by rw[g7];simp[a6]) (λC' hle i a b hab=>by
      rw [g7]at hab
      by_cases hij:i=j
      .subst hij
       rw [gb g6]at hab
       simp only[bp,c9]at hab
       obtain ⟨rfl,rfl⟩:=hab
       refine ⟨{ e with key:=kv,val:=vv },by simp[iq,hj],hk.mono hle,hv.mono hle,?_,hki⟩
       obtain ⟨⟨x,y⟩,hxy⟩:∃p,es[i]?=some p:=⟨_,gl g6⟩
       obtain ⟨e',e1,_,_,e4,_⟩:=a7 i x y hxy
       rw [hj]at e1;cases e1
       exact e4
      .rw [gc (λe=>hij e.symm)]at hab
       obtain ⟨e',e1,e2,e3,e4,e5⟩:=a7 i a b hab
       exact ⟨e',by simp[iq,e1,show ¬j=i from λe=>hij e.symm],e2.mono hle,e3.mono hle,e4,e5⟩)
     refine ⟨_,_,?_,q1,q2⟩
     simp only[ip,run_underlying h1,bf,bg,io a5,hck,g1,hj,dz,gv,g3,hkeep kv,ir _ a5]
    .obtain ⟨q1,q2⟩:=hsound (ces.push { key:=kv,val:=vv,born:=es.length }) (es.length+1) (by rw[g3];simp) (by rw[g3];simp[a6]) (λC' hle i a b hab=>by
      rw [g3]at hab
      rcases bh i es.length with hi' | hi'
      .rw [cq hi']at hab
       obtain ⟨e',e1,e2,e3,e4,e5⟩:=a7 i a b hab
       exact ⟨e',by rw[iw];simp[show i≠ces.size by omega,e1],e2.mono hle,e3.mono hle,e4,e5⟩
      .rw [ct hi']at hab
       have : i=es.length:=by
        have :=(ab.1 hab).1
        simp at this;omega
       subst this
       simp at hab
       obtain ⟨rfl,rfl⟩:=hab
       exact ⟨{ key:=kv,val:=vv,born:=es.length },by rw[iw];simp[a6],hk.mono hle,hv.mono hle,rfl,hki⟩)
     refine ⟨_,_,?_,q1,q2⟩
     simp only[ip,run_underlying h1,bf,bg,io a5,hck,g1,ir _ a5]
   .cases h
  .cases h
 .cases h
theorem Zi {k:PV}:∀ {es:List (PV×PV)} {j:Nat},j<es.length->(∀v,CR es k v=es.set j (k,v))->Qj es k=j
 | [],j,hj,_=>by simp at hj
 | e :: es,j,hj,h=>by
  by_cases hs:DO k e.1=true
  .cases j with
   | zero=>simp[Qj,hs]
   | succ j =>
    exfalso
    have h1:=h (.bool true)
    have h2:=h (.bool false)
    simp only[CR,hs,if_true,List.set_cons_succ,ix]at h1 h2
    have := h1.1.trans h2.1.symm
    simp at this
  .cases j with
   | zero =>
    exfalso
    have h1:=h (.bool true)
    have h2:=h (.bool false)
    rw [CR,if_neg hs,List.set_cons_zero,ix]at h1 h2
    have := h1.1.symm.trans h2.1
    simp at this
   | succ j =>
    have := Zi (k:=k) (es:=es) (j:=j) (by simpa using hj) λv=>by
     have := h v
     simpa [CR,hs]using this
    simp [Qj,hs,this]
theorem QZ {k:PV}:∀ {es:List (PV×PV)},Cd es k=none->Qj es k=es.length
 | [],_=>rfl
 | e::es,h=>by
  unfold Cd at h
  split at h
  .cases h
  .rename_i hs
   simp [Qj,hs,QZ h]
theorem Inv.putMap (hi:Inv C st w) {id g:Nat} {mk:MK} {es es':List (PV×PV)} (ho:st.obj id=some (.map g mk es)) {L:Loc} (hL:C.loc id=some L) (hat:ObjAt C w L (.map g mk es))
  (ces' : Array MapEntry) (clock':Nat) (hcl:clock'=es'.length) (hsz:ces'.size=es'.length)
  (hent : ∀C':Ctx,C.le C'->∀(i:Nat) (a b:PV),es'[i]?=some (a,b)->∃e:MapEntry,ces'[i]?=some e/\VR C' e.key a/\VR C' e.val b/\e.born=i/\BN mk a=true) :
  C.le (C.set id L)/\Inv (C.set id L) (st.set id (.map g mk es')) { w with heap:=w.heap.setIfInBounds L.blk (.map ces' clock') }:=by
 obtain ⟨a1,a2,a3,a4,ces,a5,a6,a7⟩:=hat
 have hb:C.born id:=(hi.obj id _ ho).1
 have hlt:id<st.next:=by
  rcases bh id st.next with h | h
  .exact h
  .exact absurd hb (hi.next id h)
 have hblk:L.blk<w.heap.size:=(ai.1 a5).1
 exact hi.put (id:=id) (nx:=st.next) (o:=.map g mk es') (L':=L) (.inl ⟨L,hL,.inl rfl⟩) (.inr (.inr ⟨L,hL,rfl,by omega⟩))
  (λb hb hne=>by simp[fw (Ne.symm (hne L hL (by omega)))]) (by simp)
  (λhle=>⟨a1,a2,a3,a4,ces',by simp[hblk,hcl],hsz,hent _ hle⟩) (cg _) hlt
theorem Alx {u v:Value} {p q:PV} (hu:VR C u p) (hv:VR C v q):VR C (.tuple #[u,v]) (.tuple [p,q]):=.tuple _ _ rfl (λi r hq=>by
 match i,hq with
 | 0,hq=>simp at hq;subst hq;exact hu
 | 1,hq=>simp at hq;subst hq;exact hv
 | n+2,hq=>simp at hq)
theorem Qm (hi:Inv C st w) {t:TypeId} {m kv:Value} {pm k q:PV} {st':Store} (hm:VR C m pm) (hk:VR C kv k) (h:EG st (AW P t) pm k=some (q,st')) :
  ∃ v w' C',(iy t m kv).run P w=.ok v w'/\C.le C'/\Inv C' st' w'/\VR C' v q:=by
 unfold EG at h
 simp only[au]at h
 obtain ⟨⟨mk,z⟩,ht,h⟩:=h
 dsimp only at h
 split at h
 .rename_i id gen
  split at h
  .rename_i g mk' es ho
   split at h
   .rename_i hc
    obtain ⟨rfl,rfl,hki⟩:=hc
    simp only[bp,c9]at h
    obtain ⟨rfl,rfl⟩:=h
    obtain ⟨kt,et,i,zv,h1,h2,h3,rfl,h5⟩:=DT ht
    have hz:(zeroValue et).run P w=.ok zv w:=by simp[zeroValue,typeInfo,h2,h3]
    have hzr:∀ {C:Ctx},VR C zv (Bn zv):=CH zv
    have hck:∀b,(ij b 10000 kt kv).run P w=.ok () w:=λb=>FF h5 hk hki b
    obtain ⟨L,hL,hb,hat,rfl⟩:=hi.map ho hm
    have hput:=λ(es':List (PV×PV)) (ces':Array MapEntry) (clock':Nat)=>Inv.putMap (es':=es') hi ho hL hat ces' clock'
    obtain ⟨a1,a2,a3,a4,ces,a5,a6,a7⟩:=hat
    have hfn:=EJ (w:=w) h5 hk hki ces.toList es (by simpa using a6) (λi a b h=>by
     obtain ⟨e,e1,e2,e3,e4,e5⟩:=a7 i a b h
     exact ⟨e,by simpa using e1,e2,e3,e5⟩)
    rcases hfn with ⟨j,e,q',g1,g2,g3,g4,g5,g6,g7⟩ | ⟨g1,g2,g3⟩
    .have hj:ces[j]?=some e:=by simpa using g2
     have hjl:j<ces.size:=(ai.1 hj).1
     have hborn:e.born=j:=by
      obtain ⟨⟨x,y⟩,hxy⟩:∃p,es[j]?=some p:=⟨_,gl g6⟩
      obtain ⟨e',e1,_,_,e4,_⟩:=a7 j x y hxy
      rw [hj]at e1;cases e1
      exact e4
     rw [g4,Zi g6 g7]
     simp only[gv]
     obtain ⟨q1,q2⟩:=hput (CR es k q') (ces.modify j λe=>{ e with key:=kv }) es.length (by rw[g7];simp) (by rw[g7];simp[a6]) (λC' hle i a b hab=>by
      rw [g7]at hab
      by_cases hij:i=j
      .subst hij
       rw [gb g6]at hab
       simp only[bp,c9]at hab
       obtain ⟨rfl,rfl⟩:=hab
       exact ⟨{ e with key:=kv },by simp[iq,hj],hk.mono hle,g5.mono hle,hborn,hki⟩
      .rw [gc (λe=>hij e.symm)]at hab
       obtain ⟨e',e1,e2,e3,e4,e5⟩:=a7 i a b hab
       exact ⟨e',by simp[iq,e1,show ¬j=i from λe=>hij e.symm],e2.mono hle,e3.mono hle,e4,e5⟩)
     refine ⟨.tuple #[e.val,.int .i64 j],_,_,?_,q1,q2,Alx (g5.mono q1) (.int _ _)⟩
     simp only[iy,run_underlying h1,bf,bg,io a5,hck,g1,hj,dz,gv,g3,IY h5 hk hki,ir _ a5]
     simp [goInt,hborn]
    .rw [g2,QZ g2]
     simp only[Option.getD_none]
     obtain ⟨q1,q2⟩:=hput (CR es k (Bn zv)) (ces.push { key:=kv,val:=zv,born:=es.length }) (es.length+1) (by rw[g3];simp) (by rw[g3];simp[a6]) (λC' hle i a b hab=>by
      rw [g3]at hab
      rcases bh i es.length with hi' | hi'
      .rw [cq hi']at hab
       obtain ⟨e',e1,e2,e3,e4,e5⟩:=a7 i a b hab
       exact ⟨e',by rw[iw];simp[show i≠ces.size by omega,e1],e2.mono hle,e3.mono hle,e4,e5⟩
      .rw [ct hi']at hab
       have : i=es.length:=by
        have :=(ab.1 hab).1
        simp at this;omega
       subst this
       simp at hab
       obtain ⟨rfl,rfl⟩:=hab
       exact ⟨{ key:=kv,val:=zv,born:=es.length },by rw[iw];simp[a6],hk.mono hle,hzr,rfl,hki⟩)
     refine ⟨.tuple #[zv,.int .i64 es.length],_,_,?_,q1,q2,Alx hzr (.int _ _)⟩
     simp only[iy,run_underlying h1,bf,bg,io a5,hck,g1,hz,ir _ a5]
     simp [goInt]
   .cases h
  .cases h
 .cases h
theorem Ot (hi:Inv C st w) {t:TypeId} {m s x:Value} {pm ps px:PV} {st':Store} (hm:VR C m pm) (hs:VR C s ps) (hx:VR C x px) (h:GR st pm ps px=some st') :
  ∃ w' C',(iz t m s x).run P w=.ok () w'/\C.le C'/\Inv C' st' w':=by
 unfold GR at h
 split at h
 .rename_i id gen kk n
  split at h
  .rename_i g mk es ho
   split at h
   .rename_i hc
    obtain ⟨rfl,hn⟩:=hc
    simp only[az]at h
    obtain ⟨⟨ka,vb⟩,he,rfl⟩:=h
    obtain ⟨L,hL,hb,hat,rfl⟩:=hi.map ho hm
    have hput:=λ(es':List (PV×PV)) (ces':Array MapEntry) (clock':Nat)=>Inv.putMap (es':=es') hi ho hL hat ces' clock'
    obtain ⟨a1,a2,a3,a4,ces,a5,a6,a7⟩:=hat
    obtain ⟨j,rfl⟩:∃j:Nat,n=j:=⟨n.toNat,by omega⟩
    simp only[Int.toNat_natCast]at he ⊢
    have hjl:j<es.length:=(ab.1 he).1
    obtain ⟨e,f1,f2,f3,f4,f5⟩:=a7 j ka vb he
    have hfind:ces.findIdx? (λe=>(e.born:Int)==(j:Int))=some j:=by
     rw [Array.findIdx?_eq_some_iff_getElem]
     have hlt:j<ces.size:=by omega
     refine ⟨hlt,?_,λi hij=>?_⟩
     .have : ces[j]=e:=by
       have :=(ai.1 f1).2;exact this
      simp [this,f4]
     .obtain ⟨⟨xa,yb⟩,hxy⟩:∃p,es[i]?=some p:=⟨_,gl (by omega)⟩
      obtain ⟨e',e1,_,_,e4,_⟩:=a7 i xa yb hxy
      have : ces[i]=e':=(ai.1 e1).2
      simp [this,e4]
      omega
    obtain ⟨q1,q2⟩:=hput (es.set j (ka,px)) (ces.modify j λe=>{ e with val:=x }) es.length (by simp) (by simp[a6]) (λC' hle i a b hab=>by
     by_cases hij:i=j
     .subst hij
      rw [gb hjl]at hab
      simp only[bp,c9]at hab
      obtain ⟨rfl,rfl⟩:=hab
      exact ⟨{ e with val:=x },by simp[iq,f1],f2.mono hle,hx.mono hle,f4,f5⟩
     .rw [gc (λe=>hij e.symm)]at hab
      obtain ⟨e',e1,e2,e3,e4,e5⟩:=a7 i a b hab
      exact ⟨e',by simp[iq,e1,show ¬j=i from λe=>hij e.symm],e2.mono hle,e3.mono hle,e4,e5⟩)
    refine ⟨_,_,?_,q1,q2⟩
    have := Cr hs
    simp only[iz,bf,bg,io a5,this,asInt,asIntOf,c8,hfind,ir _ a5]
   .cases h
  .cases h
 .cases h
theorem Sb (hi:Inv C st w) {t ty:TypeId} {m:Value} {pm:PV} {n:Int} {q:MK×PV} (hq:AW P t=some q) (hm:VR C m pm) (h:IM st (some q) pm=some n) :
  (ee #[t] ty #[m]).run P w=.ok (.int .i64 n) w:=by
 obtain ⟨mk,z⟩:=q
 obtain ⟨kt,et,i,zv,h1,h2,h3,rfl,h5⟩:=DT hq
 simp only[IM,aw]at h
 split at h
 .simp only[bp]at h;subst h
  cases hm
  simp [ee,run_underlying h1,goInt]
 .split at h
  .rename_i id gen g mk' es ho
   split at h
   .rename_i hg;subst hg
    simp only[bp]at h;subst h
    obtain ⟨L,hL,hb,hat,rfl⟩:=hi.map ho hm
    obtain ⟨a1,a2,a3,a4,ces,a5,a6,a7⟩:=hat
    simp [ee,run_underlying h1,io a5,goInt,a6]
   .cases h
  .cases h
 .cases h
theorem Inv.newBlk (hi:Inv C st w) {o:IObj} {ob:Obj} (hat:∀C':Ctx,C.le C'->C'.imm=C.imm->C'.B=C.B->ObjAt C' (w.alloc ob) ⟨w.heap.size,0,0,1,0⟩ o) :
  C.le (C.set st.next ⟨w.heap.size,0,0,1,0⟩)/\Inv (C.set st.next ⟨w.heap.size,0,0,1,0⟩) (st.new o) (w.alloc ob) :=
 hi.put (id:=st.next) (nx:=st.next+1) (o:=o) (L':=⟨w.heap.size,0,0,1,0⟩) (.inr (hi.next _ (cg _))) (.inr (.inl (cg _)))
  (λb hb _=>aj w _ hb) (by simp) (λhle=>hat _ hle rfl rfl) (by omega) (by omega)
theorem Ou {w:World} {ob:Obj}:(w.alloc ob).heap[w.heap.size]?=some ob:=(MapKept.heap_alloc w ob).1
theorem Uf (hi:Inv C st w) {b:Nat}:VR (C.set st.next ⟨b,0,0,1,0⟩) (.map (some b)) (.mref st.next 0) :=
 .mref _ _ _ rfl (.inl rfl) (λL hL=>by simp[fp]at hL;subst hL;exact cg _) (λL hL _=>by simp[fp]at hL;subst hL;rfl)
theorem Ug (hi:Inv C st w) {b:Nat}:VR (C.set st.next ⟨b,0,0,1,0⟩) (.pointer (some ⟨b,0,none⟩)) (.iter st.next 0) :=
 .iter _ _ _ rfl (.inl rfl) (λL hL=>by simp[fp]at hL;subst hL;exact cg _) (λL hL _=>by simp[fp]at hL;subst hL;rfl)
theorem Qn (hi:Inv C st w) (mk:MK) :
  C.le (C.set st.next ⟨w.heap.size,0,0,1,0⟩)/\Inv (C.set st.next ⟨w.heap.size,0,0,1,0⟩) (st.new (.map 0 mk [])) (w.alloc (.map #[] 0)) :=
 hi.newBlk λC' hle he hB=>⟨rfl,rfl,by rw[hB];exact hi.hB,λo=>by rw[he];exact hi.immLt (cg _),#[],Ou,rfl,by intro i k v h;simp at h⟩
theorem Ov (hi:Inv C st w) {t:TypeId} {m:Value} {pm p:PV} {st':Store} (hm:VR C m pm) (h:FA st (AW P t) pm=some (p,st')) :
  ∃ v w' C',(i6 t m).run P w=.ok v w'/\C.le C'/\Inv C' st' w'/\VR C' v p:=by
 unfold FA at h
 simp only[au]at h
 obtain ⟨⟨mk,z⟩,ht,h⟩:=h
 obtain ⟨kt,et,i,zv,h1,h2,h3,rfl,h5⟩:=DT ht
 split at h
 .simp only[bp,c9]at h;obtain⟨rfl,rfl⟩:=h
  cases hm
  obtain ⟨q1,q2⟩:=hi.newBlk (o:=.it none 0 []) (ob:=.mapIter none 0 #[] 0) λC' hle he hB=>⟨rfl,rfl,by rw[hB];exact hi.hB,λo=>by rw[he];exact hi.immLt (cg _),i7,by simp,rfl,Ou⟩
  exact ⟨_,_,_,by simp[i6,run_underlying h1],q1,q2,Ug hi⟩
 .rename_i id gen
  split at h
  .rename_i g mk' es ho
   split at h
   .rename_i hg;subst hg
    simp only[bp,c9]at h;obtain⟨rfl,rfl⟩:=h
    have hm':=hm
    obtain ⟨L,hL,hb,hat,rfl⟩:=hi.map ho hm
    obtain ⟨a1,a2,a3,a4,ces,a5,a6,a7⟩:=hat
    obtain ⟨q1,q2⟩:=hi.newBlk (o:=.it (some (id,gen)) es.length []) (ob:=.mapIter (some L.blk) es.length #[] es.length) λC' hle he hB=>by
     have hmC:=hm'.mono hle
     cases hmC with
     | mref _ _ _ m1 m2 m3 m4 =>
      refine ⟨rfl,rfl,by rw[hB];exact hi.hB,λo=>by rw[he];exact hi.immLt (cg _),i7,by simp,m2,m3,L.blk,λLm hLm hgm=>?_,Ou⟩
      have := m4 Lm hLm hgm
      simpa using this
    exact ⟨_,_,_,by simp[i6,run_underlying h1,io a5],q1,q2,Ug hi⟩
   .cases h
  .cases h
 .cases h
theorem Inv.it (hi:Inv C st w) {id n:Nat} {m:Option (Nat×Nat)} {seen:List Nat} (ho:st.obj id=some (.it m n seen)) {v:Value} (hv:VR C v (.iter id 0)) :
  ∃ L,C.loc id=some L/\C.born id/\ObjAt C w L (.it m n seen)/\v=.pointer (some ⟨L.blk,0,none⟩):=by
 obtain ⟨hb,L,hL,hat⟩:=hi.obj id _ ho
 cases hv with
 | iter _ _ _ h1 h2 h3 h4=>exact⟨L,hL,hb,hat,h4 L hL hat.1.symm⟩
theorem Ow (hi:Inv C st w) {x:Value} {px p:PV} (hx:VR C x px) (h:mapEntry st px=some p) :
  ∃ v,(i8 x).run P w=.ok v w/\VR C v p:=by
 unfold mapEntry at h
 split at h
 .rename_i id
  split at h
  .rename_i m g n seen ho
   split at h
   .rename_i g' mk es hom
    split at h
    .rename_i hc
     obtain ⟨rfl,rfl⟩:=hc
     simp only[au,az]at h
     obtain ⟨i,hlast,⟨k,v⟩,hes,rfl⟩:=h
     obtain ⟨L,hL,hb,hat,rfl⟩:=hi.it ho hx
     obtain ⟨b1,b2,b3,b4,b5,b6,b7,b8,mb,b9,b10⟩:=hat
     obtain ⟨hbm,Lm,hLm,hatm⟩:=hi.obj m _ hom
     have hmb:=b9 Lm hLm hatm.1.symm
     subst hmb
     obtain ⟨a1,a2,a3,a4,ces,a5,a6,a7⟩:=hatm
     obtain ⟨e,e1,e2,e3,e4,e5⟩:=a7 i k v hes
     have hget:(getObj L.blk).run P w=.ok (.mapIter (some Lm.blk) es.length seen.toArray es.length) w:=by simp[getObj,Sem.run,b10]
     have hback:seen.toArray.back?=some i:=by simpa using hlast
     have hfind:ces.find? (λe=>e.born==i)=some e:=by
      obtain ⟨hlt,hget'⟩:=ai.1 e1
      rw [Array.find?_eq_some_iff_getElem]
      refine ⟨by simp[e4],i,hlt,hget',λj hj=>?_⟩
      obtain ⟨⟨a,b⟩,hab⟩:∃p,es[j]?=some p:=⟨_,gl (by omega)⟩
      obtain ⟨e',f1,_,_,f4,_⟩:=a7 j a b hab
      have : ces[j]=e':=(ai.1 f1).2
      rw [this];simp[f4];omega
     refine ⟨.tuple #[e.key,e.val],?_,.tuple _ _ rfl (λj q hq=>?_)⟩
     .simp [i8,hget,hback,io a5,hfind]
     .match j,hq with
      | 0,hq=>simp at hq;subst hq;exact e2
      | 1,hq=>simp at hq;subst hq;exact e3
      | n+2,hq=>simp at hq
    .cases h
   .cases h
  .cases h
 .cases h
theorem Qo (hi:Inv C st w) {x:Value} {px:PV} {ty:TypeId} {K:PV->Store->Prop} (hx:VR C x px) (h:EH st px K) :
  ∃ v w' C' p st',(Instr.next x false ty).run P w=.ok v w'/\C.le C'/\Inv C' st' w'/\VR C' v p/\K p st':=by
 have one:VR C (.tuple #[.bool false]) (.tuple [.bool false]):=.tuple _ _ rfl (λj q hq=>by
  match j,hq with
  | 0,hq=>simp at hq;subst hq;exact .bool false
  | n+1,hq=>simp at hq)
 unfold EH at h
 split at h
 .rename_i id
  split at h
  .rename_i n seen ho
   obtain ⟨L,hL,hb,hat,rfl⟩:=hi.it ho hx
   obtain ⟨b1,b2,b3,b4,b5,b6,b7,b8⟩:=hat
   have hget:(getObj L.blk).run P w=.ok (.mapIter none 0 #[] 0) w:=by simp[getObj,Sem.run,b8]
   exact ⟨_,w,C,_,st,by simp[Instr.next,hget],fg C,hi,one,h⟩
  .rename_i m g n seen ho
   split at h
   .rename_i g' mk es hom
    obtain ⟨rfl,rfl,hend,hstep⟩:=h
    obtain ⟨L,hL,hb,hat,rfl⟩:=hi.it ho hx
    obtain ⟨b1,b2,b3,b4,b5,b6,b7,b8,mb,b9,b10⟩:=hat
    obtain ⟨hbm,Lm,hLm,hatm⟩:=hi.obj m _ hom
    have hmb:=b9 Lm hLm hatm.1.symm
    subst hmb
    obtain ⟨a1,a2,a3,a4,ces,a5,a6,a7⟩:=hatm
    have hborn:∀x∈ces.toList,x.born<es.length:=λx hx=>by
     obtain ⟨i,hix⟩:=bt.1 hx
     have hlt:i<es.length:=by have:=(ab.1 hix).1;simp at this;omega
     obtain ⟨e,e1,_,_,e4,_⟩:=a7 i _ _ (gl hlt)
     have : ces[i]?=some x:=by simpa using hix
     rw [this]at e1;cases e1;omega
    rcases run_next_at (P:=P) w ty L.blk Lm.blk es.length es.length seen.toArray ces es.length b10 a5 hborn (cg _)with ⟨hl,hrun⟩ | ⟨e,he,w1,hw1,hrun⟩
    .refine ⟨_,w,C,_,st,hrun,fg C,hi,one,hend ?_⟩
     -- all have been
     have hall:∀i,i<es.length->i∈seen:=λi hlt=>by
      obtain ⟨e,e1,_,_,e4,_⟩:=a7 i _ _ (gl hlt)
      have hem:e∈ces:=Array.mem_of_getElem? e1
      by_cases hs:i∈seen
      .exact hs
      .have : e∈leftOf ces seen.toArray:=by simp[leftOf,hem,e4,hs]
       have h0:=Array.size_pos_of_mem this
       omega
     have h1:es.length<=seen.length:=by
      have hsub:br es.length ⊆ seen:=λi hi'=>hall i (gz.1 hi')
      have :=(List.nodup_range (n:=es.length)).length_le_of_subset hsub
      simpa using this
     have h2:seen.length<=es.length:=by
      have hsub:seen ⊆ br es.length:=λi hi'=>gz.2 (b6 i hi')
      have := b5.length_le_of_subset hsub
      simpa using this
     omega
    .have he2:e∈ces/\¬e.born∈seen:=by simpa [leftOf]using he
     obtain ⟨i,hix⟩:=Array.mem_iff_getElem?.1 he2.1
     have hlt:i<es.length:=by have:=(ai.1 hix).1;omega
     obtain ⟨e',e1,e2,e3,e4,e5⟩:=a7 i _ _ (gl hlt)
     rw [hix]at e1;cases e1
     have hlt0:id<st.next:=by
      rcases bh id st.next with h | h
      .exact h
      .exact absurd hb (hi.next id h)
     have hi1:Inv C st w1:=by
      rcases hw1 with rfl | rfl
      .exact hi
      .exact hi.heap rfl
     have hw1h:w1.heap=w.heap:=by rcases hw1 with rfl | rfl <;> rfl
     have hblk:L.blk<w1.heap.size:=by rw[hw1h];exact (ai.1 b10).1
     have hns:e.born ∉ seen:=he2.2
     obtain ⟨q1,q2⟩:=hi1.put (id:=id) (nx:=st.next) (o:=.it (some (m,g)) es.length (seen ++ [i])) (L':=L) (w':=i9 w1 L.blk (.mapIter (some Lm.blk) es.length (seen.toArray.push e.born) es.length)) (.inl ⟨L,hL,.inl rfl⟩) (.inr (.inr ⟨L,hL,rfl,by omega⟩))
      (λb hb hne=>by simp[i9,fw (Ne.symm (hne L hL (by omega)))]) (by simp[i9])
      (λhle=>by
       refine ⟨b1,b2,b3,b4,?_,?_,hle.born _ b7,hle.genle b7 b8,Lm.blk,hle.live b7 b8 (R:=λK=>Lm.blk=K.blk) b9,?_⟩
       .rw [List.nodup_append]
        refine ⟨b5,by simp,?_⟩
        intro a ha b hb
        simp at hb;subst hb
        rintro rfl
        exact hns (by rw[e4];exact ha)
       .intro j hj
        rcases List.mem_append.1 hj with hj | hj
        .exact b6 j hj
        .simp at hj;subst hj;exact hlt
       .simp [i9,hblk,e4]) (cg _) hlt0
     refine ⟨_,_,_,_,_,hrun,q1,q2,?_,hstep i _ _ (gl hlt) (by rw[<-e4];exact hns)⟩
     refine .tuple _ _ rfl (λj q hq=>?_)
     match j,hq with
     | 0,hq=>simp at hq;subst hq;exact .bool true
     | 1,hq=>simp at hq;subst hq;exact e2.mono q1
     | 2,hq=>simp at hq;subst hq;exact e3.mono q1
     | n+3,hq=>simp at hq
   .exact h.elim
  .exact h.elim
 .exact h.elim
theorem lM (hi:Inv C st w) {y:Value} {py:PV} (hy:VR C y py) {ys:List PV} {z:Nat} (hz:0<z) (hs:∀s,py≠.str s) (h:CD st z py=some ys) (m:Nat) (hm:m<=ys.length) :
  ∃ a len cap news,y=.slice a len cap/\len=ys.length/\Src P C w z (.slice a m cap) (ys.take m) news:=by
 cases py <;> simp only[CD,reduceCtorEq]at h
 case nils =>
  cases hy
  simp at h;subst h
  simp at hm;subst hm
  exact ⟨none,0,0,[],rfl,rfl,K6⟩
 case lits z' l =>
  split at h
  .rename_i hzz
   simp at h;subst h;subst hzz
   cases hy with
   | lits b o size cap _ hcap hmax hszz hl hi' hv =>
    have hy':VR C (.slice (some ⟨b,o,none⟩) (l.take m).length cap) (.lits z' (l.take m)):=by
     refine .lits b o z' cap (l.take m) (by simp;omega) hmax hszz (λe he=>hl e (dh he)) (λi j hi1 hj=>hi' i j (by simp at hi1;omega) hj) (λi j e c he hc=>hv i j e c ?_ hc)
     simp only[bu]at he
     split at he
     .exact he
     .cases he
    obtain ⟨news,hn⟩:=GU (P:=P) hi hy' hz (ys:=l.take m) (by simp[CD])
    rw [show (l.take m).length=m by simp;omega]at hn
    exact ⟨_,_,_,news,rfl,rfl,hn⟩
   | lits0 a cap z =>
    simp at hm;subst hm
    exact ⟨a,0,cap,[],rfl,rfl,K6⟩
  .cases h
 case ref id gen s n =>
  have h0:=h
  cases hes:st.arr? id gen with
  | none=>rw[hes]at h;cases h
  | some q =>
   obtain ⟨z',es⟩:=q
   rw [hes]at h
   simp only[aw]at h
   split at h
   .rename_i hsn
    obtain ⟨hsn,hz'⟩:=hsn
    simp at h
    have hyl:ys.length=n:=by subst h;simp;omega
    obtain ⟨K,hK,hb,hg,hKz,hzz,hcap,hat⟩:=hi.arr hes
    cases hy with
    | ref _ _ _ _ _ hv hb' hg' hr =>
     obtain ⟨a,rfl,h10,h11⟩:=hr K hK hg.symm
     have hy':VR C (.slice a m (K.cap-s)) (.ref id gen s m):=.ref _ _ _ _ _ rfl hb' hg' (λL hL hgl=>by
      rw [hK]at hL;cases hL
      exact ⟨a,rfl,by omega,h11⟩)
     obtain ⟨news,hn⟩:=GU (P:=P) hi hy' hz (ys:=ys.take m) (by
      simp only[CD,hes,aw]
      rw [if_pos ⟨by omega,hz'⟩,<-h]
      simp [List.take_take,Nat.min_eq_left (show m<=n by omega)])
     exact ⟨a,n,_,news,rfl,hyl.symm,hn⟩
   .cases h
 case str s=>exact absurd rfl (hs s)
theorem WK (hi:Inv C st w) {x y:Value} {px py:PV} (hx:VR C x px) (hy:VR C y py) {t u ty:TypeId} {n:Nat} {st':Store} (h:TY st (Ae P t) px py=some (n,st')) :
  ∃ w' C',(ja #[t,u] ty #[x,y]).run P w=.ok (.int .i64 n) w'/\C.le C'/\Inv C' st' w':=by
 unfold TY at h
 split at h
 .rename_i id gen s n'
  simp only[au]at h
  obtain ⟨⟨z',es⟩,hes,h⟩:=h
  dsimp only at h
  split at h
  .rename_i hc
   obtain ⟨hsn,hz',hz,hns⟩:=hc
   simp only[au,bp,c9]at h
   obtain ⟨ys,hys,rfl,rfl⟩:=h
   have hnstr:∀s,py≠.str s:=λs e=>by subst e;simp[PV.isStr]at hns
   obtain ⟨e,i,zv,he,hin,hzv,hsz,hz16,hby,hzs,hzc,hcell,hel,hz0⟩:=BC (t:=t) rfl hz
   obtain ⟨a2,len2,cap2,news,rfl,hl2,hsrc⟩:=lM (P:=P) hi hy hz hnstr hys (min ys.length n') (by omega)
   subst len2
   obtain ⟨K,hK,hb,hg,hKz,hzz,hcap,hat⟩:=hi.arr hes
   rw [hz']at hKz hzz
   have hylen:(ys.take (min ys.length n')).length=min ys.length n':=by simp
   cases hx with
   | ref _ _ _ _ _ hv hb' hg' hr =>
    obtain ⟨a,rfl,h10,h11⟩:=hr K hK hg.symm
    have hfc:(ej (Ae P t) (min ys.length n') (.slice a2 ys.length cap2)).run P w=.ok news.toArray w:=by
     have := hsrc.2.2.1 w rfl
     rw [hylen]at this
     cases a2 <;> exact this
    rcases ao (min ys.length n')with h0 | h0
    .have hn0:news = []:=fo (by rw[hsrc.1,hylen,h0];simp)
     subst hn0
     refine ⟨w,C,?_,fg C,?_⟩
     .rw [h0]at hfc
      cases a <;> simp[ja,run_underlying he,bd,typeInfo,hin,hsz,ef,show Nat.min ys.length n'=0 from h0,hfc,goInt,h0,storeCells]
     .rw [h0]
      simp only[List.take_zero,List.append_nil,fm,List.take_append_drop]
      rw [<-hz']
      exact hi.sameObj (arr?_parts hes)
    .obtain ⟨h5,h6,cur,T,h7,h8,h9⟩:=hat (by omega)
     have ha:=h11 (by omega)
     rw [hKz]at ha h9
     have hnl:news.length=min ys.length n'*Ae P t:=by rw[hsrc.1,hylen]
     have hmb:=ff K.size (show s+min ys.length n'<=K.cap by omega)
     rw [de,hKz]at hmb
     have hfit2:K.off+s*Ae P t+news.length<=cur.size:=by rw[hnl];rw[hKz]at h8;omega
     have hst:=run_storeCells_at P K.blk (K.off+s*Ae P t) T news 0 cur w h7 (by simpa using hfit2) (hsrc.one hz)
     simp only[fm]at hst
     have hcells:∀i e,(es.take s++ys.take (min ys.length n')++es.drop (s+min ys.length n'))[i]?=some e->CellsAt C (cur.toList.take (K.off+s*Ae P t)++news++cur.toList.drop (K.off+s*Ae P t+news.length)).toArray (K.off+i*K.size) K.size e:=by
      intro i e hie
      rw [hKz]
      refine Hq (ys:=ys.take (min ys.length n')) hsrc.1 hfit2 h9 hsrc.2.2.2 ?_
      rw [hylen]
      have hlen1:(es.take s).length=s:=by simp;omega
      by_cases hin':s<=i/\i<s+min ys.length n'
      .refine .inl ⟨hin'.1,?_⟩
       rw [co,ct (by omega),hlen1,cq (by omega)]at hie;exact hie
      .refine .inr ⟨hin',?_⟩
       rcases bh i s with h18 | h18
       .rw [co,cq (by omega),cr h18]at hie;exact hie
       .have hlen2:(es.take s++ys.take (min ys.length n')).length=s+min ys.length n':=by rw[List.length_append,hlen1,hylen]
        rw [ct (by omega),hlen2,bv]at hie
        rw [show i=s+min ys.length n'+(i-(s+min ys.length n')) by omega];exact hie
     obtain ⟨C',h12,h13,h14,h15⟩:=hi.reArr (gen':=gen) (L':=K) hes hK (by omega) (.inl rfl) hg rfl (by omega) (by simp;omega) (hi.arrMax hes hK) h7 (by rw[Fj hfit2];exact h8) hcells
     rw [hKz]at h13
     refine ⟨_,C',?_,h12,h13⟩
     rw [ha]
     simp [ja,run_underlying he,bd,typeInfo,hin,hsz,ef,show Nat.min ys.length n'=min ys.length n' from rfl,hfc,hst,goInt]
  .cases h
 .cases h
end
end Sim
