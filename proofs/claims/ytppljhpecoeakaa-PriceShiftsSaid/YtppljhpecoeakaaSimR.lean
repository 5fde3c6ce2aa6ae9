/- Values through the store: reading them, and making an object immutable. -/
import Derived.Test.YtppljhpecoeakaaSimK
set_option linter.unusedVariables false
set_option linter.unusedSimpArgs false
namespace Sim
open Go
theorem B3 {l:List PV} (h:AN l=true):∀p∈l,p.pur=true:=by
  induction l with
  | nil=>simp
  | cons a l ih =>
    simp only[AN,Bool.and_eq_true]at h
    intro p hp
    rcases List.mem_cons.1 hp with rfl | hp
    · exact h.1
    · exact ih h.2 p hp
theorem Rq {l:List PV} (h:∀p∈l,p.pur=true):AN l=true:=by
  induction l with
  | nil=>rfl
  | cons a l ih=>simp only[AN,Bool.and_eq_true];exact⟨h a (by simp),ih fun p hp=>h p (by simp[hp])⟩
theorem Kr {α:Type} {f:α→PV} {l:List α} (h:∀x,(f x).pur=true):AN (l.map f)=true :=
  Rq fun p hp=>by obtain⟨x,_,rfl⟩:=List.mem_map.1 hp;exact h x
theorem Ym {e:PV} (h:e.pur=true):∀c∈e.cells,c.pur=true:=by
  cases e <;> first
    | (simp[PV.cells];done)
    | (simp only[PV.cells,List.mem_singleton,forall_eq];exact h)
    | (exact B3 h)
theorem VR.pureMono {C C':Ctx} {v:Value} {p:PV} (h:VR C v p) (hle:∀b o u,C.imm b o=some u→C'.imm b o=some u) (hp:p.pur=true):VR C' v p:=by
  have sm:∀ {b o},(C.imm b o).isSome=true→(C'.imm b o).isSome=true∧∀d,(C'.imm b o).getD d=(C.imm b o).getD d:=fun {b o} hs=>by
    obtain ⟨u,hu⟩:=Option.isSome_iff_exists.1 hs
    rw [hle _ _ _ hu,hu];exact⟨rfl,fun _=>rfl⟩
  induction h with
  | bad v=>exact .bad v
  | bool b=>exact .bool b
  | int k n=>exact .int k n
  | str s l h hm=>exact .str s l h hm
  | nilp=>exact .nilp
  | ptr=>simp[PV.pur]at hp
  | vptr b o off cells hc hi h ih =>
    simp only[PV.pur]at hp
    have hp:=B3 hp
    refine .vptr b o off cells hc (fun j hj=>(sm (hi j hj)).1) (fun j c hj=>?_)
    have hlt:j<cells.length:=(List.getElem?_eq_some_iff.1 hj).1
    rw [(sm (hi j hlt)).2]
    exact ih j c hj (hp c (List.mem_of_getElem? hj))
  | nils=>exact .nils
  | lits b o size cap l hcap hmax hsz hl hi h ih =>
    simp only[PV.pur]at hp
    have hp:=B3 hp
    refine .lits b o size cap l hcap hmax hsz hl (fun i j a b=>(sm (hi i j a b)).1) (fun i j e c he hc=>?_)
    have h1:i<l.length:=(List.getElem?_eq_some_iff.1 he).1
    have h2:j<size:=by
      have :=(hl e (List.mem_of_getElem? he)).1
      have :=(List.getElem?_eq_some_iff.1 hc).1
      omega
    rw [(sm (hi i j h1 h2)).2]
    exact ih i j e c he hc (Ym (hp e (List.mem_of_getElem? he)) c (List.mem_of_getElem? hc))
  | lits0 a cap z=>exact .lits0 a cap z
  | ref=>simp[PV.pur]at hp
  | func fn first captured pf pc hf hc h1 h2 ih1 ih2 =>
    simp only[PV.pur,Bool.and_eq_true]at hp
    exact .func fn first captured pf pc hf hc (fun i p hi=>ih1 i p hi (B3 hp.1 p (List.mem_of_getElem? hi))) (fun i p hi=>ih2 i p hi (B3 hp.2 p (List.mem_of_getElem? hi)))
  | nilf=>exact .nilf
  | iface t v p h ih=>exact .iface t v p (ih (by simpa [PV.pur]using hp))
  | nili=>exact .nili
  | agg cs l hn hc h ih =>
    simp only[PV.pur]at hp
    exact .agg cs l hn hc fun i p hi=>ih i p hi (B3 hp p (List.mem_of_getElem? hi))
  | tuple cs l hn h ih =>
    simp only[PV.pur]at hp
    exact .tuple cs l hn fun i p hi=>ih i p hi (B3 hp p (List.mem_of_getElem? hi))
  | nilm=>exact .nilm
  | mref=>simp[PV.pur]at hp
  | iter=>simp[PV.pur]at hp
inductive DR (st:Store):PV→PV→Prop where
  | pure (p:PV) (h:p.pur=true):DR st p p
  | nils (z:Nat):DR st .nils (.lits z [])
  | ref (id gen s n z:Nat) (es l:List PV) (h:st.arr? id gen=some (z,es)) (hn:s+n≤es.length) (hl:l.length=n) (hc:∀(i:Nat) (e q:PV),es[s+i]?=some e→l[i]?=some q→e.cells.length=q.cells.length∧q.isAgg=e.isAgg)
      (hs : ∀(i:Nat) (e q:PV),es[s+i]?=some e→l[i]?=some q→DR st e q):DR st (.ref id gen s n) (.lits z l)
  | agg (cs ds:List PV) (hl:cs.length=ds.length) (hc:∀c∈ds,c.isCell=true) (h:∀(i:Nat) (c d:PV),cs[i]?=some c→ds[i]?=some d→DR st c d):DR st (.agg cs) (.agg ds)
  | tuple (cs ds:List PV) (hl:cs.length=ds.length) (h:∀(i:Nat) (c d:PV),cs[i]?=some c→ds[i]?=some d→DR st c d):DR st (.tuple cs) (.tuple ds)
theorem DR.arr {st:Store} {id gen z n:Nat} {es:List PV} (h:st.arr? id gen=some (z,es)) (hn:n=es.length) (hp:AN es=true):DR st (.ref id gen 0 n) (.lits z es):=by
  subst hn
  refine .ref id gen 0 _ z es es h (by omega) rfl (fun i e q he hq=>?_) (fun i e q he hq=>?_)
  · rw [Nat.zero_add]at he
    rw [he]at hq;cases hq
    exact ⟨rfl,rfl⟩
  · rw [Nat.zero_add]at he
    rw [he]at hq;cases hq
    exact .pure _ (B3 hp e (List.mem_of_getElem? he))
def base (imm:Nat→Nat→Option Value) (w:World):Ctx:={ imm,loc:=fun _=>none,born:=fun _=>False,B:=w.heap.size,h:=fun b=>w.heap[b]?,os:=w.os,out:=w.output,keep:=fun _=>false,caller:=fun _=>false }
def DM (imm:Nat→Nat→Option Value) (n:Nat) (w':World):Nat→Nat→Option Value:=fun b o=>if b<n then imm b o else w'.cell? ⟨b,o,none⟩
theorem DR.sound {C:Ctx} {st:Store} {w:World} (hi:Inv C st w) {imm:Nat→Nat→Option Value} (himm:∀b o u,C.imm b o=some u→imm b o=some u)
    (hobj : ∀id L,C.loc id=some L→0<L.cap→∀o u,w.cell? ⟨L.blk,o,none⟩=some u→imm L.blk o=some u) {p q:PV} (h:DR st p q):∀ {v:Value},VR C v p→VR (base imm w) v q:=by
  induction h with
  | pure p hp=>intro v hv;exact hv.pureMono himm hp
  | nils z=>intro v hv;cases hv;exact .lits0 _ _ _
  | ref id gen s n z es l h hn hl hc hs ih =>
    intro v hv
    obtain ⟨L,hL,hb,hg,hLz,hz,hcap,hat⟩:=hi.arr h
    cases hv with
    | ref _ _ _ _ _ hv hb' hg' hr =>
      obtain ⟨a,rfl,h10,h11⟩:=hr L hL hg.symm
      rcases Nat.eq_zero_or_pos n with h0 | h0
      · have : l = []:=List.eq_nil_of_length_eq_zero (by omega)
        subst this;subst h0;exact .lits0 _ _ _
      · obtain ⟨_,_,cs,T,h7,h8,h9⟩:=hat (by omega)
        have ha:=h11 (by omega)
        subst ha
        rw [hLz]at h8 h9 ⊢
        rw [←hl]
        have get:∀i q,l[i]?=some q→∃e,es[s+i]?=some e:=fun i q hq=>by
          have : i<l.length:=(List.getElem?_eq_some_iff.1 hq).1
          exact ⟨_,CZ (by omega)⟩
        have cell:∀i j,i<l.length→j<z→imm L.blk (L.off+s*z+i*z+j)=some (cs.getD (L.off+(s+i)*z+j) undef):=fun i j hi' hj=>by
          have hmb:=Bg (z:=z) (show s+i<es.length by omega) hcap
          rw [Nat.add_mul]at hmb ⊢
          have hlt:L.off+(s*z+i*z)+j<cs.size:=by omega
          refine hobj id L hL (by omega) _ _ ?_
          rw [EV h7,show L.off+s*z+i*z+j=L.off+(s*z+i*z)+j by omega,Array.getElem?_eq_getElem hlt]
          simp [Array.getD,hlt]
        have qc : ∀i e q,es[s+i]?=some e→l[i]?=some q→q.cells.length=z∧(∀c∈q.cells,c.isCell=true)∧∀j c,q.cells[j]?=some c→VR (base imm w) (cs.getD (L.off+(s+i)*z+j) undef) c:=by
          intro i e q he hq
          obtain ⟨g1,g2,g3⟩:=h9 _ e he
          obtain ⟨hcl,hag⟩:=hc i e q he hq
          have ihq:=fun {v}=>@ih i e q he hq v
          -- an element by its cells
          cases hisag:e.isAgg with
          | true =>
            cases e <;> simp[PV.isAgg]at hisag
            rename_i ecs
            have hv:VR C (.agg (cs.extract (L.off+(s+i)*z) (L.off+(s+i)*z+z))) (.agg ecs):=by
              have hlt:s+i<es.length:=(List.getElem?_eq_some_iff.1 he).1
              have hmb:=Bg (z:=z) hlt hcap
              have g1':ecs.length=z:=g1
              refine .agg _ _ (by simp;omega) (fun c hc=>g2 c hc) (fun j c hj=>?_)
              have hjz:j<z:=by have:=(List.getElem?_eq_some_iff.1 hj).1;omega
              have := g3 j c hj
              have e1:(cs.extract (L.off+(s+i)*z) (L.off+(s+i)*z+z)).getD j undef=cs.getD (L.off+(s+i)*z+j) undef:=by
                have hh1:j<(cs.extract (L.off+(s+i)*z) (L.off+(s+i)*z+z)).size:=by simp;omega
                have hh2:L.off+(s+i)*z+j<cs.size:=by omega
                simp only[Array.getD,hh1,hh2,dif_pos]
                simp [Array.getElem_extract]
              rw [e1];exact this
            have hv2:=ihq hv
            cases q <;> simp[PV.isAgg]at hag
            rename_i qcs
            obtain ⟨_,hvv,k1,k2,k3⟩:=hv2.agg_get
            cases hvv
            refine ⟨by rw[←hcl];exact g1,k2,fun j c hj=>?_⟩
            have :=(k3 j c hj).2
            have hlt:s+i<es.length:=(List.getElem?_eq_some_iff.1 he).1
            have hmb:=Bg (z:=z) hlt hcap
            have hjz:j<z:=by
              have h5:j<qcs.length:=(List.getElem?_eq_some_iff.1 hj).1
              have h6:ecs.length=qcs.length:=hcl
              have h7':ecs.length=z:=g1
              omega
            have e1:(cs.extract (L.off+(s+i)*z) (L.off+(s+i)*z+z)).getD j undef=cs.getD (L.off+(s+i)*z+j) undef:=by
              have hh1:j<(cs.extract (L.off+(s+i)*z) (L.off+(s+i)*z+z)).size:=by simp;omega
              have hh2:L.off+(s+i)*z+j<cs.size:=by omega
              simp only[Array.getD,hh1,hh2,dif_pos]
              simp [Array.getElem_extract]
            rw [e1]at this;exact this
          | false =>
            have hone:e.cells = [e]:=by
              cases e <;> first | rfl | (simp[PV.isAgg]at hisag;done) | (simp[PV.cells]at g1;omega)
            have hq0:q.isAgg=false:=by rw[hag];exact hisag
            have hqone:q.cells = [q]:=by
              cases q <;> first | rfl | (simp[PV.isAgg]at hq0;done) | (rw[hone]at hcl;simp[PV.cells]at hcl;done)
            have g1':z=1:=by rw[←g1,hone];rfl
            subst g1'
            have hv2:=ihq (g3 0 e (by rw[hone];rfl))
            refine ⟨by rw[hqone];rfl,fun c hc=>?_,fun j c hj=>?_⟩
            · rw [hqone]at hc;simp at hc;subst hc
              cases c <;> first | rfl | (simp[PV.cells]at hqone;done) | (simp[PV.isAgg]at hq0;done)
            · rw [hqone]at hj
              cases j with
              | zero=>simp at hj;subst hj;exact hv2
              | succ j=>simp at hj
        refine .lits L.blk (L.off+s*z) z _ l (by omega) (by have:=hi.arrMax h hL;omega) hz (fun q hq=>?_) (fun i j hi' hj=>by show (imm _ _).isSome=true;rw[cell i j hi' hj];rfl) (fun i j q c hq hc=>?_)
        · obtain ⟨i,hi'⟩:=List.mem_iff_getElem?.1 hq
          obtain ⟨e,he⟩:=get i q hi'
          exact ⟨(qc i e q he hi').1,(qc i e q he hi').2.1⟩
        · obtain ⟨e,he⟩:=get i q hq
          obtain ⟨g1,_,g3⟩:=qc i e q he hq
          have hj:j<z:=by have:=(List.getElem?_eq_some_iff.1 hc).1;omega
          have hi':i<l.length:=(List.getElem?_eq_some_iff.1 hq).1
          show VR _ ((imm _ _).getD undef) c
          rw [cell i j hi' hj]
          exact g3 j c hc
  | agg cs ds hl hc h ih =>
    intro v hv
    obtain ⟨xs,rfl,h1,h2,h3⟩:=hv.agg_get
    refine .agg xs ds (by omega) hc (fun i d hd=>?_)
    have hi':i<cs.length:=by have:=(List.getElem?_eq_some_iff.1 hd).1;omega
    exact ih i _ d (List.getElem?_eq_getElem hi') hd (h3 i _ (List.getElem?_eq_getElem hi')).2
  | tuple cs ds hl h ih =>
    intro v hv
    cases hv with
    | tuple xs _ hn hv =>
      refine .tuple xs ds (by omega) (fun i d hd=>?_)
      have hi':i<cs.length:=by have:=(List.getElem?_eq_some_iff.1 hd).1;omega
      exact ih i _ d (List.getElem?_eq_getElem hi') hd (hv i _ (List.getElem?_eq_getElem hi'))
theorem Uy {st:Store} {p q:PV} (h:rdC st p=some q):DR st p q:=by
  unfold rdC at h
  split at h
  · rename_i id gen s n
    simp only[Option.bind_eq_some_iff]at h
    obtain ⟨⟨z,es⟩,hes,h⟩:=h
    split at h
    · rename_i hc
      obtain ⟨h1,h2⟩:=hc
      have h1:s+n≤es.length:=h1
      simp only[Option.some.injEq]at h;subst h
      have key:∀(i:Nat) (e q:PV),es[s+i]?=some e→((es.drop s).take n)[i]?=some q→e=q:=by
        intro i e q he hq
        simp only[List.getElem?_take]at hq
        split at hq
        · rw [List.getElem?_drop,he]at hq;exact Option.some.inj hq
        · cases hq
      refine .ref id gen s n z es _ hes h1 (by simp;omega) (fun i e q he hq=>?_) (fun i e q he hq=>?_)
      · rw [key i e q he hq];exact⟨rfl,rfl⟩
      · rw [←key i e q he hq];exact .pure _ (B3 h2 e (List.mem_of_getElem? he))
    · cases h
  · split at h
    · simp only[Option.some.injEq]at h;subst h;exact .pure _ (by assumption)
    · cases h
theorem WH {st:Store}:∀ {l ds:List PV},rdL st l=some ds→l.length=ds.length∧∀(i:Nat) (c d:PV),l[i]?=some c→ds[i]?=some d→rdC st c=some d
  | [],ds,h=>by simp only[rdL,Option.some.injEq]at h;subst h;exact⟨rfl,by intro i c d h;simp at h⟩
  | c::l,ds,h=>by
    simp only[rdL,Option.bind_eq_some_iff,Option.map_eq_some_iff]at h
    obtain ⟨d,hd,ds',hds,rfl⟩:=h
    obtain ⟨h1,h2⟩:=WH hds
    refine ⟨by simp[h1],fun i c' d' hc hd'=>?_⟩
    cases i with
    | zero=>simp at hc hd';subst hc;subst hd';exact hd
    | succ i=>exact h2 i c' d' (by simpa using hc) (by simpa using hd')
theorem Pt {st:Store} {p q:PV} (h:rdP st p=some q):DR st p q:=by
  unfold rdP at h
  split at h
  · simp only[Option.bind_eq_some_iff]at h
    obtain ⟨ds,hds,h⟩:=h
    split at h
    · rename_i hc
      simp only[Option.some.injEq]at h;subst h
      obtain ⟨h1,h2⟩:=WH hds
      exact .agg _ _ h1 (fun c hc'=>(List.all_eq_true.1 hc) c hc') fun i c d hc hd=>Uy (h2 i c d hc hd)
    · cases h
  · exact Uy h
theorem Ks {st:Store}:∀ {l ds:List PV},BZ st l=some ds→l.length=ds.length∧∀(i:Nat) (c d:PV),l[i]?=some c→ds[i]?=some d→DR st c d
  | [],ds,h=>by simp only[BZ,Option.some.injEq]at h;subst h;exact⟨rfl,by intro i c d h;simp at h⟩
  | c::l,ds,h=>by
    simp only[BZ,Option.bind_eq_some_iff,Option.map_eq_some_iff]at h
    obtain ⟨d,hd,ds',hds,rfl⟩:=h
    obtain ⟨h1,h2⟩:=Ks hds
    refine ⟨by simp[h1],fun i c' d' hc hd'=>?_⟩
    cases i with
    | zero=>simp at hc hd';subst hc;subst hd';exact Pt hd
    | succ i=>exact h2 i c' d' (by simpa using hc) (by simpa using hd')
theorem WI {st:Store} {p q:PV} (h:rdC st p=some q):q.pur=true:=by
  unfold rdC at h
  split at h
  · simp only[Option.bind_eq_some_iff]at h
    obtain ⟨a,_,h2⟩:=h
    split at h2
    · rename_i hc
      cases h2
      simp only[PV.pur]
      exact Rq fun x hx=>B3 hc.2 x (List.mem_of_mem_drop (List.mem_of_mem_take hx))
    · cases h2
  · split at h
    · rename_i hp;cases h;exact hp
    · cases h
theorem WJ {st:Store}:∀ {l ds:List PV},rdL st l=some ds→AN ds=true
  | [],ds,h=>by simp only[rdL,Option.some.injEq]at h;subst h;rfl
  | c::l,ds,h=>by
    simp only[rdL,Option.bind_eq_some_iff,Option.map_eq_some_iff]at h
    obtain ⟨d,hd,ds',hds,rfl⟩:=h
    simp only[AN,WI hd,WJ hds,Bool.and_self]
theorem sB {st:Store} {p q:PV} (h:rdP st p=some q):q.pur=true:=by
  unfold rdP at h
  split at h
  · simp only[Option.bind_eq_some_iff]at h
    obtain ⟨ds,h1,h2⟩:=h
    split at h2
    · cases h2;simp only[PV.pur];exact WJ h1
    · cases h2
  · exact WI h
theorem N5 {st:Store}:∀ {l ds:List PV},BZ st l=some ds→AN ds=true
  | [],ds,h=>by simp only[BZ,Option.some.injEq]at h;subst h;rfl
  | c::l,ds,h=>by
    simp only[BZ,Option.bind_eq_some_iff,Option.map_eq_some_iff]at h
    obtain ⟨d,hd,ds',hds,rfl⟩:=h
    simp only[AN,sB hd,N5 hds,Bool.and_self]
theorem VR.ofBase {imm:Nat→Nat→Option Value} {w:World} {C':Ctx} (hle:∀b o u,imm b o=some u→C'.imm b o=some u) {v:Value} {p:PV} (h:VR (base imm w) v p):VR C' v p:=by
  have sm:∀ {b o},(imm b o).isSome=true→(C'.imm b o).isSome=true∧∀d,(C'.imm b o).getD d=(imm b o).getD d:=fun {b o} hs=>by
    obtain ⟨u,hu⟩:=Option.isSome_iff_exists.1 hs
    rw [hle _ _ _ hu,hu];exact⟨rfl,fun _=>rfl⟩
  induction h with
  | bad v=>exact .bad v
  | bool b=>exact .bool b
  | int k n=>exact .int k n
  | str s l h hm=>exact .str s l h hm
  | nilp=>exact .nilp
  | ptr v id g i o hv hb=>exact hb.elim
  | vptr b o off cells hc hi h ih =>
    refine .vptr b o off cells hc (fun j hj=>(sm (hi j hj)).1) (fun j c hj=>?_)
    have hlt:j<cells.length:=(List.getElem?_eq_some_iff.1 hj).1
    rw [(sm (hi j hlt)).2]
    exact ih j c hj
  | nils=>exact .nils
  | lits b o size cap l hcap hmax hsz hl hi h ih =>
    refine .lits b o size cap l hcap hmax hsz hl (fun i j a b=>(sm (hi i j a b)).1) (fun i j e c he hc=>?_)
    have h1:i<l.length:=(List.getElem?_eq_some_iff.1 he).1
    have h2:j<size:=by
      have :=(hl e (List.mem_of_getElem? he)).1
      have :=(List.getElem?_eq_some_iff.1 hc).1
      omega
    rw [(sm (hi i j h1 h2)).2]
    exact ih i j e c he hc
  | lits0 a cap z=>exact .lits0 a cap z
  | ref v id g s n hv hb=>exact hb.elim
  | func fn first captured pf pc hf hc h1 h2 ih1 ih2=>exact .func fn first captured pf pc hf hc ih1 ih2
  | nilf=>exact .nilf
  | iface t v p h ih=>exact .iface t v p ih
  | nili=>exact .nili
  | agg cs l hn hc h ih=>exact .agg cs l hn hc ih
  | tuple cs l hn h ih=>exact .tuple cs l hn ih
  | nilm=>exact .nilm
  | mref v id g hv hb=>exact hb.elim
  | iter v id g hv hb=>exact hb.elim
theorem VR.nrm1 {C:Ctx} {v:Value} {p:PV} (h:VR C v p) (z:Option Nat):VR C v (nrm1 z p):=by
  unfold Sim.nrm1
  split
  · cases z with
    | none=>exact h
    | some z=>cases h;exact .lits0 _ _ _
  · exact h
theorem Rr {p:PV} (h:p.isCell=true) (z:Option Nat):(nrm1 z p).isCell=true:=by
  unfold nrm1
  split
  · cases z <;> rfl
  · exact h
theorem LR {m:List (Nat×Nat)}:∀ {i:Nat} {l:List PV} {j:Nat},(Jq m i l)[j]?=(l[j]?).map (nrm1 (m.lookup (i+j)))
  | i,[],j=>by simp[Jq]
  | i,c::l,0=>by simp[Jq]
  | i,c::l,j+1=>by simp only[Jq,List.getElem?_cons_succ,LR];congr 3;omega
theorem K9 {m:List (Nat×Nat)}:∀ {i:Nat} {l:List PV},(Jq m i l).length=l.length
  | i,[]=>rfl
  | i,c::l=>by simp[Jq,K9]
theorem VR.nrm {C:Ctx} {v:Value} {p:PV} (h:VR C v p) (m:List (Nat×Nat)):VR C v (nrm m p):=by
  unfold Sim.nrm
  split
  · rename_i cs
    cases h with
    | agg vs l hn hc h =>
      refine .agg vs _ (by rw[K9];exact hn) (fun c hc'=>?_) (fun i p hp=>?_)
      · obtain ⟨j,hj⟩:=List.mem_iff_getElem?.1 hc'
        rw [LR,Option.map_eq_some_iff]at hj
        obtain ⟨d,hd,rfl⟩:=hj
        exact Rr (hc d (List.mem_of_getElem? hd)) _
      · rw [LR,Option.map_eq_some_iff]at hp
        obtain ⟨d,hd,rfl⟩:=hp
        exact (h i d hd).nrm1 _
  · exact h.nrm1 _
theorem Dk {P:Program}:∀ {ts:List TypeId} {l:List PV},(nrmAll P ts l).length=l.length
  | [],l=>by cases l <;> rfl
  | t::ts,[]=>rfl
  | t::ts,p::l=>by simp[nrmAll,Dk]
theorem VR.nrmAll {P:Program} {C:Ctx}:∀ {ts:List TypeId} {l:List PV} {vals:Nat→Value},(∀(i:Nat) (p:PV),l[i]?=some p→VR C (vals i) p)→∀(i:Nat) (p:PV),(nrmAll P ts l)[i]?=some p→VR C (vals i) p
  | [],l,vals,h=>by cases l <;> exact h
  | t::ts,[],vals,h=>h
  | t::ts,q::l,vals,h=>by
    intro i p hp
    cases i with
    | zero=>simp only[Sim.nrmAll,List.getElem?_cons_zero,Option.some.injEq]at hp;subst hp;exact (h 0 q rfl).nrm _
    | succ i=>exact VR.nrmAll (ts:=ts) (l:=l) (vals:=fun i=>vals (i+1)) (fun j p hj=>h (j+1) p (by simpa using hj)) i p (by simpa [Sim.nrmAll]using hp)
theorem Inv.only {C:Ctx} {st:Store} {w:World} (h:Inv C st w) (ids:List Nat):C.le { C with loc:=fun id=>if ids.contains id=true then C.loc id else none }∧Inv { C with loc:=fun id=>if ids.contains id=true then C.loc id else none } (st.only ids) w:=by
  have hle:C.le { C with loc:=fun id=>if ids.contains id=true then C.loc id else none } :=
    ⟨fun _ _ _ h=>h,fun _ _ _=>rfl,fun _ h=>h,fun id _ L' hL=>⟨L',(by
      have hL:(if ids.contains id=true then C.loc id else none)=some L':=hL
      split at hL
      · exact hL
      · cases hL),.inl rfl⟩,rfl,rfl,rfl,rfl,fun _ h=>h,rfl⟩
  refine ⟨hle,?_⟩
  constructor
  · exact h.os
  · exact h.out
  · exact h.hB
  · exact h.old
  · exact h.imm
  · exact h.next
  · intro id hid
    have hid:(if ids.contains id=true then st.obj id else none)=none:=hid
    show (if ids.contains id=true then C.loc id else none)=none
    split at hid
    · rename_i hc;rw[if_pos hc];exact h.none_ id hid
    · rename_i hc;rw[if_neg hc]
  · intro id o hid
    have hid:(if ids.contains id=true then st.obj id else none)=some o:=hid
    split at hid
    · rename_i hc
      obtain ⟨hb,L,hL,hat⟩:=h.obj id o hid
      exact ⟨hb,L,by show (if ids.contains id=true then C.loc id else none)=some L;rw[if_pos hc];exact hL,hat.mono hle (fun _ _ x=>x) fun _=>rfl⟩
    · cases hid
  · intro id id' L L' hne hL hL' hb
    have hL:(if ids.contains id=true then C.loc id else none)=some L:=hL
    have hL':(if ids.contains id'=true then C.loc id' else none)=some L':=hL'
    split at hL
    · split at hL'
      · exact h.sep id id' L L' hne hL hL' hb
      · cases hL'
    · cases hL
  · exact h.keep
open Classical in
noncomputable def Ctx.closeIn (C:Ctx) (ids:List Nat) (w:World):Ctx :=
  { C with imm:=fun b o=>if ∃id L,ids.contains id=true∧C.loc id=some L∧0<L.cap∧L.blk=b then w.cell? ⟨b,o,none⟩else C.imm b o
           loc := fun id=>if ids.contains id=true then none else C.loc id }
theorem Inv.without {C:Ctx} {st:Store} {w:World} (h:Inv C st w) (ids:List Nat):C.le (C.closeIn ids w)∧Inv (C.closeIn ids w) (st.without ids) w ∧
    (∀ id L,ids.contains id=true→C.loc id=some L→0<L.cap→∀o u,w.cell? ⟨L.blk,o,none⟩=some u→(C.closeIn ids w).imm L.blk o=some u):=by
  have himm:∀b o v,C.imm b o=some v→(C.closeIn ids w).imm b o=some v:=fun b o v hv=>by
    unfold Ctx.closeIn
    dsimp only
    split
    · exact h.imm b o v hv
    · exact hv
  have hle:C.le (C.closeIn ids w):=by
    refine ⟨himm,fun b o hb=>?_,fun _ h=>h,fun id _ L' hL=>⟨L',?_,.inl rfl⟩,rfl,rfl,rfl,rfl,fun _ h=>h,rfl⟩
    · unfold Ctx.closeIn
      dsimp only
      split
      · rename_i hx
        obtain ⟨id,L,hc,hL,hcap,rfl⟩:=hx
        obtain ⟨ob,_,_,hat⟩:=h.live hL
        have :=(hat.own hcap).1
        omega
      · rfl
    · have hL:(if ids.contains id=true then none else C.loc id)=some L':=hL
      split at hL
      · cases hL
      · exact hL
  refine ⟨hle,?_,fun id L hc hL hcap o u hu=>?_⟩
  · constructor
    · exact h.os
    · exact h.out
    · exact h.hB
    · exact h.old
    · intro b o v hv
      unfold Ctx.closeIn at hv
      dsimp only at hv
      split at hv
      · exact hv
      · exact h.imm b o v hv
    · exact h.next
    · intro id hid
      have hid:(if ids.contains id=true then none else st.obj id)=none:=hid
      show (if ids.contains id=true then none else C.loc id)=none
      split at hid
      · rename_i hc;rw[if_pos hc]
      · rename_i hc;rw[if_neg hc];exact h.none_ id hid
    · intro id o hid
      have hid:(if ids.contains id=true then none else st.obj id)=some o:=hid
      split at hid
      · cases hid
      · rename_i hc
        obtain ⟨hb,L,hL,hat⟩:=h.obj id o hid
        refine ⟨hb,L,by show (if ids.contains id=true then none else C.loc id)=some L;rw[if_neg hc];exact hL,hat.mono hle (fun hcap o ho=>?_) fun _=>rfl⟩
        unfold Ctx.closeIn
        dsimp only
        split
        · rename_i hx
          obtain ⟨id',L',hc',hL',hcap',hb'⟩:=hx
          have hne:id'≠id:=fun e=>by subst e;exact hc hc'
          rcases h.sep id' id L' L hne hL' hL hb' with h0 | h0 <;> omega
        · exact ho
    · intro id id' L L' hne hL hL' hb
      have hL:(if ids.contains id=true then none else C.loc id)=some L:=hL
      have hL':(if ids.contains id'=true then none else C.loc id')=some L':=hL'
      split at hL
      · cases hL
      · split at hL'
        · cases hL'
        · exact h.sep id id' L L' hne hL hL' hb
    · exact h.keep
  · unfold Ctx.closeIn
    dsimp only
    rw [if_pos ⟨id,L,hc,hL,hcap,rfl⟩]
    exact hu
theorem VR.freeze {C:Ctx} {st:Store} {w:World} (h:Inv C st w) (ids:List Nat) {v:Value} {p q:PV} (hq:rdP (st.only ids) p=some q) (hv:VR C v p):VR (C.closeIn ids w) v q:=by
  obtain ⟨h1,h2⟩:=h.only ids
  obtain ⟨h3,h4,h5⟩:=h.without ids
  refine ((Pt hq).sound h2 (imm:=(C.closeIn ids w).imm) (fun b o u hu=>h3.imm b o u hu) (fun id L hL hcap o u hu=>?_) (hv.mono h1)).ofBase (fun _ _ _ h=>h)
  have hL:(if ids.contains id=true then C.loc id else none)=some L:=hL
  split at hL
  · rename_i hc;exact h5 id L hc hL hcap o u hu
  · cases hL
theorem VR.freezeB {C:Ctx} {st:Store} {w:World} (h:Inv C st w) (ids:List Nat) {v:Value} {p q:PV} (hq:rdP (st.only ids) p=some q) (hv:VR C v p):VR (base (C.closeIn ids w).imm w) v q:=by
  obtain ⟨h1,h2⟩:=h.only ids
  obtain ⟨h3,h4,h5⟩:=h.without ids
  refine ((Pt hq).sound h2 (imm:=(C.closeIn ids w).imm) (fun b o u hu=>h3.imm b o u hu) (fun id L hL hcap o u hu=>?_) (hv.mono h1))
  have hL:(if ids.contains id=true then C.loc id else none)=some L:=hL
  split at hL
  · rename_i hc;exact h5 id L hc hL hcap o u hu
  · cases hL
noncomputable def Ctx.closeAgain (C:Ctx) (st:Store) (ids:List Nat) (w:World):Ctx :=
  { C.closeIn ids w with loc:=fun id=>if ids.contains id=true then (match st.obj id with | some (.arr g z _)=>some ⟨0,0,z,0,g+1⟩ | _=>none)else C.loc id }
theorem Uz {st:Store} {c:PV} (h:c.isCell=true):(sealC st c).isCell=true:=by
  unfold sealC
  split
  · simp only[rdC]
    cases st.arr? _ _ with
    | none=>exact h
    | some q =>
      simp only[Option.bind_some]
      split <;> rfl
  · exact h
theorem Rs {st:Store} {c:PV}:(sealC st c).cells.length=c.cells.length:=by
  unfold sealC
  split
  · simp only[rdC]
    cases st.arr? _ _ with
    | none=>rfl
    | some q =>
      simp only[Option.bind_some]
      split <;> rfl
  · rfl
theorem Rt {st:Store} {e:PV}:(FK st e).cells.length=e.cells.length:=by
  unfold FK
  split
  · simp [PV.cells]
  · exact Rs
theorem Ru (st:Store) (c:PV):Sim.sealC st c=c∨(c.cells = [c]∧(Sim.sealC st c).cells = [Sim.sealC st c]):=by
  unfold Sim.sealC
  split
  · right
    refine ⟨rfl,?_⟩
    simp only[rdC]
    cases st.arr? _ _ with
    | none=>rfl
    | some q =>
      simp only[Option.bind_some]
      split <;> rfl
  · exact .inl rfl
theorem cW {e c:PV} {j:Nat} (hn:∀cs,e≠.agg cs) (h:e.cells[j]?=some c):c=e:=by
  cases e <;> first
    | (exact absurd rfl (hn _))
    | (simp[PV.cells]at h;done)
    | (cases j with
       | zero=>simp[PV.cells]at h;exact h.symm
       | succ j=>simp[PV.cells]at h)
theorem N6 {st:Store} {e:PV} {j:Nat} {c:PV} (h:(FK st e).cells[j]?=some c):∃c0,e.cells[j]?=some c0∧c=Sim.sealC st c0:=by
  unfold FK at h
  split at h
  · simp only[PV.cells,List.getElem?_map,Option.map_eq_some_iff]at h ⊢
    obtain ⟨c0,h1,h2⟩:=h
    exact ⟨c0,h1,h2.symm⟩
  · rename_i hna
    rcases Ru st e with h1 | ⟨h1,h2⟩
    · rw [h1]at h
      have := cW (fun cs he=>hna cs he) h
      exact ⟨c,h,by rw[this,h1]⟩
    · rw [h2]at h
      cases j with
      | zero=>simp at h;exact⟨e,by rw[h1];rfl,h.symm⟩
      | succ j=>simp at h
theorem VR.sealC {C:Ctx} {st:Store} {w:World} (h:Inv C st w) (ids:List Nat) {C2:Ctx} (hle:C.le C2) (himm:∀b o u,(C.closeIn ids w).imm b o=some u→C2.imm b o=some u) {v:Value} {c:PV} (hv:VR C v c):VR C2 v (Sim.sealC (st.only ids) c):=by
  unfold Sim.sealC
  split
  · rename_i id g s n
    cases hr:rdC (st.only ids) (.ref id g s n)with
    | none=>exact hv.mono hle
    | some q=>exact (VR.freezeB h ids (p:=.ref id g s n) (by simpa [rdP]using hr) hv).ofBase himm
  · exact hv.mono hle
theorem Inv.seal {C:Ctx} {st:Store} {w:World} (h:Inv C st w) (ids:List Nat):C.le (C.closeAgain st ids w)∧Inv (C.closeAgain st ids w) (st.seal ids) w:=by
  obtain ⟨h3,h4,h5⟩:=h.without ids
  have hle:C.le (C.closeAgain st ids w):=by
    refine ⟨h3.imm,h3.old,fun _ h=>h,fun id hb L' hL=>?_,rfl,rfl,rfl,rfl,fun _ h=>h,rfl⟩
    have hL:(if ids.contains id=true then (match st.obj id with | some (.arr g z _)=>some (⟨0,0,z,0,g+1⟩:Loc) | _=>none)else C.loc id)=some L':=hL
    split at hL
    · split at hL
      · rename_i g z es ho
        cases hL
        obtain ⟨_,L,hL0,hat⟩:=h.obj id _ ho
        exact ⟨L,hL0,.inr (by have:=hat.1;show L.gen<g+1;omega)⟩
      · cases hL
    · exact ⟨L',hL,.inl rfl⟩
  refine ⟨hle,?_⟩
  constructor
  · exact h.os
  · exact h.out
  · exact h.hB
  · exact h.old
  · exact h4.imm
  · exact h.next
  · intro id hid
    have hid:(if ids.contains id=true then (st.obj id).bind Cm else (st.obj id).map (Rh (st.only ids)))=none:=hid
    show (if ids.contains id=true then (match st.obj id with | some (.arr g z _)=>some (⟨0,0,z,0,g+1⟩:Loc) | _=>none)else C.loc id)=none
    split at hid
    · rename_i hc;rw[if_pos hc]
      cases ho:st.obj id with
      | none=>rfl
      | some o =>
        rw [ho]at hid
        cases o with
        | arr g z es=>simp[Cm]at hid
        | map g mk es=>rfl
        | it m n seen=>rfl
        | lp r=>rfl
    · rename_i hc;rw[if_neg hc];exact h.none_ id (by simpa using hid)
  · intro id o hid
    have hid:(if ids.contains id=true then (st.obj id).bind Cm else (st.obj id).map (Rh (st.only ids)))=some o:=hid
    split at hid
    · rename_i hc
      cases ho:st.obj id with
      | none=>rw[ho]at hid;simp at hid
      | some o1 =>
        rw [ho]at hid
        cases o1 with
        | arr g z es =>
          simp only[Option.bind_some,Cm,Option.some.injEq]at hid
          subst hid
          obtain ⟨hb,L,hL,hat⟩:=h.obj id _ ho
          refine ⟨hb,⟨0,0,z,0,g+1⟩,?_,rfl,rfl,hat.2.2.1,⟨Nat.le_refl _,Nat.zero_le _⟩,fun hx=>by simp at hx⟩
          show (if ids.contains id=true then (match st.obj id with | some (.arr g z _)=>some (⟨0,0,z,0,g+1⟩:Loc) | _=>none)else C.loc id)=_
          rw [if_pos hc,ho]
        | map g mk es=>simp[Cm]at hid
        | it m n seen=>simp[Cm]at hid
        | lp r=>simp[Cm]at hid
    · rename_i hc
      simp only[Option.map_eq_some_iff]at hid
      obtain ⟨o1,ho,rfl⟩:=hid
      obtain ⟨hb,L,hL,hat⟩:=h.obj id o1 ho
      have hout:0<L.cap→∀o,C.imm L.blk o=none→(C.closeAgain st ids w).imm L.blk o=none:=fun hcap o ho=>by
        show (C.closeIn ids w).imm L.blk o=none
        unfold Ctx.closeIn
        dsimp only
        split
        · rename_i hx
          obtain ⟨id',L',hc',hL',hcap',hb'⟩:=hx
          have hne:id'≠id:=fun e=>by subst e;exact hc hc'
          rcases h.sep id' id L' L hne hL' hL hb' with h0 | h0 <;> omega
        · exact ho
      refine ⟨hb,L,by show (if ids.contains id=true then _ else C.loc id)=some L;rw[if_neg hc];exact hL,?_⟩
      have hm:=hat.mono hle hout fun _=>rfl
      cases o1 with
      | map g mk es=>exact hm
      | it m n seen=>exact hm
      | lp r=>exact hm
      | arr g z es =>
        obtain ⟨m1,m2,m3,m4,m5⟩:=hm
        refine ⟨m1,m2,m3,⟨by simpa using m4.1,m4.2⟩,fun hcap=>?_⟩
        obtain ⟨a1,a2,cs,T,a3,a4,_⟩:=m5 hcap
        obtain ⟨b1,b2,cs',T',b3,b4,b5⟩:=hat.2.2.2.2 hcap
        have ecs:cs'=cs:=by rw[a3]at b3;cases b3;rfl
        subst ecs
        refine ⟨a1,a2,cs',T,a3,a4,fun i e he=>?_⟩
        simp only[List.getElem?_map,Option.map_eq_some_iff]at he
        obtain ⟨e0,he0,rfl⟩:=he
        obtain ⟨c1,c2,c3⟩:=b5 i e0 he0
        refine ⟨by rw[Rt];exact c1,fun c hc=>?_,fun j c hj=>?_⟩
        · obtain ⟨j,hj⟩:=List.mem_iff_getElem?.1 hc
          obtain ⟨c0,hc0,rfl⟩:=N6 hj
          exact Uz (c2 c0 (List.mem_of_getElem? hc0))
        · obtain ⟨c0,hc0,rfl⟩:=N6 hj
          exact VR.sealC h ids hle (fun _ _ _ x=>x) (c3 j c0 hc0)
  · intro id id' L L' hne hL hL' hb
    have hL:(if ids.contains id=true then (match st.obj id with | some (.arr g z _)=>some (⟨0,0,z,0,g+1⟩:Loc) | _=>none)else C.loc id)=some L:=hL
    have hL':(if ids.contains id'=true then (match st.obj id' with | some (.arr g z _)=>some (⟨0,0,z,0,g+1⟩:Loc) | _=>none)else C.loc id')=some L':=hL'
    split at hL
    · split at hL
      · cases hL;exact .inl rfl
      · cases hL
    · split at hL'
      · split at hL'
        · cases hL';exact .inr rfl
        · cases hL'
      · exact h.sep id id' L L' hne hL hL' hb
  · exact h.keep
theorem Inv.again {C:Ctx} {st:Store} {w:World} (h:Inv C st w) (ids:List Nat):C.le (C.closeAgain st ids w)∧Inv (C.closeAgain st ids w) ⟨fun i=>if ids.contains i=true then (st.obj i).bind Cm else st.obj i,st.next⟩ w:=by
  obtain ⟨h3,h4,h5⟩:=h.without ids
  have hle:C.le (C.closeAgain st ids w):=by
    refine ⟨h3.imm,h3.old,fun _ h=>h,fun id hb L' hL=>?_,rfl,rfl,rfl,rfl,fun _ h=>h,rfl⟩
    have hL:(if ids.contains id=true then (match st.obj id with | some (.arr g z _)=>some (⟨0,0,z,0,g+1⟩:Loc) | _=>none)else C.loc id)=some L':=hL
    split at hL
    · split at hL
      · rename_i g z es ho
        cases hL
        obtain ⟨_,L,hL0,hat⟩:=h.obj id _ ho
        exact ⟨L,hL0,.inr (by have:=hat.1;show L.gen<g+1;omega)⟩
      · cases hL
    · exact ⟨L',hL,.inl rfl⟩
  refine ⟨hle,?_⟩
  constructor
  · exact h.os
  · exact h.out
  · exact h.hB
  · exact h.old
  · exact h4.imm
  · exact h.next
  · intro id hid
    have hid:(if ids.contains id=true then (st.obj id).bind Cm else st.obj id)=none:=hid
    show (if ids.contains id=true then (match st.obj id with | some (.arr g z _)=>some (⟨0,0,z,0,g+1⟩:Loc) | _=>none)else C.loc id)=none
    split at hid
    · rename_i hc;rw[if_pos hc]
      cases ho:st.obj id with
      | none=>rfl
      | some o =>
        rw [ho]at hid
        cases o with
        | arr g z es=>simp[Cm]at hid
        | map g mk es=>rfl
        | it m n seen=>rfl
        | lp r=>rfl
    · rename_i hc;rw[if_neg hc];exact h.none_ id hid
  · intro id o hid
    have hid:(if ids.contains id=true then (st.obj id).bind Cm else st.obj id)=some o:=hid
    split at hid
    · rename_i hc
      cases ho:st.obj id with
      | none=>rw[ho]at hid;simp at hid
      | some o1 =>
        rw [ho]at hid
        cases o1 with
        | arr g z es =>
          simp only[Option.bind_some,Cm,Option.some.injEq]at hid
          subst hid
          obtain ⟨hb,L,hL,hat⟩:=h.obj id _ ho
          refine ⟨hb,⟨0,0,z,0,g+1⟩,?_,rfl,rfl,hat.2.2.1,⟨Nat.le_refl _,Nat.zero_le _⟩,fun hx=>by simp at hx⟩
          show (if ids.contains id=true then (match st.obj id with | some (.arr g z _)=>some (⟨0,0,z,0,g+1⟩:Loc) | _=>none)else C.loc id)=_
          rw [if_pos hc,ho]
        | map g mk es=>simp[Cm]at hid
        | it m n seen=>simp[Cm]at hid
        | lp r=>simp[Cm]at hid
    · rename_i hc
      obtain ⟨hb,L,hL,hat⟩:=h.obj id o hid
      have hout:0<L.cap→∀o,C.imm L.blk o=none→(C.closeAgain st ids w).imm L.blk o=none:=fun hcap o ho=>by
        show (C.closeIn ids w).imm L.blk o=none
        unfold Ctx.closeIn
        dsimp only
        split
        · rename_i hx
          obtain ⟨id',L',hc',hL',hcap',hb'⟩:=hx
          have hne:id'≠id:=fun e=>by subst e;exact hc hc'
          rcases h.sep id' id L' L hne hL' hL hb' with h0 | h0 <;> omega
        · exact ho
      refine ⟨hb,L,by show (if ids.contains id=true then _ else C.loc id)=some L;rw[if_neg hc];exact hL,?_⟩
      exact hat.mono hle hout fun _=>rfl
  · intro id id' L L' hne hL hL' hb
    have hL:(if ids.contains id=true then (match st.obj id with | some (.arr g z _)=>some (⟨0,0,z,0,g+1⟩:Loc) | _=>none)else C.loc id)=some L:=hL
    have hL':(if ids.contains id'=true then (match st.obj id' with | some (.arr g z _)=>some (⟨0,0,z,0,g+1⟩:Loc) | _=>none)else C.loc id')=some L':=hL'
    split at hL
    · split at hL
      · cases hL;exact .inl rfl
      · cases hL
    · split at hL'
      · split at hL'
        · cases hL';exact .inr rfl
        · cases hL'
      · exact h.sep id id' L L' hne hL hL' hb
  · exact h.keep
theorem VR.freezeAgain {C:Ctx} {st:Store} {w:World} (h:Inv C st w) (ids:List Nat) {l as:List PV} (hq:BZ (st.only ids) l=some as) {vals:Nat→Value} (hv:∀(i:Nat) (p:PV),l[i]?=some p→VR C (vals i) p) :
    l.length = as.length∧∀(i:Nat) (p:PV),as[i]?=some p→VR (C.closeAgain st ids w) (vals i) p:=by
  induction l generalizing as vals with
  | nil=>simp only[BZ,Option.some.injEq]at hq;subst hq;exact⟨rfl,by intro i p h;simp at h⟩
  | cons c l ih =>
    simp only[BZ,Option.bind_eq_some_iff,Option.map_eq_some_iff]at hq
    obtain ⟨d,hd,ds,hds,rfl⟩:=hq
    obtain ⟨h1,h2⟩:=ih hds (vals:=fun i=>vals (i+1)) (fun i p hp=>hv (i+1) p (by simpa using hp))
    refine ⟨by simp[h1],fun i p hp=>?_⟩
    cases i with
    | zero=>simp only[List.getElem?_cons_zero,Option.some.injEq]at hp;subst hp;exact (VR.freezeB h ids hd (hv 0 c rfl)).ofBase (C':=C.closeAgain st ids w) (fun _ _ _ x=>x)
    | succ i=>exact h2 i p (by simpa using hp)
theorem VR.freezeAll {C:Ctx} {st:Store} {w:World} (h:Inv C st w) (ids:List Nat) {l as:List PV} (hq:BZ (st.only ids) l=some as) {vals:Nat→Value} (hv:∀(i:Nat) (p:PV),l[i]?=some p→VR C (vals i) p) :
    l.length = as.length∧∀(i:Nat) (p:PV),as[i]?=some p→VR (C.closeIn ids w) (vals i) p:=by
  induction l generalizing as vals with
  | nil=>simp only[BZ,Option.some.injEq]at hq;subst hq;exact⟨rfl,by intro i p h;simp at h⟩
  | cons c l ih =>
    simp only[BZ,Option.bind_eq_some_iff,Option.map_eq_some_iff]at hq
    obtain ⟨d,hd,ds,hds,rfl⟩:=hq
    obtain ⟨h1,h2⟩:=ih hds (vals:=fun i=>vals (i+1)) (fun i p hp=>hv (i+1) p (by simpa using hp))
    refine ⟨by simp[h1],fun i p hp=>?_⟩
    cases i with
    | zero=>simp only[List.getElem?_cons_zero,Option.some.injEq]at hp;subst hp;exact VR.freeze h ids hd (hv 0 c rfl)
    | succ i=>exact h2 i p (by simpa using hp)
end Sim
