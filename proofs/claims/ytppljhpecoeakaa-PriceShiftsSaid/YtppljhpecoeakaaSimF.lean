/- Each ideal operation is what the machine does. -/
import Derived.Test.YtppljhpecoeakaaSimC
set_option linter.unusedVariables false
set_option linter.unusedSimpArgs false
namespace Sim
open Go
section
variable {P:Program} {w:World}
theorem Ix {t:TypeId} (h:0<P.cellsOf t):∃i,P.info? t=some i∧i.size=P.cellsOf t:=by
 unfold Program.cellsOf at *
 cases hi:P.info? t with
 | none=>rw[hi]at h;simp at h
 | some i=>exact⟨i,rfl,by simp⟩
theorem Cg {t:TypeId} (h:0<P.cellsOf t):(Go.sizeOf t).run P w=.ok (P.cellsOf t) w:=by
 obtain ⟨i,hi,hs⟩:=Ix h
 simp [Go.sizeOf,typeInfo,hi,hs]
theorem LO {t:TypeId} {d:TypeDesc} (h:P.underlying t=some d):(isAgg t).run P w=.ok (WC P t) w:=by
 unfold isAgg WC
 rw [h]
 simp only[Sem.run_bind,run_underlying h,Result.andThen]
 cases d <;> rfl
theorem D6 {t:TypeId} {z:Nat} {ag:Bool} (h:Bu P t=some (z,ag)):(∃d,P.underlying t=some d)∧0<P.cellsOf t∧z=P.cellsOf t∧ag=WC P t:=by
 unfold Bu at h
 split at h
 ·rename_i d hd
  split at h
  ·simp at h;exact⟨⟨d,hd⟩,by assumption,h.1.symm,h.2.symm⟩
  ·cases h
 ·cases h
theorem Ha {b o i:Nat}:(⟨b,o,none⟩:Addr).add i=⟨b,o+i,none⟩:=by
 unfold Addr.add;split <;> simp_all
def Kp (C:Ctx) (w:World) (v:Value) (cells:List PV) (off:Nat):Prop :=
 ∃ b o,v=.pointer (some ⟨b,o+off,none⟩)∧∀j c,cells[j]?=some c→∃u,w.cell? ⟨b,o+j,none⟩=some u∧VR C u c∧c.isCell=true
theorem Fo {C:Ctx} {st:Store} (hi:Inv C st w) {v:Value} {cells:List PV} {off:Nat} (h:VR C v (.vptr cells off)):Kp C w v cells off:=by
 cases h with
 | vptr b o off cells hc hi' h =>
  refine ⟨b,o,rfl,fun j c hj=>?_⟩
  have hlt:j<cells.length:=(List.getElem?_eq_some_iff.1 hj).1
  obtain ⟨u,hu⟩:=Option.isSome_iff_exists.1 (hi' j hlt)
  have := h j c hj
  rw [hu]at this
  exact ⟨u,hi.imm _ _ _ hu,this,hc c (List.mem_of_getElem? hj)⟩
theorem arr?_parts {st:Store} {id gen z:Nat} {es:List PV} (h:st.arr? id gen=some (z,es)):st.obj id=some (.arr gen z es):=by
 unfold Store.arr? at h
 split at h
 ·rename_i g z' es' ho
  split at h
  ·rename_i e;subst e;simp at h;obtain⟨rfl,rfl⟩:=h;exact ho
  ·cases h
 ·cases h
theorem CZ {es:List PV} {i:Nat} (h:i<es.length):es[i]?=some (nth es i):=by
 simp [nth,h]
theorem Pn {es:List PV} {i:Nat} (h:(nth es i).cells ≠ []):i<es.length:=by
 rcases Nat.lt_or_ge i es.length with hl | hl
 ·exact hl
 ·exfalso; apply h;simp[nth,List.getD,List.getElem?_eq_none hl,PV.cells]
theorem Inv.arr {C:Ctx} {st:Store} (hi:Inv C st w) {id gen z:Nat} {es:List PV} (ho:st.arr? id gen=some (z,es)) :
  ∃ L,C.loc id=some L∧C.born id∧L.gen=gen∧L.size=z∧0<z∧es.length≤L.cap∧(0<L.cap→Aa1 C w L es):=by
 obtain ⟨hb,L,hL,h1,h1',h2,h3,h4⟩:=hi.obj id _ (arr?_parts ho)
 exact ⟨L,hL,hb,h1,h1',h2,h3.1,h4⟩
theorem Inv.arrMax {C:Ctx} {st:Store} (hi:Inv C st w) {id gen z:Nat} {es:List PV} (ho:st.arr? id gen=some (z,es)) {L:Loc} (hL:C.loc id=some L):L.cap≤maxLen:=by
 obtain ⟨hb,L',hL',h1,h1',h2,h3,h4⟩:=hi.obj id _ (arr?_parts ho)
 rw [hL]at hL';cases hL';exact h3.2
theorem EV {cs:Array Value} {T:TypeId} {fr:Nat×Nat} {b o:Nat} (h:w.heap[b]?=some (.cells cs T fr)):w.cell? ⟨b,o,none⟩=cs[o]?:=by
 simp [World.cell?,h]
theorem CellsAt.cell {C:Ctx} {cs:Array Value} {T:TypeId} {fr:Nat×Nat} {b base size:Nat} {e:PV} (h:CellsAt C cs base size e) (hb:w.heap[b]?=some (.cells cs T fr))
  (hs : base+size≤cs.size) {j:Nat} {c:PV} (hj:e.cells[j]?=some c):∃u,w.cell? ⟨b,base+j,none⟩=some u∧VR C u c∧c.isCell=true:=by
 have hlt:j<size:=by have:=(List.getElem?_eq_some_iff.1 hj).1;have:=h.1;omega
 have h1:base+j<cs.size:=by omega
 refine ⟨cs[base+j],by rw[EV hb];simp[h1],?_,h.2.1 c (List.mem_of_getElem? hj)⟩
 have := h.2.2 j c hj
 simpa [Array.getD,h1]using this
theorem Bg {i n z cap:Nat} (h:i<n) (hn:n≤cap):i*z+z≤cap*z:=by
 have : (i+1)*z≤cap*z:=Nat.mul_le_mul_right z (by omega)
 rw [Nat.succ_mul]at this;exact this
theorem IM {C:Ctx} {st:Store} (hi:Inv C st w) {v:Value} {id gen idx off z:Nat} {es:List PV} (h:VR C v (.ptr id gen idx off)) (ho:st.arr? id gen=some (z,es))
  (hidx : idx<es.length):Kp C w v (nth es idx).cells off:=by
 obtain ⟨L,hL,hb,hg,hLz,hz,hcap,hat⟩:=hi.arr ho
 cases h with
 | ptr _ _ _ _ _ hv hb' hg' h =>
  have hv:=h L hL hg.symm
  obtain ⟨_,_,cs,T,h1,h2,h3⟩:=hat (by omega)
  refine ⟨L.blk,L.off+idx*L.size,hv,fun j c hj=>?_⟩
  have := Bg (z:=L.size) hidx hcap
  exact (h3 idx _ (CZ hidx)).cell h1 (by omega) hj
theorem IN {C:Ctx} {v:Value} {cells:List PV} {off:Nat} (hp:Kp C w v cells off) {t:TypeId} {z:Nat} {ag:Bool} (ht:Bu P t=some (z,ag)) {p:PV}
  (h : CI cells off z ag=some p):∃u,(Instr.loadAt t v).run P w=.ok u w∧VR C u p:=by
 obtain ⟨⟨d,hd⟩,hpos,rfl,rfl⟩:=D6 ht
 obtain ⟨b,o,rfl,hc⟩:=hp
 unfold CI at h
 have e1:(Instr.loadAt t (.pointer (some ⟨b,o+off,none⟩))).run P w=(loadVar t ⟨b,o+off,none⟩).run P w:=by
  simp [Instr.loadAt,Instr.sureAddr]
 rw [e1]
 unfold loadVar
 simp only[Sem.run_bind,LO hd,Result.andThen]
 split at h
 ·rename_i hag
  simp only[hag,if_true]
  split at h
  ·rename_i hle
   simp only[Option.some.injEq]at h
   subst h
   have hf:∀j,j<P.cellsOf t→∃u,w.cell? ⟨b,o+off+j,none⟩=some u∧VR C u (cells.getD (off+j) .bad)∧(cells.getD (off+j) .bad).isCell=true:=fun j hj=>by
    have hlt:off+j<cells.length:=by omega
    have := hc (off+j) (cells.getD (off+j) .bad) (by simp[hlt])
    rw [Nat.add_assoc];exact this
   let f:Nat→Value:=fun j=>(w.cell? ⟨b,o+off+j,none⟩).getD undef
   have hrun:=run_loadCells (P:=P) w ⟨b,o+off,none⟩ (P.cellsOf t) f (fun j hj=>by
    obtain ⟨u,hu,_⟩:=hf j hj
    rw [Ha,hu];simp[f,hu])
   refine ⟨.agg ((List.range (P.cellsOf t)).map f).toArray,?_,?_⟩
   ·simp [Cg hpos,hrun]
   ·refine .agg _ _ (by simp;omega) (fun c hc'=>?_) (fun i p hi=>?_)
    ·obtain ⟨i,hi⟩:=List.mem_iff_getElem?.1 hc'
     simp only[List.getElem?_take]at hi
     split at hi
     ·rename_i hiz
      obtain ⟨u,_,_,h3⟩:=hf i hiz
      simp only[List.getElem?_drop]at hi
      simpa [List.getD,hi]using h3
     ·cases hi
    ·simp only[List.getElem?_take]at hi
     split at hi
     ·rename_i hiz
      obtain ⟨u,h1,h2,_⟩:=hf i hiz
      simp only[List.getElem?_drop]at hi
      simp only[List.getD,hi,Option.getD_some]at h2
      simpa [hiz,f,h1]using h2
     ·cases hi
  ·cases h
 ·rename_i hag
  obtain ⟨u,h1,h2,_⟩:=hc off p h
  refine ⟨u,?_,h2⟩
  simp [hag,h1]
end
end Sim
namespace Sim
open Go
section
variable {P:Program} {w:World} {C:Ctx} {st:Store}
theorem Hb (v:Value):VR C v (CW v):=by
 unfold CW
 split
 ·exact .bool _
 ·exact .int _ _
 ·split
  ·exact .str _ _ rfl (by simp only[maxLen];omega)
  ·exact .bad _
 ·exact .nilp
 ·exact .nils
 ·exact .func _ _ _ _ _ rfl rfl (by intro i p h;simp at h) (by intro i p h;simp at h)
 ·exact .nilf
 ·exact .nili
 ·exact .nilm
 ·exact .bad _
theorem Cn (v:Value):VR C v (Bh v):=by
 unfold Bh
 split
 ·rename_i cs
  split
  ·rename_i h
   refine .agg _ _ (by simp) (fun c hc=>(List.all_eq_true.1 h) c hc) (fun i p hi=>?_)
   simp only[List.getElem?_map,Option.map_eq_some_iff]at hi
   obtain ⟨u,hu,rfl⟩:=hi
   have : cs.getD i undef=u:=by
    have hlt:i<cs.size:=by
     have :=(List.getElem?_eq_some_iff.1 hu).1;simpa using this
    have h2:cs[i]?=some u:=by rw[←Array.getElem?_toList];exact hu
    simp [Array.getD,hlt]
    rw [Array.getElem?_eq_getElem hlt]at h2;simpa using h2
   rw [this];exact Hb u
  ·exact .bad _
 ·exact Hb v
theorem Bv {t:TypeId} {z:Nat} (h:Ad P t=z) (hz:0<z) :
  ∃ e i v,P.underlying t=some (.slice e)∧P.info? e=some i∧i.zero=some v∧i.size=z∧z≤65536∧i.bytes≤65536∧v.cells.size=z∧(Bh v).cells.length=z ∧
   P.cellsOf e=z∧BR P t=e∧AD P e=Bh v:=by
 unfold Ad at h
 split at h
 ·rename_i e he
  split at h
  ·rename_i i hi
   split at h
   ·rename_i v hv
    split at h
    ·rename_i hc
     obtain ⟨h1,h2,h3,h4,h5⟩:=hc
     refine ⟨e,i,v,he,hi,hv,h,by omega,h3,by omega,by omega,?_,by simp[BR,he],by simp[AD,hi,hv]⟩
     simp [Program.cellsOf,hi,h]
    ·omega
   ·omega
  ·omega
 ·omega
theorem Inv.lits (hi:Inv C st w) {l:List PV} {cs:Array Value} {T:TypeId} {z cap:Nat} (hz:0<z) (hcap:l.length≤cap) (hmax:cap≤maxLen) (hcs:cap*z≤cs.size)
  (hc : ∀i e,l[i]?=some e→CellsAt C cs (i*z) z e) :
  ∃ C',C.le C'∧Inv C' st (w.alloc (.cells cs T))∧VR C' (.slice (some ⟨w.heap.size,0,none⟩) l.length cap) (.lits z l):=by
 obtain ⟨h1,h2⟩:=hi.newImm cs T
 refine ⟨_,h1,h2,?_⟩
 have imm:∀k,(C.addImm w.heap.size cs).imm w.heap.size k=cs[k]?:=fun k=>by simp[Ctx.addImm]
 refine .lits _ _ z _ _ hcap hmax hz (fun e he=>?_) (fun i j hi' hj=>?_) (fun i j e c he hj=>?_)
 ·obtain ⟨i,hi'⟩:=List.mem_iff_getElem?.1 he
  exact ⟨(hc i e hi').1,(hc i e hi').2.1⟩
 ·have := Bg (z:=z) hi' hcap
  rw [imm];simp;omega
 ·rw [imm]
  have :=(hc i e he).2.2 j c hj
  simp only[Nat.zero_add]
  have e2:(cs[i*z+j]?).getD undef=cs.getD (i*z+j) undef:=by simp
  rw [e2];exact this.mono h1
theorem Inv.vptr (hi:Inv C st w) {cells:List PV} {cs:Array Value} {T:TypeId} (hn:cells.length≤cs.size) (hc:∀c∈cells,c.isCell=true)
  (h : ∀j c,cells[j]?=some c→VR C (cs.getD j undef) c) :
  ∃ C',C.le C'∧Inv C' st (w.alloc (.cells cs T))∧VR C' (.pointer (some ⟨w.heap.size,0,none⟩)) (.vptr cells 0):=by
 obtain ⟨h1,h2⟩:=hi.newImm cs T
 refine ⟨_,h1,h2,?_⟩
 have imm:∀k,(C.addImm w.heap.size cs).imm w.heap.size k=cs[k]?:=fun k=>by simp[Ctx.addImm]
 refine .vptr w.heap.size 0 0 cells hc (fun j hj=>?_) (fun j c hj=>?_)
 ·rw [imm];simp;omega
 ·rw [imm]
  have :=(h j c hj).mono h1
  simp only[Nat.zero_add]
  have e2:(cs[j]?).getD undef=cs.getD j undef:=by simp
  rw [e2];exact this
theorem Inv.newArr (hi:Inv C st w) {es:List PV} {cs:Array Value} {T:TypeId} {z cap:Nat} (hz:0<z) (hcap:es.length≤cap) (hmax:cap≤maxLen) (hcs:cap*z≤cs.size)
  (hc : ∀i e,es[i]?=some e→CellsAt C cs (i*z) z e) :
  ∃ C',C.le C'∧Inv C' (st.new (.arr 0 z es)) (w.alloc (.cells cs T))∧C'.born st.next∧C'.loc st.next=some ⟨w.heap.size,0,z,cap,0⟩:=by
 have hnb:=hi.next st.next (Nat.le_refl _)
 have hall:=heap_alloc_new w (.cells cs T)
 have := hi.put (w':=w.alloc (.cells cs T)) (id:=st.next) (nx:=st.next+1) (o:=.arr 0 z es) (L':=⟨w.heap.size,0,z,cap,0⟩) (.inr hnb) (.inr (.inl (Nat.le_refl _)))
  (fun b hb _=>Go.heap_alloc_old w _ hb) (by simp) (fun hle=>⟨rfl,rfl,hz,⟨hcap,hmax⟩,fun _=>⟨hi.hB,fun o=>hi.immLt (Nat.le_refl _),cs,T,hall,by simpa using hcs,fun i e he=>?_⟩⟩)
  (by omega) (by omega)
 ·exact ⟨_,this.1,this.2,.inl rfl,by simp[Ctx.set]⟩
 ·simpa using (hc i e he).mono hle
theorem Inv.reNew (hi:Inv C st w) {id g z0:Nat} {es0:List PV} (ho:st.obj id=some (.arr g z0 es0)) {es:List PV} {cs:Array Value} {T:TypeId} {z cap:Nat} (hz:0<z) (hcap:es.length≤cap) (hmax:cap≤maxLen) (hcs:cap*z≤cs.size)
  (hc : ∀i e,es[i]?=some e→CellsAt C cs (i*z) z e) :
  ∃ C',C.le C'∧Inv C' (st.set id (.arr (g+1) z es)) (w.alloc (.cells cs T))∧C'.born id∧C'.loc id=some ⟨w.heap.size,0,z,cap,g+1⟩:=by
 obtain ⟨hb,L,hL,hat⟩:=hi.obj id _ ho
 have hlt:id<st.next:=by
  rcases Nat.lt_or_ge id st.next with h | h
  ·exact h
  ·exact absurd hb (hi.next id h)
 have hall:=heap_alloc_new w (.cells cs T)
 have := hi.put (w':=w.alloc (.cells cs T)) (id:=id) (nx:=st.next) (o:=.arr (g+1) z es) (L':=⟨w.heap.size,0,z,cap,g+1⟩) (.inl ⟨L,hL,.inr (by have:=hat.1;show L.gen<g+1;omega)⟩) (.inr (.inl (Nat.le_refl _)))
  (fun b hb _=>Go.heap_alloc_old w _ hb) (by simp) (fun hle=>⟨rfl,rfl,hz,⟨hcap,hmax⟩,fun _=>⟨hi.hB,fun o=>hi.immLt (Nat.le_refl _),cs,T,hall,by simpa using hcs,fun i e he=>?_⟩⟩)
  (Nat.le_refl _) hlt
 ·exact ⟨_,this.1,this.2,.inl rfl,by simp[Ctx.set]⟩
 ·simpa using (hc i e he).mono hle
theorem VR.newRefG {C:Ctx} {id b z cap n g:Nat} (hb:C.born id) (hl:C.loc id=some ⟨b,0,z,cap,g⟩) (hn:n≤cap):VR C (.slice (some ⟨b,0,none⟩) n cap) (.ref id g 0 n):=by
 refine .ref _ _ _ _ _ rfl hb (fun L hL=>by rw[hl]at hL;cases hL;exact Nat.le_refl _) (fun L hL _=>?_)
 rw [hl]at hL;cases hL
 exact ⟨some ⟨b,0,none⟩,by simp,by simpa using hn,by simp⟩
theorem VR.newPtr {C:Ctx} {id b z cap:Nat} (hb:C.born id) (hl:C.loc id=some ⟨b,0,z,cap,0⟩):VR C (.pointer (some ⟨b,0,none⟩)) (.ptr id 0 0 0):=by
 refine .ptr _ _ _ _ _ rfl hb (fun L _=>Nat.zero_le _) (fun L hL _=>?_)
 rw [hl]at hL;cases hL;simp
theorem VR.newRef {C:Ctx} {id b z cap n:Nat} (hb:C.born id) (hl:C.loc id=some ⟨b,0,z,cap,0⟩) (hn:n≤cap):VR C (.slice (some ⟨b,0,none⟩) n cap) (.ref id 0 0 n):=by
 refine .ref _ _ _ _ _ rfl hb (fun L _=>Nat.zero_le _) (fun L hL _=>?_)
 rw [hl]at hL;cases hL
 exact ⟨some ⟨b,0,none⟩,by simp,by simpa using hn,by simp⟩
theorem VR.cellsAt {v:Value} {p:PV} {z:Nat} (h:VR C v p) (hz:0<z) (hl:p.cells.length=z):v.cells.size=z∧CellsAt C v.cells 0 z p:=by
 have hne:p.cells ≠ []:=fun e=>by simp[e]at hl;omega
 obtain ⟨h1,h2,h3⟩:=h.cells hne
 exact ⟨by omega,hl,h2,fun j c hj=>by simpa using h3 j c hj⟩
theorem K5 {cs:Array Value} {p:PV} {z:Nat} (h:CellsAt C cs 0 z p):∀(i:Nat) (e:PV),[p][i]?=some e→CellsAt C cs (i*z) z e:=by
 intro i e he
 cases i with
 | zero=>simp at he;subst he;simpa using h
 | succ i=>simp at he
theorem Js (hi:Inv C st w) {v:Value} {p:PV} (h:VR C v p) (hn:0<p.cells.length) (T:TypeId) :
  ∃ C',C.le C'∧Inv C' (st.new (.arr 0 p.cells.length [p])) (w.alloc (.cells v.cells T))∧VR C' (.pointer (some ⟨w.heap.size,0,none⟩)) (.ptr st.next 0 0 0):=by
 obtain ⟨h1,h2⟩:=h.cellsAt hn rfl
 obtain ⟨C',a,b,c,d⟩:=hi.newArr (T:=T) (cap:=1) (es := [p]) hn (by simp) (by simp only[maxLen];omega) (by omega) (K5 h2)
 exact ⟨C',a,b,VR.newPtr c d⟩
theorem VR.newPtrG {C:Ctx} {id b z cap g:Nat} (hb:C.born id) (hl:C.loc id=some ⟨b,0,z,cap,g⟩):VR C (.pointer (some ⟨b,0,none⟩)) (.ptr id g 0 0):=by
 refine .ptr _ _ _ _ _ rfl hb (fun L hL=>by rw[hl]at hL;cases hL;exact Nat.le_refl _) (fun L hL _=>?_)
 rw [hl]at hL;cases hL;simp
theorem Rj (hi:Inv C st w) {v:Value} {p:PV} (h:VR C v p) (hn:0<p.cells.length) (T:TypeId) {id g z0:Nat} {es0:List PV} (ho:st.obj id=some (.arr g z0 es0)) :
  ∃ C',C.le C'∧Inv C' (st.set id (.arr (g+1) p.cells.length [p])) (w.alloc (.cells v.cells T))∧VR C' (.pointer (some ⟨w.heap.size,0,none⟩)) (.ptr id (g+1) 0 0):=by
 obtain ⟨h1,h2⟩:=h.cellsAt hn rfl
 obtain ⟨C',a,b,c,d⟩:=hi.reNew ho (T:=T) (cap:=1) (es := [p]) hn (by simp) (by simp only[maxLen];omega) (by omega) (K5 h2)
 exact ⟨C',a,b,VR.newPtrG c d⟩
theorem Yj (hi:Inv C st w) {v:Value} {p:PV} (h:VR C v p) (hn:0<p.cells.length) (T:TypeId) :
  ∃ C',C.le C'∧Inv C' st (w.alloc (.cells v.cells T))∧VR C' (.pointer (some ⟨w.heap.size,0,none⟩)) (.vptr p.cells 0):=by
 obtain ⟨h1,h2⟩:=h.cellsAt hn rfl
 exact hi.vptr (T:=T) (by omega) h2.2.1 (fun j c hj=>by simpa using h2.2.2 j c hj)
theorem K6 (a:Array Value) (k:Nat):a.toList.getD k undef=a.getD k undef:=by simp
theorem WD (T:TypeId) (v:Value):(Instr.box T v).run P w=.ok (.pointer (some ⟨w.heap.size,0,none⟩)) (w.alloc (.cells v.cells T)):=by
 simp [Instr.box,newVar,newRow]
theorem N4 (T:TypeId) (i:TypeInfo) (v:Value) (hi:P.info? T=some i) (hz:i.zero=some v) :
  (Instr.alloc T true (.tuple #[])).run P w=.ok (.pointer (some ⟨w.heap.size,0,none⟩)) (w.alloc (.cells v.cells T)):=by
 simp [Instr.alloc,newVar,newRow,zeroValue,typeInfo,hi,hz]
theorem EK {cur:Array Value} {a:Nat} {vs:List Value} (h:a+vs.length≤cur.size) (k:Nat) :
  (cur.toList.take a++vs++cur.toList.drop (a+vs.length)).toArray.getD k undef=if a≤k∧k<a+vs.length then vs.getD (k-a) undef else cur.getD k undef:=by
 have e:∀(l:List Value) k,l.toArray.getD k undef=l.getD k undef:=fun l k=>by simp[Array.getD,List.getD];split <;> simp_all
 rw [e]
 have el:∀k,cur.getD k undef=cur.toList.getD k undef:=fun k=>by rw[←e]
 rw [el]
 simp only[List.getD,List.append_assoc]
 have hlen:(cur.toList.take a).length=a:=by simp;omega
 by_cases h1:k<a
 ·rw [List.getElem?_append_left (by omega),List.getElem?_take_of_lt h1,if_neg (by omega)]
 ·rw [List.getElem?_append_right (by omega),hlen]
  by_cases h2:k<a+vs.length
  ·rw [List.getElem?_append_left (by omega),if_pos ⟨by omega,h2⟩]
  ·rw [List.getElem?_append_right (by omega),List.getElem?_drop,if_neg (by omega)]
   congr 2;omega
theorem EL {cur:Array Value} {a:Nat} {vs:List Value} (h:a+vs.length≤cur.size) :
  (cur.toList.take a++vs++cur.toList.drop (a+vs.length)).toArray.size=cur.size:=by
 simp only[List.size_toArray,List.length_append,List.length_take,List.length_drop,Array.length_toList];omega
theorem Inv.reArr (hi:Inv C st w) {id gen gen' z0:Nat} {es es':List PV} (ho:st.arr? id gen=some (z0,es)) {L L':Loc} (hL:C.loc id=some L) (hcap:0<L.cap)
  (hL' : L'=L∨L.gen<L'.gen) (hg:L'.gen=gen') (hblk:L'.blk=L.blk) (hz:0<L'.size) (hlen:es'.length≤L'.cap) (hmax:L'.cap≤maxLen) {cur cs:Array Value} {T:TypeId} (hcur:w.heap[L.blk]?=some (.cells cur T (0,0)))
  (hcs : L'.off+L'.cap*L'.size≤cs.size) (hc:∀i e,es'[i]?=some e→CellsAt C cs (L'.off+i*L'.size) L'.size e) :
  ∃ C',C.le C'∧Inv C' (st.set id (.arr gen' L'.size es')) (w.setRow L.blk cs)∧C'.loc id=some L'∧C'.born id:=by
 obtain ⟨L0,hL0,hb,h1,h1',h2,h3,h4⟩:=hi.arr ho
 rw [hL]at hL0;cases hL0
 obtain ⟨h5,h6,_⟩:=h4 hcap
 have hlt:id<st.next:=by
  rcases Nat.lt_or_ge id st.next with h | h
  ·exact h
  ·exact absurd hb (hi.next id h)
 have := hi.put (w':=w.setRow L.blk cs) (id:=id) (nx:=st.next) (o:=.arr gen' L'.size es') (L':=L') (.inl ⟨L,hL,hL'⟩) (.inr (.inr ⟨L,hL,hblk.symm,hcap⟩))
  (fun b hb hne=>setRow_other w L.blk b cs (hne L hL hcap)) (by simp)
  (fun hle=>⟨hg,rfl,hz,⟨hlen,hmax⟩,fun _=>⟨by rw[hblk];exact h5,fun o=>by rw[hblk];exact h6 o,cs,T,by rw[hblk];exact setRow_heap w _ _ cs T _ hcur,hcs,fun i e he=>(hc i e he).mono hle⟩⟩)
  (Nat.le_refl _) hlt
 exact ⟨_,this.1,this.2,by simp[Ctx.set],.inl rfl⟩
theorem Hc {e:PV} {off:Nat} {vs:List PV} (hv:∀c∈vs,c.isCell=true) (hn:0<vs.length) (h:off+vs.length≤e.cells.length) :
  (A6 e off vs).cells=Dr e.cells off vs:=by
 have one:∀e:PV,e.cells.length≤1→off+vs.length≤e.cells.length→(match vs with | [v]=>v | _=>PV.agg vs).cells=Dr e.cells off vs:=by
  intro e h1 h2
  have : off=0:=by omega
  subst this
  match vs,hn with
  | [v],_ =>
   have hv':=hv v (by simp)
   have hc:v.cells = [v]:=by cases v <;> first | rfl | simp[PV.isCell]at hv'
   simp only[Dr,hc,List.take_zero,List.nil_append,List.length_singleton,Nat.zero_add]
   rw [List.drop_of_length_le h1];rfl
  | a::b::l,_=>simp at h2;omega
 cases e <;> first
  | (simp[PV.cells]at h;omega)
  | exact one _ (by simp[PV.cells]) h
  | rfl
theorem D7 {cells vs:List PV} {off:Nat} (h:off+vs.length≤cells.length) (j:Nat) :
  (Dr cells off vs)[j]?=if off≤j∧j<off+vs.length then vs[j-off]? else cells[j]?:=by
 unfold Dr
 have hlen:(cells.take off).length=off:=by simp;omega
 rw [List.append_assoc]
 by_cases h1:j<off
 ·rw [List.getElem?_append_left (by omega),List.getElem?_take_of_lt h1,if_neg (by omega)]
 ·rw [List.getElem?_append_right (by omega),hlen]
  by_cases h2:j<off+vs.length
  ·rw [List.getElem?_append_left (by omega),if_pos ⟨by omega,h2⟩]
  ·rw [List.getElem?_append_right (by omega),List.getElem?_drop,if_neg (by omega)]
   congr 1;omega
theorem Fy {cells vs:List PV} {off:Nat} (h:off+vs.length≤cells.length):(Dr cells off vs).length=cells.length:=by
 simp only[Dr,List.length_append,List.length_take,List.length_drop];omega
theorem CellsAt.congr {cs cs':Array Value} {base z:Nat} {e:PV} (h:CellsAt C cs base z e) (he:∀j,j<z→cs'.getD (base+j) undef=cs.getD (base+j) undef):CellsAt C cs' base z e :=
 ⟨h.1, h.2.1,fun j c hj=>by
  have :=(List.getElem?_eq_some_iff.1 hj).1
  rw [he j (by have:=h.1;omega)];exact h.2.2 j c hj⟩
theorem Rk (hi:Inv C st w) {a v:Value} {pa pv:PV} (ha:VR C a pa) (hv:VR C v pv) {t:TypeId} {st':Store} (h:ES st (P.cellsOf t) pa pv=some st') :
  ∃ w' C',(Instr.storeAt t a v).run P w=.ok () w'∧C.le C'∧Inv C' st' w':=by
 unfold ES at h
 split at h
 ·rename_i id gen idx off
  cases hes:st.arr? id gen with
  | none=>rw[hes]at h;cases h
  | some q =>
   obtain ⟨z0,es⟩:=q
   rw [hes]at h
   simp only[Option.bind_some]at h
   split at h
   ·rename_i hc
    obtain ⟨hsz,hpos,hidx,hoff⟩:=hc
    simp only[Option.some.injEq]at h
    subst h
    obtain ⟨L,hL,hb,hg,hLz,hz,hcap,hat⟩:=hi.arr hes
    subst hLz
    obtain ⟨h5,h6,cur,T,h7,h8,h9⟩:=hat (by omega)
    obtain ⟨hvs,hva⟩:=hv.cellsAt hpos hsz
    have hva':a=.pointer (some ⟨L.blk,L.off+idx*L.size+off,none⟩):=by
     cases ha with
     | ptr _ _ _ _ _ _ _ _ h=>exact h L hL hg.symm
    have he:=h9 idx _ (CZ hidx)
    have hel:(nth es idx).cells.length=L.size:=he.1
    have hmb:=Bg (z:=L.size) hidx hcap
    have hlist:v.cells.toList.length=P.cellsOf t:=by simpa using hvs
    have hone:∀x∈v.cells.toList,x.oneCell'=true:=by
     intro x hx
     obtain ⟨j,hj⟩:=List.mem_iff_getElem?.1 hx
     have hjlt:j<v.cells.size:=by have:=(List.getElem?_eq_some_iff.1 hj).1;simpa using this
     have hc:pv.cells[j]?=some (pv.cells.getD j .bad):=by simp[List.getD,show j<pv.cells.length by omega]
     have h1:=hva.2.2 j _ hc
     have h2:v.cells.getD (0+j) undef=x:=by
      rw [Nat.zero_add]
      have : v.cells[j]?=some x:=by rw[←Array.getElem?_toList];exact hj
      simp [Array.getD,hjlt];rw[Array.getElem?_eq_getElem hjlt]at this;simpa using this
     rw [h2]at h1
     exact h1.oneCell (hva.2.1 _ (List.mem_of_getElem? hc))
    have hfit:L.off+idx*L.size+off+v.cells.toList.length≤cur.size:=by omega
    have hrun:=run_storeCells_at P L.blk (L.off+idx*L.size+off) T v.cells.toList 0 cur w h7 (by simpa using hfit) hone
    simp only[Nat.add_zero]at hrun
    have hcells:∀i e,(es.set idx (A6 (nth es idx) off pv.cells))[i]?=some e→CellsAt C (cur.toList.take (L.off+idx*L.size+off)++v.cells.toList++cur.toList.drop (L.off+idx*L.size+off+v.cells.toList.length)).toArray (L.off+i*L.size) L.size e:=by
     intro i e hie
     by_cases hii:i=idx
     ·subst hii
      have hse:e=A6 (nth es i) off pv.cells:=by
       rw [List.getElem?_set_self hidx]at hie
       exact (Option.some.inj hie).symm
      have hcs:=Hc (e:=nth es i) (off:=off) hva.2.1 (by omega) (by omega)
      have hsl:=Fy (cells:=(nth es i).cells) (vs:=pv.cells) (off:=off) (by omega)
      refine ⟨by rw[hse,hcs,hsl,hel],fun c hc=>?_,fun j c hj=>?_⟩
      ·rw [hse,hcs]at hc
       obtain ⟨j,hj⟩:=List.mem_iff_getElem?.1 hc
       rw [D7 (by omega)]at hj
       split at hj
       ·exact hva.2.1 _ (List.mem_of_getElem? hj)
       ·exact he.2.1 _ (List.mem_of_getElem? hj)
      ·rw [hse,hcs,D7 (by omega)]at hj
       rw [EK hfit]
       split at hj
       ·rename_i hr
        rw [if_pos (by omega)]
        have := hva.2.2 _ c hj
        have e1:L.off+i*L.size+j-(L.off+i*L.size+off)=j-off:=by omega
        rw [e1,K6]
        rw [Nat.zero_add]at this;exact this
       ·rename_i hr
        rw [if_neg (by omega)]
        exact he.2.2 j c hj
     ·rw [List.getElem?_set_ne (fun e=>hii e.symm)]at hie
      have hi2:=h9 i e hie
      refine hi2.congr (fun j hj=>?_)
      rw [EK hfit]
      refine if_neg (fun hr=>?_)
      have hilt:i<es.length:=(List.getElem?_eq_some_iff.1 hie).1
      rcases Nat.lt_or_ge i idx with h12 | h12
      ·have := Bg (z:=L.size) h12 (Nat.le_refl _);omega
      ·have := Bg (z:=L.size) (show idx<i by omega) (Nat.le_refl _);omega
    obtain ⟨C',h10,h11,_,_⟩:=hi.reArr (gen':=gen) (L':=L) hes hL (by omega) (.inl rfl) hg rfl hz (by simpa using hcap) (hi.arrMax hes hL) h7 (by rw[EL hfit];exact h8) hcells
    refine ⟨_,C',?_,h10,h11⟩
    rw [hva']
    simp only[Instr.storeAt,Instr.sureAddr,storeVar,Sem.run_bind,Sem.run_pure,Result.andThen,Cg hpos,hvs]
    simp only[ne_eq,not_true,if_false,Sem.run_bind,Sem.run_pure]
    exact hrun
   ·cases h
 ·cases h
end
end Sim
