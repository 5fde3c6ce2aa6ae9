/- What functions of this seat compute, by values: contracts (lemmas of the statement's proof, under the conditions that each names). -/
import Derived.Test.YtppljhpecoeakaaQJ
set_option maxRecDepth 10000
set_option maxHeartbeats 4000000
set_option linter.unusedVariables false
set_option linter.unusedSimpArgs false
namespace Sim
open Go Go.Proofs
attribute [local congr] Am An Ai Aw Ap Ao As
theorem iZ {k:Nat}:k ^^^ 1=rv k:=by
 have h1:(k ^^^ 1) / 2=k / 2:=by rw[Nat.xor_div_two];simp
 have h2:(k ^^^ 1) % 2=(k+1) % 2:=by
  have := Nat.xor_mod_two_pow (a:=k) (b:=1) (n:=1)
  simp only[Nat.pow_one]at this
  rw [this]
  rcases Nat.mod_two_eq_zero_or_one k with h | h
  ·rw [h];show 1=_;omega
  ·rw [h];show 0=_;omega
 unfold rv
 split <;> omega
def Aaj (a b:Int):Int:=IntKind.i64.wrap (BitVec.ofInt 64 a ^^^ BitVec.ofInt 64 b).toNat
theorem tZ {a b:Int}:Cl .xor .i64 a b=some (Aaj a b):=nrfl rfl
theorem uA {k:Nat} (h:k<4611686018427387904):Aaj (k:Int) 1=((rv k:Nat):Int):=by
 unfold Aaj
 rw [←iZ]
 have e:(BitVec.ofInt 64 (k:Int) ^^^ BitVec.ofInt 64 1).toNat=k ^^^ 1:=by
  rw [BitVec.toNat_xor]
  congr 1
  rw [BitVec.toNat_ofInt]
  omega
 rw [e]
 have hb:rv k≤k+1:=by unfold rv;split <;> omega
 rw [iZ]
 exact Ah (by omega) (by omega)
theorem Aak (x y:GP) (st:Store) (h:Kv x=Kv y) (hx:Ku x st) (hy:Ku y st):Hq x st=Hq y st:=by
 obtain ⟨B,A,out,lv,s,t⟩:=x
 obtain ⟨B',A',out',lv',s',t'⟩:=y
 simp only[Kv,gP,List.cons.injEq,and_true,PV.ptr.injEq,PV.int.injEq,true_and]at h
 have e1:B=B':=by omega
 have e2:s=s':=by omega
 have e3:t=t':=by omega
 subst e1;subst e2;subst e3
 have g:=hx.1
 have g':=hy.1
 dsimp only at g g'
 have e4:=g.o4.symm.trans g'.o4
 simp only[Option.some.injEq,IObj.arr.injEq,Ma,true_and]at e4
 have e5:=g.o1.symm.trans g'.o1
 simp only[Option.some.injEq,IObj.arr.injEq,true_and]at e5
 have e5:lv=lv':=Fx (fun x y h=>by injection h) e5
 have e0:=g.o2.symm.trans g'.o2
 simp only[H3,Option.some.injEq,IObj.arr.injEq,List.cons.injEq,PV.agg.injEq,PV.ref.injEq,true_and,and_true]at e0
 have e6:out=out':=by
  refine List.ext_getElem e0.2.1 fun u h1 h2=>?_
  have q:=(g.o5 u h1).symm.trans (g'.o5 u h2)
  simp only[Option.some.injEq,IObj.arr.injEq,Mo,true_and]at q
  have q:=q.2
  rwa [List.getD_eq_getElem?_getD,List.getD_eq_getElem?_getD,List.getElem?_eq_getElem h1,List.getElem?_eq_getElem h2]at q
 rw [e4.2,e5,e6]
theorem Aal {B s t:Nat} {A:List Arc} {out:List (List Nat)} {lv:List Int} {st:Store} (h:Ku ⟨B,A,out,lv,s,t⟩ st):Bc Kv Ku Hq [gP B,I (s:Nat),I (t:Nat)] st=some (Hq ⟨B,A,out,lv,s,t⟩ st) :=
 Bn Aak (i:=⟨B,A,out,lv,s,t⟩) h
structure GE where
 B : Nat
 A : List Arc
 out : List (List Nat)
 lv : List Int
 m : Nat
 s : Nat
 t : Nat
 b : Int
def Kw (x:GE) (st:Store):Prop:=GrAt x.B x.A x.out x.lv st.obj∧SI x.A x.out x.lv x.lv.length x.m x.s x.t 0∧x.B+5+x.lv.length≤st.next∧WF st∧(∀i r,st.obj i≠some (.lp r)) ∧
 x.lv.length ≤ 100000∧x.A.length≤1000000∧Ej x.out (ini x.lv.length x.s)≤100000000∧0≤x.b∧x.b≤1099511627776∧∀i,(fnA x.A x.lv.length x.s x.t).cap i≤1099511627776
def Kx (x:GE):List PV := [gP x.B,I (x.s:Nat),I (x.t:Nat),I x.b]
noncomputable def II (x:GE) (st:Store):PV×Store:=(I (CQ x.A x.out x.lv x.lv.length x.s x.t x.b).2,⟨Aa (Aa st.obj (x.B+4) (some (.arr (x.A.length / 2) 4 ((CQ x.A x.out x.lv x.lv.length x.s x.t x.b).1.map CY)))) (x.B+1) none,st.next⟩)
noncomputable def e_send:Nat×Ent:=(66,.x (Bc Kx Kw II))
def sO (ob:Nat→Option IObj) (B n:Nat) (A:List Arc) (lv:List Int):Nat→Option IObj:=Aa (Aa ob (B+4) (some (.arr n 4 (A.map CY)))) (B+1) (some (.arr 1 1 (lv.map (PV.int .i64))))
theorem jA {ob:Nat→Option IObj} {B:Nat} {A A':List Arc} {out:List (List Nat)} {lv lv':List Int} (h:GrAt B A out lv ob) (h1:A'.length=A.length) (h2:lv'.length=lv.length):GrAt B A' out lv' (sO ob B (A.length / 2) A' lv'):=by
 refine ⟨?_,?_,?_,?_,fun u hu=>?_⟩
 ·simp only[sO,Aa];rw[if_neg (by omega),if_neg (by omega)];exact h.o0
 ·simp only[sO,Aa,if_true]
 ·simp only[sO,Aa];rw[if_neg (by omega),if_neg (by omega),h.o2];simp only[H3,h1,h2]
 ·simp only[sO,Aa];rw[if_neg (by omega),if_pos trivial,h1]
 ·simp only[sO,Aa];rw[if_neg (by omega),if_neg (by omega)];exact h.o5 u hu
theorem uB {ob:Nat→Option IObj} {B:Nat} {A:List Arc} {out:List (List Nat)} {lv:List Int} (h:GrAt B A out lv ob):sO ob B (A.length / 2) A lv=ob:=by
 unfold sO
 rw [HW h.o4,HW h.o1]
theorem Aam {ob:Nat→Option IObj} {B n:Nat} {A A':List Arc} {lv:List Int}:Aa (sO ob B n A lv) (B+4) (some (.arr n 4 (A'.map CY)))=sO ob B n A' lv:=by
 funext i
 simp only[sO,Aa]
 by_cases c1:i=B+4
 ·have c2:¬i=B+1:=by omega
  rw [if_pos c1,if_neg c2,if_pos c1]
 ·rw [if_neg c1,if_neg c1,if_neg c1]
theorem Zs {A:List Arc} {b:Int} {P:List Nat} {k:Nat} (h:k<P.length):CI A b (P.take (k+1))=if aL A (P.getD k 0)<CI A b (P.take k)then aL A (P.getD k 0)else CI A b (P.take k):=by
 unfold CI
 rw [List.take_succ_eq_append_getElem h,List.foldl_append]
 simp [h]
theorem jB {A:List Arc} {p:Int} {P:List Nat} {k:Nat} (h:k<P.length):aug A p (P.take (k+1))=Cu (aug A p (P.take k)) p (P.getD k 0):=by
 unfold aug
 rw [List.take_succ_eq_append_getElem h,List.foldl_append]
 simp [h]
theorem Ww {p:Int} {n:Nat} (h0:0≤p) (h1:p≤1099511627776) (hn:n≤100000):0≤p*(n:Int)∧p*(n:Int)≤109951162777600000:=by
 refine ⟨Int.mul_nonneg h0 (by omega),?_⟩
 have := Int.mul_le_mul h1 (show (n:Int)≤100000 by omega) (by omega) (by omega)
 omega
theorem Lb {A:List Arc} {k:Nat} {x:Int}:(A.map CY).set k (.agg [I ((A.getD k dA).1:Nat),I ((A.getD k dA).2.1:Nat),I ((A.getD k dA).2.2.1+x),I (A.getD k dA).2.2.2])=(CC A k x).map CY:=by
 unfold CC
 rw [List.map_set]
theorem Qc {K:Nat→Prop} {g z:Nat} {A:List Arc}:OIn K (.arr g z (A.map CY)):=fun e he c hc=>by
 obtain ⟨x,_,rfl⟩:=List.mem_map.1 he
 simp only[PV.cells,List.mem_cons,List.not_mem_nil,or_false]at hc
 rcases hc with hc | hc | hc | hc <;> (rw[hc];exact .int _ _)
theorem Oi {ob:Nat→Option IObj} {M B n:Nat} {A:List Arc} {lv:List Int} {r r':Int} (r0:∀i o,ob i=some o→i<M) (hB:B+4<M) (hr:r'=r):LU ⟨ob,M⟩ (I r) ⟨Aa (Aa ob (B+4) (some (.arr n 4 (A.map CY)))) (B+1) none,M⟩ (I r') ⟨sO ob B n A lv,M⟩:=by
 refine ⟨[],.inl (by rw[hr]),fun i o hi=>?_,Nat.le_refl _,.int _ _⟩
 simp only[sO,Aa]at hi ⊢
 by_cases c1:i=B+1
 ·rw [if_pos c1]at hi;cases hi
 ·rw [if_neg c1]at hi ⊢
  by_cases c2:i=B+4
  ·rw [if_pos c2]at hi ⊢
   cases hi
   exact ⟨by omega,rfl,rfl,.inr Qc⟩
  ·rw [if_neg c2]at hi ⊢
   exact ⟨r0 i o hi,rfl,hi,.inl hi⟩
theorem jC:AT Try.prog e_send.1 e_send.2:=Fz fun x st hx=>by
 obtain ⟨B,A,out,lv,m,s,t,b⟩:=x
 obtain ⟨ob,M⟩:=st
 unfold Kw at hx
 dsimp only at hx
 obtain ⟨h1,h2,h4,h5,h6,h7,h8,h10,h11,h12,h13⟩:=hx
 obtain ⟨N,hN⟩:∃N,lv.length=N:=⟨_,rfl⟩
 simp only[Kx,II]
 rw [hN]at h2 h4 h7 h10 h13 ⊢
 have hsR:=PD (bytes:=b) h2
 obtain ⟨AE,hAE⟩:∃x,(CQ A out lv N s t b).1=x:=⟨_,rfl⟩
 obtain ⟨rE,hrE⟩:∃x,(CQ A out lv N s t b).2=x:=⟨_,rfl⟩
 rw [hAE,hrE]at hsR
 rw [hAE,hrE]
 have r0:∀i o,ob i=some o→i<M:=h5
 refine B7 AV (l := [e_path]) ((Ae Aai At)) [] [] 0 Try.func66 rfl (by decide +kernel) (N:=81) rfl (by simp) rfl (by kernel_rfl) ?_
 simp +contextual (maxSteps:=4000000) only[↓bdD,bdP,Nat.reduceLT,e_path,Try.f66]
 refine CE [9,10,11,13,15,16,17,18,19,20,21,22,23,24,25,26,27,28,29,30,31,32,33,34,35,36,37,38,39,40,41,42,43,44,45,46,47,48,49,50,51,52,53,54,55,56,57,58,59,60,61,62,63,64,65,66,67,68,69,70,71,72,73,74,75,76,77,78,79] b.toNat (fun μ ρ st'=>∃A' lv' sent,ρ 9=I sent∧st'=⟨sO ob B (A.length / 2) A' lv',M⟩∧SI A' out lv' N m s t sent∧A'.length=A.length∧sent≤b∧(b-sent).toNat=μ∧fnA A' N s t=fnA A N s t∧0≤sent∧SendR out N s t b A' lv' sent AE rE) (.refl _) ?_ ?_
 ·simp +contextual (maxSteps:=4000000) only[↓bdD,bdP]
  exact ⟨A,lv,by rw[uB h1],h2,rfl,h11,by rw[Int.sub_zero],rfl,hsR⟩
 rintro μ ρ st' ⟨A',lv',sent,r9,rfl,hS,hl,hsb,hμ,hfn,hs0,hR⟩
 have hgr:=jA (A':=A') (lv':=lv') h1 hl (by rw[hS.ll,hN])
 have hll:=hS.ll
 by_cases hlt:sent<b
 ·have hlvb:∀v,-1000000000000≤lv'.getD v 0∧lv'.getD v 0≤1000000000000:=fun v=>by
   by_cases c:v<N
   ·have := hS.lvb v c
    omega
   ·rw [List.getD_eq_getElem?_getD,List.getElem?_eq_none (by omega)]
    decide
  have hne:∀i o,sO ob B (A.length / 2) A' lv' i=some o→i<M∧∀r,o≠.lp r:=fun i o hi=>by
   simp only[sO,Aa]at hi
   by_cases c1:i=B+1
   ·rw [if_pos c1]at hi;cases hi;exact⟨by omega,by simp⟩
   ·rw [if_neg c1]at hi
    by_cases c2:i=B+4
    ·rw [if_pos c2]at hi;cases hi;exact⟨by omega,by simp⟩
    ·rw [if_neg c2]at hi
     exact ⟨r0 i o hi,fun r e=>h6 i r (by rw[hi,e])⟩
  have sp:=Aal (B:=B) (A:=A') (out:=out) (lv:=lv') (s:=s) (t:=t) (st:=⟨sO ob B (A.length / 2) A' lv',M⟩) ⟨hgr,by dsimp only;rw[hll];exact hS.gr,by dsimp only;rw[hll];exact hS.tN,fun e=>hS.st e.symm,by dsimp only;rw[hll];exact h4,fun i o hi=>(hne i o hi).1,fun i r hi=>(hne i _ hi).2 r rfl,by dsimp only;rw[hll];exact h7,by dsimp only;rw[hl];exact h8,hlvb,by dsimp only;rw[hll];exact h10⟩
  have hRp:Hq ⟨B,A',out,lv',s,t⟩ ⟨sO ob B (A.length / 2) A' lv',M⟩=if (FE A' out lv' N s).done.getD t true=true then (.lits 1 (A7 (Cw A' out lv' N s t)),⟨Aa (sO ob B (A.length / 2) A' lv') (B+1) (some (.arr 1 1 ((lvM A' out lv' N s).map (PV.int .i64)))),M⟩)else (.nils,⟨sO ob B (A.length / 2) A' lv',M⟩):=by
   unfold Hq
   dsimp only
   rw [hll]
  rw [hRp]at sp
  clear hRp
  unfold gP at sp
  by_cases hd:(FE A' out lv' N s).done.getD t true=true
  ·rw [if_pos hd]at sp
   have hO:Aa (sO ob B (A.length / 2) A' lv') (B+1) (some (.arr 1 1 ((lvM A' out lv' N s).map (PV.int .i64))))=sO ob B (A.length / 2) A' (lvM A' out lv' N s):=by unfold sO;rw[AX]
   rw [hO]at sp
   obtain ⟨hS2,hp0,hp1⟩:=L8 hS hlt hd
   have hR2:SendR out N s t b (aug A' (CI A' (b-sent) (Cw A' out lv' N s t)) (Cw A' out lv' N s t)) (lvM A' out lv' N s) (sent+CI A' (b-sent) (Cw A' out lv' N s t)) AE rE:=by
    cases hR with
    | full _ _ _ g=>exact absurd hlt g
    | stop _ _ _ _ g=>rw[hd]at g;cases g
    | step _ _ _ _ _ _ _ g=>exact g
   have hpo:=K5 hS.gr ((Jt hS).1 hd)
   have hfn2:=Kk (N:=N) (s:=s) (t:=t) (p:=CI A' (b-sent) (Cw A' out lv' N s t)) hS.wp (P:=Cw A' out lv' N s t) (fun k hk=>by have:=(hpo.arc k hk).1;rw[←hS.wp.len];exact this)
   have hlm:(lvM A' out lv' N s).length=N:=(wA hS.gr).1
   obtain ⟨P,hP⟩:∃P,Cw A' out lv' N s t=P:=⟨_,rfl⟩
   rw [hP]at sp hS2 hp0 hp1 hR2 hpo hfn2
   have hPne:P ≠ []:=fun e=>by
    rw [e]at hpo
    have := hpo.isP
    generalize hw:([]:List Nat)=w at this
    cases this with
    | nil=>exact hS.st rfl
    | cons k Q _=>cases hw
   obtain ⟨k0,P0,hPc⟩:∃k0 P0,A7 P=I (k0:Nat)::A7 P0:=by
    cases P with
    | nil=>exact absurd rfl hPne
    | cons k0 P0=>exact⟨k0,P0,rfl⟩
   have hnc:∀ {op:BinOp} {ok:Bool} {A:Prop} {K:PV→Prop},Pn (.lits 1 (A7 P)) op ok A K=A:=by intros;rw[hPc];rfl
   have hbn:BE Try.prog .eql 43 (.lits 1 (A7 P)) .nils=some (.bool false):=by rw[hPc,eE];simp only[AW];rfl
   clear hPc
   generalize lvM A' out lv' N s=lv2 at *
   have hw0:IntKind.i64.wrap (b-sent)=b-sent:=Ah (by omega) (by omega)
   have hcapA:∀i,aL A' (2*i)+aL A' (2*i+1)≤1099511627776:=fun i=>by
    have e:(fnA A' N s t).cap i=(fnA A N s t).cap i:=by rw[hfn]
    have := h13 i
    rw [←e]at this
    exact this
   have hcap:∀j,j<A'.length→0≤aL A' j∧aL A' j≤1099511627776:=fun j hj=>by
    rw [hS.wp.len]at hj
    have n0:=hS.wp.nn j hj
    have n1:=hS.wp.nn (2*(j / 2)) (by omega)
    have n2:=hS.wp.nn (2*(j / 2)+1) (by omega)
    have := hcapA (j / 2)
    refine ⟨n0,?_⟩
    rcases Nat.mod_two_eq_zero_or_one j with h | h
    ·rw [show 2*(j / 2)=j by omega]at this n1 n2
     omega
    ·rw [show 2*(j / 2)+1=j by omega]at this n2
     omega
   have hg2:=jA (A':=A') (lv':=lv2) h1 hl (by rw[hlm,hN])
   have G2:=hg2.o2
   have G4:=hg2.o4
   unfold H3 at G2
   rw [hl]at G4 G2
   have hPl:P.length≤1000000000:=by
    have := CF N (P.map (aT A')) hpo.nd (fun x hx=>by
     obtain ⟨k,hk,rfl⟩:=List.mem_map.1 hx
     exact (hS.ar k (hpo.arc k hk).1).2)
    rw [List.length_map]at this
    omega
   have hnPl:(A7 P).length=P.length:=Cq
   have hmemP:∀k,k<P.length→P.getD k 0∈P:=fun k hk=>by
    have e:P.getD k 0=P[k]:=by simp[hk]
    rw [e];exact List.getElem_mem _
   simp +contextual (maxSteps:=4000000) only[↓bdD,bdP,Nat.reduceBNe,Nat.reduceLT,Nat.reduceBEq,Ar,Nat.reduceAdd,reduceCtorEq,↓reduceIte,ty3,AW,Jn,r9,hlt,sp,hnc,hbn,hw0]
   refine Az [11,13,30,31,32,33,34,35,36,37,38,39,40,41,42,43,44] P.length (fun k ρ st'=>ρ 30=I k∧ρ 11=I (CI A' (b-sent) (P.take k))∧st'=⟨sO ob B (A.length / 2) A' lv2,M⟩) (.refl _) ?_ ?_
   ·simp +contextual (maxSteps:=4000000) only[↓bdD,bdP,Nat.reduceBEq]
    rfl
   rintro k ρ5 st' hk ⟨h30,h11',rfl⟩
   by_cases hkl:k<P.length
   ·have hwk:=BC (k:=k) (by omega)
    have hnk:=FG hkl
    have hj:=(hpo.arc _ (hmemP k hkl)).1
    have hps:=Zs (A:=A') (b:=b-sent) hkl
    have haL:(A'.getD (P.getD k 0) dA).2.2.1=aL A' (P.getD k 0):=rfl
    generalize P.getD k 0=j at *
    have hnA:=B8 hj
    rw [haL]at hnA
    rw [hl]at hj
    simp +contextual (maxSteps:=4000000) only[↓bdD,bdP,Nat.reduceLT,Nat.reduceBEq,Nat.reduceAdd,↓reduceIte,ty3,AW,Ki,Gz,K1,h30,h11',hkl,hwk,hnk,hnPl,hnA,hj,hl,G2,G4]
    exact hps.symm
   have e:P.length=k:=by omega
   subst e
   rw [List.take_length]at h11'
   obtain ⟨p,hpp⟩:∃p,CI A' (b-sent) P=p:=⟨_,rfl⟩
   rw [hpp]at h11' hS2 hp0 hp1 hR2 hfn2
   clear G4
   simp +contextual (maxSteps:=4000000) only[↓bdD,bdP,Nat.reduceLT,Nat.reduceBEq,Nat.reduceAdd,↓reduceIte,AW,h30,hnPl]
   refine Az [15,47,48,49,50,51,52,53,54,55,56,57,58,59,60,61,62,63,64,65,66,67,68,69,70,71,72,73,74,75,76] P.length (fun k ρ st'=>ρ 47=I k∧st'=⟨sO ob B (A.length / 2) (aug A' p (P.take k)) lv2,M⟩) (.refl _) ?_ ?_
   ·simp +contextual (maxSteps:=4000000) only[↓bdD,bdP]
    rfl
   rintro k ρ6 st' hk2 ⟨h47,rfl⟩
   have hal:∀k,(aug A' p (P.take k)).length=A.length:=fun k=>by rw[DG,hl]
   by_cases hkl2:k<P.length
   ·have hwk:=BC (k:=k) (by omega)
    have hnk:=FG hkl2
    have hj:=(hpo.arc _ (hmemP k hkl2)).1
    have has:=jB (A:=A') (p:=p) hkl2
    have hgk:=jA (A':=aug A' p (P.take k)) (lv':=lv2) h1 (hal k) (by rw[hlm,hN])
    have G4:=hgk.o4
    rw [hal k]at G4
    have hPN:P.length≤100000:=by
     have := CF N (P.map (aT A')) hpo.nd (fun x hx=>by
      obtain ⟨k,hk,rfl⟩:=List.mem_map.1 hx
      exact (hS.ar k (hpo.arc k hk).1).2)
     rw [List.length_map]at this
     omega
    have hbd:∀x,x<A'.length → -300000000000000000≤aL (aug A' p (P.take k)) x∧aL (aug A' p (P.take k)) x≤300000000000000000:=fun x hx=>by
     rw [N0 hS.wp.len (fun y hy=>by have:=(hpo.arc y (List.mem_of_mem_take hy)).1;rw[←hS.wp.len];exact this)]
     have q1:=hcap x hx
     have q2:=Ww (p:=p) (n:=(P.take k).count x) (by omega) (by omega) (Nat.le_trans List.count_le_length (by rw[List.length_take];omega))
     have q3:=Ww (p:=p) (n:=(P.take k).count (rv x)) (by omega) (by omega) (Nat.le_trans List.count_le_length (by rw[List.length_take];omega))
     omega
    generalize hAk:aug A' p (P.take k)=Ak at *
    have hAkl:Ak.length=A.length:=by rw[←hAk];exact hal k
    clear hal
    generalize P.getD k 0=j at *
    have hrj:rv j<A'.length:=by rw[hS.wp.len]at hj ⊢;exact NZ hj
    have hb1:=hbd _ hj
    have hb2:=hbd _ hrj
    rw [hl]at hj hrj
    have hne:=fO (k:=j)
    have hxr:=uA (k:=j) (by omega)
    have hnA:=B8 (l:=Ak) (k:=j) (by omega)
    have hA1l:(CC Ak j (-p)).length=A.length:=by rw[D9,hAkl]
    have hnA1:=B8 (l:=CC Ak j (-p)) (k:=rv j) (by omega)
    have hLr:aL (CC Ak j (-p)) (rv j)=aL Ak (rv j):=by rw[L7 (by omega),if_neg hne]
    have w1:IntKind.i64.wrap ((Ak.getD j dA).2.2.1-p)=(Ak.getD j dA).2.2.1 + -p:=by
     have : (Ak.getD j dA).2.2.1=aL Ak j:=rfl
     rw [this,Ah (by omega) (by omega)];omega
    have w2:IntKind.i64.wrap (((CC Ak j (-p)).getD (rv j) dA).2.2.1+p)=((CC Ak j (-p)).getD (rv j) dA).2.2.1+p:=by
     have : ((CC Ak j (-p)).getD (rv j) dA).2.2.1=aL (CC Ak j (-p)) (rv j):=rfl
     rw [this,hLr,Ah (by omega) (by omega)]
    have hs1:=Lb (A:=Ak) (k:=j) (x := -p)
    have hs2:=Lb (A:=CC Ak j (-p)) (k:=rv j) (x:=p)
    have hau:CC (CC Ak j (-p)) (rv j) p=Cu Ak p j:=rfl
    have G9:sO ob B (A.length / 2) Ak lv2 (B+2)=some (.arr 0 3 [.agg [.ref (B+4) (A.length / 2) 0 A.length,.ref B 1 0 out.length,.ref (B+1) 1 0 lv2.length]]):=by
     have := hgk.o2
     unfold H3 at this
     rw [hAkl]at this
     exact this
    clear G2 hgk
    generalize rv j=rj at *
    generalize CC Ak j (-p)=A1 at *
    have u24:(B+2==B+4)=false:=by simp
    generalize hSO:sO ob B (A.length / 2) Ak lv2=SO at *
    simp +contextual (maxSteps:=4000000) only[↓bdD,bdP,Nat.reduceLT,Nat.reduceBEq,Nat.reduceAdd,Nat.reduceLeDiff,reduceCtorEq,Store.set,↓reduceIte,ty3,AW,Ki,Gz,K1,h47,h11',hkl2,hwk,hnk,hnPl,hnA,hnA1,hj,hrj,hAkl,hA1l,w1,w2,hs1,hs2,tZ,hxr,u24,G9,G4,AX]
    rw [has,←hau,←hSO,Aam]
   ·have e:k=P.length:=by omega
    subst e
    rw [List.take_length]
    have hw9:IntKind.i64.wrap (sent+p)=sent+p:=Ah (by omega) (by omega)
    simp +contextual (maxSteps:=4000000) only[↓bdD,bdP,Nat.reduceLT,Nat.reduceBEq,↓reduceIte,h47,h11',hw9,r9]
    refine ⟨(b-(sent+p)).toNat,by omega,?_,aug A' p P,lv2,rfl,hS2,by rw[DG,hl],by omega,rfl,by rw[hfn2,hfn],by omega,hR2⟩
    rw [AB (by decide +kernel)]
    simp +contextual (maxSteps:=4000000) only[↓bdD,bdP,Nat.reduceBEq]
    rw [AB (by decide +kernel)]
    simp +contextual (maxSteps:=4000000) only[↓bdD,bdP,Nat.reduceBEq]
  ·have hh:A'=AE∧sent=rE:=by
    cases hR with
    | full _ _ _ g=>exact absurd hlt g
    | stop=>exact⟨rfl,rfl⟩
    | step _ _ _ _ _ _ g=>exact absurd g hd
   rw [if_neg hd]at sp
   simp +contextual (maxSteps:=4000000) only[↓bdD,bdP,Nat.reduceBNe,Nat.reduceLT,Nat.reduceBEq,Ar,Nat.reduceAdd,reduceCtorEq,↓reduceIte,ty3,AW,Jn,r9,hlt,sp]
   rw [←hh.1,←hh.2]
   exact Oi r0 (show B+4<M by omega) rfl
 ·have hh:A'=AE∧sent=rE:=by
   cases hR with
   | full=>exact⟨rfl,rfl⟩
   | stop _ _ _ g=>exact absurd g hlt
   | step _ _ _ _ _ g=>exact absurd g hlt
  simp +contextual (maxSteps:=4000000) only[↓bdD,bdP,Nat.reduceLT,Nat.reduceBEq,Ar,↓reduceIte,r9,hlt]
  rw [←hh.1,←hh.2]
  exact Oi r0 (show B+4<M by omega) rfl
end Sim
