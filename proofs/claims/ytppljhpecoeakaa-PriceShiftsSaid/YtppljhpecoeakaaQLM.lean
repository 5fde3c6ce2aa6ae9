/- What functions of this seat compute, by values: contracts (lemmas of the statement's proof, under the conditions that each names). -/
import Derived.Test.YtppljhpecoeakaaQJ
import Derived.Test.YtppljhpecoeakaaQF10
import Derived.Test.YtppljhpecoeakaaQF9
set_option maxRecDepth 10000
set_option maxHeartbeats 4000000
set_option linter.unusedVariables false
set_option linter.unusedSimpArgs false
namespace Sim
open Go Go.Proofs
attribute [local congr] Ap Aq Al AC As Ar Av
theorem nC {k:Nat}:k ^^^ 1=rv k:=by
 have h1:(k ^^^ 1) / 2=k / 2:=by rw[Nat.xor_div_two];simp
 have h2:(k ^^^ 1) % 2=(k+1) % 2:=by
  have := Nat.xor_mod_two_pow (a:=k) (b:=1) (n:=1)
  simp only[Nat.pow_one]at this
  rw [this]
  rcases Nat.mod_two_eq_zero_or_one k with h | h
  ·rw [h];show 1=_;omega
  ·rw [h];show 0=_;omega
 unfold rv
 split <;> omega
def Aed (a b:Int):Int:=IntKind.i64.wrap (BitVec.ofInt 64 a ^^^ BitVec.ofInt 64 b).toNat
theorem yV {a b:Int}:Cw .xor .i64 a b=some (Aed a b):=nrfl rfl
theorem yW {k:Nat} (h:k<4611686018427387904):Aed (k:Int) 1=((rv k:Nat):Int):=by
 unfold Aed
 rw [←nC]
 have e:(BitVec.ofInt 64 (k:Int) ^^^ BitVec.ofInt 64 1).toNat=k ^^^ 1:=by
  rw [BitVec.toNat_xor]
  congr 1
  rw [BitVec.toNat_ofInt]
  omega
 rw [e]
 have hb:rv k≤k+1:=by unfold rv;split <;> omega
 rw [nC]
 exact Ag (by omega) (by omega)
theorem Aee (x y:GP) (st:Store) (h:KV x=KV y) (hx:KU x st) (hy:KU y st):HE x st=HE y st:=by
 obtain ⟨B,A,out,lv,s,t⟩:=x
 obtain ⟨B',A',out',lv',s',t'⟩:=y
 simp only[KV,gP,List.cons.injEq,and_true,PV.ptr.injEq,PV.int.injEq,true_and]at h
 have e1:B=B':=by omega
 have e2:s=s':=by omega
 have e3:t=t':=by omega
 subst e1;subst e2;subst e3
 have g:=hx.1
 have g':=hy.1
 dsimp only at g g'
 have e4:=g.o4.symm.trans g'.o4
 simp only[Option.some.injEq,IObj.arr.injEq,MA,true_and]at e4
 have e5:=g.o1.symm.trans g'.o1
 simp only[Option.some.injEq,IObj.arr.injEq,true_and]at e5
 have e5:lv=lv':=FP (fun x y h=>by injection h) e5
 have e0:=g.o2.symm.trans g'.o2
 simp only[Ir,Option.some.injEq,IObj.arr.injEq,List.cons.injEq,PV.agg.injEq,PV.ref.injEq,true_and,and_true]at e0
 have e6:out=out':=by
  refine List.ext_getElem e0.2.1 fun u h1 h2=>?_
  have q:=(g.o5 u h1).symm.trans (g'.o5 u h2)
  simp only[Option.some.injEq,IObj.arr.injEq,MV,true_and]at q
  have q:=q.2
  rwa [List.getD_eq_getElem?_getD,List.getD_eq_getElem?_getD,List.getElem?_eq_getElem h1,List.getElem?_eq_getElem h2]at q
 rw [e4.2,e5,e6]
theorem Aef {B s t:Nat} {A:List Arc} {out:List (List Nat)} {lv:List Int} {st:Store} (h:KU ⟨B,A,out,lv,s,t⟩ st):Be KV KU HE [gP B,I (s:Nat),I (t:Nat)] st=some (HE ⟨B,A,out,lv,s,t⟩ st) :=
 Bq Aee (i:=⟨B,A,out,lv,s,t⟩) h
structure GE where
 B : Nat
 A : List Arc
 out : List (List Nat)
 lv : List Int
 m : Nat
 s : Nat
 t : Nat
 b : Int
def KW (x:GE) (st:Store):Prop:=GrAt x.B x.A x.out x.lv st.obj∧SI x.A x.out x.lv x.lv.length x.m x.s x.t 0∧x.B+5+x.lv.length≤st.next∧WF st∧(∀i r,st.obj i≠some (.lp r)) ∧
 x.lv.length ≤ 100000∧x.A.length≤1000000∧EB x.out (ini x.lv.length x.s)≤100000000∧0≤x.b∧x.b≤1099511627776∧∀i,(fnA x.A x.lv.length x.s x.t).cap i≤1099511627776
def KX (x:GE):List PV := [gP x.B,I (x.s:Nat),I (x.t:Nat),I x.b]
noncomputable def I8 (x:GE) (st:Store):PV×Store:=(I (C8 x.A x.out x.lv x.lv.length x.s x.t x.b).2,⟨Aa (Aa st.obj (x.B+4) (some (.arr (x.A.length / 2) 4 ((C8 x.A x.out x.lv x.lv.length x.s x.t x.b).1.map Dc)))) (x.B+1) none,st.next⟩)
noncomputable def e_send:Nat×Ent:=(66,.x (Be KX KW I8))
def sO (ob:Nat→Option IObj) (B n:Nat) (A:List Arc) (lv:List Int):Nat→Option IObj:=Aa (Aa ob (B+4) (some (.arr n 4 (A.map Dc)))) (B+1) (some (.arr 1 1 (lv.map (PV.int .i64))))
theorem nE {ob:Nat→Option IObj} {B:Nat} {A A':List Arc} {out:List (List Nat)} {lv lv':List Int} (h:GrAt B A out lv ob) (h1:A'.length=A.length) (h2:lv'.length=lv.length):GrAt B A' out lv' (sO ob B (A.length / 2) A' lv'):=by
 refine ⟨?_,?_,?_,?_,fun u hu=>?_⟩
 ·simp only[sO,Aa];rw[if_neg (by omega),if_neg (by omega)];exact h.o0
 ·simp only[sO,Aa,if_true]
 ·simp only[sO,Aa];rw[if_neg (by omega),if_neg (by omega),h.o2];simp only[Ir,h1,h2]
 ·simp only[sO,Aa];rw[if_neg (by omega),if_pos trivial,h1]
 ·simp only[sO,Aa];rw[if_neg (by omega),if_neg (by omega)];exact h.o5 u hu
theorem yX {ob:Nat→Option IObj} {B:Nat} {A:List Arc} {out:List (List Nat)} {lv:List Int} (h:GrAt B A out lv ob):sO ob B (A.length / 2) A lv=ob:=by
 unfold sO
 rw [Ig h.o4,Ig h.o1]
theorem Aeg {ob:Nat→Option IObj} {B n:Nat} {A A':List Arc} {lv:List Int}:Aa (sO ob B n A lv) (B+4) (some (.arr n 4 (A'.map Dc)))=sO ob B n A' lv:=by
 funext i
 simp only[sO,Aa]
 by_cases c1:i=B+4
 ·have c2:¬i=B+1:=by omega
  rw [if_pos c1,if_neg c2,if_pos c1]
 ·rw [if_neg c1,if_neg c1,if_neg c1]
theorem bP {A:List Arc} {b:Int} {P:List Nat} {k:Nat} (h:k<P.length):CV A b (P.take (k+1))=if aL A (P.getD k 0)<CV A b (P.take k)then aL A (P.getD k 0)else CV A b (P.take k):=by
 unfold CV
 rw [List.take_succ_eq_append_getElem h,List.foldl_append]
 simp [h]
theorem nF {A:List Arc} {p:Int} {P:List Nat} {k:Nat} (h:k<P.length):aug A p (P.take (k+1))=CG (aug A p (P.take k)) p (P.getD k 0):=by
 unfold aug
 rw [List.take_succ_eq_append_getElem h,List.foldl_append]
 simp [h]
theorem XF {p:Int} {n:Nat} (h0:0≤p) (h1:p≤1099511627776) (hn:n≤100000):0≤p*(n:Int)∧p*(n:Int)≤109951162777600000:=by
 refine ⟨Int.mul_nonneg h0 (by omega),?_⟩
 have := Int.mul_le_mul h1 (show (n:Int)≤100000 by omega) (by omega) (by omega)
 omega
theorem LF {A:List Arc} {k:Nat} {x:Int}:(A.map Dc).set k (.agg [I ((A.getD k dA).1:Nat),I ((A.getD k dA).2.1:Nat),I ((A.getD k dA).2.2.1+x),I (A.getD k dA).2.2.2])=(CP A k x).map Dc:=by
 unfold CP
 rw [List.map_set]
theorem QO {K:Nat→Prop} {g z:Nat} {A:List Arc}:OIn K (.arr g z (A.map Dc)):=fun e he c hc=>by
 obtain ⟨x,_,rfl⟩:=List.mem_map.1 he
 simp only[PV.cells,List.mem_cons,List.not_mem_nil,or_false]at hc
 rcases hc with hc | hc | hc | hc <;> (rw[hc];exact .int _ _)
theorem OT {ob:Nat→Option IObj} {M B n:Nat} {A:List Arc} {lv:List Int} {r r':Int} (r0:∀i o,ob i=some o→i<M) (hB:B+4<M) (hr:r'=r):Mn ⟨ob,M⟩ (I r) ⟨Aa (Aa ob (B+4) (some (.arr n 4 (A.map Dc)))) (B+1) none,M⟩ (I r') ⟨sO ob B n A lv,M⟩:=by
 refine ⟨[],.inl (by rw[hr]),fun i o hi=>?_,Nat.le_refl _,.int _ _⟩
 simp only[sO,Aa]at hi ⊢
 by_cases c1:i=B+1
 ·rw [if_pos c1]at hi;cases hi
 ·rw [if_neg c1]at hi ⊢
  by_cases c2:i=B+4
  ·rw [if_pos c2]at hi ⊢
   cases hi
   exact ⟨by omega,rfl,rfl,.inr QO⟩
  ·rw [if_neg c2]at hi ⊢
   exact ⟨r0 i o hi,rfl,hi,.inl hi⟩
theorem nG:AM Try.prog e_send.1 e_send.2:=FS fun x st hx=>by
 obtain ⟨B,A,out,lv,m,s,t,b⟩:=x
 obtain ⟨ob,M⟩:=st
 unfold KW at hx
 dsimp only at hx
 obtain ⟨h1,h2,h4,h5,h6,h7,h8,h10,h11,h12,h13⟩:=hx
 obtain ⟨N,hN⟩:∃N,lv.length=N:=⟨_,rfl⟩
 simp only[KX,I8]
 rw [hN]at h2 h4 h7 h10 h13 ⊢
 have hsR:=Qr (bytes:=b) h2
 obtain ⟨AE,hAE⟩:∃x,(C8 A out lv N s t b).1=x:=⟨_,rfl⟩
 obtain ⟨rE,hrE⟩:∃x,(C8 A out lv N s t b).2=x:=⟨_,rfl⟩
 rw [hAE,hrE]at hsR
 rw [hAE,hrE]
 have r0:∀i o,ob i=some o→i<M:=h5
 refine Ch AP (l := [e_path]) ((Ae Aec Ao)) [] [] 0 Try.func66 rfl (by decide +kernel) (N:=81) rfl (by simp) rfl (by kernel_rfl) ?_
 simp +contextual (maxSteps:=4000000) only[↓bdD,bdP,Nat.reduceLT,e_path,Try.f66]
 refine CS [9,10,11,13,15,16,17,18,19,20,21,22,23,24,25,26,27,28,29,30,31,32,33,34,35,36,37,38,39,40,41,42,43,44,45,46,47,48,49,50,51,52,53,54,55,56,57,58,59,60,61,62,63,64,65,66,67,68,69,70,71,72,73,74,75,76,77,78,79] b.toNat (fun μ ρ st'=>∃A' lv' sent,ρ 9=I sent∧st'=⟨sO ob B (A.length / 2) A' lv',M⟩∧SI A' out lv' N m s t sent∧A'.length=A.length∧sent≤b∧(b-sent).toNat=μ∧fnA A' N s t=fnA A N s t∧0≤sent∧SendR out N s t b A' lv' sent AE rE) (.refl _) ?_ ?_
 ·simp +contextual (maxSteps:=4000000) only[↓bdD,bdP]
  exact ⟨A,lv,by rw[yX h1],h2,rfl,h11,by rw[Int.sub_zero],rfl,hsR⟩
 rintro μ ρ st' ⟨A',lv',sent,r9,rfl,hS,hl,hsb,hμ,hfn,hs0,hR⟩
 have hgr:=nE (A':=A') (lv':=lv') h1 hl (by rw[hS.ll,hN])
 have hll:=hS.ll
 by_cases hlt:sent<b
 ·have hlvb:∀v,-1000000000000≤lv'.getD v 0∧lv'.getD v 0≤1000000000000:=fun v=>by
   by_cases c:v<N
   ·have := hS.lvb v c
    omega
   ·rw [List.getD_eq_getElem?_getD,List.getElem?_eq_none (by omega)]
    decide
  have hne:∀i o,sO ob B (A.length / 2) A' lv' i=some o→i<M∧∀r,o≠.lp r:=fun i o hi=>by
   simp only[sO,Aa]at hi
   by_cases c1:i=B+1
   ·rw [if_pos c1]at hi;cases hi;exact⟨by omega,by simp⟩
   ·rw [if_neg c1]at hi
    by_cases c2:i=B+4
    ·rw [if_pos c2]at hi;cases hi;exact⟨by omega,by simp⟩
    ·rw [if_neg c2]at hi
     exact ⟨r0 i o hi,fun r e=>h6 i r (by rw[hi,e])⟩
  have sp:=Aef (B:=B) (A:=A') (out:=out) (lv:=lv') (s:=s) (t:=t) (st:=⟨sO ob B (A.length / 2) A' lv',M⟩) ⟨hgr,by dsimp only;rw[hll];exact hS.gr,by dsimp only;rw[hll];exact hS.tN,fun e=>hS.st e.symm,by dsimp only;rw[hll];exact h4,fun i o hi=>(hne i o hi).1,fun i r hi=>(hne i _ hi).2 r rfl,by dsimp only;rw[hll];exact h7,by dsimp only;rw[hl];exact h8,hlvb,by dsimp only;rw[hll];exact h10⟩
  have hRp:HE ⟨B,A',out,lv',s,t⟩ ⟨sO ob B (A.length / 2) A' lv',M⟩=if (FV A' out lv' N s).done.getD t true=true then (.lits 1 (Ba (CJ A' out lv' N s t)),⟨Aa (sO ob B (A.length / 2) A' lv') (B+1) (some (.arr 1 1 ((lvM A' out lv' N s).map (PV.int .i64)))),M⟩)else (.nils,⟨sO ob B (A.length / 2) A' lv',M⟩):=by
   unfold HE
   dsimp only
   rw [hll]
  rw [hRp]at sp
  clear hRp
  unfold gP at sp
  by_cases hd:(FV A' out lv' N s).done.getD t true=true
  ·rw [if_pos hd]at sp
   have hO:Aa (sO ob B (A.length / 2) A' lv') (B+1) (some (.arr 1 1 ((lvM A' out lv' N s).map (PV.int .i64))))=sO ob B (A.length / 2) A' (lvM A' out lv' N s):=by unfold sO;rw[A4]
   rw [hO]at sp
   obtain ⟨hS2,hp0,hp1⟩:=My hS hlt hd
   have hR2:SendR out N s t b (aug A' (CV A' (b-sent) (CJ A' out lv' N s t)) (CJ A' out lv' N s t)) (lvM A' out lv' N s) (sent+CV A' (b-sent) (CJ A' out lv' N s t)) AE rE:=by
    cases hR with
    | full _ _ _ g=>exact absurd hlt g
    | stop _ _ _ _ g=>rw[hd]at g;cases g
    | step _ _ _ _ _ _ _ g=>exact g
   have hpo:=Lx hS.gr ((JR hS).1 hd)
   have hfn2:=KJ (N:=N) (s:=s) (t:=t) (p:=CV A' (b-sent) (CJ A' out lv' N s t)) hS.wp (P:=CJ A' out lv' N s t) (fun k hk=>by have:=(hpo.arc k hk).1;rw[←hS.wp.len];exact this)
   have hlm:(lvM A' out lv' N s).length=N:=(Aa5 hS.gr).1
   obtain ⟨P,hP⟩:∃P,CJ A' out lv' N s t=P:=⟨_,rfl⟩
   rw [hP]at sp hS2 hp0 hp1 hR2 hpo hfn2
   have hPne:P ≠ []:=fun e=>by
    rw [e]at hpo
    have := hpo.isP
    generalize hw:([]:List Nat)=w at this
    cases this with
    | nil=>exact hS.st rfl
    | cons k Q _=>cases hw
   obtain ⟨k0,P0,hPc⟩:∃k0 P0,Ba P=I (k0:Nat)::Ba P0:=by
    cases P with
    | nil=>exact absurd rfl hPne
    | cons k0 P0=>exact⟨k0,P0,rfl⟩
   have hnc:∀ {op:BinOp} {ok:Bool} {A:Prop} {K:PV→Prop},Qe (.lits 1 (Ba P)) op ok A K=A:=by intros;rw[hPc];rfl
   have hbn:BJ Try.prog .eql 43 (.lits 1 (Ba P)) .nils=some (.bool false):=by rw[hPc,iZ];simp only[AZ];rfl
   clear hPc
   generalize lvM A' out lv' N s=lv2 at *
   have hw0:IntKind.i64.wrap (b-sent)=b-sent:=Ag (by omega) (by omega)
   have hcapA:∀i,aL A' (2*i)+aL A' (2*i+1)≤1099511627776:=fun i=>by
    have e:(fnA A' N s t).cap i=(fnA A N s t).cap i:=by rw[hfn]
    have := h13 i
    rw [←e]at this
    exact this
   have hcap:∀j,j<A'.length→0≤aL A' j∧aL A' j≤1099511627776:=fun j hj=>by
    rw [hS.wp.len]at hj
    have n0:=hS.wp.nn j hj
    have n1:=hS.wp.nn (2*(j / 2)) (by omega)
    have n2:=hS.wp.nn (2*(j / 2)+1) (by omega)
    have := hcapA (j / 2)
    refine ⟨n0,?_⟩
    rcases Nat.mod_two_eq_zero_or_one j with h | h
    ·rw [show 2*(j / 2)=j by omega]at this n1 n2
     omega
    ·rw [show 2*(j / 2)+1=j by omega]at this n2
     omega
   have hg2:=nE (A':=A') (lv':=lv2) h1 hl (by rw[hlm,hN])
   have G2:=hg2.o2
   have G4:=hg2.o4
   unfold Ir at G2
   rw [hl]at G4 G2
   have hPl:P.length≤1000000000:=by
    have := CT N (P.map (aT A')) hpo.nd (fun x hx=>by
     obtain ⟨k,hk,rfl⟩:=List.mem_map.1 hx
     exact (hS.ar k (hpo.arc k hk).1).2)
    rw [List.length_map]at this
    omega
   have hnPl:(Ba P).length=P.length:=CB
   have hmemP:∀k,k<P.length→P.getD k 0∈P:=fun k hk=>by
    have e:P.getD k 0=P[k]:=by simp[hk]
    rw [e];exact List.getElem_mem _
   simp +contextual (maxSteps:=4000000) only[↓bdD,bdP,Nat.reduceBNe,Nat.reduceLT,Nat.reduceBEq,Ai,Nat.reduceAdd,reduceCtorEq,↓reduceIte,ty3,AZ,JL,r9,hlt,sp,hnc,hbn,hw0]
   refine Ax [11,13,30,31,32,33,34,35,36,37,38,39,40,41,42,43,44] P.length (fun k ρ st'=>ρ 30=I k∧ρ 11=I (CV A' (b-sent) (P.take k))∧st'=⟨sO ob B (A.length / 2) A' lv2,M⟩) (.refl _) ?_ ?_
   ·simp +contextual (maxSteps:=4000000) only[↓bdD,bdP,Nat.reduceBEq]
    rfl
   rintro k ρ5 st' hk ⟨h30,h11',rfl⟩
   by_cases hkl:k<P.length
   ·have hwk:=BF (k:=k) (by omega)
    have hnk:=FZ hkl
    have hj:=(hpo.arc _ (hmemP k hkl)).1
    have hps:=bP (A:=A') (b:=b-sent) hkl
    have haL:(A'.getD (P.getD k 0) dA).2.2.1=aL A' (P.getD k 0):=rfl
    generalize P.getD k 0=j at *
    have hnA:=Ci hj
    rw [haL]at hnA
    rw [hl]at hj
    simp +contextual (maxSteps:=4000000) only[↓bdD,bdP,Nat.reduceLT,Nat.reduceBEq,Nat.reduceAdd,↓reduceIte,ty3,AZ,KH,GV,Lt,h30,h11',hkl,hwk,hnk,hnPl,hnA,hj,hl,G2,G4]
    exact hps.symm
   have e:P.length=k:=by omega
   subst e
   rw [List.take_length]at h11'
   obtain ⟨p,hpp⟩:∃p,CV A' (b-sent) P=p:=⟨_,rfl⟩
   rw [hpp]at h11' hS2 hp0 hp1 hR2 hfn2
   clear G4
   simp +contextual (maxSteps:=4000000) only[↓bdD,bdP,Nat.reduceLT,Nat.reduceBEq,Nat.reduceAdd,↓reduceIte,AZ,h30,hnPl]
   refine Ax [15,47,48,49,50,51,52,53,54,55,56,57,58,59,60,61,62,63,64,65,66,67,68,69,70,71,72,73,74,75,76] P.length (fun k ρ st'=>ρ 47=I k∧st'=⟨sO ob B (A.length / 2) (aug A' p (P.take k)) lv2,M⟩) (.refl _) ?_ ?_
   ·simp +contextual (maxSteps:=4000000) only[↓bdD,bdP]
    rfl
   rintro k ρ6 st' hk2 ⟨h47,rfl⟩
   have hal:∀k,(aug A' p (P.take k)).length=A.length:=fun k=>by rw[DT,hl]
   by_cases hkl2:k<P.length
   ·have hwk:=BF (k:=k) (by omega)
    have hnk:=FZ hkl2
    have hj:=(hpo.arc _ (hmemP k hkl2)).1
    have has:=nF (A:=A') (p:=p) hkl2
    have hgk:=nE (A':=aug A' p (P.take k)) (lv':=lv2) h1 (hal k) (by rw[hlm,hN])
    have G4:=hgk.o4
    rw [hal k]at G4
    have hPN:P.length≤100000:=by
     have := CT N (P.map (aT A')) hpo.nd (fun x hx=>by
      obtain ⟨k,hk,rfl⟩:=List.mem_map.1 hx
      exact (hS.ar k (hpo.arc k hk).1).2)
     rw [List.length_map]at this
     omega
    have hbd:∀x,x<A'.length → -300000000000000000≤aL (aug A' p (P.take k)) x∧aL (aug A' p (P.take k)) x≤300000000000000000:=fun x hx=>by
     rw [Ox hS.wp.len (fun y hy=>by have:=(hpo.arc y (List.mem_of_mem_take hy)).1;rw[←hS.wp.len];exact this)]
     have q1:=hcap x hx
     have q2:=XF (p:=p) (n:=(P.take k).count x) (by omega) (by omega) (Nat.le_trans List.count_le_length (by rw[List.length_take];omega))
     have q3:=XF (p:=p) (n:=(P.take k).count (rv x)) (by omega) (by omega) (Nat.le_trans List.count_le_length (by rw[List.length_take];omega))
     omega
    generalize hAk:aug A' p (P.take k)=Ak at *
    have hAkl:Ak.length=A.length:=by rw[←hAk];exact hal k
    clear hal
    generalize P.getD k 0=j at *
    have hrj:rv j<A'.length:=by rw[hS.wp.len]at hj ⊢;exact Ow hj
    have hb1:=hbd _ hj
    have hb2:=hbd _ hrj
    rw [hl]at hj hrj
    have hne:=kJ (k:=j)
    have hxr:=yW (k:=j) (by omega)
    have hnA:=Ci (l:=Ak) (k:=j) (by omega)
    have hA1l:(CP Ak j (-p)).length=A.length:=by rw[Eo,hAkl]
    have hnA1:=Ci (l:=CP Ak j (-p)) (k:=rv j) (by omega)
    have hLr:aL (CP Ak j (-p)) (rv j)=aL Ak (rv j):=by rw[Mx (by omega),if_neg hne]
    have w1:IntKind.i64.wrap ((Ak.getD j dA).2.2.1-p)=(Ak.getD j dA).2.2.1 + -p:=by
     have : (Ak.getD j dA).2.2.1=aL Ak j:=rfl
     rw [this,Ag (by omega) (by omega)];omega
    have w2:IntKind.i64.wrap (((CP Ak j (-p)).getD (rv j) dA).2.2.1+p)=((CP Ak j (-p)).getD (rv j) dA).2.2.1+p:=by
     have : ((CP Ak j (-p)).getD (rv j) dA).2.2.1=aL (CP Ak j (-p)) (rv j):=rfl
     rw [this,hLr,Ag (by omega) (by omega)]
    have hs1:=LF (A:=Ak) (k:=j) (x := -p)
    have hs2:=LF (A:=CP Ak j (-p)) (k:=rv j) (x:=p)
    have hau:CP (CP Ak j (-p)) (rv j) p=CG Ak p j:=rfl
    have G9:sO ob B (A.length / 2) Ak lv2 (B+2)=some (.arr 0 3 [.agg [.ref (B+4) (A.length / 2) 0 A.length,.ref B 1 0 out.length,.ref (B+1) 1 0 lv2.length]]):=by
     have := hgk.o2
     unfold Ir at this
     rw [hAkl]at this
     exact this
    clear G2 hgk
    generalize rv j=rj at *
    generalize CP Ak j (-p)=A1 at *
    have u24:(B+2==B+4)=false:=by simp
    generalize hSO:sO ob B (A.length / 2) Ak lv2=SO at *
    simp +contextual (maxSteps:=4000000) only[↓bdD,bdP,Nat.reduceLT,Nat.reduceBEq,Nat.reduceAdd,Nat.reduceLeDiff,reduceCtorEq,Store.set,↓reduceIte,ty3,AZ,KH,GV,Lt,h47,h11',hkl2,hwk,hnk,hnPl,hnA,hnA1,hj,hrj,hAkl,hA1l,w1,w2,hs1,hs2,yV,hxr,u24,G9,G4,A4]
    rw [has,←hau,←hSO,Aeg]
   ·have e:k=P.length:=by omega
    subst e
    rw [List.take_length]
    have hw9:IntKind.i64.wrap (sent+p)=sent+p:=Ag (by omega) (by omega)
    simp +contextual (maxSteps:=4000000) only[↓bdD,bdP,Nat.reduceLT,Nat.reduceBEq,↓reduceIte,h47,h11',hw9,r9]
    refine ⟨(b-(sent+p)).toNat,by omega,?_,aug A' p P,lv2,rfl,hS2,by rw[DT,hl],by omega,rfl,by rw[hfn2,hfn],by omega,hR2⟩
    rw [AF (by decide +kernel)]
    simp +contextual (maxSteps:=4000000) only[↓bdD,bdP,Nat.reduceBEq]
    rw [AF (by decide +kernel)]
    simp +contextual (maxSteps:=4000000) only[↓bdD,bdP,Nat.reduceBEq]
  ·have hh:A'=AE∧sent=rE:=by
    cases hR with
    | full _ _ _ g=>exact absurd hlt g
    | stop=>exact⟨rfl,rfl⟩
    | step _ _ _ _ _ _ g=>exact absurd g hd
   rw [if_neg hd]at sp
   simp +contextual (maxSteps:=4000000) only[↓bdD,bdP,Nat.reduceBNe,Nat.reduceLT,Nat.reduceBEq,Ai,Nat.reduceAdd,reduceCtorEq,↓reduceIte,ty3,AZ,JL,r9,hlt,sp]
   rw [←hh.1,←hh.2]
   exact OT r0 (show B+4<M by omega) rfl
 ·have hh:A'=AE∧sent=rE:=by
   cases hR with
   | full=>exact⟨rfl,rfl⟩
   | stop _ _ _ g=>exact absurd g hlt
   | step _ _ _ _ _ g=>exact absurd g hlt
  simp +contextual (maxSteps:=4000000) only[↓bdD,bdP,Nat.reduceLT,Nat.reduceBEq,Ai,↓reduceIte,r9,hlt]
  rw [←hh.1,←hh.2]
  exact OT r0 (show B+4<M by omega) rfl
end Sim
namespace Sim
open Go Go.Proofs
attribute [local congr] Ap Aq Al AC As Ar Av
structure GA where
 B : Nat
 A : List Arc
 out : List (List Nat)
 lv : List Int
 u : Nat
 v : Nat
 x : Int
 y : Int
def MW (x:GA) (st:Store):Prop:=GrAt x.B x.A x.out x.lv st.obj∧x.u<x.out.length∧x.v<x.out.length∧¬x.u=x.v∧x.B+5+x.out.length≤st.next∧x.A.length≤1000000∧x.A.length % 2=0∧(x.out.getD x.u []).length≤1000000∧(x.out.getD x.v []).length≤1000000 ∧ -1000000≤x.y∧x.y≤1000000
def MX (x:GA):List PV := [gP x.B,I (x.u:Nat),I (x.v:Nat),I x.x,I x.y]
def aO (ob:Nat→Option IObj) (B u v n:Nat) (A:List Arc) (out:List (List Nat)) (lv:List Int):Nat→Option IObj :=
 Aa (Aa (Aa (Aa (Aa ob (B+5+u) (some (.arr (out.getD u []).length 1 (Ba (out.getD u []))))) (B+5+v) (some (.arr (out.getD v []).length 1 (Ba (out.getD v []))))) B (some (.arr 1 1 (ED B out)))) (B+4) (some (.arr n 4 (A.map Dc)))) (B+2) (some (.arr 0 3 [.agg [.ref (B+4) n 0 A.length,.ref B 1 0 out.length,.ref (B+1) 1 0 lv.length]]))
def OU (x:GA) (st:Store):PV×Store:=(.tuple [],⟨aO st.obj x.B x.u x.v (x.A.length / 2+1) (Fl x.A x.u x.v x.x x.y) (CN x.out x.u x.v x.A.length) x.lv,st.next⟩)
noncomputable def e_add:Nat×Ent:=(77,.x (Be MX MW OU))
theorem Ka {B u n:Nat} {out:List (List Nat)} (h:u<out.length):(ED B out).set u (PV.ref (B+5+u) ((out.getD u []).length+1) 0 ((out.getD u []).length+1))=ED B (out.set u (out.getD u [] ++ [n])):=by
 refine List.ext_getElem (by simp[ED]) fun i h1 h2=>?_
 rw [List.length_set,DV]at h1
 rw [List.getElem_set]
 by_cases c:u=i
 ·subst c
  rw [if_pos rfl]
  simp [ED,h]
 ·rw [if_neg c]
  simp [ED,c]
theorem Ih {B u:Nat} {out:List (List Nat)} (h:u<out.length):(ED B out).all PV.isInt=false:=by
 cases hh:(ED B out).all PV.isInt with
 | false=>rfl
 | true =>
  rw [List.all_eq_true]at hh
  have := hh _ (List.mem_of_getElem? (CZ (es:=ED B out) (i:=u) (by rw[DV];exact h)))
  rw [Eu h]at this
  cases this
theorem Ahz:AM Try.prog e_add.1 e_add.2:=Cx fun x st hx=>by
 obtain ⟨B,A,out,lv,u,v,x,y⟩:=x
 obtain ⟨ob,M⟩:=st
 unfold MW at hx
 dsimp only at hx
 obtain ⟨h1,hu,hv,huv,h4,h8,h9,h10,h11,h12,h13⟩:=hx
 simp only[MX,OU]
 have G0:=h1.o0
 have G2:=h1.o2
 have G4:=h1.o4
 have Gu:=h1.o5 u hu
 have Gv:=h1.o5 v hv
 unfold Ir at G2
 obtain ⟨i2,hi2⟩:∃i,i=B+2:=⟨_,rfl⟩
 obtain ⟨i4,hi4⟩:∃i,i=B+4:=⟨_,rfl⟩
 obtain ⟨iu,hiu⟩:∃i,i=B+5+u:=⟨_,rfl⟩
 obtain ⟨iv,hiv⟩:∃i,i=B+5+v:=⟨_,rfl⟩
 have nu:=Eu (B:=B) hu
 have hol:=DV (B:=B) (out:=out)
 have su:=Ka (B:=B) (n:=A.length) hu
 have sv:=Ka (B:=B) (n:=A.length+1) (out:=out.set u (out.getD u [] ++ [A.length])) (u:=v) (by rw[List.length_set];exact hv)
 have nv:=Eu (B:=B) (out:=out.set u (out.getD u [] ++ [A.length])) (u:=v) (by rw[List.length_set];exact hv)
 have ev:(out.set u (out.getD u [] ++ [A.length])).getD v []=out.getD v []:=by
  rw [List.getD_eq_getElem?_getD,List.getElem?_set_ne huv,List.getD_eq_getElem?_getD]
 rw [ev]at sv nv
 have hol2:(ED B (out.set u (out.getD u [] ++ [A.length]))).length=out.length:=by rw[DV,List.length_set]
 have hO:aO ob B u v (A.length / 2+1) (Fl A u v x y) (CN out u v A.length) lv=aO ob B u v (A.length / 2+1) (Fl A u v x y) (CN out u v A.length) lv:=rfl
 rw [←hi2,←hi4]at G2
 rw [←hi4]at G4
 rw [←hiu]at Gu nu su
 rw [←hiv]at Gv nv sv
 unfold gP
 rw [←hi2]
 have d1:¬B=i2:=by omega
 have d2:¬B=i4:=by omega
 have d3:¬B=iu:=by omega
 have d4:¬B=iv:=by omega
 have d5:¬i2=B:=by omega
 have d6:¬i2=i4:=by omega
 have d7:¬i2=iu:=by omega
 have d8:¬i2=iv:=by omega
 have d9:¬i4=B:=by omega
 have d10:¬i4=i2:=by omega
 have d11:¬i4=iu:=by omega
 have d12:¬i4=iv:=by omega
 have d13:¬iu=B:=by omega
 have d14:¬iu=iv:=by omega
 have d15:¬iv=B:=by omega
 have d16:¬iv=iu:=by omega
 have d17:¬iu=i2:=by omega
 have d18:¬iv=i2:=by omega
 have d19:¬iu=i4:=by omega
 have d20:¬iv=i4:=by omega
 have wn:IntKind.i64.wrap ((A.length:Int)+1)=((A.length+1:Nat):Int):=BF (by omega)
 have wy:IntKind.i64.wrap (0-y) = -y:=by rw[Ag (by omega) (by omega)];omega
 have k1:=Ih (B:=B) hu
 have k2:=Ih (B:=B) (out:=out.set u (out.getD u [] ++ [A.length])) (u:=v) (by rw[List.length_set];exact hv)
 have k3:(out.getD u []).length≤2147483647:=by omega
 have k4:(out.getD v []).length≤2147483647:=by omega
 have k5:List.take (out.getD u []).length (Ba (out.getD u []))=Ba (out.getD u []):=List.take_of_length_le (by rw[CB];exact Nat.le_refl _)
 have k6:List.take (out.getD v []).length (Ba (out.getD v []))=Ba (out.getD v []):=List.take_of_length_le (by rw[CB];exact Nat.le_refl _)
 have k7:A.length≤2147483646:=by omega
 have k9:¬A.length+2≤A.length:=by omega
 have k8:List.take A.length (A.map Dc)=A.map Dc:=List.take_of_length_le (by rw[List.length_map];exact Nat.le_refl _)
 refine Ch AP (l := []) (Ao) [] [700011,700012,700013,700029,700028,700031,700032,700033,700050,700049] 0 Try.func77 rfl (by decide +kernel) (N:=70) rfl (by simp) rfl (by kernel_rfl) ?_
 simp +contextual (maxSteps:=4000000) only[↓bdD,bdP,Nat.reduceLT,Nat.reduceBEq,Ai,Nat.reduceAdd,Nat.reduceMul,Nat.reduceLeDiff,reduceCtorEq,Store.set,↓reduceIte,Try.f77,ty3,Bf,AZ,KH,GV,Lt,G0,G2,G4,Gu,Gv,nu,nv,su,sv,hol,hol2,hu,hv,wn,wy,d3,d4,d5,d6,d7,d8,d9,d11,d12,d15,d16,k1,k2,k3,k4,k5,k6,k7,k8,k9,I6,CB,Nat.mul_one]
 have z1:(CN out u v A.length).getD u []=out.getD u [] ++ [A.length]:=by
  unfold CN
  rw [List.getD_eq_getElem?_getD,List.getElem?_set_ne (fun e=>huv e.symm),List.getElem?_set_self hu];rfl
 have z2:(CN out u v A.length).getD v []=out.getD v [] ++ [A.length+1]:=by
  unfold CN
  rw [List.getD_eq_getElem?_getD,List.getElem?_set_self (by rw[List.length_set];exact hv)];rfl
 have z3:(CN out u v A.length).length=out.length:=by unfold CN;rw[List.length_set,List.length_set]
 have z4:(Fl A u v x y).length=A.length+2:=by unfold Fl;rw[List.length_append];rfl
 have z5:(Fl A u v x y).map Dc=A.map Dc ++ [.agg [I (u:Nat),I (v:Nat),I x,I y],.agg [I (v:Nat),I (u:Nat),I 0,I (-y)]]:=by unfold Fl;rw[List.map_append];rfl
 have z0:((out.set u (out.getD u [] ++ [A.length])).set v (out.getD v [] ++ [A.length+1]))=CN out u v A.length:=rfl
 refine ⟨_,rfl,Left.same rfl (fun i o hi=>?_) (Nat.le_refl _)⟩
 rw [←hi]
 subst hi2 hi4 hiu hiv
 simp only[aO,Aa,z1,z2,z3,z4,z5,J9,List.length_append,List.length_singleton,z0]
 by_cases e1:i=B+2
 ·simp only[if_pos e1]
 ·simp only[if_neg e1]
  by_cases e2:i=B+4
  ·simp only[if_pos e2]
  ·simp only[if_neg e2]
   by_cases e3:i=B
   ·simp only[if_pos e3]
   ·simp only[if_neg e3]
theorem GrAt.same {B:Nat} {A A':List Arc} {out out':List (List Nat)} {lv lv':List Int} {ob:Nat→Option IObj} (g:GrAt B A out lv ob) (g':GrAt B A' out' lv' ob):A=A'∧out=out'∧lv=lv':=by
 have e4:=g.o4.symm.trans g'.o4
 simp only[Option.some.injEq,IObj.arr.injEq,MA,true_and]at e4
 have e5:=g.o1.symm.trans g'.o1
 simp only[Option.some.injEq,IObj.arr.injEq,true_and]at e5
 have e5:lv=lv':=FP (fun x y h=>by injection h) e5
 have e0:=g.o2.symm.trans g'.o2
 simp only[Ir,Option.some.injEq,IObj.arr.injEq,List.cons.injEq,PV.agg.injEq,PV.ref.injEq,true_and,and_true]at e0
 refine ⟨e4.2,List.ext_getElem e0.2.1 fun u h1 h2=>?_,e5⟩
 have q:=(g.o5 u h1).symm.trans (g'.o5 u h2)
 simp only[Option.some.injEq,IObj.arr.injEq,MV,true_and]at q
 have q:=q.2
 rwa [List.getD_eq_getElem?_getD,List.getD_eq_getElem?_getD,List.getElem?_eq_getElem h1,List.getElem?_eq_getElem h2]at q
theorem Ah0 (a b:GA) (st:Store) (h:MX a=MX b) (hx:MW a st) (hy:MW b st):OU a st=OU b st:=by
 obtain ⟨B,A,out,lv,u,v,x,y⟩:=a
 obtain ⟨B',A',out',lv',u',v',x',y'⟩:=b
 simp only[MX,gP,List.cons.injEq,and_true,PV.ptr.injEq,PV.int.injEq,true_and]at h
 have e1:B=B':=by omega
 have e2:u=u':=by omega
 have e3:v=v':=by omega
 obtain ⟨_,_,_,e4,e5⟩:=h
 subst e1;subst e2;subst e3;subst e4;subst e5
 obtain ⟨a1,a2,a3⟩:=GrAt.same hx.1 hy.1
 dsimp only at a1 a2 a3
 subst a1;subst a2;subst a3
 rfl
theorem Ah1 {B u v:Nat} {x y:Int} (A:List Arc) (out:List (List Nat)) (lv:List Int) {st:Store} (h:MW ⟨B,A,out,lv,u,v,x,y⟩ st):Be MX MW OU [gP B,I (u:Nat),I (v:Nat),I x,I y] st=some (.tuple [],⟨aO st.obj B u v (A.length / 2+1) (Fl A u v x y) (CN out u v A.length) lv,st.next⟩) :=
 Bq Ah0 (i:=⟨B,A,out,lv,u,v,x,y⟩) h
theorem Ah2 {ob:Nat→Option IObj} {B u v:Nat} {x y:Int} {A:List Arc} {out:List (List Nat)} {lv:List Int} (h:GrAt B A out lv ob) (hu:u<out.length) (hv:v<out.length) (huv:¬u=v):GrAt B (Fl A u v x y) (CN out u v A.length) lv (aO ob B u v (A.length / 2+1) (Fl A u v x y) (CN out u v A.length) lv):=by
 have z3:(CN out u v A.length).length=out.length:=by unfold CN;rw[List.length_set,List.length_set]
 have z4:(Fl A u v x y).length=A.length+2:=by unfold Fl;rw[List.length_append];rfl
 have z6:(Fl A u v x y).length / 2=A.length / 2+1:=by omega
 refine ⟨?_,?_,?_,?_,fun w hw=>?_⟩
 ·simp only[aO,Aa];rw[if_neg (by omega),if_neg (by omega),if_pos trivial]
 ·simp only[aO,Aa];rw[if_neg (by omega),if_neg (by omega),if_neg (by omega),if_neg (by omega),if_neg (by omega)];exact h.o1
 ·simp only[aO,Aa,if_true,Ir,z6]
 ·simp only[aO,Aa];rw[if_neg (by omega),if_pos trivial,z6]
 ·rw [z3]at hw
  simp only[aO,Aa]
  rw [if_neg (by omega),if_neg (by omega),if_neg (by omega)]
  by_cases c1:w=v
  ·subst c1;rw[if_pos rfl]
  ·rw [if_neg (by omega)]
   by_cases c2:w=u
   ·subst c2;rw[if_pos rfl]
   ·rw [if_neg (by omega),h.o5 w hw]
    have : (CN out u v A.length).getD w []=out.getD w []:=by
     unfold CN
     rw [List.getD_eq_getElem?_getD,List.getElem?_set_ne (fun e=>c1 e.symm),List.getElem?_set_ne (fun e=>c2 e.symm),List.getD_eq_getElem?_getD]
    rw [this]
end Sim
namespace Sim
open Go Go.Proofs
def I9 (hn:Int) (ls:List Lnk) (us:List Snd) (r:Int):TN :=
 ⟨hn.toNat, ls.length,fun k=>(ls.getD k dL).1.toNat,fun k=>(ls.getD k dL).2.1.toNat,fun k t=>Cp ls (k:Int) (r+(t:Int))-A9 us (k:Int) (r+(t:Int)) us.length,fun k t=>EC ls (k:Int) (r+(t:Int))⟩
theorem Ws {hn:Int} {ls:List Lnk} {l:List Snd} (ok:OKr hn ls l) {i:Nat}:∀ {j},i<j→j<l.length→(l.getD i dS).2.1<(l.getD j dS).2.1∨((l.getD i dS).2.1=(l.getD j dS).2.1∧(l.getD i dS).1<(l.getD j dS).1)
 | 0,h,_=>absurd h (by omega)
 | j+1,h,hj=>by
  have := ok.asc (j+1) (by omega) hj
  rw [Nat.add_sub_cancel]at this
  by_cases e:i=j
  ·subst e;exact this
  ·have ih:=Ws ok (i:=i) (j:=j) (by omega) (by omega)
   omega
theorem QP {hn:Int} {ls:List Lnk} {l:List Snd} (ok:OKr hn ls l) {i j:Nat} (hi:i<l.length) (hj:j<l.length) (h:(l.getD i dS).1=(l.getD j dS).1∧(l.getD i dS).2.1=(l.getD j dS).2.1):i=j:=by
 apply Classical.byContradiction
 intro e
 rcases Nat.lt_or_ge i j with c | c
 ·have := Ws ok c hj;omega
 ·have := Ws ok (i:=j) (j:=i) (by omega) hi;omega
theorem Gy {l:List Snd} {a b:Int}:∀ {n},(∀k,k<n→¬((l.getD k dS).1=a∧(l.getD k dS).2.1=b))→A9 l a b n=0
 | 0,_=>rfl
 | n+1,h=>by rw[A9,Gy fun k hk=>h k (by omega),if_neg (h n (by omega))];rfl
theorem KY {l:List Snd} {a b:Int} {i:Nat} (he:(l.getD i dS).1=a∧(l.getD i dS).2.1=b):∀ {n},i<n→(∀k,k<n→((l.getD k dS).1=a∧(l.getD k dS).2.1=b)→k=i)→A9 l a b n=(l.getD i dS).2.2
 | 0,h,_=>absurd h (by omega)
 | n+1,h,g=>by
  rw [A9]
  by_cases e:i=n
  ·subst e
   rw [Gy fun k hk c=>by have:=g k (by omega) c;omega,if_pos he];omega
  ·rw [KY he (by omega) fun k hk c=>g k (by omega) c,if_neg fun c=>e (g n (by omega) c).symm];omega
def tkE (s:Snd):PV×PV:=(.agg [I s.1,I s.2.1],I s.2.2)
theorem Kb {a b c d:Int}:Dx (.agg [I a,I b]) (.agg [I c,I d])=decide (a=c∧b=d):=by
 have hb:∀x y:Int,(x==y)=decide (x=y):=fun x y=>rfl
 simp [Dx,GI,Bool.decide_and,hb]
theorem nH {x:Snd}:∀ {l:List Snd},(∀y∈l,¬(x.1=y.1∧x.2.1=y.2.1))→CF (l.map tkE) (.agg [I x.1,I x.2.1]) (I x.2.2)=(l ++ [x]).map tkE
 | [],_=>rfl
 | y::l,h=>by
  rw [List.map_cons,CF,show (tkE y).1=.agg [I y.1,I y.2.1] from rfl,Kb,if_neg (by simpa using h y (by simp)),nH fun z hz=>h z (by simp[hz])];rfl
theorem XG {a b:Int}:∀ {l:List Snd},(∀y∈l,¬(a=y.1∧b=y.2.1))→BY (l.map tkE) (.agg [I a,I b])=none
 | [],_=>rfl
 | y::l,h=>by
  rw [List.map_cons,BY,show (tkE y).1=.agg [I y.1,I y.2.1] from rfl,Kb,if_neg (by simpa using h y (by simp)),XG fun z hz=>h z (by simp[hz])]
theorem XH {a b:Int}:∀ {l:List Snd} {i:Nat},i<l.length→(a=(l.getD i dS).1∧b=(l.getD i dS).2.1)→(∀j,j<i→¬(a=(l.getD j dS).1∧b=(l.getD j dS).2.1))→BY (l.map tkE) (.agg [I a,I b])=some (I (l.getD i dS).2.2)
 | [],i,h,_,_=>absurd h (by simp)
 | y::l,0,h,e,g=>by
  rw [List.map_cons,BY,show (tkE y).1=.agg [I y.1,I y.2.1] from rfl,Kb,if_pos (by simpa using e)];rfl
 | y::l,i+1,h,e,g=>by
  rw [List.map_cons,BY,show (tkE y).1=.agg [I y.1,I y.2.1] from rfl,Kb,if_neg (by simpa using g 0 (by omega))]
  exact XH (l:=l) (i:=i) (by simpa using h) e fun j hj=>g (j+1) (by omega)
theorem Wt {hn:Int} {ls:List Lnk} {l:List Snd} (ok:OKr hn ls l) {a b:Int}:(BY (l.map tkE) (.agg [I a,I b])).getD (I 0)=I (A9 l a b l.length):=by
 by_cases c:∃i,i<l.length∧((l.getD i dS).1=a∧(l.getD i dS).2.1=b)
 ·obtain ⟨i,hi,e1,e2⟩:=c
  rw [XH hi ⟨e1.symm,e2.symm⟩ (fun j hj g=>by have:=QP ok (i:=j) (j:=i) (by omega) hi ⟨g.1.symm.trans e1.symm,g.2.symm.trans e2.symm⟩;omega),
   KY ⟨e1,e2⟩ hi fun k hk g=>QP ok hk hi ⟨g.1.trans e1.symm,g.2.trans e2.symm⟩];rfl
 ·rw [Gy fun k hk g=>c ⟨k,hk,g⟩,XG fun y hy g=>by
   obtain ⟨i,hi,he⟩:=List.mem_iff_getElem.1 hy
   exact c ⟨i,hi,by simp[hi,he,g.1],by simp[hi,he,g.2]⟩];rfl
theorem QQ {hn:Int} {ls:List Lnk} {l:List Snd} (ok:OKr hn ls l) {k:Nat} (hk:k<l.length):CF ((l.take k).map tkE) (.agg [I (l.getD k dS).1,I (l.getD k dS).2.1]) (I (l.getD k dS).2.2)=(l.take (k+1)).map tkE:=by
 rw [nH fun y hy g=>by
  obtain ⟨i,hi,he⟩:=List.mem_iff_getElem.1 hy
  rw [List.length_take]at hi
  have hil:i<l.length:=by omega
  have e:l.getD i dS=y:=by rw[←he];simp[hil]
  have := QP ok (i:=i) (j:=k) hil hk ⟨by rw[e];exact g.1.symm,by rw[e];exact g.2.symm⟩
  omega, List.take_succ_eq_append_getElem hk]
 congr 2
 simp [hk]
theorem F3 {a b:Int} (h1 : -9223372036854775808≤a∧a≤9223372036854775807) (h2 : -9223372036854775808≤b∧b≤9223372036854775807):BE (.ints 2) (.agg [I a,I b])=true:=by
 simp [BE,Iw,h1,h2]
theorem TC {ls:List Lnk} {l:List Snd}:∀ {k},ftT ls l k=false→∀i,i<k→(l.getD i dS).2.2≤Cp ls (l.getD i dS).1 (l.getD i dS).2.1
 | 0,_,i,hi=>absurd hi (by omega)
 | k+1,h,i,hi=>by
  simp only[ftT,Bool.or_eq_false_iff,decide_eq_false_iff_not]at h
  by_cases e:i=k
  ·subst e;omega
  ·exact TC h.1 i (by omega)
theorem B8 {hn:Int} {ls:List Lnk} {l:List Snd} (h:Bz hn ls l=0):OKr hn ls l∧∀i,i<l.length→(l.getD i dS).2.2≤Cp ls (l.getD i dS).1 (l.getD i dS).2.1:=by
 unfold Bz at h
 split at h
 ·contradiction
 ·rename_i h1
  split at h
  ·cases h
  ·rename_i h2
   exact ⟨right_zero.1 (Classical.not_not.1 h1),TC (by simpa using h2)⟩
theorem Fg {hn:Int} {ls:List Lnk} {l:List Snd} (h:Bz hn ls l=0) {k t:Int} (hk:0≤k∧k<(ls.length:Int)):0≤A9 l k t l.length∧A9 l k t l.length≤Cp ls k t:=by
 obtain ⟨ok,hf⟩:=B8 h
 have hc:=Ej ok.net hk.1 hk.2 (tick:=t)
 by_cases c:∃i,i<l.length∧((l.getD i dS).1=k∧(l.getD i dS).2.1=t)
 ·obtain ⟨i,hi,e1,e2⟩:=c
  rw [KY ⟨e1,e2⟩ hi fun j hj g=>QP ok hj hi ⟨g.1.trans e1.symm,g.2.trans e2.symm⟩]
  have := hf i hi
  rw [e1,e2]at this
  exact ⟨by have:=ok.bytes i hi;omega,this⟩
 ·rw [Gy fun j hj g=>c ⟨j,hj,g⟩]
  omega
theorem Dq {hn:Int} {ls:List Lnk} {us:List Snd} {r:Int} {D:Nat} (h:Bz hn ls us=0):(I9 hn ls us r).OK D:=by
 obtain ⟨ok,_⟩:=B8 h
 have hh:=ok.net.houses
 refine ⟨by show 0<hn.toNat;omega,fun k hk=>?_,fun k t hk _=>?_,fun k t hk _=>?_⟩
 ·have := ok.net.ends k hk
  show (ls.getD k dL).1.toNat<hn.toNat∧(ls.getD k dL).2.1.toNat<hn.toNat
  omega
 ·have hk':k<ls.length:=hk
  have := Fg h (k:=(k:Int)) (t:=r+(t:Int)) ⟨by omega,by omega⟩
  show 0≤Cp ls (k:Int) (r+(t:Int))-A9 us (k:Int) (r+(t:Int)) us.length
  omega
 ·have hk':k<ls.length:=hk
  exact JZ ok.net (by omega) (by omega)
end Sim
