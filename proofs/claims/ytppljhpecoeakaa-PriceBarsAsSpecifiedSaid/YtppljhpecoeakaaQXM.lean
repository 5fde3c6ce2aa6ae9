/- What functions of this seat compute, by values: contracts (lemmas of the statement's proof, under the conditions that each names). -/
import Derived.Test.YtppljhpecoeakaaQXH
set_option maxRecDepth 10000
set_option maxHeartbeats 4000000
set_option linter.unusedVariables false
set_option linter.unusedSimpArgs false
namespace Sim
open Go Go.Proofs
attribute [local congr] Ap Aq Al AC As Ar Av
theorem cC:∀n:Nat,n<1001→Cs .and .u64 (n:Int) 4294967295=some (n:Int):=by decide +kernel
theorem cD:∀n:Nat,n<1001→(n:Int).fdiv 4294967296=0:=by decide +kernel
theorem Ah3 {n:Nat} (h:n<1001):IntKind.u64.wrap (n:Int)=n:=by rw[IntKind.wrap_u64];omega
noncomputable def Ka:Nat→List PV:=fun n => [.int .u64 1,.int .u64 n]
noncomputable def XT:Nat→PV:=fun n=>.tuple [.int .u64 0,.int .u64 n]
def XU:Nat→Prop:=fun n=>n<1001
noncomputable def e_mul64:Nat×Ent:=(74,.v (Ag Ka XT XU))
theorem zI:∀i j,Ka i=Ka j→i=j:=by
 rintro n₁ n₂ h
 simp only[Ka,List.cons.injEq,and_true,PV.int.injEq,true_and]at h
 first | exact h | omega | (simp[Prod.ext_iff,h];done)
theorem zJ (n:Nat):Ag Ka XT XU [.int .u64 1,.int .u64 n]=@ite (Option (PV)) (n<1001) (Classical.propDecidable _) (some (.tuple [.int .u64 0,.int .u64 n])) none:=BU zI n
def XV:Prop:=∀(n:Nat) (h:n<1001) ,VC Try.prog 74 [.int .u64 1,.int .u64 n] (.tuple [.int .u64 0,.int .u64 n])
def XW:Prop:=AL Try.prog e_mul64.1 e_mul64.2
theorem zK (c:XV):XW:=At fun n h=>c n h
theorem zL:XV:=by
 intro n hn
 refine A5 AO (l := []) (An) [] []  Try.func74 rfl (by decide +kernel) (N:=51) rfl (by simp) rfl (by kernel_rfl) fun hs=>?_
 simp only[AI,PV.small,and_true]at hs
 have a1:Cs .and .u64 1 4294967295=some 1:=by decide +kernel
 have a0:Cs .and .u64 0 4294967295=some 0:=by decide +kernel
 have an:=cC n hn
 have s1:(1:Int).fdiv 4294967296=0:=by decide +kernel
 have s0:(0:Int).fdiv 4294967296=0:=by decide +kernel
 have sn:=cD n hn
 have wn:=Ah3 hn
 have w0:IntKind.u64.wrap 0=0:=by decide +kernel
 simp +contextual (maxSteps:=4000000) only[↓bdD,bdP,Nat.reduceLT,Nat.reduceBEq,Ah,Nat.reduceLeDiff,Int.reduceLT,Int.reduceToNat,st0,↓reduceIte,Int.reducePow,Try.f74,a1,a0,an,s1,s0,sn,wn,w0,Int.one_mul,Int.zero_mul,Int.add_zero]
theorem zM:XW:=zK zL
noncomputable def Nk:Nat→List PV:=fun n => [.int .u64 1,.int .u64 n]
noncomputable def pU:Nat→PV:=fun n=>.tuple [.int .u64 0,.int .u64 n]
def pV:Nat→Prop:=fun n=>n<1001
noncomputable def e_mulU:Nat×Ent:=(62,.v (Ag Nk pU pV))
theorem Afd:∀i j,Nk i=Nk j→i=j:=by
 rintro n₁ n₂ h
 simp only[Nk,List.cons.injEq,and_true,PV.int.injEq,true_and]at h
 first | exact h | omega | (simp[Prod.ext_iff,h];done)
theorem Afe (n:Nat):Ag Nk pU pV [.int .u64 1,.int .u64 n]=@ite (Option (PV)) (n<1001) (Classical.propDecidable _) (some (.tuple [.int .u64 0,.int .u64 n])) none:=BU Afd n
def pW:Prop:=∀(n:Nat) (h:n<1001) ,VC Try.prog 62 [.int .u64 1,.int .u64 n] (.tuple [.int .u64 0,.int .u64 n])
def pX:Prop:=AL Try.prog e_mulU.1 e_mulU.2
theorem Aff (c:pW):pX:=At fun n h=>c n h
theorem Afg:pW:=by
 intro n hn
 refine A5 AO (l := [e_mul64]) ((Ad zM An)) [] []  Try.func62 rfl (by decide +kernel) (N:=30) rfl (by simp) rfl (by kernel_rfl) fun hs=>?_
 simp only[AI,PV.small,and_true]at hs
 simp +contextual (maxSteps:=4000000) only[↓bdD,bdP,Nat.reduceLT,Nat.reduceBEq,Ah,Nat.reduceAdd,st0,↓reduceIte,e_mul64,zJ,Try.f62,Ag5,hn]
theorem Afh:pX:=Aff Afg
def I7 (n j:Nat) (v:Int):List PV:=List.replicate j (I v)++List.replicate (n-j) (I 0)
theorem pY {n j:Nat} {v:Int} (h:j≤n):(I7 n j v).length=n:=by unfold I7;rw[List.length_append,List.length_replicate,List.length_replicate];omega
theorem KW {n j:Nat} {v:Int}:List.take j (I7 n j v)=List.replicate j (I v):=by unfold I7;exact List.take_left' (List.length_replicate ..)
theorem cE {n j q:Nat} {v:Int} (h:j+q≤n) (hq:q≤j):List.take j (I7 n j v)++List.take q (List.replicate j (I v))++List.drop (j+q) (I7 n j v)=I7 n (j+q) v:=by
 have e:List.drop (j+q) (I7 n j v)=List.replicate (n-(j+q)) (I 0):=by
  unfold I7
  rw [List.drop_append,List.length_replicate,List.drop_of_length_le (by rw[List.length_replicate];omega),List.nil_append,show j+q-j=q by omega,List.drop_replicate,show n-j-q=n-(j+q) by omega]
 rw [KW,e,List.take_replicate,show min q j=q by omega]
 unfold I7
 rw [List.replicate_append_replicate]
noncomputable def HK:(Int)×(Nat)→List PV:=fun (v,n) => [ints [v],I n]
noncomputable def Nl:(Int)×(Nat)→List PV:=fun (v,n)=>List.replicate n (I v)
def Nm:(Int)×(Nat)→Prop:=fun (v,n)=>n<1001
noncomputable def e_rept:Nat×Ent:=(42,.a (1) (Ag HK Nl Nm))
theorem Afi:∀i j,HK i=HK j→i=j:=by
 rintro ⟨v₁,n₁⟩ ⟨v₂,n₂⟩ h
 simp only[HK,List.cons.injEq,and_true,PV.lits.injEq,PV.int.injEq,true_and,CV]at h
 simp [Prod.ext_iff,h] <;> omega
theorem QW (v:Int) (n:Nat):Ag HK Nl Nm [ints [v],I n]=@ite (Option (List PV)) (n<1001) (Classical.propDecidable _) (some (List.replicate n (I v))) none:=BU Afi (v,n)
def pZ:Prop:=∀(v:Int) (n:Nat) (h:n<1001) ,VCA Try.prog 42 [ints [v],I n] (1) (List.replicate n (I v))
def qA:Prop:=AL Try.prog e_rept.1 e_rept.2
theorem Afj (c:pZ):qA:=UQ fun⟨v,n⟩ h=>c v n h
theorem Afk:pZ:=by
 intro v n hn
 refine uR AO (l := [e_mulU]) ((Ad Afh An)) [] [] 0 0 Try.func42 rfl (by decide +kernel) (N:=48) rfl (by simp) rfl (by kernel_rfl) ?_ ?_
 ·intro e he
  rw [List.eq_of_mem_replicate he];rfl
 have hnu:IntKind.u64.wrap (n:Int)=n:=Ah3 hn
 have h1u:IntKind.u64.wrap 1=1:=by decide +kernel
 have hni:IntKind.i64.wrap (n:Int)=n:=by rw[Ai (by omega) (by omega)]
 have g1:¬(n:Int)<0:=by omega
 have g2:¬(9223372036854775807:Int)<n:=by omega
 have g3:(n:Int)≤4294967296:=by omega
 simp +contextual (maxSteps:=4000000) only[↓bdD,bdP,Nat.reduceLT,Nat.reduceBEq,Nat.reduceAdd,Int.reduceLT,Store.new,Store.set,↓reduceIte,e_mulU,Afe,Try.f42,ty3,AW,Ag4,hnu,h1u,hni,g1,g2,g3,hn,AX]
 obtain ⟨j0,hj0⟩:∃j,(if 1≤n then 1 else n)=j:=⟨_,rfl⟩
 have hj1:j0≤n∧(0<n→0<j0):=by rw[←hj0];split <;> omega
 have hl0:List.take j0 [I v]++List.drop j0 (List.replicate n (I 0))=I7 n j0 v:=by
  unfold I7
  rw [List.drop_replicate]
  congr 1
  rw [←hj0]
  split
  ·rfl
  ·rw [show n=0 by omega];rfl
 refine CK [8,34,35,36,37,38,39,40,41,42,43,44,45,46] (n-j0) (fun m ρ st'=>∃j,j≤n∧(0<n→0<j)∧m=n-j∧ρ 8=I (j:Nat)∧st'.obj 0=some (.arr 0 1 (I7 n j v))∧st'.next=1) (.refl _) ?_ ?_
 ·refine ⟨j0,hj1.1,hj1.2,rfl,?_,?_,rfl⟩
  ·simp +contextual (maxSteps:=4000000) only[↓bdD,bdP,hj0]
  ·simp +contextual (maxSteps:=4000000) only[↓bdD,bdP,hj0,hl0]
 rintro m ρ ⟨O,M⟩ ⟨j,h1,h2,rfl,h8,o0,hM⟩
 dsimp only at o0 hM
 subst hM
 have hrl:=pY h1 (v:=v)
 by_cases hjn:j<n
 ·have hji:(j:Int)<n:=by omega
  simp +contextual (maxSteps:=4000000) only[↓bdD,bdP,Nat.reduceLT,Nat.reduceBEq,Nat.reduceAdd,Int.reduceToNat,Store.set,↓reduceIte,AW,h8,o0,hji,hrl,h1,Nat.sub_zero,KW]
  obtain ⟨q,hq⟩:∃q,(if j≤n-j then j else n-j)=q:=⟨_,rfl⟩
  have hq1:j+q≤n∧q≤j∧0<q:=by rw[←hq];split <;> omega
  rw [hq]
  repeat (refine And.intro (by omega) ?_)
  refine ⟨n-(j+q),by omega,j+q,hq1.1,fun _=>by omega,rfl,?_,?_⟩
  ·rw [Ai (by omega) (by omega)];omega
  ·rw [←cE hq1.1 hq1.2.1,KW]
 ·have e:j=n:=by omega
  subst e
  have e1:I7 j j v=List.replicate j (I v):=by unfold I7;rw[Nat.sub_self];simp
  rw [e1]at o0
  simp +contextual (maxSteps:=4000000) only[↓bdD,bdP,Nat.reduceLT,Nat.reduceBEq,Ah,Nat.reduceAdd,reduceCtorEq,↓reduceIte,AW,h8,o0]
  exact ⟨0,0,rfl,o0⟩
theorem qC:qA:=Afj Afk
end Sim
namespace Sim
open Go Go.Proofs
namespace TN
theorem wf_stk {T:TN} {D:Nat} (ok:T.OK D) {a c:Nat} (ha:a<T.h) (hc:c<T.h) {f:Nat→Int} {b:Int} (hf:(T.G D a c).Flow f b) {t x:Nat} (ht:t<D) (hx:x<T.h):T.wf f x t=T.stk a b (T.gf f) t x-T.outF (T.gf f) x t:=by
 have val:∀t x,t≤D→x<T.h→(if t<D then T.wf f x t+T.outF (T.gf f) x t else 0)-(if 0<t∧t-1<D then T.wf f x (t-1)+T.inF (T.gf f) x (t-1)else 0)=(if t=0∧a=x then b else 0)-(if D=t∧c=x then b else 0):=fun t x ht hx=>by
  rw [←Wd ok hx,hf.val _ (node_lt ht hx)]
  show (if a=t*T.h+x then b else 0)-(if D*T.h+c=t*T.h+x then b else 0)=_
  have n2:=Dc (t:=t) (t':=D) hx hc
  simp only[src_eq ha hx,n2]
 have key:∀t x,t<D→x<T.h→T.wf f x t+T.outF (T.gf f) x t=T.stk a b (T.gf f) t x:=by
  intro t x ht hx
  induction t with
  | zero =>
   have := val 0 x (by omega) hx
   rw [if_pos ht,if_neg (fun g=>absurd g.1 (by omega)),if_neg (show ¬(D=0∧c=x) from fun g=>by omega)]at this
   simp only[true_and]at this
   rw [stk];omega
  | succ t ih =>
   have ih:=ih (by omega)
   have := val (t+1) x (by omega) hx
   rw [if_pos ht,if_pos ⟨by omega,by omega⟩,if_neg (fun g=>by omega),if_neg (fun g=>by omega),Nat.add_sub_cancel]at this
   rw [stk];omega
 have := key t x ht hx
 omega
end TN
theorem qD {hn:Int} {ls:List Lnk} {us:List Snd} {d:Dem} {bytes:Int} (hf:Bz hn ls us=0) (hd:Db hn d=true) (hb:0≤bytes) (e:d.1≠d.2.1):∃φ,((AA hn ls us d).G (Ao d) d.1.toNat d.2.1.toNat).Pot (flA (Bv hn ls us d bytes).1) φ:=by
 obtain ⟨⟨a0,a1⟩,⟨c0,c1⟩,hr⟩:=Co hd
 have ok:=Dq (r:=d.2.2.2.1) (D:=Ao d) hf
 have ha:d.1.toNat<(AA hn ls us d).h:=by show d.1.toNat<hn.toNat;omega
 have hc:d.2.1.toNat<(AA hn ls us d).h:=by show d.2.1.toNat<hn.toNat;omega
 have hpo:=TN.p_ok ok
 have hP:Bv hn ls us d bytes=CY (gA (AA hn ls us d).p (AY hn ls d)) (gO (AA hn ls us d).p (AP hn d) (AY hn ls d)) (List.replicate (AP hn d) 0) (AP hn d) d.1.toNat (Ao d*hn.toNat+d.2.1.toNat) bytes:=by unfold Bv;rw[if_neg e]
 have hs:d.1.toNat<AP hn d:=by
  have := TN.node_lt (T:=AA hn ls us d) (D:=Ao d) (t:=0) (by omega) ha
  rw [Nat.zero_mul,Nat.zero_add]at this
  exact this
 have ht:Ao d*hn.toNat+d.2.1.toNat<AP hn d:=TN.node_lt (T:=AA hn ls us d) (Nat.le_refl _) hc
 have hst:d.1.toNat≠Ao d*hn.toNat+d.2.1.toNat:=fun g=>by
  have :=(TN.src_eq (T:=AA hn ls us d) (t:=Ao d) ha hc).1 g
  omega
 obtain ⟨g1,g2,g3⟩:=Wc (p:=(AA hn ls us d).p) (n:=AY hn ls d) (N:=AP hn d) hpo hs ht hst hb
 rw [←hP]at g2
 exact g2
def soM (hn:Int) (ls:List Lnk) (us l:List Snd) (d:Dem) (t x:Nat):Int:=(AA hn ls us d).stk d.1.toNat d.2.2.1 (gS l d.2.2.2.1) t x-(AA hn ls us d).outF (gS l d.2.2.2.1) x t
structure PrvH (hn:Int) (ls:List Lnk) (us l:List Snd) (d:Dem) (lam:Nat→Nat→Int):Prop where
 plan : (AA hn ls us d).Plan (Ao d) d.1.toNat d.2.1.toNat d.2.2.1 (gS l d.2.2.2.1)
 ok : (AA hn ls us d).Lam (Ao d) (gS l d.2.2.2.1) (soM hn ls us l d) lam
 nn : ∀t x,0≤lam t x
 l0 : lam 0 d.1.toNat=0
 le : ∀t x,t≤Ao d→x<hn.toNat→lam t x≤1000000*((AP hn d:Nat):Int)
theorem KX {hn:Int} {ls:List Lnk} {us:List Snd} {d:Dem} (h:DZ hn ls us d=0) (hb4:d.2.2.1≤4194304):∃lam,PrvH hn ls us (Dd hn ls us d) d lam:=by
 obtain ⟨hck,e2,ho⟩:=FV h
 obtain ⟨hf,hd,hD,hdu⟩:=C6 hck
 obtain ⟨⟨a0,a1⟩,⟨c0,c1⟩,hr⟩:=Co hd
 have hr0:=hr.1
 have hr1:=hr.2.1
 have ok:=Dq (hn:=hn) (ls:=ls) (us:=us) (r:=d.2.2.2.1) (D:=Ao d) hf
 have ha:d.1.toNat<(AA hn ls us d).h:=by show d.1.toNat<hn.toNat;omega
 have hc:d.2.1.toNat<(AA hn ls us d).h:=by show d.2.1.toNat<hn.toNat;omega
 have P:=E8 (bytes:=d.2.2.1) hf hd (by omega)
 have p:=P.plan
 rw [e2]at p
 have hg:∀k t,k<(AA hn ls us d).L→t<Ao d→Hz hn ls us d d.2.2.1 k t=gS (Dd hn ls us d) d.2.2.2.1 k t:=fun k t hk ht=>(ho.sent k t hk ht).symm
 have p2:=p.congr hg
 by_cases e:d.1=d.2.1
 ·have hz:∀k t,k<(AA hn ls us d).L→t<Ao d→Hz hn ls us d d.2.2.1 k t=0:=fun k t hk ht=>by
   have hP:Bv hn ls us d d.2.2.1=(gA (AA hn ls us d).p (AY hn ls d),d.2.2.1):=by unfold Bv;rw[if_pos e]
   unfold Hz
   rw [hP]
   exact JS (TN.pair_lt ht (by show _<(AA hn ls us d).h+(AA hn ls us d).L;omega))
  refine ⟨fun _ _=>0,p2,⟨fun k hk=>(ok.e k hk).1,fun k hk=>(ok.e k hk).2,fun t k ht hk _=>?_,fun t k ht hk g=>?_,fun _ _ _ _=>Int.le_refl _,fun _ _ _ _ _=>Int.le_refl _⟩,fun _ _=>Int.le_refl _,rfl,fun _ _ _ _=>by omega⟩
  ·have : 0≤(AA hn ls us d).pr k t:=(ok.pr k t hk ht).1
   omega
  ·rw [←hg k t hk ht,hz k t hk ht]at g
   omega
 ·have hfl:=P.flow e
  rw [e2]at hfl
  have hgf:(AA hn ls us d).gf (flA (Bv hn ls us d d.2.2.1).1)=Hz hn ls us d d.2.2.1:=rfl
  obtain ⟨lam,l1,l2,l3,l4⟩:=TN.lam_ex (T:=AA hn ls us d) (D:=Ao d) (a:=d.1.toNat) (c:=d.2.1.toNat) (b:=d.2.2.1) (g:=gS (Dd hn ls us d) d.2.2.2.1) ok ha p2 (f:=flA (Bv hn ls us d d.2.2.1).1)
   (fun t x ht hx=>by
    rw [TN.wf_stk ok ha hc hfl ht hx,hgf]
    have e1:(AA hn ls us d).stk d.1.toNat d.2.2.1 (Hz hn ls us d d.2.2.1) t x=(AA hn ls us d).stk d.1.toNat d.2.2.1 (gS (Dd hn ls us d) d.2.2.2.1) t x:=TN.stk_congr fun k t' hk ht'=>hg k t' hk (by omega)
    have e2:(AA hn ls us d).outF (Hz hn ls us d d.2.2.1) x t=(AA hn ls us d).outF (gS (Dd hn ls us d) d.2.2.2.1) x t:=TN.outF_congr fun k hk=>hg k t hk ht
    rw [e1,e2])
   (fun t k ht hk=>by rw[hgf];exact hg k t hk ht)
   (by omega)
   (qD hf hd (by omega) e)
  exact ⟨lam,p2,l1,l2,l3,l4⟩
end Sim
namespace Sim
open Go Go.Proofs
attribute [local congr] Ap Aq Al AC As Ar Av
structure RX where
 row : Nat
 g : Nat
 i : Nat
 C : Nat
 by_ : Int
 vals : List Int
 ch : Bool
def Gq (x:RX):List PV := [.ptr x.row x.g x.i 0,I x.by_,.ptr x.C 0 0 0]
def Ib (x:RX) (st:Store):Prop:=st.obj x.row=some (.arr x.g 1 (x.vals.map (PV.int .i64)))∧x.i<x.vals.length∧st.obj x.C=some (.arr 0 1 [.bool x.ch])∧x.row≠x.C
def EJ (x:RX) (st:Store):PV×Store :=
 if x.by_<x.vals.getD x.i 0 then (.tuple [],⟨Aa (Aa st.obj x.row (some (.arr x.g 1 ((x.vals.set x.i x.by_).map (PV.int .i64))))) x.C (some (.arr 0 1 [.bool true])),st.next⟩)else (.tuple [],st)
noncomputable def e_relax:Nat×Ent:=(44,.x (Bf Gq Ib EJ))
theorem zN:AL Try.prog e_relax.1 e_relax.2:=Ct fun x st hx=>by
 obtain ⟨row,g,i,C,b,vals,ch⟩:=x
 obtain ⟨ob,M⟩:=st
 obtain ⟨h1,h2,h3,h4⟩:=hx
 dsimp only at h1 h2 h3 h4
 simp only[Gq]
 have h4':¬row=C:=h4
 have h5:¬C=row:=fun e=>h4 e.symm
 have hset:(vals.set i b).map (PV.int .i64)=(vals.map (PV.int .i64)).set i (I b):=List.map_set
 have hlm:(vals.map (PV.int .i64)).length=vals.length:=List.length_map _
 refine Cf AO (l := []) (An) [] [] 0 Try.func44 rfl (by decide +kernel) (N:=13) rfl (by simp) rfl (by kernel_rfl) ?_
 by_cases c:b<vals.getD i 0
 ·simp only[EJ,if_pos c,hset]
  simp +contextual (maxSteps:=4000000) only[↓bdD,bdP,Nat.reduceLT,Nat.reduceBEq,Ah,Nat.reduceAdd,Nat.reduceLeDiff,Store.set,↓reduceIte,Try.f44,ty3,ty4,h1,h2,h3,h5,c,hlm]
  exact ⟨_,rfl,Left.refl⟩
 ·simp only[EJ,if_neg c]
  simp +contextual (maxSteps:=4000000) only[↓bdD,bdP,Nat.reduceLT,Nat.reduceBEq,Ah,Nat.reduceAdd,↓reduceIte,Try.f44,ty3,h1,h2,c]
  exact ⟨_,rfl,Left.refl⟩
theorem zO (a b:RX) (st:Store) (h:Gq a=Gq b) (hx:Ib a st) (hy:Ib b st):EJ a st=EJ b st:=by
 obtain ⟨a1,a2,a3,a4,a5,a6,a7⟩:=a
 obtain ⟨b1,b2,b3,b4,b5,b6,b7⟩:=b
 simp only[Gq,List.cons.injEq,PV.ptr.injEq,PV.int.injEq,true_and,and_true]at h
 obtain ⟨⟨rfl,rfl,rfl⟩,rfl,rfl⟩:=h
 obtain ⟨x1,x2,x3,x4⟩:=hx
 obtain ⟨y1,y2,y3,y4⟩:=hy
 dsimp only at x1 x3 y1 y3
 rw [x1]at y1
 simp only[Option.some.injEq,IObj.arr.injEq,true_and]at y1
 rw [CV]at y1
 subst y1
 rfl
theorem XX (x:RX) {st:Store} (h:Ib x st):Bf Gq Ib EJ [.ptr x.row x.g x.i 0,I x.by_,.ptr x.C 0 0 0] st=some (EJ x st):=Bq zO (i:=x) h
def BA (h:Nat) (f:Nat→Int):List Int:=(List.range h).map f
theorem Cy {h:Nat} {f:Nat→Int}:(BA h f).length=h:=by simp[BA]
theorem Fr {h x:Nat} {f:Nat→Int} (hx:x<h):(BA h f).getD x 0=f x:=by simp[BA,hx]
theorem E9 {h x:Nat} {f:Nat→Int} {v:Int} (hx:x<h):(BA h f).set x v=BA h fun z=>if z=x then v else f z:=by
 refine List.ext_getElem (by simp[BA]) fun i h1 h2=>?_
 rw [List.getElem_set]
 simp only[BA,List.getElem_map,List.getElem_range]
 by_cases e:x=i
 ·rw [if_pos e,if_pos e.symm]
 ·rw [if_neg e,if_neg (fun g=>e g.symm)]
theorem Ic {h x:Nat} {f:Nat→Int} {v:Int} (hx:x<h):((BA h f).map (PV.int .i64)).set x (A6 (nth ((BA h f).map (PV.int .i64)) x) 0 [I v])=(BA h fun z=>if z=x then v else f z).map (PV.int .i64):=by
 have e:nth ((BA h f).map (PV.int .i64)) x=I (f x):=by
  simp [nth,BA,hx]
 rw [e,show A6 (I (f x)) 0 [I v]=I v from rfl,←E9 hx,List.map_set]
theorem Ie {h x:Nat} {f:Nat→Int} (hx:x<h):nth ((BA h f).map (PV.int .i64)) x=I (f x):=by
 simp [nth,BA,hx]
theorem D8 {h:Nat} {f g:Nat→Int} (e:∀x,x<h→f x=g x):BA h f=BA h g:=by
 unfold BA
 exact List.map_congr_left fun x hx=>e x (List.mem_range.1 hx)
def rwK (f:Nat→Nat) (D h k:Nat):List PV:=(List.range (D+1)).map fun t=>if t<k then .ref (f t) 0 0 h else .nils
theorem Gs {f:Nat→Nat} {D h k:Nat}:(rwK f D h k).length=D+1:=by simp[rwK]
theorem DV {f:Nat→Nat} {D h k t:Nat} (ht:t≤D) (hk:t<k):nth (rwK f D h k) t=.ref (f t) 0 0 h:=by
 simp [rwK,nth,show t<D+1 by omega,hk]
theorem zP {f:Nat→Nat} {D h k m:Nat} (hk:k≤D):(rwK f D h k).set k (.ref m 0 0 h)=rwK (fun t=>if t=k then m else f t) D h (k+1):=by
 refine List.ext_getElem (by simp[rwK]) fun i h1 h2=>?_
 rw [List.getElem_set]
 simp only[rwK,List.getElem_map,List.getElem_range]
 by_cases e:k=i
 ·subst e;rw[if_pos rfl,if_pos (by omega),if_pos rfl]
 ·rw [if_neg e]
  by_cases c:i<k
  ·rw [if_pos c,if_pos (by omega),if_neg (fun g=>e g.symm)]
  ·rw [if_neg c,if_neg (by omega)]
theorem zQ {f:Nat→Nat} {D h k:Nat} (hk:k≤D):nth (rwK f D h k) k=.nils:=by
 simp [rwK,nth,show k<D+1 by omega]
theorem TW {f:Nat→Nat} {D h k m:Nat} (hk:k≤D):A6 (nth (rwK f D h k) k) 0 [PV.ref m 0 0 h]=PV.ref m 0 0 h:=by rw[zQ hk];rfl
theorem Abc {f:Nat→Nat} {D h:Nat}:rwK f D h 0=List.replicate (D+1) .nils:=by
 refine List.ext_getElem (by simp[rwK]) fun i h1 h2=>by simp[rwK]
structure PvK (D h M0 B k:Nat) (sI yI:Nat→Nat) (l:List Snd) (d:Dem) (so Y:Nat→Nat→Int) (O:Nat→Option IObj) (nx:Nat):Prop where
 cS : O 0=some (.arr 1 1 (rwK sI D h k))
 c0 : O 1=some (.arr 0 1 [.ref M0 0 0 (D+1)])
 c1 : O 2=some (.arr 0 5 [.agg [I d.1,I d.2.1,I d.2.2.1,I d.2.2.2.1,I d.2.2.2.2]])
 c2 : O 3=some (.map 0 (.ints 2) (l.map tkE))
 c3 : O 4=some (.arr 0 1 [.mref 3 0])
 cY : O M0=some (.arr 0 1 (rwK yI D h k))
 rS : ∀t,t<k→O (sI t)=some (.arr 0 1 ((BA h (so t)).map (PV.int .i64)))
 rY : ∀t,t<k→O (yI t)=some (.arr 0 1 ((BA h (Y t)).map (PV.int .i64)))
 M5 : 5≤M0
 iS : ∀t,t<k→M0<sI t∧sI t<B
 iY : ∀t,t<k→M0<yI t∧yI t<B
 dj : ∀t s,t<k→s<k→sI t≠yI s
 jS : ∀t s,t<k→s<k→sI t=sI s→t=s
 jY : ∀t s,t<k→s<k→yI t=yI s→t=s
 MB : M0<B
 nx : B≤nx
theorem PvK.of {D h M0 B k:Nat} {sI yI:Nat→Nat} {l:List Snd} {d:Dem} {so Y:Nat→Nat→Int} {O O':Nat→Option IObj} {nx nx':Nat} (p:PvK D h M0 B k sI yI l d so Y O nx) (hO:∀i,i<B→O' i=O i) (hn:B≤nx'):PvK D h M0 B k sI yI l d so Y O' nx':=by
 obtain ⟨a1,a2,a3,a4,a5,a6,a7,a8,a9,b1,b2,b3,b4,b5,b6,b7⟩:=p
 exact ⟨by rw[hO _ (by omega)];exact a1,by rw[hO _ (by omega)];exact a2,by rw[hO _ (by omega)];exact a3,by rw[hO _ (by omega)];exact a4,by rw[hO _ (by omega)];exact a5,by rw[hO _ (by omega)];exact a6,
  fun t ht=>by rw[hO _ (b1 t ht).2];exact a7 t ht,fun t ht=>by rw[hO _ (b2 t ht).2];exact a8 t ht,a9,b1,b2,b3,b4,b5,b6,hn⟩
theorem PvK.later {D h M0 B k:Nat} {sI yI:Nat→Nat} {l:List Snd} {d:Dem} {so Y:Nat→Nat→Int} {st st':Store} (p:PvK D h M0 B k sI yI l d so Y st.obj st.next) (hL:Later st st'):PvK D h M0 B k sI yI l d so Y st'.obj st'.next:=by
 obtain ⟨a1,a2,a3,a4,a5,a6,a7,a8,a9,b1,b2,b3,b4,b5,b6,b7⟩:=p
 exact ⟨hL.2 _ _ (by omega) a1 (by simp),hL.2 _ _ (by omega) a2 (by simp),hL.2 _ _ (by omega) a3 (by simp),hL.2 _ _ (by omega) a4 (by simp),hL.2 _ _ (by omega) a5 (by simp),hL.2 _ _ (by omega) a6 (by simp),
  fun t ht=>hL.2 _ _ (by have:=(b1 t ht).2;omega) (a7 t ht) (by simp),fun t ht=>hL.2 _ _ (by have:=(b2 t ht).2;omega) (a8 t ht) (by simp),a9,b1,b2,b3,b4,b5,b6,Nat.le_trans b7 hL.1⟩
theorem PvK.so' {D h M0 B k:Nat} {sI yI:Nat→Nat} {l:List Snd} {d:Dem} {so Y:Nat→Nat→Int} {O:Nat→Option IObj} {nx:Nat} (p:PvK D h M0 B k sI yI l d so Y O nx) {t:Nat} (ht:t<k) (f:Nat→Int) :
  PvK D h M0 B k sI yI l d (fun s=>if s=t then f else so s) Y (Aa O (sI t) (some (.arr 0 1 ((BA h f).map (PV.int .i64))))) nx:=by
 obtain ⟨a1,a2,a3,a4,a5,a6,a7,a8,a9,b1,b2,b3,b4,b5,b6,b7⟩:=p
 have g:=b1 t ht
 refine ⟨?_,?_,?_,?_,?_,?_,fun s hs=>?_,fun s hs=>?_,a9,b1,b2,b3,b4,b5,b6,b7⟩ <;> simp only[Aa]
 ·rw [if_neg (by omega)];exact a1
 ·rw [if_neg (by omega)];exact a2
 ·rw [if_neg (by omega)];exact a3
 ·rw [if_neg (by omega)];exact a4
 ·rw [if_neg (by omega)];exact a5
 ·rw [if_neg (by omega)];exact a6
 ·by_cases e:s=t
  ·subst e;rw[if_pos rfl,if_pos rfl]
  ·rw [if_neg (fun g=>e (b4 s t hs ht g)),if_neg e];exact a7 s hs
 ·rw [if_neg (fun g=>b3 t s ht hs g.symm)];exact a8 s hs
theorem PvK.y' {D h M0 B k:Nat} {sI yI:Nat→Nat} {l:List Snd} {d:Dem} {so Y:Nat→Nat→Int} {O:Nat→Option IObj} {nx:Nat} (p:PvK D h M0 B k sI yI l d so Y O nx) {t:Nat} (ht:t<k) (f:Nat→Int) :
  PvK D h M0 B k sI yI l d so (fun s=>if s=t then f else Y s) (Aa O (yI t) (some (.arr 0 1 ((BA h f).map (PV.int .i64))))) nx:=by
 obtain ⟨a1,a2,a3,a4,a5,a6,a7,a8,a9,b1,b2,b3,b4,b5,b6,b7⟩:=p
 have g:=b2 t ht
 refine ⟨?_,?_,?_,?_,?_,?_,fun s hs=>?_,fun s hs=>?_,a9,b1,b2,b3,b4,b5,b6,b7⟩ <;> simp only[Aa]
 ·rw [if_neg (by omega)];exact a1
 ·rw [if_neg (by omega)];exact a2
 ·rw [if_neg (by omega)];exact a3
 ·rw [if_neg (by omega)];exact a4
 ·rw [if_neg (by omega)];exact a5
 ·rw [if_neg (by omega)];exact a6
 ·rw [if_neg (fun g=>b3 s t hs ht g)];exact a7 s hs
 ·by_cases e:s=t
  ·subst e;rw[if_pos rfl,if_pos rfl]
  ·rw [if_neg (fun g=>e (b5 s t hs ht g)),if_neg e];exact a8 s hs
theorem PvK.eqY {D h M0 B k:Nat} {sI yI:Nat→Nat} {l:List Snd} {d:Dem} {so Y Y':Nat→Nat→Int} {O:Nat→Option IObj} {nx:Nat} (p:PvK D h M0 B k sI yI l d so Y O nx) (e:∀t x,t<k→x<h→Y t x=Y' t x):PvK D h M0 B k sI yI l d so Y' O nx:=by
 obtain ⟨a1,a2,a3,a4,a5,a6,a7,a8,a9,b1,b2,b3,b4,b5,b6,b7⟩:=p
 exact ⟨a1,a2,a3,a4,a5,a6,a7,fun t ht=>by rw[a8 t ht,D8 (fun x hx=>e t x ht hx)],a9,b1,b2,b3,b4,b5,b6,b7⟩
theorem PvK.eqS {D h M0 B k:Nat} {sI yI:Nat→Nat} {l:List Snd} {d:Dem} {so so' Y:Nat→Nat→Int} {O:Nat→Option IObj} {nx:Nat} (p:PvK D h M0 B k sI yI l d so Y O nx) (e:∀t x,t<k→x<h→so t x=so' t x):PvK D h M0 B k sI yI l d so' Y O nx:=by
 obtain ⟨a1,a2,a3,a4,a5,a6,a7,a8,a9,b1,b2,b3,b4,b5,b6,b7⟩:=p
 exact ⟨a1,a2,a3,a4,a5,a6,fun t ht=>by rw[a7 t ht,D8 (fun x hx=>e t x ht hx)],a8,a9,b1,b2,b3,b4,b5,b6,b7⟩
theorem PvK.rl {D h M0 B k:Nat} {sI yI:Nat→Nat} {l:List Snd} {d:Dem} {so Y:Nat→Nat→Int} {O:Nat→Option IObj} {nx:Nat} (p:PvK D h M0 B k sI yI l d so Y O nx) {C:Nat} {ch:Bool} (hC:O C=some (.arr 0 1 [.bool ch])) (hCB:B≤C) {t x:Nat} (ht:t<k) (hx:x<h) (v:Int) :
  ∃ O',Bf Gq Ib EJ [.ptr (yI t) 0 x 0,I v,.ptr C 0 0 0] ⟨O,nx⟩=some (.tuple [],⟨O',nx⟩)∧PvK D h M0 B k sI yI l d so (YS.rl ⟨Y,ch⟩ t x v).y O' nx∧O' C=some (.arr 0 1 [.bool (YS.rl ⟨Y,ch⟩ t x v).ch])∧∀i,i≠C→(∀s,s<k→i≠yI s)→O' i=O i:=by
 have hyB:=(p.iY t ht).2
 have hne:yI t≠C:=by omega
 have key:=XX ⟨yI t,0,x,C,v,BA h (Y t),ch⟩ (st:=⟨O,nx⟩) ⟨p.rY t ht,by dsimp only;rw[Cy];exact hx,hC,hne⟩
 dsimp only at key
 rw [key]
 unfold EJ
 dsimp only
 rw [Fr hx]
 by_cases c:v<Y t x
 ·rw [if_pos c,E9 hx]
  have e:YS.rl ⟨Y,ch⟩ t x v=⟨fun t' x'=>if t'=t∧x'=x then v else Y t' x',true⟩:=by unfold YS.rl;exact if_pos c
  rw [e]
  refine ⟨_,rfl,?_,by simp[Aa],fun i hiC hi=>by simp only[Aa];rw[if_neg hiC,if_neg (hi t ht)]⟩
  have q:=(p.y' ht fun z=>if z=x then v else Y t z).eqY (Y':=fun t' x'=>if t'=t∧x'=x then v else Y t' x') fun s z hs hz=>by
   by_cases e:s=t
   ·subst e;rw[if_pos rfl];simp
   ·rw [if_neg e,if_neg (fun g=>e g.1)]
  exact q.of (fun i hi=>by simp only[Aa];rw[if_neg (by omega)]) q.nx
 ·rw [if_neg c]
  have e:YS.rl ⟨Y,ch⟩ t x v=⟨Y,ch⟩:=by unfold YS.rl;exact if_neg c
  rw [e]
  exact ⟨O,rfl,p,hC,fun _ _ _=>rfl⟩
theorem WF.upd {O:Nat→Option IObj} {nx nx' i:Nat} (h:WF ⟨O,nx⟩) (hi:i<nx') (hn:nx≤nx') {x:Option IObj}:WF ⟨Aa O i x,nx'⟩:=fun j o hj=>by
 dsimp only at hj ⊢
 simp only[Aa]at hj
 split at hj
 ·omega
 ·have := h j o hj
  dsimp only at this
  omega
structure PvM (d:Dem) (es:List (PV×PV)) (S:Store):Prop where
 b0 : S.obj 0=some (.arr 0 1 [])
 b1 : S.obj 1=some (.arr 0 1 [.nils])
 b2 : S.obj 2=some (.arr 0 5 [.agg [I d.1,I d.2.1,I d.2.2.1,I d.2.2.2.1,I d.2.2.2.2]])
 b3 : S.obj 3=some (.map 0 (.ints 2) es)
 b4 : S.obj 4=some (.arr 0 1 [.mref 3 0])
 nx : 5≤S.next
 wf : WF S
theorem PvM.step {d:Dem} {es es':List (PV×PV)} {O:Nat→Option IObj} {nx:Nat} (h:PvM d es ⟨O,nx⟩) {x:Option IObj}:PvM d es' ⟨Aa (Aa O nx x) 3 (some (.map 0 (.ints 2) es')),nx+1⟩:=by
 obtain ⟨h0,h1,h2,h3,h4,h5,h6⟩:=h
 dsimp only at *
 refine ⟨?_,?_,?_,?_,?_,by dsimp only;omega,WF.upd (nx:=nx+1) (i:=3) (WF.upd (nx:=nx) (nx':=nx+1) (i:=nx) h6 (by omega) (by omega)) (by omega) (by omega)⟩ <;> simp only[Aa]
 ·rw [if_neg (by omega),if_neg (by omega)];exact h0
 ·rw [if_neg (by omega),if_neg (by omega)];exact h1
 ·rw [if_neg (by omega),if_neg (by omega)];exact h2
 ·rw [if_pos trivial]
 ·rw [if_neg (by omega),if_neg (by omega)];exact h4
theorem Fa {h:Nat} {v:Int}:(BA h fun _=>v).map (PV.int .i64)=List.replicate h (I v):=by
 unfold BA
 rw [List.map_map]
 refine List.ext_getElem (by simp) fun i h1 h2=>by simp
theorem PvK.add {D h M0 k:Nat} {sI yI:Nat→Nat} {l:List Snd} {d:Dem} {so Y:Nat→Nat→Int} {O O':Nat→Option IObj} {nx:Nat} (p:PvK D h M0 nx k sI yI l d so Y O nx) (hk:k≤D) {a b:Nat} (hab:a≠b) (ha:nx≤a∧a<nx+2) (hb:nx≤b∧b<nx+2)
  (h0 : O' 0=some (.arr 1 1 ((rwK sI D h k).set k (.ref a 0 0 h)))) (hM:O' M0=some (.arr 0 1 ((rwK yI D h k).set k (.ref b 0 0 h)))) (hra:O' a=some (.arr 0 1 ((BA h (so k)).map (PV.int .i64)))) (hrb:O' b=some (.arr 0 1 ((BA h (Y k)).map (PV.int .i64))))
  (hr : ∀i,i<nx→i≠0→i≠M0→O' i=O i):PvK D h M0 (nx+2) (k+1) (fun t=>if t=k then a else sI t) (fun t=>if t=k then b else yI t) l d so Y O' (nx+2):=by
 obtain ⟨a1,a2,a3,a4,a5,a6,a7,a8,a9,b1,b2,b3,b4,b5,b6,b7⟩:=p
 rw [zP hk]at h0 hM
 refine ⟨h0,?_,?_,?_,?_,hM,fun t ht=>?_,fun t ht=>?_,a9,fun t ht=>?_,fun t ht=>?_,fun t s ht hs=>?_,fun t s ht hs=>?_,fun t s ht hs=>?_,by omega,Nat.le_refl _⟩
 ·rw [hr _ (by omega) (by omega) (by omega)];exact a2
 ·rw [hr _ (by omega) (by omega) (by omega)];exact a3
 ·rw [hr _ (by omega) (by omega) (by omega)];exact a4
 ·rw [hr _ (by omega) (by omega) (by omega)];exact a5
 ·by_cases e:t=k
  ·rw [if_pos e,e];exact hra
  ·rw [if_neg e]
   have := b1 t (by omega)
   rw [hr _ this.2 (by omega) (by omega)];exact a7 t (by omega)
 ·by_cases e:t=k
  ·rw [if_pos e,e];exact hrb
  ·rw [if_neg e]
   have := b2 t (by omega)
   rw [hr _ this.2 (by omega) (by omega)];exact a8 t (by omega)
 ·by_cases e:t=k
  ·rw [if_pos e];omega
  ·rw [if_neg e];have:=b1 t (by omega);omega
 ·by_cases e:t=k
  ·rw [if_pos e];omega
  ·rw [if_neg e];have:=b2 t (by omega);omega
 ·by_cases e:t=k
  ·rw [if_pos e]
   by_cases e2:s=k
   ·rw [if_pos e2];exact hab
   ·rw [if_neg e2];have:=b2 s (by omega);omega
  ·rw [if_neg e]
   by_cases e2:s=k
   ·rw [if_pos e2];have:=b1 t (by omega);omega
   ·rw [if_neg e2];exact b3 t s (by omega) (by omega)
 ·by_cases e:t=k
  ·rw [if_pos e]
   by_cases e2:s=k
   ·intro _;rw[e,e2]
   ·rw [if_neg e2];have:=b1 s (by omega);intro g;omega
  ·rw [if_neg e]
   by_cases e2:s=k
   ·rw [if_pos e2];have:=b1 t (by omega);intro g;omega
   ·rw [if_neg e2];exact b4 t s (by omega) (by omega)
 ·by_cases e:t=k
  ·rw [if_pos e]
   by_cases e2:s=k
   ·intro _;rw[e,e2]
   ·rw [if_neg e2];have:=b2 s (by omega);intro g;omega
  ·rw [if_neg e]
   by_cases e2:s=k
   ·rw [if_pos e2];have:=b2 t (by omega);intro g;omega
   ·rw [if_neg e2];exact b5 t s (by omega) (by omega)
theorem qE {l m:List Int} (p:l.Perm m):l.sum=m.sum:=by
 induction p with
 | nil=>rfl
 | cons x _ ih=>rw[List.sum_cons,List.sum_cons,ih]
 | swap x y l=>rw[List.sum_cons,List.sum_cons,List.sum_cons,List.sum_cons];omega
 | trans _ _ h1 h2=>rw[h1,h2]
theorem TX {f:Nat→Int}:∀ {n:Nat} {seen:List Nat},seen.Nodup→(∀i∈seen,i<n)→seen.length=n→(seen.map f).sum=Aj f n
 | 0,seen,_,_,h3=>by
  rw [List.eq_nil_of_length_eq_zero h3];rfl
 | n+1,seen,h1,h2,h3=>by
  have hn:n∈seen:=Classical.byContradiction fun c=>by
   have := CL n seen h1 fun i hi=>by
    have := h2 i hi
    have : i≠n:=fun e=>c (e▸hi)
    omega
   omega
  obtain ⟨p,q,rfl⟩:=List.append_of_mem hn
  have hp:(p++n::q).Perm (n::(p++q)):=List.perm_middle
  have hnd:=hp.nodup_iff.1 h1
  rw [List.nodup_cons]at hnd
  rw [qE (hp.map f),List.map_cons,List.sum_cons,Aj,TX (n:=n) hnd.2 (fun i hi=>by
   have := h2 i (hp.mem_iff.2 (List.mem_cons_of_mem _ hi))
   have : i≠n:=fun e=>hnd.1 (e▸hi)
   omega) (by simp at h3 ⊢;omega)]
  omega
def cF (ls:List Lnk) (l:List Snd) (t x:Int) (i:Nat):Int:=if (l.getD i dS).2.1=t∧(Cb ls (l.getD i dS)).1=x then (l.getD i dS).2.2 else 0
def soS (ls:List Lnk) (l:List Snd) (d:Dem) (seen:List Nat) (t x:Nat):Int:=B0 ls l d (x:Int) (d.2.2.2.1+(t:Int))-(seen.map (cF ls l (d.2.2.2.1+(t:Int)) (x:Int))).sum
theorem zR {hn:Int} {ls:List Lnk} {us l:List Snd} {d:Dem} (ok:OKr hn ls l) (hd:0≤d.1) (h0:∀i,i<l.length→d.2.2.2.1≤(l.getD i dS).2.1) {seen:List Nat} (h1:seen.Nodup) (h2:∀i∈seen,i<l.length) (h3:seen.length=l.length) (t x:Nat):soS ls l d seen t x=soM hn ls us l d t x:=by
 unfold soS soM
 rw [TX h1 h2 h3,MV ok hd h0 x t,nD ok x t,QM]
 rfl
theorem zS {ls:List Lnk} {l:List Snd} {d:Dem} {seen:List Nat} {i t x:Nat}:soS ls l d (seen ++ [i]) t x=soS ls l d seen t x-cF ls l (d.2.2.2.1+(t:Int)) (x:Int) i:=by
 unfold soS
 rw [List.map_append,List.sum_append]
 simp
 omega
theorem XY {f:Nat→Int} {B:Int}:∀ {seen:List Nat},(∀i∈seen,0≤f i∧f i≤B)→0≤(seen.map f).sum∧(seen.map f).sum≤B*(seen.length:Int)
 | [],_=>by simp
 | i::l,h=>by
  have ih:=XY (f:=f) (B:=B) (seen:=l) fun j hj=>h j (List.mem_cons_of_mem _ hj)
  have h1:=h i (List.mem_cons_self ..)
  have e:B*((l.length+1:Nat):Int)=B*(l.length:Int)+B:=by rw[show ((l.length+1:Nat):Int)=(l.length:Int)+1 by omega,Int.mul_add,Int.mul_one]
  rw [List.map_cons,List.sum_cons,List.length_cons,e]
  omega
theorem zT {hn:Int} {ls:List Lnk} {l:List Snd} {d:Dem} (ok:OKr hn ls l) (hb:Wa d) {seen:List Nat} (h1:seen.Nodup) (h2:∀i∈seen,i<l.length) (t x:Nat) : -8796093022208≤soS ls l d seen t x∧soS ls l d seen t x≤8796093022208:=by
 have hl:=ok.len
 have a:=Tg hb (x:Int) (d.2.2.2.1+(t:Int))
 have b:=Tf ok (x:Int) (d.2.2.2.1+(t:Int)) l.length (Nat.le_refl _)
 have c:=XY (f:=cF ls l (d.2.2.2.1+(t:Int)) (x:Int)) (B:=1073741824) (seen:=seen) fun i hi=>by
  have := ok.bytes i (h2 i hi)
  unfold cF
  split <;> omega
 have e:=CL l.length seen h1 h2
 unfold soS B0
 omega
theorem PvK.lp {D h M0 B k:Nat} {sI yI:Nat→Nat} {l:List Snd} {d:Dem} {so Y:Nat→Nat→Int} {O:Nat→Option IObj} {nx:Nat} (p:PvK D h M0 B k sI yI l d so Y O nx) {id:Nat} {r:Loop} (hid:O id=some (.lp r)) (x:Option IObj):PvK D h M0 B k sI yI l d so Y (Aa O id x) nx:=by
 have key:∀ {j o},O j=some o→(∀r,o≠.lp r)→Aa O id x j=some o:=fun {j o} hj hr=>by
  simp only[Aa]
  rw [if_neg (fun e=>by rw[e,hid]at hj;cases hj;exact hr r rfl),hj]
 obtain ⟨a1,a2,a3,a4,a5,a6,a7,a8,a9,b1,b2,b3,b4,b5,b6,b7⟩:=p
 exact ⟨key a1 (by simp),key a2 (by simp),key a3 (by simp),key a4 (by simp),key a5 (by simp),key a6 (by simp),fun t ht=>key (a7 t ht) (by simp),fun t ht=>key (a8 t ht) (by simp),a9,b1,b2,b3,b4,b5,b6,b7⟩
theorem Wq {ls:List Lnk} {us:List Snd} {r:Int} {k t:Nat}:List.take 2 (EI ls us r k t) = [I (k:Nat),I (r+(t:Int))]:=rfl
noncomputable def GO (hn:Int) (ls:List Lnk) (us:List Snd) (d:Dem):Nat→Nat→Int:=(AA hn ls us d).prvY (Ao d) d.1.toNat d.2.1.toNat 536870912 268435456 (gS (Dd hn ls us d) d.2.2.2.1) (soM hn ls us (Dd hn ls us d) d)
noncomputable def D9 (hn:Int) (ls:List Lnk) (us:List Snd) (d:Dem):List (List Int):=(List.range (Ao d+1)).map fun t=>BA hn.toNat fun x=>min (GO hn ls us d t x) (GO hn ls us d (Ao d) d.2.1.toNat)
noncomputable def HL (hn:Int) (ls:List Lnk) (us:List Snd) (d:Dem):Int:=if CN hn ls us d≠0 then CN hn ls us d else DZ hn ls us d
end Sim
