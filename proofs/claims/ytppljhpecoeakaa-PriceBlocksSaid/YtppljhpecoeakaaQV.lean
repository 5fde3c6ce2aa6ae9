/- What functions of this seat compute, by values: contracts (lemmas of the statement's proof, under the conditions that each names). -/
import Derived.Test.YtppljhpecoeakaaQF6
import Derived.Test.YtppljhpecoeakaaQBD
set_option linter.unusedVariables false
set_option linter.unusedSimpArgs false
namespace Sim
structure BS where
 cost : List Int
 known : List Bool
 last : List Int
def Mu (A:List Arc) (st:BS) (k:Nat):BS :=
 if 0<aL A k∧st.known.getD (aF A k) false=true∧(st.known.getD (aT A k) false=false∨st.cost.getD (aF A k) 0+aP A k<st.cost.getD (aT A k) 0)then⟨st.cost.set (aT A k) (st.cost.getD (aF A k) 0+aP A k),st.known.set (aT A k) true,st.last.set (aT A k) k⟩else st
def Qi (A:List Arc) (st:BS) (n:Nat):BS:=(List.range n).foldl (Mu A) st
def Ahn (A:List Arc) (st:BS):BS:=Qi A st A.length
def NP (N s:Nat):BS:=⟨List.replicate N 0,(List.replicate N false).set s true,List.replicate N 0⟩
def SH (A:List Arc) (N s:Nat):Nat→BS
 | 0=>NP N s
 | n+1=>Ahn A (SH A N s n)
def Qj (A:List Arc) (N s:Nat):BS:=SH A N s N
inductive PL (A:List Arc) (last:List Int) (s:Nat):Nat→List Nat→Prop
 | nil:PL A last s s []
 | cons (v:Nat) (P:List Nat) (hv:v≠s) (hT:aT A (last.getD v 0).toNat=v) (h:PL A last s (aF A (last.getD v 0).toNat) P):PL A last s v ((last.getD v 0).toNat::P)
theorem Abw {A:List Arc} {last:List Int} {s v:Nat} {P Q:List Nat} (h:PL A last s v P):PL A last s v Q→P=Q:=by
 induction h generalizing Q with
 | nil =>
  intro g
  cases g with
  | nil=>rfl
  | cons _ _ hv _ _=>exact absurd rfl hv
 | cons v P hv hT h ih =>
  intro g
  cases g with
  | nil=>exact absurd rfl hv
  | cons _ _ _ _ g=>rw[ih g]
def wtP (A:List Arc) (P:List Nat):Int:=(P.map (aP A)).sum
theorem H1 {A:List Arc} {k:Nat} {P:List Nat}:wtP A (k::P)=aP A k+wtP A P:=by simp[wtP]
theorem Abx {A:List Arc} {P Q:List Nat}:wtP A (P++Q)=wtP A P+wtP A Q:=by simp[wtP]
def Opn (A:List Arc) (P:List Nat):Prop:=∀k∈P,k<A.length∧0<aL A k
structure Gb (A:List Arc) (N s:Nat) (φ:Nat→Int):Prop where
 ar : ∀k,k<A.length→aF A k<N∧aT A k<N
 sN : s<N
 pr : ∀k,k<A.length → -1000000≤aP A k∧aP A k≤1000000
 pot : ∀k,k<A.length→0<aL A k→0≤aP A k+φ (aF A k)-φ (aT A k)
structure BI (A:List Arc) (N s:Nat) (φ:Nat→Int) (st:BS) (c:Nat):Prop where
 lc : st.cost.length=N
 lk : st.known.length=N
 ll : st.last.length=N
 ks : st.known.getD s false=true
 cs : st.cost.getD s 0=0
 par : ∀v,v<N→st.known.getD v false=true→v≠s→∃k:Nat,st.last.getD v 0=(k:Int)∧k<A.length∧0<aL A k∧aT A k=v∧st.known.getD (aF A k) false=true∧st.cost.getD (aF A k) 0+aP A k≤st.cost.getD v 0
 pl : ∀v,v<N→st.known.getD v false=true→∃P,PL A st.last s v P
 wk : ∀v,v<N→st.known.getD v false=true→∃P,IsP A s v P∧Opn A P∧wtP A P=st.cost.getD v 0
 mag : ∀v,v<N→st.known.getD v false=true → -(1000000*(c:Int))≤st.cost.getD v 0∧st.cost.getD v 0≤1000000*(c:Int)
section
variable {A:List Arc} {N s:Nat} {φ:Nat→Int}
theorem jL (G:Gb A N s φ) {st:BS} {c:Nat} (I:BI A N s φ st c) {v:Nat} {P:List Nat} (h:PL A st.last s v P):v<N→st.known.getD v false=true→(∀x∈P.map (aT A),x<N∧st.known.getD x false=true∧st.cost.getD x 0-φ x≤st.cost.getD v 0-φ v)∧st.cost.getD s 0-φ s≤st.cost.getD v 0-φ v∧IsP A s v P∧Opn A P:=by
 induction h with
 | nil=>intro _ _;exact⟨by simp,Int.le_refl _,.nil,by intro k hk;simp at hk⟩
 | cons v P hv hT h ih =>
  intro vN hk
  obtain ⟨k,a1,a2,a3,a4,a5,a6⟩:=I.par v vN hk hv
  rw [a1,Int.toNat_natCast]at h ih
  obtain ⟨i1,i2,i3,i4⟩:=ih (G.ar k a2).1 a5
  have hp:=G.pot k a2 a3
  rw [a4]at hp
  rw [a1,Int.toNat_natCast]
  refine ⟨fun x hx=>?_,by omega,?_,fun j hj=>?_⟩
  ·rw [List.map_cons]at hx
   rcases List.mem_cons.1 hx with g | g
   ·rw [g,a4];exact⟨vN,hk,Int.le_refl _⟩
   ·obtain ⟨j1,j2,j3⟩:=i1 x g
    exact ⟨j1,j2,by omega⟩
  ·rw [←a4];exact .cons k P i3
  ·rcases List.mem_cons.1 hj with g | g
   ·subst g;exact⟨a2,a3⟩
   ·exact i4 j g
theorem Aby {last:List Int} {v:Nat} {x:Int} (hl:v<last.length) {u:Nat} {P:List Nat} (h:PL A last s u P):v ∉ P.map (aT A)→PL A (last.set v x) s u P:=by
 induction h with
 | nil=>intro _;exact .nil
 | cons u P hu hT h ih =>
  intro hP
  rw [List.map_cons,List.mem_cons,hT]at hP
  have e1:(last.set v x).getD u 0=last.getD u 0:=by rw[CW hl,if_neg (fun g=>hP (.inl g.symm))]
  have := PL.cons (A:=A) (last:=last.set v x) (s:=s) u P hu (by rw[e1];exact hT) (by rw[e1];exact ih fun g=>hP (.inr g))
  rwa [e1]at this
theorem vA (G:Gb A N s φ) {st:BS} {c k:Nat} (I:BI A N s φ st c) (hk:k<A.length):BI A N s φ (Mu A st k) (c+1)∧(∀v,v<N→st.known.getD v false=true→(Mu A st k).known.getD v false=true∧(Mu A st k).cost.getD v 0≤st.cost.getD v 0) ∧
  (0 < aL A k→st.known.getD (aF A k) false=true→(Mu A st k).known.getD (aT A k) false=true∧(Mu A st k).cost.getD (aT A k) 0≤st.cost.getD (aF A k) 0+aP A k):=by
 obtain ⟨uN,vN⟩:=G.ar k hk
 have hc1:((c+1:Nat):Int)=(c:Int)+1:=by omega
 by_cases h:0<aL A k∧st.known.getD (aF A k) false=true∧(st.known.getD (aT A k) false=false∨st.cost.getD (aF A k) 0+aP A k<st.cost.getD (aT A k) 0)
 case neg =>
  have e:Mu A st k=st:=by unfold Mu;rw[if_neg h]
  rw [e]
  refine ⟨⟨I.lc,I.lk,I.ll,I.ks,I.cs,I.par,I.pl,I.wk,fun v hv g=>?_⟩,fun v hv g=>⟨g,Int.le_refl _⟩,fun h1 h2=>?_⟩
  ·have := I.mag v hv g
   rw [hc1];omega
  ·have h3:¬(st.known.getD (aT A k) false=false∨st.cost.getD (aF A k) 0+aP A k<st.cost.getD (aT A k) 0):=fun g=>h ⟨h1,h2,g⟩
   cases hb:st.known.getD (aT A k) false with
   | false=>exact absurd (.inl hb) h3
   | true=>exact⟨rfl,by have:¬st.cost.getD (aF A k) 0+aP A k<st.cost.getD (aT A k) 0:=fun g=>h3 (.inr g);omega⟩
 obtain ⟨h1,h2,h3⟩:=h
 have e:Mu A st k=⟨st.cost.set (aT A k) (st.cost.getD (aF A k) 0+aP A k),st.known.set (aT A k) true,st.last.set (aT A k) k⟩:=by unfold Mu;rw[if_pos ⟨h1,h2,h3⟩]
 have hp:=G.pot k hk h1
 -- v is not on the path of u
 obtain ⟨Pu,hPu⟩:=I.pl _ uN h2
 obtain ⟨k1,k2,k3,k4⟩:=jL G I hPu uN h2
 have hnew:st.known.getD (aT A k) false=true→st.cost.getD (aF A k) 0-φ (aF A k)<st.cost.getD (aT A k) 0-φ (aT A k):=fun g=>by
  rcases h3 with h3 | h3
  ·rw [g]at h3;cases h3
  ·omega
 have hvP:aT A k ∉ Pu.map (aT A):=fun g=>by
  obtain ⟨_,j2,j3⟩:=k1 _ g
  have := hnew j2
  omega
 have hvs:aT A k≠s:=fun g=>by
  have := hnew (by rw[g];exact I.ks)
  rw [g]at this
  omega
 have huv:aF A k≠aT A k:=fun g=>by
  have := hnew (by rw[←g];exact h2)
  rw [g]at this
  omega
 have hco:∀w,(st.cost.set (aT A k) (st.cost.getD (aF A k) 0+aP A k)).getD w 0=if w=aT A k then st.cost.getD (aF A k) 0+aP A k else st.cost.getD w 0:=fun w=>CW (by rw[I.lc];exact vN)
 have hla:∀w,(st.last.set (aT A k) (k:Int)).getD w 0=if w=aT A k then (k:Int)else st.last.getD w 0:=fun w=>CW (by rw[I.ll];exact vN)
 have hkn:∀w,(st.known.set (aT A k) true).getD w false=if w=aT A k then true else st.known.getD w false:=fun w=>EU (by rw[I.lk];exact vN)
 have hkk:∀w,st.known.getD w false=true→(if w=aT A k then true else st.known.getD w false)=true:=fun w g=>by split;rfl;exact g
 have hle:∀w,st.known.getD w false=true→(if w=aT A k then st.cost.getD (aF A k) 0+aP A k else st.cost.getD w 0)≤st.cost.getD w 0:=fun w g=>by
  split
  ·rename_i e;subst e
   rcases h3 with h3 | h3
   ·rw [g]at h3;cases h3
   ·omega
  ·exact Int.le_refl _
 have hPLu:PL A (st.last.set (aT A k) (k:Int)) s (aF A k) Pu:=Aby (by rw[I.ll];exact vN) hPu hvP
 have hPLv:PL A (st.last.set (aT A k) (k:Int)) s (aT A k) (k::Pu):=by
  have e1:(st.last.set (aT A k) (k:Int)).getD (aT A k) 0=(k:Int):=by rw[hla,if_pos rfl]
  have := PL.cons (A:=A) (last:=st.last.set (aT A k) (k:Int)) (s:=s) (aT A k) Pu hvs (by rw[e1,Int.toNat_natCast]) (by rw[e1,Int.toNat_natCast];exact hPLu)
  rwa [e1,Int.toNat_natCast]at this
 have hPLx:∀ {x:Nat} {P:List Nat},PL A st.last s x P→∃Q,PL A (st.last.set (aT A k) (k:Int)) s x Q:=fun {x P} g=>by
  induction g with
  | nil=>exact⟨[],.nil⟩
  | cons x P hx hT g ih =>
   by_cases e:x=aT A k
   ·exact ⟨_,by rw[e];exact hPLv⟩
   ·obtain ⟨Q,hQ⟩:=ih
    have e1:(st.last.set (aT A k) (k:Int)).getD x 0=st.last.getD x 0:=by rw[hla,if_neg e]
    refine ⟨_,PL.cons (A:=A) (last:=st.last.set (aT A k) (k:Int)) (s:=s) x Q hx (by rw[e1];exact hT) (by rw[e1];exact hQ)⟩
 rw [e]
 refine ⟨⟨by simpa using I.lc,by simpa using I.lk,by simpa using I.ll,?_,?_,fun v hv g1 g2=>?_,fun v hv g=>?_,fun v hv g=>?_,fun v hv g=>?_⟩,fun v hv g=>?_,fun _ _=>?_⟩ <;> (try dsimp only at *)
 ·rw [hkn];exact hkk s I.ks
 ·rw [hco,if_neg (fun g=>hvs g.symm)];exact I.cs
 ·by_cases e:v=aT A k
  ·subst e
   refine ⟨k,by rw[hla,if_pos rfl],hk,h1,rfl,by rw[hkn];exact hkk _ h2,?_⟩
   rw [hco,hco,if_neg huv,if_pos rfl];exact Int.le_refl _
  ·rw [hkn,if_neg e]at g1
   obtain ⟨j,a1,a2,a3,a4,a5,a6⟩:=I.par v hv g1 g2
   refine ⟨j,by rw[hla,if_neg e];exact a1,a2,a3,a4,by rw[hkn];exact hkk _ a5,?_⟩
   rw [hco,hco,if_neg e]
   have := hle _ a5
   omega
 ·by_cases e:v=aT A k
  ·subst e;exact⟨_,hPLv⟩
  ·rw [hkn,if_neg e]at g
   obtain ⟨P,hP⟩:=I.pl v hv g
   exact hPLx hP
 ·by_cases e:v=aT A k
  ·subst e
   obtain ⟨P,w1,w2,w3⟩:=I.wk _ uN h2
   refine ⟨k::P,.cons k P w1,fun j hj=>?_,?_⟩
   ·rcases List.mem_cons.1 hj with g | g
    ·subst g;exact⟨hk,h1⟩
    ·exact w2 j g
   ·rw [H1,w3,hco,if_pos rfl];omega
  ·rw [hkn,if_neg e]at g
   obtain ⟨P,w1,w2,w3⟩:=I.wk v hv g
   exact ⟨P,w1,w2,by rw[hco,if_neg e];exact w3⟩
 ·rw [hco,hc1]
  by_cases e:v=aT A k
  ·rw [if_pos e]
   have := I.mag _ uN h2
   have := G.pr k hk
   omega
  ·rw [hkn,if_neg e]at g
   rw [if_neg e]
   have := I.mag v hv g
   omega
 ·rw [hkn,hco];exact⟨hkk v g,hle v g⟩
 ·rw [hkn,hco,if_pos rfl,if_pos rfl];exact⟨rfl,Int.le_refl _⟩
theorem Z1 {st:BS} {n:Nat}:Qi A st (n+1)=Mu A (Qi A st n) n:=by
 unfold Qi;rw[List.range_succ,List.foldl_append];rfl
theorem Qk (G:Gb A N s φ) {st:BS} {c:Nat} (I:BI A N s φ st c):∀n,n≤A.length→BI A N s φ (Qi A st n) (c+n)∧(∀v,v<N→st.known.getD v false=true→(Qi A st n).known.getD v false=true∧(Qi A st n).cost.getD v 0≤st.cost.getD v 0) ∧
  ∀ k,k<n→0<aL A k→st.known.getD (aF A k) false=true→(Qi A st n).known.getD (aT A k) false=true∧(Qi A st n).cost.getD (aT A k) 0≤st.cost.getD (aF A k) 0+aP A k
 | 0,_=>⟨I,fun v hv g=>⟨g,Int.le_refl _⟩,fun k hk=>absurd hk (by omega)⟩
 | n+1,h=>by
  obtain ⟨h1,h2,h3⟩:=Qk G I n (by omega)
  obtain ⟨g1,g2,g3⟩:=vA G h1 (k:=n) (by omega)
  rw [Z1]
  refine ⟨g1,fun v hv g=>?_,fun k hk a1 a2=>?_⟩
  ·obtain ⟨b1,b2⟩:=h2 v hv g
   obtain ⟨b3,b4⟩:=g2 v hv b1
   exact ⟨b3,by omega⟩
  ·obtain ⟨uN,vN⟩:=G.ar k (by omega)
   by_cases e:k=n
   ·subst e
    obtain ⟨b1,b2⟩:=h2 _ uN a2
    obtain ⟨b3,b4⟩:=g3 a1 b1
    exact ⟨b3,by omega⟩
   ·obtain ⟨b1,b2⟩:=h3 k (by omega) a1 a2
    obtain ⟨b3,b4⟩:=g2 _ vN b1
    exact ⟨b3,by omega⟩
theorem vB (G:Gb A N s φ):BI A N s φ (NP N s) 0:=by
 have sN:=G.sN
 have hk:∀v,v<N→(NP N s).known.getD v false=if v=s then true else false:=fun v hv=>by
  unfold NP;dsimp only
  rw [EU (by simpa using sN)]
  simp [hv]
 have hc:∀v,v<N→(NP N s).cost.getD v 0=0:=fun v hv=>by unfold NP;simp[hv]
 have hv:∀v,v<N→(NP N s).known.getD v false=true→v=s:=fun v hv g=>by
  rw [hk v hv]at g
  by_cases e:v=s
  ·exact e
  ·rw [if_neg e]at g;cases g
 refine ⟨by simp[NP],by simp[NP],by simp[NP],by rw[hk s sN,if_pos rfl],hc s sN,fun v hv' g1 g2=>absurd (hv v hv' g1) g2,fun v hv' g=>?_,fun v hv' g=>?_,fun v hv' g=>?_⟩
 ·rw [hv v hv' g];exact⟨[],.nil⟩
 ·rw [hc v hv',hv v hv' g];exact⟨[],.nil,by intro k hk;simp at hk,rfl⟩
 ·rw [hc v hv'];simp
theorem Lv (G:Gb A N s φ):∀n,BI A N s φ (SH A N s n) (n*A.length)
 | 0=>by rw[Nat.zero_mul];exact vB G
 | n+1=>by
  have :=(Qk G (Lv G n) A.length (Nat.le_refl _)).1
  rw [Nat.succ_mul];exact this
theorem Agc (G:Gb A N s φ) {v:Nat} {P:List Nat} (h:IsP A s v P):∀n,P.length≤n→Opn A P→v<N→(SH A N s n).known.getD v false=true∧(SH A N s n).cost.getD v 0≤wtP A P:=by
 induction h with
 | nil =>
  intro n _ _ _
  have := Lv G n
  rw [this.cs]
  exact ⟨this.ks,by simp[wtP]⟩
 | cons k P h ih =>
  intro n hn ho vN
  cases n with
  | zero=>simp at hn
  | succ n =>
   rw [List.length_cons]at hn
   obtain ⟨hk,hl⟩:=ho k (by simp)
   obtain ⟨i1,i2⟩:=ih n (by omega) (fun j hj=>ho j (by simp[hj])) (G.ar k hk).1
   obtain ⟨g1,g2⟩:=(Qk G (Lv G n) A.length (Nat.le_refl _)).2.2 k hk hl i1
   refine ⟨g1,?_⟩
   rw [H1]
   have : (SH A N s (n+1)).cost.getD (aT A k) 0≤(SH A N s n).cost.getD (aF A k) 0+aP A k:=g2
   omega
theorem Z2 {v x:Nat} {P:List Nat} (h:IsP A s v P):x∈P.map (aT A)→∃X Y,P=X++Y∧IsP A s x Y:=by
 induction h with
 | nil=>intro hx;simp at hx
 | cons k P h ih =>
  intro hx
  rw [List.map_cons]at hx
  by_cases e:x=aT A k
  ·exact ⟨[],k::P,rfl,by rw[e];exact .cons k P h⟩
  ·rcases List.mem_cons.1 hx with g | g
   ·exact absurd g e
   ·obtain ⟨X,Y,h1,h2⟩:=ih g
    exact ⟨k::X,Y,by rw[h1];rfl,h2⟩
theorem jM {v x:Nat} {Y:List Nat} (h1:IsP A s v Y) (h2:IsP A s x Y):v=x:=by
 cases h1 with
 | nil=>cases h2;rfl
 | cons k P _=>cases h2;rfl
theorem VW (G:Gb A N s φ):∀ {X:List Nat} {v x:Nat} {Y:List Nat},IsP A s v (X++Y)→IsP A s x Y→Opn A X→φ v-φ x≤wtP A X
 | [],v,x,Y,h1,h2,_=>by
  rw [jM h1 h2];simp[wtP]
 | k::X,v,x,Y,h1,h2,ho=>by
  cases h1 with
  | cons _ _ h1 =>
   obtain ⟨hk,hl⟩:=ho k (by simp)
   have := VW G h1 h2 fun j hj=>ho j (by simp[hj])
   have hp:=G.pot k hk hl
   rw [H1];omega
theorem vC (G:Gb A N s φ) {v:Nat} {P:List Nat} (h:IsP A s v P):Opn A P→∃Q,IsP A s v Q∧Opn A Q∧(s::Q.map (aT A)).Nodup∧wtP A Q≤wtP A P:=by
 induction h with
 | nil=>intro _;exact⟨[],.nil,by intro k hk;simp at hk,by simp,Int.le_refl _⟩
 | cons k P h ih =>
  intro ho
  obtain ⟨hk,hl⟩:=ho k (by simp)
  obtain ⟨Q,q1,q2,q3,q4⟩:=ih fun j hj=>ho j (by simp[hj])
  have hp:=G.pot k hk hl
  rw [H1]
  by_cases e:aT A k∈Q.map (aT A)
  ·obtain ⟨X,Y,e1,e2⟩:=Z2 q1 e
   subst e1
   have h1:=VW G q1 e2 fun j hj=>q2 j (List.mem_append.2 (.inl hj))
   rw [Abx]at q4
   refine ⟨Y,e2,fun j hj=>q2 j (List.mem_append.2 (.inr hj)),?_,by omega⟩
   rw [List.map_append]at q3
   rw [List.nodup_cons]at q3 ⊢
   exact ⟨fun g=>q3.1 (List.mem_append.2 (.inr g)),(List.nodup_append.1 q3.2).2.1⟩
  ·by_cases es:aT A k=s
   ·have h1:=VW G (X:=Q) (Y := []) (x:=s) (by rw[List.append_nil];exact q1) .nil q2
    refine ⟨[],by rw[es];exact .nil,by intro j hj;simp at hj,by simp,?_⟩
    rw [es]at hp
    have : wtP A []=0:=rfl
    omega
   ·refine ⟨k::Q,.cons k Q q1,fun j hj=>?_,?_,by rw[H1];omega⟩
    ·rcases List.mem_cons.1 hj with g | g
     ·subst g;exact⟨hk,hl⟩
     ·exact q2 j g
    ·rw [List.map_cons]
     rw [List.nodup_cons]at q3 ⊢
     rw [List.nodup_cons]
     refine ⟨fun g=>?_,e,q3.2⟩
     rcases List.mem_cons.1 g with g | g
     ·exact es g.symm
     ·exact q3.1 g
theorem CL:∀(L:Nat) (l:List Nat),l.Nodup→(∀x∈l,x<L)→l.length≤L
 | 0,l,_,h=>by
  cases l with
  | nil=>exact Nat.le_refl _
  | cons a l=>exact absurd (h a (by simp)) (by omega)
 | L+1,l,hn,h=>by
  by_cases hm:L∈l
  ·have h1:=CL L (l.erase L) (hn.erase L) (fun x hx=>by
    have h2:=(hn.mem_erase_iff).1 hx
    have := h x h2.2
    omega)
   rw [List.length_erase_of_mem hm]at h1
   omega
  ·have := CL L l hn (fun x hx=>by
    have h1:=h x hx
    have : x≠L:=fun e=>hm (e▸hx)
    omega)
   omega
theorem vD (G:Gb A N s φ) {v:Nat} {P:List Nat} (h:IsP A s v P) (ho:Opn A P) (vN:v<N):(Qj A N s).known.getD v false=true∧(Qj A N s).cost.getD v 0≤wtP A P:=by
 obtain ⟨Q,q1,q2,q3,q4⟩:=vC G h ho
 have hl:(s::Q.map (aT A)).length≤N:=CL N _ q3 fun x hx=>by
  rcases List.mem_cons.1 hx with g | g
  ·rw [g];exact G.sN
  ·obtain ⟨k,hk,rfl⟩:=List.mem_map.1 g
   exact (G.ar k (q2 k hk).1).2
 rw [List.length_cons,List.length_map]at hl
 obtain ⟨h1,h2⟩:=Agc G q1 N (by omega) q2 vN
 exact ⟨h1,Int.le_trans h2 q4⟩
structure FB (A:List Arc) (N s:Nat) (st:BS):Prop where
 known : ∀v,v<N→(st.known.getD v false=true↔Rch A s v)
 clo : ∀k,k<A.length→0<aL A k→Rch A s (aF A k)→st.cost.getD (aT A k) 0≤st.cost.getD (aF A k) 0+aP A k
 cs : st.cost.getD s 0=0
 path : ∀v,v<N→Rch A s v→∃P,PL A st.last s v P∧IsP A s v P∧(P.map (aT A)).Nodup∧∀k∈P,k<A.length∧0<aL A k∧Rch A s (aF A k)∧Rch A s (aT A k)∧aP A k+st.cost.getD (aF A k) 0-st.cost.getD (aT A k) 0=0
theorem vE {v:Nat} (h:Rch A s v):∃P,IsP A s v P∧Opn A P:=by
 induction h with
 | src=>exact⟨[],.nil,by intro k hk;simp at hk⟩
 | arc k hk hl h ih =>
  obtain ⟨P,h1,h2⟩:=ih
  refine ⟨k::P,.cons k P h1,fun j hj=>?_⟩
  rcases List.mem_cons.1 hj with g | g
  ·subst g;exact⟨hk,hl⟩
  ·exact h2 j g
theorem vF {v:Nat} {P:List Nat} (h:IsP A s v P):Opn A P→Rch A s v:=by
 induction h with
 | nil=>intro _;exact .src
 | cons k P h ih =>
  intro ho
  obtain ⟨hk,hl⟩:=ho k (by simp)
  exact .arc k hk hl (ih fun j hj=>ho j (by simp[hj]))
theorem vG (G:Gb A N s φ):FB A N s (Qj A N s):=by
 have I:=Lv G N
 have hst:SH A N s N=Qj A N s:=rfl
 rw [hst]at I
 have hle:=fun {v:Nat} {P:List Nat} h ho vN=>vD G (v:=v) (P:=P) h ho vN
 generalize Qj A N s=st at *
 have h1:∀v,v<N→(st.known.getD v false=true↔Rch A s v):=fun v hv=>by
  constructor
  ·intro g
   obtain ⟨P,w1,w2,_⟩:=I.wk v hv g
   exact vF w1 w2
  ·intro g
   obtain ⟨P,p1,p2⟩:=vE g
   exact (hle p1 p2 hv).1
 have h2:∀k,k<A.length→0<aL A k→Rch A s (aF A k)→st.cost.getD (aT A k) 0≤st.cost.getD (aF A k) 0+aP A k:=fun k hk hl hr=>by
  obtain ⟨uN,vN⟩:=G.ar k hk
  obtain ⟨P,w1,w2,w3⟩:=I.wk _ uN ((h1 _ uN).2 hr)
  have :=(hle (.cons k P w1) (fun j hj=>by
   rcases List.mem_cons.1 hj with g | g
   ·subst g;exact⟨hk,hl⟩
   ·exact w2 j g) vN).2
  rw [H1,w3]at this
  omega
 refine ⟨h1,h2,I.cs,fun v hv hr=>?_⟩
 obtain ⟨P,hP⟩:=I.pl v hv ((h1 v hv).2 hr)
 obtain ⟨_,_,k3,k4⟩:=jL G I hP hv ((h1 v hv).2 hr)
 have htight:∀ {w:Nat} {Q:List Nat},PL A st.last s w Q→w<N→Rch A s w→∀k∈Q,k<A.length∧0<aL A k∧Rch A s (aF A k)∧Rch A s (aT A k)∧aP A k+st.cost.getD (aF A k) 0-st.cost.getD (aT A k) 0=0:=fun {w Q} hQ=>by
  induction hQ with
  | nil=>intro _ _ k hk;simp at hk
  | cons w Q hw hT hQ ih =>
   intro wN wr k hk
   obtain ⟨j,a1,a2,a3,a4,a5,a6⟩:=I.par w wN ((h1 w wN).2 wr) hw
   rw [a1,Int.toNat_natCast]at hk ih
   have hjr:=(h1 _ (G.ar j a2).1).1 a5
   rcases List.mem_cons.1 hk with g | g
   ·subst g
    have := h2 k a2 a3 hjr
    rw [a4]at this
    exact ⟨a2,a3,hjr,by rw[a4];exact wr,by rw[a4];omega⟩
   ·exact ih (G.ar j a2).1 hjr k g
 have hnd:∀ {w:Nat} {Q:List Nat},PL A st.last s w Q→(Q.map (aT A)).Nodup:=fun {w Q} hQ=>by
  induction hQ with
  | nil=>simp
  | cons w Q hw hT hQ ih =>
   rw [List.map_cons,List.nodup_cons,hT]
   refine ⟨fun g=>?_,ih⟩
   -- w would come again
   have key:∀ {x:Nat} {R:List Nat},PL A st.last s x R→w∈R.map (aT A)→∃Y,PL A st.last s w Y∧Y.length≤R.length:=fun {x R} hR=>by
    induction hR with
    | nil=>intro g;simp at g
    | cons x R hx hT' hR ih' =>
     intro g
     rw [List.map_cons,hT']at g
     by_cases e:w=x
     ·subst e
      exact ⟨_,.cons w R hx hT' hR,Nat.le_refl _⟩
     ·rcases List.mem_cons.1 g with g | g
      ·exact absurd g e
      ·obtain ⟨Y,y1,y2⟩:=ih' g
       exact ⟨Y,y1,by rw[List.length_cons];omega⟩
   obtain ⟨Y,y1,y2⟩:=key hQ g
   have := Abw y1 (.cons w Q hw hT hQ)
   rw [this,List.length_cons]at y2
   omega
 exact ⟨P,hP,k3,hnd hP,htight hP hv hr⟩
end
end Sim
namespace Sim
structure SB (A:List Arc) (N m s t:Nat) (sent:Int):Prop where
 wp : WPr A m
 ar : ∀k,k<A.length→aF A k<N∧aT A k<N
 sN : s<N
 tN : t<N
 st : s≠t
 pr : ∀k,k<A.length → -1000000≤aP A k∧aP A k≤1000000
 val : (fnA A N s t).Val (flA A) sent
 pot : ∃φ:Nat→Int,∀k,k<A.length→0<aL A k→0≤aP A k+φ (aF A k)-φ (aT A k)
theorem SI.sb {A:List Arc} {out:List (List Nat)} {lv:List Int} {N m s t:Nat} {sent:Int} (S:SI A out lv N m s t sent):SB A N m s t sent :=
 ⟨S.wp, S.ar,S.sN,S.tN,S.st,S.pr,S.val,by obtain⟨φ,h,_⟩:=S.pot;exact⟨φ,h⟩⟩
def jN (A:List Arc) (N s t:Nat):List Nat:=EB A (Qj A N s).last s N t
section
variable {A:List Arc} {N m s t:Nat} {sent p bytes:Int}
end
inductive SpecR (N s t:Nat) (bytes:Int):List Arc→Int→List Arc→Int→Prop
 | full (A sent) (h:¬sent<bytes):SpecR N s t bytes A sent A sent
 | stop (A sent) (h:sent<bytes) (hd:(Qj A N s).known.getD t false=false):SpecR N s t bytes A sent A sent
 | step (A sent A' r) (h:sent<bytes) (hd:(Qj A N s).known.getD t false=true)
   (hr : SpecR N s t bytes (aug A (CP A (bytes-sent) (jN A N s t)) (jN A N s t)) (sent+CP A (bytes-sent) (jN A N s t)) A' r):SpecR N s t bytes A sent A' r
section
variable {A:List Arc} {N m s t:Nat} {sent bytes:Int}
end
end Sim
namespace Sim
open Go Go.Proofs
theorem AR:Try.prog.follows .mixedOrders=true:=by kernel_rfl
abbrev itV (x:It):PV:=.agg [I x.1,I (x.2:Nat)]
theorem JL {l:List It} {k:Nat} (h:k<l.length):nth (l.map itV) k=.agg [I (l.getD k dI).1,I ((l.getD k dI).2:Nat)]:=Eh dI h
theorem vH {l:List It}:AS (l.map itV)=true:=HZ fun x=>by simp[JA,Du,Fp,FK]
theorem WH {l m:List It}:(l.map itV=m.map itV)=(l=m):=H0 fun x y h=>by
 simp only[PV.agg.injEq,List.cons.injEq,true_and,and_true,PV.int.injEq]at h
 exact Prod.ext h.1 (by omega)
abbrev Db (a:Arc):PV:=.agg [I (a.1:Nat),I (a.2.1:Nat),I a.2.2.1,I a.2.2.2]
theorem Cd {l:List Arc} {k:Nat} (h:k<l.length):nth (l.map Db) k=.agg [I ((l.getD k dA).1:Nat),I ((l.getD k dA).2.1:Nat),I (l.getD k dA).2.2.1,I (l.getD k dA).2.2.2]:=Eh dA h
theorem jO {l:List Arc}:AS (l.map Db)=true:=HZ fun x=>by simp[JA,Du,Fp,FK]
theorem Mv {l m:List Arc}:(l.map Db=m.map Db)=(l=m):=H0 fun x y h=>by
 simp only[PV.agg.injEq,List.cons.injEq,true_and,and_true,PV.int.injEq]at h
 exact Prod.ext (by omega) (Prod.ext (by omega) (Prod.ext h.2.2.1 h.2.2.2))
abbrev Lnk:=Int×Int×(Fin 24→Int)×(Fin 24→Int)
abbrev dL:Lnk:=(0,0,fun _=>0,fun _=>0)
def lkC (a:Lnk):List PV:=I a.1::I a.2.1::((List.ofFn a.2.2.1).map (PV.int .i64)++(List.ofFn a.2.2.2).map (PV.int .i64))
abbrev VX (a:Lnk):PV:=.agg (lkC a)
abbrev Az (l:List Lnk):PV:=.lits 50 (l.map VX)
abbrev Net:=Int×List Lnk
abbrev Z3 (n:Net):PV:=.agg [I n.1,Az n.2]
abbrev Snd:=Int×Int×Int
abbrev dS:Snd:=(0,0,0)
abbrev GQ (a:Snd):PV:=.agg [I a.1,I a.2.1,I a.2.2]
abbrev AB (l:List Snd):PV:=.lits 3 (l.map GQ)
def DL (a:Lnk) (h:Nat):Int:=if g:h<24 then a.2.2.1 ⟨h,g⟩else 0
def El (a:Lnk) (h:Nat):Int:=if g:h<24 then a.2.2.2 ⟨h,g⟩else 0
theorem Lw {f:Fin 24→Int} {h:Nat} (g:h<24):(List.ofFn f)[h]?=some (f ⟨h,g⟩):=by
 rw [List.getElem?_eq_getElem (by rw[List.length_ofFn];exact g),List.getElem_ofFn]
theorem jP {f g:Fin 24→Int} (h:List.ofFn f=List.ofFn g):f=g:=funext fun i=>by
 have h1:=Lw (f:=f) i.2
 have h2:=Lw (f:=g) i.2
 rw [h,h2]at h1
 exact (Option.some.inj h1).symm
theorem Hr {f:Fin 24→Int}:((List.ofFn f).map (PV.int .i64)).length=24:=by rw[List.length_map,List.length_ofFn]
theorem BO {a:Lnk}:(lkC a).length=50:=by simp[lkC]
theorem EV {a:Lnk}:(lkC a)[0]?=some (I a.1):=by simp[lkC]
theorem IA {a:Lnk}:(lkC a)[1]?=some (I a.2.1):=by simp[lkC]
theorem CD {a:Lnk} {h:Nat} (g:h<24):(lkC a)[2+h]?=some (I (DL a h)):=by
 simp only[lkC,DL,g,dite_true]
 rw [show 2+h=h+1+1 by omega,List.getElem?_cons_succ,List.getElem?_cons_succ,List.getElem?_append_left (by rw[Hr];exact g),List.getElem?_map,Lw g];rfl
theorem Ee {a:Lnk} {h:Nat} (g:h<24):(lkC a)[26+h]?=some (I (El a h)):=by
 simp only[lkC,El,g,dite_true]
 rw [show 26+h=(24+h)+1+1 by omega,List.getElem?_cons_succ,List.getElem?_cons_succ,List.getElem?_append_right (by rw[Hr];omega),Hr,show 24+h-24=h by omega,List.getElem?_map,Lw g];rfl
theorem CI {a:Lnk}:List.take 50 (lkC a)=lkC a:=List.take_of_length_le (by rw[BO];omega)
theorem vI {a b:Lnk} (h:lkC a=lkC b):a=b:=by
 simp only[lkC,List.cons.injEq,PV.int.injEq,true_and]at h
 obtain ⟨h1,h2,h3⟩:=h
 obtain ⟨h4,h5⟩:=List.append_inj h3 (by rw[Hr,Hr])
 have e:∀ {f g:Fin 24→Int},(List.ofFn f).map (PV.int .i64)=(List.ofFn g).map (PV.int .i64)→f=g:=fun h=>jP (FJ (fun x y h=>by injection h) h)
 exact Prod.ext h1 (Prod.ext h2 (Prod.ext (e h4) (e h5)))
theorem WI {a:Lnk}:AS (lkC a)=true:=by
 have : ∀ {l:List Int} {r:List PV},AS r=true→AS (l.map (PV.int .i64)++r)=true:=by
  intro l r h
  induction l with
  | nil=>exact h
  | cons a l ih=>simp[Du,Fp,ih]
 simp only[lkC,Du,Fp,Bool.true_and]
 exact this (Hk)
theorem Bs {l:List Lnk} {k:Nat} (h:k<l.length):nth (l.map VX) k=.agg (lkC (l.getD k dL)):=Eh dL h
theorem Ab {l:List Lnk}:AS (l.map VX)=true:=HZ fun x=>by rw[JA,WI]
theorem AG {l m:List Lnk}:(l.map VX=m.map VX)=(l=m):=H0 fun x y h=>by
 simp only[PV.agg.injEq]at h
 exact vI h
theorem AJ {l:List Snd} {k:Nat} (h:k<l.length):nth (l.map GQ) k=.agg [I (l.getD k dS).1,I (l.getD k dS).2.1,I (l.getD k dS).2.2]:=Eh dS h
theorem Ac {l:List Snd}:AS (l.map GQ)=true:=HZ fun x=>by simp[JA,Du,Fp,FK]
theorem AU {l m:List Snd}:(l.map GQ=m.map GQ)=(l=m):=H0 fun x y h=>by
 simp only[PV.agg.injEq,List.cons.injEq,true_and,and_true,PV.int.injEq]at h
 exact Prod.ext h.1 (Prod.ext h.2.1 h.2.2)
end Sim
