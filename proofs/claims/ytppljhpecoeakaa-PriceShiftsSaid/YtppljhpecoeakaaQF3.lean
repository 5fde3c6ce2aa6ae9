/- What functions of this seat compute, by values: contracts (lemmas of the statement's proof, under the conditions that each names). -/
import Init
set_option linter.unusedVariables false
set_option linter.unusedSimpArgs false
namespace Sim
def Aj (f:Nat→Int):Nat→Int
 | 0=>0
 | n+1=>Aj f n+f n
theorem Af {f g:Nat→Int}:∀ {n},(∀i,i<n→f i=g i)→Aj f n=Aj g n
 | 0,_=>rfl
 | n+1,h=>by rw[Aj,Aj,Af fun i hi=>h i (by omega),h n (by omega)]
theorem BK {f g:Nat→Int}:∀ {n},Aj (fun i=>f i+g i) n=Aj f n+Aj g n
 | 0=>rfl
 | n+1=>by rw[Aj,Aj,Aj,BK];omega
theorem B0 {f g:Nat→Int}:∀ {n},Aj (fun i=>f i-g i) n=Aj f n-Aj g n
 | 0=>rfl
 | n+1=>by rw[Aj,Aj,Aj,B0];omega
theorem Hs {f:Nat→Int} {c:Int}:∀ {n},Aj (fun i=>c*f i) n=c*Aj f n
 | 0=>by simp[Aj]
 | n+1=>by rw[Aj,Aj,Hs,Int.mul_add]
theorem Bp {f:Nat→Int}:∀ {n},(∀i,i<n→0≤f i)→0≤Aj f n
 | 0,_=>Int.le_refl _
 | n+1,h=>by
  have := Bp (f:=f) (n:=n) fun i hi=>h i (by omega)
  have := h n (by omega)
  rw [Aj];omega
theorem Ct {f g:Nat→Int}:∀ {n},(∀i,i<n→f i≤g i)→Aj f n≤Aj g n
 | 0,_=>Int.le_refl _
 | n+1,h=>by
  have := Ct (f:=f) (g:=g) (n:=n) fun i hi=>h i (by omega)
  have := h n (by omega)
  rw [Aj,Aj];omega
theorem A3 {f:Nat→Int}:∀ {n},(∀i,i<n→f i=0)→Aj f n=0
 | 0,_=>rfl
 | n+1,h=>by rw[Aj,A3 fun i hi=>h i (by omega),h n (by omega)];rfl
theorem B7 {a:Nat} {v:Int}:∀ {n},Aj (fun i=>if a=i then v else 0) n=if a<n then v else 0
 | 0=>by simp[Aj]
 | n+1=>by
  rw [Aj,B7]
  repeat' split
  all_goals omega
theorem DE {f:Nat→Nat→Int} {m:Nat}:∀ {n},Aj (fun i=>Aj (fun j=>f i j) m) n=Aj (fun j=>Aj (fun i=>f i j) n) m
 | 0=>by rw[Aj,A3];intro i _;rfl
 | n+1=>by
  rw [Aj,DE,←BK]
  exact Af fun i _=>rfl
structure FN where
 N : Nat
 m : Nat
 s : Nat
 t : Nat
 fr : Nat→Nat
 to : Nat→Nat
 cap : Nat→Int
 pr : Nat→Int
structure FN.WF (G:FN):Prop where
 s : G.s<G.N
 t : G.t<G.N
 ar : ∀i,i<G.m→G.fr i<G.N∧G.to i<G.N
namespace FN
variable {G:FN}
def net (G:FN) (f:Nat→Int) (v:Nat):Int:=Aj (fun i=>(if G.fr i=v then f i else 0)-(if G.to i=v then f i else 0)) G.m
def cost (G:FN) (f:Nat→Int):Int:=Aj (fun i=>G.pr i*f i) G.m
def Val (G:FN) (f:Nat→Int) (val:Int):Prop:=∀v,v<G.N→G.net f v=(if G.s=v then val else 0)-(if G.t=v then val else 0)
structure Flow (G:FN) (f:Nat→Int) (val:Int):Prop where
 nn : ∀i,i<G.m→0≤f i
 le : ∀i,i<G.m→f i≤G.cap i
 val : Val G f val
theorem dual (w:G.WF) {f:Nat→Int} {val:Int} (h:G.Val f val) (φ:Nat→Int):Aj (fun i=>(φ (G.fr i)-φ (G.to i))*f i) G.m=(φ G.s-φ G.t)*val:=by
 have e1:Aj (fun i=>(φ (G.fr i)-φ (G.to i))*f i) G.m=Aj (fun i=>Aj (fun v=>φ v*((if G.fr i=v then f i else 0)-(if G.to i=v then f i else 0))) G.N) G.m:=by
  refine Af fun i hi=>?_
  obtain ⟨h1,h2⟩:=w.ar i hi
  have e:(fun v=>φ v*((if G.fr i=v then f i else 0)-(if G.to i=v then f i else 0)))=fun v=>(if G.fr i=v then φ (G.fr i)*f i else 0)-(if G.to i=v then φ (G.to i)*f i else 0):=by
   funext v
   rw [Int.mul_sub]
   congr 1
   ·split
    ·rename_i e;rw[e]
    ·simp
   ·split
    ·rename_i e;rw[e]
    ·simp
  rw [e,B0,B7,B7,if_pos h1,if_pos h2,Int.sub_mul]
 rw [e1,DE]
 have e2:Aj (fun v=>Aj (fun i=>φ v*((if G.fr i=v then f i else 0)-(if G.to i=v then f i else 0))) G.m) G.N=Aj (fun v=>(if G.s=v then φ G.s*val else 0)-(if G.t=v then φ G.t*val else 0)) G.N:=by
  refine Af fun v hv=>?_
  have := h v hv
  unfold net at this
  rw [Hs,this,Int.mul_sub]
  congr 1
  ·split
   ·rename_i e;rw[e]
   ·simp
  ·split
   ·rename_i e;rw[e]
   ·simp
 rw [e2,B0,B7,B7,if_pos w.s,if_pos w.t,Int.sub_mul]
def Pot (G:FN) (g:Nat→Int) (φ:Nat→Int):Prop:=∀i,i<G.m→(g i<G.cap i→0≤G.pr i+φ (G.fr i)-φ (G.to i))∧(0<g i→G.pr i+φ (G.fr i)-φ (G.to i)≤0)
theorem opt (w:G.WF) {g h:Nat→Int} {a b c:Int} {φ:Nat→Int} (hg:G.Flow g a) (hp:G.Pot g φ) (hn:∀i,i<G.m→0≤h i) (hl:∀i,i<G.m→h i≤c*G.cap i) (hv:G.Val h b) (hb:b=c*a) (hc:0≤c):c*G.cost g≤G.cost h:=by
 have d1:=dual w hg.val φ
 have d2:=dual w hv φ
 have key:0≤Aj (fun i=>(G.pr i+φ (G.fr i)-φ (G.to i))*(h i-c*g i)) G.m:=by
  refine Bp fun i hi=>?_
  obtain ⟨p1,p2⟩:=hp i hi
  have g0:=hg.nn i hi
  have g1:=hg.le i hi
  have h0:=hn i hi
  have h1:=hl i hi
  generalize G.pr i+φ (G.fr i)-φ (G.to i)=r at *
  by_cases r0:r=0
  ·rw [r0,Int.zero_mul];exact Int.le_refl _
  by_cases r1:0<r
  ·have e:g i=0:=by
    apply Classical.byContradiction
    intro hh
    have := p2 (by omega)
    omega
   rw [e,Int.mul_zero,Int.sub_zero]
   exact Int.mul_nonneg (by omega) h0
  ·have e:g i=G.cap i:=by
    apply Classical.byContradiction
    intro hh
    have := p1 (by omega)
    omega
   rw [e]
   exact Int.mul_nonneg_of_nonpos_of_nonpos (by omega) (by omega)
 have e:Aj (fun i=>(G.pr i+φ (G.fr i)-φ (G.to i))*(h i-c*g i)) G.m=(G.cost h+(φ G.s-φ G.t)*b)-c*(G.cost g+(φ G.s-φ G.t)*a):=by
  unfold cost
  rw [←d1,←d2,←BK,←BK,←Hs,←B0]
  refine Af fun i _=>?_
  generalize φ (G.fr i)=x
  generalize φ (G.to i)=y
  generalize G.pr i=p
  rw [show p+x-y=p+(x-y) by omega]
  generalize x-y=z
  rw [Int.mul_sub,Int.add_mul,Int.add_mul,Int.mul_add,←Int.mul_assoc,←Int.mul_assoc,←Int.mul_assoc,←Int.mul_assoc,Int.mul_comm p c,Int.mul_comm z c]
 rw [e,hb,Int.mul_add]at key
 have e2:(φ G.s-φ G.t)*(c*a)=c*((φ G.s-φ G.t)*a):=by
  rw [←Int.mul_assoc,Int.mul_comm _ c,Int.mul_assoc]
 omega
theorem cut (w:G.WF) {g h:Nat→Int} {a b:Int} {S:Nat→Prop} [DecidablePred S] (hg:G.Val g a) (hh:G.Flow h b) (s:S G.s) (t:¬S G.t) (ho:∀i,i<G.m→S (G.fr i)→¬S (G.to i)→G.cap i≤g i) (hi:∀i,i<G.m→¬S (G.fr i)→S (G.to i)→g i≤0):b≤a:=by
 have d1:=dual w hg fun v=>if S v then 1 else 0
 have d2:=dual w hh.val fun v=>if S v then 1 else 0
 rw [if_pos s,if_neg t]at d1 d2
 have : Aj (fun i=>((if S (G.fr i)then 1 else 0)-(if S (G.to i)then 1 else 0))*h i) G.m≤Aj (fun i=>((if S (G.fr i)then 1 else 0)-(if S (G.to i)then 1 else 0))*g i) G.m:=by
  refine Ct fun i him=>?_
  have h0:=hh.nn i him
  have h1:=hh.le i him
  by_cases c1:S (G.fr i) <;> by_cases c2:S (G.to i)
  ·rw [if_pos c1,if_pos c2];simp
  ·have := ho i him c1 c2
   rw [if_pos c1,if_neg c2];omega
  ·have := hi i him c1 c2
   rw [if_neg c1,if_pos c2];omega
  ·rw [if_neg c1,if_neg c2];simp
 omega
end FN
end Sim
namespace Sim
abbrev It:=Int×Nat
abbrev dI:It:=(0,0)
def swp (l:List It) (i j:Nat):List It:=(l.set i (l.getD j dI)).set j (l.getD i dI)
def kI (l:List It) (i:Nat):Int:=(l.getD i dI).1
def upF:Nat→List It→Nat→List It
 | 0,l,_=>l
 | n+1,l,j=>if (j-1) / 2=j∨¬kI l j<kI l ((j-1) / 2)then l else upF n (swp l ((j-1) / 2) j) ((j-1) / 2)
def chC (l:List It) (i n:Nat):Nat:=if 2*i+2<n∧kI l (2*i+2)<kI l (2*i+1)then 2*i+2 else 2*i+1
def DF:Nat→List It→Nat→Nat→List It
 | 0,l,_,_=>l
 | f+1,l,i,n=>if n≤2*i+1∨¬kI l (chC l i n)<kI l i then l else DF f (swp l i (chC l i n)) (chC l i n) n
def FU (l:List It) (x:It):List It:=upF (l.length+1) (l ++ [x]) l.length
def D0 (l:List It):List It:=DF l.length (swp l 0 (l.length-1)) 0 (l.length-1)
def Bb (l:List It):It:=(D0 l).getD (l.length-1) dI
def EA (l:List It):List It:=(D0 l).take (l.length-1)
theorem SU {l:List It} {i k:Nat} {x:It} (h:i<l.length):(l.set i x).getD k dI=if i=k then x else l.getD k dI:=by
 rw [List.getD_eq_getElem?_getD,List.getElem?_set]
 by_cases e:i=k
 ·subst e;simp[h]
 ·simp [e]
theorem BC {l:List It} {i j:Nat}:(swp l i j).length=l.length:=by simp[swp]
theorem Wb {l:List It} {i j k:Nat} (hi:i<l.length) (hj:j<l.length):(swp l i j).getD k dI=if k=j then l.getD i dI else if k=i then l.getD j dI else l.getD k dI:=by
 unfold swp
 rw [SU (by simpa using hj),SU hi]
 by_cases e:k=j
 ·subst e;simp
 ·have e':¬j=k:=fun g=>e g.symm
  rw [if_neg e',if_neg e]
  by_cases e2:k=i
  ·subst e2;simp
  ·have e2':¬i=k:=fun g=>e2 g.symm
   rw [if_neg e2',if_neg e2]
theorem Ht {l:List It} {i j k:Nat} (hi:i<l.length) (hj:j<l.length):kI (swp l i j) k=if k=j then kI l i else if k=i then kI l j else kI l k:=by
 unfold kI
 rw [Wb hi hj]
 repeat' split
 all_goals rfl
theorem JN {l:List It} {i j:Nat} (hi:i<l.length) (hj:j<l.length):(swp l i j).Perm l:=by
 rw [List.perm_iff_count]
 intro a
 unfold swp
 have e1:l.getD i dI=l[i]:=by simp[hi]
 have e2:l.getD j dI=l[j]:=by simp[hj]
 rw [e1,e2]
 rw [List.count_set (by simpa using hj),List.count_set hi,List.getElem_set]
 have c1:∀(k:Nat) (h:k<l.length),l[k]=a→0<l.count a:=fun k h e=>by
  rw [←e];exact List.count_pos_iff.2 (List.getElem_mem h)
 have g1:=c1 i hi
 have g2:=c1 j hj
 by_cases e:i=j
 ·subst e
  simp only[if_true,beq_iff_eq]
  by_cases h:l[i]=a
  ·have := g1 h
   simp only[h,if_true]
   omega
  ·simp only[h,if_false]
   omega
 ·rw [if_neg e]
  simp only[beq_iff_eq]
  by_cases h1:l[i]=a <;> by_cases h2:l[j]=a <;> simp only[h1,h2,if_true,if_false] <;> (try have:=g1 h1) <;> (try have:=g2 h2) <;> omega
def Lp (l:List It) (n:Nat):Prop:=∀k,0<k→k<n→kI l ((k-1) / 2)≤kI l k
def Ahn (l:List It) (j:Nat):Prop:=(∀k,0<k→k<l.length→k≠j→kI l ((k-1) / 2)≤kI l k)∧∀c,0<c→c<l.length→(c-1) / 2=j→0<j→kI l ((j-1) / 2)≤kI l c
theorem kB:∀ {f:Nat} {l:List It} {j:Nat},(upF f l j).length=l.length
 | 0,_,_=>rfl
 | f+1,l,j=>by
  simp only[upF]
  split
  ·rfl
  ·rw [kB,BC]
theorem WS:∀ {f:Nat} {l:List It} {j:Nat},j<l.length→(upF f l j).Perm l
 | 0,_,_,_=>.refl _
 | f+1,l,j,h=>by
  simp only[upF]
  split
  ·exact .refl _
  ·exact (WS (by rw[BC];omega)).trans (JN (by omega) h)
theorem WT:∀ {f:Nat} {l:List It} {j:Nat},j<f→j<l.length→Ahn l j→Lp (upF f l j) l.length
 | 0,_,_,h,_,_=>absurd h (by omega)
 | f + 1,l,j,hf,hj,h=>by
  obtain ⟨h1,h2⟩:=h
  simp only[upF]
  by_cases c:(j-1) / 2=j∨¬kI l j<kI l ((j-1) / 2)
  ·rw [if_pos c]
   intro k k0 kl
   by_cases e:k=j
   ·subst e
    rcases c with c | c
    ·omega
    ·omega
   ·exact h1 k k0 kl e
  ·rw [if_neg c]
   have hi:(j-1) / 2<j:=by omega
   have hlt:kI l j<kI l ((j-1) / 2):=by
    apply Classical.byContradiction
    intro g;exact c (.inr g)
   have hil:(j-1) / 2<l.length:=by omega
   have := WT (f:=f) (l:=swp l ((j-1) / 2) j) (j:=(j-1) / 2) (by omega) (by rw[BC];omega) ?_
   ·rwa [BC]at this
   ·generalize hii:(j-1) / 2=i at *
    refine ⟨fun k k0 kl ke=>?_,fun c c0 cl ce i0=>?_⟩
    ·rw [BC]at kl
     rw [Ht hil hj,Ht hil hj]
     by_cases e1:k=j
     ·subst e1
      rw [if_neg (show ¬(k-1) / 2=k by omega),if_pos hii,if_pos rfl]
      omega
     ·rw [if_neg e1,if_neg ke]
      have hk:=h1 k k0 kl e1
      by_cases e2:(k-1) / 2=j
      ·rw [if_pos e2]
       exact h2 k k0 kl e2 (by omega)
      ·rw [if_neg e2]
       by_cases e3:(k-1) / 2=i
       ·rw [if_pos e3]
        rw [e3]at hk
        omega
       ·rw [if_neg e3];exact hk
    ·rw [BC]at cl
     rw [Ht hil hj,Ht hil hj,if_neg (show ¬(i-1) / 2=j by omega),if_neg (show ¬(i-1) / 2=i by omega)]
     have hp:=h1 i i0 hil (by omega)
     by_cases e1:c=j
     ·rw [if_pos e1];exact hp
     ·rw [if_neg e1]
      by_cases e2:c=i
      ·omega
      ·rw [if_neg e2]
       have := h1 c c0 cl e1
       rw [ce]at this
       omega
theorem Mu {l:List It} {x:It}:(FU l x).length=l.length+1:=by
 unfold FU
 rw [kB];simp
theorem push_perm {l:List It} {x:It}:(FU l x).Perm (x::l) :=
 (WS (by simp)).trans (List.perm_append_comm (l₁:=l) (l₂ := [x]))
theorem Wc {l:List It} {x:It} {k:Nat} (h:k<l.length):kI (l ++ [x]) k=kI l k:=by
 unfold kI
 rw [List.getD_eq_getElem?_getD,List.getElem?_append_left h,←List.getD_eq_getElem?_getD]
theorem aQ {l:List It} {x:It} (h:Lp l l.length):Lp (FU l x) (FU l x).length:=by
 have e:(l ++ [x]).length=l.length+1:=by simp
 have := WT (f:=l.length+1) (l:=l ++ [x]) (j:=l.length) (by omega) (by omega) ⟨fun k k0 kl ke=>?_,fun c c0 cl ce j0=>?_⟩
 ·rw [Mu,←e];exact this
 ·rw [e]at kl
  rw [Wc (by omega),Wc (by omega)]
  exact h k k0 (by omega)
 ·rw [e]at cl;omega
def Aho (l:List It) (i n:Nat):Prop:=(∀k,0<k→k<n→(k-1) / 2≠i→kI l ((k-1) / 2)≤kI l k)∧∀c,0<c→c<n→(c-1) / 2=i→0<i→kI l ((i-1) / 2)≤kI l c
theorem JO:∀ {f:Nat} {l:List It} {i n:Nat},(DF f l i n).length=l.length
 | 0,_,_,_=>rfl
 | f+1,l,i,n=>by
  simp only[DF]
  split
  ·rfl
  ·rw [JO,BC]
theorem kC {l:List It} {i n:Nat} (h:2*i+1<n):(chC l i n=2*i+1∨chC l i n=2*i+2)∧chC l i n<n:=by
 unfold chC
 split
 ·exact ⟨.inr rfl,by omega⟩
 ·exact ⟨.inl rfl,h⟩
theorem Ou:∀ {f:Nat} {l:List It} {i n:Nat},i<n→n≤l.length→(DF f l i n).Perm l
 | 0,_,_,_,_,_=>.refl _
 | f+1,l,i,n,h,hn=>by
  simp only[DF]
  by_cases c:n≤2*i+1∨¬kI l (chC l i n)<kI l i
  ·rw [if_pos c]
  ·rw [if_neg c]
   obtain ⟨h1,h2⟩:=kC (l:=l) (i:=i) (n:=n) (by omega)
   exact (Ou h2 (by rw[BC];exact hn)).trans (JN (by omega) (by omega))
theorem Mv:∀ {f:Nat} {l:List It} {i n k:Nat},i<n→n≤l.length→n≤k→(DF f l i n).getD k dI=l.getD k dI
 | 0,_,_,_,_,_,_,_=>rfl
 | f+1,l,i,n,k,h,hn,hk=>by
  simp only[DF]
  by_cases c:n≤2*i+1∨¬kI l (chC l i n)<kI l i
  ·rw [if_pos c]
  ·rw [if_neg c]
   obtain ⟨h1,h2⟩:=kC (l:=l) (i:=i) (n:=n) (by omega)
   rw [Mv h2 (by rw[BC];exact hn) hk,Wb (by omega) (by omega),if_neg (by omega),if_neg (by omega)]
theorem Ov:∀ {f:Nat} {l:List It} {i n:Nat},n≤i+f→i<n→n≤l.length→Aho l i n→Lp (DF f l i n) n
 | 0,_,_,_,h,h',_,_=>absurd h (by omega)
 | f + 1,l,i,n,hf,hin,hn,h=>by
  obtain ⟨h1,h2⟩:=h
  simp only[DF]
  have hsm:2*i+1<n→(kI l (chC l i n)≤kI l (2*i+1)∧(2*i+2<n→kI l (chC l i n)≤kI l (2*i+2))):=fun h=>by
   unfold chC
   split
   ·rename_i c;exact⟨by omega,fun _=>Int.le_refl _⟩
   ·rename_i c
    refine ⟨Int.le_refl _,fun g=>?_⟩
    have : ¬kI l (2*i+2)<kI l (2*i+1):=fun x=>c ⟨g,x⟩
    omega
  by_cases c:n≤2*i+1∨¬kI l (chC l i n)<kI l i
  ·rw [if_pos c]
   intro k k0 kn
   by_cases e:(k-1) / 2=i
   ·have e2:k=2*i+1∨k=2*i+2:=by omega
    rcases c with c | c
    ·omega
    ·obtain ⟨s1,s2⟩:=hsm (by omega)
     rw [e]
     rcases e2 with e2 | e2
     ·subst e2;omega
     ·subst e2
      have := s2 kn
      omega
   ·exact h1 k k0 kn e
  ·rw [if_neg c]
   have hlt:kI l (chC l i n)<kI l i:=by
    apply Classical.byContradiction
    intro g;exact c (.inr g)
   have h21:2*i+1<n:=by
    apply Classical.byContradiction
    intro g;exact c (.inl (by omega))
   obtain ⟨s1,s2⟩:=hsm h21
   obtain ⟨g1,g2⟩:=kC (l:=l) (i:=i) (n:=n) h21
   generalize chC l i n=j at *
   have hil:i<l.length:=by omega
   have hjl:j<l.length:=by omega
   refine Ov (by omega) g2 (by rw[BC];exact hn) ⟨fun k k0 kn ke=>?_,fun c' c0 cn ce j0=>?_⟩
   ·rw [Ht hil hjl,Ht hil hjl]
    rw [if_neg ke]
    by_cases e1:(k-1) / 2=i
    ·rw [if_pos e1]
     by_cases e2:k=j
     ·rw [if_pos e2];omega
     ·rw [if_neg e2,if_neg (show ¬k=i by omega)]
      have e3:k=2*i+1∨k=2*i+2:=by omega
      rcases e3 with e3 | e3
      ·subst e3;exact s1
      ·subst e3;exact s2 kn
    ·rw [if_neg e1]
     by_cases e2:k=j
     ·omega
     ·rw [if_neg e2]
      by_cases e3:k=i
      ·rw [if_pos e3]
       subst e3
       exact h2 j (by omega) g2 (by omega) k0
      ·rw [if_neg e3];exact h1 k k0 kn e1
   ·rw [Ht hil hjl,Ht hil hjl]
    have hp:(j-1) / 2=i:=by omega
    rw [hp,if_neg (show ¬i=j by omega),if_pos rfl,if_neg (show ¬c'=j by omega),if_neg (show ¬c'=i by omega)]
    have := h1 c' c0 cn (by omega)
    rw [ce]at this
    exact this
theorem kE {l:List It} (h:Lp l l.length):∀k,k<l.length→kI l 0≤kI l k:=by
 intro k
 induction k using Nat.strongRecOn with
 | _ k ih =>
  intro hk
  by_cases e:k=0
  ·subst e;exact Int.le_refl _
  ·exact Int.le_trans (ih ((k-1) / 2) (by omega) (by omega)) (h k (by omega) hk)
theorem Hu {l:List It} (h0:0<l.length) (h:Lp l l.length):Bb l=l.getD 0 dI∧(Bb l::EA l).Perm l∧Lp (EA l) (EA l).length∧(EA l).length=l.length-1∧∀x∈l,(Bb l).1≤x.1:=by
 have hsw:∀k,(swp l 0 (l.length-1)).getD k dI=if k=l.length-1 then l.getD 0 dI else if k=0 then l.getD (l.length-1) dI else l.getD k dI:=fun k=>Wb h0 (by omega)
 have hpl:(D0 l).length=l.length:=by unfold D0;rw[JO,BC]
 have hlen:(EA l).length=l.length-1:=by unfold EA;rw[List.length_take,hpl];omega
 have hX:Bb l=l.getD 0 dI:=by
  unfold Bb D0
  rcases Nat.lt_or_ge 1 l.length with h1 | h1
  ·rw [Mv (by omega) (by rw[BC];omega) (Nat.le_refl _),hsw,if_pos rfl]
  ·have e:l.length=1:=by omega
   rw [e]
   have := hsw 0
   simp only[DF,e]
   rw [e]at this
   simpa using this
 have hperm:(D0 l).Perm l:=by
  unfold D0
  rcases Nat.lt_or_ge 1 l.length with h1 | h1
  ·exact (Ou (by omega) (by rw[BC];omega)).trans (JN h0 (by omega))
  ·have e:l.length=1:=by omega
   rw [e]
   simp only[DF]
   exact JN h0 (by omega)
 have hsplit:D0 l=EA l ++ [Bb l]:=by
  unfold EA Bb
  generalize D0 l=p at *
  have : l.length-1<p.length:=by omega
  rw [show p.take (l.length-1) ++ [p.getD (l.length-1) dI]=p.take (l.length-1+1) by rw[List.take_succ_eq_append_getElem this];simp[this]]
  rw [List.take_of_length_le (by omega)]
 refine ⟨hX,?_,?_,hlen,?_⟩
 ·have : (Bb l::EA l).Perm (EA l ++ [Bb l]):=(List.perm_append_comm (l₁:=EA l) (l₂ := [Bb l])).symm
  rw [←hsplit]at this
  exact this.trans hperm
 ·rw [hlen]
  intro k k0 kn
  have hat:∀j,j<l.length-1→kI (EA l) j=kI (D0 l) j:=fun j hj=>by
   rw [hsplit];exact (Wc (by rw[hlen];exact hj)).symm
  rw [hat _ (by omega),hat _ kn]
  unfold D0
  refine Ov (l:=swp l 0 (l.length-1)) (i:=0) (n:=l.length-1) (by omega) (by omega) (by rw[BC];omega) ⟨fun k k0 kn ke=>?_,fun c c0 cn ce j0=>absurd j0 (by omega)⟩ k k0 kn
  have hkk:∀j,0<j→j<l.length-1→kI (swp l 0 (l.length-1)) j=kI l j:=fun j j0 jl=>by
   unfold kI;rw[hsw,if_neg (by omega),if_neg (by omega)]
  rw [hkk _ (by omega) (by omega),hkk _ k0 kn]
  exact h k k0 (by omega)
 ·intro x hx
  obtain ⟨k,hk,rfl⟩:=List.getElem_of_mem hx
  have := kE h k hk
  unfold kI at this
  rw [hX]
  rwa [show l.getD k dI=l[k] by simp[hk]]at this
end Sim
namespace Sim
abbrev Arc:=Nat×Nat×Int×Int
abbrev dA:Arc:=(0,0,0,0)
def aF (A:List Arc) (k:Nat):Nat:=(A.getD k dA).1
def aT (A:List Arc) (k:Nat):Nat:=(A.getD k dA).2.1
def aL (A:List Arc) (k:Nat):Int:=(A.getD k dA).2.2.1
def aP (A:List Arc) (k:Nat):Int:=(A.getD k dA).2.2.2
structure DS where
 far : List Int
 last : List Int
 done : List Bool
 q : List It
def nxt (A:List Arc) (lv:List Int) (d:Int) (k:Nat):Int:=d+aP A k+lv.getD (aF A k) 0-lv.getD (aT A k) 0
def rlx (A:List Arc) (lv:List Int) (d:Int) (st:DS) (k:Nat):DS :=
 if 0<aL A k∧(st.far.getD (aT A k) 0<0∨nxt A lv d k<st.far.getD (aT A k) 0)then⟨st.far.set (aT A k) (nxt A lv d k),st.last.set (aT A k) k,st.done,FU st.q (nxt A lv d k,aT A k)⟩else st
def ID (st:DS):DS:=⟨st.far,st.last,st.done.set (Bb st.q).2 true,EA st.q⟩
def En (A:List Arc) (out:List (List Nat)) (lv:List Int) (st:DS):DS :=
 if st.done.getD (Bb st.q).2 true=true then⟨st.far,st.last,st.done,EA st.q⟩else (out.getD (Bb st.q).2 []).foldl (rlx A lv (Bb st.q).1) (ID st)
def Iq (A:List Arc) (out:List (List Nat)) (lv:List Int):Nat→DS→DS
 | 0,st=>st
 | f+1,st=>if st.q.length=0 then st else Iq A out lv f (En A out lv st)
inductive Rch (A:List Arc) (s:Nat):Nat→Prop
 | src:Rch A s s
 | arc (k:Nat) (hk:k<A.length) (hl:0<aL A k) (h:Rch A s (aF A k)):Rch A s (aT A k)
structure Gr (A:List Arc) (out:List (List Nat)) (lv:List Int) (N s:Nat):Prop where
 ar : ∀k,k<A.length→aF A k<N∧aT A k<N
 out1 : ∀u,u<N→∀k∈out.getD u [],k<A.length∧aF A k=u
 out2 : ∀k,k<A.length→k∈out.getD (aF A k) []
 lo : out.length=N
 ll : lv.length=N
 sN : s<N
 pr : ∀k,k<A.length → -1000000≤aP A k∧aP A k≤1000000
 rc : ∀k,k<A.length→0<aL A k→Rch A s (aF A k)→0≤aP A k+lv.getD (aF A k) 0-lv.getD (aT A k) 0
 l0 : lv.getD s 0=0
theorem C7 {l:List Int} {i k:Nat} {x:Int} (h:i<l.length):(l.set i x).getD k 0=if k=i then x else l.getD k 0:=by
 rw [List.getD_eq_getElem?_getD,List.getElem?_set]
 by_cases e:k=i
 ·subst e;simp[h]
 ·have e':¬i=k:=fun g=>e g.symm
  rw [if_neg e',if_neg e,List.getD_eq_getElem?_getD]
theorem Fc {l:List Bool} {i k:Nat} {x d:Bool} (h:i<l.length):(l.set i x).getD k d=if k=i then x else l.getD k d:=by
 rw [List.getD_eq_getElem?_getD,List.getElem?_set]
 by_cases e:k=i
 ·subst e;simp[h]
 ·have e':¬i=k:=fun g=>e g.symm
  rw [if_neg e',if_neg e,List.getD_eq_getElem?_getD]
structure DI (A:List Arc) (lv:List Int) (N s:Nat) (st:DS) (d:Int) (E:Nat→Prop) (dp:Nat→Nat):Prop where
 lf : st.far.length=N
 ll : st.last.length=N
 ld : st.done.length=N
 hp : Lp st.q st.q.length
 rch : ∀v,v<N→0≤st.far.getD v 0→Rch A s v
 qin : ∀x∈st.q,x.2<N∧0≤st.far.getD x.2 0∧st.far.getD x.2 0≤x.1
 cur : ∀v,v<N→0≤st.far.getD v 0→st.done.getD v true=false→(st.far.getD v 0,v)∈st.q
 dn : ∀v,v<N→st.done.getD v true=true→0≤st.far.getD v 0∧st.far.getD v 0≤d
 low : ∀x∈st.q,d≤x.1
 clo : ∀k,k<A.length→st.done.getD (aF A k) true=true→0<aL A k→E k→0≤st.far.getD (aT A k) 0∧st.far.getD (aT A k) 0≤nxt A lv (st.far.getD (aF A k) 0) k
 src : st.far.getD s 0=0
 d0 : 0≤d
 par : ∀v,v<N→0≤st.far.getD v 0→v≠s→∃k:Nat,st.last.getD v 0=(k:Int)∧k<A.length∧0<aL A k∧aT A k=v∧st.done.getD (aF A k) true=true∧st.far.getD v 0=nxt A lv (st.far.getD (aF A k) 0) k∧dp v=dp (aF A k)+1
 dps : dp s=0
 dpu : ∀v,v<N→0≤st.far.getD v 0→dp v≤st.done.count true
 dpd : ∀v,v<N→st.done.getD v true=true→dp v<st.done.count true
 mag : ∀v,v<N→0≤st.far.getD v 0 → -(1000000*(dp v:Int))≤st.far.getD v 0+lv.getD v 0∧st.far.getD v 0+lv.getD v 0≤1000000*(dp v:Int)
section
variable {A:List Arc} {out:List (List Nat)} {lv:List Int} {N s:Nat}
theorem kF (G:Gr A out lv N s) {st:DS} {d:Int} {E:Nat→Prop} {dp:Nat→Nat} {k:Nat} (I:DI A lv N s st d E dp) (hk:k<A.length) (hu:st.done.getD (aF A k) true=true) (hd:st.far.getD (aF A k) 0=d) :
  ∃ dp',DI A lv N s (rlx A lv d st k) d (fun j=>E j∨j=k) dp'∧(rlx A lv d st k).done=st.done∧(∀v,v<N→st.done.getD v true=true→(rlx A lv d st k).far.getD v 0=st.far.getD v 0)∧(rlx A lv d st k).q.length≤st.q.length+1:=by
 obtain ⟨uN,vN⟩:=G.ar k hk
 by_cases c:0<aL A k∧(st.far.getD (aT A k) 0<0∨nxt A lv d k<st.far.getD (aT A k) 0)
 case neg =>
  have e:rlx A lv d st k=st:=by unfold rlx;rw[if_neg c]
  rw [e]
  refine ⟨dp,⟨I.lf,I.ll,I.ld,I.hp,I.rch,I.qin,I.cur,I.dn,I.low,fun j hj h1 h2 h3=>?_,I.src,I.d0,I.par,I.dps,I.dpu,I.dpd,I.mag⟩,rfl,fun _ _ _=>rfl,by omega⟩
  rcases h3 with h3 | h3
  ·exact I.clo j hj h1 h2 h3
  ·subst h3
   have : ¬(st.far.getD (aT A j) 0<0∨nxt A lv d j<st.far.getD (aT A j) 0):=fun g=>c ⟨h2,g⟩
   rw [hd];omega
 obtain ⟨cl,cf⟩:=c
 have e:rlx A lv d st k=⟨st.far.set (aT A k) (nxt A lv d k),st.last.set (aT A k) k,st.done,FU st.q (nxt A lv d k,aT A k)⟩:=by unfold rlx;rw[if_pos ⟨cl,cf⟩]
 have hrc:=G.rc k hk cl (I.rch _ uN (I.dn _ uN hu).1)
 have hnx:d≤nxt A lv d k:=by unfold nxt;omega
 have hd0:=I.d0
 have hvd:¬st.done.getD (aT A k) true=true:=fun g=>by
  have := I.dn _ vN g
  omega
 have hvd':st.done.getD (aT A k) true=false:=by simpa using hvd
 have hvs:aT A k≠s:=fun g=>by
  have := I.src
  rw [←g]at this
  omega
 have huv:aF A k≠aT A k:=fun g=>hvd (by rw[←g];exact hu)
 have hfa:∀w,(st.far.set (aT A k) (nxt A lv d k)).getD w 0=if w=aT A k then nxt A lv d k else st.far.getD w 0:=fun w=>C7 (by rw[I.lf];exact vN)
 have hla:∀w,(st.last.set (aT A k) (k:Int)).getD w 0=if w=aT A k then (k:Int)else st.last.getD w 0:=fun w=>C7 (by rw[I.ll];exact vN)
 have hne:∀w,st.done.getD w true=true→¬w=aT A k:=fun w hw g=>hvd (by rw[←g];exact hw)
 have hle:∀w,0≤st.far.getD w 0→(if w=aT A k then nxt A lv d k else st.far.getD w 0)≤st.far.getD w 0:=fun w hw=>by
  split
  ·rename_i g;subst g;omega
  ·exact Int.le_refl _
 rw [e]
 refine ⟨fun w=>if w=aT A k then dp (aF A k)+1 else dp w,⟨by simpa using I.lf,by simpa using I.ll,I.ld,aQ I.hp,fun v hv h=>?_,fun x hx=>?_,fun v hv h1 h2=>?_,fun v hv h=>?_,fun x hx=>?_,fun j hj h1 h2 h3=>?_,?_,hd0,fun v hv h1 h2=>?_,?_,fun v hv h=>?_,fun v hv h=>?_,fun v hv h=>?_⟩,rfl,fun v hv h=>?_,?_⟩ <;> (try dsimp only at *)
 ·by_cases g:v=aT A k
  ·subst g;exact .arc k hk cl (I.rch _ uN (I.dn _ uN hu).1)
  ·rw [hfa,if_neg g]at h;exact I.rch v hv h
 ·rw [hfa]
  rcases List.mem_cons.1 (push_perm.mem_iff.1 hx)with g | g
  ·subst g;dsimp only;rw[if_pos rfl];exact⟨vN,by omega,Int.le_refl _⟩
  ·obtain ⟨g1,g2,g3⟩:=I.qin x g
   refine ⟨g1,?_,Int.le_trans (hle _ g2) g3⟩
   split
   ·omega
   ·exact g2
 ·rw [hfa]
  by_cases g:v=aT A k
  ·subst g;rw[if_pos rfl];exact push_perm.mem_iff.2 (by simp)
  ·rw [hfa,if_neg g]at h1
   rw [if_neg g]
   exact push_perm.mem_iff.2 (List.mem_cons_of_mem _ (I.cur v hv h1 h2))
 ·rw [hfa,if_neg (hne v h)];exact I.dn v hv h
 ·rcases List.mem_cons.1 (push_perm.mem_iff.1 hx)with g | g
  ·subst g;exact hnx
  ·exact I.low x g
 ·rw [hfa,hfa,if_neg (hne _ h1)]
  rcases h3 with h3 | h3
  ·obtain ⟨g1,g2⟩:=I.clo j hj h1 h2 h3
   refine ⟨?_,Int.le_trans (hle _ g1) g2⟩
   split
   ·omega
   ·exact g1
  ·subst h3;rw[if_pos rfl,hd];exact⟨by omega,Int.le_refl _⟩
 ·rw [hfa,if_neg (fun g=>hvs g.symm)];exact I.src
 ·by_cases g:v=aT A k
  ·subst g
   refine ⟨k,by rw[hla,if_pos rfl],hk,cl,rfl,hu,?_,?_⟩
   ·rw [hfa,hfa,if_pos rfl,if_neg huv,hd]
   ·rw [if_pos rfl,if_neg huv]
  ·rw [hfa,if_neg g]at h1
   obtain ⟨j,g1,g2,g3,g4,g5,g6,g7⟩:=I.par v hv h1 h2
   refine ⟨j,by rw[hla,if_neg g];exact g1,g2,g3,g4,g5,?_,?_⟩
   ·rw [hfa,hfa,if_neg g,if_neg (hne _ g5)];exact g6
   ·rw [if_neg g,if_neg (hne _ g5)];exact g7
 ·rw [if_neg (fun g=>hvs g.symm)];exact I.dps
 ·by_cases g:v=aT A k
  ·rw [if_pos g]
   have := I.dpd _ uN hu
   omega
  ·rw [hfa,if_neg g]at h
   rw [if_neg g];exact I.dpu v hv h
 ·rw [if_neg (hne v h)];exact I.dpd v hv h
 ·by_cases g:v=aT A k
  ·rw [hfa,if_pos g,if_pos g]
   have h1:=I.mag _ uN (I.dn _ uN hu).1
   have h2:=G.pr k hk
   rw [hd]at h1
   subst g
   have e1:nxt A lv d k+lv.getD (aT A k) 0=d+lv.getD (aF A k) 0+aP A k:=by unfold nxt;omega
   rw [e1]
   have e2:(((dp (aF A k)+1:Nat)):Int)=(dp (aF A k):Int)+1:=by omega
   rw [e2];omega
  ·rw [hfa,if_neg g]at h
   rw [hfa,if_neg g,if_neg g];exact I.mag v hv h
 ·rw [hfa,if_neg (hne v h)]
 ·rw [Mu];exact Nat.le_refl _
theorem WU (G:Gr A out lv N s):∀ {l:List Nat} {st:DS} {d:Int} {E:Nat→Prop} {dp:Nat→Nat} {u:Nat},DI A lv N s st d E dp→(∀k∈l,k<A.length∧aF A k=u)→st.done.getD u true=true→u<N→st.far.getD u 0=d →
  ∃ dp',DI A lv N s (l.foldl (rlx A lv d) st) d (fun j=>E j∨j∈l) dp'∧(l.foldl (rlx A lv d) st).done=st.done∧(l.foldl (rlx A lv d) st).q.length≤st.q.length+l.length∧(l.foldl (rlx A lv d) st).far.getD u 0=d
 | [],st,d,E,dp,u,I,_,hu,_,hd=>by
  refine ⟨dp,?_,rfl,by simp,hd⟩
  have : (fun j=>E j∨j∈([]:List Nat))=E:=by funext j;simp
  rw [this];exact I
 | k::l,st,d,E,dp,u,I,h,hu,uN,hd=>by
  obtain ⟨hk,hku⟩:=h k (by simp)
  obtain ⟨dp1,I1,e1,e2,e3⟩:=kF G I hk (by rw[hku];exact hu) (by rw[hku];exact hd)
  obtain ⟨dp2,I2,f1,f2,f3⟩:=WU G (l:=l) I1 (fun j hj=>h j (by simp[hj])) (by rw[e1];exact hu) uN (by rw[e2 u uN hu];exact hd)
  refine ⟨dp2,?_,f1.trans e1,?_,f3⟩
  ·have : (fun j=>E j∨j∈k::l)=fun j=>(E j∨j=k)∨j∈l:=by
    funext j;simp only[List.mem_cons,or_assoc]
   rw [this];exact I2
  ·rw [List.foldl_cons,List.length_cons];omega
def Ql (out:List (List Nat)) (done:List Bool):Nat→Nat
 | 0=>0
 | v+1=>Ql out done v+if done.getD v true=true then 0 else (out.getD v []).length
def EB (out:List (List Nat)) (st:DS):Nat:=st.q.length+Ql out st.done out.length
theorem JP {out:List (List Nat)} {done:List Bool} {u:Nat} (hu:u<done.length) (h:done.getD u true=false):∀n,Ql out (done.set u true) n+(if u<n then (out.getD u []).length else 0)=Ql out done n
 | 0=>by simp[Ql]
 | n+1=>by
  have ih:=JP (out:=out) hu h n
  simp only[Ql]
  rw [Fc hu]
  by_cases e:n=u
  ·subst e
   rw [if_neg (show ¬n<n by omega)]at ih
   rw [if_pos (show n<n+1 by omega),if_pos rfl,h]
   simp; omega
  ·rw [if_neg e]
   by_cases c:u<n
   ·rw [if_pos c]at ih
    rw [if_pos (show u<n+1 by omega)];omega
   ·rw [if_neg c]at ih
    rw [if_neg (show ¬u<n+1 by omega)];omega
theorem Qm {st:DS} {d:Int} {E:Nat→Prop} {dp:Nat→Nat} (I:DI A lv N s st d E dp) (hq:0<st.q.length) :
  (Bb st.q).2<N∧(st.done.getD (Bb st.q).2 true=false→(Bb st.q).1=st.far.getD (Bb st.q).2 0)∧(Bb st.q)∈st.q∧(∀x,x∈EA st.q→x∈st.q)∧∀x∈st.q,x=Bb st.q∨x∈EA st.q:=by
 obtain ⟨h1,h2,h3,h4,h5⟩:=Hu hq I.hp
 have hm:Bb st.q∈st.q:=h2.mem_iff.1 (by simp)
 obtain ⟨g1,g2,g3⟩:=I.qin _ hm
 refine ⟨g1,fun h=>?_,hm,fun x hx=>h2.mem_iff.1 (List.mem_cons_of_mem _ hx),fun x hx=>List.mem_cons.1 (h2.mem_iff.2 hx)⟩
 have := h5 _ (I.cur _ g1 g2 h)
 dsimp only at this
 omega
theorem wJ {st:DS} {d:Int} {dp:Nat→Nat} (I:DI A lv N s st d (fun _=>True) dp) (hq:0<st.q.length) (h:st.done.getD (Bb st.q).2 true=true):DI A lv N s ⟨st.far,st.last,st.done,EA st.q⟩ d (fun _=>True) dp:=by
 obtain ⟨h1,h2,h3,h4,h5⟩:=Hu hq I.hp
 obtain ⟨p1,p2,p3,p4,p5⟩:=Qm I hq
 refine ⟨I.lf,I.ll,I.ld,h3,I.rch,fun x hx=>I.qin x (p4 x hx),fun v hv g1 g2=>?_,I.dn,fun x hx=>I.low x (p4 x hx),I.clo,I.src,I.d0,I.par,I.dps,I.dpu,I.dpd,I.mag⟩
 rcases p5 _ (I.cur v hv g1 g2)with g | g
 ·exfalso
  dsimp only at g2
  rw [←g]at h
  dsimp only at h
  rw [h]at g2;cases g2
 ·exact g
theorem WV {st:DS} {d:Int} {dp:Nat→Nat} (I:DI A lv N s st d (fun _=>True) dp) (hq:0<st.q.length) (h:st.done.getD (Bb st.q).2 true=false):DI A lv N s (ID st) (Bb st.q).1 (fun k=>¬aF A k=(Bb st.q).2) dp:=by
 obtain ⟨h1,h2,h3,h4,h5⟩:=Hu hq I.hp
 obtain ⟨p1,p2,p3,p4,p5⟩:=Qm I hq
 have hx1:=p2 h
 have hlow:=I.low _ p3
 have hd0:=I.d0
 have hdn:∀w,(st.done.set (Bb st.q).2 true).getD w true=if w=(Bb st.q).2 then true else st.done.getD w true:=fun w=>Fc (by rw[I.ld];exact p1)
 have hcnt:(st.done.set (Bb st.q).2 true).count true=st.done.count true+1:=by
  have hl:(Bb st.q).2<st.done.length:=by rw[I.ld];exact p1
  have e:st.done[(Bb st.q).2]=false:=by
   have := h
   rw [List.getD_eq_getElem?_getD,List.getElem?_eq_getElem hl]at this
   exact this
  rw [List.count_set hl,e];simp
 unfold ID
 refine ⟨I.lf,I.ll,by simpa using I.ld,h3,I.rch,fun x hx=>I.qin x (p4 x hx),fun v hv g1 g2=>?_,fun v hv g=>?_,fun x hx=>h5 x (p4 x hx),fun k hk g1 g2 g3=>?_,I.src,by omega,fun v hv g1 g2=>?_,I.dps,fun v hv g=>?_,fun v hv g=>?_,I.mag⟩ <;> dsimp only at *
 ·rw [hdn]at g2
  by_cases e:v=(Bb st.q).2
  ·rw [if_pos e]at g2;cases g2
  ·rw [if_neg e]at g2
   rcases p5 _ (I.cur v hv g1 g2)with g | g
   ·exact absurd (congrArg Prod.snd g) e
   ·exact g
 ·rw [hdn]at g
  by_cases e:v=(Bb st.q).2
  ·subst e
   obtain ⟨q1,q2,q3⟩:=I.qin _ p3
   omega
  ·rw [if_neg e]at g
   have := I.dn v hv g
   omega
 ·rw [hdn,if_neg g3]at g1
  exact I.clo k hk g1 g2 trivial
 ·obtain ⟨k,a1,a2,a3,a4,a5,a6,a7⟩:=I.par v hv g1 g2
  refine ⟨k,a1,a2,a3,a4,?_,a6,a7⟩
  rw [hdn];split
  ·rfl
  ·exact a5
 ·rw [hcnt]
  have := I.dpu v hv g
  omega
 ·rw [hcnt]
  rw [hdn]at g
  by_cases e:v=(Bb st.q).2
  ·obtain ⟨q1,q2,q3⟩:=I.qin _ p3
   have := I.dpu _ q1 q2
   rw [e];omega
  ·rw [if_neg e]at g
   have := I.dpd v hv g
   omega
theorem Qn (G:Gr A out lv N s) {st:DS} {d:Int} {dp:Nat→Nat} (I:DI A lv N s st d (fun _=>True) dp) (hq:0<st.q.length):(∃d' dp',DI A lv N s (En A out lv st) d' (fun _=>True) dp')∧EB out (En A out lv st)<EB out st:=by
 obtain ⟨p1,p2,p3,p4,p5⟩:=Qm I hq
 have hpl:=(Hu hq I.hp).2.2.2.1
 by_cases h:st.done.getD (Bb st.q).2 true=true
 ·have e:En A out lv st=⟨st.far,st.last,st.done,EA st.q⟩:=by unfold En;rw[if_pos h]
  rw [e]
  refine ⟨⟨d,dp,wJ I hq h⟩,?_⟩
  unfold EB;dsimp only;omega
 ·have h':st.done.getD (Bb st.q).2 true=false:=by simpa using h
  have e:En A out lv st=(out.getD (Bb st.q).2 []).foldl (rlx A lv (Bb st.q).1) (ID st):=by unfold En;rw[if_neg h]
  have hu:(ID st).done.getD (Bb st.q).2 true=true:=by
   unfold ID;dsimp only
   rw [Fc (by rw[I.ld];exact p1),if_pos rfl]
  obtain ⟨dp',I',e1,e2,_⟩:=WU G (l:=out.getD (Bb st.q).2 []) (WV I hq h') (G.out1 _ p1) hu p1 (p2 h').symm
  rw [e]
  refine ⟨⟨(Bb st.q).1,dp',?_⟩,?_⟩
  ·have I2:=I'
   refine ⟨I2.lf,I2.ll,I2.ld,I2.hp,I2.rch,I2.qin,I2.cur,I2.dn,I2.low,fun k hk g1 g2 _=>I2.clo k hk g1 g2 ?_,I2.src,I2.d0,I2.par,I2.dps,I2.dpu,I2.dpd,I2.mag⟩
   by_cases c:aF A k=(Bb st.q).2
   ·exact .inr (by rw[←c];exact G.out2 k hk)
   ·exact .inl c
  ·unfold EB
   rw [e1]
   have := JP (out:=out) (u:=(Bb st.q).2) (by rw[I.ld];exact p1) h' out.length
   rw [if_pos (by rw[G.lo];exact p1)]at this
   unfold ID at *
   dsimp only at *
   omega
theorem kG (G:Gr A out lv N s):∀ {f:Nat} {st:DS} {d:Int} {dp:Nat→Nat},EB out st≤f→DI A lv N s st d (fun _=>True) dp→(Iq A out lv f st).q.length=0∧∃d' dp',DI A lv N s (Iq A out lv f st) d' (fun _=>True) dp'
 | 0,st,d,dp,hf,I=>by
  unfold EB at hf
  exact ⟨by simp only[Iq];omega,d,dp,I⟩
 | f+1,st,d,dp,hf,I=>by
  simp only[Iq]
  by_cases c:st.q.length=0
  ·rw [if_pos c];exact⟨c,d,dp,I⟩
  ·rw [if_neg c]
   obtain ⟨⟨d',dp',I'⟩,hm⟩:=Qn G I (by omega)
   exact kG G (by omega) I'
theorem SV (G:Gr A out lv N s):∀ {f g:Nat} {st:DS} {d:Int} {dp:Nat→Nat},EB out st≤f→EB out st≤g→DI A lv N s st d (fun _=>True) dp→Iq A out lv f st=Iq A out lv g st
 | 0,0,_,_,_,_,_,_=>rfl
 | 0,g+1,st,d,dp,hf,hg,I=>by
  unfold EB at hf
  simp only[Iq]
  rw [if_pos (by omega)]
 | f+1,0,st,d,dp,hf,hg,I=>by
  unfold EB at hg
  simp only[Iq]
  rw [if_pos (by omega)]
 | f+1,g+1,st,d,dp,hf,hg,I=>by
  simp only[Iq]
  by_cases c:st.q.length=0
  ·rw [if_pos c,if_pos c]
  ·rw [if_neg c,if_neg c]
   obtain ⟨⟨d',dp',I'⟩,hm⟩:=Qn G I (by omega)
   exact SV G (by omega) (by omega) I'
end
end Sim
