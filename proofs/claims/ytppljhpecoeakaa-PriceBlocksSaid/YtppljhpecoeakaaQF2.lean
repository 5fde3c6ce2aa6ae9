/- What functions of this seat compute, by values: contracts (lemmas of the statement's proof, under the conditions that each names). -/
import Init
set_option linter.unusedVariables false
namespace Sim
def Ai (f:Nat→Int):Nat→Int
 | 0=>0
 | n+1=>Ai f n+f n
theorem Af {f g:Nat→Int}:∀ {n},(∀i,i<n→f i=g i)→Ai f n=Ai g n
 | 0,_=>rfl
 | n+1,h=>by rw[Ai,Ai,Af fun i hi=>h i (by omega),h n (by omega)]
theorem BH {f g:Nat→Int}:∀ {n},Ai (fun i=>f i+g i) n=Ai f n+Ai g n
 | 0=>rfl
 | n+1=>by rw[Ai,Ai,Ai,BH];omega
theorem BX {f g:Nat→Int}:∀ {n},Ai (fun i=>f i-g i) n=Ai f n-Ai g n
 | 0=>rfl
 | n+1=>by rw[Ai,Ai,Ai,BX];omega
theorem Ho {f:Nat→Int} {c:Int}:∀ {n},Ai (fun i=>c*f i) n=c*Ai f n
 | 0=>by simp[Ai]
 | n+1=>by rw[Ai,Ai,Ho,Int.mul_add]
theorem Bn {f:Nat→Int}:∀ {n},(∀i,i<n→0≤f i)→0≤Ai f n
 | 0,_=>Int.le_refl _
 | n+1,h=>by
  have := Bn (f:=f) (n:=n) fun i hi=>h i (by omega)
  have := h n (by omega)
  rw [Ai];omega
theorem CO {f g:Nat→Int}:∀ {n},(∀i,i<n→f i≤g i)→Ai f n≤Ai g n
 | 0,_=>Int.le_refl _
 | n+1,h=>by
  have := CO (f:=f) (g:=g) (n:=n) fun i hi=>h i (by omega)
  have := h n (by omega)
  rw [Ai,Ai];omega
theorem A3 {f:Nat→Int}:∀ {n},(∀i,i<n→f i=0)→Ai f n=0
 | 0,_=>rfl
 | n+1,h=>by rw[Ai,A3 fun i hi=>h i (by omega),h n (by omega)];rfl
theorem B2 {a:Nat} {v:Int}:∀ {n},Ai (fun i=>if a=i then v else 0) n=if a<n then v else 0
 | 0=>by simp[Ai]
 | n+1=>by
  rw [Ai,B2]
  repeat' split
  all_goals omega
theorem DF {f:Nat→Nat→Int} {m:Nat}:∀ {n},Ai (fun i=>Ai (fun j=>f i j) m) n=Ai (fun j=>Ai (fun i=>f i j) n) m
 | 0=>by rw[Ai,A3];intro i _;rfl
 | n+1=>by
  rw [Ai,DF,←BH]
  exact Af fun i _=>rfl
structure FN where
 N : Nat
 m : Nat
 s : Nat
 t : Nat
 fr : Nat→Nat
 to : Nat→Nat
 cap : Nat→Int
 pr : Nat→Int
structure FN.WF (G:FN):Prop where
 s : G.s<G.N
 t : G.t<G.N
 ar : ∀i,i<G.m→G.fr i<G.N∧G.to i<G.N
namespace FN
variable {G:FN}
def net (G:FN) (f:Nat→Int) (v:Nat):Int:=Ai (fun i=>(if G.fr i=v then f i else 0)-(if G.to i=v then f i else 0)) G.m
def cost (G:FN) (f:Nat→Int):Int:=Ai (fun i=>G.pr i*f i) G.m
def Val (G:FN) (f:Nat→Int) (val:Int):Prop:=∀v,v<G.N→G.net f v=(if G.s=v then val else 0)-(if G.t=v then val else 0)
structure Flow (G:FN) (f:Nat→Int) (val:Int):Prop where
 nn : ∀i,i<G.m→0≤f i
 le : ∀i,i<G.m→f i≤G.cap i
 val : Val G f val
theorem dual (w:G.WF) {f:Nat→Int} {val:Int} (h:G.Val f val) (φ:Nat→Int):Ai (fun i=>(φ (G.fr i)-φ (G.to i))*f i) G.m=(φ G.s-φ G.t)*val:=by
 have e1:Ai (fun i=>(φ (G.fr i)-φ (G.to i))*f i) G.m=Ai (fun i=>Ai (fun v=>φ v*((if G.fr i=v then f i else 0)-(if G.to i=v then f i else 0))) G.N) G.m:=by
  refine Af fun i hi=>?_
  obtain ⟨h1,h2⟩:=w.ar i hi
  have e:(fun v=>φ v*((if G.fr i=v then f i else 0)-(if G.to i=v then f i else 0)))=fun v=>(if G.fr i=v then φ (G.fr i)*f i else 0)-(if G.to i=v then φ (G.to i)*f i else 0):=by
   funext v
   rw [Int.mul_sub]
   congr 1
   ·split
    ·rename_i e;rw[e]
    ·simp
   ·split
    ·rename_i e;rw[e]
    ·simp
  rw [e,BX,B2,B2,if_pos h1,if_pos h2,Int.sub_mul]
 rw [e1,DF]
 have e2:Ai (fun v=>Ai (fun i=>φ v*((if G.fr i=v then f i else 0)-(if G.to i=v then f i else 0))) G.m) G.N=Ai (fun v=>(if G.s=v then φ G.s*val else 0)-(if G.t=v then φ G.t*val else 0)) G.N:=by
  refine Af fun v hv=>?_
  have := h v hv
  unfold net at this
  rw [Ho,this,Int.mul_sub]
  congr 1
  ·split
   ·rename_i e;rw[e]
   ·simp
  ·split
   ·rename_i e;rw[e]
   ·simp
 rw [e2,BX,B2,B2,if_pos w.s,if_pos w.t,Int.sub_mul]
def Pot (G:FN) (g:Nat→Int) (φ:Nat→Int):Prop:=∀i,i<G.m→(g i<G.cap i→0≤G.pr i+φ (G.fr i)-φ (G.to i))∧(0<g i→G.pr i+φ (G.fr i)-φ (G.to i)≤0)
theorem opt (w:G.WF) {g h:Nat→Int} {a b c:Int} {φ:Nat→Int} (hg:G.Flow g a) (hp:G.Pot g φ) (hn:∀i,i<G.m→0≤h i) (hl:∀i,i<G.m→h i≤c*G.cap i) (hv:G.Val h b) (hb:b=c*a) (hc:0≤c):c*G.cost g≤G.cost h:=by
 have d1:=dual w hg.val φ
 have d2:=dual w hv φ
 have key:0≤Ai (fun i=>(G.pr i+φ (G.fr i)-φ (G.to i))*(h i-c*g i)) G.m:=by
  refine Bn fun i hi=>?_
  obtain ⟨p1,p2⟩:=hp i hi
  have g0:=hg.nn i hi
  have g1:=hg.le i hi
  have h0:=hn i hi
  have h1:=hl i hi
  generalize G.pr i+φ (G.fr i)-φ (G.to i)=r at *
  by_cases r0:r=0
  ·rw [r0,Int.zero_mul];exact Int.le_refl _
  by_cases r1:0<r
  ·have e:g i=0:=by
    apply Classical.byContradiction
    intro hh
    have := p2 (by omega)
    omega
   rw [e,Int.mul_zero,Int.sub_zero]
   exact Int.mul_nonneg (by omega) h0
  ·have e:g i=G.cap i:=by
    apply Classical.byContradiction
    intro hh
    have := p1 (by omega)
    omega
   rw [e]
   exact Int.mul_nonneg_of_nonpos_of_nonpos (by omega) (by omega)
 have e:Ai (fun i=>(G.pr i+φ (G.fr i)-φ (G.to i))*(h i-c*g i)) G.m=(G.cost h+(φ G.s-φ G.t)*b)-c*(G.cost g+(φ G.s-φ G.t)*a):=by
  unfold cost
  rw [←d1,←d2,←BH,←BH,←Ho,←BX]
  refine Af fun i _=>?_
  generalize φ (G.fr i)=x
  generalize φ (G.to i)=y
  generalize G.pr i=p
  rw [show p+x-y=p+(x-y) by omega]
  generalize x-y=z
  rw [Int.mul_sub,Int.add_mul,Int.add_mul,Int.mul_add,←Int.mul_assoc,←Int.mul_assoc,←Int.mul_assoc,←Int.mul_assoc,Int.mul_comm p c,Int.mul_comm z c]
 rw [e,hb,Int.mul_add]at key
 have e2:(φ G.s-φ G.t)*(c*a)=c*((φ G.s-φ G.t)*a):=by
  rw [←Int.mul_assoc,Int.mul_comm _ c,Int.mul_assoc]
 omega
theorem cut (w:G.WF) {g h:Nat→Int} {a b:Int} {S:Nat→Prop} [DecidablePred S] (hg:G.Val g a) (hh:G.Flow h b) (s:S G.s) (t:¬S G.t) (ho:∀i,i<G.m→S (G.fr i)→¬S (G.to i)→G.cap i≤g i) (hi:∀i,i<G.m→¬S (G.fr i)→S (G.to i)→g i≤0):b≤a:=by
 have d1:=dual w hg fun v=>if S v then 1 else 0
 have d2:=dual w hh.val fun v=>if S v then 1 else 0
 rw [if_pos s,if_neg t]at d1 d2
 have : Ai (fun i=>((if S (G.fr i)then 1 else 0)-(if S (G.to i)then 1 else 0))*h i) G.m≤Ai (fun i=>((if S (G.fr i)then 1 else 0)-(if S (G.to i)then 1 else 0))*g i) G.m:=by
  refine CO fun i him=>?_
  have h0:=hh.nn i him
  have h1:=hh.le i him
  by_cases c1:S (G.fr i) <;> by_cases c2:S (G.to i)
  ·rw [if_pos c1,if_pos c2];simp
  ·have := ho i him c1 c2
   rw [if_pos c1,if_neg c2];omega
  ·have := hi i him c1 c2
   rw [if_neg c1,if_pos c2];omega
  ·rw [if_neg c1,if_neg c2];simp
 omega
end FN
end Sim
namespace Sim
abbrev It:=Int×Nat
abbrev dI:It:=(0,0)
def swp (l:List It) (i j:Nat):List It:=(l.set i (l.getD j dI)).set j (l.getD i dI)
def kI (l:List It) (i:Nat):Int:=(l.getD i dI).1
def upF:Nat→List It→Nat→List It
 | 0,l,_=>l
 | n+1,l,j=>if (j-1) / 2=j∨¬kI l j<kI l ((j-1) / 2)then l else upF n (swp l ((j-1) / 2) j) ((j-1) / 2)
def chC (l:List It) (i n:Nat):Nat:=if 2*i+2<n∧kI l (2*i+2)<kI l (2*i+1)then 2*i+2 else 2*i+1
def DG:Nat→List It→Nat→Nat→List It
 | 0,l,_,_=>l
 | f+1,l,i,n=>if n≤2*i+1∨¬kI l (chC l i n)<kI l i then l else DG f (swp l i (chC l i n)) (chC l i n) n
def FO (l:List It) (x:It):List It:=upF (l.length+1) (l ++ [x]) l.length
def DZ (l:List It):List It:=DG l.length (swp l 0 (l.length-1)) 0 (l.length-1)
def A9 (l:List It):It:=(DZ l).getD (l.length-1) dI
def Et (l:List It):List It:=(DZ l).take (l.length-1)
theorem SE {l:List It} {i k:Nat} {x:It} (h:i<l.length):(l.set i x).getD k dI=if i=k then x else l.getD k dI:=by
 rw [List.getD_eq_getElem?_getD,List.getElem?_set]
 by_cases e:i=k
 ·subst e;simp[h]
 ·simp [e]
theorem Bz {l:List It} {i j:Nat}:(swp l i j).length=l.length:=by simp[swp]
theorem VS {l:List It} {i j k:Nat} (hi:i<l.length) (hj:j<l.length):(swp l i j).getD k dI=if k=j then l.getD i dI else if k=i then l.getD j dI else l.getD k dI:=by
 unfold swp
 rw [SE (by simpa using hj),SE hi]
 by_cases e:k=j
 ·subst e;simp
 ·have e':¬j=k:=fun g=>e g.symm
  rw [if_neg e',if_neg e]
  by_cases e2:k=i
  ·subst e2;simp
  ·have e2':¬i=k:=fun g=>e2 g.symm
   rw [if_neg e2',if_neg e2]
theorem Hp {l:List It} {i j k:Nat} (hi:i<l.length) (hj:j<l.length):kI (swp l i j) k=if k=j then kI l i else if k=i then kI l j else kI l k:=by
 unfold kI
 rw [VS hi hj]
 repeat' split
 all_goals rfl
theorem JG {l:List It} {i j:Nat} (hi:i<l.length) (hj:j<l.length):(swp l i j).Perm l:=by
 rw [List.perm_iff_count]
 intro a
 unfold swp
 have e1:l.getD i dI=l[i]:=by simp[hi]
 have e2:l.getD j dI=l[j]:=by simp[hj]
 rw [e1,e2]
 rw [List.count_set (by simpa using hj),List.count_set hi,List.getElem_set]
 have c1:∀(k:Nat) (h:k<l.length),l[k]=a→0<l.count a:=fun k h e=>by
  rw [←e];exact List.count_pos_iff.2 (List.getElem_mem h)
 have g1:=c1 i hi
 have g2:=c1 j hj
 by_cases e:i=j
 ·subst e
  simp only[if_true,beq_iff_eq]
  by_cases h:l[i]=a
  ·have := g1 h
   simp only[h,if_true]
   omega
  ·simp only[h,if_false]
   omega
 ·rw [if_neg e]
  simp only[beq_iff_eq]
  by_cases h1:l[i]=a <;> by_cases h2:l[j]=a <;> simp only[h1,h2,if_true,if_false] <;> (try have:=g1 h1) <;> (try have:=g2 h2) <;> omega
def Lh (l:List It) (n:Nat):Prop:=∀k,0<k→k<n→kI l ((k-1) / 2)≤kI l k
def Aga (l:List It) (j:Nat):Prop:=(∀k,0<k→k<l.length→k≠j→kI l ((k-1) / 2)≤kI l k)∧∀c,0<c→c<l.length→(c-1) / 2=j→0<j→kI l ((j-1) / 2)≤kI l c
theorem jA:∀ {f:Nat} {l:List It} {j:Nat},(upF f l j).length=l.length
 | 0,_,_=>rfl
 | f+1,l,j=>by
  simp only[upF]
  split
  ·rfl
  ·rw [jA,Bz]
theorem Wy:∀ {f:Nat} {l:List It} {j:Nat},j<l.length→(upF f l j).Perm l
 | 0,_,_,_=>.refl _
 | f+1,l,j,h=>by
  simp only[upF]
  split
  ·exact .refl _
  ·exact (Wy (by rw[Bz];omega)).trans (JG (by omega) h)
theorem Wz:∀ {f:Nat} {l:List It} {j:Nat},j<f→j<l.length→Aga l j→Lh (upF f l j) l.length
 | 0,_,_,h,_,_=>absurd h (by omega)
 | f + 1,l,j,hf,hj,h=>by
  obtain ⟨h1,h2⟩:=h
  simp only[upF]
  by_cases c:(j-1) / 2=j∨¬kI l j<kI l ((j-1) / 2)
  ·rw [if_pos c]
   intro k k0 kl
   by_cases e:k=j
   ·subst e
    rcases c with c | c
    ·omega
    ·omega
   ·exact h1 k k0 kl e
  ·rw [if_neg c]
   have hi:(j-1) / 2<j:=by omega
   have hlt:kI l j<kI l ((j-1) / 2):=by
    apply Classical.byContradiction
    intro g;exact c (.inr g)
   have hil:(j-1) / 2<l.length:=by omega
   have := Wz (f:=f) (l:=swp l ((j-1) / 2) j) (j:=(j-1) / 2) (by omega) (by rw[Bz];omega) ?_
   ·rwa [Bz]at this
   ·generalize hii:(j-1) / 2=i at *
    refine ⟨fun k k0 kl ke=>?_,fun c c0 cl ce i0=>?_⟩
    ·rw [Bz]at kl
     rw [Hp hil hj,Hp hil hj]
     by_cases e1:k=j
     ·subst e1
      rw [if_neg (show ¬(k-1) / 2=k by omega),if_pos hii,if_pos rfl]
      omega
     ·rw [if_neg e1,if_neg ke]
      have hk:=h1 k k0 kl e1
      by_cases e2:(k-1) / 2=j
      ·rw [if_pos e2]
       exact h2 k k0 kl e2 (by omega)
      ·rw [if_neg e2]
       by_cases e3:(k-1) / 2=i
       ·rw [if_pos e3]
        rw [e3]at hk
        omega
       ·rw [if_neg e3];exact hk
    ·rw [Bz]at cl
     rw [Hp hil hj,Hp hil hj,if_neg (show ¬(i-1) / 2=j by omega),if_neg (show ¬(i-1) / 2=i by omega)]
     have hp:=h1 i i0 hil (by omega)
     by_cases e1:c=j
     ·rw [if_pos e1];exact hp
     ·rw [if_neg e1]
      by_cases e2:c=i
      ·omega
      ·rw [if_neg e2]
       have := h1 c c0 cl e1
       rw [ce]at this
       omega
theorem Mp {l:List It} {x:It}:(FO l x).length=l.length+1:=by
 unfold FO
 rw [jA];simp
theorem push_perm {l:List It} {x:It}:(FO l x).Perm (x::l) :=
 (Wy (by simp)).trans (List.perm_append_comm (l₁:=l) (l₂ := [x]))
theorem VT {l:List It} {x:It} {k:Nat} (h:k<l.length):kI (l ++ [x]) k=kI l k:=by
 unfold kI
 rw [List.getD_eq_getElem?_getD,List.getElem?_append_left h,←List.getD_eq_getElem?_getD]
theorem ZZ {l:List It} {x:It} (h:Lh l l.length):Lh (FO l x) (FO l x).length:=by
 have e:(l ++ [x]).length=l.length+1:=by simp
 have := Wz (f:=l.length+1) (l:=l ++ [x]) (j:=l.length) (by omega) (by omega) ⟨fun k k0 kl ke=>?_,fun c c0 cl ce j0=>?_⟩
 ·rw [Mp,←e];exact this
 ·rw [e]at kl
  rw [VT (by omega),VT (by omega)]
  exact h k k0 (by omega)
 ·rw [e]at cl;omega
def Agb (l:List It) (i n:Nat):Prop:=(∀k,0<k→k<n→(k-1) / 2≠i→kI l ((k-1) / 2)≤kI l k)∧∀c,0<c→c<n→(c-1) / 2=i→0<i→kI l ((i-1) / 2)≤kI l c
theorem JH:∀ {f:Nat} {l:List It} {i n:Nat},(DG f l i n).length=l.length
 | 0,_,_,_=>rfl
 | f+1,l,i,n=>by
  simp only[DG]
  split
  ·rfl
  ·rw [JH,Bz]
theorem jB {l:List It} {i n:Nat} (h:2*i+1<n):(chC l i n=2*i+1∨chC l i n=2*i+2)∧chC l i n<n:=by
 unfold chC
 split
 ·exact ⟨.inr rfl,by omega⟩
 ·exact ⟨.inl rfl,h⟩
theorem Oh:∀ {f:Nat} {l:List It} {i n:Nat},i<n→n≤l.length→(DG f l i n).Perm l
 | 0,_,_,_,_,_=>.refl _
 | f+1,l,i,n,h,hn=>by
  simp only[DG]
  by_cases c:n≤2*i+1∨¬kI l (chC l i n)<kI l i
  ·rw [if_pos c]
  ·rw [if_neg c]
   obtain ⟨h1,h2⟩:=jB (l:=l) (i:=i) (n:=n) (by omega)
   exact (Oh h2 (by rw[Bz];exact hn)).trans (JG (by omega) (by omega))
theorem Mq:∀ {f:Nat} {l:List It} {i n k:Nat},i<n→n≤l.length→n≤k→(DG f l i n).getD k dI=l.getD k dI
 | 0,_,_,_,_,_,_,_=>rfl
 | f+1,l,i,n,k,h,hn,hk=>by
  simp only[DG]
  by_cases c:n≤2*i+1∨¬kI l (chC l i n)<kI l i
  ·rw [if_pos c]
  ·rw [if_neg c]
   obtain ⟨h1,h2⟩:=jB (l:=l) (i:=i) (n:=n) (by omega)
   rw [Mq h2 (by rw[Bz];exact hn) hk,VS (by omega) (by omega),if_neg (by omega),if_neg (by omega)]
theorem Oi:∀ {f:Nat} {l:List It} {i n:Nat},n≤i+f→i<n→n≤l.length→Agb l i n→Lh (DG f l i n) n
 | 0,_,_,_,h,h',_,_=>absurd h (by omega)
 | f + 1,l,i,n,hf,hin,hn,h=>by
  obtain ⟨h1,h2⟩:=h
  simp only[DG]
  have hsm:2*i+1<n→(kI l (chC l i n)≤kI l (2*i+1)∧(2*i+2<n→kI l (chC l i n)≤kI l (2*i+2))):=fun h=>by
   unfold chC
   split
   ·rename_i c;exact⟨by omega,fun _=>Int.le_refl _⟩
   ·rename_i c
    refine ⟨Int.le_refl _,fun g=>?_⟩
    have : ¬kI l (2*i+2)<kI l (2*i+1):=fun x=>c ⟨g,x⟩
    omega
  by_cases c:n≤2*i+1∨¬kI l (chC l i n)<kI l i
  ·rw [if_pos c]
   intro k k0 kn
   by_cases e:(k-1) / 2=i
   ·have e2:k=2*i+1∨k=2*i+2:=by omega
    rcases c with c | c
    ·omega
    ·obtain ⟨s1,s2⟩:=hsm (by omega)
     rw [e]
     rcases e2 with e2 | e2
     ·subst e2;omega
     ·subst e2
      have := s2 kn
      omega
   ·exact h1 k k0 kn e
  ·rw [if_neg c]
   have hlt:kI l (chC l i n)<kI l i:=by
    apply Classical.byContradiction
    intro g;exact c (.inr g)
   have h21:2*i+1<n:=by
    apply Classical.byContradiction
    intro g;exact c (.inl (by omega))
   obtain ⟨s1,s2⟩:=hsm h21
   obtain ⟨g1,g2⟩:=jB (l:=l) (i:=i) (n:=n) h21
   generalize chC l i n=j at *
   have hil:i<l.length:=by omega
   have hjl:j<l.length:=by omega
   refine Oi (by omega) g2 (by rw[Bz];exact hn) ⟨fun k k0 kn ke=>?_,fun c' c0 cn ce j0=>?_⟩
   ·rw [Hp hil hjl,Hp hil hjl]
    rw [if_neg ke]
    by_cases e1:(k-1) / 2=i
    ·rw [if_pos e1]
     by_cases e2:k=j
     ·rw [if_pos e2];omega
     ·rw [if_neg e2,if_neg (show ¬k=i by omega)]
      have e3:k=2*i+1∨k=2*i+2:=by omega
      rcases e3 with e3 | e3
      ·subst e3;exact s1
      ·subst e3;exact s2 kn
    ·rw [if_neg e1]
     by_cases e2:k=j
     ·omega
     ·rw [if_neg e2]
      by_cases e3:k=i
      ·rw [if_pos e3]
       subst e3
       exact h2 j (by omega) g2 (by omega) k0
      ·rw [if_neg e3];exact h1 k k0 kn e1
   ·rw [Hp hil hjl,Hp hil hjl]
    have hp:(j-1) / 2=i:=by omega
    rw [hp,if_neg (show ¬i=j by omega),if_pos rfl,if_neg (show ¬c'=j by omega),if_neg (show ¬c'=i by omega)]
    have := h1 c' c0 cn (by omega)
    rw [ce]at this
    exact this
theorem jC {l:List It} (h:Lh l l.length):∀k,k<l.length→kI l 0≤kI l k:=by
 intro k
 induction k using Nat.strongRecOn with
 | _ k ih =>
  intro hk
  by_cases e:k=0
  ·subst e;exact Int.le_refl _
  ·exact Int.le_trans (ih ((k-1) / 2) (by omega) (by omega)) (h k (by omega) hk)
theorem Hq {l:List It} (h0:0<l.length) (h:Lh l l.length):A9 l=l.getD 0 dI∧(A9 l::Et l).Perm l∧Lh (Et l) (Et l).length∧(Et l).length=l.length-1∧∀x∈l,(A9 l).1≤x.1:=by
 have hsw:∀k,(swp l 0 (l.length-1)).getD k dI=if k=l.length-1 then l.getD 0 dI else if k=0 then l.getD (l.length-1) dI else l.getD k dI:=fun k=>VS h0 (by omega)
 have hpl:(DZ l).length=l.length:=by unfold DZ;rw[JH,Bz]
 have hlen:(Et l).length=l.length-1:=by unfold Et;rw[List.length_take,hpl];omega
 have hX:A9 l=l.getD 0 dI:=by
  unfold A9 DZ
  rcases Nat.lt_or_ge 1 l.length with h1 | h1
  ·rw [Mq (by omega) (by rw[Bz];omega) (Nat.le_refl _),hsw,if_pos rfl]
  ·have e:l.length=1:=by omega
   rw [e]
   have := hsw 0
   simp only[DG,e]
   rw [e]at this
   simpa using this
 have hperm:(DZ l).Perm l:=by
  unfold DZ
  rcases Nat.lt_or_ge 1 l.length with h1 | h1
  ·exact (Oh (by omega) (by rw[Bz];omega)).trans (JG h0 (by omega))
  ·have e:l.length=1:=by omega
   rw [e]
   simp only[DG]
   exact JG h0 (by omega)
 have hsplit:DZ l=Et l ++ [A9 l]:=by
  unfold Et A9
  generalize DZ l=p at *
  have : l.length-1<p.length:=by omega
  rw [show p.take (l.length-1) ++ [p.getD (l.length-1) dI]=p.take (l.length-1+1) by rw[List.take_succ_eq_append_getElem this];simp[this]]
  rw [List.take_of_length_le (by omega)]
 refine ⟨hX,?_,?_,hlen,?_⟩
 ·have : (A9 l::Et l).Perm (Et l ++ [A9 l]):=(List.perm_append_comm (l₁:=Et l) (l₂ := [A9 l])).symm
  rw [←hsplit]at this
  exact this.trans hperm
 ·rw [hlen]
  intro k k0 kn
  have hat:∀j,j<l.length-1→kI (Et l) j=kI (DZ l) j:=fun j hj=>by
   rw [hsplit];exact (VT (by rw[hlen];exact hj)).symm
  rw [hat _ (by omega),hat _ kn]
  unfold DZ
  refine Oi (l:=swp l 0 (l.length-1)) (i:=0) (n:=l.length-1) (by omega) (by omega) (by rw[Bz];omega) ⟨fun k k0 kn ke=>?_,fun c c0 cn ce j0=>absurd j0 (by omega)⟩ k k0 kn
  have hkk:∀j,0<j→j<l.length-1→kI (swp l 0 (l.length-1)) j=kI l j:=fun j j0 jl=>by
   unfold kI;rw[hsw,if_neg (by omega),if_neg (by omega)]
  rw [hkk _ (by omega) (by omega),hkk _ k0 kn]
  exact h k k0 (by omega)
 ·intro x hx
  obtain ⟨k,hk,rfl⟩:=List.getElem_of_mem hx
  have := jC h k hk
  unfold kI at this
  rw [hX]
  rwa [show l.getD k dI=l[k] by simp[hk]]at this
end Sim
