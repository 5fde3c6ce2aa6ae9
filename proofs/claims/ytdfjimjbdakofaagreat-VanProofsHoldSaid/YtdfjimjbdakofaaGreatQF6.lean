/- What functions of this seat compute, by values: contracts (lemmas of the statement's proof, under the conditions that each names). -/
import Init
set_option linter.unusedVariables false
set_option linter.unusedSimpArgs false
namespace Sim
def An (f:Nat→Int):Nat→Int
 | 0=>0
 | n+1=>An f n+f n
theorem Ag {f g:Nat→Int}:∀ {n},(∀i,i<n→f i=g i)→An f n=An g n
 | 0,_=>rfl
 | n+1,h=>by rw[An,An,Ag fun i hi=>h i (by omega),h n (by omega)]
theorem BB {f g:Nat→Int}:∀ {n},An (fun i=>f i+g i) n=An f n+An g n
 | 0=>rfl
 | n+1=>by rw[An,An,An,BB];omega
theorem Ci {f g:Nat→Int}:∀ {n},An (fun i=>f i-g i) n=An f n-An g n
 | 0=>rfl
 | n+1=>by rw[An,An,An,Ci];omega
theorem GR {f:Nat→Int} {c:Int}:∀ {n},An (fun i=>c*f i) n=c*An f n
 | 0=>by simp[An]
 | n+1=>by rw[An,An,GR,Int.mul_add]
theorem BC {f:Nat→Int}:∀ {n},(∀i,i<n→0≤f i)→0≤An f n
 | 0,_=>Int.le_refl _
 | n+1,h=>by
  have := BC (f:=f) (n:=n) fun i hi=>h i (by omega)
  have := h n (by omega)
  rw [An];omega
theorem CZ {f g:Nat→Int}:∀ {n},(∀i,i<n→f i≤g i)→An f n≤An g n
 | 0,_=>Int.le_refl _
 | n+1,h=>by
  have := CZ (f:=f) (g:=g) (n:=n) fun i hi=>h i (by omega)
  have := h n (by omega)
  rw [An,An];omega
theorem Bb {f:Nat→Int}:∀ {n},(∀i,i<n→f i=0)→An f n=0
 | 0,_=>rfl
 | n+1,h=>by rw[An,Bb fun i hi=>h i (by omega),h n (by omega)];rfl
theorem BG {a:Nat} {v:Int}:∀ {n},An (fun i=>if a=i then v else 0) n=if a<n then v else 0
 | 0=>by simp[An]
 | n+1=>by
  rw [An,BG]
  repeat' split
  all_goals omega
theorem CY {f:Nat→Nat→Int} {m:Nat}:∀ {n},An (fun i=>An (fun j=>f i j) m) n=An (fun j=>An (fun i=>f i j) n) m
 | 0=>by rw[An,Bb];intro i _;rfl
 | n+1=>by
  rw [An,CY,←BB]
  exact Ag fun i _=>rfl
structure FN where
 N : Nat
 m : Nat
 s : Nat
 t : Nat
 fr : Nat→Nat
 to : Nat→Nat
 cap : Nat→Int
 pr : Nat→Int
structure FN.WF (G:FN):Prop where
 s : G.s<G.N
 t : G.t<G.N
 ar : ∀i,i<G.m→G.fr i<G.N∧G.to i<G.N
namespace FN
variable {G:FN}
def net (G:FN) (f:Nat→Int) (v:Nat):Int:=An (fun i=>(if G.fr i=v then f i else 0)-(if G.to i=v then f i else 0)) G.m
def cost (G:FN) (f:Nat→Int):Int:=An (fun i=>G.pr i*f i) G.m
def Val (G:FN) (f:Nat→Int) (val:Int):Prop:=∀v,v<G.N→G.net f v=(if G.s=v then val else 0)-(if G.t=v then val else 0)
structure Flow (G:FN) (f:Nat→Int) (val:Int):Prop where
 nn : ∀i,i<G.m→0≤f i
 le : ∀i,i<G.m→f i≤G.cap i
 val : Val G f val
theorem dual (w:G.WF) {f:Nat→Int} {val:Int} (h:G.Val f val) (φ:Nat→Int):An (fun i=>(φ (G.fr i)-φ (G.to i))*f i) G.m=(φ G.s-φ G.t)*val:=by
 have e1:An (fun i=>(φ (G.fr i)-φ (G.to i))*f i) G.m=An (fun i=>An (fun v=>φ v*((if G.fr i=v then f i else 0)-(if G.to i=v then f i else 0))) G.N) G.m:=by
  refine Ag fun i hi=>?_
  obtain ⟨h1,h2⟩:=w.ar i hi
  have e:(fun v=>φ v*((if G.fr i=v then f i else 0)-(if G.to i=v then f i else 0)))=fun v=>(if G.fr i=v then φ (G.fr i)*f i else 0)-(if G.to i=v then φ (G.to i)*f i else 0):=by
   funext v
   rw [Int.mul_sub]
   congr 1
   ·split
    ·rename_i e;rw[e]
    ·simp
   ·split
    ·rename_i e;rw[e]
    ·simp
  rw [e,Ci,BG,BG,if_pos h1,if_pos h2,Int.sub_mul]
 rw [e1,CY]
 have e2:An (fun v=>An (fun i=>φ v*((if G.fr i=v then f i else 0)-(if G.to i=v then f i else 0))) G.m) G.N=An (fun v=>(if G.s=v then φ G.s*val else 0)-(if G.t=v then φ G.t*val else 0)) G.N:=by
  refine Ag fun v hv=>?_
  have := h v hv
  unfold net at this
  rw [GR,this,Int.mul_sub]
  congr 1
  ·split
   ·rename_i e;rw[e]
   ·simp
  ·split
   ·rename_i e;rw[e]
   ·simp
 rw [e2,Ci,BG,BG,if_pos w.s,if_pos w.t,Int.sub_mul]
def Pot (G:FN) (g:Nat→Int) (φ:Nat→Int):Prop:=∀i,i<G.m→(g i<G.cap i→0≤G.pr i+φ (G.fr i)-φ (G.to i))∧(0<g i→G.pr i+φ (G.fr i)-φ (G.to i)≤0)
theorem opt (w:G.WF) {g h:Nat→Int} {a b c:Int} {φ:Nat→Int} (hg:G.Flow g a) (hp:G.Pot g φ) (hn:∀i,i<G.m→0≤h i) (hl:∀i,i<G.m→h i≤c*G.cap i) (hv:G.Val h b) (hb:b=c*a) (hc:0≤c):c*G.cost g≤G.cost h:=by
 have d1:=dual w hg.val φ
 have d2:=dual w hv φ
 have key:0≤An (fun i=>(G.pr i+φ (G.fr i)-φ (G.to i))*(h i-c*g i)) G.m:=by
  refine BC fun i hi=>?_
  obtain ⟨p1,p2⟩:=hp i hi
  have g0:=hg.nn i hi
  have g1:=hg.le i hi
  have h0:=hn i hi
  have h1:=hl i hi
  generalize G.pr i+φ (G.fr i)-φ (G.to i)=r at *
  by_cases r0:r=0
  ·rw [r0,Int.zero_mul];exact Int.le_refl _
  by_cases r1:0<r
  ·have e:g i=0:=by
    apply Classical.byContradiction
    intro hh
    have := p2 (by omega)
    omega
   rw [e,Int.mul_zero,Int.sub_zero]
   exact Int.mul_nonneg (by omega) h0
  ·have e:g i=G.cap i:=by
    apply Classical.byContradiction
    intro hh
    have := p1 (by omega)
    omega
   rw [e]
   exact Int.mul_nonneg_of_nonpos_of_nonpos (by omega) (by omega)
 have e:An (fun i=>(G.pr i+φ (G.fr i)-φ (G.to i))*(h i-c*g i)) G.m=(G.cost h+(φ G.s-φ G.t)*b)-c*(G.cost g+(φ G.s-φ G.t)*a):=by
  unfold cost
  rw [←d1,←d2,←BB,←BB,←GR,←Ci]
  refine Ag fun i _=>?_
  generalize φ (G.fr i)=x
  generalize φ (G.to i)=y
  generalize G.pr i=p
  rw [show p+x-y=p+(x-y) by omega]
  generalize x-y=z
  rw [Int.mul_sub,Int.add_mul,Int.add_mul,Int.mul_add,←Int.mul_assoc,←Int.mul_assoc,←Int.mul_assoc,←Int.mul_assoc,Int.mul_comm p c,Int.mul_comm z c]
 rw [e,hb,Int.mul_add]at key
 have e2:(φ G.s-φ G.t)*(c*a)=c*((φ G.s-φ G.t)*a):=by
  rw [←Int.mul_assoc,Int.mul_comm _ c,Int.mul_assoc]
 omega
theorem cut (w:G.WF) {g h:Nat→Int} {a b:Int} {S:Nat→Prop} [DecidablePred S] (hg:G.Val g a) (hh:G.Flow h b) (s:S G.s) (t:¬S G.t) (ho:∀i,i<G.m→S (G.fr i)→¬S (G.to i)→G.cap i≤g i) (hi:∀i,i<G.m→¬S (G.fr i)→S (G.to i)→g i≤0):b≤a:=by
 have d1:=dual w hg fun v=>if S v then 1 else 0
 have d2:=dual w hh.val fun v=>if S v then 1 else 0
 rw [if_pos s,if_neg t]at d1 d2
 have : An (fun i=>((if S (G.fr i)then 1 else 0)-(if S (G.to i)then 1 else 0))*h i) G.m≤An (fun i=>((if S (G.fr i)then 1 else 0)-(if S (G.to i)then 1 else 0))*g i) G.m:=by
  refine CZ fun i him=>?_
  have h0:=hh.nn i him
  have h1:=hh.le i him
  by_cases c1:S (G.fr i) <;> by_cases c2:S (G.to i)
  ·rw [if_pos c1,if_pos c2];simp
  ·have := ho i him c1 c2
   rw [if_pos c1,if_neg c2];omega
  ·have := hi i him c1 c2
   rw [if_neg c1,if_pos c2];omega
  ·rw [if_neg c1,if_neg c2];simp
 omega
end FN
abbrev It:=Int×Nat
abbrev dI:It:=(0,0)
def swp (l:List It) (i j:Nat):List It:=(l.set i (l.getD j dI)).set j (l.getD i dI)
def kI (l:List It) (i:Nat):Int:=(l.getD i dI).1
def upF:Nat→List It→Nat→List It
 | 0,l,_=>l
 | n+1,l,j=>if (j-1) / 2=j∨¬kI l j<kI l ((j-1) / 2)then l else upF n (swp l ((j-1) / 2) j) ((j-1) / 2)
def chC (l:List It) (i n:Nat):Nat:=if 2*i+2<n∧kI l (2*i+2)<kI l (2*i+1)then 2*i+2 else 2*i+1
def DQ:Nat→List It→Nat→Nat→List It
 | 0,l,_,_=>l
 | f+1,l,i,n=>if n≤2*i+1∨¬kI l (chC l i n)<kI l i then l else DQ f (swp l i (chC l i n)) (chC l i n) n
def GT (l:List It) (x:It):List It:=upF (l.length+1) (l ++ [x]) l.length
def Ed (l:List It):List It:=DQ l.length (swp l 0 (l.length-1)) 0 (l.length-1)
def Bi (l:List It):It:=(Ed l).getD (l.length-1) dI
def EV (l:List It):List It:=(Ed l).take (l.length-1)
section
variable {l:List It}
theorem Vf {i k:Nat} {x:It} (h:i<l.length):(l.set i x).getD k dI=if i=k then x else l.getD k dI:=by
 rw [List.getD_eq_getElem?_getD,List.getElem?_set]
 by_cases e:i=k
 ·subst e;simp[h]
 ·simp [e]
theorem BH {i j:Nat}:(swp l i j).length=l.length:=by simp[swp]
theorem X3 {i j k:Nat} (hi:i<l.length) (hj:j<l.length):(swp l i j).getD k dI=if k=j then l.getD i dI else if k=i then l.getD j dI else l.getD k dI:=by
 unfold swp
 rw [Vf (by simpa using hj),Vf hi]
 by_cases e:k=j
 ·subst e;simp
 ·have e':¬j=k:=fun g=>e g.symm
  rw [if_neg e',if_neg e]
  by_cases e2:k=i
  ·subst e2;simp
  ·have e2':¬i=k:=fun g=>e2 g.symm
   rw [if_neg e2',if_neg e2]
theorem IM {i j k:Nat} (hi:i<l.length) (hj:j<l.length):kI (swp l i j) k=if k=j then kI l i else if k=i then kI l j else kI l k:=by
 unfold kI
 rw [X3 hi hj]
 repeat' split
 all_goals rfl
theorem Lc {i j:Nat} (hi:i<l.length) (hj:j<l.length):(swp l i j).Perm l:=by
 rw [List.perm_iff_count]
 intro a
 unfold swp
 have e1:l.getD i dI=l[i]:=by simp[hi]
 have e2:l.getD j dI=l[j]:=by simp[hj]
 rw [e1,e2]
 rw [List.count_set (by simpa using hj),List.count_set hi,List.getElem_set]
 have c1:∀(k:Nat) (h:k<l.length),l[k]=a→0<l.count a:=fun k h e=>by
  rw [←e];exact List.count_pos_iff.2 (List.getElem_mem h)
 have g1:=c1 i hi
 have g2:=c1 j hj
 by_cases e:i=j
 ·subst e
  simp only[if_true,beq_iff_eq]
  by_cases h:l[i]=a
  ·have := g1 h
   simp only[h,if_true]
   omega
  ·simp only[h,if_false]
   omega
 ·rw [if_neg e]
  simp only[beq_iff_eq]
  by_cases h1:l[i]=a <;> by_cases h2:l[j]=a <;> simp only[h1,h2,if_true,if_false] <;> (try have:=g1 h1) <;> (try have:=g2 h2) <;> omega
def No (l:List It) (n:Nat):Prop:=∀k,0<k→k<n→kI l ((k-1) / 2)≤kI l k
def Alx (l:List It) (j:Nat):Prop:=(∀k,0<k→k<l.length→k≠j→kI l ((k-1) / 2)≤kI l k)∧∀c,0<c→c<l.length→(c-1) / 2=j→0<j→kI l ((j-1) / 2)≤kI l c
theorem qO:∀ {f:Nat} {l:List It} {j:Nat},(upF f l j).length=l.length
 | 0,_,_=>rfl
 | f+1,l,j=>by
  simp only[upF]
  split
  ·rfl
  ·rw [qO,BH]
theorem Y3:∀ {f:Nat} {l:List It} {j:Nat},j<l.length→(upF f l j).Perm l
 | 0,_,_,_=>.refl _
 | f+1,l,j,h=>by
  simp only[upF]
  split
  ·exact .refl _
  ·exact (Y3 (by rw[BH];omega)).trans (Lc (by omega) h)
theorem Y5:∀ {f:Nat} {l:List It} {j:Nat},j<f→j<l.length→Alx l j→No (upF f l j) l.length
 | 0,_,_,h,_,_=>absurd h (by omega)
 | f + 1,l,j,hf,hj,h=>by
  obtain ⟨h1,h2⟩:=h
  simp only[upF]
  by_cases c:(j-1) / 2=j∨¬kI l j<kI l ((j-1) / 2)
  ·rw [if_pos c]
   intro k k0 kl
   by_cases e:k=j
   ·subst e
    rcases c with c | c
    ·omega
    ·omega
   ·exact h1 k k0 kl e
  ·rw [if_neg c]
   have hi:(j-1) / 2<j:=by omega
   have hlt:kI l j<kI l ((j-1) / 2):=by
    apply Classical.byContradiction
    intro g;exact c (.inr g)
   have hil:(j-1) / 2<l.length:=by omega
   have := Y5 (f:=f) (l:=swp l ((j-1) / 2) j) (j:=(j-1) / 2) (by omega) (by rw[BH];omega) ?_
   ·rwa [BH]at this
   ·generalize hii:(j-1) / 2=i at *
    refine ⟨fun k k0 kl ke=>?_,fun c c0 cl ce i0=>?_⟩
    ·rw [BH]at kl
     rw [IM hil hj,IM hil hj]
     by_cases e1:k=j
     ·subst e1
      rw [if_neg (show ¬(k-1) / 2=k by omega),if_pos hii,if_pos rfl]
      omega
     ·rw [if_neg e1,if_neg ke]
      have hk:=h1 k k0 kl e1
      by_cases e2:(k-1) / 2=j
      ·rw [if_pos e2]
       exact h2 k k0 kl e2 (by omega)
      ·rw [if_neg e2]
       by_cases e3:(k-1) / 2=i
       ·rw [if_pos e3]
        rw [e3]at hk
        omega
       ·rw [if_neg e3];exact hk
    ·rw [BH]at cl
     rw [IM hil hj,IM hil hj,if_neg (show ¬(i-1) / 2=j by omega),if_neg (show ¬(i-1) / 2=i by omega)]
     have hp:=h1 i i0 hil (by omega)
     by_cases e1:c=j
     ·rw [if_pos e1];exact hp
     ·rw [if_neg e1]
      by_cases e2:c=i
      ·omega
      ·rw [if_neg e2]
       have := h1 c c0 cl e1
       rw [ce]at this
       omega
theorem OJ {x:It}:(GT l x).length=l.length+1:=by
 unfold GT
 rw [qO];simp
theorem push_perm {x:It}:(GT l x).Perm (x::l) :=
 (Y3 (by simp)).trans (List.perm_append_comm (l₁:=l) (l₂ := [x]))
theorem X4 {x:It} {k:Nat} (h:k<l.length):kI (l ++ [x]) k=kI l k:=by
 unfold kI
 rw [List.getD_eq_getElem?_getD,List.getElem?_append_left h,←List.getD_eq_getElem?_getD]
theorem gV {x:It} (h:No l l.length):No (GT l x) (GT l x).length:=by
 have e:(l ++ [x]).length=l.length+1:=by simp
 have := Y5 (f:=l.length+1) (l:=l ++ [x]) (j:=l.length) (by omega) (by omega) ⟨fun k k0 kl ke=>?_,fun c c0 cl ce j0=>?_⟩
 ·rw [OJ,←e];exact this
 ·rw [e]at kl
  rw [X4 (by omega),X4 (by omega)]
  exact h k k0 (by omega)
 ·rw [e]at cl;omega
def Aly (l:List It) (i n:Nat):Prop:=(∀k,0<k→k<n→(k-1) / 2≠i→kI l ((k-1) / 2)≤kI l k)∧∀c,0<c→c<n→(c-1) / 2=i→0<i→kI l ((i-1) / 2)≤kI l c
theorem Ld:∀ {f:Nat} {l:List It} {i n:Nat},(DQ f l i n).length=l.length
 | 0,_,_,_=>rfl
 | f+1,l,i,n=>by
  simp only[DQ]
  split
  ·rfl
  ·rw [Ld,BH]
theorem qP {i n:Nat} (h:2*i+1<n):(chC l i n=2*i+1∨chC l i n=2*i+2)∧chC l i n<n:=by
 unfold chC
 split
 ·exact ⟨.inr rfl,by omega⟩
 ·exact ⟨.inl rfl,h⟩
theorem QQ:∀ {f:Nat} {l:List It} {i n:Nat},i<n→n≤l.length→(DQ f l i n).Perm l
 | 0,_,_,_,_,_=>.refl _
 | f+1,l,i,n,h,hn=>by
  simp only[DQ]
  by_cases c:n≤2*i+1∨¬kI l (chC l i n)<kI l i
  ·rw [if_pos c]
  ·rw [if_neg c]
   obtain ⟨h1,h2⟩:=qP (l:=l) (i:=i) (n:=n) (by omega)
   exact (QQ h2 (by rw[BH];exact hn)).trans (Lc (by omega) (by omega))
theorem OL:∀ {f:Nat} {l:List It} {i n k:Nat},i<n→n≤l.length→n≤k→(DQ f l i n).getD k dI=l.getD k dI
 | 0,_,_,_,_,_,_,_=>rfl
 | f+1,l,i,n,k,h,hn,hk=>by
  simp only[DQ]
  by_cases c:n≤2*i+1∨¬kI l (chC l i n)<kI l i
  ·rw [if_pos c]
  ·rw [if_neg c]
   obtain ⟨h1,h2⟩:=qP (l:=l) (i:=i) (n:=n) (by omega)
   rw [OL h2 (by rw[BH];exact hn) hk,X3 (by omega) (by omega),if_neg (by omega),if_neg (by omega)]
theorem QR:∀ {f:Nat} {l:List It} {i n:Nat},n≤i+f→i<n→n≤l.length→Aly l i n→No (DQ f l i n) n
 | 0,_,_,_,h,h',_,_=>absurd h (by omega)
 | f + 1,l,i,n,hf,hin,hn,h=>by
  obtain ⟨h1,h2⟩:=h
  simp only[DQ]
  have hsm:2*i+1<n→(kI l (chC l i n)≤kI l (2*i+1)∧(2*i+2<n→kI l (chC l i n)≤kI l (2*i+2))):=fun h=>by
   unfold chC
   split
   ·rename_i c;exact⟨by omega,fun _=>Int.le_refl _⟩
   ·rename_i c
    refine ⟨Int.le_refl _,fun g=>?_⟩
    have : ¬kI l (2*i+2)<kI l (2*i+1):=fun x=>c ⟨g,x⟩
    omega
  by_cases c:n≤2*i+1∨¬kI l (chC l i n)<kI l i
  ·rw [if_pos c]
   intro k k0 kn
   by_cases e:(k-1) / 2=i
   ·have e2:k=2*i+1∨k=2*i+2:=by omega
    rcases c with c | c
    ·omega
    ·obtain ⟨s1,s2⟩:=hsm (by omega)
     rw [e]
     rcases e2 with e2 | e2
     ·subst e2;omega
     ·subst e2
      have := s2 kn
      omega
   ·exact h1 k k0 kn e
  ·rw [if_neg c]
   have hlt:kI l (chC l i n)<kI l i:=by
    apply Classical.byContradiction
    intro g;exact c (.inr g)
   have h21:2*i+1<n:=by
    apply Classical.byContradiction
    intro g;exact c (.inl (by omega))
   obtain ⟨s1,s2⟩:=hsm h21
   obtain ⟨g1,g2⟩:=qP (l:=l) (i:=i) (n:=n) h21
   generalize chC l i n=j at *
   have hil:i<l.length:=by omega
   have hjl:j<l.length:=by omega
   refine QR (by omega) g2 (by rw[BH];exact hn) ⟨fun k k0 kn ke=>?_,fun c' c0 cn ce j0=>?_⟩
   ·rw [IM hil hjl,IM hil hjl]
    rw [if_neg ke]
    by_cases e1:(k-1) / 2=i
    ·rw [if_pos e1]
     by_cases e2:k=j
     ·rw [if_pos e2];omega
     ·rw [if_neg e2,if_neg (show ¬k=i by omega)]
      have e3:k=2*i+1∨k=2*i+2:=by omega
      rcases e3 with e3 | e3
      ·subst e3;exact s1
      ·subst e3;exact s2 kn
    ·rw [if_neg e1]
     by_cases e2:k=j
     ·omega
     ·rw [if_neg e2]
      by_cases e3:k=i
      ·rw [if_pos e3]
       subst e3
       exact h2 j (by omega) g2 (by omega) k0
      ·rw [if_neg e3];exact h1 k k0 kn e1
   ·rw [IM hil hjl,IM hil hjl]
    have hp:(j-1) / 2=i:=by omega
    rw [hp,if_neg (show ¬i=j by omega),if_pos rfl,if_neg (show ¬c'=j by omega),if_neg (show ¬c'=i by omega)]
    have := h1 c' c0 cn (by omega)
    rw [ce]at this
    exact this
theorem qQ (h:No l l.length):∀k,k<l.length→kI l 0≤kI l k:=by
 intro k
 induction k using Nat.strongRecOn with
 | _ k ih =>
  intro hk
  by_cases e:k=0
  ·subst e;exact Int.le_refl _
  ·exact Int.le_trans (ih ((k-1) / 2) (by omega) (by omega)) (h k (by omega) hk)
theorem IN (h0:0<l.length) (h:No l l.length):Bi l=l.getD 0 dI∧(Bi l::EV l).Perm l∧No (EV l) (EV l).length∧(EV l).length=l.length-1∧∀x∈l,(Bi l).1≤x.1:=by
 have hsw:∀k,(swp l 0 (l.length-1)).getD k dI=if k=l.length-1 then l.getD 0 dI else if k=0 then l.getD (l.length-1) dI else l.getD k dI:=fun k=>X3 h0 (by omega)
 have hpl:(Ed l).length=l.length:=by unfold Ed;rw[Ld,BH]
 have hlen:(EV l).length=l.length-1:=by unfold EV;rw[List.length_take,hpl];omega
 have hX:Bi l=l.getD 0 dI:=by
  unfold Bi Ed
  rcases Nat.lt_or_ge 1 l.length with h1 | h1
  ·rw [OL (by omega) (by rw[BH];omega) (Nat.le_refl _),hsw,if_pos rfl]
  ·have e:l.length=1:=by omega
   rw [e]
   have := hsw 0
   simp only[DQ]
   rw [e]at this
   simpa using this
 have hperm:(Ed l).Perm l:=by
  unfold Ed
  rcases Nat.lt_or_ge 1 l.length with h1 | h1
  ·exact (QQ (by omega) (by rw[BH];omega)).trans (Lc h0 (by omega))
  ·have e:l.length=1:=by omega
   rw [e]
   simp only[DQ]
   exact Lc h0 (by omega)
 have hsplit:Ed l=EV l ++ [Bi l]:=by
  unfold EV Bi
  generalize Ed l=p at *
  have : l.length-1<p.length:=by omega
  rw [show p.take (l.length-1) ++ [p.getD (l.length-1) dI]=p.take (l.length-1+1) by rw[List.take_succ_eq_append_getElem this];simp[this]]
  rw [List.take_of_length_le (by omega)]
 refine ⟨hX,?_,?_,hlen,?_⟩
 ·have : (Bi l::EV l).Perm (EV l ++ [Bi l]):=(List.perm_append_comm (l₁:=EV l) (l₂ := [Bi l])).symm
  rw [←hsplit]at this
  exact this.trans hperm
 ·rw [hlen]
  intro k k0 kn
  have hat:∀j,j<l.length-1→kI (EV l) j=kI (Ed l) j:=fun j hj=>by
   rw [hsplit];exact (X4 (by rw[hlen];exact hj)).symm
  rw [hat _ (by omega),hat _ kn]
  unfold Ed
  refine QR (l:=swp l 0 (l.length-1)) (i:=0) (n:=l.length-1) (by omega) (by omega) (by rw[BH];omega) ⟨fun k k0 kn ke=>?_,fun c c0 cn ce j0=>absurd j0 (by omega)⟩ k k0 kn
  have hkk:∀j,0<j→j<l.length-1→kI (swp l 0 (l.length-1)) j=kI l j:=fun j j0 jl=>by
   unfold kI;rw[hsw,if_neg (by omega),if_neg (by omega)]
  rw [hkk _ (by omega) (by omega),hkk _ k0 kn]
  exact h k k0 (by omega)
 ·intro x hx
  obtain ⟨k,hk,rfl⟩:=List.getElem_of_mem hx
  have := qQ h k hk
  unfold kI at this
  rw [hX]
  rwa [show l.getD k dI=l[k] by simp[hk]]at this
end
abbrev Arc:=Nat×Nat×Int×Int
abbrev dA:Arc:=(0,0,0,0)
def aF (A:List Arc) (k:Nat):Nat:=(A.getD k dA).1
def aT (A:List Arc) (k:Nat):Nat:=(A.getD k dA).2.1
def aL (A:List Arc) (k:Nat):Int:=(A.getD k dA).2.2.1
def aP (A:List Arc) (k:Nat):Int:=(A.getD k dA).2.2.2
structure DS where
 far : List Int
 last : List Int
 done : List Bool
 q : List It
def nxt (A:List Arc) (lv:List Int) (d:Int) (k:Nat):Int:=d+aP A k+lv.getD (aF A k) 0-lv.getD (aT A k) 0
def rlx (A:List Arc) (lv:List Int) (d:Int) (st:DS) (k:Nat):DS :=
 if 0<aL A k∧(st.far.getD (aT A k) 0<0∨nxt A lv d k<st.far.getD (aT A k) 0)then⟨st.far.set (aT A k) (nxt A lv d k),st.last.set (aT A k) k,st.done,GT st.q (nxt A lv d k,aT A k)⟩else st
def JX (st:DS):DS:=⟨st.far,st.last,st.done.set (Bi st.q).2 true,EV st.q⟩
def EG (A:List Arc) (out:List (List Nat)) (lv:List Int) (st:DS):DS :=
 if st.done.getD (Bi st.q).2 true=true then⟨st.far,st.last,st.done,EV st.q⟩else (out.getD (Bi st.q).2 []).foldl (rlx A lv (Bi st.q).1) (JX st)
def JK (A:List Arc) (out:List (List Nat)) (lv:List Int):Nat→DS→DS
 | 0,st=>st
 | f+1,st=>if st.q.length=0 then st else JK A out lv f (EG A out lv st)
inductive Rch (A:List Arc) (s:Nat):Nat→Prop
 | src:Rch A s s
 | arc (k:Nat) (hk:k<A.length) (hl:0<aL A k) (h:Rch A s (aF A k)):Rch A s (aT A k)
structure Gr (A:List Arc) (out:List (List Nat)) (lv:List Int) (N s:Nat):Prop where
 ar : ∀k,k<A.length→aF A k<N∧aT A k<N
 out1 : ∀u,u<N→∀k∈out.getD u [],k<A.length∧aF A k=u
 out2 : ∀k,k<A.length→k∈out.getD (aF A k) []
 lo : out.length=N
 ll : lv.length=N
 sN : s<N
 pr : ∀k,k<A.length → -1000000≤aP A k∧aP A k≤1000000
 rc : ∀k,k<A.length→0<aL A k→Rch A s (aF A k)→0≤aP A k+lv.getD (aF A k) 0-lv.getD (aT A k) 0
 l0 : lv.getD s 0=0
theorem Dd {l:List Int} {i k:Nat} {x:Int} (h:i<l.length):(l.set i x).getD k 0=if k=i then x else l.getD k 0:=by
 rw [List.getD_eq_getElem?_getD,List.getElem?_set]
 by_cases e:k=i
 ·subst e;simp[h]
 ·have e':¬i=k:=fun g=>e g.symm
  rw [if_neg e',if_neg e,List.getD_eq_getElem?_getD]
theorem FI {l:List Bool} {i k:Nat} {x d:Bool} (h:i<l.length):(l.set i x).getD k d=if k=i then x else l.getD k d:=by
 rw [List.getD_eq_getElem?_getD,List.getElem?_set]
 by_cases e:k=i
 ·subst e;simp[h]
 ·have e':¬i=k:=fun g=>e g.symm
  rw [if_neg e',if_neg e,List.getD_eq_getElem?_getD]
structure DI (A:List Arc) (lv:List Int) (N s:Nat) (st:DS) (d:Int) (E:Nat→Prop) (dp:Nat→Nat):Prop where
 lf : st.far.length=N
 ll : st.last.length=N
 ld : st.done.length=N
 hp : No st.q st.q.length
 rch : ∀v,v<N→0≤st.far.getD v 0→Rch A s v
 qin : ∀x∈st.q,x.2<N∧0≤st.far.getD x.2 0∧st.far.getD x.2 0≤x.1
 cur : ∀v,v<N→0≤st.far.getD v 0→st.done.getD v true=false→(st.far.getD v 0,v)∈st.q
 dn : ∀v,v<N→st.done.getD v true=true→0≤st.far.getD v 0∧st.far.getD v 0≤d
 low : ∀x∈st.q,d≤x.1
 clo : ∀k,k<A.length→st.done.getD (aF A k) true=true→0<aL A k→E k→0≤st.far.getD (aT A k) 0∧st.far.getD (aT A k) 0≤nxt A lv (st.far.getD (aF A k) 0) k
 src : st.far.getD s 0=0
 d0 : 0≤d
 par : ∀v,v<N→0≤st.far.getD v 0→v≠s→∃k:Nat,st.last.getD v 0=(k:Int)∧k<A.length∧0<aL A k∧aT A k=v∧st.done.getD (aF A k) true=true∧st.far.getD v 0=nxt A lv (st.far.getD (aF A k) 0) k∧dp v=dp (aF A k)+1
 dps : dp s=0
 dpu : ∀v,v<N→0≤st.far.getD v 0→dp v≤st.done.count true
 dpd : ∀v,v<N→st.done.getD v true=true→dp v<st.done.count true
 mag : ∀v,v<N→0≤st.far.getD v 0 → -(1000000*(dp v:Int))≤st.far.getD v 0+lv.getD v 0∧st.far.getD v 0+lv.getD v 0≤1000000*(dp v:Int)
section
variable {A:List Arc} {out:List (List Nat)} {lv:List Int} {N s:Nat}
theorem qR (G:Gr A out lv N s) {st:DS} {d:Int} {E:Nat→Prop} {dp:Nat→Nat} {k:Nat} (I:DI A lv N s st d E dp) (hk:k<A.length) (hu:st.done.getD (aF A k) true=true) (hd:st.far.getD (aF A k) 0=d) :
  ∃ dp',DI A lv N s (rlx A lv d st k) d (fun j=>E j∨j=k) dp'∧(rlx A lv d st k).done=st.done∧(∀v,v<N→st.done.getD v true=true→(rlx A lv d st k).far.getD v 0=st.far.getD v 0)∧(rlx A lv d st k).q.length≤st.q.length+1:=by
 obtain ⟨uN,vN⟩:=G.ar k hk
 by_cases c:0<aL A k∧(st.far.getD (aT A k) 0<0∨nxt A lv d k<st.far.getD (aT A k) 0)
 case neg =>
  have e:rlx A lv d st k=st:=by unfold rlx;rw[if_neg c]
  rw [e]
  refine ⟨dp,⟨I.lf,I.ll,I.ld,I.hp,I.rch,I.qin,I.cur,I.dn,I.low,fun j hj h1 h2 h3=>?_,I.src,I.d0,I.par,I.dps,I.dpu,I.dpd,I.mag⟩,rfl,fun _ _ _=>rfl,by omega⟩
  rcases h3 with h3 | h3
  ·exact I.clo j hj h1 h2 h3
  ·subst h3
   have : ¬(st.far.getD (aT A j) 0<0∨nxt A lv d j<st.far.getD (aT A j) 0):=fun g=>c ⟨h2,g⟩
   rw [hd];omega
 obtain ⟨cl,cf⟩:=c
 have e:rlx A lv d st k=⟨st.far.set (aT A k) (nxt A lv d k),st.last.set (aT A k) k,st.done,GT st.q (nxt A lv d k,aT A k)⟩:=by unfold rlx;rw[if_pos ⟨cl,cf⟩]
 have hrc:=G.rc k hk cl (I.rch _ uN (I.dn _ uN hu).1)
 have hnx:d≤nxt A lv d k:=by unfold nxt;omega
 have hd0:=I.d0
 have hvd:¬st.done.getD (aT A k) true=true:=fun g=>by
  have := I.dn _ vN g
  omega
 have hvd':st.done.getD (aT A k) true=false:=by simpa using hvd
 have hvs:aT A k≠s:=fun g=>by
  have := I.src
  rw [←g]at this
  omega
 have huv:aF A k≠aT A k:=fun g=>hvd (by rw[←g];exact hu)
 have hfa:∀w,(st.far.set (aT A k) (nxt A lv d k)).getD w 0=if w=aT A k then nxt A lv d k else st.far.getD w 0:=fun w=>Dd (by rw[I.lf];exact vN)
 have hla:∀w,(st.last.set (aT A k) (k:Int)).getD w 0=if w=aT A k then (k:Int)else st.last.getD w 0:=fun w=>Dd (by rw[I.ll];exact vN)
 have hne:∀w,st.done.getD w true=true→¬w=aT A k:=fun w hw g=>hvd (by rw[←g];exact hw)
 have hle:∀w,0≤st.far.getD w 0→(if w=aT A k then nxt A lv d k else st.far.getD w 0)≤st.far.getD w 0:=fun w hw=>by
  split
  ·rename_i g;subst g;omega
  ·exact Int.le_refl _
 rw [e]
 refine ⟨fun w=>if w=aT A k then dp (aF A k)+1 else dp w,⟨by simpa using I.lf,by simpa using I.ll,I.ld,gV I.hp,fun v hv h=>?_,fun x hx=>?_,fun v hv h1 h2=>?_,fun v hv h=>?_,fun x hx=>?_,fun j hj h1 h2 h3=>?_,?_,hd0,fun v hv h1 h2=>?_,?_,fun v hv h=>?_,fun v hv h=>?_,fun v hv h=>?_⟩,rfl,fun v hv h=>?_,?_⟩ <;> (try dsimp only at *)
 ·by_cases g:v=aT A k
  ·subst g;exact .arc k hk cl (I.rch _ uN (I.dn _ uN hu).1)
  ·rw [hfa,if_neg g]at h;exact I.rch v hv h
 ·rw [hfa]
  rcases List.mem_cons.1 (push_perm.mem_iff.1 hx)with g | g
  ·subst g;dsimp only;rw[if_pos rfl];exact⟨vN,by omega,Int.le_refl _⟩
  ·obtain ⟨g1,g2,g3⟩:=I.qin x g
   refine ⟨g1,?_,Int.le_trans (hle _ g2) g3⟩
   split
   ·omega
   ·exact g2
 ·rw [hfa]
  by_cases g:v=aT A k
  ·subst g;rw[if_pos rfl];exact push_perm.mem_iff.2 (by simp)
  ·rw [hfa,if_neg g]at h1
   rw [if_neg g]
   exact push_perm.mem_iff.2 (List.mem_cons_of_mem _ (I.cur v hv h1 h2))
 ·rw [hfa,if_neg (hne v h)];exact I.dn v hv h
 ·rcases List.mem_cons.1 (push_perm.mem_iff.1 hx)with g | g
  ·subst g;exact hnx
  ·exact I.low x g
 ·rw [hfa,hfa,if_neg (hne _ h1)]
  rcases h3 with h3 | h3
  ·obtain ⟨g1,g2⟩:=I.clo j hj h1 h2 h3
   refine ⟨?_,Int.le_trans (hle _ g1) g2⟩
   split
   ·omega
   ·exact g1
  ·subst h3;rw[if_pos rfl,hd];exact⟨by omega,Int.le_refl _⟩
 ·rw [hfa,if_neg (fun g=>hvs g.symm)];exact I.src
 ·by_cases g:v=aT A k
  ·subst g
   refine ⟨k,by rw[hla,if_pos rfl],hk,cl,rfl,hu,?_,?_⟩
   ·rw [hfa,hfa,if_pos rfl,if_neg huv,hd]
   ·rw [if_pos rfl,if_neg huv]
  ·rw [hfa,if_neg g]at h1
   obtain ⟨j,g1,g2,g3,g4,g5,g6,g7⟩:=I.par v hv h1 h2
   refine ⟨j,by rw[hla,if_neg g];exact g1,g2,g3,g4,g5,?_,?_⟩
   ·rw [hfa,hfa,if_neg g,if_neg (hne _ g5)];exact g6
   ·rw [if_neg g,if_neg (hne _ g5)];exact g7
 ·rw [if_neg (fun g=>hvs g.symm)];exact I.dps
 ·by_cases g:v=aT A k
  ·rw [if_pos g]
   have := I.dpd _ uN hu
   omega
  ·rw [hfa,if_neg g]at h
   rw [if_neg g];exact I.dpu v hv h
 ·rw [if_neg (hne v h)];exact I.dpd v hv h
 ·by_cases g:v=aT A k
  ·rw [hfa,if_pos g,if_pos g]
   have h1:=I.mag _ uN (I.dn _ uN hu).1
   have h2:=G.pr k hk
   rw [hd]at h1
   subst g
   have e1:nxt A lv d k+lv.getD (aT A k) 0=d+lv.getD (aF A k) 0+aP A k:=by unfold nxt;omega
   rw [e1]
   have e2:(((dp (aF A k)+1:Nat)):Int)=(dp (aF A k):Int)+1:=by omega
   rw [e2];omega
  ·rw [hfa,if_neg g]at h
   rw [hfa,if_neg g,if_neg g];exact I.mag v hv h
 ·rw [hfa,if_neg (hne v h)]
 ·rw [OJ];exact Nat.le_refl _
theorem Y6 (G:Gr A out lv N s):∀ {l:List Nat} {st:DS} {d:Int} {E:Nat→Prop} {dp:Nat→Nat} {u:Nat},DI A lv N s st d E dp→(∀k∈l,k<A.length∧aF A k=u)→st.done.getD u true=true→u<N→st.far.getD u 0=d →
  ∃ dp',DI A lv N s (l.foldl (rlx A lv d) st) d (fun j=>E j∨j∈l) dp'∧(l.foldl (rlx A lv d) st).done=st.done∧(l.foldl (rlx A lv d) st).q.length≤st.q.length+l.length∧(l.foldl (rlx A lv d) st).far.getD u 0=d
 | [],st,d,E,dp,u,I,_,hu,_,hd=>by
  refine ⟨dp,?_,rfl,by simp,hd⟩
  have : (fun j=>E j∨j∈([]:List Nat))=E:=by funext j;simp
  rw [this];exact I
 | k::l,st,d,E,dp,u,I,h,hu,uN,hd=>by
  obtain ⟨hk,hku⟩:=h k (by simp)
  obtain ⟨dp1,I1,e1,e2,e3⟩:=qR G I hk (by rw[hku];exact hu) (by rw[hku];exact hd)
  obtain ⟨dp2,I2,f1,f2,f3⟩:=Y6 G (l:=l) I1 (fun j hj=>h j (by simp[hj])) (by rw[e1];exact hu) uN (by rw[e2 u uN hu];exact hd)
  refine ⟨dp2,?_,f1.trans e1,?_,f3⟩
  ·have : (fun j=>E j∨j∈k::l)=fun j=>(E j∨j=k)∨j∈l:=by
    funext j;simp only[List.mem_cons,or_assoc]
   rw [this];exact I2
  ·rw [List.foldl_cons,List.length_cons];omega
def Sp (out:List (List Nat)) (done:List Bool):Nat→Nat
 | 0=>0
 | v+1=>Sp out done v+if done.getD v true=true then 0 else (out.getD v []).length
def EW (out:List (List Nat)) (st:DS):Nat:=st.q.length+Sp out st.done out.length
theorem Le {out:List (List Nat)} {done:List Bool} {u:Nat} (hu:u<done.length) (h:done.getD u true=false):∀n,Sp out (done.set u true) n+(if u<n then (out.getD u []).length else 0)=Sp out done n
 | 0=>by simp[Sp]
 | n+1=>by
  have ih:=Le (out:=out) hu h n
  simp only[Sp]
  rw [FI hu]
  by_cases e:n=u
  ·subst e
   rw [if_neg (show ¬n<n by omega)]at ih
   rw [if_pos (show n<n+1 by omega),if_pos rfl,h]
   simp; omega
  ·rw [if_neg e]
   by_cases c:u<n
   ·rw [if_pos c]at ih
    rw [if_pos (show u<n+1 by omega)];omega
   ·rw [if_neg c]at ih
    rw [if_neg (show ¬u<n+1 by omega)];omega
section
variable {st:DS} {d:Int}
theorem Sq {E:Nat→Prop} {dp:Nat→Nat} (I:DI A lv N s st d E dp) (hq:0<st.q.length) :
  (Bi st.q).2<N∧(st.done.getD (Bi st.q).2 true=false→(Bi st.q).1=st.far.getD (Bi st.q).2 0)∧(Bi st.q)∈st.q∧(∀x,x∈EV st.q→x∈st.q)∧∀x∈st.q,x=Bi st.q∨x∈EV st.q:=by
 obtain ⟨h1,h2,h3,h4,h5⟩:=IN hq I.hp
 have hm:Bi st.q∈st.q:=h2.mem_iff.1 (by simp)
 obtain ⟨g1,g2,g3⟩:=I.qin _ hm
 refine ⟨g1,fun h=>?_,hm,fun x hx=>h2.mem_iff.1 (List.mem_cons_of_mem _ hx),fun x hx=>List.mem_cons.1 (h2.mem_iff.2 hx)⟩
 have := h5 _ (I.cur _ g1 g2 h)
 dsimp only at this
 omega
theorem Aa4 {dp:Nat→Nat} (I:DI A lv N s st d (fun _=>True) dp) (hq:0<st.q.length) (h:st.done.getD (Bi st.q).2 true=true):DI A lv N s ⟨st.far,st.last,st.done,EV st.q⟩ d (fun _=>True) dp:=by
 obtain ⟨h1,h2,h3,h4,h5⟩:=IN hq I.hp
 obtain ⟨p1,p2,p3,p4,p5⟩:=Sq I hq
 refine ⟨I.lf,I.ll,I.ld,h3,I.rch,fun x hx=>I.qin x (p4 x hx),fun v hv g1 g2=>?_,I.dn,fun x hx=>I.low x (p4 x hx),I.clo,I.src,I.d0,I.par,I.dps,I.dpu,I.dpd,I.mag⟩
 rcases p5 _ (I.cur v hv g1 g2)with g | g
 ·exfalso
  dsimp only at g2
  rw [←g]at h
  dsimp only at h
  rw [h]at g2;cases g2
 ·exact g
theorem Y7 {dp:Nat→Nat} (I:DI A lv N s st d (fun _=>True) dp) (hq:0<st.q.length) (h:st.done.getD (Bi st.q).2 true=false):DI A lv N s (JX st) (Bi st.q).1 (fun k=>¬aF A k=(Bi st.q).2) dp:=by
 obtain ⟨h1,h2,h3,h4,h5⟩:=IN hq I.hp
 obtain ⟨p1,p2,p3,p4,p5⟩:=Sq I hq
 have hx1:=p2 h
 have hlow:=I.low _ p3
 have hd0:=I.d0
 have hdn:∀w,(st.done.set (Bi st.q).2 true).getD w true=if w=(Bi st.q).2 then true else st.done.getD w true:=fun w=>FI (by rw[I.ld];exact p1)
 have hcnt:(st.done.set (Bi st.q).2 true).count true=st.done.count true+1:=by
  have hl:(Bi st.q).2<st.done.length:=by rw[I.ld];exact p1
  have e:st.done[(Bi st.q).2]=false:=by
   have := h
   rw [List.getD_eq_getElem?_getD,List.getElem?_eq_getElem hl]at this
   exact this
  rw [List.count_set hl,e];simp
 unfold JX
 refine ⟨I.lf,I.ll,by simpa using I.ld,h3,I.rch,fun x hx=>I.qin x (p4 x hx),fun v hv g1 g2=>?_,fun v hv g=>?_,fun x hx=>h5 x (p4 x hx),fun k hk g1 g2 g3=>?_,I.src,by omega,fun v hv g1 g2=>?_,I.dps,fun v hv g=>?_,fun v hv g=>?_,I.mag⟩ <;> dsimp only at *
 ·rw [hdn]at g2
  by_cases e:v=(Bi st.q).2
  ·rw [if_pos e]at g2;cases g2
  ·rw [if_neg e]at g2
   rcases p5 _ (I.cur v hv g1 g2)with g | g
   ·exact absurd (congrArg Prod.snd g) e
   ·exact g
 ·rw [hdn]at g
  by_cases e:v=(Bi st.q).2
  ·subst e
   obtain ⟨q1,q2,q3⟩:=I.qin _ p3
   omega
  ·rw [if_neg e]at g
   have := I.dn v hv g
   omega
 ·rw [hdn,if_neg g3]at g1
  exact I.clo k hk g1 g2 trivial
 ·obtain ⟨k,a1,a2,a3,a4,a5,a6,a7⟩:=I.par v hv g1 g2
  refine ⟨k,a1,a2,a3,a4,?_,a6,a7⟩
  rw [hdn];split
  ·rfl
  ·exact a5
 ·rw [hcnt]
  have := I.dpu v hv g
  omega
 ·rw [hcnt]
  rw [hdn]at g
  by_cases e:v=(Bi st.q).2
  ·obtain ⟨q1,q2,q3⟩:=I.qin _ p3
   have := I.dpu _ q1 q2
   rw [e];omega
  ·rw [if_neg e]at g
   have := I.dpd v hv g
   omega
end
theorem Sr (G:Gr A out lv N s) {st:DS} {d:Int} {dp:Nat→Nat} (I:DI A lv N s st d (fun _=>True) dp) (hq:0<st.q.length):(∃d' dp',DI A lv N s (EG A out lv st) d' (fun _=>True) dp')∧EW out (EG A out lv st)<EW out st:=by
 obtain ⟨p1,p2,p3,p4,p5⟩:=Sq I hq
 have hpl:=(IN hq I.hp).2.2.2.1
 by_cases h:st.done.getD (Bi st.q).2 true=true
 ·have e:EG A out lv st=⟨st.far,st.last,st.done,EV st.q⟩:=by unfold EG;rw[if_pos h]
  rw [e]
  refine ⟨⟨d,dp,Aa4 I hq h⟩,?_⟩
  unfold EW;dsimp only;omega
 ·have h':st.done.getD (Bi st.q).2 true=false:=by simpa using h
  have e:EG A out lv st=(out.getD (Bi st.q).2 []).foldl (rlx A lv (Bi st.q).1) (JX st):=by unfold EG;rw[if_neg h]
  have hu:(JX st).done.getD (Bi st.q).2 true=true:=by
   unfold JX;dsimp only
   rw [FI (by rw[I.ld];exact p1),if_pos rfl]
  obtain ⟨dp',I',e1,e2,_⟩:=Y6 G (l:=out.getD (Bi st.q).2 []) (Y7 I hq h') (G.out1 _ p1) hu p1 (p2 h').symm
  rw [e]
  refine ⟨⟨(Bi st.q).1,dp',?_⟩,?_⟩
  ·have I2:=I'
   refine ⟨I2.lf,I2.ll,I2.ld,I2.hp,I2.rch,I2.qin,I2.cur,I2.dn,I2.low,fun k hk g1 g2 _=>I2.clo k hk g1 g2 ?_,I2.src,I2.d0,I2.par,I2.dps,I2.dpu,I2.dpd,I2.mag⟩
   by_cases c:aF A k=(Bi st.q).2
   ·exact .inr (by rw[←c];exact G.out2 k hk)
   ·exact .inl c
  ·unfold EW
   rw [e1]
   have := Le (out:=out) (u:=(Bi st.q).2) (by rw[I.ld];exact p1) h' out.length
   rw [if_pos (by rw[G.lo];exact p1)]at this
   unfold JX at *
   dsimp only at *
   omega
theorem qS (G:Gr A out lv N s):∀ {f:Nat} {st:DS} {d:Int} {dp:Nat→Nat},EW out st≤f→DI A lv N s st d (fun _=>True) dp→(JK A out lv f st).q.length=0∧∃d' dp',DI A lv N s (JK A out lv f st) d' (fun _=>True) dp'
 | 0,st,d,dp,hf,I=>by
  unfold EW at hf
  exact ⟨by simp only[JK];omega,d,dp,I⟩
 | f+1,st,d,dp,hf,I=>by
  simp only[JK]
  by_cases c:st.q.length=0
  ·rw [if_pos c];exact⟨c,d,dp,I⟩
  ·rw [if_neg c]
   obtain ⟨⟨d',dp',I'⟩,hm⟩:=Sr G I (by omega)
   exact qS G (by omega) I'
theorem Vg (G:Gr A out lv N s):∀ {f g:Nat} {st:DS} {d:Int} {dp:Nat→Nat},EW out st≤f→EW out st≤g→DI A lv N s st d (fun _=>True) dp→JK A out lv f st=JK A out lv g st
 | 0,0,_,_,_,_,_,_=>rfl
 | 0,g+1,st,d,dp,hf,hg,I=>by
  unfold EW at hf
  simp only[JK]
  rw [if_pos (by omega)]
 | f+1,0,st,d,dp,hf,hg,I=>by
  unfold EW at hg
  simp only[JK]
  rw [if_pos (by omega)]
 | f+1,g+1,st,d,dp,hf,hg,I=>by
  simp only[JK]
  by_cases c:st.q.length=0
  ·rw [if_pos c,if_pos c]
  ·rw [if_neg c,if_neg c]
   obtain ⟨⟨d',dp',I'⟩,hm⟩:=Sr G I (by omega)
   exact Vg G (by omega) (by omega) I'
end
def ini (N s:Nat):DS:=⟨(List.replicate N (-1)).set s 0,List.replicate N (-1),List.replicate N false,[(0,s)]⟩
def Ij (A:List Arc) (out:List (List Nat)) (lv:List Int) (N s:Nat):DS:=JK A out lv (EW out (ini N s)) (ini N s)
def lvN (lv:List Int) (st:DS) (N:Nat):List Int:=(List.range N).map fun v=>if st.done.getD v true=true then lv.getD v 0+st.far.getD v 0 else lv.getD v 0
def Fd (A:List Arc) (last:List Int) (s:Nat):Nat→Nat→List Nat
 | 0,_ => []
 | f+1,v=>if v=s then []else (last.getD v 0).toNat::Fd A last s f (aF A (last.getD v 0).toNat)
def De (A:List Arc) (out:List (List Nat)) (lv:List Int) (N s t:Nat):List Nat:=Fd A (Ij A out lv N s).last s N t
def lvM (A:List Arc) (out:List (List Nat)) (lv:List Int) (N s:Nat):List Int:=lvN lv (Ij A out lv N s) N
inductive IsP (A:List Arc) (s:Nat):Nat→List Nat→Prop
 | nil:IsP A s s []
 | cons (k:Nat) (P:List Nat) (h:IsP A s (aF A k) P):IsP A s (aT A k) (k::P)
section
variable {A:List Arc} {out:List (List Nat)} {lv:List Int} {N s:Nat}
theorem Am7 {n k:Nat} {x:Int} (h:k<n):(List.replicate n x).getD k 0=x:=by simp[h]
theorem qT (G:Gr A out lv N s):DI A lv N s (ini N s) 0 (fun _=>True) (fun _=>0):=by
 have sN:=G.sN
 have hfa:∀v,v<N→(ini N s).far.getD v 0=if v=s then 0 else -1:=fun v hv=>by
  unfold ini;dsimp only
  rw [Dd (by simpa using sN),Am7 hv]
 have hdn:∀v,v<N→(ini N s).done.getD v true=false:=fun v hv=>by
  unfold ini;dsimp only;simp[hv]
 have hv0:∀v,v<N→0≤(ini N s).far.getD v 0→v=s:=fun v hv h=>by
  rw [hfa v hv]at h
  by_cases e:v=s
  ·exact e
  ·rw [if_neg e]at h;omega
 refine ⟨by simp[ini],by simp[ini],by simp[ini],fun k k0 kl=>?_,fun v hv h=>?_,fun x hx=>?_,fun v hv h1 h2=>?_,fun v hv h=>?_,fun x hx=>?_,fun k hk h=>?_,?_,Int.le_refl _,fun v hv h1 h2=>absurd (hv0 v hv h1) h2,rfl,fun v hv h=>Nat.zero_le _,fun v hv h=>?_,fun v hv h=>?_⟩
 ·simp [ini]at kl;omega
 ·rw [hv0 v hv h];exact .src
 ·simp only[ini,List.mem_singleton]at hx
  subst hx
  rw [hfa s sN,if_pos rfl]
  exact ⟨sN,Int.le_refl _,Int.le_refl _⟩
 ·have := hv0 v hv h1
  subst this
  rw [hfa v hv,if_pos rfl]
  simp [ini]
 ·rw [hdn v hv]at h;cases h
 ·simp only[ini,List.mem_singleton]at hx
  subst hx;exact Int.le_refl _
 ·rw [hdn _ (G.ar k hk).1]at h;cases h
 ·rw [hfa s sN,if_pos rfl]
 ·rw [hdn v hv]at h;cases h
 ·have := hv0 v hv h
  subst this
  rw [hfa v hv,if_pos rfl,G.l0];simp
structure FD (A:List Arc) (lv:List Int) (N s:Nat) (st:DS) (dp:Nat→Nat):Prop where
 lf : st.far.length=N
 ll : st.last.length=N
 ld : st.done.length=N
 don : ∀v,v<N→(st.done.getD v true=true↔Rch A s v)
 far : ∀v,v<N→(0≤st.far.getD v 0↔Rch A s v)
 clo : ∀k,k<A.length→0<aL A k→Rch A s (aF A k)→st.far.getD (aT A k) 0≤nxt A lv (st.far.getD (aF A k) 0) k
 src : st.far.getD s 0=0
 par : ∀v,v<N→Rch A s v→v≠s→∃k:Nat,st.last.getD v 0=(k:Int)∧k<A.length∧0<aL A k∧aT A k=v∧Rch A s (aF A k)∧st.far.getD v 0=nxt A lv (st.far.getD (aF A k) 0) k∧dp v=dp (aF A k)+1
 dps : dp s=0
 dpN : ∀v,v<N→Rch A s v→dp v<N
 mag : ∀v,v<N→Rch A s v → -(1000000*(N:Int))≤st.far.getD v 0+lv.getD v 0∧st.far.getD v 0+lv.getD v 0≤1000000*(N:Int)
theorem Ahn (G:Gr A out lv N s) {v:Nat} (h:Rch A s v):v<N:=by
 cases h with
 | src=>exact G.sN
 | arc k hk hl h=>exact (G.ar k hk).2
theorem Ss (G:Gr A out lv N s):∃dp,FD A lv N s (Ij A out lv N s) dp:=by
 obtain ⟨hq,d,dp,I⟩:=qS G (Nat.le_refl _) (qT G)
 have hst:JK A out lv (EW out (ini N s)) (ini N s)=Ij A out lv N s:=rfl
 rw [hst]at hq I
 generalize Ij A out lv N s=st at *
 have hq:st.q = []:=List.length_eq_zero_iff.1 hq
 have h1:∀v,v<N→0≤st.far.getD v 0→st.done.getD v true=true:=fun v hv h=>by
  cases hd:st.done.getD v true with
  | true=>rfl
  | false =>
   have := I.cur v hv h hd
   rw [hq]at this;simp at this
 have h2:∀v,Rch A s v→v<N→0≤st.far.getD v 0:=fun v h=>by
  induction h with
  | src=>intro _;rw[I.src];exact Int.le_refl _
  | arc k hk hl h ih =>
   intro _
   have := ih (G.ar k hk).1
   exact (I.clo k hk (h1 _ (G.ar k hk).1 this) hl trivial).1
 have h3:∀v,v<N→(0≤st.far.getD v 0↔Rch A s v):=fun v hv=>⟨I.rch v hv,fun h=>h2 v h hv⟩
 have h4:∀v,v<N→(st.done.getD v true=true↔Rch A s v):=fun v hv=>⟨fun h=>I.rch v hv (I.dn v hv h).1,fun h=>h1 v hv (h2 v h hv)⟩
 have hcN:st.done.count true≤N:=by rw[←I.ld];exact List.count_le_length
 refine ⟨dp,I.lf,I.ll,I.ld,h4,h3,fun k hk hl hr=>?_,I.src,fun v hv hr hs=>?_,I.dps,fun v hv hr=>?_,fun v hv hr=>?_⟩
 ·exact (I.clo k hk ((h4 _ (G.ar k hk).1).2 hr) hl trivial).2
 ·obtain ⟨k,a1,a2,a3,a4,a5,a6,a7⟩:=I.par v hv ((h3 v hv).2 hr) hs
  exact ⟨k,a1,a2,a3,a4,(h4 _ (G.ar k a2).1).1 a5,a6,a7⟩
 ·have := I.dpd v hv ((h4 v hv).2 hr)
  omega
 ·have h5:=I.mag v hv ((h3 v hv).2 hr)
  have h6:=I.dpd v hv ((h4 v hv).2 hr)
  omega
theorem OM {st:DS} {v:Nat} (h:v<N):(lvN lv st N).getD v 0=if st.done.getD v true=true then lv.getD v 0+st.far.getD v 0 else lv.getD v 0:=by
 unfold lvN;simp[h]
structure PathOK (A:List Arc) (lv':List Int) (s t:Nat) (P:List Nat):Prop where
 isP : IsP A s t P
 arc : ∀k∈P,k<A.length∧0<aL A k∧Rch A s (aF A k)∧Rch A s (aT A k)∧aP A k+lv'.getD (aF A k) 0-lv'.getD (aT A k) 0=0
 nd : (P.map (aT A)).Nodup
theorem Y8 (G:Gr A out lv N s) {st:DS} {dp:Nat→Nat} (F:FD A lv N s st dp):∀ {f v:Nat},v<N→Rch A s v→dp v≤f→PathOK A (lvN lv st N) s v (Fd A st.last s f v)∧∀k∈Fd A st.last s f v,dp (aT A k)≤dp v
 | 0,v,hv,hr,hf=>by
  have e:v=s:=by
   apply Classical.byContradiction
   intro g
   obtain ⟨k,_,_,_,_,_,_,h⟩:=F.par v hv hr g
   omega
  subst e
  exact ⟨⟨.nil,by simp[Fd],by simp[Fd]⟩,by simp[Fd]⟩
 | f + 1,v,hv,hr,hf=>by
  simp only[Fd]
  by_cases e:v=s
  ·subst e
   rw [if_pos rfl]
   exact ⟨⟨.nil,by simp,by simp⟩,by simp⟩
  ·rw [if_neg e]
   obtain ⟨k,a1,a2,a3,a4,a5,a6,a7⟩:=F.par v hv hr e
   rw [a1,Int.toNat_natCast]
   obtain ⟨⟨i1,i2,i3⟩,i4⟩:=Y8 G F (f:=f) (G.ar k a2).1 a5 (by omega)
   refine ⟨⟨?_,?_,?_⟩,?_⟩
   ·rw [←a4];exact .cons k _ i1
   ·intro j hj
    rcases List.mem_cons.1 hj with g | g
    ·subst g
     refine ⟨a2,a3,a5,by rw[a4];exact hr,?_⟩
     rw [OM (G.ar j a2).1,OM (G.ar j a2).2,if_pos ((F.don _ (G.ar j a2).1).2 a5),if_pos ((F.don _ (G.ar j a2).2).2 (by rw[a4];exact hr)),a4,a6]
     unfold nxt
     rw [a4];omega
    ·exact i2 j g
   ·rw [List.map_cons,List.nodup_cons]
    refine ⟨fun hm=>?_,i3⟩
    obtain ⟨j,hj,hje⟩:=List.mem_map.1 hm
    have := i4 j hj
    rw [hje,a4]at this
    omega
   ·intro j hj
    rcases List.mem_cons.1 hj with g | g
    ·subst g;rw[a4];exact Nat.le_refl _
    ·have := i4 j g;omega
theorem Ny (G:Gr A out lv N s) {t:Nat} (ht:Rch A s t):PathOK A (lvM A out lv N s) s t (De A out lv N s t):=by
 obtain ⟨dp,F⟩:=Ss G
 have hN:=Ahn G ht
 have := F.dpN t hN ht
 exact (Y8 G F hN ht (by omega)).1
theorem Afp (G:Gr A out lv N s):(lvM A out lv N s).length=N∧(lvM A out lv N s).getD s 0=0∧(∀k,k<A.length→0<aL A k→Rch A s (aF A k)→0≤aP A k+(lvM A out lv N s).getD (aF A k) 0-(lvM A out lv N s).getD (aT A k) 0) ∧
  (∀ v,v<N→Rch A s v→lv.getD v 0≤(lvM A out lv N s).getD v 0 ∧ -(1000000*(N:Int))≤(lvM A out lv N s).getD v 0∧(lvM A out lv N s).getD v 0≤1000000*(N:Int))∧∀v,v<N→¬Rch A s v→(lvM A out lv N s).getD v 0=lv.getD v 0:=by
 obtain ⟨dp,F⟩:=Ss G
 have hy:∀v,v<N→Rch A s v→(lvM A out lv N s).getD v 0=lv.getD v 0+(Ij A out lv N s).far.getD v 0:=fun v hv hr=>by
  unfold lvM;rw[OM hv,if_pos ((F.don v hv).2 hr)]
 refine ⟨by simp[lvM,lvN],?_,fun k hk hl hr=>?_,fun v hv hr=>?_,fun v hv hr=>?_⟩
 ·rw [hy s G.sN .src,G.l0,F.src];rfl
 ·have hr2:Rch A s (aT A k):=.arc k hk hl hr
  rw [hy _ (G.ar k hk).1 hr,hy _ (G.ar k hk).2 hr2]
  have := F.clo k hk hl hr
  unfold nxt at this
  omega
 ·rw [hy v hv hr]
  have h1:=F.mag v hv hr
  have h2:=(F.far v hv).2 hr
  omega
 ·unfold lvM;rw[OM hv,if_neg (fun h=>hr ((F.don v hv).1 h))]
end
def rv (k:Nat):Nat:=if k % 2=0 then k+1 else k-1
def FJ (A:List Arc) (k:Nat) (x:Int):List Arc:=A.set k ((A.getD k dA).1,(A.getD k dA).2.1,(A.getD k dA).2.2.1+x,(A.getD k dA).2.2.2)
def Dq (A:List Arc) (p:Int) (k:Nat):List Arc:=FJ (FJ A k (-p)) (rv k) p
def aug (A:List Arc) (p:Int) (P:List Nat):List Arc:=P.foldl (fun A k=>Dq A p k) A
theorem Afq {k:Nat}:rv (rv k)=k:=by
 unfold rv
 by_cases h:k % 2=0
 ·rw [if_pos h,if_neg (show ¬(k+1) % 2=0 by omega)];omega
 ·rw [if_neg h,if_pos (show (k-1) % 2=0 by omega)];omega
theorem Vh {k m:Nat} (h:k<2*m):rv k<2*m:=by unfold rv;split <;> omega
theorem Afr {k:Nat}:rv k≠k:=by unfold rv;split <;> omega
theorem FK {A:List Arc} {k:Nat} {x:Int}:(FJ A k x).length=A.length:=by simp[FJ]
theorem Nz {A:List Arc} {k j:Nat} {x:Int} (h:k<A.length):(FJ A k x).getD j dA=if j=k then ((A.getD k dA).1,(A.getD k dA).2.1,(A.getD k dA).2.2.1+x,(A.getD k dA).2.2.2)else A.getD j dA:=by
 unfold FJ
 rw [List.getD_eq_getElem?_getD,List.getElem?_set]
 by_cases e:j=k
 ·subst e;simp[h]
 ·have e':¬k=j:=fun g=>e g.symm
  rw [if_neg e',if_neg e,List.getD_eq_getElem?_getD]
section
variable {A:List Arc} {k j:Nat} {x:Int}
theorem qU (h:k<A.length):aF (FJ A k x) j=aF A j:=by
 unfold aF;rw[Nz h];split
 ·rename_i e;rw[e]
 ·rfl
theorem qV (h:k<A.length):aT (FJ A k x) j=aT A j:=by
 unfold aT;rw[Nz h];split
 ·rename_i e;rw[e]
 ·rfl
theorem qW (h:k<A.length):aP (FJ A k x) j=aP A j:=by
 unfold aP;rw[Nz h];split
 ·rename_i e;rw[e]
 ·rfl
theorem St (h:k<A.length):aL (FJ A k x) j=if j=k then aL A k+x else aL A j:=by
 unfold aL;rw[Nz h];split <;> rfl
end
section
variable {A:List Arc} {p:Int} {m k j:Nat}
theorem GU:(Dq A p k).length=A.length:=by unfold Dq;rw[FK,FK]
theorem X5 (hm:A.length=2*m) (h:k<2*m):aF (Dq A p k) j=aF A j:=by
 have := Vh h
 unfold Dq;rw[qU (by rw[FK];omega),qU (by omega)]
theorem X6 (hm:A.length=2*m) (h:k<2*m):aT (Dq A p k) j=aT A j:=by
 have := Vh h
 unfold Dq;rw[qV (by rw[FK];omega),qV (by omega)]
theorem qX (hm:A.length=2*m) (h:k<2*m):aP (Dq A p k) j=aP A j:=by
 have := Vh h
 unfold Dq;rw[qW (by rw[FK];omega),qW (by omega)]
theorem Mn (hm:A.length=2*m) (h:k<2*m):aL (Dq A p k) j=aL A j-(if j=k then p else 0)+if j=rv k then p else 0:=by
 have h1:=Vh h
 have h2:=Afr (k:=k)
 unfold Dq;rw[St (by rw[FK];omega),St (by omega),St (by omega)]
 by_cases e1:j=rv k
 ·rw [if_pos e1,if_pos e1,if_neg (by omega),if_neg (by omega),e1];omega
 ·rw [if_neg e1,if_neg e1]
  by_cases e2:j=k
  ·rw [if_pos e2,if_pos e2,e2];omega
  ·rw [if_neg e2,if_neg e2];omega
theorem D5:∀ {P:List Nat} {A:List Arc},(aug A p P).length=A.length
 | [],_=>rfl
 | k::P,A=>by
  have e:aug A p (k::P)=aug (Dq A p k) p P:=rfl
  rw [e,D5,GU]
theorem Lf:∀ {P:List Nat} {A:List Arc},A.length=2*m→(∀k∈P,k<2*m)→aF (aug A p P) j=aF A j∧aT (aug A p P) j=aT A j∧aP (aug A p P) j=aP A j
 | [],_,_,_=>⟨rfl,rfl,rfl⟩
 | k::P,A,hm,h=>by
  have e:aug A p (k::P)=aug (Dq A p k) p P:=rfl
  have hk:=h k (by simp)
  obtain ⟨h1,h2,h3⟩:=Lf (P:=P) (A:=Dq A p k) (by rw[GU];exact hm) fun k hk=>h k (by simp[hk])
  rw [e,h1,h2,h3,X5 hm hk,X6 hm hk,qX hm hk]
  exact ⟨rfl,rfl,rfl⟩
theorem QT:∀ {P:List Nat} {A:List Arc},A.length=2*m→(∀k∈P,k<2*m)→aL (aug A p P) j=aL A j-p*(P.count j:Int)+p*(P.count (rv j):Int)
 | [],A,_,_=>by simp[aug]
 | k::P,A,hm,h=>by
  have e:aug A p (k::P)=aug (Dq A p k) p P:=rfl
  have hk:=h k (by simp)
  rw [e,QT (P:=P) (A:=Dq A p k) (by rw[GU];exact hm) fun k hk=>h k (by simp[hk]),Mn hm hk]
  rw [List.count_cons,List.count_cons]
  have c1:(k==j)=decide (j=k):=by
   rw [Bool.eq_iff_iff];simp;exact⟨fun h=>h.symm,fun h=>h.symm⟩
  have c2:(k==rv j)=decide (j=rv k):=by
   rw [Bool.eq_iff_iff];simp
   exact ⟨fun h=>by rw[h,Afq],fun h=>by rw[h,Afq]⟩
  rw [c1,c2]
  have hx:∀(c:Nat) (q:Prop) [Decidable q],p*((c+(if decide q=true then 1 else 0):Nat):Int)=p*(c:Int)+if q then p else 0:=fun c q _=>by
   by_cases hq:q
   ·simp only[hq,decide_true,if_true]
    rw [Int.natCast_add,Int.mul_add];simp
   ·simp only[hq,decide_false,if_false]
    simp
  rw [hx,hx]
  omega
end
def fnA (A:List Arc) (N s t:Nat):FN:=⟨N,A.length / 2,s,t,fun i=>aF A (2*i),fun i=>aT A (2*i),fun i=>aL A (2*i)+aL A (2*i+1),fun i=>aP A (2*i)⟩
def flA (A:List Arc) (i:Nat):Int:=aL A (2*i+1)
structure WPr (A:List Arc) (m:Nat):Prop where
 len : A.length=2*m
 F : ∀i,i<m→aF A (2*i+1)=aT A (2*i)
 T : ∀i,i<m→aT A (2*i+1)=aF A (2*i)
 P : ∀i,i<m→aP A (2*i+1) = - aP A (2*i)
 nn : ∀j,j<2*m→0≤aL A j
theorem WPr.rv {A:List Arc} {m:Nat} (w:WPr A m) {k:Nat} (h:k<2*m):aF A (rv k)=aT A k∧aT A (rv k)=aF A k∧aP A (rv k) = - aP A k:=by
 unfold Sim.rv
 by_cases e:k % 2=0
 ·rw [if_pos e]
  have h1:=w.F (k / 2) (by omega)
  have h2:=w.T (k / 2) (by omega)
  have h3:=w.P (k / 2) (by omega)
  rw [show 2*(k / 2)=k by omega]at h1 h2 h3
  exact ⟨h1,h2,h3⟩
 ·rw [if_neg e]
  have h1:=w.F (k / 2) (by omega)
  have h2:=w.T (k / 2) (by omega)
  have h3:=w.P (k / 2) (by omega)
  rw [show 2*(k / 2)+1=k by omega,show 2*(k / 2)=k-1 by omega]at h1 h2 h3
  exact ⟨h2.symm,h1.symm,by omega⟩
section
variable {A:List Arc} {m N s t:Nat} {p:Int}
theorem gW {B:List Arc} (h:∀k,aF B k=aF A k∧aT B k=aT A k) {v:Nat} {P:List Nat} (hp:IsP A s v P):IsP B s v P:=by
 induction hp with
 | nil=>exact .nil
 | cons k P _ ih =>
  rw [←(h k).2]
  refine .cons k P ?_
  rw [(h k).1];exact ih
theorem Y9 {v:Nat} {P:List Nat} (hI:IsP A s v P):∀(w:∀i,i<m→aF A (2*i+1)=aT A (2*i)∧aT A (2*i+1)=aF A (2*i)) (hl:A.length=2*m),(∀k∈P,k<2*m)→∀x,(fnA A N s t).net (flA (aug A p P)) x=(fnA A N s t).net (flA A) x+((if s=x then p else 0)-if v=x then p else 0):=by
 intro w hl hP x
 have key:∀ {P:List Nat} {v:Nat} {B:List Arc},IsP B s v P→B.length=2*m→(∀i,i<m→aF B (2*i+1)=aT B (2*i)∧aT B (2*i+1)=aF B (2*i))→(∀k∈P,k<2*m)→(fnA B N s t).net (flA (aug B p P)) x=(fnA B N s t).net (flA B) x+((if s=x then p else 0)-if v=x then p else 0):=by
  intro P
  induction P with
  | nil =>
   intro v B h hl w hP
   cases h
   show (fnA B N s t).net (flA B) x=_
   omega
  | cons k P ih =>
   intro v B h hl w hP
   cases h with
   | cons _ _ h =>
    have hk:=hP k (by simp)
    have hs:∀j,aF (Dq B p k) j=aF B j∧aT (Dq B p k) j=aT B j:=fun j=>⟨X5 hl hk,X6 hl hk⟩
    have h1:=ih (v:=aF B k) (B:=Dq B p k) (gW hs h) (by rw[GU];exact hl) (fun i hi=>by rw[(hs _).1,(hs _).2,(hs _).1,(hs _).2];exact w i hi) fun j hj=>hP j (by simp[hj])
    have e:aug B p (k::P)=aug (Dq B p k) p P:=rfl
    have hn:∀f,(fnA (Dq B p k) N s t).net f x=(fnA B N s t).net f x:=fun f=>by
     unfold FN.net fnA
     dsimp only
     rw [GU]
     have hF:∀j,aF (Dq B p k) j=aF B j:=fun j=>(hs j).1
     have hT:∀j,aT (Dq B p k) j=aT B j:=fun j=>(hs j).2
     simp only[hF,hT]
    rw [hn,hn]at h1
    rw [e,h1]
    -- one arc
    have hm:(fnA B N s t).m=m:=by show B.length / 2=m;rw[hl];omega
    have e2:(fnA B N s t).net (flA (Dq B p k)) x=(fnA B N s t).net (flA B) x+An (fun i=>if k / 2=i then ((if aF B k=x then p else 0)-if aT B k=x then p else 0)else 0) m:=by
     unfold FN.net
     rw [hm,←BB]
     refine Ag fun i hi=>?_
     show (if aF B (2*i)=x then flA (Dq B p k) i else 0)-(if aT B (2*i)=x then flA (Dq B p k) i else 0)=(if aF B (2*i)=x then flA B i else 0)-(if aT B (2*i)=x then flA B i else 0)+_
     unfold flA
     rw [Mn hl hk]
     by_cases c:k / 2=i
     ·rw [if_pos c]
      by_cases e:k % 2=0
      ·have e1:k=2*i:=by omega
       have e2:rv k=2*i+1:=by unfold rv;rw[if_pos e];omega
       rw [if_neg (show ¬2*i+1=k by omega),if_pos e2.symm,e1]
       repeat' split
       all_goals omega
      ·have e1:k=2*i+1:=by omega
       have e2:rv k=2*i:=by unfold rv;rw[if_neg e];omega
       rw [if_pos e1.symm,if_neg (show ¬2*i+1=rv k by omega),e1,(w i hi).1,(w i hi).2]
       repeat' split
       all_goals omega
     ·have e2:¬2*i+1=rv k:=by unfold rv;split <;> omega
      rw [if_neg c,if_neg (show ¬2*i+1=k by omega),if_neg e2]
      simp
    rw [e2,BG,if_pos (by omega)]
    omega
 exact key hI hl w hP
theorem Aho {P:List Nat}:∀ {A:List Arc} (w:∀i,i<m→aF A (2*i+1)=aT A (2*i)∧aT A (2*i+1)=aF A (2*i)) (hl:A.length=2*m) (hP:∀k∈P,k<2*m),(∀i,(fnA (aug A p P) N s t).cap i=(fnA A N s t).cap i):=by
 intro A w hl hP i
 show aL (aug A p P) (2*i)+aL (aug A p P) (2*i+1)=aL A (2*i)+aL A (2*i+1)
 rw [QT hl hP,QT hl hP]
 have e1:rv (2*i)=2*i+1:=by unfold rv;rw[if_pos (by omega)]
 have e2:rv (2*i+1)=2*i:=by unfold rv;rw[if_neg (by omega)];omega
 rw [e1,e2];omega
theorem Ahp (w:WPr A m) {P:List Nat} {lv':List Int} {v:Nat} (h:PathOK A lv' s v P) (hp:0≤p) (hk:∀k∈P,p≤aL A k):WPr (aug A p P) m:=by
 have hP:∀k∈P,k<2*m:=fun k hk=>by rw[←w.len];exact (h.arc k hk).1
 have hs:=fun j=>Lf (p:=p) (j:=j) w.len hP
 refine ⟨by rw[D5];exact w.len,fun i hi=>?_,fun i hi=>?_,fun i hi=>?_,fun j hj=>?_⟩
 ·rw [(hs _).1,(hs _).2.1];exact w.F i hi
 ·rw [(hs _).1,(hs _).2.1];exact w.T i hi
 ·rw [(hs _).2.2,(hs _).2.2];exact w.P i hi
 ·rw [QT w.len hP]
  have h0:=w.nn j hj
  have hnd:P.Nodup:=List.Pairwise.of_map (aT A) (fun a b g e=>g (by rw[e])) h.nd
  have c1:P.count j≤1:=List.nodup_iff_count.1 hnd j
  have c2:(0:Int)≤p*(P.count (rv j):Int):=Int.mul_nonneg hp (by omega)
  by_cases hj:j∈P
  ·have := hk j hj
   have e:P.count j=1:=by have:=List.count_pos_iff.2 hj;omega
   rw [e];simp;omega
  ·rw [List.count_eq_zero_of_not_mem hj];simp;omega
end
structure SI (A:List Arc) (out:List (List Nat)) (lv:List Int) (N m s t:Nat) (sent:Int):Prop where
 wp : WPr A m
 ar : ∀k,k<A.length→aF A k<N∧aT A k<N
 out1 : ∀u,u<N→∀k∈out.getD u [],k<A.length∧aF A k=u
 out2 : ∀k,k<A.length→k∈out.getD (aF A k) []
 lo : out.length=N
 ll : lv.length=N
 sN : s<N
 tN : t<N
 st : s≠t
 pr : ∀k,k<A.length → -1000000≤aP A k∧aP A k≤1000000
 l0 : lv.getD s 0=0
 lvb : ∀v,v<N → -(1000000*(N:Int))≤lv.getD v 0∧lv.getD v 0≤1000000*(N:Int)
 val : (fnA A N s t).Val (flA A) sent
 pot : ∃φ:Nat→Int,(∀k,k<A.length→0<aL A k→0≤aP A k+φ (aF A k)-φ (aT A k))∧∀v,Rch A s v→φ v=lv.getD v 0
section
variable {A:List Arc} {out:List (List Nat)} {lv:List Int} {N m s t:Nat} {sent p:Int}
theorem SI.gr (S:SI A out lv N m s t sent):Gr A out lv N s:=by
 obtain ⟨φ,h1,h2⟩:=S.pot
 refine ⟨S.ar,S.out1,S.out2,S.lo,S.ll,S.sN,S.pr,fun k hk hl hr=>?_,S.l0⟩
 have := h1 k hk hl
 rwa [h2 _ hr,h2 _ (.arc k hk hl hr)]at this
theorem Mo {P:List Nat} (w:WPr A m) (hP:∀k∈P,k<2*m):fnA (aug A p P) N s t=fnA A N s t:=by
 have hs:=fun j=>Lf (p:=p) (j:=j) w.len hP
 have hc:=Aho (N:=N) (s:=s) (t:=t) (p:=p) (A:=A) (fun i hi=>⟨w.F i hi,w.T i hi⟩) w.len hP
 unfold fnA at hc ⊢
 dsimp only at hc
 rw [D5]
 have e1:(fun i=>aF (aug A p P) (2*i))=fun i=>aF A (2*i):=funext fun i=>(hs _).1
 have e2:(fun i=>aT (aug A p P) (2*i))=fun i=>aT A (2*i):=funext fun i=>(hs _).2.1
 have e3:(fun i=>aP (aug A p P) (2*i))=fun i=>aP A (2*i):=funext fun i=>(hs _).2.2
 have e4:(fun i=>aL (aug A p P) (2*i)+aL (aug A p P) (2*i+1))=fun i=>aL A (2*i)+aL A (2*i+1):=funext hc
 rw [e1,e2,e3,e4]
theorem Aa5 (S:SI A out lv N m s t sent) (ht:Rch A s t) (hp:0≤p) (hk:∀k∈De A out lv N s t,p≤aL A k):SI (aug A p (De A out lv N s t)) out (lvM A out lv N s) N m s t (sent+p):=by
 have G:=S.gr
 have hpo:=Ny G ht
 obtain ⟨y1,y2,y3,y4,y5⟩:=Afp G
 generalize De A out lv N s t=P at *
 generalize lvM A out lv N s=lv' at *
 have hP:∀k∈P,k<2*m:=fun k hk=>by rw[←S.wp.len];exact (hpo.arc k hk).1
 have hs:=fun j=>Lf (p:=p) (j:=j) S.wp.len hP
 have hsF:∀j,aF (aug A p P) j=aF A j:=fun j=>(hs j).1
 have hsT:∀j,aT (aug A p P) j=aT A j:=fun j=>(hs j).2.1
 have hsP:∀j,aP (aug A p P) j=aP A j:=fun j=>(hs j).2.2
 -- an open arc was open, or is the reverse of one of the path
 have hop:∀k,k<A.length→0<aL (aug A p P) k→(0<aL A k)∨(rv k∈P):=fun k hk h=>by
  rw [QT S.wp.len hP]at h
  by_cases c:rv k∈P
  ·exact .inr c
  ·rw [List.count_eq_zero_of_not_mem c]at h
   have := Int.mul_nonneg hp (show (0:Int)≤(P.count k:Int) by omega)
   refine .inl ?_
   simp at h;omega
 have hrev:∀k,k<A.length→rv k∈P→Rch A s (aF A k)∧Rch A s (aT A k)∧aP A k+lv'.getD (aF A k) 0-lv'.getD (aT A k) 0=0:=fun k hk h=>by
  obtain ⟨_,_,a1,a2,a3⟩:=hpo.arc _ h
  obtain ⟨b1,b2,b3⟩:=S.wp.rv (k:=k) (by rw[←S.wp.len];exact hk)
  rw [b1]at a1
  rw [b2]at a2
  rw [b1,b2,b3]at a3
  exact ⟨a2,a1,by omega⟩
 have hR:∀v,Rch (aug A p P) s v→Rch A s v:=fun v h=>by
  induction h with
  | src=>exact .src
  | arc k hk hl h ih =>
   rw [D5]at hk
   rw [hsT]
   rw [hsF]at ih
   rcases hop k hk hl with g | g
   ·exact .arc k hk g ih
   ·exact (hrev k hk g).2.1
 refine ⟨Ahp S.wp hpo hp hk,fun k hk=>?_,fun u hu k hk=>?_,fun k hk=>?_,S.lo,y1,S.sN,S.tN,S.st,fun k hk=>?_,y2,fun v hv=>?_,fun v hv=>?_,?_⟩
 ·rw [hsF,hsT];rw[D5]at hk;exact S.ar k hk
 ·rw [hsF,D5];exact S.out1 u hu k hk
 ·rw [hsF];rw[D5]at hk;exact S.out2 k hk
 ·rw [hsP];rw[D5]at hk;exact S.pr k hk
 ·by_cases c:Rch A s v
  ·exact (y4 v hv c).2
  ·rw [y5 v hv c];exact S.lvb v hv
 ·have hn:=Y9 (N:=N) (t:=t) (p:=p) (m:=m) hpo.isP (fun i hi=>⟨S.wp.F i hi,S.wp.T i hi⟩) S.wp.len hP v
  rw [Mo S.wp hP,hn,S.val v hv]
  show (if s=v then sent else 0)-(if t=v then sent else 0)+_=(if s=v then sent+p else 0)-(if t=v then sent+p else 0)
  repeat' split
  all_goals omega
 ·obtain ⟨φ,f1,f2⟩:=S.pot
  refine ⟨fun v=>@ite _ (Rch A s v) (Classical.propDecidable _) (lv'.getD v 0) (φ v+2000000*(N:Int)),fun k hk hl=>?_,fun v hv=>?_⟩
  ·rw [D5]at hk
   rw [hsF,hsT,hsP]
   dsimp only
   rcases hop k hk hl with g | g
   ·have h1:=f1 k hk g
    obtain ⟨u1,u2⟩:=S.ar k hk
    by_cases c1:Rch A s (aF A k)
    ·have c2:Rch A s (aT A k):=.arc k hk g c1
     rw [if_pos c1,if_pos c2]
     exact y3 k hk g c1
    ·rw [if_neg c1]
     by_cases c2:Rch A s (aT A k)
     ·rw [if_pos c2]
      have h2:=f2 _ c2
      have h3:=y4 _ u2 c2
      have h4:=S.lvb _ u2
      omega
     ·rw [if_neg c2];omega
   ·obtain ⟨a1,a2,a3⟩:=hrev k hk g
    rw [if_pos a1,if_pos a2];omega
  ·dsimp only;rw[if_pos (hR v hv)]
theorem Za (S:SI A out lv N m s t sent):(fnA A N s t).WF∧(fnA A N s t).Flow (flA A) sent∧∃φ,(fnA A N s t).Pot (flA A) φ:=by
 have hm:(fnA A N s t).m=m:=by show A.length / 2=m;rw[S.wp.len];omega
 obtain ⟨φ,f1,f2⟩:=S.pot
 have hl:=S.wp.len
 refine ⟨⟨S.sN,S.tN,fun i hi=>?_⟩,⟨fun i hi=>?_,fun i hi=>?_,S.val⟩,φ,fun i hi=>⟨fun h=>?_,fun h=>?_⟩⟩ <;> rw[hm]at hi
 ·exact S.ar (2*i) (by omega)
 ·exact S.wp.nn _ (by omega)
 ·have := S.wp.nn (2*i) (by omega)
  show aL A (2*i+1)≤aL A (2*i)+aL A (2*i+1)
  omega
 ·have h:aL A (2*i+1)<aL A (2*i)+aL A (2*i+1):=h
  exact f1 (2*i) (by omega) (by omega)
 ·have h:0<aL A (2*i+1):=h
  have := f1 (2*i+1) (by omega) h
  rw [S.wp.F i hi,S.wp.T i hi,S.wp.P i hi]at this
  show aP A (2*i)+φ (aF A (2*i))-φ (aT A (2*i))≤0
  omega
theorem Ahq (S:SI A out lv N m s t sent) (h:¬Rch A s t) {f:Nat→Int} {b:Int} (hf:(fnA A N s t).Flow f b):b≤sent:=by
 have hm:(fnA A N s t).m=m:=by show A.length / 2=m;rw[S.wp.len];omega
 have hl:=S.wp.len
 refine @FN.cut (fnA A N s t) (Za S).1 (flA A) f sent b (Rch A s) (fun _=>Classical.propDecidable _) S.val hf .src h (fun i hi h1 h2=>?_) fun i hi h1 h2=>?_
 ·rw [hm]at hi
  show aL A (2*i)+aL A (2*i+1)≤aL A (2*i+1)
  have : ¬0<aL A (2*i):=fun g=>h2 (.arc (2*i) (by omega) g h1)
  omega
 ·rw [hm]at hi
  show aL A (2*i+1)≤0
  have : ¬0<aL A (2*i+1):=fun g=>h1 (by
   have : Rch A s (aT A (2*i+1)):=.arc (2*i+1) (by omega) g (by rw[S.wp.F i hi];exact h2)
   rwa [S.wp.T i hi]at this)
  omega
end
def Dj (A:List Arc) (b:Int) (P:List Nat):Int:=P.foldl (fun x k=>if aL A k<x then aL A k else x) b
theorem Zb {A:List Arc}:∀ {P:List Nat} {b:Int},Dj A b P≤b∧(∀k∈P,Dj A b P≤aL A k)∧(0<b→(∀k∈P,0<aL A k)→0<Dj A b P)
 | [],b=>⟨Int.le_refl _,by simp,fun h _=>h⟩
 | k::P,b=>by
  obtain ⟨h1,h2,h3⟩:=Zb (A:=A) (P:=P) (b:=if aL A k<b then aL A k else b)
  have e:Dj A b (k::P)=Dj A (if aL A k<b then aL A k else b) P:=rfl
  rw [e]
  refine ⟨?_,fun j hj=>?_,fun hb hj=>h3 ?_ fun j hj'=>hj j (by simp[hj'])⟩
  ·split at h1 <;> rename_i c <;> simp only[c,if_true,if_false] <;> omega
  ·rcases List.mem_cons.1 hj with g | g
   ·subst g
    split at h1 <;> rename_i c <;> simp only[c,if_true,if_false] <;> omega
   ·exact h2 j g
  ·have := hj k (by simp)
   split <;> omega
inductive SendR (out:List (List Nat)) (N s t:Nat) (bytes:Int):List Arc→List Int→Int→List Arc→Int→Prop
 | full (A lv sent) (h:¬sent<bytes):SendR out N s t bytes A lv sent A sent
 | stop (A lv sent) (h:sent<bytes) (hd:(Ij A out lv N s).done.getD t true=false):SendR out N s t bytes A lv sent A sent
 | step (A lv sent A' r) (h:sent<bytes) (hd:(Ij A out lv N s).done.getD t true=true)
   (hr : SendR out N s t bytes (aug A (Dj A (bytes-sent) (De A out lv N s t)) (De A out lv N s t)) (lvM A out lv N s) (sent+Dj A (bytes-sent) (De A out lv N s t)) A' r):SendR out N s t bytes A lv sent A' r
theorem qY {out:List (List Nat)} {N s t:Nat} {bytes:Int} {A:List Arc} {lv:List Int} {sent:Int} {A' A'':List Arc} {r r':Int} (h:SendR out N s t bytes A lv sent A' r) (h':SendR out N s t bytes A lv sent A'' r'):A'=A''∧r=r':=by
 induction h with
 | full A lv sent h =>
  cases h' with
  | full=>exact⟨rfl,rfl⟩
  | stop _ _ _ g=>exact absurd g h
  | step _ _ _ _ _ g=>exact absurd g h
 | stop A lv sent h hd =>
  cases h' with
  | full _ _ _ g=>exact absurd h g
  | stop=>exact⟨rfl,rfl⟩
  | step _ _ _ _ _ _ g=>rw[hd]at g;cases g
 | step A lv sent A' r h hd hr ih =>
  cases h' with
  | full _ _ _ g=>exact absurd h g
  | stop _ _ _ _ g=>rw[hd]at g;cases g
  | step _ _ _ _ _ _ _ g=>exact ih g
section
variable {A:List Arc} {out:List (List Nat)} {lv:List Int} {N m s t:Nat} {sent bytes:Int}
theorem Lg (S:SI A out lv N m s t sent):(Ij A out lv N s).done.getD t true=true↔Rch A s t:=by
 obtain ⟨dp,F⟩:=Ss S.gr
 exact F.don t S.tN
theorem ON (S:SI A out lv N m s t sent) (h:sent<bytes) (hd:(Ij A out lv N s).done.getD t true=true):SI (aug A (Dj A (bytes-sent) (De A out lv N s t)) (De A out lv N s t)) out (lvM A out lv N s) N m s t (sent+Dj A (bytes-sent) (De A out lv N s t))∧0<Dj A (bytes-sent) (De A out lv N s t)∧Dj A (bytes-sent) (De A out lv N s t)≤bytes-sent:=by
 have ht:=(Lg S).1 hd
 have hpo:=Ny S.gr ht
 obtain ⟨h1,h2,h3⟩:=Zb (A:=A) (P:=De A out lv N s t) (b:=bytes-sent)
 have h4:=h3 (by omega) fun k hk=>(hpo.arc k hk).2.1
 exact ⟨Aa5 S ht (by omega) h2,h4,h1⟩
theorem Aa6:∀(n:Nat) {A:List Arc} {lv:List Int} {sent:Int},(bytes-sent).toNat≤n→SI A out lv N m s t sent→∃A' r,SendR out N s t bytes A lv sent A' r:=by
 intro n
 induction n with
 | zero =>
  intro A lv sent hn S
  exact ⟨A,sent,.full _ _ _ (by omega)⟩
 | succ n ih =>
  intro A lv sent hn S
  by_cases h:sent<bytes
  ·cases hd:(Ij A out lv N s).done.getD t true with
   | false=>exact⟨A,sent,.stop _ _ _ h hd⟩
   | true =>
    obtain ⟨S',h1,h2⟩:=ON S h hd
    obtain ⟨A',r,hr⟩:=ih (by omega) S'
    exact ⟨A',r,.step _ _ _ _ _ h hd hr⟩
  ·exact ⟨A,sent,.full _ _ _ h⟩
theorem Aa7 {A':List Arc} {r:Int} (h:SendR out N s t bytes A lv sent A' r):SI A out lv N m s t sent→sent≤bytes→∃lv',SI A' out lv' N m s t r∧r≤bytes∧sent≤r∧(r<bytes→¬Rch A' s t)∧fnA A' N s t=fnA A N s t:=by
 induction h with
 | full A lv sent h=>exact fun S hb=>⟨lv,S,hb,Int.le_refl _,fun g=>absurd g h,rfl⟩
 | stop A lv sent h hd =>
  intro S hb
  exact ⟨lv,S,hb,Int.le_refl _,fun _ g=>(by rw[(Lg S).2 g]at hd;cases hd),rfl⟩
 | step A lv sent A' r h hd hr ih =>
  intro S hb
  obtain ⟨S',h1,h2⟩:=ON S h hd
  obtain ⟨lv',a1,a2,a3,a4,a5⟩:=ih S' (by omega)
  refine ⟨lv',a1,a2,by omega,a4,a5.trans ?_⟩
  have hpo:=Ny S.gr ((Lg S).1 hd)
  exact Mo S.wp fun k hk=>by rw[←S.wp.len];exact (hpo.arc k hk).1
end
noncomputable def DT (A:List Arc) (out:List (List Nat)) (lv:List Int) (N s t:Nat) (bytes:Int):List Arc×Int:=@dite _ (∃x:List Arc×Int,SendR out N s t bytes A lv 0 x.1 x.2) (Classical.propDecidable _) Classical.choose fun _=>([],0)
section
variable {A:List Arc} {out:List (List Nat)} {lv:List Int}
theorem qZ {N s t:Nat} {bytes:Int} {A':List Arc} {r:Int} (h:SendR out N s t bytes A lv 0 A' r):DT A out lv N s t bytes=(A',r):=by
 unfold DT
 rw [dif_pos ⟨(A',r),h⟩]
 have := Classical.choose_spec (⟨(A',r),h⟩:∃x:List Arc×Int,SendR out N s t bytes A lv 0 x.1 x.2)
 obtain ⟨h1,h2⟩:=qY this h
 exact Prod.ext h1 h2
theorem Zc {N m s t:Nat} {bytes:Int} (S:SI A out lv N m s t 0):SendR out N s t bytes A lv 0 (DT A out lv N s t bytes).1 (DT A out lv N s t bytes).2:=by
 obtain ⟨A',r,h⟩:=Aa6 (bytes:=bytes) _ (Nat.le_refl _) S
 rw [qZ h];exact h
end
end Sim
