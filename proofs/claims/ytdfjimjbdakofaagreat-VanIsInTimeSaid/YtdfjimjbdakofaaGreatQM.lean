/- Lemmas. -/
import Derived.Test.YtdfjimjbdakofaaGreatQN8
set_option maxRecDepth 10000
set_option maxHeartbeats 4000000
set_option linter.all false
open Bool renaming and_eq_true->fy
open Classical renaming not_not->t9,byContradiction->pq
open Go.IntKind renaming i64->nm
open Go.Proofs.Tryz renaming prog->pk
open Int renaming le_refl->pj,toNat_natCast->pe,natCast_mul->ug,natCast_add->uh
open List renaming map_cons->nj,mem_iff_getElem->oc,mem_map->oh,mem_cons->li,take_length->r7,not_mem_nil->ua,cons.injEq->ix,take->sy,drop->ub,take_left'->uc,drop_of_length_le->ud,replicate->ba,ext_getElem->ru,length_replicate->ft,mem_singleton->ku,length_set->ra
open Nat renaming le_refl->cg,mul_le_mul_right->ff,reduceBEq->r8,mul_le_mul->uf,succ_mul->sh
open Sim.PV renaming cells->gi,agg.injEq->qr,int.injEq->qt,lits.injEq->s6,nils->na
open Sim.Store renaming new->kp,set->kd,re->ue
noncomputable section
namespace Sim
open Go Go.Proofs
attribute [local congr] Ah Ai Ag At Al Aj Aq HD
def atM (ls:List Lnk) (l:List Snd) (d:Dem) (t:Int):Prop:=d.2.2.2.1<=t/\t<=d.2.2.2.2/\d.2.2.1<=Ba ls l d d.2.1 t
instance {ls:List Lnk} {l:List Snd} {d:Dem} {t:Int}:Decidable (atM ls l d t):=inferInstanceAs (Decidable (_/\_))
theorem Th {hn:Int} {ls:List Lnk} {l:List Snd} (ok:OKr hn ls l) {i:Nat}:∀ {k},i<=k->k<l.length->(l.getD i dS).2.1<=(l.getD k dS).2.1
 | 0,h,_=>by rw[show i=0 by omega];exact pj _
 | k+1,h,hk=>by
  by_cases e:i=k+1
  .rw [e];exact pj _
  .have ih:=Th ok (i:=i) (k:=k) (by omega) (by omega)
   have := ok.asc (k+1) (by omega) hk
   rw [show k+1-1=k by omega]at this
   omega
theorem VP {hn:Int} {ls:List Lnk} {l:List Snd} {d:Dem} (h:Cz hn ls l d=0):OKr hn ls l/\Ed hn d=true/\Cy hn ls l=0/\svR ls l d l.length=false/\d.2.2.1<=Ba ls l d d.2.1 d.2.2.2.2:=by
 unfold Cz at h
 split at h
 .contradiction
 .rename_i h1
  split at h
  .cases h
  .rename_i h2
   split at h
   .contradiction
   .rename_i h3
    split at h
    .cases h
    .rename_i h4
     split at h
     .cases h
     .rename_i h5
      exact ⟨right_zero.1 (t9.1 h1),by simpa using h2,t9.1 h3,by simpa using h4,by omega⟩
end Sim
namespace Sim
open Go Go.Proofs
def Sm (f:Nat->Int):Nat->Int
 | 0=>0
 | n+1=>Sm f n+f n
theorem VQ {f g:Nat->Int}:∀ {n},(∀i,i<n->f i<=g i)->Sm f n<=Sm g n
 | 0,_=>pj _
 | n+1,h=>by
  have ih:=VQ (n:=n) λi hi=>h i (by omega)
  have := h n (by omega)
  simp only[Sm];omega
theorem Br {f g:Nat->Int}:∀ {n},(∀i,i<n->f i=g i)->Sm f n=Sm g n
 | 0,_=>rfl
 | n+1,h=>by
  have ih:=Br (n:=n) λi hi=>h i (by omega)
  simp only[Sm,ih,h n (by omega)]
theorem GQ {f g:Nat->Int}:∀n,Sm (λi=>f i+g i) n=Sm f n+Sm g n
 | 0=>rfl
 | n+1=>by simp only[Sm,GQ n];omega
theorem MY {f g:Nat->Int}:∀n,Sm (λi=>f i-g i) n=Sm f n-Sm g n
 | 0=>rfl
 | n+1=>by simp only[Sm,MY n];omega
theorem B6:∀n,Sm (λ_=>0) n=0
 | 0=>rfl
 | n+1=>by simp only[Sm,B6 n];rfl
theorem ZU {f:Nat->Nat->Int} {m:Nat}:∀n,Sm (λi=>Sm (λh=>f h i) m) n=Sm (λh=>Sm (λi=>f h i) n) m
 | 0=>by simp only[Sm];exact (B6 m).symm
 | n+1=>by simp only[Sm,ZU n,GQ]
theorem Pr {x v:Int}:∀n:Nat,Sm (λh=>if x=(h:Int)then v else 0) n=if 0<=x/\x<(n:Int)then v else 0
 | 0=>by rw[if_neg (by omega)];rfl
 | n+1=>by
  simp only[Sm,Pr n]
  by_cases h1:x=(n:Int)
  .rw [if_neg (by omega),if_pos h1,if_pos (by omega)];omega
  .by_cases h2:0<=x/\x<(n:Int)
   .rw [if_pos h2,if_neg h1,if_pos (by omega)];omega
   .rw [if_neg h2,if_neg h1,if_neg (by omega)];rfl
theorem Cm {f:Nat->Int} {n:Nat} (h:∀i,i<n->0<=f i):0<=Sm f n:=by
 have := VQ (f:=λ_=>0) (g:=f) (n:=n) h
 rwa [B6]at this
theorem Hd {f:Nat->Int} {n k:Nat} (h:∀i,i<n->0<=f i) (hk:k<n):f k<=Sm f n:=by
 induction n with
 | zero=>omega
 | succ n ih =>
  have h0:=Cm (f:=f) (n:=n) λi hi=>h i (by omega)
  have hn:=h n (by omega)
  simp only[Sm]
  by_cases e:k=n
  .subst e;omega
  .have := ih (λi hi=>h i (by omega)) (by omega)
   omega
theorem DA {ls:List Lnk} {l:List Snd} {at_ tick:Int}:∀n,EW ls l at_ tick n=Sm (λi=>CI ls (l.getD i dS) at_ tick) n
 | 0=>rfl
 | n+1=>by simp only[EW,Sm,DA n]
theorem JF {ls:List Lnk} {l:List Snd} {t f:Int}:∀n,Dz ls l t f n=Sm (λi=>if (l.getD i dS).2.1=t/\frM ls l i=f then (l.getD i dS).2.2 else 0) n
 | 0=>rfl
 | n+1=>by simp only[Dz,Sm,JF n]
structure Serving (hn:Int) (ls:List Lnk) (l:List Snd) (d:Dem):Prop where
 ok : OKr hn ls l
 from_ : 0<=d.1/\d.1<hn
 to_ : 0<=d.2.1/\d.2.1<hn
 dem : IG d
 fits : Cy hn ls l=0
 fed : ∀k,k<l.length->Dz ls l (l.getD k dS).2.1 (frM ls l k) l.length<=Ba ls l d (frM ls l k) (l.getD k dS).2.1
 late : d.2.2.1<=Ba ls l d d.2.1 d.2.2.2.2
section
variable {hn:Int} {ls:List Lnk} {l:List Snd}
theorem serves_iff {d:Dem}:Cz hn ls l d=0↔Serving hn ls l d:=by
 constructor
 .intro h
  obtain ⟨h1,h2,h3,h4,h5⟩:=VP h
  simp only[Ed,fy,decide_eq_true_eq,hOK]at h2
  refine ⟨h1,h2.1.1,h2.1.2,h2.2,h3,λk hk=>?_,h5⟩
  apply pq
  intro hc
  have : svR ls l d l.length=true:=svR_iff.2 ⟨k,hk,by omega⟩
  rw [h4]at this;cases this
 .intro h
  have hd:Ed hn d=true:=by
   simp only[Ed,fy,decide_eq_true_eq,hOK]
   exact ⟨⟨h.from_,h.to_⟩,h.dem⟩
  have hs:svR ls l d l.length=false:=by
   cases hs:svR ls l d l.length with
   | false=>rfl
   | true =>
    obtain ⟨k,hk,g⟩:=svR_iff.1 hs
    have := h.fed k hk
    omega
  unfold Cz
  rw [if_neg (λg=>g (right_zero.2 h.ok)),if_neg (by rw[hd];simp),if_neg (λg=>g h.fits),if_neg (by rw[hs];simp),if_neg (by have:=h.late;omega)]
theorem ends (ok:OKr hn ls l) {k:Nat} (hk:k<l.length):(0<=(AB ls (l.getD k dS)).1/\(AB ls (l.getD k dS)).1<hn)/\(0<=(AB ls (l.getD k dS)).2.1/\(AB ls (l.getD k dS)).2.1<hn)/\(AB ls (l.getD k dS)).1≠(AB ls (l.getD k dS)).2.1:=by
 have e1:=ok.link k hk
 have := ok.net.ends (l.getD k dS).1.toNat (by omega)
 exact ⟨⟨this.1,this.2.1⟩,⟨this.2.2.1,this.2.2.2.1⟩,this.2.2.2.2⟩
theorem Ps {d:Dem} (h:Serving hn ls l d):∀k,k<l.length->d.2.2.2.1<=(l.getD k dS).2.1:=by
 intro k hk
 have h0:d.2.2.2.1<=(l.getD 0 dS).2.1:=by
  apply pq
  intro hc
  have hl:0<l.length:=by omega
  have f:=h.fed 0 hl
  have hb:=h.ok.bytes 0 hl
  have h1:Ba ls l d (frM ls l 0) (l.getD 0 dS).2.1=0:=by
   unfold Ba CO
   rw [if_neg (λg=>hc g.2),DA,Br (g:=λ_=>0),B6]
   .rfl
   .intro i hi
    have := Th h.ok (i:=0) (k:=i) (by omega) hi
    simp only[CI]
    rw [if_neg (by omega)]
  have h2:=Hd (f:=λi=>if (l.getD i dS).2.1=(l.getD 0 dS).2.1/\frM ls l i=frM ls l 0 then (l.getD i dS).2.2 else 0) (n:=l.length) (k:=0) (λi hi=>by
   have := h.ok.bytes i hi
   split <;> omega) hl
  rw [if_pos ⟨rfl,rfl⟩,<-JF]at h2
  omega
 have := Th h.ok (i:=0) (k:=k) (by omega) hk
 omega
end
theorem YH {d:Dem} (hd:0<=d.2.2.1) {a t t':Int} (h:t<=t'):CO d a t<=CO d a t':=by
 unfold CO
 by_cases h1:a=d.1/\d.2.2.2.1<=t
 .rw [if_pos h1,if_pos ⟨h1.1,by omega⟩];exact pj _
 .rw [if_neg h1];split <;> omega
theorem Ru {ls:List Lnk} {l:List Snd} (a t:Int):∀n,(∀i,i<n->¬(frM ls l i=a/\(l.getD i dS).2.1<t))\/∃i,i<n/\(frM ls l i=a/\(l.getD i dS).2.1<t)/\∀j,i<j->j<n->¬(frM ls l j=a/\(l.getD j dS).2.1<t)
 | 0=>.inl λi hi=>absurd hi (by omega)
 | n + 1=>by
  by_cases h:frM ls l n=a/\(l.getD n dS).2.1<t
  .exact .inr ⟨n,by omega,h,λj h1 h2=>absurd h1 (by omega)⟩
  .rcases Ru (ls:=ls) (l:=l) a t n with g | ⟨i,h1,h2,h3⟩
   .exact .inl λi hi=>by
     by_cases e:i=n
     .subst e;exact h
     .exact g i (by omega)
   .exact .inr ⟨i,by omega,h2,λj g1 g2=>by
     by_cases e:j=n
     .subst e;exact h
     .exact h3 j g1 (by omega)⟩
section
variable {hn:Int} {ls:List Lnk} {l:List Snd}
theorem D5 {d:Dem} (h:Serving hn ls l d) (a t:Int):0<=Ba ls l d a t:=by
 have hd:0<=d.2.2.1:=by have:=h.dem;unfold IG at this;omega
 rcases Ru (ls:=ls) (l:=l) a t l.length with g | ⟨k,h1,h2,h3⟩
 .unfold Ba
  have h4:0<=CO d a t:=by unfold CO;split <;> omega
  rw [DA]
  have := Cm (f:=λi=>CI ls (l.getD i dS) a t) (n:=l.length) λi hi=>by
   have hg:=g i hi
   have hb:=h.ok.bytes i hi
   unfold frM at hg
   simp only[CI]
   by_cases c:(l.getD i dS).2.1<t
   .rw [if_pos c,if_neg (λe=>hg ⟨e,c⟩)];split <;> omega
   .rw [if_neg c];exact pj _
  omega
 .have f:=h.fed k h1
  have hm:=YH hd (a:=a) (show (l.getD k dS).2.1<=t by omega)
  rw [h2.1]at f
  unfold Ba at f ⊢
  rw [DA,JF]at f
  rw [DA]
  have key:=VQ (f:=λi=>CI ls (l.getD i dS) a (l.getD k dS).2.1-(if (l.getD i dS).2.1=(l.getD k dS).2.1/\frM ls l i=a then (l.getD i dS).2.2 else 0)) (g:=λi=>CI ls (l.getD i dS) a t) (n:=l.length) λi hi=>by
   have hb:=h.ok.bytes i hi
   unfold CI
   by_cases c1:(l.getD i dS).2.1<(l.getD k dS).2.1
   .rw [if_pos c1,if_pos (show (l.getD i dS).2.1<t by omega),if_neg (show ¬((l.getD i dS).2.1=(l.getD k dS).2.1/\frM ls l i=a) from λe=>by omega)];omega
   .rw [if_neg c1]
    by_cases c2:(l.getD i dS).2.1=(l.getD k dS).2.1
    .rw [if_pos (show (l.getD i dS).2.1<t by omega)]
     unfold frM
     by_cases c3:(AB ls (l.getD i dS)).1=a
     .rw [if_pos ⟨c2,c3⟩,if_pos c3];split <;> omega
     .rw [if_neg (λe=>c3 e.2),if_neg c3];split <;> omega
    .rw [if_neg (λe=>c2 e.1)]
     by_cases c4:(l.getD i dS).2.1<t
     .have hik:k<i:=by
       apply pq
       intro hc
       have := Th h.ok (i:=i) (k:=k) (by omega) h1
       omega
      have := h3 i hik hi
      unfold frM at this
      rw [if_pos c4,if_neg (show ¬(AB ls (l.getD i dS)).1=a from λe=>this ⟨e,c4⟩)];split <;> omega
     .rw [if_neg c4];exact pj _
  rw [MY]at key
  omega
theorem VS {d:Dem} (h:Serving hn ls l d) (t:Int):Sm (λa=>Ba ls l d (a:Int) t) hn.toNat=if d.2.2.2.1<=t then d.2.2.1 else 0:=by
 have hnn:((hn.toNat:Nat):Int)=hn:=by have:=h.from_;omega
 have e1:Sm (λa:Nat=>CO d (a:Int) t) hn.toNat=if d.2.2.2.1<=t then d.2.2.1 else 0:=by
  by_cases c:d.2.2.2.1<=t
  .rw [if_pos c,Br (g:=λa:Nat=>if d.1=(a:Int)then d.2.2.1 else 0),Pr,if_pos (by rw[hnn];exact h.from_)]
   intro i hi
   unfold CO
   by_cases e:(i:Int)=d.1
   .rw [if_pos ⟨e,c⟩,if_pos e.symm]
   .rw [if_neg (λg=>e g.1),if_neg (λg=>e g.symm)]
  .rw [if_neg c,Br (g:=λ_=>0),B6]
   intro i hi
   unfold CO
   rw [if_neg (λg=>c g.2)]
 have e2:Sm (λa:Nat=>EW ls l (a:Int) t l.length) hn.toNat=0:=by
  rw [Br (g:=λa:Nat=>Sm (λi=>CI ls (l.getD i dS) (a:Int) t) l.length) (λi _=>DA _),<-ZU,Br (g:=λ_=>0),B6]
  intro i hi
  obtain ⟨g1,g2,_⟩:=ends h.ok hi
  by_cases c:(l.getD i dS).2.1<t
  .rw [Br (g:=λa:Nat=>(if (AB ls (l.getD i dS)).2.1=(a:Int)then (l.getD i dS).2.2 else 0)-(if (AB ls (l.getD i dS)).1=(a:Int)then (l.getD i dS).2.2 else 0)) (λa _=>by unfold CI;rw[if_pos c]),MY,Pr,Pr,if_pos (by rw[hnn];exact g2),if_pos (by rw[hnn];exact g1)]
   omega
  .rw [Br (g:=λ_=>0) (λa _=>by unfold CI;rw[if_neg c]),B6]
 unfold Ba
 rw [GQ,e1,e2]
 omega
def IH (hn:Int) (ls:List Lnk) (us:List Snd) (r:Int):TN :=
 ⟨hn.toNat, ls.length,λk=>(ls.getD k dL).1.toNat,λk=>(ls.getD k dL).2.1.toNat,λk t=>CT ls (k:Int) (r+(t:Int))-Bg us (k:Int) (r+(t:Int)) us.length,λk t=>Dk ls (k:Int) (r+(t:Int))⟩
theorem YI {hn:Int} {ls:List Lnk} {l:List Snd} (ok:OKr hn ls l) {i:Nat}:∀ {j},i<j->j<l.length->(l.getD i dS).2.1<(l.getD j dS).2.1\/((l.getD i dS).2.1=(l.getD j dS).2.1/\(l.getD i dS).1<(l.getD j dS).1)
 | 0,h,_=>absurd h (by omega)
 | j+1,h,hj=>by
  have := ok.asc (j+1) (by omega) hj
  rw [Nat.add_sub_cancel]at this
  by_cases e:i=j
  .subst e;exact this
  .have ih:=YI ok (i:=i) (j:=j) (by omega) (by omega)
   omega
theorem Pt (ok:OKr hn ls l) {i j:Nat} (hi:i<l.length) (hj:j<l.length) (h:(l.getD i dS).1=(l.getD j dS).1/\(l.getD i dS).2.1=(l.getD j dS).2.1):i=j:=by
 apply pq
 intro e
 rcases Nat.lt_or_ge i j with c | c
 .have := YI ok c hj;omega
 .have := YI ok (i:=j) (j:=i) (by omega) hi;omega
end
theorem FX {l:List Snd} {a b:Int}:∀ {n},(∀k,k<n->¬((l.getD k dS).1=a/\(l.getD k dS).2.1=b))->Bg l a b n=0
 | 0,_=>rfl
 | n+1,h=>by rw[Bg,FX λk hk=>h k (by omega),if_neg (h n (by omega))];rfl
theorem JG {l:List Snd} {a b:Int} {i:Nat} (he:(l.getD i dS).1=a/\(l.getD i dS).2.1=b):∀ {n},i<n->(∀k,k<n->((l.getD k dS).1=a/\(l.getD k dS).2.1=b)->k=i)->Bg l a b n=(l.getD i dS).2.2
 | 0,h,_=>absurd h (by omega)
 | n+1,h,g=>by
  rw [Bg]
  by_cases e:i=n
  .subst e
   rw [FX λk hk c=>by have:=g k (by omega) c;omega,if_pos he];omega
  .rw [JG he (by omega) λk hk c=>g k (by omega) c,if_neg λc=>e (g n (by omega) c).symm];omega
def tkE (s:Snd):PV×PV:=(.agg [I s.1,I s.2.1],I s.2.2)
theorem LJ {a b c d:Int}:DO (.agg [I a,I b]) (.agg [I c,I d])=decide (a=c/\b=d):=by
 have hb:∀x y:Int,(x==y)=decide (x=y):=λx y=>rfl
 simp [DO,Iq,Bool.decide_and,hb]
theorem tY {x:Snd}:∀ {l:List Snd},(∀y∈l,¬(x.1=y.1/\x.2.1=y.2.1))->CR (l.map tkE) (.agg [I x.1,I x.2.1]) (I x.2.2)=(l ++ [x]).map tkE
 | [],_=>rfl
 | y::l,h=>by
  rw [nj,CR,show (tkE y).1=.agg [I y.1,I y.2.1] from rfl,LJ,if_neg (by simpa using h y (by simp)),tY λz hz=>h z (by simp[hz])];rfl
theorem ZV {a b:Int}:∀ {l:List Snd},(∀y∈l,¬(a=y.1/\b=y.2.1))->Cd (l.map tkE) (.agg [I a,I b])=none
 | [],_=>rfl
 | y::l,h=>by
  rw [nj,Cd,show (tkE y).1=.agg [I y.1,I y.2.1] from rfl,LJ,if_neg (by simpa using h y (by simp)),ZV λz hz=>h z (by simp[hz])]
theorem ZW {a b:Int}:∀ {l:List Snd} {i:Nat},i<l.length->(a=(l.getD i dS).1/\b=(l.getD i dS).2.1)->(∀j,j<i->¬(a=(l.getD j dS).1/\b=(l.getD j dS).2.1))->Cd (l.map tkE) (.agg [I a,I b])=some (I (l.getD i dS).2.2)
 | [],i,h,_,_=>absurd h (by simp)
 | y::l,0,h,e,g=>by
  rw [nj,Cd,show (tkE y).1=.agg [I y.1,I y.2.1] from rfl,LJ,if_pos (by simpa using e)];rfl
 | y::l,i+1,h,e,g=>by
  rw [nj,Cd,show (tkE y).1=.agg [I y.1,I y.2.1] from rfl,LJ,if_neg (by simpa using g 0 (by omega))]
  exact ZW (l:=l) (i:=i) (by simpa using h) e λj hj=>g (j+1) (by omega)
section
variable {hn:Int} {ls:List Lnk} {l:List Snd}
theorem YJ (ok:OKr hn ls l) {a b:Int}:(Cd (l.map tkE) (.agg [I a,I b])).getD (I 0)=I (Bg l a b l.length):=by
 by_cases c:∃i,i<l.length/\((l.getD i dS).1=a/\(l.getD i dS).2.1=b)
 .obtain ⟨i,hi,e1,e2⟩:=c
  rw [ZW hi ⟨e1.symm,e2.symm⟩ (λj hj g=>by have:=Pt ok (i:=j) (j:=i) (by omega) hi ⟨g.1.symm.trans e1.symm,g.2.symm.trans e2.symm⟩;omega),
   JG ⟨e1,e2⟩ hi λk hk g=>Pt ok hk hi ⟨g.1.trans e1.symm,g.2.trans e2.symm⟩];rfl
 .rw [FX λk hk g=>c ⟨k,hk,g⟩,ZV λy hy g=>by
   obtain ⟨i,hi,he⟩:=oc.1 hy
   exact c ⟨i,hi,by simp[hi,he,g.1],by simp[hi,he,g.2]⟩];rfl
theorem Ti (ok:OKr hn ls l) {k:Nat} (hk:k<l.length):CR ((l.take k).map tkE) (.agg [I (l.getD k dS).1,I (l.getD k dS).2.1]) (I (l.getD k dS).2.2)=(l.take (k+1)).map tkE:=by
 rw [tY λy hy g=>by
  obtain ⟨i,hi,he⟩:=oc.1 hy
  rw [List.length_take]at hi
  have hil:i<l.length:=by omega
  have e:l.getD i dS=y:=by rw[<-he];simp[hil]
  have := Pt ok (i:=i) (j:=k) hil hk ⟨by rw[e];exact g.1.symm,by rw[e];exact g.2.symm⟩
  omega, List.take_succ_eq_append_getElem hk]
 congr 2
 simp [hk]
end
theorem He {a b:Int} (h1 : -9223372036854775808<=a/\a<=9223372036854775807) (h2 : -9223372036854775808<=b/\b<=9223372036854775807):BN (.ints 2) (.agg [I a,I b])=true:=by
 simp [BN,J9,h1,h2]
theorem VT {ls:List Lnk} {l:List Snd}:∀ {k},ftT ls l k=false->∀i,i<k->(l.getD i dS).2.2<=CT ls (l.getD i dS).1 (l.getD i dS).2.1
 | 0,_,i,hi=>absurd hi (by omega)
 | k+1,h,i,hi=>by
  simp only[ftT,Bool.or_eq_false_iff,decide_eq_false_iff_not]at h
  by_cases e:i=k
  .subst e;omega
  .exact VT h.1 i (by omega)
section
variable {hn:Int} {ls:List Lnk}
theorem Cj {l:List Snd} (h:Cy hn ls l=0):OKr hn ls l/\∀i,i<l.length->(l.getD i dS).2.2<=CT ls (l.getD i dS).1 (l.getD i dS).2.1:=by
 unfold Cy at h
 split at h
 .contradiction
 .rename_i h1
  split at h
  .cases h
  .rename_i h2
   exact ⟨right_zero.1 (t9.1 h1),VT (by simpa using h2)⟩
theorem Hf {l:List Snd} (h:Cy hn ls l=0) {k t:Int} (hk:0<=k/\k<(ls.length:Int)):0<=Bg l k t l.length/\Bg l k t l.length<=CT ls k t:=by
 obtain ⟨ok,hf⟩:=Cj h
 have hc:=GD ok.net hk.1 hk.2 (tick:=t)
 by_cases c:∃i,i<l.length/\((l.getD i dS).1=k/\(l.getD i dS).2.1=t)
 .obtain ⟨i,hi,e1,e2⟩:=c
  rw [JG ⟨e1,e2⟩ hi λj hj g=>Pt ok hj hi ⟨g.1.trans e1.symm,g.2.trans e2.symm⟩]
  have := hf i hi
  rw [e1,e2]at this
  exact ⟨by have:=ok.bytes i hi;omega,this⟩
 .rw [FX λj hj g=>c ⟨j,hj,g⟩]
  omega
theorem Ee {us:List Snd} {r:Int} {D:Nat} (h:Cy hn ls us=0):(IH hn ls us r).OK D:=by
 obtain ⟨ok,_⟩:=Cj h
 have hh:=ok.net.houses
 refine ⟨by show 0<hn.toNat;omega,λk hk=>?_,λk t hk _=>?_,λk t hk _=>?_⟩
 .have := ok.net.ends k hk
  show (ls.getD k dL).1.toNat<hn.toNat/\(ls.getD k dL).2.1.toNat<hn.toNat
  omega
 .have hk':k<ls.length:=hk
  have := Hf h (k:=(k:Int)) (t:=r+(t:Int)) ⟨by omega,by omega⟩
  show 0<=CT ls (k:Int) (r+(t:Int))-Bg us (k:Int) (r+(t:Int)) us.length
  omega
 .have hk':k<ls.length:=hk
  exact JD ok.net (by omega) (by omega)
end
end Sim
namespace Sim
open Go Go.Proofs
attribute [local congr] Ah Ai Ag At Al Aj Aq
abbrev frV (hn:Int) (ls:List Lnk) (us:List Snd) (d:Dem):PV:=.agg [I hn,AS ls,Ay us,I d.1,I d.2.1,I d.2.2.1,I d.2.2.2.1,I d.2.2.2.2]
abbrev frP (hn:Int) (ls:List Lnk) (us:List Snd) (d:Dem):PV:=.vptr [I hn,AS ls,Ay us,I d.1,I d.2.1,I d.2.2.1,I d.2.2.2.1,I d.2.2.2.2] 0
def lfM (ls:List Lnk) (us:List Snd) (link tick:Int):Int:=CT ls link tick-Bg us link tick us.length
def rnO (ob:Nat->Option IObj) (M:Nat) (us:List Snd):Nat->Option IObj:=λi=>if i=M then some (.map 0 (.ints 2) (us.map tkE))else if i=M+1 then some (.arr 0 1 [.mref M 0])else ob i
abbrev rnF (hn:Int) (ls:List Lnk) (us:List Snd) (d:Dem) (M:Nat):PV:=.func (.func 85) [] [frP hn ls us d,.ptr (M+1) 0 0 0]
structure RW where
 hn : Int
 ls : List Lnk
 us : List Snd
 d : Dem
def KH (x:RW):List PV := [frV x.hn x.ls x.us x.d]
def MZ (x:RW) (_st:Store):Prop:=Cy x.hn x.ls x.us=0
def DM (x:RW) (st:Store):PV×Store:=(rnF x.hn x.ls x.us x.d st.next,⟨rnO st.obj st.next x.us,st.next+2⟩)
theorem ZX {K:Nat->Prop} {l:List Snd}:(Ay l).In K:=.lits _ _ λe he c hc=>by
 obtain ⟨s,_,rfl⟩:=oh.1 he
 simp [gi]at hc
 rcases hc with rfl | rfl | rfl <;> exact .int _ _
theorem Adj {K:Nat->Prop} {l:List Lnk}:(AS l).In K:=.lits _ _ λe he c hc=>by
 obtain ⟨s,_,rfl⟩:=oh.1 he
 simp only[gi,lkC,li,List.mem_append,oh]at hc
 rcases hc with rfl | rfl | ⟨_,_,rfl⟩ | ⟨_,_,rfl⟩ <;> exact .int _ _
structure RnI (ob:Nat->Option IObj) (M:Nat) (es:List (PV×PV)) (S:Store):Prop where
 mp : S.obj M=some (.map 0 (.ints 2) es)
 cl : S.obj (M+1)=some (.arr 0 1 [.mref M 0])
 fr : ∀i o,ob i=some o->S.obj i=some o
 nx : M+2<=S.next
theorem RnI.step {ob:Nat->Option IObj} {M:Nat} {es es':List (PV×PV)} {O:Nat->Option IObj} {nx:Nat} (h:RnI ob M es ⟨O,nx⟩) (r0:∀i o,ob i=some o->i<M) {x:Option IObj}:RnI ob M es' ⟨Ab (Ab O nx x) M (some (.map 0 (.ints 2) es')),nx+1⟩:=by
 obtain ⟨h1,h2,h3,h4⟩:=h
 dsimp only at *
 refine ⟨?_,?_,λi o hi=>?_,by dsimp only;omega⟩ <;> simp only[Ab]
 .rw [if_pos trivial]
 .rw [if_neg (by omega),if_neg (by omega)];exact h2
 .have := r0 i o hi
  rw [if_neg (by omega),if_neg (by omega)];exact h3 i o hi
theorem tZ {x:RW} {st:Store} (wf:WF st) (hx:MZ x st):IXC pk 62 (KH x) st (OT st (DM x st).1 (DM x st).2):=by
 obtain ⟨hn,ls,us,d⟩:=x
 obtain ⟨ob,M⟩:=st
 have hf:Cy hn ls us=0:=hx
 have r0:=wf
 obtain ⟨ok,_⟩:=Cj hf
 simp only[KH]
 generalize hR1:(DM ⟨hn,ls,us,d⟩ ⟨ob,M⟩).1=R1
 generalize hR2:(DM ⟨hn,ls,us,d⟩ ⟨ob,M⟩).2=R2
 have r0:∀i o,ob i=some o->i<M:=r0
 refine BT AQ (l := []) (Au) [] [] 0 Tryz.func62 rfl (by decide +kernel) (N:=24) rfl (by simp) rfl (by kernel_rfl) ?_
 simp only[↓bdD,bdP,seval,kp,kd,Tryz.f62,AO,BG,Ff]
 have hul:=ok.len
 have hll:=ok.net.len
 refine Aw [5,10,11,12,13,14,15,16,17,18,19,20,21,22] us.length (λk ρ st'=>ρ 10=I k/\RnI ob M ((us.take k).map tkE) st') (.refl _) ?_ ?_
 .simp only[↓bdD,bdP]
  refine ⟨?_,?_,λi o hi=>?_,cg _⟩
  .simp [Ab]
  .simp [Ab]
  .have := r0 i o hi
   simp [Ab,show ¬i=M by omega,show ¬i=M+1 by omega,hi]
 rintro k ρ ⟨O,nx⟩ hk ⟨h10,hI⟩
 by_cases hlt:k<us.length
 .have hwk:=Cu (k:=k) (by omega)
  have hmp:=hI.mp
  have hcl:=hI.cl
  have hstep:=Ti ok hlt
  have e1:=ok.link k hlt
  have e2:=ok.tick k hlt
  generalize hx:us.getD k dS=x at *
  have hkey:=He (a:=x.1) (b:=x.2.1) (by omega) (by omega)
  dsimp only at hmp hcl
  have hnx:=hI.nx
  dsimp only at hnx
  have d1:¬M=nx:=by omega
  have d2:¬nx=M:=by omega
  have d3:¬M+1=nx:=by omega
  have d4:¬nx=M+1:=by omega
  simp only[↓bdD,bdP,seval,kp,kd,A7,ty3,AO,Ct,En,Ff,h10,hlt,hwk,hx,hmp,hcl,hkey,hstep,d1,d3,Av]
  exact hI.step r0
 .have e:k=us.length:=by omega
  subst e
  rw [r7]at hI
  simp only[↓bdD,bdP,seval,Ao,h10]
  rw [<-hR1,<-hR2]
  refine ⟨[],.inl rfl,λi o hi=>?_,by dsimp only[DM];omega,?_⟩
  .dsimp only[DM,rnO]at hi ⊢
   split at hi
   .rename_i e;subst e;cases hi
    refine ⟨by omega,rfl,hI.mp,.inr λe he=>?_⟩
    obtain ⟨s,_,rfl⟩:=oh.1 he
    exact ⟨.agg _ λc hc=>by simp at hc;rcases hc with rfl | rfl <;> exact .int _ _,.int _ _⟩
   .split at hi
    .rename_i e;subst e;cases hi
     refine ⟨by omega,rfl,hI.cl,.inr λe he c hc=>?_⟩
     simp at he;subst he
     simp [gi]at hc;subst hc
     exact .mref _ _ (by omega)
    .have := r0 i o hi
     exact ⟨by omega,rfl,hI.fr i o hi,.inl hi⟩
  .refine .func _ _ _ (λc hc=>by simp at hc) λc hc=>?_
   simp only[li,ua,or_false]at hc
   rcases hc with rfl | rfl
   .refine .vptr _ _ λc hc=>?_
    simp only[li,ua,or_false]at hc
    rcases hc with rfl | rfl | rfl | rfl | rfl | rfl | rfl | rfl <;> first | exact .int _ _ | exact Adj | exact ZX
   .exact .ptr _ _ _ _ (by dsimp only[DM];omega)
def e_runs:Nat×Ent:=(62,.x (A9 KH MZ DM))
theorem YK:AM pk e_runs.1 e_runs.2:=Fy λ_ st hx=>IXC.of_wf (tZ (st:=⟨λ_=>none,0⟩) (λi o h=>by cases h) hx).1 λwf=>tZ wf hx
theorem Ajn (a b:RW) (st:Store) (h:KH a=KH b) (hx:MZ a st) (hy:MZ b st):DM a st=DM b st:=by
 obtain ⟨a1,a2,a3,a4,a5,a6,a7,a8⟩:=a
 obtain ⟨b1,b2,b3,b4,b5,b6,b7,b8⟩:=b
 simp only[KH,frV,ix,qr,qt,s6,AF,AG,true_and,and_true]at h
 obtain ⟨rfl,rfl,rfl,rfl,rfl,rfl,rfl,rfl⟩:=h
 rfl
theorem Tj (x:RW) {st:Store} (h:MZ x st):A9 KH MZ DM [frV x.hn x.ls x.us x.d] st=some (DM x st):=Bc Ajn (i:=x) h
theorem jN {l:List PV} (h:l.length=50) {a b x y:PV}:sy 51 (sy 50 (l ++ [a,b]) ++ [x]++ub 51 (l ++ [a,b])) ++ [y]++ub 52 (sy 50 (l ++ [a,b]) ++ [x]++ub 51 (l ++ [a,b]))=l ++ [x,y]:=by
 have e1:sy 50 (l ++ [a,b])=l:=uc h
 have e2:ub 51 (l ++ [a,b]) = [b]:=by rw[List.drop_append,h,ud (by omega)];rfl
 rw [e1,e2,uc (by simp[h]),ud (by simp[h])]
 simp
def II (ls:List Lnk) (us:List Snd) (r:Int) (k t:Nat):List PV:=I (k:Nat)::I (r+(t:Int))::(lkC (ls.getD k dL) ++ [I (lfM ls us (k:Nat) (r+(t:Int))),I (Dk ls (k:Nat) (r+(t:Int)))])
abbrev Adk (ls:List Lnk) (us:List Snd) (r:Int) (k t:Nat):PV:=.agg (II ls us r k t)
def rnG (M:Nat) (us:List Snd) (st:Store):Prop:=st.obj M=some (.map 0 (.ints 2) (us.map tkE))/\st.obj (M+1)=some (.arr 0 1 [.mref M 0])
def LK (ls:List Lnk) (us:List Snd) (r:Int) (D:Nat):List (List PV):=(List.range (D*ls.length)).map λi => [Adk ls us r (i % ls.length) (i / ls.length)]
theorem YL {hn:Int} {ls:List Lnk} {us:List Snd} {d:Dem} {M D:Nat} (hf:Cy hn ls us=0) (hd:d.2.2.2.2=d.2.2.2.1+(D:Nat)) (hr0:0<=d.2.2.2.1) (hd1:d.2.2.2.2<=1000000) :
  NP (rnG M us) pk 0 85 [] [frP hn ls us d,.ptr (M+1) 0 0 0] (LK ls us d.2.2.2.1 D):=by
 refine OU (rnG M us) (l := []) Au [] [] 0 Tryz.func85 rfl (by decide +kernel) rfl (N:=52) rfl (by simp) (λy=>by kernel_rfl) λy H J E st0 hm h0 hstab hG hy=>?_
 obtain ⟨ok,_⟩:=Cj hf
 obtain ⟨df,dt,db,dr,dd⟩:=d
 dsimp only at hd hr0 hd1 ⊢
 obtain ⟨ob0,M0⟩:=st0
 have hll:=ok.net.len
 obtain ⟨L,hL⟩:∃L,ls.length=L:=⟨_,rfl⟩
 have hlen:(LK ls us dr D).length=D*L:=by unfold LK;rw[List.length_map,List.length_range,hL]
 dsimp only at hy
 rw [hlen]
 have hy':∀ {t k:Nat},t<D->k<L->(LK ls us dr D)[t*L+k]?=some [Adk ls us dr k t]:=λ{t k} ht hk=>by
  have h1:t*L+k<D*L:=by
   have := ff L (show t+1<=D by omega)
   rw [Nat.add_mul,Nat.one_mul]at this
   omega
  unfold LK
  rw [hL,List.getElem?_map,List.getElem?_range h1,Option.map_some,Nat.mul_comm t L,Nat.mul_add_mod,Nat.mod_eq_of_lt hk,Nat.mul_add_div (by omega),Nat.div_eq_of_lt hk,Nat.add_zero]
 generalize LK ls us dr D=ys at *
 simp only[↓bdD,bdP,seval,ty3,AY,BG]
 refine Aw (hm:=hm) [4,5,6,7,8,12,13,14,15,16,17,18,19,20,21,22,23,24,25,26,27,28,29,30,31,32,33,34,35,36,37,38,39,40,41,42,43,44,45,46,47,48,49,50,51] D (λt ρ st'=>ρ 4=I (dr+(t:Int))/\J (t*L) st') (.refl _) ?_ ?_
 .simp only[↓bdD,bdP,Int.add_zero,Nat.zero_mul]
  exact h0
 rintro t ρ ⟨O1,n1⟩ ht ⟨h4,hJ⟩
 by_cases htD:t<D
 .have hlt:dr+(t:Int)<dd:=by omega
  simp only[↓bdD,bdP,seval,ty3,BP,AJ,AY,BG,h4,hlt]
  refine Aw (hm:=hm) [5,6,7,8,23,24,25,26,27,28,29,30,31,32,33,34,35,36,37,38,39,40,41,42,43,44,45,46,47,48,49,50,51] L (λk ρ st'=>ρ 23=I k/\J (t*L+k) st') (.refl _) ?_ ?_
  .simp only[↓bdD,bdP]
   exact hJ
  rintro k ρ2 ⟨O2,n2⟩ hkL ⟨h23,hJ⟩
  by_cases hk:k<L
  .have wk:=Cu (k:=k) (by omega)
   have hkl:k<ls.length:=by omega
   have hkli:(k:Int)<L:=by omega
   have g1:=hG _ _ hJ
   have b1:=g1.1
   have b2:=g1.2
   dsimp only at b1 b2
   have hyk:=hy' htD hk
   have hcb:=GD ok.net (link:=(k:Int)) (tick:=dr+(t:Int)) (by omega) (by omega)
   have hfs:=Hf hf (k:=(k:Int)) (t:=dr+(t:Int)) ⟨by omega,by omega⟩
   have hget:=YJ ok (a:=(k:Int)) (b:=dr+(t:Int))
   have hkey:=He (a:=(k:Int)) (b:=dr+(t:Int)) (by omega) (by omega)
   have hnl:=Cg hkl
   have h24:=MV (t:=dr+(t:Int)) (by omega)
   unfold Adk II lfM at hyk
   unfold CT at hyk hcb hfs
   unfold Dk at hyk
   rw [pe]at hyk hcb hfs
   have hlt24:(dr+(t:Int)).toNat % 24<24:=Nat.mod_lt _ (by omega)
   have hli24:(((dr+(t:Int)).toNat % 24:Nat):Int)<24:=by omega
   generalize (dr+(t:Int)).toNat % 24=hr at *
   have hc1:=Fp (a:=ls.getD k dL) hlt24
   have hc2:=HI (a:=ls.getD k dL) hlt24
   generalize hlk:ls.getD k dL=lk at *
   generalize Bg us (k:Int) (dr+(t:Int)) us.length=sn at *
   have w5:nm.wrap (E9 lk hr-sn)=E9 lk hr-sn:=Af (by omega) (by omega)
   have hM1:∀o1 o2,J (t*L+k) ⟨Ab (Ab O2 n2 o1) (n2+1) o2,n2+2⟩:=λo1 o2=>hstab _ _ _ hJ (by simp) (λx hx=>by
    dsimp only at hx ⊢
    simp only[Ab]
    rw [if_neg (by omega),if_neg (by omega)])
   have gN:=hG _ _ (hM1 none none)
   have d1:¬M=n2:=λe=>by have:=gN.1;simp[Ab,e]at this
   have d2:¬M=n2+1:=λe=>by have:=gN.1;simp[Ab,e]at this
   have d3:¬M+1=n2:=λe=>by have:=gN.2;simp[Ab,e]at this
   have d4:¬n2=n2+1:=by omega
   simp only[↓bdD,bdP,seval,kp,kd,BK,C8,Nat.mul_one,ty3,BP,OY,CS,En,Fe,Ff,d1,d2,d3,d4,Av,h4,h23,hk,hkli,hL,hnl,h24,hli24,hc1,hc2,hget,hkey,b1,b2,w5,BK,C8,wk]
   rw [jN BK]
   refine ⟨by simp[BK],?_⟩
   refine hy _ _ _ _ hyk (hM1 _ _) (λst2 h2=>?_) (λst2 h2=>?_)
   .simp only[↓bdD,bdP]
    exact h2
   .simp only[↓bdD,bdP]
    exact .inr h2
  .have e:k=L:=by omega
   subst e
   have wt:nm.wrap (dr+(t:Int)+1)=dr+((t+1:Nat):Int):=by rw[Af (by omega) (by omega)];omega
   rw [show t*k+k=(t+1)*k by rw[Nat.add_mul,Nat.one_mul]]at hJ
   simp only[↓bdD,bdP,seval,h4,h23,wt,hL]
   refine ⟨htD,?_,hJ⟩
   .rw [AL (by decide +kernel)]
    simp only[↓bdD,bdP,r8]
 .have e:t=D:=by omega
  subst e
  have hdd:¬dr+(t:Int)<dd:=by omega
  simp only[↓bdD,bdP,seval,ty3,AY,BG,h4,hdd]
  exact .inl hJ
theorem uA {f:Nat->Option IObj} {nx k z n g z0:Nat} {l es:List PV} (h:f k=some (.arr g z0 es)):ue ⟨f,nx⟩ (k+1) z l n=some (.ref k (g+1) 0 n,⟨Ab f k (some (.arr (g+1) z l)),nx⟩):=by
 simp [ue,h,kd]
def gK (b N k:Nat):List PV:=(List.range N).map λv=>if v<k then PV.ref (b+v) 0 0 0 else .nils
theorem Ajo {b N k:Nat}:(gK b N k).length=N:=by simp[gK]
theorem Ajp {b N k v:Nat} (h:v<N):nth (gK b N k) v=if v<k then PV.ref (b+v) 0 0 0 else .nils:=by simp[gK,nth,h]
theorem Aoc {b N:Nat}:gK b N 0=ba N .nils:=by
 refine ru (by simp[gK]) λi h1 h2=>?_
 simp [gK]
theorem Ajq {b N k:Nat} (h:k<N):(gK b N k).set k (PV.ref (b+k) 0 0 0)=gK b N (k+1):=by
 refine ru (by simp[gK]) λi h1 h2=>?_
 rw [List.getElem_set]
 by_cases c:k=i
 .subst c;simp[gK]
 .rw [if_neg c]
  by_cases c2:i<k
  .simp [gK,c2,show i<k+1 by omega]
  .simp [gK,c2,show ¬i<k+1 by omega]
theorem Aod {b N:Nat}:gK (b+5) N N=Ha b (ba N []):=by
 refine ru (by simp[gK,Ha]) λi h1 h2=>?_
 rw [Ajo]at h1
 simp [gK,Ha,h1]
def HP (O:Nat->Option IObj) (B b N k:Nat):Nat->Option IObj:=λi=>if i=B then some (.arr 1 1 (gK b N k))else if b<=i/\i<b+k then some (.arr 0 1 [])else O i
theorem Rv {ρ:Nat->PV} {O:Nat->Option IObj} {B b N:Nat} (hB:B<b) (h:O B=some (.arr 1 1 (ba N .nils))):∀k,k<=N->Ghost ⟨ρ,⟨O,b⟩⟩ ⟨ρ,⟨HP O B b N k,b+k⟩⟩
 | 0,_=>by
  have : HP O B b N 0=O:=by
   funext i
   unfold HP
   by_cases c:i=B
   .rw [if_pos c,c,h,Aoc]
   .rw [if_neg c,if_neg (by omega)]
  rw [this];exact .refl _
 | k + 1,hk=>by
  refine .trans (Rv hB h k (by omega)) ?_
  have hn:nth (gK b N k) k=.nils:=by rw[Ajp (by omega),if_neg (by omega)]
  have g:=Ghost.cell ⟨ρ,⟨HP O B b N k,b+k⟩⟩ B 1 1 1 (gK b N k) k 0 (by simp[HP]) (by rw[hn];rfl) (by omega)
  have e:(kd (kp ⟨HP O B b N k,b+k⟩ (.arr 0 1 [])) B (.arr 1 1 ((gK b N k).set k (Bi (nth (gK b N k) k) 0 [.ref (b+k) 0 0 0]))))=⟨HP O B b N (k+1),b+(k+1)⟩:=by
   rw [hn,show Bi .nils 0 [.ref (b+k) 0 0 0]=PV.ref (b+k) 0 0 0 from rfl,Ajq (by omega)]
   simp only[kd,kp]
   congr 1
   funext i
   simp only[Ab,HP]
   by_cases c:i=B
   .rw [if_pos c,if_pos c]
   .simp only[if_neg c]
    by_cases c2:i=b+k
    .rw [if_pos c2,if_pos (by omega)]
    .rw [if_neg c2]
     by_cases c3:b<=i/\i<b+k
     .rw [if_pos c3,if_pos (by omega)]
     .rw [if_neg c3,if_neg (by omega)]
  rw [<-e]
  exact g
theorem uB {O:Nat->Option IObj} {M N:Nat} (a1:O (M+1)=some (.arr 1 1 (ba N (I 0)))):GrAt M [] (ba N []) (ba N 0) (HP (Ab (Ab O (M+4) (some (.arr 0 4 []))) (M+2) (some (.arr 0 3 [.agg [.ref (M+4) 0 0 0,.ref M 1 0 N,.ref (M+1) 1 0 N]]))) M (M+5) N N):=by
 refine ⟨?_,?_,?_,?_,λu hu=>?_⟩
 .simp only[HP,if_true,Aod]
 .simp only[HP,Ab]
  rw [if_neg (by omega),if_neg (by omega),if_neg (by omega),if_neg (by omega),a1,List.map_replicate]
 .simp only[HP,Ab]
  rw [if_neg (by omega),if_neg (by omega),if_pos trivial]
  simp [J4]
 .simp only[HP,Ab]
  rw [if_neg (by omega),if_neg (by omega),if_neg (by omega),if_pos trivial]
  simp
 .rw [ft]at hu
  simp only[HP,Ab]
  rw [if_neg (by omega),if_pos (by omega)]
  simp [hu,Ch]
section
variable {K:Nat->Prop} {g z:Nat}
theorem Adl {l:List Int}:OIn K (.arr g z (l.map (PV.int .i64))):=λe he c hc=>by
 obtain ⟨x,_,rfl⟩:=oh.1 he
 simp only[gi,ku]at hc
 rw [hc];exact .int _ _
theorem Adm {l:List Nat}:OIn K (.arr g z (Ch l)):=λe he c hc=>by
 obtain ⟨x,_,rfl⟩:=oh.1 he
 simp only[gi,ku]at hc
 rw [hc];exact .int _ _
end
structure GM where
 h : Nat
 D : Nat
 ls : List Lnk
 us : List Snd
 d : Dem
abbrev GM.T (x:GM):TN:=IH (x.h:Nat) x.ls x.us x.d.2.2.2.1
abbrev GM.N (x:GM):Nat:=(x.D+1)*x.h
abbrev GM.n (x:GM):Nat:=x.D*(x.h+x.ls.length)
def KI (x:GM):List PV := [sP ((x.h:Nat),x.ls),Ay x.us,D7 x.d]
def KJ (x:GM) (st:Store):Prop:=WF st/\OKr (x.h:Nat) x.ls x.us/\0<=x.d.2.2.2.1/\x.d.2.2.2.2=x.d.2.2.2.1+(x.D:Nat)/\x.D<=100/\x.d.2.2.2.2<=1000000/\Cy (x.h:Nat) x.ls x.us=0
def mkO (ob:Nat->Option IObj) (M:Nat) (A:List Arc) (out:List (List Nat)) (N:Nat):Nat->Option IObj:=λi =>
 if i=M then some (.arr 1 1 (Ha M out))else if i=M+1 then some (.arr 1 1 ((ba N (0:Int)).map (PV.int .i64)))else if i=M+2 then some (.arr 0 3 [J4 M A out (ba N 0)])
 else if i=M+4 then some (.arr (A.length / 2) 4 (A.map E8))else if M+5<=i/\i<M+5+N then some (.arr (out.getD (i-(M+5)) []).length 1 (Ch (out.getD (i-(M+5)) [])))else ob i
def Fa (x:GM) (st:Store):PV×Store:=(gP st.next,⟨mkO st.obj st.next (gA x.T.p x.n) (gO x.T.p x.N x.n) x.N,st.next+5+x.N⟩)
structure MkI (ob:Nat->Option IObj) (M:Nat) (A:List Arc) (out:List (List Nat)) (lv:List Int) (es:List (PV×PV)) (S:Store):Prop where
 gr : GrAt M A out lv S.obj
 mp : S.obj (M+3)=some (.map 0 (.ints 2) es)
 fr : ∀i o,ob i=some o->S.obj i=some o
 nx : M+5+out.length<=S.next
section
variable {ob:Nat->Option IObj} {M:Nat} {A:List Arc} {out:List (List Nat)} {lv:List Int} {es:List (PV×PV)} {O:Nat->Option IObj} {nx:Nat}
theorem MkI.high (h:MkI ob M A out lv es ⟨O,nx⟩) (r0:∀i o,ob i=some o->i<M) {x:Option IObj}:MkI ob M A out lv es ⟨Ab O nx x,nx+1⟩:=by
 have hn:=h.nx
 dsimp only at hn
 have key:∀i,i<nx->Ab O nx x i=O i:=λi hi=>by simp only[Ab];rw[if_neg (by omega)]
 obtain ⟨⟨g0,g1,g2,g4,g5⟩,h2,h3,_⟩:=h
 exact ⟨⟨by dsimp only;rw[key _ (by omega)];exact g0,by dsimp only;rw[key _ (by omega)];exact g1,by dsimp only;rw[key _ (by omega)];exact g2,by dsimp only;rw[key _ (by omega)];exact g4,λu hu=>by dsimp only;rw[key _ (by omega)];exact g5 u hu⟩,
  by dsimp only;rw[key _ (by omega)];exact h2,λi o hi=>by have:=r0 i o hi;dsimp only;rw[key _ (by omega)];exact h3 i o hi,by dsimp only;omega⟩
theorem MkI.again {y:Option IObj} (h:MkI ob M A out lv es ⟨Ab O nx y,nx+1⟩) (r0:∀i o,ob i=some o->i<M) (hn:M+5+out.length<=nx:=by assumption) {x:Option IObj}:MkI ob M A out lv es ⟨Ab (Ab O nx y) nx x,nx+1⟩:=by
 have e:Ab (Ab O nx y) nx x=Ab O nx x:=by
  funext i;simp only[Ab];split <;> rfl
 obtain ⟨⟨g0,g1,g2,g4,g5⟩,h2,h3,_⟩:=h
 have key:∀i,i<nx->Ab (Ab O nx y) nx x i=Ab O nx y i:=λi hi=>by simp only[Ab];rw[if_neg (by omega)]
 dsimp only at *
 exact ⟨⟨by dsimp only;rw[key _ (by omega)];exact g0,by dsimp only;rw[key _ (by omega)];exact g1,by dsimp only;rw[key _ (by omega)];exact g2,by dsimp only;rw[key _ (by omega)];exact g4,λu hu=>by dsimp only;rw[key _ (by omega)];exact g5 u hu⟩,
  by dsimp only;rw[key _ (by omega)];exact h2,λi o hi=>by have:=r0 i o hi;dsimp only;rw[key _ (by omega)];exact h3 i o hi,by dsimp only;omega⟩
end
theorem MkI.map {ob:Nat->Option IObj} {M:Nat} {A:List Arc} {out:List (List Nat)} {lv:List Int} {es es':List (PV×PV)} {O:Nat->Option IObj} {nx:Nat} (h:MkI ob M A out lv es ⟨O,nx⟩) (r0:∀i o,ob i=some o->i<M):MkI ob M A out lv es' ⟨Ab O (M+3) (some (.map 0 (.ints 2) es')),nx⟩:=by
 obtain ⟨⟨g0,g1,g2,g4,g5⟩,h2,h3,h4⟩:=h
 dsimp only at *
 refine ⟨⟨?_,?_,?_,?_,λu hu=>?_⟩,?_,λi o hi=>?_,h4⟩ <;> simp only[Ab]
 .rw [if_neg (by omega)];exact g0
 .rw [if_neg (by omega)];exact g1
 .rw [if_neg (by omega)];exact g2
 .rw [if_neg (by omega)];exact g4
 .rw [if_neg (by omega)];exact g5 u hu
 .rw [if_pos trivial]
 .have := r0 i o hi
  rw [if_neg (by omega)];exact h3 i o hi
theorem MkI.add {ob:Nat->Option IObj} {M u v:Nat} {x y:Int} {A:List Arc} {out:List (List Nat)} {lv:List Int} {es:List (PV×PV)} {O:Nat->Option IObj} {nx:Nat} (h:MkI ob M A out lv es ⟨O,nx⟩) (r0:∀i o,ob i=some o->i<M) (hu:u<out.length) (hv:v<out.length) (huv:¬u=v) :
  MkI ob M (Gm A u v x y) (ET out u v A.length) lv es ⟨aO O M u v (A.length / 2+1) (Gm A u v x y) (ET out u v A.length) lv,nx⟩:=by
 obtain ⟨g,h2,h3,h4⟩:=h
 dsimp only at *
 refine ⟨Am8 g hu hv huv,?_,λi o hi=>?_,by unfold ET;rw[ra,ra];exact h4⟩
 .simp only[aO,Ab]
  rw [if_neg (by omega),if_neg (by omega),if_neg (by omega),if_neg (by omega),if_neg (by omega)];exact h2
 .have := r0 i o hi
  simp only[aO,Ab]
  rw [if_neg (by omega),if_neg (by omega),if_neg (by omega),if_neg (by omega),if_neg (by omega)];exact h3 i o hi
theorem Adn {ob O:Nat->Option IObj} {M N n:Nat} {A:List Arc} {out:List (List Nat)} (h1:WF ⟨ob,M⟩) (g:GrAt M A out (ba N 0) O) (fr:∀i o,ob i=some o->O i=some o) (ho:out.length=N):OT ⟨ob,M⟩ (gP M) ⟨mkO ob M A out N,M+5+N⟩ (.ptr (M+2) 0 0 0) ⟨O,n⟩:=by
 refine ⟨[],.inl rfl,λi o hi=>?_,by dsimp only;omega,.ptr _ _ _ _ (by dsimp only;omega)⟩
 dsimp only at hi ⊢
 unfold mkO at hi
 by_cases c0:i=M
 .rw [if_pos c0]at hi
  cases hi
  refine ⟨by omega,rfl,by rw[c0];exact g.o0,.inr λe he c hc=>?_⟩
  obtain ⟨v,hv,rfl⟩:=oh.1 he
  rw [List.mem_range,ho]at hv
  simp only[gi,ku]at hc
  rw [hc];exact .ref _ _ _ _ (by omega)
 rw [if_neg c0]at hi
 by_cases c1:i=M+1
 .rw [if_pos c1]at hi
  cases hi
  exact ⟨by omega,rfl,by rw[c1];exact g.o1,.inr Adl⟩
 rw [if_neg c1]at hi
 by_cases c2:i=M+2
 .rw [if_pos c2]at hi
  cases hi
  refine ⟨by omega,rfl,by rw[c2];exact g.o2,.inr λe he c hc=>?_⟩
  rw [ku]at he
  subst he
  simp only[J4,gi,li,ua,or_false]at hc
  rcases hc with hc | hc | hc <;> (rw[hc];exact .ref _ _ _ _ (by omega))
 rw [if_neg c2]at hi
 by_cases c4:i=M+4
 .rw [if_pos c4]at hi
  cases hi
  exact ⟨by omega,rfl,by rw[c4];exact g.o4,.inr S7⟩
 rw [if_neg c4]at hi
 by_cases c5:M+5<=i/\i<M+5+N
 .rw [if_pos c5]at hi
  cases hi
  have := g.o5 (i-(M+5)) (by omega)
  rw [show M+5+(i-(M+5))=i by omega]at this
  exact ⟨c5.2,rfl,this,.inr Adm⟩
 .rw [if_neg c5]at hi
  have := h1 i o hi
  dsimp only at this
  exact ⟨by omega,rfl,fr i o hi,.inl hi⟩
theorem Ajr {x:GM} {st:Store} (hx:KJ x st):IXC pk 68 (KI x) st (OT st (Fa x st).1 (Fa x st).2):=by
 obtain ⟨h,D,ls,us,⟨df,dt,db,dr,dd⟩⟩:=x
 obtain ⟨ob,M⟩:=st
 unfold KJ at hx
 dsimp only at hx
 obtain ⟨h1,ok,h5,h6,h7,h8,hft⟩:=hx
 have h2:1<=h:=by have:=ok.net.houses;omega
 have h3:h<=12:=by have:=ok.net.houses;omega
 have h4:=ok.net.len
 simp only[KI]
 generalize hR1:(Fa ⟨h,D,ls,us,df,dt,db,dr,dd⟩ ⟨ob,M⟩).1=R1
 generalize hR2:(Fa ⟨h,D,ls,us,df,dt,db,dr,dd⟩ ⟨ob,M⟩).2=R2
 obtain ⟨N,hN⟩:∃N,(D+1)*h=N:=⟨_,rfl⟩
 have hNb:N<=1212:=by rw[<-hN];exact Nat.le_trans (uf (show D+1<=101 by omega) h3) (by decide)
 have w1:nm.wrap (dd-dr)=(D:Int):=by rw[Af (by omega) (by omega)];omega
 have w2:nm.wrap ((D:Int)+1)=((D+1:Nat):Int):=Cu (by omega)
 have w3:nm.wrap (((D+1:Nat):Int)*(h:Int))=(N:Int):=by
  have : ((D+1:Nat):Int)*(h:Int)=(N:Int):=by rw[<-hN];exact (ug _ _).symm
  rw [this,Af (by omega) (by omega)]
 have hNi:(N:Int)<=4294967296:=by omega
 refine Abu AQ (l := [e_add]) ((Ad Am5 Au)) [36] [25,26,31,32,100028,200034] 2 Tryz.func68 rfl (by decide +kernel) (N:=130) rfl (by simp) rfl (by kernel_rfl) ?_
 unfold stB
 dsimp only
 obtain ⟨F,hF⟩:∃F:Nat->Option IObj,(λi=>if M<=i/\i<M+2 then some (IObj.arr 0 1 [])else ob i)=F:=⟨_,rfl⟩
 have F0:F M=some (.arr 0 1 []):=by rw[<-hF];simp
 have F1:F (M+1)=some (.arr 0 1 []):=by rw[<-hF];simp
 have F9:∀i o,ob i=some o->F i=some o:=λi o hi=>by
  have := h1 i o hi
  dsimp only at this
  rw [<-hF]
  simp only[show ¬(M<=i/\i<M+2) by omega,if_false,hi]
 rw [hF]
 have q1:¬M+1=M:=by omega
 have q2:¬M=M+1:=by omega
 have r1:=uA (nx:=M+2) (z:=1) (l:=ba N na) (n:=N) F0
 have r2:ue ⟨Ab F M (some (.arr (0+1) 1 (ba N na))),M+2⟩ (M+2) 1 (ba N (I 0)) N=some (.ref (M+1) (0+1) 0 N,⟨Ab (Ab F M (some (.arr (0+1) 1 (ba N na)))) (M+1) (some (.arr (0+1) 1 (ba N (I 0)))),M+2⟩) :=
  uA (k:=M+1) (by simp only[Ab];rw[if_neg q1];exact F1)
 rw [Nat.zero_add]at r1 r2
 simp only[↓bdD,bdP,seval,kp,e_add,Tryz.f68,ty3,AJ,AO,AY,AR,BM,Em,rR,HG,ME,OV,G3,w1,w2,w3,hNi,r1,r2]
 obtain ⟨O1,hO1⟩:∃O1:Nat->Option IObj,Ab (Ab (Ab (Ab F M (some (.arr 1 1 (ba N na)))) (M+1) (some (.arr 1 1 (ba N (I 0))))) (M+2) (some (.arr 0 3 [.agg [.nils,.ref M 1 0 N,.ref (M+1) 1 0 N]]))) (M+2+1) (some (.map 0 (.ints 2) []))=O1:=⟨_,rfl⟩
 have a0:O1 M=some (.arr 1 1 (ba N na)):=by rw[<-hO1];simp[Ab,show ¬M=M+2+1 by omega]
 have a1:O1 (M+1)=some (.arr 1 1 (ba N (I 0))):=by rw[<-hO1];simp[Ab]
 have a2:O1 (M+2)=some (.arr 0 3 [.agg [.nils,.ref M 1 0 N,.ref (M+1) 1 0 N]]):=by rw[<-hO1];simp[Ab]
 have a3:O1 (M+2+1)=some (.map 0 (.ints 2) []):=by rw[<-hO1];simp[Ab]
 have a9:∀i o,ob i=some o->O1 i=some o:=λi o hi=>by
  have := h1 i o hi
  dsimp only at this
  rw [<-hO1]
  simp only[Ab]
  rw [if_neg (by omega),if_neg (by omega),if_neg (by omega),if_neg (by omega),F9 i o hi]
 rw [hO1]
 have gh:∀ρ,Ghost ⟨ρ,⟨O1,M+4⟩⟩ ⟨ρ,⟨HP (Ab (Ab O1 (M+4) (some (.arr 0 4 []))) (M+2) (some (.arr 0 3 [.agg [.ref (M+4) 0 0 0,.ref M 1 0 N,.ref (M+1) 1 0 N]]))) M (M+5) N N,M+5+N⟩⟩:=λρ=>by
  refine .trans (Ghost.cell ⟨ρ,⟨O1,M+4⟩⟩ (M+2) 0 3 4 _ 0 0 a2 rfl (by omega)) ?_
  show Ghost ⟨ρ,⟨Ab (Ab O1 (M+4) (some (.arr 0 4 []))) (M+2) (some (.arr 0 3 [.agg [.ref (M+4) 0 0 0,.ref M 1 0 N,.ref (M+1) 1 0 N]])),M+5⟩⟩ _
  refine Rv (B:=M) (b:=M+5) (by omega) ?_ N (cg _)
  simp only[Ab]
  rw [if_neg (by omega),if_neg (by omega),a0]
 have gr0:=uB (O:=O1) (M:=M) (N:=N) a1
 have mi0:MkI ob M [] (ba N []) (ba N 0) [] ⟨HP (Ab (Ab O1 (M+4) (some (.arr 0 4 []))) (M+2) (some (.arr 0 3 [.agg [.ref (M+4) 0 0 0,.ref M 1 0 N,.ref (M+1) 1 0 N]]))) M (M+5) N N,M+5+N⟩:=by
  refine ⟨gr0,?_,λi o hi=>?_,by rw[ft];exact cg _⟩
  .simp only[HP,Ab]
   rw [if_neg (by omega),if_neg (by omega),if_neg (by omega),if_neg (by omega)];exact a3
  .have := h1 i o hi
   dsimp only at this
   simp only[HP,Ab]
   rw [if_neg (by omega),if_neg (by omega),if_neg (by omega),if_neg (by omega)];exact a9 i o hi
 clear gr0
 generalize HP (Ab (Ab O1 (M+4) (some (.arr 0 4 []))) (M+2) (some (.arr 0 3 [.agg [.ref (M+4) 0 0 0,.ref M 1 0 N,.ref (M+1) 1 0 N]]))) M (M+5) N N=O2 at *
 have hul:=ok.len
 have r0:∀i o,ob i=some o->i<M:=h1
 refine Aw [11,40,41,42,43,44,45,46,47,48,49,50,51,52] us.length (λk ρ st'=>ρ 40=I k/\MkI ob M [] (ba N []) (ba N 0) ((us.take k).map tkE) st') (gh _) ?_ ?_
 .simp only[↓bdD,bdP]
  exact mi0
 rintro k ρ ⟨O,nx⟩ hk ⟨h40,hI⟩
 by_cases hlt:k<us.length
 .have hwk:=Cu (k:=k) (by omega)
  have hmp:=hI.mp
  have hstep:=Ti ok hlt
  have e1:=ok.link k hlt
  have e2:=ok.tick k hlt
  generalize hx:us.getD k dS=x at *
  have hkey:=He (a:=x.1) (b:=x.2.1) (by omega) (by omega)
  dsimp only at hmp
  have hnx:=hI.nx
  dsimp only at hnx
  have d1:¬M+3=nx:=by omega
  have d2:¬nx=M+3:=by omega
  simp only[↓bdD,bdP,seval,kp,kd,A7,ty3,AO,Ct,OZ,rR,HG,OV,G3,h40,hlt,hwk,hx,hmp,hkey,hstep,d1]
  exact ((hI.high r0).again r0).map r0
 .have e:k=us.length:=by omega
  subst e
  rw [r7]at hI
  obtain ⟨L,hL⟩:∃L,ls.length=L:=⟨_,rfl⟩
  have hok:=Ee (r:=dr) (D:=D) hft
  have hpo:=TN.p_ok hok
  have ph:∀t x,x<h->(IH h ls us dr).p (t*(h+L)+x)=(t*h+x,(t+1)*h+x,1099511627776,0):=λt x hx=>by
   rw [<-hL];exact TN.p_house (T:=IH h ls us dr) hx
  have pl:∀t k,k<L->(IH h ls us dr).p (t*(h+L)+(h+k))=(t*h+(ls.getD k dL).1.toNat,(t+1)*h+(ls.getD k dL).2.1.toNat,CT ls (k:Int) (dr+(t:Int))-Bg us (k:Int) (dr+(t:Int)) us.length,Dk ls (k:Int) (dr+(t:Int))):=λt k hk=>by
   rw [<-hL]at hk ⊢;exact TN.p_link (T:=IH h ls us dr) hk
  have hW:(IH h ls us dr).W=h+L:=by rw[<-hL];rfl
  have hh:(IH h ls us dr).h=h:=rfl
  rw [hW,hh,hN]at hpo
  obtain ⟨p,hp⟩:∃p,(IH h ls us dr).p=p:=⟨_,rfl⟩
  have hRp:Fa ⟨h,D,ls,us,df,dt,db,dr,dd⟩ ⟨ob,M⟩=(gP M,⟨mkO ob M (gA p (D*(h+L))) (gO p N (D*(h+L))) N,M+5+N⟩):=by
   simp only[Fa,GM.T,GM.N,GM.n,hp,hN,hL]
  rw [hRp]at hR1 hR2
  clear hRp
  rw [hp]at hpo ph pl
  have hI:MkI ob M (gA p (0*(h+L))) (gO p N (0*(h+L))) (ba N 0) (us.map tkE) ⟨O,nx⟩:=by rw[Nat.zero_mul];exact hI
  simp only[↓bdD,bdP,seval,HG,h40]
  refine Aw [13,14,15,16,17,56,57,58,59,60,61,62,63,64,65,66,67,68,69,70,71,72,73,74,75,76,77,78,79,80,81,82,83,84,85,86,87,88,89,90,91,92,93,94,95,96,97,98,99,100,101,102,103,104,105,106,107,108,109,110,111,112,113,114,115,116,117,118,119,120,121,122,123,124,125,126,127,128] D (λt ρ st'=>ρ 56=I t/\MkI ob M (gA p (t*(h+L))) (gO p N (t*(h+L))) (ba N 0) (us.map tkE) st') (.refl _) ?_ ?_
  .simp only[↓bdD,bdP]
   exact hI
  clear hI
  rintro t ρ5 ⟨O3,n3⟩ ht ⟨h56,hI⟩
  by_cases htD:t<D
  .clear mi0 gh F9 F0 F1 r1 r2 hF hO1 a0 a1 a2 a3 a9
   have hle:(t+1)*(h+L)<=D*(h+L):=ff _ (by omega)
   have hs1:(t+1)*(h+L)=t*(h+L)+(h+L):=sh _ _
   have hn1:(t+1)*h=t*h+h:=sh _ _
   have hn2:(t+2)*h<=N:=by rw[<-hN];exact ff _ (by omega)
   have hn3:(t+2)*h=(t+1)*h+h:=sh _ _
   have hDW:D*(h+L)<=7200:=Nat.le_trans (uf h7 (show h+L<=72 by omega)) (by decide)
   have wt:nm.wrap ((t:Int)*(h:Int))=((t*h:Nat):Int):=by rw[<-ug,Af (by omega) (by omega)]
   have wt1:=Cu (k:=t) (by omega)
   have wth:nm.wrap (((t+1:Nat):Int)*(h:Int))=(((t+1)*h:Nat):Int):=by rw[<-ug,Af (by omega) (by omega)]
   have hol:∀j,(gO p N j).length=N:=λj=>FT
   have hadd:∀(j:Nat) (S:Store) (u v:Nat) (x y:Int),j<D*(h+L)->p j=(u,v,x,y)->MkI ob M (gA p j) (gO p N j) (ba N 0) (us.map tkE) S ->
     A9 Pm Pl Rn [gP M,I (u:Nat),I (v:Nat),I x,I y] S=some (.tuple [],⟨aO S.obj M u v ((gA p j).length / 2+1) (Gm (gA p j) u v x y) (ET (gO p N j) u v (gA p j).length) (ba N 0),S.next⟩) /\
     MkI ob M (gA p (j+1)) (gO p N (j+1)) (ba N 0) (us.map tkE) ⟨aO S.obj M u v ((gA p j).length / 2+1) (Gm (gA p j) u v x y) (ET (gO p N j) u v (gA p j).length) (ba N 0),S.next⟩:=by
    intro j S u v x y hj hpj hI
    have q:=hpo j hj
    rw [hpj]at q
    dsimp only at q
    obtain ⟨b1,b2,b3,b4,b5,b6⟩:=q
    have c1:=Yz (p:=p) (N:=N) (n:=j) (λi hi=>hpo i (by omega))
    have c2:=c1 u
    have c3:=c1 v
    have hAl:=CN (p:=p) (n:=j)
    refine ⟨Am7 (gA p j) (gO p N j) (ba N 0) ⟨hI.gr,?_,?_,b3,?_,?_,?_,?_,?_,?_,?_⟩,?_⟩
    all_goals (try dsimp only)
    .rw [hol];exact b1
    .rw [hol];exact b2
    .exact hI.nx
    .omega
    .omega
    .omega
    .omega
    .omega
    .omega
    .rw [gA,gO,hpj]
     exact MkI.add (O:=S.obj) (nx:=S.next) hI r0 (by rw[hol];exact b1) (by rw[hol];exact b2) b3
   simp only[↓bdD,bdP,seval,ty3,AJ,HG,G3,h56,htD]
   refine Aw [14,61,62,63,64,65,66,67,68,69,70,71,72,73,74,75,76,77,78,79] h (λx ρ st'=>ρ 61=I x/\MkI ob M (gA p (t*(h+L)+x)) (gO p N (t*(h+L)+x)) (ba N 0) (us.map tkE) st') (.refl _) ?_ ?_
   .simp only[↓bdD,bdP]
    exact hI
   clear hI
   rintro x ρ6 ⟨O4,n4⟩ hxh ⟨h61,hI⟩
   by_cases hx:x<h
   .have wx:=Cu (k:=x) (by omega)
    have wx1:nm.wrap (((t*h:Nat):Int)+(x:Int))=((t*h+x:Nat):Int):=by rw[<-uh,Af (by omega) (by omega)]
    have wx2:nm.wrap ((((t+1)*h:Nat):Int)+(x:Int))=(((t+1)*h+x:Nat):Int):=by rw[<-uh,Af (by omega) (by omega)]
    obtain ⟨sp,hI2⟩:=hadd (t*(h+L)+x) ⟨O4,n4⟩ (t*h+x) ((t+1)*h+x) 1099511627776 0 (by omega) (ph t x hx) hI
    unfold gP at sp
    dsimp only at sp hI2
    simp only[↓bdD,bdP,seval,ty3,AJ,HG,Vt,ME,G3,Zm,h61,hx,wx,wt,wt1,wth,wx1,wx2,sp]
    exact hI2
   have e:x=h:=by omega
   rw [e]at h61 hI
   have hI:MkI ob M (gA p (t*(h+L)+(h+0))) (gO p N (t*(h+L)+(h+0))) (ba N 0) (us.map tkE) ⟨O4,n4⟩:=hI
   simp only[↓bdD,bdP,seval,BP,AJ,HG,G3,h61,hL]
   refine Aw [15,16,17,83,84,85,86,87,88,89,90,91,92,93,94,95,96,97,98,99,100,101,102,103,104,105,106,107,108,109,110,111,112,113,114,115,116,117,118,119,120,121,122,123,124,125,126,127] L (λk ρ st'=>ρ 83=I k/\MkI ob M (gA p (t*(h+L)+(h+k))) (gO p N (t*(h+L)+(h+k))) (ba N 0) (us.map tkE) st') (.refl _) ?_ ?_
   .simp only[↓bdD,bdP]
    exact hI
   clear hI
   rintro k ρ7 ⟨O5,n5⟩ hkL ⟨h83,hI⟩
   by_cases hk:k<L
   .have wk:=Cu (k:=k) (by omega)
    have hkl:k<ls.length:=by omega
    have hmp:=hI.mp
    have hnx:=hI.nx
    dsimp only at hmp hnx
    rw [hol]at hnx
    have hend:=ok.net.ends k hkl
    have hfs:=Hf hft (k:=(k:Int)) (t:=dr+(t:Int)) ⟨by omega,by omega⟩
    have hcb:=GD ok.net (link:=(k:Int)) (tick:=dr+(t:Int)) (by omega) (by omega)
    have hpe:=pl t k hk
    have hget:=YJ ok (a:=(k:Int)) (b:=dr+(t:Int))
    have hkey:=He (a:=(k:Int)) (b:=dr+(t:Int)) (by omega) (by omega)
    have hnl:=Cg hkl
    have w4:nm.wrap (dr+(t:Int))=dr+(t:Int):=Af (by omega) (by omega)
    have h24:=MV (t:=dr+(t:Int)) (by omega)
    unfold CT at hpe hcb hfs
    unfold Dk at hpe
    rw [pe]at hpe hcb hfs
    have hlt24:(dr+(t:Int)).toNat % 24<24:=Nat.mod_lt _ (by omega)
    have hli24:(((dr+(t:Int)).toNat % 24:Nat):Int)<24:=by omega
    generalize (dr+(t:Int)).toNat % 24=hr at *
    have hc1:=Fp (a:=ls.getD k dL) hlt24
    have hc2:=HI (a:=ls.getD k dL) hlt24
    generalize hlk:ls.getD k dL=lk at *
    generalize Bg us (k:Int) (dr+(t:Int)) us.length=sn at *
    obtain ⟨cp,hcp⟩:∃c,E9 lk hr=c:=⟨_,rfl⟩
    obtain ⟨pc,hpc⟩:∃c,Gl lk hr=c:=⟨_,rfl⟩
    rw [hcp]at hpe hcb hfs hc1
    rw [hpc]at hpe hc2
    obtain ⟨fu,hfu⟩:∃u,lk.1.toNat=u:=⟨_,rfl⟩
    obtain ⟨fv,hfv⟩:∃u,lk.2.1.toNat=u:=⟨_,rfl⟩
    have hf1:lk.1=(fu:Int):=by omega
    have hf2:lk.2.1=(fv:Int):=by omega
    rw [hfu,hfv]at hpe
    have wx1:nm.wrap (((t*h:Nat):Int)+(fu:Int))=((t*h+fu:Nat):Int):=by rw[<-uh,Af (by omega) (by omega)]
    have wx2:nm.wrap ((((t+1)*h:Nat):Int)+(fv:Int))=(((t+1)*h+fv:Nat):Int):=by rw[<-uh,Af (by omega) (by omega)]
    have w5:nm.wrap (cp-sn)=cp-sn:=Af (by omega) (by omega)
    have hIh:=(hI.high (x:=some (.arr 0 50 [.agg (lkC lk)])) r0)
    have hlk0:=IA (a:=lk)
    have hlk1:=Pg (a:=lk)
    rw [hf1]at hlk0
    rw [hf2]at hlk1
    have d1:¬M+3=n5:=by omega
    have d2:¬n5=M+3:=by omega
    obtain ⟨sp,hI2⟩:=hadd (t*(h+L)+(h+k)) ⟨Ab O5 n5 (some (.arr 0 50 [.agg (lkC lk)])),n5+1⟩ (t*h+fu) ((t+1)*h+fv) (cp-sn) pc (by omega) hpe hIh
    unfold gP at sp
    dsimp only at sp hI2
    simp only[↓bdD,bdP,seval,kp,kd,ty3,BP,AJ,AY,OY,CS,OZ,rR,HG,Vt,ME,OV,G3,Zm,h83,hk,wk,wt,wt1,wth,wx1,wx2,w4,w5,h24,hli24,hmp,hget,hkey,hnl,hc1,hc2,hlk0,hlk1,d1,BK,C8,hkl,Av,sp,Nat.mul_one]
    exact hI2
   have e:k=L:=by omega
   rw [e]at h83 hI
   simp only[↓bdD,bdP,seval,HG,h56,h83,wt1]
   refine ⟨?_,by rw[hs1];exact hI⟩
   rw [AL (by decide +kernel)]
   simp only[↓bdD,bdP,r8]
   rw [AL (by decide +kernel)]
   simp only[↓bdD,bdP,r8]
  .have e:t=D:=by omega
   subst e
   simp only[↓bdD,bdP,seval,Ao,HG,h56]
   rw [<-hR1,<-hR2]
   exact Adn h1 hI.gr hI.fr FT
def e_make:Nat×Ent:=(68,.x (A9 KI KJ Fa))
theorem uC:AM pk e_make.1 e_make.2:=Fy λ_ _ hx=>Ajr hx
theorem Ajs (a b:GM) (st:Store) (h:KI a=KI b) (hx:KJ a st) (hy:KJ b st):Fa a st=Fa b st:=by
 obtain ⟨h1,D1,ls1,us1,⟨df1,dt1,db1,dr1,dd1⟩⟩:=a
 obtain ⟨h2,D2,ls2,us2,⟨df2,dt2,db2,dr2,dd2⟩⟩:=b
 simp only[KI,ix,and_true,qr,qt,s6,AF,AG,true_and]at h
 obtain ⟨⟨e1,e2⟩,e3,e4,e5,e6,e7,e8⟩:=h
 have e1:h1=h2:=by omega
 have a4:=hx.2.2.2.1
 have b4:=hy.2.2.2.1
 dsimp only at a4 b4
 have e9:D1=D2:=by omega
 subst e1;subst e2;subst e3;subst e4;subst e5;subst e6;subst e7;subst e8;subst e9
 rfl
theorem Ajt (x:GM) {st:Store} (h:KJ x st):A9 KI KJ Fa [sP ((x.h:Nat),x.ls),Ay x.us,D7 x.d] st=some (Fa x st):=Bc Ajs (i:=x) h
theorem Anc {ob:Nat->Option IObj} {M N:Nat} {A:List Arc} {out:List (List Nat)} (ho:out.length=N):GrAt M A out (ba N 0) (mkO ob M A out N):=by
 refine ⟨?_,?_,?_,?_,λu hu=>?_⟩ <;> unfold mkO
 .rw [if_pos rfl]
 .rw [if_neg (by omega),if_pos rfl]
 .rw [if_neg (by omega),if_neg (by omega),if_pos rfl]
 .rw [if_neg (by omega),if_neg (by omega),if_neg (by omega),if_pos rfl]
 .rw [if_neg (by omega),if_neg (by omega),if_neg (by omega),if_neg (by omega),if_pos (by omega),show M+5+u-(M+5)=u by omega]
end Sim
