/- Lemmas. -/
import Derived.Test.YtdfjimjbdakofaaGreatQUD4
import Derived.Test.YtdfjimjbdakofaaGreatQUN4
import Derived.Test.YtdfjimjbdakofaaGreatQUH
import Derived.Test.YtdfjimjbdakofaaGreatQF6
import Derived.JoinedOf
import Derived.OpenShut
set_option maxRecDepth 20000
set_option maxHeartbeats 4000000
set_option linter.all false
open Classical renaming not_not->t9
open Go.DataW renaming trod->n6,trod_struct->yc,Trod->yf
open Go.IntKind renaming i64->nm
open Go.Lit renaming int->ya
open Go.Proofs.Tryz renaming prog->pk,f4->x9,underlying3->yh,underlying33->yo,underlying30->yp,underlying35->yq
open Go.Value renaming okWide->oo
open Int renaming add_zero->th,sub_zero->xz,zero_add->x8,le_refl->pj,toNat_natCast->pe
open List renaming replicate->ba,getD_eq_getElem?_getD->oa,getElem?_replicate->fq,getElem?_eq_getElem->gl
open Nat renaming le_refl->cg,zero_add->cd
open Sim.PV renaming int->mt
open Sim.RdC renaming slice->yn
open Sim.RdD renaming part->ym
namespace Sim
open Go Go.Proofs
section
variable {ls:List Lnk} {ts:List Trp} {d:Dem} {l:List Snd} {o arr:List Int}
theorem Dr {f:Nat->Int} (k:Nat):Sm f (k+1)=Sm f k+f k:=rfl
section
variable {C:List Int} {σ α:Int} {k:Nat}
theorem An3 (h:0<=C.getD k 0/\C.getD k 0<=o.getD k 0):0<=vdT ts o arr C σ α k:=by
 unfold vdT;split <;> omega
theorem Qi (h:0<=C.getD k 0):0<=abT ts arr C σ α k:=by
 unfold abT;split <;> omega
end
theorem bL (F:Sv60 ls ts d l o arr) {σ:Int} (h0:0<=σ+1) {C H1:List Int} {X:Nat->Int} (lH1:H1.length=12) (C0:∀k,k<ts.length->0<=C.getD k 0/\C.getD k 0<=o.getD k 0) (H10:∀h,h<12->0<=H1.getD h 0)
  (lack : Sm (λh=>max 0 (X h-H1.getD h 0)) 12+Sm (vdT ts o arr C σ σ) ts.length<=Sm (ltT ts o arr σ) ts.length)
  (mass : Sm (λh=>H1.getD h 0) 12+Sm (abT ts arr C σ σ) ts.length<=d.2.2.1):∀k,k<=ts.length ->
  (∀ h,h<12->0<=(inT ts arr C (σ+1) H1 k).getD h 0) /\
  Sm (λh=>max 0 (X h+Sm (vaT ts o arr (σ+1) h) k-(inT ts arr C (σ+1) H1 k).getD h 0)) 12+(Sm (vdT ts o arr C σ (σ+1)) k+Sm (vdT ts o arr C σ σ) ts.length-Sm (vdT ts o arr C σ σ) k)<=Sm (ltT ts o arr (σ+1)) k+Sm (ltT ts o arr σ) ts.length-Sm (ltT ts o arr σ) k /\
  Sm (λh=>(inT ts arr C (σ+1) H1 k).getD h 0) 12+(Sm (abT ts arr C σ (σ+1)) k+Sm (abT ts arr C σ σ) ts.length-Sm (abT ts arr C σ σ) k)<=d.2.2.1
 | 0,_=>by
  refine ⟨H10,?_,?_⟩
  .simp only[Sm,inT,th,xz,x8]at lack ⊢
   exact lack
  .simp only[Sm,inT,xz,x8]at mass ⊢
   exact mass
 | k + 1,hk=>by
  obtain ⟨i1,i2,i3⟩:=bL F h0 lH1 C0 H10 lack mass k (by omega)
  have lI:=Mh (ts:=ts) (arr:=arr) (C:=C) (H:=H1) (τ:=σ+1) k
  rw [lH1]at lI
  have eI:inT ts arr C (σ+1) H1 (k+1)=if arr.getD k 0=σ+1 then adI (inT ts arr C (σ+1) H1 k) (ts.getD k dT).2.1.toNat (C.getD k 0)else inT ts arr C (σ+1) H1 k:=rfl
  have ck:=C0 k (by omega)
  have tt:=F.tto k (by omega)
  have av:=F.arv k (by omega)
  have tm:=F.tim k (by omega)
  have by_:=F.byte
  have p1:=Oi (f:=abT ts arr C σ σ) (n:=ts.length) (λi hi=>Qi (C0 i hi).1) (k+1) hk
  have p2:=Cm (f:=abT ts arr C σ (σ+1)) (n:=k) (λi hi=>Qi (C0 i (by omega)).1)
  have hu:=Hd (f:=λh=>(inT ts arr C (σ+1) H1 k).getD h 0) (n:=12) (k:=(ts.getD k dT).2.1.toNat) i1 (by omega)
  have hu0:=i1 (ts.getD k dT).2.1.toNat (by omega)
  -- the new stocks
  have key:∀j,j<12->(inT ts arr C (σ+1) H1 (k+1)).getD j 0=(inT ts arr C (σ+1) H1 k).getD j 0+if j=(ts.getD k dT).2.1.toNat/\arr.getD k 0=σ+1 then C.getD k 0 else 0:=λj hj=>by
   rw [eI]
   by_cases c:arr.getD k 0=σ+1
   .rw [if_pos c]
    unfold adI
    rw [EF (by omega)]
    by_cases e:j=(ts.getD k dT).2.1.toNat
    .have ea:abT ts arr C σ σ k=C.getD k 0:=by unfold abT;rw[if_pos (by omega)]
     rw [Dr (f:=abT ts arr C σ σ) k]at p1
     rw [if_pos e,if_pos ⟨e,c⟩,Af (by omega) (by omega),e]
    .rw [if_neg e,if_neg (λg=>e g.1)];omega
   .rw [if_neg c,if_neg (λg=>c g.2)];omega
  generalize inT ts arr C (σ+1) H1 (k+1)=H3 at *
  generalize inT ts arr C (σ+1) H1 k=H2 at *
  refine ⟨λh hh=>?_,?_,?_⟩
  .rw [key h hh]
   have := i1 h hh
   split <;> omega
  .have e1:=Ip (f:=λh=>max 0 (X h+Sm (vaT ts o arr (σ+1) h) k-H2.getD h 0)) (g:=λh=>max 0 (X h+Sm (vaT ts o arr (σ+1) h) (k+1)-H3.getD h 0)) (i:=(ts.getD k dT).2.1.toNat) (n:=12) (by omega) (λj hj hne=>by
    rw [key j hj,if_neg (λg=>hne g.1)]
    rw [Dr (f:=vaT ts o arr (σ+1) j) k]
    rw [show vaT ts o arr (σ+1) j k=0 by unfold vaT;rw[if_neg (by omega)]]
    omega)
   rw [e1,key _ (by omega),Dr (f:=vaT ts o arr (σ+1) (ts.getD k dT).2.1.toNat) k,Dr (f:=vdT ts o arr C σ (σ+1)) k,Dr (f:=vdT ts o arr C σ σ) k,Dr (f:=ltT ts o arr (σ+1)) k,Dr (f:=ltT ts o arr σ) k]
   have ev:vaT ts o arr (σ+1) (ts.getD k dT).2.1.toNat k=if arI ts arr k=σ+1 then o.getD k 0 else 0:=by
    unfold vaT
    by_cases c:arI ts arr k=σ+1
    .rw [if_pos ⟨by omega,c⟩,if_pos c]
    .rw [if_neg (λg=>c g.2),if_neg c]
   rw [ev]
   unfold arI
   have e2:vdT ts o arr C σ (σ+1) k=if ¬GH ts arr k/\(ts.getD k dT).2.2.1<=σ/\σ+1<arr.getD k 0 then o.getD k 0-C.getD k 0 else 0:=rfl
   have e3:vdT ts o arr C σ σ k=if ¬GH ts arr k/\(ts.getD k dT).2.2.1<=σ/\σ<arr.getD k 0 then o.getD k 0-C.getD k 0 else 0:=rfl
   have e4:ltT ts o arr (σ+1) k=if GH ts arr k/\(ts.getD k dT).2.2.2.2.1<=σ+1 then o.getD k 0 else 0:=rfl
   have e5:ltT ts o arr σ k=if GH ts arr k/\(ts.getD k dT).2.2.2.2.1<=σ then o.getD k 0 else 0:=rfl
   rw [e2,e3,e4,e5]
   by_cases hl:GH ts arr k
   .have hl2:arr.getD k 0<0\/(ts.getD k dT).2.2.2.2.1<arr.getD k 0:=hl
    simp only[hl,not_true_eq_false,false_and,true_and,if_true,if_false]
    clear p1 p2 hu hu0 mass lack i3 i1 key e1 ev e2 e3 e4 e5 H10 C0 eI
    (repeat' split) <;> omega
   .have hl2:¬(arr.getD k 0<0\/(ts.getD k dT).2.2.2.2.1<arr.getD k 0):=hl
    simp only[hl,not_false_eq_true,false_and,true_and,if_false]
    clear p1 p2 hu hu0 mass lack i3 i1 key e1 ev e2 e3 e4 e5 H10 C0 eI
    (repeat' split) <;> omega
  .have e1:=Ip (f:=λh=>H2.getD h 0) (g:=λh=>H3.getD h 0) (i:=(ts.getD k dT).2.1.toNat) (n:=12) (by omega) (λj hj hne=>by
    rw [key j hj,if_neg (λg=>hne g.1)]
    omega)
   rw [e1,key _ (by omega),Dr (f:=abT ts arr C σ (σ+1)) k,Dr (f:=abT ts arr C σ σ) k]
   have e2:abT ts arr C σ (σ+1) k=if (ts.getD k dT).2.2.1<=σ/\σ+1<arr.getD k 0 then C.getD k 0 else 0:=rfl
   have e3:abT ts arr C σ σ k=if (ts.getD k dT).2.2.1<=σ/\σ<arr.getD k 0 then C.getD k 0 else 0:=rfl
   rw [e2,e3]
   omega
theorem yC (F:Sv60 ls ts d l o arr) {σ:Int} (h0:0<=σ+1) (hσ:d.2.2.2.1<=σ+1) {S:List Int×List Int×List Int} (A:At60 ls ts d l o arr σ S):In60 ls ts d l o arr (σ+1) (dyA ts d arr (σ+1) S).1 S.2.2:=by
 obtain ⟨H,G,C⟩:=S
 obtain ⟨lH,lG,lC,H0,G0,C0,lack,mass⟩:=A
 dsimp only at lH lG lC H0 G0 C0 lack mass
 have by_:=F.byte
 have df:=F.dfr
 have abn:=Cm (f:=abT ts arr C σ σ) (n:=ts.length) (λi hi=>Qi (C0 i hi).1)
 have hHn:=Cm (f:=λh=>H.getD h 0) (n:=12) H0
 have hGn:=Cm (f:=λh=>G.getD h 0) (n:=12) (λi hi=>(G0 i hi).1)
 have mv:∀h,h<12->(mvT H G 12).1.getD h 0=H.getD h 0+G.getD h 0:=λh hh=>by
  have h1:=Hd (f:=λh=>H.getD h 0) (n:=12) (k:=h) H0 hh
  have h2:=Hd (f:=λh=>G.getD h 0) (n:=12) (k:=h) (λi hi=>(G0 i hi).1) hh
  have b1:=H0 h hh
  have b2:=(G0 h hh).1
  rw [(Y8 lH lG 12 (cg _) h).1,if_pos hh,Af (by omega) (by split at mass <;> omega)]
 have lA:(mvT H G 12).1.length=12:=(JY 12).1.trans lH
 have iA:∀h,h<12->(inA d (σ+1) (mvT H G 12).1).getD h 0=H.getD h 0+G.getD h 0+if d.1=(h:Int)/\d.2.2.2.1=σ+1 then d.2.2.1 else 0:=λh hh=>by
  unfold inA
  by_cases c:σ+1=d.2.2.2.1
  .rw [if_pos c]
   unfold adI
   rw [EF (by omega),mv _ (by omega)]
   by_cases e:h=d.1.toNat
   .have h1:=Hd (f:=λh=>H.getD h 0) (n:=12) (k:=h) H0 hh
    have h2:=Hd (f:=λh=>G.getD h 0) (n:=12) (k:=h) (λi hi=>(G0 i hi).1) hh
    have b1:=H0 h hh
    have b2:=(G0 h hh).1
    rw [if_neg (by omega)]at mass
    rw [if_pos e,if_pos ⟨by omega,c.symm⟩,<-e,Af (by omega) (by omega)]
   .rw [if_neg e,if_neg (λg=>e (by omega)),mv h hh];omega
  .rw [if_neg c,if_neg (λg=>c g.2.symm),mv h hh];omega
 have lI:(inA d (σ+1) (mvT H G 12).1).length=12:=inA_len.trans lA
 have lack1:Sm (λh=>max 0 (pB ls ts d l o arr σ h+quB ls l σ h+(if d.1=(h:Int)/\d.2.2.2.1=σ+1 then d.2.2.1 else 0)-(inA d (σ+1) (mvT H G 12).1).getD h 0)) 12+Sm (vdT ts o arr C σ σ) ts.length<=Sm (ltT ts o arr σ) ts.length:=by
  have e:Sm (λh=>max 0 (pB ls ts d l o arr σ h+quB ls l σ h+(if d.1=(h:Int)/\d.2.2.2.1=σ+1 then d.2.2.1 else 0)-(inA d (σ+1) (mvT H G 12).1).getD h 0)) 12<=Sm (λh=>max 0 (pB ls ts d l o arr σ h-H.getD h 0)+(quB ls l σ h-G.getD h 0)) 12:=VQ λh hh=>by
   rw [iA h hh]
   have :=(G0 h hh).2
   omega
  rw [GQ]at e
  omega
 have mass1:Sm (λh=>(inA d (σ+1) (mvT H G 12).1).getD h 0) 12+Sm (abT ts arr C σ σ) ts.length<=d.2.2.1:=by
  have e:Sm (λh=>(inA d (σ+1) (mvT H G 12).1).getD h 0) 12=Sm (λh=>(H.getD h 0+G.getD h 0)+if d.1=(h:Int)/\d.2.2.2.1=σ+1 then d.2.2.1 else 0) 12:=Br λh hh=>iA h hh
  rw [GQ,GQ]at e
  by_cases c:d.2.2.2.1=σ+1
  .rw [if_neg (by omega)]at mass
   have e2:Sm (λh:Nat=>if d.1=(h:Int)/\d.2.2.2.1=σ+1 then d.2.2.1 else 0) 12=d.2.2.1:=by
    rw [Br (g:=λh:Nat=>if d.1=(h:Int)then d.2.2.1 else 0) λh _=>by simp only[c,and_true],Pr,if_pos (by omega)]
   omega
  .rw [if_pos (by omega)]at mass
   have e2:Sm (λh:Nat=>if d.1=(h:Int)/\d.2.2.2.1=σ+1 then d.2.2.1 else 0) 12=0:=by
    rw [Br (g:=λ_=>0) λh _=>by rw[if_neg (λg=>c g.2)],B6]
   omega
 obtain ⟨r1,r2,r3⟩:=bL F h0 (C:=C) lI C0 (λh hh=>by
  rw [iA h hh]
  have := H0 h hh
  have :=(G0 h hh).1
  split <;> omega) lack1 mass1 ts.length (cg _)
 have es:σ+1-1=σ:=by omega
 refine ⟨Mh _ |>.trans lI,lC,r1,C0,?_,?_⟩
 .rw [es]
  show _+Sm (vdT ts o arr C σ (σ+1)) ts.length<=_
  have e:Sm (λh=>max 0 (pB ls ts d l o arr (σ+1) h+Sm (vfT ts o (σ+1) h) ts.length+Sm (fT ls l (σ+1) h) l.length-(dyA ts d arr (σ+1) (H,G,C)).1.getD h 0)) 12=Sm (λh=>max 0 (pB ls ts d l o arr σ h+quB ls l σ h+(if d.1=(h:Int)/\d.2.2.2.1=σ+1 then d.2.2.1 else 0)+Sm (vaT ts o arr (σ+1) h) ts.length-(inT ts arr C (σ+1) (inA d (σ+1) (mvT H G 12).1) ts.length).getD h 0)) 12:=Br λh _=>by
   rw [Af6 F];rfl
  rw [e]
  omega
 .rw [es]
  show Sm (λh=>(inT ts arr C (σ+1) (inA d (σ+1) (mvT H G 12).1) ts.length).getD h 0) 12+Sm (abT ts arr C σ (σ+1)) ts.length<=_
  omega
end
section
variable {ls:List Lnk} {ts:List Trp} {d:Dem} {l:List Snd} {o arr:List Int}
theorem Y9 {H:List Int} {h:Nat} {b:Int} (h0:0<=H.getD h 0) (b0:0<=b):0<=tkN H h b/\tkN H h b<=b/\tkN H h b<=H.getD h 0/\(tkN H h b=b\/tkN H h b=H.getD h 0):=by
 unfold tkN;split <;> omega
theorem yD {H:List Int} {h j:Nat} {b:Int} (hl:h<H.length) (h0:0<=H.getD h 0/\H.getD h 0<=1099511627776) (b0:0<=b):(tkH H h b).getD j 0=H.getD j 0-if j=h then tkN H h b else 0:=by
 have := Y9 h0.1 b0
 unfold tkH
 rw [EF hl]
 by_cases e:j=h
 .rw [if_pos e,if_pos e,e,Af (by omega) (by omega)]
 .rw [if_neg e,if_neg e];omega
theorem Wx (F:Sv60 ls ts d l o arr) {τ:Int} {C A:List Int} {Y:Nat->Int} (lA:A.length=12) (lC:C.length=4) (C0:∀k,k<ts.length->0<=C.getD k 0/\C.getD k 0<=o.getD k 0) (A0:∀h,h<12->0<=A.getD h 0)
  (Y0 : ∀h,h<12->0<=Y h)
  (lack : Sm (λh=>max 0 (Y h+Sm (vfT ts o τ h) ts.length-A.getD h 0)) 12+Sm (vdT ts o arr C (τ-1) τ) ts.length<=Sm (ltT ts o arr τ) ts.length)
  (mass : Sm (λh=>A.getD h 0) 12+Sm (abT ts arr C (τ-1) τ) ts.length<=d.2.2.1):∀k,k<=ts.length ->
  (∀ h,h<12->0<=(ouT ts o τ A C k).1.getD h 0)/\(∀i,i<ts.length->0<=(ouT ts o τ A C k).2.getD i 0/\(ouT ts o τ A C k).2.getD i 0<=o.getD i 0)/\(∀i,k<=i->(ouT ts o τ A C k).2.getD i 0=C.getD i 0) /\
  Sm (λh=>max 0 (Y h+Sm (vfT ts o τ h) ts.length-Sm (vfT ts o τ h) k-(ouT ts o τ A C k).1.getD h 0)) 12+(Sm (vdT ts o arr (ouT ts o τ A C k).2 τ τ) k+Sm (vdT ts o arr C (τ-1) τ) ts.length-Sm (vdT ts o arr C (τ-1) τ) k)<=Sm (ltT ts o arr τ) ts.length /\
  Sm (λh=>(ouT ts o τ A C k).1.getD h 0) 12+(Sm (abT ts arr (ouT ts o τ A C k).2 τ τ) k+Sm (abT ts arr C (τ-1) τ) ts.length-Sm (abT ts arr C (τ-1) τ) k)<=d.2.2.1
 | 0,_=>by
  refine ⟨A0,C0,λi _=>rfl,?_,?_⟩
  .simp only[Sm,ouT,xz,x8]at lack ⊢
   exact lack
  .simp only[Sm,ouT,xz,x8]at mass ⊢
   exact mass
 | k + 1,hk=>by
  obtain ⟨i1,i2,i3,i4,i5⟩:=Wx F lA lC C0 A0 Y0 lack mass k (by omega)
  obtain ⟨l1,l2⟩:=Im (ts:=ts) (o:=o) (C:=C) (H:=A) (τ:=τ) k
  rw [lA]at l1
  rw [lC]at l2
  have hk4:=F.few
  have eI:ouT ts o τ A C (k+1)=if (ts.getD k dT).2.2.1=τ then (tkH (ouT ts o τ A C k).1 (ts.getD k dT).1.toNat (o.getD k 0),(ouT ts o τ A C k).2.set k (tkN (ouT ts o τ A C k).1 (ts.getD k dT).1.toNat (o.getD k 0)))else ouT ts o τ A C k:=rfl
  have ck:=C0 k (by omega)
  have tf:=F.tfr k (by omega)
  have av:=F.arv k (by omega)
  have ok0:=(F.load k (by omega)).1
  have by_:=F.byte
  have vf_nn:∀h i,i<ts.length->0<=vfT ts o τ h i:=λh i hi=>by
   have :=(F.load i hi).1
   unfold vfT;split <;> omega
  have part:∀h,Sm (vfT ts o τ h) (k+1)<=Sm (vfT ts o τ h) ts.length:=λh=>Oi (vf_nn h) (k+1) hk
  have ic:=i3 k (cg _)
  generalize ouT ts o τ A C (k+1)=U' at *
  generalize ouT ts o τ A C k=U at *
  obtain ⟨U,X⟩:=U
  dsimp only at i1 i2 i3 i4 i5 l1 l2 eI ic
  by_cases c:(ts.getD k dT).2.2.1=τ
  case neg =>
   rw [if_neg c]at eI
   subst eI
   dsimp only
   have e0:∀h,vfT ts o τ h k=0:=λh=>by unfold vfT;rw[if_neg (λg=>c g.2)]
   have e1:vdT ts o arr X τ τ k=vdT ts o arr C (τ-1) τ k:=by
    unfold vdT
    rw [ic]
    by_cases hl:GH ts arr k
    .simp only[hl,not_true_eq_false,false_and,if_false]
    .simp only[hl,not_false_eq_true,true_and]
     (repeat' split) <;> omega
   have e2:abT ts arr X τ τ k=abT ts arr C (τ-1) τ k:=by
    unfold abT
    rw [ic]
    (repeat' split) <;> omega
   refine ⟨i1,i2,λi hi=>i3 i (by omega),?_,?_⟩
   .rw [Dr (f:=vdT ts o arr X τ τ) k,Dr (f:=vdT ts o arr C (τ-1) τ) k,e1]
    rw [Br (g:=λh=>max 0 (Y h+Sm (vfT ts o τ h) ts.length-Sm (vfT ts o τ h) k-U.getD h 0)) λh _=>by rw[Dr (f:=vfT ts o τ h) k,e0,th]]
    omega
   .rw [Dr (f:=abT ts arr X τ τ) k,Dr (f:=abT ts arr C (τ-1) τ) k,e2]
    omega
  rw [if_pos c]at eI
  subst eI
  dsimp only
  have hf:(ts.getD k dT).1.toNat<12:=by omega
  have hu0:=i1 _ hf
  have ab0:0<=Sm (abT ts arr X τ τ) k:=Cm λi hi=>Qi (i2 i (by omega)).1
  have ab1:=Oi (f:=abT ts arr C (τ-1) τ) (n:=ts.length) (λi hi=>Qi (C0 i hi).1) k (by omega)
  have huS:=Hd (f:=λh=>U.getD h 0) (n:=12) (k:=(ts.getD k dT).1.toNat) i1 hf
  have tb:=Y9 (H:=U) (h:=(ts.getD k dT).1.toNat) (b:=o.getD k 0) hu0 ok0
  have tat:=λj=>yD (H:=U) (h:=(ts.getD k dT).1.toNat) (j:=j) (b:=o.getD k 0) (by omega) ⟨hu0,by omega⟩ ok0
  have xat:=λj=>EF (L:=X) (i:=k) (j:=j) (v:=tkN U (ts.getD k dT).1.toNat (o.getD k 0)) (by omega)
  have ev:vfT ts o τ (ts.getD k dT).1.toNat k=o.getD k 0:=by unfold vfT;rw[if_pos ⟨by omega,c⟩]
  have ev0:∀j,j≠(ts.getD k dT).1.toNat->vfT ts o τ j k=0:=λj hj=>by unfold vfT;rw[if_neg (λg=>hj (by omega))]
  have pt:=part (ts.getD k dT).1.toNat
  rw [Dr (f:=vfT ts o τ (ts.getD k dT).1.toNat) k,ev]at pt
  have y0:=Y0 _ hf
  generalize tkN U (ts.getD k dT).1.toNat (o.getD k 0)=a at *
  generalize tkH U (ts.getD k dT).1.toNat (o.getD k 0)=U2 at *
  have e1:Sm (vdT ts o arr (X.set k a) τ τ) k=Sm (vdT ts o arr X τ τ) k:=Br λi hi=>by unfold vdT;rw[xat i,if_neg (show ¬i=k by omega)]
  have e2:Sm (abT ts arr (X.set k a) τ τ) k=Sm (abT ts arr X τ τ) k:=Br λi hi=>by unfold abT;rw[xat i,if_neg (show ¬i=k by omega)]
  have e3:vdT ts o arr (X.set k a) τ τ k<=o.getD k 0-a:=by
   unfold vdT
   rw [xat k,if_pos (show k=k from rfl)]
   split <;> omega
  have e4:vdT ts o arr C (τ-1) τ k=0:=by unfold vdT;rw[if_neg (λg=>by omega)]
  have e5:abT ts arr (X.set k a) τ τ k<=a:=by
   unfold abT
   rw [xat k,if_pos (show k=k from rfl)]
   split <;> omega
  have e6:abT ts arr C (τ-1) τ k=0:=by unfold abT;rw[if_neg (λg=>by omega)]
  refine ⟨λh hh=>?_,λi hi=>?_,λi hi=>?_,?_,?_⟩
  .rw [tat]
   have := i1 h hh
   by_cases e:h=(ts.getD k dT).1.toNat
   .rw [if_pos e,e];omega
   .rw [if_neg e];omega
  .rw [xat]
   by_cases e:i=k
   .rw [if_pos e,e];omega
   .rw [if_neg e];exact i2 i hi
  .rw [xat,if_neg (by omega)]
   exact i3 i (by omega)
  .have s1:=Ip (f:=λh=>max 0 (Y h+Sm (vfT ts o τ h) ts.length-Sm (vfT ts o τ h) k-U.getD h 0)) (g:=λh=>max 0 (Y h+Sm (vfT ts o τ h) ts.length-Sm (vfT ts o τ h) (k+1)-U2.getD h 0)) (i:=(ts.getD k dT).1.toNat) (n:=12) hf (λj hj hne=>by
    rw [tat,if_neg hne,Dr (f:=vfT ts o τ j) k,ev0 j hne]
    omega)
   rw [s1,tat,if_pos rfl,Dr (f:=vfT ts o τ (ts.getD k dT).1.toNat) k,ev,Dr (f:=vdT ts o arr (X.set k a) τ τ) k,Dr (f:=vdT ts o arr C (τ-1) τ) k,e1,e4]
   clear s1 i5 mass lack e2 e5 e6 ab0 ab1 huS tat xat
   omega
  .have s1:=Ip (f:=λh=>U.getD h 0) (g:=λh=>U2.getD h 0) (i:=(ts.getD k dT).1.toNat) (n:=12) hf (λj hj hne=>by
    rw [tat,if_neg hne]
    omega)
   rw [s1,tat,if_pos rfl,Dr (f:=abT ts arr (X.set k a) τ τ) k,Dr (f:=abT ts arr C (τ-1) τ) k,e2,e6]
   clear s1 i4 lack e1 e3 e4 tat xat
   omega
end
section
variable {ls:List Lnk} {ts:List Trp} {d:Dem} {l:List Snd} {o arr:List Int}
theorem RT (F:Sv60 ls ts d l o arr) {τ V E Cc:Int} (hc:0<=Cc) {U B0:List Int} {Y:Nat->Int} (lU:U.length=12) (lB:B0.length=12) (U0:∀h,h<12->0<=U.getD h 0) (B00:∀h,h<12->B0.getD h 0=0) (Y0:∀h,h<12->0<=Y h)
  (lack : Sm (λh=>max 0 (Y h+Sm (fT ls l τ h) l.length-U.getD h 0)) 12+V<=E) (mass:Sm (λh=>U.getD h 0) 12+Cc<=d.2.2.1):∀k,k<=l.length ->
  (∀ h,h<12->0<=(seT ls l τ U B0 k).1.getD h 0)/\(∀h,h<12->0<=(seT ls l τ U B0 k).2.getD h 0/\(seT ls l τ U B0 k).2.getD h 0<=Sm (qT ls l τ h) k) /\
  Sm (λh=>max 0 (Y h+Sm (fT ls l τ h) l.length-Sm (fT ls l τ h) k-(seT ls l τ U B0 k).1.getD h 0)) 12+Sm (λh=>Sm (qT ls l τ h) k-(seT ls l τ U B0 k).2.getD h 0) 12+V<=E /\
  Sm (λh=>(seT ls l τ U B0 k).1.getD h 0) 12+Sm (λh=>(seT ls l τ U B0 k).2.getD h 0) 12+Cc<=d.2.2.1
 | 0,_=>by
  have z1:Sm (λh=>Sm (qT ls l τ h) 0-B0.getD h 0) 12=0:=by
   rw [Br (g:=λ_=>0) λh hh=>by rw[B00 h hh];rfl,B6]
  have z2:Sm (λh=>B0.getD h 0) 12=0:=by
   rw [Br (g:=λ_=>0) λh hh=>B00 h hh,B6]
  have z3:Sm (λh=>max 0 (Y h+Sm (fT ls l τ h) l.length-Sm (fT ls l τ h) 0-U.getD h 0)) 12=Sm (λh=>max 0 (Y h+Sm (fT ls l τ h) l.length-U.getD h 0)) 12:=Br λh _=>by
   rw [show Sm (fT ls l τ h) 0=0 from rfl,xz]
  refine ⟨U0,λh hh=>?_,?_,?_⟩
  .show 0<=B0.getD h 0/\B0.getD h 0<=0
   rw [B00 h hh];omega
  .show Sm (λh=>max 0 (Y h+Sm (fT ls l τ h) l.length-Sm (fT ls l τ h) 0-U.getD h 0)) 12+Sm (λh=>Sm (qT ls l τ h) 0-B0.getD h 0) 12+V<=E
   omega
  .show Sm (λh=>U.getD h 0) 12+Sm (λh=>B0.getD h 0) 12+Cc<=d.2.2.1
   omega
 | k + 1,hk=>by
  obtain ⟨i1,i2,i4,i5⟩:=RT F hc lU lB U0 B00 Y0 lack mass k (by omega)
  obtain ⟨l1,l2⟩:=JZ (ls:=ls) (l:=l) (H:=U) (G:=B0) (τ:=τ) k
  rw [lU]at l1
  rw [lB]at l2
  have eI:(seT ls l τ U B0 (k+1))=if (l.getD k dS).2.1=τ then (tkH (seT ls l τ U B0 k).1 (AB ls (l.getD k dS)).1.toNat (l.getD k dS).2.2,adI (seT ls l τ U B0 k).2 (AB ls (l.getD k dS)).2.1.toNat (tkN (seT ls l τ U B0 k).1 (AB ls (l.getD k dS)).1.toNat (l.getD k dS).2.2))else seT ls l τ U B0 k:=rfl
  have tf:=F.lfr k (by omega)
  have tt:=F.lto k (by omega)
  have bb:=F.byt k (by omega)
  have by_:=F.byte
  have f_nn:∀h i,i<l.length->0<=fT ls l τ h i:=λh i hi=>by
   have := F.byt i hi
   unfold fT;split <;> omega
  have part:∀h,Sm (fT ls l τ h) (k+1)<=Sm (fT ls l τ h) l.length:=λh=>Oi (f_nn h) (k+1) hk
  generalize seT ls l τ U B0 (k+1)=W' at *
  generalize seT ls l τ U B0 k=W at *
  obtain ⟨W,G⟩:=W
  dsimp only at i1 i2 i4 i5 l1 l2 eI
  by_cases c:(l.getD k dS).2.1=τ
  case neg =>
   rw [if_neg c]at eI
   subst eI
   dsimp only
   have e0:∀h,fT ls l τ h k=0:=λh=>by unfold fT;rw[if_neg (λg=>c g.2)]
   have e1:∀h,qT ls l τ h k=0:=λh=>by unfold qT;rw[if_neg (λg=>c g.2)]
   refine ⟨i1,λh hh=>?_,?_,i5⟩
   .rw [Dr (f:=qT ls l τ h) k,e1]
    have := i2 h hh
    omega
   .rw [Br (g:=λh=>max 0 (Y h+Sm (fT ls l τ h) l.length-Sm (fT ls l τ h) k-W.getD h 0)) λh _=>by rw[Dr (f:=fT ls l τ h) k,e0,th],
     Br (f:=λh=>Sm (qT ls l τ h) (k+1)-G.getD h 0) (g:=λh=>Sm (qT ls l τ h) k-G.getD h 0) λh _=>by rw[Dr (f:=qT ls l τ h) k,e1,th]]
    exact i4
  rw [if_pos c]at eI
  subst eI
  dsimp only
  have hf:(AB ls (l.getD k dS)).1.toNat<12:=by omega
  have hv:(AB ls (l.getD k dS)).2.1.toNat<12:=by omega
  have hu0:=i1 _ hf
  have huS:=Hd (f:=λh=>W.getD h 0) (n:=12) (k:=(AB ls (l.getD k dS)).1.toNat) i1 hf
  have hgS:=Hd (f:=λh=>G.getD h 0) (n:=12) (k:=(AB ls (l.getD k dS)).2.1.toNat) (λh hh=>(i2 h hh).1) hv
  have hgn:=Cm (f:=λh=>G.getD h 0) (n:=12) (λh hh=>(i2 h hh).1)
  have hg0:=(i2 _ hv).1
  have tb:=Y9 (H:=W) (h:=(AB ls (l.getD k dS)).1.toNat) (b:=(l.getD k dS).2.2) hu0 (by omega)
  have tat:=λj=>yD (H:=W) (h:=(AB ls (l.getD k dS)).1.toNat) (j:=j) (b:=(l.getD k dS).2.2) (by omega) ⟨hu0,by omega⟩ (by omega)
  have ev:fT ls l τ (AB ls (l.getD k dS)).1.toNat k=(l.getD k dS).2.2:=by unfold fT;rw[if_pos ⟨by omega,c⟩]
  have ev0:∀j,j≠(AB ls (l.getD k dS)).1.toNat->fT ls l τ j k=0:=λj hj=>by unfold fT;rw[if_neg (λg=>hj (by omega))]
  have eq1:qT ls l τ (AB ls (l.getD k dS)).2.1.toNat k=(l.getD k dS).2.2:=by unfold qT;rw[if_pos ⟨by omega,c⟩]
  have eq0:∀j,j≠(AB ls (l.getD k dS)).2.1.toNat->qT ls l τ j k=0:=λj hj=>by unfold qT;rw[if_neg (λg=>hj (by omega))]
  have pt:=part (AB ls (l.getD k dS)).1.toNat
  rw [Dr (f:=fT ls l τ (AB ls (l.getD k dS)).1.toNat) k,ev]at pt
  have y0:=Y0 _ hf
  have gat:∀j,(adI G (AB ls (l.getD k dS)).2.1.toNat (tkN W (AB ls (l.getD k dS)).1.toNat (l.getD k dS).2.2)).getD j 0=G.getD j 0+if j=(AB ls (l.getD k dS)).2.1.toNat then tkN W (AB ls (l.getD k dS)).1.toNat (l.getD k dS).2.2 else 0:=λj=>by
   unfold adI
   rw [EF (by omega)]
   by_cases e:j=(AB ls (l.getD k dS)).2.1.toNat
   .rw [if_pos e,if_pos e,e,Af (by omega) (by omega)]
   .rw [if_neg e,if_neg e];omega
  generalize tkN W (AB ls (l.getD k dS)).1.toNat (l.getD k dS).2.2=a at *
  generalize tkH W (AB ls (l.getD k dS)).1.toNat (l.getD k dS).2.2=W2 at *
  generalize adI G (AB ls (l.getD k dS)).2.1.toNat a=G2 at *
  refine ⟨λh hh=>?_,λh hh=>?_,?_,?_⟩
  .rw [tat]
   have := i1 h hh
   by_cases e:h=(AB ls (l.getD k dS)).1.toNat
   .rw [if_pos e,e];omega
   .rw [if_neg e];omega
  .rw [gat,Dr (f:=qT ls l τ h) k]
   have := i2 h hh
   by_cases e:h=(AB ls (l.getD k dS)).2.1.toNat
   .rw [if_pos e,e,eq1,<-e];omega
   .rw [if_neg e,eq0 h e];omega
  .have s1:=Ip (f:=λh=>max 0 (Y h+Sm (fT ls l τ h) l.length-Sm (fT ls l τ h) k-W.getD h 0)) (g:=λh=>max 0 (Y h+Sm (fT ls l τ h) l.length-Sm (fT ls l τ h) (k+1)-W2.getD h 0)) (i:=(AB ls (l.getD k dS)).1.toNat) (n:=12) hf (λj hj hne=>by
    rw [tat,if_neg hne,Dr (f:=fT ls l τ j) k,ev0 j hne]
    omega)
   have s2:=Ip (f:=λh=>Sm (qT ls l τ h) k-G.getD h 0) (g:=λh=>Sm (qT ls l τ h) (k+1)-G2.getD h 0) (i:=(AB ls (l.getD k dS)).2.1.toNat) (n:=12) hv (λj hj hne=>by
    rw [gat,if_neg hne,Dr (f:=qT ls l τ j) k,eq0 j hne]
    omega)
   rw [s1,s2,tat,if_pos rfl,gat,if_pos rfl,Dr (f:=fT ls l τ (AB ls (l.getD k dS)).1.toNat) k,ev,Dr (f:=qT ls l τ (AB ls (l.getD k dS)).2.1.toNat) k,eq1]
   clear s1 s2 i5 mass lack huS hgS hgn tat gat
   omega
  .have s1:=Ip (f:=λh=>W.getD h 0) (g:=λh=>W2.getD h 0) (i:=(AB ls (l.getD k dS)).1.toNat) (n:=12) hf (λj hj hne=>by
    rw [tat,if_neg hne]
    omega)
   have s2:=Ip (f:=λh=>G.getD h 0) (g:=λh=>G2.getD h 0) (i:=(AB ls (l.getD k dS)).2.1.toNat) (n:=12) hv (λj hj hne=>by
    rw [gat,if_neg hne]
    omega)
   rw [s1,s2,tat,if_pos rfl,gat,if_pos rfl]
   clear s1 s2 i4 lack tat gat
   omega
theorem Alr (F:Sv60 ls ts d l o arr) {τ:Int} (hτ:d.2.2.2.1<=τ) {A Bz C:List Int} (lB:Bz.length=12) (hz:∀h,h<12->Bz.getD h 0=0) (I:In60 ls ts d l o arr τ A C):At60 ls ts d l o arr τ (dyB ls ts l o τ (A,Bz,C)):=by
 obtain ⟨lA,lC,A0,C0,lack,mass⟩:=I
 have fnn:∀h,0<=Sm (fT ls l τ h) l.length:=λh=>Cm λi hi=>by
  have := F.byt i hi
  unfold fT;split <;> omega
 obtain ⟨o1,o2,o3,o4,o5⟩:=Wx F (τ:=τ) (Y:=λh=>pB ls ts d l o arr τ h+Sm (fT ls l τ h) l.length) lA lC C0 A0 (λh hh=>by have:=F.nn τ h hτ hh;have:=fnn h;omega) (by
  refine Int.le_trans (Int.le_of_eq ?_) lack
  congr 1
  exact Br λh _=>by congr 1;omega) mass ts.length (cg _)
 have lU:=(Im (ts:=ts) (o:=o) (C:=C) (H:=A) (τ:=τ) ts.length).1.trans lA
 have lX:=(Im (ts:=ts) (o:=o) (C:=C) (H:=A) (τ:=τ) ts.length).2.trans lC
 have eB:dyB ls ts l o τ (A,Bz,C)=((seT ls l τ (ouT ts o τ A C ts.length).1 Bz l.length).1,(seT ls l τ (ouT ts o τ A C ts.length).1 Bz l.length).2,(ouT ts o τ A C ts.length).2):=rfl
 rw [eB]
 generalize ouT ts o τ A C ts.length=U at *
 obtain ⟨U,X⟩:=U
 dsimp only at o1 o2 o3 o4 o5 lU lX ⊢
 have ab0:0<=Sm (abT ts arr X τ τ) ts.length:=Cm λi hi=>Qi (o2 i hi).1
 obtain ⟨r1,r2,r3,r4⟩:=RT F (τ:=τ) (V:=Sm (vdT ts o arr X τ τ) ts.length) (E:=Sm (ltT ts o arr τ) ts.length) (Cc:=Sm (abT ts arr X τ τ) ts.length) ab0 (Y:=pB ls ts d l o arr τ) lU lB o1 hz (λh hh=>F.nn τ h hτ hh) (by
  have e:Sm (λh=>max 0 (pB ls ts d l o arr τ h+Sm (fT ls l τ h) l.length+Sm (vfT ts o τ h) ts.length-Sm (vfT ts o τ h) ts.length-U.getD h 0)) 12=Sm (λh=>max 0 (pB ls ts d l o arr τ h+Sm (fT ls l τ h) l.length-U.getD h 0)) 12:=Br λh _=>by congr 1;omega
  omega) (by omega) l.length (cg _)
 obtain ⟨q1,q2⟩:=JZ (ls:=ls) (l:=l) (H:=U) (G:=Bz) (τ:=τ) l.length
 refine ⟨q1.trans lU,q2.trans lB,lX,r1,r2,o2,?_,?_⟩
 .have e:Sm (λh=>max 0 (pB ls ts d l o arr τ h+Sm (fT ls l τ h) l.length-Sm (fT ls l τ h) l.length-(seT ls l τ U Bz l.length).1.getD h 0)) 12=Sm (λh=>max 0 (pB ls ts d l o arr τ h-(seT ls l τ U Bz l.length).1.getD h 0)) 12:=Br λh _=>by congr 1;omega
  rw [e]at r3
  exact r3
 .rw [if_pos hτ]
  exact r4
theorem Ag7 (F:Sv60 ls ts d l o arr) (hr:0<=d.2.2.2.1) (ini:At60 ls ts d l o arr (d.2.2.2.1-1) (dlS ls ts d l o arr 0)):∀t:Nat,At60 ls ts d l o arr (d.2.2.2.1+(t:Int)-1) (dlS ls ts d l o arr t)/\In60 ls ts d l o arr (d.2.2.2.1+(t:Int)) (dyA ts d arr (d.2.2.2.1+(t:Int)) (dlS ls ts d l o arr t)).1 (dlS ls ts d l o arr t).2.2
 | 0=>by
  have e:d.2.2.2.1+((0:Nat):Int)=d.2.2.2.1-1+1:=by omega
  refine ⟨by rw[show d.2.2.2.1+((0:Nat):Int)-1=d.2.2.2.1-1 by omega];exact ini,?_⟩
  rw [e]
  exact yC F (by omega) (by omega) ini
 | t+1=>by
  obtain ⟨a1,a2⟩:=Ag7 F hr ini t
  have hz:∀h,h<12->(dyA ts d arr (d.2.2.2.1+(t:Int)) (dlS ls ts d l o arr t)).2.1.getD h 0=0:=λh hh=>by
   have :=(Y8 a1.lH a1.lG 12 (cg _) h).2
   rw [if_pos hh]at this
   exact this
  have b:=Alr F (τ:=d.2.2.2.1+(t:Int)) (by omega) (dyA_len.2.1.trans a1.lG) hz a2
  have e:d.2.2.2.1+((t+1:Nat):Int)=d.2.2.2.1+(t:Int)+1:=by omega
  have b2:At60 ls ts d l o arr (d.2.2.2.1+(t:Int)) (dlS ls ts d l o arr (t+1)):=b
  refine ⟨by rw[show d.2.2.2.1+((t+1:Nat):Int)-1=d.2.2.2.1+(t:Int) by omega];exact b2,?_⟩
  rw [e]
  exact yC F (by omega) (by omega) b2
end
def Fv (f:Snd->Int):List Snd->Int
 | []=>0
 | x::l=>Fv f l+f x
theorem Ml {f:Snd->Int} {m:List Snd}:∀ {l:List Snd},Fv f (l++m)=Fv f l+Fv f m
 | []=>by simp[Fv]
 | x::l=>by
  have := Ml (f:=f) (m:=m) (l:=l)
  simp only[List.cons_append,Fv,this];omega
theorem lE {f:Snd->Int} {l m:List Snd} (h:l.Perm m):Fv f l=Fv f m:=by
 induction h with
 | nil=>rfl
 | cons x _ ih=>simp only[Fv,ih]
 | swap x y l=>simp only[Fv];omega
 | trans _ _ h1 h2=>exact h1.trans h2
theorem bM {f:Snd->Int} {l:List Snd}:∀k,k<=l.length->Sm (λi=>f (l.getD i dS)) k=Fv f (l.take k)
 | 0,_=>by simp[Sm,Fv]
 | k+1,hk=>by
  have ih:=bM (f:=f) (l:=l) k (by omega)
  rw [Qe hk,Ml]
  simp only[Sm,Fv]
  omega
theorem Gk {f:Snd->Int} {l:List Snd}:Sm (λi=>f (l.getD i dS)) l.length=Fv f l:=by rw[bM _ (cg _),List.take_length]
def naT (ls:List Lnk) (σ ρ:Int) (h:Nat) (x:Snd):Int:=(if (AB ls x).2.1=(h:Int)/\x.2.1<σ then x.2.2 else 0)-(if (AB ls x).1=(h:Int)/\x.2.1<ρ then x.2.2 else 0)
section
variable {hn:Int} {ls:List Lnk} {us:List Snd} {ts:List Trp} {d:Dem} {l:List Snd} {o arr:List Int}
def nvT (ts:List Trp) (o:List Int) (arr:List Int) (σ ρ:Int) (h:Nat) (k:Nat):Int:=(if (ts.getD k dT).2.1=(h:Int)/\arI ts arr k<=σ then o.getD k 0 else 0)-(if (ts.getD k dT).1=(h:Int)/\(ts.getD k dT).2.2.1<ρ then o.getD k 0 else 0)
theorem Wy (V:VoyOK hn ls us ts d) (hO:okO ts o) {s:Nat} {σ ρ:Int} {h:Nat} (hh:(h:Int)<hn):∀k,k<=ts.length->Fv (naT (wLs hn ls ts d s) σ ρ h) (Cs ls.length ts o k)<=Sm (nvT ts o arr σ ρ h) k
 | 0,_=>pj _
 | k+1,hk=>by
  have ih:=Wy V hO (s:=s) (σ:=σ) (ρ:=ρ) hh k (by omega)
  have ok:=hO k (by omega)
  have tm:=V.times k (by omega)
  rw [Dr (f:=nvT ts o arr σ ρ h) k]
  simp only[Cs]
  have aI:arI ts arr k<=(ts.getD k dT).2.2.2.2.1:=by
   unfold arI
   by_cases c:GH ts arr k
   .rw [if_pos c];exact pj _
   .rw [if_neg c]
    have : ¬(arr.getD k 0<0\/(ts.getD k dT).2.2.2.2.1<arr.getD k 0):=c
    omega
  have e3:nvT ts o arr σ ρ h k=(if (ts.getD k dT).2.1=(h:Int)/\arI ts arr k<=σ then o.getD k 0 else 0)-(if (ts.getD k dT).1=(h:Int)/\(ts.getD k dT).2.2.1<ρ then o.getD k 0 else 0):=rfl
  by_cases c:0<o.getD k 0
  .rw [if_pos c,Ml]
   simp only[Fv]
   have e1:naT (wLs hn ls ts d s) σ ρ h (((ls.length+2*k:Nat):Int),(ts.getD k dT).2.2.1,o.getD k 0) = - (if (ts.getD k dT).1=(h:Int)/\(ts.getD k dT).2.2.1<ρ then o.getD k 0 else 0):=by
    unfold naT AB
    dsimp only
    rw [show (((ls.length+2*k:Nat):Int)).toNat=ls.length+2*k from pe _,Ii (by omega),show (PJ hn d s ts k).2.1=hn+(k:Int) from rfl,show (PJ hn d s ts k).1=(ts.getD k dT).1 from rfl]
    rw [if_neg (show ¬(hn+(k:Int)=(h:Int)/\(ts.getD k dT).2.2.1<σ) by omega)]
    omega
   have e2:naT (wLs hn ls ts d s) σ ρ h (((ls.length+2*k+1:Nat):Int),(ts.getD k dT).2.2.2.2.1-1,o.getD k 0)=if (ts.getD k dT).2.1=(h:Int)/\(ts.getD k dT).2.2.2.2.1-1<σ then o.getD k 0 else 0:=by
    unfold naT AB
    dsimp only
    rw [show (((ls.length+2*k+1:Nat):Int)).toNat=ls.length+2*k+1 from pe _,Ij (by omega),show (PK hn d s ts k).2.1=(ts.getD k dT).2.1 from rfl,show (PK hn d s ts k).1=hn+(k:Int) from rfl]
    rw [if_neg (show ¬(hn+(k:Int)=(h:Int)/\(ts.getD k dT).2.2.2.2.1-1<ρ) by omega)]
    omega
   rw [e1,e2,e3]
   clear e1 e2 e3
   (repeat' split) <;> omega
  .rw [if_neg c,e3]
   clear e3
   (repeat' split) <;> omega
theorem Als (ok:OKr hn ls l) {s:Nat} {σ ρ:Int} {h:Nat}:Fv (naT (wLs hn ls ts d s) σ ρ h) l=Fv (naT ls σ ρ h) l:=by
 rw [<-Gk,<-Gk]
 refine Br λi hi=>?_
 have := ok.link i hi
 unfold naT AB
 rw [Ih (by omega)]
section
variable {m:List Snd} {σ:Int} {h:Nat}
theorem Af7:Ba ls m d (h:Int) σ=CO d (h:Int) σ+Fv (naT ls σ σ h) m:=by
 unfold Ba
 rw [DA,<-Gk]
 congr 1
 exact Br λi _=>by
  unfold CI naT
  (repeat' split) <;> omega
theorem Af8:Ba ls m d (h:Int) σ-Dz ls m σ (h:Int) m.length=CO d (h:Int) σ+Fv (naT ls σ (σ+1) h) m:=by
 unfold Ba
 rw [DA,JF,<-Gk]
 have : Sm (λi=>CI ls (m.getD i dS) (h:Int) σ) m.length-Sm (λi=>if (m.getD i dS).2.1=σ/\frM ls m i=(h:Int)then (m.getD i dS).2.2 else 0) m.length=Sm (λi=>naT ls σ (σ+1) h (m.getD i dS)) m.length:=by
  rw [<-MY]
  exact Br λi _=>by
   unfold CI naT frM
   (repeat' split) <;> omega
 omega
end
theorem Wz (S:SchOK hn ls us ts d l o):(schL hn ls us ts d l o).Perm (l++Cs ls.length ts o ts.length):=by
 unfold schL
 rw [if_pos (sch_zero.2 S)]
 exact srtS_perm
theorem Ag8 (S:SchOK hn ls us ts d l o) {s:Nat} {σ ρ:Int} {h:Nat} (hh:(h:Int)<hn):Fv (naT (wLs hn ls ts d s) σ ρ h) (schL hn ls us ts d l o)<=Fv (naT ls σ ρ h) l+Sm (nvT ts o arr σ ρ h) ts.length:=by
 rw [lE (Wz S),Ml,Als S.right]
 have := Wy (arr:=arr) S.voy S.room (s:=s) (σ:=σ) (ρ:=ρ) hh ts.length (cg _)
 omega
theorem Ag9 {σ:Int} {h:Nat}:pB ls ts d l o arr σ h=(if d.1=(h:Int)/\d.2.2.2.1<=σ then d.2.2.1 else 0)+Fv (naT ls σ (σ+1) h) l+Sm (nvT ts o arr σ (σ+1) h) ts.length:=by
 unfold pB
 rw [<-Gk]
 have e1:Sm (plT ls l σ h) l.length=Sm (λi=>naT ls σ (σ+1) h (l.getD i dS)) l.length:=Br λi _=>by
  unfold plT naT
  (repeat' split) <;> omega
 have e2:Sm (pvT ts o arr σ h) ts.length=Sm (nvT ts o arr σ (σ+1) h) ts.length:=Br λi _=>by
  unfold pvT nvT
  (repeat' split) <;> omega
 rw [e1,e2]
theorem An4 {σ:Int} {h:Nat}:pB ls ts d l o arr σ h+Sm (vfT ts o σ h) ts.length+Sm (fT ls l σ h) l.length=(if d.1=(h:Int)/\d.2.2.2.1<=σ then d.2.2.1 else 0)+Fv (naT ls σ σ h) l+Sm (nvT ts o arr σ σ h) ts.length:=by
 rw [Ag9,<-Gk,<-Gk]
 have e1:Sm (λi=>naT ls σ (σ+1) h (l.getD i dS)) l.length+Sm (fT ls l σ h) l.length=Sm (λi=>naT ls σ σ h (l.getD i dS)) l.length:=by
  rw [<-GQ]
  exact Br λi _=>by
   unfold fT naT
   (repeat' split) <;> omega
 have e2:Sm (nvT ts o arr σ (σ+1) h) ts.length+Sm (vfT ts o σ h) ts.length=Sm (nvT ts o arr σ σ h) ts.length:=by
  rw [<-GQ]
  exact Br λi _=>by
   unfold vfT nvT
   (repeat' split) <;> omega
 omega
theorem Aog (hs:Fr hn ls us ts d l o=0) (ha:∀k,k<ts.length->¬arB ts arr k):Sv60 ls ts d l o arr:=by
 have S:=GG hs
 have V:=S.voy
 have sv:=serves_iff.1 (TP hs).1
 have P:=Wz S
 obtain ⟨hf,hdm,hD,hdu⟩:=BL V.fck
 obtain ⟨⟨a0,a1⟩,⟨c0,c1⟩,hr⟩:=BR hdm
 have n:=Mb V
 have hh:=n.houses
 have first:∀x,x∈l++Cs ls.length ts o ts.length->d.2.2.2.1<=x.2.1:=λx hx=>by
  obtain ⟨i,hi,rfl⟩:=Ga (P.mem_iff.2 hx)
  exact Ps sv i hi
 have ends:=λi (hi:i<l.length)=>(show _ from (n.ends (l.getD i dS).1.toNat (by have:=S.right.link i hi;omega)))
 refine ⟨λi hi=>first _ (List.mem_append_left _ (CK hi)),λi hi=>(S.right.bytes i hi).1,λi hi=>?_,λi hi=>?_,V.few,λk hk=>?_,λk hk=>?_,λk hk=>?_,λk hk=>?_,λk hk=>?_,by omega,by have:=hr.1;have:=hr.2.1;omega,λσ h hσ hh2=>?_⟩
 .have := ends i hi
  unfold AB;omega
 .have := ends i hi
  unfold AB;omega
 .have := S.room k hk
  refine ⟨this.1,?_⟩
  by_cases c:0<o.getD k 0
  .exact .inr (first _ (List.mem_append_right _ (JS c ts.length hk).1))
  .exact .inl (by omega)
 .have := V.times k hk;omega
 .have := ha k hk
  unfold arB at this
  omega
 .have := V.ends k hk;omega
 .have := V.ends k hk;omega
 .by_cases c:(h:Int)<hn
  .have h1:=Ag8 (arr:=arr) S (s:=Bl o o.length) (σ:=σ) (ρ:=σ+1) c
   have h2:=Af8 (ls:=wLs hn ls ts d (Bl o o.length)) (d:=d) (m:=schL hn ls us ts d l o) (σ:=σ) (h:=h)
   have h3:0<=Ba (wLs hn ls ts d (Bl o o.length)) (schL hn ls us ts d l o) d (h:Int) σ-Dz (wLs hn ls ts d (Bl o o.length)) (schL hn ls us ts d l o) σ (h:Int) (schL hn ls us ts d l o).length:=by
    by_cases e:∃k,k<(schL hn ls us ts d l o).length/\((schL hn ls us ts d l o).getD k dS).2.1=σ/\frM (wLs hn ls ts d (Bl o o.length)) (schL hn ls us ts d l o) k=(h:Int)
    .obtain ⟨k,hk,e1,e2⟩:=e
     have := sv.fed k hk
     rw [e1,e2]at this
     omega
    .have z:Dz (wLs hn ls ts d (Bl o o.length)) (schL hn ls us ts d l o) σ (h:Int) (schL hn ls us ts d l o).length=0:=by
      rw [JF,Br (g:=λ_=>0) λi hi=>by rw[if_neg λg=>e ⟨i,hi,g⟩],B6]
     have := D5 sv (h:Int) σ
     omega
   rw [Ag9]
   have e0:CO d (h:Int) σ=if d.1=(h:Int)/\d.2.2.2.1<=σ then d.2.2.1 else 0:=by
    unfold CO
    by_cases g:(h:Int)=d.1/\d.2.2.2.1<=σ
    .rw [if_pos g,if_pos ⟨g.1.symm,g.2⟩]
    .rw [if_neg g,if_neg (λf=>g ⟨f.1.symm,f.2⟩)]
   omega
  .unfold pB
   rw [if_neg (by omega),Br (f:=plT ls l σ h) (g:=λ_=>0) (λi hi=>by
    have := ends i hi
    unfold plT AB
    rw [if_neg (by omega),if_neg (by omega)];rfl),Br (f:=pvT ts o arr σ h) (g:=λ_=>0) (λk hk=>by
    have := V.ends k hk
    unfold pvT
    rw [if_neg (by omega),if_neg (by omega)];rfl),B6,B6]
   decide
def J8 (ts:List Trp) (o arr:List Int) (k:Nat):Int:=if GH ts arr k then o.getD k 0 else 0
theorem QN (hs:Fr hn ls us ts d l o=0) (ha:∀k,k<ts.length->¬arB ts arr k):(dyA ts d arr (d.2.2.2.1+(Ap d:Int)) (dlS ls ts d l o arr (Ap d))).1.getD d.2.1.toNat 0<=d.2.2.1/\d.2.2.1-Sm (J8 ts o arr) ts.length<=(dyA ts d arr (d.2.2.2.1+(Ap d:Int)) (dlS ls ts d l o arr (Ap d))).1.getD d.2.1.toNat 0:=by
 have F:=Aog hs ha
 have S:=GG hs
 have V:=S.voy
 have sv:=serves_iff.1 (TP hs).1
 obtain ⟨hf,hdm,hD,hdu⟩:=BL V.fck
 obtain ⟨⟨a0,a1⟩,⟨c0,c1⟩,hr⟩:=BR hdm
 have hh:=(Mb V).houses
 have lnn:∀σ k,k<ts.length->0<=ltT ts o arr σ k:=λσ k hk=>by
  have :=(F.load k hk).1
  unfold ltT;split <;> omega
 have ini:At60 ls ts d l o arr (d.2.2.2.1-1) (dlS ls ts d l o arr 0):=by
  have z12:∀h:Nat,(ba 12 (0:Int)).getD h 0=0:=λh=>by
   rw [oa,fq];split <;> rfl
  have z4:∀h:Nat,(ba 4 (0:Int)).getD h 0=0:=λh=>by
   rw [oa,fq];split <;> rfl
  have p0:∀h,pB ls ts d l o arr (d.2.2.2.1-1) h=0:=λh=>by
   unfold pB
   rw [if_neg (by omega),Br (f:=plT ls l (d.2.2.2.1-1) h) (g:=λ_=>0) (λi hi=>by
    have := F.tick i hi
    unfold plT
    rw [if_neg (by omega),if_neg (by omega)];rfl),Br (f:=pvT ts o arr (d.2.2.2.1-1) h) (g:=λ_=>0) (λk hk=>by
    have q1:=F.load k hk
    have q2:=F.tim k hk
    have q3:=F.arv k hk
    unfold pvT
    rcases q1.2 with e | e
    .rw [e];(repeat' split) <;> rfl
    .have aI:d.2.2.2.1<=arI ts arr k:=by
      unfold arI
      by_cases c:GH ts arr k
      .rw [if_pos c];omega
      .rw [if_neg c]
       have c2:¬(arr.getD k 0<0\/(ts.getD k dT).2.2.2.2.1<arr.getD k 0):=c
       have := hr.2.2.1
       omega
     rw [if_neg (by omega),if_neg (by omega)];rfl),B6,B6]
   rfl
  have q0:∀h,quB ls l (d.2.2.2.1-1) h=0:=λh=>by
   unfold quB
   rw [Br (g:=λ_=>0) (λi hi=>by
    have := F.tick i hi
    unfold qT
    rw [if_neg (by omega)]),B6]
  refine ⟨rfl,rfl,rfl,λh _=>Int.le_of_eq (z12 h).symm,λh _=>?_,λk hk=>?_,?_,?_⟩
  .show 0<=(ba 12 (0:Int)).getD h 0/\(ba 12 (0:Int)).getD h 0<=_
   rw [z12,q0];decide
  .show 0<=(ba 4 (0:Int)).getD k 0/\(ba 4 (0:Int)).getD k 0<=_
   rw [z4];exact⟨pj _,(F.load k hk).1⟩
  .show Sm (λh=>max 0 (pB ls ts d l o arr (d.2.2.2.1-1) h-(ba 12 (0:Int)).getD h 0)) 12+Sm (λh=>quB ls l (d.2.2.2.1-1) h-(ba 12 (0:Int)).getD h 0) 12+Sm (vdT ts o arr (ba 4 0) (d.2.2.2.1-1) (d.2.2.2.1-1)) ts.length<=_
   rw [Br (g:=λ_=>0) λh _=>by rw[p0,z12];rfl,B6,Br (f:=λh=>quB ls l (d.2.2.2.1-1) h-(ba 12 (0:Int)).getD h 0) (g:=λ_=>0) λh _=>by rw[q0,z12];rfl,B6,Br (f:=vdT ts o arr (ba 4 0) (d.2.2.2.1-1) (d.2.2.2.1-1)) (g:=λ_=>0) λk hk=>by
    have q1:=F.load k hk
    unfold vdT
    split
    .rename_i g
     rw [z4]
     rcases q1.2 with e | e
     .rw [e];rfl
     .omega
    .rfl, B6]
   have := Cm (f:=ltT ts o arr (d.2.2.2.1-1)) (n:=ts.length) (lnn _)
   omega
  .show Sm (λh=>(ba 12 (0:Int)).getD h 0) 12+Sm (λh=>(ba 12 (0:Int)).getD h 0) 12+Sm (abT ts arr (ba 4 0) (d.2.2.2.1-1) (d.2.2.2.1-1)) ts.length<=_
   rw [Br (g:=λ_=>0) λh _=>z12 h,B6,Br (f:=abT ts arr (ba 4 0) (d.2.2.2.1-1) (d.2.2.2.1-1)) (g:=λ_=>0) λk hk=>by unfold abT;rw[z4];split <;> rfl,B6,if_neg (by omega)]
   decide
 have I:=(Ag7 F hr.2.2.1 ini (Ap d)).2
 generalize (dyA ts d arr (d.2.2.2.1+(Ap d:Int)) (dlS ls ts d l o arr (Ap d))).1=H at *
 generalize (dlS ls ts d l o arr (Ap d)).2.2=C at *
 have hto:d.2.1.toNat<12:=by omega
 have m1:=Hd (f:=λh=>H.getD h 0) (n:=12) (k:=d.2.1.toNat) I.H0 hto
 have m2:=Cm (f:=abT ts arr C (d.2.2.2.1+(Ap d:Int)-1) (d.2.2.2.1+(Ap d:Int))) (n:=ts.length) (λi hi=>Qi (I.C0 i hi).1)
 have m3:=I.mass
 have v2:=Cm (f:=vdT ts o arr C (d.2.2.2.1+(Ap d:Int)-1) (d.2.2.2.1+(Ap d:Int))) (n:=ts.length) (λi hi=>An3 (I.C0 i hi))
 have v3:=I.lack
 have v1:=Hd (f:=λh=>max 0 (pB ls ts d l o arr (d.2.2.2.1+(Ap d:Int)) h+Sm (vfT ts o (d.2.2.2.1+(Ap d:Int)) h) ts.length+Sm (fT ls l (d.2.2.2.1+(Ap d:Int)) h) l.length-H.getD h 0)) (n:=12) (k:=d.2.1.toNat) (λh _=>by omega) hto
 have v4:Sm (ltT ts o arr (d.2.2.2.1+(Ap d:Int))) ts.length<=Sm (J8 ts o arr) ts.length:=VQ λk hk=>by
  have :=(F.load k hk).1
  unfold ltT J8
  by_cases c:GH ts arr k
  .rw [if_pos c];split <;> omega
  .rw [if_neg c,if_neg (λg=>c g.1)];exact pj _
 have g1:=Ag8 (arr:=arr) S (s:=Bl o o.length) (σ:=d.2.2.2.2) (ρ:=d.2.2.2.2) (h:=d.2.1.toNat) (by omega)
 have g2:=Af7 (ls:=wLs hn ls ts d (Bl o o.length)) (d:=d) (m:=schL hn ls us ts d l o) (σ:=d.2.2.2.2) (h:=d.2.1.toNat)
 have g3:=sv.late
 rw [show d.2.1=((d.2.1.toNat:Nat):Int) by omega]at g3
 have g4:=An4 (ls:=ls) (ts:=ts) (d:=d) (l:=l) (o:=o) (arr:=arr) (σ:=d.2.2.2.2) (h:=d.2.1.toNat)
 have e0:CO d ((d.2.1.toNat:Nat):Int) d.2.2.2.2=if d.1=((d.2.1.toNat:Nat):Int)/\d.2.2.2.1<=d.2.2.2.2 then d.2.2.1 else 0:=by
  unfold CO
  by_cases g:((d.2.1.toNat:Nat):Int)=d.1/\d.2.2.2.1<=d.2.2.2.2
  .rw [if_pos g,if_pos ⟨g.1.symm,g.2⟩]
  .rw [if_neg g,if_neg (λf=>g ⟨f.1.symm,f.2⟩)]
 rw [<-hdu]at v1 v2 v3 v4
 refine ⟨by omega,?_⟩
 omega
end
end Sim
namespace Sim
open Go Go.Proofs
attribute [local congr] Ah Ai Ag At Al Aj Aq
def Af9:Prop:=∀(hn:Int) (ls:List Lnk) (us:List Snd) (ts:List Trp) (d:Dem) (l:List Snd) (o:List Int) (arr:List Int) ,VC pk 4 [.agg [I hn,AS ls,Ay us,CU ts,I d.1,I d.2.1,I d.2.2.1,I d.2.2.2.1,I d.2.2.2.2],.agg [Ay l,ints o],ints arr] (B true)
theorem Aga:Af9:=by
 intro hn ls us ts d l o arr
 refine Bd AQ (l := [e_vfew,e_short,e_vsanity,e_vserves,e_deliv]) ((Ad Ale (Ad Afk (Ad kZ (Ad Nf (Ad bI Au)))))) [] []  Tryz.func4 rfl (by decide +kernel) (N:=110) rfl (by simp) rfl (by kernel_rfl) λhs=>?_
 simp only[AK,PV.small,List.length_map,and_true,true_and]at hs
 have s1:=Afh (l:=l) (o:=o) (arr:=arr) (p := [])
 rw [show TL []=PV.lits 2 [] from rfl]at s1
 by_cases g1:Aff ls us ts d=true
 case neg=>simp only[↓bdD,bdP,seval,Ao,st0,e_vfew,P9,e_short,e_vsanity,Ho,e_vserves,e_deliv,Ac,Aa,AC,x9,Be,g1]
 by_cases g2:xB l o arr []=true
 case neg=>simp only[↓bdD,bdP,seval,Ao,st0,e_vfew,P9,e_short,e_vsanity,Ho,e_vserves,e_deliv,Ac,Aa,AC,x9,Be,AR,B5,FL,g1,s1,g2]
 by_cases hq:Fr hn ls us ts d l o=0
 case neg=>simp only[↓bdD,bdP,seval,Ao,st0,e_vfew,P9,e_short,e_vsanity,Ho,e_vserves,Dn,e_deliv,Ac,Aa,AC,x9,Be,AR,B5,FL,g1,s1,g2,hq]
 have S:=GG hq
 have V:=S.voy
 have h0:=sch_zero.2 S
 by_cases he:Nm hn ls us ts d l o arr=0
 case neg =>
  have e1:Nm hn ls us ts d l o arr=1:=by
   unfold Nm at he ⊢
   rw [if_neg (λg=>g h0)]at he ⊢
   split
   .rfl
   .rename_i c
    rw [if_neg c]at he
    split
    .rfl
    .rename_i c2
     rw [if_neg c2]at he
     exact absurd rfl he
  have e2:Qh hn ls us ts d l o arr=0:=by unfold Qh;rw[if_pos he]
  simp only[↓bdD,bdP,seval,Ao,st0,e_vfew,P9,e_short,e_vsanity,Ho,e_vserves,Dn,e_deliv,Mj,Ac,Aa,AC,x9,Be,AR,B5,FL,g1,s1,g2,hq,e1,e2]
 have eN:Qh hn ls us ts d l o arr=(dyA ts d arr (d.2.2.2.1+(Ap d:Int)) (dlS ls ts d l o arr (Ap d))).1.getD d.2.1.toNat 0:=by unfold Qh;rw[if_neg (λg=>g he)]
 have hal:arr.length=ts.length:=by
  unfold Nm at he
  rw [if_neg (λg=>g h0)]at he
  split at he
  .cases he
  .rename_i c;exact t9.1 c
 have hb:∀k,k<ts.length->¬arB ts arr k:=by
  unfold Nm at he
  rw [if_neg (λg=>g h0),if_neg (λg=>g hal)]at he
  split at he
  .cases he
  .rename_i c;exact t9.1 c
 obtain ⟨k1,k2⟩:=QN hq hb
 rw [<-eN]at k1 k2
 clear eN
 have hol:=S.loads
 have hn4:=V.few
 obtain ⟨hf,hdm,hD,hdu⟩:=BL V.fck
 obtain ⟨_,_,hr⟩:=BR hdm
 have hr0:=hr.1
 have hr1:=hr.2.1
 have mis_bnd:∀k,k<=ts.length->0<=Sm (J8 ts o arr) k/\Sm (J8 ts o arr) k<=1073741824*(k:Int):=by
  intro k
  induction k with
  | zero=>intro _;exact⟨pj _,pj _⟩
  | succ k ih =>
   intro hk
   have i1:=ih (by omega)
   have i2:=S.room k (by omega)
   have i3:=V.room k (by omega)
   rw [Dr (f:=J8 ts o arr) k]
   unfold J8 at i1 ⊢
   split <;> omega
 have hai:((arr.length:Int)=(ts.length:Int))=True:=eq_true (by omega)
 have hoi:((o.length:Int)=(ts.length:Int))=True:=eq_true (by omega)
 have hal2:=eq_true hal
 have hol2:=eq_true hol
 have k1t:=eq_true k1
 simp only[↓bdD,bdP,seval,st0,e_vfew,P9,e_short,e_vsanity,e_vserves,Dn,e_deliv,Mj,Ac,Aa,AC,x9,BF,Be,AR,B5,FL,g1,s1,g2,hq,he,hai,hoi]
 refine Aw [10,11,62,63,64,65,66,67,68,69,70,71,72,73,74,75,76,77,78,79,80,81,82,83,84,85,86,87,88,89,90,91,92] ts.length (λk ρ st'=>ρ 11=I k/\ρ 10=I (Sm (J8 ts o arr) k)) (.refl _) ?_ ?_
 .simp only[↓bdD,bdP,Nat.reduceBEq]
  rfl
 rintro k ρ ⟨ob,M⟩ hk ⟨h11,h10⟩
 by_cases hlt:k<ts.length
 .have hwk:nm.wrap ((k:Int)+1)=((k+1:Nat):Int):=by rw[Af (by omega) (by omega)];omega
  have hyk:=Ef hlt
  have hak:nth (arr.map (mt .i64)) k=I (arr.getD k 0):=BW 0 (by omega)
  have hok:nth (o.map (mt .i64)) k=I (o.getD k 0):=BW 0 (by omega)
  have hka:k<arr.length:=by omega
  have hko:k<o.length:=by omega
  have hki:(k:Int)<(arr.length:Int):=by omega
  have hkt:(k:Int)<(ts.length:Int):=by omega
  have hkoi:(k:Int)<(o.length:Int):=by omega
  have b1:=mis_bnd k (by omega)
  have b2:=mis_bnd (k+1) (by omega)
  rw [Dr (f:=J8 ts o arr) k]at b2
  have eS:Sm (J8 ts o arr) (k+1)=Sm (J8 ts o arr) k+if arr.getD k 0<0\/(ts.getD k dT).2.2.2.2.1<arr.getD k 0 then o.getD k 0 else 0:=rfl
  have eS2:J8 ts o arr k=if arr.getD k 0<0\/(ts.getD k dT).2.2.2.2.1<arr.getD k 0 then o.getD k 0 else 0:=rfl
  rw [eS]
  rw [eS2]at b2
  clear eS eS2 mis_bnd k2
  generalize Sm (J8 ts o arr) k=q at *
  generalize arr.getD k 0=a at *
  generalize o.getD k 0=z at *
  generalize ts.getD k dT=y at *
  by_cases c1:a<0
  .rw [if_pos (.inl c1)]at b2 ⊢
   have w:nm.wrap (q+z)=q+z:=Af (by omega) (by omega)
   simp only[↓bdD,bdP,seval,ty3,AR,B5,h11,h10,hlt,hal,hak,hok,hkt,hkoi,hwk,c1,w]
  by_cases c2:y.2.2.2.2.1<a
  .rw [if_pos (.inr c2)]at b2 ⊢
   have w:nm.wrap (q+z)=q+z:=Af (by omega) (by omega)
   simp only[↓bdD,bdP,seval,ty3,BF,Be,AR,B5,C7,h11,h10,hlt,hal,hyk,hak,hok,hkt,hkoi,hwk,c1,c2,w]
  .rw [if_neg (λg=>by omega)]
   simp only[↓bdD,bdP,seval,ty3,BF,Be,AR,C7,h11,h10,hlt,hal,hyk,hak,hkt,hwk,c1,c2,th]
 have e:k=ts.length:=by omega
 subst e
 have b1:=mis_bnd ts.length (cg _)
 have w:nm.wrap (d.2.2.1-Sm (J8 ts o arr) ts.length)=d.2.2.1-Sm (J8 ts o arr) ts.length:=Af (by omega) (by omega)
 generalize Sm (J8 ts o arr) ts.length=q at *
 simp only[↓bdD,bdP,seval,Ao,Ho,ty3,AY,Be,AR,h11,h10,hlt,hal,k1,k2,w]
end Sim
namespace Sim
open Go Go.ChangeShapes Go.WideShapes Go.ChangeAt Go.RowKit Go.Proofs
section
variable {P:Program} {w:World}
theorem RdC.conv {t:TypeId} {α β:Type} {f:α->PV} {q:α->Prop} (h:RdC P w t f q) (g:β->PV) (q':β->Prop) (hc:∀a,q a->∃b,q' b/\g b=f a):RdC P w t g q':=λenc bs spare held fuel cs x hx=>by
 obtain ⟨a,h1,h2⟩:=h enc bs spare held fuel cs x hx
 obtain ⟨b,h3,h4⟩:=hc a h1
 exact ⟨b,h3,by rw[h4];exact h2⟩
theorem An5 {k:IntKind} {cs:List Value} {n:Nat} (hl:cs.length=n) (h:∀i,i<n->∃(H:Type) (enc:TypeId×Value->H) (bs:Nat) (spare:Nat->Bool) (held:Bool) (m:Nat) (e:TypeId) (x:DataW H×List MemPlace),P.underlying e=some (.int k)/\n6 enc P w bs spare held m e ((cs.drop i).take 1)=some x) :
  ∃ l:List Int,l.length=n/\(∀a∈l,(ya k a).wf=true)/\(∀c∈l.map (mt k),c.isCell=true)/\∀(j:Nat) (c:PV),(l.map (mt k))[j]?=some c->VR (base (full w) w) (cs.getD j undef) c:=by
 obtain ⟨l,h1,h2⟩:=Gz (Q:=λi (a:Int)=>(ya k a).wf=true/\VR (base (full w) w) (cs.getD i undef) (.int k a)) n λi hi=>by
  obtain ⟨H,enc,bs,spare,held,m,e,x,he,hx⟩:=h i hi
  obtain ⟨a,h1,_,_,h4⟩:=RdC.int he enc bs spare held m _ x hx
  refine ⟨a,h1,?_⟩
  have := h4 0 _ rfl
  rwa [oa,List.getElem?_take_of_lt (by omega),List.getElem?_drop,Nat.add_zero,<-oa]at this
 refine ⟨l,h1,λa ha=>?_,λc hc=>?_,λj c hj=>?_⟩
 .obtain ⟨i,hi,rfl⟩:=List.getElem_of_mem ha
  exact (h2 i hi).1
 .obtain ⟨a,_,rfl⟩:=List.mem_map.1 hc
  rfl
 .rw [List.getElem?_map,Option.map_eq_some_iff]at hj
  obtain ⟨a,ha,rfl⟩:=hj
  obtain ⟨hi,rfl⟩:=List.getElem?_eq_some_iff.1 ha
  exact (h2 j hi).2
theorem RdC.arrayI {t e:TypeId} {n:Nat} {k:IntKind} (ht:P.underlying t=some (.array n e)) (hn:P.cellsOf t=n) (hc:P.cellsOf e=1) (he:P.underlying e=some (.int k)) :
  RdC P w t (λl:List Int=>.agg (l.map (mt k))) (λl=>l.length=n/\∀a∈l,(ya k a).wf=true):=by
 intro H enc bs spare held fuel cs x h
 obtain ⟨xs,m,_,_,hl,hlen,hf⟩:=DataW.trod_array ht h
 rw [hn]at hl
 obtain ⟨l,h1,h2,h3,h4⟩:=An5 (P:=P) (w:=w) (k:=k) hl λi hi=>by
  have h5:=hf i hi
  rw [hc,Nat.mul_one,gl (by omega)]at h5
  exact ⟨H,enc,bs,spare,held,m,e,_,he,h5⟩
 exact ⟨l,⟨h1,h2⟩,by simp[PV.cells,h1,hl],h3,h4⟩
theorem RdC.structI {t:TypeId} {fs:Array Field} {k:IntKind} (ht:P.underlying t=some (.struct fs)) (hn:P.cellsOf t=fs.size) (hf:∀(i:Nat) (f:Field),fs[i]?=some f->f.offset=i/\P.cellsOf f.type=1/\P.underlying f.type=some (.int k)) :
  RdC P w t (λl:List Int=>.agg (l.map (mt k))) (λl=>l.length=fs.size/\∀a∈l,(ya k a).wf=true):=by
 intro H enc bs spare held fuel cs x h
 obtain ⟨xs,m,_,_,hl,hlen,hg⟩:=yc ht h
 rw [hn]at hl
 obtain ⟨l,h1,h2,h3,h4⟩:=An5 (P:=P) (w:=w) (k:=k) hl λi hi=>by
  obtain ⟨f1,f2,f3⟩:=hf i fs[i] (by simp[hi])
  have h5:=hg i fs[i] (by simp[hi])
  rw [f1,f2,gl (by omega)]at h5
  exact ⟨H,enc,bs,spare,held,m,_,_,f3,h5⟩
 exact ⟨l,⟨h1,h2⟩,by simp[PV.cells,h1,hl],h3,h4⟩
theorem RdC.argS {t:TypeId} (ht:(∃fs,P.underlying t=some (.struct fs))\/∃n e,P.underlying t=some (.array n e)) {α:Type} {l:α->List PV} {q:α->Prop} (h:RdC P w t (λa=>.agg (l a)) q) {H:Type} {enc:TypeId×Value->H} {bs b0:Nat} {spare:Nat->Bool} {held:Bool} {v:Value} {d:DataW H} {ps:List MemPlace}
  (hval : oo P w .any b0 t v) (hd:yf enc P w bs spare held t v d ps):∃a,q a/\VR (base (full w) w) v (.agg (l a)):=by
 unfold oo at hval
 have key:∃cs,v=.agg cs:=by
  rcases ht with ⟨fs,ht⟩ | ⟨n,e,ht⟩
  .rw [ht]at hval;obtain⟨cs,rfl,_⟩:=hval;exact⟨cs,rfl⟩
  .rw [ht]at hval;obtain⟨cs,rfl,_⟩:=hval;exact⟨cs,rfl⟩
 obtain ⟨cs,rfl⟩:=key
 obtain ⟨fuel,hd⟩:=hd
 obtain ⟨a,qa,h1,h2,h3⟩:=h enc bs spare held fuel _ _ hd
 refine ⟨a,qa,.agg cs _ ?_ h2 λi p hp=>?_⟩
 .have h4:(l a).length=cs.toList.length:=h1
  rw [Array.length_toList]at h4;exact h4.symm
 .have := h3 i p hp
  have e:(Value.agg cs).cells.toList.getD i undef=cs.getD i undef:=by
   simp [Value.cells,Array.getD_eq_getD_getElem?,oa]
  rwa [e]at this
theorem RdC.any {t:TypeId} {α:Type} {f:α->PV} {q:α->Prop} (h:RdC P w t f q):RdC P w t f (λ_=>True):=λenc bs spare held fuel cs x hx=>by
 obtain ⟨a,_,h1⟩:=h enc bs spare held fuel cs x hx
 exact ⟨a,trivial,h1⟩
end
theorem An6:ownKnob pk.godebug=Option.none:=by kernel_rfl
theorem Alt:Kids pk (· < pk.types.size):=kids_rows (by kernel_rfl) (by kernel_rfl)
theorem Agb:((List.range pk.types.size).all λt=>match pk.underlying t with | some (.slice e)=>decide (0<pk.cellsOf e) | _=>true)=true:=by kernel_rfl
theorem Alu:∀t e,t<pk.types.size->pk.underlying t=some (.slice e)->0<pk.cellsOf e:=λt e ht hu=>by
 have := List.all_eq_true.1 Agb t (List.mem_range.2 ht)
 rw [hu]at this
 simpa using this
theorem r3 (W:World):RdC pk W 3 (λn:Int=>I n) (λ_=>True):=RdC.any (RdC.int yh)
theorem r55 (W:World):RdC pk W 55 (λa:Snd=>Ca a) (λ_=>True):=by
 have h:=@RdC.structI pk W 55 _ .i64 Tryz.underlying55 (by kernel_rfl) (λi f h=>by
  match i,h with
  | 0,h=>simp at h;subst h;exact⟨rfl,by kernel_rfl,yh⟩
  | 1,h=>simp at h;subst h;exact⟨rfl,by kernel_rfl,yh⟩
  | 2,h=>simp at h;subst h;exact⟨rfl,by kernel_rfl,yh⟩
  | i+3,h=>simp at h)
 refine @RdC.conv pk W 55 (List Int) Snd _ _ h (λa:Snd=>Ca a) (λ_=>True) ?_
 rintro l ⟨hl,_⟩
 match l,hl with
 | [a,b,c],_=>exact⟨(a,b,c),trivial,rfl⟩
theorem r28 (W:World):RdC pk W 28 (λa:Dem=>D7 a) (λ_=>True):=by
 have h:=@RdC.structI pk W 28 _ .i64 Tryz.underlying28 (by kernel_rfl) (λi f h=>by
  match i,h with
  | 0,h=>simp at h;subst h;exact⟨rfl,by kernel_rfl,yh⟩
  | 1,h=>simp at h;subst h;exact⟨rfl,by kernel_rfl,yh⟩
  | 2,h=>simp at h;subst h;exact⟨rfl,by kernel_rfl,yh⟩
  | 3,h=>simp at h;subst h;exact⟨rfl,by kernel_rfl,yh⟩
  | 4,h=>simp at h;subst h;exact⟨rfl,by kernel_rfl,yh⟩
  | i+5,h=>simp at h)
 refine @RdC.conv pk W 28 (List Int) Dem _ _ h (λa:Dem=>D7 a) (λ_=>True) ?_
 rintro l ⟨hl,_⟩
 match l,hl with
 | [a,b,c,d,e],_=>exact⟨(a,b,c,d,e),trivial,rfl⟩
theorem r81 (W:World):RdC pk W 81 (λl:List Int=>.agg (l.map (mt .i64))) (λl=>l.length=24):=by
 have h:=@RdC.arrayI pk W 81 _ _ .i64 Tryz.underlying81 (by kernel_rfl) (by kernel_rfl) yh
 exact @RdC.conv pk W 81 (List Int) (List Int) _ _ h _ _ λl h=>⟨l,h.1,rfl⟩
theorem d3 (W:World):RdD pk W 3 (λn:Int=>I n) (λ_ _ _=>True):=λenc bs spare held fuel cs x hx=>r3 W enc bs spare held fuel cs x hx
theorem d81 (W:World):RdD pk W 81 (λl:List Int=>.agg (l.map (mt .i64))) (λl _ _=>l.length=24):=λenc bs spare held fuel cs x hx=>r81 W enc bs spare held fuel cs x hx
theorem RU {l:List Int} (h:l.length=24):List.ofFn (λi:Fin 24=>l.getD i.1 0)=l:=by
 apply List.ext_getElem
 .simp [h]
 .intro i h1 h2
  rw [List.getElem_ofFn,oa,gl h2];rfl
theorem r83 (W:World):RdC pk W 83 (λa:Lnk=>FS a) (λ_=>True):=by
 intro H enc bs spare held fuel cs x h
 have hcell:pk.cellsOf 83=50:=by kernel_rfl
 have k3:pk.cellsOf 3=1:=by kernel_rfl
 have k81:pk.cellsOf 81=24:=by kernel_rfl
 obtain ⟨xs,n,_,hx,hl,hlen,hf⟩:=yc Tryz.underlying83 h
 rw [hcell]at hl
 match xs,hlen with
 | [y0,y1,y2,y3],_ =>
  have f0:n6 enc pk W bs spare held n 3 ((cs.drop 0).take (pk.cellsOf 3))=some y0:=hf 0 _ rfl
  have f1:n6 enc pk W bs spare held n 3 ((cs.drop 1).take (pk.cellsOf 3))=some y1:=hf 1 _ rfl
  have f2:n6 enc pk W bs spare held n 81 ((cs.drop 2).take (pk.cellsOf 81))=some y2:=hf 2 _ rfl
  have f3:n6 enc pk W bs spare held n 81 ((cs.drop 26).take (pk.cellsOf 81))=some y3:=hf 3 _ rfl
  rw [k3]at f0 f1
  rw [k81]at f2 f3
  obtain ⟨a,_,_,p0⟩:=ym (f:=λn:Int=>I n) (q:=λ_ _ _=>True) (d3 W) (cs:=cs) (o:=0) (n:=1) (by omega) f0
  obtain ⟨b,_,_,p1⟩:=ym (f:=λn:Int=>I n) (q:=λ_ _ _=>True) (d3 W) (cs:=cs) (o:=1) (n:=1) (by omega) f1
  obtain ⟨l2,g2,_,p2⟩:=ym (f:=λl:List Int=>.agg (l.map (mt .i64))) (q:=λl _ _=>l.length=24) (d81 W) (cs:=cs) (o:=2) (n:=24) (by omega) f2
  obtain ⟨l3,g3,_,p3⟩:=ym (f:=λl:List Int=>.agg (l.map (mt .i64))) (q:=λl _ _=>l.length=24) (d81 W) (cs:=cs) (o:=26) (n:=24) (by omega) f3
  have hc:lkC (a,b,λi=>l2.getD i.1 0,λi=>l3.getD i.1 0) = [I a]++([I b]++(l2.map (mt .i64)++l3.map (mt .i64))):=by
   simp only[lkC,RU g2,RU g3];rfl
  have p0:Part W cs 0 [I a]:=p0
  have p1:Part W cs 1 [I b]:=p1
  have p2:Part W cs 2 (l2.map (mt .i64)):=p2
  have p3:Part W cs 26 (l3.map (mt .i64)):=p3
  have e26:2+(l2.map (mt .i64)).length=26:=by simp[g2]
  have hp:Part W cs 0 (lkC (a,b,λi=>l2.getD i.1 0,λi=>l3.getD i.1 0)):=by
   rw [hc]
   exact p0.append (p1.append (p2.append (by
    rw [e26]
    exact p3)))
  refine ⟨(a,b,λi=>l2.getD i.1 0,λi=>l3.getD i.1 0),trivial,?_,hp.1,λj c hj=>?_⟩
  .simp only[PV.cells,BK];exact hl.symm
  .have := hp.2 j c hj
   rwa [cd]at this
theorem r25 (W:World):RdC pk W 25 (λl:List Snd=>Ay l) (λ_=>True):=RdC.any (yn Tryz.underlying25 (by kernel_rfl) (by decide) (r55 W))
theorem r22 (W:World):RdC pk W 22 (λl:List Lnk=>AS l) (λ_=>True):=RdC.any (yn Tryz.underlying22 (by kernel_rfl) (by decide) (r83 W))
theorem r24 (W:World):RdC pk W 24 (λa:Int×List Lnk=>.agg [I a.1,AS a.2]) (λ_=>True) :=
 RdC.any (RdC.struct2 Tryz.underlying24 (by kernel_rfl) ⟨rfl,rfl⟩ ⟨by kernel_rfl,by kernel_rfl⟩ (r3 W) (r22 W) (λ_=>rfl) (λ_=>rfl))
theorem r48 (W:World):RdC pk W 48 (λa:Trp=>VV a) (λ_=>True):=by
 have h:=@RdC.structI pk W 48 _ .i64 Tryz.underlying48 (by kernel_rfl) (λi f h=>by
  match i,h with
  | 0,h=>simp at h;subst h;exact⟨rfl,by kernel_rfl,yh⟩
  | 1,h=>simp at h;subst h;exact⟨rfl,by kernel_rfl,yh⟩
  | 2,h=>simp at h;subst h;exact⟨rfl,by kernel_rfl,yh⟩
  | 3,h=>simp at h;subst h;exact⟨rfl,by kernel_rfl,yh⟩
  | 4,h=>simp at h;subst h;exact⟨rfl,by kernel_rfl,yh⟩
  | 5,h=>simp at h;subst h;exact⟨rfl,by kernel_rfl,yh⟩
  | 6,h=>simp at h;subst h;exact⟨rfl,by kernel_rfl,yh⟩
  | i+7,h=>simp at h)
 refine @RdC.conv pk W 48 (List Int) Trp _ _ h (λa:Trp=>VV a) (λ_=>True) ?_
 rintro l ⟨hl,_⟩
 match l,hl with
 | [a,b,c,d,e,f,g],_=>exact⟨(a,b,c,d,e,f,g),trivial,rfl⟩
theorem r26 (W:World):RdC pk W 26 (λl:List Trp=>CU l) (λ_=>True):=RdC.any (yn Tryz.underlying26 (by kernel_rfl) (by decide) (r48 W))
theorem r33 (W:World):RdC pk W 33 (λl:List Int=>ints l) (λ_=>True):=RdC.any (yn yo (by kernel_rfl) (by decide) (r3 W))
theorem d24 (W:World):RdD pk W 24 (λa:Int×List Lnk=>.agg [I a.1,AS a.2]) (λ_ _ _=>True):=λenc bs spare held fuel cs x hx=>r24 W enc bs spare held fuel cs x hx
theorem d25 (W:World):RdD pk W 25 (λl:List Snd=>Ay l) (λ_ _ _=>True):=λenc bs spare held fuel cs x hx=>r25 W enc bs spare held fuel cs x hx
theorem d26 (W:World):RdD pk W 26 (λl:List Trp=>CU l) (λ_ _ _=>True):=λenc bs spare held fuel cs x hx=>r26 W enc bs spare held fuel cs x hx
theorem d28 (W:World):RdD pk W 28 (λa:Dem=>D7 a) (λ_ _ _=>True):=λenc bs spare held fuel cs x hx=>r28 W enc bs spare held fuel cs x hx
theorem d33 (W:World):RdD pk W 33 (λl:List Int=>ints l) (λ_ _ _=>True):=λenc bs spare held fuel cs x hx=>r33 W enc bs spare held fuel cs x hx
abbrev Alv (a:(Int×List Lnk)×List Snd×List Trp×Dem):List PV := [I a.1.1,AS a.1.2,Ay a.2.1,CU a.2.2.1,I a.2.2.2.1,I a.2.2.2.2.1,I a.2.2.2.2.2.1,I a.2.2.2.2.2.2.1,I a.2.2.2.2.2.2.2]
theorem r30 (W:World):RdC pk W 30 (λa:(Int×List Lnk)×List Snd×List Trp×Dem=>.agg (Alv a)) (λ_=>True):=by
 intro H enc bs spare held fuel cs x h
 have hcell:pk.cellsOf 30=9:=by kernel_rfl
 have k24:pk.cellsOf 24=2:=by kernel_rfl
 have k25:pk.cellsOf 25=1:=by kernel_rfl
 have k26:pk.cellsOf 26=1:=by kernel_rfl
 have k28:pk.cellsOf 28=5:=by kernel_rfl
 obtain ⟨xs,n,_,hx,hl,hlen,hf⟩:=yc yp h
 rw [hcell]at hl
 match xs,hlen with
 | [y0,y1,y2,y3],_ =>
  have f0:n6 enc pk W bs spare held n 24 ((cs.drop 0).take (pk.cellsOf 24))=some y0:=hf 0 _ rfl
  have f1:n6 enc pk W bs spare held n 25 ((cs.drop 2).take (pk.cellsOf 25))=some y1:=hf 1 _ rfl
  have f2:n6 enc pk W bs spare held n 26 ((cs.drop 3).take (pk.cellsOf 26))=some y2:=hf 2 _ rfl
  have f3:n6 enc pk W bs spare held n 28 ((cs.drop 4).take (pk.cellsOf 28))=some y3:=hf 3 _ rfl
  rw [k24]at f0
  rw [k25]at f1
  rw [k26]at f2
  rw [k28]at f3
  obtain ⟨a0,_,_,p0⟩:=ym (f:=λa:Int×List Lnk=>.agg [I a.1,AS a.2]) (q:=λ_ _ _=>True) (d24 W) (cs:=cs) (o:=0) (n:=2) (by omega) f0
  obtain ⟨a1,_,_,p1⟩:=ym (f:=λl:List Snd=>Ay l) (q:=λ_ _ _=>True) (d25 W) (cs:=cs) (o:=2) (n:=1) (by omega) f1
  obtain ⟨a2,_,_,p2⟩:=ym (f:=λl:List Trp=>CU l) (q:=λ_ _ _=>True) (d26 W) (cs:=cs) (o:=3) (n:=1) (by omega) f2
  obtain ⟨a3,_,_,p3⟩:=ym (f:=λa:Dem=>D7 a) (q:=λ_ _ _=>True) (d28 W) (cs:=cs) (o:=4) (n:=5) (by omega) f3
  have p0:Part W cs 0 [I a0.1,AS a0.2]:=p0
  have p1:Part W cs 2 [Ay a1]:=p1
  have p2:Part W cs 3 [CU a2]:=p2
  have p3:Part W cs 4 [I a3.1,I a3.2.1,I a3.2.2.1,I a3.2.2.2.1,I a3.2.2.2.2]:=p3
  have hp:Part W cs 0 (Alv (a0,a1,a2,a3)):=p0.append (p1.append (p2.append p3))
  refine ⟨(a0,a1,a2,a3),trivial,?_,hp.1,λj e hj=>?_⟩
  .show 9=_;exact hl.symm
  .have := hp.2 j e hj
   rwa [cd]at this
abbrev Alw (a:List Snd×List Int):List PV := [Ay a.1,ints a.2]
theorem r35 (W:World):RdC pk W 35 (λa:List Snd×List Int=>.agg (Alw a)) (λ_=>True):=by
 intro H enc bs spare held fuel cs x h
 have hcell:pk.cellsOf 35=2:=by kernel_rfl
 have k25:pk.cellsOf 25=1:=by kernel_rfl
 have k33:pk.cellsOf 33=1:=by kernel_rfl
 obtain ⟨xs,n,_,hx,hl,hlen,hf⟩:=yc yq h
 rw [hcell]at hl
 match xs,hlen with
 | [y0,y1],_ =>
  have f0:n6 enc pk W bs spare held n 25 ((cs.drop 0).take (pk.cellsOf 25))=some y0:=hf 0 _ rfl
  have f1:n6 enc pk W bs spare held n 33 ((cs.drop 1).take (pk.cellsOf 33))=some y1:=hf 1 _ rfl
  rw [k25]at f0
  rw [k33]at f1
  obtain ⟨a0,_,_,p0⟩:=ym (f:=λl:List Snd=>Ay l) (q:=λ_ _ _=>True) (d25 W) (cs:=cs) (o:=0) (n:=1) (by omega) f0
  obtain ⟨a1,_,_,p1⟩:=ym (f:=λl:List Int=>ints l) (q:=λ_ _ _=>True) (d33 W) (cs:=cs) (o:=1) (n:=1) (by omega) f1
  have p0:Part W cs 0 [Ay a0]:=p0
  have p1:Part W cs 1 [ints a1]:=p1
  have hp:Part W cs 0 (Alw (a0,a1)):=p0.append p1
  refine ⟨(a0,a1),trivial,?_,hp.1,λj e hj=>?_⟩
  .show 2=_;exact hl.symm
  .have := hp.2 j e hj
   rwa [cd]at this
section
variable {W:World} {b0 bs:Nat} {H:Type} {enc:TypeId×Value->H} {spare:Nat->Bool} {held:Bool} {v:Value} {d:DataW H} {ps:List MemPlace}
theorem Agc (hval:oo pk W .any b0 30 v) (hd:yf enc pk W bs spare held 30 v d ps):∃(hn:Int) (ls:List Lnk) (us:List Snd) (ts:List Trp) (d:Dem),VR (base (full W) W) v (.agg [I hn,AS ls,Ay us,CU ts,I d.1,I d.2.1,I d.2.2.1,I d.2.2.2.1,I d.2.2.2.2]):=by
 obtain ⟨a,_,h⟩:=RdC.argS (l:=Alv) (.inl ⟨_,yp⟩) (r30 W) hval hd
 exact ⟨a.1.1,a.1.2,a.2.1,a.2.2.1,a.2.2.2,h⟩
theorem Agd (hval:oo pk W .any b0 35 v) (hd:yf enc pk W bs spare held 35 v d ps):∃(l:List Snd) (o:List Int),VR (base (full W) W) v (.agg [Ay l,ints o]):=by
 obtain ⟨a,_,h⟩:=RdC.argS (l:=Alw) (.inl ⟨_,yq⟩) (r35 W) hval hd
 exact ⟨a.1,a.2,h⟩
theorem yE (hval:oo pk W .any b0 33 v) (hd:yf enc pk W bs spare held 33 v d ps):∃l,VR (base (full W) W) v (ints l):=by
 obtain ⟨a,_,h⟩:=RdC.arg (f:=λl:List Int=>ints l) yo (r33 W) (λ_=>rfl) hval hd
 exact ⟨a,h⟩
end
end Sim
