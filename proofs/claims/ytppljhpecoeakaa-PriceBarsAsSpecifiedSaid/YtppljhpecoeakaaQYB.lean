/- What functions of this seat compute, by values: contracts (lemmas of the statement's proof, under the conditions that each names). -/
import Derived.Test.YtppljhpecoeakaaQYA
import Derived.Test.YtppljhpecoeakaaSimAA
set_option maxRecDepth 100000
set_option maxHeartbeats 4000000
set_option linter.unusedVariables false
set_option linter.unusedSimpArgs false
namespace Sim
open Go Go.Proofs
attribute [local congr] Ap Aq Al AC As Ar Av
def X5 (out:List (List Nat)) (N s t:Nat) (bytes:Int):Nat→List Arc→List Int→Int→Option (List Arc×Int)
 | 0,_,_,_=>none
 | f+1,A,lv,sent=>if sent<bytes then (if (FM A out lv N s).done.getD t true=true then X5 out N s t bytes f (aug A (CP A (bytes-sent) (CC A out lv N s t)) (CC A out lv N s t)) (lvM A out lv N s) (sent+CP A (bytes-sent) (CC A out lv N s t))else some (A,sent))else some (A,sent)
theorem X6 {out:List (List Nat)} {N s t:Nat} {bytes:Int}:∀ {f:Nat} {A:List Arc} {lv:List Int} {sent:Int} {A':List Arc} {r:Int},X5 out N s t bytes f A lv sent=some (A',r)→SendR out N s t bytes A lv sent A' r
 | 0,_,_,_,_,_,h=>by cases h
 | f+1,A,lv,sent,A',r,h=>by
  rw [X5]at h
  by_cases c:sent<bytes
  ·rw [if_pos c]at h
   by_cases c2:(FM A out lv N s).done.getD t true=true
   ·rw [if_pos c2]at h
    exact .step _ _ _ _ _ c c2 (X6 h)
   ·rw [if_neg c2]at h
    cases h
    exact .stop _ _ _ c (by simpa using c2)
  ·rw [if_neg c]at h
   cases h
   exact .full _ _ _ c
def qQ (hn:Int) (ls:List Lnk) (us:List Snd) (d:Dem) (bytes:Int):Option (List Arc×Int) :=
 if d.1=d.2.1 then some (gA (AA hn ls us d).p (AY hn ls d),bytes)
 else X5 (gO (AA hn ls us d).p (AP hn d) (AY hn ls d)) (AP hn d) d.1.toNat (Ao d*hn.toNat+d.2.1.toNat) bytes 50 (gA (AA hn ls us d).p (AY hn ls d)) (List.replicate (AP hn d) 0) 0
theorem qR {hn:Int} {ls:List Lnk} {us:List Snd} {d:Dem} {bytes:Int} {x:List Arc×Int} (h:qQ hn ls us d bytes=some x):Bv hn ls us d bytes=x:=by
 unfold qQ at h
 unfold Bv
 by_cases c:d.1=d.2.1
 ·rw [if_pos c]at h ⊢
  exact Option.some.inj h
 ·rw [if_neg c]at h ⊢
  obtain ⟨A',r⟩:=x
  exact SL (X6 h)
def Abe (hn:Int) (ls:List Lnk) (us:List Snd) (d:Dem):Option Int:=if Dw hn ls us d=0 then (qQ hn ls us d 1099511627776).map (·.2)else some 0
theorem T3 {hn:Int} {ls:List Lnk} {us:List Snd} {d:Dem} {r:Int} (h:Abe hn ls us d=some r):Iy hn ls us d=r:=by
 unfold Abe at h
 unfold Iy
 split at h
 ·rename_i c
  rw [if_pos c]
  simp only[Option.map_eq_some_iff]at h
  obtain ⟨x,h1,rfl⟩:=h
  rw [qR h1]
 ·rename_i c
  rw [if_neg c];exact Option.some.inj h
def exL:List Lnk := [(0,1,fun _=>100,fun _=>2),(1,2,fun _=>100,fun _=>2),(0,2,fun _=>10,fun _=>1)]
abbrev exD (b:Int):Dem:=(0,2,b,5,8)
abbrev exM:List Nat := [9]
abbrev exF:List Nat := [100009,600025,100025,900030,100030,900033,100033,600041,100041,900046,100046,900049,100049]
abbrev exV (b:Int):PV:=.agg [I 3,Aw exL,.nils,I 0,I 2,I b,I 5,I 8]
theorem Ah6:evR Try.prog 400 exM exF 1 30 [I 120]=some (exV 120):=by kernel_rfl
theorem Ah7:evR Try.prog 400 exM exF 1 30 [I 231]=some (exV 231):=by kernel_rfl
theorem Ah8:evR Try.prog 400 exM exF 1 30 [I 4194305]=some (exV 4194305):=by kernel_rfl
theorem Q2:CN 3 exL [] (exD 120)=0:=by kernel_rfl
theorem Q3:CN 3 exL [] (exD 231)=0:=by kernel_rfl
theorem Afs:CN 3 exL [] (exD 4194305)=2:=by kernel_rfl
theorem Aag:Iy 3 exL [] (exD 120)=230:=T3 (by kernel_rfl)
theorem X7:Iy 3 exL [] (exD 231)=230:=T3 (by kernel_rfl)
abbrev exY (a b c:Int):List (List Int) := [[a,b,c],[a,b,c],[a,b,c],[a,b,c]]
theorem v_bnd1:J5 3 exL [] (exD 120) (exY 0 2 4)=390∧GN 3 exL [] (exD 120) (exY 0 2 4)=0:=⟨by kernel_rfl,by kernel_rfl⟩
theorem v_bnd2:J5 3 exL [] (exD 120) (exY 4 2 0) = -480∧GN 3 exL [] (exD 120) (exY 4 2 0)=0:=⟨by kernel_rfl,by kernel_rfl⟩
theorem Aft:GN 3 exL [] (exD 120) [[0,2,6],[0,2,6],[0,2,5],[0,2,6]]=22:=by kernel_rfl
theorem v_bar1:Dx 3 exL [] (exD 120) [5,9,9]=330∧Dm 3 exL [] (exD 120) [5,9,9]=0:=⟨by kernel_rfl,by kernel_rfl⟩
theorem v_bar2:Dx 3 exL [] (exD 120) [5,6,9]=230∧Dm 3 exL [] (exD 120) [5,6,9]=0:=⟨by kernel_rfl,by kernel_rfl⟩
theorem Afu:Dm 3 exL [] (exD 120) [5,6,8]=1:=by kernel_rfl
theorem v_bar4:Dx 3 exL [] (exD 231) [5,6,9]=230∧Dm 3 exL [] (exD 231) [5,6,9]=0:=⟨by kernel_rfl,by kernel_rfl⟩
abbrev exA:List Snd := [(0,5,100),(2,5,10),(1,6,100),(2,6,10)]
abbrev exB:List Snd := [(0,5,90),(2,5,10),(1,6,90),(2,6,10),(2,7,10)]
theorem Afv:decide (QV 3 exL [] (exD 120) exB (exY 0 2 4))=true:=by kernel_rfl
theorem Afw:decide (QV 3 exL [] (exD 120) exA (exY 0 2 4))=false:=by kernel_rfl
theorem Afx:decide (QV 3 exL [] (exD 120) exB (exY 0 0 0))=false:=by kernel_rfl
theorem qS:DZ 3 exL [] (exD 120)=0:=(M7 (pck_zero.1 Q2).1).2 (by rw[Aag];decide)
theorem Afy:DZ 3 exL [] (exD 231)=21:=by
 have hf:=(pck_zero.1 Q3).1
 refine (M4 hf fun h=>?_).1
 have :=(M7 hf).1 h
 rw [X7]at this
 exact absurd this (by decide)
theorem Afz:QV 3 exL [] (exD 120) (Dd 3 exL [] (exD 120)) (D9 3 exL [] (exD 120)):=(Aaa Q2 qS (by decide)).2.2
theorem Ah9:Dm 3 exL [] (exD 231) (Jc 3 exL [] (exD 231))=0∧Dx 3 exL [] (exD 231) (Jc 3 exL [] (exD 231))<231:=by
 obtain ⟨h1,h2⟩:=zW Q3 (d:=exD 231) (by decide)
 refine ⟨h1,?_⟩
 rw [X7]at h2
 omega
end Sim
