/- What functions of this seat compute, by values: contracts (lemmas of the statement's proof, under the conditions that each names). -/
import Derived.Test.YtppljhpecoeakaaQYA
import Derived.Test.YtppljhpecoeakaaSimAA
set_option maxRecDepth 100000
set_option maxHeartbeats 4000000
set_option linter.unusedVariables false
set_option linter.unusedSimpArgs false
namespace Sim
open Go Go.Proofs
attribute [local congr] An Ao Al AC Aq Ap Av
def XQ (out:List (List Nat)) (N s t:Nat) (bytes:Int):Nat→List Arc→List Int→Int→Option (List Arc×Int)
 | 0,_,_,_=>none
 | f+1,A,lv,sent=>if sent<bytes then (if (FP A out lv N s).done.getD t true=true then XQ out N s t bytes f (aug A (CP A (bytes-sent) (CB A out lv N s t)) (CB A out lv N s t)) (lvM A out lv N s) (sent+CP A (bytes-sent) (CB A out lv N s t))else some (A,sent))else some (A,sent)
theorem XR {out:List (List Nat)} {N s t:Nat} {bytes:Int}:∀ {f:Nat} {A:List Arc} {lv:List Int} {sent:Int} {A':List Arc} {r:Int},XQ out N s t bytes f A lv sent=some (A',r)→SendR out N s t bytes A lv sent A' r
 | 0,_,_,_,_,_,h=>by cases h
 | f+1,A,lv,sent,A',r,h=>by
  rw [XQ]at h
  by_cases c:sent<bytes
  ·rw [if_pos c]at h
   by_cases c2:(FP A out lv N s).done.getD t true=true
   ·rw [if_pos c2]at h
    exact .step _ _ _ _ _ c c2 (XR h)
   ·rw [if_neg c2]at h
    cases h
    exact .stop _ _ _ c (by simpa using c2)
  ·rw [if_neg c]at h
   cases h
   exact .full _ _ _ c
def pW (hn:Int) (ls:List Lnk) (us:List Snd) (d:Dem) (bytes:Int):Option (List Arc×Int) :=
 if d.1=d.2.1 then some (gA (Aw hn ls us d).p (AV hn ls d),bytes)
 else XQ (gO (Aw hn ls us d).p (AM hn d) (AV hn ls d)) (AM hn d) d.1.toNat (Ar d*hn.toNat+d.2.1.toNat) bytes 50 (gA (Aw hn ls us d).p (AV hn ls d)) (List.replicate (AM hn d) 0) 0
theorem pX {hn:Int} {ls:List Lnk} {us:List Snd} {d:Dem} {bytes:Int} {x:List Arc×Int} (h:pW hn ls us d bytes=some x):Bq hn ls us d bytes=x:=by
 unfold pW at h
 unfold Bq
 by_cases c:d.1=d.2.1
 ·rw [if_pos c]at h ⊢
  exact Option.some.inj h
 ·rw [if_neg c]at h ⊢
  obtain ⟨A',r⟩:=x
  exact SG (XR h)
def Aai (hn:Int) (ls:List Lnk) (us:List Snd) (d:Dem):Option Int:=if CQ hn ls us d=0 then (pW hn ls us d 1099511627776).map (·.2)else some 0
theorem TV {hn:Int} {ls:List Lnk} {us:List Snd} {d:Dem} {r:Int} (h:Aai hn ls us d=some r):E8 hn ls us d=r:=by
 unfold Aai at h
 unfold E8
 split at h
 ·rename_i c
  rw [if_pos c]
  simp only[Option.map_eq_some_iff]at h
  obtain ⟨x,h1,rfl⟩:=h
  rw [pX h1]
 ·rename_i c
  rw [if_neg c];exact Option.some.inj h
def exL:List Lnk := [(0,1,fun _=>100,fun _=>2),(1,2,fun _=>100,fun _=>2),(0,2,fun _=>10,fun _=>1)]
abbrev exD (b:Int):Dem:=(0,2,b,5,8)
abbrev exM:List Nat := [9]
abbrev exF:List Nat := [100009,600025,100025,900030,100030,900033,100033,600041,100041,900046,100046,900049,100049]
abbrev exV (b:Int):PV:=.agg [I 3,Az exL,.nils,I 0,I 2,I b,I 5,I 8]
theorem Aha:evR Try.prog 400 exM exF 1 30 [I 120]=some (exV 120):=by kernel_rfl
theorem Ahb:evR Try.prog 400 exM exF 1 30 [I 231]=some (exV 231):=by kernel_rfl
theorem Ahc:evR Try.prog 400 exM exF 1 30 [I 4194305]=some (exV 4194305):=by kernel_rfl
theorem QY:CN 3 exL [] (exD 120)=0:=by kernel_rfl
theorem QZ:CN 3 exL [] (exD 231)=0:=by kernel_rfl
theorem Aew:CN 3 exL [] (exD 4194305)=2:=by kernel_rfl
theorem zA:E8 3 exL [] (exD 120)=230:=TV (by kernel_rfl)
theorem XS:E8 3 exL [] (exD 231)=230:=TV (by kernel_rfl)
abbrev exY (a b c:Int):List (List Int) := [[a,b,c],[a,b,c],[a,b,c],[a,b,c]]
theorem v_bnd1:J7 3 exL [] (exD 120) (exY 0 2 4)=390∧GR 3 exL [] (exD 120) (exY 0 2 4)=0:=⟨by kernel_rfl,by kernel_rfl⟩
theorem v_bnd2:J7 3 exL [] (exD 120) (exY 4 2 0) = -480∧GR 3 exL [] (exD 120) (exY 4 2 0)=0:=⟨by kernel_rfl,by kernel_rfl⟩
theorem Aex:GR 3 exL [] (exD 120) [[0,2,6],[0,2,6],[0,2,5],[0,2,6]]=22:=by kernel_rfl
theorem v_bar1:Fg 3 exL [] (exD 120) [5,9,9]=330∧E9 3 exL [] (exD 120) [5,9,9]=0:=⟨by kernel_rfl,by kernel_rfl⟩
theorem v_bar2:Fg 3 exL [] (exD 120) [5,6,9]=230∧E9 3 exL [] (exD 120) [5,6,9]=0:=⟨by kernel_rfl,by kernel_rfl⟩
theorem Aey:E9 3 exL [] (exD 120) [5,6,8]=1:=by kernel_rfl
theorem v_bar4:Fg 3 exL [] (exD 231) [5,6,9]=230∧E9 3 exL [] (exD 231) [5,6,9]=0:=⟨by kernel_rfl,by kernel_rfl⟩
abbrev exA:List Snd := [(0,5,100),(2,5,10),(1,6,100),(2,6,10)]
abbrev exB:List Snd := [(0,5,90),(2,5,10),(1,6,90),(2,6,10),(2,7,10)]
theorem Aez:decide (QQ 3 exL [] (exD 120) exB (exY 0 2 4))=true:=by kernel_rfl
theorem Ae0:decide (QQ 3 exL [] (exD 120) exA (exY 0 2 4))=false:=by kernel_rfl
theorem Ae1:decide (QQ 3 exL [] (exD 120) exB (exY 0 0 0))=false:=by kernel_rfl
theorem pY:Dx 3 exL [] (exD 120)=0:=(I8 (pck_zero.1 QY).1).2 (by rw[zA];decide)
theorem Ae2:Dx 3 exL [] (exD 231)=21:=by
 have hf:=(pck_zero.1 QZ).1
 refine (I7 hf fun h=>?_).1
 have :=(I8 hf).1 h
 rw [XS]at this
 exact absurd this (by decide)
theorem Ae3:QQ 3 exL [] (exD 120) (C6 3 exL [] (exD 120)) (D9 3 exL [] (exD 120)):=(yW QY pY (by decide)).2.2
theorem Ahd:E9 3 exL [] (exD 231) (F6 3 exL [] (exD 231))=0∧Fg 3 exL [] (exD 231) (F6 3 exL [] (exD 231))<231:=by
 obtain ⟨h1,h2⟩:=XH QZ (d:=exD 231) (by decide)
 refine ⟨h1,?_⟩
 rw [XS]at h2
 omega
end Sim
