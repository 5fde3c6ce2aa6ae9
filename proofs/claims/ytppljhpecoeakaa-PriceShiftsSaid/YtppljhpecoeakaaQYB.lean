/- What functions of this seat compute, by values: contracts (lemmas of the statement's proof, under the conditions that each names). -/
import Derived.Test.YtppljhpecoeakaaQYA
import Derived.Test.YtppljhpecoeakaaSimAA
set_option maxRecDepth 100000
set_option maxHeartbeats 4000000
set_option linter.unusedVariables false
set_option linter.unusedSimpArgs false
namespace Sim
open Go Go.Proofs
attribute [local congr] Ap Aq Al AC As Ar Av
def Ye (out:List (List Nat)) (N s t:Nat) (bytes:Int):Nat→List Arc→List Int→Int→Option (List Arc×Int)
 | 0,_,_,_=>none
 | f+1,A,lv,sent=>if sent<bytes then (if (FV A out lv N s).done.getD t true=true then Ye out N s t bytes f (aug A (CV A (bytes-sent) (CJ A out lv N s t)) (CJ A out lv N s t)) (lvM A out lv N s) (sent+CV A (bytes-sent) (CJ A out lv N s t))else some (A,sent))else some (A,sent)
theorem Yf {out:List (List Nat)} {N s t:Nat} {bytes:Int}:∀ {f:Nat} {A:List Arc} {lv:List Int} {sent:Int} {A':List Arc} {r:Int},Ye out N s t bytes f A lv sent=some (A',r)→SendR out N s t bytes A lv sent A' r
 | 0,_,_,_,_,_,h=>by cases h
 | f+1,A,lv,sent,A',r,h=>by
  rw [Ye]at h
  by_cases c:sent<bytes
  ·rw [if_pos c]at h
   by_cases c2:(FV A out lv N s).done.getD t true=true
   ·rw [if_pos c2]at h
    exact .step _ _ _ _ _ c c2 (Yf h)
   ·rw [if_neg c2]at h
    cases h
    exact .stop _ _ _ c (by simpa using c2)
  ·rw [if_neg c]at h
   cases h
   exact .full _ _ _ c
def qT (hn:Int) (ls:List Lnk) (us:List Snd) (d:Dem) (bytes:Int):Option (List Arc×Int) :=
 if d.1=d.2.1 then some (gA (Au hn ls us d).p (AW hn ls d),bytes)
 else Ye (gO (Au hn ls us d).p (AO hn d) (AW hn ls d)) (AO hn d) d.1.toNat (An d*hn.toNat+d.2.1.toNat) bytes 50 (gA (Au hn ls us d).p (AW hn ls d)) (List.replicate (AO hn d) 0) 0
theorem qU {hn:Int} {ls:List Lnk} {us:List Snd} {d:Dem} {bytes:Int} {x:List Arc×Int} (h:qT hn ls us d bytes=some x):Bw hn ls us d bytes=x:=by
 unfold qT at h
 unfold Bw
 by_cases c:d.1=d.2.1
 ·rw [if_pos c]at h ⊢
  exact Option.some.inj h
 ·rw [if_neg c]at h ⊢
  obtain ⟨A',r⟩:=x
  exact SW (Yf h)
def Abv (hn:Int) (ls:List Lnk) (us:List Snd) (d:Dem):Option Int:=if Dw hn ls us d=0 then (qT hn ls us d 1099511627776).map (·.2)else some 0
theorem Ua {hn:Int} {ls:List Lnk} {us:List Snd} {d:Dem} {r:Int} (h:Abv hn ls us d=some r):IH hn ls us d=r:=by
 unfold Abv at h
 unfold IH
 split at h
 ·rename_i c
  rw [if_pos c]
  simp only[Option.map_eq_some_iff]at h
  obtain ⟨x,h1,rfl⟩:=h
  rw [qU h1]
 ·rename_i c
  rw [if_neg c];exact Option.some.inj h
def exL:List Lnk := [(0,1,fun _=>100,fun _=>2),(1,2,fun _=>100,fun _=>2),(0,2,fun _=>10,fun _=>1)]
abbrev exD (b:Int):Dem:=(0,2,b,5,8)
abbrev exM:List Nat := [9]
abbrev exF:List Nat := [100009,600025,100025,900030,100030,900033,100033,600041,100041,900046,100046,900049,100049]
abbrev exV (b:Int):PV:=.agg [I 3,Az exL,.nils,I 0,I 2,I b,I 5,I 8]
theorem Aim:evR Try.prog 400 exM exF 1 30 [I 120]=some (exV 120):=by kernel_rfl
theorem Ain:evR Try.prog 400 exM exF 1 30 [I 231]=some (exV 231):=by kernel_rfl
theorem Aio:evR Try.prog 400 exM exF 1 30 [I 4194305]=some (exV 4194305):=by kernel_rfl
theorem Ra:CH 3 exL [] (exD 120)=0:=by kernel_rfl
theorem Rb:CH 3 exL [] (exD 231)=0:=by kernel_rfl
theorem Af6:CH 3 exL [] (exD 4194305)=2:=by kernel_rfl
theorem Aaw:IH 3 exL [] (exD 120)=230:=Ua (by kernel_rfl)
theorem Yg:IH 3 exL [] (exD 231)=230:=Ua (by kernel_rfl)
abbrev exY (a b c:Int):List (List Int) := [[a,b,c],[a,b,c],[a,b,c],[a,b,c]]
theorem v_bnd1:GC 3 exL [] (exD 120) (exY 0 2 4)=390∧D4 3 exL [] (exD 120) (exY 0 2 4)=0:=⟨by kernel_rfl,by kernel_rfl⟩
theorem v_bnd2:GC 3 exL [] (exD 120) (exY 4 2 0) = -480∧D4 3 exL [] (exD 120) (exY 4 2 0)=0:=⟨by kernel_rfl,by kernel_rfl⟩
theorem Af7:D4 3 exL [] (exD 120) [[0,2,6],[0,2,6],[0,2,5],[0,2,6]]=22:=by kernel_rfl
theorem v_bar1:Ga 3 exL [] (exD 120) [5,9,9]=330∧FG 3 exL [] (exD 120) [5,9,9]=0:=⟨by kernel_rfl,by kernel_rfl⟩
theorem v_bar2:Ga 3 exL [] (exD 120) [5,6,9]=230∧FG 3 exL [] (exD 120) [5,6,9]=0:=⟨by kernel_rfl,by kernel_rfl⟩
theorem Af8:FG 3 exL [] (exD 120) [5,6,8]=1:=by kernel_rfl
theorem v_bar4:Ga 3 exL [] (exD 231) [5,6,9]=230∧FG 3 exL [] (exD 231) [5,6,9]=0:=⟨by kernel_rfl,by kernel_rfl⟩
abbrev exA:List Snd := [(0,5,100),(2,5,10),(1,6,100),(2,6,10)]
abbrev exB:List Snd := [(0,5,90),(2,5,10),(1,6,90),(2,6,10),(2,7,10)]
theorem Af9:decide (Q1 3 exL [] (exD 120) exB (exY 0 2 4))=true:=by kernel_rfl
theorem Aga:decide (Q1 3 exL [] (exD 120) exA (exY 0 2 4))=false:=by kernel_rfl
theorem Agb:decide (Q1 3 exL [] (exD 120) exB (exY 0 0 0))=false:=by kernel_rfl
theorem qV:D3 3 exL [] (exD 120)=0:=(Nb (pck_zero.1 Ra).1).2 (by rw[Aaw];decide)
theorem Agc:D3 3 exL [] (exD 231)=21:=by
 have hf:=(pck_zero.1 Rb).1
 refine (Na hf fun h=>?_).1
 have :=(Nb hf).1 h
 rw [Yg]at this
 exact absurd this (by decide)
theorem Agd:Q1 3 exL [] (exD 120) (Df 3 exL [] (exD 120)) (Ec 3 exL [] (exD 120)):=(Aaq Ra qV (by decide)).2.2
theorem Aip:FG 3 exL [] (exD 231) (Jm 3 exL [] (exD 231))=0∧Ga 3 exL [] (exD 231) (Jm 3 exL [] (exD 231))<231:=by
 obtain ⟨h1,h2⟩:=Aam Rb (d:=exD 231) (by decide)
 refine ⟨h1,?_⟩
 rw [Yg]at h2
 omega
end Sim
