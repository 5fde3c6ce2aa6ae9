/- What functions of this seat compute, by values: contracts (lemmas of the statement's proof, under the conditions that each names). -/
import Derived.Test.YtppljhpecoeakaaSimX
import Derived.Test.YtppljhpecoeakaaProg
import Derived.KernelRfl
set_option maxRecDepth 100000
set_option linter.defProp false
namespace Sim
open Go Go.Proofs
theorem ty3:Try.prog.cellsOf 3=1∧Ae Try.prog 3=0∧AT Try.prog 3=false∧AZ Try.prog 3=none∧Ft Try.prog 3=some .i64∧BC Try.prog 3=some (1,false)∧AH Try.prog 3=.int .i64 0∧BE Try.prog 3 = []:=by
 refine ⟨?_,?_,?_,?_,?_,?_,?_,?_⟩ <;> kernel_rfl
theorem ty4:Try.prog.cellsOf 4=1∧Ae Try.prog 4=0∧AT Try.prog 4=false∧AZ Try.prog 4=none∧He Try.prog 4=true∧BC Try.prog 4=some (1,false)∧AH Try.prog 4=.bool false∧BE Try.prog 4 = []:=by
 refine ⟨?_,?_,?_,?_,?_,?_,?_,?_⟩ <;> kernel_rfl
theorem Ady:Try.prog.cellsOf 20=1∧Ae Try.prog 20=0∧AT Try.prog 20=false∧AZ Try.prog 20=none∧BC Try.prog 20=some (1,false)∧AH Try.prog 20=.nili∧BE Try.prog 20 = []:=by
 refine ⟨?_,?_,?_,?_,?_,?_,?_⟩ <;> kernel_rfl
theorem By:Try.prog.cellsOf 22=1∧Ae Try.prog 22=50∧B0 Try.prog 22=62∧AT Try.prog 22=false∧AZ Try.prog 22=none∧BC Try.prog 22=some (1,false)∧AH Try.prog 22=.nils∧BE Try.prog 22 = [(0,50)]:=by
 refine ⟨?_,?_,?_,?_,?_,?_,?_,?_⟩ <;> kernel_rfl
theorem Au:Try.prog.cellsOf 24=2∧Ae Try.prog 24=0∧AT Try.prog 24=false∧AZ Try.prog 24=none∧BC Try.prog 24=some (2,true)∧AH Try.prog 24=.agg [.int .i64 0,.nils]∧Bc Try.prog 24 0=some (0,1,3)∧Bc Try.prog 24 1=some (1,1,22)∧BP Try.prog 24=none∧Ch Try.prog 24=true∧BE Try.prog 24 = [(1,50)]:=by
 refine ⟨?_,?_,?_,?_,?_,?_,?_,?_,?_,?_,?_⟩ <;> kernel_rfl
theorem AB:Try.prog.cellsOf 25=1∧Ae Try.prog 25=3∧B0 Try.prog 25=69∧AT Try.prog 25=false∧AZ Try.prog 25=none∧BC Try.prog 25=some (1,false)∧AH Try.prog 25=.nils∧BE Try.prog 25 = [(0,3)]:=by
 refine ⟨?_,?_,?_,?_,?_,?_,?_,?_⟩ <;> kernel_rfl
theorem AQ:Try.prog.cellsOf 27=5∧Ae Try.prog 27=0∧AT Try.prog 27=false∧AZ Try.prog 27=none∧BC Try.prog 27=some (5,true)∧AH Try.prog 27=.agg [.int .i64 0,.int .i64 0,.int .i64 0,.int .i64 0,.int .i64 0]∧Bc Try.prog 27 0=some (0,1,3)∧Bc Try.prog 27 1=some (1,1,3)∧Bc Try.prog 27 2=some (2,1,3)∧Bc Try.prog 27 3=some (3,1,3)∧Bc Try.prog 27 4=some (4,1,3)∧BP Try.prog 27=none∧Ch Try.prog 27=true∧BE Try.prog 27 = []:=by
 refine ⟨?_,?_,?_,?_,?_,?_,?_,?_,?_,?_,?_,?_,?_,?_⟩ <;> kernel_rfl
theorem Bd:Try.prog.cellsOf 29=8∧Ae Try.prog 29=0∧AT Try.prog 29=false∧AZ Try.prog 29=none∧BC Try.prog 29=some (8,true)∧AH Try.prog 29=.agg [.int .i64 0,.nils,.nils,.int .i64 0,.int .i64 0,.int .i64 0,.int .i64 0,.int .i64 0]∧Bc Try.prog 29 0=some (0,2,24)∧Bc Try.prog 29 1=some (2,1,25)∧Bc Try.prog 29 2=some (3,5,27)∧BP Try.prog 29=none∧Ch Try.prog 29=true∧BE Try.prog 29 = [(1,50),(2,3)]:=by
 refine ⟨?_,?_,?_,?_,?_,?_,?_,?_,?_,?_,?_,?_⟩ <;> kernel_rfl
theorem Bk:Try.prog.cellsOf 30=1∧Ae Try.prog 30=1∧B0 Try.prog 30=43∧AT Try.prog 30=false∧AZ Try.prog 30=none∧BC Try.prog 30=some (1,false)∧AH Try.prog 30=.nils∧BE Try.prog 30 = [(0,1)]:=by
 refine ⟨?_,?_,?_,?_,?_,?_,?_,?_⟩ <;> kernel_rfl
theorem Ajw:Try.prog.cellsOf 34=1∧Ae Try.prog 34=0∧AT Try.prog 34=false∧AZ Try.prog 34=none∧Ft Try.prog 34=some .i64∧BC Try.prog 34=some (1,false)∧AH Try.prog 34=.int .i64 0∧BE Try.prog 34 = []:=by
 refine ⟨?_,?_,?_,?_,?_,?_,?_,?_⟩ <;> kernel_rfl
theorem A4:Try.prog.cellsOf 43=1∧Ae Try.prog 43=1∧B0 Try.prog 43=3∧AT Try.prog 43=false∧AZ Try.prog 43=none∧BC Try.prog 43=some (1,false)∧AH Try.prog 43=.nils∧BE Try.prog 43 = [(0,1)]:=by
 refine ⟨?_,?_,?_,?_,?_,?_,?_,?_⟩ <;> kernel_rfl
theorem QG:Try.prog.cellsOf 54=3∧Ae Try.prog 54=0∧AT Try.prog 54=false∧AZ Try.prog 54=none∧BC Try.prog 54=some (3,true)∧AH Try.prog 54=.agg [.nils,.nils,.nils]∧Bc Try.prog 54 0=some (0,1,25)∧Bc Try.prog 54 1=some (1,1,25)∧Bc Try.prog 54 2=some (2,1,30)∧BP Try.prog 54=none∧Ch Try.prog 54=true∧BE Try.prog 54 = [(0,3),(1,3),(2,1)]:=by
 refine ⟨?_,?_,?_,?_,?_,?_,?_,?_,?_,?_,?_,?_⟩ <;> kernel_rfl
theorem Iw:Try.prog.cellsOf 60=24∧Ae Try.prog 60=0∧AT Try.prog 60=false∧AZ Try.prog 60=none∧BC Try.prog 60=some (24,true)∧AH Try.prog 60=.agg [.int .i64 0,.int .i64 0,.int .i64 0,.int .i64 0,.int .i64 0,.int .i64 0,.int .i64 0,.int .i64 0,.int .i64 0,.int .i64 0,.int .i64 0,.int .i64 0,.int .i64 0,.int .i64 0,.int .i64 0,.int .i64 0,.int .i64 0,.int .i64 0,.int .i64 0,.int .i64 0,.int .i64 0,.int .i64 0,.int .i64 0,.int .i64 0]∧BP Try.prog 60=some (24,1)∧Ks Try.prog 60=some (24,3)∧Ch Try.prog 60=true∧BE Try.prog 60 = []:=by
 refine ⟨?_,?_,?_,?_,?_,?_,?_,?_,?_,?_⟩ <;> kernel_rfl
theorem B5:Try.prog.cellsOf 62=50∧Ae Try.prog 62=0∧AT Try.prog 62=false∧AZ Try.prog 62=none∧BC Try.prog 62=some (50,true)∧AH Try.prog 62=.agg [.int .i64 0,.int .i64 0,.int .i64 0,.int .i64 0,.int .i64 0,.int .i64 0,.int .i64 0,.int .i64 0,.int .i64 0,.int .i64 0,.int .i64 0,.int .i64 0,.int .i64 0,.int .i64 0,.int .i64 0,.int .i64 0,.int .i64 0,.int .i64 0,.int .i64 0,.int .i64 0,.int .i64 0,.int .i64 0,.int .i64 0,.int .i64 0,.int .i64 0,.int .i64 0,.int .i64 0,.int .i64 0,.int .i64 0,.int .i64 0,.int .i64 0,.int .i64 0,.int .i64 0,.int .i64 0,.int .i64 0,.int .i64 0,.int .i64 0,.int .i64 0,.int .i64 0,.int .i64 0,.int .i64 0,.int .i64 0,.int .i64 0,.int .i64 0,.int .i64 0,.int .i64 0,.int .i64 0,.int .i64 0,.int .i64 0,.int .i64 0]∧Bc Try.prog 62 0=some (0,1,3)∧Bc Try.prog 62 1=some (1,1,3)∧Bc Try.prog 62 2=some (2,24,60)∧Bc Try.prog 62 3=some (26,24,60)∧BP Try.prog 62=none∧Ch Try.prog 62=true∧BE Try.prog 62 = []:=by
 refine ⟨?_,?_,?_,?_,?_,?_,?_,?_,?_,?_,?_,?_,?_⟩ <;> kernel_rfl
theorem Bv:Try.prog.cellsOf 69=3∧Ae Try.prog 69=0∧AT Try.prog 69=false∧AZ Try.prog 69=none∧BC Try.prog 69=some (3,true)∧AH Try.prog 69=.agg [.int .i64 0,.int .i64 0,.int .i64 0]∧Bc Try.prog 69 0=some (0,1,3)∧Bc Try.prog 69 1=some (1,1,3)∧Bc Try.prog 69 2=some (2,1,3)∧BP Try.prog 69=none∧Ch Try.prog 69=true∧BE Try.prog 69 = []:=by
 refine ⟨?_,?_,?_,?_,?_,?_,?_,?_,?_,?_,?_,?_⟩ <;> kernel_rfl
theorem xO:Try.prog.cellsOf 72=1∧Ae Try.prog 72=0∧AT Try.prog 72=false∧AZ Try.prog 72=none∧BC Try.prog 72=some (1,false)∧AH Try.prog 72=.nilf∧BE Try.prog 72 = []:=by
 refine ⟨?_,?_,?_,?_,?_,?_,?_⟩ <;> kernel_rfl
theorem GF:Try.prog.cellsOf 78=2∧Ae Try.prog 78=0∧AT Try.prog 78=false∧AZ Try.prog 78=none∧BC Try.prog 78=some (2,true)∧AH Try.prog 78=.agg [.int .i64 0,.int .i64 0]∧Bc Try.prog 78 0=some (0,1,3)∧Bc Try.prog 78 1=some (1,1,3)∧BP Try.prog 78=none∧Ch Try.prog 78=true∧BE Try.prog 78 = []:=by
 refine ⟨?_,?_,?_,?_,?_,?_,?_,?_,?_,?_,?_⟩ <;> kernel_rfl
theorem Ha:Try.prog.cellsOf 80=54∧Ae Try.prog 80=0∧AT Try.prog 80=false∧AZ Try.prog 80=none∧BC Try.prog 80=some (54,true)∧AH Try.prog 80=.agg [.int .i64 0,.int .i64 0,.int .i64 0,.int .i64 0,.int .i64 0,.int .i64 0,.int .i64 0,.int .i64 0,.int .i64 0,.int .i64 0,.int .i64 0,.int .i64 0,.int .i64 0,.int .i64 0,.int .i64 0,.int .i64 0,.int .i64 0,.int .i64 0,.int .i64 0,.int .i64 0,.int .i64 0,.int .i64 0,.int .i64 0,.int .i64 0,.int .i64 0,.int .i64 0,.int .i64 0,.int .i64 0,.int .i64 0,.int .i64 0,.int .i64 0,.int .i64 0,.int .i64 0,.int .i64 0,.int .i64 0,.int .i64 0,.int .i64 0,.int .i64 0,.int .i64 0,.int .i64 0,.int .i64 0,.int .i64 0,.int .i64 0,.int .i64 0,.int .i64 0,.int .i64 0,.int .i64 0,.int .i64 0,.int .i64 0,.int .i64 0,.int .i64 0,.int .i64 0,.int .i64 0,.int .i64 0]∧Bc Try.prog 80 0=some (0,2,78)∧Bc Try.prog 80 1=some (2,50,62)∧Bc Try.prog 80 2=some (52,1,3)∧Bc Try.prog 80 3=some (53,1,3)∧BP Try.prog 80=none∧Ch Try.prog 80=true∧BE Try.prog 80 = []:=by
 refine ⟨?_,?_,?_,?_,?_,?_,?_,?_,?_,?_,?_,?_,?_⟩ <;> kernel_rfl
theorem Ix:Try.prog.cellsOf 85=1∧Ae Try.prog 85=0∧AT Try.prog 85=false∧AZ Try.prog 85=some (.ints 2,.int .i64 0)∧BC Try.prog 85=some (1,false)∧AH Try.prog 85=.nilm∧BE Try.prog 85 = []:=by
 refine ⟨?_,?_,?_,?_,?_,?_,?_⟩ <;> kernel_rfl
theorem Tn:Try.prog.cellsOf 88=1∧Ae Try.prog 88=0∧AT Try.prog 88=false∧AZ Try.prog 88=none∧BC Try.prog 88=some (1,false)∧AH Try.prog 88=.nilp∧BE Try.prog 88 = []:=by
 refine ⟨?_,?_,?_,?_,?_,?_,?_⟩ <;> kernel_rfl
theorem QH:Try.prog.cellsOf 89=1∧Ae Try.prog 89=0∧AT Try.prog 89=false∧AZ Try.prog 89=none∧BC Try.prog 89=some (1,false)∧AH Try.prog 89=.nilf∧BE Try.prog 89 = []:=by
 refine ⟨?_,?_,?_,?_,?_,?_,?_⟩ <;> kernel_rfl
theorem JQ:Try.prog.cellsOf 90=1∧Ae Try.prog 90=0∧AT Try.prog 90=false∧AZ Try.prog 90=none∧BC Try.prog 90=some (1,false)∧AH Try.prog 90=.nilp∧BE Try.prog 90 = []:=by
 refine ⟨?_,?_,?_,?_,?_,?_,?_⟩ <;> kernel_rfl
theorem KM:Try.prog.cellsOf 93=1∧Ae Try.prog 93=4∧B0 Try.prog 93=97∧AT Try.prog 93=false∧AZ Try.prog 93=none∧BC Try.prog 93=some (1,false)∧AH Try.prog 93=.nils∧BE Try.prog 93 = [(0,4)]:=by
 refine ⟨?_,?_,?_,?_,?_,?_,?_,?_⟩ <;> kernel_rfl
theorem Hb:Try.prog.cellsOf 95=3∧Ae Try.prog 95=0∧AT Try.prog 95=false∧AZ Try.prog 95=none∧BC Try.prog 95=some (3,true)∧AH Try.prog 95=.agg [.nils,.nils,.nils]∧Bc Try.prog 95 0=some (0,1,93)∧Bc Try.prog 95 1=some (1,1,30)∧Bc Try.prog 95 2=some (2,1,43)∧BP Try.prog 95=none∧Ch Try.prog 95=true∧BE Try.prog 95 = [(0,4),(1,1),(2,1)]:=by
 refine ⟨?_,?_,?_,?_,?_,?_,?_,?_,?_,?_,?_,?_⟩ <;> kernel_rfl
theorem LA:Try.prog.cellsOf 97=4∧Ae Try.prog 97=0∧AT Try.prog 97=false∧AZ Try.prog 97=none∧BC Try.prog 97=some (4,true)∧AH Try.prog 97=.agg [.int .i64 0,.int .i64 0,.int .i64 0,.int .i64 0]∧Bc Try.prog 97 0=some (0,1,3)∧Bc Try.prog 97 1=some (1,1,3)∧Bc Try.prog 97 2=some (2,1,3)∧Bc Try.prog 97 3=some (3,1,3)∧BP Try.prog 97=none∧Ch Try.prog 97=true∧BE Try.prog 97 = []:=by
 refine ⟨?_,?_,?_,?_,?_,?_,?_,?_,?_,?_,?_,?_,?_⟩ <;> kernel_rfl
theorem JR:Try.prog.cellsOf 100=1∧Ae Try.prog 100=4∧B0 Try.prog 100=103∧AT Try.prog 100=false∧AZ Try.prog 100=none∧BC Try.prog 100=some (1,false)∧AH Try.prog 100=.nils∧BE Try.prog 100 = [(0,4)]:=by
 refine ⟨?_,?_,?_,?_,?_,?_,?_,?_⟩ <;> kernel_rfl
theorem OG:Try.prog.cellsOf 101=1∧Ae Try.prog 101=0∧AT Try.prog 101=false∧AZ Try.prog 101=none∧BC Try.prog 101=some (1,false)∧AH Try.prog 101=.nilf∧BE Try.prog 101 = []:=by
 refine ⟨?_,?_,?_,?_,?_,?_,?_⟩ <;> kernel_rfl
theorem Mx:Try.prog.cellsOf 103=4∧Ae Try.prog 103=0∧AT Try.prog 103=false∧AZ Try.prog 103=none∧BC Try.prog 103=some (4,true)∧AH Try.prog 103=.agg [.int .i64 0,.int .i64 0,.int .i64 0,.int .i64 0]∧Bc Try.prog 103 0=some (0,1,3)∧Bc Try.prog 103 1=some (1,1,3)∧Bc Try.prog 103 2=some (2,1,3)∧Bc Try.prog 103 3=some (3,1,3)∧BP Try.prog 103=none∧Ch Try.prog 103=true∧BE Try.prog 103 = []:=by
 refine ⟨?_,?_,?_,?_,?_,?_,?_,?_,?_,?_,?_,?_,?_⟩ <;> kernel_rfl
theorem lI:Try.prog.cellsOf 104=1∧Ae Try.prog 104=0∧AT Try.prog 104=false∧AZ Try.prog 104=none∧BC Try.prog 104=some (1,false)∧AH Try.prog 104=.nilf∧BE Try.prog 104 = []:=by
 refine ⟨?_,?_,?_,?_,?_,?_,?_⟩ <;> kernel_rfl
theorem Xj:Try.prog.cellsOf 110=1∧Ae Try.prog 110=0∧AT Try.prog 110=false∧AZ Try.prog 110=none∧BC Try.prog 110=some (1,false)∧AH Try.prog 110=.nilf∧BE Try.prog 110 = []:=by
 refine ⟨?_,?_,?_,?_,?_,?_,?_⟩ <;> kernel_rfl
theorem Aii:Try.prog.cellsOf 111=1∧Ae Try.prog 111=0∧AT Try.prog 111=false∧AZ Try.prog 111=none∧Ft Try.prog 111=some .u64∧BC Try.prog 111=some (1,false)∧AH Try.prog 111=.int .u64 0∧BE Try.prog 111 = []:=by
 refine ⟨?_,?_,?_,?_,?_,?_,?_,?_⟩ <;> kernel_rfl
theorem Aij:Try.prog.cellsOf 123=1∧Ae Try.prog 123=0∧AT Try.prog 123=false∧AZ Try.prog 123=none∧Ft Try.prog 123=some .u64∧BC Try.prog 123=some (1,false)∧AH Try.prog 123=.int .u64 0∧BE Try.prog 123 = []:=by
 refine ⟨?_,?_,?_,?_,?_,?_,?_,?_⟩ <;> kernel_rfl
theorem My:Try.prog.cellsOf 130=2∧Ae Try.prog 130=0∧AT Try.prog 130=false∧AZ Try.prog 130=none∧BC Try.prog 130=some (2,true)∧AH Try.prog 130=.agg [.int .i64 0,.int .i64 0]∧BP Try.prog 130=some (2,1)∧Ks Try.prog 130=some (2,3)∧Ch Try.prog 130=true∧BE Try.prog 130 = []:=by
 refine ⟨?_,?_,?_,?_,?_,?_,?_,?_,?_,?_⟩ <;> kernel_rfl
theorem lJ:Try.prog.cellsOf 131=1∧Ae Try.prog 131=0∧AT Try.prog 131=false∧AZ Try.prog 131=some (.ints 2,.int .i64 0)∧BC Try.prog 131=some (1,false)∧AH Try.prog 131=.nilm∧BE Try.prog 131 = []:=by
 refine ⟨?_,?_,?_,?_,?_,?_,?_⟩ <;> kernel_rfl
theorem Mz:Try.prog.cellsOf 135=1∧Ae Try.prog 135=1∧B0 Try.prog 135=4∧AT Try.prog 135=false∧AZ Try.prog 135=none∧BC Try.prog 135=some (1,false)∧AH Try.prog 135=.nils∧BE Try.prog 135 = [(0,1)]:=by
 refine ⟨?_,?_,?_,?_,?_,?_,?_,?_⟩ <;> kernel_rfl
theorem DN : Try.prog.cellsOf 136 = 1 ∧ Ae Try.prog 136 = 0 ∧ AT Try.prog 136 = false ∧ AZ Try.prog 136 = none ∧ BC Try.prog 136 = some (1, false) ∧ AH Try.prog 136 = .nilp ∧ Jw Try.prog 136 "Len" = some (81, false, 140) ∧ Jw Try.prog 136 "Less" = some (104, false, 140) ∧ Jw Try.prog 136 "Pop" = some (105, true, 140) ∧ Jw Try.prog 136 "Push" = some (106, true, 140) ∧ Jw Try.prog 136 "Swap" = some (107, false, 140) ∧ KF Try.prog 136 = true ∧ BE Try.prog 136 = [] := by
 refine ⟨?_,?_,?_,?_,?_,?_,?_,?_,?_,?_,?_,?_,?_⟩ <;> kernel_rfl
theorem Hz:Try.prog.cellsOf 138=2∧Ae Try.prog 138=0∧AT Try.prog 138=false∧AZ Try.prog 138=none∧BC Try.prog 138=some (2,true)∧AH Try.prog 138=.agg [.int .i64 0,.int .i64 0]∧Bc Try.prog 138 0=some (0,1,3)∧Bc Try.prog 138 1=some (1,1,3)∧BP Try.prog 138=none∧Ch Try.prog 138=true∧KF Try.prog 138=true∧BE Try.prog 138 = []:=by
 refine ⟨?_,?_,?_,?_,?_,?_,?_,?_,?_,?_,?_,?_⟩ <;> kernel_rfl
theorem Dm:Try.prog.cellsOf 140=1∧Ae Try.prog 140=2∧B0 Try.prog 140=138∧AT Try.prog 140=false∧AZ Try.prog 140=none∧BC Try.prog 140=some (1,false)∧AH Try.prog 140=.nils∧BE Try.prog 140 = [(0,2)]:=by
 refine ⟨?_,?_,?_,?_,?_,?_,?_,?_⟩ <;> kernel_rfl
theorem OH:Try.prog.cellsOf 148=1∧Ae Try.prog 148=0∧AT Try.prog 148=false∧AZ Try.prog 148=none∧BC Try.prog 148=some (1,false)∧AH Try.prog 148=.nili∧BE Try.prog 148 = []:=by
 refine ⟨?_,?_,?_,?_,?_,?_,?_⟩ <;> kernel_rfl
end Sim
namespace Sim
open Go
def bdD:=(And.intro (And.intro (And.intro (And.intro (And.intro (And.intro @wL @Ads) (And.intro @jO (And.intro @wM @Adt))) (And.intro (And.intro @aN (And.intro @wO
 @eN)) (And.intro @eO (And.intro @tQ @Me)))) (And.intro (And.intro (And.intro @eQ @eR) (And.intro @eS (And.intro @tR @Y0))) (And.intro (And.intro
 @Y2 (And.intro @eU @eV)) (And.intro @eW (And.intro @eX @tS))))) (And.intro (And.intro (And.intro (And.intro @P8 @I3) (And.intro @Kz (And.intro
 @bP @bH))) (And.intro (And.intro @Wn (And.intro @bU @Ww)) (And.intro @bV (And.intro @Wt @Th)))) (And.intro (And.intro (And.intro
 @bI (And.intro @I8 @tT)) (And.intro @eK (And.intro @Acu @SC))) (And.intro (And.intro @H8 (And.intro @Acy @Acz)) (And.intro @uU (And.intro @Ac0
 @uV)))))) (And.intro (And.intro (And.intro (And.intro (And.intro @uW @uX) (And.intro @uY (And.intro @Ac1 @uZ))) (And.intro (And.intro @ZF (And.intro @iB
 @VN)) (And.intro @VO (And.intro @VP @SN)))) (And.intro (And.intro (And.intro @iC (And.intro @ZG @vC)) (And.intro @ZH (And.intro
 @Mp @iF))) (And.intro (And.intro @ZI (And.intro @Qn @ZN)) (And.intro @iG (And.intro @SP @Qo))))) (And.intro (And.intro (And.intro
 (And.intro @NY @ZO) (And.intro @NZ (And.intro @ZU @N0))) (And.intro (And.intro @ZV (And.intro @SR @KG)) (And.intro @ZW
 (And.intro @ZT @S7)))) (And.intro (And.intro (And.intro @Qx (And.intro @Wh @N3)) (And.intro @Qy (And.intro @Ms @Wi)))
 (And.intro (And.intro @aW (And.intro @aX @iH)) (And.intro @vG (And.intro @iD @vE)))))))
def bdP:=(And.intro (And.intro (And.intro (And.intro (And.intro (And.intro (And.intro (And.intro (And.intro @jP @Nat.one_ne_zero) (And.intro @lC @xI)) (And.intro (And.intro
 @bQ @xJ) (And.intro @kJ @Adw))) (And.intro (And.intro (And.intro @kK @N7) (And.intro @bR @xK)) (And.intro (And.intro @kL @Td)
 (And.intro @kM @kN)))) (And.intro (And.intro (And.intro (And.intro @kO @bS) (And.intro @kP @kQ)) (And.intro (And.intro @Wp @bL) (And.intro
 @bM @kG))) (And.intro (And.intro (And.intro @bN @kH) (And.intro @Adv @xG)) (And.intro (And.intro @xH @xL) (And.intro @Wq @KJ)))))
 (And.intro (And.intro (And.intro (And.intro (And.intro @Te @Wr) (And.intro @QB @kR)) (And.intro (And.intro @QC @kT) (And.intro @QD
 @kU))) (And.intro (And.intro (And.intro @bT @QE) (And.intro @Tf @N8)) (And.intro (And.intro @kV @kW) (And.intro @N9 @Ws))))
 (And.intro (And.intro (And.intro (And.intro @kX @kY) (And.intro @kZ @lA)) (And.intro (And.intro @lB @Tg) (And.intro @Adx @U5))) (And.intro
 (And.intro (And.intro @U6 @eY) (And.intro @Y3 @Acv)) (And.intro (And.intro @tU @U4) (And.intro @R9 (And.intro @R8 @YU))))))) (And.intro
 (And.intro (And.intro (And.intro (And.intro (And.intro @YV @YW) (And.intro @YX @Option.map_some.{0,0})) (And.intro (And.intro @Option.map_none.{0,0} @Option.bind_some.{0,0})
 (And.intro @Option.bind_none.{0,0} @Option.getD_some.{0}))) (And.intro (And.intro (And.intro @Option.getD_none.{0} @Bool.false_eq_true) (And.intro @true_and @and_true)) (And.intro (And.intro
 @List.getD_cons_zero.{0} @List.getD_cons_succ.{0}) (And.intro @List.getElem?_toArray.{0} @List.getElem?_cons_zero.{0})))) (And.intro (And.intro (And.intro (And.intro @List.getElem?_cons_succ.{0}
 @decide_eq_true_eq) (And.intro @decide_eq_false_iff_not @true_implies)) (And.intro (And.intro @forall_const.{1} @forall_const.{0}) (And.intro @uF @Aho))) (And.intro (And.intro (And.intro
 @uA @fM) (And.intro @uC @uB)) (And.intro (And.intro @Zk @fN) (And.intro @List.map_cons.{0,0} (And.intro @List.map_nil.{0,0} @List.length_map.{0,0})))))) (And.intro
 (And.intro (And.intro (And.intro (And.intro @Zm @SD) (And.intro @Vs @List.contains_cons.{0})) (And.intro (And.intro @List.contains_nil.{0} @Bool.or_false) (And.intro
 @Bool.or_true @Bool.false_or))) (And.intro (And.intro (And.intro @Bool.true_or @Int.natCast_nonneg) (And.intro @Int.ofNat_lt @Int.toNat_natCast)) (And.intro (And.intro @uD @uE) (And.intro
 @decide_true @decide_false)))) (And.intro (And.intro (And.intro (And.intro @Option.some.injEq.{0} @exists_eq_left'.{1}) (And.intro @PV.int.injEq @PV.bool.injEq)) (And.intro (And.intro @PV.str.injEq
 @PV.lits.injEq) (And.intro @PV.tuple.injEq @PV.agg.injEq))) (And.intro (And.intro (And.intro @List.cons.injEq.{0} @List.lookup_cons.{0,0}) (And.intro @List.lookup_nil.{0,0} @Vp)) (And.intro
 (And.intro @Ahp @Ahq) (And.intro @Ahr (And.intro @Ahu @Ahs)))))))) (And.intro (And.intro (And.intro (And.intro (And.intro (And.intro (And.intro @Aht @Zl) (And.intro @Vq
 @Hw)) (And.intro (And.intro @fO @Bool.and_true) (And.intro @Bool.and_self @Bool.true_and))) (And.intro (And.intro (And.intro @List.cons_append.{0} @List.nil_append.{0}) (And.intro
 @List.append_nil.{0} @Acx)) (And.intro (And.intro @OC @Ql) (And.intro @List.length_append.{0} @List.length_cons.{0})))) (And.intro (And.intro (And.intro (And.intro
 @List.length_nil.{0} @Nat.zero_add) (And.intro @Nat.add_zero @List.drop_zero.{0})) (And.intro (And.intro @List.take_length.{0} @List.take_zero.{0}) (And.intro @Nat.not_succ_le_self
 @List.replicate_succ.{0}))) (And.intro (And.intro (And.intro @List.replicate_zero.{0} @List.length_replicate.{0}) (And.intro @List.set_cons_zero.{0} @List.set_cons_succ.{0})) (And.intro (And.intro
 @fP @fQ) (And.intro @Prod.mk.injEq.{0,0} (And.intro @IObj.arr.injEq @Nat.lt_irrefl)))))) (And.intro (And.intro (And.intro (And.intro (And.intro @Nat.lt_succ_self @Bool.not_true)
 (And.intro @Bool.not_false @not_true_eq_false)) (And.intro (And.intro @not_false_eq_true @false_implies) (And.intro @Qk @or_false))) (And.intro (And.intro (And.intro @or_true @Nat.le_refl)
 (And.intro @Classical.not_not @Vt)) (And.intro (And.intro @Vu @Zn) (And.intro @fR @fS)))) (And.intro (And.intro (And.intro (And.intro @fT @SE)
 (And.intro @Zo @Zp)) (And.intro (And.intro @fU @FA) (And.intro @uG @uH))) (And.intro (And.intro (And.intro @Vv @Zq) (And.intro @Zr
 @fV)) (And.intro (And.intro @uI @uJ) (And.intro @uK (And.intro @Vw @Vx))))))) (And.intro (And.intro (And.intro (And.intro (And.intro (And.intro @Vy
 @Zs) (And.intro @fW @fX)) (And.intro (And.intro @fY @Zt) (And.intro @Vz @SF))) (And.intro (And.intro (And.intro @fZ @gB) (And.intro
 @VA @VB)) (And.intro (And.intro @Zu @gC) (And.intro @gD @gE)))) (And.intro (And.intro (And.intro (And.intro @SG @VD) (And.intro @VE
 @Zv)) (And.intro (And.intro @Mo @gF) (And.intro @gG @SH))) (And.intro (And.intro (And.intro @Zw @uL) (And.intro @Zx @uM)) (And.intro
 (And.intro @uO @VF) (And.intro @SJ (And.intro @gH @gI)))))) (And.intro (And.intro (And.intro (And.intro (And.intro @VG @VH) (And.intro @Zy
 @gJ)) (And.intro (And.intro @gL @gM) (And.intro @SK @SL))) (And.intro (And.intro (And.intro @VI @VJ) (And.intro @Zz @gQ)) (And.intro
 (And.intro @gR @gT) (And.intro @SM @ZA)))) (And.intro (And.intro (And.intro (And.intro @gU @JM) (And.intro @uP @VK)) (And.intro (And.intro
 @ZB @VL) (And.intro @Wu @Wv))) (And.intro (And.intro (And.intro @Ti @Tj) (And.intro @Oa @Ob)) (And.intro (And.intro @VM
 @ZC) (And.intro @gV (And.intro @gW @gX))))))))) (And.intro (And.intro (And.intro (And.intro (And.intro (And.intro (And.intro (And.intro @uQ @gY) (And.intro
 @uR @NU)) (And.intro (And.intro @NV @gZ) (And.intro @uS @uT))) (And.intro (And.intro (And.intro @ZD @ZE) (And.intro @hZ @Ac2))
 (And.intro (And.intro @vA @vB) (And.intro @Ac3 @iA)))) (And.intro (And.intro (And.intro (And.intro @VQ @ZM) (And.intro @iI @iJ)) (And.intro (And.intro
 @vH @VS) (And.intro @vI @vJ))) (And.intro (And.intro (And.intro @vK @vL) (And.intro @iO @iP)) (And.intro (And.intro @iQ @VW) (And.intro
 @VV @JN))))) (And.intro (And.intro (And.intro (And.intro (And.intro @Mq @iN) (And.intro @iL @ZJ)) (And.intro (And.intro @ZL @ZK)
 (And.intro @VT @VU))) (And.intro (And.intro (And.intro @ZP @ZQ) (And.intro @ZR @ZS)) (And.intro (And.intro @List.all_cons.{0} @List.all_nil.{0})
 (And.intro @iM @SS)))) (And.intro (And.intro (And.intro (And.intro @VX @Ada) (And.intro @ZY @aZ)) (And.intro (And.intro @bB @vQ) (And.intro
 @bF @bG))) (And.intro (And.intro (And.intro @Wk @Wl) (And.intro @S8 @Qz)) (And.intro (And.intro @N6 @xF) (And.intro @Tb
 (And.intro @S9 @Ta))))))) (And.intro (And.intro (And.intro (And.intro (And.intro (And.intro @N4 @N5) (And.intro @kE @kF)) (And.intro (And.intro
 @aY @bC) (And.intro @bE @Wj))) (And.intro (And.intro (And.intro @ZZ @Qp) (And.intro @NW @NX)) (And.intro (And.intro @Ac5
 @Adb) (And.intro @Adc @vR)))) (And.intro (And.intro (And.intro (And.intro @Z0 @iT) (And.intro @iU @Z1)) (And.intro (And.intro @Z2 @Ade) (And.intro
 @vT @vU))) (And.intro (And.intro (And.intro @iV @iW) (And.intro @vV @iX)) (And.intro (And.intro @iZ @vW) (And.intro @jA (And.intro @jB
 @Z3)))))) (And.intro (And.intro (And.intro (And.intro (And.intro @Z4 @jC) (And.intro @vX @vY)) (And.intro (And.intro @VY @Z6) (And.intro @Qq
 @Qr))) (And.intro (And.intro (And.intro @N1 @N2) (And.intro @Qs @VZ)) (And.intro (And.intro @ST @V0) (And.intro @SU
 @V1)))) (And.intro (And.intro (And.intro (And.intro @SV @V2) (And.intro @V3 @V4)) (And.intro (And.intro @Z7 @Z8) (And.intro @jD
 @jE))) (And.intro (And.intro (And.intro @SW @SX) (And.intro @V5 @V6)) (And.intro (And.intro @SY @SZ) (And.intro @V7 (And.intro
 @V8 @S0)))))))) (And.intro (And.intro (And.intro (And.intro (And.intro (And.intro (And.intro @jF @Qt) (And.intro @S3 @Ah1)) (And.intro (And.intro @Ah2
 @Ah3) (And.intro @Ah4 @Ah5))) (And.intro (And.intro (And.intro @Ah6 @Ajv) (And.intro @Ah7 @jG)) (And.intro (And.intro @Ah8 @Ah9) (And.intro @Aia @Aib)))) (And.intro
 (And.intro (And.intro (And.intro @Aic @Aid) (And.intro @Aie @Aif)) (And.intro (And.intro @Adh @Adi) (And.intro @Adj @Adk))) (And.intro (And.intro (And.intro @Adl @Adm)
 (And.intro @Adn @Aig)) (And.intro (And.intro @Aih @Adq) (And.intro @Adr (And.intro @jH @Z9)))))) (And.intro (And.intro (And.intro (And.intro (And.intro @V9
 @aA) (And.intro @aB @aC)) (And.intro (And.intro @wA @jJ) (And.intro @aD @wB))) (And.intro (And.intro (And.intro @wC @wE) (And.intro @wF
 @S4)) (And.intro (And.intro @Qu @S5) (And.intro @Qv @wI)))) (And.intro (And.intro (And.intro (And.intro @wH @wG) (And.intro @jL @jM))
 (And.intro (And.intro @aE @Wa) (And.intro @aG @aH))) (And.intro (And.intro (And.intro @aI @aJ) (And.intro @Wb @Wc)) (And.intro (And.intro
 @Wd @aK) (And.intro @We (And.intro @aM @jN))))))) (And.intro (And.intro (And.intro (And.intro (And.intro (And.intro @wJ @wK) (And.intro @DC
 @FW)) (And.intro (And.intro @Int.natCast_eq_zero @Adg) (And.intro @Z5 @iR))) (And.intro (And.intro (And.intro @vP @vD) (And.intro @vF @beq_eq_false_iff_ne.{0}))
 (And.intro (And.intro @ne_eq.{1} @wQ) (And.intro @aQ @Int.natCast_inj)))) (And.intro (And.intro (And.intro (And.intro @List.take_succ_cons.{0} @List.drop_succ_cons.{0}) (And.intro
 @List.drop_nil.{0} @List.take_nil.{0})) (And.intro (And.intro @aR @aS) (And.intro @wR @wS))) (And.intro (And.intro (And.intro @wT @implies_true.{1}) (And.intro
 @implies_true.{0} @Int.natCast_zero)) (And.intro (And.intro @jQ @aU) (And.intro @S6 (And.intro @Qw @Wg)))))) (And.intro (And.intro (And.intro (And.intro
 (And.intro @aV @wU) (And.intro @wV @jR)) (And.intro (And.intro @wX @jT) (And.intro @jU @wY))) (And.intro (And.intro (And.intro @jV @wZ)
 (And.intro @xA @xB)) (And.intro (And.intro @jW @xC) (And.intro @jX @jZ)))) (And.intro (And.intro (And.intro (And.intro @Int.le_refl @Int.natCast_pos) (And.intro
 @beq_self_eq_true.{0} @beq_iff_eq.{0})) (And.intro (And.intro @Ac6 @vO) (And.intro @vM @false_and))) (And.intro (And.intro (And.intro @and_false @Bool.true_eq_false) (And.intro
 @kA @kB)) (And.intro (And.intro @kC @xD) (And.intro @Adu (And.intro @Nat.min_def @Int.cast_ofNat_Int))))))))))
end Sim
