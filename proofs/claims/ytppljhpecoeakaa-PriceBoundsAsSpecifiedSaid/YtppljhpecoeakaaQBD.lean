/- What functions of this seat compute, by values: contracts (lemmas of the statement's proof, under the conditions that each names). -/
import Derived.Test.YtppljhpecoeakaaSimX
import Derived.Test.YtppljhpecoeakaaProg
import Derived.KernelRfl
set_option maxRecDepth 100000
set_option linter.defProp false
namespace Sim
open Go Go.Proofs
theorem ty3:Try.prog.cellsOf 3=1∧Ae Try.prog 3=0∧AS Try.prog 3=false∧A3 Try.prog 3=none∧Ff Try.prog 3=some .i64∧Bu Try.prog 3=some (1,false)∧AG Try.prog 3=.int .i64 0∧Bv Try.prog 3 = []:=by
 refine ⟨?_,?_,?_,?_,?_,?_,?_,?_⟩ <;> kernel_rfl
theorem ty4:Try.prog.cellsOf 4=1∧Ae Try.prog 4=0∧AS Try.prog 4=false∧A3 Try.prog 4=none∧GU Try.prog 4=true∧Bu Try.prog 4=some (1,false)∧AG Try.prog 4=.bool false∧Bv Try.prog 4 = []:=by
 refine ⟨?_,?_,?_,?_,?_,?_,?_,?_⟩ <;> kernel_rfl
theorem Ac1:Try.prog.cellsOf 20=1∧Ae Try.prog 20=0∧AS Try.prog 20=false∧A3 Try.prog 20=none∧Bu Try.prog 20=some (1,false)∧AG Try.prog 20=.nili∧Bv Try.prog 20 = []:=by
 refine ⟨?_,?_,?_,?_,?_,?_,?_⟩ <;> kernel_rfl
theorem BC:Try.prog.cellsOf 22=1∧Ae Try.prog 22=50∧BU Try.prog 22=62∧AS Try.prog 22=false∧A3 Try.prog 22=none∧Bu Try.prog 22=some (1,false)∧AG Try.prog 22=.nils∧Bv Try.prog 22 = [(0,50)]:=by
 refine ⟨?_,?_,?_,?_,?_,?_,?_,?_⟩ <;> kernel_rfl
theorem Av:Try.prog.cellsOf 24=2∧Ae Try.prog 24=0∧AS Try.prog 24=false∧A3 Try.prog 24=none∧Bu Try.prog 24=some (2,true)∧AG Try.prog 24=.agg [.int .i64 0,.nils]∧Ba Try.prog 24 0=some (0,1,3)∧Ba Try.prog 24 1=some (1,1,22)∧BK Try.prog 24=none∧Cd Try.prog 24=true∧Bv Try.prog 24 = [(1,50)]:=by
 refine ⟨?_,?_,?_,?_,?_,?_,?_,?_,?_,?_,?_⟩ <;> kernel_rfl
theorem AJ:Try.prog.cellsOf 25=1∧Ae Try.prog 25=3∧BU Try.prog 25=69∧AS Try.prog 25=false∧A3 Try.prog 25=none∧Bu Try.prog 25=some (1,false)∧AG Try.prog 25=.nils∧Bv Try.prog 25 = [(0,3)]:=by
 refine ⟨?_,?_,?_,?_,?_,?_,?_,?_⟩ <;> kernel_rfl
theorem AV:Try.prog.cellsOf 27=5∧Ae Try.prog 27=0∧AS Try.prog 27=false∧A3 Try.prog 27=none∧Bu Try.prog 27=some (5,true)∧AG Try.prog 27=.agg [.int .i64 0,.int .i64 0,.int .i64 0,.int .i64 0,.int .i64 0]∧Ba Try.prog 27 0=some (0,1,3)∧Ba Try.prog 27 1=some (1,1,3)∧Ba Try.prog 27 2=some (2,1,3)∧Ba Try.prog 27 3=some (3,1,3)∧Ba Try.prog 27 4=some (4,1,3)∧BK Try.prog 27=none∧Cd Try.prog 27=true∧Bv Try.prog 27 = []:=by
 refine ⟨?_,?_,?_,?_,?_,?_,?_,?_,?_,?_,?_,?_,?_,?_⟩ <;> kernel_rfl
theorem A8:Try.prog.cellsOf 29=8∧Ae Try.prog 29=0∧AS Try.prog 29=false∧A3 Try.prog 29=none∧Bu Try.prog 29=some (8,true)∧AG Try.prog 29=.agg [.int .i64 0,.nils,.nils,.int .i64 0,.int .i64 0,.int .i64 0,.int .i64 0,.int .i64 0]∧Ba Try.prog 29 0=some (0,2,24)∧Ba Try.prog 29 1=some (2,1,25)∧Ba Try.prog 29 2=some (3,5,27)∧BK Try.prog 29=none∧Cd Try.prog 29=true∧Bv Try.prog 29 = [(1,50),(2,3)]:=by
 refine ⟨?_,?_,?_,?_,?_,?_,?_,?_,?_,?_,?_,?_⟩ <;> kernel_rfl
theorem A7:Try.prog.cellsOf 30=1∧Ae Try.prog 30=1∧BU Try.prog 30=43∧AS Try.prog 30=false∧A3 Try.prog 30=none∧Bu Try.prog 30=some (1,false)∧AG Try.prog 30=.nils∧Bv Try.prog 30 = [(0,1)]:=by
 refine ⟨?_,?_,?_,?_,?_,?_,?_,?_⟩ <;> kernel_rfl
theorem Ahe:Try.prog.cellsOf 34=1∧Ae Try.prog 34=0∧AS Try.prog 34=false∧A3 Try.prog 34=none∧Ff Try.prog 34=some .i64∧Bu Try.prog 34=some (1,false)∧AG Try.prog 34=.int .i64 0∧Bv Try.prog 34 = []:=by
 refine ⟨?_,?_,?_,?_,?_,?_,?_,?_⟩ <;> kernel_rfl
theorem jT:Try.prog.cellsOf 38=2∧Ae Try.prog 38=0∧AS Try.prog 38=false∧A3 Try.prog 38=none∧Bu Try.prog 38=some (2,true)∧AG Try.prog 38=.agg [.int .i64 0,.int .i64 0]∧Ba Try.prog 38 0=some (0,1,3)∧Ba Try.prog 38 1=some (1,1,34)∧BK Try.prog 38=none∧Cd Try.prog 38=true∧Bv Try.prog 38 = []:=by
 refine ⟨?_,?_,?_,?_,?_,?_,?_,?_,?_,?_,?_⟩ <;> kernel_rfl
theorem AX:Try.prog.cellsOf 43=1∧Ae Try.prog 43=1∧BU Try.prog 43=3∧AS Try.prog 43=false∧A3 Try.prog 43=none∧Bu Try.prog 43=some (1,false)∧AG Try.prog 43=.nils∧Bv Try.prog 43 = [(0,1)]:=by
 refine ⟨?_,?_,?_,?_,?_,?_,?_,?_⟩ <;> kernel_rfl
theorem Hn:Try.prog.cellsOf 60=24∧Ae Try.prog 60=0∧AS Try.prog 60=false∧A3 Try.prog 60=none∧Bu Try.prog 60=some (24,true)∧AG Try.prog 60=.agg [.int .i64 0,.int .i64 0,.int .i64 0,.int .i64 0,.int .i64 0,.int .i64 0,.int .i64 0,.int .i64 0,.int .i64 0,.int .i64 0,.int .i64 0,.int .i64 0,.int .i64 0,.int .i64 0,.int .i64 0,.int .i64 0,.int .i64 0,.int .i64 0,.int .i64 0,.int .i64 0,.int .i64 0,.int .i64 0,.int .i64 0,.int .i64 0]∧BK Try.prog 60=some (24,1)∧Kh Try.prog 60=some (24,3)∧Cd Try.prog 60=true∧Bv Try.prog 60 = []:=by
 refine ⟨?_,?_,?_,?_,?_,?_,?_,?_,?_,?_⟩ <;> kernel_rfl
theorem Cg:Try.prog.cellsOf 62=50∧Ae Try.prog 62=0∧AS Try.prog 62=false∧A3 Try.prog 62=none∧Bu Try.prog 62=some (50,true)∧AG Try.prog 62=.agg [.int .i64 0,.int .i64 0,.int .i64 0,.int .i64 0,.int .i64 0,.int .i64 0,.int .i64 0,.int .i64 0,.int .i64 0,.int .i64 0,.int .i64 0,.int .i64 0,.int .i64 0,.int .i64 0,.int .i64 0,.int .i64 0,.int .i64 0,.int .i64 0,.int .i64 0,.int .i64 0,.int .i64 0,.int .i64 0,.int .i64 0,.int .i64 0,.int .i64 0,.int .i64 0,.int .i64 0,.int .i64 0,.int .i64 0,.int .i64 0,.int .i64 0,.int .i64 0,.int .i64 0,.int .i64 0,.int .i64 0,.int .i64 0,.int .i64 0,.int .i64 0,.int .i64 0,.int .i64 0,.int .i64 0,.int .i64 0,.int .i64 0,.int .i64 0,.int .i64 0,.int .i64 0,.int .i64 0,.int .i64 0,.int .i64 0,.int .i64 0]∧Ba Try.prog 62 0=some (0,1,3)∧Ba Try.prog 62 1=some (1,1,3)∧Ba Try.prog 62 2=some (2,24,60)∧Ba Try.prog 62 3=some (26,24,60)∧BK Try.prog 62=none∧Cd Try.prog 62=true∧Bv Try.prog 62 = []:=by
 refine ⟨?_,?_,?_,?_,?_,?_,?_,?_,?_,?_,?_,?_,?_⟩ <;> kernel_rfl
theorem BV:Try.prog.cellsOf 69=3∧Ae Try.prog 69=0∧AS Try.prog 69=false∧A3 Try.prog 69=none∧Bu Try.prog 69=some (3,true)∧AG Try.prog 69=.agg [.int .i64 0,.int .i64 0,.int .i64 0]∧Ba Try.prog 69 0=some (0,1,3)∧Ba Try.prog 69 1=some (1,1,3)∧Ba Try.prog 69 2=some (2,1,3)∧BK Try.prog 69=none∧Cd Try.prog 69=true∧Bv Try.prog 69 = []:=by
 refine ⟨?_,?_,?_,?_,?_,?_,?_,?_,?_,?_,?_,?_⟩ <;> kernel_rfl
theorem wE:Try.prog.cellsOf 72=1∧Ae Try.prog 72=0∧AS Try.prog 72=false∧A3 Try.prog 72=none∧Bu Try.prog 72=some (1,false)∧AG Try.prog 72=.nilf∧Bv Try.prog 72 = []:=by
 refine ⟨?_,?_,?_,?_,?_,?_,?_⟩ <;> kernel_rfl
theorem Gq:Try.prog.cellsOf 78=2∧Ae Try.prog 78=0∧AS Try.prog 78=false∧A3 Try.prog 78=none∧Bu Try.prog 78=some (2,true)∧AG Try.prog 78=.agg [.int .i64 0,.int .i64 0]∧Ba Try.prog 78 0=some (0,1,3)∧Ba Try.prog 78 1=some (1,1,3)∧BK Try.prog 78=none∧Cd Try.prog 78=true∧Bv Try.prog 78 = []:=by
 refine ⟨?_,?_,?_,?_,?_,?_,?_,?_,?_,?_,?_⟩ <;> kernel_rfl
theorem GO:Try.prog.cellsOf 80=54∧Ae Try.prog 80=0∧AS Try.prog 80=false∧A3 Try.prog 80=none∧Bu Try.prog 80=some (54,true)∧AG Try.prog 80=.agg [.int .i64 0,.int .i64 0,.int .i64 0,.int .i64 0,.int .i64 0,.int .i64 0,.int .i64 0,.int .i64 0,.int .i64 0,.int .i64 0,.int .i64 0,.int .i64 0,.int .i64 0,.int .i64 0,.int .i64 0,.int .i64 0,.int .i64 0,.int .i64 0,.int .i64 0,.int .i64 0,.int .i64 0,.int .i64 0,.int .i64 0,.int .i64 0,.int .i64 0,.int .i64 0,.int .i64 0,.int .i64 0,.int .i64 0,.int .i64 0,.int .i64 0,.int .i64 0,.int .i64 0,.int .i64 0,.int .i64 0,.int .i64 0,.int .i64 0,.int .i64 0,.int .i64 0,.int .i64 0,.int .i64 0,.int .i64 0,.int .i64 0,.int .i64 0,.int .i64 0,.int .i64 0,.int .i64 0,.int .i64 0,.int .i64 0,.int .i64 0,.int .i64 0,.int .i64 0,.int .i64 0,.int .i64 0]∧Ba Try.prog 80 0=some (0,2,78)∧Ba Try.prog 80 1=some (2,50,62)∧Ba Try.prog 80 2=some (52,1,3)∧Ba Try.prog 80 3=some (53,1,3)∧BK Try.prog 80=none∧Cd Try.prog 80=true∧Bv Try.prog 80 = []:=by
 refine ⟨?_,?_,?_,?_,?_,?_,?_,?_,?_,?_,?_,?_,?_⟩ <;> kernel_rfl
theorem Il:Try.prog.cellsOf 85=1∧Ae Try.prog 85=0∧AS Try.prog 85=false∧A3 Try.prog 85=some (.ints 2,.int .i64 0)∧Bu Try.prog 85=some (1,false)∧AG Try.prog 85=.nilm∧Bv Try.prog 85 = []:=by
 refine ⟨?_,?_,?_,?_,?_,?_,?_⟩ <;> kernel_rfl
theorem SM:Try.prog.cellsOf 88=1∧Ae Try.prog 88=0∧AS Try.prog 88=false∧A3 Try.prog 88=none∧Bu Try.prog 88=some (1,false)∧AG Try.prog 88=.nilp∧Bv Try.prog 88 = []:=by
 refine ⟨?_,?_,?_,?_,?_,?_,?_⟩ <;> kernel_rfl
theorem Qh:Try.prog.cellsOf 89=1∧Ae Try.prog 89=0∧AS Try.prog 89=false∧A3 Try.prog 89=none∧Bu Try.prog 89=some (1,false)∧AG Try.prog 89=.nilf∧Bv Try.prog 89 = []:=by
 refine ⟨?_,?_,?_,?_,?_,?_,?_⟩ <;> kernel_rfl
theorem JF:Try.prog.cellsOf 90=1∧Ae Try.prog 90=0∧AS Try.prog 90=false∧A3 Try.prog 90=none∧Bu Try.prog 90=some (1,false)∧AG Try.prog 90=.nilp∧Bv Try.prog 90 = []:=by
 refine ⟨?_,?_,?_,?_,?_,?_,?_⟩ <;> kernel_rfl
theorem KB:Try.prog.cellsOf 93=1∧Ae Try.prog 93=4∧BU Try.prog 93=97∧AS Try.prog 93=false∧A3 Try.prog 93=none∧Bu Try.prog 93=some (1,false)∧AG Try.prog 93=.nils∧Bv Try.prog 93 = [(0,4)]:=by
 refine ⟨?_,?_,?_,?_,?_,?_,?_,?_⟩ <;> kernel_rfl
theorem GQ:Try.prog.cellsOf 95=3∧Ae Try.prog 95=0∧AS Try.prog 95=false∧A3 Try.prog 95=none∧Bu Try.prog 95=some (3,true)∧AG Try.prog 95=.agg [.nils,.nils,.nils]∧Ba Try.prog 95 0=some (0,1,93)∧Ba Try.prog 95 1=some (1,1,30)∧Ba Try.prog 95 2=some (2,1,43)∧BK Try.prog 95=none∧Cd Try.prog 95=true∧Bv Try.prog 95 = [(0,4),(1,1),(2,1)]:=by
 refine ⟨?_,?_,?_,?_,?_,?_,?_,?_,?_,?_,?_,?_⟩ <;> kernel_rfl
theorem Lq:Try.prog.cellsOf 97=4∧Ae Try.prog 97=0∧AS Try.prog 97=false∧A3 Try.prog 97=none∧Bu Try.prog 97=some (4,true)∧AG Try.prog 97=.agg [.int .i64 0,.int .i64 0,.int .i64 0,.int .i64 0]∧Ba Try.prog 97 0=some (0,1,3)∧Ba Try.prog 97 1=some (1,1,3)∧Ba Try.prog 97 2=some (2,1,3)∧Ba Try.prog 97 3=some (3,1,3)∧BK Try.prog 97=none∧Cd Try.prog 97=true∧Bv Try.prog 97 = []:=by
 refine ⟨?_,?_,?_,?_,?_,?_,?_,?_,?_,?_,?_,?_,?_⟩ <;> kernel_rfl
theorem JG:Try.prog.cellsOf 100=1∧Ae Try.prog 100=4∧BU Try.prog 100=103∧AS Try.prog 100=false∧A3 Try.prog 100=none∧Bu Try.prog 100=some (1,false)∧AG Try.prog 100=.nils∧Bv Try.prog 100 = [(0,4)]:=by
 refine ⟨?_,?_,?_,?_,?_,?_,?_,?_⟩ <;> kernel_rfl
theorem Oj:Try.prog.cellsOf 101=1∧Ae Try.prog 101=0∧AS Try.prog 101=false∧A3 Try.prog 101=none∧Bu Try.prog 101=some (1,false)∧AG Try.prog 101=.nilf∧Bv Try.prog 101 = []:=by
 refine ⟨?_,?_,?_,?_,?_,?_,?_⟩ <;> kernel_rfl
theorem Mo:Try.prog.cellsOf 103=4∧Ae Try.prog 103=0∧AS Try.prog 103=false∧A3 Try.prog 103=none∧Bu Try.prog 103=some (4,true)∧AG Try.prog 103=.agg [.int .i64 0,.int .i64 0,.int .i64 0,.int .i64 0]∧Ba Try.prog 103 0=some (0,1,3)∧Ba Try.prog 103 1=some (1,1,3)∧Ba Try.prog 103 2=some (2,1,3)∧Ba Try.prog 103 3=some (3,1,3)∧BK Try.prog 103=none∧Cd Try.prog 103=true∧Bv Try.prog 103 = []:=by
 refine ⟨?_,?_,?_,?_,?_,?_,?_,?_,?_,?_,?_,?_,?_⟩ <;> kernel_rfl
theorem jU:Try.prog.cellsOf 104=1∧Ae Try.prog 104=0∧AS Try.prog 104=false∧A3 Try.prog 104=none∧Bu Try.prog 104=some (1,false)∧AG Try.prog 104=.nilf∧Bv Try.prog 104 = []:=by
 refine ⟨?_,?_,?_,?_,?_,?_,?_⟩ <;> kernel_rfl
theorem WT:Try.prog.cellsOf 110=1∧Ae Try.prog 110=0∧AS Try.prog 110=false∧A3 Try.prog 110=none∧Bu Try.prog 110=some (1,false)∧AG Try.prog 110=.nilf∧Bv Try.prog 110 = []:=by
 refine ⟨?_,?_,?_,?_,?_,?_,?_⟩ <;> kernel_rfl
theorem Ahf:Try.prog.cellsOf 111=1∧Ae Try.prog 111=0∧AS Try.prog 111=false∧A3 Try.prog 111=none∧Ff Try.prog 111=some .u64∧Bu Try.prog 111=some (1,false)∧AG Try.prog 111=.int .u64 0∧Bv Try.prog 111 = []:=by
 refine ⟨?_,?_,?_,?_,?_,?_,?_,?_⟩ <;> kernel_rfl
theorem Ahg:Try.prog.cellsOf 123=1∧Ae Try.prog 123=0∧AS Try.prog 123=false∧A3 Try.prog 123=none∧Ff Try.prog 123=some .u64∧Bu Try.prog 123=some (1,false)∧AG Try.prog 123=.int .u64 0∧Bv Try.prog 123 = []:=by
 refine ⟨?_,?_,?_,?_,?_,?_,?_,?_⟩ <;> kernel_rfl
theorem Mp:Try.prog.cellsOf 130=2∧Ae Try.prog 130=0∧AS Try.prog 130=false∧A3 Try.prog 130=none∧Bu Try.prog 130=some (2,true)∧AG Try.prog 130=.agg [.int .i64 0,.int .i64 0]∧BK Try.prog 130=some (2,1)∧Kh Try.prog 130=some (2,3)∧Cd Try.prog 130=true∧Bv Try.prog 130 = []:=by
 refine ⟨?_,?_,?_,?_,?_,?_,?_,?_,?_,?_⟩ <;> kernel_rfl
theorem jV:Try.prog.cellsOf 131=1∧Ae Try.prog 131=0∧AS Try.prog 131=false∧A3 Try.prog 131=some (.ints 2,.int .i64 0)∧Bu Try.prog 131=some (1,false)∧AG Try.prog 131=.nilm∧Bv Try.prog 131 = []:=by
 refine ⟨?_,?_,?_,?_,?_,?_,?_⟩ <;> kernel_rfl
theorem Mq:Try.prog.cellsOf 135=1∧Ae Try.prog 135=1∧BU Try.prog 135=4∧AS Try.prog 135=false∧A3 Try.prog 135=none∧Bu Try.prog 135=some (1,false)∧AG Try.prog 135=.nils∧Bv Try.prog 135 = [(0,1)]:=by
 refine ⟨?_,?_,?_,?_,?_,?_,?_,?_⟩ <;> kernel_rfl
theorem DC : Try.prog.cellsOf 136 = 1 ∧ Ae Try.prog 136 = 0 ∧ AS Try.prog 136 = false ∧ A3 Try.prog 136 = none ∧ Bu Try.prog 136 = some (1, false) ∧ AG Try.prog 136 = .nilp ∧ Jl Try.prog 136 "Len" = some (81, false, 140) ∧ Jl Try.prog 136 "Less" = some (104, false, 140) ∧ Jl Try.prog 136 "Pop" = some (105, true, 140) ∧ Jl Try.prog 136 "Push" = some (106, true, 140) ∧ Jl Try.prog 136 "Swap" = some (107, false, 140) ∧ Ku Try.prog 136 = true ∧ Bv Try.prog 136 = [] := by
 refine ⟨?_,?_,?_,?_,?_,?_,?_,?_,?_,?_,?_,?_,?_⟩ <;> kernel_rfl
theorem Ho:Try.prog.cellsOf 138=2∧Ae Try.prog 138=0∧AS Try.prog 138=false∧A3 Try.prog 138=none∧Bu Try.prog 138=some (2,true)∧AG Try.prog 138=.agg [.int .i64 0,.int .i64 0]∧Ba Try.prog 138 0=some (0,1,3)∧Ba Try.prog 138 1=some (1,1,3)∧BK Try.prog 138=none∧Cd Try.prog 138=true∧Ku Try.prog 138=true∧Bv Try.prog 138 = []:=by
 refine ⟨?_,?_,?_,?_,?_,?_,?_,?_,?_,?_,?_,?_⟩ <;> kernel_rfl
theorem Df:Try.prog.cellsOf 140=1∧Ae Try.prog 140=2∧BU Try.prog 140=138∧AS Try.prog 140=false∧A3 Try.prog 140=none∧Bu Try.prog 140=some (1,false)∧AG Try.prog 140=.nils∧Bv Try.prog 140 = [(0,2)]:=by
 refine ⟨?_,?_,?_,?_,?_,?_,?_,?_⟩ <;> kernel_rfl
theorem Ok:Try.prog.cellsOf 148=1∧Ae Try.prog 148=0∧AS Try.prog 148=false∧A3 Try.prog 148=none∧Bu Try.prog 148=some (1,false)∧AG Try.prog 148=.nili∧Bv Try.prog 148 = []:=by
 refine ⟨?_,?_,?_,?_,?_,?_,?_⟩ <;> kernel_rfl
end Sim
namespace Sim
open Go
def bdD:=(And.intro (And.intro (And.intro (And.intro (And.intro (And.intro @vB @Acv) (And.intro @iC (And.intro @vC @Acw))) (And.intro (And.intro @ZS (And.intro @vD
 @cW)) (And.intro @cX (And.intro @sE @L5)))) (And.intro (And.intro (And.intro @cZ @dB) (And.intro @dC (And.intro @sF @Yw))) (And.intro (And.intro
 @Yx (And.intro @dD @dE)) (And.intro @dF (And.intro @dG @sG))))) (And.intro (And.intro (And.intro (And.intro @Py @IR) (And.intro @Ko (And.intro
 @aE @Z7))) (And.intro (And.intro @V0 (And.intro @aK @V9)) (And.intro @aM (And.intro @V6 @SF)))) (And.intro (And.intro (And.intro
 @Z8 (And.intro @IW @sH)) (And.intro @cU (And.intro @Abx @R3))) (And.intro (And.intro @H0 (And.intro @Ab1 @Ab2)) (And.intro @tK (And.intro @Ab3
 @tL)))))) (And.intro (And.intro (And.intro (And.intro (And.intro @tM @tO) (And.intro @tP (And.intro @Ab4 @tQ))) (And.intro (And.intro @Zc (And.intro @fM
 @Vp)) (And.intro @Vq (And.intro @Vr @Sd)))) (And.intro (And.intro (And.intro @fN (And.intro @Zd @tT)) (And.intro @Ze (And.intro
 @Mg @fQ))) (And.intro (And.intro @Zf (And.intro @PU @Zk)) (And.intro @fR (And.intro @Se @PX))))) (And.intro (And.intro (And.intro
 (And.intro @NF @Zl) (And.intro @NG (And.intro @Zr @NH))) (And.intro (And.intro @Zs (And.intro @Sg @Kv)) (And.intro @Zt
 (And.intro @Zq @Su)))) (And.intro (And.intro (And.intro @P8 (And.intro @VU @NK)) (And.intro @P9 (And.intro @Mj @VV)))
 (And.intro (And.intro @ZY (And.intro @ZZ @fS)) (And.intro @tX (And.intro @fO @tV)))))))
def bdP:=(And.intro (And.intro (And.intro (And.intro (And.intro (And.intro (And.intro (And.intro (And.intro @iD @Nat.one_ne_zero) (And.intro @jN @vX)) (And.intro (And.intro
 @aG @vY) (And.intro @iU @Acz))) (And.intro (And.intro (And.intro @iV @NO) (And.intro @aH @vZ)) (And.intro (And.intro @iW @SA)
 (And.intro @iX @iZ)))) (And.intro (And.intro (And.intro (And.intro @jA @aI) (And.intro @jB @jC)) (And.intro (And.intro @V2 @aB) (And.intro
 @aC @iR))) (And.intro (And.intro (And.intro @aD @iT) (And.intro @Acy @vV)) (And.intro (And.intro @vW @wA) (And.intro @V3 @Ky)))))
 (And.intro (And.intro (And.intro (And.intro (And.intro @SC @V4) (And.intro @Qc @jD)) (And.intro (And.intro @Qd @jE) (And.intro @Qe
 @jF))) (And.intro (And.intro (And.intro @aJ @Qf) (And.intro @SD @NP)) (And.intro (And.intro @jG @jH) (And.intro @NQ @V5))))
 (And.intro (And.intro (And.intro (And.intro @jI @jJ) (And.intro @jK @jL)) (And.intro (And.intro @jM @SE) (And.intro @Ac0 @UI))) (And.intro
 (And.intro (And.intro @UJ @dH) (And.intro @Yy @Aby)) (And.intro (And.intro @sJ @UH) (And.intro @Rw (And.intro @Rv @Yq))))))) (And.intro
 (And.intro (And.intro (And.intro (And.intro (And.intro @Yr @Ys) (And.intro @Yt @Option.map_some.{0,0})) (And.intro (And.intro @Option.map_none.{0,0} @Option.bind_some.{0,0})
 (And.intro @Option.bind_none.{0,0} @Option.getD_some.{0}))) (And.intro (And.intro (And.intro @Option.getD_none.{0} @Bool.false_eq_true) (And.intro @true_and @and_true)) (And.intro (And.intro
 @List.getD_cons_zero.{0} @List.getD_cons_succ.{0}) (And.intro @List.getElem?_toArray.{0} @List.getElem?_cons_zero.{0})))) (And.intro (And.intro (And.intro (And.intro @List.getElem?_cons_succ.{0}
 @decide_eq_true_eq) (And.intro @decide_eq_false_iff_not @true_implies)) (And.intro (And.intro @forall_const.{1} @forall_const.{0}) (And.intro @sW @Agk))) (And.intro (And.intro (And.intro
 @sR @dY) (And.intro @sT @sS)) (And.intro (And.intro @YO @dZ) (And.intro @List.map_cons.{0,0} (And.intro @List.map_nil.{0,0} @List.length_map.{0,0})))))) (And.intro
 (And.intro (And.intro (And.intro (And.intro @YQ @R4) (And.intro @U5 @List.contains_cons.{0})) (And.intro (And.intro @List.contains_nil.{0} @Bool.or_false) (And.intro
 @Bool.or_true @Bool.false_or))) (And.intro (And.intro (And.intro @Bool.true_or @Int.natCast_nonneg) (And.intro @Int.ofNat_lt @Int.toNat_natCast)) (And.intro (And.intro @sU @sV) (And.intro
 @decide_true @decide_false)))) (And.intro (And.intro (And.intro (And.intro @Option.some.injEq.{0} @exists_eq_left'.{1}) (And.intro @PV.int.injEq @PV.bool.injEq)) (And.intro (And.intro @PV.str.injEq
 @PV.lits.injEq) (And.intro @PV.tuple.injEq @PV.agg.injEq))) (And.intro (And.intro (And.intro @List.cons.injEq.{0} @List.lookup_cons.{0,0}) (And.intro @List.lookup_nil.{0,0} @U2)) (And.intro
 (And.intro @Agl @Agm) (And.intro @Agn (And.intro @Agq @Ago)))))))) (And.intro (And.intro (And.intro (And.intro (And.intro (And.intro (And.intro @Agp @YP) (And.intro @U3
 @Hk)) (And.intro (And.intro @eA @Bool.and_true) (And.intro @Bool.and_self @Bool.true_and))) (And.intro (And.intro (And.intro @List.cons_append.{0} @List.nil_append.{0}) (And.intro
 @List.append_nil.{0} @Ab0)) (And.intro (And.intro @Of @PS) (And.intro @List.length_append.{0} @List.length_cons.{0})))) (And.intro (And.intro (And.intro (And.intro
 @List.length_nil.{0} @Nat.zero_add) (And.intro @Nat.add_zero @List.drop_zero.{0})) (And.intro (And.intro @List.take_length.{0} @List.take_zero.{0}) (And.intro @Nat.not_succ_le_self
 @List.replicate_succ.{0}))) (And.intro (And.intro (And.intro @List.replicate_zero.{0} @List.length_replicate.{0}) (And.intro @List.set_cons_zero.{0} @List.set_cons_succ.{0})) (And.intro (And.intro
 @eB @eC) (And.intro @Prod.mk.injEq.{0,0} (And.intro @IObj.arr.injEq @Nat.lt_irrefl)))))) (And.intro (And.intro (And.intro (And.intro (And.intro @Nat.lt_succ_self @Bool.not_true)
 (And.intro @Bool.not_false @not_true_eq_false)) (And.intro (And.intro @not_false_eq_true @false_implies) (And.intro @PR @or_false))) (And.intro (And.intro (And.intro @or_true @Nat.le_refl)
 (And.intro @Classical.not_not @U6)) (And.intro (And.intro @U7 @YR) (And.intro @eD @eE)))) (And.intro (And.intro (And.intro (And.intro @eG @R5)
 (And.intro @YT @YU)) (And.intro (And.intro @eH @Fm) (And.intro @sX @sY))) (And.intro (And.intro (And.intro @U8 @YV) (And.intro @YW
 @eI)) (And.intro (And.intro @sZ @tA) (And.intro @tB (And.intro @U9 @Va))))))) (And.intro (And.intro (And.intro (And.intro (And.intro (And.intro @Vb
 @YX) (And.intro @eJ @eK)) (And.intro (And.intro @eM @YY) (And.intro @Vc @R6))) (And.intro (And.intro (And.intro @eN @eO) (And.intro
 @Vd @Ve)) (And.intro (And.intro @YZ @eQ) (And.intro @eR @eS)))) (And.intro (And.intro (And.intro (And.intro @R7 @Vf) (And.intro @Vg
 @Y0)) (And.intro (And.intro @Mf @eU) (And.intro @eV @R8))) (And.intro (And.intro (And.intro @Y2 @tC) (And.intro @Y3 @tD)) (And.intro
 (And.intro @tE @Vh) (And.intro @R9 (And.intro @eW @eX)))))) (And.intro (And.intro (And.intro (And.intro (And.intro @Vi @Vj) (And.intro @Y5
 @eY)) (And.intro (And.intro @eZ @fA) (And.intro @Sa @Sb))) (And.intro (And.intro (And.intro @Vk @Vl) (And.intro @Y6 @fB)) (And.intro
 (And.intro @fC @fD) (And.intro @Sc @Y7)))) (And.intro (And.intro (And.intro (And.intro @fE @JB) (And.intro @tF @Vm)) (And.intro (And.intro
 @Y8 @Vn) (And.intro @V7 @V8))) (And.intro (And.intro (And.intro @SG @SH) (And.intro @NR @NS)) (And.intro (And.intro @Vo
 @Y9) (And.intro @fF (And.intro @fG @fH))))))))) (And.intro (And.intro (And.intro (And.intro (And.intro (And.intro (And.intro (And.intro @tG @fI) (And.intro
 @tH @NB)) (And.intro (And.intro @NC @fJ) (And.intro @tI @tJ))) (And.intro (And.intro (And.intro @Za @Zb) (And.intro @fK @Ab5))
 (And.intro (And.intro @tR @tS) (And.intro @Ab6 @fL)))) (And.intro (And.intro (And.intro (And.intro @Vs @Zj) (And.intro @fT @fU)) (And.intro (And.intro
 @tY @Vt) (And.intro @tZ @uA))) (And.intro (And.intro (And.intro @uB @uC) (And.intro @fZ @gB)) (And.intro (And.intro @gC @Vx) (And.intro
 @Vw @JC))))) (And.intro (And.intro (And.intro (And.intro (And.intro @Mh @fY) (And.intro @fW @Zg)) (And.intro (And.intro @Zi @Zh)
 (And.intro @Vu @Vv))) (And.intro (And.intro (And.intro @Zm @Zn) (And.intro @Zo @Zp)) (And.intro (And.intro @List.all_cons.{0} @List.all_nil.{0})
 (And.intro @fX @Sh)))) (And.intro (And.intro (And.intro (And.intro @Vy @Acd) (And.intro @Zv @Z1)) (And.intro (And.intro @Z2 @uG) (And.intro
 @Z5 @Z6))) (And.intro (And.intro (And.intro @VX @VY) (And.intro @Sv @Qa)) (And.intro (And.intro @NN @vU) (And.intro @Sy
 (And.intro @Sw @Sx))))))) (And.intro (And.intro (And.intro (And.intro (And.intro (And.intro @NL @NM) (And.intro @iP @iQ)) (And.intro (And.intro
 @Z0 @Z3) (And.intro @Z4 @VW))) (And.intro (And.intro (And.intro @Zw @PY) (And.intro @ND @NE)) (And.intro (And.intro @Ab8
 @Ace) (And.intro @Acf @uH)))) (And.intro (And.intro (And.intro (And.intro @Zx @gE) (And.intro @gF @Zy)) (And.intro (And.intro @Zz @Acg) (And.intro
 @uJ @uK))) (And.intro (And.intro (And.intro @gG @gH) (And.intro @uL @gI)) (And.intro (And.intro @gJ @uM) (And.intro @gL (And.intro @gM
 @ZA)))))) (And.intro (And.intro (And.intro (And.intro (And.intro @ZB @gQ) (And.intro @uO @uP)) (And.intro (And.intro @Vz @ZD) (And.intro @PZ
 @P1))) (And.intro (And.intro (And.intro @NI @NJ) (And.intro @P3 @VA)) (And.intro (And.intro @Si @VB) (And.intro @Sj
 @VD)))) (And.intro (And.intro (And.intro (And.intro @Sk @VE) (And.intro @VF @VG)) (And.intro (And.intro @ZE @ZF) (And.intro @gR
 @gT))) (And.intro (And.intro (And.intro @Sl @Sm) (And.intro @VH @VI)) (And.intro (And.intro @Sn @So) (And.intro @VJ (And.intro
 @VK @Sp)))))))) (And.intro (And.intro (And.intro (And.intro (And.intro (And.intro (And.intro @gU @P4) (And.intro @Sq @Agx)) (And.intro (And.intro @Agy
 @Agz) (And.intro @Ag0 @Ag1))) (And.intro (And.intro (And.intro @Ag2 @Air) (And.intro @Ag3 @gV)) (And.intro (And.intro @Ag4 @Ag5) (And.intro @Ag6 @Ag7)))) (And.intro
 (And.intro (And.intro (And.intro @Ag8 @Ag9) (And.intro @Aha @Ahb)) (And.intro (And.intro @Acj @Ack) (And.intro @Acl @Acm))) (And.intro (And.intro (And.intro @Acn @Aco)
 (And.intro @Acp @Ahc)) (And.intro (And.intro @Ahd @Acs) (And.intro @Acu (And.intro @gW @ZG)))))) (And.intro (And.intro (And.intro (And.intro (And.intro @VL
 @ZH) (And.intro @ZI @ZJ)) (And.intro (And.intro @uR @gY) (And.intro @ZK @uS))) (And.intro (And.intro (And.intro @uT @uU) (And.intro @uV
 @Sr)) (And.intro (And.intro @P5 @Ss) (And.intro @P6 @uY)))) (And.intro (And.intro (And.intro (And.intro @uX @uW) (And.intro @hZ @iA))
 (And.intro (And.intro @ZL @VM) (And.intro @ZM @ZN))) (And.intro (And.intro (And.intro @ZO @ZP) (And.intro @VN @VO)) (And.intro (And.intro
 @VP @ZQ) (And.intro @VQ (And.intro @ZR @iB))))))) (And.intro (And.intro (And.intro (And.intro (And.intro (And.intro @uZ @vA) (And.intro @Ds
 @FI)) (And.intro (And.intro @Int.natCast_eq_zero @Aci) (And.intro @ZC @gD))) (And.intro (And.intro (And.intro @uF @tU) (And.intro @tW @beq_eq_false_iff_ne.{0}))
 (And.intro (And.intro @ne_eq.{1} @vF) (And.intro @ZT @Int.natCast_inj)))) (And.intro (And.intro (And.intro (And.intro @List.take_succ_cons.{0} @List.drop_succ_cons.{0}) (And.intro
 @List.drop_nil.{0} @List.take_nil.{0})) (And.intro (And.intro @ZU @ZV) (And.intro @vG @vH))) (And.intro (And.intro (And.intro @vI @implies_true.{1}) (And.intro
 @implies_true.{0} @Int.natCast_zero)) (And.intro (And.intro @iE @ZW) (And.intro @St (And.intro @P7 @VT)))))) (And.intro (And.intro (And.intro (And.intro
 (And.intro @ZX @vJ) (And.intro @vK @iF)) (And.intro (And.intro @vL @iG) (And.intro @iH @vM))) (And.intro (And.intro (And.intro @iI @vO)
 (And.intro @vP @vQ)) (And.intro (And.intro @iJ @vR) (And.intro @iK @iL)))) (And.intro (And.intro (And.intro (And.intro @Int.le_refl @Int.natCast_pos) (And.intro
 @beq_self_eq_true.{0} @beq_iff_eq.{0})) (And.intro (And.intro @Ab9 @uE) (And.intro @uD @false_and))) (And.intro (And.intro (And.intro @and_false @Bool.true_eq_false) (And.intro
 @iM @iN)) (And.intro (And.intro @iO @vS) (And.intro @Acx (And.intro @Nat.min_def @Int.cast_ofNat_Int))))))))))
end Sim
