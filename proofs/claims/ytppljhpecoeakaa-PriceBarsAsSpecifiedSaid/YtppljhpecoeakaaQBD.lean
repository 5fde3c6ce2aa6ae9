/- What functions of this seat compute, by values: contracts (lemmas of the statement's proof, under the conditions that each names). -/
import Derived.Test.YtppljhpecoeakaaSimX
import Derived.Test.YtppljhpecoeakaaProg
import Derived.KernelRfl
set_option maxRecDepth 100000
set_option linter.defProp false
namespace Sim
open Go Go.Proofs
theorem ty3:Try.prog.cellsOf 3=1∧Ae Try.prog 3=0∧AT Try.prog 3=false∧A3 Try.prog 3=none∧Ff Try.prog 3=some .i64∧Bs Try.prog 3=some (1,false)∧AF Try.prog 3=.int .i64 0∧Bt Try.prog 3 = []:=by
 refine ⟨?_,?_,?_,?_,?_,?_,?_,?_⟩ <;> kernel_rfl
theorem ty4:Try.prog.cellsOf 4=1∧Ae Try.prog 4=0∧AT Try.prog 4=false∧A3 Try.prog 4=none∧GQ Try.prog 4=true∧Bs Try.prog 4=some (1,false)∧AF Try.prog 4=.bool false∧Bt Try.prog 4 = []:=by
 refine ⟨?_,?_,?_,?_,?_,?_,?_,?_⟩ <;> kernel_rfl
theorem Acn:Try.prog.cellsOf 20=1∧Ae Try.prog 20=0∧AT Try.prog 20=false∧A3 Try.prog 20=none∧Bs Try.prog 20=some (1,false)∧AF Try.prog 20=.nili∧Bt Try.prog 20 = []:=by
 refine ⟨?_,?_,?_,?_,?_,?_,?_⟩ <;> kernel_rfl
theorem By:Try.prog.cellsOf 22=1∧Ae Try.prog 22=50∧BR Try.prog 22=62∧AT Try.prog 22=false∧A3 Try.prog 22=none∧Bs Try.prog 22=some (1,false)∧AF Try.prog 22=.nils∧Bt Try.prog 22 = [(0,50)]:=by
 refine ⟨?_,?_,?_,?_,?_,?_,?_,?_⟩ <;> kernel_rfl
theorem Au:Try.prog.cellsOf 24=2∧Ae Try.prog 24=0∧AT Try.prog 24=false∧A3 Try.prog 24=none∧Bs Try.prog 24=some (2,true)∧AF Try.prog 24=.agg [.int .i64 0,.nils]∧A9 Try.prog 24 0=some (0,1,3)∧A9 Try.prog 24 1=some (1,1,22)∧BH Try.prog 24=none∧Cd Try.prog 24=true∧Bt Try.prog 24 = [(1,50)]:=by
 refine ⟨?_,?_,?_,?_,?_,?_,?_,?_,?_,?_,?_⟩ <;> kernel_rfl
theorem AJ:Try.prog.cellsOf 25=1∧Ae Try.prog 25=3∧BR Try.prog 25=69∧AT Try.prog 25=false∧A3 Try.prog 25=none∧Bs Try.prog 25=some (1,false)∧AF Try.prog 25=.nils∧Bt Try.prog 25 = [(0,3)]:=by
 refine ⟨?_,?_,?_,?_,?_,?_,?_,?_⟩ <;> kernel_rfl
theorem AS:Try.prog.cellsOf 27=5∧Ae Try.prog 27=0∧AT Try.prog 27=false∧A3 Try.prog 27=none∧Bs Try.prog 27=some (5,true)∧AF Try.prog 27=.agg [.int .i64 0,.int .i64 0,.int .i64 0,.int .i64 0,.int .i64 0]∧A9 Try.prog 27 0=some (0,1,3)∧A9 Try.prog 27 1=some (1,1,3)∧A9 Try.prog 27 2=some (2,1,3)∧A9 Try.prog 27 3=some (3,1,3)∧A9 Try.prog 27 4=some (4,1,3)∧BH Try.prog 27=none∧Cd Try.prog 27=true∧Bt Try.prog 27 = []:=by
 refine ⟨?_,?_,?_,?_,?_,?_,?_,?_,?_,?_,?_,?_,?_,?_⟩ <;> kernel_rfl
theorem A8:Try.prog.cellsOf 29=8∧Ae Try.prog 29=0∧AT Try.prog 29=false∧A3 Try.prog 29=none∧Bs Try.prog 29=some (8,true)∧AF Try.prog 29=.agg [.int .i64 0,.nils,.nils,.int .i64 0,.int .i64 0,.int .i64 0,.int .i64 0,.int .i64 0]∧A9 Try.prog 29 0=some (0,2,24)∧A9 Try.prog 29 1=some (2,1,25)∧A9 Try.prog 29 2=some (3,5,27)∧BH Try.prog 29=none∧Cd Try.prog 29=true∧Bt Try.prog 29 = [(1,50),(2,3)]:=by
 refine ⟨?_,?_,?_,?_,?_,?_,?_,?_,?_,?_,?_,?_⟩ <;> kernel_rfl
theorem BC:Try.prog.cellsOf 30=1∧Ae Try.prog 30=1∧BR Try.prog 30=43∧AT Try.prog 30=false∧A3 Try.prog 30=none∧Bs Try.prog 30=some (1,false)∧AF Try.prog 30=.nils∧Bt Try.prog 30 = [(0,1)]:=by
 refine ⟨?_,?_,?_,?_,?_,?_,?_,?_⟩ <;> kernel_rfl
theorem aE:Try.prog.cellsOf 34=1∧Ae Try.prog 34=0∧AT Try.prog 34=false∧A3 Try.prog 34=none∧Ff Try.prog 34=some .i64∧Bs Try.prog 34=some (1,false)∧AF Try.prog 34=.int .i64 0∧Bt Try.prog 34 = []:=by
 refine ⟨?_,?_,?_,?_,?_,?_,?_,?_⟩ <;> kernel_rfl
theorem Mn:Try.prog.cellsOf 38=2∧Ae Try.prog 38=0∧AT Try.prog 38=false∧A3 Try.prog 38=none∧Bs Try.prog 38=some (2,true)∧AF Try.prog 38=.agg [.int .i64 0,.int .i64 0]∧A9 Try.prog 38 0=some (0,1,3)∧A9 Try.prog 38 1=some (1,1,34)∧BH Try.prog 38=none∧Cd Try.prog 38=true∧Bt Try.prog 38 = []:=by
 refine ⟨?_,?_,?_,?_,?_,?_,?_,?_,?_,?_,?_⟩ <;> kernel_rfl
theorem AW:Try.prog.cellsOf 43=1∧Ae Try.prog 43=1∧BR Try.prog 43=3∧AT Try.prog 43=false∧A3 Try.prog 43=none∧Bs Try.prog 43=some (1,false)∧AF Try.prog 43=.nils∧Bt Try.prog 43 = [(0,1)]:=by
 refine ⟨?_,?_,?_,?_,?_,?_,?_,?_⟩ <;> kernel_rfl
theorem If:Try.prog.cellsOf 60=24∧Ae Try.prog 60=0∧AT Try.prog 60=false∧A3 Try.prog 60=none∧Bs Try.prog 60=some (24,true)∧AF Try.prog 60=.agg [.int .i64 0,.int .i64 0,.int .i64 0,.int .i64 0,.int .i64 0,.int .i64 0,.int .i64 0,.int .i64 0,.int .i64 0,.int .i64 0,.int .i64 0,.int .i64 0,.int .i64 0,.int .i64 0,.int .i64 0,.int .i64 0,.int .i64 0,.int .i64 0,.int .i64 0,.int .i64 0,.int .i64 0,.int .i64 0,.int .i64 0,.int .i64 0]∧BH Try.prog 60=some (24,1)∧Kh Try.prog 60=some (24,3)∧Cd Try.prog 60=true∧Bt Try.prog 60 = []:=by
 refine ⟨?_,?_,?_,?_,?_,?_,?_,?_,?_,?_⟩ <;> kernel_rfl
theorem Ca:Try.prog.cellsOf 62=50∧Ae Try.prog 62=0∧AT Try.prog 62=false∧A3 Try.prog 62=none∧Bs Try.prog 62=some (50,true)∧AF Try.prog 62=.agg [.int .i64 0,.int .i64 0,.int .i64 0,.int .i64 0,.int .i64 0,.int .i64 0,.int .i64 0,.int .i64 0,.int .i64 0,.int .i64 0,.int .i64 0,.int .i64 0,.int .i64 0,.int .i64 0,.int .i64 0,.int .i64 0,.int .i64 0,.int .i64 0,.int .i64 0,.int .i64 0,.int .i64 0,.int .i64 0,.int .i64 0,.int .i64 0,.int .i64 0,.int .i64 0,.int .i64 0,.int .i64 0,.int .i64 0,.int .i64 0,.int .i64 0,.int .i64 0,.int .i64 0,.int .i64 0,.int .i64 0,.int .i64 0,.int .i64 0,.int .i64 0,.int .i64 0,.int .i64 0,.int .i64 0,.int .i64 0,.int .i64 0,.int .i64 0,.int .i64 0,.int .i64 0,.int .i64 0,.int .i64 0,.int .i64 0,.int .i64 0]∧A9 Try.prog 62 0=some (0,1,3)∧A9 Try.prog 62 1=some (1,1,3)∧A9 Try.prog 62 2=some (2,24,60)∧A9 Try.prog 62 3=some (26,24,60)∧BH Try.prog 62=none∧Cd Try.prog 62=true∧Bt Try.prog 62 = []:=by
 refine ⟨?_,?_,?_,?_,?_,?_,?_,?_,?_,?_,?_,?_,?_⟩ <;> kernel_rfl
theorem BT:Try.prog.cellsOf 69=3∧Ae Try.prog 69=0∧AT Try.prog 69=false∧A3 Try.prog 69=none∧Bs Try.prog 69=some (3,true)∧AF Try.prog 69=.agg [.int .i64 0,.int .i64 0,.int .i64 0]∧A9 Try.prog 69 0=some (0,1,3)∧A9 Try.prog 69 1=some (1,1,3)∧A9 Try.prog 69 2=some (2,1,3)∧BH Try.prog 69=none∧Cd Try.prog 69=true∧Bt Try.prog 69 = []:=by
 refine ⟨?_,?_,?_,?_,?_,?_,?_,?_,?_,?_,?_,?_⟩ <;> kernel_rfl
theorem vQ:Try.prog.cellsOf 72=1∧Ae Try.prog 72=0∧AT Try.prog 72=false∧A3 Try.prog 72=none∧Bs Try.prog 72=some (1,false)∧AF Try.prog 72=.nilf∧Bt Try.prog 72 = []:=by
 refine ⟨?_,?_,?_,?_,?_,?_,?_⟩ <;> kernel_rfl
theorem Gl:Try.prog.cellsOf 78=2∧Ae Try.prog 78=0∧AT Try.prog 78=false∧A3 Try.prog 78=none∧Bs Try.prog 78=some (2,true)∧AF Try.prog 78=.agg [.int .i64 0,.int .i64 0]∧A9 Try.prog 78 0=some (0,1,3)∧A9 Try.prog 78 1=some (1,1,3)∧BH Try.prog 78=none∧Cd Try.prog 78=true∧Bt Try.prog 78 = []:=by
 refine ⟨?_,?_,?_,?_,?_,?_,?_,?_,?_,?_,?_⟩ <;> kernel_rfl
theorem GJ:Try.prog.cellsOf 80=54∧Ae Try.prog 80=0∧AT Try.prog 80=false∧A3 Try.prog 80=none∧Bs Try.prog 80=some (54,true)∧AF Try.prog 80=.agg [.int .i64 0,.int .i64 0,.int .i64 0,.int .i64 0,.int .i64 0,.int .i64 0,.int .i64 0,.int .i64 0,.int .i64 0,.int .i64 0,.int .i64 0,.int .i64 0,.int .i64 0,.int .i64 0,.int .i64 0,.int .i64 0,.int .i64 0,.int .i64 0,.int .i64 0,.int .i64 0,.int .i64 0,.int .i64 0,.int .i64 0,.int .i64 0,.int .i64 0,.int .i64 0,.int .i64 0,.int .i64 0,.int .i64 0,.int .i64 0,.int .i64 0,.int .i64 0,.int .i64 0,.int .i64 0,.int .i64 0,.int .i64 0,.int .i64 0,.int .i64 0,.int .i64 0,.int .i64 0,.int .i64 0,.int .i64 0,.int .i64 0,.int .i64 0,.int .i64 0,.int .i64 0,.int .i64 0,.int .i64 0,.int .i64 0,.int .i64 0,.int .i64 0,.int .i64 0,.int .i64 0,.int .i64 0]∧A9 Try.prog 80 0=some (0,2,78)∧A9 Try.prog 80 1=some (2,50,62)∧A9 Try.prog 80 2=some (52,1,3)∧A9 Try.prog 80 3=some (53,1,3)∧BH Try.prog 80=none∧Cd Try.prog 80=true∧Bt Try.prog 80 = []:=by
 refine ⟨?_,?_,?_,?_,?_,?_,?_,?_,?_,?_,?_,?_,?_⟩ <;> kernel_rfl
theorem Ig:Try.prog.cellsOf 85=1∧Ae Try.prog 85=0∧AT Try.prog 85=false∧A3 Try.prog 85=some (.ints 2,.int .i64 0)∧Bs Try.prog 85=some (1,false)∧AF Try.prog 85=.nilm∧Bt Try.prog 85 = []:=by
 refine ⟨?_,?_,?_,?_,?_,?_,?_⟩ <;> kernel_rfl
theorem SH:Try.prog.cellsOf 88=1∧Ae Try.prog 88=0∧AT Try.prog 88=false∧A3 Try.prog 88=none∧Bs Try.prog 88=some (1,false)∧AF Try.prog 88=.nilp∧Bt Try.prog 88 = []:=by
 refine ⟨?_,?_,?_,?_,?_,?_,?_⟩ <;> kernel_rfl
theorem Qf:Try.prog.cellsOf 89=1∧Ae Try.prog 89=0∧AT Try.prog 89=false∧A3 Try.prog 89=none∧Bs Try.prog 89=some (1,false)∧AF Try.prog 89=.nilf∧Bt Try.prog 89 = []:=by
 refine ⟨?_,?_,?_,?_,?_,?_,?_⟩ <;> kernel_rfl
theorem JA:Try.prog.cellsOf 90=1∧Ae Try.prog 90=0∧AT Try.prog 90=false∧A3 Try.prog 90=none∧Bs Try.prog 90=some (1,false)∧AF Try.prog 90=.nilp∧Bt Try.prog 90 = []:=by
 refine ⟨?_,?_,?_,?_,?_,?_,?_⟩ <;> kernel_rfl
theorem KB:Try.prog.cellsOf 93=1∧Ae Try.prog 93=4∧BR Try.prog 93=97∧AT Try.prog 93=false∧A3 Try.prog 93=none∧Bs Try.prog 93=some (1,false)∧AF Try.prog 93=.nils∧Bt Try.prog 93 = [(0,4)]:=by
 refine ⟨?_,?_,?_,?_,?_,?_,?_,?_⟩ <;> kernel_rfl
theorem GK:Try.prog.cellsOf 95=3∧Ae Try.prog 95=0∧AT Try.prog 95=false∧A3 Try.prog 95=none∧Bs Try.prog 95=some (3,true)∧AF Try.prog 95=.agg [.nils,.nils,.nils]∧A9 Try.prog 95 0=some (0,1,93)∧A9 Try.prog 95 1=some (1,1,30)∧A9 Try.prog 95 2=some (2,1,43)∧BH Try.prog 95=none∧Cd Try.prog 95=true∧Bt Try.prog 95 = [(0,4),(1,1),(2,1)]:=by
 refine ⟨?_,?_,?_,?_,?_,?_,?_,?_,?_,?_,?_,?_⟩ <;> kernel_rfl
theorem Lq:Try.prog.cellsOf 97=4∧Ae Try.prog 97=0∧AT Try.prog 97=false∧A3 Try.prog 97=none∧Bs Try.prog 97=some (4,true)∧AF Try.prog 97=.agg [.int .i64 0,.int .i64 0,.int .i64 0,.int .i64 0]∧A9 Try.prog 97 0=some (0,1,3)∧A9 Try.prog 97 1=some (1,1,3)∧A9 Try.prog 97 2=some (2,1,3)∧A9 Try.prog 97 3=some (3,1,3)∧BH Try.prog 97=none∧Cd Try.prog 97=true∧Bt Try.prog 97 = []:=by
 refine ⟨?_,?_,?_,?_,?_,?_,?_,?_,?_,?_,?_,?_,?_⟩ <;> kernel_rfl
theorem JB:Try.prog.cellsOf 100=1∧Ae Try.prog 100=4∧BR Try.prog 100=103∧AT Try.prog 100=false∧A3 Try.prog 100=none∧Bs Try.prog 100=some (1,false)∧AF Try.prog 100=.nils∧Bt Try.prog 100 = [(0,4)]:=by
 refine ⟨?_,?_,?_,?_,?_,?_,?_,?_⟩ <;> kernel_rfl
theorem Oj:Try.prog.cellsOf 101=1∧Ae Try.prog 101=0∧AT Try.prog 101=false∧A3 Try.prog 101=none∧Bs Try.prog 101=some (1,false)∧AF Try.prog 101=.nilf∧Bt Try.prog 101 = []:=by
 refine ⟨?_,?_,?_,?_,?_,?_,?_⟩ <;> kernel_rfl
theorem Mo:Try.prog.cellsOf 103=4∧Ae Try.prog 103=0∧AT Try.prog 103=false∧A3 Try.prog 103=none∧Bs Try.prog 103=some (4,true)∧AF Try.prog 103=.agg [.int .i64 0,.int .i64 0,.int .i64 0,.int .i64 0]∧A9 Try.prog 103 0=some (0,1,3)∧A9 Try.prog 103 1=some (1,1,3)∧A9 Try.prog 103 2=some (2,1,3)∧A9 Try.prog 103 3=some (3,1,3)∧BH Try.prog 103=none∧Cd Try.prog 103=true∧Bt Try.prog 103 = []:=by
 refine ⟨?_,?_,?_,?_,?_,?_,?_,?_,?_,?_,?_,?_,?_⟩ <;> kernel_rfl
theorem jM:Try.prog.cellsOf 104=1∧Ae Try.prog 104=0∧AT Try.prog 104=false∧A3 Try.prog 104=none∧Bs Try.prog 104=some (1,false)∧AF Try.prog 104=.nilf∧Bt Try.prog 104 = []:=by
 refine ⟨?_,?_,?_,?_,?_,?_,?_⟩ <;> kernel_rfl
theorem WH:Try.prog.cellsOf 110=1∧Ae Try.prog 110=0∧AT Try.prog 110=false∧A3 Try.prog 110=none∧Bs Try.prog 110=some (1,false)∧AF Try.prog 110=.nilf∧Bt Try.prog 110 = []:=by
 refine ⟨?_,?_,?_,?_,?_,?_,?_⟩ <;> kernel_rfl
theorem Ag4:Try.prog.cellsOf 111=1∧Ae Try.prog 111=0∧AT Try.prog 111=false∧A3 Try.prog 111=none∧Ff Try.prog 111=some .u64∧Bs Try.prog 111=some (1,false)∧AF Try.prog 111=.int .u64 0∧Bt Try.prog 111 = []:=by
 refine ⟨?_,?_,?_,?_,?_,?_,?_,?_⟩ <;> kernel_rfl
theorem Ag5:Try.prog.cellsOf 123=1∧Ae Try.prog 123=0∧AT Try.prog 123=false∧A3 Try.prog 123=none∧Ff Try.prog 123=some .u64∧Bs Try.prog 123=some (1,false)∧AF Try.prog 123=.int .u64 0∧Bt Try.prog 123 = []:=by
 refine ⟨?_,?_,?_,?_,?_,?_,?_,?_⟩ <;> kernel_rfl
theorem Mp:Try.prog.cellsOf 130=2∧Ae Try.prog 130=0∧AT Try.prog 130=false∧A3 Try.prog 130=none∧Bs Try.prog 130=some (2,true)∧AF Try.prog 130=.agg [.int .i64 0,.int .i64 0]∧BH Try.prog 130=some (2,1)∧Kh Try.prog 130=some (2,3)∧Cd Try.prog 130=true∧Bt Try.prog 130 = []:=by
 refine ⟨?_,?_,?_,?_,?_,?_,?_,?_,?_,?_⟩ <;> kernel_rfl
theorem jN:Try.prog.cellsOf 131=1∧Ae Try.prog 131=0∧AT Try.prog 131=false∧A3 Try.prog 131=some (.ints 2,.int .i64 0)∧Bs Try.prog 131=some (1,false)∧AF Try.prog 131=.nilm∧Bt Try.prog 131 = []:=by
 refine ⟨?_,?_,?_,?_,?_,?_,?_⟩ <;> kernel_rfl
theorem Mq:Try.prog.cellsOf 135=1∧Ae Try.prog 135=1∧BR Try.prog 135=4∧AT Try.prog 135=false∧A3 Try.prog 135=none∧Bs Try.prog 135=some (1,false)∧AF Try.prog 135=.nils∧Bt Try.prog 135 = [(0,1)]:=by
 refine ⟨?_,?_,?_,?_,?_,?_,?_,?_⟩ <;> kernel_rfl
theorem DE : Try.prog.cellsOf 136 = 1 ∧ Ae Try.prog 136 = 0 ∧ AT Try.prog 136 = false ∧ A3 Try.prog 136 = none ∧ Bs Try.prog 136 = some (1, false) ∧ AF Try.prog 136 = .nilp ∧ Jg Try.prog 136 "Len" = some (81, false, 140) ∧ Jg Try.prog 136 "Less" = some (104, false, 140) ∧ Jg Try.prog 136 "Pop" = some (105, true, 140) ∧ Jg Try.prog 136 "Push" = some (106, true, 140) ∧ Jg Try.prog 136 "Swap" = some (107, false, 140) ∧ Ku Try.prog 136 = true ∧ Bt Try.prog 136 = [] := by
 refine ⟨?_,?_,?_,?_,?_,?_,?_,?_,?_,?_,?_,?_,?_⟩ <;> kernel_rfl
theorem Hk:Try.prog.cellsOf 138=2∧Ae Try.prog 138=0∧AT Try.prog 138=false∧A3 Try.prog 138=none∧Bs Try.prog 138=some (2,true)∧AF Try.prog 138=.agg [.int .i64 0,.int .i64 0]∧A9 Try.prog 138 0=some (0,1,3)∧A9 Try.prog 138 1=some (1,1,3)∧BH Try.prog 138=none∧Cd Try.prog 138=true∧Ku Try.prog 138=true∧Bt Try.prog 138 = []:=by
 refine ⟨?_,?_,?_,?_,?_,?_,?_,?_,?_,?_,?_,?_⟩ <;> kernel_rfl
theorem De:Try.prog.cellsOf 140=1∧Ae Try.prog 140=2∧BR Try.prog 140=138∧AT Try.prog 140=false∧A3 Try.prog 140=none∧Bs Try.prog 140=some (1,false)∧AF Try.prog 140=.nils∧Bt Try.prog 140 = [(0,2)]:=by
 refine ⟨?_,?_,?_,?_,?_,?_,?_,?_⟩ <;> kernel_rfl
theorem Ok:Try.prog.cellsOf 148=1∧Ae Try.prog 148=0∧AT Try.prog 148=false∧A3 Try.prog 148=none∧Bs Try.prog 148=some (1,false)∧AF Try.prog 148=.nili∧Bt Try.prog 148 = []:=by
 refine ⟨?_,?_,?_,?_,?_,?_,?_⟩ <;> kernel_rfl
end Sim
namespace Sim
open Go
def bdD:=(And.intro (And.intro (And.intro (And.intro (And.intro (And.intro @uO @Ach) (And.intro @gX (And.intro @uP @Aci))) (And.intro (And.intro @ZJ (And.intro @uQ
 @cP)) (And.intro @cQ (And.intro @rP @L4)))) (And.intro (And.intro (And.intro @cR @cT) (And.intro @cU (And.intro @rQ @Yn))) (And.intro (And.intro
 @Yo (And.intro @cV @cW)) (And.intro @cX (And.intro @cZ @rR))))) (And.intro (And.intro (And.intro (And.intro @Pw @IK) (And.intro @Ko (And.intro
 @Z5 @ZY))) (And.intro (And.intro @VL (And.intro @aA @VV)) (And.intro @aB (And.intro @VS @SA)))) (And.intro (And.intro (And.intro
 @ZZ (And.intro @IQ @rT)) (And.intro @cN (And.intro @Abk @RU))) (And.intro (And.intro @HV (And.intro @Abo @Abp)) (And.intro @sX (And.intro @Abq
 @sY)))))) (And.intro (And.intro (And.intro (And.intro (And.intro @sZ @tA) (And.intro @tB (And.intro @Abr @tC))) (And.intro (And.intro @Y2 (And.intro @fG
 @Vb)) (And.intro @Vc (And.intro @Vd @R9)))) (And.intro (And.intro (And.intro @fH (And.intro @Y3 @tF)) (And.intro @Y5 (And.intro
 @Mf @fK))) (And.intro (And.intro @Y6 (And.intro @PS @Zb)) (And.intro @fL (And.intro @Sa @PT))))) (And.intro (And.intro (And.intro
 (And.intro @NF @Zc) (And.intro @NG (And.intro @Zi @NH))) (And.intro (And.intro @Zj (And.intro @Sc @Kv)) (And.intro @Zk
 (And.intro @Zh @Sq)))) (And.intro (And.intro (And.intro @P6 (And.intro @VF @NK)) (And.intro @P7 (And.intro @Mi @VG)))
 (And.intro (And.intro @ZP (And.intro @ZQ @fM)) (And.intro @tJ (And.intro @fI @tH)))))))
def bdP:=(And.intro (And.intro (And.intro (And.intro (And.intro (And.intro (And.intro (And.intro (And.intro @gY @Nat.one_ne_zero) (And.intro @jH @vJ)) (And.intro (And.intro
 @Z6 @vK) (And.intro @iN @Acl))) (And.intro (And.intro (And.intro @iO @NO) (And.intro @Z7 @vL)) (And.intro (And.intro @iP @Sw)
 (And.intro @iQ @iR)))) (And.intro (And.intro (And.intro (And.intro @iT @Z8) (And.intro @iU @iV)) (And.intro (And.intro @VN @Z2) (And.intro
 @Z3 @iL))) (And.intro (And.intro (And.intro @Z4 @iM) (And.intro @Ack @vH)) (And.intro (And.intro @vI @vM) (And.intro @VO @Ky)))))
 (And.intro (And.intro (And.intro (And.intro (And.intro @Sx @VP) (And.intro @Qa @iW)) (And.intro (And.intro @Qb @iX) (And.intro @Qc
 @iZ))) (And.intro (And.intro (And.intro @Z9 @Qd) (And.intro @Sy @NP)) (And.intro (And.intro @jA @jB) (And.intro @NQ @VQ))))
 (And.intro (And.intro (And.intro (And.intro @jC @jD) (And.intro @jE @jF)) (And.intro (And.intro @jG @Sz) (And.intro @Acm @Uu))) (And.intro
 (And.intro (And.intro @Uv @dB) (And.intro @Yp @Abl)) (And.intro (And.intro @rU @Ut) (And.intro @Rs (And.intro @Rr @Yh))))))) (And.intro
 (And.intro (And.intro (And.intro (And.intro (And.intro @Yi @Yj) (And.intro @Yk @Option.map_some.{0,0})) (And.intro (And.intro @Option.map_none.{0,0} @Option.bind_some.{0,0})
 (And.intro @Option.bind_none.{0,0} @Option.getD_some.{0}))) (And.intro (And.intro (And.intro @Option.getD_none.{0} @Bool.false_eq_true) (And.intro @true_and @and_true)) (And.intro (And.intro
 @List.getD_cons_zero.{0} @List.getD_cons_succ.{0}) (And.intro @List.getElem?_toArray.{0} @List.getElem?_cons_zero.{0})))) (And.intro (And.intro (And.intro (And.intro @List.getElem?_cons_succ.{0}
 @decide_eq_true_eq) (And.intro @decide_eq_false_iff_not @true_implies)) (And.intro (And.intro @forall_const.{1} @forall_const.{0}) (And.intro @sG @Aga))) (And.intro (And.intro (And.intro
 @sB @dR) (And.intro @sD @sC)) (And.intro (And.intro @YF @dT) (And.intro @List.map_cons.{0,0} (And.intro @List.map_nil.{0,0} @List.length_map.{0,0})))))) (And.intro
 (And.intro (And.intro (And.intro (And.intro @YH @RV) (And.intro @UR @List.contains_cons.{0})) (And.intro (And.intro @List.contains_nil.{0} @Bool.or_false) (And.intro
 @Bool.or_true @Bool.false_or))) (And.intro (And.intro (And.intro @Bool.true_or @Int.natCast_nonneg) (And.intro @Int.ofNat_lt @Int.toNat_natCast)) (And.intro (And.intro @sE @sF) (And.intro
 @decide_true @decide_false)))) (And.intro (And.intro (And.intro (And.intro @Option.some.injEq.{0} @exists_eq_left'.{1}) (And.intro @PV.int.injEq @PV.bool.injEq)) (And.intro (And.intro @PV.str.injEq
 @PV.lits.injEq) (And.intro @PV.tuple.injEq @PV.agg.injEq))) (And.intro (And.intro (And.intro @List.cons.injEq.{0} @List.lookup_cons.{0,0}) (And.intro @List.lookup_nil.{0,0} @UO)) (And.intro
 (And.intro @Agb @Agc) (And.intro @Agd (And.intro @Agg @Age)))))))) (And.intro (And.intro (And.intro (And.intro (And.intro (And.intro (And.intro @Agf @YG) (And.intro @UP
 @Hh)) (And.intro (And.intro @dU @Bool.and_true) (And.intro @Bool.and_self @Bool.true_and))) (And.intro (And.intro (And.intro @List.cons_append.{0} @List.nil_append.{0}) (And.intro
 @List.append_nil.{0} @Abn)) (And.intro (And.intro @Of @PO) (And.intro @List.length_append.{0} @List.length_cons.{0})))) (And.intro (And.intro (And.intro (And.intro
 @List.length_nil.{0} @Nat.zero_add) (And.intro @Nat.add_zero @List.drop_zero.{0})) (And.intro (And.intro @List.take_length.{0} @List.take_zero.{0}) (And.intro @Nat.not_succ_le_self
 @List.replicate_succ.{0}))) (And.intro (And.intro (And.intro @List.replicate_zero.{0} @List.length_replicate.{0}) (And.intro @List.set_cons_zero.{0} @List.set_cons_succ.{0})) (And.intro (And.intro
 @dV @dW) (And.intro @Prod.mk.injEq.{0,0} (And.intro @IObj.arr.injEq @Nat.lt_irrefl)))))) (And.intro (And.intro (And.intro (And.intro (And.intro @Nat.lt_succ_self @Bool.not_true)
 (And.intro @Bool.not_false @not_true_eq_false)) (And.intro (And.intro @not_false_eq_true @false_implies) (And.intro @PN @or_false))) (And.intro (And.intro (And.intro @or_true @Nat.le_refl)
 (And.intro @Classical.not_not @US)) (And.intro (And.intro @UT @YI) (And.intro @dX @dY)))) (And.intro (And.intro (And.intro (And.intro @dZ @RY)
 (And.intro @YJ @YK)) (And.intro (And.intro @eA @Fm) (And.intro @sH @sJ))) (And.intro (And.intro (And.intro @UU @YL) (And.intro @YM
 @eB)) (And.intro (And.intro @sK @sL) (And.intro @sM (And.intro @UV @UW))))))) (And.intro (And.intro (And.intro (And.intro (And.intro (And.intro @UX
 @YN) (And.intro @eC @eD)) (And.intro (And.intro @eE @YO) (And.intro @UY @RZ))) (And.intro (And.intro (And.intro @eG @eH) (And.intro
 @UZ @U0)) (And.intro (And.intro @YP @eI) (And.intro @eJ @eK)))) (And.intro (And.intro (And.intro (And.intro @R3 @U1) (And.intro @U2
 @YQ)) (And.intro (And.intro @Me @eM) (And.intro @eN @R4))) (And.intro (And.intro (And.intro @YR @sP) (And.intro @YT @sQ)) (And.intro
 (And.intro @sR @U3) (And.intro @R5 (And.intro @eO @eQ)))))) (And.intro (And.intro (And.intro (And.intro (And.intro @U4 @U5) (And.intro @YU
 @eR)) (And.intro (And.intro @eS @eU) (And.intro @R6 @R7))) (And.intro (And.intro (And.intro @U6 @U7) (And.intro @YV @eV)) (And.intro
 (And.intro @eW @eX) (And.intro @R8 @YW)))) (And.intro (And.intro (And.intro (And.intro @eY @Jw) (And.intro @sS @U8)) (And.intro (And.intro
 @YX @U9) (And.intro @VT @VU))) (And.intro (And.intro (And.intro @SC @SD) (And.intro @NR @NS)) (And.intro (And.intro @Va
 @YY) (And.intro @eZ (And.intro @fA @fB))))))))) (And.intro (And.intro (And.intro (And.intro (And.intro (And.intro (And.intro (And.intro @sT @fC) (And.intro
 @sU @NB)) (And.intro (And.intro @NC @fD) (And.intro @sV @sW))) (And.intro (And.intro (And.intro @YZ @Y0) (And.intro @fE @Abs))
 (And.intro (And.intro @tD @tE) (And.intro @Abt @fF)))) (And.intro (And.intro (And.intro (And.intro @Ve @Za) (And.intro @fN @fO)) (And.intro (And.intro
 @tK @Vf) (And.intro @tL @tM))) (And.intro (And.intro (And.intro @tO @tP) (And.intro @fT @fU)) (And.intro (And.intro @fV @Vj) (And.intro
 @Vi @Jx))))) (And.intro (And.intro (And.intro (And.intro (And.intro @Mg @fS) (And.intro @fQ @Y7)) (And.intro (And.intro @Y9 @Y8)
 (And.intro @Vg @Vh))) (And.intro (And.intro (And.intro @Zd @Ze) (And.intro @Zf @Zg)) (And.intro (And.intro @List.all_cons.{0} @List.all_nil.{0})
 (And.intro @fR @Sd)))) (And.intro (And.intro (And.intro (And.intro @Vk @Ab0) (And.intro @Zm @ZS)) (And.intro (And.intro @ZT @tT) (And.intro
 @ZW @ZX))) (And.intro (And.intro (And.intro @VI @VJ) (And.intro @Sr @P8)) (And.intro (And.intro @NN @vG) (And.intro @Su
 (And.intro @Ss @St))))))) (And.intro (And.intro (And.intro (And.intro (And.intro (And.intro @NL @NM) (And.intro @iJ @iK)) (And.intro (And.intro
 @ZR @ZU) (And.intro @ZV @VH))) (And.intro (And.intro (And.intro @Zn @PU) (And.intro @ND @NE)) (And.intro (And.intro @Abv
 @Ab1) (And.intro @Ab2 @tU)))) (And.intro (And.intro (And.intro (And.intro @Zo @fX) (And.intro @fY @Zp)) (And.intro (And.intro @Zq @Ab3) (And.intro
 @tW @tX))) (And.intro (And.intro (And.intro @fZ @gB) (And.intro @tY @gC)) (And.intro (And.intro @gD @tZ) (And.intro @gE (And.intro @gF
 @Zr)))))) (And.intro (And.intro (And.intro (And.intro (And.intro @Zs @gG) (And.intro @uA @uB)) (And.intro (And.intro @Vl @Zu) (And.intro @PX
 @PY))) (And.intro (And.intro (And.intro @NI @NJ) (And.intro @PZ @Vm)) (And.intro (And.intro @Se @Vn) (And.intro @Sf
 @Vo)))) (And.intro (And.intro (And.intro (And.intro @Sg @Vp) (And.intro @Vq @Vr)) (And.intro (And.intro @Zv @Zw) (And.intro @gH
 @gI))) (And.intro (And.intro (And.intro @Sh @Si) (And.intro @Vs @Vt)) (And.intro (And.intro @Sj @Sk) (And.intro @Vu (And.intro
 @Vv @Sl)))))))) (And.intro (And.intro (And.intro (And.intro (And.intro (And.intro (And.intro @gJ @P1) (And.intro @Sm @Agn)) (And.intro (And.intro @Ago
 @Agp) (And.intro @Agq @Agr))) (And.intro (And.intro (And.intro @Ags @Aig) (And.intro @Agt @gL)) (And.intro (And.intro @Agu @Agv) (And.intro @Agw @Agx)))) (And.intro
 (And.intro (And.intro (And.intro @Agy @Agz) (And.intro @Ag0 @Ag1)) (And.intro (And.intro @Ab6 @Ab7) (And.intro @Ab8 @Ab9))) (And.intro (And.intro (And.intro @Aca @Acb)
 (And.intro @Acc @Ag2)) (And.intro (And.intro @Ag3 @Acf) (And.intro @Acg (And.intro @gM @Zx)))))) (And.intro (And.intro (And.intro (And.intro (And.intro @Vw
 @Zy) (And.intro @Zz @ZA)) (And.intro (And.intro @uD @gR) (And.intro @ZB @uE))) (And.intro (And.intro (And.intro @uF @uG) (And.intro @uH
 @Sn)) (And.intro (And.intro @P3 @So) (And.intro @P4 @uK)))) (And.intro (And.intro (And.intro (And.intro @uJ @uI) (And.intro @gU @gV))
 (And.intro (And.intro @ZC @Vx) (And.intro @ZD @ZE))) (And.intro (And.intro (And.intro @ZF @ZG) (And.intro @Vy @Vz)) (And.intro (And.intro
 @VA @ZH) (And.intro @VB (And.intro @ZI @gW))))))) (And.intro (And.intro (And.intro (And.intro (And.intro (And.intro @uL @uM) (And.intro @Dt
 @FI)) (And.intro (And.intro @Int.natCast_eq_zero @Ab5) (And.intro @Zt @fW))) (And.intro (And.intro (And.intro @tS @tG) (And.intro @tI @beq_eq_false_iff_ne.{0}))
 (And.intro (And.intro @ne_eq.{1} @uS) (And.intro @ZK @Int.natCast_inj)))) (And.intro (And.intro (And.intro (And.intro @List.take_succ_cons.{0} @List.drop_succ_cons.{0}) (And.intro
 @List.drop_nil.{0} @List.take_nil.{0})) (And.intro (And.intro @ZL @ZM) (And.intro @uT @uU))) (And.intro (And.intro (And.intro @uV @implies_true.{1}) (And.intro
 @implies_true.{0} @Int.natCast_zero)) (And.intro (And.intro @gZ @ZN) (And.intro @Sp (And.intro @P5 @VE)))))) (And.intro (And.intro (And.intro (And.intro
 (And.intro @ZO @uW) (And.intro @uX @hZ)) (And.intro (And.intro @uY @iA) (And.intro @iB @uZ))) (And.intro (And.intro (And.intro @iC @vA)
 (And.intro @vB @vC)) (And.intro (And.intro @iD @vD) (And.intro @iE @iF)))) (And.intro (And.intro (And.intro (And.intro @Int.le_refl @Int.natCast_pos) (And.intro
 @beq_self_eq_true.{0} @beq_iff_eq.{0})) (And.intro (And.intro @Abw @tR) (And.intro @tQ @false_and))) (And.intro (And.intro (And.intro @and_false @Bool.true_eq_false) (And.intro
 @iG @iH)) (And.intro (And.intro @iI @vE) (And.intro @Acj (And.intro @Nat.min_def @Int.cast_ofNat_Int))))))))))
end Sim
