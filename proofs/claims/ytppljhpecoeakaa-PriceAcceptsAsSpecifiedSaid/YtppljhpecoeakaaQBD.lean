/- What functions of this seat compute, by values: contracts (lemmas of the statement's proof, under the conditions that each names). -/
import Derived.Test.YtppljhpecoeakaaSimX
import Derived.Test.YtppljhpecoeakaaProg
import Derived.KernelRfl
set_option maxRecDepth 100000
set_option linter.defProp false
namespace Sim
open Go Go.Proofs
theorem ty3:Try.prog.cellsOf 3=1∧Ae Try.prog 3=0∧AT Try.prog 3=false∧AZ Try.prog 3=none∧Fl Try.prog 3=some .i64∧BC Try.prog 3=some (1,false)∧AJ Try.prog 3=.int .i64 0∧Bz Try.prog 3 = []:=by
 refine ⟨?_,?_,?_,?_,?_,?_,?_,?_⟩ <;> kernel_rfl
theorem ty4:Try.prog.cellsOf 4=1∧Ae Try.prog 4=0∧AT Try.prog 4=false∧AZ Try.prog 4=none∧Ha Try.prog 4=true∧BC Try.prog 4=some (1,false)∧AJ Try.prog 4=.bool false∧Bz Try.prog 4 = []:=by
 refine ⟨?_,?_,?_,?_,?_,?_,?_,?_⟩ <;> kernel_rfl
theorem Aec:Try.prog.cellsOf 20=1∧Ae Try.prog 20=0∧AT Try.prog 20=false∧AZ Try.prog 20=none∧BC Try.prog 20=some (1,false)∧AJ Try.prog 20=.nili∧Bz Try.prog 20 = []:=by
 refine ⟨?_,?_,?_,?_,?_,?_,?_⟩ <;> kernel_rfl
theorem Bq:Try.prog.cellsOf 22=1∧Ae Try.prog 22=50∧BY Try.prog 22=62∧AT Try.prog 22=false∧AZ Try.prog 22=none∧BC Try.prog 22=some (1,false)∧AJ Try.prog 22=.nils∧Bz Try.prog 22 = [(0,50)]:=by
 refine ⟨?_,?_,?_,?_,?_,?_,?_,?_⟩ <;> kernel_rfl
theorem Aq:Try.prog.cellsOf 24=2∧Ae Try.prog 24=0∧AT Try.prog 24=false∧AZ Try.prog 24=none∧BC Try.prog 24=some (2,true)∧AJ Try.prog 24=.agg [.int .i64 0,.nils]∧Bb Try.prog 24 0=some (0,1,3)∧Bb Try.prog 24 1=some (1,1,22)∧BO Try.prog 24=none∧Ce Try.prog 24=true∧Bz Try.prog 24 = [(1,50)]:=by
 refine ⟨?_,?_,?_,?_,?_,?_,?_,?_,?_,?_,?_⟩ <;> kernel_rfl
theorem AB:Try.prog.cellsOf 25=1∧Ae Try.prog 25=3∧BY Try.prog 25=69∧AT Try.prog 25=false∧AZ Try.prog 25=none∧BC Try.prog 25=some (1,false)∧AJ Try.prog 25=.nils∧Bz Try.prog 25 = [(0,3)]:=by
 refine ⟨?_,?_,?_,?_,?_,?_,?_,?_⟩ <;> kernel_rfl
theorem AP:Try.prog.cellsOf 27=5∧Ae Try.prog 27=0∧AT Try.prog 27=false∧AZ Try.prog 27=none∧BC Try.prog 27=some (5,true)∧AJ Try.prog 27=.agg [.int .i64 0,.int .i64 0,.int .i64 0,.int .i64 0,.int .i64 0]∧Bb Try.prog 27 0=some (0,1,3)∧Bb Try.prog 27 1=some (1,1,3)∧Bb Try.prog 27 2=some (2,1,3)∧Bb Try.prog 27 3=some (3,1,3)∧Bb Try.prog 27 4=some (4,1,3)∧BO Try.prog 27=none∧Ce Try.prog 27=true∧Bz Try.prog 27 = []:=by
 refine ⟨?_,?_,?_,?_,?_,?_,?_,?_,?_,?_,?_,?_,?_,?_⟩ <;> kernel_rfl
theorem A6:Try.prog.cellsOf 29=8∧Ae Try.prog 29=0∧AT Try.prog 29=false∧AZ Try.prog 29=none∧BC Try.prog 29=some (8,true)∧AJ Try.prog 29=.agg [.int .i64 0,.nils,.nils,.int .i64 0,.int .i64 0,.int .i64 0,.int .i64 0,.int .i64 0]∧Bb Try.prog 29 0=some (0,2,24)∧Bb Try.prog 29 1=some (2,1,25)∧Bb Try.prog 29 2=some (3,5,27)∧BO Try.prog 29=none∧Ce Try.prog 29=true∧Bz Try.prog 29 = [(1,50),(2,3)]:=by
 refine ⟨?_,?_,?_,?_,?_,?_,?_,?_,?_,?_,?_,?_⟩ <;> kernel_rfl
theorem A8:Try.prog.cellsOf 30=1∧Ae Try.prog 30=1∧BY Try.prog 30=43∧AT Try.prog 30=false∧AZ Try.prog 30=none∧BC Try.prog 30=some (1,false)∧AJ Try.prog 30=.nils∧Bz Try.prog 30 = [(0,1)]:=by
 refine ⟨?_,?_,?_,?_,?_,?_,?_,?_⟩ <;> kernel_rfl
theorem lM:Try.prog.cellsOf 34=1∧Ae Try.prog 34=0∧AT Try.prog 34=false∧AZ Try.prog 34=none∧Fl Try.prog 34=some .i64∧BC Try.prog 34=some (1,false)∧AJ Try.prog 34=.int .i64 0∧Bz Try.prog 34 = []:=by
 refine ⟨?_,?_,?_,?_,?_,?_,?_,?_⟩ <;> kernel_rfl
theorem Td:Try.prog.cellsOf 38=2∧Ae Try.prog 38=0∧AT Try.prog 38=false∧AZ Try.prog 38=none∧BC Try.prog 38=some (2,true)∧AJ Try.prog 38=.agg [.int .i64 0,.int .i64 0]∧Bb Try.prog 38 0=some (0,1,3)∧Bb Try.prog 38 1=some (1,1,34)∧BO Try.prog 38=none∧Ce Try.prog 38=true∧Bz Try.prog 38 = []:=by
 refine ⟨?_,?_,?_,?_,?_,?_,?_,?_,?_,?_,?_⟩ <;> kernel_rfl
theorem AY:Try.prog.cellsOf 43=1∧Ae Try.prog 43=1∧BY Try.prog 43=3∧AT Try.prog 43=false∧AZ Try.prog 43=none∧BC Try.prog 43=some (1,false)∧AJ Try.prog 43=.nils∧Bz Try.prog 43 = [(0,1)]:=by
 refine ⟨?_,?_,?_,?_,?_,?_,?_,?_⟩ <;> kernel_rfl
theorem GY:Try.prog.cellsOf 60=24∧Ae Try.prog 60=0∧AT Try.prog 60=false∧AZ Try.prog 60=none∧BC Try.prog 60=some (24,true)∧AJ Try.prog 60=.agg [.int .i64 0,.int .i64 0,.int .i64 0,.int .i64 0,.int .i64 0,.int .i64 0,.int .i64 0,.int .i64 0,.int .i64 0,.int .i64 0,.int .i64 0,.int .i64 0,.int .i64 0,.int .i64 0,.int .i64 0,.int .i64 0,.int .i64 0,.int .i64 0,.int .i64 0,.int .i64 0,.int .i64 0,.int .i64 0,.int .i64 0,.int .i64 0]∧BO Try.prog 60=some (24,1)∧Kp Try.prog 60=some (24,3)∧Ce Try.prog 60=true∧Bz Try.prog 60 = []:=by
 refine ⟨?_,?_,?_,?_,?_,?_,?_,?_,?_,?_⟩ <;> kernel_rfl
theorem B0:Try.prog.cellsOf 62=50∧Ae Try.prog 62=0∧AT Try.prog 62=false∧AZ Try.prog 62=none∧BC Try.prog 62=some (50,true)∧AJ Try.prog 62=.agg [.int .i64 0,.int .i64 0,.int .i64 0,.int .i64 0,.int .i64 0,.int .i64 0,.int .i64 0,.int .i64 0,.int .i64 0,.int .i64 0,.int .i64 0,.int .i64 0,.int .i64 0,.int .i64 0,.int .i64 0,.int .i64 0,.int .i64 0,.int .i64 0,.int .i64 0,.int .i64 0,.int .i64 0,.int .i64 0,.int .i64 0,.int .i64 0,.int .i64 0,.int .i64 0,.int .i64 0,.int .i64 0,.int .i64 0,.int .i64 0,.int .i64 0,.int .i64 0,.int .i64 0,.int .i64 0,.int .i64 0,.int .i64 0,.int .i64 0,.int .i64 0,.int .i64 0,.int .i64 0,.int .i64 0,.int .i64 0,.int .i64 0,.int .i64 0,.int .i64 0,.int .i64 0,.int .i64 0,.int .i64 0,.int .i64 0,.int .i64 0]∧Bb Try.prog 62 0=some (0,1,3)∧Bb Try.prog 62 1=some (1,1,3)∧Bb Try.prog 62 2=some (2,24,60)∧Bb Try.prog 62 3=some (26,24,60)∧BO Try.prog 62=none∧Ce Try.prog 62=true∧Bz Try.prog 62 = []:=by
 refine ⟨?_,?_,?_,?_,?_,?_,?_,?_,?_,?_,?_,?_,?_⟩ <;> kernel_rfl
theorem Bv:Try.prog.cellsOf 69=3∧Ae Try.prog 69=0∧AT Try.prog 69=false∧AZ Try.prog 69=none∧BC Try.prog 69=some (3,true)∧AJ Try.prog 69=.agg [.int .i64 0,.int .i64 0,.int .i64 0]∧Bb Try.prog 69 0=some (0,1,3)∧Bb Try.prog 69 1=some (1,1,3)∧Bb Try.prog 69 2=some (2,1,3)∧BO Try.prog 69=none∧Ce Try.prog 69=true∧Bz Try.prog 69 = []:=by
 refine ⟨?_,?_,?_,?_,?_,?_,?_,?_,?_,?_,?_,?_⟩ <;> kernel_rfl
theorem yB:Try.prog.cellsOf 72=1∧Ae Try.prog 72=0∧AT Try.prog 72=false∧AZ Try.prog 72=none∧BC Try.prog 72=some (1,false)∧AJ Try.prog 72=.nilf∧Bz Try.prog 72 = []:=by
 refine ⟨?_,?_,?_,?_,?_,?_,?_⟩ <;> kernel_rfl
theorem Gz:Try.prog.cellsOf 78=2∧Ae Try.prog 78=0∧AT Try.prog 78=false∧AZ Try.prog 78=none∧BC Try.prog 78=some (2,true)∧AJ Try.prog 78=.agg [.int .i64 0,.int .i64 0]∧Bb Try.prog 78 0=some (0,1,3)∧Bb Try.prog 78 1=some (1,1,3)∧BO Try.prog 78=none∧Ce Try.prog 78=true∧Bz Try.prog 78 = []:=by
 refine ⟨?_,?_,?_,?_,?_,?_,?_,?_,?_,?_,?_⟩ <;> kernel_rfl
theorem GZ:Try.prog.cellsOf 80=54∧Ae Try.prog 80=0∧AT Try.prog 80=false∧AZ Try.prog 80=none∧BC Try.prog 80=some (54,true)∧AJ Try.prog 80=.agg [.int .i64 0,.int .i64 0,.int .i64 0,.int .i64 0,.int .i64 0,.int .i64 0,.int .i64 0,.int .i64 0,.int .i64 0,.int .i64 0,.int .i64 0,.int .i64 0,.int .i64 0,.int .i64 0,.int .i64 0,.int .i64 0,.int .i64 0,.int .i64 0,.int .i64 0,.int .i64 0,.int .i64 0,.int .i64 0,.int .i64 0,.int .i64 0,.int .i64 0,.int .i64 0,.int .i64 0,.int .i64 0,.int .i64 0,.int .i64 0,.int .i64 0,.int .i64 0,.int .i64 0,.int .i64 0,.int .i64 0,.int .i64 0,.int .i64 0,.int .i64 0,.int .i64 0,.int .i64 0,.int .i64 0,.int .i64 0,.int .i64 0,.int .i64 0,.int .i64 0,.int .i64 0,.int .i64 0,.int .i64 0,.int .i64 0,.int .i64 0,.int .i64 0,.int .i64 0,.int .i64 0,.int .i64 0]∧Bb Try.prog 80 0=some (0,2,78)∧Bb Try.prog 80 1=some (2,50,62)∧Bb Try.prog 80 2=some (52,1,3)∧Bb Try.prog 80 3=some (53,1,3)∧BO Try.prog 80=none∧Ce Try.prog 80=true∧Bz Try.prog 80 = []:=by
 refine ⟨?_,?_,?_,?_,?_,?_,?_,?_,?_,?_,?_,?_,?_⟩ <;> kernel_rfl
theorem lN:Try.prog.cellsOf 83=2∧Ae Try.prog 83=0∧AT Try.prog 83=false∧AZ Try.prog 83=none∧BC Try.prog 83=some (2,true)∧AJ Try.prog 83=.agg [.int .i64 0,.int .i64 0]∧Bb Try.prog 83 0=some (0,1,3)∧Bb Try.prog 83 1=some (1,1,34)∧BO Try.prog 83=none∧Ce Try.prog 83=true∧Bz Try.prog 83 = []:=by
 refine ⟨?_,?_,?_,?_,?_,?_,?_,?_,?_,?_,?_⟩ <;> kernel_rfl
theorem Ir:Try.prog.cellsOf 85=1∧Ae Try.prog 85=0∧AT Try.prog 85=false∧AZ Try.prog 85=some (.ints 2,.int .i64 0)∧BC Try.prog 85=some (1,false)∧AJ Try.prog 85=.nilm∧Bz Try.prog 85 = []:=by
 refine ⟨?_,?_,?_,?_,?_,?_,?_⟩ <;> kernel_rfl
theorem Te:Try.prog.cellsOf 88=1∧Ae Try.prog 88=0∧AT Try.prog 88=false∧AZ Try.prog 88=none∧BC Try.prog 88=some (1,false)∧AJ Try.prog 88=.nilp∧Bz Try.prog 88 = []:=by
 refine ⟨?_,?_,?_,?_,?_,?_,?_⟩ <;> kernel_rfl
theorem QD:Try.prog.cellsOf 89=1∧Ae Try.prog 89=0∧AT Try.prog 89=false∧AZ Try.prog 89=none∧BC Try.prog 89=some (1,false)∧AJ Try.prog 89=.nilf∧Bz Try.prog 89 = []:=by
 refine ⟨?_,?_,?_,?_,?_,?_,?_⟩ <;> kernel_rfl
theorem JJ:Try.prog.cellsOf 90=1∧Ae Try.prog 90=0∧AT Try.prog 90=false∧AZ Try.prog 90=none∧BC Try.prog 90=some (1,false)∧AJ Try.prog 90=.nilp∧Bz Try.prog 90 = []:=by
 refine ⟨?_,?_,?_,?_,?_,?_,?_⟩ <;> kernel_rfl
theorem KJ:Try.prog.cellsOf 93=1∧Ae Try.prog 93=4∧BY Try.prog 93=97∧AT Try.prog 93=false∧AZ Try.prog 93=none∧BC Try.prog 93=some (1,false)∧AJ Try.prog 93=.nils∧Bz Try.prog 93 = [(0,4)]:=by
 refine ⟨?_,?_,?_,?_,?_,?_,?_,?_⟩ <;> kernel_rfl
theorem G5:Try.prog.cellsOf 95=3∧Ae Try.prog 95=0∧AT Try.prog 95=false∧AZ Try.prog 95=none∧BC Try.prog 95=some (3,true)∧AJ Try.prog 95=.agg [.nils,.nils,.nils]∧Bb Try.prog 95 0=some (0,1,93)∧Bb Try.prog 95 1=some (1,1,30)∧Bb Try.prog 95 2=some (2,1,43)∧BO Try.prog 95=none∧Ce Try.prog 95=true∧Bz Try.prog 95 = [(0,4),(1,1),(2,1)]:=by
 refine ⟨?_,?_,?_,?_,?_,?_,?_,?_,?_,?_,?_,?_⟩ <;> kernel_rfl
theorem Ly:Try.prog.cellsOf 97=4∧Ae Try.prog 97=0∧AT Try.prog 97=false∧AZ Try.prog 97=none∧BC Try.prog 97=some (4,true)∧AJ Try.prog 97=.agg [.int .i64 0,.int .i64 0,.int .i64 0,.int .i64 0]∧Bb Try.prog 97 0=some (0,1,3)∧Bb Try.prog 97 1=some (1,1,3)∧Bb Try.prog 97 2=some (2,1,3)∧Bb Try.prog 97 3=some (3,1,3)∧BO Try.prog 97=none∧Ce Try.prog 97=true∧Bz Try.prog 97 = []:=by
 refine ⟨?_,?_,?_,?_,?_,?_,?_,?_,?_,?_,?_,?_,?_⟩ <;> kernel_rfl
theorem JK:Try.prog.cellsOf 100=1∧Ae Try.prog 100=4∧BY Try.prog 100=103∧AT Try.prog 100=false∧AZ Try.prog 100=none∧BC Try.prog 100=some (1,false)∧AJ Try.prog 100=.nils∧Bz Try.prog 100 = [(0,4)]:=by
 refine ⟨?_,?_,?_,?_,?_,?_,?_,?_⟩ <;> kernel_rfl
theorem Oy:Try.prog.cellsOf 101=1∧Ae Try.prog 101=0∧AT Try.prog 101=false∧AZ Try.prog 101=none∧BC Try.prog 101=some (1,false)∧AJ Try.prog 101=.nilf∧Bz Try.prog 101 = []:=by
 refine ⟨?_,?_,?_,?_,?_,?_,?_⟩ <;> kernel_rfl
theorem Mw:Try.prog.cellsOf 103=4∧Ae Try.prog 103=0∧AT Try.prog 103=false∧AZ Try.prog 103=none∧BC Try.prog 103=some (4,true)∧AJ Try.prog 103=.agg [.int .i64 0,.int .i64 0,.int .i64 0,.int .i64 0]∧Bb Try.prog 103 0=some (0,1,3)∧Bb Try.prog 103 1=some (1,1,3)∧Bb Try.prog 103 2=some (2,1,3)∧Bb Try.prog 103 3=some (3,1,3)∧BO Try.prog 103=none∧Ce Try.prog 103=true∧Bz Try.prog 103 = []:=by
 refine ⟨?_,?_,?_,?_,?_,?_,?_,?_,?_,?_,?_,?_,?_⟩ <;> kernel_rfl
theorem lO:Try.prog.cellsOf 104=1∧Ae Try.prog 104=0∧AT Try.prog 104=false∧AZ Try.prog 104=none∧BC Try.prog 104=some (1,false)∧AJ Try.prog 104=.nilf∧Bz Try.prog 104 = []:=by
 refine ⟨?_,?_,?_,?_,?_,?_,?_⟩ <;> kernel_rfl
theorem Xg:Try.prog.cellsOf 110=1∧Ae Try.prog 110=0∧AT Try.prog 110=false∧AZ Try.prog 110=none∧BC Try.prog 110=some (1,false)∧AJ Try.prog 110=.nilf∧Bz Try.prog 110 = []:=by
 refine ⟨?_,?_,?_,?_,?_,?_,?_⟩ <;> kernel_rfl
theorem Aiw:Try.prog.cellsOf 111=1∧Ae Try.prog 111=0∧AT Try.prog 111=false∧AZ Try.prog 111=none∧Fl Try.prog 111=some .u64∧BC Try.prog 111=some (1,false)∧AJ Try.prog 111=.int .u64 0∧Bz Try.prog 111 = []:=by
 refine ⟨?_,?_,?_,?_,?_,?_,?_,?_⟩ <;> kernel_rfl
theorem Aix:Try.prog.cellsOf 123=1∧Ae Try.prog 123=0∧AT Try.prog 123=false∧AZ Try.prog 123=none∧Fl Try.prog 123=some .u64∧BC Try.prog 123=some (1,false)∧AJ Try.prog 123=.int .u64 0∧Bz Try.prog 123 = []:=by
 refine ⟨?_,?_,?_,?_,?_,?_,?_,?_⟩ <;> kernel_rfl
theorem Mx:Try.prog.cellsOf 130=2∧Ae Try.prog 130=0∧AT Try.prog 130=false∧AZ Try.prog 130=none∧BC Try.prog 130=some (2,true)∧AJ Try.prog 130=.agg [.int .i64 0,.int .i64 0]∧BO Try.prog 130=some (2,1)∧Kp Try.prog 130=some (2,3)∧Ce Try.prog 130=true∧Bz Try.prog 130 = []:=by
 refine ⟨?_,?_,?_,?_,?_,?_,?_,?_,?_,?_⟩ <;> kernel_rfl
theorem lP:Try.prog.cellsOf 131=1∧Ae Try.prog 131=0∧AT Try.prog 131=false∧AZ Try.prog 131=some (.ints 2,.int .i64 0)∧BC Try.prog 131=some (1,false)∧AJ Try.prog 131=.nilm∧Bz Try.prog 131 = []:=by
 refine ⟨?_,?_,?_,?_,?_,?_,?_⟩ <;> kernel_rfl
theorem My:Try.prog.cellsOf 135=1∧Ae Try.prog 135=1∧BY Try.prog 135=4∧AT Try.prog 135=false∧AZ Try.prog 135=none∧BC Try.prog 135=some (1,false)∧AJ Try.prog 135=.nils∧Bz Try.prog 135 = [(0,1)]:=by
 refine ⟨?_,?_,?_,?_,?_,?_,?_,?_⟩ <;> kernel_rfl
theorem DJ : Try.prog.cellsOf 136 = 1 ∧ Ae Try.prog 136 = 0 ∧ AT Try.prog 136 = false ∧ AZ Try.prog 136 = none ∧ BC Try.prog 136 = some (1, false) ∧ AJ Try.prog 136 = .nilp ∧ Jp Try.prog 136 "Len" = some (81, false, 140) ∧ Jp Try.prog 136 "Less" = some (104, false, 140) ∧ Jp Try.prog 136 "Pop" = some (105, true, 140) ∧ Jp Try.prog 136 "Push" = some (106, true, 140) ∧ Jp Try.prog 136 "Swap" = some (107, false, 140) ∧ KC Try.prog 136 = true ∧ Bz Try.prog 136 = [] := by
 refine ⟨?_,?_,?_,?_,?_,?_,?_,?_,?_,?_,?_,?_,?_⟩ <;> kernel_rfl
theorem Hv:Try.prog.cellsOf 138=2∧Ae Try.prog 138=0∧AT Try.prog 138=false∧AZ Try.prog 138=none∧BC Try.prog 138=some (2,true)∧AJ Try.prog 138=.agg [.int .i64 0,.int .i64 0]∧Bb Try.prog 138 0=some (0,1,3)∧Bb Try.prog 138 1=some (1,1,3)∧BO Try.prog 138=none∧Ce Try.prog 138=true∧KC Try.prog 138=true∧Bz Try.prog 138 = []:=by
 refine ⟨?_,?_,?_,?_,?_,?_,?_,?_,?_,?_,?_,?_⟩ <;> kernel_rfl
theorem Dj:Try.prog.cellsOf 140=1∧Ae Try.prog 140=2∧BY Try.prog 140=138∧AT Try.prog 140=false∧AZ Try.prog 140=none∧BC Try.prog 140=some (1,false)∧AJ Try.prog 140=.nils∧Bz Try.prog 140 = [(0,2)]:=by
 refine ⟨?_,?_,?_,?_,?_,?_,?_,?_⟩ <;> kernel_rfl
theorem Oz:Try.prog.cellsOf 148=1∧Ae Try.prog 148=0∧AT Try.prog 148=false∧AZ Try.prog 148=none∧BC Try.prog 148=some (1,false)∧AJ Try.prog 148=.nili∧Bz Try.prog 148 = []:=by
 refine ⟨?_,?_,?_,?_,?_,?_,?_⟩ <;> kernel_rfl
end Sim
namespace Sim
open Go
def bdD:=(And.intro (And.intro (And.intro (And.intro (And.intro (And.intro @xA @Ad6) (And.intro @jT (And.intro @xB @Ad7))) (And.intro (And.intro @aR (And.intro @xC
 @eS)) (And.intro @eU (And.intro @uD @Md)))) (And.intro (And.intro (And.intro @eV @eW) (And.intro @eX (And.intro @uE @Y3))) (And.intro (And.intro
 @Y5 (And.intro @eY @eZ)) (And.intro @fA (And.intro @fB @uF))))) (And.intro (And.intro (And.intro (And.intro @P5 @IU) (And.intro @Kw (And.intro
 @bR @bJ))) (And.intro (And.intro @Wo (And.intro @bW @Wx)) (And.intro @bX (And.intro @Wu @S7)))) (And.intro (And.intro (And.intro
 @bK (And.intro @IZ @uG)) (And.intro @eQ (And.intro @Ac8 @Sr))) (And.intro (And.intro @H6 (And.intro @Adc @Ade)) (And.intro @vH (And.intro @Adf
 @vI)))))) (And.intro (And.intro (And.intro (And.intro (And.intro @vJ @vK) (And.intro @vL (And.intro @Adg @vM))) (And.intro (And.intro @ZH (And.intro @iF
 @VO)) (And.intro @VP (And.intro @VQ @SC)))) (And.intro (And.intro (And.intro @iG (And.intro @ZI @vQ)) (And.intro @ZJ (And.intro
 @Mo @iJ))) (And.intro (And.intro @ZK (And.intro @Qk @ZP)) (And.intro @iK (And.intro @SD @Ql))))) (And.intro (And.intro (And.intro
 (And.intro @NQ @ZQ) (And.intro @NR (And.intro @ZW @NS))) (And.intro (And.intro @ZX (And.intro @SF @KD)) (And.intro @ZY
 (And.intro @ZV @SV)))) (And.intro (And.intro (And.intro @Qu (And.intro @Wi @NV)) (And.intro @Qv (And.intro @Mr @Wj)))
 (And.intro (And.intro @aY (And.intro @aZ @iL)) (And.intro @vU (And.intro @iH @vS)))))))
def bdP:=(And.intro (And.intro (And.intro (And.intro (And.intro (And.intro (And.intro (And.intro (And.intro @jU @Nat.one_ne_zero) (And.intro @lH @xV)) (And.intro (And.intro
 @bS @xW) (And.intro @kN @Aea))) (And.intro (And.intro (And.intro @kO @NZ) (And.intro @bT @xX)) (And.intro (And.intro @kP @S3)
 (And.intro @kQ @kR)))) (And.intro (And.intro (And.intro (And.intro @kT @bU) (And.intro @kU @kV)) (And.intro (And.intro @Wq @bN) (And.intro
 @bP @kL))) (And.intro (And.intro (And.intro @bQ @kM) (And.intro @Ad9 @xT)) (And.intro (And.intro @xU @xY) (And.intro @Wr @KG)))))
 (And.intro (And.intro (And.intro (And.intro (And.intro @S4 @Ws) (And.intro @Qy @kW)) (And.intro (And.intro @Qz @kX) (And.intro @QA
 @kY))) (And.intro (And.intro (And.intro @bV @QB) (And.intro @S5 @N0)) (And.intro (And.intro @kZ @lA) (And.intro @N1 @Wt))))
 (And.intro (And.intro (And.intro (And.intro @lB @lC) (And.intro @lE @lF)) (And.intro (And.intro @lG @S6) (And.intro @Aeb @U6))) (And.intro
 (And.intro (And.intro @U7 @fC) (And.intro @Y6 @Ac9)) (And.intro (And.intro @uH @U5) (And.intro @RV (And.intro @RU @YW))))))) (And.intro
 (And.intro (And.intro (And.intro (And.intro (And.intro @YX @YY) (And.intro @YZ @Option.map_some.{0,0})) (And.intro (And.intro @Option.map_none.{0,0} @Option.bind_some.{0,0})
 (And.intro @Option.bind_none.{0,0} @Option.getD_some.{0}))) (And.intro (And.intro (And.intro @Option.getD_none.{0} @Bool.false_eq_true) (And.intro @true_and @and_true)) (And.intro (And.intro
 @List.getD_cons_zero.{0} @List.getD_cons_succ.{0}) (And.intro @List.getElem?_toArray.{0} @List.getElem?_cons_zero.{0})))) (And.intro (And.intro (And.intro (And.intro @List.getElem?_cons_succ.{0}
 @decide_eq_true_eq) (And.intro @decide_eq_false_iff_not @true_implies)) (And.intro (And.intro @forall_const.{1} @forall_const.{0}) (And.intro @uT @Ah2))) (And.intro (And.intro (And.intro
 @uO @fQ) (And.intro @uQ @uP)) (And.intro (And.intro @Zm @fR) (And.intro @List.map_cons.{0,0} (And.intro @List.map_nil.{0,0} @List.length_map.{0,0})))))) (And.intro
 (And.intro (And.intro (And.intro (And.intro @Zo @Ss) (And.intro @Vt @List.contains_cons.{0})) (And.intro (And.intro @List.contains_nil.{0} @Bool.or_false) (And.intro
 @Bool.or_true @Bool.false_or))) (And.intro (And.intro (And.intro @Bool.true_or @Int.natCast_nonneg) (And.intro @Int.ofNat_lt @Int.toNat_natCast)) (And.intro (And.intro @uR @uS) (And.intro
 @decide_true @decide_false)))) (And.intro (And.intro (And.intro (And.intro @Option.some.injEq.{0} @exists_eq_left'.{1}) (And.intro @PV.int.injEq @PV.bool.injEq)) (And.intro (And.intro @PV.str.injEq
 @PV.lits.injEq) (And.intro @PV.tuple.injEq @PV.agg.injEq))) (And.intro (And.intro (And.intro @List.cons.injEq.{0} @List.lookup_cons.{0,0}) (And.intro @List.lookup_nil.{0,0} @Vq)) (And.intro
 (And.intro @Ah3 @Ah4) (And.intro @Ah5 (And.intro @Ah8 @Ah6)))))))) (And.intro (And.intro (And.intro (And.intro (And.intro (And.intro (And.intro @Ah7 @Zn) (And.intro @Vr
 @Hs)) (And.intro (And.intro @fS @Bool.and_true) (And.intro @Bool.and_self @Bool.true_and))) (And.intro (And.intro (And.intro @List.cons_append.{0} @List.nil_append.{0}) (And.intro
 @List.append_nil.{0} @Adb)) (And.intro (And.intro @Ou @Qi) (And.intro @List.length_append.{0} @List.length_cons.{0})))) (And.intro (And.intro (And.intro (And.intro
 @List.length_nil.{0} @Nat.zero_add) (And.intro @Nat.add_zero @List.drop_zero.{0})) (And.intro (And.intro @List.take_length.{0} @List.take_zero.{0}) (And.intro @Nat.not_succ_le_self
 @List.replicate_succ.{0}))) (And.intro (And.intro (And.intro @List.replicate_zero.{0} @List.length_replicate.{0}) (And.intro @List.set_cons_zero.{0} @List.set_cons_succ.{0})) (And.intro (And.intro
 @fT @fU) (And.intro @Prod.mk.injEq.{0,0} (And.intro @IObj.arr.injEq @Nat.lt_irrefl)))))) (And.intro (And.intro (And.intro (And.intro (And.intro @Nat.lt_succ_self @Bool.not_true)
 (And.intro @Bool.not_false @not_true_eq_false)) (And.intro (And.intro @not_false_eq_true @false_implies) (And.intro @Qh @or_false))) (And.intro (And.intro (And.intro @or_true @Nat.le_refl)
 (And.intro @Classical.not_not @Vu)) (And.intro (And.intro @Vv @Zp) (And.intro @fV @fW)))) (And.intro (And.intro (And.intro (And.intro @fX @St)
 (And.intro @Zq @Zr)) (And.intro (And.intro @fY @Ft) (And.intro @uU @uV))) (And.intro (And.intro (And.intro @Vw @Zs) (And.intro @Zt
 @fZ)) (And.intro (And.intro @uW @uX) (And.intro @uY (And.intro @Vx @Vy))))))) (And.intro (And.intro (And.intro (And.intro (And.intro (And.intro @Vz
 @Zu) (And.intro @gB @gC)) (And.intro (And.intro @gD @Zv) (And.intro @VA @Su))) (And.intro (And.intro (And.intro @gE @gF) (And.intro
 @VB @VD)) (And.intro (And.intro @Zw @gG) (And.intro @gH @gI)))) (And.intro (And.intro (And.intro (And.intro @Sv @VE) (And.intro @VF
 @Zx)) (And.intro (And.intro @Mn @gJ) (And.intro @gL @Sw))) (And.intro (And.intro (And.intro @Zy @uZ) (And.intro @Zz @vA)) (And.intro
 (And.intro @vB @VG) (And.intro @Sx (And.intro @gM @gQ)))))) (And.intro (And.intro (And.intro (And.intro (And.intro @VH @VI) (And.intro @ZA
 @gR)) (And.intro (And.intro @gT @gU) (And.intro @Sy @Sz))) (And.intro (And.intro (And.intro @VJ @VK) (And.intro @ZB @gV)) (And.intro
 (And.intro @gW @gX) (And.intro @SA @ZC)))) (And.intro (And.intro (And.intro (And.intro @gY @JF) (And.intro @vC @VL)) (And.intro (And.intro
 @ZD @VM) (And.intro @Wv @Ww))) (And.intro (And.intro (And.intro @S8 @S9) (And.intro @N2 @N3)) (And.intro (And.intro @VN
 @ZE) (And.intro @gZ (And.intro @hZ @iA))))))))) (And.intro (And.intro (And.intro (And.intro (And.intro (And.intro (And.intro (And.intro @vD @iB) (And.intro
 @vE @NM)) (And.intro (And.intro @NN @iC) (And.intro @vF @vG))) (And.intro (And.intro (And.intro @ZF @ZG) (And.intro @iD @Adh))
 (And.intro (And.intro @vO @vP) (And.intro @Adi @iE)))) (And.intro (And.intro (And.intro (And.intro @VS @ZO) (And.intro @iM @iN)) (And.intro (And.intro
 @vV @VT) (And.intro @vW @vX))) (And.intro (And.intro (And.intro @vY @vZ) (And.intro @iT @iU)) (And.intro (And.intro @iV @VX) (And.intro
 @VW @JG))))) (And.intro (And.intro (And.intro (And.intro (And.intro @Mp @iR) (And.intro @iP @ZL)) (And.intro (And.intro @ZN @ZM)
 (And.intro @VU @VV))) (And.intro (And.intro (And.intro @ZR @ZS) (And.intro @ZT @ZU)) (And.intro (And.intro @List.all_cons.{0} @List.all_nil.{0})
 (And.intro @iQ @SG)))) (And.intro (And.intro (And.intro (And.intro @VY @Adp) (And.intro @Z0 @bC)) (And.intro (And.intro @bE @wE) (And.intro
 @bH @bI))) (And.intro (And.intro (And.intro @Wl @Wm) (And.intro @SW @Qw)) (And.intro (And.intro @NY @xS) (And.intro @SZ
 (And.intro @SX @SY))))))) (And.intro (And.intro (And.intro (And.intro (And.intro (And.intro @NW @NX) (And.intro @kJ @kK)) (And.intro (And.intro
 @bB @bF) (And.intro @bG @Wk))) (And.intro (And.intro (And.intro @Z1 @Qm) (And.intro @NO @NP)) (And.intro (And.intro @Adk
 @Adq) (And.intro @Adr @wF)))) (And.intro (And.intro (And.intro (And.intro @Z2 @iX) (And.intro @iZ @Z3)) (And.intro (And.intro @Z4 @Ads) (And.intro
 @wH @wI))) (And.intro (And.intro (And.intro @jA @jB) (And.intro @wJ @jC)) (And.intro (And.intro @jD @wK) (And.intro @jE (And.intro @jF
 @Z5)))))) (And.intro (And.intro (And.intro (And.intro (And.intro @Z6 @jG) (And.intro @wL @wM)) (And.intro (And.intro @VZ @Z8) (And.intro @Qn
 @Qo))) (And.intro (And.intro (And.intro @NT @NU) (And.intro @Qp @V0)) (And.intro (And.intro @SH @V1) (And.intro @SJ
 @V2)))) (And.intro (And.intro (And.intro (And.intro @SK @V3) (And.intro @V4 @V5)) (And.intro (And.intro @Z9 @aA) (And.intro @jH
 @jI))) (And.intro (And.intro (And.intro @SL @SM) (And.intro @V6 @V7)) (And.intro (And.intro @SN @SP) (And.intro @V8 (And.intro
 @V9 @SQ)))))))) (And.intro (And.intro (And.intro (And.intro (And.intro (And.intro (And.intro @jJ @Qq) (And.intro @SR @Aif)) (And.intro (And.intro @Aig
 @Aih) (And.intro @Aii @Aij))) (And.intro (And.intro (And.intro @Aik @Aj8) (And.intro @Ail @jK)) (And.intro (And.intro @Aim @Ain) (And.intro @Aio @Aip)))) (And.intro
 (And.intro (And.intro (And.intro @Aiq @Air) (And.intro @Ais @Ait)) (And.intro (And.intro @Adv @Adw) (And.intro @Adx @Ady))) (And.intro (And.intro (And.intro @Adz @Ad0)
 (And.intro @Ad1 @Aiu)) (And.intro (And.intro @Aiv @Ad4) (And.intro @Ad5 (And.intro @jL @aB)))))) (And.intro (And.intro (And.intro (And.intro (And.intro @Wa
 @aC) (And.intro @aD @aE)) (And.intro (And.intro @wP @jN) (And.intro @aG @wQ))) (And.intro (And.intro (And.intro @wR @wS) (And.intro @wT
 @SS)) (And.intro (And.intro @Qr @ST) (And.intro @Qs @wX)))) (And.intro (And.intro (And.intro (And.intro @wV @wU) (And.intro @jP @jQ))
 (And.intro (And.intro @aH @Wb) (And.intro @aI @aJ))) (And.intro (And.intro (And.intro @aK @aM) (And.intro @Wc @Wd)) (And.intro (And.intro
 @We @aN) (And.intro @Wf (And.intro @aQ @jR))))))) (And.intro (And.intro (And.intro (And.intro (And.intro (And.intro @wY @wZ) (And.intro @Dy
 @FP)) (And.intro (And.intro @Int.natCast_eq_zero @Adu) (And.intro @Z7 @iW))) (And.intro (And.intro (And.intro @wC @vR) (And.intro @vT @beq_eq_false_iff_ne.{0}))
 (And.intro (And.intro @ne_eq.{1} @xE) (And.intro @aS @Int.natCast_inj)))) (And.intro (And.intro (And.intro (And.intro @List.take_succ_cons.{0} @List.drop_succ_cons.{0}) (And.intro
 @List.drop_nil.{0} @List.take_nil.{0})) (And.intro (And.intro @aU @aV) (And.intro @xF @xG))) (And.intro (And.intro (And.intro @xH @implies_true.{1}) (And.intro
 @implies_true.{0} @Int.natCast_zero)) (And.intro (And.intro @jV @aW) (And.intro @SU (And.intro @Qt @Wh)))))) (And.intro (And.intro (And.intro (And.intro
 (And.intro @aX @xI) (And.intro @xJ @jW)) (And.intro (And.intro @xK @jX) (And.intro @jZ @xL))) (And.intro (And.intro (And.intro @kA @xM)
 (And.intro @xN @xO)) (And.intro (And.intro @kB @xP) (And.intro @kC @kE)))) (And.intro (And.intro (And.intro (And.intro @Int.le_refl @Int.natCast_pos) (And.intro
 @beq_self_eq_true.{0} @beq_iff_eq.{0})) (And.intro (And.intro @Adl @wB) (And.intro @wA @false_and))) (And.intro (And.intro (And.intro @and_false @Bool.true_eq_false) (And.intro
 @kF @kG)) (And.intro (And.intro @kH @xQ) (And.intro @Ad8 (And.intro @Nat.min_def @Int.cast_ofNat_Int))))))))))
end Sim
