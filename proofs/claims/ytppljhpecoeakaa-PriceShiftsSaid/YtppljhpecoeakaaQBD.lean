/- What functions of this seat compute, by values: contracts (lemmas of the statement's proof, under the conditions that each names). -/
import Derived.Test.YtppljhpecoeakaaSimX
import Derived.Test.YtppljhpecoeakaaProg
import Derived.KernelRfl
set_option maxRecDepth 100000
set_option linter.defProp false
namespace Sim
open Go Go.Proofs
theorem ty3:Try.prog.cellsOf 3=1∧Ad Try.prog 3=0∧AT Try.prog 3=false∧AY Try.prog 3=none∧ER Try.prog 3=some .i64∧Bu Try.prog 3=some (1,false)∧AD Try.prog 3=.int .i64 0∧Bt Try.prog 3 = []:=by
 refine ⟨?_,?_,?_,?_,?_,?_,?_,?_⟩ <;> kernel_rfl
theorem ty4:Try.prog.cellsOf 4=1∧Ad Try.prog 4=0∧AT Try.prog 4=false∧AY Try.prog 4=none∧GZ Try.prog 4=true∧Bu Try.prog 4=some (1,false)∧AD Try.prog 4=.bool false∧Bt Try.prog 4 = []:=by
 refine ⟨?_,?_,?_,?_,?_,?_,?_,?_⟩ <;> kernel_rfl
theorem Ac5:Try.prog.cellsOf 20=1∧Ad Try.prog 20=0∧AT Try.prog 20=false∧AY Try.prog 20=none∧Bu Try.prog 20=some (1,false)∧AD Try.prog 20=.nili∧Bt Try.prog 20 = []:=by
 refine ⟨?_,?_,?_,?_,?_,?_,?_⟩ <;> kernel_rfl
theorem By:Try.prog.cellsOf 22=1∧Ad Try.prog 22=50∧BR Try.prog 22=62∧AT Try.prog 22=false∧AY Try.prog 22=none∧Bu Try.prog 22=some (1,false)∧AD Try.prog 22=.nils∧Bt Try.prog 22 = [(0,50)]:=by
 refine ⟨?_,?_,?_,?_,?_,?_,?_,?_⟩ <;> kernel_rfl
theorem Aw:Try.prog.cellsOf 24=2∧Ad Try.prog 24=0∧AT Try.prog 24=false∧AY Try.prog 24=none∧Bu Try.prog 24=some (2,true)∧AD Try.prog 24=.agg [.int .i64 0,.nils]∧Bc Try.prog 24 0=some (0,1,3)∧Bc Try.prog 24 1=some (1,1,22)∧BH Try.prog 24=none∧Cf Try.prog 24=true∧Bt Try.prog 24 = [(1,50)]:=by
 refine ⟨?_,?_,?_,?_,?_,?_,?_,?_,?_,?_,?_⟩ <;> kernel_rfl
theorem AJ:Try.prog.cellsOf 25=1∧Ad Try.prog 25=3∧BR Try.prog 25=69∧AT Try.prog 25=false∧AY Try.prog 25=none∧Bu Try.prog 25=some (1,false)∧AD Try.prog 25=.nils∧Bt Try.prog 25 = [(0,3)]:=by
 refine ⟨?_,?_,?_,?_,?_,?_,?_,?_⟩ <;> kernel_rfl
theorem AX:Try.prog.cellsOf 27=5∧Ad Try.prog 27=0∧AT Try.prog 27=false∧AY Try.prog 27=none∧Bu Try.prog 27=some (5,true)∧AD Try.prog 27=.agg [.int .i64 0,.int .i64 0,.int .i64 0,.int .i64 0,.int .i64 0]∧Bc Try.prog 27 0=some (0,1,3)∧Bc Try.prog 27 1=some (1,1,3)∧Bc Try.prog 27 2=some (2,1,3)∧Bc Try.prog 27 3=some (3,1,3)∧Bc Try.prog 27 4=some (4,1,3)∧BH Try.prog 27=none∧Cf Try.prog 27=true∧Bt Try.prog 27 = []:=by
 refine ⟨?_,?_,?_,?_,?_,?_,?_,?_,?_,?_,?_,?_,?_,?_⟩ <;> kernel_rfl
theorem Bk:Try.prog.cellsOf 29=8∧Ad Try.prog 29=0∧AT Try.prog 29=false∧AY Try.prog 29=none∧Bu Try.prog 29=some (8,true)∧AD Try.prog 29=.agg [.int .i64 0,.nils,.nils,.int .i64 0,.int .i64 0,.int .i64 0,.int .i64 0,.int .i64 0]∧Bc Try.prog 29 0=some (0,2,24)∧Bc Try.prog 29 1=some (2,1,25)∧Bc Try.prog 29 2=some (3,5,27)∧BH Try.prog 29=none∧Cf Try.prog 29=true∧Bt Try.prog 29 = [(1,50),(2,3)]:=by
 refine ⟨?_,?_,?_,?_,?_,?_,?_,?_,?_,?_,?_,?_⟩ <;> kernel_rfl
theorem Bf:Try.prog.cellsOf 30=1∧Ad Try.prog 30=1∧BR Try.prog 30=43∧AT Try.prog 30=false∧AY Try.prog 30=none∧Bu Try.prog 30=some (1,false)∧AD Try.prog 30=.nils∧Bt Try.prog 30 = [(0,1)]:=by
 refine ⟨?_,?_,?_,?_,?_,?_,?_,?_⟩ <;> kernel_rfl
theorem Aix:Try.prog.cellsOf 34=1∧Ad Try.prog 34=0∧AT Try.prog 34=false∧AY Try.prog 34=none∧ER Try.prog 34=some .i64∧Bu Try.prog 34=some (1,false)∧AD Try.prog 34=.int .i64 0∧Bt Try.prog 34 = []:=by
 refine ⟨?_,?_,?_,?_,?_,?_,?_,?_⟩ <;> kernel_rfl
theorem AZ:Try.prog.cellsOf 43=1∧Ad Try.prog 43=1∧BR Try.prog 43=3∧AT Try.prog 43=false∧AY Try.prog 43=none∧Bu Try.prog 43=some (1,false)∧AD Try.prog 43=.nils∧Bt Try.prog 43 = [(0,1)]:=by
 refine ⟨?_,?_,?_,?_,?_,?_,?_,?_⟩ <;> kernel_rfl
theorem wG:Try.prog.cellsOf 57=1∧Ad Try.prog 57=0∧AT Try.prog 57=false∧AY Try.prog 57=none∧ER Try.prog 57=some .u16∧Bu Try.prog 57=some (1,false)∧AD Try.prog 57=.int .u16 0∧Bt Try.prog 57 = []:=by
 refine ⟨?_,?_,?_,?_,?_,?_,?_,?_⟩ <;> kernel_rfl
theorem wH:Try.prog.cellsOf 58=3∧Ad Try.prog 58=0∧AT Try.prog 58=false∧AY Try.prog 58=none∧Bu Try.prog 58=some (3,true)∧AD Try.prog 58=.agg [.int .u16 0,.int .u16 0,.int .u16 0]∧BH Try.prog 58=some (3,1)∧II Try.prog 58=some (3,57)∧Cf Try.prog 58=true∧Bt Try.prog 58 = []:=by
 refine ⟨?_,?_,?_,?_,?_,?_,?_,?_,?_,?_⟩ <;> kernel_rfl
theorem GT:Try.prog.cellsOf 60=24∧Ad Try.prog 60=0∧AT Try.prog 60=false∧AY Try.prog 60=none∧Bu Try.prog 60=some (24,true)∧AD Try.prog 60=.agg [.int .i64 0,.int .i64 0,.int .i64 0,.int .i64 0,.int .i64 0,.int .i64 0,.int .i64 0,.int .i64 0,.int .i64 0,.int .i64 0,.int .i64 0,.int .i64 0,.int .i64 0,.int .i64 0,.int .i64 0,.int .i64 0,.int .i64 0,.int .i64 0,.int .i64 0,.int .i64 0,.int .i64 0,.int .i64 0,.int .i64 0,.int .i64 0]∧BH Try.prog 60=some (24,1)∧II Try.prog 60=some (24,3)∧Cf Try.prog 60=true∧Bt Try.prog 60 = []:=by
 refine ⟨?_,?_,?_,?_,?_,?_,?_,?_,?_,?_⟩ <;> kernel_rfl
theorem B6:Try.prog.cellsOf 62=50∧Ad Try.prog 62=0∧AT Try.prog 62=false∧AY Try.prog 62=none∧Bu Try.prog 62=some (50,true)∧AD Try.prog 62=.agg [.int .i64 0,.int .i64 0,.int .i64 0,.int .i64 0,.int .i64 0,.int .i64 0,.int .i64 0,.int .i64 0,.int .i64 0,.int .i64 0,.int .i64 0,.int .i64 0,.int .i64 0,.int .i64 0,.int .i64 0,.int .i64 0,.int .i64 0,.int .i64 0,.int .i64 0,.int .i64 0,.int .i64 0,.int .i64 0,.int .i64 0,.int .i64 0,.int .i64 0,.int .i64 0,.int .i64 0,.int .i64 0,.int .i64 0,.int .i64 0,.int .i64 0,.int .i64 0,.int .i64 0,.int .i64 0,.int .i64 0,.int .i64 0,.int .i64 0,.int .i64 0,.int .i64 0,.int .i64 0,.int .i64 0,.int .i64 0,.int .i64 0,.int .i64 0,.int .i64 0,.int .i64 0,.int .i64 0,.int .i64 0,.int .i64 0,.int .i64 0]∧Bc Try.prog 62 0=some (0,1,3)∧Bc Try.prog 62 1=some (1,1,3)∧Bc Try.prog 62 2=some (2,24,60)∧Bc Try.prog 62 3=some (26,24,60)∧BH Try.prog 62=none∧Cf Try.prog 62=true∧Bt Try.prog 62 = []:=by
 refine ⟨?_,?_,?_,?_,?_,?_,?_,?_,?_,?_,?_,?_,?_⟩ <;> kernel_rfl
theorem BU:Try.prog.cellsOf 69=3∧Ad Try.prog 69=0∧AT Try.prog 69=false∧AY Try.prog 69=none∧Bu Try.prog 69=some (3,true)∧AD Try.prog 69=.agg [.int .i64 0,.int .i64 0,.int .i64 0]∧Bc Try.prog 69 0=some (0,1,3)∧Bc Try.prog 69 1=some (1,1,3)∧Bc Try.prog 69 2=some (2,1,3)∧BH Try.prog 69=none∧Cf Try.prog 69=true∧Bt Try.prog 69 = []:=by
 refine ⟨?_,?_,?_,?_,?_,?_,?_,?_,?_,?_,?_,?_⟩ <;> kernel_rfl
theorem wI:Try.prog.cellsOf 72=1∧Ad Try.prog 72=0∧AT Try.prog 72=false∧AY Try.prog 72=none∧Bu Try.prog 72=some (1,false)∧AD Try.prog 72=.nilf∧Bt Try.prog 72 = []:=by
 refine ⟨?_,?_,?_,?_,?_,?_,?_⟩ <;> kernel_rfl
theorem Gw:Try.prog.cellsOf 78=2∧Ad Try.prog 78=0∧AT Try.prog 78=false∧AY Try.prog 78=none∧Bu Try.prog 78=some (2,true)∧AD Try.prog 78=.agg [.int .i64 0,.int .i64 0]∧Bc Try.prog 78 0=some (0,1,3)∧Bc Try.prog 78 1=some (1,1,3)∧BH Try.prog 78=none∧Cf Try.prog 78=true∧Bt Try.prog 78 = []:=by
 refine ⟨?_,?_,?_,?_,?_,?_,?_,?_,?_,?_,?_⟩ <;> kernel_rfl
theorem GU:Try.prog.cellsOf 80=54∧Ad Try.prog 80=0∧AT Try.prog 80=false∧AY Try.prog 80=none∧Bu Try.prog 80=some (54,true)∧AD Try.prog 80=.agg [.int .i64 0,.int .i64 0,.int .i64 0,.int .i64 0,.int .i64 0,.int .i64 0,.int .i64 0,.int .i64 0,.int .i64 0,.int .i64 0,.int .i64 0,.int .i64 0,.int .i64 0,.int .i64 0,.int .i64 0,.int .i64 0,.int .i64 0,.int .i64 0,.int .i64 0,.int .i64 0,.int .i64 0,.int .i64 0,.int .i64 0,.int .i64 0,.int .i64 0,.int .i64 0,.int .i64 0,.int .i64 0,.int .i64 0,.int .i64 0,.int .i64 0,.int .i64 0,.int .i64 0,.int .i64 0,.int .i64 0,.int .i64 0,.int .i64 0,.int .i64 0,.int .i64 0,.int .i64 0,.int .i64 0,.int .i64 0,.int .i64 0,.int .i64 0,.int .i64 0,.int .i64 0,.int .i64 0,.int .i64 0,.int .i64 0,.int .i64 0,.int .i64 0,.int .i64 0,.int .i64 0,.int .i64 0]∧Bc Try.prog 80 0=some (0,2,78)∧Bc Try.prog 80 1=some (2,50,62)∧Bc Try.prog 80 2=some (52,1,3)∧Bc Try.prog 80 3=some (53,1,3)∧BH Try.prog 80=none∧Cf Try.prog 80=true∧Bt Try.prog 80 = []:=by
 refine ⟨?_,?_,?_,?_,?_,?_,?_,?_,?_,?_,?_,?_,?_⟩ <;> kernel_rfl
theorem Ip:Try.prog.cellsOf 85=1∧Ad Try.prog 85=0∧AT Try.prog 85=false∧AY Try.prog 85=some (.ints 2,.int .i64 0)∧Bu Try.prog 85=some (1,false)∧AD Try.prog 85=.nilm∧Bt Try.prog 85 = []:=by
 refine ⟨?_,?_,?_,?_,?_,?_,?_⟩ <;> kernel_rfl
theorem ST:Try.prog.cellsOf 88=1∧Ad Try.prog 88=0∧AT Try.prog 88=false∧AY Try.prog 88=none∧Bu Try.prog 88=some (1,false)∧AD Try.prog 88=.nilp∧Bt Try.prog 88 = []:=by
 refine ⟨?_,?_,?_,?_,?_,?_,?_⟩ <;> kernel_rfl
theorem Qk:Try.prog.cellsOf 89=1∧Ad Try.prog 89=0∧AT Try.prog 89=false∧AY Try.prog 89=none∧Bu Try.prog 89=some (1,false)∧AD Try.prog 89=.nilf∧Bt Try.prog 89 = []:=by
 refine ⟨?_,?_,?_,?_,?_,?_,?_⟩ <;> kernel_rfl
theorem JL:Try.prog.cellsOf 90=1∧Ad Try.prog 90=0∧AT Try.prog 90=false∧AY Try.prog 90=none∧Bu Try.prog 90=some (1,false)∧AD Try.prog 90=.nilp∧Bt Try.prog 90 = []:=by
 refine ⟨?_,?_,?_,?_,?_,?_,?_⟩ <;> kernel_rfl
theorem KH:Try.prog.cellsOf 93=1∧Ad Try.prog 93=4∧BR Try.prog 93=97∧AT Try.prog 93=false∧AY Try.prog 93=none∧Bu Try.prog 93=some (1,false)∧AD Try.prog 93=.nils∧Bt Try.prog 93 = [(0,4)]:=by
 refine ⟨?_,?_,?_,?_,?_,?_,?_,?_⟩ <;> kernel_rfl
theorem GV:Try.prog.cellsOf 95=3∧Ad Try.prog 95=0∧AT Try.prog 95=false∧AY Try.prog 95=none∧Bu Try.prog 95=some (3,true)∧AD Try.prog 95=.agg [.nils,.nils,.nils]∧Bc Try.prog 95 0=some (0,1,93)∧Bc Try.prog 95 1=some (1,1,30)∧Bc Try.prog 95 2=some (2,1,43)∧BH Try.prog 95=none∧Cf Try.prog 95=true∧Bt Try.prog 95 = [(0,4),(1,1),(2,1)]:=by
 refine ⟨?_,?_,?_,?_,?_,?_,?_,?_,?_,?_,?_,?_⟩ <;> kernel_rfl
theorem Lt:Try.prog.cellsOf 97=4∧Ad Try.prog 97=0∧AT Try.prog 97=false∧AY Try.prog 97=none∧Bu Try.prog 97=some (4,true)∧AD Try.prog 97=.agg [.int .i64 0,.int .i64 0,.int .i64 0,.int .i64 0]∧Bc Try.prog 97 0=some (0,1,3)∧Bc Try.prog 97 1=some (1,1,3)∧Bc Try.prog 97 2=some (2,1,3)∧Bc Try.prog 97 3=some (3,1,3)∧BH Try.prog 97=none∧Cf Try.prog 97=true∧Bt Try.prog 97 = []:=by
 refine ⟨?_,?_,?_,?_,?_,?_,?_,?_,?_,?_,?_,?_,?_⟩ <;> kernel_rfl
theorem JM:Try.prog.cellsOf 100=1∧Ad Try.prog 100=4∧BR Try.prog 100=103∧AT Try.prog 100=false∧AY Try.prog 100=none∧Bu Try.prog 100=some (1,false)∧AD Try.prog 100=.nils∧Bt Try.prog 100 = [(0,4)]:=by
 refine ⟨?_,?_,?_,?_,?_,?_,?_,?_⟩ <;> kernel_rfl
theorem Oq:Try.prog.cellsOf 101=1∧Ad Try.prog 101=0∧AT Try.prog 101=false∧AY Try.prog 101=none∧Bu Try.prog 101=some (1,false)∧AD Try.prog 101=.nilf∧Bt Try.prog 101 = []:=by
 refine ⟨?_,?_,?_,?_,?_,?_,?_⟩ <;> kernel_rfl
theorem Mr:Try.prog.cellsOf 103=4∧Ad Try.prog 103=0∧AT Try.prog 103=false∧AY Try.prog 103=none∧Bu Try.prog 103=some (4,true)∧AD Try.prog 103=.agg [.int .i64 0,.int .i64 0,.int .i64 0,.int .i64 0]∧Bc Try.prog 103 0=some (0,1,3)∧Bc Try.prog 103 1=some (1,1,3)∧Bc Try.prog 103 2=some (2,1,3)∧Bc Try.prog 103 3=some (3,1,3)∧BH Try.prog 103=none∧Cf Try.prog 103=true∧Bt Try.prog 103 = []:=by
 refine ⟨?_,?_,?_,?_,?_,?_,?_,?_,?_,?_,?_,?_,?_⟩ <;> kernel_rfl
theorem jZ:Try.prog.cellsOf 104=1∧Ad Try.prog 104=0∧AT Try.prog 104=false∧AY Try.prog 104=none∧Bu Try.prog 104=some (1,false)∧AD Try.prog 104=.nilf∧Bt Try.prog 104 = []:=by
 refine ⟨?_,?_,?_,?_,?_,?_,?_⟩ <;> kernel_rfl
theorem WR:Try.prog.cellsOf 110=1∧Ad Try.prog 110=0∧AT Try.prog 110=false∧AY Try.prog 110=none∧Bu Try.prog 110=some (1,false)∧AD Try.prog 110=.nilf∧Bt Try.prog 110 = []:=by
 refine ⟨?_,?_,?_,?_,?_,?_,?_⟩ <;> kernel_rfl
theorem Ahl:Try.prog.cellsOf 111=1∧Ad Try.prog 111=0∧AT Try.prog 111=false∧AY Try.prog 111=none∧ER Try.prog 111=some .u64∧Bu Try.prog 111=some (1,false)∧AD Try.prog 111=.int .u64 0∧Bt Try.prog 111 = []:=by
 refine ⟨?_,?_,?_,?_,?_,?_,?_,?_⟩ <;> kernel_rfl
theorem Ahm:Try.prog.cellsOf 123=1∧Ad Try.prog 123=0∧AT Try.prog 123=false∧AY Try.prog 123=none∧ER Try.prog 123=some .u64∧Bu Try.prog 123=some (1,false)∧AD Try.prog 123=.int .u64 0∧Bt Try.prog 123 = []:=by
 refine ⟨?_,?_,?_,?_,?_,?_,?_,?_⟩ <;> kernel_rfl
theorem Ms:Try.prog.cellsOf 130=2∧Ad Try.prog 130=0∧AT Try.prog 130=false∧AY Try.prog 130=none∧Bu Try.prog 130=some (2,true)∧AD Try.prog 130=.agg [.int .i64 0,.int .i64 0]∧BH Try.prog 130=some (2,1)∧II Try.prog 130=some (2,3)∧Cf Try.prog 130=true∧Bt Try.prog 130 = []:=by
 refine ⟨?_,?_,?_,?_,?_,?_,?_,?_,?_,?_⟩ <;> kernel_rfl
theorem kA:Try.prog.cellsOf 131=1∧Ad Try.prog 131=0∧AT Try.prog 131=false∧AY Try.prog 131=some (.ints 2,.int .i64 0)∧Bu Try.prog 131=some (1,false)∧AD Try.prog 131=.nilm∧Bt Try.prog 131 = []:=by
 refine ⟨?_,?_,?_,?_,?_,?_,?_⟩ <;> kernel_rfl
theorem Mt:Try.prog.cellsOf 135=1∧Ad Try.prog 135=1∧BR Try.prog 135=4∧AT Try.prog 135=false∧AY Try.prog 135=none∧Bu Try.prog 135=some (1,false)∧AD Try.prog 135=.nils∧Bt Try.prog 135 = [(0,1)]:=by
 refine ⟨?_,?_,?_,?_,?_,?_,?_,?_⟩ <;> kernel_rfl
theorem DD : Try.prog.cellsOf 136 = 1 ∧ Ad Try.prog 136 = 0 ∧ AT Try.prog 136 = false ∧ AY Try.prog 136 = none ∧ Bu Try.prog 136 = some (1, false) ∧ AD Try.prog 136 = .nilp ∧ Jr Try.prog 136 "Len" = some (81, false, 140) ∧ Jr Try.prog 136 "Less" = some (104, false, 140) ∧ Jr Try.prog 136 "Pop" = some (105, true, 140) ∧ Jr Try.prog 136 "Push" = some (106, true, 140) ∧ Jr Try.prog 136 "Swap" = some (107, false, 140) ∧ KA Try.prog 136 = true ∧ Bt Try.prog 136 = [] := by
 refine ⟨?_,?_,?_,?_,?_,?_,?_,?_,?_,?_,?_,?_,?_⟩ <;> kernel_rfl
theorem Hr:Try.prog.cellsOf 138=2∧Ad Try.prog 138=0∧AT Try.prog 138=false∧AY Try.prog 138=none∧Bu Try.prog 138=some (2,true)∧AD Try.prog 138=.agg [.int .i64 0,.int .i64 0]∧Bc Try.prog 138 0=some (0,1,3)∧Bc Try.prog 138 1=some (1,1,3)∧BH Try.prog 138=none∧Cf Try.prog 138=true∧KA Try.prog 138=true∧Bt Try.prog 138 = []:=by
 refine ⟨?_,?_,?_,?_,?_,?_,?_,?_,?_,?_,?_,?_⟩ <;> kernel_rfl
theorem Dg:Try.prog.cellsOf 140=1∧Ad Try.prog 140=2∧BR Try.prog 140=138∧AT Try.prog 140=false∧AY Try.prog 140=none∧Bu Try.prog 140=some (1,false)∧AD Try.prog 140=.nils∧Bt Try.prog 140 = [(0,2)]:=by
 refine ⟨?_,?_,?_,?_,?_,?_,?_,?_⟩ <;> kernel_rfl
theorem Ot:Try.prog.cellsOf 148=1∧Ad Try.prog 148=0∧AT Try.prog 148=false∧AY Try.prog 148=none∧Bu Try.prog 148=some (1,false)∧AD Try.prog 148=.nili∧Bt Try.prog 148 = []:=by
 refine ⟨?_,?_,?_,?_,?_,?_,?_⟩ <;> kernel_rfl
end Sim
namespace Sim
open Go
def bdD:=(And.intro (And.intro (And.intro (And.intro (And.intro (And.intro @vD @Acz) (And.intro @iH (And.intro @vE @Ac0))) (And.intro (And.intro @ZR (And.intro @vF
 @dD)) (And.intro @dE (And.intro @sG @L7)))) (And.intro (And.intro (And.intro @dF @dG) (And.intro @dH (And.intro @sH @Yw))) (And.intro (And.intro
 @Yx (And.intro @dJ @dK)) (And.intro @dM (And.intro @dN @sJ))))) (And.intro (And.intro (And.intro (And.intro @PD @IV) (And.intro @Ku (And.intro
 @aD @Z6))) (And.intro (And.intro @VY (And.intro @aJ @V7)) (And.intro @aK (And.intro @V4 @SM)))) (And.intro (And.intro (And.intro
 @Z7 (And.intro @I0 @sK)) (And.intro @dB (And.intro @Ab1 @R9))) (And.intro (And.intro @H1 (And.intro @Ab5 @Ab6)) (And.intro @tM (And.intro @Ab7
 @tO)))))) (And.intro (And.intro (And.intro (And.intro (And.intro @tP @tQ) (And.intro @tR (And.intro @Ab8 @tS))) (And.intro (And.intro @Zb (And.intro @fR
 @Vn)) (And.intro @Vo (And.intro @Vp @Sj)))) (And.intro (And.intro (And.intro @fS (And.intro @Zc @tV)) (And.intro @Zd (And.intro
 @Mj @fV))) (And.intro (And.intro @Ze (And.intro @PZ @Zj)) (And.intro @fW (And.intro @Sk @P1))))) (And.intro (And.intro (And.intro
 (And.intro @NK @Zk) (And.intro @NL (And.intro @Zq @NM))) (And.intro (And.intro @Zr (And.intro @Sm @KB)) (And.intro @Zs
 (And.intro @Zp @SA)))) (And.intro (And.intro (And.intro @Qb (And.intro @VS @NP)) (And.intro @Qc (And.intro @Mm @VT)))
 (And.intro (And.intro @ZX (And.intro @ZY @fX)) (And.intro @tZ (And.intro @fT @tX)))))))
def bdP:=(And.intro (And.intro (And.intro (And.intro (And.intro (And.intro (And.intro (And.intro (And.intro @iI @Nat.one_ne_zero) (And.intro @jT @vZ)) (And.intro (And.intro
 @aE @wA) (And.intro @jA @Ac3))) (And.intro (And.intro (And.intro @jB @NT) (And.intro @aG @wB)) (And.intro (And.intro @jC @SH)
 (And.intro @jD @jE)))) (And.intro (And.intro (And.intro (And.intro @jF @aH) (And.intro @jG @jH)) (And.intro (And.intro @V0 @aA) (And.intro
 @aB @iX))) (And.intro (And.intro (And.intro @aC @iZ) (And.intro @Ac2 @vX)) (And.intro (And.intro @vY @wC) (And.intro @V1 @KE)))))
 (And.intro (And.intro (And.intro (And.intro (And.intro @SJ @V2) (And.intro @Qf @jI)) (And.intro (And.intro @Qg @jJ) (And.intro @Qh
 @jK))) (And.intro (And.intro (And.intro @aI @Qi) (And.intro @SK @NU)) (And.intro (And.intro @jL @jM) (And.intro @NV @V3))))
 (And.intro (And.intro (And.intro (And.intro @jN @jO) (And.intro @jP @jQ)) (And.intro (And.intro @jR @SL) (And.intro @Ac4 @UG))) (And.intro
 (And.intro (And.intro @UH @dO) (And.intro @Yy @Ab2)) (And.intro (And.intro @sL @UF) (And.intro @RD (And.intro @RC @Yq))))))) (And.intro
 (And.intro (And.intro (And.intro (And.intro (And.intro @Yr @Ys) (And.intro @Yt @Option.map_some.{0,0})) (And.intro (And.intro @Option.map_none.{0,0} @Option.bind_some.{0,0})
 (And.intro @Option.bind_none.{0,0} @Option.getD_some.{0}))) (And.intro (And.intro (And.intro @Option.getD_none.{0} @Bool.false_eq_true) (And.intro @true_and @and_true)) (And.intro (And.intro
 @List.getD_cons_zero.{0} @List.getD_cons_succ.{0}) (And.intro @List.getElem?_toArray.{0} @List.getElem?_cons_zero.{0})))) (And.intro (And.intro (And.intro (And.intro @List.getElem?_cons_succ.{0}
 @decide_eq_true_eq) (And.intro @decide_eq_false_iff_not @true_implies)) (And.intro (And.intro @forall_const.{1} @forall_const.{0}) (And.intro @sY @Agr))) (And.intro (And.intro (And.intro
 @sT @eD) (And.intro @sV @sU)) (And.intro (And.intro @YO @eE) (And.intro @List.map_cons.{0,0} (And.intro @List.map_nil.{0,0} @List.length_map.{0,0})))))) (And.intro
 (And.intro (And.intro (And.intro (And.intro @Ol @Sa) (And.intro @U3 @List.contains_cons.{0})) (And.intro (And.intro @List.contains_nil.{0} @Bool.or_false) (And.intro
 @Bool.or_true @Bool.false_or))) (And.intro (And.intro (And.intro @Bool.true_or @Int.natCast_nonneg) (And.intro @Int.ofNat_lt @Int.toNat_natCast)) (And.intro (And.intro @sW @sX) (And.intro
 @decide_true @decide_false)))) (And.intro (And.intro (And.intro (And.intro @Option.some.injEq.{0} @exists_eq_left'.{1}) (And.intro @PV.int.injEq @PV.bool.injEq)) (And.intro (And.intro @PV.str.injEq
 @PV.lits.injEq) (And.intro @PV.tuple.injEq @PV.agg.injEq))) (And.intro (And.intro (And.intro @List.cons.injEq.{0} @List.lookup_cons.{0,0}) (And.intro @List.lookup_nil.{0,0} @U0)) (And.intro
 (And.intro @Ags @Agt) (And.intro @Agu (And.intro @Agx @Agv)))))))) (And.intro (And.intro (And.intro (And.intro (And.intro (And.intro (And.intro @Agw @YP) (And.intro @U1
 @EZ)) (And.intro (And.intro @eG @Bool.and_true) (And.intro @Bool.and_self @Bool.true_and))) (And.intro (And.intro (And.intro @List.cons_append.{0} @List.nil_append.{0}) (And.intro
 @List.append_nil.{0} @Ab4)) (And.intro (And.intro @Ok @PX) (And.intro @List.length_append.{0} @List.length_cons.{0})))) (And.intro (And.intro (And.intro (And.intro
 @List.length_nil.{0} @Nat.zero_add) (And.intro @Nat.add_zero @List.drop_zero.{0})) (And.intro (And.intro @List.take_length.{0} @List.take_zero.{0}) (And.intro @Nat.not_succ_le_self
 @List.replicate_succ.{0}))) (And.intro (And.intro (And.intro @List.replicate_zero.{0} @List.length_replicate.{0}) (And.intro @List.set_cons_zero.{0} @List.set_cons_succ.{0})) (And.intro (And.intro
 @eH @eI) (And.intro @Prod.mk.injEq.{0,0} (And.intro @IObj.arr.injEq @Nat.lt_irrefl)))))) (And.intro (And.intro (And.intro (And.intro (And.intro @Nat.lt_succ_self @Bool.not_true)
 (And.intro @Bool.not_false @not_true_eq_false)) (And.intro (And.intro @not_false_eq_true @false_implies) (And.intro @PU @or_false))) (And.intro (And.intro (And.intro @or_true @Nat.le_refl)
 (And.intro @Classical.not_not @U4)) (And.intro (And.intro @U5 @YQ) (And.intro @eJ @eK)))) (And.intro (And.intro (And.intro (And.intro @eM @Sb)
 (And.intro @YR @YT)) (And.intro (And.intro @eN @Ft) (And.intro @sZ @tA))) (And.intro (And.intro (And.intro @U6 @YU) (And.intro @YV
 @eO)) (And.intro (And.intro @tB @tC) (And.intro @tD (And.intro @U7 @U8))))))) (And.intro (And.intro (And.intro (And.intro (And.intro (And.intro @U9
 @YW) (And.intro @eQ @eR)) (And.intro (And.intro @eS @YX) (And.intro @Va @Sc))) (And.intro (And.intro (And.intro @eU @eV) (And.intro
 @Vb @Vc)) (And.intro (And.intro @YY @eW) (And.intro @eX @eY)))) (And.intro (And.intro (And.intro (And.intro @Sd @Vd) (And.intro @Ve
 @YZ)) (And.intro (And.intro @Mi @eZ) (And.intro @fA @Se))) (And.intro (And.intro (And.intro @Y0 @tE) (And.intro @Y2 @tF)) (And.intro
 (And.intro @tG @Vf) (And.intro @Sf (And.intro @fB @fC)))))) (And.intro (And.intro (And.intro (And.intro (And.intro @Vg @Vh) (And.intro @Y3
 @fD)) (And.intro (And.intro @fE @fF) (And.intro @Sg @Sh))) (And.intro (And.intro (And.intro @Vi @Vj) (And.intro @Y5 @fG)) (And.intro
 (And.intro @fH @fI) (And.intro @Si @Y6)))) (And.intro (And.intro (And.intro (And.intro @fJ @JH) (And.intro @tH @Vk)) (And.intro (And.intro
 @Y7 @Vl) (And.intro @V5 @V6))) (And.intro (And.intro (And.intro @SN @SP) (And.intro @NW @NX)) (And.intro (And.intro @Vm
 @Y8) (And.intro @fK (And.intro @fL @fM))))))))) (And.intro (And.intro (And.intro (And.intro (And.intro (And.intro (And.intro (And.intro @tI @fN) (And.intro
 @tJ @NG)) (And.intro (And.intro @NH @fO) (And.intro @tK @tL))) (And.intro (And.intro (And.intro @Y9 @Za) (And.intro @fP @Ab9))
 (And.intro (And.intro @tT @tU) (And.intro @Aca @fQ)))) (And.intro (And.intro (And.intro (And.intro @Vq @Zi) (And.intro @fY @fZ)) (And.intro (And.intro
 @uA @Vr) (And.intro @uB @uC))) (And.intro (And.intro (And.intro @uD @uE) (And.intro @gF @gG)) (And.intro (And.intro @gH @Vv) (And.intro
 @Vu @JI))))) (And.intro (And.intro (And.intro (And.intro (And.intro @Mk @gE) (And.intro @gC @Zf)) (And.intro (And.intro @Zh @Zg)
 (And.intro @Vs @Vt))) (And.intro (And.intro (And.intro @Zl @Zm) (And.intro @Zn @Zo)) (And.intro (And.intro @List.all_cons.{0} @List.all_nil.{0})
 (And.intro @gD @Sn)))) (And.intro (And.intro (And.intro (And.intro @Vw @Ach) (And.intro @Zu @Z0)) (And.intro (And.intro @Z1 @uI) (And.intro
 @Z4 @Z5))) (And.intro (And.intro (And.intro @VV @VW) (And.intro @SC @Qd)) (And.intro (And.intro @NS @vW) (And.intro @SF
 (And.intro @SD @SE))))))) (And.intro (And.intro (And.intro (And.intro (And.intro (And.intro @NQ @NR) (And.intro @iV @iW)) (And.intro (And.intro
 @ZZ @Z2) (And.intro @Z3 @VU))) (And.intro (And.intro (And.intro @Zv @P3) (And.intro @NI @NJ)) (And.intro (And.intro @Acc
 @Aci) (And.intro @Acj @uJ)))) (And.intro (And.intro (And.intro (And.intro @Zw @gJ) (And.intro @gL @Zx)) (And.intro (And.intro @Zy @Ack) (And.intro
 @uL @uM))) (And.intro (And.intro (And.intro @gM @gQ) (And.intro @uO @gR)) (And.intro (And.intro @gT @uP) (And.intro @gU (And.intro @gV
 @Zz)))))) (And.intro (And.intro (And.intro (And.intro (And.intro @ZA @gW) (And.intro @uQ @uR)) (And.intro (And.intro @Vx @ZC) (And.intro @P4
 @P5))) (And.intro (And.intro (And.intro @NN @NO) (And.intro @P6 @Vy)) (And.intro (And.intro @So @Vz) (And.intro @Sp
 @VA)))) (And.intro (And.intro (And.intro (And.intro @Sq @VB) (And.intro @VD @VE)) (And.intro (And.intro @ZD @ZE) (And.intro @gX
 @gY))) (And.intro (And.intro (And.intro @Sr @Ss) (And.intro @VF @VG)) (And.intro (And.intro @St @Su) (And.intro @VH (And.intro
 @VI @Sv)))))))) (And.intro (And.intro (And.intro (And.intro (And.intro (And.intro (And.intro @gZ @P7) (And.intro @Sw @Ag4)) (And.intro (And.intro @Ag5
 @Ag6) (And.intro @Ag7 @Ag8))) (And.intro (And.intro (And.intro @Ag9 @Aiw) (And.intro @Aha @hZ)) (And.intro (And.intro @Ahb @Ahc) (And.intro @Ahd @Ahe)))) (And.intro
 (And.intro (And.intro (And.intro @Ahf @Ahg) (And.intro @Ahh @Ahi)) (And.intro (And.intro @Acn @Aco) (And.intro @Acp @Acq))) (And.intro (And.intro (And.intro @Acr @Acs)
 (And.intro @Acu @Ahj)) (And.intro (And.intro @Ahk @Acx) (And.intro @Acy (And.intro @iA @ZF)))))) (And.intro (And.intro (And.intro (And.intro (And.intro @VJ
 @ZG) (And.intro @ZH @ZI)) (And.intro (And.intro @uT @iC) (And.intro @ZJ @uU))) (And.intro (And.intro (And.intro @uV @uW) (And.intro @uX
 @Sx)) (And.intro (And.intro @P8 @Sy) (And.intro @P9 @vA)))) (And.intro (And.intro (And.intro (And.intro @uZ @uY) (And.intro @iE @iF))
 (And.intro (And.intro @ZK @VK) (And.intro @ZL @ZM))) (And.intro (And.intro (And.intro @ZN @ZO) (And.intro @VL @VM)) (And.intro (And.intro
 @VN @ZP) (And.intro @VO (And.intro @ZQ @iG))))))) (And.intro (And.intro (And.intro (And.intro (And.intro (And.intro @vB @vC) (And.intro @Dt
 @FQ)) (And.intro (And.intro @Int.natCast_eq_zero @Acm) (And.intro @ZB @gI))) (And.intro (And.intro (And.intro @uH @tW) (And.intro @tY @beq_eq_false_iff_ne.{0}))
 (And.intro (And.intro @ne_eq.{1} @vH) (And.intro @ZS @Int.natCast_inj)))) (And.intro (And.intro (And.intro (And.intro @List.take_succ_cons.{0} @List.drop_succ_cons.{0}) (And.intro
 @List.drop_nil.{0} @List.take_nil.{0})) (And.intro (And.intro @ZT @ZU) (And.intro @vI @vJ))) (And.intro (And.intro (And.intro @vK @implies_true.{1}) (And.intro
 @implies_true.{0} @Int.natCast_zero)) (And.intro (And.intro @iJ @ZV) (And.intro @Sz (And.intro @Qa @VQ)))))) (And.intro (And.intro (And.intro (And.intro
 (And.intro @ZW @vL) (And.intro @vM @iK)) (And.intro (And.intro @vO @iL) (And.intro @iM @vP))) (And.intro (And.intro (And.intro @iN @vQ)
 (And.intro @vR @vS)) (And.intro (And.intro @iO @vT) (And.intro @iP @iQ)))) (And.intro (And.intro (And.intro (And.intro @Int.le_refl @Int.natCast_pos) (And.intro
 @beq_self_eq_true.{0} @beq_iff_eq.{0})) (And.intro (And.intro @Acd @uG) (And.intro @uF @false_and))) (And.intro (And.intro (And.intro @and_false @Bool.true_eq_false) (And.intro
 @iR @iT)) (And.intro (And.intro @iU @vU) (And.intro @Ac1 (And.intro @Nat.min_def @Int.cast_ofNat_Int))))))))))
end Sim
