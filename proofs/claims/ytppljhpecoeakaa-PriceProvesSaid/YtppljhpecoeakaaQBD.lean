/- What functions of this seat compute, by values: contracts (lemmas of the statement's proof, under the conditions that each names). -/
import Derived.Test.YtppljhpecoeakaaSimX
import Derived.Test.YtppljhpecoeakaaProg
import Derived.KernelRfl
set_option maxRecDepth 100000
set_option linter.defProp false
namespace Sim
open Go Go.Proofs
theorem ty3:Try.prog.cellsOf 3=1∧Ac Try.prog 3=0∧AP Try.prog 3=false∧AS Try.prog 3=none∧EV Try.prog 3=some .i64∧Bt Try.prog 3=some (1,false)∧Ax Try.prog 3=.int .i64 0∧Bw Try.prog 3 = []:=by
 refine ⟨?_,?_,?_,?_,?_,?_,?_,?_⟩ <;> kernel_rfl
theorem ty4:Try.prog.cellsOf 4=1∧Ac Try.prog 4=0∧AP Try.prog 4=false∧AS Try.prog 4=none∧GI Try.prog 4=true∧Bt Try.prog 4=some (1,false)∧Ax Try.prog 4=.bool false∧Bw Try.prog 4 = []:=by
 refine ⟨?_,?_,?_,?_,?_,?_,?_,?_⟩ <;> kernel_rfl
theorem yX:Try.prog.cellsOf 20=1∧Ac Try.prog 20=0∧AP Try.prog 20=false∧AS Try.prog 20=none∧Bt Try.prog 20=some (1,false)∧Ax Try.prog 20=.nili∧Bw Try.prog 20 = []:=by
 refine ⟨?_,?_,?_,?_,?_,?_,?_⟩ <;> kernel_rfl
theorem Cy:Try.prog.cellsOf 22=1∧Ac Try.prog 22=50∧BM Try.prog 22=62∧AP Try.prog 22=false∧AS Try.prog 22=none∧Bt Try.prog 22=some (1,false)∧Ax Try.prog 22=.nils∧Bw Try.prog 22 = [(0,50)]:=by
 refine ⟨?_,?_,?_,?_,?_,?_,?_,?_⟩ <;> kernel_rfl
theorem AH:Try.prog.cellsOf 24=2∧Ac Try.prog 24=0∧AP Try.prog 24=false∧AS Try.prog 24=none∧Bt Try.prog 24=some (2,true)∧Ax Try.prog 24=.agg [.int .i64 0,.nils]∧A9 Try.prog 24 0=some (0,1,3)∧A9 Try.prog 24 1=some (1,1,22)∧BJ Try.prog 24=none∧Cj Try.prog 24=true∧Bw Try.prog 24 = [(1,50)]:=by
 refine ⟨?_,?_,?_,?_,?_,?_,?_,?_,?_,?_,?_⟩ <;> kernel_rfl
theorem AR:Try.prog.cellsOf 25=1∧Ac Try.prog 25=3∧BM Try.prog 25=69∧AP Try.prog 25=false∧AS Try.prog 25=none∧Bt Try.prog 25=some (1,false)∧Ax Try.prog 25=.nils∧Bw Try.prog 25 = [(0,3)]:=by
 refine ⟨?_,?_,?_,?_,?_,?_,?_,?_⟩ <;> kernel_rfl
theorem AZ:Try.prog.cellsOf 27=5∧Ac Try.prog 27=0∧AP Try.prog 27=false∧AS Try.prog 27=none∧Bt Try.prog 27=some (5,true)∧Ax Try.prog 27=.agg [.int .i64 0,.int .i64 0,.int .i64 0,.int .i64 0,.int .i64 0]∧A9 Try.prog 27 0=some (0,1,3)∧A9 Try.prog 27 1=some (1,1,3)∧A9 Try.prog 27 2=some (2,1,3)∧A9 Try.prog 27 3=some (3,1,3)∧A9 Try.prog 27 4=some (4,1,3)∧BJ Try.prog 27=none∧Cj Try.prog 27=true∧Bw Try.prog 27 = []:=by
 refine ⟨?_,?_,?_,?_,?_,?_,?_,?_,?_,?_,?_,?_,?_,?_⟩ <;> kernel_rfl
theorem Bz:Try.prog.cellsOf 29=8∧Ac Try.prog 29=0∧AP Try.prog 29=false∧AS Try.prog 29=none∧Bt Try.prog 29=some (8,true)∧Ax Try.prog 29=.agg [.int .i64 0,.nils,.nils,.int .i64 0,.int .i64 0,.int .i64 0,.int .i64 0,.int .i64 0]∧A9 Try.prog 29 0=some (0,2,24)∧A9 Try.prog 29 1=some (2,1,25)∧A9 Try.prog 29 2=some (3,5,27)∧BJ Try.prog 29=none∧Cj Try.prog 29=true∧Bw Try.prog 29 = [(1,50),(2,3)]:=by
 refine ⟨?_,?_,?_,?_,?_,?_,?_,?_,?_,?_,?_,?_⟩ <;> kernel_rfl
theorem Br:Try.prog.cellsOf 30=1∧Ac Try.prog 30=1∧BM Try.prog 30=43∧AP Try.prog 30=false∧AS Try.prog 30=none∧Bt Try.prog 30=some (1,false)∧Ax Try.prog 30=.nils∧Bw Try.prog 30 = [(0,1)]:=by
 refine ⟨?_,?_,?_,?_,?_,?_,?_,?_⟩ <;> kernel_rfl
theorem Ae3:Try.prog.cellsOf 34=1∧Ac Try.prog 34=0∧AP Try.prog 34=false∧AS Try.prog 34=none∧EV Try.prog 34=some .i64∧Bt Try.prog 34=some (1,false)∧Ax Try.prog 34=.int .i64 0∧Bw Try.prog 34 = []:=by
 refine ⟨?_,?_,?_,?_,?_,?_,?_,?_⟩ <;> kernel_rfl
theorem AW:Try.prog.cellsOf 43=1∧Ac Try.prog 43=1∧BM Try.prog 43=3∧AP Try.prog 43=false∧AS Try.prog 43=none∧Bt Try.prog 43=some (1,false)∧Ax Try.prog 43=.nils∧Bw Try.prog 43 = [(0,1)]:=by
 refine ⟨?_,?_,?_,?_,?_,?_,?_,?_⟩ <;> kernel_rfl
theorem Nu:Try.prog.cellsOf 60=24∧Ac Try.prog 60=0∧AP Try.prog 60=false∧AS Try.prog 60=none∧Bt Try.prog 60=some (24,true)∧Ax Try.prog 60=.agg [.int .i64 0,.int .i64 0,.int .i64 0,.int .i64 0,.int .i64 0,.int .i64 0,.int .i64 0,.int .i64 0,.int .i64 0,.int .i64 0,.int .i64 0,.int .i64 0,.int .i64 0,.int .i64 0,.int .i64 0,.int .i64 0,.int .i64 0,.int .i64 0,.int .i64 0,.int .i64 0,.int .i64 0,.int .i64 0,.int .i64 0,.int .i64 0]∧BJ Try.prog 60=some (24,1)∧JW Try.prog 60=some (24,3)∧Cj Try.prog 60=true∧Bw Try.prog 60 = []:=by
 refine ⟨?_,?_,?_,?_,?_,?_,?_,?_,?_,?_⟩ <;> kernel_rfl
theorem C7:Try.prog.cellsOf 62=50∧Ac Try.prog 62=0∧AP Try.prog 62=false∧AS Try.prog 62=none∧Bt Try.prog 62=some (50,true)∧Ax Try.prog 62=.agg [.int .i64 0,.int .i64 0,.int .i64 0,.int .i64 0,.int .i64 0,.int .i64 0,.int .i64 0,.int .i64 0,.int .i64 0,.int .i64 0,.int .i64 0,.int .i64 0,.int .i64 0,.int .i64 0,.int .i64 0,.int .i64 0,.int .i64 0,.int .i64 0,.int .i64 0,.int .i64 0,.int .i64 0,.int .i64 0,.int .i64 0,.int .i64 0,.int .i64 0,.int .i64 0,.int .i64 0,.int .i64 0,.int .i64 0,.int .i64 0,.int .i64 0,.int .i64 0,.int .i64 0,.int .i64 0,.int .i64 0,.int .i64 0,.int .i64 0,.int .i64 0,.int .i64 0,.int .i64 0,.int .i64 0,.int .i64 0,.int .i64 0,.int .i64 0,.int .i64 0,.int .i64 0,.int .i64 0,.int .i64 0,.int .i64 0,.int .i64 0]∧A9 Try.prog 62 0=some (0,1,3)∧A9 Try.prog 62 1=some (1,1,3)∧A9 Try.prog 62 2=some (2,24,60)∧A9 Try.prog 62 3=some (26,24,60)∧BJ Try.prog 62=none∧Cj Try.prog 62=true∧Bw Try.prog 62 = []:=by
 refine ⟨?_,?_,?_,?_,?_,?_,?_,?_,?_,?_,?_,?_,?_⟩ <;> kernel_rfl
theorem CJ:Try.prog.cellsOf 69=3∧Ac Try.prog 69=0∧AP Try.prog 69=false∧AS Try.prog 69=none∧Bt Try.prog 69=some (3,true)∧Ax Try.prog 69=.agg [.int .i64 0,.int .i64 0,.int .i64 0]∧A9 Try.prog 69 0=some (0,1,3)∧A9 Try.prog 69 1=some (1,1,3)∧A9 Try.prog 69 2=some (2,1,3)∧BJ Try.prog 69=none∧Cj Try.prog 69=true∧Bw Try.prog 69 = []:=by
 refine ⟨?_,?_,?_,?_,?_,?_,?_,?_,?_,?_,?_,?_⟩ <;> kernel_rfl
theorem rM:Try.prog.cellsOf 72=1∧Ac Try.prog 72=0∧AP Try.prog 72=false∧AS Try.prog 72=none∧Bt Try.prog 72=some (1,false)∧Ax Try.prog 72=.nilf∧Bw Try.prog 72 = []:=by
 refine ⟨?_,?_,?_,?_,?_,?_,?_⟩ <;> kernel_rfl
theorem Gc:Try.prog.cellsOf 78=2∧Ac Try.prog 78=0∧AP Try.prog 78=false∧AS Try.prog 78=none∧Bt Try.prog 78=some (2,true)∧Ax Try.prog 78=.agg [.int .i64 0,.int .i64 0]∧A9 Try.prog 78 0=some (0,1,3)∧A9 Try.prog 78 1=some (1,1,3)∧BJ Try.prog 78=none∧Cj Try.prog 78=true∧Bw Try.prog 78 = []:=by
 refine ⟨?_,?_,?_,?_,?_,?_,?_,?_,?_,?_,?_⟩ <;> kernel_rfl
theorem Gy:Try.prog.cellsOf 80=54∧Ac Try.prog 80=0∧AP Try.prog 80=false∧AS Try.prog 80=none∧Bt Try.prog 80=some (54,true)∧Ax Try.prog 80=.agg [.int .i64 0,.int .i64 0,.int .i64 0,.int .i64 0,.int .i64 0,.int .i64 0,.int .i64 0,.int .i64 0,.int .i64 0,.int .i64 0,.int .i64 0,.int .i64 0,.int .i64 0,.int .i64 0,.int .i64 0,.int .i64 0,.int .i64 0,.int .i64 0,.int .i64 0,.int .i64 0,.int .i64 0,.int .i64 0,.int .i64 0,.int .i64 0,.int .i64 0,.int .i64 0,.int .i64 0,.int .i64 0,.int .i64 0,.int .i64 0,.int .i64 0,.int .i64 0,.int .i64 0,.int .i64 0,.int .i64 0,.int .i64 0,.int .i64 0,.int .i64 0,.int .i64 0,.int .i64 0,.int .i64 0,.int .i64 0,.int .i64 0,.int .i64 0,.int .i64 0,.int .i64 0,.int .i64 0,.int .i64 0,.int .i64 0,.int .i64 0,.int .i64 0,.int .i64 0,.int .i64 0,.int .i64 0]∧A9 Try.prog 80 0=some (0,2,78)∧A9 Try.prog 80 1=some (2,50,62)∧A9 Try.prog 80 2=some (52,1,3)∧A9 Try.prog 80 3=some (53,1,3)∧BJ Try.prog 80=none∧Cj Try.prog 80=true∧Bw Try.prog 80 = []:=by
 refine ⟨?_,?_,?_,?_,?_,?_,?_,?_,?_,?_,?_,?_,?_⟩ <;> kernel_rfl
theorem H1:Try.prog.cellsOf 85=1∧Ac Try.prog 85=0∧AP Try.prog 85=false∧AS Try.prog 85=some (.ints 2,.int .i64 0)∧Bt Try.prog 85=some (1,false)∧Ax Try.prog 85=.nilm∧Bw Try.prog 85 = []:=by
 refine ⟨?_,?_,?_,?_,?_,?_,?_⟩ <;> kernel_rfl
theorem Sa:Try.prog.cellsOf 88=1∧Ac Try.prog 88=0∧AP Try.prog 88=false∧AS Try.prog 88=none∧Bt Try.prog 88=some (1,false)∧Ax Try.prog 88=.nilp∧Bw Try.prog 88 = []:=by
 refine ⟨?_,?_,?_,?_,?_,?_,?_⟩ <;> kernel_rfl
theorem Pt:Try.prog.cellsOf 89=1∧Ac Try.prog 89=0∧AP Try.prog 89=false∧AS Try.prog 89=none∧Bt Try.prog 89=some (1,false)∧Ax Try.prog 89=.nilf∧Bw Try.prog 89 = []:=by
 refine ⟨?_,?_,?_,?_,?_,?_,?_⟩ <;> kernel_rfl
theorem Jn:Try.prog.cellsOf 90=1∧Ac Try.prog 90=0∧AP Try.prog 90=false∧AS Try.prog 90=none∧Bt Try.prog 90=some (1,false)∧Ax Try.prog 90=.nilp∧Bw Try.prog 90 = []:=by
 refine ⟨?_,?_,?_,?_,?_,?_,?_⟩ <;> kernel_rfl
theorem Ki:Try.prog.cellsOf 93=1∧Ac Try.prog 93=4∧BM Try.prog 93=97∧AP Try.prog 93=false∧AS Try.prog 93=none∧Bt Try.prog 93=some (1,false)∧Ax Try.prog 93=.nils∧Bw Try.prog 93 = [(0,4)]:=by
 refine ⟨?_,?_,?_,?_,?_,?_,?_,?_⟩ <;> kernel_rfl
theorem Gz:Try.prog.cellsOf 95=3∧Ac Try.prog 95=0∧AP Try.prog 95=false∧AS Try.prog 95=none∧Bt Try.prog 95=some (3,true)∧Ax Try.prog 95=.agg [.nils,.nils,.nils]∧A9 Try.prog 95 0=some (0,1,93)∧A9 Try.prog 95 1=some (1,1,30)∧A9 Try.prog 95 2=some (2,1,43)∧BJ Try.prog 95=none∧Cj Try.prog 95=true∧Bw Try.prog 95 = [(0,4),(1,1),(2,1)]:=by
 refine ⟨?_,?_,?_,?_,?_,?_,?_,?_,?_,?_,?_,?_⟩ <;> kernel_rfl
theorem K1:Try.prog.cellsOf 97=4∧Ac Try.prog 97=0∧AP Try.prog 97=false∧AS Try.prog 97=none∧Bt Try.prog 97=some (4,true)∧Ax Try.prog 97=.agg [.int .i64 0,.int .i64 0,.int .i64 0,.int .i64 0]∧A9 Try.prog 97 0=some (0,1,3)∧A9 Try.prog 97 1=some (1,1,3)∧A9 Try.prog 97 2=some (2,1,3)∧A9 Try.prog 97 3=some (3,1,3)∧BJ Try.prog 97=none∧Cj Try.prog 97=true∧Bw Try.prog 97 = []:=by
 refine ⟨?_,?_,?_,?_,?_,?_,?_,?_,?_,?_,?_,?_,?_⟩ <;> kernel_rfl
theorem Jo:Try.prog.cellsOf 100=1∧Ac Try.prog 100=4∧BM Try.prog 100=103∧AP Try.prog 100=false∧AS Try.prog 100=none∧Bt Try.prog 100=some (1,false)∧Ax Try.prog 100=.nils∧Bw Try.prog 100 = [(0,4)]:=by
 refine ⟨?_,?_,?_,?_,?_,?_,?_,?_⟩ <;> kernel_rfl
theorem NV:Try.prog.cellsOf 101=1∧Ac Try.prog 101=0∧AP Try.prog 101=false∧AS Try.prog 101=none∧Bt Try.prog 101=some (1,false)∧Ax Try.prog 101=.nilf∧Bw Try.prog 101 = []:=by
 refine ⟨?_,?_,?_,?_,?_,?_,?_⟩ <;> kernel_rfl
theorem LY:Try.prog.cellsOf 103=4∧Ac Try.prog 103=0∧AP Try.prog 103=false∧AS Try.prog 103=none∧Bt Try.prog 103=some (4,true)∧Ax Try.prog 103=.agg [.int .i64 0,.int .i64 0,.int .i64 0,.int .i64 0]∧A9 Try.prog 103 0=some (0,1,3)∧A9 Try.prog 103 1=some (1,1,3)∧A9 Try.prog 103 2=some (2,1,3)∧A9 Try.prog 103 3=some (3,1,3)∧BJ Try.prog 103=none∧Cj Try.prog 103=true∧Bw Try.prog 103 = []:=by
 refine ⟨?_,?_,?_,?_,?_,?_,?_,?_,?_,?_,?_,?_,?_⟩ <;> kernel_rfl
theorem fG:Try.prog.cellsOf 104=1∧Ac Try.prog 104=0∧AP Try.prog 104=false∧AS Try.prog 104=none∧Bt Try.prog 104=some (1,false)∧Ax Try.prog 104=.nilf∧Bw Try.prog 104 = []:=by
 refine ⟨?_,?_,?_,?_,?_,?_,?_⟩ <;> kernel_rfl
theorem VM:Try.prog.cellsOf 110=1∧Ac Try.prog 110=0∧AP Try.prog 110=false∧AS Try.prog 110=none∧Bt Try.prog 110=some (1,false)∧Ax Try.prog 110=.nilf∧Bw Try.prog 110 = []:=by
 refine ⟨?_,?_,?_,?_,?_,?_,?_⟩ <;> kernel_rfl
theorem Adq:Try.prog.cellsOf 111=1∧Ac Try.prog 111=0∧AP Try.prog 111=false∧AS Try.prog 111=none∧EV Try.prog 111=some .u64∧Bt Try.prog 111=some (1,false)∧Ax Try.prog 111=.int .u64 0∧Bw Try.prog 111 = []:=by
 refine ⟨?_,?_,?_,?_,?_,?_,?_,?_⟩ <;> kernel_rfl
theorem Adr:Try.prog.cellsOf 123=1∧Ac Try.prog 123=0∧AP Try.prog 123=false∧AS Try.prog 123=none∧EV Try.prog 123=some .u64∧Bt Try.prog 123=some (1,false)∧Ax Try.prog 123=.int .u64 0∧Bw Try.prog 123 = []:=by
 refine ⟨?_,?_,?_,?_,?_,?_,?_,?_⟩ <;> kernel_rfl
theorem LZ:Try.prog.cellsOf 130=2∧Ac Try.prog 130=0∧AP Try.prog 130=false∧AS Try.prog 130=none∧Bt Try.prog 130=some (2,true)∧Ax Try.prog 130=.agg [.int .i64 0,.int .i64 0]∧BJ Try.prog 130=some (2,1)∧JW Try.prog 130=some (2,3)∧Cj Try.prog 130=true∧Bw Try.prog 130 = []:=by
 refine ⟨?_,?_,?_,?_,?_,?_,?_,?_,?_,?_⟩ <;> kernel_rfl
theorem fH:Try.prog.cellsOf 131=1∧Ac Try.prog 131=0∧AP Try.prog 131=false∧AS Try.prog 131=some (.ints 2,.int .i64 0)∧Bt Try.prog 131=some (1,false)∧Ax Try.prog 131=.nilm∧Bw Try.prog 131 = []:=by
 refine ⟨?_,?_,?_,?_,?_,?_,?_⟩ <;> kernel_rfl
theorem L3:Try.prog.cellsOf 135=1∧Ac Try.prog 135=1∧BM Try.prog 135=4∧AP Try.prog 135=false∧AS Try.prog 135=none∧Bt Try.prog 135=some (1,false)∧Ax Try.prog 135=.nils∧Bw Try.prog 135 = [(0,1)]:=by
 refine ⟨?_,?_,?_,?_,?_,?_,?_,?_⟩ <;> kernel_rfl
theorem Du : Try.prog.cellsOf 136 = 1 ∧ Ac Try.prog 136 = 0 ∧ AP Try.prog 136 = false ∧ AS Try.prog 136 = none ∧ Bt Try.prog 136 = some (1, false) ∧ Ax Try.prog 136 = .nilp ∧ I3 Try.prog 136 "Len" = some (81, false, 140) ∧ I3 Try.prog 136 "Less" = some (104, false, 140) ∧ I3 Try.prog 136 "Pop" = some (105, true, 140) ∧ I3 Try.prog 136 "Push" = some (106, true, 140) ∧ I3 Try.prog 136 "Swap" = some (107, false, 140) ∧ Ka Try.prog 136 = true ∧ Bw Try.prog 136 = [] := by
 refine ⟨?_,?_,?_,?_,?_,?_,?_,?_,?_,?_,?_,?_,?_⟩ <;> kernel_rfl
theorem He:Try.prog.cellsOf 138=2∧Ac Try.prog 138=0∧AP Try.prog 138=false∧AS Try.prog 138=none∧Bt Try.prog 138=some (2,true)∧Ax Try.prog 138=.agg [.int .i64 0,.int .i64 0]∧A9 Try.prog 138 0=some (0,1,3)∧A9 Try.prog 138 1=some (1,1,3)∧BJ Try.prog 138=none∧Cj Try.prog 138=true∧Ka Try.prog 138=true∧Bw Try.prog 138 = []:=by
 refine ⟨?_,?_,?_,?_,?_,?_,?_,?_,?_,?_,?_,?_⟩ <;> kernel_rfl
theorem C6:Try.prog.cellsOf 140=1∧Ac Try.prog 140=2∧BM Try.prog 140=138∧AP Try.prog 140=false∧AS Try.prog 140=none∧Bt Try.prog 140=some (1,false)∧Ax Try.prog 140=.nils∧Bw Try.prog 140 = [(0,2)]:=by
 refine ⟨?_,?_,?_,?_,?_,?_,?_,?_⟩ <;> kernel_rfl
theorem NW:Try.prog.cellsOf 148=1∧Ac Try.prog 148=0∧AP Try.prog 148=false∧AS Try.prog 148=none∧Bt Try.prog 148=some (1,false)∧Ax Try.prog 148=.nili∧Bw Try.prog 148 = []:=by
 refine ⟨?_,?_,?_,?_,?_,?_,?_⟩ <;> kernel_rfl
end Sim
namespace Sim
open Go
def bdD:=(And.intro (And.intro (And.intro (And.intro (And.intro (And.intro @qJ @yR) (And.intro @dN (And.intro @qK @yS))) (And.intro (And.intro @YC (And.intro @qL
 @ZS)) (And.intro @ZT (And.intro @nP @LD)))) (And.intro (And.intro (And.intro @ZU @ZV) (And.intro @ZW (And.intro @nQ @Xj))) (And.intro (And.intro
 @Xk (And.intro @ZX @ZY)) (And.intro @ZZ (And.intro @Z0 @nR))))) (And.intro (And.intro (And.intro (And.intro @OM @Ix) (And.intro @J4 (And.intro
 @YZ @YR))) (And.intro (And.intro @UT (And.intro @Y6 @U2)) (And.intro @Y7 (And.intro @UZ @R4)))) (And.intro (And.intro (And.intro
 @YT (And.intro @IC @nS)) (And.intro @ZQ (And.intro @xJ @Rn))) (And.intro (And.intro @HJ (And.intro @xN @xO)) (And.intro @oS (And.intro @xP
 @oT)))))) (And.intro (And.intro (And.intro (And.intro (And.intro @oU @oV) (And.intro @oW (And.intro @xQ @oX))) (And.intro (And.intro @XW (And.intro @bX
 @Uk)) (And.intro @Ul (And.intro @Um @Rx)))) (And.intro (And.intro (And.intro @bY (And.intro @XX @pA)) (And.intro @XY (And.intro
 @LP @cB))) (And.intro (And.intro @XZ (And.intro @Pa @X4)) (And.intro @cC (And.intro @Ry @Pb))))) (And.intro (And.intro (And.intro
 (And.intro @Ng @X5) (And.intro @Nh (And.intro @Yb @Ni))) (And.intro (And.intro @Yc (And.intro @RA @Kb)) (And.intro @Yd
 (And.intro @Ya @RO)))) (And.intro (And.intro (And.intro @Pk (And.intro @UN @Nl)) (And.intro @Pl (And.intro @LS @UO)))
 (And.intro (And.intro @YI (And.intro @YJ @cD)) (And.intro @pF (And.intro @bZ @pC)))))))
def bdP:=(And.intro (And.intro (And.intro (And.intro (And.intro (And.intro (And.intro (And.intro (And.intro @dO @Nat.one_ne_zero) (And.intro @fB @rG)) (And.intro (And.intro
 @Y0 @rH) (And.intro @eG @yV))) (And.intro (And.intro (And.intro @eH @Np) (And.intro @Y2 @rI)) (And.intro (And.intro @eI @RV)
 (And.intro @eJ @eK)))) (And.intro (And.intro (And.intro (And.intro @eM @Y3) (And.intro @eN @eO)) (And.intro (And.intro @UV @YW) (And.intro
 @YX @eD))) (And.intro (And.intro (And.intro @YY @eE) (And.intro @yU @rD)) (And.intro (And.intro @rF @rJ) (And.intro @UW @Ke)))))
 (And.intro (And.intro (And.intro (And.intro (And.intro @RY @UX) (And.intro @Po @eQ)) (And.intro (And.intro @Pp @eR) (And.intro @Pq
 @eS))) (And.intro (And.intro (And.intro @Y5 @Pr) (And.intro @RZ @Nq)) (And.intro (And.intro @eU @eV) (And.intro @Nr @UY))))
 (And.intro (And.intro (And.intro (And.intro @eW @eX) (And.intro @eY @eZ)) (And.intro (And.intro @fA @R3) (And.intro @yW @TB))) (And.intro
 (And.intro (And.intro @TC @Z1) (And.intro @Xl @xK)) (And.intro (And.intro @nT @TA) (And.intro @QW (And.intro @QV @Xd))))))) (And.intro
 (And.intro (And.intro (And.intro (And.intro (And.intro @Xe @Xf) (And.intro @Xg @Option.map_some.{0,0})) (And.intro (And.intro @Option.map_none.{0,0} @Option.bind_some.{0,0})
 (And.intro @Option.bind_none.{0,0} @Option.getD_some.{0}))) (And.intro (And.intro (And.intro @Option.getD_none.{0} @Bool.false_eq_true) (And.intro @true_and @and_true)) (And.intro (And.intro
 @List.getD_cons_zero.{0} @List.getD_cons_succ.{0}) (And.intro @List.getElem?_toArray.{0} @List.getElem?_cons_zero.{0})))) (And.intro (And.intro (And.intro (And.intro @List.getElem?_cons_succ.{0}
 @decide_eq_true_eq) (And.intro @decide_eq_false_iff_not @true_implies)) (And.intro (And.intro @forall_const.{1} @forall_const.{0}) (And.intro @oE @Acv))) (And.intro (And.intro (And.intro
 @nZ @aG) (And.intro @oB @oA)) (And.intro (And.intro @XB @aH) (And.intro @List.map_cons.{0,0} (And.intro @List.map_nil.{0,0} @List.length_map.{0,0})))))) (And.intro
 (And.intro (And.intro (And.intro (And.intro @XD @Ro) (And.intro @TZ @List.contains_cons.{0})) (And.intro (And.intro @List.contains_nil.{0} @Bool.or_false) (And.intro
 @Bool.or_true @Bool.false_or))) (And.intro (And.intro (And.intro @Bool.true_or @Int.natCast_nonneg) (And.intro @Int.ofNat_lt @Int.toNat_natCast)) (And.intro (And.intro @oC @oD) (And.intro
 @decide_true @decide_false)))) (And.intro (And.intro (And.intro (And.intro @Option.some.injEq.{0} @exists_eq_left'.{1}) (And.intro @PV.int.injEq @PV.bool.injEq)) (And.intro (And.intro @PV.str.injEq
 @PV.lits.injEq) (And.intro @PV.tuple.injEq @PV.agg.injEq))) (And.intro (And.intro (And.intro @List.cons.injEq.{0} @List.lookup_cons.{0,0}) (And.intro @List.lookup_nil.{0,0} @TW)) (And.intro
 (And.intro @Acw @Acx) (And.intro @Acy (And.intro @Ac1 @Acz)))))))) (And.intro (And.intro (And.intro (And.intro (And.intro (And.intro (And.intro @Ac0 @XC) (And.intro @TX
 @Hb)) (And.intro (And.intro @aI @Bool.and_true) (And.intro @Bool.and_self @Bool.true_and))) (And.intro (And.intro (And.intro @List.cons_append.{0} @List.nil_append.{0}) (And.intro
 @List.append_nil.{0} @xM)) (And.intro (And.intro @NR @OZ) (And.intro @List.length_append.{0} @List.length_cons.{0})))) (And.intro (And.intro (And.intro (And.intro
 @List.length_nil.{0} @Nat.zero_add) (And.intro @Nat.add_zero @List.drop_zero.{0})) (And.intro (And.intro @List.take_length.{0} @List.take_zero.{0}) (And.intro @Nat.not_succ_le_self
 @List.replicate_succ.{0}))) (And.intro (And.intro (And.intro @List.replicate_zero.{0} @List.length_replicate.{0}) (And.intro @List.set_cons_zero.{0} @List.set_cons_succ.{0})) (And.intro (And.intro
 @aJ @aK) (And.intro @Prod.mk.injEq.{0,0} (And.intro @IObj.arr.injEq @Nat.lt_irrefl)))))) (And.intro (And.intro (And.intro (And.intro (And.intro @Nat.lt_succ_self @Bool.not_true)
 (And.intro @Bool.not_false @not_true_eq_false)) (And.intro (And.intro @not_false_eq_true @false_implies) (And.intro @OY @or_false))) (And.intro (And.intro (And.intro @or_true @Nat.le_refl)
 (And.intro @Classical.not_not @T0)) (And.intro (And.intro @T1 @XE) (And.intro @aM @aN)))) (And.intro (And.intro (And.intro (And.intro @aQ @Rp)
 (And.intro @XF @XG)) (And.intro (And.intro @aR @Fa) (And.intro @oF @oG))) (And.intro (And.intro (And.intro @T3 @XH) (And.intro @XI
 @aS)) (And.intro (And.intro @oH @oI) (And.intro @oJ (And.intro @T4 @T5))))))) (And.intro (And.intro (And.intro (And.intro (And.intro (And.intro @T6
 @XJ) (And.intro @aU @aV)) (And.intro (And.intro @aW @XK) (And.intro @T7 @Rq))) (And.intro (And.intro (And.intro @aX @aY) (And.intro
 @T8 @T9)) (And.intro (And.intro @XL @aZ) (And.intro @bB @bC)))) (And.intro (And.intro (And.intro (And.intro @Rr @Ua) (And.intro @Ub
 @XM)) (And.intro (And.intro @LO @bE) (And.intro @bF @Rs))) (And.intro (And.intro (And.intro @XN @oK) (And.intro @XO @oL)) (And.intro
 (And.intro @oM @Uc) (And.intro @Rt (And.intro @bG @bH)))))) (And.intro (And.intro (And.intro (And.intro (And.intro @Ud @Ue) (And.intro @XP
 @bI)) (And.intro (And.intro @bJ @bK) (And.intro @Ru @Rv))) (And.intro (And.intro (And.intro @Uf @Ug) (And.intro @XQ @bL)) (And.intro
 (And.intro @bM @bN) (And.intro @Rw @XR)))) (And.intro (And.intro (And.intro (And.intro @bP @Jj) (And.intro @oN @Uh)) (And.intro (And.intro
 @XS @Ui) (And.intro @U0 @U1))) (And.intro (And.intro (And.intro @R5 @R6) (And.intro @Ns @Nt)) (And.intro (And.intro @Uj
 @XT) (And.intro @bQ (And.intro @bR @bS))))))))) (And.intro (And.intro (And.intro (And.intro (And.intro (And.intro (And.intro (And.intro @oO @bT) (And.intro
 @oP @Nb)) (And.intro (And.intro @Nc @bU) (And.intro @oQ @oR))) (And.intro (And.intro (And.intro @XU @XV) (And.intro @bV @xR))
 (And.intro (And.intro @oY @oZ) (And.intro @xS @bW)))) (And.intro (And.intro (And.intro (And.intro @Un @X3) (And.intro @cE @cF)) (And.intro (And.intro
 @pG @Uo) (And.intro @pH @pI))) (And.intro (And.intro (And.intro @pJ @pK) (And.intro @cK @cL)) (And.intro (And.intro @cM @Us) (And.intro
 @Ur @Jk))))) (And.intro (And.intro (And.intro (And.intro (And.intro @LQ @cJ) (And.intro @cH @X0)) (And.intro (And.intro @X2 @X1)
 (And.intro @Up @Uq))) (And.intro (And.intro (And.intro @X6 @X7) (And.intro @X8 @X9)) (And.intro (And.intro @List.all_cons.{0} @List.all_nil.{0})
 (And.intro @cI @RB)))) (And.intro (And.intro (And.intro (And.intro @Ut @xZ) (And.intro @Yf @YL)) (And.intro (And.intro @YM @pO) (And.intro
 @YP @YQ))) (And.intro (And.intro (And.intro @UQ @UR) (And.intro @RP @Pm)) (And.intro (And.intro @No @rC) (And.intro @RT
 (And.intro @RR @RS))))))) (And.intro (And.intro (And.intro (And.intro (And.intro (And.intro @Nm @Nn) (And.intro @eB @eC)) (And.intro (And.intro
 @YK @YN) (And.intro @YO @UP))) (And.intro (And.intro (And.intro @Yg @Pc) (And.intro @Nd @Nf)) (And.intro (And.intro @xU
 @yA) (And.intro @yB @pP)))) (And.intro (And.intro (And.intro (And.intro @Yh @cO) (And.intro @cP @Yi)) (And.intro (And.intro @Yj @yC) (And.intro
 @pR @pS))) (And.intro (And.intro (And.intro @cQ @cR) (And.intro @pT @cT)) (And.intro (And.intro @cU @pU) (And.intro @cV (And.intro @cW
 @Yk)))))) (And.intro (And.intro (And.intro (And.intro (And.intro @Yl @cX) (And.intro @pV @pW)) (And.intro (And.intro @Uu @Yn) (And.intro @Pd
 @Pe))) (And.intro (And.intro (And.intro @Nj @Nk) (And.intro @Pf @Uv)) (And.intro (And.intro @RC @Uw) (And.intro @RD
 @Ux)))) (And.intro (And.intro (And.intro (And.intro @RE @Uy) (And.intro @Uz @UA)) (And.intro (And.intro @Yo @Yp) (And.intro @cZ
 @dB))) (And.intro (And.intro (And.intro @RF @RG) (And.intro @UB @UC)) (And.intro (And.intro @RH @RI) (And.intro @UD (And.intro
 @UE @RJ)))))))) (And.intro (And.intro (And.intro (And.intro (And.intro (And.intro (And.intro @dC @Pg) (And.intro @RK @Ac8)) (And.intro (And.intro @Ac9
 @Ada) (And.intro @Adb @Adc))) (And.intro (And.intro (And.intro @Ade @Ae2) (And.intro @Adf @dD)) (And.intro (And.intro @Adg @Adh) (And.intro @Adi @Adj)))) (And.intro
 (And.intro (And.intro (And.intro @Adk @Adl) (And.intro @Adm @Adn)) (And.intro (And.intro @yF @yG) (And.intro @yH @yJ))) (And.intro (And.intro (And.intro @yK @yL)
 (And.intro @yM @Ado)) (And.intro (And.intro @Adp @yP) (And.intro @yQ (And.intro @dE @Yq)))))) (And.intro (And.intro (And.intro (And.intro (And.intro @UF
 @Yr) (And.intro @Ys @Yt)) (And.intro (And.intro @pY @dG) (And.intro @Yu @pZ))) (And.intro (And.intro (And.intro @qA @qC) (And.intro @qD
 @RL)) (And.intro (And.intro @Ph @RM) (And.intro @Pi @qG)))) (And.intro (And.intro (And.intro (And.intro @qF @qE) (And.intro @dJ @dK))
 (And.intro (And.intro @Yv @UG) (And.intro @Yw @Yx))) (And.intro (And.intro (And.intro @Yy @Yz) (And.intro @UH @UI)) (And.intro (And.intro
 @UJ @YA) (And.intro @UK (And.intro @YB @dM))))))) (And.intro (And.intro (And.intro (And.intro (And.intro (And.intro @qH @qI) (And.intro @Dl
 @Fy)) (And.intro (And.intro @Int.natCast_eq_zero @yE) (And.intro @Ym @cN))) (And.intro (And.intro (And.intro @pN @pB) (And.intro @pE @beq_eq_false_iff_ne.{0}))
 (And.intro (And.intro @ne_eq.{1} @qN) (And.intro @YD @Int.natCast_inj)))) (And.intro (And.intro (And.intro (And.intro @List.take_succ_cons.{0} @List.drop_succ_cons.{0}) (And.intro
 @List.drop_nil.{0} @List.take_nil.{0})) (And.intro (And.intro @YE @YF) (And.intro @qO @qP))) (And.intro (And.intro (And.intro @qQ @implies_true.{1}) (And.intro
 @implies_true.{0} @Int.natCast_zero)) (And.intro (And.intro @dP @YG) (And.intro @RN (And.intro @Pj @UM)))))) (And.intro (And.intro (And.intro (And.intro
 (And.intro @YH @qR) (And.intro @qS @dQ)) (And.intro (And.intro @qT @dR) (And.intro @dT @qU))) (And.intro (And.intro (And.intro @dU @qV)
 (And.intro @qW @qX)) (And.intro (And.intro @dV @qY) (And.intro @dW @dX)))) (And.intro (And.intro (And.intro (And.intro @Int.le_refl @Int.natCast_pos) (And.intro
 @beq_self_eq_true.{0} @beq_iff_eq.{0})) (And.intro (And.intro @xV @pM) (And.intro @pL @false_and))) (And.intro (And.intro (And.intro @and_false @Bool.true_eq_false) (And.intro
 @dY @dZ)) (And.intro (And.intro @eA @qZ) (And.intro @yT (And.intro @Nat.min_def @Int.cast_ofNat_Int))))))))))
end Sim
