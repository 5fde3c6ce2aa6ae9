/- What functions of this seat compute, by values: contracts (lemmas of the statement's proof, under the conditions that each names). -/
import Derived.Test.YtppljhpecoeakaaSimX
import Derived.Test.YtppljhpecoeakaaProg
import Derived.KernelRfl
set_option maxRecDepth 100000
set_option linter.defProp false
namespace Sim
open Go Go.Proofs
theorem ty3:Try.prog.cellsOf 3=1∧Ad Try.prog 3=0∧AW Try.prog 3=false∧AZ Try.prog 3=none∧Fh Try.prog 3=some .i64∧Bt Try.prog 3=some (1,false)∧AD Try.prog 3=.int .i64 0∧Bw Try.prog 3 = []:=by
 refine ⟨?_,?_,?_,?_,?_,?_,?_,?_⟩ <;> kernel_rfl
theorem ty4:Try.prog.cellsOf 4=1∧Ad Try.prog 4=0∧AW Try.prog 4=false∧AZ Try.prog 4=none∧GU Try.prog 4=true∧Bt Try.prog 4=some (1,false)∧AD Try.prog 4=.bool false∧Bw Try.prog 4 = []:=by
 refine ⟨?_,?_,?_,?_,?_,?_,?_,?_⟩ <;> kernel_rfl
theorem Abr:Try.prog.cellsOf 20=1∧Ad Try.prog 20=0∧AW Try.prog 20=false∧AZ Try.prog 20=none∧Bt Try.prog 20=some (1,false)∧AD Try.prog 20=.nili∧Bw Try.prog 20 = []:=by
 refine ⟨?_,?_,?_,?_,?_,?_,?_⟩ <;> kernel_rfl
theorem BE:Try.prog.cellsOf 22=1∧Ad Try.prog 22=50∧BR Try.prog 22=62∧AW Try.prog 22=false∧AZ Try.prog 22=none∧Bt Try.prog 22=some (1,false)∧AD Try.prog 22=.nils∧Bw Try.prog 22 = [(0,50)]:=by
 refine ⟨?_,?_,?_,?_,?_,?_,?_,?_⟩ <;> kernel_rfl
theorem Au:Try.prog.cellsOf 24=2∧Ad Try.prog 24=0∧AW Try.prog 24=false∧AZ Try.prog 24=none∧Bt Try.prog 24=some (2,true)∧AD Try.prog 24=.agg [.int .i64 0,.nils]∧Ba Try.prog 24 0=some (0,1,3)∧Ba Try.prog 24 1=some (1,1,22)∧BM Try.prog 24=none∧Co Try.prog 24=true∧Bw Try.prog 24 = [(1,50)]:=by
 refine ⟨?_,?_,?_,?_,?_,?_,?_,?_,?_,?_,?_⟩ <;> kernel_rfl
theorem AF:Try.prog.cellsOf 25=1∧Ad Try.prog 25=3∧BR Try.prog 25=69∧AW Try.prog 25=false∧AZ Try.prog 25=none∧Bt Try.prog 25=some (1,false)∧AD Try.prog 25=.nils∧Bw Try.prog 25 = [(0,3)]:=by
 refine ⟨?_,?_,?_,?_,?_,?_,?_,?_⟩ <;> kernel_rfl
theorem AP:Try.prog.cellsOf 27=5∧Ad Try.prog 27=0∧AW Try.prog 27=false∧AZ Try.prog 27=none∧Bt Try.prog 27=some (5,true)∧AD Try.prog 27=.agg [.int .i64 0,.int .i64 0,.int .i64 0,.int .i64 0,.int .i64 0]∧Ba Try.prog 27 0=some (0,1,3)∧Ba Try.prog 27 1=some (1,1,3)∧Ba Try.prog 27 2=some (2,1,3)∧Ba Try.prog 27 3=some (3,1,3)∧Ba Try.prog 27 4=some (4,1,3)∧BM Try.prog 27=none∧Co Try.prog 27=true∧Bw Try.prog 27 = []:=by
 refine ⟨?_,?_,?_,?_,?_,?_,?_,?_,?_,?_,?_,?_,?_,?_⟩ <;> kernel_rfl
theorem Bl:Try.prog.cellsOf 29=8∧Ad Try.prog 29=0∧AW Try.prog 29=false∧AZ Try.prog 29=none∧Bt Try.prog 29=some (8,true)∧AD Try.prog 29=.agg [.int .i64 0,.nils,.nils,.int .i64 0,.int .i64 0,.int .i64 0,.int .i64 0,.int .i64 0]∧Ba Try.prog 29 0=some (0,2,24)∧Ba Try.prog 29 1=some (2,1,25)∧Ba Try.prog 29 2=some (3,5,27)∧BM Try.prog 29=none∧Co Try.prog 29=true∧Bw Try.prog 29 = [(1,50),(2,3)]:=by
 refine ⟨?_,?_,?_,?_,?_,?_,?_,?_,?_,?_,?_,?_⟩ <;> kernel_rfl
theorem By:Try.prog.cellsOf 30=1∧Ad Try.prog 30=1∧BR Try.prog 30=43∧AW Try.prog 30=false∧AZ Try.prog 30=none∧Bt Try.prog 30=some (1,false)∧AD Try.prog 30=.nils∧Bw Try.prog 30 = [(0,1)]:=by
 refine ⟨?_,?_,?_,?_,?_,?_,?_,?_⟩ <;> kernel_rfl
theorem Ahl:Try.prog.cellsOf 34=1∧Ad Try.prog 34=0∧AW Try.prog 34=false∧AZ Try.prog 34=none∧Fh Try.prog 34=some .i64∧Bt Try.prog 34=some (1,false)∧AD Try.prog 34=.int .i64 0∧Bw Try.prog 34 = []:=by
 refine ⟨?_,?_,?_,?_,?_,?_,?_,?_⟩ <;> kernel_rfl
theorem AX:Try.prog.cellsOf 43=1∧Ad Try.prog 43=1∧BR Try.prog 43=3∧AW Try.prog 43=false∧AZ Try.prog 43=none∧Bt Try.prog 43=some (1,false)∧AD Try.prog 43=.nils∧Bw Try.prog 43 = [(0,1)]:=by
 refine ⟨?_,?_,?_,?_,?_,?_,?_,?_⟩ <;> kernel_rfl
theorem Ii:Try.prog.cellsOf 60=24∧Ad Try.prog 60=0∧AW Try.prog 60=false∧AZ Try.prog 60=none∧Bt Try.prog 60=some (24,true)∧AD Try.prog 60=.agg [.int .i64 0,.int .i64 0,.int .i64 0,.int .i64 0,.int .i64 0,.int .i64 0,.int .i64 0,.int .i64 0,.int .i64 0,.int .i64 0,.int .i64 0,.int .i64 0,.int .i64 0,.int .i64 0,.int .i64 0,.int .i64 0,.int .i64 0,.int .i64 0,.int .i64 0,.int .i64 0,.int .i64 0,.int .i64 0,.int .i64 0,.int .i64 0]∧BM Try.prog 60=some (24,1)∧Kg Try.prog 60=some (24,3)∧Co Try.prog 60=true∧Bw Try.prog 60 = []:=by
 refine ⟨?_,?_,?_,?_,?_,?_,?_,?_,?_,?_⟩ <;> kernel_rfl
theorem Ck:Try.prog.cellsOf 62=50∧Ad Try.prog 62=0∧AW Try.prog 62=false∧AZ Try.prog 62=none∧Bt Try.prog 62=some (50,true)∧AD Try.prog 62=.agg [.int .i64 0,.int .i64 0,.int .i64 0,.int .i64 0,.int .i64 0,.int .i64 0,.int .i64 0,.int .i64 0,.int .i64 0,.int .i64 0,.int .i64 0,.int .i64 0,.int .i64 0,.int .i64 0,.int .i64 0,.int .i64 0,.int .i64 0,.int .i64 0,.int .i64 0,.int .i64 0,.int .i64 0,.int .i64 0,.int .i64 0,.int .i64 0,.int .i64 0,.int .i64 0,.int .i64 0,.int .i64 0,.int .i64 0,.int .i64 0,.int .i64 0,.int .i64 0,.int .i64 0,.int .i64 0,.int .i64 0,.int .i64 0,.int .i64 0,.int .i64 0,.int .i64 0,.int .i64 0,.int .i64 0,.int .i64 0,.int .i64 0,.int .i64 0,.int .i64 0,.int .i64 0,.int .i64 0,.int .i64 0,.int .i64 0,.int .i64 0]∧Ba Try.prog 62 0=some (0,1,3)∧Ba Try.prog 62 1=some (1,1,3)∧Ba Try.prog 62 2=some (2,24,60)∧Ba Try.prog 62 3=some (26,24,60)∧BM Try.prog 62=none∧Co Try.prog 62=true∧Bw Try.prog 62 = []:=by
 refine ⟨?_,?_,?_,?_,?_,?_,?_,?_,?_,?_,?_,?_,?_⟩ <;> kernel_rfl
theorem BZ:Try.prog.cellsOf 69=3∧Ad Try.prog 69=0∧AW Try.prog 69=false∧AZ Try.prog 69=none∧Bt Try.prog 69=some (3,true)∧AD Try.prog 69=.agg [.int .i64 0,.int .i64 0,.int .i64 0]∧Ba Try.prog 69 0=some (0,1,3)∧Ba Try.prog 69 1=some (1,1,3)∧Ba Try.prog 69 2=some (2,1,3)∧BM Try.prog 69=none∧Co Try.prog 69=true∧Bw Try.prog 69 = []:=by
 refine ⟨?_,?_,?_,?_,?_,?_,?_,?_,?_,?_,?_,?_⟩ <;> kernel_rfl
theorem uW:Try.prog.cellsOf 72=1∧Ad Try.prog 72=0∧AW Try.prog 72=false∧AZ Try.prog 72=none∧Bt Try.prog 72=some (1,false)∧AD Try.prog 72=.nilf∧Bw Try.prog 72 = []:=by
 refine ⟨?_,?_,?_,?_,?_,?_,?_⟩ <;> kernel_rfl
theorem Gp:Try.prog.cellsOf 78=2∧Ad Try.prog 78=0∧AW Try.prog 78=false∧AZ Try.prog 78=none∧Bt Try.prog 78=some (2,true)∧AD Try.prog 78=.agg [.int .i64 0,.int .i64 0]∧Ba Try.prog 78 0=some (0,1,3)∧Ba Try.prog 78 1=some (1,1,3)∧BM Try.prog 78=none∧Co Try.prog 78=true∧Bw Try.prog 78 = []:=by
 refine ⟨?_,?_,?_,?_,?_,?_,?_,?_,?_,?_,?_⟩ <;> kernel_rfl
theorem GN:Try.prog.cellsOf 80=54∧Ad Try.prog 80=0∧AW Try.prog 80=false∧AZ Try.prog 80=none∧Bt Try.prog 80=some (54,true)∧AD Try.prog 80=.agg [.int .i64 0,.int .i64 0,.int .i64 0,.int .i64 0,.int .i64 0,.int .i64 0,.int .i64 0,.int .i64 0,.int .i64 0,.int .i64 0,.int .i64 0,.int .i64 0,.int .i64 0,.int .i64 0,.int .i64 0,.int .i64 0,.int .i64 0,.int .i64 0,.int .i64 0,.int .i64 0,.int .i64 0,.int .i64 0,.int .i64 0,.int .i64 0,.int .i64 0,.int .i64 0,.int .i64 0,.int .i64 0,.int .i64 0,.int .i64 0,.int .i64 0,.int .i64 0,.int .i64 0,.int .i64 0,.int .i64 0,.int .i64 0,.int .i64 0,.int .i64 0,.int .i64 0,.int .i64 0,.int .i64 0,.int .i64 0,.int .i64 0,.int .i64 0,.int .i64 0,.int .i64 0,.int .i64 0,.int .i64 0,.int .i64 0,.int .i64 0,.int .i64 0,.int .i64 0,.int .i64 0,.int .i64 0]∧Ba Try.prog 80 0=some (0,2,78)∧Ba Try.prog 80 1=some (2,50,62)∧Ba Try.prog 80 2=some (52,1,3)∧Ba Try.prog 80 3=some (53,1,3)∧BM Try.prog 80=none∧Co Try.prog 80=true∧Bw Try.prog 80 = []:=by
 refine ⟨?_,?_,?_,?_,?_,?_,?_,?_,?_,?_,?_,?_,?_⟩ <;> kernel_rfl
theorem Ij:Try.prog.cellsOf 85=1∧Ad Try.prog 85=0∧AW Try.prog 85=false∧AZ Try.prog 85=some (.ints 2,.int .i64 0)∧Bt Try.prog 85=some (1,false)∧AD Try.prog 85=.nilm∧Bw Try.prog 85 = []:=by
 refine ⟨?_,?_,?_,?_,?_,?_,?_⟩ <;> kernel_rfl
theorem SD:Try.prog.cellsOf 88=1∧Ad Try.prog 88=0∧AW Try.prog 88=false∧AZ Try.prog 88=none∧Bt Try.prog 88=some (1,false)∧AD Try.prog 88=.nilp∧Bw Try.prog 88 = []:=by
 refine ⟨?_,?_,?_,?_,?_,?_,?_⟩ <;> kernel_rfl
theorem Qa:Try.prog.cellsOf 89=1∧Ad Try.prog 89=0∧AW Try.prog 89=false∧AZ Try.prog 89=none∧Bt Try.prog 89=some (1,false)∧AD Try.prog 89=.nilf∧Bw Try.prog 89 = []:=by
 refine ⟨?_,?_,?_,?_,?_,?_,?_⟩ <;> kernel_rfl
theorem JE:Try.prog.cellsOf 90=1∧Ad Try.prog 90=0∧AW Try.prog 90=false∧AZ Try.prog 90=none∧Bt Try.prog 90=some (1,false)∧AD Try.prog 90=.nilp∧Bw Try.prog 90 = []:=by
 refine ⟨?_,?_,?_,?_,?_,?_,?_⟩ <;> kernel_rfl
theorem KA:Try.prog.cellsOf 93=1∧Ad Try.prog 93=4∧BR Try.prog 93=97∧AW Try.prog 93=false∧AZ Try.prog 93=none∧Bt Try.prog 93=some (1,false)∧AD Try.prog 93=.nils∧Bw Try.prog 93 = [(0,4)]:=by
 refine ⟨?_,?_,?_,?_,?_,?_,?_,?_⟩ <;> kernel_rfl
theorem GO:Try.prog.cellsOf 95=3∧Ad Try.prog 95=0∧AW Try.prog 95=false∧AZ Try.prog 95=none∧Bt Try.prog 95=some (3,true)∧AD Try.prog 95=.agg [.nils,.nils,.nils]∧Ba Try.prog 95 0=some (0,1,93)∧Ba Try.prog 95 1=some (1,1,30)∧Ba Try.prog 95 2=some (2,1,43)∧BM Try.prog 95=none∧Co Try.prog 95=true∧Bw Try.prog 95 = [(0,4),(1,1),(2,1)]:=by
 refine ⟨?_,?_,?_,?_,?_,?_,?_,?_,?_,?_,?_,?_⟩ <;> kernel_rfl
theorem Lp:Try.prog.cellsOf 97=4∧Ad Try.prog 97=0∧AW Try.prog 97=false∧AZ Try.prog 97=none∧Bt Try.prog 97=some (4,true)∧AD Try.prog 97=.agg [.int .i64 0,.int .i64 0,.int .i64 0,.int .i64 0]∧Ba Try.prog 97 0=some (0,1,3)∧Ba Try.prog 97 1=some (1,1,3)∧Ba Try.prog 97 2=some (2,1,3)∧Ba Try.prog 97 3=some (3,1,3)∧BM Try.prog 97=none∧Co Try.prog 97=true∧Bw Try.prog 97 = []:=by
 refine ⟨?_,?_,?_,?_,?_,?_,?_,?_,?_,?_,?_,?_,?_⟩ <;> kernel_rfl
theorem JF:Try.prog.cellsOf 100=1∧Ad Try.prog 100=4∧BR Try.prog 100=103∧AW Try.prog 100=false∧AZ Try.prog 100=none∧Bt Try.prog 100=some (1,false)∧AD Try.prog 100=.nils∧Bw Try.prog 100 = [(0,4)]:=by
 refine ⟨?_,?_,?_,?_,?_,?_,?_,?_⟩ <;> kernel_rfl
theorem Of:Try.prog.cellsOf 101=1∧Ad Try.prog 101=0∧AW Try.prog 101=false∧AZ Try.prog 101=none∧Bt Try.prog 101=some (1,false)∧AD Try.prog 101=.nilf∧Bw Try.prog 101 = []:=by
 refine ⟨?_,?_,?_,?_,?_,?_,?_⟩ <;> kernel_rfl
theorem Mm:Try.prog.cellsOf 103=4∧Ad Try.prog 103=0∧AW Try.prog 103=false∧AZ Try.prog 103=none∧Bt Try.prog 103=some (4,true)∧AD Try.prog 103=.agg [.int .i64 0,.int .i64 0,.int .i64 0,.int .i64 0]∧Ba Try.prog 103 0=some (0,1,3)∧Ba Try.prog 103 1=some (1,1,3)∧Ba Try.prog 103 2=some (2,1,3)∧Ba Try.prog 103 3=some (3,1,3)∧BM Try.prog 103=none∧Co Try.prog 103=true∧Bw Try.prog 103 = []:=by
 refine ⟨?_,?_,?_,?_,?_,?_,?_,?_,?_,?_,?_,?_,?_⟩ <;> kernel_rfl
theorem iX:Try.prog.cellsOf 104=1∧Ad Try.prog 104=0∧AW Try.prog 104=false∧AZ Try.prog 104=none∧Bt Try.prog 104=some (1,false)∧AD Try.prog 104=.nilf∧Bw Try.prog 104 = []:=by
 refine ⟨?_,?_,?_,?_,?_,?_,?_⟩ <;> kernel_rfl
theorem Wx:Try.prog.cellsOf 110=1∧Ad Try.prog 110=0∧AW Try.prog 110=false∧AZ Try.prog 110=none∧Bt Try.prog 110=some (1,false)∧AD Try.prog 110=.nilf∧Bw Try.prog 110 = []:=by
 refine ⟨?_,?_,?_,?_,?_,?_,?_⟩ <;> kernel_rfl
theorem Af8:Try.prog.cellsOf 111=1∧Ad Try.prog 111=0∧AW Try.prog 111=false∧AZ Try.prog 111=none∧Fh Try.prog 111=some .u64∧Bt Try.prog 111=some (1,false)∧AD Try.prog 111=.int .u64 0∧Bw Try.prog 111 = []:=by
 refine ⟨?_,?_,?_,?_,?_,?_,?_,?_⟩ <;> kernel_rfl
theorem Af9:Try.prog.cellsOf 123=1∧Ad Try.prog 123=0∧AW Try.prog 123=false∧AZ Try.prog 123=none∧Fh Try.prog 123=some .u64∧Bt Try.prog 123=some (1,false)∧AD Try.prog 123=.int .u64 0∧Bw Try.prog 123 = []:=by
 refine ⟨?_,?_,?_,?_,?_,?_,?_,?_⟩ <;> kernel_rfl
theorem Mn:Try.prog.cellsOf 130=2∧Ad Try.prog 130=0∧AW Try.prog 130=false∧AZ Try.prog 130=none∧Bt Try.prog 130=some (2,true)∧AD Try.prog 130=.agg [.int .i64 0,.int .i64 0]∧BM Try.prog 130=some (2,1)∧Kg Try.prog 130=some (2,3)∧Co Try.prog 130=true∧Bw Try.prog 130 = []:=by
 refine ⟨?_,?_,?_,?_,?_,?_,?_,?_,?_,?_⟩ <;> kernel_rfl
theorem iZ:Try.prog.cellsOf 131=1∧Ad Try.prog 131=0∧AW Try.prog 131=false∧AZ Try.prog 131=some (.ints 2,.int .i64 0)∧Bt Try.prog 131=some (1,false)∧AD Try.prog 131=.nilm∧Bw Try.prog 131 = []:=by
 refine ⟨?_,?_,?_,?_,?_,?_,?_⟩ <;> kernel_rfl
theorem Mo:Try.prog.cellsOf 135=1∧Ad Try.prog 135=1∧BR Try.prog 135=4∧AW Try.prog 135=false∧AZ Try.prog 135=none∧Bt Try.prog 135=some (1,false)∧AD Try.prog 135=.nils∧Bw Try.prog 135 = [(0,1)]:=by
 refine ⟨?_,?_,?_,?_,?_,?_,?_,?_⟩ <;> kernel_rfl
theorem DE : Try.prog.cellsOf 136 = 1 ∧ Ad Try.prog 136 = 0 ∧ AW Try.prog 136 = false ∧ AZ Try.prog 136 = none ∧ Bt Try.prog 136 = some (1, false) ∧ AD Try.prog 136 = .nilp ∧ Jk Try.prog 136 "Len" = some (81, false, 140) ∧ Jk Try.prog 136 "Less" = some (104, false, 140) ∧ Jk Try.prog 136 "Pop" = some (105, true, 140) ∧ Jk Try.prog 136 "Push" = some (106, true, 140) ∧ Jk Try.prog 136 "Swap" = some (107, false, 140) ∧ Kt Try.prog 136 = true ∧ Bw Try.prog 136 = [] := by
 refine ⟨?_,?_,?_,?_,?_,?_,?_,?_,?_,?_,?_,?_,?_⟩ <;> kernel_rfl
theorem Hn:Try.prog.cellsOf 138=2∧Ad Try.prog 138=0∧AW Try.prog 138=false∧AZ Try.prog 138=none∧Bt Try.prog 138=some (2,true)∧AD Try.prog 138=.agg [.int .i64 0,.int .i64 0]∧Ba Try.prog 138 0=some (0,1,3)∧Ba Try.prog 138 1=some (1,1,3)∧BM Try.prog 138=none∧Co Try.prog 138=true∧Kt Try.prog 138=true∧Bw Try.prog 138 = []:=by
 refine ⟨?_,?_,?_,?_,?_,?_,?_,?_,?_,?_,?_,?_⟩ <;> kernel_rfl
theorem Df:Try.prog.cellsOf 140=1∧Ad Try.prog 140=2∧BR Try.prog 140=138∧AW Try.prog 140=false∧AZ Try.prog 140=none∧Bt Try.prog 140=some (1,false)∧AD Try.prog 140=.nils∧Bw Try.prog 140 = [(0,2)]:=by
 refine ⟨?_,?_,?_,?_,?_,?_,?_,?_⟩ <;> kernel_rfl
theorem Og:Try.prog.cellsOf 148=1∧Ad Try.prog 148=0∧AW Try.prog 148=false∧AZ Try.prog 148=none∧Bt Try.prog 148=some (1,false)∧AD Try.prog 148=.nili∧Bw Try.prog 148 = []:=by
 refine ⟨?_,?_,?_,?_,?_,?_,?_⟩ <;> kernel_rfl
end Sim
namespace Sim
open Go
def bdD:=(And.intro (And.intro (And.intro (And.intro (And.intro (And.intro @tU @Abl) (And.intro @gE (And.intro @tV @Abm))) (And.intro (And.intro @Zu (And.intro @tW
 @cB)) (And.intro @cC (And.intro @qU @L3)))) (And.intro (And.intro (And.intro @cD @cE) (And.intro @cF (And.intro @qV @X8))) (And.intro (And.intro
 @X9 (And.intro @cG @cH)) (And.intro @cI (And.intro @cJ @qW))))) (And.intro (And.intro (And.intro (And.intro @Pq @IP) (And.intro @Kn (And.intro
 @ZQ @ZJ))) (And.intro (And.intro @VE (And.intro @ZV @VN)) (And.intro @ZW (And.intro @VK @Sw)))) (And.intro (And.intro (And.intro
 @ZK (And.intro @IU @qX)) (And.intro @bZ (And.intro @Aao @RP))) (And.intro (And.intro @HY (And.intro @Aas @Aat)) (And.intro @sB (And.intro @Aau
 @sC)))))) (And.intro (And.intro (And.intro (And.intro (And.intro @sD @sE) (And.intro @sF (And.intro @Aav @sG))) (And.intro (And.intro @YL (And.intro @eR
 @U4)) (And.intro @U5 (And.intro @U6 @R5)))) (And.intro (And.intro (And.intro @eS (And.intro @YM @sK)) (And.intro @YN (And.intro
 @Me @eW))) (And.intro (And.intro @YO (And.intro @PJ @YU)) (And.intro @eX (And.intro @R6 @PK))))) (And.intro (And.intro (And.intro
 (And.intro @NB @YV) (And.intro @NC (And.intro @Y2 @ND))) (And.intro (And.intro @Y3 (And.intro @R8 @Ku)) (And.intro @Y5
 (And.intro @Y0 @Sm)))) (And.intro (And.intro (And.intro @PZ (And.intro @Vx @NG)) (And.intro @P1 (And.intro @Mh @Vy)))
 (And.intro (And.intro @ZA (And.intro @ZB @eY)) (And.intro @sQ (And.intro @eU @sM)))))))
def bdP:=(And.intro (And.intro (And.intro (And.intro (And.intro (And.intro (And.intro (And.intro (And.intro @gF @Nat.one_ne_zero) (And.intro @iR @uQ)) (And.intro (And.intro
 @ZR @uR) (And.intro @hZ @Abp))) (And.intro (And.intro (And.intro @iA @NK) (And.intro @ZS @uS)) (And.intro (And.intro @iB @Ss)
 (And.intro @iC @iD)))) (And.intro (And.intro (And.intro (And.intro @iE @ZT) (And.intro @iF @iG)) (And.intro (And.intro @VG @ZN) (And.intro
 @ZO @gY))) (And.intro (And.intro (And.intro @ZP @gZ) (And.intro @Abo @uO)) (And.intro (And.intro @uP @uT) (And.intro @VH @Kx)))))
 (And.intro (And.intro (And.intro (And.intro (And.intro @St @VI) (And.intro @P5 @iH)) (And.intro (And.intro @P6 @iI) (And.intro @P7
 @iJ))) (And.intro (And.intro (And.intro @ZU @P8) (And.intro @Su @NL)) (And.intro (And.intro @iK @iL) (And.intro @NM @VJ))))
 (And.intro (And.intro (And.intro (And.intro @iM @iN) (And.intro @iO @iP)) (And.intro (And.intro @iQ @Sv) (And.intro @Abq @Un))) (And.intro
 (And.intro (And.intro @Uo @cK) (And.intro @Ya @Aap)) (And.intro (And.intro @qY @Um) (And.intro @Ro (And.intro @Rn @X2))))))) (And.intro
 (And.intro (And.intro (And.intro (And.intro (And.intro @X3 @X4) (And.intro @X5 @Option.map_some.{0,0})) (And.intro (And.intro @Option.map_none.{0,0} @Option.bind_some.{0,0})
 (And.intro @Option.bind_none.{0,0} @Option.getD_some.{0}))) (And.intro (And.intro (And.intro @Option.getD_none.{0} @Bool.false_eq_true) (And.intro @true_and @and_true)) (And.intro (And.intro
 @List.getD_cons_zero.{0} @List.getD_cons_succ.{0}) (And.intro @List.getElem?_toArray.{0} @List.getElem?_cons_zero.{0})))) (And.intro (And.intro (And.intro (And.intro @List.getElem?_cons_succ.{0}
 @decide_eq_true_eq) (And.intro @decide_eq_false_iff_not @true_implies)) (And.intro (And.intro @forall_const.{1} @forall_const.{0}) (And.intro @rL @Afe))) (And.intro (And.intro (And.intro
 @rG @dB) (And.intro @rI @rH)) (And.intro (And.intro @Yq @dC) (And.intro @List.map_cons.{0,0} (And.intro @List.map_nil.{0,0} @List.length_map.{0,0})))))) (And.intro
 (And.intro (And.intro (And.intro (And.intro @Ys @RR) (And.intro @UK @List.contains_cons.{0})) (And.intro (And.intro @List.contains_nil.{0} @Bool.or_false) (And.intro
 @Bool.or_true @Bool.false_or))) (And.intro (And.intro (And.intro @Bool.true_or @Int.natCast_nonneg) (And.intro @Int.ofNat_lt @Int.toNat_natCast)) (And.intro (And.intro @rJ @rK) (And.intro
 @decide_true @decide_false)))) (And.intro (And.intro (And.intro (And.intro @Option.some.injEq.{0} @exists_eq_left'.{1}) (And.intro @PV.int.injEq @PV.bool.injEq)) (And.intro (And.intro @PV.str.injEq
 @PV.lits.injEq) (And.intro @PV.tuple.injEq @PV.agg.injEq))) (And.intro (And.intro (And.intro @List.cons.injEq.{0} @List.lookup_cons.{0,0}) (And.intro @List.lookup_nil.{0,0} @UH)) (And.intro
 (And.intro @Aff @Afg) (And.intro @Afh (And.intro @Afk @Afi)))))))) (And.intro (And.intro (And.intro (And.intro (And.intro (And.intro (And.intro @Afj @Yr) (And.intro @UI
 @Hk)) (And.intro (And.intro @dD @Bool.and_true) (And.intro @Bool.and_self @Bool.true_and))) (And.intro (And.intro (And.intro @List.cons_append.{0} @List.nil_append.{0}) (And.intro
 @List.append_nil.{0} @Aar)) (And.intro (And.intro @Ob @PG) (And.intro @List.length_append.{0} @List.length_cons.{0})))) (And.intro (And.intro (And.intro (And.intro
 @List.length_nil.{0} @Nat.zero_add) (And.intro @Nat.add_zero @List.drop_zero.{0})) (And.intro (And.intro @List.take_length.{0} @List.take_zero.{0}) (And.intro @Nat.not_succ_le_self
 @List.replicate_succ.{0}))) (And.intro (And.intro (And.intro @List.replicate_zero.{0} @List.length_replicate.{0}) (And.intro @List.set_cons_zero.{0} @List.set_cons_succ.{0})) (And.intro (And.intro
 @dE @dF) (And.intro @Prod.mk.injEq.{0,0} (And.intro @IObj.arr.injEq @Nat.lt_irrefl)))))) (And.intro (And.intro (And.intro (And.intro (And.intro @Nat.lt_succ_self @Bool.not_true)
 (And.intro @Bool.not_false @not_true_eq_false)) (And.intro (And.intro @not_false_eq_true @false_implies) (And.intro @PF @or_false))) (And.intro (And.intro (And.intro @or_true @Nat.le_refl)
 (And.intro @Classical.not_not @UL)) (And.intro (And.intro @UM @Yt) (And.intro @dG @dH)))) (And.intro (And.intro (And.intro (And.intro @dJ @RS)
 (And.intro @Yu @Yv)) (And.intro (And.intro @dK @Fp) (And.intro @rM @rN))) (And.intro (And.intro (And.intro @UN @Yw) (And.intro @Yx
 @dM)) (And.intro (And.intro @rO @rP) (And.intro @rQ (And.intro @UO @UP))))))) (And.intro (And.intro (And.intro (And.intro (And.intro (And.intro @UQ
 @Yy) (And.intro @dN @dO)) (And.intro (And.intro @dP @Yz) (And.intro @UR @RT))) (And.intro (And.intro (And.intro @dQ @dR) (And.intro
 @US @UT)) (And.intro (And.intro @YA @dT) (And.intro @dU @dV)))) (And.intro (And.intro (And.intro (And.intro @RU @UU) (And.intro @UV
 @YB)) (And.intro (And.intro @Md @dW) (And.intro @dX @RV))) (And.intro (And.intro (And.intro @YC @rR) (And.intro @YD @rT)) (And.intro
 (And.intro @rU @UW) (And.intro @RY (And.intro @dY @dZ)))))) (And.intro (And.intro (And.intro (And.intro (And.intro @UX @UY) (And.intro @YE
 @eA)) (And.intro (And.intro @eB @eC) (And.intro @RZ @R3))) (And.intro (And.intro (And.intro @UZ @U0) (And.intro @YF @eD)) (And.intro
 (And.intro @eE @eG) (And.intro @R4 @YG)))) (And.intro (And.intro (And.intro (And.intro @eH @JA) (And.intro @rV @U1)) (And.intro (And.intro
 @YH @U2) (And.intro @VL @VM))) (And.intro (And.intro (And.intro @Sx @Sy) (And.intro @NN @NO)) (And.intro (And.intro @U3
 @YI) (And.intro @eI (And.intro @eJ @eK))))))))) (And.intro (And.intro (And.intro (And.intro (And.intro (And.intro (And.intro (And.intro @rW @eM) (And.intro
 @rX @Nx)) (And.intro (And.intro @Ny @eN) (And.intro @rZ @sA))) (And.intro (And.intro (And.intro @YJ @YK) (And.intro @eO @Aaw))
 (And.intro (And.intro @sH @sJ) (And.intro @Aax @eQ)))) (And.intro (And.intro (And.intro (And.intro @U7 @YT) (And.intro @eZ @fA)) (And.intro (And.intro
 @sR @U8) (And.intro @sS @sT))) (And.intro (And.intro (And.intro @sU @sV) (And.intro @fF @fG)) (And.intro (And.intro @fH @Vc) (And.intro
 @Vb @JB))))) (And.intro (And.intro (And.intro (And.intro (And.intro @Mf @fE) (And.intro @fC @YP)) (And.intro (And.intro @YR @YQ)
 (And.intro @U9 @Va))) (And.intro (And.intro (And.intro @YW @YX) (And.intro @YY @YZ)) (And.intro (And.intro @List.all_cons.{0} @List.all_nil.{0})
 (And.intro @fD @R9)))) (And.intro (And.intro (And.intro (And.intro @Vd @Aa4) (And.intro @Y7 @ZD)) (And.intro (And.intro @ZE @sZ) (And.intro
 @ZH @ZI))) (And.intro (And.intro (And.intro @VA @VB) (And.intro @Sn @P3)) (And.intro (And.intro @NJ @uM) (And.intro @Sq
 (And.intro @So @Sp))))))) (And.intro (And.intro (And.intro (And.intro (And.intro (And.intro @NH @NI) (And.intro @gW @gX)) (And.intro (And.intro
 @ZC @ZF) (And.intro @ZG @Vz))) (And.intro (And.intro (And.intro @Y8 @PN) (And.intro @Nz @NA)) (And.intro (And.intro @Aaz
 @Aa5) (And.intro @Aa6 @tA)))) (And.intro (And.intro (And.intro (And.intro @Y9 @fJ) (And.intro @fK @Za)) (And.intro (And.intro @Zb @Aa7) (And.intro
 @tC @tD))) (And.intro (And.intro (And.intro @fL @fM) (And.intro @tE @fN)) (And.intro (And.intro @fO @tF) (And.intro @fP (And.intro @fQ
 @Zc)))))) (And.intro (And.intro (And.intro (And.intro (And.intro @Zd @fR) (And.intro @tG @tH)) (And.intro (And.intro @Ve @Zf) (And.intro @PO
 @PR))) (And.intro (And.intro (And.intro @NE @NF) (And.intro @PS @Vf)) (And.intro (And.intro @Sa @Vg) (And.intro @Sb
 @Vh)))) (And.intro (And.intro (And.intro (And.intro @Sc @Vi) (And.intro @Vj @Vk)) (And.intro (And.intro @Zg @Zh) (And.intro @fS
 @fT))) (And.intro (And.intro (And.intro @Sd @Se) (And.intro @Vl @Vm)) (And.intro (And.intro @Sf @Sg) (And.intro @Vn (And.intro
 @Vo @Sh)))))))) (And.intro (And.intro (And.intro (And.intro (And.intro (And.intro (And.intro @fU @PT) (And.intro @Si @Afr)) (And.intro (And.intro @Afs
 @Aft) (And.intro @Afu @Afv))) (And.intro (And.intro (And.intro @Afw @Ahk) (And.intro @Afx @fV)) (And.intro (And.intro @Afy @Afz) (And.intro @Af0 @Af1)))) (And.intro
 (And.intro (And.intro (And.intro @Af2 @Af3) (And.intro @Af4 @Af5)) (And.intro (And.intro @Aba @Abb) (And.intro @Abc @Abd))) (And.intro (And.intro (And.intro @Abe @Abf)
 (And.intro @Abg @Af6)) (And.intro (And.intro @Af7 @Abj) (And.intro @Abk (And.intro @fW @Zi)))))) (And.intro (And.intro (And.intro (And.intro (And.intro @Vp
 @Zj) (And.intro @Zk @Zl)) (And.intro (And.intro @tJ @fY) (And.intro @Zm @tK))) (And.intro (And.intro (And.intro @tL @tM) (And.intro @tO
 @Sj)) (And.intro (And.intro @PU @Sk) (And.intro @PX @tR)))) (And.intro (And.intro (And.intro (And.intro @tQ @tP) (And.intro @gB @gC))
 (And.intro (And.intro @Zn @Vq) (And.intro @Zo @Zp))) (And.intro (And.intro (And.intro @Zq @Zr) (And.intro @Vr @Vs)) (And.intro (And.intro
 @Vt @Zs) (And.intro @Vu (And.intro @Zt @gD))))))) (And.intro (And.intro (And.intro (And.intro (And.intro (And.intro @tS @tT) (And.intro @Du
 @FK)) (And.intro (And.intro @Int.natCast_eq_zero @Aa9) (And.intro @Ze @fI))) (And.intro (And.intro (And.intro @sY @sL) (And.intro @sP @beq_eq_false_iff_ne.{0}))
 (And.intro (And.intro @ne_eq.{1} @tY) (And.intro @Zv @Int.natCast_inj)))) (And.intro (And.intro (And.intro (And.intro @List.take_succ_cons.{0} @List.drop_succ_cons.{0}) (And.intro
 @List.drop_nil.{0} @List.take_nil.{0})) (And.intro (And.intro @Zw @Zx) (And.intro @tZ @uA))) (And.intro (And.intro (And.intro @uB @implies_true.{1}) (And.intro
 @implies_true.{0} @Int.natCast_zero)) (And.intro (And.intro @gG @Zy) (And.intro @Sl (And.intro @PY @Vw)))))) (And.intro (And.intro (And.intro (And.intro
 (And.intro @Zz @uC) (And.intro @uD @gH)) (And.intro (And.intro @uE @gI) (And.intro @gJ @uF))) (And.intro (And.intro (And.intro @gL @uG)
 (And.intro @uH @uI)) (And.intro (And.intro @gM @uJ) (And.intro @gQ @gR)))) (And.intro (And.intro (And.intro (And.intro @Int.le_refl @Int.natCast_pos) (And.intro
 @beq_self_eq_true.{0} @beq_iff_eq.{0})) (And.intro (And.intro @Aa0 @sX) (And.intro @sW @false_and))) (And.intro (And.intro (And.intro @and_false @Bool.true_eq_false) (And.intro
 @gT @gU)) (And.intro (And.intro @gV @uK) (And.intro @Abn (And.intro @Nat.min_def @Int.cast_ofNat_Int))))))))))
end Sim
