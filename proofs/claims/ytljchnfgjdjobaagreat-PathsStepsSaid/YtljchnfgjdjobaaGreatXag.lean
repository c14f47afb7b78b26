/- Part 7 of 17 of the proof. -/
import Derived.Test.YtljchnfgjdjobaaGreatProg
import Derived.KernelRfl
import Derived.Test.YtljchnfgjdjobaaGreatXaf
set_option linter.unusedVariables false
set_option linter.unusedSimpArgs false
set_option linter.defProp false
set_option linter.unusedSectionVars false
noncomputable section
set_option maxRecDepth 100000
set_option maxHeartbeats 0
namespace Go.aK
open Go Go.Proofs
def k17:=aH Tryz.call17 Tryz.func17 Tryz.ntmps17 [(1,1,1000),(2,3,1000),(3,3,1000),(4,3,1000),(10,10,1000),(18,6,1000)] [(0,[]),(1,[1]),(2,[1,2]),(3,[1,2,3]),(4,[1,2,3,4]),(5,[1,2,3,4,5,6]),(6,[1,2,3,4,5,6,7,8]),(7,[1,2,3,4,5,6,7,8,9,10]),(8,[1,2,3,4,5,6,69]),(9,[0]),(10,[1,2,3,4,5,6,8,11,12]),(11,[1,2,3,4,105]),(12,[0]),(13,[1,2,4,8,13]),(14,[1,2,4,8,10,13,14]),(15,[1,2,4,160]),(16,[0]),(17,[1,2,8,12,15]),(18,[1,2,8,10,12,15,16,17]),(19,[1,2,207]),(20,[0]),(21,[8,18]),(22,[0])] [(5,(.take 0 true (.take 1 true (.take 2 true (.take 3 true (.take 4 true (.take 5 false (.take 6 false (.take 7 false (.take 8 false (.take 9 false (.br 10 (.br 11 (.br 12 (.br 13 .done .nil) .nil) .nil) (.br 11 (.br 10 (.br 12 (.br 13 .done .nil) .nil) .nil) .nil))))))))))))),(13,(.take 3 true (.take 4 true (.take 5 true (.take 6 true (.take 7 true (.take 8 true (.take 9 true (.take 10 true (.take 0 true (.take 1 true (.take 2 true (.take 11 true (.take 12 true (.take 13 true (.take 14 true (.take 15 true (.take 16 true .done)))))))))))))))))),(14,(.take 3 true (.take 4 true (.take 5 true (.take 6 true (.take 7 true (.take 8 true (.take 9 true (.take 10 true (.take 0 true (.take 1 true (.take 2 true (.take 11 true (.take 12 true (.take 13 true (.take 14 true (.take 15 true (.take 16 true .done)))))))))))))))))),(21,(.take 3 true (.take 4 true (.take 5 true (.take 6 true (.take 7 true (.take 8 true (.take 9 true (.take 10 true (.take 11 true (.take 0 true (.take 1 true (.take 2 true (.take 12 true (.take 13 true (.take 14 true (.take 15 true (.take 16 true (.take 17 true (.take 18 true .done))))))))))))))))))))]
def k18:=aH Tryz.call18 Tryz.func18 Tryz.ntmps18 [(0,0,1),(0,1,1)] [(0,[2,3]),(1,[4])] []
def k19:=aH Tryz.call19 Tryz.func19 Tryz.ntmps19 [(3,2,2000)] [(0,[1,2]),(1,[1,2,5]),(2,[1,5]),(3,[4])] []
def k20:=aH Tryz.call20 Tryz.func20 Tryz.ntmps20 [(0,0,1),(0,1,1),(0,2,1),(0,3,1),(5,7,2000)] [(0,[4,5,6,7]),(1,[5,6,7,10]),(2,[5,6,7,10,20]),(3,[8,9]),(4,[11,12]),(5,[8,9])] [(5,(.take 0 true (.take 1 true (.take 2 true (.take 3 true (.take 4 true (.take 5 true (.take 6 true (.br 7 (.take 8 true (.take 9 true .done)) .nil)))))))))]
def k22:=aH Tryz.call22 Tryz.func22 Tryz.ntmps22 [(0,0,1),(0,1,1),(0,2,1),(0,3,1),(5,7,2000)] [(0,[4,5,6,7]),(1,[5,6,7,10]),(2,[5,6,7,10,20]),(3,[8,9]),(4,[11,12]),(5,[8,9])] [(5,(.take 0 true (.take 1 true (.take 2 true (.take 3 true (.take 4 true (.take 5 true (.take 6 true (.br 7 (.take 8 true (.take 9 true .done)) .nil)))))))))]
def k24:=aH Tryz.call24 Tryz.func24 Tryz.ntmps24 [(0,0,1),(0,1,1)] [(0,[2,3]),(1,[2,3,5]),(2,[2,3,5,15]),(3,[4]),(4,[3,32]),(5,[4]),(6,[3,6]),(7,[3,6,35,36,37]),(8,[3,6,35,36,37,38]),(9,[3,6,7,8,35,36,37]),(10,[3,6,8,9,35,36,37]),(11,[3,6,8,9,10,11,35,36,37]),(12,[3,6,8,9,35,36,37,74]),(13,[4]),(14,[3,6,35,36,37]),(15,[3,6,35,36,37]),(16,[4])] []
def k25:=aH Tryz.call25 Tryz.func25 Tryz.ntmps25 [(0,0,1),(0,1,1)] [(0,[2,3]),(1,[2,3,5]),(2,[2,3,5,10]),(3,[4]),(4,[6]),(5,[16]),(6,[4]),(7,[4])] []
def k27:=aH Tryz.call27 Tryz.func27 Tryz.ntmps27 [(0,0,1),(0,1,1),(0,2,1),(0,3,1),(5,7,2000),(7,7,2000)] [(0,[4,5,6,7,8]),(1,[5,6,7,8,11]),(2,[5,6,7,8,11,21]),(3,[8,9,10]),(4,[8,12,13]),(5,[8,12,13,40]),(6,[8,9,10]),(7,[8,9,10])] [(5,(.take 0 true (.take 1 true (.take 2 true (.take 3 true (.take 4 true (.take 5 true (.take 6 true (.br 7 (.take 8 true .done) .nil))))))))),(7,(.take 0 true (.take 1 true (.take 2 true (.take 3 true (.take 4 true (.take 5 true (.take 6 true (.br 7 (.br 8 (.take 9 true (.take 10 true .done)) .nil) .nil)))))))))]
def k28:=aH Tryz.call28 Tryz.func28 Tryz.ntmps28 [(0,0,1),(0,1,1),(0,2,1),(0,3,1),(0,4,1),(5,8,2000)] [(0,[5,6,7,8,9]),(1,[6,7,8,9,11]),(2,[6,7,8,9,11,21]),(3,[10]),(4,[9,12,13]),(5,[40]),(6,[10]),(7,[10])] [(5,(.take 0 true (.take 1 true (.take 2 true (.take 3 true (.take 4 true (.take 5 true (.take 6 true (.take 7 true (.br 8 (.take 9 true .done) .nil))))))))))]
def k30:=aH Tryz.call30 Tryz.func30 Tryz.ntmps30 [(0,0,1),(6,2,1000),(7,0,1),(7,7,1),(12,2,1000),(13,0,1),(13,7,1)] [(0,[1]),(1,[1,11]),(2,[2]),(3,[1,3]),(4,[1,3,13,14,15]),(5,[1,3,13,14,15,16]),(6,[1,3,5,13,14,15]),(7,[1,3,5,13,14,15]),(8,[1,3,5,13,14,15,35]),(9,[2]),(10,[1,3,13,14,15,37,38,39]),(11,[1,3,13,14,15,37,38,39,40]),(12,[1,3,7,13,14,15,37,38,39]),(13,[1,3,13,14,15,37,38,39]),(14,[1,3,13,14,15,37,38,39]),(15,[1,3,13,14,15]),(16,[2])] []
def k31:=aH Tryz.call31 Tryz.func31 Tryz.ntmps31 [(0,0,1),(0,1,1)] [(0,[2,3]),(1,[2,3,7]),(2,[2,3,7,13]),(3,[4,5,6]),(4,[2,3,8]),(5,[2,3,8,20]),(6,[4,5,6]),(7,[9]),(8,[4,5,6])] []
def k33:=aH Tryz.call33 Tryz.func33 Tryz.ntmps33 [(0,0,1),(0,1,1)] [(0,[2,3]),(1,[6,7]),(2,[7,19]),(3,[4]),(4,[4])] []
def k35:=aH Tryz.call35 Tryz.func35 Tryz.ntmps35 [(0,0,1),(7,6,1000)] [(0,[1,2]),(1,[1,2,5]),(2,[1,2,5,12]),(3,[2,3,4]),(4,[1,2,6]),(5,[1,2,6,19]),(6,[2,3,4]),(7,[2,7,8]),(8,[2,3,4])] []
def k40:=aH Tryz.call40 Tryz.func40 Tryz.ntmps40 [(6,4,1000),(7,3,2000)] [(0,[0,1,2]),(1,[0,1,2,14]),(2,[6]),(3,[1,2,15,16,17]),(4,[1,2,15,16,17,18]),(5,[1,2,7,8,15,16,17]),(6,[1,2,8,9,15,16,17]),(7,[1,2,15,16,17,30]),(8,[6]),(9,[1,2,15,16,17]),(10,[6])] []
def k42:=aH Tryz.call42 Tryz.func42 Tryz.ntmps42 [(0,0,1),(0,1,1)] [(0,[2,3,4,5]),(1,[8])] []
def k45:=aH Tryz.call45 Tryz.func45 Tryz.ntmps45 [(0,0,1),(0,1,1),(0,2,1),(0,3,1)] [(0,[4,5,6,7]),(1,[8,10]),(2,[8,9])] []
def k49:=aH Tryz.call49 Tryz.func49 Tryz.ntmps49 [(0,0,1),(0,1,1)] [(0,[2,3]),(1,[4])] []
def Tn:=aH Tryz.call53 Tryz.func53 Tryz.ntmps53 [(1,2,2000)] [(0,[0,1]),(1,[4])] []
def k55:=aH Tryz.call55 Tryz.func55 Tryz.ntmps55 [(0,0,1),(0,1,1)] [(0,[2,3]),(1,[4])] []
def k56:=aH Tryz.call56 Tryz.func56 Tryz.ntmps56 [(0,0,1),(6,2,2000)] [(0,[1]),(1,[1,8]),(2,[2,3]),(3,[1,4]),(4,[1,4,5]),(5,[1,4,5]),(6,[4]),(7,[2,3])] []
def k57:=aH Tryz.call57 Tryz.func57 Tryz.ntmps57 [(0,0,1),(3,6,1000)] [(0,[1,2,4]),(1,[1,2,4,10]),(2,[4,5]),(3,[4,6,7]),(4,[4,6,19]),(5,[4,5]),(6,[4,5])] []
def k59:=aH Tryz.call59 Tryz.func59 Tryz.ntmps59 [] [(0,[0,2]),(1,[2])] []
def k60:=aH Tryz.call60 Tryz.func60 Tryz.ntmps60 [(0,0,1),(8,2,1000),(10,4,1),(10,10,1),(12,2,2000),(12,6,1000)] [(0,[1,2,4]),(1,[1,2,4,20]),(2,[4,5]),(3,[1,2,4,27]),(4,[4,5]),(5,[1,2,4,6]),(6,[2,4,6,32,33,34]),(7,[2,4,6,32,33,34,35]),(8,[2,4,6,8,32,33,34]),(9,[2,4,6,9,32,33,34]),(10,[2,4,6,32,33,34]),(11,[2,4,6,32,33,34]),(12,[4,11,12]),(13,[4,11,61]),(14,[4,5]),(15,[4,5])] []
def k61:=aH Tryz.call61 Tryz.func61 Tryz.ntmps61 [(0,0,1),(0,1,1),(3,6,1000)] [(0,[1,3,5,6]),(1,[1,3,5,6,14]),(2,[6,7]),(3,[1,3,5,6,9]),(4,[1,3,5,6,23]),(5,[6,7]),(6,[6,7])] []
def k62:=aH Tryz.call62 Tryz.func62 Tryz.ntmps62 [(0,0,1)] [(0,[1]),(1,[5]),(2,[2]),(3,[2])] []
def ad3:IR:=(.seq (.region [⟨none,some 0,(.alloc (.agg [.ag,.ag,.ag]))⟩] (.some [0])) (.seq (.region [⟨none,some 2,(.buildSlice 0 1 (.str ⟨#[]⟩) 1 [(0,(.c (.str ⟨#[78]⟩)))])⟩,⟨none,some 3,(.build (.agg [(.str ⟨#[]⟩),.ag,(.int .i64 0)]) [(0,(1,(.c (.str ⟨#[122]⟩))))])⟩,⟨none,some 4,(.buildSlice 0 1 (.int .i64 0) 1 [(0,(.c (.int .i64 0)))])⟩,⟨none,some 5,(.build (.agg [(.str ⟨#[]⟩),.ag,(.int .i64 0)]) [(0,(1,(.c (.str ⟨#[115]⟩)))),(1,(1,(.t 4)))])⟩,⟨none,some 6,(.buildSlice 0 1 (.int .i64 0) 2 [(0,(.c (.int .i64 0))),(1,(.c (.int .i64 0)))])⟩,⟨none,some 7,(.build (.agg [(.str ⟨#[]⟩),.ag,(.int .i64 0)]) [(0,(1,(.c (.str ⟨#[97,100,100]⟩)))),(1,(1,(.t 6)))])⟩,⟨none,some 8,(.buildSlice 0 3 (.agg [(.str ⟨#[]⟩),.ag,(.int .i64 0)]) 3 [(0,(.t 3)),(1,(.t 5)),(2,(.t 7))])⟩,⟨none,some 9,(.build (.agg [.ag,.ag]) [(0,(1,(.t 2))),(1,(1,(.t 8)))])⟩,⟨none,some 1,(.s7 2 (.t 9))⟩] (.some [0,1])) (.seq (.draw (.take .true ⟨none,some 12,(.call (.c (.fn (.func 59) [] [])) [(.c (.int .i64 0))] .none)⟩ (.take .true ⟨none,some 13,(.call (.c (.fn (.func 65) [] [])) [(.c (.int .i64 0)),(.c .ag)] .none)⟩ (.take .true ⟨none,some 14,(.buildSlice 0 3 (.agg [(.int .i64 0),(.int .i64 0),.ag]) 2 [(0,(.t 12)),(1,(.t 13))])⟩ (.take .true ⟨none,some 15,(.call (.c (.fn (.func 65) [] [])) [(.c (.int .i64 2)),(.t 14)] .none)⟩ (.take .true ⟨none,some 16,(.call (.c (.fn (.func 59) [] [])) [(.c (.int .i64 0))] .none)⟩ (.take .true ⟨none,some 19,(.call (.c (.fn (.func 59) [] [])) [(.c (.int .i64 0))] .none)⟩ (.take .true ⟨none,some 20,(.call (.c (.fn (.func 59) [] [])) [(.c (.int .i64 1))] .none)⟩ (.take .true ⟨none,some 21,(.buildSlice 0 3 (.agg [(.int .i64 0),(.int .i64 0),.ag]) 1 [(0,(.t 20))])⟩ (.take .true ⟨none,some 22,(.call (.c (.fn (.func 65) [] [])) [(.c (.int .i64 1)),(.t 21)] .none)⟩ (.take .true ⟨none,some 23,(.buildSlice 0 3 (.agg [(.int .i64 0),(.int .i64 0),.ag]) 2 [(0,(.t 19)),(1,(.t 22))])⟩ (.take .true ⟨none,some 24,(.call (.c (.fn (.func 65) [] [])) [(.c (.int .i64 2)),(.t 23)] .none)⟩ (.take .true ⟨none,some 25,(.call (.c (.fn (.func 59) [] [])) [(.c (.int .i64 0))] .none)⟩ (.take .true ⟨none,some 26,(.call (.c (.fn (.func 59) [] [])) [(.c (.int .i64 1))] .none)⟩ (.take .true ⟨none,some 27,(.buildSlice 0 3 (.agg [(.int .i64 0),(.int .i64 0),.ag]) 2 [(0,(.t 25)),(1,(.t 26))])⟩ (.take .true ⟨none,some 28,(.call (.c (.fn (.func 65) [] [])) [(.c (.int .i64 2)),(.t 27)] .none)⟩ (.take .true ⟨none,some 29,(.buildSlice 0 3 (.agg [(.int .i64 0),(.int .i64 0),.ag]) 1 [(0,(.t 28))])⟩ (.take .true ⟨none,some 30,(.call (.c (.fn (.func 65) [] [])) [(.c (.int .i64 1)),(.t 29)] .none)⟩ (.take .true ⟨none,some 10,(.load (.some 2) (.t 1))⟩ (.take .true ⟨none,some 11,(.buildSlice 0 1 (.int .i64 0) 1 [(0,(.c (.int .i64 0)))])⟩ (.take .true ⟨none,some 17,(.build (.agg [.ag,.ag,(.int .i64 0),(.int .i64 0),.ag,(.int .i64 0),(.int .i64 0),.ag]) [(0,(1,(.t 11))),(2,(3,(.t 15))),(5,(3,(.t 16)))])⟩ (.take .true ⟨none,some 18,(.buildSlice 0 1 (.int .i64 0) 2 [(0,(.c (.int .i64 0))),(1,(.c (.int .i64 0)))])⟩ (.take .true ⟨none,some 31,(.build (.agg [.ag,.ag,(.int .i64 0),(.int .i64 0),.ag,(.int .i64 0),(.int .i64 0),.ag]) [(0,(1,(.t 18))),(2,(3,(.t 24))),(5,(3,(.t 30)))])⟩ (.take .true ⟨none,some 32,(.buildSlice 0 8 (.agg [.ag,.ag,(.int .i64 0),(.int .i64 0),.ag,(.int .i64 0),(.int .i64 0),.ag]) 2 [(0,(.t 17)),(1,(.t 31))])⟩ (.take .true ⟨none,some 33,(.build (.agg [.ag,.ag,.ag]) [(0,(2,(.t 10))),(2,(1,(.t 32)))])⟩ (.br ⟨none,none,(.store 3 (.t 0) (.t 33))⟩ .done .nil))))))))))))))))))))))))) (.some [0])) .ret)))
def YX:sc:=⟨34,ad3,[(.c 0 (.some 3))]⟩
theorem ad4:jq Tryz.prog 64 YX:=⟨Tryz.call64,Tryz.f64,_,[(1,8,1000)],[(0,[0]),(1,[0,1]),(2,[0])],[(2,(.take 2 true (.take 3 true (.take 4 true (.take 5 true (.take 6 true (.take 9 true (.take 10 true (.take 11 true (.take 12 true (.take 13 true (.take 14 true (.take 15 true (.take 16 true (.take 17 true (.take 18 true (.take 19 true (.take 20 true (.take 0 true (.take 1 true (.take 7 true (.take 8 true (.take 21 true (.take 22 true (.take 23 true (.br 24 .done .nil))))))))))))))))))))))))))],Tryz.func64,rfl,Tryz.ntmps64,by kernel_rfl,by kernel_rfl⟩
def XS:=aH Tryz.call65 Tryz.func65 Tryz.ntmps65 [] [(0,[0,1,4]),(1,[4])] []
def k66:=aH Tryz.call66 Tryz.func66 Tryz.ntmps66 [] [(0,[0,1]),(1,[0,1,10]),(2,[4]),(3,[0,1,12,13]),(4,[0,1,12,13,14]),(5,[0,1,5,12,13]),(6,[0,1,12,13,24]),(7,[4]),(8,[0,1,12,13]),(9,[4])] [(6,(.take 0 true (.take 1 true (.take 2 true (.take 3 true (.take 4 true (.take 5 true (.take 6 true (.take 7 true (.take 8 true .done))))))))))]
def k67:=aH Tryz.call67 Tryz.func67 Tryz.ntmps67 [(1,2,2000)] [(0,[0,1]),(1,[4])] []
def k68:=aH Tryz.call68 Tryz.func68 Tryz.ntmps68 [(0,0,1)] [(0,[1]),(1,[2])] []
def k69:=aH Tryz.call69 Tryz.func69 Tryz.ntmps69 [(1,2,2000)] [(0,[0,1]),(1,[4])] []
def k70:=aH Tryz.call70 Tryz.func70 Tryz.ntmps70 [] [(0,[0]),(1,[2])] []
def k71:=aH Tryz.call71 Tryz.func71 Tryz.ntmps71 [(0,0,1),(0,1,1),(2,10,2000)] [(0,[2,3,4,5]),(1,[2,3,4,5]),(2,[6])] []
def k72:=aH Tryz.call72 Tryz.func72 Tryz.ntmps72 [(0,0,1),(1,4,2000)] [(0,[1,2,3]),(1,[4])] []
def k73:=aH Tryz.call73 Tryz.func73 Tryz.ntmps73 [(0,0,1),(1,2,2000)] [(0,[1,2]),(1,[3])] []
def k74:=aH Tryz.call74 Tryz.func74 Tryz.ntmps74 [(0,0,1),(0,1,1),(6,2,1000)] [(0,[2,3,4]),(1,[2,3,7]),(2,[2,3,7,14]),(3,[6]),(4,[3,16,17,18]),(5,[3,16,17,18,19]),(6,[3,9,16,17,18]),(7,[3,16,17,18,30]),(8,[6]),(9,[3,16,17,18]),(10,[6])] []
def k76:=aH Tryz.call76 Tryz.func76 Tryz.ntmps76 [(0,0,1),(0,1,1),(0,2,1),(1,7,2000)] [(0,[3,4,5]),(1,[6])] [(1,(.take 0 true (.take 1 true (.take 2 true (.take 3 true (.take 4 true (.take 5 true (.take 6 true (.br 7 (.take 8 true .done) .nil)))))))))]
def k79:=aH Tryz.call79 Tryz.func79 Tryz.ntmps79 [(0,0,1),(0,1,1),(0,2,1),(1,7,2000)] [(0,[3,4,5]),(1,[6])] [(1,(.take 0 true (.take 1 true (.take 2 true (.take 3 true (.take 4 true (.take 5 true (.take 6 true (.br 7 (.take 8 true .done) .nil)))))))))]
def YY:IR:=(.seq (.region [⟨none,some 1,(.mR (.t 0))⟩,⟨none,some 2,(.set (.c (.int .i64 0)) false)⟩] (.some [1])) (.seq (.seq (.region [⟨none,some 9,(.fieldAddr 0 .none (.t 1))⟩,⟨none,some 10,(.load .none (.t 9))⟩,⟨none,some 11,(.len 1 (.t 10))⟩,⟨none,some 12,(.bin .gtr (.t 11) (.c (.int .i64 64)))⟩,⟨none,some 13,(.set (.t 12) false)⟩,⟨some (13,false),some 14,(.fieldAddr 1 .none (.t 1))⟩,⟨some (13,false),some 15,(.load .none (.t 14))⟩,⟨some (13,false),some 16,(.len 1 (.t 15))⟩,⟨some (13,false),some 17,(.bin .gtr (.t 16) (.c (.int .i64 256)))⟩,⟨none,some 18,(.pick (.t 13) (.c (.bool true)) (.t 17))⟩] (.some [1,18])) (.cond (.t 18) (.seq (.region [⟨none,some 2,(.set (.c (.int .i64 40)) false)⟩] (.some [2])) .ret) .skip)) (.seq (.region [⟨none,some 19,.oG⟩,⟨none,some 3,(.set (.t 19) false)⟩] (.some [1,3])) (.seq (.seq (.region [⟨none,some 20,(.fieldAddr 0 .none (.t 1))⟩,⟨none,some 21,(.load .none (.t 20))⟩,⟨none,some 22,(.len 1 (.t 21))⟩,⟨none,some 23,(.set (.c (.int .i64 0)) false)⟩] (.some [1,3,21,22,23])) (.block 0 (.loop (.seq (.region [⟨none,some 24,(.bin .lss (.t 23) (.t 22))⟩] (.some [1,3,21,22,23,24])) (.seq (.cond (.t 24) .skip (.exit 0)) (.seq (.block 1 (.seq (.region [⟨none,some 25,(.indexAddr 1 (.t 21) (.t 23))⟩,⟨none,some 26,(.load .none (.t 25))⟩,⟨none,some 5,(.set (.t 26) false)⟩] (.some [1,3,5,21,22,23])) (.seq (.seq (.region [⟨none,some 27,(.set (.t 5) false)⟩,⟨none,some 28,(.call (.c (.fn (.func 141) [] [])) [(.t 27)] .none)⟩,⟨none,some 29,(.un .not (.t 28))⟩,⟨none,some 30,(.set (.t 29) false)⟩,⟨some (30,false),some 31,(.set (.t 5) false)⟩,⟨some (30,false),some 32,(.call (.c (.fn (.func 142) [] [])) [(.t 31),(.c (.str ⟨#[95]⟩))] .none)⟩,⟨none,some 33,(.pick (.t 30) (.c (.bool true)) (.t 32))⟩,⟨none,some 34,(.set (.t 33) false)⟩,⟨some (34,false),some 35,(.set (.t 3) false)⟩,⟨some (34,false),some 36,(.set (.t 5) false)⟩,⟨some (34,false),some 37,(.lookup 1 (.bool false) (.t 35) (.t 36) false)⟩,⟨none,some 38,(.pick (.t 34) (.c (.bool true)) (.t 37))⟩] (.some [1,3,5,21,22,23,38])) (.cond (.t 38) (.seq (.region [⟨none,some 2,(.set (.c (.int .i64 40)) false)⟩] (.some [2])) .ret) .skip)) (.region [⟨none,some 39,(.set (.t 3) false)⟩,⟨none,some 40,(.set (.t 5) false)⟩,⟨none,none,(.lG 1 (.t 39) (.t 40) (.c (.bool true)))⟩] (.some [1,3,21,22,23]))))) (.region [⟨none,some 41,(.bin .add (.t 23) (.c (.int .i64 1)))⟩,⟨none,some 23,(.set (.t 41) false)⟩] (.some [1,3,21,22,23])))))))) (.seq (.region [⟨none,some 42,.oG⟩,⟨none,some 6,(.set (.t 42) false)⟩] (.some [1,6])) (.seq (.seq (.region [⟨none,some 43,(.fieldAddr 1 .none (.t 1))⟩,⟨none,some 44,(.load .none (.t 43))⟩,⟨none,some 45,(.len 1 (.t 44))⟩,⟨none,some 46,(.set (.c (.int .i64 0)) false)⟩] (.some [1,6,44,45,46])) (.block 2 (.loop (.seq (.region [⟨none,some 47,(.bin .lss (.t 46) (.t 45))⟩] (.some [1,6,44,45,46,47])) (.seq (.cond (.t 47) .skip (.exit 2)) (.seq (.block 3 (.seq (.region [⟨none,some 48,(.indexAddr 3 (.t 44) (.t 46))⟩,⟨none,some 49,(.load (.some 3) (.t 48))⟩,⟨none,some 8,(.s7 3 (.t 49))⟩] (.some [1,6,8,44,45,46])) (.seq (.seq (.region [⟨none,some 50,(.load (.some 3) (.t 8))⟩,⟨none,some 51,(.fieldAddr 0 .none (.t 1))⟩,⟨none,some 52,(.load .none (.t 51))⟩,⟨none,some 53,(.len 1 (.t 52))⟩,⟨none,some 54,(.call (.c (.fn (.func 143) [] [])) [(.t 50),(.t 53)] .none)⟩,⟨none,some 55,(.un .not (.t 54))⟩,⟨none,some 56,(.set (.t 55) false)⟩,⟨some (56,false),some 57,(.set (.t 6) false)⟩,⟨some (56,false),some 58,(.load (.some 3) (.t 8))⟩,⟨some (56,false),some 59,(.call (.c (.fn (.func 144) [] [])) [(.t 58)] .none)⟩,⟨some (56,false),some 60,(.lookup 1 (.bool false) (.t 57) (.t 59) false)⟩,⟨none,some 61,(.pick (.t 56) (.c (.bool true)) (.t 60))⟩] (.some [1,6,8,44,45,46,61])) (.cond (.t 61) (.seq (.region [⟨none,some 2,(.set (.c (.int .i64 40)) false)⟩] (.some [2])) .ret) .skip)) (.region [⟨none,some 62,(.set (.t 6) false)⟩,⟨none,some 63,(.load (.some 3) (.t 8))⟩,⟨none,some 64,(.call (.c (.fn (.func 144) [] [])) [(.t 63)] .none)⟩,⟨none,none,(.lG 1 (.t 62) (.t 64) (.c (.bool true)))⟩] (.some [1,6,44,45,46]))))) (.region [⟨none,some 65,(.bin .add (.t 46) (.c (.int .i64 1)))⟩,⟨none,some 46,(.set (.t 65) false)⟩] (.some [1,6,44,45,46])))))))) (.seq (.region [⟨none,some 2,(.set (.c (.int .i64 0)) false)⟩] (.some [2])) .ret)))))))
def Wg:sc:=⟨66,YY,[(.t 2)]⟩
theorem YZ:jq Tryz.prog 81 Wg:=⟨Tryz.call81,Tryz.f81,_,[(0,0,1),(14,2,1000)],[(0,[1]),(1,[1,18]),(2,[2]),(3,[1,3]),(4,[1,3,21,22,23]),(5,[1,3,21,22,23,24]),(6,[1,3,5,21,22,23]),(7,[1,3,5,21,22,23,38]),(8,[2]),(9,[1,3,21,22,23]),(10,[1,3,21,22,23]),(11,[1,6]),(12,[1,6,44,45,46]),(13,[1,6,44,45,46,47]),(14,[1,6,8,44,45,46]),(15,[1,6,8,44,45,46,61]),(16,[2]),(17,[1,6,44,45,46]),(18,[1,6,44,45,46]),(19,[2])],[],Tryz.func81,rfl,Tryz.ntmps81,by kernel_rfl,by kernel_rfl⟩
def k82:=aH Tryz.call82 Tryz.func82 Tryz.ntmps82 [(0,0,1)] [(0,[1]),(1,[5]),(2,[2]),(3,[2])] []
def k83:=aH Tryz.call83 Tryz.func83 Tryz.ntmps83 [(0,0,1),(0,1,1)] [(0,[2,3]),(1,[2,3,22]),(2,[4]),(3,[2,3,5]),(4,[2,3,5,27]),(5,[2,3,5]),(6,[2,3,5,59]),(7,[4]),(8,[2,3,5,6]),(9,[2,3,5,6,62]),(10,[2,3,5,6]),(11,[2,3,5,6,88]),(12,[4]),(13,[4])] [(11,(.take 0 true (.take 1 true (.take 2 true (.take 3 true (.take 4 true (.take 5 true (.take 6 true (.take 7 true (.take 8 true (.take 9 true (.take 10 true (.take 11 true (.take 12 true (.take 13 true (.take 14 true (.take 15 true (.take 16 true (.take 17 true (.take 18 true (.take 19 true (.take 20 true (.take 21 true (.take 22 true (.take 23 true .done)))))))))))))))))))))))))]
def k89:=aH Tryz.call89 Tryz.func89 Tryz.ntmps89 [(0,0,1),(0,1,1)] [(0,[2,3]),(1,[4])] []
def k92:=aH Tryz.call92 Tryz.func92 Tryz.ntmps92 [(0,0,1),(1,1,1000),(6,2,1000),(7,6,2000),(10,2,1000),(11,6,2000),(19,0,1),(19,4,1)] [(0,[1]),(1,[1,3]),(2,[1,3,4]),(3,[1,3,4]),(4,[1,3,4,14,15,16]),(5,[1,3,4,14,15,16,17]),(6,[1,3,4,6,14,15,16]),(7,[1,3,4,6,14,15,16]),(8,[1,3,4,14,15,16,28,29,30]),(9,[1,3,4,14,15,16,28,29,30,31]),(10,[1,3,4,8,14,15,16,28,29,30]),(11,[1,3,4,14,15,16,28,29,30]),(12,[1,3,4,14,15,16,28,29,30]),(13,[1,3,4,14,15,16]),(14,[1,3,9]),(15,[3,9,46,47]),(16,[3,9,46,47,48]),(17,[3,9,10,46,47]),(18,[3,9,10,46,47,52]),(19,[3,9,46,47]),(20,[3,9,46,47]),(21,[2])] []
def bF:jm:=UF Tryz.f93 1 [(0,0,1),(0,1,1),(2,0,1000),(6,5,1000)] [(0,[2,3,4,5]),(1,[2,3,4,5,14]),(2,[2,3,4,5,6]),(3,[2,3,4,5,6,18]),(4,[2,3,4,5,6,21]),(5,[2,3,4,5,6,7]),(6,[2,4,5,8]),(7,[4,5,8,38]),(8,[]),(9,[4,5])] []
def M5:IR:=(.region [⟨none,some 7,(.set (.t 22) false)⟩] (.some [2,3,4,5,6,7]))
def M6:IR:=(.block 3 (.seq (.region [⟨none,some 23,(.load (.some 3) (.t 2))⟩,⟨none,some 24,(.load .none (.t 3))⟩,⟨none,some 25,(.load .none (.t 6))⟩,⟨none,some 26,(.set (.t 7) false)⟩,⟨none,some 27,(.call (.c (.fn (.func 112) [] [])) [(.t 23),(.t 24),(.t 25),(.t 26)] .none)⟩,⟨none,some 8,(.s7 2 (.t 27))⟩] (.some [2,4,5,8])) (.seq (.region [⟨none,some 28,(.fieldAddr 0 (.some 2) (.t 2))⟩,⟨none,some 29,(.load (.some 2) (.t 28))⟩,⟨none,some 30,(.load (.some 2) (.t 8))⟩,⟨none,some 31,(.call (.c (.fn (.func 24) [] [])) [(.t 29),(.t 30)] .none)⟩,⟨none,some 32,(.bin .eql (.t 31) (.c (.int .i64 0)))⟩,⟨none,some 33,(.set (.t 32) false)⟩,⟨some (33,true),some 34,(.load (.some 3) (.t 2))⟩,⟨some (33,true),some 35,(.load (.some 2) (.t 8))⟩,⟨some (33,true),some 36,(.call (.c (.fn (.func 89) [] [])) [(.t 34),(.t 35)] .none)⟩,⟨some (33,true),some 37,(.bin .lss (.t 36) (.c (.int .i64 0)))⟩,⟨none,some 38,(.pick (.t 33) (.t 37) (.c (.bool false)))⟩] (.some [4,5,8,38])) (.cond (.t 38) (.seq (.region [⟨none,some 39,(.load (.some 2) (.t 8))⟩,⟨none,none,(.store 2 (.t 4) (.t 39))⟩,⟨none,none,(.store 1 (.t 5) (.c (.bool true)))⟩] (.some [])) .ret) .skip))))
theorem Wh:comp Tryz.prog bF.an bF.lv bF.pl bF.n bF.as=some M5:=by kernel_rfl
theorem Wi:comp Tryz.prog bF.an bF.lv bF.pl bF.n bF.bd=some M6:=by kernel_rfl
def bf:jm:=UF Tryz.f93 0 [(0,0,1),(0,1,1),(2,0,1000),(6,5,1000)] [(0,[2,3,4,5]),(1,[2,3,4,5,14]),(2,[2,3,4,5,6]),(3,[2,3,4,5,6,18]),(4,[2,3,4,5,6,21]),(5,[2,3,4,5,6,7]),(6,[2,4,5,8]),(7,[4,5,8,38]),(8,[]),(9,[4,5])] []
def M7:IR:=(.region [⟨none,some 6,(.s7 1 (.t 15))⟩] (.some [2,3,4,5,6]))
def M8:IR:=(.block 1 (.seq (.seq (.region [⟨none,some 16,(.load .none (.t 6))⟩,⟨none,some 17,(.call (.c (.fn (.func 167) [] [])) [(.t 16)] .none)⟩,⟨none,some 18,(.un .not (.t 17))⟩] (.some [2,3,4,5,6,18])) (.cond (.t 18) (.exit 1) .skip)) (.seq (.region [⟨none,some 19,(.load .none (.t 3))⟩,⟨none,some 20,(.len 1 (.t 19))⟩,⟨none,some 21,(.call (.c (.fn (.func 166) [] [])) [(.t 20),(.c (.int .i64 1)),(.c (.int .i64 3))] .none)⟩] (.some [2,3,4,5,6,21])) (.block 2 (.jL (.t 21) bF)))))
theorem Wj:comp Tryz.prog bf.an bf.lv bf.pl bf.n bf.as=some M7:=by kernel_rfl
theorem Wk:comp Tryz.prog bf.an bf.lv bf.pl bf.n bf.bd=some M8:=by kernel_rfl
def Y0:IR:=(.seq (.region [⟨none,some 2,(.mR (.t 0))⟩,⟨none,some 3,(.mR (.t 1))⟩,⟨none,some 4,(.alloc (.agg [.ag,.ag]))⟩,⟨none,some 5,(.alloc (.bool false))⟩] (.some [2,3,4,5])) (.seq (.seq (.region [⟨none,some 9,(.load .none (.t 3))⟩,⟨none,some 10,(.len 1 (.t 9))⟩,⟨none,some 11,(.load .none (.t 3))⟩,⟨none,some 12,(.len 1 (.t 11))⟩,⟨none,some 13,(.bin .sub (.t 12) (.c (.int .i64 1)))⟩,⟨none,some 14,(.call (.c (.fn (.func 166) [] [])) [(.t 10),(.c (.int .i64 0)),(.t 13)] .none)⟩] (.some [2,3,4,5,14])) (.block 0 (.jL (.t 14) bf))) (.seq (.region [⟨none,some 40,(.build (.agg [.ag,.ag]) [])⟩,⟨none,none,(.store 2 (.t 4) (.t 40))⟩,⟨none,none,(.store 1 (.t 5) (.c (.bool false)))⟩] (.some [4,5])) .ret)))
def Y1:sc:=⟨41,Y0,[(.c 4 (.some 2)),(.c 5 .none)]⟩
theorem ad5:jq Tryz.prog 93 Y1:=⟨Tryz.call93,Tryz.f93,_,[(0,0,1),(0,1,1),(2,0,1000),(6,5,1000)],[(0,[2,3,4,5]),(1,[2,3,4,5,14]),(2,[2,3,4,5,6]),(3,[2,3,4,5,6,18]),(4,[2,3,4,5,6,21]),(5,[2,3,4,5,6,7]),(6,[2,4,5,8]),(7,[4,5,8,38]),(8,[]),(9,[4,5])],[],Tryz.func93,rfl,Tryz.ntmps93,by kernel_rfl,by kernel_rfl⟩
end Go.aK
end
noncomputable section
set_option maxRecDepth 100000
set_option maxHeartbeats 0
namespace Go.aK
open Go Go.Proofs
def Em:=aH Tryz.call100 Tryz.func100 Tryz.ntmps100 [(4,5,2000)] [(0,[0,1]),(1,[0,1,7,8]),(2,[0,1,7,8,9]),(3,[0,1,5,7,8]),(4,[0,1,5,7,8,16]),(5,[4]),(6,[0,1,7,8]),(7,[4])] []
def Y2:=aH Tryz.call101 Tryz.func101 Tryz.ntmps101 [(0,0,1),(1,2,2000)] [(0,[1,2,3]),(1,[4])] []
def En:=aH Tryz.call102 Tryz.func102 Tryz.ntmps102 [(1,2,2000)] [(0,[0,1]),(1,[4])] []
def Y3:=aH Tryz.call103 Tryz.func103 Tryz.ntmps103 [(1,3,2000)] [(0,[0,1,2]),(1,[4])] []
def Y4:=aH Tryz.call107 Tryz.func107 Tryz.ntmps107 [(0,0,1)] [(0,[1,2]),(1,[3])] []
def Q7:=aH Tryz.call108 Tryz.func108 Tryz.ntmps108 [(0,0,1),(2,1,2000)] [(0,[1]),(1,[1,3]),(2,[1,3]),(3,[2])] []
def Y5:=aH Tryz.call109 Tryz.func109 Tryz.ntmps109 [(4,2,1000)] [(0,[0]),(1,[0,3]),(2,[3,6,7,8]),(3,[3,6,7,8,9]),(4,[3,5,6,7,8]),(5,[3,5,6,7,8,14]),(6,[3,5,6,7,8]),(7,[3,6,7,8]),(8,[3,6,7,8]),(9,[2])] []
def Y6:=aH Tryz.call111 Tryz.func111 Tryz.ntmps111 [] [(0,[0,1]),(1,[0,1,7,8]),(2,[0,1,7,8,9]),(3,[0,1,5,7,8]),(4,[0,1,5,7,8,16]),(5,[4]),(6,[0,1,7,8]),(7,[4])] []
def Y7:=aH Tryz.call113 Tryz.func113 Tryz.ntmps113 [] [(0,[0,1]),(1,[0,1,10]),(2,[0,1]),(3,[0,5,6]),(4,[0,6,26]),(5,[0,6]),(6,[0,7]),(7,[7,8]),(8,[7,8,37]),(9,[7,8]),(10,[4])] [(9,(.take 1 true (.take 2 true (.take 3 true (.take 4 true (.take 5 true (.take 6 true (.take 0 false (.br 7 (.take 8 true (.take 9 true .done)) .nil)))))))))]
def Eo:=aH Tryz.call114 Tryz.func114 Tryz.ntmps114 [(4,5,2000)] [(0,[0,1]),(1,[0,1,7,8]),(2,[0,1,7,8,9]),(3,[0,1,5,7,8]),(4,[0,1,5,7,8,16]),(5,[4]),(6,[0,1,7,8]),(7,[4])] []
def Y8:=aH Tryz.call115 Tryz.func115 Tryz.ntmps115 [(0,0,1)] [(0,[1]),(1,[5]),(2,[2]),(3,[2])] []
def Y9:=aH Tryz.call116 Tryz.func116 Tryz.ntmps116 [(0,0,1),(0,1,1)] [(0,[2,3]),(1,[2,3,31]),(2,[4]),(3,[2,3,5]),(4,[2,3,5,36]),(5,[2,3,5]),(6,[2,3,5,6]),(7,[2,3,5,47]),(8,[4]),(9,[4])] [(1,(.take 0 true (.take 1 true (.take 2 true (.take 3 true (.take 4 true (.take 5 true (.take 6 true (.take 7 true (.take 8 true (.take 9 true (.take 10 true (.take 11 true (.take 12 true (.take 13 true (.take 14 true (.take 15 true (.take 16 true (.take 17 true (.take 18 true (.take 19 true (.take 20 true (.take 21 true (.take 22 true (.take 23 true (.take 24 true .done)))))))))))))))))))))))))),(6,(.take 0 true (.take 1 true (.take 2 true (.take 3 true (.take 4 true (.take 5 true (.take 6 true (.take 7 true .done)))))))))]
def Za:=aH Tryz.call117 Tryz.func117 Tryz.ntmps117 [(0,0,1),(1,0,1),(1,5,1),(5,11,2000)] [(0,[1,2,3,4]),(1,[1,3,4]),(2,[1,3,14,15,16]),(3,[1,3,14,15,16,17]),(4,[1,3,6,7,14,15,16]),(5,[1,3,14,15,16]),(6,[1,3,14,15,16])] [(1,(.take 1 false (.take 2 false (.take 3 false (.br 0 (.br 4 (.br 5 .done .nil) .nil) .nil))))),(5,(.take 0 true (.take 1 true (.take 2 true (.take 3 true (.take 4 true (.take 5 true (.take 6 true (.take 7 true (.take 8 true (.take 9 true (.br 10 (.br 11 .done .nil) .nil))))))))))))]
def Q8:=aH Tryz.call118 Tryz.func118 Tryz.ntmps118 [(3,0,1),(3,3,1)] [(0,[0]),(1,[0,4]),(2,[2]),(3,[2])] []
def Zb:=aH Tryz.call119 Tryz.func119 Tryz.ntmps119 [] [(0,[1,2,4]),(1,[2,4,8,9,10]),(2,[2,4,8,9,10,11]),(3,[2,4,7,8,9,10]),(4,[2,4,7,8,9,10,22]),(5,[4,5]),(6,[2,4,8,9,10]),(7,[2,4,8,9,10]),(8,[4,5])] []
def Zc:=aH Tryz.call120 Tryz.func120 Tryz.ntmps120 [(0,0,1)] [(0,[1,2]),(1,[2])] []
def Q9:=aH Tryz.call121 Tryz.func121 Tryz.ntmps121 [] [(0,[0]),(1,[4]),(2,[2]),(3,[2])] []
def Zd:=aH Tryz.call122 Tryz.func122 Tryz.ntmps122 [(0,0,1),(2,1,2000)] [(0,[1]),(1,[1,4]),(2,[4]),(3,[4,7]),(4,[2,3]),(5,[2,3])] [(5,(.take 0 true (.take 1 true (.take 2 true (.take 3 true (.take 4 true (.take 5 true .done)))))))]
def Ze:=aH Tryz.call123 Tryz.func123 Tryz.ntmps123 [(0,0,1),(12,2,1000),(13,2,2000),(13,6,1000),(16,1,1),(16,6,1)] [(0,[0,3,4]),(1,[0,3,4,13]),(2,[0,3,4]),(3,[0,3,4,33]),(4,[4,5]),(5,[4,5]),(6,[0,3,4]),(7,[0,3,4,55]),(8,[4,5]),(9,[0,3,4,6]),(10,[0,4,6,63,64,65]),(11,[0,4,6,63,64,65,66]),(12,[0,4,6,8,63,64,65]),(13,[0,4,6,9,10,63,64,65]),(14,[0,4,6,9,63,64,65,76]),(15,[4,5]),(16,[0,4,6,63,64,65]),(17,[0,4,6,63,64,65]),(18,[4,5])] [(2,(.take 0 true (.take 1 true (.take 2 true (.take 3 true (.take 4 true (.take 5 true (.take 6 true (.take 7 true (.take 8 true (.take 9 true (.take 10 true (.take 11 true (.take 12 true (.take 13 true (.take 14 true (.br 15 .done .nil))))))))))))))))),(5,(.take 0 true (.take 1 true (.take 2 true (.take 3 true (.take 4 true (.take 5 true (.take 6 true (.take 7 true (.take 8 true (.br 9 (.take 10 true .done) .nil)))))))))))]
def Zf:=aH Tryz.call124 Tryz.func124 Tryz.ntmps124 [(0,0,1)] [(0,[1,2]),(1,[1,2,6]),(2,[2,3]),(3,[2,3])] []
def Ra:=aH Tryz.call126 Tryz.func126 Tryz.ntmps126 [(0,0,1)] [(0,[1]),(1,[1,12]),(2,[2]),(3,[2])] []
def Zg:=aH Tryz.call127 Tryz.func127 Tryz.ntmps127 [(0,0,1),(0,1,1),(10,11,2000)] [(0,[2,3,4]),(1,[2,3,4,10]),(2,[2,3,4,17]),(3,[2,3,4]),(4,[6]),(5,[2,3,4,48]),(6,[6]),(7,[2,3,4,51,52]),(8,[2,3,4,51,52,53]),(9,[2,3,4,7,51,52]),(10,[2,3,4,51,52,67]),(11,[6]),(12,[2,3,4,51,52]),(13,[6])] [(4,(.take 0 true (.take 1 true (.take 2 true (.take 3 true (.take 4 true (.take 5 true (.take 6 true (.take 7 true .done))))))))),(10,(.take 0 true (.take 1 true (.take 2 true (.take 3 true (.take 4 true (.take 5 true (.take 6 true (.take 7 true (.take 8 true (.take 9 true (.take 10 true (.br 11 (.take 12 true .done) .nil)))))))))))))]
def Zh:=aH Tryz.call128 Tryz.func128 Tryz.ntmps128 [(4,5,2000)] [(0,[0,1]),(1,[0,1,7,8]),(2,[0,1,7,8,9]),(3,[0,1,5,7,8]),(4,[0,1,5,7,8,16]),(5,[4]),(6,[0,1,7,8]),(7,[4])] []
def Zi:=aH Tryz.call129 Tryz.func129 Tryz.ntmps129 [(4,5,2000)] [(0,[0,1]),(1,[0,1,7,8]),(2,[0,1,7,8,9]),(3,[0,1,5,7,8]),(4,[0,1,5,7,8,16]),(5,[4]),(6,[0,1,7,8]),(7,[4])] []
def Rb:=aH Tryz.call130 Tryz.func130 Tryz.ntmps130 [(0,0,1)] [(0,[1]),(1,[5]),(2,[2]),(3,[2])] []
def Zj:=aH Tryz.call131 Tryz.func131 Tryz.ntmps131 [(0,0,1),(0,1,1)] [(0,[2,3]),(1,[2,3,29]),(2,[4]),(3,[4])] [(1,(.take 0 true (.take 1 true (.take 2 true (.take 3 true (.take 4 true (.take 5 true (.take 6 true (.take 7 true (.take 8 true (.take 9 true (.take 10 true (.take 11 true (.take 12 true (.take 13 true (.take 14 true (.take 15 true (.take 16 true (.take 17 true (.take 18 true (.take 19 true (.take 20 true (.take 21 true (.take 22 true (.take 23 true (.take 24 true .done))))))))))))))))))))))))))]
def Zk:=aH Tryz.call133 Tryz.func133 Tryz.ntmps133 [(1,3,1000),(4,1,2000)] [(0,[0,1,2,3]),(1,[0,3,9]),(2,[0,3,9,10,11]),(3,[0,3,9,10,22]),(4,[0,9,10]),(5,[10]),(6,[8])] []
def Zl:=aH Tryz.call134 Tryz.func134 Tryz.ntmps134 [(7,7,2000)] [(0,[0,1,2]),(1,[0,1,2,6]),(2,[0,1,2,17]),(3,[3]),(4,[0,1,2,18,19]),(5,[0,1,2,18,19,20]),(6,[0,1,2,7,8,18,19]),(7,[0,1,2,18,19,31]),(8,[3]),(9,[0,1,2,18,19]),(10,[3])] []
def Zm:=aH Tryz.call135 Tryz.func135 Tryz.ntmps135 [(1,8,1000)] [(0,[0,1]),(1,[0,7]),(2,[0,7,18]),(3,[4,5,6]),(4,[4,5,6])] [(4,(.take 0 true (.take 1 true (.take 2 true (.take 3 true (.take 4 true (.take 5 true (.take 6 true (.take 7 true (.take 8 true (.take 9 true (.take 10 true (.take 11 true (.take 12 true (.take 13 true (.take 14 true (.take 15 true (.take 16 true (.take 17 true (.take 18 true (.take 19 true (.take 20 true .done))))))))))))))))))))))]
def Zn:=aH Tryz.call136 Tryz.func136 Tryz.ntmps136 [] [(0,[0]),(1,[0])] []
def Zo:=aH Tryz.call138 Tryz.func138 Tryz.ntmps138 [(9,3,2000)] [(0,[0,1,2]),(1,[0,1,2,4,5,6]),(2,[0,1,2,4,5,6,7,9]),(3,[0,1,2,4,5,6,7,9,34]),(4,[3]),(5,[0,4,5,7,10,11]),(6,[0,5,10,11,84]),(7,[3]),(8,[0,10,11,86]),(9,[12]),(10,[3]),(11,[3])] [(4,(.take 0 true (.take 1 true (.take 2 true (.take 3 true (.take 4 true (.take 5 true (.take 6 true (.take 7 true (.take 8 true (.take 9 true (.take 10 true (.take 11 true (.take 12 true (.take 13 true (.take 14 true (.take 15 true (.take 16 true (.take 17 true (.take 18 true (.take 19 true (.take 20 true (.take 21 true (.take 22 true (.take 23 true (.take 24 true .done)))))))))))))))))))))))))),(5,(.take 0 true (.take 1 true (.take 2 true (.take 3 true (.take 4 true (.take 5 true (.take 6 true (.take 7 true (.take 8 true (.take 9 true (.take 10 true (.take 11 true (.take 12 true (.take 13 true (.take 14 true (.take 15 true (.take 16 true (.take 17 true .done)))))))))))))))))))]
def Zp:=aH Tryz.call140 Tryz.func140 Tryz.ntmps140 [(7,3,2000)] [(0,[0,1,2]),(1,[0,1,2,14]),(2,[6]),(3,[1,2,15,16,17]),(4,[1,2,15,16,17,18]),(5,[1,2,7,8,15,16,17]),(6,[1,2,8,9,15,16,17]),(7,[1,2,15,16,17,30]),(8,[6]),(9,[1,2,15,16,17]),(10,[6])] []
def To:IR:=(.seq (.region [⟨none,some 2,(.set (.c (.bool false)) false)⟩] (.some [0])) (.seq (.seq (.region [⟨none,some 4,(.set (.t 0) false)⟩,⟨none,some 5,(.len 0 (.t 4))⟩,⟨none,some 6,(.bin .lss (.t 5) (.c (.int .i64 1)))⟩,⟨none,some 7,(.set (.t 6) false)⟩,⟨some (7,false),some 8,(.set (.t 0) false)⟩,⟨some (7,false),some 9,(.len 0 (.t 8))⟩,⟨some (7,false),some 10,(.bin .gtr (.t 9) (.c (.int .i64 32)))⟩,⟨none,some 11,(.pick (.t 7) (.c (.bool true)) (.t 10))⟩] (.some [0,11])) (.cond (.t 11) (.seq (.region [⟨none,some 2,(.set (.c (.bool false)) false)⟩] (.some [2])) .ret) .skip)) (.seq (.seq (.region [⟨none,some 12,(.set (.t 0) false)⟩,⟨none,some 13,(.len 0 (.t 12))⟩,⟨none,some 14,(.set (.c (.int .i64 0)) false)⟩] (.some [0,13,14])) (.block 0 (.loop (.seq (.region [⟨none,some 15,(.bin .lss (.t 14) (.t 13))⟩] (.some [0,13,14,15])) (.seq (.cond (.t 15) .skip (.exit 0)) (.seq (.block 1 (.seq (.region [⟨none,some 16,(.set (.t 14) false)⟩,⟨none,some 3,(.set (.t 16) false)⟩] (.some [0,3,13,14])) (.seq (.region [⟨none,some 17,(.set (.t 0) false)⟩,⟨none,some 18,(.set (.t 3) false)⟩,⟨none,some 19,(.dn (.t 17) (.t 18))⟩,⟨none,some 20,(.bin .lss (.t 19) (.c (.int .u8 33)))⟩,⟨none,some 21,(.set (.t 20) false)⟩,⟨some (21,false),some 22,(.set (.t 0) false)⟩,⟨some (21,false),some 23,(.set (.t 3) false)⟩,⟨some (21,false),some 24,(.dn (.t 22) (.t 23))⟩,⟨some (21,false),some 25,(.bin .gtr (.t 24) (.c (.int .u8 126)))⟩,⟨none,some 26,(.pick (.t 21) (.c (.bool true)) (.t 25))⟩,⟨none,some 27,(.set (.t 26) false)⟩,⟨some (27,false),some 28,(.set (.t 0) false)⟩,⟨some (27,false),some 29,(.set (.t 3) false)⟩,⟨some (27,false),some 30,(.dn (.t 28) (.t 29))⟩,⟨some (27,false),some 31,(.call (.c (.fn (.func 190) [] [])) [(.c (.str ⟨#[40,41,44]⟩)),(.t 30)] .none)⟩,⟨some (27,false),some 32,(.bin .geq (.t 31) (.c (.int .i64 0)))⟩,⟨none,some 33,(.pick (.t 27) (.c (.bool true)) (.t 32))⟩] (.some [0,13,14,33])) (.cond (.t 33) (.seq (.region [⟨none,some 2,(.set (.c (.bool false)) false)⟩] (.some [2])) .ret) .skip)))) (.region [⟨none,some 34,(.bin .add (.t 14) (.c (.int .i64 1)))⟩,⟨none,some 14,(.set (.t 34) false)⟩] (.some [0,13,14])))))))) (.seq (.region [⟨none,some 2,(.set (.c (.bool true)) false)⟩] (.some [2])) .ret))))
def M9:sc:=⟨35,To,[(.t 2)]⟩
theorem Tp:jq Tryz.prog 141 M9:=⟨Tryz.call141,Tryz.f141,_,[],[(0,[0]),(1,[0,11]),(2,[2]),(3,[0,13,14]),(4,[0,13,14,15]),(5,[0,3,13,14]),(6,[0,13,14,33]),(7,[2]),(8,[0,13,14]),(9,[2])],[],Tryz.func141,rfl,Tryz.ntmps141,by kernel_rfl,by kernel_rfl⟩
def Rc:=aH Tryz.call142 Tryz.func142 Tryz.ntmps142 [] [(0,[0,1]),(1,[4])] []
def Tq:IR:=(.seq (.region [⟨none,some 2,(.mR (.t 0))⟩,⟨none,some 3,(.mR (.t 1))⟩,⟨none,some 4,(.set (.c (.bool false)) false)⟩] (.some [2,3])) (.seq (.region [⟨none,some 7,(.fn (.func 192) [] [(.t 3)])⟩,⟨none,some 5,(.s7 1 (.t 7))⟩] (.some [2,5])) (.seq (.region [⟨none,some 8,(.fieldAddr 0 .none (.t 2))⟩,⟨none,some 9,(.load .none (.t 8))⟩,⟨none,some 10,(.call (.c (.fn (.func 193) [] [])) [(.t 9),(.c (.str ⟨#[95]⟩))] .none)⟩,⟨none,some 6,(.set (.t 10) false)⟩] (.some [2,5,6])) (.seq (.region [⟨none,some 11,(.fieldAddr 0 .none (.t 2))⟩,⟨none,some 12,(.load .none (.t 11))⟩,⟨none,some 13,(.call (.c (.fn (.func 141) [] [])) [(.t 12)] .none)⟩,⟨none,some 14,(.set (.t 13) false)⟩,⟨some (14,true),some 15,(.set (.t 6) false)⟩,⟨some (14,true),some 16,(.fieldAddr 0 .none (.t 2))⟩,⟨some (14,true),some 17,(.load .none (.t 16))⟩,⟨some (14,true),some 18,(.len 0 (.t 17))⟩,⟨some (14,true),some 19,(.bin .lss (.t 15) (.t 18))⟩,⟨none,some 20,(.pick (.t 14) (.t 19) (.c (.bool false)))⟩,⟨none,some 21,(.set (.t 20) false)⟩,⟨some (21,true),some 22,(.set (.t 6) false)⟩,⟨some (21,true),some 23,(.bin .eql (.t 22) (.c (.int .i64 0)))⟩,⟨some (21,true),some 24,(.set (.t 23) false)⟩,⟨some (24,false),some 25,(.set (.t 6) false)⟩,⟨some (24,false),some 26,(.fieldAddr 1 .none (.t 2))⟩,⟨some (24,false),some 27,(.load .none (.t 26))⟩,⟨some (24,false),some 28,(.len 1 (.t 27))⟩,⟨some (24,false),some 29,(.bin .eql (.t 25) (.t 28))⟩,⟨some (21,true),some 30,(.pick (.t 24) (.c (.bool true)) (.t 29))⟩,⟨none,some 31,(.pick (.t 21) (.t 30) (.c (.bool false)))⟩,⟨none,some 32,(.set (.t 31) false)⟩,⟨some (32,true),some 33,(.fieldAddr 1 .none (.t 2))⟩,⟨some (32,true),some 34,(.load .none (.t 33))⟩,⟨some (32,true),some 35,(.len 1 (.t 34))⟩,⟨some (32,true),some 36,(.bin .leq (.t 35) (.c (.int .i64 8)))⟩,⟨none,some 37,(.pick (.t 32) (.t 36) (.c (.bool false)))⟩,⟨none,some 38,(.set (.t 37) false)⟩,⟨some (38,true),some 39,(.load .none (.t 5))⟩,⟨some (38,true),some 40,(.fieldAddr 2 .none (.t 2))⟩,⟨some (38,true),some 41,(.load .none (.t 40))⟩,⟨some (38,true),some 42,(.call (.t 39) [(.t 41)] (.some 1999))⟩,⟨none,some 43,(.pick (.t 38) (.t 42) (.c (.bool false)))⟩,⟨none,some 44,(.set (.t 43) false)⟩,⟨some (44,true),some 45,(.fieldAddr 1 .none (.t 2))⟩,⟨some (44,true),some 46,(.load .none (.t 45))⟩,⟨some (44,true),some 47,(.fn (.func 194) [] [(.t 5)])⟩,⟨some (44,true),some 48,(.call (.c (.fn (.func 102) [] [])) [(.t 46),(.t 47)] (.some 1999))⟩,⟨some (44,true),some 49,(.un .not (.t 48))⟩,⟨none,some 50,(.pick (.t 44) (.t 49) (.c (.bool false)))⟩,⟨none,some 4,(.set (.t 50) false)⟩] (.some [4])) .ret))))
def Na:sc:=⟨51,Tq,[(.t 4)]⟩
theorem Tr:jq Tryz.prog 143 Na:=⟨Tryz.call143,Tryz.f143,_,[(0,0,1),(0,1,1),(1,1,1000),(3,31,2000),(3,37,2000)],[(0,[2,3]),(1,[2,5]),(2,[2,5,6]),(3,[4])],[],Tryz.func143,rfl,Tryz.ntmps143,by kernel_rfl,by kernel_rfl⟩
def Ts:IR:=(.seq (.region [⟨none,some 1,(.mR (.t 0))⟩,⟨none,some 2,(.set (.c (.str ⟨#[]⟩)) false)⟩] (.some [1])) (.seq (.region [⟨none,some 6,(.fieldAddr 0 .none (.t 1))⟩,⟨none,some 7,(.load .none (.t 6))⟩,⟨none,some 8,(.bin .add (.t 7) (.c (.str ⟨#[40]⟩)))⟩,⟨none,some 9,(.bytesOf (.t 8))⟩,⟨none,some 3,(.set (.t 9) true)⟩] (.some [1,3])) (.seq (.seq (.draw (.take .true ⟨none,some 10,(.fieldAddr 1 .none (.t 1))⟩ (.take .true ⟨none,some 11,(.load .none (.t 10))⟩ (.take .true ⟨none,some 12,(.call (.c (.fn (.func 118) [] [])) [(.t 11)] .none)⟩ (.take .true ⟨none,some 13,(.fieldAddr 2 .none (.t 1))⟩ (.take .true ⟨none,some 14,(.load .none (.t 13))⟩ (.take .true ⟨none,some 15,(.buildSlice 0 1 (.int .i64 0) 1 [(0,(.t 14))])⟩ (.take .true ⟨none,some 18,(.set (.c (.int .i64 0)) false)⟩ (.br ⟨none,some 16,(.append 1 8 (.t 12) (.t 15))⟩ (.take .true ⟨none,some 17,(.len 1 (.t 16))⟩ .done) .nil)))))))) (.some [3,16,17,18])) (.block 0 (.loop (.seq (.region [⟨none,some 19,(.bin .lss (.t 18) (.t 17))⟩] (.some [3,16,17,18,19])) (.seq (.cond (.t 19) .skip (.exit 0)) (.seq (.block 1 (.seq (.region [⟨none,some 20,(.indexAddr 1 (.t 16) (.t 18))⟩,⟨none,some 21,(.load .none (.t 20))⟩,⟨none,some 5,(.set (.t 21) false)⟩] (.some [3,5,16,17,18])) (.region [⟨none,some 22,(.set (.t 3) true)⟩,⟨none,some 23,(.set (.t 5) false)⟩,⟨none,some 24,(.fq .u8 (.t 23))⟩,⟨none,some 25,(.buildSlice 0 1 (.int .u8 0) 1 [(0,(.t 24))])⟩,⟨none,some 26,(.append 1 1 (.t 22) (.t 25))⟩,⟨none,some 3,(.set (.t 26) true)⟩] (.some [3,16,17,18])))) (.region [⟨none,some 27,(.bin .add (.t 18) (.c (.int .i64 1)))⟩,⟨none,some 18,(.set (.t 27) false)⟩] (.some [3,16,17,18])))))))) (.seq (.region [⟨none,some 28,(.set (.t 3) false)⟩,⟨none,some 29,(.strOf (.t 28))⟩,⟨none,some 2,(.set (.t 29) false)⟩] (.some [2])) .ret))))
def Nb:sc:=⟨30,Ts,[(.t 2)]⟩
theorem Tt:jq Tryz.prog 144 Nb:=⟨Tryz.call144,Tryz.f144,_,[(0,0,1),(1,4,1),(5,0,1),(5,5,1)],[(0,[1]),(1,[1,3]),(2,[3,16,17,18]),(3,[3,16,17,18,19]),(4,[3,5,16,17,18]),(5,[3,16,17,18]),(6,[3,16,17,18]),(7,[2])],[(2,(.take 0 true (.take 1 true (.take 2 true (.take 3 true (.take 4 true (.take 5 true (.take 8 true (.br 6 (.take 7 true .done) .nil)))))))))],Tryz.func144,rfl,Tryz.ntmps144,by kernel_rfl,by kernel_rfl⟩
def Zq:=aH Tryz.call145 Tryz.func145 Tryz.ntmps145 [(0,0,1)] [(0,[1]),(1,[1,16]),(2,[2]),(3,[1,3]),(4,[1,3,21]),(5,[1,3]),(6,[1,3,39]),(7,[2]),(8,[1,3,4]),(9,[1,3,4,42]),(10,[1,3,4]),(11,[1,3,4,55]),(12,[2]),(13,[1,5]),(14,[1,5,60]),(15,[1,5]),(16,[1,5,70]),(17,[2]),(18,[1,5,6]),(19,[1,5,6,73]),(20,[1,5,6]),(21,[1,5,6,118]),(22,[2]),(23,[2])] [(11,(.take 0 true (.take 1 true (.take 2 true (.take 3 true (.take 4 true (.take 5 true (.take 6 true (.take 7 true (.take 8 true (.take 9 true (.take 10 true .done)))))))))))),(16,(.take 0 true (.take 1 true (.take 2 true (.take 3 true (.take 4 true (.take 5 true (.take 6 true (.take 7 true .done))))))))),(21,(.take 0 true (.take 1 true (.take 2 true (.take 3 true (.take 4 true (.take 5 true (.take 6 true (.take 7 true (.take 8 true (.take 9 true (.take 10 true (.take 11 true (.take 12 true (.take 13 true (.take 14 true (.take 15 true (.take 16 true (.take 17 true (.take 18 true (.take 19 true (.take 20 true (.take 21 true (.take 22 true (.take 23 true (.take 24 true (.take 25 true (.take 26 true (.take 27 true (.take 28 true (.take 29 true (.take 30 true (.take 31 true (.take 32 true (.take 33 true (.take 34 true (.take 35 true (.take 36 true (.take 37 true (.take 38 true (.take 39 true (.take 40 true (.take 41 true (.take 42 true .done))))))))))))))))))))))))))))))))))))))))))))]
def Zr:=aH Tryz.call147 Tryz.func147 Tryz.ntmps147 [(1,3,2000),(1,8,2000)] [(0,[0,1,2]),(1,[4])] []
def Zs:=aH Tryz.call148 Tryz.func148 Tryz.ntmps148 [(1,9,2000)] [(0,[0,1,2,3,4]),(1,[6])] [(1,(.take 0 true (.take 1 true (.take 2 true (.take 3 true (.take 4 true (.take 5 true (.take 6 true (.take 7 true (.take 8 true (.br 9 (.take 10 true .done) .nil)))))))))))]
def Zt:=aH Tryz.call150 Tryz.func150 Tryz.ntmps150 [(2,20,2000)] [(0,[0,1,2]),(1,[0,1,2,7]),(2,[0,1,2,7,29]),(3,[0,1,2,7]),(4,[6])] [(2,(.take 0 true (.take 1 true (.take 2 true (.take 3 true (.take 4 true (.take 5 true (.take 6 true (.take 7 true (.take 8 true (.take 9 true (.take 10 true (.take 11 true (.take 12 true (.take 13 true (.take 14 true (.take 15 true (.take 16 true (.take 17 true (.take 18 true (.take 19 true (.br 20 (.take 21 true .done) .nil))))))))))))))))))))))]
def Zu:=aH Tryz.call151 Tryz.func151 Tryz.ntmps151 [(0,0,1),(1,11,2000)] [(0,[1,2,3,4]),(1,[5])] []
def Zv:=aH Tryz.call152 Tryz.func152 Tryz.ntmps152 [] [(0,[0]),(1,[2])] []
def Zw:=aH Tryz.call153 Tryz.func153 Tryz.ntmps153 [(0,0,1)] [(0,[1]),(1,[2])] []
def Zx:=aH Tryz.call154 Tryz.func154 Tryz.ntmps154 [(1,10,2000)] [(0,[0,1,2,3,4]),(1,[6])] [(1,(.take 0 true (.take 1 true (.take 2 true (.take 3 true (.take 4 true (.take 5 true (.take 6 true (.take 7 true (.take 8 true (.take 9 true (.br 10 (.take 11 true (.take 12 true .done)) .nil))))))))))))]
def Zy:=aH Tryz.call155 Tryz.func155 Tryz.ntmps155 [] [(0,[0,1,2]),(1,[0,2,8,9,10]),(2,[8,9,10,11,13]),(3,[6,7])] []
def Zz:=aH Tryz.call156 Tryz.func156 Tryz.ntmps156 [(0,0,1),(10,5,1000),(13,9,2000),(15,10,2000)] [(0,[0,1,2,7]),(1,[0,1,2,7,29]),(2,[8]),(3,[0,1,2,7,9,10]),(4,[0,1,2,7,9,10,37,38,39]),(5,[0,1,2,7,9,10,37,38,39,40]),(6,[0,1,2,7,9,10,11,12,37,38,39]),(7,[0,1,2,7,9,10,11,12,37,38,39,51]),(8,[8]),(9,[0,1,2,7,9,10,11,12,37,38,39]),(10,[0,1,2,7,9,10,11,12,13,37,38,39]),(11,[0,1,2,7,9,10,11,12,13,37,38,39,80]),(12,[0,1,2,7,9,10,11,12,37,38,39]),(13,[0,1,2,7,9,10,37,38,39,97]),(14,[8]),(15,[0,1,2,7,9,10,37,38,39,109]),(16,[8]),(17,[0,1,2,7,9,10,37,38,39]),(18,[1,9,10,14]),(19,[9,10,14,112,113]),(20,[9,10,14,112,113,114]),(21,[9,10,14,15,112,113]),(22,[9,10,14,15,112,113,127]),(23,[8]),(24,[9,10,14,112,113]),(25,[9,10,14,112,113]),(26,[8])] [(3,(.take 0 false (.take 1 false (.take 3 false (.take 4 false (.br 2 (.take 6 false (.br 5 (.take 7 true .done) .nil)) (.br 5 (.br 2 (.take 6 true (.take 7 true .done)) .nil) .nil))))))),(13,(.take 0 true (.take 1 true (.take 2 true (.take 3 true (.take 4 true (.take 5 true (.take 6 true (.take 7 true (.take 8 true (.br 9 (.take 10 true .done) .nil))))))))))),(15,(.take 0 true (.take 1 true (.take 2 true (.take 3 true (.take 4 true (.take 5 true (.take 6 true (.take 7 true (.take 8 true (.take 9 true (.br 10 (.take 11 true .done) .nil))))))))))))]
def Kr:=aH Tryz.call161 Tryz.func161 Tryz.ntmps161 [(4,5,2000)] [(0,[0,1]),(1,[0,1,7,8]),(2,[0,1,7,8,9]),(3,[0,1,5,7,8]),(4,[0,1,5,7,8,16]),(5,[4]),(6,[0,1,7,8]),(7,[4])] []
def ZA:=aH Tryz.call162 Tryz.func162 Tryz.ntmps162 [(0,0,1)] [(0,[1,2]),(1,[3])] []
def ZB:=aH Tryz.call165 Tryz.func165 Tryz.ntmps165 [(2,2,1000),(5,3,2000)] [(0,[1,2,6,7,8]),(1,[1,2,6,7,8,9]),(2,[1,2,5,6,7,8]),(3,[1,2,5,6,7,8,14]),(4,[1,2,5,6,7,8]),(5,[1,2,6,7,8]),(6,[1,2,6,7,8])] []
def ZC:=aH Tryz.call166 Tryz.func166 Tryz.ntmps166 [(0,0,1),(0,1,1),(0,2,1)] [(0,[3,4,5]),(1,[6])] []
def ZD:=aH Tryz.call167 Tryz.func167 Tryz.ntmps167 [(1,0,1)] [(0,[0]),(1,[0,8,9]),(2,[0,8,9,10]),(3,[0,3,8,9]),(4,[0,8,9,15]),(5,[2]),(6,[0,8,9]),(7,[2])] []
def Re:=aH Tryz.call171 Tryz.func171 Tryz.ntmps171 [(0,0,1),(5,2,1000),(7,4,2000)] [(0,[0,2,4]),(1,[0,2,4]),(2,[0,2,4]),(3,[0,2,25,26,27]),(4,[0,2,25,26,27,28]),(5,[0,2,7,25,26,27]),(6,[0,2,7,25,26,27,42]),(7,[0,2,25,26,27]),(8,[0,2,25,26,27])] []
def Rf:=aH Tryz.call172 Tryz.func172 Tryz.ntmps172 [] [(0,[0]),(1,[2])] []
def Rg:=aH Tryz.call173 Tryz.func173 Tryz.ntmps173 [(0,0,1)] [(0,[1]),(1,[1,3]),(2,[1,3]),(3,[1,3]),(4,[1,3]),(5,[2]),(6,[2])] []
def ZE:=aH Tryz.call174 Tryz.func174 Tryz.ntmps174 [] [(0,[0,1]),(1,[6,7]),(2,[4,5]),(3,[8,9]),(4,[4,5])] []
def ZF:=aH Tryz.call175 Tryz.func175 Tryz.ntmps175 [(0,0,1)] [(0,[1]),(1,[1,4]),(2,[2])] []
def ZG:=aH Tryz.call176 Tryz.func176 Tryz.ntmps176 [(0,0,1),(2,3,2000),(6,2,1000),(7,1,1),(7,4,2000),(7,8,1)] [(0,[1,2,4]),(1,[1,2,4,10]),(2,[4]),(3,[1,2,4,5]),(4,[1,4,5,21,22,23]),(5,[1,4,5,21,22,23,24]),(6,[1,4,5,7,21,22,23]),(7,[1,4,5,21,22,23]),(8,[1,4,5,21,22,23]),(9,[4])] [(7,(.take 0 false (.take 2 false (.take 3 false (.br 1 (.br 4 (.take 5 true (.br 6 (.take 7 true (.br 8 .done .nil)) .nil)) .nil) (.br 4 (.take 5 false (.br 1 (.br 6 (.take 7 true (.br 8 .done .nil)) .nil) .nil)) .nil))))))]
def ZH:=aH Tryz.call177 Tryz.func177 Tryz.ntmps177 [] [(0,[0,2]),(1,[2])] []
def Rh:=aH Tryz.call178 Tryz.func178 Tryz.ntmps178 [(0,0,1)] [(0,[1]),(1,[2])] []
def Ri:=aH Tryz.call179 Tryz.func179 Tryz.ntmps179 [(1,2,2000)] [(0,[0,1]),(1,[4])] []
def Rj:=aH Tryz.call180 Tryz.func180 Tryz.ntmps180 [(0,0,1)] [(0,[1,2]),(1,[3])] []
def Rk:=aH Tryz.call181 Tryz.func181 Tryz.ntmps181 [(0,0,1),(0,1,1),(7,5,2000),(14,2,1),(14,3,1),(17,2,1000),(18,5,2000),(20,0,1),(20,7,1),(24,2,1000)] [(0,[2,3]),(1,[2,3,31]),(2,[4]),(3,[2,3,35]),(4,[4]),(5,[2,3,5]),(6,[3,5,6]),(7,[3,5,6,44]),(8,[4]),(9,[3,5,6,48,49,50]),(10,[3,5,6,48,49,50,51]),(11,[3,5,6,8,48,49,50]),(12,[3,5,6,48,49,50]),(13,[3,5,6,48,49,50]),(14,[3,5,6,9]),(15,[5,6,9,61,62,63]),(16,[5,6,9,61,62,63,64]),(17,[5,6,9,11,61,62,63]),(18,[5,6,9,11,61,62,63,73]),(19,[4]),(20,[5,6,9,61,62,63]),(21,[5,6,9,61,62,63]),(22,[5,82,83,84]),(23,[5,82,83,84,85]),(24,[5,13,82,83,84]),(25,[5,82,83,84,90,91,92]),(26,[5,82,83,84,90,91,92,93]),(27,[5,15,82,83,84,90,91,92]),(28,[5,82,83,84,90,91,92,99]),(29,[4]),(30,[5,82,83,84,90,91,92]),(31,[5,82,83,84]),(32,[4])] []
def ZI:=aH Tryz.call182 Tryz.func182 Tryz.ntmps182 [(0,0,1)] [(0,[1,2]),(1,[3])] []
def ZJ:=aH Tryz.call183 Tryz.func183 Tryz.ntmps183 [(0,0,1),(0,1,1),(1,9,2000)] [(0,[1,3,5]),(1,[6])] []
def ZK:=aH Tryz.call184 Tryz.func184 Tryz.ntmps184 [] [(0,[0,1,2]),(1,[0,1,2,7]),(2,[0,1,2,7,10,12]),(3,[6])] []
def Rl:=aH Tryz.call190 Tryz.func190 Tryz.ntmps190 [] [(0,[0,1]),(1,[4])] []
def Rm:=aH Tryz.call191 Tryz.func191 Tryz.ntmps191 [] [(0,[0,1]),(1,[4])] []
def Rn:=aH Tryz.call192 Tryz.func192 Tryz.ntmps192 [] [(0,[0,1]),(1,[3])] []
def Ro:=aH Tryz.call193 Tryz.func193 Tryz.ntmps193 [] [(0,[0,1]),(1,[0,1,9]),(2,[4]),(3,[0,1,15]),(4,[4]),(5,[0,1,5]),(6,[0,1,5,6]),(7,[0,1,5,6,24]),(8,[4]),(9,[0,1,5,6]),(10,[0,1,5])] []
def Rp:=aH Tryz.call194 Tryz.func194 Tryz.ntmps194 [(1,2,2000)] [(0,[0,1]),(1,[3])] []
end Go.aK
end
noncomputable section
set_option maxRecDepth 100000
set_option maxHeartbeats 0
namespace Go.aK
open Go Go.Proofs
def ZL:=aH Tryz.call195 Tryz.func195 Tryz.ntmps195 [] [(0,[0]),(1,[0,3]),(2,[0,3,7]),(3,[0,3]),(4,[0,3,37]),(5,[2]),(6,[2])] []
def ZM:=aH Tryz.call196 Tryz.func196 Tryz.ntmps196 [] [(0,[0]),(1,[0,3]),(2,[0,3,4]),(3,[0,3,4,8]),(4,[0,3,4]),(5,[0,3,4,14]),(6,[0,3,4]),(7,[2])] []
def ZN:=aH Tryz.call197 Tryz.func197 Tryz.ntmps197 [(0,0,1),(0,1,1)] [(0,[2,3]),(1,[2,3,5]),(2,[2,3,30]),(3,[4]),(4,[4])] []
def ZO:=aH Tryz.call198 Tryz.func198 Tryz.ntmps198 [] [(0,[0,1]),(1,[0,1,10]),(2,[4]),(3,[0,1,5]),(4,[0,1,5,14]),(5,[0,1,5]),(6,[0,1,5,25]),(7,[4]),(8,[4])] [(6,(.take 0 true (.take 1 true (.take 2 true (.take 3 true (.take 4 true (.take 5 true (.take 6 true (.take 7 true (.take 8 true .done))))))))))]
def cr:jm:=UF Tryz.f200 0 [(3,0,1),(3,4,1)] [(0,[1,2]),(1,[2,6]),(2,[2,5]),(3,[]),(4,[4])] []
def Ix:IR:=(.region [⟨none,some 5,(.set (.t 7) false)⟩] (.some [2,5]))
def Iy:IR:=(.block 1 (.region [⟨none,some 8,(.eU (.t 2))⟩,⟨none,some 9,(.set (.t 5) false)⟩,⟨none,some 10,(.buildSlice 0 1 (.int .i64 0) 1 [(0,(.t 9))])⟩,⟨none,some 11,(.append 1 8 (.t 8) (.t 10))⟩,⟨none,none,(.fS (.t 2) 11)⟩] (.some [])))
theorem Rq:comp Tryz.prog cr.an cr.lv cr.pl cr.n cr.as=some Ix:=by kernel_rfl
theorem Rr:comp Tryz.prog cr.an cr.lv cr.pl cr.n cr.bd=some Iy:=by kernel_rfl
def Tv:IR:=(.seq (.region [⟨none,some 2,(.box (.t 0))⟩,⟨none,some 4,(.set (.c .ag) false)⟩] (.some [1,2])) (.seq (.seq (.region [⟨none,some 6,(.set (.t 1) false)⟩] (.some [2,6])) (.block 0 (.jL (.t 6) cr))) (.seq (.region [⟨none,some 12,(.load .none (.t 2))⟩,⟨none,some 4,(.set (.t 12) false)⟩] (.some [4])) .ret)))
def Tw:sc:=⟨13,Tv,[(.t 4)]⟩
theorem ZP:jq Tryz.prog 200 Tw:=⟨Tryz.call200,Tryz.f200,_,[(3,0,1),(3,4,1)],[(0,[1,2]),(1,[2,6]),(2,[2,5]),(3,[]),(4,[4])],[],Tryz.func200,rfl,Tryz.ntmps200,by kernel_rfl,by kernel_rfl⟩
def ZQ:=aH Tryz.call201 Tryz.func201 Tryz.ntmps201 [(1,6,2000)] [(0,[0,1,3]),(1,[0,1,3,11]),(2,[0,1,3])] []
def ZR:=aH Tryz.call204 Tryz.func204 Tryz.ntmps204 [(0,0,1),(0,1,1),(1,2,2000)] [(0,[2,3,4]),(1,[6])] []
def ZS:=aH Tryz.call205 Tryz.func205 Tryz.ntmps205 [(0,0,1),(3,1,2000)] [(0,[1,2,3,4]),(1,[1,2,3,4,5]),(2,[5]),(3,[])] []
def Ru:=aH Tryz.call206 Tryz.func206 Tryz.ntmps206 [(2,2,2000),(6,6,2000)] [(0,[0,1,2,3,4,5]),(1,[0,2,3,4,5,12]),(2,[7]),(3,[0,4,5,8]),(4,[0,4,5,8,19]),(5,[0,4,5,8]),(6,[0,4,5,8,29]),(7,[7]),(8,[7])] [(6,(.take 1 true (.take 2 true (.take 0 true (.take 3 true (.take 4 true (.br 5 (.br 6 (.take 7 true .done) .nil) .nil)))))))]
def ZT:=aH Tryz.call207 Tryz.func207 Tryz.ntmps207 [] [(0,[0]),(1,[0,7]),(2,[0]),(3,[0,3]),(4,[0,3,4]),(5,[0,3,4,15]),(6,[0,3,4]),(7,[0,3,4]),(8,[2])] []
def ZU:=aH Tryz.call208 Tryz.func208 Tryz.ntmps208 [] [(0,[0,1]),(1,[4])] []
def Rv:=aH Tryz.call211 Tryz.func211 Tryz.ntmps211 [(0,0,1)] [(0,[1]),(1,[2])] []
def ZV:=aH Tryz.call213 Tryz.func213 Tryz.ntmps213 [] [(0,[0,1]),(1,[0,1,6]),(2,[0,1,6,7]),(3,[0,1,6,7,8]),(4,[0,1,6,7,8,9]),(5,[0,1,6,7,8,9,10]),(6,[0,1,6,7,9,11]),(7,[0,1,6,7,9,11,12]),(8,[0,1,6,7,9,12,13]),(9,[0,1,7,9,12,13]),(10,[0,1,4]),(11,[4,5])] []
def ZW:=aH Tryz.call214 Tryz.func214 Tryz.ntmps214 [(0,0,1)] [(0,[1,2,3]),(1,[1,2,3]),(2,[1,2,3,18]),(3,[6,7]),(4,[1,2,3,8]),(5,[1,2,3,8,24]),(6,[1,2,3,8]),(7,[2,3,8,9,10]),(8,[1,2,3,8,10]),(9,[1,2,3,8,41]),(10,[6,7]),(11,[6,7])] []
def ZX:=aH Tryz.call215 Tryz.func215 Tryz.ntmps215 [(0,0,1)] [(0,[1]),(1,[1,33]),(2,[2]),(3,[1,3]),(4,[1,3,38]),(5,[1,3]),(6,[1,3,47]),(7,[2]),(8,[2])] []
def Rw:=aH Tryz.call216 Tryz.func216 Tryz.ntmps216 [] [(0,[0,1]),(1,[3])] []
def Rx:=aH Tryz.call217 Tryz.func217 Tryz.ntmps217 [(0,0,1),(0,1,1)] [(0,[2,3,4,5]),(1,[2,3,4,5,18]),(2,[6]),(3,[2,3,5,7,8]),(4,[7,8,9,10]),(5,[6])] []
def Ry:=aH Tryz.call218 Tryz.func218 Tryz.ntmps218 [(0,0,1),(0,1,1)] [(0,[1,3,5]),(1,[1,3,5,14]),(2,[1,5,19]),(3,[6,7]),(4,[6,7]),(5,[1,3,5,44]),(6,[6,7]),(7,[1,3,5,46,47,48]),(8,[1,3,5,46,47,48,49]),(9,[1,3,5,8,9,46,47,48]),(10,[1,3,5,8,10,11,46,47,48]),(11,[1,3,5,46,47,48,75]),(12,[6,7]),(13,[1,3,5,46,47,48]),(14,[6,7])] [(5,(.take 0 true (.take 1 true (.take 2 true (.take 3 true (.take 4 true (.take 5 true (.take 6 true (.take 7 true (.take 8 true (.take 9 true (.take 10 true (.take 11 true (.take 12 true (.take 13 true (.take 14 true (.take 15 true (.take 16 true (.take 17 true (.take 18 true (.take 19 true .done)))))))))))))))))))))]
def Rz:=aH Tryz.call219 Tryz.func219 Tryz.ntmps219 [] [(0,[0]),(1,[0,5]),(2,[2]),(3,[2])] []
def ZY:=aH Tryz.call220 Tryz.func220 Tryz.ntmps220 [(1,3,2000),(1,8,2000)] [(0,[0,1,2]),(1,[4])] []
def ZZ:=aH Tryz.call221 Tryz.func221 Tryz.ntmps221 [(0,0,1),(1,2,2000)] [(0,[1,2,3,4,5]),(1,[6])] []
def Z0:=aH Tryz.call222 Tryz.func222 Tryz.ntmps222 [(1,9,2000)] [(0,[0,1,2,3,4]),(1,[6])] [(1,(.take 0 true (.take 1 true (.take 2 true (.take 3 true (.take 4 true (.take 5 true (.take 6 true (.take 7 true (.take 8 true (.br 9 (.take 10 true .done) .nil)))))))))))]
def RA:=aH Tryz.call228 Tryz.func228 Tryz.ntmps228 [] [(0,[0,1]),(1,[4])] []
def RB:=aH Tryz.call229 Tryz.func229 Tryz.ntmps229 [] [(0,[0,1]),(1,[0,1,5]),(2,[0,1,5,16]),(3,[4]),(4,[0,1,5,24]),(5,[4]),(6,[0,1,5,31]),(7,[4]),(8,[0,1,5,36]),(9,[4]),(10,[0,1,5,6]),(11,[0,1,5,6,7]),(12,[0,1,5,6,7,8]),(13,[0,1,5,6,7,8,9]),(14,[0,1,5,6,7,8,9,10]),(15,[0,1,5,6,7,8,9,10,59]),(16,[0,1,5,6,7,8,9,10,64]),(17,[0,1,5,6,7,8,9,10,11]),(18,[0,1,5,6,7,8,9,10,11,73]),(19,[4]),(20,[0,1,5,6,7,8,9,10]),(21,[0,1,5,6,7,8,9,10,93]),(22,[4]),(23,[0,1,5,6,7,8,9,10]),(24,[0,1,5,6,7,8,9,10]),(25,[0,1,5,6,7,8,9,10,107]),(26,[8,12]),(27,[8,12,114]),(28,[4]),(29,[4]),(30,[0,1,5,6,7,8,9,10,132]),(31,[8,13]),(32,[8,13,139]),(33,[4]),(34,[4]),(35,[4])] []
def Z1:=aH Tryz.call230 Tryz.func230 Tryz.ntmps230 [] [(0,[0,2]),(1,[2,4]),(2,[2,4,6]),(3,[2,4]),(4,[2])] []
def Z2:=aH Tryz.call232 Tryz.func232 Tryz.ntmps232 [(0,0,1)] [(0,[1,2]),(1,[1,2,5]),(2,[1,2,5,9]),(3,[1,2,5]),(4,[1,2,5,26]),(5,[4]),(6,[4])] [(4,(.take 0 true (.take 1 true (.take 2 true (.take 3 true (.take 4 true (.take 5 true (.take 6 true (.take 7 true (.take 8 true (.take 9 true (.take 10 true (.take 11 true (.take 12 true (.take 13 true (.take 14 true .done))))))))))))))))]
def Z3:=aH Tryz.call233 Tryz.func233 Tryz.ntmps233 [(1,3,2000)] [(0,[0,1,2]),(1,[4])] []
def RC:=aH Tryz.call237 Tryz.func237 Tryz.ntmps237 [(2,1,1000),(5,2,1000),(6,2,2000)] [(0,[0]),(1,[0,3]),(2,[0,3,4]),(3,[3,4,8,9,10]),(4,[3,4,8,9,10,11]),(5,[3,4,6,8,9,10]),(6,[3,4,8,9,10]),(7,[3,4,8,9,10]),(8,[2])] []
def Z4:=aH Tryz.call240 Tryz.func240 Tryz.ntmps240 [] [(0,[0]),(1,[2])] []
def Z5:=aH Tryz.call241 Tryz.func241 Tryz.ntmps241 [] [(0,[0,1]),(1,[0,1,5,6]),(2,[0,1,5,6,7]),(3,[0,1,5,6,7,8]),(4,[0,1,5,6,7,8,9]),(5,[0,1,5,6,7,8,9,20]),(6,[0,1,5,6,7,8,9]),(7,[0,1,5,6,7,8,9]),(8,[0,1,5,6,7,8,39]),(9,[4]),(10,[0,1,5,6,7,8,10]),(11,[0,1,5,6,7,8,10,44]),(12,[0,1,5,6,7,8,10]),(13,[0,1,5,6,7,8,10]),(14,[0,1,5,6,7,8,10]),(15,[0,1,5,6,7,8,10]),(16,[0,1,5,6,7,8,10,77]),(17,[4]),(18,[4])] []
def Z6:=aH Tryz.call243 Tryz.func243 Tryz.ntmps243 [] [(0,[0]),(1,[0,3]),(2,[0,3,7]),(3,[0,3]),(4,[0,3,15]),(5,[2]),(6,[2])] []
def RE:=aH Tryz.call245 Tryz.func245 Tryz.ntmps245 [(0,0,1),(1,2,2000),(4,2,1000),(5,2,2000)] [(0,[1,2]),(1,[1,2]),(2,[1,10,11,12]),(3,[1,10,11,12,13]),(4,[1,5,10,11,12]),(5,[1,10,11,12]),(6,[1,10,11,12])] []
def RF:=aH Tryz.call246 Tryz.func246 Tryz.ntmps246 [(0,0,1),(3,0,1),(3,5,1)] [(0,[1,2,3]),(1,[1,2,3,13]),(2,[2,3]),(3,[])] []
def Z7:=aH Tryz.call247 Tryz.func247 Tryz.ntmps247 [] [(0,[0]),(1,[0,4]),(2,[0,4,5]),(3,[0,4,5,12]),(4,[0,4,5]),(5,[0,4,5]),(6,[0,4,6,7]),(7,[4,6,7,8]),(8,[4,6,7,8,25]),(9,[4,6,7,8]),(10,[4,6,7,8,30]),(11,[4,6,7,8]),(12,[4,6,7,8]),(13,[2,3])] []
end Go.aK
end
noncomputable section
set_option maxRecDepth 100000
set_option maxHeartbeats 0
namespace Go.aK
open Go Go.Proofs
def Tx:=aH Tryz.call120 Tryz.func120 Tryz.ntmps120 [(0,0,1),(1,2,2)] [(0,[1,2]),(1,[2])] []
def Iz:=aH Tryz.call125 Tryz.func125 Tryz.ntmps125 [(0,0,1),(0,1,1),(3,2,1000),(5,0,3003)] [(0,[1,3,5,6]),(1,[1,3,5,6,10]),(2,[6]),(3,[1,3,5,6,7]),(4,[6,7]),(5,[6])] [(4,(.take 5 true (.take 6 true (.take 7 true (.take 8 true (.take 9 true (.take 10 true (.take 11 true (.take 12 true (.take 13 true (.take 14 true (.take 15 true (.take 0 true (.take 1 true (.take 2 true (.take 3 true (.take 4 true (.take 16 true (.br 17 .done .nil)))))))))))))))))))]
def Tz:=aH Tryz.call176 Tryz.func176 Tryz.ntmps176 [(0,0,1),(2,3,2000),(6,2,1000),(7,4,2000),(7,6,2),(7,8,2),(9,1,2)] [(0,[1,2,4]),(1,[1,2,4,10]),(2,[4]),(3,[1,2,4,5]),(4,[1,4,5,21,22,23]),(5,[1,4,5,21,22,23,24]),(6,[1,4,5,7,21,22,23]),(7,[1,4,5,21,22,23]),(8,[1,4,5,21,22,23]),(9,[4])] [(7,(.take 2 true (.take 3 true (.take 0 false (.br 1 (.br 4 (.take 5 true (.br 6 (.take 7 true (.br 8 .done .nil)) .nil)) .nil) (.br 4 (.take 1 true (.take 5 true (.br 6 (.take 7 true (.br 8 .done .nil)) .nil))) .nil))))))]
end Go.aK
end
section
open Go Go.Proofs Go.aK
namespace Go.aK
theorem sn (o:Nat) (xs:List AV) (H:List aa) (h1:sV 1 xs) (hb:xs.length * 8≤140737488355328) (pv:aj H.length xs=true) :
 aw Tryz.prog 118 [.ak o xs] H fun r H'=>r=.ak 1 xs∧H'=H:=by
 refine Q8.2.BT (aeF rfl) ?_
 simp only [Q8,aH,n7,kc,tu,bC,put,get,ap,eX,vx,cj,AV.ab,List.map,Nat.reduceEqDiff,reduceIte,bT,tB]
 have mh:∀ (x:AV) ,x.le (.ak 1 xs)→∃ m,H.length≤m∧∃ r,x.le r∧r.aW m=true∧r=AV.ak 1 xs∧List.take m H=H:=
  fun x hx=>⟨H.length,sU _,_,hx,by simpa [AV.aW] using pv,rfl,by simp⟩
 cases xs with
 | nil=>
   simp only [dw,isNil,fC,bm,bp,nZ,dG,List.replicate]
   exact ⟨⟨fun _=>⟨.inr trivial,mh _ (.inr (.inr (.inr (.inl ⟨rfl,1,rfl⟩))))⟩,by simp⟩,by simp,fun _=>⟨by simp,by simp [sV],.inr trivial,mh _ (.inl rfl)⟩⟩
 | cons x xs=>
   simp only [dw,isNil,fC,bm,bp,nZ,dG,List.replicate]
   exact ⟨by simp,fun _=>⟨by simpa using hb,h1,.inr trivial,mh _ (.inl rfl)⟩⟩
theorem Ao (H:List aa):aw Tryz.prog 118 [.ag] H fun r H'=>r=.ak 1 []∧H'=H:=by
 refine Q8.2.BT (aeF rfl) ?_
 simp only [Q8,aH,n7,kc,tu,bC,put,get,ap,eX,vx,cj,AV.ab,List.map,Nat.reduceEqDiff,reduceIte,bT,tB]
 simp only [dw,isNil,fC]
 exact ⟨fun _=>⟨.inr trivial,H.length,sU _,_,.inr (.inr (.inr (.inl ⟨rfl,1,rfl⟩))),rfl,rfl,by simp⟩,by simp⟩
def Ca:List AV→Option AV
 | [.ak _ xs]=>if (xs.all fun y=>y.cells.length == 1 && y.cells.all AV.one)=true∧xs.length * 8≤140737488355328∧aj 0 xs=true then some (.ak 1 xs) else none
 | [.ag]=>some (.ak 1 [])
 | _=>none
theorem Cb {xs:List AV} (h:aj 0 xs=true) (k:Nat):aj k xs=true:=bK (ac4 _) xs h
theorem Ep:uX Tryz.prog 118 (.xv Ca):=by
 intro args r H h
 unfold Ca at h
 split at h <;> try cases h
 rotate_left
 ·exact Ao H
 split at h <;> cases h
 rename_i hc
 refine sn _ _ _ ?_ hc.2.1 (Cb hc.2.2 _)
 intro y hy
 have:=abo.1 hc.1 y hy
 simpa using this
end Go.aK
end
noncomputable section
set_option maxRecDepth 100000
namespace Go.aK
open Go
inductive T where
 | mk (k n:Int) (l:List T)
 deriving Inhabited
mutual
def T.av:T→AV
 | .mk k n l=>.agg [.int .i64 k,.int .i64 n,.ak 0 (bk l)]
def bk:List T→List AV
 | []=>[]
 | x::r=>x.av::bk r
end
def T.k:T→Int | .mk k _ _=>k
def T.n:T→Int | .mk _ n _=>n
def T.l:T→List T | .mk _ _ l=>l
theorem T.ve (x:T):x.av=.agg [.int .i64 x.k,.int .i64 x.n,.ak 0 (bk x.l)]:=by cases x;rfl
theorem nB:∀ l,bk l=l.map T.av
 | []=>rfl
 | x::r=>by simp [bk,nB r]
theorem pN (l:List T):(bk l).length=l.length:=by simp [nB]
theorem Er (l:List T) (i:Nat) (h:i < l.length):(bk l).getD i .any=(l.getD i default).av:=by
 simp [nB,h]
mutual
theorem T.bW (n:Nat):∀ x:T,x.av.aW n=true
 | .mk k m l=>by simp [T.av,AV.aW,aj,dy n l]
theorem dy (n:Nat):∀ l:List T,aj n (bk l)=true
 | []=>rfl
 | x::r=>by simp [bk,aj,T.bW n x,dy n r]
end
theorem T.Nc (x:T):x.av.cells=[.int .i64 x.k,.int .i64 x.n,.ak 0 (bk x.l)]:=by cases x;rfl
theorem T.km (x:T):AV.agg x.av.cells=x.av:=by cases x;rfl
theorem T.tM (x:T):x.av.val=true:=by cases x;rfl
theorem T.nC (x:T):x.av.cells.all AV.one=true:=by cases x;rfl
theorem T.fL (x:T):x.av.ab=x.av:=by cases x;rfl
theorem T.so (x:T):x.av.drop=x.av:=by cases x;rfl
theorem T.lq (x:T):x.av.cells.map AV.ab=x.av.cells:=by cases x;rfl
theorem T.xJ (x:T):x.av.cells.map AV.drop=x.av.cells:=by cases x;rfl
theorem T.ca (x:T):x.av.cells.length=3:=by cases x;rfl
theorem Nf (o:Nat) (l:List T):(∀ (own:Nat) (xs:List AV),AV.ak o (bk l)=AV.ak own xs→∀ z∈xs,z.cells.length=3)=True:=by
 simp only [eq_iff_iff,iff_true]
 intro own xs e z hz
 cases e
 rw [nB] at hz
 obtain ⟨y,_,rfl⟩:=aaR.1 hz
 exact y.ca
theorem RG (e o:Nat) (l:List T) (k:IntKind) (i:Nat) (φ:AV→Prop):aA e (.ak o (bk l)) (.int k (i:Int)) φ=(i < l.length∧φ (.ah (l.getD i default).av)):=by
 simp only [aA,pN,aad,eq_iff_iff]
 constructor
 ·rintro ⟨_,h,h2⟩;rw [Er _ _ h] at h2;exact ⟨h,h2⟩
 ·rintro ⟨h,h2⟩;rw [Er _ _ h];exact ⟨by omega,h,h2⟩
theorem Es (x:T) (H:List aa) (φ:AV→Prop):aU (some 3) (.ah x.av) H φ=φ x.av:=by
 simp [aU,T.ca,T.km]
theorem RH (a b c:AV) (x:T):ai [a,b,c] 0 x.av.cells=x.av.cells:=by simp [ai,T.ca]
theorem RI (n:Nat) (x:T):aj n x.av.cells=true:=cH (x.bW _)
theorem RJ (x:T) (φ:AV→Prop):cw (some (.cells x.av.cells)) (some 3) 0 φ=φ x.av:=by
 have e:List.map AV.drop (List.take 3 (List.drop 0 x.av.cells))=x.av.cells:=by cases x;rfl
 simp only [cw,e,T.km]
 simp [T.ca]
theorem fk (x:T) (φ:AV→Prop):al 0 none (.ah x.av) φ=φ (.ah (.int .i64 x.k)):=by
 cases x;simp [al,apart,T.av,AV.cells,T.k,AV.one]
theorem fn_ (x:T) (φ:AV→Prop):al 1 none (.ah x.av) φ=φ (.ah (.int .i64 x.n)):=by
 cases x;simp [al,apart,T.av,AV.cells,T.n,AV.one]
theorem fl (x:T) (φ:AV→Prop):al 2 none (.ah x.av) φ=φ (.ah (.ak 0 (bk x.l))):=by
 cases x;simp [al,apart,T.av,AV.cells,T.l,AV.one]
def ints (l:List Int):List AV:=l.map (AV.int .i64)
theorem au (l:List Int):(ints l).length=l.length:=by simp [ints]
theorem aT (n:Nat) (l:List Int):aj n (ints l)=true:=by
 rw [bc];intro x hx;obtain ⟨y,_,rfl⟩:=aaR.1 hx;rfl
theorem dQ (o:Nat) (l:List Int):(∀ (own:Nat) (xs:List AV),AV.ak o (ints l)=AV.ak own xs→∀ z∈xs,z.cells.length=1)=True:=by
 simp only [eq_iff_iff,iff_true]
 intro own xs e z hz
 cases e
 obtain ⟨y,_,rfl⟩:=aaR.1 hz
 rfl
theorem xK (e o:Nat) (l:List Int) (k:IntKind) (i:Nat) (φ:AV→Prop):aA e (.ak o (ints l)) (.int k (i:Int)) φ=(i < l.length∧φ (.ah (.int .i64 (l.getD i 0)))):=by
 simp only [aA,au,aad,eq_iff_iff]
 constructor
 ·rintro ⟨_,h,h2⟩;refine ⟨h,?_⟩;simpa [ints,h] using h2
 ·rintro ⟨h,h2⟩;refine ⟨by omega,h,?_⟩;simpa [ints,h] using h2
theorem tN (l:List Int) (n:Int):ints l++[.int .i64 n]=ints (l++[n]):=by simp [ints]
theorem ok_int (k:IntKind) (n:Int):sV 1 [.int k n]=True:=by simp [sV,AV.cells,AV.one]
theorem lr (l:List Int):sV 1 (ints l)=True:=by
 simp only [sV,eq_iff_iff,iff_true]
 intro y hy
 obtain ⟨z,_,rfl⟩:=aaR.1 hy
 exact ⟨rfl,rfl⟩
theorem Wl (x:T):sV 3 [x.av]=True:=by
 simp only [sV,eq_iff_iff,iff_true]
 intro y hy
 rw [aa4] at hy
 subst hy
 exact ⟨x.ca,x.nC⟩
theorem Wm (k:IntKind) (n:Int):aR (.int k n)=.int k n:=agK
theorem ad6 (x:T):aR x.av=x.av:=by cases x;rfl
theorem bs0 (z:AV) (esz:Nat) (φ:List AV→Prop):bm (List.replicate 0 z) esz [] φ=φ []:=agK
theorem bs1 (z x:AV) (esz:Nat) (φ:List AV→Prop):bm (List.replicate 1 (aR z)) esz [(0,x)] φ=(x.val=true∧x.cells.length=esz∧φ [aR x]):=by
 simp [bm]
theorem bs2 (z x y:AV) (esz:Nat) (φ:List AV→Prop):bm (List.replicate 2 (aR z)) esz [(0,x),(1,y)] φ=(x.val=true∧x.cells.length=esz∧y.val=true∧y.cells.length=esz∧φ [aR x,aR y]):=by
 simp [bm,List.replicate]
theorem bs3 (z x y u:AV) (esz:Nat) (φ:List AV→Prop):bm (List.replicate 3 (aR z)) esz [(0,x),(1,y),(2,u)] φ=(x.val=true∧x.cells.length=esz∧y.val=true∧y.cells.length=esz∧u.val=true∧u.cells.length=esz∧φ [aR x,aR y,aR u]):=by
 simp [bm,List.replicate]
@[congr] theorem Pe {xs:List AV} {esz:Nat} {ps ps':List (Nat×AV)} {φ:List AV→Prop} (h:hJ ps=ps'):bm xs esz ps φ=bm xs esz ps' φ:=by subst h;rfl
def Wn:=(hV (hV (hV (hV @or_true @true_or) (hV @true_and @and_true)) (hV (hV @true_implies @ad9) (hV @acX (hV @Bool.not_true @Bool.not_false)))) (hV (hV (hV @decide_true @decide_false) (hV @Classical.not_not @not_true_eq_false)) (hV (hV @not_false_eq_true @false_implies) (hV @Int.not_le (hV @Int.not_lt @sU)))))
def Wo:=(hV (hV (hV (hV (hV @pN @T.bW) (hV @dy @T.tM)) (hV (hV @T.nC @T.fL) (hV @T.so @T.lq))) (hV (hV (hV @T.xJ @T.ca) (hV @T.km @Nf)) (hV (hV @RG @Es) (hV @RH (hV @RI @RJ))))) (hV (hV (hV (hV @fk @fn_) (hV @fl @au)) (hV (hV @aT @dQ) (hV @xK @tN))) (hV (hV (hV @ok_int @Wl) (hV @lr @Wm)) (hV (hV @ad6 @bs0) (hV @bs1 (hV @bs2 @bs3))))))
theorem sZa {α:Type} (a b:α) (h:Decidable True):(if True then a else b)=a:=if_pos trivial
def sZ:=hV Wd (hV Wo (hV Wn (hV @sZa (hV @ne_eq.{1} (hV @forall_const.{1} (hV @implies_true.{0} (hV @implies_true.{1} (hV @List.nil_append.{0} (hV @acA.{0} (hV @List.cons_append.{0} (hV @List.length_cons.{0} @List.length_nil.{0})))))))))))
end Go.aK
end
section
end
noncomputable section
set_option maxRecDepth 100000
namespace Go.aK
open Go Go.Proofs
mutual
def T.same:T→T→Bool
 | .mk k n l,.mk k' n' l'=>k == k' && n == n' && gY l l'
def gY:List T→List T→Bool
 | [],[]=>true
 | x::r,y::s=>x.same y && gY r s
 | _,_=>false
end
theorem Ap:∀ {l m:List T},gY l m=true→l.length=m.length
 | [],[],_=>rfl
 | x::r,y::s,h=>by simp only [gY,zB] at h;simp [Ap h.2]
 | [],_::_,h=>by simp [gY] at h
 | _::_,[],h=>by simp [gY] at h
theorem Hc {xs ys:List T} {i:Nat} (h1:i < xs.length) (h2:i < ys.length):gY (xs.drop i) (ys.drop i)=((xs.getD i default).same (ys.getD i default) && gY (xs.drop (i + 1)) (ys.drop (i + 1))):=by
 rw [aba h1,aba h2]
 simp [gY,h1,h2]
theorem c40 (xs ys:List T) (hf:∀ x∈xs,∀ y,Pure Tryz.prog 49 [x.av,y.av] (.bool (x.same y))) :
 Pure Tryz.prog 40 [.ak 0 (bk xs),.ak 0 (bk ys),.fn (.func 49) [] []] (.bool (gY xs ys)):=by
 refine fun H=>k40.2.calls rfl ?_
 simp only [k40,aH]
 simp only [sZ,Nat.reduceEqDiff,Nat.reduceAdd,↓reduceIte,reduceCtorEq]
 refine fun hx hy=>⟨fun eS=>?_,fun he _=>?_⟩
 ·refine aP H.length (sU _) (by simp only [sZ,↓reduceIte]) ?_
  simp only [sZ,↓reduceIte,aby]
  have:xs.length≠ys.length:=by simpa [Int.ofNat_inj] using eS
  cases hs:gY xs ys with
  | false=>rfl
  | true=>exact absurd (Ap hs) this
 have FK:xs.length=ys.length:=by simpa [Int.ofNat_inj] using he
 refine aB xs.length (fun i=>gY (xs.drop i) (ys.drop i)=gY xs ys) (fun i=>[(1,.ak 0 (bk ys)),(2,.fn (.func 49) [] []),(15,.ak 0 (bk xs)),(16,.int .i64 xs.length),(17,.int .i64 i)]) (fun _=>H) ⟨rfl,ax _ _ _⟩ fun i hi hI=>?_
 simp only [sZ,Nat.reduceEqDiff,Nat.reduceAdd,↓reduceIte,reduceCtorEq]
 refine ⟨fun aG=>?_,fun eW=>?_⟩
 ·have aG:i < xs.length:=by simpa using aG
  have sq:i < ys.length:=by omega
  refine ⟨aG,sq,ae (hf _ (by simp [aG]) _) ?_⟩
  rw [Hc aG sq] at hI
  simp only [sZ,Nat.reduceEqDiff,↓reduceIte]
  refine pL (fun hn=>?_) (fun hn=>?_) <;> simp only [sZ,Nat.reduceEqDiff,↓reduceIte,reduceCtorEq]
  ·refine ⟨i + 1,⟨by omega,by rw [← hI,hn];rfl⟩,by omega,?_⟩
   refine fK ?_ (sU _) (by simp only [sZ]) _ rfl
   rw [aq i (by omega)]
  ·refine aP H.length (sU _) (by simp only [sZ,↓reduceIte]) ?_
   rw [← hI,hn]
   exact ⟨rfl,by simp⟩
 ·have eW:¬ i < xs.length:=by simpa using eW
  refine aP H.length (sU _) (by simp only [sZ,↓reduceIte]) ?_
  rw [aa9 (by omega),aa9 (by omega)] at hI
  simp [get,← hI,gY]
theorem bU {l:List T} {i:Nat} (h:i < l.length):l.getD i default∈l:=by simp [h]
theorem T.lt {x y:T} (h:x∈y.l):SizeOf.sizeOf x < SizeOf.sizeOf y:=by
 cases y with
 | mk k n l=>
   have:=List.sizeOf_lt_of_mem h
   simp only [T.l] at this
   simp only [T.mk.sizeOf_spec]
   omega
theorem c49 (a b:T):Pure Tryz.prog 49 [a.av,b.av] (.bool (a.same b)):=by
 have ih:∀ x∈a.l,∀ y,Pure Tryz.prog 49 [x.av,y.av] (.bool (x.same y)):=fun x hx y=>c49 x y
 refine fun H=>k49.2.calls rfl ?_
 simp only [k49,aH]
 simp only [sZ,Nat.reduceEqDiff,Nat.reduceAdd,↓reduceIte,reduceCtorEq]
 have e:a.same b=(decide (a.k=b.k) && decide (a.n=b.n) && gY a.l b.l):=by
  cases a;cases b;simp only [T.same,T.k,T.n,T.l];rfl
 refine ⟨fun hk=>⟨fun hn=>ae (c40 _ _ ih) ?_,fun hn=>aS rfl (by rw [e];simp [hn])⟩,fun hk=>aS rfl (by rw [e];simp [hk])⟩
 simp only [sZ,Nat.reduceEqDiff,↓reduceIte,reduceCtorEq]
 exact aS rfl (by rw [e];simp [hk,hn])
termination_by SizeOf.sizeOf a
decreasing_by exact T.lt hx
def vJ (a b:Int):Int:=if a < b then -1 else if b < a then 1 else 0
def orL:List Int→Int
 | []=>0
 | x::r=>if x≠0 then x else orL r
mutual
def T.cmp:T→T→Int
 | .mk k n l,.mk k' n' l'=>if orL [vJ k k',vJ n n',vJ l.length l'.length]≠0 then orL [vJ k k',vJ n n',vJ l.length l'.length] else xL l l'
def xL:List T→List T→Int
 | [],[]=>0
 | [],_::_=>-1
 | _::_,[]=>1
 | x::r,y::s=>if x.cmp y≠0 then x.cmp y else xL r s
end
end Go.aK
end
noncomputable section
set_option maxRecDepth 100000
namespace Go.aK
open Go Go.Proofs
end Go.aK
end
noncomputable section
set_option maxRecDepth 100000
namespace Go.aK
open Go Go.Proofs
mutual
def gS:T→Int→Int×Int→Int×Int
 | .mk _ _ l,d,s=>lS l (d + 1) (s.1 + 1,max s.2 d)
def lS:List T→Int→Int×Int→Int×Int
 | [],_,s=>s
 | x::r,d,s=>if 2000 < s.1∨200 < s.2 then s else lS r d (gS x d s)
end
def qp (d:Int) (s:Int×Int):Prop:=0≤s.1∧s.1≤2000∧0≤s.2∧s.2≤200∧0≤d∧d≤201
def nD (s:Int×Int):Prop:=0≤s.1∧s.1≤2001∧0≤s.2∧s.2≤201
mutual
theorem xM:∀ (x:T) (d:Int) (s:Int×Int),qp d s→nD (gS x d s)∧(gS x d s).2 ≥ d
 | .mk k n l,d,s,h=>by
   simp only [gS]
   obtain ⟨h1,h2,h3,h4,h5,h6⟩:=h
   have:=Et l (d + 1) (s.1 + 1,max s.2 d) (by unfold nD;simp only;omega) (by omega) (by simp only;omega)
   refine ⟨this.1,?_⟩
   have h:=this.2
   simp only at h
   omega
theorem Et:∀ (l:List T) (d:Int) (s:Int×Int),nD s→0≤d→d≤s.2 + 1→nD (lS l d s)∧s.2≤(lS l d s).2
 | [],d,s,h,_,_=>by simp [lS,h]
 | x::r,d,s,h,hd,Jn=>by
   simp only [lS]
   split
   ·exact ⟨h,Int.le_refl _⟩
   ·rename_i hn
    obtain ⟨h1,h2,h3,h4⟩:=h
    have hx:=xM x d s ⟨h1,by omega,h3,by omega,hd,by omega⟩
    have hr:=Et r d (gS x d s) hx.1 hd (by omega)
    have:=tO x d s
    exact ⟨hr.1,by omega⟩
theorem tO:∀ (x:T) (d:Int) (s:Int×Int),s.2≤(gS x d s).2
 | .mk k n l,d,s=>by
   simp only [gS]
   have:=Aq l (d + 1) (s.1 + 1,max s.2 d)
   simp only at this
   omega
theorem Aq:∀ (l:List T) (d:Int) (s:Int×Int),s.2≤(lS l d s).2
 | [],d,s=>by simp [lS]
 | x::r,d,s=>by
   simp only [lS]
   split
   ·omega
   ·have h1:=tO x d s
    have h2:=Aq r d (gS x d s)
    omega
end
theorem Ks {l:List T} {i:Nat} {d:Int} {s:Int×Int} (h:i < l.length):lS (l.drop i) d s=if 2000 < s.1∨200 < s.2 then s else lS (l.drop (i + 1)) d (gS (l.getD i default) d s):=by
 rw [aba h]
 simp [lS,h]
def fh (s:Int×Int):List aa:=[.cells [.int .i64 s.1,.int .i64 s.2]]
theorem Wp (H:List aa) (x:T) (d:Int) (s:Int×Int) (hs:qp d s) :
 aw Tryz.prog 171 [.ptr H.length 0,x.av,.int .i64 d] (H++fh s) fun r H'=>r=.tuple []∧H'=H++fh (gS x d s):=by
 have ih:∀ y∈x.l,∀ (d:Int) (s:Int×Int),qp d s→aw Tryz.prog 171 [.ptr H.length 0,y.av,.int .i64 d] (H++fh s) fun r H'=>r=.tuple []∧H'=H++fh (gS y d s):=
  fun y hy d s hs=>Wp H y d s hs
 have e:gS x d s=lS x.l (d + 1) (s.1 + 1,max s.2 d):=by cases x;simp only [gS,T.l]
 obtain ⟨h1,h2,h3,h4,h5,h6⟩:=hs
 have w1:IntKind.i64.wrap (s.1 + 1)=s.1 + 1:=cZ _ (by omega)
 have w2:IntKind.i64.wrap (d + 1)=d + 1:=cZ _ (by omega)
 refine Re.2.calls rfl ?_
 simp only [Re,aH]
 simp only [w1,fh,sZ,Nat.reduceEqDiff,Nat.reduceAdd,Nat.reduceLT,Nat.reduceLeDiff,↓reduceIte,reduceCtorEq]
 intro hl
 have Ll:nD (s.1 + 1,max s.2 d):=by unfold nD;simp only;omega
 have hmd:d≤max s.2 d:=by omega
 generalize max s.2 d=m at *
 refine aD x.l.length (fun i (t:Int×Int)=>nD t∧d≤t.2∧lS (x.l.drop i) (d + 1) t=gS x d s)
  (fun i t=>[(0,.ptr H.length 0),(2,.int .i64 d),(25,.ak 0 (bk x.l)),(26,.int .i64 x.l.length),(27,.int .i64 i)]) (fun i t=>H++fh t) (s.1 + 1,m) ⟨⟨Ll,hmd,by rw [e];rfl⟩,ax _ _ _⟩ fun i t hi hI=>?_
 obtain ⟨⟨k1,k2,k3,k4⟩,k5,hI⟩:=hI
 simp only [w2,fh,sZ,Nat.reduceEqDiff,Nat.reduceAdd,Nat.reduceLT,↓reduceIte,reduceCtorEq]
 refine ⟨fun aG=>⟨aY aG,?_⟩,fun eW=>?_⟩
 ·have aG:=aY aG
  rw [Ks aG] at hI
  refine ⟨fun Z8=>⟨fun hn2=>?_,fun hn2=>?_⟩,fun Z8=>?_⟩
  ·rw [if_pos (.inr hn2)] at hI;rw [← hI];exact jt (by simp [fh]) rfl
  ·rw [if_neg (by omega)] at hI
   have ho:qp (d + 1) t:=⟨k1,by omega,k3,by omega,by omega,by omega⟩
   have hx:=xM (x.l.getD i default) (d + 1) t ho
   refine af (ih _ (bU aG) (d + 1) t ho) ?_
   rintro r H' ⟨rfl,rfl⟩
   simp only [fh,sZ,Nat.reduceEqDiff,↓reduceIte,reduceCtorEq]
   exact ⟨i + 1,gS (x.l.getD i default) (d + 1) t,⟨aG,hx.1,by omega,hI⟩,by omega,aE (by rw [aq i (by omega)]) rfl⟩
  ·rw [if_pos (.inl Z8)] at hI;rw [← hI];exact jt (by simp [fh]) rfl
 ·rw [aa9 (bN eW)] at hI
  rw [← hI]
  exact jt (by simp [fh]) rfl
termination_by SizeOf.sizeOf x
decreasing_by exact T.lt hy
def vf (s:Int×Int):Bool:=decide (2000 < s.1) || decide (200 < s.2)
theorem Z9 (H:List aa) (s:Int×Int):aw Tryz.prog 172 [.ptr H.length 0] (H++fh s) fun r H'=>r=.bool (vf s)∧H'=H++fh s:=by
 refine Rf.2.calls rfl ?_
 simp only [Rf,aH]
 simp only [fh,sZ,Nat.reduceEqDiff,Nat.reduceAdd,Nat.reduceLT,↓reduceIte,reduceCtorEq]
 refine ⟨fun h=>?_,fun h=>?_⟩
 ·exact Wb (by simp [fh]) rfl (by simp [vf,Int.not_lt.2 h]) rfl
 ·exact Wb (by simp [fh]) rfl (by simp [vf,h]) rfl
def tP (p:T→Bool):List T→Int→Int
 | [],_=>-1
 | x::r,k=>if p x=true then k else tP p r (k + 1)
theorem xN (p:T→Bool):∀ (l:List T) (k:Int),0≤k→(decide (0≤tP p l k)=l.any p)
 | [],k,_=>by simp [tP]
 | x::r,k,h=>by
   simp only [tP,agj]
   split
   ·rename_i hp;simp [hp,h]
   ·rename_i hp;simp [hp,xN p r (k + 1) (by omega)]
theorem Ar {p:T→Bool} {l:List T} {i:Nat} {k:Int} (h:i < l.length):tP p (l.drop i) k=if p (l.getD i default)=true then k else tP p (l.drop (i + 1)) (k + 1):=by
 rw [aba h]
 simp [tP,h]
theorem ad8 (g:Nat) (p:T→Bool) (l:List T) (hf:∀ x∈l,Pure Tryz.prog g [x.av] (.bool (p x))) :
 Pure Tryz.prog 114 [.ak 0 (bk l),.fn (.func g) [] []] (.int .i64 (tP p l 0)):=by
 refine fun H=>Eo.2.calls rfl ?_
 simp only [Eo,aH]
 simp only [sZ,Nat.reduceEqDiff,Nat.reduceAdd,↓reduceIte,reduceCtorEq]
 intro hl
 refine aB l.length (fun i=>tP p (l.drop i) i=tP p l 0) (fun i=>[(0,.ak 0 (bk l)),(1,.fn (.func g) [] []),(7,.int .i64 l.length),(8,.int .i64 i)]) (fun _=>H) ⟨rfl,ax _ _ _⟩ fun i hi hI=>?_
 simp only [sZ,Nat.reduceEqDiff,Nat.reduceAdd,↓reduceIte,reduceCtorEq]
 refine ⟨fun aG=>?_,fun eW=>?_⟩
 ·have aG:=aY aG
  rw [Ar aG] at hI
  refine ⟨aG,ae (hf _ (bU aG)) ?_⟩
  simp only [sZ,Nat.reduceEqDiff,↓reduceIte,reduceCtorEq]
  refine pL (fun hb=>?_) (fun hb=>?_) <;> simp only [sZ,Nat.reduceEqDiff,↓reduceIte,reduceCtorEq]
  ·rw [if_pos hb] at hI
   exact aS rfl (by rw [← hI])
  ·rw [if_neg (by rw [hb];simp)] at hI
   exact ⟨i + 1,⟨aG,hI⟩,by omega,aE (by rw [aq i (by omega)]) rfl⟩
 ·rw [aa9 (bN eW)] at hI
  exact aS rfl (by rw [← hI];rfl)
theorem c53 (g:Nat) (p:T→Bool) (l:List T) (hf:∀ x∈l,Pure Tryz.prog g [x.av] (.bool (p x))) :
 Pure Tryz.prog 53 [.ak 0 (bk l),.fn (.func g) [] []] (.bool (l.any p)):=by
 refine fun H=>Tn.2.calls rfl ?_
 simp only [Tn,aH]
 simp only [sZ,Nat.reduceEqDiff,Nat.reduceAdd,↓reduceIte,reduceCtorEq]
 refine ae (ad8 g p l hf) ?_
 simp only [sZ,↓reduceIte,reduceCtorEq]
 exact aS rfl (by rw [xN p l 0 (by omega)])
mutual
def T.shaped:T→Bool
 | .mk k n l=>!(decide (n < 0) || (decide (k=1) && decide (0 < l.length)) || (decide (k≠1) && decide (k≠2)) || decide (8 < l.length)) && cC l
def cC:List T→Bool
 | []=>true
 | x::r=>x.shaped && cC r
end
theorem lz:∀ l,cC l=l.all T.shaped
 | []=>rfl
 | x::r=>by simp only [cC,List.all_cons,lz r]
theorem Eu (l:List T):(!(l.any fun x=>!x.shaped))=cC l:=by
 rw [lz]
 induction l with
 | nil=>rfl
 | cons x r ih=>simp only [agj,List.all_cons,Bool.not_or,afG,ih]
theorem T.bP (x:T):x.shaped=(!(decide (x.n < 0) || (decide (x.k=1) && decide (0 < x.l.length)) || (decide (x.k≠1) && decide (x.k≠2)) || decide (8 < x.l.length)) && cC x.l):=by
 cases x;simp only [T.shaped,T.k,T.n,T.l];rfl
theorem Cc {l:List T} {i:Nat} (h:i < l.length):cC (l.drop i)=((l.getD i default).shaped && cC (l.drop (i + 1))):=by
 rw [aba h]
 simp [cC,h]
theorem T.Kt {x:T} (hh:¬ (x.n < 0∨(x.k=1∧0 < x.l.length)∨(x.k≠1∧x.k≠2)∨8 < x.l.length)):x.shaped=cC x.l:=by
 rw [x.bP]
 have h1:decide (x.n < 0)=false:=ac5.2 (by simp only [ne_eq,decide_eq_true_eq];omega)
 have h2:(decide (x.k=1) && decide (0 < x.l.length))=false:=ac5.2 (by simp only [ne_eq,zB,decide_eq_true_eq];omega)
 have h3:(decide (x.k≠1) && decide (x.k≠2))=false:=ac5.2 (by simp only [ne_eq,zB,decide_eq_true_eq];omega)
 have h4:decide (8 < x.l.length)=false:=ac5.2 (by simp only [ne_eq,decide_eq_true_eq];omega)
 rw [h1,h2,h3,h4];rfl
theorem aea (x:T) (h:Pure Tryz.prog 173 [x.av] (.bool x.shaped)):Pure Tryz.prog 211 [x.av] (.bool (!x.shaped)):=by
 refine fun H=>Rv.2.calls rfl ?_
 simp only [Rv,aH]
 simp only [sZ,Nat.reduceEqDiff,Nat.reduceAdd,↓reduceIte]
 refine ae h ?_
 simp only [sZ,↓reduceIte,reduceCtorEq]
 exact aS rfl rfl
theorem aaa (x:T):Pure Tryz.prog 173 [x.av] (.bool x.shaped):=by
 have ih:∀ y∈x.l,Pure Tryz.prog 211 [y.av] (.bool (!y.shaped)):=fun y hy=>aea y (aaa y)
 refine fun H=>Rg.2.calls rfl ?_
 simp only [Rg,aH]
 simp +contextual only [sZ,Nat.reduceEqDiff,Nat.reduceAdd,↓reduceIte,reduceCtorEq]
 have fin:∀ (H':List aa),H'=H→(x.n < 0∨(x.k=1∧0 < x.l.length)∨(x.k≠1∧x.k≠2)∨8 < x.l.length)→bT H.length [RX.t 2] [(2,AV.bool false)] H' fun r H'=>r=AV.bool x.shaped∧H'=H:=by
  rintro H' rfl hh
  refine aS rfl ?_
  rw [x.bP]
  rcases hh with h | h | h | h <;> simp [h]
 have go:¬ (x.n < 0∨(x.k=1∧0 < x.l.length)∨(x.k≠1∧x.k≠2)∨8 < x.l.length)→x.shaped=cC x.l:=by
  intro hh
  rw [x.bP]
  have h1:decide (x.n < 0)=false:=ac5.2 (by simp only [ne_eq,decide_eq_true_eq];omega)
  have h2:(decide (x.k=1) && decide (0 < x.l.length))=false:=ac5.2 (by simp only [ne_eq,zB,decide_eq_true_eq];omega)
  have h3:(decide (x.k≠1) && decide (x.k≠2))=false:=ac5.2 (by simp only [ne_eq,zB,decide_eq_true_eq];omega)
  have h4:decide (8 < x.l.length)=false:=ac5.2 (by simp only [ne_eq,decide_eq_true_eq];omega)
  rw [h1,h2,h3,h4];rfl
 refine ⟨fun h=>fin _ rfl (.inl h),fun h=>⟨fun h1 hl=>⟨fun h2=>fin _ rfl (by omega),fun h2=>⟨fun h3=>fin _ rfl (by omega),fun h3=>ae (c53 211 _ _ ih) ?_⟩⟩,
  fun h1=>⟨fun h2=>fin _ rfl (by omega),fun h2 hl=>⟨fun h3=>fin _ rfl (by omega),fun h3=>ae (c53 211 _ _ ih) ?_⟩⟩⟩⟩ <;>
 ·simp only [sZ,↓reduceIte,reduceCtorEq]
  exact aS rfl (by rw [go (by omega),Eu])
termination_by SizeOf.sizeOf x
decreasing_by exact T.lt hy
def T.tree (x:T):Bool:=!vf (gS x 1 (0,0)) && x.shaped
theorem Ku (x:T):Pure Tryz.prog 108 [x.av] (.bool x.tree):=by
 refine fun H=>Q7.2.calls rfl ?_
 simp only [Q7,aH]
 simp only [sZ,Nat.reduceEqDiff,Nat.reduceAdd,↓reduceIte,reduceCtorEq]
 refine af (Wp H x 1 (0,0) (by unfold qp;simp)) ?_
 rintro r H' ⟨rfl,rfl⟩
 simp only [sZ,Nat.reduceEqDiff,Nat.reduceAdd,↓reduceIte]
 refine af (Z9 H (gS x 1 (0,0))) ?_
 rintro r H' ⟨rfl,rfl⟩
 cases hb:vf (gS x 1 (0,0)) <;> simp +contextual only [sZ,Nat.reduceEqDiff,Nat.reduceAdd,↓reduceIte,reduceCtorEq]
 ·refine ae (aaa x) ?_
  simp only [sZ,Nat.reduceEqDiff,↓reduceIte,reduceCtorEq]
  exact MW rfl (by simp [T.tree,hb])
 ·exact MW rfl (by simp [T.tree,hb])
theorem aeb (x:T):Pure Tryz.prog 178 [x.av] (.bool (!x.tree)):=by
 refine fun H=>Rh.2.calls rfl ?_
 simp only [Rh,aH]
 simp only [sZ,Nat.reduceEqDiff,Nat.reduceAdd,↓reduceIte]
 refine ae (Ku x) ?_
 simp only [sZ,↓reduceIte,reduceCtorEq]
 exact aS rfl rfl
def fM (l:List T):Bool:=l.all T.tree
theorem RK (l:List T):Pure Tryz.prog 121 [.ak 0 (bk l)] (.int .i64 (if fM l=true then 0 else 4)):=by
 refine fun H=>Q9.2.calls rfl ?_
 simp only [Q9,aH]
 simp only [sZ,Nat.reduceAdd,↓reduceIte,reduceCtorEq]
 refine ae (c53 178 _ l fun x _=>aeb x) ?_
 have e:(l.any fun x=>!x.tree)=!fM l:=by
  unfold fM
  induction l with
  | nil=>rfl
  | cons x r ih=>simp only [agj,List.all_cons,ih,Bool.not_and]
 rw [e]
 cases fM l <;> simp +contextual only [sZ,↓reduceIte,reduceCtorEq]
 ·exact aS rfl rfl
 ·exact aS rfl rfl
mutual
def iC:T→Int→Int→Int×Bool
 | .mk _ _ l,left,deep=>if left - 1 < 0∨200 < deep then (left - 1,false) else nE l (left - 1) (deep + 1)
def nE:List T→Int→Int→Int×Bool
 | [],left,_=>(left,true)
 | x::r,left,deep=>if (iC x left deep).2=true then nE r (iC x left deep).1 deep else ((iC x left deep).1,false)
end
mutual
theorem Cd:∀ (x:T) (left deep:Int),(iC x left deep).1≤left∧(0≤left→-1≤(iC x left deep).1∧((iC x left deep).2=true→0≤(iC x left deep).1))
 | .mk k n l,left,deep=>by
   simp only [iC]
   split
   ·simp;omega
   ·rename_i hn
    have:=IA l (left - 1) (deep + 1)
    exact ⟨by omega,fun _=>this.2 (by omega)⟩
theorem IA:∀ (l:List T) (left deep:Int),(nE l left deep).1≤left∧(0≤left→-1≤(nE l left deep).1∧((nE l left deep).2=true→0≤(nE l left deep).1))
 | [],left,deep=>by simp [nE];omega
 | x::r,left,deep=>by
   have h1:=Cd x left deep
   simp only [nE]
   split
   ·rename_i hb
    have h2:=IA r (iC x left deep).1 deep
    exact ⟨by omega,fun h0=>h2.2 ((h1.2 h0).2 hb)⟩
   ·exact ⟨h1.1,fun h0=>⟨(h1.2 h0).1,fun e=>by cases e⟩⟩
end
theorem Kv {l:List T} {i:Nat} {left d:Int} (h:i < l.length):nE (l.drop i) left d=if (iC (l.getD i default) left d).2=true then nE (l.drop (i + 1)) (iC (l.getD i default) left d).1 d else ((iC (l.getD i default) left d).1,false):=by
 rw [aba h]
 simp [nE,h]
theorem aab (x:T) (left deep:Int) (h0:0≤left) (h1:left≤100000) (h2:0≤deep) (h3:deep≤201) :
 Pure Tryz.prog 214 [x.av,.int .i64 left,.int .i64 deep] (.tuple [.int .i64 (iC x left deep).1,.bool (iC x left deep).2]):=by
 have ih:∀ y∈x.l,∀ (left deep:Int),0≤left→left≤100000→0≤deep→deep≤201→
  Pure Tryz.prog 214 [y.av,.int .i64 left,.int .i64 deep] (.tuple [.int .i64 (iC y left deep).1,.bool (iC y left deep).2]):=fun y hy left deep h0 h1 h2 h3=>aab y left deep h0 h1 h2 h3
 have e:iC x left deep=if left - 1 < 0∨200 < deep then (left - 1,false) else nE x.l (left - 1) (deep + 1):=by cases x;simp only [iC,T.l]
 have w1:IntKind.i64.wrap (left - 1)=left - 1:=cZ _ (by omega)
 have w2:IntKind.i64.wrap (deep + 1)=deep + 1:=cZ _ (by omega)
 refine fun H=>ZW.2.calls rfl ?_
 simp only [ZW,aH]
 simp +contextual only [w1,sZ,Nat.reduceEqDiff,Nat.reduceAdd,↓reduceIte,reduceCtorEq]
 refine ⟨fun h4=>⟨fun h5=>Aj (by decide) rfl rfl (by rw [e,if_pos (.inr h5)];rfl) (by rw [e,if_pos (.inr h5)];rfl),fun h5=>?_⟩,fun h4=>Aj (by decide) rfl rfl (by rw [e,if_pos (.inl h4)];rfl) (by rw [e,if_pos (.inl h4)];rfl)⟩
 have e2:iC x left deep=nE x.l (left - 1) (deep + 1):=by rw [e,if_neg (by omega)]
 refine aD x.l.length (fun i (s:Int)=>0≤s∧s≤100000∧nE (x.l.drop i) s (deep + 1)=iC x left deep)
  (fun i s=>[(1,.int .i64 s),(2,.int .i64 deep),(3,x.av.ah),(8,.int .i64 i)]) (fun i s=>H) (left - 1) ⟨⟨by omega,by omega,by rw [e2];rfl⟩,ax _ _ _⟩ fun i s hi hI=>?_
 obtain ⟨k0,k1,hI⟩:=hI
 simp +contextual only [w2,sZ,Nat.reduceEqDiff,Nat.reduceAdd,↓reduceIte,reduceCtorEq]
 intro hl
 refine ⟨fun aG=>⟨aY aG,?_⟩,fun eW=>?_⟩
 ·have aG:=aY aG
  rw [Kv aG] at hI
  have hle:=Cd (x.l.getD i default) s (deep + 1)
  refine ae (ih _ (bU aG) s (deep + 1) k0 k1 (by omega) (by omega)) ?_
  simp +contextual only [sZ,Nat.reduceEqDiff,Nat.reduceAdd,Nat.reduceLT,↓reduceIte]
  refine pL (fun hb=>?_) (fun hb=>?_) <;> simp +contextual only [sZ,Nat.reduceEqDiff,↓reduceIte,reduceCtorEq]
  ·rw [if_pos hb] at hI
   exact ⟨i + 1,_,⟨aG,(hle.2 k0).2 hb,by omega,hI⟩,by omega,aE (by rw [aq i (by omega)]) rfl⟩
  ·rw [if_neg (by rw [hb];simp)] at hI
   exact Aj (by decide) rfl rfl (by rw [← hI];rfl) (by rw [← hI];rfl)
 ·rw [aa9 (bN eW)] at hI
  exact Aj (by decide) rfl rfl (by rw [← hI];rfl) (by rw [← hI];rfl)
termination_by SizeOf.sizeOf x
decreasing_by exact T.lt hy
theorem aac (x:T):Pure Tryz.prog 215 [x.av] (.bool x.shaped):=by
 have ih:∀ y∈x.l,Pure Tryz.prog 215 [y.av] (.bool y.shaped):=fun y hy=>aac y
 refine fun H=>ZX.2.calls rfl ?_
 simp only [ZX,aH]
 simp +contextual only [sZ,Nat.reduceEqDiff,Nat.reduceAdd,↓reduceIte,reduceCtorEq,Int.reduceEq]
 have fin:∀ (H':List aa),H'=H→(x.n < 0∨(x.k=1∧0 < x.l.length)∨(x.k≠1∧x.k≠2)∨8 < x.l.length)→bT H.length [RX.t 2] [(2,AV.bool false)] H' fun r H'=>r=AV.bool x.shaped∧H'=H:=by
  rintro H' rfl hh
  refine aS rfl ?_
  rw [x.bP]
  rcases hh with h | h | h | h <;> simp [h]
 refine ⟨fun h=>⟨fun h1=>⟨fun h2 hl=>⟨fun h3=>fin _ rfl (by omega),fun h3=>?_⟩,fun h2=>fin _ rfl (by omega)⟩,fun h1 hl=>⟨fun h2=>⟨fun h3=>fin _ rfl (by omega),fun h3=>?_⟩,fun h2=>fin _ rfl (by omega)⟩⟩,fun h=>fin _ rfl (by omega)⟩
 all_goals
  have go:x.shaped=cC x.l:=T.Kt (by omega)
  refine aB x.l.length (fun i=>cC (x.l.drop i)=x.shaped) (fun i=>[(1,x.av.ah),(3,.int .i64 i)]) (fun i=>H) ⟨by rw [go];rfl,ax _ _ _⟩ fun i hi hI=>?_
  simp +contextual only [sZ,Nat.reduceEqDiff,Nat.reduceAdd,↓reduceIte,reduceCtorEq]
  intro _
  refine ⟨fun aG=>⟨aY aG,?_⟩,fun eW=>?_⟩
  ·have aG:=aY aG
   rw [Cc aG] at hI
   refine ae (ih _ (bU aG)) ?_
   simp +contextual only [sZ,Nat.reduceEqDiff,↓reduceIte]
   refine pL (fun hb=>?_) (fun hb=>?_) <;> simp +contextual only [sZ,Nat.reduceEqDiff,↓reduceIte,reduceCtorEq]
   ·exact ⟨i + 1,⟨aG,by rw [hb] at hI;simpa using hI⟩,by omega,aE (by rw [aq i (by omega)]) rfl⟩
   ·exact aS rfl (by rw [← hI,hb];rfl)
  ·rw [aa9 (bN eW)] at hI
   exact aS rfl (by rw [← hI];rfl)
termination_by SizeOf.sizeOf x
decreasing_by exact T.lt hy
theorem aec (x:T):Pure Tryz.prog 175 [x.av] (.bool ((iC x 2000 1).2 && x.shaped)):=by
 refine fun H=>ZF.2.calls rfl ?_
 simp only [ZF,aH]
 simp +contextual only [sZ,Nat.reduceEqDiff,Nat.reduceAdd,↓reduceIte]
 refine ae (aab x 2000 1 (by omega) (by omega) (by omega) (by omega)) ?_
 cases hb:(iC x 2000 1).2 <;> simp +contextual only [sZ,Nat.reduceEqDiff,Nat.reduceAdd,Nat.reduceLT,↓reduceIte,reduceCtorEq]
 ·exact aS rfl rfl
 ·refine ae (aac x) ?_
  simp +contextual only [sZ,Nat.reduceEqDiff,↓reduceIte,reduceCtorEq]
  exact aS rfl rfl
end Go.aK
end
noncomputable section
set_option maxRecDepth 100000
namespace Go.aK
open Go Go.Proofs
mutual
def T.sz:T→Int
 | .mk _ _ l=>1 + jR l
def jR:List T→Int
 | []=>0
 | x::r=>x.sz + jR r
end
mutual
def T.dp:T→Int
 | .mk _ _ l=>1 + Ev l
def Ev:List T→Int
 | []=>0
 | x::r=>max x.dp (Ev r)
end
mutual
theorem T.tQ:∀ x:T,1≤x.sz
 | .mk k n l=>by simp only [T.sz];have:=fY l;omega
theorem fY:∀ l:List T,0≤jR l
 | []=>by simp [jR]
 | x::r=>by simp only [jR];have:=T.tQ x;have:=fY r;omega
end
mutual
theorem T.tR:∀ x:T,1≤x.dp
 | .mk k n l=>by simp only [T.dp];have:=pO l;omega
theorem pO:∀ l:List T,0≤Ev l
 | []=>by simp [Ev]
 | x::r=>by simp only [Ev];have:=T.tR x;have:=pO r;omega
end
def fe (s:Int×Int):Prop:=2000 < s.1∨200 < s.2
mutual
theorem tS:∀ (x:T) (d:Int) (s:Int×Int),qp d s→(¬ fe (gS x d s)↔s.1 + x.sz≤2000∧d + x.dp - 1≤200)∧(¬ fe (gS x d s)→(gS x d s).1=s.1 + x.sz∧(gS x d s).2=max s.2 (d + x.dp - 1))
 | .mk k n l,d,s,h=>by
   obtain ⟨h1,h2,h3,h4,h5,h6⟩:=h
   simp only [gS,T.sz,T.dp]
   have hp:=pO l
   have ih:=As l (d + 1) (s.1 + 1,max s.2 d) (by unfold nD;simp only;omega) (by omega) (by simp only;omega)
   simp only at ih
   refine ⟨ih.1.trans ⟨fun k=>⟨by omega,by omega⟩,fun k=>⟨by omega,by omega,by omega⟩⟩,fun k=>?_⟩
   have k1:=ih.2 k
   have k2:=ih.1.1 k
   exact ⟨by omega,by omega⟩
theorem As:∀ (l:List T) (d:Int) (s:Int×Int),nD s→0≤d→d≤s.2 + 1→(¬ fe (lS l d s)↔s.1 + jR l≤2000∧s.2≤200∧d + Ev l - 1≤200)∧(¬ fe (lS l d s)→(lS l d s).1=s.1 + jR l∧(lS l d s).2=max s.2 (d + Ev l - 1))
 | [],d,s,h,h5,h6=>by
   simp only [lS,jR,Ev,fe]
   exact ⟨⟨fun k=>⟨by omega,by omega,by omega⟩,fun k=>by omega⟩,fun k=>⟨by omega,by omega⟩⟩
 | x::r,d,s,h,h5,h6=>by
   obtain ⟨h1,h2,h3,h4⟩:=h
   simp only [lS]
   have Lz:=x.tQ
   have hd0:=x.tR
   have hr0:=fY r
   have he0:=pO r
   simp only [jR,Ev]
   by_cases ho:2000 < s.1∨200 < s.2
   ·rw [if_pos ho]
    refine ⟨⟨fun k=>absurd ho k,fun k=>?_⟩,fun k=>absurd ho k⟩
    omega
   ·rw [if_neg ho]
    have jo:qp d s:=⟨h1,by omega,h3,by omega,h5,by omega⟩
    have hx:=tS x d s jo
    have ho2:=xM x d s jo
    have TA:=tO x d s
    have ih:=As r d (gS x d s) ho2.1 h5 (by omega)
    generalize gS x d s=t at *
    by_cases hot:fe t
    ·have hn:fe (lS r d t):=by
      refine Classical.byContradiction fun hc=>?_
      have:=ih.1.1 hc
      unfold fe at hot
      omega
     refine ⟨⟨fun k=>absurd hn k,fun k=>?_⟩,fun k=>absurd hn k⟩
     have:=hx.1.2 (by omega)
     exact absurd hot this
    ·have k1:=hx.2 hot
     have k2:=hx.1.1 hot
     refine ⟨ih.1.trans ⟨fun k=>⟨by omega,by omega,by omega⟩,fun k=>⟨by omega,by omega,by omega⟩⟩,fun k=>?_⟩
     have k3:=ih.2 k
     exact ⟨by omega,by omega⟩
end
theorem tT (s:Int×Int):vf s=true↔fe s:=by simp [vf,fe]
mutual
theorem At:∀ (x:T) (left d:Int),0≤left→d≤201→((iC x left d).2=true↔x.sz≤left∧d + x.dp - 1≤200)∧((iC x left d).2=true→(iC x left d).1=left - x.sz)
 | .mk k n l,left,d,h0,hd=>by
   simp only [iC,T.sz,T.dp]
   have hp:=pO l
   have hs:=fY l
   by_cases ho:left - 1 < 0∨200 < d
   ·rw [if_pos ho]
    refine ⟨⟨fun k=>(by cases k),fun k=>?_⟩,fun k=>(by cases k)⟩
    omega
   ·rw [if_neg ho]
    have ih:=Au l (left - 1) (d + 1) (by omega) (by omega)
    exact ⟨ih.1.trans ⟨fun k=>⟨by omega,by omega⟩,fun k=>⟨by omega,by omega⟩⟩,fun k=>by have:=ih.2 k;omega⟩
theorem Au:∀ (l:List T) (left d:Int),0≤left→d≤201→((nE l left d).2=true↔jR l≤left∧d + Ev l - 1≤200)∧((nE l left d).2=true→(nE l left d).1=left - jR l)
 | [],left,d,h0,hd=>by simp only [nE,jR,Ev];exact ⟨⟨fun _=>⟨by omega,by omega⟩,fun _=>trivial⟩,fun _=>by omega⟩
 | x::r,left,d,h0,hd=>by
   simp only [nE,jR,Ev]
   have Lz:=x.tQ
   have hd0:=x.tR
   have hr0:=fY r
   have he0:=pO r
   have hx:=At x left d h0 hd
   have hle:=Cd x left d
   cases hb:(iC x left d).2 with
   | false=>
     rw [if_neg (by simp)]
     refine ⟨⟨fun k=>(by cases k),fun k=>?_⟩,fun k=>(by cases k)⟩
     have:=hx.1.2 (by omega)
     rw [hb] at this;cases this
   | true=>
     rw [if_pos rfl]
     have k1:=hx.2 hb
     have k2:=hx.1.1 hb
     have ih:=Au r (iC x left d).1 d ((hle.2 h0).2 hb) hd
     exact ⟨ih.1.trans ⟨fun k=>⟨by omega,by omega⟩,fun k=>⟨by omega,by omega⟩⟩,fun k=>by have:=ih.2 k;omega⟩
end
theorem T.bg (x:T):x.tree=true↔x.sz≤2000∧x.dp≤200∧x.shaped=true:=by
 have h:=(tS x 1 (0,0) (by unfold qp;simp)).1
 unfold T.tree
 rw [zB,abp,← Bool.not_eq_true,tT]
 constructor
 ·rintro ⟨h1,h2⟩
  have:=h.1 h1
  simp only at this
  exact ⟨by omega,by omega,h2⟩
 ·rintro ⟨h1,h2,h3⟩
  exact ⟨h.2 (by simp only;omega),h3⟩
theorem Wq (x:T):((iC x 2000 1).2 && x.shaped)=x.tree:=by
 have h:=(At x 2000 1 (by omega) (by omega)).1
 rw [ac6,zB,h,T.bg]
 constructor
 ·rintro ⟨⟨h1,h2⟩,h3⟩;exact ⟨h1,by omega,h3⟩
 ·rintro ⟨h1,h2,h3⟩;exact ⟨⟨h1,by omega⟩,h3⟩
theorem TB (x:T):Pure Tryz.prog 175 [x.av] (.bool x.tree):=by rw [← Wq];exact aec x
theorem Ng {p:T→Bool} {l:List T} {i:Nat} (h:i < l.length):(l.drop i).all p=(p (l.getD i default) && (l.drop (i + 1)).all p):=by
 rw [aba h,List.all_cons]
 simp [h]
theorem ajc (l:List T):Pure Tryz.prog 243 [.ak 0 (bk l)] (.bool (fM l)):=by
 refine fun H=>Z6.2.calls rfl ?_
 simp only [Z6,aH]
 simp +contextual only [sZ,Nat.reduceAdd,↓reduceIte,reduceCtorEq]
 refine aB l.length (fun i=>(l.drop i).all T.tree=fM l) (fun i=>[(0,.ak 0 (bk l)),(3,.int .i64 i)]) (fun i=>H) ⟨rfl,ax _ _ _⟩ fun i hi hI=>?_
 simp +contextual only [sZ,Nat.reduceEqDiff,Nat.reduceAdd,↓reduceIte,reduceCtorEq]
 intro _
 refine ⟨fun aG=>⟨aY aG,?_⟩,fun eW=>?_⟩
 ·have aG:=aY aG
  rw [Ng aG] at hI
  refine ae (TB _) ?_
  simp +contextual only [sZ,Nat.reduceEqDiff,↓reduceIte,reduceCtorEq]
  refine pL (fun hb=>?_) (fun hb=>?_) <;> simp +contextual only [sZ,↓reduceIte,reduceCtorEq]
  ·exact ⟨i + 1,⟨aG,by rw [hb] at hI;simpa using hI⟩,by omega,aE (by rw [aq i (by omega)]) rfl⟩
  ·exact aS rfl (by rw [← hI,hb];rfl)
 ·rw [aa9 (bN eW)] at hI
  exact aS rfl (by rw [← hI];rfl)
def ents (vs:List Int):List (AV×AV):=vs.map fun v=>(.int .i64 v,.bool true)
theorem qR (n:Int):∀ (vs:List Int) (i:Nat),(n∈vs→∃ j,dt 0 (.int .i64 n) (ents vs) i=some (some (j,.bool true)))∧(n∉vs→dt 0 (.int .i64 n) (ents vs) i=some none)
 | [],i=>⟨fun h=>(by cases h),fun _=>rfl⟩
 | v::r,i=>by
   have ih:=qR n r (i + 1)
   simp only [ents,List.map_cons,dt,cL,if_true]
   by_cases hv:n=v
   ·subst hv
    simp
   ·simp only [OU,hv,false_or]
    exact ih
theorem Ce (n:Int) (vs:List Int) (φ:AV→Prop):gK (some (.map (ents vs))) 0 (.bool false) (.int .i64 n) false φ=φ (.bool (decide (n∈vs))):=by
 have h:=qR n vs 0
 unfold gK
 by_cases hn:n∈vs
 ·obtain ⟨j,hj⟩:=h.1 hn
  simp [hj,hn,nz]
 ·simp [h.2 hn,hn,cL,aR,bm.aR,nz]
theorem IB {n:Int} {vs:List Int} (hn:n∉vs) (id:Nat) (H:List aa) (K:List aa→Prop):fx (some (.map (ents vs))) 0 id (.int .i64 n) (.bool true) H K=K (H.set id (.map (ents (vs++[n])))):=by
 have h:=(qR n vs 0).2 hn
 unfold fx
 simp only [h]
 simp [cL,eE,sf,wc,ents,aR,bm.aR,nz]
def gT:List Int→AV
 | []=>.ag
 | v::r=>.ak 1 (ints (v::r))
theorem jd (vs:List Int) (n:Int):AV.ak 1 (ints (vs++[n]))=gT (vs++[n]):=by
 cases vs <;> rfl
theorem Ew (vs:List Int):(gT vs).one=true:=by cases vs <;> rfl
theorem Ey (k:Nat) (vs:List Int):(gT vs).aW k=true:=by
 cases vs with
 | nil=>rfl
 | cons v r=>simp only [gT,bZ,aT]
theorem qS (vs:List Int) (n:Int) (o:Nat) (ψ:List AV→Prop):bp 1 8 (gT vs) (.ak o [.int .i64 n]) ψ=((vs.length + 1) * 8≤140737488355328∧ψ (ints (vs++[n]))):=by
 cases vs with
 | nil=>simp [gT,ln,ok_int,ints]
 | cons v r=>
   show bp 1 8 (.ak 1 (ints (v::r))) _ ψ=_
   rw [kM,ok_int,au,tN]
   simp
def c8 (vs:List Int):List aa:=[.cells [gT vs],.map (ents vs)]
def Cf (vs:List Int) (x:T):List Int:=if x.k=1∧x.n∉vs then vs++[x.n] else vs
theorem aed (H:List aa) (x:T) (vs:List Int) (hl:vs.length≤1000000) :
 aw Tryz.prog 246 [x.av,.ah (.map (H.length + 1)),.ptr H.length 0] (H++c8 vs) fun r H'=>r=.tuple []∧H'=H++c8 (Cf vs x):=by
 refine RF.2.calls rfl ?_
 simp only [RF,aH]
 simp +contextual only [c8,Ce,sZ,Nat.reduceEqDiff,Nat.reduceAdd,↓reduceIte,reduceCtorEq]
 refine ⟨fun hk=>⟨fun hn=>?_,fun hn=>?_⟩,fun hk=>?_⟩
 ·exact jt (by simp [c8]) (by simp [Cf,hk,hn,c8])
 ·rw [IB hn]
  simp +contextual only [qS,jd,Ew,Ey,sZ,Nat.reduceEqDiff,Nat.reduceAdd,Nat.reduceLT,↓reduceIte,reduceCtorEq]
  refine ⟨by omega,?_⟩
  exact jt (by simp [c8]) (by simp [Cf,hk,hn,c8])
 ·exact jt (by simp [c8]) (by simp [Cf,hk,c8])
mutual
def lA:T→List Int→List Int
 | .mk k n l,vs=>dz l (if k=1∧n∉vs then vs++[n] else vs)
def dz:List T→List Int→List Int
 | [],vs=>vs
 | x::r,vs=>dz r (lA x vs)
end
mutual
theorem tU:∀ (x:T) (vs:List Int),((lA x vs).length:Int)≤vs.length + x.sz
 | .mk k n l,vs=>by
   simp only [lA,T.sz]
   have:=xO l (if k=1∧n∉vs then vs++[n] else vs)
   split at this
   ·rename_i h;rw [if_pos h];simp only [aaz,List.length_cons,List.length_nil] at this;omega
   ·rename_i h;rw [if_neg h];omega
theorem xO:∀ (l:List T) (vs:List Int),((dz l vs).length:Int)≤vs.length + jR l
 | [],vs=>by simp [dz,jR]
 | x::r,vs=>by
   simp only [dz,jR]
   have h1:=tU x vs
   have h2:=xO r (lA x vs)
   omega
end
theorem vg {l:List T} {i:Nat} {vs:List Int} (h:i < l.length):dz (l.drop i) vs=dz (l.drop (i + 1)) (lA (l.getD i default) vs):=by
 rw [aba h]
 simp [dz,h]
theorem Ez {l:List T} {i:Nat} (h:i < l.length):jR (l.drop i)=(l.getD i default).sz + jR (l.drop (i + 1)):=by
 rw [aba h]
 simp [jR,h]
theorem aae (H:List aa) (x:T) (vs:List Int) (hl:vs.length + x.sz≤1000000) :
 aw Tryz.prog 245 [x.av,.fn (.func 246) [] [.ah (.map (H.length + 1)),.ptr H.length 0]] (H++c8 vs) fun r H'=>r=.tuple []∧H'=H++c8 (lA x vs):=by
 have ih:∀ y∈x.l,∀ (vs:List Int),vs.length + y.sz≤1000000→aw Tryz.prog 245 [y.av,.fn (.func 246) [] [.ah (.map (H.length + 1)),.ptr H.length 0]] (H++c8 vs) fun r H'=>r=.tuple []∧H'=H++c8 (lA y vs):=
  fun y hy vs h=>aae H y vs h
 have e:lA x vs=dz x.l (Cf vs x):=by cases x;simp only [lA,Cf,T.k,T.n,T.l];rfl
 have es:x.sz=1 + jR x.l:=by cases x;simp only [T.sz,T.l]
 have XJ:=fY x.l
 have ha:((Cf vs x).length:Int)≤vs.length + 1:=by
  unfold Cf;split
  ·simp only [aaz,List.length_cons,List.length_nil];omega
  ·omega
 refine RE.2.calls rfl ?_
 simp only [RE,aH]
 simp +contextual only [c8,sZ,Nat.reduceEqDiff,Nat.reduceAdd,↓reduceIte,reduceCtorEq]
 refine af (aed H x vs (by omega)) ?_
 rintro r H' ⟨rfl,rfl⟩
 simp +contextual only [c8,sZ,Nat.reduceEqDiff,↓reduceIte]
 intro Jk
 refine aD x.l.length (fun i (s:List Int)=>(s.length:Int) + jR (x.l.drop i)≤1000000∧dz (x.l.drop i) s=lA x vs)
  (fun i s=>[(1,.fn (.func 246) [] [.ah (.map (H.length + 1)),.ptr H.length 0]),(10,.ak 0 (bk x.l)),(11,.int .i64 x.l.length),(12,.int .i64 i)]) (fun i s=>H++c8 s) (Cf vs x) ⟨⟨by rw [List.drop_zero];omega,by rw [e];rfl⟩,ax _ _ _⟩ fun i s hi hI=>?_
 obtain ⟨k1,hI⟩:=hI
 simp +contextual only [c8,sZ,Nat.reduceEqDiff,Nat.reduceAdd,↓reduceIte,reduceCtorEq]
 refine ⟨fun aG=>⟨aY aG,?_⟩,fun eW=>?_⟩
 ·have aG:=aY aG
  rw [vg aG] at hI
  rw [Ez aG] at k1
  have hp:=fY (x.l.drop (i + 1))
  refine af (ih _ (bU aG) s (by omega)) ?_
  rintro r H' ⟨rfl,rfl⟩
  simp +contextual only [c8,sZ,Nat.reduceEqDiff,↓reduceIte]
  have:=tU (x.l.getD i default) s
  exact ⟨i + 1,_,⟨aG,by omega,hI⟩,by omega,aE (by rw [aq i (by omega)]) rfl⟩
 ·rw [aa9 (bN eW)] at hI
  rw [← hI]
  exact jt (by simp [c8]) rfl
termination_by SizeOf.sizeOf x
decreasing_by exact T.lt hy
theorem Hd (vs:List Int):(gT vs).ab.le (.ak 0 (ints vs)):=by
 cases vs with
 | nil=>exact .inr (.inr (.inr (.inl ⟨rfl,0,rfl⟩)))
 | cons v r=>exact le_refl _
theorem aee (l:List T) (hl:jR l≤1000000):Pure Tryz.prog 237 [.ak 0 (bk l)] (.ak 0 (ints (dz l []))):=by
 refine fun H=>RC.2.calls rfl ?_
 simp only [RC,aH]
 simp +contextual only [sZ,Nat.reduceEqDiff,Nat.reduceAdd,↓reduceIte,reduceCtorEq]
 intro Jk
 refine aD l.length (fun i (s:List Int)=>(s.length:Int) + jR (l.drop i)≤1000000∧dz (l.drop i) s=dz l [])
  (fun i s=>[(3,.ptr H.length 0),(4,.ah (.map (H.length + 1))),(8,.ak 0 (bk l)),(9,.int .i64 l.length),(10,.int .i64 i)]) (fun i s=>H++c8 s) [] ⟨⟨by rw [List.drop_zero,List.length_nil];omega,rfl⟩,ax _ _ _⟩ fun i s hi hI=>?_
 obtain ⟨k1,hI⟩:=hI
 simp +contextual only [c8,sZ,Nat.reduceEqDiff,Nat.reduceAdd,Nat.reduceLT,↓reduceIte,reduceCtorEq]
 refine ⟨fun aG=>⟨aY aG,?_⟩,fun eW=>?_⟩
 ·have aG:=aY aG
  rw [vg aG] at hI
  rw [Ez aG] at k1
  have hp:=fY (l.drop (i + 1))
  refine af (aae H (l.getD i default) s (by omega)) ?_
  rintro r H' ⟨rfl,rfl⟩
  simp +contextual only [c8,sZ,Nat.reduceEqDiff,↓reduceIte]
  have:=tU (l.getD i default) s
  exact ⟨i + 1,_,⟨aG,by omega,hI⟩,by omega,aE (by rw [aq i (by omega)]) rfl⟩
 ·rw [aa9 (bN eW)] at hI
  have:s=dz l []:=hI
  subst this
  refine YU ?_ (by simp only [bZ,aT])
  have e:(gT (dz l [])).ab.ab=(gT (dz l [])).ab:=by cases (dz l []) <;> rfl
  rw [e]
  exact Hd _
mutual
def rvT:T→List Int→List Int
 | .mk k n l,vs=>if k=1 then (if n∈vs then vs else vs++[n]) else rvs l vs
def rvs:List T→List Int→List Int
 | [],vs=>vs
 | x::r,vs=>rvs r (rvT x vs)
end
mutual
theorem RM:∀ (x:T) (vs:List Int),x.shaped=true→lA x vs=rvT x vs
 | .mk k n l,vs,h=>by
   have h':=h
   rw [T.bP] at h
   simp only [T.k,T.n,T.l,zB,abp,acx,acS] at h
   obtain ⟨⟨⟨⟨h1,h2⟩,h3⟩,h4⟩,h5⟩:=h
   simp only [lA,rvT]
   by_cases hk:k=1
   ·have hl:l=[]:=by
     rcases h2 with h2 | h2
     ·simp [hk] at h2
     ·cases l with
      | nil=>rfl
      | cons x r=>simp at h2
    subst hl
    simp only [dz,hk,true_and,if_true]
    by_cases hn:n∈vs <;> simp [hn]
   ·simp only [hk,false_and,if_false]
    exact xP l vs h5
theorem xP:∀ (l:List T) (vs:List Int),cC l=true→dz l vs=rvs l vs
 | [],vs,_=>rfl
 | x::r,vs,h=>by
   simp only [cC,zB] at h
   simp only [dz,rvs,RM x vs h.1]
   exact xP r _ h.2
end
def kO (l:List T):List Int:=if fM l=true then rvs l [] else []
end Go.aK
end
