/- Part 7 of 15 of the proof. -/
import Derived.Test.YtljchnfgjdjobaaGreatProg
import Derived.KernelRfl
import Derived.Test.YtljchnfgjdjobaaGreatVaf
import Derived.SizedLaws
set_option linter.unusedVariables false
set_option linter.unusedSimpArgs false
set_option linter.defProp false
set_option linter.unusedSectionVars false
section
set_option maxRecDepth 100000
set_option maxHeartbeats 0
namespace Go.aL
open Go Go.Proofs
noncomputable def k17:=aF Tryz.call17 Tryz.func17 Tryz.ntmps17 [(1,1,1000),(2,3,1000),(3,3,1000),(4,3,1000),(10,10,1000),(18,6,1000)] [(0,[]),(1,[1]),(2,[1,2]),(3,[1,2,3]),(4,[1,2,3,4]),(5,[1,2,3,4,5,6]),(6,[1,2,3,4,5,6,7,8]),(7,[1,2,3,4,5,6,7,8,9,10]),(8,[1,2,3,4,5,6,69]),(9,[0]),(10,[1,2,3,4,5,6,8,11,12]),(11,[1,2,3,4,105]),(12,[0]),(13,[1,2,4,8,13]),(14,[1,2,4,8,10,13,14]),(15,[1,2,4,160]),(16,[0]),(17,[1,2,8,12,15]),(18,[1,2,8,10,12,15,16,17]),(19,[1,2,207]),(20,[0]),(21,[8,18]),(22,[0])] [(5,(.take 0 true (.take 1 true (.take 2 true (.take 3 true (.take 4 true (.take 5 false (.take 6 false (.take 7 false (.take 8 false (.take 9 false (.br 10 (.br 11 (.br 12 (.br 13 .done .nil) .nil) .nil) (.br 11 (.br 10 (.br 12 (.br 13 .done .nil) .nil) .nil) .nil))))))))))))),(13,(.take 3 true (.take 4 true (.take 5 true (.take 6 true (.take 7 true (.take 8 true (.take 9 true (.take 10 true (.take 0 true (.take 1 true (.take 2 true (.take 11 true (.take 12 true (.take 13 true (.take 14 true (.take 15 true (.take 16 true .done)))))))))))))))))),(14,(.take 3 true (.take 4 true (.take 5 true (.take 6 true (.take 7 true (.take 8 true (.take 9 true (.take 10 true (.take 0 true (.take 1 true (.take 2 true (.take 11 true (.take 12 true (.take 13 true (.take 14 true (.take 15 true (.take 16 true .done)))))))))))))))))),(21,(.take 3 true (.take 4 true (.take 5 true (.take 6 true (.take 7 true (.take 8 true (.take 9 true (.take 10 true (.take 11 true (.take 0 true (.take 1 true (.take 2 true (.take 12 true (.take 13 true (.take 14 true (.take 15 true (.take 16 true (.take 17 true (.take 18 true .done))))))))))))))))))))]
noncomputable def k18:=aF Tryz.call18 Tryz.func18 Tryz.ntmps18 [(0,0,1),(0,1,1)] [(0,[2,3]),(1,[4])] []
noncomputable def k19:=aF Tryz.call19 Tryz.func19 Tryz.ntmps19 [(3,2,2000)] [(0,[1,2]),(1,[1,2,5]),(2,[1,5]),(3,[4])] []
noncomputable def k20:=aF Tryz.call20 Tryz.func20 Tryz.ntmps20 [(0,0,1),(0,1,1),(0,2,1),(0,3,1),(5,7,2000)] [(0,[4,5,6,7]),(1,[5,6,7,10]),(2,[5,6,7,10,20]),(3,[8,9]),(4,[11,12]),(5,[8,9])] [(5,(.take 0 true (.take 1 true (.take 2 true (.take 3 true (.take 4 true (.take 5 true (.take 6 true (.br 7 (.take 8 true (.take 9 true .done)) .nil)))))))))]
noncomputable def k22:=aF Tryz.call22 Tryz.func22 Tryz.ntmps22 [(0,0,1),(0,1,1),(0,2,1),(0,3,1),(5,7,2000)] [(0,[4,5,6,7]),(1,[5,6,7,10]),(2,[5,6,7,10,20]),(3,[8,9]),(4,[11,12]),(5,[8,9])] [(5,(.take 0 true (.take 1 true (.take 2 true (.take 3 true (.take 4 true (.take 5 true (.take 6 true (.br 7 (.take 8 true (.take 9 true .done)) .nil)))))))))]
noncomputable def k24:=aF Tryz.call24 Tryz.func24 Tryz.ntmps24 [(0,0,1),(0,1,1)] [(0,[2,3]),(1,[2,3,5]),(2,[2,3,5,15]),(3,[4]),(4,[3,32]),(5,[4]),(6,[3,6]),(7,[3,6,35,36,37]),(8,[3,6,35,36,37,38]),(9,[3,6,7,8,35,36,37]),(10,[3,6,8,9,35,36,37]),(11,[3,6,8,9,10,11,35,36,37]),(12,[3,6,8,9,35,36,37,74]),(13,[4]),(14,[3,6,35,36,37]),(15,[3,6,35,36,37]),(16,[4])] []
noncomputable def k25:=aF Tryz.call25 Tryz.func25 Tryz.ntmps25 [(0,0,1),(0,1,1)] [(0,[2,3]),(1,[2,3,5]),(2,[2,3,5,10]),(3,[4]),(4,[6]),(5,[16]),(6,[4]),(7,[4])] []
noncomputable def k27:=aF Tryz.call27 Tryz.func27 Tryz.ntmps27 [(0,0,1),(0,1,1),(0,2,1),(0,3,1),(5,7,2000),(7,7,2000)] [(0,[4,5,6,7,8]),(1,[5,6,7,8,11]),(2,[5,6,7,8,11,21]),(3,[8,9,10]),(4,[8,12,13]),(5,[8,12,13,40]),(6,[8,9,10]),(7,[8,9,10])] [(5,(.take 0 true (.take 1 true (.take 2 true (.take 3 true (.take 4 true (.take 5 true (.take 6 true (.br 7 (.take 8 true .done) .nil))))))))),(7,(.take 0 true (.take 1 true (.take 2 true (.take 3 true (.take 4 true (.take 5 true (.take 6 true (.br 7 (.br 8 (.take 9 true (.take 10 true .done)) .nil) .nil)))))))))]
noncomputable def k28:=aF Tryz.call28 Tryz.func28 Tryz.ntmps28 [(0,0,1),(0,1,1),(0,2,1),(0,3,1),(0,4,1),(5,8,2000)] [(0,[5,6,7,8,9]),(1,[6,7,8,9,11]),(2,[6,7,8,9,11,21]),(3,[10]),(4,[9,12,13]),(5,[40]),(6,[10]),(7,[10])] [(5,(.take 0 true (.take 1 true (.take 2 true (.take 3 true (.take 4 true (.take 5 true (.take 6 true (.take 7 true (.br 8 (.take 9 true .done) .nil))))))))))]
noncomputable def k31:=aF Tryz.call31 Tryz.func31 Tryz.ntmps31 [(0,0,1),(0,1,1)] [(0,[2,3]),(1,[2,3,7]),(2,[2,3,7,13]),(3,[4,5,6]),(4,[2,3,8]),(5,[2,3,8,20]),(6,[4,5,6]),(7,[9]),(8,[4,5,6])] []
noncomputable def k33:=aF Tryz.call33 Tryz.func33 Tryz.ntmps33 [(0,0,1),(0,1,1)] [(0,[2,3]),(1,[6,7]),(2,[7,19]),(3,[4]),(4,[4])] []
noncomputable def k35:=aF Tryz.call35 Tryz.func35 Tryz.ntmps35 [(0,0,1),(7,6,1000)] [(0,[1,2]),(1,[1,2,5]),(2,[1,2,5,12]),(3,[2,3,4]),(4,[1,2,6]),(5,[1,2,6,19]),(6,[2,3,4]),(7,[2,7,8]),(8,[2,3,4])] []
noncomputable def k42:=aF Tryz.call42 Tryz.func42 Tryz.ntmps42 [(0,0,1),(0,1,1)] [(0,[2,3,4,5]),(1,[8])] []
noncomputable def k45:=aF Tryz.call45 Tryz.func45 Tryz.ntmps45 [(0,0,1),(0,1,1),(0,2,1),(0,3,1)] [(0,[4,5,6,7]),(1,[8,10]),(2,[8,9])] []
noncomputable def Rp:=aF Tryz.call53 Tryz.func53 Tryz.ntmps53 [(1,2,2000)] [(0,[0,1]),(1,[4])] []
noncomputable def k54:=aF Tryz.call54 Tryz.func54 Tryz.ntmps54 [(0,0,1)] [(0,[1,2]),(1,[3])] []
noncomputable def k55:=aF Tryz.call55 Tryz.func55 Tryz.ntmps55 [(0,0,1),(0,1,1)] [(0,[2,3]),(1,[4])] []
noncomputable def k56:=aF Tryz.call56 Tryz.func56 Tryz.ntmps56 [(0,0,1),(6,2,2000)] [(0,[1]),(1,[1,8]),(2,[2,3]),(3,[1,4]),(4,[1,4,5]),(5,[1,4,5]),(6,[4]),(7,[2,3])] []
noncomputable def k57:=aF Tryz.call57 Tryz.func57 Tryz.ntmps57 [(0,0,1),(3,6,1000)] [(0,[1,2,4]),(1,[1,2,4,10]),(2,[4,5]),(3,[4,6,7]),(4,[4,6,19]),(5,[4,5]),(6,[4,5])] []
noncomputable def k58:=aF Tryz.call58 Tryz.func58 Tryz.ntmps58 [(3,0,1),(3,3,1)] [(0,[0]),(1,[0,4]),(2,[2]),(3,[2])] []
noncomputable def k59:=aF Tryz.call59 Tryz.func59 Tryz.ntmps59 [] [(0,[0,2]),(1,[2])] []
noncomputable def k60:=aF Tryz.call60 Tryz.func60 Tryz.ntmps60 [(0,0,1),(8,2,1000),(10,4,1),(10,10,1),(12,2,2000),(12,6,1000)] [(0,[1,2,4]),(1,[1,2,4,20]),(2,[4,5]),(3,[1,2,4,27]),(4,[4,5]),(5,[1,2,4,6]),(6,[2,4,6,32,33,34]),(7,[2,4,6,32,33,34,35]),(8,[2,4,6,8,32,33,34]),(9,[2,4,6,9,32,33,34]),(10,[2,4,6,32,33,34]),(11,[2,4,6,32,33,34]),(12,[4,11,12]),(13,[4,11,61]),(14,[4,5]),(15,[4,5])] []
noncomputable def k61:=aF Tryz.call61 Tryz.func61 Tryz.ntmps61 [(0,0,1),(0,1,1),(3,6,1000)] [(0,[1,3,5,6]),(1,[1,3,5,6,14]),(2,[6,7]),(3,[1,3,5,6,9]),(4,[1,3,5,6,23]),(5,[6,7]),(6,[6,7])] []
noncomputable def k62:=aF Tryz.call62 Tryz.func62 Tryz.ntmps62 [(0,0,1)] [(0,[1]),(1,[5]),(2,[2]),(3,[2])] []
def abV:IR:=(.seq (.region [⟨none,some 0,(.alloc (.agg [.ah,.ah,.ah]))⟩] (.some [0])) (.seq (.region [⟨none,some 2,(.buildSlice 0 1 (.str ⟨#[]⟩) 1 [(0,(.c (.str ⟨#[78]⟩)))])⟩,⟨none,some 3,(.build (.agg [(.str ⟨#[]⟩),.ah,(.int .i64 0)]) [(0,(1,(.c (.str ⟨#[122]⟩))))])⟩,⟨none,some 4,(.buildSlice 0 1 (.int .i64 0) 1 [(0,(.c (.int .i64 0)))])⟩,⟨none,some 5,(.build (.agg [(.str ⟨#[]⟩),.ah,(.int .i64 0)]) [(0,(1,(.c (.str ⟨#[115]⟩)))),(1,(1,(.t 4)))])⟩,⟨none,some 6,(.buildSlice 0 1 (.int .i64 0) 2 [(0,(.c (.int .i64 0))),(1,(.c (.int .i64 0)))])⟩,⟨none,some 7,(.build (.agg [(.str ⟨#[]⟩),.ah,(.int .i64 0)]) [(0,(1,(.c (.str ⟨#[97,100,100]⟩)))),(1,(1,(.t 6)))])⟩,⟨none,some 8,(.buildSlice 0 3 (.agg [(.str ⟨#[]⟩),.ah,(.int .i64 0)]) 3 [(0,(.t 3)),(1,(.t 5)),(2,(.t 7))])⟩,⟨none,some 9,(.build (.agg [.ah,.ah]) [(0,(1,(.t 2))),(1,(1,(.t 8)))])⟩,⟨none,some 1,(.sg 2 (.t 9))⟩] (.some [0,1])) (.seq (.draw (.take .true ⟨none,some 12,(.call (.c (.fn (.func 59) [] [])) [(.c (.int .i64 0))] .none)⟩ (.take .true ⟨none,some 13,(.call (.c (.fn (.func 65) [] [])) [(.c (.int .i64 0)),(.c .ah)] .none)⟩ (.take .true ⟨none,some 14,(.buildSlice 0 3 (.agg [(.int .i64 0),(.int .i64 0),.ah]) 2 [(0,(.t 12)),(1,(.t 13))])⟩ (.take .true ⟨none,some 15,(.call (.c (.fn (.func 65) [] [])) [(.c (.int .i64 2)),(.t 14)] .none)⟩ (.take .true ⟨none,some 16,(.call (.c (.fn (.func 59) [] [])) [(.c (.int .i64 0))] .none)⟩ (.take .true ⟨none,some 19,(.call (.c (.fn (.func 59) [] [])) [(.c (.int .i64 0))] .none)⟩ (.take .true ⟨none,some 20,(.call (.c (.fn (.func 59) [] [])) [(.c (.int .i64 1))] .none)⟩ (.take .true ⟨none,some 21,(.buildSlice 0 3 (.agg [(.int .i64 0),(.int .i64 0),.ah]) 1 [(0,(.t 20))])⟩ (.take .true ⟨none,some 22,(.call (.c (.fn (.func 65) [] [])) [(.c (.int .i64 1)),(.t 21)] .none)⟩ (.take .true ⟨none,some 23,(.buildSlice 0 3 (.agg [(.int .i64 0),(.int .i64 0),.ah]) 2 [(0,(.t 19)),(1,(.t 22))])⟩ (.take .true ⟨none,some 24,(.call (.c (.fn (.func 65) [] [])) [(.c (.int .i64 2)),(.t 23)] .none)⟩ (.take .true ⟨none,some 25,(.call (.c (.fn (.func 59) [] [])) [(.c (.int .i64 0))] .none)⟩ (.take .true ⟨none,some 26,(.call (.c (.fn (.func 59) [] [])) [(.c (.int .i64 1))] .none)⟩ (.take .true ⟨none,some 27,(.buildSlice 0 3 (.agg [(.int .i64 0),(.int .i64 0),.ah]) 2 [(0,(.t 25)),(1,(.t 26))])⟩ (.take .true ⟨none,some 28,(.call (.c (.fn (.func 65) [] [])) [(.c (.int .i64 2)),(.t 27)] .none)⟩ (.take .true ⟨none,some 29,(.buildSlice 0 3 (.agg [(.int .i64 0),(.int .i64 0),.ah]) 1 [(0,(.t 28))])⟩ (.take .true ⟨none,some 30,(.call (.c (.fn (.func 65) [] [])) [(.c (.int .i64 1)),(.t 29)] .none)⟩ (.take .true ⟨none,some 10,(.load (.some 2) (.t 1))⟩ (.take .true ⟨none,some 11,(.buildSlice 0 1 (.int .i64 0) 1 [(0,(.c (.int .i64 0)))])⟩ (.take .true ⟨none,some 17,(.build (.agg [.ah,.ah,(.int .i64 0),(.int .i64 0),.ah,(.int .i64 0),(.int .i64 0),.ah]) [(0,(1,(.t 11))),(2,(3,(.t 15))),(5,(3,(.t 16)))])⟩ (.take .true ⟨none,some 18,(.buildSlice 0 1 (.int .i64 0) 2 [(0,(.c (.int .i64 0))),(1,(.c (.int .i64 0)))])⟩ (.take .true ⟨none,some 31,(.build (.agg [.ah,.ah,(.int .i64 0),(.int .i64 0),.ah,(.int .i64 0),(.int .i64 0),.ah]) [(0,(1,(.t 18))),(2,(3,(.t 24))),(5,(3,(.t 30)))])⟩ (.take .true ⟨none,some 32,(.buildSlice 0 8 (.agg [.ah,.ah,(.int .i64 0),(.int .i64 0),.ah,(.int .i64 0),(.int .i64 0),.ah]) 2 [(0,(.t 17)),(1,(.t 31))])⟩ (.take .true ⟨none,some 33,(.build (.agg [.ah,.ah,.ah]) [(0,(2,(.t 10))),(2,(1,(.t 32)))])⟩ (.br ⟨none,none,(.store 3 (.t 0) (.t 33))⟩ .done .nil))))))))))))))))))))))))) (.some [0])) .ret)))
def W5:rc:=⟨34,abV,[(.c 0 (.some 3))]⟩
theorem abW:iU Tryz.prog 64 W5:=⟨Tryz.call64,Tryz.f64,_,[(1,8,1000)],[(0,[0]),(1,[0,1]),(2,[0])],[(2,(.take 2 true (.take 3 true (.take 4 true (.take 5 true (.take 6 true (.take 9 true (.take 10 true (.take 11 true (.take 12 true (.take 13 true (.take 14 true (.take 15 true (.take 16 true (.take 17 true (.take 18 true (.take 19 true (.take 20 true (.take 0 true (.take 1 true (.take 7 true (.take 8 true (.take 21 true (.take 22 true (.take 23 true (.br 24 .done .nil))))))))))))))))))))))))))],Tryz.func64,rfl,Tryz.ntmps64,by kernel_rfl,by kernel_rfl⟩
noncomputable def V1:=aF Tryz.call65 Tryz.func65 Tryz.ntmps65 [] [(0,[0,1,4]),(1,[4])] []
noncomputable def k66:=aF Tryz.call66 Tryz.func66 Tryz.ntmps66 [] [(0,[0,1]),(1,[0,1,10]),(2,[4]),(3,[0,1,12,13]),(4,[0,1,12,13,14]),(5,[0,1,5,12,13]),(6,[0,1,12,13,24]),(7,[4]),(8,[0,1,12,13]),(9,[4])] [(6,(.take 0 true (.take 1 true (.take 2 true (.take 3 true (.take 4 true (.take 5 true (.take 6 true (.take 7 true (.take 8 true .done))))))))))]
noncomputable def k67:=aF Tryz.call67 Tryz.func67 Tryz.ntmps67 [(1,2,2000)] [(0,[0,1]),(1,[4])] []
noncomputable def k68:=aF Tryz.call68 Tryz.func68 Tryz.ntmps68 [(0,0,1)] [(0,[1]),(1,[2])] []
noncomputable def k69:=aF Tryz.call69 Tryz.func69 Tryz.ntmps69 [(1,2,2000)] [(0,[0,1]),(1,[4])] []
noncomputable def k70:=aF Tryz.call70 Tryz.func70 Tryz.ntmps70 [] [(0,[0]),(1,[2])] []
noncomputable def k71:=aF Tryz.call71 Tryz.func71 Tryz.ntmps71 [(0,0,1),(0,1,1),(2,10,2000)] [(0,[2,3,4,5]),(1,[2,3,4,5]),(2,[6])] []
noncomputable def k72:=aF Tryz.call72 Tryz.func72 Tryz.ntmps72 [(0,0,1),(1,4,2000)] [(0,[1,2,3]),(1,[4])] []
noncomputable def k73:=aF Tryz.call73 Tryz.func73 Tryz.ntmps73 [(0,0,1),(1,2,2000)] [(0,[1,2]),(1,[3])] []
noncomputable def k74:=aF Tryz.call74 Tryz.func74 Tryz.ntmps74 [(0,0,1),(0,1,1),(6,2,1000)] [(0,[2,3,4]),(1,[2,3,7]),(2,[2,3,7,14]),(3,[6]),(4,[3,16,17,18]),(5,[3,16,17,18,19]),(6,[3,9,16,17,18]),(7,[3,16,17,18,30]),(8,[6]),(9,[3,16,17,18]),(10,[6])] []
noncomputable def k76:=aF Tryz.call76 Tryz.func76 Tryz.ntmps76 [(0,0,1),(0,1,1),(0,2,1),(1,7,2000)] [(0,[3,4,5]),(1,[6])] [(1,(.take 0 true (.take 1 true (.take 2 true (.take 3 true (.take 4 true (.take 5 true (.take 6 true (.br 7 (.take 8 true .done) .nil)))))))))]
noncomputable def k79:=aF Tryz.call79 Tryz.func79 Tryz.ntmps79 [(0,0,1),(0,1,1),(0,2,1),(1,7,2000)] [(0,[3,4,5]),(1,[6])] [(1,(.take 0 true (.take 1 true (.take 2 true (.take 3 true (.take 4 true (.take 5 true (.take 6 true (.br 7 (.take 8 true .done) .nil)))))))))]
def W6:IR:=(.seq (.region [⟨none,some 1,(.l7 (.t 0))⟩,⟨none,some 2,(.set (.c (.int .i64 0)) false)⟩] (.some [1])) (.seq (.seq (.region [⟨none,some 9,(.fieldAddr 0 .none (.t 1))⟩,⟨none,some 10,(.load .none (.t 9))⟩,⟨none,some 11,(.len 1 (.t 10))⟩,⟨none,some 12,(.bin .gtr (.t 11) (.c (.int .i64 64)))⟩,⟨none,some 13,(.set (.t 12) false)⟩,⟨some (13,false),some 14,(.fieldAddr 1 .none (.t 1))⟩,⟨some (13,false),some 15,(.load .none (.t 14))⟩,⟨some (13,false),some 16,(.len 1 (.t 15))⟩,⟨some (13,false),some 17,(.bin .gtr (.t 16) (.c (.int .i64 256)))⟩,⟨none,some 18,(.pick (.t 13) (.c (.bool true)) (.t 17))⟩] (.some [1,18])) (.cond (.t 18) (.seq (.region [⟨none,some 2,(.set (.c (.int .i64 40)) false)⟩] (.some [2])) .ret) .skip)) (.seq (.region [⟨none,some 19,.nL⟩,⟨none,some 3,(.set (.t 19) false)⟩] (.some [1,3])) (.seq (.seq (.region [⟨none,some 20,(.fieldAddr 0 .none (.t 1))⟩,⟨none,some 21,(.load .none (.t 20))⟩,⟨none,some 22,(.len 1 (.t 21))⟩,⟨none,some 23,(.set (.c (.int .i64 0)) false)⟩] (.some [1,3,21,22,23])) (.block 0 (.loop (.seq (.region [⟨none,some 24,(.bin .lss (.t 23) (.t 22))⟩] (.some [1,3,21,22,23,24])) (.seq (.cond (.t 24) .skip (.exit 0)) (.seq (.block 1 (.seq (.region [⟨none,some 25,(.indexAddr 1 (.t 21) (.t 23))⟩,⟨none,some 26,(.load .none (.t 25))⟩,⟨none,some 5,(.set (.t 26) false)⟩] (.some [1,3,5,21,22,23])) (.seq (.seq (.region [⟨none,some 27,(.set (.t 5) false)⟩,⟨none,some 28,(.call (.c (.fn (.func 141) [] [])) [(.t 27)] .none)⟩,⟨none,some 29,(.un .not (.t 28))⟩,⟨none,some 30,(.set (.t 29) false)⟩,⟨some (30,false),some 31,(.set (.t 5) false)⟩,⟨some (30,false),some 32,(.call (.c (.fn (.func 142) [] [])) [(.t 31),(.c (.str ⟨#[95]⟩))] .none)⟩,⟨none,some 33,(.pick (.t 30) (.c (.bool true)) (.t 32))⟩,⟨none,some 34,(.set (.t 33) false)⟩,⟨some (34,false),some 35,(.set (.t 3) false)⟩,⟨some (34,false),some 36,(.set (.t 5) false)⟩,⟨some (34,false),some 37,(.lookup 1 (.bool false) (.t 35) (.t 36) false)⟩,⟨none,some 38,(.pick (.t 34) (.c (.bool true)) (.t 37))⟩] (.some [1,3,5,21,22,23,38])) (.cond (.t 38) (.seq (.region [⟨none,some 2,(.set (.c (.int .i64 40)) false)⟩] (.some [2])) .ret) .skip)) (.region [⟨none,some 39,(.set (.t 3) false)⟩,⟨none,some 40,(.set (.t 5) false)⟩,⟨none,none,(.kP 1 (.t 39) (.t 40) (.c (.bool true)))⟩] (.some [1,3,21,22,23]))))) (.region [⟨none,some 41,(.bin .add (.t 23) (.c (.int .i64 1)))⟩,⟨none,some 23,(.set (.t 41) false)⟩] (.some [1,3,21,22,23])))))))) (.seq (.region [⟨none,some 42,.nL⟩,⟨none,some 6,(.set (.t 42) false)⟩] (.some [1,6])) (.seq (.seq (.region [⟨none,some 43,(.fieldAddr 1 .none (.t 1))⟩,⟨none,some 44,(.load .none (.t 43))⟩,⟨none,some 45,(.len 1 (.t 44))⟩,⟨none,some 46,(.set (.c (.int .i64 0)) false)⟩] (.some [1,6,44,45,46])) (.block 2 (.loop (.seq (.region [⟨none,some 47,(.bin .lss (.t 46) (.t 45))⟩] (.some [1,6,44,45,46,47])) (.seq (.cond (.t 47) .skip (.exit 2)) (.seq (.block 3 (.seq (.region [⟨none,some 48,(.indexAddr 3 (.t 44) (.t 46))⟩,⟨none,some 49,(.load (.some 3) (.t 48))⟩,⟨none,some 8,(.sg 3 (.t 49))⟩] (.some [1,6,8,44,45,46])) (.seq (.seq (.region [⟨none,some 50,(.load (.some 3) (.t 8))⟩,⟨none,some 51,(.fieldAddr 0 .none (.t 1))⟩,⟨none,some 52,(.load .none (.t 51))⟩,⟨none,some 53,(.len 1 (.t 52))⟩,⟨none,some 54,(.call (.c (.fn (.func 143) [] [])) [(.t 50),(.t 53)] .none)⟩,⟨none,some 55,(.un .not (.t 54))⟩,⟨none,some 56,(.set (.t 55) false)⟩,⟨some (56,false),some 57,(.set (.t 6) false)⟩,⟨some (56,false),some 58,(.load (.some 3) (.t 8))⟩,⟨some (56,false),some 59,(.call (.c (.fn (.func 144) [] [])) [(.t 58)] .none)⟩,⟨some (56,false),some 60,(.lookup 1 (.bool false) (.t 57) (.t 59) false)⟩,⟨none,some 61,(.pick (.t 56) (.c (.bool true)) (.t 60))⟩] (.some [1,6,8,44,45,46,61])) (.cond (.t 61) (.seq (.region [⟨none,some 2,(.set (.c (.int .i64 40)) false)⟩] (.some [2])) .ret) .skip)) (.region [⟨none,some 62,(.set (.t 6) false)⟩,⟨none,some 63,(.load (.some 3) (.t 8))⟩,⟨none,some 64,(.call (.c (.fn (.func 144) [] [])) [(.t 63)] .none)⟩,⟨none,none,(.kP 1 (.t 62) (.t 64) (.c (.bool true)))⟩] (.some [1,6,44,45,46]))))) (.region [⟨none,some 65,(.bin .add (.t 46) (.c (.int .i64 1)))⟩,⟨none,some 46,(.set (.t 65) false)⟩] (.some [1,6,44,45,46])))))))) (.seq (.region [⟨none,some 2,(.set (.c (.int .i64 0)) false)⟩] (.some [2])) .ret)))))))
def Uu:rc:=⟨66,W6,[(.t 2)]⟩
theorem W7:iU Tryz.prog 81 Uu:=⟨Tryz.call81,Tryz.f81,_,[(0,0,1),(14,2,1000)],[(0,[1]),(1,[1,18]),(2,[2]),(3,[1,3]),(4,[1,3,21,22,23]),(5,[1,3,21,22,23,24]),(6,[1,3,5,21,22,23]),(7,[1,3,5,21,22,23,38]),(8,[2]),(9,[1,3,21,22,23]),(10,[1,3,21,22,23]),(11,[1,6]),(12,[1,6,44,45,46]),(13,[1,6,44,45,46,47]),(14,[1,6,8,44,45,46]),(15,[1,6,8,44,45,46,61]),(16,[2]),(17,[1,6,44,45,46]),(18,[1,6,44,45,46]),(19,[2])],[],Tryz.func81,rfl,Tryz.ntmps81,by kernel_rfl,by kernel_rfl⟩
noncomputable def k82:=aF Tryz.call82 Tryz.func82 Tryz.ntmps82 [(0,0,1)] [(0,[1]),(1,[5]),(2,[2]),(3,[2])] []
noncomputable def k83:=aF Tryz.call83 Tryz.func83 Tryz.ntmps83 [(0,0,1),(0,1,1)] [(0,[2,3]),(1,[2,3,22]),(2,[4]),(3,[2,3,5]),(4,[2,3,5,27]),(5,[2,3,5]),(6,[2,3,5,59]),(7,[4]),(8,[2,3,5,6]),(9,[2,3,5,6,62]),(10,[2,3,5,6]),(11,[2,3,5,6,88]),(12,[4]),(13,[4])] [(11,(.take 0 true (.take 1 true (.take 2 true (.take 3 true (.take 4 true (.take 5 true (.take 6 true (.take 7 true (.take 8 true (.take 9 true (.take 10 true (.take 11 true (.take 12 true (.take 13 true (.take 14 true (.take 15 true (.take 16 true (.take 17 true (.take 18 true (.take 19 true (.take 20 true (.take 21 true (.take 22 true (.take 23 true .done)))))))))))))))))))))))))]
noncomputable def k89:=aF Tryz.call89 Tryz.func89 Tryz.ntmps89 [(0,0,1),(0,1,1)] [(0,[2,3]),(1,[4])] []
noncomputable def k92:=aF Tryz.call92 Tryz.func92 Tryz.ntmps92 [(0,0,1),(1,1,1000),(6,2,1000),(7,6,2000),(10,2,1000),(11,6,2000),(19,0,1),(19,4,1)] [(0,[1]),(1,[1,3]),(2,[1,3,4]),(3,[1,3,4]),(4,[1,3,4,14,15,16]),(5,[1,3,4,14,15,16,17]),(6,[1,3,4,6,14,15,16]),(7,[1,3,4,6,14,15,16]),(8,[1,3,4,14,15,16,28,29,30]),(9,[1,3,4,14,15,16,28,29,30,31]),(10,[1,3,4,8,14,15,16,28,29,30]),(11,[1,3,4,14,15,16,28,29,30]),(12,[1,3,4,14,15,16,28,29,30]),(13,[1,3,4,14,15,16]),(14,[1,3,9]),(15,[3,9,46,47]),(16,[3,9,46,47,48]),(17,[3,9,10,46,47]),(18,[3,9,10,46,47,52]),(19,[3,9,46,47]),(20,[3,9,46,47]),(21,[2])] []
noncomputable def bD:iT:=SR Tryz.f93 1 [(0,0,1),(0,1,1),(2,0,1000),(6,5,1000)] [(0,[2,3,4,5]),(1,[2,3,4,5,14]),(2,[2,3,4,5,6]),(3,[2,3,4,5,6,18]),(4,[2,3,4,5,6,21]),(5,[2,3,4,5,6,7]),(6,[2,4,5,8]),(7,[4,5,8,38]),(8,[]),(9,[4,5])] []
noncomputable def Lz:IR:=(.region [⟨none,some 7,(.set (.t 22) false)⟩] (.some [2,3,4,5,6,7]))
noncomputable def LA:IR:=(.block 3 (.seq (.region [⟨none,some 23,(.load (.some 3) (.t 2))⟩,⟨none,some 24,(.load .none (.t 3))⟩,⟨none,some 25,(.load .none (.t 6))⟩,⟨none,some 26,(.set (.t 7) false)⟩,⟨none,some 27,(.call (.c (.fn (.func 112) [] [])) [(.t 23),(.t 24),(.t 25),(.t 26)] .none)⟩,⟨none,some 8,(.sg 2 (.t 27))⟩] (.some [2,4,5,8])) (.seq (.region [⟨none,some 28,(.fieldAddr 0 (.some 2) (.t 2))⟩,⟨none,some 29,(.load (.some 2) (.t 28))⟩,⟨none,some 30,(.load (.some 2) (.t 8))⟩,⟨none,some 31,(.call (.c (.fn (.func 24) [] [])) [(.t 29),(.t 30)] .none)⟩,⟨none,some 32,(.bin .eql (.t 31) (.c (.int .i64 0)))⟩,⟨none,some 33,(.set (.t 32) false)⟩,⟨some (33,true),some 34,(.load (.some 3) (.t 2))⟩,⟨some (33,true),some 35,(.load (.some 2) (.t 8))⟩,⟨some (33,true),some 36,(.call (.c (.fn (.func 89) [] [])) [(.t 34),(.t 35)] .none)⟩,⟨some (33,true),some 37,(.bin .lss (.t 36) (.c (.int .i64 0)))⟩,⟨none,some 38,(.pick (.t 33) (.t 37) (.c (.bool false)))⟩] (.some [4,5,8,38])) (.cond (.t 38) (.seq (.region [⟨none,some 39,(.load (.some 2) (.t 8))⟩,⟨none,none,(.store 2 (.t 4) (.t 39))⟩,⟨none,none,(.store 1 (.t 5) (.c (.bool true)))⟩] (.some [])) .ret) .skip))))
theorem Uv:comp Tryz.prog bD.an bD.lv bD.pl bD.n bD.as=some Lz:=by kernel_rfl
theorem Uw:comp Tryz.prog bD.an bD.lv bD.pl bD.n bD.bd=some LA:=by kernel_rfl
noncomputable def ba:iT:=SR Tryz.f93 0 [(0,0,1),(0,1,1),(2,0,1000),(6,5,1000)] [(0,[2,3,4,5]),(1,[2,3,4,5,14]),(2,[2,3,4,5,6]),(3,[2,3,4,5,6,18]),(4,[2,3,4,5,6,21]),(5,[2,3,4,5,6,7]),(6,[2,4,5,8]),(7,[4,5,8,38]),(8,[]),(9,[4,5])] []
noncomputable def LB:IR:=(.region [⟨none,some 6,(.sg 1 (.t 15))⟩] (.some [2,3,4,5,6]))
noncomputable def LC:IR:=(.block 1 (.seq (.seq (.region [⟨none,some 16,(.load .none (.t 6))⟩,⟨none,some 17,(.call (.c (.fn (.func 167) [] [])) [(.t 16)] .none)⟩,⟨none,some 18,(.un .not (.t 17))⟩] (.some [2,3,4,5,6,18])) (.cond (.t 18) (.exit 1) .skip)) (.seq (.region [⟨none,some 19,(.load .none (.t 3))⟩,⟨none,some 20,(.len 1 (.t 19))⟩,⟨none,some 21,(.call (.c (.fn (.func 166) [] [])) [(.t 20),(.c (.int .i64 1)),(.c (.int .i64 3))] .none)⟩] (.some [2,3,4,5,6,21])) (.block 2 (.jk (.t 21) bD)))))
theorem Ux:comp Tryz.prog ba.an ba.lv ba.pl ba.n ba.as=some LB:=by kernel_rfl
theorem Uy:comp Tryz.prog ba.an ba.lv ba.pl ba.n ba.bd=some LC:=by kernel_rfl
noncomputable def W8:IR:=(.seq (.region [⟨none,some 2,(.l7 (.t 0))⟩,⟨none,some 3,(.l7 (.t 1))⟩,⟨none,some 4,(.alloc (.agg [.ah,.ah]))⟩,⟨none,some 5,(.alloc (.bool false))⟩] (.some [2,3,4,5])) (.seq (.seq (.region [⟨none,some 9,(.load .none (.t 3))⟩,⟨none,some 10,(.len 1 (.t 9))⟩,⟨none,some 11,(.load .none (.t 3))⟩,⟨none,some 12,(.len 1 (.t 11))⟩,⟨none,some 13,(.bin .sub (.t 12) (.c (.int .i64 1)))⟩,⟨none,some 14,(.call (.c (.fn (.func 166) [] [])) [(.t 10),(.c (.int .i64 0)),(.t 13)] .none)⟩] (.some [2,3,4,5,14])) (.block 0 (.jk (.t 14) ba))) (.seq (.region [⟨none,some 40,(.build (.agg [.ah,.ah]) [])⟩,⟨none,none,(.store 2 (.t 4) (.t 40))⟩,⟨none,none,(.store 1 (.t 5) (.c (.bool false)))⟩] (.some [4,5])) .ret)))
noncomputable def W9:rc:=⟨41,W8,[(.c 4 (.some 2)),(.c 5 .none)]⟩
theorem abX:iU Tryz.prog 93 W9:=⟨Tryz.call93,Tryz.f93,_,[(0,0,1),(0,1,1),(2,0,1000),(6,5,1000)],[(0,[2,3,4,5]),(1,[2,3,4,5,14]),(2,[2,3,4,5,6]),(3,[2,3,4,5,6,18]),(4,[2,3,4,5,6,21]),(5,[2,3,4,5,6,7]),(6,[2,4,5,8]),(7,[4,5,8,38]),(8,[]),(9,[4,5])],[],Tryz.func93,rfl,Tryz.ntmps93,by kernel_rfl,by kernel_rfl⟩
end Go.aL
end
section
set_option maxRecDepth 100000
set_option maxHeartbeats 0
namespace Go.aL
open Go Go.Proofs
noncomputable def Dn:=aF Tryz.call100 Tryz.func100 Tryz.ntmps100 [(4,5,2000)] [(0,[0,1]),(1,[0,1,7,8]),(2,[0,1,7,8,9]),(3,[0,1,5,7,8]),(4,[0,1,5,7,8,16]),(5,[4]),(6,[0,1,7,8]),(7,[4])] []
noncomputable def Xa:=aF Tryz.call101 Tryz.func101 Tryz.ntmps101 [(0,0,1),(1,2,2000)] [(0,[1,2,3]),(1,[4])] []
noncomputable def Dp:=aF Tryz.call102 Tryz.func102 Tryz.ntmps102 [(1,2,2000)] [(0,[0,1]),(1,[4])] []
noncomputable def Xb:=aF Tryz.call103 Tryz.func103 Tryz.ntmps103 [(1,3,2000)] [(0,[0,1,2]),(1,[4])] []
noncomputable def Xc:=aF Tryz.call107 Tryz.func107 Tryz.ntmps107 [(0,0,1)] [(0,[1,2]),(1,[3])] []
noncomputable def Pv:=aF Tryz.call108 Tryz.func108 Tryz.ntmps108 [(0,0,1),(2,1,2000)] [(0,[1]),(1,[1,3]),(2,[1,3]),(3,[2])] []
noncomputable def Xd:=aF Tryz.call109 Tryz.func109 Tryz.ntmps109 [(4,2,1000)] [(0,[0]),(1,[0,3]),(2,[3,6,7,8]),(3,[3,6,7,8,9]),(4,[3,5,6,7,8]),(5,[3,5,6,7,8,14]),(6,[3,5,6,7,8]),(7,[3,6,7,8]),(8,[3,6,7,8]),(9,[2])] []
noncomputable def Xe:=aF Tryz.call111 Tryz.func111 Tryz.ntmps111 [] [(0,[0,1]),(1,[0,1,7,8]),(2,[0,1,7,8,9]),(3,[0,1,5,7,8]),(4,[0,1,5,7,8,16]),(5,[4]),(6,[0,1,7,8]),(7,[4])] []
noncomputable def Xf:=aF Tryz.call113 Tryz.func113 Tryz.ntmps113 [] [(0,[0,1]),(1,[0,1,10]),(2,[0,1]),(3,[0,5,6]),(4,[0,6,26]),(5,[0,6]),(6,[0,7]),(7,[7,8]),(8,[7,8,37]),(9,[7,8]),(10,[4])] [(9,(.take 1 true (.take 2 true (.take 3 true (.take 4 true (.take 5 true (.take 6 true (.take 0 false (.br 7 (.take 8 true (.take 9 true .done)) .nil)))))))))]
noncomputable def Dq:=aF Tryz.call114 Tryz.func114 Tryz.ntmps114 [(4,5,2000)] [(0,[0,1]),(1,[0,1,7,8]),(2,[0,1,7,8,9]),(3,[0,1,5,7,8]),(4,[0,1,5,7,8,16]),(5,[4]),(6,[0,1,7,8]),(7,[4])] []
noncomputable def Xg:=aF Tryz.call115 Tryz.func115 Tryz.ntmps115 [(0,0,1)] [(0,[1]),(1,[5]),(2,[2]),(3,[2])] []
noncomputable def Xh:=aF Tryz.call116 Tryz.func116 Tryz.ntmps116 [(0,0,1),(0,1,1)] [(0,[2,3]),(1,[2,3,31]),(2,[4]),(3,[2,3,5]),(4,[2,3,5,36]),(5,[2,3,5]),(6,[2,3,5,6]),(7,[2,3,5,47]),(8,[4]),(9,[4])] [(1,(.take 0 true (.take 1 true (.take 2 true (.take 3 true (.take 4 true (.take 5 true (.take 6 true (.take 7 true (.take 8 true (.take 9 true (.take 10 true (.take 11 true (.take 12 true (.take 13 true (.take 14 true (.take 15 true (.take 16 true (.take 17 true (.take 18 true (.take 19 true (.take 20 true (.take 21 true (.take 22 true (.take 23 true (.take 24 true .done)))))))))))))))))))))))))),(6,(.take 0 true (.take 1 true (.take 2 true (.take 3 true (.take 4 true (.take 5 true (.take 6 true (.take 7 true .done)))))))))]
noncomputable def Xi:=aF Tryz.call117 Tryz.func117 Tryz.ntmps117 [(0,0,1),(1,0,1),(1,5,1),(5,11,2000)] [(0,[1,2,3,4]),(1,[1,3,4]),(2,[1,3,14,15,16]),(3,[1,3,14,15,16,17]),(4,[1,3,6,7,14,15,16]),(5,[1,3,14,15,16]),(6,[1,3,14,15,16])] [(1,(.take 1 false (.take 2 false (.take 3 false (.br 0 (.br 4 (.br 5 .done .nil) .nil) .nil))))),(5,(.take 0 true (.take 1 true (.take 2 true (.take 3 true (.take 4 true (.take 5 true (.take 6 true (.take 7 true (.take 8 true (.take 9 true (.br 10 (.br 11 .done .nil) .nil))))))))))))]
noncomputable def Pw:=aF Tryz.call118 Tryz.func118 Tryz.ntmps118 [(3,0,1),(3,3,1)] [(0,[0]),(1,[0,4]),(2,[2]),(3,[2])] []
noncomputable def Xj:=aF Tryz.call119 Tryz.func119 Tryz.ntmps119 [] [(0,[1,2,4]),(1,[2,4,8,9,10]),(2,[2,4,8,9,10,11]),(3,[2,4,7,8,9,10]),(4,[2,4,7,8,9,10,22]),(5,[4,5]),(6,[2,4,8,9,10]),(7,[2,4,8,9,10]),(8,[4,5])] []
noncomputable def Xk:=aF Tryz.call120 Tryz.func120 Tryz.ntmps120 [(0,0,1)] [(0,[1,2]),(1,[2])] []
noncomputable def Py:=aF Tryz.call121 Tryz.func121 Tryz.ntmps121 [] [(0,[0]),(1,[4]),(2,[2]),(3,[2])] []
noncomputable def Xl:=aF Tryz.call122 Tryz.func122 Tryz.ntmps122 [(0,0,1),(2,1,2000)] [(0,[1]),(1,[1,4]),(2,[4]),(3,[4,7]),(4,[2,3]),(5,[2,3])] [(5,(.take 0 true (.take 1 true (.take 2 true (.take 3 true (.take 4 true (.take 5 true .done)))))))]
noncomputable def Xm:=aF Tryz.call123 Tryz.func123 Tryz.ntmps123 [(0,0,1),(12,2,1000),(13,2,2000),(13,6,1000),(16,1,1),(16,6,1)] [(0,[0,3,4]),(1,[0,3,4,13]),(2,[0,3,4]),(3,[0,3,4,33]),(4,[4,5]),(5,[4,5]),(6,[0,3,4]),(7,[0,3,4,55]),(8,[4,5]),(9,[0,3,4,6]),(10,[0,4,6,63,64,65]),(11,[0,4,6,63,64,65,66]),(12,[0,4,6,8,63,64,65]),(13,[0,4,6,9,10,63,64,65]),(14,[0,4,6,9,63,64,65,76]),(15,[4,5]),(16,[0,4,6,63,64,65]),(17,[0,4,6,63,64,65]),(18,[4,5])] [(2,(.take 0 true (.take 1 true (.take 2 true (.take 3 true (.take 4 true (.take 5 true (.take 6 true (.take 7 true (.take 8 true (.take 9 true (.take 10 true (.take 11 true (.take 12 true (.take 13 true (.take 14 true (.br 15 .done .nil))))))))))))))))),(5,(.take 0 true (.take 1 true (.take 2 true (.take 3 true (.take 4 true (.take 5 true (.take 6 true (.take 7 true (.take 8 true (.br 9 (.take 10 true .done) .nil)))))))))))]
noncomputable def Xn:=aF Tryz.call124 Tryz.func124 Tryz.ntmps124 [(0,0,1)] [(0,[1,2]),(1,[1,2,6]),(2,[2,3]),(3,[2,3])] []
noncomputable def Xo:=aF Tryz.call126 Tryz.func126 Tryz.ntmps126 [(0,0,1)] [(0,[1]),(1,[1,12]),(2,[2]),(3,[2])] []
noncomputable def Xp:=aF Tryz.call128 Tryz.func128 Tryz.ntmps128 [(4,5,2000)] [(0,[0,1]),(1,[0,1,7,8]),(2,[0,1,7,8,9]),(3,[0,1,5,7,8]),(4,[0,1,5,7,8,16]),(5,[4]),(6,[0,1,7,8]),(7,[4])] []
noncomputable def Xq:=aF Tryz.call129 Tryz.func129 Tryz.ntmps129 [(4,5,2000)] [(0,[0,1]),(1,[0,1,7,8]),(2,[0,1,7,8,9]),(3,[0,1,5,7,8]),(4,[0,1,5,7,8,16]),(5,[4]),(6,[0,1,7,8]),(7,[4])] []
noncomputable def Pz:=aF Tryz.call130 Tryz.func130 Tryz.ntmps130 [(0,0,1)] [(0,[1]),(1,[5]),(2,[2]),(3,[2])] []
noncomputable def Xr:=aF Tryz.call131 Tryz.func131 Tryz.ntmps131 [(0,0,1),(0,1,1)] [(0,[2,3]),(1,[2,3,29]),(2,[4]),(3,[4])] [(1,(.take 0 true (.take 1 true (.take 2 true (.take 3 true (.take 4 true (.take 5 true (.take 6 true (.take 7 true (.take 8 true (.take 9 true (.take 10 true (.take 11 true (.take 12 true (.take 13 true (.take 14 true (.take 15 true (.take 16 true (.take 17 true (.take 18 true (.take 19 true (.take 20 true (.take 21 true (.take 22 true (.take 23 true (.take 24 true .done))))))))))))))))))))))))))]
noncomputable def Xs:=aF Tryz.call133 Tryz.func133 Tryz.ntmps133 [(1,3,1000),(4,1,2000)] [(0,[0,1,2,3]),(1,[0,3,9]),(2,[0,3,9,10,11]),(3,[0,3,9,10,22]),(4,[0,9,10]),(5,[10]),(6,[8])] []
noncomputable def Xt:=aF Tryz.call134 Tryz.func134 Tryz.ntmps134 [(7,7,2000)] [(0,[0,1,2]),(1,[0,1,2,6]),(2,[0,1,2,17]),(3,[3]),(4,[0,1,2,18,19]),(5,[0,1,2,18,19,20]),(6,[0,1,2,7,8,18,19]),(7,[0,1,2,18,19,31]),(8,[3]),(9,[0,1,2,18,19]),(10,[3])] []
noncomputable def Xu:=aF Tryz.call135 Tryz.func135 Tryz.ntmps135 [(1,8,1000)] [(0,[0,1]),(1,[0,7]),(2,[0,7,18]),(3,[4,5,6]),(4,[4,5,6])] [(4,(.take 0 true (.take 1 true (.take 2 true (.take 3 true (.take 4 true (.take 5 true (.take 6 true (.take 7 true (.take 8 true (.take 9 true (.take 10 true (.take 11 true (.take 12 true (.take 13 true (.take 14 true (.take 15 true (.take 16 true (.take 17 true (.take 18 true (.take 19 true (.take 20 true .done))))))))))))))))))))))]
noncomputable def Xv:=aF Tryz.call136 Tryz.func136 Tryz.ntmps136 [] [(0,[0]),(1,[0])] []
noncomputable def Xw:=aF Tryz.call138 Tryz.func138 Tryz.ntmps138 [(9,3,2000)] [(0,[0,1,2]),(1,[0,1,2,4,5,6]),(2,[0,1,2,4,5,6,7,9]),(3,[0,1,2,4,5,6,7,9,34]),(4,[3]),(5,[0,4,5,7,10,11]),(6,[0,5,10,11,84]),(7,[3]),(8,[0,10,11,86]),(9,[12]),(10,[3]),(11,[3])] [(4,(.take 0 true (.take 1 true (.take 2 true (.take 3 true (.take 4 true (.take 5 true (.take 6 true (.take 7 true (.take 8 true (.take 9 true (.take 10 true (.take 11 true (.take 12 true (.take 13 true (.take 14 true (.take 15 true (.take 16 true (.take 17 true (.take 18 true (.take 19 true (.take 20 true (.take 21 true (.take 22 true (.take 23 true (.take 24 true .done)))))))))))))))))))))))))),(5,(.take 0 true (.take 1 true (.take 2 true (.take 3 true (.take 4 true (.take 5 true (.take 6 true (.take 7 true (.take 8 true (.take 9 true (.take 10 true (.take 11 true (.take 12 true (.take 13 true (.take 14 true (.take 15 true (.take 16 true (.take 17 true .done)))))))))))))))))))]
noncomputable def Xx:=aF Tryz.call140 Tryz.func140 Tryz.ntmps140 [(7,3,2000)] [(0,[0,1,2]),(1,[0,1,2,14]),(2,[6]),(3,[1,2,15,16,17]),(4,[1,2,15,16,17,18]),(5,[1,2,7,8,15,16,17]),(6,[1,2,8,9,15,16,17]),(7,[1,2,15,16,17,30]),(8,[6]),(9,[1,2,15,16,17]),(10,[6])] []
def Rq:IR:=(.seq (.region [⟨none,some 2,(.set (.c (.bool false)) false)⟩] (.some [0])) (.seq (.seq (.region [⟨none,some 4,(.set (.t 0) false)⟩,⟨none,some 5,(.len 0 (.t 4))⟩,⟨none,some 6,(.bin .lss (.t 5) (.c (.int .i64 1)))⟩,⟨none,some 7,(.set (.t 6) false)⟩,⟨some (7,false),some 8,(.set (.t 0) false)⟩,⟨some (7,false),some 9,(.len 0 (.t 8))⟩,⟨some (7,false),some 10,(.bin .gtr (.t 9) (.c (.int .i64 32)))⟩,⟨none,some 11,(.pick (.t 7) (.c (.bool true)) (.t 10))⟩] (.some [0,11])) (.cond (.t 11) (.seq (.region [⟨none,some 2,(.set (.c (.bool false)) false)⟩] (.some [2])) .ret) .skip)) (.seq (.seq (.region [⟨none,some 12,(.set (.t 0) false)⟩,⟨none,some 13,(.len 0 (.t 12))⟩,⟨none,some 14,(.set (.c (.int .i64 0)) false)⟩] (.some [0,13,14])) (.block 0 (.loop (.seq (.region [⟨none,some 15,(.bin .lss (.t 14) (.t 13))⟩] (.some [0,13,14,15])) (.seq (.cond (.t 15) .skip (.exit 0)) (.seq (.block 1 (.seq (.region [⟨none,some 16,(.set (.t 14) false)⟩,⟨none,some 3,(.set (.t 16) false)⟩] (.some [0,3,13,14])) (.seq (.region [⟨none,some 17,(.set (.t 0) false)⟩,⟨none,some 18,(.set (.t 3) false)⟩,⟨none,some 19,(.di (.t 17) (.t 18))⟩,⟨none,some 20,(.bin .lss (.t 19) (.c (.int .u8 33)))⟩,⟨none,some 21,(.set (.t 20) false)⟩,⟨some (21,false),some 22,(.set (.t 0) false)⟩,⟨some (21,false),some 23,(.set (.t 3) false)⟩,⟨some (21,false),some 24,(.di (.t 22) (.t 23))⟩,⟨some (21,false),some 25,(.bin .gtr (.t 24) (.c (.int .u8 126)))⟩,⟨none,some 26,(.pick (.t 21) (.c (.bool true)) (.t 25))⟩,⟨none,some 27,(.set (.t 26) false)⟩,⟨some (27,false),some 28,(.set (.t 0) false)⟩,⟨some (27,false),some 29,(.set (.t 3) false)⟩,⟨some (27,false),some 30,(.di (.t 28) (.t 29))⟩,⟨some (27,false),some 31,(.call (.c (.fn (.func 190) [] [])) [(.c (.str ⟨#[40,41,44]⟩)),(.t 30)] .none)⟩,⟨some (27,false),some 32,(.bin .geq (.t 31) (.c (.int .i64 0)))⟩,⟨none,some 33,(.pick (.t 27) (.c (.bool true)) (.t 32))⟩] (.some [0,13,14,33])) (.cond (.t 33) (.seq (.region [⟨none,some 2,(.set (.c (.bool false)) false)⟩] (.some [2])) .ret) .skip)))) (.region [⟨none,some 34,(.bin .add (.t 14) (.c (.int .i64 1)))⟩,⟨none,some 14,(.set (.t 34) false)⟩] (.some [0,13,14])))))))) (.seq (.region [⟨none,some 2,(.set (.c (.bool true)) false)⟩] (.some [2])) .ret))))
def LD:rc:=⟨35,Rq,[(.t 2)]⟩
theorem Rr:iU Tryz.prog 141 LD:=⟨Tryz.call141,Tryz.f141,_,[],[(0,[0]),(1,[0,11]),(2,[2]),(3,[0,13,14]),(4,[0,13,14,15]),(5,[0,3,13,14]),(6,[0,13,14,33]),(7,[2]),(8,[0,13,14]),(9,[2])],[],Tryz.func141,rfl,Tryz.ntmps141,by kernel_rfl,by kernel_rfl⟩
noncomputable def PD:=aF Tryz.call142 Tryz.func142 Tryz.ntmps142 [] [(0,[0,1]),(1,[4])] []
def Ru:IR:=(.seq (.region [⟨none,some 2,(.l7 (.t 0))⟩,⟨none,some 3,(.l7 (.t 1))⟩,⟨none,some 4,(.set (.c (.bool false)) false)⟩] (.some [2,3])) (.seq (.region [⟨none,some 7,(.fn (.func 192) [] [(.t 3)])⟩,⟨none,some 5,(.sg 1 (.t 7))⟩] (.some [2,5])) (.seq (.region [⟨none,some 8,(.fieldAddr 0 .none (.t 2))⟩,⟨none,some 9,(.load .none (.t 8))⟩,⟨none,some 10,(.call (.c (.fn (.func 193) [] [])) [(.t 9),(.c (.str ⟨#[95]⟩))] .none)⟩,⟨none,some 6,(.set (.t 10) false)⟩] (.some [2,5,6])) (.seq (.region [⟨none,some 11,(.fieldAddr 0 .none (.t 2))⟩,⟨none,some 12,(.load .none (.t 11))⟩,⟨none,some 13,(.call (.c (.fn (.func 141) [] [])) [(.t 12)] .none)⟩,⟨none,some 14,(.set (.t 13) false)⟩,⟨some (14,true),some 15,(.set (.t 6) false)⟩,⟨some (14,true),some 16,(.fieldAddr 0 .none (.t 2))⟩,⟨some (14,true),some 17,(.load .none (.t 16))⟩,⟨some (14,true),some 18,(.len 0 (.t 17))⟩,⟨some (14,true),some 19,(.bin .lss (.t 15) (.t 18))⟩,⟨none,some 20,(.pick (.t 14) (.t 19) (.c (.bool false)))⟩,⟨none,some 21,(.set (.t 20) false)⟩,⟨some (21,true),some 22,(.set (.t 6) false)⟩,⟨some (21,true),some 23,(.bin .eql (.t 22) (.c (.int .i64 0)))⟩,⟨some (21,true),some 24,(.set (.t 23) false)⟩,⟨some (24,false),some 25,(.set (.t 6) false)⟩,⟨some (24,false),some 26,(.fieldAddr 1 .none (.t 2))⟩,⟨some (24,false),some 27,(.load .none (.t 26))⟩,⟨some (24,false),some 28,(.len 1 (.t 27))⟩,⟨some (24,false),some 29,(.bin .eql (.t 25) (.t 28))⟩,⟨some (21,true),some 30,(.pick (.t 24) (.c (.bool true)) (.t 29))⟩,⟨none,some 31,(.pick (.t 21) (.t 30) (.c (.bool false)))⟩,⟨none,some 32,(.set (.t 31) false)⟩,⟨some (32,true),some 33,(.fieldAddr 1 .none (.t 2))⟩,⟨some (32,true),some 34,(.load .none (.t 33))⟩,⟨some (32,true),some 35,(.len 1 (.t 34))⟩,⟨some (32,true),some 36,(.bin .leq (.t 35) (.c (.int .i64 8)))⟩,⟨none,some 37,(.pick (.t 32) (.t 36) (.c (.bool false)))⟩,⟨none,some 38,(.set (.t 37) false)⟩,⟨some (38,true),some 39,(.load .none (.t 5))⟩,⟨some (38,true),some 40,(.fieldAddr 2 .none (.t 2))⟩,⟨some (38,true),some 41,(.load .none (.t 40))⟩,⟨some (38,true),some 42,(.call (.t 39) [(.t 41)] (.some 1999))⟩,⟨none,some 43,(.pick (.t 38) (.t 42) (.c (.bool false)))⟩,⟨none,some 44,(.set (.t 43) false)⟩,⟨some (44,true),some 45,(.fieldAddr 1 .none (.t 2))⟩,⟨some (44,true),some 46,(.load .none (.t 45))⟩,⟨some (44,true),some 47,(.fn (.func 194) [] [(.t 5)])⟩,⟨some (44,true),some 48,(.call (.c (.fn (.func 102) [] [])) [(.t 46),(.t 47)] (.some 1999))⟩,⟨some (44,true),some 49,(.un .not (.t 48))⟩,⟨none,some 50,(.pick (.t 44) (.t 49) (.c (.bool false)))⟩,⟨none,some 4,(.set (.t 50) false)⟩] (.some [4])) .ret))))
def LF:rc:=⟨51,Ru,[(.t 4)]⟩
theorem Rv:iU Tryz.prog 143 LF:=⟨Tryz.call143,Tryz.f143,_,[(0,0,1),(0,1,1),(1,1,1000),(3,31,2000),(3,37,2000)],[(0,[2,3]),(1,[2,5]),(2,[2,5,6]),(3,[4])],[],Tryz.func143,rfl,Tryz.ntmps143,by kernel_rfl,by kernel_rfl⟩
def Rw:IR:=(.seq (.region [⟨none,some 1,(.l7 (.t 0))⟩,⟨none,some 2,(.set (.c (.str ⟨#[]⟩)) false)⟩] (.some [1])) (.seq (.region [⟨none,some 6,(.fieldAddr 0 .none (.t 1))⟩,⟨none,some 7,(.load .none (.t 6))⟩,⟨none,some 8,(.bin .add (.t 7) (.c (.str ⟨#[40]⟩)))⟩,⟨none,some 9,(.bytesOf (.t 8))⟩,⟨none,some 3,(.set (.t 9) true)⟩] (.some [1,3])) (.seq (.seq (.draw (.take .true ⟨none,some 10,(.fieldAddr 1 .none (.t 1))⟩ (.take .true ⟨none,some 11,(.load .none (.t 10))⟩ (.take .true ⟨none,some 12,(.call (.c (.fn (.func 118) [] [])) [(.t 11)] .none)⟩ (.take .true ⟨none,some 13,(.fieldAddr 2 .none (.t 1))⟩ (.take .true ⟨none,some 14,(.load .none (.t 13))⟩ (.take .true ⟨none,some 15,(.buildSlice 0 1 (.int .i64 0) 1 [(0,(.t 14))])⟩ (.take .true ⟨none,some 18,(.set (.c (.int .i64 0)) false)⟩ (.br ⟨none,some 16,(.append 1 8 (.t 12) (.t 15))⟩ (.take .true ⟨none,some 17,(.len 1 (.t 16))⟩ .done) .nil)))))))) (.some [3,16,17,18])) (.block 0 (.loop (.seq (.region [⟨none,some 19,(.bin .lss (.t 18) (.t 17))⟩] (.some [3,16,17,18,19])) (.seq (.cond (.t 19) .skip (.exit 0)) (.seq (.block 1 (.seq (.region [⟨none,some 20,(.indexAddr 1 (.t 16) (.t 18))⟩,⟨none,some 21,(.load .none (.t 20))⟩,⟨none,some 5,(.set (.t 21) false)⟩] (.some [3,5,16,17,18])) (.region [⟨none,some 22,(.set (.t 3) true)⟩,⟨none,some 23,(.set (.t 5) false)⟩,⟨none,some 24,(.eU .u8 (.t 23))⟩,⟨none,some 25,(.buildSlice 0 1 (.int .u8 0) 1 [(0,(.t 24))])⟩,⟨none,some 26,(.append 1 1 (.t 22) (.t 25))⟩,⟨none,some 3,(.set (.t 26) true)⟩] (.some [3,16,17,18])))) (.region [⟨none,some 27,(.bin .add (.t 18) (.c (.int .i64 1)))⟩,⟨none,some 18,(.set (.t 27) false)⟩] (.some [3,16,17,18])))))))) (.seq (.region [⟨none,some 28,(.set (.t 3) false)⟩,⟨none,some 29,(.strOf (.t 28))⟩,⟨none,some 2,(.set (.t 29) false)⟩] (.some [2])) .ret))))
def LG:rc:=⟨30,Rw,[(.t 2)]⟩
theorem Rx:iU Tryz.prog 144 LG:=⟨Tryz.call144,Tryz.f144,_,[(0,0,1),(1,4,1),(5,0,1),(5,5,1)],[(0,[1]),(1,[1,3]),(2,[3,16,17,18]),(3,[3,16,17,18,19]),(4,[3,5,16,17,18]),(5,[3,16,17,18]),(6,[3,16,17,18]),(7,[2])],[(2,(.take 0 true (.take 1 true (.take 2 true (.take 3 true (.take 4 true (.take 5 true (.take 8 true (.br 6 (.take 7 true .done) .nil)))))))))],Tryz.func144,rfl,Tryz.ntmps144,by kernel_rfl,by kernel_rfl⟩
noncomputable def Xy:=aF Tryz.call145 Tryz.func145 Tryz.ntmps145 [(0,0,1)] [(0,[1]),(1,[1,16]),(2,[2]),(3,[1,3]),(4,[1,3,21]),(5,[1,3]),(6,[1,3,39]),(7,[2]),(8,[1,3,4]),(9,[1,3,4,42]),(10,[1,3,4]),(11,[1,3,4,55]),(12,[2]),(13,[1,5]),(14,[1,5,60]),(15,[1,5]),(16,[1,5,70]),(17,[2]),(18,[1,5,6]),(19,[1,5,6,73]),(20,[1,5,6]),(21,[1,5,6,118]),(22,[2]),(23,[2])] [(11,(.take 0 true (.take 1 true (.take 2 true (.take 3 true (.take 4 true (.take 5 true (.take 6 true (.take 7 true (.take 8 true (.take 9 true (.take 10 true .done)))))))))))),(16,(.take 0 true (.take 1 true (.take 2 true (.take 3 true (.take 4 true (.take 5 true (.take 6 true (.take 7 true .done))))))))),(21,(.take 0 true (.take 1 true (.take 2 true (.take 3 true (.take 4 true (.take 5 true (.take 6 true (.take 7 true (.take 8 true (.take 9 true (.take 10 true (.take 11 true (.take 12 true (.take 13 true (.take 14 true (.take 15 true (.take 16 true (.take 17 true (.take 18 true (.take 19 true (.take 20 true (.take 21 true (.take 22 true (.take 23 true (.take 24 true (.take 25 true (.take 26 true (.take 27 true (.take 28 true (.take 29 true (.take 30 true (.take 31 true (.take 32 true (.take 33 true (.take 34 true (.take 35 true (.take 36 true (.take 37 true (.take 38 true (.take 39 true (.take 40 true (.take 41 true (.take 42 true .done))))))))))))))))))))))))))))))))))))))))))))]
noncomputable def Xz:=aF Tryz.call147 Tryz.func147 Tryz.ntmps147 [(1,3,2000),(1,8,2000)] [(0,[0,1,2]),(1,[4])] []
noncomputable def XA:=aF Tryz.call148 Tryz.func148 Tryz.ntmps148 [(1,9,2000)] [(0,[0,1,2,3,4]),(1,[6])] [(1,(.take 0 true (.take 1 true (.take 2 true (.take 3 true (.take 4 true (.take 5 true (.take 6 true (.take 7 true (.take 8 true (.br 9 (.take 10 true .done) .nil)))))))))))]
noncomputable def XB:=aF Tryz.call150 Tryz.func150 Tryz.ntmps150 [(2,20,2000)] [(0,[0,1,2]),(1,[0,1,2,7]),(2,[0,1,2,7,29]),(3,[0,1,2,7]),(4,[6])] [(2,(.take 0 true (.take 1 true (.take 2 true (.take 3 true (.take 4 true (.take 5 true (.take 6 true (.take 7 true (.take 8 true (.take 9 true (.take 10 true (.take 11 true (.take 12 true (.take 13 true (.take 14 true (.take 15 true (.take 16 true (.take 17 true (.take 18 true (.take 19 true (.br 20 (.take 21 true .done) .nil))))))))))))))))))))))]
noncomputable def XC:=aF Tryz.call151 Tryz.func151 Tryz.ntmps151 [(0,0,1),(1,11,2000)] [(0,[1,2,3,4]),(1,[5])] []
noncomputable def XD:=aF Tryz.call152 Tryz.func152 Tryz.ntmps152 [] [(0,[0]),(1,[2])] []
noncomputable def XE:=aF Tryz.call153 Tryz.func153 Tryz.ntmps153 [(0,0,1)] [(0,[1]),(1,[2])] []
noncomputable def XF:=aF Tryz.call154 Tryz.func154 Tryz.ntmps154 [(1,10,2000)] [(0,[0,1,2,3,4]),(1,[6])] [(1,(.take 0 true (.take 1 true (.take 2 true (.take 3 true (.take 4 true (.take 5 true (.take 6 true (.take 7 true (.take 8 true (.take 9 true (.br 10 (.take 11 true (.take 12 true .done)) .nil))))))))))))]
noncomputable def XG:=aF Tryz.call155 Tryz.func155 Tryz.ntmps155 [] [(0,[0,1,2]),(1,[0,2,8,9,10]),(2,[8,9,10,11,13]),(3,[6,7])] []
noncomputable def XH:=aF Tryz.call156 Tryz.func156 Tryz.ntmps156 [(0,0,1),(10,5,1000),(13,9,2000),(15,10,2000)] [(0,[0,1,2,7]),(1,[0,1,2,7,29]),(2,[8]),(3,[0,1,2,7,9,10]),(4,[0,1,2,7,9,10,37,38,39]),(5,[0,1,2,7,9,10,37,38,39,40]),(6,[0,1,2,7,9,10,11,12,37,38,39]),(7,[0,1,2,7,9,10,11,12,37,38,39,51]),(8,[8]),(9,[0,1,2,7,9,10,11,12,37,38,39]),(10,[0,1,2,7,9,10,11,12,13,37,38,39]),(11,[0,1,2,7,9,10,11,12,13,37,38,39,80]),(12,[0,1,2,7,9,10,11,12,37,38,39]),(13,[0,1,2,7,9,10,37,38,39,97]),(14,[8]),(15,[0,1,2,7,9,10,37,38,39,109]),(16,[8]),(17,[0,1,2,7,9,10,37,38,39]),(18,[1,9,10,14]),(19,[9,10,14,112,113]),(20,[9,10,14,112,113,114]),(21,[9,10,14,15,112,113]),(22,[9,10,14,15,112,113,127]),(23,[8]),(24,[9,10,14,112,113]),(25,[9,10,14,112,113]),(26,[8])] [(3,(.take 0 false (.take 1 false (.take 3 false (.take 4 false (.br 2 (.take 6 false (.br 5 (.take 7 true .done) .nil)) (.br 5 (.br 2 (.take 6 true (.take 7 true .done)) .nil) .nil))))))),(13,(.take 0 true (.take 1 true (.take 2 true (.take 3 true (.take 4 true (.take 5 true (.take 6 true (.take 7 true (.take 8 true (.br 9 (.take 10 true .done) .nil))))))))))),(15,(.take 0 true (.take 1 true (.take 2 true (.take 3 true (.take 4 true (.take 5 true (.take 6 true (.take 7 true (.take 8 true (.take 9 true (.br 10 (.take 11 true .done) .nil))))))))))))]
noncomputable def PE:=aF Tryz.call161 Tryz.func161 Tryz.ntmps161 [(4,5,2000)] [(0,[0,1]),(1,[0,1,7,8]),(2,[0,1,7,8,9]),(3,[0,1,5,7,8]),(4,[0,1,5,7,8,16]),(5,[4]),(6,[0,1,7,8]),(7,[4])] []
noncomputable def XI:=aF Tryz.call162 Tryz.func162 Tryz.ntmps162 [(0,0,1)] [(0,[1,2]),(1,[3])] []
noncomputable def XJ:=aF Tryz.call165 Tryz.func165 Tryz.ntmps165 [(2,2,1000),(5,3,2000)] [(0,[1,2,6,7,8]),(1,[1,2,6,7,8,9]),(2,[1,2,5,6,7,8]),(3,[1,2,5,6,7,8,14]),(4,[1,2,5,6,7,8]),(5,[1,2,6,7,8]),(6,[1,2,6,7,8])] []
noncomputable def XK:=aF Tryz.call166 Tryz.func166 Tryz.ntmps166 [(0,0,1),(0,1,1),(0,2,1)] [(0,[3,4,5]),(1,[6])] []
noncomputable def XL:=aF Tryz.call167 Tryz.func167 Tryz.ntmps167 [(1,0,1)] [(0,[0]),(1,[0,8,9]),(2,[0,8,9,10]),(3,[0,3,8,9]),(4,[0,8,9,15]),(5,[2]),(6,[0,8,9]),(7,[2])] []
noncomputable def PF:=aF Tryz.call171 Tryz.func171 Tryz.ntmps171 [(0,0,1),(5,2,1000),(7,4,2000)] [(0,[0,2,4]),(1,[0,2,4]),(2,[0,2,4]),(3,[0,2,25,26,27]),(4,[0,2,25,26,27,28]),(5,[0,2,7,25,26,27]),(6,[0,2,7,25,26,27,42]),(7,[0,2,25,26,27]),(8,[0,2,25,26,27])] []
noncomputable def PG:=aF Tryz.call172 Tryz.func172 Tryz.ntmps172 [] [(0,[0]),(1,[2])] []
noncomputable def PH:=aF Tryz.call173 Tryz.func173 Tryz.ntmps173 [(0,0,1)] [(0,[1]),(1,[1,3]),(2,[1,3]),(3,[1,3]),(4,[1,3]),(5,[2]),(6,[2])] []
noncomputable def XM:=aF Tryz.call174 Tryz.func174 Tryz.ntmps174 [] [(0,[0,1]),(1,[6,7]),(2,[4,5]),(3,[8,9]),(4,[4,5])] []
noncomputable def XN:=aF Tryz.call175 Tryz.func175 Tryz.ntmps175 [(0,0,1)] [(0,[1]),(1,[1,4]),(2,[2])] []
noncomputable def XO:=aF Tryz.call176 Tryz.func176 Tryz.ntmps176 [(0,0,1),(2,3,2000),(6,2,1000),(7,1,1),(7,4,2000),(7,8,1)] [(0,[1,2,4]),(1,[1,2,4,10]),(2,[4]),(3,[1,2,4,5]),(4,[1,4,5,21,22,23]),(5,[1,4,5,21,22,23,24]),(6,[1,4,5,7,21,22,23]),(7,[1,4,5,21,22,23]),(8,[1,4,5,21,22,23]),(9,[4])] [(7,(.take 0 false (.take 2 false (.take 3 false (.br 1 (.br 4 (.take 5 true (.br 6 (.take 7 true (.br 8 .done .nil)) .nil)) .nil) (.br 4 (.take 5 false (.br 1 (.br 6 (.take 7 true (.br 8 .done .nil)) .nil) .nil)) .nil))))))]
noncomputable def XP:=aF Tryz.call177 Tryz.func177 Tryz.ntmps177 [] [(0,[0,2]),(1,[2])] []
noncomputable def PI:=aF Tryz.call178 Tryz.func178 Tryz.ntmps178 [(0,0,1)] [(0,[1]),(1,[2])] []
noncomputable def XQ:=aF Tryz.call179 Tryz.func179 Tryz.ntmps179 [(1,2,2000)] [(0,[0,1]),(1,[4])] []
noncomputable def XR:=aF Tryz.call180 Tryz.func180 Tryz.ntmps180 [(0,0,1)] [(0,[1,2]),(1,[3])] []
noncomputable def XS:=aF Tryz.call181 Tryz.func181 Tryz.ntmps181 [(0,0,1),(0,1,1),(7,5,2000),(14,2,1),(14,3,1),(17,2,1000),(18,5,2000),(20,0,1),(20,7,1),(24,2,1000)] [(0,[2,3]),(1,[2,3,31]),(2,[4]),(3,[2,3,35]),(4,[4]),(5,[2,3,5]),(6,[3,5,6]),(7,[3,5,6,44]),(8,[4]),(9,[3,5,6,48,49,50]),(10,[3,5,6,48,49,50,51]),(11,[3,5,6,8,48,49,50]),(12,[3,5,6,48,49,50]),(13,[3,5,6,48,49,50]),(14,[3,5,6,9]),(15,[5,6,9,61,62,63]),(16,[5,6,9,61,62,63,64]),(17,[5,6,9,11,61,62,63]),(18,[5,6,9,11,61,62,63,73]),(19,[4]),(20,[5,6,9,61,62,63]),(21,[5,6,9,61,62,63]),(22,[5,82,83,84]),(23,[5,82,83,84,85]),(24,[5,13,82,83,84]),(25,[5,82,83,84,90,91,92]),(26,[5,82,83,84,90,91,92,93]),(27,[5,15,82,83,84,90,91,92]),(28,[5,82,83,84,90,91,92,99]),(29,[4]),(30,[5,82,83,84,90,91,92]),(31,[5,82,83,84]),(32,[4])] []
noncomputable def XT:=aF Tryz.call182 Tryz.func182 Tryz.ntmps182 [(0,0,1)] [(0,[1,2]),(1,[3])] []
noncomputable def XU:=aF Tryz.call183 Tryz.func183 Tryz.ntmps183 [(0,0,1),(0,1,1),(1,9,2000)] [(0,[1,3,5]),(1,[6])] []
noncomputable def XV:=aF Tryz.call184 Tryz.func184 Tryz.ntmps184 [] [(0,[0,1,2]),(1,[0,1,2,7]),(2,[0,1,2,7,10,12]),(3,[6])] []
noncomputable def PJ:=aF Tryz.call190 Tryz.func190 Tryz.ntmps190 [] [(0,[0,1]),(1,[4])] []
noncomputable def PK:=aF Tryz.call191 Tryz.func191 Tryz.ntmps191 [] [(0,[0,1]),(1,[4])] []
noncomputable def PL:=aF Tryz.call192 Tryz.func192 Tryz.ntmps192 [] [(0,[0,1]),(1,[3])] []
noncomputable def PM:=aF Tryz.call193 Tryz.func193 Tryz.ntmps193 [] [(0,[0,1]),(1,[0,1,9]),(2,[4]),(3,[0,1,15]),(4,[4]),(5,[0,1,5]),(6,[0,1,5,6]),(7,[0,1,5,6,24]),(8,[4]),(9,[0,1,5,6]),(10,[0,1,5])] []
noncomputable def PN:=aF Tryz.call194 Tryz.func194 Tryz.ntmps194 [(1,2,2000)] [(0,[0,1]),(1,[3])] []
end Go.aL
end
section
set_option maxRecDepth 100000
set_option maxHeartbeats 0
namespace Go.aL
open Go Go.Proofs
noncomputable def XW:=aF Tryz.call195 Tryz.func195 Tryz.ntmps195 [] [(0,[0]),(1,[0,3]),(2,[0,3,7]),(3,[0,3]),(4,[0,3,37]),(5,[2]),(6,[2])] []
noncomputable def XX:=aF Tryz.call196 Tryz.func196 Tryz.ntmps196 [] [(0,[0]),(1,[0,3]),(2,[0,3,4]),(3,[0,3,4,8]),(4,[0,3,4]),(5,[0,3,4,14]),(6,[0,3,4]),(7,[2])] []
noncomputable def XZ:=aF Tryz.call197 Tryz.func197 Tryz.ntmps197 [(0,0,1),(0,1,1)] [(0,[2,3]),(1,[2,3,5]),(2,[2,3,30]),(3,[4]),(4,[4])] []
noncomputable def X0:=aF Tryz.call198 Tryz.func198 Tryz.ntmps198 [] [(0,[0,1]),(1,[0,1,10]),(2,[4]),(3,[0,1,5]),(4,[0,1,5,14]),(5,[0,1,5]),(6,[0,1,5,25]),(7,[4]),(8,[4])] [(6,(.take 0 true (.take 1 true (.take 2 true (.take 3 true (.take 4 true (.take 5 true (.take 6 true (.take 7 true (.take 8 true .done))))))))))]
noncomputable def cc:iT:=SR Tryz.f200 0 [(3,0,1),(3,4,1)] [(0,[1,2]),(1,[2,6]),(2,[2,5]),(3,[]),(4,[4])] []
noncomputable def He:IR:=(.region [⟨none,some 5,(.set (.t 7) false)⟩] (.some [2,5]))
noncomputable def Hf:IR:=(.block 1 (.region [⟨none,some 8,(.eH (.t 2))⟩,⟨none,some 9,(.set (.t 5) false)⟩,⟨none,some 10,(.buildSlice 0 1 (.int .i64 0) 1 [(0,(.t 9))])⟩,⟨none,some 11,(.append 1 8 (.t 8) (.t 10))⟩,⟨none,none,(.fw (.t 2) 11)⟩] (.some [])))
theorem PO:comp Tryz.prog cc.an cc.lv cc.pl cc.n cc.as=some He:=by kernel_rfl
theorem PR:comp Tryz.prog cc.an cc.lv cc.pl cc.n cc.bd=some Hf:=by kernel_rfl
noncomputable def Ry:IR:=(.seq (.region [⟨none,some 2,(.box (.t 0))⟩,⟨none,some 4,(.set (.c .ah) false)⟩] (.some [1,2])) (.seq (.seq (.region [⟨none,some 6,(.set (.t 1) false)⟩] (.some [2,6])) (.block 0 (.jk (.t 6) cc))) (.seq (.region [⟨none,some 12,(.load .none (.t 2))⟩,⟨none,some 4,(.set (.t 12) false)⟩] (.some [4])) .ret)))
noncomputable def Rz:rc:=⟨13,Ry,[(.t 4)]⟩
theorem X1:iU Tryz.prog 200 Rz:=⟨Tryz.call200,Tryz.f200,_,[(3,0,1),(3,4,1)],[(0,[1,2]),(1,[2,6]),(2,[2,5]),(3,[]),(4,[4])],[],Tryz.func200,rfl,Tryz.ntmps200,by kernel_rfl,by kernel_rfl⟩
noncomputable def X2:=aF Tryz.call201 Tryz.func201 Tryz.ntmps201 [(1,6,2000)] [(0,[0,1,3]),(1,[0,1,3,11]),(2,[0,1,3])] []
noncomputable def X3:=aF Tryz.call204 Tryz.func204 Tryz.ntmps204 [(0,0,1),(0,1,1),(1,2,2000)] [(0,[2,3,4]),(1,[6])] []
noncomputable def X4:=aF Tryz.call205 Tryz.func205 Tryz.ntmps205 [(0,0,1),(3,1,2000)] [(0,[1,2,3,4]),(1,[1,2,3,4,5]),(2,[5]),(3,[])] []
noncomputable def PT:=aF Tryz.call206 Tryz.func206 Tryz.ntmps206 [(2,2,2000),(6,6,2000)] [(0,[0,1,2,3,4,5]),(1,[0,2,3,4,5,12]),(2,[7]),(3,[0,4,5,8]),(4,[0,4,5,8,19]),(5,[0,4,5,8]),(6,[0,4,5,8,29]),(7,[7]),(8,[7])] [(6,(.take 1 true (.take 2 true (.take 0 true (.take 3 true (.take 4 true (.br 5 (.br 6 (.take 7 true .done) .nil) .nil)))))))]
noncomputable def X5:=aF Tryz.call207 Tryz.func207 Tryz.ntmps207 [] [(0,[0]),(1,[0,7]),(2,[0]),(3,[0,3]),(4,[0,3,4]),(5,[0,3,4,15]),(6,[0,3,4]),(7,[0,3,4]),(8,[2])] []
noncomputable def X6:=aF Tryz.call208 Tryz.func208 Tryz.ntmps208 [] [(0,[0,1]),(1,[4])] []
noncomputable def PU:=aF Tryz.call211 Tryz.func211 Tryz.ntmps211 [(0,0,1)] [(0,[1]),(1,[2])] []
noncomputable def X7:=aF Tryz.call213 Tryz.func213 Tryz.ntmps213 [] [(0,[0,1]),(1,[0,1,6]),(2,[0,1,6,7]),(3,[0,1,6,7,8]),(4,[0,1,6,7,8,9]),(5,[0,1,6,7,8,9,10]),(6,[0,1,6,7,9,11]),(7,[0,1,6,7,9,11,12]),(8,[0,1,6,7,9,12,13]),(9,[0,1,7,9,12,13]),(10,[0,1,4]),(11,[4,5])] []
noncomputable def X8:=aF Tryz.call214 Tryz.func214 Tryz.ntmps214 [(0,0,1)] [(0,[1,2,3]),(1,[1,2,3]),(2,[1,2,3,18]),(3,[6,7]),(4,[1,2,3,8]),(5,[1,2,3,8,24]),(6,[1,2,3,8]),(7,[2,3,8,9,10]),(8,[1,2,3,8,10]),(9,[1,2,3,8,41]),(10,[6,7]),(11,[6,7])] []
noncomputable def X9:=aF Tryz.call215 Tryz.func215 Tryz.ntmps215 [(0,0,1)] [(0,[1]),(1,[1,33]),(2,[2]),(3,[1,3]),(4,[1,3,38]),(5,[1,3]),(6,[1,3,47]),(7,[2]),(8,[2])] []
noncomputable def Ya:=aF Tryz.call216 Tryz.func216 Tryz.ntmps216 [] [(0,[0,1]),(1,[3])] []
noncomputable def Yb:=aF Tryz.call217 Tryz.func217 Tryz.ntmps217 [(0,0,1),(0,1,1)] [(0,[2,3,4,5]),(1,[2,3,4,5,18]),(2,[6]),(3,[2,3,5,7,8]),(4,[7,8,9,10]),(5,[6])] []
noncomputable def Yc:=aF Tryz.call218 Tryz.func218 Tryz.ntmps218 [(0,0,1),(0,1,1)] [(0,[1,3,5]),(1,[1,3,5,14]),(2,[1,5,19]),(3,[6,7]),(4,[6,7]),(5,[1,3,5,44]),(6,[6,7]),(7,[1,3,5,46,47,48]),(8,[1,3,5,46,47,48,49]),(9,[1,3,5,8,9,46,47,48]),(10,[1,3,5,8,10,11,46,47,48]),(11,[1,3,5,46,47,48,75]),(12,[6,7]),(13,[1,3,5,46,47,48]),(14,[6,7])] [(5,(.take 0 true (.take 1 true (.take 2 true (.take 3 true (.take 4 true (.take 5 true (.take 6 true (.take 7 true (.take 8 true (.take 9 true (.take 10 true (.take 11 true (.take 12 true (.take 13 true (.take 14 true (.take 15 true (.take 16 true (.take 17 true (.take 18 true (.take 19 true .done)))))))))))))))))))))]
noncomputable def Yd:=aF Tryz.call219 Tryz.func219 Tryz.ntmps219 [] [(0,[0]),(1,[0,5]),(2,[2]),(3,[2])] []
noncomputable def Ye:=aF Tryz.call220 Tryz.func220 Tryz.ntmps220 [(1,3,2000),(1,8,2000)] [(0,[0,1,2]),(1,[4])] []
noncomputable def Yf:=aF Tryz.call221 Tryz.func221 Tryz.ntmps221 [(0,0,1),(1,2,2000)] [(0,[1,2,3,4,5]),(1,[6])] []
noncomputable def Yg:=aF Tryz.call222 Tryz.func222 Tryz.ntmps222 [(1,9,2000)] [(0,[0,1,2,3,4]),(1,[6])] [(1,(.take 0 true (.take 1 true (.take 2 true (.take 3 true (.take 4 true (.take 5 true (.take 6 true (.take 7 true (.take 8 true (.br 9 (.take 10 true .done) .nil)))))))))))]
noncomputable def PV:=aF Tryz.call228 Tryz.func228 Tryz.ntmps228 [] [(0,[0,1]),(1,[4])] []
noncomputable def PW:=aF Tryz.call229 Tryz.func229 Tryz.ntmps229 [] [(0,[0,1]),(1,[0,1,5]),(2,[0,1,5,16]),(3,[4]),(4,[0,1,5,24]),(5,[4]),(6,[0,1,5,31]),(7,[4]),(8,[0,1,5,36]),(9,[4]),(10,[0,1,5,6]),(11,[0,1,5,6,7]),(12,[0,1,5,6,7,8]),(13,[0,1,5,6,7,8,9]),(14,[0,1,5,6,7,8,9,10]),(15,[0,1,5,6,7,8,9,10,59]),(16,[0,1,5,6,7,8,9,10,64]),(17,[0,1,5,6,7,8,9,10,11]),(18,[0,1,5,6,7,8,9,10,11,73]),(19,[4]),(20,[0,1,5,6,7,8,9,10]),(21,[0,1,5,6,7,8,9,10,93]),(22,[4]),(23,[0,1,5,6,7,8,9,10]),(24,[0,1,5,6,7,8,9,10]),(25,[0,1,5,6,7,8,9,10,107]),(26,[8,12]),(27,[8,12,114]),(28,[4]),(29,[4]),(30,[0,1,5,6,7,8,9,10,132]),(31,[8,13]),(32,[8,13,139]),(33,[4]),(34,[4]),(35,[4])] []
noncomputable def Yh:=aF Tryz.call230 Tryz.func230 Tryz.ntmps230 [] [(0,[0,2]),(1,[2,4]),(2,[2,4,6]),(3,[2,4]),(4,[2])] []
noncomputable def Yi:=aF Tryz.call232 Tryz.func232 Tryz.ntmps232 [(0,0,1)] [(0,[1,2]),(1,[1,2,5]),(2,[1,2,5,9]),(3,[1,2,5]),(4,[1,2,5,26]),(5,[4]),(6,[4])] [(4,(.take 0 true (.take 1 true (.take 2 true (.take 3 true (.take 4 true (.take 5 true (.take 6 true (.take 7 true (.take 8 true (.take 9 true (.take 10 true (.take 11 true (.take 12 true (.take 13 true (.take 14 true .done))))))))))))))))]
noncomputable def Yj:=aF Tryz.call233 Tryz.func233 Tryz.ntmps233 [(1,3,2000)] [(0,[0,1,2]),(1,[4])] []
noncomputable def Yk:=aF Tryz.call237 Tryz.func237 Tryz.ntmps237 [(2,1,1000),(5,2,1000),(6,2,2000)] [(0,[0]),(1,[0,3]),(2,[0,3,4]),(3,[3,4,8,9,10]),(4,[3,4,8,9,10,11]),(5,[3,4,6,8,9,10]),(6,[3,4,8,9,10]),(7,[3,4,8,9,10]),(8,[2])] []
noncomputable def Yl:=aF Tryz.call240 Tryz.func240 Tryz.ntmps240 [] [(0,[0]),(1,[2])] []
noncomputable def Ym:=aF Tryz.call241 Tryz.func241 Tryz.ntmps241 [] [(0,[0,1]),(1,[0,1,5,6]),(2,[0,1,5,6,7]),(3,[0,1,5,6,7,8]),(4,[0,1,5,6,7,8,9]),(5,[0,1,5,6,7,8,9,20]),(6,[0,1,5,6,7,8,9]),(7,[0,1,5,6,7,8,9]),(8,[0,1,5,6,7,8,39]),(9,[4]),(10,[0,1,5,6,7,8,10]),(11,[0,1,5,6,7,8,10,44]),(12,[0,1,5,6,7,8,10]),(13,[0,1,5,6,7,8,10]),(14,[0,1,5,6,7,8,10]),(15,[0,1,5,6,7,8,10]),(16,[0,1,5,6,7,8,10,77]),(17,[4]),(18,[4])] []
noncomputable def Yn:=aF Tryz.call245 Tryz.func245 Tryz.ntmps245 [(0,0,1),(1,2,2000),(4,2,1000),(5,2,2000)] [(0,[1,2]),(1,[1,2]),(2,[1,10,11,12]),(3,[1,10,11,12,13]),(4,[1,5,10,11,12]),(5,[1,10,11,12]),(6,[1,10,11,12])] []
noncomputable def Yo:=aF Tryz.call246 Tryz.func246 Tryz.ntmps246 [(0,0,1),(3,0,1),(3,5,1)] [(0,[1,2,3]),(1,[1,2,3,13]),(2,[2,3]),(3,[])] []
noncomputable def Yp:=aF Tryz.call247 Tryz.func247 Tryz.ntmps247 [] [(0,[0]),(1,[0,4]),(2,[0,4,5]),(3,[0,4,5,12]),(4,[0,4,5]),(5,[0,4,5]),(6,[0,4,6,7]),(7,[4,6,7,8]),(8,[4,6,7,8,25]),(9,[4,6,7,8]),(10,[4,6,7,8,30]),(11,[4,6,7,8]),(12,[4,6,7,8]),(13,[2,3])] []
end Go.aL
end
section
set_option maxRecDepth 100000
set_option maxHeartbeats 0
namespace Go.aL
open Go Go.Proofs
noncomputable def RA:=aF Tryz.call120 Tryz.func120 Tryz.ntmps120 [(0,0,1),(1,2,2)] [(0,[1,2]),(1,[2])] []
noncomputable def Hg:=aF Tryz.call125 Tryz.func125 Tryz.ntmps125 [(0,0,1),(0,1,1),(3,2,1000),(5,0,3003)] [(0,[1,3,5,6]),(1,[1,3,5,6,10]),(2,[6]),(3,[1,3,5,6,7]),(4,[6,7]),(5,[6])] [(4,(.take 5 true (.take 6 true (.take 7 true (.take 8 true (.take 9 true (.take 10 true (.take 11 true (.take 12 true (.take 13 true (.take 14 true (.take 15 true (.take 0 true (.take 1 true (.take 2 true (.take 3 true (.take 4 true (.take 16 true (.br 17 .done .nil)))))))))))))))))))]
noncomputable def RB:=aF Tryz.call176 Tryz.func176 Tryz.ntmps176 [(0,0,1),(2,3,2000),(6,2,1000),(7,4,2000),(7,6,2),(7,8,2),(9,1,2)] [(0,[1,2,4]),(1,[1,2,4,10]),(2,[4]),(3,[1,2,4,5]),(4,[1,4,5,21,22,23]),(5,[1,4,5,21,22,23,24]),(6,[1,4,5,7,21,22,23]),(7,[1,4,5,21,22,23]),(8,[1,4,5,21,22,23]),(9,[4])] [(7,(.take 2 true (.take 3 true (.take 0 false (.br 1 (.br 4 (.take 5 true (.br 6 (.take 7 true (.br 8 .done .nil)) .nil)) .nil) (.br 4 (.take 1 true (.take 5 true (.br 6 (.take 7 true (.br 8 .done .nil)) .nil))) .nil))))))]
end Go.aL
end
section
open Go Go.Proofs Go.aL
namespace Go.aL
theorem ru (o:Nat) (xs:List AV) (H:List aa) (h1:qB 1 xs) (hb:xs.length * 8≤140737488355328) (nC:aj H.length xs=true) :
 aq Tryz.prog 118 [.al o xs] H fun r H'=>r=.al 1 xs∧H'=H:=by
 refine Pw.2.wv (Nat.le_of_ble_eq_true rfl) ?_
 simp only [Pw,aF,mi,jl,rZ,bA,put,get,ap,eD,si,bX,AV.ab,List.map,Nat.reduceEqDiff,reduceIte,bW,qO]
 have jE:∀ (x:AV) ,x.le (.al 1 xs)→∃ m,H.length≤m∧∃ r,x.le r∧r.aV m=true∧r=AV.al 1 xs∧List.take m H=H:=
  fun x hx=>⟨H.length,Nat.le_refl _,_,hx,by simpa [AV.aV] using nC,rfl,by simp⟩
 cases xs with
 | nil=>
   simp only [cZ,isNil,eI,bj,bn,kC,dl,List.replicate]
   exact ⟨⟨fun _=>⟨.inr trivial,jE _ (.inr (.inr (.inr (.inl ⟨rfl,1,rfl⟩))))⟩,by simp⟩,by simp,fun _=>⟨by simp,by simp [qB],.inr trivial,jE _ (.inl rfl)⟩⟩
 | cons x xs=>
   simp only [cZ,isNil,eI,bj,bn,kC,dl,List.replicate]
   exact ⟨by simp,fun _=>⟨by simpa using hb,h1,.inr trivial,jE _ (.inl rfl)⟩⟩
theorem zj (H:List aa):aq Tryz.prog 118 [.ah] H fun r H'=>r=.al 1 []∧H'=H:=by
 refine Pw.2.wv (Nat.le_of_ble_eq_true rfl) ?_
 simp only [Pw,aF,mi,jl,rZ,bA,put,get,ap,eD,si,bX,AV.ab,List.map,Nat.reduceEqDiff,reduceIte,bW,qO]
 simp only [cZ,isNil,eI]
 exact ⟨fun _=>⟨.inr trivial,H.length,Nat.le_refl _,_,.inr (.inr (.inr (.inl ⟨rfl,1,rfl⟩))),rfl,rfl,by simp⟩,by simp⟩
def Be:List AV→Option AV
 | [.al _ xs]=>if (xs.all fun y=>y.cells.length == 1 && y.cells.all AV.one)=true∧xs.length * 8≤140737488355328∧aj 0 xs=true then some (.al 1 xs) else none
 | [.ah]=>some (.al 1 [])
 | _=>none
theorem Bf {xs:List AV} (h:aj 0 xs=true) (k:Nat):aj k xs=true:=bI (Nat.zero_le _) xs h
theorem Dr:tZ Tryz.prog 118 (.wu Be):=by
 intro args r H h
 unfold Be at h
 split at h <;> try cases h
 rotate_left
 ·exact zj H
 split at h <;> cases h
 rename_i hc
 refine ru _ _ _ ?_ hc.2.1 (Bf hc.2.2 _)
 intro y hy
 have:=List.all_eq_true.1 hc.1 y hy
 simpa using this
end Go.aL
end
section
set_option maxRecDepth 100000
namespace Go.aL
open Go
inductive T where
 | mk (k n:Int) (l:List T)
 deriving Inhabited
mutual
def T.av:T→AV
 | .mk k n l=>.agg [.int .i64 k,.int .i64 n,.al 0 (bC l)]
def bC:List T→List AV
 | []=>[]
 | x::r=>x.av::bC r
end
def T.k:T→Int | .mk k _ _=>k
def T.n:T→Int | .mk _ n _=>n
def T.l:T→List T | .mk _ _ l=>l
theorem T.uc (x:T):x.av=.agg [.int .i64 x.k,.int .i64 x.n,.al 0 (bC x.l)]:=by cases x;rfl
theorem mK:∀ l,bC l=l.map T.av
 | []=>rfl
 | x::r=>by simp [bC,mK r]
theorem oX (l:List T):(bC l).length=l.length:=by simp [mK]
theorem Ds (l:List T) (i:Nat) (h:i < l.length):(bC l).getD i .any=(l.getD i default).av:=by
 simp [mK,h]
mutual
theorem T.bY (n:Nat):∀ x:T,x.av.aV n=true
 | .mk k m l=>by simp [T.av,AV.aV,aj,dq n l]
theorem dq (n:Nat):∀ l:List T,aj n (bC l)=true
 | []=>rfl
 | x::r=>by simp [bC,aj,T.bY n x,dq n r]
end
theorem T.lJ (x:T):AV.agg x.av.cells=x.av:=by cases x;rfl
theorem T.sM (x:T):x.av.val=true:=by cases x;rfl
theorem T.mL (x:T):x.av.cells.all AV.one=true:=by cases x;rfl
theorem T.fj (x:T):x.av.ab=x.av:=by cases x;rfl
theorem T.rv (x:T):x.av.drop=x.av:=by cases x;rfl
theorem T.kK (x:T):x.av.cells.map AV.ab=x.av.cells:=by cases x;rfl
theorem T.FK (x:T):x.av.cells.map AV.drop=x.av.cells:=by cases x;rfl
theorem T.cw (x:T):x.av.cells.length=3:=by cases x;rfl
theorem LH (o:Nat) (l:List T):(∀ (own:Nat) (xs:List AV),AV.al o (bC l)=AV.al own xs→∀ z∈xs,z.cells.length=3)=True:=by
 simp only [eq_iff_iff,iff_true]
 intro own xs e z hz
 cases e
 rw [mK] at hz
 obtain ⟨y,_,rfl⟩:=List.mem_map.1 hz
 exact y.cw
theorem PX (e o:Nat) (l:List T) (k:IntKind) (i:Nat) (φ:AV→Prop):ax e (.al o (bC l)) (.int k (i:Int)) φ=(i < l.length∧φ (.ai (l.getD i default).av)):=by
 simp only [ax,oX,Int.toNat_natCast,eq_iff_iff]
 constructor
 ·rintro ⟨_,h,h2⟩;rw [Ds _ _ h] at h2;exact ⟨h,h2⟩
 ·rintro ⟨h,h2⟩;rw [Ds _ _ h];exact ⟨by omega,h,h2⟩
theorem Dt (x:T) (H:List aa) (φ:AV→Prop):aQ (some 3) (.ai x.av) H φ=φ x.av:=by
 simp [aQ,T.cw,T.lJ]
theorem abY (a b c:AV) (x:T):ag [a,b,c] 0 x.av.cells=x.av.cells:=by simp [ag,T.cw]
theorem Uz (n:Nat) (x:T):aj n x.av.cells=true:=cD (x.bY _)
theorem PY (x:T) (φ:AV→Prop):dm (some (.cells x.av.cells)) (some 3) 0 φ=φ x.av:=by
 have e:List.map AV.drop (List.take 3 (List.drop 0 x.av.cells))=x.av.cells:=by cases x;rfl
 simp only [dm,e,T.lJ]
 simp [T.cw]
theorem fk (x:T) (φ:AV→Prop):ak 0 none (.ai x.av) φ=φ (.ai (.int .i64 x.k)):=by
 cases x;simp [ak,apart,T.av,AV.cells,T.k,AV.one]
theorem fn_ (x:T) (φ:AV→Prop):ak 1 none (.ai x.av) φ=φ (.ai (.int .i64 x.n)):=by
 cases x;simp [ak,apart,T.av,AV.cells,T.n,AV.one]
theorem fl (x:T) (φ:AV→Prop):ak 2 none (.ai x.av) φ=φ (.ai (.al 0 (bC x.l))):=by
 cases x;simp [ak,apart,T.av,AV.cells,T.l,AV.one]
def ints (l:List Int):List AV:=l.map (AV.int .i64)
theorem aw (l:List Int):(ints l).length=l.length:=by simp [ints]
theorem bb (n:Nat) (l:List Int):aj n (ints l)=true:=by
 rw [a8];intro x hx;obtain ⟨y,_,rfl⟩:=List.mem_map.1 hx;rfl
theorem dK (o:Nat) (l:List Int):(∀ (own:Nat) (xs:List AV),AV.al o (ints l)=AV.al own xs→∀ z∈xs,z.cells.length=1)=True:=by
 simp only [eq_iff_iff,iff_true]
 intro own xs e z hz
 cases e
 obtain ⟨y,_,rfl⟩:=List.mem_map.1 hz
 rfl
theorem wK (e o:Nat) (l:List Int) (k:IntKind) (i:Nat) (φ:AV→Prop):ax e (.al o (ints l)) (.int k (i:Int)) φ=(i < l.length∧φ (.ai (.int .i64 (l.getD i 0)))):=by
 simp only [ax,aw,Int.toNat_natCast,eq_iff_iff]
 constructor
 ·rintro ⟨_,h,h2⟩;refine ⟨h,?_⟩;simpa [ints,h] using h2
 ·rintro ⟨h,h2⟩;refine ⟨by omega,h,?_⟩;simpa [ints,h] using h2
theorem sN (l:List Int) (n:Int):ints l++[.int .i64 n]=ints (l++[n]):=by simp [ints]
theorem ok_int (k:IntKind) (n:Int):qB 1 [.int k n]=True:=by simp [qB,AV.cells,AV.one]
theorem kL (l:List Int):qB 1 (ints l)=True:=by
 simp only [qB,eq_iff_iff,iff_true]
 intro y hy
 obtain ⟨z,_,rfl⟩:=List.mem_map.1 hy
 exact ⟨rfl,rfl⟩
theorem PZ (x:T):qB 3 [x.av]=True:=by
 simp only [qB,eq_iff_iff,iff_true]
 intro y hy
 rw [List.mem_singleton] at hy
 subst hy
 exact ⟨x.cw,x.mL⟩
theorem UA (k:IntKind) (n:Int):aT (.int k n)=.int k n:=_root_.id rfl
theorem abZ (x:T):aT x.av=x.av:=by cases x;rfl
theorem bs0 (z:AV) (esz:Nat) (φ:List AV→Prop):bj (List.replicate 0 z) esz [] φ=φ []:=_root_.id rfl
theorem bs1 (z x:AV) (esz:Nat) (φ:List AV→Prop):bj (List.replicate 1 (aT z)) esz [(0,x)] φ=(x.val=true∧x.cells.length=esz∧φ [aT x]):=by
 simp [bj]
theorem bs2 (z x y:AV) (esz:Nat) (φ:List AV→Prop):bj (List.replicate 2 (aT z)) esz [(0,x),(1,y)] φ=(x.val=true∧x.cells.length=esz∧y.val=true∧y.cells.length=esz∧φ [aT x,aT y]):=by
 simp [bj,List.replicate]
theorem bs3 (z x y u:AV) (esz:Nat) (φ:List AV→Prop):bj (List.replicate 3 (aT z)) esz [(0,x),(1,y),(2,u)] φ=(x.val=true∧x.cells.length=esz∧y.val=true∧y.cells.length=esz∧u.val=true∧u.cells.length=esz∧φ [aT x,aT y,aT u]):=by
 simp [bj,List.replicate]
@[congr] theorem ND {xs:List AV} {esz:Nat} {ps ps':List (Nat×AV)} {φ:List AV→Prop} (h:gJ ps=ps'):bj xs esz ps φ=bj xs esz ps' φ:=by subst h;rfl
def UB:=(And.intro (And.intro (And.intro (And.intro @or_true @true_or) (And.intro @true_and @and_true)) (And.intro (And.intro @true_implies @Bool.true_and) (And.intro @Bool.and_true (And.intro @Bool.not_true @Bool.not_false)))) (And.intro (And.intro (And.intro @decide_true @decide_false) (And.intro @Classical.not_not @not_true_eq_false)) (And.intro (And.intro @not_false_eq_true @false_implies) (And.intro @Int.not_le (And.intro @Int.not_lt @Nat.le_refl)))))
def UC:=(And.intro (And.intro (And.intro (And.intro (And.intro @oX @T.bY) (And.intro @dq @T.sM)) (And.intro (And.intro @T.mL @T.fj) (And.intro @T.rv @T.kK))) (And.intro (And.intro (And.intro @T.FK @T.cw) (And.intro @T.lJ @LH)) (And.intro (And.intro @PX @Dt) (And.intro @abY (And.intro @Uz @PY))))) (And.intro (And.intro (And.intro (And.intro @fk @fn_) (And.intro @fl @aw)) (And.intro (And.intro @bb @dK) (And.intro @wK @sN))) (And.intro (And.intro (And.intro @ok_int @PZ) (And.intro @kL @UA)) (And.intro (And.intro @abZ @bs0) (And.intro @bs1 (And.intro @bs2 @bs3))))))
theorem sZa {α:Type} (a b:α) (h:Decidable True):(if True then a else b)=a:=if_pos trivial
def sZ:=And.intro Ur (And.intro UC (And.intro UB (And.intro @sZa (And.intro @ne_eq.{1} (And.intro @forall_const.{1} (And.intro @implies_true.{0} (And.intro @implies_true.{1} (And.intro @List.nil_append.{0} (And.intro @List.append_nil.{0} (And.intro @List.cons_append.{0} (And.intro @List.length_cons.{0} @List.length_nil.{0})))))))))))
end Go.aL
end
section
end
section
set_option maxRecDepth 100000
namespace Go.aL
open Go Go.Proofs
theorem cq {l:List T} {i:Nat} (h:i < l.length):l.getD i default∈l:=by simp [h]
theorem T.lt {x y:T} (h:x∈y.l):SizeOf.sizeOf x < SizeOf.sizeOf y:=by
 cases y with
 | mk k n l=>
   have:=List.sizeOf_lt_of_mem h
   simp only [T.l] at this
   simp only [T.mk.sizeOf_spec]
   omega
end Go.aL
end
section
set_option maxRecDepth 100000
namespace Go.aL
open Go Go.Proofs
end Go.aL
end
section
set_option maxRecDepth 100000
namespace Go.aL
open Go Go.Proofs
mutual
def gC:T→Int→Int×Int→Int×Int
 | .mk _ _ l,d,s=>k8 l (d + 1) (s.1 + 1,max s.2 d)
def k8:List T→Int→Int×Int→Int×Int
 | [],_,s=>s
 | x::r,d,s=>if 2000 < s.1∨200 < s.2 then s else k8 r d (gC x d s)
end
def pC (d:Int) (s:Int×Int):Prop:=0≤s.1∧s.1≤2000∧0≤s.2∧s.2≤200∧0≤d∧d≤201
def mM (s:Int×Int):Prop:=0≤s.1∧s.1≤2001∧0≤s.2∧s.2≤201
mutual
theorem wL:∀ (x:T) (d:Int) (s:Int×Int),pC d s→mM (gC x d s)∧(gC x d s).2 ≥ d
 | .mk k n l,d,s,h=>by
   simp only [gC]
   obtain ⟨h1,h2,h3,h4,h5,h6⟩:=h
   have:=Dv l (d + 1) (s.1 + 1,max s.2 d) (by unfold mM;simp only;omega) (by omega) (by simp only;omega)
   refine ⟨this.1,?_⟩
   have h:=this.2
   simp only at h
   omega
theorem Dv:∀ (l:List T) (d:Int) (s:Int×Int),mM s→0≤d→d≤s.2 + 1→mM (k8 l d s)∧s.2≤(k8 l d s).2
 | [],d,s,h,_,_=>by simp [k8,h]
 | x::r,d,s,h,hd,HX=>by
   simp only [k8]
   split
   ·exact ⟨h,Int.le_refl _⟩
   ·rename_i hn
    obtain ⟨h1,h2,h3,h4⟩:=h
    have hx:=wL x d s ⟨h1,by omega,h3,by omega,hd,by omega⟩
    have hr:=Dv r d (gC x d s) hx.1 hd (by omega)
    have:=sO x d s
    exact ⟨hr.1,by omega⟩
theorem sO:∀ (x:T) (d:Int) (s:Int×Int),s.2≤(gC x d s).2
 | .mk k n l,d,s=>by
   simp only [gC]
   have:=zk l (d + 1) (s.1 + 1,max s.2 d)
   simp only at this
   omega
theorem zk:∀ (l:List T) (d:Int) (s:Int×Int),s.2≤(k8 l d s).2
 | [],d,s=>by simp [k8]
 | x::r,d,s=>by
   simp only [k8]
   split
   ·omega
   ·have h1:=sO x d s
    have h2:=zk r d (gC x d s)
    omega
end
theorem Jd {l:List T} {i:Nat} {d:Int} {s:Int×Int} (h:i < l.length):k8 (l.drop i) d s=if 2000 < s.1∨200 < s.2 then s else k8 (l.drop (i + 1)) d (gC (l.getD i default) d s):=by
 rw [List.drop_eq_getElem_cons h]
 simp [k8,h]
def eS (s:Int×Int):List aa:=[.cells [.int .i64 s.1,.int .i64 s.2]]
theorem UD (H:List aa) (x:T) (d:Int) (s:Int×Int) (hs:pC d s) :
 aq Tryz.prog 171 [.ptr H.length 0,x.av,.int .i64 d] (H++eS s) fun r H'=>r=.tuple []∧H'=H++eS (gC x d s):=by
 have ih:∀ y∈x.l,∀ (d:Int) (s:Int×Int),pC d s→aq Tryz.prog 171 [.ptr H.length 0,y.av,.int .i64 d] (H++eS s) fun r H'=>r=.tuple []∧H'=H++eS (gC y d s):=
  fun y hy d s hs=>UD H y d s hs
 have e:gC x d s=k8 x.l (d + 1) (s.1 + 1,max s.2 d):=by cases x;simp only [gC,T.l]
 obtain ⟨h1,h2,h3,h4,h5,h6⟩:=hs
 have w1:IntKind.i64.wrap (s.1 + 1)=s.1 + 1:=dL _ (by omega)
 have w2:IntKind.i64.wrap (d + 1)=d + 1:=dL _ (by omega)
 refine PF.2.calls rfl ?_
 simp only [PF,aF]
 simp only [w1,eS,sZ,Nat.reduceEqDiff,Nat.reduceAdd,Nat.reduceLT,Nat.reduceLeDiff,↓reduceIte,reduceCtorEq]
 intro hl
 have JU:mM (s.1 + 1,max s.2 d):=by unfold mM;simp only;omega
 have hmd:d≤max s.2 d:=by omega
 generalize max s.2 d=m at *
 refine aJ x.l.length (fun i (t:Int×Int)=>mM t∧d≤t.2∧k8 (x.l.drop i) (d + 1) t=gC x d s)
  (fun i t=>[(0,.ptr H.length 0),(2,.int .i64 d),(25,.al 0 (bC x.l)),(26,.int .i64 x.l.length),(27,.int .i64 i)]) (fun i t=>H++eS t) (s.1 + 1,m) ⟨⟨JU,hmd,by rw [e];rfl⟩,aA _ _ _⟩ fun i t hi hI=>?_
 obtain ⟨⟨k1,k2,k3,k4⟩,k5,hI⟩:=hI
 simp only [w2,eS,sZ,Nat.reduceEqDiff,Nat.reduceAdd,Nat.reduceLT,↓reduceIte,reduceCtorEq]
 refine ⟨fun aK=>⟨bi aK,?_⟩,fun gr=>?_⟩
 ·have aK:=bi aK
  rw [Jd aK] at hI
  refine ⟨fun hn1=>⟨fun hn2=>?_,fun hn2=>?_⟩,fun hn1=>?_⟩
  ·rw [if_pos (.inr hn2)] at hI;rw [← hI];exact rj (by simp [eS]) rfl
  ·rw [if_neg (by omega)] at hI
   have ho:pC (d + 1) t:=⟨k1,by omega,k3,by omega,by omega,by omega⟩
   have hx:=wL (x.l.getD i default) (d + 1) t ho
   refine af (ih _ (cq aK) (d + 1) t ho) ?_
   rintro r H' ⟨rfl,rfl⟩
   simp only [eS,sZ,Nat.reduceEqDiff,↓reduceIte,reduceCtorEq]
   exact ⟨i + 1,gC (x.l.getD i default) (d + 1) t,⟨aK,hx.1,by omega,hI⟩,by omega,aC (by rw [au i (by omega)]) rfl⟩
  ·rw [if_pos (.inl hn1)] at hI;rw [← hI];exact rj (by simp [eS]) rfl
 ·rw [List.drop_of_length_le (cb gr)] at hI
  rw [← hI]
  exact rj (by simp [eS]) rfl
termination_by SizeOf.sizeOf x
decreasing_by exact T.lt hy
def ud (s:Int×Int):Bool:=decide (2000 < s.1) || decide (200 < s.2)
theorem Yq (H:List aa) (s:Int×Int):aq Tryz.prog 172 [.ptr H.length 0] (H++eS s) fun r H'=>r=.bool (ud s)∧H'=H++eS s:=by
 refine PG.2.calls rfl ?_
 simp only [PG,aF]
 simp only [eS,sZ,Nat.reduceEqDiff,Nat.reduceAdd,Nat.reduceLT,↓reduceIte,reduceCtorEq]
 refine ⟨fun h=>?_,fun h=>?_⟩
 ·exact Uo (by simp [eS]) rfl (by simp [ud,Int.not_lt.2 h]) rfl
 ·exact Uo (by simp [eS]) rfl (by simp [ud,h]) rfl
def sP (p:T→Bool):List T→Int→Int
 | [],_=>-1
 | x::r,k=>if p x=true then k else sP p r (k + 1)
theorem wM (p:T→Bool):∀ (l:List T) (k:Int),0≤k→(decide (0≤sP p l k)=l.any p)
 | [],k,_=>by simp [sP]
 | x::r,k,h=>by
   simp only [sP,List.any_cons]
   split
   ·rename_i hp;simp [hp,h]
   ·rename_i hp;simp [hp,wM p r (k + 1) (by omega)]
theorem zm {p:T→Bool} {l:List T} {i:Nat} {k:Int} (h:i < l.length):sP p (l.drop i) k=if p (l.getD i default)=true then k else sP p (l.drop (i + 1)) (k + 1):=by
 rw [List.drop_eq_getElem_cons h]
 simp [sP,h]
theorem ab0 (g:Nat) (p:T→Bool) (l:List T) (hf:∀ x∈l,Pure Tryz.prog g [x.av] (.bool (p x))) :
 Pure Tryz.prog 114 [.al 0 (bC l),.fn (.func g) [] []] (.int .i64 (sP p l 0)):=by
 refine fun H=>Dq.2.calls rfl ?_
 simp only [Dq,aF]
 simp only [sZ,Nat.reduceEqDiff,Nat.reduceAdd,↓reduceIte,reduceCtorEq]
 intro hl
 refine aD l.length (fun i=>sP p (l.drop i) i=sP p l 0) (fun i=>[(0,.al 0 (bC l)),(1,.fn (.func g) [] []),(7,.int .i64 l.length),(8,.int .i64 i)]) (fun _=>H) ⟨rfl,aA _ _ _⟩ fun i hi hI=>?_
 simp only [sZ,Nat.reduceEqDiff,Nat.reduceAdd,↓reduceIte,reduceCtorEq]
 refine ⟨fun aK=>?_,fun gr=>?_⟩
 ·have aK:=bi aK
  rw [zm aK] at hI
  refine ⟨aK,ae (hf _ (cq aK)) ?_⟩
  simp only [sZ,Nat.reduceEqDiff,↓reduceIte,reduceCtorEq]
  refine uW (fun hb=>?_) (fun hb=>?_) <;> simp only [sZ,Nat.reduceEqDiff,↓reduceIte,reduceCtorEq]
  ·rw [if_pos hb] at hI
   exact aZ rfl (by rw [← hI])
  ·rw [if_neg (by rw [hb];simp)] at hI
   exact ⟨i + 1,⟨aK,hI⟩,by omega,aC (by rw [au i (by omega)]) rfl⟩
 ·rw [List.drop_of_length_le (cb gr)] at hI
  exact aZ rfl (by rw [← hI];rfl)
theorem c53 (g:Nat) (p:T→Bool) (l:List T) (hf:∀ x∈l,Pure Tryz.prog g [x.av] (.bool (p x))) :
 Pure Tryz.prog 53 [.al 0 (bC l),.fn (.func g) [] []] (.bool (l.any p)):=by
 refine fun H=>Rp.2.calls rfl ?_
 simp only [Rp,aF]
 simp only [sZ,Nat.reduceEqDiff,Nat.reduceAdd,↓reduceIte,reduceCtorEq]
 refine ae (ab0 g p l hf) ?_
 simp only [sZ,↓reduceIte,reduceCtorEq]
 exact aZ rfl (by rw [wM p l 0 (by omega)])
mutual
def T.shaped:T→Bool
 | .mk k n l=>!(decide (n < 0) || (decide (k=1) && decide (0 < l.length)) || (decide (k≠1) && decide (k≠2)) || decide (8 < l.length)) && dD l
def dD:List T→Bool
 | []=>true
 | x::r=>x.shaped && dD r
end
theorem oh:∀ l,dD l=l.all T.shaped
 | []=>rfl
 | x::r=>by simp only [dD,List.all_cons,oh r]
theorem Dw (l:List T):(!(l.any fun x=>!x.shaped))=dD l:=by
 rw [oh]
 induction l with
 | nil=>rfl
 | cons x r ih=>simp only [List.any_cons,List.all_cons,Bool.not_or,Bool.not_not,ih]
theorem T.de (x:T):x.shaped=(!(decide (x.n < 0) || (decide (x.k=1) && decide (0 < x.l.length)) || (decide (x.k≠1) && decide (x.k≠2)) || decide (8 < x.l.length)) && dD x.l):=by
 cases x;simp only [T.shaped,T.k,T.n,T.l];rfl
theorem Bg {l:List T} {i:Nat} (h:i < l.length):dD (l.drop i)=((l.getD i default).shaped && dD (l.drop (i + 1))):=by
 rw [List.drop_eq_getElem_cons h]
 simp [dD,h]
theorem T.Je {x:T} (hh:¬ (x.n < 0∨(x.k=1∧0 < x.l.length)∨(x.k≠1∧x.k≠2)∨8 < x.l.length)):x.shaped=dD x.l:=by
 rw [x.de]
 have h1:decide (x.n < 0)=false:=Bool.eq_false_iff.2 (by simp only [ne_eq,decide_eq_true_eq];omega)
 have h2:(decide (x.k=1) && decide (0 < x.l.length))=false:=Bool.eq_false_iff.2 (by simp only [ne_eq,Bool.and_eq_true,decide_eq_true_eq];omega)
 have h3:(decide (x.k≠1) && decide (x.k≠2))=false:=Bool.eq_false_iff.2 (by simp only [ne_eq,Bool.and_eq_true,decide_eq_true_eq];omega)
 have h4:decide (8 < x.l.length)=false:=Bool.eq_false_iff.2 (by simp only [ne_eq,decide_eq_true_eq];omega)
 rw [h1,h2,h3,h4];rfl
theorem ab2 (x:T) (h:Pure Tryz.prog 173 [x.av] (.bool x.shaped)):Pure Tryz.prog 211 [x.av] (.bool (!x.shaped)):=by
 refine fun H=>PU.2.calls rfl ?_
 simp only [PU,aF]
 simp only [sZ,Nat.reduceEqDiff,Nat.reduceAdd,↓reduceIte]
 refine ae h ?_
 simp only [sZ,↓reduceIte,reduceCtorEq]
 exact aZ rfl rfl
theorem Yr (x:T):Pure Tryz.prog 173 [x.av] (.bool x.shaped):=by
 have ih:∀ y∈x.l,Pure Tryz.prog 211 [y.av] (.bool (!y.shaped)):=fun y hy=>ab2 y (Yr y)
 refine fun H=>PH.2.calls rfl ?_
 simp only [PH,aF]
 simp +contextual only [sZ,Nat.reduceEqDiff,Nat.reduceAdd,↓reduceIte,reduceCtorEq]
 have fin:∀ (H':List aa),H'=H→(x.n < 0∨(x.k=1∧0 < x.l.length)∨(x.k≠1∧x.k≠2)∨8 < x.l.length)→bW H.length [RX.t 2] [(2,AV.bool false)] H' fun r H'=>r=AV.bool x.shaped∧H'=H:=by
  rintro H' rfl hh
  refine aZ rfl ?_
  rw [x.de]
  rcases hh with h | h | h | h <;> simp [h]
 have go:¬ (x.n < 0∨(x.k=1∧0 < x.l.length)∨(x.k≠1∧x.k≠2)∨8 < x.l.length)→x.shaped=dD x.l:=by
  intro hh
  rw [x.de]
  have h1:decide (x.n < 0)=false:=Bool.eq_false_iff.2 (by simp only [ne_eq,decide_eq_true_eq];omega)
  have h2:(decide (x.k=1) && decide (0 < x.l.length))=false:=Bool.eq_false_iff.2 (by simp only [ne_eq,Bool.and_eq_true,decide_eq_true_eq];omega)
  have h3:(decide (x.k≠1) && decide (x.k≠2))=false:=Bool.eq_false_iff.2 (by simp only [ne_eq,Bool.and_eq_true,decide_eq_true_eq];omega)
  have h4:decide (8 < x.l.length)=false:=Bool.eq_false_iff.2 (by simp only [ne_eq,decide_eq_true_eq];omega)
  rw [h1,h2,h3,h4];rfl
 refine ⟨fun h=>fin _ rfl (.inl h),fun h=>⟨fun h1 hl=>⟨fun h2=>fin _ rfl (by omega),fun h2=>⟨fun h3=>fin _ rfl (by omega),fun h3=>ae (c53 211 _ _ ih) ?_⟩⟩,
  fun h1=>⟨fun h2=>fin _ rfl (by omega),fun h2 hl=>⟨fun h3=>fin _ rfl (by omega),fun h3=>ae (c53 211 _ _ ih) ?_⟩⟩⟩⟩ <;>
 ·simp only [sZ,↓reduceIte,reduceCtorEq]
  exact aZ rfl (by rw [go (by omega),Dw])
termination_by SizeOf.sizeOf x
decreasing_by exact T.lt hy
def T.tree (x:T):Bool:=!ud (gC x 1 (0,0)) && x.shaped
theorem Jf (x:T):Pure Tryz.prog 108 [x.av] (.bool x.tree):=by
 refine fun H=>Pv.2.calls rfl ?_
 simp only [Pv,aF]
 simp only [sZ,Nat.reduceEqDiff,Nat.reduceAdd,↓reduceIte,reduceCtorEq]
 refine af (UD H x 1 (0,0) (by unfold pC;simp)) ?_
 rintro r H' ⟨rfl,rfl⟩
 simp only [sZ,Nat.reduceEqDiff,Nat.reduceAdd,↓reduceIte]
 refine af (Yq H (gC x 1 (0,0))) ?_
 rintro r H' ⟨rfl,rfl⟩
 cases hb:ud (gC x 1 (0,0)) <;> simp +contextual only [sZ,Nat.reduceEqDiff,Nat.reduceAdd,↓reduceIte,reduceCtorEq]
 ·refine ae (Yr x) ?_
  simp only [sZ,Nat.reduceEqDiff,↓reduceIte,reduceCtorEq]
  exact Lt rfl (by simp [T.tree,hb])
 ·exact Lt rfl (by simp [T.tree,hb])
theorem ab3 (x:T):Pure Tryz.prog 178 [x.av] (.bool (!x.tree)):=by
 refine fun H=>PI.2.calls rfl ?_
 simp only [PI,aF]
 simp only [sZ,Nat.reduceEqDiff,Nat.reduceAdd,↓reduceIte]
 refine ae (Jf x) ?_
 simp only [sZ,↓reduceIte,reduceCtorEq]
 exact aZ rfl rfl
def k9 (l:List T):Bool:=l.all T.tree
theorem Ys (l:List T):Pure Tryz.prog 121 [.al 0 (bC l)] (.int .i64 (if k9 l=true then 0 else 4)):=by
 refine fun H=>Py.2.calls rfl ?_
 simp only [Py,aF]
 simp only [sZ,Nat.reduceAdd,↓reduceIte,reduceCtorEq]
 refine ae (c53 178 _ l fun x _=>ab3 x) ?_
 have e:(l.any fun x=>!x.tree)=!k9 l:=by
  unfold k9
  induction l with
  | nil=>rfl
  | cons x r ih=>simp only [List.any_cons,List.all_cons,ih,Bool.not_and]
 rw [e]
 cases k9 l <;> simp +contextual only [sZ,↓reduceIte,reduceCtorEq]
 ·exact aZ rfl rfl
 ·exact aZ rfl rfl
mutual
def gV:T→Int→Int→Int×Bool
 | .mk _ _ l,left,deep=>if left - 1 < 0∨200 < deep then (left - 1,false) else mN l (left - 1) (deep + 1)
def mN:List T→Int→Int→Int×Bool
 | [],left,_=>(left,true)
 | x::r,left,deep=>if (gV x left deep).2=true then mN r (gV x left deep).1 deep else ((gV x left deep).1,false)
end
mutual
theorem Bh:∀ (x:T) (left deep:Int),(gV x left deep).1≤left∧(0≤left→-1≤(gV x left deep).1∧((gV x left deep).2=true→0≤(gV x left deep).1))
 | .mk k n l,left,deep=>by
   simp only [gV]
   split
   ·simp;omega
   ·rename_i hn
    have:=Hh l (left - 1) (deep + 1)
    exact ⟨by omega,fun _=>this.2 (by omega)⟩
theorem Hh:∀ (l:List T) (left deep:Int),(mN l left deep).1≤left∧(0≤left→-1≤(mN l left deep).1∧((mN l left deep).2=true→0≤(mN l left deep).1))
 | [],left,deep=>by simp [mN];omega
 | x::r,left,deep=>by
   have h1:=Bh x left deep
   simp only [mN]
   split
   ·rename_i hb
    have h2:=Hh r (gV x left deep).1 deep
    exact ⟨by omega,fun h0=>h2.2 ((h1.2 h0).2 hb)⟩
   ·exact ⟨h1.1,fun h0=>⟨(h1.2 h0).1,fun e=>by cases e⟩⟩
end
theorem Jg {l:List T} {i:Nat} {left d:Int} (h:i < l.length):mN (l.drop i) left d=if (gV (l.getD i default) left d).2=true then mN (l.drop (i + 1)) (gV (l.getD i default) left d).1 d else ((gV (l.getD i default) left d).1,false):=by
 rw [List.drop_eq_getElem_cons h]
 simp [mN,h]
theorem Yt (x:T) (left deep:Int) (h0:0≤left) (h1:left≤100000) (h2:0≤deep) (h3:deep≤201) :
 Pure Tryz.prog 214 [x.av,.int .i64 left,.int .i64 deep] (.tuple [.int .i64 (gV x left deep).1,.bool (gV x left deep).2]):=by
 have ih:∀ y∈x.l,∀ (left deep:Int),0≤left→left≤100000→0≤deep→deep≤201→
  Pure Tryz.prog 214 [y.av,.int .i64 left,.int .i64 deep] (.tuple [.int .i64 (gV y left deep).1,.bool (gV y left deep).2]):=fun y hy left deep h0 h1 h2 h3=>Yt y left deep h0 h1 h2 h3
 have e:gV x left deep=if left - 1 < 0∨200 < deep then (left - 1,false) else mN x.l (left - 1) (deep + 1):=by cases x;simp only [gV,T.l]
 have w1:IntKind.i64.wrap (left - 1)=left - 1:=dL _ (by omega)
 have w2:IntKind.i64.wrap (deep + 1)=deep + 1:=dL _ (by omega)
 refine fun H=>X8.2.calls rfl ?_
 simp only [X8,aF]
 simp +contextual only [w1,sZ,Nat.reduceEqDiff,Nat.reduceAdd,↓reduceIte,reduceCtorEq]
 refine ⟨fun h4=>⟨fun h5=>zd (by decide) rfl rfl (by rw [e,if_pos (.inr h5)];rfl) (by rw [e,if_pos (.inr h5)];rfl),fun h5=>?_⟩,fun h4=>zd (by decide) rfl rfl (by rw [e,if_pos (.inl h4)];rfl) (by rw [e,if_pos (.inl h4)];rfl)⟩
 have e2:gV x left deep=mN x.l (left - 1) (deep + 1):=by rw [e,if_neg (by omega)]
 refine aJ x.l.length (fun i (s:Int)=>0≤s∧s≤100000∧mN (x.l.drop i) s (deep + 1)=gV x left deep)
  (fun i s=>[(1,.int .i64 s),(2,.int .i64 deep),(3,x.av.ai),(8,.int .i64 i)]) (fun i s=>H) (left - 1) ⟨⟨by omega,by omega,by rw [e2];rfl⟩,aA _ _ _⟩ fun i s hi hI=>?_
 obtain ⟨k0,k1,hI⟩:=hI
 simp +contextual only [w2,sZ,Nat.reduceEqDiff,Nat.reduceAdd,↓reduceIte,reduceCtorEq]
 intro hl
 refine ⟨fun aK=>⟨bi aK,?_⟩,fun gr=>?_⟩
 ·have aK:=bi aK
  rw [Jg aK] at hI
  have hle:=Bh (x.l.getD i default) s (deep + 1)
  refine ae (ih _ (cq aK) s (deep + 1) k0 k1 (by omega) (by omega)) ?_
  simp +contextual only [sZ,Nat.reduceEqDiff,Nat.reduceAdd,Nat.reduceLT,↓reduceIte]
  refine uW (fun hb=>?_) (fun hb=>?_) <;> simp +contextual only [sZ,Nat.reduceEqDiff,↓reduceIte,reduceCtorEq]
  ·rw [if_pos hb] at hI
   exact ⟨i + 1,_,⟨aK,(hle.2 k0).2 hb,by omega,hI⟩,by omega,aC (by rw [au i (by omega)]) rfl⟩
  ·rw [if_neg (by rw [hb];simp)] at hI
   exact zd (by decide) rfl rfl (by rw [← hI];rfl) (by rw [← hI];rfl)
 ·rw [List.drop_of_length_le (cb gr)] at hI
  exact zd (by decide) rfl rfl (by rw [← hI];rfl) (by rw [← hI];rfl)
termination_by SizeOf.sizeOf x
decreasing_by exact T.lt hy
theorem Yu (x:T):Pure Tryz.prog 215 [x.av] (.bool x.shaped):=by
 have ih:∀ y∈x.l,Pure Tryz.prog 215 [y.av] (.bool y.shaped):=fun y hy=>Yu y
 refine fun H=>X9.2.calls rfl ?_
 simp only [X9,aF]
 simp +contextual only [sZ,Nat.reduceEqDiff,Nat.reduceAdd,↓reduceIte,reduceCtorEq,Int.reduceEq]
 have fin:∀ (H':List aa),H'=H→(x.n < 0∨(x.k=1∧0 < x.l.length)∨(x.k≠1∧x.k≠2)∨8 < x.l.length)→bW H.length [RX.t 2] [(2,AV.bool false)] H' fun r H'=>r=AV.bool x.shaped∧H'=H:=by
  rintro H' rfl hh
  refine aZ rfl ?_
  rw [x.de]
  rcases hh with h | h | h | h <;> simp [h]
 refine ⟨fun h=>⟨fun h1=>⟨fun h2 hl=>⟨fun h3=>fin _ rfl (by omega),fun h3=>?_⟩,fun h2=>fin _ rfl (by omega)⟩,fun h1 hl=>⟨fun h2=>⟨fun h3=>fin _ rfl (by omega),fun h3=>?_⟩,fun h2=>fin _ rfl (by omega)⟩⟩,fun h=>fin _ rfl (by omega)⟩
 all_goals
  have go:x.shaped=dD x.l:=T.Je (by omega)
  refine aD x.l.length (fun i=>dD (x.l.drop i)=x.shaped) (fun i=>[(1,x.av.ai),(3,.int .i64 i)]) (fun i=>H) ⟨by rw [go];rfl,aA _ _ _⟩ fun i hi hI=>?_
  simp +contextual only [sZ,Nat.reduceEqDiff,Nat.reduceAdd,↓reduceIte,reduceCtorEq]
  intro _
  refine ⟨fun aK=>⟨bi aK,?_⟩,fun gr=>?_⟩
  ·have aK:=bi aK
   rw [Bg aK] at hI
   refine ae (ih _ (cq aK)) ?_
   simp +contextual only [sZ,Nat.reduceEqDiff,↓reduceIte]
   refine uW (fun hb=>?_) (fun hb=>?_) <;> simp +contextual only [sZ,Nat.reduceEqDiff,↓reduceIte,reduceCtorEq]
   ·exact ⟨i + 1,⟨aK,by rw [hb] at hI;simpa using hI⟩,by omega,aC (by rw [au i (by omega)]) rfl⟩
   ·exact aZ rfl (by rw [← hI,hb];rfl)
  ·rw [List.drop_of_length_le (cb gr)] at hI
   exact aZ rfl (by rw [← hI];rfl)
termination_by SizeOf.sizeOf x
decreasing_by exact T.lt hy
theorem ab4 (x:T):Pure Tryz.prog 175 [x.av] (.bool ((gV x 2000 1).2 && x.shaped)):=by
 refine fun H=>XN.2.calls rfl ?_
 simp only [XN,aF]
 simp +contextual only [sZ,Nat.reduceEqDiff,Nat.reduceAdd,↓reduceIte]
 refine ae (Yt x 2000 1 (by omega) (by omega) (by omega) (by omega)) ?_
 cases hb:(gV x 2000 1).2 <;> simp +contextual only [sZ,Nat.reduceEqDiff,Nat.reduceAdd,Nat.reduceLT,↓reduceIte,reduceCtorEq]
 ·exact aZ rfl rfl
 ·refine ae (Yu x) ?_
  simp +contextual only [sZ,Nat.reduceEqDiff,↓reduceIte,reduceCtorEq]
  exact aZ rfl rfl
end Go.aL
end
section
set_option maxRecDepth 100000
namespace Go.aL
open Go Go.Proofs
mutual
def T.sz:T→Int
 | .mk _ _ l=>1 + nF l
def nF:List T→Int
 | []=>0
 | x::r=>x.sz + nF r
end
mutual
def T.dp:T→Int
 | .mk _ _ l=>1 + FL l
def FL:List T→Int
 | []=>0
 | x::r=>max x.dp (FL r)
end
mutual
theorem T.wN:∀ x:T,1≤x.sz
 | .mk k n l=>by simp only [T.sz];have:=jG l;omega
theorem jG:∀ l:List T,0≤nF l
 | []=>by simp [nF]
 | x::r=>by simp only [nF];have:=T.wN x;have:=jG r;omega
end
mutual
theorem T.sQ:∀ x:T,1≤x.dp
 | .mk k n l=>by simp only [T.dp];have:=oY l;omega
theorem oY:∀ l:List T,0≤FL l
 | []=>by simp [FL]
 | x::r=>by simp only [FL];have:=T.sQ x;have:=oY r;omega
end
def eO (s:Int×Int):Prop:=2000 < s.1∨200 < s.2
mutual
theorem sR:∀ (x:T) (d:Int) (s:Int×Int),pC d s→(¬ eO (gC x d s)↔s.1 + x.sz≤2000∧d + x.dp - 1≤200)∧(¬ eO (gC x d s)→(gC x d s).1=s.1 + x.sz∧(gC x d s).2=max s.2 (d + x.dp - 1))
 | .mk k n l,d,s,h=>by
   obtain ⟨h1,h2,h3,h4,h5,h6⟩:=h
   simp only [gC,T.sz,T.dp]
   have hp:=oY l
   have ih:=zn l (d + 1) (s.1 + 1,max s.2 d) (by unfold mM;simp only;omega) (by omega) (by simp only;omega)
   simp only at ih
   refine ⟨ih.1.trans ⟨fun k=>⟨by omega,by omega⟩,fun k=>⟨by omega,by omega,by omega⟩⟩,fun k=>?_⟩
   have k1:=ih.2 k
   have k2:=ih.1.1 k
   exact ⟨by omega,by omega⟩
theorem zn:∀ (l:List T) (d:Int) (s:Int×Int),mM s→0≤d→d≤s.2 + 1→(¬ eO (k8 l d s)↔s.1 + nF l≤2000∧s.2≤200∧d + FL l - 1≤200)∧(¬ eO (k8 l d s)→(k8 l d s).1=s.1 + nF l∧(k8 l d s).2=max s.2 (d + FL l - 1))
 | [],d,s,h,h5,h6=>by
   simp only [k8,nF,FL,eO]
   exact ⟨⟨fun k=>⟨by omega,by omega,by omega⟩,fun k=>by omega⟩,fun k=>⟨by omega,by omega⟩⟩
 | x::r,d,s,h,h5,h6=>by
   obtain ⟨h1,h2,h3,h4⟩:=h
   simp only [k8]
   have J8:=x.wN
   have hd0:=x.sQ
   have hr0:=jG r
   have he0:=oY r
   simp only [nF,FL]
   by_cases ho:2000 < s.1∨200 < s.2
   ·rw [if_pos ho]
    refine ⟨⟨fun k=>absurd ho k,fun k=>?_⟩,fun k=>absurd ho k⟩
    omega
   ·rw [if_neg ho]
    have jy:pC d s:=⟨h1,by omega,h3,by omega,h5,by omega⟩
    have hx:=sR x d s jy
    have Yv:=wL x d s jy
    have RC:=sO x d s
    have ih:=zn r d (gC x d s) Yv.1 h5 (by omega)
    generalize gC x d s=t at *
    by_cases hot:eO t
    ·have hn:eO (k8 r d t):=by
      refine Classical.byContradiction fun hc=>?_
      have:=ih.1.1 hc
      unfold eO at hot
      omega
     refine ⟨⟨fun k=>absurd hn k,fun k=>?_⟩,fun k=>absurd hn k⟩
     have:=hx.1.2 (by omega)
     exact absurd hot this
    ·have k1:=hx.2 hot
     have k2:=hx.1.1 hot
     refine ⟨ih.1.trans ⟨fun k=>⟨by omega,by omega,by omega⟩,fun k=>⟨by omega,by omega,by omega⟩⟩,fun k=>?_⟩
     have k3:=ih.2 k
     exact ⟨by omega,by omega⟩
end
theorem sS (s:Int×Int):ud s=true↔eO s:=by simp [ud,eO]
mutual
theorem zp:∀ (x:T) (left d:Int),0≤left→d≤201→((gV x left d).2=true↔x.sz≤left∧d + x.dp - 1≤200)∧((gV x left d).2=true→(gV x left d).1=left - x.sz)
 | .mk k n l,left,d,h0,hd=>by
   simp only [gV,T.sz,T.dp]
   have hp:=oY l
   have hs:=jG l
   by_cases ho:left - 1 < 0∨200 < d
   ·rw [if_pos ho]
    refine ⟨⟨fun k=>(by cases k),fun k=>?_⟩,fun k=>(by cases k)⟩
    omega
   ·rw [if_neg ho]
    have ih:=zq l (left - 1) (d + 1) (by omega) (by omega)
    exact ⟨ih.1.trans ⟨fun k=>⟨by omega,by omega⟩,fun k=>⟨by omega,by omega⟩⟩,fun k=>by have:=ih.2 k;omega⟩
theorem zq:∀ (l:List T) (left d:Int),0≤left→d≤201→((mN l left d).2=true↔nF l≤left∧d + FL l - 1≤200)∧((mN l left d).2=true→(mN l left d).1=left - nF l)
 | [],left,d,h0,hd=>by simp only [mN,nF,FL];exact ⟨⟨fun _=>⟨by omega,by omega⟩,fun _=>trivial⟩,fun _=>by omega⟩
 | x::r,left,d,h0,hd=>by
   simp only [mN,nF,FL]
   have J8:=x.wN
   have hd0:=x.sQ
   have hr0:=jG r
   have he0:=oY r
   have hx:=zp x left d h0 hd
   have hle:=Bh x left d
   cases hb:(gV x left d).2 with
   | false=>
     rw [if_neg (by simp)]
     refine ⟨⟨fun k=>(by cases k),fun k=>?_⟩,fun k=>(by cases k)⟩
     have:=hx.1.2 (by omega)
     rw [hb] at this;cases this
   | true=>
     rw [if_pos rfl]
     have k1:=hx.2 hb
     have k2:=hx.1.1 hb
     have ih:=zq r (gV x left d).1 d ((hle.2 h0).2 hb) hd
     exact ⟨ih.1.trans ⟨fun k=>⟨by omega,by omega⟩,fun k=>⟨by omega,by omega⟩⟩,fun k=>by have:=ih.2 k;omega⟩
end
theorem T.cr (x:T):x.tree=true↔x.sz≤2000∧x.dp≤200∧x.shaped=true:=by
 have h:=(sR x 1 (0,0) (by unfold pC;simp)).1
 unfold T.tree
 rw [Bool.and_eq_true,Bool.not_eq_true',← Bool.not_eq_true,sS]
 constructor
 ·rintro ⟨h1,h2⟩
  have:=h.1 h1
  simp only at this
  exact ⟨by omega,by omega,h2⟩
 ·rintro ⟨h1,h2,h3⟩
  exact ⟨h.2 (by simp only;omega),h3⟩
theorem UE (x:T):((gV x 2000 1).2 && x.shaped)=x.tree:=by
 have h:=(zp x 2000 1 (by omega) (by omega)).1
 rw [Bool.eq_iff_iff,Bool.and_eq_true,h,T.cr]
 constructor
 ·rintro ⟨⟨h1,h2⟩,h3⟩;exact ⟨h1,by omega,h3⟩
 ·rintro ⟨h1,h2,h3⟩;exact ⟨⟨h1,by omega⟩,h3⟩
theorem Yw (x:T):Pure Tryz.prog 175 [x.av] (.bool x.tree):=by rw [← UE];exact ab4 x
def ents (vs:List Int):List (AV×AV):=vs.map fun v=>(.int .i64 v,.bool true)
def iI:List Int→AV
 | []=>.ah
 | v::r=>.al 1 (ints (v::r))
theorem jK (vs:List Int) (n:Int):AV.al 1 (ints (vs++[n]))=iI (vs++[n]):=by
 cases vs <;> rfl
theorem LI (vs:List Int):(iI vs).one=true:=by cases vs <;> rfl
theorem LJ (k:Nat) (vs:List Int):(iI vs).aV k=true:=by
 cases vs with
 | nil=>rfl
 | cons v r=>simp only [iI,b9,bb]
theorem sT (vs:List Int) (n:Int) (o:Nat) (ψ:List AV→Prop):bn 1 8 (iI vs) (.al o [.int .i64 n]) ψ=((vs.length + 1) * 8≤140737488355328∧ψ (ints (vs++[n]))):=by
 cases vs with
 | nil=>simp [iI,mH,ok_int,ints]
 | cons v r=>
   show bn 1 8 (.al 1 (ints (v::r))) _ ψ=_
   rw [mI,ok_int,aw,sN]
   simp
mutual
def LK:T→List Int→List Int
 | .mk k n l,vs=>wO l (if k=1∧n∉vs then vs++[n] else vs)
def wO:List T→List Int→List Int
 | [],vs=>vs
 | x::r,vs=>wO r (LK x vs)
end
end Go.aL
end
section
set_option maxRecDepth 100000
namespace Go.aL
open Go Go.Proofs
mutual
def nu (f:Int→T):T→T
 | .mk k n l=>if k=1 then f n else .mk k n (gW f l)
def gW (f:Int→T):List T→List T
 | []=>[]
 | x::r=>nu f x::gW f r
end
theorem eN (f:Int→T):∀ l,gW f l=l.map (nu f)
 | []=>rfl
 | x::r=>by simp [gW,eN f r]
theorem uZ (f:Int→T) (x:T):nu f x=if x.k=1 then f x.n else .mk x.k x.n (gW f x.l):=by cases x;simp only [nu,T.k,T.n,T.l];rfl
def sU:List T→AV
 | []=>.ah
 | v::r=>.al 3 (bC (v::r))
theorem Dx (l:List T) (x:T):bC l++[x.av]=bC (l++[x]):=by simp [mK]
theorem oZ (vs:List T) (n:T):AV.al 3 (bC (vs++[n]))=sU (vs++[n]):=by
 cases vs <;> rfl
theorem wP (vs:List T):(sU vs).one=true:=by cases vs <;> rfl
theorem wQ (k:Nat) (vs:List T):(sU vs).aV k=true:=by
 cases vs with
 | nil=>rfl
 | cons v r=>simp only [sU,b9,dq]
theorem u0 (b:Nat) (vs:List T) (n:T) (o:Nat) (ψ:List AV→Prop):bn 3 b (sU vs) (.al o [n.av]) ψ=((vs.length + 1) * b≤140737488355328∧ψ (bC (vs++[n]))):=by
 cases vs with
 | nil=>simp [sU,mH,PZ,bC]
 | cons v r=>
   show bn 3 b (.al 3 (bC (v::r))) _ ψ=_
   rw [mI,PZ,oX,Dx]
   simp
theorem zr (vs:List T):(sU vs).drop=.al 0 (bC vs):=by cases vs <;> rfl
theorem ct {x:T} (h:x.shaped=true):x.l.length≤8∧∀ y∈x.l,y.shaped=true:=by
 rw [x.de,Bool.and_eq_true,Bool.not_eq_true',Bool.or_eq_false_iff] at h
 have h1:=h.1.2
 have h2:=h.2
 rw [oh] at h2
 exact ⟨by simpa using h1,fun y hy=>List.all_eq_true.1 h2 y hy⟩
theorem mO (f:Int→T) {l:List T} {i:Nat} (h:i < l.length):gW f (l.take (i + 1))=gW f (l.take i)++[nu f (l.getD i default)]:=by
 rw [eN,eN,List.take_add_one,List.map_append]
 simp [h]
theorem P1 (g:Nat) (cap:List AV) (f:Int→T) (x:T) (cj:cap.map AV.ab=cap) (hb:aj 0 cap=true) (hf:∀ n,Pure Tryz.prog g ([.int .i64 n]++cap) (f n).av) (hs:x.shaped=true) :
 Pure Tryz.prog 176 [x.av,.fn (.func g) [] cap] (nu f x).av:=by
 have ih:∀ y∈x.l,Pure Tryz.prog 176 [y.av,.fn (.func g) [] cap] (nu f y).av:=fun y hy=>P1 g cap f y cj hb hf ((ct hs).2 y hy)
 refine fun H=>XO.2.calls rfl ?_
 simp only [XO,aF]
 have hl8:=(ct hs).1
 simp +contextual only [cj,sZ,Nat.reduceEqDiff,Nat.reduceAdd,↓reduceIte,reduceCtorEq]
 refine ⟨fun hk=>ae (hf x.n) ?_,fun hk _=>?_⟩
 ·simp +contextual only [sZ,Nat.reduceEqDiff,Nat.reduceAdd,↓reduceIte,reduceCtorEq]
  exact rn (T.bY _ _) (by rw [uZ,if_pos hk])
 ·refine aD x.l.length (fun _=>True) (fun i=>[(1,.fn (.func g) [] cap),(4,.ptr H.length 0),(5,.ptr (H.length + 1) 0),(21,.al 0 (bC x.l)),(22,.int .i64 x.l.length),(23,.int .i64 i)])
   (fun i=>H++[.cells [.int .i64 0,.int .i64 0,.ah],.cells [.int .i64 x.k,.int .i64 x.n,sU (gW f (x.l.take i))]]) ⟨trivial,aA _ _ _⟩ fun i hi hI=>?_
  simp +contextual only [zr,sZ,Nat.reduceEqDiff,Nat.reduceAdd,Nat.reduceLT,↓reduceIte,reduceCtorEq]
  refine ⟨fun aK=>⟨bi aK,?_,?_⟩,fun gr=>?_⟩
  ·have aK:=bi aK
   refine ae (ih _ (cq aK)) ?_
   simp +contextual only [u0,oZ,wP,wQ,sZ,Nat.reduceEqDiff,Nat.reduceAdd,Nat.reduceLT,↓reduceIte]
   refine ⟨by rw [eN];simp;omega,i + 1,aK,by omega,aC (by rw [au i (by omega)]) ?_⟩
   rw [mO f aK]
  ·have aK:=bi aK
   refine ae (ih _ (cq aK)) ?_
   simp +contextual only [u0,oZ,wP,wQ,sZ,Nat.reduceEqDiff,Nat.reduceAdd,Nat.reduceLT,↓reduceIte]
   refine ⟨by rw [eN];simp;omega,i + 1,aK,by omega,aC (by rw [au i (by omega)]) ?_⟩
   rw [mO f aK]
  ·rw [List.take_of_length_le (cb gr)]
   refine rn (by simp only [og,bH,fM,b9,dq,cP,Bool.and_self]) ?_
   rw [uZ,if_neg hk];rfl
termination_by SizeOf.sizeOf x
decreasing_by exact T.lt hy
def T0:T:=.mk 0 0 []
end Go.aL
end
section
set_option maxRecDepth 100000
namespace Go.aL
open Go Go.Proofs
end Go.aL
end
section
set_option maxRecDepth 100000
namespace Go.aL
open Go Go.RowKit
mutual
def T.wf:T→Prop
 | .mk k n l=>(-9223372036854775808≤k∧k≤9223372036854775807)∧(-9223372036854775808≤n∧n≤9223372036854775807)∧l.length≤9223372036854775807∧UF l
def UF:List T→Prop
 | []=>True
 | x::r=>x.wf∧UF r
end
theorem Hi:∀ l:List T,UF l↔∀ x∈l,x.wf
 | []=>by simp [UF]
 | x::r=>by simp [UF,Hi r]
section
variable {H:Type} {enc:TypeId×Value→H} {P:Program} {w:World} {base:Nat} {sp:Nat→Bool} {held:Bool}
structure wR (P:Program) (ti tt tl:TypeId):Prop where
 int:P.underlying ti=some (.int .i64)
 tree:∃ f0 f1 f2:Field,P.underlying tt=some (.struct #[f0,f1,f2])∧f0.type=ti∧f0.offset=0∧f1.type=ti∧f1.offset=1∧f2.type=tl∧f2.offset=2
 list:P.underlying tl=some (.slice tt)
 c1:P.cellsOf ti=1
 c3:P.cellsOf tt=3
 cl:P.cellsOf tl=1
theorem LL {n:Int} (h:(Lit.int .i64 n).wf=true):-9223372036854775808≤n∧n≤9223372036854775807:=by
 simp only [Lit.wf,Bool.and_eq_true,decide_eq_true_eq] at h
 revert h
 simp [IntKind.min,IntKind.max,IntKind.signed,IntKind.bits]
theorem FM {n:Nat} {p:Nat→T→Prop} (h:∀ i,i < n→∃ t,p i t):∃ f:Nat→T,∀ i,i < n→p i (f i):=by
 refine ⟨fun i=>if hi:i < n then Classical.choose (h i hi) else default,fun i hi=>?_⟩
 simp only [dif_pos hi]
 exact Classical.choose_spec (h i hi)
def isT (w:World) (cs:List Value) (t:T):Prop:=aM (fh w) [] cs t.av.cells∧t.wf
def UG (w:World) (cs:List Value) (l:List T):Prop:=(∃ v,cs=[v]∧(∃ y,aS (fh w) [] v y∧(y=.al 0 (bC l)∨(y=.ah∧l=[]))))∧l.length≤9223372036854775807∧UF l
theorem UG.Wj {cs:List Value} {l:List T} (h:UG w cs l):∃ v,cs=[v]∧aS (fh w) [] v (.al 0 (bC l)):=by
 obtain ⟨⟨v,rfl,y,hr,hy⟩,_⟩:=h
 refine ⟨v,rfl,?_⟩
 rcases hy with rfl | ⟨rfl,rfl⟩
 ·exact hr
 ·exact hr.drop
def Dy (d:DataW H) (l:List T):Prop:=match d with | .slice es _=>l.length=es.length | _=>l=[]
theorem zt {ti tt tl:TypeId} (hT:wR P ti tt tl):∀ (fuel:Nat),
 (∀ (cs:List Value) (x:DataW H×List MemPlace),DataW.trod enc P w base sp held fuel tt cs=some x→∃ t:T,isT w cs t)∧
 (∀ (cs:List Value) (x:DataW H×List MemPlace),DataW.trod enc P w base sp held fuel tl cs=some x→∃ l:List T,UG w cs l∧Dy x.1 l):=by
 intro fuel
 induction fuel with
 | zero=>exact ⟨fun cs x h=>by simp [DataW.trod] at h,fun cs x h=>by simp [DataW.trod] at h⟩
 | succ n ih=>
   refine ⟨fun cs x h=>?_,fun cs x h=>?_⟩
   ·obtain ⟨f0,f1,f2,hu,h0,o0,h1,o1,h2,o2⟩:=hT.tree
    obtain ⟨xs,m,hm,rfl,hlen,fP,hf⟩:=DataW.trod_struct hu h
    cases hm
    have g0:=hf 0 f0 rfl
    have g1:=hf 1 f1 rfl
    have g2:=hf 2 f2 rfl
    rw [h0,o0,hT.c1] at g0
    rw [h1,o1,hT.c1] at g1
    rw [h2,o2,hT.cl] at g2
    simp at fP
    rw [hT.c3] at hlen
    match cs,hlen with
    | [a,b,c],_=>
      have e0:xs[0]?=some xs[0]:=by simp [fP]
      have e1:xs[1]?=some xs[1]:=by simp [fP]
      have e2:xs[2]?=some xs[2]:=by simp [fP]
      rw [e0] at g0;rw [e1] at g1;rw [e2] at g2
      obtain ⟨k,ek,_,wk⟩:=DataW.trod_int hT.int g0
      obtain ⟨q,eq,_,wq⟩:=DataW.trod_int hT.int g1
      obtain ⟨l,hl,_⟩:=ih.2 _ _ g2
      obtain ⟨v,ev,hv⟩:=hl.Wj
      simp at ek eq ev
      subst ek eq ev
      exact ⟨.mk k q l,.cons _ _ _ _ (.int _ _) (.cons _ _ _ _ (.int _ _) (.cons _ _ _ _ hv .nil)),LL wk,LL wq,hl.2.1,hl.2.2⟩
   ·rcases DataW.trod_slice hT.list h with ⟨rfl,rfl⟩ | ⟨a,len,cap,elems,rest,m,hm,rfl,rfl,hb,hle,cj,VO,jQ,_,_⟩
    ·exact ⟨[],⟨⟨_,rfl,.ah,.ah,.inr ⟨rfl,rfl⟩⟩,by simp,trivial⟩,rfl⟩
    cases hm
    rw [hT.c3] at jQ
    have hex:∀ i,i < len→∃ t:T,∃ cs',w.cells? base (a.add (i * 3)) 3=some cs'∧isT w cs' t:=by
     intro i hi
     have:=jQ i hi
     rw [List.getElem?_eq_getElem (by omega)] at this
     obtain ⟨cs',k1,k2⟩:=Option.bind_eq_some_iff.1 this
     obtain ⟨t,ht⟩:=ih.1 _ _ k2
     exact ⟨t,cs',k1,ht⟩
    obtain ⟨f,hf⟩:=FM hex
    have VN:maxLen=9223372036854775807:=rfl
    refine ⟨(List.range len).map f,⟨⟨_,rfl,_,?_,.inl rfl⟩,by simp;omega,?_⟩,by simp [Dy,VO]⟩
    ·rw [mK,List.map_map]
     refine zh (e:=3) (base:=base) (by decide) hle cj (fun i=>if hi:i < len then Classical.choose (hf i hi) else []) _ fun i hi=>?_
     simp only [dif_pos hi]
     obtain ⟨k1,k2⟩:=Classical.choose_spec (hf i hi)
     exact ⟨k1,k2.1⟩
    ·rw [Hi]
     intro x hx
     obtain ⟨i,hi,rfl⟩:=List.mem_map.1 hx
     obtain ⟨cs',_,k2⟩:=hf i (List.mem_range.1 hi)
     exact k2.2
theorem Bi {ti tt tl:TypeId} (hT:wR P ti tt tl) {r:Reach} {b0:Nat} {v:Value} {d:DataW H} {ps:List MemPlace} (ic:Value.okWide P w r b0 tt v) (hd:DataW.Trod enc P w base sp held tt v d ps) :
 ∃ t:T,aS (fh w) [] v t.av∧t.wf:=by
 obtain ⟨f0,f1,f2,hu,_⟩:=hT.tree
 obtain ⟨cs,rfl,_⟩:=WideShapes.okWide_struct hu ic
 obtain ⟨fuel,hf⟩:=hd
 obtain ⟨t,h1,h2⟩:=(zt hT fuel).1 _ _ hf
 refine ⟨t,?_,h2⟩
 have:aS (fh w) [] (.agg cs.toList.toArray) (.agg t.av.cells):=.agg _ _ h1
 rw [t.lJ] at this
 simpa using this
theorem P2 {ti tt tl:TypeId} (hT:wR P ti tt tl) {r:Reach} {b0:Nat} {v:Value} {d:DataW H} {ps:List MemPlace} (ic:Value.okWide P w r b0 tl v) (hd:DataW.Trod enc P w base sp held tl v d ps) :
 ∃ l:List T,aS (fh w) [] v (.al 0 (bC l))∧Dy d l∧UF l:=by
 obtain ⟨a,len,cap,rfl⟩:=WideShapes.okWide_slice hT.list ic
 obtain ⟨fuel,hf⟩:=hd
 obtain ⟨l,hl,hlen⟩:=(zt hT fuel).2 _ _ hf
 obtain ⟨v,hv,hr⟩:=hl.Wj
 simp [Value.cells] at hv
 subst hv
 exact ⟨l,hr,hlen,hl.2.2⟩
theorem P3 {ti tt tl:TypeId} (hT:wR P ti tt tl) {ts:List TypeId} {ds:List (DataW H)} (h:(DataW.weightsEach P ts ds).all (·≤reachBytes)=true) {j:Nat} {d:DataW H} {l:List T} (ht:ts[j]?=some tl) (hd:ds[j]?=some d) (hl:Dy d l) :
 l.length * P.bytesOf tt≤reachBytes:=by
 unfold Dy at hl
 split at hl
 ·rename_i es sp
  have:=sized_slice h ht hd hT.list
  rw [hl]
  exact Nat.le_trans (Nat.mul_le_mul_right _ (Nat.le_add_right _ _)) this
 ·subst hl;simp
end
end Go.aL
end
section
end
section
set_option maxRecDepth 100000
namespace Go.aL
open Go Go.Proofs
mutual
def T.fv:T→List Int
 | .mk k n l=>if k=1 then n::FN l else FN l
def FN:List T→List Int
 | []=>[]
 | x::r=>x.fv++FN r
end
mutual
theorem Jh:∀ (x:T) (vs:List Int) (v:Int),v∈LK x vs↔v∈vs∨v∈x.fv
 | .mk k n l,vs,v=>by
   simp only [LK,T.fv]
   rw [wS l _ v]
   by_cases hk:k=1
   ·by_cases hn:n∈vs
    ·simp only [hk,hn,not_true_eq_false,and_false,if_false,if_true,List.mem_cons]
     constructor
     ·rintro (h | h)
      ·exact .inl h
      ·exact .inr (.inr h)
     ·rintro (h | h | h)
      ·exact .inl h
      ·subst h;exact .inl hn
      ·exact .inr h
    ·simp only [hk,hn,not_false_eq_true,and_self,if_true,List.mem_append,List.mem_cons,List.not_mem_nil,or_false,or_assoc]
   ·simp only [hk,false_and,if_false]
theorem wS:∀ (l:List T) (vs:List Int) (v:Int),v∈wO l vs↔v∈vs∨v∈FN l
 | [],vs,v=>by simp [wO,FN]
 | x::r,vs,v=>by
   simp only [wO,FN,List.mem_append]
   rw [wS r _ v,Jh x vs v,or_assoc]
end
mutual
theorem zw:∀ (x:T),x.shaped=true→∀ v∈x.fv,0≤v
 | .mk k n l,h,v,hv=>by
   rw [T.de] at h
   simp only [T.k,T.n,T.l,Bool.and_eq_true,Bool.not_eq_true',Bool.or_eq_false_iff] at h
   simp only [T.fv] at hv
   split at hv
   ·rcases List.mem_cons.1 hv with rfl | hv
    ·have h9:=h.1.1.1.1
     exact Int.not_lt.1 (of_decide_eq_false h9)
    ·exact qd l h.2 v hv
   ·exact qd l h.2 v hv
theorem qd:∀ (l:List T),dD l=true→∀ v∈FN l,0≤v
 | [],_,v,hv=>by cases hv
 | x::r,h,v,hv=>by
   simp only [dD,Bool.and_eq_true] at h
   simp only [FN,List.mem_append] at hv
   rcases hv with hv | hv
   ·exact zw x h.1 v hv
   ·exact qd r h.2 v hv
end
theorem FO {k n:Int} {l:List T} (h:(T.mk k n l).shaped=true) (hk:k=1):l=[]:=by
 rw [T.de] at h
 simp only [T.k,T.n,T.l,Bool.and_eq_true,Bool.not_eq_true',Bool.or_eq_false_iff,Bool.and_eq_false_iff] at h
 cases l with
 | nil=>rfl
 | cons x r=>
   rcases h.1.1.1.2 with h2 | h2
   ·simp [hk] at h2
   ·simp at h2
theorem FP {k n:Int} {l:List T} (h:(T.mk k n l).shaped=true):dD l=true:=by
 rw [T.de,Bool.and_eq_true] at h
 exact h.2
def ren (g:Int→Int) (t:T):T:=nu (fun n=>.mk 1 (g n) []) t
mutual
theorem FQ:∀ (x:T),x.shaped=true→ren (fun n=>n) x=x
 | .mk k n l,h=>by
   simp only [ren,nu]
   by_cases hk:k=1
   ·rw [if_pos hk,FO h hk,hk]
   ·rw [if_neg hk,Hj l (FP h)]
theorem Hj:∀ (l:List T),dD l=true→gW (fun n=>.mk 1 n []) l=l
 | [],_=>rfl
 | x::r,h=>by
   simp only [dD,Bool.and_eq_true] at h
   simp only [gW]
   have h1:=FQ x h.1
   unfold ren at h1
   rw [h1,Hj r h.2]
end
end Go.aL
end
