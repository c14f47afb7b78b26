/- Part 9 of 20 of the proof. -/
import Derived.Test.YtljchnfgjdjobaaGreatProg
import Derived.KernelRfl
import Derived.Test.YtljchnfgjdjobaaGreatXah
import Derived.Test.YtljchnfgjdjobaaGreatXaf
set_option linter.unusedVariables false
set_option linter.unusedSimpArgs false
set_option linter.defProp false
set_option linter.unusedSectionVars false
noncomputable section
set_option maxRecDepth 100000
set_option maxHeartbeats 0
namespace Go.aI
open Go Go.Proofs
def k17:=aH Tryz.call17 Tryz.func17 Tryz.ntmps17 [(1,1,1000),(2,3,1000),(3,3,1000),(4,3,1000),(10,10,1000),(18,6,1000)] [(0,[]),(1,[1]),(2,[1,2]),(3,[1,2,3]),(4,[1,2,3,4]),(5,[1,2,3,4,5,6]),(6,[1,2,3,4,5,6,7,8]),(7,[1,2,3,4,5,6,7,8,9,10]),(8,[1,2,3,4,5,6,69]),(9,[0]),(10,[1,2,3,4,5,6,8,11,12]),(11,[1,2,3,4,105]),(12,[0]),(13,[1,2,4,8,13]),(14,[1,2,4,8,10,13,14]),(15,[1,2,4,160]),(16,[0]),(17,[1,2,8,12,15]),(18,[1,2,8,10,12,15,16,17]),(19,[1,2,207]),(20,[0]),(21,[8,18]),(22,[0])] [(5,(tkq 0 5 (.take 5 false (.take 6 false (.take 7 false (.take 8 false (.take 9 false (.br 10 (.br 11 (.br 12 (.br 13 .done .nil) .nil) .nil) (.br 11 (.br 10 (.br 12 (.br 13 .done .nil) .nil) .nil) .nil))))))))),(13,(tkq 3 8 (tkq 0 3 (tkq 11 5 (.take 16 true .done))))),(14,(tkq 3 8 (tkq 0 3 (tkq 11 5 (.take 16 true .done))))),(21,(tkq 3 9 (tkq 0 3 (tkq 12 6 (.take 18 true .done)))))]
def k18:=aH Tryz.call18 Tryz.func18 Tryz.ntmps18 [(0,0,1),(0,1,1)] [(0,[2,3]),(1,[4])] []
def k19:=aH Tryz.call19 Tryz.func19 Tryz.ntmps19 [(3,2,2000)] [(0,[1,2]),(1,[1,2,5]),(2,[1,5]),(3,[4])] []
def k20:=aH Tryz.call20 Tryz.func20 Tryz.ntmps20 [(0,0,1),(0,1,1),(0,2,1),(0,3,1),(5,7,2000)] [(0,[4,5,6,7]),(1,[5,6,7,10]),(2,[5,6,7,10,20]),(3,[8,9]),(4,[11,12]),(5,[8,9])] [(5,(tkq 0 7 (.br 7 (.take 8 true (.take 9 true .done)) .nil)))]
def k22:=aH Tryz.call22 Tryz.func22 Tryz.ntmps22 [(0,0,1),(0,1,1),(0,2,1),(0,3,1),(5,7,2000)] [(0,[4,5,6,7]),(1,[5,6,7,10]),(2,[5,6,7,10,20]),(3,[8,9]),(4,[11,12]),(5,[8,9])] [(5,(tkq 0 7 (.br 7 (.take 8 true (.take 9 true .done)) .nil)))]
def k24:=aH Tryz.call24 Tryz.func24 Tryz.ntmps24 [(0,0,1),(0,1,1)] [(0,[2,3]),(1,[2,3,5]),(2,[2,3,5,15]),(3,[4]),(4,[3,32]),(5,[4]),(6,[3,6]),(7,[3,6,35,36,37]),(8,[3,6,35,36,37,38]),(9,[3,6,7,8,35,36,37]),(10,[3,6,8,9,35,36,37]),(11,[3,6,8,9,10,11,35,36,37]),(12,[3,6,8,9,35,36,37,74]),(13,[4]),(14,[3,6,35,36,37]),(15,[3,6,35,36,37]),(16,[4])] []
def k25:=aH Tryz.call25 Tryz.func25 Tryz.ntmps25 [(0,0,1),(0,1,1)] [(0,[2,3]),(1,[2,3,5]),(2,[2,3,5,10]),(3,[4]),(4,[6]),(5,[16]),(6,[4]),(7,[4])] []
def k27:=aH Tryz.call27 Tryz.func27 Tryz.ntmps27 [(0,0,1),(0,1,1),(0,2,1),(0,3,1),(5,7,2000),(7,7,2000)] [(0,[4,5,6,7,8]),(1,[5,6,7,8,11]),(2,[5,6,7,8,11,21]),(3,[8,9,10]),(4,[8,12,13]),(5,[8,12,13,40]),(6,[8,9,10]),(7,[8,9,10])] [(5,(tkq 0 7 (.br 7 (.take 8 true .done) .nil))),(7,(tkq 0 7 (.br 7 (.br 8 (.take 9 true (.take 10 true .done)) .nil) .nil)))]
def k28:=aH Tryz.call28 Tryz.func28 Tryz.ntmps28 [(0,0,1),(0,1,1),(0,2,1),(0,3,1),(0,4,1),(5,8,2000)] [(0,[5,6,7,8,9]),(1,[6,7,8,9,11]),(2,[6,7,8,9,11,21]),(3,[10]),(4,[9,12,13]),(5,[40]),(6,[10]),(7,[10])] [(5,(tkq 0 8 (.br 8 (.take 9 true .done) .nil)))]
def k30:=aH Tryz.call30 Tryz.func30 Tryz.ntmps30 [(0,0,1),(6,2,1000),(7,0,1),(7,7,1),(12,2,1000),(13,0,1),(13,7,1)] [(0,[1]),(1,[1,11]),(2,[2]),(3,[1,3]),(4,[1,3,13,14,15]),(5,[1,3,13,14,15,16]),(6,[1,3,5,13,14,15]),(7,[1,3,5,13,14,15]),(8,[1,3,5,13,14,15,35]),(9,[2]),(10,[1,3,13,14,15,37,38,39]),(11,[1,3,13,14,15,37,38,39,40]),(12,[1,3,7,13,14,15,37,38,39]),(13,[1,3,13,14,15,37,38,39]),(14,[1,3,13,14,15,37,38,39]),(15,[1,3,13,14,15]),(16,[2])] []
def k31:=aH Tryz.call31 Tryz.func31 Tryz.ntmps31 [(0,0,1),(0,1,1)] [(0,[2,3]),(1,[2,3,7]),(2,[2,3,7,13]),(3,[4,5,6]),(4,[2,3,8]),(5,[2,3,8,20]),(6,[4,5,6]),(7,[9]),(8,[4,5,6])] []
def k33:=aH Tryz.call33 Tryz.func33 Tryz.ntmps33 [(0,0,1),(0,1,1)] [(0,[2,3]),(1,[6,7]),(2,[7,19]),(3,[4]),(4,[4])] []
def k35:=aH Tryz.call35 Tryz.func35 Tryz.ntmps35 [(0,0,1),(7,6,1000)] [(0,[1,2]),(1,[1,2,5]),(2,[1,2,5,12]),(3,[2,3,4]),(4,[1,2,6]),(5,[1,2,6,19]),(6,[2,3,4]),(7,[2,7,8]),(8,[2,3,4])] []
def k36:=aH Tryz.call36 Tryz.func36 Tryz.ntmps36 [(0,0,1),(13,5,1000)] [(0,[1,2]),(1,[1,2,5]),(2,[1,2,5,16]),(3,[2,3,4]),(4,[1,2,6]),(5,[1,2,6,23]),(6,[2,3,4]),(7,[1,2,6,7]),(8,[1,2,6,7,8]),(9,[1,2,6,7,28]),(10,[1,2,6,7,9]),(11,[1,2,6,7,9,10]),(12,[1,2,6,7,9,34]),(13,[1,2,6,7,9,11]),(14,[1,2,6,7,9,11,12]),(15,[1,2,6,7,9,11,50]),(16,[2,3,4]),(17,[1,2,6,7,9,10]),(18,[1,2,6,7,8]),(19,[2,3,4])] []
def k38:=aH Tryz.call38 Tryz.func38 Tryz.ntmps38 [(0,0,1),(0,1,1),(15,0,1),(15,7,1)] [(0,[2,3,4]),(1,[2,4,8]),(2,[2,4,8,18]),(3,[6,7]),(4,[2,4,22]),(5,[6,7]),(6,[2,4,9]),(7,[2,4,9,10]),(8,[2,4,9,10,11]),(9,[2,4,9,10,11,29]),(10,[2,4,9,10,11]),(11,[2,4,9,10,11,12]),(12,[2,4,9,10,11,12,37]),(13,[6,7]),(14,[2,4,9,10,11,12]),(15,[2,4,9,10,11]),(16,[6,7])] []
def k39:=aH Tryz.call39 Tryz.func39 Tryz.ntmps39 [(0,0,1),(0,1,1)] [(0,[2,3]),(1,[2,3,22]),(2,[4]),(3,[2,3,5]),(4,[2,3,5,27]),(5,[2,3,5]),(6,[2,3,5,40]),(7,[4]),(8,[2,3,6]),(9,[2,3,6,45]),(10,[2,3,6]),(11,[2,3,6,58]),(12,[4]),(13,[4])] [(6,(tkq 0 10 (.take 10 true .done))),(11,(tkq 0 10 (.take 10 true .done)))]
def k40:=aH Tryz.call40 Tryz.func40 Tryz.ntmps40 [(6,4,1000),(7,3,2000)] [(0,[0,1,2]),(1,[0,1,2,14]),(2,[6]),(3,[1,2,15,16,17]),(4,[1,2,15,16,17,18]),(5,[1,2,7,8,15,16,17]),(6,[1,2,8,9,15,16,17]),(7,[1,2,15,16,17,30]),(8,[6]),(9,[1,2,15,16,17]),(10,[6])] []
def k41:=aH Tryz.call41 Tryz.func41 Tryz.ntmps41 [(0,0,1),(0,1,1)] [(0,[2,3]),(1,[2,3,26]),(2,[4]),(3,[2,3,5]),(4,[2,3,5,31]),(5,[2,3,5]),(6,[2,3,5,45]),(7,[4]),(8,[4])] [(6,(tkq 0 11 (.take 11 true .done)))]
def V7:=aH Tryz.call53 Tryz.func53 Tryz.ntmps53 [(1,2,2000)] [(0,[0,1]),(1,[4])] []
def k55:=aH Tryz.call55 Tryz.func55 Tryz.ntmps55 [(0,0,1),(0,1,1)] [(0,[2,3]),(1,[4])] []
def k59:=aH Tryz.call59 Tryz.func59 Tryz.ntmps59 [] [(0,[0,2]),(1,[2])] []
def k62:=aH Tryz.call62 Tryz.func62 Tryz.ntmps62 [(0,0,1)] [(0,[1]),(1,[5]),(2,[2]),(3,[2])] []
def Xg:IR:=(.seq (.region [⟨none,some 0,(.alloc (.agg [.ag,.ag,.ag]))⟩] (.some [0])) (.seq (.region [⟨none,some 2,(.buildSlice 0 1 (.str ⟨#[]⟩) 1 [(0,(.c (.str ⟨#[78]⟩)))])⟩,⟨none,some 3,(.build (.agg [(.str ⟨#[]⟩),.ag,(.int .i64 0)]) [(0,(1,(.c (.str ⟨#[122]⟩))))])⟩,⟨none,some 4,(.buildSlice 0 1 (.int .i64 0) 1 [(0,(.c (.int .i64 0)))])⟩,⟨none,some 5,(.build (.agg [(.str ⟨#[]⟩),.ag,(.int .i64 0)]) [(0,(1,(.c (.str ⟨#[115]⟩)))),(1,(1,(.t 4)))])⟩,⟨none,some 6,(.buildSlice 0 1 (.int .i64 0) 2 [(0,(.c (.int .i64 0))),(1,(.c (.int .i64 0)))])⟩,⟨none,some 7,(.build (.agg [(.str ⟨#[]⟩),.ag,(.int .i64 0)]) [(0,(1,(.c (.str ⟨#[97,100,100]⟩)))),(1,(1,(.t 6)))])⟩,⟨none,some 8,(.buildSlice 0 3 (.agg [(.str ⟨#[]⟩),.ag,(.int .i64 0)]) 3 [(0,(.t 3)),(1,(.t 5)),(2,(.t 7))])⟩,⟨none,some 9,(.build (.agg [.ag,.ag]) [(0,(1,(.t 2))),(1,(1,(.t 8)))])⟩,⟨none,some 1,(.wG 2 (.t 9))⟩] (.some [0,1])) (.seq (.draw (.take .true ⟨none,some 12,(.call (.c (.fn (.func 59) [] [])) [(.c (.int .i64 0))] .none)⟩ (.take .true ⟨none,some 13,(.call (.c (.fn (.func 65) [] [])) [(.c (.int .i64 0)),(.c .ag)] .none)⟩ (.take .true ⟨none,some 14,(.buildSlice 0 3 (.agg [(.int .i64 0),(.int .i64 0),.ag]) 2 [(0,(.t 12)),(1,(.t 13))])⟩ (.take .true ⟨none,some 15,(.call (.c (.fn (.func 65) [] [])) [(.c (.int .i64 2)),(.t 14)] .none)⟩ (.take .true ⟨none,some 16,(.call (.c (.fn (.func 59) [] [])) [(.c (.int .i64 0))] .none)⟩ (.take .true ⟨none,some 19,(.call (.c (.fn (.func 59) [] [])) [(.c (.int .i64 0))] .none)⟩ (.take .true ⟨none,some 20,(.call (.c (.fn (.func 59) [] [])) [(.c (.int .i64 1))] .none)⟩ (.take .true ⟨none,some 21,(.buildSlice 0 3 (.agg [(.int .i64 0),(.int .i64 0),.ag]) 1 [(0,(.t 20))])⟩ (.take .true ⟨none,some 22,(.call (.c (.fn (.func 65) [] [])) [(.c (.int .i64 1)),(.t 21)] .none)⟩ (.take .true ⟨none,some 23,(.buildSlice 0 3 (.agg [(.int .i64 0),(.int .i64 0),.ag]) 2 [(0,(.t 19)),(1,(.t 22))])⟩ (.take .true ⟨none,some 24,(.call (.c (.fn (.func 65) [] [])) [(.c (.int .i64 2)),(.t 23)] .none)⟩ (.take .true ⟨none,some 25,(.call (.c (.fn (.func 59) [] [])) [(.c (.int .i64 0))] .none)⟩ (.take .true ⟨none,some 26,(.call (.c (.fn (.func 59) [] [])) [(.c (.int .i64 1))] .none)⟩ (.take .true ⟨none,some 27,(.buildSlice 0 3 (.agg [(.int .i64 0),(.int .i64 0),.ag]) 2 [(0,(.t 25)),(1,(.t 26))])⟩ (.take .true ⟨none,some 28,(.call (.c (.fn (.func 65) [] [])) [(.c (.int .i64 2)),(.t 27)] .none)⟩ (.take .true ⟨none,some 29,(.buildSlice 0 3 (.agg [(.int .i64 0),(.int .i64 0),.ag]) 1 [(0,(.t 28))])⟩ (.take .true ⟨none,some 30,(.call (.c (.fn (.func 65) [] [])) [(.c (.int .i64 1)),(.t 29)] .none)⟩ (.take .true ⟨none,some 10,(.load (.some 2) (.t 1))⟩ (.take .true ⟨none,some 11,(.buildSlice 0 1 (.int .i64 0) 1 [(0,(.c (.int .i64 0)))])⟩ (.take .true ⟨none,some 17,(.build (.agg [.ag,.ag,(.int .i64 0),(.int .i64 0),.ag,(.int .i64 0),(.int .i64 0),.ag]) [(0,(1,(.t 11))),(2,(3,(.t 15))),(5,(3,(.t 16)))])⟩ (.take .true ⟨none,some 18,(.buildSlice 0 1 (.int .i64 0) 2 [(0,(.c (.int .i64 0))),(1,(.c (.int .i64 0)))])⟩ (.take .true ⟨none,some 31,(.build (.agg [.ag,.ag,(.int .i64 0),(.int .i64 0),.ag,(.int .i64 0),(.int .i64 0),.ag]) [(0,(1,(.t 18))),(2,(3,(.t 24))),(5,(3,(.t 30)))])⟩ (.take .true ⟨none,some 32,(.buildSlice 0 8 (.agg [.ag,.ag,(.int .i64 0),(.int .i64 0),.ag,(.int .i64 0),(.int .i64 0),.ag]) 2 [(0,(.t 17)),(1,(.t 31))])⟩ (.take .true ⟨none,some 33,(.build (.agg [.ag,.ag,.ag]) [(0,(2,(.t 10))),(2,(1,(.t 32)))])⟩ (.br ⟨none,none,(.store 3 (.t 0) (.t 33))⟩ .done .nil))))))))))))))))))))))))) (.some [0])) .ret)))
def Xh:qq:=⟨34,Xg,[(.c 0 (.some 3))]⟩
theorem acX:gD Tryz.prog 64 Xh:=⟨Tryz.call64,Tryz.f64,_,[(1,8,1000)],[(0,[0]),(1,[0,1]),(2,[0])],[(2,(tkq 2 5 (tkq 9 12 (.take 0 true (.take 1 true (.take 7 true (.take 8 true (tkq 21 3 (.br 24 .done .nil)))))))))],Tryz.func64,rfl,Tryz.ntmps64,by kernel_rfl,by kernel_rfl⟩
def k65:=aH Tryz.call65 Tryz.func65 Tryz.ntmps65 [] [(0,[0,1,4]),(1,[4])] []
def k66:=aH Tryz.call66 Tryz.func66 Tryz.ntmps66 [] [(0,[0,1]),(1,[0,1,10]),(2,[4]),(3,[0,1,12,13]),(4,[0,1,12,13,14]),(5,[0,1,5,12,13]),(6,[0,1,12,13,24]),(7,[4]),(8,[0,1,12,13]),(9,[4])] [(6,(tkq 0 8 (.take 8 true .done)))]
def k67:=aH Tryz.call67 Tryz.func67 Tryz.ntmps67 [(1,2,2000)] [(0,[0,1]),(1,[4])] []
def k68:=aH Tryz.call68 Tryz.func68 Tryz.ntmps68 [(0,0,1)] [(0,[1]),(1,[2])] []
def k69:=aH Tryz.call69 Tryz.func69 Tryz.ntmps69 [(1,2,2000)] [(0,[0,1]),(1,[4])] []
def k70:=aH Tryz.call70 Tryz.func70 Tryz.ntmps70 [] [(0,[0]),(1,[2])] []
def k71:=aH Tryz.call71 Tryz.func71 Tryz.ntmps71 [(0,0,1),(0,1,1),(2,10,2000)] [(0,[2,3,4,5]),(1,[2,3,4,5]),(2,[6])] []
def k72:=aH Tryz.call72 Tryz.func72 Tryz.ntmps72 [(0,0,1),(1,4,2000)] [(0,[1,2,3]),(1,[4])] []
def k73:=aH Tryz.call73 Tryz.func73 Tryz.ntmps73 [(0,0,1),(1,2,2000)] [(0,[1,2]),(1,[3])] []
def k74:=aH Tryz.call74 Tryz.func74 Tryz.ntmps74 [(0,0,1),(0,1,1),(6,2,1000)] [(0,[2,3,4]),(1,[2,3,7]),(2,[2,3,7,14]),(3,[6]),(4,[3,16,17,18]),(5,[3,16,17,18,19]),(6,[3,9,16,17,18]),(7,[3,16,17,18,30]),(8,[6]),(9,[3,16,17,18]),(10,[6])] []
def k76:=aH Tryz.call76 Tryz.func76 Tryz.ntmps76 [(0,0,1),(0,1,1),(0,2,1),(1,7,2000)] [(0,[3,4,5]),(1,[6])] [(1,(tkq 0 7 (.br 7 (.take 8 true .done) .nil)))]
def k77:=aH Tryz.call77 Tryz.func77 Tryz.ntmps77 [(0,0,1),(0,1,1)] [(0,[2,3,4]),(1,[2,3,7]),(2,[2,3,7,14]),(3,[6]),(4,[2,3,8]),(5,[2,3,8,19]),(6,[2,3,8]),(7,[2,3,8,9]),(8,[2,3,8,29]),(9,[6]),(10,[6])] [(7,(tkq 0 6 (.take 6 true .done)))]
def k78:=aH Tryz.call78 Tryz.func78 Tryz.ntmps78 [(0,0,1),(0,1,1),(0,2,1)] [(0,[3,4,5]),(1,[7]),(2,[6])] [(2,(tkq 0 20 (.take 20 true .done)))]
def k79:=aH Tryz.call79 Tryz.func79 Tryz.ntmps79 [(0,0,1),(0,1,1),(0,2,1),(1,7,2000)] [(0,[3,4,5]),(1,[6])] [(1,(tkq 0 7 (.br 7 (.take 8 true .done) .nil)))]
def Xi:IR:=(.seq (.region [⟨none,some 1,(.qQ (.t 0))⟩,⟨none,some 2,(.set (.c (.int .i64 0)) false)⟩] (.some [1])) (.seq (.seq (.region [⟨none,some 9,(.fieldAddr 0 .none (.t 1))⟩,⟨none,some 10,(.load .none (.t 9))⟩,⟨none,some 11,(.len 1 (.t 10))⟩,⟨none,some 12,(.bin .gtr (.t 11) (.c (.int .i64 64)))⟩,⟨none,some 13,(.set (.t 12) false)⟩,⟨some (13,false),some 14,(.fieldAddr 1 .none (.t 1))⟩,⟨some (13,false),some 15,(.load .none (.t 14))⟩,⟨some (13,false),some 16,(.len 1 (.t 15))⟩,⟨some (13,false),some 17,(.bin .gtr (.t 16) (.c (.int .i64 256)))⟩,⟨none,some 18,(.pick (.t 13) (.c (.bool true)) (.t 17))⟩] (.some [1,18])) (.cond (.t 18) (.seq (.region [⟨none,some 2,(.set (.c (.int .i64 40)) false)⟩] (.some [2])) .ret) .skip)) (.seq (.region [⟨none,some 19,.rT⟩,⟨none,some 3,(.set (.t 19) false)⟩] (.some [1,3])) (.seq (.seq (.region [⟨none,some 20,(.fieldAddr 0 .none (.t 1))⟩,⟨none,some 21,(.load .none (.t 20))⟩,⟨none,some 22,(.len 1 (.t 21))⟩,⟨none,some 23,(.set (.c (.int .i64 0)) false)⟩] (.some [1,3,21,22,23])) (.block 0 (.loop (.seq (.region [⟨none,some 24,(.bin .lss (.t 23) (.t 22))⟩] (.some [1,3,21,22,23,24])) (.seq (.cond (.t 24) .skip (.exit 0)) (.seq (.block 1 (.seq (.region [⟨none,some 25,(.indexAddr 1 (.t 21) (.t 23))⟩,⟨none,some 26,(.load .none (.t 25))⟩,⟨none,some 5,(.set (.t 26) false)⟩] (.some [1,3,5,21,22,23])) (.seq (.seq (.region [⟨none,some 27,(.set (.t 5) false)⟩,⟨none,some 28,(.call (.c (.fn (.func 141) [] [])) [(.t 27)] .none)⟩,⟨none,some 29,(.un .not (.t 28))⟩,⟨none,some 30,(.set (.t 29) false)⟩,⟨some (30,false),some 31,(.set (.t 5) false)⟩,⟨some (30,false),some 32,(.call (.c (.fn (.func 142) [] [])) [(.t 31),(.c (.str ⟨#[95]⟩))] .none)⟩,⟨none,some 33,(.pick (.t 30) (.c (.bool true)) (.t 32))⟩,⟨none,some 34,(.set (.t 33) false)⟩,⟨some (34,false),some 35,(.set (.t 3) false)⟩,⟨some (34,false),some 36,(.set (.t 5) false)⟩,⟨some (34,false),some 37,(.lookup 1 (.bool false) (.t 35) (.t 36) false)⟩,⟨none,some 38,(.pick (.t 34) (.c (.bool true)) (.t 37))⟩] (.some [1,3,5,21,22,23,38])) (.cond (.t 38) (.seq (.region [⟨none,some 2,(.set (.c (.int .i64 40)) false)⟩] (.some [2])) .ret) .skip)) (.region [⟨none,some 39,(.set (.t 3) false)⟩,⟨none,some 40,(.set (.t 5) false)⟩,⟨none,none,(.oS 1 (.t 39) (.t 40) (.c (.bool true)))⟩] (.some [1,3,21,22,23]))))) (.region [⟨none,some 41,(.bin .add (.t 23) (.c (.int .i64 1)))⟩,⟨none,some 23,(.set (.t 41) false)⟩] (.some [1,3,21,22,23])))))))) (.seq (.region [⟨none,some 42,.rT⟩,⟨none,some 6,(.set (.t 42) false)⟩] (.some [1,6])) (.seq (.seq (.region [⟨none,some 43,(.fieldAddr 1 .none (.t 1))⟩,⟨none,some 44,(.load .none (.t 43))⟩,⟨none,some 45,(.len 1 (.t 44))⟩,⟨none,some 46,(.set (.c (.int .i64 0)) false)⟩] (.some [1,6,44,45,46])) (.block 2 (.loop (.seq (.region [⟨none,some 47,(.bin .lss (.t 46) (.t 45))⟩] (.some [1,6,44,45,46,47])) (.seq (.cond (.t 47) .skip (.exit 2)) (.seq (.block 3 (.seq (.region [⟨none,some 48,(.indexAddr 3 (.t 44) (.t 46))⟩,⟨none,some 49,(.load (.some 3) (.t 48))⟩,⟨none,some 8,(.wG 3 (.t 49))⟩] (.some [1,6,8,44,45,46])) (.seq (.seq (.region [⟨none,some 50,(.load (.some 3) (.t 8))⟩,⟨none,some 51,(.fieldAddr 0 .none (.t 1))⟩,⟨none,some 52,(.load .none (.t 51))⟩,⟨none,some 53,(.len 1 (.t 52))⟩,⟨none,some 54,(.call (.c (.fn (.func 143) [] [])) [(.t 50),(.t 53)] .none)⟩,⟨none,some 55,(.un .not (.t 54))⟩,⟨none,some 56,(.set (.t 55) false)⟩,⟨some (56,false),some 57,(.set (.t 6) false)⟩,⟨some (56,false),some 58,(.load (.some 3) (.t 8))⟩,⟨some (56,false),some 59,(.call (.c (.fn (.func 144) [] [])) [(.t 58)] .none)⟩,⟨some (56,false),some 60,(.lookup 1 (.bool false) (.t 57) (.t 59) false)⟩,⟨none,some 61,(.pick (.t 56) (.c (.bool true)) (.t 60))⟩] (.some [1,6,8,44,45,46,61])) (.cond (.t 61) (.seq (.region [⟨none,some 2,(.set (.c (.int .i64 40)) false)⟩] (.some [2])) .ret) .skip)) (.region [⟨none,some 62,(.set (.t 6) false)⟩,⟨none,some 63,(.load (.some 3) (.t 8))⟩,⟨none,some 64,(.call (.c (.fn (.func 144) [] [])) [(.t 63)] .none)⟩,⟨none,none,(.oS 1 (.t 62) (.t 64) (.c (.bool true)))⟩] (.some [1,6,44,45,46]))))) (.region [⟨none,some 65,(.bin .add (.t 46) (.c (.int .i64 1)))⟩,⟨none,some 46,(.set (.t 65) false)⟩] (.some [1,6,44,45,46])))))))) (.seq (.region [⟨none,some 2,(.set (.c (.int .i64 0)) false)⟩] (.some [2])) .ret)))))))
def Xj:qq:=⟨66,Xi,[(.t 2)]⟩
theorem acY:gD Tryz.prog 81 Xj:=⟨Tryz.call81,Tryz.f81,_,[(0,0,1),(14,2,1000)],[(0,[1]),(1,[1,18]),(2,[2]),(3,[1,3]),(4,[1,3,21,22,23]),(5,[1,3,21,22,23,24]),(6,[1,3,5,21,22,23]),(7,[1,3,5,21,22,23,38]),(8,[2]),(9,[1,3,21,22,23]),(10,[1,3,21,22,23]),(11,[1,6]),(12,[1,6,44,45,46]),(13,[1,6,44,45,46,47]),(14,[1,6,8,44,45,46]),(15,[1,6,8,44,45,46,61]),(16,[2]),(17,[1,6,44,45,46]),(18,[1,6,44,45,46]),(19,[2])],[],Tryz.func81,rfl,Tryz.ntmps81,by kernel_rfl,by kernel_rfl⟩
def k82:=aH Tryz.call82 Tryz.func82 Tryz.ntmps82 [(0,0,1)] [(0,[1]),(1,[5]),(2,[2]),(3,[2])] []
def k83:=aH Tryz.call83 Tryz.func83 Tryz.ntmps83 [(0,0,1),(0,1,1)] [(0,[2,3]),(1,[2,3,22]),(2,[4]),(3,[2,3,5]),(4,[2,3,5,27]),(5,[2,3,5]),(6,[2,3,5,59]),(7,[4]),(8,[2,3,5,6]),(9,[2,3,5,6,62]),(10,[2,3,5,6]),(11,[2,3,5,6,88]),(12,[4]),(13,[4])] [(11,(tkq 0 23 (.take 23 true .done)))]
def k89:=aH Tryz.call89 Tryz.func89 Tryz.ntmps89 [(0,0,1),(0,1,1)] [(0,[2,3]),(1,[4])] []
def k91:=aH Tryz.call91 Tryz.func91 Tryz.ntmps91 [(0,0,1),(0,1,1)] [(0,[2,3]),(1,[2,3,5]),(2,[2,3,5,11]),(3,[2,3,5]),(4,[2,3,5,6]),(5,[2,3,5,22]),(6,[4]),(7,[4])] [(4,(tkq 0 7 (.take 7 true .done)))]
def k92:=aH Tryz.call92 Tryz.func92 Tryz.ntmps92 [(0,0,1),(1,1,1000),(6,2,1000),(7,6,2000),(10,2,1000),(11,6,2000),(19,0,1),(19,4,1)] [(0,[1]),(1,[1,3]),(2,[1,3,4]),(3,[1,3,4]),(4,[1,3,4,14,15,16]),(5,[1,3,4,14,15,16,17]),(6,[1,3,4,6,14,15,16]),(7,[1,3,4,6,14,15,16]),(8,[1,3,4,14,15,16,28,29,30]),(9,[1,3,4,14,15,16,28,29,30,31]),(10,[1,3,4,8,14,15,16,28,29,30]),(11,[1,3,4,14,15,16,28,29,30]),(12,[1,3,4,14,15,16,28,29,30]),(13,[1,3,4,14,15,16]),(14,[1,3,9]),(15,[3,9,46,47]),(16,[3,9,46,47,48]),(17,[3,9,10,46,47]),(18,[3,9,10,46,47,52]),(19,[3,9,46,47]),(20,[3,9,46,47]),(21,[2])] []
noncomputable def bG:jL:=SX Tryz.f93 1 [(0,0,1),(0,1,1),(2,0,1000),(6,5,1000)] [(0,[2,3,4,5]),(1,[2,3,4,5,14]),(2,[2,3,4,5,6]),(3,[2,3,4,5,6,18]),(4,[2,3,4,5,6,21]),(5,[2,3,4,5,6,7]),(6,[2,4,5,8]),(7,[4,5,8,38]),(8,[]),(9,[4,5])] []
def Md:IR:=(.region [⟨none,some 7,(.set (.t 22) false)⟩] (.some [2,3,4,5,6,7]))
def Me:IR:=(.block 3 (.seq (.region [⟨none,some 23,(.load (.some 3) (.t 2))⟩,⟨none,some 24,(.load .none (.t 3))⟩,⟨none,some 25,(.load .none (.t 6))⟩,⟨none,some 26,(.set (.t 7) false)⟩,⟨none,some 27,(.call (.c (.fn (.func 112) [] [])) [(.t 23),(.t 24),(.t 25),(.t 26)] .none)⟩,⟨none,some 8,(.wG 2 (.t 27))⟩] (.some [2,4,5,8])) (.seq (.region [⟨none,some 28,(.fieldAddr 0 (.some 2) (.t 2))⟩,⟨none,some 29,(.load (.some 2) (.t 28))⟩,⟨none,some 30,(.load (.some 2) (.t 8))⟩,⟨none,some 31,(.call (.c (.fn (.func 24) [] [])) [(.t 29),(.t 30)] .none)⟩,⟨none,some 32,(.bin .eql (.t 31) (.c (.int .i64 0)))⟩,⟨none,some 33,(.set (.t 32) false)⟩,⟨some (33,true),some 34,(.load (.some 3) (.t 2))⟩,⟨some (33,true),some 35,(.load (.some 2) (.t 8))⟩,⟨some (33,true),some 36,(.call (.c (.fn (.func 89) [] [])) [(.t 34),(.t 35)] .none)⟩,⟨some (33,true),some 37,(.bin .lss (.t 36) (.c (.int .i64 0)))⟩,⟨none,some 38,(.pick (.t 33) (.t 37) (.c (.bool false)))⟩] (.some [4,5,8,38])) (.cond (.t 38) (.seq (.region [⟨none,some 39,(.load (.some 2) (.t 8))⟩,⟨none,none,(.store 2 (.t 4) (.t 39))⟩,⟨none,none,(.store 1 (.t 5) (.c (.bool true)))⟩] (.some [])) .ret) .skip))))
theorem Uy:comp Tryz.prog bG.an bG.lv bG.pl bG.n bG.as=some Md:=by kernel_rfl
theorem Uz:comp Tryz.prog bG.an bG.lv bG.pl bG.n bG.bd=some Me:=by kernel_rfl
noncomputable def bh:jL:=SX Tryz.f93 0 [(0,0,1),(0,1,1),(2,0,1000),(6,5,1000)] [(0,[2,3,4,5]),(1,[2,3,4,5,14]),(2,[2,3,4,5,6]),(3,[2,3,4,5,6,18]),(4,[2,3,4,5,6,21]),(5,[2,3,4,5,6,7]),(6,[2,4,5,8]),(7,[4,5,8,38]),(8,[]),(9,[4,5])] []
def Mf:IR:=(.region [⟨none,some 6,(.wG 1 (.t 15))⟩] (.some [2,3,4,5,6]))
def Mg:IR:=(.block 1 (.seq (.seq (.region [⟨none,some 16,(.load .none (.t 6))⟩,⟨none,some 17,(.call (.c (.fn (.func 167) [] [])) [(.t 16)] .none)⟩,⟨none,some 18,(.un .not (.t 17))⟩] (.some [2,3,4,5,6,18])) (.cond (.t 18) (.exit 1) .skip)) (.seq (.region [⟨none,some 19,(.load .none (.t 3))⟩,⟨none,some 20,(.len 1 (.t 19))⟩,⟨none,some 21,(.call (.c (.fn (.func 166) [] [])) [(.t 20),(.c (.int .i64 1)),(.c (.int .i64 3))] .none)⟩] (.some [2,3,4,5,6,21])) (.block 2 (.ma (.t 21) bG)))))
theorem UA:comp Tryz.prog bh.an bh.lv bh.pl bh.n bh.as=some Mf:=by kernel_rfl
theorem UB:comp Tryz.prog bh.an bh.lv bh.pl bh.n bh.bd=some Mg:=by kernel_rfl
def Xk:IR:=(.seq (.region [⟨none,some 2,(.qQ (.t 0))⟩,⟨none,some 3,(.qQ (.t 1))⟩,⟨none,some 4,(.alloc (.agg [.ag,.ag]))⟩,⟨none,some 5,(.alloc (.bool false))⟩] (.some [2,3,4,5])) (.seq (.seq (.region [⟨none,some 9,(.load .none (.t 3))⟩,⟨none,some 10,(.len 1 (.t 9))⟩,⟨none,some 11,(.load .none (.t 3))⟩,⟨none,some 12,(.len 1 (.t 11))⟩,⟨none,some 13,(.bin .sub (.t 12) (.c (.int .i64 1)))⟩,⟨none,some 14,(.call (.c (.fn (.func 166) [] [])) [(.t 10),(.c (.int .i64 0)),(.t 13)] .none)⟩] (.some [2,3,4,5,14])) (.block 0 (.ma (.t 14) bh))) (.seq (.region [⟨none,some 40,(.build (.agg [.ag,.ag]) [])⟩,⟨none,none,(.store 2 (.t 4) (.t 40))⟩,⟨none,none,(.store 1 (.t 5) (.c (.bool false)))⟩] (.some [4,5])) .ret)))
def Xl:qq:=⟨41,Xk,[(.c 4 (.some 2)),(.c 5 .none)]⟩
theorem acZ:gD Tryz.prog 93 Xl:=⟨Tryz.call93,Tryz.f93,_,[(0,0,1),(0,1,1),(2,0,1000),(6,5,1000)],[(0,[2,3,4,5]),(1,[2,3,4,5,14]),(2,[2,3,4,5,6]),(3,[2,3,4,5,6,18]),(4,[2,3,4,5,6,21]),(5,[2,3,4,5,6,7]),(6,[2,4,5,8]),(7,[4,5,8,38]),(8,[]),(9,[4,5])],[],Tryz.func93,rfl,Tryz.ntmps93,by kernel_rfl,by kernel_rfl⟩
def k94:=aH Tryz.call94 Tryz.func94 Tryz.ntmps94 [(0,0,1)] [(0,[1]),(1,[3]),(2,[7]),(3,[2]),(4,[2])] []
def k95:=aH Tryz.call95 Tryz.func95 Tryz.ntmps95 [(0,0,1),(5,0,1),(5,7,1),(5,8,1),(6,0,1),(6,7,1),(6,8,1),(10,0,1),(10,11,1),(10,12,1),(11,0,1),(11,11,1),(11,12,1),(17,0,1),(17,4,1)] [(0,[1]),(1,[1,3]),(2,[1,3,4]),(3,[1,3,4,12]),(4,[1,3,4]),(5,[1,3,4]),(6,[1,3,4]),(7,[1,3,4,5]),(8,[1,3,4,5,39]),(9,[1,3,4,5]),(10,[1,3,4,5]),(11,[1,3,4,5]),(12,[1,3,6]),(13,[1,3,6,7]),(14,[1,3,6,7,71]),(15,[1,3,6,7]),(16,[1,3,6,7,76]),(17,[1,3,6,7]),(18,[2])] []
end Go.aI
end
noncomputable section
set_option maxRecDepth 100000
set_option maxHeartbeats 0
namespace Go.aI
open Go Go.Proofs
def k96:=aH Tryz.call96 Tryz.func96 Tryz.ntmps96 [(1,0,1),(1,1,1),(5,0,1),(5,4,1)] [(0,[0,1]),(1,[0,1,5]),(2,[0,1,5,6]),(3,[0,1,5,6,10]),(4,[0,1,5,6]),(5,[0,1,5,6]),(6,[4])] []
def k97:=aH Tryz.call97 Tryz.func97 Tryz.ntmps97 [] [(0,[0]),(1,[0,3]),(2,[0,3,7]),(3,[0,3]),(4,[0,3,24]),(5,[2]),(6,[2])] []
def JV:=aH Tryz.call100 Tryz.func100 Tryz.ntmps100 [(4,5,2000)] [(0,[0,1]),(1,[0,1,7,8]),(2,[0,1,7,8,9]),(3,[0,1,5,7,8]),(4,[0,1,5,7,8,16]),(5,[4]),(6,[0,1,7,8]),(7,[4])] []
def Xm:=aH Tryz.call101 Tryz.func101 Tryz.ntmps101 [(0,0,1),(1,2,2000)] [(0,[1,2,3]),(1,[4])] []
def JW:=aH Tryz.call102 Tryz.func102 Tryz.ntmps102 [(1,2,2000)] [(0,[0,1]),(1,[4])] []
def Xn:=aH Tryz.call103 Tryz.func103 Tryz.ntmps103 [(1,3,2000)] [(0,[0,1,2]),(1,[4])] []
def Xo:=aH Tryz.call106 Tryz.func106 Tryz.ntmps106 [(0,0,1)] [(0,[1,2,3]),(1,[1,2,3,7]),(2,[1,2,3,7,14]),(3,[1,2,3,7]),(4,[1,2,3,7,8]),(5,[1,2,3,7,8,9]),(6,[1,2,3,7,8,9,28]),(7,[1,2,3,7,8,9]),(8,[1,2,3,7,8,9,40]),(9,[1,2,3,7,9,10]),(10,[1,2,3,7,8,9]),(11,[1,2,3,7,53]),(12,[6]),(13,[6])] [(9,(tkq 0 10 (.take 10 true .done)))]
def Xp:=aH Tryz.call108 Tryz.func108 Tryz.ntmps108 [(0,0,1),(2,1,2000)] [(0,[1]),(1,[1,3]),(2,[1,3]),(3,[2])] []
def Xq:=aH Tryz.call111 Tryz.func111 Tryz.ntmps111 [] [(0,[0,1]),(1,[0,1,7,8]),(2,[0,1,7,8,9]),(3,[0,1,5,7,8]),(4,[0,1,5,7,8,16]),(5,[4]),(6,[0,1,7,8]),(7,[4])] []
def Xr:=aH Tryz.call113 Tryz.func113 Tryz.ntmps113 [] [(0,[0,1]),(1,[0,1,10]),(2,[0,1]),(3,[0,5,6]),(4,[0,6,26]),(5,[0,6]),(6,[0,7]),(7,[7,8]),(8,[7,8,37]),(9,[7,8]),(10,[4])] [(9,(tkq 1 6 (.take 0 false (.br 7 (.take 8 true (.take 9 true .done)) .nil))))]
def JX:=aH Tryz.call114 Tryz.func114 Tryz.ntmps114 [(4,5,2000)] [(0,[0,1]),(1,[0,1,7,8]),(2,[0,1,7,8,9]),(3,[0,1,5,7,8]),(4,[0,1,5,7,8,16]),(5,[4]),(6,[0,1,7,8]),(7,[4])] []
def Xs:=aH Tryz.call115 Tryz.func115 Tryz.ntmps115 [(0,0,1)] [(0,[1]),(1,[5]),(2,[2]),(3,[2])] []
def Xt:=aH Tryz.call116 Tryz.func116 Tryz.ntmps116 [(0,0,1),(0,1,1)] [(0,[2,3]),(1,[2,3,31]),(2,[4]),(3,[2,3,5]),(4,[2,3,5,36]),(5,[2,3,5]),(6,[2,3,5,6]),(7,[2,3,5,47]),(8,[4]),(9,[4])] [(1,(tkq 0 24 (.take 24 true .done))),(6,(tkq 0 7 (.take 7 true .done)))]
def P4:=aH Tryz.call118 Tryz.func118 Tryz.ntmps118 [(3,0,1),(3,3,1)] [(0,[0]),(1,[0,4]),(2,[2]),(3,[2])] []
def Xu:=aH Tryz.call121 Tryz.func121 Tryz.ntmps121 [] [(0,[0]),(1,[4]),(2,[2]),(3,[2])] []
def Xv:=aH Tryz.call122 Tryz.func122 Tryz.ntmps122 [(0,0,1),(2,1,2000)] [(0,[1]),(1,[1,4]),(2,[4]),(3,[4,7]),(4,[2,3]),(5,[2,3])] [(5,(tkq 0 5 (.take 5 true .done)))]
def Xw:=aH Tryz.call126 Tryz.func126 Tryz.ntmps126 [(0,0,1)] [(0,[1]),(1,[1,12]),(2,[2]),(3,[2])] []
def Xx:=aH Tryz.call128 Tryz.func128 Tryz.ntmps128 [(4,5,2000)] [(0,[0,1]),(1,[0,1,7,8]),(2,[0,1,7,8,9]),(3,[0,1,5,7,8]),(4,[0,1,5,7,8,16]),(5,[4]),(6,[0,1,7,8]),(7,[4])] []
def Xy:=aH Tryz.call129 Tryz.func129 Tryz.ntmps129 [(4,5,2000)] [(0,[0,1]),(1,[0,1,7,8]),(2,[0,1,7,8,9]),(3,[0,1,5,7,8]),(4,[0,1,5,7,8,16]),(5,[4]),(6,[0,1,7,8]),(7,[4])] []
def Xz:=aH Tryz.call130 Tryz.func130 Tryz.ntmps130 [(0,0,1)] [(0,[1]),(1,[5]),(2,[2]),(3,[2])] []
def XA:=aH Tryz.call131 Tryz.func131 Tryz.ntmps131 [(0,0,1),(0,1,1)] [(0,[2,3]),(1,[2,3,29]),(2,[4]),(3,[4])] [(1,(tkq 0 24 (.take 24 true .done)))]
def XB:=aH Tryz.call133 Tryz.func133 Tryz.ntmps133 [(1,3,1000),(4,1,2000)] [(0,[0,1,2,3]),(1,[0,3,9]),(2,[0,3,9,10,11]),(3,[0,3,9,10,22]),(4,[0,9,10]),(5,[10]),(6,[8])] []
def XC:=aH Tryz.call134 Tryz.func134 Tryz.ntmps134 [(7,7,2000)] [(0,[0,1,2]),(1,[0,1,2,6]),(2,[0,1,2,17]),(3,[3]),(4,[0,1,2,18,19]),(5,[0,1,2,18,19,20]),(6,[0,1,2,7,8,18,19]),(7,[0,1,2,18,19,31]),(8,[3]),(9,[0,1,2,18,19]),(10,[3])] []
def XD:=aH Tryz.call135 Tryz.func135 Tryz.ntmps135 [(1,8,1000)] [(0,[0,1]),(1,[0,7]),(2,[0,7,18]),(3,[4,5,6]),(4,[4,5,6])] [(4,(tkq 0 20 (.take 20 true .done)))]
def XE:=aH Tryz.call136 Tryz.func136 Tryz.ntmps136 [] [(0,[0]),(1,[0])] []
def XF:=aH Tryz.call138 Tryz.func138 Tryz.ntmps138 [(9,3,2000)] [(0,[0,1,2]),(1,[0,1,2,4,5,6]),(2,[0,1,2,4,5,6,7,9]),(3,[0,1,2,4,5,6,7,9,34]),(4,[3]),(5,[0,4,5,7,10,11]),(6,[0,5,10,11,84]),(7,[3]),(8,[0,10,11,86]),(9,[12]),(10,[3]),(11,[3])] [(4,(tkq 0 24 (.take 24 true .done))),(5,(tkq 0 17 (.take 17 true .done)))]
def XG:=aH Tryz.call140 Tryz.func140 Tryz.ntmps140 [(7,3,2000)] [(0,[0,1,2]),(1,[0,1,2,14]),(2,[6]),(3,[1,2,15,16,17]),(4,[1,2,15,16,17,18]),(5,[1,2,7,8,15,16,17]),(6,[1,2,8,9,15,16,17]),(7,[1,2,15,16,17,30]),(8,[6]),(9,[1,2,15,16,17]),(10,[6])] []
def RG:IR:=(.seq (.region [⟨none,some 2,(.set (.c (.bool false)) false)⟩] (.some [0])) (.seq (.seq (.region [⟨none,some 4,(.set (.t 0) false)⟩,⟨none,some 5,(.len 0 (.t 4))⟩,⟨none,some 6,(.bin .lss (.t 5) (.c (.int .i64 1)))⟩,⟨none,some 7,(.set (.t 6) false)⟩,⟨some (7,false),some 8,(.set (.t 0) false)⟩,⟨some (7,false),some 9,(.len 0 (.t 8))⟩,⟨some (7,false),some 10,(.bin .gtr (.t 9) (.c (.int .i64 32)))⟩,⟨none,some 11,(.pick (.t 7) (.c (.bool true)) (.t 10))⟩] (.some [0,11])) (.cond (.t 11) (.seq (.region [⟨none,some 2,(.set (.c (.bool false)) false)⟩] (.some [2])) .ret) .skip)) (.seq (.seq (.region [⟨none,some 12,(.set (.t 0) false)⟩,⟨none,some 13,(.len 0 (.t 12))⟩,⟨none,some 14,(.set (.c (.int .i64 0)) false)⟩] (.some [0,13,14])) (.block 0 (.loop (.seq (.region [⟨none,some 15,(.bin .lss (.t 14) (.t 13))⟩] (.some [0,13,14,15])) (.seq (.cond (.t 15) .skip (.exit 0)) (.seq (.block 1 (.seq (.region [⟨none,some 16,(.set (.t 14) false)⟩,⟨none,some 3,(.set (.t 16) false)⟩] (.some [0,3,13,14])) (.seq (.region [⟨none,some 17,(.set (.t 0) false)⟩,⟨none,some 18,(.set (.t 3) false)⟩,⟨none,some 19,(.ff (.t 17) (.t 18))⟩,⟨none,some 20,(.bin .lss (.t 19) (.c (.int .u8 33)))⟩,⟨none,some 21,(.set (.t 20) false)⟩,⟨some (21,false),some 22,(.set (.t 0) false)⟩,⟨some (21,false),some 23,(.set (.t 3) false)⟩,⟨some (21,false),some 24,(.ff (.t 22) (.t 23))⟩,⟨some (21,false),some 25,(.bin .gtr (.t 24) (.c (.int .u8 126)))⟩,⟨none,some 26,(.pick (.t 21) (.c (.bool true)) (.t 25))⟩,⟨none,some 27,(.set (.t 26) false)⟩,⟨some (27,false),some 28,(.set (.t 0) false)⟩,⟨some (27,false),some 29,(.set (.t 3) false)⟩,⟨some (27,false),some 30,(.ff (.t 28) (.t 29))⟩,⟨some (27,false),some 31,(.call (.c (.fn (.func 190) [] [])) [(.c (.str ⟨#[40,41,44]⟩)),(.t 30)] .none)⟩,⟨some (27,false),some 32,(.bin .geq (.t 31) (.c (.int .i64 0)))⟩,⟨none,some 33,(.pick (.t 27) (.c (.bool true)) (.t 32))⟩] (.some [0,13,14,33])) (.cond (.t 33) (.seq (.region [⟨none,some 2,(.set (.c (.bool false)) false)⟩] (.some [2])) .ret) .skip)))) (.region [⟨none,some 34,(.bin .add (.t 14) (.c (.int .i64 1)))⟩,⟨none,some 14,(.set (.t 34) false)⟩] (.some [0,13,14])))))))) (.seq (.region [⟨none,some 2,(.set (.c (.bool true)) false)⟩] (.some [2])) .ret))))
def RH:qq:=⟨35,RG,[(.t 2)]⟩
theorem XH:gD Tryz.prog 141 RH:=⟨Tryz.call141,Tryz.f141,_,[],[(0,[0]),(1,[0,11]),(2,[2]),(3,[0,13,14]),(4,[0,13,14,15]),(5,[0,3,13,14]),(6,[0,13,14,33]),(7,[2]),(8,[0,13,14]),(9,[2])],[],Tryz.func141,rfl,Tryz.ntmps141,by kernel_rfl,by kernel_rfl⟩
def XI:=aH Tryz.call142 Tryz.func142 Tryz.ntmps142 [] [(0,[0,1]),(1,[4])] []
def RI:IR:=(.seq (.region [⟨none,some 2,(.qQ (.t 0))⟩,⟨none,some 3,(.qQ (.t 1))⟩,⟨none,some 4,(.set (.c (.bool false)) false)⟩] (.some [2,3])) (.seq (.region [⟨none,some 7,(.fn (.func 192) [] [(.t 3)])⟩,⟨none,some 5,(.wG 1 (.t 7))⟩] (.some [2,5])) (.seq (.region [⟨none,some 8,(.fieldAddr 0 .none (.t 2))⟩,⟨none,some 9,(.load .none (.t 8))⟩,⟨none,some 10,(.call (.c (.fn (.func 193) [] [])) [(.t 9),(.c (.str ⟨#[95]⟩))] .none)⟩,⟨none,some 6,(.set (.t 10) false)⟩] (.some [2,5,6])) (.seq (.region [⟨none,some 11,(.fieldAddr 0 .none (.t 2))⟩,⟨none,some 12,(.load .none (.t 11))⟩,⟨none,some 13,(.call (.c (.fn (.func 141) [] [])) [(.t 12)] .none)⟩,⟨none,some 14,(.set (.t 13) false)⟩,⟨some (14,true),some 15,(.set (.t 6) false)⟩,⟨some (14,true),some 16,(.fieldAddr 0 .none (.t 2))⟩,⟨some (14,true),some 17,(.load .none (.t 16))⟩,⟨some (14,true),some 18,(.len 0 (.t 17))⟩,⟨some (14,true),some 19,(.bin .lss (.t 15) (.t 18))⟩,⟨none,some 20,(.pick (.t 14) (.t 19) (.c (.bool false)))⟩,⟨none,some 21,(.set (.t 20) false)⟩,⟨some (21,true),some 22,(.set (.t 6) false)⟩,⟨some (21,true),some 23,(.bin .eql (.t 22) (.c (.int .i64 0)))⟩,⟨some (21,true),some 24,(.set (.t 23) false)⟩,⟨some (24,false),some 25,(.set (.t 6) false)⟩,⟨some (24,false),some 26,(.fieldAddr 1 .none (.t 2))⟩,⟨some (24,false),some 27,(.load .none (.t 26))⟩,⟨some (24,false),some 28,(.len 1 (.t 27))⟩,⟨some (24,false),some 29,(.bin .eql (.t 25) (.t 28))⟩,⟨some (21,true),some 30,(.pick (.t 24) (.c (.bool true)) (.t 29))⟩,⟨none,some 31,(.pick (.t 21) (.t 30) (.c (.bool false)))⟩,⟨none,some 32,(.set (.t 31) false)⟩,⟨some (32,true),some 33,(.fieldAddr 1 .none (.t 2))⟩,⟨some (32,true),some 34,(.load .none (.t 33))⟩,⟨some (32,true),some 35,(.len 1 (.t 34))⟩,⟨some (32,true),some 36,(.bin .leq (.t 35) (.c (.int .i64 8)))⟩,⟨none,some 37,(.pick (.t 32) (.t 36) (.c (.bool false)))⟩,⟨none,some 38,(.set (.t 37) false)⟩,⟨some (38,true),some 39,(.load .none (.t 5))⟩,⟨some (38,true),some 40,(.fieldAddr 2 .none (.t 2))⟩,⟨some (38,true),some 41,(.load .none (.t 40))⟩,⟨some (38,true),some 42,(.call (.t 39) [(.t 41)] (.some 1999))⟩,⟨none,some 43,(.pick (.t 38) (.t 42) (.c (.bool false)))⟩,⟨none,some 44,(.set (.t 43) false)⟩,⟨some (44,true),some 45,(.fieldAddr 1 .none (.t 2))⟩,⟨some (44,true),some 46,(.load .none (.t 45))⟩,⟨some (44,true),some 47,(.fn (.func 194) [] [(.t 5)])⟩,⟨some (44,true),some 48,(.call (.c (.fn (.func 102) [] [])) [(.t 46),(.t 47)] (.some 1999))⟩,⟨some (44,true),some 49,(.un .not (.t 48))⟩,⟨none,some 50,(.pick (.t 44) (.t 49) (.c (.bool false)))⟩,⟨none,some 4,(.set (.t 50) false)⟩] (.some [4])) .ret))))
def RJ:qq:=⟨51,RI,[(.t 4)]⟩
theorem XJ:gD Tryz.prog 143 RJ:=⟨Tryz.call143,Tryz.f143,_,[(0,0,1),(0,1,1),(1,1,1000),(3,31,2000),(3,37,2000)],[(0,[2,3]),(1,[2,5]),(2,[2,5,6]),(3,[4])],[],Tryz.func143,rfl,Tryz.ntmps143,by kernel_rfl,by kernel_rfl⟩
def RK:IR:=(.seq (.region [⟨none,some 1,(.qQ (.t 0))⟩,⟨none,some 2,(.set (.c (.str ⟨#[]⟩)) false)⟩] (.some [1])) (.seq (.region [⟨none,some 6,(.fieldAddr 0 .none (.t 1))⟩,⟨none,some 7,(.load .none (.t 6))⟩,⟨none,some 8,(.bin .add (.t 7) (.c (.str ⟨#[40]⟩)))⟩,⟨none,some 9,(.bytesOf (.t 8))⟩,⟨none,some 3,(.set (.t 9) true)⟩] (.some [1,3])) (.seq (.seq (.draw (.take .true ⟨none,some 10,(.fieldAddr 1 .none (.t 1))⟩ (.take .true ⟨none,some 11,(.load .none (.t 10))⟩ (.take .true ⟨none,some 12,(.call (.c (.fn (.func 118) [] [])) [(.t 11)] .none)⟩ (.take .true ⟨none,some 13,(.fieldAddr 2 .none (.t 1))⟩ (.take .true ⟨none,some 14,(.load .none (.t 13))⟩ (.take .true ⟨none,some 15,(.buildSlice 0 1 (.int .i64 0) 1 [(0,(.t 14))])⟩ (.take .true ⟨none,some 18,(.set (.c (.int .i64 0)) false)⟩ (.br ⟨none,some 16,(.append 1 8 (.t 12) (.t 15))⟩ (.take .true ⟨none,some 17,(.len 1 (.t 16))⟩ .done) .nil)))))))) (.some [3,16,17,18])) (.block 0 (.loop (.seq (.region [⟨none,some 19,(.bin .lss (.t 18) (.t 17))⟩] (.some [3,16,17,18,19])) (.seq (.cond (.t 19) .skip (.exit 0)) (.seq (.block 1 (.seq (.region [⟨none,some 20,(.indexAddr 1 (.t 16) (.t 18))⟩,⟨none,some 21,(.load .none (.t 20))⟩,⟨none,some 5,(.set (.t 21) false)⟩] (.some [3,5,16,17,18])) (.region [⟨none,some 22,(.set (.t 3) true)⟩,⟨none,some 23,(.set (.t 5) false)⟩,⟨none,some 24,(.jE .u8 (.t 23))⟩,⟨none,some 25,(.buildSlice 0 1 (.int .u8 0) 1 [(0,(.t 24))])⟩,⟨none,some 26,(.append 1 1 (.t 22) (.t 25))⟩,⟨none,some 3,(.set (.t 26) true)⟩] (.some [3,16,17,18])))) (.region [⟨none,some 27,(.bin .add (.t 18) (.c (.int .i64 1)))⟩,⟨none,some 18,(.set (.t 27) false)⟩] (.some [3,16,17,18])))))))) (.seq (.region [⟨none,some 28,(.set (.t 3) false)⟩,⟨none,some 29,(.strOf (.t 28))⟩,⟨none,some 2,(.set (.t 29) false)⟩] (.some [2])) .ret))))
def RM:qq:=⟨30,RK,[(.t 2)]⟩
theorem XK:gD Tryz.prog 144 RM:=⟨Tryz.call144,Tryz.f144,_,[(0,0,1),(1,4,1),(5,0,1),(5,5,1)],[(0,[1]),(1,[1,3]),(2,[3,16,17,18]),(3,[3,16,17,18,19]),(4,[3,5,16,17,18]),(5,[3,16,17,18]),(6,[3,16,17,18]),(7,[2])],[(2,(tkq 0 6 (.take 8 true (.br 6 (.take 7 true .done) .nil))))],Tryz.func144,rfl,Tryz.ntmps144,by kernel_rfl,by kernel_rfl⟩
def XL:=aH Tryz.call145 Tryz.func145 Tryz.ntmps145 [(0,0,1)] [(0,[1]),(1,[1,16]),(2,[2]),(3,[1,3]),(4,[1,3,21]),(5,[1,3]),(6,[1,3,39]),(7,[2]),(8,[1,3,4]),(9,[1,3,4,42]),(10,[1,3,4]),(11,[1,3,4,55]),(12,[2]),(13,[1,5]),(14,[1,5,60]),(15,[1,5]),(16,[1,5,70]),(17,[2]),(18,[1,5,6]),(19,[1,5,6,73]),(20,[1,5,6]),(21,[1,5,6,118]),(22,[2]),(23,[2])] [(11,(tkq 0 10 (.take 10 true .done))),(16,(tkq 0 7 (.take 7 true .done))),(21,(tkq 0 42 (.take 42 true .done)))]
def XM:=aH Tryz.call147 Tryz.func147 Tryz.ntmps147 [(1,3,2000),(1,8,2000)] [(0,[0,1,2]),(1,[4])] []
def XN:=aH Tryz.call148 Tryz.func148 Tryz.ntmps148 [(1,9,2000)] [(0,[0,1,2,3,4]),(1,[6])] [(1,(tkq 0 9 (.br 9 (.take 10 true .done) .nil)))]
def XO:=aH Tryz.call150 Tryz.func150 Tryz.ntmps150 [(2,20,2000)] [(0,[0,1,2]),(1,[0,1,2,7]),(2,[0,1,2,7,29]),(3,[0,1,2,7]),(4,[6])] [(2,(tkq 0 20 (.br 20 (.take 21 true .done) .nil)))]
def XP:=aH Tryz.call151 Tryz.func151 Tryz.ntmps151 [(0,0,1),(1,11,2000)] [(0,[1,2,3,4]),(1,[5])] []
def XQ:=aH Tryz.call152 Tryz.func152 Tryz.ntmps152 [] [(0,[0]),(1,[2])] []
def XR:=aH Tryz.call153 Tryz.func153 Tryz.ntmps153 [(0,0,1)] [(0,[1]),(1,[2])] []
def XS:=aH Tryz.call154 Tryz.func154 Tryz.ntmps154 [(1,10,2000)] [(0,[0,1,2,3,4]),(1,[6])] [(1,(tkq 0 10 (.br 10 (.take 11 true (.take 12 true .done)) .nil)))]
def XT:=aH Tryz.call155 Tryz.func155 Tryz.ntmps155 [] [(0,[0,1,2]),(1,[0,2,8,9,10]),(2,[8,9,10,11,13]),(3,[6,7])] []
def XU:=aH Tryz.call156 Tryz.func156 Tryz.ntmps156 [(0,0,1),(10,5,1000),(13,9,2000),(15,10,2000)] [(0,[0,1,2,7]),(1,[0,1,2,7,29]),(2,[8]),(3,[0,1,2,7,9,10]),(4,[0,1,2,7,9,10,37,38,39]),(5,[0,1,2,7,9,10,37,38,39,40]),(6,[0,1,2,7,9,10,11,12,37,38,39]),(7,[0,1,2,7,9,10,11,12,37,38,39,51]),(8,[8]),(9,[0,1,2,7,9,10,11,12,37,38,39]),(10,[0,1,2,7,9,10,11,12,13,37,38,39]),(11,[0,1,2,7,9,10,11,12,13,37,38,39,80]),(12,[0,1,2,7,9,10,11,12,37,38,39]),(13,[0,1,2,7,9,10,37,38,39,97]),(14,[8]),(15,[0,1,2,7,9,10,37,38,39,109]),(16,[8]),(17,[0,1,2,7,9,10,37,38,39]),(18,[1,9,10,14]),(19,[9,10,14,112,113]),(20,[9,10,14,112,113,114]),(21,[9,10,14,15,112,113]),(22,[9,10,14,15,112,113,127]),(23,[8]),(24,[9,10,14,112,113]),(25,[9,10,14,112,113]),(26,[8])] [(3,(.take 0 false (.take 1 false (.take 3 false (.take 4 false (.br 2 (.take 6 false (.br 5 (.take 7 true .done) .nil)) (.br 5 (.br 2 (.take 6 true (.take 7 true .done)) .nil) .nil))))))),(13,(tkq 0 9 (.br 9 (.take 10 true .done) .nil))),(15,(tkq 0 10 (.br 10 (.take 11 true .done) .nil)))]
def XV:=aH Tryz.call158 Tryz.func158 Tryz.ntmps158 [(0,0,1),(0,1,1),(0,2,1)] [(0,[3,4,5]),(1,[6])] [(1,(tkq 0 13 (.take 13 true .done)))]
def P5:=aH Tryz.call161 Tryz.func161 Tryz.ntmps161 [(4,5,2000)] [(0,[0,1]),(1,[0,1,7,8]),(2,[0,1,7,8,9]),(3,[0,1,5,7,8]),(4,[0,1,5,7,8,16]),(5,[4]),(6,[0,1,7,8]),(7,[4])] []
def XW:=aH Tryz.call162 Tryz.func162 Tryz.ntmps162 [(0,0,1)] [(0,[1,2]),(1,[3])] []
def XX:=aH Tryz.call164 Tryz.func164 Tryz.ntmps164 [(0,0,1),(0,1,1)] [(0,[2,3]),(1,[2,3,5]),(2,[2,3,16]),(3,[4]),(4,[2,3,6]),(5,[2,3,6,21]),(6,[2,3,6]),(7,[2,3,6,7]),(8,[2,3,6,7,8]),(9,[2,3,6,49]),(10,[4]),(11,[4])] [(7,(tkq 0 10 (.take 10 true .done))),(8,(tkq 0 10 (.take 10 true .done)))]
def XZ:=aH Tryz.call165 Tryz.func165 Tryz.ntmps165 [(2,2,1000),(5,3,2000)] [(0,[1,2,6,7,8]),(1,[1,2,6,7,8,9]),(2,[1,2,5,6,7,8]),(3,[1,2,5,6,7,8,14]),(4,[1,2,5,6,7,8]),(5,[1,2,6,7,8]),(6,[1,2,6,7,8])] []
def X0:=aH Tryz.call166 Tryz.func166 Tryz.ntmps166 [(0,0,1),(0,1,1),(0,2,1)] [(0,[3,4,5]),(1,[6])] []
def X1:=aH Tryz.call167 Tryz.func167 Tryz.ntmps167 [(1,0,1)] [(0,[0]),(1,[0,8,9]),(2,[0,8,9,10]),(3,[0,3,8,9]),(4,[0,8,9,15]),(5,[2]),(6,[0,8,9]),(7,[2])] []
def X2:=aH Tryz.call168 Tryz.func168 Tryz.ntmps168 [(0,0,1)] [(0,[1]),(1,[1,3]),(2,[1,16]),(3,[2]),(4,[1,4]),(5,[1,4,21]),(6,[1,4]),(7,[1,4,5]),(8,[1,4,33]),(9,[2]),(10,[2])] [(7,(tkq 0 8 (.take 8 true .done)))]
def X3:=aH Tryz.call169 Tryz.func169 Tryz.ntmps169 [(0,0,1),(2,0,1),(2,5,1),(6,0,1),(6,6,1),(6,7,1),(7,0,1),(7,1,1)] [(0,[0,3]),(1,[0,3,15]),(2,[0,3]),(3,[0,3,5]),(4,[0,3,5,25]),(5,[0,3,5]),(6,[0,3,5]),(7,[4])] []
def P6:=aH Tryz.call170 Tryz.func170 Tryz.ntmps170 [] [(0,[0,1]),(1,[0,1,5]),(2,[0,1,5,9]),(3,[0,1,5]),(4,[0,1,5,17]),(5,[4]),(6,[4])] []
def X4:=aH Tryz.call171 Tryz.func171 Tryz.ntmps171 [(0,0,1),(5,2,1000),(7,4,2000)] [(0,[0,2,4]),(1,[0,2,4]),(2,[0,2,4]),(3,[0,2,25,26,27]),(4,[0,2,25,26,27,28]),(5,[0,2,7,25,26,27]),(6,[0,2,7,25,26,27,42]),(7,[0,2,25,26,27]),(8,[0,2,25,26,27])] []
def X5:=aH Tryz.call172 Tryz.func172 Tryz.ntmps172 [] [(0,[0]),(1,[2])] []
def X6:=aH Tryz.call173 Tryz.func173 Tryz.ntmps173 [(0,0,1)] [(0,[1]),(1,[1,3]),(2,[1,3]),(3,[1,3]),(4,[1,3]),(5,[2]),(6,[2])] []
def X7:=aH Tryz.call174 Tryz.func174 Tryz.ntmps174 [] [(0,[0,1]),(1,[6,7]),(2,[4,5]),(3,[8,9]),(4,[4,5])] []
def X8:=aH Tryz.call175 Tryz.func175 Tryz.ntmps175 [(0,0,1)] [(0,[1]),(1,[1,4]),(2,[2])] []
def X9:=aH Tryz.call178 Tryz.func178 Tryz.ntmps178 [(0,0,1)] [(0,[1]),(1,[2])] []
def Ya:=aH Tryz.call179 Tryz.func179 Tryz.ntmps179 [(1,2,2000)] [(0,[0,1]),(1,[4])] []
def Yb:=aH Tryz.call180 Tryz.func180 Tryz.ntmps180 [(0,0,1)] [(0,[1,2]),(1,[3])] []
def Yc:=aH Tryz.call181 Tryz.func181 Tryz.ntmps181 [(0,0,1),(0,1,1),(7,5,2000),(14,2,1),(14,3,1),(17,2,1000),(18,5,2000),(20,0,1),(20,7,1),(24,2,1000)] [(0,[2,3]),(1,[2,3,31]),(2,[4]),(3,[2,3,35]),(4,[4]),(5,[2,3,5]),(6,[3,5,6]),(7,[3,5,6,44]),(8,[4]),(9,[3,5,6,48,49,50]),(10,[3,5,6,48,49,50,51]),(11,[3,5,6,8,48,49,50]),(12,[3,5,6,48,49,50]),(13,[3,5,6,48,49,50]),(14,[3,5,6,9]),(15,[5,6,9,61,62,63]),(16,[5,6,9,61,62,63,64]),(17,[5,6,9,11,61,62,63]),(18,[5,6,9,11,61,62,63,73]),(19,[4]),(20,[5,6,9,61,62,63]),(21,[5,6,9,61,62,63]),(22,[5,82,83,84]),(23,[5,82,83,84,85]),(24,[5,13,82,83,84]),(25,[5,82,83,84,90,91,92]),(26,[5,82,83,84,90,91,92,93]),(27,[5,15,82,83,84,90,91,92]),(28,[5,82,83,84,90,91,92,99]),(29,[4]),(30,[5,82,83,84,90,91,92]),(31,[5,82,83,84]),(32,[4])] []
def Yd:=aH Tryz.call182 Tryz.func182 Tryz.ntmps182 [(0,0,1)] [(0,[1,2]),(1,[3])] []
def Ye:=aH Tryz.call183 Tryz.func183 Tryz.ntmps183 [(0,0,1),(0,1,1),(1,9,2000)] [(0,[1,3,5]),(1,[6])] []
def Yf:=aH Tryz.call184 Tryz.func184 Tryz.ntmps184 [] [(0,[0,1,2]),(1,[0,1,2,7]),(2,[0,1,2,7,10,12]),(3,[6])] []
def Yg:=aH Tryz.call187 Tryz.func187 Tryz.ntmps187 [(0,0,1),(5,0,1),(5,6,1),(5,7,1),(6,1,1),(6,8,1),(7,0,1),(7,4,1)] [(0,[0,3]),(1,[0,3,5]),(2,[0,3,5,6]),(3,[0,3,5,6,13]),(4,[0,3,5,6]),(5,[0,3,5,6]),(6,[0,3,5,6]),(7,[4])] []
def Yh:=aH Tryz.call188 Tryz.func188 Tryz.ntmps188 [(1,7,1000),(2,7,1000)] [(0,[0,1,2]),(1,[0,2,7]),(2,[0,7,8]),(3,[0,7,8,32]),(4,[6]),(5,[0,7,8,36]),(6,[6]),(7,[0,7,8,62]),(8,[6]),(9,[0,7,8,73]),(10,[9]),(11,[6]),(12,[0,7,8,11]),(13,[0,7,8,11,90]),(14,[0,7,8,11]),(15,[0,7,8,11,111]),(16,[6]),(17,[6])] [(7,(tkq 0 18 (.take 18 true .done))),(9,(tkq 0 10 (.take 10 true .done))),(15,(tkq 0 18 (.take 18 true .done)))]
def Yi:=aH Tryz.call189 Tryz.func189 Tryz.ntmps189 [(1,7,1000),(2,7,1000)] [(0,[0,1,2]),(1,[0,1,2,7]),(2,[0,1,2,7,8]),(3,[0,1,2,7,8,28]),(4,[6]),(5,[0,1,2,7,8,9]),(6,[0,1,2,7,8,9,33]),(7,[0,1,2,7,8,9]),(8,[0,1,2,7,8,9,65]),(9,[6]),(10,[0,1,2,7,8,69]),(11,[6]),(12,[0,1,2,7,8,90]),(13,[6]),(14,[0,1,2,7,8,104]),(15,[6]),(16,[0,1,2,7,8,115]),(17,[6]),(18,[0,1,2,10]),(19,[6])] [(8,(tkq 0 29 (.take 29 true .done))),(12,(tkq 0 20 (.take 20 true .done))),(14,(tkq 0 9 (.take 9 true .done))),(16,(tkq 0 10 (.take 10 true .done))),(18,(tkq 1 18 (.take 0 true (.take 19 true (.take 20 true .done)))))]
def Yj:=aH Tryz.call190 Tryz.func190 Tryz.ntmps190 [] [(0,[0,1]),(1,[4])] []
def Yk:=aH Tryz.call191 Tryz.func191 Tryz.ntmps191 [] [(0,[0,1]),(1,[4])] []
def Yl:=aH Tryz.call192 Tryz.func192 Tryz.ntmps192 [] [(0,[0,1]),(1,[3])] []
def Ym:=aH Tryz.call193 Tryz.func193 Tryz.ntmps193 [] [(0,[0,1]),(1,[0,1,9]),(2,[4]),(3,[0,1,15]),(4,[4]),(5,[0,1,5]),(6,[0,1,5,6]),(7,[0,1,5,6,24]),(8,[4]),(9,[0,1,5,6]),(10,[0,1,5])] []
def Yn:=aH Tryz.call194 Tryz.func194 Tryz.ntmps194 [(1,2,2000)] [(0,[0,1]),(1,[3])] []
end Go.aI
end
noncomputable section
set_option maxRecDepth 100000
set_option maxHeartbeats 0
namespace Go.aI
open Go Go.Proofs
def Yo:=aH Tryz.call195 Tryz.func195 Tryz.ntmps195 [] [(0,[0]),(1,[0,3]),(2,[0,3,7]),(3,[0,3]),(4,[0,3,37]),(5,[2]),(6,[2])] []
def Yp:=aH Tryz.call196 Tryz.func196 Tryz.ntmps196 [] [(0,[0]),(1,[0,3]),(2,[0,3,4]),(3,[0,3,4,8]),(4,[0,3,4]),(5,[0,3,4,14]),(6,[0,3,4]),(7,[2])] []
def Yq:=aH Tryz.call197 Tryz.func197 Tryz.ntmps197 [(0,0,1),(0,1,1)] [(0,[2,3]),(1,[2,3,5]),(2,[2,3,30]),(3,[4]),(4,[4])] []
def Yr:=aH Tryz.call198 Tryz.func198 Tryz.ntmps198 [] [(0,[0,1]),(1,[0,1,10]),(2,[4]),(3,[0,1,5]),(4,[0,1,5,14]),(5,[0,1,5]),(6,[0,1,5,25]),(7,[4]),(8,[4])] [(6,(tkq 0 8 (.take 8 true .done)))]
noncomputable def cq:jL:=SX Tryz.f200 0 [(3,0,1),(3,4,1)] [(0,[1,2]),(1,[2,6]),(2,[2,5]),(3,[]),(4,[4])] []
def HO:IR:=(.region [⟨none,some 5,(.set (.t 7) false)⟩] (.some [2,5]))
def HP:IR:=(.block 1 (.region [⟨none,some 8,(.gv (.t 2))⟩,⟨none,some 9,(.set (.t 5) false)⟩,⟨none,some 10,(.buildSlice 0 1 (.int .i64 0) 1 [(0,(.t 9))])⟩,⟨none,some 11,(.append 1 8 (.t 8) (.t 10))⟩,⟨none,none,(.iQ (.t 2) 11)⟩] (.some [])))
theorem P7:comp Tryz.prog cq.an cq.lv cq.pl cq.n cq.as=some HO:=by kernel_rfl
theorem P8:comp Tryz.prog cq.an cq.lv cq.pl cq.n cq.bd=some HP:=by kernel_rfl
def RN:IR:=(.seq (.region [⟨none,some 2,(.box (.t 0))⟩,⟨none,some 4,(.set (.c .ag) false)⟩] (.some [1,2])) (.seq (.seq (.region [⟨none,some 6,(.set (.t 1) false)⟩] (.some [2,6])) (.block 0 (.ma (.t 6) cq))) (.seq (.region [⟨none,some 12,(.load .none (.t 2))⟩,⟨none,some 4,(.set (.t 12) false)⟩] (.some [4])) .ret)))
def RP:qq:=⟨13,RN,[(.t 4)]⟩
theorem Ys:gD Tryz.prog 200 RP:=⟨Tryz.call200,Tryz.f200,_,[(3,0,1),(3,4,1)],[(0,[1,2]),(1,[2,6]),(2,[2,5]),(3,[]),(4,[4])],[],Tryz.func200,rfl,Tryz.ntmps200,by kernel_rfl,by kernel_rfl⟩
def Yt:=aH Tryz.call201 Tryz.func201 Tryz.ntmps201 [(1,6,2000)] [(0,[0,1,3]),(1,[0,1,3,11]),(2,[0,1,3])] []
def Yu:=aH Tryz.call204 Tryz.func204 Tryz.ntmps204 [(0,0,1),(0,1,1),(1,2,2000)] [(0,[2,3,4]),(1,[6])] []
def Yv:=aH Tryz.call205 Tryz.func205 Tryz.ntmps205 [(0,0,1),(3,1,2000)] [(0,[1,2,3,4]),(1,[1,2,3,4,5]),(2,[5]),(3,[])] []
def P9:=aH Tryz.call206 Tryz.func206 Tryz.ntmps206 [(2,2,2000),(6,6,2000)] [(0,[0,1,2,3,4,5]),(1,[0,2,3,4,5,12]),(2,[7]),(3,[0,4,5,8]),(4,[0,4,5,8,19]),(5,[0,4,5,8]),(6,[0,4,5,8,29]),(7,[7]),(8,[7])] [(6,(.take 1 true (.take 2 true (.take 0 true (.take 3 true (.take 4 true (.br 5 (.br 6 (.take 7 true .done) .nil) .nil)))))))]
def Yw:=aH Tryz.call207 Tryz.func207 Tryz.ntmps207 [] [(0,[0]),(1,[0,7]),(2,[0]),(3,[0,3]),(4,[0,3,4]),(5,[0,3,4,15]),(6,[0,3,4]),(7,[0,3,4]),(8,[2])] []
def Yx:=aH Tryz.call208 Tryz.func208 Tryz.ntmps208 [] [(0,[0,1]),(1,[4])] []
def Yy:=aH Tryz.call209 Tryz.func209 Tryz.ntmps209 [(0,0,1)] [(0,[1]),(1,[2])] []
def Yz:=aH Tryz.call210 Tryz.func210 Tryz.ntmps210 [(0,0,1),(0,1,1),(12,2,1),(12,3,1),(19,0,1),(19,15,1)] [(0,[2,3]),(1,[2,3,28]),(2,[4]),(3,[2,3,5]),(4,[2,3,5,33]),(5,[2,3,5]),(6,[2,3,5,52]),(7,[4]),(8,[2,3,6]),(9,[2,3,62]),(10,[4]),(11,[2,3,7]),(12,[2,3,7,8]),(13,[2,3,7,8,9]),(14,[2,3,7,8,9,74]),(15,[2,3,7,8,9]),(16,[2,3,7,8,9,10]),(17,[2,3,7,8,9,94]),(18,[4]),(19,[2,3,7,8,9]),(20,[7,11]),(21,[7,11,12]),(22,[7,11,12,115]),(23,[7,11,12]),(24,[7,11,12,124]),(25,[4]),(26,[4])] [(6,(tkq 0 16 (.take 16 true .done))),(16,(tkq 0 16 (.take 16 true .done))),(19,(tkq 1 13 (.br 0 (.br 14 (.br 15 .done .nil) .nil) .nil)))]
def YA:=aH Tryz.call211 Tryz.func211 Tryz.ntmps211 [(0,0,1)] [(0,[1]),(1,[2])] []
def YB:=aH Tryz.call213 Tryz.func213 Tryz.ntmps213 [] [(0,[0,1]),(1,[0,1,6]),(2,[0,1,6,7]),(3,[0,1,6,7,8]),(4,[0,1,6,7,8,9]),(5,[0,1,6,7,8,9,10]),(6,[0,1,6,7,9,11]),(7,[0,1,6,7,9,11,12]),(8,[0,1,6,7,9,12,13]),(9,[0,1,7,9,12,13]),(10,[0,1,4]),(11,[4,5])] []
def YC:=aH Tryz.call214 Tryz.func214 Tryz.ntmps214 [(0,0,1)] [(0,[1,2,3]),(1,[1,2,3]),(2,[1,2,3,18]),(3,[6,7]),(4,[1,2,3,8]),(5,[1,2,3,8,24]),(6,[1,2,3,8]),(7,[2,3,8,9,10]),(8,[1,2,3,8,10]),(9,[1,2,3,8,41]),(10,[6,7]),(11,[6,7])] []
def YD:=aH Tryz.call215 Tryz.func215 Tryz.ntmps215 [(0,0,1)] [(0,[1]),(1,[1,33]),(2,[2]),(3,[1,3]),(4,[1,3,38]),(5,[1,3]),(6,[1,3,47]),(7,[2]),(8,[2])] []
def YE:=aH Tryz.call216 Tryz.func216 Tryz.ntmps216 [] [(0,[0,1]),(1,[3])] []
def YF:=aH Tryz.call217 Tryz.func217 Tryz.ntmps217 [(0,0,1),(0,1,1)] [(0,[2,3,4,5]),(1,[2,3,4,5,18]),(2,[6]),(3,[2,3,5,7,8]),(4,[7,8,9,10]),(5,[6])] []
def YG:=aH Tryz.call218 Tryz.func218 Tryz.ntmps218 [(0,0,1),(0,1,1)] [(0,[1,3,5]),(1,[1,3,5,14]),(2,[1,5,19]),(3,[6,7]),(4,[6,7]),(5,[1,3,5,44]),(6,[6,7]),(7,[1,3,5,46,47,48]),(8,[1,3,5,46,47,48,49]),(9,[1,3,5,8,9,46,47,48]),(10,[1,3,5,8,10,11,46,47,48]),(11,[1,3,5,46,47,48,75]),(12,[6,7]),(13,[1,3,5,46,47,48]),(14,[6,7])] [(5,(tkq 0 19 (.take 19 true .done)))]
def YH:=aH Tryz.call219 Tryz.func219 Tryz.ntmps219 [] [(0,[0]),(1,[0,5]),(2,[2]),(3,[2])] []
def YI:=aH Tryz.call220 Tryz.func220 Tryz.ntmps220 [(1,3,2000),(1,8,2000)] [(0,[0,1,2]),(1,[4])] []
def YJ:=aH Tryz.call221 Tryz.func221 Tryz.ntmps221 [(0,0,1),(1,2,2000)] [(0,[1,2,3,4,5]),(1,[6])] []
def YK:=aH Tryz.call222 Tryz.func222 Tryz.ntmps222 [(1,9,2000)] [(0,[0,1,2,3,4]),(1,[6])] [(1,(tkq 0 9 (.br 9 (.take 10 true .done) .nil)))]
def YL:=aH Tryz.call223 Tryz.func223 Tryz.ntmps223 [(13,0,1),(13,7,1),(15,0,1),(15,5,1),(16,0,1),(16,6,1)] [(0,[0,1,2]),(1,[0,1,2,8]),(2,[0,1,8,9]),(3,[0,1,8,9,10]),(4,[0,1,8,9,10,18]),(5,[0,1,8,9,10]),(6,[0,1,8,9,10,11]),(7,[0,1,8,9,10,11,12]),(8,[0,1,8,9,10,11,12,24]),(9,[0,1,8,9,10,11,12]),(10,[0,1,8,9,10,11,12,46]),(11,[0,1,8,9,10,11,12]),(12,[0,1,8,9,10,11,49]),(13,[0,1,8,9,10]),(14,[0,1,8,9,10,11,13]),(15,[0,1,8,9,10,11,13]),(16,[0,1,8,10,13]),(17,[0,1,8,9,10]),(18,[6,7])] [(10,(tkq 0 19 (.take 19 true .done)))]
def YM:=aH Tryz.call224 Tryz.func224 Tryz.ntmps224 [] [(0,[0,1,2]),(1,[0,1,2,7]),(2,[0,1,2,7,18]),(3,[0,1,2,7]),(4,[0,1,2,7,41]),(5,[6]),(6,[6])] [(4,(tkq 0 20 (.take 20 true .done)))]
def YN:=aH Tryz.call225 Tryz.func225 Tryz.ntmps225 [] [(0,[0,1,2]),(1,[0,7,8]),(2,[0,7,8,21]),(3,[6]),(4,[0,7,8,9]),(5,[0,7,8,9,25]),(6,[0,7,8,9]),(7,[0,7,8,9,10]),(8,[0,7,8,9,10,11]),(9,[0,7,8,9,10,11,35]),(10,[0,7,8,9,10,11]),(11,[0,7,8,9,10,11]),(12,[0,7,8,9,55]),(13,[6]),(14,[6])] [(11,(tkq 0 16 (.take 16 true .done)))]
def YO:=aH Tryz.call226 Tryz.func226 Tryz.ntmps226 [] [(0,[0,1,2]),(1,[0,1,2,7]),(2,[0,1,2,7,11]),(3,[0,1,2,7]),(4,[0,1,2,7,17]),(5,[6]),(6,[0,1,2,7,34]),(7,[6]),(8,[6])] [(6,(tkq 0 16 (.take 16 true .done))),(7,(tkq 0 16 (.take 16 true .done)))]
def YP:=aH Tryz.call227 Tryz.func227 Tryz.ntmps227 [(0,0,1),(0,1,1),(7,0,1),(7,7,1)] [(0,[2,3,4]),(1,[2,15]),(2,[6]),(3,[2,7]),(4,[2,7,8]),(5,[2,7,8,21]),(6,[2,7,8]),(7,[2,7,8]),(8,[6])] []
def YQ:=aH Tryz.call228 Tryz.func228 Tryz.ntmps228 [] [(0,[0,1]),(1,[4])] []
def YR:=aH Tryz.call229 Tryz.func229 Tryz.ntmps229 [] [(0,[0,1]),(1,[0,1,5]),(2,[0,1,5,16]),(3,[4]),(4,[0,1,5,24]),(5,[4]),(6,[0,1,5,31]),(7,[4]),(8,[0,1,5,36]),(9,[4]),(10,[0,1,5,6]),(11,[0,1,5,6,7]),(12,[0,1,5,6,7,8]),(13,[0,1,5,6,7,8,9]),(14,[0,1,5,6,7,8,9,10]),(15,[0,1,5,6,7,8,9,10,59]),(16,[0,1,5,6,7,8,9,10,64]),(17,[0,1,5,6,7,8,9,10,11]),(18,[0,1,5,6,7,8,9,10,11,73]),(19,[4]),(20,[0,1,5,6,7,8,9,10]),(21,[0,1,5,6,7,8,9,10,93]),(22,[4]),(23,[0,1,5,6,7,8,9,10]),(24,[0,1,5,6,7,8,9,10]),(25,[0,1,5,6,7,8,9,10,107]),(26,[8,12]),(27,[8,12,114]),(28,[4]),(29,[4]),(30,[0,1,5,6,7,8,9,10,132]),(31,[8,13]),(32,[8,13,139]),(33,[4]),(34,[4]),(35,[4])] []
def YT:=aH Tryz.call232 Tryz.func232 Tryz.ntmps232 [(0,0,1)] [(0,[1,2]),(1,[1,2,5]),(2,[1,2,5,9]),(3,[1,2,5]),(4,[1,2,5,26]),(5,[4]),(6,[4])] [(4,(tkq 0 14 (.take 14 true .done)))]
def YU:=aH Tryz.call233 Tryz.func233 Tryz.ntmps233 [(1,3,2000)] [(0,[0,1,2]),(1,[4])] []
def YV:=aH Tryz.call234 Tryz.func234 Tryz.ntmps234 [(0,0,1),(0,1,1),(0,2,1)] [(0,[1,4,6,7]),(1,[1,4,7,9,10]),(2,[9,10,11,12]),(3,[8])] []
def YW:=aH Tryz.call235 Tryz.func235 Tryz.ntmps235 [(1,0,1),(1,1,1),(7,4,1),(7,5,2),(7,6,1)] [(0,[0]),(1,[0,3]),(2,[0,3,8]),(3,[2]),(4,[0,3,4]),(5,[0,3,4,13]),(6,[0,3,4]),(7,[0,3,4]),(8,[2])] []
def YX:=aH Tryz.call236 Tryz.func236 Tryz.ntmps236 [] [(0,[0,1]),(1,[0,1,5]),(2,[0,1,5,9]),(3,[0,1,5]),(4,[0,1,5,17]),(5,[4]),(6,[4])] []
def YY:=aH Tryz.call237 Tryz.func237 Tryz.ntmps237 [(2,1,1000),(5,2,1000),(6,2,2000)] [(0,[0]),(1,[0,3]),(2,[0,3,4]),(3,[3,4,8,9,10]),(4,[3,4,8,9,10,11]),(5,[3,4,6,8,9,10]),(6,[3,4,8,9,10]),(7,[3,4,8,9,10]),(8,[2])] []
def YZ:=aH Tryz.call242 Tryz.func242 Tryz.ntmps242 [(0,0,1),(0,1,1)] [(0,[1,3,5]),(1,[8,9]),(2,[6,7])] []
def Y0:=aH Tryz.call243 Tryz.func243 Tryz.ntmps243 [] [(0,[0]),(1,[0,3]),(2,[0,3,7]),(3,[0,3]),(4,[0,3,15]),(5,[2]),(6,[2])] []
def Y1:=aH Tryz.call244 Tryz.func244 Tryz.ntmps244 [(0,0,1),(3,0,1),(3,1,1),(4,0,1),(4,5,1),(8,5,1),(8,6,2),(8,7,1),(9,0,1),(9,1,1)] [(0,[1,2]),(1,[1,2,8]),(2,[1,2,12]),(3,[4]),(4,[4]),(5,[1,2,5]),(6,[1,2,5,23]),(7,[1,2,5]),(8,[1,2,5]),(9,[4])] []
def Y2:=aH Tryz.call245 Tryz.func245 Tryz.ntmps245 [(0,0,1),(1,2,2000),(4,2,1000),(5,2,2000)] [(0,[1,2]),(1,[1,2]),(2,[1,10,11,12]),(3,[1,10,11,12,13]),(4,[1,5,10,11,12]),(5,[1,10,11,12]),(6,[1,10,11,12])] []
def Y3:=aH Tryz.call246 Tryz.func246 Tryz.ntmps246 [(0,0,1),(3,0,1),(3,5,1)] [(0,[1,2,3]),(1,[1,2,3,13]),(2,[2,3]),(3,[])] []
def Y4:=aH Tryz.call248 Tryz.func248 Tryz.ntmps248 [(0,0,1),(0,1,1)] [(0,[1,3,5]),(1,[1,3,5,12]),(2,[6,7]),(3,[1,3,5,16]),(4,[6,7]),(5,[1,3,5,19]),(6,[6,7]),(7,[8,9]),(8,[8,28]),(9,[6,7]),(10,[6,7])] []
def Y5:=aH Tryz.call249 Tryz.func249 Tryz.ntmps249 [] [(0,[0,1]),(1,[0,1,5]),(2,[0,1,5,9]),(3,[0,1,5]),(4,[0,1,5,17]),(5,[4]),(6,[4])] []
def Y6:=aH Tryz.call250 Tryz.func250 Tryz.ntmps250 [(0,0,1),(0,1,1)] [(0,[1,3,5]),(1,[1,3,5,13]),(2,[1,5,18]),(3,[6,7]),(4,[6,7]),(5,[1,3,5,43]),(6,[6,7]),(7,[1,3,5,8]),(8,[1,3,5,8,48]),(9,[1,3,5,8]),(10,[1,3,5,8,9,10]),(11,[1,3,5,8,77]),(12,[6,7]),(13,[6,7])] [(5,(tkq 0 19 (.take 19 true .done))),(10,(tkq 0 12 (.take 12 true .done)))]
end Go.aI
end
noncomputable section
set_option maxRecDepth 100000
set_option maxHeartbeats 0
namespace Go.aI
open Go Go.Proofs
def Y7:=aH Tryz.call58 Tryz.func58 Tryz.ntmps58 [(3,0,2),(3,2,2),(3,3,1)] [(0,[0]),(1,[0,4]),(2,[2]),(3,[2])] []
def Y8:=aH Tryz.call75 Tryz.func75 Tryz.ntmps75 [(0,0,1),(5,2,1000),(6,0,1),(6,8,1),(7,6,2),(7,9,2),(9,0,6004)] [(0,[1,2]),(1,[1,6]),(2,[1,6,7]),(3,[6,7,15,16,17]),(4,[6,7,15,16,17,18]),(5,[6,7,9,15,16,17]),(6,[6,7,9,15,16,17]),(7,[6,7,15,16,17]),(8,[6,7,15,16,17]),(9,[4,5])] [(7,(tkq 1 5 (.take 0 false (.br 6 (.take 7 true (.take 8 true (.br 9 .done .nil))) .nil))))]
def RQ:=aH Tryz.call118 Tryz.func118 Tryz.ntmps118 [(3,0,2),(3,2,2),(3,3,1)] [(0,[0]),(1,[0,4]),(2,[2]),(3,[2])] []
def HQ:=aH Tryz.call132 Tryz.func132 Tryz.ntmps132 [(0,0,1),(2,0,1),(2,4,2),(2,5,1),(6,2,1000),(7,0,1),(7,5,1),(8,1,1),(8,2,2),(8,3,1),(11,0,1),(11,1,1)] [(0,[1,2]),(1,[1,2,5]),(2,[1,2,5]),(3,[1,2,5,6]),(4,[1,5,6,17,18,19]),(5,[1,5,6,17,18,19,20]),(6,[1,5,6,8,17,18,19]),(7,[1,5,6,8,17,18,19]),(8,[1,5,6,17,18,19]),(9,[1,5,6,17,18,19]),(10,[1]),(11,[4])] []
def RR:=aH Tryz.call139 Tryz.func139 Tryz.ntmps139 [(10,9,2000),(15,0,1),(15,4,1),(21,0,1),(21,4,1),(23,2,3000)] [(0,[0,1,2]),(1,[0,1,2,9]),(2,[0,1,2,9,10]),(3,[0,1,2,9,10,11,12]),(4,[0,1,9,10,11,12,26,27,28]),(5,[0,1,9,10,11,12,26,27,28,29]),(6,[0,1,9,10,11,12,13,14,26,27,28]),(7,[0,1,9,10,11,12,13,14,26,27,28,33,34,35]),(8,[0,1,9,10,11,12,13,14,26,27,28,33,34,35,36]),(9,[0,1,9,10,11,12,13,14,15,16,26,27,28,33,34,35]),(10,[0,1,9,10,11,12,13,14,15,26,27,28,33,34,35,50]),(11,[0,1,9,10,11,12,13,15,26,27,28]),(12,[0,1,9,10,11,12,13,26,27,28]),(13,[0,1,9,10,11,12,13,14,26,27,28,33,34,35]),(14,[0,1,9,10,11,12,13,26,27,28,63]),(15,[0,1,9,10,11,12,26,27,28]),(16,[0,1,9,10,11,12,26,27,28]),(17,[10,11,12,69,70,71]),(18,[10,11,12,69,70,71,72]),(19,[10,11,12,17,18,69,70,71]),(20,[10,11,12,17,69,70,71,77]),(21,[10,11,12,69,70,71]),(22,[10,11,12,69,70,71]),(23,[6,7,8])] []
def RS:=aH Tryz.call149 Tryz.func149 Tryz.ntmps149 [(1,2,1),(3,1,2000),(4,0,3000)] [(0,[0,1]),(1,[0,1]),(2,[0,8]),(3,[0]),(4,[4])] []
def RT:=aH Tryz.call185 Tryz.func185 Tryz.ntmps185 [(5,3,2000),(6,19,2000)] [(0,[0,1,2]),(1,[0,1,2,7,8]),(2,[0,1,2,7,38]),(3,[6]),(4,[0,9,10]),(5,[0,9,10,11]),(6,[6])] [(4,(tkq 0 21 (.take 21 true .done))),(6,(tkq 0 19 (.br 19 (.take 20 true (.take 21 true (.take 22 true .done))) .nil)))]
def RU:=aH Tryz.call199 Tryz.func199 Tryz.ntmps199 [] [(0,[0,2,3]),(1,[0,2,3,9]),(2,[0,2,3]),(3,[0,2,3])] [(3,(.take 0 true (.take 1 true (tkq 4 9 (.take 2 false (.take 3 false (.br 13 (.take 14 true (.br 15 .done .nil)) .nil)))))))]
end Go.aI
end
section
open Go Go.Proofs Go.aI
namespace Go.aI
theorem DQ (o:Nat) (xs:List AV) (H:List aa) (h1:qR 1 xs) (hb:xs.length * 8≤140737488355328) (nj:aw H.length xs=true) :
 aA Tryz.prog 118 [.al o xs] H fun r H'=>r=.al 1 xs∧H'=H:=by
 refine P4.2.FU (aea rfl) ?_
 simp only [P4,aH,qp,mF,vI,bE,put,get,aE,ku,wK,cc,AV.ab,List.map,Nat.reduceEqDiff,reduceIte,bP,xl]
 have mI:∀ (x:AV) ,x.le (.al 1 xs)→∃ m,H.length≤m∧∃ r,x.le r∧r.bc m=true∧r=AV.al 1 xs∧List.take m H=H:=
  fun x hx=>⟨H.length,zy _,_,hx,by simpa [AV.bc] using nj,rfl,by simp⟩
 cases xs with
 | nil=>
   simp only [dR,isNil,fH,bi,bC,oY,dK,List.replicate]
   exact ⟨⟨fun _=>⟨.inr trivial,mI _ (.inr (.inr (.inr (.inl ⟨rfl,1,rfl⟩))))⟩,by simp⟩,by simp,fun _=>⟨by simp,by simp [qR],.inr trivial,mI _ (.inl rfl)⟩⟩
 | cons x xs=>
   simp only [dR,isNil,fH,bi,bC,oY,dK,List.replicate]
   exact ⟨by simp,fun _=>⟨by simpa using hb,h1,.inr trivial,mI _ (.inl rfl)⟩⟩
theorem JY (H:List aa):aA Tryz.prog 118 [.ag] H fun r H'=>r=.al 1 []∧H'=H:=by
 refine P4.2.FU (aea rfl) ?_
 simp only [P4,aH,qp,mF,vI,bE,put,get,aE,ku,wK,cc,AV.ab,List.map,Nat.reduceEqDiff,reduceIte,bP,xl]
 simp only [dR,isNil,fH]
 exact ⟨fun _=>⟨.inr trivial,H.length,zy _,_,.inr (.inr (.inr (.inl ⟨rfl,1,rfl⟩))),rfl,rfl,by simp⟩,by simp⟩
end Go.aI
end
noncomputable section
set_option maxRecDepth 100000
namespace Go.aI
open Go
inductive T where
 | mk (k n:Int) (l:List T)
 deriving Inhabited
mutual
def T.av:T→AV
 | .mk k n l=>.agg [.int .i64 k,.int .i64 n,.al 0 (bN l)]
def bN:List T→List AV
 | []=>[]
 | x::r=>x.av::bN r
end
def T.k:T→Int | .mk k _ _=>k
def T.n:T→Int | .mk _ n _=>n
def T.l:T→List T | .mk _ _ l=>l
theorem T.sE (x:T):x.av=.agg [.int .i64 x.k,.int .i64 x.n,.al 0 (bN x.l)]:=by cases x;rfl
theorem nW:∀ l,bN l=l.map T.av
 | []=>rfl
 | x::r=>by simp [bN,nW r]
theorem sF (l:List T):(bN l).length=l.length:=by simp [nW]
theorem DR (l:List T) (i:Nat) (h:i < l.length):(bN l).getD i .any=(l.getD i default).av:=by
 simp [nW,h]
mutual
theorem T.mh (n:Nat):∀ x:T,x.av.bc n=true
 | .mk k m l=>by simp [T.av,AV.bc,aw,ee n l]
theorem ee (n:Nat):∀ l:List T,aw n (bN l)=true
 | []=>rfl
 | x::r=>by simp [bN,aw,T.mh n x,ee n r]
end
theorem T.tX (x:T):AV.agg x.av.cells=x.av:=by cases x;rfl
theorem T.xE (x:T):x.av.val=true:=by cases x;rfl
theorem T.rf (x:T):x.av.cells.all AV.one=true:=by cases x;rfl
theorem T.pq (x:T):x.av.ab=x.av:=by cases x;rfl
theorem T.sG (x:T):x.av.drop=x.av:=by cases x;rfl
theorem T.DS (x:T):x.av.cells.map AV.ab=x.av.cells:=by cases x;rfl
theorem T.Gq (x:T):x.av.cells.map AV.drop=x.av.cells:=by cases x;rfl
theorem T.jc (x:T):x.av.cells.length=3:=by cases x;rfl
theorem Mh (o:Nat) (l:List T):(∀ (own:Nat) (xs:List AV),AV.al o (bN l)=AV.al own xs→∀ z∈xs,z.cells.length=3)=True:=by
 simp only [eq_iff_iff,iff_true]
 intro own xs e z hz
 cases e
 rw [nW] at hz
 obtain ⟨y,_,rfl⟩:=aaw.1 hz
 exact y.jc
theorem Qa (e o:Nat) (l:List T) (k:IntKind) (i:Nat) (φ:AV→Prop):aG e (.al o (bN l)) (.int k (i:Int)) φ=(i < l.length∧φ (.ah (l.getD i default).av)):=by
 simp only [aG,sF,zB,eq_iff_iff]
 constructor
 ·rintro ⟨_,h,h2⟩;rw [DR _ _ h] at h2;exact ⟨h,h2⟩
 ·rintro ⟨h,h2⟩;rw [DR _ _ h];exact ⟨by omega,h,h2⟩
theorem DU (x:T) (H:List aa) (φ:AV→Prop):a8 (some 3) (.ah x.av) H φ=φ x.av:=by
 simp [a8,T.jc,T.tX]
theorem ac0 (a b c:AV) (x:T):ai [a,b,c] 0 x.av.cells=x.av.cells:=by simp [ai,T.jc]
theorem ac1 (n:Nat) (x:T):aw n x.av.cells=true:=cG (x.mh _)
theorem Qb (x:T) (φ:AV→Prop):cS (some (.cells x.av.cells)) (some 3) 0 φ=φ x.av:=by
 have e:List.map AV.drop (List.take 3 (List.drop 0 x.av.cells))=x.av.cells:=by cases x;rfl
 simp only [cS,e,T.tX]
 simp [T.jc]
theorem fk (x:T) (φ:AV→Prop):au 0 none (.ah x.av) φ=φ (.ah (.int .i64 x.k)):=by
 cases x;simp [au,apart,T.av,AV.cells,T.k,AV.one]
theorem fn_ (x:T) (φ:AV→Prop):au 1 none (.ah x.av) φ=φ (.ah (.int .i64 x.n)):=by
 cases x;simp [au,apart,T.av,AV.cells,T.n,AV.one]
theorem fl (x:T) (φ:AV→Prop):au 2 none (.ah x.av) φ=φ (.ah (.al 0 (bN x.l))):=by
 cases x;simp [au,apart,T.av,AV.cells,T.l,AV.one]
def ints (l:List Int):List AV:=l.map (AV.int .i64)
theorem ap (l:List Int):(ints l).length=l.length:=by simp [ints]
theorem aJ (n:Nat) (l:List Int):aw n (ints l)=true:=by
 rw [bg];intro x hx;obtain ⟨y,_,rfl⟩:=aaw.1 hx;rfl
theorem dY (o:Nat) (l:List Int):(∀ (own:Nat) (xs:List AV),AV.al o (ints l)=AV.al own xs→∀ z∈xs,z.cells.length=1)=True:=by
 simp only [eq_iff_iff,iff_true]
 intro own xs e z hz
 cases e
 obtain ⟨y,_,rfl⟩:=aaw.1 hz
 rfl
theorem Mi (e o:Nat) (l:List Int) (k:IntKind) (i:Nat) (φ:AV→Prop):aG e (.al o (ints l)) (.int k (i:Int)) φ=(i < l.length∧φ (.ah (.int .i64 (l.getD i 0)))):=by
 simp only [aG,ap,zB,eq_iff_iff]
 constructor
 ·rintro ⟨_,h,h2⟩;refine ⟨h,?_⟩;simpa [ints,h] using h2
 ·rintro ⟨h,h2⟩;refine ⟨by omega,h,?_⟩;simpa [ints,h] using h2
theorem pV (l:List Int) (n:Int):ints l++[.int .i64 n]=ints (l++[n]):=by simp [ints]
theorem ok_int (k:IntKind) (n:Int):qR 1 [.int k n]=True:=by simp [qR,AV.cells,AV.one]
theorem jI (l:List Int):qR 1 (ints l)=True:=by
 simp only [qR,eq_iff_iff,iff_true]
 intro y hy
 obtain ⟨z,_,rfl⟩:=aaw.1 hy
 exact ⟨rfl,rfl⟩
theorem UC (x:T):qR 3 [x.av]=True:=by
 simp only [qR,eq_iff_iff,iff_true]
 intro y hy
 rw [aay] at hy
 subst hy
 exact ⟨x.jc,x.rf⟩
theorem UD (k:IntKind) (n:Int):a9 (.int k n)=.int k n:=agq
theorem ac2 (x:T):a9 x.av=x.av:=by cases x;rfl
theorem bs0 (z:AV) (esz:Nat) (φ:List AV→Prop):bi (List.replicate 0 z) esz [] φ=φ []:=agq
theorem bs1 (z x:AV) (esz:Nat) (φ:List AV→Prop):bi (List.replicate 1 (a9 z)) esz [(0,x)] φ=(x.val=true∧x.cells.length=esz∧φ [a9 x]):=by
 simp [bi]
theorem bs2 (z x y:AV) (esz:Nat) (φ:List AV→Prop):bi (List.replicate 2 (a9 z)) esz [(0,x),(1,y)] φ=(x.val=true∧x.cells.length=esz∧y.val=true∧y.cells.length=esz∧φ [a9 x,a9 y]):=by
 simp [bi,List.replicate]
theorem bs3 (z x y u:AV) (esz:Nat) (φ:List AV→Prop):bi (List.replicate 3 (a9 z)) esz [(0,x),(1,y),(2,u)] φ=(x.val=true∧x.cells.length=esz∧y.val=true∧y.cells.length=esz∧u.val=true∧u.cells.length=esz∧φ [a9 x,a9 y,a9 u]):=by
 simp [bi,List.replicate]
@[congr] theorem Oh {xs:List AV} {esz:Nat} {ps ps':List (Nat×AV)} {φ:List AV→Prop} (h:iC ps=ps'):bi xs esz ps φ=bi xs esz ps' φ:=by subst h;rfl
def UE:=(tg (tg (tg (tg @or_true @true_or) (tg @true_and @and_true)) (tg (tg @true_implies @acB) (tg @acr (tg @Bool.not_true @Bool.not_false)))) (tg (tg (tg @decide_true @decide_false) (tg @Classical.not_not @not_true_eq_false)) (tg (tg @not_false_eq_true @false_implies) (tg @Int.not_le (tg @Int.not_lt @zy)))))
def UF:=(tg (tg (tg (tg (tg @sF @T.mh) (tg @ee @T.xE)) (tg (tg @T.rf @T.pq) (tg @T.sG @T.DS))) (tg (tg (tg @T.Gq @T.jc) (tg @T.tX @Mh)) (tg (tg @Qa @DU) (tg @ac0 (tg @ac1 @Qb))))) (tg (tg (tg (tg @fk @fn_) (tg @fl @ap)) (tg (tg @aJ @dY) (tg @Mi @pV))) (tg (tg (tg @ok_int @UC) (tg @jI @UD)) (tg (tg @ac2 @bs0) (tg @bs1 (tg @bs2 @bs3))))))
theorem sZa {α:Type} (a b:α) (h:Decidable True):(if True then a else b)=a:=if_pos trivial
def sZ:=tg Ux (tg UF (tg UE (tg @sZa (tg @ne_eq.{1} (tg @forall_const.{1} (tg @implies_true.{0} (tg @implies_true.{1} (tg @List.nil_append.{0} (tg @abJ.{0} (tg @List.cons_append.{0} (tg @List.length_cons.{0} @List.length_nil.{0})))))))))))
end Go.aI
end
section
end
noncomputable section
set_option maxRecDepth 100000
namespace Go.aI
open Go Go.Proofs
mutual
def T.same:T→T→Bool
 | .mk k n l,.mk k' n' l'=>k == k' && n == n' && gF l l'
def gF:List T→List T→Bool
 | [],[]=>true
 | x::r,y::s=>x.same y && gF r s
 | _,_=>false
end
theorem tY:∀ {l m:List T},gF l m=true→l.length=m.length
 | [],[],_=>rfl
 | x::r,y::s,h=>by simp only [gF,zC] at h;simp [tY h.2]
 | [],_::_,h=>by simp [gF] at h
 | _::_,[],h=>by simp [gF] at h
theorem xF {xs ys:List T} {i:Nat} (h1:i < xs.length) (h2:i < ys.length):gF (xs.drop i) (ys.drop i)=((xs.getD i default).same (ys.getD i default) && gF (xs.drop (i + 1)) (ys.drop (i + 1))):=by
 rw [aav h1,aav h2]
 simp [gF,h1,h2]
theorem dM {l:List T} {i:Nat} (h:i < l.length):l.getD i default∈l:=by simp [h]
theorem T.lt {x y:T} (h:x∈y.l):SizeOf.sizeOf x < SizeOf.sizeOf y:=by
 cases y with
 | mk k n l=>
   have:=List.sizeOf_lt_of_mem h
   simp only [T.l] at this
   simp only [T.mk.sizeOf_spec]
   omega
def vN (a b:Int):Int:=if a < b then -1 else if b < a then 1 else 0
def orL:List Int→Int
 | []=>0
 | x::r=>if x≠0 then x else orL r
mutual
def T.cmp:T→T→Int
 | .mk k n l,.mk k' n' l'=>if orL [vN k k',vN n n',vN l.length l'.length]≠0 then orL [vN k k',vN n n',vN l.length l'.length] else xG l l'
def xG:List T→List T→Int
 | [],[]=>0
 | [],_::_=>-1
 | _::_,[]=>1
 | x::r,y::s=>if x.cmp y≠0 then x.cmp y else xG r s
end
end Go.aI
end
noncomputable section
set_option maxRecDepth 100000
namespace Go.aI
open Go Go.Proofs
end Go.aI
end
noncomputable section
set_option maxRecDepth 100000
namespace Go.aI
open Go Go.Proofs
mutual
def ic:T→Int→Int×Int→Int×Int
 | .mk _ _ l,d,s=>mi l (d + 1) (s.1 + 1,max s.2 d)
def mi:List T→Int→Int×Int→Int×Int
 | [],_,s=>s
 | x::r,d,s=>if 2000 < s.1∨200 < s.2 then s else mi r d (ic x d s)
end
def qI (d:Int) (s:Int×Int):Prop:=0≤s.1∧s.1≤2000∧0≤s.2∧s.2≤200∧0≤d∧d≤201
def nX (s:Int×Int):Prop:=0≤s.1∧s.1≤2001∧0≤s.2∧s.2≤201
mutual
theorem xH:∀ (x:T) (d:Int) (s:Int×Int),qI d s→nX (ic x d s)∧(ic x d s).2 ≥ d
 | .mk k n l,d,s,h=>by
   simp only [ic]
   obtain ⟨h1,h2,h3,h4,h5,h6⟩:=h
   have:=DV l (d + 1) (s.1 + 1,max s.2 d) (by unfold nX;simp only;omega) (by omega) (by simp only;omega)
   refine ⟨this.1,?_⟩
   have h:=this.2
   simp only at h
   omega
theorem DV:∀ (l:List T) (d:Int) (s:Int×Int),nX s→0≤d→d≤s.2 + 1→nX (mi l d s)∧s.2≤(mi l d s).2
 | [],d,s,h,_,_=>by simp [mi,h]
 | x::r,d,s,h,hd,IW=>by
   simp only [mi]
   split
   ·exact ⟨h,afV _⟩
   ·rename_i hn
    obtain ⟨h1,h2,h3,h4⟩:=h
    have hx:=xH x d s ⟨h1,by omega,h3,by omega,hd,by omega⟩
    have hr:=DV r d (ic x d s) hx.1 hd (by omega)
    have:=tZ x d s
    exact ⟨hr.1,by omega⟩
theorem tZ:∀ (x:T) (d:Int) (s:Int×Int),s.2≤(ic x d s).2
 | .mk k n l,d,s=>by
   simp only [ic]
   have:=Ae l (d + 1) (s.1 + 1,max s.2 d)
   simp only at this
   omega
theorem Ae:∀ (l:List T) (d:Int) (s:Int×Int),s.2≤(mi l d s).2
 | [],d,s=>by simp [mi]
 | x::r,d,s=>by
   simp only [mi]
   split
   ·omega
   ·have h1:=tZ x d s
    have h2:=Ae r d (ic x d s)
    omega
end
theorem JZ {l:List T} {i:Nat} {d:Int} {s:Int×Int} (h:i < l.length):mi (l.drop i) d s=if 2000 < s.1∨200 < s.2 then s else mi (l.drop (i + 1)) d (ic (l.getD i default) d s):=by
 rw [aav h]
 simp [mi,h]
def fq (s:Int×Int):List aa:=[.cells [.int .i64 s.1,.int .i64 s.2]]
theorem UG (H:List aa) (x:T) (d:Int) (s:Int×Int) (hs:qI d s) :
 aA Tryz.prog 171 [.ptr H.length 0,x.av,.int .i64 d] (H++fq s) fun r H'=>r=.tuple []∧H'=H++fq (ic x d s):=by
 have ih:∀ y∈x.l,∀ (d:Int) (s:Int×Int),qI d s→aA Tryz.prog 171 [.ptr H.length 0,y.av,.int .i64 d] (H++fq s) fun r H'=>r=.tuple []∧H'=H++fq (ic y d s):=
  fun y hy d s hs=>UG H y d s hs
 have e:ic x d s=mi x.l (d + 1) (s.1 + 1,max s.2 d):=by cases x;simp only [ic,T.l]
 obtain ⟨h1,h2,h3,h4,h5,h6⟩:=hs
 have w1:IntKind.i64.wrap (s.1 + 1)=s.1 + 1:=cp _ (by omega)
 have w2:IntKind.i64.wrap (d + 1)=d + 1:=cp _ (by omega)
 refine X4.2.calls rfl ?_
 simp only [X4,aH]
 simp only [w1,fq,sZ,Nat.reduceEqDiff,Nat.reduceAdd,Nat.reduceLT,Nat.reduceLeDiff,↓reduceIte,reduceCtorEq]
 intro hl
 have KJ:nX (s.1 + 1,max s.2 d):=by unfold nX;simp only;omega
 have hmd:d≤max s.2 d:=by omega
 generalize max s.2 d=m at *
 refine aF x.l.length (fun i (t:Int×Int)=>nX t∧d≤t.2∧mi (x.l.drop i) (d + 1) t=ic x d s)
  (fun i t=>[(0,.ptr H.length 0),(2,.int .i64 d),(25,.al 0 (bN x.l)),(26,.int .i64 x.l.length),(27,.int .i64 i)]) (fun i t=>H++fq t) (s.1 + 1,m) ⟨⟨KJ,hmd,by rw [e];rfl⟩,ax _ _ _⟩ fun i t hi hI=>?_
 obtain ⟨⟨k1,k2,k3,k4⟩,k5,hI⟩:=hI
 simp only [w2,fq,sZ,Nat.reduceEqDiff,Nat.reduceAdd,Nat.reduceLT,↓reduceIte,reduceCtorEq]
 refine ⟨fun aM=>⟨bp aM,?_⟩,fun fV=>?_⟩
 ·have aM:=bp aM
  rw [JZ aM] at hI
  refine ⟨fun hn1=>⟨fun Mj=>?_,fun Mj=>?_⟩,fun hn1=>?_⟩
  ·rw [if_pos (.inr Mj)] at hI;rw [← hI];exact jR (by simp [fq]) rfl
  ·rw [if_neg (by omega)] at hI
   have ho:qI (d + 1) t:=⟨k1,by omega,k3,by omega,by omega,by omega⟩
   have hx:=xH (x.l.getD i default) (d + 1) t ho
   refine af (ih _ (dM aM) (d + 1) t ho) ?_
   rintro r H' ⟨rfl,rfl⟩
   simp only [fq,sZ,Nat.reduceEqDiff,↓reduceIte,reduceCtorEq]
   exact ⟨i + 1,ic (x.l.getD i default) (d + 1) t,⟨aM,hx.1,by omega,hI⟩,by omega,ay (by rw [aj i (by omega)]) rfl⟩
  ·rw [if_pos (.inl hn1)] at hI;rw [← hI];exact jR (by simp [fq]) rfl
 ·rw [aap (bZ fV)] at hI
  rw [← hI]
  exact jR (by simp [fq]) rfl
termination_by SizeOf.sizeOf x
decreasing_by exact T.lt hy
def vi (s:Int×Int):Bool:=decide (2000 < s.1) || decide (200 < s.2)
theorem Y9 (H:List aa) (s:Int×Int):aA Tryz.prog 172 [.ptr H.length 0] (H++fq s) fun r H'=>r=.bool (vi s)∧H'=H++fq s:=by
 refine X5.2.calls rfl ?_
 simp only [X5,aH]
 simp only [fq,sZ,Nat.reduceEqDiff,Nat.reduceAdd,Nat.reduceLT,↓reduceIte,reduceCtorEq]
 refine ⟨fun h=>?_,fun h=>?_⟩
 ·exact Uw (by simp [fq]) rfl (by simp [vi,Int.not_lt.2 h]) rfl
 ·exact Uw (by simp [fq]) rfl (by simp [vi,h]) rfl
def ua (p:T→Bool):List T→Int→Int
 | [],_=>-1
 | x::r,k=>if p x=true then k else ua p r (k + 1)
theorem xI (p:T→Bool):∀ (l:List T) (k:Int),0≤k→(decide (0≤ua p l k)=l.any p)
 | [],k,_=>by simp [ua]
 | x::r,k,h=>by
   simp only [ua,af8]
   split
   ·rename_i hp;simp [hp,h]
   ·rename_i hp;simp [hp,xI p r (k + 1) (by omega)]
theorem Af {p:T→Bool} {l:List T} {i:Nat} {k:Int} (h:i < l.length):ua p (l.drop i) k=if p (l.getD i default)=true then k else ua p (l.drop (i + 1)) (k + 1):=by
 rw [aav h]
 simp [ua,h]
theorem ac5 (g:Nat) (p:T→Bool) (l:List T) (hf:∀ x∈l,Pure Tryz.prog g [x.av] (.bool (p x))) :
 Pure Tryz.prog 114 [.al 0 (bN l),.fn (.func g) [] []] (.int .i64 (ua p l 0)):=by
 refine fun H=>JX.2.calls rfl ?_
 simp only [JX,aH]
 simp only [sZ,Nat.reduceEqDiff,Nat.reduceAdd,↓reduceIte,reduceCtorEq]
 intro hl
 refine aq l.length (fun i=>ua p (l.drop i) i=ua p l 0) (fun i=>[(0,.al 0 (bN l)),(1,.fn (.func g) [] []),(7,.int .i64 l.length),(8,.int .i64 i)]) (fun _=>H) ⟨rfl,ax _ _ _⟩ fun i hi hI=>?_
 simp only [sZ,Nat.reduceEqDiff,Nat.reduceAdd,↓reduceIte,reduceCtorEq]
 refine ⟨fun aM=>?_,fun fV=>?_⟩
 ·have aM:=bp aM
  rw [Af aM] at hI
  refine ⟨aM,ae (hf _ (dM aM)) ?_⟩
  simp only [sZ,Nat.reduceEqDiff,↓reduceIte,reduceCtorEq]
  refine nT (fun hb=>?_) (fun hb=>?_) <;> simp only [sZ,Nat.reduceEqDiff,↓reduceIte,reduceCtorEq]
  ·rw [if_pos hb] at hI
   exact aK rfl (by rw [← hI])
  ·rw [if_neg (by rw [hb];simp)] at hI
   exact ⟨i + 1,⟨aM,hI⟩,by omega,ay (by rw [aj i (by omega)]) rfl⟩
 ·rw [aap (bZ fV)] at hI
  exact aK rfl (by rw [← hI];rfl)
theorem c53 (g:Nat) (p:T→Bool) (l:List T) (hf:∀ x∈l,Pure Tryz.prog g [x.av] (.bool (p x))) :
 Pure Tryz.prog 53 [.al 0 (bN l),.fn (.func g) [] []] (.bool (l.any p)):=by
 refine fun H=>V7.2.calls rfl ?_
 simp only [V7,aH]
 simp only [sZ,Nat.reduceEqDiff,Nat.reduceAdd,↓reduceIte,reduceCtorEq]
 refine ae (ac5 g p l hf) ?_
 simp only [sZ,↓reduceIte,reduceCtorEq]
 exact aK rfl (by rw [xI p l 0 (by omega)])
mutual
def T.shaped:T→Bool
 | .mk k n l=>!(decide (n < 0) || (decide (k=1) && decide (0 < l.length)) || (decide (k≠1) && decide (k≠2)) || decide (8 < l.length)) && eh l
def eh:List T→Bool
 | []=>true
 | x::r=>x.shaped && eh r
end
theorem lL:∀ l,eh l=l.all T.shaped
 | []=>rfl
 | x::r=>by simp only [eh,List.all_cons,lL r]
theorem DW (l:List T):(!(l.any fun x=>!x.shaped))=eh l:=by
 rw [lL]
 induction l with
 | nil=>rfl
 | cons x r ih=>simp only [af8,List.all_cons,Bool.not_or,afZ,ih]
theorem T.dn (x:T):x.shaped=(!(decide (x.n < 0) || (decide (x.k=1) && decide (0 < x.l.length)) || (decide (x.k≠1) && decide (x.k≠2)) || decide (8 < x.l.length)) && eh x.l):=by
 cases x;simp only [T.shaped,T.k,T.n,T.l];rfl
theorem BL {l:List T} {i:Nat} (h:i < l.length):eh (l.drop i)=((l.getD i default).shaped && eh (l.drop (i + 1))):=by
 rw [aav h]
 simp [eh,h]
theorem T.J0 {x:T} (hh:¬ (x.n < 0∨(x.k=1∧0 < x.l.length)∨(x.k≠1∧x.k≠2)∨8 < x.l.length)):x.shaped=eh x.l:=by
 rw [x.dn]
 have h1:decide (x.n < 0)=false:=ab0.2 (by simp only [ne_eq,decide_eq_true_eq];omega)
 have h2:(decide (x.k=1) && decide (0 < x.l.length))=false:=ab0.2 (by simp only [ne_eq,zC,decide_eq_true_eq];omega)
 have h3:(decide (x.k≠1) && decide (x.k≠2))=false:=ab0.2 (by simp only [ne_eq,zC,decide_eq_true_eq];omega)
 have h4:decide (8 < x.l.length)=false:=ab0.2 (by simp only [ne_eq,decide_eq_true_eq];omega)
 rw [h1,h2,h3,h4];rfl
theorem ac7 (x:T) (h:Pure Tryz.prog 173 [x.av] (.bool x.shaped)):Pure Tryz.prog 211 [x.av] (.bool (!x.shaped)):=by
 refine fun H=>YA.2.calls rfl ?_
 simp only [YA,aH]
 simp only [sZ,Nat.reduceEqDiff,Nat.reduceAdd,↓reduceIte]
 refine ae h ?_
 simp only [sZ,↓reduceIte,reduceCtorEq]
 exact aK rfl rfl
theorem Za (x:T):Pure Tryz.prog 173 [x.av] (.bool x.shaped):=by
 have ih:∀ y∈x.l,Pure Tryz.prog 211 [y.av] (.bool (!y.shaped)):=fun y hy=>ac7 y (Za y)
 refine fun H=>X6.2.calls rfl ?_
 simp only [X6,aH]
 simp +contextual only [sZ,Nat.reduceEqDiff,Nat.reduceAdd,↓reduceIte,reduceCtorEq]
 have fin:∀ (H':List aa),H'=H→(x.n < 0∨(x.k=1∧0 < x.l.length)∨(x.k≠1∧x.k≠2)∨8 < x.l.length)→bP H.length [RX.t 2] [(2,AV.bool false)] H' fun r H'=>r=AV.bool x.shaped∧H'=H:=by
  rintro H' rfl hh
  refine aK rfl ?_
  rw [x.dn]
  rcases hh with h | h | h | h <;> simp [h]
 have go:¬ (x.n < 0∨(x.k=1∧0 < x.l.length)∨(x.k≠1∧x.k≠2)∨8 < x.l.length)→x.shaped=eh x.l:=by
  intro hh
  rw [x.dn]
  have h1:decide (x.n < 0)=false:=ab0.2 (by simp only [ne_eq,decide_eq_true_eq];omega)
  have h2:(decide (x.k=1) && decide (0 < x.l.length))=false:=ab0.2 (by simp only [ne_eq,zC,decide_eq_true_eq];omega)
  have h3:(decide (x.k≠1) && decide (x.k≠2))=false:=ab0.2 (by simp only [ne_eq,zC,decide_eq_true_eq];omega)
  have h4:decide (8 < x.l.length)=false:=ab0.2 (by simp only [ne_eq,decide_eq_true_eq];omega)
  rw [h1,h2,h3,h4];rfl
 refine ⟨fun h=>fin _ rfl (.inl h),fun h=>⟨fun h1 hl=>⟨fun h2=>fin _ rfl (by omega),fun h2=>⟨fun h3=>fin _ rfl (by omega),fun h3=>ae (c53 211 _ _ ih) ?_⟩⟩,
  fun h1=>⟨fun h2=>fin _ rfl (by omega),fun h2 hl=>⟨fun h3=>fin _ rfl (by omega),fun h3=>ae (c53 211 _ _ ih) ?_⟩⟩⟩⟩ <;>
 ·simp only [sZ,↓reduceIte,reduceCtorEq]
  exact aK rfl (by rw [go (by omega),DW])
termination_by SizeOf.sizeOf x
decreasing_by exact T.lt hy
def T.tree (x:T):Bool:=!vi (ic x 1 (0,0)) && x.shaped
theorem Zb (x:T):Pure Tryz.prog 108 [x.av] (.bool x.tree):=by
 refine fun H=>Xp.2.calls rfl ?_
 simp only [Xp,aH]
 simp only [sZ,Nat.reduceEqDiff,Nat.reduceAdd,↓reduceIte,reduceCtorEq]
 refine af (UG H x 1 (0,0) (by unfold qI;simp)) ?_
 rintro r H' ⟨rfl,rfl⟩
 simp only [sZ,Nat.reduceEqDiff,Nat.reduceAdd,↓reduceIte]
 refine af (Y9 H (ic x 1 (0,0))) ?_
 rintro r H' ⟨rfl,rfl⟩
 cases hb:vi (ic x 1 (0,0)) <;> simp +contextual only [sZ,Nat.reduceEqDiff,Nat.reduceAdd,↓reduceIte,reduceCtorEq]
 ·refine ae (Za x) ?_
  simp only [sZ,Nat.reduceEqDiff,↓reduceIte,reduceCtorEq]
  exact L9 rfl (by simp [T.tree,hb])
 ·exact L9 rfl (by simp [T.tree,hb])
theorem ac8 (x:T):Pure Tryz.prog 178 [x.av] (.bool (!x.tree)):=by
 refine fun H=>X9.2.calls rfl ?_
 simp only [X9,aH]
 simp only [sZ,Nat.reduceEqDiff,Nat.reduceAdd,↓reduceIte]
 refine ae (Zb x) ?_
 simp only [sZ,↓reduceIte,reduceCtorEq]
 exact aK rfl rfl
def kZ (l:List T):Bool:=l.all T.tree
theorem ac9 (l:List T):Pure Tryz.prog 121 [.al 0 (bN l)] (.int .i64 (if kZ l=true then 0 else 4)):=by
 refine fun H=>Xu.2.calls rfl ?_
 simp only [Xu,aH]
 simp only [sZ,Nat.reduceAdd,↓reduceIte,reduceCtorEq]
 refine ae (c53 178 _ l fun x _=>ac8 x) ?_
 have e:(l.any fun x=>!x.tree)=!kZ l:=by
  unfold kZ
  induction l with
  | nil=>rfl
  | cons x r ih=>simp only [af8,List.all_cons,ih,Bool.not_and]
 rw [e]
 cases kZ l <;> simp +contextual only [sZ,↓reduceIte,reduceCtorEq]
 ·exact aK rfl rfl
 ·exact aK rfl rfl
mutual
def jd:T→Int→Int→Int×Bool
 | .mk _ _ l,left,deep=>if left - 1 < 0∨200 < deep then (left - 1,false) else nY l (left - 1) (deep + 1)
def nY:List T→Int→Int→Int×Bool
 | [],left,_=>(left,true)
 | x::r,left,deep=>if (jd x left deep).2=true then nY r (jd x left deep).1 deep else ((jd x left deep).1,false)
end
mutual
theorem BM:∀ (x:T) (left deep:Int),(jd x left deep).1≤left∧(0≤left→-1≤(jd x left deep).1∧((jd x left deep).2=true→0≤(jd x left deep).1))
 | .mk k n l,left,deep=>by
   simp only [jd]
   split
   ·simp;omega
   ·rename_i hn
    have:=HR l (left - 1) (deep + 1)
    exact ⟨by omega,fun _=>this.2 (by omega)⟩
theorem HR:∀ (l:List T) (left deep:Int),(nY l left deep).1≤left∧(0≤left→-1≤(nY l left deep).1∧((nY l left deep).2=true→0≤(nY l left deep).1))
 | [],left,deep=>by simp [nY];omega
 | x::r,left,deep=>by
   have h1:=BM x left deep
   simp only [nY]
   split
   ·rename_i hb
    have h2:=HR r (jd x left deep).1 deep
    exact ⟨by omega,fun h0=>h2.2 ((h1.2 h0).2 hb)⟩
   ·exact ⟨h1.1,fun h0=>⟨(h1.2 h0).1,fun e=>by cases e⟩⟩
end
theorem J1 {l:List T} {i:Nat} {left d:Int} (h:i < l.length):nY (l.drop i) left d=if (jd (l.getD i default) left d).2=true then nY (l.drop (i + 1)) (jd (l.getD i default) left d).1 d else ((jd (l.getD i default) left d).1,false):=by
 rw [aav h]
 simp [nY,h]
theorem Zc (x:T) (left deep:Int) (h0:0≤left) (h1:left≤100000) (h2:0≤deep) (h3:deep≤201) :
 Pure Tryz.prog 214 [x.av,.int .i64 left,.int .i64 deep] (.tuple [.int .i64 (jd x left deep).1,.bool (jd x left deep).2]):=by
 have ih:∀ y∈x.l,∀ (left deep:Int),0≤left→left≤100000→0≤deep→deep≤201→
  Pure Tryz.prog 214 [y.av,.int .i64 left,.int .i64 deep] (.tuple [.int .i64 (jd y left deep).1,.bool (jd y left deep).2]):=fun y hy left deep h0 h1 h2 h3=>Zc y left deep h0 h1 h2 h3
 have e:jd x left deep=if left - 1 < 0∨200 < deep then (left - 1,false) else nY x.l (left - 1) (deep + 1):=by cases x;simp only [jd,T.l]
 have w1:IntKind.i64.wrap (left - 1)=left - 1:=cp _ (by omega)
 have w2:IntKind.i64.wrap (deep + 1)=deep + 1:=cp _ (by omega)
 refine fun H=>YC.2.calls rfl ?_
 simp only [YC,aH]
 simp +contextual only [w1,sZ,Nat.reduceEqDiff,Nat.reduceAdd,↓reduceIte,reduceCtorEq]
 refine ⟨fun h4=>⟨fun h5=>HK (by decide) rfl rfl (by rw [e,if_pos (.inr h5)];rfl) (by rw [e,if_pos (.inr h5)];rfl),fun h5=>?_⟩,fun h4=>HK (by decide) rfl rfl (by rw [e,if_pos (.inl h4)];rfl) (by rw [e,if_pos (.inl h4)];rfl)⟩
 have e2:jd x left deep=nY x.l (left - 1) (deep + 1):=by rw [e,if_neg (by omega)]
 refine aF x.l.length (fun i (s:Int)=>0≤s∧s≤100000∧nY (x.l.drop i) s (deep + 1)=jd x left deep)
  (fun i s=>[(1,.int .i64 s),(2,.int .i64 deep),(3,x.av.ah),(8,.int .i64 i)]) (fun i s=>H) (left - 1) ⟨⟨by omega,by omega,by rw [e2];rfl⟩,ax _ _ _⟩ fun i s hi hI=>?_
 obtain ⟨k0,k1,hI⟩:=hI
 simp +contextual only [w2,sZ,Nat.reduceEqDiff,Nat.reduceAdd,↓reduceIte,reduceCtorEq]
 intro hl
 refine ⟨fun aM=>⟨bp aM,?_⟩,fun fV=>?_⟩
 ·have aM:=bp aM
  rw [J1 aM] at hI
  have hle:=BM (x.l.getD i default) s (deep + 1)
  refine ae (ih _ (dM aM) s (deep + 1) k0 k1 (by omega) (by omega)) ?_
  simp +contextual only [sZ,Nat.reduceEqDiff,Nat.reduceAdd,Nat.reduceLT,↓reduceIte]
  refine nT (fun hb=>?_) (fun hb=>?_) <;> simp +contextual only [sZ,Nat.reduceEqDiff,↓reduceIte,reduceCtorEq]
  ·rw [if_pos hb] at hI
   exact ⟨i + 1,_,⟨aM,(hle.2 k0).2 hb,by omega,hI⟩,by omega,ay (by rw [aj i (by omega)]) rfl⟩
  ·rw [if_neg (by rw [hb];simp)] at hI
   exact HK (by decide) rfl rfl (by rw [← hI];rfl) (by rw [← hI];rfl)
 ·rw [aap (bZ fV)] at hI
  exact HK (by decide) rfl rfl (by rw [← hI];rfl) (by rw [← hI];rfl)
termination_by SizeOf.sizeOf x
decreasing_by exact T.lt hy
theorem Zd (x:T):Pure Tryz.prog 215 [x.av] (.bool x.shaped):=by
 have ih:∀ y∈x.l,Pure Tryz.prog 215 [y.av] (.bool y.shaped):=fun y hy=>Zd y
 refine fun H=>YD.2.calls rfl ?_
 simp only [YD,aH]
 simp +contextual only [sZ,Nat.reduceEqDiff,Nat.reduceAdd,↓reduceIte,reduceCtorEq,Int.reduceEq]
 have fin:∀ (H':List aa),H'=H→(x.n < 0∨(x.k=1∧0 < x.l.length)∨(x.k≠1∧x.k≠2)∨8 < x.l.length)→bP H.length [RX.t 2] [(2,AV.bool false)] H' fun r H'=>r=AV.bool x.shaped∧H'=H:=by
  rintro H' rfl hh
  refine aK rfl ?_
  rw [x.dn]
  rcases hh with h | h | h | h <;> simp [h]
 refine ⟨fun h=>⟨fun h1=>⟨fun h2 hl=>⟨fun h3=>fin _ rfl (by omega),fun h3=>?_⟩,fun h2=>fin _ rfl (by omega)⟩,fun h1 hl=>⟨fun h2=>⟨fun h3=>fin _ rfl (by omega),fun h3=>?_⟩,fun h2=>fin _ rfl (by omega)⟩⟩,fun h=>fin _ rfl (by omega)⟩
 all_goals
  have go:x.shaped=eh x.l:=T.J0 (by omega)
  refine aq x.l.length (fun i=>eh (x.l.drop i)=x.shaped) (fun i=>[(1,x.av.ah),(3,.int .i64 i)]) (fun i=>H) ⟨by rw [go];rfl,ax _ _ _⟩ fun i hi hI=>?_
  simp +contextual only [sZ,Nat.reduceEqDiff,Nat.reduceAdd,↓reduceIte,reduceCtorEq]
  intro _
  refine ⟨fun aM=>⟨bp aM,?_⟩,fun fV=>?_⟩
  ·have aM:=bp aM
   rw [BL aM] at hI
   refine ae (ih _ (dM aM)) ?_
   simp +contextual only [sZ,Nat.reduceEqDiff,↓reduceIte]
   refine nT (fun hb=>?_) (fun hb=>?_) <;> simp +contextual only [sZ,Nat.reduceEqDiff,↓reduceIte,reduceCtorEq]
   ·exact ⟨i + 1,⟨aM,by rw [hb] at hI;simpa using hI⟩,by omega,ay (by rw [aj i (by omega)]) rfl⟩
   ·exact aK rfl (by rw [← hI,hb];rfl)
  ·rw [aap (bZ fV)] at hI
   exact aK rfl (by rw [← hI];rfl)
termination_by SizeOf.sizeOf x
decreasing_by exact T.lt hy
theorem ada (x:T):Pure Tryz.prog 175 [x.av] (.bool ((jd x 2000 1).2 && x.shaped)):=by
 refine fun H=>X8.2.calls rfl ?_
 simp only [X8,aH]
 simp +contextual only [sZ,Nat.reduceEqDiff,Nat.reduceAdd,↓reduceIte]
 refine ae (Zc x 2000 1 (by omega) (by omega) (by omega) (by omega)) ?_
 cases hb:(jd x 2000 1).2 <;> simp +contextual only [sZ,Nat.reduceEqDiff,Nat.reduceAdd,Nat.reduceLT,↓reduceIte,reduceCtorEq]
 ·exact aK rfl rfl
 ·refine ae (Zd x) ?_
  simp +contextual only [sZ,Nat.reduceEqDiff,↓reduceIte,reduceCtorEq]
  exact aK rfl rfl
end Go.aI
end
