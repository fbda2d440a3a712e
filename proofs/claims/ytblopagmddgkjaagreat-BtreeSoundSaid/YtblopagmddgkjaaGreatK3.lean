/- Part 3 of what the proof rests on. -/
import Derived.Test.YtblopagmddgkjaaGreatK2
set_option linter.unusedVariables false
set_option linter.unusedSimpArgs false
set_option maxHeartbeats 4000000
namespace Go.Ai
open Go.Proofs
set_option maxRecDepth 100000
def c5:au:=⟨4,107,(af [mB 8 false] (af [mV 17 0,bI 18 .rem 17 297,bI 19 .add 18 297,bI 20 .rem 19 297,oN 21 (.bin .add (.c (.v (.int .i64 4))) (.t 20)),cA 22 21 21,mV 9 22] (Sq (af [mV 23 9,oN 24 (.z8 .eql (.t 23) (.c (.v (.pointer none)))),mV 25 24,⟨(some 26),(.call 20 []),(some (25,false))⟩,⟨(some 27),(.un .not (.t 26)),(some (25,false))⟩,pT 28 25 27] (Cd 28 (af [mB 8 false] .ret) .skip)) (Sq (af [mV 29 1,cA 30 22 29,oN 31 (.un .not (.t 30)),mV 32 31,gD 33 2 32,⟨(some 34),(.gA (.t 33)),(some (32,false))⟩,tt 35 .gtr 34 60 32,pT 36 32 35,mV 37 36,gD 38 3 37,⟨(some 39),(.gA (.t 38)),(some (37,false))⟩,tt 40 .gtr 39 20000 37,pT 41 37 40] (Cd 41 (af [mB 8 true] .ret) .skip)) (Sq (af [mV 42 1,lE 43 42,mI 44 0] (.block 0 (.loop (af [bB 45 .lss 44 43] (Sq (Cd 45 .skip (.exit 0)) (Sq (.block 1 (af [iA 46 4 42 44,lN 47 4 46,oN 11 (.alloc [(.v (.int .i64 0)),(.str []),(.str []),(.v (.int .i64 0))]),sO 4 11 47] (Rg [mV 48 9,lN 49 4 11,cB 50 23 48 49]))) (Rg [bI 51 .add 44 1,mV 44 51]))))))) (af [mV 52 9,nC 53 52,fA 54 2 53,lD 55 54,cA 56 19 55,oN 57 (.bin .mul (.c (.v (.int .i64 2))) (.t 56)),bI 58 .add 57 3,mV 12 58] (Sq (af [mV 59 3,oN 60 (.gA (.t 59)),bI 61 .gtr 60 60] (Cd 61 (Rg [mV 62 12,mV 63 3,oN 64 (.gA (.t 63)),bI 65 .add 64 492,bI 66 .sub 65 5,bI 67 .quo 66 488,bB 68 .add 62 67,mV 12 68]) .skip)) (Sq (af [mV 69 9,nC 70 69,fA 71 1 70,lD 72 71,cA 73 25 72,mV 74 12,bB 75 .lss 73 74] (Cd 75 (af [mB 8 true] .ret) .skip)) (af [mV 76 9,nC 77 76,fA 78 2 77,lD 79 78,mV 80 2,mV 81 3,cD 82 16 79 80 81,mV 13 82] (af [mV 84 9,nC 85 84,fA 86 2 85,lD 87 86,mV 88 2,cB 89 10 87 88,mV 83 89,xT 90 83 0,xT 91 83 1,xT 92 83 2,mV 14 90,mV 15 91,mV 16 92] (af [mV 93 13,cA 94 14 93,mV 95 16,cA 96 14 95,bB 97 .add 94 96,bI 98 .eql 97 0,mV 99 98,ji 100 15 99,pF 101 99 100,mV 102 101,ji 103 14 102,ji 104 3 102,DR 105 .eql 103 104 102,pF 106 102 105,mV 8 106] .ret))))))))))),[(.t 8)]⟩
theorem PD:Cm 5 c5:=⟨by kernel_rfl,by kernel_rfl⟩
def c6:au:=⟨2,94,(af [mB 4 false] (af [mV 8 0,bI 9 .rem 8 297,bI 10 .add 9 297,bI 11 .rem 10 297,oN 12 (.bin .add (.c (.v (.int .i64 4))) (.t 11)),cA 13 21 12,mV 5 13] (Sq (af [mV 14 5,oN 15 (.z8 .eql (.t 14) (.c (.v (.pointer none)))),mV 16 15,⟨(some 17),(.call 20 []),(some (16,false))⟩,⟨(some 18),(.un .not (.t 17)),(some (16,false))⟩,pT 19 16 18] (Cd 19 (af [mB 4 false] .ret) .skip)) (Sq (af [mV 20 1,cA 21 22 20,oN 22 (.un .not (.t 21))] (Cd 22 (af [mB 4 true] .ret) .skip)) (Sq (af [mV 23 1,lE 24 23,mI 25 0] (.block 0 (.loop (af [bB 26 .lss 25 24] (Sq (Cd 26 .skip (.exit 0)) (Sq (.block 1 (af [iA 27 4 23 25,lN 28 4 27,oN 7 (.alloc [(.v (.int .i64 0)),(.str []),(.str []),(.v (.int .i64 0))]),sO 4 7 28] (af [mV 29 5,lN 30 4 7,cB 31 23 29 30] (Sq (.draw [[],[0],[1,0],[2,1,0],[3,2,1,0],[4,3,2,1,0],[5,4,3,2,1,0],[6,5,4,3,2,1,0],[7,6,5,4,3,2,1,0],[8,7,6,5,4,3,2,1,0],[9,8,7,6,5,4,3,2,1,0],[10,9,8,7,6,5,4,3,2,1,0],[11,10,9,8,7,6,5,4,3,2,1,0],[12,11,10,9,8,7,6,5,4,3,2,1,0],[7,6,5,4,3,2,1,0,13,12,11,10,9,8],[14,7,6,5,4,3,2,1,0,13,12,11,10,9,8],[15,14,7,6,5,4,3,2,1,0,13,12,11,10,9,8],[16,15,14,7,6,5,4,3,2,1,0,13,12,11,10,9,8],[17,16,15,14,7,6,5,4,3,2,1,0,13,12,11,10,9,8],[18,17,16,15,14,7,6,5,4,3,2,1,0,13,12,11,10,9,8],[19,18,17,16,15,14,7,6,5,4,3,2,1,0,13,12,11,10,9,8],[20,19,18,17,16,15,14,7,6,5,4,3,2,1,0,13,12,11,10,9,8],[15,14,7,6,5,4,3,2,1,0,13,12,11,10,9,8],[22,15,14,7,6,5,4,3,2,1,0,13,12,11,10,9,8],[23,22,15,14,7,6,5,4,3,2,1,0,13,12,11,10,9,8],[24,23,22,15,14,7,6,5,4,3,2,1,0,13,12,11,10,9,8],[25,24,23,22,15,14,7,6,5,4,3,2,1,0,13,12,11,10,9,8],[26,25,24,23,22,15,14,7,6,5,4,3,2,1,0,13,12,11,10,9,8],[21,20,19,18,17,16,15,14,7,6,5,4,3,2,1,0,13,12,11,10,9,8,27,26,25,24,23,22],[15,14,7,6,5,4,3,2,1,0,13,12,11,10,9,8,28,21,20,19,18,17,16,27,26,25,24,23,22],[29,15,14,7,6,5,4,3,2,1,0,13,12,11,10,9,8,28,21,20,19,18,17,16,27,26,25,24,23,22],[30,29,15,14,7,6,5,4,3,2,1,0,13,12,11,10,9,8,28,21,20,19,18,17,16,27,26,25,24,23,22],[31,30,29,15,14,7,6,5,4,3,2,1,0,13,12,11,10,9,8,28,21,20,19,18,17,16,27,26,25,24,23,22],[32,31,30,29,15,14,7,6,5,4,3,2,1,0,13,12,11,10,9,8,28,21,20,19,18,17,16,27,26,25,24,23,22],[33,32,31,30,29,15,14,7,6,5,4,3,2,1,0,13,12,11,10,9,8,28,21,20,19,18,17,16,27,26,25,24,23,22],[34,33,32,31,30,29,15,14,7,6,5,4,3,2,1,0,13,12,11,10,9,8,28,21,20,19,18,17,16,27,26,25,24,23,22],[35,34,33,32,31,30,29,15,14,7,6,5,4,3,2,1,0,13,12,11,10,9,8,28,21,20,19,18,17,16,27,26,25,24,23,22],[30,29,15,14,7,6,5,4,3,2,1,0,13,12,11,10,9,8,28,21,20,19,18,17,16,27,26,25,24,23,22],[37,30,29,15,14,7,6,5,4,3,2,1,0,13,12,11,10,9,8,28,21,20,19,18,17,16,27,26,25,24,23,22],[38,37,30,29,15,14,7,6,5,4,3,2,1,0,13,12,11,10,9,8,28,21,20,19,18,17,16,27,26,25,24,23,22],[39,38,37,30,29,15,14,7,6,5,4,3,2,1,0,13,12,11,10,9,8,28,21,20,19,18,17,16,27,26,25,24,23,22],[40,39,38,37,30,29,15,14,7,6,5,4,3,2,1,0,13,12,11,10,9,8,28,21,20,19,18,17,16,27,26,25,24,23,22],[41,40,39,38,37,30,29,15,14,7,6,5,4,3,2,1,0,13,12,11,10,9,8,28,21,20,19,18,17,16,27,26,25,24,23,22],[36,35,34,33,32,31,30,29,15,14,7,6,5,4,3,2,1,0,13,12,11,10,9,8,28,21,20,19,18,17,16,27,26,25,24,23,22,42,41,40,39,38,37],[30,29,15,14,7,6,5,4,3,2,1,0,13,12,11,10,9,8,28,21,20,19,18,17,16,27,26,25,24,23,22,43,36,35,34,33,32,31,42,41,40,39,38,37]] [mV 32 5,nC 33 32,fA 34 2 33,lD 35 34,cA 36 17 35,cA 37 14 36,bI 38 .neq 37 0,mV 39 38,gD 40 5 39,Iu 41 40 39,xh 42 2 41 39,ti 43 42 39,Dq 44 19 43 39,tt 45 .gtr 44 12 39,pT 46 39 45,mV 47 46,gD 48 5 47,Iu 49 48 47,xh 50 2 49 47,ti 51 50 47,Dq 52 18 51 47,tt 53 .eql 52 0 47,gD 54 5 47,Iu 55 54 47,xh 56 3 55 47,ti 57 56 47,Tx 58 57 47,tt 59 .eql 58 0 47,⟨(some 60),(.Uy .neq (.t 53) (.t 59)),(some (47,false))⟩,pT 61 47 60,mV 62 61,gD 63 5 62,Iu 64 63 62,xh 65 2 64 62,ti 66 65 62,Dq 67 19 66 62,tt 68 .eql 67 0 62,gD 69 5 62,Iu 70 69 62,xh 71 3 70 62,ti 72 71 62,Tx 73 72 62,tt 74 .eql 73 0 62,⟨(some 75),(.Uy .neq (.t 68) (.t 74)),(some (62,false))⟩,pT 76 62 75]) (Cd 76 (af [mB 4 false] .ret) .skip))))) (Rg [bI 77 .add 25 1,mV 25 77]))))))) (af [mV 78 5,oN 79 (.call 26 [(.t 78),(.c (.v (.bool true)))])] (af [mV 80 5,nC 81 80,fA 82 6 81,lD 83 82,oN 84 (.un .not (.t 83)),mV 85 84,ji 86 5 85,QM 87 86 85,rN 88 2 87 85,mb 89 88 85,cAT 90 17 89 85,cAT 91 14 90 85,uv 92 .eql 91 0 85,pF 93 85 92,mV 4 93] .ret))))))),[(.t 4)]⟩
theorem UH:Cm 6 c6:=⟨by kernel_rfl,by kernel_rfl⟩
def c10:au:=⟨2,73,(af [oN 4 (.dm (.c (.str []))),mB 5 false,mI 6 0] (Sq (af [mV 15 0,cA 16 35 15,mV 7 16] (af [mV 17 7,bI 18 .neq 17 0] (Cd 18 (af [mV 19 7,oN 4 (.dm (.c (.str []))),mB 5 false,mV 6 19] .ret) .skip))) (af [mV 20 0,nC 21 20,fA 22 1 21,lD 23 22,mV 8 23] (Sq (af [mI 9 0] (.block 0 (.loop (Sq (af [mV 24 8,bI 25 .neq 24 0,mV 26 25,ji 27 9 26,uv 28 .lss 27 12 26,pF 29 26 28] (Cd 29 .skip (.exit 0))) (Sq (.block 1 (af [mV 33 0,mV 34 8,cB 35 36 33 34,mV 32 35,xT 36 32 0,xT 37 32 1,oN 10 (.alloc [(.v (.bool false)),nS,nS,nS]),sO 4 10 36,mV 11 37] (Sq (af [mV 38 11,bI 39 .neq 38 0] (Cd 39 (af [mV 40 11,oN 4 (.dm (.c (.str []))),mB 5 false,mV 6 40] .ret) .skip)) (af [lN 42 4 10,mV 43 1,cB 44 37 42 43,mV 41 44,xT 45 41 0,xT 46 41 1,mV 12 45,mV 13 46] (Sq (af [fA 47 0 10,lD 48 47,oN 49 (.un .not (.t 48))] (Cd 49 (af [fA 50 3 10,lD 51 50,mV 52 12,iA 53 1 51 52,lD 54 53,mV 8 54] (.exit 1)) .skip)) (Sq (af [mV 55 13,oN 56 (.un .not (.t 55))] (Cd 56 (af [oN 4 (.dm (.c (.str []))),mB 5 false,mI 6 0] .ret) .skip)) (af [mV 58 0,fA 59 2 10,lD 60 59,mV 61 12,iA 62 3 60 61,lN 63 3 62,cB 64 38 58 63,mV 57 64,xT 65 57 0,xT 66 57 1,mV 14 65,mV 11 66] (af [mV 67 14,mV 68 11,bI 69 .eql 68 0,mV 70 11,mV 4 67,mV 5 69,mV 6 70] .ret)))))))) (Rg [mV 30 9,bI 31 .add 30 1,mV 9 31])))))) (Sq (af [mV 71 8,bI 72 .neq 71 0] (Cd 72 (af [oN 4 (.dm (.c (.str []))),mB 5 false,mI 6 10] .ret) .skip)) (af [oN 4 (.dm (.c (.str []))),mB 5 false,mI 6 0] .ret)))))),[(.t 4),(.t 5),(.t 6)]⟩
theorem Qe:Cm 10 c10:=⟨by kernel_rfl,by kernel_rfl⟩
def c11:au:=⟨4,32,(af [bX 4 0,bX 5 1,bX 6 2,bX 7 3,oN 8 (.dm (.c nS)),mI 9 0] (Sq (af [lD 14 4,cA 15 35 14,mV 10 15] (af [mV 16 10,bI 17 .neq 16 0] (Cd 17 (af [mV 18 10,oN 8 (.dm (.c nS)),mV 9 18] .ret) .skip))) (af [lD 19 7,oN 20 (.min (.t 19) (.c (.v (.int .i64 20000)))),sO 1 7 20] (af [oN 11 (.alloc [nS])] (af [oN 12 (.alloc [(.v .nilFunc)])] (af [oN 21 (.sa (.func 39) [] [(.t 11),(.t 7),(.t 4),(.t 5),(.t 6),(.t 12)]),sO 1 12 21] (Sq (Sq (.draw [[],[],[1],[2,1],[3,2,1],[0,4,3,2,1],[5,0,4,3,2,1]] [lD 22 12,lD 23 4,nC 24 23,fA 25 1 24,lD 26 25,oN 27 (.kH (.t 22) [(.t 26),(.c (.v (.int .i64 0)))]),mV 13 27]) (af [mV 28 13,bI 29 .neq 28 0] (Cd 29 (af [mV 30 13,oN 8 (.dm (.c nS)),mV 9 30] .ret) .skip))) (af [lD 31 11,mV 8 31,mI 9 0] .ret)))))))),[(.t 8),(.t 9)]⟩
theorem Qd:Cm 11 c11:=⟨by kernel_rfl,by kernel_rfl⟩
def c12:au:=⟨2,51,(af [bX 2 0,mI 4 0,mI 5 0] (Sq (af [lD 13 2,cA 14 35 13,mV 6 14] (af [mV 15 6,bI 16 .neq 15 0] (Cd 16 (af [mV 17 6,mI 4 0,mV 5 17] .ret) .skip))) (af [mI 7 0] (Sq (af [mV 18 1,lE 19 18,mI 20 0] (.block 0 (.loop (af [bB 21 .lss 20 19] (Sq (Cd 21 .skip (.exit 0)) (Sq (.block 1 (af [iA 22 1 18 20,lD 23 22,oN 9 (.alloc [(.str [])]),sO 1 9 23] (af [lD 25 2,lD 26 9,cB 27 10 25 26,mV 24 27,xT 28 24 0,xT 29 24 1,xT 30 24 2,mV 10 28,mV 11 29,mV 12 30] (Sq (af [mV 31 12,bI 32 .eql 31 0,mV 33 32,ji 34 11 33,pF 35 33 34] (Cd 35 (af [lD 36 2,lD 37 9,oN 38 (.sa (.func 41) [] [(.t 9),(.t 2)]),cD 39 40 36 37 38,mV 12 39] (Rg [mV 40 7,bI 41 .add 40 1,mV 7 41])) .skip)) (af [mV 42 12,bI 43 .neq 42 0] (Cd 43 (Sq (af [mV 44 11] (Cd 44 (Rg [mV 45 7,bI 46 .sub 45 1,mV 7 46]) .skip)) (af [mV 47 7,mV 48 12,mV 4 47,mV 5 48] .ret)) .skip)))))) (Rg [bI 49 .add 20 1,mV 20 49]))))))) (af [mV 50 7,mV 4 50,mI 5 0] .ret))))),[(.t 4),(.t 5)]⟩
theorem Qc:Cm 12 c12:=⟨by kernel_rfl,by kernel_rfl⟩
def c13:au:=⟨2,23,(af [oN 4 (.dm (.c (.v (.pointer none)))),mI 5 0] (af [mV 9 0,mV 10 1,cB 11 15 9 10,mV 6 11] (Sq (af [mV 12 6,cA 13 35 12,mV 7 13] (af [mV 14 7,bI 15 .neq 14 0] (Cd 15 (af [mV 16 7,oN 4 (.dm (.c (.v (.pointer none)))),mV 5 16] .ret) .skip))) (Sq (af [mV 17 6,oN 18 (.call 44 [(.t 17),(.c (.v (.bool true)))]),mV 8 18] (af [mV 19 8,bI 20 .neq 19 0] (Cd 20 (af [mV 21 8,oN 4 (.dm (.c (.v (.pointer none)))),mV 5 21] .ret) .skip))) (af [mV 22 6,mV 4 22,mI 5 0] .ret))))),[(.t 4),(.t 5)]⟩
theorem Qb:Cm 13 c13:=⟨by kernel_rfl,by kernel_rfl⟩
def c14:au:=⟨1,4,(af [mI 2 0] (af [mV 3 0,mV 2 3] .ret)),[(.t 2)]⟩
theorem Qa:Cm 14 c14:=⟨by kernel_rfl,by kernel_rfl⟩
def c15:au:=⟨2,11,(af [oN 4 (.dm (.c (.v (.pointer none))))] (Sq (af [mV 5 0,oN 6 (.z8 .eql (.t 5) (.c (.v (.pointer none))))] (Cd 6 (af [oN 4 (.dm (.c (.v (.pointer none))))] .ret) .skip)) (af [mV 7 0,mV 8 1,oN 9 (.build [(.v (.pointer none)),(.v (.int .i64 0)),nS,nS] [(0,(1,(.t 7))),(1,(1,(.t 8)))]),bX 10 9,mV 4 10] .ret))),[(.t 4)]⟩
theorem P9:Cm 15 c15:=⟨by kernel_rfl,by kernel_rfl⟩
def c16:au:=⟨3,23,(af [bX 3 0,bX 4 1,bX 5 2,mI 6 0] (Sq (.block 0 (af [lD 8 3,cA 9 35 8,bI 10 .neq 9 0,mV 7 10] (Cd 7 (af [mI 6 1] .ret) (af [lD 12 4,oN 13 (.gA (.t 12)),bI 14 .gtr 13 60,mV 11 14] (Cd 11 (af [mI 6 2] .ret) (af [lD 16 5,oN 17 (.gA (.t 16)),bI 18 .gtr 17 60000,mV 15 18] (Cd 15 (af [mI 6 4] .ret) .skip))))))) (af [lD 19 3,lD 20 4,oN 21 (.sa (.func 45) [] [(.t 3),(.t 5),(.t 4)]),cD 22 40 19 20 21,mV 6 22] .ret))),[(.t 6)]⟩
theorem P8:Cm 16 c16:=⟨by kernel_rfl,by kernel_rfl⟩
def c17:au:=⟨1,11,(af [mI 2 0] (Sq (af [mV 4 0,cA 5 35 4,mV 3 5] (af [mV 6 3,bI 7 .neq 6 0] (Cd 7 (af [mV 8 3,mV 2 8] .ret) .skip))) (af [mV 9 0,oN 10 (.call 44 [(.t 9),(.c (.v (.bool false)))]),mV 2 10] .ret))),[(.t 2)]⟩
theorem P7:Cm 17 c17:=⟨by kernel_rfl,by kernel_rfl⟩
def c18:au:=⟨1,9,(af [mI 2 0] (Sq (af [mV 3 0,oN 4 (.z8 .eql (.t 3) (.c (.v (.pointer none))))] (Cd 4 (af [mI 2 0] .ret) .skip)) (af [mV 5 0,nC 6 5,fA 7 1 6,lD 8 7,mV 2 8] .ret))),[(.t 2)]⟩
theorem P6:Cm 18 c18:=⟨by kernel_rfl,by kernel_rfl⟩
def c19:au:=⟨1,37,(af [mI 2 0] (Sq (af [mV 7 0,cA 8 35 7,bI 9 .neq 8 0] (Cd 9 (af [mI 2 0] .ret) .skip)) (af [mV 10 0,nC 11 10,fA 12 1 11,lD 13 12,mV 3 13] (Sq (af [mI 4 1] (.block 0 (.loop (Sq (af [mV 14 3,bI 15 .neq 14 0,mV 16 15,ji 17 4 16,uv 18 .leq 17 12 16,pF 19 16 18] (Cd 19 .skip (.exit 0))) (Sq (.block 1 (af [mV 23 0,mV 24 3,cB 25 36 23 24,mV 22 25,xT 26 22 0,xT 27 22 1,oN 5 (.alloc [(.v (.bool false)),nS,nS,nS]),sO 4 5 26,mV 6 27] (Sq (af [mV 28 6,bI 29 .neq 28 0] (Cd 29 (af [mI 2 0] .ret) .skip)) (Sq (af [fA 30 0 5,lD 31 30] (Cd 31 (af [mV 32 4,mV 2 32] .ret) .skip)) (Rg [fA 33 3 5,lD 34 33,oN 35 (.lO 1 (.t 34) (.c (.v (.int .i64 0)))),lD 36 35,mV 3 36]))))) (Rg [mV 20 4,bI 21 .add 20 1,mV 4 21])))))) (af [mI 2 0] .ret))))),[(.t 2)]⟩
theorem P5:Cm 19 c19:=⟨by kernel_rfl,by kernel_rfl⟩
def c20:au:=⟨0,61,(af [mB 0 false] (af [oN 10 (.call 47 [(.c (.v (.int .i64 20)))]),mV 9 10,xT 11 9 0,xT 12 9 1,mV 1 11,mV 2 12] (af [mV 13 2,oN 14 (.call 15 [(.t 13),(.c (.v (.int .i64 0)))]),mV 3 14] (Sq (af [mV 15 3,oN 16 (.z8 .eql (.t 15) (.c (.v (.pointer none)))),mV 17 16,gD 18 3 17,⟨(some 19),(.call 16 [(.t 18),(.c (.str [98])),(.c (.str [49]))]),(some (17,false))⟩,Dq 20 14 19 17,gD 21 3 17,⟨(some 22),(.call 16 [(.t 21),(.c (.str [97])),(.c (.str [50]))]),(some (17,false))⟩,Dq 23 14 22 17,J4 24 .add 20 23 17,tt 25 .neq 24 0 17,pT 26 17 25] (Cd 26 (af [mB 0 false] .ret) .skip)) (af [mV 28 3,oN 29 (.call 11 [(.t 28),(.c (.str [])),(.c (.str [])),(.c (.v (.int .i64 9)))]),mV 27 29,xT 30 27 0,xT 31 27 1,mV 4 30,mV 5 31] (af [mV 32 3,cA 33 19 32,mV 6 33] (af [mV 35 3,oN 36 (.bp false 1 [[(.str [])],[(.str [])]] [(0,(.c (.str [97]))),(1,(.c (.str [120])))]),cB 37 12 35 36,mV 34 37,xT 38 34 0,xT 39 34 1,mV 7 38,mV 8 39] (af [mV 40 5,cA 41 14 40,mV 42 8,cA 43 14 42,bB 44 .add 41 43,bI 45 .eql 44 0,mV 46 45,ji 47 4 46,⟨(some 48),(.build [(.str []),(.str [])] [(0,(1,(.c (.str [97])))),(1,(1,(.c (.str [50]))))]),(some (46,true))⟩,⟨(some 49),(.build [(.str []),(.str [])] [(0,(1,(.c (.str [98])))),(1,(1,(.c (.str [49]))))]),(some (46,true))⟩,⟨(some 50),(.bp false 2 [[(.str []),(.str [])],[(.str []),(.str [])]] [(0,(.t 48)),(1,(.t 49))]),(some (46,true))⟩,cBT 51 33 47 50 46,pF 52 46 51,mV 53 52,ji 54 6 53,uv 55 .eql 54 1 53,pF 56 53 55,mV 57 56,ji 58 7 57,uv 59 .eql 58 1 57,pF 60 57 59,mV 0 60] .ret)))))))),[(.t 0)]⟩
theorem P4:Cm 20 c20:=⟨by kernel_rfl,by kernel_rfl⟩
def c21:au:=⟨1,18,(af [oN 2 (.dm (.c (.v (.pointer none))))] (af [mV 6 0,cA 7 47 6,mV 5 7,xT 8 5 0,xT 9 5 1,mV 3 8,mV 4 9] (Sq (af [mV 10 4,oN 11 (.z8 .eql (.t 10) (.c (.v (.pointer none))))] (Cd 11 (af [oN 2 (.dm (.c (.v (.pointer none))))] .ret) .skip)) (af [mV 12 3,mV 13 4,mV 14 4,oN 15 (.call 15 [(.t 14),(.c (.v (.int .i64 0)))]),oN 16 (.build [(.v (.pointer none)),(.v (.pointer none)),(.v (.pointer none)),nS,(.v (.int .i64 0)),nS,(.v (.bool false))] [(0,(1,(.t 12))),(1,(1,(.t 13))),(2,(1,(.t 15)))]),bX 17 16,mV 2 17] .ret)))),[(.t 2)]⟩
theorem P3:Cm 21 c21:=⟨by kernel_rfl,by kernel_rfl⟩
def c22:au:=⟨1,50,(af [mB 2 false] (af [mV 5 0,lE 6 5,mV 3 6] (Sq (af [mI 4 0] (.block 0 (.loop (Sq (af [mV 7 4,mV 8 0,lE 9 8,bB 10 .lss 7 9,mV 11 10,ji 12 4 11,uv 13 .leq 12 100 11,pF 14 11 13] (Cd 14 .skip (.exit 0))) (Sq (.block 1 (.draw [[],[],[],[1,2],[3,1,2],[4,3,1,2],[5,4,3,1,2],[6,5,4,3,1,2],[0,7,6,5,4,3,1,2],[],[],[9,10],[11,9,10],[12,11,9,10],[13,12,11,9,10],[14,13,12,11,9,10],[],[],[16,17],[18,16,17],[19,18,16,17],[20,19,18,16,17],[21,20,19,18,16,17],[22,21,20,19,18,16,17],[15,14,13,12,11,9,10,23,22,21,20,19,18,16,17],[8,0,7,6,5,4,3,1,2,24,15,14,13,12,11,9,10,23,22,21,20,19,18,16,17],[25,8,0,7,6,5,4,3,1,2,24,15,14,13,12,11,9,10,23,22,21,20,19,18,16,17]] [mV 17 3,mV 18 0,mV 19 4,iA 20 4 18 19,fA 21 1 20,lD 22 21,oN 23 (.gA (.t 22)),oN 24 (.min (.t 23) (.c (.v (.int .i64 10000)))),bB 25 .add 17 24,mV 26 0,mV 27 4,iA 28 4 26 27,fA 29 2 28,lD 30 29,oN 31 (.gA (.t 30)),oN 32 (.min (.t 31) (.c (.v (.int .i64 100000)))),mV 33 0,mV 34 4,iA 35 4 33 34,fA 36 3 35,lD 37 36,oN 38 (.min (.t 37) (.c (.v (.int .i64 300)))),oN 39 (.max (.c (.v (.int .i64 0))) (.t 38)),oN 40 (.bin .add (.c (.v (.int .i64 1))) (.t 39)),bB 41 .mul 32 40,bB 42 .add 25 41,mV 3 42])) (Rg [mV 15 4,bI 16 .add 15 1,mV 4 16])))))) (af [mV 43 0,lE 44 43,bI 45 .leq 44 100,mV 46 45,ji 47 3 46,uv 48 .leq 47 200000 46,pF 49 46 48,mV 2 49] .ret)))),[(.t 2)]⟩
theorem P2:Cm 22 c22:=⟨by kernel_rfl,by kernel_rfl⟩
def c23:au:=⟨2,155,(af [bX 3 1] (af [fA 11 0 3,lD 12 11] (.block 0 (Sq (af [bI 14 .eql 12 0,mV 13 14] (Cd 13 .skip (af [bI 15 .eql 12 1,mV 13 15] (Cd 13 .skip (Rg [bI 16 .eql 12 2,mV 13 16]))))) (Cd 13 (.draw [[],[],[1],[],[3],[0,2,1,4,3]] [mV 17 0,fA 18 1 3,lD 19 18,lN 20 4 3,cA 21 49 20,cD 22 48 17 19 21]) (af [bI 24 .eql 12 3,mV 23 24] (Cd 23 (Rg [mV 25 0,fA 26 1 3,lD 27 26,fA 28 2 3,lD 29 28,oN 30 (.bp false 1 [[(.str [])],[(.str [])]] [(0,(.t 27)),(1,(.t 29))]),cB 31 50 25 30]) (af [bI 33 .eql 12 4,mV 32 33] (Cd 32 (Sq (.draw [[],[0],[1,0],[2,1,0],[],[4],[3,2,1,0,5,4],[6,3,2,1,0,5,4],[7,6,3,2,1,0,5,4],[7,6,3,2,1,0,5,4],[7,6,3,2,1,0,5,4],[8,7,6,3,2,1,0,5,4],[9,7,6,3,2,1,0,5,4,11,8],[10,7,6,3,2,1,0,5,4,12,9,11,8]] [mV 35 0,nC 36 35,fA 37 2 36,lD 38 37,fA 39 1 3,lD 40 39,cB 41 10 38 40,mV 34 41,xT 42 34 0,xT 43 34 1,xT 44 34 2,mV 4 42,mV 5 43,mV 6 44]) (Sq (.draw [[],[0],[1,0],[2,1,0],[],[4],[3,2,1,0,5,4],[6,3,2,1,0,5,4],[7,6,3,2,1,0,5,4],[7,6,3,2,1,0,5,4],[8,7,6,3,2,1,0,5,4],[9,7,6,3,2,1,0,5,4,10,8]] [mV 46 0,nC 47 46,fA 48 3 47,lD 49 48,fA 50 1 3,lD 51 50,cB 52 51 49 51,mV 45 52,xT 53 45 0,xT 54 45 1,mV 7 53,mV 8 54]) (Rg [mV 55 0,mV 56 0,nC 57 56,fA 58 6 57,lD 59 58,mV 60 59,gD 61 4 60,gD 62 7 60,J4 63 .neq 61 62 60,pT 64 60 63,mV 65 64,gD 66 5 65,gD 67 8 65,⟨(some 68),(.Uy .neq (.t 66) (.t 67)),(some (65,false))⟩,pT 69 65 68,mV 70 69,gD 71 6 70,Dq 72 14 71 70,tt 73 .neq 72 0 70,pT 74 70 73,nC 75 55,fA 76 6 75,sO 1 76 74]))) (af [bI 78 .eql 12 5,mV 77 78] (Cd 77 (Sq (.draw [[],[0],[1,0],[2,1,0],[],[4],[],[6],[],[8],[3,2,1,0,5,4,7,6,9,8],[10,3,2,1,0,5,4,7,6,9,8],[11,10,3,2,1,0,5,4,7,6,9,8],[11,10,3,2,1,0,5,4,7,6,9,8],[12,11,10,3,2,1,0,5,4,7,6,9,8],[13,11,10,3,2,1,0,5,4,7,6,9,8,14,12]] [mV 80 0,nC 81 80,fA 82 2 81,lD 83 82,fA 84 1 3,lD 85 84,fA 86 2 3,lD 87 86,fA 88 3 3,lD 89 88,oN 90 (.call 11 [(.t 83),(.t 85),(.t 87),(.t 89)]),mV 79 90,xT 91 79 0,xT 92 79 1,mV 9 91,mV 10 92]) (.draw [[],[],[1],[2,1],[3,2,1],[4,3,2,1],[5,4,3,2,1],[5,4,3,2,1],[7,5,4,3,2,1],[8,7,5,4,3,2,1],[9,8,7,5,4,3,2,1],[5,4,3,2,1],[11,5,4,3,2,1],[5,4,3,2,1],[13,5,4,3,2,1],[5,4,3,2,1],[15,5,4,3,2,1],[10,9,8,7,5,4,3,2,1,12,11,14,13,16,15],[6,5,4,3,2,1,17,10,9,8,7,12,11,14,13,16,15],[18,6,5,4,3,2,1,17,10,9,8,7,12,11,14,13,16,15],[5,4,3,2,1,19,18,6,17,10,9,8,7,12,11,14,13,16,15],[20,5,4,3,2,1,19,18,6,17,10,9,8,7,12,11,14,13,16,15],[21,20,5,4,3,2,1,19,18,6,17,10,9,8,7,12,11,14,13,16,15],[22,21,20,5,4,3,2,1,19,18,6,17,10,9,8,7,12,11,14,13,16,15],[23,22,21,20,5,4,3,2,1,19,18,6,17,10,9,8,7,12,11,14,13,16,15],[21,20,5,4,3,2,1,19,18,6,17,10,9,8,7,12,11,14,13,16,15,24,23,22],[0,1,2,3,4,5,6,7,8,9,10,11,12,13,14,15,16,17,18,19,20,21,22,23,24,25],[26,0,1,2,3,4,5,6,7,8,9,10,11,12,13,14,15,16,17,18,19,20,21,22,23,24,25],[27,26,0,1,2,3,4,5,6,7,8,9,10,11,12,13,14,15,16,17,18,19,20,21,22,23,24,25]] [mV 93 0,mV 94 0,nC 95 94,fA 96 6 95,lD 97 96,mV 98 97,gD 99 9 98,gD 100 0 98,Iu 101 100 98,xh 102 3 101 98,ti 103 102 98,xh 104 1 3 98,ti 105 104 98,xh 106 2 3 98,ti 107 106 98,xh 108 3 3 98,ti 109 108 98,⟨(some 110),(.call 52 [(.t 103),(.t 105),(.t 107),(.t 109)]),(some (98,false))⟩,cBF 111 33 99 110 98,⟨(some 112),(.un .not (.t 111)),(some (98,false))⟩,pT 113 98 112,mV 114 113,gD 115 10 114,Dq 116 14 115 114,tt 117 .neq 116 0 114,pT 118 114 117,nC 119 93,fA 120 6 119,sO 1 120 118])) (Sq (af [bI 122 .eql 12 6,mV 121 122] (Cd 121 .skip (Rg [bI 123 .eql 12 7,mV 121 123]))) (Cd 121 (Rg [mV 124 0,fA 125 0 3,lD 126 125,bI 127 .eql 126 7,cB 128 26 124 127]) (af [bI 130 .eql 12 8,mV 129 130] (Cd 129 (af [mV 131 0,nC 132 131,fA 133 1 132,lD 134 133,cA 135 53 134] (.draw [[],[],[],[2],[3,2],[4,3,2],[],[6],[7,6],[8,7,6],[5,4,3,2,9,8,7,6],[],[11],[12,11],[13,12,11],[0,2,3,4,5,6,7,8,9,10,14,13,12,11],[15,0,2,3,4,5,6,7,8,9,10,14,13,12,11],[16,15,0,2,3,4,5,6,7,8,9,10,14,13,12,11],[1,0,2,3,4,5,6,7,8,9,10,11,12,13,14,15,16,17],[18,1,0,2,3,4,5,6,7,8,9,10,11,12,13,14,15,16,17],[19,18,1,0,2,3,4,5,6,7,8,9,10,11,12,13,14,15,16,17]] [mV 136 0,mV 137 0,mV 138 0,nC 139 138,fA 140 1 139,lD 141 140,mV 142 0,nC 143 142,fA 144 4 143,lD 145 144,cB 146 15 141 145,mV 147 0,nC 148 147,fA 149 5 148,lD 150 149,nC 151 136,fA 152 2 151,sO 1 152 146,nC 153 137,fA 154 3 153,sO 1 154 150])) .skip))))))))))))))),[]⟩
theorem P1:Cm 23 c23:=⟨by kernel_rfl,by kernel_rfl⟩
def c25:au:=⟨1,29,(af [mI 2 0] (af [mI 3 0] (Sq (af [mV 6 0,oN 7 (.z8 .eql (.t 6) (.c (.v (.pointer none))))] (Cd 7 (af [mI 2 0] .ret) .skip)) (Sq (af [mV 8 0,nC 9 8,fA 10 3 9,lD 11 10,lE 12 11,mI 13 0] (.block 0 (.loop (af [bB 14 .lss 13 12] (Sq (Cd 14 .skip (.exit 0)) (Sq (.block 1 (af [mV 15 13,iA 16 2 11 13,lN 17 2 16,oN 5 (.alloc [(.v (.int .i64 0)),(.v (.int .i64 0))]),mV 4 15,sO 2 5 17] (af [mV 18 4,bI 19 .geq 18 2,mV 20 19,rN 21 0 5 20,mb 22 21 20,uv 23 .eql 22 0 20,pF 24 20 23] (Cd 24 (Rg [mV 25 3,bI 26 .add 25 1,mV 3 26]) .skip)))) (Rg [bI 27 .add 13 1,mV 13 27]))))))) (af [mV 28 3,mV 2 28] .ret))))),[(.t 2)]⟩
theorem P0:Cm 25 c25:=⟨by kernel_rfl,by kernel_rfl⟩
def c26:au:=⟨2,98,(af [mV 9 0,mV 10 0,nC 11 10,fA 12 6 11,lD 13 12,mV 14 13,gD 15 0 14,Iu 16 15 14,xh 17 1 16 14,ti 18 17 14,⟨(some 19),(.call 28 [(.t 18),(.c (.str [114]))]),(some (14,false))⟩,Dq 20 14 19 14,tt 21 .neq 20 0 14,pT 22 14 21,nC 23 9,fA 24 6 23,sO 1 24 22] (Sq (.draw [[],[],[],[2],[3,2],[4,3,2],[5,4,3,2],[],[7],[8,7],[9,8,7],[0,2,3,4,5,6,10,9,8,7],[11,0,2,3,4,5,6,10,9,8,7],[12,11,0,2,3,4,5,6,10,9,8,7],[1,0,2,3,4,5,6,7,8,9,10,11,12,13],[14,1,0,2,3,4,5,6,7,8,9,10,11,12,13],[15,14,1,0,2,3,4,5,6,7,8,9,10,11,12,13]] [mV 25 0,mV 26 0,mV 27 0,nC 28 27,fA 29 2 28,lD 30 29,cA 31 18 30,mV 32 0,nC 33 32,fA 34 3 33,lD 35 34,nC 36 25,fA 37 4 36,sO 1 37 31,nC 38 26,fA 39 5 38,sO 1 39 35]) (Sq (af [mV 40 1,oN 41 (.un .not (.t 40))] (Cd 41 .ret .skip)) (af [mV 42 0,nC 43 42,fA 44 1 43,lD 45 44,cA 46 25 45,mV 4 46] (af [mV 48 0,nC 49 48,fA 50 0 49,lD 51 50,cA 52 31 51,mV 47 52,xT 53 47 0,xT 54 47 1,mV 5 53,mV 6 54] (Sq (af [mV 55 6,cA 56 14 55,bI 57 .neq 56 0,mV 58 57,gD 59 5 58,⟨(some 60),(.z8 .eql (.t 59) (.c (.v (.pointer none)))),(some (58,false))⟩,pT 61 58 60] (Cd 61 (af [mV 62 0,nC 63 62,fA 64 6 63,⟨none,(.store 1 (.t 64) (.c (.v (.bool true)))),none⟩] .ret) .skip)) (af [mV 66 5,mV 67 0,nC 68 67,fA 69 4 68,lD 70 69,cB 71 13 66 70,mV 65 71,xT 72 65 0,xT 73 65 1,mV 7 72,mV 8 73] (Sq (af [mV 74 8,cA 75 14 74,bI 76 .neq 75 0,mV 77 76,gD 78 7 77,⟨(some 79),(.z8 .eql (.t 78) (.c (.v (.pointer none)))),(some (77,false))⟩,pT 80 77 79,mV 81 80,gD 82 5 81,Dq 83 25 82 81,gD 84 4 81,J4 85 .neq 83 84 81,pT 86 81 85] (Cd 86 (af [mV 87 0,nC 88 87,fA 89 6 88,⟨none,(.store 1 (.t 89) (.c (.v (.bool true)))),none⟩] .ret) .skip)) (Rg [mV 90 0,mV 91 0,mV 92 5,mV 93 7,nC 94 90,fA 95 1 94,sO 1 95 92,nC 96 91,fA 97 2 96,sO 1 97 93]))))))))),[]⟩
theorem PZ:Cm 26 c26:=⟨by kernel_rfl,by kernel_rfl⟩
def c27:au:=⟨2,34,(af [oN 4 (.dm (.c nS)),mI 5 0] (af [oN 6 (.dm (.c nS))] (Sq (af [mI 7 0] (.block 0 (.loop (Sq (af [mV 8 7,mV 9 0,lE 10 9,bB 11 .lss 8 10] (Cd 11 .skip (.exit 0))) (Sq (.block 1 (af [mV 14 0,mV 15 7,iA 16 2 14 15,fA 17 0 16,lD 18 17,mV 19 1,bB 20 .neq 18 19] (Cd 20 (Rg [mV 21 6,mV 22 0,mV 23 7,iA 24 2 22 23,lN 25 2 24,oN 26 (.bp false 2 [[(.str []),(.str [])]] [(0,(.t 25))]),aP 27 2 32 21 26,mV 6 27]) .skip))) (Rg [mV 12 7,bI 13 .add 12 1,mV 7 13])))))) (af [mV 28 6,mV 29 0,lE 30 29,mV 31 6,lE 32 31,bB 33 .sub 30 32,mV 4 28,mV 5 33] .ret)))),[(.t 4),(.t 5)]⟩
theorem PY:Cm 27 c27:=⟨by kernel_rfl,by kernel_rfl⟩
def c28:au:=⟨2,116,(af [mI 4 0] (Sq (af [mV 13 0,cA 14 54 13,mV 5 14] (af [mV 15 5,bI 16 .neq 15 0] (Cd 16 (af [mV 17 5,mV 4 17] .ret) .skip))) (af [mV 19 0,nC 20 19,fA 21 1 20,lD 22 21,bI 23 .add 22 1,mV 24 1,cB 25 55 23 24,mV 18 25,xT 26 18 0,xT 27 18 1,mV 6 26,mV 7 27] (Sq (af [mV 28 7,bI 29 .neq 28 0] (Cd 29 (af [mV 30 7,mV 4 30] .ret) .skip)) (Sq (af [mV 31 0,mV 32 0,nC 33 32,fA 34 0 33,lD 35 34,cA 36 57 35,cB 37 56 31 36,mV 8 37] (af [mV 38 8,bI 39 .neq 38 0] (Cd 39 (af [mV 40 8,mV 4 40] .ret) .skip))) (Sq (Sq (.draw [[],[],[1],[2,1],[3,2,1],[],[5],[6,5],[7,6,5],[8,7,6,5],[9,8,7,6,5],[],[4,3,2,1,10,9,8,7,6,5,11],[0,12,4,3,2,1,10,9,8,7,6,5,11],[13,0,12,4,3,2,1,10,9,8,7,6,5,11]] [mV 41 0,mV 42 0,nC 43 42,fA 44 0 43,lD 45 44,mV 46 0,nC 47 46,fA 48 1 47,lD 49 48,bI 50 .add 49 1,bI 51 .rem 50 2,mV 52 6,cD 53 30 45 51 52,cB 54 56 41 53,mV 9 54]) (af [mV 55 9,bI 56 .neq 55 0] (Cd 56 (af [mV 57 9,mV 4 57] .ret) .skip))) (Sq (af [mV 58 0,mV 59 0,nC 60 59,fA 61 0 60,lD 62 61,cA 63 57 62,cB 64 56 58 63,mV 10 64] (af [mV 65 10,bI 66 .neq 65 0] (Cd 66 (af [mV 67 10,mV 4 67] .ret) .skip))) (af [mV 68 0,nC 69 68,fA 70 1 69,lD 71 70,bI 72 .add 71 1,nC 73 68,fA 74 1 73,sO 1 74 72] (af [mV 75 0,mV 76 1,nC 77 75,fA 78 2 77,sO 1 78 76] (Sq (af [mV 79 0,nC 80 79,fA 81 3 80,lD 82 81,lE 83 82,mI 84 0] (.block 0 (.loop (af [bB 85 .lss 84 83] (Sq (Cd 85 .skip (.exit 0)) (Sq (.block 1 (af [mV 86 84,iA 87 2 82 84,lN 88 2 87,oN 12 (.alloc [(.v (.int .i64 0)),(.v (.int .i64 0))]),mV 11 86,sO 2 12 88] (af [fA 89 0 12,lD 90 89] (.block 2 (af [bI 92 .eql 90 2,mV 91 92] (Cd 91 (Rg [mV 93 0,nC 94 93,fA 95 3 94,lD 96 95,mV 97 11,iA 98 2 96 97,fA 99 0 98,⟨none,(.store 1 (.t 99) (.c (.v (.int .i64 1)))),none⟩]) (af [bI 101 .eql 90 3,mV 100 101] (Cd 100 (.draw [[],[0],[1,0],[2,1,0],[],[],[5],[6,5],[7,6,5],[8,7,6,5],[3,2,1,0,4,5,6,7,8,9],[10,3,2,1,0,4,5,6,7,8,9]] [mV 102 0,nC 103 102,fA 104 3 103,lD 105 104,mV 106 11,mV 107 0,nC 108 107,fA 109 1 108,lD 110 109,oN 111 (.build [(.v (.int .i64 0)),(.v (.int .i64 0))] [(0,(1,(.c (.v (.int .i64 4))))),(1,(1,(.t 110)))]),iA 112 2 105 106,sO 2 112 111]) .skip)))))))) (Rg [bI 113 .add 84 1,mV 84 113]))))))) (af [mV 114 0,cA 115 58 114] (af [mI 4 0] .ret)))))))))))),[(.t 4)]⟩
theorem PX:Cm 28 c28:=⟨by kernel_rfl,by kernel_rfl⟩
def c29:au:=⟨2,65,(af [oN 4 (.dm (.c nS)),mI 5 0] (Sq (.block 0 (af [mV 8 0,cA 9 59 8,oN 10 (.un .not (.t 9)),mV 7 10] (Cd 7 (af [oN 4 (.dm (.c nS)),mI 5 1] .ret) (af [mV 12 0,nC 13 12,fA 14 0 13,lD 15 14,mV 16 1,cB 17 60 15 16,oN 18 (.un .not (.t 17)),mV 11 18] (Cd 11 (af [oN 4 (.dm (.c nS)),mI 5 3] .ret) (af [mV 20 0,nC 21 20,fA 22 4 21,lD 23 22,mV 19 23] (Cd 19 (af [oN 4 (.dm (.c nS)),mI 5 9] .ret) .skip))))))) (Sq (af [mV 24 0,nC 25 24,fA 26 1 25,lD 27 26,lE 28 27,bI 29 .sub 28 1,mV 6 29] (.block 1 (.loop (Sq (af [mV 30 6,bI 31 .geq 30 0] (Cd 31 .skip (.exit 1))) (Sq (.block 2 (af [mV 34 0,nC 35 34,fA 36 1 35,lD 37 36,mV 38 6,iA 39 2 37 38,fA 40 0 39,lD 41 40,mV 42 1,bB 43 .eql 41 42] (Cd 43 (af [oN 44 (.bp false 1 [] []),mV 45 0,nC 46 45,fA 47 1 46,lD 48 47,mV 49 6,iA 50 2 48 49,fA 51 1 50,lD 52 51,aP 53 1 1 44 52,mV 4 53,mI 5 0] .ret) .skip))) (Rg [mV 32 6,bI 33 .sub 32 1,mV 6 33])))))) (af [oN 54 (.bp false 1 [] []),mV 55 0,nC 56 55,fA 57 0 56,lD 58 57,nC 59 58,lD 60 59,mV 61 1,iA 62 1 60 61,lD 63 62,aP 64 1 1 54 63,mV 4 64,mI 5 0] .ret)))),[(.t 4),(.t 5)]⟩
theorem PW:Cm 29 c29:=⟨by kernel_rfl,by kernel_rfl⟩
def c30:au:=⟨3,43,(af [mI 6 0] (Sq (.block 0 (af [mV 9 0,cA 10 59 9,oN 11 (.un .not (.t 10)),mV 8 11] (Cd 8 (af [mI 6 1] .ret) (af [mV 13 2,lE 14 13,bI 15 .neq 14 512,mV 12 15] (Cd 12 (af [mI 6 2] .ret) (af [mV 17 0,nC 18 17,fA 19 0 18,lD 20 19,mV 21 1,cB 22 60 20 21,oN 23 (.un .not (.t 22)),mV 16 23] (Cd 16 (af [mI 6 3] .ret) .skip))))))) (af [mV 24 0,cA 25 61 24,mV 7 25] (Sq (af [mV 26 7,bI 27 .eql 26 0] (Cd 27 (.draw [[],[],[1],[2,1],[3,2,1],[],[],[],[6,7],[5,8,6,7],[9,5,8,6,7],[4,3,2,1,10,9,5,8,6,7],[0,1,2,3,4,5,6,7,8,9,10,11],[12,0,1,2,3,4,5,6,7,8,9,10,11],[13,12,0,1,2,3,4,5,6,7,8,9,10,11]] [mV 28 0,mV 29 0,nC 30 29,fA 31 1 30,lD 32 31,mV 33 1,oN 34 (.bp false 1 [] []),mV 35 2,aP 36 1 1 34 35,oN 37 (.build [(.v (.int .i64 0)),nS] [(0,(1,(.t 33))),(1,(1,(.t 36)))]),oN 38 (.bp false 2 [[(.v (.int .i64 0)),nS]] [(0,(.t 37))]),aP 39 2 32 32 38,nC 40 28,fA 41 1 40,sO 1 41 39]) .skip)) (af [mV 42 7,mV 6 42] .ret))))),[(.t 6)]⟩
theorem PV:Cm 30 c30:=⟨by kernel_rfl,by kernel_rfl⟩
def c31:au:=⟨1,73,(af [oN 2 (.dm (.c (.v (.pointer none)))),mI 3 0] (Sq (af [mV 12 0,cA 13 62 12,mV 4 13] (af [mV 14 4,bI 15 .neq 14 0] (Cd 15 (af [mV 16 4,oN 2 (.dm (.c (.v (.pointer none)))),mV 3 16] .ret) .skip))) (af [mV 17 0,mV 18 0,cA 19 63 18,oN 20 (.kM 2 16 [(.v (.int .i64 0)),(.v (.int .i64 0))] (.t 19) (.t 19)),oN 21 .sn,oN 22 (.build [(.v (.pointer none)),(.v (.int .i64 0)),(.str []),nS,(.v (.map none)),(.v (.bool false))] [(0,(1,(.t 17))),(3,(1,(.t 20))),(4,(1,(.t 21)))]),bX 23 22,mV 5 23] (Sq (af [mI 24 0] (.block 0 (.loop (af [bI 25 .lss 24 2] (Sq (Cd 25 .skip (.exit 0)) (Sq (.block 1 (af [mV 26 24,mV 6 26] (af [mV 28 0,mV 29 6,cB 30 29 28 29,mV 27 30,xT 31 27 0,xT 32 27 1,mV 7 31,mV 8 32] (Sq (af [mV 33 8,bI 34 .neq 33 0] (Cd 34 (af [mV 35 8,oN 2 (.dm (.c (.v (.pointer none)))),mV 3 35] .ret) .skip)) (af [mV 37 7,cA 38 64 37,mV 36 38,xT 39 36 0,xT 40 36 1,xT 41 36 2,mV 9 39,mV 10 40,mV 11 41] (af [mV 42 11,bI 43 .eql 42 0,mV 44 43,ji 45 9 44,uv 46 .rem 45 2 44,ji 47 6 44,DR 48 .eql 46 47 44,pF 49 44 48,mV 50 49,ji 51 9 50,ji 52 5 50,QM 53 52 50,rN 54 1 53 50,mb 55 54 50,DR 56 .gtr 51 55 50,pF 57 50 56] (Cd 57 (Rg [mV 58 5,mV 59 5,mV 60 9,mV 61 10,nC 62 58,fA 63 1 62,sO 1 63 60,nC 64 59,fA 65 2 64,sO 1 65 61]) .skip))))))) (Rg [bI 66 .add 24 1,mV 24 66]))))))) (Sq (af [mV 67 5,nC 68 67,fA 69 1 68,lD 70 69,bI 71 .eql 70 0] (Cd 71 (af [oN 2 (.dm (.c (.v (.pointer none)))),mI 3 10] .ret) .skip)) (af [mV 72 5,mV 2 72,mI 3 0] .ret)))))),[(.t 2),(.t 3)]⟩
theorem PU:Cm 31 c31:=⟨by kernel_rfl,by kernel_rfl⟩
def c33:au:=⟨2,26,(af [mB 4 false] (Sq (af [mV 6 0,lE 7 6,mV 8 1,lE 9 8,bB 10 .neq 7 9] (Cd 10 (af [mB 4 false] .ret) .skip)) (Sq (af [mI 5 0] (.block 0 (.loop (Sq (af [mV 11 5,mV 12 0,lE 13 12,bB 14 .lss 11 13] (Cd 14 .skip (.exit 0))) (Sq (.block 1 (Sq (.draw [[],[],[0,1],[2,0,1],[],[],[4,5],[6,4,5],[3,2,0,1,7,6,4,5]] [mV 17 0,mV 18 5,iA 19 2 17 18,lN 20 2 19,mV 21 1,mV 22 5,iA 23 2 21 22,lN 24 2 23,oN 25 (.Y1 true [.s,.s] (.t 20) (.t 24))]) (Cd 25 (af [mB 4 false] .ret) .skip))) (Rg [mV 15 5,bI 16 .add 15 1,mV 5 16])))))) (af [mB 4 true] .ret)))),[(.t 4)]⟩
theorem PT:Cm 33 c33:=⟨by kernel_rfl,by kernel_rfl⟩
def c35:au:=⟨1,12,(af [mI 2 0] (Sq (af [mV 3 0,oN 4 (.z8 .eql (.t 3) (.c (.v (.pointer none)))),mV 5 4,gD 6 0 5,Iu 7 6 5,xh 8 0 7 5,ti 9 8 5,⟨(some 10),(.z8 .eql (.t 9) (.c (.v (.pointer none)))),(some (5,false))⟩,pT 11 5 10] (Cd 11 (af [mI 2 1] .ret) .skip)) (af [mI 2 0] .ret))),[(.t 2)]⟩
theorem PS:Cm 35 c35:=⟨by kernel_rfl,by kernel_rfl⟩
def c36:au:=⟨2,34,(af [oN 4 (.alloc [(.v (.bool false)),nS,nS,nS]),mI 5 0] (af [mV 11 0,nC 12 11,fA 13 0 12,lD 14 13,mV 15 1,cB 16 65 14 15,mV 10 16,xT 17 10 0,xT 18 10 1,xT 19 10 2,mV 6 17,mV 7 18,mV 8 19] (Sq (af [mV 20 8,bI 21 .neq 20 0] (Cd 21 (af [oN 22 (.build [(.v (.bool false)),nS,nS,nS] []),mV 23 8,cA 24 66 23,sO 4 4 22,mV 5 24] .ret) .skip)) (af [mV 26 6,mV 27 7,cB 28 67 26 27,mV 25 28,xT 29 25 0,xT 30 25 1,oN 9 (.alloc [(.v (.bool false)),nS,nS,nS]),sO 4 9 29,mV 8 30] (Sq (.draw [[],[],[1],[0,2,1],[2,1,3,0]] [lN 31 4 9,mV 32 8,cA 33 66 32,sO 4 4 31,mV 5 33]) .ret))))),[(.cell 4 (some 4)),(.t 5)]⟩
theorem PR:Cm 36 c36:=⟨by kernel_rfl,by kernel_rfl⟩
def c37:au:=⟨2,39,(af [bX 2 0,mI 4 0,mB 5 false] (Sq (af [lN 8 4 2,cA 9 68 8,oN 10 (.un .not (.t 9))] (Cd 10 (af [mI 4 0,mB 5 false] .ret) .skip)) (af [fA 11 1 2,lD 12 11,mV 13 1,cB 14 69 12 13,mV 6 14] (af [mV 15 6,fA 16 1 2,lD 17 16,lE 18 17,bB 19 .lss 15 18,mV 20 19,rN 21 1 2 20,mb 22 21 20,ji 23 6 20,TG 24 1 22 23 20,mb 25 24 20,ji 26 1 20,DR 27 .eql 25 26 20,pF 28 20 27,mV 7 28] (Sq (af [mV 29 7,mV 30 29,rN 31 0 2 30,mb 32 31 30,⟨(some 33),(.un .not (.t 32)),(some (30,true))⟩,pF 34 30 33] (Cd 34 (Rg [mV 35 6,bI 36 .add 35 1,mV 6 36]) .skip)) (af [mV 37 6,mV 38 7,mV 4 37,mV 5 38] .ret)))))),[(.t 4),(.t 5)]⟩
theorem PQ:Cm 37 c37:=⟨by kernel_rfl,by kernel_rfl⟩
def c38:au:=⟨2,16,(af [bX 3 1,oN 4 (.dm (.c (.str []))),mI 5 0] (Sq (af [fA 6 1 3,lD 7 6,bI 8 .eql 7 0] (Cd 8 (af [fA 9 0 3,lD 10 9,mV 4 10,mI 5 0] .ret) .skip)) (af [mV 11 0,lN 12 3 3,oN 13 (.call 70 [(.t 11),(.t 12),(.c (.fn (.func 71) [] []))]),xT 14 13 0,xT 15 13 1,mV 4 14,mV 5 15] .ret))),[(.t 4),(.t 5)]⟩
theorem PP:Cm 38 c38:=⟨by kernel_rfl,by kernel_rfl⟩
def c39:au:=⟨8,136,(af [mI 10 0] (Sq (af [mV 20 0,bI 21 .eql 20 0,mV 22 21,ti 23 2 22,Tx 24 23 22,ti 25 3 22,J4 26 .geq 24 25 22,pT 27 22 26] (Cd 27 (af [mI 10 0] .ret) .skip)) (Sq (af [mV 28 1,bI 29 .eql 28 12] (Cd 29 (af [mI 10 10] .ret) .skip)) (af [lD 31 4,mV 32 0,cB 33 36 31 32,mV 30 33,xT 34 30 0,xT 35 30 1,oN 11 (.alloc [(.v (.bool false)),nS,nS,nS]),sO 4 11 34,mV 12 35] (Sq (af [mV 36 12,bI 37 .neq 36 0] (Cd 37 (af [mV 38 12,mV 10 38] .ret) .skip)) (Sq (af [fA 39 0 11,lD 40 39] (Cd 40 (Sq (af [fA 41 1 11,lD 42 41,lE 43 42,mI 44 0] (.block 0 (.loop (af [bB 45 .lss 44 43] (Sq (Cd 45 .skip (.exit 0)) (Sq (.block 1 (af [mV 46 44,iA 47 1 42 44,lD 48 47,mV 13 46,mV 14 48] (Sq (af [mV 49 14,lD 50 5,bB 51 .lss 49 50,mV 52 51,ti 53 6 52,⟨(some 54),(.bin .neq (.t 53) (.c (.str []))),(some (52,false))⟩,gD 55 54 52,ji 56 14 55,mb 57 6 55,DR 58 .geq 56 57 55,Z7 59 55 58 52,pT 60 52 59,mV 61 60,ti 62 2 61,Tx 63 62 61,ti 64 3 61,J4 65 .geq 63 64 61,pT 66 61 65] (Cd 66 (.exit 1) .skip)) (Sq (.draw [[],[],[1],[],[2,1,3],[4,2,1,3],[0,5,4,2,1,3],[6,0,5,4,2,1,3],[7,6,0,5,4,2,1,3],[7,6,0,5,4,2,1,3],[8,7,6,0,5,4,2,1,3],[9,7,6,0,5,4,2,1,3,10,8]] [lD 68 4,fA 69 2 11,lD 70 69,mV 71 13,iA 72 3 70 71,lN 73 3 72,cB 74 38 68 73,mV 67 74,xT 75 67 0,xT 76 67 1,mV 15 75,mV 16 76]) (Sq (af [mV 77 16,bI 78 .neq 77 0] (Cd 78 (af [mV 79 16,mV 10 79] .ret) .skip)) (Rg [lD 80 2,mV 81 14,mV 82 15,oN 83 (.build [(.str []),(.str [])] [(0,(1,(.t 81))),(1,(1,(.t 82)))]),oN 84 (.bp false 2 [[(.str []),(.str [])]] [(0,(.t 83))]),aP 85 2 32 80 84,sO 1 2 85])))))) (Rg [bI 86 .add 44 1,mV 44 86]))))))) (af [mI 10 0] .ret)) .skip)) (Sq (af [fA 87 3 11,lD 88 87,lE 89 88,mI 90 0] (.block 2 (.loop (af [bB 91 .lss 90 89] (Sq (Cd 91 .skip (.exit 2)) (Sq (.block 3 (af [mV 92 90,iA 93 1 88 90,lD 94 93,mV 17 92,mV 18 94] (Sq (Sq (.draw [[],[],[1],[2,1],[0,3,2,1],[4,0,3,2,1],[5,4,0,3,2,1],[6,5,4,0,3,2,1],[5,4,0,3,2,1],[7,6,5,4,0,3,2,1,8],[9,7,6,5,4,0,3,2,1,8],[5,4,0,3,2,1],[10,9,7,6,5,4,0,3,2,1,8,11],[5,4,0,3,2,1,12,10,9,7,6,8,11],[13,5,4,0,3,2,1,12,10,9,7,6,8,11],[14,13,5,4,0,3,2,1,12,10,9,7,6,8,11],[15,14,13,5,4,0,3,2,1,12,10,9,7,6,8,11],[16,15,14,13,5,4,0,3,2,1,12,10,9,7,6,8,11],[17,16,15,14,13,5,4,0,3,2,1,12,10,9,7,6,8,11],[18,17,16,15,14,13,5,4,0,3,2,1,12,10,9,7,6,8,11],[17,16,15,14,13,5,4,0,3,2,1,12,10,9,7,6,8,11,19,18],[20,17,16,15,14,13,5,4,0,3,2,1,12,10,9,7,6,8,11,19,18],[21,20,17,16,15,14,13,5,4,0,3,2,1,12,10,9,7,6,8,11,19,18],[22,21,20,17,16,15,14,13,5,4,0,3,2,1,12,10,9,7,6,8,11,19,18],[21,20,17,16,15,14,13,5,4,0,3,2,1,12,10,9,7,6,8,11,19,18],[24,21,20,17,16,15,14,13,5,4,0,3,2,1,12,10,9,7,6,8,11,19,18],[23,22,21,20,17,16,15,14,13,5,4,0,3,2,1,12,10,9,7,6,8,11,19,18,25,24],[26,23,22,21,20,17,16,15,14,13,5,4,0,3,2,1,12,10,9,7,6,8,11,19,18,25,24],[21,20,17,16,15,14,13,5,4,0,3,2,1,12,10,9,7,6,8,11,19,18],[27,26,23,22,21,20,17,16,15,14,13,5,4,0,3,2,1,12,10,9,7,6,8,11,19,18,25,24,28],[21,20,17,16,15,14,13,5,4,0,3,2,1,12,10,9,7,6,8,11,19,18,29,27,26,23,22,25,24,28],[14,13,5,4,0,3,2,1,12,10,9,7,6,8,11,30,21,20,17,16,15,19,18,29,27,26,23,22,25,24,28]] [mV 95 17,fA 96 1 11,lD 97 96,lE 98 97,bB 99 .lss 95 98,mV 100 99,rN 101 1 11 100,mb 102 101 100,ji 103 17 100,TG 104 1 102 103 100,mb 105 104 100,mb 106 5 100,DR 107 .leq 105 106 100,pF 108 100 107,mV 109 108,gD 110 17 109,tt 111 .gtr 110 0 109,gD 112 111 109,mb 113 6 112,⟨(some 114),(.bin .neq (.t 113) (.c (.str []))),(some (112,true))⟩,Z7 115 112 114 109,gD 116 115 109,rN 117 1 11 116,mb 118 117 116,ji 119 17 116,uv 120 .sub 119 1 116,TG 121 1 118 120 116,mb 122 121 116,mb 123 6 116,DR 124 .geq 122 123 116,Z7 125 116 124 109,pT 126 109 125]) (Cd 126 (.exit 3) .skip)) (af [lD 127 7,mV 128 18,mV 129 1,bI 130 .add 129 1,oN 131 (.kH (.t 127) [(.t 128),(.t 130)]),mV 19 131] (af [mV 132 19,bI 133 .neq 132 0] (Cd 133 (af [mV 134 19,mV 10 134] .ret) .skip)))))) (Rg [bI 135 .add 90 1,mV 90 135]))))))) (af [mI 10 0] .ret)))))))),[(.t 10)]⟩
theorem PO:Cm 39 c39:=⟨by kernel_rfl,by kernel_rfl⟩
def c40:au:=⟨3,62,(af [mI 6 0] (af [mV 13 0,mV 14 0,nC 15 13,fA 16 2 15,⟨none,(.store 1 (.t 16) (.c nS)),none⟩,nC 17 14,fA 18 3 17,⟨none,(.store 1 (.t 18) (.c nS)),none⟩] (af [mV 19 0,mV 20 1,mV 21 2,cD 22 72 19 20 21,mV 7 22] (Sq (af [mV 23 7,bI 24 .neq 23 0] (Cd 24 (Sq (af [mV 25 0,nC 26 25,fA 27 2 26,lD 28 27,lE 29 28,mI 30 0] (.block 0 (.loop (af [bB 31 .lss 30 29] (Sq (Cd 31 .skip (.exit 0)) (Sq (.block 1 (af [iA 32 1 28 30,lD 33 32,mV 9 33] (Rg [mV 34 0,nC 35 34,fA 36 0 35,lD 37 36,mV 38 9,cB 39 73 37 38]))) (Rg [bI 40 .add 30 1,mV 30 40]))))))) (af [mV 41 7,mV 6 41] .ret)) .skip)) (Sq (af [mV 42 0,nC 43 42,fA 44 3 43,lD 45 44,lE 46 45,mI 47 0] (.block 2 (.loop (af [bB 48 .lss 47 46] (Sq (Cd 48 .skip (.exit 2)) (Sq (.block 3 (af [iA 49 1 45 47,lD 50 49,mV 11 50] (af [mV 51 0,nC 52 51,fA 53 0 52,lD 54 53,mV 55 11,cB 56 73 54 55,mV 12 56] (af [mV 57 12,bI 58 .neq 57 0] (Cd 58 (af [mV 59 12,cA 60 66 59,mV 6 60] .ret) .skip))))) (Rg [bI 61 .add 47 1,mV 47 61]))))))) (af [mI 6 0] .ret)))))),[(.t 6)]⟩
theorem PN:Cm 40 c40:=⟨by kernel_rfl,by kernel_rfl⟩
end Go.Ai
namespace Go.Ai
open Go.Proofs
set_option maxRecDepth 100000
def c41:au:=⟨3,24,(af [bX 3 0,oN 4 (.alloc [(.v (.bool false)),nS,nS,nS]),mI 5 0] (af [lN 9 4 3,lD 10 1,cB 11 37 9 10,mV 8 11,xT 12 8 0,xT 13 8 1,mV 6 12,mV 7 13] (Sq (.draw [[],[],[0,1],[],[],[4],[],[5,4,6],[7,5,4,6],[3,8,7,5,4,6,2,0,1],[2,0,1,9,3,8,7,5,4,6],[9,3,8,7,5,4,6,2,0,1,10]] [lN 14 4 3,mV 15 6,oN 16 (.call 42 [(.t 14),(.t 15),(.c (.str [])),(.c nS)]),lD 17 2,fA 18 2 3,lD 19 18,mV 20 6,iA 21 3 19 20,lN 22 3 21,cB 23 43 17 22,sO 4 4 16,mV 5 23]) .ret))),[(.cell 4 (some 4)),(.t 5)]⟩
theorem PL:Cm 41 c41:=⟨by kernel_rfl,by kernel_rfl⟩
def c42:au:=⟨4,79,(af [bX 4 0,oN 8 (.alloc [(.v (.bool false)),nS,nS,nS])] (Sq (af [fA 10 0 4,lD 11 10,oN 12 (.un .not (.t 11)),mV 13 12,lNF 14 4 4 13,Dq 15 68 14 13,⟨(some 16),(.un .not (.t 15)),(some (13,false))⟩,pT 17 13 16,mV 18 17,gD 19 1 18,tt 20 .lss 19 0 18,pT 21 18 20,mV 22 21,gD 23 1 22,xh 24 1 4 22,ti 25 24 22,Tx 26 25 22,J4 27 .gtr 23 26 22,pT 28 22 27,mV 29 28,gD 30 3 29,Tx 31 30 29,tt 32 .gtr 31 1 29,pT 33 29 32] (Cd 33 (af [lN 34 4 4,sO 4 8 34] .ret) .skip)) (af [lN 35 4 4,fA 36 1 4,lD 37 36,lE 38 37,oN 39 (.call 74 [(.t 35),(.c (.v (.int .i64 0))),(.t 38)]),oN 9 (.alloc [(.v (.bool false)),nS,nS,nS]),sO 4 9 39] (Sq (af [mV 40 3,lE 41 40,bI 42 .eql 41 1] (Cd 42 (af [fA 43 1 9,lD 44 43,mV 45 1,mV 46 2,oN 47 (.Gj 9 1 [[(.str [])]] [(0,(.t 46))]),cD 48 75 44 45 47,fA 49 1 9,sO 1 49 48] (.draw [[],[0],[],[],[3],[4,3],[5,4,3],[1,0,2,6,5,4,3],[0,1,2,3,4,5,6,7],[8,0,1,2,3,4,5,6,7]] [fA 50 2 9,lD 51 50,mV 52 1,mV 53 3,oN 54 (.lO 3 (.t 53) (.c (.v (.int .i64 0)))),lN 55 3 54,oN 56 (.Gj 84 3 [[(.str []),(.v (.int .i64 0)),(.v (.int .i64 0))]] [(0,(.t 55))]),cD 57 76 51 52 56,fA 58 2 9,sO 1 58 57])) (af [mV 59 1,fA 60 1 4,lD 61 60,lE 62 61,bB 63 .lss 59 62] (Cd 63 (af [fA 64 1 9,lD 65 64,mV 66 1,mV 67 1,bI 68 .add 67 1,cD 69 77 65 66 68,fA 70 1 9,sO 1 70 69] (Rg [fA 71 2 9,lD 72 71,mV 73 1,mV 74 1,bI 75 .add 74 1,cD 76 78 72 73 75,fA 77 2 9,sO 1 77 76])) .skip)))) (af [lN 78 4 9,sO 4 8 78] .ret))))),[(.cell 8 (some 4))]⟩
theorem XD:vQ Tryz.prog [(5,4),(6,6)] 42=some c42:=by kernel_rfl
theorem XO:gk Tryz.prog 42=true:=by kernel_rfl
def c43:au:=⟨2,18,(af [bX 2 0,bX 3 1,mI 4 0] (Sq (af [fA 7 1 3,lD 8 7,bI 9 .eql 8 0] (Cd 9 (af [mI 4 0] .ret) .skip)) (af [lD 11 2,lN 12 3 3,oN 13 (.sa (.func 79) [] [(.t 2)]),cD 14 70 11 12 13,mV 10 14,xT 15 10 0,xT 16 10 1,mV 5 15,mV 6 16] (af [mV 17 6,mV 4 17] .ret)))),[(.t 4)]⟩
theorem PK:Cm 43 c43:=⟨by kernel_rfl,by kernel_rfl⟩
def c44:au:=⟨2,23,(af [mI 4 0] (Sq (af [mV 6 0,nC 7 6,fA 8 1 7,lD 9 8,bI 10 .eql 9 0] (Cd 10 (af [mI 4 0] .ret) .skip)) (af [mV 11 0,mV 12 1,oN 13 .sn,oN 14 (.build [(.v (.pointer none)),(.v (.bool false)),(.v (.map none)),(.v (.int .i64 0))] [(0,(1,(.t 11))),(1,(1,(.t 12))),(2,(1,(.t 13)))]),bX 15 14,mV 5 15] (af [mV 16 5,mV 17 0,nC 18 17,fA 19 1 18,lD 20 19,oN 21 (.build [(.str []),(.str []),(.v (.bool false))] []),oN 22 (.call 80 [(.t 16),(.t 20),(.c (.v (.int .i64 1))),(.t 21)]),mV 4 22] .ret)))),[(.t 4)]⟩
theorem PJ:Cm 44 c44:=⟨by kernel_rfl,by kernel_rfl⟩
def c45:au:=⟨4,49,(af [bX 4 0,oN 5 (.alloc [(.v (.bool false)),nS,nS,nS]),mI 6 0] (af [lD 13 1,lD 14 2,cB 15 46 13 14,mV 12 15,xT 16 12 0,xT 17 12 1,oN 7 (.alloc [(.str []),(.v (.int .i64 0)),(.v (.int .i64 0))]),sO 3 7 16,mV 8 17] (Sq (af [mV 18 8,bI 19 .neq 18 0] (Cd 19 (af [lN 20 4 4,mV 21 8,sO 4 5 20,mV 6 21] .ret) .skip)) (af [lN 23 4 4,lD 24 3,cB 25 37 23 24,mV 22 25,xT 26 22 0,xT 27 22 1,mV 9 26,mV 10 27] (Sq (af [mV 28 10] (Cd 28 (Sq (Sq (.draw [[],[],[1],[],[2,1,3],[4,2,1,3],[0,5,4,2,1,3],[6,0,5,4,2,1,3]] [lD 29 1,fA 30 2 4,lD 31 30,mV 32 9,iA 33 3 31 32,lN 34 3 33,cB 35 43 29 34,mV 11 35]) (af [mV 36 11,bI 37 .neq 36 0] (Cd 37 (af [lN 38 4 4,mV 39 11,sO 4 5 38,mV 6 39] .ret) .skip))) (Rg [lN 40 4 4,mV 41 9,oN 42 (.call 42 [(.t 40),(.t 41),(.c (.str [])),(.c nS)]),sO 4 4 42])) .skip)) (af [lN 43 4 4,mV 44 9,lD 45 3,lN 46 3 7,oN 47 (.bp false 3 [[(.str []),(.v (.int .i64 0)),(.v (.int .i64 0))]] [(0,(.t 46))]),oN 48 (.call 42 [(.t 43),(.t 44),(.t 45),(.t 47)]),sO 4 5 48,mI 6 0] .ret)))))),[(.cell 5 (some 4)),(.t 6)]⟩
theorem PI:Cm 45 c45:=⟨by kernel_rfl,by kernel_rfl⟩
def c46:au:=⟨2,62,(af [oN 4 (.alloc [(.str []),(.v (.int .i64 0)),(.v (.int .i64 0))]),mI 5 0] (Sq (af [mV 11 1,oN 12 (.gA (.t 11)),bI 13 .leq 12 60] (Cd 13 (af [mV 14 1,oN 15 (.build [(.str []),(.v (.int .i64 0)),(.v (.int .i64 0))] [(0,(1,(.t 14)))]),sO 3 4 15,mI 5 0] .ret) .skip)) (af [mI 6 0] (Sq (af [mV 16 1,oN 17 (.gA (.t 16)),bI 18 .sub 17 1,bI 19 .quo 18 488,bI 20 .mul 19 488,mV 7 20] (.block 0 (.loop (Sq (af [mV 21 7,bI 22 .geq 21 0] (Cd 22 .skip (.exit 0))) (Sq (.block 1 (af [mV 25 1,mV 26 7,mV 27 1,oN 28 (.gA (.t 27)),mV 29 7,bI 30 .add 29 488,oN 31 (.min (.t 28) (.t 30)),oN 32 (.nB (.t 25) (some (.t 26)) (some (.t 31))),mV 8 32] (af [mV 34 0,mV 35 6,oN 36 (.bin .shr (.t 35) (.c (.v (.int .u64 24)))),oN 37 (.conv .u8 (.t 36)),mV 38 6,oN 39 (.bin .shr (.t 38) (.c (.v (.int .u64 16)))),oN 40 (.conv .u8 (.t 39)),mV 41 6,oN 42 (.bin .shr (.t 41) (.c (.v (.int .u64 8)))),oN 43 (.conv .u8 (.t 42)),mV 44 6,oN 45 (.conv .u8 (.t 44)),oN 46 (.bp false 1 [[(.v (.int .u8 0))],[(.v (.int .u8 0))],[(.v (.int .u8 0))],[(.v (.int .u8 0))]] [(0,(.t 37)),(1,(.t 40)),(2,(.t 43)),(3,(.t 45))]),oN 47 (.Mk (.t 46)),mV 48 8,bB 49 .add 47 48,oN 50 (.call 81 [(.t 34),(.c (.v (.int .i64 3))),(.t 49)]),mV 33 50,xT 51 33 0,xT 52 33 1,mV 9 51,mV 10 52] (Sq (af [mV 53 10,bI 54 .neq 53 0] (Cd 54 (af [oN 55 (.build [(.str []),(.v (.int .i64 0)),(.v (.int .i64 0))] []),mV 56 10,sO 3 4 55,mV 5 56] .ret) .skip)) (Rg [mV 57 9,mV 6 57]))))) (Rg [mV 23 7,bI 24 .sub 23 488,mV 7 24])))))) (af [mV 58 6,mV 59 1,oN 60 (.gA (.t 59)),oN 61 (.build [(.str []),(.v (.int .i64 0)),(.v (.int .i64 0))] [(1,(1,(.t 58))),(2,(1,(.t 60)))]),sO 3 4 61,mI 5 0] .ret))))),[(.cell 4 (some 3)),(.t 5)]⟩
theorem PH:Cm 46 c46:=⟨by kernel_rfl,by kernel_rfl⟩
def c47:au:=⟨1,31,(af [oN 2 (.dm (.c (.v (.pointer none)))),oN 3 (.dm (.c (.v (.pointer none))))] (af [mV 8 0,cA 9 82 8,mV 7 9,xT 10 7 0,xT 11 7 1,mV 4 10,mV 5 11] (Sq (af [mV 12 5,cA 13 14 12,bI 14 .neq 13 0,mV 15 14,gD 16 4 15,Dq 17 83 16 15,Dq 18 14 17 15,tt 19 .neq 18 0 15,pT 20 15 19] (Cd 20 (af [oN 2 (.dm (.c (.v (.pointer none)))),oN 3 (.dm (.c (.v (.pointer none))))] .ret) .skip)) (af [mV 22 4,cA 23 31 22,mV 21 23,xT 24 21 0,xT 25 21 1,mV 6 24,mV 5 25] (Sq (af [mV 26 5,cA 27 14 26,bI 28 .neq 27 0] (Cd 28 (af [oN 2 (.dm (.c (.v (.pointer none)))),oN 3 (.dm (.c (.v (.pointer none))))] .ret) .skip)) (af [mV 29 4,mV 30 6,mV 2 29,mV 3 30] .ret)))))),[(.t 2),(.t 3)]⟩
theorem PG:Cm 47 c47:=⟨by kernel_rfl,by kernel_rfl⟩
def c48:au:=⟨3,83,(Sq (.draw [[],[0],[1,0],[2,1,0],[3,2,1,0],[],[5],[6,5],[7,6,5],[8,7,6,5,4,3,2,1,0],[4,3,2,1,0,9,8,7,6,5],[9,8,7,6,5,4,3,2,1,0,10]] [mV 11 0,nC 12 11,fA 13 1 12,lD 14 13,cA 15 25 14,mV 16 0,nC 17 16,fA 18 2 17,lD 19 18,cA 20 18 19,mV 6 15,mV 7 20]) (af [mV 21 0,nC 22 21,fA 23 2 22,lD 24 23,mV 25 1,mV 26 2,cD 27 16 24 25 26,mV 8 27] (Sq (af [mV 28 8,cA 29 14 28,bI 30 .eql 29 6] (Cd 30 (af [mV 31 0,mV 32 0,nC 33 32,fA 34 6 33,lD 35 34,mV 36 35,gD 37 0 36,Iu 38 37 36,xh 39 1 38 36,ti 40 39 36,Dq 41 25 40 36,gD 42 6 36,J4 43 .neq 41 42 36,pT 44 36 43,mV 45 44,gD 46 0 45,Iu 47 46 45,xh 48 2 47 45,ti 49 48 45,Dq 50 18 49 45,gD 51 7 45,J4 52 .neq 50 51 45,pT 53 45 52,nC 54 31,fA 55 6 54,sO 1 55 53] .ret) .skip)) (af [mV 57 0,nC 58 57,fA 59 3 58,lD 60 59,mV 61 1,mV 62 2,cD 63 84 60 61 62,mV 56 63,xT 64 56 0,xT 65 56 1,mV 9 64,mV 10 65] (af [mV 66 0,mV 67 0,nC 68 67,fA 69 6 68,lD 70 69,mV 71 70,gD 72 8 71,Dq 73 14 72 71,gD 74 10 71,J4 75 .neq 73 74 71,pT 76 71 75,nC 77 66,fA 78 6 77,sO 1 78 76] (Rg [mV 79 0,mV 80 9,nC 81 79,fA 82 3 81,sO 1 82 80])))))),[]⟩
theorem PF:Cm 48 c48:=⟨by kernel_rfl,by kernel_rfl⟩
def c49:au:=⟨1,20,(af [bX 1 0,oN 2 (.dm (.c (.str [])))] (af [oN 3 (.dm (.c (.str [])))] (Sq (af [mI 4 0] (.block 0 (.loop (Sq (af [mV 5 4,fA 6 3 1,lD 7 6,oN 8 (.min (.t 7) (.c (.v (.int .i64 300)))),bB 9 .lss 5 8] (Cd 9 .skip (.exit 0))) (Sq (.block 1 (Rg [mV 12 3,fA 13 2 1,lD 14 13,bB 15 .add 12 14,mV 3 15])) (Rg [mV 10 4,bI 11 .add 10 1,mV 4 11])))))) (af [fA 16 2 1,lD 17 16,mV 18 3,bB 19 .add 17 18,mV 2 19] .ret)))),[(.t 2)]⟩
theorem PE:Cm 49 c49:=⟨by kernel_rfl,by kernel_rfl⟩
def c50:au:=⟨2,77,(af [mV 12 0,nC 13 12,fA 14 2 13,lD 15 14,mV 16 1,cB 17 12 15 16,mV 11 17,xT 18 11 0,xT 19 11 1,mV 4 18,mV 5 19] (af [mI 6 0] (Sq (af [mV 20 1,lE 21 20,mI 22 0] (.block 0 (.loop (af [bB 23 .lss 22 21] (Sq (Cd 23 .skip (.exit 0)) (Sq (.block 1 (af [iA 24 1 20 22,lD 25 24,mV 8 25] (af [mV 27 0,nC 28 27,fA 29 3 28,lD 30 29,mV 31 8,cB 32 27 30 31,mV 26 32,xT 33 26 0,xT 34 26 1,mV 9 33,mV 10 34] (Sq (af [mV 35 5,cA 36 14 35,bI 37 .eql 36 6,mV 38 37,ji 39 6 38,ji 40 4 38,DR 41 .eql 39 40 38,pF 42 38 41,mV 43 42,ji 44 10 43,uv 45 .gtr 44 0 43,pF 46 43 45] (Cd 46 (.exit 0) .skip)) (af [mV 47 0,mV 48 9,nC 49 47,fA 50 3 49,sO 1 50 48] (Rg [mV 51 6,mV 52 10,bB 53 .add 51 52,mV 6 53])))))) (Rg [bI 54 .add 22 1,mV 22 54]))))))) (Rg [mV 55 0,mV 56 0,nC 57 56,fA 58 6 57,lD 59 58,mV 60 59,gD 61 4 60,gD 62 6 60,J4 63 .neq 61 62 60,pT 64 60 63,mV 65 64,gD 66 5 65,Dq 67 14 66 65,tt 68 .neq 67 0 65,gD 69 68 65,ji 70 5 69,cAT 71 14 70 69,uv 72 .neq 71 6 69,Z7 73 69 72 65,pT 74 65 73,nC 75 55,fA 76 6 75,sO 1 76 74])))),[]⟩
theorem PC:Cm 50 c50:=⟨by kernel_rfl,by kernel_rfl⟩
def c51:au:=⟨2,25,(af [oN 4 (.dm (.c (.str []))),mB 5 false] (Sq (af [mI 6 0] (.block 0 (.loop (Sq (af [mV 7 6,mV 8 0,lE 9 8,bB 10 .lss 7 9] (Cd 10 .skip (.exit 0))) (Sq (.block 1 (af [mV 13 0,mV 14 6,iA 15 2 13 14,fA 16 0 15,lD 17 16,mV 18 1,bB 19 .eql 17 18] (Cd 19 (af [mV 20 0,mV 21 6,iA 22 2 20 21,fA 23 1 22,lD 24 23,mV 4 24,mB 5 true] .ret) .skip))) (Rg [mV 11 6,bI 12 .add 11 1,mV 6 12])))))) (af [oN 4 (.dm (.c (.str []))),mB 5 false] .ret))),[(.t 4),(.t 5)]⟩
theorem Pz:Cm 51 c51:=⟨by kernel_rfl,by kernel_rfl⟩
def c52:au:=⟨4,56,(af [oN 8 (.dm (.c nS))] (af [oN 9 (.dm (.c nS))] (Sq (af [mI 10 0] (.block 0 (.loop (Sq (af [mV 11 10,mV 12 0,lE 13 12,bB 14 .lss 11 13,mV 15 14,ji 16 9 15,QN 17 16 15,ji 18 3 15,DR 19 .lss 17 18 15,pF 20 15 19,mV 21 20,ji 22 9 21,QN 23 22 21,uv 24 .lss 23 20000 21,pF 25 21 24] (Cd 25 .skip (.exit 0))) (Sq (.block 1 (af [mV 28 0,mV 29 10,iA 30 2 28 29,fA 31 0 30,lD 32 31,mV 33 1,bB 34 .geq 32 33,mV 35 34,ji 36 2 35,⟨(some 37),(.bin .eql (.t 36) (.c (.str []))),(some (35,true))⟩,ji 38 37 35,gD 39 0 38,gD 40 10 38,iAF 41 2 39 40 38,xh 42 0 41 38,ti 43 42 38,gD 44 2 38,J4 45 .lss 43 44 38,pTT 46 38 45 35,pF 47 35 46] (Cd 47 (Rg [mV 48 9,mV 49 0,mV 50 10,iA 51 2 49 50,lN 52 2 51,oN 53 (.bp false 2 [[(.str []),(.str [])]] [(0,(.t 52))]),aP 54 2 32 48 53,mV 9 54]) .skip))) (Rg [mV 26 10,bI 27 .add 26 1,mV 10 27])))))) (af [mV 55 9,mV 8 55] .ret)))),[(.t 8)]⟩
theorem Py:Cm 52 c52:=⟨by kernel_rfl,by kernel_rfl⟩
def c53:au:=⟨1,37,(Sq (af [mV 4 0,oN 5 (.z8 .eql (.t 4) (.c (.v (.pointer none))))] (Cd 5 .ret .skip)) (af [mV 6 0,nC 7 6,fA 8 3 7,lD 9 8,lE 10 9,mI 11 0] (.block 0 (.loop (af [bB 12 .lss 11 10] (Sq (Cd 12 .skip (.exit 0)) (Sq (.block 1 (af [mV 13 11,iA 14 2 9 11,lN 15 2 14,oN 3 (.alloc [(.v (.int .i64 0)),(.v (.int .i64 0))]),mV 2 13,sO 2 3 15] (af [fA 16 0 3,lD 17 16] (.block 2 (af [bI 19 .eql 17 2,mV 18 19] (Cd 18 (Rg [mV 20 0,nC 21 20,fA 22 3 21,lD 23 22,mV 24 2,oN 25 (.build [(.v (.int .i64 0)),(.v (.int .i64 0))] []),iA 26 2 23 24,sO 2 26 25]) (af [bI 28 .eql 17 3,mV 27 28] (Cd 27 (Rg [mV 29 0,nC 30 29,fA 31 3 30,lD 32 31,mV 33 2,iA 34 2 32 33,fA 35 0 34,⟨none,(.store 1 (.t 35) (.c (.v (.int .i64 1)))),none⟩]) .skip)))))))) (Rg [bI 36 .add 11 1,mV 11 36])))))))),[]⟩
theorem Px:Cm 53 c53:=⟨by kernel_rfl,by kernel_rfl⟩
def c54:au:=⟨1,18,(af [mI 2 0] (Sq (.block 0 (af [mV 4 0,oN 5 (.z8 .eql (.t 4) (.c (.v (.pointer none)))),mV 6 5,gD 7 0 6,Iu 8 7 6,xh 9 0 8 6,ti 10 9 6,⟨(some 11),(.z8 .eql (.t 10) (.c (.v (.pointer none)))),(some (6,false))⟩,pT 12 6 11,mV 3 12] (Cd 3 (af [mI 2 1] .ret) (af [mV 14 0,nC 15 14,fA 16 5 15,lD 17 16,mV 13 17] (Cd 13 (af [mI 2 9] .ret) .skip))))) (af [mI 2 0] .ret))),[(.t 2)]⟩
theorem Pw:Cm 54 c54:=⟨by kernel_rfl,by kernel_rfl⟩
def c55:au:=⟨2,47,(af [oN 4 (.dm (.c nS)),mI 5 0] (Sq (af [mV 7 0,bI 8 .lss 7 1,mV 9 8,gD 10 0 9,tt 11 .gtr 10 4611686018427387904 9,pT 12 9 11] (Cd 12 (af [oN 4 (.dm (.c nS)),mI 5 2] .ret) .skip)) (Sq (af [mV 13 1,oN 14 (.gA (.t 13)),bI 15 .gtr 14 490] (Cd 15 (af [oN 4 (.dm (.c nS)),mI 5 4] .ret) .skip)) (af [oN 16 (.call 85 []),mV 6 16] (af [mV 17 6,nC 18 17,fA 19 0 18,mV 20 0,oN 21 (.call 86 [(.t 19),(.t 20),(.c (.v (.int .i64 8)))])] (af [mV 22 6,nC 23 22,fA 24 0 23,mV 25 1,oN 26 (.gA (.t 25)),oN 27 (.call 86 [(.t 24),(.t 26),(.c (.v (.int .i64 2)))])] (af [mV 28 6,nC 29 28,fA 30 0 29,mV 31 1,cB 32 87 30 31] (af [mV 33 6,nC 34 33,fA 35 0 34,fA 36 1 35,⟨none,(.store 1 (.t 36) (.c (.v (.int .i64 504)))),none⟩] (af [mV 37 6,nC 38 37,fA 39 0 38,mV 40 0,oN 41 (.call 86 [(.t 39),(.t 40),(.c (.v (.int .i64 8)))])] (af [mV 42 6,nC 43 42,fA 44 0 43,fA 45 0 44,lD 46 45,mV 4 46,mI 5 0] .ret)))))))))),[(.t 4),(.t 5)]⟩
theorem Pv:Cm 55 c55:=⟨by kernel_rfl,by kernel_rfl⟩
def c56:au:=⟨2,17,(af [mI 4 0] (af [mV 5 0,mV 6 0,nC 7 6,fA 8 5 7,lD 9 8,mV 10 9,gD 11 1 10,tt 12 .eql 11 9 10,pT 13 10 12,nC 14 5,fA 15 5 14,sO 1 15 13] (af [mV 16 1,mV 4 16] .ret))),[(.t 4)]⟩
theorem Pu:Cm 56 c56:=⟨by kernel_rfl,by kernel_rfl⟩
def c57:au:=⟨1,36,(af [mI 2 0] (Sq (af [mV 6 0,cA 7 59 6,oN 8 (.un .not (.t 7))] (Cd 8 (af [mI 2 1] .ret) .skip)) (af [mV 9 0,cA 10 61 9,mV 3 10] (Sq (af [mV 11 3,bI 12 .eql 11 0] (Cd 12 (Sq (af [mV 13 0,nC 14 13,fA 15 1 14,lD 16 15,lE 17 16,mI 18 0] (.block 0 (.loop (af [bB 19 .lss 18 17] (Sq (Cd 19 .skip (.exit 0)) (Sq (.block 1 (af [iA 20 2 16 18,lN 21 2 20,oN 5 (.alloc [(.v (.int .i64 0)),nS]),sO 2 5 21] (.draw [[],[0],[1,0],[2,1,0],[],[4],[],[6],[3,2,1,0,5,4,7,6]] [mV 22 0,nC 23 22,fA 24 0 23,lD 25 24,fA 26 0 5,lD 27 26,fA 28 1 5,lD 29 28,cD 30 88 25 27 29]))) (Rg [bI 31 .add 18 1,mV 18 31]))))))) (Rg [mV 32 0,nC 33 32,fA 34 1 33,⟨none,(.store 1 (.t 34) (.c nS)),none⟩])) .skip)) (af [mV 35 3,mV 2 35] .ret))))),[(.t 2)]⟩
theorem Pt:Cm 57 c57:=⟨by kernel_rfl,by kernel_rfl⟩
def c58:au:=⟨1,34,(af [mV 5 0,cA 6 89 5,mV 2 6] (af [mV 7 0,nC 8 7,fA 9 3 8,lD 10 9,lE 11 10,mI 12 0] (.block 0 (.loop (af [bB 13 .lss 12 11] (Sq (Cd 13 .skip (.exit 0)) (Sq (.block 1 (af [mV 14 12,iA 15 2 10 12,lN 16 2 15,oN 4 (.alloc [(.v (.int .i64 0)),(.v (.int .i64 0))]),mV 3 14,sO 2 4 16] (af [fA 17 0 4,lD 18 17,bI 19 .eql 18 4,mV 20 19,ji 21 2 20,rN 22 1 4 20,mb 23 22 20,DR 24 .geq 21 23 20,pF 25 20 24] (Cd 25 (Rg [mV 26 0,nC 27 26,fA 28 3 27,lD 29 28,mV 30 3,oN 31 (.build [(.v (.int .i64 0)),(.v (.int .i64 0))] []),iA 32 2 29 30,sO 2 32 31]) .skip)))) (Rg [bI 33 .add 12 1,mV 12 33])))))))),[]⟩
theorem Ps:Cm 58 c58:=⟨by kernel_rfl,by kernel_rfl⟩
def c59:au:=⟨1,12,(af [mB 2 false] (af [mV 3 0,oN 4 (.z8 .neq (.t 3) (.c (.v (.pointer none)))),mV 5 4,ji 6 0 5,QM 7 6 5,rN 8 0 7 5,mb 9 8 5,⟨(some 10),(.z8 .neq (.t 9) (.c (.v (.pointer none)))),(some (5,true))⟩,pF 11 5 10,mV 2 11] .ret)),[(.t 2)]⟩
theorem Pq:Cm 59 c59:=⟨by kernel_rfl,by kernel_rfl⟩
def c60:au:=⟨2,15,(af [mB 4 false] (af [mV 5 1,bI 6 .geq 5 0,mV 7 6,ji 8 1 7,ji 9 0 7,QM 10 9 7,mb 11 10 7,QN 12 11 7,DR 13 .lss 8 12 7,pF 14 7 13,mV 4 14] .ret)),[(.t 4)]⟩
theorem Pp:Cm 60 c60:=⟨by kernel_rfl,by kernel_rfl⟩
def c61:au:=⟨1,40,(af [mI 2 0] (af [mV 3 0,mV 4 0,nC 5 4,fA 6 4 5,lD 7 6,mV 8 7,gD 9 0 8,Iu 10 9 8,xh 11 3 10 8,ti 12 11 8,tt 13 .eql 12 0 8,pT 14 8 13,nC 15 3,fA 16 4 15,sO 1 16 14] (Sq (af [mV 17 0,nC 18 17,fA 19 4 18,lD 20 19] (Cd 20 (af [mI 2 9] .ret) .skip)) (Sq (af [mV 21 0,nC 22 21,fA 23 3 22,lD 24 23,bI 25 .gtr 24 0] (Cd 25 (Rg [mV 26 0,nC 27 26,fA 28 3 27,lD 29 28,bI 30 .sub 29 1,nC 31 26,fA 32 3 31,sO 1 32 30]) .skip)) (af [mV 33 0,nC 34 33,fA 35 2 34,lD 36 35,bI 37 .add 36 1,nC 38 33,fA 39 2 38,sO 1 39 37] (af [mI 2 0] .ret)))))),[(.t 2)]⟩
theorem Po:Cm 61 c61:=⟨by kernel_rfl,by kernel_rfl⟩
def c62:au:=⟨1,11,(af [mI 2 0] (Sq (.block 0 (af [mV 4 0,cA 5 63 4,bI 6 .eql 5 0,mV 3 6] (Cd 3 (af [mI 2 1] .ret) (af [mV 8 0,cA 9 63 8,bI 10 .lss 9 4,mV 7 10] (Cd 7 (af [mI 2 2] .ret) .skip))))) (af [mI 2 0] .ret))),[(.t 2)]⟩
theorem Pn:Cm 62 c62:=⟨by kernel_rfl,by kernel_rfl⟩
def c63:au:=⟨1,11,(af [mI 2 0] (Sq (af [mV 3 0,cA 4 59 3,oN 5 (.un .not (.t 4))] (Cd 5 (af [mI 2 0] .ret) .skip)) (af [mV 6 0,nC 7 6,fA 8 0 7,lD 9 8,cA 10 90 9,mV 2 10] .ret))),[(.t 2)]⟩
theorem Pm:Cm 63 c63:=⟨by kernel_rfl,by kernel_rfl⟩
def c64:au:=⟨1,49,(af [mI 2 0,oN 3 (.dm (.c (.str []))),mI 4 0] (Sq (af [mV 11 0,lE 12 11,bI 13 .neq 12 512] (Cd 13 (af [mI 2 0,oN 3 (.dm (.c (.str []))),mI 4 11] .ret) .skip)) (af [mV 14 0,oN 15 (.build [nS,(.v (.int .i64 0))] [(0,(1,(.t 14)))]),oN 16 (.build [nS,(.v (.int .i64 0))] [(0,(2,(.t 15)))]),bX 17 16,mV 5 17] (Sq (.draw [[],[0],[1,0],[2,1,0],[],[4],[5,4],[6,5,4,3,2,1,0],[3,2,1,0,7,6,5,4],[7,6,5,4,3,2,1,0,8]] [mV 18 5,nC 19 18,fA 20 0 19,oN 21 (.call 91 [(.t 20),(.c (.v (.int .i64 8)))]),mV 22 5,nC 23 22,fA 24 0 23,oN 25 (.call 91 [(.t 24),(.c (.v (.int .i64 2)))]),mV 6 21,mV 7 25]) (Sq (af [mV 26 7,bI 27 .gtr 26 490] (Cd 27 (af [mI 2 0,oN 3 (.dm (.c (.str []))),mI 4 11] .ret) .skip)) (af [mV 28 0,mV 29 7,oN 30 (.bin .add (.c (.v (.int .i64 10))) (.t 29)),oN 31 (.slice 1 (.t 28) (some (.c (.v (.int .i64 10)))) (some (.t 30)) none),oN 32 (.Mk (.t 31)),mV 8 32] (af [mV 34 6,mV 35 8,cB 36 55 34 35,mV 33 36,xT 37 33 0,xT 38 33 1,mV 9 37,mV 10 38] (Sq (af [mV 39 10,bI 40 .neq 39 0,mV 41 40,gD 42 9 41,gD 43 0 41,cBF 44 92 42 43 41,⟨(some 45),(.un .not (.t 44)),(some (41,false))⟩,pT 46 41 45] (Cd 46 (af [mI 2 0,oN 3 (.dm (.c (.str []))),mI 4 11] .ret) .skip)) (af [mV 47 6,mV 48 8,mV 2 47,mV 3 48,mI 4 0] .ret))))))))),[(.t 2),(.t 3),(.t 4)]⟩
theorem Pl:Cm 64 c64:=⟨by kernel_rfl,by kernel_rfl⟩
def c65:au:=⟨2,58,(af [mI 4 0,oN 5 (.dm (.c (.str []))),mI 6 0] (Sq (af [mV 13 0,cA 14 54 13,mV 7 14] (af [mV 15 7,bI 16 .neq 15 0] (Cd 16 (af [mV 17 7,mI 4 0,oN 5 (.dm (.c (.str []))),mV 6 17] .ret) .skip))) (Sq (af [mV 18 0,mV 19 1,cB 20 93 18 19,oN 21 (.un .not (.t 20)),mV 22 21,gD 23 0 22,Iu 24 23 22,xh 25 3 24 22,ti 26 25 22,gD 27 1 22,iAF 28 2 26 27 22,xh 29 0 28 22,ti 30 29 22,tt 31 .eql 30 0 22,pT 32 22 31] (Cd 32 (af [mI 4 0,oN 5 (.dm (.c (.str []))),mI 6 3] .ret) .skip)) (af [mV 34 0,nC 35 34,fA 36 0 35,lD 37 36,mV 38 1,cB 39 29 37 38,mV 33 39,xT 40 33 0,xT 41 33 1,mV 8 40,mV 9 41] (Sq (af [mV 42 9,bI 43 .neq 42 0] (Cd 43 (af [mV 44 0,mV 45 9,cB 46 56 44 45,mI 4 0,oN 5 (.dm (.c (.str []))),mV 6 46] .ret) .skip)) (af [mV 48 8,cA 49 94 48,mV 47 49,xT 50 47 0,xT 51 47 1,xT 52 47 2,xT 53 47 3,mV 10 50,mV 11 51,mV 12 52,mV 9 53] (Sq (af [mV 54 9,bI 55 .neq 54 0] (Cd 55 (af [mI 4 0,oN 5 (.dm (.c (.str []))),mI 6 10] .ret) .skip)) (af [mV 56 10,mV 57 12,mV 4 56,mV 5 57,mI 6 0] .ret)))))))),[(.t 4),(.t 5),(.t 6)]⟩
theorem Pk:Cm 65 c65:=⟨by kernel_rfl,by kernel_rfl⟩
def c66:au:=⟨1,10,(af [mI 2 0] (Sq (af [mV 3 0,bI 4 .eql 3 0,mV 5 4,gD 6 0 5,tt 7 .eql 6 9 5,pT 8 5 7] (Cd 8 (af [mV 9 0,mV 2 9] .ret) .skip)) (af [mI 2 10] .ret))),[(.t 2)]⟩
theorem Pj:Cm 66 c66:=⟨by kernel_rfl,by kernel_rfl⟩
def fo:cC:=(Sq (af [mV 72 7,nC 73 72,fA 74 1 73,lD 75 74,mV 76 75,gD 77 7 76,Iu 78 77 76,xh 79 0 78 76,ti 80 79 76,⟨(some 81),(.bin .neq (.t 80) (.c (.str []))),(some (76,false))⟩,pT 82 76 81,mV 83 82,lNF 84 4 6 83,Dq 85 68 84 83,⟨(some 86),(.un .not (.t 85)),(some (83,false))⟩,pT 87 83 86] (Cd 87 (af [oN 88 (.build [(.v (.bool false)),nS,nS,nS] []),sO 4 4 88,mI 5 11] .ret) .skip)) (af [lN 89 4 6,sO 4 4 89,mI 5 0] .ret))
def c67:au:=⟨2,90,(af [oN 4 (.alloc [(.v (.bool false)),nS,nS,nS]),mI 5 0] (af [mV 10 0,bI 11 .eql 10 1,oN 12 (.build [(.v (.bool false)),nS,nS,nS] [(0,(1,(.t 11)))]),oN 6 (.alloc [(.v (.bool false)),nS,nS,nS]),sO 4 6 12] (af [mV 13 1,oN 14 (.build [(.str []),(.v (.bool false))] [(0,(1,(.t 13)))]),bX 15 14,mV 7 15] (Sq (af [mV 16 0,bI 17 .neq 16 1,mV 18 17,ji 19 0 18,uv 20 .neq 19 2 18,pF 21 18 20] (Cd 21 (af [oN 22 (.build [(.v (.bool false)),nS,nS,nS] []),sO 4 4 22,mI 5 11] .ret) .skip)) (af [mV 23 7,oN 24 (.call 95 [(.t 23),(.c (.v (.int .i64 2)))]),mV 8 24] (Sq (af [fA 25 0 6,lD 26 25,oN 27 (.un .not (.t 26))] (Cd 27 (.draw [[],[0],[],[2],[3,2],[1,0,4,3,2],[0,1,2,3,4,5],[6,0,1,2,3,4,5]] [fA 28 3 6,lD 29 28,mV 30 7,oN 31 (.call 95 [(.t 30),(.c (.v (.int .i64 4)))]),oN 32 (.bp false 1 [[(.v (.int .i64 0))]] [(0,(.t 31))]),aP 33 1 8 29 32,fA 34 3 6,sO 1 34 33]) .skip)) (Sq (af [mI 9 0] (.block 0 (.loop (Sq (af [mV 35 9,mV 36 8,bB 37 .lss 35 36,mV 38 37,ji 39 7 38,QM 40 39 38,rN 41 1 40 38,mb 42 41 38,⟨(some 43),(.un .not (.t 42)),(some (38,true))⟩,pF 44 38 43] (Cd 44 .skip (.exit 0))) (Sq (.block 1 (Sq (.draw [[],[0],[],[],[3],[2,4,3],[5,2,4,3],[1,0,6,5,2,4,3],[0,1,2,3,4,5,6,7],[8,0,1,2,3,4,5,6,7]] [fA 47 1 6,lD 48 47,mV 49 7,mV 50 7,oN 51 (.call 95 [(.t 50),(.c (.v (.int .i64 1)))]),cB 52 96 49 51,oN 53 (.bp false 1 [[(.str [])]] [(0,(.t 52))]),aP 54 1 16 48 53,fA 55 1 6,sO 1 55 54]) (af [fA 56 0 6,lD 57 56] (Cd 57 (.draw [[],[0],[],[2],[3,2],[1,0,4,3,2],[0,1,2,3,4,5],[6,0,1,2,3,4,5]] [fA 58 2 6,lD 59 58,mV 60 7,cA 61 97 60,oN 62 (.bp false 3 [[(.str []),(.v (.int .i64 0)),(.v (.int .i64 0))]] [(0,(.t 61))]),aP 63 3 32 59 62,fA 64 2 6,sO 1 64 63]) (.draw [[],[0],[],[2],[3,2],[1,0,4,3,2],[0,1,2,3,4,5],[6,0,1,2,3,4,5]] [fA 65 3 6,lD 66 65,mV 67 7,oN 68 (.call 95 [(.t 67),(.c (.v (.int .i64 4)))]),oN 69 (.bp false 1 [[(.v (.int .i64 0))]] [(0,(.t 68))]),aP 70 1 8 66 69,fA 71 3 6,sO 1 71 70]))))) (Rg [mV 45 9,bI 46 .add 45 1,mV 9 46]))))))  fo ))))))),[(.cell 4 (some 4)),(.t 5)]⟩
theorem Ph:Cm 67 c67:=⟨by kernel_rfl,by kernel_rfl⟩
def c68:au:=⟨1,78,(af [bX 1 0,mB 2 false] (Sq (af [fA 5 1 1,lD 6 5,lE 7 6,mI 8 0] (.block 0 (.loop (af [bB 9 .lss 8 7] (Sq (Cd 9 .skip (.exit 0)) (Sq (.block 1 (af [mV 10 8,iA 11 1 6 8,lD 12 11,mV 3 10,mV 4 12] (af [mV 13 4,oN 14 (.gA (.t 13)),bI 15 .gtr 14 60,mV 16 15,gD 17 3 16,tt 18 .gtr 17 0 16,gD 19 18 16,rN 20 1 1 19,mb 21 20 19,ji 22 3 19,uv 23 .sub 22 1 19,TG 24 1 21 23 19,mb 25 24 19,ji 26 4 19,DR 27 .geq 25 26 19,Z7 28 19 27 16,pT 29 16 28] (Cd 29 (af [mB 2 false] .ret) .skip)))) (Rg [bI 30 .add 8 1,mV 8 30]))))))) (Sq (af [fA 31 0 1,lD 32 31] (Cd 32 (af [fA 33 2 1,lD 34 33,lE 35 34,fA 36 1 1,lD 37 36,lE 38 37,bB 39 .eql 35 38,mV 40 39,rN 41 3 1 40,mb 42 41 40,QN 43 42 40,uv 44 .eql 43 0 40,pF 45 40 44,mV 46 45,rN 47 2 1 46,mb 48 47 46,⟨(some 49),(.call 98 [(.t 48),(.c (.fn (.func 99) [] []))]),(some (46,true))⟩,⟨(some 50),(.un .not (.t 49)),(some (46,true))⟩,pF 51 46 50,mV 2 51] .ret) .skip)) (af [fA 52 1 1,lD 53 52,lE 54 53,bI 55 .gtr 54 0,mV 56 55,rN 57 3 1 56,mb 58 57 56,QN 59 58 56,rN 60 1 1 56,mb 61 60 56,QN 62 61 56,uv 63 .add 62 1 56,DR 64 .eql 59 63 56,pF 65 56 64,mV 66 65,rN 67 2 1 66,mb 68 67 66,QN 69 68 66,uv 70 .eql 69 0 66,pF 71 66 70,mV 72 71,rN 73 3 1 72,mb 74 73 72,⟨(some 75),(.call 101 [(.t 74),(.c (.fn (.func 102) [] []))]),(some (72,true))⟩,⟨(some 76),(.un .not (.t 75)),(some (72,true))⟩,pF 77 72 76,mV 2 77] .ret)))),[(.t 2)]⟩
theorem Pe:Cm 68 c68:=⟨by kernel_rfl,by kernel_rfl⟩
def c69:au:=⟨2,9,(af [bX 2 0,bX 3 1,mI 4 0] (af [lD 5 2,lE 6 5,oN 7 (.sa (.func 105) [] [(.t 2),(.t 3)]),cB 8 104 6 7,mV 4 8] .ret)),[(.t 4)]⟩
theorem Pd:Cm 69 c69:=⟨by kernel_rfl,by kernel_rfl⟩
def c70:au:=⟨3,55,(af [bX 4 1,oN 6 (.dm (.c (.str []))),mI 7 0] (af [oN 8 (.xR 167 [(.v (.pointer none)),nS])] (Sq (af [fA 14 1 4,lD 15 14,mV 9 15] (.block 0 (.loop (Sq (af [mV 16 9,bI 17 .neq 16 0] (Cd 17 .skip (.exit 0))) (.block 1 (Sq (af [mV 18 2,mV 19 9,oN 20 (.kH (.t 18) [(.t 19)]),mV 10 20] (af [mV 21 10,bI 22 .neq 21 0] (Cd 22 (af [mV 23 10,oN 6 (.dm (.c (.str []))),mV 7 23] .ret) .skip))) (af [mV 25 0,mV 26 9,cB 27 106 25 26,mV 24 27,xT 28 24 0,xT 29 24 1,xT 30 24 2,mV 11 28,mV 12 29,mV 13 30] (Sq (af [mV 31 13,bI 32 .neq 31 0] (Cd 32 (af [mV 33 13,oN 6 (.dm (.c (.str []))),mV 7 33] .ret) .skip)) (af [mV 34 11,cB 35 107 8 34] (Sq (Sq (.draw [[],[0],[1,0],[2,1,0],[3,2,1,0],[4,3,2,1,0],[2,1,0,5,4,3],[6,2,1,0,5,4,3],[7,6,2,1,0,5,4,3],[7,6,2,1,0,5,4,3],[9,7,6,2,1,0,5,4,3],[8,7,6,2,1,0,5,4,3,10,9],[7,6,2,1,0,5,4,3,11,8,10,9]] [mV 36 12,bI 37 .neq 36 0,mV 38 37,ji 39 11 38,⟨(some 40),(.gA (.t 39)),(some (38,true))⟩,uv 41 .neq 40 488 38,pF 42 38 41,mV 43 42,Dq 44 108 8 43,xh 45 2 4 43,ti 46 45 43,J4 47 .gtr 44 46 43,pT 48 43 47]) (Cd 48 (af [oN 6 (.dm (.c (.str []))),mI 7 10] .ret) .skip)) (Rg [mV 49 12,mV 9 49]))))))))))) (Sq (Sq (.draw [[],[],[1],[0,2,1]] [cA 50 108 8,fA 51 2 4,lD 52 51,bB 53 .neq 50 52]) (Cd 53 (af [oN 6 (.dm (.c (.str []))),mI 7 10] .ret) .skip)) (af [cA 54 109 8,mV 6 54,mI 7 0] .ret))))),[(.t 6),(.t 7)]⟩
theorem XC:vQ Tryz.prog [(1,0)] 70=some c70:=by kernel_rfl
theorem XN:gk Tryz.prog 70=true:=by kernel_rfl
def c71:au:=⟨1,3,(af [mI 2 0] (af [mI 2 0] .ret)),[(.t 2)]⟩
theorem Pc:Cm 71 c71:=⟨by kernel_rfl,by kernel_rfl⟩
def c72:au:=⟨3,69,(af [mI 6 0] (Sq (af [mV 13 0,nC 14 13,fA 15 1 14,lD 16 15,bI 17 .eql 16 0] (Cd 17 (af [mV 19 2,oN 20 (.build [(.v (.bool false)),nS,nS,nS] [(0,(1,(.c (.v (.bool true)))))]),oN 21 (.kH (.t 19) [(.t 20)]),mV 18 21,xT 22 18 0,xT 23 18 1,oN 7 (.alloc [(.v (.bool false)),nS,nS,nS]),sO 4 7 22,mV 8 23] (Sq (af [mV 24 8,bI 25 .neq 24 0] (Cd 25 (af [mV 26 8,mV 6 26] .ret) .skip)) (af [mV 28 0,lN 29 4 7,oN 30 (.bp false 4 [[(.v (.bool false)),nS,nS,nS]] [(0,(.t 29))]),oN 31 (.build [nS,(.str [])] [(0,(1,(.t 30)))]),cB 32 110 28 31,mV 27 32,xT 33 27 0,xT 34 27 1,mV 9 33,mV 8 34] (Sq (af [mV 35 8,bI 36 .eql 35 0] (Cd 36 (Rg [mV 37 0,mV 38 9,nC 39 37,fA 40 1 39,sO 1 40 38]) .skip)) (af [mV 41 8,mV 6 41] .ret))))) .skip)) (af [mV 43 0,mV 44 0,nC 45 44,fA 46 1 45,lD 47 46,mV 48 1,mV 49 2,oN 50 (.call 111 [(.t 43),(.t 47),(.c (.v (.int .i64 1))),(.t 48),(.t 49)]),mV 42 50,xT 51 42 0,xT 52 42 1,oN 10 (.alloc [nS,(.str [])]),sO 2 10 51,mV 11 52] (Sq (af [mV 53 11,bI 54 .neq 53 0] (Cd 54 (af [mV 55 11,mV 6 55] .ret) .skip)) (af [mV 57 0,lN 58 2 10,cB 59 110 57 58,mV 56 59,xT 60 56 0,xT 61 56 1,mV 12 60,mV 11 61] (Sq (af [mV 62 11,bI 63 .eql 62 0] (Cd 63 (Rg [mV 64 0,mV 65 12,nC 66 64,fA 67 1 66,sO 1 67 65]) .skip)) (af [mV 68 11,mV 6 68] .ret))))))),[(.t 6)]⟩
theorem Pb:Cm 72 c72:=⟨by kernel_rfl,by kernel_rfl⟩
def c73:au:=⟨2,55,(af [mI 4 0] (Sq (af [mV 6 0,cA 7 54 6,mV 5 7] (af [mV 8 5,bI 9 .neq 8 0] (Cd 9 (af [mV 10 5,mV 4 10] .ret) .skip))) (Sq (.block 0 (af [mV 12 0,mV 13 1,cB 14 93 12 13,mV 15 14,ji 16 0 15,QM 17 16 15,rN 18 3 17 15,mb 19 18 15,ji 20 1 15,TG 21 2 19 20 15,rN 22 0 21 15,mb 23 22 15,uv 24 .eql 23 2 15,pF 25 15 24,mV 11 25] (Cd 11 (Rg [mV 26 0,nC 27 26,fA 28 3 27,lD 29 28,mV 30 1,oN 31 (.build [(.v (.int .i64 0)),(.v (.int .i64 0))] []),iA 32 2 29 30,sO 2 32 31]) (af [mV 34 0,mV 35 1,cB 36 93 34 35,mV 37 36,ji 38 0 37,QM 39 38 37,rN 40 3 39 37,mb 41 40 37,ji 42 1 37,TG 43 2 41 42 37,rN 44 0 43 37,mb 45 44 37,uv 46 .eql 45 1 37,pF 47 37 46,mV 33 47] (Cd 33 (Rg [mV 48 0,nC 49 48,fA 50 3 49,lD 51 50,mV 52 1,iA 53 2 51 52,fA 54 0 53,⟨none,(.store 1 (.t 54) (.c (.v (.int .i64 3)))),none⟩]) (af [mI 4 3] .ret)))))) (af [mI 4 0] .ret)))),[(.t 4)]⟩
theorem Pa:Cm 73 c73:=⟨by kernel_rfl,by kernel_rfl⟩
def c74:au:=⟨3,35,(af [bX 3 0,oN 6 (.alloc [(.v (.bool false)),nS,nS,nS])] (Sq (.draw [[],[0],[],[2],[],[],[3,2,4,5],[6,3,2,4,5],[1,0,7,6,3,2,4,5],[],[9,8,1,0,7,6,3,2,4,5]] [fA 8 0 3,lD 9 8,fA 10 1 3,lD 11 10,mV 12 1,mV 13 2,oN 14 (.slice 1 (.t 11) (some (.t 12)) (some (.t 13)) none),cA 15 112 14,oN 16 (.build [(.v (.bool false)),nS,nS,nS] [(0,(1,(.t 9))),(1,(1,(.t 15)))]),oN 7 (.alloc [(.v (.bool false)),nS,nS,nS]),sO 4 7 16]) (Sq (af [fA 17 0 3,lD 18 17] (Cd 18 (Rg [fA 19 2 3,lD 20 19,mV 21 1,mV 22 2,oN 23 (.slice 3 (.t 20) (some (.t 21)) (some (.t 22)) none),cA 24 113 23,fA 25 2 7,sO 1 25 24]) (Rg [fA 26 3 3,lD 27 26,mV 28 1,mV 29 2,bI 30 .add 29 1,oN 31 (.slice 1 (.t 27) (some (.t 28)) (some (.t 30)) none),cA 32 114 31,fA 33 3 7,sO 1 33 32]))) (af [lN 34 4 7,sO 4 6 34] .ret)))),[(.cell 6 (some 4))]⟩
theorem O9:Cm 74 c74:=⟨by kernel_rfl,by kernel_rfl⟩
def c79:au:=⟨2,14,(af [mI 3 0] (Sq (.draw [[],[],[1],[2,1],[3,2,1],[],[5],[4,3,2,1,6,5],[0,1,2,3,4,5,6,7],[8,0,1,2,3,4,5,6,7],[9,8,0,1,2,3,4,5,6,7]] [lD 4 1,lD 5 1,nC 6 5,fA 7 3 6,lD 8 7,mV 9 0,oN 10 (.bp false 1 [[(.v (.int .i64 0))]] [(0,(.t 9))]),aP 11 1 8 8 10,nC 12 4,fA 13 3 12,sO 1 13 11]) (af [mI 3 0] .ret))),[(.t 3)]⟩
theorem O8:Cm 79 c79:=⟨by kernel_rfl,by kernel_rfl⟩
def c80:au:=⟨4,109,(af [bX 7 3,mI 8 0] (Sq (af [mV 18 2,bI 19 .gtr 18 12] (Cd 19 (af [mI 8 10] .ret) .skip)) (Sq (af [mV 20 0,mV 21 1,cB 22 119 20 21,mV 9 22] (af [mV 23 9,bI 24 .neq 23 0] (Cd 24 (af [mV 25 9,mV 8 25] .ret) .skip))) (af [mV 27 0,nC 28 27,fA 29 0 28,lD 30 29,mV 31 1,cB 32 36 30 31,mV 26 32,xT 33 26 0,xT 34 26 1,oN 10 (.alloc [(.v (.bool false)),nS,nS,nS]),sO 4 10 33,mV 11 34] (Sq (af [mV 35 11,bI 36 .neq 35 0] (Cd 36 (af [mV 37 11,mV 8 37] .ret) .skip)) (Sq (af [mV 38 2,bI 39 .gtr 38 1,mV 40 39,lNT 41 4 10 40,cAT 42 120 41 40,uv 43 .lss 42 123 40,pF 44 40 43,mV 45 44,xh 46 1 10 45,ti 47 46 45,Tx 48 47 45,tt 49 .eql 48 0 45,pT 50 45 49] (Cd 50 (af [mI 8 10] .ret) .skip)) (Sq (af [fA 51 1 10,lD 52 51,lE 53 52,mI 54 0] (.block 0 (.loop (af [bB 55 .lss 54 53] (Sq (Cd 55 .skip (.exit 0)) (Sq (.block 1 (af [iA 56 1 52 54,lD 57 56,mV 13 57] (af [lN 58 3 7,mV 59 13,cB 60 121 58 59,oN 61 (.un .not (.t 60))] (Cd 61 (af [mI 8 10] .ret) .skip)))) (Rg [bI 62 .add 54 1,mV 54 62]))))))) (Sq (af [fA 63 0 10,lD 64 63] (Cd 64 (af [mV 65 0,lN 66 4 10,mV 67 2,cD 68 122 65 66 67,mV 8 68] .ret) .skip)) (Sq (af [fA 69 3 10,lD 70 69,lE 71 70,mI 72 0] (.block 2 (.loop (af [bB 73 .lss 72 71] (Sq (Cd 73 .skip (.exit 2)) (Sq (.block 3 (af [mV 74 72,iA 75 1 70 72,lD 76 75,mV 14 74,mV 15 76] (af [lN 77 3 7,oN 16 (.alloc [(.str []),(.str []),(.v (.bool false))]),sO 3 16 77] (Sq (af [mV 78 14,bI 79 .gtr 78 0] (Cd 79 (Rg [fA 80 1 10,lD 81 80,mV 82 14,bI 83 .sub 82 1,iA 84 1 81 83,lD 85 84,fA 86 0 16,sO 1 86 85]) .skip)) (Sq (af [mV 87 14,fA 88 1 10,lD 89 88,lE 90 89,bB 91 .lss 87 90] (Cd 91 (Rg [fA 92 1 10,lD 93 92,mV 94 14,iA 95 1 93 94,lD 96 95,fA 97 1 16,sO 1 97 96,fA 98 2 16,⟨none,(.store 1 (.t 98) (.c (.v (.bool true)))),none⟩]) .skip)) (af [mV 99 0,mV 100 15,mV 101 2,bI 102 .add 101 1,lN 103 3 16,oN 104 (.call 80 [(.t 99),(.t 100),(.t 102),(.t 103)]),mV 17 104] (af [mV 105 17,bI 106 .neq 105 0] (Cd 106 (af [mV 107 17,mV 8 107] .ret) .skip)))))))) (Rg [bI 108 .add 72 1,mV 72 108]))))))) (af [mI 8 0] .ret)))))))))),[(.t 8)]⟩
theorem O7:Cm 80 c80:=⟨by kernel_rfl,by kernel_rfl⟩
def c81:au:=⟨3,34,(af [mI 6 0,mI 7 0] (af [mV 11 0,nC 12 11,fA 13 0 12,lD 14 13,mV 15 1,mV 16 2,cD 17 123 14 15 16,mV 10 17,xT 18 10 0,xT 19 10 1,mV 8 18,mV 9 19] (Sq (af [mV 20 9,bI 21 .eql 20 0] (Cd 21 (Rg [mV 22 0,mV 23 0,nC 24 23,fA 25 2 24,lD 26 25,mV 27 8,oN 28 (.bp false 1 [[(.v (.int .i64 0))]] [(0,(.t 27))]),aP 29 1 8 26 28,nC 30 22,fA 31 2 30,sO 1 31 29]) .skip)) (af [mV 32 8,mV 33 9,mV 6 32,mV 7 33] .ret)))),[(.t 6),(.t 7)]⟩
theorem O6:Cm 81 c81:=⟨by kernel_rfl,by kernel_rfl⟩
def c82:au:=⟨1,26,(af [oN 2 (.dm (.c (.v (.pointer none)))),mI 3 0] (Sq (af [mV 6 0,bI 7 .lss 6 1,mV 8 7,gD 9 0 8,tt 10 .gtr 9 4096 8,pT 11 8 10] (Cd 11 (af [oN 2 (.dm (.c (.v (.pointer none)))),mI 3 2] .ret) .skip)) (af [mV 12 0,oN 13 (.kM 1 24 [nS] (.t 12) (.t 12)),oN 4 (.alloc [nS]),sO 1 4 13] (Sq (af [lD 14 4,lE 15 14,mI 16 0] (.block 0 (.loop (af [bB 17 .lss 16 15] (Sq (Cd 17 .skip (.exit 0)) (Sq (.block 1 (af [mV 18 16,mV 5 18] (.draw [[],[],[],[0,1,2],[3,0,1,2]] [lD 19 4,mV 20 5,oN 21 (.kM 1 1 [(.v (.int .u8 0))] (.c (.v (.int .i64 512))) (.c (.v (.int .i64 512)))),iA 22 1 19 20,sO 1 22 21]))) (Rg [bI 23 .add 16 1,mV 16 23]))))))) (af [oN 24 (.build [(.v (.pointer none)),nS,(.v (.int .i64 0)),(.v (.int .i64 0)),(.v (.bool false))] [(0,(1,(.t 4))),(3,(1,(.c (.v (.int .i64 (-1))))))]),bX 25 24,mV 2 25,mI 3 0] .ret))))),[(.t 2),(.t 3)]⟩
theorem O5:Cm 82 c82:=⟨by kernel_rfl,by kernel_rfl⟩
def c83:au:=⟨1,39,(af [bX 1 0,mI 2 0] (Sq (af [lD 10 1,cA 11 62 10,mV 3 11] (af [mV 12 3,bI 13 .neq 12 0] (Cd 13 (af [mV 14 3,mV 2 14] .ret) .skip))) (af [oN 15 (.kM 1 1 [(.v (.int .u8 0))] (.c (.v (.int .i64 512))) (.c (.v (.int .i64 512)))),oN 4 (.alloc [nS]),sO 1 4 15] (af [oN 17 (.call 55 [(.c (.v (.int .i64 1))),(.c (.str []))]),mV 16 17,xT 18 16 0,xT 19 16 1,oN 5 (.alloc [nS]),sO 1 5 18,mV 6 19] (Sq (af [oN 20 (.sa (.func 124) [] [(.t 1),(.t 4)]),oN 21 (.sa (.func 125) [] [(.t 1),(.t 4)]),lD 22 1,oN 23 (.sa (.func 57) [(.t 22)] []),oN 24 (.sa (.func 126) [] [(.t 1),(.t 5)]),lD 25 1,oN 26 (.sa (.func 57) [(.t 25)] []),oN 27 (.bp false 1 [[(.v .nilFunc)],[(.v .nilFunc)],[(.v .nilFunc)],[(.v .nilFunc)],[(.v .nilFunc)]] [(0,(.t 20)),(1,(.t 21)),(2,(.t 23)),(3,(.t 24)),(4,(.t 26))]),lE 28 27,mI 29 0] (.block 0 (.loop (af [bB 30 .lss 29 28] (Sq (Cd 30 .skip (.exit 0)) (Sq (.block 1 (af [iA 31 1 27 29,lD 32 31,mV 8 32] (af [mV 33 8,oN 34 (.kH (.t 33) []),mV 9 34] (af [mV 35 9,bI 36 .neq 35 0] (Cd 36 (af [mV 37 9,mV 2 37] .ret) .skip))))) (Rg [bI 38 .add 29 1,mV 29 38]))))))) (af [mI 2 0] .ret)))))),[(.t 2)]⟩
theorem O4:Cm 83 c83:=⟨by kernel_rfl,by kernel_rfl⟩
def c84:au:=⟨3,65,(af [oN 6 (.dm (.c nS)),mI 7 0] (Sq (af [mV 11 1,oN 12 (.gA (.t 11)),bI 13 .gtr 12 60] (Cd 13 (af [mV 14 0,mV 6 14,mI 7 2] .ret) .skip)) (Sq (af [mV 15 2,oN 16 (.gA (.t 15)),bI 17 .gtr 16 60000] (Cd 17 (af [mV 18 0,mV 6 18,mI 7 4] .ret) .skip)) (af [oN 8 (.dm (.c nS))] (af [mB 9 false] (Sq (af [mI 10 0] (.block 0 (.loop (Sq (af [mV 19 10,mV 20 0,lE 21 20,bB 22 .lss 19 21] (Cd 22 .skip (.exit 0))) (Sq (.block 1 (Sq (af [mV 25 9,oN 26 (.un .not (.t 25)),mV 27 26,ji 28 0 27,ji 29 10 27,TG 30 2 28 29 27,rN 31 0 30 27,mb 32 31 27,ji 33 1 27,DR 34 .geq 32 33 27,pF 35 27 34] (Cd 35 (af [mV 36 8,mV 37 1,mV 38 2,oN 39 (.build [(.str []),(.str [])] [(0,(1,(.t 37))),(1,(1,(.t 38)))]),oN 40 (.bp false 2 [[(.str []),(.str [])]] [(0,(.t 39))]),aP 41 2 32 36 40,mV 8 41] (Rg [mB 9 true])) .skip)) (af [mV 42 0,mV 43 10,iA 44 2 42 43,fA 45 0 44,lD 46 45,mV 47 1,bB 48 .neq 46 47] (Cd 48 (Rg [mV 49 8,mV 50 0,mV 51 10,iA 52 2 50 51,lN 53 2 52,oN 54 (.bp false 2 [[(.str []),(.str [])]] [(0,(.t 53))]),aP 55 2 32 49 54,mV 8 55]) .skip)))) (Rg [mV 23 10,bI 24 .add 23 1,mV 10 24])))))) (Sq (af [mV 56 9,oN 57 (.un .not (.t 56))] (Cd 57 (Rg [mV 58 8,mV 59 1,mV 60 2,oN 61 (.build [(.str []),(.str [])] [(0,(1,(.t 59))),(1,(1,(.t 60)))]),oN 62 (.bp false 2 [[(.str []),(.str [])]] [(0,(.t 61))]),aP 63 2 32 58 62,mV 8 63]) .skip)) (af [mV 64 8,mV 6 64,mI 7 0] .ret)))))))),[(.t 6),(.t 7)]⟩
theorem O3:Cm 84 c84:=⟨by kernel_rfl,by kernel_rfl⟩
def c85:au:=⟨0,5,(af [oN 0 (.dm (.c (.v (.pointer none))))] (af [oN 1 (.kM 1 1 [(.v (.int .u8 0))] (.c (.v (.int .i64 512))) (.c (.v (.int .i64 512)))),oN 2 (.build [nS,(.v (.int .i64 0))] [(0,(1,(.t 1)))]),oN 3 (.build [nS,(.v (.int .i64 0))] [(0,(2,(.t 2)))]),bX 4 3,mV 0 4] .ret)),[(.t 0)]⟩
theorem O2:Cm 85 c85:=⟨by kernel_rfl,by kernel_rfl⟩
def c86:au:=⟨3,34,(af [mV 7 2,bI 8 .sub 7 1,mV 6 8] (.block 0 (.loop (Sq (af [mV 9 6,bI 10 .geq 9 0] (Cd 10 .skip (.exit 0))) (Sq (.block 1 (Sq (.draw [[],[0],[1,0],[2,1,0],[],[4],[5,4],[6,5,4],[],[],[9],[8,10,9],[11,8,10,9],[3,2,1,0,7,6,5,4,8,9,10,11,12],[13,3,2,1,0,7,6,5,4,8,9,10,11,12]] [mV 13 0,nC 14 13,fA 15 0 14,lD 16 15,mV 17 0,nC 18 17,fA 19 1 18,lD 20 19,mV 21 1,mV 22 6,oN 23 (.bin .mul (.c (.v (.int .i64 8))) (.t 22)),bB 24 .shr 21 23,oN 25 (.conv .u8 (.t 24)),iA 26 1 16 20,sO 1 26 25]) (Rg [mV 27 0,nC 28 27,fA 29 1 28,lD 30 29,bI 31 .add 30 1,nC 32 27,fA 33 1 32,sO 1 33 31]))) (Rg [mV 11 6,bI 12 .sub 11 1,mV 6 12])))))),[]⟩
theorem O1:Cm 86 c86:=⟨by kernel_rfl,by kernel_rfl⟩
def c87:au:=⟨2,22,(.draw [[],[0],[1,0],[2,1,0],[],[4],[5,4],[6,5,4],[],[8],[9,8],[10,9,8],[7,6,5,4,11,10,9,8],[],[12,7,6,5,4,11,10,9,8,13],[3,2,1,0,14,12,7,6,5,4,11,10,9,8,13],[0,1,2,3,4,5,6,7,8,9,10,11,12,13,14,15],[16,0,1,2,3,4,5,6,7,8,9,10,11,12,13,14,15],[17,16,0,1,2,3,4,5,6,7,8,9,10,11,12,13,14,15]] [mV 4 0,nC 5 4,fA 6 1 5,lD 7 6,mV 8 0,nC 9 8,fA 10 0 9,lD 11 10,mV 12 0,nC 13 12,fA 14 1 13,lD 15 14,oN 16 (.slice 1 (.t 11) (some (.t 15)) none none),mV 17 1,oN 18 (.copy 1 (.t 16) (.t 17)),bB 19 .add 7 18,nC 20 4,fA 21 1 20,sO 1 21 19]),[]⟩
theorem O0:Cm 87 c87:=⟨by kernel_rfl,by kernel_rfl⟩
def c88:au:=⟨3,14,(Rg [mV 6 0,nC 7 6,lD 8 7,mV 9 1,iA 10 1 8 9,lD 11 10,mV 12 2,oN 13 (.copy 1 (.t 11) (.t 12))]),[]⟩
theorem OZ:Cm 88 c88:=⟨by kernel_rfl,by kernel_rfl⟩
def c89:au:=⟨1,18,(af [mI 2 0] (af [mI 3 9223372036854775807] (Sq (af [mV 5 0,nC 6 5,fA 7 4 6,lD 8 7,oN 9 (.sP (.t 8))] (.block 0 (.loop (af [oN 10 (.tJ (.t 9)),xT 11 10 0] (Sq (Cd 11 .skip (.exit 0)) (.block 1 (af [oN 12 (.yx (.t 9)),xT 13 12 0,mV 4 13] (Rg [mV 14 3,mV 15 4,oN 16 (.min (.t 14) (.t 15)),mV 3 16])))))))) (af [mV 17 3,mV 2 17] .ret)))),[(.t 2)]⟩
theorem OY:Cm 89 c89:=⟨by kernel_rfl,by kernel_rfl⟩
def c90:au:=⟨1,9,(af [mI 2 0] (Sq (af [mV 3 0,oN 4 (.z8 .eql (.t 3) (.c (.v (.pointer none))))] (Cd 4 (af [mI 2 0] .ret) .skip)) (af [mV 5 0,nC 6 5,lD 7 6,lE 8 7,mV 2 8] .ret))),[(.t 2)]⟩
theorem OX:Cm 90 c90:=⟨by kernel_rfl,by kernel_rfl⟩
def c91:au:=⟨2,32,(af [mI 4 0] (af [mI 5 0] (Sq (af [mV 6 1,mI 7 0] (.block 0 (.loop (af [bB 8 .lss 7 6] (Sq (Cd 8 .skip (.exit 0)) (Sq (.block 1 (Sq (.draw [[],[0],[],[2],[3,2],[4,3,2],[],[6],[7,6],[8,7,6],[5,4,3,2,9,8,7,6],[10,5,4,3,2,9,8,7,6],[11,10,5,4,3,2,9,8,7,6],[1,0,12,11,10,5,4,3,2,9,8,7,6],[13,1,0,12,11,10,5,4,3,2,9,8,7,6]] [mV 9 5,oN 10 (.bin .shl (.t 9) (.c (.v (.int .u64 8)))),mV 11 0,nC 12 11,fA 13 0 12,lD 14 13,mV 15 0,nC 16 15,fA 17 1 16,lD 18 17,iA 19 1 14 18,lD 20 19,oN 21 (.conv .i64 (.t 20)),bB 22 .or 10 21,mV 5 22]) (Rg [mV 23 0,nC 24 23,fA 25 1 24,lD 26 25,bI 27 .add 26 1,nC 28 23,fA 29 1 28,sO 1 29 27]))) (Rg [bI 30 .add 7 1,mV 7 30]))))))) (af [mV 31 5,mV 4 31] .ret)))),[(.t 4)]⟩
theorem OW:Cm 91 c91:=⟨by kernel_rfl,by kernel_rfl⟩
def c92:au:=⟨2,10,(af [mB 4 false] (af [mV 5 0,oN 6 (.Mk (.t 5)),mV 7 1,oN 8 (.Mk (.t 7)),bB 9 .eql 6 8,mV 4 9] .ret)),[(.t 4)]⟩
theorem OV:Cm 92 c92:=⟨by kernel_rfl,by kernel_rfl⟩
def c93:au:=⟨2,16,(af [mB 4 false] (af [mV 5 1,bI 6 .geq 5 2,mV 7 6,ji 8 1 7,ji 9 0 7,QM 10 9 7,rN 11 3 10 7,mb 12 11 7,QN 13 12 7,DR 14 .lss 8 13 7,pF 15 7 14,mV 4 15] .ret)),[(.t 4)]⟩
theorem OU:Cm 93 c93:=⟨by kernel_rfl,by kernel_rfl⟩
def c94:au:=⟨1,61,(af [mI 2 0,mI 3 0,oN 4 (.dm (.c (.str []))),mI 5 0] (Sq (af [mV 13 0,lE 14 13,bI 15 .neq 14 512] (Cd 15 (af [mI 2 0,mI 3 0,oN 4 (.dm (.c (.str []))),mI 5 11] .ret) .skip)) (af [mV 16 0,oN 17 (.build [nS,(.v (.int .i64 0))] [(0,(1,(.t 16))),(1,(1,(.c (.v (.int .i64 2)))))]),oN 18 (.build [nS,(.v (.int .i64 0))] [(0,(2,(.t 17)))]),bX 19 18,mV 6 19] (af [mV 20 6,nC 21 20,fA 22 0 21,oN 23 (.call 91 [(.t 22),(.c (.v (.int .i64 1)))]),mV 7 23] (af [mV 24 6,nC 25 24,fA 26 0 25,oN 27 (.call 91 [(.t 26),(.c (.v (.int .i64 1)))])] (Sq (.draw [[],[0],[1,0],[2,1,0],[],[4],[5,4],[6,5,4,3,2,1,0],[3,2,1,0,7,6,5,4],[7,6,5,4,3,2,1,0,8]] [mV 28 6,nC 29 28,fA 30 0 29,oN 31 (.call 91 [(.t 30),(.c (.v (.int .i64 2)))]),mV 32 6,nC 33 32,fA 34 0 33,oN 35 (.call 91 [(.t 34),(.c (.v (.int .i64 6)))]),mV 8 31,mV 9 35]) (Sq (af [mV 36 8,bI 37 .gtr 36 492] (Cd 37 (af [mI 2 0,mI 3 0,oN 4 (.dm (.c (.str []))),mI 5 11] .ret) .skip)) (af [mV 38 0,mV 39 8,oN 40 (.bin .add (.c (.v (.int .i64 20))) (.t 39)),oN 41 (.slice 1 (.t 38) (some (.c (.v (.int .i64 20)))) (some (.t 40)) none),oN 42 (.Mk (.t 41)),mV 10 42] (af [mV 44 7,mV 45 9,mV 46 10,cD 47 127 44 45 46,mV 43 47,xT 48 43 0,xT 49 43 1,mV 11 48,mV 12 49] (Sq (af [mV 50 12,bI 51 .neq 50 0,mV 52 51,gD 53 11 52,gD 54 0 52,cBF 55 92 53 54 52,⟨(some 56),(.un .not (.t 55)),(some (52,false))⟩,pT 57 52 56] (Cd 57 (af [mI 2 0,mI 3 0,oN 4 (.dm (.c (.str []))),mI 5 11] .ret) .skip)) (af [mV 58 7,mV 59 9,mV 60 10,mV 2 58,mV 3 59,mV 4 60,mI 5 0] .ret))))))))))),[(.t 2),(.t 3),(.t 4),(.t 5)]⟩
theorem OT:Cm 94 c94:=⟨by kernel_rfl,by kernel_rfl⟩
def c95:au:=⟨2,24,(af [mI 4 0] (af [mI 5 0] (Sq (af [mV 8 0,mV 9 1,cB 10 96 8 9,oN 11 (.ZY (.t 10)),lE 12 11,mI 13 0] (.block 0 (.loop (af [bB 14 .lss 13 12] (Sq (Cd 14 .skip (.exit 0)) (Sq (.block 1 (af [iA 15 1 11 13,lD 16 15,mV 7 16] (Rg [mV 17 5,oN 18 (.bin .shl (.t 17) (.c (.v (.int .u64 8)))),mV 19 7,oN 20 (.conv .i64 (.t 19)),bB 21 .or 18 20,mV 5 21]))) (Rg [bI 22 .add 13 1,mV 13 22]))))))) (af [mV 23 5,mV 4 23] .ret)))),[(.t 4)]⟩
theorem OS:Cm 95 c95:=⟨by kernel_rfl,by kernel_rfl⟩
def c96:au:=⟨2,32,(af [oN 4 (.dm (.c (.str [])))] (Sq (af [mV 6 1,mV 7 0,nC 8 7,fA 9 0 8,lD 10 9,oN 11 (.gA (.t 10)),bB 12 .gtr 6 11] (Cd 12 (af [mV 13 0,nC 14 13,fA 15 1 14,⟨none,(.store 1 (.t 15) (.c (.v (.bool true)))),none⟩] (af [oN 4 (.dm (.c (.str [])))] .ret)) .skip)) (af [mV 16 0,nC 17 16,fA 18 0 17,lD 19 18,mV 20 1,oN 21 (.nB (.t 19) none (some (.t 20))),mV 5 21] (af [mV 22 0,mV 23 0,nC 24 23,fA 25 0 24,lD 26 25,mV 27 1,oN 28 (.nB (.t 26) (some (.t 27)) none),nC 29 22,fA 30 0 29,sO 1 30 28] (af [mV 31 5,mV 4 31] .ret))))),[(.t 4)]⟩
theorem OR:Cm 96 c96:=⟨by kernel_rfl,by kernel_rfl⟩
def c97:au:=⟨1,31,(af [oN 2 (.alloc [(.str []),(.v (.int .i64 0)),(.v (.int .i64 0))])] (af [mV 5 0,oN 6 (.call 95 [(.t 5),(.c (.v (.int .i64 1)))]),mV 3 6] (Sq (af [mV 7 3,bI 8 .eql 7 255] (Cd 8 (af [mV 9 0,oN 10 (.call 95 [(.t 9),(.c (.v (.int .i64 4)))]),mV 11 0,oN 12 (.call 95 [(.t 11),(.c (.v (.int .i64 4)))]),oN 13 (.build [(.str []),(.v (.int .i64 0)),(.v (.int .i64 0))] [(1,(1,(.t 10))),(2,(1,(.t 12)))]),oN 4 (.alloc [(.str []),(.v (.int .i64 0)),(.v (.int .i64 0))]),sO 3 4 13] (af [mV 14 0,mV 15 0,nC 16 15,fA 17 1 16,lD 18 17,mV 19 18,xh 20 1 4 19,ti 21 20 19,tt 22 .eql 21 0 19,pT 23 19 22,nC 24 14,fA 25 1 24,sO 1 25 23] (af [lN 26 3 4,sO 3 2 26] .ret))) .skip)) (af [mV 27 0,mV 28 3,cB 29 96 27 28,oN 30 (.build [(.str []),(.v (.int .i64 0)),(.v (.int .i64 0))] [(0,(1,(.t 29)))]),sO 3 2 30] .ret)))),[(.cell 2 (some 3))]⟩
theorem OQ:Cm 97 c97:=⟨by kernel_rfl,by kernel_rfl⟩
def c98:au:=⟨2,9,(af [mB 4 false] (af [mV 5 0,mV 6 1,cB 7 128 5 6,bI 8 .geq 7 0,mV 4 8] .ret)),[(.t 4)]⟩
theorem OP:Cm 98 c98:=⟨by kernel_rfl,by kernel_rfl⟩
def c99:au:=⟨1,6,(af [bX 1 0,mB 2 false] (af [lN 3 3 1,cA 4 100 3,oN 5 (.un .not (.t 4)),mV 2 5] .ret)),[(.t 2)]⟩
theorem OO:Cm 99 c99:=⟨by kernel_rfl,by kernel_rfl⟩
def c100:au:=⟨1,33,(af [bX 1 0,mB 2 false] (Sq (af [fA 3 1 1,lD 4 3,bI 5 .eql 4 0] (Cd 5 (af [fA 6 2 1,lD 7 6,bI 8 .eql 7 0,mV 9 8,rN 10 0 1 9,mb 11 10 9,⟨(some 12),(.gA (.t 11)),(some (9,true))⟩,uv 13 .leq 12 60 9,pF 14 9 13,mV 2 14] .ret) .skip)) (af [fA 15 1 1,lD 16 15,cA 17 103 16,mV 18 17,rN 19 0 1 18,mb 20 19 18,⟨(some 21),(.bin .eql (.t 20) (.c (.str []))),(some (18,true))⟩,pF 22 18 21,mV 23 22,rN 24 2 1 23,mb 25 24 23,uv 26 .gtr 25 60 23,pF 27 23 26,mV 28 27,rN 29 2 1 28,mb 30 29 28,uv 31 .leq 30 60000 28,pF 32 28 31,mV 2 32] .ret))),[(.t 2)]⟩
theorem JU:Cm 100 c100:=⟨by kernel_rfl,by kernel_rfl⟩
def c101:au:=⟨2,9,(af [mB 4 false] (af [mV 5 0,mV 6 1,cB 7 129 5 6,bI 8 .geq 7 0,mV 4 8] .ret)),[(.t 4)]⟩
theorem JT:Cm 101 c101:=⟨by kernel_rfl,by kernel_rfl⟩
def c102:au:=⟨1,6,(af [mB 2 false] (af [mV 3 0,cA 4 103 3,oN 5 (.un .not (.t 4)),mV 2 5] .ret)),[(.t 2)]⟩
theorem JS:Cm 102 c102:=⟨by kernel_rfl,by kernel_rfl⟩
def c103:au:=⟨1,9,(af [mB 2 false] (af [mV 3 0,bI 4 .geq 3 2,mV 5 4,ji 6 0 5,uv 7 .lss 6 4096 5,pF 8 5 7,mV 2 8] .ret)),[(.t 2)]⟩
theorem JR:Cm 103 c103:=⟨by kernel_rfl,by kernel_rfl⟩
def c104:au:=⟨2,26,(af [mI 4 0] (af [mV 8 0,mI 5 0,mV 6 8] (Sq (.block 0 (.loop (Sq (af [mV 9 5,mV 10 6,bB 11 .lss 9 10] (Cd 11 .skip (.exit 0))) (.block 1 (af [mV 12 5,mV 13 6,bB 14 .add 12 13,oN 15 (.conv .u64 (.t 14)),oN 16 (.bin .shr (.t 15) (.c (.v (.int .u64 1)))),oN 17 (.conv .i64 (.t 16)),mV 7 17] (af [mV 18 1,mV 19 7,oN 20 (.kH (.t 18) [(.t 19)]),oN 21 (.un .not (.t 20))] (Cd 21 (Rg [mV 22 7,bI 23 .add 22 1,mV 5 23]) (Rg [mV 24 7,mV 6 24])))))))) (af [mV 25 5,mV 4 25] .ret)))),[(.t 4)]⟩
theorem JQ:Cm 104 c104:=⟨by kernel_rfl,by kernel_rfl⟩
def c105:au:=⟨3,11,(af [mB 4 false] (Sq (.draw [[],[],[0,1],[2,0,1],[],[3,2,0,1,4],[5,3,2,0,1,4]] [lD 5 1,mV 6 0,iA 7 1 5 6,lD 8 7,lD 9 2,bB 10 .geq 8 9,mV 4 10]) .ret)),[(.t 4)]⟩
theorem JP:Cm 105 c105:=⟨by kernel_rfl,by kernel_rfl⟩
def c106:au:=⟨2,53,(af [oN 4 (.dm (.c (.str []))),mI 5 0,mI 6 0] (af [mV 12 0,nC 13 12,fA 14 0 13,lD 15 14,mV 16 1,cB 17 65 15 16,mV 11 17,xT 18 11 0,xT 19 11 1,xT 20 11 2,mV 7 18,mV 8 19,mV 9 20] (Sq (af [mV 21 9,bI 22 .neq 21 0] (Cd 22 (af [mV 23 9,cA 24 66 23,oN 4 (.dm (.c (.str []))),mI 5 0,mV 6 24] .ret) .skip)) (Sq (af [mV 25 7,bI 26 .neq 25 3,mV 27 26,gD 28 8 27,⟨(some 29),(.gA (.t 28)),(some (27,false))⟩,tt 30 .lss 29 5 27,pT 31 27 30] (Cd 31 (af [oN 4 (.dm (.c (.str []))),mI 5 0,mI 6 10] .ret) .skip)) (Sq (.draw [[],[0],[1,0],[2,1,0],[],[4],[5,4],[6,5,4],[3,2,1,0,7,6,5,4],[],[9],[10,9],[11,10,9],[8,3,2,1,0,7,6,5,4,12,11,10,9],[],[14],[15,14],[13,8,3,2,1,0,7,6,5,4,12,11,10,9,16,15,14],[17,13,8,3,2,1,0,7,6,5,4,12,11,10,9,16,15,14]] [mV 32 8,oN 33 (.idx (.t 32) (.c (.v (.int .i64 0)))),oN 34 (.conv .i64 (.t 33)),oN 35 (.bin .shl (.t 34) (.c (.v (.int .u64 24)))),mV 36 8,oN 37 (.idx (.t 36) (.c (.v (.int .i64 1)))),oN 38 (.conv .i64 (.t 37)),oN 39 (.bin .shl (.t 38) (.c (.v (.int .u64 16)))),bB 40 .or 35 39,mV 41 8,oN 42 (.idx (.t 41) (.c (.v (.int .i64 2)))),oN 43 (.conv .i64 (.t 42)),oN 44 (.bin .shl (.t 43) (.c (.v (.int .u64 8)))),bB 45 .or 40 44,mV 46 8,oN 47 (.idx (.t 46) (.c (.v (.int .i64 3)))),oN 48 (.conv .i64 (.t 47)),bB 49 .or 45 48,mV 10 49]) (af [mV 50 8,oN 51 (.nB (.t 50) (some (.c (.v (.int .i64 4)))) none),mV 52 10,mV 4 51,mV 5 52,mI 6 0] .ret)))))),[(.t 4),(.t 5),(.t 6)]⟩
theorem JO:Cm 106 c106:=⟨by kernel_rfl,by kernel_rfl⟩
def c107:au:=⟨2,19,(af [mI 4 0,oN 5 (.dm (.c (.v .nilIface)))] (af [mV 6 0,cA 7 130 6] (af [mV 8 0,mV 9 0,nC 10 9,fA 11 1 10,lD 12 11,mV 13 1,oN 14 (.Ko 5 (.t 12) (.t 13)),nC 15 8,fA 16 1 15,sO 1 16 14] (af [mV 17 1,oN 18 (.gA (.t 17)),mV 4 18,oN 5 (.dm (.c (.v .nilIface)))] .ret)))),[(.t 4),(.t 5)]⟩
theorem SQ:vQ Tryz.prog [(2,6)] 107=some c107:=by kernel_rfl
theorem SZ:gk Tryz.prog 107=true:=by kernel_rfl
def c108:au:=⟨1,8,(af [mI 2 0] (af [mV 3 0,nC 4 3,fA 5 1 4,lD 6 5,lE 7 6,mV 2 7] .ret)),[(.t 2)]⟩
theorem JN:Cm 108 c108:=⟨by kernel_rfl,by kernel_rfl⟩
def c109:au:=⟨1,14,(af [oN 2 (.dm (.c (.str [])))] (Sq (.draw [[],[0],[1,0],[2,1,0],[3,2,1,0],[],[5],[6,5],[7,6,5],[8,7,6,5],[4,3,2,1,0,9,8,7,6,5],[10,4,3,2,1,0,9,8,7,6,5]] [mV 3 0,nC 4 3,fA 5 1 4,lD 6 5,oN 7 (.Ed (.t 6)),mV 8 0,nC 9 8,fA 10 1 9,lD 11 10,lE 12 11,oN 13 (.Mr 5 (.t 7) (.t 12)),mV 2 13]) .ret)),[(.t 2)]⟩
theorem JM:Cm 109 c109:=⟨by kernel_rfl,by kernel_rfl⟩
def c110:au:=⟨2,73,(af [bX 3 1,mI 4 0,mI 5 0] (Sq (af [fA 12 0 3,lD 13 12,lE 14 13,bI 15 .eql 14 1] (Cd 15 (af [fA 16 0 3,lD 17 16,oN 18 (.lO 4 (.t 17) (.c (.v (.int .i64 0)))),lN 19 4 18,oN 6 (.alloc [(.v (.bool false)),nS,nS,nS]),sO 4 6 19] (Sq (.block 0 (af [fA 21 0 6,lD 22 21,mV 23 22,rN 24 1 6 23,mb 25 24 23,QN 26 25 23,uv 27 .eql 26 0 23,pF 28 23 27,mV 20 28] (Cd 20 (af [mI 4 0,mI 5 0] .ret) (af [fA 30 3 6,lD 31 30,lE 32 31,bI 33 .eql 32 1,mV 29 33] (Cd 29 (af [fA 34 3 6,lD 35 34,oN 36 (.lO 1 (.t 35) (.c (.v (.int .i64 0)))),lD 37 36,mV 4 37,mI 5 0] .ret) .skip))))) (af [mV 38 0,lN 39 4 6,cB 40 131 38 39,xT 41 40 0,xT 42 40 1,mV 4 41,mV 5 42] .ret))) .skip)) (af [oN 7 (.dm (.c nS))] (Sq (af [fA 43 0 3,lD 44 43,lE 45 44,mI 46 0] (.block 1 (.loop (af [bB 47 .lss 46 45] (Sq (Cd 47 .skip (.exit 1)) (Sq (.block 2 (af [iA 48 4 44 46,lN 49 4 48,oN 9 (.alloc [(.v (.bool false)),nS,nS,nS]),sO 4 9 49] (af [mV 51 0,lN 52 4 9,cB 53 131 51 52,mV 50 53,xT 54 50 0,xT 55 50 1,mV 10 54,mV 11 55] (Sq (af [mV 56 11,bI 57 .neq 56 0] (Cd 57 (af [mV 58 11,mI 4 0,mV 5 58] .ret) .skip)) (Rg [mV 59 7,mV 60 10,oN 61 (.bp false 1 [[(.v (.int .i64 0))]] [(0,(.t 60))]),aP 62 1 8 59 61,mV 7 62]))))) (Rg [bI 63 .add 46 1,mV 46 63]))))))) (af [mV 64 0,fA 65 1 3,lD 66 65,oN 67 (.bp false 1 [[(.str [])]] [(0,(.t 66))]),mV 68 7,oN 69 (.build [(.v (.bool false)),nS,nS,nS] [(1,(1,(.t 67))),(3,(1,(.t 68)))]),cB 70 131 64 69,xT 71 70 0,xT 72 70 1,mV 4 71,mV 5 72] .ret))))),[(.t 4),(.t 5)]⟩
theorem JL:Cm 110 c110:=⟨by kernel_rfl,by kernel_rfl⟩
def c111:au:=⟨5,109,(af [oN 10 (.alloc [nS,(.str [])]),mI 11 0] (Sq (af [mV 19 2,bI 20 .gtr 19 12] (Cd 20 (af [oN 21 (.build [nS,(.str [])] []),sO 2 10 21,mI 11 10] .ret) .skip)) (af [mV 23 0,mV 24 1,cB 25 132 23 24,mV 22 25,xT 26 22 0,xT 27 22 1,oN 12 (.alloc [(.v (.bool false)),nS,nS,nS]),sO 4 12 26,mV 13 27] (Sq (af [mV 28 13,bI 29 .neq 28 0] (Cd 29 (af [oN 30 (.build [nS,(.str [])] []),mV 31 13,sO 2 10 30,mV 11 31] .ret) .skip)) (Sq (af [fA 32 0 12,lD 33 32] (Cd 33 (af [mV 35 4,lN 36 4 12,oN 37 (.kH (.t 35) [(.t 36)]),mV 34 37,xT 38 34 0,xT 39 34 1,sO 4 12 38,mV 13 39] (Sq (af [mV 40 13,bI 41 .neq 40 0] (Cd 41 (af [oN 42 (.build [nS,(.str [])] []),mV 43 13,sO 2 10 42,mV 11 43] .ret) .skip)) (af [lN 44 4 12,cA 45 133 44,sO 2 10 45,mI 11 0] .ret))) .skip)) (af [lN 47 4 12,mV 48 3,cB 49 37 47 48,mV 46 49,xT 50 46 0,xT 51 46 1,mV 14 50,mV 15 51] (af [mV 53 0,fA 54 3 12,lD 55 54,mV 56 14,iA 57 1 55 56,lD 58 57,mV 59 2,bI 60 .add 59 1,mV 61 3,mV 62 4,oN 63 (.call 111 [(.t 53),(.t 58),(.t 60),(.t 61),(.t 62)]),mV 52 63,xT 64 52 0,xT 65 52 1,oN 16 (.alloc [nS,(.str [])]),sO 2 16 64,mV 13 65] (Sq (af [mV 66 13,bI 67 .neq 66 0] (Cd 67 (af [oN 68 (.build [nS,(.str [])] []),mV 69 13,sO 2 10 68,mV 11 69] .ret) .skip)) (af [mV 70 14,mV 71 14,bI 72 .add 71 1,mV 17 70,mV 18 72] (Sq (af [fA 73 0 16,lD 74 73,lE 75 74,bI 76 .eql 75 1,mV 77 76,rN 78 0 16 77,mb 79 78 77,⟨(some 80),(.lO 4 (.t 79) (.c (.v (.int .i64 0)))),(some (77,true))⟩,lNT 81 4 80 77,cAT 82 134 81 77,pF 83 77 82] (Cd 83 (Sq (.draw [[],[],[],[],[3],[4,3],[5,4,3],[0,1,2,6,5,4,3],[7,0,1,2,6,5,4,3],[8,7,0,1,2,6,5,4,3],[8,7,0,1,2,6,5,4,3],[8,7,0,1,2,6,5,4,3],[8,7,0,1,2,6,5,4,3],[9,8,7,0,1,2,6,5,4,3],[10,8,7,0,1,2,6,5,4,3,13,9],[11,8,7,0,1,2,6,5,4,3,14,10,13,9],[12,8,7,0,1,2,6,5,4,3,15,11,14,10,13,9]] [mV 85 0,lN 86 4 12,mV 87 14,fA 88 0 16,lD 89 88,oN 90 (.lO 4 (.t 89) (.c (.v (.int .i64 0)))),lN 91 4 90,oN 92 (.call 135 [(.t 85),(.t 86),(.t 87),(.t 91)]),mV 84 92,xT 93 84 0,xT 94 84 1,xT 95 84 2,xT 96 84 3,sO 2 16 93,mV 17 94,mV 18 95,mV 13 96]) (af [mV 97 13,bI 98 .neq 97 0] (Cd 98 (af [oN 99 (.build [nS,(.str [])] []),mV 100 13,sO 2 10 99,mV 11 100] .ret) .skip))) .skip)) (af [mV 101 0,lN 102 4 12,mV 103 17,mV 104 18,lN 105 2 16,oN 106 (.call 136 [(.t 101),(.t 102),(.t 103),(.t 104),(.t 105)]),xT 107 106 0,xT 108 106 1,sO 2 10 107,mV 11 108] .ret))))))))))),[(.cell 10 (some 2)),(.t 11)]⟩
theorem JK:Cm 111 c111:=⟨by kernel_rfl,by kernel_rfl⟩
def c112:au:=⟨1,8,(af [oN 2 (.dm (.c nS))] (Sq (af [mV 3 0,oN 4 (.Xt .eql (.t 3) (.c nS))] (Cd 4 (af [oN 2 (.dm (.c nS))] .ret) .skip)) (af [oN 5 (.bp false 1 [] []),mV 6 0,aP 7 1 16 5 6,mV 2 7] .ret))),[(.t 2)]⟩
theorem JJ:Cm 112 c112:=⟨by kernel_rfl,by kernel_rfl⟩
def c113:au:=⟨1,8,(af [oN 2 (.dm (.c nS))] (Sq (af [mV 3 0,oN 4 (.Xt .eql (.t 3) (.c nS))] (Cd 4 (af [oN 2 (.dm (.c nS))] .ret) .skip)) (af [oN 5 (.bp false 3 [] []),mV 6 0,aP 7 3 32 5 6,mV 2 7] .ret))),[(.t 2)]⟩
theorem JI:Cm 113 c113:=⟨by kernel_rfl,by kernel_rfl⟩
def c114:au:=⟨1,8,(af [oN 2 (.dm (.c nS))] (Sq (af [mV 3 0,oN 4 (.Xt .eql (.t 3) (.c nS))] (Cd 4 (af [oN 2 (.dm (.c nS))] .ret) .skip)) (af [oN 5 (.bp false 1 [] []),mV 6 0,aP 7 1 8 5 6,mV 2 7] .ret))),[(.t 2)]⟩
theorem JH:Cm 114 c114:=⟨by kernel_rfl,by kernel_rfl⟩
end Go.Ai
namespace Go.Ai
open Go.Proofs
set_option maxRecDepth 100000
def c119:au:=⟨2,31,(af [mI 4 0] (Sq (af [mV 5 0,nC 6 5,fA 7 2 6,lD 8 7,mV 9 1,oN 10 (.vt .i (.v (.bool false)) false (.t 8) (.t 9))] (Cd 10 (af [mI 4 10] .ret) .skip)) (af [mV 11 0,nC 12 11,fA 13 2 12,lD 14 13,mV 15 1,⟨none,(.Er .i (.t 14) (.t 15) (.c (.v (.bool true)))),none⟩] (Sq (af [mV 16 0,nC 17 16,fA 18 1 17,lD 19 18] (Cd 19 (af [mV 20 0,nC 21 20,fA 22 0 21,lD 23 22,nC 24 23,fA 25 0 24,lD 26 25,mV 27 1,oN 28 (.bp false 1 [[(.v (.int .i64 0))]] [(0,(.t 27))]),cB 29 139 26 28,cA 30 66 29,mV 4 30] .ret) .skip)) (af [mI 4 0] .ret))))),[(.t 4)]⟩
theorem JG:Cm 119 c119:=⟨by kernel_rfl,by kernel_rfl⟩
def c120:au:=⟨1,23,(af [bX 1 0,mI 2 0] (Sq (af [lN 5 4 1,cA 6 68 5,oN 7 (.un .not (.t 6))] (Cd 7 (af [mI 2 0] .ret) .skip)) (af [lN 8 4 1,cA 9 140 8,mV 3 9] (Sq (af [fA 10 1 1,lD 11 10,lE 12 11,mI 13 0] (.block 0 (.loop (af [bB 14 .lss 13 12] (Sq (Cd 14 .skip (.exit 0)) (Sq (.block 1 (af [mV 15 13,mV 4 15] (Rg [mV 16 3,lN 17 4 1,mV 18 4,cB 19 141 17 18,bB 20 .add 16 19,mV 3 20]))) (Rg [bI 21 .add 13 1,mV 13 21]))))))) (af [mV 22 3,mV 2 22] .ret))))),[(.t 2)]⟩
theorem JF:Cm 120 c120:=⟨by kernel_rfl,by kernel_rfl⟩
def c121:au:=⟨2,20,(af [bX 2 0,mB 4 false] (af [mV 5 1,fA 6 0 2,lD 7 6,bB 8 .geq 5 7,mV 9 8,rN 10 2 2 9,mb 11 10 9,⟨(some 12),(.un .not (.t 11)),(some (9,true))⟩,ji 13 12 9,gD 14 1 13,xh 15 1 2 13,ti 16 15 13,J4 17 .lss 14 16 13,pTT 18 13 17 9,pF 19 9 18,mV 4 19] .ret)),[(.t 4)]⟩
theorem JE:Cm 121 c121:=⟨by kernel_rfl,by kernel_rfl⟩
def c122:au:=⟨3,53,(af [bX 4 1,mI 6 0] (Sq (af [mV 11 0,nC 12 11,fA 13 3 12,lD 14 13,bI 15 .neq 14 0,mV 16 15,ji 17 0 16,QM 18 17 16,rN 19 3 18 16,mb 20 19 16,ji 21 2 16,DR 22 .neq 20 21 16,pF 23 16 22] (Cd 23 (af [mI 6 10] .ret) .skip)) (af [mV 24 0,mV 25 2,nC 26 24,fA 27 3 26,sO 1 27 25] (Sq (af [fA 28 2 4,lD 29 28,lE 30 29,mI 31 0] (.block 0 (.loop (af [bB 32 .lss 31 30] (Sq (Cd 32 .skip (.exit 0)) (Sq (.block 1 (af [iA 33 3 29 31,lN 34 3 33,oN 8 (.alloc [(.str []),(.v (.int .i64 0)),(.v (.int .i64 0))]),sO 3 8 34] (Sq (af [fA 35 1 8,lD 36 35,bI 37 .eql 36 0] (Cd 37 (.exit 1) .skip)) (Sq (.draw [[],[0],[1,0],[2,1,0],[],[],[5],[3,2,1,0,4,6,5],[7,3,2,1,0,4,6,5],[8,7,3,2,1,0,4,6,5],[8,7,3,2,1,0,4,6,5],[9,8,7,3,2,1,0,4,6,5],[10,8,7,3,2,1,0,4,6,5,11,9]] [mV 39 0,nC 40 39,fA 41 0 40,lD 42 41,lN 43 3 8,mV 44 0,oN 45 (.sa (.func 119) [(.t 44)] []),cD 46 70 42 43 45,mV 38 46,xT 47 38 0,xT 48 38 1,mV 9 47,mV 10 48]) (af [mV 49 10,bI 50 .neq 49 0] (Cd 50 (af [mV 51 10,mV 6 51] .ret) .skip)))))) (Rg [bI 52 .add 31 1,mV 31 52]))))))) (af [mI 6 0] .ret))))),[(.t 6)]⟩
theorem JD:Cm 122 c122:=⟨by kernel_rfl,by kernel_rfl⟩
def c123:au:=⟨3,79,(af [mI 6 0,mI 7 0] (Sq (af [mV 13 0,cA 14 54 13,mV 8 14] (af [mV 15 8,bI 16 .neq 15 0] (Cd 16 (af [mV 17 8,mI 6 0,mV 7 17] .ret) .skip))) (af [mV 19 1,mV 20 0,nC 21 20,fA 22 1 21,lD 23 22,bI 24 .add 23 1,mV 25 2,cD 26 127 19 24 25,mV 18 26,xT 27 18 0,xT 28 18 1,mV 9 27,mV 10 28] (Sq (af [mV 29 10,bI 30 .neq 29 0] (Cd 30 (af [mV 31 10,mI 6 0,mV 7 31] .ret) .skip)) (af [mI 11 2] (Sq (.block 0 (.loop (Sq (af [mV 32 11,mV 33 0,nC 34 33,fA 35 3 34,lD 36 35,lE 37 36,bB 38 .lss 32 37,mV 39 38,ji 40 0 39,QM 41 40 39,rN 42 3 41 39,mb 43 42 39,ji 44 11 39,TG 45 2 43 44 39,rN 46 0 45 39,mb 47 46 39,uv 48 .neq 47 0 39,pF 49 39 48] (Cd 49 .skip (.exit 0))) (.block 1 (Rg [mV 50 11,bI 51 .add 50 1,mV 11 51]))))) (Sq (af [mV 52 11,mV 53 0,nC 54 53,fA 55 3 54,lD 56 55,lE 57 56,bB 58 .eql 52 57] (Cd 58 (af [mI 6 0,mI 7 6] .ret) .skip)) (Sq (af [mV 59 0,mV 60 0,nC 61 60,fA 62 0 61,lD 63 62,mV 64 11,mV 65 9,cD 66 30 63 64 65,cB 67 56 59 66,mV 12 67] (af [mV 68 12,bI 69 .neq 68 0] (Cd 69 (af [mV 70 12,mI 6 0,mV 7 70] .ret) .skip))) (af [mV 71 0,nC 72 71,fA 73 3 72,lD 74 73,mV 75 11,iA 76 2 74 75,fA 77 0 76,⟨none,(.store 1 (.t 77) (.c (.v (.int .i64 2)))),none⟩] (af [mV 78 11,mV 6 78,mI 7 0] .ret)))))))))),[(.t 6),(.t 7)]⟩
theorem JC:Cm 123 c123:=⟨by kernel_rfl,by kernel_rfl⟩
def c124:au:=⟨2,6,(af [mI 2 0] (af [lD 3 0,lD 4 1,oN 5 (.call 30 [(.t 3),(.c (.v (.int .i64 0))),(.t 4)]),mV 2 5] .ret)),[(.t 2)]⟩
theorem JB:Cm 124 c124:=⟨by kernel_rfl,by kernel_rfl⟩
def c125:au:=⟨2,6,(af [mI 2 0] (af [lD 3 0,lD 4 1,oN 5 (.call 30 [(.t 3),(.c (.v (.int .i64 1))),(.t 4)]),mV 2 5] .ret)),[(.t 2)]⟩
theorem JA:Cm 125 c125:=⟨by kernel_rfl,by kernel_rfl⟩
def c126:au:=⟨2,6,(af [mI 2 0] (af [lD 3 0,lD 4 1,oN 5 (.call 30 [(.t 3),(.c (.v (.int .i64 1))),(.t 4)]),mV 2 5] .ret)),[(.t 2)]⟩
theorem Jz:Cm 126 c126:=⟨by kernel_rfl,by kernel_rfl⟩
def c127:au:=⟨3,80,(af [oN 6 (.dm (.c nS)),mI 7 0] (Sq (af [mV 9 0,bI 10 .lss 9 0,mV 11 10,gD 12 0 11,tt 13 .gtr 12 255 11,pT 14 11 13,mV 15 14,gD 16 1 15,tt 17 .lss 16 0 15,pT 18 15 17,mV 19 18,gD 20 1 19,tt 21 .gtr 20 281474976710655 19,pT 22 19 21] (Cd 22 (af [oN 6 (.dm (.c nS)),mI 7 2] .ret) .skip)) (Sq (af [mV 23 2,oN 24 (.gA (.t 23)),bI 25 .gtr 24 492] (Cd 25 (af [oN 6 (.dm (.c nS)),mI 7 4] .ret) .skip)) (af [oN 26 (.call 85 []),mV 8 26] (af [mV 27 8,nC 28 27,fA 29 0 28,oN 30 (.call 86 [(.t 29),(.c (.v (.int .i64 18550))),(.c (.v (.int .i64 2)))])] (af [mV 31 8,nC 32 31,fA 33 0 32,mV 34 0,oN 35 (.call 86 [(.t 33),(.t 34),(.c (.v (.int .i64 1)))])] (af [mV 36 8,nC 37 36,fA 38 0 37,oN 39 (.call 86 [(.t 38),(.c (.v (.int .i64 0))),(.c (.v (.int .i64 1)))])] (af [mV 40 8,nC 41 40,fA 42 0 41,mV 43 2,oN 44 (.gA (.t 43)),oN 45 (.call 86 [(.t 42),(.t 44),(.c (.v (.int .i64 2)))])] (af [mV 46 8,nC 47 46,fA 48 0 47,mV 49 1,oN 50 (.call 86 [(.t 48),(.t 49),(.c (.v (.int .i64 6)))])] (af [mV 51 8,nC 52 51,fA 53 0 52,fA 54 1 53,⟨none,(.store 1 (.t 54) (.c (.v (.int .i64 20)))),none⟩] (af [mV 55 8,nC 56 55,fA 57 0 56,mV 58 2,cB 59 87 57 58] (af [mV 60 8,nC 61 60,fA 62 0 61,fA 63 1 62,⟨none,(.store 1 (.t 63) (.c (.v (.int .i64 12)))),none⟩] (Sq (.draw [[],[0],[1,0],[],[3],[4,3],[5,4,3],[6,5,4,3],[7,6,5,4,3],[8,7,6,5,4,3],[2,1,0,9,8,7,6,5,4,3]] [mV 64 8,nC 65 64,fA 66 0 65,mV 67 8,nC 68 67,fA 69 0 68,fA 70 0 69,lD 71 70,cA 72 142 71,oN 73 (.conv .i64 (.t 72)),oN 74 (.call 86 [(.t 66),(.t 73),(.c (.v (.int .i64 4)))])]) (af [mV 75 8,nC 76 75,fA 77 0 76,fA 78 0 77,lD 79 78,mV 6 79,mI 7 0] .ret)))))))))))))),[(.t 6),(.t 7)]⟩
theorem Jy:Cm 127 c127:=⟨by kernel_rfl,by kernel_rfl⟩
def c128:au:=⟨2,19,(af [mI 4 0] (Sq (af [mV 6 0,lE 7 6,mI 8 0] (.block 0 (.loop (af [bB 9 .lss 8 7] (Sq (Cd 9 .skip (.exit 0)) (Sq (.block 1 (af [mV 10 8,mV 5 10] (af [mV 11 1,mV 12 0,mV 13 5,iA 14 3 12 13,lN 15 3 14,oN 16 (.kH (.t 11) [(.t 15)])] (Cd 16 (af [mV 17 5,mV 4 17] .ret) .skip)))) (Rg [bI 18 .add 8 1,mV 8 18]))))))) (af [mI 4 (-1)] .ret))),[(.t 4)]⟩
theorem Jx:Cm 128 c128:=⟨by kernel_rfl,by kernel_rfl⟩
def c129:au:=⟨2,19,(af [mI 4 0] (Sq (af [mV 6 0,lE 7 6,mI 8 0] (.block 0 (.loop (af [bB 9 .lss 8 7] (Sq (Cd 9 .skip (.exit 0)) (Sq (.block 1 (af [mV 10 8,mV 5 10] (af [mV 11 1,mV 12 0,mV 13 5,iA 14 1 12 13,lD 15 14,oN 16 (.kH (.t 11) [(.t 15)])] (Cd 16 (af [mV 17 5,mV 4 17] .ret) .skip)))) (Rg [bI 18 .add 8 1,mV 8 18]))))))) (af [mI 4 (-1)] .ret))),[(.t 4)]⟩
theorem Jw:Cm 129 c129:=⟨by kernel_rfl,by kernel_rfl⟩
def c130:au:=⟨1,20,(af [mV 2 0,nC 3 2,fA 4 0 3,lD 5 4,oN 6 (.z8 .eql (.t 5) (.c (.v (.pointer none))))] (Cd 6 (Rg [mV 7 0,mV 8 0,oN 9 (.X8 (.t 8)),cA 10 143 9,oN 11 (.Yg 167 2 (.t 10)),nC 12 7,fA 13 0 12,sO 1 13 11]) (af [mV 14 0,nC 15 14,fA 16 0 15,lD 17 16,mV 18 0,oN 19 (.z8 .neq (.t 17) (.t 18))] (Cd 19 (Rg [⟨none,.halt,none⟩]) .skip)))),[]⟩
theorem Jv:Cm 130 c130:=⟨by kernel_rfl,by kernel_rfl⟩
def c131:au:=⟨2,23,(af [bX 3 1,mI 4 0,mI 5 0] (af [lN 10 4 3,cA 11 144 10,mV 9 11,xT 12 9 0,xT 13 9 1,xT 14 9 2,mV 6 12,mV 7 13,mV 8 14] (Sq (af [mV 15 8,bI 16 .neq 15 0] (Cd 16 (af [mI 4 0,mI 5 10] .ret) .skip)) (af [mV 17 0,mV 18 6,mV 19 7,cD 20 81 17 18 19,xT 21 20 0,xT 22 20 1,mV 4 21,mV 5 22] .ret)))),[(.t 4),(.t 5)]⟩
theorem Ju:Cm 131 c131:=⟨by kernel_rfl,by kernel_rfl⟩
def c132:au:=⟨2,28,(af [oN 4 (.alloc [(.v (.bool false)),nS,nS,nS]),mI 5 0] (af [mV 9 0,mV 10 1,cB 11 36 9 10,mV 8 11,xT 12 8 0,xT 13 8 1,oN 6 (.alloc [(.v (.bool false)),nS,nS,nS]),sO 4 6 12,mV 7 13] (Sq (af [mV 14 7,bI 15 .eql 14 0] (Cd 15 (Rg [mV 16 0,mV 17 0,nC 18 17,fA 19 3 18,lD 20 19,mV 21 1,oN 22 (.bp false 1 [[(.v (.int .i64 0))]] [(0,(.t 21))]),aP 23 1 8 20 22,nC 24 16,fA 25 3 24,sO 1 25 23]) .skip)) (af [lN 26 4 6,mV 27 7,sO 4 4 26,mV 5 27] .ret)))),[(.cell 4 (some 4)),(.t 5)]⟩
theorem Jt:Cm 132 c132:=⟨by kernel_rfl,by kernel_rfl⟩
def c133:au:=⟨1,30,(af [bX 1 0,oN 2 (.alloc [nS,(.str [])])] (Sq (af [lN 7 4 1,cA 8 120 7,bI 9 .leq 8 492] (Cd 9 (af [lN 10 4 1,oN 11 (.bp false 4 [[(.v (.bool false)),nS,nS,nS]] [(0,(.t 10))]),oN 12 (.build [nS,(.str [])] [(0,(1,(.t 11)))]),sO 2 2 12] .ret) .skip)) (af [lN 14 4 1,cA 15 145 14,mV 13 15,xT 16 13 0,xT 17 13 1,xT 18 13 2,xT 19 13 3,oN 3 (.alloc [(.v (.bool false)),nS,nS,nS]),oN 5 (.alloc [(.v (.bool false)),nS,nS,nS]),sO 4 3 16,mV 4 17,sO 4 5 18,mV 6 19] (Sq (af [mV 20 6,bI 21 .neq 20 0] (Cd 21 (af [lN 22 4 1,oN 23 (.bp false 4 [[(.v (.bool false)),nS,nS,nS]] [(0,(.t 22))]),oN 24 (.build [nS,(.str [])] [(0,(1,(.t 23)))]),sO 2 2 24] .ret) .skip)) (af [lN 25 4 3,lN 26 4 5,oN 27 (.bp false 4 [[(.v (.bool false)),nS,nS,nS],[(.v (.bool false)),nS,nS,nS]] [(0,(.t 25)),(1,(.t 26))]),mV 28 4,oN 29 (.build [nS,(.str [])] [(0,(1,(.t 27))),(1,(1,(.t 28)))]),sO 2 2 29] .ret))))),[(.cell 2 (some 2))]⟩
theorem Js:Cm 133 c133:=⟨by kernel_rfl,by kernel_rfl⟩
def c134:au:=⟨1,12,(af [bX 1 0,mB 2 false] (af [fA 3 3 1,lD 4 3,lE 5 4,bI 6 .eql 5 1,mV 7 6,lNF 8 4 1 7,Dq 9 120 8 7,tt 10 .lss 9 123 7,pT 11 7 10,mV 2 11] .ret)),[(.t 2)]⟩
theorem Jr:Cm 134 c134:=⟨by kernel_rfl,by kernel_rfl⟩
def c135:au:=⟨4,57,(af [bX 5 1,bX 7 3,oN 8 (.alloc [nS,(.str [])]),mI 9 0,mI 10 0,mI 11 0] (af [mV 18 2,bI 19 .sub 18 1,mV 20 2,bI 21 .sub 20 1,mV 12 19,mV 13 21] (Sq (af [mV 22 2,bI 23 .eql 22 0] (Cd 23 (Rg [mI 12 0,mI 13 1]) .skip)) (af [mV 25 0,fA 26 3 5,lD 27 26,mV 28 13,iA 29 1 27 28,lD 30 29,cB 31 132 25 30,mV 24 31,xT 32 24 0,xT 33 24 1,oN 14 (.alloc [(.v (.bool false)),nS,nS,nS]),sO 4 14 32,mV 15 33] (Sq (af [mV 34 15,bI 35 .neq 34 0] (Cd 35 (af [oN 36 (.build [nS,(.str [])] []),mV 37 15,sO 2 8 36,mI 9 0,mI 10 0,mV 11 37] .ret) .skip)) (Sq (.draw [[],[],[],[],[2,0,3],[3,1,4,2,0]] [lN 38 4 14,lN 39 4 7,oN 16 (.alloc [(.v (.bool false)),nS,nS,nS]),oN 17 (.alloc [(.v (.bool false)),nS,nS,nS]),sO 4 16 38,sO 4 17 39]) (Sq (af [mV 40 12,mV 41 2,bB 42 .eql 40 41] (Cd 42 (.draw [[],[],[0],[1,2,0]] [lN 43 4 7,lN 44 4 14,sO 4 16 43,sO 4 17 44]) .skip)) (Sq (.draw [[],[],[1],[],[2,1,3],[4,2,1,3],[],[0,5,4,2,1,3,6],[7,0,5,4,2,1,3,6],[],[],[10],[8,7,0,5,4,2,1,3,6],[9,12,8,7,0,5,4,2,1,3,6],[11,10,13,9,12,8,7,0,5,4,2,1,3,6],[14,11,10,13,9,12,8,7,0,5,4,2,1,3,6]] [lN 45 4 16,fA 46 1 5,lD 47 46,mV 48 12,iA 49 1 47 48,lD 50 49,lN 51 4 17,cD 52 146 45 50 51,cA 53 133 52,mV 54 12,mV 55 12,bI 56 .add 55 2,sO 2 8 53,mV 9 54,mV 10 56,mI 11 0]) .ret)))))))),[(.cell 8 (some 2)),(.t 9),(.t 10),(.t 11)]⟩
theorem Jq:Cm 135 c135:=⟨by kernel_rfl,by kernel_rfl⟩
def c136:au:=⟨5,92,(af [bX 6 1,bX 9 4,oN 10 (.alloc [nS,(.str [])]),mI 11 0] (af [oN 12 (.dm (.c nS))] (Sq (af [fA 18 0 9,lD 19 18,lE 20 19,mI 21 0] (.block 0 (.loop (af [bB 22 .lss 21 20] (Sq (Cd 22 .skip (.exit 0)) (Sq (.block 1 (af [iA 23 4 19 21,lN 24 4 23,oN 14 (.alloc [(.v (.bool false)),nS,nS,nS]),sO 4 14 24] (af [mV 26 0,lN 27 4 14,cB 28 131 26 27,mV 25 28,xT 29 25 0,xT 30 25 1,mV 15 29,mV 16 30] (Sq (af [mV 31 16,bI 32 .neq 31 0] (Cd 32 (af [oN 33 (.build [nS,(.str [])] []),mV 34 16,sO 2 10 33,mV 11 34] .ret) .skip)) (Rg [mV 35 12,mV 36 15,oN 37 (.bp false 1 [[(.v (.int .i64 0))]] [(0,(.t 36))]),aP 38 1 8 35 37,mV 12 38]))))) (Rg [bI 39 .add 21 1,mV 21 39]))))))) (af [oN 40 (.build [(.v (.bool false)),nS,nS,nS] []),oN 17 (.alloc [(.v (.bool false)),nS,nS,nS]),sO 4 17 40] (Sq (.draw [[],[0],[],[2],[],[3,2,4],[1,0,5,3,2,4],[],[6,1,0,5,3,2,4,7],[],[9],[],[10,9,11],[8,6,1,0,5,3,2,4,7,12,10,9,11],[0,1,2,3,4,5,6,7,8,9,10,11,12,13],[14,0,1,2,3,4,5,6,7,8,9,10,11,12,13]] [fA 41 3 17,lD 42 41,fA 43 3 6,lD 44 43,mV 45 2,oN 46 (.slice 1 (.t 44) none (some (.t 45)) none),aP 47 1 8 42 46,mV 48 12,aP 49 1 8 47 48,fA 50 3 6,lD 51 50,mV 52 3,oN 53 (.slice 1 (.t 51) (some (.t 52)) none none),aP 54 1 8 49 53,fA 55 3 17,sO 1 55 54]) (Sq (.draw [[],[0],[],[2],[],[3,2,4],[1,0,5,3,2,4],[0,1,2,3,4,5,6],[7,0,1,2,3,4,5,6]] [fA 56 1 17,lD 57 56,fA 58 1 6,lD 59 58,mV 60 2,oN 61 (.slice 1 (.t 59) none (some (.t 60)) none),aP 62 1 16 57 61,fA 63 1 17,sO 1 63 62]) (Sq (af [mV 64 12,lE 65 64,bI 66 .eql 65 2] (Cd 66 (Rg [fA 67 1 17,lD 68 67,fA 69 1 9,lD 70 69,oN 71 (.bp false 1 [[(.str [])]] [(0,(.t 70))]),aP 72 1 16 68 71,fA 73 1 17,sO 1 73 72]) .skip)) (Sq (.draw [[],[0],[],[2],[],[4],[3,2,5,4],[1,0,6,3,2,5,4],[0,1,2,3,4,5,6,7],[8,0,1,2,3,4,5,6,7]] [fA 74 1 17,lD 75 74,fA 76 1 6,lD 77 76,mV 78 3,bI 79 .sub 78 1,oN 80 (.slice 1 (.t 77) (some (.t 79)) none none),aP 81 1 16 75 80,fA 82 1 17,sO 1 82 81]) (Sq (af [fA 83 3 17,lD 84 83,lE 85 84,bI 86 .eql 85 1] (Cd 86 (af [lN 87 4 17,oN 88 (.bp false 4 [[(.v (.bool false)),nS,nS,nS]] [(0,(.t 87))]),oN 89 (.build [nS,(.str [])] [(0,(1,(.t 88)))]),sO 2 10 89,mI 11 0] .ret) .skip)) (af [lN 90 4 17,cA 91 133 90,sO 2 10 91,mI 11 0] .ret)))))))))),[(.cell 10 (some 2)),(.t 11)]⟩
theorem Jp:Cm 136 c136:=⟨by kernel_rfl,by kernel_rfl⟩
def c139:au:=⟨2,58,(af [mI 4 0] (Sq (af [mV 11 0,cA 12 54 11,mV 5 12] (af [mV 13 5,bI 14 .neq 13 0] (Cd 14 (af [mV 15 5,mV 4 15] .ret) .skip))) (af [oN 16 .sn,mV 6 16] (Sq (af [mV 17 1,lE 18 17,mI 19 0] (.block 0 (.loop (af [bB 20 .lss 19 18] (Sq (Cd 20 .skip (.exit 0)) (Sq (.block 1 (af [iA 21 1 17 19,lD 22 21,mV 8 22] (Sq (af [mV 23 0,mV 24 8,cB 25 93 23 24,oN 26 (.un .not (.t 25))] (Cd 26 (af [mI 4 3] .ret) .skip)) (Sq (af [mV 27 0,nC 28 27,fA 29 3 28,lD 30 29,mV 31 8,iA 32 2 30 31,fA 33 0 32,lD 34 33,bI 35 .neq 34 0,mV 36 35,gD 37 6 36,gD 38 8 36,⟨(some 39),(.vt .i (.v (.bool false)) false (.t 37) (.t 38)),(some (36,false))⟩,pT 40 36 39] (Cd 40 (af [mI 4 8] .ret) .skip)) (Rg [mV 41 6,mV 42 8,⟨none,(.Er .i (.t 41) (.t 42) (.c (.v (.bool true)))),none⟩]))))) (Rg [bI 43 .add 19 1,mV 19 43]))))))) (Sq (af [mV 44 1,lE 45 44,mI 46 0] (.block 2 (.loop (af [bB 47 .lss 46 45] (Sq (Cd 47 .skip (.exit 2)) (Sq (.block 3 (af [iA 48 1 44 46,lD 49 48,mV 10 49] (Rg [mV 50 0,nC 51 50,fA 52 3 51,lD 53 52,mV 54 10,iA 55 2 53 54,fA 56 0 55,⟨none,(.store 1 (.t 56) (.c (.v (.int .i64 1)))),none⟩]))) (Rg [bI 57 .add 46 1,mV 46 57]))))))) (af [mI 4 0] .ret)))))),[(.t 4)]⟩
theorem Jo:Cm 139 c139:=⟨by kernel_rfl,by kernel_rfl⟩
def c140:au:=⟨1,5,(af [bX 1 0,mI 2 0] (Sq (af [fA 3 0 1,lD 4 3] (Cd 4 (af [mI 2 2] .ret) .skip)) (af [mI 2 6] .ret))),[(.t 2)]⟩
theorem Jn:Cm 140 c140:=⟨by kernel_rfl,by kernel_rfl⟩
def c141:au:=⟨2,49,(af [bX 2 0,mI 4 0] (Sq (.block 0 (af [fA 6 0 2,lD 7 6,oN 8 (.un .not (.t 7)),mV 5 8] (Cd 5 (af [fA 9 1 2,lD 10 9,mV 11 1,iA 12 1 10 11,lD 13 12,oN 14 (.gA (.t 13)),oN 15 (.bin .add (.c (.v (.int .i64 1))) (.t 14)),bI 16 .add 15 4,mV 4 16] .ret) (af [fA 18 2 2,lD 19 18,mV 20 1,iA 21 3 19 20,fA 22 1 21,lD 23 22,bI 24 .gtr 23 0,mV 17 24] (Cd 17 (af [fA 25 1 2,lD 26 25,mV 27 1,iA 28 1 26 27,lD 29 28,oN 30 (.gA (.t 29)),oN 31 (.bin .add (.c (.v (.int .i64 1))) (.t 30)),bI 32 .add 31 9,mV 4 32] .ret) .skip))))) (Sq (.draw [[],[0],[],[1,0,2],[3,1,0,2],[4,3,1,0,2],[5,4,3,1,0,2],[6,5,4,3,1,0,2],[],[8],[],[9,8,10],[11,9,8,10],[12,11,9,8,10],[13,12,11,9,8,10],[7,6,5,4,3,1,0,2,14,13,12,11,9,8,10],[15,7,6,5,4,3,1,0,2,14,13,12,11,9,8,10]] [fA 33 1 2,lD 34 33,mV 35 1,iA 36 1 34 35,lD 37 36,oN 38 (.gA (.t 37)),oN 39 (.bin .add (.c (.v (.int .i64 1))) (.t 38)),bI 40 .add 39 1,fA 41 2 2,lD 42 41,mV 43 1,iA 44 3 42 43,fA 45 0 44,lD 46 45,oN 47 (.gA (.t 46)),bB 48 .add 40 47,mV 4 48]) .ret))),[(.t 4)]⟩
theorem Jm:Cm 141 c141:=⟨by kernel_rfl,by kernel_rfl⟩
def c142:au:=⟨1,23,(af [oN 2 (.dm (.c (.v (.int .u32 0))))] (af [oN 3 (.dm (.c (.v (.int .u32 0))))] (Sq (af [mV 6 0,lE 7 6,mI 8 0] (.block 0 (.loop (af [bB 9 .lss 8 7] (Sq (Cd 9 .skip (.exit 0)) (Sq (.block 1 (af [mV 10 8,iA 11 1 6 8,lD 12 11,mV 4 10,mV 5 12] (Rg [mV 13 3,mV 14 4,bI 15 .add 14 1,oN 16 (.conv .u32 (.t 15)),mV 17 5,oN 18 (.conv .u32 (.t 17)),bB 19 .mul 16 18,bB 20 .add 13 19,mV 3 20]))) (Rg [bI 21 .add 8 1,mV 8 21]))))))) (af [mV 22 3,mV 2 22] .ret)))),[(.t 2)]⟩
theorem Jl:Cm 142 c142:=⟨by kernel_rfl,by kernel_rfl⟩
def pO:cC:=(Sq (af [fA 35 1 1,lD 36 35,lE 37 36,mI 38 0] (.block 0 (.loop (af [bB 39 .lss 38 37] (Sq (Cd 39 .skip (.exit 0)) (Sq (.block 1 (af [mV 40 38,iA 41 1 36 38,lD 42 41,mV 6 40,mV 7 42] (af [mV 43 5,nC 44 43,fA 45 0 44,mV 46 7,cB 47 150 45 46] (af [fA 48 0 1,lD 49 48] (Cd 49 (Rg [mV 50 5,fA 51 2 1,lD 52 51,mV 53 6,iA 54 3 52 53,lN 55 3 54,cB 56 151 50 55]) (.draw [[],[0],[1,0],[],[3],[],[5],[4,3,6,5],[7,4,3,6,5],[2,1,0,8,7,4,3,6,5]] [mV 57 5,nC 58 57,fA 59 0 58,fA 60 3 1,lD 61 60,mV 62 6,bI 63 .add 62 1,iA 64 1 61 63,lD 65 64,oN 66 (.call 149 [(.t 59),(.t 65),(.c (.v (.int .i64 4)))])])))))) (Rg [bI 67 .add 38 1,mV 38 67]))))))) (af [mI 8 2] (Sq (af [fA 68 0 1,lD 69 68] (Cd 69 (Rg [mI 8 1]) .skip)) (Sq (.draw [[],[],[1],[2,1],[3,2,1],[4,3,2,1],[5,4,3,2,1],[0],[6,5,4,3,2,1,7,0],[8,6,5,4,3,2,1,7,0]] [mV 70 8,mV 71 5,nC 72 71,fA 73 0 72,fA 74 0 73,lD 75 74,oN 76 (.Mk (.t 75)),mV 2 70,mV 3 76,mI 4 0]) .ret))))
def c144:au:=⟨1,77,(af [bX 1 0,mI 2 0,oN 3 (.dm (.c (.str []))),mI 4 0] (Sq (af [lN 9 4 1,cA 10 68 9,oN 11 (.un .not (.t 10))] (Cd 11 (af [mI 2 0,oN 3 (.dm (.c (.str []))),mI 4 2] .ret) .skip)) (Sq (af [lN 12 4 1,cA 13 120 12,bI 14 .gtr 13 492] (Cd 14 (af [mI 2 0,oN 3 (.dm (.c (.str []))),mI 4 4] .ret) .skip)) (af [oN 15 (.build [nS] []),bX 16 15,mV 5 16] (Sq (.draw [[],[0],[1,0],[],[3],[4,3],[2,1,0,5,4,3]] [mV 17 5,nC 18 17,fA 19 0 18,fA 20 1 1,lD 21 20,lE 22 21,oN 23 (.call 149 [(.t 19),(.t 22),(.c (.v (.int .i64 2)))])]) (Sq (af [fA 24 0 1,lD 25 24,oN 26 (.un .not (.t 25))] (Cd 26 (.draw [[],[0],[1,0],[],[3],[4,3],[5,4,3],[2,1,0,6,5,4,3]] [mV 27 5,nC 28 27,fA 29 0 28,fA 30 3 1,lD 31 30,oN 32 (.lO 1 (.t 31) (.c (.v (.int .i64 0)))),lD 33 32,oN 34 (.call 149 [(.t 29),(.t 33),(.c (.v (.int .i64 4)))])]) .skip))  pO )))))),[(.t 2),(.t 3),(.t 4)]⟩
theorem Jk:Cm 144 c144:=⟨by kernel_rfl,by kernel_rfl⟩
def nQ:cC:=(Sq (.draw [[],[],[0,1],[],[3],[],[4,3,5],[6,4,3,5],[],[],[],[9,10],[11,9,10],[],[13],[14,13],[8,12,11,9,10,15,14,13,2,0,1],[2,0,1,16,8,12,11,9,10,15,14,13],[7,6,4,3,5,17,2,0,1,16,8,12,11,9,10,15,14,13],[16,8,12,11,9,10,15,14,13,2,0,1,18,7,6,4,3,5,17],[19,16,8,12,11,9,10,15,14,13,2,0,1,18,7,6,4,3,5,17]] [lN 52 4 1,mV 53 8,oN 54 (.call 74 [(.t 52),(.c (.v (.int .i64 0))),(.t 53)]),fA 55 1 1,lD 56 55,mV 57 8,iA 58 1 56 57,lD 59 58,lN 60 4 1,mV 61 8,mV 62 6,bB 63 .add 61 62,bI 64 .sub 63 1,fA 65 1 1,lD 66 65,lE 67 66,cD 68 74 60 64 67,sO 4 2 54,mV 3 59,sO 4 4 68,mI 5 0]) .ret)
def Ah:cC:=(Sq (af [lN 13 4 1,cA 14 68 13,oN 15 (.un .not (.t 14)),mV 16 15,xh 17 1 1 16,ti 18 17 16,Tx 19 18 16,gD 20 6 16,J4 21 .leq 19 20 16,pT 22 16 21] (Cd 22 (af [oN 23 (.build [(.v (.bool false)),nS,nS,nS] []),oN 24 (.build [(.v (.bool false)),nS,nS,nS] []),sO 4 2 23,oN 3 (.dm (.c (.str []))),sO 4 4 24,mI 5 2] .ret) .skip)) (af [lN 25 4 1,cA 26 120 25,mV 7 26,mI 8 1] (Sq (.draw [[],[0],[],[2,1,0],[1,0,3,2],[4,1,0,3,2]] [lN 27 4 1,cA 28 140 27,lN 29 4 1,oN 30 (.call 141 [(.t 29),(.c (.v (.int .i64 0)))]),bB 31 .add 28 30,mV 9 31]) (Sq (.block 0 (.loop (Sq (af [mV 32 9,oN 33 (.bin .mul (.c (.v (.int .i64 2))) (.t 32)),mV 34 7,bB 35 .lss 33 34,mV 36 35,ji 37 8 36,rN 38 1 1 36,mb 39 38 36,QN 40 39 36,ji 41 6 36,DR 42 .sub 40 41 36,DR 43 .lss 37 42 36,pF 44 36 43] (Cd 44 .skip (.exit 0))) (.block 1 (af [mV 45 9,lN 46 4 1,mV 47 8,cB 48 141 46 47,bB 49 .add 45 48,mV 9 49] (Rg [mV 50 8,bI 51 .add 50 1,mV 8 51]))))))  nQ ))))
def c145:au:=⟨1,69,(af [bX 1 0,oN 2 (.alloc [(.v (.bool false)),nS,nS,nS]),oN 3 (.dm (.c (.str []))),oN 4 (.alloc [(.v (.bool false)),nS,nS,nS]),mI 5 0] (af [mI 6 1] (Sq (af [fA 10 0 1,lD 11 10,oN 12 (.un .not (.t 11))] (Cd 12 (Rg [mI 6 2]) .skip))  Ah ))),[(.cell 2 (some 4)),(.t 3),(.cell 4 (some 4)),(.t 5)]⟩
theorem Jj:Cm 145 c145:=⟨by kernel_rfl,by kernel_rfl⟩
def uY:cC:=(af [fA 41 1 7,lD 42 41,fA 43 1 5,lD 44 43,aP 45 1 16 42 44,fA 46 1 7,sO 1 46 45] (af [lN 47 4 7,sO 4 6 47] .ret))
def c146:au:=⟨3,48,(af [bX 3 0,bX 5 2,oN 6 (.alloc [(.v (.bool false)),nS,nS,nS])] (Sq (af [fA 8 0 3,lD 9 8,fA 10 0 5,lD 11 10,oN 12 (.Uy .neq (.t 9) (.t 11))] (Cd 12 (af [lN 13 4 3,sO 4 6 13] .ret) .skip)) (Sq (.draw [[],[0],[],[2],[3,2],[],[5],[],[7],[6,5,8,7],[9,6,5,8,7,4,3,2],[],[11],[],[13],[12,11,14,13],[15,12,11,14,13,10,9,6,5,8,7,4,3,2],[1,0,4,3,2,10,9,6,5,8,7,16,15,12,11,14,13],[],[18,17,1,0,4,3,2,10,9,6,5,8,7,16,15,12,11,14,13]] [fA 14 0 3,lD 15 14,fA 16 1 3,lD 17 16,cA 18 112 17,fA 19 2 3,lD 20 19,fA 21 2 5,lD 22 21,oN 23 (.bp false 1 [[nS],[nS]] [(0,(.t 20)),(1,(.t 22))]),cA 24 152 23,fA 25 3 3,lD 26 25,fA 27 3 5,lD 28 27,oN 29 (.bp false 1 [[nS],[nS]] [(0,(.t 26)),(1,(.t 28))]),cA 30 153 29,oN 31 (.build [(.v (.bool false)),nS,nS,nS] [(0,(1,(.t 15))),(1,(1,(.t 18))),(2,(1,(.t 24))),(3,(1,(.t 30)))]),oN 7 (.alloc [(.v (.bool false)),nS,nS,nS]),sO 4 7 31]) (Sq (af [fA 32 0 3,lD 33 32,oN 34 (.un .not (.t 33))] (Cd 34 (Rg [fA 35 1 7,lD 36 35,mV 37 1,oN 38 (.bp false 1 [[(.str [])]] [(0,(.t 37))]),aP 39 1 16 36 38,fA 40 1 7,sO 1 40 39]) .skip))  uY )))),[(.cell 6 (some 4))]⟩
theorem Ji:Cm 146 c146:=⟨by kernel_rfl,by kernel_rfl⟩
def c149:au:=⟨3,27,(af [mV 7 2,bI 8 .sub 7 1,mV 6 8] (.block 0 (.loop (Sq (af [mV 9 6,bI 10 .geq 9 0] (Cd 10 .skip (.exit 0))) (Sq (.block 1 (.draw [[],[],[1],[2,1],[3,2,1],[],[],[6],[5,7,6],[8,5,7,6],[9,8,5,7,6],[4,3,2,1,10,9,8,5,7,6],[0,1,2,3,4,5,6,7,8,9,10,11],[12,0,1,2,3,4,5,6,7,8,9,10,11],[13,12,0,1,2,3,4,5,6,7,8,9,10,11]] [mV 13 0,mV 14 0,nC 15 14,fA 16 0 15,lD 17 16,mV 18 1,mV 19 6,oN 20 (.bin .mul (.c (.v (.int .i64 8))) (.t 19)),bB 21 .shr 18 20,oN 22 (.conv .u8 (.t 21)),oN 23 (.bp false 1 [[(.v (.int .u8 0))]] [(0,(.t 22))]),aP 24 1 1 17 23,nC 25 13,fA 26 0 25,sO 1 26 24])) (Rg [mV 11 6,bI 12 .sub 11 1,mV 6 12])))))),[]⟩
theorem Jh:Cm 149 c149:=⟨by kernel_rfl,by kernel_rfl⟩
def c150:au:=⟨2,17,(af [mV 4 0,mV 5 1,oN 6 (.gA (.t 5)),oN 7 (.call 149 [(.t 4),(.t 6),(.c (.v (.int .i64 1)))])] (Rg [mV 8 0,mV 9 0,nC 10 9,fA 11 0 10,lD 12 11,mV 13 1,aP 14 1 1 12 13,nC 15 8,fA 16 0 15,sO 1 16 14])),[]⟩
theorem Jg:Cm 150 c150:=⟨by kernel_rfl,by kernel_rfl⟩
def c151:au:=⟨2,29,(af [bX 3 1] (Sq (af [fA 4 1 3,lD 5 4,bI 6 .eql 5 0] (Cd 6 (Sq (.draw [[],[0],[1,0],[],[3],[2,1,0,4,3]] [mV 7 0,nC 8 7,fA 9 0 8,fA 10 0 3,lD 11 10,cB 12 150 9 11]) .ret) .skip)) (af [mV 13 0,nC 14 13,fA 15 0 14,oN 16 (.call 149 [(.t 15),(.c (.v (.int .i64 255))),(.c (.v (.int .i64 1)))])] (Sq (.draw [[],[0],[1,0],[],[3],[2,1,0,4,3]] [mV 17 0,nC 18 17,fA 19 0 18,fA 20 1 3,lD 21 20,oN 22 (.call 149 [(.t 19),(.t 21),(.c (.v (.int .i64 4)))])]) (.draw [[],[0],[1,0],[],[3],[2,1,0,4,3]] [mV 23 0,nC 24 23,fA 25 0 24,fA 26 2 3,lD 27 26,oN 28 (.call 149 [(.t 25),(.t 27),(.c (.v (.int .i64 4)))])]))))),[]⟩
theorem Jf:Cm 151 c151:=⟨by kernel_rfl,by kernel_rfl⟩
def c152:au:=⟨1,36,(af [oN 2 (.dm (.c nS))] (af [mI 3 0] (Sq (af [mV 9 0,lE 10 9,mI 11 0] (.block 0 (.loop (af [bB 12 .lss 11 10] (Sq (Cd 12 .skip (.exit 0)) (Sq (.block 1 (af [iA 13 1 9 11,lD 14 13,mV 5 14] (af [mV 15 3,mV 16 5,lE 17 16,bB 18 .add 15 17,mV 3 18] (af [mV 19 3,bI 20 .lss 19 0] (Cd 20 (Rg [oN 21 (.GU 9 (.c (.str [108,101,110,32,111,117,116,32,111,102,32,114,97,110,103,101]))),⟨none,.halt,none⟩]) .skip))))) (Rg [bI 22 .add 11 1,mV 11 22]))))))) (af [mV 23 3,oN 24 (.call 154 [(.c nS),(.t 23)]),mV 6 24] (Sq (af [mV 25 0,lE 26 25,mI 27 0] (.block 2 (.loop (af [bB 28 .lss 27 26] (Sq (Cd 28 .skip (.exit 2)) (Sq (.block 3 (af [iA 29 1 25 27,lD 30 29,mV 8 30] (Rg [mV 31 6,mV 32 8,aP 33 3 32 31 32,mV 6 33]))) (Rg [bI 34 .add 27 1,mV 27 34]))))))) (af [mV 35 6,mV 2 35] .ret)))))),[(.t 2)]⟩
theorem Je:Cm 152 c152:=⟨by kernel_rfl,by kernel_rfl⟩
def c153:au:=⟨1,36,(af [oN 2 (.dm (.c nS))] (af [mI 3 0] (Sq (af [mV 9 0,lE 10 9,mI 11 0] (.block 0 (.loop (af [bB 12 .lss 11 10] (Sq (Cd 12 .skip (.exit 0)) (Sq (.block 1 (af [iA 13 1 9 11,lD 14 13,mV 5 14] (af [mV 15 3,mV 16 5,lE 17 16,bB 18 .add 15 17,mV 3 18] (af [mV 19 3,bI 20 .lss 19 0] (Cd 20 (Rg [oN 21 (.GU 9 (.c (.str [108,101,110,32,111,117,116,32,111,102,32,114,97,110,103,101]))),⟨none,.halt,none⟩]) .skip))))) (Rg [bI 22 .add 11 1,mV 11 22]))))))) (af [mV 23 3,oN 24 (.call 155 [(.c nS),(.t 23)]),mV 6 24] (Sq (af [mV 25 0,lE 26 25,mI 27 0] (.block 2 (.loop (af [bB 28 .lss 27 26] (Sq (Cd 28 .skip (.exit 2)) (Sq (.block 3 (af [iA 29 1 25 27,lD 30 29,mV 8 30] (Rg [mV 31 6,mV 32 8,aP 33 1 8 31 32,mV 6 33]))) (Rg [bI 34 .add 27 1,mV 27 34]))))))) (af [mV 35 6,mV 2 35] .ret)))))),[(.t 2)]⟩
theorem Jd:Cm 153 c153:=⟨by kernel_rfl,by kernel_rfl⟩
def c154:au:=⟨2,27,(af [oN 4 (.dm (.c nS))] (Sq (af [mV 5 1,bI 6 .lss 5 0] (Cd 6 (Rg [oN 7 (.GU 9 (.c (.str [99,97,110,110,111,116,32,98,101,32,110,101,103,97,116,105,118,101]))),⟨none,.halt,none⟩]) .skip)) (Sq (af [mV 8 1,mV 9 0,oN 10 (.cap (.t 9)),mV 11 0,lE 12 11,bB 13 .sub 10 12,bB 14 .sub 8 13,mV 1 14] (af [mV 15 1,bI 16 .gtr 15 0] (Cd 16 (Rg [mV 17 0,mV 18 0,oN 19 (.cap (.t 18)),oN 20 (.slice 3 (.t 17) none (some (.t 19)) none),mV 21 1,oN 22 (.FK 3 32 [(.str []),(.v (.int .i64 0)),(.v (.int .i64 0))] (.t 20) (.t 21)),mV 23 0,lE 24 23,oN 25 (.slice 3 (.t 22) none (some (.t 24)) none),mV 0 25]) .skip))) (af [mV 26 0,mV 4 26] .ret)))),[(.t 4)]⟩
theorem Jc:Cm 154 c154:=⟨by kernel_rfl,by kernel_rfl⟩
def c155:au:=⟨2,27,(af [oN 4 (.dm (.c nS))] (Sq (af [mV 5 1,bI 6 .lss 5 0] (Cd 6 (Rg [oN 7 (.GU 9 (.c (.str [99,97,110,110,111,116,32,98,101,32,110,101,103,97,116,105,118,101]))),⟨none,.halt,none⟩]) .skip)) (Sq (af [mV 8 1,mV 9 0,oN 10 (.cap (.t 9)),mV 11 0,lE 12 11,bB 13 .sub 10 12,bB 14 .sub 8 13,mV 1 14] (af [mV 15 1,bI 16 .gtr 15 0] (Cd 16 (Rg [mV 17 0,mV 18 0,oN 19 (.cap (.t 18)),oN 20 (.slice 1 (.t 17) none (some (.t 19)) none),mV 21 1,oN 22 (.FK 1 8 [(.v (.int .i64 0))] (.t 20) (.t 21)),mV 23 0,lE 24 23,oN 25 (.slice 1 (.t 22) none (some (.t 24)) none),mV 0 25]) .skip))) (af [mV 26 0,mV 4 26] .ret)))),[(.t 4)]⟩
theorem Jb:Cm 155 c155:=⟨by kernel_rfl,by kernel_rfl⟩
end Go.Ai
namespace Go.Ai
open Go.Proofs
set_option maxRecDepth 100000
def Ou:Nat->Option au
 |5=>some c5
 |6=>some c6
 |10=>some c10
 |11=>some c11
 |12=>some c12
 |13=>some c13
 |14=>some c14
 |15=>some c15
 |16=>some c16
 |17=>some c17
 |18=>some c18
 |19=>some c19
 |20=>some c20
 |21=>some c21
 |22=>some c22
 |23=>some c23
 |25=>some c25
 |26=>some c26
 |27=>some c27
 |28=>some c28
 |29=>some c29
 |30=>some c30
 |31=>some c31
 |33=>some c33
 |35=>some c35
 |36=>some c36
 |37=>some c37
 |38=>some c38
 |39=>some c39
 |40=>some c40
 |41=>some c41
 |42=>some c42
 |43=>some c43
 |44=>some c44
 |45=>some c45
 |46=>some c46
 |47=>some c47
 |48=>some c48
 |49=>some c49
 |50=>some c50
 |51=>some c51
 |52=>some c52
 |53=>some c53
 |54=>some c54
 |55=>some c55
 |56=>some c56
 |57=>some c57
 |58=>some c58
 |59=>some c59
 |60=>some c60
 |61=>some c61
 |62=>some c62
 |63=>some c63
 |64=>some c64
 |65=>some c65
 |66=>some c66
 |67=>some c67
 |68=>some c68
 |69=>some c69
 |70=>some c70
 |71=>some c71
 |72=>some c72
 |73=>some c73
 |74=>some c74
 |75=>some c75
 |76=>some c76
 |77=>some c77
 |78=>some c78
 |79=>some c79
 |80=>some c80
 |81=>some c81
 |82=>some c82
 |83=>some c83
 |84=>some c84
 |85=>some c85
 |86=>some c86
 |87=>some c87
 |88=>some c88
 |89=>some c89
 |90=>some c90
 |91=>some c91
 |92=>some c92
 |93=>some c93
 |94=>some c94
 |95=>some c95
 |96=>some c96
 |97=>some c97
 |98=>some c98
 |99=>some c99
 |100=>some c100
 |101=>some c101
 |102=>some c102
 |103=>some c103
 |104=>some c104
 |105=>some c105
 |106=>some c106
 |107=>some c107
 |108=>some c108
 |109=>some c109
 |110=>some c110
 |111=>some c111
 |112=>some c112
 |113=>some c113
 |114=>some c114
 |119=>some c119
 |120=>some c120
 |121=>some c121
 |122=>some c122
 |123=>some c123
 |124=>some c124
 |125=>some c125
 |126=>some c126
 |127=>some c127
 |128=>some c128
 |129=>some c129
 |130=>some c130
 |131=>some c131
 |132=>some c132
 |133=>some c133
 |134=>some c134
 |135=>some c135
 |136=>some c136
 |139=>some c139
 |140=>some c140
 |141=>some c141
 |142=>some c142
 |144=>some c144
 |145=>some c145
 |146=>some c146
 |149=>some c149
 |150=>some c150
 |151=>some c151
 |152=>some c152
 |153=>some c153
 |154=>some c154
 |155=>some c155
 |_=>none
theorem abF:∀f cf,Ou f=some cf->gk Tryz.prog f=true/\∃ow,vQ Tryz.prog ow f=some cf:=by
 intro f cf h
 unfold Ou at h
 split at h
 ·cases h;exact ⟨PD.1,_,PD.2⟩
 ·cases h;exact ⟨UH.1,_,UH.2⟩
 ·cases h;exact ⟨Qe.1,_,Qe.2⟩
 ·cases h;exact ⟨Qd.1,_,Qd.2⟩
 ·cases h;exact ⟨Qc.1,_,Qc.2⟩
 ·cases h;exact ⟨Qb.1,_,Qb.2⟩
 ·cases h;exact ⟨Qa.1,_,Qa.2⟩
 ·cases h;exact ⟨P9.1,_,P9.2⟩
 ·cases h;exact ⟨P8.1,_,P8.2⟩
 ·cases h;exact ⟨P7.1,_,P7.2⟩
 ·cases h;exact ⟨P6.1,_,P6.2⟩
 ·cases h;exact ⟨P5.1,_,P5.2⟩
 ·cases h;exact ⟨P4.1,_,P4.2⟩
 ·cases h;exact ⟨P3.1,_,P3.2⟩
 ·cases h;exact ⟨P2.1,_,P2.2⟩
 ·cases h;exact ⟨P1.1,_,P1.2⟩
 ·cases h;exact ⟨P0.1,_,P0.2⟩
 ·cases h;exact ⟨PZ.1,_,PZ.2⟩
 ·cases h;exact ⟨PY.1,_,PY.2⟩
 ·cases h;exact ⟨PX.1,_,PX.2⟩
 ·cases h;exact ⟨PW.1,_,PW.2⟩
 ·cases h;exact ⟨PV.1,_,PV.2⟩
 ·cases h;exact ⟨PU.1,_,PU.2⟩
 ·cases h;exact ⟨PT.1,_,PT.2⟩
 ·cases h;exact ⟨PS.1,_,PS.2⟩
 ·cases h;exact ⟨PR.1,_,PR.2⟩
 ·cases h;exact ⟨PQ.1,_,PQ.2⟩
 ·cases h;exact ⟨PP.1,_,PP.2⟩
 ·cases h;exact ⟨PO.1,_,PO.2⟩
 ·cases h;exact ⟨PN.1,_,PN.2⟩
 ·cases h;exact ⟨PL.1,_,PL.2⟩
 ·cases h;exact ⟨XO,_,XD⟩
 ·cases h;exact ⟨PK.1,_,PK.2⟩
 ·cases h;exact ⟨PJ.1,_,PJ.2⟩
 ·cases h;exact ⟨PI.1,_,PI.2⟩
 ·cases h;exact ⟨PH.1,_,PH.2⟩
 ·cases h;exact ⟨PG.1,_,PG.2⟩
 ·cases h;exact ⟨PF.1,_,PF.2⟩
 ·cases h;exact ⟨PE.1,_,PE.2⟩
 ·cases h;exact ⟨PC.1,_,PC.2⟩
 ·cases h;exact ⟨Pz.1,_,Pz.2⟩
 ·cases h;exact ⟨Py.1,_,Py.2⟩
 ·cases h;exact ⟨Px.1,_,Px.2⟩
 ·cases h;exact ⟨Pw.1,_,Pw.2⟩
 ·cases h;exact ⟨Pv.1,_,Pv.2⟩
 ·cases h;exact ⟨Pu.1,_,Pu.2⟩
 ·cases h;exact ⟨Pt.1,_,Pt.2⟩
 ·cases h;exact ⟨Ps.1,_,Ps.2⟩
 ·cases h;exact ⟨Pq.1,_,Pq.2⟩
 ·cases h;exact ⟨Pp.1,_,Pp.2⟩
 ·cases h;exact ⟨Po.1,_,Po.2⟩
 ·cases h;exact ⟨Pn.1,_,Pn.2⟩
 ·cases h;exact ⟨Pm.1,_,Pm.2⟩
 ·cases h;exact ⟨Pl.1,_,Pl.2⟩
 ·cases h;exact ⟨Pk.1,_,Pk.2⟩
 ·cases h;exact ⟨Pj.1,_,Pj.2⟩
 ·cases h;exact ⟨Ph.1,_,Ph.2⟩
 ·cases h;exact ⟨Pe.1,_,Pe.2⟩
 ·cases h;exact ⟨Pd.1,_,Pd.2⟩
 ·cases h;exact ⟨XN,_,XC⟩
 ·cases h;exact ⟨Pc.1,_,Pc.2⟩
 ·cases h;exact ⟨Pb.1,_,Pb.2⟩
 ·cases h;exact ⟨Pa.1,_,Pa.2⟩
 ·cases h;exact ⟨O9.1,_,O9.2⟩
 ·cases h;exact ⟨Dm.1,_,Dm.2⟩
 ·cases h;exact ⟨Dl.1,_,Dl.2⟩
 ·cases h;exact ⟨Dk.1,_,Dk.2⟩
 ·cases h;exact ⟨Dj.1,_,Dj.2⟩
 ·cases h;exact ⟨O8.1,_,O8.2⟩
 ·cases h;exact ⟨O7.1,_,O7.2⟩
 ·cases h;exact ⟨O6.1,_,O6.2⟩
 ·cases h;exact ⟨O5.1,_,O5.2⟩
 ·cases h;exact ⟨O4.1,_,O4.2⟩
 ·cases h;exact ⟨O3.1,_,O3.2⟩
 ·cases h;exact ⟨O2.1,_,O2.2⟩
 ·cases h;exact ⟨O1.1,_,O1.2⟩
 ·cases h;exact ⟨O0.1,_,O0.2⟩
 ·cases h;exact ⟨OZ.1,_,OZ.2⟩
 ·cases h;exact ⟨OY.1,_,OY.2⟩
 ·cases h;exact ⟨OX.1,_,OX.2⟩
 ·cases h;exact ⟨OW.1,_,OW.2⟩
 ·cases h;exact ⟨OV.1,_,OV.2⟩
 ·cases h;exact ⟨OU.1,_,OU.2⟩
 ·cases h;exact ⟨OT.1,_,OT.2⟩
 ·cases h;exact ⟨OS.1,_,OS.2⟩
 ·cases h;exact ⟨OR.1,_,OR.2⟩
 ·cases h;exact ⟨OQ.1,_,OQ.2⟩
 ·cases h;exact ⟨OP.1,_,OP.2⟩
 ·cases h;exact ⟨OO.1,_,OO.2⟩
 ·cases h;exact ⟨JU.1,_,JU.2⟩
 ·cases h;exact ⟨JT.1,_,JT.2⟩
 ·cases h;exact ⟨JS.1,_,JS.2⟩
 ·cases h;exact ⟨JR.1,_,JR.2⟩
 ·cases h;exact ⟨JQ.1,_,JQ.2⟩
 ·cases h;exact ⟨JP.1,_,JP.2⟩
 ·cases h;exact ⟨JO.1,_,JO.2⟩
 ·cases h;exact ⟨SZ,_,SQ⟩
 ·cases h;exact ⟨JN.1,_,JN.2⟩
 ·cases h;exact ⟨JM.1,_,JM.2⟩
 ·cases h;exact ⟨JL.1,_,JL.2⟩
 ·cases h;exact ⟨JK.1,_,JK.2⟩
 ·cases h;exact ⟨JJ.1,_,JJ.2⟩
 ·cases h;exact ⟨JI.1,_,JI.2⟩
 ·cases h;exact ⟨JH.1,_,JH.2⟩
 ·cases h;exact ⟨JG.1,_,JG.2⟩
 ·cases h;exact ⟨JF.1,_,JF.2⟩
 ·cases h;exact ⟨JE.1,_,JE.2⟩
 ·cases h;exact ⟨JD.1,_,JD.2⟩
 ·cases h;exact ⟨JC.1,_,JC.2⟩
 ·cases h;exact ⟨JB.1,_,JB.2⟩
 ·cases h;exact ⟨JA.1,_,JA.2⟩
 ·cases h;exact ⟨Jz.1,_,Jz.2⟩
 ·cases h;exact ⟨Jy.1,_,Jy.2⟩
 ·cases h;exact ⟨Jx.1,_,Jx.2⟩
 ·cases h;exact ⟨Jw.1,_,Jw.2⟩
 ·cases h;exact ⟨Jv.1,_,Jv.2⟩
 ·cases h;exact ⟨Ju.1,_,Ju.2⟩
 ·cases h;exact ⟨Jt.1,_,Jt.2⟩
 ·cases h;exact ⟨Js.1,_,Js.2⟩
 ·cases h;exact ⟨Jr.1,_,Jr.2⟩
 ·cases h;exact ⟨Jq.1,_,Jq.2⟩
 ·cases h;exact ⟨Jp.1,_,Jp.2⟩
 ·cases h;exact ⟨Jo.1,_,Jo.2⟩
 ·cases h;exact ⟨Jn.1,_,Jn.2⟩
 ·cases h;exact ⟨Jm.1,_,Jm.2⟩
 ·cases h;exact ⟨Jl.1,_,Jl.2⟩
 ·cases h;exact ⟨Jk.1,_,Jk.2⟩
 ·cases h;exact ⟨Jj.1,_,Jj.2⟩
 ·cases h;exact ⟨Ji.1,_,Ji.2⟩
 ·cases h;exact ⟨Jh.1,_,Jh.2⟩
 ·cases h;exact ⟨Jg.1,_,Jg.2⟩
 ·cases h;exact ⟨Jf.1,_,Jf.2⟩
 ·cases h;exact ⟨Je.1,_,Je.2⟩
 ·cases h;exact ⟨Jd.1,_,Jd.2⟩
 ·cases h;exact ⟨Jc.1,_,Jc.2⟩
 ·cases h;exact ⟨Jb.1,_,Jb.2⟩
 ·cases h
def M9:Nat->Bool
 |75=>true
 |76=>true
 |77=>true
 |78=>true
 |_=>false
def uS:Nat->Option Ta
 |143=>some (.same)
 |_=>none
theorem Xs:uS 143=some (.same):=(rfl)
noncomputable def Td:Func:=(Tryz.prog.funcs[143]?).getD default
theorem ZF:Tryz.prog.funcs[143]?=some Td:=by kernel_rfl
theorem Xr:UX Tryz.prog uS:=by
 refine ⟨fun f h => ?_,fun f t h => ?_,fun f h => ?_⟩
 ·unfold uS at h
  split at h
  ·exact ⟨Td,ZF,by kernel_rfl,by kernel_rfl,by kernel_rfl,by kernel_rfl⟩
  ·cases h
 ·unfold uS at h
  split at h<;>cases h
 ·unfold uS at h
  split at h<;>cases h
def UU (A B:aQ):aQ:=fun f a h n v h' n' k=>A f a h n v h' n' k\/B f a h n v h' n' k
theorem MO {P:Program} {A B:aQ} (hA:de P A) (hB:de P B):de P (UU A B) :=
 ⟨fun f a h n v h' n' k r=>r.elim (hA.kind f a h n v h' n' k) (hB.kind f a h n v h' n' k),
  fun f a h n v h' n' r=>by
  rcases r with r|r
  ·obtain ⟨e1,e2,e3⟩:=hA.pure f a h n v h' n' r
   exact ⟨e1,e2,fun aT ar=>.inl (e3 aT ar)⟩
  ·obtain ⟨e1,e2,e3⟩:=hB.pure f a h n v h' n' r
   exact ⟨e1,e2,fun aT ar=>.inr (e3 aT ar)⟩,
  fun f a h n v h' n' k r=>r.elim (hA.calls f a h n v h' n' k) (hB.calls f a h n v h' n' k)⟩
def E:Env:=⟨Ou,UU (LiftRel E0 M9) (pW uS)⟩
theorem e5:E.fn 5=some c5:=(rfl)
theorem e6:E.fn 6=some c6:=(rfl)
theorem e10:E.fn 10=some c10:=(rfl)
theorem e11:E.fn 11=some c11:=(rfl)
theorem e12:E.fn 12=some c12:=(rfl)
theorem e13:E.fn 13=some c13:=(rfl)
theorem e14:E.fn 14=some c14:=(rfl)
theorem e15:E.fn 15=some c15:=(rfl)
theorem e16:E.fn 16=some c16:=(rfl)
theorem e17:E.fn 17=some c17:=(rfl)
theorem e18:E.fn 18=some c18:=(rfl)
theorem e19:E.fn 19=some c19:=(rfl)
theorem e20:E.fn 20=some c20:=(rfl)
theorem e21:E.fn 21=some c21:=(rfl)
theorem e22:E.fn 22=some c22:=(rfl)
theorem e23:E.fn 23=some c23:=(rfl)
theorem e25:E.fn 25=some c25:=(rfl)
theorem e26:E.fn 26=some c26:=(rfl)
theorem e27:E.fn 27=some c27:=(rfl)
theorem e28:E.fn 28=some c28:=(rfl)
theorem e29:E.fn 29=some c29:=(rfl)
theorem e30:E.fn 30=some c30:=(rfl)
theorem e31:E.fn 31=some c31:=(rfl)
theorem e33:E.fn 33=some c33:=(rfl)
theorem e35:E.fn 35=some c35:=(rfl)
theorem e36:E.fn 36=some c36:=(rfl)
theorem e37:E.fn 37=some c37:=(rfl)
theorem e38:E.fn 38=some c38:=(rfl)
theorem e39:E.fn 39=some c39:=(rfl)
theorem e40:E.fn 40=some c40:=(rfl)
theorem e41:E.fn 41=some c41:=(rfl)
theorem e42:E.fn 42=some c42:=(rfl)
theorem e43:E.fn 43=some c43:=(rfl)
theorem e44:E.fn 44=some c44:=(rfl)
theorem e45:E.fn 45=some c45:=(rfl)
theorem e46:E.fn 46=some c46:=(rfl)
theorem e47:E.fn 47=some c47:=(rfl)
theorem e48:E.fn 48=some c48:=(rfl)
theorem e49:E.fn 49=some c49:=(rfl)
theorem e50:E.fn 50=some c50:=(rfl)
theorem e51:E.fn 51=some c51:=(rfl)
theorem e52:E.fn 52=some c52:=(rfl)
theorem e53:E.fn 53=some c53:=(rfl)
theorem e54:E.fn 54=some c54:=(rfl)
theorem e55:E.fn 55=some c55:=(rfl)
theorem e56:E.fn 56=some c56:=(rfl)
theorem e57:E.fn 57=some c57:=(rfl)
theorem e58:E.fn 58=some c58:=(rfl)
theorem e59:E.fn 59=some c59:=(rfl)
theorem e60:E.fn 60=some c60:=(rfl)
theorem e61:E.fn 61=some c61:=(rfl)
theorem e62:E.fn 62=some c62:=(rfl)
theorem e63:E.fn 63=some c63:=(rfl)
theorem e64:E.fn 64=some c64:=(rfl)
theorem e65:E.fn 65=some c65:=(rfl)
theorem e66:E.fn 66=some c66:=(rfl)
theorem e67:E.fn 67=some c67:=(rfl)
theorem e68:E.fn 68=some c68:=(rfl)
theorem e69:E.fn 69=some c69:=(rfl)
theorem e70:E.fn 70=some c70:=(rfl)
theorem e71:E.fn 71=some c71:=(rfl)
theorem e72:E.fn 72=some c72:=(rfl)
theorem e73:E.fn 73=some c73:=(rfl)
theorem e75:E.fn 75=some c75:=(rfl)
theorem e76:E.fn 76=some c76:=(rfl)
theorem e74:E.fn 74=some c74:=(rfl)
theorem e79:E.fn 79=some c79:=(rfl)
theorem e80:E.fn 80=some c80:=(rfl)
theorem e81:E.fn 81=some c81:=(rfl)
theorem e82:E.fn 82=some c82:=(rfl)
theorem e83:E.fn 83=some c83:=(rfl)
theorem e84:E.fn 84=some c84:=(rfl)
theorem e85:E.fn 85=some c85:=(rfl)
theorem e86:E.fn 86=some c86:=(rfl)
theorem e87:E.fn 87=some c87:=(rfl)
theorem e88:E.fn 88=some c88:=(rfl)
theorem e89:E.fn 89=some c89:=(rfl)
theorem e90:E.fn 90=some c90:=(rfl)
theorem e91:E.fn 91=some c91:=(rfl)
theorem e92:E.fn 92=some c92:=(rfl)
theorem e93:E.fn 93=some c93:=(rfl)
theorem e94:E.fn 94=some c94:=(rfl)
theorem e95:E.fn 95=some c95:=(rfl)
theorem e96:E.fn 96=some c96:=(rfl)
theorem e97:E.fn 97=some c97:=(rfl)
theorem e98:E.fn 98=some c98:=(rfl)
theorem e99:E.fn 99=some c99:=(rfl)
theorem e100:E.fn 100=some c100:=(rfl)
theorem e101:E.fn 101=some c101:=(rfl)
theorem e102:E.fn 102=some c102:=(rfl)
theorem e103:E.fn 103=some c103:=(rfl)
theorem e104:E.fn 104=some c104:=(rfl)
theorem e105:E.fn 105=some c105:=(rfl)
theorem e106:E.fn 106=some c106:=(rfl)
theorem e107:E.fn 107=some c107:=(rfl)
theorem e108:E.fn 108=some c108:=(rfl)
theorem e109:E.fn 109=some c109:=(rfl)
theorem e110:E.fn 110=some c110:=(rfl)
theorem e111:E.fn 111=some c111:=(rfl)
theorem e112:E.fn 112=some c112:=(rfl)
theorem e113:E.fn 113=some c113:=(rfl)
theorem e114:E.fn 114=some c114:=(rfl)
theorem e119:E.fn 119=some c119:=(rfl)
theorem e120:E.fn 120=some c120:=(rfl)
theorem e121:E.fn 121=some c121:=(rfl)
theorem e122:E.fn 122=some c122:=(rfl)
theorem e123:E.fn 123=some c123:=(rfl)
theorem e124:E.fn 124=some c124:=(rfl)
theorem e125:E.fn 125=some c125:=(rfl)
theorem e126:E.fn 126=some c126:=(rfl)
theorem e127:E.fn 127=some c127:=(rfl)
theorem e128:E.fn 128=some c128:=(rfl)
theorem e129:E.fn 129=some c129:=(rfl)
theorem e130:E.fn 130=some c130:=(rfl)
theorem e131:E.fn 131=some c131:=(rfl)
theorem e132:E.fn 132=some c132:=(rfl)
theorem e133:E.fn 133=some c133:=(rfl)
theorem e134:E.fn 134=some c134:=(rfl)
theorem e135:E.fn 135=some c135:=(rfl)
theorem e136:E.fn 136=some c136:=(rfl)
theorem e139:E.fn 139=some c139:=(rfl)
theorem e140:E.fn 140=some c140:=(rfl)
theorem e141:E.fn 141=some c141:=(rfl)
theorem e142:E.fn 142=some c142:=(rfl)
theorem e144:E.fn 144=some c144:=(rfl)
theorem e145:E.fn 145=some c145:=(rfl)
theorem e146:E.fn 146=some c146:=(rfl)
theorem e149:E.fn 149=some c149:=(rfl)
theorem e150:E.fn 150=some c150:=(rfl)
theorem e151:E.fn 151=some c151:=(rfl)
theorem e152:E.fn 152=some c152:=(rfl)
theorem e153:E.fn 153=some c153:=(rfl)
theorem e154:E.fn 154=some c154:=(rfl)
theorem e155:E.fn 155=some c155:=(rfl)
theorem mixed:Tryz.prog.follows .mixedOrders=true:=by kernel_rfl
theorem afT:Av Tryz.prog E:=⟨abF,MO (GZ acY VJ M9) (LD Xr)⟩
theorem Vl (x:AV) (hp nx):aY E 143 [x] hp nx x hp nx .p:=uk (.inr (by unfold pW;rw[Xs];exact ⟨rfl,rfl,rfl,rfl⟩))
@[congr] theorem acU {R f a a' hp nx K} (h:a=a'):gQ R f a hp nx K=gQ R f a' hp nx K:=by rw[h]
@[simp ↓] theorem afN {R Q s}:W R .skip Q s=Q .normal s:=(rfl)
@[simp ↓] theorem acG {R ops Q tm hp nx}:W R (.region ops) Q ⟨tm,hp,nx⟩=gq R ops ⟨tm,hp,nx⟩ (Q .normal):=(rfl)
def UF (pre:List (List Nat)) (Q:eS->St->Prop) (s:St) (bj:List Rec):Prop:=cZ pre bj/\Q .normal s
@[simp ↓] theorem afP {R pre ops Q tm hp nx}:W R (.draw pre ops) Q ⟨tm,hp,nx⟩=eg R ops ⟨tm,hp,nx⟩ [] (UF pre Q):=(rfl)
@[simp ↓] theorem UE {pre Q tm hp nx bj}:UF pre Q ⟨tm,hp,nx⟩ bj=(cZ pre bj/\Q .normal ⟨tm,hp,nx⟩):=(rfl)
@[simp ↓] theorem agi {R Q s}:W R .ret Q s=Q .ret s:=(rfl)
@[simp ↓] theorem afO {R Q s i}:W R (.exit i) Q s=Q (.exit i) s:=(rfl)
def Ks (R:aQ) (b:cC) (Q:eS->St->Prop) (e:eS) (s:St):Prop:=match e with | .normal=>W R b Q s|e=>Q e s
def LY (id:Nat) (Q:eS->St->Prop) (e:eS) (s:St):Prop:=match e with
  |.exit i=>if i=id then Q .normal s else Q (.exit i) s
  |e=>Q e s
@[simp ↓] theorem To {R b Q s}:Ks R b Q .normal s=W R b Q s:=(rfl)
@[simp ↓] theorem Yb {R b Q s i}:Ks R b Q (.exit i) s=Q (.exit i) s:=(rfl)
@[simp ↓] theorem ZW {R b Q s}:Ks R b Q .ret s=Q .ret s:=(rfl)
@[simp ↓] theorem UM {id Q s}:LY id Q .normal s=Q .normal s:=(rfl)
@[simp ↓] theorem acr {id Q s}:LY id Q .ret s=Q .ret s:=(rfl)
@[simp ↓] theorem Zf {id Q s i}:LY id Q (.exit i) s=if i=id then Q .normal s else Q (.exit i) s:=(rfl)
@[simp ↓] theorem agh {R a b Q s}:W R (.seq a b) Q s=W R a (Ks R b Q) s:=(rfl)
@[simp ↓] theorem nW {R id a Q s}:W R (.block id a) Q s=W R a (LY id Q) s:=(rfl)
def Fy (R:aQ) (c:AV) (a b:cC) (Q:eS->St->Prop) (tm:Nat->AV) (hp:Heap) (nx:Nat):Prop:=match c with
  |.v (.bool t)=>if t then W R a Q ⟨tm,hp,nx⟩ else W R b Q ⟨tm,hp,nx⟩
  |_=>False
@[simp ↓] theorem adw {R a b Q tm hp nx}:Fy R (.v (.bool true)) a b Q tm hp nx=W R a Q ⟨tm,hp,nx⟩:=(rfl)
@[simp ↓] theorem adx {R a b Q tm hp nx}:Fy R (.v (.bool false)) a b Q tm hp nx=W R b Q ⟨tm,hp,nx⟩:=(rfl)
@[congr] theorem acb {R c c' a b Q tm hp nx} (h:c=c'):Fy R c a b Q tm hp nx=Fy R c' a b Q tm hp nx:=by rw[h]
@[simp ↓] theorem afQ {R c a b Q tm hp nx}:W R (.cond c a b) Q ⟨tm,hp,nx⟩=Fy R (ev tm c) a b Q tm hp nx:=(rfl)
@[simp ↓] theorem acH {R s Q}:gq R [] s Q=Q s:=(rfl)
def RM (R:aQ) (rest:List aL) (tm:Nat->AV) (d:Nat) (Q:St->Prop) (v:AV) (hp:Heap) (nx:Nat) (k:Kd):Prop:=gq R rest ⟨jY tm d v,hp,nx⟩ Q
def TA (R:aQ) (rest:List aL) (tm:Nat->AV) (Q:St->Prop) (v:AV) (hp:Heap) (nx:Nat) (k:Kd):Prop:=gq R rest ⟨tm,hp,nx⟩ Q
@[simp ↓] theorem VY {R rest tm d Q v hp nx k}:RM R rest tm d Q v hp nx k=gq R rest ⟨jY tm d v,hp,nx⟩ Q:=(rfl)
@[simp ↓] theorem Tz {R rest tm Q v hp nx k}:TA R rest tm Q v hp nx k=gq R rest ⟨tm,hp,nx⟩ Q:=(rfl)
@[simp ↓] theorem Zl {R d op rest tm hp nx Q}:gq R (⟨some d,op,none⟩::rest) ⟨tm,hp,nx⟩ Q=ey R op ⟨tm,hp,nx⟩ (RM R rest tm d Q):=(rfl)
@[simp ↓] theorem XT {R op rest tm hp nx Q}:gq R (⟨none,op,none⟩::rest) ⟨tm,hp,nx⟩ Q=ey R op ⟨tm,hp,nx⟩ (TA R rest tm Q):=(rfl)
def C1 (x:AV) (w:Bool) (p q:Prop):Prop:=match x with
 |.v (.bool b)=>if b=w then p else q
 |.v (.tuple _)=>q
 |_=>False
theorem E6 {tm:Nat->AV} {g:Nat} {w:Bool} {p q:Prop}:(match gR tm (some (g,w)) with|some true=>p|some false=>q|none=>False)=C1 (tm g) w p q:=by
 simp only[gR,C1]
 generalize tm g=x
 cases x with
 |v x =>
  cases x<;>try rfl
  rename_i b;cases b<;>cases w<;>simp
 |_=>rfl
def pE (R:aQ) (x:AV) (w:Bool) (op:jg) (rest:List aL) (d:Option Nat) (Q:St->Prop) (tm:Nat->AV) (hp:Heap) (nx:Nat):Prop :=
 C1 x w (ey R op ⟨tm,hp,nx⟩ (fun v hp nx _=>gq R rest (St.put ⟨tm,hp,nx⟩ d v hp nx) Q)) (gq R rest (St.put ⟨tm,hp,nx⟩ d (.v undef) hp nx) Q)
@[congr] theorem YQ {R x x' w op rest d Q tm hp nx} (h:x=x'):pE R x w op rest d Q tm hp nx=pE R x' w op rest d Q tm hp nx:=by rw[h]
section
variable {R:aQ} {op:jg} {rest:List aL} {d:Nat} {Q:St->Prop} {tm:Nat->AV} {hp:Heap} {nx:Nat}
@[simp ↓] theorem YO:pE R (.v (.bool true)) true op rest (some d) Q tm hp nx=ey R op ⟨tm,hp,nx⟩ (RM R rest tm d Q):=(rfl)
@[simp ↓] theorem YS:pE R (.v (.bool false)) false op rest (some d) Q tm hp nx=ey R op ⟨tm,hp,nx⟩ (RM R rest tm d Q):=(rfl)
@[simp ↓] theorem YP:pE R (.v (.bool true)) false op rest (some d) Q tm hp nx=gq R rest ⟨jY tm d (.v undef),hp,nx⟩ Q:=(rfl)
@[simp ↓] theorem YR:pE R (.v (.bool false)) true op rest (some d) Q tm hp nx=gq R rest ⟨jY tm d (.v undef),hp,nx⟩ Q:=(rfl)
@[simp ↓] theorem abz {w}:pE R (.v undef) w op rest (some d) Q tm hp nx=gq R rest ⟨jY tm d (.v undef),hp,nx⟩ Q:=(rfl)
@[simp ↓] theorem Zk {d g w}:gq R (⟨d,op,some (g,w)⟩::rest) ⟨tm,hp,nx⟩ Q=pE R (tm g) w op rest d Q tm hp nx:=by
 rw[gq];exact E6
end
@[simp ↓] theorem Zz {R s bj Q}:eg R [] s bj Q=Q s bj:=(rfl)
def yC (R:aQ) (rest:List aL) (tm:Nat->AV) (d:Option Nat) (oC:Heap) (bj:List Rec) (Q:St->List Rec->Prop) (v:AV) (hp:Heap) (nx:Nat) (k:Kd):Prop:=eg R rest (St.put ⟨tm,hp,nx⟩ d v hp nx) (bj++[⟨k,oC,hp⟩]) Q
@[simp ↓] theorem TB {R rest tm d oC bj Q v hp nx k}:yC R rest tm (some d) oC bj Q v hp nx k=eg R rest ⟨jY tm d v,hp,nx⟩ (bj++[⟨k,oC,hp⟩]) Q:=(rfl)
@[simp ↓] theorem RN {R rest tm oC bj Q v hp nx k}:yC R rest tm none oC bj Q v hp nx k=eg R rest ⟨tm,hp,nx⟩ (bj++[⟨k,oC,hp⟩]) Q:=(rfl)
@[simp ↓] theorem X2 {R d op rest tm hp nx Q bj}:eg R (⟨d,op,none⟩::rest) ⟨tm,hp,nx⟩ bj Q=ey R op ⟨tm,hp,nx⟩ (yC R rest tm d hp bj Q):=by cases d<;>rfl
def pG (R:aQ) (x:AV) (w:Bool) (op:jg) (rest:List aL) (d:Option Nat) (bj:List Rec) (Q:St->List Rec->Prop) (tm:Nat->AV) (hp:Heap) (nx:Nat):Prop :=
 C1 x w (ey R op ⟨tm,hp,nx⟩ (yC R rest tm d hp bj Q)) (eg R rest (St.put ⟨tm,hp,nx⟩ d (.v undef) hp nx) (bj++[⟨.p,hp,hp⟩]) Q)
@[congr] theorem YV {R x x' w op rest d bj Q tm hp nx} (h:x=x'):pG R x w op rest d bj Q tm hp nx=pG R x' w op rest d bj Q tm hp nx:=by rw[h]
section
variable {R:aQ} {op:jg} {rest:List aL} {d:Nat} {Q:St->List Rec->Prop} {tm:Nat->AV} {hp:Heap} {nx:Nat} {bj:List Rec}
@[simp ↓] theorem YT {d}:pG R (.v (.bool true)) true op rest d bj Q tm hp nx=ey R op ⟨tm,hp,nx⟩ (yC R rest tm d hp bj Q):=(rfl)
@[simp ↓] theorem YX {d}:pG R (.v (.bool false)) false op rest d bj Q tm hp nx=ey R op ⟨tm,hp,nx⟩ (yC R rest tm d hp bj Q):=(rfl)
@[simp ↓] theorem YU:pG R (.v (.bool true)) false op rest (some d) bj Q tm hp nx=eg R rest ⟨jY tm d (.v undef),hp,nx⟩ (bj++[⟨.p,hp,hp⟩]) Q:=(rfl)
@[simp ↓] theorem YW:pG R (.v (.bool false)) true op rest (some d) bj Q tm hp nx=eg R rest ⟨jY tm d (.v undef),hp,nx⟩ (bj++[⟨.p,hp,hp⟩]) Q:=(rfl)
@[simp ↓] theorem abA {w}:pG R (.v undef) w op rest (some d) bj Q tm hp nx=eg R rest ⟨jY tm d (.v undef),hp,nx⟩ (bj++[⟨.p,hp,hp⟩]) Q:=(rfl)
@[simp ↓] theorem X1 {d g w}:eg R (⟨d,op,some (g,w)⟩::rest) ⟨tm,hp,nx⟩ bj Q=pG R (tm g) w op rest d bj Q tm hp nx:=by
 rw[eg]
 have:(fun v hp' nx' k=>eg R rest (St.put ⟨tm,hp,nx⟩ d v hp' nx') (bj++[⟨k,hp,hp'⟩]) Q)=yC R rest tm d hp bj Q:=by
  funext v hp' nx' k;cases d<;>rfl
 rw[this];exact E6
end
@[simp ↓] theorem agB {tm n}:ev tm (.t n)=tm n:=(rfl)
@[simp ↓] theorem agC {tm x}:ev tm (.c x)=x:=(rfl)
@[simp] theorem abX {tm}:HG tm none=none:=(rfl)
@[simp] theorem abW {tm x}:HG tm (some x)=some (ev tm x):=(rfl)
@[simp ↓] theorem U7 {f:Nat->AV} {t v x}:jY f t v x=if x=t then v else f x:=(rfl)
@[simp] theorem adk {args hp nx}:init args hp nx=⟨fun t=>(args[t]?).getD .any,hp,nx⟩:=(rfl)
def Kd.quiet:Kd->Bool
 |.e=>false
 |.a=>false
 |_=>true
def gX (l:List Rec):Bool:=l.all (·.k.quiet)
@[simp ↓] theorem Vo:gX []=true:=(rfl)
@[simp ↓] theorem Tr {l k h h'}:gX (l++[⟨k,h,h'⟩])=(k.quiet&&gX l):=by simp[gX,Bool.and_comm]
@[simp ↓] theorem ac5:Kd.quiet .p=true:=(rfl)
@[simp ↓] theorem ac4 {x}:Kd.quiet (.r x)=true:=(rfl)
@[simp ↓] theorem ac6:Kd.quiet .e=false:=(rfl)
@[simp ↓] theorem ac7:Kd.quiet .a=false:=(rfl)
theorem pM {p:List Nat} {b:Rec} (hb:b.k.quiet=true):∀(l:List Rec) (i:Nat),gX l=true->cZ.one p b l i
 |[],i,_=>trivial
 |a::r,i,h=>by
  simp only[gX,List.all_cons,zN]at h
  refine ⟨?_,pM hb r (i+1) h.2⟩
  split
  ·trivial
  ·obtain ⟨ka,_,_⟩:=a;obtain ⟨kb,_,_⟩:=b
   cases ka<;>cases kb<;>first|trivial|(simp[Kd.quiet]at h)|(simp[Kd.quiet]at hb)
theorem sC:∀(bj:List Rec) (pre:List (List Nat)) (done:List Rec) (j:Nat),gX bj=true->gX done=true->bj.length<=pre.length->cZ.go pre bj done j
 |[],pre,done,j,_,_,_=>by cases pre<;>trivial
 |b::r,[],done,j,_,_,h=>by simp at h
 |b::r,p::ps,done,j,h1,h2,h3=>by
  simp only[gX,List.all_cons,zN]at h1
  exact ⟨pM h1.1 done 0 h2,sC r ps (done++[b]) (j+1) h1.2 (by simp only[gX,List.all_append,zN];exact ⟨h2,by simpa using h1.1⟩) (by simpa using h3)⟩
@[simp ↓] theorem Ek {l k h h'}:gX (⟨k,h,h'⟩::l)=(k.quiet&&gX l):=by simp[gX]
def Ey (l:List Rec):Nat:=l.length
@[simp ↓] theorem aaz:Ey []=0:=(rfl)
@[simp ↓] theorem Yq {l x}:Ey (x::l)=Ey l+1:=by simp[Ey]
@[simp ↓] theorem Yp {l x}:Ey (l++[x])=Ey l+1:=by simp[Ey]
def CA (l:List Rec):Bool:=l.all fun r => !r.k.IH
@[simp ↓] theorem aai:CA []=true:=(rfl)
@[simp ↓] theorem Bm {l k h h'}:CA (⟨k,h,h'⟩::l)=(!k.IH&&CA l):=(rfl)
@[simp ↓] theorem Yi {l k h h'}:CA (l++[⟨k,h,h'⟩])=(!k.IH&&CA l):=by simp[CA,Bool.and_comm]
@[simp ↓] theorem af0:Kd.IH .p=false:=(rfl)
@[simp ↓] theorem afZ {x}:Kd.IH (.r x)=false:=(rfl)
@[simp ↓] theorem af1:Kd.IH .e=false:=(rfl)
@[simp ↓] theorem af2:Kd.IH .a=true:=(rfl)
@[simp ↓] theorem agb:Kd.xJ .p=false:=(rfl)
@[simp ↓] theorem aga {x}:Kd.xJ (.r x)=false:=(rfl)
@[simp ↓] theorem agc:Kd.xJ .e=true:=(rfl)
@[simp ↓] theorem agd:Kd.xJ .a=true:=(rfl)
def Ut (l:List Rec):List (Bool×Bool):=l.map fun r=>(r.k.IH,r.k.xJ)
@[simp ↓] theorem adm:Ut []=[]:=(rfl)
@[simp ↓] theorem Ov {l k h h'}:Ut (⟨k,h,h'⟩::l)=(k.IH,k.xJ)::Ut l:=(rfl)
@[simp ↓] theorem abG {l k h h'}:Ut (l++[⟨k,h,h'⟩])=Ut l++[(k.IH,k.xJ)]:=by simp[Ut]
@[simp] theorem UQ {pre lJ i}:iW pre [] lJ i=true:=(rfl)
@[simp ↓] theorem L3 {pre e r lJ i}:iW pre ((false,e)::r) lJ i=iW pre r (if e then lJ++[i] else lJ) (i+1):=(rfl)
@[simp ↓] theorem Zi {pre e r lJ i}:iW pre ((true,e)::r) lJ i=((pre.all fun p=>if p.contains i then lJ.all fun k=>p.contains k else true)&&iW pre r (if e then lJ++[i] else lJ) (i+1)):=(rfl)
theorem pR {pre:List (List Nat)}:∀(l:List Rec) (lJ:List Nat) (i:Nat),CA l=true->iW pre (Ut l) lJ i=true
 |[],_,_,_=>rfl
 |⟨k,h,h'⟩::r,lJ,i,hn=>by
  rw[Bm,zN]at hn
  have hk:k.IH=false:=by simpa using hn.1
  rw[Ov,hk,L3]
  exact pR r _ _ hn.2
theorem Bi:∀(l:List Rec),gX l=true->CA l=true
 |[],_=>rfl
 |⟨k,h,h'⟩::r,hq=>by
  rw[Ek,zN]at hq
  rw[Bm,Bi r hq.2]
  cases k<;>first|rfl|(simp[Kd.quiet]at hq)
@[simp ↓] theorem XI {pre bj}:cZ pre bj=if gX bj=true/\Ey bj<=pre.length then True else (cZ.go pre bj [] 0/\if CA bj=true then True else iW pre (Ut bj) [] 0=true):=by
 split
 ·rename_i h;exact eq_true ⟨sC bj pre [] 0 h.1 rfl h.2,pR bj [] 0 (Bi bj h.1)⟩
 ·split
  ·rename_i h;exact propext ⟨fun h1=>⟨h1.1,trivial⟩,fun h1=>⟨h1.1,pR bj [] 0 h⟩⟩
  ·rfl
@[simp] theorem UJ {pre done j}:cZ.go pre [] done j=True:=by cases pre<;>rfl
@[simp] theorem SY {p ps b rest done j}:cZ.go (p::ps) (b::rest) done j=(cZ.one p b done 0/\cZ.go ps rest (done++[b]) (j+1)):=(rfl)
@[simp] theorem SX {p b i}:cZ.one p b [] i=True:=(rfl)
@[simp] theorem Rf {p b a rest i}:cZ.one p b (a::rest) i=((if p.contains i then True else gz a b)/\cZ.one p b rest (i+1)):=(rfl)
@[simp] theorem adC {b hp hp'}:gz ⟨.p,hp,hp'⟩ b=True:=by cases b with|mk k _ _=>cases k<;>rfl
@[simp] theorem ack {a hp hp'}:gz a ⟨.p,hp,hp'⟩=True:=by cases a with|mk k _ _=>cases k<;>rfl
@[simp] theorem ach {x y hp hp' gp LB}:gz ⟨.r x,hp,hp'⟩ ⟨.r y,gp,LB⟩=True:=(rfl)
@[simp] theorem aci {x hp hp' gp LB}:gz ⟨.r x,hp,hp'⟩ ⟨.e,gp,LB⟩=(gp x=LB x):=(rfl)
@[simp] theorem acm {x hp hp' gp LB}:gz ⟨.e,hp,hp'⟩ ⟨.r x,gp,LB⟩=(hp x=hp' x):=(rfl)
@[simp] theorem acn {hp hp' gp LB}:gz ⟨.e,hp,hp'⟩ ⟨.a,gp,LB⟩=True:=(rfl)
@[simp] theorem aco {hp hp' gp LB}:gz ⟨.a,hp,hp'⟩ ⟨.a,gp,LB⟩=True:=(rfl)
@[simp] theorem acj {x hp hp' gp LB}:gz ⟨.r x,hp,hp'⟩ ⟨.a,gp,LB⟩=(gp x=LB x):=(rfl)
def o9 (x:Option AV) (hp:Heap) (nx:Nat) (K:AV->Heap->Nat->Kd->Prop):Prop :=
 match x with|some v=>K v hp nx .p|none=>False
@[congr] theorem ael {x x' hp nx K} (h:x=x'):o9 x hp nx K=o9 x' hp nx K:=by rw[h]
@[simp ↓] theorem aan {v hp nx K}:o9 (some v) hp nx K=K v hp nx .p:=(rfl)
@[simp ↓] theorem aao {hp nx K}:o9 none hp nx K=False:=(rfl)
@[simp] theorem adh {p:Prop} [Decidable p] {v hp nx K}:o9 (if p then some v else none) hp nx K=(p/\K v hp nx .p):=by
 split<;>rename_i h<;>simp[h]
def mvM (x:AV) (hp:Heap) (nx:Nat) (K:AV->Heap->Nat->Kd->Prop):Prop:=K x hp nx .p
@[congr] theorem aeh {x x' hp nx K} (h:x=x'):mvM x hp nx K=mvM x' hp nx K:=by rw[h]
@[simp] theorem aei {x hp nx K}:mvM x hp nx K=K x hp nx .p:=(rfl)
def Ts (c a b:AV):Option AV:=match c with | .v (.bool t)=>some (if t then a else b)|_=>none
def Ox (x:AV) (off:Nat):Option AV:=match x with
  |.ptr r i o=>some (.ptr r i (o+off))
  |.rp cells=>some (.rp (cells.drop off))
  |_=>none
def Tm (x:AV):Option AV:=match x with
  |.str s=>some (.int .i64 s.length)
  |_=>none
def tM (x:AV):Option AV:=match x with
  |.sl _ _ _ len _=>some (.int .i64 len)
  |.rs _ _ es _=>some (.int .i64 es.length)
  |_=>none
def XH (x:AV):Option AV:=match x with
  |.sl _ _ _ _ (some c)=>some (.int .i64 c)
  |.rs _ _ _ (some c)=>some (.int .i64 c)
  |_=>none
def ado (off:Nat) (n:Option Nat) (x:AV):Option AV:=match x with
  |.agg cs=>gv cs off n
  |_=>none
def abV (x:AV) (i:Nat):Option AV:=match x with
  |.bE vs=>vs[i]?
  |_=>none
def cd (n:Nat) (x i:AV):Option AV:=match x,i with
  |.sl r sz j len _,.v (.int _ k)=>if sz=n/\0<=k/\k<len then some (.ptr r (j+k.toNat) 0) else none
  |.rs _ sz es _,.v (.int _ k)=>if sz=n/\0<=k then (es[k.toNat]?).map .rp else none
  |_,_=>none
def Tn (x i:AV):Option AV:=match x,i with
  |.str s,.v (.int _ k)=>if 0<=k then (s[k.toNat]?).map fun b=>.int .u8 b.toNat else none
  |_,_=>none
def MT (x:AV):Option AV:=match x with
  |.ptr r i o=>some (.ptr r i o)
  |.rp cs=>some (.rp cs)
  |.fn (.func f) a b=>some (.fn (.func f) a b)
  |_=>none
def ab2 (op:BinOp) (x y:AV):Option AV:=match x,y with
  |.v (.bool a),.v (.bool b)=>xl op (a==b)
  |_,_=>none
def ab0 (op:BinOp) (x y:AV):Option AV:=match x,y with
  |.rs n _ _ _,.rs true _ _ _=>xl op n
  |.sl ..,.rs true _ _ _=>xl op false
  |_,_=>none
def abZ (neg:Bool) (ks:List LK) (x y:AV):Option AV:=match x,y with
  |.agg a,.agg b=>(eU ks a b).map fun q=>.bool (if neg then !q else q)
  |_,_=>none
def UG (k:IntKind) (x:AV):Option AV:=match x with
  |.v (.int _ n)=>some (.int k (k.wrap n))
  |_=>none
def KY (x y:AV):Option AV:=match x,y with
  |.v (.int k a),.v (.int k' b)=>some (.int k (if b<a then b else a))
  |_,_=>none
def VL (x y:AV):Option AV:=match x,y with
  |.v (.int k a),.v (.int k' b)=>some (.int k (if b>a then b else a))
  |_,_=>none
def Qo (zero:List AV) (parts:List (Nat×Nat×AV)):Option AV:=(sw zero parts).map .agg
def J2 (sz:Nat) (zero:List (List AV)) (parts:List (Nat×AV)):Option AV:=(kG sz zero parts).map fun es=>.rs false sz es (some es.length)
section
variable {R:aQ} {tm:Nat->AV} {hp:Heap} {nx:Nat} {K:AV->Heap->Nat->Kd->Prop}
theorem bq {co:jg} (h1:∀f a,co≠.call f a) (h2:∀f a,co≠.kH f a) (h3:lF tm hp co=none) (h4:fb tm hp nx co=none) :
  ey R co ⟨tm,hp,nx⟩ K=o9 (fV tm co) hp nx K:=by
 unfold ey
 split
 ·exact absurd rfl (h1 _ _)
 ·exact absurd rfl (h2 _ _)
 ·simp only[h3,h4]
  cases fV tm co<;>rfl
@[simp ↓] theorem adK {x}:ey R (.dm x) ⟨tm,hp,nx⟩ K=mvM (ev tm x) hp nx K:=(rfl)
@[simp ↓] theorem adW {op x y}:ey R (.bin op x y) ⟨tm,hp,nx⟩ K=o9 (dN op (ev tm x) (ev tm y)) hp nx K:=bq nofun nofun rfl rfl
@[simp ↓] theorem acM {c a b}:ey R (.pick c a b) ⟨tm,hp,nx⟩ K=o9 (Ts (ev tm c) (ev tm a) (ev tm b)) hp nx K:=bq nofun nofun rfl rfl
@[simp ↓] theorem XX {off x}:ey R (.s8 off x) ⟨tm,hp,nx⟩ K=o9 (Ox (ev tm x) off) hp nx K:=bq nofun nofun rfl rfl
@[simp ↓] theorem acL {x}:ey R (.gA x) ⟨tm,hp,nx⟩ K=o9 (Tm (ev tm x)) hp nx K:=bq nofun nofun rfl rfl
@[simp ↓] theorem adN {x}:ey R (.len x) ⟨tm,hp,nx⟩ K=o9 (tM (ev tm x)) hp nx K:=bq nofun nofun rfl rfl
@[simp ↓] theorem adU {x}:ey R (.cap x) ⟨tm,hp,nx⟩ K=o9 (XH (ev tm x)) hp nx K:=bq nofun nofun rfl rfl
@[simp ↓] theorem adP {x i}:ey R (.ext x i) ⟨tm,hp,nx⟩ K=o9 (abV (ev tm x) i) hp nx K:=bq nofun nofun rfl rfl
@[simp ↓] theorem Zu {n x i}:ey R (.lO n x i) ⟨tm,hp,nx⟩ K=o9 (cd n (ev tm x) (ev tm i)) hp nx K:=bq nofun nofun rfl rfl
@[simp ↓] theorem adO {x i}:ey R (.idx x i) ⟨tm,hp,nx⟩ K=o9 (Tn (ev tm x) (ev tm i)) hp nx K:=bq nofun nofun rfl rfl
@[simp ↓] theorem Zp {x}:ey R (.yr x) ⟨tm,hp,nx⟩ K=o9 (MT (ev tm x)) hp nx K:=bq nofun nofun rfl rfl
@[simp ↓] theorem adT {op x y}:ey R (.Uy op x y) ⟨tm,hp,nx⟩ K=o9 (ab2 op (ev tm x) (ev tm y)) hp nx K:=bq nofun nofun rfl rfl
@[simp ↓] theorem adS {op x y}:ey R (.Xt op x y) ⟨tm,hp,nx⟩ K=o9 (ab0 op (ev tm x) (ev tm y)) hp nx K:=bq nofun nofun rfl rfl
@[simp ↓] theorem adQ {g k x y}:ey R (.Y1 g k x y) ⟨tm,hp,nx⟩ K=o9 (abZ g k (ev tm x) (ev tm y)) hp nx K:=bq nofun nofun rfl rfl
@[simp ↓] theorem afR {op x}:ey R (.un op x) ⟨tm,hp,nx⟩ K=o9 (unA op (ev tm x)) hp nx K:=bq nofun nofun rfl rfl
@[simp ↓] theorem acR {k x}:ey R (.conv k x) ⟨tm,hp,nx⟩ K=o9 (UG k (ev tm x)) hp nx K:=bq nofun nofun rfl rfl
@[simp ↓] theorem adL {x y}:ey R (.min x y) ⟨tm,hp,nx⟩ K=o9 (KY (ev tm x) (ev tm y)) hp nx K:=bq nofun nofun rfl rfl
@[simp ↓] theorem adM {x y}:ey R (.max x y) ⟨tm,hp,nx⟩ K=o9 (VL (ev tm x) (ev tm y)) hp nx K:=bq nofun nofun rfl rfl
@[simp ↓] theorem Zx {z ps}:ey R (.build z ps) ⟨tm,hp,nx⟩ K=o9 (Qo z (ps.map fun p=>(p.1,p.2.1,ev tm p.2.2))) hp nx K:=bq nofun nofun rfl rfl
@[simp ↓] theorem XZ {sz z ps}:ey R (.bp false sz z ps) ⟨tm,hp,nx⟩ K=o9 (J2 sz z (ps.map fun p=>(p.1,ev tm p.2))) hp nx K:=bq nofun nofun rfl rfl
@[simp ↓] theorem XV {x lo hi}:ey R (.nB x lo hi) ⟨tm,hp,nx⟩ K=o9 (eW (ev tm x) (HG tm lo) (HG tm hi)) hp nx K:=bq nofun nofun rfl rfl
@[simp ↓] theorem Zn {n x lo hi mx}:ey R (.slice n x lo hi mx) ⟨tm,hp,nx⟩ K=o9 (b9 n (ev tm x) (HG tm lo) (HG tm hi) (HG tm mx)) hp nx K:=bq nofun nofun rfl rfl
@[simp ↓] theorem acO {f a b}:ey R (.sa f a b) ⟨tm,hp,nx⟩ K=mvM (.fn f (a.map (ev tm)) (b.map (ev tm))) hp nx K:=(rfl)
@[simp ↓] theorem acS {f args}:ey R (.call f args) ⟨tm,hp,nx⟩ K=gQ R f (args.map (ev tm)) hp nx K:=(rfl)
def Ag (R:aQ) (g:AV) (args:List AV) (hp:Heap) (nx:Nat) (K:AV->Heap->Nat->Kd->Prop):Prop:=match g with
  |.fn (.func f) first cap=>gQ R f (first++args++cap) hp nx K
  |_=>False
@[congr] theorem Zb {R g g' a a' hp nx K} (h:g=g') (h2:a=a'):Ag R g a hp nx K=Ag R g' a' hp nx K:=by rw[h,h2]
@[simp] theorem Zc {f a b args}:Ag R (.fn (.func f) a b) args hp nx K=gQ R f (a++args++b) hp nx K:=(rfl)
@[simp ↓] theorem Zw {g args}:ey R (.kH g args) ⟨tm,hp,nx⟩ K=Ag R (ev tm g) (args.map (ev tm)) hp nx K:=by
 simp only[ey,Ag]
 generalize ev tm g=x
 cases x<;>try rfl
def yu (x:Option (AV×Heap×Nat)) (K:AV->Heap->Nat->Kd->Prop):Prop:=match x with|some (v,hp,nx)=>K v hp nx .e|none=>False
@[congr] theorem aek {x x'} (h:x=x'):yu x K=yu x' K:=by rw[h]
@[simp ↓] theorem aal {v hp nx}:yu (some (v,hp,nx)) K=K v hp nx .e:=(rfl)
@[simp ↓] theorem aam:yu none K=False:=(rfl)
@[simp] theorem adg {p:Prop} [Decidable p] {v hp nx}:yu (if p then some (v,hp,nx) else none) K=(p/\K v hp nx .e):=by
 split<;>rename_i h<;>simp[h]
def Yk (x:Option (AV×Heap×Nat)) (K:AV->Heap->Nat->Kd->Prop):Prop:=match x with|some (v,hp,nx)=>K v hp nx .a|none=>False
@[congr] theorem aej {x x'} (h:x=x'):Yk x K=Yk x' K:=by rw[h]
@[simp ↓] theorem aak {v hp nx}:Yk (some (v,hp,nx)) K=K v hp nx .a:=(rfl)
theorem dX {co:jg} (h1:∀f a,co≠.call f a) (h2:∀f a,co≠.kH f a) (h3:lF tm hp co=none) (h4:fV tm co=none) (h5:No co=.e:=by rfl) :
  ey R co ⟨tm,hp,nx⟩ K=yu (fb tm hp nx co) K:=by
 unfold ey
 split
 ·exact absurd rfl (h1 _ _)
 ·exact absurd rfl (h2 _ _)
 ·simp only[h3,h4,h5]
  cases fb tm hp nx co<;>rfl
def QD (z:List AV) (hp:Heap) (nx:Nat):Option (AV×Heap×Nat):=some (.ptr nx 0 0,ab hp nx (some [z]),nx+1)
@[simp] theorem Zj {z hp nx}:QD z hp nx=some (.ptr nx 0 0,ab hp nx (some [z]),nx+1):=(rfl)
def XM (x:AV) (hp:Heap) (nx:Nat):Option (AV×Heap×Nat):=if x.cells.all AV.one=true then some (.ptr nx 0 0,ab hp nx (some [x.cells]),nx+1) else none
def Gp (l:Option (List AV)) (n r i o:Nat) (es:bN) (y:AV) (hp:Heap) (nx:Nat):Option (AV×Heap×Nat):=match l with
    |some l=>if y.cells.length=n/\o+n<=l.length/\y.cells.all AV.one=true then
      some (.v undef,ab hp r (some (es.set i (aa l o y.cells))),nx) else none
    |none=>none
def Gq (b:Option bN) (n r i o:Nat) (y:AV) (hp:Heap) (nx:Nat):Option (AV×Heap×Nat):=match b with
   |some es=>Gp es[i]? n r i o es y hp nx
   |none=>none
def Mz (n:Nat) (x y:AV) (hp:Heap) (nx:Nat):Option (AV×Heap×Nat):=match x with
  |.ptr r i o=>Gq (hp r) n r i o y hp nx
  |_=>none
@[simp] theorem Va {n r i o y}:Mz n (.ptr r i o) y hp nx=Gq (hp r) n r i o y hp nx:=(rfl)
@[simp] theorem Tl {es:bN} {n r i o y}:Gq (some es) n r i o y hp nx=Gp es[i]? n r i o es y hp nx:=(rfl)
@[simp] theorem Tk {l n r i o y} {es:bN}:Gp (some l) n r i o es y hp nx=if y.cells.length=n/\o+n<=l.length/\y.cells.all AV.one=true then
      some (.v undef,ab hp r (some (es.set i (aa l o y.cells))),nx) else none:=(rfl)
def bu (sz bytes:Nat) (s x:AV) (hp:Heap) (nx:Nat):Option (AV×Heap×Nat):=match aR hp sz x with
  |some new=>if new.all (fun l=>l.all AV.one)=true then cI sz bytes s new hp nx else none
  |none=>none
@[simp] theorem bw {sz bytes s n z es c} (h:n=true\/z=sz):bu sz bytes s (.rs n z es c) hp nx=if es.all (fun l=>l.all AV.one)=true then cI sz bytes s es hp nx else none:=by
 simp only[bu,aR,if_pos h]
@[simp] theorem UO {bytes s l}:bu 1 bytes s (.str l) hp nx=cI 1 bytes s (bytesOf l) hp nx:=by
 have:(bytesOf l).all (fun l=>l.all AV.one)=true:=by simp only[bytesOf,List.all_map,zQ];intro x _;rfl
 simp only[bu,aR,if_true,this]
def An (sz bytes:Nat) (zero:List AV) (s x:AV) (hp:Heap) (nx:Nat):Option (AV×Heap×Nat):=match x with
  |.v (.int _ n)=>if 0<=n/\n*bytes<=140737488355328/\n<=140737488355328/\zero.length=sz/\zero.all AV.one=true then cI sz bytes s (List.replicate n.toNat zero) hp nx else none
  |_=>none
def ua (sz:Nat) (d s:AV) (hp:Heap) (nx:Nat):Option (AV×Heap×Nat):=match aR hp sz s with
  |some src=>match d with
   |.sl r z i len _=>if z=sz then
     match hp r with
     |some es=>if i+len<=es.length/\(src.take len).all (fun l=>l.all AV.one)=true then
       some (.int .i64 (Nat.min src.length len),ab hp r (some (aa es i (src.take len))),nx) else none
     |none=>none
    else none
   |_=>none
  |none=>none
def Qh (b:Option bN) (r i len:Nat) (sz:Nat) (zero:List AV) (hp:Heap) (nx:Nat):Option (AV×Heap×Nat):=match b with
  |some es=>if i+len<=es.length/\zero.length=sz/\0<sz/\zero.all AV.one=true then some (.v (.tuple #[]),ab hp r (some (aa es i (List.replicate len zero))),nx) else none
  |none=>none
def Ab (sz:Nat) (zero:List AV) (x:AV) (hp:Heap) (nx:Nat):Option (AV×Heap×Nat):=match x with
  |.sl r z i len _=>if z=sz then Qh (hp r) r i len sz zero hp nx else none
  |_=>none
def j9 (sz bytes:Nat) (zero:List AV) (len cap:AV) (hp:Heap) (nx:Nat):Option (AV×Heap×Nat):=match len,cap with
  |.v (.int _ n),.v (.int _ c)=>if 0<=n/\n<=c/\c*bytes<=140737488355328/\c<=140737488355328 then
    some (.sl nx sz 0 n.toNat (some c.toNat),ab hp nx (some (List.replicate c.toNat zero)),nx+1) else none
  |_,_=>none
def ZX (x:AV) (hp:Heap) (nx:Nat):Option (AV×Heap×Nat):=match x with
  |.str l=>some (.sl nx 1 0 l.length none,ab hp nx (some (bytesOf l)),nx+1)
  |_=>none
def aad (sz:Nat) (zero:List (List AV)) (parts:List (Nat×AV)) (hp:Heap) (nx:Nat):Option (AV×Heap×Nat):=match kG sz zero parts with
  |some es=>some (.sl nx sz 0 es.length (some es.length),ab hp nx (some es),nx+1)
  |none=>none
@[simp ↓] theorem Zy {z}:ey R (.alloc z) ⟨tm,hp,nx⟩ K=Yk (QD z hp nx) K:=(rfl)
@[simp ↓] theorem adV {x}:ey R (.box x) ⟨tm,hp,nx⟩ K=Yk (XM (ev tm x) hp nx) K:=by
 show (match fb tm hp nx (.box x) with|some (v,hp,nx)=>K v hp nx (No (.box x))|none=>False)=_
 simp only[fb,XM]
 by_cases h:(ev tm x).cells.all AV.one=true
 ·rw[if_pos h];rfl
 ·rw[if_neg h];rfl
@[simp] theorem adD {x hp nx}:XM x hp nx=if x.cells.all AV.one=true then some (.ptr nx 0 0,ab hp nx (some [x.cells]),nx+1) else none:=(rfl)
@[simp ↓] theorem Zm {n x y}:ey R (.store n x y) ⟨tm,hp,nx⟩ K=yu (Mz n (ev tm x) (ev tm y) hp nx) K:=dX nofun nofun rfl rfl
@[simp ↓] theorem X0 {a b s x}:ey R (.append a b s x) ⟨tm,hp,nx⟩ K=yu (bu a b (ev tm s) (ev tm x) hp nx) K:=dX nofun nofun rfl rfl
@[simp ↓] theorem acT {a b z s x}:ey R (.FK a b z s x) ⟨tm,hp,nx⟩ K=yu (An a b z (ev tm s) (ev tm x) hp nx) K:=dX nofun nofun rfl rfl
@[simp ↓] theorem acQ {a d s}:ey R (.copy a d s) ⟨tm,hp,nx⟩ K=yu (ua a (ev tm d) (ev tm s) hp nx) K:=dX nofun nofun rfl rfl
@[simp ↓] theorem Zv {a z x}:ey R (.clear a z x) ⟨tm,hp,nx⟩ K=yu (Ab a z (ev tm x) hp nx) K:=dX nofun nofun rfl rfl
@[simp ↓] theorem UT {a b z l c}:ey R (.kM a b z l c) ⟨tm,hp,nx⟩ K=yu (j9 a b z (ev tm l) (ev tm c) hp nx) K:=dX nofun nofun rfl rfl
@[simp ↓] theorem adI {x}:ey R (.ZY x) ⟨tm,hp,nx⟩ K=yu (ZX (ev tm x) hp nx) K:=dX nofun nofun rfl rfl
def IB (b:Option bN) (i o:Nat) (n:Option Nat):Option AV:=match b with
   |some es=>match es[i]? with
    |some l=>gv l o n
    |none=>none
   |none=>none
def Bu (hp:Heap) (r i o:Nat) (n:Option Nat):Option AV:=IB (hp r) i o n
@[simp] theorem aay {r i o n}:Bu hp r i o n=IB (hp r) i o n:=(rfl)
def Tt (l:Option (List AV)) (o:Nat) (n:Option Nat):Option AV:=match l with
    |some l=>gv l o n
    |none=>none
@[simp] theorem Vv {l o n}:Tt (some l) o n=gv l o n:=(rfl)
@[simp] theorem VR {es:bN} {i o n}:IB (some es) i o n=Tt es[i]? o n:=(rfl)
def MX (x:Option AV) (r:Nat) (hp:Heap) (nx:Nat) (K:AV->Heap->Nat->Kd->Prop):Prop :=
 match x with|some v=>K v hp nx (.r r)|none=>False
@[congr] theorem aeg {x x' r hp nx K} (h:x=x'):MX x r hp nx K=MX x' r hp nx K:=by rw[h]
@[simp ↓] theorem aaj {v r}:MX (some v) r hp nx K=K v hp nx (.r r):=(rfl)
def Br (x:AV) (n:Option Nat) (hp:Heap) (nx:Nat) (K:AV->Heap->Nat->Kd->Prop):Prop :=
 match x with
 |AV.rp cells=>o9 (gv cells 0 n) hp nx K
 |AV.ptr r i o=>MX (Bu hp r i o n) r hp nx K
 |_=>False
@[congr] theorem aax {x x' n hp nx K} (h:x=x'):Br x n hp nx K=Br x' n hp nx K:=by rw[h]
@[simp] theorem aaw {cells n}:Br (.rp cells) n hp nx K=o9 (gv cells 0 n) hp nx K:=(rfl)
@[simp] theorem Yo {r i o n}:Br (.ptr r i o) n hp nx K=MX (Bu hp r i o n) r hp nx K:=(rfl)
@[simp ↓] theorem acP {n x}:ey R (.load n x) ⟨tm,hp,nx⟩ K=Br (ev tm x) n hp nx K:=by
 simp only[ey,fV,lF,fb,Br,o9,MX,Bu,IB]
 cases ev tm x<;>simp only[]
 ·rename_i r i o
  cases hp r with
  |none=>rfl
  |some es =>
   simp only[]
   cases es[i]? with
   |none=>rfl
   |some l =>
    simp only[]
    cases gv l o n<;>rfl
 ·rename_i cells;cases gv cells 0 n<;>rfl
def LZ (x:AV) (hp:Heap) (nx:Nat) (K:AV->Heap->Nat->Kd->Prop):Prop :=
 match x with
 |.rs nil sz es _=>o9 (if nil=true\/sz=1 then (eT es).map .str else none) hp nx K
 |.sl r sz i len _=>MX (match hp r with
   |some es=>if sz=1/\i+len<=es.length then (eT ((es.drop i).take len)).map .str else none
   |none=>none) r hp nx K
 |_=>False
@[congr] theorem adG {x x' hp nx K} (h:x=x'):LZ x hp nx K=LZ x' hp nx K:=by rw[h]
@[simp ↓] theorem adX {x}:ey R (.Mk x) ⟨tm,hp,nx⟩ K=LZ (ev tm x) hp nx K:=by
 simp only[ey,fV,lF,fb,LZ,o9,MX]
 cases ev tm x<;>simp only[]
 ·rename_i r sz i len cap
  cases hp r with
  |none=>rfl
  |some es =>
   simp only[]
   by_cases h:sz=1/\i+len<=es.length
   ·simp only[h,and_self,if_true]
    cases eT ((es.drop i).take len)<;>rfl
   ·simp only[h,if_false]
 ·rename_i nil sz es cap
  split<;>rename_i h
  ·simp only[h]
  ·simp only[h]
end
section
variable {R:aQ} {tm:Nat->AV} {hp:Heap} {nx:Nat} {K:AV->Heap->Nat->Kd->Prop}
def H9 (t:TypeId) (z:List AV) (hp:Heap) (nx:Nat):Option (AV×Heap×Nat):=some (.ptr nx 0 0,ab (ab hp nx (some [z])) (nx+1) (some [[.ty t z.length]]),nx+2)
@[simp] theorem U9 {t z}:H9 t z hp nx=some (.ptr nx 0 0,ab (ab hp nx (some [z])) (nx+1) (some [[.ty t z.length]]),nx+2):=(rfl)
def Mu (t:TypeId) (sz:Nat) (zero:List (List AV)) (parts:List (Nat×AV)) (hp:Heap) (nx:Nat):Option (AV×Heap×Nat):=match kG sz zero parts with
  |some es=>some (.sl nx sz 0 es.length (some es.length),ab (ab hp nx (some es)) (nx+1) (some [[.ty t 0],[]]),nx+2)
  |none=>none
@[simp ↓] theorem acJ {t sz z ps}:ey R (.Gj t sz z ps) ⟨tm,hp,nx⟩ K=yu (Mu t sz z (ps.map fun p=>(p.1,ev tm p.2)) hp nx) K:=(rfl)
@[simp ↓] theorem XU {t z}:ey R (.xR t z) ⟨tm,hp,nx⟩ K=yu (H9 t z hp nx) K:=(rfl)
def OD (op:BinOp) (x y:AV):Option AV:=match x,y with
  |.v (.pointer none),.v (.pointer none)=>xl op true
  |.ptr ..,.v (.pointer none)=>xl op false
  |.rp _,.v (.pointer none)=>xl op false
  |.ptr r i o,.ptr r' i' o'=>if r=r'/\i=i'/\o=o' then xl op true else none
  |_,_=>none
@[simp ↓] theorem adR {op x y}:ey R (.z8 op x y) ⟨tm,hp,nx⟩ K=o9 (OD op (ev tm x) (ev tm y)) hp nx K:=bq nofun nofun rfl rfl
@[simp] theorem adr {op}:OD op (.v (.pointer none)) (.v (.pointer none))=xl op true:=(rfl)
@[simp] theorem adq {op r i o}:OD op (.ptr r i o) (.v (.pointer none))=xl op false:=(rfl)
@[simp] theorem adp {op r i o}:OD op (.ptr r i o) (.ptr r i o)=xl op true:=by simp[OD]
def MD (x:AV):Option AV:=match x with
  |.rs true _ _ _=>some (.v (.pointer none))
  |.sl r sz i len _=>if 0<len/\sz=1 then some (.ptr r i 0) else none
  |_=>none
@[simp ↓] theorem Zo {x}:ey R (.Ed x) ⟨tm,hp,nx⟩ K=o9 (MD (ev tm x)) hp nx K:=bq nofun nofun rfl rfl
@[simp] theorem Yc {r sz i len c}:MD (.sl r sz i len c)=if 0<len/\sz=1 then some (.ptr r i 0) else none:=(rfl)
def Kl (b:Option bN) (r:Nat) (hp:Heap) (nx:Nat) (K:AV->Heap->Nat->Kd->Prop):Prop:=match b with
   |some ((_::_)::_)=>K (.ptr r 0 0) hp nx (.r r)
   |_=>False
def Ms (x:AV) (hp:Heap) (nx:Nat) (K:AV->Heap->Nat->Kd->Prop):Prop:=match x with
  |.ptr r 0 0=>Kl (hp r) r hp nx K
  |_=>False
@[congr] theorem ac3 {b b' r hp nx K} (h:b=b'):Kl b r hp nx K=Kl b' r hp nx K:=by rw[h]
@[congr] theorem ac2 {x x' hp nx K} (h:x=x'):Ms x hp nx K=Ms x' hp nx K:=by rw[h]
@[simp] theorem ZJ {r}:Ms (.ptr r 0 0) hp nx K=Kl (hp r) r hp nx K:=(rfl)
@[simp] theorem X7 {x l es r}:Kl (some ((x::l)::es)) r hp nx K=K (.ptr r 0 0) hp nx (.r r):=(rfl)
@[simp ↓] theorem adH {x}:ey R (.X8 x) ⟨tm,hp,nx⟩ K=Ms (ev tm x) hp nx K:=by
 simp only[ey,fV,lF,fb]
 generalize ev tm x=y
 cases y<;>try rfl
 rename_i r i o
 cases i<;>try rfl
 cases o<;>try rfl
 simp only[Ms,Kl]
 cases hp r with
 |none=>rfl
 |some es =>
  match es with
  |[]=>rfl
  |[]::_=>rfl
  |(_::_)::_=>rfl
def IA (kK:Option (Option (Nat×AV))) (zero:AV) (ok:Bool):Option AV:=match kK with
 |some (some (_,v))=>some (if ok then .bE [v,.bool true] else v)
 |some none=>some (if ok then .bE [zero,.bool false] else zero)
 |none=>none
@[simp] theorem VO {i v zero ok}:IA (some (some (i,v))) zero ok=some (if ok then .bE [v,.bool true] else v):=(rfl)
@[simp] theorem VP {zero ok}:IA (some none) zero ok=some (if ok then .bE [zero,.bool false] else zero):=(rfl)
def Bp (b:Option bN) (lk:LK) (k zero:AV) (ok:Bool):Option AV:=match b with
 |some es=>if sT lk k=true then IA (iQ lk k es) zero ok else none
 |none=>none
@[congr] theorem aav {b b' lk k zero ok} (h:b=b'):Bp b lk k zero ok=Bp b' lk k zero ok:=by rw[h]
@[simp] theorem VQ {es lk k zero ok}:Bp (some es) lk k zero ok=if sT lk k=true then IA (iQ lk k es) zero ok else none:=(rfl)
@[simp] theorem aen {q n}:sT .i (.v (.int q n))=true:=(rfl)
def Ev (lk:LK) (zero:AV) (ok:Bool) (m k:AV) (hp:Heap) (nx:Nat) (K:AV->Heap->Nat->Kd->Prop):Prop:=match m with
 |.mp r=>MX (Bp (hp r) lk k zero ok) r hp nx K
 |_=>False
@[congr] theorem aat {m m' k k' lk zero ok hp nx K} (h:m=m') (h2:k=k'):Ev lk zero ok m k hp nx K=Ev lk zero ok m' k' hp nx K:=by rw[h,h2]
@[simp] theorem aau {lk zero ok r k}:Ev lk zero ok (.mp r) k hp nx K=MX (Bp (hp r) lk k zero ok) r hp nx K:=(rfl)
@[simp ↓] theorem Zr {lk z ok m k}:ey R (.vt lk z ok m k) ⟨tm,hp,nx⟩ K=Ev lk z ok (ev tm m) (ev tm k) hp nx K:=by
 simp only[ey,fV,lF,fb,Ev]
 generalize ev tm m=y
 cases y<;>try rfl
 rename_i r
 simp only[Bp]
 cases hp r with
 |none=>rfl
 |some es =>
  simp only[]
  by_cases hk:sT lk (ev tm k)=true
  ·simp only[hk,if_true]
   cases iQ lk (ev tm k) es with
   |none=>rfl
   |some kK =>
    cases kK with
    |none=>rfl
    |some p=>obtain ⟨i,v⟩:=p;rfl
  ·simp only[hk];rfl
def M4 (hp:Heap) (nx:Nat):Option (AV×Heap×Nat):=some (.mp nx,ab hp nx (some []),nx+1)
@[simp] theorem Ym {hp nx}:M4 hp nx=some (.mp nx,ab hp nx (some []),nx+1):=(rfl)
@[simp ↓] theorem Zs:ey R .sn ⟨tm,hp,nx⟩ K=Yk (M4 hp nx) K:=(rfl)
def MZ (kK:Option (Option (Nat×AV))) (r:Nat) (es:bN) (k v:AV) (hp:Heap) (nx:Nat):Option (AV×Heap×Nat):=match kK with
 |some (some (i,_))=>some (.v undef,ab hp r (some (es.set i [k,v])),nx)
 |some none=>some (.v undef,ab hp r (some (es++[[k,v]])),nx)
 |none=>none
@[simp] theorem VG {r es k v hp nx}:MZ (some none) r es k v hp nx=some (.v undef,ab hp r (some (es++[[k,v]])),nx):=(rfl)
def M0 (b:Option bN) (lk:LK) (r:Nat) (k v:AV) (hp:Heap) (nx:Nat):Option (AV×Heap×Nat):=match b with
 |some es=>if sT lk k=true then MZ (iQ lk k es) r es k v hp nx else none
 |none=>none
@[simp] theorem VH {es lk r k v hp nx}:M0 (some es) lk r k v hp nx=if sT lk k=true then MZ (iQ lk k es) r es k v hp nx else none:=(rfl)
def Iv (lk:LK) (m k v:AV) (hp:Heap) (nx:Nat):Option (AV×Heap×Nat):=match m with
 |.mp r=>M0 (hp r) lk r k v hp nx
 |_=>none
@[simp] theorem aap {lk r k v hp nx}:Iv lk (.mp r) k v hp nx=M0 (hp r) lk r k v hp nx:=(rfl)
theorem M1 {lk m k v}:fb tm hp nx (.Er lk m k v)=Iv lk (ev tm m) (ev tm k) (ev tm v) hp nx:=by
 simp only[fb,Iv]
 generalize ev tm m=y
 cases y<;>try rfl
@[simp ↓] theorem acN {lk m k v}:ey R (.Er lk m k v) ⟨tm,hp,nx⟩ K=yu (Iv lk (ev tm m) (ev tm k) (ev tm v) hp nx) K:=by
 rw[<-M1];exact dX nofun nofun rfl rfl
def KO (b:Option bN) (t:TypeId) (k q:Nat) (hp:Heap) (nx:Nat) (K:AV->Heap->Nat->Kd->Prop):Prop:=match b with
   |some [[.ty t' k']]=>t'=t/\k'=k/\K (.ptr q 0 0) hp nx (.r (q+1))
   |_=>False
def MR (t:TypeId) (k:Nat) (x:AV) (hp:Heap) (nx:Nat) (K:AV->Heap->Nat->Kd->Prop):Prop:=match x with
  |.ptr q 0 0=>KO (hp (q+1)) t k q hp nx K
  |_=>False
@[congr] theorem adf {b b' t k q hp nx K} (h:b=b'):KO b t k q hp nx K=KO b' t k q hp nx K:=by rw[h]
@[congr] theorem ade {x x' t k hp nx K} (h:x=x'):MR t k x hp nx K=MR t k x' hp nx K:=by rw[h]
@[simp] theorem aac {t k q}:MR t k (.ptr q 0 0) hp nx K=KO (hp (q+1)) t k q hp nx K:=(rfl)
@[simp] theorem Yf {t k q t' k'}:KO (some [[.ty t' k']]) t k q hp nx K=(t'=t/\k'=k/\K (.ptr q 0 0) hp nx (.r (q+1))):=(rfl)
@[simp ↓] theorem adJ {t k x}:ey R (.Yg t k x) ⟨tm,hp,nx⟩ K=MR t k (ev tm x) hp nx K:=by
 simp only[ey,fV,lF,fb]
 generalize ev tm x=y
 cases y<;>try rfl
 rename_i q i o
 cases i<;>try rfl
 cases o<;>try rfl
 simp only[MR,KO]
 have key:∀b:Option bN,(match (match b with|some [[.ty t' k']]=>if t'=t/\k'=k then some (AV.ptr q 0 0,q+1) else none|_=>none:Option (AV×Nat)) with|some (v,r)=>K v hp nx (.r r)|none=>False) =
   (match b with|some [[.ty t' k']]=>t'=t/\k'=k/\K (.ptr q 0 0) hp nx (.r (q+1))|_=>False):=by
  intro b
  split
  ·rename_i v r h
   split at h
   ·split at h
    ·rename_i hc
     simp only[zOi,zPi]at h
     obtain ⟨rfl,rfl⟩:=h
     simp[hc]
    ·cases h
   ·cases h
  ·rename_i h
   split at h
   ·split at h
    ·cases h
    ·rename_i t' k' hc
     exact (eq_false fun h=>hc ⟨h.1,h.2.1⟩).symm
   ·rfl
 exact key (hp (q+1))
def afV (b c:Option bN) (t:TypeId) (q len:Nat) (new:bN) (hp:Heap) (nx:Nat):Option (AV×Heap×Nat):=match b,c with
   |some [[.ty t' k]],some es=>if t'=t/\len<=es.length then
     if len+new.length<=es.length then some (.sl q 1 0 (len+new.length) none,ab hp q (some (aa es len new)),nx)
     else if len+new.length<=140737488355328 then
      some (.sl nx 1 0 (len+new.length) none,ab (ab (ab hp q none) nx (some (es.take len++new))) (nx+1) (some [[.ty t 0]]),nx+2)
     else none
    else none
   |_,_=>none
def DY (t:TypeId) (s x:AV) (hp:Heap) (nx:Nat):Option (AV×Heap×Nat):=match aR hp 1 x with
  |some new=>if new.all (fun l=>l.all AV.one)=true then vj t s new hp nx else none
  |none=>none
@[simp ↓] theorem acK {t s x}:ey R (.Ko t s x) ⟨tm,hp,nx⟩ K=yu (DY t (ev tm s) (ev tm x) hp nx) K:=dX nofun nofun rfl rfl
def Mq (b c:Option bN) (t:TypeId) (q:Nat) (n:Int) (hp:Heap) (nx:Nat):Option (AV×Heap×Nat):=match b,c with
   |some [[.ty t' _]],some es=>if t'=t/\0<n/\n<=es.length/\n<=9223372036854775807 then (AF (es.take n.toNat)).map fun l=>(.str l,ab hp q none,nx) else none
   |_,_=>none
def Ti (t:TypeId) (x n:AV) (hp:Heap) (nx:Nat):Option (AV×Heap×Nat):=match x,n with
  |.v (.pointer none),.v (.int .i64 0)=>some (.str [],hp,nx)
  |.ptr q 0 0,.v (.int .i64 n)=>Mq (hp (q+1)) (hp q) t q n hp nx
  |_,_=>none
@[simp] theorem X6 {t q n}:Ti t (.ptr q 0 0) (.v (.int .i64 n)) hp nx=Mq (hp (q+1)) (hp q) t q n hp nx:=(rfl)
@[simp] theorem U4 {t q n t' k es}:Mq (some [[.ty t' k]]) (some es) t q n hp nx=if t'=t/\0<n/\n<=es.length/\n<=9223372036854775807 then (AF (es.take n.toNat)).map fun l=>(.str l,ab hp q none,nx) else none:=(rfl)
@[simp ↓] theorem acI {t x n}:ey R (.Mr t x n) ⟨tm,hp,nx⟩ K=yu (Ti t (ev tm x) (ev tm n) hp nx) K:=dX nofun nofun rfl rfl
end
section
@[simp] theorem adF {nil sz es cap hp nx K}:LZ (.rs nil sz es cap) hp nx K=o9 (if nil=true\/sz=1 then (eT es).map .str else none) hp nx K:=(rfl)
def S3 (hp:Heap) (r sz i len:Nat):Option AV:=match hp r with
   |some es=>if sz=1/\i+len<=es.length then (eT ((es.drop i).take len)).map .str else none
   |none=>none
@[simp] theorem adE {r sz i len cap hp nx K}:LZ (.sl r sz i len cap) hp nx K=MX (S3 hp r sz i len) r hp nx K:=(rfl)
theorem S2 {hp:Heap} {r sz i len es} (h:hp r=some es):S3 hp r sz i len=if sz=1/\i+len<=es.length then (eT ((es.drop i).take len)).map .str else none:=by simp only[S3,h]
@[simp] theorem XL {sz z ps}:J2 sz z ps=(kG sz z ps).map fun es=>.rs false sz es (some es.length):=(rfl)
@[simp] theorem Ze {z ps}:Qo z ps=(sw z ps).map .agg:=(rfl)
theorem dI:∀l:List UInt8,eT (bytesOf l)=some l
 |[]=>rfl
 |b::l=>by
  have ih:=dI l
  simp only[bytesOf,wI,eT,pP]at ih ⊢
  rw[ih];simp
@[simp] theorem ac8 {t a b}:Ts (.v (.bool t)) a b=some (if t then a else b):=(rfl)
@[simp] theorem Y0 {r i o off}:Ox (.ptr r i o) off=some (.ptr r i (o+off)):=(rfl)
@[simp] theorem abI {cs off}:Ox (.rp cs) off=some (.rp (cs.drop off)):=(rfl)
@[simp] theorem X9 {s}:Tm (.str s)=some (.int .i64 s.length):=(rfl)
@[simp] theorem adi {a b c d e}:tM (.sl a b c d e)=some (.int .i64 d):=(rfl)
@[simp] theorem adj {a b c d}:tM (.rs a b c d)=some (.int .i64 c.length):=(rfl)
@[simp] theorem adA {a b c d e}:XH (.sl a b c d (some e))=some (.int .i64 e):=(rfl)
@[simp] theorem adB {a b c d}:XH (.rs a b c (some d))=some (.int .i64 d):=(rfl)
@[simp] theorem abU {vs i}:abV (.bE vs) i=vs[i]?:=(rfl)
@[simp] theorem Yr {n r sz j len cap k i}:cd n (.sl r sz j len cap) (.v (.int k i))=if sz=n/\0<=i/\i<len then some (.ptr r (j+i.toNat) 0) else none:=(rfl)
@[simp] theorem ag {n nil sz es cap k i}:cd n (.rs nil sz es cap) (.v (.int k i))=if sz=n/\0<=i then (es[i.toNat]?).map .rp else none:=(rfl)
@[simp] theorem Ya {s k i}:Tn (.str s) (.v (.int k i))=if 0<=i then (s[i.toNat]?).map fun b=>.int .u8 b.toNat else none:=(rfl)
@[simp] theorem VD {r i o}:MT (.ptr r i o)=some (.ptr r i o):=(rfl)
@[simp] theorem ab1 {a b}:ab2 .neq (.v (.bool a)) (.v (.bool b))=some (.bool (!(a==b))):=(rfl)
@[simp] theorem ads {op n sz es cap a b c}:ab0 op (.rs n sz es cap) (.rs true a b c)=xl op n:=(rfl)
@[simp] theorem adu {b}:xl .eql b=some (.bool b):=(rfl)
@[simp] theorem adt {b}:xl .neq b=some (.bool (!b)):=(rfl)
@[simp] theorem abY {g ks a b}:abZ g ks (.agg a) (.agg b)=(eU ks a b).map fun q=>.bool (if g then !q else q):=(rfl)
@[simp] theorem Uz:eU [] [] []=some true:=(rfl)
def XS (p q:Option Bool):Option Bool:=match p,q with
  |some p,some q=>some (p&&q)
  |_,_=>none
@[simp] theorem Zh {p q}:XS (some p) (some q)=some (p&&q):=(rfl)
@[simp] theorem SK {k ks a x b y}:eU (k::ks) (a::x) (b::y)=XS (iR k a b) (eU ks x y):=by
 simp only[eU,XS]
 cases iR k a b<;>cases eU ks x y<;>rfl
@[simp] theorem ab3 {a b}:iR .s (.str a) (.str b)=some (decide (a=b)):=(rfl)
@[simp] theorem Y4 {k k' n}:UG k (.v (.int k' n))=some (.int k (k.wrap n)):=(rfl)
@[simp] theorem aaq {k a b}:KY (.v (.int k a)) (.v (.int k b))=some (.int k (min a b)):=by
 have:(if b<a then b else a)=min a b:=by split<;>omega
 simp only[KY,this]
@[simp] theorem aar {k a b}:VL (.v (.int k a)) (.v (.int k b))=some (.int k (max a b)):=by
 have:(if b>a then b else a)=max a b:=by split<;>omega
 simp only[VL,this]
@[simp] theorem ac1 {b}:unA .not (.v (.bool b))=some (.bool (!b)):=(rfl)
@[simp] theorem acD {k a b}:dN .add (.v (.int k a)) (.v (.int k b))=some (.int k (k.wrap (a+b))):=by simp[dN,sU]
@[simp] theorem acs {k a b}:dN .sub (.v (.int k a)) (.v (.int k b))=some (.int k (k.wrap (a-b))):=by simp[dN,sU]
@[simp] theorem acx {k a b}:dN .mul (.v (.int k a)) (.v (.int k b))=some (.int k (k.wrap (a*b))):=by simp[dN,sU]
@[simp] theorem acv {k a b}:dN .quo (.v (.int k a)) (.v (.int k b))=if b=0 then none else some (.int k (k.wrap (a.tdiv b))):=by simp[dN,sU]
@[simp] theorem acu {k a b}:dN .rem (.v (.int k a)) (.v (.int k b))=if b=0 then none else some (.int k (a.tmod b)):=by simp[dN,sU]
@[simp] theorem S0 {k a b}:dN .or (.v (.int k a)) (.v (.int k b))=some (.int k (k.wrap (BitVec.ofInt k.bits a ||| BitVec.ofInt k.bits b).toNat)):=by simp[dN,sU]
@[simp] theorem Qr {k k' a b}:dN .shl (.v (.int k a)) (.v (.int k' b))=Cn .shl k a b:=(rfl)
@[simp] theorem Qq {k k' a b}:dN .shr (.v (.int k a)) (.v (.int k' b))=Cn .shr k a b:=(rfl)
@[simp] theorem acy {k a b}:dN .lss (.v (.int k a)) (.v (.int k b))=some (.bool (decide (a<b))):=by simp[dN,sU]
@[simp] theorem acz {k a b}:dN .leq (.v (.int k a)) (.v (.int k b))=some (.bool (decide (a<=b))):=by simp[dN,sU]
@[simp] theorem acA {k a b}:dN .gtr (.v (.int k a)) (.v (.int k b))=some (.bool (decide (b<a))):=by simp[dN,sU]
@[simp] theorem acB {k a b}:dN .geq (.v (.int k a)) (.v (.int k b))=some (.bool (decide (b<=a))):=by simp[dN,sU]
@[simp] theorem acC {k a b}:dN .eql (.v (.int k a)) (.v (.int k b))=some (.bool (decide (a=b))):=by simp[dN,sU]
@[simp] theorem acw {k a b}:dN .neq (.v (.int k a)) (.v (.int k b))=some (.bool (!decide (a=b))):=by simp[dN,sU]
@[simp] theorem XR {op a b}:dN op (.str a) (.str b)=uy op a b:=by cases op<;>rfl
@[simp] theorem ZP {a b}:uy .add a b=if a.length+b.length<=9223372036854775807 then some (.str (a++b)) else none:=(rfl)
@[simp] theorem ZO {a b}:uy .eql a b=some (.bool (decide (a=b))):=(rfl)
@[simp] theorem ZK {a b}:uy .neq a b=some (.bool (!decide (a=b))):=(rfl)
@[simp] theorem ZL {a b}:uy .lss a b=some (.bool (al a b)):=(rfl)
@[simp] theorem ZM {a b}:uy .leq a b=some (.bool (al a b||decide (a=b))):=(rfl)
@[simp] theorem ZN {a b}:uy .geq a b=some (.bool (!al a b)):=(rfl)
@[simp] theorem Vx {l o}:gv l o none=l[o]?:=(rfl)
@[simp] theorem Vw {l o n}:gv l o (some n)=if o+n<=l.length then some (.agg ((l.drop o).take n)) else none:=(rfl)
@[simp] theorem Y9 {l}:AV.cells (.agg l)=l:=(rfl)
@[simp] theorem ady {x}:AV.cells (.v x)=[.v x]:=(rfl)
@[simp] theorem Y7 {l}:AV.cells (.str l)=[.str l]:=(rfl)
@[simp] theorem ace {a b c d}:AV.cells (.rs a b c d)=[.rs a b c d]:=(rfl)
@[simp] theorem acd {a b c d e}:AV.cells (.sl a b c d e)=[.sl a b c d e]:=(rfl)
@[simp] theorem Y8 {a b c}:AV.cells (.ptr a b c)=[.ptr a b c]:=(rfl)
@[simp] theorem acf {a b c}:AV.cells (.fn a b c)=[.fn a b c]:=(rfl)
@[simp] theorem ac9 {l}:AV.one (.str l)=true:=(rfl)
@[simp] theorem aeb {a b c d}:AV.one (.rs a b c d)=true:=(rfl)
@[simp] theorem aea {a b c d e}:AV.one (.sl a b c d e)=true:=(rfl)
@[simp] theorem ada {a b c}:AV.one (.ptr a b c)=true:=(rfl)
@[simp] theorem aec {a b c}:AV.one (.fn a b c)=true:=(rfl)
@[simp] theorem adb {k n}:AV.one (.v (.int k n))=true:=(rfl)
@[simp] theorem aaa {k}:AV.one (.v (.bool k))=true:=(rfl)
@[simp] theorem YZ {z}:sw z []=some z:=(rfl)
@[simp] theorem Xq {z off n x r}:sw z ((off,n,x)::r)=if x.cells.length=n/\off+n<=z.length/\x.cells.all AV.one=true then sw (aa z off x.cells) r else none:=(rfl)
@[simp] theorem YY {n z}:kG n z []=some z:=(rfl)
@[simp] theorem Xp {sz z i x r}:kG sz z ((i,x)::r)=if x.cells.length=sz/\i<z.length/\x.cells.all AV.one=true then kG sz (z.set i x.cells) r else none:=(rfl)
@[simp] theorem cg {h:Heap} {r b x}:ab h r b x=if x=r then b else h x:=(rfl)
@[simp] theorem Z2 {r s}:ma [r] s=kx s r:=(rfl)
@[simp] theorem Z3 {s}:ma [] s=some (.bE []):=(rfl)
@[simp] theorem Z1 {a b r s}:ma (a::b::r) s=(dW (kx s) (a::b::r)).map .bE:=(rfl)
@[simp] theorem Z0 {tm hp nx n}:kx ⟨tm,hp,nx⟩ (.t n)=some (tm n):=(rfl)
def Qi (hp:Heap) (x:AV) (n:Option Nat):Option AV:=match x with
  |.ptr r i o=>Bu hp r i o n
  |.rp cells=>gv cells 0 n
  |_=>none
@[simp] theorem Za {hp r i o n}:Qi hp (.ptr r i o) n=Bu hp r i o n:=(rfl)
@[simp] theorem Tq {tm hp nx a n}:kx ⟨tm,hp,nx⟩ (.cell a n)=Qi hp (tm a) n:=by
 simp only[kx,Qi];cases tm a<;>rfl
def ON {β:Type} (a:Option β) (b:Option (List β)):Option (List β):=match a,b with
 |some y,some l=>some (y::l)
 |_,_=>none
@[simp] theorem XB {β:Type} {a:β} {b:List β}:ON (some a) (some b)=some (a::b):=(rfl)
@[simp] theorem aas {α β:Type} {f:α->Option β}:dW f []=some []:=(rfl)
@[simp] theorem br {α β:Type} {f:α->Option β} {x r}:dW f (x::r)=ON (f x) (dW f r):=by
 simp only[dW,ON];cases f x<;>cases dW f r<;>rfl
@[simp] theorem SL:kI .normal=True:=by simp[kI]
@[simp] theorem Y2:kI .ret=True:=by simp[kI]
@[simp] theorem FA {x}:AV.closed (.v x)=true:=by simp[AV.closed]
@[simp] theorem HM {x}:AV.closed (.str x)=true:=by simp[AV.closed]
@[simp] theorem Y5 {a b c d}:AV.closed (.rs a b c d)=bl c:=by simp[AV.closed]
@[simp] theorem rS {a b c d e}:AV.closed (.sl a b c d e)=false:=by simp[AV.closed]
@[simp] theorem XF {c}:AV.closed (.agg c)=bT c:=by simp[AV.closed]
@[simp] theorem XE {c}:AV.closed (.bE c)=bT c:=by simp[AV.closed]
@[simp] theorem Y6 {f a b}:AV.closed (.fn f a b)=(bT a&&bT b):=by simp[AV.closed]
@[simp] theorem UI:bT []=true:=by simp[bT]
@[simp] theorem SV {x r}:bT (x::r)=(x.closed&&bT r):=by simp[bT]
@[simp] theorem SW:bl []=true:=by simp[bl]
@[simp] theorem Re {x r}:bl (x::r)=(bT x&&bl r):=by simp[bl]
theorem aq {n hp x} (h:x.closed=true):kh (n+1) hp x=some x:=by simp[kh,h]
@[simp] theorem af9 {n hp x}:kh (n+1) hp (.v x)=some (.v x):=aq FA
@[simp] theorem adl {n hp x}:kh (n+1) hp (.str x)=some (.str x):=aq HM
theorem ap {R f args hp nx v K} (h:R f args hp nx v hp nx .p) (k:K v hp nx .p):gQ R f args hp nx K:=⟨v,hp,nx,.p,h,k⟩
theorem ae {R f args hp nx v hp' nx' k K} (h:R f args hp nx v hp' nx' k) (q:K v hp' nx' k):gQ R f args hp nx K:=⟨v,hp',nx',k,h,q⟩
def Iz {ι:Type} (I:ι->St->Prop) (μ:ι->Nat) (i:ι) (Q:eS->St->Prop) (e:eS) (s:St):Prop :=
 match e with
 |.normal=>∃j,μ j<μ i/\I j s
 |e=>Q e s
@[simp ↓] theorem RH {ι:Type} {I:ι->St->Prop} {μ i Q s}:Iz I μ i Q .normal s=∃j,μ j<μ i/\I j s:=(rfl)
@[simp ↓] theorem Yn {ι:Type} {I:ι->St->Prop} {μ i Q s}:Iz I μ i Q .ret s=Q .ret s:=(rfl)
@[simp ↓] theorem VN {ι:Type} {I:ι->St->Prop} {μ i Q s x}:Iz I μ i Q (.exit x) s=Q (.exit x) s:=(rfl)
theorem aM {R:aQ} {a:cC} {Q:eS->St->Prop} {ι:Type} (I:ι->St->Prop) (μ:ι->Nat) (i:ι) {s:St} (h0:I i s)
  (round:∀i tm hp nx,I i ⟨tm,hp,nx⟩->W R a (Iz I μ i Q) ⟨tm,hp,nx⟩):W R (.loop a) Q s:=by
 have key:∀m i s,μ i=m->I i s->∃n,jj (W R a) Q n s:=by
  intro m
  induction m using Nat.strongRecOn with
  |_ m ih =>
   intro i s hm hI
   obtain ⟨tm,hp,nx⟩:=s
   have h1:=round i tm hp nx hI
   let G:Nat->eS->St->Prop:=fun n e s'=>match e with | .normal=>jj (W R a) Q n s'|e=>Q e s'
   have h2:W (fun f a h x v h' x' k=>∃n:Nat,R f a h x v h' x' k) a (fun e s'=>∃n,G n e s') ⟨tm,hp,nx⟩:=by
    refine da (fun _ _ _ _ _ _ _ _ h=>⟨0,h⟩) a _ _ _ (fun e s' h => ?_) h1
    cases e with
    |normal =>
     obtain ⟨j,h3,h4⟩:=h
     exact ih (μ j) (by omega) j s' rfl h4
    |exit i=>exact ⟨0,h⟩
    |ret=>exact ⟨0,h⟩
   obtain ⟨n,h3⟩:=nV (R:=fun _=>R) (fun _ _ _ _ _ _ _ _ _ _ _ h=>h) a ⟨tm,hp,nx⟩ (Q:=G) (by
    intro m n oD e s h
    cases e with
    |normal =>
     have:∀m n,m<=n->∀s,jj (W R a) Q m s->jj (W R a) Q n s:=by
      intro m
      induction m with
      |zero=>intro n _ s h;exact h.elim
      |succ m ihm =>
       intro n hn s h
       obtain ⟨n,rfl⟩:∃n',n=n'+1:=⟨n-1,by omega⟩
       simp only[jj]at *
       refine da (fun _ _ _ _ _ _ _ _ h=>h) a _ _ s (fun e s h => ?_) h
       cases e with
       |normal=>exact ihm n (by omega) s h
       |exit i=>exact h
       |ret=>exact h
     exact this m n oD s h
    |exit i=>exact h
    |ret=>exact h) h2
   exact ⟨n+1,h3⟩
 unfold W
 exact key _ i s rfl h0
theorem aj {n:Int} (h1 : -9223372036854775808<=n) (h2:n<=9223372036854775807):IntKind.wrap .i64 n=n:=by
 have:IntKind.wrap .i64 n=(n+9223372036854775808) % 18446744073709551616-9223372036854775808:=by
  simp only[IntKind.wrap,IntKind.bits,IntKind.signed];simp;omega
 omega
end
theorem Ka {R:aQ} {co:jg} {s:St} {K:AV->Heap->Nat->Kd->Prop} (h:ey R co s K):∃v hp nx k,ey R co s (fun v' hp' nx' k'=>v'=v/\hp'=hp/\nx'=nx/\k'=k)/\K v hp nx k:=by
 unfold ey at h ⊢
 split at h
 ·obtain ⟨v,hp,nx,k,hr,hk⟩:=h
  exact ⟨v,hp,nx,k,⟨v,hp,nx,k,hr,rfl,rfl,rfl,rfl⟩,hk⟩
 ·split at h
  ·obtain ⟨v,hp,nx,k,hr,hk⟩:=h
   exact ⟨v,hp,nx,k,⟨v,hp,nx,k,hr,rfl,rfl,rfl,rfl⟩,hk⟩
  ·exact h.elim
 ·split at h
  ·exact ⟨_,_,_,_,⟨rfl,rfl,rfl,rfl⟩,h⟩
  ·split at h
   ·exact ⟨_,_,_,_,⟨rfl,rfl,rfl,rfl⟩,h⟩
   ·split at h
    ·exact ⟨_,_,_,_,⟨rfl,rfl,rfl,rfl⟩,h⟩
    ·exact h.elim
theorem Dy {R:aQ}:∀(ops:List aL) (s:St) {Q:St->Prop},gq R ops s Q->∃s',Q s'/\gq R ops s (fun x=>x=s')
 |[],s,Q,h=>⟨s,h,rfl⟩
 |o::rest,s,Q,h=>by
  unfold gq at h ⊢
  split at h
  ·obtain ⟨v,hp,nx,k,h1,h2⟩:=Ka h
   obtain ⟨s',q,h3⟩:=Dy rest _ h2
   exact ⟨s',q,m8 (fun _ _ _ _ _ _ _ _ h=>h) (by rintro v' hp' nx' k' ⟨rfl,rfl,rfl,rfl⟩;exact h3) h1⟩
  ·exact Dy rest _ h
  ·exact h.elim
theorem Aq {R:aQ}:∀(ops:List aL) (s:St) (bj:List Rec) {Q:St->List Rec->Prop},eg R ops s bj Q->∃s' r',Q s' r'/\eg R ops s bj (fun x y=>x=s'/\y=r')
 |[],s,bj,Q,h=>⟨s,bj,h,rfl,rfl⟩
 |o::rest,s,bj,Q,h=>by
  unfold eg at h ⊢
  split at h
  ·obtain ⟨v,hp,nx,k,h1,h2⟩:=Ka h
   obtain ⟨s',r',q,h3⟩:=Aq rest _ _ h2
   exact ⟨s',r',q,m8 (fun _ _ _ _ _ _ _ _ h=>h) (by rintro v' hp' nx' k' ⟨rfl,rfl,rfl,rfl⟩;exact h3) h1⟩
  ·exact Aq rest _ _ h
  ·exact h.elim
def tI:cC->Bool
 |.choose .. => false
 |.seq a b=>tI a&&tI b
 |.cond _ a b=>tI a&&tI b
 |.block _ a=>tI a
 |.loop a=>tI a
 |_=>true
theorem FQ {R:aQ}:∀(c:cC) (hd:tI c=true) (s:St) {Q:eS->St->Prop},W R c Q s->∃e s',Q e s'/\W R c (fun x y=>x=e/\y=s') s
 |.skip,_,s,Q,h=>⟨_,_,h,rfl,rfl⟩
 |.region ops,_,s,Q,h=>by
  obtain ⟨s',q,h2⟩:=Dy ops s h
  exact ⟨_,_,q,jO (fun _ _ _ _ _ _ _ _ h=>h) ops s (fun x hx=>⟨rfl,hx⟩) h2⟩
 |.draw pre ops,_,s,Q,h=>by
  obtain ⟨s',r',⟨hc,q⟩,h2⟩:=Aq ops s [] h
  exact ⟨_,_,q,jP (fun _ _ _ _ _ _ _ _ h=>h) ops s [] (fun x r hx=>⟨by rw[hx.2];exact hc,rfl,hx.1⟩) h2⟩
 |.seq a b,hd,s,Q,h=>by
  simp only[tI,zN]at hd
  unfold W at h
  obtain ⟨e,s',q,h2⟩:=FQ a hd.1 s h
  cases e with
  |normal =>
   obtain ⟨e2,s2,q2,h3⟩:=FQ b hd.2 s' q
   refine ⟨e2,s2,q2,?_⟩
   unfold W
   exact da (fun _ _ _ _ _ _ _ _ h=>h) a _ _ s (by rintro x y ⟨rfl,rfl⟩;exact h3) h2
  |exit i=>refine ⟨_,_,q,?_⟩;unfold W;exact da (fun _ _ _ _ _ _ _ _ h=>h) a _ _ s (by rintro x y ⟨rfl,rfl⟩;exact ⟨rfl,rfl⟩) h2
  |ret=>refine ⟨_,_,q,?_⟩;unfold W;exact da (fun _ _ _ _ _ _ _ _ h=>h) a _ _ s (by rintro x y ⟨rfl,rfl⟩;exact ⟨rfl,rfl⟩) h2
 |.cond c a b,hd,s,Q,h=>by
  simp only[tI,zN]at hd
  unfold W at h ⊢
  split at h
  ·split at h
   ·rename_i ht
    obtain ⟨e,s',q,h2⟩:=FQ a hd.1 s h
    exact ⟨e,s',q,by rw[if_pos ht];exact h2⟩
   ·rename_i ht
    obtain ⟨e,s',q,h2⟩:=FQ b hd.2 s h
    exact ⟨e,s',q,by rw[if_neg ht];exact h2⟩
  ·exact h.elim
 |.block id a,hd,s,Q,h=>by
  simp only[tI]at hd
  unfold W at h
  obtain ⟨e,s',q,h2⟩:=FQ a hd s h
  cases e with
  |normal=>refine ⟨_,_,q,?_⟩;unfold W;exact da (fun _ _ _ _ _ _ _ _ h=>h) a _ _ s (by rintro x y ⟨rfl,rfl⟩;exact ⟨rfl,rfl⟩) h2
  |ret=>refine ⟨_,_,q,?_⟩;unfold W;exact da (fun _ _ _ _ _ _ _ _ h=>h) a _ _ s (by rintro x y ⟨rfl,rfl⟩;exact ⟨rfl,rfl⟩) h2
  |exit i =>
   dsimp only at q
   split at q
   ·rename_i hi;refine ⟨_,_,q,?_⟩;unfold W;exact da (fun _ _ _ _ _ _ _ _ h=>h) a _ _ s (by rintro x y ⟨rfl,rfl⟩;simp[hi]) h2
   ·rename_i hi;refine ⟨_,_,q,?_⟩;unfold W;exact da (fun _ _ _ _ _ _ _ _ h=>h) a _ _ s (by rintro x y ⟨rfl,rfl⟩;simp[hi]) h2
 |.loop a,hd,s,Q,h=>by
  simp only[tI]at hd
  unfold W at h ⊢
  obtain ⟨n,h⟩:=h
  have key:∀n s,jj (W R a) Q n s->∃e s',Q e s'/\jj (W R a) (fun x y=>x=e/\y=s') n s:=by
   intro n
   induction n with
   |zero=>intro s h;exact h.elim
   |succ n ih =>
    intro s h
    simp only[jj]at h
    obtain ⟨e,s',q,h2⟩:=FQ a hd s h
    cases e with
    |normal =>
     obtain ⟨e2,s2,q2,h3⟩:=ih s' q
     exact ⟨e2,s2,q2,da (fun _ _ _ _ _ _ _ _ h=>h) a _ _ s (by rintro x y ⟨rfl,rfl⟩;exact h3) h2⟩
    |exit i=>exact ⟨_,_,q,da (fun _ _ _ _ _ _ _ _ h=>h) a _ _ s (by rintro x y ⟨rfl,rfl⟩;exact ⟨rfl,rfl⟩) h2⟩
    |ret=>exact ⟨_,_,q,da (fun _ _ _ _ _ _ _ _ h=>h) a _ _ s (by rintro x y ⟨rfl,rfl⟩;exact ⟨rfl,rfl⟩) h2⟩
  obtain ⟨e,s',q,h2⟩:=key n s h
  exact ⟨e,s',q,n,h2⟩
 |.exit id,_,s,Q,h=>⟨_,_,h,rfl,rfl⟩
 |.ret,_,s,Q,h=>⟨_,_,h,rfl,rfl⟩
 |.ah l,_,s,Q,h=>⟨_,_,h,rfl,rfl⟩
 |.choose d x ops,hd,s,Q,h=>by simp[tI]at hd
def yf (kK:List RV) (v:AV) (e:eS) (s:St):Prop:=kI e/\∃v1,ma kK s=some v1/\kh 6 s.hp v1=some v
@[simp ↓] theorem Ye {kK v tm hp nx}:yf kK v .ret ⟨tm,hp,nx⟩=∃v1,ma kK ⟨tm,hp,nx⟩=some v1/\kh 6 hp v1=some v:=by simp[yf]
theorem aD {E:Env} {f:Nat} {cf:au} {args:List AV} {v:AV} (hf:E.fn f=some cf) (hn:args.length=cf.np) (hc:bT args=true)
  (h:W (aY E) cf.body (yf cf.kK v) (init args cG 0)) (hp:Heap) (nx:Nat) :
  aY E f args hp nx v hp nx .p:=FV hf hn hc h hp nx
def sc (kK:List RV) (P:AV->Heap->Nat->Prop) (e:eS) (s:St):Prop:=kI e/\∃v,ma kK s=some v/\P v s.hp s.nx
@[simp ↓] theorem abC {kK P tm hp nx}:sc kK P .ret ⟨tm,hp,nx⟩=∃v,ma kK ⟨tm,hp,nx⟩=some v/\P v hp nx:=by simp[sc]
@[simp ↓] theorem Us {kK P tm hp nx}:sc kK P .normal ⟨tm,hp,nx⟩=∃v,ma kK ⟨tm,hp,nx⟩=some v/\P v hp nx:=by simp[sc]
theorem an {E:Env} {f:Nat} {cf:au} {args:List AV} {hp:Heap} {nx:Nat} {P:AV->Heap->Nat->Prop} (hf:E.fn f=some cf) (hn:args.length=cf.np)
  (h:W (aY E) cf.body (sc cf.kK P) (init args hp nx)) (hd:tI cf.body=true:=by kernel_rfl) :
  ∃v hp' nx',aY E f args hp nx v hp' nx' .e/\P v hp' nx':=by
 obtain ⟨e,s,hq,h2⟩:=FQ _ hd _ h
 obtain ⟨he,v,hv,hP⟩:=hq
 exact ⟨v,s.hp,s.nx,Ke hf hn (da (fun _ _ _ _ _ _ _ _ h=>h) _ _ _ _ (by rintro x y ⟨rfl,rfl⟩;exact ⟨he,hv,fun r=>.inl rfl,rfl⟩) h2),hP⟩
def Oj (kK:List RV) (v:AV) (hp':Heap) (nx':Nat) (e:eS) (s:St):Prop:=kI e/\ma kK s=some v/\Sub hp' s.hp/\nx'=s.nx
@[simp ↓] theorem abB {kK v hp' nx' tm hp nx}:Oj kK v hp' nx' .ret ⟨tm,hp,nx⟩=(ma kK ⟨tm,hp,nx⟩=some v/\Sub hp' hp/\nx'=nx):=by simp[Oj,kI]
@[simp ↓] theorem Ur {kK v hp' nx' tm hp nx}:Oj kK v hp' nx' .normal ⟨tm,hp,nx⟩=(ma kK ⟨tm,hp,nx⟩=some v/\Sub hp' hp/\nx'=nx):=by simp[Oj,kI]
theorem dF {E:Env} {f:Nat} {cf:au} {args:List AV} {hp hp':Heap} {nx nx':Nat} {v:AV} (hf:E.fn f=some cf) (hn:args.length=cf.np)
  (h:W (aY E) cf.body (Oj cf.kK v hp' nx') (init args hp nx)):aY E f args hp nx v hp' nx' .e:=Ke hf hn h
def oW (kK:List RV) (P:AV->Prop) (e:eS) (s:St):Prop:=kI e/\∃v1,ma kK s=some v1/\∃v,kh 6 s.hp v1=some v/\P v
@[simp ↓] theorem Vq {kK P tm hp nx}:oW kK P .ret ⟨tm,hp,nx⟩=∃v1,ma kK ⟨tm,hp,nx⟩=some v1/\∃v,kh 6 hp v1=some v/\P v:=by simp[oW]
theorem fM {E:Env} {f:Nat} {cf:au} {args:List AV} {P:AV->Prop} (hf:E.fn f=some cf) (hn:args.length=cf.np) (hc:bT args=true)
  (h:W (aY E) cf.body (oW cf.kK P) (init args cG 0)) (hd:tI cf.body=true:=by kernel_rfl):∃v,P v/\∀hp nx,aY E f args hp nx v hp nx .p:=by
 obtain ⟨e,s,hq,h2⟩:=FQ _ hd _ h
 obtain ⟨he,v1,vE,v,hv,hP⟩:=hq
 exact ⟨v,hP,fun hp nx=>FV hf hn hc (da (fun _ _ _ _ _ _ _ _ h=>h) _ _ _ _ (by rintro x y ⟨rfl,rfl⟩;exact ⟨he,v1,vE,hv⟩) h2) hp nx⟩
structure bD where
 v:List UInt8
 p:Int
 s:Int
def bD.cells (x:bD):List AV:=[.str x.v,.int .i64 x.p,.int .i64 x.s]
structure Nd where
 leaf:Bool
 keys:List (List UInt8)
 items:List bD
 kids:List Int
def aN (k:List UInt8):List AV:=[.str k]
def bC (k:Int):List AV:=[.int .i64 k]
def eV (n:Nat) (es:List (List AV)) (x:AV):Prop:=∃nil sz cap,x=.rs nil sz es cap/\(nil=true\/sz=n)/\(nil=true->es=[])
def iD (n:Nd) (x:AV):Prop:=∃k i d,x=.agg [.v (.bool n.leaf),k,i,d]/\eV 1 (n.keys.map aN) k/\eV 3 (n.items.map bD.cells) i/\eV 1 (n.kids.map bC) d
theorem iT {α:Type} {f:α->List AV} (h:∀x,bT (f x)=true):∀l:List α,bl (l.map f)=true
 |[]=>by simp
 |x::r=>by simp[h x,iT h r]
@[simp] theorem eL {l:List (List UInt8)}:bl (l.map aN)=true:=iT (fun x=>by simp[aN]) l
@[simp] theorem eM {l:List bD}:bl (l.map bD.cells)=true:=iT (fun x=>by simp[bD.cells]) l
@[simp] theorem fk {l:List Int}:bl (l.map bC)=true:=iT (fun x=>by simp[bC]) l
def ke (x:Int):Bool:=decide (2<=x)&&decide (x<4096)
def jl (x:bD):Bool:=if x.p=0 then decide (x.s=0)&&decide (x.v.length<=60) else ke x.p&&decide (x.v=[])&&decide (60<x.s)&&decide (x.s<=60000)
def jv {α:Type} (p:α->Bool):List α->Int->Int
 |[],_ => -1
 |x::r,i=>if p x then i else jv p r (i+1)
theorem sZ {α:Type} (p:α->Bool):∀(l:List α) (i:Int),0<=i->decide (0<=jv p l i)=l.any p
 |[],i,_=>by simp[jv]
 |x::r,i,h=>by
  simp only[jv,List.any_cons]
  split
  ·rename_i hx;simp[hx,h]
  ·rename_i hx;simp[hx,sZ p r (i+1) (by omega)]
theorem kj {α:Type} (p:α->Bool):∀(l:List α) (j:Nat) (i:Int),j<=l.length->(∀x∈l.take j,p x=false)->jv p l i=jv p (l.drop j) (i+j)
 |_,0,i,_,_=>by simp
 |[],j+1,i,h,_=>by simp at h
 |x::r,j+1,i,h,h2=>by
  have hx:=h2 x (by simp)
  simp only[jv,hx]
  rw[if_neg (by simp),kj p r j (i+1) (by simpa using h) (fun y hy=>h2 y (by simp[hy]))]
  simp;congr 1;omega
theorem sk {α:Type} {p:α->Bool} {l:List α} {j:Nat} {x:α} (hj:l[j]?=some x) (h:∀y∈l.take j,p y=false) (hx:p x=false):∀y∈l.take (j+1),p y=false:=by
 intro y hy
 rw[zz,hj]at hy
 simp at hy
 rcases hy with hy|rfl
 ·exact h y hy
 ·exact hx
theorem eb {n:Nat} {nil sz k es cap} {i:Int} {j:Nat} {c:List AV} (hz:(nil=true\/sz=n)/\(nil=true->es=[])) (hj:es[j]?=some c) (hi:i=(j:Int)):cd n (.rs nil sz es cap) (.v (.int k i))=some (.rp c):=by
 have bt:es≠[]:=by intro e;subst e;simp at hj
 have:=hz.1.resolve_left fun h=>bt (hz.2 h)
 subst this;subst hi
 simp[hj]
def pQ (ks:List (List UInt8)) (i:Nat):Bool:=decide (60<(ks.getD i []).length)||(decide (0<i) && !al (ks.getD (i-1) []) (ks.getD i []))
def oc (ks:List (List UInt8)):Bool:=(List.range ks.length).all fun i => !pQ ks i
def iU (n:Nd):Bool:=if n.leaf then decide (n.items.length=n.keys.length)&&decide (n.kids.length=0)&&n.items.all jl
 else decide (0<n.keys.length)&&decide (n.kids.length=n.keys.length+1)&&decide (n.items.length=0)&&n.kids.all ke
def ax (n:Nd):Bool:=oc n.keys&&iU n
theorem sS {ks:List (List UInt8)} (h:∀i,i<ks.length->pQ ks i=false):oc ks=true:=by
 simp only[oc,zQ,wL]
 intro i hi;simp[h i hi]
theorem vw {ks:List (List UInt8)} {i:Nat} (hi:i<ks.length) (h:pQ ks i=true):oc ks=false:=by
 cases hk:oc ks with
 |false=>rfl
 |true =>
  simp only[oc,zQ,wL]at hk
  have:=hk i hi
  rw[h]at this;cases this
theorem bc:∀a:List UInt8,al a a=false
 |[]=>rfl
 |x::a=>by simp[al,bc a]
theorem jr:∀a b:List UInt8,(al a b||decide (a=b)) = !al b a
 |[],[]=>rfl
 |[],y::b=>by simp[al]
 |x::a,[]=>by simp[al]
 |x::a,y::b=>by
  have ih:=jr a b
  simp only[al]
  by_cases h1:x<y
  ·have h2:¬y<x:=by intro h;have h1:=UInt8.lt_iff_toNat_lt.1 h1;have h:=UInt8.lt_iff_toNat_lt.1 h;omega
   have h3:x≠y:=by rintro rfl;exact h2 h1
   simp[h1,h2,h3,Ne.symm h3]
  ·by_cases h2:y<x
   ·have h3:x≠y:=by rintro rfl;exact h1 h2
    simp[h1,h2,h3]
   ·have h3:x=y:=by
     apply UInt8.toNat_inj.1
     have h1:¬x.toNat<y.toNat:=fun h=>h1 (UInt8.lt_iff_toNat_lt.2 h)
     have h2:¬y.toNat<x.toNat:=fun h=>h2 (UInt8.lt_iff_toNat_lt.2 h)
     omega
    subst h3
    simp[h1]
    rw[<-ih]
theorem J6 {α:Type} (p:α->Bool) (l:List α):(!l.any fun x => !p x)=l.all p:=by
 induction l with
 |nil=>rfl
 |cons a l ih=>simp[List.any_cons,List.all_cons,<-ih]
def aO (x:Nat):Nat->List UInt8
 |0=>[]
 |n+1=>aO (x / 256) n++[UInt8.ofNat (x % 256)]
theorem aU:∀(n x:Nat),(aO x n).length=n
 |0,_=>rfl
 |n+1,x=>by simp[aO,aU n]
structure aZ (n:Nd):Prop where
 yB:∀i (h:i<n.keys.length),(n.keys[i]).length<=60
 leaf:n.leaf=true->n.items.length=n.keys.length/\n.kids=[]/\∀x∈n.items,jl x=true
 inner:n.leaf=false->0<n.keys.length/\n.kids.length=n.keys.length+1/\n.items=[]/\∀x∈n.kids,ke x=true
theorem aZ.of {n:Nd} (h:ax n=true):aZ n:=by
 simp only[ax,zN]at h
 obtain ⟨h1,h2⟩:=h
 refine ⟨fun i hi => ?_,fun hl => ?_,fun hl => ?_⟩
 ·simp only[oc,zQ,wL]at h1
  have:=h1 i hi
  simp[pQ,hi]at this
  omega
 ·simp only[iU,hl,if_true,zN,decide_eq_true_eq,zQ]at h2
  exact ⟨h2.1.1,List.eq_nil_of_length_eq_zero h2.1.2,h2.2⟩
 ·simp[iU,hl]at h2
  exact ⟨h2.1.1.1,h2.1.1.2,h2.1.2,h2.2⟩
theorem gf {x:Int} (h:ke x=true):∃k:Nat,x=k/\2<=k/\k<4096:=by
 simp[ke]at h
 exact ⟨x.toNat,by omega,by omega,by omega⟩
theorem il {x:bD} (h:jl x=true):(x.p=0/\x.s=0/\x.v.length<=60)\/(∃p s:Nat,x.p=p/\x.s=s/\2<=p/\p<4096/\60<s/\s<=60000/\x.v=[]):=by
 simp only[jl]at h
 split at h
 ·rename_i hp;simp at h;exact .inl ⟨hp,h.1,h.2⟩
 ·simp[ke]at h
  exact .inr ⟨x.p.toNat,x.s.toNat,by omega,by omega,by omega,by omega,by omega,by omega,h.1.1.2⟩
def bo (n:Nd):List UInt8:=aO n.keys.length 2++if n.leaf then [] else aO (n.kids.getD 0 0).toNat 4
def im (x:bD):List UInt8:=if 0<x.p then 255::(aO x.p.toNat 4++aO x.s.toNat 4) else aO x.v.length 1++x.v
def eR (n:Nd) (i:Nat):List UInt8:=aO (n.keys.getD i []).length 1++n.keys.getD i []++if n.leaf then im (n.items.getD i ⟨[],0,0⟩) else aO (n.kids.getD (i+1) 0).toNat 4
def ba (n:Nd):List UInt8:=bo n++(List.range n.keys.length).flatMap (eR n)
theorem bS {n:Nd}:(bo n).length=if n.leaf then 2 else 6:=by
 simp only[bo];split<;>simp[aU]
theorem CJ {x:bD}:(im x).length=if 0<x.p then 9 else 1+x.v.length:=by
 simp only[im];split<;>simp[aU]
def bQ (n:Nd) (i:Nat):Nat:=if n.leaf then (if 0<(n.items.getD i ⟨[],0,0⟩).p then 1+(n.keys.getD i []).length+9 else 1+(n.keys.getD i []).length+1+(n.items.getD i ⟨[],0,0⟩).v.length) else 1+(n.keys.getD i []).length+4
theorem AU {n:Nd} {i:Nat}:(eR n i).length=bQ n i:=by
 simp only[eR,bQ]
 cases n.leaf
 ·simp[aU];omega
 ·simp only[if_true,zG,CJ,aU]
  split<;>omega
theorem fX {n:Nd} (hr:aZ n) {i:Nat} (hi:i<n.keys.length):bQ n i<=122:=by
 have h1:=hr.yB i hi
 have hk:n.keys.getD i []=n.keys[i]:=by simp[hi]
 simp only[bQ,hk]
 cases hl:n.leaf
 ·simp;omega
 ·obtain ⟨h2,h3,h4⟩:=hr.leaf hl
  have CT:i<n.items.length:=by omega
  have hg:n.items.getD i ⟨[],0,0⟩=n.items[i]:=by simp[CT]
  rw[hg]
  rcases il (h4 _ (zP CT)) with ⟨h5,_,h6⟩|⟨p,s,h5,_,h6,_⟩
  ·simp[h5];omega
  ·have:(0:Int)<n.items[i].p:=by omega
   simp[this];omega
def bO (n:Nd):Nat->Nat
 |0=>0
 |k+1=>bO n k+bQ n k
theorem j0 (n:Nd):∀k,((List.range k).flatMap (eR n)).length=bO n k
 |0=>rfl
 |k+1=>by rw[qR];simp[j0 n k,bO,AU]
theorem rh {n:Nd} (hr:aZ n):∀k,k<=n.keys.length->bO n k<=122*k
 |0,_=>by simp[bO]
 |k+1,h=>by
  have:=rh hr k (by omega)
  have:=fX hr (i:=k) (by omega)
  simp only[bO];omega
def aw (n:Nd):Nat:=if ax n then (ba n).length else 0
theorem bK (n:Nd):(ba n).length=(bo n).length+bO n n.keys.length:=by
 simp only[ba,zG,j0]
def HJ (n:Nd):Int×List UInt8×Int :=
 if ax n then (if (ba n).length>492 then (0,[],4) else (if n.leaf then 1 else 2,ba n,0)) else (0,[],2)
def C9 (r:Int×List UInt8×Int):AV:=.bE [.int .i64 r.1,.str r.2.1,.int .i64 r.2.2]
theorem lW {len top:Nat} {a b:Nat} {k k':IntKind} (h1:a<=b) (h2:b<=top):bV len top (some (.v (.int k a))) (some (.v (.int k' b))) none=some (a,b,none):=by
 have e1:0<=(b:Int)/\(b:Int)<=(top:Int):=by omega
 have e2:0<=(a:Int)/\(a:Int)<=(b:Int):=by omega
 simp only[bV,idxOf,qM,if_pos e1,zl,if_pos e2]
theorem oL {n:Nat} {x:AV} {es:List (List AV)} {a b:Nat} {k k':IntKind} (hx:eV n es x) (h1:a<=b) (h2:b<=es.length) :
  ∃y,eV n ((es.take b).drop a) y/\b9 n x (some (.v (.int k a))) (some (.v (.int k' b))) none=some y:=by
 obtain ⟨nil,sz,cap,rfl,hz,hn⟩:=hx
 refine ⟨.rs nil sz ((es.take b).drop a) (cap.map (· - a)),⟨nil,sz,_,rfl,hz,fun h=>by simp[hn h]⟩,?_⟩
 simp only[b9,if_pos hz,lW h1 h2,ef]
theorem mF {α:Type} {f:α->Option α}:∀{l:List α},(∀x∈l,f x=some x)->dW f l=some l
 |[],_=>rfl
 |x::r,h=>by simp[h x (by simp),mF fun y hy=>h y (zu _ hy)]
theorem pK:∀{l:List AV},bT l=true->∀x∈l,x.closed=true
 |[],_,x,h=>by simp at h
 |y::r,h,x,hx=>by
  simp at h hx
  rcases hx with rfl|hx
  ·exact h.1
  ·exact pK h.2 x hx
theorem nP:∀{l:List (List AV)},bl l=true->∀x∈l,bT x=true
 |[],_,x,h=>by simp at h
 |y::r,h,x,hx=>by
  simp at h hx
  rcases hx with rfl|hx
  ·exact h.1
  ·exact nP h.2 x hx
theorem mC (l:List (List UInt8)):(l.map aN).all (fun l=>l.all AV.one)=true:=by simp[aN]
theorem Bl (l:List bD):(l.map bD.cells).all (fun l=>l.all AV.one)=true:=by simp[bD.cells]
theorem o5 (l:List Int):(l.map bC).all (fun l=>l.all AV.one)=true:=by simp[bC]
@[simp] theorem SU {l:List (List UInt8)} {a b:Nat}:bl (((l.map aN).take b).drop a)=true:=by rw[<-wR,<-wS];exact eL
@[simp] theorem Rd {l:List bD} {a b:Nat}:bl (((l.map bD.cells).take b).drop a)=true:=by rw[<-wR,<-wS];exact eM
@[simp] theorem SS {l:List Int} {a b:Nat}:bl (((l.map bC).take b).drop a)=true:=by rw[<-wR,<-wS];exact fk
def cM (n:Nd) (a b:Nat):Nd:=⟨n.leaf,(n.keys.take b).drop a,if n.leaf then (n.items.take b).drop a else [],if n.leaf then [] else (n.kids.take (b+1)).drop a⟩
theorem eV.shape {n es x} (h:eV n es x):∃nil sz cap,x=.rs nil sz es cap:=by obtain ⟨a,b,c,h,_⟩:=h;exact ⟨a,b,c,h⟩
theorem eV.v9 {n:Nat}:eV n [] (.rs true 0 [] (some 0)):=⟨true,0,_,rfl,.inl rfl,fun _=>rfl⟩
def gi (n:Nd):Nat:=if n.leaf then 1 else 2
structure vX (n:Nd) (i:Nat):Prop where
 pos:1<=i
 le:i+gi n<=n.keys.length
 low:∀j,1<=j->j<i->2*((bo n).length+bO n j)<aw n
 top:i+gi n=n.keys.length\/aw n<=2*((bo n).length+bO n i)
theorem cK:∀{a b c:List UInt8},al a b=true->al b c=true->al a c=true
 |_,[],_,h,_=>by simp[al]at h
 |_,_::_,[],_,h=>by simp[al]at h
 |[],_::_,_::_,_,_=>by simp[al]
 |x::a,y::b,z::c,h1,h2=>by
  simp only[al,qB,decide_eq_true_eq,zN,beq_iff_eq]at h1 h2 ⊢
  rcases h1 with h1|⟨rfl,h1⟩
  ·rcases h2 with h2|⟨rfl,h2⟩
   ·exact .inl (UInt8.lt_trans h1 h2)
   ·exact .inl h1
  ·rcases h2 with h2|⟨rfl,h2⟩
   ·exact .inl h2
   ·exact .inr ⟨rfl,cK h1 h2⟩
theorem j5 {a b:List UInt8} (h:al a b=true):al b a=false:=by
 cases hb:al b a with
 |false=>rfl
 |true=>have:=cK h hb;rw[bc]at this;cases this
theorem mu {a b:List UInt8} (h:al a b=true):a≠b:=by
 rintro rfl;rw[bc]at h;cases h
theorem Gm {a b:List UInt8} (h1:al a b=false) (h2:al b a=false):a=b:=by
 have:=jr a b
 rw[h1,h2]at this
 simpa using this
def kS (ks:List (List UInt8)):Prop:=∀i j (hj:j<ks.length) (yU:i<j),al (ks[i]'(by omega)) ks[j]=true
theorem kS.of {ks:List (List UInt8)} (h:oc ks=true):kS ks:=by
 have step:∀i (hi:i+1<ks.length),al (ks[i]'(by omega)) ks[i+1]=true:=by
  intro i hi
  simp only[oc,zQ,wL]at h
  have:=h (i+1) hi
  have e1:ks.getD (i+1) []=ks[i+1]:=by simp[hi]
  have e2:ks.getD (i+1-1) []=ks[i]'(by omega):=by simp[show i<ks.length by omega]
  simp only[pQ,e1,e2]at this
  simpa using (by simpa using this:_/\_).2
 intro i j hj yU
 induction j with
 |zero=>omega
 |succ j ih =>
  rcases zj i j with h|h
  ·exact cK (ih (by omega) h) (step j hj)
  ·have:i=j:=by omega
   subst this;exact step i hj
theorem iF {ks:List (List UInt8)}:oc ks=true↔kS ks/\∀i (h:i<ks.length),ks[i].length<=60:=by
 constructor
 ·intro h
  refine ⟨kS.of h,fun i hi => ?_⟩
  simp only[oc,zQ,wL]at h
  have:=h i hi
  simp[pQ,hi]at this
  omega
 ·rintro ⟨h1,h2⟩
  refine sS fun i hi => ?_
  have e1:ks.getD i []=ks[i]:=by simp[hi]
  have:=h2 i hi
  by_cases h0:0<i
  ·have e2:ks.getD (i-1) []=ks[i-1]'(by omega):=by simp[show i-1<ks.length by omega]
   have:=h1 (i-1) i hi (by omega)
   simp only[pQ,e1,e2,this]
   simp;omega
  ·simp only[pQ,e1]
   simp[h0];omega
def below (ks:List (List UInt8)) (k:List UInt8):Nat:=(ks.filter fun x=>al x k).length
theorem Am {ks:List (List UInt8)} {k:List UInt8} {i:Nat} (hi:i<=ks.length) (h1:∀j (hj:j<ks.length),j<i->al ks[j] k=true) (h2:∀j (hj:j<ks.length),i<=j->al ks[j] k=false):below ks k=i:=by
 unfold below
 have:ks=ks.take i++ks.drop i:=(zy i ks).symm
 rw[this,wU,zG]
 have e1:(ks.take i).filter (fun x=>al x k)=ks.take i:=by
  rw[wX]
  intro x hx
  obtain ⟨j,hj,rfl⟩:=zY hx
  rw[wy]
  exact h1 j (by simp at hj;omega) (by simp at hj;omega)
 have e2:(ks.drop i).filter (fun x=>al x k)=[]:=by
  rw[wC]
  intro x hx
  obtain ⟨j,hj,rfl⟩:=zY hx
  rw[qA]
  simp[h2 (i+j) (by simp at hj;omega) (by omega)]
 rw[e1,e2]
 simp;omega
theorem fu {ks:List (List UInt8)} (hr:kS ks) (k:List UInt8):below ks k<=ks.length/\(∀j (hj:j<ks.length),j<below ks k->al ks[j] k=true)/\(∀j (hj:j<ks.length),below ks k<=j->al ks[j] k=false):=by
 obtain ⟨i,hi,h1,h2⟩:∃i,i<=ks.length/\(∀j (hj:j<ks.length),j<i->al ks[j] k=true)/\(∀j (hj:j<ks.length),i<=j->al ks[j] k=false):=by
  have:∀d i,ks.length-i=d->i<=ks.length->(∀j (hj:j<ks.length),j<i->al ks[j] k=true)->∃i,i<=ks.length/\(∀j (hj:j<ks.length),j<i->al ks[j] k=true)/\(∀j (hj:j<ks.length),i<=j->al ks[j] k=false):=by
   intro d
   induction d with
   |zero=>intro i h1 h2 h3;exact ⟨i,h2,h3,fun j hj yU=>by omega⟩
   |succ d ih =>
    intro i h1 h2 h3
    have az:i<ks.length:=by omega
    cases h:al ks[i] k with
    |true =>
     refine ih (i+1) (by omega) (by omega) fun j hj oG => ?_
     rcases zj j i with g|g
     ·exact h3 j hj g
     ·have:j=i:=by omega
      subst this;exact h
    |false =>
     refine ⟨i,h2,h3,fun j hj yU => ?_⟩
     rcases zj i j with g|g
     ·cases h4:al ks[j] k with
      |false=>rfl
      |true=>have:=cK (hr i j hj g) h4;rw[h]at this;cases this
     ·have:j=i:=by omega
      subst this;exact h
  exact this _ 0 rfl (by omega) (fun j _ h=>by omega)
 have e:=Am hi h1 h2
 rw[e];exact ⟨hi,h1,h2⟩
theorem kW {ks:List (List UInt8)} (hr:kS ks) (k:List UInt8):k∈ks↔ks[below ks k]?=some k:=by
 obtain ⟨h1,h2,h3⟩:=fu hr k
 constructor
 ·intro hm
  obtain ⟨j,hj,rfl⟩:=zY hm
  have hle:below ks ks[j]<=j:=by
   rcases zj j (below ks ks[j]) with h|h
   ·have:=h2 j hj h;rw[bc]at this;cases this
   ·exact h
  rcases zj (below ks ks[j]) j with h|h
  ·have:=h3 (below ks ks[j]) (by omega) (zD _)
   rw[hr _ _ hj h]at this;cases this
  ·have:below ks ks[j]=j:=by omega
   rw[this];exact zA hj
 ·intro h;exact List.mem_of_getElem? h
def kF (n:Nd) (k:List UInt8):Int×Bool :=
 if ax n then (((below n.keys k+if k∈n.keys/\n.leaf=false then 1 else 0:Nat):Int),decide (k∈n.keys)) else (0,false)
def lS (r:Int×Bool):AV:=.bE [.int .i64 r.1,.v (.bool r.2)]
abbrev RS:=List UInt8×Bool
def aA (s:List UInt8):Nat:=s.foldl (fun x b=>256*x+b.toNat) 0
def aH (r:RS) (n:Nat):List UInt8×RS:=if n<=r.1.length then (r.1.take n,(r.1.drop n,r.2)) else ([],(r.1,true))
def aF (r:RS) (n:Nat):Nat×RS:=(aA (aH r n).1,(aH r n).2)
def ea (r:RS):bD×RS :=
 if (aF r 1).1=255 then
  (⟨[],(aF (aF r 1).2 4).1,(aF (aF (aF r 1).2 4).2 4).1⟩,((aF (aF (aF r 1).2 4).2 4).2.1,(aF (aF (aF r 1).2 4).2 4).2.2||decide ((aF (aF r 1).2 4).1=0)))
 else (⟨(aH (aF r 1).2 (aF r 1).1).1,0,0⟩,(aH (aF r 1).2 (aF r 1).1).2)
theorem Oq (s:List UInt8):∀x:Nat,s.foldl (fun x b=>256*x+b.toNat) x<(x+1)*256 ^ s.length:=by
 induction s with
 |nil=>intro x;simp
 |cons b s ih =>
  intro x
  have h:=ih (256*x+b.toNat)
  have hb:b.toNat<256:=b.toNat_lt
  simp only[jD,zV,jI]
  calc _<(256*x+b.toNat+1)*256 ^ s.length:=h
   _<=((x+1)*256)*256 ^ s.length:=zX _ (by omega)
   _=(x+1)*(256 ^ s.length*256):=by rw[Nat.mul_assoc,Nat.mul_comm 256]
theorem oT (s:List UInt8):aA s<256 ^ s.length:=by simpa [aA] using Oq s 0
theorem lg (s:List UInt8) (b:UInt8):aA (s++[b])=256*aA s+b.toNat:=by simp[aA]
theorem Aj (r:RS) (n:Nat):(aH r n).1.length<=n:=by
 unfold aH;split
 ·simp;omega
 ·simp
theorem RC (r:RS) (n:Nat):(aF r n).1<256 ^ n:=by
 unfold aF
 have h1:=oT (aH r n).1
 have h2:=wv (n:=256) (by omega) (Aj r n)
 simp only;omega
theorem acq {x b:Nat} (hx:x<281474976710656) (hb:b<256):(BitVec.ofNat 64 (x*256) ||| BitVec.ofNat 64 b).toNat=256*x+b:=by
 have h1:(BitVec.ofNat 64 (x*256)).toNat=x*256:=by rw[BitVec.toNat_ofNat,show (2:Nat) ^ 64=18446744073709551616 from rfl];omega
 have h2:(BitVec.ofNat 64 b).toNat=b:=by rw[BitVec.toNat_ofNat,show (2:Nat) ^ 64=18446744073709551616 from rfl];omega
 rw[BitVec.toNat_or,h1,h2]
 have:=Nat.shiftLeft_add_eq_or_of_lt (b:=b) (i:=8) (show b<2 ^ 8 by omega) x
 rw[Nat.shiftLeft_eq]at this
 have e:x*2 ^ 8=x*256:=rfl
 rw[e]at this
 rw[<-this,Nat.mul_comm]
theorem Is {x b:Nat} (hx:x<281474976710656) (hb:b<256):IntKind.wrap .i64 ((BitVec.ofInt (IntKind.bits .i64) (IntKind.wrap .i64 ((x:Int)*256)) ||| BitVec.ofNat (IntKind.bits .i64) b).toNat:Int)=((256*x+b:Nat):Int):=by
 have e0:(x:Int)*256=((x*256:Nat):Int):=by omega
 have e1:IntKind.wrap .i64 ((x:Int)*256)=((x*256:Nat):Int):=by rw[e0,aj]<;>omega
 have e2:BitVec.ofInt (IntKind.bits .i64) ((x*256:Nat):Int)=BitVec.ofNat 64 (x*256):=BitVec.ofInt_natCast ..
 have e4:=acq hx hb
 rw[e1,e2]
 have e5:IntKind.wrap .i64 ((256*x+b:Nat):Int)=((256*x+b:Nat):Int):=by rw[aj]<;>omega
 exact (congrArg (fun n:Nat=>IntKind.wrap .i64 (n:Int)) e4).trans e5
theorem HT {len top b:Nat} {k:IntKind} (h2:b<=top):bV len top none (some (.v (.int k b))) none=some (0,b,none):=by
 have e1:0<=(b:Int)/\(b:Int)<=(top:Int):=by omega
 simp only[bV,idxOf,qM,if_pos e1,zl]
theorem tf {len top b:Nat} {k:IntKind} (h2:b<=len):bV len top (some (.v (.int k b))) none none=some (b,len,none):=by
 have e1:0<=(b:Int)/\(b:Int)<=(len:Int):=by omega
 simp[bV,idxOf,e1]
theorem D8 {l:List UInt8} {b:Nat} {k:IntKind} (h:b<=l.length):eW (.str l) none (some (.v (.int k b)))=some (.str (l.take b)):=by
 simp only[eW,HT h,zb]
theorem D7 {l:List UInt8} {b:Nat} {k:IntKind} (h:b<=l.length):eW (.str l) (some (.v (.int k b))) none=some (.str (l.drop b)):=by
 simp only[eW,tf h,zW]
def eE (n:Nd) (r:RS):Nd×RS :=
 if n.leaf then (⟨n.leaf,n.keys++[(aH (aF r 1).2 (aF r 1).1).1],n.items++[(ea (aH (aF r 1).2 (aF r 1).1).2).1],n.kids⟩,(ea (aH (aF r 1).2 (aF r 1).1).2).2)
 else (⟨n.leaf,n.keys++[(aH (aF r 1).2 (aF r 1).1).1],n.items,n.kids++[((aF (aH (aF r 1).2 (aF r 1).1).2 4).1:Int)]⟩,(aF (aH (aF r 1).2 (aF r 1).1).2 4).2)
def fE:Nat->Nd->RS->Nd×RS
 |0,n,r=>(n,r)
 |m+1,n,r=>if r.2 then (n,r) else fE m (eE n r).1 (eE n r).2
theorem Bo {m:Nat} {n:Nd} {r:RS} (h:r.2=true):fE m n r=(n,r):=by
 cases m
 ·rfl
 ·simp[fE,h]
def dh (kind:Int) (r:RS):Nd×RS:=if kind=1 then (⟨true,[],[],[]⟩,r) else (⟨false,[],[],[((aF r 4).1:Int)]⟩,(aF r 4).2)
def nO (kind:Int) (s:List UInt8):Nd×RS:=fE (aF (s,false) 2).1 (dh kind (aF (s,false) 2).2).1 (dh kind (aF (s,false) 2).2).2
def AW (kind:Int) (s:List UInt8):Option Nd :=
 if kind≠1/\kind≠2 then none
 else if (nO kind s).2.2=true\/(nO kind s).2.1≠[]\/ax (nO kind s).1=false then none else some (nO kind s).1
theorem Gs (n:Nd) (r:RS):(eE n r).1.leaf=n.leaf:=by unfold eE;split<;>rfl
def eC:AV:=.agg [.v (.bool false),.rs true 0 [] (some 0),.rs true 0 [] (some 0),.rs true 0 [] (some 0)]
def OK (kind:Int) (s:List UInt8) (v:AV):Prop :=
 (∀n,AW kind s=some n->∃y,iD n y/\v=.bE [y,.v (.int .i64 0)])/\(AW kind s=none->v=.bE [eC,.v (.int .i64 11)])
theorem De {kind:Int} (hk:kind=1\/kind=2) (s:List UInt8):AW kind s=if (nO kind s).2.2=true\/(nO kind s).2.1≠[]\/ax (nO kind s).1=false then none else some (nO kind s).1:=by
 unfold AW
 rw[if_neg]
 rcases hk with rfl|rfl<;>simp
def Mw (s:List UInt8) (n:Nat):List UInt8×List UInt8×Bool:=if n<=s.length then (s.take n,s.drop n,true) else ([],[],false)
def Bw (s:List UInt8):bD×List UInt8×Bool :=
 if 1<=s.length then
  if aA (s.take 1)=255 then (if 8<=(s.drop 1).length then (⟨[],aA ((s.drop 1).take 4),aA (((s.drop 1).take 8).drop 4)⟩,(s.drop 1).drop 8,true) else (⟨[],0,0⟩,[],false))
  else (⟨(Mw (s.drop 1) (aA (s.take 1))).1,0,0⟩,(Mw (s.drop 1) (aA (s.take 1))).2)
 else (⟨[],0,0⟩,[],false)
def stepT (n:Nd) (s:List UInt8):Option (Nd×List UInt8) :=
 if s.length<1 then none else
 if (s.drop 1).length<aA (s.take 1) then none else
 if n.leaf then
  (if (Bw ((s.drop 1).drop (aA (s.take 1)))).2.2=true then some (⟨n.leaf,n.keys++[(s.drop 1).take (aA (s.take 1))],n.items++[(Bw ((s.drop 1).drop (aA (s.take 1)))).1],n.kids⟩,(Bw ((s.drop 1).drop (aA (s.take 1)))).2.1) else none)
 else
  (if ((s.drop 1).drop (aA (s.take 1))).length<4 then none else some (⟨n.leaf,n.keys++[(s.drop 1).take (aA (s.take 1))],n.items,n.kids++[(aA (((s.drop 1).drop (aA (s.take 1))).take 4):Int)]⟩,((s.drop 1).drop (aA (s.take 1))).drop 4))
def Iy:Nat->Nd->List UInt8->Option (Nd×List UInt8)
 |0,n,s=>some (n,s)
 |m+1,n,s=>match stepT n s with
  |some (n',s')=>Iy m n' s'
  |none=>none
def Gt (kind:Int) (s:List UInt8):Option (Nd×List UInt8) :=
 if s.length<2\/(kind≠1/\kind≠2) then none else
 if kind=2 then (if (s.drop 2).length<4 then none else some (⟨false,[],[],[(aA ((s.drop 2).take 4):Int)]⟩,(s.drop 2).drop 4)) else some (⟨true,[],[],[]⟩,s.drop 2)
def SM (kind:Int) (s:List UInt8):Option (Nd×List UInt8):=match Gt kind s with
 |some (n,r)=>Iy (aA (s.take 2)) n r
 |none=>none
def Z4 (kind:Int) (s:List UInt8):Option Nd:=match SM kind s with
 |some (n,r)=>if r=[]/\ax n=true/\ba n=s then some n else none
 |none=>none
theorem fp:∀(n x:Nat),x<256 ^ n->aA (aO x n)=x
 |0,x,h=>by simp at h;subst h;rfl
 |n+1,x,h=>by
  have h1:x / 256<256 ^ n:=by rw[jI]at h;omega
  have h2:(UInt8.ofNat (x % 256)).toNat=x % 256:=by simp
  rw[aO,lg,fp n _ h1,h2];omega
theorem ym:∀(n:Nat) (l:List UInt8),l.length=n->aO (aA l) n=l
 |0,l,h=>by rw[zf]at h;subst h;rfl
 |n+1,l,h=>by
  have bt:l≠[]:=by rintro rfl;simp at h
  obtain ⟨l',b,rfl⟩:∃l' b,l=l'++[b]:=⟨l.dropLast,l.getLast bt,(List.dropLast_concat_getLast bt).symm⟩
  have hb:=b.toNat_lt
  have hl:l'.length=n:=by simpa using h
  rw[lg,aO]
  have e1:(256*aA l'+b.toNat) / 256=aA l':=by omega
  have e2:(256*aA l'+b.toNat) % 256=b.toNat:=by omega
  rw[e1,e2,ym n l' hl]
  simp
theorem nR (l rest:List UInt8):aH (l++rest,false) l.length=(l,(rest,false)):=by
 unfold aH;simp
theorem gJ {x n:Nat} (h:x<256 ^ n) (rest:List UInt8):aF (aO x n++rest,false) n=(x,(rest,false)):=by
 have:=nR (aO x n) rest
 rw[aU]at this
 unfold aF;rw[this,fp n x h]
theorem mZ {r:RS} {m:Nat} (h:(aH r m).2.2=false):r.2=false/\(aH r m).1.length=m/\r.1=(aH r m).1++(aH r m).2.1:=by
 unfold aH at h ⊢
 split
 ·rename_i hm;rw[if_pos hm]at h;exact ⟨h,by simp;omega,by simp⟩
 ·rename_i hm;rw[if_neg hm]at h;cases h
theorem fR {r:RS} {m:Nat} (h:(aF r m).2.2=false):r.2=false/\m<=r.1.length/\r.1=aO (aF r m).1 m++(aF r m).2.1:=by
 unfold aF at h ⊢
 obtain ⟨h1,h2,h3⟩:=mZ h
 refine ⟨h1,?_,?_⟩
 ·have:=congrArg List.length h3;rw[zG]at this;omega
 ·show r.1=aO (aA (aH r m).1) m++(aH r m).2.1
  rw[ym m _ h2];exact h3
theorem Nr {r:RS} (h:(ea r).2.2=false):r.2=false/\r.1=im (ea r).1++(ea r).2.1:=by
 unfold ea at h ⊢
 split
 ·rename_i mj
  rw[if_pos mj]at h
  simp only[qI,decide_eq_false_iff_not]at h
  obtain ⟨h1,h2⟩:=h
  obtain ⟨a1,_,a2⟩:=fR h1
  obtain ⟨b1,_,b2⟩:=fR a1
  obtain ⟨c1,_,c2⟩:=fR b1
  refine ⟨c1,?_⟩
  have hp:0<((aF (aF r 1).2 4).1:Int):=by omega
  simp only[im,hp,if_true,zl]
  rw[c2,mj,b2,a2]
  simp[aO]
 ·rename_i mj
  rw[if_neg mj]at h
  obtain ⟨a1,a2,a3⟩:=mZ h
  obtain ⟨b1,_,b2⟩:=fR a1
  refine ⟨b1,?_⟩
  simp only[im]
  rw[if_neg (by omega),a2,zF,<-a3]
  exact b2
def WF (n:Nd):Prop:=if n.leaf then n.items.length=n.keys.length else n.kids.length=n.keys.length+1
def entries (n:Nd):List UInt8:=(List.range n.keys.length).flatMap (eR n)
theorem pI {α β:Type} {l:List α} {f g:α->List β} (h:∀x∈l,f x=g x):l.flatMap f=l.flatMap g:=by
 induction l with
 |nil=>rfl
 |cons a l ih=>simp only[List.flatMap_cons];rw[h a (by simp),ih fun x hx=>h x (by simp[hx])]
theorem C8 {n:Nd} (hl:n.leaf=true) (hw:WF n) (k:List UInt8) (x:bD):entries ⟨n.leaf,n.keys++[k],n.items++[x],n.kids⟩=entries n++(aO k.length 1++k++im x):=by
 simp only[WF,hl,if_true]at hw
 unfold entries
 simp only[zG,List.length_singleton,qR,qf,List.flatMap_cons,List.flatMap_nil,zT]
 congr 1
 ·refine pI fun i hi => ?_
  simp only[wL]at hi
  have e1:(n.keys++[k]).getD i []=n.keys.getD i []:=by simp[List.getD,zR hi]
  have e2:(n.items++[x]).getD i ⟨[],0,0⟩=n.items.getD i ⟨[],0,0⟩:=by simp[List.getD,zR (show i<n.items.length by omega)]
  simp only[eR,e1,e2]
 ·have e1:(n.keys++[k]).getD n.keys.length []=k:=by simp
  have e2:(n.items++[x]).getD n.keys.length ⟨[],0,0⟩=x:=by rw[<-hw];simp
  simp only[eR,e1,e2,hl,if_true]
theorem Fs {n:Nd} (hl:n.leaf=false) (hw:WF n) (k:List UInt8) (c:Nat):entries ⟨n.leaf,n.keys++[k],n.items,n.kids++[(c:Int)]⟩=entries n++(aO k.length 1++k++aO c 4):=by
 simp[WF,hl]at hw
 unfold entries
 simp only[zG,List.length_singleton,qR,qf,List.flatMap_cons,List.flatMap_nil,zT]
 congr 1
 ·refine pI fun i hi => ?_
  simp only[wL]at hi
  have e1:(n.keys++[k]).getD i []=n.keys.getD i []:=by simp[List.getD,zR hi]
  have e2:(n.kids++[(c:Int)]).getD (i+1) 0=n.kids.getD (i+1) 0:=by simp[List.getD,zR (show i+1<n.kids.length by omega)]
  simp only[eR,e1,e2]
 ·have e1:(n.keys++[k]).getD n.keys.length []=k:=by simp
  have e2:(n.kids++[(c:Int)]).getD (n.keys.length+1) 0=c:=by rw[<-hw];simp
  simp only[eR,e1,e2,hl]
  simp
theorem MA {n:Nd} {r:RS} (hw:WF n) (h:(eE n r).2.2=false):r.2=false/\WF (eE n r).1/\entries n++r.1=entries (eE n r).1++(eE n r).2.1 /\
  (eE n r).1.keys.length=n.keys.length+1/\(eE n r).1.kids.getD 0 0=n.kids.getD 0 0/\stepT n r.1=some ((eE n r).1,(eE n r).2.1):=by
 cases hl:n.leaf
 ·have e:eE n r=(⟨n.leaf,n.keys++[(aH (aF r 1).2 (aF r 1).1).1],n.items,n.kids++[((aF (aH (aF r 1).2 (aF r 1).1).2 4).1:Int)]⟩,(aF (aH (aF r 1).2 (aF r 1).1).2 4).2):=by simp[eE,hl]
  rw[e]at h ⊢
  obtain ⟨a1,a0,a2⟩:=fR h
  obtain ⟨b1,b2,b3⟩:=mZ a1
  obtain ⟨c1,c0,c2⟩:=fR b1
  simp only
  refine ⟨c1,?_,?_,by simp,?_,?_⟩
  ·simp[WF,hl]at hw ⊢;omega
  ·rw[Fs hl hw,b2,zF,zF,zF,<-a2,<-b3,<-c2]
  ·simp[WF,hl]at hw
   rw[List.getD_eq_getElem?_getD,List.getD_eq_getElem?_getD,zR (show 0<n.kids.length by omega)]
  ·obtain ⟨s,bad⟩:=r
   simp only at c1 c0 c2;subst c1
   have f1:aF (s,false) 1=(aA (s.take 1),(s.drop 1,false)):=by unfold aF aH;simp only;rw[if_pos c0]
   rw[f1]at b2 b3 a0 ⊢
   simp only at b2 b3
   have f2:aA (s.take 1)<=(s.drop 1).length:=by rw[b3,zG,b2];omega
   have f3:aH (s.drop 1,false) (aA (s.take 1))=((s.drop 1).take (aA (s.take 1)),((s.drop 1).drop (aA (s.take 1)),false)):=by unfold aH;simp only;rw[if_pos f2]
   simp only at a0 ⊢
   rw[f3]at a0 ⊢
   simp only at a0 ⊢
   have f4:aF ((s.drop 1).drop (aA (s.take 1)),false) 4=(aA (((s.drop 1).drop (aA (s.take 1))).take 4),(((s.drop 1).drop (aA (s.take 1))).drop 4,false)):=by unfold aF aH;simp only;rw[if_pos a0]
   rw[f4]
   unfold stepT
   rw[if_neg (by omega),if_neg (by omega),if_neg (by simp[hl]),if_neg (by omega)]
 ·have e:eE n r=(⟨n.leaf,n.keys++[(aH (aF r 1).2 (aF r 1).1).1],n.items++[(ea (aH (aF r 1).2 (aF r 1).1).2).1],n.kids⟩,(ea (aH (aF r 1).2 (aF r 1).1).2).2):=by simp[eE,hl]
  rw[e]at h ⊢
  obtain ⟨a1,a2⟩:=Nr h
  obtain ⟨b1,b2,b3⟩:=mZ a1
  obtain ⟨c1,c0,c2⟩:=fR b1
  simp only
  refine ⟨c1,?_,?_,by simp,trivial,?_⟩
  ·simp[WF,hl]at hw ⊢;omega
  ·rw[C8 hl hw,b2,zF,zF,zF,<-a2,<-b3,<-c2]
  ·obtain ⟨s,bad⟩:=r
   simp only at c1 c0 c2;subst c1
   have f1:aF (s,false) 1=(aA (s.take 1),(s.drop 1,false)):=by unfold aF aH;simp only;rw[if_pos c0]
   rw[f1]at b2 b3 h ⊢
   simp only at b2 b3 h ⊢
   have f2:aA (s.take 1)<=(s.drop 1).length:=by rw[b3,zG,b2];omega
   have f3:aH (s.drop 1,false) (aA (s.take 1))=((s.drop 1).take (aA (s.take 1)),((s.drop 1).drop (aA (s.take 1)),false)):=by unfold aH;simp only;rw[if_pos f2]
   rw[f3]at h ⊢
   simp only at h ⊢
   have f4:Bw ((s.drop 1).drop (aA (s.take 1)))=((ea ((s.drop 1).drop (aA (s.take 1)),false)).1,(ea ((s.drop 1).drop (aA (s.take 1)),false)).2.1,true):=by
    generalize (s.drop 1).drop (aA (s.take 1))=q at h
    unfold ea at h ⊢
    split at h
    ·rename_i mj
     simp only[qI,decide_eq_false_iff_not]at h
     obtain ⟨g1,g2⟩:=h
     obtain ⟨a1,a3,a2⟩:=fR g1
     obtain ⟨b1,b3,b2⟩:=fR a1
     obtain ⟨c1,c3,c2⟩:=fR b1
     have k1:aF (q,false) 1=(aA (q.take 1),(q.drop 1,false)):=by unfold aF aH;simp only;rw[if_pos c3]
     rw[k1]at mj a3 b3 ⊢
     simp only at b3 mj ⊢
     have k2:aF (q.drop 1,false) 4=(aA ((q.drop 1).take 4),((q.drop 1).drop 4,false)):=by unfold aF aH;simp only;rw[if_pos b3]
     rw[k2]at a3 ⊢
     simp only at a3 ⊢
     have k3:aF ((q.drop 1).drop 4,false) 4=(aA (((q.drop 1).drop 4).take 4),(((q.drop 1).drop 4).drop 4,false)):=by unfold aF aH;simp only;rw[if_pos a3]
     rw[k3]
     unfold Bw
     rw[if_pos c3,if_pos mj,if_pos (by simp at a3 ⊢;omega),if_pos mj]
     simp[qt]
    ·rename_i mj
     obtain ⟨a1,a2,a3⟩:=mZ h
     obtain ⟨b1,b0,b2⟩:=fR a1
     have k1:aF (q,false) 1=(aA (q.take 1),(q.drop 1,false)):=by unfold aF aH;simp only;rw[if_pos b0]
     rw[k1]at mj a2 a3 ⊢
     simp only at a2 a3 mj ⊢
     have k2:aA (q.take 1)<=(q.drop 1).length:=by rw[a3,zG,a2];omega
     have k3:aH (q.drop 1,false) (aA (q.take 1))=((q.drop 1).take (aA (q.take 1)),((q.drop 1).drop (aA (q.take 1)),false)):=by unfold aH;simp only;rw[if_pos k2]
     rw[k3]
     unfold Bw Mw
     rw[if_pos b0,if_neg mj,if_neg mj,if_pos k2]
   unfold stepT
   rw[if_neg (by omega),if_neg (by omega),if_pos hl,f4]
   simp
theorem Et:∀(m:Nat) {n:Nd} {r:RS},WF n->(fE m n r).2.2=false->r.2=false/\WF (fE m n r).1/\entries n++r.1=entries (fE m n r).1++(fE m n r).2.1 /\
  (fE m n r).1.keys.length=n.keys.length+m/\(fE m n r).1.kids.getD 0 0=n.kids.getD 0 0/\(fE m n r).1.leaf=n.leaf/\Iy m n r.1=some ((fE m n r).1,(fE m n r).2.1)
 |0,n,r,hw,h=>⟨h,hw,rfl,rfl,rfl,rfl,rfl⟩
 |m+1,n,r,hw,h=>by
  cases hr:r.2 with
  |true=>rw[fE,hr]at h;simp at h;rw[hr]at h;cases h
  |false =>
   have e:fE (m+1) n r=fE m (eE n r).1 (eE n r).2:=by rw[fE,hr];rfl
   rw[e]at h ⊢
   have hs:(eE n r).2.2=false:=by
    cases hb:(eE n r).2.2 with
    |false=>rfl
    |true=>rw[Bo hb]at h;simp only at h;rw[hb]at h;cases h
   obtain ⟨_,a2,a3,a4,a5,a6⟩:=MA hw hs
   obtain ⟨b1,b2,b3,b4,b5,b6,b7⟩:=Et m a2 h
   refine ⟨rfl,b2,by rw[a3,b3],by omega,by rw[b5,a5],by rw[b6,Gs],?_⟩
   rw[Iy,a6];exact b7
theorem SN {kind:Int} (hk:kind=1\/kind=2) {s:List UInt8} (h:(nO kind s).2.2=false) (he:(nO kind s).2.1=[]) :
  ba (nO kind s).1=s/\(nO kind s).1.leaf=decide (kind=1)/\SM kind s=some ((nO kind s).1,[]):=by
 unfold nO at h he ⊢
 have hw:WF (dh kind (aF (s,false) 2).2).1:=by unfold dh;split<;>simp[WF]
 obtain ⟨a1,a2,a3,a4,a5,a6,a7⟩:=Et _ hw h
 rw[he]at a3 a7
 generalize hn:(fE (aF (s,false) 2).1 (dh kind (aF (s,false) 2).2).1 (dh kind (aF (s,false) 2).2).2).1=n at *
 rcases hk with rfl|rfl
 ·have e:dh 1 (aF (s,false) 2).2=(⟨true,[],[],[]⟩,(aF (s,false) 2).2):=by simp[dh]
  rw[e]at a1 a3 a4 a5 a6 a7
  simp only at a1 a3 a4 a5 a6 a7
  obtain ⟨b1,b2,b3⟩:=fR a1
  simp only at b2 b3
  simp at a4
  have e0:entries ⟨true,[],[],[]⟩=[]:=rfl
  rw[e0]at a3
  refine ⟨?_,by simpa using a6,?_⟩
  ·show bo n++entries n=s
   simp at a3
   simp only[bo,a6,if_true,a4,zT]
   rw[<-a3];exact b3.symm
  ·unfold SM Gt
   have f1:aF (s,false) 2=(aA (s.take 2),(s.drop 2,false)):=by unfold aF aH;simp only;rw[if_pos b2]
   rw[f1]at a7
   rw[if_neg (by simp;omega)]
   simp only[show ¬(1:Int)=2 by decide,if_false]
   exact a7
 ·have e:dh 2 (aF (s,false) 2).2=(⟨false,[],[],[((aF (aF (s,false) 2).2 4).1:Int)]⟩,(aF (aF (s,false) 2).2 4).2):=by simp[dh]
  rw[e]at a1 a3 a4 a5 a6 a7
  simp only at a1 a3 a4 a5 a6 a7
  obtain ⟨c1,c2,c3⟩:=fR a1
  obtain ⟨b1,b2,b3⟩:=fR c1
  simp only at b2 b3
  simp at a4 a5
  have e0:∀x:Int,entries ⟨false,[],[],[x]⟩=[]:=fun _=>rfl
  rw[e0]at a3
  refine ⟨?_,by simpa using a6,?_⟩
  ·show bo n++entries n=s
   simp at a3
   have Hj:n.kids.getD 0 0=((aF (aF (s,false) 2).2 4).1:Int):=by simpa using a5
   simp only[bo,a6,a4,Hj]
   rw[<-a3]
   simp only[zK,if_false,zl]
   rw[zF,<-c3];exact b3.symm
  ·unfold SM Gt
   have f1:aF (s,false) 2=(aA (s.take 2),(s.drop 2,false)):=by unfold aF aH;simp only;rw[if_pos b2]
   rw[f1]at a7 c2
   simp only at a7 c2
   have f2:aF (s.drop 2,false) 4=(aA ((s.drop 2).take 4),((s.drop 2).drop 4,false)):=by unfold aF aH;simp only;rw[if_pos c2]
   rw[f2]at a7
   rw[if_neg (by simp;omega),if_pos rfl,if_neg (by omega)]
   exact a7
theorem Df {kind:Int} {s:List UInt8} {n:Nd} (h:AW kind s=some n):(kind=1\/kind=2)/\ba n=s/\n.leaf=decide (kind=1)/\ax n=true/\Z4 kind s=some n:=by
 by_cases hk:kind=1\/kind=2
 ·rw[De hk]at h
  split at h
  ·cases h
  ·rename_i hn
   simp only[zOi]at h;subst h
   simp only[not_or,Bool.not_eq_true,ne_eq,Classical.not_not]at hn
   obtain ⟨h1,h2,h3⟩:=hn
   obtain ⟨a1,a2,a3⟩:=SN hk h1 h2
   refine ⟨hk,a1,a2,by simpa using h3,?_⟩
   unfold Z4;rw[a3];simp only
   rw[if_pos ⟨trivial,by simpa using h3,a1⟩]
 ·unfold AW at h
  rw[if_pos (by omega)]at h;cases h
def my (n:Nd) (i:Nat):Nd:=⟨n.leaf,n.keys.take i,if n.leaf then n.items.take i else [],if n.leaf then [] else n.kids.take (i+1)⟩
def oQ (n:Nd) (i:Nat):List UInt8:=((List.range n.keys.length).drop i).flatMap (eR n)
theorem G5 {x:bD} (h:jl x=true) (rest:List UInt8):ea (im x++rest,false)=(x,(rest,false)):=by
 obtain ⟨v,p,s⟩:=x
 rcases il h with ⟨h1,h2,h3⟩|⟨p',s',h1,h2,h3,h4,h5,h6,h7⟩
 ·simp only at h1 h2 h3;subst h1;subst h2
  have e:im ⟨v,0,0⟩=aO v.length 1++v:=by simp[im]
  rw[e,zF]
  unfold ea
  rw[gJ (n:=1) (x:=v.length) (by omega)]
  simp only
  rw[if_neg (by omega),nR]
 ·simp only at h1 h2 h7;subst h1;subst h2;subst h7
  have e:im ⟨[],(p':Int),(s':Int)⟩=aO 255 1++(aO p' 4++aO s' 4):=by simp[im,show 0<p' by omega];rfl
  rw[e,zF,zF]
  unfold ea
  rw[gJ (n:=1) (x:=255) (by omega)]
  simp only[if_true]
  rw[gJ (n:=4) (x:=p') (by omega)]
  simp only
  rw[gJ (n:=4) (x:=s') (by omega)]
  simp;omega
theorem GB {n:Nd} {i:Nat} (h:i<n.keys.length):oQ n i=eR n i++oQ n (i+1):=by
 unfold oQ
 rw[zO (by simpa using h)]
 simp
theorem so {n:Nd} (hf:aZ n):∀(d i:Nat),i+d=n.keys.length->fE d (my n i) (oQ n i,false)=(my n n.keys.length,([],false))
 |0,i,h=>by
  have:i=n.keys.length:=by omega
  subst this
  have:(List.range n.keys.length).drop n.keys.length=[]:=by simp
  simp only[fE,oQ,this,List.flatMap_nil]
 |d+1,i,h=>by
  have hi:i<n.keys.length:=by omega
  have ih:=so hf d (i+1) (by omega)
  have hk:n.keys.getD i []=n.keys[i]:=by simp[hi]
  have lP:=hf.yB i hi
  have AL:n.keys.take (i+1)=n.keys.take i++[n.keys[i]]:=by rw[zz,zA hi];rfl
  have bU:eE (my n i) (oQ n i,false)=(my n (i+1),(oQ n (i+1),false)):=by
   rw[GB hi]
   cases hl:n.leaf
   ·obtain ⟨g1,g2,g3,g4⟩:=hf.inner hl
    have xc:i+1<n.kids.length:=by omega
    obtain ⟨k,nf,hk3,WS⟩:=gf (g4 _ (zP xc))
    have hg:(n.kids.getD (i+1) 0).toNat=k:=by simp[xc,nf]
    have e:eR n i=aO n.keys[i].length 1++(n.keys[i]++aO k 4):=by simp only[eR,hk,hl,hg];simp
    have htk:n.kids.take (i+1+1)=n.kids.take (i+1)++[(k:Int)]:=by rw[zz,zA xc,nf];rfl
    rw[e,zF,zF]
    unfold eE
    simp only[my,hl,zK,if_false]
    rw[gJ (n:=1) (x:=n.keys[i].length) (by omega)]
    simp only
    rw[nR]
    simp only
    rw[gJ (n:=4) (x:=k) (by omega),AL,htk]
   ·obtain ⟨g1,g2,g3⟩:=hf.leaf hl
    have NV:i<n.items.length:=by omega
    have hg:n.items.getD i ⟨[],0,0⟩=n.items[i]:=by simp[NV]
    have e:eR n i=aO n.keys[i].length 1++(n.keys[i]++im n.items[i]):=by simp only[eR,hk,hl,hg];simp
    have FY:n.items.take (i+1)=n.items.take i++[n.items[i]]:=by rw[zz,zA NV];rfl
    rw[e,zF,zF]
    unfold eE
    simp only[my,hl,if_true]
    rw[gJ (n:=1) (x:=n.keys[i].length) (by omega)]
    simp only
    rw[nR]
    simp only
    rw[G5 (g3 _ (zP NV)),AL,FY]
  rw[fE,bU]
  exact ih
theorem KH {n:Nd} (hf:aZ n):my n n.keys.length=n:=by
 obtain ⟨leaf,keys,items,kids⟩:=n
 cases leaf
 ·obtain ⟨g1,g2,g3,g4⟩:=hf.inner rfl
  simp only at g1 g2 g3
  simp[my,g3,<-g2]
 ·obtain ⟨g1,g2,g3⟩:=hf.leaf rfl
  simp only at g1 g2
  have:keys.take keys.length=keys:=zW
  have h2:items.take keys.length=items:=by rw[<-g1];exact zW
  simp[my,g2,h2]
def dT (n:Nd):Int:=if n.leaf then 1 else 2
theorem Dd {n:Nd} (hr:ax n=true) (hl:n.keys.length<65536):AW (dT n) (ba n)=some n:=by
 have hf:=aZ.of hr
 have key:nO (dT n) (ba n)=(n,([],false)):=by
  have h0:ba n=bo n++oQ n 0:=by simp[ba,oQ]
  have lw:=so hf n.keys.length 0 (by omega)
  rw[KH hf]at lw
  unfold nO
  rw[h0]
  cases dj:n.leaf
  ·obtain ⟨g1,g2,g3,g4⟩:=hf.inner dj
   have h0k:0<n.kids.length:=by omega
   obtain ⟨k,nf,hk3,WS⟩:=gf (g4 _ (zP h0k))
   have hg:(n.kids.getD 0 0).toNat=k:=by simp[h0k,nf]
   have e:bo n=aO n.keys.length 2++aO k 4:=by simp only[bo,dj,hg];simp
   have Hj:dT n=2:=by simp[dT,dj]
   have hp:my n 0=⟨false,[],[],[(k:Int)]⟩:=by
    simp only[my,dj]
    have:n.kids.take (0+1)=[(k:Int)]:=by rw[zz,zA h0k,nf];rfl
    simp[this]
   rw[e,Hj,zF,gJ (n:=2) (x:=n.keys.length) (by omega)]
   have es:dh 2 (aO k 4++oQ n 0,false)=(⟨false,[],[],[(k:Int)]⟩,(oQ n 0,false)):=by
    unfold dh
    rw[if_neg (by decide),gJ (n:=4) (x:=k) (by omega)]
   simp only[es]
   rw[<-hp];exact lw
  ·have e:bo n=aO n.keys.length 2:=by simp[bo,dj]
   have Hj:dT n=1:=by simp[dT,dj]
   have hp:my n 0=⟨true,[],[],[]⟩:=by simp[my,dj]
   rw[e,Hj,gJ (n:=2) (x:=n.keys.length) (by omega)]
   simp only[dh,if_true]
   rw[<-hp];exact lw
 have hk:dT n=1\/dT n=2:=by unfold dT;split<;>simp
 rw[De hk,key]
 simp[hr]
theorem Ia (n:Nd):∀k,k<=bO n k
 |0=>wT _
 |k+1=>by
  have:=Ia n k
  have:1<=bQ n k:=by unfold bQ;split<;>(try split)<;>omega
  simp only[bO];omega
theorem Bc {n:Nd} (hr:ax n=true) (m:Nat) (h:(ba n).length<=m):n.keys.length<=m/\n.items.length<=m/\n.kids.length<=m+1:=by
 have hf:=aZ.of hr
 have h1:=Ia n n.keys.length
 rw[bK]at h
 have h2:n.keys.length<=m:=by omega
 cases hl:n.leaf
 ·obtain ⟨g1,g2,g3,g4⟩:=hf.inner hl
  exact ⟨h2,by simp[g3],by omega⟩
 ·obtain ⟨g1,g2,g3⟩:=hf.leaf hl
  exact ⟨h2,by omega,by simp[g2]⟩
theorem iD.shape {n:Nd} {x:AV} (h:iD n x):∃b k1 k2 k3 k4 i1 i2 i3 i4 d1 d2 d3 d4,x=.agg [.v (.bool b),.rs k1 k2 k3 k4,.rs i1 i2 i3 i4,.rs d1 d2 d3 d4]:=by
 obtain ⟨kA,iA,dA,rfl,hk,hi,hd⟩:=h
 obtain ⟨_,_,_,rfl⟩:=hk.shape
 obtain ⟨_,_,_,rfl⟩:=hi.shape
 obtain ⟨_,_,_,rfl⟩:=hd.shape
 exact ⟨_,_,_,_,_,_,_,_,_,_,_,_,_,rfl⟩
def cS {α:Type} (es:List (List α)):List α:=es.flatten
theorem mY {α:Type} {es:List (List α)} {j:Nat} (h:j<es.length):cS (es.take (j+1))=cS (es.take j)++es[j]:=by
 have e:es.take (j+1)=es.take j++[es[j]]:=by rw[zz,zA h];rfl
 rw[e];simp only[cS,qC,wg,List.flatten_nil,zT]
theorem uX {α:Type} (es:List (List α)) (j:Nat):(cS (es.take j)).length<=(cS es).length:=by
 have e:cS es=cS (es.take j)++cS (es.drop j):=by simp only[cS];rw[<-qC,zy]
 rw[e,zG];omega
def S7 {α:Type} (n:Nat) (f:α->List AV) (es:List (List α)) (xs:List AV):Prop:=xs.length=es.length/\∀(i:Nat) (h:i<es.length) (h':i<xs.length),eV n (es[i].map f) xs[i]
theorem S7.closed {α:Type} {n:Nat} {f:α->List AV} (hf:∀l:List α,bl (l.map f)=true) {es:List (List α)} {xs:List AV} (h:S7 n f es xs):bl (xs.map fun x=>[x])=true:=by
 have key:∀l:List AV,(∀x∈l,x.closed=true)->bl (l.map fun x=>[x])=true:=by
  intro l
  induction l with
  |nil=>intro _;rfl
  |cons x r ih=>intro h;simp[h x (by simp)];exact ih fun y hy=>h y (by simp[hy])
 refine key xs fun x hx => ?_
 obtain ⟨i,hi,rfl⟩:=zY hx
 obtain ⟨_,_,_,e⟩:=(h.2 i (by rw[<-h.1];exact hi) hi).shape
 rw[e]
 exact hf _
theorem kX {xs:List AV} {k:IntKind} {j:Nat} {c:Option Nat} (h:j<xs.length):cd 1 (.rs false 1 (xs.map fun x=>[x]) c) (.v (.int k (j:Int)))=some (.rp [xs[j]]):=by simp[h]
theorem vl {L new Z:bN} {n m:Nat} (h:L.length=n) (hm:n+new.length<=m):aa (L++Z.drop n) n new=(L++new)++Z.drop (n+new.length):=by
 subst h
 simp only[aa]
 rw[qY,List.drop_append,qv]
 simp only[zF]
 have:L.drop (L.length+new.length)=[]:=zr (by omega)
 rw[this,zh]
 congr 3;omega
theorem tX {α:Type} (l:List α) (d:α) {a b i:Nat} (h:a+i<b):((l.take b).drop a).getD i d=l.getD (a+i) d:=by
 simp only[List.getD,wE,wB,if_pos h]
theorem Qs {ks:List (List UInt8)} {a b i:Nat} (h:a+i<b) (hb:pQ ks (a+i)=false):pQ ((ks.take b).drop a) i=false:=by
 simp only[pQ,qI]at hb ⊢
 rw[tX ks [] h]
 refine ⟨hb.1,?_⟩
 by_cases h0:0<i
 ·rw[tX ks [] (show a+(i-1)<b by omega)]
  have h1:0<a+i:=by omega
  have h2:=hb.2
  have e:a+i-1=a+(i-1):=by omega
  simp only[h1,decide_true,Bool.true_and,e]at h2
  simp only[h2,Bool.and_false]
 ·simp[h0]
theorem sE {n:Nd} (hr:ax n=true) {a b:Nat} (h1:a<=b) (h2:b<=n.keys.length) (h3:n.leaf=false->a<b):ax (cM n a b)=true:=by
 have hf:=aZ.of hr
 simp only[ax,zN]at hr ⊢
 constructor
 ·refine sS fun i hi => ?_
  simp only[cM,wN,wD]at hi
  have:=hr.1
  simp only[oc,zQ,wL]at this
  have:=this (a+i) (by omega)
  exact Qs (by omega) (by simpa using this)
 ·cases hl:n.leaf
  ·obtain ⟨g1,g2,g3,g4⟩:=hf.inner hl
   have:=h3 hl
   have e1:((n.keys.take b).drop a).length=b-a:=by simp;omega
   have e2:((n.kids.take (b+1)).drop a).length=b-a+1:=by simp;omega
   simp only[iU,cM,hl,zK,if_false,e1,e2,zN,decide_eq_true_eq,zQ,zS]
   exact ⟨⟨⟨by omega,trivial⟩,trivial⟩,fun x hx=>g4 x (zw (zx hx))⟩
  ·obtain ⟨g1,g2,g3⟩:=hf.leaf hl
   have e1:((n.keys.take b).drop a).length=b-a:=by simp;omega
   have e2:((n.items.take b).drop a).length=b-a:=by simp;omega
   simp only[iU,cM,hl,if_true,e1,e2,zN,decide_eq_true_eq,zQ,zS]
   exact ⟨⟨trivial,trivial⟩,fun x hx=>g3 x (zw (zx hx))⟩
theorem DU (n:Nd) {a b i:Nat} (h:a+i<b):bQ (cM n a b) i=bQ n (a+i):=by
 obtain ⟨leaf,keys,items,kids⟩:=n
 simp only[bQ,cM]
 rw[tX keys [] h]
 cases leaf
 ·rfl
 ·simp only[if_true]
  rw[tX items _ h]
theorem D0 (n:Nd) {a b:Nat}:∀k,a+k<=b->bO n a+bO (cM n a b) k=bO n (a+k)
 |0,_=>by simp[bO]
 |k+1,h=>by
  have ih:=D0 n (a:=a) (b:=b) k (by omega)
  have e:a+(k+1)=(a+k)+1:=by omega
  rw[e]
  simp only[bO]
  rw[DU n (by omega)]
  omega
theorem ru {n:Nd} (hr:ax n=true) {a b:Nat} (h1:a<=b) (h2:b<=n.keys.length) (h3:n.leaf=false->a<b):aw (cM n a b)+bO n a=(bo n).length+bO n b:=by
 have hp:=sE hr h1 h2 h3
 have e:=D0 n (a:=a) (b:=b) (b-a) (by omega)
 have hl:(cM n a b).keys.length=b-a:=by simp[cM];omega
 have hh:(bo (cM n a b)).length=(bo n).length:=by rw[bS,bS];rfl
 simp only[aw,hp,if_true,bK,hl,hh]
 rw[show a+(b-a)=b by omega]at e
 omega
theorem Gh {n:Nd} (hr:aZ n) {i:Nat} (hi:i<n.keys.length) (hl:n.leaf=false):bQ n i<=65:=by
 have h1:=hr.yB i hi
 have hk:n.keys.getD i []=n.keys[i]:=by simp[hi]
 simp only[bQ,hk,hl]
 simp;omega
def eu (a:Nd) (key:List UInt8) (b:Nd):Nd:=⟨a.leaf,a.keys++(if a.leaf then [] else [key])++b.keys,a.items++b.items,a.kids++b.kids⟩
theorem MI {n:Nd} (hr:ax n=true) {i:Nat} (hc:vX n i) (Sp:492<aw n):123<=aw (cM n 0 i)/\123<=aw (cM n (i+gi n-1) n.keys.length):=by
 have hf:=aZ.of hr
 have jc:aw n=(bo n).length+bO n n.keys.length:=by simp only[aw,hr,if_true,bK]
 have lH:=hc.pos
 have hle:=hc.le
 have aaF:1<=gi n:=by simp only[gi];split<;>omega
 have s1:=ru hr (a:=0) (b:=i) (by omega) (by omega) (fun _=>by omega)
 have s2:=ru hr (a:=i+gi n-1) (b:=n.keys.length) (by omega) (by omega) (fun h=>by simp only[gi,h]at hle ⊢;simp at hle ⊢;omega)
 have z0:bO n 0=0:=rfl
 have BD:i=1\/(2*((bo n).length+bO n (i-1))<aw n/\bO n i=bO n (i-1)+bQ n (i-1)):=by
  by_cases h1:i=1
  ·exact .inl h1
  ·refine .inr ⟨hc.low (i-1) (by omega) (by omega),?_⟩
   obtain ⟨j,rfl⟩:∃j,i=j+1:=⟨i-1,by omega⟩
   rfl
 have hw:=fun j hj=>fX hf (i:=j) hj
 have s11:bO n 1=bQ n 0:=by simp[bO]
 cases hl:n.leaf
 ·have hu:gi n=2:=by simp[gi,hl]
  have hh:(bo n).length=6:=by rw[bS,hl];rfl
  have mq:=fun j hj=>Gh hf (i:=j) hj hl
  rw[hu]at s2 hle
  have e2:i+2-1=i+1:=by omega
  rw[hu,e2]
  rw[e2]at s2
  have si:bO n (i+1)=bO n i+bQ n i:=rfl
  have wi:=mq i (by omega)
  have w0:=mq 0 (by omega)
  have wp:=mq (i-1) (by omega)
  rcases hc.top with ht|ht
  ·rw[hu]at ht
   have hk:n.keys.length=i+1+1:=by omega
   have sl:bO n n.keys.length=bO n (i+1)+bQ n (i+1):=by rw[hk];rfl
   have wl:=mq (i+1) (by omega)
   rcases BD with h1|⟨h1,h3⟩
   ·subst h1;omega
   ·omega
  ·rcases BD with h1|⟨h1,h3⟩
   ·subst h1;omega
   ·omega
 ·have hu:gi n=1:=by simp[gi,hl]
  have hh:(bo n).length=2:=by rw[bS,hl];rfl
  rw[hu]at s2 hle
  have e2:i+1-1=i:=by omega
  rw[hu,e2]
  rw[e2]at s2
  have w0:=hw 0 (by omega)
  have wp:=hw (i-1) (by omega)
  rcases hc.top with ht|ht
  ·rw[hu]at ht
   have hk:n.keys.length=i+1:=by omega
   have sl:bO n n.keys.length=bO n i+bQ n i:=by rw[hk];rfl
   have wl:=hw i (by omega)
   rcases BD with h1|⟨h1,h3⟩
   ·subst h1;omega
   ·omega
  ·rcases BD with h1|⟨h1,h3⟩
   ·subst h1;omega
   ·omega
def gg {α:Type} (l:List α) (i:Nat) (a:α):List α:=l.take i++a::l.drop i
def fP {α:Type} (l:List α) (i:Nat):List α:=l.take i++l.drop (i+1)
theorem ph {α:Type} {l:List α} {i:Nat} {a:α} (h:i<=l.length):(gg l i a).length=l.length+1:=by simp[gg];omega
theorem Nu {α:Type} {l:List α} {i:Nat} {a:α} (h:i<=l.length) (j:Nat):(gg l i a)[j]?=if j<i then l[j]? else if j=i then some a else l[j-1]?:=by
 have h1:(l.take i).length=i:=by simp;omega
 unfold gg
 by_cases h2:j<i
 ·rw[if_pos h2,zR (by omega),wB,if_pos h2]
 ·rw[if_neg h2,za (by omega),h1]
  by_cases h3:j=i
  ·subst h3;simp
  ·rw[if_neg h3,show j-i=(j-i-1)+1 by omega,ww,wE]
   congr 1;omega
theorem Nt {ks:List (List UInt8)} (hr:kS ks) {k:List UInt8} (hk:k∉ks):kS (gg ks (below ks k) k):=by
 obtain ⟨b1,b2,b3⟩:=fu hr k
 have key:∀j (hj:j<(gg ks (below ks k) k).length),(j<below ks k/\∃h:j<ks.length,(gg ks (below ks k) k)[j]=ks[j])\/(j=below ks k/\(gg ks (below ks k) k)[j]=k)\/(below ks k<j/\∃h:j-1<ks.length,(gg ks (below ks k) k)[j]=ks[j-1]):=by
  intro j hj
  have hl:=ph (a:=k) b1
  have hg:=Nu (a:=k) b1 j
  rw[zA hj]at hg
  by_cases h1:j<below ks k
  ·rw[if_pos h1,zA (by omega)]at hg
   exact .inl ⟨h1,by omega,by simpa using hg⟩
  ·rw[if_neg h1]at hg
   by_cases h2:j=below ks k
   ·rw[if_pos h2]at hg
    exact .inr (.inl ⟨h2,by simpa using hg⟩)
   ·rw[if_neg h2,zA (by omega)]at hg
    exact .inr (.inr ⟨by omega,by omega,by simpa using hg⟩)
 have up:∀j (hj:j<ks.length),below ks k<=j->al k ks[j]=true:=by
  intro j hj h
  cases h4:al k ks[j] with
  |true=>rfl
  |false =>
   have:=Gm h4 (b3 j hj h)
   exact absurd (this▸zP hj) hk
 intro i j hj yU
 rcases key j hj with ⟨j1,j2,j3⟩|⟨j1,j3⟩|⟨j1,j2,j3⟩<;>rcases key i (by omega) with ⟨i1,i2,i3⟩|⟨i1,i3⟩|⟨i1,i2,i3⟩<;>rw[j3,i3]
 ·exact hr i j j2 yU
 ·omega
 ·omega
 ·exact b2 i i2 i1
 ·omega
 ·omega
 ·exact (hr i (j-1) j2 (by omega):_)
 ·exact up (j-1) j2 (by omega)
 ·exact hr (i-1) (j-1) j2 (by omega)
def Tg (p:List UInt8×bD):Nat:=if 0<p.2.p then 1+p.1.length+9 else 1+p.1.length+1+p.2.v.length
theorem D1 {n:Nd} (dU:n.leaf=true) (hl:n.items.length=n.keys.length):∀k,k<=n.keys.length->bO n k=(((n.keys.zip n.items).take k).map Tg).sum
 |0,_=>by simp[bO]
 |k+1,h=>by
  have hz:(n.keys.zip n.items)[k]?=some (n.keys[k],n.items[k]'(by omega)):=by
   rw[List.getElem?_zip_eq_some];simp
  rw[zz,hz,bO,D1 dU hl k (by omega),zg,wV]
  have e1:n.keys.getD k []=n.keys[k]:=by simp[show k<n.keys.length by omega]
  have e2:n.items.getD k ⟨[],0,0⟩=n.items[k]'(by omega):=by simp[show k<n.items.length by omega]
  simp only[bQ,dU,if_true,Tg,e1,e2,jJ,wI,qi,jB,List.sum_nil,wH]
theorem Mn {α β:Type} {l:List α} {m:List β} (h:l.length=m.length) (i:Nat) (a:α) (b:β):(gg l i a).zip (gg m i b)=gg (l.zip m) i (a,b):=by
 unfold gg
 rw[qS (by simp[h]),qn,jG,jG,jG,List.take_zipWith,List.drop_zipWith]
theorem size_leaf {n:Nd} (hr:ax n=true) (dU:n.leaf=true) (hl:n.items.length=n.keys.length):aw n=2+((n.keys.zip n.items).map Tg).sum:=by
 rw[aw,if_pos hr,bK,bS,if_pos dU,D1 dU hl _ (zD _),zI (by simp;omega)]
def bf:AV->List Nat
 |.sl r .. => [r]
 |_=>[]
@[simp] theorem xW {r sz i l c}:bf (.sl r sz i l c)=[r]:=(rfl)
@[simp] theorem Vb {n z e c}:bf (.rs n z e c)=[]:=(rfl)
def cT (hp:Heap) (nx sz:Nat) (es:bN) (x:AV):Prop :=
 (∃b z c,x=.rs b z es (some c)/\(b=true\/z=sz)/\(b=true->es=[])/\c<=es.length)\/∃r,r<nx/\x=.sl r sz 0 es.length none/\hp r=some es
theorem cT.nil {hp:Heap} {nx sz:Nat}:cT hp nx sz [] (.rs true 0 [] (some 0)):=.inl ⟨true,0,0,rfl,.inl rfl,fun _=>rfl,by simp⟩
theorem cT.lt {hp:Heap} {nx sz:Nat} {es:bN} {x:AV} (h:cT hp nx sz es x):∀r∈bf x,r<nx:=by
 rcases h with ⟨b,z,c,rfl,_⟩|⟨r,h1,rfl,_⟩
 ·simp
 ·simpa using h1
theorem cT.ah {hp hp':Heap} {nx nx' sz:Nat} {es:bN} {x:AV} (h:cT hp nx sz es x) (hn:nx<=nx') (hk:∀r∈bf x,hp' r=hp r):cT hp' nx' sz es x:=by
 rcases h with ⟨b,z,c,rfl,h1⟩|⟨r,h1,rfl,h2⟩
 ·exact .inl ⟨b,z,c,rfl,h1⟩
 ·exact .inr ⟨r,by omega,rfl,by rw[hk r (by simp),h2]⟩
theorem cT.one {hp:Heap} {nx sz:Nat} {es:bN} {x:AV} (h:cT hp nx sz es x):x.cells=[x]/\x.one=true:=by
 rcases h with ⟨b,z,c,rfl,_⟩|⟨r,_,rfl,_⟩<;>exact ⟨rfl,rfl⟩
theorem cT.len {hp:Heap} {nx sz:Nat} {es:bN} {x:AV} (h:cT hp nx sz es x):tM x=some (.int .i64 es.length):=by
 rcases h with ⟨b,z,c,rfl,_⟩|⟨r,_,rfl,_⟩<;>simp
theorem cT.xO {hp:Heap} {nx sz bytes:Nat} {es:bN} {x:AV} (h:cT hp nx sz es x) {new:bN} (bt:new≠[]) (hl:(es.length+new.length)*bytes<=140737488355328) :
  ∃hp',cI sz bytes x new hp nx=some (.sl nx sz 0 (es.length+new.length) none,hp',nx+1)/\hp' nx=some (es++new)/\cT hp' (nx+1) sz (es++new) (.sl nx sz 0 (es.length+new.length) none)/\∀q,q≠nx->q∉bf x->hp' q=hp q:=by
 have lH:0<new.length:=zt.2 bt
 rcases h with ⟨b,z,c,rfl,g1,g2,g3⟩|⟨r,h1,rfl,h2⟩
 ·refine ⟨ab hp nx (some (es++new)),?_,by simp,.inr ⟨nx,by omega,by simp,by simp⟩,fun q h1 h2=>by simp[h1]⟩
  simp only[cI]
  rw[if_pos g1,if_neg (by omega),if_pos ⟨by omega,hl⟩]
 ·refine ⟨ab (ab hp r none) nx (some (es++new)),?_,by simp,.inr ⟨nx,by omega,by simp,by simp⟩,fun q h3 h4=>by simp at h4;simp[h3,h4]⟩
  simp only[cI,if_true,h2,Nat.zero_add]
  rw[if_neg (by omega),if_neg (by omega),if_pos hl]
  simp
theorem kL {K:AV->Heap->Nat->Kd->Prop} {hp:Heap} {nx sz bytes:Nat} {es:bN} {x:AV} {new:bN} (h:cT hp nx sz es x) (bt:new≠[]) (hl:(es.length+new.length)*bytes<=140737488355328)
  (k:∀hp',hp' nx=some (es++new)->(∀q,q≠nx->q∉bf x->hp' q=hp q)->K (.sl nx sz 0 (es.length+new.length) none) hp' (nx+1) .e):yu (cI sz bytes x new hp nx) K:=by
 obtain ⟨hp',h1,h2,_,h4⟩:=h.xO (bytes:=bytes) bt hl
 rw[h1]
 exact k hp' h2 h4
theorem gn {k:Nat} {hp:Heap} {nx sz:Nat} {es:bN} {x:AV} (h:cT hp nx sz es x) (hc:bl es=true):∃nil z cap,kh (k+2) hp x=some (.rs nil z es cap)/\(nil=true\/z=sz)/\(nil=true->es=[]):=by
 rcases h with ⟨b,z,c,rfl,g1,g2,_⟩|⟨r,h1,rfl,h2⟩
 ·exact ⟨b,z,some c,aq (by simpa using hc),g1,g2⟩
 ·refine ⟨false,sz,none,?_,.inr rfl,fun h=>by cases h⟩
  have hm:∀{l:List AV},bT l=true->dW (kh (k+1) hp) l=some l:=by
   intro l
   induction l with
   |nil=>intro _;rfl
   |cons y r ih=>intro h;simp at h;simp[ih h.2,aq h.1]
  have DM:∀{l:List (List AV)},bl l=true->dW (dW (kh (k+1) hp)) l=some l:=by
   intro l
   induction l with
   |nil=>intro _;rfl
   |cons y r ih=>intro h;simp at h;rw[br,ih h.2,hm h.1];rfl
  rw[kh]
  simp only[rS,h2,Nat.zero_add,zD,if_true,zb,zW,DM hc]
  rfl
theorem eB {k:Nat} {hp:Heap}:∀{cs:List AV},bT cs=true->dW (kh (k+1) hp) cs=some cs
 |[],_=>rfl
 |x::r,h=>by simp at h;rw[br,eB h.2,aq h.1];rfl
theorem rM {k:Nat} {hp:Heap} {cs cs':List AV} (h:dW (kh (k+1) hp) cs=some cs'):kh (k+2) hp (.bE cs)=some (.bE cs'):=by
 rw[kh]
 split
 ·rename_i hc
  rw[eB (by simpa using hc)]at h
  simp only[zOi]at h;rw[h]
 ·simp only[h];rfl
theorem tY {k:Nat} {hp:Heap} {cs cs':List AV} (h:dW (kh (k+1) hp) cs=some cs'):kh (k+2) hp (.agg cs)=some (.agg cs'):=by
 rw[kh]
 split
 ·rename_i hc
  rw[eB (by simpa using hc)]at h
  simp only[zOi]at h;rw[h]
 ·simp only[h];rfl
structure pU (ex:Nat->Prop) (hp:Heap) (nx:Nat) (hp':Heap) (nx':Nat):Prop where
 le:nx<=nx'
 ah:∀r,r<nx->¬ex r->hp' r=hp r
theorem pU.trans {ex hp nx hp1 nx1 aT ar} (h:pU ex hp nx hp1 nx1) (k:pU ex hp1 nx1 aT ar):pU ex hp nx aT ar :=
 ⟨wF h.le k.le,fun r h1 h2=>(k.ah r (zU h1 h.le) h2).trans (h.ah r h1 h2)⟩
theorem aJ {l:List UInt8}:(bytesOf l).length=l.length:=by simp[bytesOf]
abbrev Bs:=List UInt8
def fC (b:Bs) (i:Nat) (s:Bs):Bs:=b.take i++s++b.drop (i+s.length)
theorem oV {b:Bs} {i:Nat} {s:Bs} (h:i+s.length<=b.length):(fC b i s).length=b.length:=by simp[fC];omega
theorem MK {b:Bs} {i:Nat}:fC b i []=b:=by simp[fC]
theorem KG {b:Bs} {i:Nat} {s:Bs} {c:UInt8} (h:i+s.length<b.length):(fC b i s).set (i+s.length) c=fC b i (s++[c]):=by
 have hi:(b.take i).length=i:=by simp;omega
 have hd:b.drop (i+s.length)=b[i+s.length]::b.drop (i+s.length+1):=zO h
 simp only[fC]
 rw[hd,List.set_append_right _ _ (by simp;omega)]
 have:i+s.length-(b.take i++s).length=0:=by simp;omega
 rw[this,List.set_cons_zero]
 simp[qF]
theorem FH {b:Bs} {i:Nat} {c:UInt8}:bytesOf (b.set i c)=(bytesOf b).set i [.v (.int .u8 c.toNat)]:=by simp[bytesOf,List.map_set]
theorem vT {b:Bs} {i:Nat} (h:i<b.length):(bytesOf b)[i]?=some [.v (.int .u8 b[i].toNat)]:=by simp[bytesOf,h]
theorem mD {b:Bs}:(bytesOf b).all (fun l=>l.all AV.one)=true:=by simp[bytesOf,AV.one]
theorem Cf {b s:Bs} {i:Nat}:aa (bytesOf b) i (bytesOf s)=bytesOf (fC b i s):=by simp[aa,fC,bytesOf,wR,wS]
theorem Ja {hp:Heap} {nx q i n:Nat} {b s:Bs} {c:Option Nat} {x:AV} (hx:aR hp 1 x=some (bytesOf s)) (hq:hp q=some (bytesOf b)) (hn:i+n<=b.length) (hs:s.length<=n) :
  ua 1 (.sl q 1 i n c) x hp nx=some (iV s.length,ab hp q (some (bytesOf (fC b i s))),nx):=by
 have ht:(bytesOf s).take n=bytesOf s:=zI (by rw[aJ];omega)
 have hm:Nat.min s.length n=s.length:=qJ hs
 simp only[ua,hx,if_true,hq,ht,mD,aJ,hn,and_self,Cf,hm]
structure Mm (hp:Heap) (w q i:Nat) (b:Bs):Prop where
 hw:hp w=some [[.sl q 1 0 512 (some 512),iV i]]
 hq:hp q=some (bytesOf b)
 len:b.length=512
 ne:w≠q
theorem KP (x:Nat):∀n k,k<n->aO (x / 256 ^ (n-k)) k++UInt8.ofNat (x / 256 ^ (n-1-k) % 256)::[]=aO (x / 256 ^ (n-1-k)) (k+1):=by
 intro n k hk
 have:256 ^ (n-k)=256 ^ (n-1-k)*256:=by rw[<-jI];congr 1;omega
 simp only[aO]
 rw[qp,this]
theorem f86 (x n:Nat) (hx:x<=9223372036854775807) (hn:n<=8) (hp:Heap) (nx w q i:Nat) (b:Bs) (hi:i+n<=512) (h:Mm hp w q i b) :
  ∃hp',aY E 86 [.ptr w 0 0,iV x,iV n] hp nx (.bE []) hp' nx .e/\Mm hp' w q (i+n) (fC b i (aO x n))/\∀r,r≠w->r≠q->hp' r=hp r:=by
 have main:=an (P:=fun v hp' nx'=>v=.bE []/\nx'=nx/\Mm hp' w q (i+n) (fC b i (aO x n))/\∀r,r≠w->r≠q->hp' r=hp r) e86 (args:=[.ptr w 0 0,iV x,iV n]) rfl (hp:=hp) (nx:=nx) ?_
 ·obtain ⟨v,hp',nx',h1,rfl,rfl,h2⟩:=main
  exact ⟨hp',h1,h2⟩
 ·simp[c86]
  have RW:IntKind.wrap .i64 ((n:Int)-1)=(n:Int)-1:=by rw[aj]<;>omega
  refine aM (I:=fun (k:Nat) s=>k<=n/\s.tm 6=.int .i64 ((n:Int)-1-k)/\s.tm 0=.ptr w 0 0/\s.tm 1=.int .i64 x/\Mm s.hp w q (i+k) (fC b i (aO (x / 256 ^ (n-k)) k))/\s.nx=nx/\∀r,r≠w->r≠q->s.hp r=hp r)
   (fun k=>n-k) 0 (by simp[RW,h,aO,MK]) ?_
  rintro k tm hp1 nx1 ⟨hk,t6,t0,t1,hA,yP,hF⟩
  simp only at t6 t0 t1 hA hF yP
  subst yP
  have Ny:=hA.ne
  by_cases az:k<n
  ·have h6:(n:Int)-1-k=(n-1-k:Nat):=by omega
   rw[h6]at t6
   have vD:IntKind.wrap .i64 (8*((n-1-k:Nat):Int))=(8*(n-1-k):Nat):=by rw[aj]<;>omega
   have G9:Cn .shr .i64 (x:Int) ((8*(n-1-k):Nat):Int)=some (.int .i64 ((x / 256 ^ (n-1-k):Nat):Int)):=by
    simp only[Cn]
    rw[if_neg (by omega)]
    have e1:Nat.min ((8*(n-1-k):Nat):Int).toNat (IntKind.bits .i64)=8*(n-1-k):=by
     simp only[zl];show Nat.min _ 64=_;exact qJ (by omega)
    rw[e1]
    have e2:(2:Int) ^ (8*(n-1-k))=((256 ^ (n-1-k):Nat):Int):=by
     rw[Int.pow_mul];norm_cast
    rw[e2,qD _ (jK _)]
    norm_cast
   generalize hy:x / 256 ^ (n-1-k)=y at G9
   have IW:AV.v (.int .u8 (IntKind.wrap .u8 (y:Int)))=.v (.int .u8 (UInt8.ofNat (y % 256)).toNat):=by
    rw[IntKind.wrap_u8]
    simp
   have mq:IntKind.wrap .i64 (((n-1-k:Nat):Int)-1)=(n:Int)-1-(k+1:Nat):=by
    have e:((n-1-k:Nat):Int)=n-1-k:=by omega
    rw[e,aj]<;>omega
   have CO:IntKind.wrap .i64 (((i+k:Nat):Int)+1)=((i+(k+1):Nat):Int):=by rw[aj]<;>omega
   have ER:(aO (x / 256 ^ (n-k)) k).length=k:=aU _ _
   have xc:i+k<(fC b i (aO (x / 256 ^ (n-k)) k)).length:=by rw[hA.len];omega
   have hq:=hA.hq
   have hw:=hA.hw
   have hg:=vT xc
   simp[t6,t0,t1,vD,G9,hw,hq,hg,IW,mq,CO,Ny,Ne.symm Ny,-Int.natCast_mul,-Int.natCast_add,aa,show i+k<512 by omega,show ((i+k:Nat):Int)<512 by omega]
   refine ⟨k+1,by omega,by omega,by simp,⟨?_,?_,?_,Ny⟩,fun r h1 h2=>by simp[h1,h2];exact hF r h1 h2⟩
   ·simp
   ·simp[Ny,Ne.symm Ny]
    have e1:=KP x n k az
    rw[hy]at e1
    rw[show n-(k+1)=n-1-k by omega,hy,<-e1]
    have e2:=KG (b:=b) (i:=i) (s:=aO (x / 256 ^ (n-k)) k) (c:=UInt8.ofNat (y % 256)) (by rw[ER];have:=hA.len;rw[oV (by rw[ER];have:=h.len;omega)]at this;omega)
    rw[ER]at e2
    rw[<-e2,FH]
    simp
   ·rw[oV (by rw[aU,h.len];omega),h.len]
  ·have:k=n:=by omega
   subst this
   have:(k:Int)-1-k = -1:=by omega
   rw[this]at t6
   simp[t6]
   refine ⟨by simpa using hA,hF⟩
end Go.Ai
