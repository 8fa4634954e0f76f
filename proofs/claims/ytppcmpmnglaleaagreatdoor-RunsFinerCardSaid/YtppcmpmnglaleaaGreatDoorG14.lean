/- Texts that stand one behind the other: Code, CodeOk, Awake, S1, S2, S3, S4, S5. -/
import Derived.Test.YtppcmpmnglaleaaGreatDoorG13
import Derived.Test.YtppcmpmnglaleaaGreatDoorProg
import Derived.KernelRfl
set_option linter.unusedVariables false
set_option maxRecDepth 100000
namespace Go.Proofs.YtppcmpmnglaleaaGreatDoor.A
open Go
namespace K
abbrev m (a b:Nat):AO:=o a (.mv (.t b))
abbrev M (t a b:Nat):AO:=og t true a (.mv (.t b))
abbrev N (t a b:Nat):AO:=og t false a (.mv (.t b))
abbrev v (a b:Nat):AO:=o a (.ld (.t b))
abbrev n (k a b:Nat):AO:=o a (.ldn k (.t b))
abbrev f (k a b:Nat):AO:=o a (.fa k (.t b))
abbrev b (g:BinOp) (a b c:Nat):AO:=o a (.bin g (.t b) (.t c))
abbrev h (g:BinOp) (a b:Nat) (k:Int):AO:=o a (.bin g (.t b) (i k))
abbrev c (a b:Nat) (l:List X):AO:=o a (.call b l)
abbrev e (a b k:Nat):AO:=o a (.ext (.t b) k)
abbrev L (a b:Nat):AO:=o a (.ey (.t b))
abbrev j (s a b c:Nat):AO:=o a (.ia s (.t b) (.t c))
abbrev p (a b c:Nat):AO:=o a (.pick (.t b) (.t c) (.k (.bool false)))
abbrev P (a b c:Nat):AO:=o a (.pick (.t b) (.k (.bool true)) (.t c))
abbrev B (a b:Nat):AO:=o a (.box (.t b))
abbrev U (a b:Nat):AO:=o a (.un .not (.t b))
abbrev d (x:Nat) (a b:AC):AC:=.cond (.t x) a b
abbrev r (l:List AO) (c:AC):AC:=.seq (.bG l) c
abbrev q (a b:AC):AC:=.seq a b
abbrev F:X:=.k (.bool false)
abbrev W:X:=.k (.bool true)
abbrev z:Value:=.int .i64 0
abbrev y:Value:=.slice none 0 0
end K
open K
def a9:AF:=⟨6,123,[.tmp 12],r [B 6 0,o 12 (.mv F)] (q (r [f 2 21 6,v 22 21,c 23 10 [.t 22,i 600],U 24 23,m 25 24,og 25 false 26 (.ldn 3 (.t 6)),N 25 27 1,og 25 false 28 (.call 13 [.t 26,.t 27]),og 25 false 29 (.bin .neq (.t 28) (i 0)),P 30 25 29,m 31 30,N 31 32 2,N 31 33 3,N 31 34 4,N 31 35 5,og 31 false 36 (.mnl (.t 32) [.t 33,.t 34,.t 35]),og 31 false 37 (.bin .lss (.t 36) (i 0)),P 38 31 37,m 39 38,N 39 40 2,N 39 41 3,N 39 42 4,N 39 43 5,og 39 false 44 (.mxl (.t 40) [.t 41,.t 42,.t 43]),og 39 false 45 (.bin .gtr (.t 44) (i 15)),P 46 39 45] (d 46 (r [c 47 11 [],m 12 47] .ret) .skip)) (r [n 3 49 6,m 50 1,c 51 17 [.t 49,.t 50],m 48 51,e 52 48 0,e 53 48 1,m 13 52,m 14 53] (q (r [m 54 14,h .neq 55 54 0,m 56 55,N 56 57 13,og 56 false 58 (.ey (.t 57)),og 56 false 59 (.bin .gtr (.t 58) (i 300)),P 60 56 59] (d 60 (r [m 61 14,h .eql 62 61 0,m 63 62,N 63 64 14,og 63 false 65 (.bin .eql (.t 64) (i 5)),P 66 63 65,m 67 66,og 67 true 68 (.call 11 []),p 69 67 68,m 12 69] .ret) .skip)) (r [n 3 71 6,m 72 1,m 73 2,m 74 3,c 75 30 [.t 71,.t 72,.t 73,.t 74],m 70 75,e 76 70 0,e 77 70 1,m 15 76,m 16 77] (r [n 3 79 6,m 80 1,m 81 2,m 82 4,b .or 83 81 82,m 84 3,m 85 5,b .or 86 84 85,c 87 30 [.t 79,.t 80,.t 83,.t 86],m 78 87,e 88 78 0,e 89 78 1,m 17 88,m 18 89] (r [o 19 (.mv (i 0))] (q (r [o 20 (.mv (i 0))] (.block 0 (.loop (q (r [m 90 20,m 91 17,L 92 91,b .lss 93 90 92] (d 93 .skip (.exit 0))) (q (.block 1 (.bG [m 96 19,m 97 17,m 98 20,j 1 99 97 98,v 100 99,L 101 100,b .add 102 96 101,m 19 102])) (.bG [m 94 20,h .add 95 94 1,m 20 95])))))) (r [m 103 16,h .eql 104 103 0,m 105 104,M 105 106 18,og 105 true 107 (.bin .eql (.t 106) (i 0)),p 108 105 107,m 109 108,M 109 110 19,M 109 111 13,og 109 true 112 (.ey (.t 111)),og 109 true 113 (.bin .eql (.t 110) (.t 112)),p 114 109 113,m 115 114,M 115 116 17,M 115 117 15,og 115 true 118 (.call 34 [.t 116,.t 117]),p 119 115 118,m 120 119,og 120 true 121 (.call 11 []),p 122 120 121,m 12 122] .ret))))))))⟩
theorem c9:ak Tryz.prog Tryz.f9=some a9:=by kernel_rfl
def YO:AF:=⟨2,10,[.tmp 4],r [o 4 (.mv F)] (r [m 5 0,m 6 1,h .add 7 6 1,c 8 35 [.t 5,.t 7],h .gtr 9 8 0,m 4 9] .ret)⟩
theorem c10:ak Tryz.prog Tryz.f10=some YO:=by kernel_rfl
def YP:AF:=⟨0,80,[.tmp 0],r [o 0 (.mv F)] (r [c 11 36 [],o 1 (.alloc [z,y,y]),s (.st 3 (.t 1) (.t 11))] (r [n 3 13 1,o 14 (.bsl 1 1 [z] [(0,(1,i 0))]),c 15 12 [.t 13,i 9,.t 14],m 12 15,e 16 12 0,e 17 12 1,m 2 16,m 3 17] (r [n 3 19 1,c 20 17 [.t 19,i 9],m 18 20,e 21 18 0,e 22 18 1,m 4 21,m 5 22] (r [n 3 24 1,c 25 18 [.t 24,i 9],m 23 25,e 26 23 0,e 27 23 1,o 6 (.alloc [z,z,z,z,z]),s (.st 5 (.t 6) (.t 26)),m 7 27] (r [o 29 (.build [z,z] [(0,(1,i 1)),(1,(1,i 1))]),o 30 (.build [z,z] [(0,(1,i 2)),(1,(1,i 1))]),o 31 (.build [z,z] [(1,(1,i 0))]),o 32 (.bsl 3 2 [z,z,z,z,z,z] [(0,(2,.t 29)),(2,(2,.t 30)),(4,(2,.t 31))]),o 33 (.build [z,y,y,y,z,z,z] [(2,(1,.t 32)),(4,(1,i 4))]),c 34 21 [i 1,i 5,.t 33],m 28 34,e 35 28 0,e 36 28 1,m 8 35,m 9 36] (r [o 37 (.bsl 1 1 [z] [(0,(1,i 0))]),o 38 (.bsl 1 1 [z] [(0,(1,i 0))]),o 39 (.build [y,y] [(0,(1,.t 37)),(1,(1,.t 38))]),o 40 (.bsl 1 1 [z] [(0,(1,i 0))]),o 41 (.bsl 2 1 [z,z] [(0,(1,i 1)),(1,(1,i 0))]),o 42 (.build [y,y] [(0,(1,.t 40)),(1,(1,.t 41))]),o 43 (.bsl 1 1 [z] [(0,(1,i 0))]),o 44 (.bsl 2 1 [z,z] [(0,(1,i 1)),(1,(1,i 1))]),o 45 (.build [y,y] [(0,(1,.t 43)),(1,(1,.t 44))]),o 46 (.bsl 3 2 [y,y,y,y,y,y] [(0,(2,.t 39)),(2,(2,.t 42)),(4,(2,.t 45))]),m 10 46] (r [m 47 3,h .eql 48 47 0,m 49 48,M 49 50 2,M 49 51 10,og 49 true 52 (.call 16 [.t 50,.t 51]),p 53 49 52,m 54 53,M 54 55 5,og 54 true 56 (.bin .eql (.t 55) (i 0)),p 57 54 56,m 58 57,M 58 59 4,og 58 true 60 (.ey (.t 59)),og 58 true 61 (.bin .eql (.t 60) (i 6)),p 62 58 61,m 63 62,M 63 64 7,og 63 true 65 (.bin .eql (.t 64) (i 0)),p 66 63 65,m 67 66,og 67 true 68 (.ldn 5 (.t 6)),og 67 true 69 (.build [z,z,z,z,z] [(0,(1,i 6)),(1,(1,i 0)),(2,(1,i 0)),(3,(1,i 0)),(4,(1,i 0))]),og 67 true 70 (.eqs false [(0,0),(1,0),(2,0),(3,0),(4,0)] (.t 68) (.t 69)),p 71 67 70,m 72 71,M 72 73 9,og 72 true 74 (.bin .eql (.t 73) (i 0)),p 75 72 74,m 76 75,M 76 77 8,og 76 true 78 (.bin .eql (.t 77) (.k (.string ⟨#[111,32,49,58,49,32,48,58,48,59,99,52,59]⟩))),p 79 76 78,m 0 79] .ret)))))))⟩
theorem c11:ak Tryz.prog Tryz.f11=some YP:=by kernel_rfl
def a12:AF:=⟨3,30,[.tmp 6,.tmp 7],r [B 3 0,o 6 (.mv (.k (.slice none 0 0))),o 7 (.mv (i 0))] (q (r [n 3 8 3,c 9 37 [.t 8],h .neq 10 9 0] (d 10 (r [o 6 (.mv (.k (.slice none 0 0))),o 7 (.mv (i 30))] .ret) .skip)) (q (r [m 11 1,h .lss 12 11 0,m 13 12,N 13 14 1,og 13 false 15 (.bin .gtr (.t 14) (i 4096)),P 16 13 15,m 17 16,og 17 false 18 (.ldn 3 (.t 3)),N 17 19 2,og 17 false 20 (.build [y,y] [(0,(1,.t 19))]),og 17 false 21 (.call 38 [.t 18,.t 20]),og 17 false 22 (.bin .neq (.t 21) (i 0)),P 23 17 22] (d 23 (r [o 6 (.mv (.k (.slice none 0 0))),o 7 (.mv (i 1))] .ret) .skip)) (r [n 3 24 3,m 25 1,m 26 2,c 27 39 [.t 24,.t 25,.t 26,i 16384],e 28 27 0,e 29 27 1,m 6 28,m 7 29] .ret)))⟩
theorem c12:ak Tryz.prog Tryz.f12=some a12:=by kernel_rfl
def YQ:AF:=⟨2,14,[.tmp 4],r [B 2 0,o 4 (.mv (i 0))] (q (r [n 3 5 2,c 6 40 [.t 5],U 7 6] (d 7 (r [o 4 (.mv (i 30))] .ret) .skip)) (q (r [m 8 1,h .lss 9 8 0,m 10 9,N 10 11 1,og 10 false 12 (.bin .gtr (.t 11) (i 4096)),P 13 10 12] (d 13 (r [o 4 (.mv (i 1))] .ret) .skip)) (r [o 4 (.mv (i 0))] .ret)))⟩
theorem c13:ak Tryz.prog Tryz.f13=some YQ:=by kernel_rfl
def YR:AF:=⟨2,27,[.tmp 4],r [o 4 (.mv F)] (q (r [m 6 0,L 7 6,m 8 1,L 9 8,b .neq 10 7 9] (d 10 (r [o 4 (.mv F)] .ret) .skip)) (q (r [o 5 (.mv (i 0))] (.block 0 (.loop (q (r [m 11 5,m 12 0,L 13 12,b .lss 14 11 13] (d 14 .skip (.exit 0))) (q (.block 1 (q (.bQ [m 17 0,m 18 5,j 2 19 17 18,n 2 20 19,m 21 1,m 22 5,j 2 23 21 22,n 2 24 23,c 25 44 [.t 20,.t 24],U 26 25] []) (d 26 (r [o 4 (.mv F)] .ret) .skip))) (.bG [m 15 5,h .add 16 15 1,m 5 16])))))) (r [o 4 (.mv W)] .ret)))⟩
theorem c16:ak Tryz.prog Tryz.f16=some YR:=by kernel_rfl
def YS:AF:=⟨2,62,[.tmp 4,.tmp 5],r [B 2 0,o 4 (.mv (.k (.slice none 0 0))),o 5 (.mv (i 0))] (q (r [n 3 14 2,c 15 37 [.t 14],h .neq 16 15 0] (d 16 (r [o 4 (.mv (.k (.slice none 0 0))),o 5 (.mv (i 30))] .ret) .skip)) (q (r [m 17 1,h .lss 18 17 0,m 19 18,N 19 20 1,og 19 false 21 (.bin .gtr (.t 20) (i 4096)),P 22 19 21] (d 22 (r [o 4 (.mv (.k (.slice none 0 0))),o 5 (.mv (i 1))] .ret) .skip)) (r [n 3 24 2,c 25 45 [.t 24],m 23 25,e 26 23 0,e 27 23 1,m 6 26,m 7 27] (q (r [m 28 7,h .neq 29 28 0,m 30 29,N 30 31 6,og 30 false 32 (.bin .gtr (.t 31) (i 4096)),P 33 30 32] (d 33 (r [o 4 (.mv (.k (.slice none 0 0))),o 5 (.mv (i 5))] .ret) .skip)) (r [o 8 (.mv (.k (.slice none 0 0)))] (q (r [m 34 6,o 35 (.mv (i 0))] (.block 0 (.loop (r [b .lss 36 35 34] (q (d 36 .skip (.exit 0)) (q (.block 1 (r [m 37 35,m 9 37] (r [n 3 39 2,m 40 9,c 41 46 [.t 39,.t 40],m 38 41,e 42 38 0,e 43 38 1,m 10 42,m 11 43] (r [n 3 45 2,m 46 1,m 47 10,m 48 8,L 49 48,o 50 (.bin .sub (i 16384) (.t 49)),c 51 39 [.t 45,.t 46,.t 47,.t 50],m 44 51,e 52 44 0,e 53 44 1,m 12 52,m 13 53] (q (r [m 54 13,h .neq 55 54 0] (d 55 (r [m 56 13,o 4 (.mv (.k (.slice none 0 0))),m 5 56] .ret) .skip)) (.bG [m 57 8,m 58 12,o 59 (.app 2 48 (.t 57) (.t 58)),m 8 59])))))) (.bG [h .add 60 35 1,m 35 60]))))))) (r [m 61 8,m 4 61,o 5 (.mv (i 0))] .ret)))))))⟩
theorem c17:ak Tryz.prog Tryz.f17=some YS:=by kernel_rfl
def YT:AF:=⟨2,41,[.cells 4 5,.tmp 5],r [B 2 0,o 4 (.alloc [z,z,z,z,z]),o 5 (.mv (i 0))] (r [n 3 14 2,m 15 1,c 16 17 [.t 14,.t 15],m 13 16,e 17 13 0,e 18 13 1,m 6 17,m 7 18] (r [o 8 (.alloc [z,z,z,z,z])] (q (r [m 19 6,L 20 19,o 21 (.mv (i 0))] (.block 0 (.loop (r [b .lss 22 21 20] (q (d 22 .skip (.exit 0)) (q (.block 1 (r [j 2 23 19 21,n 2 24 23,o 10 (.alloc [y,y]),s (.st 2 (.t 10) (.t 24))] (r [n 3 26 2,m 27 1,n 2 28 10,c 29 47 [.t 26,.t 27,.t 28],m 25 29,e 30 25 0,e 31 25 1,o 11 (.alloc [z,y,y,y,z,z,z]),s (.st 7 (.t 11) (.t 30)),m 12 31] (.bG [f 0 32 11,v 33 32,o 34 (.pY 5 1 (.t 8) (.t 33)),v 35 34,h .add 36 35 1,o 37 (.pY 5 1 (.t 8) (.t 33)),s (.st 1 (.t 37) (.t 36))])))) (.bG [h .add 38 21 1,m 21 38]))))))) (r [n 5 39 8,m 40 7,s (.st 5 (.t 4) (.t 39)),m 5 40] .ret))))⟩
theorem c18:ak Tryz.prog Tryz.f18=some YT:=by kernel_rfl
def a21:AF:=⟨3,26,[.tmp 6,.tmp 7],r [B 5 2,o 6 (.mv (.k (.string ⟨#[]⟩))),o 7 (.mv (i 0))] (q (r [m 8 0,h .lss 9 8 0,m 10 9,N 10 11 0,og 10 false 12 (.bin .gtr (.t 11) (i 15)),P 13 10 12,m 14 13,N 14 15 1,og 14 false 16 (.bin .lss (.t 15) (i 0)),P 17 14 16,m 18 17,N 18 19 1,og 18 false 20 (.bin .gtr (.t 19) (i 15)),P 21 18 20] (d 21 (r [o 6 (.mv (.k (.string ⟨#[]⟩))),o 7 (.mv (i 1))] .ret) .skip)) (r [m 22 0,m 23 1,n 7 24 5,c 25 51 [.t 22,.t 23,.t 24],m 6 25,o 7 (.mv (i 0))] .ret))⟩
theorem c21:ak Tryz.prog Tryz.f21=some a21:=by kernel_rfl
def UT:AF:=⟨2,26,[.tmp 4],r [o 4 (.mv F)] (q (r [m 6 0,L 7 6,m 8 1,L 9 8,b .neq 10 7 9] (d 10 (r [o 4 (.mv F)] .ret) .skip)) (q (r [o 5 (.mv (i 0))] (.block 0 (.loop (q (r [m 11 5,m 12 0,L 13 12,b .lss 14 11 13] (d 14 .skip (.exit 0))) (q (.block 1 (q (.bQ [m 17 0,m 18 5,j 1 19 17 18,v 20 19,m 21 1,m 22 5,j 1 23 21 22,v 24 23,b .neq 25 20 24] []) (d 25 (r [o 4 (.mv F)] .ret) .skip))) (.bG [m 15 5,h .add 16 15 1,m 5 16])))))) (r [o 4 (.mv W)] .ret)))⟩
theorem c29:ak Tryz.prog Tryz.f29=some UT:=by kernel_rfl
def YU:AF:=⟨4,74,[.tmp 8,.tmp 9],r [B 4 0,o 8 (.mv (.k (.slice none 0 0))),o 9 (.mv (i 0))] (q (r [n 3 17 4,c 18 37 [.t 17],h .neq 19 18 0] (d 19 (r [o 8 (.mv (.k (.slice none 0 0))),o 9 (.mv (i 30))] .ret) .skip)) (q (r [m 20 1,h .lss 21 20 0,m 22 21,N 22 23 1,og 22 false 24 (.bin .gtr (.t 23) (i 4096)),P 25 22 24,m 26 25,N 26 27 2,og 26 false 28 (.bin .lss (.t 27) (i 0)),P 29 26 28,m 30 29,N 30 31 2,og 30 false 32 (.bin .gtr (.t 31) (i 15)),P 33 30 32,m 34 33,N 34 35 3,og 34 false 36 (.bin .lss (.t 35) (i 0)),P 37 34 36,m 38 37,N 38 39 3,og 38 false 40 (.bin .gtr (.t 39) (i 15)),P 41 38 40] (d 41 (r [o 8 (.mv (.k (.slice none 0 0))),o 9 (.mv (i 1))] .ret) .skip)) (r [n 3 43 4,m 44 1,c 45 17 [.t 43,.t 44],m 42 45,e 46 42 0,e 47 42 1,m 10 46,m 11 47] (q (r [m 48 11,h .neq 49 48 0] (d 49 (r [m 50 11,o 8 (.mv (.k (.slice none 0 0))),m 9 50] .ret) .skip)) (r [o 12 (.mv (.k (.slice none 0 0)))] (q (r [m 51 10,L 52 51,o 53 (.mv (i 0))] (.block 0 (.loop (r [b .lss 54 53 52] (q (d 54 .skip (.exit 0)) (q (.block 1 (r [j 2 55 51 53,n 2 56 55,o 14 (.alloc [y,y]),s (.st 2 (.t 14) (.t 56))] (r [n 3 58 4,m 59 1,n 2 60 14,c 61 47 [.t 58,.t 59,.t 60],m 57 61,e 62 57 0,e 63 57 1,o 15 (.alloc [z,y,y,y,z,z,z]),s (.st 7 (.t 15) (.t 62)),m 16 63] (.bG [m 64 12,m 65 2,m 66 3,n 7 67 15,c 68 51 [.t 65,.t 66,.t 67],o 69 (.bsl 1 1 [.string ⟨#[]⟩] [(0,(1,.t 68))]),o 70 (.app 1 16 (.t 64) (.t 69)),m 12 70])))) (.bG [h .add 71 53 1,m 53 71]))))))) (r [m 72 12,c 73 62 [.t 72],m 8 73,o 9 (.mv (i 0))] .ret)))))))⟩
theorem c30:ak Tryz.prog Tryz.f30=some YU:=by kernel_rfl
def YV:AF:=⟨2,75,[.tmp 4],r [o 4 (.mv F)] (q (r [o 5 (.mv (i 0))] (.block 0 (.loop (q (r [m 13 5,m 14 0,L 15 14,b .lss 16 13 15] (d 16 .skip (.exit 0))) (q (.block 1 (q (r [m 19 0,m 20 5,j 1 21 19 20,v 22 21,L 23 22,h .eql 24 23 0] (d 24 (r [o 4 (.mv F)] .ret) .skip)) (r [o 6 (.mv (i 0))] (q (r [o 7 (.mv (i 0))] (.block 2 (.loop (q (r [m 25 7,m 26 1,L 27 26,b .lss 28 25 27] (d 28 .skip (.exit 2))) (q (.block 3 (r [o 8 (.mv (i 0))] (q (r [m 31 0,m 32 5,j 1 33 31 32,v 34 33,L 35 34,o 36 (.mv (i 0))] (.block 4 (.loop (r [b .lss 37 36 35] (q (d 37 .skip (.exit 4)) (q (.block 5 (r [j 1 38 34 36,v 39 38,m 10 39] (r [m 40 1,m 41 7,j 1 42 40 41,v 43 42,L 44 43,o 45 (.mv (i 0))] (.block 6 (.loop (r [b .lss 46 45 44] (q (d 46 .skip (.exit 6)) (q (.block 7 (r [j 1 47 43 45,v 48 47,m 12 48] (.bG [m 49 8,m 50 10,m 51 12,b .eql 52 50 51,c 53 63 [.t 52],b .add 54 49 53,m 8 54]))) (.bG [h .add 55 45 1,m 45 55]))))))))) (.bG [h .add 56 36 1,m 36 56]))))))) (q (r [m 57 8,h .gtr 58 57 0,m 59 58,M 59 60 8,M 59 61 0,M 59 62 5,og 59 true 63 (.ia 1 (.t 61) (.t 62)),og 59 true 64 (.ld (.t 63)),og 59 true 65 (.ey (.t 64)),og 59 true 66 (.bin .neq (.t 60) (.t 65)),p 67 59 66] (d 67 (r [o 4 (.mv F)] .ret) .skip)) (.bG [m 68 6,m 69 8,h .gtr 70 69 0,c 71 63 [.t 70],b .add 72 68 71,m 6 72]))))) (.bG [m 29 7,h .add 30 29 1,m 7 30])))))) (r [m 73 6,h .neq 74 73 1] (d 74 (r [o 4 (.mv F)] .ret) .skip)))))) (.bG [m 17 5,h .add 18 17 1,m 5 18])))))) (r [o 4 (.mv W)] .ret))⟩
theorem c34:ak Tryz.prog Tryz.f34=some YV:=by kernel_rfl
def YW:AF:=⟨2,54,[.tmp 4],r [o 4 (.mv (i 0))] (q (r [o 5 (.mv (i 0))] (.block 0 (.loop (q (r [m 7 5,m 8 0,L 9 8,b .lss 10 7 9,m 11 10,M 11 12 1,og 11 true 13 (.bin .gtr (.t 12) (i 0)),p 14 11 13] (d 14 .skip (.exit 0))) (q (.block 1 (r [m 17 1,h .sub 18 17 1,m 1 18] (q (r [o 6 (.mv (i 0))] (.block 2 (.loop (q (r [m 19 6,m 20 0,m 21 5,j 5 22 20 21,f 2 23 22,v 24 23,L 25 24,b .lss 26 19 25] (d 26 .skip (.exit 2))) (q (.block 3 (.bG [m 29 0,m 30 5,j 5 31 29 30,f 2 32 31,v 33 32,m 34 6,j 4 35 33 34,n 4 36 35,m 37 1,c 38 64 [.t 36,.t 37],m 1 38])) (.bG [m 27 6,h .add 28 27 1,m 6 28])))))) (r [m 39 0,m 40 5,j 5 41 39 40,f 3 42 41,v 43 42,m 44 1,c 45 35 [.t 43,.t 44],m 1 45] (.bG [m 46 0,m 47 5,j 5 48 46 47,f 4 49 48,v 50 49,m 51 1,c 52 35 [.t 50,.t 51],m 1 52]))))) (.bG [m 15 5,h .add 16 15 1,m 5 16])))))) (r [m 53 1,m 4 53] .ret))⟩
theorem c35:ak Tryz.prog Tryz.f35=some YW:=by kernel_rfl
def YX:AF:=⟨0,18,[.cells 0 3],r [o 0 (.alloc [z,y,y])] (r [c 3 65 [i 0,i 0],o 1 (.alloc [z,z,z,y]),s (.st 4 (.t 1) (.t 3))] (r [o 4 (.build [z,z,y,y,y] [(0,(1,i 4))]),o 2 (.alloc [z,z,y,y,y]),s (.st 5 (.t 2) (.t 4))] (q (.bQ [o 5 (.build [.string ⟨#[]⟩,z,z] [(0,(1,.k (.string ⟨#[104]⟩))),(1,(1,i 1)),(2,(1,i 1))]),o 6 (.bsl 1 3 [.string ⟨#[]⟩,z,z] [(0,(3,.t 5))]),n 5 7 2,n 4 8 1,n 5 13 2,o 14 (.bsl 1 5 [z,z,y,y,y] [(0,(5,.t 13))]),c 9 67 [i 1],o 10 (.bsl 2 4 [z,z,z,y,z,z,z,y] [(0,(4,.t 8)),(4,(4,.t 9))]),c 11 66 [i 13,.t 10],o 12 (.bsl 1 4 [z,z,z,y] [(0,(4,.t 11))]),o 15 (.build [z,z,y,y,y] [(0,(1,i 1)),(2,(1,.t 12)),(3,(1,.t 14))]),o 16 (.bsl 2 5 [z,z,y,y,y,z,z,y,y,y] [(0,(5,.t 7)),(5,(5,.t 15))]),o 17 (.build [z,y,y] [(0,(1,i 1)),(1,(1,.t 6)),(2,(1,.t 16))]),s (.st 3 (.t 0) (.t 17))] [(1,(1,6)),(1,(1,8)),(0,(2,6)),(0,(2,8)),(0,(3,6)),(0,(4,6)),(0,(4,8)),(1,(5,6)),(1,(5,8))]) .ret)))⟩
theorem c36:ak Tryz.prog Tryz.f36=some YX:=by kernel_rfl
def a37:AF:=⟨1,12,[.tmp 2],r [B 1 0,o 2 (.mv (i 0))] (q (r [n 3 6 1,c 7 68 [.t 6],m 5 7,e 8 5 0,e 9 5 1,o 3 (.alloc [z,z]),s (.st 2 (.t 3) (.t 8)),m 4 9] (r [m 10 4,U 11 10] (d 11 (r [o 2 (.mv (i 30))] .ret) .skip))) (r [o 2 (.mv (i 0))] .ret))⟩
theorem c37:ak Tryz.prog Tryz.f37=some a37:=by kernel_rfl
def YY:AF:=⟨2,12,[.tmp 4],r [B 2 0,B 3 1,o 4 (.mv (i 0))] (q (r [n 3 5 2,c 6 37 [.t 5],h .neq 7 6 0] (d 7 (r [o 4 (.mv (i 30))] .ret) .skip)) (q (r [n 3 8 2,n 2 9 3,c 10 69 [.t 8,.t 9],U 11 10] (d 11 (r [o 4 (.mv (i 50))] .ret) .skip)) (r [o 4 (.mv (i 0))] .ret)))⟩
theorem c38:ak Tryz.prog Tryz.f38=some YY:=by kernel_rfl
def YZ:AF:=⟨4,76,[.tmp 8,.tmp 9],r [B 4 0,o 8 (.mv (.k (.slice none 0 0))),o 9 (.mv (i 0))] (r [o 10 (.mv (.k (.slice none 0 0)))] (r [o 16 (.bsl 1 1 [y] [(0,(1,.k (.slice none 0 0)))]),m 11 16] (q (.block 0 (.loop (q (r [m 17 11,L 18 17,h .gtr 19 18 0] (d 19 .skip (.exit 0))) (.block 1 (r [m 20 11,m 21 11,L 22 21,h .sub 23 22 1,j 1 24 20 23,v 25 24,m 12 25] (r [m 26 11,m 27 11,L 28 27,h .sub 29 28 1,o 30 (.sl 1 (.t 26) none (some (.t 29)) none),m 11 30] (r [n 3 32 4,m 33 1,m 34 2,m 35 12,o 36 (.build [y,y] [(0,(1,.t 34)),(1,(1,.t 35))]),c 37 47 [.t 32,.t 33,.t 36],m 31 37,e 38 31 0,e 39 31 1,o 13 (.alloc [z,y,y,y,z,z,z]),s (.st 7 (.t 13) (.t 38)),m 14 39] (q (r [f 0 40 13,v 41 40,h .neq 42 41 4] (d 42 (q (r [m 43 10,L 44 43,m 45 3,b .eql 46 44 45] (d 46 (r [o 8 (.mv (.k (.slice none 0 0))),o 9 (.mv (i 5))] .ret) .skip)) (r [m 47 10,m 48 2,c 49 70 [.t 48],m 50 12,c 51 70 [.t 50],o 52 (.build [y,y] [(0,(1,.t 49)),(1,(1,.t 51))]),o 53 (.bsl 1 2 [y,y] [(0,(2,.t 52))]),o 54 (.app 2 48 (.t 47) (.t 53)),m 10 54] (.exit 1))) .skip)) (q (r [m 55 12,L 56 55,h .eql 57 56 16] (d 57 (r [o 8 (.mv (.k (.slice none 0 0))),o 9 (.mv (i 5))] .ret) .skip)) (r [f 0 58 4,v 59 58,o 60 (.mF .u64 (.t 59)),o 61 (.bin .shl (i 1) (.t 60)),h .sub 62 61 1,m 15 62] (.block 2 (.loop (q (r [m 63 15,h .geq 64 63 0] (d 64 .skip (.exit 2))) (q (.block 3 (.bG [m 67 11,m 68 12,c 69 70 [.t 68],m 70 15,o 71 (.bsl 1 1 [z] [(0,(1,.t 70))]),o 72 (.app 1 8 (.t 69) (.t 71)),o 73 (.bsl 1 1 [y] [(0,(1,.t 72))]),o 74 (.app 1 24 (.t 67) (.t 73)),m 11 74])) (.bG [m 65 15,h .sub 66 65 1,m 15 66]))))))))))))))) (r [m 75 10,m 8 75,o 9 (.mv (i 0))] .ret))))⟩
theorem c39:ak Tryz.prog Tryz.f39=some YZ:=by kernel_rfl
def a40:AF:=⟨1,28,[.tmp 2],r [B 1 0,o 2 (.mv F)] (r [f 0 3 1,v 4 3,f 1 5 1,v 6 5,c 7 71 [.t 4,.t 6],m 8 7,og 8 true 9 (.fa 2 (.t 1)),og 8 true 10 (.ld (.t 9)),og 8 true 11 (.call 10 [.t 10,i 400]),p 12 8 11,m 13 12,og 13 true 14 (.fa 2 (.t 1)),og 13 true 15 (.ld (.t 14)),og 13 true 16 (.call 72 [.t 15]),og 13 true 17 (.bin .leq (.t 16) (i 16)),p 18 13 17,m 19 18,og 19 true 20 (.fa 0 (.t 1)),og 19 true 21 (.ld (.t 20)),og 19 true 22 (.fa 1 (.t 1)),og 19 true 23 (.ld (.t 22)),og 19 true 24 (.fa 2 (.t 1)),og 19 true 25 (.ld (.t 24)),og 19 true 26 (.call 73 [.t 21,.t 23,.t 25]),p 27 19 26,m 2 27] .ret)⟩
theorem c40:ak Tryz.prog Tryz.f40=some a40:=by kernel_rfl
def Y0:AF:=⟨2,17,[.tmp 4],r [B 2 0,B 3 1,o 4 (.mv F)] (r [f 0 5 2,v 6 5,f 0 7 3,v 8 7,c 9 29 [.t 6,.t 8],m 10 9,og 10 true 11 (.fa 1 (.t 2)),og 10 true 12 (.ld (.t 11)),og 10 true 13 (.fa 1 (.t 3)),og 10 true 14 (.ld (.t 13)),og 10 true 15 (.call 29 [.t 12,.t 14]),p 16 10 15,m 4 16] .ret)⟩
theorem c44:ak Tryz.prog Tryz.f44=some Y0:=by kernel_rfl
def Y1:AF:=⟨1,20,[.tmp 2,.tmp 3],r [B 1 0,o 2 (.mv (i 0)),o 3 (.mv (i 0))] (q (r [n 3 4 1,c 5 37 [.t 4],h .neq 6 5 0] (d 6 (r [o 2 (.mv (i 0)),o 3 (.mv (i 30))] .ret) .skip)) (q (q (.bQ [f 0 7 1,v 8 7,n 3 9 1,c 10 76 [.t 9],b .mul 11 8 10,h .gtr 12 11 60] [(0,(1,3))]) (d 12 (r [o 2 (.mv (i 0)),o 3 (.mv (i 5))] .ret) .skip)) (q (.bQ [f 0 13 1,v 14 13,n 3 15 1,c 16 76 [.t 15],b .mul 17 14 16,o 18 (.mF .u64 (.t 17)),o 19 (.bin .shl (i 1) (.t 18)),m 2 19,o 3 (.mv (i 0))] [(0,(1,3))]) .ret)))⟩
theorem c45:ak Tryz.prog Tryz.f45=some Y1:=by kernel_rfl
def a46:AF:=⟨2,45,[.tmp 4,.tmp 5],r [B 2 0,o 4 (.mv (.k (.slice none 0 0))),o 5 (.mv (i 0))] (r [n 3 10 2,c 11 45 [.t 10],m 9 11,e 12 9 0,e 13 9 1,m 6 12,m 7 13] (q (r [m 14 7,h .neq 15 14 0] (d 15 (r [m 16 7,o 4 (.mv (.k (.slice none 0 0))),m 5 16] .ret) .skip)) (q (r [m 17 1,h .lss 18 17 0,m 19 18,N 19 20 1,N 19 21 6,og 19 false 22 (.bin .geq (.t 20) (.t 21)),P 23 19 22] (d 23 (r [o 4 (.mv (.k (.slice none 0 0))),o 5 (.mv (i 1))] .ret) .skip)) (r [o 8 (.mv (.k (.slice none 0 0)))] (q (r [n 3 24 2,c 25 76 [.t 24],o 26 (.mv (i 0))] (.block 0 (.loop (r [b .lss 27 26 25] (q (d 27 .skip (.exit 0)) (q (.block 1 (r [m 28 8,m 29 1,f 0 30 2,v 31 30,o 32 (.mF .u64 (.t 31)),o 33 (.bin .shl (i 1) (.t 32)),h .sub 34 33 1,b .and 35 29 34,o 36 (.bsl 1 1 [z] [(0,(1,.t 35))]),o 37 (.app 1 8 (.t 28) (.t 36)),m 8 37] (.bG [m 38 1,f 0 39 2,v 40 39,o 41 (.mF .u64 (.t 40)),b .shr 42 38 41,m 1 42]))) (.bG [h .add 43 26 1,m 26 43]))))))) (r [m 44 8,m 4 44,o 5 (.mv (i 0))] .ret))))))⟩
theorem c46:ak Tryz.prog Tryz.f46=some a46:=by kernel_rfl
def Y2:AF:=⟨3,31,[.cells 6 7,.tmp 7],r [B 3 0,B 5 2,o 6 (.alloc [z,y,y,y,z,z,z]),o 7 (.mv (i 0))] (r [n 3 13 3,m 14 1,n 2 15 5,c 16 77 [.t 13,.t 14,.t 15],m 12 16,e 17 12 0,e 18 12 1,m 8 17,m 9 18] (q (r [m 19 9,h .neq 20 19 0] (d 20 (r [o 21 (.build [z,y,y,y,z,z,z] []),m 22 9,s (.st 7 (.t 6) (.t 21)),m 7 22] .ret) .skip)) (q (.block 0 (.loop (q (r [m 23 8,c 24 78 [.t 23]] (d 24 .skip (.exit 0))) (.block 1 .skip)))) (r [m 26 8,c 27 79 [.t 26],m 25 27,e 28 25 0,e 29 25 1,o 10 (.alloc [z,y,y,y,z,z,z]),s (.st 7 (.t 10) (.t 28)),m 11 29] (r [n 7 30 10,s (.st 7 (.t 6) (.t 30)),o 7 (.mv (i 0))] .ret)))))⟩
theorem c47:ak Tryz.prog Tryz.f47=some Y2:=by kernel_rfl
def a51:AF:=⟨3,77,[.tmp 6],r [B 5 2,o 6 (.mv (.k (.string ⟨#[]⟩)))] (r [o 7 (.xt .nM [])] (r [o 13 (.mkf 82 [] [.t 7]),m 8 13] (q (r [m 14 1,h .and 15 14 8,h .neq 16 15 0] (d 16 (.bG [f 0 17 5,v 18 17,c 19 84 [.t 18],o 20 (.bin .add (.k (.string ⟨#[101]⟩)) (.t 19)),o 21 (.bin .add (.t 20) (.k (.string ⟨#[59]⟩))),c 22 83 [.t 7,.t 21]]) .skip)) (q (r [m 23 1,h .and 24 23 1,h .neq 25 24 0] (d 25 (q (.bG [o 26 (.call 83 [.t 7,.k (.string ⟨#[111]⟩)])]) (q (r [m 27 0,f 2 28 5,v 29 28,c 30 85 [.t 27,.t 29],L 31 30,o 32 (.mv (i 0))] (.block 0 (.loop (r [b .lss 33 32 31] (q (d 33 .skip (.exit 0)) (q (.block 1 (r [j 2 34 30 32,n 2 35 34,o 10 (.alloc [z,z]),s (.st 2 (.t 10) (.t 35))] (.bG [m 36 8,f 0 37 10,v 38 37,f 1 39 10,v 40 39,o 41 (.bsl 2 1 [z,z] [(0,(1,.t 38)),(1,(1,.t 40))]),o 42 (.callv (.t 36) [.t 41])]))) (.bG [h .add 43 32 1,m 32 43]))))))) (.bG [o 44 (.call 83 [.t 7,.k (.string ⟨#[59]⟩)])]))) .skip)) (q (r [m 45 1,h .and 46 45 2,h .neq 47 46 0] (d 47 (q (.bG [o 48 (.call 83 [.t 7,.k (.string ⟨#[116]⟩)])]) (q (r [f 3 49 5,v 50 49,L 51 50,o 52 (.mv (i 0))] (.block 2 (.loop (r [b .lss 53 52 51] (q (d 53 .skip (.exit 2)) (q (.block 3 (r [j 3 54 50 52,n 3 55 54,o 12 (.alloc [z,z,z]),s (.st 3 (.t 12) (.t 55))] (.bG [m 56 8,f 0 57 12,v 58 57,f 1 59 12,v 60 59,f 2 61 12,v 62 61,o 63 (.bsl 3 1 [z,z,z] [(0,(1,.t 58)),(1,(1,.t 60)),(2,(1,.t 62))]),o 64 (.callv (.t 56) [.t 63])]))) (.bG [h .add 65 52 1,m 52 65]))))))) (.bG [o 66 (.call 83 [.t 7,.k (.string ⟨#[59]⟩)])]))) .skip)) (q (r [m 67 1,h .and 68 67 4,h .neq 69 68 0] (d 69 (.bG [f 4 70 5,v 71 70,c 72 84 [.t 71],o 73 (.bin .add (.k (.string ⟨#[99]⟩)) (.t 72)),o 74 (.bin .add (.t 73) (.k (.string ⟨#[59]⟩))),c 75 83 [.t 7,.t 74]]) .skip)) (r [c 76 86 [.t 7],m 6 76] .ret)))))))⟩
theorem c51:ak Tryz.prog Tryz.f51=some a51:=by kernel_rfl
def Y3:AF:=⟨1,45,[.tmp 2],r [o 2 (.mv (.k (.slice none 0 0)))] (r [o 9 .mkmap,m 3 9] (r [o 4 (.mv (.k (.slice none 0 0)))] (q (r [m 10 0,L 11 10,o 12 (.mv (i 0))] (.block 0 (.loop (r [b .lss 13 12 11] (q (d 13 .skip (.exit 0)) (q (.block 1 (r [m 14 12,j 1 15 10 12,v 16 15,m 5 14,m 6 16] (r [m 18 3,m 19 6,o 20 (.look 1 (.int .i64 0) (.t 18) (.t 19) true),m 17 20,e 21 17 0,e 22 17 1,m 7 21,m 8 22] (q (r [m 23 8,U 24 23] (d 24 (r [m 25 4,L 26 25,m 7 26] (r [m 27 3,m 28 6,m 29 7,s (.mU 1 (.t 27) (.t 28) (.t 29))] (.bG [m 30 4,o 31 (.bsl 1 1 [y] [(0,(1,.k (.slice none 0 0)))]),o 32 (.app 1 24 (.t 30) (.t 31)),m 4 32]))) .skip)) (.bG [m 33 4,m 34 7,m 35 4,m 36 7,j 1 37 35 36,v 38 37,m 39 5,o 40 (.bsl 1 1 [z] [(0,(1,.t 39))]),o 41 (.app 1 8 (.t 38) (.t 40)),j 1 42 33 34,s (.st 1 (.t 42) (.t 41))]))))) (.bG [h .add 43 12 1,m 12 43]))))))) (r [m 44 4,m 2 44] .ret))))⟩
theorem c62:ak Tryz.prog Tryz.f62=some Y3:=by kernel_rfl
def P8:AF:=⟨1,4,[.tmp 2],r [o 2 (.mv (i 0))] (q (r [m 3 0] (d 3 (r [o 2 (.mv (i 1))] .ret) .skip)) (r [o 2 (.mv (i 0))] .ret))⟩
theorem c63:ak Tryz.prog Tryz.f63=some P8:=by kernel_rfl
def UU:AF:=⟨2,26,[.tmp 4],r [B 2 0,o 4 (.mv (i 0))] (q (r [m 7 1,h .lss 8 7 1] (d 8 (r [o 4 (.mv (i 0))] .ret) .skip)) (r [m 9 1,h .sub 10 9 1,m 5 10] (q (r [o 6 (.mv (i 0))] (.block 0 (.loop (q (r [m 11 6,f 3 12 2,v 13 12,L 14 13,b .lss 15 11 14] (d 15 .skip (.exit 0))) (q (.block 1 (.bG [f 3 18 2,v 19 18,m 20 6,j 4 21 19 20,n 4 22 21,m 23 5,c 24 64 [.t 22,.t 23],m 5 24])) (.bG [m 16 6,h .add 17 16 1,m 6 17])))))) (r [m 25 5,m 4 25] .ret))))⟩
theorem c64:ak Tryz.prog Tryz.f64=some UU:=by kernel_rfl
def Y4:AF:=⟨2,8,[.cells 4 4],r [o 4 (.alloc [z,z,z,y])] (r [m 5 0,m 6 1,o 7 (.build [z,z,z,y] [(0,(1,i 1)),(1,(1,.t 5)),(2,(1,.t 6))]),s (.st 4 (.t 4) (.t 7))] .ret)⟩
theorem c65:ak Tryz.prog Tryz.f65=some Y4:=by kernel_rfl
def Y5:AF:=⟨2,8,[.cells 4 4],r [o 4 (.alloc [z,z,z,y])] (r [m 5 0,m 6 1,o 7 (.build [z,z,z,y] [(0,(1,.t 5)),(3,(1,.t 6))]),s (.st 4 (.t 4) (.t 7))] .ret)⟩
theorem c66:ak Tryz.prog Tryz.f66=some Y5:=by kernel_rfl
def Y6:AF:=⟨1,5,[.cells 2 4],r [o 2 (.alloc [z,z,z,y])] (r [m 3 0,o 4 (.build [z,z,z,y] [(0,(1,i 0)),(1,(1,.t 3))]),s (.st 4 (.t 2) (.t 4))] .ret)⟩
theorem c67:ak Tryz.prog Tryz.f67=some Y6:=by kernel_rfl
def Y7:AF:=⟨1,18,[.cells 2 2,.tmp 3],r [B 1 0,o 2 (.alloc [z,z]),o 3 (.mv F)] (q (r [f 0 4 1,v 5 4,f 1 6 1,v 7 6,c 8 96 [.t 5,.t 7],h .neq 9 8 0] (d 9 (r [o 10 (.build [z,z] []),s (.st 2 (.t 2) (.t 10)),o 3 (.mv F)] .ret) .skip)) (q (r [n 3 11 1,f 2 12 1,v 13 12,c 14 97 [.t 2,.t 11,.t 13,i 1],U 15 14] (d 15 (r [o 16 (.build [z,z] []),s (.st 2 (.t 2) (.t 16)),o 3 (.mv F)] .ret) .skip)) (r [n 2 17 2,s (.st 2 (.t 2) (.t 17)),o 3 (.mv W)] .ret)))⟩
theorem c68:ak Tryz.prog Tryz.f68=some Y7:=by kernel_rfl
def Y8:AF:=⟨2,55,[.tmp 4],r [B 2 0,B 3 1,o 4 (.mv F)] (r [o 5 (.mv (i 0))] (q (r [f 1 10 2,v 11 10,L 12 11,o 13 (.mv (i 0))] (.block 0 (.loop (r [b .lss 14 13 12] (q (d 14 .skip (.exit 0)) (q (.block 1 (q (.bG [j 3 15 11 13,n 3 16 15,o 7 (.alloc [.string ⟨#[]⟩,z,z]),s (.st 3 (.t 7) (.t 16))]) (.bG [m 17 5,f 2 18 7,v 19 18,b .add 20 17 19,m 5 20]))) (.bG [h .add 21 13 1,m 13 21]))))))) (q (r [f 0 22 3,v 23 22,L 24 23,m 25 5,b .neq 26 24 25,m 27 26,og 27 false 28 (.fa 1 (.t 3)),og 27 false 29 (.ld (.t 28)),og 27 false 30 (.ey (.t 29)),og 27 false 31 (.bin .gtr (.t 30) (i 16)),P 32 27 31] (d 32 (r [o 4 (.mv F)] .ret) .skip)) (q (q (.bQ [f 0 33 3,v 34 33,f 1 36 3,v 37 36,o 40 (.mv (i 0)),c 35 70 [.t 34],o 38 (.app 1 8 (.t 35) (.t 37)),L 39 38] [(0,(3,5))]) (.block 2 (.loop (r [b .lss 41 40 39] (q (d 41 .skip (.exit 2)) (q (.block 3 (r [j 1 42 38 40,v 43 42,m 9 43] (r [m 44 9,h .lss 45 44 0,m 46 45,N 46 47 9,og 46 false 48 (.fa 0 (.t 2)),og 46 false 49 (.ld (.t 48)),og 46 false 50 (.mF .u64 (.t 49)),og 46 false 51 (.bin .shl (i 1) (.t 50)),og 46 false 52 (.bin .geq (.t 47) (.t 51)),P 53 46 52] (d 53 (r [o 4 (.mv F)] .ret) .skip)))) (.bG [h .add 54 40 1,m 40 54]))))))) (r [o 4 (.mv W)] .ret)))))⟩
theorem c69:ak Tryz.prog Tryz.f69=some Y8:=by kernel_rfl
def a70:AF:=⟨1,8,[.tmp 2],r [o 2 (.mv (.k (.slice none 0 0)))] (q (r [m 3 0,o 4 (.eqk 2 false (.t 3) (.k (.slice none 0 0)))] (d 4 (r [o 2 (.mv (.k (.slice none 0 0)))] .ret) .skip)) (r [o 5 (.bsl 0 1 [] []),m 6 0,o 7 (.app 1 8 (.t 5) (.t 6)),m 2 7] .ret))⟩
theorem c70:ak Tryz.prog Tryz.f70=some a70:=by kernel_rfl
def Y9:AF:=⟨2,69,[.tmp 4],r [o 4 (.mv F)] (q (r [m 8 0,c 9 98 [.t 8],U 10 9,m 11 10,N 11 12 1,og 11 false 13 (.ey (.t 12)),og 11 false 14 (.bin .lss (.t 13) (i 1)),P 15 11 14,m 16 15,N 16 17 1,og 16 false 18 (.ey (.t 17)),og 16 false 19 (.bin .gtr (.t 18) (i 18)),P 20 16 19] (d 20 (r [o 4 (.mv F)] .ret) .skip)) (r [o 5 (.mv (i 0))] (q (r [o 6 (.mv (i 0))] (.block 0 (.loop (q (r [m 21 6,m 22 1,L 23 22,b .lss 24 21 23] (d 24 .skip (.exit 0))) (q (.block 1 (q (.bG [m 27 1,m 28 6,j 3 29 27 28,n 3 30 29,o 7 (.alloc [.string ⟨#[]⟩,z,z]),s (.st 3 (.t 7) (.t 30))]) (q (r [f 0 31 7,v 32 31,c 33 99 [.t 32],U 34 33,m 35 34,og 35 false 36 (.fa 1 (.t 7)),og 35 false 37 (.ld (.t 36)),og 35 false 38 (.bin .lss (.t 37) (i 0)),P 39 35 38,m 40 39,og 40 false 41 (.fa 1 (.t 7)),og 40 false 42 (.ld (.t 41)),og 40 false 43 (.bin .gtr (.t 42) (i 47)),P 44 40 43,m 45 44,og 45 false 46 (.fa 2 (.t 7)),og 45 false 47 (.ld (.t 46)),og 45 false 48 (.bin .lss (.t 47) (i 1)),P 49 45 48,m 50 49,og 50 false 51 (.fa 2 (.t 7)),og 50 false 52 (.ld (.t 51)),og 50 false 53 (.bin .gtr (.t 52) (i 8)),P 54 50 53,m 55 54,N 55 56 1,og 55 false 57 (.fa 0 (.t 7)),og 55 false 58 (.ld (.t 57)),og 55 false 59 (.call 100 [.t 56,.t 58]),N 55 60 6,og 55 false 61 (.bin .neq (.t 59) (.t 60)),P 62 55 61] (d 62 (r [o 4 (.mv F)] .ret) .skip)) (.bG [m 63 5,f 2 64 7,v 65 64,b .add 66 63 65,m 5 66])))) (.bG [m 25 6,h .add 26 25 1,m 6 26])))))) (r [m 67 5,h .leq 68 67 48,m 4 68] .ret))))⟩
theorem c71:ak Tryz.prog Tryz.f71=some Y9:=by kernel_rfl
def a72:AF:=⟨1,28,[.tmp 2],r [o 2 (.mv (i 0))] (r [o 3 (.mv (i 0))] (q (r [o 4 (.mv (i 0))] (.block 0 (.loop (q (r [m 5 4,m 6 0,L 7 6,b .lss 8 5 7] (d 8 .skip (.exit 0))) (q (.block 1 (.bQ [m 11 3,m 12 0,m 13 4,j 5 14 12 13,f 3 15 14,v 16 15,m 19 0,m 20 4,j 5 21 19 20,f 4 22 21,v 23 22,c 17 72 [.t 16],o 18 (.bin .add (i 1) (.t 17)),c 24 72 [.t 23],o 25 (.bin .add (i 1) (.t 24)),o 26 (.mxl (.t 11) [.t 18,.t 25]),m 3 26] [(0,(10,11))])) (.bG [m 9 4,h .add 10 9 1,m 4 10])))))) (r [m 27 3,m 2 27] .ret)))⟩
theorem c72:ak Tryz.prog Tryz.f72=some a72:=by kernel_rfl
def Za:AF:=⟨3,66,[.tmp 6],r [o 6 (.mv F)] (q (r [o 7 (.mv (i 0))] (.block 0 (.loop (q (r [m 9 7,m 10 2,L 11 10,b .lss 12 9 11] (d 12 .skip (.exit 0))) (q (.block 1 (q (r [m 15 1,m 16 2,m 17 7,j 5 18 16 17,n 5 19 18,c 20 101 [.t 15,.t 19],U 21 20,m 22 21,N 22 23 0,N 22 24 1,N 22 25 2,N 22 26 7,og 22 false 27 (.ia 5 (.t 25) (.t 26)),og 22 false 28 (.fa 3 (.t 27)),og 22 false 29 (.ld (.t 28)),og 22 false 30 (.call 73 [.t 23,.t 24,.t 29]),og 22 false 31 (.un .not (.t 30)),P 32 22 31,m 33 32,N 33 34 0,N 33 35 1,N 33 36 2,N 33 37 7,og 33 false 38 (.ia 5 (.t 36) (.t 37)),og 33 false 39 (.fa 4 (.t 38)),og 33 false 40 (.ld (.t 39)),og 33 false 41 (.call 73 [.t 34,.t 35,.t 40]),og 33 false 42 (.un .not (.t 41)),P 43 33 42] (d 43 (r [o 6 (.mv F)] .ret) .skip)) (r [o 8 (.mv (i 0))] (.block 2 (.loop (q (r [m 44 8,m 45 2,m 46 7,j 5 47 45 46,f 2 48 47,v 49 48,L 50 49,b .lss 51 44 50] (d 51 .skip (.exit 2))) (q (.block 3 (r [m 54 0,m 55 1,m 56 2,m 57 7,j 5 58 56 57,f 2 59 58,v 60 59,m 61 8,j 4 62 60 61,n 4 63 62,c 64 102 [.t 54,.t 55,i 1,.t 63],U 65 64] (d 65 (r [o 6 (.mv F)] .ret) .skip))) (.bG [m 52 8,h .add 53 52 1,m 8 53])))))))) (.bG [m 13 7,h .add 14 13 1,m 7 14])))))) (r [o 6 (.mv W)] .ret))⟩
theorem c73:ak Tryz.prog Tryz.f73=some Za:=by kernel_rfl
def Zb:AF:=⟨2,17,[.tmp 4],r [o 4 (.mv F)] (r [m 5 0,c 6 98 [.t 5],m 7 6,M 7 8 1,og 7 true 9 (.bin .geq (.t 8) (i 0)),p 10 7 9,m 11 10,M 11 12 1,M 11 13 0,og 11 true 14 (.call 81 [.t 13]),og 11 true 15 (.bin .lss (.t 12) (.t 14)),p 16 11 15,m 4 16] .ret)⟩
theorem c74:ak Tryz.prog Tryz.f74=some Zb:=by kernel_rfl
def a76:AF:=⟨1,19,[.tmp 2],r [B 1 0,o 2 (.mv (i 0))] (r [o 3 (.mv (i 0))] (q (r [f 1 6 1,v 7 6,L 8 7,o 9 (.mv (i 0))] (.block 0 (.loop (r [b .lss 10 9 8] (q (d 10 .skip (.exit 0)) (q (.block 1 (q (.bG [j 3 11 7 9,n 3 12 11,o 5 (.alloc [.string ⟨#[]⟩,z,z]),s (.st 3 (.t 5) (.t 12))]) (.bG [m 13 3,f 2 14 5,v 15 14,b .add 16 13 15,m 3 16]))) (.bG [h .add 17 9 1,m 9 17]))))))) (r [m 18 3,m 2 18] .ret)))⟩
theorem c76:ak Tryz.prog Tryz.f76=some a76:=by kernel_rfl
def Zc:AF:=⟨3,81,[.tmp 6,.tmp 7],r [B 3 0,B 5 2,o 6 (.mv (.k (.pointer none))),o 7 (.mv (i 0))] (q (r [n 3 11 3,c 12 37 [.t 11],h .neq 13 12 0] (d 13 (r [o 6 (.mv (.k (.pointer none))),o 7 (.mv (i 30))] .ret) .skip)) (q (r [m 14 1,h .lss 15 14 0,m 16 15,N 16 17 1,og 16 false 18 (.bin .gtr (.t 17) (i 4096)),P 19 16 18] (d 19 (r [o 6 (.mv (.k (.pointer none))),o 7 (.mv (i 1))] .ret) .skip)) (q (r [n 3 20 3,n 2 21 5,c 22 69 [.t 20,.t 21],U 23 22] (d 23 (r [o 6 (.mv (.k (.pointer none))),o 7 (.mv (i 50))] .ret) .skip)) (q (.bQ [n 3 24 3,m 25 1,f 1 26 5,v 27 26,c 28 70 [.t 27],o 29 (.build [y,z,y,y,z,y,z,y,y,y,z,z,z,.bool false] [(1,(3,.t 24)),(4,(1,.t 25)),(5,(1,.t 28))]),B 30 29,m 8 30] [(0,(0,4))]) (r [m 31 8,f 1 32 3,v 33 32,c 34 103 [.t 33],o 35 (.aW (.t 31)),f 1 36 35,f 1 37 36,s (.st 1 (.t 37) (.t 34))] (r [m 38 8,o 39 (.aW (.t 38)),f 1 40 39,f 2 41 40,s (.st 1 (.t 41) (.k (.slice none 0 0)))] (q (r [f 2 42 3,v 43 42,L 44 43,o 45 (.mv (i 0))] (.block 0 (.loop (r [b .lss 46 45 44] (q (d 46 .skip (.exit 0)) (q (.block 1 (r [j 5 47 43 45,n 5 48 47,o 10 (.alloc [z,z,y,y,y]),s (.st 5 (.t 10) (.t 48))] (.bQ [m 49 8,o 50 (.aW (.t 49)),f 1 51 50,f 2 52 51,v 53 52,n 5 54 10,L 56 53,o 57 (.bsl 1 5 [z,z,y,y,y] [(0,(5,.k (.agg #[z,z,y,y,y])))]),c 55 104 [.t 54],o 58 (.app 5 88 (.t 53) (.t 57)),j 5 59 58 56,o 60 (.aW (.t 49)),f 1 61 60,f 2 62 61,s (.st 5 (.t 59) (.t 55)),s (.st 1 (.t 62) (.t 58))] [(0,(4,8)),(1,(7,8)),(2,(14,15))]))) (.bG [h .add 63 45 1,m 45 63]))))))) (r [m 64 8,f 0 65 5,v 66 65,c 67 70 [.t 66],o 68 (.aW (.t 64)),f 6 69 68,f 1 70 69,s (.st 1 (.t 70) (.t 67))] (q (.bQ [m 71 8,o 72 (.aW (.t 71)),f 0 73 72,m 74 8,o 75 (.aW (.t 74)),f 1 76 75,f 2 77 76,v 78 77,c 79 105 [.t 73,.t 78,i 0]] []) (r [m 80 8,m 6 80,o 7 (.mv (i 0))] .ret))))))))))⟩
theorem c77:ak Tryz.prog Tryz.f77=some Zc:=by kernel_rfl
def Tc:AF:=⟨1,71,[.tmp 2],r [o 2 (.mv F)] (q (r [m 7 0,o 8 (.eqk 1 false (.t 7) (.k (.pointer none))),m 9 8,N 9 10 0,og 9 false 11 (.aW (.t 10)),og 9 false 12 (.fa 13 (.t 11)),og 9 false 13 (.ld (.t 12)),P 14 9 13] (d 14 (r [o 2 (.mv F)] .ret) .skip)) (r [m 16 0,o 17 (.aW (.t 16)),f 0 18 17,c 19 106 [.t 18],m 15 19,e 20 15 0,e 21 15 1,e 22 15 2,o 3 (.alloc [z,z,y,y,y]),s (.st 5 (.t 3) (.t 20)),m 4 21,m 5 22] (q (r [m 23 5,U 24 23] (d 24 (r [o 2 (.mv F)] .ret) .skip)) (q (r [m 25 0,o 26 (.aW (.t 25)),f 4 27 26,v 28 27,h .eql 29 28 0] (d 29 (r [m 30 0,m 31 4,c 32 107 [.t 30,i 3,.t 31],m 2 32] .ret) .skip)) (r [m 33 0,o 34 (.aW (.t 33)),f 4 35 34,v 36 35,h .sub 37 36 1,o 38 (.aW (.t 33)),f 4 39 38,s (.st 1 (.t 39) (.t 37))] (r [m 40 0,o 41 (.aW (.t 40)),f 6 42 41,f 4 43 42,v 44 43,h .add 45 44 1,o 46 (.aW (.t 40)),f 6 47 46,f 4 48 47,s (.st 1 (.t 48) (.t 45))] (r [m 49 0,o 50 (.mkf 108 [.t 49] []),m 51 0,o 52 (.mkf 109 [.t 51] []),m 53 0,o 54 (.mkf 110 [.t 53] []),m 55 0,o 56 (.mkf 111 [.t 55] []),m 57 0,o 58 (.mkf 112 [.t 57] []),m 59 0,o 60 (.mkf 113 [.t 59] []),m 61 0,o 62 (.mkf 114 [.t 61] []),o 63 (.build [.nilFunc,.nilFunc,.nilFunc,.nilFunc,.nilFunc,.nilFunc,.nilFunc] [(0,(1,.t 50)),(1,(1,.t 52)),(2,(1,.t 54)),(3,(1,.t 56)),(4,(1,.t 58)),(5,(1,.t 60)),(6,(1,.t 62))]),o 6 (.alloc [.nilFunc,.nilFunc,.nilFunc,.nilFunc,.nilFunc,.nilFunc,.nilFunc]),s (.st 7 (.t 6) (.t 63))] (q (.bQ [f 0 64 3,v 65 64,o 66 (.pY 7 1 (.t 6) (.t 65)),v 67 66,n 5 68 3,m 69 4,o 70 (.callv (.t 67) [.t 68,.t 69]),m 2 70] []) .ret))))))))⟩
theorem c78:ak Tryz.prog Tryz.f78=some Tc:=by kernel_rfl
def UW:AF:=⟨1,25,[.cells 2 7,.tmp 3],r [o 2 (.alloc [z,y,y,y,z,z,z]),o 3 (.mv F)] (q (r [m 4 0,o 5 (.eqk 1 false (.t 4) (.k (.pointer none)))] (d 5 (r [o 6 (.build [z,y,y,y,z,z,z] []),s (.st 7 (.t 2) (.t 6)),o 3 (.mv F)] .ret) .skip)) (q (.bQ [m 7 0,o 8 (.aW (.t 7)),f 6 9 8,n 7 10 9,m 12 0,o 13 (.aW (.t 12)),f 13 14 13,v 15 14,c 11 115 [.t 10],m 16 15,N 16 17 0,og 16 false 18 (.aW (.t 17)),og 16 false 19 (.fa 0 (.t 18)),og 16 false 20 (.fa 0 (.t 19)),og 16 false 21 (.ld (.t 20)),og 16 false 22 (.ey (.t 21)),og 16 false 23 (.bin .eql (.t 22) (i 0)),P 24 16 23,s (.st 7 (.t 2) (.t 11)),m 3 24] [(0,(7,8)),(2,(14,18))]) .ret))⟩
theorem c79:ak Tryz.prog Tryz.f79=some UW:=by kernel_rfl
def Zd:AF:=⟨1,13,[.tmp 2],r [o 2 (.mv (i 0))] (r [o 3 (.mv (i 1))] (q (r [o 4 (.mv (i 0))] (.block 0 (.loop (q (r [m 5 4,m 6 0,b .lss 7 5 6] (d 7 .skip (.exit 0))) (q (.block 1 (.bG [m 10 3,o 11 (.bin .mul (i 2) (.t 10)),m 3 11])) (.bG [m 8 4,h .add 9 8 1,m 4 9])))))) (r [m 12 3,m 2 12] .ret)))⟩
theorem c81:ak Tryz.prog Tryz.f81=some Zd:=by kernel_rfl
def Ze:AF:=⟨2,21,[],r [m 5 0,L 6 5,o 7 (.mv (i 0))] (.block 0 (.loop (r [b .lss 8 7 6] (q (d 8 .skip (.exit 0)) (q (.block 1 (r [m 9 7,j 1 10 5 7,v 11 10,m 3 9,m 4 11] (q (.bG [o 12 (.bsl 3 1 [.string ⟨#[]⟩,.string ⟨#[]⟩,.string ⟨#[]⟩] [(0,(1,.k (.string ⟨#[32]⟩))),(1,(1,.k (.string ⟨#[58]⟩))),(2,(1,.k (.string ⟨#[58]⟩)))]),m 13 3,j 1 14 12 13,v 15 14,c 16 83 [.t 1,.t 15]]) (.bG [m 17 4,c 18 84 [.t 17],c 19 83 [.t 1,.t 18]])))) (.bG [h .add 20 7 1,m 7 20]))))))⟩
theorem c82:ak Tryz.prog Tryz.f82=some Ze:=by kernel_rfl
def a83:AF:=⟨2,19,[.tmp 4,.tmp 5],r [o 4 (.mv (i 0)),o 5 (.mv (.k .nilIface))] (r [m 6 0,c 7 116 [.t 6]] (r [m 8 0,m 9 0,o 10 (.aW (.t 9)),f 1 11 10,v 12 11,m 13 1,o 14 (.xt .bad []),o 15 (.aW (.t 8)),f 1 16 15,s (.st 1 (.t 16) (.t 14))] (r [m 17 1,o 18 (.lens (.t 17)),m 4 18,o 5 (.mv (.k .nilIface))] .ret)))⟩
theorem c83:ak Tryz.prog Tryz.f83=some a83:=by kernel_rfl
def a84:AF:=⟨1,5,[.tmp 2],r [o 2 (.mv (.k (.string ⟨#[]⟩)))] (r [m 3 0,c 4 117 [.t 3],m 2 4] .ret)⟩
theorem c84:ak Tryz.prog Tryz.f84=some a84:=by kernel_rfl
def a85:AF:=⟨2,24,[.tmp 4],r [o 4 (.mv (.k (.slice none 0 0)))] (r [o 5 (.mv (.k (.slice none 0 0)))] (q (r [m 8 1,L 9 8,o 10 (.mv (i 0))] (.block 0 (.loop (r [b .lss 11 10 9] (q (d 11 .skip (.exit 0)) (q (.block 1 (r [j 2 12 8 10,n 2 13 12,o 7 (.alloc [z,z]),s (.st 2 (.t 7) (.t 13))] (r [m 14 0,f 0 15 7,v 16 15,c 17 118 [.t 14,.t 16]] (d 17 (.bG [m 18 5,n 2 19 7,o 20 (.bsl 1 2 [z,z] [(0,(2,.t 19))]),o 21 (.app 2 16 (.t 18) (.t 20)),m 5 21]) .skip)))) (.bG [h .add 22 10 1,m 10 22]))))))) (r [m 23 5,m 4 23] .ret)))⟩
theorem c85:ak Tryz.prog Tryz.f85=some a85:=by kernel_rfl
def a86:AF:=⟨1,14,[.tmp 2],r [o 2 (.mv (.k (.string ⟨#[]⟩)))] (q (.bQ [m 3 0,o 4 (.aW (.t 3)),f 1 5 4,v 6 5,m 8 0,o 9 (.aW (.t 8)),f 1 10 9,v 11 10,L 12 11,o 7 (.xt .bad []),o 13 (.xt .bad []),m 2 13] [(0,(7,9))]) .ret)⟩
theorem c86:ak Tryz.prog Tryz.f86=some a86:=by kernel_rfl
def Zf:AF:=⟨2,72,[.tmp 4],r [o 4 (.mv (i 0))] (q (r [m 9 0,h .lss 10 9 1,m 11 10,N 11 12 0,og 11 false 13 (.bin .gtr (.t 12) (i 8)),P 14 11 13,m 15 14,N 15 16 1,og 15 false 17 (.ey (.t 16)),og 15 false 18 (.bin .lss (.t 17) (i 1)),P 19 15 18,m 20 19,N 20 21 1,og 20 false 22 (.ey (.t 21)),og 20 false 23 (.bin .gtr (.t 22) (i 18)),P 24 20 23] (d 24 (r [o 4 (.mv (i 1))] .ret) .skip)) (r [o 25 .mkmap,m 5 25] (r [o 6 (.mv (i 0))] (q (r [m 26 1,L 27 26,o 28 (.mv (i 0))] (.block 0 (.loop (r [b .lss 29 28 27] (q (d 29 .skip (.exit 0)) (q (.block 1 (q (.bG [j 3 30 26 28,n 3 31 30,o 8 (.alloc [.string ⟨#[]⟩,z,z]),s (.st 3 (.t 8) (.t 31))]) (q (r [f 0 32 8,v 33 32,c 34 129 [.t 33],U 35 34,m 36 35,N 36 37 5,og 36 false 38 (.fa 0 (.t 8)),og 36 false 39 (.ld (.t 38)),og 36 false 40 (.look 1 (.bool false) (.t 37) (.t 39) false),P 41 36 40,m 42 41,og 42 false 43 (.fa 1 (.t 8)),og 42 false 44 (.ld (.t 43)),og 42 false 45 (.bin .lss (.t 44) (i 0)),P 46 42 45,m 47 46,og 47 false 48 (.fa 1 (.t 8)),og 47 false 49 (.ld (.t 48)),og 47 false 50 (.bin .gtr (.t 49) (i 47)),P 51 47 50,m 52 51,og 52 false 53 (.fa 2 (.t 8)),og 52 false 54 (.ld (.t 53)),og 52 false 55 (.bin .lss (.t 54) (i 1)),P 56 52 55,m 57 56,og 57 false 58 (.fa 2 (.t 8)),og 57 false 59 (.ld (.t 58)),og 57 false 60 (.bin .gtr (.t 59) (i 8)),P 61 57 60] (d 61 (r [o 4 (.mv (i 1))] .ret) .skip)) (r [m 62 5,f 0 63 8,v 64 63,s (.mU 1 (.t 62) (.t 64) W)] (.bG [m 65 6,f 2 66 8,v 67 66,b .add 68 65 67,m 6 68]))))) (.bG [h .add 69 28 1,m 28 69]))))))) (q (r [m 70 6,h .gtr 71 70 48] (d 71 (r [o 4 (.mv (i 1))] .ret) .skip)) (r [o 4 (.mv (i 0))] .ret))))))⟩
theorem c96:ak Tryz.prog Tryz.f96=some Zf:=by kernel_rfl
def NM:AF:=⟨4,127,[.tmp 8],r [B 5 1,o 8 (.mv F)] (q (r [m 13 2,L 14 13,h .gtr 15 14 0,m 16 15,M 16 17 3,og 16 true 18 (.bin .gtr (.t 17) (i 16)),p 19 16 18] (d 19 (r [o 8 (.mv F)] .ret) .skip)) (q (r [m 20 2,L 21 20,o 22 (.mv (i 0))] (.block 0 (.loop (r [b .lss 23 22 21] (q (d 23 .skip (.exit 0)) (q (.block 1 (r [j 5 24 20 22,n 5 25 24,o 10 (.alloc [z,z,y,y,y]),s (.st 5 (.t 10) (.t 25))] (r [m 26 0,o 27 (.aW (.t 26)),f 0 28 27,v 29 28,h .add 30 29 1,o 31 (.aW (.t 26)),f 0 32 31,s (.st 1 (.t 32) (.t 30))] (r [m 33 0,o 34 (.aW (.t 33)),f 1 35 34,v 36 35,h .add 37 36 1,o 38 (.aW (.t 33)),f 1 39 38,s (.st 1 (.t 39) (.t 37))] (q (q (.bQ [m 40 0,o 41 (.aW (.t 40)),f 1 42 41,v 43 42,h .gtr 44 43 400,m 45 44,og 45 false 46 (.ldn 3 (.t 5)),og 45 false 47 (.ldn 5 (.t 10)),og 45 false 49 (.fa 2 (.t 10)),og 45 false 50 (.ld (.t 49)),og 45 false 51 (.ey (.t 50)),og 45 false 48 (.call 130 [.t 46,.t 47]),og 45 false 52 (.bin .neq (.t 48) (.t 51)),P 53 45 52] [(0,(9,11))]) (d 53 (r [o 8 (.mv F)] .ret) .skip)) (q (r [f 3 54 10,v 55 54,L 56 55,h .gtr 57 56 0,m 58 57,og 58 true 59 (.fa 0 (.t 10)),og 58 true 60 (.ld (.t 59)),og 58 true 61 (.bin .neq (.t 60) (i 1)),p 62 58 61,m 63 62,og 63 true 64 (.fa 0 (.t 10)),og 63 true 65 (.ld (.t 64)),og 63 true 66 (.bin .neq (.t 65) (i 2)),p 67 63 66,m 68 67,og 68 false 69 (.fa 4 (.t 10)),og 68 false 70 (.ld (.t 69)),og 68 false 71 (.ey (.t 70)),og 68 false 72 (.bin .gtr (.t 71) (i 0)),N 68 73 72,og 73 true 74 (.fa 0 (.t 10)),og 73 true 75 (.ld (.t 74)),og 73 true 76 (.bin .neq (.t 75) (i 1)),og 68 false 77 (.pick (.t 73) (.t 76) F),P 78 68 77] (d 78 (r [o 8 (.mv F)] .ret) .skip)) (q (r [f 2 79 10,v 80 79,L 81 80,o 82 (.mv (i 0))] (.block 2 (.loop (r [b .lss 83 82 81] (q (d 83 .skip (.exit 2)) (q (.block 3 (r [j 4 84 80 82,n 4 85 84,o 12 (.alloc [z,z,z,y]),s (.st 4 (.t 12) (.t 85))] (q (r [f 0 86 5,v 87 86,f 1 88 5,v 89 88,n 4 90 12,c 91 131 [.t 87,.t 89,i 1,.t 90],h .neq 92 91 0] (d 92 (r [o 8 (.mv F)] .ret) .skip)) (.bQ [m 93 0,o 94 (.aW (.t 93)),f 1 95 94,v 96 95,n 4 97 12,c 98 132 [.t 97],b .add 99 96 98,o 100 (.aW (.t 93)),f 1 101 100,s (.st 1 (.t 101) (.t 99))] [(0,(3,5))])))) (.bG [h .add 102 82 1,m 82 102]))))))) (r [m 103 0,n 3 104 5,f 3 105 10,v 106 105,m 107 3,h .add 108 107 1,c 109 97 [.t 103,.t 104,.t 106,.t 108],U 110 109,m 111 110,N 111 112 0,og 111 false 113 (.ldn 3 (.t 5)),og 111 false 114 (.fa 4 (.t 10)),og 111 false 115 (.ld (.t 114)),N 111 116 3,og 111 false 117 (.bin .add (.t 116) (i 1)),og 111 false 118 (.call 97 [.t 112,.t 113,.t 115,.t 117]),og 111 false 119 (.un .not (.t 118)),P 120 111 119] (d 120 (r [o 8 (.mv F)] .ret) .skip))))))))) (.bG [h .add 121 22 1,m 22 121]))))))) (r [m 122 0,o 123 (.aW (.t 122)),f 1 124 123,v 125 124,h .leq 126 125 400,m 8 126] .ret)))⟩
theorem c97:ak Tryz.prog Tryz.f97=some NM:=by kernel_rfl
def UX:AF:=⟨1,9,[.tmp 2],r [o 2 (.mv F)] (r [m 3 0,h .geq 4 3 1,m 5 4,M 5 6 0,og 5 true 7 (.bin .leq (.t 6) (i 8)),p 8 5 7,m 2 8] .ret)⟩
theorem c98:ak Tryz.prog Tryz.f98=some UX:=by kernel_rfl
def Td:AF:=⟨1,46,[.tmp 2],r [o 2 (.mv F)] (q (r [m 4 0,o 5 (.lens (.t 4)),h .lss 6 5 1,m 7 6,N 7 8 0,og 7 false 9 (.lens (.t 8)),og 7 false 10 (.bin .gtr (.t 9) (i 12)),P 11 7 10,m 12 11,N 12 13 0,og 12 false 14 (.ix (.t 13) (i 0)),og 12 false 15 (.call 133 [.t 14]),og 12 false 16 (.un .not (.t 15)),P 17 12 16,m 18 17,N 18 19 0,og 18 false 20 (.call 134 [.t 19]),P 21 18 20] (d 21 (r [o 2 (.mv F)] .ret) .skip)) (q (r [o 3 (.mv (i 0))] (.block 0 (.loop (q (r [m 22 3,m 23 0,o 24 (.lens (.t 23)),b .lss 25 22 24] (d 25 .skip (.exit 0))) (q (.block 1 (r [m 28 0,m 29 3,o 30 (.ix (.t 28) (.t 29)),c 31 133 [.t 30],U 32 31,m 33 32,M 33 34 0,M 33 35 3,og 33 true 36 (.ix (.t 34) (.t 35)),og 33 true 37 (.call 135 [.t 36]),og 33 true 38 (.un .not (.t 37)),p 39 33 38,m 40 39,M 40 41 0,M 40 42 3,og 40 true 43 (.ix (.t 41) (.t 42)),og 40 true 44 (.bin .neq (.t 43) (.k (.int .u8 95))),p 45 40 44] (d 45 (r [o 2 (.mv F)] .ret) .skip))) (.bG [m 26 3,h .add 27 26 1,m 3 27])))))) (r [o 2 (.mv W)] .ret)))⟩
theorem c99:ak Tryz.prog Tryz.f99=some Td:=by kernel_rfl
def Kd:AF:=⟨2,20,[.tmp 4],r [o 4 (.mv (i 0))] (q (r [o 5 (.mv (i 0))] (.block 0 (.loop (q (r [m 6 5,m 7 0,L 8 7,b .lss 9 6 8] (d 9 .skip (.exit 0))) (q (.block 1 (r [m 12 0,m 13 5,j 3 14 12 13,f 0 15 14,v 16 15,m 17 1,b .eql 18 16 17] (d 18 (r [m 19 5,m 4 19] .ret) .skip))) (.bG [m 10 5,h .add 11 10 1,m 5 11])))))) (r [o 4 (.mv (i (-1)))] .ret))⟩
theorem ace:ak Tryz.prog Tryz.f100=some Kd:=by kernel_rfl
def Dg:AF:=⟨2,96,[.tmp 4],r [B 3 1,o 4 (.mv F)] (r [f 3 6 3,v 7 6,L 8 7,h .eql 9 8 0,m 10 9,og 10 true 11 (.fa 4 (.t 3)),og 10 true 12 (.ld (.t 11)),og 10 true 13 (.ey (.t 12)),og 10 true 14 (.bin .eql (.t 13) (i 0)),p 15 10 14,m 5 15] (q (r [f 0 16 3,v 17 16] (.block 0 (r [h .eql 19 17 0,m 18 19] (d 18 (r [m 20 5,m 21 20,M 21 22 0,og 21 true 23 (.ldn 5 (.t 3)),og 21 true 24 (.call 136 [.t 22,.t 23,i 1]),p 25 21 24,m 4 25] .ret) (r [h .eql 27 17 1,m 26 27] (d 26 (r [f 1 28 3,v 29 28,h .eql 30 29 0,m 31 30,og 31 true 32 (.fa 2 (.t 3)),og 31 true 33 (.ld (.t 32)),og 31 true 34 (.ey (.t 33)),og 31 true 35 (.bin .eql (.t 34) (i 1)),p 36 31 35,m 4 36] .ret) (r [h .eql 38 17 2,m 37 38] (d 37 (r [f 1 39 3,v 40 39,h .eql 41 40 0,m 42 41,og 42 true 43 (.fa 2 (.t 3)),og 42 true 44 (.ld (.t 43)),og 42 true 45 (.ey (.t 44)),og 42 true 46 (.bin .eql (.t 45) (i 1)),p 47 42 46,m 48 47,og 48 true 49 (.fa 4 (.t 3)),og 48 true 50 (.ld (.t 49)),og 48 true 51 (.ey (.t 50)),og 48 true 52 (.bin .eql (.t 51) (i 0)),p 53 48 52,m 4 53] .ret) (r [h .eql 55 17 3,m 54 55] (d 54 (r [m 56 5,m 57 56,og 57 true 58 (.fa 1 (.t 3)),og 57 true 59 (.ld (.t 58)),og 57 true 60 (.bin .geq (.t 59) (i 0)),p 61 57 60,m 62 61,og 62 true 63 (.fa 1 (.t 3)),og 62 true 64 (.ld (.t 63)),og 62 true 65 (.bin .leq (.t 64) (i 47)),p 66 62 65,m 67 66,og 67 true 68 (.fa 2 (.t 3)),og 67 true 69 (.ld (.t 68)),og 67 true 70 (.ey (.t 69)),og 67 true 71 (.bin .eql (.t 70) (i 1)),p 72 67 71,m 4 72] .ret) (r [h .eql 74 17 4,m 73 74] (d 73 (r [m 75 5,m 76 75,M 76 77 0,og 76 true 78 (.ldn 5 (.t 3)),og 76 true 79 (.call 136 [.t 77,.t 78,i 0]),p 80 76 79,m 4 80] .ret) (q (r [h .eql 82 17 5,m 81 82] (d 81 .skip (.bG [h .eql 83 17 6,m 81 83]))) (d 81 (r [m 84 5,m 85 84,og 85 true 86 (.fa 1 (.t 3)),og 85 true 87 (.ld (.t 86)),og 85 true 88 (.bin .eql (.t 87) (i 0)),p 89 85 88,m 90 89,og 90 true 91 (.fa 2 (.t 3)),og 90 true 92 (.ld (.t 91)),og 90 true 93 (.ey (.t 92)),og 90 true 94 (.bin .eql (.t 93) (i 1)),p 95 90 94,m 4 95] .ret) .skip)))))))))))))) (r [o 4 (.mv F)] .ret)))⟩
theorem acf:ak Tryz.prog Tryz.f101=some Dg:=by kernel_rfl
def Ke:AF:=⟨4,23,[.tmp 8],r [B 7 3,o 8 (.mv F)] (r [n 4 9 7,c 10 137 [.t 9,i 400],m 11 10,og 11 true 12 (.ldn 4 (.t 7)),og 11 true 13 (.call 138 [.t 12]),og 11 true 14 (.bin .leq (.t 13) (i 16)),p 15 11 14,m 16 15,M 16 17 0,M 16 18 1,M 16 19 2,og 16 true 20 (.ldn 4 (.t 7)),og 16 true 21 (.call 139 [.t 17,.t 18,.t 19,.t 20]),p 22 16 21,m 8 22] .ret)⟩
theorem acg:ak Tryz.prog Tryz.f102=some Ke:=by kernel_rfl
def UY:AF:=⟨1,8,[.tmp 2],r [o 2 (.mv (.k (.slice none 0 0)))] (q (r [m 3 0,o 4 (.eqk 2 false (.t 3) (.k (.slice none 0 0)))] (d 4 (r [o 2 (.mv (.k (.slice none 0 0)))] .ret) .skip)) (r [o 5 (.bsl 0 3 [] []),m 6 0,o 7 (.app 3 32 (.t 5) (.t 6)),m 2 7] .ret))⟩
theorem ach:ak Tryz.prog Tryz.f103=some UY:=by kernel_rfl
def Kf:AF:=⟨1,44,[.cells 2 5],r [B 1 0,o 2 (.alloc [z,z,y,y,y])] (r [f 2 9 1,v 10 9,c 11 140 [.t 10],f 2 12 1,s (.st 1 (.t 12) (.t 11))] (r [o 3 (.mv (.k (.slice none 0 0))),o 4 (.mv (.k (.slice none 0 0)))] (q (r [f 3 13 1,v 14 13,L 15 14,o 16 (.mv (i 0))] (.block 0 (.loop (r [b .lss 17 16 15] (q (d 17 .skip (.exit 0)) (q (.block 1 (r [j 5 18 14 16,n 5 19 18,o 6 (.alloc [z,z,y,y,y]),s (.st 5 (.t 6) (.t 19))] (.bG [m 20 3,n 5 21 6,c 22 104 [.t 21],o 23 (.bsl 1 5 [z,z,y,y,y] [(0,(5,.t 22))]),o 24 (.app 5 88 (.t 20) (.t 23)),m 3 24]))) (.bG [h .add 25 16 1,m 16 25]))))))) (q (r [f 4 26 1,v 27 26,L 28 27,o 29 (.mv (i 0))] (.block 2 (.loop (r [b .lss 30 29 28] (q (d 30 .skip (.exit 2)) (q (.block 3 (r [j 5 31 27 29,n 5 32 31,o 8 (.alloc [z,z,y,y,y]),s (.st 5 (.t 8) (.t 32))] (.bG [m 33 4,n 5 34 8,c 35 104 [.t 34],o 36 (.bsl 1 5 [z,z,y,y,y] [(0,(5,.t 35))]),o 37 (.app 5 88 (.t 33) (.t 36)),m 4 37]))) (.bG [h .add 38 29 1,m 29 38]))))))) (r [m 39 3,m 40 4,f 3 41 1,s (.st 1 (.t 41) (.t 39)),f 4 42 1,s (.st 1 (.t 42) (.t 40))] (r [n 5 43 1,s (.st 5 (.t 2) (.t 43))] .ret))))))⟩
theorem aci:ak Tryz.prog Tryz.f104=some Kf:=by kernel_rfl
def a105:AF:=⟨3,21,[],r [m 6 1,L 7 6,h .gtr 8 7 0] (d 8 (.bG [m 9 0,m 10 0,o 11 (.aW (.t 10)),f 0 12 11,v 13 12,m 14 1,m 15 2,o 16 (.build [y,z] [(0,(1,.t 14)),(1,(1,.t 15))]),o 17 (.bsl 1 2 [y,z] [(0,(2,.t 16))]),o 18 (.app 2 32 (.t 13) (.t 17)),o 19 (.aW (.t 9)),f 0 20 19,s (.st 1 (.t 20) (.t 18))]) .skip)⟩
theorem acj:ak Tryz.prog Tryz.f105=some a105:=by kernel_rfl
def Dh:AF:=⟨1,31,[.cells 2 5,.tmp 3,.tmp 4],r [o 2 (.alloc [z,z,y,y,y]),o 3 (.mv (i 0)),o 4 (.mv F)] (q (r [m 6 0,o 7 (.aW (.t 6)),f 0 8 7,v 9 8,L 10 9,h .eql 11 10 0] (d 11 (r [o 12 (.build [z,z,y,y,y] []),s (.st 5 (.t 2) (.t 12)),o 3 (.mv (i 0)),o 4 (.mv F)] .ret) .skip)) (q (.bQ [m 13 0,o 14 (.aW (.t 13)),f 0 15 14,v 16 15,m 17 0,o 18 (.aW (.t 17)),f 0 19 18,v 20 19,L 21 20,h .sub 22 21 1,j 2 23 16 22,n 2 24 23,o 5 (.alloc [y,z]),s (.st 2 (.t 5) (.t 24))] []) (q (.bQ [f 0 25 5,v 26 25,o 27 (.ia 5 (.t 26) (i 0)),n 5 28 27,f 1 29 5,v 30 29,s (.st 5 (.t 2) (.t 28)),m 3 30,o 4 (.mv W)] [(2,(5,6))]) .ret)))⟩
theorem ack:ak Tryz.prog Tryz.f106=some Dh:=by kernel_rfl
def a107:AF:=⟨3,20,[.tmp 6],r [o 6 (.mv F)] (r [m 7 0,m 8 0,m 9 0,m 10 1,m 11 2,o 12 (.aW (.t 7)),f 13 13 12,s (.st 1 (.t 13) W),o 14 (.aW (.t 8)),f 6 15 14,f 0 16 15,s (.st 1 (.t 16) (.t 10)),o 17 (.aW (.t 9)),f 6 18 17,f 6 19 18,s (.st 1 (.t 19) (.t 11))] (r [o 6 (.mv F)] .ret))⟩
theorem acm:ak Tryz.prog Tryz.f107=some a107:=by kernel_rfl
def FY:AF:=⟨3,32,[.tmp 6],r [B 4 1,o 6 (.mv F)] (r [m 9 0,n 5 10 4,c 11 141 [.t 9,.t 10],m 7 11] (r [m 12 0,f 2 13 4,v 14 13,f 2 15 4,v 16 15,L 17 16,h .sub 18 17 1,j 4 19 14 18,n 4 20 19,c 21 142 [.t 12,.t 20],m 8 21] (r [m 22 0,o 23 (.aW (.t 22)),f 0 24 23,c 25 143 [.t 24]] (r [m 26 0,f 1 27 4,v 28 27,m 29 7,m 30 8,c 31 144 [.t 26,.t 28,.t 29,.t 30]] (r [o 6 (.mv W)] .ret)))))⟩
theorem acn:ak Tryz.prog Tryz.f108=some FY:=by kernel_rfl
def a109:AF:=⟨3,37,[.tmp 6],r [B 4 1,o 6 (.mv F)] (r [m 8 0,n 5 9 4,m 10 2,c 11 145 [.t 8,.t 9,.t 10],m 7 11] (r [m 12 0,o 13 (.aW (.t 12)),f 0 14 13,c 15 143 [.t 14]] (q (r [m 16 7] (d 16 (.bQ [m 17 0,o 18 (.aW (.t 17)),f 0 19 18,f 3 20 4,v 21 20,m 22 2,h .add 23 22 1,c 24 105 [.t 19,.t 21,.t 23]] []) (.bQ [m 25 0,o 26 (.aW (.t 25)),f 0 27 26,f 4 28 4,v 29 28,m 30 2,h .add 31 30 1,f 3 32 4,v 33 32,c 34 146 [.t 33],b .add 35 31 34,c 36 105 [.t 27,.t 29,.t 35]] [(0,(4,9))]))) (r [o 6 (.mv W)] .ret))))⟩
theorem aco:ak Tryz.prog Tryz.f109=some a109:=by kernel_rfl
def Kg:AF:=⟨3,23,[.tmp 6],r [B 4 1,o 6 (.mv F)] (q (r [m 7 0,n 5 8 4,m 9 2,c 10 145 [.t 7,.t 8,.t 9]] (d 10 (.bQ [m 11 0,o 12 (.aW (.t 11)),f 0 13 12,f 3 14 4,v 15 14,m 16 2,h .add 17 16 1,c 18 105 [.t 13,.t 15,.t 17]] []) (.bG [m 19 0,o 20 (.aW (.t 19)),f 0 21 20,c 22 143 [.t 21]]))) (r [o 6 (.mv W)] .ret))⟩
theorem acp:ak Tryz.prog Tryz.f110=some Kg:=by kernel_rfl
def Kh:AF:=⟨3,31,[.tmp 6],r [B 4 1,o 6 (.mv F)] (q (.bQ [m 7 0,m 8 0,o 9 (.aW (.t 8)),f 6 10 9,f 2 11 10,v 12 11,f 1 13 4,v 14 13,m 15 0,f 2 16 4,v 17 16,o 18 (.ia 4 (.t 17) (i 0)),n 4 19 18,c 20 142 [.t 15,.t 19],o 21 (.build [z,z] [(0,(1,.t 14)),(1,(1,.t 20))]),o 22 (.bsl 1 2 [z,z] [(0,(2,.t 21))]),o 23 (.app 2 16 (.t 12) (.t 22)),o 24 (.aW (.t 7)),f 6 25 24,f 2 26 25,s (.st 1 (.t 26) (.t 23))] [(0,(5,13)),(0,(7,13))]) (r [m 27 0,o 28 (.aW (.t 27)),f 0 29 28,c 30 143 [.t 29]] (r [o 6 (.mv W)] .ret)))⟩
theorem acq:ak Tryz.prog Tryz.f111=some Kh:=by kernel_rfl
def FZ:AF:=⟨3,55,[.tmp 6],r [B 4 1,o 6 (.mv F)] (r [m 8 0,n 5 9 4,c 10 141 [.t 8,.t 9],m 7 10] (q (q (.bQ [m 11 0,o 12 (.aW (.t 11)),f 6 13 12,f 5 14 13,v 15 14,m 16 0,o 17 (.aW (.t 16)),f 5 18 17,v 19 18,L 20 19,b .eql 21 15 20] []) (d 21 (r [m 22 0,m 23 2,c 24 107 [.t 22,i 4,.t 23],m 6 24] .ret) .skip)) (r [m 25 0,o 26 (.aW (.t 25)),f 0 27 26,c 28 143 [.t 27]] (r [m 29 0,o 30 (.aW (.t 29)),f 6 31 30,f 5 32 31,v 33 32,h .add 34 33 1,o 35 (.aW (.t 29)),f 6 36 35,f 5 37 36,s (.st 1 (.t 37) (.t 34))] (q (.bQ [m 38 0,f 1 39 4,v 40 39,m 41 7,m 42 0,o 43 (.aW (.t 42)),f 5 44 43,v 45 44,m 46 0,o 47 (.aW (.t 46)),f 6 48 47,f 5 49 48,v 50 49,h .sub 51 50 1,j 1 52 45 51,v 53 52,c 54 144 [.t 38,.t 40,.t 41,.t 53]] []) (r [o 6 (.mv W)] .ret))))))⟩
theorem acr:ak Tryz.prog Tryz.f112=some FZ:=by kernel_rfl
def UZ:AF:=⟨3,21,[.tmp 6],r [B 4 1,o 6 (.mv F)] (q (r [m 7 0,f 2 8 4,v 9 8,o 10 (.ia 4 (.t 9) (i 0)),n 4 11 10,c 12 142 [.t 7,.t 11],h .eql 13 12 0] (d 13 (r [m 14 0,m 15 2,c 16 107 [.t 14,i 1,.t 15],m 6 16] .ret) .skip)) (r [m 17 0,o 18 (.aW (.t 17)),f 0 19 18,c 20 143 [.t 19]] (r [o 6 (.mv W)] .ret)))⟩
theorem acs:ak Tryz.prog Tryz.f113=some UZ:=by kernel_rfl
def U0:AF:=⟨3,21,[.tmp 6],r [B 4 1,o 6 (.mv F)] (q (r [m 7 0,f 2 8 4,v 9 8,o 10 (.ia 4 (.t 9) (i 0)),n 4 11 10,c 12 142 [.t 7,.t 11],h .eql 13 12 0] (d 13 (r [m 14 0,m 15 2,c 16 107 [.t 14,i 2,.t 15],m 6 16] .ret) .skip)) (r [m 17 0,o 18 (.aW (.t 17)),f 0 19 18,c 20 143 [.t 19]] (r [o 6 (.mv W)] .ret)))⟩
theorem acu:ak Tryz.prog Tryz.f114=some U0:=by kernel_rfl
def Ki:AF:=⟨1,16,[.cells 2 7],r [B 1 0,o 2 (.alloc [z,y,y,y,z,z,z])] (q (.bQ [f 1 3 1,v 4 3,f 2 6 1,v 7 6,f 3 9 1,v 10 9,c 5 70 [.t 4],f 1 12 1,c 8 147 [.t 7],c 11 148 [.t 10],s (.st 1 (.t 12) (.t 5)),f 2 13 1,s (.st 1 (.t 13) (.t 8)),f 3 14 1,s (.st 1 (.t 14) (.t 11))] [(0,(3,6)),(0,(5,6)),(0,(5,8))]) (r [n 7 15 1,s (.st 7 (.t 2) (.t 15))] .ret))⟩
theorem acv:ak Tryz.prog Tryz.f115=some Ki:=by kernel_rfl
def a116:AF:=⟨1,20,[],r [m 2 0,o 3 (.aW (.t 2)),f 0 4 3,v 5 4,o 6 (.eqk 1 false (.t 5) (.k (.pointer none)))] (d 6 (.bG [m 7 0,m 8 0,o 9 (.xt .bad []),c 10 149 [.t 9],o 11 (.xt .bad []),o 12 (.aW (.t 7)),f 0 13 12,s (.st 1 (.t 13) (.t 11))]) (r [m 14 0,o 15 (.aW (.t 14)),f 0 16 15,v 17 16,m 18 0,o 19 (.eqk 1 true (.t 17) (.t 18))] (d 19 (.cond (i 0) .skip .skip) .skip)))⟩
theorem acw:ak Tryz.prog Tryz.f116=some a116:=by kernel_rfl
def a117:AF:=⟨1,5,[.tmp 2],r [o 2 (.mv (.k (.string ⟨#[]⟩)))] (r [m 3 0,c 4 150 [.t 3,i 10],m 2 4] .ret)⟩
theorem acx:ak Tryz.prog Tryz.f117=some a117:=by kernel_rfl
def Di:AF:=⟨2,17,[.tmp 4],r [o 4 (.mv F)] (r [m 5 1,h .geq 6 5 0,m 7 6,M 7 8 1,og 7 true 9 (.bin .leq (.t 8) (i 15)),p 10 7 9,m 11 10,M 11 12 1,M 11 13 0,og 11 true 14 (.bin .andNot (.t 12) (.t 13)),og 11 true 15 (.bin .eql (.t 14) (i 0)),p 16 11 15,m 4 16] .ret)⟩
theorem acy:ak Tryz.prog Tryz.f118=some Di:=by kernel_rfl
def F3:AF:=⟨1,45,[.tmp 2],r [o 2 (.mv F)] (q (r [m 4 0,o 5 (.bin .eql (.t 4) (.k (.string ⟨#[]⟩))),m 6 5,N 6 7 0,og 6 false 8 (.lens (.t 7)),og 6 false 9 (.bin .gtr (.t 8) (i 12)),P 10 6 9,m 11 10,N 11 12 0,og 11 false 13 (.ix (.t 12) (i 0)),og 11 false 14 (.bin .lss (.t 13) (.k (.int .u8 97))),P 15 11 14,m 16 15,N 16 17 0,og 16 false 18 (.ix (.t 17) (i 0)),og 16 false 19 (.bin .gtr (.t 18) (.k (.int .u8 122))),P 20 16 19] (d 20 (r [o 2 (.mv F)] .ret) .skip)) (q (r [o 3 (.mv (i 0))] (.block 0 (.loop (q (r [m 21 3,m 22 0,o 23 (.lens (.t 22)),b .lss 24 21 23] (d 24 .skip (.exit 0))) (q (.block 1 (r [m 27 0,m 28 3,o 29 (.ix (.t 27) (.t 28)),c 30 154 [.t 29],U 31 30] (d 31 (r [o 2 (.mv F)] .ret) .skip))) (.bG [m 25 3,h .add 26 25 1,m 3 26])))))) (q (r [m 32 0] (.block 2 (q (r [o 34 (.bin .eql (.t 32) (.k (.string ⟨#[119,105,100,116,104]⟩))),m 33 34] (d 33 .skip (r [o 35 (.bin .eql (.t 32) (.k (.string ⟨#[118,97,114]⟩))),m 33 35] (d 33 .skip (r [o 36 (.bin .eql (.t 32) (.k (.string ⟨#[105,102]⟩))),m 33 36] (d 33 .skip (r [o 37 (.bin .eql (.t 32) (.k (.string ⟨#[101,108,115,101]⟩))),m 33 37] (d 33 .skip (r [o 38 (.bin .eql (.t 32) (.k (.string ⟨#[119,104,105,108,101]⟩))),m 33 38] (d 33 .skip (r [o 39 (.bin .eql (.t 32) (.k (.string ⟨#[111,117,116]⟩))),m 33 39] (d 33 .skip (r [o 40 (.bin .eql (.t 32) (.k (.string ⟨#[112,105,99,107]⟩))),m 33 40] (d 33 .skip (r [o 41 (.bin .eql (.t 32) (.k (.string ⟨#[110,101,101,100]⟩))),m 33 41] (d 33 .skip (r [o 42 (.bin .eql (.t 32) (.k (.string ⟨#[109,117,115,116]⟩))),m 33 42] (d 33 .skip (r [o 43 (.bin .eql (.t 32) (.k (.string ⟨#[108,101,118,101,108]⟩))),m 33 43] (d 33 .skip (.bG [o 44 (.bin .eql (.t 32) (.k (.string ⟨#[115,101,101,115]⟩))),m 33 44]))))))))))))))))))))) (d 33 (r [o 2 (.mv F)] .ret) .skip)))) (r [o 2 (.mv W)] .ret))))⟩
theorem acz:ak Tryz.prog Tryz.f129=some F3:=by kernel_rfl
def a130:AF:=⟨2,60,[.tmp 4],r [B 2 0,B 3 1,o 4 (.mv (i 0))] (r [o 5 (.mv (i 0))] (q (r [f 1 7 3,v 8 7,h .geq 9 8 0,m 10 9,og 10 true 11 (.fa 1 (.t 3)),og 10 true 12 (.ld (.t 11)),og 10 true 13 (.fa 1 (.t 2)),og 10 true 14 (.ld (.t 13)),og 10 true 15 (.ey (.t 14)),og 10 true 16 (.bin .lss (.t 12) (.t 15)),p 17 10 16] (d 17 (.bG [f 1 18 2,v 19 18,f 1 20 3,v 21 20,j 3 22 19 21,f 2 23 22,v 24 23,m 5 24]) .skip)) (q (r [f 0 25 3,v 26 25] (.block 0 (q (r [h .eql 28 26 0,m 27 28] (d 27 .skip (.bG [h .eql 29 26 4,m 27 29]))) (d 27 (r [o 6 (.mv (i 0))] (q (r [f 0 30 3,v 31 30,h .eql 32 31 0] (d 32 (.bG [o 6 (.mv (i 1))]) .skip)) (q (.block 1 (r [m 34 5,h .eql 35 34 0,m 33 35] (d 33 (r [o 4 (.mv (i (-1)))] .ret) (r [m 37 5,h .gtr 38 37 1,m 36 38] (d 36 (r [m 39 6,h .add 40 39 1,m 4 40] .ret) .skip))))) (r [m 41 6,m 4 41] .ret)))) (r [h .eql 43 26 3,m 42 43] (d 42 (q (r [f 1 44 3,v 45 44,h .lss 46 45 0,m 47 46,og 47 false 48 (.fa 1 (.t 3)),og 47 false 49 (.ld (.t 48)),og 47 false 50 (.bin .gtr (.t 49) (i 47)),P 51 47 50] (d 51 (r [o 4 (.mv (i (-1)))] .ret) .skip)) (r [o 4 (.mv (i 1))] .ret)) (q (r [h .eql 53 26 1,m 52 53] (d 52 .skip (r [h .eql 54 26 2,m 52 54] (d 52 .skip (r [h .eql 55 26 5,m 52 55] (d 52 .skip (.bG [h .eql 56 26 6,m 52 56]))))))) (d 52 (q (r [f 1 57 3,v 58 57,h .neq 59 58 0] (d 59 (r [o 4 (.mv (i (-1)))] .ret) .skip)) (r [o 4 (.mv (i 1))] .ret)) .skip)))))))) (r [o 4 (.mv (i (-1)))] .ret))))⟩
theorem acA:ak Tryz.prog Tryz.f130=some a130:=by kernel_rfl
def a131:AF:=⟨4,15,[.tmp 8],r [B 7 3,o 8 (.mv (i 0))] (r [m 9 0,m 10 1,m 11 2,o 12 (.build [z,y,z] [(0,(1,.t 9)),(1,(1,.t 10)),(2,(1,.t 11))]),n 4 13 7,c 14 155 [.t 12,.t 13],m 8 14] .ret)⟩
theorem acB:ak Tryz.prog Tryz.f131=some a131:=by kernel_rfl
def Kj:AF:=⟨1,19,[.tmp 2],r [B 1 0,o 2 (.mv (i 0))] (r [o 3 (.mv (i 1))] (q (r [f 3 6 1,v 7 6,L 8 7,o 9 (.mv (i 0))] (.block 0 (.loop (r [b .lss 10 9 8] (q (d 10 .skip (.exit 0)) (q (.block 1 (r [j 4 11 7 9,n 4 12 11,o 5 (.alloc [z,z,z,y]),s (.st 4 (.t 5) (.t 12))] (.bG [m 13 3,n 4 14 5,c 15 132 [.t 14],b .add 16 13 15,m 3 16]))) (.bG [h .add 17 9 1,m 9 17]))))))) (r [m 18 3,m 2 18] .ret)))⟩
theorem acC:ak Tryz.prog Tryz.f132=some Kj:=by kernel_rfl
def F4:AF:=⟨1,9,[.tmp 2],r [o 2 (.mv F)] (r [m 3 0,o 4 (.bin .geq (.t 3) (.k (.int .u8 97))),m 5 4,M 5 6 0,og 5 true 7 (.bin .leq (.t 6) (.k (.int .u8 122))),p 8 5 7,m 2 8] .ret)⟩
theorem acD:ak Tryz.prog Tryz.f133=some F4:=by kernel_rfl
def nh:AF:=⟨1,16,[.tmp 2],r [o 2 (.mv F)] (q (r [m 3 0] (.block 0 (q (r [o 5 (.bin .eql (.t 3) (.k (.string ⟨#[119,105,100,116,104]⟩))),m 4 5] (d 4 .skip (r [o 6 (.bin .eql (.t 3) (.k (.string ⟨#[118,97,114]⟩))),m 4 6] (d 4 .skip (r [o 7 (.bin .eql (.t 3) (.k (.string ⟨#[105,102]⟩))),m 4 7] (d 4 .skip (r [o 8 (.bin .eql (.t 3) (.k (.string ⟨#[101,108,115,101]⟩))),m 4 8] (d 4 .skip (r [o 9 (.bin .eql (.t 3) (.k (.string ⟨#[119,104,105,108,101]⟩))),m 4 9] (d 4 .skip (r [o 10 (.bin .eql (.t 3) (.k (.string ⟨#[111,117,116]⟩))),m 4 10] (d 4 .skip (r [o 11 (.bin .eql (.t 3) (.k (.string ⟨#[112,105,99,107]⟩))),m 4 11] (d 4 .skip (r [o 12 (.bin .eql (.t 3) (.k (.string ⟨#[110,101,101,100]⟩))),m 4 12] (d 4 .skip (r [o 13 (.bin .eql (.t 3) (.k (.string ⟨#[109,117,115,116]⟩))),m 4 13] (d 4 .skip (r [o 14 (.bin .eql (.t 3) (.k (.string ⟨#[108,101,118,101,108]⟩))),m 4 14] (d 4 .skip (.bG [o 15 (.bin .eql (.t 3) (.k (.string ⟨#[115,101,101,115]⟩))),m 4 15]))))))))))))))))))))) (d 4 (r [o 2 (.mv W)] .ret) .skip)))) (r [o 2 (.mv F)] .ret))⟩
theorem acE:ak Tryz.prog Tryz.f134=some nh:=by kernel_rfl
def F5:AF:=⟨1,9,[.tmp 2],r [o 2 (.mv F)] (r [m 3 0,o 4 (.bin .geq (.t 3) (.k (.int .u8 48))),m 5 4,M 5 6 0,og 5 true 7 (.bin .leq (.t 6) (.k (.int .u8 57))),p 8 5 7,m 2 8] .ret)⟩
theorem acF:ak Tryz.prog Tryz.f135=some F5:=by kernel_rfl
def Kk:AF:=⟨3,33,[.tmp 6],r [B 4 1,o 6 (.mv F)] (q (.bQ [f 1 7 4,v 8 7,h .geq 9 8 0,m 10 9,og 10 true 11 (.fa 1 (.t 4)),og 10 true 12 (.ld (.t 11)),M 10 13 0,og 10 true 14 (.ey (.t 13)),og 10 true 15 (.bin .lss (.t 12) (.t 14)),p 16 10 15,m 17 16,og 17 true 18 (.fa 2 (.t 4)),og 17 true 19 (.ld (.t 18)),og 17 true 20 (.ey (.t 19)),M 17 21 2,M 17 22 0,og 17 true 23 (.fa 1 (.t 4)),og 17 true 24 (.ld (.t 23)),og 17 true 25 (.ia 3 (.t 22) (.t 24)),og 17 true 26 (.fa 2 (.t 25)),og 17 true 27 (.ld (.t 26)),og 17 true 28 (.bin .gtr (.t 27) (i 1)),og 17 true 29 (.call 63 [.t 28]),og 17 true 30 (.bin .add (.t 21) (.t 29)),og 17 true 31 (.bin .eql (.t 20) (.t 30)),p 32 17 31,m 6 32] [(0,(12,22))]) .ret)⟩
theorem acG:ak Tryz.prog Tryz.f136=some Kk:=by kernel_rfl
def Kl:AF:=⟨2,10,[.tmp 4],r [B 2 0,o 4 (.mv F)] (r [n 4 5 2,m 6 1,h .add 7 6 1,c 8 64 [.t 5,.t 7],h .gtr 9 8 0,m 4 9] .ret)⟩
theorem acH:ak Tryz.prog Tryz.f137=some Kl:=by kernel_rfl
def a138:AF:=⟨1,22,[.tmp 2],r [B 1 0,o 2 (.mv (i 0))] (r [o 3 (.mv (i 0))] (q (r [o 4 (.mv (i 0))] (.block 0 (.loop (q (r [m 5 4,f 3 6 1,v 7 6,L 8 7,b .lss 9 5 8] (d 9 .skip (.exit 0))) (q (.block 1 (.bG [m 12 3,f 3 13 1,v 14 13,m 15 4,j 4 16 14 15,n 4 17 16,c 18 138 [.t 17],o 19 (.mxl (.t 12) [.t 18]),m 3 19])) (.bG [m 10 4,h .add 11 10 1,m 4 11])))))) (r [m 20 3,h .add 21 20 1,m 2 21] .ret)))⟩
theorem acI:ak Tryz.prog Tryz.f138=some a138:=by kernel_rfl
def a139:AF:=⟨4,33,[.tmp 8],r [B 7 3,o 8 (.mv F)] (q (r [m 10 0,m 11 1,m 12 2,n 4 13 7,c 14 156 [.t 10,.t 11,.t 12,.t 13],U 15 14] (d 15 (r [o 8 (.mv F)] .ret) .skip)) (q (r [o 9 (.mv (i 0))] (.block 0 (.loop (q (r [m 16 9,f 3 17 7,v 18 17,L 19 18,b .lss 20 16 19] (d 20 .skip (.exit 0))) (q (.block 1 (r [m 23 0,m 24 1,m 25 2,f 3 26 7,v 27 26,m 28 9,j 4 29 27 28,n 4 30 29,c 31 139 [.t 23,.t 24,.t 25,.t 30],U 32 31] (d 32 (r [o 8 (.mv F)] .ret) .skip))) (.bG [m 21 9,h .add 22 21 1,m 9 22])))))) (r [o 8 (.mv W)] .ret)))⟩
theorem acJ:ak Tryz.prog Tryz.f139=some a139:=by kernel_rfl
def Km:AF:=⟨1,22,[.tmp 2],r [o 2 (.mv (.k (.slice none 0 0)))] (r [o 3 (.mv (.k (.slice none 0 0)))] (q (r [m 6 0,L 7 6,o 8 (.mv (i 0))] (.block 0 (.loop (r [b .lss 9 8 7] (q (d 9 .skip (.exit 0)) (q (.block 1 (r [j 4 10 6 8,n 4 11 10,o 5 (.alloc [z,z,z,y]),s (.st 4 (.t 5) (.t 11))] (r [f 3 12 5,v 13 12,c 14 140 [.t 13],f 3 15 5,s (.st 1 (.t 15) (.t 14))] (.bG [m 16 3,n 4 17 5,o 18 (.bsl 1 4 [z,z,z,y] [(0,(4,.t 17))]),o 19 (.app 4 48 (.t 16) (.t 18)),m 3 19])))) (.bG [h .add 20 8 1,m 8 20]))))))) (r [m 21 3,m 2 21] .ret)))⟩
theorem acK:ak Tryz.prog Tryz.f140=some Km:=by kernel_rfl
def a141:AF:=⟨2,22,[.tmp 4],r [B 3 1,o 4 (.mv (i 0))] (q (q (.bQ [m 5 0,o 6 (.aW (.t 5)),f 1 7 6,f 1 8 7,v 9 8,f 1 10 3,v 11 10,j 3 12 9 11,f 2 13 12,v 14 13,h .gtr 15 14 1] []) (d 15 (r [m 16 0,f 2 17 3,v 18 17,o 19 (.ia 4 (.t 18) (i 0)),n 4 20 19,c 21 142 [.t 16,.t 20],m 4 21] .ret) .skip)) (r [o 4 (.mv (i 0))] .ret))⟩
theorem acL:ak Tryz.prog Tryz.f141=some a141:=by kernel_rfl
def Kn:AF:=⟨2,35,[.tmp 4],r [B 2 0,B 3 1,o 4 (.mv (i 0))] (q (.bQ [v 5 2,o 6 (.aW (.t 5)),f 6 7 6,f 4 8 7,v 9 8,n 4 10 3,c 11 132 [.t 10],b .add 12 9 11,o 13 (.aW (.t 5)),f 6 14 13,f 4 15 14,s (.st 1 (.t 15) (.t 12))] [(0,(0,6)),(0,(4,6))]) (q (.bQ [v 16 2,o 17 (.aW (.t 16)),f 1 18 17,f 0 19 18,v 20 19,v 21 2,o 22 (.aW (.t 21)),f 1 23 22,f 1 24 23,v 25 24,v 26 2,o 27 (.aW (.t 26)),f 6 28 27,f 1 29 28,v 30 29,o 31 (.bsl 1 1 [y] [(0,(1,.t 30))]),n 4 32 3,o 33 (.mkf 158 [] [.t 2]),c 34 157 [.t 20,.t 25,.t 31,.t 32,.t 33],m 4 34] []) .ret))⟩
theorem acM:ak Tryz.prog Tryz.f142=some Kn:=by kernel_rfl
def a143:AF:=⟨1,56,[],q (.bQ [m 3 0,o 4 (.aW (.t 3)),f 0 5 4,v 6 5,m 7 0,o 8 (.aW (.t 7)),f 0 9 8,v 10 9,L 11 10,h .sub 12 11 1,j 2 13 6 12,m 2 13] []) (q (.bQ [m 14 2,o 15 (.aW (.t 14)),f 1 16 15,v 17 16,m 18 2,o 19 (.aW (.t 18)),f 0 20 19,v 21 20,o 22 (.ia 5 (.t 21) (i 0)),n 5 23 22,c 24 159 [.t 23],b .add 25 17 24,o 26 (.aW (.t 14)),f 1 27 26,s (.st 1 (.t 27) (.t 25))] [(0,(3,10))]) (r [m 28 2,m 29 2,o 30 (.aW (.t 29)),f 0 31 30,v 32 31,o 33 (.sl 5 (.t 32) (some (i 1)) none none),o 34 (.aW (.t 28)),f 0 35 34,s (.st 1 (.t 35) (.t 33))] (r [m 36 2,o 37 (.aW (.t 36)),f 0 38 37,v 39 38,L 40 39,h .eql 41 40 0] (d 41 (.bQ [m 42 0,m 43 0,o 44 (.aW (.t 43)),f 0 45 44,v 46 45,m 47 0,o 48 (.aW (.t 47)),f 0 49 48,v 50 49,L 51 50,h .sub 52 51 1,o 53 (.sl 2 (.t 46) none (some (.t 52)) none),o 54 (.aW (.t 42)),f 0 55 54,s (.st 1 (.t 55) (.t 53))] []) .skip))))⟩
theorem acN:ak Tryz.prog Tryz.f143=some a143:=by kernel_rfl
def Dj:AF:=⟨4,68,[],r [m 12 0,o 13 (.aW (.t 12)),f 1 14 13,f 1 15 14,v 16 15,m 17 1,j 3 18 16 17,f 2 19 18,v 20 19,m 8 20] (q (r [m 21 8,h .gtr 22 21 1] (d 22 (.bQ [m 23 0,m 24 0,o 25 (.aW (.t 24)),f 6 26 25,f 3 27 26,v 28 27,m 29 1,m 30 2,m 31 8,b .rem 32 30 31,o 33 (.build [z,z,z] [(0,(1,i 2)),(1,(1,.t 29)),(2,(1,.t 32))]),o 34 (.bsl 1 3 [z,z,z] [(0,(3,.t 33))]),o 35 (.app 3 24 (.t 28) (.t 34)),o 36 (.aW (.t 23)),f 6 37 36,f 3 38 37,s (.st 1 (.t 38) (.t 35))] []) .skip)) (r [o 9 (.mv (i 0))] (q (r [m 39 0,o 40 (.aW (.t 39)),f 1 41 40,f 1 42 41,v 43 42,m 44 1,o 45 (.sl 3 (.t 43) none (some (.t 44)) none),L 46 45,o 47 (.mv (i 0))] (.block 0 (.loop (r [b .lss 48 47 46] (q (d 48 .skip (.exit 0)) (q (.block 1 (q (.bG [j 3 49 45 47,n 3 50 49,o 11 (.alloc [.string ⟨#[]⟩,z,z]),s (.st 3 (.t 11) (.t 50))]) (.bG [m 51 9,f 2 52 11,v 53 52,b .add 54 51 53,m 9 54]))) (.bG [h .add 55 47 1,m 47 55]))))))) (.bQ [m 56 0,o 57 (.aW (.t 56)),f 6 58 57,f 1 59 58,v 60 59,m 61 9,m 62 2,m 63 8,b .rem 64 62 63,b .add 65 61 64,m 66 3,j 1 67 60 65,s (.st 1 (.t 67) (.t 66))] []))))⟩
theorem acO:ak Tryz.prog Tryz.f144=some Dj:=by kernel_rfl
def a145:AF:=⟨3,32,[.tmp 6],r [B 4 1,o 6 (.mv F)] (r [m 9 0,f 2 10 4,v 11 10,o 12 (.ia 4 (.t 11) (i 0)),n 4 13 12,c 14 142 [.t 9,.t 13],h .neq 15 14 0,m 7 15,o 8 (.mv (i 0))] (q (r [m 16 7] (d 16 (.bG [o 8 (.mv (i 1))]) .skip)) (r [m 17 0,m 18 0,o 19 (.aW (.t 18)),f 6 20 19,f 3 21 20,v 22 21,m 23 2,m 24 8,o 25 (.build [z,z,z] [(0,(1,i 0)),(1,(1,.t 23)),(2,(1,.t 24))]),o 26 (.bsl 1 3 [z,z,z] [(0,(3,.t 25))]),o 27 (.app 3 24 (.t 22) (.t 26)),o 28 (.aW (.t 17)),f 6 29 28,f 3 30 29,s (.st 1 (.t 30) (.t 27))] (r [m 31 7,m 6 31] .ret))))⟩
theorem acP:ak Tryz.prog Tryz.f145=some a145:=by kernel_rfl
def a146:AF:=⟨1,18,[.tmp 2],r [o 2 (.mv (i 0))] (r [o 3 (.mv (i 0))] (q (r [m 6 0,L 7 6,o 8 (.mv (i 0))] (.block 0 (.loop (r [b .lss 9 8 7] (q (d 9 .skip (.exit 0)) (q (.block 1 (r [j 5 10 6 8,n 5 11 10,o 5 (.alloc [z,z,y,y,y]),s (.st 5 (.t 5) (.t 11))] (.bG [m 12 3,n 5 13 5,c 14 159 [.t 13],b .add 15 12 14,m 3 15]))) (.bG [h .add 16 8 1,m 8 16]))))))) (r [m 17 3,m 2 17] .ret)))⟩
theorem acQ:ak Tryz.prog Tryz.f146=some a146:=by kernel_rfl
def U1:AF:=⟨1,8,[.tmp 2],r [o 2 (.mv (.k (.slice none 0 0)))] (q (r [m 3 0,o 4 (.eqk 2 false (.t 3) (.k (.slice none 0 0)))] (d 4 (r [o 2 (.mv (.k (.slice none 0 0)))] .ret) .skip)) (r [o 5 (.bsl 0 2 [] []),m 6 0,o 7 (.app 2 16 (.t 5) (.t 6)),m 2 7] .ret))⟩
theorem acR:ak Tryz.prog Tryz.f147=some U1:=by kernel_rfl
def a148:AF:=⟨1,8,[.tmp 2],r [o 2 (.mv (.k (.slice none 0 0)))] (q (r [m 3 0,o 4 (.eqk 2 false (.t 3) (.k (.slice none 0 0)))] (d 4 (r [o 2 (.mv (.k (.slice none 0 0)))] .ret) .skip)) (r [o 5 (.bsl 0 3 [] []),m 6 0,o 7 (.app 3 24 (.t 5) (.t 6)),m 2 7] .ret))⟩
theorem acS:ak Tryz.prog Tryz.f148=some a148:=by kernel_rfl
def U2:AF:=⟨2,54,[.tmp 4],r [o 4 (.mv (.k (.string ⟨#[]⟩)))] (q (r [m 10 1,h .eql 11 10 10] (d 11 (q (r [m 12 0,o 13 (.bin .leq (i 0) (.t 12)),m 14 13,M 14 15 0,og 14 true 16 (.bin .lss (.t 15) (i 100)),p 17 14 16] (d 17 (r [m 18 0,c 19 160 [.t 18],m 4 19] .ret) .skip)) (r [o 5 (.alloc [.int .u8 0,.int .u8 0,.int .u8 0,.int .u8 0,.int .u8 0,.int .u8 0,.int .u8 0,.int .u8 0,.int .u8 0,.int .u8 0,.int .u8 0,.int .u8 0,.int .u8 0,.int .u8 0,.int .u8 0,.int .u8 0,.int .u8 0,.int .u8 0,.int .u8 0,.int .u8 0,.int .u8 0,.int .u8 0,.int .u8 0,.int .u8 0])] (r [m 20 0,o 21 (.mF .u64 (.t 20)),m 6 21] (q (r [m 22 0,h .lss 23 22 0] (d 23 (.bG [m 24 6,o 25 (.un .neg (.t 24)),m 6 25]) .skip)) (r [m 26 6,c 27 161 [.t 26],m 7 27] (r [m 28 7,o 29 (.bin .add (i 1) (.t 28)),o 30 (.xt .bad []),m 31 6,c 32 162 [.t 30,.t 31]] (q (r [m 33 0,h .lss 34 33 0] (d 34 (r [o 35 (.pY 24 1 (.t 5) (i 0)),s (.st 1 (.t 35) (.k (.int .u8 45)))] (r [m 36 7,o 37 (.bin .add (i 1) (.t 36)),o 38 (.xt .bad []),o 39 (.xt .bad []),m 4 39] .ret)) .skip)) (r [m 40 7,o 41 (.bin .add (i 1) (.t 40)),o 42 (.xt .bad []),o 43 (.xt .bad []),m 4 43] .ret)))))))) .skip)) (r [m 45 0,o 46 (.mF .u64 (.t 45)),m 47 1,m 48 0,h .lss 49 48 0,c 50 163 [.k (.slice none 0 0),.t 46,.t 47,.t 49,F],m 44 50,e 51 44 0,e 52 44 1,m 8 51,m 9 52] (r [m 53 9,m 4 53] .ret)))⟩
theorem acT:ak Tryz.prog Tryz.f150=some U2:=by kernel_rfl
def a154:AF:=⟨1,21,[.tmp 2],r [o 2 (.mv F)] (r [m 3 0,o 4 (.bin .geq (.t 3) (.k (.int .u8 97))),m 5 4,M 5 6 0,og 5 true 7 (.bin .leq (.t 6) (.k (.int .u8 122))),p 8 5 7,m 9 8,N 9 10 0,og 9 false 11 (.bin .geq (.t 10) (.k (.int .u8 48))),N 9 12 11,M 12 13 0,og 12 true 14 (.bin .leq (.t 13) (.k (.int .u8 57))),og 9 false 15 (.pick (.t 12) (.t 14) F),P 16 9 15,m 17 16,N 17 18 0,og 17 false 19 (.bin .eql (.t 18) (.k (.int .u8 95))),P 20 17 19,m 2 20] .ret)⟩
theorem acU:ak Tryz.prog Tryz.f154=some a154:=by kernel_rfl
def Kq:AF:=⟨2,26,[.tmp 4],r [B 2 0,B 3 1,o 4 (.mv (i 0))] (q (r [f 0 6 2,v 7 6,f 1 8 2,v 9 8,c 10 96 [.t 7,.t 9],h .neq 11 10 0,m 12 11,og 12 false 13 (.fa 2 (.t 2)),og 12 false 14 (.ld (.t 13)),og 12 false 15 (.bin .lss (.t 14) (i 1)),P 16 12 15,m 17 16,og 17 false 18 (.fa 2 (.t 2)),og 17 false 19 (.ld (.t 18)),og 17 false 20 (.bin .gtr (.t 19) (i 3)),P 21 17 20] (d 21 (r [o 4 (.mv (i 1))] .ret) .skip)) (r [o 5 (.alloc [z]),s (.st 1 (.t 5) (i 400))] (q (r [n 3 22 2,n 4 23 3,c 24 166 [.t 22,.t 23,i 1,.t 5],U 25 24] (d 25 (r [o 4 (.mv (i 20))] .ret) .skip)) (r [o 4 (.mv (i 0))] .ret))))⟩
theorem acV:ak Tryz.prog Tryz.f155=some Kq:=by kernel_rfl
def a156:AF:=⟨4,67,[.tmp 8],r [B 7 3,o 8 (.mv F)] (q (r [f 0 9 7,v 10 9,h .eql 11 10 1] (d 11 (q (r [f 1 12 7,v 13 12,h .lss 14 13 0,m 15 14,og 15 false 16 (.fa 1 (.t 7)),og 15 false 17 (.ld (.t 16)),N 15 18 1,og 15 false 19 (.ey (.t 18)),og 15 false 20 (.bin .geq (.t 17) (.t 19)),P 21 15 20,m 22 21,og 22 false 23 (.fa 2 (.t 7)),og 22 false 24 (.ld (.t 23)),og 22 false 25 (.bin .lss (.t 24) (i 0)),P 26 22 25,m 27 26,og 27 false 28 (.fa 2 (.t 7)),og 27 false 29 (.ld (.t 28)),N 27 30 2,og 27 false 31 (.bin .geq (.t 29) (.t 30)),P 32 27 31] (d 32 (r [o 8 (.mv F)] .ret) .skip)) (q (.bQ [f 3 33 7,v 34 33,L 35 34,m 36 1,f 1 37 7,v 38 37,j 3 39 36 38,f 2 40 39,v 41 40,h .gtr 42 41 1,c 43 63 [.t 42],b .eql 44 35 43,m 8 44] [(0,(1,10))]) .ret)) .skip)) (q (q (.bQ [f 2 45 7,v 46 45,h .neq 47 46 0,m 48 47,og 48 false 49 (.fa 3 (.t 7)),og 48 false 50 (.ld (.t 49)),og 48 false 51 (.ey (.t 50)),og 48 false 52 (.fa 0 (.t 7)),og 48 false 53 (.ld (.t 52)),og 48 false 54 (.call 167 [.t 53]),og 48 false 55 (.bin .neq (.t 51) (.t 54)),P 56 48 55] [(0,(5,9))]) (d 56 (r [o 8 (.mv F)] .ret) .skip)) (q (r [f 0 57 7,v 58 57,h .eql 59 58 0] (d 59 (r [m 60 0,f 1 61 7,v 62 61,c 63 74 [.t 60,.t 62],m 8 63] .ret) .skip)) (r [f 1 64 7,v 65 64,h .eql 66 65 0,m 8 66] .ret))))⟩
theorem acW:ak Tryz.prog Tryz.f156=some a156:=by kernel_rfl
def a157:AF:=⟨5,20,[.tmp 10],r [B 8 3,o 10 (.mv (i 0))] (r [m 11 0,m 12 1,m 13 2,L 14 13,o 15 (.build [z,y,z] [(0,(1,.t 11)),(1,(1,.t 12)),(2,(1,.t 14))]),m 16 2,n 4 17 8,m 18 4,c 19 168 [.t 15,.t 16,.t 17,.t 18],m 10 19] .ret)⟩
theorem acX:ak Tryz.prog Tryz.f157=some a157:=by kernel_rfl
def Kr:AF:=⟨3,19,[],.bQ [v 5 2,v 6 2,o 7 (.aW (.t 6)),f 6 8 7,f 3 9 8,v 10 9,m 11 0,m 12 1,o 13 (.build [z,z,z] [(0,(1,i 1)),(1,(1,.t 11)),(2,(1,.t 12))]),o 14 (.bsl 1 3 [z,z,z] [(0,(3,.t 13))]),o 15 (.app 3 24 (.t 10) (.t 14)),o 16 (.aW (.t 5)),f 6 17 16,f 3 18 17,s (.st 1 (.t 18) (.t 15))] [(0,(0,10))]⟩
theorem acY:ak Tryz.prog Tryz.f158=some Kr:=by kernel_rfl
def a159:AF:=⟨1,33,[.tmp 2],r [B 1 0,o 2 (.mv (i 0))] (r [o 3 (.mv (i 1))] (q (r [f 3 8 1,v 9 8,L 10 9,o 11 (.mv (i 0))] (.block 0 (.loop (r [b .lss 12 11 10] (q (d 12 .skip (.exit 0)) (q (.block 1 (r [j 5 13 9 11,n 5 14 13,o 5 (.alloc [z,z,y,y,y]),s (.st 5 (.t 5) (.t 14))] (.bG [m 15 3,n 5 16 5,c 17 159 [.t 16],b .add 18 15 17,m 3 18]))) (.bG [h .add 19 11 1,m 11 19]))))))) (q (r [f 4 20 1,v 21 20,L 22 21,o 23 (.mv (i 0))] (.block 2 (.loop (r [b .lss 24 23 22] (q (d 24 .skip (.exit 2)) (q (.block 3 (r [j 5 25 21 23,n 5 26 25,o 7 (.alloc [z,z,y,y,y]),s (.st 5 (.t 7) (.t 26))] (.bG [m 27 3,n 5 28 7,c 29 159 [.t 28],b .add 30 27 29,m 3 30]))) (.bG [h .add 31 23 1,m 23 31]))))))) (r [m 32 3,m 2 32] .ret))))⟩
theorem acZ:ak Tryz.prog Tryz.f159=some a159:=by kernel_rfl
def a160:AF:=⟨1,15,[.tmp 2],r [o 2 (.mv (.k (.string ⟨#[]⟩)))] (q (r [m 3 0,h .lss 4 3 10] (d 4 (r [m 5 0,m 6 0,h .add 7 6 1,o 8 (.sl 0 (.k (.string ⟨#[48,49,50,51,52,53,54,55,56,57,97,98,99,100,101,102,103,104,105,106,107,108,109,110,111,112,113,114,115,116,117,118,119,120,121,122]⟩)) (some (.t 5)) (some (.t 7)) none),m 2 8] .ret) .skip)) (r [m 9 0,h .mul 10 9 2,m 11 0,h .mul 12 11 2,h .add 13 12 2,o 14 (.sl 0 (.k (.string ⟨#[48,48,48,49,48,50,48,51,48,52,48,53,48,54,48,55,48,56,48,57,49,48,49,49,49,50,49,51,49,52,49,53,49,54,49,55,49,56,49,57,50,48,50,49,50,50,50,51,50,52,50,53,50,54,50,55,50,56,50,57,51,48,51,49,51,50,51,51,51,52,51,53,51,54,51,55,51,56,51,57,52,48,52,49,52,50,52,51,52,52,52,53,52,54,52,55,52,56,52,57,53,48,53,49,53,50,53,51,53,52,53,53,53,54,53,55,53,56,53,57,54,48,54,49,54,50,54,51,54,52,54,53,54,54,54,55,54,56,54,57,55,48,55,49,55,50,55,51,55,52,55,53,55,54,55,55,55,56,55,57,56,48,56,49,56,50,56,51,56,52,56,53,56,54,56,55,56,56,56,57,57,48,57,49,57,50,57,51,57,52,57,53,57,54,57,55,57,56,57,57]⟩)) (some (.t 10)) (some (.t 13)) none),m 2 14] .ret))⟩
theorem ac0:ak Tryz.prog Tryz.f160=some a160:=by kernel_rfl
def U3:AF:=⟨1,15,[.tmp 2],r [o 2 (.mv (i 0))] (r [m 4 0,c 5 170 [.t 4],c 6 169 [.t 5],m 3 6] (r [m 7 3,m 8 0,m 9 3,o 10 (.xt .bad []),v 11 10,b .geq 12 8 11,c 13 171 [.t 12],b .add 14 7 13,m 2 14] .ret))⟩
theorem ac1:ak Tryz.prog Tryz.f161=some U3:=by kernel_rfl
def a162:AF:=⟨2,167,[],r [m 17 0,L 18 17,m 4 18] (q (.block 0 (.loop (q (r [m 19 4,h .geq 20 19 8] (d 20 .skip (.exit 0))) (.block 1 (r [m 21 1,o 22 (.bin .rem (.t 21) (.k (.int .u64 100000000))),o 23 (.mF .u32 (.t 22)),m 5 23] (r [m 24 1,o 25 (.bin .quo (.t 24) (.k (.int .u64 100000000))),m 1 25] (r [m 26 5,o 27 (.bin .quo (.t 26) (.k (.int .u32 10000))),m 28 5,o 29 (.bin .rem (.t 28) (.k (.int .u32 10000))),m 6 27,m 7 29] (r [m 30 7,o 31 (.bin .quo (.t 30) (.k (.int .u32 100))),o 32 (.bin .mul (.t 31) (.k (.int .u32 2))),m 33 7,o 34 (.bin .rem (.t 33) (.k (.int .u32 100))),o 35 (.bin .mul (.t 34) (.k (.int .u32 2))),m 8 32,m 9 35] (r [m 36 6,o 37 (.bin .quo (.t 36) (.k (.int .u32 100))),o 38 (.bin .mul (.t 37) (.k (.int .u32 2))),m 39 6,o 40 (.bin .rem (.t 39) (.k (.int .u32 100))),o 41 (.bin .mul (.t 40) (.k (.int .u32 2))),m 10 38,m 11 41] (q (.bQ [m 42 0,m 43 4,h .sub 44 43 1,m 45 0,m 46 4,h .sub 47 46 2,m 48 9,o 49 (.bin .add (.t 48) (.k (.int .u32 1))),o 50 (.ix (.k (.string ⟨#[48,48,48,49,48,50,48,51,48,52,48,53,48,54,48,55,48,56,48,57,49,48,49,49,49,50,49,51,49,52,49,53,49,54,49,55,49,56,49,57,50,48,50,49,50,50,50,51,50,52,50,53,50,54,50,55,50,56,50,57,51,48,51,49,51,50,51,51,51,52,51,53,51,54,51,55,51,56,51,57,52,48,52,49,52,50,52,51,52,52,52,53,52,54,52,55,52,56,52,57,53,48,53,49,53,50,53,51,53,52,53,53,53,54,53,55,53,56,53,57,54,48,54,49,54,50,54,51,54,52,54,53,54,54,54,55,54,56,54,57,55,48,55,49,55,50,55,51,55,52,55,53,55,54,55,55,55,56,55,57,56,48,56,49,56,50,56,51,56,52,56,53,56,54,56,55,56,56,56,57,57,48,57,49,57,50,57,51,57,52,57,53,57,54,57,55,57,56,57,57]⟩)) (.t 49)),m 51 9,o 52 (.ix (.k (.string ⟨#[48,48,48,49,48,50,48,51,48,52,48,53,48,54,48,55,48,56,48,57,49,48,49,49,49,50,49,51,49,52,49,53,49,54,49,55,49,56,49,57,50,48,50,49,50,50,50,51,50,52,50,53,50,54,50,55,50,56,50,57,51,48,51,49,51,50,51,51,51,52,51,53,51,54,51,55,51,56,51,57,52,48,52,49,52,50,52,51,52,52,52,53,52,54,52,55,52,56,52,57,53,48,53,49,53,50,53,51,53,52,53,53,53,54,53,55,53,56,53,57,54,48,54,49,54,50,54,51,54,52,54,53,54,54,54,55,54,56,54,57,55,48,55,49,55,50,55,51,55,52,55,53,55,54,55,55,55,56,55,57,56,48,56,49,56,50,56,51,56,52,56,53,56,54,56,55,56,56,56,57,57,48,57,49,57,50,57,51,57,52,57,53,57,54,57,55,57,56,57,57]⟩)) (.t 51)),j 1 53 42 44,s (.st 1 (.t 53) (.t 50)),j 1 54 45 47,s (.st 1 (.t 54) (.t 52))] []) (q (.bQ [m 55 0,m 56 4,h .sub 57 56 3,m 58 0,m 59 4,h .sub 60 59 4,m 61 8,o 62 (.bin .add (.t 61) (.k (.int .u32 1))),o 63 (.ix (.k (.string ⟨#[48,48,48,49,48,50,48,51,48,52,48,53,48,54,48,55,48,56,48,57,49,48,49,49,49,50,49,51,49,52,49,53,49,54,49,55,49,56,49,57,50,48,50,49,50,50,50,51,50,52,50,53,50,54,50,55,50,56,50,57,51,48,51,49,51,50,51,51,51,52,51,53,51,54,51,55,51,56,51,57,52,48,52,49,52,50,52,51,52,52,52,53,52,54,52,55,52,56,52,57,53,48,53,49,53,50,53,51,53,52,53,53,53,54,53,55,53,56,53,57,54,48,54,49,54,50,54,51,54,52,54,53,54,54,54,55,54,56,54,57,55,48,55,49,55,50,55,51,55,52,55,53,55,54,55,55,55,56,55,57,56,48,56,49,56,50,56,51,56,52,56,53,56,54,56,55,56,56,56,57,57,48,57,49,57,50,57,51,57,52,57,53,57,54,57,55,57,56,57,57]⟩)) (.t 62)),m 64 8,o 65 (.ix (.k (.string ⟨#[48,48,48,49,48,50,48,51,48,52,48,53,48,54,48,55,48,56,48,57,49,48,49,49,49,50,49,51,49,52,49,53,49,54,49,55,49,56,49,57,50,48,50,49,50,50,50,51,50,52,50,53,50,54,50,55,50,56,50,57,51,48,51,49,51,50,51,51,51,52,51,53,51,54,51,55,51,56,51,57,52,48,52,49,52,50,52,51,52,52,52,53,52,54,52,55,52,56,52,57,53,48,53,49,53,50,53,51,53,52,53,53,53,54,53,55,53,56,53,57,54,48,54,49,54,50,54,51,54,52,54,53,54,54,54,55,54,56,54,57,55,48,55,49,55,50,55,51,55,52,55,53,55,54,55,55,55,56,55,57,56,48,56,49,56,50,56,51,56,52,56,53,56,54,56,55,56,56,56,57,57,48,57,49,57,50,57,51,57,52,57,53,57,54,57,55,57,56,57,57]⟩)) (.t 64)),j 1 66 55 57,s (.st 1 (.t 66) (.t 63)),j 1 67 58 60,s (.st 1 (.t 67) (.t 65))] []) (q (.bQ [m 68 0,m 69 4,h .sub 70 69 5,m 71 0,m 72 4,h .sub 73 72 6,m 74 11,o 75 (.bin .add (.t 74) (.k (.int .u32 1))),o 76 (.ix (.k (.string ⟨#[48,48,48,49,48,50,48,51,48,52,48,53,48,54,48,55,48,56,48,57,49,48,49,49,49,50,49,51,49,52,49,53,49,54,49,55,49,56,49,57,50,48,50,49,50,50,50,51,50,52,50,53,50,54,50,55,50,56,50,57,51,48,51,49,51,50,51,51,51,52,51,53,51,54,51,55,51,56,51,57,52,48,52,49,52,50,52,51,52,52,52,53,52,54,52,55,52,56,52,57,53,48,53,49,53,50,53,51,53,52,53,53,53,54,53,55,53,56,53,57,54,48,54,49,54,50,54,51,54,52,54,53,54,54,54,55,54,56,54,57,55,48,55,49,55,50,55,51,55,52,55,53,55,54,55,55,55,56,55,57,56,48,56,49,56,50,56,51,56,52,56,53,56,54,56,55,56,56,56,57,57,48,57,49,57,50,57,51,57,52,57,53,57,54,57,55,57,56,57,57]⟩)) (.t 75)),m 77 11,o 78 (.ix (.k (.string ⟨#[48,48,48,49,48,50,48,51,48,52,48,53,48,54,48,55,48,56,48,57,49,48,49,49,49,50,49,51,49,52,49,53,49,54,49,55,49,56,49,57,50,48,50,49,50,50,50,51,50,52,50,53,50,54,50,55,50,56,50,57,51,48,51,49,51,50,51,51,51,52,51,53,51,54,51,55,51,56,51,57,52,48,52,49,52,50,52,51,52,52,52,53,52,54,52,55,52,56,52,57,53,48,53,49,53,50,53,51,53,52,53,53,53,54,53,55,53,56,53,57,54,48,54,49,54,50,54,51,54,52,54,53,54,54,54,55,54,56,54,57,55,48,55,49,55,50,55,51,55,52,55,53,55,54,55,55,55,56,55,57,56,48,56,49,56,50,56,51,56,52,56,53,56,54,56,55,56,56,56,57,57,48,57,49,57,50,57,51,57,52,57,53,57,54,57,55,57,56,57,57]⟩)) (.t 77)),j 1 79 68 70,s (.st 1 (.t 79) (.t 76)),j 1 80 71 73,s (.st 1 (.t 80) (.t 78))] []) (q (.bQ [m 81 0,m 82 4,h .sub 83 82 7,m 84 0,m 85 4,h .sub 86 85 8,m 87 10,o 88 (.bin .add (.t 87) (.k (.int .u32 1))),o 89 (.ix (.k (.string ⟨#[48,48,48,49,48,50,48,51,48,52,48,53,48,54,48,55,48,56,48,57,49,48,49,49,49,50,49,51,49,52,49,53,49,54,49,55,49,56,49,57,50,48,50,49,50,50,50,51,50,52,50,53,50,54,50,55,50,56,50,57,51,48,51,49,51,50,51,51,51,52,51,53,51,54,51,55,51,56,51,57,52,48,52,49,52,50,52,51,52,52,52,53,52,54,52,55,52,56,52,57,53,48,53,49,53,50,53,51,53,52,53,53,53,54,53,55,53,56,53,57,54,48,54,49,54,50,54,51,54,52,54,53,54,54,54,55,54,56,54,57,55,48,55,49,55,50,55,51,55,52,55,53,55,54,55,55,55,56,55,57,56,48,56,49,56,50,56,51,56,52,56,53,56,54,56,55,56,56,56,57,57,48,57,49,57,50,57,51,57,52,57,53,57,54,57,55,57,56,57,57]⟩)) (.t 88)),m 90 10,o 91 (.ix (.k (.string ⟨#[48,48,48,49,48,50,48,51,48,52,48,53,48,54,48,55,48,56,48,57,49,48,49,49,49,50,49,51,49,52,49,53,49,54,49,55,49,56,49,57,50,48,50,49,50,50,50,51,50,52,50,53,50,54,50,55,50,56,50,57,51,48,51,49,51,50,51,51,51,52,51,53,51,54,51,55,51,56,51,57,52,48,52,49,52,50,52,51,52,52,52,53,52,54,52,55,52,56,52,57,53,48,53,49,53,50,53,51,53,52,53,53,53,54,53,55,53,56,53,57,54,48,54,49,54,50,54,51,54,52,54,53,54,54,54,55,54,56,54,57,55,48,55,49,55,50,55,51,55,52,55,53,55,54,55,55,55,56,55,57,56,48,56,49,56,50,56,51,56,52,56,53,56,54,56,55,56,56,56,57,57,48,57,49,57,50,57,51,57,52,57,53,57,54,57,55,57,56,57,57]⟩)) (.t 90)),j 1 92 81 83,s (.st 1 (.t 92) (.t 89)),j 1 93 84 86,s (.st 1 (.t 93) (.t 91))] []) (.bG [m 94 4,h .sub 95 94 8,m 4 95])))))))))))))) (r [m 96 1,o 97 (.mF .u32 (.t 96)),m 12 97] (q (r [m 98 4,h .geq 99 98 4] (d 99 (r [m 100 12,o 101 (.bin .rem (.t 100) (.k (.int .u32 10000))),m 13 101] (r [m 102 12,o 103 (.bin .quo (.t 102) (.k (.int .u32 10000))),m 12 103] (r [m 104 13,o 105 (.bin .quo (.t 104) (.k (.int .u32 100))),o 106 (.bin .mul (.t 105) (.k (.int .u32 2))),m 107 13,o 108 (.bin .rem (.t 107) (.k (.int .u32 100))),o 109 (.bin .mul (.t 108) (.k (.int .u32 2))),m 14 106,m 15 109] (q (.bQ [m 110 0,m 111 4,h .sub 112 111 1,m 113 0,m 114 4,h .sub 115 114 2,m 116 15,o 117 (.bin .add (.t 116) (.k (.int .u32 1))),o 118 (.ix (.k (.string ⟨#[48,48,48,49,48,50,48,51,48,52,48,53,48,54,48,55,48,56,48,57,49,48,49,49,49,50,49,51,49,52,49,53,49,54,49,55,49,56,49,57,50,48,50,49,50,50,50,51,50,52,50,53,50,54,50,55,50,56,50,57,51,48,51,49,51,50,51,51,51,52,51,53,51,54,51,55,51,56,51,57,52,48,52,49,52,50,52,51,52,52,52,53,52,54,52,55,52,56,52,57,53,48,53,49,53,50,53,51,53,52,53,53,53,54,53,55,53,56,53,57,54,48,54,49,54,50,54,51,54,52,54,53,54,54,54,55,54,56,54,57,55,48,55,49,55,50,55,51,55,52,55,53,55,54,55,55,55,56,55,57,56,48,56,49,56,50,56,51,56,52,56,53,56,54,56,55,56,56,56,57,57,48,57,49,57,50,57,51,57,52,57,53,57,54,57,55,57,56,57,57]⟩)) (.t 117)),m 119 15,o 120 (.ix (.k (.string ⟨#[48,48,48,49,48,50,48,51,48,52,48,53,48,54,48,55,48,56,48,57,49,48,49,49,49,50,49,51,49,52,49,53,49,54,49,55,49,56,49,57,50,48,50,49,50,50,50,51,50,52,50,53,50,54,50,55,50,56,50,57,51,48,51,49,51,50,51,51,51,52,51,53,51,54,51,55,51,56,51,57,52,48,52,49,52,50,52,51,52,52,52,53,52,54,52,55,52,56,52,57,53,48,53,49,53,50,53,51,53,52,53,53,53,54,53,55,53,56,53,57,54,48,54,49,54,50,54,51,54,52,54,53,54,54,54,55,54,56,54,57,55,48,55,49,55,50,55,51,55,52,55,53,55,54,55,55,55,56,55,57,56,48,56,49,56,50,56,51,56,52,56,53,56,54,56,55,56,56,56,57,57,48,57,49,57,50,57,51,57,52,57,53,57,54,57,55,57,56,57,57]⟩)) (.t 119)),j 1 121 110 112,s (.st 1 (.t 121) (.t 118)),j 1 122 113 115,s (.st 1 (.t 122) (.t 120))] []) (q (.bQ [m 123 0,m 124 4,h .sub 125 124 3,m 126 0,m 127 4,h .sub 128 127 4,m 129 14,o 130 (.bin .add (.t 129) (.k (.int .u32 1))),o 131 (.ix (.k (.string ⟨#[48,48,48,49,48,50,48,51,48,52,48,53,48,54,48,55,48,56,48,57,49,48,49,49,49,50,49,51,49,52,49,53,49,54,49,55,49,56,49,57,50,48,50,49,50,50,50,51,50,52,50,53,50,54,50,55,50,56,50,57,51,48,51,49,51,50,51,51,51,52,51,53,51,54,51,55,51,56,51,57,52,48,52,49,52,50,52,51,52,52,52,53,52,54,52,55,52,56,52,57,53,48,53,49,53,50,53,51,53,52,53,53,53,54,53,55,53,56,53,57,54,48,54,49,54,50,54,51,54,52,54,53,54,54,54,55,54,56,54,57,55,48,55,49,55,50,55,51,55,52,55,53,55,54,55,55,55,56,55,57,56,48,56,49,56,50,56,51,56,52,56,53,56,54,56,55,56,56,56,57,57,48,57,49,57,50,57,51,57,52,57,53,57,54,57,55,57,56,57,57]⟩)) (.t 130)),m 132 14,o 133 (.ix (.k (.string ⟨#[48,48,48,49,48,50,48,51,48,52,48,53,48,54,48,55,48,56,48,57,49,48,49,49,49,50,49,51,49,52,49,53,49,54,49,55,49,56,49,57,50,48,50,49,50,50,50,51,50,52,50,53,50,54,50,55,50,56,50,57,51,48,51,49,51,50,51,51,51,52,51,53,51,54,51,55,51,56,51,57,52,48,52,49,52,50,52,51,52,52,52,53,52,54,52,55,52,56,52,57,53,48,53,49,53,50,53,51,53,52,53,53,53,54,53,55,53,56,53,57,54,48,54,49,54,50,54,51,54,52,54,53,54,54,54,55,54,56,54,57,55,48,55,49,55,50,55,51,55,52,55,53,55,54,55,55,55,56,55,57,56,48,56,49,56,50,56,51,56,52,56,53,56,54,56,55,56,56,56,57,57,48,57,49,57,50,57,51,57,52,57,53,57,54,57,55,57,56,57,57]⟩)) (.t 132)),j 1 134 123 125,s (.st 1 (.t 134) (.t 131)),j 1 135 126 128,s (.st 1 (.t 135) (.t 133))] []) (.bG [m 136 4,h .sub 137 136 4,m 4 137])))))) .skip)) (q (r [m 138 4,h .geq 139 138 2] (d 139 (r [m 140 12,o 141 (.bin .rem (.t 140) (.k (.int .u32 100))),o 142 (.bin .mul (.t 141) (.k (.int .u32 2))),m 16 142] (r [m 143 12,o 144 (.bin .quo (.t 143) (.k (.int .u32 100))),m 12 144] (q (.bQ [m 145 0,m 146 4,h .sub 147 146 1,m 148 0,m 149 4,h .sub 150 149 2,m 151 16,o 152 (.bin .add (.t 151) (.k (.int .u32 1))),o 153 (.ix (.k (.string ⟨#[48,48,48,49,48,50,48,51,48,52,48,53,48,54,48,55,48,56,48,57,49,48,49,49,49,50,49,51,49,52,49,53,49,54,49,55,49,56,49,57,50,48,50,49,50,50,50,51,50,52,50,53,50,54,50,55,50,56,50,57,51,48,51,49,51,50,51,51,51,52,51,53,51,54,51,55,51,56,51,57,52,48,52,49,52,50,52,51,52,52,52,53,52,54,52,55,52,56,52,57,53,48,53,49,53,50,53,51,53,52,53,53,53,54,53,55,53,56,53,57,54,48,54,49,54,50,54,51,54,52,54,53,54,54,54,55,54,56,54,57,55,48,55,49,55,50,55,51,55,52,55,53,55,54,55,55,55,56,55,57,56,48,56,49,56,50,56,51,56,52,56,53,56,54,56,55,56,56,56,57,57,48,57,49,57,50,57,51,57,52,57,53,57,54,57,55,57,56,57,57]⟩)) (.t 152)),m 154 16,o 155 (.ix (.k (.string ⟨#[48,48,48,49,48,50,48,51,48,52,48,53,48,54,48,55,48,56,48,57,49,48,49,49,49,50,49,51,49,52,49,53,49,54,49,55,49,56,49,57,50,48,50,49,50,50,50,51,50,52,50,53,50,54,50,55,50,56,50,57,51,48,51,49,51,50,51,51,51,52,51,53,51,54,51,55,51,56,51,57,52,48,52,49,52,50,52,51,52,52,52,53,52,54,52,55,52,56,52,57,53,48,53,49,53,50,53,51,53,52,53,53,53,54,53,55,53,56,53,57,54,48,54,49,54,50,54,51,54,52,54,53,54,54,54,55,54,56,54,57,55,48,55,49,55,50,55,51,55,52,55,53,55,54,55,55,55,56,55,57,56,48,56,49,56,50,56,51,56,52,56,53,56,54,56,55,56,56,56,57,57,48,57,49,57,50,57,51,57,52,57,53,57,54,57,55,57,56,57,57]⟩)) (.t 154)),j 1 156 145 147,s (.st 1 (.t 156) (.t 153)),j 1 157 148 150,s (.st 1 (.t 157) (.t 155))] []) (.bG [m 158 4,h .sub 159 158 2,m 4 159])))) .skip)) (r [m 160 4,h .gtr 161 160 0] (d 161 (.bG [m 162 0,m 163 12,o 164 (.bin .add (.k (.int .u32 48)) (.t 163)),o 165 (.mF .u8 (.t 164)),o 166 (.ia 1 (.t 162) (i 0)),s (.st 1 (.t 166) (.t 165))]) .skip))))))⟩
theorem ac2:ak Tryz.prog Tryz.f162=some a162:=by kernel_rfl
def U4:AF:=⟨5,102,[.tmp 10,.tmp 11],r [o 10 (.mv (.k (.slice none 0 0))),o 11 (.mv (.k (.string ⟨#[]⟩)))] (q (r [m 19 2,h .lss 20 19 2,m 21 20,N 21 22 2,og 21 false 23 (.bin .eql (.t 22) (i 10)),P 24 21 23,m 25 24,N 25 26 2,og 25 false 27 (.bin .gtr (.t 26) (i 36)),P 28 25 27] (d 28 (.bG [o 29 (.OU 9 (.k (.string ⟨#[115,116,114,99,111,110,118,58,32,105,108,108,101,103,97,108,32,65,112,112,101,110,100,73,110,116,47,70,111,114,109,97,116,73,110,116,32,98,97,115,101]⟩))),s (.xt .bad [])]) .skip)) (r [o 12 (.alloc [.int .u8 0,.int .u8 0,.int .u8 0,.int .u8 0,.int .u8 0,.int .u8 0,.int .u8 0,.int .u8 0,.int .u8 0,.int .u8 0,.int .u8 0,.int .u8 0,.int .u8 0,.int .u8 0,.int .u8 0,.int .u8 0,.int .u8 0,.int .u8 0,.int .u8 0,.int .u8 0,.int .u8 0,.int .u8 0,.int .u8 0,.int .u8 0,.int .u8 0,.int .u8 0,.int .u8 0,.int .u8 0,.int .u8 0,.int .u8 0,.int .u8 0,.int .u8 0,.int .u8 0,.int .u8 0,.int .u8 0,.int .u8 0,.int .u8 0,.int .u8 0,.int .u8 0,.int .u8 0,.int .u8 0,.int .u8 0,.int .u8 0,.int .u8 0,.int .u8 0,.int .u8 0,.int .u8 0,.int .u8 0,.int .u8 0,.int .u8 0,.int .u8 0,.int .u8 0,.int .u8 0,.int .u8 0,.int .u8 0,.int .u8 0,.int .u8 0,.int .u8 0,.int .u8 0,.int .u8 0,.int .u8 0,.int .u8 0,.int .u8 0,.int .u8 0,.int .u8 0])] (r [o 13 (.mv (i 65))] (q (r [m 30 3] (d 30 (.bG [m 31 1,o 32 (.un .neg (.t 31)),m 1 32]) .skip)) (q (r [m 33 2,c 34 172 [.t 33]] (d 34 (r [m 35 2,o 36 (.mF .u64 (.t 35)),c 37 173 [.t 36],o 38 (.mF .u64 (.t 37)),m 14 38] (r [m 39 2,o 40 (.mF .u64 (.t 39)),m 15 40] (r [m 41 2,o 42 (.mF .u64 (.t 41)),o 43 (.bin .sub (.t 42) (.k (.int .u64 1))),m 16 43] (q (.block 0 (.loop (q (r [m 44 1,m 45 15,b .geq 46 44 45] (d 46 .skip (.exit 0))) (.block 1 (r [m 47 13,h .sub 48 47 1,m 13 48] (r [m 49 13,m 50 1,m 51 16,b .and 52 50 51,o 53 (.ix (.k (.string ⟨#[48,49,50,51,52,53,54,55,56,57,97,98,99,100,101,102,103,104,105,106,107,108,109,110,111,112,113,114,115,116,117,118,119,120,121,122]⟩)) (.t 52)),o 54 (.pY 65 1 (.t 12) (.t 49)),s (.st 1 (.t 54) (.t 53))] (.bG [m 55 1,m 56 14,b .shr 57 55 56,m 1 57]))))))) (r [m 58 13,h .sub 59 58 1,m 13 59] (.bG [m 60 13,m 61 1,o 62 (.ix (.k (.string ⟨#[48,49,50,51,52,53,54,55,56,57,97,98,99,100,101,102,103,104,105,106,107,108,109,110,111,112,113,114,115,116,117,118,119,120,121,122]⟩)) (.t 61)),o 63 (.pY 65 1 (.t 12) (.t 60)),s (.st 1 (.t 63) (.t 62))])))))) (r [m 64 2,o 65 (.mF .u64 (.t 64)),m 17 65] (q (.block 2 (.loop (q (r [m 66 1,m 67 17,b .geq 68 66 67] (d 68 .skip (.exit 2))) (.block 3 (r [m 69 13,h .sub 70 69 1,m 13 70] (r [m 71 1,m 72 17,b .quo 73 71 72,m 18 73] (r [m 74 13,m 75 1,m 76 18,m 77 17,b .mul 78 76 77,b .sub 79 75 78,o 80 (.ix (.k (.string ⟨#[48,49,50,51,52,53,54,55,56,57,97,98,99,100,101,102,103,104,105,106,107,108,109,110,111,112,113,114,115,116,117,118,119,120,121,122]⟩)) (.t 79)),o 81 (.pY 65 1 (.t 12) (.t 74)),s (.st 1 (.t 81) (.t 80))] (.bG [m 82 18,m 1 82])))))))) (r [m 83 13,h .sub 84 83 1,m 13 84] (.bG [m 85 13,m 86 1,o 87 (.ix (.k (.string ⟨#[48,49,50,51,52,53,54,55,56,57,97,98,99,100,101,102,103,104,105,106,107,108,109,110,111,112,113,114,115,116,117,118,119,120,121,122]⟩)) (.t 86)),o 88 (.pY 65 1 (.t 12) (.t 85)),s (.st 1 (.t 88) (.t 87))])))))) (q (r [m 89 3] (d 89 (r [m 90 13,h .sub 91 90 1,m 13 91] (.bG [m 92 13,o 93 (.pY 65 1 (.t 12) (.t 92)),s (.st 1 (.t 93) (.k (.int .u8 45)))])) .skip)) (q (r [m 94 4] (d 94 (r [m 95 0,m 96 13,o 97 (.xt .bad []),o 98 (.xt .bad []),m 10 98] .ret) .skip)) (r [m 99 13,o 100 (.xt .bad []),o 101 (.xt .bad []),m 11 101] .ret))))))))⟩
theorem ac3:ak Tryz.prog Tryz.f163=some U4:=by kernel_rfl
def w9:AF:=⟨4,89,[.tmp 8],r [B 4 0,B 5 1,o 8 (.mv F)] (r [m 11 3,o 12 (.aW (.t 11)),v 13 12,h .sub 14 13 1,o 15 (.aW (.t 11)),s (.st 1 (.t 15) (.t 14))] (q (q (.bQ [m 16 3,o 17 (.aW (.t 16)),v 18 17,h .lss 19 18 0,m 20 19,N 20 21 2,og 20 false 22 (.bin .gtr (.t 21) (i 16)),P 23 20 22,m 24 23,og 24 false 25 (.ldn 3 (.t 4)),og 24 false 26 (.ldn 4 (.t 5)),og 24 false 28 (.fa 3 (.t 5)),og 24 false 29 (.ld (.t 28)),og 24 false 30 (.ey (.t 29)),og 24 false 27 (.call 174 [.t 25,.t 26]),og 24 false 31 (.bin .neq (.t 27) (.t 30)),P 32 24 31] [(0,(12,14))]) (d 32 (r [o 8 (.mv F)] .ret) .skip)) (q (r [f 0 33 5,v 34 33] (.block 0 (r [h .eql 44 34 0,m 43 44] (d 43 (r [f 1 45 5,v 46 45,h .lss 47 46 0,m 48 47,og 48 false 49 (.fa 1 (.t 5)),og 48 false 50 (.ld (.t 49)),og 48 false 51 (.fa 0 (.t 4)),og 48 false 52 (.ld (.t 51)),og 48 false 53 (.mF .u64 (.t 52)),og 48 false 54 (.bin .shl (i 1) (.t 53)),og 48 false 55 (.bin .geq (.t 50) (.t 54)),P 56 48 55,m 57 56,og 57 false 58 (.fa 2 (.t 5)),og 57 false 59 (.ld (.t 58)),og 57 false 60 (.bin .neq (.t 59) (i 0)),P 61 57 60] (d 61 (r [o 8 (.mv F)] .ret) .skip)) (r [h .eql 63 34 1,m 62 63] (d 62 (r [f 2 64 5,v 65 64,h .lss 66 65 0,m 67 66,og 67 false 68 (.fa 2 (.t 5)),og 67 false 69 (.ld (.t 68)),og 67 false 70 (.fa 2 (.t 4)),og 67 false 71 (.ld (.t 70)),og 67 false 72 (.bin .geq (.t 69) (.t 71)),P 73 67 72] (d 73 (r [o 8 (.mv F)] .ret) .skip)) (r [f 1 35 5,v 36 35,h .neq 37 36 0,m 38 37,og 38 false 39 (.fa 2 (.t 5)),og 38 false 40 (.ld (.t 39)),og 38 false 41 (.bin .neq (.t 40) (i 0)),P 42 38 41] (d 42 (r [o 8 (.mv F)] .ret) .skip)))))))) (q (r [f 3 74 5,v 75 74,L 76 75,o 77 (.mv (i 0))] (.block 1 (.loop (r [b .lss 78 77 76] (q (d 78 .skip (.exit 1)) (q (.block 2 (r [j 4 79 75 77,n 4 80 79,o 10 (.alloc [z,z,z,y]),s (.st 4 (.t 10) (.t 80))] (r [n 3 81 4,n 4 82 10,m 83 2,h .add 84 83 1,m 85 3,c 86 166 [.t 81,.t 82,.t 84,.t 85],U 87 86] (d 87 (r [o 8 (.mv F)] .ret) .skip)))) (.bG [h .add 88 77 1,m 77 88]))))))) (r [o 8 (.mv W)] .ret)))))⟩
theorem ac4:ak Tryz.prog Tryz.f166=some w9:=by kernel_rfl
def a167:AF:=⟨1,12,[.tmp 2],r [o 2 (.mv (i 0))] (q (r [m 3 0] (.block 0 (r [h .eql 5 3 0,m 4 5] (d 4 (r [o 2 (.mv (i 0))] .ret) (r [h .eql 7 3 12,m 6 7] (d 6 (r [o 2 (.mv (i 1))] .ret) (r [h .eql 9 3 15,m 8 9] (d 8 (r [o 2 (.mv (i 3))] .ret) .skip)))))))) (q (r [m 10 0,c 11 175 [.t 10]] (d 11 (r [o 2 (.mv (i 2))] .ret) .skip)) (r [o 2 (.mv (i (-1)))] .ret)))⟩
theorem ac5:ak Tryz.prog Tryz.f167=some a167:=by kernel_rfl
def a168:AF:=⟨4,106,[.tmp 8],r [B 4 0,B 6 2,o 8 (.mv (i 0))] (r [o 9 (.alloc [z,z,z])] (q (r [f 3 17 6,v 18 17,L 19 18,o 20 (.mv (i 0))] (.block 0 (.loop (r [b .lss 21 20 19] (q (d 21 .skip (.exit 0)) (q (.block 1 (r [m 22 20,j 4 23 18 20,n 4 24 23,o 11 (.alloc [z,z,z,y]),m 10 22,s (.st 4 (.t 11) (.t 24))] (.bG [m 25 10,n 3 26 4,m 27 1,n 4 28 11,m 29 3,c 30 168 [.t 26,.t 27,.t 28,.t 29],o 31 (.pY 3 1 (.t 9) (.t 25)),s (.st 1 (.t 31) (.t 30))]))) (.bG [h .add 32 20 1,m 20 32]))))))) (q (r [f 0 33 6,v 34 33] (.block 2 (r [h .eql 36 34 0,m 35 36] (d 35 (r [f 1 37 6,v 38 37,m 8 38] .ret) (r [h .eql 40 34 1,m 39 40] (d 39 (r [o 12 (.mv (i 0))] (q (r [f 3 41 6,v 42 41,L 43 42,h .gtr 44 43 0] (d 44 (q (.bQ [o 45 (.pY 3 1 (.t 9) (i 0)),v 46 45,f 1 47 4,v 48 47,f 1 49 6,v 50 49,j 3 51 48 50,f 2 52 51,v 53 52,b .rem 54 46 53,m 12 54] []) (.bG [m 55 3,f 1 56 6,v 57 56,m 58 12,o 59 (.callv (.t 55) [.t 57,.t 58])])) .skip)) (q (.bQ [m 60 1,f 2 61 6,v 62 61,j 1 63 60 62,v 64 63,n 3 65 4,f 1 66 6,v 67 66,m 69 12,c 68 176 [.t 65,.t 67],b .add 70 68 69,j 1 71 64 70,v 72 71,m 8 72] [(0,(2,9)),(0,(4,9))]) .ret))) (r [h .eql 74 34 12,m 73 74] (d 73 (r [f 0 76 4,v 77 76,o 78 (.pY 3 1 (.t 9) (i 0)),v 79 78,c 80 177 [.t 77,.t 79],m 75 80,e 81 75 0,e 82 75 1,m 13 81,m 14 82] (r [m 83 13,m 8 83] .ret)) (r [h .eql 85 34 15,m 84 85] (d 84 (q (r [o 86 (.pY 3 1 (.t 9) (i 0)),v 87 86,h .neq 88 87 0] (d 88 (r [o 89 (.pY 3 1 (.t 9) (i 1)),v 90 89,m 8 90] .ret) .skip)) (r [o 91 (.pY 3 1 (.t 9) (i 2)),v 92 91,m 8 92] .ret)) .skip)))))))))) (r [f 0 94 6,v 95 94,f 0 96 4,v 97 96,o 98 (.pY 3 1 (.t 9) (i 0)),v 99 98,o 100 (.pY 3 1 (.t 9) (i 1)),v 101 100,c 102 178 [.t 95,.t 97,.t 99,.t 101],m 93 102,e 103 93 0,e 104 93 1,m 15 103,m 16 104] (r [m 105 15,m 8 105] .ret)))))⟩
theorem ac6:ak Tryz.prog Tryz.f168=some a168:=by kernel_rfl
def U5:AF:=⟨1,6,[.tmp 2],r [o 2 (.mv (i 0))] (r [m 3 0,h .mul 4 3 78913,o 5 (.bin .shr (.t 4) (.k (.int .u64 18))),m 2 5] .ret)⟩
theorem ac7:ak Tryz.prog Tryz.f169=some U5:=by kernel_rfl
def U6:AF:=⟨1,25,[.tmp 2],r [o 2 (.mv (i 0))] (q (r [m 3 0,o 4 (.bin .geq (.t 3) (.k (.int .u64 4294967296)))] (d 4 (r [m 5 0,o 6 (.bin .shr (.t 5) (.k (.int .u64 32))),m 0 6] (.bG [o 2 (.mv (i 32))])) .skip)) (q (r [m 7 0,o 8 (.bin .geq (.t 7) (.k (.int .u64 65536)))] (d 8 (r [m 9 0,o 10 (.bin .shr (.t 9) (.k (.int .u64 16))),m 0 10] (.bG [m 11 2,h .add 12 11 16,m 2 12])) .skip)) (q (r [m 13 0,o 14 (.bin .geq (.t 13) (.k (.int .u64 256)))] (d 14 (r [m 15 0,o 16 (.bin .shr (.t 15) (.k (.int .u64 8))),m 0 16] (.bG [m 17 2,h .add 18 17 8,m 2 18])) .skip)) (r [m 19 2,m 20 0,o 21 (.mF .u8 (.t 20)),o 22 (.ix (.k (.string ⟨#[0,1,2,2,3,3,3,3,4,4,4,4,4,4,4,4,5,5,5,5,5,5,5,5,5,5,5,5,5,5,5,5,6,6,6,6,6,6,6,6,6,6,6,6,6,6,6,6,6,6,6,6,6,6,6,6,6,6,6,6,6,6,6,6,7,7,7,7,7,7,7,7,7,7,7,7,7,7,7,7,7,7,7,7,7,7,7,7,7,7,7,7,7,7,7,7,7,7,7,7,7,7,7,7,7,7,7,7,7,7,7,7,7,7,7,7,7,7,7,7,7,7,7,7,7,7,7,7,8,8,8,8,8,8,8,8,8,8,8,8,8,8,8,8,8,8,8,8,8,8,8,8,8,8,8,8,8,8,8,8,8,8,8,8,8,8,8,8,8,8,8,8,8,8,8,8,8,8,8,8,8,8,8,8,8,8,8,8,8,8,8,8,8,8,8,8,8,8,8,8,8,8,8,8,8,8,8,8,8,8,8,8,8,8,8,8,8,8,8,8,8,8,8,8,8,8,8,8,8,8,8,8,8,8,8,8,8,8,8,8,8,8,8,8,8,8,8,8,8,8,8,8,8,8,8,8]⟩)) (.t 21)),o 23 (.mF .i64 (.t 22)),b .add 24 19 23,m 2 24] .ret))))⟩
theorem ac8:ak Tryz.prog Tryz.f170=some U6:=by kernel_rfl
def a171:AF:=⟨1,4,[.tmp 2],r [o 2 (.mv (i 0))] (q (r [m 3 0] (d 3 (r [o 2 (.mv (i 1))] .ret) .skip)) (r [o 2 (.mv (i 0))] .ret))⟩
theorem ac9:ak Tryz.prog Tryz.f171=some a171:=by kernel_rfl
def U7:AF:=⟨1,8,[.tmp 2],r [o 2 (.mv F)] (r [m 3 0,m 4 0,h .sub 5 4 1,b .and 6 3 5,h .eql 7 6 0,m 2 7] .ret)⟩
theorem ada:ak Tryz.prog Tryz.f172=some U7:=by kernel_rfl
def a173:AF:=⟨1,8,[.tmp 2],r [o 2 (.mv (i 0))] (q (.cond F (r [m 3 0,o 4 (.mF .u32 (.t 3)),c 5 179 [.t 4],m 2 5] .ret) .skip) (r [m 6 0,c 7 180 [.t 6],m 2 7] .ret))⟩
theorem adb:ak Tryz.prog Tryz.f173=some a173:=by kernel_rfl
def Dk:AF:=⟨2,57,[.tmp 4],r [B 2 0,B 3 1,o 4 (.mv (i 0))] (q (.block 0 (r [f 0 6 3,v 7 6,h .eql 8 7 0,m 5 8] (d 5 (r [o 4 (.mv (i 0))] .ret) (r [f 0 10 3,v 11 10,h .eql 12 11 1,m 13 12,og 13 true 14 (.fa 1 (.t 3)),og 13 true 15 (.ld (.t 14)),og 13 true 16 (.bin .geq (.t 15) (i 0)),p 17 13 16,m 18 17,og 18 true 19 (.fa 1 (.t 3)),og 18 true 20 (.ld (.t 19)),og 18 true 21 (.fa 1 (.t 2)),og 18 true 22 (.ld (.t 21)),og 18 true 23 (.ey (.t 22)),og 18 true 24 (.bin .lss (.t 20) (.t 23)),p 25 18 24,m 9 25] (d 9 (q (r [f 1 26 2,v 27 26,f 1 28 3,v 29 28,j 3 30 27 29,f 2 31 30,v 32 31,h .gtr 33 32 1] (d 33 (r [o 4 (.mv (i 1))] .ret) .skip)) (r [o 4 (.mv (i 0))] .ret)) (q (r [f 0 35 3,v 36 35,h .geq 37 36 2,m 38 37,og 38 true 39 (.fa 0 (.t 3)),og 38 true 40 (.ld (.t 39)),og 38 true 41 (.bin .leq (.t 40) (i 11)),p 42 38 41,m 34 42] (d 34 .skip (r [f 0 43 3,v 44 43,h .eql 45 44 13,m 34 45] (d 34 .skip (.bG [f 0 46 3,v 47 46,h .eql 48 47 14,m 34 48]))))) (d 34 (r [o 4 (.mv (i 2))] .ret) (r [f 0 50 3,v 51 50,h .eql 52 51 12,m 49 52] (d 49 (r [o 4 (.mv (i 1))] .ret) (r [f 0 54 3,v 55 54,h .eql 56 55 15,m 53 56] (d 53 (r [o 4 (.mv (i 3))] .ret) .skip))))))))))) (r [o 4 (.mv (i (-1)))] .ret))⟩
theorem ade:ak Tryz.prog Tryz.f174=some Dk:=by kernel_rfl
def a175:AF:=⟨1,17,[.tmp 2],r [o 2 (.mv F)] (r [m 3 0,h .geq 4 3 2,m 5 4,M 5 6 0,og 5 true 7 (.bin .leq (.t 6) (i 11)),p 8 5 7,m 9 8,N 9 10 0,og 9 false 11 (.bin .eql (.t 10) (i 13)),P 12 9 11,m 13 12,N 13 14 0,og 13 false 15 (.bin .eql (.t 14) (i 14)),P 16 13 15,m 2 16] .ret)⟩
theorem adf:ak Tryz.prog Tryz.f175=some a175:=by kernel_rfl
def Ks:AF:=⟨2,23,[.tmp 4],r [B 2 0,o 4 (.mv (i 0))] (r [o 5 (.mv (i 0))] (q (r [f 1 8 2,v 9 8,m 10 1,o 11 (.sl 3 (.t 9) none (some (.t 10)) none),L 12 11,o 13 (.mv (i 0))] (.block 0 (.loop (r [b .lss 14 13 12] (q (d 14 .skip (.exit 0)) (q (.block 1 (q (.bG [j 3 15 11 13,n 3 16 15,o 7 (.alloc [.string ⟨#[]⟩,z,z]),s (.st 3 (.t 7) (.t 16))]) (.bG [m 17 5,f 2 18 7,v 19 18,b .add 20 17 19,m 5 20]))) (.bG [h .add 21 13 1,m 13 21]))))))) (r [m 22 5,m 4 22] .ret)))⟩
theorem adg:ak Tryz.prog Tryz.f176=some Ks:=by kernel_rfl
def Kt:AF:=⟨2,15,[.tmp 4,.tmp 5],r [o 4 (.mv (i 0)),o 5 (.mv (i 0))] (q (r [m 6 0,m 7 1,o 8 (.bsl 1 1 [z] [(0,(1,.t 7))]),c 9 181 [.t 6,.t 8],U 10 9] (d 10 (r [o 4 (.mv (i 0)),o 5 (.mv (i 1))] .ret) .skip)) (r [m 11 0,c 12 182 [.t 11],m 13 1,b .andNot 14 12 13,m 4 14,o 5 (.mv (i 0))] .ret))⟩
theorem adh:ak Tryz.prog Tryz.f177=some Kt:=by kernel_rfl
def Ku:AF:=⟨4,29,[.tmp 8,.tmp 9],r [o 8 (.mv (i 0)),o 9 (.mv (i 0))] (q (r [m 11 1,m 12 2,m 13 3,o 14 (.bsl 2 1 [z,z] [(0,(1,.t 12)),(1,(1,.t 13))]),c 15 181 [.t 11,.t 14],U 16 15] (d 16 (r [o 8 (.mv (i 0)),o 9 (.mv (i 1))] .ret) .skip)) (r [m 17 0,c 18 183 [.t 17],m 10 18] (q (r [m 19 10,o 20 (.eqk 3 false (.t 19) (.k .nilFunc))] (d 20 (r [o 8 (.mv (i 0)),o 9 (.mv (i 1))] .ret) .skip)) (r [m 21 10,m 22 1,m 23 2,m 24 3,o 25 (.callv (.t 21) [.t 22,.t 23,.t 24]),m 26 1,c 27 182 [.t 26],b .and 28 25 27,m 8 28,o 9 (.mv (i 0))] .ret))))⟩
theorem adi:ak Tryz.prog Tryz.f178=some Ku:=by kernel_rfl
def U8:AF:=⟨1,14,[.tmp 2],r [o 2 (.mv (i 0))] (q (r [m 3 0,o 4 (.bin .eql (.t 3) (.k (.int .u32 0)))] (d 4 (r [o 2 (.mv (i 32))] .ret) .skip)) (r [m 5 0,m 6 0,o 7 (.un .neg (.t 6)),b .and 8 5 7,o 9 (.bin .mul (.t 8) (.k (.int .u32 125613361))),o 10 (.bin .shr (.t 9) (.k (.int .u64 27))),o 11 (.xt .bad []),v 12 11,o 13 (.mF .i64 (.t 12)),m 2 13] .ret))⟩
theorem adj:ak Tryz.prog Tryz.f179=some U8:=by kernel_rfl
def U9:AF:=⟨1,14,[.tmp 2],r [o 2 (.mv (i 0))] (q (r [m 3 0,o 4 (.bin .eql (.t 3) (.k (.int .u64 0)))] (d 4 (r [o 2 (.mv (i 64))] .ret) .skip)) (r [m 5 0,m 6 0,o 7 (.un .neg (.t 6)),b .and 8 5 7,o 9 (.bin .mul (.t 8) (.k (.int .u64 285870213051353865))),o 10 (.bin .shr (.t 9) (.k (.int .u64 58))),o 11 (.xt .bad []),v 12 11,o 13 (.mF .i64 (.t 12)),m 2 13] .ret))⟩
theorem adk:ak Tryz.prog Tryz.f180=some U9:=by kernel_rfl
def Dl:AF:=⟨2,28,[.tmp 4],r [o 4 (.mv F)] (q (r [m 7 0,h .lss 8 7 1,m 9 8,N 9 10 0,og 9 false 11 (.bin .gtr (.t 10) (i 8)),P 12 9 11] (d 12 (r [o 4 (.mv F)] .ret) .skip)) (q (r [m 13 1,L 14 13,o 15 (.mv (i 0))] (.block 0 (.loop (r [b .lss 16 15 14] (q (d 16 .skip (.exit 0)) (q (.block 1 (r [j 1 17 13 15,v 18 17,m 6 18] (r [m 19 6,h .lss 20 19 0,m 21 20,N 21 22 6,N 21 23 0,og 21 false 24 (.call 182 [.t 23]),og 21 false 25 (.bin .gtr (.t 22) (.t 24)),P 26 21 25] (d 26 (r [o 4 (.mv F)] .ret) .skip)))) (.bG [h .add 27 15 1,m 15 27]))))))) (r [o 4 (.mv W)] .ret)))⟩
theorem adl:ak Tryz.prog Tryz.f181=some Dl:=by kernel_rfl
def a182:AF:=⟨1,7,[.tmp 2],r [o 2 (.mv (i 0))] (r [m 3 0,o 4 (.mF .u64 (.t 3)),o 5 (.bin .shl (i 1) (.t 4)),h .sub 6 5 1,m 2 6] .ret)⟩
theorem ado:ak Tryz.prog Tryz.f182=some a182:=by kernel_rfl
def a183:AF:=⟨1,7,[.tmp 2],r [o 2 (.mv (.k .nilFunc))] (r [o 3 .mkmap,s (.mU 0 (.t 3) (i 2) (.f 184)),s (.mU 0 (.t 3) (i 3) (.f 185)),s (.mU 0 (.t 3) (i 4) (.f 186)),s (.mU 0 (.t 3) (i 5) (.f 187)),s (.mU 0 (.t 3) (i 6) (.f 188)),s (.mU 0 (.t 3) (i 7) (.f 189)),s (.mU 0 (.t 3) (i 8) (.f 190)),s (.mU 0 (.t 3) (i 9) (.f 191)),s (.mU 0 (.t 3) (i 10) (.f 192)),s (.mU 0 (.t 3) (i 11) (.f 194)),s (.mU 0 (.t 3) (i 13) (.f 195)),s (.mU 0 (.t 3) (i 14) (.f 197)),m 4 3,m 5 0,o 6 (.look 0 .nilFunc (.t 4) (.t 5) false),m 2 6] .ret)⟩
theorem adp:ak Tryz.prog Tryz.f183=some a183:=by kernel_rfl
def Kv:AF:=⟨3,10,[.tmp 6],r [o 6 (.mv (i 0))] (r [m 7 1,m 8 2,b .add 9 7 8,m 6 9] .ret)⟩
theorem adq:ak Tryz.prog Tryz.f184=some Kv:=by kernel_rfl
def Kw:AF:=⟨3,10,[.tmp 6],r [o 6 (.mv (i 0))] (r [m 7 1,m 8 2,b .sub 9 7 8,m 6 9] .ret)⟩
theorem adr:ak Tryz.prog Tryz.f185=some Kw:=by kernel_rfl
def Kx:AF:=⟨3,10,[.tmp 6],r [o 6 (.mv (i 0))] (r [m 7 1,m 8 2,b .mul 9 7 8,m 6 9] .ret)⟩
theorem ads:ak Tryz.prog Tryz.f186=some Kx:=by kernel_rfl
def F6:AF:=⟨3,14,[.tmp 6],r [o 6 (.mv (i 0))] (q (r [m 7 2,h .eql 8 7 0] (d 8 (r [m 9 0,c 10 182 [.t 9],m 6 10] .ret) .skip)) (r [m 11 1,m 12 2,b .quo 13 11 12,m 6 13] .ret))⟩
theorem adt:ak Tryz.prog Tryz.f187=some F6:=by kernel_rfl
def F7:AF:=⟨3,13,[.tmp 6],r [o 6 (.mv (i 0))] (q (r [m 7 2,h .eql 8 7 0] (d 8 (r [m 9 1,m 6 9] .ret) .skip)) (r [m 10 1,m 11 2,b .rem 12 10 11,m 6 12] .ret))⟩
theorem adu:ak Tryz.prog Tryz.f188=some F7:=by kernel_rfl
def Ky:AF:=⟨3,10,[.tmp 6],r [o 6 (.mv (i 0))] (r [m 7 1,m 8 2,b .and 9 7 8,m 6 9] .ret)⟩
theorem adv:ak Tryz.prog Tryz.f189=some Ky:=by kernel_rfl
def Kz:AF:=⟨3,10,[.tmp 6],r [o 6 (.mv (i 0))] (r [m 7 1,m 8 2,b .or 9 7 8,m 6 9] .ret)⟩
theorem adw:ak Tryz.prog Tryz.f190=some Kz:=by kernel_rfl
def KA:AF:=⟨3,10,[.tmp 6],r [o 6 (.mv (i 0))] (r [m 7 1,m 8 2,b .xor 9 7 8,m 6 9] .ret)⟩
theorem adx:ak Tryz.prog Tryz.f191=some KA:=by kernel_rfl
def KB:AF:=⟨3,11,[.tmp 6],r [o 6 (.mv (i 0))] (r [m 7 0,m 8 1,m 9 2,c 10 193 [.t 7,.t 8,.t 9,W],m 6 10] .ret)⟩
theorem ady:ak Tryz.prog Tryz.f192=some KB:=by kernel_rfl
def a193:AF:=⟨4,23,[.tmp 8],r [o 8 (.mv (i 0))] (q (.block 0 (r [m 10 2,m 11 0,b .geq 12 10 11,m 9 12] (d 9 (r [o 8 (.mv (i 0))] .ret) (r [m 14 3,m 13 14] (d 13 (r [m 15 1,m 16 2,o 17 (.mF .u64 (.t 16)),b .shl 18 15 17,m 8 18] .ret) .skip))))) (r [m 19 1,m 20 2,o 21 (.mF .u64 (.t 20)),b .shr 22 19 21,m 8 22] .ret))⟩
theorem adz:ak Tryz.prog Tryz.f193=some a193:=by kernel_rfl
def a194:AF:=⟨3,11,[.tmp 6],r [o 6 (.mv (i 0))] (r [m 7 0,m 8 1,m 9 2,c 10 193 [.t 7,.t 8,.t 9,F],m 6 10] .ret)⟩
theorem adA:ak Tryz.prog Tryz.f194=some a194:=by kernel_rfl
def KC:AF:=⟨3,11,[.tmp 6],r [o 6 (.mv (i 0))] (r [m 7 1,m 8 2,b .eql 9 7 8,c 10 196 [.t 9],m 6 10] .ret)⟩
theorem adB:ak Tryz.prog Tryz.f195=some KC:=by kernel_rfl
def a196:AF:=⟨1,4,[.tmp 2],r [o 2 (.mv (i 0))] (q (r [m 3 0] (d 3 (r [o 2 (.mv (i 1))] .ret) .skip)) (r [o 2 (.mv (i 0))] .ret))⟩
theorem adC:ak Tryz.prog Tryz.f196=some a196:=by kernel_rfl
def KD:AF:=⟨3,11,[.tmp 6],r [o 6 (.mv (i 0))] (r [m 7 1,m 8 2,b .lss 9 7 8,c 10 196 [.t 9],m 6 10] .ret)⟩
theorem adD:ak Tryz.prog Tryz.f197=some KD:=by kernel_rfl
def Et:T (Option AF):=(.node none (.node none (.node none (.node none (.node none (.node none (.node (some P8) .nil (.node (some KA) .nil .nil)) (.node none (.node (some a159) .nil .nil) .nil)) (.node (some Y2) (.node (some UW) (.node (some a143) .nil .nil) .nil) (.node (some Kh) (.node (some a175) .nil .nil) .nil))) (.node none (.node (some YZ) (.node (some Y9) (.node (some F5) .nil .nil) .nil) (.node (some UY) (.node (some a167) .nil .nil) .nil)) (.node none .nil (.node none (.node (some a183) .nil .nil) .nil)))) (.node (some YP) (.node none (.node (some YW) (.node (some Y6) (.node (some a131) .nil .nil) (.node (some KC) .nil .nil)) (.node (some Td) (.node (some U4) .nil .nil) .nil)) (.node (some a51) (.node (some a83) (.node (some U1) .nil .nil) .nil) (.node (some Ki) (.node (some U8) .nil .nil) .nil))) (.node none (.node none (.node none (.node (some a139) .nil .nil) .nil) (.node (some a107) (.node (some a171) .nil .nil) .nil)) (.node none (.node none (.node (some Kq) .nil .nil) .nil) (.node none (.node (some F6) .nil .nil) .nil))))) (.node none (.node (some a9) (.node (some YS) (.node none (.node (some Y4) (.node (some F3) .nil .nil) (.node (some a193) .nil .nil)) (.node (some NM) (.node (some U3) .nil .nil) .nil)) (.node none (.node (some Zd) (.node (some a145) .nil .nil) .nil) (.node (some UZ) (.node (some Kt) .nil .nil) .nil))) (.node none (.node none (.node (some Za) (.node (some Kl) .nil .nil) .nil) (.node (some a105) (.node (some U5) .nil .nil) .nil)) (.node none .nil (.node none (.node (some Kw) .nil .nil) .nil)))) (.node (some YQ) (.node (some a21) (.node (some a37) (.node (some Y8) (.node (some F4) .nil .nil) (.node (some KD) .nil .nil)) (.node (some Dg) .nil .nil)) (.node none (.node (some a85) .nil .nil) (.node (some a117) (.node (some Dl) .nil .nil) .nil))) (.node (some UT) (.node (some Y1) (.node (some Zc) (.node (some a141) .nil .nil) .nil) (.node (some a109) (.node (some a173) .nil .nil) .nil)) (.node none (.node none (.node (some a157) .nil .nil) .nil) (.node none (.node (some Ky) .nil .nil) .nil)))))) (.node none (.node none (.node none (.node (some YR) (.node none (.node (some UU) .nil (.node (some KB) .nil .nil)) (.node (some Zf) (.node (some a160) .nil .nil) .nil)) (.node none (.node none (.node (some Dj) .nil .nil) .nil) (.node (some FZ) (.node (some Ks) .nil .nil) .nil))) (.node none (.node (some a40) (.node (some a72) (.node (some Kk) .nil .nil) .nil) (.node (some Kf) (.node (some a168) .nil .nil) .nil)) (.node none .nil (.node none (.node (some Kv) .nil .nil) .nil)))) (.node (some a12) (.node none (.node (some YX) (.node (some Y7) (.node (some Kj) .nil .nil) (.node (some a196) .nil .nil)) (.node (some Kd) .nil .nil)) (.node none (.node (some a84) (.node (some a148) .nil .nil) .nil) (.node (some a116) (.node (some U9) .nil .nil) .nil))) (.node none (.node (some Y0) (.node (some a76) (.node (some Km) .nil .nil) .nil) (.node (some FY) (.node (some U7) .nil .nil) .nil)) (.node none (.node none (.node (some a156) .nil .nil) .nil) (.node none (.node (some F7) .nil .nil) .nil))))) (.node none (.node (some YO) (.node (some YT) (.node (some YV) (.node (some Y5) (.node (some a130) .nil .nil) (.node (some a194) .nil .nil)) (.node (some UX) (.node (some a162) .nil .nil) .nil)) (.node none (.node (some Ze) (.node (some a146) .nil .nil) .nil) (.node (some U0) (.node (some Ku) .nil .nil) .nil))) (.node none (.node none (.node (some Zb) (.node (some a138) .nil .nil) .nil) (.node (some Dh) (.node (some U6) .nil .nil) .nil)) (.node none (.node none (.node (some a154) .nil .nil) .nil) (.node none (.node (some Kx) .nil .nil) .nil)))) (.node none (.node none (.node (some YY) (.node (some a70) (.node (some nh) .nil .nil) .nil) (.node (some Ke) (.node (some w9) .nil .nil) .nil)) (.node none (.node (some a86) (.node (some U2) .nil .nil) .nil) (.node (some Di) (.node (some a182) .nil .nil) .nil))) (.node (some YU) (.node (some a46) (.node (some Tc) (.node (some Kn) .nil .nil) .nil) (.node (some Kg) (.node (some Dk) .nil .nil) .nil)) (.node (some Y3) (.node none (.node (some Kr) .nil .nil) .nil) (.node none (.node (some Kz) .nil .nil) .nil)))))))
def E:Env:=fun f=>Et.get none f
end Go.Proofs.YtppcmpmnglaleaaGreatDoor.A
namespace Go.Proofs.YtppcmpmnglaleaaGreatDoor.A
open Go
theorem Va:zA Tryz.prog id Et:=(.node (fun F h=>by cases h) (.node (fun F h=>by cases h) (.node (fun F h=>by cases h) (.node (fun F h=>by cases h) (.node (fun F h=>by cases h) (.node (fun F h=>by cases h) (.node (fun F h=>(aqW h)▸⟨_,Tryz.func63,c63⟩) .nil (.node (fun F h=>(aqW h)▸⟨_,Tryz.func191,adx⟩) .nil .nil)) (.node (fun F h=>by cases h) (.node (fun F h=>(aqW h)▸⟨_,Tryz.func159,acZ⟩) .nil .nil) .nil)) (.node (fun F h=>(aqW h)▸⟨_,Tryz.func47,c47⟩) (.node (fun F h=>(aqW h)▸⟨_,Tryz.func79,c79⟩) (.node (fun F h=>(aqW h)▸⟨_,Tryz.func143,acN⟩) .nil .nil) .nil) (.node (fun F h=>(aqW h)▸⟨_,Tryz.func111,acq⟩) (.node (fun F h=>(aqW h)▸⟨_,Tryz.func175,adf⟩) .nil .nil) .nil))) (.node (fun F h=>by cases h) (.node (fun F h=>(aqW h)▸⟨_,Tryz.func39,c39⟩) (.node (fun F h=>(aqW h)▸⟨_,Tryz.func71,c71⟩) (.node (fun F h=>(aqW h)▸⟨_,Tryz.func135,acF⟩) .nil .nil) .nil) (.node (fun F h=>(aqW h)▸⟨_,Tryz.func103,ach⟩) (.node (fun F h=>(aqW h)▸⟨_,Tryz.func167,ac5⟩) .nil .nil) .nil)) (.node (fun F h=>by cases h) .nil (.node (fun F h=>by cases h) (.node (fun F h=>(aqW h)▸⟨_,Tryz.func183,adp⟩) .nil .nil) .nil)))) (.node (fun F h=>(aqW h)▸⟨_,Tryz.func11,c11⟩) (.node (fun F h=>by cases h) (.node (fun F h=>(aqW h)▸⟨_,Tryz.func35,c35⟩) (.node (fun F h=>(aqW h)▸⟨_,Tryz.func67,c67⟩) (.node (fun F h=>(aqW h)▸⟨_,Tryz.func131,acB⟩) .nil .nil) (.node (fun F h=>(aqW h)▸⟨_,Tryz.func195,adB⟩) .nil .nil)) (.node (fun F h=>(aqW h)▸⟨_,Tryz.func99,c99⟩) (.node (fun F h=>(aqW h)▸⟨_,Tryz.func163,ac3⟩) .nil .nil) .nil)) (.node (fun F h=>(aqW h)▸⟨_,Tryz.func51,c51⟩) (.node (fun F h=>(aqW h)▸⟨_,Tryz.func83,c83⟩) (.node (fun F h=>(aqW h)▸⟨_,Tryz.func147,acR⟩) .nil .nil) .nil) (.node (fun F h=>(aqW h)▸⟨_,Tryz.func115,acv⟩) (.node (fun F h=>(aqW h)▸⟨_,Tryz.func179,adj⟩) .nil .nil) .nil))) (.node (fun F h=>by cases h) (.node (fun F h=>by cases h) (.node (fun F h=>by cases h) (.node (fun F h=>(aqW h)▸⟨_,Tryz.func139,acJ⟩) .nil .nil) .nil) (.node (fun F h=>(aqW h)▸⟨_,Tryz.func107,acm⟩) (.node (fun F h=>(aqW h)▸⟨_,Tryz.func171,ac9⟩) .nil .nil) .nil)) (.node (fun F h=>by cases h) (.node (fun F h=>by cases h) (.node (fun F h=>(aqW h)▸⟨_,Tryz.func155,acV⟩) .nil .nil) .nil) (.node (fun F h=>by cases h) (.node (fun F h=>(aqW h)▸⟨_,Tryz.func187,adt⟩) .nil .nil) .nil))))) (.node (fun F h=>by cases h) (.node (fun F h=>(aqW h)▸⟨_,Tryz.func9,c9⟩) (.node (fun F h=>(aqW h)▸⟨_,Tryz.func17,c17⟩) (.node (fun F h=>by cases h) (.node (fun F h=>(aqW h)▸⟨_,Tryz.func65,c65⟩) (.node (fun F h=>(aqW h)▸⟨_,Tryz.func129,acz⟩) .nil .nil) (.node (fun F h=>(aqW h)▸⟨_,Tryz.func193,adz⟩) .nil .nil)) (.node (fun F h=>(aqW h)▸⟨_,Tryz.func97,c97⟩) (.node (fun F h=>(aqW h)▸⟨_,Tryz.func161,ac1⟩) .nil .nil) .nil)) (.node (fun F h=>by cases h) (.node (fun F h=>(aqW h)▸⟨_,Tryz.func81,c81⟩) (.node (fun F h=>(aqW h)▸⟨_,Tryz.func145,acP⟩) .nil .nil) .nil) (.node (fun F h=>(aqW h)▸⟨_,Tryz.func113,acs⟩) (.node (fun F h=>(aqW h)▸⟨_,Tryz.func177,adh⟩) .nil .nil) .nil))) (.node (fun F h=>by cases h) (.node (fun F h=>by cases h) (.node (fun F h=>(aqW h)▸⟨_,Tryz.func73,c73⟩) (.node (fun F h=>(aqW h)▸⟨_,Tryz.func137,acH⟩) .nil .nil) .nil) (.node (fun F h=>(aqW h)▸⟨_,Tryz.func105,acj⟩) (.node (fun F h=>(aqW h)▸⟨_,Tryz.func169,ac7⟩) .nil .nil) .nil)) (.node (fun F h=>by cases h) .nil (.node (fun F h=>by cases h) (.node (fun F h=>(aqW h)▸⟨_,Tryz.func185,adr⟩) .nil .nil) .nil)))) (.node (fun F h=>(aqW h)▸⟨_,Tryz.func13,c13⟩) (.node (fun F h=>(aqW h)▸⟨_,Tryz.func21,c21⟩) (.node (fun F h=>(aqW h)▸⟨_,Tryz.func37,c37⟩) (.node (fun F h=>(aqW h)▸⟨_,Tryz.func69,c69⟩) (.node (fun F h=>(aqW h)▸⟨_,Tryz.func133,acD⟩) .nil .nil) (.node (fun F h=>(aqW h)▸⟨_,Tryz.func197,adD⟩) .nil .nil)) (.node (fun F h=>(aqW h)▸⟨_,Tryz.func101,acf⟩) .nil .nil)) (.node (fun F h=>by cases h) (.node (fun F h=>(aqW h)▸⟨_,Tryz.func85,c85⟩) .nil .nil) (.node (fun F h=>(aqW h)▸⟨_,Tryz.func117,acx⟩) (.node (fun F h=>(aqW h)▸⟨_,Tryz.func181,adl⟩) .nil .nil) .nil))) (.node (fun F h=>(aqW h)▸⟨_,Tryz.func29,c29⟩) (.node (fun F h=>(aqW h)▸⟨_,Tryz.func45,c45⟩) (.node (fun F h=>(aqW h)▸⟨_,Tryz.func77,c77⟩) (.node (fun F h=>(aqW h)▸⟨_,Tryz.func141,acL⟩) .nil .nil) .nil) (.node (fun F h=>(aqW h)▸⟨_,Tryz.func109,aco⟩) (.node (fun F h=>(aqW h)▸⟨_,Tryz.func173,adb⟩) .nil .nil) .nil)) (.node (fun F h=>by cases h) (.node (fun F h=>by cases h) (.node (fun F h=>(aqW h)▸⟨_,Tryz.func157,acX⟩) .nil .nil) .nil) (.node (fun F h=>by cases h) (.node (fun F h=>(aqW h)▸⟨_,Tryz.func189,adv⟩) .nil .nil) .nil)))))) (.node (fun F h=>by cases h) (.node (fun F h=>by cases h) (.node (fun F h=>by cases h) (.node (fun F h=>(aqW h)▸⟨_,Tryz.func16,c16⟩) (.node (fun F h=>by cases h) (.node (fun F h=>(aqW h)▸⟨_,Tryz.func64,c64⟩) .nil (.node (fun F h=>(aqW h)▸⟨_,Tryz.func192,ady⟩) .nil .nil)) (.node (fun F h=>(aqW h)▸⟨_,Tryz.func96,c96⟩) (.node (fun F h=>(aqW h)▸⟨_,Tryz.func160,ac0⟩) .nil .nil) .nil)) (.node (fun F h=>by cases h) (.node (fun F h=>by cases h) (.node (fun F h=>(aqW h)▸⟨_,Tryz.func144,acO⟩) .nil .nil) .nil) (.node (fun F h=>(aqW h)▸⟨_,Tryz.func112,acr⟩) (.node (fun F h=>(aqW h)▸⟨_,Tryz.func176,adg⟩) .nil .nil) .nil))) (.node (fun F h=>by cases h) (.node (fun F h=>(aqW h)▸⟨_,Tryz.func40,c40⟩) (.node (fun F h=>(aqW h)▸⟨_,Tryz.func72,c72⟩) (.node (fun F h=>(aqW h)▸⟨_,Tryz.func136,acG⟩) .nil .nil) .nil) (.node (fun F h=>(aqW h)▸⟨_,Tryz.func104,aci⟩) (.node (fun F h=>(aqW h)▸⟨_,Tryz.func168,ac6⟩) .nil .nil) .nil)) (.node (fun F h=>by cases h) .nil (.node (fun F h=>by cases h) (.node (fun F h=>(aqW h)▸⟨_,Tryz.func184,adq⟩) .nil .nil) .nil)))) (.node (fun F h=>(aqW h)▸⟨_,Tryz.func12,c12⟩) (.node (fun F h=>by cases h) (.node (fun F h=>(aqW h)▸⟨_,Tryz.func36,c36⟩) (.node (fun F h=>(aqW h)▸⟨_,Tryz.func68,c68⟩) (.node (fun F h=>(aqW h)▸⟨_,Tryz.func132,acC⟩) .nil .nil) (.node (fun F h=>(aqW h)▸⟨_,Tryz.func196,adC⟩) .nil .nil)) (.node (fun F h=>(aqW h)▸⟨_,Tryz.func100,ace⟩) .nil .nil)) (.node (fun F h=>by cases h) (.node (fun F h=>(aqW h)▸⟨_,Tryz.func84,c84⟩) (.node (fun F h=>(aqW h)▸⟨_,Tryz.func148,acS⟩) .nil .nil) .nil) (.node (fun F h=>(aqW h)▸⟨_,Tryz.func116,acw⟩) (.node (fun F h=>(aqW h)▸⟨_,Tryz.func180,adk⟩) .nil .nil) .nil))) (.node (fun F h=>by cases h) (.node (fun F h=>(aqW h)▸⟨_,Tryz.func44,c44⟩) (.node (fun F h=>(aqW h)▸⟨_,Tryz.func76,c76⟩) (.node (fun F h=>(aqW h)▸⟨_,Tryz.func140,acK⟩) .nil .nil) .nil) (.node (fun F h=>(aqW h)▸⟨_,Tryz.func108,acn⟩) (.node (fun F h=>(aqW h)▸⟨_,Tryz.func172,ada⟩) .nil .nil) .nil)) (.node (fun F h=>by cases h) (.node (fun F h=>by cases h) (.node (fun F h=>(aqW h)▸⟨_,Tryz.func156,acW⟩) .nil .nil) .nil) (.node (fun F h=>by cases h) (.node (fun F h=>(aqW h)▸⟨_,Tryz.func188,adu⟩) .nil .nil) .nil))))) (.node (fun F h=>by cases h) (.node (fun F h=>(aqW h)▸⟨_,Tryz.func10,c10⟩) (.node (fun F h=>(aqW h)▸⟨_,Tryz.func18,c18⟩) (.node (fun F h=>(aqW h)▸⟨_,Tryz.func34,c34⟩) (.node (fun F h=>(aqW h)▸⟨_,Tryz.func66,c66⟩) (.node (fun F h=>(aqW h)▸⟨_,Tryz.func130,acA⟩) .nil .nil) (.node (fun F h=>(aqW h)▸⟨_,Tryz.func194,adA⟩) .nil .nil)) (.node (fun F h=>(aqW h)▸⟨_,Tryz.func98,c98⟩) (.node (fun F h=>(aqW h)▸⟨_,Tryz.func162,ac2⟩) .nil .nil) .nil)) (.node (fun F h=>by cases h) (.node (fun F h=>(aqW h)▸⟨_,Tryz.func82,c82⟩) (.node (fun F h=>(aqW h)▸⟨_,Tryz.func146,acQ⟩) .nil .nil) .nil) (.node (fun F h=>(aqW h)▸⟨_,Tryz.func114,acu⟩) (.node (fun F h=>(aqW h)▸⟨_,Tryz.func178,adi⟩) .nil .nil) .nil))) (.node (fun F h=>by cases h) (.node (fun F h=>by cases h) (.node (fun F h=>(aqW h)▸⟨_,Tryz.func74,c74⟩) (.node (fun F h=>(aqW h)▸⟨_,Tryz.func138,acI⟩) .nil .nil) .nil) (.node (fun F h=>(aqW h)▸⟨_,Tryz.func106,ack⟩) (.node (fun F h=>(aqW h)▸⟨_,Tryz.func170,ac8⟩) .nil .nil) .nil)) (.node (fun F h=>by cases h) (.node (fun F h=>by cases h) (.node (fun F h=>(aqW h)▸⟨_,Tryz.func154,acU⟩) .nil .nil) .nil) (.node (fun F h=>by cases h) (.node (fun F h=>(aqW h)▸⟨_,Tryz.func186,ads⟩) .nil .nil) .nil)))) (.node (fun F h=>by cases h) (.node (fun F h=>by cases h) (.node (fun F h=>(aqW h)▸⟨_,Tryz.func38,c38⟩) (.node (fun F h=>(aqW h)▸⟨_,Tryz.func70,c70⟩) (.node (fun F h=>(aqW h)▸⟨_,Tryz.func134,acE⟩) .nil .nil) .nil) (.node (fun F h=>(aqW h)▸⟨_,Tryz.func102,acg⟩) (.node (fun F h=>(aqW h)▸⟨_,Tryz.func166,ac4⟩) .nil .nil) .nil)) (.node (fun F h=>by cases h) (.node (fun F h=>(aqW h)▸⟨_,Tryz.func86,c86⟩) (.node (fun F h=>(aqW h)▸⟨_,Tryz.func150,acT⟩) .nil .nil) .nil) (.node (fun F h=>(aqW h)▸⟨_,Tryz.func118,acy⟩) (.node (fun F h=>(aqW h)▸⟨_,Tryz.func182,ado⟩) .nil .nil) .nil))) (.node (fun F h=>(aqW h)▸⟨_,Tryz.func30,c30⟩) (.node (fun F h=>(aqW h)▸⟨_,Tryz.func46,c46⟩) (.node (fun F h=>(aqW h)▸⟨_,Tryz.func78,c78⟩) (.node (fun F h=>(aqW h)▸⟨_,Tryz.func142,acM⟩) .nil .nil) .nil) (.node (fun F h=>(aqW h)▸⟨_,Tryz.func110,acp⟩) (.node (fun F h=>(aqW h)▸⟨_,Tryz.func174,ade⟩) .nil .nil) .nil)) (.node (fun F h=>(aqW h)▸⟨_,Tryz.func62,c62⟩) (.node (fun F h=>by cases h) (.node (fun F h=>(aqW h)▸⟨_,Tryz.func158,acY⟩) .nil .nil) .nil) (.node (fun F h=>by cases h) (.node (fun F h=>(aqW h)▸⟨_,Tryz.func190,adw⟩) .nil .nil) .nil)))))))
theorem adE:FK Tryz.prog E:=fun f F h=>Va f F h
open Go
theorem mixed:Tryz.prog.follows .mixedOrders=true:=by kernel_rfl
def O:jk:=P7
theorem adF:Bl Tryz.prog O:=Kc
end Go.Proofs.YtppcmpmnglaleaaGreatDoor.A
set_option linter.unusedSimpArgs false
namespace Go.Proofs.YtppcmpmnglaleaaGreatDoor.A
open Go
def bl (w:Int):Bool:=decide (1≤w)&&decide (w≤8)
theorem xb (w:Int) (H:AH):Ca E O 98 [.int .i64 w] H (fun x H'=>x= .bool (bl w)∧H'=H):=by
 refine Ca.dK (F:=UX) rfl rfl rfl ?_;by_cases h:1≤w
 ·simp-implicitDefEqProofs [UX,ar,bl,h]
 ·simp-implicitDefEqProofs [UX,ar,bl,h]
theorem zD {n:Nat} (h:n≤60):(2:Int)^n≤2^60:=by
 have:(2:Nat)^n≤2^60:=Nat.pow_le_pow_right (by omega) h
 exact_mod_cast this
theorem two_pow_pos (n:Nat):(1:Int)≤2^n:=by
 have:1≤(2:Nat)^n:=Nat.one_le_two_pow
 exact_mod_cast this
theorem P9 (n:Nat) (j:n≤60) (H:AH):Ca E O 81 [.int .i64 n] H (fun x H'=>x= .int .i64 (2^n)∧H'=H):=by
 refine Ca.dK (F:=Zd) rfl rfl rfl ?_;simp-implicitDefEqProofs [Zd,ar];refine eO (fun k a H'=>H'=H∧∃i:Nat,i+k=n∧a.get 0= .int .i64 n∧a.get 3= .int .i64 (2^i)∧a.get 4= .int .i64 i) ?_ n ⟨rfl,0,by simp,by simp,by simp,by simp⟩;rintro k a H' ⟨rfl,i,hi,d,c,b⟩;by_cases h:i<n
 ·have g:=zD (n:=i+1) (by omega)
  have f:=two_pow_pos i;have e:(2:Int)^(i+1)=2*2^i:=by rw [Int.pow_succ,Int.mul_comm]
  simp-implicitDefEqProofs [ar,d,c,b,h];rw [ai (n:=2*2^i) ⟨by omega,by omega⟩,ai (n:=(i:Int)+1) ⟨by omega,by omega⟩];exact ⟨k- 1,by omega,i+1,by omega,e.symm,by simp⟩
 ·simp-implicitDefEqProofs [ar,d,c,b,h]
  rw [show i=n by omega]
def isWord (w a:Int):Bool:=bl w&&(decide (0≤a)&&decide (a<2^w.toNat))
theorem KE (w a:Int) (H:AH):Ca E O 74 [.int .i64 w,.int .i64 a] H (fun x H'=>x= .bool (isWord w a)∧H'=H):=by
 refine Ca.dK (F:=Zb) rfl rfl rfl ?_;simp-implicitDefEqProofs [Zb,ar];refine bk ((xb w H).mono ?_);rintro x H' ⟨rfl,rfl⟩
 cases b:bl w with
 |false=>simp-implicitDefEqProofs [ar,b,isWord]
 |true=>
  by_cases h2:0≤a
  ·simp-implicitDefEqProofs [ar,b,h2]
   have c:1≤w∧w≤8:=by simpa [bl]using b
   have:=P9 w.toNat (by omega) H';rw [show((w.toNat:Nat):Int)=w by omega]at this;refine bk ?_;simp-implicitDefEqProofs;refine this.mono ?_;rintro x d ⟨rfl,rfl⟩;simp-implicitDefEqProofs [ar,b,h2,isWord]
  ·simp-implicitDefEqProofs [ar,b,h2,isWord]
theorem F8 (b:Bool) (H:AH):Ca E O 63 [.bool b] H (fun x H'=>x= .int .i64 (if b=true then 1 else 0)∧H'=H):=by
 refine Ca.dK (F:=P8) rfl rfl rfl ?_;cases b<;>simp-implicitDefEqProofs [P8,ar]
open Go
def fi (c:Int):Bool:=decide (97≤c)&&decide (c≤122)
def isDigit (c:Int):Bool:=decide (48≤c)&&decide (c≤57)
theorem tS (c:Int) (H:AH):Ca E O 133 [.int .u8 c] H (fun x H'=>x= .bool (fi c)∧H'=H):=by
 refine Ca.dK (F:=F4) rfl rfl rfl ?_;by_cases h:97≤c
 ·simp-implicitDefEqProofs [F4,ar,fi,h]
 ·simp-implicitDefEqProofs [F4,ar,fi,h]
theorem F9 (c:Int) (H:AH):Ca E O 135 [.int .u8 c] H (fun x H'=>x= .bool (isDigit c)∧H'=H):=by
 refine Ca.dK (F:=F5) rfl rfl rfl ?_;by_cases h:48≤c
 ·simp-implicitDefEqProofs [F5,ar,isDigit,h]
 ·simp-implicitDefEqProofs [F5,ar,isDigit,h]
def dA (s:ByteArray):Bool:=aX s ⟨#[119,105,100,116,104]⟩||(aX s ⟨#[118,97,114]⟩||(aX s ⟨#[105,102]⟩||(aX s ⟨#[101,108,115,101]⟩||(aX s ⟨#[119,104,105,108,101]⟩||(aX s ⟨#[111,117,116]⟩||(aX s ⟨#[112,105,99,107]⟩||(aX s ⟨#[110,101,101,100]⟩||(aX s ⟨#[109,117,115,116]⟩||(aX s ⟨#[108,101,118,101,108]⟩||(aX s ⟨#[115,101,101,115]⟩))))))))))
theorem Ga (s:ByteArray) (H:AH):Ca E O 134 [.string s] H (fun x H'=>x= .bool (dA s)∧H'=H):=by
 refine Ca.dK (F:=nh) rfl rfl rfl ?_
 cases a:aX s ⟨#[119,105,100,116,104]⟩with
 |true=>simp-implicitDefEqProofs [nh,ar,dA,a]
 |false=>
  cases b:aX s ⟨#[118,97,114]⟩with
  |true=>simp-implicitDefEqProofs [nh,ar,dA,a,b]
  |false=>
   cases h2:aX s ⟨#[105,102]⟩with
   |true=>simp-implicitDefEqProofs [nh,ar,dA,a,b,h2]
   |false=>
    cases c:aX s ⟨#[101,108,115,101]⟩with
    |true=>simp-implicitDefEqProofs [nh,ar,dA,a,b,h2,c]
    |false=>
     cases d:aX s ⟨#[119,104,105,108,101]⟩with
     |true=>simp-implicitDefEqProofs [nh,ar,dA,a,b,h2,c,d]
     |false=>
      cases e:aX s ⟨#[111,117,116]⟩with
      |true=>simp-implicitDefEqProofs [nh,ar,dA,a,b,h2,c,d,e]
      |false=>
       cases f:aX s ⟨#[112,105,99,107]⟩with
       |true=>simp-implicitDefEqProofs [nh,ar,dA,a,b,h2,c,d,e,f]
       |false=>
        cases g:aX s ⟨#[110,101,101,100]⟩with
        |true=>simp-implicitDefEqProofs [nh,ar,dA,a,b,h2,c,d,e,f,g]
        |false=>
         cases i:aX s ⟨#[109,117,115,116]⟩with
         |true=>simp-implicitDefEqProofs [nh,ar,dA,a,b,h2,c,d,e,f,g,i]
         |false=>
          cases j:aX s ⟨#[108,101,118,101,108]⟩with
          |true=>simp-implicitDefEqProofs [nh,ar,dA,a,b,h2,c,d,e,f,g,i,j]
          |false=>
           cases h:aX s ⟨#[115,101,101,115]⟩with
           |true=>simp-implicitDefEqProofs [nh,ar,dA,a,b,h2,c,d,e,f,g,i,j,h]
           |false=>
            simp-implicitDefEqProofs [nh,ar,dA,a,b,h2,c,d,e,f,g,i,j,h]
def dW (c:Int):Bool:=fi c||(isDigit c||decide (c=95))
def isName (s:ByteArray):Bool:=decide (1≤s.size)&&(decide (s.size≤12)&&(fi (cA s 0)&&(!dA s&&(List.range s.size).all fun i=>dW (cA s i))))
theorem KF (s:ByteArray) (C:s.size<2^60) (H:AH):Ca E O 99 [.string s] H (fun x H'=>x= .bool (isName s)∧H'=H):=by
 refine Ca.dK (F:=Td) rfl rfl rfl ?_;by_cases m:1≤s.size
 case neg=>
  have l:s.size=0:=by omega
  simp-implicitDefEqProofs [Td,ar,isName,l]
 have l:¬ s.size=0:=by omega
 have z:¬ (s.size:Int)<1:=by omega
 by_cases h2:s.size≤12
 case neg=>
  have v:12<s.size:=by omega
  have u:(12:Int)<s.size:=by omega
  simp-implicitDefEqProofs [Td,ar,isName,l,z,m,h2,v,u]
 have v:¬ 12<s.size:=by omega
 have u:¬ (12:Int)<s.size:=by omega
 have y:s[0]?=some s[0]:=getElem?_pos s 0 (by omega);have t:((s[0].toNat:Nat):Int)=cA s 0:=by unfold cA;rw [y];rfl
 simp-implicitDefEqProofs [Td,ar,l,z,m,h2,v,u,y];rw [t];refine bk ?_;simp-implicitDefEqProofs;refine (tS _ H).mono ?_;rintro x H' ⟨rfl,rfl⟩
 cases g:fi (cA s 0)with
 |false=>simp-implicitDefEqProofs [ar,isName,l,m,h2,g]
 |true=>
  simp-implicitDefEqProofs [ar,g];refine bk ?_;simp-implicitDefEqProofs;refine (Ga s H').mono ?_;rintro x B ⟨rfl,rfl⟩
  cases q:dA s with
  |true=>simp-implicitDefEqProofs [ar,isName,l,m,h2,g,q]
  |false=>
   simp-implicitDefEqProofs [ar,g,q];refine eO (fun k w H'=>H'=B∧∃i:Nat,i+k=s.size∧w.get 0= .string s∧w.get 3= .int .i64 i∧∀j,j<i→dW (cA s j)=true) ?_ s.size ⟨rfl,0,by simp,by simp,by simp,fun j n=>by omega⟩;rintro k w H' ⟨rfl,i,hi,d,c,o⟩;by_cases h:i<s.size
   ·have a:s[i]?=some s[i]:=getElem?_pos s i h
    have r:((s[i].toNat:Nat):Int)=cA s i:=by unfold cA;rw [a];rfl
    simp-implicitDefEqProofs [ar,d,c,h,a];rw [r];refine bk ?_;simp-implicitDefEqProofs;refine (tS _ H').mono ?_;rintro x A ⟨rfl,rfl⟩
    cases b:fi (cA s i)with
    |true=>
     simp-implicitDefEqProofs [ar,d,c,h,a,b];rw [ai ⟨by omega,by omega⟩];refine ⟨k- 1,by omega,i+1,by omega,by simp,fun j n=>?_⟩;by_cases e:j=i
     ·subst e;simp [dW,b]
     ·exact o j (by omega)
    |false=>
     simp-implicitDefEqProofs [ar,d,c,h,a,b];rw [r];refine bk ?_;simp-implicitDefEqProofs;refine (F9 _ A).mono ?_;rintro x D ⟨rfl,rfl⟩
     cases f:isDigit (cA s i)with
     |true=>
      simp-implicitDefEqProofs [ar,d,c,h,a,b,f];rw [ai ⟨by omega,by omega⟩];refine ⟨k- 1,by omega,i+1,by omega,by simp,fun j n=>?_⟩;by_cases e:j=i
      ·subst e;simp [dW,f]
      ·exact o j (by omega)
     |false=>
      simp-implicitDefEqProofs [ar,d,c,h,a,b,f];rw [r];by_cases p:cA s i=95
      ·simp-implicitDefEqProofs [ar,d,c,h,a,b,f,p]
       rw [ai ⟨by omega,by omega⟩];refine ⟨k- 1,by omega,i+1,by omega,by simp,fun j n=>?_⟩;by_cases e:j=i
       ·subst e;simp [dW,p]
       ·exact o j (by omega)
      ·simp-implicitDefEqProofs [ar,d,c,h,a,b,f,p]
       have:dW (cA s i)=false:=by simp [dW,b,f,p]
       simp [isName,m,h2,g,q];exact ⟨i,h,this⟩
   ·simp-implicitDefEqProofs [ar,d,c,h]
    simp [isName,m,h2,g,q];exact fun j n=>o j (by omega)
end Go.Proofs.YtppcmpmnglaleaaGreatDoor.A
namespace Go.Proofs.YtppcmpmnglaleaaGreatDoor.A
open Go
structure Vr where
 name:ByteArray
 level:Int
 cells:Int
def Vr.row (v:Vr):List Value:=[.string v.name,.int .i64 v.level,.int .i64 v.cells]
def de (H:AH) (v:Value) (l:List Vr):Prop:=Rows H 3 v (l.map Vr.row)
theorem de.ext {H H':AH} (E:Ext H H') {v:Value} {l:List Vr} (h:de H v l):de H' v l:=Rows.ext E h
theorem de.len {H:AH} {v:Value} {l:List Vr} (h:de H v l):∃a c,v= .slice a l.length c:=by
 obtain ⟨a,c,e⟩:=Rows.len h;exact ⟨a,c,by simpa using e⟩
theorem de.at {H:AH} {v:Value} {l:List Vr} (h:de H v l) {i:Nat} {x:Vr} (hi:l[i]?=some x):
 ∃b o c,v= .slice (some ⟨b,o,none⟩) l.length c∧H.ldn ⟨b,o+i*3,none⟩ 3=some x.row∧H.ld ⟨b,o+i*3,none⟩=some (.string x.name)∧H.ld ⟨b,o+i*3+1,none⟩=some (.int .i64 x.level)∧H.ld ⟨b,o+i*3+2,none⟩=some (.int .i64 x.cells):=by
 obtain ⟨b,o,c,e,h2⟩:=Rows.at h (i:=i) (r:=x.row) (by simp [hi]);exact ⟨b,o,c,by simpa using e,h2,by simpa using aJ h2 (j:=0) rfl,aJ h2 (j:=1) rfl,aJ h2 (j:=2) rfl⟩
def hZ (l:List Vr) (s:ByteArray):Int:=match l.findIdx? (fun v=>aX v.name s)with|some i=>i|none=>-1
theorem rY {l:List Vr} {s:ByteArray} {i:Nat} {x:Vr} (hi:l[i]?=some x) (a:aX x.name s=true) (c:∀j y,j<i→l[j]?=some y→aX y.name s=false):hZ l s=i:=by
 have:l.findIdx? (fun v=>aX v.name s)=some i:=by
  rw [List.findIdx?_eq_some_iff_getElem];obtain ⟨h,e⟩:=aq0.1 hi;refine ⟨h,by rw [e];exact a,fun j b=>?_⟩;rw [c j _ b (aqU (by omega))];simp
 unfold hZ;rw [this]
theorem zF {l:List Vr} {s:ByteArray} (c:∀(j:Nat) (y:Vr),l[j]?=some y→aX y.name s=false):hZ l s=-1:=by
 have:l.findIdx? (fun v=>aX v.name s)=none:=by
  rw [List.findIdx?_eq_none_iff];intro x a;obtain ⟨j,b,e⟩:=List.mem_iff_getElem.1 a;exact c j x (by rw [aqU b,e])
 unfold hZ;rw [this]
theorem KG {v:Value} {l:List Vr} {H:AH} (w:de H v l) (C:l.length<2^60) (s:ByteArray):Ca E O 100 [v,.string s] H (fun x H'=>x= .int .i64 (hZ l s)∧H'=H):=by
 refine Ca.dK (F:=Kd) rfl rfl rfl ?_;simp-implicitDefEqProofs [Kd,ar];obtain ⟨a,c,A⟩:=w.len;refine eO (fun k p H'=>H'=H∧∃i:Nat,i+k=l.length∧p.get 0=v∧p.get 1= .string s∧p.get 5= .int .i64 i∧∀j y,j<i→l[j]?=some y→aX y.name s=false) ?_ l.length ⟨rfl,0,by simp,by simp,by simp,by simp,fun j y g=>by omega⟩;rintro k p H' ⟨rfl,i,hi,d,n,m,t⟩;by_cases h:i<l.length
 ·obtain ⟨y,r⟩:∃y,l[i]?=some y:=⟨_,aqU h⟩
  obtain ⟨b,o,D,u,_,B,_⟩:=w.at r;rw [u]at d;simp-implicitDefEqProofs [ar,d,n,m,h,B]
  cases f:aX y.name s with
  |true=>
   simp-implicitDefEqProofs [ar,d,n,m,f];exact (rY r f t).symm
  |false=>
   simp-implicitDefEqProofs [ar,d,n,m,f];rw [ai ⟨by omega,by omega⟩];refine ⟨k- 1,by omega,i+1,by omega,u.symm,by simp,fun j z g q=>?_⟩;by_cases e:j=i
   ·subst e;rw [r]at q;cases q;exact f
   ·exact t j z (by omega) q
 ·rw [A]at d
  simp-implicitDefEqProofs [ar,d,n,m,h];refine (zF fun j y g=>t j y ?_ g).symm;have:=(aq0.1 g).1;omega
def df (l:List Int):Int:=l.foldl (fun a c=>IntKind.i64.wrap (a+c)) 0
def dX (l:List Vr) (i:Nat) (v:Vr):Bool:=isName v.name&&(decide (0≤v.level)&&(decide (v.level≤47)&&(decide (1≤v.cells)&&(decide (v.cells≤8)&&decide (hZ l v.name=i)))))
def aA (w:Int) (l:List Vr):Bool:=bl w&&(decide (1≤l.length)&&(decide (l.length≤18)&&((List.range l.length).all (fun i=>match l[i]? with|some v=>dX l i v|none=>true)&&decide (df (l.map (·.cells))≤48))))
theorem qn {l:List Vr} {i:Nat} {v:Vr} (h:dX l i v=true):1≤v.cells∧v.cells≤8:=by
 simp [dX]at h;exact ⟨h.2.2.2.1,h.2.2.2.2.1⟩
def nj (l:List Vr):Prop:=l.length<2^60∧∀v∈l,v.name.size<2^60
theorem zG {v:Value} {l:List Vr} {H:AH} (hw:H.n0≤H.nx) (hv:de H v l) (qg:nj l) (w:Int):Ca E O 71 [.int .i64 w,v] H (fun x H'=>x= .bool (aA w l)∧Ext H H'):=by
 refine Ca.dK (F:=Y9) rfl rfl rfl ?_;obtain ⟨a,c,M⟩:=hv.len;have jF:=qg.1;simp-implicitDefEqProofs [Y9,ar];refine bk ?_;simp-implicitDefEqProofs;refine (xb w H).mono ?_;rintro x H' ⟨rfl,rfl⟩
 cases P:bl w with
 |false=>simp-implicitDefEqProofs [ar,aA,P,Ext.refl]
 |true=>
  by_cases Z:1≤l.length
  case neg=>
   have N:l.length=0:=by omega
   simp-implicitDefEqProofs [ar,aA,P,M,N,Ext.refl]
  by_cases h2:l.length≤18
  case neg=>
   have N:¬ (l.length:Int)<1:=by omega
   have Y:(18:Int)<l.length:=by omega
   have X:18<l.length:=by omega
   simp-implicitDefEqProofs [ar,aA,P,M,Z,N,h2,Y,X,Ext.refl]
  have N:¬ (l.length:Int)<1:=by omega
  have Y:¬ (18:Int)<l.length:=by omega
  have X:¬ 18<l.length:=by omega
  simp-implicitDefEqProofs [ar,P,M,Z,N,h2,Y,X];refine eO (fun k R L=>Ext H' L∧∃i:Nat,i+k=l.length∧R.get 1=v∧R.get 6= .int .i64 i∧R.get 5= .int .i64 (df ((l.take i).map (·.cells)))∧∀j y,j<i→l[j]?=some y→dX l j y=true) ?_ l.length ⟨Ext.refl _,0,by simp,by simp [M],by simp,by simp [df],fun j y W=>by omega⟩;rintro k R L ⟨t,i,hi,f,s,f5,aH⟩;have lj:=t.wf hw;have wz:=hv.ext t
  have K:∀y,l[i]?=some y→dX l i y=false→aA w l=false:=by
   intro y p hn
   have:((List.range l.length).all (fun i=>match l[i]? with|some v=>dX l i v|none=>true))=false:=by
    rw [List.all_eq_false];refine ⟨i,?_,?_⟩
    ·have:=(aq0.1 p).1;simpa using this
    ·rw [p];simp [hn]
   simp [aA,this]
  by_cases h:i<l.length
  ·obtain ⟨y,p⟩:∃y,l[i]?=some y:=⟨_,aqU h⟩
   obtain ⟨b,o,c',U,bC,_⟩:=wz.at p;have qf:=qg.2 y (aqZ p);have f1v:=f;rw [U]at f;obtain ⟨S,fy,G,wA,ph,ED,V⟩:=dQ (H:=L) lj (z:=3) (c:=[.string ⟨#[]⟩,.int .i64 0,.int .i64 0]) (vs:=y.row) rfl;have B:S.ld ⟨L.nx,0,none⟩=some (.string y.name):=V 0 _ rfl;have D:S.ld ⟨L.nx,1,none⟩=some (.int .i64 y.level):=V 1 _ rfl;have C:S.ld ⟨L.nx,2,none⟩=some (.int .i64 y.cells):=V 2 _ rfl;simp-implicitDefEqProofs [ar,f,s,h,bC,aR,cw,Vr.row]at fy⊢;simp-implicitDefEqProofs [ar,fy,B];refine bk ?_;simp-implicitDefEqProofs;refine (KF y.name qf S).mono ?_;rintro x H3 ⟨rfl,rfl⟩
   cases d:isName y.name with
   |false=>
    simp-implicitDefEqProofs [ar,f,s,B,D,C,d];exact ⟨K y p (by simp [dX,d]),t.trans G⟩
   |true=>
    by_cases m:0≤y.level
    case neg=>
     have g:y.level<0:=by omega
     simp-implicitDefEqProofs [ar,f,s,B,D,C,d,m,g];exact ⟨K y p (by simp [dX,d,m,g]),t.trans G⟩
    have g:¬ y.level<0:=by omega
    by_cases r:y.level≤47
    case neg=>
     have q:47<y.level:=by omega
     simp-implicitDefEqProofs [ar,f,s,B,D,C,d,m,g,r,q];exact ⟨K y p (by simp [dX,d,m,g,r,q]),t.trans G⟩
    have q:¬ 47<y.level:=by omega
    by_cases A:1≤y.cells
    case neg=>
     have u:y.cells<1:=by omega
     simp-implicitDefEqProofs [ar,f,s,B,D,C,d,m,g,r,q,A,u];exact ⟨K y p (by simp [dX,d,m,g,r,q,A,u]),t.trans G⟩
    have u:¬ y.cells<1:=by omega
    by_cases J:y.cells≤8
    case neg=>
     have I:8<y.cells:=by omega
     simp-implicitDefEqProofs [ar,f,s,B,D,C,d,m,g,r,q,A,u,J,I];exact ⟨K y p (by simp [dX,d,m,g,r,q,A,u,J,I]),t.trans G⟩
    have I:¬ 8<y.cells:=by omega
    simp-implicitDefEqProofs [ar,f,s,B,D,C,d,m,g,r,q,A,u,J,I];refine bk ?_;simp-implicitDefEqProofs [f];rw [←U];refine (KG (wz.ext G) jF y.name).mono ?_;rintro x H4 ⟨rfl,rfl⟩;by_cases Q:hZ l y.name=i
    case neg=>
     simp-implicitDefEqProofs [ar,f,s,B,D,C,d,m,g,r,q,A,u,J,I,Q];exact ⟨K y p (by simp [dX,d,m,g,r,q,A,u,J,I,Q]),t.trans G⟩
    simp-implicitDefEqProofs [ar,f,f5,s,B,D,C,d,m,g,r,q,A,u,J,I,Q];rw [ai (n:=(i:Int)+1) ⟨by omega,by omega⟩];refine ⟨k- 1,by omega,t.trans G,i+1,by omega,U.symm,by simp,?_,fun j z W T=>?_⟩
    ·rw [arf]
     simp [df,arq,p,List.foldl_append]
    ·by_cases e:j=i
     ·subst e;rw [p]at T;cases T
      simp [dX,d,m,r,A,J,Q]
     ·exact aH j z (by omega) T
  ·have Gc:i=l.length:=by omega
   rw [M]at f;simp-implicitDefEqProofs [ar,f,f5,s,h];refine ⟨?_,t⟩
   have Gd:((List.range l.length).all (fun i=>match l[i]? with|some v=>dX l i v|none=>true))=true:=by
    rw [ara];intro j W;have Ez:j<l.length:=by simpa using W
    rw [aqU Ez];exact aH j _ (by omega) (aqU Ez)
   rw [aA,P,Gd,Gc];have:List.take l.length (l.map fun x=>x.cells)=l.map fun x=>x.cells:=aq1 (by simp)
   simp [Z,h2,this]
open Go
inductive bV where
 |mk (op n cp:Int) (args:List bV)
def bV.op:bV→Int| .mk a _ _ _=>a
def bV.n:bV→Int| .mk _ a _ _=>a
def bV.cp:bV→Int| .mk _ _ a _=>a
mutual
inductive oh (H:AH):List Value→bV→Prop where
 |mk {op n cp:Int} {v:Value} {rows:List (List Value)} {args:List bV}:jG op→jG n→jG cp→args.length<2^60→Rows H 4 v rows→fU H rows args→oh H [.int .i64 op,.int .i64 n,.int .i64 cp,v] (.mk op n cp args)
inductive fU (H:AH):List (List Value)→List bV→Prop where
 |nil:fU H [] []
 |cons {r:List Value} {e:bV} {rs:List (List Value)} {es:List bV}:oh H r e→fU H rs es→fU H (r::rs) (e::es)
end
mutual
theorem oh.ext {H H':AH} (E:Ext H H') {c:List Value} {e:bV}:oh H c e→oh H' c e
 | .mk a b c d r l=>.mk a b c d (r.ext E) (fU.ext E l)
theorem fU.ext {H H':AH} (E:Ext H H') {c:List (List Value)} {e:List bV}:fU H c e→fU H' c e
 | .nil=>.nil
 | .cons a b=>.cons (oh.ext E a) (fU.ext E b)
end
theorem fU.length {H:AH}:∀{c:List (List Value)} {e:List bV},fU H c e→c.length=e.length
 |_,_,.nil=>rfl
 |_,_,.cons _ b=>by simp [fU.length b]
theorem fU.at {H:AH}:∀{c:List (List Value)} {e:List bV} {i:Nat} {x:bV},fU H c e→e[i]?=some x→∃r,c[i]?=some r∧oh H r x
 |_,_,i,x,.nil,h=>by simp at h
 |_,_,0,x,.cons a b,h=>by simp at h;subst h;exact ⟨_,rfl,a⟩
 |_,_,i+1,x,.cons a b,h=>by obtain ⟨r,d,h2⟩:=fU.at b (by simpa using h);exact ⟨r,by simpa using d,h2⟩
theorem jP {op n cp:Int} {args:List bV} {i:Nat} {x:bV} (h:args[i]?=some x):SizeOf.sizeOf x<SizeOf.sizeOf (bV.mk op n cp args):=by
 have:=ars (aqZ h);simp;omega
mutual
def jl:bV→Int→Int
 | .mk _ _ _ args,most=>if most<1 then 0 else dm args (most- 1)
def dm:List bV→Int→Int
 |[],n=>n
 |e::es,n=>dm es (jl e n)
end
theorem qo:∀(l:List bV) (n:Int),dm l n=l.foldl (fun n e=>jl e n) n
 |[],n=>rfl
 |e::es,n=>by simp [dm,qo es]
@[simp]theorem gh (c:Array Value):aR (.agg c)=c.toList:=rfl
@[simp]theorem Te (c:Array Value):cw (.agg c)=false:=rfl
theorem xd:∀(N:Nat) (e:bV) (m:Int),SizeOf.sizeOf e<N→jl e m≤max m 0∧0≤jl e m:=by
 intro N
 induction N with
 |zero=>intro e m h;omega
 |succ N ih=>
  intro e m h;obtain ⟨op,n,g,args⟩:=e;rw [jl];split
  ·omega
  ·have key:∀(l:List bV) (k:Int),(∀e∈l,SizeOf.sizeOf e<N)→0≤k→dm l k≤k∧0≤dm l k:=by
    intro l
    induction l with
    |nil=>intro k _ d;rw [dm];omega
    |cons x l c=>
     intro k b d;rw [dm];have f:=ih x k (b x (by simp));have h2:=c (jl x k) (fun e a=>b e (by simp [a])) f.2;omega
   have:=key args (m- 1) (fun e a=>by have:=ars a;simp at h;omega) (by omega);omega
theorem Bp:∀(N:Nat) (e:bV) (c:List Value) (H:AH) (most:Int),SizeOf.sizeOf e<N→H.n0≤H.nx→oh H c e→jG most→
 Ca E O 64 [.agg c.toArray,.int .i64 most] H (fun x H'=>x= .int .i64 (jl e most)∧Ext H H'):=by
 intro N
 induction N with
 |zero=>intro e c H most h;omega
 |succ N ih=>
  intro e c H most W u M J
  cases M with| @mk op n cp v rows args U T S B A p=>
  refine Ca.dK (F:=UU) rfl rfl rfl ?_;have d:=Ext.alloc H (.cells 4 [.int .i64 op,.int .i64 n,.int .i64 cp,v]);have D:(H.alloc (.cells 4 [.int .i64 op,.int .i64 n,.int .i64 cp,v])).ld ⟨H.nx,3,none⟩=some v:=aj u rfl;generalize C:H.alloc (.cells 4 [.int .i64 op,.int .i64 n,.int .i64 cp,v])=R at d D;by_cases f:most<1
  ·simp-implicitDefEqProofs [UU,ar,f,C]
   refine ⟨?_,d⟩;rw [jl,if_pos f]
  ·unfold jG at J
   simp-implicitDefEqProofs [UU,ar,f,C];rw [ai (n:=most- 1) ⟨by omega,by omega⟩];obtain ⟨a0,X,z⟩:=A.len;rw [p.length]at z;refine eO (fun k g H'=>Ext R H'∧∃i:Nat,i+k=args.length∧g.get 2= .pointer (some ⟨H.nx,0,none⟩)∧g.get 6= .int .i64 i∧g.get 5= .int .i64 (dm (args.take i) (most- 1))∧0≤dm (args.take i) (most- 1)∧dm (args.take i) (most- 1)≤most- 1) ?_ args.length ⟨Ext.refl _,0,by simp,by simp,by simp,by simp [dm],by simp [dm];omega,by simp [dm]⟩;rintro k g Q ⟨a,i,hi,s,q,j,b1,Z⟩;have l:=a.ld D;have G:=(d.trans a).wf u;by_cases h:i<args.length
   ·obtain ⟨y,m⟩:∃y,args[i]?=some y:=⟨_,aqU h⟩
    obtain ⟨r,I,L⟩:=p.at m;obtain ⟨b,o,Y,w,K⟩:=(A.ext (d.trans a)).at I;rw [p.length]at w;rw [w]at l;simp-implicitDefEqProofs [ar,s,q,j,l,h,K];refine bk ?_;simp-implicitDefEqProofs [j];have V:=jP (op:=op) (n:=n) (cp:=cp) m;refine (ih y r Q _ (by omega) G (L.ext (d.trans a)) ⟨by omega,by omega⟩).mono ?_;rintro x H3 ⟨rfl,P⟩;simp-implicitDefEqProofs [ar,s,q,j];rw [ai (n:=(i:Int)+1) ⟨by omega,by omega⟩]
    have t:dm (args.take (i+1)) (most- 1)=jl y (dm (args.take i) (most- 1)):=by
     rw [arf,m];simp [qo,List.foldl_append]
    have:=xd (SizeOf.sizeOf y+1) y (dm (args.take i) (most- 1)) (by omega);exact ⟨k- 1,by omega,a.trans P,i+1,by omega,by simp,t.symm,by rw [t];omega,by rw [t];omega⟩
   ·rw [z]at l
    simp-implicitDefEqProofs [ar,s,q,j,l,h];rw [aq1 (by omega)];refine ⟨?_,d.trans a⟩;rw [jl,if_neg f]
end Go.Proofs.YtppcmpmnglaleaaGreatDoor.A
namespace Go.Proofs.YtppcmpmnglaleaaGreatDoor.A
open Go
mutual
def av:bV→Int
 | .mk _ _ _ args=>1+aq args
def aq:List bV→Int
 |[]=>0
 |e::es=>av e+aq es
end
mutual
def cB:bV→Int
 | .mk _ _ _ args=>cR args 0+1
def cR:List bV→Int→Int
 |[],n=>n
 |e::es,n=>cR es (max n (cB e))
end
theorem oi:∀(l:List bV) (n:Int),cR l n=l.foldl (fun n e=>max n (cB e)) n
 |[],n=>rfl
 |e::es,n=>by simp [cR,oi es]
theorem lX {M:bV→Prop} (h:∀op n cp args,(∀e∈args,M e)→M (.mk op n cp args)):∀e,M e:=by
 have key:∀(N:Nat) (e:bV),SizeOf.sizeOf e<N→M e:=by
  intro N
  induction N with
  |zero=>intro e h;omega
  |succ N ih=>
   intro e b;obtain ⟨op,n,cp,args⟩:=e;refine h op n cp args fun e a=>ih e ?_
   have:=ars a;simp at b;omega
 exact fun e=>key _ e (aq9 _)
theorem mM {l:List bV} (h:∀e∈l,1≤av e):0≤aq l:=by
 induction l with
 |nil=>simp [aq]
 |cons e es ih=>
  rw [aq];have b:=h e (by simp);have h2:=ih fun x a=>h x (by simp [a])
  omega
theorem dR:∀e,1≤av e:=lX fun op n a args ih=>by
 rw [av];have:=mM ih;omega
theorem a6 (l:List bV):0≤aq l:=mM fun e _=>dR e
theorem xe:∀e m,jl e m=max (m- av e) 0:=lX fun op n f args ih m=>by
 have key:∀(l:List bV) (k:Int),(∀e∈l,∀m,jl e m=max (m- av e) 0)→0≤k→dm l k=max (k- aq l) 0:=by
  intro l
  induction l with
  |nil=>intro k _ c;rw [dm,aq];omega
  |cons x l b=>
   intro k a c;rw [dm,aq,a x (by simp),b _ (fun e d=>a e (by simp [d])) (by omega)];have:=a6 l;omega
 rw [jl,av];have:=a6 args;split
 ·omega
 ·rw [key args (m- 1) ih (by omega)]
  omega
theorem om:∀e,1≤cB e∧cB e≤av e:=lX fun op n h args ih=>by
 have key:∀(l:List bV) (k:Int),(∀e∈l,1≤cB e∧cB e≤av e)→0≤k→k≤cR l k∧cR l k≤max k (aq l):=by
  intro l
  induction l with
  |nil=>intro k _ c;rw [cR,aq];omega
  |cons x l b=>
   intro k a c;rw [cR,aq];have g:=a x (by simp);have h2:=b (max k (cB x)) (fun e d=>a e (by simp [d])) (by omega);have f:=a6 l;omega
 rw [cB,av];have:=key args 0 ih (by omega);have:=a6 args;omega
theorem a7 {H:AH} (a:H.n0≤H.nx) {z:Nat} {c:List Value} (n:Nat) (b:c.length=n):(H.alloc (.cells z c)).ldn ⟨H.nx,0,none⟩ n=some c:=by
 rw [←b];exact qX a z c
theorem KM {e:bV} {c:List Value} {H:AH} {most:Int} (b:H.n0≤H.nx) (f:oh H c e) (k:0≤most∧most≤1000000):
 Ca E O 137 [.agg c.toArray,.int .i64 most] H (fun x H'=>x= .bool (decide (av e≤most))∧Ext H H'):=by
 refine Ca.dK (F:=Kl) rfl rfl rfl ?_;have g:c.length=4:=by cases f;rfl
 have a:=Ext.alloc H (.cells c.length c);have d:=a7 b (z:=c.length) (c:=c) 4 g;generalize h:H.alloc (.cells c.length c)=j at a d;simp-implicitDefEqProofs [Kl,ar,h,d];refine bk ?_;rw [ai ⟨by omega,by omega⟩];simp-implicitDefEqProofs;refine (Bp _ e c j (most+1) (aq9 _) (a.wf b) (f.ext a) ⟨by omega,by omega⟩).mono ?_;rintro x l ⟨rfl,i⟩;simp-implicitDefEqProofs [ar];refine ⟨?_,a.trans i⟩;rw [xe];omega
theorem Ge:∀(N:Nat) (e:bV) (c:List Value) (H:AH),SizeOf.sizeOf e<N→H.n0≤H.nx→oh H c e→av e<2^60→
 Ca E O 138 [.agg c.toArray] H (fun x H'=>x= .int .i64 (cB e)∧Ext H H'):=by
 intro N
 induction N with
 |zero=>intro e c H h;omega
 |succ N ih=>
  intro e c H hN u S B
  cases S with| @mk op n cp v rows args i1 i2 Z C A m=>
  refine Ca.dK (F:=a138) rfl rfl rfl ?_;have f:=Ext.alloc H (.cells 4 [.int .i64 op,.int .i64 n,.int .i64 cp,v]);have D:(H.alloc (.cells 4 [.int .i64 op,.int .i64 n,.int .i64 cp,v])).ld ⟨H.nx,3,none⟩=some v:=aj u rfl;generalize T:H.alloc (.cells 4 [.int .i64 op,.int .i64 n,.int .i64 cp,v])=Y at f D;have P:=B;rw [av]at B;obtain ⟨a0,c0,z⟩:=A.len;rw [m.length]at z
  have G:∀(l:List bV) (y:bV),y∈l→av y≤aq l:=by
   intro l
   induction l with
   |nil=>intro y a;cases a
   |cons x l I=>
    intro y a;rw [aq];have h3:=a6 l;have h4:=dR x;rcases arc.1 a with rfl|a
    ·omega
    ·have:=I y a;omega
  simp-implicitDefEqProofs [a138,ar,T];refine eO (fun k g H'=>Ext Y H'∧∃i:Nat,i+k=args.length∧g.get 1= .pointer (some ⟨H.nx,0,none⟩)∧g.get 4= .int .i64 i∧g.get 3= .int .i64 (cR (args.take i) 0)∧0≤cR (args.take i) 0∧cR (args.take i) 0≤aq args) ?_ args.length ⟨Ext.refl _,0,by simp,by simp,by simp,by simp [cR],by simp [cR],by simp [cR,a6]⟩;rintro k g X ⟨d,i,hi,s,p,q,V,U⟩;have j:=d.ld D;have L:=(f.trans d).wf u;by_cases h:i<args.length
  ·obtain ⟨y,a⟩:∃y,args[i]?=some y:=⟨_,aqU h⟩
   obtain ⟨r,M,R⟩:=m.at a;obtain ⟨b,o,c',w,Q⟩:=(A.ext (f.trans d)).at M;rw [m.length]at w;rw [w]at j;have J:=G args y (aqZ a);have K:=om y;simp-implicitDefEqProofs [ar,s,p,q,j,h,Q];refine bk ?_;simp-implicitDefEqProofs;have hs:=jP (op:=op) (n:=n) (cp:=cp) a;refine (ih y r X (by omega) L (R.ext (f.trans d)) (by omega)).mono ?_;rintro x H3 ⟨rfl,W⟩;simp-implicitDefEqProofs [ar,s,p,q,Eu];rw [ai (n:=(i:Int)+1) ⟨by omega,by omega⟩]
   have t:cR (args.take (i+1)) 0=max (cR (args.take i) 0) (cB y):=by
    rw [arf,a];simp [oi,List.foldl_append]
   refine ⟨k- 1,by omega,d.trans W,i+1,by omega,by simp,?_,?_,?_⟩
   ·rw [t];split<;>omega
   ·rw [t];omega
   ·rw [t];omega
  ·rw [z]at j
   simp-implicitDefEqProofs [ar,s,p,q,j,h];rw [aq1 (by omega)]at V U⊢;rw [ai ⟨by omega,by omega⟩];refine ⟨?_,f.trans d⟩;rw [cB]
def qp (op:Int):Bool:=(decide (2≤op)&&decide (op≤11))||(decide (op=13)||decide (op=14))
theorem Qd (op:Int) (H:AH):Ca E O 175 [.int .i64 op] H (fun x H'=>x= .bool (qp op)∧H'=H):=by
 refine Ca.dK (F:=a175) rfl rfl rfl ?_;by_cases b:2≤op
 ·by_cases h2:op≤11
  ·simp-implicitDefEqProofs [a175,ar,qp,b,h2]
  ·by_cases a:op=13
   ·simp-implicitDefEqProofs [a175,ar,qp,a]
   ·simp-implicitDefEqProofs [a175,ar,qp,b,h2,a]
 ·have a:¬ op=13:=by omega
  simp-implicitDefEqProofs [a175,ar,qp,b,a]
def iN (op:Int):Int:=if op=0 then 0 else if op=12 then 1 else if op=15 then 3 else if qp op=true then 2 else-1
theorem KN (op:Int) (H:AH):Ca E O 167 [.int .i64 op] H (fun x H'=>x= .int .i64 (iN op)∧H'=H):=by
 refine Ca.dK (F:=a167) rfl rfl rfl ?_;by_cases b:op=0
 ·simp-implicitDefEqProofs [a167,ar,iN,b]
 by_cases h2:op=12
 ·simp-implicitDefEqProofs [a167,ar,iN,h2]
 by_cases a:op=15
 ·simp-implicitDefEqProofs [a167,ar,iN,a]
 simp-implicitDefEqProofs [a167,ar,b,h2,a];refine bk ?_;simp-implicitDefEqProofs;refine (Qd op H).mono ?_;rintro x H' ⟨rfl,rfl⟩
 cases c:qp op with
 |true=>simp-implicitDefEqProofs [ar,iN,b,h2,a,c]
 |false=>simp-implicitDefEqProofs [ar,iN,b,h2,a,c]
end Go.Proofs.YtppcmpmnglaleaaGreatDoor.A
