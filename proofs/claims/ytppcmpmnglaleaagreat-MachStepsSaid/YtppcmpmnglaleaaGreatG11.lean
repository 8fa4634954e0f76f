/- Texts that stand one behind the other: Code, CodeOk, Awake, S1, S2, S3, S4, S5, S6, S7. -/
import Derived.Test.YtppcmpmnglaleaaGreatG10
import Derived.Test.YtppcmpmnglaleaaGreatProg
import Derived.KernelRfl
set_option linter.unusedVariables false
set_option maxRecDepth 100000
namespace Go.Proofs.YtppcmpmnglaleaaGreat.A
open Go
namespace K
abbrev m (a b:Nat):AO:=o a (.mv (.t b))
abbrev M (t a b:Nat):AO:=og t true a (.mv (.t b))
abbrev N (t a b:Nat):AO:=og t false a (.mv (.t b))
abbrev v (a b:Nat):AO:=o a (.ld (.t b))
abbrev n (k a b:Nat):AO:=o a (.ldn k (.t b))
abbrev f (k a b:Nat):AO:=o a (.fa k (.t b))
abbrev b (g:BinOp) (a b c:Nat):AO:=o a (.bin g (.t b) (.t c))
abbrev h (g:BinOp) (a b:Nat) (k:Int):AO:=o a (.bin g (.t b) (i k))
abbrev c (a b:Nat) (l:List X):AO:=o a (.call b l)
abbrev e (a b k:Nat):AO:=o a (.ext (.t b) k)
abbrev L (a b:Nat):AO:=o a (.eQ (.t b))
abbrev j (s a b c:Nat):AO:=o a (.ia s (.t b) (.t c))
abbrev p (a b c:Nat):AO:=o a (.pick (.t b) (.t c) (.k (.bool false)))
abbrev P (a b c:Nat):AO:=o a (.pick (.t b) (.k (.bool true)) (.t c))
abbrev B (a b:Nat):AO:=o a (.box (.t b))
abbrev U (a b:Nat):AO:=o a (.un .not (.t b))
abbrev d (x:Nat) (a b:AC):AC:=.cond (.t x) a b
abbrev r (l:List AO) (c:AC):AC:=.seq (.cL l) c
abbrev q (a b:AC):AC:=.seq a b
abbrev F:X:=.k (.bool false)
abbrev W:X:=.k (.bool true)
abbrev z:Value:=.int .i64 0
abbrev y:Value:=.slice none 0 0
end K
open K
def a4:AF:=⟨4,174,[.tmp 8],r [B 4 0,B 6 2,o 8 (.mv F)] (q (r [f 2 19 4,v 20 19,c 21 5 [.t 20,i 600],U 22 21,m 23 22,N 23 24 3,og 23 false 25 (.eQ (.t 24)),og 23 false 26 (.bin .gtr (.t 25) (i 200)),P 27 23 26] (d 27 (r [c 28 7 [],m 8 28] .ret) .skip)) (r [n 3 30 4,m 31 1,n 2 32 6,c 33 10 [.t 30,.t 31,.t 32],m 29 33,e 34 29 0,e 35 29 1,m 9 34,m 10 35] (r [n 3 36 4,m 37 1,n 2 38 6,c 39 6 [.t 36,.t 37,.t 38],m 11 39] (q (r [m 40 11,h .neq 41 40 0] (d 41 (r [m 42 10,m 43 11,b .eql 44 42 43,m 45 44,M 45 46 9,og 45 true 47 (.eqk 1 false (.t 46) (.k (.pointer none))),p 48 45 47,m 49 48,og 49 true 50 (.call 17 []),p 51 49 50,m 52 51,og 52 true 53 (.call 7 []),p 54 52 53,m 8 54] .ret) .skip)) (q (r [m 55 10,h .neq 56 55 0,m 57 56,N 57 58 9,og 57 false 59 (.eqk 1 false (.t 58) (.k (.pointer none))),P 60 57 59] (d 60 (r [o 8 (.mv F)] .ret) .skip)) (r [m 61 9,o 62 (.bsl 1 1 [.pointer none] [(0,(1,.t 61))]),n 3 63 4,m 64 1,n 2 65 6,c 66 18 [.t 63,.t 64,.t 65],o 67 (.bsl 1 10 [z,y,y,y,z,z,z,z,y,.bool false] [(0,(10,.t 66))]),m 12 62,m 13 67] (q (r [o 14 (.mv (i 0))] (.block 0 (.loop (q (r [m 68 14,m 69 3,L 70 69,b .lss 71 68 70] (d 71 .skip (.exit 0))) (q (.block 1 (r [m 74 3,m 75 14,j 1 76 74 75,v 77 76,o 78 (.B9 .i64 (.t 77)),h .quo 79 78 2,m 80 12,L 81 80,b .rem 82 79 81,m 15 82] (q (r [m 83 3,m 84 14,j 1 85 83 84,v 86 85,o 87 (.bin .rem (.t 86) (.k (.int .u8 2))),o 88 (.bin .eql (.t 87) (.k (.int .u8 1))),m 89 88,M 89 90 12,og 89 true 91 (.eQ (.t 90)),og 89 true 92 (.bin .lss (.t 91) (i 8)),p 93 89 92] (d 93 (r [m 94 12,m 95 15,j 1 96 94 95,v 97 96,c 98 19 [.t 97],m 16 98] (q (r [m 99 16,o 100 (.eqk 1 false (.t 99) (.k (.pointer none)))] (d 100 (r [o 8 (.mv F)] .ret) .skip)) (q (.bO [m 101 12,m 102 16,o 103 (.bsl 1 1 [.pointer none] [(0,(1,.t 102))]),m 105 13,m 106 13,m 107 15,j 10 108 106 107,n 10 109 108,o 104 (.app 1 8 (.t 101) (.t 103)),c 110 20 [.t 109],o 111 (.bsl 1 10 [z,y,y,y,z,z,z,z,y,.bool false] [(0,(10,.t 110))]),o 112 (.app 10 144 (.t 105) (.t 111)),m 12 104,m 13 112] [(0,(7,8))]) (.exit 1)))) .skip)) (r [m 113 13,m 114 15,j 10 115 113 114,n 10 116 115,c 117 21 [.t 116],m 17 117] (q (.bO [m 118 13,m 119 15,n 3 120 4,f 1 121 6,v 122 121,m 123 13,m 124 15,j 10 125 123 124,n 10 126 125,c 127 22 [.t 120,.t 122,.t 126],j 10 128 118 119,s (.st 10 (.t 128) (.t 127))] []) (q (r [m 129 12,m 130 15,j 1 131 129 130,v 132 131,c 133 13 [.t 132],m 134 17,U 135 134,m 136 135,M 136 137 13,M 136 138 15,og 136 true 139 (.ia 10 (.t 137) (.t 138)),og 136 true 140 (.fa 9 (.t 139)),og 136 true 141 (.ld (.t 140)),og 136 true 142 (.un .not (.t 141)),p 143 136 142,o 144 (.eqk 0 true (.t 133) (.t 143))] (d 144 (r [o 8 (.mv F)] .ret) .skip)) (r [o 18 (.mv (i 0))] (.block 2 (.loop (q (r [m 145 18,m 146 12,L 147 146,b .lss 148 145 147] (d 148 .skip (.exit 2))) (q (.block 3 (q (.bO [m 151 12,m 152 18,j 1 153 151 152,v 154 153,m 155 13,m 156 18,j 10 157 155 156,n 10 158 157,c 159 23 [.t 154,.t 158],U 160 159] []) (d 160 (r [o 8 (.mv F)] .ret) .skip))) (.cL [m 149 18,h .add 150 149 1,m 18 150])))))))))))) (.cL [m 72 14,h .add 73 72 1,m 14 73])))))) (q (.bO [m 161 12,o 162 (.ia 1 (.t 161) (i 0)),v 163 162,m 164 13,o 165 (.ia 10 (.t 164) (i 0)),n 10 166 165,c 167 23 [.t 163,.t 166],m 168 167,og 168 true 169 (.call 17 []),p 170 168 169,m 171 170,og 171 true 172 (.call 7 []),p 173 171 172,m 8 173] []) .ret))))))))⟩
theorem c4:ar Tryz.prog Tryz.f4=some a4:=by kernel_rfl
def a5:AF:=⟨2,10,[.tmp 4],r [o 4 (.mv F)] (r [m 5 0,m 6 1,h .add 7 6 1,c 8 24 [.t 5,.t 7],h .gtr 9 8 0,m 4 9] .ret)⟩
theorem c5:ar Tryz.prog Tryz.f5=some a5:=by kernel_rfl
def a6:AF:=⟨3,20,[.tmp 6],r [B 3 0,B 5 2,o 6 (.mv (i 0))] (q (r [n 3 7 3,c 8 25 [.t 7],U 9 8] (d 9 (r [o 6 (.mv (i 30))] .ret) .skip)) (q (r [m 10 1,h .lss 11 10 0,m 12 11,N 12 13 1,og 12 false 14 (.bin .gtr (.t 13) (i 4096)),P 15 12 14] (d 15 (r [o 6 (.mv (i 1))] .ret) .skip)) (q (r [n 3 16 3,n 2 17 5,c 18 26 [.t 16,.t 17],U 19 18] (d 19 (r [o 6 (.mv (i 50))] .ret) .skip)) (r [o 6 (.mv (i 0))] .ret))))⟩
theorem c6:ar Tryz.prog Tryz.f6=some a6:=by kernel_rfl
def a7:AF:=⟨0,96,[.tmp 0],r [o 0 (.mv F)] (r [c 13 27 [],o 14 (.bsl 1 1 [z] [(0,(1,i 0))]),o 15 (.build [y,y] [(0,(1,.t 14))]),o 1 (.alloc [z,y,y]),o 2 (.alloc [y,y]),s (.st 3 (.t 1) (.t 13)),s (.st 2 (.t 2) (.t 15))] (r [n 3 17 1,n 2 18 2,c 19 28 [.t 17,i 9,.t 18],m 16 19,e 20 16 0,e 21 16 1,o 3 (.alloc [z,y,y,y,z,z,z]),s (.st 7 (.t 3) (.t 20)),m 4 21] (r [n 3 23 1,n 2 24 2,c 25 10 [.t 23,i 1,.t 24],m 22 25,e 26 22 0,e 27 22 1,m 5 26,m 6 27] (q (r [m 28 4,h .neq 29 28 0,m 30 29,N 30 31 6,og 30 false 32 (.bin .neq (.t 31) (i 0)),P 33 30 32,m 34 33,N 34 35 5,og 34 false 36 (.eqk 1 false (.t 35) (.k (.pointer none))),P 37 34 36,m 38 37,og 38 false 39 (.ldn 3 (.t 1)),og 38 false 40 (.ldn 2 (.t 2)),og 38 false 41 (.call 29 [.t 39,.t 40]),og 38 false 42 (.bin .neq (.t 41) (i 0)),P 43 38 42] (d 43 (r [o 0 (.mv F)] .ret) .skip)) (r [m 44 5,c 45 13 [.t 44],m 7 45] (r [m 47 5,c 48 30 [.t 47],m 46 48,e 49 46 0,e 50 46 1,m 8 49,m 9 50] (r [m 51 5,c 52 13 [.t 51],m 10 52] (r [m 54 5,c 55 11 [.t 54],m 53 55,e 56 53 0,e 57 53 1,o 11 (.alloc [z,y,y,y,z,z,z]),s (.st 7 (.t 11) (.t 56)),m 12 57] (r [n 7 58 3,o 59 (.bsl 1 1 [z] [(0,(1,i 0))]),o 60 (.build [z,z] [(1,(1,i 1))]),o 61 (.bsl 1 2 [z,z] [(0,(2,.t 60))]),o 62 (.build [z,y,y,y,z,z,z] [(0,(1,i 2)),(1,(1,.t 59)),(2,(1,.t 61)),(4,(1,i 6)),(6,(1,i 1))]),c 63 15 [.t 58,.t 62],m 64 63,M 64 65 7,p 66 64 65,m 67 66,M 67 68 8,og 67 true 69 (.bin .eql (.t 68) (i 1)),p 70 67 69,m 71 70,M 71 72 9,p 73 71 72,m 74 73,M 74 75 10,og 74 true 76 (.un .not (.t 75)),p 77 74 76,m 78 77,M 78 79 12,p 80 78 79,m 81 80,og 81 true 82 (.fa 0 (.t 11)),og 81 true 83 (.ld (.t 82)),og 81 true 84 (.bin .eql (.t 83) (i 3)),p 85 81 84,m 86 85,og 86 true 87 (.fa 6 (.t 11)),og 86 true 88 (.ld (.t 87)),og 86 true 89 (.bin .eql (.t 88) (i 1)),p 90 86 89,m 91 90,og 91 true 92 (.fa 4 (.t 11)),og 91 true 93 (.ld (.t 92)),og 91 true 94 (.bin .eql (.t 93) (i 4)),p 95 91 94,m 0 95] .ret)))))))))⟩
theorem c7:ar Tryz.prog Tryz.f7=some a7:=by kernel_rfl
def a9:AF:=⟨1,19,[.tmp 2],r [o 2 (.mv (.k (.slice none 0 0)))] (r [o 3 (.mv (.k (.slice none 0 0)))] (q (r [o 4 (.mv (i 0))] (.block 0 (.loop (q (r [m 5 4,m 6 0,L 7 6,b .lss 8 5 7] (d 8 .skip (.exit 0))) (q (.block 1 (.cL [m 11 3,m 12 0,m 13 4,j 1 14 12 13,v 15 14,o 16 (.bsl 1 1 [z] [(0,(1,.t 15))]),o 17 (.app 1 8 (.t 11) (.t 16)),m 3 17])) (.cL [m 9 4,h .add 10 9 1,m 4 10])))))) (r [m 18 3,m 2 18] .ret)))⟩
theorem c9:ar Tryz.prog Tryz.f9=some a9:=by kernel_rfl
def WW:AF:=⟨3,81,[.tmp 6,.tmp 7],r [B 3 0,B 5 2,o 6 (.mv (.k (.pointer none))),o 7 (.mv (i 0))] (q (r [n 3 11 3,c 12 32 [.t 11],h .neq 13 12 0] (d 13 (r [o 6 (.mv (.k (.pointer none))),o 7 (.mv (i 30))] .ret) .skip)) (q (r [m 14 1,h .lss 15 14 0,m 16 15,N 16 17 1,og 16 false 18 (.bin .gtr (.t 17) (i 4096)),P 19 16 18] (d 19 (r [o 6 (.mv (.k (.pointer none))),o 7 (.mv (i 1))] .ret) .skip)) (q (r [n 3 20 3,n 2 21 5,c 22 33 [.t 20,.t 21],U 23 22] (d 23 (r [o 6 (.mv (.k (.pointer none))),o 7 (.mv (i 50))] .ret) .skip)) (q (.bO [n 3 24 3,m 25 1,f 1 26 5,v 27 26,c 28 34 [.t 27],o 29 (.build [y,z,y,y,z,y,z,y,y,y,z,z,z,.bool false] [(1,(3,.t 24)),(4,(1,.t 25)),(5,(1,.t 28))]),B 30 29,m 8 30] [(0,(0,4))]) (r [m 31 8,f 1 32 3,v 33 32,c 34 35 [.t 33],o 35 (.bB (.t 31)),f 1 36 35,f 1 37 36,s (.st 1 (.t 37) (.t 34))] (r [m 38 8,o 39 (.bB (.t 38)),f 1 40 39,f 2 41 40,s (.st 1 (.t 41) (.k (.slice none 0 0)))] (q (r [f 2 42 3,v 43 42,L 44 43,o 45 (.mv (i 0))] (.block 0 (.loop (r [b .lss 46 45 44] (q (d 46 .skip (.exit 0)) (q (.block 1 (r [j 5 47 43 45,n 5 48 47,o 10 (.alloc [z,z,y,y,y]),s (.st 5 (.t 10) (.t 48))] (.bO [m 49 8,o 50 (.bB (.t 49)),f 1 51 50,f 2 52 51,v 53 52,n 5 54 10,L 56 53,o 57 (.bsl 1 5 [z,z,y,y,y] [(0,(5,.k (.agg #[z,z,y,y,y])))]),c 55 36 [.t 54],o 58 (.app 5 88 (.t 53) (.t 57)),j 5 59 58 56,o 60 (.bB (.t 49)),f 1 61 60,f 2 62 61,s (.st 5 (.t 59) (.t 55)),s (.st 1 (.t 62) (.t 58))] [(0,(4,8)),(1,(7,8)),(2,(14,15))]))) (.cL [h .add 63 45 1,m 45 63]))))))) (r [m 64 8,f 0 65 5,v 66 65,c 67 34 [.t 66],o 68 (.bB (.t 64)),f 6 69 68,f 1 70 69,s (.st 1 (.t 70) (.t 67))] (q (.bO [m 71 8,o 72 (.bB (.t 71)),f 0 73 72,m 74 8,o 75 (.bB (.t 74)),f 1 76 75,f 2 77 76,v 78 77,c 79 37 [.t 73,.t 78,i 0]] []) (r [m 80 8,m 6 80,o 7 (.mv (i 0))] .ret))))))))))⟩
theorem c10:ar Tryz.prog Tryz.f10=some WW:=by kernel_rfl
def N2:AF:=⟨1,25,[.cells 2 7,.tmp 3],r [o 2 (.alloc [z,y,y,y,z,z,z]),o 3 (.mv F)] (q (r [m 4 0,o 5 (.eqk 1 false (.t 4) (.k (.pointer none)))] (d 5 (r [o 6 (.build [z,y,y,y,z,z,z] []),s (.st 7 (.t 2) (.t 6)),o 3 (.mv F)] .ret) .skip)) (q (.bO [m 7 0,o 8 (.bB (.t 7)),f 6 9 8,n 7 10 9,m 12 0,o 13 (.bB (.t 12)),f 13 14 13,v 15 14,c 11 38 [.t 10],m 16 15,N 16 17 0,og 16 false 18 (.bB (.t 17)),og 16 false 19 (.fa 0 (.t 18)),og 16 false 20 (.fa 0 (.t 19)),og 16 false 21 (.ld (.t 20)),og 16 false 22 (.eQ (.t 21)),og 16 false 23 (.bin .eql (.t 22) (i 0)),P 24 16 23,s (.st 7 (.t 2) (.t 11)),m 3 24] [(0,(7,8)),(2,(14,18))]) .ret))⟩
theorem c11:ar Tryz.prog Tryz.f11=some N2:=by kernel_rfl
def Q9:AF:=⟨1,11,[.tmp 2],r [o 2 (.mv (.k (.slice none 0 0)))] (q (r [m 3 0,o 4 (.eqk 1 false (.t 3) (.k (.pointer none)))] (d 4 (r [o 2 (.mv (.k (.slice none 0 0)))] .ret) .skip)) (r [m 5 0,o 6 (.bB (.t 5)),f 6 7 6,f 1 8 7,v 9 8,c 10 34 [.t 9],m 2 10] .ret))⟩
theorem c12:ar Tryz.prog Tryz.f12=some Q9:=by kernel_rfl
def LL:AF:=⟨1,71,[.tmp 2],r [o 2 (.mv F)] (q (r [m 7 0,o 8 (.eqk 1 false (.t 7) (.k (.pointer none))),m 9 8,N 9 10 0,og 9 false 11 (.bB (.t 10)),og 9 false 12 (.fa 13 (.t 11)),og 9 false 13 (.ld (.t 12)),P 14 9 13] (d 14 (r [o 2 (.mv F)] .ret) .skip)) (r [m 16 0,o 17 (.bB (.t 16)),f 0 18 17,c 19 39 [.t 18],m 15 19,e 20 15 0,e 21 15 1,e 22 15 2,o 3 (.alloc [z,z,y,y,y]),s (.st 5 (.t 3) (.t 20)),m 4 21,m 5 22] (q (r [m 23 5,U 24 23] (d 24 (r [o 2 (.mv F)] .ret) .skip)) (q (r [m 25 0,o 26 (.bB (.t 25)),f 4 27 26,v 28 27,h .eql 29 28 0] (d 29 (r [m 30 0,m 31 4,c 32 40 [.t 30,i 3,.t 31],m 2 32] .ret) .skip)) (r [m 33 0,o 34 (.bB (.t 33)),f 4 35 34,v 36 35,h .sub 37 36 1,o 38 (.bB (.t 33)),f 4 39 38,s (.st 1 (.t 39) (.t 37))] (r [m 40 0,o 41 (.bB (.t 40)),f 6 42 41,f 4 43 42,v 44 43,h .add 45 44 1,o 46 (.bB (.t 40)),f 6 47 46,f 4 48 47,s (.st 1 (.t 48) (.t 45))] (r [m 49 0,o 50 (.mkf 41 [.t 49] []),m 51 0,o 52 (.mkf 42 [.t 51] []),m 53 0,o 54 (.mkf 43 [.t 53] []),m 55 0,o 56 (.mkf 44 [.t 55] []),m 57 0,o 58 (.mkf 45 [.t 57] []),m 59 0,o 60 (.mkf 46 [.t 59] []),m 61 0,o 62 (.mkf 47 [.t 61] []),o 63 (.build [.nilFunc,.nilFunc,.nilFunc,.nilFunc,.nilFunc,.nilFunc,.nilFunc] [(0,(1,.t 50)),(1,(1,.t 52)),(2,(1,.t 54)),(3,(1,.t 56)),(4,(1,.t 58)),(5,(1,.t 60)),(6,(1,.t 62))]),o 6 (.alloc [.nilFunc,.nilFunc,.nilFunc,.nilFunc,.nilFunc,.nilFunc,.nilFunc]),s (.st 7 (.t 6) (.t 63))] (q (.bO [f 0 64 3,v 65 64,o 66 (.wz 7 1 (.t 6) (.t 65)),v 67 66,n 5 68 3,m 69 4,o 70 (.callv (.t 67) [.t 68,.t 69]),m 2 70] []) .ret))))))))⟩
theorem c13:ar Tryz.prog Tryz.f13=some LL:=by kernel_rfl
def LM:AF:=⟨2,52,[.tmp 4],r [B 2 0,B 3 1,o 4 (.mv F)] (r [f 0 5 2,v 6 5,f 0 7 3,v 8 7,b .eql 9 6 8,m 10 9,og 10 true 11 (.fa 1 (.t 2)),og 10 true 12 (.ld (.t 11)),og 10 true 13 (.fa 1 (.t 3)),og 10 true 14 (.ld (.t 13)),og 10 true 15 (.call 50 [.t 12,.t 14]),p 16 10 15,m 17 16,og 17 true 18 (.fa 2 (.t 2)),og 17 true 19 (.ld (.t 18)),og 17 true 20 (.fa 2 (.t 3)),og 17 true 21 (.ld (.t 20)),og 17 true 22 (.call 51 [.t 19,.t 21]),p 23 17 22,m 24 23,og 24 true 25 (.fa 3 (.t 2)),og 24 true 26 (.ld (.t 25)),og 24 true 27 (.fa 3 (.t 3)),og 24 true 28 (.ld (.t 27)),og 24 true 29 (.call 52 [.t 26,.t 28]),p 30 24 29,m 31 30,og 31 true 32 (.fa 4 (.t 2)),og 31 true 33 (.ld (.t 32)),og 31 true 34 (.fa 4 (.t 3)),og 31 true 35 (.ld (.t 34)),og 31 true 36 (.bin .eql (.t 33) (.t 35)),p 37 31 36,m 38 37,og 38 true 39 (.fa 5 (.t 2)),og 38 true 40 (.ld (.t 39)),og 38 true 41 (.fa 5 (.t 3)),og 38 true 42 (.ld (.t 41)),og 38 true 43 (.bin .eql (.t 40) (.t 42)),p 44 38 43,m 45 44,og 45 true 46 (.fa 6 (.t 2)),og 45 true 47 (.ld (.t 46)),og 45 true 48 (.fa 6 (.t 3)),og 45 true 49 (.ld (.t 48)),og 45 true 50 (.bin .eql (.t 47) (.t 49)),p 51 45 50,m 4 51] .ret)⟩
theorem c15:ar Tryz.prog Tryz.f15=some LM:=by kernel_rfl
def WX:AF:=⟨0,47,[.tmp 0],r [o 0 (.mv F)] (r [o 1 (.mv (.k (.pointer none)))] (r [m 7 1,c 8 30 [.t 7],m 6 8,e 9 6 0,e 10 6 1,m 2 9,m 3 10] (r [m 12 1,c 13 11 [.t 12],m 11 13,e 14 11 0,e 15 11 1,o 4 (.alloc [z,y,y,y,z,z,z]),s (.st 7 (.t 4) (.t 14)),m 5 15] (r [m 16 1,c 17 13 [.t 16],U 18 17,m 19 18,M 19 20 2,og 19 true 21 (.bin .eql (.t 20) (i 0)),p 22 19 21,m 23 22,M 23 24 3,og 23 true 25 (.un .not (.t 24)),p 26 23 25,m 27 26,og 27 true 28 (.ldn 7 (.t 4)),og 27 true 29 (.build [z,y,y,y,z,z,z] []),og 27 true 30 (.call 15 [.t 28,.t 29]),p 31 27 30,m 32 31,M 32 33 5,og 32 true 34 (.un .not (.t 33)),p 35 32 34,m 36 35,M 36 37 1,og 36 true 38 (.call 12 [.t 37]),og 36 true 39 (.eQ (.t 38)),og 36 true 40 (.bin .eql (.t 39) (i 0)),p 41 36 40,m 42 41,M 42 43 1,og 42 true 44 (.call 19 [.t 43]),og 42 true 45 (.eqk 1 false (.t 44) (.k (.pointer none))),p 46 42 45,m 0 46] .ret))))⟩
theorem c17:ar Tryz.prog Tryz.f17=some WX:=by kernel_rfl
def WY:AF:=⟨3,16,[.cells 6 10],r [B 3 0,B 5 2,o 6 (.alloc [z,y,y,y,z,z,z,z,y,.bool false])] (q (.bO [f 0 7 5,v 8 7,m 11 1,f 2 12 3,v 13 12,c 9 9 [.t 8],o 10 (.build [z,y,y,y,z,z,z] [(1,(1,.t 9))]),c 14 53 [.t 13,i 0],o 15 (.build [z,y,y,y,z,z,z,z,y,.bool false] [(0,(7,.t 10)),(7,(1,.t 11)),(8,(1,.t 14))]),s (.st 10 (.t 6) (.t 15))] [(0,(4,5))]) .ret)⟩
theorem c18:ar Tryz.prog Tryz.f18=some WY:=by kernel_rfl
def Ra:AF:=⟨1,23,[.tmp 2],r [o 2 (.mv (.k (.pointer none)))] (q (r [m 4 0,o 5 (.eqk 1 false (.t 4) (.k (.pointer none)))] (d 5 (r [o 2 (.mv (.k (.pointer none)))] .ret) .skip)) (r [m 6 0,o 7 (.bB (.t 6)),n 14 8 7,o 3 (.alloc [y,z,y,y,z,y,z,y,y,y,z,z,z,.bool false]),s (.st 14 (.t 3) (.t 8))] (r [m 9 0,o 10 (.bB (.t 9)),f 0 11 10,f 0 12 11,v 13 12,c 14 54 [.t 13],f 0 15 3,f 0 16 15,s (.st 1 (.t 16) (.t 14))] (r [m 17 0,o 18 (.bB (.t 17)),f 6 19 18,n 7 20 19,c 21 38 [.t 20],f 6 22 3,s (.st 7 (.t 22) (.t 21))] (r [m 2 3] .ret)))))⟩
theorem c19:ar Tryz.prog Tryz.f19=some Ra:=by kernel_rfl
def WZ:AF:=⟨1,13,[.cells 2 10],r [B 1 0,o 2 (.alloc [z,y,y,y,z,z,z,z,y,.bool false])] (r [f 0 3 1,n 7 4 3,c 5 55 [.t 4],f 0 6 1,s (.st 7 (.t 6) (.t 5))] (r [o 7 (.bsl 0 6 [] []),f 8 8 1,v 9 8,o 10 (.app 6 96 (.t 7) (.t 9)),f 8 11 1,s (.st 1 (.t 11) (.t 10))] (r [n 10 12 1,s (.st 10 (.t 2) (.t 12))] .ret)))⟩
theorem c20:ar Tryz.prog Tryz.f20=some WZ:=by kernel_rfl
def Tq:AF:=⟨1,11,[.tmp 2],r [B 1 0,o 2 (.mv F)] (r [f 9 3 1,v 4 3,m 5 4,og 5 false 6 (.fa 8 (.t 1)),og 5 false 7 (.ld (.t 6)),og 5 false 8 (.eQ (.t 7)),og 5 false 9 (.bin .eql (.t 8) (i 0)),P 10 5 9,m 2 10] .ret)⟩
theorem c21:ar Tryz.prog Tryz.f21=some Tq:=by kernel_rfl
def Rb:AF:=⟨3,100,[.cells 6 10],r [B 3 0,B 5 2,o 6 (.alloc [z,y,y,y,z,z,z,z,y,.bool false])] (q (r [n 10 12 5,c 13 21 [.t 12]] (d 13 (r [n 10 14 5,s (.st 10 (.t 6) (.t 14))] .ret) .skip)) (r [f 8 15 5,v 16 15,o 17 (.ia 6 (.t 16) (i 0)),n 6 18 17,o 7 (.alloc [z,z,z,y,y,y]),s (.st 6 (.t 7) (.t 18))] (q (r [f 7 19 5,v 20 19,h .eql 21 20 0] (d 21 (r [n 10 22 5,f 0 23 7,v 24 23,c 25 56 [.t 22,i 3,.t 24],s (.st 10 (.t 6) (.t 25))] .ret) .skip)) (r [f 8 26 5,v 27 26,o 28 (.sl 6 (.t 27) (some (i 1)) none none),m 8 28] (r [o 29 (.bsl 0 6 [] []),m 30 8,o 31 (.app 6 96 (.t 29) (.t 30)),f 8 32 5,s (.st 1 (.t 32) (.t 31))] (r [f 7 33 5,v 34 33,h .sub 35 34 1,f 7 36 5,s (.st 1 (.t 36) (.t 35))] (r [f 0 37 5,f 4 38 37,v 39 38,h .add 40 39 1,f 0 41 5,f 4 42 41,s (.st 1 (.t 42) (.t 40))] (r [o 9 (.mv (.k (.slice none 0 0)))] (q (r [o 10 (.mv (i 0))] (.block 0 (.loop (q (r [m 43 10,f 1 44 7,f 2 45 44,v 46 45,L 47 46,b .lss 48 43 47] (d 48 .skip (.exit 0))) (q (.block 1 (r [f 1 51 7,f 2 52 51,v 53 52,m 54 10,j 4 55 53 54,n 4 56 55,o 11 (.alloc [z,z,z,y]),s (.st 4 (.t 11) (.t 56))] (r [m 57 9,f 0 58 3,v 59 58,f 1 60 3,v 61 60,f 0 62 5,f 1 63 62,v 64 63,o 65 (.bsl 1 1 [y] [(0,(1,.t 64))]),n 4 66 11,c 67 57 [.t 59,.t 61,.t 65,.t 66],o 68 (.bsl 1 1 [z] [(0,(1,.t 67))]),o 69 (.app 1 8 (.t 57) (.t 68)),m 9 69] (q (.bO [f 0 70 5,f 4 71 70,v 72 71,n 4 73 11,c 74 58 [.t 73],b .add 75 72 74,f 0 76 5,f 4 77 76,s (.st 1 (.t 77) (.t 75))] [(0,(2,4))]) (.bO [f 0 78 5,f 3 79 78,v 80 79,f 0 81 3,v 82 81,f 1 83 3,v 84 83,f 0 85 5,f 1 86 85,v 87 86,n 4 88 11,c 89 59 [.t 82,.t 84,.t 87,.t 88],o 90 (.app 3 24 (.t 80) (.t 89)),f 0 91 5,f 3 92 91,s (.st 1 (.t 92) (.t 90))] [(0,(2,11))]))))) (.cL [m 49 10,h .add 50 49 1,m 10 50])))))) (r [n 3 93 3,m 94 1,n 10 95 5,n 6 96 7,m 97 9,m 98 8,c 99 60 [.t 93,.t 94,.t 95,.t 96,.t 97,.t 98],s (.st 10 (.t 6) (.t 99))] .ret))))))))))⟩
theorem c22:ar Tryz.prog Tryz.f22=some Rb:=by kernel_rfl
def W0:AF:=⟨2,58,[.tmp 4],r [B 3 1,o 4 (.mv F)] (r [m 11 0,c 12 30 [.t 11],m 10 12,e 13 10 0,e 14 10 1,m 5 13,m 6 14] (r [m 16 0,c 17 11 [.t 16],m 15 17,e 18 15 0,e 19 15 1,o 7 (.alloc [z,y,y,y,z,z,z]),s (.st 7 (.t 7) (.t 18)),m 8 19] (r [o 9 (.mv (i 0))] (q (r [n 10 20 3,c 21 21 [.t 20],U 22 21] (d 22 (.cL [f 8 23 3,v 24 23,o 25 (.ia 6 (.t 24) (i 0)),f 0 26 25,v 27 26,m 9 27]) .skip)) (q (.bO [m 28 6,n 10 29 3,c 30 21 [.t 29],U 31 30,o 32 (.eqk 0 false (.t 28) (.t 31)),m 33 32,M 33 34 5,M 33 35 9,og 33 true 36 (.bin .eql (.t 34) (.t 35)),p 37 33 36,m 38 37,M 38 39 8,og 38 true 40 (.ldn 10 (.t 3)),og 38 true 41 (.call 21 [.t 40]),og 38 true 42 (.eqk 0 false (.t 39) (.t 41)),p 43 38 42,m 44 43,og 44 true 45 (.ldn 7 (.t 7)),og 44 true 46 (.fa 0 (.t 3)),og 44 true 47 (.ldn 7 (.t 46)),og 44 true 48 (.call 15 [.t 45,.t 47]),p 49 44 48,m 50 49,M 50 51 0,og 50 true 53 (.fa 0 (.t 3)),og 50 true 54 (.fa 1 (.t 53)),og 50 true 55 (.ld (.t 54)),og 50 true 52 (.call 12 [.t 51]),og 50 true 56 (.call 50 [.t 52,.t 55]),p 57 50 56,m 4 57] [(0,(26,27))]) .ret)))))⟩
theorem c23:ar Tryz.prog Tryz.f23=some W0:=by kernel_rfl
def W3:AF:=⟨2,54,[.tmp 4],r [o 4 (.mv (i 0))] (q (r [o 5 (.mv (i 0))] (.block 0 (.loop (q (r [m 7 5,m 8 0,L 9 8,b .lss 10 7 9,m 11 10,M 11 12 1,og 11 true 13 (.bin .gtr (.t 12) (i 0)),p 14 11 13] (d 14 .skip (.exit 0))) (q (.block 1 (r [m 17 1,h .sub 18 17 1,m 1 18] (q (r [o 6 (.mv (i 0))] (.block 2 (.loop (q (r [m 19 6,m 20 0,m 21 5,j 5 22 20 21,f 2 23 22,v 24 23,L 25 24,b .lss 26 19 25] (d 26 .skip (.exit 2))) (q (.block 3 (.cL [m 29 0,m 30 5,j 5 31 29 30,f 2 32 31,v 33 32,m 34 6,j 4 35 33 34,n 4 36 35,m 37 1,c 38 61 [.t 36,.t 37],m 1 38])) (.cL [m 27 6,h .add 28 27 1,m 6 28])))))) (r [m 39 0,m 40 5,j 5 41 39 40,f 3 42 41,v 43 42,m 44 1,c 45 24 [.t 43,.t 44],m 1 45] (.cL [m 46 0,m 47 5,j 5 48 46 47,f 4 49 48,v 50 49,m 51 1,c 52 24 [.t 50,.t 51],m 1 52]))))) (.cL [m 15 5,h .add 16 15 1,m 5 16])))))) (r [m 53 1,m 4 53] .ret))⟩
theorem c24:ar Tryz.prog Tryz.f24=some W3:=by kernel_rfl
def W4:AF:=⟨1,28,[.tmp 2],r [B 1 0,o 2 (.mv F)] (r [f 0 3 1,v 4 3,f 1 5 1,v 6 5,c 7 62 [.t 4,.t 6],m 8 7,og 8 true 9 (.fa 2 (.t 1)),og 8 true 10 (.ld (.t 9)),og 8 true 11 (.call 5 [.t 10,i 400]),p 12 8 11,m 13 12,og 13 true 14 (.fa 2 (.t 1)),og 13 true 15 (.ld (.t 14)),og 13 true 16 (.call 63 [.t 15]),og 13 true 17 (.bin .leq (.t 16) (i 16)),p 18 13 17,m 19 18,og 19 true 20 (.fa 0 (.t 1)),og 19 true 21 (.ld (.t 20)),og 19 true 22 (.fa 1 (.t 1)),og 19 true 23 (.ld (.t 22)),og 19 true 24 (.fa 2 (.t 1)),og 19 true 25 (.ld (.t 24)),og 19 true 26 (.call 64 [.t 21,.t 23,.t 25]),p 27 19 26,m 2 27] .ret)⟩
theorem c25:ar Tryz.prog Tryz.f25=some W4:=by kernel_rfl
def W5:AF:=⟨2,25,[.tmp 4],r [B 2 0,B 3 1,o 4 (.mv F)] (r [f 0 5 2,v 6 5,f 1 7 2,v 8 7,f 0 9 3,v 10 9,c 11 65 [.t 6,.t 8,.t 10],m 12 11,og 12 true 13 (.fa 1 (.t 3)),og 12 true 14 (.ld (.t 13)),og 12 true 15 (.eQ (.t 14)),og 12 true 16 (.bin .leq (.t 15) (i 16)),p 17 12 16,m 18 17,og 18 true 19 (.fa 0 (.t 2)),og 18 true 20 (.ld (.t 19)),og 18 true 21 (.fa 1 (.t 3)),og 18 true 22 (.ld (.t 21)),og 18 true 23 (.call 66 [.t 20,.t 22]),p 24 18 23,m 4 24] .ret)⟩
theorem c26:ar Tryz.prog Tryz.f26=some W5:=by kernel_rfl
def a27:AF:=⟨0,16,[.cells 0 3],r [o 0 (.alloc [z,y,y])] (r [c 2 67 [i 0,i 0],o 1 (.alloc [z,z,z,y]),s (.st 4 (.t 1) (.t 2))] (q (.bO [o 3 (.build [.string ⟨#[]⟩,z,z] [(0,(1,.k (.string ⟨#[104]⟩))),(2,(1,i 1))]),o 4 (.bsl 1 3 [.string ⟨#[]⟩,z,z] [(0,(3,.t 3))]),n 4 5 1,n 4 11 1,o 12 (.bsl 1 4 [z,z,z,y] [(0,(4,.t 11))]),o 13 (.build [z,z,y,y,y] [(0,(1,i 6)),(2,(1,.t 12))]),c 6 69 [i 1],o 7 (.bsl 2 4 [z,z,z,y,z,z,z,y] [(0,(4,.t 5)),(4,(4,.t 6))]),c 8 68 [i 2,.t 7],o 9 (.bsl 1 4 [z,z,z,y] [(0,(4,.t 8))]),o 10 (.build [z,z,y,y,y] [(0,(1,i 3)),(2,(1,.t 9))]),o 14 (.bsl 2 5 [z,z,y,y,y,z,z,y,y,y] [(0,(5,.t 10)),(5,(5,.t 13))]),o 15 (.build [z,y,y] [(0,(1,i 2)),(1,(1,.t 4)),(2,(1,.t 14))]),s (.st 3 (.t 0) (.t 15))] [(1,(1,6)),(1,(1,8)),(0,(2,6)),(0,(3,6)),(0,(3,8)),(1,(4,6)),(1,(4,8))]) .ret))⟩
theorem c27:ar Tryz.prog Tryz.f27=some a27:=by kernel_rfl
def a28:AF:=⟨3,31,[.cells 6 7,.tmp 7],r [B 3 0,B 5 2,o 6 (.alloc [z,y,y,y,z,z,z]),o 7 (.mv (i 0))] (r [n 3 13 3,m 14 1,n 2 15 5,c 16 10 [.t 13,.t 14,.t 15],m 12 16,e 17 12 0,e 18 12 1,m 8 17,m 9 18] (q (r [m 19 9,h .neq 20 19 0] (d 20 (r [o 21 (.build [z,y,y,y,z,z,z] []),m 22 9,s (.st 7 (.t 6) (.t 21)),m 7 22] .ret) .skip)) (q (.block 0 (.loop (q (r [m 23 8,c 24 13 [.t 23]] (d 24 .skip (.exit 0))) (.block 1 .skip)))) (r [m 26 8,c 27 11 [.t 26],m 25 27,e 28 25 0,e 29 25 1,o 10 (.alloc [z,y,y,y,z,z,z]),s (.st 7 (.t 10) (.t 28)),m 11 29] (r [n 7 30 10,s (.st 7 (.t 6) (.t 30)),o 7 (.mv (i 0))] .ret)))))⟩
theorem c28:ar Tryz.prog Tryz.f28=some a28:=by kernel_rfl
def a29:AF:=⟨2,12,[.tmp 4],r [B 2 0,B 3 1,o 4 (.mv (i 0))] (q (r [n 3 5 2,c 6 32 [.t 5],h .neq 7 6 0] (d 7 (r [o 4 (.mv (i 30))] .ret) .skip)) (q (r [n 3 8 2,n 2 9 3,c 10 33 [.t 8,.t 9],U 11 10] (d 11 (r [o 4 (.mv (i 50))] .ret) .skip)) (r [o 4 (.mv (i 0))] .ret)))⟩
theorem c29:ar Tryz.prog Tryz.f29=some a29:=by kernel_rfl
def LN:AF:=⟨1,25,[.tmp 2,.tmp 3],r [o 2 (.mv (i 0)),o 3 (.mv F)] (q (r [m 7 0,o 8 (.eqk 1 false (.t 7) (.k (.pointer none))),m 9 8,N 9 10 0,og 9 false 11 (.bB (.t 10)),og 9 false 12 (.fa 13 (.t 11)),og 9 false 13 (.ld (.t 12)),P 14 9 13] (d 14 (r [o 2 (.mv (i 0)),o 3 (.mv F)] .ret) .skip)) (r [m 16 0,o 17 (.bB (.t 16)),f 0 18 17,c 19 39 [.t 18],m 15 19,e 20 15 0,e 21 15 1,e 22 15 2,o 4 (.alloc [z,z,y,y,y]),s (.st 5 (.t 4) (.t 20)),m 5 21,m 6 22] (r [m 23 5,m 24 6,m 2 23,m 3 24] .ret)))⟩
theorem c30:ar Tryz.prog Tryz.f30=some LN:=by kernel_rfl
def W6:AF:=⟨1,12,[.tmp 2],r [B 1 0,o 2 (.mv (i 0))] (q (r [n 3 6 1,c 7 71 [.t 6],m 5 7,e 8 5 0,e 9 5 1,o 3 (.alloc [z,z]),s (.st 2 (.t 3) (.t 8)),m 4 9] (r [m 10 4,U 11 10] (d 11 (r [o 2 (.mv (i 30))] .ret) .skip))) (r [o 2 (.mv (i 0))] .ret))⟩
theorem c32:ar Tryz.prog Tryz.f32=some W6:=by kernel_rfl
def W7:AF:=⟨2,55,[.tmp 4],r [B 2 0,B 3 1,o 4 (.mv F)] (r [o 5 (.mv (i 0))] (q (r [f 1 10 2,v 11 10,L 12 11,o 13 (.mv (i 0))] (.block 0 (.loop (r [b .lss 14 13 12] (q (d 14 .skip (.exit 0)) (q (.block 1 (q (.cL [j 3 15 11 13,n 3 16 15,o 7 (.alloc [.string ⟨#[]⟩,z,z]),s (.st 3 (.t 7) (.t 16))]) (.cL [m 17 5,f 2 18 7,v 19 18,b .add 20 17 19,m 5 20]))) (.cL [h .add 21 13 1,m 13 21]))))))) (q (r [f 0 22 3,v 23 22,L 24 23,m 25 5,b .neq 26 24 25,m 27 26,og 27 false 28 (.fa 1 (.t 3)),og 27 false 29 (.ld (.t 28)),og 27 false 30 (.eQ (.t 29)),og 27 false 31 (.bin .gtr (.t 30) (i 16)),P 32 27 31] (d 32 (r [o 4 (.mv F)] .ret) .skip)) (q (q (.bO [f 0 33 3,v 34 33,f 1 36 3,v 37 36,o 40 (.mv (i 0)),c 35 34 [.t 34],o 38 (.app 1 8 (.t 35) (.t 37)),L 39 38] [(0,(3,5))]) (.block 2 (.loop (r [b .lss 41 40 39] (q (d 41 .skip (.exit 2)) (q (.block 3 (r [j 1 42 38 40,v 43 42,m 9 43] (r [m 44 9,h .lss 45 44 0,m 46 45,N 46 47 9,og 46 false 48 (.fa 0 (.t 2)),og 46 false 49 (.ld (.t 48)),og 46 false 50 (.B9 .u64 (.t 49)),og 46 false 51 (.bin .shl (i 1) (.t 50)),og 46 false 52 (.bin .geq (.t 47) (.t 51)),P 53 46 52] (d 53 (r [o 4 (.mv F)] .ret) .skip)))) (.cL [h .add 54 40 1,m 40 54]))))))) (r [o 4 (.mv W)] .ret)))))⟩
theorem c33:ar Tryz.prog Tryz.f33=some W7:=by kernel_rfl
def a34:AF:=⟨1,8,[.tmp 2],r [o 2 (.mv (.k (.slice none 0 0)))] (q (r [m 3 0,o 4 (.eqk 2 false (.t 3) (.k (.slice none 0 0)))] (d 4 (r [o 2 (.mv (.k (.slice none 0 0)))] .ret) .skip)) (r [o 5 (.bsl 0 1 [] []),m 6 0,o 7 (.app 1 8 (.t 5) (.t 6)),m 2 7] .ret))⟩
theorem c34:ar Tryz.prog Tryz.f34=some a34:=by kernel_rfl
def a35:AF:=⟨1,8,[.tmp 2],r [o 2 (.mv (.k (.slice none 0 0)))] (q (r [m 3 0,o 4 (.eqk 2 false (.t 3) (.k (.slice none 0 0)))] (d 4 (r [o 2 (.mv (.k (.slice none 0 0)))] .ret) .skip)) (r [o 5 (.bsl 0 3 [] []),m 6 0,o 7 (.app 3 32 (.t 5) (.t 6)),m 2 7] .ret))⟩
theorem c35:ar Tryz.prog Tryz.f35=some a35:=by kernel_rfl
def W8:AF:=⟨1,44,[.cells 2 5],r [B 1 0,o 2 (.alloc [z,z,y,y,y])] (r [f 2 9 1,v 10 9,c 11 72 [.t 10],f 2 12 1,s (.st 1 (.t 12) (.t 11))] (r [o 3 (.mv (.k (.slice none 0 0))),o 4 (.mv (.k (.slice none 0 0)))] (q (r [f 3 13 1,v 14 13,L 15 14,o 16 (.mv (i 0))] (.block 0 (.loop (r [b .lss 17 16 15] (q (d 17 .skip (.exit 0)) (q (.block 1 (r [j 5 18 14 16,n 5 19 18,o 6 (.alloc [z,z,y,y,y]),s (.st 5 (.t 6) (.t 19))] (.cL [m 20 3,n 5 21 6,c 22 36 [.t 21],o 23 (.bsl 1 5 [z,z,y,y,y] [(0,(5,.t 22))]),o 24 (.app 5 88 (.t 20) (.t 23)),m 3 24]))) (.cL [h .add 25 16 1,m 16 25]))))))) (q (r [f 4 26 1,v 27 26,L 28 27,o 29 (.mv (i 0))] (.block 2 (.loop (r [b .lss 30 29 28] (q (d 30 .skip (.exit 2)) (q (.block 3 (r [j 5 31 27 29,n 5 32 31,o 8 (.alloc [z,z,y,y,y]),s (.st 5 (.t 8) (.t 32))] (.cL [m 33 4,n 5 34 8,c 35 36 [.t 34],o 36 (.bsl 1 5 [z,z,y,y,y] [(0,(5,.t 35))]),o 37 (.app 5 88 (.t 33) (.t 36)),m 4 37]))) (.cL [h .add 38 29 1,m 29 38]))))))) (r [m 39 3,m 40 4,f 3 41 1,s (.st 1 (.t 41) (.t 39)),f 4 42 1,s (.st 1 (.t 42) (.t 40))] (r [n 5 43 1,s (.st 5 (.t 2) (.t 43))] .ret))))))⟩
theorem c36:ar Tryz.prog Tryz.f36=some W8:=by kernel_rfl
def Tr:AF:=⟨3,21,[],r [m 6 1,L 7 6,h .gtr 8 7 0] (d 8 (.cL [m 9 0,m 10 0,o 11 (.bB (.t 10)),f 0 12 11,v 13 12,m 14 1,m 15 2,o 16 (.build [y,z] [(0,(1,.t 14)),(1,(1,.t 15))]),o 17 (.bsl 1 2 [y,z] [(0,(2,.t 16))]),o 18 (.app 2 32 (.t 13) (.t 17)),o 19 (.bB (.t 9)),f 0 20 19,s (.st 1 (.t 20) (.t 18))]) .skip)⟩
theorem c37:ar Tryz.prog Tryz.f37=some Tr:=by kernel_rfl
def W9:AF:=⟨1,16,[.cells 2 7],r [B 1 0,o 2 (.alloc [z,y,y,y,z,z,z])] (q (.bO [f 1 3 1,v 4 3,f 2 6 1,v 7 6,f 3 9 1,v 10 9,c 5 34 [.t 4],f 1 12 1,c 8 73 [.t 7],c 11 74 [.t 10],s (.st 1 (.t 12) (.t 5)),f 2 13 1,s (.st 1 (.t 13) (.t 8)),f 3 14 1,s (.st 1 (.t 14) (.t 11))] [(0,(3,6)),(0,(5,6)),(0,(5,8))]) (r [n 7 15 1,s (.st 7 (.t 2) (.t 15))] .ret))⟩
theorem c38:ar Tryz.prog Tryz.f38=some W9:=by kernel_rfl
def Rc:AF:=⟨1,31,[.cells 2 5,.tmp 3,.tmp 4],r [o 2 (.alloc [z,z,y,y,y]),o 3 (.mv (i 0)),o 4 (.mv F)] (q (r [m 6 0,o 7 (.bB (.t 6)),f 0 8 7,v 9 8,L 10 9,h .eql 11 10 0] (d 11 (r [o 12 (.build [z,z,y,y,y] []),s (.st 5 (.t 2) (.t 12)),o 3 (.mv (i 0)),o 4 (.mv F)] .ret) .skip)) (q (.bO [m 13 0,o 14 (.bB (.t 13)),f 0 15 14,v 16 15,m 17 0,o 18 (.bB (.t 17)),f 0 19 18,v 20 19,L 21 20,h .sub 22 21 1,j 2 23 16 22,n 2 24 23,o 5 (.alloc [y,z]),s (.st 2 (.t 5) (.t 24))] []) (q (.bO [f 0 25 5,v 26 25,o 27 (.ia 5 (.t 26) (i 0)),n 5 28 27,f 1 29 5,v 30 29,s (.st 5 (.t 2) (.t 28)),m 3 30,o 4 (.mv W)] [(2,(5,6))]) .ret)))⟩
theorem c39:ar Tryz.prog Tryz.f39=some Rc:=by kernel_rfl
def Xd:AF:=⟨3,20,[.tmp 6],r [o 6 (.mv F)] (r [m 7 0,m 8 0,m 9 0,m 10 1,m 11 2,o 12 (.bB (.t 7)),f 13 13 12,s (.st 1 (.t 13) W),o 14 (.bB (.t 8)),f 6 15 14,f 0 16 15,s (.st 1 (.t 16) (.t 10)),o 17 (.bB (.t 9)),f 6 18 17,f 6 19 18,s (.st 1 (.t 19) (.t 11))] (r [o 6 (.mv F)] .ret))⟩
theorem c40:ar Tryz.prog Tryz.f40=some Xd:=by kernel_rfl
def Ts:AF:=⟨3,32,[.tmp 6],r [B 4 1,o 6 (.mv F)] (r [m 9 0,n 5 10 4,c 11 75 [.t 9,.t 10],m 7 11] (r [m 12 0,f 2 13 4,v 14 13,f 2 15 4,v 16 15,L 17 16,h .sub 18 17 1,j 4 19 14 18,n 4 20 19,c 21 76 [.t 12,.t 20],m 8 21] (r [m 22 0,o 23 (.bB (.t 22)),f 0 24 23,c 25 77 [.t 24]] (r [m 26 0,f 1 27 4,v 28 27,m 29 7,m 30 8,c 31 78 [.t 26,.t 28,.t 29,.t 30]] (r [o 6 (.mv W)] .ret)))))⟩
theorem c41:ar Tryz.prog Tryz.f41=some Ts:=by kernel_rfl
def Xf:AF:=⟨3,37,[.tmp 6],r [B 4 1,o 6 (.mv F)] (r [m 8 0,n 5 9 4,m 10 2,c 11 79 [.t 8,.t 9,.t 10],m 7 11] (r [m 12 0,o 13 (.bB (.t 12)),f 0 14 13,c 15 77 [.t 14]] (q (r [m 16 7] (d 16 (.bO [m 17 0,o 18 (.bB (.t 17)),f 0 19 18,f 3 20 4,v 21 20,m 22 2,h .add 23 22 1,c 24 37 [.t 19,.t 21,.t 23]] []) (.bO [m 25 0,o 26 (.bB (.t 25)),f 0 27 26,f 4 28 4,v 29 28,m 30 2,h .add 31 30 1,f 3 32 4,v 33 32,c 34 80 [.t 33],b .add 35 31 34,c 36 37 [.t 27,.t 29,.t 35]] [(0,(4,9))]))) (r [o 6 (.mv W)] .ret))))⟩
theorem c42:ar Tryz.prog Tryz.f42=some Xf:=by kernel_rfl
def Xg:AF:=⟨3,23,[.tmp 6],r [B 4 1,o 6 (.mv F)] (q (r [m 7 0,n 5 8 4,m 9 2,c 10 79 [.t 7,.t 8,.t 9]] (d 10 (.bO [m 11 0,o 12 (.bB (.t 11)),f 0 13 12,f 3 14 4,v 15 14,m 16 2,h .add 17 16 1,c 18 37 [.t 13,.t 15,.t 17]] []) (.cL [m 19 0,o 20 (.bB (.t 19)),f 0 21 20,c 22 77 [.t 21]]))) (r [o 6 (.mv W)] .ret))⟩
theorem c43:ar Tryz.prog Tryz.f43=some Xg:=by kernel_rfl
def Xh:AF:=⟨3,31,[.tmp 6],r [B 4 1,o 6 (.mv F)] (q (.bO [m 7 0,m 8 0,o 9 (.bB (.t 8)),f 6 10 9,f 2 11 10,v 12 11,f 1 13 4,v 14 13,m 15 0,f 2 16 4,v 17 16,o 18 (.ia 4 (.t 17) (i 0)),n 4 19 18,c 20 76 [.t 15,.t 19],o 21 (.build [z,z] [(0,(1,.t 14)),(1,(1,.t 20))]),o 22 (.bsl 1 2 [z,z] [(0,(2,.t 21))]),o 23 (.app 2 16 (.t 12) (.t 22)),o 24 (.bB (.t 7)),f 6 25 24,f 2 26 25,s (.st 1 (.t 26) (.t 23))] [(0,(5,13)),(0,(7,13))]) (r [m 27 0,o 28 (.bB (.t 27)),f 0 29 28,c 30 77 [.t 29]] (r [o 6 (.mv W)] .ret)))⟩
theorem c44:ar Tryz.prog Tryz.f44=some Xh:=by kernel_rfl
def Tt:AF:=⟨3,55,[.tmp 6],r [B 4 1,o 6 (.mv F)] (r [m 8 0,n 5 9 4,c 10 75 [.t 8,.t 9],m 7 10] (q (q (.bO [m 11 0,o 12 (.bB (.t 11)),f 6 13 12,f 5 14 13,v 15 14,m 16 0,o 17 (.bB (.t 16)),f 5 18 17,v 19 18,L 20 19,b .eql 21 15 20] []) (d 21 (r [m 22 0,m 23 2,c 24 40 [.t 22,i 4,.t 23],m 6 24] .ret) .skip)) (r [m 25 0,o 26 (.bB (.t 25)),f 0 27 26,c 28 77 [.t 27]] (r [m 29 0,o 30 (.bB (.t 29)),f 6 31 30,f 5 32 31,v 33 32,h .add 34 33 1,o 35 (.bB (.t 29)),f 6 36 35,f 5 37 36,s (.st 1 (.t 37) (.t 34))] (q (.bO [m 38 0,f 1 39 4,v 40 39,m 41 7,m 42 0,o 43 (.bB (.t 42)),f 5 44 43,v 45 44,m 46 0,o 47 (.bB (.t 46)),f 6 48 47,f 5 49 48,v 50 49,h .sub 51 50 1,j 1 52 45 51,v 53 52,c 54 78 [.t 38,.t 40,.t 41,.t 53]] []) (r [o 6 (.mv W)] .ret))))))⟩
theorem c45:ar Tryz.prog Tryz.f45=some Tt:=by kernel_rfl
def a46:AF:=⟨3,21,[.tmp 6],r [B 4 1,o 6 (.mv F)] (q (r [m 7 0,f 2 8 4,v 9 8,o 10 (.ia 4 (.t 9) (i 0)),n 4 11 10,c 12 76 [.t 7,.t 11],h .eql 13 12 0] (d 13 (r [m 14 0,m 15 2,c 16 40 [.t 14,i 1,.t 15],m 6 16] .ret) .skip)) (r [m 17 0,o 18 (.bB (.t 17)),f 0 19 18,c 20 77 [.t 19]] (r [o 6 (.mv W)] .ret)))⟩
theorem c46:ar Tryz.prog Tryz.f46=some a46:=by kernel_rfl
def a47:AF:=⟨3,21,[.tmp 6],r [B 4 1,o 6 (.mv F)] (q (r [m 7 0,f 2 8 4,v 9 8,o 10 (.ia 4 (.t 9) (i 0)),n 4 11 10,c 12 76 [.t 7,.t 11],h .eql 13 12 0] (d 13 (r [m 14 0,m 15 2,c 16 40 [.t 14,i 2,.t 15],m 6 16] .ret) .skip)) (r [m 17 0,o 18 (.bB (.t 17)),f 0 19 18,c 20 77 [.t 19]] (r [o 6 (.mv W)] .ret)))⟩
theorem c47:ar Tryz.prog Tryz.f47=some a47:=by kernel_rfl
def Tu:AF:=⟨2,26,[.tmp 4],r [o 4 (.mv F)] (q (r [m 6 0,L 7 6,m 8 1,L 9 8,b .neq 10 7 9] (d 10 (r [o 4 (.mv F)] .ret) .skip)) (q (r [o 5 (.mv (i 0))] (.block 0 (.loop (q (r [m 11 5,m 12 0,L 13 12,b .lss 14 11 13] (d 14 .skip (.exit 0))) (q (.block 1 (q (.bO [m 17 0,m 18 5,j 1 19 17 18,v 20 19,m 21 1,m 22 5,j 1 23 21 22,v 24 23,b .neq 25 20 24] []) (d 25 (r [o 4 (.mv F)] .ret) .skip))) (.cL [m 15 5,h .add 16 15 1,m 5 16])))))) (r [o 4 (.mv W)] .ret)))⟩
theorem c50:ar Tryz.prog Tryz.f50=some Tu:=by kernel_rfl
def Tv:AF:=⟨2,26,[.tmp 4],r [o 4 (.mv F)] (q (r [m 6 0,L 7 6,m 8 1,L 9 8,b .neq 10 7 9] (d 10 (r [o 4 (.mv F)] .ret) .skip)) (q (r [o 5 (.mv (i 0))] (.block 0 (.loop (q (r [m 11 5,m 12 0,L 13 12,b .lss 14 11 13] (d 14 .skip (.exit 0))) (q (.block 1 (q (.bO [m 17 0,m 18 5,j 2 19 17 18,n 2 20 19,m 21 1,m 22 5,j 2 23 21 22,n 2 24 23,o 25 (.eqs true [(0,0),(1,0)] (.t 20) (.t 24))] []) (d 25 (r [o 4 (.mv F)] .ret) .skip))) (.cL [m 15 5,h .add 16 15 1,m 5 16])))))) (r [o 4 (.mv W)] .ret)))⟩
theorem c51:ar Tryz.prog Tryz.f51=some Tv:=by kernel_rfl
def Tw:AF:=⟨2,26,[.tmp 4],r [o 4 (.mv F)] (q (r [m 6 0,L 7 6,m 8 1,L 9 8,b .neq 10 7 9] (d 10 (r [o 4 (.mv F)] .ret) .skip)) (q (r [o 5 (.mv (i 0))] (.block 0 (.loop (q (r [m 11 5,m 12 0,L 13 12,b .lss 14 11 13] (d 14 .skip (.exit 0))) (q (.block 1 (q (.bO [m 17 0,m 18 5,j 3 19 17 18,n 3 20 19,m 21 1,m 22 5,j 3 23 21 22,n 3 24 23,o 25 (.eqs true [(0,0),(1,0),(2,0)] (.t 20) (.t 24))] []) (d 25 (r [o 4 (.mv F)] .ret) .skip))) (.cL [m 15 5,h .add 16 15 1,m 5 16])))))) (r [o 4 (.mv W)] .ret)))⟩
theorem c52:ar Tryz.prog Tryz.f52=some Tw:=by kernel_rfl
def Xi:AF:=⟨2,39,[.tmp 4],r [o 4 (.mv (.k (.slice none 0 0)))] (r [o 5 (.mv (.k (.slice none 0 0)))] (q (r [o 6 (.mv (i 0))] (.block 0 (.loop (q (r [m 7 6,m 8 0,L 9 8,b .lss 10 7 9] (d 10 .skip (.exit 0))) (q (.block 1 (r [m 13 5,m 14 1,m 15 0,m 16 6,j 5 17 15 16,n 5 18 17,o 19 (.build [z,z,z,y,y,y] [(0,(1,.t 14)),(1,(5,.t 18))]),o 20 (.bsl 1 6 [z,z,z,y,y,y] [(0,(6,.t 19))]),o 21 (.app 6 96 (.t 13) (.t 20)),m 5 21] (.bO [m 22 1,h .add 23 22 1,m 24 0,m 25 6,j 5 26 24 25,f 3 27 26,v 28 27,m 31 0,m 32 6,j 5 33 31 32,f 4 34 33,v 35 34,c 29 82 [.t 28],b .add 30 23 29,c 36 82 [.t 35],b .add 37 30 36,m 1 37] [(0,(11,12))]))) (.cL [m 11 6,h .add 12 11 1,m 6 12])))))) (r [m 38 5,m 4 38] .ret)))⟩
theorem c53:ar Tryz.prog Tryz.f53=some Xi:=by kernel_rfl
def a54:AF:=⟨1,8,[.tmp 2],r [o 2 (.mv (.k (.slice none 0 0)))] (q (r [m 3 0,o 4 (.eqk 2 false (.t 3) (.k (.slice none 0 0)))] (d 4 (r [o 2 (.mv (.k (.slice none 0 0)))] .ret) .skip)) (r [o 5 (.bsl 0 2 [] []),m 6 0,o 7 (.app 2 32 (.t 5) (.t 6)),m 2 7] .ret))⟩
theorem c54:ar Tryz.prog Tryz.f54=some a54:=by kernel_rfl
def Xj:AF:=⟨1,18,[.cells 2 7],r [B 1 0,o 2 (.alloc [z,y,y,y,z,z,z])] (r [f 1 3 1,v 4 3,c 5 9 [.t 4],f 1 6 1,s (.st 1 (.t 6) (.t 5))] (r [o 7 (.bsl 0 2 [] []),f 2 8 1,v 9 8,o 10 (.app 2 16 (.t 7) (.t 9)),f 2 11 1,s (.st 1 (.t 11) (.t 10))] (r [o 12 (.bsl 0 3 [] []),f 3 13 1,v 14 13,o 15 (.app 3 24 (.t 12) (.t 14)),f 3 16 1,s (.st 1 (.t 16) (.t 15))] (r [n 7 17 1,s (.st 7 (.t 2) (.t 17))] .ret))))⟩
theorem c55:ar Tryz.prog Tryz.f55=some Xj:=by kernel_rfl
def Xk:AF:=⟨3,16,[.cells 6 10],r [B 3 0,o 6 (.alloc [z,y,y,y,z,z,z,z,y,.bool false])] (r [m 7 1,f 0 8 3,f 0 9 8,s (.st 1 (.t 9) (.t 7))] (r [m 10 2,f 0 11 3,f 6 12 11,s (.st 1 (.t 12) (.t 10))] (r [f 8 13 3,s (.st 1 (.t 13) (.k (.slice none 0 0)))] (r [f 9 14 3,s (.st 1 (.t 14) W)] (r [n 10 15 3,s (.st 10 (.t 6) (.t 15))] .ret)))))⟩
theorem c56:ar Tryz.prog Tryz.f56=some Xk:=by kernel_rfl
def IT:AF:=⟨4,92,[.tmp 8],r [B 7 3,o 8 (.mv (i 0))] (q (r [f 0 12 7,v 13 12] (.block 0 (r [h .eql 15 13 0,m 14 15] (d 14 (r [f 1 16 7,v 17 16,m 8 17] .ret) (r [h .eql 19 13 1,m 18 19] (d 18 (r [o 9 (.mv (i 0))] (q (r [f 3 20 7,v 21 20,L 22 21,h .gtr 23 22 0] (d 23 (.cL [m 24 0,m 25 1,m 26 2,f 3 27 7,v 28 27,o 29 (.ia 4 (.t 28) (i 0)),n 4 30 29,c 31 57 [.t 24,.t 25,.t 26,.t 30],m 9 31]) .skip)) (q (.bO [m 32 2,f 2 33 7,v 34 33,j 1 35 32 34,v 36 35,m 37 1,f 1 38 7,v 39 38,m 40 9,c 41 83 [.t 37,.t 39,.t 40],j 1 42 36 41,v 43 42,m 8 43] [(0,(2,9)),(0,(4,9))]) .ret))) (r [h .eql 45 13 12,m 44 45] (d 44 (r [m 46 0,m 47 0,m 48 1,m 49 2,f 3 50 7,v 51 50,o 52 (.ia 4 (.t 51) (i 0)),n 4 53 52,c 54 57 [.t 47,.t 48,.t 49,.t 53],c 55 84 [.t 46,.t 54],m 8 55] .ret) .skip)))))))) (r [m 56 0,m 57 1,m 58 2,f 3 59 7,v 60 59,o 61 (.ia 4 (.t 60) (i 0)),n 4 62 61,c 63 57 [.t 56,.t 57,.t 58,.t 62],m 10 63] (r [m 64 0,m 65 1,m 66 2,f 3 67 7,v 68 67,o 69 (.ia 4 (.t 68) (i 1)),n 4 70 69,c 71 57 [.t 64,.t 65,.t 66,.t 70],m 11 71] (q (r [f 0 72 7,v 73 72,h .neq 74 73 15] (d 74 (r [f 0 75 7,v 76 75,m 77 0,m 78 10,m 79 11,c 80 85 [.t 76,.t 77,.t 78,.t 79],m 8 80] .ret) .skip)) (q (r [m 81 10,h .neq 82 81 0] (d 82 (r [m 83 11,m 8 83] .ret) .skip)) (r [m 84 0,m 85 1,m 86 2,f 3 87 7,v 88 87,o 89 (.ia 4 (.t 88) (i 2)),n 4 90 89,c 91 57 [.t 84,.t 85,.t 86,.t 90],m 8 91] .ret))))))⟩
theorem c57:ar Tryz.prog Tryz.f57=some IT:=by kernel_rfl
def Xl:AF:=⟨1,21,[.tmp 2],r [B 1 0,o 2 (.mv (i 0))] (r [o 3 (.mv (i 1))] (q (r [o 4 (.mv (i 0))] (.block 0 (.loop (q (r [m 5 4,f 3 6 1,v 7 6,L 8 7,b .lss 9 5 8] (d 9 .skip (.exit 0))) (q (.block 1 (.cL [m 12 3,f 3 13 1,v 14 13,m 15 4,j 4 16 14 15,n 4 17 16,c 18 58 [.t 17],b .add 19 12 18,m 3 19])) (.cL [m 10 4,h .add 11 10 1,m 4 11])))))) (r [m 20 3,m 2 20] .ret)))⟩
theorem c58:ar Tryz.prog Tryz.f58=some Xl:=by kernel_rfl
def Xn:AF:=⟨4,63,[.tmp 8],r [B 7 3,o 8 (.mv (.k (.slice none 0 0)))] (r [o 9 (.mv (.k (.slice none 0 0)))] (q (r [o 10 (.mv (i 0))] (.block 0 (.loop (q (r [m 12 10,f 3 13 7,v 14 13,L 15 14,b .lss 16 12 15] (d 16 .skip (.exit 0))) (q (.block 1 (.cL [m 19 9,m 20 0,m 21 1,m 22 2,f 3 23 7,v 24 23,m 25 10,j 4 26 24 25,n 4 27 26,c 28 59 [.t 20,.t 21,.t 22,.t 27],o 29 (.app 3 24 (.t 19) (.t 28)),m 9 29])) (.cL [m 17 10,h .add 18 17 1,m 10 18])))))) (q (r [f 0 30 7,v 31 30,h .eql 32 31 1,m 33 32,og 33 true 34 (.fa 3 (.t 7)),og 33 true 35 (.ld (.t 34)),og 33 true 36 (.eQ (.t 35)),og 33 true 37 (.bin .gtr (.t 36) (i 0)),p 38 33 37] (d 38 (r [m 39 0,m 40 1,m 41 2,o 42 (.bsl 1 1 [y] [(0,(1,.t 41))]),f 3 43 7,v 44 43,o 45 (.ia 4 (.t 44) (i 0)),n 4 46 45,c 47 57 [.t 39,.t 40,.t 42,.t 46],m 11 47] (.bO [m 48 9,f 1 49 7,v 50 49,m 51 11,m 52 1,f 1 53 7,v 54 53,j 3 55 52 54,f 2 56 55,v 57 56,b .rem 58 51 57,o 59 (.build [z,z,z] [(0,(1,i 1)),(1,(1,.t 50)),(2,(1,.t 58))]),o 60 (.bsl 1 3 [z,z,z] [(0,(3,.t 59))]),o 61 (.app 3 24 (.t 48) (.t 60)),m 9 61] [])) .skip)) (r [m 62 9,m 8 62] .ret))))⟩
theorem c59:ar Tryz.prog Tryz.f59=some Xn:=by kernel_rfl
def tu:AF:=⟨6,165,[.cells 12 10],r [B 6 0,B 8 2,B 9 3,o 12 (.alloc [z,y,y,y,z,z,z,z,y,.bool false])] (r [f 1 16 9,n 5 17 16,o 13 (.alloc [z,z,y,y,y]),s (.st 5 (.t 13) (.t 17))] (q (r [f 0 18 13,v 19 18] (.block 0 (r [h .eql 21 19 0,m 20 21] (d 20 (r [o 14 (.mv (i 0))] (q (r [m 22 4,L 23 22,h .gtr 24 23 1] (d 24 (.cL [m 25 4,o 26 (.ia 1 (.t 25) (i 0)),v 27 26,m 14 27]) .skip)) (q (.bO [n 3 28 6,n 10 29 8,n 5 30 13,m 31 4,L 32 31,h .gtr 33 32 1,m 34 14,m 35 4,m 36 4,L 37 36,h .sub 38 37 1,j 1 39 35 38,v 40 39,c 41 86 [.t 28,.t 29,.t 30,.t 33,.t 34,.t 40],s (.st 10 (.t 12) (.t 41))] []) .ret))) (r [h .eql 43 19 1,m 42 43] (d 42 (q (.bO [n 10 44 8,f 0 45 9,v 46 45,m 47 4,o 48 (.ia 1 (.t 47) (i 0)),v 49 48,h .neq 50 49 0,c 51 88 [.t 50],c 52 87 [.t 44,i 0,.t 46,.t 51],s (.st 10 (.t 8) (.t 52))] [(0,(0,7)),(0,(2,7))]) (r [n 6 53 9,c 54 89 [.t 53],m 55 5,o 56 (.app 6 96 (.t 54) (.t 55)),f 8 57 8,s (.st 1 (.t 57) (.t 56))] (r [m 58 4,o 59 (.ia 1 (.t 58) (i 0)),v 60 59,h .neq 61 60 0] (d 61 (.cL [n 6 62 9,c 63 90 [.t 62],m 64 5,o 65 (.app 6 96 (.t 63) (.t 64)),f 8 66 8,s (.st 1 (.t 66) (.t 65))]) .skip)))) (r [h .eql 68 19 2,m 67 68] (d 67 (q (.bO [n 10 69 8,f 0 70 9,v 71 70,m 72 4,o 73 (.ia 1 (.t 72) (i 0)),v 74 73,h .neq 75 74 0,c 76 88 [.t 75],c 77 87 [.t 69,i 0,.t 71,.t 76],s (.st 10 (.t 8) (.t 77))] [(0,(0,7)),(0,(2,7))]) (r [m 78 4,o 79 (.ia 1 (.t 78) (i 0)),v 80 79,h .neq 81 80 0] (d 81 (.bO [n 6 82 9,n 6 84 9,o 85 (.bsl 1 6 [z,z,z,y,y,y] [(0,(6,.t 84))]),m 87 5,c 83 90 [.t 82],o 86 (.app 6 96 (.t 83) (.t 85)),o 88 (.app 6 96 (.t 86) (.t 87)),f 8 89 8,s (.st 1 (.t 89) (.t 88))] [(0,(1,4)),(1,(2,4))]) .skip))) (r [h .eql 91 19 3,m 90 91] (d 90 (.bO [f 0 92 8,f 2 93 92,v 94 93,f 1 95 13,v 96 95,m 97 4,o 98 (.ia 1 (.t 97) (i 0)),v 99 98,o 100 (.build [z,z] [(0,(1,.t 96)),(1,(1,.t 99))]),o 101 (.bsl 1 2 [z,z] [(0,(2,.t 100))]),o 102 (.app 2 16 (.t 94) (.t 101)),f 0 103 8,f 2 104 103,s (.st 1 (.t 104) (.t 102))] []) (r [h .eql 106 19 4,m 105 106] (d 105 (q (r [f 0 107 8,f 5 108 107,v 109 108,m 110 1,L 111 110,b .geq 112 109 111] (d 112 (r [n 10 113 8,f 0 114 9,v 115 114,c 116 56 [.t 113,i 4,.t 115],s (.st 10 (.t 12) (.t 116))] .ret) .skip)) (r [o 15 (.mv (i 0))] (q (r [m 117 4,L 118 117,h .gtr 119 118 0] (d 119 (.cL [m 120 4,o 121 (.ia 1 (.t 120) (i 0)),v 122 121,m 15 122]) .skip)) (r [f 0 123 8,f 5 124 123,v 125 124,h .add 126 125 1,f 0 127 8,f 5 128 127,s (.st 1 (.t 128) (.t 126))] (q (.bO [n 3 129 6,n 10 130 8,n 5 131 13,m 132 4,L 133 132,h .gtr 134 133 0,m 135 15,m 136 1,f 0 137 8,f 5 138 137,v 139 138,h .sub 140 139 1,j 1 141 136 140,v 142 141,c 143 86 [.t 129,.t 130,.t 131,.t 134,.t 135,.t 142],s (.st 10 (.t 12) (.t 143))] []) .ret))))) (r [h .eql 145 19 5,m 144 145] (d 144 (r [m 146 4,o 147 (.ia 1 (.t 146) (i 0)),v 148 147,h .eql 149 148 0] (d 149 (r [n 10 150 8,f 0 151 9,v 152 151,c 153 56 [.t 150,i 1,.t 152],s (.st 10 (.t 12) (.t 153))] .ret) .skip)) (r [h .eql 155 19 6,m 154 155] (d 154 (r [m 156 4,o 157 (.ia 1 (.t 156) (i 0)),v 158 157,h .eql 159 158 0] (d 159 (r [n 10 160 8,f 0 161 9,v 162 161,c 163 56 [.t 160,i 2,.t 162],s (.st 10 (.t 12) (.t 163))] .ret) .skip)) .skip)))))))))))))))) (r [n 10 164 8,s (.st 10 (.t 12) (.t 164))] .ret)))⟩
theorem c60:ar Tryz.prog Tryz.f60=some tu:=by kernel_rfl
def Tx:AF:=⟨2,26,[.tmp 4],r [B 2 0,o 4 (.mv (i 0))] (q (r [m 7 1,h .lss 8 7 1] (d 8 (r [o 4 (.mv (i 0))] .ret) .skip)) (r [m 9 1,h .sub 10 9 1,m 5 10] (q (r [o 6 (.mv (i 0))] (.block 0 (.loop (q (r [m 11 6,f 3 12 2,v 13 12,L 14 13,b .lss 15 11 14] (d 15 .skip (.exit 0))) (q (.block 1 (.cL [f 3 18 2,v 19 18,m 20 6,j 4 21 19 20,n 4 22 21,m 23 5,c 24 61 [.t 22,.t 23],m 5 24])) (.cL [m 16 6,h .add 17 16 1,m 6 17])))))) (r [m 25 5,m 4 25] .ret))))⟩
theorem c61:ar Tryz.prog Tryz.f61=some Tx:=by kernel_rfl
def Xo:AF:=⟨2,69,[.tmp 4],r [o 4 (.mv F)] (q (r [m 8 0,c 9 91 [.t 8],U 10 9,m 11 10,N 11 12 1,og 11 false 13 (.eQ (.t 12)),og 11 false 14 (.bin .lss (.t 13) (i 1)),P 15 11 14,m 16 15,N 16 17 1,og 16 false 18 (.eQ (.t 17)),og 16 false 19 (.bin .gtr (.t 18) (i 18)),P 20 16 19] (d 20 (r [o 4 (.mv F)] .ret) .skip)) (r [o 5 (.mv (i 0))] (q (r [o 6 (.mv (i 0))] (.block 0 (.loop (q (r [m 21 6,m 22 1,L 23 22,b .lss 24 21 23] (d 24 .skip (.exit 0))) (q (.block 1 (q (.cL [m 27 1,m 28 6,j 3 29 27 28,n 3 30 29,o 7 (.alloc [.string ⟨#[]⟩,z,z]),s (.st 3 (.t 7) (.t 30))]) (q (r [f 0 31 7,v 32 31,c 33 92 [.t 32],U 34 33,m 35 34,og 35 false 36 (.fa 1 (.t 7)),og 35 false 37 (.ld (.t 36)),og 35 false 38 (.bin .lss (.t 37) (i 0)),P 39 35 38,m 40 39,og 40 false 41 (.fa 1 (.t 7)),og 40 false 42 (.ld (.t 41)),og 40 false 43 (.bin .gtr (.t 42) (i 47)),P 44 40 43,m 45 44,og 45 false 46 (.fa 2 (.t 7)),og 45 false 47 (.ld (.t 46)),og 45 false 48 (.bin .lss (.t 47) (i 1)),P 49 45 48,m 50 49,og 50 false 51 (.fa 2 (.t 7)),og 50 false 52 (.ld (.t 51)),og 50 false 53 (.bin .gtr (.t 52) (i 8)),P 54 50 53,m 55 54,N 55 56 1,og 55 false 57 (.fa 0 (.t 7)),og 55 false 58 (.ld (.t 57)),og 55 false 59 (.call 93 [.t 56,.t 58]),N 55 60 6,og 55 false 61 (.bin .neq (.t 59) (.t 60)),P 62 55 61] (d 62 (r [o 4 (.mv F)] .ret) .skip)) (.cL [m 63 5,f 2 64 7,v 65 64,b .add 66 63 65,m 5 66])))) (.cL [m 25 6,h .add 26 25 1,m 6 26])))))) (r [m 67 5,h .leq 68 67 48,m 4 68] .ret))))⟩
theorem c62:ar Tryz.prog Tryz.f62=some Xo:=by kernel_rfl
def Xp:AF:=⟨1,28,[.tmp 2],r [o 2 (.mv (i 0))] (r [o 3 (.mv (i 0))] (q (r [o 4 (.mv (i 0))] (.block 0 (.loop (q (r [m 5 4,m 6 0,L 7 6,b .lss 8 5 7] (d 8 .skip (.exit 0))) (q (.block 1 (.bO [m 11 3,m 12 0,m 13 4,j 5 14 12 13,f 3 15 14,v 16 15,m 19 0,m 20 4,j 5 21 19 20,f 4 22 21,v 23 22,c 17 63 [.t 16],o 18 (.bin .add (i 1) (.t 17)),c 24 63 [.t 23],o 25 (.bin .add (i 1) (.t 24)),o 26 (.mxl (.t 11) [.t 18,.t 25]),m 3 26] [(0,(10,11))])) (.cL [m 9 4,h .add 10 9 1,m 4 10])))))) (r [m 27 3,m 2 27] .ret)))⟩
theorem c63:ar Tryz.prog Tryz.f63=some Xp:=by kernel_rfl
def Xq:AF:=⟨3,66,[.tmp 6],r [o 6 (.mv F)] (q (r [o 7 (.mv (i 0))] (.block 0 (.loop (q (r [m 9 7,m 10 2,L 11 10,b .lss 12 9 11] (d 12 .skip (.exit 0))) (q (.block 1 (q (r [m 15 1,m 16 2,m 17 7,j 5 18 16 17,n 5 19 18,c 20 94 [.t 15,.t 19],U 21 20,m 22 21,N 22 23 0,N 22 24 1,N 22 25 2,N 22 26 7,og 22 false 27 (.ia 5 (.t 25) (.t 26)),og 22 false 28 (.fa 3 (.t 27)),og 22 false 29 (.ld (.t 28)),og 22 false 30 (.call 64 [.t 23,.t 24,.t 29]),og 22 false 31 (.un .not (.t 30)),P 32 22 31,m 33 32,N 33 34 0,N 33 35 1,N 33 36 2,N 33 37 7,og 33 false 38 (.ia 5 (.t 36) (.t 37)),og 33 false 39 (.fa 4 (.t 38)),og 33 false 40 (.ld (.t 39)),og 33 false 41 (.call 64 [.t 34,.t 35,.t 40]),og 33 false 42 (.un .not (.t 41)),P 43 33 42] (d 43 (r [o 6 (.mv F)] .ret) .skip)) (r [o 8 (.mv (i 0))] (.block 2 (.loop (q (r [m 44 8,m 45 2,m 46 7,j 5 47 45 46,f 2 48 47,v 49 48,L 50 49,b .lss 51 44 50] (d 51 .skip (.exit 2))) (q (.block 3 (r [m 54 0,m 55 1,m 56 2,m 57 7,j 5 58 56 57,f 2 59 58,v 60 59,m 61 8,j 4 62 60 61,n 4 63 62,c 64 95 [.t 54,.t 55,i 1,.t 63],U 65 64] (d 65 (r [o 6 (.mv F)] .ret) .skip))) (.cL [m 52 8,h .add 53 52 1,m 8 53])))))))) (.cL [m 13 7,h .add 14 13 1,m 7 14])))))) (r [o 6 (.mv W)] .ret))⟩
theorem c64:ar Tryz.prog Tryz.f64=some Xq:=by kernel_rfl
def Xr:AF:=⟨3,19,[.tmp 6],r [o 6 (.mv F)] (r [m 7 2,L 8 7,m 9 1,m 10 1,L 11 10,c 12 96 [.t 9,.t 11],b .eql 13 8 12,m 14 13,M 14 15 0,M 14 16 2,og 14 true 17 (.call 66 [.t 15,.t 16]),p 18 14 17,m 6 18] .ret)⟩
theorem c65:ar Tryz.prog Tryz.f65=some Xr:=by kernel_rfl
def Xs:AF:=⟨2,19,[.tmp 4],r [o 4 (.mv F)] (q (r [o 5 (.mv (i 0))] (.block 0 (.loop (q (r [m 6 5,m 7 1,L 8 7,b .lss 9 6 8] (d 9 .skip (.exit 0))) (q (.block 1 (r [m 12 0,m 13 1,m 14 5,j 1 15 13 14,v 16 15,c 17 97 [.t 12,.t 16],U 18 17] (d 18 (r [o 4 (.mv F)] .ret) .skip))) (.cL [m 10 5,h .add 11 10 1,m 5 11])))))) (r [o 4 (.mv W)] .ret))⟩
theorem c66:ar Tryz.prog Tryz.f66=some Xs:=by kernel_rfl
def a67:AF:=⟨2,8,[.cells 4 4],r [o 4 (.alloc [z,z,z,y])] (r [m 5 0,m 6 1,o 7 (.build [z,z,z,y] [(0,(1,i 1)),(1,(1,.t 5)),(2,(1,.t 6))]),s (.st 4 (.t 4) (.t 7))] .ret)⟩
theorem c67:ar Tryz.prog Tryz.f67=some a67:=by kernel_rfl
def a68:AF:=⟨2,8,[.cells 4 4],r [o 4 (.alloc [z,z,z,y])] (r [m 5 0,m 6 1,o 7 (.build [z,z,z,y] [(0,(1,.t 5)),(3,(1,.t 6))]),s (.st 4 (.t 4) (.t 7))] .ret)⟩
theorem c68:ar Tryz.prog Tryz.f68=some a68:=by kernel_rfl
def a69:AF:=⟨1,5,[.cells 2 4],r [o 2 (.alloc [z,z,z,y])] (r [m 3 0,o 4 (.build [z,z,z,y] [(0,(1,i 0)),(1,(1,.t 3))]),s (.st 4 (.t 2) (.t 4))] .ret)⟩
theorem c69:ar Tryz.prog Tryz.f69=some a69:=by kernel_rfl
def Xt:AF:=⟨1,18,[.cells 2 2,.tmp 3],r [B 1 0,o 2 (.alloc [z,z]),o 3 (.mv F)] (q (r [f 0 4 1,v 5 4,f 1 6 1,v 7 6,c 8 98 [.t 5,.t 7],h .neq 9 8 0] (d 9 (r [o 10 (.build [z,z] []),s (.st 2 (.t 2) (.t 10)),o 3 (.mv F)] .ret) .skip)) (q (r [n 3 11 1,f 2 12 1,v 13 12,c 14 99 [.t 2,.t 11,.t 13,i 1],U 15 14] (d 15 (r [o 16 (.build [z,z] []),s (.st 2 (.t 2) (.t 16)),o 3 (.mv F)] .ret) .skip)) (r [n 2 17 2,s (.st 2 (.t 2) (.t 17)),o 3 (.mv W)] .ret)))⟩
theorem c71:ar Tryz.prog Tryz.f71=some Xt:=by kernel_rfl
def Xu:AF:=⟨1,22,[.tmp 2],r [o 2 (.mv (.k (.slice none 0 0)))] (r [o 3 (.mv (.k (.slice none 0 0)))] (q (r [m 6 0,L 7 6,o 8 (.mv (i 0))] (.block 0 (.loop (r [b .lss 9 8 7] (q (d 9 .skip (.exit 0)) (q (.block 1 (r [j 4 10 6 8,n 4 11 10,o 5 (.alloc [z,z,z,y]),s (.st 4 (.t 5) (.t 11))] (r [f 3 12 5,v 13 12,c 14 72 [.t 13],f 3 15 5,s (.st 1 (.t 15) (.t 14))] (.cL [m 16 3,n 4 17 5,o 18 (.bsl 1 4 [z,z,z,y] [(0,(4,.t 17))]),o 19 (.app 4 48 (.t 16) (.t 18)),m 3 19])))) (.cL [h .add 20 8 1,m 8 20]))))))) (r [m 21 3,m 2 21] .ret)))⟩
theorem c72:ar Tryz.prog Tryz.f72=some Xu:=by kernel_rfl
def a73:AF:=⟨1,8,[.tmp 2],r [o 2 (.mv (.k (.slice none 0 0)))] (q (r [m 3 0,o 4 (.eqk 2 false (.t 3) (.k (.slice none 0 0)))] (d 4 (r [o 2 (.mv (.k (.slice none 0 0)))] .ret) .skip)) (r [o 5 (.bsl 0 2 [] []),m 6 0,o 7 (.app 2 16 (.t 5) (.t 6)),m 2 7] .ret))⟩
theorem c73:ar Tryz.prog Tryz.f73=some a73:=by kernel_rfl
def a74:AF:=⟨1,8,[.tmp 2],r [o 2 (.mv (.k (.slice none 0 0)))] (q (r [m 3 0,o 4 (.eqk 2 false (.t 3) (.k (.slice none 0 0)))] (d 4 (r [o 2 (.mv (.k (.slice none 0 0)))] .ret) .skip)) (r [o 5 (.bsl 0 3 [] []),m 6 0,o 7 (.app 3 24 (.t 5) (.t 6)),m 2 7] .ret))⟩
theorem c74:ar Tryz.prog Tryz.f74=some a74:=by kernel_rfl
def Rf:AF:=⟨2,22,[.tmp 4],r [B 3 1,o 4 (.mv (i 0))] (q (q (.bO [m 5 0,o 6 (.bB (.t 5)),f 1 7 6,f 1 8 7,v 9 8,f 1 10 3,v 11 10,j 3 12 9 11,f 2 13 12,v 14 13,h .gtr 15 14 1] []) (d 15 (r [m 16 0,f 2 17 3,v 18 17,o 19 (.ia 4 (.t 18) (i 0)),n 4 20 19,c 21 76 [.t 16,.t 20],m 4 21] .ret) .skip)) (r [o 4 (.mv (i 0))] .ret))⟩
theorem c75:ar Tryz.prog Tryz.f75=some Rf:=by kernel_rfl
def Xv:AF:=⟨2,35,[.tmp 4],r [B 2 0,B 3 1,o 4 (.mv (i 0))] (q (.bO [v 5 2,o 6 (.bB (.t 5)),f 6 7 6,f 4 8 7,v 9 8,n 4 10 3,c 11 100 [.t 10],b .add 12 9 11,o 13 (.bB (.t 5)),f 6 14 13,f 4 15 14,s (.st 1 (.t 15) (.t 12))] [(0,(0,6)),(0,(4,6))]) (q (.bO [v 16 2,o 17 (.bB (.t 16)),f 1 18 17,f 0 19 18,v 20 19,v 21 2,o 22 (.bB (.t 21)),f 1 23 22,f 1 24 23,v 25 24,v 26 2,o 27 (.bB (.t 26)),f 6 28 27,f 1 29 28,v 30 29,o 31 (.bsl 1 1 [y] [(0,(1,.t 30))]),n 4 32 3,o 33 (.mkf 102 [] [.t 2]),c 34 101 [.t 20,.t 25,.t 31,.t 32,.t 33],m 4 34] []) .ret))⟩
theorem c76:ar Tryz.prog Tryz.f76=some Xv:=by kernel_rfl
def Xw:AF:=⟨1,56,[],q (.bO [m 3 0,o 4 (.bB (.t 3)),f 0 5 4,v 6 5,m 7 0,o 8 (.bB (.t 7)),f 0 9 8,v 10 9,L 11 10,h .sub 12 11 1,j 2 13 6 12,m 2 13] []) (q (.bO [m 14 2,o 15 (.bB (.t 14)),f 1 16 15,v 17 16,m 18 2,o 19 (.bB (.t 18)),f 0 20 19,v 21 20,o 22 (.ia 5 (.t 21) (i 0)),n 5 23 22,c 24 103 [.t 23],b .add 25 17 24,o 26 (.bB (.t 14)),f 1 27 26,s (.st 1 (.t 27) (.t 25))] [(0,(3,10))]) (r [m 28 2,m 29 2,o 30 (.bB (.t 29)),f 0 31 30,v 32 31,o 33 (.sl 5 (.t 32) (some (i 1)) none none),o 34 (.bB (.t 28)),f 0 35 34,s (.st 1 (.t 35) (.t 33))] (r [m 36 2,o 37 (.bB (.t 36)),f 0 38 37,v 39 38,L 40 39,h .eql 41 40 0] (d 41 (.bO [m 42 0,m 43 0,o 44 (.bB (.t 43)),f 0 45 44,v 46 45,m 47 0,o 48 (.bB (.t 47)),f 0 49 48,v 50 49,L 51 50,h .sub 52 51 1,o 53 (.sl 2 (.t 46) none (some (.t 52)) none),o 54 (.bB (.t 42)),f 0 55 54,s (.st 1 (.t 55) (.t 53))] []) .skip))))⟩
theorem c77:ar Tryz.prog Tryz.f77=some Xw:=by kernel_rfl
def Rg:AF:=⟨4,68,[],r [m 12 0,o 13 (.bB (.t 12)),f 1 14 13,f 1 15 14,v 16 15,m 17 1,j 3 18 16 17,f 2 19 18,v 20 19,m 8 20] (q (r [m 21 8,h .gtr 22 21 1] (d 22 (.bO [m 23 0,m 24 0,o 25 (.bB (.t 24)),f 6 26 25,f 3 27 26,v 28 27,m 29 1,m 30 2,m 31 8,b .rem 32 30 31,o 33 (.build [z,z,z] [(0,(1,i 2)),(1,(1,.t 29)),(2,(1,.t 32))]),o 34 (.bsl 1 3 [z,z,z] [(0,(3,.t 33))]),o 35 (.app 3 24 (.t 28) (.t 34)),o 36 (.bB (.t 23)),f 6 37 36,f 3 38 37,s (.st 1 (.t 38) (.t 35))] []) .skip)) (r [o 9 (.mv (i 0))] (q (r [m 39 0,o 40 (.bB (.t 39)),f 1 41 40,f 1 42 41,v 43 42,m 44 1,o 45 (.sl 3 (.t 43) none (some (.t 44)) none),L 46 45,o 47 (.mv (i 0))] (.block 0 (.loop (r [b .lss 48 47 46] (q (d 48 .skip (.exit 0)) (q (.block 1 (q (.cL [j 3 49 45 47,n 3 50 49,o 11 (.alloc [.string ⟨#[]⟩,z,z]),s (.st 3 (.t 11) (.t 50))]) (.cL [m 51 9,f 2 52 11,v 53 52,b .add 54 51 53,m 9 54]))) (.cL [h .add 55 47 1,m 47 55]))))))) (.bO [m 56 0,o 57 (.bB (.t 56)),f 6 58 57,f 1 59 58,v 60 59,m 61 9,m 62 2,m 63 8,b .rem 64 62 63,b .add 65 61 64,m 66 3,j 1 67 60 65,s (.st 1 (.t 67) (.t 66))] []))))⟩
theorem c78:ar Tryz.prog Tryz.f78=some Rg:=by kernel_rfl
def Xx:AF:=⟨3,32,[.tmp 6],r [B 4 1,o 6 (.mv F)] (r [m 9 0,f 2 10 4,v 11 10,o 12 (.ia 4 (.t 11) (i 0)),n 4 13 12,c 14 76 [.t 9,.t 13],h .neq 15 14 0,m 7 15,o 8 (.mv (i 0))] (q (r [m 16 7] (d 16 (.cL [o 8 (.mv (i 1))]) .skip)) (r [m 17 0,m 18 0,o 19 (.bB (.t 18)),f 6 20 19,f 3 21 20,v 22 21,m 23 2,m 24 8,o 25 (.build [z,z,z] [(0,(1,i 0)),(1,(1,.t 23)),(2,(1,.t 24))]),o 26 (.bsl 1 3 [z,z,z] [(0,(3,.t 25))]),o 27 (.app 3 24 (.t 22) (.t 26)),o 28 (.bB (.t 17)),f 6 29 28,f 3 30 29,s (.st 1 (.t 30) (.t 27))] (r [m 31 7,m 6 31] .ret))))⟩
theorem c79:ar Tryz.prog Tryz.f79=some Xx:=by kernel_rfl
def Xy:AF:=⟨1,18,[.tmp 2],r [o 2 (.mv (i 0))] (r [o 3 (.mv (i 0))] (q (r [m 6 0,L 7 6,o 8 (.mv (i 0))] (.block 0 (.loop (r [b .lss 9 8 7] (q (d 9 .skip (.exit 0)) (q (.block 1 (r [j 5 10 6 8,n 5 11 10,o 5 (.alloc [z,z,y,y,y]),s (.st 5 (.t 5) (.t 11))] (.cL [m 12 3,n 5 13 5,c 14 103 [.t 13],b .add 15 12 14,m 3 15]))) (.cL [h .add 16 8 1,m 8 16]))))))) (r [m 17 3,m 2 17] .ret)))⟩
theorem c80:ar Tryz.prog Tryz.f80=some Xy:=by kernel_rfl
def Xz:AF:=⟨1,28,[.tmp 2],r [o 2 (.mv (i 0))] (r [o 3 (.mv (i 0))] (q (r [o 4 (.mv (i 0))] (.block 0 (.loop (q (r [m 5 4,m 6 0,L 7 6,b .lss 8 5 7] (d 8 .skip (.exit 0))) (q (.block 1 (.bO [m 11 3,h .add 12 11 1,m 13 0,m 14 4,j 5 15 13 14,f 3 16 15,v 17 16,m 20 0,m 21 4,j 5 22 20 21,f 4 23 22,v 24 23,c 18 82 [.t 17],b .add 19 12 18,c 25 82 [.t 24],b .add 26 19 25,m 3 26] [(0,(11,12))])) (.cL [m 9 4,h .add 10 9 1,m 4 10])))))) (r [m 27 3,m 2 27] .ret)))⟩
theorem c82:ar Tryz.prog Tryz.f82=some Xz:=by kernel_rfl
def XA:AF:=⟨3,18,[.tmp 6],r [o 6 (.mv (i 0))] (q (.bO [m 7 0,m 8 1,m 10 2,m 11 0,m 12 1,j 3 13 11 12,f 2 14 13,v 15 14,b .rem 16 10 15,c 9 96 [.t 7,.t 8],b .add 17 9 16,m 6 17] [(0,(7,9))]) .ret)⟩
theorem c83:ar Tryz.prog Tryz.f83=some XA:=by kernel_rfl
def XC:AF:=⟨2,9,[.tmp 4],r [o 4 (.mv (i 0))] (r [m 5 0,c 6 105 [.t 5],m 7 1,b .sub 8 6 7,m 4 8] .ret)⟩
theorem c84:ar Tryz.prog Tryz.f84=some XC:=by kernel_rfl
def uZ:AF:=⟨4,94,[.tmp 8],r [o 8 (.mv (i 0))] (q (r [m 9 0] (.block 0 (r [h .eql 11 9 2,m 10 11] (d 10 (r [m 12 2,m 13 3,b .add 14 12 13,m 15 1,c 16 106 [.t 15],b .rem 17 14 16,m 8 17] .ret) (r [h .eql 19 9 3,m 18 19] (d 18 (r [m 20 2,m 21 1,c 22 106 [.t 21],b .add 23 20 22,m 24 3,b .sub 25 23 24,m 26 1,c 27 106 [.t 26],b .rem 28 25 27,m 8 28] .ret) (r [h .eql 30 9 4,m 29 30] (d 29 (r [m 31 2,m 32 3,b .mul 33 31 32,m 34 1,c 35 106 [.t 34],b .rem 36 33 35,m 8 36] .ret) (r [h .eql 38 9 5,m 37 38] (d 37 (q (r [m 39 3,h .eql 40 39 0] (d 40 (r [m 41 1,c 42 105 [.t 41],m 8 42] .ret) .skip)) (r [m 43 2,m 44 3,b .quo 45 43 44,m 8 45] .ret)) (r [h .eql 47 9 6,m 46 47] (d 46 (q (r [m 48 3,h .eql 49 48 0] (d 49 (r [m 50 2,m 8 50] .ret) .skip)) (r [m 51 2,m 52 3,b .rem 53 51 52,m 8 53] .ret)) (q (r [h .eql 55 9 7,m 54 55] (d 54 .skip (r [h .eql 56 9 8,m 54 56] (d 54 .skip (.cL [h .eql 57 9 9,m 54 57]))))) (d 54 (r [m 58 0,m 59 1,m 60 2,m 61 3,c 62 107 [.t 58,.t 59,.t 60,.t 61],m 8 62] .ret) (r [h .eql 64 9 10,m 63 64] (d 63 (q (r [m 65 3,m 66 1,b .geq 67 65 66] (d 67 (r [o 8 (.mv (i 0))] .ret) .skip)) (r [m 68 2,m 69 3,c 70 106 [.t 69],b .mul 71 68 70,m 72 1,c 73 106 [.t 72],b .rem 74 71 73,m 8 74] .ret)) (r [h .eql 76 9 11,m 75 76] (d 75 (q (r [m 77 3,m 78 1,b .geq 79 77 78] (d 79 (r [o 8 (.mv (i 0))] .ret) .skip)) (r [m 80 2,m 81 3,c 82 106 [.t 81],b .quo 83 80 82,m 8 83] .ret)) (r [h .eql 85 9 13,m 84 85] (d 84 (r [m 86 2,m 87 3,b .eql 88 86 87,c 89 88 [.t 88],m 8 89] .ret) .skip)))))))))))))))))))) (r [m 90 2,m 91 3,b .lss 92 90 91,c 93 88 [.t 92],m 8 93] .ret))⟩
theorem c85:ar Tryz.prog Tryz.f85=some uZ:=by kernel_rfl
def XD:AF:=⟨6,41,[.cells 12 10],r [B 6 0,B 7 1,B 8 2,o 12 (.alloc [z,y,y,y,z,z,z,z,y,.bool false])] (q (.bO [f 0 13 7,f 1 14 13,v 15 14,f 1 16 6,v 17 16,f 1 18 8,v 19 18,m 20 4,m 22 5,c 21 83 [.t 17,.t 19,.t 20],c 23 108 [.t 15,.t 21,.t 22],f 0 24 7,f 1 25 24,s (.st 1 (.t 25) (.t 23))] [(0,(2,9))]) (q (r [m 26 3] (d 26 (.bO [n 10 27 7,f 1 28 8,v 29 28,m 30 4,f 1 31 6,v 32 31,f 1 33 8,v 34 33,j 3 35 32 34,f 2 36 35,v 37 36,b .rem 38 30 37,c 39 87 [.t 27,i 2,.t 29,.t 38],s (.st 10 (.t 7) (.t 39))] []) .skip)) (r [n 10 40 7,s (.st 10 (.t 12) (.t 40))] .ret)))⟩
theorem c86:ar Tryz.prog Tryz.f86=some XD:=by kernel_rfl
def XE:AF:=⟨4,21,[.cells 8 10],r [B 4 0,o 8 (.alloc [z,y,y,y,z,z,z,z,y,.bool false])] (r [f 0 9 4,f 3 10 9,v 11 10,m 12 1,m 13 2,m 14 3,o 15 (.build [z,z,z] [(0,(1,.t 12)),(1,(1,.t 13)),(2,(1,.t 14))]),o 16 (.bsl 1 3 [z,z,z] [(0,(3,.t 15))]),o 17 (.app 3 24 (.t 11) (.t 16)),f 0 18 4,f 3 19 18,s (.st 1 (.t 19) (.t 17))] (r [n 10 20 4,s (.st 10 (.t 8) (.t 20))] .ret))⟩
theorem c87:ar Tryz.prog Tryz.f87=some XE:=by kernel_rfl
def N3:AF:=⟨1,4,[.tmp 2],r [o 2 (.mv (i 0))] (q (r [m 3 0] (d 3 (r [o 2 (.mv (i 1))] .ret) .skip)) (r [o 2 (.mv (i 0))] .ret))⟩
theorem c88:ar Tryz.prog Tryz.f88=some N3:=by kernel_rfl
def XF:AF:=⟨1,15,[.tmp 2],r [B 1 0,o 2 (.mv (.k (.slice none 0 0)))] (q (.bO [f 1 3 1,f 4 4 3,v 5 4,f 0 6 1,v 7 6,h .add 8 7 1,f 1 9 1,f 3 10 9,v 11 10,c 12 82 [.t 11],b .add 13 8 12,c 14 53 [.t 5,.t 13],m 2 14] [(0,(2,9)),(0,(4,9))]) .ret)⟩
theorem c89:ar Tryz.prog Tryz.f89=some XF:=by kernel_rfl
def XG:AF:=⟨1,10,[.tmp 2],r [B 1 0,o 2 (.mv (.k (.slice none 0 0)))] (r [f 1 3 1,f 3 4 3,v 5 4,f 0 6 1,v 7 6,h .add 8 7 1,c 9 53 [.t 5,.t 8],m 2 9] .ret)⟩
theorem c90:ar Tryz.prog Tryz.f90=some XG:=by kernel_rfl
def Ty:AF:=⟨1,9,[.tmp 2],r [o 2 (.mv F)] (r [m 3 0,h .geq 4 3 1,m 5 4,M 5 6 0,og 5 true 7 (.bin .leq (.t 6) (i 8)),p 8 5 7,m 2 8] .ret)⟩
theorem c91:ar Tryz.prog Tryz.f91=some Ty:=by kernel_rfl
def Rh:AF:=⟨1,46,[.tmp 2],r [o 2 (.mv F)] (q (r [m 4 0,o 5 (.lens (.t 4)),h .lss 6 5 1,m 7 6,N 7 8 0,og 7 false 9 (.lens (.t 8)),og 7 false 10 (.bin .gtr (.t 9) (i 12)),P 11 7 10,m 12 11,N 12 13 0,og 12 false 14 (.ix (.t 13) (i 0)),og 12 false 15 (.call 109 [.t 14]),og 12 false 16 (.un .not (.t 15)),P 17 12 16,m 18 17,N 18 19 0,og 18 false 20 (.call 110 [.t 19]),P 21 18 20] (d 21 (r [o 2 (.mv F)] .ret) .skip)) (q (r [o 3 (.mv (i 0))] (.block 0 (.loop (q (r [m 22 3,m 23 0,o 24 (.lens (.t 23)),b .lss 25 22 24] (d 25 .skip (.exit 0))) (q (.block 1 (r [m 28 0,m 29 3,o 30 (.ix (.t 28) (.t 29)),c 31 109 [.t 30],U 32 31,m 33 32,M 33 34 0,M 33 35 3,og 33 true 36 (.ix (.t 34) (.t 35)),og 33 true 37 (.call 111 [.t 36]),og 33 true 38 (.un .not (.t 37)),p 39 33 38,m 40 39,M 40 41 0,M 40 42 3,og 40 true 43 (.ix (.t 41) (.t 42)),og 40 true 44 (.bin .neq (.t 43) (.k (.int .u8 95))),p 45 40 44] (d 45 (r [o 2 (.mv F)] .ret) .skip))) (.cL [m 26 3,h .add 27 26 1,m 3 27])))))) (r [o 2 (.mv W)] .ret)))⟩
theorem c92:ar Tryz.prog Tryz.f92=some Rh:=by kernel_rfl
def XH:AF:=⟨2,20,[.tmp 4],r [o 4 (.mv (i 0))] (q (r [o 5 (.mv (i 0))] (.block 0 (.loop (q (r [m 6 5,m 7 0,L 8 7,b .lss 9 6 8] (d 9 .skip (.exit 0))) (q (.block 1 (r [m 12 0,m 13 5,j 3 14 12 13,f 0 15 14,v 16 15,m 17 1,b .eql 18 16 17] (d 18 (r [m 19 5,m 4 19] .ret) .skip))) (.cL [m 10 5,h .add 11 10 1,m 5 11])))))) (r [o 4 (.mv (i (-1)))] .ret))⟩
theorem c93:ar Tryz.prog Tryz.f93=some XH:=by kernel_rfl
def Ri:AF:=⟨2,96,[.tmp 4],r [B 3 1,o 4 (.mv F)] (r [f 3 6 3,v 7 6,L 8 7,h .eql 9 8 0,m 10 9,og 10 true 11 (.fa 4 (.t 3)),og 10 true 12 (.ld (.t 11)),og 10 true 13 (.eQ (.t 12)),og 10 true 14 (.bin .eql (.t 13) (i 0)),p 15 10 14,m 5 15] (q (r [f 0 16 3,v 17 16] (.block 0 (r [h .eql 19 17 0,m 18 19] (d 18 (r [m 20 5,m 21 20,M 21 22 0,og 21 true 23 (.ldn 5 (.t 3)),og 21 true 24 (.call 112 [.t 22,.t 23,i 1]),p 25 21 24,m 4 25] .ret) (r [h .eql 27 17 1,m 26 27] (d 26 (r [f 1 28 3,v 29 28,h .eql 30 29 0,m 31 30,og 31 true 32 (.fa 2 (.t 3)),og 31 true 33 (.ld (.t 32)),og 31 true 34 (.eQ (.t 33)),og 31 true 35 (.bin .eql (.t 34) (i 1)),p 36 31 35,m 4 36] .ret) (r [h .eql 38 17 2,m 37 38] (d 37 (r [f 1 39 3,v 40 39,h .eql 41 40 0,m 42 41,og 42 true 43 (.fa 2 (.t 3)),og 42 true 44 (.ld (.t 43)),og 42 true 45 (.eQ (.t 44)),og 42 true 46 (.bin .eql (.t 45) (i 1)),p 47 42 46,m 48 47,og 48 true 49 (.fa 4 (.t 3)),og 48 true 50 (.ld (.t 49)),og 48 true 51 (.eQ (.t 50)),og 48 true 52 (.bin .eql (.t 51) (i 0)),p 53 48 52,m 4 53] .ret) (r [h .eql 55 17 3,m 54 55] (d 54 (r [m 56 5,m 57 56,og 57 true 58 (.fa 1 (.t 3)),og 57 true 59 (.ld (.t 58)),og 57 true 60 (.bin .geq (.t 59) (i 0)),p 61 57 60,m 62 61,og 62 true 63 (.fa 1 (.t 3)),og 62 true 64 (.ld (.t 63)),og 62 true 65 (.bin .leq (.t 64) (i 47)),p 66 62 65,m 67 66,og 67 true 68 (.fa 2 (.t 3)),og 67 true 69 (.ld (.t 68)),og 67 true 70 (.eQ (.t 69)),og 67 true 71 (.bin .eql (.t 70) (i 1)),p 72 67 71,m 4 72] .ret) (r [h .eql 74 17 4,m 73 74] (d 73 (r [m 75 5,m 76 75,M 76 77 0,og 76 true 78 (.ldn 5 (.t 3)),og 76 true 79 (.call 112 [.t 77,.t 78,i 0]),p 80 76 79,m 4 80] .ret) (q (r [h .eql 82 17 5,m 81 82] (d 81 .skip (.cL [h .eql 83 17 6,m 81 83]))) (d 81 (r [m 84 5,m 85 84,og 85 true 86 (.fa 1 (.t 3)),og 85 true 87 (.ld (.t 86)),og 85 true 88 (.bin .eql (.t 87) (i 0)),p 89 85 88,m 90 89,og 90 true 91 (.fa 2 (.t 3)),og 90 true 92 (.ld (.t 91)),og 90 true 93 (.eQ (.t 92)),og 90 true 94 (.bin .eql (.t 93) (i 1)),p 95 90 94,m 4 95] .ret) .skip)))))))))))))) (r [o 4 (.mv F)] .ret)))⟩
theorem c94:ar Tryz.prog Tryz.f94=some Ri:=by kernel_rfl
def XI:AF:=⟨4,23,[.tmp 8],r [B 7 3,o 8 (.mv F)] (r [n 4 9 7,c 10 113 [.t 9,i 400],m 11 10,og 11 true 12 (.ldn 4 (.t 7)),og 11 true 13 (.call 114 [.t 12]),og 11 true 14 (.bin .leq (.t 13) (i 16)),p 15 11 14,m 16 15,M 16 17 0,M 16 18 1,M 16 19 2,og 16 true 20 (.ldn 4 (.t 7)),og 16 true 21 (.call 115 [.t 17,.t 18,.t 19,.t 20]),p 22 16 21,m 8 22] .ret)⟩
theorem c95:ar Tryz.prog Tryz.f95=some XI:=by kernel_rfl
def XJ:AF:=⟨2,20,[.tmp 4],r [o 4 (.mv (i 0))] (r [o 5 (.mv (i 0))] (q (r [o 6 (.mv (i 0))] (.block 0 (.loop (q (r [m 7 6,m 8 1,b .lss 9 7 8] (d 9 .skip (.exit 0))) (q (.block 1 (.cL [m 12 5,m 13 0,m 14 6,j 3 15 13 14,f 2 16 15,v 17 16,b .add 18 12 17,m 5 18])) (.cL [m 10 6,h .add 11 10 1,m 6 11])))))) (r [m 19 5,m 4 19] .ret)))⟩
theorem c96:ar Tryz.prog Tryz.f96=some XJ:=by kernel_rfl
def XL:AF:=⟨2,17,[.tmp 4],r [o 4 (.mv F)] (r [m 5 0,c 6 91 [.t 5],m 7 6,M 7 8 1,og 7 true 9 (.bin .geq (.t 8) (i 0)),p 10 7 9,m 11 10,M 11 12 1,M 11 13 0,og 11 true 14 (.call 106 [.t 13]),og 11 true 15 (.bin .lss (.t 12) (.t 14)),p 16 11 15,m 4 16] .ret)⟩
theorem c97:ar Tryz.prog Tryz.f97=some XL:=by kernel_rfl
def XM:AF:=⟨2,72,[.tmp 4],r [o 4 (.mv (i 0))] (q (r [m 9 0,h .lss 10 9 1,m 11 10,N 11 12 0,og 11 false 13 (.bin .gtr (.t 12) (i 8)),P 14 11 13,m 15 14,N 15 16 1,og 15 false 17 (.eQ (.t 16)),og 15 false 18 (.bin .lss (.t 17) (i 1)),P 19 15 18,m 20 19,N 20 21 1,og 20 false 22 (.eQ (.t 21)),og 20 false 23 (.bin .gtr (.t 22) (i 18)),P 24 20 23] (d 24 (r [o 4 (.mv (i 1))] .ret) .skip)) (r [o 25 .mkmap,m 5 25] (r [o 6 (.mv (i 0))] (q (r [m 26 1,L 27 26,o 28 (.mv (i 0))] (.block 0 (.loop (r [b .lss 29 28 27] (q (d 29 .skip (.exit 0)) (q (.block 1 (q (.cL [j 3 30 26 28,n 3 31 30,o 8 (.alloc [.string ⟨#[]⟩,z,z]),s (.st 3 (.t 8) (.t 31))]) (q (r [f 0 32 8,v 33 32,c 34 116 [.t 33],U 35 34,m 36 35,N 36 37 5,og 36 false 38 (.fa 0 (.t 8)),og 36 false 39 (.ld (.t 38)),og 36 false 40 (.look 1 (.bool false) (.t 37) (.t 39) false),P 41 36 40,m 42 41,og 42 false 43 (.fa 1 (.t 8)),og 42 false 44 (.ld (.t 43)),og 42 false 45 (.bin .lss (.t 44) (i 0)),P 46 42 45,m 47 46,og 47 false 48 (.fa 1 (.t 8)),og 47 false 49 (.ld (.t 48)),og 47 false 50 (.bin .gtr (.t 49) (i 47)),P 51 47 50,m 52 51,og 52 false 53 (.fa 2 (.t 8)),og 52 false 54 (.ld (.t 53)),og 52 false 55 (.bin .lss (.t 54) (i 1)),P 56 52 55,m 57 56,og 57 false 58 (.fa 2 (.t 8)),og 57 false 59 (.ld (.t 58)),og 57 false 60 (.bin .gtr (.t 59) (i 8)),P 61 57 60] (d 61 (r [o 4 (.mv (i 1))] .ret) .skip)) (r [m 62 5,f 0 63 8,v 64 63,s (.qg 1 (.t 62) (.t 64) W)] (.cL [m 65 6,f 2 66 8,v 67 66,b .add 68 65 67,m 6 68]))))) (.cL [h .add 69 28 1,m 28 69]))))))) (q (r [m 70 6,h .gtr 71 70 48] (d 71 (r [o 4 (.mv (i 1))] .ret) .skip)) (r [o 4 (.mv (i 0))] .ret))))))⟩
theorem c98:ar Tryz.prog Tryz.f98=some XM:=by kernel_rfl
def LO:AF:=⟨4,127,[.tmp 8],r [B 5 1,o 8 (.mv F)] (q (r [m 13 2,L 14 13,h .gtr 15 14 0,m 16 15,M 16 17 3,og 16 true 18 (.bin .gtr (.t 17) (i 16)),p 19 16 18] (d 19 (r [o 8 (.mv F)] .ret) .skip)) (q (r [m 20 2,L 21 20,o 22 (.mv (i 0))] (.block 0 (.loop (r [b .lss 23 22 21] (q (d 23 .skip (.exit 0)) (q (.block 1 (r [j 5 24 20 22,n 5 25 24,o 10 (.alloc [z,z,y,y,y]),s (.st 5 (.t 10) (.t 25))] (r [m 26 0,o 27 (.bB (.t 26)),f 0 28 27,v 29 28,h .add 30 29 1,o 31 (.bB (.t 26)),f 0 32 31,s (.st 1 (.t 32) (.t 30))] (r [m 33 0,o 34 (.bB (.t 33)),f 1 35 34,v 36 35,h .add 37 36 1,o 38 (.bB (.t 33)),f 1 39 38,s (.st 1 (.t 39) (.t 37))] (q (q (.bO [m 40 0,o 41 (.bB (.t 40)),f 1 42 41,v 43 42,h .gtr 44 43 400,m 45 44,og 45 false 46 (.ldn 3 (.t 5)),og 45 false 47 (.ldn 5 (.t 10)),og 45 false 49 (.fa 2 (.t 10)),og 45 false 50 (.ld (.t 49)),og 45 false 51 (.eQ (.t 50)),og 45 false 48 (.call 117 [.t 46,.t 47]),og 45 false 52 (.bin .neq (.t 48) (.t 51)),P 53 45 52] [(0,(9,11))]) (d 53 (r [o 8 (.mv F)] .ret) .skip)) (q (r [f 3 54 10,v 55 54,L 56 55,h .gtr 57 56 0,m 58 57,og 58 true 59 (.fa 0 (.t 10)),og 58 true 60 (.ld (.t 59)),og 58 true 61 (.bin .neq (.t 60) (i 1)),p 62 58 61,m 63 62,og 63 true 64 (.fa 0 (.t 10)),og 63 true 65 (.ld (.t 64)),og 63 true 66 (.bin .neq (.t 65) (i 2)),p 67 63 66,m 68 67,og 68 false 69 (.fa 4 (.t 10)),og 68 false 70 (.ld (.t 69)),og 68 false 71 (.eQ (.t 70)),og 68 false 72 (.bin .gtr (.t 71) (i 0)),N 68 73 72,og 73 true 74 (.fa 0 (.t 10)),og 73 true 75 (.ld (.t 74)),og 73 true 76 (.bin .neq (.t 75) (i 1)),og 68 false 77 (.pick (.t 73) (.t 76) F),P 78 68 77] (d 78 (r [o 8 (.mv F)] .ret) .skip)) (q (r [f 2 79 10,v 80 79,L 81 80,o 82 (.mv (i 0))] (.block 2 (.loop (r [b .lss 83 82 81] (q (d 83 .skip (.exit 2)) (q (.block 3 (r [j 4 84 80 82,n 4 85 84,o 12 (.alloc [z,z,z,y]),s (.st 4 (.t 12) (.t 85))] (q (r [f 0 86 5,v 87 86,f 1 88 5,v 89 88,n 4 90 12,c 91 118 [.t 87,.t 89,i 1,.t 90],h .neq 92 91 0] (d 92 (r [o 8 (.mv F)] .ret) .skip)) (.bO [m 93 0,o 94 (.bB (.t 93)),f 1 95 94,v 96 95,n 4 97 12,c 98 100 [.t 97],b .add 99 96 98,o 100 (.bB (.t 93)),f 1 101 100,s (.st 1 (.t 101) (.t 99))] [(0,(3,5))])))) (.cL [h .add 102 82 1,m 82 102]))))))) (r [m 103 0,n 3 104 5,f 3 105 10,v 106 105,m 107 3,h .add 108 107 1,c 109 99 [.t 103,.t 104,.t 106,.t 108],U 110 109,m 111 110,N 111 112 0,og 111 false 113 (.ldn 3 (.t 5)),og 111 false 114 (.fa 4 (.t 10)),og 111 false 115 (.ld (.t 114)),N 111 116 3,og 111 false 117 (.bin .add (.t 116) (i 1)),og 111 false 118 (.call 99 [.t 112,.t 113,.t 115,.t 117]),og 111 false 119 (.un .not (.t 118)),P 120 111 119] (d 120 (r [o 8 (.mv F)] .ret) .skip))))))))) (.cL [h .add 121 22 1,m 22 121]))))))) (r [m 122 0,o 123 (.bB (.t 122)),f 1 124 123,v 125 124,h .leq 126 125 400,m 8 126] .ret)))⟩
theorem c99:ar Tryz.prog Tryz.f99=some LO:=by kernel_rfl
def IU:AF:=⟨1,19,[.tmp 2],r [B 1 0,o 2 (.mv (i 0))] (r [o 3 (.mv (i 1))] (q (r [f 3 6 1,v 7 6,L 8 7,o 9 (.mv (i 0))] (.block 0 (.loop (r [b .lss 10 9 8] (q (d 10 .skip (.exit 0)) (q (.block 1 (r [j 4 11 7 9,n 4 12 11,o 5 (.alloc [z,z,z,y]),s (.st 4 (.t 5) (.t 12))] (.cL [m 13 3,n 4 14 5,c 15 100 [.t 14],b .add 16 13 15,m 3 16]))) (.cL [h .add 17 9 1,m 9 17]))))))) (r [m 18 3,m 2 18] .ret)))⟩
theorem aaE:ar Tryz.prog Tryz.f100=some IU:=by kernel_rfl
def IV:AF:=⟨5,20,[.tmp 10],r [B 8 3,o 10 (.mv (i 0))] (r [m 11 0,m 12 1,m 13 2,L 14 13,o 15 (.build [z,y,z] [(0,(1,.t 11)),(1,(1,.t 12)),(2,(1,.t 14))]),m 16 2,n 4 17 8,m 18 4,c 19 119 [.t 15,.t 16,.t 17,.t 18],m 10 19] .ret)⟩
theorem aaF:ar Tryz.prog Tryz.f101=some IV:=by kernel_rfl
def IW:AF:=⟨3,19,[],.bO [v 5 2,v 6 2,o 7 (.bB (.t 6)),f 6 8 7,f 3 9 8,v 10 9,m 11 0,m 12 1,o 13 (.build [z,z,z] [(0,(1,i 1)),(1,(1,.t 11)),(2,(1,.t 12))]),o 14 (.bsl 1 3 [z,z,z] [(0,(3,.t 13))]),o 15 (.app 3 24 (.t 10) (.t 14)),o 16 (.bB (.t 5)),f 6 17 16,f 3 18 17,s (.st 1 (.t 18) (.t 15))] [(0,(0,10))]⟩
theorem aaG:ar Tryz.prog Tryz.f102=some IW:=by kernel_rfl
def IX:AF:=⟨1,33,[.tmp 2],r [B 1 0,o 2 (.mv (i 0))] (r [o 3 (.mv (i 1))] (q (r [f 3 8 1,v 9 8,L 10 9,o 11 (.mv (i 0))] (.block 0 (.loop (r [b .lss 12 11 10] (q (d 12 .skip (.exit 0)) (q (.block 1 (r [j 5 13 9 11,n 5 14 13,o 5 (.alloc [z,z,y,y,y]),s (.st 5 (.t 5) (.t 14))] (.cL [m 15 3,n 5 16 5,c 17 103 [.t 16],b .add 18 15 17,m 3 18]))) (.cL [h .add 19 11 1,m 11 19]))))))) (q (r [f 4 20 1,v 21 20,L 22 21,o 23 (.mv (i 0))] (.block 2 (.loop (r [b .lss 24 23 22] (q (d 24 .skip (.exit 2)) (q (.block 3 (r [j 5 25 21 23,n 5 26 25,o 7 (.alloc [z,z,y,y,y]),s (.st 5 (.t 7) (.t 26))] (.cL [m 27 3,n 5 28 7,c 29 103 [.t 28],b .add 30 27 29,m 3 30]))) (.cL [h .add 31 23 1,m 23 31]))))))) (r [m 32 3,m 2 32] .ret))))⟩
theorem aaH:ar Tryz.prog Tryz.f103=some IX:=by kernel_rfl
def IY:AF:=⟨1,6,[.tmp 2],r [o 2 (.mv (i 0))] (r [m 3 0,c 4 106 [.t 3],h .sub 5 4 1,m 2 5] .ret)⟩
theorem aaI:ar Tryz.prog Tryz.f105=some IY:=by kernel_rfl
def IZ:AF:=⟨1,13,[.tmp 2],r [o 2 (.mv (i 0))] (r [o 3 (.mv (i 1))] (q (r [o 4 (.mv (i 0))] (.block 0 (.loop (q (r [m 5 4,m 6 0,b .lss 7 5 6] (d 7 .skip (.exit 0))) (q (.block 1 (.cL [m 10 3,o 11 (.bin .mul (i 2) (.t 10)),m 3 11])) (.cL [m 8 4,h .add 9 8 1,m 4 9])))))) (r [m 12 3,m 2 12] .ret)))⟩
theorem aaJ:ar Tryz.prog Tryz.f106=some IZ:=by kernel_rfl
def I1:AF:=⟨4,29,[.tmp 8],r [o 8 (.mv (i 0))] (r [o 9 (.mv (.k (.slice none 0 0)))] (q (r [o 10 (.mv (i 0))] (.block 0 (.loop (q (r [m 11 10,m 12 1,b .lss 13 11 12] (d 13 .skip (.exit 0))) (q (.block 1 (.cL [m 16 9,m 17 0,m 18 2,m 19 10,c 20 122 [.t 18,.t 19],m 21 3,m 22 10,c 23 122 [.t 21,.t 22],c 24 121 [.t 17,.t 20,.t 23],o 25 (.bsl 1 1 [z] [(0,(1,.t 24))]),o 26 (.app 1 8 (.t 16) (.t 25)),m 9 26])) (.cL [m 14 10,h .add 15 14 1,m 10 15])))))) (r [m 27 9,c 28 123 [.t 27],m 8 28] .ret)))⟩
theorem aaK:ar Tryz.prog Tryz.f107=some I1:=by kernel_rfl
def I3:AF:=⟨3,15,[.tmp 6],r [o 6 (.mv (.k (.slice none 0 0)))] (r [m 8 0,c 9 9 [.t 8],m 7 9] (r [m 10 7,m 11 1,m 12 2,j 1 13 10 11,s (.st 1 (.t 13) (.t 12))] (r [m 14 7,m 6 14] .ret)))⟩
theorem aaL:ar Tryz.prog Tryz.f108=some I3:=by kernel_rfl
def EV:AF:=⟨1,9,[.tmp 2],r [o 2 (.mv F)] (r [m 3 0,o 4 (.bin .geq (.t 3) (.k (.int .u8 97))),m 5 4,M 5 6 0,og 5 true 7 (.bin .leq (.t 6) (.k (.int .u8 122))),p 8 5 7,m 2 8] .ret)⟩
theorem aaM:ar Tryz.prog Tryz.f109=some EV:=by kernel_rfl
def nI:AF:=⟨1,16,[.tmp 2],r [o 2 (.mv F)] (q (r [m 3 0] (.block 0 (q (r [o 5 (.bin .eql (.t 3) (.k (.string ⟨#[119,105,100,116,104]⟩))),m 4 5] (d 4 .skip (r [o 6 (.bin .eql (.t 3) (.k (.string ⟨#[118,97,114]⟩))),m 4 6] (d 4 .skip (r [o 7 (.bin .eql (.t 3) (.k (.string ⟨#[105,102]⟩))),m 4 7] (d 4 .skip (r [o 8 (.bin .eql (.t 3) (.k (.string ⟨#[101,108,115,101]⟩))),m 4 8] (d 4 .skip (r [o 9 (.bin .eql (.t 3) (.k (.string ⟨#[119,104,105,108,101]⟩))),m 4 9] (d 4 .skip (r [o 10 (.bin .eql (.t 3) (.k (.string ⟨#[111,117,116]⟩))),m 4 10] (d 4 .skip (r [o 11 (.bin .eql (.t 3) (.k (.string ⟨#[112,105,99,107]⟩))),m 4 11] (d 4 .skip (r [o 12 (.bin .eql (.t 3) (.k (.string ⟨#[110,101,101,100]⟩))),m 4 12] (d 4 .skip (r [o 13 (.bin .eql (.t 3) (.k (.string ⟨#[109,117,115,116]⟩))),m 4 13] (d 4 .skip (r [o 14 (.bin .eql (.t 3) (.k (.string ⟨#[108,101,118,101,108]⟩))),m 4 14] (d 4 .skip (.cL [o 15 (.bin .eql (.t 3) (.k (.string ⟨#[115,101,101,115]⟩))),m 4 15]))))))))))))))))))))) (d 4 (r [o 2 (.mv W)] .ret) .skip)))) (r [o 2 (.mv F)] .ret))⟩
theorem aaN:ar Tryz.prog Tryz.f110=some nI:=by kernel_rfl
def EW:AF:=⟨1,9,[.tmp 2],r [o 2 (.mv F)] (r [m 3 0,o 4 (.bin .geq (.t 3) (.k (.int .u8 48))),m 5 4,M 5 6 0,og 5 true 7 (.bin .leq (.t 6) (.k (.int .u8 57))),p 8 5 7,m 2 8] .ret)⟩
theorem aaO:ar Tryz.prog Tryz.f111=some EW:=by kernel_rfl
def I4:AF:=⟨3,33,[.tmp 6],r [B 4 1,o 6 (.mv F)] (q (.bO [f 1 7 4,v 8 7,h .geq 9 8 0,m 10 9,og 10 true 11 (.fa 1 (.t 4)),og 10 true 12 (.ld (.t 11)),M 10 13 0,og 10 true 14 (.eQ (.t 13)),og 10 true 15 (.bin .lss (.t 12) (.t 14)),p 16 10 15,m 17 16,og 17 true 18 (.fa 2 (.t 4)),og 17 true 19 (.ld (.t 18)),og 17 true 20 (.eQ (.t 19)),M 17 21 2,M 17 22 0,og 17 true 23 (.fa 1 (.t 4)),og 17 true 24 (.ld (.t 23)),og 17 true 25 (.ia 3 (.t 22) (.t 24)),og 17 true 26 (.fa 2 (.t 25)),og 17 true 27 (.ld (.t 26)),og 17 true 28 (.bin .gtr (.t 27) (i 1)),og 17 true 29 (.call 88 [.t 28]),og 17 true 30 (.bin .add (.t 21) (.t 29)),og 17 true 31 (.bin .eql (.t 20) (.t 30)),p 32 17 31,m 6 32] [(0,(12,22))]) .ret)⟩
theorem aaP:ar Tryz.prog Tryz.f112=some I4:=by kernel_rfl
def I5:AF:=⟨2,10,[.tmp 4],r [B 2 0,o 4 (.mv F)] (r [n 4 5 2,m 6 1,h .add 7 6 1,c 8 61 [.t 5,.t 7],h .gtr 9 8 0,m 4 9] .ret)⟩
theorem aaQ:ar Tryz.prog Tryz.f113=some I5:=by kernel_rfl
def I6:AF:=⟨1,22,[.tmp 2],r [B 1 0,o 2 (.mv (i 0))] (r [o 3 (.mv (i 0))] (q (r [o 4 (.mv (i 0))] (.block 0 (.loop (q (r [m 5 4,f 3 6 1,v 7 6,L 8 7,b .lss 9 5 8] (d 9 .skip (.exit 0))) (q (.block 1 (.cL [m 12 3,f 3 13 1,v 14 13,m 15 4,j 4 16 14 15,n 4 17 16,c 18 114 [.t 17],o 19 (.mxl (.t 12) [.t 18]),m 3 19])) (.cL [m 10 4,h .add 11 10 1,m 4 11])))))) (r [m 20 3,h .add 21 20 1,m 2 21] .ret)))⟩
theorem aaR:ar Tryz.prog Tryz.f114=some I6:=by kernel_rfl
def I7:AF:=⟨4,33,[.tmp 8],r [B 7 3,o 8 (.mv F)] (q (r [m 10 0,m 11 1,m 12 2,n 4 13 7,c 14 124 [.t 10,.t 11,.t 12,.t 13],U 15 14] (d 15 (r [o 8 (.mv F)] .ret) .skip)) (q (r [o 9 (.mv (i 0))] (.block 0 (.loop (q (r [m 16 9,f 3 17 7,v 18 17,L 19 18,b .lss 20 16 19] (d 20 .skip (.exit 0))) (q (.block 1 (r [m 23 0,m 24 1,m 25 2,f 3 26 7,v 27 26,m 28 9,j 4 29 27 28,n 4 30 29,c 31 115 [.t 23,.t 24,.t 25,.t 30],U 32 31] (d 32 (r [o 8 (.mv F)] .ret) .skip))) (.cL [m 21 9,h .add 22 21 1,m 9 22])))))) (r [o 8 (.mv W)] .ret)))⟩
theorem aaS:ar Tryz.prog Tryz.f115=some I7:=by kernel_rfl
def EX:AF:=⟨1,45,[.tmp 2],r [o 2 (.mv F)] (q (r [m 4 0,o 5 (.bin .eql (.t 4) (.k (.string ⟨#[]⟩))),m 6 5,N 6 7 0,og 6 false 8 (.lens (.t 7)),og 6 false 9 (.bin .gtr (.t 8) (i 12)),P 10 6 9,m 11 10,N 11 12 0,og 11 false 13 (.ix (.t 12) (i 0)),og 11 false 14 (.bin .lss (.t 13) (.k (.int .u8 97))),P 15 11 14,m 16 15,N 16 17 0,og 16 false 18 (.ix (.t 17) (i 0)),og 16 false 19 (.bin .gtr (.t 18) (.k (.int .u8 122))),P 20 16 19] (d 20 (r [o 2 (.mv F)] .ret) .skip)) (q (r [o 3 (.mv (i 0))] (.block 0 (.loop (q (r [m 21 3,m 22 0,o 23 (.lens (.t 22)),b .lss 24 21 23] (d 24 .skip (.exit 0))) (q (.block 1 (r [m 27 0,m 28 3,o 29 (.ix (.t 27) (.t 28)),c 30 125 [.t 29],U 31 30] (d 31 (r [o 2 (.mv F)] .ret) .skip))) (.cL [m 25 3,h .add 26 25 1,m 3 26])))))) (q (r [m 32 0] (.block 2 (q (r [o 34 (.bin .eql (.t 32) (.k (.string ⟨#[119,105,100,116,104]⟩))),m 33 34] (d 33 .skip (r [o 35 (.bin .eql (.t 32) (.k (.string ⟨#[118,97,114]⟩))),m 33 35] (d 33 .skip (r [o 36 (.bin .eql (.t 32) (.k (.string ⟨#[105,102]⟩))),m 33 36] (d 33 .skip (r [o 37 (.bin .eql (.t 32) (.k (.string ⟨#[101,108,115,101]⟩))),m 33 37] (d 33 .skip (r [o 38 (.bin .eql (.t 32) (.k (.string ⟨#[119,104,105,108,101]⟩))),m 33 38] (d 33 .skip (r [o 39 (.bin .eql (.t 32) (.k (.string ⟨#[111,117,116]⟩))),m 33 39] (d 33 .skip (r [o 40 (.bin .eql (.t 32) (.k (.string ⟨#[112,105,99,107]⟩))),m 33 40] (d 33 .skip (r [o 41 (.bin .eql (.t 32) (.k (.string ⟨#[110,101,101,100]⟩))),m 33 41] (d 33 .skip (r [o 42 (.bin .eql (.t 32) (.k (.string ⟨#[109,117,115,116]⟩))),m 33 42] (d 33 .skip (r [o 43 (.bin .eql (.t 32) (.k (.string ⟨#[108,101,118,101,108]⟩))),m 33 43] (d 33 .skip (.cL [o 44 (.bin .eql (.t 32) (.k (.string ⟨#[115,101,101,115]⟩))),m 33 44]))))))))))))))))))))) (d 33 (r [o 2 (.mv F)] .ret) .skip)))) (r [o 2 (.mv W)] .ret))))⟩
theorem aaT:ar Tryz.prog Tryz.f116=some EX:=by kernel_rfl
def Cu:AF:=⟨2,60,[.tmp 4],r [B 2 0,B 3 1,o 4 (.mv (i 0))] (r [o 5 (.mv (i 0))] (q (r [f 1 7 3,v 8 7,h .geq 9 8 0,m 10 9,og 10 true 11 (.fa 1 (.t 3)),og 10 true 12 (.ld (.t 11)),og 10 true 13 (.fa 1 (.t 2)),og 10 true 14 (.ld (.t 13)),og 10 true 15 (.eQ (.t 14)),og 10 true 16 (.bin .lss (.t 12) (.t 15)),p 17 10 16] (d 17 (.cL [f 1 18 2,v 19 18,f 1 20 3,v 21 20,j 3 22 19 21,f 2 23 22,v 24 23,m 5 24]) .skip)) (q (r [f 0 25 3,v 26 25] (.block 0 (q (r [h .eql 28 26 0,m 27 28] (d 27 .skip (.cL [h .eql 29 26 4,m 27 29]))) (d 27 (r [o 6 (.mv (i 0))] (q (r [f 0 30 3,v 31 30,h .eql 32 31 0] (d 32 (.cL [o 6 (.mv (i 1))]) .skip)) (q (.block 1 (r [m 34 5,h .eql 35 34 0,m 33 35] (d 33 (r [o 4 (.mv (i (-1)))] .ret) (r [m 37 5,h .gtr 38 37 1,m 36 38] (d 36 (r [m 39 6,h .add 40 39 1,m 4 40] .ret) .skip))))) (r [m 41 6,m 4 41] .ret)))) (r [h .eql 43 26 3,m 42 43] (d 42 (q (r [f 1 44 3,v 45 44,h .lss 46 45 0,m 47 46,og 47 false 48 (.fa 1 (.t 3)),og 47 false 49 (.ld (.t 48)),og 47 false 50 (.bin .gtr (.t 49) (i 47)),P 51 47 50] (d 51 (r [o 4 (.mv (i (-1)))] .ret) .skip)) (r [o 4 (.mv (i 1))] .ret)) (q (r [h .eql 53 26 1,m 52 53] (d 52 .skip (r [h .eql 54 26 2,m 52 54] (d 52 .skip (r [h .eql 55 26 5,m 52 55] (d 52 .skip (.cL [h .eql 56 26 6,m 52 56]))))))) (d 52 (q (r [f 1 57 3,v 58 57,h .neq 59 58 0] (d 59 (r [o 4 (.mv (i (-1)))] .ret) .skip)) (r [o 4 (.mv (i 1))] .ret)) .skip)))))))) (r [o 4 (.mv (i (-1)))] .ret))))⟩
theorem aaU:ar Tryz.prog Tryz.f117=some Cu:=by kernel_rfl
def I8:AF:=⟨4,15,[.tmp 8],r [B 7 3,o 8 (.mv (i 0))] (r [m 9 0,m 10 1,m 11 2,o 12 (.build [z,y,z] [(0,(1,.t 9)),(1,(1,.t 10)),(2,(1,.t 11))]),n 4 13 7,c 14 126 [.t 12,.t 13],m 8 14] .ret)⟩
theorem aaV:ar Tryz.prog Tryz.f118=some I8:=by kernel_rfl
def I9:AF:=⟨4,106,[.tmp 8],r [B 4 0,B 6 2,o 8 (.mv (i 0))] (r [o 9 (.alloc [z,z,z])] (q (r [f 3 17 6,v 18 17,L 19 18,o 20 (.mv (i 0))] (.block 0 (.loop (r [b .lss 21 20 19] (q (d 21 .skip (.exit 0)) (q (.block 1 (r [m 22 20,j 4 23 18 20,n 4 24 23,o 11 (.alloc [z,z,z,y]),m 10 22,s (.st 4 (.t 11) (.t 24))] (.cL [m 25 10,n 3 26 4,m 27 1,n 4 28 11,m 29 3,c 30 119 [.t 26,.t 27,.t 28,.t 29],o 31 (.wz 3 1 (.t 9) (.t 25)),s (.st 1 (.t 31) (.t 30))]))) (.cL [h .add 32 20 1,m 20 32]))))))) (q (r [f 0 33 6,v 34 33] (.block 2 (r [h .eql 36 34 0,m 35 36] (d 35 (r [f 1 37 6,v 38 37,m 8 38] .ret) (r [h .eql 40 34 1,m 39 40] (d 39 (r [o 12 (.mv (i 0))] (q (r [f 3 41 6,v 42 41,L 43 42,h .gtr 44 43 0] (d 44 (q (.bO [o 45 (.wz 3 1 (.t 9) (i 0)),v 46 45,f 1 47 4,v 48 47,f 1 49 6,v 50 49,j 3 51 48 50,f 2 52 51,v 53 52,b .rem 54 46 53,m 12 54] []) (.cL [m 55 3,f 1 56 6,v 57 56,m 58 12,o 59 (.callv (.t 55) [.t 57,.t 58])])) .skip)) (q (.bO [m 60 1,f 2 61 6,v 62 61,j 1 63 60 62,v 64 63,n 3 65 4,f 1 66 6,v 67 66,m 69 12,c 68 127 [.t 65,.t 67],b .add 70 68 69,j 1 71 64 70,v 72 71,m 8 72] [(0,(2,9)),(0,(4,9))]) .ret))) (r [h .eql 74 34 12,m 73 74] (d 73 (r [f 0 76 4,v 77 76,o 78 (.wz 3 1 (.t 9) (i 0)),v 79 78,c 80 128 [.t 77,.t 79],m 75 80,e 81 75 0,e 82 75 1,m 13 81,m 14 82] (r [m 83 13,m 8 83] .ret)) (r [h .eql 85 34 15,m 84 85] (d 84 (q (r [o 86 (.wz 3 1 (.t 9) (i 0)),v 87 86,h .neq 88 87 0] (d 88 (r [o 89 (.wz 3 1 (.t 9) (i 1)),v 90 89,m 8 90] .ret) .skip)) (r [o 91 (.wz 3 1 (.t 9) (i 2)),v 92 91,m 8 92] .ret)) .skip)))))))))) (r [f 0 94 6,v 95 94,f 0 96 4,v 97 96,o 98 (.wz 3 1 (.t 9) (i 0)),v 99 98,o 100 (.wz 3 1 (.t 9) (i 1)),v 101 100,c 102 129 [.t 95,.t 97,.t 99,.t 101],m 93 102,e 103 93 0,e 104 93 1,m 15 103,m 16 104] (r [m 105 15,m 8 105] .ret)))))⟩
theorem aaW:ar Tryz.prog Tryz.f119=some I9:=by kernel_rfl
def Ja:AF:=⟨3,26,[.tmp 6],r [o 6 (.mv (i 0))] (q (r [m 7 0] (.block 0 (r [h .eql 9 7 7,m 8 9] (d 8 (r [m 10 1,m 11 2,b .mul 12 10 11,m 6 12] .ret) (r [h .eql 14 7 8,m 13 14] (d 13 (r [m 15 1,m 16 2,b .add 17 15 16,m 18 1,m 19 2,b .mul 20 18 19,b .sub 21 17 20,m 6 21] .ret) .skip)))))) (r [m 22 1,m 23 2,b .add 24 22 23,h .rem 25 24 2,m 6 25] .ret))⟩
theorem aaX:ar Tryz.prog Tryz.f121=some Ja:=by kernel_rfl
def Jb:AF:=⟨2,10,[.tmp 4],r [o 4 (.mv (i 0))] (r [m 5 0,m 6 1,c 7 106 [.t 6],b .quo 8 5 7,h .rem 9 8 2,m 4 9] .ret)⟩
theorem aaY:ar Tryz.prog Tryz.f122=some Jb:=by kernel_rfl
def Jc:AF:=⟨1,21,[.tmp 2],r [o 2 (.mv (i 0))] (r [o 3 (.mv (i 0))] (q (r [o 4 (.mv (i 0))] (.block 0 (.loop (q (r [m 5 4,m 6 0,L 7 6,b .lss 8 5 7] (d 8 .skip (.exit 0))) (q (.block 1 (.bO [m 11 3,m 12 0,m 13 4,j 1 14 12 13,v 15 14,m 16 4,c 17 106 [.t 16],b .mul 18 15 17,b .add 19 11 18,m 3 19] [(0,(4,6))])) (.cL [m 9 4,h .add 10 9 1,m 4 10])))))) (r [m 20 3,m 2 20] .ret)))⟩
theorem aaZ:ar Tryz.prog Tryz.f123=some Jc:=by kernel_rfl
def u6:AF:=⟨4,67,[.tmp 8],r [B 7 3,o 8 (.mv F)] (q (r [f 0 9 7,v 10 9,h .eql 11 10 1] (d 11 (q (r [f 1 12 7,v 13 12,h .lss 14 13 0,m 15 14,og 15 false 16 (.fa 1 (.t 7)),og 15 false 17 (.ld (.t 16)),N 15 18 1,og 15 false 19 (.eQ (.t 18)),og 15 false 20 (.bin .geq (.t 17) (.t 19)),P 21 15 20,m 22 21,og 22 false 23 (.fa 2 (.t 7)),og 22 false 24 (.ld (.t 23)),og 22 false 25 (.bin .lss (.t 24) (i 0)),P 26 22 25,m 27 26,og 27 false 28 (.fa 2 (.t 7)),og 27 false 29 (.ld (.t 28)),N 27 30 2,og 27 false 31 (.bin .geq (.t 29) (.t 30)),P 32 27 31] (d 32 (r [o 8 (.mv F)] .ret) .skip)) (q (.bO [f 3 33 7,v 34 33,L 35 34,m 36 1,f 1 37 7,v 38 37,j 3 39 36 38,f 2 40 39,v 41 40,h .gtr 42 41 1,c 43 88 [.t 42],b .eql 44 35 43,m 8 44] [(0,(1,10))]) .ret)) .skip)) (q (q (.bO [f 2 45 7,v 46 45,h .neq 47 46 0,m 48 47,og 48 false 49 (.fa 3 (.t 7)),og 48 false 50 (.ld (.t 49)),og 48 false 51 (.eQ (.t 50)),og 48 false 52 (.fa 0 (.t 7)),og 48 false 53 (.ld (.t 52)),og 48 false 54 (.call 130 [.t 53]),og 48 false 55 (.bin .neq (.t 51) (.t 54)),P 56 48 55] [(0,(5,9))]) (d 56 (r [o 8 (.mv F)] .ret) .skip)) (q (r [f 0 57 7,v 58 57,h .eql 59 58 0] (d 59 (r [m 60 0,f 1 61 7,v 62 61,c 63 97 [.t 60,.t 62],m 8 63] .ret) .skip)) (r [f 1 64 7,v 65 64,h .eql 66 65 0,m 8 66] .ret))))⟩
theorem aa0:ar Tryz.prog Tryz.f124=some u6:=by kernel_rfl
def Jd:AF:=⟨1,21,[.tmp 2],r [o 2 (.mv F)] (r [m 3 0,o 4 (.bin .geq (.t 3) (.k (.int .u8 97))),m 5 4,M 5 6 0,og 5 true 7 (.bin .leq (.t 6) (.k (.int .u8 122))),p 8 5 7,m 9 8,N 9 10 0,og 9 false 11 (.bin .geq (.t 10) (.k (.int .u8 48))),N 9 12 11,M 12 13 0,og 12 true 14 (.bin .leq (.t 13) (.k (.int .u8 57))),og 9 false 15 (.pick (.t 12) (.t 14) F),P 16 9 15,m 17 16,N 17 18 0,og 17 false 19 (.bin .eql (.t 18) (.k (.int .u8 95))),P 20 17 19,m 2 20] .ret)⟩
theorem aa1:ar Tryz.prog Tryz.f125=some Jd:=by kernel_rfl
def Je:AF:=⟨2,26,[.tmp 4],r [B 2 0,B 3 1,o 4 (.mv (i 0))] (q (r [f 0 6 2,v 7 6,f 1 8 2,v 9 8,c 10 98 [.t 7,.t 9],h .neq 11 10 0,m 12 11,og 12 false 13 (.fa 2 (.t 2)),og 12 false 14 (.ld (.t 13)),og 12 false 15 (.bin .lss (.t 14) (i 1)),P 16 12 15,m 17 16,og 17 false 18 (.fa 2 (.t 2)),og 17 false 19 (.ld (.t 18)),og 17 false 20 (.bin .gtr (.t 19) (i 3)),P 21 17 20] (d 21 (r [o 4 (.mv (i 1))] .ret) .skip)) (r [o 5 (.alloc [z]),s (.st 1 (.t 5) (i 400))] (q (r [n 3 22 2,n 4 23 3,c 24 131 [.t 22,.t 23,i 1,.t 5],U 25 24] (d 25 (r [o 4 (.mv (i 20))] .ret) .skip)) (r [o 4 (.mv (i 0))] .ret))))⟩
theorem aa2:ar Tryz.prog Tryz.f126=some Je:=by kernel_rfl
def Jf:AF:=⟨2,23,[.tmp 4],r [B 2 0,o 4 (.mv (i 0))] (r [o 5 (.mv (i 0))] (q (r [f 1 8 2,v 9 8,m 10 1,o 11 (.sl 3 (.t 9) none (some (.t 10)) none),L 12 11,o 13 (.mv (i 0))] (.block 0 (.loop (r [b .lss 14 13 12] (q (d 14 .skip (.exit 0)) (q (.block 1 (q (.cL [j 3 15 11 13,n 3 16 15,o 7 (.alloc [.string ⟨#[]⟩,z,z]),s (.st 3 (.t 7) (.t 16))]) (.cL [m 17 5,f 2 18 7,v 19 18,b .add 20 17 19,m 5 20]))) (.cL [h .add 21 13 1,m 13 21]))))))) (r [m 22 5,m 4 22] .ret)))⟩
theorem aa3:ar Tryz.prog Tryz.f127=some Jf:=by kernel_rfl
def Jg:AF:=⟨2,15,[.tmp 4,.tmp 5],r [o 4 (.mv (i 0)),o 5 (.mv (i 0))] (q (r [m 6 0,m 7 1,o 8 (.bsl 1 1 [z] [(0,(1,.t 7))]),c 9 132 [.t 6,.t 8],U 10 9] (d 10 (r [o 4 (.mv (i 0)),o 5 (.mv (i 1))] .ret) .skip)) (r [m 11 0,c 12 133 [.t 11],m 13 1,b .andNot 14 12 13,m 4 14,o 5 (.mv (i 0))] .ret))⟩
theorem aa4:ar Tryz.prog Tryz.f128=some Jg:=by kernel_rfl
def Jh:AF:=⟨4,29,[.tmp 8,.tmp 9],r [o 8 (.mv (i 0)),o 9 (.mv (i 0))] (q (r [m 11 1,m 12 2,m 13 3,o 14 (.bsl 2 1 [z,z] [(0,(1,.t 12)),(1,(1,.t 13))]),c 15 132 [.t 11,.t 14],U 16 15] (d 16 (r [o 8 (.mv (i 0)),o 9 (.mv (i 1))] .ret) .skip)) (r [m 17 0,c 18 134 [.t 17],m 10 18] (q (r [m 19 10,o 20 (.eqk 3 false (.t 19) (.k .nilFunc))] (d 20 (r [o 8 (.mv (i 0)),o 9 (.mv (i 1))] .ret) .skip)) (r [m 21 10,m 22 1,m 23 2,m 24 3,o 25 (.callv (.t 21) [.t 22,.t 23,.t 24]),m 26 1,c 27 133 [.t 26],b .and 28 25 27,m 8 28,o 9 (.mv (i 0))] .ret))))⟩
theorem aa5:ar Tryz.prog Tryz.f129=some Jh:=by kernel_rfl
def zj:AF:=⟨1,12,[.tmp 2],r [o 2 (.mv (i 0))] (q (r [m 3 0] (.block 0 (r [h .eql 5 3 0,m 4 5] (d 4 (r [o 2 (.mv (i 0))] .ret) (r [h .eql 7 3 12,m 6 7] (d 6 (r [o 2 (.mv (i 1))] .ret) (r [h .eql 9 3 15,m 8 9] (d 8 (r [o 2 (.mv (i 3))] .ret) .skip)))))))) (q (r [m 10 0,c 11 135 [.t 10]] (d 11 (r [o 2 (.mv (i 2))] .ret) .skip)) (r [o 2 (.mv (i (-1)))] .ret)))⟩
theorem aa6:ar Tryz.prog Tryz.f130=some zj:=by kernel_rfl
def wU:AF:=⟨4,89,[.tmp 8],r [B 4 0,B 5 1,o 8 (.mv F)] (r [m 11 3,o 12 (.bB (.t 11)),v 13 12,h .sub 14 13 1,o 15 (.bB (.t 11)),s (.st 1 (.t 15) (.t 14))] (q (q (.bO [m 16 3,o 17 (.bB (.t 16)),v 18 17,h .lss 19 18 0,m 20 19,N 20 21 2,og 20 false 22 (.bin .gtr (.t 21) (i 16)),P 23 20 22,m 24 23,og 24 false 25 (.ldn 3 (.t 4)),og 24 false 26 (.ldn 4 (.t 5)),og 24 false 28 (.fa 3 (.t 5)),og 24 false 29 (.ld (.t 28)),og 24 false 30 (.eQ (.t 29)),og 24 false 27 (.call 136 [.t 25,.t 26]),og 24 false 31 (.bin .neq (.t 27) (.t 30)),P 32 24 31] [(0,(12,14))]) (d 32 (r [o 8 (.mv F)] .ret) .skip)) (q (r [f 0 33 5,v 34 33] (.block 0 (r [h .eql 44 34 0,m 43 44] (d 43 (r [f 1 45 5,v 46 45,h .lss 47 46 0,m 48 47,og 48 false 49 (.fa 1 (.t 5)),og 48 false 50 (.ld (.t 49)),og 48 false 51 (.fa 0 (.t 4)),og 48 false 52 (.ld (.t 51)),og 48 false 53 (.B9 .u64 (.t 52)),og 48 false 54 (.bin .shl (i 1) (.t 53)),og 48 false 55 (.bin .geq (.t 50) (.t 54)),P 56 48 55,m 57 56,og 57 false 58 (.fa 2 (.t 5)),og 57 false 59 (.ld (.t 58)),og 57 false 60 (.bin .neq (.t 59) (i 0)),P 61 57 60] (d 61 (r [o 8 (.mv F)] .ret) .skip)) (r [h .eql 63 34 1,m 62 63] (d 62 (r [f 2 64 5,v 65 64,h .lss 66 65 0,m 67 66,og 67 false 68 (.fa 2 (.t 5)),og 67 false 69 (.ld (.t 68)),og 67 false 70 (.fa 2 (.t 4)),og 67 false 71 (.ld (.t 70)),og 67 false 72 (.bin .geq (.t 69) (.t 71)),P 73 67 72] (d 73 (r [o 8 (.mv F)] .ret) .skip)) (r [f 1 35 5,v 36 35,h .neq 37 36 0,m 38 37,og 38 false 39 (.fa 2 (.t 5)),og 38 false 40 (.ld (.t 39)),og 38 false 41 (.bin .neq (.t 40) (i 0)),P 42 38 41] (d 42 (r [o 8 (.mv F)] .ret) .skip)))))))) (q (r [f 3 74 5,v 75 74,L 76 75,o 77 (.mv (i 0))] (.block 1 (.loop (r [b .lss 78 77 76] (q (d 78 .skip (.exit 1)) (q (.block 2 (r [j 4 79 75 77,n 4 80 79,o 10 (.alloc [z,z,z,y]),s (.st 4 (.t 10) (.t 80))] (r [n 3 81 4,n 4 82 10,m 83 2,h .add 84 83 1,m 85 3,c 86 131 [.t 81,.t 82,.t 84,.t 85],U 87 86] (d 87 (r [o 8 (.mv F)] .ret) .skip)))) (.cL [h .add 88 77 1,m 77 88]))))))) (r [o 8 (.mv W)] .ret)))))⟩
theorem aa7:ar Tryz.prog Tryz.f131=some wU:=by kernel_rfl
def Cv:AF:=⟨2,28,[.tmp 4],r [o 4 (.mv F)] (q (r [m 7 0,h .lss 8 7 1,m 9 8,N 9 10 0,og 9 false 11 (.bin .gtr (.t 10) (i 8)),P 12 9 11] (d 12 (r [o 4 (.mv F)] .ret) .skip)) (q (r [m 13 1,L 14 13,o 15 (.mv (i 0))] (.block 0 (.loop (r [b .lss 16 15 14] (q (d 16 .skip (.exit 0)) (q (.block 1 (r [j 1 17 13 15,v 18 17,m 6 18] (r [m 19 6,h .lss 20 19 0,m 21 20,N 21 22 6,N 21 23 0,og 21 false 24 (.call 133 [.t 23]),og 21 false 25 (.bin .gtr (.t 22) (.t 24)),P 26 21 25] (d 26 (r [o 4 (.mv F)] .ret) .skip)))) (.cL [h .add 27 15 1,m 15 27]))))))) (r [o 4 (.mv W)] .ret)))⟩
theorem aa8:ar Tryz.prog Tryz.f132=some Cv:=by kernel_rfl
def Ji:AF:=⟨1,7,[.tmp 2],r [o 2 (.mv (i 0))] (r [m 3 0,o 4 (.B9 .u64 (.t 3)),o 5 (.bin .shl (i 1) (.t 4)),h .sub 6 5 1,m 2 6] .ret)⟩
theorem aa9:ar Tryz.prog Tryz.f133=some Ji:=by kernel_rfl
def Jj:AF:=⟨1,7,[.tmp 2],r [o 2 (.mv (.k .nilFunc))] (r [o 3 .mkmap,s (.qg 0 (.t 3) (i 2) (.f 137)),s (.qg 0 (.t 3) (i 3) (.f 138)),s (.qg 0 (.t 3) (i 4) (.f 139)),s (.qg 0 (.t 3) (i 5) (.f 140)),s (.qg 0 (.t 3) (i 6) (.f 141)),s (.qg 0 (.t 3) (i 7) (.f 142)),s (.qg 0 (.t 3) (i 8) (.f 143)),s (.qg 0 (.t 3) (i 9) (.f 144)),s (.qg 0 (.t 3) (i 10) (.f 145)),s (.qg 0 (.t 3) (i 11) (.f 147)),s (.qg 0 (.t 3) (i 13) (.f 148)),s (.qg 0 (.t 3) (i 14) (.f 150)),m 4 3,m 5 0,o 6 (.look 0 .nilFunc (.t 4) (.t 5) false),m 2 6] .ret)⟩
theorem aba:ar Tryz.prog Tryz.f134=some Jj:=by kernel_rfl
def zk:AF:=⟨1,17,[.tmp 2],r [o 2 (.mv F)] (r [m 3 0,h .geq 4 3 2,m 5 4,M 5 6 0,og 5 true 7 (.bin .leq (.t 6) (i 11)),p 8 5 7,m 9 8,N 9 10 0,og 9 false 11 (.bin .eql (.t 10) (i 13)),P 12 9 11,m 13 12,N 13 14 0,og 13 false 15 (.bin .eql (.t 14) (i 14)),P 16 13 15,m 2 16] .ret)⟩
theorem abb:ar Tryz.prog Tryz.f135=some zk:=by kernel_rfl
def Cw:AF:=⟨2,57,[.tmp 4],r [B 2 0,B 3 1,o 4 (.mv (i 0))] (q (.block 0 (r [f 0 6 3,v 7 6,h .eql 8 7 0,m 5 8] (d 5 (r [o 4 (.mv (i 0))] .ret) (r [f 0 10 3,v 11 10,h .eql 12 11 1,m 13 12,og 13 true 14 (.fa 1 (.t 3)),og 13 true 15 (.ld (.t 14)),og 13 true 16 (.bin .geq (.t 15) (i 0)),p 17 13 16,m 18 17,og 18 true 19 (.fa 1 (.t 3)),og 18 true 20 (.ld (.t 19)),og 18 true 21 (.fa 1 (.t 2)),og 18 true 22 (.ld (.t 21)),og 18 true 23 (.eQ (.t 22)),og 18 true 24 (.bin .lss (.t 20) (.t 23)),p 25 18 24,m 9 25] (d 9 (q (r [f 1 26 2,v 27 26,f 1 28 3,v 29 28,j 3 30 27 29,f 2 31 30,v 32 31,h .gtr 33 32 1] (d 33 (r [o 4 (.mv (i 1))] .ret) .skip)) (r [o 4 (.mv (i 0))] .ret)) (q (r [f 0 35 3,v 36 35,h .geq 37 36 2,m 38 37,og 38 true 39 (.fa 0 (.t 3)),og 38 true 40 (.ld (.t 39)),og 38 true 41 (.bin .leq (.t 40) (i 11)),p 42 38 41,m 34 42] (d 34 .skip (r [f 0 43 3,v 44 43,h .eql 45 44 13,m 34 45] (d 34 .skip (.cL [f 0 46 3,v 47 46,h .eql 48 47 14,m 34 48]))))) (d 34 (r [o 4 (.mv (i 2))] .ret) (r [f 0 50 3,v 51 50,h .eql 52 51 12,m 49 52] (d 49 (r [o 4 (.mv (i 1))] .ret) (r [f 0 54 3,v 55 54,h .eql 56 55 15,m 53 56] (d 53 (r [o 4 (.mv (i 3))] .ret) .skip))))))))))) (r [o 4 (.mv (i (-1)))] .ret))⟩
theorem abc:ar Tryz.prog Tryz.f136=some Cw:=by kernel_rfl
def Jk:AF:=⟨3,10,[.tmp 6],r [o 6 (.mv (i 0))] (r [m 7 1,m 8 2,b .add 9 7 8,m 6 9] .ret)⟩
theorem abd:ar Tryz.prog Tryz.f137=some Jk:=by kernel_rfl
def Jl:AF:=⟨3,10,[.tmp 6],r [o 6 (.mv (i 0))] (r [m 7 1,m 8 2,b .sub 9 7 8,m 6 9] .ret)⟩
theorem abe:ar Tryz.prog Tryz.f138=some Jl:=by kernel_rfl
def Jm:AF:=⟨3,10,[.tmp 6],r [o 6 (.mv (i 0))] (r [m 7 1,m 8 2,b .mul 9 7 8,m 6 9] .ret)⟩
theorem abf:ar Tryz.prog Tryz.f139=some Jm:=by kernel_rfl
def EY:AF:=⟨3,14,[.tmp 6],r [o 6 (.mv (i 0))] (q (r [m 7 2,h .eql 8 7 0] (d 8 (r [m 9 0,c 10 133 [.t 9],m 6 10] .ret) .skip)) (r [m 11 1,m 12 2,b .quo 13 11 12,m 6 13] .ret))⟩
theorem abg:ar Tryz.prog Tryz.f140=some EY:=by kernel_rfl
def EZ:AF:=⟨3,13,[.tmp 6],r [o 6 (.mv (i 0))] (q (r [m 7 2,h .eql 8 7 0] (d 8 (r [m 9 1,m 6 9] .ret) .skip)) (r [m 10 1,m 11 2,b .rem 12 10 11,m 6 12] .ret))⟩
theorem abh:ar Tryz.prog Tryz.f141=some EZ:=by kernel_rfl
def Jn:AF:=⟨3,10,[.tmp 6],r [o 6 (.mv (i 0))] (r [m 7 1,m 8 2,b .and 9 7 8,m 6 9] .ret)⟩
theorem abi:ar Tryz.prog Tryz.f142=some Jn:=by kernel_rfl
def Jo:AF:=⟨3,10,[.tmp 6],r [o 6 (.mv (i 0))] (r [m 7 1,m 8 2,b .or 9 7 8,m 6 9] .ret)⟩
theorem abj:ar Tryz.prog Tryz.f143=some Jo:=by kernel_rfl
def Jp:AF:=⟨3,10,[.tmp 6],r [o 6 (.mv (i 0))] (r [m 7 1,m 8 2,b .xor 9 7 8,m 6 9] .ret)⟩
theorem abk:ar Tryz.prog Tryz.f144=some Jp:=by kernel_rfl
def Jq:AF:=⟨3,11,[.tmp 6],r [o 6 (.mv (i 0))] (r [m 7 0,m 8 1,m 9 2,c 10 146 [.t 7,.t 8,.t 9,W],m 6 10] .ret)⟩
theorem abl:ar Tryz.prog Tryz.f145=some Jq:=by kernel_rfl
def Cy:AF:=⟨4,23,[.tmp 8],r [o 8 (.mv (i 0))] (q (.block 0 (r [m 10 2,m 11 0,b .geq 12 10 11,m 9 12] (d 9 (r [o 8 (.mv (i 0))] .ret) (r [m 14 3,m 13 14] (d 13 (r [m 15 1,m 16 2,o 17 (.B9 .u64 (.t 16)),b .shl 18 15 17,m 8 18] .ret) .skip))))) (r [m 19 1,m 20 2,o 21 (.B9 .u64 (.t 20)),b .shr 22 19 21,m 8 22] .ret))⟩
theorem abm:ar Tryz.prog Tryz.f146=some Cy:=by kernel_rfl
def Jr:AF:=⟨3,11,[.tmp 6],r [o 6 (.mv (i 0))] (r [m 7 0,m 8 1,m 9 2,c 10 146 [.t 7,.t 8,.t 9,F],m 6 10] .ret)⟩
theorem abn:ar Tryz.prog Tryz.f147=some Jr:=by kernel_rfl
def Js:AF:=⟨3,11,[.tmp 6],r [o 6 (.mv (i 0))] (r [m 7 1,m 8 2,b .eql 9 7 8,c 10 149 [.t 9],m 6 10] .ret)⟩
theorem abo:ar Tryz.prog Tryz.f148=some Js:=by kernel_rfl
def Jt:AF:=⟨1,4,[.tmp 2],r [o 2 (.mv (i 0))] (q (r [m 3 0] (d 3 (r [o 2 (.mv (i 1))] .ret) .skip)) (r [o 2 (.mv (i 0))] .ret))⟩
theorem abp:ar Tryz.prog Tryz.f149=some Jt:=by kernel_rfl
def Ju:AF:=⟨3,11,[.tmp 6],r [o 6 (.mv (i 0))] (r [m 7 1,m 8 2,b .lss 9 7 8,c 10 149 [.t 9],m 6 10] .ret)⟩
theorem abq:ar Tryz.prog Tryz.f150=some Ju:=by kernel_rfl
def Et:T (Option AF):=(.node none (.node none (.node none (.node (some a7) (.node (some LM) (.node none (.node (some Xp) (.node (some Jf) .nil .nil) .nil) (.node (some XI) .nil .nil)) (.node (some a47) (.node (some Xx) (.node (some Jo) .nil .nil) .nil) (.node (some EW) .nil .nil))) (.node (some W0) (.node (some Rc) (.node (some Xt) (.node (some zk) .nil .nil) .nil) (.node (some IX) .nil .nil)) (.node (some Xj) (.node (some XE) .nil .nil) (.node (some I9) .nil .nil)))) (.node (some N2) (.node (some Ra) (.node (some a35) (.node (some a67) (.node (some wU) .nil .nil) .nil) (.node (some LO) .nil .nil)) (.node (some Tv) (.node (some XA) (.node (some Jr) .nil .nil) .nil) (.node (some I7) .nil .nil))) (.node (some a27) (.node (some Xg) (.node (some Rf) (.node (some Jm) .nil .nil) .nil) (.node (some I1) .nil .nil)) (.node (some Xn) (.node (some Ty) .nil .nil) (.node (some Jc) .nil .nil))))) (.node (some a5) (.node (some a9) (.node (some WX) (.node (some W7) (.node (some Xr) (.node (some Jh) .nil .nil) .nil) (.node (some XL) .nil .nil)) (.node none (.node none (.node (some Jq) .nil .nil) .nil) (.node (some I5) .nil .nil))) (.node (some W4) (.node (some Ts) (.node (some a73) (.node (some Jk) .nil .nil) .nil) (.node (some IY) .nil .nil)) (.node (some IT) (.node (some XF) .nil .nil) (.node (some Ja) .nil .nil)))) (.node (some LL) (.node (some Tq) (.node (some Tr) (.node (some a69) (.node (some Ji) .nil .nil) .nil) (.node (some IV) .nil .nil)) (.node (some Xi) (.node (some uZ) (.node (some Jt) .nil .nil) .nil) (.node (some Cu) .nil .nil))) (.node (some a29) (.node (some Tt) (.node (some Xw) (.node (some EZ) .nil .nil) .nil) (.node (some EV) .nil .nil)) (.node (some Tx) (.node (some XH) .nil .nil) (.node (some Jd) .nil .nil)))))) (.node none (.node (some a4) (.node none (.node none (.node (some W6) (.node (some Xq) (.node (some Jg) .nil .nil) .nil) (.node (some XJ) .nil .nil)) (.node none (.node (some Xy) (.node (some Jp) .nil .nil) .nil) (.node (some I4) .nil .nil))) (.node (some W3) (.node (some Xd) (.node (some Xu) (.node (some Cw) .nil .nil) .nil) .nil) (.node (some Xk) (.node (some N3) .nil .nil) .nil))) (.node (some Q9) (.node (some WZ) (.node (some W8) (.node (some a68) (.node (some Cv) .nil .nil) .nil) (.node (some IU) .nil .nil)) (.node (some Tw) (.node (some XC) (.node (some Js) .nil .nil) .nil) (.node (some EX) .nil .nil))) (.node (some a28) (.node (some Xh) (.node (some Xv) (.node (some EY) .nil .nil) .nil) (.node (some I3) .nil .nil)) (.node (some tu) (.node (some Rh) .nil .nil) (.node (some u6) .nil .nil))))) (.node (some a6) (.node (some WW) (.node (some WY) (.node (some a34) (.node (some Xs) (.node (some zj) .nil .nil) .nil) (.node (some XM) .nil .nil)) (.node (some Tu) (.node (some Xz) (.node (some Cy) .nil .nil) .nil) (.node (some I6) .nil .nil))) (.node (some W5) (.node (some Xf) (.node (some a74) (.node (some Jl) .nil .nil) .nil) (.node (some IZ) .nil .nil)) (.node (some Xl) (.node (some XG) .nil .nil) (.node (some Jb) .nil .nil)))) (.node none (.node (some Rb) (.node (some W9) (.node none (.node (some Jj) .nil .nil) .nil) (.node (some IW) .nil .nil)) (.node (some a54) (.node (some XD) (.node (some Ju) .nil .nil) .nil) (.node (some I8) .nil .nil))) (.node (some LN) (.node (some a46) (.node (some Rg) (.node (some Jn) .nil .nil) .nil) (.node (some nI) .nil .nil)) (.node (some Xo) (.node (some Ri) .nil .nil) (.node (some Je) .nil .nil)))))))
def E:Env:=fun f=>Et.get none f
end Go.Proofs.YtppcmpmnglaleaaGreat.A
namespace Go.Proofs.YtppcmpmnglaleaaGreat.A
open Go
theorem Tz:zf Tryz.prog id Et:=(.node (fun F h=>by cases h) (.node (fun F h=>by cases h) (.node (fun F h=>by cases h) (.node (fun F h=>(apI h)▸⟨_,Tryz.func7,c7⟩) (.node (fun F h=>(apI h)▸⟨_,Tryz.func15,c15⟩) (.node (fun F h=>by cases h) (.node (fun F h=>(apI h)▸⟨_,Tryz.func63,c63⟩) (.node (fun F h=>(apI h)▸⟨_,Tryz.func127,aa3⟩) .nil .nil) .nil) (.node (fun F h=>(apI h)▸⟨_,Tryz.func95,c95⟩) .nil .nil)) (.node (fun F h=>(apI h)▸⟨_,Tryz.func47,c47⟩) (.node (fun F h=>(apI h)▸⟨_,Tryz.func79,c79⟩) (.node (fun F h=>(apI h)▸⟨_,Tryz.func143,abj⟩) .nil .nil) .nil) (.node (fun F h=>(apI h)▸⟨_,Tryz.func111,aaO⟩) .nil .nil))) (.node (fun F h=>(apI h)▸⟨_,Tryz.func23,c23⟩) (.node (fun F h=>(apI h)▸⟨_,Tryz.func39,c39⟩) (.node (fun F h=>(apI h)▸⟨_,Tryz.func71,c71⟩) (.node (fun F h=>(apI h)▸⟨_,Tryz.func135,abb⟩) .nil .nil) .nil) (.node (fun F h=>(apI h)▸⟨_,Tryz.func103,aaH⟩) .nil .nil)) (.node (fun F h=>(apI h)▸⟨_,Tryz.func55,c55⟩) (.node (fun F h=>(apI h)▸⟨_,Tryz.func87,c87⟩) .nil .nil) (.node (fun F h=>(apI h)▸⟨_,Tryz.func119,aaW⟩) .nil .nil)))) (.node (fun F h=>(apI h)▸⟨_,Tryz.func11,c11⟩) (.node (fun F h=>(apI h)▸⟨_,Tryz.func19,c19⟩) (.node (fun F h=>(apI h)▸⟨_,Tryz.func35,c35⟩) (.node (fun F h=>(apI h)▸⟨_,Tryz.func67,c67⟩) (.node (fun F h=>(apI h)▸⟨_,Tryz.func131,aa7⟩) .nil .nil) .nil) (.node (fun F h=>(apI h)▸⟨_,Tryz.func99,c99⟩) .nil .nil)) (.node (fun F h=>(apI h)▸⟨_,Tryz.func51,c51⟩) (.node (fun F h=>(apI h)▸⟨_,Tryz.func83,c83⟩) (.node (fun F h=>(apI h)▸⟨_,Tryz.func147,abn⟩) .nil .nil) .nil) (.node (fun F h=>(apI h)▸⟨_,Tryz.func115,aaS⟩) .nil .nil))) (.node (fun F h=>(apI h)▸⟨_,Tryz.func27,c27⟩) (.node (fun F h=>(apI h)▸⟨_,Tryz.func43,c43⟩) (.node (fun F h=>(apI h)▸⟨_,Tryz.func75,c75⟩) (.node (fun F h=>(apI h)▸⟨_,Tryz.func139,abf⟩) .nil .nil) .nil) (.node (fun F h=>(apI h)▸⟨_,Tryz.func107,aaK⟩) .nil .nil)) (.node (fun F h=>(apI h)▸⟨_,Tryz.func59,c59⟩) (.node (fun F h=>(apI h)▸⟨_,Tryz.func91,c91⟩) .nil .nil) (.node (fun F h=>(apI h)▸⟨_,Tryz.func123,aaZ⟩) .nil .nil))))) (.node (fun F h=>(apI h)▸⟨_,Tryz.func5,c5⟩) (.node (fun F h=>(apI h)▸⟨_,Tryz.func9,c9⟩) (.node (fun F h=>(apI h)▸⟨_,Tryz.func17,c17⟩) (.node (fun F h=>(apI h)▸⟨_,Tryz.func33,c33⟩) (.node (fun F h=>(apI h)▸⟨_,Tryz.func65,c65⟩) (.node (fun F h=>(apI h)▸⟨_,Tryz.func129,aa5⟩) .nil .nil) .nil) (.node (fun F h=>(apI h)▸⟨_,Tryz.func97,c97⟩) .nil .nil)) (.node (fun F h=>by cases h) (.node (fun F h=>by cases h) (.node (fun F h=>(apI h)▸⟨_,Tryz.func145,abl⟩) .nil .nil) .nil) (.node (fun F h=>(apI h)▸⟨_,Tryz.func113,aaQ⟩) .nil .nil))) (.node (fun F h=>(apI h)▸⟨_,Tryz.func25,c25⟩) (.node (fun F h=>(apI h)▸⟨_,Tryz.func41,c41⟩) (.node (fun F h=>(apI h)▸⟨_,Tryz.func73,c73⟩) (.node (fun F h=>(apI h)▸⟨_,Tryz.func137,abd⟩) .nil .nil) .nil) (.node (fun F h=>(apI h)▸⟨_,Tryz.func105,aaI⟩) .nil .nil)) (.node (fun F h=>(apI h)▸⟨_,Tryz.func57,c57⟩) (.node (fun F h=>(apI h)▸⟨_,Tryz.func89,c89⟩) .nil .nil) (.node (fun F h=>(apI h)▸⟨_,Tryz.func121,aaX⟩) .nil .nil)))) (.node (fun F h=>(apI h)▸⟨_,Tryz.func13,c13⟩) (.node (fun F h=>(apI h)▸⟨_,Tryz.func21,c21⟩) (.node (fun F h=>(apI h)▸⟨_,Tryz.func37,c37⟩) (.node (fun F h=>(apI h)▸⟨_,Tryz.func69,c69⟩) (.node (fun F h=>(apI h)▸⟨_,Tryz.func133,aa9⟩) .nil .nil) .nil) (.node (fun F h=>(apI h)▸⟨_,Tryz.func101,aaF⟩) .nil .nil)) (.node (fun F h=>(apI h)▸⟨_,Tryz.func53,c53⟩) (.node (fun F h=>(apI h)▸⟨_,Tryz.func85,c85⟩) (.node (fun F h=>(apI h)▸⟨_,Tryz.func149,abp⟩) .nil .nil) .nil) (.node (fun F h=>(apI h)▸⟨_,Tryz.func117,aaU⟩) .nil .nil))) (.node (fun F h=>(apI h)▸⟨_,Tryz.func29,c29⟩) (.node (fun F h=>(apI h)▸⟨_,Tryz.func45,c45⟩) (.node (fun F h=>(apI h)▸⟨_,Tryz.func77,c77⟩) (.node (fun F h=>(apI h)▸⟨_,Tryz.func141,abh⟩) .nil .nil) .nil) (.node (fun F h=>(apI h)▸⟨_,Tryz.func109,aaM⟩) .nil .nil)) (.node (fun F h=>(apI h)▸⟨_,Tryz.func61,c61⟩) (.node (fun F h=>(apI h)▸⟨_,Tryz.func93,c93⟩) .nil .nil) (.node (fun F h=>(apI h)▸⟨_,Tryz.func125,aa1⟩) .nil .nil)))))) (.node (fun F h=>by cases h) (.node (fun F h=>(apI h)▸⟨_,Tryz.func4,c4⟩) (.node (fun F h=>by cases h) (.node (fun F h=>by cases h) (.node (fun F h=>(apI h)▸⟨_,Tryz.func32,c32⟩) (.node (fun F h=>(apI h)▸⟨_,Tryz.func64,c64⟩) (.node (fun F h=>(apI h)▸⟨_,Tryz.func128,aa4⟩) .nil .nil) .nil) (.node (fun F h=>(apI h)▸⟨_,Tryz.func96,c96⟩) .nil .nil)) (.node (fun F h=>by cases h) (.node (fun F h=>(apI h)▸⟨_,Tryz.func80,c80⟩) (.node (fun F h=>(apI h)▸⟨_,Tryz.func144,abk⟩) .nil .nil) .nil) (.node (fun F h=>(apI h)▸⟨_,Tryz.func112,aaP⟩) .nil .nil))) (.node (fun F h=>(apI h)▸⟨_,Tryz.func24,c24⟩) (.node (fun F h=>(apI h)▸⟨_,Tryz.func40,c40⟩) (.node (fun F h=>(apI h)▸⟨_,Tryz.func72,c72⟩) (.node (fun F h=>(apI h)▸⟨_,Tryz.func136,abc⟩) .nil .nil) .nil) .nil) (.node (fun F h=>(apI h)▸⟨_,Tryz.func56,c56⟩) (.node (fun F h=>(apI h)▸⟨_,Tryz.func88,c88⟩) .nil .nil) .nil))) (.node (fun F h=>(apI h)▸⟨_,Tryz.func12,c12⟩) (.node (fun F h=>(apI h)▸⟨_,Tryz.func20,c20⟩) (.node (fun F h=>(apI h)▸⟨_,Tryz.func36,c36⟩) (.node (fun F h=>(apI h)▸⟨_,Tryz.func68,c68⟩) (.node (fun F h=>(apI h)▸⟨_,Tryz.func132,aa8⟩) .nil .nil) .nil) (.node (fun F h=>(apI h)▸⟨_,Tryz.func100,aaE⟩) .nil .nil)) (.node (fun F h=>(apI h)▸⟨_,Tryz.func52,c52⟩) (.node (fun F h=>(apI h)▸⟨_,Tryz.func84,c84⟩) (.node (fun F h=>(apI h)▸⟨_,Tryz.func148,abo⟩) .nil .nil) .nil) (.node (fun F h=>(apI h)▸⟨_,Tryz.func116,aaT⟩) .nil .nil))) (.node (fun F h=>(apI h)▸⟨_,Tryz.func28,c28⟩) (.node (fun F h=>(apI h)▸⟨_,Tryz.func44,c44⟩) (.node (fun F h=>(apI h)▸⟨_,Tryz.func76,c76⟩) (.node (fun F h=>(apI h)▸⟨_,Tryz.func140,abg⟩) .nil .nil) .nil) (.node (fun F h=>(apI h)▸⟨_,Tryz.func108,aaL⟩) .nil .nil)) (.node (fun F h=>(apI h)▸⟨_,Tryz.func60,c60⟩) (.node (fun F h=>(apI h)▸⟨_,Tryz.func92,c92⟩) .nil .nil) (.node (fun F h=>(apI h)▸⟨_,Tryz.func124,aa0⟩) .nil .nil))))) (.node (fun F h=>(apI h)▸⟨_,Tryz.func6,c6⟩) (.node (fun F h=>(apI h)▸⟨_,Tryz.func10,c10⟩) (.node (fun F h=>(apI h)▸⟨_,Tryz.func18,c18⟩) (.node (fun F h=>(apI h)▸⟨_,Tryz.func34,c34⟩) (.node (fun F h=>(apI h)▸⟨_,Tryz.func66,c66⟩) (.node (fun F h=>(apI h)▸⟨_,Tryz.func130,aa6⟩) .nil .nil) .nil) (.node (fun F h=>(apI h)▸⟨_,Tryz.func98,c98⟩) .nil .nil)) (.node (fun F h=>(apI h)▸⟨_,Tryz.func50,c50⟩) (.node (fun F h=>(apI h)▸⟨_,Tryz.func82,c82⟩) (.node (fun F h=>(apI h)▸⟨_,Tryz.func146,abm⟩) .nil .nil) .nil) (.node (fun F h=>(apI h)▸⟨_,Tryz.func114,aaR⟩) .nil .nil))) (.node (fun F h=>(apI h)▸⟨_,Tryz.func26,c26⟩) (.node (fun F h=>(apI h)▸⟨_,Tryz.func42,c42⟩) (.node (fun F h=>(apI h)▸⟨_,Tryz.func74,c74⟩) (.node (fun F h=>(apI h)▸⟨_,Tryz.func138,abe⟩) .nil .nil) .nil) (.node (fun F h=>(apI h)▸⟨_,Tryz.func106,aaJ⟩) .nil .nil)) (.node (fun F h=>(apI h)▸⟨_,Tryz.func58,c58⟩) (.node (fun F h=>(apI h)▸⟨_,Tryz.func90,c90⟩) .nil .nil) (.node (fun F h=>(apI h)▸⟨_,Tryz.func122,aaY⟩) .nil .nil)))) (.node (fun F h=>by cases h) (.node (fun F h=>(apI h)▸⟨_,Tryz.func22,c22⟩) (.node (fun F h=>(apI h)▸⟨_,Tryz.func38,c38⟩) (.node (fun F h=>by cases h) (.node (fun F h=>(apI h)▸⟨_,Tryz.func134,aba⟩) .nil .nil) .nil) (.node (fun F h=>(apI h)▸⟨_,Tryz.func102,aaG⟩) .nil .nil)) (.node (fun F h=>(apI h)▸⟨_,Tryz.func54,c54⟩) (.node (fun F h=>(apI h)▸⟨_,Tryz.func86,c86⟩) (.node (fun F h=>(apI h)▸⟨_,Tryz.func150,abq⟩) .nil .nil) .nil) (.node (fun F h=>(apI h)▸⟨_,Tryz.func118,aaV⟩) .nil .nil))) (.node (fun F h=>(apI h)▸⟨_,Tryz.func30,c30⟩) (.node (fun F h=>(apI h)▸⟨_,Tryz.func46,c46⟩) (.node (fun F h=>(apI h)▸⟨_,Tryz.func78,c78⟩) (.node (fun F h=>(apI h)▸⟨_,Tryz.func142,abi⟩) .nil .nil) .nil) (.node (fun F h=>(apI h)▸⟨_,Tryz.func110,aaN⟩) .nil .nil)) (.node (fun F h=>(apI h)▸⟨_,Tryz.func62,c62⟩) (.node (fun F h=>(apI h)▸⟨_,Tryz.func94,c94⟩) .nil .nil) (.node (fun F h=>(apI h)▸⟨_,Tryz.func126,aa2⟩) .nil .nil)))))))
theorem TA:wO Tryz.prog E:=fun f F h=>Tz f F h
open Go
theorem zl:isTrue (fM E (fun _=>none) 300 7 [] He)=true:=by kernel_rfl
theorem mixed:Tryz.prog.follows .mixedOrders=true:=by kernel_rfl
def O:kl:=IH 7
theorem abr:wP Tryz.prog O:=II mixed TA zl
end Go.Proofs.YtppcmpmnglaleaaGreat.A
set_option linter.unusedSimpArgs false
namespace Go.Proofs.YtppcmpmnglaleaaGreat.A
open Go
def cg (w:Int):Bool:=decide (1≤w)&&decide (w≤8)
theorem wV (w:Int) (H:AH):Ca E O 91 [.int .i64 w] H (fun x H'=>x= .bool (cg w)∧H'=H):=by
 refine Ca.dI (F:=Ty) rfl rfl rfl ?_;by_cases h:1≤w
 ·simp-implicitDefEqProofs [Ty,aA,cg,h]
 ·simp-implicitDefEqProofs [Ty,aA,cg,h]
theorem r9 {n:Nat} (h:n≤60):(2:Int)^n≤2^60:=by
 have:(2:Nat)^n≤2^60:=Nat.pow_le_pow_right (by omega) h
 exact_mod_cast this
theorem two_pow_pos (n:Nat):(1:Int)≤2^n:=by
 have:1≤(2:Nat)^n:=Nat.one_le_two_pow
 exact_mod_cast this
theorem E4 (n:Nat) (j:n≤60) (H:AH):Ca E O 106 [.int .i64 n] H (fun x H'=>x= .int .i64 (2^n)∧H'=H):=by
 refine Ca.dI (F:=IZ) rfl rfl rfl ?_;simp-implicitDefEqProofs [IZ,aA];refine eL (fun k a H'=>H'=H∧∃i:Nat,i+k=n∧a.get 0= .int .i64 n∧a.get 3= .int .i64 (2^i)∧a.get 4= .int .i64 i) ?_ n ⟨rfl,0,by simp,by simp,by simp,by simp⟩;rintro k a H' ⟨rfl,i,hi,d,c,b⟩;by_cases h:i<n
 ·have g:=r9 (n:=i+1) (by omega)
  have f:=two_pow_pos i;have e:(2:Int)^(i+1)=2*2^i:=by rw [Int.pow_succ,Int.mul_comm]
  simp-implicitDefEqProofs [aA,d,c,b,h];rw [aj (n:=2*2^i) ⟨by omega,by omega⟩,aj (n:=(i:Int)+1) ⟨by omega,by omega⟩];exact ⟨k- 1,by omega,i+1,by omega,e.symm,by simp⟩
 ·simp-implicitDefEqProofs [aA,d,c,b,h]
  rw [show i=n by omega]
def isWord (w a:Int):Bool:=cg w&&(decide (0≤a)&&decide (a<2^w.toNat))
theorem AQ (w a:Int) (H:AH):Ca E O 97 [.int .i64 w,.int .i64 a] H (fun x H'=>x= .bool (isWord w a)∧H'=H):=by
 refine Ca.dI (F:=XL) rfl rfl rfl ?_;simp-implicitDefEqProofs [XL,aA];refine bf ((wV w H).mono ?_);rintro x H' ⟨rfl,rfl⟩
 cases b:cg w with
 |false=>simp-implicitDefEqProofs [aA,b,isWord]
 |true=>
  by_cases h2:0≤a
  ·simp-implicitDefEqProofs [aA,b,h2]
   have c:1≤w∧w≤8:=by simpa [cg]using b
   have:=E4 w.toNat (by omega) H';rw [show((w.toNat:Nat):Int)=w by omega]at this;refine bf ?_;simp-implicitDefEqProofs;refine this.mono ?_;rintro x d ⟨rfl,rfl⟩;simp-implicitDefEqProofs [aA,b,h2,isWord]
  ·simp-implicitDefEqProofs [aA,b,h2,isWord]
theorem u7 (b:Bool) (H:AH):Ca E O 88 [.bool b] H (fun x H'=>x= .int .i64 (if b=true then 1 else 0)∧H'=H):=by
 refine Ca.dI (F:=N3) rfl rfl rfl ?_;cases b<;>simp-implicitDefEqProofs [N3,aA]
theorem wW (w:Int) (v:Value) (l:List Int) (H:AH) (s:ep H v l) (y:l.length<2^60):
 Ca E O 66 [.int .i64 w,v] H (fun x H'=>x= .bool (l.all (isWord w))∧H'=H):=by
 refine Ca.dI (F:=Xs) rfl rfl rfl ?_;simp-implicitDefEqProofs [Xs,aA];obtain ⟨a,c,t⟩:=s.len;refine eL (fun k m H'=>H'=H∧∃i:Nat,i+k=l.length∧m.get 0= .int .i64 w∧m.get 1=v∧m.get 5= .int .i64 i∧∀x∈l.take i,isWord w x=true) ?_ l.length ⟨rfl,0,by simp,by simp,by simp,by simp,by simp⟩;rintro k m H' ⟨rfl,i,hi,f,e,j,q⟩;by_cases h:i<l.length
 ·obtain ⟨n,p⟩:∃n,l[i]?=some n:=⟨_,apG h⟩
  obtain ⟨b,o,z,r,u⟩:=s.at p;rw [r]at e;simp-implicitDefEqProofs [aA,f,e,j,h,u];refine bf ?_;simp-implicitDefEqProofs [f];refine (AQ w n H').mono ?_;rintro x A ⟨rfl,rfl⟩
  cases g:isWord w n with
  |true=>
   simp-implicitDefEqProofs [aA,f,e,j,g];rw [aj ⟨by omega,by omega⟩];refine ⟨k- 1,by omega,i+1,by omega,r.symm,by simp,?_⟩;rw [ap1,p];intro x d;rcases ap0.1 d with d|d
   ·exact q x d
   ·simp at d;subst d;exact g
  |false=>
   simp-implicitDefEqProofs [aA,f,e,j,g];exact ⟨n,apL p,g⟩
 ·rw [t]at e
  simp-implicitDefEqProofs [aA,f,e,j,h];rw [apN (by omega)]at q;exact q
open Go
def fN (c:Int):Bool:=decide (97≤c)&&decide (c≤122)
def isDigit (c:Int):Bool:=decide (48≤c)&&decide (c≤57)
theorem tL (c:Int) (H:AH):Ca E O 109 [.int .u8 c] H (fun x H'=>x= .bool (fN c)∧H'=H):=by
 refine Ca.dI (F:=EV) rfl rfl rfl ?_;by_cases h:97≤c
 ·simp-implicitDefEqProofs [EV,aA,fN,h]
 ·simp-implicitDefEqProofs [EV,aA,fN,h]
theorem E5 (c:Int) (H:AH):Ca E O 111 [.int .u8 c] H (fun x H'=>x= .bool (isDigit c)∧H'=H):=by
 refine Ca.dI (F:=EW) rfl rfl rfl ?_;by_cases h:48≤c
 ·simp-implicitDefEqProofs [EW,aA,isDigit,h]
 ·simp-implicitDefEqProofs [EW,aA,isDigit,h]
def dX (s:ByteArray):Bool:=bT s ⟨#[119,105,100,116,104]⟩||(bT s ⟨#[118,97,114]⟩||(bT s ⟨#[105,102]⟩||(bT s ⟨#[101,108,115,101]⟩||(bT s ⟨#[119,104,105,108,101]⟩||(bT s ⟨#[111,117,116]⟩||(bT s ⟨#[112,105,99,107]⟩||(bT s ⟨#[110,101,101,100]⟩||(bT s ⟨#[109,117,115,116]⟩||(bT s ⟨#[108,101,118,101,108]⟩||(bT s ⟨#[115,101,101,115]⟩))))))))))
theorem E6 (s:ByteArray) (H:AH):Ca E O 110 [.string s] H (fun x H'=>x= .bool (dX s)∧H'=H):=by
 refine Ca.dI (F:=nI) rfl rfl rfl ?_
 cases a:bT s ⟨#[119,105,100,116,104]⟩with
 |true=>simp-implicitDefEqProofs [nI,aA,dX,a]
 |false=>
  cases b:bT s ⟨#[118,97,114]⟩with
  |true=>simp-implicitDefEqProofs [nI,aA,dX,a,b]
  |false=>
   cases h2:bT s ⟨#[105,102]⟩with
   |true=>simp-implicitDefEqProofs [nI,aA,dX,a,b,h2]
   |false=>
    cases c:bT s ⟨#[101,108,115,101]⟩with
    |true=>simp-implicitDefEqProofs [nI,aA,dX,a,b,h2,c]
    |false=>
     cases d:bT s ⟨#[119,104,105,108,101]⟩with
     |true=>simp-implicitDefEqProofs [nI,aA,dX,a,b,h2,c,d]
     |false=>
      cases e:bT s ⟨#[111,117,116]⟩with
      |true=>simp-implicitDefEqProofs [nI,aA,dX,a,b,h2,c,d,e]
      |false=>
       cases f:bT s ⟨#[112,105,99,107]⟩with
       |true=>simp-implicitDefEqProofs [nI,aA,dX,a,b,h2,c,d,e,f]
       |false=>
        cases g:bT s ⟨#[110,101,101,100]⟩with
        |true=>simp-implicitDefEqProofs [nI,aA,dX,a,b,h2,c,d,e,f,g]
        |false=>
         cases i:bT s ⟨#[109,117,115,116]⟩with
         |true=>simp-implicitDefEqProofs [nI,aA,dX,a,b,h2,c,d,e,f,g,i]
         |false=>
          cases j:bT s ⟨#[108,101,118,101,108]⟩with
          |true=>simp-implicitDefEqProofs [nI,aA,dX,a,b,h2,c,d,e,f,g,i,j]
          |false=>
           cases h:bT s ⟨#[115,101,101,115]⟩with
           |true=>simp-implicitDefEqProofs [nI,aA,dX,a,b,h2,c,d,e,f,g,i,j,h]
           |false=>
            simp-implicitDefEqProofs [nI,aA,dX,a,b,h2,c,d,e,f,g,i,j,h]
def eU (c:Int):Bool:=fN c||(isDigit c||decide (c=95))
def isName (s:ByteArray):Bool:=decide (1≤s.size)&&(decide (s.size≤12)&&(fN (dk s 0)&&(!dX s&&(List.range s.size).all fun i=>eU (dk s i))))
theorem Jv (s:ByteArray) (C:s.size<2^60) (H:AH):Ca E O 92 [.string s] H (fun x H'=>x= .bool (isName s)∧H'=H):=by
 refine Ca.dI (F:=Rh) rfl rfl rfl ?_;by_cases m:1≤s.size
 case neg=>
  have l:s.size=0:=by omega
  simp-implicitDefEqProofs [Rh,aA,isName,l]
 have l:¬ s.size=0:=by omega
 have z:¬ (s.size:Int)<1:=by omega
 by_cases h2:s.size≤12
 case neg=>
  have v:12<s.size:=by omega
  have u:(12:Int)<s.size:=by omega
  simp-implicitDefEqProofs [Rh,aA,isName,l,z,m,h2,v,u]
 have v:¬ 12<s.size:=by omega
 have u:¬ (12:Int)<s.size:=by omega
 have y:s[0]?=some s[0]:=getElem?_pos s 0 (by omega);have t:((s[0].toNat:Nat):Int)=dk s 0:=by unfold dk;rw [y];rfl
 simp-implicitDefEqProofs [Rh,aA,l,z,m,h2,v,u,y];rw [t];refine bf ?_;simp-implicitDefEqProofs;refine (tL _ H).mono ?_;rintro x H' ⟨rfl,rfl⟩
 cases g:fN (dk s 0)with
 |false=>simp-implicitDefEqProofs [aA,isName,l,m,h2,g]
 |true=>
  simp-implicitDefEqProofs [aA,g];refine bf ?_;simp-implicitDefEqProofs;refine (E6 s H').mono ?_;rintro x B ⟨rfl,rfl⟩
  cases q:dX s with
  |true=>simp-implicitDefEqProofs [aA,isName,l,m,h2,g,q]
  |false=>
   simp-implicitDefEqProofs [aA,g,q];refine eL (fun k w H'=>H'=B∧∃i:Nat,i+k=s.size∧w.get 0= .string s∧w.get 3= .int .i64 i∧∀j,j<i→eU (dk s j)=true) ?_ s.size ⟨rfl,0,by simp,by simp,by simp,fun j n=>by omega⟩;rintro k w H' ⟨rfl,i,hi,d,c,o⟩;by_cases h:i<s.size
   ·have a:s[i]?=some s[i]:=getElem?_pos s i h
    have r:((s[i].toNat:Nat):Int)=dk s i:=by unfold dk;rw [a];rfl
    simp-implicitDefEqProofs [aA,d,c,h,a];rw [r];refine bf ?_;simp-implicitDefEqProofs;refine (tL _ H').mono ?_;rintro x A ⟨rfl,rfl⟩
    cases b:fN (dk s i)with
    |true=>
     simp-implicitDefEqProofs [aA,d,c,h,a,b];rw [aj ⟨by omega,by omega⟩];refine ⟨k- 1,by omega,i+1,by omega,by simp,fun j n=>?_⟩;by_cases e:j=i
     ·subst e;simp [eU,b]
     ·exact o j (by omega)
    |false=>
     simp-implicitDefEqProofs [aA,d,c,h,a,b];rw [r];refine bf ?_;simp-implicitDefEqProofs;refine (E5 _ A).mono ?_;rintro x D ⟨rfl,rfl⟩
     cases f:isDigit (dk s i)with
     |true=>
      simp-implicitDefEqProofs [aA,d,c,h,a,b,f];rw [aj ⟨by omega,by omega⟩];refine ⟨k- 1,by omega,i+1,by omega,by simp,fun j n=>?_⟩;by_cases e:j=i
      ·subst e;simp [eU,f]
      ·exact o j (by omega)
     |false=>
      simp-implicitDefEqProofs [aA,d,c,h,a,b,f];rw [r];by_cases p:dk s i=95
      ·simp-implicitDefEqProofs [aA,d,c,h,a,b,f,p]
       rw [aj ⟨by omega,by omega⟩];refine ⟨k- 1,by omega,i+1,by omega,by simp,fun j n=>?_⟩;by_cases e:j=i
       ·subst e;simp [eU,p]
       ·exact o j (by omega)
      ·simp-implicitDefEqProofs [aA,d,c,h,a,b,f,p]
       have:eU (dk s i)=false:=by simp [eU,b,f,p]
       simp [isName,m,h2,g,q];exact ⟨i,h,this⟩
   ·simp-implicitDefEqProofs [aA,d,c,h]
    simp [isName,m,h2,g,q];exact fun j n=>o j (by omega)
end Go.Proofs.YtppcmpmnglaleaaGreat.A
namespace Go.Proofs.YtppcmpmnglaleaaGreat.A
open Go
structure Vr where
 name:ByteArray
 level:Int
 cells:Int
def Vr.row (v:Vr):List Value:=[.string v.name,.int .i64 v.level,.int .i64 v.cells]
def dy (H:AH) (v:Value) (l:List Vr):Prop:=Rows H 3 v (l.map Vr.row)
theorem dy.ext {H H':AH} (E:Ext H H') {v:Value} {l:List Vr} (h:dy H v l):dy H' v l:=Rows.ext E h
theorem dy.len {H:AH} {v:Value} {l:List Vr} (h:dy H v l):∃a c,v= .slice a l.length c:=by
 obtain ⟨a,c,e⟩:=Rows.len h;exact ⟨a,c,by simpa using e⟩
theorem dy.at {H:AH} {v:Value} {l:List Vr} (h:dy H v l) {i:Nat} {x:Vr} (hi:l[i]?=some x):
 ∃b o c,v= .slice (some ⟨b,o,none⟩) l.length c∧H.ldn ⟨b,o+i*3,none⟩ 3=some x.row∧H.ld ⟨b,o+i*3,none⟩=some (.string x.name)∧H.ld ⟨b,o+i*3+1,none⟩=some (.int .i64 x.level)∧H.ld ⟨b,o+i*3+2,none⟩=some (.int .i64 x.cells):=by
 obtain ⟨b,o,c,e,h2⟩:=Rows.at h (i:=i) (r:=x.row) (by simp [hi]);exact ⟨b,o,c,by simpa using e,h2,by simpa using aL h2 (j:=0) rfl,aL h2 (j:=1) rfl,aL h2 (j:=2) rfl⟩
def iT (l:List Vr) (s:ByteArray):Int:=match l.findIdx? (fun v=>bT v.name s)with|some i=>i|none=>-1
theorem sb {l:List Vr} {s:ByteArray} {i:Nat} {x:Vr} (hi:l[i]?=some x) (a:bT x.name s=true) (c:∀j y,j<i→l[j]?=some y→bT y.name s=false):iT l s=i:=by
 have:l.findIdx? (fun v=>bT v.name s)=some i:=by
  rw [List.findIdx?_eq_some_iff_getElem];obtain ⟨h,e⟩:=apM.1 hi;refine ⟨h,by rw [e];exact a,fun j b=>?_⟩;rw [c j _ b (apG (by omega))];simp
 unfold iT;rw [this]
theorem zn {l:List Vr} {s:ByteArray} (c:∀(j:Nat) (y:Vr),l[j]?=some y→bT y.name s=false):iT l s=-1:=by
 have:l.findIdx? (fun v=>bT v.name s)=none:=by
  rw [List.findIdx?_eq_none_iff];intro x a;obtain ⟨j,b,e⟩:=List.mem_iff_getElem.1 a;exact c j x (by rw [apG b,e])
 unfold iT;rw [this]
theorem Jw {v:Value} {l:List Vr} {H:AH} (w:dy H v l) (C:l.length<2^60) (s:ByteArray):Ca E O 93 [v,.string s] H (fun x H'=>x= .int .i64 (iT l s)∧H'=H):=by
 refine Ca.dI (F:=XH) rfl rfl rfl ?_;simp-implicitDefEqProofs [XH,aA];obtain ⟨a,c,A⟩:=w.len;refine eL (fun k p H'=>H'=H∧∃i:Nat,i+k=l.length∧p.get 0=v∧p.get 1= .string s∧p.get 5= .int .i64 i∧∀j y,j<i→l[j]?=some y→bT y.name s=false) ?_ l.length ⟨rfl,0,by simp,by simp,by simp,by simp,fun j y g=>by omega⟩;rintro k p H' ⟨rfl,i,hi,d,n,m,t⟩;by_cases h:i<l.length
 ·obtain ⟨y,r⟩:∃y,l[i]?=some y:=⟨_,apG h⟩
  obtain ⟨b,o,D,u,_,B,_⟩:=w.at r;rw [u]at d;simp-implicitDefEqProofs [aA,d,n,m,h,B]
  cases f:bT y.name s with
  |true=>
   simp-implicitDefEqProofs [aA,d,n,m,f];exact (sb r f t).symm
  |false=>
   simp-implicitDefEqProofs [aA,d,n,m,f];rw [aj ⟨by omega,by omega⟩];refine ⟨k- 1,by omega,i+1,by omega,u.symm,by simp,fun j z g q=>?_⟩;by_cases e:j=i
   ·subst e;rw [r]at q;cases q;exact f
   ·exact t j z (by omega) q
 ·rw [A]at d
  simp-implicitDefEqProofs [aA,d,n,m,h];refine (zn fun j y g=>t j y ?_ g).symm;have:=(apM.1 g).1;omega
def dY (l:List Int):Int:=l.foldl (fun a c=>IntKind.i64.wrap (a+c)) 0
theorem wX {v:Value} {l:List Vr} {H:AH} (m:dy H v l) (r:l.length<2^60) (n:Nat) (s:n≤l.length):Ca E O 96 [v,.int .i64 n] H (fun x H'=>x= .int .i64 (dY ((l.take n).map (·.cells)))∧H'=H):=by
 refine Ca.dI (F:=XJ) rfl rfl rfl ?_;simp-implicitDefEqProofs [XJ,aA];refine eL (fun k a H'=>H'=H∧∃i:Nat,i+k=n∧a.get 0=v∧a.get 1= .int .i64 n∧a.get 6= .int .i64 i∧a.get 5= .int .i64 (dY ((l.take i).map (·.cells)))) ?_ n ⟨rfl,0,by simp,by simp,by simp,by simp,by simp [dY]⟩;rintro k a H' ⟨rfl,i,hi,c,j,f,g⟩;by_cases h:i<n
 ·obtain ⟨y,d⟩:∃y,l[i]?=some y:=⟨_,apG (by omega)⟩
  obtain ⟨b,o,t,e,_,_,_,p⟩:=m.at d;rw [e]at c;have q:i<l.length:=by omega
  simp-implicitDefEqProofs [aA,c,j,g,f,h,p,q];rw [aj (n:=(i:Int)+1) ⟨by omega,by omega⟩];refine ⟨k- 1,by omega,i+1,by omega,e.symm,by simp,?_⟩;rw [ap1];simp [dY,aqa,d,List.foldl_append]
 ·simp-implicitDefEqProofs [aA,c,j,g,f,h]
  rw [show i=n by omega]
def eV (l:List Vr) (i:Nat) (v:Vr):Bool:=isName v.name&&(decide (0≤v.level)&&(decide (v.level≤47)&&(decide (1≤v.cells)&&(decide (v.cells≤8)&&decide (iT l v.name=i)))))
def aC (w:Int) (l:List Vr):Bool:=cg w&&(decide (1≤l.length)&&(decide (l.length≤18)&&((List.range l.length).all (fun i=>match l[i]? with|some v=>eV l i v|none=>true)&&decide (dY (l.map (·.cells))≤48))))
theorem wY {l:List Vr} {i:Nat} {v:Vr} (h:eV l i v=true):1≤v.cells∧v.cells≤8:=by
 simp [eV]at h;exact ⟨h.2.2.2.1,h.2.2.2.2.1⟩
def nJ (l:List Vr):Prop:=l.length<2^60∧∀v∈l,v.name.size<2^60
theorem zo {v:Value} {l:List Vr} {H:AH} (hw:H.n0≤H.nx) (hv:dy H v l) (tH:nJ l) (w:Int):Ca E O 62 [.int .i64 w,v] H (fun x H'=>x= .bool (aC w l)∧Ext H H'):=by
 refine Ca.dI (F:=Xo) rfl rfl rfl ?_;obtain ⟨a,c,M⟩:=hv.len;have jG:=tH.1;simp-implicitDefEqProofs [Xo,aA];refine bf ?_;simp-implicitDefEqProofs;refine (wV w H).mono ?_;rintro x H' ⟨rfl,rfl⟩
 cases P:cg w with
 |false=>simp-implicitDefEqProofs [aA,aC,P,Ext.refl]
 |true=>
  by_cases Z:1≤l.length
  case neg=>
   have N:l.length=0:=by omega
   simp-implicitDefEqProofs [aA,aC,P,M,N,Ext.refl]
  by_cases h2:l.length≤18
  case neg=>
   have N:¬ (l.length:Int)<1:=by omega
   have Y:(18:Int)<l.length:=by omega
   have X:18<l.length:=by omega
   simp-implicitDefEqProofs [aA,aC,P,M,Z,N,h2,Y,X,Ext.refl]
  have N:¬ (l.length:Int)<1:=by omega
  have Y:¬ (18:Int)<l.length:=by omega
  have X:¬ 18<l.length:=by omega
  simp-implicitDefEqProofs [aA,P,M,Z,N,h2,Y,X];refine eL (fun k R L=>Ext H' L∧∃i:Nat,i+k=l.length∧R.get 1=v∧R.get 6= .int .i64 i∧R.get 5= .int .i64 (dY ((l.take i).map (·.cells)))∧∀j y,j<i→l[j]?=some y→eV l j y=true) ?_ l.length ⟨Ext.refl _,0,by simp,by simp [M],by simp,by simp [dY],fun j y W=>by omega⟩;rintro k R L ⟨t,i,hi,f,s,f5,aH⟩;have jK:=t.wf hw;have zp:=hv.ext t
  have K:∀y,l[i]?=some y→eV l i y=false→aC w l=false:=by
   intro y p hn
   have:((List.range l.length).all (fun i=>match l[i]? with|some v=>eV l i v|none=>true))=false:=by
    rw [List.all_eq_false];refine ⟨i,?_,?_⟩
    ·have:=(apM.1 p).1;simpa using this
    ·rw [p];simp [hn]
   simp [aC,this]
  by_cases h:i<l.length
  ·obtain ⟨y,p⟩:∃y,l[i]?=some y:=⟨_,apG h⟩
   obtain ⟨b,o,c',U,bK,_⟩:=zp.at p;have qo:=tH.2 y (apL p);have f1v:=f;rw [U]at f;obtain ⟨S,iS,G,tA,nk,HW,V⟩:=fg (H:=L) jK (z:=3) (c:=[.string ⟨#[]⟩,.int .i64 0,.int .i64 0]) (vs:=y.row) rfl;have B:S.ld ⟨L.nx,0,none⟩=some (.string y.name):=V 0 _ rfl;have D:S.ld ⟨L.nx,1,none⟩=some (.int .i64 y.level):=V 1 _ rfl;have C:S.ld ⟨L.nx,2,none⟩=some (.int .i64 y.cells):=V 2 _ rfl;simp-implicitDefEqProofs [aA,f,s,h,bK,aW,cN,Vr.row]at iS⊢;simp-implicitDefEqProofs [aA,iS,B];refine bf ?_;simp-implicitDefEqProofs;refine (Jv y.name qo S).mono ?_;rintro x H3 ⟨rfl,rfl⟩
   cases d:isName y.name with
   |false=>
    simp-implicitDefEqProofs [aA,f,s,B,D,C,d];exact ⟨K y p (by simp [eV,d]),t.trans G⟩
   |true=>
    by_cases m:0≤y.level
    case neg=>
     have g:y.level<0:=by omega
     simp-implicitDefEqProofs [aA,f,s,B,D,C,d,m,g];exact ⟨K y p (by simp [eV,d,m,g]),t.trans G⟩
    have g:¬ y.level<0:=by omega
    by_cases r:y.level≤47
    case neg=>
     have q:47<y.level:=by omega
     simp-implicitDefEqProofs [aA,f,s,B,D,C,d,m,g,r,q];exact ⟨K y p (by simp [eV,d,m,g,r,q]),t.trans G⟩
    have q:¬ 47<y.level:=by omega
    by_cases A:1≤y.cells
    case neg=>
     have u:y.cells<1:=by omega
     simp-implicitDefEqProofs [aA,f,s,B,D,C,d,m,g,r,q,A,u];exact ⟨K y p (by simp [eV,d,m,g,r,q,A,u]),t.trans G⟩
    have u:¬ y.cells<1:=by omega
    by_cases J:y.cells≤8
    case neg=>
     have I:8<y.cells:=by omega
     simp-implicitDefEqProofs [aA,f,s,B,D,C,d,m,g,r,q,A,u,J,I];exact ⟨K y p (by simp [eV,d,m,g,r,q,A,u,J,I]),t.trans G⟩
    have I:¬ 8<y.cells:=by omega
    simp-implicitDefEqProofs [aA,f,s,B,D,C,d,m,g,r,q,A,u,J,I];refine bf ?_;simp-implicitDefEqProofs [f];rw [←U];refine (Jw (zp.ext G) jG y.name).mono ?_;rintro x H4 ⟨rfl,rfl⟩;by_cases Q:iT l y.name=i
    case neg=>
     simp-implicitDefEqProofs [aA,f,s,B,D,C,d,m,g,r,q,A,u,J,I,Q];exact ⟨K y p (by simp [eV,d,m,g,r,q,A,u,J,I,Q]),t.trans G⟩
    simp-implicitDefEqProofs [aA,f,f5,s,B,D,C,d,m,g,r,q,A,u,J,I,Q];rw [aj (n:=(i:Int)+1) ⟨by omega,by omega⟩];refine ⟨k- 1,by omega,t.trans G,i+1,by omega,U.symm,by simp,?_,fun j z W T=>?_⟩
    ·rw [ap1]
     simp [dY,aqa,p,List.foldl_append]
    ·by_cases e:j=i
     ·subst e;rw [p]at T;cases T
      simp [eV,d,m,r,A,J,Q]
     ·exact aH j z (by omega) T
  ·have rj:i=l.length:=by omega
   rw [M]at f;simp-implicitDefEqProofs [aA,f,f5,s,h];refine ⟨?_,t⟩
   have E8:((List.range l.length).all (fun i=>match l[i]? with|some v=>eV l i v|none=>true))=true:=by
    rw [apW];intro j W;have Dx:j<l.length:=by simpa using W
    rw [apG Dx];exact aH j _ (by omega) (apG Dx)
   rw [aC,P,E8,rj];have:List.take l.length (l.map fun x=>x.cells)=l.map fun x=>x.cells:=apN (by simp)
   simp [Z,h2,this]
open Go
inductive bY where
 |mk (op n cp:Int) (args:List bY)
def bY.op:bY→Int| .mk a _ _ _=>a
def bY.n:bY→Int| .mk _ a _ _=>a
def bY.cp:bY→Int| .mk _ _ a _=>a
mutual
inductive nm (H:AH):List Value→bY→Prop where
 |mk {op n cp:Int} {v:Value} {rows:List (List Value)} {args:List bY}:oh op→oh n→oh cp→args.length<2^60→Rows H 4 v rows→gj H rows args→nm H [.int .i64 op,.int .i64 n,.int .i64 cp,v] (.mk op n cp args)
inductive gj (H:AH):List (List Value)→List bY→Prop where
 |nil:gj H [] []
 |cons {r:List Value} {e:bY} {rs:List (List Value)} {es:List bY}:nm H r e→gj H rs es→gj H (r::rs) (e::es)
end
mutual
theorem nm.ext {H H':AH} (E:Ext H H') {c:List Value} {e:bY}:nm H c e→nm H' c e
 | .mk a b c d r l=>.mk a b c d (r.ext E) (gj.ext E l)
theorem gj.ext {H H':AH} (E:Ext H H') {c:List (List Value)} {e:List bY}:gj H c e→gj H' c e
 | .nil=>.nil
 | .cons a b=>.cons (nm.ext E a) (gj.ext E b)
end
theorem gj.length {H:AH}:∀{c:List (List Value)} {e:List bY},gj H c e→c.length=e.length
 |_,_,.nil=>rfl
 |_,_,.cons _ b=>by simp [gj.length b]
theorem gj.at {H:AH}:∀{c:List (List Value)} {e:List bY} {i:Nat} {x:bY},gj H c e→e[i]?=some x→∃r,c[i]?=some r∧nm H r x
 |_,_,i,x,.nil,h=>by simp at h
 |_,_,0,x,.cons a b,h=>by simp at h;subst h;exact ⟨_,rfl,a⟩
 |_,_,i+1,x,.cons a b,h=>by obtain ⟨r,d,h2⟩:=gj.at b (by simpa using h);exact ⟨r,by simpa using d,h2⟩
theorem gA {op n cp:Int} {args:List bY} {i:Nat} {x:bY} (h:args[i]?=some x):SizeOf.sizeOf x<SizeOf.sizeOf (bY.mk op n cp args):=by
 have:=aqb (apL h);simp;omega
mutual
def jQ:bY→Int→Int
 | .mk _ _ _ args,jw=>if jw<1 then 0 else dQ args (jw- 1)
def dQ:List bY→Int→Int
 |[],n=>n
 |e::es,n=>dQ es (jQ e n)
end
theorem qv:∀(l:List bY) (n:Int),dQ l n=l.foldl (fun n e=>jQ e n) n
 |[],n=>rfl
 |e::es,n=>by simp [dQ,qv es]
@[simp]theorem dM (c:Array Value):aW (.agg c)=c.toList:=rfl
@[simp]theorem Rj (c:Array Value):cN (.agg c)=false:=rfl
theorem wZ:∀(N:Nat) (e:bY) (m:Int),SizeOf.sizeOf e<N→jQ e m≤max m 0∧0≤jQ e m:=by
 intro N
 induction N with
 |zero=>intro e m h;omega
 |succ N ih=>
  intro e m h;obtain ⟨op,n,g,args⟩:=e;rw [jQ];split
  ·omega
  ·have key:∀(l:List bY) (k:Int),(∀e∈l,SizeOf.sizeOf e<N)→0≤k→dQ l k≤k∧0≤dQ l k:=by
    intro l
    induction l with
    |nil=>intro k _ d;rw [dQ];omega
    |cons x l c=>
     intro k b d;rw [dQ];have f:=ih x k (b x (by simp));have h2:=c (jQ x k) (fun e a=>b e (by simp [a])) f.2;omega
   have:=key args (m- 1) (fun e a=>by have:=aqb a;simp at h;omega) (by omega);omega
theorem AR:∀(N:Nat) (e:bY) (c:List Value) (H:AH) (a:Int),SizeOf.sizeOf e<N→H.n0≤H.nx→nm H c e→oh a→
 Ca E O 61 [.agg c.toArray,.int .i64 a] H (fun x H'=>x= .int .i64 (jQ e a)∧Ext H H'):=by
 intro N
 induction N with
 |zero=>intro e c H a h;omega
 |succ N ih=>
  intro e c H a X w P K
  cases P with| @mk op n cp v rows args V U T C B q=>
  refine Ca.dI (F:=Tx) rfl rfl rfl ?_;have f:=Ext.alloc H (.cells 4 [.int .i64 op,.int .i64 n,.int .i64 cp,v]);have G:(H.alloc (.cells 4 [.int .i64 op,.int .i64 n,.int .i64 cp,v])).ld ⟨H.nx,3,none⟩=some v:=ai w rfl;generalize D:H.alloc (.cells 4 [.int .i64 op,.int .i64 n,.int .i64 cp,v])=S at f G;by_cases g:a<1
  ·simp-implicitDefEqProofs [Tx,aA,g,D]
   refine ⟨?_,f⟩;rw [jQ,if_pos g]
  ·unfold oh at K
   simp-implicitDefEqProofs [Tx,aA,g,D];rw [aj (n:=a- 1) ⟨by omega,by omega⟩];obtain ⟨a0,Y,A⟩:=B.len;rw [q.length]at A;refine eL (fun k j H'=>Ext S H'∧∃i:Nat,i+k=args.length∧j.get 2= .pointer (some ⟨H.nx,0,none⟩)∧j.get 6= .int .i64 i∧j.get 5= .int .i64 (dQ (args.take i) (a- 1))∧0≤dQ (args.take i) (a- 1)∧dQ (args.take i) (a- 1)≤a- 1) ?_ args.length ⟨Ext.refl _,0,by simp,by simp,by simp,by simp [dQ],by simp [dQ];omega,by simp [dQ]⟩;rintro k j R ⟨d,i,hi,t,s,l,b1,b2⟩;have m:=d.ld G;have I:=(f.trans d).wf w;by_cases h:i<args.length
   ·obtain ⟨y,p⟩:∃y,args[i]?=some y:=⟨_,apG h⟩
    obtain ⟨r,J,M⟩:=q.at p;obtain ⟨b,o,Z,z,L⟩:=(B.ext (f.trans d)).at J;rw [q.length]at z;rw [z]at m;simp-implicitDefEqProofs [aA,t,s,l,m,h,L];refine bf ?_;simp-implicitDefEqProofs [l];have W:=gA (op:=op) (n:=n) (cp:=cp) p;refine (ih y r R _ (by omega) I (M.ext (f.trans d)) ⟨by omega,by omega⟩).mono ?_;rintro x H3 ⟨rfl,Q⟩;simp-implicitDefEqProofs [aA,t,s,l];rw [aj (n:=(i:Int)+1) ⟨by omega,by omega⟩]
    have u:dQ (args.take (i+1)) (a- 1)=jQ y (dQ (args.take i) (a- 1)):=by
     rw [ap1,p];simp [qv,List.foldl_append]
    have:=wZ (SizeOf.sizeOf y+1) y (dQ (args.take i) (a- 1)) (by omega);exact ⟨k- 1,by omega,d.trans Q,i+1,by omega,by simp,u.symm,by rw [u];omega,by rw [u];omega⟩
   ·rw [A]at m
    simp-implicitDefEqProofs [aA,t,s,l,m,h];rw [apN (by omega)];refine ⟨?_,f.trans d⟩;rw [jQ,if_neg g]
end Go.Proofs.YtppcmpmnglaleaaGreat.A
namespace Go.Proofs.YtppcmpmnglaleaaGreat.A
open Go
mutual
def aB:bY→Int
 | .mk _ _ _ args=>1+aq args
def aq:List bY→Int
 |[]=>0
 |e::es=>aB e+aq es
end
mutual
def dm:bY→Int
 | .mk _ _ _ args=>dD args 0+1
def dD:List bY→Int→Int
 |[],n=>n
 |e::es,n=>dD es (max n (dm e))
end
theorem oG:∀(l:List bY) (n:Int),dD l n=l.foldl (fun n e=>max n (dm e)) n
 |[],n=>rfl
 |e::es,n=>by simp [dD,oG es]
theorem oH {M:bY→Prop} (h:∀op n cp args,(∀e∈args,M e)→M (.mk op n cp args)):∀e,M e:=by
 have key:∀(N:Nat) (e:bY),SizeOf.sizeOf e<N→M e:=by
  intro N
  induction N with
  |zero=>intro e h;omega
  |succ N ih=>
   intro e b;obtain ⟨op,n,cp,args⟩:=e;refine h op n cp args fun e a=>ih e ?_
   have:=aqb a;simp at b;omega
 exact fun e=>key _ e (apV _)
theorem nq {l:List bY} (h:∀e∈l,1≤aB e):0≤aq l:=by
 induction l with
 |nil=>simp [aq]
 |cons e es ih=>
  rw [aq];have b:=h e (by simp);have h2:=ih fun x a=>h x (by simp [a])
  omega
theorem dZ:∀e,1≤aB e:=oH fun op n a args ih=>by
 rw [aB];have:=nq ih;omega
theorem bh (l:List bY):0≤aq l:=nq fun e _=>dZ e
theorem w5:∀e m,jQ e m=max (m- aB e) 0:=oH fun op n f args ih m=>by
 have key:∀(l:List bY) (k:Int),(∀e∈l,∀m,jQ e m=max (m- aB e) 0)→0≤k→dQ l k=max (k- aq l) 0:=by
  intro l
  induction l with
  |nil=>intro k _ c;rw [dQ,aq];omega
  |cons x l b=>
   intro k a c;rw [dQ,aq,a x (by simp),b _ (fun e d=>a e (by simp [d])) (by omega)];have:=bh l;omega
 rw [jQ,aB];have:=bh args;split
 ·omega
 ·rw [key args (m- 1) ih (by omega)]
  omega
theorem oI:∀e,1≤dm e∧dm e≤aB e:=oH fun op n h args ih=>by
 have key:∀(l:List bY) (k:Int),(∀e∈l,1≤dm e∧dm e≤aB e)→0≤k→k≤dD l k∧dD l k≤max k (aq l):=by
  intro l
  induction l with
  |nil=>intro k _ c;rw [dD,aq];omega
  |cons x l b=>
   intro k a c;rw [dD,aq];have g:=a x (by simp);have h2:=b (max k (dm x)) (fun e d=>a e (by simp [d])) (by omega);have f:=bh l;omega
 rw [dm,aB];have:=key args 0 ih (by omega);have:=bh args;omega
theorem bj {H:AH} (a:H.n0≤H.nx) {z:Nat} {c:List Value} (n:Nat) (b:c.length=n):(H.alloc (.cells z c)).ldn ⟨H.nx,0,none⟩ n=some c:=by
 rw [←b];exact ri a z c
theorem Jy {e:bY} {c:List Value} {H:AH} {a:Int} (f:H.n0≤H.nx) (g:nm H c e) (l:0≤a∧a≤1000000):
 Ca E O 113 [.agg c.toArray,.int .i64 a] H (fun x H'=>x= .bool (decide (aB e≤a))∧Ext H H'):=by
 refine Ca.dI (F:=I5) rfl rfl rfl ?_;have h:c.length=4:=by cases g;rfl
 have b:=Ext.alloc H (.cells c.length c);have d:=bj f (z:=c.length) (c:=c) 4 h;generalize i:H.alloc (.cells c.length c)=k at b d;simp-implicitDefEqProofs [I5,aA,i,d];refine bf ?_;rw [aj ⟨by omega,by omega⟩];simp-implicitDefEqProofs;refine (AR _ e c k (a+1) (apV _) (b.wf f) (g.ext b) ⟨by omega,by omega⟩).mono ?_;rintro x m ⟨rfl,j⟩;simp-implicitDefEqProofs [aA];refine ⟨?_,b.trans j⟩;rw [w5];omega
theorem E9:∀(N:Nat) (e:bY) (c:List Value) (H:AH),SizeOf.sizeOf e<N→H.n0≤H.nx→nm H c e→aB e<2^60→
 Ca E O 114 [.agg c.toArray] H (fun x H'=>x= .int .i64 (dm e)∧Ext H H'):=by
 intro N
 induction N with
 |zero=>intro e c H h;omega
 |succ N ih=>
  intro e c H hN u S B
  cases S with| @mk op n cp v rows args i1 i2 Z C A m=>
  refine Ca.dI (F:=I6) rfl rfl rfl ?_;have f:=Ext.alloc H (.cells 4 [.int .i64 op,.int .i64 n,.int .i64 cp,v]);have D:(H.alloc (.cells 4 [.int .i64 op,.int .i64 n,.int .i64 cp,v])).ld ⟨H.nx,3,none⟩=some v:=ai u rfl;generalize T:H.alloc (.cells 4 [.int .i64 op,.int .i64 n,.int .i64 cp,v])=Y at f D;have P:=B;rw [aB]at B;obtain ⟨a0,c0,z⟩:=A.len;rw [m.length]at z
  have G:∀(l:List bY) (y:bY),y∈l→aB y≤aq l:=by
   intro l
   induction l with
   |nil=>intro y a;cases a
   |cons x l I=>
    intro y a;rw [aq];have h3:=bh l;have h4:=dZ x;rcases apY.1 a with rfl|a
    ·omega
    ·have:=I y a;omega
  simp-implicitDefEqProofs [I6,aA,T];refine eL (fun k g H'=>Ext Y H'∧∃i:Nat,i+k=args.length∧g.get 1= .pointer (some ⟨H.nx,0,none⟩)∧g.get 4= .int .i64 i∧g.get 3= .int .i64 (dD (args.take i) 0)∧0≤dD (args.take i) 0∧dD (args.take i) 0≤aq args) ?_ args.length ⟨Ext.refl _,0,by simp,by simp,by simp,by simp [dD],by simp [dD],by simp [dD,bh]⟩;rintro k g X ⟨d,i,hi,s,p,q,V,U⟩;have j:=d.ld D;have L:=(f.trans d).wf u;by_cases h:i<args.length
  ·obtain ⟨y,a⟩:∃y,args[i]?=some y:=⟨_,apG h⟩
   obtain ⟨r,M,R⟩:=m.at a;obtain ⟨b,o,c',w,Q⟩:=(A.ext (f.trans d)).at M;rw [m.length]at w;rw [w]at j;have J:=G args y (apL a);have K:=oI y;simp-implicitDefEqProofs [aA,s,p,q,j,h,Q];refine bf ?_;simp-implicitDefEqProofs;have hs:=gA (op:=op) (n:=n) (cp:=cp) a;refine (ih y r X (by omega) L (R.ext (f.trans d)) (by omega)).mono ?_;rintro x H3 ⟨rfl,W⟩;simp-implicitDefEqProofs [aA,s,p,q,HQ];rw [aj (n:=(i:Int)+1) ⟨by omega,by omega⟩]
   have t:dD (args.take (i+1)) 0=max (dD (args.take i) 0) (dm y):=by
    rw [ap1,a];simp [oG,List.foldl_append]
   refine ⟨k- 1,by omega,d.trans W,i+1,by omega,by simp,?_,?_,?_⟩
   ·rw [t];split<;>omega
   ·rw [t];omega
   ·rw [t];omega
  ·rw [z]at j
   simp-implicitDefEqProofs [aA,s,p,q,j,h];rw [apN (by omega)]at V U⊢;rw [aj ⟨by omega,by omega⟩];refine ⟨?_,f.trans d⟩;rw [dm]
def qw (op:Int):Bool:=(decide (2≤op)&&decide (op≤11))||(decide (op=13)||decide (op=14))
theorem N7 (op:Int) (H:AH):Ca E O 135 [.int .i64 op] H (fun x H'=>x= .bool (qw op)∧H'=H):=by
 refine Ca.dI (F:=zk) rfl rfl rfl ?_;by_cases b:2≤op
 ·by_cases h2:op≤11
  ·simp-implicitDefEqProofs [zk,aA,qw,b,h2]
  ·by_cases a:op=13
   ·simp-implicitDefEqProofs [zk,aA,qw,a]
   ·simp-implicitDefEqProofs [zk,aA,qw,b,h2,a]
 ·have a:¬ op=13:=by omega
  simp-implicitDefEqProofs [zk,aA,qw,b,a]
def jx (op:Int):Int:=if op=0 then 0 else if op=12 then 1 else if op=15 then 3 else if qw op=true then 2 else-1
theorem Jz (op:Int) (H:AH):Ca E O 130 [.int .i64 op] H (fun x H'=>x= .int .i64 (jx op)∧H'=H):=by
 refine Ca.dI (F:=zj) rfl rfl rfl ?_;by_cases b:op=0
 ·simp-implicitDefEqProofs [zj,aA,jx,b]
 by_cases h2:op=12
 ·simp-implicitDefEqProofs [zj,aA,jx,h2]
 by_cases a:op=15
 ·simp-implicitDefEqProofs [zj,aA,jx,a]
 simp-implicitDefEqProofs [zj,aA,b,h2,a];refine bf ?_;simp-implicitDefEqProofs;refine (N7 op H).mono ?_;rintro x H' ⟨rfl,rfl⟩
 cases c:qw op with
 |true=>simp-implicitDefEqProofs [aA,jx,b,h2,a,c]
 |false=>simp-implicitDefEqProofs [aA,jx,b,h2,a,c]
open Go
def ak (l:List Vr) (n:Int):Int:=match l[n.toNat]? with|some v=>v.cells|none=>0
def fK (w:Int) (l:List Vr) (k:Int) (op n cp:Int) (na:Nat):Bool:=
 if op=1 then(!(decide (n<0)||(decide ((l.length:Int)≤n)||(decide (cp<0)||decide (k≤cp))))&&decide ((na:Int)=if 1<ak l n then 1 else 0))
 else(!(!decide (cp=0)|| !decide ((na:Int)=jx op))&&(if op=0 then isWord w n else decide (n=0)))
theorem JA {w k op n cp:Int} {v va:Value} {l:List Vr} {rows:List (List Value)} {H:AH} (h:H.n0≤H.nx) (B:dy H v l) (N:l.length<2^60) (I:Rows H 4 va rows) (M:rows.length<2^60):
 Ca E O 124 [.int .i64 w,v,.int .i64 k,.agg #[.int .i64 op,.int .i64 n,.int .i64 cp,va]] H (fun x H'=>x= .bool (fK w l k op n cp rows.length)∧Ext H H'):=by
 refine Ca.dI (F:=u6) rfl rfl rfl ?_;obtain ⟨T,Q,A⟩:=I.len;obtain ⟨S,P,r⟩:=B.len;by_cases m:op=1
 ·subst m
  have d:=Ext.alloc H (.cells 4 [.int .i64 1,.int .i64 n,.int .i64 cp,va]);have a:(H.alloc (.cells 4 [.int .i64 1,.int .i64 n,.int .i64 cp,va])).ld ⟨H.nx,0,none⟩=some (.int .i64 1):=ai h rfl;have c:(H.alloc (.cells 4 [.int .i64 1,.int .i64 n,.int .i64 cp,va])).ld ⟨H.nx,1,none⟩=some (.int .i64 n):=ai h rfl;have e:(H.alloc (.cells 4 [.int .i64 1,.int .i64 n,.int .i64 cp,va])).ld ⟨H.nx,2,none⟩=some (.int .i64 cp):=ai h rfl;have f:(H.alloc (.cells 4 [.int .i64 1,.int .i64 n,.int .i64 cp,va])).ld ⟨H.nx,3,none⟩=some va:=ai h rfl;generalize j:H.alloc (.cells 4 [.int .i64 1,.int .i64 n,.int .i64 cp,va])=u at d a c e f;by_cases h2:n<0
  ·simp-implicitDefEqProofs [u6,aA,j,a,c,e,h2,fK]
   exact d
  by_cases g:(l.length:Int)≤n
  ·simp-implicitDefEqProofs [u6,aA,j,a,c,e,h2,g,r,fK]
   exact d
  by_cases i:cp<0
  ·simp-implicitDefEqProofs [u6,aA,j,a,c,e,h2,g,i,r,fK]
   exact d
  by_cases C:k≤cp
  ·simp-implicitDefEqProofs [u6,aA,j,a,c,e,h2,g,i,C,r,fK]
   exact d
  obtain ⟨y,z⟩:∃y,l[n.toNat]?=some y:=⟨_,apG (by omega)⟩
  obtain ⟨b,o,R,G,_,_,_,K⟩:=(B.ext d).at z;simp-implicitDefEqProofs [u6,aA,j,a,c,e,h2,g,i,C,r,fK];refine oF _ _ ?_;have t:0≤n:=by omega
  have s:n<l.length:=by omega
  rw [←r,G,A]at*;simp-implicitDefEqProofs [aA,c,f,t,s,K];refine mI ?_;simp-implicitDefEqProofs;have q:=aV.1 f;have J:=u7 (decide (1<y.cells)) u;refine J.mono ?_;rintro x D ⟨rfl,rfl⟩;simp-implicitDefEqProofs [aA,tt,chain,ko,nth,AO.wanted,ff,sameAt,eG,dz,q];have L:ak l n=y.cells:=by simp [ak,z]
  exact ⟨by rw [L],d⟩
 ·have d:=Ext.alloc H (.cells 4 [.int .i64 op,.int .i64 n,.int .i64 cp,va])
  have a:(H.alloc (.cells 4 [.int .i64 op,.int .i64 n,.int .i64 cp,va])).ld ⟨H.nx,0,none⟩=some (.int .i64 op):=ai h rfl;have c:(H.alloc (.cells 4 [.int .i64 op,.int .i64 n,.int .i64 cp,va])).ld ⟨H.nx,1,none⟩=some (.int .i64 n):=ai h rfl;have e:(H.alloc (.cells 4 [.int .i64 op,.int .i64 n,.int .i64 cp,va])).ld ⟨H.nx,2,none⟩=some (.int .i64 cp):=ai h rfl;have f:(H.alloc (.cells 4 [.int .i64 op,.int .i64 n,.int .i64 cp,va])).ld ⟨H.nx,3,none⟩=some va:=ai h rfl;generalize j:H.alloc (.cells 4 [.int .i64 op,.int .i64 n,.int .i64 cp,va])=u at d a c e f;have q:=aV.1 f;have p:=aV.1 a;simp-implicitDefEqProofs [u6,aA,j,a,m];refine oF _ _ ?_;by_cases h2:cp=0
  case neg=>
   simp-implicitDefEqProofs [aA,tt,chain,ko,nth,AO.wanted,ff,sameAt,eG,dz,a,c,e,f,q,p,m,h2,fK];exact d
  rw [A]at f q;simp-implicitDefEqProofs [aA,a,c,e,f,m,h2];refine mI ?_;simp-implicitDefEqProofs;refine (Jz op u).mono ?_;rintro x D ⟨rfl,rfl⟩;by_cases g:(rows.length:Int)=jx op
  case neg=>
   simp-implicitDefEqProofs [aA,tt,chain,ko,nth,AO.wanted,ff,sameAt,eG,dz,a,c,e,f,q,p,m,h2,g,fK];exact d
  simp-implicitDefEqProofs [aA,tt,chain,ko,nth,AO.wanted,ff,sameAt,eG,dz,a,c,e,f,q,p,m,h2,g];by_cases i:op=0
  case neg=>
   simp-implicitDefEqProofs [aA,a,c,m,h2,g,i,fK];exact d
  simp-implicitDefEqProofs [aA,a,c,i];refine bf ?_;simp-implicitDefEqProofs;refine (AQ w n D).mono ?_;rintro x U ⟨rfl,rfl⟩;rw [i]at g;simp-implicitDefEqProofs [aA,fK,h2,g,i];exact d
mutual
def dA (w:Int) (l:List Vr) (k:Int):bY→Bool
 | .mk op n cp args=>fK w l k op n cp args.length&&tM w l k args
def tM (w:Int) (l:List Vr) (k:Int):List bY→Bool
 |[]=>true
 |e::es=>dA w l k e&&tM w l k es
end
theorem jk {w:Int} {l:List Vr} {k:Int}:∀{es:List bY},tM w l k es=true↔∀e∈es,dA w l k e=true
 |[]=>by simp [tM]
 |e::es=>by simp [tM,jk (es:=es)]
theorem JB {w k:Int} {v:Value} {l:List Vr} (Y:l.length<2^60):∀(N:Nat) (e:bY) (c:List Value) (H:AH),SizeOf.sizeOf e<N→H.n0≤H.nx→dy H v l→nm H c e→
 Ca E O 115 [.int .i64 w,v,.int .i64 k,.agg c.toArray] H (fun x H'=>x= .bool (dA w l k e)∧Ext H H'):=by
 intro N
 induction N with
 |zero=>intro e c H h;omega
 |succ N ih=>
  intro e c H hN p P he
  cases he with| @mk op n cp va rows args i1 i2 i3 R D Q=>
  refine Ca.dI (F:=I7) rfl rfl rfl ?_;have g:=Ext.alloc H (.cells 4 [.int .i64 op,.int .i64 n,.int .i64 cp,va]);have S:(H.alloc (.cells 4 [.int .i64 op,.int .i64 n,.int .i64 cp,va])).ld ⟨H.nx,3,none⟩=some va:=ai p rfl;have d:=bj p (z:=4) (c:=[.int .i64 op,.int .i64 n,.int .i64 cp,va]) 4 rfl;generalize cA:H.alloc (.cells 4 [.int .i64 op,.int .i64 n,.int .i64 cp,va])=H1 at g S d;simp-implicitDefEqProofs [I7,aA,cA,d];refine bf ?_;simp-implicitDefEqProofs;have C:=Q.length;refine (JA (w:=w) (k:=k) (op:=op) (n:=n) (cp:=cp) (g.wf p) (P.ext g) Y (D.ext g) (by omega)).mono ?_;rintro x H2 ⟨rfl,K⟩;rw [C]
  cases I:fK w l k op n cp args.length with
  |false=>
   simp-implicitDefEqProofs [aA,I,dA];exact g.trans K
  |true=>
   simp-implicitDefEqProofs [aA,I];obtain ⟨a0,c0,L⟩:=D.len;rw [C]at L;refine eL (fun j f H'=>Ext H2 H'∧∃i:Nat,i+j=args.length∧f.get 0= .int .i64 w∧f.get 1=v∧f.get 2= .int .i64 k∧f.get 7= .pointer (some ⟨H.nx,0,none⟩)∧f.get 9= .int .i64 i∧∀e∈args.take i,dA w l k e=true) ?_ args.length ⟨Ext.refl _,0,by simp,by simp,by simp,by simp,by simp,by simp,by simp⟩;rintro j f H3 ⟨J,i,hi,A,u,t,s,q,G⟩;have X:=g.trans (K.trans J);have B:=(K.trans J).ld S;have U:=X.wf p;by_cases h:i<args.length
   ·obtain ⟨y,m⟩:∃y,args[i]?=some y:=⟨_,apG h⟩
    obtain ⟨r,V,Z⟩:=Q.at m;obtain ⟨b,o,c',M,W⟩:=(D.ext X).at V;rw [C]at M;rw [M]at B;simp-implicitDefEqProofs [aA,A,u,t,s,q,B,h,W];refine bf ?_;simp-implicitDefEqProofs [A,u,t];have hs:=gA (op:=op) (n:=n) (cp:=cp) m;refine (ih y r H3 (by omega) U (P.ext X) (Z.ext X)).mono ?_;rintro x H4 ⟨rfl,T⟩
    cases h2:dA w l k y with
    |true=>
     simp-implicitDefEqProofs [aA,A,u,t,s,q,h2];rw [aj (n:=(i:Int)+1) ⟨by omega,by omega⟩];refine ⟨j- 1,by omega,J.trans T,i+1,by omega,by simp,fun z a=>?_⟩;rw [ap1,m]at a;rcases ap0.1 a with a|a
     ·exact G z a
     ·simp at a;subst a;exact h2
    |false=>
     simp-implicitDefEqProofs [aA,A,u,t,s,q,h2];refine ⟨?_,X.trans T⟩
     have:tM w l k args=false:=by
      rw [aqj];intro e;have:=jk.1 e y (apL m);rw [h2]at this;cases this
     rw [dA,this,Bool.and_false]
   ·rw [L]at B
    simp-implicitDefEqProofs [aA,s,q,B,h];rw [apN (by omega)]at G;refine ⟨?_,X⟩;rw [dA,I,jk.2 G];rfl
def gL (w:Int) (l:List Vr) (k:Int) (e:bY):Bool:=decide (aB e≤400)&&(decide (dm e≤16)&&dA w l k e)
theorem TE {w k:Int} {v:Value} {l:List Vr} (p:l.length<2^60) {e:bY} {c:List Value} {H:AH} (h:H.n0≤H.nx) (o:dy H v l) (i:nm H c e):
 Ca E O 95 [.int .i64 w,v,.int .i64 k,.agg c.toArray] H (fun x H'=>x= .bool (gL w l k e)∧Ext H H'):=by
 refine Ca.dI (F:=XI) rfl rfl rfl ?_;have q:c.length=4:=by cases i;rfl
 have a:=Ext.alloc H (.cells c.length c);have d:=bj h (z:=c.length) (c:=c) 4 q;generalize r:H.alloc (.cells c.length c)=A at a d;simp-implicitDefEqProofs [XI,aA,r,d];refine bf ?_;simp-implicitDefEqProofs;refine (Jy (a.wf h) (i.ext a) (by omega)).mono ?_;rintro x u ⟨rfl,f⟩;by_cases b:aB e≤400
 case neg=>
  simp-implicitDefEqProofs [aA,b,gL];exact a.trans f
 have m:=f.ldn d;simp-implicitDefEqProofs [aA,b,m];refine bf ?_;simp-implicitDefEqProofs;refine (E9 _ e c u (apV _) ((a.trans f).wf h) (i.ext (a.trans f)) (by omega)).mono ?_;rintro x t ⟨rfl,n⟩;have g:=a.trans (f.trans n);by_cases h2:dm e≤16
 case neg=>
  simp-implicitDefEqProofs [aA,b,h2,gL];exact g
 have j:=n.ldn m;simp-implicitDefEqProofs [aA,b,h2,j];refine bf ?_;simp-implicitDefEqProofs;refine (JB p _ e c t (apV _) (g.wf h) (o.ext g) (i.ext g)).mono ?_;rintro x y ⟨rfl,s⟩;simp-implicitDefEqProofs [aA,b,h2,gL];exact g.trans s
end Go.Proofs.YtppcmpmnglaleaaGreat.A
namespace Go.Proofs.YtppcmpmnglaleaaGreat.A
open Go
inductive bH where
 |mk (op n:Int) (args:List bY) (thn els:List bH)
mutual
inductive nK (H:AH):List Value→bH→Prop where
 |mk {op n:Int} {va vt ve:Value} {ra rt re:List (List Value)} {args:List bY} {thn els:List bH}:oh op→oh n→args.length<2^60→thn.length<2^60→els.length<2^60→
  Rows H 4 va ra→gj H ra args→Rows H 5 vt rt→hY H rt thn→Rows H 5 ve re→hY H re els→nK H [.int .i64 op,.int .i64 n,va,vt,ve] (.mk op n args thn els)
inductive hY (H:AH):List (List Value)→List bH→Prop where
 |nil:hY H [] []
 |cons {r:List Value} {e:bH} {rs:List (List Value)} {es:List bH}:nK H r e→hY H rs es→hY H (r::rs) (e::es)
end
mutual
theorem nK.ext {H H':AH} (E:Ext H H') {c:List Value} {e:bH}:nK H c e→nK H' c e
 | .mk a b c d e g h rt lt f le=>.mk a b c d e (g.ext E) (gj.ext E h) (rt.ext E) (hY.ext E lt) (f.ext E) (hY.ext E le)
theorem hY.ext {H H':AH} (E:Ext H H') {c:List (List Value)} {e:List bH}:hY H c e→hY H' c e
 | .nil=>.nil
 | .cons a b=>.cons (nK.ext E a) (hY.ext E b)
end
theorem hY.length {H:AH}:∀{c:List (List Value)} {e:List bH},hY H c e→c.length=e.length
 |_,_,.nil=>rfl
 |_,_,.cons _ b=>by simp [hY.length b]
theorem hY.at {H:AH}:∀{c:List (List Value)} {e:List bH} {i:Nat} {x:bH},hY H c e→e[i]?=some x→∃r,c[i]?=some r∧nK H r x
 |_,_,i,x,.nil,h=>by simp at h
 |_,_,0,x,.cons a b,h=>by simp at h;subst h;exact ⟨_,rfl,a⟩
 |_,_,i+1,x,.cons a b,h=>by obtain ⟨r,d,h2⟩:=hY.at b (by simpa using h);exact ⟨r,by simpa using d,h2⟩
theorem me {l:List bH} {i:Nat} {op n:Int} {args:List bY} {thn els:List bH} (h:l[i]?=some (.mk op n args thn els)):SizeOf.sizeOf thn<SizeOf.sizeOf l∧SizeOf.sizeOf els<SizeOf.sizeOf l:=by
 have:=aqb (apL h);simp at this;omega
mutual
def u9:bH→Int→Int
 | .mk _ _ args thn els,m=>dB els (dB thn (dQ args (m- 1)))
def dB:List bH→Int→Int
 |[],m=>m
 |s::ss,m=>if 0<m then dB ss (u9 s m)else m
end
theorem hY.row {H:AH} {v:Value} {rows:List (List Value)} {l:List bH} (u:Rows H 5 v rows) (g:hY H rows l) {i:Nat} {op n:Int} {args:List bY} {thn els:List bH} (s:l[i]?=some (.mk op n args thn els)):
 ∃b o c va vt ve e rt d,v= .slice (some ⟨b,o,none⟩) l.length c∧H.ldn ⟨b,o+i*5,none⟩ 5=some [.int .i64 op,.int .i64 n,va,vt,ve]∧
  H.ld ⟨b,o+i*5,none⟩=some (.int .i64 op)∧H.ld ⟨b,o+i*5+1,none⟩=some (.int .i64 n)∧H.ld ⟨b,o+i*5+2,none⟩=some va∧H.ld ⟨b,o+i*5+3,none⟩=some vt∧H.ld ⟨b,o+i*5+4,none⟩=some ve∧
  oh op∧oh n∧args.length<2^60∧thn.length<2^60∧els.length<2^60∧Rows H 4 va e∧gj H e args∧Rows H 5 vt rt∧hY H rt thn∧Rows H 5 ve d∧hY H d els:=by
 obtain ⟨r,t,w⟩:=g.at s;obtain ⟨b,o,c,f,a⟩:=u.at t;rw [g.length]at f
 cases w with| @mk _ _ va vt ve e rt d _ _ _ q p m k h B h2 A z y x=>
 exact ⟨b,o,c,va,vt,ve,e,rt,d,f,a,by simpa using aL a (j:=0) rfl,aL a (j:=1) rfl,aL a (j:=2) rfl,aL a (j:=3) rfl,aL a (j:=4) rfl,q,p,m,k,h,B,h2,A,z,y,x⟩
end Go.Proofs.YtppcmpmnglaleaaGreat.A
