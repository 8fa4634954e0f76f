/- Texts that stand one behind the other: Code, CodeOk, Awake, S1, S2, S3, S4, S5, S6, S7, S8, S9, S10, S11, S12, S13, S14, AbsO. -/
import Derived.Test.YtppcmpmnglaleaaGreatDoorG13
import Derived.Test.YtppcmpmnglaleaaGreatDoorProg
import Derived.KernelRfl
set_option linter.unusedVariables false
set_option maxRecDepth 100000
namespace Go.Proofs.YtppcmpmnglaleaaGreatDoor.A
open Go
namespace K
abbrev m (a b:Nat):AO:=o a (.mv (.t b))
abbrev M (t a b:Nat):AO:=og t true a (.mv (.t b))
abbrev N (t a b:Nat):AO:=og t false a (.mv (.t b))
abbrev v (a b:Nat):AO:=o a (.ld (.t b))
abbrev n (k a b:Nat):AO:=o a (.ldn k (.t b))
abbrev f (k a b:Nat):AO:=o a (.fa k (.t b))
abbrev b (g:BinOp) (a b c:Nat):AO:=o a (.bin g (.t b) (.t c))
abbrev h (g:BinOp) (a b:Nat) (k:Int):AO:=o a (.bin g (.t b) (i k))
abbrev c (a b:Nat) (l:List X):AO:=o a (.call b l)
abbrev e (a b k:Nat):AO:=o a (.ext (.t b) k)
abbrev L (a b:Nat):AO:=o a (.jn (.t b))
abbrev j (s a b c:Nat):AO:=o a (.ia s (.t b) (.t c))
abbrev p (a b c:Nat):AO:=o a (.pick (.t b) (.t c) (.k (.bool false)))
abbrev P (a b c:Nat):AO:=o a (.pick (.t b) (.k (.bool true)) (.t c))
abbrev B (a b:Nat):AO:=o a (.box (.t b))
abbrev U (a b:Nat):AO:=o a (.un .not (.t b))
abbrev d (x:Nat) (a b:AC):AC:=.cond (.t x) a b
abbrev r (l:List AO) (c:AC):AC:=.seq (.bW l) c
abbrev q (a b:AC):AC:=.seq a b
abbrev F:X:=.k (.bool false)
abbrev W:X:=.k (.bool true)
abbrev z:Value:=.int .i64 0
abbrev y:Value:=.slice none 0 0
end K
open K
def a5:AF:=⟨3,52,[.tmp 6],r [B 5 2,o 6 (.mv F)] (r [m 10 0,m 11 1,n 7 12 5,c 13 21 [.t 10,.t 11,.t 12],m 9 13,e 14 9 0,e 15 9 1,m 7 14,m 8 15] (q (r [m 16 0,h .lss 17 16 0,m 18 17,N 18 19 0,og 18 false 20 (.bin .gtr (.t 19) (i 15)),P 21 18 20,m 22 21,N 22 23 1,og 22 false 24 (.bin .lss (.t 23) (i 0)),P 25 22 24,m 26 25,N 26 27 1,og 26 false 28 (.bin .gtr (.t 27) (i 15)),P 29 26 28] (d 29 (r [m 30 7,o 31 (.bin .eql (.t 30) (.k (.string ⟨#[]⟩))),m 32 31,M 32 33 8,og 32 true 34 (.bin .eql (.t 33) (i 1)),p 35 32 34,m 36 35,og 36 true 37 (.call 11 []),p 38 36 37,m 6 38] .ret) .skip)) (r [m 39 7,m 40 0,m 41 1,n 7 42 5,c 43 22 [.t 40,.t 41,.t 42],b .eql 44 39 43,m 45 44,M 45 46 8,og 45 true 47 (.bin .eql (.t 46) (i 0)),p 48 45 47,m 49 48,og 49 true 50 (.call 11 []),p 51 49 50,m 6 51] .ret)))⟩
theorem c5:aq Tryz.prog Tryz.f5=some a5:=by kernel_rfl
def UF:AF:=⟨0,80,[.tmp 0],r [o 0 (.mv F)] (r [c 11 36 [],o 1 (.alloc [z,y,y]),s (.st 3 (.t 1) (.t 11))] (r [n 3 13 1,o 14 (.bsl 1 1 [z] [(0,(1,i 0))]),c 15 12 [.t 13,i 9,.t 14],m 12 15,e 16 12 0,e 17 12 1,m 2 16,m 3 17] (r [n 3 19 1,c 20 17 [.t 19,i 9],m 18 20,e 21 18 0,e 22 18 1,m 4 21,m 5 22] (r [n 3 24 1,c 25 18 [.t 24,i 9],m 23 25,e 26 23 0,e 27 23 1,o 6 (.alloc [z,z,z,z,z]),s (.st 5 (.t 6) (.t 26)),m 7 27] (r [o 29 (.build [z,z] [(0,(1,i 1)),(1,(1,i 1))]),o 30 (.build [z,z] [(0,(1,i 2)),(1,(1,i 1))]),o 31 (.build [z,z] [(1,(1,i 0))]),o 32 (.bsl 3 2 [z,z,z,z,z,z] [(0,(2,.t 29)),(2,(2,.t 30)),(4,(2,.t 31))]),o 33 (.build [z,y,y,y,z,z,z] [(2,(1,.t 32)),(4,(1,i 4))]),c 34 21 [i 1,i 5,.t 33],m 28 34,e 35 28 0,e 36 28 1,m 8 35,m 9 36] (r [o 37 (.bsl 1 1 [z] [(0,(1,i 0))]),o 38 (.bsl 1 1 [z] [(0,(1,i 0))]),o 39 (.build [y,y] [(0,(1,.t 37)),(1,(1,.t 38))]),o 40 (.bsl 1 1 [z] [(0,(1,i 0))]),o 41 (.bsl 2 1 [z,z] [(0,(1,i 1)),(1,(1,i 0))]),o 42 (.build [y,y] [(0,(1,.t 40)),(1,(1,.t 41))]),o 43 (.bsl 1 1 [z] [(0,(1,i 0))]),o 44 (.bsl 2 1 [z,z] [(0,(1,i 1)),(1,(1,i 1))]),o 45 (.build [y,y] [(0,(1,.t 43)),(1,(1,.t 44))]),o 46 (.bsl 3 2 [y,y,y,y,y,y] [(0,(2,.t 39)),(2,(2,.t 42)),(4,(2,.t 45))]),m 10 46] (r [m 47 3,h .eql 48 47 0,m 49 48,M 49 50 2,M 49 51 10,og 49 true 52 (.call 16 [.t 50,.t 51]),p 53 49 52,m 54 53,M 54 55 5,og 54 true 56 (.bin .eql (.t 55) (i 0)),p 57 54 56,m 58 57,M 58 59 4,og 58 true 60 (.jn (.t 59)),og 58 true 61 (.bin .eql (.t 60) (i 6)),p 62 58 61,m 63 62,M 63 64 7,og 63 true 65 (.bin .eql (.t 64) (i 0)),p 66 63 65,m 67 66,og 67 true 68 (.ldn 5 (.t 6)),og 67 true 69 (.build [z,z,z,z,z] [(0,(1,i 6)),(1,(1,i 0)),(2,(1,i 0)),(3,(1,i 0)),(4,(1,i 0))]),og 67 true 70 (.eqs false [(0,0),(1,0),(2,0),(3,0),(4,0)] (.t 68) (.t 69)),p 71 67 70,m 72 71,M 72 73 9,og 72 true 74 (.bin .eql (.t 73) (i 0)),p 75 72 74,m 76 75,M 76 77 8,og 76 true 78 (.bin .eql (.t 77) (.k (.string ⟨#[111,32,49,58,49,32,48,58,48,59,99,52,59]⟩))),p 79 76 78,m 0 79] .ret)))))))⟩
theorem c11:aq Tryz.prog Tryz.f11=some UF:=by kernel_rfl
def a12:AF:=⟨3,30,[.tmp 6,.tmp 7],r [B 3 0,o 6 (.mv (.k (.slice none 0 0))),o 7 (.mv (i 0))] (q (r [n 3 8 3,c 9 37 [.t 8],h .neq 10 9 0] (d 10 (r [o 6 (.mv (.k (.slice none 0 0))),o 7 (.mv (i 30))] .ret) .skip)) (q (r [m 11 1,h .lss 12 11 0,m 13 12,N 13 14 1,og 13 false 15 (.bin .gtr (.t 14) (i 4096)),P 16 13 15,m 17 16,og 17 false 18 (.ldn 3 (.t 3)),N 17 19 2,og 17 false 20 (.build [y,y] [(0,(1,.t 19))]),og 17 false 21 (.call 38 [.t 18,.t 20]),og 17 false 22 (.bin .neq (.t 21) (i 0)),P 23 17 22] (d 23 (r [o 6 (.mv (.k (.slice none 0 0))),o 7 (.mv (i 1))] .ret) .skip)) (r [n 3 24 3,m 25 1,m 26 2,c 27 39 [.t 24,.t 25,.t 26,i 16384],e 28 27 0,e 29 27 1,m 6 28,m 7 29] .ret)))⟩
theorem c12:aq Tryz.prog Tryz.f12=some a12:=by kernel_rfl
def UG:AF:=⟨2,27,[.tmp 4],r [o 4 (.mv F)] (q (r [m 6 0,L 7 6,m 8 1,L 9 8,b .neq 10 7 9] (d 10 (r [o 4 (.mv F)] .ret) .skip)) (q (r [o 5 (.mv (i 0))] (.block 0 (.loop (q (r [m 11 5,m 12 0,L 13 12,b .lss 14 11 13] (d 14 .skip (.exit 0))) (q (.block 1 (q (.bM [m 17 0,m 18 5,j 2 19 17 18,n 2 20 19,m 21 1,m 22 5,j 2 23 21 22,n 2 24 23,c 25 44 [.t 20,.t 24],U 26 25] []) (d 26 (r [o 4 (.mv F)] .ret) .skip))) (.bW [m 15 5,h .add 16 15 1,m 5 16])))))) (r [o 4 (.mv W)] .ret)))⟩
theorem c16:aq Tryz.prog Tryz.f16=some UG:=by kernel_rfl
def UH:AF:=⟨2,62,[.tmp 4,.tmp 5],r [B 2 0,o 4 (.mv (.k (.slice none 0 0))),o 5 (.mv (i 0))] (q (r [n 3 14 2,c 15 37 [.t 14],h .neq 16 15 0] (d 16 (r [o 4 (.mv (.k (.slice none 0 0))),o 5 (.mv (i 30))] .ret) .skip)) (q (r [m 17 1,h .lss 18 17 0,m 19 18,N 19 20 1,og 19 false 21 (.bin .gtr (.t 20) (i 4096)),P 22 19 21] (d 22 (r [o 4 (.mv (.k (.slice none 0 0))),o 5 (.mv (i 1))] .ret) .skip)) (r [n 3 24 2,c 25 45 [.t 24],m 23 25,e 26 23 0,e 27 23 1,m 6 26,m 7 27] (q (r [m 28 7,h .neq 29 28 0,m 30 29,N 30 31 6,og 30 false 32 (.bin .gtr (.t 31) (i 4096)),P 33 30 32] (d 33 (r [o 4 (.mv (.k (.slice none 0 0))),o 5 (.mv (i 5))] .ret) .skip)) (r [o 8 (.mv (.k (.slice none 0 0)))] (q (r [m 34 6,o 35 (.mv (i 0))] (.block 0 (.loop (r [b .lss 36 35 34] (q (d 36 .skip (.exit 0)) (q (.block 1 (r [m 37 35,m 9 37] (r [n 3 39 2,m 40 9,c 41 46 [.t 39,.t 40],m 38 41,e 42 38 0,e 43 38 1,m 10 42,m 11 43] (r [n 3 45 2,m 46 1,m 47 10,m 48 8,L 49 48,o 50 (.bin .sub (i 16384) (.t 49)),c 51 39 [.t 45,.t 46,.t 47,.t 50],m 44 51,e 52 44 0,e 53 44 1,m 12 52,m 13 53] (q (r [m 54 13,h .neq 55 54 0] (d 55 (r [m 56 13,o 4 (.mv (.k (.slice none 0 0))),m 5 56] .ret) .skip)) (.bW [m 57 8,m 58 12,o 59 (.app 2 48 (.t 57) (.t 58)),m 8 59])))))) (.bW [h .add 60 35 1,m 35 60]))))))) (r [m 61 8,m 4 61,o 5 (.mv (i 0))] .ret)))))))⟩
theorem c17:aq Tryz.prog Tryz.f17=some UH:=by kernel_rfl
def UI:AF:=⟨2,41,[.cells 4 5,.tmp 5],r [B 2 0,o 4 (.alloc [z,z,z,z,z]),o 5 (.mv (i 0))] (r [n 3 14 2,m 15 1,c 16 17 [.t 14,.t 15],m 13 16,e 17 13 0,e 18 13 1,m 6 17,m 7 18] (r [o 8 (.alloc [z,z,z,z,z])] (q (r [m 19 6,L 20 19,o 21 (.mv (i 0))] (.block 0 (.loop (r [b .lss 22 21 20] (q (d 22 .skip (.exit 0)) (q (.block 1 (r [j 2 23 19 21,n 2 24 23,o 10 (.alloc [y,y]),s (.st 2 (.t 10) (.t 24))] (r [n 3 26 2,m 27 1,n 2 28 10,c 29 47 [.t 26,.t 27,.t 28],m 25 29,e 30 25 0,e 31 25 1,o 11 (.alloc [z,y,y,y,z,z,z]),s (.st 7 (.t 11) (.t 30)),m 12 31] (.bW [f 0 32 11,v 33 32,o 34 (.oA 5 1 (.t 8) (.t 33)),v 35 34,h .add 36 35 1,o 37 (.oA 5 1 (.t 8) (.t 33)),s (.st 1 (.t 37) (.t 36))])))) (.bW [h .add 38 21 1,m 21 38]))))))) (r [n 5 39 8,m 40 7,s (.st 5 (.t 4) (.t 39)),m 5 40] .ret))))⟩
theorem c18:aq Tryz.prog Tryz.f18=some UI:=by kernel_rfl
def a21:AF:=⟨3,26,[.tmp 6,.tmp 7],r [B 5 2,o 6 (.mv (.k (.string ⟨#[]⟩))),o 7 (.mv (i 0))] (q (r [m 8 0,h .lss 9 8 0,m 10 9,N 10 11 0,og 10 false 12 (.bin .gtr (.t 11) (i 15)),P 13 10 12,m 14 13,N 14 15 1,og 14 false 16 (.bin .lss (.t 15) (i 0)),P 17 14 16,m 18 17,N 18 19 1,og 18 false 20 (.bin .gtr (.t 19) (i 15)),P 21 18 20] (d 21 (r [o 6 (.mv (.k (.string ⟨#[]⟩))),o 7 (.mv (i 1))] .ret) .skip)) (r [m 22 0,m 23 1,n 7 24 5,c 25 51 [.t 22,.t 23,.t 24],m 6 25,o 7 (.mv (i 0))] .ret))⟩
theorem c21:aq Tryz.prog Tryz.f21=some a21:=by kernel_rfl
def Ky:AF:=⟨3,104,[.tmp 6],r [B 5 2,o 6 (.mv (.k (.string ⟨#[]⟩)))] (r [o 7 (.mv (.k (.string ⟨#[]⟩)))] (q (r [m 11 1,c 12 52 [.t 11,i 8]] (d 12 (.bW [m 13 7,o 14 (.bin .add (.t 13) (.k (.string ⟨#[101]⟩))),f 0 15 5,v 16 15,c 17 53 [.t 16],b .add 18 14 17,o 19 (.bin .add (.t 18) (.k (.string ⟨#[59]⟩))),m 7 19]) .skip)) (q (r [m 20 1,c 21 52 [.t 20,i 1]] (d 21 (r [m 22 7,o 23 (.bin .add (.t 22) (.k (.string ⟨#[111]⟩))),m 7 23] (r [m 24 0,f 2 25 5,v 26 25,c 27 54 [.t 24,.t 26],m 8 27] (q (r [o 9 (.mv (i 0))] (.block 0 (.loop (q (r [m 28 9,m 29 8,L 30 29,b .lss 31 28 30] (d 31 .skip (.exit 0))) (q (.block 1 (.bM [m 34 7,o 35 (.bin .add (.t 34) (.k (.string ⟨#[32]⟩))),m 36 8,m 37 9,j 2 38 36 37,f 0 39 38,v 40 39,m 44 8,m 45 9,j 2 46 44 45,f 1 47 46,v 48 47,c 41 53 [.t 40],b .add 42 35 41,o 43 (.bin .add (.t 42) (.k (.string ⟨#[58]⟩))),c 49 53 [.t 48],b .add 50 43 49,m 7 50] [(0,(11,12))])) (.bW [m 32 9,h .add 33 32 1,m 9 33])))))) (.bW [m 51 7,o 52 (.bin .add (.t 51) (.k (.string ⟨#[59]⟩))),m 7 52])))) .skip)) (q (r [m 53 1,c 54 52 [.t 53,i 2]] (d 54 (r [m 55 7,o 56 (.bin .add (.t 55) (.k (.string ⟨#[116]⟩))),m 7 56] (q (r [o 10 (.mv (i 0))] (.block 2 (.loop (q (r [m 57 10,f 3 58 5,v 59 58,L 60 59,b .lss 61 57 60] (d 61 .skip (.exit 2))) (q (.block 3 (.bM [m 64 7,o 65 (.bin .add (.t 64) (.k (.string ⟨#[32]⟩))),f 3 66 5,v 67 66,m 68 10,j 3 69 67 68,f 0 70 69,v 71 70,f 3 75 5,v 76 75,m 77 10,j 3 78 76 77,f 1 79 78,v 80 79,f 3 84 5,v 85 84,m 86 10,j 3 87 85 86,f 2 88 87,v 89 88,c 72 53 [.t 71],b .add 73 65 72,o 74 (.bin .add (.t 73) (.k (.string ⟨#[58]⟩))),c 81 53 [.t 80],b .add 82 74 81,o 83 (.bin .add (.t 82) (.k (.string ⟨#[58]⟩))),c 90 53 [.t 89],b .add 91 83 90,m 7 91] [(0,(9,20)),(0,(13,20)),(0,(15,20)),(0,(15,23)),(0,(19,20)),(0,(19,23))])) (.bW [m 62 10,h .add 63 62 1,m 10 63])))))) (.bW [m 92 7,o 93 (.bin .add (.t 92) (.k (.string ⟨#[59]⟩))),m 7 93]))) .skip)) (q (r [m 94 1,c 95 52 [.t 94,i 4]] (d 95 (.bW [m 96 7,o 97 (.bin .add (.t 96) (.k (.string ⟨#[99]⟩))),f 4 98 5,v 99 98,c 100 53 [.t 99],b .add 101 97 100,o 102 (.bin .add (.t 101) (.k (.string ⟨#[59]⟩))),m 7 102]) .skip)) (r [m 103 7,m 6 103] .ret))))))⟩
theorem c22:aq Tryz.prog Tryz.f22=some Ky:=by kernel_rfl
def QZ:AF:=⟨2,26,[.tmp 4],r [o 4 (.mv F)] (q (r [m 6 0,L 7 6,m 8 1,L 9 8,b .neq 10 7 9] (d 10 (r [o 4 (.mv F)] .ret) .skip)) (q (r [o 5 (.mv (i 0))] (.block 0 (.loop (q (r [m 11 5,m 12 0,L 13 12,b .lss 14 11 13] (d 14 .skip (.exit 0))) (q (.block 1 (q (.bM [m 17 0,m 18 5,j 1 19 17 18,v 20 19,m 21 1,m 22 5,j 1 23 21 22,v 24 23,b .neq 25 20 24] []) (d 25 (r [o 4 (.mv F)] .ret) .skip))) (.bW [m 15 5,h .add 16 15 1,m 5 16])))))) (r [o 4 (.mv W)] .ret)))⟩
theorem c29:aq Tryz.prog Tryz.f29=some QZ:=by kernel_rfl
def UJ:AF:=⟨0,18,[.cells 0 3],r [o 0 (.alloc [z,y,y])] (r [c 3 65 [i 0,i 0],o 1 (.alloc [z,z,z,y]),s (.st 4 (.t 1) (.t 3))] (r [o 4 (.build [z,z,y,y,y] [(0,(1,i 4))]),o 2 (.alloc [z,z,y,y,y]),s (.st 5 (.t 2) (.t 4))] (q (.bM [o 5 (.build [.string ⟨#[]⟩,z,z] [(0,(1,.k (.string ⟨#[104]⟩))),(1,(1,i 1)),(2,(1,i 1))]),o 6 (.bsl 1 3 [.string ⟨#[]⟩,z,z] [(0,(3,.t 5))]),n 5 7 2,n 4 8 1,n 5 13 2,o 14 (.bsl 1 5 [z,z,y,y,y] [(0,(5,.t 13))]),c 9 67 [i 1],o 10 (.bsl 2 4 [z,z,z,y,z,z,z,y] [(0,(4,.t 8)),(4,(4,.t 9))]),c 11 66 [i 13,.t 10],o 12 (.bsl 1 4 [z,z,z,y] [(0,(4,.t 11))]),o 15 (.build [z,z,y,y,y] [(0,(1,i 1)),(2,(1,.t 12)),(3,(1,.t 14))]),o 16 (.bsl 2 5 [z,z,y,y,y,z,z,y,y,y] [(0,(5,.t 7)),(5,(5,.t 15))]),o 17 (.build [z,y,y] [(0,(1,i 1)),(1,(1,.t 6)),(2,(1,.t 16))]),s (.st 3 (.t 0) (.t 17))] [(1,(1,6)),(1,(1,8)),(0,(2,6)),(0,(2,8)),(0,(3,6)),(0,(4,6)),(0,(4,8)),(1,(5,6)),(1,(5,8))]) .ret)))⟩
theorem c36:aq Tryz.prog Tryz.f36=some UJ:=by kernel_rfl
def a37:AF:=⟨1,12,[.tmp 2],r [B 1 0,o 2 (.mv (i 0))] (q (r [n 3 6 1,c 7 68 [.t 6],m 5 7,e 8 5 0,e 9 5 1,o 3 (.alloc [z,z]),s (.st 2 (.t 3) (.t 8)),m 4 9] (r [m 10 4,U 11 10] (d 11 (r [o 2 (.mv (i 30))] .ret) .skip))) (r [o 2 (.mv (i 0))] .ret))⟩
theorem c37:aq Tryz.prog Tryz.f37=some a37:=by kernel_rfl
def UK:AF:=⟨2,12,[.tmp 4],r [B 2 0,B 3 1,o 4 (.mv (i 0))] (q (r [n 3 5 2,c 6 37 [.t 5],h .neq 7 6 0] (d 7 (r [o 4 (.mv (i 30))] .ret) .skip)) (q (r [n 3 8 2,n 2 9 3,c 10 69 [.t 8,.t 9],U 11 10] (d 11 (r [o 4 (.mv (i 50))] .ret) .skip)) (r [o 4 (.mv (i 0))] .ret)))⟩
theorem c38:aq Tryz.prog Tryz.f38=some UK:=by kernel_rfl
def UL:AF:=⟨4,76,[.tmp 8,.tmp 9],r [B 4 0,o 8 (.mv (.k (.slice none 0 0))),o 9 (.mv (i 0))] (r [o 10 (.mv (.k (.slice none 0 0)))] (r [o 16 (.bsl 1 1 [y] [(0,(1,.k (.slice none 0 0)))]),m 11 16] (q (.block 0 (.loop (q (r [m 17 11,L 18 17,h .gtr 19 18 0] (d 19 .skip (.exit 0))) (.block 1 (r [m 20 11,m 21 11,L 22 21,h .sub 23 22 1,j 1 24 20 23,v 25 24,m 12 25] (r [m 26 11,m 27 11,L 28 27,h .sub 29 28 1,o 30 (.sl 1 (.t 26) none (some (.t 29)) none),m 11 30] (r [n 3 32 4,m 33 1,m 34 2,m 35 12,o 36 (.build [y,y] [(0,(1,.t 34)),(1,(1,.t 35))]),c 37 47 [.t 32,.t 33,.t 36],m 31 37,e 38 31 0,e 39 31 1,o 13 (.alloc [z,y,y,y,z,z,z]),s (.st 7 (.t 13) (.t 38)),m 14 39] (q (r [f 0 40 13,v 41 40,h .neq 42 41 4] (d 42 (q (r [m 43 10,L 44 43,m 45 3,b .eql 46 44 45] (d 46 (r [o 8 (.mv (.k (.slice none 0 0))),o 9 (.mv (i 5))] .ret) .skip)) (r [m 47 10,m 48 2,c 49 70 [.t 48],m 50 12,c 51 70 [.t 50],o 52 (.build [y,y] [(0,(1,.t 49)),(1,(1,.t 51))]),o 53 (.bsl 1 2 [y,y] [(0,(2,.t 52))]),o 54 (.app 2 48 (.t 47) (.t 53)),m 10 54] (.exit 1))) .skip)) (q (r [m 55 12,L 56 55,h .eql 57 56 16] (d 57 (r [o 8 (.mv (.k (.slice none 0 0))),o 9 (.mv (i 5))] .ret) .skip)) (r [f 0 58 4,v 59 58,o 60 (.jU .u64 (.t 59)),o 61 (.bin .shl (i 1) (.t 60)),h .sub 62 61 1,m 15 62] (.block 2 (.loop (q (r [m 63 15,h .geq 64 63 0] (d 64 .skip (.exit 2))) (q (.block 3 (.bW [m 67 11,m 68 12,c 69 70 [.t 68],m 70 15,o 71 (.bsl 1 1 [z] [(0,(1,.t 70))]),o 72 (.app 1 8 (.t 69) (.t 71)),o 73 (.bsl 1 1 [y] [(0,(1,.t 72))]),o 74 (.app 1 24 (.t 67) (.t 73)),m 11 74])) (.bW [m 65 15,h .sub 66 65 1,m 15 66]))))))))))))))) (r [m 75 10,m 8 75,o 9 (.mv (i 0))] .ret))))⟩
theorem c39:aq Tryz.prog Tryz.f39=some UL:=by kernel_rfl
def UM:AF:=⟨2,17,[.tmp 4],r [B 2 0,B 3 1,o 4 (.mv F)] (r [f 0 5 2,v 6 5,f 0 7 3,v 8 7,c 9 29 [.t 6,.t 8],m 10 9,og 10 true 11 (.fa 1 (.t 2)),og 10 true 12 (.ld (.t 11)),og 10 true 13 (.fa 1 (.t 3)),og 10 true 14 (.ld (.t 13)),og 10 true 15 (.call 29 [.t 12,.t 14]),p 16 10 15,m 4 16] .ret)⟩
theorem c44:aq Tryz.prog Tryz.f44=some UM:=by kernel_rfl
def UN:AF:=⟨1,20,[.tmp 2,.tmp 3],r [B 1 0,o 2 (.mv (i 0)),o 3 (.mv (i 0))] (q (r [n 3 4 1,c 5 37 [.t 4],h .neq 6 5 0] (d 6 (r [o 2 (.mv (i 0)),o 3 (.mv (i 30))] .ret) .skip)) (q (q (.bM [f 0 7 1,v 8 7,n 3 9 1,c 10 76 [.t 9],b .mul 11 8 10,h .gtr 12 11 60] [(0,(1,3))]) (d 12 (r [o 2 (.mv (i 0)),o 3 (.mv (i 5))] .ret) .skip)) (q (.bM [f 0 13 1,v 14 13,n 3 15 1,c 16 76 [.t 15],b .mul 17 14 16,o 18 (.jU .u64 (.t 17)),o 19 (.bin .shl (i 1) (.t 18)),m 2 19,o 3 (.mv (i 0))] [(0,(1,3))]) .ret)))⟩
theorem c45:aq Tryz.prog Tryz.f45=some UN:=by kernel_rfl
def a46:AF:=⟨2,45,[.tmp 4,.tmp 5],r [B 2 0,o 4 (.mv (.k (.slice none 0 0))),o 5 (.mv (i 0))] (r [n 3 10 2,c 11 45 [.t 10],m 9 11,e 12 9 0,e 13 9 1,m 6 12,m 7 13] (q (r [m 14 7,h .neq 15 14 0] (d 15 (r [m 16 7,o 4 (.mv (.k (.slice none 0 0))),m 5 16] .ret) .skip)) (q (r [m 17 1,h .lss 18 17 0,m 19 18,N 19 20 1,N 19 21 6,og 19 false 22 (.bin .geq (.t 20) (.t 21)),P 23 19 22] (d 23 (r [o 4 (.mv (.k (.slice none 0 0))),o 5 (.mv (i 1))] .ret) .skip)) (r [o 8 (.mv (.k (.slice none 0 0)))] (q (r [n 3 24 2,c 25 76 [.t 24],o 26 (.mv (i 0))] (.block 0 (.loop (r [b .lss 27 26 25] (q (d 27 .skip (.exit 0)) (q (.block 1 (r [m 28 8,m 29 1,f 0 30 2,v 31 30,o 32 (.jU .u64 (.t 31)),o 33 (.bin .shl (i 1) (.t 32)),h .sub 34 33 1,b .and 35 29 34,o 36 (.bsl 1 1 [z] [(0,(1,.t 35))]),o 37 (.app 1 8 (.t 28) (.t 36)),m 8 37] (.bW [m 38 1,f 0 39 2,v 40 39,o 41 (.jU .u64 (.t 40)),b .shr 42 38 41,m 1 42]))) (.bW [h .add 43 26 1,m 26 43]))))))) (r [m 44 8,m 4 44,o 5 (.mv (i 0))] .ret))))))⟩
theorem c46:aq Tryz.prog Tryz.f46=some a46:=by kernel_rfl
def UO:AF:=⟨3,31,[.cells 6 7,.tmp 7],r [B 3 0,B 5 2,o 6 (.alloc [z,y,y,y,z,z,z]),o 7 (.mv (i 0))] (r [n 3 13 3,m 14 1,n 2 15 5,c 16 77 [.t 13,.t 14,.t 15],m 12 16,e 17 12 0,e 18 12 1,m 8 17,m 9 18] (q (r [m 19 9,h .neq 20 19 0] (d 20 (r [o 21 (.build [z,y,y,y,z,z,z] []),m 22 9,s (.st 7 (.t 6) (.t 21)),m 7 22] .ret) .skip)) (q (.block 0 (.loop (q (r [m 23 8,c 24 78 [.t 23]] (d 24 .skip (.exit 0))) (.block 1 .skip)))) (r [m 26 8,c 27 79 [.t 26],m 25 27,e 28 25 0,e 29 25 1,o 10 (.alloc [z,y,y,y,z,z,z]),s (.st 7 (.t 10) (.t 28)),m 11 29] (r [n 7 30 10,s (.st 7 (.t 6) (.t 30)),o 7 (.mv (i 0))] .ret)))))⟩
theorem c47:aq Tryz.prog Tryz.f47=some UO:=by kernel_rfl
def a51:AF:=⟨3,77,[.tmp 6],r [B 5 2,o 6 (.mv (.k (.string ⟨#[]⟩)))] (r [o 7 (.xt .mr [])] (r [o 13 (.mkf 82 [] [.t 7]),m 8 13] (q (r [m 14 1,h .and 15 14 8,h .neq 16 15 0] (d 16 (.bW [f 0 17 5,v 18 17,c 19 84 [.t 18],o 20 (.bin .add (.k (.string ⟨#[101]⟩)) (.t 19)),o 21 (.bin .add (.t 20) (.k (.string ⟨#[59]⟩))),c 22 83 [.t 7,.t 21]]) .skip)) (q (r [m 23 1,h .and 24 23 1,h .neq 25 24 0] (d 25 (q (.bW [o 26 (.call 83 [.t 7,.k (.string ⟨#[111]⟩)])]) (q (r [m 27 0,f 2 28 5,v 29 28,c 30 85 [.t 27,.t 29],L 31 30,o 32 (.mv (i 0))] (.block 0 (.loop (r [b .lss 33 32 31] (q (d 33 .skip (.exit 0)) (q (.block 1 (r [j 2 34 30 32,n 2 35 34,o 10 (.alloc [z,z]),s (.st 2 (.t 10) (.t 35))] (.bW [m 36 8,f 0 37 10,v 38 37,f 1 39 10,v 40 39,o 41 (.bsl 2 1 [z,z] [(0,(1,.t 38)),(1,(1,.t 40))]),o 42 (.callv (.t 36) [.t 41])]))) (.bW [h .add 43 32 1,m 32 43]))))))) (.bW [o 44 (.call 83 [.t 7,.k (.string ⟨#[59]⟩)])]))) .skip)) (q (r [m 45 1,h .and 46 45 2,h .neq 47 46 0] (d 47 (q (.bW [o 48 (.call 83 [.t 7,.k (.string ⟨#[116]⟩)])]) (q (r [f 3 49 5,v 50 49,L 51 50,o 52 (.mv (i 0))] (.block 2 (.loop (r [b .lss 53 52 51] (q (d 53 .skip (.exit 2)) (q (.block 3 (r [j 3 54 50 52,n 3 55 54,o 12 (.alloc [z,z,z]),s (.st 3 (.t 12) (.t 55))] (.bW [m 56 8,f 0 57 12,v 58 57,f 1 59 12,v 60 59,f 2 61 12,v 62 61,o 63 (.bsl 3 1 [z,z,z] [(0,(1,.t 58)),(1,(1,.t 60)),(2,(1,.t 62))]),o 64 (.callv (.t 56) [.t 63])]))) (.bW [h .add 65 52 1,m 52 65]))))))) (.bW [o 66 (.call 83 [.t 7,.k (.string ⟨#[59]⟩)])]))) .skip)) (q (r [m 67 1,h .and 68 67 4,h .neq 69 68 0] (d 69 (.bW [f 4 70 5,v 71 70,c 72 84 [.t 71],o 73 (.bin .add (.k (.string ⟨#[99]⟩)) (.t 72)),o 74 (.bin .add (.t 73) (.k (.string ⟨#[59]⟩))),c 75 83 [.t 7,.t 74]]) .skip)) (r [c 76 86 [.t 7],m 6 76] .ret)))))))⟩
theorem c51:aq Tryz.prog Tryz.f51=some a51:=by kernel_rfl
def UQ:AF:=⟨2,10,[.tmp 4],r [o 4 (.mv F)] (r [m 5 0,m 6 1,b .quo 7 5 6,h .rem 8 7 2,h .eql 9 8 1,m 4 9] .ret)⟩
theorem c52:aq Tryz.prog Tryz.f52=some UQ:=by kernel_rfl
def a53:AF:=⟨1,42,[.tmp 2],r [o 2 (.mv (.k (.string ⟨#[]⟩)))] (q (r [m 3 0,h .lss 4 3 0,m 5 4,M 5 6 0,og 5 true 7 (.bin .gtr (.t 6) (i (-10))),p 8 5 7] (d 8 (r [m 9 0,o 10 (.bin .sub (i 48) (.t 9)),o 11 (.jU .i32 (.t 10)),o 12 (.Cp (.t 11)),o 13 (.bin .add (.k (.string ⟨#[45]⟩)) (.t 12)),m 2 13] .ret) .skip)) (q (r [m 14 0,h .lss 15 14 0] (d 15 (r [m 16 0,h .quo 17 16 10,o 18 (.un .neg (.t 17)),c 19 53 [.t 18],o 20 (.bin .add (.k (.string ⟨#[45]⟩)) (.t 19)),m 21 0,h .rem 22 21 10,o 23 (.bin .sub (i 48) (.t 22)),o 24 (.jU .i32 (.t 23)),o 25 (.Cp (.t 24)),b .add 26 20 25,m 2 26] .ret) .skip)) (q (r [m 27 0,h .lss 28 27 10] (d 28 (r [m 29 0,o 30 (.bin .add (i 48) (.t 29)),o 31 (.jU .i32 (.t 30)),o 32 (.Cp (.t 31)),m 2 32] .ret) .skip)) (r [m 33 0,h .quo 34 33 10,c 35 53 [.t 34],m 36 0,h .rem 37 36 10,o 38 (.bin .add (i 48) (.t 37)),o 39 (.jU .i32 (.t 38)),o 40 (.Cp (.t 39)),b .add 41 35 40,m 2 41] .ret))))⟩
theorem c53:aq Tryz.prog Tryz.f53=some a53:=by kernel_rfl
def UR:AF:=⟨2,28,[.tmp 4],r [o 4 (.mv (.k (.slice none 0 0)))] (r [o 5 (.mv (.k (.slice none 0 0)))] (q (r [o 6 (.mv (i 0))] (.block 0 (.loop (q (r [m 7 6,m 8 1,L 9 8,b .lss 10 7 9] (d 10 .skip (.exit 0))) (q (.block 1 (r [m 13 0,m 14 1,m 15 6,j 2 16 14 15,f 0 17 16,v 18 17,c 19 87 [.t 13,.t 18]] (d 19 (.bW [m 20 5,m 21 1,m 22 6,j 2 23 21 22,n 2 24 23,o 25 (.bsl 1 2 [z,z] [(0,(2,.t 24))]),o 26 (.app 2 16 (.t 20) (.t 25)),m 5 26]) .skip))) (.bW [m 11 6,h .add 12 11 1,m 6 12])))))) (r [m 27 5,m 4 27] .ret)))⟩
theorem c54:aq Tryz.prog Tryz.f54=some UR:=by kernel_rfl
def US:AF:=⟨2,8,[.cells 4 4],r [o 4 (.alloc [z,z,z,y])] (r [m 5 0,m 6 1,o 7 (.build [z,z,z,y] [(0,(1,i 1)),(1,(1,.t 5)),(2,(1,.t 6))]),s (.st 4 (.t 4) (.t 7))] .ret)⟩
theorem c65:aq Tryz.prog Tryz.f65=some US:=by kernel_rfl
def UT:AF:=⟨2,8,[.cells 4 4],r [o 4 (.alloc [z,z,z,y])] (r [m 5 0,m 6 1,o 7 (.build [z,z,z,y] [(0,(1,.t 5)),(3,(1,.t 6))]),s (.st 4 (.t 4) (.t 7))] .ret)⟩
theorem c66:aq Tryz.prog Tryz.f66=some UT:=by kernel_rfl
def UU:AF:=⟨1,5,[.cells 2 4],r [o 2 (.alloc [z,z,z,y])] (r [m 3 0,o 4 (.build [z,z,z,y] [(0,(1,i 0)),(1,(1,.t 3))]),s (.st 4 (.t 2) (.t 4))] .ret)⟩
theorem c67:aq Tryz.prog Tryz.f67=some UU:=by kernel_rfl
def UW:AF:=⟨1,18,[.cells 2 2,.tmp 3],r [B 1 0,o 2 (.alloc [z,z]),o 3 (.mv F)] (q (r [f 0 4 1,v 5 4,f 1 6 1,v 7 6,c 8 96 [.t 5,.t 7],h .neq 9 8 0] (d 9 (r [o 10 (.build [z,z] []),s (.st 2 (.t 2) (.t 10)),o 3 (.mv F)] .ret) .skip)) (q (r [n 3 11 1,f 2 12 1,v 13 12,c 14 97 [.t 2,.t 11,.t 13,i 1],U 15 14] (d 15 (r [o 16 (.build [z,z] []),s (.st 2 (.t 2) (.t 16)),o 3 (.mv F)] .ret) .skip)) (r [n 2 17 2,s (.st 2 (.t 2) (.t 17)),o 3 (.mv W)] .ret)))⟩
theorem c68:aq Tryz.prog Tryz.f68=some UW:=by kernel_rfl
def UX:AF:=⟨2,55,[.tmp 4],r [B 2 0,B 3 1,o 4 (.mv F)] (r [o 5 (.mv (i 0))] (q (r [f 1 10 2,v 11 10,L 12 11,o 13 (.mv (i 0))] (.block 0 (.loop (r [b .lss 14 13 12] (q (d 14 .skip (.exit 0)) (q (.block 1 (q (.bW [j 3 15 11 13,n 3 16 15,o 7 (.alloc [.string ⟨#[]⟩,z,z]),s (.st 3 (.t 7) (.t 16))]) (.bW [m 17 5,f 2 18 7,v 19 18,b .add 20 17 19,m 5 20]))) (.bW [h .add 21 13 1,m 13 21]))))))) (q (r [f 0 22 3,v 23 22,L 24 23,m 25 5,b .neq 26 24 25,m 27 26,og 27 false 28 (.fa 1 (.t 3)),og 27 false 29 (.ld (.t 28)),og 27 false 30 (.jn (.t 29)),og 27 false 31 (.bin .gtr (.t 30) (i 16)),P 32 27 31] (d 32 (r [o 4 (.mv F)] .ret) .skip)) (q (q (.bM [f 0 33 3,v 34 33,f 1 36 3,v 37 36,o 40 (.mv (i 0)),c 35 70 [.t 34],o 38 (.app 1 8 (.t 35) (.t 37)),L 39 38] [(0,(3,5))]) (.block 2 (.loop (r [b .lss 41 40 39] (q (d 41 .skip (.exit 2)) (q (.block 3 (r [j 1 42 38 40,v 43 42,m 9 43] (r [m 44 9,h .lss 45 44 0,m 46 45,N 46 47 9,og 46 false 48 (.fa 0 (.t 2)),og 46 false 49 (.ld (.t 48)),og 46 false 50 (.jU .u64 (.t 49)),og 46 false 51 (.bin .shl (i 1) (.t 50)),og 46 false 52 (.bin .geq (.t 47) (.t 51)),P 53 46 52] (d 53 (r [o 4 (.mv F)] .ret) .skip)))) (.bW [h .add 54 40 1,m 40 54]))))))) (r [o 4 (.mv W)] .ret)))))⟩
theorem c69:aq Tryz.prog Tryz.f69=some UX:=by kernel_rfl
def a70:AF:=⟨1,8,[.tmp 2],r [o 2 (.mv (.k (.slice none 0 0)))] (q (r [m 3 0,o 4 (.eqk 2 false (.t 3) (.k (.slice none 0 0)))] (d 4 (r [o 2 (.mv (.k (.slice none 0 0)))] .ret) .skip)) (r [o 5 (.bsl 0 1 [] []),m 6 0,o 7 (.app 1 8 (.t 5) (.t 6)),m 2 7] .ret))⟩
theorem c70:aq Tryz.prog Tryz.f70=some a70:=by kernel_rfl
def a76:AF:=⟨1,19,[.tmp 2],r [B 1 0,o 2 (.mv (i 0))] (r [o 3 (.mv (i 0))] (q (r [f 1 6 1,v 7 6,L 8 7,o 9 (.mv (i 0))] (.block 0 (.loop (r [b .lss 10 9 8] (q (d 10 .skip (.exit 0)) (q (.block 1 (q (.bW [j 3 11 7 9,n 3 12 11,o 5 (.alloc [.string ⟨#[]⟩,z,z]),s (.st 3 (.t 5) (.t 12))]) (.bW [m 13 3,f 2 14 5,v 15 14,b .add 16 13 15,m 3 16]))) (.bW [h .add 17 9 1,m 9 17]))))))) (r [m 18 3,m 2 18] .ret)))⟩
theorem c76:aq Tryz.prog Tryz.f76=some a76:=by kernel_rfl
def UY:AF:=⟨3,81,[.tmp 6,.tmp 7],r [B 3 0,B 5 2,o 6 (.mv (.k (.pointer none))),o 7 (.mv (i 0))] (q (r [n 3 11 3,c 12 37 [.t 11],h .neq 13 12 0] (d 13 (r [o 6 (.mv (.k (.pointer none))),o 7 (.mv (i 30))] .ret) .skip)) (q (r [m 14 1,h .lss 15 14 0,m 16 15,N 16 17 1,og 16 false 18 (.bin .gtr (.t 17) (i 4096)),P 19 16 18] (d 19 (r [o 6 (.mv (.k (.pointer none))),o 7 (.mv (i 1))] .ret) .skip)) (q (r [n 3 20 3,n 2 21 5,c 22 69 [.t 20,.t 21],U 23 22] (d 23 (r [o 6 (.mv (.k (.pointer none))),o 7 (.mv (i 50))] .ret) .skip)) (q (.bM [n 3 24 3,m 25 1,f 1 26 5,v 27 26,c 28 70 [.t 27],o 29 (.build [y,z,y,y,z,y,z,y,y,y,z,z,z,.bool false] [(1,(3,.t 24)),(4,(1,.t 25)),(5,(1,.t 28))]),B 30 29,m 8 30] [(0,(0,4))]) (r [m 31 8,f 1 32 3,v 33 32,c 34 103 [.t 33],o 35 (.aU (.t 31)),f 1 36 35,f 1 37 36,s (.st 1 (.t 37) (.t 34))] (r [m 38 8,o 39 (.aU (.t 38)),f 1 40 39,f 2 41 40,s (.st 1 (.t 41) (.k (.slice none 0 0)))] (q (r [f 2 42 3,v 43 42,L 44 43,o 45 (.mv (i 0))] (.block 0 (.loop (r [b .lss 46 45 44] (q (d 46 .skip (.exit 0)) (q (.block 1 (r [j 5 47 43 45,n 5 48 47,o 10 (.alloc [z,z,y,y,y]),s (.st 5 (.t 10) (.t 48))] (.bM [m 49 8,o 50 (.aU (.t 49)),f 1 51 50,f 2 52 51,v 53 52,n 5 54 10,L 56 53,o 57 (.bsl 1 5 [z,z,y,y,y] [(0,(5,.k (.agg #[z,z,y,y,y])))]),c 55 104 [.t 54],o 58 (.app 5 88 (.t 53) (.t 57)),j 5 59 58 56,o 60 (.aU (.t 49)),f 1 61 60,f 2 62 61,s (.st 5 (.t 59) (.t 55)),s (.st 1 (.t 62) (.t 58))] [(0,(4,8)),(1,(7,8)),(2,(14,15))]))) (.bW [h .add 63 45 1,m 45 63]))))))) (r [m 64 8,f 0 65 5,v 66 65,c 67 70 [.t 66],o 68 (.aU (.t 64)),f 6 69 68,f 1 70 69,s (.st 1 (.t 70) (.t 67))] (q (.bM [m 71 8,o 72 (.aU (.t 71)),f 0 73 72,m 74 8,o 75 (.aU (.t 74)),f 1 76 75,f 2 77 76,v 78 77,c 79 105 [.t 73,.t 78,i 0]] []) (r [m 80 8,m 6 80,o 7 (.mv (i 0))] .ret))))))))))⟩
theorem c77:aq Tryz.prog Tryz.f77=some UY:=by kernel_rfl
def Pj:AF:=⟨1,71,[.tmp 2],r [o 2 (.mv F)] (q (r [m 7 0,o 8 (.eqk 1 false (.t 7) (.k (.pointer none))),m 9 8,N 9 10 0,og 9 false 11 (.aU (.t 10)),og 9 false 12 (.fa 13 (.t 11)),og 9 false 13 (.ld (.t 12)),P 14 9 13] (d 14 (r [o 2 (.mv F)] .ret) .skip)) (r [m 16 0,o 17 (.aU (.t 16)),f 0 18 17,c 19 106 [.t 18],m 15 19,e 20 15 0,e 21 15 1,e 22 15 2,o 3 (.alloc [z,z,y,y,y]),s (.st 5 (.t 3) (.t 20)),m 4 21,m 5 22] (q (r [m 23 5,U 24 23] (d 24 (r [o 2 (.mv F)] .ret) .skip)) (q (r [m 25 0,o 26 (.aU (.t 25)),f 4 27 26,v 28 27,h .eql 29 28 0] (d 29 (r [m 30 0,m 31 4,c 32 107 [.t 30,i 3,.t 31],m 2 32] .ret) .skip)) (r [m 33 0,o 34 (.aU (.t 33)),f 4 35 34,v 36 35,h .sub 37 36 1,o 38 (.aU (.t 33)),f 4 39 38,s (.st 1 (.t 39) (.t 37))] (r [m 40 0,o 41 (.aU (.t 40)),f 6 42 41,f 4 43 42,v 44 43,h .add 45 44 1,o 46 (.aU (.t 40)),f 6 47 46,f 4 48 47,s (.st 1 (.t 48) (.t 45))] (r [m 49 0,o 50 (.mkf 108 [.t 49] []),m 51 0,o 52 (.mkf 109 [.t 51] []),m 53 0,o 54 (.mkf 110 [.t 53] []),m 55 0,o 56 (.mkf 111 [.t 55] []),m 57 0,o 58 (.mkf 112 [.t 57] []),m 59 0,o 60 (.mkf 113 [.t 59] []),m 61 0,o 62 (.mkf 114 [.t 61] []),o 63 (.build [.nilFunc,.nilFunc,.nilFunc,.nilFunc,.nilFunc,.nilFunc,.nilFunc] [(0,(1,.t 50)),(1,(1,.t 52)),(2,(1,.t 54)),(3,(1,.t 56)),(4,(1,.t 58)),(5,(1,.t 60)),(6,(1,.t 62))]),o 6 (.alloc [.nilFunc,.nilFunc,.nilFunc,.nilFunc,.nilFunc,.nilFunc,.nilFunc]),s (.st 7 (.t 6) (.t 63))] (q (.bM [f 0 64 3,v 65 64,o 66 (.oA 7 1 (.t 6) (.t 65)),v 67 66,n 5 68 3,m 69 4,o 70 (.callv (.t 67) [.t 68,.t 69]),m 2 70] []) .ret))))))))⟩
theorem c78:aq Tryz.prog Tryz.f78=some Pj:=by kernel_rfl
def Q5:AF:=⟨1,25,[.cells 2 7,.tmp 3],r [o 2 (.alloc [z,y,y,y,z,z,z]),o 3 (.mv F)] (q (r [m 4 0,o 5 (.eqk 1 false (.t 4) (.k (.pointer none)))] (d 5 (r [o 6 (.build [z,y,y,y,z,z,z] []),s (.st 7 (.t 2) (.t 6)),o 3 (.mv F)] .ret) .skip)) (q (.bM [m 7 0,o 8 (.aU (.t 7)),f 6 9 8,n 7 10 9,m 12 0,o 13 (.aU (.t 12)),f 13 14 13,v 15 14,c 11 115 [.t 10],m 16 15,N 16 17 0,og 16 false 18 (.aU (.t 17)),og 16 false 19 (.fa 0 (.t 18)),og 16 false 20 (.fa 0 (.t 19)),og 16 false 21 (.ld (.t 20)),og 16 false 22 (.jn (.t 21)),og 16 false 23 (.bin .eql (.t 22) (i 0)),P 24 16 23,s (.st 7 (.t 2) (.t 11)),m 3 24] [(0,(7,8)),(2,(14,18))]) .ret))⟩
theorem c79:aq Tryz.prog Tryz.f79=some Q5:=by kernel_rfl
def UZ:AF:=⟨1,13,[.tmp 2],r [o 2 (.mv (i 0))] (r [o 3 (.mv (i 1))] (q (r [o 4 (.mv (i 0))] (.block 0 (.loop (q (r [m 5 4,m 6 0,b .lss 7 5 6] (d 7 .skip (.exit 0))) (q (.block 1 (.bW [m 10 3,o 11 (.bin .mul (i 2) (.t 10)),m 3 11])) (.bW [m 8 4,h .add 9 8 1,m 4 9])))))) (r [m 12 3,m 2 12] .ret)))⟩
theorem c81:aq Tryz.prog Tryz.f81=some UZ:=by kernel_rfl
def U0:AF:=⟨2,21,[],r [m 5 0,L 6 5,o 7 (.mv (i 0))] (.block 0 (.loop (r [b .lss 8 7 6] (q (d 8 .skip (.exit 0)) (q (.block 1 (r [m 9 7,j 1 10 5 7,v 11 10,m 3 9,m 4 11] (q (.bW [o 12 (.bsl 3 1 [.string ⟨#[]⟩,.string ⟨#[]⟩,.string ⟨#[]⟩] [(0,(1,.k (.string ⟨#[32]⟩))),(1,(1,.k (.string ⟨#[58]⟩))),(2,(1,.k (.string ⟨#[58]⟩)))]),m 13 3,j 1 14 12 13,v 15 14,c 16 83 [.t 1,.t 15]]) (.bW [m 17 4,c 18 84 [.t 17],c 19 83 [.t 1,.t 18]])))) (.bW [h .add 20 7 1,m 7 20]))))))⟩
theorem c82:aq Tryz.prog Tryz.f82=some U0:=by kernel_rfl
def a83:AF:=⟨2,19,[.tmp 4,.tmp 5],r [o 4 (.mv (i 0)),o 5 (.mv (.k .nilIface))] (r [m 6 0,c 7 116 [.t 6]] (r [m 8 0,m 9 0,o 10 (.aU (.t 9)),f 1 11 10,v 12 11,m 13 1,o 14 (.xt .bad []),o 15 (.aU (.t 8)),f 1 16 15,s (.st 1 (.t 16) (.t 14))] (r [m 17 1,o 18 (.lens (.t 17)),m 4 18,o 5 (.mv (.k .nilIface))] .ret)))⟩
theorem c83:aq Tryz.prog Tryz.f83=some a83:=by kernel_rfl
def a84:AF:=⟨1,5,[.tmp 2],r [o 2 (.mv (.k (.string ⟨#[]⟩)))] (r [m 3 0,c 4 117 [.t 3],m 2 4] .ret)⟩
theorem c84:aq Tryz.prog Tryz.f84=some a84:=by kernel_rfl
def a85:AF:=⟨2,24,[.tmp 4],r [o 4 (.mv (.k (.slice none 0 0)))] (r [o 5 (.mv (.k (.slice none 0 0)))] (q (r [m 8 1,L 9 8,o 10 (.mv (i 0))] (.block 0 (.loop (r [b .lss 11 10 9] (q (d 11 .skip (.exit 0)) (q (.block 1 (r [j 2 12 8 10,n 2 13 12,o 7 (.alloc [z,z]),s (.st 2 (.t 7) (.t 13))] (r [m 14 0,f 0 15 7,v 16 15,c 17 118 [.t 14,.t 16]] (d 17 (.bW [m 18 5,n 2 19 7,o 20 (.bsl 1 2 [z,z] [(0,(2,.t 19))]),o 21 (.app 2 16 (.t 18) (.t 20)),m 5 21]) .skip)))) (.bW [h .add 22 10 1,m 10 22]))))))) (r [m 23 5,m 4 23] .ret)))⟩
theorem c85:aq Tryz.prog Tryz.f85=some a85:=by kernel_rfl
def a86:AF:=⟨1,14,[.tmp 2],r [o 2 (.mv (.k (.string ⟨#[]⟩)))] (q (.bM [m 3 0,o 4 (.aU (.t 3)),f 1 5 4,v 6 5,m 8 0,o 9 (.aU (.t 8)),f 1 10 9,v 11 10,L 12 11,o 7 (.xt .bad []),o 13 (.xt .bad []),m 2 13] [(0,(7,9))]) .ret)⟩
theorem c86:aq Tryz.prog Tryz.f86=some a86:=by kernel_rfl
def a87:AF:=⟨2,23,[.tmp 4],r [o 4 (.mv F)] (q (r [m 6 1,h .lss 7 6 0,m 8 7,N 8 9 1,og 8 false 10 (.bin .gtr (.t 9) (i 15)),P 11 8 10] (d 11 (r [o 4 (.mv F)] .ret) .skip)) (q (r [o 5 (.mv (i 0))] (.block 0 (.loop (q (r [m 12 5,h .lss 13 12 4] (d 13 .skip (.exit 0))) (q (.block 1 (r [m 16 1,m 17 5,c 18 119 [.t 16,.t 17],m 19 0,m 20 5,c 21 119 [.t 19,.t 20],b .gtr 22 18 21] (d 22 (r [o 4 (.mv F)] .ret) .skip))) (.bW [m 14 5,h .add 15 14 1,m 5 15])))))) (r [o 4 (.mv W)] .ret)))⟩
theorem c87:aq Tryz.prog Tryz.f87=some a87:=by kernel_rfl
def U1:AF:=⟨2,72,[.tmp 4],r [o 4 (.mv (i 0))] (q (r [m 9 0,h .lss 10 9 1,m 11 10,N 11 12 0,og 11 false 13 (.bin .gtr (.t 12) (i 8)),P 14 11 13,m 15 14,N 15 16 1,og 15 false 17 (.jn (.t 16)),og 15 false 18 (.bin .lss (.t 17) (i 1)),P 19 15 18,m 20 19,N 20 21 1,og 20 false 22 (.jn (.t 21)),og 20 false 23 (.bin .gtr (.t 22) (i 18)),P 24 20 23] (d 24 (r [o 4 (.mv (i 1))] .ret) .skip)) (r [o 25 .mkmap,m 5 25] (r [o 6 (.mv (i 0))] (q (r [m 26 1,L 27 26,o 28 (.mv (i 0))] (.block 0 (.loop (r [b .lss 29 28 27] (q (d 29 .skip (.exit 0)) (q (.block 1 (q (.bW [j 3 30 26 28,n 3 31 30,o 8 (.alloc [.string ⟨#[]⟩,z,z]),s (.st 3 (.t 8) (.t 31))]) (q (r [f 0 32 8,v 33 32,c 34 129 [.t 33],U 35 34,m 36 35,N 36 37 5,og 36 false 38 (.fa 0 (.t 8)),og 36 false 39 (.ld (.t 38)),og 36 false 40 (.look 1 (.bool false) (.t 37) (.t 39) false),P 41 36 40,m 42 41,og 42 false 43 (.fa 1 (.t 8)),og 42 false 44 (.ld (.t 43)),og 42 false 45 (.bin .lss (.t 44) (i 0)),P 46 42 45,m 47 46,og 47 false 48 (.fa 1 (.t 8)),og 47 false 49 (.ld (.t 48)),og 47 false 50 (.bin .gtr (.t 49) (i 47)),P 51 47 50,m 52 51,og 52 false 53 (.fa 2 (.t 8)),og 52 false 54 (.ld (.t 53)),og 52 false 55 (.bin .lss (.t 54) (i 1)),P 56 52 55,m 57 56,og 57 false 58 (.fa 2 (.t 8)),og 57 false 59 (.ld (.t 58)),og 57 false 60 (.bin .gtr (.t 59) (i 8)),P 61 57 60] (d 61 (r [o 4 (.mv (i 1))] .ret) .skip)) (r [m 62 5,f 0 63 8,v 64 63,s (.nu 1 (.t 62) (.t 64) W)] (.bW [m 65 6,f 2 66 8,v 67 66,b .add 68 65 67,m 6 68]))))) (.bW [h .add 69 28 1,m 28 69]))))))) (q (r [m 70 6,h .gtr 71 70 48] (d 71 (r [o 4 (.mv (i 1))] .ret) .skip)) (r [o 4 (.mv (i 0))] .ret))))))⟩
theorem c96:aq Tryz.prog Tryz.f96=some U1:=by kernel_rfl
def Kz:AF:=⟨4,127,[.tmp 8],r [B 5 1,o 8 (.mv F)] (q (r [m 13 2,L 14 13,h .gtr 15 14 0,m 16 15,M 16 17 3,og 16 true 18 (.bin .gtr (.t 17) (i 16)),p 19 16 18] (d 19 (r [o 8 (.mv F)] .ret) .skip)) (q (r [m 20 2,L 21 20,o 22 (.mv (i 0))] (.block 0 (.loop (r [b .lss 23 22 21] (q (d 23 .skip (.exit 0)) (q (.block 1 (r [j 5 24 20 22,n 5 25 24,o 10 (.alloc [z,z,y,y,y]),s (.st 5 (.t 10) (.t 25))] (r [m 26 0,o 27 (.aU (.t 26)),f 0 28 27,v 29 28,h .add 30 29 1,o 31 (.aU (.t 26)),f 0 32 31,s (.st 1 (.t 32) (.t 30))] (r [m 33 0,o 34 (.aU (.t 33)),f 1 35 34,v 36 35,h .add 37 36 1,o 38 (.aU (.t 33)),f 1 39 38,s (.st 1 (.t 39) (.t 37))] (q (q (.bM [m 40 0,o 41 (.aU (.t 40)),f 1 42 41,v 43 42,h .gtr 44 43 400,m 45 44,og 45 false 46 (.ldn 3 (.t 5)),og 45 false 47 (.ldn 5 (.t 10)),og 45 false 49 (.fa 2 (.t 10)),og 45 false 50 (.ld (.t 49)),og 45 false 51 (.jn (.t 50)),og 45 false 48 (.call 130 [.t 46,.t 47]),og 45 false 52 (.bin .neq (.t 48) (.t 51)),P 53 45 52] [(0,(9,11))]) (d 53 (r [o 8 (.mv F)] .ret) .skip)) (q (r [f 3 54 10,v 55 54,L 56 55,h .gtr 57 56 0,m 58 57,og 58 true 59 (.fa 0 (.t 10)),og 58 true 60 (.ld (.t 59)),og 58 true 61 (.bin .neq (.t 60) (i 1)),p 62 58 61,m 63 62,og 63 true 64 (.fa 0 (.t 10)),og 63 true 65 (.ld (.t 64)),og 63 true 66 (.bin .neq (.t 65) (i 2)),p 67 63 66,m 68 67,og 68 false 69 (.fa 4 (.t 10)),og 68 false 70 (.ld (.t 69)),og 68 false 71 (.jn (.t 70)),og 68 false 72 (.bin .gtr (.t 71) (i 0)),N 68 73 72,og 73 true 74 (.fa 0 (.t 10)),og 73 true 75 (.ld (.t 74)),og 73 true 76 (.bin .neq (.t 75) (i 1)),og 68 false 77 (.pick (.t 73) (.t 76) F),P 78 68 77] (d 78 (r [o 8 (.mv F)] .ret) .skip)) (q (r [f 2 79 10,v 80 79,L 81 80,o 82 (.mv (i 0))] (.block 2 (.loop (r [b .lss 83 82 81] (q (d 83 .skip (.exit 2)) (q (.block 3 (r [j 4 84 80 82,n 4 85 84,o 12 (.alloc [z,z,z,y]),s (.st 4 (.t 12) (.t 85))] (q (r [f 0 86 5,v 87 86,f 1 88 5,v 89 88,n 4 90 12,c 91 131 [.t 87,.t 89,i 1,.t 90],h .neq 92 91 0] (d 92 (r [o 8 (.mv F)] .ret) .skip)) (.bM [m 93 0,o 94 (.aU (.t 93)),f 1 95 94,v 96 95,n 4 97 12,c 98 132 [.t 97],b .add 99 96 98,o 100 (.aU (.t 93)),f 1 101 100,s (.st 1 (.t 101) (.t 99))] [(0,(3,5))])))) (.bW [h .add 102 82 1,m 82 102]))))))) (r [m 103 0,n 3 104 5,f 3 105 10,v 106 105,m 107 3,h .add 108 107 1,c 109 97 [.t 103,.t 104,.t 106,.t 108],U 110 109,m 111 110,N 111 112 0,og 111 false 113 (.ldn 3 (.t 5)),og 111 false 114 (.fa 4 (.t 10)),og 111 false 115 (.ld (.t 114)),N 111 116 3,og 111 false 117 (.bin .add (.t 116) (i 1)),og 111 false 118 (.call 97 [.t 112,.t 113,.t 115,.t 117]),og 111 false 119 (.un .not (.t 118)),P 120 111 119] (d 120 (r [o 8 (.mv F)] .ret) .skip))))))))) (.bW [h .add 121 22 1,m 22 121]))))))) (r [m 122 0,o 123 (.aU (.t 122)),f 1 124 123,v 125 124,h .leq 126 125 400,m 8 126] .ret)))⟩
theorem c97:aq Tryz.prog Tryz.f97=some Kz:=by kernel_rfl
def Q6:AF:=⟨1,8,[.tmp 2],r [o 2 (.mv (.k (.slice none 0 0)))] (q (r [m 3 0,o 4 (.eqk 2 false (.t 3) (.k (.slice none 0 0)))] (d 4 (r [o 2 (.mv (.k (.slice none 0 0)))] .ret) .skip)) (r [o 5 (.bsl 0 3 [] []),m 6 0,o 7 (.app 3 32 (.t 5) (.t 6)),m 2 7] .ret))⟩
theorem Yl:aq Tryz.prog Tryz.f103=some Q6:=by kernel_rfl
def HE:AF:=⟨1,44,[.cells 2 5],r [B 1 0,o 2 (.alloc [z,z,y,y,y])] (r [f 2 9 1,v 10 9,c 11 140 [.t 10],f 2 12 1,s (.st 1 (.t 12) (.t 11))] (r [o 3 (.mv (.k (.slice none 0 0))),o 4 (.mv (.k (.slice none 0 0)))] (q (r [f 3 13 1,v 14 13,L 15 14,o 16 (.mv (i 0))] (.block 0 (.loop (r [b .lss 17 16 15] (q (d 17 .skip (.exit 0)) (q (.block 1 (r [j 5 18 14 16,n 5 19 18,o 6 (.alloc [z,z,y,y,y]),s (.st 5 (.t 6) (.t 19))] (.bW [m 20 3,n 5 21 6,c 22 104 [.t 21],o 23 (.bsl 1 5 [z,z,y,y,y] [(0,(5,.t 22))]),o 24 (.app 5 88 (.t 20) (.t 23)),m 3 24]))) (.bW [h .add 25 16 1,m 16 25]))))))) (q (r [f 4 26 1,v 27 26,L 28 27,o 29 (.mv (i 0))] (.block 2 (.loop (r [b .lss 30 29 28] (q (d 30 .skip (.exit 2)) (q (.block 3 (r [j 5 31 27 29,n 5 32 31,o 8 (.alloc [z,z,y,y,y]),s (.st 5 (.t 8) (.t 32))] (.bW [m 33 4,n 5 34 8,c 35 104 [.t 34],o 36 (.bsl 1 5 [z,z,y,y,y] [(0,(5,.t 35))]),o 37 (.app 5 88 (.t 33) (.t 36)),m 4 37]))) (.bW [h .add 38 29 1,m 29 38]))))))) (r [m 39 3,m 40 4,f 3 41 1,s (.st 1 (.t 41) (.t 39)),f 4 42 1,s (.st 1 (.t 42) (.t 40))] (r [n 5 43 1,s (.st 5 (.t 2) (.t 43))] .ret))))))⟩
theorem Ym:aq Tryz.prog Tryz.f104=some HE:=by kernel_rfl
def a105:AF:=⟨3,21,[],r [m 6 1,L 7 6,h .gtr 8 7 0] (d 8 (.bW [m 9 0,m 10 0,o 11 (.aU (.t 10)),f 0 12 11,v 13 12,m 14 1,m 15 2,o 16 (.build [y,z] [(0,(1,.t 14)),(1,(1,.t 15))]),o 17 (.bsl 1 2 [y,z] [(0,(2,.t 16))]),o 18 (.app 2 32 (.t 13) (.t 17)),o 19 (.aU (.t 9)),f 0 20 19,s (.st 1 (.t 20) (.t 18))]) .skip)⟩
theorem Yn:aq Tryz.prog Tryz.f105=some a105:=by kernel_rfl
def AZ:AF:=⟨1,31,[.cells 2 5,.tmp 3,.tmp 4],r [o 2 (.alloc [z,z,y,y,y]),o 3 (.mv (i 0)),o 4 (.mv F)] (q (r [m 6 0,o 7 (.aU (.t 6)),f 0 8 7,v 9 8,L 10 9,h .eql 11 10 0] (d 11 (r [o 12 (.build [z,z,y,y,y] []),s (.st 5 (.t 2) (.t 12)),o 3 (.mv (i 0)),o 4 (.mv F)] .ret) .skip)) (q (.bM [m 13 0,o 14 (.aU (.t 13)),f 0 15 14,v 16 15,m 17 0,o 18 (.aU (.t 17)),f 0 19 18,v 20 19,L 21 20,h .sub 22 21 1,j 2 23 16 22,n 2 24 23,o 5 (.alloc [y,z]),s (.st 2 (.t 5) (.t 24))] []) (q (.bM [f 0 25 5,v 26 25,o 27 (.ia 5 (.t 26) (i 0)),n 5 28 27,f 1 29 5,v 30 29,s (.st 5 (.t 2) (.t 28)),m 3 30,o 4 (.mv W)] [(2,(5,6))]) .ret)))⟩
theorem Yo:aq Tryz.prog Tryz.f106=some AZ:=by kernel_rfl
def a107:AF:=⟨3,20,[.tmp 6],r [o 6 (.mv F)] (r [m 7 0,m 8 0,m 9 0,m 10 1,m 11 2,o 12 (.aU (.t 7)),f 13 13 12,s (.st 1 (.t 13) W),o 14 (.aU (.t 8)),f 6 15 14,f 0 16 15,s (.st 1 (.t 16) (.t 10)),o 17 (.aU (.t 9)),f 6 18 17,f 6 19 18,s (.st 1 (.t 19) (.t 11))] (r [o 6 (.mv F)] .ret))⟩
theorem Yp:aq Tryz.prog Tryz.f107=some a107:=by kernel_rfl
def Dq:AF:=⟨3,32,[.tmp 6],r [B 4 1,o 6 (.mv F)] (r [m 9 0,n 5 10 4,c 11 141 [.t 9,.t 10],m 7 11] (r [m 12 0,f 2 13 4,v 14 13,f 2 15 4,v 16 15,L 17 16,h .sub 18 17 1,j 4 19 14 18,n 4 20 19,c 21 142 [.t 12,.t 20],m 8 21] (r [m 22 0,o 23 (.aU (.t 22)),f 0 24 23,c 25 143 [.t 24]] (r [m 26 0,f 1 27 4,v 28 27,m 29 7,m 30 8,c 31 144 [.t 26,.t 28,.t 29,.t 30]] (r [o 6 (.mv W)] .ret)))))⟩
theorem Yq:aq Tryz.prog Tryz.f108=some Dq:=by kernel_rfl
def a109:AF:=⟨3,37,[.tmp 6],r [B 4 1,o 6 (.mv F)] (r [m 8 0,n 5 9 4,m 10 2,c 11 145 [.t 8,.t 9,.t 10],m 7 11] (r [m 12 0,o 13 (.aU (.t 12)),f 0 14 13,c 15 143 [.t 14]] (q (r [m 16 7] (d 16 (.bM [m 17 0,o 18 (.aU (.t 17)),f 0 19 18,f 3 20 4,v 21 20,m 22 2,h .add 23 22 1,c 24 105 [.t 19,.t 21,.t 23]] []) (.bM [m 25 0,o 26 (.aU (.t 25)),f 0 27 26,f 4 28 4,v 29 28,m 30 2,h .add 31 30 1,f 3 32 4,v 33 32,c 34 146 [.t 33],b .add 35 31 34,c 36 105 [.t 27,.t 29,.t 35]] [(0,(4,9))]))) (r [o 6 (.mv W)] .ret))))⟩
theorem Yr:aq Tryz.prog Tryz.f109=some a109:=by kernel_rfl
def HF:AF:=⟨3,23,[.tmp 6],r [B 4 1,o 6 (.mv F)] (q (r [m 7 0,n 5 8 4,m 9 2,c 10 145 [.t 7,.t 8,.t 9]] (d 10 (.bM [m 11 0,o 12 (.aU (.t 11)),f 0 13 12,f 3 14 4,v 15 14,m 16 2,h .add 17 16 1,c 18 105 [.t 13,.t 15,.t 17]] []) (.bW [m 19 0,o 20 (.aU (.t 19)),f 0 21 20,c 22 143 [.t 21]]))) (r [o 6 (.mv W)] .ret))⟩
theorem Ys:aq Tryz.prog Tryz.f110=some HF:=by kernel_rfl
def HG:AF:=⟨3,31,[.tmp 6],r [B 4 1,o 6 (.mv F)] (q (.bM [m 7 0,m 8 0,o 9 (.aU (.t 8)),f 6 10 9,f 2 11 10,v 12 11,f 1 13 4,v 14 13,m 15 0,f 2 16 4,v 17 16,o 18 (.ia 4 (.t 17) (i 0)),n 4 19 18,c 20 142 [.t 15,.t 19],o 21 (.build [z,z] [(0,(1,.t 14)),(1,(1,.t 20))]),o 22 (.bsl 1 2 [z,z] [(0,(2,.t 21))]),o 23 (.app 2 16 (.t 12) (.t 22)),o 24 (.aU (.t 7)),f 6 25 24,f 2 26 25,s (.st 1 (.t 26) (.t 23))] [(0,(5,13)),(0,(7,13))]) (r [m 27 0,o 28 (.aU (.t 27)),f 0 29 28,c 30 143 [.t 29]] (r [o 6 (.mv W)] .ret)))⟩
theorem Yt:aq Tryz.prog Tryz.f111=some HG:=by kernel_rfl
def Dr:AF:=⟨3,55,[.tmp 6],r [B 4 1,o 6 (.mv F)] (r [m 8 0,n 5 9 4,c 10 141 [.t 8,.t 9],m 7 10] (q (q (.bM [m 11 0,o 12 (.aU (.t 11)),f 6 13 12,f 5 14 13,v 15 14,m 16 0,o 17 (.aU (.t 16)),f 5 18 17,v 19 18,L 20 19,b .eql 21 15 20] []) (d 21 (r [m 22 0,m 23 2,c 24 107 [.t 22,i 4,.t 23],m 6 24] .ret) .skip)) (r [m 25 0,o 26 (.aU (.t 25)),f 0 27 26,c 28 143 [.t 27]] (r [m 29 0,o 30 (.aU (.t 29)),f 6 31 30,f 5 32 31,v 33 32,h .add 34 33 1,o 35 (.aU (.t 29)),f 6 36 35,f 5 37 36,s (.st 1 (.t 37) (.t 34))] (q (.bM [m 38 0,f 1 39 4,v 40 39,m 41 7,m 42 0,o 43 (.aU (.t 42)),f 5 44 43,v 45 44,m 46 0,o 47 (.aU (.t 46)),f 6 48 47,f 5 49 48,v 50 49,h .sub 51 50 1,j 1 52 45 51,v 53 52,c 54 144 [.t 38,.t 40,.t 41,.t 53]] []) (r [o 6 (.mv W)] .ret))))))⟩
theorem Yu:aq Tryz.prog Tryz.f112=some Dr:=by kernel_rfl
def Q7:AF:=⟨3,21,[.tmp 6],r [B 4 1,o 6 (.mv F)] (q (r [m 7 0,f 2 8 4,v 9 8,o 10 (.ia 4 (.t 9) (i 0)),n 4 11 10,c 12 142 [.t 7,.t 11],h .eql 13 12 0] (d 13 (r [m 14 0,m 15 2,c 16 107 [.t 14,i 1,.t 15],m 6 16] .ret) .skip)) (r [m 17 0,o 18 (.aU (.t 17)),f 0 19 18,c 20 143 [.t 19]] (r [o 6 (.mv W)] .ret)))⟩
theorem Yv:aq Tryz.prog Tryz.f113=some Q7:=by kernel_rfl
def Q8:AF:=⟨3,21,[.tmp 6],r [B 4 1,o 6 (.mv F)] (q (r [m 7 0,f 2 8 4,v 9 8,o 10 (.ia 4 (.t 9) (i 0)),n 4 11 10,c 12 142 [.t 7,.t 11],h .eql 13 12 0] (d 13 (r [m 14 0,m 15 2,c 16 107 [.t 14,i 2,.t 15],m 6 16] .ret) .skip)) (r [m 17 0,o 18 (.aU (.t 17)),f 0 19 18,c 20 143 [.t 19]] (r [o 6 (.mv W)] .ret)))⟩
theorem Yw:aq Tryz.prog Tryz.f114=some Q8:=by kernel_rfl
def HI:AF:=⟨1,16,[.cells 2 7],r [B 1 0,o 2 (.alloc [z,y,y,y,z,z,z])] (q (.bM [f 1 3 1,v 4 3,f 2 6 1,v 7 6,f 3 9 1,v 10 9,c 5 70 [.t 4],f 1 12 1,c 8 147 [.t 7],c 11 148 [.t 10],s (.st 1 (.t 12) (.t 5)),f 2 13 1,s (.st 1 (.t 13) (.t 8)),f 3 14 1,s (.st 1 (.t 14) (.t 11))] [(0,(3,6)),(0,(5,6)),(0,(5,8))]) (r [n 7 15 1,s (.st 7 (.t 2) (.t 15))] .ret))⟩
theorem Yx:aq Tryz.prog Tryz.f115=some HI:=by kernel_rfl
def a116:AF:=⟨1,20,[],r [m 2 0,o 3 (.aU (.t 2)),f 0 4 3,v 5 4,o 6 (.eqk 1 false (.t 5) (.k (.pointer none)))] (d 6 (.bW [m 7 0,m 8 0,o 9 (.xt .bad []),c 10 149 [.t 9],o 11 (.xt .bad []),o 12 (.aU (.t 7)),f 0 13 12,s (.st 1 (.t 13) (.t 11))]) (r [m 14 0,o 15 (.aU (.t 14)),f 0 16 15,v 17 16,m 18 0,o 19 (.eqk 1 true (.t 17) (.t 18))] (d 19 (.cond (i 0) .skip .skip) .skip)))⟩
theorem Yy:aq Tryz.prog Tryz.f116=some a116:=by kernel_rfl
def a117:AF:=⟨1,5,[.tmp 2],r [o 2 (.mv (.k (.string ⟨#[]⟩)))] (r [m 3 0,c 4 150 [.t 3,i 10],m 2 4] .ret)⟩
theorem Yz:aq Tryz.prog Tryz.f117=some a117:=by kernel_rfl
def A0:AF:=⟨2,17,[.tmp 4],r [o 4 (.mv F)] (r [m 5 1,h .geq 6 5 0,m 7 6,M 7 8 1,og 7 true 9 (.bin .leq (.t 8) (i 15)),p 10 7 9,m 11 10,M 11 12 1,M 11 13 0,og 11 true 14 (.bin .andNot (.t 12) (.t 13)),og 11 true 15 (.bin .eql (.t 14) (i 0)),p 16 11 15,m 4 16] .ret)⟩
theorem YA:aq Tryz.prog Tryz.f118=some A0:=by kernel_rfl
def a119:AF:=⟨2,10,[.tmp 4],r [o 4 (.mv (i 0))] (r [m 5 0,m 6 1,c 7 81 [.t 6],b .quo 8 5 7,h .rem 9 8 2,m 4 9] .ret)⟩
theorem YB:aq Tryz.prog Tryz.f119=some a119:=by kernel_rfl
def Ds:AF:=⟨1,45,[.tmp 2],r [o 2 (.mv F)] (q (r [m 4 0,o 5 (.bin .eql (.t 4) (.k (.string ⟨#[]⟩))),m 6 5,N 6 7 0,og 6 false 8 (.lens (.t 7)),og 6 false 9 (.bin .gtr (.t 8) (i 12)),P 10 6 9,m 11 10,N 11 12 0,og 11 false 13 (.ix (.t 12) (i 0)),og 11 false 14 (.bin .lss (.t 13) (.k (.int .u8 97))),P 15 11 14,m 16 15,N 16 17 0,og 16 false 18 (.ix (.t 17) (i 0)),og 16 false 19 (.bin .gtr (.t 18) (.k (.int .u8 122))),P 20 16 19] (d 20 (r [o 2 (.mv F)] .ret) .skip)) (q (r [o 3 (.mv (i 0))] (.block 0 (.loop (q (r [m 21 3,m 22 0,o 23 (.lens (.t 22)),b .lss 24 21 23] (d 24 .skip (.exit 0))) (q (.block 1 (r [m 27 0,m 28 3,o 29 (.ix (.t 27) (.t 28)),c 30 154 [.t 29],U 31 30] (d 31 (r [o 2 (.mv F)] .ret) .skip))) (.bW [m 25 3,h .add 26 25 1,m 3 26])))))) (q (r [m 32 0] (.block 2 (q (r [o 34 (.bin .eql (.t 32) (.k (.string ⟨#[119,105,100,116,104]⟩))),m 33 34] (d 33 .skip (r [o 35 (.bin .eql (.t 32) (.k (.string ⟨#[118,97,114]⟩))),m 33 35] (d 33 .skip (r [o 36 (.bin .eql (.t 32) (.k (.string ⟨#[105,102]⟩))),m 33 36] (d 33 .skip (r [o 37 (.bin .eql (.t 32) (.k (.string ⟨#[101,108,115,101]⟩))),m 33 37] (d 33 .skip (r [o 38 (.bin .eql (.t 32) (.k (.string ⟨#[119,104,105,108,101]⟩))),m 33 38] (d 33 .skip (r [o 39 (.bin .eql (.t 32) (.k (.string ⟨#[111,117,116]⟩))),m 33 39] (d 33 .skip (r [o 40 (.bin .eql (.t 32) (.k (.string ⟨#[112,105,99,107]⟩))),m 33 40] (d 33 .skip (r [o 41 (.bin .eql (.t 32) (.k (.string ⟨#[110,101,101,100]⟩))),m 33 41] (d 33 .skip (r [o 42 (.bin .eql (.t 32) (.k (.string ⟨#[109,117,115,116]⟩))),m 33 42] (d 33 .skip (r [o 43 (.bin .eql (.t 32) (.k (.string ⟨#[108,101,118,101,108]⟩))),m 33 43] (d 33 .skip (.bW [o 44 (.bin .eql (.t 32) (.k (.string ⟨#[115,101,101,115]⟩))),m 33 44]))))))))))))))))))))) (d 33 (r [o 2 (.mv F)] .ret) .skip)))) (r [o 2 (.mv W)] .ret))))⟩
theorem YC:aq Tryz.prog Tryz.f129=some Ds:=by kernel_rfl
def a130:AF:=⟨2,60,[.tmp 4],r [B 2 0,B 3 1,o 4 (.mv (i 0))] (r [o 5 (.mv (i 0))] (q (r [f 1 7 3,v 8 7,h .geq 9 8 0,m 10 9,og 10 true 11 (.fa 1 (.t 3)),og 10 true 12 (.ld (.t 11)),og 10 true 13 (.fa 1 (.t 2)),og 10 true 14 (.ld (.t 13)),og 10 true 15 (.jn (.t 14)),og 10 true 16 (.bin .lss (.t 12) (.t 15)),p 17 10 16] (d 17 (.bW [f 1 18 2,v 19 18,f 1 20 3,v 21 20,j 3 22 19 21,f 2 23 22,v 24 23,m 5 24]) .skip)) (q (r [f 0 25 3,v 26 25] (.block 0 (q (r [h .eql 28 26 0,m 27 28] (d 27 .skip (.bW [h .eql 29 26 4,m 27 29]))) (d 27 (r [o 6 (.mv (i 0))] (q (r [f 0 30 3,v 31 30,h .eql 32 31 0] (d 32 (.bW [o 6 (.mv (i 1))]) .skip)) (q (.block 1 (r [m 34 5,h .eql 35 34 0,m 33 35] (d 33 (r [o 4 (.mv (i (-1)))] .ret) (r [m 37 5,h .gtr 38 37 1,m 36 38] (d 36 (r [m 39 6,h .add 40 39 1,m 4 40] .ret) .skip))))) (r [m 41 6,m 4 41] .ret)))) (r [h .eql 43 26 3,m 42 43] (d 42 (q (r [f 1 44 3,v 45 44,h .lss 46 45 0,m 47 46,og 47 false 48 (.fa 1 (.t 3)),og 47 false 49 (.ld (.t 48)),og 47 false 50 (.bin .gtr (.t 49) (i 47)),P 51 47 50] (d 51 (r [o 4 (.mv (i (-1)))] .ret) .skip)) (r [o 4 (.mv (i 1))] .ret)) (q (r [h .eql 53 26 1,m 52 53] (d 52 .skip (r [h .eql 54 26 2,m 52 54] (d 52 .skip (r [h .eql 55 26 5,m 52 55] (d 52 .skip (.bW [h .eql 56 26 6,m 52 56]))))))) (d 52 (q (r [f 1 57 3,v 58 57,h .neq 59 58 0] (d 59 (r [o 4 (.mv (i (-1)))] .ret) .skip)) (r [o 4 (.mv (i 1))] .ret)) .skip)))))))) (r [o 4 (.mv (i (-1)))] .ret))))⟩
theorem YD:aq Tryz.prog Tryz.f130=some a130:=by kernel_rfl
def a131:AF:=⟨4,15,[.tmp 8],r [B 7 3,o 8 (.mv (i 0))] (r [m 9 0,m 10 1,m 11 2,o 12 (.build [z,y,z] [(0,(1,.t 9)),(1,(1,.t 10)),(2,(1,.t 11))]),n 4 13 7,c 14 155 [.t 12,.t 13],m 8 14] .ret)⟩
theorem YE:aq Tryz.prog Tryz.f131=some a131:=by kernel_rfl
def HJ:AF:=⟨1,19,[.tmp 2],r [B 1 0,o 2 (.mv (i 0))] (r [o 3 (.mv (i 1))] (q (r [f 3 6 1,v 7 6,L 8 7,o 9 (.mv (i 0))] (.block 0 (.loop (r [b .lss 10 9 8] (q (d 10 .skip (.exit 0)) (q (.block 1 (r [j 4 11 7 9,n 4 12 11,o 5 (.alloc [z,z,z,y]),s (.st 4 (.t 5) (.t 12))] (.bW [m 13 3,n 4 14 5,c 15 132 [.t 14],b .add 16 13 15,m 3 16]))) (.bW [h .add 17 9 1,m 9 17]))))))) (r [m 18 3,m 2 18] .ret)))⟩
theorem YF:aq Tryz.prog Tryz.f132=some HJ:=by kernel_rfl
def HK:AF:=⟨1,22,[.tmp 2],r [o 2 (.mv (.k (.slice none 0 0)))] (r [o 3 (.mv (.k (.slice none 0 0)))] (q (r [m 6 0,L 7 6,o 8 (.mv (i 0))] (.block 0 (.loop (r [b .lss 9 8 7] (q (d 9 .skip (.exit 0)) (q (.block 1 (r [j 4 10 6 8,n 4 11 10,o 5 (.alloc [z,z,z,y]),s (.st 4 (.t 5) (.t 11))] (r [f 3 12 5,v 13 12,c 14 140 [.t 13],f 3 15 5,s (.st 1 (.t 15) (.t 14))] (.bW [m 16 3,n 4 17 5,o 18 (.bsl 1 4 [z,z,z,y] [(0,(4,.t 17))]),o 19 (.app 4 48 (.t 16) (.t 18)),m 3 19])))) (.bW [h .add 20 8 1,m 8 20]))))))) (r [m 21 3,m 2 21] .ret)))⟩
theorem YG:aq Tryz.prog Tryz.f140=some HK:=by kernel_rfl
def a141:AF:=⟨2,22,[.tmp 4],r [B 3 1,o 4 (.mv (i 0))] (q (q (.bM [m 5 0,o 6 (.aU (.t 5)),f 1 7 6,f 1 8 7,v 9 8,f 1 10 3,v 11 10,j 3 12 9 11,f 2 13 12,v 14 13,h .gtr 15 14 1] []) (d 15 (r [m 16 0,f 2 17 3,v 18 17,o 19 (.ia 4 (.t 18) (i 0)),n 4 20 19,c 21 142 [.t 16,.t 20],m 4 21] .ret) .skip)) (r [o 4 (.mv (i 0))] .ret))⟩
theorem YH:aq Tryz.prog Tryz.f141=some a141:=by kernel_rfl
def HL:AF:=⟨2,35,[.tmp 4],r [B 2 0,B 3 1,o 4 (.mv (i 0))] (q (.bM [v 5 2,o 6 (.aU (.t 5)),f 6 7 6,f 4 8 7,v 9 8,n 4 10 3,c 11 132 [.t 10],b .add 12 9 11,o 13 (.aU (.t 5)),f 6 14 13,f 4 15 14,s (.st 1 (.t 15) (.t 12))] [(0,(0,6)),(0,(4,6))]) (q (.bM [v 16 2,o 17 (.aU (.t 16)),f 1 18 17,f 0 19 18,v 20 19,v 21 2,o 22 (.aU (.t 21)),f 1 23 22,f 1 24 23,v 25 24,v 26 2,o 27 (.aU (.t 26)),f 6 28 27,f 1 29 28,v 30 29,o 31 (.bsl 1 1 [y] [(0,(1,.t 30))]),n 4 32 3,o 33 (.mkf 158 [] [.t 2]),c 34 157 [.t 20,.t 25,.t 31,.t 32,.t 33],m 4 34] []) .ret))⟩
theorem YI:aq Tryz.prog Tryz.f142=some HL:=by kernel_rfl
def a143:AF:=⟨1,56,[],q (.bM [m 3 0,o 4 (.aU (.t 3)),f 0 5 4,v 6 5,m 7 0,o 8 (.aU (.t 7)),f 0 9 8,v 10 9,L 11 10,h .sub 12 11 1,j 2 13 6 12,m 2 13] []) (q (.bM [m 14 2,o 15 (.aU (.t 14)),f 1 16 15,v 17 16,m 18 2,o 19 (.aU (.t 18)),f 0 20 19,v 21 20,o 22 (.ia 5 (.t 21) (i 0)),n 5 23 22,c 24 159 [.t 23],b .add 25 17 24,o 26 (.aU (.t 14)),f 1 27 26,s (.st 1 (.t 27) (.t 25))] [(0,(3,10))]) (r [m 28 2,m 29 2,o 30 (.aU (.t 29)),f 0 31 30,v 32 31,o 33 (.sl 5 (.t 32) (some (i 1)) none none),o 34 (.aU (.t 28)),f 0 35 34,s (.st 1 (.t 35) (.t 33))] (r [m 36 2,o 37 (.aU (.t 36)),f 0 38 37,v 39 38,L 40 39,h .eql 41 40 0] (d 41 (.bM [m 42 0,m 43 0,o 44 (.aU (.t 43)),f 0 45 44,v 46 45,m 47 0,o 48 (.aU (.t 47)),f 0 49 48,v 50 49,L 51 50,h .sub 52 51 1,o 53 (.sl 2 (.t 46) none (some (.t 52)) none),o 54 (.aU (.t 42)),f 0 55 54,s (.st 1 (.t 55) (.t 53))] []) .skip))))⟩
theorem YJ:aq Tryz.prog Tryz.f143=some a143:=by kernel_rfl
def A7:AF:=⟨4,68,[],r [m 12 0,o 13 (.aU (.t 12)),f 1 14 13,f 1 15 14,v 16 15,m 17 1,j 3 18 16 17,f 2 19 18,v 20 19,m 8 20] (q (r [m 21 8,h .gtr 22 21 1] (d 22 (.bM [m 23 0,m 24 0,o 25 (.aU (.t 24)),f 6 26 25,f 3 27 26,v 28 27,m 29 1,m 30 2,m 31 8,b .rem 32 30 31,o 33 (.build [z,z,z] [(0,(1,i 2)),(1,(1,.t 29)),(2,(1,.t 32))]),o 34 (.bsl 1 3 [z,z,z] [(0,(3,.t 33))]),o 35 (.app 3 24 (.t 28) (.t 34)),o 36 (.aU (.t 23)),f 6 37 36,f 3 38 37,s (.st 1 (.t 38) (.t 35))] []) .skip)) (r [o 9 (.mv (i 0))] (q (r [m 39 0,o 40 (.aU (.t 39)),f 1 41 40,f 1 42 41,v 43 42,m 44 1,o 45 (.sl 3 (.t 43) none (some (.t 44)) none),L 46 45,o 47 (.mv (i 0))] (.block 0 (.loop (r [b .lss 48 47 46] (q (d 48 .skip (.exit 0)) (q (.block 1 (q (.bW [j 3 49 45 47,n 3 50 49,o 11 (.alloc [.string ⟨#[]⟩,z,z]),s (.st 3 (.t 11) (.t 50))]) (.bW [m 51 9,f 2 52 11,v 53 52,b .add 54 51 53,m 9 54]))) (.bW [h .add 55 47 1,m 47 55]))))))) (.bM [m 56 0,o 57 (.aU (.t 56)),f 6 58 57,f 1 59 58,v 60 59,m 61 9,m 62 2,m 63 8,b .rem 64 62 63,b .add 65 61 64,m 66 3,j 1 67 60 65,s (.st 1 (.t 67) (.t 66))] []))))⟩
theorem YK:aq Tryz.prog Tryz.f144=some A7:=by kernel_rfl
def a145:AF:=⟨3,32,[.tmp 6],r [B 4 1,o 6 (.mv F)] (r [m 9 0,f 2 10 4,v 11 10,o 12 (.ia 4 (.t 11) (i 0)),n 4 13 12,c 14 142 [.t 9,.t 13],h .neq 15 14 0,m 7 15,o 8 (.mv (i 0))] (q (r [m 16 7] (d 16 (.bW [o 8 (.mv (i 1))]) .skip)) (r [m 17 0,m 18 0,o 19 (.aU (.t 18)),f 6 20 19,f 3 21 20,v 22 21,m 23 2,m 24 8,o 25 (.build [z,z,z] [(0,(1,i 0)),(1,(1,.t 23)),(2,(1,.t 24))]),o 26 (.bsl 1 3 [z,z,z] [(0,(3,.t 25))]),o 27 (.app 3 24 (.t 22) (.t 26)),o 28 (.aU (.t 17)),f 6 29 28,f 3 30 29,s (.st 1 (.t 30) (.t 27))] (r [m 31 7,m 6 31] .ret))))⟩
theorem YL:aq Tryz.prog Tryz.f145=some a145:=by kernel_rfl
def a146:AF:=⟨1,18,[.tmp 2],r [o 2 (.mv (i 0))] (r [o 3 (.mv (i 0))] (q (r [m 6 0,L 7 6,o 8 (.mv (i 0))] (.block 0 (.loop (r [b .lss 9 8 7] (q (d 9 .skip (.exit 0)) (q (.block 1 (r [j 5 10 6 8,n 5 11 10,o 5 (.alloc [z,z,y,y,y]),s (.st 5 (.t 5) (.t 11))] (.bW [m 12 3,n 5 13 5,c 14 159 [.t 13],b .add 15 12 14,m 3 15]))) (.bW [h .add 16 8 1,m 8 16]))))))) (r [m 17 3,m 2 17] .ret)))⟩
theorem YM:aq Tryz.prog Tryz.f146=some a146:=by kernel_rfl
def Q9:AF:=⟨1,8,[.tmp 2],r [o 2 (.mv (.k (.slice none 0 0)))] (q (r [m 3 0,o 4 (.eqk 2 false (.t 3) (.k (.slice none 0 0)))] (d 4 (r [o 2 (.mv (.k (.slice none 0 0)))] .ret) .skip)) (r [o 5 (.bsl 0 2 [] []),m 6 0,o 7 (.app 2 16 (.t 5) (.t 6)),m 2 7] .ret))⟩
theorem YN:aq Tryz.prog Tryz.f147=some Q9:=by kernel_rfl
def a148:AF:=⟨1,8,[.tmp 2],r [o 2 (.mv (.k (.slice none 0 0)))] (q (r [m 3 0,o 4 (.eqk 2 false (.t 3) (.k (.slice none 0 0)))] (d 4 (r [o 2 (.mv (.k (.slice none 0 0)))] .ret) .skip)) (r [o 5 (.bsl 0 3 [] []),m 6 0,o 7 (.app 3 24 (.t 5) (.t 6)),m 2 7] .ret))⟩
theorem YO:aq Tryz.prog Tryz.f148=some a148:=by kernel_rfl
def Ra:AF:=⟨2,54,[.tmp 4],r [o 4 (.mv (.k (.string ⟨#[]⟩)))] (q (r [m 10 1,h .eql 11 10 10] (d 11 (q (r [m 12 0,o 13 (.bin .leq (i 0) (.t 12)),m 14 13,M 14 15 0,og 14 true 16 (.bin .lss (.t 15) (i 100)),p 17 14 16] (d 17 (r [m 18 0,c 19 160 [.t 18],m 4 19] .ret) .skip)) (r [o 5 (.alloc [.int .u8 0,.int .u8 0,.int .u8 0,.int .u8 0,.int .u8 0,.int .u8 0,.int .u8 0,.int .u8 0,.int .u8 0,.int .u8 0,.int .u8 0,.int .u8 0,.int .u8 0,.int .u8 0,.int .u8 0,.int .u8 0,.int .u8 0,.int .u8 0,.int .u8 0,.int .u8 0,.int .u8 0,.int .u8 0,.int .u8 0,.int .u8 0])] (r [m 20 0,o 21 (.jU .u64 (.t 20)),m 6 21] (q (r [m 22 0,h .lss 23 22 0] (d 23 (.bW [m 24 6,o 25 (.un .neg (.t 24)),m 6 25]) .skip)) (r [m 26 6,c 27 161 [.t 26],m 7 27] (r [m 28 7,o 29 (.bin .add (i 1) (.t 28)),o 30 (.xt .bad []),m 31 6,c 32 162 [.t 30,.t 31]] (q (r [m 33 0,h .lss 34 33 0] (d 34 (r [o 35 (.oA 24 1 (.t 5) (i 0)),s (.st 1 (.t 35) (.k (.int .u8 45)))] (r [m 36 7,o 37 (.bin .add (i 1) (.t 36)),o 38 (.xt .bad []),o 39 (.xt .bad []),m 4 39] .ret)) .skip)) (r [m 40 7,o 41 (.bin .add (i 1) (.t 40)),o 42 (.xt .bad []),o 43 (.xt .bad []),m 4 43] .ret)))))))) .skip)) (r [m 45 0,o 46 (.jU .u64 (.t 45)),m 47 1,m 48 0,h .lss 49 48 0,c 50 163 [.k (.slice none 0 0),.t 46,.t 47,.t 49,F],m 44 50,e 51 44 0,e 52 44 1,m 8 51,m 9 52] (r [m 53 9,m 4 53] .ret)))⟩
theorem YP:aq Tryz.prog Tryz.f150=some Ra:=by kernel_rfl
def a154:AF:=⟨1,21,[.tmp 2],r [o 2 (.mv F)] (r [m 3 0,o 4 (.bin .geq (.t 3) (.k (.int .u8 97))),m 5 4,M 5 6 0,og 5 true 7 (.bin .leq (.t 6) (.k (.int .u8 122))),p 8 5 7,m 9 8,N 9 10 0,og 9 false 11 (.bin .geq (.t 10) (.k (.int .u8 48))),N 9 12 11,M 12 13 0,og 12 true 14 (.bin .leq (.t 13) (.k (.int .u8 57))),og 9 false 15 (.pick (.t 12) (.t 14) F),P 16 9 15,m 17 16,N 17 18 0,og 17 false 19 (.bin .eql (.t 18) (.k (.int .u8 95))),P 20 17 19,m 2 20] .ret)⟩
theorem YQ:aq Tryz.prog Tryz.f154=some a154:=by kernel_rfl
def HM:AF:=⟨2,26,[.tmp 4],r [B 2 0,B 3 1,o 4 (.mv (i 0))] (q (r [f 0 6 2,v 7 6,f 1 8 2,v 9 8,c 10 96 [.t 7,.t 9],h .neq 11 10 0,m 12 11,og 12 false 13 (.fa 2 (.t 2)),og 12 false 14 (.ld (.t 13)),og 12 false 15 (.bin .lss (.t 14) (i 1)),P 16 12 15,m 17 16,og 17 false 18 (.fa 2 (.t 2)),og 17 false 19 (.ld (.t 18)),og 17 false 20 (.bin .gtr (.t 19) (i 3)),P 21 17 20] (d 21 (r [o 4 (.mv (i 1))] .ret) .skip)) (r [o 5 (.alloc [z]),s (.st 1 (.t 5) (i 400))] (q (r [n 3 22 2,n 4 23 3,c 24 166 [.t 22,.t 23,i 1,.t 5],U 25 24] (d 25 (r [o 4 (.mv (i 20))] .ret) .skip)) (r [o 4 (.mv (i 0))] .ret))))⟩
theorem YR:aq Tryz.prog Tryz.f155=some HM:=by kernel_rfl
def a157:AF:=⟨5,20,[.tmp 10],r [B 8 3,o 10 (.mv (i 0))] (r [m 11 0,m 12 1,m 13 2,L 14 13,o 15 (.build [z,y,z] [(0,(1,.t 11)),(1,(1,.t 12)),(2,(1,.t 14))]),m 16 2,n 4 17 8,m 18 4,c 19 168 [.t 15,.t 16,.t 17,.t 18],m 10 19] .ret)⟩
theorem YS:aq Tryz.prog Tryz.f157=some a157:=by kernel_rfl
def HO:AF:=⟨3,19,[],.bM [v 5 2,v 6 2,o 7 (.aU (.t 6)),f 6 8 7,f 3 9 8,v 10 9,m 11 0,m 12 1,o 13 (.build [z,z,z] [(0,(1,i 1)),(1,(1,.t 11)),(2,(1,.t 12))]),o 14 (.bsl 1 3 [z,z,z] [(0,(3,.t 13))]),o 15 (.app 3 24 (.t 10) (.t 14)),o 16 (.aU (.t 5)),f 6 17 16,f 3 18 17,s (.st 1 (.t 18) (.t 15))] [(0,(0,10))]⟩
theorem YT:aq Tryz.prog Tryz.f158=some HO:=by kernel_rfl
def a159:AF:=⟨1,33,[.tmp 2],r [B 1 0,o 2 (.mv (i 0))] (r [o 3 (.mv (i 1))] (q (r [f 3 8 1,v 9 8,L 10 9,o 11 (.mv (i 0))] (.block 0 (.loop (r [b .lss 12 11 10] (q (d 12 .skip (.exit 0)) (q (.block 1 (r [j 5 13 9 11,n 5 14 13,o 5 (.alloc [z,z,y,y,y]),s (.st 5 (.t 5) (.t 14))] (.bW [m 15 3,n 5 16 5,c 17 159 [.t 16],b .add 18 15 17,m 3 18]))) (.bW [h .add 19 11 1,m 11 19]))))))) (q (r [f 4 20 1,v 21 20,L 22 21,o 23 (.mv (i 0))] (.block 2 (.loop (r [b .lss 24 23 22] (q (d 24 .skip (.exit 2)) (q (.block 3 (r [j 5 25 21 23,n 5 26 25,o 7 (.alloc [z,z,y,y,y]),s (.st 5 (.t 7) (.t 26))] (.bW [m 27 3,n 5 28 7,c 29 159 [.t 28],b .add 30 27 29,m 3 30]))) (.bW [h .add 31 23 1,m 23 31]))))))) (r [m 32 3,m 2 32] .ret))))⟩
theorem YU:aq Tryz.prog Tryz.f159=some a159:=by kernel_rfl
def a160:AF:=⟨1,15,[.tmp 2],r [o 2 (.mv (.k (.string ⟨#[]⟩)))] (q (r [m 3 0,h .lss 4 3 10] (d 4 (r [m 5 0,m 6 0,h .add 7 6 1,o 8 (.sl 0 (.k (.string ⟨#[48,49,50,51,52,53,54,55,56,57,97,98,99,100,101,102,103,104,105,106,107,108,109,110,111,112,113,114,115,116,117,118,119,120,121,122]⟩)) (some (.t 5)) (some (.t 7)) none),m 2 8] .ret) .skip)) (r [m 9 0,h .mul 10 9 2,m 11 0,h .mul 12 11 2,h .add 13 12 2,o 14 (.sl 0 (.k (.string ⟨#[48,48,48,49,48,50,48,51,48,52,48,53,48,54,48,55,48,56,48,57,49,48,49,49,49,50,49,51,49,52,49,53,49,54,49,55,49,56,49,57,50,48,50,49,50,50,50,51,50,52,50,53,50,54,50,55,50,56,50,57,51,48,51,49,51,50,51,51,51,52,51,53,51,54,51,55,51,56,51,57,52,48,52,49,52,50,52,51,52,52,52,53,52,54,52,55,52,56,52,57,53,48,53,49,53,50,53,51,53,52,53,53,53,54,53,55,53,56,53,57,54,48,54,49,54,50,54,51,54,52,54,53,54,54,54,55,54,56,54,57,55,48,55,49,55,50,55,51,55,52,55,53,55,54,55,55,55,56,55,57,56,48,56,49,56,50,56,51,56,52,56,53,56,54,56,55,56,56,56,57,57,48,57,49,57,50,57,51,57,52,57,53,57,54,57,55,57,56,57,57]⟩)) (some (.t 10)) (some (.t 13)) none),m 2 14] .ret))⟩
theorem YV:aq Tryz.prog Tryz.f160=some a160:=by kernel_rfl
def Rb:AF:=⟨1,15,[.tmp 2],r [o 2 (.mv (i 0))] (r [m 4 0,c 5 170 [.t 4],c 6 169 [.t 5],m 3 6] (r [m 7 3,m 8 0,m 9 3,o 10 (.xt .bad []),v 11 10,b .geq 12 8 11,c 13 171 [.t 12],b .add 14 7 13,m 2 14] .ret))⟩
theorem YW:aq Tryz.prog Tryz.f161=some Rb:=by kernel_rfl
def a162:AF:=⟨2,167,[],r [m 17 0,L 18 17,m 4 18] (q (.block 0 (.loop (q (r [m 19 4,h .geq 20 19 8] (d 20 .skip (.exit 0))) (.block 1 (r [m 21 1,o 22 (.bin .rem (.t 21) (.k (.int .u64 100000000))),o 23 (.jU .u32 (.t 22)),m 5 23] (r [m 24 1,o 25 (.bin .quo (.t 24) (.k (.int .u64 100000000))),m 1 25] (r [m 26 5,o 27 (.bin .quo (.t 26) (.k (.int .u32 10000))),m 28 5,o 29 (.bin .rem (.t 28) (.k (.int .u32 10000))),m 6 27,m 7 29] (r [m 30 7,o 31 (.bin .quo (.t 30) (.k (.int .u32 100))),o 32 (.bin .mul (.t 31) (.k (.int .u32 2))),m 33 7,o 34 (.bin .rem (.t 33) (.k (.int .u32 100))),o 35 (.bin .mul (.t 34) (.k (.int .u32 2))),m 8 32,m 9 35] (r [m 36 6,o 37 (.bin .quo (.t 36) (.k (.int .u32 100))),o 38 (.bin .mul (.t 37) (.k (.int .u32 2))),m 39 6,o 40 (.bin .rem (.t 39) (.k (.int .u32 100))),o 41 (.bin .mul (.t 40) (.k (.int .u32 2))),m 10 38,m 11 41] (q (.bM [m 42 0,m 43 4,h .sub 44 43 1,m 45 0,m 46 4,h .sub 47 46 2,m 48 9,o 49 (.bin .add (.t 48) (.k (.int .u32 1))),o 50 (.ix (.k (.string ⟨#[48,48,48,49,48,50,48,51,48,52,48,53,48,54,48,55,48,56,48,57,49,48,49,49,49,50,49,51,49,52,49,53,49,54,49,55,49,56,49,57,50,48,50,49,50,50,50,51,50,52,50,53,50,54,50,55,50,56,50,57,51,48,51,49,51,50,51,51,51,52,51,53,51,54,51,55,51,56,51,57,52,48,52,49,52,50,52,51,52,52,52,53,52,54,52,55,52,56,52,57,53,48,53,49,53,50,53,51,53,52,53,53,53,54,53,55,53,56,53,57,54,48,54,49,54,50,54,51,54,52,54,53,54,54,54,55,54,56,54,57,55,48,55,49,55,50,55,51,55,52,55,53,55,54,55,55,55,56,55,57,56,48,56,49,56,50,56,51,56,52,56,53,56,54,56,55,56,56,56,57,57,48,57,49,57,50,57,51,57,52,57,53,57,54,57,55,57,56,57,57]⟩)) (.t 49)),m 51 9,o 52 (.ix (.k (.string ⟨#[48,48,48,49,48,50,48,51,48,52,48,53,48,54,48,55,48,56,48,57,49,48,49,49,49,50,49,51,49,52,49,53,49,54,49,55,49,56,49,57,50,48,50,49,50,50,50,51,50,52,50,53,50,54,50,55,50,56,50,57,51,48,51,49,51,50,51,51,51,52,51,53,51,54,51,55,51,56,51,57,52,48,52,49,52,50,52,51,52,52,52,53,52,54,52,55,52,56,52,57,53,48,53,49,53,50,53,51,53,52,53,53,53,54,53,55,53,56,53,57,54,48,54,49,54,50,54,51,54,52,54,53,54,54,54,55,54,56,54,57,55,48,55,49,55,50,55,51,55,52,55,53,55,54,55,55,55,56,55,57,56,48,56,49,56,50,56,51,56,52,56,53,56,54,56,55,56,56,56,57,57,48,57,49,57,50,57,51,57,52,57,53,57,54,57,55,57,56,57,57]⟩)) (.t 51)),j 1 53 42 44,s (.st 1 (.t 53) (.t 50)),j 1 54 45 47,s (.st 1 (.t 54) (.t 52))] []) (q (.bM [m 55 0,m 56 4,h .sub 57 56 3,m 58 0,m 59 4,h .sub 60 59 4,m 61 8,o 62 (.bin .add (.t 61) (.k (.int .u32 1))),o 63 (.ix (.k (.string ⟨#[48,48,48,49,48,50,48,51,48,52,48,53,48,54,48,55,48,56,48,57,49,48,49,49,49,50,49,51,49,52,49,53,49,54,49,55,49,56,49,57,50,48,50,49,50,50,50,51,50,52,50,53,50,54,50,55,50,56,50,57,51,48,51,49,51,50,51,51,51,52,51,53,51,54,51,55,51,56,51,57,52,48,52,49,52,50,52,51,52,52,52,53,52,54,52,55,52,56,52,57,53,48,53,49,53,50,53,51,53,52,53,53,53,54,53,55,53,56,53,57,54,48,54,49,54,50,54,51,54,52,54,53,54,54,54,55,54,56,54,57,55,48,55,49,55,50,55,51,55,52,55,53,55,54,55,55,55,56,55,57,56,48,56,49,56,50,56,51,56,52,56,53,56,54,56,55,56,56,56,57,57,48,57,49,57,50,57,51,57,52,57,53,57,54,57,55,57,56,57,57]⟩)) (.t 62)),m 64 8,o 65 (.ix (.k (.string ⟨#[48,48,48,49,48,50,48,51,48,52,48,53,48,54,48,55,48,56,48,57,49,48,49,49,49,50,49,51,49,52,49,53,49,54,49,55,49,56,49,57,50,48,50,49,50,50,50,51,50,52,50,53,50,54,50,55,50,56,50,57,51,48,51,49,51,50,51,51,51,52,51,53,51,54,51,55,51,56,51,57,52,48,52,49,52,50,52,51,52,52,52,53,52,54,52,55,52,56,52,57,53,48,53,49,53,50,53,51,53,52,53,53,53,54,53,55,53,56,53,57,54,48,54,49,54,50,54,51,54,52,54,53,54,54,54,55,54,56,54,57,55,48,55,49,55,50,55,51,55,52,55,53,55,54,55,55,55,56,55,57,56,48,56,49,56,50,56,51,56,52,56,53,56,54,56,55,56,56,56,57,57,48,57,49,57,50,57,51,57,52,57,53,57,54,57,55,57,56,57,57]⟩)) (.t 64)),j 1 66 55 57,s (.st 1 (.t 66) (.t 63)),j 1 67 58 60,s (.st 1 (.t 67) (.t 65))] []) (q (.bM [m 68 0,m 69 4,h .sub 70 69 5,m 71 0,m 72 4,h .sub 73 72 6,m 74 11,o 75 (.bin .add (.t 74) (.k (.int .u32 1))),o 76 (.ix (.k (.string ⟨#[48,48,48,49,48,50,48,51,48,52,48,53,48,54,48,55,48,56,48,57,49,48,49,49,49,50,49,51,49,52,49,53,49,54,49,55,49,56,49,57,50,48,50,49,50,50,50,51,50,52,50,53,50,54,50,55,50,56,50,57,51,48,51,49,51,50,51,51,51,52,51,53,51,54,51,55,51,56,51,57,52,48,52,49,52,50,52,51,52,52,52,53,52,54,52,55,52,56,52,57,53,48,53,49,53,50,53,51,53,52,53,53,53,54,53,55,53,56,53,57,54,48,54,49,54,50,54,51,54,52,54,53,54,54,54,55,54,56,54,57,55,48,55,49,55,50,55,51,55,52,55,53,55,54,55,55,55,56,55,57,56,48,56,49,56,50,56,51,56,52,56,53,56,54,56,55,56,56,56,57,57,48,57,49,57,50,57,51,57,52,57,53,57,54,57,55,57,56,57,57]⟩)) (.t 75)),m 77 11,o 78 (.ix (.k (.string ⟨#[48,48,48,49,48,50,48,51,48,52,48,53,48,54,48,55,48,56,48,57,49,48,49,49,49,50,49,51,49,52,49,53,49,54,49,55,49,56,49,57,50,48,50,49,50,50,50,51,50,52,50,53,50,54,50,55,50,56,50,57,51,48,51,49,51,50,51,51,51,52,51,53,51,54,51,55,51,56,51,57,52,48,52,49,52,50,52,51,52,52,52,53,52,54,52,55,52,56,52,57,53,48,53,49,53,50,53,51,53,52,53,53,53,54,53,55,53,56,53,57,54,48,54,49,54,50,54,51,54,52,54,53,54,54,54,55,54,56,54,57,55,48,55,49,55,50,55,51,55,52,55,53,55,54,55,55,55,56,55,57,56,48,56,49,56,50,56,51,56,52,56,53,56,54,56,55,56,56,56,57,57,48,57,49,57,50,57,51,57,52,57,53,57,54,57,55,57,56,57,57]⟩)) (.t 77)),j 1 79 68 70,s (.st 1 (.t 79) (.t 76)),j 1 80 71 73,s (.st 1 (.t 80) (.t 78))] []) (q (.bM [m 81 0,m 82 4,h .sub 83 82 7,m 84 0,m 85 4,h .sub 86 85 8,m 87 10,o 88 (.bin .add (.t 87) (.k (.int .u32 1))),o 89 (.ix (.k (.string ⟨#[48,48,48,49,48,50,48,51,48,52,48,53,48,54,48,55,48,56,48,57,49,48,49,49,49,50,49,51,49,52,49,53,49,54,49,55,49,56,49,57,50,48,50,49,50,50,50,51,50,52,50,53,50,54,50,55,50,56,50,57,51,48,51,49,51,50,51,51,51,52,51,53,51,54,51,55,51,56,51,57,52,48,52,49,52,50,52,51,52,52,52,53,52,54,52,55,52,56,52,57,53,48,53,49,53,50,53,51,53,52,53,53,53,54,53,55,53,56,53,57,54,48,54,49,54,50,54,51,54,52,54,53,54,54,54,55,54,56,54,57,55,48,55,49,55,50,55,51,55,52,55,53,55,54,55,55,55,56,55,57,56,48,56,49,56,50,56,51,56,52,56,53,56,54,56,55,56,56,56,57,57,48,57,49,57,50,57,51,57,52,57,53,57,54,57,55,57,56,57,57]⟩)) (.t 88)),m 90 10,o 91 (.ix (.k (.string ⟨#[48,48,48,49,48,50,48,51,48,52,48,53,48,54,48,55,48,56,48,57,49,48,49,49,49,50,49,51,49,52,49,53,49,54,49,55,49,56,49,57,50,48,50,49,50,50,50,51,50,52,50,53,50,54,50,55,50,56,50,57,51,48,51,49,51,50,51,51,51,52,51,53,51,54,51,55,51,56,51,57,52,48,52,49,52,50,52,51,52,52,52,53,52,54,52,55,52,56,52,57,53,48,53,49,53,50,53,51,53,52,53,53,53,54,53,55,53,56,53,57,54,48,54,49,54,50,54,51,54,52,54,53,54,54,54,55,54,56,54,57,55,48,55,49,55,50,55,51,55,52,55,53,55,54,55,55,55,56,55,57,56,48,56,49,56,50,56,51,56,52,56,53,56,54,56,55,56,56,56,57,57,48,57,49,57,50,57,51,57,52,57,53,57,54,57,55,57,56,57,57]⟩)) (.t 90)),j 1 92 81 83,s (.st 1 (.t 92) (.t 89)),j 1 93 84 86,s (.st 1 (.t 93) (.t 91))] []) (.bW [m 94 4,h .sub 95 94 8,m 4 95])))))))))))))) (r [m 96 1,o 97 (.jU .u32 (.t 96)),m 12 97] (q (r [m 98 4,h .geq 99 98 4] (d 99 (r [m 100 12,o 101 (.bin .rem (.t 100) (.k (.int .u32 10000))),m 13 101] (r [m 102 12,o 103 (.bin .quo (.t 102) (.k (.int .u32 10000))),m 12 103] (r [m 104 13,o 105 (.bin .quo (.t 104) (.k (.int .u32 100))),o 106 (.bin .mul (.t 105) (.k (.int .u32 2))),m 107 13,o 108 (.bin .rem (.t 107) (.k (.int .u32 100))),o 109 (.bin .mul (.t 108) (.k (.int .u32 2))),m 14 106,m 15 109] (q (.bM [m 110 0,m 111 4,h .sub 112 111 1,m 113 0,m 114 4,h .sub 115 114 2,m 116 15,o 117 (.bin .add (.t 116) (.k (.int .u32 1))),o 118 (.ix (.k (.string ⟨#[48,48,48,49,48,50,48,51,48,52,48,53,48,54,48,55,48,56,48,57,49,48,49,49,49,50,49,51,49,52,49,53,49,54,49,55,49,56,49,57,50,48,50,49,50,50,50,51,50,52,50,53,50,54,50,55,50,56,50,57,51,48,51,49,51,50,51,51,51,52,51,53,51,54,51,55,51,56,51,57,52,48,52,49,52,50,52,51,52,52,52,53,52,54,52,55,52,56,52,57,53,48,53,49,53,50,53,51,53,52,53,53,53,54,53,55,53,56,53,57,54,48,54,49,54,50,54,51,54,52,54,53,54,54,54,55,54,56,54,57,55,48,55,49,55,50,55,51,55,52,55,53,55,54,55,55,55,56,55,57,56,48,56,49,56,50,56,51,56,52,56,53,56,54,56,55,56,56,56,57,57,48,57,49,57,50,57,51,57,52,57,53,57,54,57,55,57,56,57,57]⟩)) (.t 117)),m 119 15,o 120 (.ix (.k (.string ⟨#[48,48,48,49,48,50,48,51,48,52,48,53,48,54,48,55,48,56,48,57,49,48,49,49,49,50,49,51,49,52,49,53,49,54,49,55,49,56,49,57,50,48,50,49,50,50,50,51,50,52,50,53,50,54,50,55,50,56,50,57,51,48,51,49,51,50,51,51,51,52,51,53,51,54,51,55,51,56,51,57,52,48,52,49,52,50,52,51,52,52,52,53,52,54,52,55,52,56,52,57,53,48,53,49,53,50,53,51,53,52,53,53,53,54,53,55,53,56,53,57,54,48,54,49,54,50,54,51,54,52,54,53,54,54,54,55,54,56,54,57,55,48,55,49,55,50,55,51,55,52,55,53,55,54,55,55,55,56,55,57,56,48,56,49,56,50,56,51,56,52,56,53,56,54,56,55,56,56,56,57,57,48,57,49,57,50,57,51,57,52,57,53,57,54,57,55,57,56,57,57]⟩)) (.t 119)),j 1 121 110 112,s (.st 1 (.t 121) (.t 118)),j 1 122 113 115,s (.st 1 (.t 122) (.t 120))] []) (q (.bM [m 123 0,m 124 4,h .sub 125 124 3,m 126 0,m 127 4,h .sub 128 127 4,m 129 14,o 130 (.bin .add (.t 129) (.k (.int .u32 1))),o 131 (.ix (.k (.string ⟨#[48,48,48,49,48,50,48,51,48,52,48,53,48,54,48,55,48,56,48,57,49,48,49,49,49,50,49,51,49,52,49,53,49,54,49,55,49,56,49,57,50,48,50,49,50,50,50,51,50,52,50,53,50,54,50,55,50,56,50,57,51,48,51,49,51,50,51,51,51,52,51,53,51,54,51,55,51,56,51,57,52,48,52,49,52,50,52,51,52,52,52,53,52,54,52,55,52,56,52,57,53,48,53,49,53,50,53,51,53,52,53,53,53,54,53,55,53,56,53,57,54,48,54,49,54,50,54,51,54,52,54,53,54,54,54,55,54,56,54,57,55,48,55,49,55,50,55,51,55,52,55,53,55,54,55,55,55,56,55,57,56,48,56,49,56,50,56,51,56,52,56,53,56,54,56,55,56,56,56,57,57,48,57,49,57,50,57,51,57,52,57,53,57,54,57,55,57,56,57,57]⟩)) (.t 130)),m 132 14,o 133 (.ix (.k (.string ⟨#[48,48,48,49,48,50,48,51,48,52,48,53,48,54,48,55,48,56,48,57,49,48,49,49,49,50,49,51,49,52,49,53,49,54,49,55,49,56,49,57,50,48,50,49,50,50,50,51,50,52,50,53,50,54,50,55,50,56,50,57,51,48,51,49,51,50,51,51,51,52,51,53,51,54,51,55,51,56,51,57,52,48,52,49,52,50,52,51,52,52,52,53,52,54,52,55,52,56,52,57,53,48,53,49,53,50,53,51,53,52,53,53,53,54,53,55,53,56,53,57,54,48,54,49,54,50,54,51,54,52,54,53,54,54,54,55,54,56,54,57,55,48,55,49,55,50,55,51,55,52,55,53,55,54,55,55,55,56,55,57,56,48,56,49,56,50,56,51,56,52,56,53,56,54,56,55,56,56,56,57,57,48,57,49,57,50,57,51,57,52,57,53,57,54,57,55,57,56,57,57]⟩)) (.t 132)),j 1 134 123 125,s (.st 1 (.t 134) (.t 131)),j 1 135 126 128,s (.st 1 (.t 135) (.t 133))] []) (.bW [m 136 4,h .sub 137 136 4,m 4 137])))))) .skip)) (q (r [m 138 4,h .geq 139 138 2] (d 139 (r [m 140 12,o 141 (.bin .rem (.t 140) (.k (.int .u32 100))),o 142 (.bin .mul (.t 141) (.k (.int .u32 2))),m 16 142] (r [m 143 12,o 144 (.bin .quo (.t 143) (.k (.int .u32 100))),m 12 144] (q (.bM [m 145 0,m 146 4,h .sub 147 146 1,m 148 0,m 149 4,h .sub 150 149 2,m 151 16,o 152 (.bin .add (.t 151) (.k (.int .u32 1))),o 153 (.ix (.k (.string ⟨#[48,48,48,49,48,50,48,51,48,52,48,53,48,54,48,55,48,56,48,57,49,48,49,49,49,50,49,51,49,52,49,53,49,54,49,55,49,56,49,57,50,48,50,49,50,50,50,51,50,52,50,53,50,54,50,55,50,56,50,57,51,48,51,49,51,50,51,51,51,52,51,53,51,54,51,55,51,56,51,57,52,48,52,49,52,50,52,51,52,52,52,53,52,54,52,55,52,56,52,57,53,48,53,49,53,50,53,51,53,52,53,53,53,54,53,55,53,56,53,57,54,48,54,49,54,50,54,51,54,52,54,53,54,54,54,55,54,56,54,57,55,48,55,49,55,50,55,51,55,52,55,53,55,54,55,55,55,56,55,57,56,48,56,49,56,50,56,51,56,52,56,53,56,54,56,55,56,56,56,57,57,48,57,49,57,50,57,51,57,52,57,53,57,54,57,55,57,56,57,57]⟩)) (.t 152)),m 154 16,o 155 (.ix (.k (.string ⟨#[48,48,48,49,48,50,48,51,48,52,48,53,48,54,48,55,48,56,48,57,49,48,49,49,49,50,49,51,49,52,49,53,49,54,49,55,49,56,49,57,50,48,50,49,50,50,50,51,50,52,50,53,50,54,50,55,50,56,50,57,51,48,51,49,51,50,51,51,51,52,51,53,51,54,51,55,51,56,51,57,52,48,52,49,52,50,52,51,52,52,52,53,52,54,52,55,52,56,52,57,53,48,53,49,53,50,53,51,53,52,53,53,53,54,53,55,53,56,53,57,54,48,54,49,54,50,54,51,54,52,54,53,54,54,54,55,54,56,54,57,55,48,55,49,55,50,55,51,55,52,55,53,55,54,55,55,55,56,55,57,56,48,56,49,56,50,56,51,56,52,56,53,56,54,56,55,56,56,56,57,57,48,57,49,57,50,57,51,57,52,57,53,57,54,57,55,57,56,57,57]⟩)) (.t 154)),j 1 156 145 147,s (.st 1 (.t 156) (.t 153)),j 1 157 148 150,s (.st 1 (.t 157) (.t 155))] []) (.bW [m 158 4,h .sub 159 158 2,m 4 159])))) .skip)) (r [m 160 4,h .gtr 161 160 0] (d 161 (.bW [m 162 0,m 163 12,o 164 (.bin .add (.k (.int .u32 48)) (.t 163)),o 165 (.jU .u8 (.t 164)),o 166 (.ia 1 (.t 162) (i 0)),s (.st 1 (.t 166) (.t 165))]) .skip))))))⟩
theorem YX:aq Tryz.prog Tryz.f162=some a162:=by kernel_rfl
def Rc:AF:=⟨5,102,[.tmp 10,.tmp 11],r [o 10 (.mv (.k (.slice none 0 0))),o 11 (.mv (.k (.string ⟨#[]⟩)))] (q (r [m 19 2,h .lss 20 19 2,m 21 20,N 21 22 2,og 21 false 23 (.bin .eql (.t 22) (i 10)),P 24 21 23,m 25 24,N 25 26 2,og 25 false 27 (.bin .gtr (.t 26) (i 36)),P 28 25 27] (d 28 (.bW [o 29 (.Lu 9 (.k (.string ⟨#[115,116,114,99,111,110,118,58,32,105,108,108,101,103,97,108,32,65,112,112,101,110,100,73,110,116,47,70,111,114,109,97,116,73,110,116,32,98,97,115,101]⟩))),s (.xt .bad [])]) .skip)) (r [o 12 (.alloc [.int .u8 0,.int .u8 0,.int .u8 0,.int .u8 0,.int .u8 0,.int .u8 0,.int .u8 0,.int .u8 0,.int .u8 0,.int .u8 0,.int .u8 0,.int .u8 0,.int .u8 0,.int .u8 0,.int .u8 0,.int .u8 0,.int .u8 0,.int .u8 0,.int .u8 0,.int .u8 0,.int .u8 0,.int .u8 0,.int .u8 0,.int .u8 0,.int .u8 0,.int .u8 0,.int .u8 0,.int .u8 0,.int .u8 0,.int .u8 0,.int .u8 0,.int .u8 0,.int .u8 0,.int .u8 0,.int .u8 0,.int .u8 0,.int .u8 0,.int .u8 0,.int .u8 0,.int .u8 0,.int .u8 0,.int .u8 0,.int .u8 0,.int .u8 0,.int .u8 0,.int .u8 0,.int .u8 0,.int .u8 0,.int .u8 0,.int .u8 0,.int .u8 0,.int .u8 0,.int .u8 0,.int .u8 0,.int .u8 0,.int .u8 0,.int .u8 0,.int .u8 0,.int .u8 0,.int .u8 0,.int .u8 0,.int .u8 0,.int .u8 0,.int .u8 0,.int .u8 0])] (r [o 13 (.mv (i 65))] (q (r [m 30 3] (d 30 (.bW [m 31 1,o 32 (.un .neg (.t 31)),m 1 32]) .skip)) (q (r [m 33 2,c 34 172 [.t 33]] (d 34 (r [m 35 2,o 36 (.jU .u64 (.t 35)),c 37 173 [.t 36],o 38 (.jU .u64 (.t 37)),m 14 38] (r [m 39 2,o 40 (.jU .u64 (.t 39)),m 15 40] (r [m 41 2,o 42 (.jU .u64 (.t 41)),o 43 (.bin .sub (.t 42) (.k (.int .u64 1))),m 16 43] (q (.block 0 (.loop (q (r [m 44 1,m 45 15,b .geq 46 44 45] (d 46 .skip (.exit 0))) (.block 1 (r [m 47 13,h .sub 48 47 1,m 13 48] (r [m 49 13,m 50 1,m 51 16,b .and 52 50 51,o 53 (.ix (.k (.string ⟨#[48,49,50,51,52,53,54,55,56,57,97,98,99,100,101,102,103,104,105,106,107,108,109,110,111,112,113,114,115,116,117,118,119,120,121,122]⟩)) (.t 52)),o 54 (.oA 65 1 (.t 12) (.t 49)),s (.st 1 (.t 54) (.t 53))] (.bW [m 55 1,m 56 14,b .shr 57 55 56,m 1 57]))))))) (r [m 58 13,h .sub 59 58 1,m 13 59] (.bW [m 60 13,m 61 1,o 62 (.ix (.k (.string ⟨#[48,49,50,51,52,53,54,55,56,57,97,98,99,100,101,102,103,104,105,106,107,108,109,110,111,112,113,114,115,116,117,118,119,120,121,122]⟩)) (.t 61)),o 63 (.oA 65 1 (.t 12) (.t 60)),s (.st 1 (.t 63) (.t 62))])))))) (r [m 64 2,o 65 (.jU .u64 (.t 64)),m 17 65] (q (.block 2 (.loop (q (r [m 66 1,m 67 17,b .geq 68 66 67] (d 68 .skip (.exit 2))) (.block 3 (r [m 69 13,h .sub 70 69 1,m 13 70] (r [m 71 1,m 72 17,b .quo 73 71 72,m 18 73] (r [m 74 13,m 75 1,m 76 18,m 77 17,b .mul 78 76 77,b .sub 79 75 78,o 80 (.ix (.k (.string ⟨#[48,49,50,51,52,53,54,55,56,57,97,98,99,100,101,102,103,104,105,106,107,108,109,110,111,112,113,114,115,116,117,118,119,120,121,122]⟩)) (.t 79)),o 81 (.oA 65 1 (.t 12) (.t 74)),s (.st 1 (.t 81) (.t 80))] (.bW [m 82 18,m 1 82])))))))) (r [m 83 13,h .sub 84 83 1,m 13 84] (.bW [m 85 13,m 86 1,o 87 (.ix (.k (.string ⟨#[48,49,50,51,52,53,54,55,56,57,97,98,99,100,101,102,103,104,105,106,107,108,109,110,111,112,113,114,115,116,117,118,119,120,121,122]⟩)) (.t 86)),o 88 (.oA 65 1 (.t 12) (.t 85)),s (.st 1 (.t 88) (.t 87))])))))) (q (r [m 89 3] (d 89 (r [m 90 13,h .sub 91 90 1,m 13 91] (.bW [m 92 13,o 93 (.oA 65 1 (.t 12) (.t 92)),s (.st 1 (.t 93) (.k (.int .u8 45)))])) .skip)) (q (r [m 94 4] (d 94 (r [m 95 0,m 96 13,o 97 (.xt .bad []),o 98 (.xt .bad []),m 10 98] .ret) .skip)) (r [m 99 13,o 100 (.xt .bad []),o 101 (.xt .bad []),m 11 101] .ret))))))))⟩
theorem YY:aq Tryz.prog Tryz.f163=some Rc:=by kernel_rfl
def u6:AF:=⟨4,89,[.tmp 8],r [B 4 0,B 5 1,o 8 (.mv F)] (r [m 11 3,o 12 (.aU (.t 11)),v 13 12,h .sub 14 13 1,o 15 (.aU (.t 11)),s (.st 1 (.t 15) (.t 14))] (q (q (.bM [m 16 3,o 17 (.aU (.t 16)),v 18 17,h .lss 19 18 0,m 20 19,N 20 21 2,og 20 false 22 (.bin .gtr (.t 21) (i 16)),P 23 20 22,m 24 23,og 24 false 25 (.ldn 3 (.t 4)),og 24 false 26 (.ldn 4 (.t 5)),og 24 false 28 (.fa 3 (.t 5)),og 24 false 29 (.ld (.t 28)),og 24 false 30 (.jn (.t 29)),og 24 false 27 (.call 174 [.t 25,.t 26]),og 24 false 31 (.bin .neq (.t 27) (.t 30)),P 32 24 31] [(0,(12,14))]) (d 32 (r [o 8 (.mv F)] .ret) .skip)) (q (r [f 0 33 5,v 34 33] (.block 0 (r [h .eql 44 34 0,m 43 44] (d 43 (r [f 1 45 5,v 46 45,h .lss 47 46 0,m 48 47,og 48 false 49 (.fa 1 (.t 5)),og 48 false 50 (.ld (.t 49)),og 48 false 51 (.fa 0 (.t 4)),og 48 false 52 (.ld (.t 51)),og 48 false 53 (.jU .u64 (.t 52)),og 48 false 54 (.bin .shl (i 1) (.t 53)),og 48 false 55 (.bin .geq (.t 50) (.t 54)),P 56 48 55,m 57 56,og 57 false 58 (.fa 2 (.t 5)),og 57 false 59 (.ld (.t 58)),og 57 false 60 (.bin .neq (.t 59) (i 0)),P 61 57 60] (d 61 (r [o 8 (.mv F)] .ret) .skip)) (r [h .eql 63 34 1,m 62 63] (d 62 (r [f 2 64 5,v 65 64,h .lss 66 65 0,m 67 66,og 67 false 68 (.fa 2 (.t 5)),og 67 false 69 (.ld (.t 68)),og 67 false 70 (.fa 2 (.t 4)),og 67 false 71 (.ld (.t 70)),og 67 false 72 (.bin .geq (.t 69) (.t 71)),P 73 67 72] (d 73 (r [o 8 (.mv F)] .ret) .skip)) (r [f 1 35 5,v 36 35,h .neq 37 36 0,m 38 37,og 38 false 39 (.fa 2 (.t 5)),og 38 false 40 (.ld (.t 39)),og 38 false 41 (.bin .neq (.t 40) (i 0)),P 42 38 41] (d 42 (r [o 8 (.mv F)] .ret) .skip)))))))) (q (r [f 3 74 5,v 75 74,L 76 75,o 77 (.mv (i 0))] (.block 1 (.loop (r [b .lss 78 77 76] (q (d 78 .skip (.exit 1)) (q (.block 2 (r [j 4 79 75 77,n 4 80 79,o 10 (.alloc [z,z,z,y]),s (.st 4 (.t 10) (.t 80))] (r [n 3 81 4,n 4 82 10,m 83 2,h .add 84 83 1,m 85 3,c 86 166 [.t 81,.t 82,.t 84,.t 85],U 87 86] (d 87 (r [o 8 (.mv F)] .ret) .skip)))) (.bW [h .add 88 77 1,m 77 88]))))))) (r [o 8 (.mv W)] .ret)))))⟩
theorem YZ:aq Tryz.prog Tryz.f166=some u6:=by kernel_rfl
def a168:AF:=⟨4,106,[.tmp 8],r [B 4 0,B 6 2,o 8 (.mv (i 0))] (r [o 9 (.alloc [z,z,z])] (q (r [f 3 17 6,v 18 17,L 19 18,o 20 (.mv (i 0))] (.block 0 (.loop (r [b .lss 21 20 19] (q (d 21 .skip (.exit 0)) (q (.block 1 (r [m 22 20,j 4 23 18 20,n 4 24 23,o 11 (.alloc [z,z,z,y]),m 10 22,s (.st 4 (.t 11) (.t 24))] (.bW [m 25 10,n 3 26 4,m 27 1,n 4 28 11,m 29 3,c 30 168 [.t 26,.t 27,.t 28,.t 29],o 31 (.oA 3 1 (.t 9) (.t 25)),s (.st 1 (.t 31) (.t 30))]))) (.bW [h .add 32 20 1,m 20 32]))))))) (q (r [f 0 33 6,v 34 33] (.block 2 (r [h .eql 36 34 0,m 35 36] (d 35 (r [f 1 37 6,v 38 37,m 8 38] .ret) (r [h .eql 40 34 1,m 39 40] (d 39 (r [o 12 (.mv (i 0))] (q (r [f 3 41 6,v 42 41,L 43 42,h .gtr 44 43 0] (d 44 (q (.bM [o 45 (.oA 3 1 (.t 9) (i 0)),v 46 45,f 1 47 4,v 48 47,f 1 49 6,v 50 49,j 3 51 48 50,f 2 52 51,v 53 52,b .rem 54 46 53,m 12 54] []) (.bW [m 55 3,f 1 56 6,v 57 56,m 58 12,o 59 (.callv (.t 55) [.t 57,.t 58])])) .skip)) (q (.bM [m 60 1,f 2 61 6,v 62 61,j 1 63 60 62,v 64 63,n 3 65 4,f 1 66 6,v 67 66,m 69 12,c 68 176 [.t 65,.t 67],b .add 70 68 69,j 1 71 64 70,v 72 71,m 8 72] [(0,(2,9)),(0,(4,9))]) .ret))) (r [h .eql 74 34 12,m 73 74] (d 73 (r [f 0 76 4,v 77 76,o 78 (.oA 3 1 (.t 9) (i 0)),v 79 78,c 80 177 [.t 77,.t 79],m 75 80,e 81 75 0,e 82 75 1,m 13 81,m 14 82] (r [m 83 13,m 8 83] .ret)) (r [h .eql 85 34 15,m 84 85] (d 84 (q (r [o 86 (.oA 3 1 (.t 9) (i 0)),v 87 86,h .neq 88 87 0] (d 88 (r [o 89 (.oA 3 1 (.t 9) (i 1)),v 90 89,m 8 90] .ret) .skip)) (r [o 91 (.oA 3 1 (.t 9) (i 2)),v 92 91,m 8 92] .ret)) .skip)))))))))) (r [f 0 94 6,v 95 94,f 0 96 4,v 97 96,o 98 (.oA 3 1 (.t 9) (i 0)),v 99 98,o 100 (.oA 3 1 (.t 9) (i 1)),v 101 100,c 102 178 [.t 95,.t 97,.t 99,.t 101],m 93 102,e 103 93 0,e 104 93 1,m 15 103,m 16 104] (r [m 105 15,m 8 105] .ret)))))⟩
theorem Y0:aq Tryz.prog Tryz.f168=some a168:=by kernel_rfl
def Re:AF:=⟨1,6,[.tmp 2],r [o 2 (.mv (i 0))] (r [m 3 0,h .mul 4 3 78913,o 5 (.bin .shr (.t 4) (.k (.int .u64 18))),m 2 5] .ret)⟩
theorem Y1:aq Tryz.prog Tryz.f169=some Re:=by kernel_rfl
def Rf:AF:=⟨1,25,[.tmp 2],r [o 2 (.mv (i 0))] (q (r [m 3 0,o 4 (.bin .geq (.t 3) (.k (.int .u64 4294967296)))] (d 4 (r [m 5 0,o 6 (.bin .shr (.t 5) (.k (.int .u64 32))),m 0 6] (.bW [o 2 (.mv (i 32))])) .skip)) (q (r [m 7 0,o 8 (.bin .geq (.t 7) (.k (.int .u64 65536)))] (d 8 (r [m 9 0,o 10 (.bin .shr (.t 9) (.k (.int .u64 16))),m 0 10] (.bW [m 11 2,h .add 12 11 16,m 2 12])) .skip)) (q (r [m 13 0,o 14 (.bin .geq (.t 13) (.k (.int .u64 256)))] (d 14 (r [m 15 0,o 16 (.bin .shr (.t 15) (.k (.int .u64 8))),m 0 16] (.bW [m 17 2,h .add 18 17 8,m 2 18])) .skip)) (r [m 19 2,m 20 0,o 21 (.jU .u8 (.t 20)),o 22 (.ix (.k (.string ⟨#[0,1,2,2,3,3,3,3,4,4,4,4,4,4,4,4,5,5,5,5,5,5,5,5,5,5,5,5,5,5,5,5,6,6,6,6,6,6,6,6,6,6,6,6,6,6,6,6,6,6,6,6,6,6,6,6,6,6,6,6,6,6,6,6,7,7,7,7,7,7,7,7,7,7,7,7,7,7,7,7,7,7,7,7,7,7,7,7,7,7,7,7,7,7,7,7,7,7,7,7,7,7,7,7,7,7,7,7,7,7,7,7,7,7,7,7,7,7,7,7,7,7,7,7,7,7,7,7,8,8,8,8,8,8,8,8,8,8,8,8,8,8,8,8,8,8,8,8,8,8,8,8,8,8,8,8,8,8,8,8,8,8,8,8,8,8,8,8,8,8,8,8,8,8,8,8,8,8,8,8,8,8,8,8,8,8,8,8,8,8,8,8,8,8,8,8,8,8,8,8,8,8,8,8,8,8,8,8,8,8,8,8,8,8,8,8,8,8,8,8,8,8,8,8,8,8,8,8,8,8,8,8,8,8,8,8,8,8,8,8,8,8,8,8,8,8,8,8,8,8,8,8,8,8,8,8]⟩)) (.t 21)),o 23 (.jU .i64 (.t 22)),b .add 24 19 23,m 2 24] .ret))))⟩
theorem Y2:aq Tryz.prog Tryz.f170=some Rf:=by kernel_rfl
def a171:AF:=⟨1,4,[.tmp 2],r [o 2 (.mv (i 0))] (q (r [m 3 0] (d 3 (r [o 2 (.mv (i 1))] .ret) .skip)) (r [o 2 (.mv (i 0))] .ret))⟩
theorem Y3:aq Tryz.prog Tryz.f171=some a171:=by kernel_rfl
def Rg:AF:=⟨1,8,[.tmp 2],r [o 2 (.mv F)] (r [m 3 0,m 4 0,h .sub 5 4 1,b .and 6 3 5,h .eql 7 6 0,m 2 7] .ret)⟩
theorem Y4:aq Tryz.prog Tryz.f172=some Rg:=by kernel_rfl
def a173:AF:=⟨1,8,[.tmp 2],r [o 2 (.mv (i 0))] (q (.cond F (r [m 3 0,o 4 (.jU .u32 (.t 3)),c 5 179 [.t 4],m 2 5] .ret) .skip) (r [m 6 0,c 7 180 [.t 6],m 2 7] .ret))⟩
theorem Y5:aq Tryz.prog Tryz.f173=some a173:=by kernel_rfl
def A8:AF:=⟨2,57,[.tmp 4],r [B 2 0,B 3 1,o 4 (.mv (i 0))] (q (.block 0 (r [f 0 6 3,v 7 6,h .eql 8 7 0,m 5 8] (d 5 (r [o 4 (.mv (i 0))] .ret) (r [f 0 10 3,v 11 10,h .eql 12 11 1,m 13 12,og 13 true 14 (.fa 1 (.t 3)),og 13 true 15 (.ld (.t 14)),og 13 true 16 (.bin .geq (.t 15) (i 0)),p 17 13 16,m 18 17,og 18 true 19 (.fa 1 (.t 3)),og 18 true 20 (.ld (.t 19)),og 18 true 21 (.fa 1 (.t 2)),og 18 true 22 (.ld (.t 21)),og 18 true 23 (.jn (.t 22)),og 18 true 24 (.bin .lss (.t 20) (.t 23)),p 25 18 24,m 9 25] (d 9 (q (r [f 1 26 2,v 27 26,f 1 28 3,v 29 28,j 3 30 27 29,f 2 31 30,v 32 31,h .gtr 33 32 1] (d 33 (r [o 4 (.mv (i 1))] .ret) .skip)) (r [o 4 (.mv (i 0))] .ret)) (q (r [f 0 35 3,v 36 35,h .geq 37 36 2,m 38 37,og 38 true 39 (.fa 0 (.t 3)),og 38 true 40 (.ld (.t 39)),og 38 true 41 (.bin .leq (.t 40) (i 11)),p 42 38 41,m 34 42] (d 34 .skip (r [f 0 43 3,v 44 43,h .eql 45 44 13,m 34 45] (d 34 .skip (.bW [f 0 46 3,v 47 46,h .eql 48 47 14,m 34 48]))))) (d 34 (r [o 4 (.mv (i 2))] .ret) (r [f 0 50 3,v 51 50,h .eql 52 51 12,m 49 52] (d 49 (r [o 4 (.mv (i 1))] .ret) (r [f 0 54 3,v 55 54,h .eql 56 55 15,m 53 56] (d 53 (r [o 4 (.mv (i 3))] .ret) .skip))))))))))) (r [o 4 (.mv (i (-1)))] .ret))⟩
theorem Y6:aq Tryz.prog Tryz.f174=some A8:=by kernel_rfl
def HP:AF:=⟨2,23,[.tmp 4],r [B 2 0,o 4 (.mv (i 0))] (r [o 5 (.mv (i 0))] (q (r [f 1 8 2,v 9 8,m 10 1,o 11 (.sl 3 (.t 9) none (some (.t 10)) none),L 12 11,o 13 (.mv (i 0))] (.block 0 (.loop (r [b .lss 14 13 12] (q (d 14 .skip (.exit 0)) (q (.block 1 (q (.bW [j 3 15 11 13,n 3 16 15,o 7 (.alloc [.string ⟨#[]⟩,z,z]),s (.st 3 (.t 7) (.t 16))]) (.bW [m 17 5,f 2 18 7,v 19 18,b .add 20 17 19,m 5 20]))) (.bW [h .add 21 13 1,m 13 21]))))))) (r [m 22 5,m 4 22] .ret)))⟩
theorem Y7:aq Tryz.prog Tryz.f176=some HP:=by kernel_rfl
def HQ:AF:=⟨2,15,[.tmp 4,.tmp 5],r [o 4 (.mv (i 0)),o 5 (.mv (i 0))] (q (r [m 6 0,m 7 1,o 8 (.bsl 1 1 [z] [(0,(1,.t 7))]),c 9 181 [.t 6,.t 8],U 10 9] (d 10 (r [o 4 (.mv (i 0)),o 5 (.mv (i 1))] .ret) .skip)) (r [m 11 0,c 12 182 [.t 11],m 13 1,b .andNot 14 12 13,m 4 14,o 5 (.mv (i 0))] .ret))⟩
theorem Y8:aq Tryz.prog Tryz.f177=some HQ:=by kernel_rfl
def HR:AF:=⟨4,29,[.tmp 8,.tmp 9],r [o 8 (.mv (i 0)),o 9 (.mv (i 0))] (q (r [m 11 1,m 12 2,m 13 3,o 14 (.bsl 2 1 [z,z] [(0,(1,.t 12)),(1,(1,.t 13))]),c 15 181 [.t 11,.t 14],U 16 15] (d 16 (r [o 8 (.mv (i 0)),o 9 (.mv (i 1))] .ret) .skip)) (r [m 17 0,c 18 183 [.t 17],m 10 18] (q (r [m 19 10,o 20 (.eqk 3 false (.t 19) (.k .nilFunc))] (d 20 (r [o 8 (.mv (i 0)),o 9 (.mv (i 1))] .ret) .skip)) (r [m 21 10,m 22 1,m 23 2,m 24 3,o 25 (.callv (.t 21) [.t 22,.t 23,.t 24]),m 26 1,c 27 182 [.t 26],b .and 28 25 27,m 8 28,o 9 (.mv (i 0))] .ret))))⟩
theorem Y9:aq Tryz.prog Tryz.f178=some HR:=by kernel_rfl
def Rh:AF:=⟨1,14,[.tmp 2],r [o 2 (.mv (i 0))] (q (r [m 3 0,o 4 (.bin .eql (.t 3) (.k (.int .u32 0)))] (d 4 (r [o 2 (.mv (i 32))] .ret) .skip)) (r [m 5 0,m 6 0,o 7 (.un .neg (.t 6)),b .and 8 5 7,o 9 (.bin .mul (.t 8) (.k (.int .u32 125613361))),o 10 (.bin .shr (.t 9) (.k (.int .u64 27))),o 11 (.xt .bad []),v 12 11,o 13 (.jU .i64 (.t 12)),m 2 13] .ret))⟩
theorem Za:aq Tryz.prog Tryz.f179=some Rh:=by kernel_rfl
def Ri:AF:=⟨1,14,[.tmp 2],r [o 2 (.mv (i 0))] (q (r [m 3 0,o 4 (.bin .eql (.t 3) (.k (.int .u64 0)))] (d 4 (r [o 2 (.mv (i 64))] .ret) .skip)) (r [m 5 0,m 6 0,o 7 (.un .neg (.t 6)),b .and 8 5 7,o 9 (.bin .mul (.t 8) (.k (.int .u64 285870213051353865))),o 10 (.bin .shr (.t 9) (.k (.int .u64 58))),o 11 (.xt .bad []),v 12 11,o 13 (.jU .i64 (.t 12)),m 2 13] .ret))⟩
theorem Zb:aq Tryz.prog Tryz.f180=some Ri:=by kernel_rfl
def A9:AF:=⟨2,28,[.tmp 4],r [o 4 (.mv F)] (q (r [m 7 0,h .lss 8 7 1,m 9 8,N 9 10 0,og 9 false 11 (.bin .gtr (.t 10) (i 8)),P 12 9 11] (d 12 (r [o 4 (.mv F)] .ret) .skip)) (q (r [m 13 1,L 14 13,o 15 (.mv (i 0))] (.block 0 (.loop (r [b .lss 16 15 14] (q (d 16 .skip (.exit 0)) (q (.block 1 (r [j 1 17 13 15,v 18 17,m 6 18] (r [m 19 6,h .lss 20 19 0,m 21 20,N 21 22 6,N 21 23 0,og 21 false 24 (.call 182 [.t 23]),og 21 false 25 (.bin .gtr (.t 22) (.t 24)),P 26 21 25] (d 26 (r [o 4 (.mv F)] .ret) .skip)))) (.bW [h .add 27 15 1,m 15 27]))))))) (r [o 4 (.mv W)] .ret)))⟩
theorem Zc:aq Tryz.prog Tryz.f181=some A9:=by kernel_rfl
def a182:AF:=⟨1,7,[.tmp 2],r [o 2 (.mv (i 0))] (r [m 3 0,o 4 (.jU .u64 (.t 3)),o 5 (.bin .shl (i 1) (.t 4)),h .sub 6 5 1,m 2 6] .ret)⟩
theorem Zd:aq Tryz.prog Tryz.f182=some a182:=by kernel_rfl
def a183:AF:=⟨1,7,[.tmp 2],r [o 2 (.mv (.k .nilFunc))] (r [o 3 .mkmap,s (.nu 0 (.t 3) (i 2) (.f 184)),s (.nu 0 (.t 3) (i 3) (.f 185)),s (.nu 0 (.t 3) (i 4) (.f 186)),s (.nu 0 (.t 3) (i 5) (.f 187)),s (.nu 0 (.t 3) (i 6) (.f 188)),s (.nu 0 (.t 3) (i 7) (.f 189)),s (.nu 0 (.t 3) (i 8) (.f 190)),s (.nu 0 (.t 3) (i 9) (.f 191)),s (.nu 0 (.t 3) (i 10) (.f 192)),s (.nu 0 (.t 3) (i 11) (.f 194)),s (.nu 0 (.t 3) (i 13) (.f 195)),s (.nu 0 (.t 3) (i 14) (.f 197)),m 4 3,m 5 0,o 6 (.look 0 .nilFunc (.t 4) (.t 5) false),m 2 6] .ret)⟩
theorem Ze:aq Tryz.prog Tryz.f183=some a183:=by kernel_rfl
def HS:AF:=⟨3,10,[.tmp 6],r [o 6 (.mv (i 0))] (r [m 7 1,m 8 2,b .add 9 7 8,m 6 9] .ret)⟩
theorem Zf:aq Tryz.prog Tryz.f184=some HS:=by kernel_rfl
def HT:AF:=⟨3,10,[.tmp 6],r [o 6 (.mv (i 0))] (r [m 7 1,m 8 2,b .sub 9 7 8,m 6 9] .ret)⟩
theorem Zg:aq Tryz.prog Tryz.f185=some HT:=by kernel_rfl
def HU:AF:=⟨3,10,[.tmp 6],r [o 6 (.mv (i 0))] (r [m 7 1,m 8 2,b .mul 9 7 8,m 6 9] .ret)⟩
theorem Zh:aq Tryz.prog Tryz.f186=some HU:=by kernel_rfl
def Dt:AF:=⟨3,14,[.tmp 6],r [o 6 (.mv (i 0))] (q (r [m 7 2,h .eql 8 7 0] (d 8 (r [m 9 0,c 10 182 [.t 9],m 6 10] .ret) .skip)) (r [m 11 1,m 12 2,b .quo 13 11 12,m 6 13] .ret))⟩
theorem Zi:aq Tryz.prog Tryz.f187=some Dt:=by kernel_rfl
def Du:AF:=⟨3,13,[.tmp 6],r [o 6 (.mv (i 0))] (q (r [m 7 2,h .eql 8 7 0] (d 8 (r [m 9 1,m 6 9] .ret) .skip)) (r [m 10 1,m 11 2,b .rem 12 10 11,m 6 12] .ret))⟩
theorem Zj:aq Tryz.prog Tryz.f188=some Du:=by kernel_rfl
def HV:AF:=⟨3,10,[.tmp 6],r [o 6 (.mv (i 0))] (r [m 7 1,m 8 2,b .and 9 7 8,m 6 9] .ret)⟩
theorem Zk:aq Tryz.prog Tryz.f189=some HV:=by kernel_rfl
def HW:AF:=⟨3,10,[.tmp 6],r [o 6 (.mv (i 0))] (r [m 7 1,m 8 2,b .or 9 7 8,m 6 9] .ret)⟩
theorem Zl:aq Tryz.prog Tryz.f190=some HW:=by kernel_rfl
def HX:AF:=⟨3,10,[.tmp 6],r [o 6 (.mv (i 0))] (r [m 7 1,m 8 2,b .xor 9 7 8,m 6 9] .ret)⟩
theorem Zm:aq Tryz.prog Tryz.f191=some HX:=by kernel_rfl
def HY:AF:=⟨3,11,[.tmp 6],r [o 6 (.mv (i 0))] (r [m 7 0,m 8 1,m 9 2,c 10 193 [.t 7,.t 8,.t 9,W],m 6 10] .ret)⟩
theorem Zn:aq Tryz.prog Tryz.f192=some HY:=by kernel_rfl
def a193:AF:=⟨4,23,[.tmp 8],r [o 8 (.mv (i 0))] (q (.block 0 (r [m 10 2,m 11 0,b .geq 12 10 11,m 9 12] (d 9 (r [o 8 (.mv (i 0))] .ret) (r [m 14 3,m 13 14] (d 13 (r [m 15 1,m 16 2,o 17 (.jU .u64 (.t 16)),b .shl 18 15 17,m 8 18] .ret) .skip))))) (r [m 19 1,m 20 2,o 21 (.jU .u64 (.t 20)),b .shr 22 19 21,m 8 22] .ret))⟩
theorem Zo:aq Tryz.prog Tryz.f193=some a193:=by kernel_rfl
def a194:AF:=⟨3,11,[.tmp 6],r [o 6 (.mv (i 0))] (r [m 7 0,m 8 1,m 9 2,c 10 193 [.t 7,.t 8,.t 9,F],m 6 10] .ret)⟩
theorem Zp:aq Tryz.prog Tryz.f194=some a194:=by kernel_rfl
def HZ:AF:=⟨3,11,[.tmp 6],r [o 6 (.mv (i 0))] (r [m 7 1,m 8 2,b .eql 9 7 8,c 10 196 [.t 9],m 6 10] .ret)⟩
theorem Zq:aq Tryz.prog Tryz.f195=some HZ:=by kernel_rfl
def a196:AF:=⟨1,4,[.tmp 2],r [o 2 (.mv (i 0))] (q (r [m 3 0] (d 3 (r [o 2 (.mv (i 1))] .ret) .skip)) (r [o 2 (.mv (i 0))] .ret))⟩
theorem Zr:aq Tryz.prog Tryz.f196=some a196:=by kernel_rfl
def Ia:AF:=⟨3,11,[.tmp 6],r [o 6 (.mv (i 0))] (r [m 7 1,m 8 2,b .lss 9 7 8,c 10 196 [.t 9],m 6 10] .ret)⟩
theorem Zs:aq Tryz.prog Tryz.f197=some Ia:=by kernel_rfl
def Et:T (Option AF):=(.node none (.node none (.node none (.node none (.node none (.node none (.node none .nil (.node (some HX) .nil .nil)) (.node none (.node (some a159) .nil .nil) .nil)) (.node (some UO) (.node (some Q5) (.node (some a143) .nil .nil) .nil) (.node (some HG) .nil .nil))) (.node none (.node (some UL) .nil (.node (some Q6) .nil .nil)) (.node none (.node (some a87) .nil .nil) (.node (some a119) (.node (some a183) .nil .nil) .nil)))) (.node (some UF) (.node none (.node none (.node (some UU) (.node (some a131) .nil .nil) (.node (some HZ) .nil .nil)) (.node none (.node (some Rc) .nil .nil) .nil)) (.node (some a51) (.node (some a83) (.node (some Q9) .nil .nil) .nil) (.node (some HI) (.node (some Rh) .nil .nil) .nil))) (.node none (.node none .nil (.node (some a107) (.node (some a171) .nil .nil) .nil)) (.node none (.node none (.node (some HM) .nil .nil) .nil) (.node none (.node (some Dt) .nil .nil) .nil))))) (.node (some a5) (.node none (.node (some UH) (.node none (.node (some US) (.node (some Ds) .nil .nil) (.node (some a193) .nil .nil)) (.node (some Kz) (.node (some Rb) .nil .nil) .nil)) (.node none (.node (some UZ) (.node (some a145) .nil .nil) .nil) (.node (some Q7) (.node (some HQ) .nil .nil) .nil))) (.node none (.node none .nil (.node (some a105) (.node (some Re) .nil .nil) .nil)) (.node none .nil (.node none (.node (some HT) .nil .nil) .nil)))) (.node none (.node (some a21) (.node (some a37) (.node (some UX) .nil (.node (some Ia) .nil .nil)) .nil) (.node (some a53) (.node (some a85) .nil .nil) (.node (some a117) (.node (some A9) .nil .nil) .nil))) (.node (some QZ) (.node (some UN) (.node (some UY) (.node (some a141) .nil .nil) .nil) (.node (some a109) (.node (some a173) .nil .nil) .nil)) (.node none (.node none (.node (some a157) .nil .nil) .nil) (.node none (.node (some HV) .nil .nil) .nil)))))) (.node none (.node none (.node none (.node (some UG) (.node none (.node none .nil (.node (some HY) .nil .nil)) (.node (some U1) (.node (some a160) .nil .nil) .nil)) (.node none (.node none (.node (some A7) .nil .nil) .nil) (.node (some Dr) (.node (some HP) .nil .nil) .nil))) (.node none (.node none .nil (.node (some HE) (.node (some a168) .nil .nil) .nil)) (.node none .nil (.node none (.node (some HS) .nil .nil) .nil)))) (.node (some a12) (.node none (.node (some UJ) (.node (some UW) (.node (some HJ) .nil .nil) (.node (some a196) .nil .nil)) .nil) (.node (some UQ) (.node (some a84) (.node (some a148) .nil .nil) .nil) (.node (some a116) (.node (some Ri) .nil .nil) .nil))) (.node none (.node (some UM) (.node (some a76) (.node (some HK) .nil .nil) .nil) (.node (some Dq) (.node (some Rg) .nil .nil) .nil)) (.node none .nil (.node none (.node (some Du) .nil .nil) .nil))))) (.node none (.node none (.node (some UI) (.node none (.node (some UT) (.node (some a130) .nil .nil) (.node (some a194) .nil .nil)) (.node none (.node (some a162) .nil .nil) .nil)) (.node none (.node (some U0) (.node (some a146) .nil .nil) .nil) (.node (some Q8) (.node (some HR) .nil .nil) .nil))) (.node none (.node none .nil (.node (some AZ) (.node (some Rf) .nil .nil) .nil)) (.node none (.node none (.node (some a154) .nil .nil) .nil) (.node none (.node (some HU) .nil .nil) .nil)))) (.node none (.node (some Ky) (.node (some UK) (.node (some a70) .nil .nil) (.node none (.node (some u6) .nil .nil) .nil)) (.node (some UR) (.node (some a86) (.node (some Ra) .nil .nil) .nil) (.node (some A0) (.node (some a182) .nil .nil) .nil))) (.node none (.node (some a46) (.node (some Pj) (.node (some HL) .nil .nil) .nil) (.node (some HF) (.node (some A8) .nil .nil) .nil)) (.node none (.node none (.node (some HO) .nil .nil) .nil) (.node none (.node (some HW) .nil .nil) .nil)))))))
def E:Env:=fun f=>Et.get none f
end Go.Proofs.YtppcmpmnglaleaaGreatDoor.A
namespace Go.Proofs.YtppcmpmnglaleaaGreatDoor.A
open Go
theorem Rj:xF Tryz.prog id Et:=(.node (fun F h=>by cases h) (.node (fun F h=>by cases h) (.node (fun F h=>by cases h) (.node (fun F h=>by cases h) (.node (fun F h=>by cases h) (.node (fun F h=>by cases h) (.node (fun F h=>by cases h) .nil (.node (fun F h=>(alP h)▸⟨_,Tryz.func191,Zm⟩) .nil .nil)) (.node (fun F h=>by cases h) (.node (fun F h=>(alP h)▸⟨_,Tryz.func159,YU⟩) .nil .nil) .nil)) (.node (fun F h=>(alP h)▸⟨_,Tryz.func47,c47⟩) (.node (fun F h=>(alP h)▸⟨_,Tryz.func79,c79⟩) (.node (fun F h=>(alP h)▸⟨_,Tryz.func143,YJ⟩) .nil .nil) .nil) (.node (fun F h=>(alP h)▸⟨_,Tryz.func111,Yt⟩) .nil .nil))) (.node (fun F h=>by cases h) (.node (fun F h=>(alP h)▸⟨_,Tryz.func39,c39⟩) .nil (.node (fun F h=>(alP h)▸⟨_,Tryz.func103,Yl⟩) .nil .nil)) (.node (fun F h=>by cases h) (.node (fun F h=>(alP h)▸⟨_,Tryz.func87,c87⟩) .nil .nil) (.node (fun F h=>(alP h)▸⟨_,Tryz.func119,YB⟩) (.node (fun F h=>(alP h)▸⟨_,Tryz.func183,Ze⟩) .nil .nil) .nil)))) (.node (fun F h=>(alP h)▸⟨_,Tryz.func11,c11⟩) (.node (fun F h=>by cases h) (.node (fun F h=>by cases h) (.node (fun F h=>(alP h)▸⟨_,Tryz.func67,c67⟩) (.node (fun F h=>(alP h)▸⟨_,Tryz.func131,YE⟩) .nil .nil) (.node (fun F h=>(alP h)▸⟨_,Tryz.func195,Zq⟩) .nil .nil)) (.node (fun F h=>by cases h) (.node (fun F h=>(alP h)▸⟨_,Tryz.func163,YY⟩) .nil .nil) .nil)) (.node (fun F h=>(alP h)▸⟨_,Tryz.func51,c51⟩) (.node (fun F h=>(alP h)▸⟨_,Tryz.func83,c83⟩) (.node (fun F h=>(alP h)▸⟨_,Tryz.func147,YN⟩) .nil .nil) .nil) (.node (fun F h=>(alP h)▸⟨_,Tryz.func115,Yx⟩) (.node (fun F h=>(alP h)▸⟨_,Tryz.func179,Za⟩) .nil .nil) .nil))) (.node (fun F h=>by cases h) (.node (fun F h=>by cases h) .nil (.node (fun F h=>(alP h)▸⟨_,Tryz.func107,Yp⟩) (.node (fun F h=>(alP h)▸⟨_,Tryz.func171,Y3⟩) .nil .nil) .nil)) (.node (fun F h=>by cases h) (.node (fun F h=>by cases h) (.node (fun F h=>(alP h)▸⟨_,Tryz.func155,YR⟩) .nil .nil) .nil) (.node (fun F h=>by cases h) (.node (fun F h=>(alP h)▸⟨_,Tryz.func187,Zi⟩) .nil .nil) .nil))))) (.node (fun F h=>(alP h)▸⟨_,Tryz.func5,c5⟩) (.node (fun F h=>by cases h) (.node (fun F h=>(alP h)▸⟨_,Tryz.func17,c17⟩) (.node (fun F h=>by cases h) (.node (fun F h=>(alP h)▸⟨_,Tryz.func65,c65⟩) (.node (fun F h=>(alP h)▸⟨_,Tryz.func129,YC⟩) .nil .nil) (.node (fun F h=>(alP h)▸⟨_,Tryz.func193,Zo⟩) .nil .nil)) (.node (fun F h=>(alP h)▸⟨_,Tryz.func97,c97⟩) (.node (fun F h=>(alP h)▸⟨_,Tryz.func161,YW⟩) .nil .nil) .nil)) (.node (fun F h=>by cases h) (.node (fun F h=>(alP h)▸⟨_,Tryz.func81,c81⟩) (.node (fun F h=>(alP h)▸⟨_,Tryz.func145,YL⟩) .nil .nil) .nil) (.node (fun F h=>(alP h)▸⟨_,Tryz.func113,Yv⟩) (.node (fun F h=>(alP h)▸⟨_,Tryz.func177,Y8⟩) .nil .nil) .nil))) (.node (fun F h=>by cases h) (.node (fun F h=>by cases h) .nil (.node (fun F h=>(alP h)▸⟨_,Tryz.func105,Yn⟩) (.node (fun F h=>(alP h)▸⟨_,Tryz.func169,Y1⟩) .nil .nil) .nil)) (.node (fun F h=>by cases h) .nil (.node (fun F h=>by cases h) (.node (fun F h=>(alP h)▸⟨_,Tryz.func185,Zg⟩) .nil .nil) .nil)))) (.node (fun F h=>by cases h) (.node (fun F h=>(alP h)▸⟨_,Tryz.func21,c21⟩) (.node (fun F h=>(alP h)▸⟨_,Tryz.func37,c37⟩) (.node (fun F h=>(alP h)▸⟨_,Tryz.func69,c69⟩) .nil (.node (fun F h=>(alP h)▸⟨_,Tryz.func197,Zs⟩) .nil .nil)) .nil) (.node (fun F h=>(alP h)▸⟨_,Tryz.func53,c53⟩) (.node (fun F h=>(alP h)▸⟨_,Tryz.func85,c85⟩) .nil .nil) (.node (fun F h=>(alP h)▸⟨_,Tryz.func117,Yz⟩) (.node (fun F h=>(alP h)▸⟨_,Tryz.func181,Zc⟩) .nil .nil) .nil))) (.node (fun F h=>(alP h)▸⟨_,Tryz.func29,c29⟩) (.node (fun F h=>(alP h)▸⟨_,Tryz.func45,c45⟩) (.node (fun F h=>(alP h)▸⟨_,Tryz.func77,c77⟩) (.node (fun F h=>(alP h)▸⟨_,Tryz.func141,YH⟩) .nil .nil) .nil) (.node (fun F h=>(alP h)▸⟨_,Tryz.func109,Yr⟩) (.node (fun F h=>(alP h)▸⟨_,Tryz.func173,Y5⟩) .nil .nil) .nil)) (.node (fun F h=>by cases h) (.node (fun F h=>by cases h) (.node (fun F h=>(alP h)▸⟨_,Tryz.func157,YS⟩) .nil .nil) .nil) (.node (fun F h=>by cases h) (.node (fun F h=>(alP h)▸⟨_,Tryz.func189,Zk⟩) .nil .nil) .nil)))))) (.node (fun F h=>by cases h) (.node (fun F h=>by cases h) (.node (fun F h=>by cases h) (.node (fun F h=>(alP h)▸⟨_,Tryz.func16,c16⟩) (.node (fun F h=>by cases h) (.node (fun F h=>by cases h) .nil (.node (fun F h=>(alP h)▸⟨_,Tryz.func192,Zn⟩) .nil .nil)) (.node (fun F h=>(alP h)▸⟨_,Tryz.func96,c96⟩) (.node (fun F h=>(alP h)▸⟨_,Tryz.func160,YV⟩) .nil .nil) .nil)) (.node (fun F h=>by cases h) (.node (fun F h=>by cases h) (.node (fun F h=>(alP h)▸⟨_,Tryz.func144,YK⟩) .nil .nil) .nil) (.node (fun F h=>(alP h)▸⟨_,Tryz.func112,Yu⟩) (.node (fun F h=>(alP h)▸⟨_,Tryz.func176,Y7⟩) .nil .nil) .nil))) (.node (fun F h=>by cases h) (.node (fun F h=>by cases h) .nil (.node (fun F h=>(alP h)▸⟨_,Tryz.func104,Ym⟩) (.node (fun F h=>(alP h)▸⟨_,Tryz.func168,Y0⟩) .nil .nil) .nil)) (.node (fun F h=>by cases h) .nil (.node (fun F h=>by cases h) (.node (fun F h=>(alP h)▸⟨_,Tryz.func184,Zf⟩) .nil .nil) .nil)))) (.node (fun F h=>(alP h)▸⟨_,Tryz.func12,c12⟩) (.node (fun F h=>by cases h) (.node (fun F h=>(alP h)▸⟨_,Tryz.func36,c36⟩) (.node (fun F h=>(alP h)▸⟨_,Tryz.func68,c68⟩) (.node (fun F h=>(alP h)▸⟨_,Tryz.func132,YF⟩) .nil .nil) (.node (fun F h=>(alP h)▸⟨_,Tryz.func196,Zr⟩) .nil .nil)) .nil) (.node (fun F h=>(alP h)▸⟨_,Tryz.func52,c52⟩) (.node (fun F h=>(alP h)▸⟨_,Tryz.func84,c84⟩) (.node (fun F h=>(alP h)▸⟨_,Tryz.func148,YO⟩) .nil .nil) .nil) (.node (fun F h=>(alP h)▸⟨_,Tryz.func116,Yy⟩) (.node (fun F h=>(alP h)▸⟨_,Tryz.func180,Zb⟩) .nil .nil) .nil))) (.node (fun F h=>by cases h) (.node (fun F h=>(alP h)▸⟨_,Tryz.func44,c44⟩) (.node (fun F h=>(alP h)▸⟨_,Tryz.func76,c76⟩) (.node (fun F h=>(alP h)▸⟨_,Tryz.func140,YG⟩) .nil .nil) .nil) (.node (fun F h=>(alP h)▸⟨_,Tryz.func108,Yq⟩) (.node (fun F h=>(alP h)▸⟨_,Tryz.func172,Y4⟩) .nil .nil) .nil)) (.node (fun F h=>by cases h) .nil (.node (fun F h=>by cases h) (.node (fun F h=>(alP h)▸⟨_,Tryz.func188,Zj⟩) .nil .nil) .nil))))) (.node (fun F h=>by cases h) (.node (fun F h=>by cases h) (.node (fun F h=>(alP h)▸⟨_,Tryz.func18,c18⟩) (.node (fun F h=>by cases h) (.node (fun F h=>(alP h)▸⟨_,Tryz.func66,c66⟩) (.node (fun F h=>(alP h)▸⟨_,Tryz.func130,YD⟩) .nil .nil) (.node (fun F h=>(alP h)▸⟨_,Tryz.func194,Zp⟩) .nil .nil)) (.node (fun F h=>by cases h) (.node (fun F h=>(alP h)▸⟨_,Tryz.func162,YX⟩) .nil .nil) .nil)) (.node (fun F h=>by cases h) (.node (fun F h=>(alP h)▸⟨_,Tryz.func82,c82⟩) (.node (fun F h=>(alP h)▸⟨_,Tryz.func146,YM⟩) .nil .nil) .nil) (.node (fun F h=>(alP h)▸⟨_,Tryz.func114,Yw⟩) (.node (fun F h=>(alP h)▸⟨_,Tryz.func178,Y9⟩) .nil .nil) .nil))) (.node (fun F h=>by cases h) (.node (fun F h=>by cases h) .nil (.node (fun F h=>(alP h)▸⟨_,Tryz.func106,Yo⟩) (.node (fun F h=>(alP h)▸⟨_,Tryz.func170,Y2⟩) .nil .nil) .nil)) (.node (fun F h=>by cases h) (.node (fun F h=>by cases h) (.node (fun F h=>(alP h)▸⟨_,Tryz.func154,YQ⟩) .nil .nil) .nil) (.node (fun F h=>by cases h) (.node (fun F h=>(alP h)▸⟨_,Tryz.func186,Zh⟩) .nil .nil) .nil)))) (.node (fun F h=>by cases h) (.node (fun F h=>(alP h)▸⟨_,Tryz.func22,c22⟩) (.node (fun F h=>(alP h)▸⟨_,Tryz.func38,c38⟩) (.node (fun F h=>(alP h)▸⟨_,Tryz.func70,c70⟩) .nil .nil) (.node (fun F h=>by cases h) (.node (fun F h=>(alP h)▸⟨_,Tryz.func166,YZ⟩) .nil .nil) .nil)) (.node (fun F h=>(alP h)▸⟨_,Tryz.func54,c54⟩) (.node (fun F h=>(alP h)▸⟨_,Tryz.func86,c86⟩) (.node (fun F h=>(alP h)▸⟨_,Tryz.func150,YP⟩) .nil .nil) .nil) (.node (fun F h=>(alP h)▸⟨_,Tryz.func118,YA⟩) (.node (fun F h=>(alP h)▸⟨_,Tryz.func182,Zd⟩) .nil .nil) .nil))) (.node (fun F h=>by cases h) (.node (fun F h=>(alP h)▸⟨_,Tryz.func46,c46⟩) (.node (fun F h=>(alP h)▸⟨_,Tryz.func78,c78⟩) (.node (fun F h=>(alP h)▸⟨_,Tryz.func142,YI⟩) .nil .nil) .nil) (.node (fun F h=>(alP h)▸⟨_,Tryz.func110,Ys⟩) (.node (fun F h=>(alP h)▸⟨_,Tryz.func174,Y6⟩) .nil .nil) .nil)) (.node (fun F h=>by cases h) (.node (fun F h=>by cases h) (.node (fun F h=>(alP h)▸⟨_,Tryz.func158,YT⟩) .nil .nil) .nil) (.node (fun F h=>by cases h) (.node (fun F h=>(alP h)▸⟨_,Tryz.func190,Zl⟩) .nil .nil) .nil)))))))
theorem Zt:C9 Tryz.prog E:=fun f F h=>Rj f F h
open Go
theorem mixed:Tryz.prog.follows .mixedOrders=true:=by kernel_rfl
def O:iq:=MD
theorem Zu:y8 Tryz.prog O:=HD
end Go.Proofs.YtppcmpmnglaleaaGreatDoor.A
set_option linter.unusedSimpArgs false
namespace Go.Proofs.YtppcmpmnglaleaaGreatDoor.A
open Go
def bP (w:Int):Bool:=decide (1≤w)&&decide (w≤8)
theorem xG {n:Nat} (h:n≤60):(2:Int)^n≤2^60:=by
 have:(2:Nat)^n≤2^60:=Nat.pow_le_pow_right (by omega) h
 exact_mod_cast this
theorem two_pow_pos (n:Nat):(1:Int)≤2^n:=by
 have:1≤(2:Nat)^n:=Nat.one_le_two_pow
 exact_mod_cast this
theorem ME (n:Nat) (hn:n≤60) (H:AH):Ca E O 81 [.int .i64 n] H (fun x H'=>x= .int .i64 (2^n)∧H'=H):=by
 refine Ca.Dh (F:=UZ) rfl rfl rfl ?_
 simp-implicitDefEqProofs [UZ,aS]
 refine zg (fun k fr H'=>H'=H∧∃i:Nat,i+k=n∧fr.get 0= .int .i64 n∧fr.get 3= .int .i64 (2^i)∧fr.get 4= .int .i64 i) ?_ n ⟨rfl,0,by simp,by simp,by simp,by simp⟩
 rintro k fr H' ⟨rfl,i,hi,h0,h3,h4⟩
 by_cases h:i<n
 ·have hp:=xG (n:=i+1) (by omega)
  have hq:=two_pow_pos i
  have he:(2:Int)^(i+1)=2*2^i:=by rw [Int.pow_succ,Int.mul_comm]
  simp-implicitDefEqProofs [aS,h0,h3,h4,h]
  rw [aj (n:=2*2^i) ⟨by omega,by omega⟩,aj (n:=(i:Int)+1) ⟨by omega,by omega⟩]
  exact ⟨k- 1,by omega,i+1,by omega,he.symm,by simp⟩
 ·simp-implicitDefEqProofs [aS,h0,h3,h4,h]
  rw [show i=n by omega]
def isWord (w a:Int):Bool:=bP w&&(decide (0≤a)&&decide (a<2^w.toNat))
open Go
def kf (c:Int):Bool:=decide (97≤c)&&decide (c≤122)
def isDigit (c:Int):Bool:=decide (48≤c)&&decide (c≤57)
def tq (s:ByteArray):Bool:=ch s ⟨#[119,105,100,116,104]⟩||(ch s ⟨#[118,97,114]⟩||(ch s ⟨#[105,102]⟩||(ch s ⟨#[101,108,115,101]⟩||(ch s ⟨#[119,104,105,108,101]⟩||(ch s ⟨#[111,117,116]⟩||(ch s ⟨#[112,105,99,107]⟩||(ch s ⟨#[110,101,101,100]⟩||(ch s ⟨#[109,117,115,116]⟩||(ch s ⟨#[108,101,118,101,108]⟩||(ch s ⟨#[115,101,101,115]⟩))))))))))
def iZ (c:Int):Bool:=kf c||(isDigit c||decide (c=95))
def isName (s:ByteArray):Bool:=decide (1≤s.size)&&(decide (s.size≤12)&&(kf (dU s 0)&&(!tq s&&(List.range s.size).all fun i=>iZ (dU s i))))
end Go.Proofs.YtppcmpmnglaleaaGreatDoor.A
namespace Go.Proofs.YtppcmpmnglaleaaGreatDoor.A
open Go
structure Vr where
 name:ByteArray
 level:Int
 cells:Int
def Vr.row (v:Vr):List Value:=[.string v.name,.int .i64 v.level,.int .i64 v.cells]
def dA (H:AH) (v:Value) (l:List Vr):Prop:=Rows H 3 v (l.map Vr.row)
theorem dA.ext {H H':AH} (E:Ext H H') {v:Value} {l:List Vr} (h:dA H v l):dA H' v l:=Rows.ext E h
theorem dA.len {H:AH} {v:Value} {l:List Vr} (h:dA H v l):∃a c,v= .slice a l.length c:=by
 obtain ⟨a,c,e⟩:=Rows.len h
 exact ⟨a,c,by simpa using e⟩
theorem dA.at {H:AH} {v:Value} {l:List Vr} (h:dA H v l) {i:Nat} {x:Vr} (hi:l[i]?=some x):
 ∃b o c,v= .slice (some ⟨b,o,none⟩) l.length c∧H.ldn ⟨b,o+i*3,none⟩ 3=some x.row∧H.ld ⟨b,o+i*3,none⟩=some (.string x.name)∧H.ld ⟨b,o+i*3+1,none⟩=some (.int .i64 x.level)∧H.ld ⟨b,o+i*3+2,none⟩=some (.int .i64 x.cells):=by
 obtain ⟨b,o,c,e,h2⟩:=Rows.at h (i:=i) (r:=x.row) (by simp [hi])
 exact ⟨b,o,c,by simpa using e,h2,by simpa using aG h2 (j:=0) rfl,aG h2 (j:=1) rfl,aG h2 (j:=2) rfl⟩
def jL (l:List Vr) (s:ByteArray):Int:=match l.findIdx? (fun v=>ch v.name s)with|some i=>i|none=>-1
theorem xH {l:List Vr} {s:ByteArray} {i:Nat} {x:Vr} (hi:l[i]?=some x) (hx:ch x.name s=true) (hb:∀j y,j<i→l[j]?=some y→ch y.name s=false):jL l s=i:=by
 have:l.findIdx? (fun v=>ch v.name s)=some i:=by
  rw [List.findIdx?_eq_some_iff_getElem]
  obtain ⟨h,e⟩:=alT.1 hi
  refine ⟨h,by rw [e];exact hx,fun j hj=>?_⟩
  rw [hb j _ hj (alN (by omega))]
  simp
 unfold jL;rw [this]
def cS (l:List Int):Int:=l.foldl (fun a c=>IntKind.i64.wrap (a+c)) 0
def iy (l:List Vr) (i:Nat) (v:Vr):Bool:=isName v.name&&(decide (0≤v.level)&&(decide (v.level≤47)&&(decide (1≤v.cells)&&(decide (v.cells≤8)&&decide (jL l v.name=i)))))
def aD (w:Int) (l:List Vr):Bool:=bP w&&(decide (1≤l.length)&&(decide (l.length≤18)&&((List.range l.length).all (fun i=>match l[i]? with|some v=>iy l i v|none=>true)&&decide (cS (l.map (·.cells))≤48))))
theorem oM {l:List Vr} {i:Nat} {v:Vr} (h:iy l i v=true):1≤v.cells∧v.cells≤8:=by
 simp [iy]at h
 exact ⟨h.2.2.2.1,h.2.2.2.2.1⟩
def nL (l:List Vr):Prop:=l.length<2^60∧∀v∈l,v.name.size<2^60
open Go
inductive cn where
 |mk (op n cp:Int) (args:List cn)
def cn.op:cn→Int| .mk a _ _ _=>a
def cn.n:cn→Int| .mk _ a _ _=>a
def cn.cp:cn→Int| .mk _ _ a _=>a
mutual
inductive pG (H:AH):List Value→cn→Prop where
 |mk {op n cp:Int} {v:Value} {rows:List (List Value)} {args:List cn}:e8 op→e8 n→e8 cp→args.length<2^60→Rows H 4 v rows→eZ H rows args→pG H [.int .i64 op,.int .i64 n,.int .i64 cp,v] (.mk op n cp args)
inductive eZ (H:AH):List (List Value)→List cn→Prop where
 |nil:eZ H [] []
 |cons {r:List Value} {e:cn} {rs:List (List Value)} {es:List cn}:pG H r e→eZ H rs es→eZ H (r::rs) (e::es)
end
mutual
theorem pG.ext {H H':AH} (E:Ext H H') {c:List Value} {e:cn}:pG H c e→pG H' c e
 | .mk a b c d r l=>.mk a b c d (r.ext E) (eZ.ext E l)
theorem eZ.ext {H H':AH} (E:Ext H H') {c:List (List Value)} {e:List cn}:eZ H c e→eZ H' c e
 | .nil=>.nil
 | .cons a b=>.cons (pG.ext E a) (eZ.ext E b)
end
theorem eZ.length {H:AH}:∀{c:List (List Value)} {e:List cn},eZ H c e→c.length=e.length
 |_,_,.nil=>rfl
 |_,_,.cons _ b=>by simp [eZ.length b]
theorem eZ.at {H:AH}:∀{c:List (List Value)} {e:List cn} {i:Nat} {x:cn},eZ H c e→e[i]?=some x→∃r,c[i]?=some r∧pG H r x
 |_,_,i,x,.nil,h=>by simp at h
 |_,_,0,x,.cons a b,h=>by simp at h;subst h;exact ⟨_,rfl,a⟩
 |_,_,i+1,x,.cons a b,h=>by obtain ⟨r,h1,h2⟩:=eZ.at b (by simpa using h);exact ⟨r,by simpa using h1,h2⟩
theorem qu {op n cp:Int} {args:List cn} {i:Nat} {x:cn} (h:args[i]?=some x):SizeOf.sizeOf x<SizeOf.sizeOf (cn.mk op n cp args):=by
 have:=List.sizeOf_lt_of_mem (alS h)
 simp
 omega
mutual
def zh:cn→Int→Int
 | .mk _ _ _ args,most=>if most<1 then 0 else mI args (most- 1)
def mI:List cn→Int→Int
 |[],n=>n
 |e::es,n=>mI es (zh e n)
end
@[simp]theorem fh (c:Array Value):aP (.agg c)=c.toList:=rfl
@[simp]theorem Pk (c:Array Value):cv (.agg c)=false:=rfl
end Go.Proofs.YtppcmpmnglaleaaGreatDoor.A
namespace Go.Proofs.YtppcmpmnglaleaaGreatDoor.A
open Go
mutual
def ar:cn→Int
 | .mk _ _ _ args=>1+al args
def al:List cn→Int
 |[]=>0
 |e::es=>ar e+al es
end
mutual
def cJ:cn→Int
 | .mk _ _ _ args=>eB args 0+1
def eB:List cn→Int→Int
 |[],n=>n
 |e::es,n=>eB es (max n (cJ e))
end
theorem mJ {M:cn→Prop} (h:∀op n cp args,(∀e∈args,M e)→M (.mk op n cp args)):∀e,M e:=by
 have key:∀(N:Nat) (e:cn),SizeOf.sizeOf e<N→M e:=by
  intro N
  induction N with
  |zero=>intro e h;omega
  |succ N ih=>
   intro e he
   obtain ⟨op,n,cp,args⟩:=e
   refine h op n cp args fun e hm=>ih e ?_
   have:=List.sizeOf_lt_of_mem hm
   simp at he
   omega
 exact fun e=>key _ e (al2 _)
theorem lE {l:List cn} (h:∀e∈l,1≤ar e):0≤al l:=by
 induction l with
 |nil=>simp [al]
 |cons e es ih=>
  rw [al]
  have h1:=h e (by simp)
  have h2:=ih fun x hx=>h x (by simp [hx])
  omega
theorem dV:∀e,1≤ar e:=mJ fun op n cp args ih=>by
 rw [ar]
 have:=lE ih
 omega
theorem bu (l:List cn):0≤al l:=lE fun e _=>dV e
theorem Dv:∀e m,zh e m=max (m- ar e) 0:=mJ fun op n cp args ih m=>by
 have key:∀(l:List cn) (k:Int),(∀e∈l,∀m,zh e m=max (m- ar e) 0)→0≤k→mI l k=max (k- al l) 0:=by
  intro l
  induction l with
  |nil=>intro k _ hk;rw [mI,al];omega
  |cons x l ts=>
   intro k hl hk
   rw [mI,al,hl x (by simp),ts _ (fun e he=>hl e (by simp [he])) (by omega)]
   have:=bu l
   omega
 rw [zh,ar]
 have:=bu args
 split
 ·omega
 ·rw [key args (m- 1) ih (by omega)]
  omega
theorem tt:∀e,1≤cJ e∧cJ e≤ar e:=mJ fun op n cp args ih=>by
 have key:∀(l:List cn) (k:Int),(∀e∈l,1≤cJ e∧cJ e≤ar e)→0≤k→k≤eB l k∧eB l k≤max k (al l):=by
  intro l
  induction l with
  |nil=>intro k _ hk;rw [eB,al];omega
  |cons x l ts=>
   intro k hl hk
   rw [eB,al]
   have h1:=hl x (by simp)
   have h2:=ts (max k (cJ x)) (fun e he=>hl e (by simp [he])) (by omega)
   have h3:=bu l
   omega
 rw [cJ,ar]
 have:=key args 0 ih (by omega)
 have:=bu args
 omega
theorem ba {H:AH} (hw:H.n0≤H.nx) {z:Nat} {c:List Value} (n:Nat) (hn:c.length=n):(H.alloc (.cells z c)).ldn ⟨H.nx,0,none⟩ n=some c:=by
 rw [←hn];exact pF hw z c
def KA (op:Int):Bool:=(decide (2≤op)&&decide (op≤11))||(decide (op=13)||decide (op=14))
def tu (op:Int):Int:=if op=0 then 0 else if op=12 then 1 else if op=15 then 3 else if KA op=true then 2 else-1
open Go
def ak (l:List Vr) (n:Int):Int:=match l[n.toNat]? with|some v=>v.cells|none=>0
def qv (w:Int) (l:List Vr) (k:Int) (op n cp:Int) (na:Nat):Bool:=
 if op=1 then(!(decide (n<0)||(decide ((l.length:Int)≤n)||(decide (cp<0)||decide (k≤cp))))&&decide ((na:Int)=if 1<ak l n then 1 else 0))
 else(!(!decide (cp=0)|| !decide ((na:Int)=tu op))&&(if op=0 then isWord w n else decide (n=0)))
mutual
def dP (w:Int) (l:List Vr) (k:Int):cn→Bool
 | .mk op n cp args=>qv w l k op n cp args.length&&u7 w l k args
def u7 (w:Int) (l:List Vr) (k:Int):List cn→Bool
 |[]=>true
 |e::es=>dP w l k e&&u7 w l k es
end
theorem kO {w:Int} {l:List Vr} {k:Int}:∀{es:List cn},u7 w l k es=true↔∀e∈es,dP w l k e=true
 |[]=>by simp [u7]
 |e::es=>by simp [u7,kO (es:=es)]
def lF (w:Int) (l:List Vr) (k:Int) (e:cn):Bool:=decide (ar e≤400)&&(decide (cJ e≤16)&&dP w l k e)
end Go.Proofs.YtppcmpmnglaleaaGreatDoor.A
namespace Go.Proofs.YtppcmpmnglaleaaGreatDoor.A
open Go
inductive bI where
 |mk (op n:Int) (args:List cn) (aB aC:List bI)
mutual
inductive lU (H:AH):List Value→bI→Prop where
 |mk {op n:Int} {va vt ve:Value} {ra rt re:List (List Value)} {args:List cn} {aB aC:List bI}:e8 op→e8 n→args.length<2^60→aB.length<2^60→aC.length<2^60→
  Rows H 4 va ra→eZ H ra args→Rows H 5 vt rt→gU H rt aB→Rows H 5 ve re→gU H re aC→lU H [.int .i64 op,.int .i64 n,va,vt,ve] (.mk op n args aB aC)
inductive gU (H:AH):List (List Value)→List bI→Prop where
 |nil:gU H [] []
 |cons {r:List Value} {e:bI} {rs:List (List Value)} {es:List bI}:lU H r e→gU H rs es→gU H (r::rs) (e::es)
end
mutual
theorem lU.ext {H H':AH} (E:Ext H H') {c:List Value} {e:bI}:lU H c e→lU H' c e
 | .mk a b c d e ra la rt lt re le=>.mk a b c d e (ra.ext E) (eZ.ext E la) (rt.ext E) (gU.ext E lt) (re.ext E) (gU.ext E le)
theorem gU.ext {H H':AH} (E:Ext H H') {c:List (List Value)} {e:List bI}:gU H c e→gU H' c e
 | .nil=>.nil
 | .cons a b=>.cons (lU.ext E a) (gU.ext E b)
end
theorem gU.length {H:AH}:∀{c:List (List Value)} {e:List bI},gU H c e→c.length=e.length
 |_,_,.nil=>rfl
 |_,_,.cons _ b=>by simp [gU.length b]
theorem gU.at {H:AH}:∀{c:List (List Value)} {e:List bI} {i:Nat} {x:bI},gU H c e→e[i]?=some x→∃r,c[i]?=some r∧lU H r x
 |_,_,i,x,.nil,h=>by simp at h
 |_,_,0,x,.cons a b,h=>by simp at h;subst h;exact ⟨_,rfl,a⟩
 |_,_,i+1,x,.cons a b,h=>by obtain ⟨r,h1,h2⟩:=gU.at b (by simpa using h);exact ⟨r,by simpa using h1,h2⟩
theorem Dw {l:List bI} {i:Nat} {op n:Int} {args:List cn} {aB aC:List bI} (h:l[i]?=some (.mk op n args aB aC)):SizeOf.sizeOf aB<SizeOf.sizeOf l∧SizeOf.sizeOf aC<SizeOf.sizeOf l:=by
 have:=List.sizeOf_lt_of_mem (alS h)
 simp at this
 omega
mutual
def Dx:bI→Int→Int
 | .mk _ _ args aB aC,m=>kP aC (kP aB (mI args (m- 1)))
def kP:List bI→Int→Int
 |[],m=>m
 |s::ss,m=>if 0<m then kP ss (Dx s m)else m
end
theorem gU.row {H:AH} {v:Value} {rows:List (List Value)} {l:List bI} (hr:Rows H 5 v rows) (hl:gU H rows l) {i:Nat} {op n:Int} {args:List cn} {aB aC:List bI} (hy:l[i]?=some (.mk op n args aB aC)):
 ∃b o c va vt ve ra rt re,v= .slice (some ⟨b,o,none⟩) l.length c∧H.ldn ⟨b,o+i*5,none⟩ 5=some [.int .i64 op,.int .i64 n,va,vt,ve]∧
  H.ld ⟨b,o+i*5,none⟩=some (.int .i64 op)∧H.ld ⟨b,o+i*5+1,none⟩=some (.int .i64 n)∧H.ld ⟨b,o+i*5+2,none⟩=some va∧H.ld ⟨b,o+i*5+3,none⟩=some vt∧H.ld ⟨b,o+i*5+4,none⟩=some ve∧
  e8 op∧e8 n∧args.length<2^60∧aB.length<2^60∧aC.length<2^60∧Rows H 4 va ra∧eZ H ra args∧Rows H 5 vt rt∧gU H rt aB∧Rows H 5 ve re∧gU H re aC:=by
 obtain ⟨r,Zv,hc⟩:=hl.at hy
 obtain ⟨b,o,c,hv,bN⟩:=hr.at Zv
 rw [hl.length]at hv
 cases hc with| @mk _ _ va vt ve ra rt re _ _ _ i1 i2 i3 i4 i5 h1 h2 h3 h4 h5 h6=>
 exact ⟨b,o,c,va,vt,ve,ra,rt,re,hv,bN,by simpa using aG bN (j:=0) rfl,aG bN (j:=1) rfl,aG bN (j:=2) rfl,aG bN (j:=3) rfl,aG bN (j:=4) rfl,i1,i2,i3,i4,i5,h1,h2,h3,h4,h5,h6⟩
open Go
end Go.Proofs.YtppcmpmnglaleaaGreatDoor.A
namespace Go.Proofs.YtppcmpmnglaleaaGreatDoor.A
open Go
mutual
def a8:bI→Int
 | .mk _ _ args aB aC=>1+al args+av aB+av aC
def av:List bI→Int
 |[]=>0
 |s::ss=>a8 s+av ss
end
theorem tv {M:List bI→Prop} (h:∀l,(∀op n args aB aC,.mk op n args aB aC∈l→M aB∧M aC)→M l):∀l,M l:=by
 have key:∀(N:Nat) (l:List bI),SizeOf.sizeOf l<N→M l:=by
  intro N
  induction N with
  |zero=>intro l h;omega
  |succ N ih=>
   intro l hl
   refine h l fun op n args aB aC hm=>?_
   have:=List.sizeOf_lt_of_mem hm
   simp at this
   exact ⟨ih aB (by omega),ih aC (by omega)⟩
 exact fun l=>key _ l (al2 _)
theorem Dy (l:List cn) (k:Int) (hk:0≤k):mI l k=max (k- al l) 0:=by
 induction l generalizing k with
 |nil=>rw [mI,al];omega
 |cons x l ts=>
  rw [mI,al,Dv,ts _ (by omega)]
  have:=bu l
  omega
theorem jr:∀l,0≤av l∧∀m,0≤m→kP l m=max (m- av l) 0:=tv fun l ih=>by
 induction l with
 |nil=>exact ⟨by rw [av];omega,fun m hm=>by rw [kP,av];omega⟩
 |cons s ss ts=>
  obtain ⟨op,n,args,aB,aC⟩:=s
  obtain ⟨⟨t0,t1⟩,⟨u0,u1⟩⟩:=ih op n args aB aC (by simp)
  obtain ⟨v0,v1⟩:=ts fun op n args aB aC h=>ih op n args aB aC (by simp [h])
  have a0:=bu args
  refine ⟨by rw [av,a8];omega,fun m hm=>?_⟩
  rw [kP,av,a8]
  split
  ·rw [Dx,Dy _ _ (by omega),t1 _ (by omega),u1 _ (by omega),v1 _ (by omega)]
   omega
  ·omega
def rZ (l:List Vr) (n:Int) (na:Nat) (more:Int):Bool:=decide (0≤n)&&(decide (n<l.length)&&decide ((na:Int)=more+if 1<ak l n then 1 else 0))
open Go
mutual
def kQ:bI→Int→Int
 | .mk _ _ _ aB aC,n=>max (max n (1+bO aB 0)) (1+bO aC 0)
def bO:List bI→Int→Int
 |[],n=>n
 |s::ss,n=>bO ss (kQ s n)
end
theorem tw:∀l,∀k,0≤k→k≤bO l k∧bO l k≤max k (av l):=tv fun l ih=>by
 induction l with
 |nil=>intro k hk;rw [bO,av];omega
 |cons s ss ts=>
  obtain ⟨op,n,args,aB,aC⟩:=s
  intro k hk
  obtain ⟨t,u⟩:=ih op n args aB aC (by simp)
  have t:=t 0 (by omega)
  have u:=u 0 (by omega)
  have t2:=(jr aB).1
  have u2:=(jr aC).1
  have v2:=(jr ss).1
  have a0:=bu args
  rw [bO,av,a8,kQ]
  have w:=ts (fun op n args aB aC h=>ih op n args aB aC (by simp [h])) (max (max k (1+bO aB 0)) (1+bO aC 0)) (by omega)
  omega
end Go.Proofs.YtppcmpmnglaleaaGreatDoor.A
namespace Go.Proofs.YtppcmpmnglaleaaGreatDoor.A
open Go
def tz (l:List Vr) (op n:Int) (na nt ne:Nat):Bool:=
 if op=0 then(decide (nt=0)&&decide (ne=0))&&rZ l n na 1
 else if op=1 then decide (n=0)&&decide (na=1)
 else if op=2 then decide (n=0)&&(decide (na=1)&&decide (ne=0))
 else if op=3 then(decide (nt=0)&&decide (ne=0))&&(decide (0≤n)&&(decide (n≤47)&&decide (na=1)))
 else if op=4 then(decide (nt=0)&&decide (ne=0))&&rZ l n na 0
 else if op=5∨op=6 then(decide (nt=0)&&decide (ne=0))&&(decide (n=0)&&decide (na=1))
 else false
open Go
mutual
def fF (w:Int) (V:List Vr):bI→Bool
 | .mk op n args aB aC=>tz V op n args.length aB.length aC.length&&(fX w V aB&&(fX w V aC&&args.all (lF w V 1)))
def fX (w:Int) (V:List Vr):List bI→Bool
 |[]=>true
 |s::ss=>fF w V s&&fX w V ss
end
theorem nM {w:Int} {V:List Vr}:∀{es:List bI},fX w V es=true↔∀e∈es,fF w V e=true
 |[]=>by simp [fX]
 |e::es=>by simp [fX,nM (es:=es)]
end Go.Proofs.YtppcmpmnglaleaaGreatDoor.A
namespace Go.Proofs.YtppcmpmnglaleaaGreatDoor.A
open Go
structure bH where
 w:Int
 vars:List Vr
 body:List bI
structure ph (H:AH) (c:List Value) (p:bH):Prop where
 is:∃vv vb rb,c=[.int .i64 p.w,vv,vb]∧e8 p.w∧dA H vv p.vars∧nL p.vars∧Rows H 5 vb rb∧gU H rb p.body∧p.body.length<2^60
theorem ph.ext {H H':AH} (E:Ext H H') {c:List Value} {p:bH} (h:ph H c p):ph H' c p:=by
 obtain ⟨vv,vb,rb,e,a,b,c',d,f,g⟩:=h.is
 exact ⟨vv,vb,rb,e,a,b.ext E,c',d.ext E,gU.ext E f,g⟩
theorem ph.len {H:AH} {c:List Value} {p:bH} (h:ph H c p):c.length=3:=by
 obtain ⟨vv,vb,rb,e,_⟩:=h.is
 rw [e];rfl
def bQ (p:bH):Bool:=aD p.w p.vars&&(decide (av p.body≤400)&&(decide (bO p.body 0≤16)&&fX p.w p.vars p.body))
open Go
theorem eY.ext {H H':AH} (E:Ext H H') {v:Value} {l:List Int} (h:eY H v l):eY H' v l:=Rows.ext E h
def bX (w:Int) (V:List Vr) (l:List Int):Bool:=decide ((l.length:Int)=cS (V.map (·.cells)))&&l.all (isWord w)
structure fy where
 store:List Int
 bR:List Int
structure u9 (H:AH) (c:List Value) (s:fy):Prop where
 is:∃vs vp,c=[vs,vp]∧eY H vs s.store∧eY H vp s.bR∧s.store.length<2^60∧s.bR.length<2^60∧(∀n∈s.store,e8 n)∧∀n∈s.bR,e8 n
theorem u9.ext {H H':AH} (E:Ext H H') {c:List Value} {s:fy} (h:u9 H c s):u9 H' c s:=by
 obtain ⟨vs,vp,e,a,b,f,g⟩:=h.is
 exact ⟨vs,vp,e,a.ext E,b.ext E,f,g⟩
def jM (p:bH) (s:fy):Bool:=bX p.w p.vars s.store&&(decide (s.bR.length≤16)&&s.bR.all (isWord p.w))
def fS (p:bH) (fuel:Int) (t:fy):Int:=if bQ p=false then 30 else if fuel<0∨4096<fuel then 1 else if jM p t=false then 50 else 0
end Go.Proofs.YtppcmpmnglaleaaGreatDoor.A
namespace Go.Proofs.YtppcmpmnglaleaaGreatDoor.A
open Go
section
variable{E:Env} {O:iq} {ks:List Ko} {fr:Fr} {H:AH} {Q:Ex→Fr→AH→Prop}
def dG (b:Bool):Value→Bool
 | .bool c=>c==b
 |_=>false
@[simp]theorem U2 (c:Bool):dG true (.bool c)=c:=by cases c<;>rfl
@[simp]theorem U3 (c:Bool):dG false (.bool c)= !c:=by cases c<;>rfl
@[simp]theorem U4 (b:Bool):dG b undef=false:=rfl
def br (c a b:Prop):Prop:=(c→a)∧(¬ c→b)
@[congr]theorem Rl {c c' a a' b b':Prop} (h1:c=c') (h2:c'→a=a') (h3:¬ c'→b=b'):br c a b=br c' a' b':=by
 subst h1
 unfold br
 exact propext ⟨fun k=>⟨fun h=>h2 h▸k.1 h,fun h=>h3 h▸k.2 h⟩,fun k=>⟨fun h=>(h2 h).symm▸k.1 h,fun h=>(h3 h).symm▸k.2 h⟩⟩
@[simp]theorem MF (a b:Prop):br True a b=a:=propext ⟨fun h=>h.1 trivial,fun h=>⟨fun _=>h,fun k=>(k trivial).elim⟩⟩
@[simp]theorem MG (a b:Prop):br False a b=b:=propext ⟨fun h=>h.2 id,fun h=>⟨fun k=>k.elim,fun _=>h⟩⟩
@[simp]theorem adP (c:Prop):br c True True=True:=propext ⟨fun _=>trivial,fun _=>⟨fun _=>trivial,fun _=>trivial⟩⟩
theorem xI {c a b:Prop} (h:c→a) (k:¬ c→b):br c a b:=⟨h,k⟩
theorem kR (t:Nat) (b:Bool) (d:Option Nat) (p:cl):(AO.mk (some (t,b)) d p).wanted fr=dG b (fr.get t):=by
 unfold AO.wanted dG
 simp only
 split<;>rename_i h<;>simp_all
theorem Zw (t:Nat) (b:Bool) (d:Option Nat) (p:cl) (l:List AO):Wr E O (⟨some (t,b),d,p⟩::l) ks fr H Q↔
 br (dG b (fr.get t)=true) (Wr E O (⟨none,d,p⟩::l) ks fr H Q) (Wr E O l ks (fr.aM d undef) H Q):=by
 by_cases hw:dG b (fr.get t)=true
 ·simp only [hw,MF]
  exact QL _ _ _ (by unfold dG at hw;split at hw<;>simp_all)
 ·simp only [hw]
  rw [show(false=true)=False by simp,MG]
  exact Mg _ _ _ (by intro h;rw [h]at hw;simp [dG]at hw)
theorem Zx {l0:List AO} {ck:List (Nat×Nat×Nat)} {acc:List (Fr×AH)} (t:Nat) (b:Bool) (d:Option Nat) (p:cl) (l:List AO):Wd E O l0 ck acc (⟨some (t,b),d,p⟩::l) ks fr H Q↔
 br (dG b (fr.get t)=true) (Wd E O l0 ck acc (⟨none,d,p⟩::l) ks fr H Q) (Wd E O l0 ck ((fr.aM d undef,H)::acc) l ks (fr.aM d undef) H Q):=by
 by_cases hw:dG b (fr.get t)=true
 ·simp only [hw,MF]
  exact QM _ _ _ (by unfold dG at hw;split at hw<;>simp_all)
 ·simp only [hw]
  rw [show(false=true)=False by simp,MG]
  exact Mi _ _ _ (by intro h;rw [h]at hw;simp [dG]at hw)
@[simp]theorem Pl (f:Fr) (d:Nat) (v:Value):f.aM (some d) v=f.put d v:=rfl
@[simp]theorem Pm (f:Fr) (v:Value):f.aM none v=f:=rfl
def Dz:Value→Bool
 | .bool _=>true
 |_=>false
@[simp]theorem Zy (c:Bool):Dz (.bool c)=true:=rfl
theorem Zz {x:X} {a b:AC}:Wk E O (.cond x a b) ks fr H Q↔Dz (x.ev fr)=true∧br (dG true (x.ev fr)=true) (Wk E O a ks fr H Q) (Wk E O b ks fr H Q):=by
 cases hx:x.ev fr with
 |bool c=>
  cases c
  ·simp [Dg hx]
  ·simp [Df hx]
 |_=>
  refine ⟨?_,fun h=>by simp [Dz]at h⟩
  rintro ⟨n,ex,bG,H',e,q⟩
  cases n with
  |zero=>simp [aA]at e
  |succ n=>
   rw [aA,hx]at e
   cases e
end
structure Mod (S:Nat→Prop) (H H':AH):Prop where
 n0:H'.n0=H.n0
 nx:H.nx≤H'.nx
 old:∀b,b<H.nx→¬ S b→H'.get b=H.get b
theorem Mod.refl (S:Nat→Prop) (H:AH):Mod S H H:=⟨rfl,alR _,fun _ _ _=>rfl⟩
theorem Mod.trans {S:Nat→Prop} {a b c:AH} (h:Mod S a b) (k:Mod S b c):Mod S a c:=⟨k.n0.trans h.n0,Nat.le_trans h.nx k.nx,fun x hx hs=>(k.old x (Nat.lt_of_lt_of_le hx h.nx) hs).trans (h.old x hx hs)⟩
theorem Mod.bE {S:Nat→Prop} {a b:AH} (h:Ext a b):Mod S a b:=⟨h.n0,h.nx,fun x hx _=>h.old x hx⟩
theorem Mod.mono {S T:Nat→Prop} {a b:AH} (h:Mod S a b) (k:∀x,x<a.nx→S x→T x):Mod T a b:=⟨h.n0,h.nx,fun x hx ht=>h.old x hx fun hs=>ht (k x hx hs)⟩
theorem Ext.mod {S:Nat→Prop} {a b c:AH} (h:Ext a b) (k:Mod S b c) (hs:∀x,S x→a.nx≤x):Ext a c:=⟨k.n0.trans h.n0,Nat.le_trans h.nx k.nx,fun x hx=>(k.old x (Nat.lt_of_lt_of_le hx h.nx) (fun q=>absurd (hs x q) (Nat.not_le.2 hx))).trans (h.old x hx)⟩
theorem Mod.get {S:Nat→Prop} {a b:AH} (h:Mod S a b) {x:Nat} (hs:¬ S x) {y:nC} (k:a.get x=some y):b.get x=some y:=by rw [h.old x (AH.aL k) hs];exact k
theorem Mod.ldn {S:Nat→Prop} {H H':AH} (h:Mod S H H') {a:Addr} {n:Nat} {vs:List Value} (hs:¬ S a.block) (k:H.ldn a n=some vs):H'.ldn a n=some vs:=by
 obtain ⟨x,hx⟩:=Option.isSome_iff_exists.1 (cB k).1
 rw [←k]
 exact dT (h.old _ (AH.aL hx) hs) h.n0
theorem Mod.ld {S:Nat→Prop} {H H':AH} (h:Mod S H H') {a:Addr} {v:Value} (hs:¬ S a.block) (k:H.ld a=some v):H'.ld a=some v:=bm.2 (h.ldn hs (bm.1 k))
theorem Mod.wf {S:Nat→Prop} {H H':AH} (h:Mod S H H') (w:H.n0≤H.nx):H'.n0≤H'.nx:=by rw [h.n0];exact Nat.le_trans w h.nx
theorem bw {H:AH} {b z k:Nat} {c vs:List Value} (hg:H.get b=some (.cells z c)) (h0:H.n0≤b) (hl:k+vs.length≤c.length):
 ∃H2,H.st ⟨b,k,none⟩ vs=some H2∧Mod (fun x=>x=b) H H2∧H2.nx=H.nx∧H2.n0=H.n0∧H2.get b=some (.cells z (aF c k vs)):=by
 have hb:=AH.aL hg
 refine ⟨H.put b (some (.cells z (aF c k vs))),?_,⟨rfl,alR _,fun x hx hs=>?_⟩,rfl,rfl,?_⟩
 ·unfold AH.st
  simp [hg,h0,hl]
 ·rw [AH.bj _ _ _ _ hb,if_neg hs]
 ·rw [AH.bj _ _ _ _ hb,if_pos rfl]
theorem gq {H:AH} (w:H.n0≤H.nx) {z:Nat} {c vs:List Value} (hl:vs.length=c.length):
 ∃H2,(H.alloc (.cells z c)).st ⟨H.nx,0,none⟩ vs=some H2∧Ext H H2∧H2.nx=H.nx+1∧H2.n0=H.n0∧H2.get H.nx=some (.cells z vs):=by
 have hg:(H.alloc (.cells z c)).get H.nx=some (.cells z c):=by rw [AH.cM,if_pos rfl]
 obtain ⟨H2,h1,h2,h3,h4,h5⟩:=bw hg w (k:=0) (vs:=vs) (by omega)
 have e:aF c 0 vs=vs:=by
  have:aF c 0 vs=vs++c.drop vs.length:=by cases c<;>rfl
  rw [this,List.drop_eq_nil_of_le (by omega)];simp
 rw [e]at h5
 exact ⟨H2,h1,(Ext.alloc H _).mod h2 (by rintro x rfl;exact alR _),h3,h4,h5⟩
theorem bk {H:AH} {b z k n:Nat} {c:List Value} (hg:H.get b=some (.cells z c)) (h0:H.n0≤b) (hl:k+n≤c.length):H.ldn ⟨b,k,none⟩ n=some ((c.drop k).take n):=by
 unfold AH.ldn
 have:¬ b<H.n0:=Nat.not_lt.2 h0
 simp [hg,hl,this]
theorem aE {H:AH} {b z k:Nat} {c:List Value} {v:Value} (hg:H.get b=some (.cells z c)) (h0:H.n0≤b) (hv:c[k]?=some v):H.ld ⟨b,k,none⟩=some v:=by
 unfold AH.ld
 have:¬ b<H.n0:=Nat.not_lt.2 h0
 simp [hg,hv,this]
theorem bZ (H:AH) (x:nC):(H.alloc x).get H.nx=some x:=by rw [AH.cM,if_pos rfl]
end Go.Proofs.YtppcmpmnglaleaaGreatDoor.A
