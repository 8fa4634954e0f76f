/- Texts that stand one behind the other: Code, CodeOk, Awake, AbsO, AbsP, AbsQ. -/
import Derived.Test.YtediokhgklkhnaaG10
import Derived.Test.YtediokhgklkhnaaProg
import Derived.KernelRfl
set_option linter.unusedVariables false
set_option maxRecDepth 100000
namespace Go.Proofs.Ytediokhgklkhnaa.A
open Go
namespace K
abbrev m (a b:Nat):AO:=o a (.mv (.t b))
abbrev M (t a b:Nat):AO:=og t true a (.mv (.t b))
abbrev N (t a b:Nat):AO:=og t false a (.mv (.t b))
abbrev v (a b:Nat):AO:=o a (.ld (.t b))
abbrev n (k a b:Nat):AO:=o a (.ldn k (.t b))
abbrev f (k a b:Nat):AO:=o a (.fa k (.t b))
abbrev b (g:BinOp) (a b c:Nat):AO:=o a (.bin g (.t b) (.t c))
abbrev h (g:BinOp) (a b:Nat) (k:Int):AO:=o a (.bin g (.t b) (i k))
abbrev c (a b:Nat) (l:List X):AO:=o a (.call b l)
abbrev e (a b k:Nat):AO:=o a (.ext (.t b) k)
abbrev L (a b:Nat):AO:=o a (.eo (.t b))
abbrev j (s a b c:Nat):AO:=o a (.ia s (.t b) (.t c))
abbrev p (a b c:Nat):AO:=o a (.pick (.t b) (.t c) (.k (.bool false)))
abbrev P (a b c:Nat):AO:=o a (.pick (.t b) (.k (.bool true)) (.t c))
abbrev B (a b:Nat):AO:=o a (.box (.t b))
abbrev U (a b:Nat):AO:=o a (.un .not (.t b))
abbrev d (x:Nat) (a b:AC):AC:=.cond (.t x) a b
abbrev r (l:List AO) (c:AC):AC:=.seq (.aA l) c
abbrev q (a b:AC):AC:=.seq a b
abbrev F:X:=.k (.bool false)
abbrev W:X:=.k (.bool true)
abbrev z:Value:=.int .i64 0
abbrev y:Value:=.slice none 0 0
end K
open K
def a8:AF:=⟨1,50,[.tmp 2],r [B 1 0,o 2 (.mv F)] (r [n 6 8 1,c 9 22 [.t 8],m 7 9,e 10 7 0,e 11 7 1,o 3 (.alloc [z,z,y,y,y,y]),s (.st 6 (.t 3) (.t 10)),m 4 11] (q (r [n 6 12 1,c 13 9 [.t 12],U 14 13] (d 14 (r [m 15 4,h .eql 16 15 250,m 17 16,og 17 true 18 (.ldn 6 (.t 3)),og 17 true 19 (.call 23 [.t 18]),p 20 17 19,m 21 20,og 21 true 22 (.call 11 []),p 23 21 22,m 2 23] .ret) .skip)) (r [n 6 25 1,c 26 24 [.t 25],m 24 26,e 27 24 0,e 28 24 1,o 5 (.alloc [z,z,y,y,y,y]),s (.st 6 (.t 5) (.t 27)),m 6 28] (q (r [m 29 6,U 30 29] (d 30 (r [m 31 4,h .eql 32 31 4,m 33 32,og 33 true 34 (.ldn 6 (.t 3)),og 33 true 35 (.call 23 [.t 34]),p 36 33 35,m 37 36,og 37 true 38 (.call 11 []),p 39 37 38,m 2 39] .ret) .skip)) (r [m 40 4,h .eql 41 40 0,m 42 41,og 42 true 43 (.ldn 6 (.t 3)),og 42 true 44 (.ldn 6 (.t 5)),og 42 true 45 (.call 25 [.t 43,.t 44]),p 46 42 45,m 47 46,og 47 true 48 (.call 11 []),p 49 47 48,m 2 49] .ret)))))⟩
theorem c8:ab Try.prog Try.f8=some a8:=by kernel_rfl
def a9:AF:=⟨1,129,[.tmp 2],r [B 1 0,o 2 (.mv F)] (q (r [f 0 5 1,v 6 5,h .lss 7 6 1,m 8 7,og 8 false 9 (.fa 0 (.t 1)),og 8 false 10 (.ld (.t 9)),og 8 false 11 (.bin .gtr (.t 10) (i 256)),P 12 8 11,m 13 12,og 13 false 14 (.fa 1 (.t 1)),og 13 false 15 (.ld (.t 14)),og 13 false 16 (.call 26 [.t 15]),og 13 false 17 (.un .not (.t 16)),P 18 13 17,m 19 18,og 19 false 20 (.fa 2 (.t 1)),og 19 false 21 (.ld (.t 20)),og 19 false 22 (.eo (.t 21)),og 19 false 23 (.fa 0 (.t 1)),og 19 false 24 (.ld (.t 23)),og 19 false 25 (.bin .neq (.t 22) (.t 24)),P 26 19 25,m 27 26,og 27 false 28 (.fa 1 (.t 1)),og 27 false 29 (.ld (.t 28)),og 27 false 30 (.fa 2 (.t 1)),og 27 false 31 (.ld (.t 30)),og 27 false 32 (.call 27 [.t 29,.t 31]),og 27 false 33 (.un .not (.t 32)),P 34 27 33,m 35 34,og 35 false 36 (.fa 3 (.t 1)),og 35 false 37 (.ld (.t 36)),og 35 false 38 (.fa 0 (.t 1)),og 35 false 39 (.ld (.t 38)),og 35 false 40 (.call 28 [.t 37,.t 39]),og 35 false 41 (.un .not (.t 40)),P 42 35 41,m 43 42,og 43 false 44 (.fa 4 (.t 1)),og 43 false 45 (.ld (.t 44)),og 43 false 46 (.fa 0 (.t 1)),og 43 false 47 (.ld (.t 46)),og 43 false 48 (.call 28 [.t 45,.t 47]),og 43 false 49 (.un .not (.t 48)),P 50 43 49,m 51 50,og 51 false 52 (.fa 5 (.t 1)),og 51 false 53 (.ld (.t 52)),og 51 false 54 (.eo (.t 53)),og 51 false 55 (.bin .gtr (.t 54) (i 200000)),P 56 51 55] (d 56 (r [o 2 (.mv F)] .ret) .skip)) (q (r [o 3 (.mv (i 0))] (.block 0 (.loop (q (r [m 57 3,f 5 58 1,v 59 58,L 60 59,b .lss 61 57 60] (d 61 .skip (.exit 0))) (q (.block 1 (r [f 5 64 1,v 65 64,m 66 3,j 2 67 65 66,n 2 68 67,o 4 (.alloc [z,z]),s (.st 2 (.t 4) (.t 68))] (q (r [o 69 (.cv 2 1 (.t 4) (i 0)),v 70 69,h .lss 71 70 0,m 72 71,og 72 false 73 (.cv 2 1 (.t 4) (i 0)),og 72 false 74 (.ld (.t 73)),og 72 false 75 (.fa 0 (.t 1)),og 72 false 76 (.ld (.t 75)),og 72 false 77 (.bin .geq (.t 74) (.t 76)),P 78 72 77,m 79 78,og 79 false 80 (.cv 2 1 (.t 4) (i 1)),og 79 false 81 (.ld (.t 80)),og 79 false 82 (.bin .lss (.t 81) (i 0)),P 83 79 82,m 84 83,og 84 false 85 (.cv 2 1 (.t 4) (i 1)),og 84 false 86 (.ld (.t 85)),og 84 false 87 (.fa 0 (.t 1)),og 84 false 88 (.ld (.t 87)),og 84 false 89 (.bin .geq (.t 86) (.t 88)),P 90 84 89] (d 90 (r [o 2 (.mv F)] .ret) .skip)) (q (.ak [m 91 3,h .gtr 92 91 0,m 93 92,og 93 true 94 (.cv 2 1 (.t 4) (i 0)),og 93 true 95 (.ld (.t 94)),og 93 true 96 (.fa 5 (.t 1)),og 93 true 97 (.ld (.t 96)),M 93 98 3,og 93 true 99 (.bin .sub (.t 98) (i 1)),og 93 true 100 (.ia 2 (.t 97) (.t 99)),og 93 true 101 (.cv 2 1 (.t 100) (i 0)),og 93 true 102 (.ld (.t 101)),og 93 true 103 (.bin .lss (.t 95) (.t 102)),M 93 104 103,og 104 false 105 (.cv 2 1 (.t 4) (i 0)),og 104 false 106 (.ld (.t 105)),og 104 false 107 (.fa 5 (.t 1)),og 104 false 108 (.ld (.t 107)),N 104 109 3,og 104 false 110 (.bin .sub (.t 109) (i 1)),og 104 false 111 (.ia 2 (.t 108) (.t 110)),og 104 false 112 (.cv 2 1 (.t 111) (i 0)),og 104 false 113 (.ld (.t 112)),og 104 false 114 (.bin .eql (.t 106) (.t 113)),N 104 115 114,og 115 true 116 (.cv 2 1 (.t 4) (i 1)),og 115 true 117 (.ld (.t 116)),og 115 true 118 (.fa 5 (.t 1)),og 115 true 119 (.ld (.t 118)),M 115 120 3,og 115 true 121 (.bin .sub (.t 120) (i 1)),og 115 true 122 (.ia 2 (.t 119) (.t 121)),og 115 true 123 (.cv 2 1 (.t 122) (i 1)),og 115 true 124 (.ld (.t 123)),og 115 true 125 (.bin .leq (.t 117) (.t 124)),og 104 false 126 (.pick (.t 115) (.t 125) F),og 93 true 127 (.pick (.t 104) W (.t 126)),p 128 93 127] []) (d 128 (r [o 2 (.mv F)] .ret) .skip))))) (.aA [m 62 3,h .add 63 62 1,m 3 63])))))) (r [o 2 (.mv W)] .ret)))⟩
theorem c9:ab Try.prog Try.f9=some a9:=by kernel_rfl
def tT:AF:=⟨1,119,[.tmp 2],r [B 1 0,o 2 (.mv (i 0))] (q (r [f 0 8 1,v 9 8,h .lss 10 9 1,m 11 10,og 11 false 12 (.fa 0 (.t 1)),og 11 false 13 (.ld (.t 12)),og 11 false 14 (.bin .gtr (.t 13) (i 256)),P 15 11 14,m 16 15,og 16 false 17 (.fa 1 (.t 1)),og 16 false 18 (.ld (.t 17)),og 16 false 19 (.bin .lss (.t 18) (i 0)),P 20 16 19,m 21 20,og 21 false 22 (.fa 1 (.t 1)),og 21 false 23 (.ld (.t 22)),og 21 false 24 (.bin .gtr (.t 23) (i 4)),P 25 21 24,m 26 25,og 26 false 27 (.fa 2 (.t 1)),og 26 false 28 (.ld (.t 27)),og 26 false 29 (.eo (.t 28)),og 26 false 30 (.fa 0 (.t 1)),og 26 false 31 (.ld (.t 30)),og 26 false 32 (.bin .neq (.t 29) (.t 31)),P 33 26 32,m 34 33,og 34 false 35 (.fa 5 (.t 1)),og 34 false 36 (.ld (.t 35)),og 34 false 37 (.eo (.t 36)),og 34 false 38 (.bin .gtr (.t 37) (i 200000)),P 39 34 38] (d 39 (r [o 2 (.mv (i 250))] .ret) .skip)) (q (r [f 2 40 1,v 41 40,L 42 41,o 43 (.mv (i 0))] (.block 0 (.loop (r [b .lss 44 43 42] (q (d 44 .skip (.exit 0)) (q (.block 1 (r [j 1 45 41 43,v 46 45,m 4 46] (r [m 47 4,h .lss 48 47 0,m 49 48,N 49 50 4,og 49 false 51 (.fa 1 (.t 1)),og 49 false 52 (.ld (.t 51)),og 49 false 53 (.bin .shl (i 1) (.t 52)),og 49 false 54 (.bin .geq (.t 50) (.t 53)),P 55 49 54] (d 55 (r [o 2 (.mv (i 250))] .ret) .skip)))) (.aA [h .add 56 43 1,m 43 56]))))))) (q (r [f 3 57 1,v 58 57,f 0 59 1,v 60 59,c 61 29 [.t 58,.t 60],U 62 61,m 63 62,og 63 false 64 (.fa 4 (.t 1)),og 63 false 65 (.ld (.t 64)),og 63 false 66 (.fa 0 (.t 1)),og 63 false 67 (.ld (.t 66)),og 63 false 68 (.call 29 [.t 65,.t 67]),og 63 false 69 (.un .not (.t 68)),P 70 63 69] (d 70 (r [o 2 (.mv (i 250))] .ret) .skip)) (q (r [f 5 71 1,v 72 71,L 73 72,o 74 (.mv (i 0))] (.block 2 (.loop (r [b .lss 75 74 73] (q (d 75 .skip (.exit 2)) (q (.block 3 (r [m 76 74,j 2 77 72 74,n 2 78 77,o 6 (.alloc [z,z]),m 5 76,s (.st 2 (.t 6) (.t 78))] (r [o 79 (.cv 2 1 (.t 6) (i 0)),v 80 79,h .geq 81 80 0,m 82 81,og 82 true 83 (.cv 2 1 (.t 6) (i 0)),og 82 true 84 (.ld (.t 83)),og 82 true 85 (.fa 0 (.t 1)),og 82 true 86 (.ld (.t 85)),og 82 true 87 (.bin .lss (.t 84) (.t 86)),p 88 82 87,m 89 88,og 89 true 90 (.cv 2 1 (.t 6) (i 1)),og 89 true 91 (.ld (.t 90)),og 89 true 92 (.bin .geq (.t 91) (i 0)),p 93 89 92,m 94 93,og 94 true 95 (.cv 2 1 (.t 6) (i 1)),og 94 true 96 (.ld (.t 95)),og 94 true 97 (.fa 0 (.t 1)),og 94 true 98 (.ld (.t 97)),og 94 true 99 (.bin .lss (.t 96) (.t 98)),p 100 94 99,m 7 100] (q (.ak [m 101 7,U 102 101,m 103 102,N 103 104 5,og 103 false 105 (.bin .gtr (.t 104) (i 0)),N 103 106 105,og 106 true 107 (.fa 5 (.t 1)),og 106 true 108 (.ld (.t 107)),M 106 109 5,og 106 true 110 (.bin .sub (.t 109) (i 1)),og 106 true 111 (.ia 2 (.t 108) (.t 110)),og 106 true 112 (.ldn 2 (.t 111)),og 106 true 113 (.ldn 2 (.t 6)),og 106 true 114 (.call 30 [.t 112,.t 113]),og 106 true 115 (.bin .geq (.t 114) (i 0)),og 103 false 116 (.pick (.t 106) (.t 115) F),P 117 103 116] []) (d 117 (r [o 2 (.mv (i 250))] .ret) .skip))))) (.aA [h .add 118 74 1,m 74 118]))))))) (r [o 2 (.mv (i 0))] .ret)))))⟩
theorem LH:ab Try.prog Try.f10=some tT:=by kernel_rfl
def Ja:AF:=⟨0,89,[.tmp 0],r [o 0 (.mv F)] (r [c 12 31 [],o 1 (.alloc [z,z,y,y,y,y]),s (.st 6 (.t 1) (.t 12))] (r [n 6 14 1,c 15 14 [.t 14,i 2],m 13 15,e 16 13 0,e 17 13 1,m 2 16,m 3 17] (r [n 6 19 1,o 20 (.bsl 3 1 [z,z,z] [(0,(1,i 1)),(1,(1,i 0)),(2,(1,i 1))]),c 21 12 [.t 19,.t 20],m 18 21,e 22 18 0,e 23 18 1,m 4 22,m 5 23] (r [n 6 25 1,c 26 17 [.t 25],m 24 26,e 27 24 0,e 28 24 1,e 29 24 2,m 6 27,m 7 28,m 8 29] (r [o 31 (.bsl 2 1 [z,z] [(0,(1,i 0)),(1,(1,i 1))]),o 32 (.bsl 1 1 [z] [(0,(1,i 0))]),o 33 (.bsl 2 1 [y,y] [(0,(1,.t 31)),(1,(1,.t 32))]),c 34 20 [i 1,.t 33],m 30 34,e 35 30 0,e 36 30 1,o 9 (.alloc [z,z,y,y,y,y]),s (.st 6 (.t 9) (.t 35)),m 10 36] (r [o 37 (.bsl 2 1 [z,z] [(0,(1,i 0)),(1,(1,i 1))]),o 38 (.bsl 1 1 [z] [(0,(1,i 0))]),o 39 (.bsl 2 1 [z,z] [(0,(1,i 0)),(1,(1,i 1))]),o 40 (.build [z,z] [(0,(1,i 0)),(1,(1,i 1))]),o 41 (.bsl 1 2 [z,z] [(0,(2,.t 40))]),o 42 (.build [z,z,y,y,y,y] [(0,(1,i 2)),(1,(1,i 1)),(2,(1,.t 37)),(3,(1,.t 38)),(4,(1,.t 39)),(5,(1,.t 41))]),o 11 (.alloc [z,z,y,y,y,y]),s (.st 6 (.t 11) (.t 42))] (r [m 43 3,h .eql 44 43 0,m 45 44,M 45 46 2,og 45 true 47 (.bsl 1 1 [z] [(0,(1,i 0))]),og 45 true 48 (.bsl 1 1 [z] [(0,(1,i 1))]),og 45 true 49 (.bsl 2 1 [z,z] [(0,(1,i 0)),(1,(1,i 0))]),og 45 true 50 (.bsl 2 1 [z,z] [(0,(1,i 0)),(1,(1,i 1))]),og 45 true 51 (.bsl 2 1 [z,z] [(0,(1,i 1)),(1,(1,i 0))]),og 45 true 52 (.bsl 2 1 [z,z] [(0,(1,i 1)),(1,(1,i 1))]),og 45 true 53 (.bsl 6 1 [y,y,y,y,y,y] [(0,(1,.t 47)),(1,(1,.t 48)),(2,(1,.t 49)),(3,(1,.t 50)),(4,(1,.t 51)),(5,(1,.t 52))]),og 45 true 54 (.call 16 [.t 46,.t 53]),p 55 45 54,m 56 55,M 56 57 5,og 56 true 58 (.bin .eql (.t 57) (i 0)),p 59 56 58,m 60 59,M 60 61 4,p 62 60 61,m 63 62,M 63 64 8,og 63 true 65 (.bin .eql (.t 64) (i 0)),p 66 63 65,m 67 66,M 67 68 6,og 67 true 69 (.un .not (.t 68)),p 70 67 69,m 71 70,M 71 72 7,og 71 true 73 (.bin .eql (.t 72) (i 0)),p 74 71 73,m 75 74,M 75 76 10,og 75 true 77 (.bin .eql (.t 76) (i 0)),p 78 75 77,m 79 78,og 79 true 80 (.ldn 6 (.t 9)),og 79 true 81 (.ldn 6 (.t 11)),og 79 true 82 (.call 25 [.t 80,.t 81]),p 83 79 82,m 84 83,og 84 true 85 (.build [z,z,y,y,y,y] []),og 84 true 86 (.call 10 [.t 85]),og 84 true 87 (.bin .eql (.t 86) (i 250)),p 88 84 87,m 0 88] .ret)))))))⟩
theorem LI:ab Try.prog Try.f11=some Ja:=by kernel_rfl
def Jb:AF:=⟨2,54,[.tmp 4,.tmp 5],r [B 2 0,o 4 (.mv F),o 5 (.mv (i 0))] (q (r [n 6 12 2,c 13 10 [.t 12],m 6 13] (r [m 14 6,h .neq 15 14 0] (d 15 (r [m 16 6,o 4 (.mv F),m 5 16] .ret) .skip))) (r [n 6 17 2,c 18 32 [.t 17],m 7 18] (r [f 3 19 2,v 20 19,c 21 33 [.t 20],m 8 21] (q (r [m 22 1,L 23 22,o 24 (.mv (i 0))] (.block 0 (.loop (r [b .lss 25 24 23] (q (d 25 .skip (.exit 0)) (q (.block 1 (r [m 26 24,j 1 27 22 24,v 28 27,o 10 (.alloc [z]),m 9 26,s (.st 1 (.t 10) (.t 28))] (r [m 29 8,o 30 (.mkf 35 [] [.t 2,.t 10]),c 31 34 [.t 29,.t 30],m 8 31] (q (r [m 32 9,m 33 1,L 34 33,h .sub 35 34 1,b .eql 36 32 35] (d 36 (.exit 0) .skip)) (.aA [m 37 7,m 38 8,c 39 36 [.t 37,.t 38],m 8 39]))))) (.aA [h .add 40 24 1,m 24 40]))))))) (r [f 4 41 2,v 42 41,f 0 43 2,v 44 43,c 45 37 [.t 42,.t 44],o 11 (.alloc [y]),s (.st 1 (.t 11) (.t 45))] (r [m 46 1,L 47 46,h .gtr 48 47 0,m 49 48,M 49 50 8,og 49 true 51 (.mkf 39 [] [.t 11]),og 49 true 52 (.call 38 [.t 50,.t 51]),p 53 49 52,m 4 53,o 5 (.mv (i 0))] .ret))))))⟩
theorem LJ:ab Try.prog Try.f12=some Jb:=by kernel_rfl
def Jc:AF:=⟨2,103,[.tmp 4,.tmp 5],r [B 2 0,B 3 1,o 4 (.mv (.k (.slice none 0 0))),o 5 (.mv (i 0))] (q (r [n 6 19 2,c 20 10 [.t 19],m 6 20] (r [m 21 6,h .neq 22 21 0] (d 22 (r [m 23 6,o 4 (.mv (.k (.slice none 0 0))),m 5 23] .ret) .skip))) (q (r [v 24 3,h .lss 25 24 0,m 26 25,og 26 false 27 (.ld (.t 3)),og 26 false 28 (.bin .gtr (.t 27) (i 64)),P 29 26 28] (d 29 (r [o 4 (.mv (.k (.slice none 0 0))),o 5 (.mv (i 1))] .ret) .skip)) (r [n 6 30 2,v 31 3,c 32 44 [.t 30,.t 31],o 7 (.alloc [y]),s (.st 1 (.t 7) (.t 32))] (q (.ak [n 6 33 2,f 4 35 2,v 36 35,f 0 37 2,v 38 37,o 9 (.alloc [y]),c 34 32 [.t 33],c 39 37 [.t 36,.t 38],m 8 34,s (.st 1 (.t 9) (.t 39))] [(0,(2,6)),(0,(4,6)),(1,(5,6)),(1,(5,7))]) (r [o 10 (.mv (.k (.slice none 0 0)))] (r [f 3 40 2,v 41 40,o 42 (.build [y,y] [(1,(1,.t 41))]),o 43 (.bsl 1 2 [y,y] [(0,(2,.t 42))]),m 11 43] (q (r [o 12 (.alloc [z]),s (.st 1 (.t 12) (i 1))] (.block 0 (.loop (q (r [v 44 12,v 45 3,b .leq 46 44 45] (d 46 .skip (.exit 0))) (q (.block 1 (r [o 13 (.mv (.k (.slice none 0 0)))] (q (r [m 49 11,L 50 49,o 51 (.mv (i 0))] (.block 2 (.loop (r [b .lss 52 51 50] (q (d 52 .skip (.exit 2)) (q (.block 3 (r [j 2 53 49 51,n 2 54 53,o 15 (.alloc [y,y]),s (.st 2 (.t 15) (.t 54))] (q (r [f 1 55 2,v 56 55,o 57 (.bin .shl (i 1) (.t 56)),o 58 (.mv (i 0))] (.block 4 (.loop (r [b .lss 59 58 57] (q (d 59 .skip (.exit 4)) (q (.block 5 (r [m 60 58,o 16 (.alloc [z]),s (.st 1 (.t 16) (.t 60))] (r [f 1 61 15,v 62 61,c 63 33 [.t 62],o 64 (.mkf 45 [] [.t 2,.t 16,.t 7,.t 3,.t 12]),c 65 34 [.t 63,.t 64],m 17 65] (q (r [m 66 17,L 67 66,h .eql 68 67 0] (d 68 (.exit 5) .skip)) (q (.ak [f 0 69 15,v 70 69,v 72 16,o 73 (.bsl 1 1 [z] [(0,(1,.t 72))]),c 71 33 [.t 70],o 74 (.app 1 8 (.t 71) (.t 73)),m 18 74] [(0,(2,4)),(1,(3,4))]) (q (r [m 75 17,o 76 (.mkf 46 [] [.t 9]),c 77 38 [.t 75,.t 76]] (d 77 (.aA [m 78 10,m 79 18,o 80 (.bsl 1 1 [y] [(0,(1,.t 79))]),o 81 (.app 1 24 (.t 78) (.t 80)),m 10 81]) .skip)) (.aA [m 82 13,m 83 18,m 84 8,m 85 17,c 86 36 [.t 84,.t 85],o 87 (.build [y,y] [(0,(1,.t 83)),(1,(1,.t 86))]),o 88 (.bsl 1 2 [y,y] [(0,(2,.t 87))]),o 89 (.app 2 48 (.t 82) (.t 88)),m 13 89]))))))) (.aA [h .add 90 58 1,m 58 90]))))))) (r [m 91 10,L 92 91,h .gtr 93 92 4096,m 94 93,N 94 95 13,og 94 false 96 (.eo (.t 95)),og 94 false 97 (.bin .gtr (.t 96) (i 4096)),P 98 94 97] (d 98 (r [o 4 (.mv (.k (.slice none 0 0))),o 5 (.mv (i 5))] .ret) .skip))))) (.aA [h .add 99 51 1,m 51 99]))))))) (.aA [m 100 13,m 11 100])))) (q (r [v 101 12] (.aA [o 12 (.alloc [z]),s (.st 1 (.t 12) (.t 101))])) (.aA [v 47 12,h .add 48 47 1,s (.st 1 (.t 12) (.t 48))]))))))) (r [m 102 10,m 4 102,o 5 (.mv (i 0))] .ret))))))))⟩
theorem LK:ab Try.prog Try.f14=some Jc:=by kernel_rfl
def Jd:AF:=⟨2,28,[.tmp 4],r [o 4 (.mv F)] (q (r [m 6 0,L 7 6,m 8 1,L 9 8,b .neq 10 7 9] (d 10 (r [o 4 (.mv F)] .ret) .skip)) (q (r [o 5 (.mv (i 0))] (.block 0 (.loop (q (r [m 11 5,m 12 0,L 13 12,b .lss 14 11 13] (d 14 .skip (.exit 0))) (q (.block 1 (q (.ak [m 17 0,m 18 5,m 19 5,h .add 20 19 1,o 21 (.sl 1 (.t 17) (some (.t 18)) (some (.t 20)) none),m 22 1,m 23 5,j 1 24 22 23,v 25 24,c 26 48 [.t 21,.t 25],h .neq 27 26 0] []) (d 27 (r [o 4 (.mv F)] .ret) .skip))) (.aA [m 15 5,h .add 16 15 1,m 5 16])))))) (r [o 4 (.mv W)] .ret)))⟩
theorem LL:ab Try.prog Try.f16=some Jd:=by kernel_rfl
def Je:AF:=⟨1,49,[.tmp 2,.tmp 3,.tmp 4],r [B 1 0,o 2 (.mv F),o 3 (.mv (i 0)),o 4 (.mv (i 0))] (q (r [n 6 13 1,c 14 10 [.t 13],m 5 14] (r [m 15 5,h .neq 16 15 0] (d 16 (r [m 17 5,o 2 (.mv F),o 3 (.mv (i 0)),m 4 17] .ret) .skip))) (r [n 6 18 1,c 19 49 [.t 18],o 6 (.alloc [y]),s (.st 1 (.t 6) (.t 19))] (r [n 6 20 1,c 21 32 [.t 20],o 7 (.alloc [y]),s (.st 1 (.t 7) (.t 21))] (r [f 0 22 1,v 23 22,o 24 (.mksl 1 8 [z] (.t 23)),o 8 (.alloc [y]),s (.st 1 (.t 8) (.t 24))] (r [o 9 (.alloc [.nilFunc])] (r [o 25 (.mkf 50 [] [.t 8,.t 7,.t 6,.t 9]),s (.st 1 (.t 9) (.t 25))] (r [o 10 (.mv (i 0))] (q (r [f 3 26 1,v 27 26,L 28 27,o 29 (.mv (i 0))] (.block 0 (.loop (r [b .lss 30 29 28] (q (d 30 .skip (.exit 0)) (q (.block 1 (r [j 1 31 27 29,v 32 31,m 12 32] (r [v 33 6,m 34 12,j 1 35 33 34,v 36 35] (d 36 (q (r [v 37 9,m 38 12,o 39 (.callv (.t 37) [.t 38]),U 40 39] (d 40 (r [o 2 (.mv F),o 3 (.mv (i 0)),o 4 (.mv (i 0))] .ret) .skip)) (.aA [m 41 10,v 42 8,m 43 12,j 1 44 42 43,v 45 44,o 46 (.mxl (.t 41) [.t 45]),m 10 46])) .skip)))) (.aA [h .add 47 29 1,m 29 47]))))))) (r [m 48 10,o 2 (.mv W),m 3 48,o 4 (.mv (i 0))] .ret)))))))))⟩
theorem LM:ab Try.prog Try.f17=some Je:=by kernel_rfl
def Jf:AF:=⟨2,62,[.cells 4 6,.tmp 5],r [B 2 0,o 4 (.alloc [z,z,y,y,y,y]),o 5 (.mv (i 0))] (q (r [v 13 2,h .lss 14 13 0,m 15 14,og 15 false 16 (.ld (.t 2)),og 15 false 17 (.bin .gtr (.t 16) (i 4)),P 18 15 17] (d 18 (r [o 19 (.build [z,z,y,y,y,y] []),s (.st 6 (.t 4) (.t 19)),o 5 (.mv (i 1))] .ret) .skip)) (r [o 20 (.mkf 53 [] [.t 2]),m 6 20] (q (r [m 21 1,L 22 21,o 23 (.mv (i 0))] (.block 0 (.loop (r [b .lss 24 23 22] (q (d 24 .skip (.exit 0)) (q (.block 1 (r [j 1 25 21 23,v 26 25,m 8 26] (r [m 27 8,L 28 27,h .eql 29 28 0,m 30 29,N 30 31 8,N 30 32 6,og 30 false 33 (.call 38 [.t 31,.t 32]),P 34 30 33] (d 34 (r [o 35 (.build [z,z,y,y,y,y] []),s (.st 6 (.t 4) (.t 35)),o 5 (.mv (i 1))] .ret) .skip)))) (.aA [h .add 36 23 1,m 23 36]))))))) (q (r [m 37 1,L 38 37,h .eql 39 38 0] (d 39 (r [o 40 (.build [z,z,y,y,y,y] []),s (.st 6 (.t 4) (.t 40)),o 5 (.mv (i 4))] .ret) .skip)) (r [o 41 .mkmap,o 42 (.build [.map none,.bool false] [(0,(1,.t 41))]),B 43 42,m 9 43] (r [o 10 (.mv (i 0))] (q (r [m 44 1,L 45 44,o 46 (.mv (i 0))] (.block 2 (.loop (r [b .lss 47 46 45] (q (d 47 .skip (.exit 2)) (q (.block 3 (r [j 1 48 44 46,v 49 48,m 12 49] (r [m 50 10,m 51 9,m 52 12,c 53 54 [.t 51,.t 52],b .add 54 50 53,m 10 54] (r [m 55 10,h .gtr 56 55 256] (d 56 (r [o 57 (.build [z,z,y,y,y,y] []),s (.st 6 (.t 4) (.t 57)),o 5 (.mv (i 5))] .ret) .skip))))) (.aA [h .add 58 46 1,m 46 58]))))))) (r [m 59 9,v 60 2,c 61 55 [.t 59,.t 60],s (.st 6 (.t 4) (.t 61)),o 5 (.mv (i 0))] .ret))))))))⟩
theorem LN:ab Try.prog Try.f20=some Jf:=by kernel_rfl
def Ap:AF:=⟨1,110,[.cells 2 6,.tmp 3],r [B 1 0,o 2 (.alloc [z,z,y,y,y,y]),o 3 (.mv (i 0))] (q (r [n 6 13 1,c 14 10 [.t 13],m 4 14] (r [m 15 4,h .neq 16 15 0] (d 16 (r [o 17 (.build [z,z,y,y,y,y] []),m 18 4,s (.st 6 (.t 2) (.t 17)),m 3 18] .ret) .skip))) (r [n 6 19 1,c 20 49 [.t 19],o 5 (.alloc [y]),s (.st 1 (.t 5) (.t 20))] (r [f 0 21 1,v 22 21,o 23 (.mksl 1 8 [z] (.t 22)),o 6 (.alloc [y]),s (.st 1 (.t 6) (.t 23))] (r [f 1 24 1,v 25 24,o 26 (.build [z,z,y,y,y,y] [(1,(1,.t 25))]),o 7 (.alloc [z,z,y,y,y,y]),s (.st 6 (.t 7) (.t 26))] (q (r [v 27 5,L 28 27,o 29 (.mv (i 0))] (.block 0 (.loop (r [b .lss 30 29 28] (q (d 30 .skip (.exit 0)) (q (.block 1 (r [m 31 29,j 1 32 27 29,v 33 32,m 8 31,m 9 33] (r [v 34 6,m 35 8,j 1 36 34 35,s (.st 1 (.t 36) (i (-1)))] (r [m 37 9] (d 37 (r [v 38 6,m 39 8,f 0 40 7,v 41 40,j 1 42 38 39,s (.st 1 (.t 42) (.t 41))] (r [f 0 43 7,v 44 43,h .add 45 44 1,f 0 46 7,s (.st 1 (.t 46) (.t 45))] (.ak [f 2 47 7,v 48 47,f 2 49 1,v 50 49,m 51 8,j 1 52 50 51,v 53 52,o 54 (.bsl 1 1 [z] [(0,(1,.t 53))]),o 55 (.app 1 8 (.t 48) (.t 54)),f 2 56 7,s (.st 1 (.t 56) (.t 55))] []))) .skip))))) (.aA [h .add 57 29 1,m 29 57]))))))) (q (r [f 0 58 7,v 59 58,h .eql 60 59 0] (d 60 (r [o 61 (.build [z,z,y,y,y,y] []),s (.st 6 (.t 2) (.t 61)),o 3 (.mv (i 4))] .ret) .skip)) (r [o 62 (.mkf 58 [] [.t 5,.t 6]),m 10 62] (q (.ak [m 63 10,f 3 64 1,v 65 64,m 67 10,f 4 68 1,v 69 68,o 66 (.callv (.t 63) [.t 65]),f 3 71 7,o 70 (.callv (.t 67) [.t 69]),s (.st 1 (.t 71) (.t 66)),f 4 72 7,s (.st 1 (.t 72) (.t 70))] [(0,(5,6))]) (q (r [f 5 73 1,v 74 73,L 75 74,o 76 (.mv (i 0))] (.block 2 (.loop (r [b .lss 77 76 75] (q (d 77 .skip (.exit 2)) (q (.block 3 (r [j 2 78 74 76,n 2 79 78,o 12 (.alloc [z,z]),s (.st 2 (.t 12) (.t 79))] (r [v 80 5,o 81 (.cv 2 1 (.t 12) (i 0)),v 82 81,j 1 83 80 82,v 84 83,m 85 84,og 85 true 86 (.ld (.t 5)),og 85 true 87 (.cv 2 1 (.t 12) (i 1)),og 85 true 88 (.ld (.t 87)),og 85 true 89 (.ia 1 (.t 86) (.t 88)),og 85 true 90 (.ld (.t 89)),p 91 85 90] (d 91 (.ak [f 5 92 7,v 93 92,v 94 6,o 95 (.cv 2 1 (.t 12) (i 0)),v 96 95,j 1 97 94 96,v 98 97,v 99 6,o 100 (.cv 2 1 (.t 12) (i 1)),v 101 100,j 1 102 99 101,v 103 102,o 104 (.build [z,z] [(0,(1,.t 98)),(1,(1,.t 103))]),o 105 (.bsl 1 2 [z,z] [(0,(2,.t 104))]),o 106 (.app 2 16 (.t 93) (.t 105)),f 5 107 7,s (.st 1 (.t 107) (.t 106))] []) .skip)))) (.aA [h .add 108 76 1,m 76 108]))))))) (r [n 6 109 7,s (.st 6 (.t 2) (.t 109)),o 3 (.mv (i 0))] .ret))))))))))⟩
theorem LO:ab Try.prog Try.f22=some Ap:=by kernel_rfl
def DE:AF:=⟨1,35,[.tmp 2],r [B 1 0,o 2 (.mv F)] (r [f 0 3 1,v 4 3,h .eql 5 4 0,m 6 5,og 6 true 7 (.fa 1 (.t 1)),og 6 true 8 (.ld (.t 7)),og 6 true 9 (.bin .eql (.t 8) (i 0)),p 10 6 9,m 11 10,og 11 true 12 (.fa 2 (.t 1)),og 11 true 13 (.ld (.t 12)),og 11 true 14 (.eo (.t 13)),og 11 true 15 (.bin .eql (.t 14) (i 0)),p 16 11 15,m 17 16,og 17 true 18 (.fa 3 (.t 1)),og 17 true 19 (.ld (.t 18)),og 17 true 20 (.eo (.t 19)),og 17 true 21 (.bin .eql (.t 20) (i 0)),p 22 17 21,m 23 22,og 23 true 24 (.fa 4 (.t 1)),og 23 true 25 (.ld (.t 24)),og 23 true 26 (.eo (.t 25)),og 23 true 27 (.bin .eql (.t 26) (i 0)),p 28 23 27,m 29 28,og 29 true 30 (.fa 5 (.t 1)),og 29 true 31 (.ld (.t 30)),og 29 true 32 (.eo (.t 31)),og 29 true 33 (.bin .eql (.t 32) (i 0)),p 34 29 33,m 2 34] .ret)⟩
theorem LP:ab Try.prog Try.f23=some DE:=by kernel_rfl
def DF:AF:=⟨1,38,[.cells 2 6,.tmp 3],r [B 1 0,o 2 (.alloc [z,z,y,y,y,y]),o 3 (.mv F)] (r [n 6 8 1,c 9 51 [.t 8],o 4 (.alloc [.int .u64 0,.int .u64 0,.int .u64 0,.int .u64 0]),s (.st 4 (.t 4) (.t 9))] (r [f 0 10 1,v 11 10,o 12 (.mksl 1 8 [z] (.t 11)),m 5 12,o 6 (.mv (i 0))] (q (r [o 7 (.mv (i 0))] (.block 0 (.loop (q (r [m 13 7,f 0 14 1,v 15 14,b .lss 16 13 15] (d 16 .skip (.exit 0))) (q (.block 1 (r [m 19 5,m 20 7,j 1 21 19 20,s (.st 1 (.t 21) (i (-1)))] (r [n 4 22 4,m 23 7,c 24 59 [.t 22,.t 23]] (d 24 (r [m 25 5,m 26 7,m 27 6,j 1 28 25 26,s (.st 1 (.t 28) (.t 27))] (.aA [m 29 6,h .add 30 29 1,m 6 30])) .skip)))) (.aA [m 17 7,h .add 18 17 1,m 7 18])))))) (q (r [m 31 6,h .eql 32 31 0] (d 32 (r [o 33 (.build [z,z,y,y,y,y] []),s (.st 6 (.t 2) (.t 33)),o 3 (.mv F)] .ret) .skip)) (r [n 6 34 1,m 35 5,m 36 6,c 37 60 [.t 34,.t 35,.t 36],s (.st 6 (.t 2) (.t 37)),o 3 (.mv W)] .ret)))))⟩
theorem LQ:ab Try.prog Try.f24=some DF:=by kernel_rfl
def DG:AF:=⟨2,72,[.tmp 4],r [B 2 0,B 3 1,o 4 (.mv F)] (q (r [f 0 6 2,v 7 6,f 0 8 3,v 9 8,b .neq 10 7 9,m 11 10,og 11 false 12 (.fa 1 (.t 2)),og 11 false 13 (.ld (.t 12)),og 11 false 14 (.fa 1 (.t 3)),og 11 false 15 (.ld (.t 14)),og 11 false 16 (.bin .neq (.t 13) (.t 15)),P 17 11 16,m 18 17,og 18 false 19 (.fa 2 (.t 2)),og 18 false 20 (.ld (.t 19)),og 18 false 21 (.bsl 1 1 [y] [(0,(1,.t 20))]),og 18 false 22 (.fa 2 (.t 3)),og 18 false 23 (.ld (.t 22)),og 18 false 24 (.call 48 [.t 21,.t 23]),og 18 false 25 (.bin .neq (.t 24) (i 0)),P 26 18 25,m 27 26,og 27 false 28 (.fa 3 (.t 2)),og 27 false 29 (.ld (.t 28)),og 27 false 30 (.bsl 1 1 [y] [(0,(1,.t 29))]),og 27 false 31 (.fa 3 (.t 3)),og 27 false 32 (.ld (.t 31)),og 27 false 33 (.call 48 [.t 30,.t 32]),og 27 false 34 (.bin .neq (.t 33) (i 0)),P 35 27 34,m 36 35,og 36 false 37 (.fa 4 (.t 2)),og 36 false 38 (.ld (.t 37)),og 36 false 39 (.bsl 1 1 [y] [(0,(1,.t 38))]),og 36 false 40 (.fa 4 (.t 3)),og 36 false 41 (.ld (.t 40)),og 36 false 42 (.call 48 [.t 39,.t 41]),og 36 false 43 (.bin .neq (.t 42) (i 0)),P 44 36 43,m 45 44,og 45 false 46 (.fa 5 (.t 2)),og 45 false 47 (.ld (.t 46)),og 45 false 48 (.eo (.t 47)),og 45 false 49 (.fa 5 (.t 3)),og 45 false 50 (.ld (.t 49)),og 45 false 51 (.eo (.t 50)),og 45 false 52 (.bin .neq (.t 48) (.t 51)),P 53 45 52] (d 53 (r [o 4 (.mv F)] .ret) .skip)) (q (r [o 5 (.mv (i 0))] (.block 0 (.loop (q (r [m 54 5,f 5 55 2,v 56 55,L 57 56,b .lss 58 54 57] (d 58 .skip (.exit 0))) (q (.block 1 (q (.ak [f 5 61 2,v 62 61,m 63 5,j 2 64 62 63,n 2 65 64,f 5 66 3,v 67 66,m 68 5,j 2 69 67 68,n 2 70 69,o 71 (.eqs true [(0,0),(1,0)] (.t 65) (.t 70))] []) (d 71 (r [o 4 (.mv F)] .ret) .skip))) (.aA [m 59 5,h .add 60 59 1,m 5 60])))))) (r [o 4 (.mv W)] .ret)))⟩
theorem LR:ab Try.prog Try.f25=some DG:=by kernel_rfl
def DH:AF:=⟨1,9,[.tmp 2],r [o 2 (.mv F)] (r [m 3 0,h .geq 4 3 0,m 5 4,M 5 6 0,og 5 true 7 (.bin .leq (.t 6) (i 4)),p 8 5 7,m 2 8] .ret)⟩
theorem LS:ab Try.prog Try.f26=some DH:=by kernel_rfl
def DI:AF:=⟨2,30,[.tmp 4],r [o 4 (.mv F)] (q (r [o 5 (.mv (i 0))] (.block 0 (.loop (q (r [m 6 5,m 7 1,L 8 7,b .lss 9 6 8] (d 9 .skip (.exit 0))) (q (.block 1 (r [m 12 1,m 13 5,j 1 14 12 13,v 15 14,h .lss 16 15 0,m 17 16,N 17 18 1,N 17 19 5,og 17 false 20 (.ia 1 (.t 18) (.t 19)),og 17 false 21 (.ld (.t 20)),N 17 22 0,og 17 false 23 (.j0 .u64 (.t 22)),og 17 false 24 (.bin .shl (i 1) (.t 23)),og 17 false 25 (.bin .geq (.t 21) (.t 24)),P 26 17 25] (d 26 (r [o 4 (.mv F)] .ret) .skip))) (.aA [m 10 5,h .add 11 10 1,m 5 11])))))) (r [m 27 1,L 28 27,h .gtr 29 28 0,m 4 29] .ret))⟩
theorem LU:ab Try.prog Try.f27=some DI:=by kernel_rfl
def DJ:AF:=⟨2,41,[.tmp 4],r [o 4 (.mv F)] (q (r [o 5 (.mv (i 0))] (.block 0 (.loop (q (r [m 6 5,m 7 0,L 8 7,b .lss 9 6 8] (d 9 .skip (.exit 0))) (q (.block 1 (q (.ak [m 12 0,m 13 5,j 1 14 12 13,v 15 14,h .lss 16 15 0,m 17 16,N 17 18 0,N 17 19 5,og 17 false 20 (.ia 1 (.t 18) (.t 19)),og 17 false 21 (.ld (.t 20)),N 17 22 1,og 17 false 23 (.bin .geq (.t 21) (.t 22)),P 24 17 23,m 25 24,N 25 26 5,og 25 false 27 (.bin .gtr (.t 26) (i 0)),N 25 28 27,M 28 29 0,M 28 30 5,og 28 true 31 (.ia 1 (.t 29) (.t 30)),og 28 true 32 (.ld (.t 31)),M 28 33 0,M 28 34 5,og 28 true 35 (.bin .sub (.t 34) (i 1)),og 28 true 36 (.ia 1 (.t 33) (.t 35)),og 28 true 37 (.ld (.t 36)),og 28 true 38 (.bin .leq (.t 32) (.t 37)),og 25 false 39 (.pick (.t 28) (.t 38) F),P 40 25 39] []) (d 40 (r [o 4 (.mv F)] .ret) .skip))) (.aA [m 10 5,h .add 11 10 1,m 5 11])))))) (r [o 4 (.mv W)] .ret))⟩
theorem LV:ab Try.prog Try.f28=some DJ:=by kernel_rfl
def DK:AF:=⟨2,35,[.tmp 4],r [o 4 (.mv F)] (q (r [m 7 0,L 8 7,o 9 (.mv (i 0))] (.block 0 (.loop (r [b .lss 10 9 8] (q (d 10 .skip (.exit 0)) (q (.block 1 (r [m 11 9,j 1 12 7 9,v 13 12,m 5 11,m 6 13] (r [m 14 6,h .lss 15 14 0,m 16 15,N 16 17 6,N 16 18 1,og 16 false 19 (.bin .geq (.t 17) (.t 18)),P 20 16 19,m 21 20,N 21 22 5,og 21 false 23 (.bin .gtr (.t 22) (i 0)),N 21 24 23,M 24 25 6,M 24 26 0,M 24 27 5,og 24 true 28 (.bin .sub (.t 27) (i 1)),og 24 true 29 (.ia 1 (.t 26) (.t 28)),og 24 true 30 (.ld (.t 29)),og 24 true 31 (.bin .leq (.t 25) (.t 30)),og 21 false 32 (.pick (.t 24) (.t 31) F),P 33 21 32] (d 33 (r [o 4 (.mv F)] .ret) .skip)))) (.aA [h .add 34 9 1,m 9 34]))))))) (r [o 4 (.mv W)] .ret))⟩
theorem LW:ab Try.prog Try.f29=some DK:=by kernel_rfl
def DL:AF:=⟨2,8,[.tmp 4],r [B 2 0,B 3 1,o 4 (.mv (i 0))] (q (.ak [o 5 (.xt (.lX 2 1) [.t 2]),o 6 (.xt (.lX 2 1) [.t 3]),c 7 61 [.t 5,.t 6],m 4 7] []) .ret)⟩
theorem LX:ab Try.prog Try.f30=some DL:=by kernel_rfl
def Jg:AF:=⟨0,10,[.cells 0 6],r [o 0 (.alloc [z,z,y,y,y,y])] (r [o 1 (.bsl 2 1 [z,z] [(0,(1,i 0)),(1,(1,i 1))]),o 2 (.bsl 2 1 [z,z] [(0,(1,i 0)),(1,(1,i 1))]),o 3 (.bsl 2 1 [z,z] [(0,(1,i 0)),(1,(1,i 1))]),o 4 (.build [z,z] [(0,(1,i 0)),(1,(1,i 0))]),o 5 (.build [z,z] [(0,(1,i 0)),(1,(1,i 1))]),o 6 (.build [z,z] [(0,(1,i 1)),(1,(1,i 0))]),o 7 (.build [z,z] [(0,(1,i 1)),(1,(1,i 1))]),o 8 (.bsl 4 2 [z,z,z,z,z,z,z,z] [(0,(2,.t 4)),(2,(2,.t 5)),(4,(2,.t 6)),(6,(2,.t 7))]),o 9 (.build [z,z,y,y,y,y] [(0,(1,i 2)),(1,(1,i 1)),(2,(1,.t 1)),(3,(1,.t 2)),(4,(1,.t 3)),(5,(1,.t 8))]),s (.st 6 (.t 0) (.t 9))] .ret)⟩
theorem LY:ab Try.prog Try.f31=some Jg:=by kernel_rfl
def DM:AF:=⟨1,31,[.tmp 2],r [B 1 0,o 2 (.mv (.k (.slice none 0 0)))] (r [f 0 6 1,v 7 6,o 8 (.mksl 1 24 [y] (.t 7)),m 3 8] (q (r [f 5 9 1,v 10 9,L 11 10,o 12 (.mv (i 0))] (.block 0 (.loop (r [b .lss 13 12 11] (q (d 13 .skip (.exit 0)) (q (.block 1 (r [j 2 14 10 12,n 2 15 14,o 5 (.alloc [z,z]),s (.st 2 (.t 5) (.t 15))] (.ak [m 16 3,o 17 (.cv 2 1 (.t 5) (i 0)),v 18 17,m 19 3,o 20 (.cv 2 1 (.t 5) (i 0)),v 21 20,j 1 22 19 21,v 23 22,o 24 (.cv 2 1 (.t 5) (i 1)),v 25 24,o 26 (.bsl 1 1 [z] [(0,(1,.t 25))]),o 27 (.app 1 8 (.t 23) (.t 26)),j 1 28 16 18,s (.st 1 (.t 28) (.t 27))] [(0,(2,11))]))) (.aA [h .add 29 12 1,m 12 29]))))))) (r [m 30 3,m 2 30] .ret)))⟩
theorem LZ:ab Try.prog Try.f32=some DM:=by kernel_rfl
def Jh:AF:=⟨1,8,[.tmp 2],r [o 2 (.mv (.k (.slice none 0 0)))] (q (r [m 3 0,o 4 (.eqk 2 false (.t 3) (.k (.slice none 0 0)))] (d 4 (r [o 2 (.mv (.k (.slice none 0 0)))] .ret) .skip)) (r [o 5 (.bsl 0 1 [] []),m 6 0,o 7 (.app 1 8 (.t 5) (.t 6)),m 2 7] .ret))⟩
theorem L0:ab Try.prog Try.f33=some Jh:=by kernel_rfl
def Ji:AF:=⟨2,42,[.tmp 4],r [o 4 (.mv (.k (.slice none 0 0)))] (r [m 8 0,m 9 1,c 10 62 [.t 8,.t 9],m 5 10] (q (r [m 11 5,h .eql 12 11 (-1)] (d 12 (r [m 13 0,m 4 13] .ret) .skip)) (q (r [m 14 5,h .add 15 14 1,m 6 15] (.block 0 (.loop (q (r [m 16 6,m 17 0,L 18 17,b .lss 19 16 18] (d 19 .skip (.exit 0))) (q (.block 1 (r [m 22 0,m 23 6,j 1 24 22 23,v 25 24,m 7 25] (r [m 26 1,m 27 7,o 28 (.callv (.t 26) [.t 27]),U 29 28] (d 29 (r [m 30 0,m 31 5,m 32 7,j 1 33 30 31,s (.st 1 (.t 33) (.t 32))] (.aA [m 34 5,h .add 35 34 1,m 5 35])) .skip)))) (.aA [m 20 6,h .add 21 20 1,m 6 21])))))) (r [m 36 0,m 37 5,o 38 (.sl 1 (.t 36) (some (.t 37)) none none),s (.xt (.mZ [z]) [.t 38])] (r [m 39 0,m 40 5,o 41 (.sl 1 (.t 39) none (some (.t 40)) none),m 4 41] .ret)))))⟩
theorem L3:ab Try.prog Try.f34=some Ji:=by kernel_rfl
def Jj:AF:=⟨3,12,[.tmp 4],r [o 4 (.mv F)] (q (.ak [f 2 5 1,v 6 5,m 7 0,j 1 8 6 7,v 9 8,v 10 2,b .neq 11 9 10,m 4 11] []) .ret)⟩
theorem L4:ab Try.prog Try.f35=some Jj:=by kernel_rfl
def Jk:AF:=⟨2,25,[.tmp 4],r [o 4 (.mv (.k (.slice none 0 0)))] (r [o 5 (.mv (.k (.slice none 0 0)))] (q (r [m 8 1,L 9 8,o 10 (.mv (i 0))] (.block 0 (.loop (r [b .lss 11 10 9] (q (d 11 .skip (.exit 0)) (q (.block 1 (r [j 1 12 8 10,v 13 12,m 7 13] (.aA [m 14 5,m 15 0,m 16 7,j 1 17 15 16,v 18 17,o 19 (.app 1 8 (.t 14) (.t 18)),m 5 19]))) (.aA [h .add 20 10 1,m 10 20]))))))) (r [m 21 5,c 22 63 [.t 21]] (r [m 23 5,c 24 64 [.t 23],m 4 24] .ret))))⟩
theorem L5:ab Try.prog Try.f36=some Jk:=by kernel_rfl
def DN:AF:=⟨2,21,[.tmp 4],r [o 4 (.mv (.k (.slice none 0 0)))] (r [m 8 1,o 9 (.mksl 1 1 [.bool false] (.t 8)),m 5 9] (q (r [m 10 0,L 11 10,o 12 (.mv (i 0))] (.block 0 (.loop (r [b .lss 13 12 11] (q (d 13 .skip (.exit 0)) (q (.block 1 (r [j 1 14 10 12,v 15 14,m 7 15] (.aA [m 16 5,m 17 7,j 1 18 16 17,s (.st 1 (.t 18) W)]))) (.aA [h .add 19 12 1,m 12 19]))))))) (r [m 20 5,m 4 20] .ret)))⟩
theorem L6:ab Try.prog Try.f37=some DN:=by kernel_rfl
def Jl:AF:=⟨2,9,[.tmp 4],r [o 4 (.mv F)] (r [m 5 0,m 6 1,c 7 62 [.t 5,.t 6],h .geq 8 7 0,m 4 8] .ret)⟩
theorem L7:ab Try.prog Try.f38=some Jl:=by kernel_rfl
def Jm:AF:=⟨2,8,[.tmp 3],r [o 3 (.mv F)] (r [v 4 1,m 5 0,j 1 6 4 5,v 7 6,m 3 7] .ret)⟩
theorem L8:ab Try.prog Try.f39=some Jm:=by kernel_rfl
def DO:AF:=⟨1,18,[.cells 2 4],r [o 2 (.alloc [.int .u64 0,.int .u64 0,.int .u64 0,.int .u64 0])] (r [o 3 (.alloc [.int .u64 0,.int .u64 0,.int .u64 0,.int .u64 0])] (q (r [o 4 (.mv (i 0))] (.block 0 (.loop (q (r [m 5 4,m 6 0,L 7 6,b .lss 8 5 7] (d 8 .skip (.exit 0))) (q (.block 1 (.ak [n 4 11 3,m 12 0,m 13 4,j 1 14 12 13,v 15 14,c 16 65 [.t 11,.t 15],s (.st 4 (.t 3) (.t 16))] [])) (.aA [m 9 4,h .add 10 9 1,m 4 10])))))) (r [n 4 17 3,s (.st 4 (.t 2) (.t 17))] .ret)))⟩
theorem L9:ab Try.prog Try.f40=some DO:=by kernel_rfl
def DP:AF:=⟨2,31,[.cells 4 4],r [B 2 0,B 3 1,o 4 (.alloc [.int .u64 0,.int .u64 0,.int .u64 0,.int .u64 0])] (r [o 5 (.alloc [.int .u64 0,.int .u64 0,.int .u64 0,.int .u64 0])] (q (r [o 6 (.mv (i 0))] (.block 0 (.loop (q (r [m 7 6,f 5 8 2,v 9 8,L 10 9,b .lss 11 7 10] (d 11 .skip (.exit 0))) (q (.block 1 (q (.ak [n 4 14 3,f 5 15 2,v 16 15,m 17 6,j 2 18 16 17,o 19 (.cv 2 1 (.t 18) (i 0)),v 20 19,c 21 59 [.t 14,.t 20]] []) (d 21 (.ak [n 4 22 5,f 5 23 2,v 24 23,m 25 6,j 2 26 24 25,o 27 (.cv 2 1 (.t 26) (i 1)),v 28 27,c 29 65 [.t 22,.t 28],s (.st 4 (.t 5) (.t 29))] []) .skip))) (.aA [m 12 6,h .add 13 12 1,m 6 13])))))) (r [n 4 30 5,s (.st 4 (.t 4) (.t 30))] .ret)))⟩
theorem Ma:ab Try.prog Try.f41=some DP:=by kernel_rfl
def Jn:AF:=⟨2,56,[.tmp 4],r [B 2 0,o 4 (.mv (.k (.slice none 0 0)))] (r [n 6 10 2,c 11 32 [.t 10],m 5 11] (r [f 4 12 2,v 13 12,f 0 14 2,v 15 14,c 16 37 [.t 13,.t 15],o 17 (.bsl 1 1 [y] [(0,(1,.t 16))]),o 6 (.alloc [y]),s (.st 1 (.t 6) (.t 17))] (q (r [o 7 (.alloc [z]),s (.st 1 (.t 7) (i 1))] (.block 0 (.loop (q (r [v 18 7,m 19 1,b .leq 20 18 19] (d 20 .skip (.exit 0))) (q (.block 1 (r [v 23 6,v 24 7,h .sub 25 24 1,j 1 26 23 25,v 27 26,c 28 66 [.t 27],m 8 28] (q (r [m 29 8,L 30 29,o 31 (.mv (i 0))] (.block 2 (.loop (r [b .lss 32 31 30] (q (d 32 .skip (.exit 2)) (q (.block 3 (r [m 33 31,m 9 33] (.aA [m 34 8,m 35 9,m 36 8,m 37 9,j 1 38 36 37,v 39 38,m 40 39,N 40 41 5,N 40 42 9,og 40 false 43 (.ia 1 (.t 41) (.t 42)),og 40 false 44 (.ld (.t 43)),og 40 false 45 (.mkf 67 [] [.t 6,.t 7]),og 40 false 46 (.call 38 [.t 44,.t 45]),P 47 40 46,j 1 48 34 35,s (.st 1 (.t 48) (.t 47))]))) (.aA [h .add 49 31 1,m 31 49]))))))) (.aA [v 50 6,m 51 8,o 52 (.bsl 1 1 [y] [(0,(1,.t 51))]),o 53 (.app 1 24 (.t 50) (.t 52)),s (.st 1 (.t 6) (.t 53))])))) (q (r [v 54 7] (.aA [o 7 (.alloc [z]),s (.st 1 (.t 7) (.t 54))])) (.aA [v 21 7,h .add 22 21 1,s (.st 1 (.t 7) (.t 22))]))))))) (r [v 55 6,m 4 55] .ret))))⟩
theorem Mb:ab Try.prog Try.f44=some Jn:=by kernel_rfl
def Jo:AF:=⟨6,27,[.tmp 7],r [o 7 (.mv F)] (q (.ak [f 2 8 1,v 9 8,m 10 0,j 1 11 9 10,v 12 11,v 13 2,b .neq 14 12 13,m 15 14,og 15 false 16 (.ld (.t 3)),og 15 false 17 (.ld (.t 4)),og 15 false 18 (.ld (.t 5)),og 15 false 19 (.bin .sub (.t 17) (.t 18)),og 15 false 20 (.ia 1 (.t 16) (.t 19)),og 15 false 21 (.ld (.t 20)),N 15 22 0,og 15 false 23 (.ia 1 (.t 21) (.t 22)),og 15 false 24 (.ld (.t 23)),og 15 false 25 (.un .not (.t 24)),P 26 15 25,m 7 26] []) .ret)⟩
theorem Mc:ab Try.prog Try.f45=some Jo:=by kernel_rfl
def Jp:AF:=⟨2,8,[.tmp 3],r [o 3 (.mv F)] (r [v 4 1,m 5 0,j 1 6 4 5,v 7 6,m 3 7] .ret)⟩
theorem Me:ab Try.prog Try.f46=some Jp:=by kernel_rfl
def DQ:AF:=⟨2,29,[.tmp 4],r [o 4 (.mv (i 0))] (q (r [o 5 (.mv (i 0))] (.block 0 (.loop (q (r [m 6 5,m 7 0,L 8 7,b .lss 9 6 8] (d 9 .skip (.exit 0))) (q (.block 1 (r [m 12 0,m 13 5,j 1 14 12 13,v 15 14,m 16 1,c 17 69 [.t 15,.t 16],U 18 17,m 19 18,M 19 20 1,M 19 21 0,M 19 22 5,og 19 true 23 (.ia 1 (.t 21) (.t 22)),og 19 true 24 (.ld (.t 23)),og 19 true 25 (.call 69 [.t 20,.t 24]),og 19 true 26 (.un .not (.t 25)),p 27 19 26] (d 27 (r [m 28 5,m 4 28] .ret) .skip))) (.aA [m 10 5,h .add 11 10 1,m 5 11])))))) (r [o 4 (.mv (i (-1)))] .ret))⟩
theorem Mf:ab Try.prog Try.f48=some DQ:=by kernel_rfl
def DR:AF:=⟨1,64,[.tmp 2],r [B 1 0,o 2 (.mv (.k (.slice none 0 0)))] (q (.ak [n 6 10 1,f 0 12 1,v 13 12,o 14 (.mksl 1 24 [y] (.t 13)),c 11 32 [.t 10],m 3 11,m 4 14] [(0,(2,4)),(1,(3,4))]) (q (r [f 5 15 1,v 16 15,L 17 16,o 18 (.mv (i 0))] (.block 0 (.loop (r [b .lss 19 18 17] (q (d 19 .skip (.exit 0)) (q (.block 1 (r [j 2 20 16 18,n 2 21 20,o 6 (.alloc [z,z]),s (.st 2 (.t 6) (.t 21))] (.ak [m 22 4,o 23 (.cv 2 1 (.t 6) (i 1)),v 24 23,m 25 4,o 26 (.cv 2 1 (.t 6) (i 1)),v 27 26,j 1 28 25 27,v 29 28,o 30 (.cv 2 1 (.t 6) (i 0)),v 31 30,o 32 (.bsl 1 1 [z] [(0,(1,.t 31))]),o 33 (.app 1 8 (.t 29) (.t 32)),j 1 34 22 24,s (.st 1 (.t 34) (.t 33))] [(0,(2,11))]))) (.aA [h .add 35 18 1,m 18 35]))))))) (q (.ak [m 36 3,f 3 37 1,v 38 37,m 40 4,f 4 41 1,v 42 41,c 39 70 [.t 36,.t 38],c 43 70 [.t 40,.t 42],m 7 39,m 8 43] [(0,(5,6))]) (q (r [m 44 7,L 45 44,o 46 (.mv (i 0))] (.block 2 (.loop (r [b .lss 47 46 45] (q (d 47 .skip (.exit 2)) (q (.block 3 (r [m 48 46,m 9 48] (.aA [m 49 7,m 50 9,m 51 7,m 52 9,j 1 53 51 52,v 54 53,m 55 54,M 55 56 8,M 55 57 9,og 55 true 58 (.ia 1 (.t 56) (.t 57)),og 55 true 59 (.ld (.t 58)),p 60 55 59,j 1 61 49 50,s (.st 1 (.t 61) (.t 60))]))) (.aA [h .add 62 46 1,m 46 62]))))))) (r [m 63 7,m 2 63] .ret)))))⟩
theorem Mg:ab Try.prog Try.f49=some DR:=by kernel_rfl
def Jq:AF:=⟨5,53,[.tmp 6],r [o 6 (.mv F)] (q (r [v 10 1,m 11 0,j 1 12 10 11,v 13 12,h .neq 14 13 0] (d 14 (r [v 15 1,m 16 0,j 1 17 15 16,v 18 17,h .gtr 19 18 0,m 6 19] .ret) .skip)) (r [v 20 1,m 21 0,j 1 22 20 21,s (.st 1 (.t 22) (i (-1)))] (r [o 7 (.mv (i 1))] (q (r [v 23 2,m 24 0,j 1 25 23 24,v 26 25,L 27 26,o 28 (.mv (i 0))] (.block 0 (.loop (r [b .lss 29 28 27] (q (d 29 .skip (.exit 0)) (q (.block 1 (r [j 1 30 26 28,v 31 30,m 9 31] (q (r [v 32 3,m 33 9,j 1 34 32 33,v 35 34,U 36 35] (d 36 (.exit 1) .skip)) (q (r [v 37 4,m 38 9,o 39 (.callv (.t 37) [.t 38]),U 40 39] (d 40 (r [o 6 (.mv F)] .ret) .skip)) (.aA [m 41 7,v 42 1,m 43 9,j 1 44 42 43,v 45 44,h .add 46 45 1,o 47 (.mxl (.t 41) [.t 46]),m 7 47]))))) (.aA [h .add 48 28 1,m 28 48]))))))) (r [v 49 1,m 50 0,m 51 7,j 1 52 49 50,s (.st 1 (.t 52) (.t 51))] (r [o 6 (.mv W)] .ret))))))⟩
theorem Mh:ab Try.prog Try.f50=some Jq:=by kernel_rfl
def DS:AF:=⟨1,10,[.cells 2 4],r [B 1 0,o 2 (.alloc [.int .u64 0,.int .u64 0,.int .u64 0,.int .u64 0])] (q (.ak [n 6 3 1,n 6 5 1,f 0 6 1,v 7 6,c 4 71 [.t 3],c 8 68 [.t 5,.t 7],c 9 52 [.t 4,.t 8],s (.st 4 (.t 2) (.t 9))] [(0,(1,4)),(0,(3,4))]) .ret)⟩
theorem Mi:ab Try.prog Try.f51=some DS:=by kernel_rfl
def DT:AF:=⟨2,26,[.cells 4 4],r [B 2 0,B 3 1,o 4 (.alloc [.int .u64 0,.int .u64 0,.int .u64 0,.int .u64 0])] (r [o 5 (.cv 4 1 (.t 2) (i 0)),v 6 5,o 7 (.cv 4 1 (.t 3) (i 0)),v 8 7,b .and 9 6 8,o 10 (.cv 4 1 (.t 2) (i 1)),v 11 10,o 12 (.cv 4 1 (.t 3) (i 1)),v 13 12,b .and 14 11 13,o 15 (.cv 4 1 (.t 2) (i 2)),v 16 15,o 17 (.cv 4 1 (.t 3) (i 2)),v 18 17,b .and 19 16 18,o 20 (.cv 4 1 (.t 2) (i 3)),v 21 20,o 22 (.cv 4 1 (.t 3) (i 3)),v 23 22,b .and 24 21 23,o 25 (.build [.int .u64 0,.int .u64 0,.int .u64 0,.int .u64 0] [(0,(1,.t 9)),(1,(1,.t 14)),(2,(1,.t 19)),(3,(1,.t 24))]),s (.st 4 (.t 4) (.t 25))] .ret)⟩
theorem Mj:ab Try.prog Try.f52=some DT:=by kernel_rfl
def Jr:AF:=⟨2,12,[.tmp 3],r [o 3 (.mv F)] (r [m 4 0,h .lss 5 4 0,m 6 5,N 6 7 0,og 6 false 8 (.ld (.t 1)),og 6 false 9 (.bin .shl (i 1) (.t 8)),og 6 false 10 (.bin .geq (.t 7) (.t 9)),P 11 6 10,m 3 11] .ret)⟩
theorem Mk:ab Try.prog Try.f53=some Jr:=by kernel_rfl
def Js:AF:=⟨2,40,[.tmp 4],r [o 4 (.mv (i 0))] (r [o 5 (.mv (i 0))] (q (r [m 9 1,L 10 9,o 11 (.mv (i 0))] (.block 0 (.loop (r [b .lss 12 11 10] (q (d 12 .skip (.exit 0)) (q (.block 1 (r [j 1 13 9 11,v 14 13,m 7 14] (r [m 15 0,o 16 (.cM (.t 15)),f 0 17 16,v 18 17,m 19 7,o 20 (.look 0 (.pointer none) (.t 18) (.t 19) false),m 8 20] (q (r [m 21 8,o 22 (.eqk 1 false (.t 21) (.k (.pointer none)))] (d 22 (r [o 23 .mkmap,o 24 (.build [.map none,.bool false] [(0,(1,.t 23))]),B 25 24,m 8 25] (r [m 26 0,o 27 (.cM (.t 26)),f 0 28 27,v 29 28,m 30 7,m 31 8,s (.qF 0 (.t 29) (.t 30) (.t 31))] (.aA [m 32 5,h .add 33 32 1,m 5 33]))) .skip)) (.aA [m 34 8,m 0 34]))))) (.aA [h .add 35 11 1,m 11 35]))))))) (r [m 36 0,o 37 (.cM (.t 36)),f 1 38 37,s (.st 1 (.t 38) W)] (r [m 39 5,m 4 39] .ret))))⟩
theorem Ml:ab Try.prog Try.f54=some Js:=by kernel_rfl
def Jt:AF:=⟨2,92,[.cells 4 6],r [o 4 (.alloc [z,z,y,y,y,y])] (r [m 12 1,o 13 (.build [z,z,y,y,y,y] [(1,(1,.t 12))]),o 5 (.alloc [z,z,y,y,y,y]),s (.st 6 (.t 5) (.t 13))] (r [m 14 0,o 15 (.build [.pointer none,z] [(0,(1,.t 14)),(1,(1,.k (.int .i64 (-1))))]),o 16 (.bsl 1 2 [.pointer none,z] [(0,(2,.t 15))]),m 6 16] (q (r [o 7 (.mv (i 0))] (.block 0 (.loop (q (r [m 17 7,m 18 6,L 19 18,b .lss 20 17 19] (d 20 .skip (.exit 0))) (q (.block 1 (r [m 23 6,m 24 7,j 2 25 23 24,n 2 26 25,o 8 (.alloc [.pointer none,z]),s (.st 2 (.t 8) (.t 26))] (r [m 27 1,o 28 (.bin .shl (i 1) (.t 27)),o 29 (.mv (i 0))] (.block 2 (.loop (r [b .lss 30 29 28] (q (d 30 .skip (.exit 2)) (q (.block 3 (r [m 31 29,m 9 31] (r [f 0 32 8,v 33 32,o 34 (.cM (.t 33)),f 0 35 34,v 36 35,m 37 9,o 38 (.look 0 (.pointer none) (.t 36) (.t 37) false),m 10 38] (q (r [m 39 10,o 40 (.eqk 1 false (.t 39) (.k (.pointer none)))] (d 40 (.exit 3) .skip)) (r [f 0 41 5,v 42 41,m 11 42] (r [f 0 43 5,v 44 43,h .add 45 44 1,f 0 46 5,s (.st 1 (.t 46) (.t 45))] (r [f 2 47 5,v 48 47,m 49 9,o 50 (.bsl 1 1 [z] [(0,(1,.t 49))]),o 51 (.app 1 8 (.t 48) (.t 50)),f 2 52 5,s (.st 1 (.t 52) (.t 51))] (q (r [f 1 53 8,v 54 53,h .lss 55 54 0] (d 55 (.aA [f 3 56 5,v 57 56,m 58 11,o 59 (.bsl 1 1 [z] [(0,(1,.t 58))]),o 60 (.app 1 8 (.t 57) (.t 59)),f 3 61 5,s (.st 1 (.t 61) (.t 60))]) (.aA [f 5 62 5,v 63 62,f 1 64 8,v 65 64,m 66 11,o 67 (.build [z,z] [(0,(1,.t 65)),(1,(1,.t 66))]),o 68 (.bsl 1 2 [z,z] [(0,(2,.t 67))]),o 69 (.app 2 16 (.t 63) (.t 68)),f 5 70 5,s (.st 1 (.t 70) (.t 69))]))) (q (r [m 71 10,o 72 (.cM (.t 71)),f 1 73 72,v 74 73] (d 74 (.aA [f 4 75 5,v 76 75,m 77 11,o 78 (.bsl 1 1 [z] [(0,(1,.t 77))]),o 79 (.app 1 8 (.t 76) (.t 78)),f 4 80 5,s (.st 1 (.t 80) (.t 79))]) .skip)) (.aA [m 81 6,m 82 10,m 83 11,o 84 (.build [.pointer none,z] [(0,(1,.t 82)),(1,(1,.t 83))]),o 85 (.bsl 1 2 [.pointer none,z] [(0,(2,.t 84))]),o 86 (.app 2 16 (.t 81) (.t 85)),m 6 86])))))))))) (.aA [h .add 87 29 1,m 29 87]))))))))) (.aA [m 21 7,h .add 22 21 1,m 7 22])))))) (r [f 5 88 5,v 89 88,c 90 72 [.t 89,.f 30]] (r [n 6 91 5,s (.st 6 (.t 4) (.t 91))] .ret)))))⟩
theorem Mm:ab Try.prog Try.f55=some Jt:=by kernel_rfl
def DU:AF:=⟨3,26,[.tmp 4],r [o 4 (.mv (.k (.slice none 0 0)))] (q (r [m 7 0,L 8 7,o 9 (.mv (i 0))] (.block 0 (.loop (r [b .lss 10 9 8] (q (d 10 .skip (.exit 0)) (q (.block 1 (r [j 1 11 7 9,v 12 11,m 6 12] (r [v 13 1,m 14 6,j 1 15 13 14,v 16 15] (d 16 (.aA [m 17 4,v 18 2,m 19 6,j 1 20 18 19,v 21 20,o 22 (.bsl 1 1 [z] [(0,(1,.t 21))]),o 23 (.app 1 8 (.t 17) (.t 22)),m 4 23]) .skip)))) (.aA [h .add 24 9 1,m 9 24]))))))) (r [m 25 4,m 4 25] .ret))⟩
theorem Mn:ab Try.prog Try.f58=some DU:=by kernel_rfl
def BA:AF:=⟨2,15,[.tmp 4],r [B 2 0,o 4 (.mv F)] (r [m 5 1,h .quo 6 5 64,o 7 (.cv 4 1 (.t 2) (.t 6)),v 8 7,m 9 1,h .rem 10 9 64,o 11 (.j0 .u64 (.t 10)),b .shr 12 8 11,o 13 (.bin .and (.t 12) (.k (.int .u64 1))),o 14 (.bin .eql (.t 13) (.k (.int .u64 1))),m 4 14] .ret)⟩
theorem Mo:ab Try.prog Try.f59=some BA:=by kernel_rfl
def DV:AF:=⟨3,92,[.cells 6 6],r [B 3 0,o 6 (.alloc [z,z,y,y,y,y])] (q (.ak [f 1 13 3,v 14 13,m 15 2,m 16 2,o 17 (.mksl 1 8 [z] (.t 16)),o 18 (.build [z,z,y,y,y,y] [(1,(1,.t 14)),(0,(1,.t 15)),(2,(1,.t 17))]),o 7 (.alloc [z,z,y,y,y,y]),s (.st 6 (.t 7) (.t 18))] []) (q (r [o 8 (.mv (i 0))] (.block 0 (.loop (q (r [m 19 8,m 20 2,b .lss 21 19 20] (d 21 .skip (.exit 0))) (q (.block 1 (r [o 9 (.mv F),o 10 (.mv F)] (q (r [o 11 (.mv (i 0))] (.block 2 (.loop (q (r [m 24 11,f 0 25 3,v 26 25,b .lss 27 24 26] (d 27 .skip (.exit 2))) (q (.block 3 (r [m 30 1,m 31 11,j 1 32 30 31,v 33 32,m 34 8,b .eql 35 33 34] (d 35 (q (.ak [f 2 36 7,v 37 36,m 38 8,f 2 39 3,v 40 39,m 41 11,j 1 42 40 41,v 43 42,j 1 44 37 38,s (.st 1 (.t 44) (.t 43))] []) (.aA [m 45 9,m 46 45,og 46 false 47 (.fa 3 (.t 3)),og 46 false 48 (.ld (.t 47)),N 46 49 11,og 46 false 50 (.call 74 [.t 48,.t 49]),P 51 46 50,m 52 10,m 53 52,og 53 false 54 (.fa 4 (.t 3)),og 53 false 55 (.ld (.t 54)),N 53 56 11,og 53 false 57 (.call 74 [.t 55,.t 56]),P 58 53 57,m 9 51,m 10 58])) .skip))) (.aA [m 28 11,h .add 29 28 1,m 11 29])))))) (q (r [m 59 9] (d 59 (.aA [f 3 60 7,v 61 60,m 62 8,o 63 (.bsl 1 1 [z] [(0,(1,.t 62))]),o 64 (.app 1 8 (.t 61) (.t 63)),f 3 65 7,s (.st 1 (.t 65) (.t 64))]) .skip)) (q (r [m 66 10] (d 66 (.aA [f 4 67 7,v 68 67,m 69 8,o 70 (.bsl 1 1 [z] [(0,(1,.t 69))]),o 71 (.app 1 8 (.t 68) (.t 70)),f 4 72 7,s (.st 1 (.t 72) (.t 71))]) .skip)) (r [o 12 (.mv (i 0))] (.block 4 (.loop (q (r [m 73 12,m 74 2,b .lss 75 73 74] (d 75 .skip (.exit 4))) (q (.block 5 (r [n 6 78 3,m 79 1,m 80 8,m 81 12,c 82 75 [.t 78,.t 79,.t 80,.t 81]] (d 82 (.aA [f 5 83 7,v 84 83,m 85 8,m 86 12,o 87 (.build [z,z] [(0,(1,.t 85)),(1,(1,.t 86))]),o 88 (.bsl 1 2 [z,z] [(0,(2,.t 87))]),o 89 (.app 2 16 (.t 84) (.t 88)),f 5 90 7,s (.st 1 (.t 90) (.t 89))]) .skip))) (.aA [m 76 12,h .add 77 76 1,m 12 77]))))))))))) (.aA [m 22 8,h .add 23 22 1,m 8 23])))))) (r [n 6 91 7,s (.st 6 (.t 6) (.t 91))] .ret)))⟩
theorem Mq:ab Try.prog Try.f60=some DV:=by kernel_rfl
def DW:AF:=⟨2,36,[.tmp 4],r [o 4 (.mv (i 0))] (q (r [m 9 0,L 10 9,o 11 (.mv (i 0))] (.block 0 (.loop (r [b .lss 12 11 10] (q (d 12 .skip (.exit 0)) (q (.block 1 (r [m 13 11,j 1 14 9 11,v 15 14,m 5 13,m 6 15] (q (r [m 16 5,m 17 1,L 18 17,b .geq 19 16 18] (d 19 (r [o 4 (.mv (i 1))] .ret) .skip)) (r [m 20 1,m 21 5,j 1 22 20 21,v 23 22,m 7 23] (r [m 24 6,m 25 7,c 26 76 [.t 24,.t 25],m 8 26] (r [m 27 8,h .neq 28 27 0] (d 28 (r [m 29 8,m 4 29] .ret) .skip))))))) (.aA [h .add 30 11 1,m 11 30]))))))) (q (r [m 31 0,L 32 31,m 33 1,L 34 33,b .lss 35 32 34] (d 35 (r [o 4 (.mv (i (-1)))] .ret) .skip)) (r [o 4 (.mv (i 0))] .ret)))⟩
theorem Mr:ab Try.prog Try.f61=some DW:=by kernel_rfl
def Ju:AF:=⟨2,19,[.tmp 4],r [o 4 (.mv (i 0))] (q (r [m 6 0,L 7 6,o 8 (.mv (i 0))] (.block 0 (.loop (r [b .lss 9 8 7] (q (d 9 .skip (.exit 0)) (q (.block 1 (r [m 10 8,m 5 10] (r [m 11 1,m 12 0,m 13 5,j 1 14 12 13,v 15 14,o 16 (.callv (.t 11) [.t 15])] (d 16 (r [m 17 5,m 4 17] .ret) .skip)))) (.aA [h .add 18 8 1,m 8 18]))))))) (r [o 4 (.mv (i (-1)))] .ret))⟩
theorem Ms:ab Try.prog Try.f62=some Ju:=by kernel_rfl
def Jv:AF:=⟨1,11,[],r [m 3 0,L 4 3,m 2 4] (.aA [m 5 0,m 6 2,m 7 2,o 8 (.j0 .u64 (.t 7)),c 9 78 [.t 8],c 10 77 [.t 5,i 0,.t 6,.t 9]])⟩
theorem Mt:ab Try.prog Try.f63=some Jv:=by kernel_rfl
def Jw:AF:=⟨1,61,[.tmp 2],r [o 2 (.mv (.k (.slice none 0 0)))] (q (r [m 6 0,L 7 6,h .lss 8 7 2] (d 8 (r [m 9 0,m 2 9] .ret) .skip)) (q (r [o 3 (.mv (i 1))] (.block 0 (.loop (q (r [m 10 3,m 11 0,L 12 11,b .lss 13 10 12] (d 13 .skip (.exit 0))) (q (.block 1 (q (.ak [m 16 0,m 17 3,j 1 18 16 17,v 19 18,m 20 0,m 21 3,h .sub 22 21 1,j 1 23 20 22,v 24 23,b .eql 25 19 24] []) (d 25 (r [m 26 0,m 27 3,o 28 (.sl 1 (.t 26) (some (.t 27)) none none),m 4 28] (q (r [o 5 (.mv (i 1))] (.block 2 (.loop (q (r [m 29 5,m 30 4,L 31 30,b .lss 32 29 31] (d 32 .skip (.exit 2))) (q (.block 3 (q (.ak [m 35 4,m 36 5,j 1 37 35 36,v 38 37,m 39 4,m 40 5,h .sub 41 40 1,j 1 42 39 41,v 43 42,b .neq 44 38 43] []) (d 44 (r [m 45 0,m 46 3,m 47 4,m 48 5,j 1 49 47 48,v 50 49,j 1 51 45 46,s (.st 1 (.t 51) (.t 50))] (.aA [m 52 3,h .add 53 52 1,m 3 53])) .skip))) (.aA [m 33 5,h .add 34 33 1,m 5 34])))))) (r [m 54 0,m 55 3,o 56 (.sl 1 (.t 54) (some (.t 55)) none none),s (.xt (.mZ [z]) [.t 56])] (r [m 57 0,m 58 3,o 59 (.sl 1 (.t 57) none (some (.t 58)) none),m 2 59] .ret)))) .skip))) (.aA [m 14 3,h .add 15 14 1,m 3 15])))))) (r [m 60 0,m 2 60] .ret)))⟩
theorem Mu:ab Try.prog Try.f64=some Jw:=by kernel_rfl
def DX:AF:=⟨2,18,[.cells 4 4],r [B 2 0,o 4 (.alloc [.int .u64 0,.int .u64 0,.int .u64 0,.int .u64 0])] (r [m 5 1,h .quo 6 5 64,m 7 1,h .quo 8 7 64,o 9 (.cv 4 1 (.t 2) (.t 8)),v 10 9,m 11 1,h .rem 12 11 64,o 13 (.j0 .u64 (.t 12)),o 14 (.bin .shl (.k (.int .u64 1)) (.t 13)),b .or 15 10 14,o 16 (.cv 4 1 (.t 2) (.t 6)),s (.st 1 (.t 16) (.t 15))] (r [n 4 17 2,s (.st 4 (.t 4) (.t 17))] .ret))⟩
theorem Mv:ab Try.prog Try.f65=some DX:=by kernel_rfl
def Jx:AF:=⟨1,8,[.tmp 2],r [o 2 (.mv (.k (.slice none 0 0)))] (q (r [m 3 0,o 4 (.eqk 2 false (.t 3) (.k (.slice none 0 0)))] (d 4 (r [o 2 (.mv (.k (.slice none 0 0)))] .ret) .skip)) (r [o 5 (.bsl 0 1 [] []),m 6 0,o 7 (.app 1 1 (.t 5) (.t 6)),m 2 7] .ret))⟩
theorem Mw:ab Try.prog Try.f66=some Jx:=by kernel_rfl
def Jy:AF:=⟨3,13,[.tmp 4],r [o 4 (.mv F)] (r [v 5 1,v 6 2,h .sub 7 6 1,j 1 8 5 7,v 9 8,m 10 0,j 1 11 9 10,v 12 11,m 4 12] .ret)⟩
theorem Mx:ab Try.prog Try.f67=some Jy:=by kernel_rfl
def DY:AF:=⟨2,21,[.cells 4 4],r [B 2 0,o 4 (.alloc [.int .u64 0,.int .u64 0,.int .u64 0,.int .u64 0])] (r [f 4 7 2,v 8 7,c 9 40 [.t 8],o 5 (.alloc [.int .u64 0,.int .u64 0,.int .u64 0,.int .u64 0]),s (.st 4 (.t 5) (.t 9))] (q (r [o 6 (.mv (i 0))] (.block 0 (.loop (q (r [m 10 6,m 11 1,b .lss 12 10 11] (d 12 .skip (.exit 0))) (q (.block 1 (.ak [n 4 15 5,n 6 16 2,n 4 17 5,c 18 80 [.t 16,.t 17],c 19 79 [.t 15,.t 18],s (.st 4 (.t 5) (.t 19))] [(0,(0,3))])) (.aA [m 13 6,h .add 14 13 1,m 6 14])))))) (r [n 4 20 5,s (.st 4 (.t 4) (.t 20))] .ret)))⟩
theorem My:ab Try.prog Try.f68=some DY:=by kernel_rfl
def BB:AF:=⟨2,40,[.tmp 4],r [o 4 (.mv F)] (q (r [m 6 0,L 7 6,m 8 1,L 9 8,b .neq 10 7 9] (d 10 (r [m 11 0,L 12 11,m 13 1,L 14 13,b .lss 15 12 14,m 4 15] .ret) .skip)) (q (r [o 5 (.mv (i 0))] (.block 0 (.loop (q (r [m 16 5,m 17 0,L 18 17,b .lss 19 16 18] (d 19 .skip (.exit 0))) (q (.block 1 (q (.ak [m 22 0,m 23 5,j 1 24 22 23,v 25 24,m 26 1,m 27 5,j 1 28 26 27,v 29 28,b .neq 30 25 29] []) (d 30 (q (.ak [m 31 0,m 32 5,j 1 33 31 32,v 34 33,m 35 1,m 36 5,j 1 37 35 36,v 38 37,b .lss 39 34 38,m 4 39] []) .ret) .skip))) (.aA [m 20 5,h .add 21 20 1,m 5 21])))))) (r [o 4 (.mv F)] .ret)))⟩
theorem Mz:ab Try.prog Try.f69=some BB:=by kernel_rfl
def DZ:AF:=⟨2,48,[.tmp 4],r [o 4 (.mv (.k (.slice none 0 0)))] (r [m 10 1,m 11 0,L 12 11,c 13 37 [.t 10,.t 12],m 5 13] (r [m 14 1,c 15 33 [.t 14],m 6 15] (q (r [o 7 (.mv (i 0))] (.block 0 (.loop (q (r [m 16 7,m 17 6,L 18 17,b .lss 19 16 18] (d 19 .skip (.exit 0))) (q (.block 1 (r [m 22 0,m 23 6,m 24 7,j 1 25 23 24,v 26 25,j 1 27 22 26,v 28 27,L 29 28,o 30 (.mv (i 0))] (.block 2 (.loop (r [b .lss 31 30 29] (q (d 31 .skip (.exit 2)) (q (.block 3 (r [j 1 32 28 30,v 33 32,m 9 33] (r [m 34 5,m 35 9,j 1 36 34 35,v 37 36,U 38 37] (d 38 (r [m 39 5,m 40 9,j 1 41 39 40,s (.st 1 (.t 41) W)] (.aA [m 42 6,m 43 9,o 44 (.bsl 1 1 [z] [(0,(1,.t 43))]),o 45 (.app 1 8 (.t 42) (.t 44)),m 6 45])) .skip)))) (.aA [h .add 46 30 1,m 30 46])))))))) (.aA [m 20 7,h .add 21 20 1,m 7 21])))))) (r [m 47 5,m 4 47] .ret))))⟩
theorem MB:ab Try.prog Try.f70=some DZ:=by kernel_rfl
def D0:AF:=⟨1,20,[.cells 2 4],r [B 1 0,o 2 (.alloc [.int .u64 0,.int .u64 0,.int .u64 0,.int .u64 0])] (r [f 3 5 1,v 6 5,c 7 40 [.t 6],o 3 (.alloc [.int .u64 0,.int .u64 0,.int .u64 0,.int .u64 0]),s (.st 4 (.t 3) (.t 7))] (q (r [o 4 (.mv (i 0))] (.block 0 (.loop (q (r [m 8 4,f 0 9 1,v 10 9,b .lss 11 8 10] (d 11 .skip (.exit 0))) (q (.block 1 (.ak [n 4 14 3,n 6 15 1,n 4 16 3,c 17 41 [.t 15,.t 16],c 18 79 [.t 14,.t 17],s (.st 4 (.t 3) (.t 18))] [(0,(0,3))])) (.aA [m 12 4,h .add 13 12 1,m 4 13])))))) (r [n 4 19 3,s (.st 4 (.t 2) (.t 19))] .ret)))⟩
theorem MC:ab Try.prog Try.f71=some D0:=by kernel_rfl
def Jz:AF:=⟨2,14,[],r [m 5 0,L 6 5,m 4 6] (.aA [m 7 0,m 8 4,m 9 4,o 10 (.j0 .u64 (.t 9)),c 11 78 [.t 10],m 12 1,c 13 81 [.t 7,i 0,.t 8,.t 11,.t 12]])⟩
theorem ME:ab Try.prog Try.f72=some Jz:=by kernel_rfl
def D1:AF:=⟨2,18,[.tmp 4],r [o 4 (.mv F)] (q (r [o 5 (.mv (i 0))] (.block 0 (.loop (q (r [m 6 5,m 7 0,L 8 7,b .lss 9 6 8] (d 9 .skip (.exit 0))) (q (.block 1 (r [m 12 0,m 13 5,j 1 14 12 13,v 15 14,m 16 1,b .eql 17 15 16] (d 17 (r [o 4 (.mv W)] .ret) .skip))) (.aA [m 10 5,h .add 11 10 1,m 5 11])))))) (r [o 4 (.mv F)] .ret))⟩
theorem MF:ab Try.prog Try.f74=some D1:=by kernel_rfl
def D2:AF:=⟨4,41,[.tmp 8],r [B 4 0,o 8 (.mv F)] (q (r [o 9 (.mv (i 0))] (.block 0 (.loop (q (r [m 10 9,f 5 11 4,v 12 11,L 13 12,b .lss 14 10 13] (d 14 .skip (.exit 0))) (q (.block 1 (r [m 17 1,f 5 18 4,v 19 18,m 20 9,j 2 21 19 20,o 22 (.cv 2 1 (.t 21) (i 0)),v 23 22,j 1 24 17 23,v 25 24,m 26 2,b .eql 27 25 26,m 28 27,M 28 29 1,og 28 true 30 (.fa 5 (.t 4)),og 28 true 31 (.ld (.t 30)),M 28 32 9,og 28 true 33 (.ia 2 (.t 31) (.t 32)),og 28 true 34 (.cv 2 1 (.t 33) (i 1)),og 28 true 35 (.ld (.t 34)),og 28 true 36 (.ia 1 (.t 29) (.t 35)),og 28 true 37 (.ld (.t 36)),M 28 38 3,og 28 true 39 (.bin .eql (.t 37) (.t 38)),p 40 28 39] (d 40 (r [o 8 (.mv W)] .ret) .skip))) (.aA [m 15 9,h .add 16 15 1,m 9 16])))))) (r [o 8 (.mv F)] .ret))⟩
theorem MG:ab Try.prog Try.f75=some D2:=by kernel_rfl
def D3:AF:=⟨2,20,[.tmp 4],r [o 4 (.mv (i 0))] (r [m 7 0,c 8 82 [.t 7],m 5 8] (r [m 9 1,c 10 82 [.t 9],m 6 10] (q (r [m 11 5] (d 11 (q (r [m 12 6] (d 12 (r [o 4 (.mv (i 0))] .ret) .skip)) (r [o 4 (.mv (i (-1)))] .ret)) .skip)) (q (r [m 13 6] (d 13 (r [o 4 (.mv (i 1))] .ret) .skip)) (q (r [m 14 0,m 15 1,b .lss 16 14 15] (d 16 (r [o 4 (.mv (i (-1)))] .ret) .skip)) (q (r [m 17 0,m 18 1,b .gtr 19 17 18] (d 19 (r [o 4 (.mv (i 1))] .ret) .skip)) (r [o 4 (.mv (i 0))] .ret)))))))⟩
theorem MJ:ab Try.prog Try.f76=some D3:=by kernel_rfl
def JA:AF:=⟨4,134,[],r [o 8 (.mv W)] (r [o 9 (.mv W)] (.block 0 (.loop (.block 1 (r [m 19 2,m 20 1,b .sub 21 19 20,m 10 21] (q (r [m 22 10,h .leq 23 22 12] (d 23 (r [m 24 0,m 25 1,m 26 2,c 27 83 [.t 24,.t 25,.t 26]] .ret) .skip)) (q (r [m 28 3,h .eql 29 28 0] (d 29 (r [m 30 0,m 31 1,m 32 2,c 33 84 [.t 30,.t 31,.t 32]] .ret) .skip)) (q (r [m 34 8,U 35 34] (d 35 (r [m 36 0,m 37 1,m 38 2,c 39 85 [.t 36,.t 37,.t 38]] (.aA [m 40 3,h .sub 41 40 1,m 3 41])) .skip)) (r [m 43 0,m 44 1,m 45 2,c 46 86 [.t 43,.t 44,.t 45],m 42 46,e 47 42 0,e 48 42 1,m 11 47,m 12 48] (q (r [m 49 12,h .eql 50 49 2] (d 50 (r [m 51 0,m 52 1,m 53 2,c 54 87 [.t 51,.t 52,.t 53]] (r [m 55 2,h .sub 56 55 1,m 57 11,m 58 1,b .sub 59 57 58,b .sub 60 56 59,m 11 60] (.aA [o 12 (.mv (i 1))]))) .skip)) (q (r [m 61 8,m 62 61,M 62 63 9,p 64 62 63,m 65 64,M 65 66 12,og 65 true 67 (.bin .eql (.t 66) (i 1)),p 68 65 67] (d 68 (r [m 69 0,m 70 1,m 71 2,c 72 88 [.t 69,.t 70,.t 71]] (d 72 .ret .skip)) .skip)) (q (q (.ak [m 73 1,h .gtr 74 73 0,m 75 74,M 75 76 0,M 75 77 1,og 75 true 78 (.bin .sub (.t 77) (i 1)),og 75 true 79 (.ia 1 (.t 76) (.t 78)),og 75 true 80 (.ld (.t 79)),M 75 81 0,M 75 82 11,og 75 true 83 (.ia 1 (.t 81) (.t 82)),og 75 true 84 (.ld (.t 83)),og 75 true 85 (.call 89 [.t 80,.t 84]),og 75 true 86 (.un .not (.t 85)),p 87 75 86] []) (d 87 (r [m 88 0,m 89 1,m 90 2,m 91 11,c 92 90 [.t 88,.t 89,.t 90,.t 91],m 13 92] (r [m 93 13,m 1 93] (.exit 1))) .skip)) (r [m 95 0,m 96 1,m 97 2,m 98 11,c 99 91 [.t 95,.t 96,.t 97,.t 98],m 94 99,e 100 94 0,e 101 94 1,m 14 100,m 15 101] (r [m 102 15,m 9 102] (r [m 103 14,m 104 1,b .sub 105 103 104,m 106 2,m 107 14,b .sub 108 106 107,m 16 105,m 17 108] (r [m 109 10,h .quo 110 109 8,m 18 110] (r [m 111 16,m 112 17,b .lss 113 111 112] (d 113 (r [m 114 16,m 115 18,b .geq 116 114 115,m 8 116] (r [m 117 0,m 118 1,m 119 14,m 120 3,c 121 77 [.t 117,.t 118,.t 119,.t 120]] (.aA [m 122 14,h .add 123 122 1,m 1 123]))) (r [m 124 17,m 125 18,b .geq 126 124 125,m 8 126] (r [m 127 0,m 128 14,h .add 129 128 1,m 130 2,m 131 3,c 132 77 [.t 127,.t 129,.t 130,.t 131]] (.aA [m 133 14,m 2 133])))))))))))))))))))))⟩
theorem MK:ab Try.prog Try.f77=some JA:=by kernel_rfl
def JB:AF:=⟨1,8,[.tmp 2],r [o 2 (.mv (i 0))] (q (.cond F (r [m 3 0,o 4 (.j0 .u32 (.t 3)),c 5 92 [.t 4],m 2 5] .ret) .skip) (r [m 6 0,c 7 93 [.t 6],m 2 7] .ret))⟩
theorem MM:ab Try.prog Try.f78=some JB:=by kernel_rfl
def D4:AF:=⟨2,26,[.cells 4 4],r [B 2 0,B 3 1,o 4 (.alloc [.int .u64 0,.int .u64 0,.int .u64 0,.int .u64 0])] (r [o 5 (.cv 4 1 (.t 2) (i 0)),v 6 5,o 7 (.cv 4 1 (.t 3) (i 0)),v 8 7,b .or 9 6 8,o 10 (.cv 4 1 (.t 2) (i 1)),v 11 10,o 12 (.cv 4 1 (.t 3) (i 1)),v 13 12,b .or 14 11 13,o 15 (.cv 4 1 (.t 2) (i 2)),v 16 15,o 17 (.cv 4 1 (.t 3) (i 2)),v 18 17,b .or 19 16 18,o 20 (.cv 4 1 (.t 2) (i 3)),v 21 20,o 22 (.cv 4 1 (.t 3) (i 3)),v 23 22,b .or 24 21 23,o 25 (.build [.int .u64 0,.int .u64 0,.int .u64 0,.int .u64 0] [(0,(1,.t 9)),(1,(1,.t 14)),(2,(1,.t 19)),(3,(1,.t 24))]),s (.st 4 (.t 4) (.t 25))] .ret)⟩
theorem MN:ab Try.prog Try.f79=some D4:=by kernel_rfl
def D5:AF:=⟨2,31,[.cells 4 4],r [B 2 0,B 3 1,o 4 (.alloc [.int .u64 0,.int .u64 0,.int .u64 0,.int .u64 0])] (r [o 5 (.alloc [.int .u64 0,.int .u64 0,.int .u64 0,.int .u64 0])] (q (r [o 6 (.mv (i 0))] (.block 0 (.loop (q (r [m 7 6,f 5 8 2,v 9 8,L 10 9,b .lss 11 7 10] (d 11 .skip (.exit 0))) (q (.block 1 (q (.ak [n 4 14 3,f 5 15 2,v 16 15,m 17 6,j 2 18 16 17,o 19 (.cv 2 1 (.t 18) (i 1)),v 20 19,c 21 59 [.t 14,.t 20]] []) (d 21 (.ak [n 4 22 5,f 5 23 2,v 24 23,m 25 6,j 2 26 24 25,o 27 (.cv 2 1 (.t 26) (i 0)),v 28 27,c 29 65 [.t 22,.t 28],s (.st 4 (.t 5) (.t 29))] []) .skip))) (.aA [m 12 6,h .add 13 12 1,m 6 13])))))) (r [n 4 30 5,s (.st 4 (.t 4) (.t 30))] .ret)))⟩
theorem MO:ab Try.prog Try.f80=some D5:=by kernel_rfl
def JC:AF:=⟨5,148,[],r [o 10 (.mv W)] (r [o 11 (.mv W)] (.block 0 (.loop (.block 1 (r [m 21 2,m 22 1,b .sub 23 21 22,m 12 23] (q (r [m 24 12,h .leq 25 24 12] (d 25 (r [m 26 0,m 27 1,m 28 2,m 29 4,c 30 94 [.t 26,.t 27,.t 28,.t 29]] .ret) .skip)) (q (r [m 31 3,h .eql 32 31 0] (d 32 (r [m 33 0,m 34 1,m 35 2,m 36 4,c 37 95 [.t 33,.t 34,.t 35,.t 36]] .ret) .skip)) (q (r [m 38 10,U 39 38] (d 39 (r [m 40 0,m 41 1,m 42 2,m 43 4,c 44 96 [.t 40,.t 41,.t 42,.t 43]] (.aA [m 45 3,h .sub 46 45 1,m 3 46])) .skip)) (r [m 48 0,m 49 1,m 50 2,m 51 4,c 52 97 [.t 48,.t 49,.t 50,.t 51],m 47 52,e 53 47 0,e 54 47 1,m 13 53,m 14 54] (q (r [m 55 14,h .eql 56 55 2] (d 56 (r [m 57 0,m 58 1,m 59 2,m 60 4,c 61 98 [.t 57,.t 58,.t 59,.t 60]] (r [m 62 2,h .sub 63 62 1,m 64 13,m 65 1,b .sub 66 64 65,b .sub 67 63 66,m 13 67] (.aA [o 14 (.mv (i 1))]))) .skip)) (q (r [m 68 10,m 69 68,M 69 70 11,p 71 69 70,m 72 71,M 72 73 14,og 72 true 74 (.bin .eql (.t 73) (i 1)),p 75 72 74] (d 75 (r [m 76 0,m 77 1,m 78 2,m 79 4,c 80 99 [.t 76,.t 77,.t 78,.t 79]] (d 80 .ret .skip)) .skip)) (q (q (.ak [m 81 1,h .gtr 82 81 0,m 83 82,M 83 84 4,M 83 85 0,M 83 86 1,og 83 true 87 (.bin .sub (.t 86) (i 1)),og 83 true 88 (.ia 2 (.t 85) (.t 87)),og 83 true 89 (.ldn 2 (.t 88)),M 83 90 0,M 83 91 13,og 83 true 92 (.ia 2 (.t 90) (.t 91)),og 83 true 93 (.ldn 2 (.t 92)),og 83 true 94 (.callv (.t 84) [.t 89,.t 93]),og 83 true 95 (.bin .lss (.t 94) (i 0)),og 83 true 96 (.un .not (.t 95)),p 97 83 96] []) (d 97 (r [m 98 0,m 99 1,m 100 2,m 101 13,m 102 4,c 103 100 [.t 98,.t 99,.t 100,.t 101,.t 102],m 15 103] (r [m 104 15,m 1 104] (.exit 1))) .skip)) (r [m 106 0,m 107 1,m 108 2,m 109 13,m 110 4,c 111 101 [.t 106,.t 107,.t 108,.t 109,.t 110],m 105 111,e 112 105 0,e 113 105 1,m 16 112,m 17 113] (r [m 114 17,m 11 114] (r [m 115 16,m 116 1,b .sub 117 115 116,m 118 2,m 119 16,b .sub 120 118 119,m 18 117,m 19 120] (r [m 121 12,h .quo 122 121 8,m 20 122] (r [m 123 18,m 124 19,b .lss 125 123 124] (d 125 (r [m 126 18,m 127 20,b .geq 128 126 127,m 10 128] (r [m 129 0,m 130 1,m 131 16,m 132 3,m 133 4,c 134 81 [.t 129,.t 130,.t 131,.t 132,.t 133]] (.aA [m 135 16,h .add 136 135 1,m 1 136]))) (r [m 137 19,m 138 20,b .geq 139 137 138,m 10 139] (r [m 140 0,m 141 16,h .add 142 141 1,m 143 2,m 144 3,m 145 4,c 146 81 [.t 140,.t 142,.t 143,.t 144,.t 145]] (.aA [m 147 16,m 2 147])))))))))))))))))))))⟩
theorem MP:ab Try.prog Try.f81=some JC:=by kernel_rfl
def D6:AF:=⟨1,6,[.tmp 2],r [o 2 (.mv F)] (r [m 3 0,m 4 0,b .neq 5 3 4,m 2 5] .ret)⟩
theorem MR:ab Try.prog Try.f82=some D6:=by kernel_rfl
def JD:AF:=⟨3,49,[],r [m 8 1,h .add 9 8 1,m 6 9] (.block 0 (.loop (q (r [m 10 6,m 11 2,b .lss 12 10 11] (d 12 .skip (.exit 0))) (q (.block 1 (r [m 15 6,m 7 15] (.block 2 (.loop (q (q (.ak [m 16 7,m 17 1,b .gtr 18 16 17,m 19 18,M 19 20 0,M 19 21 7,og 19 true 22 (.ia 1 (.t 20) (.t 21)),og 19 true 23 (.ld (.t 22)),M 19 24 0,M 19 25 7,og 19 true 26 (.bin .sub (.t 25) (i 1)),og 19 true 27 (.ia 1 (.t 24) (.t 26)),og 19 true 28 (.ld (.t 27)),og 19 true 29 (.call 89 [.t 23,.t 28]),p 30 19 29] []) (d 30 .skip (.exit 2))) (q (.block 3 (.ak [m 33 0,m 34 7,m 35 0,m 36 7,h .sub 37 36 1,m 38 0,m 39 7,h .sub 40 39 1,j 1 41 38 40,v 42 41,m 43 0,m 44 7,j 1 45 43 44,v 46 45,j 1 47 33 34,s (.st 1 (.t 47) (.t 42)),j 1 48 35 37,s (.st 1 (.t 48) (.t 46))] [])) (.aA [m 31 7,h .sub 32 31 1,m 7 32]))))))) (.aA [m 13 6,h .add 14 13 1,m 6 14])))))⟩
theorem MS:ab Try.prog Try.f83=some JD:=by kernel_rfl
def JE:AF:=⟨3,56,[],r [m 11 1,m 6 11] (r [o 7 (.mv (i 0))] (r [m 12 2,m 13 1,b .sub 14 12 13,m 8 14] (q (r [m 15 8,h .sub 16 15 1,h .quo 17 16 2,m 9 17] (.block 0 (.loop (q (r [m 18 9,h .geq 19 18 0] (d 19 .skip (.exit 0))) (q (.block 1 (.aA [m 22 0,m 23 9,m 24 8,m 25 6,c 26 102 [.t 22,.t 23,.t 24,.t 25]])) (.aA [m 20 9,h .sub 21 20 1,m 9 21])))))) (r [m 27 8,h .sub 28 27 1,m 10 28] (.block 2 (.loop (q (r [m 29 10,h .geq 30 29 0] (d 30 .skip (.exit 2))) (q (.block 3 (q (.ak [m 33 0,m 34 6,m 35 0,m 36 6,m 37 10,b .add 38 36 37,m 39 0,m 40 6,m 41 10,b .add 42 40 41,j 1 43 39 42,v 44 43,m 45 0,m 46 6,j 1 47 45 46,v 48 47,j 1 49 33 34,s (.st 1 (.t 49) (.t 44)),j 1 50 35 38,s (.st 1 (.t 50) (.t 48))] []) (.aA [m 51 0,m 52 7,m 53 10,m 54 6,c 55 102 [.t 51,.t 52,.t 53,.t 54]]))) (.aA [m 31 10,h .sub 32 31 1,m 10 32])))))))))⟩
theorem MT:ab Try.prog Try.f84=some JE:=by kernel_rfl
def JF:AF:=⟨3,65,[],r [m 11 2,m 12 1,b .sub 13 11 12,m 6 13] (r [m 14 6,h .geq 15 14 8] (d 15 (r [m 16 6,o 17 (.j0 .u64 (.t 16)),o 7 (.alloc [.int .u64 0]),s (.st 1 (.t 7) (.t 17))] (r [m 18 6,c 19 103 [.t 18],m 8 19] (r [m 20 1,m 21 6,h .quo 22 21 4,h .mul 23 22 2,b .add 24 20 23,h .sub 25 24 1,m 9 25] (.block 0 (.loop (q (r [m 26 9,m 27 1,m 28 6,h .quo 29 28 4,h .mul 30 29 2,b .add 31 27 30,h .add 32 31 1,b .leq 33 26 32] (d 33 .skip (.exit 0))) (q (.block 1 (r [c 36 104 [.t 7],m 37 8,o 38 (.bin .sub (.t 37) (.k (.int .u64 1))),b .and 39 36 38,o 40 (.j0 .i64 (.t 39)),m 10 40] (q (r [m 41 10,m 42 6,b .geq 43 41 42] (d 43 (.aA [m 44 10,m 45 6,b .sub 46 44 45,m 10 46]) .skip)) (.ak [m 47 0,m 48 9,m 49 0,m 50 1,m 51 10,b .add 52 50 51,m 53 0,m 54 1,m 55 10,b .add 56 54 55,j 1 57 53 56,v 58 57,m 59 0,m 60 9,j 1 61 59 60,v 62 61,j 1 63 47 48,s (.st 1 (.t 63) (.t 58)),j 1 64 49 52,s (.st 1 (.t 64) (.t 62))] [])))) (.aA [m 34 9,h .add 35 34 1,m 9 35])))))))) .skip))⟩
theorem MU:ab Try.prog Try.f85=some JF:=by kernel_rfl
def JG:AF:=⟨3,57,[.tmp 6,.tmp 7],r [o 6 (.mv (i 0)),o 7 (.mv (i 0))] (r [m 13 2,m 14 1,b .sub 15 13 14,m 8 15] (r [o 9 (.alloc [z])] (r [m 16 1,m 17 8,h .quo 18 17 4,h .mul 19 18 1,b .add 20 16 19,m 10 20] (r [m 21 1,m 22 8,h .quo 23 22 4,h .mul 24 23 2,b .add 25 21 24,m 11 25] (r [m 26 1,m 27 8,h .quo 28 27 4,h .mul 29 28 3,b .add 30 26 29,m 12 30] (q (r [m 31 8,h .geq 32 31 8] (d 32 (q (r [m 33 8,h .geq 34 33 50] (d 34 (r [m 35 0,m 36 10,c 37 105 [.t 35,.t 36,.t 9],m 10 37] (r [m 38 0,m 39 11,c 40 105 [.t 38,.t 39,.t 9],m 11 40] (.aA [m 41 0,m 42 12,c 43 105 [.t 41,.t 42,.t 9],m 12 43]))) .skip)) (.aA [m 44 0,m 45 10,m 46 11,m 47 12,c 48 106 [.t 44,.t 45,.t 46,.t 47,.t 9],m 11 48])) .skip)) (r [v 49 9] (.block 0 (r [h .eql 52 49 0,m 51 52] (d 51 (r [m 53 11,m 6 53,o 7 (.mv (i 1))] .ret) (r [h .eql 55 49 12,m 54 55] (d 54 (r [m 56 11,m 6 56,o 7 (.mv (i 2))] .ret) (r [m 50 11,m 6 50,o 7 (.mv (i 0))] .ret)))))))))))))⟩
theorem MV:ab Try.prog Try.f86=some JG:=by kernel_rfl
def JH:AF:=⟨3,32,[],r [m 8 1,m 6 8] (r [m 9 2,h .sub 10 9 1,m 7 10] (.block 0 (.loop (q (r [m 11 6,m 12 7,b .lss 13 11 12] (d 13 .skip (.exit 0))) (.block 1 (q (.ak [m 14 0,m 15 6,m 16 0,m 17 7,m 18 0,m 19 7,j 1 20 18 19,v 21 20,m 22 0,m 23 6,j 1 24 22 23,v 25 24,j 1 26 14 15,s (.st 1 (.t 26) (.t 21)),j 1 27 16 17,s (.st 1 (.t 27) (.t 25))] []) (r [m 28 6,h .add 29 28 1,m 6 29] (.aA [m 30 7,h .sub 31 30 1,m 7 31]))))))))⟩
theorem MW:ab Try.prog Try.f87=some JH:=by kernel_rfl
def JI:AF:=⟨3,133,[.tmp 6],r [o 6 (.mv F)] (r [m 11 1,h .add 12 11 1,m 7 12] (q (r [o 8 (.mv (i 0))] (.block 0 (.loop (q (r [m 13 8,h .lss 14 13 5] (d 14 .skip (.exit 0))) (q (.block 1 (q (.block 2 (.loop (q (q (.ak [m 17 7,m 18 2,b .lss 19 17 18,m 20 19,M 20 21 0,M 20 22 7,og 20 true 23 (.ia 1 (.t 21) (.t 22)),og 20 true 24 (.ld (.t 23)),M 20 25 0,M 20 26 7,og 20 true 27 (.bin .sub (.t 26) (i 1)),og 20 true 28 (.ia 1 (.t 25) (.t 27)),og 20 true 29 (.ld (.t 28)),og 20 true 30 (.call 89 [.t 24,.t 29]),og 20 true 31 (.un .not (.t 30)),p 32 20 31] []) (d 32 .skip (.exit 2))) (.block 3 (.aA [m 33 7,h .add 34 33 1,m 7 34]))))) (q (r [m 35 7,m 36 2,b .eql 37 35 36] (d 37 (r [o 6 (.mv W)] .ret) .skip)) (q (r [m 38 2,m 39 1,b .sub 40 38 39,h .lss 41 40 50] (d 41 (r [o 6 (.mv F)] .ret) .skip)) (q (.ak [m 42 0,m 43 7,m 44 0,m 45 7,h .sub 46 45 1,m 47 0,m 48 7,h .sub 49 48 1,j 1 50 47 49,v 51 50,m 52 0,m 53 7,j 1 54 52 53,v 55 54,j 1 56 42 43,s (.st 1 (.t 56) (.t 51)),j 1 57 44 46,s (.st 1 (.t 57) (.t 55))] []) (q (r [m 58 7,m 59 1,b .sub 60 58 59,h .geq 61 60 2] (d 61 (r [m 62 7,h .sub 63 62 1,m 9 63] (.block 4 (.loop (q (r [m 64 9,h .geq 65 64 1] (d 65 .skip (.exit 4))) (q (.block 5 (q (q (.ak [m 68 0,m 69 9,j 1 70 68 69,v 71 70,m 72 0,m 73 9,h .sub 74 73 1,j 1 75 72 74,v 76 75,c 77 89 [.t 71,.t 76],U 78 77] []) (d 78 (.exit 4) .skip)) (.ak [m 79 0,m 80 9,m 81 0,m 82 9,h .sub 83 82 1,m 84 0,m 85 9,h .sub 86 85 1,j 1 87 84 86,v 88 87,m 89 0,m 90 9,j 1 91 89 90,v 92 91,j 1 93 79 80,s (.st 1 (.t 93) (.t 88)),j 1 94 81 83,s (.st 1 (.t 94) (.t 92))] []))) (.aA [m 66 9,h .sub 67 66 1,m 9 67])))))) .skip)) (r [m 95 2,m 96 7,b .sub 97 95 96,h .geq 98 97 2] (d 98 (r [m 99 7,h .add 100 99 1,m 10 100] (.block 6 (.loop (q (r [m 101 10,m 102 2,b .lss 103 101 102] (d 103 .skip (.exit 6))) (q (.block 7 (q (q (.ak [m 106 0,m 107 10,j 1 108 106 107,v 109 108,m 110 0,m 111 10,h .sub 112 111 1,j 1 113 110 112,v 114 113,c 115 89 [.t 109,.t 114],U 116 115] []) (d 116 (.exit 6) .skip)) (.ak [m 117 0,m 118 10,m 119 0,m 120 10,h .sub 121 120 1,m 122 0,m 123 10,h .sub 124 123 1,j 1 125 122 124,v 126 125,m 127 0,m 128 10,j 1 129 127 128,v 130 129,j 1 131 117 118,s (.st 1 (.t 131) (.t 126)),j 1 132 119 121,s (.st 1 (.t 132) (.t 130))] []))) (.aA [m 104 10,h .add 105 104 1,m 10 105])))))) .skip)))))))) (.aA [m 15 8,h .add 16 15 1,m 8 16])))))) (r [o 6 (.mv F)] .ret)))⟩
theorem MX:ab Try.prog Try.f88=some JI:=by kernel_rfl
def JJ:AF:=⟨2,17,[.tmp 4],r [o 4 (.mv F)] (r [m 5 0,c 6 82 [.t 5],m 7 6,M 7 8 1,og 7 true 9 (.call 82 [.t 8]),og 7 true 10 (.un .not (.t 9)),p 11 7 10,m 12 11,N 12 13 0,N 12 14 1,og 12 false 15 (.bin .lss (.t 13) (.t 14)),P 16 12 15,m 4 16] .ret)⟩
theorem MY:ab Try.prog Try.f89=some JJ:=by kernel_rfl
def JK:AF:=⟨4,84,[.tmp 8],r [o 8 (.mv (i 0))] (q (.ak [m 11 0,m 12 1,m 13 0,m 14 3,m 15 0,m 16 3,j 1 17 15 16,v 18 17,m 19 0,m 20 1,j 1 21 19 20,v 22 21,j 1 23 11 12,s (.st 1 (.t 23) (.t 18)),j 1 24 13 14,s (.st 1 (.t 24) (.t 22))] []) (r [m 25 1,h .add 26 25 1,m 27 2,h .sub 28 27 1,m 9 26,m 10 28] (q (.block 0 (.loop (.block 1 (q (.block 2 (.loop (q (q (.ak [m 29 9,m 30 10,b .leq 31 29 30,m 32 31,M 32 33 0,M 32 34 1,og 32 true 35 (.ia 1 (.t 33) (.t 34)),og 32 true 36 (.ld (.t 35)),M 32 37 0,M 32 38 9,og 32 true 39 (.ia 1 (.t 37) (.t 38)),og 32 true 40 (.ld (.t 39)),og 32 true 41 (.call 89 [.t 36,.t 40]),og 32 true 42 (.un .not (.t 41)),p 43 32 42] []) (d 43 .skip (.exit 2))) (.block 3 (.aA [m 44 9,h .add 45 44 1,m 9 45]))))) (q (.block 4 (.loop (q (q (.ak [m 46 9,m 47 10,b .leq 48 46 47,m 49 48,M 49 50 0,M 49 51 1,og 49 true 52 (.ia 1 (.t 50) (.t 51)),og 49 true 53 (.ld (.t 52)),M 49 54 0,M 49 55 10,og 49 true 56 (.ia 1 (.t 54) (.t 55)),og 49 true 57 (.ld (.t 56)),og 49 true 58 (.call 89 [.t 53,.t 57]),p 59 49 58] []) (d 59 .skip (.exit 4))) (.block 5 (.aA [m 60 10,h .sub 61 60 1,m 10 61]))))) (q (r [m 62 9,m 63 10,b .gtr 64 62 63] (d 64 (.exit 0) .skip)) (q (.ak [m 65 0,m 66 9,m 67 0,m 68 10,m 69 0,m 70 10,j 1 71 69 70,v 72 71,m 73 0,m 74 9,j 1 75 73 74,v 76 75,j 1 77 65 66,s (.st 1 (.t 77) (.t 72)),j 1 78 67 68,s (.st 1 (.t 78) (.t 76))] []) (r [m 79 9,h .add 80 79 1,m 9 80] (.aA [m 81 10,h .sub 82 81 1,m 10 82]))))))))) (r [m 83 9,m 8 83] .ret))))⟩
theorem MZ:ab Try.prog Try.f90=some JK:=by kernel_rfl
def JL:AF:=⟨4,168,[.tmp 8,.tmp 9],r [o 8 (.mv (i 0)),o 9 (.mv F)] (q (.ak [m 12 0,m 13 1,m 14 0,m 15 3,m 16 0,m 17 3,j 1 18 16 17,v 19 18,m 20 0,m 21 1,j 1 22 20 21,v 23 22,j 1 24 12 13,s (.st 1 (.t 24) (.t 19)),j 1 25 14 15,s (.st 1 (.t 25) (.t 23))] []) (r [m 26 1,h .add 27 26 1,m 28 2,h .sub 29 28 1,m 10 27,m 11 29] (q (.block 0 (.loop (q (q (.ak [m 30 10,m 31 11,b .leq 32 30 31,m 33 32,M 33 34 0,M 33 35 10,og 33 true 36 (.ia 1 (.t 34) (.t 35)),og 33 true 37 (.ld (.t 36)),M 33 38 0,M 33 39 1,og 33 true 40 (.ia 1 (.t 38) (.t 39)),og 33 true 41 (.ld (.t 40)),og 33 true 42 (.call 89 [.t 37,.t 41]),p 43 33 42] []) (d 43 .skip (.exit 0))) (.block 1 (.aA [m 44 10,h .add 45 44 1,m 10 45]))))) (q (.block 2 (.loop (q (q (.ak [m 46 10,m 47 11,b .leq 48 46 47,m 49 48,M 49 50 0,M 49 51 11,og 49 true 52 (.ia 1 (.t 50) (.t 51)),og 49 true 53 (.ld (.t 52)),M 49 54 0,M 49 55 1,og 49 true 56 (.ia 1 (.t 54) (.t 55)),og 49 true 57 (.ld (.t 56)),og 49 true 58 (.call 89 [.t 53,.t 57]),og 49 true 59 (.un .not (.t 58)),p 60 49 59] []) (d 60 .skip (.exit 2))) (.block 3 (.aA [m 61 11,h .sub 62 61 1,m 11 62]))))) (q (r [m 63 10,m 64 11,b .gtr 65 63 64] (d 65 (q (.ak [m 66 0,m 67 11,m 68 0,m 69 1,m 70 0,m 71 1,j 1 72 70 71,v 73 72,m 74 0,m 75 11,j 1 76 74 75,v 77 76,j 1 78 66 67,s (.st 1 (.t 78) (.t 73)),j 1 79 68 69,s (.st 1 (.t 79) (.t 77))] []) (r [m 80 11,m 8 80,o 9 (.mv W)] .ret)) .skip)) (q (.ak [m 81 0,m 82 10,m 83 0,m 84 11,m 85 0,m 86 11,j 1 87 85 86,v 88 87,m 89 0,m 90 10,j 1 91 89 90,v 92 91,j 1 93 81 82,s (.st 1 (.t 93) (.t 88)),j 1 94 83 84,s (.st 1 (.t 94) (.t 92))] []) (r [m 95 10,h .add 96 95 1,m 10 96] (r [m 97 11,h .sub 98 97 1,m 11 98] (q (.block 4 (.loop (.block 5 (q (.block 6 (.loop (q (q (.ak [m 99 10,m 100 11,b .leq 101 99 100,m 102 101,M 102 103 0,M 102 104 10,og 102 true 105 (.ia 1 (.t 103) (.t 104)),og 102 true 106 (.ld (.t 105)),M 102 107 0,M 102 108 1,og 102 true 109 (.ia 1 (.t 107) (.t 108)),og 102 true 110 (.ld (.t 109)),og 102 true 111 (.call 89 [.t 106,.t 110]),p 112 102 111] []) (d 112 .skip (.exit 6))) (.block 7 (.aA [m 113 10,h .add 114 113 1,m 10 114]))))) (q (.block 8 (.loop (q (q (.ak [m 115 10,m 116 11,b .leq 117 115 116,m 118 117,M 118 119 0,M 118 120 11,og 118 true 121 (.ia 1 (.t 119) (.t 120)),og 118 true 122 (.ld (.t 121)),M 118 123 0,M 118 124 1,og 118 true 125 (.ia 1 (.t 123) (.t 124)),og 118 true 126 (.ld (.t 125)),og 118 true 127 (.call 89 [.t 122,.t 126]),og 118 true 128 (.un .not (.t 127)),p 129 118 128] []) (d 129 .skip (.exit 8))) (.block 9 (.aA [m 130 11,h .sub 131 130 1,m 11 131]))))) (q (r [m 132 10,m 133 11,b .gtr 134 132 133] (d 134 (.exit 4) .skip)) (q (.ak [m 135 0,m 136 10,m 137 0,m 138 11,m 139 0,m 140 11,j 1 141 139 140,v 142 141,m 143 0,m 144 10,j 1 145 143 144,v 146 145,j 1 147 135 136,s (.st 1 (.t 147) (.t 142)),j 1 148 137 138,s (.st 1 (.t 148) (.t 146))] []) (r [m 149 10,h .add 150 149 1,m 10 150] (.aA [m 151 11,h .sub 152 151 1,m 11 152]))))))))) (q (.ak [m 153 0,m 154 11,m 155 0,m 156 1,m 157 0,m 158 1,j 1 159 157 158,v 160 159,m 161 0,m 162 11,j 1 163 161 162,v 164 163,j 1 165 153 154,s (.st 1 (.t 165) (.t 160)),j 1 166 155 156,s (.st 1 (.t 166) (.t 164))] []) (r [m 167 11,m 8 167,o 9 (.mv F)] .ret)))))))))))⟩
theorem M0:ab Try.prog Try.f91=some JL:=by kernel_rfl
def JM:AF:=⟨1,19,[.tmp 2],r [o 2 (.mv (i 0))] (q (r [m 3 0,o 4 (.bin .geq (.t 3) (.k (.int .u32 65536)))] (d 4 (r [m 5 0,o 6 (.bin .shr (.t 5) (.k (.int .u64 16))),m 0 6] (.aA [o 2 (.mv (i 16))])) .skip)) (q (r [m 7 0,o 8 (.bin .geq (.t 7) (.k (.int .u32 256)))] (d 8 (r [m 9 0,o 10 (.bin .shr (.t 9) (.k (.int .u64 8))),m 0 10] (.aA [m 11 2,h .add 12 11 8,m 2 12])) .skip)) (r [m 13 2,m 14 0,o 15 (.j0 .u8 (.t 14)),o 16 (.ix (.k (.string ⟨#[0,1,2,2,3,3,3,3,4,4,4,4,4,4,4,4,5,5,5,5,5,5,5,5,5,5,5,5,5,5,5,5,6,6,6,6,6,6,6,6,6,6,6,6,6,6,6,6,6,6,6,6,6,6,6,6,6,6,6,6,6,6,6,6,7,7,7,7,7,7,7,7,7,7,7,7,7,7,7,7,7,7,7,7,7,7,7,7,7,7,7,7,7,7,7,7,7,7,7,7,7,7,7,7,7,7,7,7,7,7,7,7,7,7,7,7,7,7,7,7,7,7,7,7,7,7,7,7,8,8,8,8,8,8,8,8,8,8,8,8,8,8,8,8,8,8,8,8,8,8,8,8,8,8,8,8,8,8,8,8,8,8,8,8,8,8,8,8,8,8,8,8,8,8,8,8,8,8,8,8,8,8,8,8,8,8,8,8,8,8,8,8,8,8,8,8,8,8,8,8,8,8,8,8,8,8,8,8,8,8,8,8,8,8,8,8,8,8,8,8,8,8,8,8,8,8,8,8,8,8,8,8,8,8,8,8,8,8,8,8,8,8,8,8,8,8,8,8,8,8,8,8,8,8,8,8]⟩)) (.t 15)),o 17 (.j0 .i64 (.t 16)),b .add 18 13 17,m 2 18] .ret)))⟩
theorem M1:ab Try.prog Try.f92=some JM:=by kernel_rfl
def JN:AF:=⟨1,25,[.tmp 2],r [o 2 (.mv (i 0))] (q (r [m 3 0,o 4 (.bin .geq (.t 3) (.k (.int .u64 4294967296)))] (d 4 (r [m 5 0,o 6 (.bin .shr (.t 5) (.k (.int .u64 32))),m 0 6] (.aA [o 2 (.mv (i 32))])) .skip)) (q (r [m 7 0,o 8 (.bin .geq (.t 7) (.k (.int .u64 65536)))] (d 8 (r [m 9 0,o 10 (.bin .shr (.t 9) (.k (.int .u64 16))),m 0 10] (.aA [m 11 2,h .add 12 11 16,m 2 12])) .skip)) (q (r [m 13 0,o 14 (.bin .geq (.t 13) (.k (.int .u64 256)))] (d 14 (r [m 15 0,o 16 (.bin .shr (.t 15) (.k (.int .u64 8))),m 0 16] (.aA [m 17 2,h .add 18 17 8,m 2 18])) .skip)) (r [m 19 2,m 20 0,o 21 (.j0 .u8 (.t 20)),o 22 (.ix (.k (.string ⟨#[0,1,2,2,3,3,3,3,4,4,4,4,4,4,4,4,5,5,5,5,5,5,5,5,5,5,5,5,5,5,5,5,6,6,6,6,6,6,6,6,6,6,6,6,6,6,6,6,6,6,6,6,6,6,6,6,6,6,6,6,6,6,6,6,7,7,7,7,7,7,7,7,7,7,7,7,7,7,7,7,7,7,7,7,7,7,7,7,7,7,7,7,7,7,7,7,7,7,7,7,7,7,7,7,7,7,7,7,7,7,7,7,7,7,7,7,7,7,7,7,7,7,7,7,7,7,7,7,8,8,8,8,8,8,8,8,8,8,8,8,8,8,8,8,8,8,8,8,8,8,8,8,8,8,8,8,8,8,8,8,8,8,8,8,8,8,8,8,8,8,8,8,8,8,8,8,8,8,8,8,8,8,8,8,8,8,8,8,8,8,8,8,8,8,8,8,8,8,8,8,8,8,8,8,8,8,8,8,8,8,8,8,8,8,8,8,8,8,8,8,8,8,8,8,8,8,8,8,8,8,8,8,8,8,8,8,8,8,8,8,8,8,8,8,8,8,8,8,8,8,8,8,8,8,8,8]⟩)) (.t 21)),o 23 (.j0 .i64 (.t 22)),b .add 24 19 23,m 2 24] .ret))))⟩
theorem M3:ab Try.prog Try.f93=some JN:=by kernel_rfl
def JO:AF:=⟨4,53,[],r [m 10 1,h .add 11 10 1,m 8 11] (.block 0 (.loop (q (r [m 12 8,m 13 2,b .lss 14 12 13] (d 14 .skip (.exit 0))) (q (.block 1 (r [m 17 8,m 9 17] (.block 2 (.loop (q (q (.ak [m 18 9,m 19 1,b .gtr 20 18 19,m 21 20,M 21 22 3,M 21 23 0,M 21 24 9,og 21 true 25 (.ia 2 (.t 23) (.t 24)),og 21 true 26 (.ldn 2 (.t 25)),M 21 27 0,M 21 28 9,og 21 true 29 (.bin .sub (.t 28) (i 1)),og 21 true 30 (.ia 2 (.t 27) (.t 29)),og 21 true 31 (.ldn 2 (.t 30)),og 21 true 32 (.callv (.t 22) [.t 26,.t 31]),og 21 true 33 (.bin .lss (.t 32) (i 0)),p 34 21 33] []) (d 34 .skip (.exit 2))) (q (.block 3 (.ak [m 37 0,m 38 9,m 39 0,m 40 9,h .sub 41 40 1,m 42 0,m 43 9,h .sub 44 43 1,j 2 45 42 44,n 2 46 45,m 47 0,m 48 9,j 2 49 47 48,n 2 50 49,j 2 51 37 38,s (.st 2 (.t 51) (.t 46)),j 2 52 39 41,s (.st 2 (.t 52) (.t 50))] [])) (.aA [m 35 9,h .sub 36 35 1,m 9 36]))))))) (.aA [m 15 8,h .add 16 15 1,m 8 16])))))⟩
theorem M4:ab Try.prog Try.f94=some JO:=by kernel_rfl
def JP:AF:=⟨4,60,[],r [m 13 1,m 8 13] (r [o 9 (.mv (i 0))] (r [m 14 2,m 15 1,b .sub 16 14 15,m 10 16] (q (r [m 17 10,h .sub 18 17 1,h .quo 19 18 2,m 11 19] (.block 0 (.loop (q (r [m 20 11,h .geq 21 20 0] (d 21 .skip (.exit 0))) (q (.block 1 (.aA [m 24 0,m 25 11,m 26 10,m 27 8,m 28 3,c 29 107 [.t 24,.t 25,.t 26,.t 27,.t 28]])) (.aA [m 22 11,h .sub 23 22 1,m 11 23])))))) (r [m 30 10,h .sub 31 30 1,m 12 31] (.block 2 (.loop (q (r [m 32 12,h .geq 33 32 0] (d 33 .skip (.exit 2))) (q (.block 3 (q (.ak [m 36 0,m 37 8,m 38 0,m 39 8,m 40 12,b .add 41 39 40,m 42 0,m 43 8,m 44 12,b .add 45 43 44,j 2 46 42 45,n 2 47 46,m 48 0,m 49 8,j 2 50 48 49,n 2 51 50,j 2 52 36 37,s (.st 2 (.t 52) (.t 47)),j 2 53 38 41,s (.st 2 (.t 53) (.t 51))] []) (.aA [m 54 0,m 55 9,m 56 12,m 57 8,m 58 3,c 59 107 [.t 54,.t 55,.t 56,.t 57,.t 58]]))) (.aA [m 34 12,h .sub 35 34 1,m 12 35])))))))))⟩
theorem M5:ab Try.prog Try.f95=some JP:=by kernel_rfl
def JQ:AF:=⟨4,67,[],r [m 13 2,m 14 1,b .sub 15 13 14,m 8 15] (r [m 16 8,h .geq 17 16 8] (d 17 (r [m 18 8,o 19 (.j0 .u64 (.t 18)),o 9 (.alloc [.int .u64 0]),s (.st 1 (.t 9) (.t 19))] (r [m 20 8,c 21 103 [.t 20],m 10 21] (r [m 22 1,m 23 8,h .quo 24 23 4,h .mul 25 24 2,b .add 26 22 25,h .sub 27 26 1,m 11 27] (.block 0 (.loop (q (r [m 28 11,m 29 1,m 30 8,h .quo 31 30 4,h .mul 32 31 2,b .add 33 29 32,h .add 34 33 1,b .leq 35 28 34] (d 35 .skip (.exit 0))) (q (.block 1 (r [c 38 104 [.t 9],m 39 10,o 40 (.bin .sub (.t 39) (.k (.int .u64 1))),b .and 41 38 40,o 42 (.j0 .i64 (.t 41)),m 12 42] (q (r [m 43 12,m 44 8,b .geq 45 43 44] (d 45 (.aA [m 46 12,m 47 8,b .sub 48 46 47,m 12 48]) .skip)) (.ak [m 49 0,m 50 11,m 51 0,m 52 1,m 53 12,b .add 54 52 53,m 55 0,m 56 1,m 57 12,b .add 58 56 57,j 2 59 55 58,n 2 60 59,m 61 0,m 62 11,j 2 63 61 62,n 2 64 63,j 2 65 49 50,s (.st 2 (.t 65) (.t 60)),j 2 66 51 54,s (.st 2 (.t 66) (.t 64))] [])))) (.aA [m 36 11,h .add 37 36 1,m 11 37])))))))) .skip))⟩
theorem M6:ab Try.prog Try.f96=some JQ:=by kernel_rfl
def JR:AF:=⟨4,63,[.tmp 8,.tmp 9],r [o 8 (.mv (i 0)),o 9 (.mv (i 0))] (r [m 15 2,m 16 1,b .sub 17 15 16,m 10 17] (r [o 11 (.alloc [z])] (r [m 18 1,m 19 10,h .quo 20 19 4,h .mul 21 20 1,b .add 22 18 21,m 12 22] (r [m 23 1,m 24 10,h .quo 25 24 4,h .mul 26 25 2,b .add 27 23 26,m 13 27] (r [m 28 1,m 29 10,h .quo 30 29 4,h .mul 31 30 3,b .add 32 28 31,m 14 32] (q (r [m 33 10,h .geq 34 33 8] (d 34 (q (r [m 35 10,h .geq 36 35 50] (d 36 (r [m 37 0,m 38 12,m 39 3,c 40 108 [.t 37,.t 38,.t 11,.t 39],m 12 40] (r [m 41 0,m 42 13,m 43 3,c 44 108 [.t 41,.t 42,.t 11,.t 43],m 13 44] (.aA [m 45 0,m 46 14,m 47 3,c 48 108 [.t 45,.t 46,.t 11,.t 47],m 14 48]))) .skip)) (.aA [m 49 0,m 50 12,m 51 13,m 52 14,m 53 3,c 54 109 [.t 49,.t 50,.t 51,.t 52,.t 11,.t 53],m 13 54])) .skip)) (r [v 55 11] (.block 0 (r [h .eql 58 55 0,m 57 58] (d 57 (r [m 59 13,m 8 59,o 9 (.mv (i 1))] .ret) (r [h .eql 61 55 12,m 60 61] (d 60 (r [m 62 13,m 8 62,o 9 (.mv (i 2))] .ret) (r [m 56 13,m 8 56,o 9 (.mv (i 0))] .ret)))))))))))))⟩
theorem M7:ab Try.prog Try.f97=some JR:=by kernel_rfl
def JS:AF:=⟨4,34,[],r [m 10 1,m 8 10] (r [m 11 2,h .sub 12 11 1,m 9 12] (.block 0 (.loop (q (r [m 13 8,m 14 9,b .lss 15 13 14] (d 15 .skip (.exit 0))) (.block 1 (q (.ak [m 16 0,m 17 8,m 18 0,m 19 9,m 20 0,m 21 9,j 2 22 20 21,n 2 23 22,m 24 0,m 25 8,j 2 26 24 25,n 2 27 26,j 2 28 16 17,s (.st 2 (.t 28) (.t 23)),j 2 29 18 19,s (.st 2 (.t 29) (.t 27))] []) (r [m 30 8,h .add 31 30 1,m 8 31] (.aA [m 32 9,h .sub 33 32 1,m 9 33]))))))))⟩
theorem M8:ab Try.prog Try.f98=some JS:=by kernel_rfl
def JT:AF:=⟨4,141,[.tmp 8],r [o 8 (.mv F)] (r [m 13 1,h .add 14 13 1,m 9 14] (q (r [o 10 (.mv (i 0))] (.block 0 (.loop (q (r [m 15 10,h .lss 16 15 5] (d 16 .skip (.exit 0))) (q (.block 1 (q (.block 2 (.loop (q (q (.ak [m 19 9,m 20 2,b .lss 21 19 20,m 22 21,M 22 23 3,M 22 24 0,M 22 25 9,og 22 true 26 (.ia 2 (.t 24) (.t 25)),og 22 true 27 (.ldn 2 (.t 26)),M 22 28 0,M 22 29 9,og 22 true 30 (.bin .sub (.t 29) (i 1)),og 22 true 31 (.ia 2 (.t 28) (.t 30)),og 22 true 32 (.ldn 2 (.t 31)),og 22 true 33 (.callv (.t 23) [.t 27,.t 32]),og 22 true 34 (.bin .lss (.t 33) (i 0)),og 22 true 35 (.un .not (.t 34)),p 36 22 35] []) (d 36 .skip (.exit 2))) (.block 3 (.aA [m 37 9,h .add 38 37 1,m 9 38]))))) (q (r [m 39 9,m 40 2,b .eql 41 39 40] (d 41 (r [o 8 (.mv W)] .ret) .skip)) (q (r [m 42 2,m 43 1,b .sub 44 42 43,h .lss 45 44 50] (d 45 (r [o 8 (.mv F)] .ret) .skip)) (q (.ak [m 46 0,m 47 9,m 48 0,m 49 9,h .sub 50 49 1,m 51 0,m 52 9,h .sub 53 52 1,j 2 54 51 53,n 2 55 54,m 56 0,m 57 9,j 2 58 56 57,n 2 59 58,j 2 60 46 47,s (.st 2 (.t 60) (.t 55)),j 2 61 48 50,s (.st 2 (.t 61) (.t 59))] []) (q (r [m 62 9,m 63 1,b .sub 64 62 63,h .geq 65 64 2] (d 65 (r [m 66 9,h .sub 67 66 1,m 11 67] (.block 4 (.loop (q (r [m 68 11,h .geq 69 68 1] (d 69 .skip (.exit 4))) (q (.block 5 (q (q (.ak [m 72 3,m 73 0,m 74 11,j 2 75 73 74,n 2 76 75,m 77 0,m 78 11,h .sub 79 78 1,j 2 80 77 79,n 2 81 80,o 82 (.callv (.t 72) [.t 76,.t 81]),h .lss 83 82 0,U 84 83] []) (d 84 (.exit 4) .skip)) (.ak [m 85 0,m 86 11,m 87 0,m 88 11,h .sub 89 88 1,m 90 0,m 91 11,h .sub 92 91 1,j 2 93 90 92,n 2 94 93,m 95 0,m 96 11,j 2 97 95 96,n 2 98 97,j 2 99 85 86,s (.st 2 (.t 99) (.t 94)),j 2 100 87 89,s (.st 2 (.t 100) (.t 98))] []))) (.aA [m 70 11,h .sub 71 70 1,m 11 71])))))) .skip)) (r [m 101 2,m 102 9,b .sub 103 101 102,h .geq 104 103 2] (d 104 (r [m 105 9,h .add 106 105 1,m 12 106] (.block 6 (.loop (q (r [m 107 12,m 108 2,b .lss 109 107 108] (d 109 .skip (.exit 6))) (q (.block 7 (q (q (.ak [m 112 3,m 113 0,m 114 12,j 2 115 113 114,n 2 116 115,m 117 0,m 118 12,h .sub 119 118 1,j 2 120 117 119,n 2 121 120,o 122 (.callv (.t 112) [.t 116,.t 121]),h .lss 123 122 0,U 124 123] []) (d 124 (.exit 6) .skip)) (.ak [m 125 0,m 126 12,m 127 0,m 128 12,h .sub 129 128 1,m 130 0,m 131 12,h .sub 132 131 1,j 2 133 130 132,n 2 134 133,m 135 0,m 136 12,j 2 137 135 136,n 2 138 137,j 2 139 125 126,s (.st 2 (.t 139) (.t 134)),j 2 140 127 129,s (.st 2 (.t 140) (.t 138))] []))) (.aA [m 110 12,h .add 111 110 1,m 12 111])))))) .skip)))))))) (.aA [m 17 10,h .add 18 17 1,m 10 18])))))) (r [o 8 (.mv F)] .ret)))⟩
theorem M9:ab Try.prog Try.f99=some JT:=by kernel_rfl
def BC:AF:=⟨5,90,[.tmp 10],r [o 10 (.mv (i 0))] (q (.ak [m 13 0,m 14 1,m 15 0,m 16 3,m 17 0,m 18 3,j 2 19 17 18,n 2 20 19,m 21 0,m 22 1,j 2 23 21 22,n 2 24 23,j 2 25 13 14,s (.st 2 (.t 25) (.t 20)),j 2 26 15 16,s (.st 2 (.t 26) (.t 24))] []) (r [m 27 1,h .add 28 27 1,m 29 2,h .sub 30 29 1,m 11 28,m 12 30] (q (.block 0 (.loop (.block 1 (q (.block 2 (.loop (q (q (.ak [m 31 11,m 32 12,b .leq 33 31 32,m 34 33,M 34 35 4,M 34 36 0,M 34 37 1,og 34 true 38 (.ia 2 (.t 36) (.t 37)),og 34 true 39 (.ldn 2 (.t 38)),M 34 40 0,M 34 41 11,og 34 true 42 (.ia 2 (.t 40) (.t 41)),og 34 true 43 (.ldn 2 (.t 42)),og 34 true 44 (.callv (.t 35) [.t 39,.t 43]),og 34 true 45 (.bin .lss (.t 44) (i 0)),og 34 true 46 (.un .not (.t 45)),p 47 34 46] []) (d 47 .skip (.exit 2))) (.block 3 (.aA [m 48 11,h .add 49 48 1,m 11 49]))))) (q (.block 4 (.loop (q (q (.ak [m 50 11,m 51 12,b .leq 52 50 51,m 53 52,M 53 54 4,M 53 55 0,M 53 56 1,og 53 true 57 (.ia 2 (.t 55) (.t 56)),og 53 true 58 (.ldn 2 (.t 57)),M 53 59 0,M 53 60 12,og 53 true 61 (.ia 2 (.t 59) (.t 60)),og 53 true 62 (.ldn 2 (.t 61)),og 53 true 63 (.callv (.t 54) [.t 58,.t 62]),og 53 true 64 (.bin .lss (.t 63) (i 0)),p 65 53 64] []) (d 65 .skip (.exit 4))) (.block 5 (.aA [m 66 12,h .sub 67 66 1,m 12 67]))))) (q (r [m 68 11,m 69 12,b .gtr 70 68 69] (d 70 (.exit 0) .skip)) (q (.ak [m 71 0,m 72 11,m 73 0,m 74 12,m 75 0,m 76 12,j 2 77 75 76,n 2 78 77,m 79 0,m 80 11,j 2 81 79 80,n 2 82 81,j 2 83 71 72,s (.st 2 (.t 83) (.t 78)),j 2 84 73 74,s (.st 2 (.t 84) (.t 82))] []) (r [m 85 11,h .add 86 85 1,m 11 86] (.aA [m 87 12,h .sub 88 87 1,m 12 88]))))))))) (r [m 89 11,m 10 89] .ret))))⟩
theorem Gp:ab Try.prog Try.f100=some BC:=by kernel_rfl
def BD:AF:=⟨5,178,[.tmp 10,.tmp 11],r [o 10 (.mv (i 0)),o 11 (.mv F)] (q (.ak [m 14 0,m 15 1,m 16 0,m 17 3,m 18 0,m 19 3,j 2 20 18 19,n 2 21 20,m 22 0,m 23 1,j 2 24 22 23,n 2 25 24,j 2 26 14 15,s (.st 2 (.t 26) (.t 21)),j 2 27 16 17,s (.st 2 (.t 27) (.t 25))] []) (r [m 28 1,h .add 29 28 1,m 30 2,h .sub 31 30 1,m 12 29,m 13 31] (q (.block 0 (.loop (q (q (.ak [m 32 12,m 33 13,b .leq 34 32 33,m 35 34,M 35 36 4,M 35 37 0,M 35 38 12,og 35 true 39 (.ia 2 (.t 37) (.t 38)),og 35 true 40 (.ldn 2 (.t 39)),M 35 41 0,M 35 42 1,og 35 true 43 (.ia 2 (.t 41) (.t 42)),og 35 true 44 (.ldn 2 (.t 43)),og 35 true 45 (.callv (.t 36) [.t 40,.t 44]),og 35 true 46 (.bin .lss (.t 45) (i 0)),p 47 35 46] []) (d 47 .skip (.exit 0))) (.block 1 (.aA [m 48 12,h .add 49 48 1,m 12 49]))))) (q (.block 2 (.loop (q (q (.ak [m 50 12,m 51 13,b .leq 52 50 51,m 53 52,M 53 54 4,M 53 55 0,M 53 56 13,og 53 true 57 (.ia 2 (.t 55) (.t 56)),og 53 true 58 (.ldn 2 (.t 57)),M 53 59 0,M 53 60 1,og 53 true 61 (.ia 2 (.t 59) (.t 60)),og 53 true 62 (.ldn 2 (.t 61)),og 53 true 63 (.callv (.t 54) [.t 58,.t 62]),og 53 true 64 (.bin .lss (.t 63) (i 0)),og 53 true 65 (.un .not (.t 64)),p 66 53 65] []) (d 66 .skip (.exit 2))) (.block 3 (.aA [m 67 13,h .sub 68 67 1,m 13 68]))))) (q (r [m 69 12,m 70 13,b .gtr 71 69 70] (d 71 (q (.ak [m 72 0,m 73 13,m 74 0,m 75 1,m 76 0,m 77 1,j 2 78 76 77,n 2 79 78,m 80 0,m 81 13,j 2 82 80 81,n 2 83 82,j 2 84 72 73,s (.st 2 (.t 84) (.t 79)),j 2 85 74 75,s (.st 2 (.t 85) (.t 83))] []) (r [m 86 13,m 10 86,o 11 (.mv W)] .ret)) .skip)) (q (.ak [m 87 0,m 88 12,m 89 0,m 90 13,m 91 0,m 92 13,j 2 93 91 92,n 2 94 93,m 95 0,m 96 12,j 2 97 95 96,n 2 98 97,j 2 99 87 88,s (.st 2 (.t 99) (.t 94)),j 2 100 89 90,s (.st 2 (.t 100) (.t 98))] []) (r [m 101 12,h .add 102 101 1,m 12 102] (r [m 103 13,h .sub 104 103 1,m 13 104] (q (.block 4 (.loop (.block 5 (q (.block 6 (.loop (q (q (.ak [m 105 12,m 106 13,b .leq 107 105 106,m 108 107,M 108 109 4,M 108 110 0,M 108 111 12,og 108 true 112 (.ia 2 (.t 110) (.t 111)),og 108 true 113 (.ldn 2 (.t 112)),M 108 114 0,M 108 115 1,og 108 true 116 (.ia 2 (.t 114) (.t 115)),og 108 true 117 (.ldn 2 (.t 116)),og 108 true 118 (.callv (.t 109) [.t 113,.t 117]),og 108 true 119 (.bin .lss (.t 118) (i 0)),p 120 108 119] []) (d 120 .skip (.exit 6))) (.block 7 (.aA [m 121 12,h .add 122 121 1,m 12 122]))))) (q (.block 8 (.loop (q (q (.ak [m 123 12,m 124 13,b .leq 125 123 124,m 126 125,M 126 127 4,M 126 128 0,M 126 129 13,og 126 true 130 (.ia 2 (.t 128) (.t 129)),og 126 true 131 (.ldn 2 (.t 130)),M 126 132 0,M 126 133 1,og 126 true 134 (.ia 2 (.t 132) (.t 133)),og 126 true 135 (.ldn 2 (.t 134)),og 126 true 136 (.callv (.t 127) [.t 131,.t 135]),og 126 true 137 (.bin .lss (.t 136) (i 0)),og 126 true 138 (.un .not (.t 137)),p 139 126 138] []) (d 139 .skip (.exit 8))) (.block 9 (.aA [m 140 13,h .sub 141 140 1,m 13 141]))))) (q (r [m 142 12,m 143 13,b .gtr 144 142 143] (d 144 (.exit 4) .skip)) (q (.ak [m 145 0,m 146 12,m 147 0,m 148 13,m 149 0,m 150 13,j 2 151 149 150,n 2 152 151,m 153 0,m 154 12,j 2 155 153 154,n 2 156 155,j 2 157 145 146,s (.st 2 (.t 157) (.t 152)),j 2 158 147 148,s (.st 2 (.t 158) (.t 156))] []) (r [m 159 12,h .add 160 159 1,m 12 160] (.aA [m 161 13,h .sub 162 161 1,m 13 162]))))))))) (q (.ak [m 163 0,m 164 13,m 165 0,m 166 1,m 167 0,m 168 1,j 2 169 167 168,n 2 170 169,m 171 0,m 172 13,j 2 173 171 172,n 2 174 173,j 2 175 163 164,s (.st 2 (.t 175) (.t 170)),j 2 176 165 166,s (.st 2 (.t 176) (.t 174))] []) (r [m 177 13,m 10 177,o 11 (.mv F)] .ret)))))))))))⟩
theorem Gq:ab Try.prog Try.f101=some BD:=by kernel_rfl
def BE:AF:=⟨4,76,[],r [m 10 1,m 8 10] (.block 0 (.loop (.block 1 (r [m 11 8,o 12 (.bin .mul (i 2) (.t 11)),h .add 13 12 1,m 9 13] (q (r [m 14 9,m 15 2,b .geq 16 14 15] (d 16 (.exit 0) .skip)) (q (q (.ak [m 17 9,h .add 18 17 1,m 19 2,b .lss 20 18 19,m 21 20,M 21 22 0,M 21 23 3,M 21 24 9,og 21 true 25 (.bin .add (.t 23) (.t 24)),og 21 true 26 (.ia 1 (.t 22) (.t 25)),og 21 true 27 (.ld (.t 26)),M 21 28 0,M 21 29 3,M 21 30 9,og 21 true 31 (.bin .add (.t 29) (.t 30)),og 21 true 32 (.bin .add (.t 31) (i 1)),og 21 true 33 (.ia 1 (.t 28) (.t 32)),og 21 true 34 (.ld (.t 33)),og 21 true 35 (.call 89 [.t 27,.t 34]),p 36 21 35] []) (d 36 (.aA [m 37 9,h .add 38 37 1,m 9 38]) .skip)) (q (q (.ak [m 39 0,m 40 3,m 41 8,b .add 42 40 41,j 1 43 39 42,v 44 43,m 45 0,m 46 3,m 47 9,b .add 48 46 47,j 1 49 45 48,v 50 49,c 51 89 [.t 44,.t 50],U 52 51] []) (d 52 .ret .skip)) (q (.ak [m 53 0,m 54 3,m 55 8,b .add 56 54 55,m 57 0,m 58 3,m 59 9,b .add 60 58 59,m 61 0,m 62 3,m 63 9,b .add 64 62 63,j 1 65 61 64,v 66 65,m 67 0,m 68 3,m 69 8,b .add 70 68 69,j 1 71 67 70,v 72 71,j 1 73 53 56,s (.st 1 (.t 73) (.t 66)),j 1 74 57 60,s (.st 1 (.t 74) (.t 72))] []) (.aA [m 75 9,m 8 75])))))))))⟩
theorem Gr:ab Try.prog Try.f102=some BE:=by kernel_rfl
def BF:AF:=⟨1,7,[.tmp 2],r [o 2 (.mv (.k (.int .u64 0)))] (r [m 3 0,o 4 (.j0 .u64 (.t 3)),c 5 78 [.t 4],o 6 (.bin .shl (.k (.int .u64 1)) (.t 5)),m 2 6] .ret)⟩
theorem Gs:ab Try.prog Try.f103=some BF:=by kernel_rfl
def BG:AF:=⟨1,33,[.tmp 2],r [o 2 (.mv (.k (.int .u64 0)))] (q (.ak [m 3 0,o 4 (.cM (.t 3)),v 5 4,m 6 0,o 7 (.cM (.t 6)),v 8 7,o 9 (.bin .shl (.t 8) (.k (.int .u64 13))),b .xor 10 5 9,o 11 (.cM (.t 3)),s (.st 1 (.t 11) (.t 10))] []) (q (.ak [m 12 0,o 13 (.cM (.t 12)),v 14 13,m 15 0,o 16 (.cM (.t 15)),v 17 16,o 18 (.bin .shr (.t 17) (.k (.int .u64 7))),b .xor 19 14 18,o 20 (.cM (.t 12)),s (.st 1 (.t 20) (.t 19))] []) (q (.ak [m 21 0,o 22 (.cM (.t 21)),v 23 22,m 24 0,o 25 (.cM (.t 24)),v 26 25,o 27 (.bin .shl (.t 26) (.k (.int .u64 17))),b .xor 28 23 27,o 29 (.cM (.t 21)),s (.st 1 (.t 29) (.t 28))] []) (r [m 30 0,o 31 (.cM (.t 30)),v 32 31,m 2 32] .ret))))⟩
theorem Gt:ab Try.prog Try.f104=some BG:=by kernel_rfl
def BH:AF:=⟨3,15,[.tmp 6],r [o 6 (.mv (i 0))] (r [m 7 0,m 8 1,h .sub 9 8 1,m 10 1,m 11 1,h .add 12 11 1,m 13 2,c 14 106 [.t 7,.t 9,.t 10,.t 12,.t 13],m 6 14] .ret)⟩
theorem Gu:ab Try.prog Try.f105=some BH:=by kernel_rfl
def BI:AF:=⟨5,36,[.tmp 10],r [o 10 (.mv (i 0))] (r [m 12 0,m 13 1,m 14 2,m 15 4,c 16 110 [.t 12,.t 13,.t 14,.t 15],m 11 16,e 17 11 0,e 18 11 1,m 1 17,m 2 18] (r [m 20 0,m 21 2,m 22 3,m 23 4,c 24 110 [.t 20,.t 21,.t 22,.t 23],m 19 24,e 25 19 0,e 26 19 1,m 2 25,m 3 26] (r [m 28 0,m 29 1,m 30 2,m 31 4,c 32 110 [.t 28,.t 29,.t 30,.t 31],m 27 32,e 33 27 0,e 34 27 1,m 1 33,m 2 34] (r [m 35 2,m 10 35] .ret))))⟩
theorem Gv:ab Try.prog Try.f106=some BI:=by kernel_rfl
def BJ:AF:=⟨5,82,[],r [m 12 1,m 10 12] (.block 0 (.loop (.block 1 (r [m 13 10,o 14 (.bin .mul (i 2) (.t 13)),h .add 15 14 1,m 11 15] (q (r [m 16 11,m 17 2,b .geq 18 16 17] (d 18 (.exit 0) .skip)) (q (q (.ak [m 19 11,h .add 20 19 1,m 21 2,b .lss 22 20 21,m 23 22,M 23 24 4,M 23 25 0,M 23 26 3,M 23 27 11,og 23 true 28 (.bin .add (.t 26) (.t 27)),og 23 true 29 (.ia 2 (.t 25) (.t 28)),og 23 true 30 (.ldn 2 (.t 29)),M 23 31 0,M 23 32 3,M 23 33 11,og 23 true 34 (.bin .add (.t 32) (.t 33)),og 23 true 35 (.bin .add (.t 34) (i 1)),og 23 true 36 (.ia 2 (.t 31) (.t 35)),og 23 true 37 (.ldn 2 (.t 36)),og 23 true 38 (.callv (.t 24) [.t 30,.t 37]),og 23 true 39 (.bin .lss (.t 38) (i 0)),p 40 23 39] []) (d 40 (.aA [m 41 11,h .add 42 41 1,m 11 42]) .skip)) (q (q (.ak [m 43 4,m 44 0,m 45 3,m 46 10,b .add 47 45 46,j 2 48 44 47,n 2 49 48,m 50 0,m 51 3,m 52 11,b .add 53 51 52,j 2 54 50 53,n 2 55 54,o 56 (.callv (.t 43) [.t 49,.t 55]),h .lss 57 56 0,U 58 57] []) (d 58 .ret .skip)) (q (.ak [m 59 0,m 60 3,m 61 10,b .add 62 60 61,m 63 0,m 64 3,m 65 11,b .add 66 64 65,m 67 0,m 68 3,m 69 11,b .add 70 68 69,j 2 71 67 70,n 2 72 71,m 73 0,m 74 3,m 75 10,b .add 76 74 75,j 2 77 73 76,n 2 78 77,j 2 79 59 62,s (.st 2 (.t 79) (.t 72)),j 2 80 63 66,s (.st 2 (.t 80) (.t 78))] []) (.aA [m 81 11,m 10 81])))))))))⟩
theorem Gw:ab Try.prog Try.f107=some BJ:=by kernel_rfl
def BK:AF:=⟨4,18,[.tmp 8],r [o 8 (.mv (i 0))] (r [m 9 0,m 10 1,h .sub 11 10 1,m 12 1,m 13 1,h .add 14 13 1,m 15 2,m 16 3,c 17 109 [.t 9,.t 11,.t 12,.t 14,.t 15,.t 16],m 8 17] .ret)⟩
theorem Gx:ab Try.prog Try.f108=some BK:=by kernel_rfl
def BL:AF:=⟨6,41,[.tmp 12],r [o 12 (.mv (i 0))] (r [m 14 0,m 15 1,m 16 2,m 17 4,m 18 5,c 19 111 [.t 14,.t 15,.t 16,.t 17,.t 18],m 13 19,e 20 13 0,e 21 13 1,m 1 20,m 2 21] (r [m 23 0,m 24 2,m 25 3,m 26 4,m 27 5,c 28 111 [.t 23,.t 24,.t 25,.t 26,.t 27],m 22 28,e 29 22 0,e 30 22 1,m 2 29,m 3 30] (r [m 32 0,m 33 1,m 34 2,m 35 4,m 36 5,c 37 111 [.t 32,.t 33,.t 34,.t 35,.t 36],m 31 37,e 38 31 0,e 39 31 1,m 1 38,m 2 39] (r [m 40 2,m 12 40] .ret))))⟩
theorem Gy:ab Try.prog Try.f109=some BL:=by kernel_rfl
def BM:AF:=⟨4,28,[.tmp 8,.tmp 9],r [o 8 (.mv (i 0)),o 9 (.mv (i 0))] (q (q (.ak [m 10 0,m 11 2,j 1 12 10 11,v 13 12,m 14 0,m 15 1,j 1 16 14 15,v 17 16,c 18 89 [.t 13,.t 17]] []) (d 18 (r [m 19 3,o 20 (.cM (.t 19)),v 21 20,h .add 22 21 1,o 23 (.cM (.t 19)),s (.st 1 (.t 23) (.t 22))] (r [m 24 2,m 25 1,m 8 24,m 9 25] .ret)) .skip)) (r [m 26 1,m 27 2,m 8 26,m 9 27] .ret))⟩
theorem Gz:ab Try.prog Try.f110=some BM:=by kernel_rfl
def BN:AF:=⟨5,32,[.tmp 10,.tmp 11],r [o 10 (.mv (i 0)),o 11 (.mv (i 0))] (q (q (.ak [m 12 4,m 13 0,m 14 2,j 2 15 13 14,n 2 16 15,m 17 0,m 18 1,j 2 19 17 18,n 2 20 19,o 21 (.callv (.t 12) [.t 16,.t 20]),h .lss 22 21 0] []) (d 22 (r [m 23 3,o 24 (.cM (.t 23)),v 25 24,h .add 26 25 1,o 27 (.cM (.t 23)),s (.st 1 (.t 27) (.t 26))] (r [m 28 2,m 29 1,m 10 28,m 11 29] .ret)) .skip)) (r [m 30 1,m 31 2,m 10 30,m 11 31] .ret))⟩
theorem GA:ab Try.prog Try.f111=some BN:=by kernel_rfl
def Et:T (Option AF):=(.node none (.node none (.node none (.node none (.node none (.node (some Jg) (.node (some Jv) .nil .nil) (.node (some JP) .nil .nil)) (.node none (.node (some D4) .nil .nil) (.node (some BN) .nil .nil))) (.node (some DE) (.node (some Jm) (.node (some D0) .nil .nil) (.node (some BF) .nil .nil)) (.node (some Jt) (.node (some JH) .nil .nil) .nil))) (.node (some Ja) (.node none (.node (some Jj) (.node (some Jy) .nil .nil) (.node (some JT) .nil .nil)) (.node (some DS) (.node (some JD) .nil .nil) .nil)) (.node (some DI) (.node none (.node (some D2) .nil .nil) (.node (some BJ) .nil .nil)) (.node (some BA) (.node (some JL) .nil .nil) .nil)))) (.node none (.node (some a9) (.node (some Je) (.node (some Jh) (.node (some DX) .nil .nil) (.node (some JR) .nil .nil)) (.node (some DR) (.node (some JC) .nil .nil) .nil)) (.node (some DG) (.node (some DP) .nil (.node (some BH) .nil .nil)) (.node none (.node (some JJ) .nil .nil) .nil))) (.node none (.node none (.node (some DN) (.node (some BB) .nil .nil) (.node (some BD) .nil .nil)) (.node (some Jr) (.node (some JF) .nil .nil) .nil)) (.node (some DK) (.node (some Jo) (.node (some JA) .nil .nil) (.node (some BL) .nil .nil)) (.node (some DW) (.node (some JN) .nil .nil) .nil))))) (.node none (.node none (.node (some a8) (.node (some Jd) (.node (some DM) (.node (some Jw) .nil .nil) (.node (some JQ) .nil .nil)) (.node (some DQ) (.node (some D5) .nil .nil) .nil)) (.node (some DF) (.node (some DO) (.node (some Jz) .nil .nil) (.node (some BG) .nil .nil)) (.node none (.node (some JI) .nil .nil) .nil))) (.node (some Jb) (.node (some Jf) (.node (some Jk) (.node (some DY) .nil .nil) (.node (some BC) .nil .nil)) (.node (some DT) (.node (some JE) .nil .nil) .nil)) (.node (some DJ) (.node (some Jn) (.node (some D3) .nil .nil) (.node (some BK) .nil .nil)) (.node (some DV) (.node (some JM) .nil .nil) .nil)))) (.node none (.node (some tT) (.node none (.node (some Ji) (.node (some Jx) .nil .nil) (.node (some JS) .nil .nil)) (.node (some Jq) (.node (some D6) .nil .nil) .nil)) (.node (some DH) (.node none (.node (some D1) .nil .nil) (.node (some BI) .nil .nil)) (.node (some DU) (.node (some JK) .nil .nil) .nil))) (.node (some Jc) (.node (some Ap) (.node (some Jl) (.node (some DZ) .nil .nil) (.node (some BE) .nil .nil)) (.node (some Js) (.node (some JG) .nil .nil) .nil)) (.node (some DL) (.node (some Jp) (.node (some JB) .nil .nil) (.node (some BM) .nil .nil)) (.node (some Ju) (.node (some JO) .nil .nil) .nil))))))
def E:Env:=fun f=>Et.get none f
end Go.Proofs.Ytediokhgklkhnaa.A
namespace Go.Proofs.Ytediokhgklkhnaa.A
open Go
theorem BO:nK Try.prog id Et:=(.node (fun F h=>by cases h) (.node (fun F h=>by cases h) (.node (fun F h=>by cases h) (.node (fun F h=>by cases h) (.node (fun F h=>by cases h) (.node (fun F h=>(OJ h)▸⟨_,Try.func31,LY⟩) (.node (fun F h=>(OJ h)▸⟨_,Try.func63,Mt⟩) .nil .nil) (.node (fun F h=>(OJ h)▸⟨_,Try.func95,M5⟩) .nil .nil)) (.node (fun F h=>by cases h) (.node (fun F h=>(OJ h)▸⟨_,Try.func79,MN⟩) .nil .nil) (.node (fun F h=>(OJ h)▸⟨_,Try.func111,GA⟩) .nil .nil))) (.node (fun F h=>(OJ h)▸⟨_,Try.func23,LP⟩) (.node (fun F h=>(OJ h)▸⟨_,Try.func39,L8⟩) (.node (fun F h=>(OJ h)▸⟨_,Try.func71,MC⟩) .nil .nil) (.node (fun F h=>(OJ h)▸⟨_,Try.func103,Gs⟩) .nil .nil)) (.node (fun F h=>(OJ h)▸⟨_,Try.func55,Mm⟩) (.node (fun F h=>(OJ h)▸⟨_,Try.func87,MW⟩) .nil .nil) .nil))) (.node (fun F h=>(OJ h)▸⟨_,Try.func11,LI⟩) (.node (fun F h=>by cases h) (.node (fun F h=>(OJ h)▸⟨_,Try.func35,L4⟩) (.node (fun F h=>(OJ h)▸⟨_,Try.func67,Mx⟩) .nil .nil) (.node (fun F h=>(OJ h)▸⟨_,Try.func99,M9⟩) .nil .nil)) (.node (fun F h=>(OJ h)▸⟨_,Try.func51,Mi⟩) (.node (fun F h=>(OJ h)▸⟨_,Try.func83,MS⟩) .nil .nil) .nil)) (.node (fun F h=>(OJ h)▸⟨_,Try.func27,LU⟩) (.node (fun F h=>by cases h) (.node (fun F h=>(OJ h)▸⟨_,Try.func75,MG⟩) .nil .nil) (.node (fun F h=>(OJ h)▸⟨_,Try.func107,Gw⟩) .nil .nil)) (.node (fun F h=>(OJ h)▸⟨_,Try.func59,Mo⟩) (.node (fun F h=>(OJ h)▸⟨_,Try.func91,M0⟩) .nil .nil) .nil)))) (.node (fun F h=>by cases h) (.node (fun F h=>(OJ h)▸⟨_,Try.func9,c9⟩) (.node (fun F h=>(OJ h)▸⟨_,Try.func17,LM⟩) (.node (fun F h=>(OJ h)▸⟨_,Try.func33,L0⟩) (.node (fun F h=>(OJ h)▸⟨_,Try.func65,Mv⟩) .nil .nil) (.node (fun F h=>(OJ h)▸⟨_,Try.func97,M7⟩) .nil .nil)) (.node (fun F h=>(OJ h)▸⟨_,Try.func49,Mg⟩) (.node (fun F h=>(OJ h)▸⟨_,Try.func81,MP⟩) .nil .nil) .nil)) (.node (fun F h=>(OJ h)▸⟨_,Try.func25,LR⟩) (.node (fun F h=>(OJ h)▸⟨_,Try.func41,Ma⟩) .nil (.node (fun F h=>(OJ h)▸⟨_,Try.func105,Gu⟩) .nil .nil)) (.node (fun F h=>by cases h) (.node (fun F h=>(OJ h)▸⟨_,Try.func89,MY⟩) .nil .nil) .nil))) (.node (fun F h=>by cases h) (.node (fun F h=>by cases h) (.node (fun F h=>(OJ h)▸⟨_,Try.func37,L6⟩) (.node (fun F h=>(OJ h)▸⟨_,Try.func69,Mz⟩) .nil .nil) (.node (fun F h=>(OJ h)▸⟨_,Try.func101,Gq⟩) .nil .nil)) (.node (fun F h=>(OJ h)▸⟨_,Try.func53,Mk⟩) (.node (fun F h=>(OJ h)▸⟨_,Try.func85,MU⟩) .nil .nil) .nil)) (.node (fun F h=>(OJ h)▸⟨_,Try.func29,LW⟩) (.node (fun F h=>(OJ h)▸⟨_,Try.func45,Mc⟩) (.node (fun F h=>(OJ h)▸⟨_,Try.func77,MK⟩) .nil .nil) (.node (fun F h=>(OJ h)▸⟨_,Try.func109,Gy⟩) .nil .nil)) (.node (fun F h=>(OJ h)▸⟨_,Try.func61,Mr⟩) (.node (fun F h=>(OJ h)▸⟨_,Try.func93,M3⟩) .nil .nil) .nil))))) (.node (fun F h=>by cases h) (.node (fun F h=>by cases h) (.node (fun F h=>(OJ h)▸⟨_,Try.func8,c8⟩) (.node (fun F h=>(OJ h)▸⟨_,Try.func16,LL⟩) (.node (fun F h=>(OJ h)▸⟨_,Try.func32,LZ⟩) (.node (fun F h=>(OJ h)▸⟨_,Try.func64,Mu⟩) .nil .nil) (.node (fun F h=>(OJ h)▸⟨_,Try.func96,M6⟩) .nil .nil)) (.node (fun F h=>(OJ h)▸⟨_,Try.func48,Mf⟩) (.node (fun F h=>(OJ h)▸⟨_,Try.func80,MO⟩) .nil .nil) .nil)) (.node (fun F h=>(OJ h)▸⟨_,Try.func24,LQ⟩) (.node (fun F h=>(OJ h)▸⟨_,Try.func40,L9⟩) (.node (fun F h=>(OJ h)▸⟨_,Try.func72,ME⟩) .nil .nil) (.node (fun F h=>(OJ h)▸⟨_,Try.func104,Gt⟩) .nil .nil)) (.node (fun F h=>by cases h) (.node (fun F h=>(OJ h)▸⟨_,Try.func88,MX⟩) .nil .nil) .nil))) (.node (fun F h=>(OJ h)▸⟨_,Try.func12,LJ⟩) (.node (fun F h=>(OJ h)▸⟨_,Try.func20,LN⟩) (.node (fun F h=>(OJ h)▸⟨_,Try.func36,L5⟩) (.node (fun F h=>(OJ h)▸⟨_,Try.func68,My⟩) .nil .nil) (.node (fun F h=>(OJ h)▸⟨_,Try.func100,Gp⟩) .nil .nil)) (.node (fun F h=>(OJ h)▸⟨_,Try.func52,Mj⟩) (.node (fun F h=>(OJ h)▸⟨_,Try.func84,MT⟩) .nil .nil) .nil)) (.node (fun F h=>(OJ h)▸⟨_,Try.func28,LV⟩) (.node (fun F h=>(OJ h)▸⟨_,Try.func44,Mb⟩) (.node (fun F h=>(OJ h)▸⟨_,Try.func76,MJ⟩) .nil .nil) (.node (fun F h=>(OJ h)▸⟨_,Try.func108,Gx⟩) .nil .nil)) (.node (fun F h=>(OJ h)▸⟨_,Try.func60,Mq⟩) (.node (fun F h=>(OJ h)▸⟨_,Try.func92,M1⟩) .nil .nil) .nil)))) (.node (fun F h=>by cases h) (.node (fun F h=>(OJ h)▸⟨_,Try.func10,LH⟩) (.node (fun F h=>by cases h) (.node (fun F h=>(OJ h)▸⟨_,Try.func34,L3⟩) (.node (fun F h=>(OJ h)▸⟨_,Try.func66,Mw⟩) .nil .nil) (.node (fun F h=>(OJ h)▸⟨_,Try.func98,M8⟩) .nil .nil)) (.node (fun F h=>(OJ h)▸⟨_,Try.func50,Mh⟩) (.node (fun F h=>(OJ h)▸⟨_,Try.func82,MR⟩) .nil .nil) .nil)) (.node (fun F h=>(OJ h)▸⟨_,Try.func26,LS⟩) (.node (fun F h=>by cases h) (.node (fun F h=>(OJ h)▸⟨_,Try.func74,MF⟩) .nil .nil) (.node (fun F h=>(OJ h)▸⟨_,Try.func106,Gv⟩) .nil .nil)) (.node (fun F h=>(OJ h)▸⟨_,Try.func58,Mn⟩) (.node (fun F h=>(OJ h)▸⟨_,Try.func90,MZ⟩) .nil .nil) .nil))) (.node (fun F h=>(OJ h)▸⟨_,Try.func14,LK⟩) (.node (fun F h=>(OJ h)▸⟨_,Try.func22,LO⟩) (.node (fun F h=>(OJ h)▸⟨_,Try.func38,L7⟩) (.node (fun F h=>(OJ h)▸⟨_,Try.func70,MB⟩) .nil .nil) (.node (fun F h=>(OJ h)▸⟨_,Try.func102,Gr⟩) .nil .nil)) (.node (fun F h=>(OJ h)▸⟨_,Try.func54,Ml⟩) (.node (fun F h=>(OJ h)▸⟨_,Try.func86,MV⟩) .nil .nil) .nil)) (.node (fun F h=>(OJ h)▸⟨_,Try.func30,LX⟩) (.node (fun F h=>(OJ h)▸⟨_,Try.func46,Me⟩) (.node (fun F h=>(OJ h)▸⟨_,Try.func78,MM⟩) .nil .nil) (.node (fun F h=>(OJ h)▸⟨_,Try.func110,Gz⟩) .nil .nil)) (.node (fun F h=>(OJ h)▸⟨_,Try.func62,Ms⟩) (.node (fun F h=>(OJ h)▸⟨_,Try.func94,M4⟩) .nil .nil) .nil))))))
theorem BP:mi Try.prog E:=fun f F h=>BO f F h
open Go
theorem nM:isTrue (ca E (fun _=>none) 300 11 [] He)=true:=by kernel_rfl
theorem mixed:Try.prog.follows .mixedOrders=true:=by kernel_rfl
def O:ea:=uC 11
theorem GB:mj Try.prog O:=uD mixed BP nM
end Go.Proofs.Ytediokhgklkhnaa.A
set_option linter.unusedSimpArgs false
namespace Go.Proofs.Ytediokhgklkhnaa.A
open Go
section
variable{E:Env} {O:ea} {ks:List Ko} {fr:Fr} {H:AH} {Q:Ex→Fr→AH→Prop}
def dj (b:Bool):Value→Bool
 | .bool c=>c==b
 |_=>false
@[simp]theorem D7 (c:Bool):dj true (.bool c)=c:=by cases c<;>rfl
@[simp]theorem D8 (c:Bool):dj false (.bool c)= !c:=by cases c<;>rfl
@[simp]theorem D9 (b:Bool):dj b undef=false:=rfl
def br (c a b:Prop):Prop:=(c→a)∧(¬ c→b)
@[congr]theorem BQ {c c' a a' b b':Prop} (e:c=c') (h2:c'→a=a') (d:¬ c'→b=b'):br c a b=br c' a' b':=by
 subst e;unfold br;exact propext ⟨fun k=>⟨fun h=>h2 h▸k.1 h,fun h=>d h▸k.2 h⟩,fun k=>⟨fun h=>(h2 h).symm▸k.1 h,fun h=>(d h).symm▸k.2 h⟩⟩
@[simp]theorem GC (a b:Prop):br True a b=a:=propext ⟨fun h=>h.1 trivial,fun h=>⟨fun _=>h,fun k=>(k trivial).elim⟩⟩
@[simp]theorem GD (a b:Prop):br False a b=b:=propext ⟨fun h=>h.2 id,fun h=>⟨fun k=>k.elim,fun _=>h⟩⟩
@[simp]theorem JU (c:Prop):br c True True=True:=propext ⟨fun _=>trivial,fun _=>⟨fun _=>trivial,fun _=>trivial⟩⟩
theorem ie (t:Nat) (b:Bool) (d:Option Nat) (p:aY):(AO.mk (some (t,b)) d p).wanted fr=dj b (fr.get t):=by
 unfold AO.wanted dj;simp only;split<;>rename_i h<;>simp_all
@[simp]theorem Aq (f:Fr) (d:Nat) (v:Value):f.aw (some d) v=f.put d v:=rfl
@[simp]theorem Ar (f:Fr) (v:Value):f.aw none v=f:=rfl
def rZ:Value→Bool
 | .bool _=>true
 |_=>false
@[simp]theorem GF (c:Bool):rZ (.bool c)=true:=rfl
theorem GG {x:X} {a b:AC}:Wk E O (.cond x a b) ks fr H Q↔rZ (x.ev fr)=true∧br (dj true (x.ev fr)=true) (Wk E O a ks fr H Q) (Wk E O b ks fr H Q):=by
 cases d:x.ev fr with
 |bool c=>
  cases c
  ·simp [rU d]
  ·simp [rT d]
 |_=>
  refine ⟨?_,fun h=>by simp [rZ]at h⟩;rintro ⟨n,ex,f,g,e,q⟩
  cases n with
  |zero=>simp [ah]at e
  |succ n=>
   rw [ah,d]at e;cases e
end
structure Mod (S:Nat→Prop) (H H':AH):Prop where
 n0:H'.n0=H.n0
 nx:H.nx≤H'.nx
 old:∀b,b<H.nx→¬ S b→H'.get b=H.get b
theorem Mod.refl (S:Nat→Prop) (H:AH):Mod S H H:=⟨rfl,OL _,fun _ _ _=>rfl⟩
theorem Mod.yG {S:Nat→Prop} {a b:AH} (h:Ext a b):Mod S a b:=⟨h.n0,h.nx,fun x c _=>h.old x c⟩
theorem Ext.mod {S:Nat→Prop} {a b c:AH} (h:Ext a b) (k:Mod S b c) (e:∀x,S x→a.nx≤x):Ext a c:=⟨k.n0.trans h.n0,O3 h.nx k.nx,fun x d=>(k.old x (O4 d h.nx) (fun q=>absurd (e x q) (Nat.not_le.2 d))).trans (h.old x d)⟩
theorem ez {H:AH} {b z k n:Nat} {c:List Value} (d:H.get b=some (.cells z c)) (e:H.n0≤b) (a:k+n≤c.length):H.ldn ⟨b,k,none⟩ n=some ((c.drop k).take n):=by
 unfold AH.ldn;have:¬ b<H.n0:=Nat.not_lt.2 e;simp [d,a,this]
theorem yH {H:AH} {b z k:Nat} {c:List Value} {v:Value} (d:H.get b=some (.cells z c)) (e:H.n0≤b) (a:c[k]?=some v):H.ld ⟨b,k,none⟩=some v:=by
 unfold AH.ld;have:¬ b<H.n0:=Nat.not_lt.2 e;simp [d,a,this]
theorem fu (H:AH) (x:jZ):(H.alloc x).get H.nx=some x:=by rw [AH.cA,if_pos rfl]
end Go.Proofs.Ytediokhgklkhnaa.A
namespace Go.Proofs.Ytediokhgklkhnaa.A
open Go
section
variable{E:Env} {O:ea} {ks:List Ko} {fr:Fr} {H:AH} {Q:Ex→Fr→AH→Prop}
inductive Md where
 |pl
 |dr (l0:List AO) (ck:List (Nat×Nat×Nat)) (acc:List (Fr×AH))
def Md.up:Md→Fr→AH→Md
 | .pl,_,_=>.pl
 | .dr l0 ck acc,fr,H=>.dr l0 ck ((fr,H)::acc)
@[simp]theorem JV:Md.up .pl fr H= .pl:=rfl
@[simp]theorem JW (a:List AO) (ck:List (Nat×Nat×Nat)) (acc:List (Fr×AH)):Md.up (.dr a ck acc) fr H= .dr a ck ((fr,H)::acc):=rfl
def Vx (E:Env) (O:ea) (m:Md) (l:List AO) (ks:List Ko) (fr:Fr) (H:AH) (Q:Ex→Fr→AH→Prop):Prop:=match m with
 | .pl=>Wr E O l ks fr H Q
 | .dr l0 ck acc=>Wd E O l0 ck acc l ks fr H Q
def Vk (E:Env) (O:ea) (c:AC) (ks:List Ko) (fr:Fr) (H:AH) (Q:Ex→Fr→AH→Prop):Prop:=Wk E O c ks fr H Q
def Vn (E:Env) (O:ea) (ex:Ex) (ks:List Ko) (fr:Fr) (H:AH) (Q:Ex→Fr→AH→Prop):Prop:=Un E O ex ks fr H Q
@[simp]theorem GH (ex:Ex):Vn E O ex [] fr H Q=Q ex fr H:=yj _
@[simp]theorem JX (b:AC):Vn E O .normal (.seq b::ks) fr H Q=Vk E O b ks fr H Q:=rfl
@[simp]theorem JY (i:Nat):Vn E O .normal (.bF i::ks) fr H Q=Vn E O .normal ks fr H Q:=rfl
@[simp]theorem JZ (j:Nat) (b:AC):Vn E O (.exit j) (.seq b::ks) fr H Q=Vn E O (.exit j) ks fr H Q:=rfl
@[simp]theorem Na (k:Ko):Vn E O .ret (k::ks) fr H Q=Vn E O .ret ks fr H Q:=Gi _
@[simp]theorem Ea:Vk E O .skip ks fr H Q↔Vn E O .normal ks fr H Q:=uG
@[simp]theorem GI:Vk E O .ret ks fr H Q↔Vn E O .ret ks fr H Q:=yk
@[simp]theorem GJ (l:List AO):Vk E O (.aA l) ks fr H Q↔Vx E O .pl l ks fr H Q:=yl _
@[simp]theorem GK (a b:AC):Vk E O (.seq a b) ks fr H Q↔Vk E O a (.seq b::ks) fr H Q:=ym _ _
theorem GL {x:X} {a b:AC}:Vk E O (.cond x a b) ks fr H Q↔rZ (x.ev fr)=true∧br (dj true (x.ev fr)=true) (Vk E O a ks fr H Q) (Vk E O b ks fr H Q):=GG
@[simp]theorem GM:Vx E O .pl [] ks fr H Q↔Vn E O .normal ks fr H Q:=yn
def CV (E:Env) (O:ea) (v:Value) (a b:AC) (ks:List Ko) (fr:Fr) (H:AH) (Q:Ex→Fr→AH→Prop):Prop:=
 rZ v=true∧br (dj true v=true) (Vk E O a ks fr H Q) (Vk E O b ks fr H Q)
@[simp]theorem J0 {x:X} {a b:AC}:Vk E O (.cond x a b) ks fr H Q↔CV E O (x.ev fr) a b ks fr H Q:=GL
variable{a b:AC}
@[simp]theorem Nb:CV E O (.bool true) a b ks fr H Q↔Vk E O a ks fr H Q:=by simp [CV]
@[simp]theorem Nc:CV E O (.bool false) a b ks fr H Q↔Vk E O b ks fr H Q:=by simp [CV]
section
variable{m:Md} {d:Option Nat} {p:aY} {l:List AO}
end
theorem BR {m:Md} (d:Nat) (p:aY) (l:List AO) (h:p.av=false):Vx E O m (⟨none,some d,p⟩::l) ks fr H Q↔
 wF (aB p (X.ev fr) H)=true∧Vx E O (m.up (fr.put d (valOf (aB p (X.ev fr) H))) (fZ H (aB p (X.ev fr) H))) l ks (fr.put d (valOf (aB p (X.ev fr) H))) (fZ H (aB p (X.ev fr) H)) Q:=by
 cases m
 ·exact Gj _ _ _ h
 ·exact Gk _ _ _ h
theorem r5 {m:Md} {d:Nat} {p:aY} {l:List AO} (h:p.av=false) {r:Option Value} (e:aB p (X.ev fr) H=r.map fun v=>(.v v,H)):Vx E O m (⟨none,some d,p⟩::l) ks fr H Q↔
 r.isSome=true∧Vx E O (m.up (fr.put d (r.getD undef)) H) l ks (fr.put d (r.getD undef)) H Q:=by
 rw [BR _ _ _ h,e];cases r<;>simp [wF]
def wO:Value→Value→Value→Option Value
 | .bool t,a,b=>some (bif t then a else b)
 |_,_,_=>none
@[simp]theorem Eb (t:Bool) (a b:Value):wO (.bool t) a b=some (bif t then a else b):=rfl
def GN (H:AH):Value→Option Value
 | .pointer (some a)=>H.ld a
 |_=>none
@[simp]theorem J1 (a:Addr):GN H (.pointer (some a))=H.ld a:=rfl
def qk (n:Nat) (H:AH):Value→Option Value
 | .pointer (some a)=>(H.ldn a n).map fun l=>.agg l.toArray
 |_=>none
@[simp]theorem yI (n:Nat) (a:Addr):qk n H (.pointer (some a))=(H.ldn a n).map fun l=>.agg l.toArray:=rfl
def BS (n:Nat) (H:AH):Value→Value→Option AH
 | .pointer (some a),v=>bif Nat.beq (aE v).length n&& !bu v then H.st a (aE v)else none
 |_,_=>none
@[simp]theorem BU (n:Nat) (a:Addr) (v:Value):BS n H (.pointer (some a)) v=if(aE v).length=n∧bu v=false then H.st a (aE v)else none:=by
 unfold BS;simp only [nb,Bool.cond_eq_ite,OK,OT,Bool.not_eq_true']
@[simp]theorem yJ (k:IntKind) (n:Int):aE (.int k n)=[.int k n]:=rfl
@[simp]theorem wP (b:Bool):aE (.bool b)=[.bool b]:=rfl
@[simp]theorem tU (b:ByteArray):aE (.string b)=[.string b]:=rfl
@[simp]theorem uK (a:Option Addr) (n c:Nat):aE (.slice a n c)=[.slice a n c]:=rfl
@[simp]theorem r6 (a:Option Addr):aE (.pointer a)=[.pointer a]:=rfl
@[simp]theorem yK (a:Option Nat):aE (.map a)=[.map a]:=rfl
@[simp]theorem wQ (f:Fn) (a b:Array Value):aE (.func f a b)=[.func f a b]:=rfl
@[simp]theorem r7:aE .nilFunc=[.nilFunc]:=rfl
@[simp]theorem As (k:IntKind) (n:Int):bu (.int k n)=false:=rfl
@[simp]theorem yL (b:Bool):bu (.bool b)=false:=rfl
@[simp]theorem uL (b:ByteArray):bu (.string b)=false:=rfl
@[simp]theorem wR (a:Option Addr) (n c:Nat):bu (.slice a n c)=false:=rfl
@[simp]theorem tV (a:Option Addr):bu (.pointer a)=false:=rfl
@[simp]theorem Au (a:Option Nat):bu (.map a)=false:=rfl
@[simp]theorem yM (f:Fn) (a b:Array Value):bu (.func f a b)=false:=rfl
@[simp]theorem tW:bu .nilFunc=false:=rfl
def r8:Value→Option Value
 | .pointer (some a)=>some (.pointer (some a))
 |_=>none
@[simp]theorem Ec (a:Addr):r8 (.pointer (some a))=some (.pointer (some a)):=rfl
def BV (k:IntKind):Value→Option Value
 | .int _ n=>some (.int k (k.wrap n))
 |_=>none
@[simp]theorem GO (k c:IntKind) (n:Int):BV k (.int c n)=some (.int k (k.wrap n)):=rfl
def BW:Value→Option Value
 | .int _ n=>some (.string (Utf8.encode n))
 |_=>none
@[simp]theorem GP (c:IntKind) (n:Int):BW (.int c n)=some (.string (Utf8.encode n)):=rfl
def Ee (off:Nat):Value→Option Value
 | .pointer (some a)=>bif a.spot.isNone then some (.pointer (some ⟨a.block,a.off+off,none⟩))else none
 |_=>none
@[simp]theorem J2 (off b o:Nat):Ee off (.pointer (some ⟨b,o,none⟩))=some (.pointer (some ⟨b,o+off,none⟩)):=rfl
def Ef (sz:Nat):Value→Value→Option Value
 | .slice (some a) len _,.int _ n=>if 0≤n∧n<len then(bif a.spot.isNone then some (.pointer (some ⟨a.block,a.off+n.toNat*sz,none⟩))else none)else none
 |_,_=>none
@[simp]theorem wS (sz b o len c:Nat) (k:IntKind) (n:Int):Ef sz (.slice (some ⟨b,o,none⟩) len c) (.int k n)=if 0≤n∧n<len then some (.pointer (some ⟨b,o+n.toNat*sz,none⟩))else none:=rfl
def uM (len sz:Nat):Value→Value→Option Value
 | .pointer (some a),.int _ n=>if 0≤n∧n<len then(bif a.spot.isNone then some (.pointer (some ⟨a.block,a.off+n.toNat*sz,none⟩))else none)else none
 |_,_=>none
@[simp]theorem r9 (sz b o len:Nat) (k:IntKind) (n:Int):uM len sz (.pointer (some ⟨b,o,none⟩)) (.int k n)=if 0≤n∧n<len then some (.pointer (some ⟨b,o+n.toNat*sz,none⟩))else none:=rfl
def Eg:Value→Value→Option Value
 | .string s,.int _ n=>if 0≤n then(match s[n.toNat]? with|some b=>some (.int .u8 b.toNat)|none=>none)else none
 |_,_=>none
def uN:Value→Nat→Option Value
 | .tuple vs,i=>vs.toList[i]?
 |_,_=>none
@[simp]theorem GQ (vs:Array Value) (i:Nat):uN (.tuple vs) i=vs.toList[i]?:=rfl
def oT:Value→Option Value
 | .string s=>some (.int .i64 s.size)
 |_=>none
@[simp]theorem Eh (s:ByteArray):oT (.string s)=some (.int .i64 s.size):=rfl
def oU:Value→Option Value
 | .slice _ n _=>some (.int .i64 n)
 |_=>none
@[simp]theorem Ei (a:Option Addr) (n c:Nat):oU (.slice a n c)=some (.int .i64 n):=rfl
def uO (k:Nat) (neg:Bool) (x y:Value):Option Value:=(cH k x y).map fun b=>.bool (bif neg then !b else b)
@[simp]theorem J3 (neg a b:Bool):uO 0 neg (.bool a) (.bool b)=some (.bool (bif neg then !(a==b)else(a==b))):=rfl
@[simp]theorem GR (neg:Bool) (b:Option Addr):uO 1 neg (.pointer none) (.pointer b)=some (.bool (bif neg then !b.isNone else b.isNone)):=rfl
@[simp]theorem GS (neg:Bool) (n c d c':Nat) (b:Option Addr):uO 2 neg (.slice none n c) (.slice b d c')=some (.bool (bif neg then !b.isNone else b.isNone)):=rfl
@[simp]theorem GU (neg:Bool) (n c d c':Nat) (b:Addr):uO 2 neg (.slice (some b) n c) (.slice none d c')=some (.bool neg):=by cases neg<;>rfl
@[simp]theorem GV (neg:Bool) (b:Option Nat):uO 4 neg (.map none) (.map b)=some (.bool (bif neg then !b.isNone else b.isNone)):=rfl
def uP (neg:Bool) (offs:List (Nat×Nat)):Value→Value→Option Value
 | .agg cs,.agg ds=>(bq cs.toList ds.toList offs).map fun b=>.bool (bif neg then !b else b)
 |_,_=>none
@[simp]theorem GW (neg:Bool) (offs:List (Nat×Nat)) (cs ds:Array Value):uP neg offs (.agg cs) (.agg ds)=(bq cs.toList ds.toList offs).map fun b=>.bool (bif neg then !b else b):=rfl
def kr (kk:Nat) (z:Value) (H:AH) (x k:Value) (ok:Bool):Option Value:=
 match x with
 | .map none=>bif bf kk k then some (bif ok then .tuple #[z, .bool false]else z)else none
 | .map (some r)=>match H.get r with
   |some (.map es)=>bif bf kk k&&decide (H.n0≤r)then(match dW k es with
    |some (some v)=>some (bif ok then .tuple #[v, .bool true]else v)
    |some none=>some (bif ok then .tuple #[z, .bool false]else z)
    |none=>none)else none
   |_=>none
 |_=>none
section
variable{m:Md} {l:List AO} (d:Nat)
@[simp]theorem J4 (x:X):Vx E O m (⟨none,some d,.mv x⟩::l) ks fr H Q↔Vx E O (m.up (fr.put d (x.ev fr)) H) l ks (fr.put d (x.ev fr)) H Q:=by
 rw [r5 (r:=some (x.ev fr)) rfl rfl];simp
@[simp]theorem GX (k:Nat) (neg:Bool) (x y:X):Vx E O m (⟨none,some d,.eqk k neg x y⟩::l) ks fr H Q↔(uO k neg (x.ev fr) (y.ev fr)).isSome=true∧Vx E O (m.up (fr.put d ((uO k neg (x.ev fr) (y.ev fr)).getD undef)) H) l ks (fr.put d ((uO k neg (x.ev fr) (y.ev fr)).getD undef)) H Q:=
 r5 rfl (by simp only [aB,uO];cases cH k (x.ev fr) (y.ev fr)<;>rfl)
def sa:Option (Value×AH)→Bool
 |some _=>true
 |none=>false
def v1:Option (Value×AH)→Value
 |some (v,_)=>v
 |none=>undef
def h2 (H:AH):Option (Value×AH)→AH
 |some (_,H')=>H'
 |none=>H
@[simp]theorem GY (r:Value×AH):sa (some r)=true:=rfl
@[simp]theorem Nd (v:Value) (c:AH):v1 (some (v,c))=v:=rfl
@[simp]theorem Nf (v:Value) (H':AH):h2 H (some (v,H'))=H':=rfl
theorem wT {p:aY} (h:p.av=false) {r:Option (Value×AH)} (e:aB p (X.ev fr) H=r.map fun q=>(.v q.1,q.2)):Vx E O m (⟨none,some d,p⟩::l) ks fr H Q↔
 sa r=true∧Vx E O (m.up (fr.put d (v1 r)) (h2 H r)) l ks (fr.put d (v1 r)) (h2 H r) Q:=by
 rw [BR _ _ _ h,e]
 cases r with
 |none=>simp [sa,wF]
 |some q=>obtain ⟨v,c⟩:=q;simp
@[simp]theorem GZ (sz bytes:Nat) (s x:X):Vx E O m (⟨none,some d,.app sz bytes s x⟩::l) ks fr H Q↔sa (aK sz bytes H (s.ev fr) (x.ev fr))=true∧Vx E O (m.up (fr.put d (v1 (aK sz bytes H (s.ev fr) (x.ev fr)))) (h2 H (aK sz bytes H (s.ev fr) (x.ev fr)))) l ks (fr.put d (v1 (aK sz bytes H (s.ev fr) (x.ev fr)))) (h2 H (aK sz bytes H (s.ev fr) (x.ev fr))) Q:=
 wT _ rfl rfl
def nN (len sz:Nat) (z:List Value) (H:AH) (ps:List (Nat×Nat×Value)):Option (Value×AH):=(eC z ps).map fun c=>(.slice (some ⟨H.nx,0,none⟩) len len,H.alloc (.cells sz c))
@[simp]theorem G0 (len sz:Nat) (z:List Value) (ps:List (Nat×Nat×X)):Vx E O m (⟨none,some d,.bsl len sz z ps⟩::l) ks fr H Q↔sa (nN len sz z H (ps.map fun p=>(p.1,p.2.1,p.2.2.ev fr)))=true∧Vx E O (m.up (fr.put d (v1 (nN len sz z H (ps.map fun p=>(p.1,p.2.1,p.2.2.ev fr))))) (h2 H (nN len sz z H (ps.map fun p=>(p.1,p.2.1,p.2.2.ev fr))))) l ks (fr.put d (v1 (nN len sz z H (ps.map fun p=>(p.1,p.2.1,p.2.2.ev fr))))) (h2 H (nN len sz z H (ps.map fun p=>(p.1,p.2.1,p.2.2.ev fr)))) Q:=
 wT _ rfl (by simp only [aB,nN];cases eC z (ps.map fun p=>(p.1,p.2.1,p.2.2.ev fr))<;>rfl)
def uQ (kk:Nat) (H:AH) (x k v:Value):Option AH:=
 match x with
 | .map (some r)=>match H.get r with
   |some (.map es)=>bif bf kk k&&decide (H.n0≤r)&& !bu v then(iI k v es).map fun es'=>H.put r (some (.map es'))else none
   |_=>none
 |_=>none
end
def wU:AO→Fr→Bool
 |⟨none,_,_⟩,_=>true
 |⟨some (t,b),_,_⟩,fr=>dj b (fr.get t)
@[simp]theorem J5 (d:Option Nat) (p:aY) (fr:Fr):wU ⟨none,d,p⟩ fr=true:=rfl
@[simp]theorem J6 (t:Nat) (b:Bool) (d:Option Nat) (p:aY) (fr:Fr):wU ⟨some (t,b),d,p⟩ fr=dj b (fr.get t):=rfl
def BX (H:AH) (n:Nat):Value→Option (Addr×List Value)
 | .pointer (some a)=>(H.ldn a n).map fun l=>(a,l)
 |_=>none
@[simp]theorem J7 (n:Nat) (a:Addr):BX H n (.pointer (some a))=(H.ldn a n).map fun l=>(a,l):=rfl
def Ej:aY→Fr→AH→Option (Addr×List Value)
 | .ld x,fr,H=>BX H 1 (x.ev fr)
 | .ldn n x,fr,H=>BX H n (x.ev fr)
 |_,_,_=>none
@[simp]theorem G3 (x:X):Ej (.ld x) fr H=BX H 1 (x.ev fr):=rfl
@[simp]theorem Ek (n:Nat) (x:X):Ej (.ldn n x) fr H=BX H n (x.ev fr):=rfl
def yN (H':AH):Option (Addr×List Value)→Bool
 |some x=>sameAt H' x
 |none=>false
@[simp]theorem G4 (x:Addr×List Value):yN H (some x)=sameAt H x:=rfl
def yO:Option (List Value)→List Value→Bool
 |some m,l=>dd m l
 |none,_=>false
@[simp]theorem G5 (m l:List Value):yO (some m) l=dd m l:=rfl
@[simp]theorem mr (a:Addr) (l:List Value):sameAt H (a,l)=yO (H.ldn a l.length) l:=by
 unfold sameAt yO;dsimp only;cases H.ldn a l.length<;>rfl
@[simp]theorem El:dd [] []=true:=rfl
@[simp]theorem Em (x y:Value) (l m:List Value):dd (x::l) (y::m)=(jf x y&&dd l m):=rfl
def J8 (l:List AO):Nat→Option AO→Option (Fr×AH)→Option (Fr×AH)→Option AO→Option (Fr×AH)→Option (Fr×AH)→Bool
 |k,some op,some (fp,Hp),some (_,wg),some oq,some (fq,_),some (_,qX)=>
  !wU op fp|| !wU oq fq||(match k with
   |0=>yN qX (Ej op.o fp Hp)
   |1=>gm (wg.get Hp.nx) (qX.get Hp.nx)
   |_=>match bg op fp,bg oq fq with|some b,some b'=>!Nat.beq b b'|_,_=>true)
 |_,_,_,_,_,_,_=>false
@[simp]theorem J9 (l:List AO) (op d:AO) (c e i h:Fr) (g j H1 f:AH):J8 l 0 (some op) (some (c,g)) (some (i,j)) (some d) (some (e,H1)) (some (h,f))=(!wU op c|| !wU d e||yN f (Ej op.o c g)):=rfl
@[simp]theorem Ka (l:List AO) (op d:AO) (f e j i:Fr) (c h H1 g:AH):J8 l 1 (some op) (some (f,c)) (some (j,h)) (some d) (some (e,H1)) (some (i,g))=(!wU op f|| !wU d e||gm (h.get c.nx) (g.get c.nx)):=rfl
@[simp]theorem BZ {α:Type} (x:α) (l:List α):nth (x::l) 0=some x:=rfl
@[simp]theorem Kb {α:Type} (x:α) (l:List α) (n:Nat):nth (x::l) (n+1)=nth l n:=rfl
theorem ku {α:Type}:∀(l:List α) (n:Nat),nth l n=l[n]?
 |[],n=>by cases n<;>rfl
 |x::l,0=>rfl
 |x::l,n+1=>by simp [ku l n]
def spine:Nat→AC→AC→AC
 |0,_,r=>r
 |k+1,.seq a b,r=>.seq a (spine k b r)
 |_,c,_=>c
theorem uR (a b r:AC):spine 1 (.seq a b) r= .seq a r:=by cases b<;>rfl
theorem uS (a b r:AC):spine 2 (.seq a b) r= .seq a (spine 1 b r):=rfl
theorem uT (a b r:AC):spine 3 (.seq a b) r= .seq a (spine 2 b r):=rfl
theorem uU (a b r:AC):spine 4 (.seq a b) r= .seq a (spine 3 b r):=rfl
theorem uV (a b r:AC):spine 5 (.seq a b) r= .seq a (spine 4 b r):=rfl
theorem uW (a b r:AC):spine 6 (.seq a b) r= .seq a (spine 5 b r):=rfl
theorem uX (a b r:AC):spine 7 (.seq a b) r= .seq a (spine 6 b r):=rfl
theorem uZ (a b r:AC):spine 8 (.seq a b) r= .seq a (spine 7 b r):=rfl
attribute [simp] uR uS uT uU uV uW uX uZ
inductive bA where
 |l
 |r
def dk:List bA→AC→AC
 |[],c=>c
 | .l::p,.seq a _=>dk p a
 | .r::p,.seq _ b=>dk p b
 | .l::p,.block _ a=>dk p a
 | .l::p,.cond _ a _=>dk p a
 | .r::p,.cond _ _ b=>dk p b
 |_,c=>c
def ga:List bA→AC→AC→AC
 |[],_,r=>r
 | .l::p,.seq a b,r=>.seq (ga p a r) b
 | .r::p,.seq a b,r=>.seq a (ga p b r)
 | .l::p,.block i a,r=>.block i (ga p a r)
 | .l::p,.cond x a b,r=>.cond x (ga p a r) b
 | .r::p,.cond x a b,r=>.cond x a (ga p b r)
 |_,c,_=>c
def gb:List bA→AC→List Ko→List Ko
 |[],_,ks=>ks
 | .l::p,.seq a b,ks=>gb p a (.seq b::ks)
 | .r::p,.seq _ b,ks=>gb p b ks
 | .l::p,.block i a,ks=>gb p a (.bF i::ks)
 | .l::p,.cond _ a _,ks=>gb p a ks
 | .r::p,.cond _ _ b,ks=>gb p b ks
 |_,_,ks=>ks
@[simp]theorem En (p:List bA) (a b:AC):dk (.l::p) (.seq a b)=dk p a:=rfl
@[simp]theorem Eo (p:List bA) (a b:AC):dk (.r::p) (.seq a b)=dk p b:=rfl
@[simp]theorem Ep (p:List bA) (i:Nat) (a:AC):dk (.l::p) (.block i a)=dk p a:=rfl
@[simp]theorem B0 (p:List bA) (x:X) (a b:AC):dk (.l::p) (.cond x a b)=dk p a:=rfl
@[simp]theorem B1 (p:List bA) (x:X) (a b:AC):dk (.r::p) (.cond x a b)=dk p b:=rfl
@[simp]theorem Er (p:List bA) (x:X) (a b r:AC):ga (.l::p) (.cond x a b) r= .cond x (ga p a r) b:=rfl
@[simp]theorem Es (p:List bA) (x:X) (a b r:AC):ga (.r::p) (.cond x a b) r= .cond x a (ga p b r):=rfl
@[simp]theorem Eu (p:List bA) (x:X) (a b:AC) (ks:List Ko):gb (.l::p) (.cond x a b) ks=gb p a ks:=rfl
@[simp]theorem Ev (p:List bA) (x:X) (a b:AC) (ks:List Ko):gb (.r::p) (.cond x a b) ks=gb p b ks:=rfl
@[simp]theorem G6 (p:List bA) (a b r:AC):ga (.l::p) (.seq a b) r= .seq (ga p a r) b:=rfl
@[simp]theorem G7 (p:List bA) (a b r:AC):ga (.r::p) (.seq a b) r= .seq a (ga p b r):=rfl
@[simp]theorem G8 (p:List bA) (i:Nat) (a r:AC):ga (.l::p) (.block i a) r= .block i (ga p a r):=rfl
@[simp]theorem G9 (p:List bA) (a b:AC) (ks:List Ko):gb (.l::p) (.seq a b) ks=gb p a (.seq b::ks):=rfl
@[simp]theorem Ha (p:List bA) (a b:AC) (ks:List Ko):gb (.r::p) (.seq a b) ks=gb p b ks:=rfl
@[simp]theorem Hb (p:List bA) (i:Nat) (a:AC) (ks:List Ko):gb (.l::p) (.block i a) ks=gb p a (.bF i::ks):=rfl
theorem Ca.B2 {f:Nat} {F:AF} {«as»:List Value} {H:AH} {Q:Value→AH→Prop} (c:O f=none) (e:E f=some F) (d:«as».length=F.np) (h:Vk E O F.body [] (Fr.of «as») H (rS F.res Q)):Ca E O f «as» H Q:=Ca.Bp c e d h
def sb (E:Env) (O:ea) (I:Nat→Fr→AH→Prop) (k:Nat) (ks:List Ko) (Q:Ex→Fr→AH→Prop):Ex→Fr→AH→Prop
 | .normal,fr,H=>∃j,j<k∧I j fr H
 | .exit i,fr,H=>Vn E O (.exit i) ks fr H Q
 | .ret,fr,H=>Vn E O .ret ks fr H Q
@[simp]theorem Ew (I:Nat→Fr→AH→Prop) (k:Nat):sb E O I k ks Q .normal fr H=∃j,j<k∧I j fr H:=rfl
@[simp]theorem Ey (I:Nat→Fr→AH→Prop) (k i:Nat):sb E O I k ks Q (.exit i) fr H=Vn E O (.exit i) ks fr H Q:=rfl
@[simp]theorem Ez (I:Nat→Fr→AH→Prop) (k:Nat):sb E O I k ks Q .ret fr H=Vn E O .ret ks fr H Q:=rfl
@[simp]theorem Og (n:Nat):X.ev fr (.t n)=fr.get n:=rfl
@[simp]theorem Oh (v:Value):X.ev fr (.k v)=v:=rfl
@[simp]theorem Oi (n:Nat):X.ev fr (.f n)= .func (.func n) #[] #[]:=rfl
end
end Go.Proofs.Ytediokhgklkhnaa.A
namespace Go.Proofs.Ytediokhgklkhnaa.A
open Go
theorem fL {c:Nat}:∀{a b x y:List Value},al c a=some x→al c b=some y→al c (a++b)=some (x++y)
 |[],b,x,y,h,k=>by simp [al]at h;subst h;simpa using k
 |v::a,b,x,y,h,k=>by
  simp only [al]at h;split at h
  case h_2=>cases h
  rename_i z m d e;cases h;have:=fL e k;simp only [List.cons_append,al,d,this]
theorem nO {H:AH} {b o n m:Nat} {x y:List Value} (h:H.ldn ⟨b,o,none⟩ n=some x) (k:H.ldn ⟨b,o+n,none⟩ m=some y):H.ldn ⟨b,o,none⟩ (n+m)=some (x++y):=by
 unfold AH.ldn at h k⊢;dsimp only at h k⊢
 cases a:H.get b with
 |none=>simp [a]at h
 |some z=>
  cases z with
  |map es=>simp [a]at h
  |cells z c=>
   simp only [a]at h k⊢;obtain ⟨g,h⟩:=ai h;obtain ⟨f,k⟩:=ai k;simp only [OT]at g f
   have e:(c.drop o).take (n+m)=(c.drop o).take n++(c.drop (o+n)).take m:=by
    rw [List.take_add,List.drop_drop]
   rw [show decide (o+(n+m)≤c.length)=true by simp;omega,cond_true,e]
   cases d:decide (b<H.n0)with
   |false=>
    rw [d]at h k;simp only [cond_false,OH]at h k⊢;rw [h,k]
   |true=>
    rw [d]at h k;simp only [cond_true]at h k⊢;exact fL h k
theorem Rows.sd {H:AH} {sz:Nat} {v:Value} {rows:List (List Value)} (h:Rows H sz v rows):∀r∈rows,r.length=sz:=by
 intro r a;obtain ⟨i,hi,rfl⟩:=List.mem_iff_getElem.1 a;obtain ⟨b,o,c,e,d⟩:=h.at (OG hi);exact (bQ d).2
theorem bR {sz:Nat}:∀{rows:List (List Value)},(∀r∈rows,r.length=sz)→rows.flatten.length=rows.length*sz
 |[],_=>by simp
 |r::rows,h=>by
  rw [List.flatten_cons,OQ,h r (by simp),bR fun q a=>h q (by simp [a]),List.length_cons,Nat.succ_mul];omega
theorem Rows.whole {H:AH} {sz b o c:Nat} {rows:List (List Value)} (h:Rows H sz (.slice (some ⟨b,o,none⟩) rows.length c) rows):∀k,k≤rows.length→0<k→H.ldn ⟨b,o,none⟩ (k*sz)=some (rows.take k).flatten:=by
 intro k
 induction k with
 |zero=>intro _ h;omega
 |succ k ih=>
  intro g _;obtain ⟨l,f,j,e,a⟩:=h.at (i:=k) (OG (by omega));cases e;rw [O2,OG (by omega),List.flatten_append];by_cases d:k=0
  ·subst d
   simpa using a
  ·have:=nO (ih (by omega) (by omega)) a
   rw [show(k+1)*sz=k*sz+sz by rw [Nat.succ_mul],this];simp only [Option.toList_some,List.flatten_cons,List.flatten_nil,List.append_nil]
theorem Rows.src {H:AH} {sz:Nat} {v:Value} {rows:List (List Value)} (h:Rows H sz v rows):je H sz v=some rows.flatten∧fR v=some rows.length:=by
 obtain ⟨a,c,rfl,k⟩:=h.is;refine ⟨?_,rfl⟩
 by_cases e:rows=[]
 ·subst e
  cases a<;>simp [je]
 ·have d:0<rows.length:=List.length_pos_iff.2 e
  obtain ⟨b,o,rfl,h2⟩:=k 0 _ (OG d);have:=Rows.whole (H:=H) (sz:=sz) (b:=b) (o:=o) (c:=c) (rows:=rows) ⟨_,_,rfl,k⟩ rows.length (OL _) d;simp only [je,nb];rw [show decide (rows.length=0)=false by simp [e],cond_false,this,List.take_length]
structure tX (H:AH) (sz:Nat) (v:Value) (rows:List (List Value)):Prop where
 is:(v= .slice none 0 0∧rows=[])∨∃b,v= .slice (some ⟨b,0,none⟩) rows.length rows.length∧H.n0≤b∧H.get b=some (.cells sz rows.flatten)
 len:∀r∈rows,r.length=sz
def bF (v:Value) (b:Nat):Prop:=∃o n c,v= .slice (some ⟨b,o,none⟩) n c
theorem b8 (b b' o n c:Nat):bF (.slice (some ⟨b,o,none⟩) n c) b'↔b'=b:=by
 unfold bF;constructor
 ·rintro ⟨a,d,f,e⟩;cases e;rfl
 ·rintro rfl;exact ⟨_,_,_,rfl⟩
theorem u0 (b n c:Nat):¬ bF (.slice none n c) b:=by rintro ⟨_,_,_,e⟩;cases e
theorem tX.nil (H:AH) (sz:Nat):tX H sz (.slice none 0 0) []:=⟨.inl ⟨rfl,rfl⟩,by simp⟩
theorem gG {sz:Nat}:∀{rows:List (List Value)} {i:Nat} {r:List Value},(∀r∈rows,r.length=sz)→rows[i]?=some r→((rows.flatten.drop (i*sz)).take sz)=r∧i*sz+sz≤rows.flatten.length
 |[],i,r,_,h=>by simp at h
 |x::rows,0,r,a,h=>by
  simp at h;subst h;have:=a x (by simp);simp [this]
 |x::rows,i+1,r,a,h=>by
  have b:=a x (by simp);have ih:=gG (fun q c=>a q (by simp [c])) (i:=i) (r:=r) (rows:=rows) (by simpa using h);rw [List.flatten_cons,Nat.succ_mul,OQ,b];refine ⟨?_,by omega⟩;rw [show i*sz+sz=x.length+i*sz by omega,←List.drop_drop,List.drop_left];exact ih.1
theorem se {H:AH} {sz bytes:Nat} {s x:Value} {rows new:List (List Value)} (u:H.n0≤H.nx) (e:tX H sz s rows) (t:Rows H sz x new) (d:(rows.length+new.length)*bytes≤2^47) (m:rows.length+new.length<2^62):
 ∃i q,aK sz bytes H s x=some (i,q)∧tX q sz i (rows++new)∧Mod (bF s) H q∧(∀b,bF i b→bF s b∨H.nx≤b)∧(new≠[]→∀b,bF i b→H.nx≤b):=by
 obtain ⟨o,a⟩:=t.src;have w:=t.sd
 have v:∀r∈rows++new,r.length=sz:=by
  intro r z;rcases O1.1 z with h|h
  ·exact e.len r h
  ·exact w r h
 by_cases f:new=[]
 ·subst f
  refine ⟨s,H,?_,by simpa using e,Mod.refl _ _,fun b d=>.inl d,fun h=>absurd rfl h⟩;rcases e.is with⟨rfl,rfl⟩|⟨b,rfl,n,k⟩
  ·simp [aK,a]
  ·simp [aK,a]
 have D:0<new.length:=List.length_pos_iff.2 f;have p:¬ new.length=0:=by omega
 have E:new.flatten.length=new.length*sz:=bR w
 by_cases j:rows=[]
 ·subst j
  simp only [List.length_nil,Nat.zero_add]at d m;refine ⟨.slice (some ⟨H.nx,0,none⟩) new.length new.length,H.alloc (.cells sz new.flatten),?_,⟨.inr ⟨H.nx,rfl,u,fu _ _⟩,v⟩,Mod.yG (Ext.alloc _ _),fun b d=>.inr (by rw [(b8 _ _ _ _ _).1 d];exact OL _),fun _ b d=>by rw [(b8 _ _ _ _ _).1 d];exact OL _⟩;rcases e.is with⟨rfl,_⟩|⟨b,rfl,n,k⟩
  ·simp [aK,a,o,p,f,d,m,nb]
  ·simp [aK,a,o,p,f,d,m,nb]
 have C:0<rows.length:=List.length_pos_iff.2 j;rcases e.is with⟨rfl,h⟩|⟨b,rfl,n,k⟩
 ·exact absurd h j
 have g:H.ldn ⟨b,0,none⟩ (rows.length*sz)=some rows.flatten:=by
  have:=bR e.len;rw [ez k n (by omega),←this];simp only [List.drop_zero,List.take_length]
 have y:H.gj b sz=true:=by simp [AH.gj,k]
 have B:¬ rows.length+new.length≤rows.length:=by omega
 have A:¬ rows.length=0:=by omega
 refine ⟨.slice (some ⟨H.nx,0,none⟩) (rows++new).length (rows++new).length,(H.put b none).alloc (.cells sz (rows++new).flatten),?_,⟨.inr ⟨H.nx,rfl,u,?_⟩,v⟩,⟨rfl,O8 _,fun c l e=>?_⟩,fun c l=>.inr (by rw [(b8 _ _ _ _ _).1 l];exact OL _),fun _ c l=>by rw [(b8 _ _ _ _ _).1 l];exact OL _⟩
 ·simp [aK,a,o,p,f,j,d,m,B,A,n,y,g]
 ·exact fu (H.put b none) _
 ·rw [b8]at e
  rw [AH.cA,if_neg (by rw [AH.qW];omega),AH.lV,if_neg e]
theorem u1 {H:AH} {sz bytes:Nat} {s x:Value} {rows new:List (List Value)} (h:H.n0≤H.nx) (i:tX H sz s rows) (g:Rows H sz x new) (j:(rows.length+new.length)*bytes≤2^47) (k:rows.length+new.length<2^62):
 ∃e f,aK sz bytes H s x=some (e,f)∧tX f sz e (rows++new)∧Mod (bF s) H f∧∀b,bF e b→bF s b∨H.nx≤b:=by
 obtain ⟨e,f,a,b,c,d,_⟩:=se h i g j k;exact ⟨e,f,a,b,c,d⟩
end Go.Proofs.Ytediokhgklkhnaa.A
