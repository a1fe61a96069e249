/- THE FUNCTIONS THAT THE PROOFS WALK THROUGH, as the abstract machine has them; printed by a program of the session. -/
import Derived.Test.YtlpnnoojgbhfaaaGreatDoorMc
set_option linter.all false
namespace Go.AM
def oksT : List (Nat × PK) := [(2, .int), (3, .int), (4, .bool), (5, .int), (6, .int), (9, .str), (10, .str), (11, .str), (12, .int), (21, .int), (26, .int), (70, .int), (71, .int), (268, .int), (276, .int), (281, .int), (347, .int), (561, .int), (562, .int), (564, .int), (565, .int)]
def gl7 : List AV := []
def gl8 : List AV := []
def gl1 : List AV := []
def gl2 : List AV := [.int .u64 1, .int .u64 10, .int .u64 100, .int .u64 1000, .int .u64 10000, .int .u64 100000, .int .u64 1000000, .int .u64 10000000, .int .u64 100000000, .int .u64 1000000000, .int .u64 10000000000, .int .u64 100000000000, .int .u64 1000000000000, .int .u64 10000000000000, .int .u64 100000000000000, .int .u64 1000000000000000, .int .u64 10000000000000000, .int .u64 100000000000000000, .int .u64 1000000000000000000, .int .u64 10000000000000000000]
def gl5 : List AV := []
def gl6 : List AV := []
def gl3 : List AV := [.iface 431 .bot]
def gl4 : List AV := [.iface 431 .bot]
def gl0 : List AV := []
def glT : Nat → Option (List AV) := fun g => match g with
  | 0 => some gl0
  | 1 => some gl1
  | 2 => some gl2
  | 3 => some gl3
  | 4 => some gl4
  | 5 => some gl5
  | 6 => some gl6
  | 7 => some gl7
  | 8 => some gl8
  | _ => none
def af3 : AFun := .body 153 [.tmp 4] false (.seq (.reg [⟨(some 4), none, .move (.k (.bool false))⟩])
 (.seq (.reg [⟨(some 21), none, .callv (.k (.func 4 [] [])) []⟩,
  ⟨(some 5), none, .move (.t 21)⟩])
 (.seq (.seq (.reg [⟨(some 22), none, .move (.t 0)⟩,
  ⟨(some 23), none, .callv (.k (.func 5 [] [])) [(.t 22)]⟩,
  ⟨(some 24), none, .bin .gtr .num (.t 23) (.k (.int .i64 3000))⟩,
  ⟨(some 25), none, .move (.t 24)⟩,
  ⟨(some 26), some (25, false), .move (.t 1)⟩,
  ⟨(some 27), some (25, false), .len false (.t 26)⟩,
  ⟨(some 28), some (25, false), .bin .gtr .num (.t 27) (.k (.int .i64 20000))⟩,
  ⟨(some 29), none, .pick (.t 25) (.k (.bool true)) (.t 28)⟩])
 (.cond (.t 29) (.seq (.reg [⟨(some 30), none, .move (.t 5)⟩,
  ⟨(some 4), none, .move (.t 30)⟩])
 (.ret))
 (.skip)))
 (.seq (.reg [⟨(some 32), none, .move (.t 0)⟩,
  ⟨(some 33), none, .callv (.k (.func 6 [] [])) [(.t 32)]⟩,
  ⟨(some 31), none, .move (.t 33)⟩,
  ⟨(some 34), none, .extract (.t 31) 0⟩,
  ⟨(some 35), none, .extract (.t 31) 1⟩,
  ⟨(some 6), none, .move (.t 34)⟩,
  ⟨(some 7), none, .move (.t 35)⟩])
 (.seq (.seq (.reg [⟨(some 36), none, .move (.t 7)⟩,
  ⟨(some 37), none, .bin .eql .num (.t 36) (.k (.int .i64 0))⟩])
 (.cond (.t 37) (.seq (.reg [⟨(some 39), none, .move (.t 6)⟩,
  ⟨(some 40), none, .callv (.k (.func 7 [] [])) [(.t 39)]⟩,
  ⟨(some 38), none, .move (.t 40)⟩,
  ⟨(some 41), none, .extract (.t 38) 0⟩,
  ⟨(some 42), none, .extract (.t 38) 1⟩,
  ⟨(some 8), none, .move (.t 41)⟩,
  ⟨(some 9), none, .move (.t 42)⟩])
 (.seq (.seq (.reg [⟨(some 43), none, .move (.t 9)⟩,
  ⟨(some 44), none, .bin .neq .num (.t 43) (.k (.int .i64 0))⟩,
  ⟨(some 45), none, .move (.t 44)⟩,
  ⟨(some 46), some (45, false), .move (.t 0)⟩,
  ⟨(some 47), some (45, false), .move (.t 8)⟩,
  ⟨(some 48), some (45, false), .callv (.k (.func 8 [] [])) [(.t 46), (.t 47)]⟩,
  ⟨(some 49), some (45, false), .un .not (.t 48)⟩,
  ⟨(some 50), none, .pick (.t 45) (.k (.bool true)) (.t 49)⟩])
 (.cond (.t 50) (.seq (.reg [⟨(some 4), none, .move (.k (.bool false))⟩])
 (.ret))
 (.skip)))
 (.seq (.seq (.reg [⟨(some 10), none, .move (.k (.int .i64 0))⟩])
 (.block 0 (.loop (.seq (.seq (.reg [⟨(some 51), none, .move (.t 10)⟩,
  ⟨(some 52), none, .move (.t 0)⟩,
  ⟨(some 53), none, .len false (.t 52)⟩,
  ⟨(some 54), none, .bin .lss .num (.t 51) (.t 53)⟩,
  ⟨(some 55), none, .move (.t 54)⟩,
  ⟨(some 56), some (55, true), .move (.t 10)⟩,
  ⟨(some 57), some (55, true), .bin .lss .num (.t 56) (.k (.int .i64 3))⟩,
  ⟨(some 58), none, .pick (.t 55) (.t 57) (.k (.bool false))⟩])
 (.cond (.t 58) (.skip)
 (.exit 0)))
 (.seq (.block 1 (.seq (.reg [⟨(some 62), none, .move (.t 6)⟩,
  ⟨(some 63), none, .move (.t 10)⟩,
  ⟨(some 64), none, .callv (.k (.func 9 [] [])) [(.t 62), (.t 63)]⟩,
  ⟨(some 61), none, .move (.t 64)⟩,
  ⟨(some 65), none, .extract (.t 61) 0⟩,
  ⟨(some 66), none, .extract (.t 61) 1⟩,
  ⟨(some 11), none, .move (.t 65)⟩,
  ⟨(some 12), none, .move (.t 66)⟩])
 (.seq (.reg [⟨(some 67), none, .move (.t 12)⟩,
  ⟨(some 68), none, .bin .neq .num (.t 67) (.k (.int .i64 0))⟩,
  ⟨(some 69), none, .move (.t 68)⟩,
  ⟨(some 70), some (69, false), .move (.t 11)⟩,
  ⟨(some 71), some (69, false), .move (.t 0)⟩,
  ⟨(some 72), some (69, false), .move (.t 10)⟩,
  ⟨(some 73), some (69, false), .idxAddrS 1 (.t 71) (.t 72)⟩,
  ⟨(some 74), some (69, false), .load false 1 (.t 73)⟩,
  ⟨(some 75), some (69, false), .callv (.k (.func 10 [] [])) [(.t 70), (.t 74)]⟩,
  ⟨(some 76), some (69, false), .un .not (.t 75)⟩,
  ⟨(some 77), none, .pick (.t 69) (.k (.bool true)) (.t 76)⟩])
 (.cond (.t 77) (.seq (.reg [⟨(some 4), none, .move (.k (.bool false))⟩])
 (.ret))
 (.skip)))))
 (.reg [⟨(some 59), none, .move (.t 10)⟩,
  ⟨(some 60), none, .bin .add .num (.t 59) (.k (.int .i64 1))⟩,
  ⟨(some 10), none, .move (.t 60)⟩]))))))
 (.seq (.reg [⟨(some 13), none, .move (.k .nilslice)⟩])
 (.seq (.seq (.reg [⟨(some 14), none, .move (.k (.int .i64 0))⟩])
 (.block 2 (.loop (.seq (.seq (.reg [⟨(some 78), none, .move (.t 14)⟩,
  ⟨(some 79), none, .move (.t 0)⟩,
  ⟨(some 80), none, .len false (.t 79)⟩,
  ⟨(some 81), none, .bin .lss .num (.t 78) (.t 80)⟩])
 (.cond (.t 81) (.skip)
 (.exit 2)))
 (.seq (.block 3 (.draw [(⟨(some 84), none, .move (.t 13)⟩, []),
  (⟨(some 85), none, .move (.t 0)⟩, []),
  (⟨(some 86), none, .move (.t 14)⟩, []),
  (⟨(some 87), none, .idxAddrS 1 (.t 85) (.t 86)⟩, []),
  (⟨(some 88), none, .load false 1 (.t 87)⟩, []),
  (⟨(some 89), none, .move (.t 0)⟩, []),
  (⟨(some 90), none, .move (.t 14)⟩, []),
  (⟨(some 91), none, .idxAddrS 1 (.t 89) (.t 90)⟩, []),
  (⟨(some 92), none, .load false 1 (.t 91)⟩, []),
  (⟨(some 93), none, .buildSlice 32 [.nilslice, .nilslice] 1 2 [(0, (.t 88)), (1, (.t 92))]⟩, []),
  (⟨(some 94), none, .append .slice 32 1 24 [.nilslice] (.t 84) (.t 93)⟩, []),
  (⟨(some 13), none, .move (.t 94)⟩, [])]))
 (.reg [⟨(some 82), none, .move (.t 14)⟩,
  ⟨(some 83), none, .bin .add .num (.t 82) (.k (.int .i64 1))⟩,
  ⟨(some 14), none, .move (.t 83)⟩]))))))
 (.seq (.reg [⟨(some 96), none, .move (.t 13)⟩,
  ⟨(some 97), none, .callv (.k (.func 6 [] [])) [(.t 96)]⟩,
  ⟨(some 95), none, .move (.t 97)⟩,
  ⟨(some 98), none, .extract (.t 95) 0⟩,
  ⟨(some 99), none, .extract (.t 95) 1⟩,
  ⟨(some 15), none, .move (.t 98)⟩,
  ⟨(some 16), none, .move (.t 99)⟩])
 (.seq (.reg [⟨(some 100), none, .move (.t 16)⟩,
  ⟨(some 101), none, .bin .neq .num (.t 100) (.k (.int .i64 0))⟩,
  ⟨(some 102), none, .move (.t 101)⟩,
  ⟨(some 103), some (102, true), .move (.t 6)⟩,
  ⟨(some 104), some (102, true), .len false (.t 103)⟩,
  ⟨(some 105), some (102, true), .bin .lss .num (.t 104) (.k (.int .i64 524288))⟩,
  ⟨(some 106), none, .pick (.t 102) (.t 105) (.k (.bool false))⟩,
  ⟨(some 107), none, .move (.t 106)⟩,
  ⟨(some 108), some (107, false), .move (.t 16)⟩,
  ⟨(some 109), some (107, false), .bin .eql .num (.t 108) (.k (.int .i64 0))⟩,
  ⟨(some 110), some (107, false), .move (.t 109)⟩,
  ⟨(some 111), some (110, true), .move (.t 15)⟩,
  ⟨(some 112), some (110, true), .len false (.t 111)⟩,
  ⟨(some 113), some (110, true), .move (.t 6)⟩,
  ⟨(some 114), some (110, true), .len false (.t 113)⟩,
  ⟨(some 115), some (110, true), .move (.t 0)⟩,
  ⟨(some 116), some (110, true), .len false (.t 115)⟩,
  ⟨(some 117), some (110, true), .bin .mul .num (.k (.int .i64 16)) (.t 116)⟩,
  ⟨(some 118), some (110, true), .bin .add .num (.t 114) (.t 117)⟩,
  ⟨(some 119), some (110, true), .bin .add .num (.t 118) (.k (.int .i64 1))⟩,
  ⟨(some 120), some (110, true), .bin .gtr .num (.t 112) (.t 119)⟩,
  ⟨(some 121), some (107, false), .pick (.t 110) (.t 120) (.k (.bool false))⟩,
  ⟨(some 122), none, .pick (.t 107) (.k (.bool true)) (.t 121)⟩])
 (.cond (.t 122) (.seq (.reg [⟨(some 4), none, .move (.k (.bool false))⟩])
 (.ret))
 (.skip)))))))))
 (.skip)))
 (.seq (.reg [⟨(some 124), none, .move (.t 1)⟩,
  ⟨(some 125), none, .callv (.k (.func 7 [] [])) [(.t 124)]⟩,
  ⟨(some 123), none, .move (.t 125)⟩,
  ⟨(some 126), none, .extract (.t 123) 0⟩,
  ⟨(some 127), none, .extract (.t 123) 1⟩,
  ⟨(some 17), none, .move (.t 126)⟩,
  ⟨(some 18), none, .move (.t 127)⟩])
 (.seq (.seq (.reg [⟨(some 128), none, .move (.t 18)⟩,
  ⟨(some 129), none, .bin .neq .num (.t 128) (.k (.int .i64 0))⟩])
 (.cond (.t 129) (.seq (.reg [⟨(some 130), none, .move (.t 5)⟩,
  ⟨(some 131), none, .move (.t 130)⟩,
  ⟨(some 132), some (131, true), .move (.t 17)⟩,
  ⟨(some 133), some (131, true), .len false (.t 132)⟩,
  ⟨(some 134), some (131, true), .bin .eql .num (.t 133) (.k (.int .i64 0))⟩,
  ⟨(some 135), none, .pick (.t 131) (.t 134) (.k (.bool false))⟩,
  ⟨(some 4), none, .move (.t 135)⟩])
 (.ret))
 (.skip)))
 (.seq (.reg [⟨(some 137), none, .move (.t 17)⟩,
  ⟨(some 138), none, .callv (.k (.func 6 [] [])) [(.t 137)]⟩,
  ⟨(some 136), none, .move (.t 138)⟩,
  ⟨(some 139), none, .extract (.t 136) 0⟩,
  ⟨(some 140), none, .extract (.t 136) 1⟩,
  ⟨(some 19), none, .move (.t 139)⟩,
  ⟨(some 20), none, .move (.t 140)⟩])
 (.seq (.reg [⟨(some 141), none, .move (.t 5)⟩,
  ⟨(some 142), none, .move (.t 141)⟩,
  ⟨(some 143), some (142, true), .move (.t 20)⟩,
  ⟨(some 144), some (142, true), .bin .eql .num (.t 143) (.k (.int .i64 0))⟩,
  ⟨(some 145), none, .pick (.t 142) (.t 144) (.k (.bool false))⟩,
  ⟨(some 146), none, .move (.t 145)⟩,
  ⟨(some 147), some (146, true), .move (.t 19)⟩,
  ⟨(some 148), some (146, true), .conv .b2s (.t 147)⟩,
  ⟨(some 149), some (146, true), .move (.t 1)⟩,
  ⟨(some 150), some (146, true), .conv .b2s (.t 149)⟩,
  ⟨(some 151), some (146, true), .bin .eql .num (.t 148) (.t 150)⟩,
  ⟨(some 152), none, .pick (.t 146) (.t 151) (.k (.bool false))⟩,
  ⟨(some 4), none, .move (.t 152)⟩])
 (.ret))))))))))
def af5 : AFun := .body 25 [.tmp 2] false (.seq (.reg [⟨(some 2), none, .move (.k (.int .i64 0))⟩])
 (.seq (.reg [⟨(some 5), none, .move (.t 0)⟩,
  ⟨(some 6), none, .len false (.t 5)⟩,
  ⟨(some 3), none, .move (.t 6)⟩])
 (.seq (.seq (.reg [⟨(some 4), none, .move (.k (.int .i64 0))⟩])
 (.block 0 (.loop (.seq (.seq (.reg [⟨(some 7), none, .move (.t 4)⟩,
  ⟨(some 8), none, .move (.t 0)⟩,
  ⟨(some 9), none, .len false (.t 8)⟩,
  ⟨(some 10), none, .bin .lss .num (.t 7) (.t 9)⟩,
  ⟨(some 11), none, .move (.t 10)⟩,
  ⟨(some 12), some (11, true), .move (.t 3)⟩,
  ⟨(some 13), some (11, true), .bin .leq .num (.t 12) (.k (.int .i64 3000))⟩,
  ⟨(some 14), none, .pick (.t 11) (.t 13) (.k (.bool false))⟩])
 (.cond (.t 14) (.skip)
 (.exit 0)))
 (.seq (.block 1 (.reg [⟨(some 17), none, .move (.t 3)⟩,
  ⟨(some 18), none, .move (.t 0)⟩,
  ⟨(some 19), none, .move (.t 4)⟩,
  ⟨(some 20), none, .idxAddrS 1 (.t 18) (.t 19)⟩,
  ⟨(some 21), none, .load false 1 (.t 20)⟩,
  ⟨(some 22), none, .callv (.k (.func 17 [] [])) [(.t 21)]⟩,
  ⟨(some 23), none, .bin .add .num (.t 17) (.t 22)⟩,
  ⟨(some 3), none, .move (.t 23)⟩]))
 (.reg [⟨(some 15), none, .move (.t 4)⟩,
  ⟨(some 16), none, .bin .add .num (.t 15) (.k (.int .i64 1))⟩,
  ⟨(some 4), none, .move (.t 16)⟩]))))))
 (.seq (.reg [⟨(some 24), none, .move (.t 3)⟩,
  ⟨(some 2), none, .move (.t 24)⟩])
 (.ret)))))
def af6 : AFun := .body 59 [.tmp 2, .tmp 3] false (.seq (.reg [⟨(some 2), none, .move (.k .nilslice)⟩,
  ⟨(some 3), none, .move (.k (.int .i64 0))⟩])
 (.seq (.reg [⟨(some 11), none, .build [.nilslice, (.int .i64 0), (.int .i8 0)] []⟩,
  ⟨(some 12), none, .box 75 (.t 11)⟩,
  ⟨(some 4), none, .move (.t 12)⟩])
 (.seq (.reg [⟨(some 13), none, .move (.t 4)⟩,
  ⟨(some 14), none, .move (.t 0)⟩,
  ⟨(some 15), none, .len false (.t 14)⟩,
  ⟨(some 16), none, .buildSlice 3 [(.int .i64 0)] 1 1 [(0, (.t 15))]⟩,
  ⟨(some 17), none, .callv (.k (.func 18 [] [])) [(.t 13), (.t 16)]⟩])
 (.seq (.reg [⟨(some 5), none, .move (.k .nilslice)⟩])
 (.seq (.seq (.reg [⟨(some 18), none, .move (.t 0)⟩,
  ⟨(some 19), none, .len false (.t 18)⟩,
  ⟨(some 20), none, .move (.k (.int .i64 0))⟩])
 (.block 0 (.loop (.seq (.reg [⟨(some 21), none, .bin .lss .num (.t 20) (.t 19)⟩])
 (.seq (.cond (.t 21) (.skip)
 (.exit 0))
 (.seq (.block 1 (.seq (.reg [⟨(some 22), none, .idxAddrS 1 (.t 18) (.t 20)⟩,
  ⟨(some 23), none, .load false 1 (.t 22)⟩,
  ⟨(some 7), none, .move (.t 23)⟩])
 (.seq (.seq (.reg [⟨(some 24), none, .move (.t 7)⟩,
  ⟨(some 25), none, .len false (.t 24)⟩,
  ⟨(some 26), none, .bin .gtr .num (.t 25) (.k (.int .i64 20))⟩])
 (.cond (.t 26) (.seq (.reg [⟨(some 2), none, .move (.k .nilslice)⟩,
  ⟨(some 3), none, .move (.k (.int .i64 2))⟩])
 (.ret))
 (.skip)))
 (.seq (.reg [⟨(some 27), none, .move (.t 5)⟩,
  ⟨(some 28), none, .move (.t 7)⟩,
  ⟨(some 29), none, .callv (.k (.func 16 [] [])) [(.t 27), (.t 28)]⟩,
  ⟨(some 8), none, .move (.t 29)⟩])
 (.seq (.reg [⟨(some 30), none, .move (.t 4)⟩,
  ⟨(some 31), none, .move (.t 7)⟩,
  ⟨(some 32), none, .len false (.t 31)⟩,
  ⟨(some 33), none, .move (.t 8)⟩,
  ⟨(some 34), none, .buildSlice 3 [(.int .i64 0), (.int .i64 0)] 1 2 [(0, (.t 32)), (1, (.t 33))]⟩,
  ⟨(some 35), none, .callv (.k (.func 18 [] [])) [(.t 30), (.t 34)]⟩])
 (.seq (.seq (.reg [⟨(some 36), none, .move (.t 7)⟩,
  ⟨(some 37), none, .move (.t 8)⟩,
  ⟨(some 38), none, .sliceSl 18 (.t 36) (some (.t 37)) none none⟩,
  ⟨(some 39), none, .len false (.t 38)⟩,
  ⟨(some 40), none, .move (.k (.int .i64 0))⟩])
 (.block 2 (.loop (.seq (.reg [⟨(some 41), none, .bin .lss .num (.t 40) (.t 39)⟩])
 (.seq (.cond (.t 41) (.skip)
 (.exit 2))
 (.seq (.block 3 (.seq (.reg [⟨(some 42), none, .idxAddrS 18 (.t 38) (.t 40)⟩,
  ⟨(some 43), none, .load true 18 (.t 42)⟩,
  ⟨(some 10), none, .alloc 64 [(.int .i64 0), (.int .i64 0), (.int .i64 0), (.int .i64 0), (.int .i64 0), (.int .i64 0), (.int .i64 0), (.str []), (.int .i64 0), (.int .i64 0), (.int .i64 0), (.int .i64 0), (.int .i64 0), (.str []), .nilslice, .nilslice, (.int .i64 0), (.int .i64 0)]⟩,
  ⟨none, none, .store 18 (.t 10) (.t 43)⟩])
 (.reg [⟨(some 44), none, .move (.t 4)⟩,
  ⟨(some 45), none, .load true 18 (.t 10)⟩,
  ⟨(some 46), none, .callv (.k (.func 19 [] [])) [(.t 44), (.t 45)]⟩])))
 (.reg [⟨(some 47), none, .bin .add .num (.t 40) (.k (.int .i64 1))⟩,
  ⟨(some 40), none, .move (.t 47)⟩])))))))
 (.seq (.seq (.reg [⟨(some 48), none, .move (.t 4)⟩,
  ⟨(some 49), none, .nilCheck (.t 48)⟩,
  ⟨(some 50), none, .fieldAddr 0 (.t 49)⟩,
  ⟨(some 51), none, .callv (.k (.func 20 [] [])) [(.t 50)]⟩,
  ⟨(some 52), none, .bin .gtr .num (.t 51) (.k (.int .i64 1048576))⟩])
 (.cond (.t 52) (.seq (.reg [⟨(some 2), none, .move (.k .nilslice)⟩,
  ⟨(some 3), none, .move (.k (.int .i64 2))⟩])
 (.ret))
 (.skip)))
 (.reg [⟨(some 53), none, .move (.t 7)⟩,
  ⟨(some 5), none, .move (.t 53)⟩]))))))))
 (.reg [⟨(some 54), none, .bin .add .num (.t 20) (.k (.int .i64 1))⟩,
  ⟨(some 20), none, .move (.t 54)⟩])))))))
 (.seq (.reg [⟨(some 55), none, .move (.t 4)⟩,
  ⟨(some 56), none, .nilCheck (.t 55)⟩,
  ⟨(some 57), none, .fieldAddr 0 (.t 56)⟩,
  ⟨(some 58), none, .callv (.k (.func 21 [] [])) [(.t 57)]⟩,
  ⟨(some 2), none, .move (.t 58)⟩,
  ⟨(some 3), none, .move (.k (.int .i64 0))⟩])
 (.ret)))))))
def af7 : AFun := .body 27 [.cell 2 false 1, .cell 3 false 1] false (.seq (.reg [⟨(some 2), none, .alloc 22 [.nilslice]⟩,
  ⟨(some 3), none, .alloc 26 [(.int .i64 0)]⟩])
 (.seq (.reg [⟨(some 7), none, .mkFunc 22 [] [(.t 2), (.t 3)]⟩,
  ⟨none, none, .deferv (.t 7) []⟩])
 (.seq (.reg [⟨(some 8), none, .move (.t 0)⟩,
  ⟨(some 9), none, .build [.nilslice] [(0, 1, (.t 8))]⟩,
  ⟨(some 10), none, .box 84 (.t 9)⟩,
  ⟨(some 4), none, .move (.t 10)⟩])
 (.seq (.reg [⟨(some 11), none, .move (.t 4)⟩,
  ⟨(some 12), none, .callv (.k (.func 23 [] [])) [(.t 11)]⟩,
  ⟨none, none, .store 1 (.t 2) (.t 12)⟩])
 (.seq (.reg [⟨(some 14), none, .load false 1 (.t 2)⟩,
  ⟨(some 15), none, .callv (.k (.func 6 [] [])) [(.t 14)]⟩,
  ⟨(some 13), none, .move (.t 15)⟩,
  ⟨(some 16), none, .extract (.t 13) 0⟩,
  ⟨(some 17), none, .extract (.t 13) 1⟩,
  ⟨(some 5), none, .move (.t 16)⟩,
  ⟨(some 6), none, .move (.t 17)⟩])
 (.seq (.reg [⟨(some 18), none, .move (.t 6)⟩,
  ⟨(some 19), none, .bin .eql .num (.t 18) (.k (.int .i64 0))⟩,
  ⟨(some 20), none, .move (.t 19)⟩,
  ⟨(some 21), some (20, true), .move (.t 5)⟩,
  ⟨(some 22), some (20, true), .move (.t 0)⟩,
  ⟨(some 23), some (20, true), .callv (.k (.func 25 [] [])) [(.t 21), (.t 22)]⟩,
  ⟨(some 24), none, .pick (.t 20) (.t 23) (.k (.bool false))⟩,
  ⟨(some 25), none, .callv (.k (.func 24 [] [])) [(.t 24)]⟩])
 (.seq (.reg [⟨(some 26), none, .load false 1 (.t 2)⟩,
  ⟨none, none, .store 1 (.t 2) (.t 26)⟩,
  ⟨none, none, .store 1 (.t 3) (.k (.int .i64 0))⟩])
 (.ret))))))))
def af8 : AFun := .body 27 [.tmp 4] false (.seq (.reg [⟨(some 4), none, .move (.k (.bool false))⟩])
 (.seq (.seq (.reg [⟨(some 6), none, .move (.t 0)⟩,
  ⟨(some 7), none, .len false (.t 6)⟩,
  ⟨(some 8), none, .move (.t 1)⟩,
  ⟨(some 9), none, .len false (.t 8)⟩,
  ⟨(some 10), none, .bin .neq .num (.t 7) (.t 9)⟩])
 (.cond (.t 10) (.seq (.reg [⟨(some 4), none, .move (.k (.bool false))⟩])
 (.ret))
 (.skip)))
 (.seq (.seq (.reg [⟨(some 5), none, .move (.k (.int .i64 0))⟩])
 (.block 0 (.loop (.seq (.seq (.reg [⟨(some 11), none, .move (.t 5)⟩,
  ⟨(some 12), none, .move (.t 0)⟩,
  ⟨(some 13), none, .len false (.t 12)⟩,
  ⟨(some 14), none, .bin .lss .num (.t 11) (.t 13)⟩])
 (.cond (.t 14) (.skip)
 (.exit 0)))
 (.seq (.block 1 (.seq (.draw [(⟨(some 17), none, .move (.t 0)⟩, []),
  (⟨(some 18), none, .move (.t 5)⟩, []),
  (⟨(some 19), none, .idxAddrS 1 (.t 17) (.t 18)⟩, []),
  (⟨(some 20), none, .load false 1 (.t 19)⟩, []),
  (⟨(some 21), none, .move (.t 1)⟩, []),
  (⟨(some 22), none, .move (.t 5)⟩, []),
  (⟨(some 23), none, .idxAddrS 1 (.t 21) (.t 22)⟩, []),
  (⟨(some 24), none, .load false 1 (.t 23)⟩, []),
  (⟨(some 25), none, .callv (.k (.func 10 [] [])) [(.t 20), (.t 24)]⟩, []),
  (⟨(some 26), none, .un .not (.t 25)⟩, [])])
 (.cond (.t 26) (.seq (.reg [⟨(some 4), none, .move (.k (.bool false))⟩])
 (.ret))
 (.skip))))
 (.reg [⟨(some 15), none, .move (.t 5)⟩,
  ⟨(some 16), none, .bin .add .num (.t 15) (.k (.int .i64 1))⟩,
  ⟨(some 5), none, .move (.t 16)⟩]))))))
 (.seq (.reg [⟨(some 4), none, .move (.k (.bool true))⟩])
 (.ret)))))
def af9 : AFun := .body 28 [.tmp 4, .tmp 5] false (.seq (.reg [⟨(some 4), none, .move (.k .nilslice)⟩,
  ⟨(some 5), none, .move (.k (.int .i64 0))⟩])
 (.seq (.reg [⟨(some 9), none, .move (.t 0)⟩,
  ⟨(some 10), none, .callv (.k (.func 7 [] [])) [(.t 9)]⟩,
  ⟨(some 8), none, .move (.t 10)⟩,
  ⟨(some 11), none, .extract (.t 8) 0⟩,
  ⟨(some 12), none, .extract (.t 8) 1⟩,
  ⟨(some 6), none, .move (.t 11)⟩,
  ⟨(some 7), none, .move (.t 12)⟩])
 (.seq (.seq (.reg [⟨(some 13), none, .move (.t 7)⟩,
  ⟨(some 14), none, .bin .neq .num (.t 13) (.k (.int .i64 0))⟩])
 (.cond (.t 14) (.seq (.reg [⟨(some 15), none, .move (.t 7)⟩,
  ⟨(some 4), none, .move (.k .nilslice)⟩,
  ⟨(some 5), none, .move (.t 15)⟩])
 (.ret))
 (.skip)))
 (.seq (.seq (.reg [⟨(some 16), none, .move (.t 1)⟩,
  ⟨(some 17), none, .bin .lss .num (.t 16) (.k (.int .i64 0))⟩,
  ⟨(some 18), none, .move (.t 17)⟩,
  ⟨(some 19), some (18, false), .move (.t 1)⟩,
  ⟨(some 20), some (18, false), .move (.t 6)⟩,
  ⟨(some 21), some (18, false), .len false (.t 20)⟩,
  ⟨(some 22), some (18, false), .bin .geq .num (.t 19) (.t 21)⟩,
  ⟨(some 23), none, .pick (.t 18) (.k (.bool true)) (.t 22)⟩])
 (.cond (.t 23) (.seq (.reg [⟨(some 4), none, .move (.k .nilslice)⟩,
  ⟨(some 5), none, .move (.k (.int .i64 3))⟩])
 (.ret))
 (.skip)))
 (.seq (.reg [⟨(some 24), none, .move (.t 6)⟩,
  ⟨(some 25), none, .move (.t 1)⟩,
  ⟨(some 26), none, .idxAddrS 1 (.t 24) (.t 25)⟩,
  ⟨(some 27), none, .load false 1 (.t 26)⟩,
  ⟨(some 4), none, .move (.t 27)⟩,
  ⟨(some 5), none, .move (.k (.int .i64 0))⟩])
 (.ret))))))
def af10 : AFun := .body 83 [.tmp 4] false (.seq (.reg [⟨(some 4), none, .move (.k (.bool false))⟩])
 (.seq (.seq (.reg [⟨(some 8), none, .move (.t 0)⟩,
  ⟨(some 9), none, .len false (.t 8)⟩,
  ⟨(some 10), none, .move (.t 1)⟩,
  ⟨(some 11), none, .len false (.t 10)⟩,
  ⟨(some 12), none, .bin .neq .num (.t 9) (.t 11)⟩])
 (.cond (.t 12) (.seq (.reg [⟨(some 4), none, .move (.k (.bool false))⟩])
 (.ret))
 (.skip)))
 (.seq (.seq (.reg [⟨(some 5), none, .move (.k (.int .i64 0))⟩])
 (.block 0 (.loop (.seq (.seq (.reg [⟨(some 13), none, .move (.t 5)⟩,
  ⟨(some 14), none, .move (.t 0)⟩,
  ⟨(some 15), none, .len false (.t 14)⟩,
  ⟨(some 16), none, .bin .lss .num (.t 13) (.t 15)⟩])
 (.cond (.t 16) (.skip)
 (.exit 0)))
 (.seq (.block 1 (.seq (.reg [⟨(some 19), none, .move (.t 0)⟩,
  ⟨(some 20), none, .move (.t 5)⟩,
  ⟨(some 21), none, .idxAddrS 18 (.t 19) (.t 20)⟩,
  ⟨(some 22), none, .load true 18 (.t 21)⟩,
  ⟨(some 6), none, .alloc 64 [(.int .i64 0), (.int .i64 0), (.int .i64 0), (.int .i64 0), (.int .i64 0), (.int .i64 0), (.int .i64 0), (.str []), (.int .i64 0), (.int .i64 0), (.int .i64 0), (.int .i64 0), (.int .i64 0), (.str []), .nilslice, .nilslice, (.int .i64 0), (.int .i64 0)]⟩,
  ⟨none, none, .store 18 (.t 6) (.t 22)⟩])
 (.seq (.reg [⟨(some 23), none, .move (.t 1)⟩,
  ⟨(some 24), none, .move (.t 5)⟩,
  ⟨(some 25), none, .idxAddrS 18 (.t 23) (.t 24)⟩,
  ⟨(some 26), none, .load true 18 (.t 25)⟩,
  ⟨(some 7), none, .alloc 64 [(.int .i64 0), (.int .i64 0), (.int .i64 0), (.int .i64 0), (.int .i64 0), (.int .i64 0), (.int .i64 0), (.str []), (.int .i64 0), (.int .i64 0), (.int .i64 0), (.int .i64 0), (.int .i64 0), (.str []), .nilslice, .nilslice, (.int .i64 0), (.int .i64 0)]⟩,
  ⟨none, none, .store 18 (.t 7) (.t 26)⟩])
 (.seq (.reg [⟨(some 27), none, .fieldAddr 0 (.t 6)⟩,
  ⟨(some 28), none, .load false 1 (.t 27)⟩,
  ⟨(some 29), none, .fieldAddr 0 (.t 7)⟩,
  ⟨(some 30), none, .load false 1 (.t 29)⟩,
  ⟨(some 31), none, .bin .neq .num (.t 28) (.t 30)⟩,
  ⟨(some 32), none, .move (.t 31)⟩,
  ⟨(some 33), some (32, false), .fieldAddr 1 (.t 6)⟩,
  ⟨(some 34), some (32, false), .load false 1 (.t 33)⟩,
  ⟨(some 35), some (32, false), .fieldAddr 1 (.t 7)⟩,
  ⟨(some 36), some (32, false), .load false 1 (.t 35)⟩,
  ⟨(some 37), some (32, false), .bin .neq .num (.t 34) (.t 36)⟩,
  ⟨(some 38), none, .pick (.t 32) (.k (.bool true)) (.t 37)⟩,
  ⟨(some 39), none, .move (.t 38)⟩,
  ⟨(some 40), some (39, false), .fieldAddr 2 (.t 6)⟩,
  ⟨(some 41), some (39, false), .load true 6 (.t 40)⟩,
  ⟨(some 42), some (39, false), .fieldAddr 2 (.t 7)⟩,
  ⟨(some 43), some (39, false), .load true 6 (.t 42)⟩,
  ⟨(some 44), some (39, false), .bin .neq (.flat [.int, .int, .int, .int, .int, .str]) (.t 41) (.t 43)⟩,
  ⟨(some 45), none, .pick (.t 39) (.k (.bool true)) (.t 44)⟩,
  ⟨(some 46), none, .move (.t 45)⟩,
  ⟨(some 47), some (46, false), .fieldAddr 8 (.t 6)⟩,
  ⟨(some 48), some (46, false), .load true 6 (.t 47)⟩,
  ⟨(some 49), some (46, false), .fieldAddr 8 (.t 7)⟩,
  ⟨(some 50), some (46, false), .load true 6 (.t 49)⟩,
  ⟨(some 51), some (46, false), .bin .neq (.flat [.int, .int, .int, .int, .int, .str]) (.t 48) (.t 50)⟩,
  ⟨(some 52), none, .pick (.t 46) (.k (.bool true)) (.t 51)⟩,
  ⟨(some 53), none, .move (.t 52)⟩,
  ⟨(some 54), some (53, false), .fieldAddr 16 (.t 6)⟩,
  ⟨(some 55), some (53, false), .load false 1 (.t 54)⟩,
  ⟨(some 56), some (53, false), .fieldAddr 16 (.t 7)⟩,
  ⟨(some 57), some (53, false), .load false 1 (.t 56)⟩,
  ⟨(some 58), some (53, false), .bin .neq .num (.t 55) (.t 57)⟩,
  ⟨(some 59), none, .pick (.t 53) (.k (.bool true)) (.t 58)⟩,
  ⟨(some 60), none, .move (.t 59)⟩,
  ⟨(some 61), some (60, false), .fieldAddr 17 (.t 6)⟩,
  ⟨(some 62), some (60, false), .load false 1 (.t 61)⟩,
  ⟨(some 63), some (60, false), .fieldAddr 17 (.t 7)⟩,
  ⟨(some 64), some (60, false), .load false 1 (.t 63)⟩,
  ⟨(some 65), some (60, false), .bin .neq .num (.t 62) (.t 64)⟩,
  ⟨(some 66), none, .pick (.t 60) (.k (.bool true)) (.t 65)⟩,
  ⟨(some 67), none, .move (.t 66)⟩,
  ⟨(some 68), some (67, false), .fieldAddr 14 (.t 6)⟩,
  ⟨(some 69), some (67, false), .load false 1 (.t 68)⟩,
  ⟨(some 70), some (67, false), .fieldAddr 14 (.t 7)⟩,
  ⟨(some 71), some (67, false), .load false 1 (.t 70)⟩,
  ⟨(some 72), some (67, false), .callv (.k (.func 26 [] [])) [(.t 69), (.t 71)]⟩,
  ⟨(some 73), some (67, false), .un .not (.t 72)⟩,
  ⟨(some 74), none, .pick (.t 67) (.k (.bool true)) (.t 73)⟩,
  ⟨(some 75), none, .move (.t 74)⟩,
  ⟨(some 76), some (75, false), .fieldAddr 15 (.t 6)⟩,
  ⟨(some 77), some (75, false), .load false 1 (.t 76)⟩,
  ⟨(some 78), some (75, false), .fieldAddr 15 (.t 7)⟩,
  ⟨(some 79), some (75, false), .load false 1 (.t 78)⟩,
  ⟨(some 80), some (75, false), .callv (.k (.func 26 [] [])) [(.t 77), (.t 79)]⟩,
  ⟨(some 81), some (75, false), .un .not (.t 80)⟩,
  ⟨(some 82), none, .pick (.t 75) (.k (.bool true)) (.t 81)⟩])
 (.cond (.t 82) (.seq (.reg [⟨(some 4), none, .move (.k (.bool false))⟩])
 (.ret))
 (.skip))))))
 (.reg [⟨(some 17), none, .move (.t 5)⟩,
  ⟨(some 18), none, .bin .add .num (.t 17) (.k (.int .i64 1))⟩,
  ⟨(some 5), none, .move (.t 18)⟩]))))))
 (.seq (.reg [⟨(some 4), none, .move (.k (.bool true))⟩])
 (.ret)))))
def af16 : AFun := .body 30 [.tmp 4] false (.seq (.reg [⟨(some 4), none, .move (.k (.int .i64 0))⟩])
 (.seq (.reg [⟨(some 5), none, .move (.k (.int .i64 0))⟩])
 (.seq (.block 0 (.loop (.seq (.seq (.draw [(⟨(some 6), none, .move (.t 5)⟩, []),
  (⟨(some 7), none, .move (.t 0)⟩, []),
  (⟨(some 8), none, .len false (.t 7)⟩, []),
  (⟨(some 9), none, .bin .lss .num (.t 6) (.t 8)⟩, []),
  (⟨(some 10), none, .move (.t 9)⟩, []),
  (⟨(some 11), some (10, true), .move (.t 5)⟩, []),
  (⟨(some 12), some (10, true), .move (.t 1)⟩, []),
  (⟨(some 13), some (10, true), .len false (.t 12)⟩, []),
  (⟨(some 14), some (10, true), .bin .lss .num (.t 11) (.t 13)⟩, []),
  (⟨(some 15), none, .pick (.t 10) (.t 14) (.k (.bool false))⟩, []),
  (⟨(some 16), none, .move (.t 15)⟩, []),
  (⟨(some 17), some (16, true), .move (.t 0)⟩, []),
  (⟨(some 18), some (16, true), .move (.t 5)⟩, []),
  (⟨(some 19), some (16, true), .idxAddrS 18 (.t 17) (.t 18)⟩, []),
  (⟨(some 20), some (16, true), .load true 18 (.t 19)⟩, []),
  (⟨(some 21), some (16, true), .move (.t 1)⟩, []),
  (⟨(some 22), some (16, true), .move (.t 5)⟩, []),
  (⟨(some 23), some (16, true), .idxAddrS 18 (.t 21) (.t 22)⟩, []),
  (⟨(some 24), some (16, true), .load true 18 (.t 23)⟩, []),
  (⟨(some 25), some (16, true), .callv (.k (.func 46 [] [])) [(.t 20), (.t 24)]⟩, []),
  (⟨(some 26), none, .pick (.t 16) (.t 25) (.k (.bool false))⟩, [])])
 (.cond (.t 26) (.skip)
 (.exit 0)))
 (.block 1 (.reg [⟨(some 27), none, .move (.t 5)⟩,
  ⟨(some 28), none, .bin .add .num (.t 27) (.k (.int .i64 1))⟩,
  ⟨(some 5), none, .move (.t 28)⟩])))))
 (.seq (.reg [⟨(some 29), none, .move (.t 5)⟩,
  ⟨(some 4), none, .move (.t 29)⟩])
 (.ret)))))
def af17 : AFun := .body 29 [.tmp 2] false (.seq (.reg [⟨(some 2), none, .move (.k (.int .i64 0))⟩])
 (.seq (.reg [⟨(some 5), none, .move (.t 0)⟩,
  ⟨(some 6), none, .len false (.t 5)⟩,
  ⟨(some 3), none, .move (.t 6)⟩])
 (.seq (.seq (.reg [⟨(some 4), none, .move (.k (.int .i64 0))⟩])
 (.block 0 (.loop (.seq (.seq (.reg [⟨(some 7), none, .move (.t 4)⟩,
  ⟨(some 8), none, .move (.t 0)⟩,
  ⟨(some 9), none, .len false (.t 8)⟩,
  ⟨(some 10), none, .bin .lss .num (.t 7) (.t 9)⟩])
 (.cond (.t 10) (.skip)
 (.exit 0)))
 (.seq (.block 1 (.draw [(⟨(some 13), none, .move (.t 3)⟩, []),
  (⟨(some 14), none, .move (.t 0)⟩, []),
  (⟨(some 15), none, .move (.t 4)⟩, []),
  (⟨(some 16), none, .idxAddrS 18 (.t 14) (.t 15)⟩, []),
  (⟨(some 17), none, .fieldAddr 14 (.t 16)⟩, []),
  (⟨(some 18), none, .load false 1 (.t 17)⟩, []),
  (⟨(some 19), none, .len false (.t 18)⟩, []),
  (⟨(some 20), none, .move (.t 0)⟩, []),
  (⟨(some 21), none, .move (.t 4)⟩, []),
  (⟨(some 22), none, .idxAddrS 18 (.t 20) (.t 21)⟩, []),
  (⟨(some 23), none, .fieldAddr 15 (.t 22)⟩, []),
  (⟨(some 24), none, .load false 1 (.t 23)⟩, []),
  (⟨(some 25), none, .len false (.t 24)⟩, []),
  (⟨(some 26), none, .bin .add .num (.t 19) (.t 25)⟩, []),
  (⟨(some 27), none, .bin .add .num (.t 13) (.t 26)⟩, []),
  (⟨(some 3), none, .move (.t 27)⟩, [])]))
 (.reg [⟨(some 11), none, .move (.t 4)⟩,
  ⟨(some 12), none, .bin .add .num (.t 11) (.k (.int .i64 1))⟩,
  ⟨(some 4), none, .move (.t 12)⟩]))))))
 (.seq (.reg [⟨(some 28), none, .move (.t 3)⟩,
  ⟨(some 2), none, .move (.t 28)⟩])
 (.ret)))))
def af18 : AFun := .body 23 [] false (.seq (.reg [⟨(some 6), none, .move (.t 1)⟩,
  ⟨(some 7), none, .len false (.t 6)⟩,
  ⟨(some 8), none, .move (.k (.int .i64 0))⟩])
 (.block 0 (.loop (.seq (.reg [⟨(some 9), none, .bin .lss .num (.t 8) (.t 7)⟩])
 (.seq (.cond (.t 9) (.skip)
 (.exit 0))
 (.seq (.block 1 (.seq (.reg [⟨(some 10), none, .idxAddrS 1 (.t 6) (.t 8)⟩,
  ⟨(some 11), none, .load false 1 (.t 10)⟩,
  ⟨(some 5), none, .move (.t 11)⟩])
 (.seq (.draw [(⟨(some 12), none, .move (.t 0)⟩, []),
  (⟨(some 13), none, .nilCheck (.t 12)⟩, []),
  (⟨(some 14), none, .fieldAddr 0 (.t 13)⟩, []),
  (⟨(some 15), none, .move (.t 5)⟩, []),
  (⟨(some 16), none, .callv (.k (.func 45 [] [])) [(.t 15)]⟩, []),
  (⟨(some 17), none, .callv (.k (.func 47 [] [])) [(.t 14), (.t 16)]⟩, [])])
 (.reg [⟨(some 18), none, .move (.t 0)⟩,
  ⟨(some 19), none, .nilCheck (.t 18)⟩,
  ⟨(some 20), none, .fieldAddr 0 (.t 19)⟩,
  ⟨(some 21), none, .callv (.k (.func 48 [] [])) [(.t 20), (.k (.int .u8 59))]⟩]))))
 (.reg [⟨(some 22), none, .bin .add .num (.t 8) (.k (.int .i64 1))⟩,
  ⟨(some 8), none, .move (.t 22)⟩])))))))
def af19 : AFun := .body 38 [] false (.seq (.reg [⟨(some 3), none, .box 64 (.t 1)⟩])
 (.seq (.reg [⟨(some 4), none, .move (.t 0)⟩,
  ⟨(some 5), none, .fieldAddr 0 (.t 3)⟩,
  ⟨(some 6), none, .load false 1 (.t 5)⟩,
  ⟨(some 7), none, .fieldAddr 1 (.t 3)⟩,
  ⟨(some 8), none, .load false 1 (.t 7)⟩,
  ⟨(some 9), none, .buildSlice 3 [(.int .i64 0), (.int .i64 0)] 1 2 [(0, (.t 6)), (1, (.t 8))]⟩,
  ⟨(some 10), none, .callv (.k (.func 18 [] [])) [(.t 4), (.t 9)]⟩])
 (.seq (.reg [⟨(some 11), none, .move (.t 0)⟩,
  ⟨(some 12), none, .fieldAddr 2 (.t 3)⟩,
  ⟨(some 13), none, .load true 6 (.t 12)⟩,
  ⟨(some 14), none, .callv (.k (.func 49 [] [])) [(.t 11), (.t 13)]⟩])
 (.seq (.reg [⟨(some 15), none, .move (.t 0)⟩,
  ⟨(some 16), none, .fieldAddr 8 (.t 3)⟩,
  ⟨(some 17), none, .load true 6 (.t 16)⟩,
  ⟨(some 18), none, .callv (.k (.func 49 [] [])) [(.t 15), (.t 17)]⟩])
 (.seq (.reg [⟨(some 19), none, .move (.t 0)⟩,
  ⟨(some 20), none, .fieldAddr 14 (.t 3)⟩,
  ⟨(some 21), none, .load false 1 (.t 20)⟩,
  ⟨(some 22), none, .move (.t 0)⟩,
  ⟨(some 23), none, .mkFunc 49 [(.t 22)] []⟩,
  ⟨(some 24), none, .callv (.k (.func 50 [] [])) [(.t 19), (.t 21), (.t 23)]⟩])
 (.seq (.reg [⟨(some 25), none, .move (.t 0)⟩,
  ⟨(some 26), none, .fieldAddr 15 (.t 3)⟩,
  ⟨(some 27), none, .load false 1 (.t 26)⟩,
  ⟨(some 28), none, .move (.t 0)⟩,
  ⟨(some 29), none, .mkFunc 49 [(.t 28)] []⟩,
  ⟨(some 30), none, .callv (.k (.func 50 [] [])) [(.t 25), (.t 27), (.t 29)]⟩])
 (.reg [⟨(some 31), none, .move (.t 0)⟩,
  ⟨(some 32), none, .fieldAddr 16 (.t 3)⟩,
  ⟨(some 33), none, .load false 1 (.t 32)⟩,
  ⟨(some 34), none, .fieldAddr 17 (.t 3)⟩,
  ⟨(some 35), none, .load false 1 (.t 34)⟩,
  ⟨(some 36), none, .buildSlice 3 [(.int .i64 0), (.int .i64 0)] 1 2 [(0, (.t 33)), (1, (.t 35))]⟩,
  ⟨(some 37), none, .callv (.k (.func 18 [] [])) [(.t 31), (.t 36)]⟩])))))))
def af20 : AFun := .body 13 [.tmp 2] false (.seq (.reg [⟨(some 2), none, .move (.k (.int .i64 0))⟩])
 (.seq (.draw [(⟨(some 3), none, .move (.t 0)⟩, []),
  (⟨(some 4), none, .nilCheck (.t 3)⟩, []),
  (⟨(some 5), none, .fieldAddr 0 (.t 4)⟩, []),
  (⟨(some 6), none, .load false 1 (.t 5)⟩, []),
  (⟨(some 7), none, .len false (.t 6)⟩, []),
  (⟨(some 8), none, .move (.t 0)⟩, []),
  (⟨(some 9), none, .nilCheck (.t 8)⟩, []),
  (⟨(some 10), none, .fieldAddr 1 (.t 9)⟩, []),
  (⟨(some 11), none, .load false 1 (.t 10)⟩, []),
  (⟨(some 12), none, .bin .sub .num (.t 7) (.t 11)⟩, []),
  (⟨(some 2), none, .move (.t 12)⟩, [])])
 (.ret)))
def af21 : AFun := .body 12 [.tmp 2] false (.seq (.reg [⟨(some 2), none, .move (.k .nilslice)⟩])
 (.seq (.draw [(⟨(some 3), none, .move (.t 0)⟩, []),
  (⟨(some 4), none, .nilCheck (.t 3)⟩, []),
  (⟨(some 5), none, .fieldAddr 0 (.t 4)⟩, []),
  (⟨(some 6), none, .load false 1 (.t 5)⟩, []),
  (⟨(some 7), none, .move (.t 0)⟩, []),
  (⟨(some 8), none, .nilCheck (.t 7)⟩, []),
  (⟨(some 9), none, .fieldAddr 1 (.t 8)⟩, []),
  (⟨(some 10), none, .load false 1 (.t 9)⟩, []),
  (⟨(some 11), none, .sliceSl 1 (.t 6) (some (.t 10)) none none⟩, []),
  (⟨(some 2), none, .move (.t 11)⟩, [])])
 (.ret)))
def af22 : AFun := .body 11 [] true (.seq (.reg [⟨(some 5), none, .recover⟩])
 (.block 0 (.seq (.reg [⟨(some 7), none, .bin .eql (.iface true oksT) (.t 5) (.k .niliface)⟩])
 (.cond (.t 7) (.reg [⟨(some 2), none, .move (.t 5)⟩])
 (.seq (.reg [⟨(some 8), none, .assertT 81 (.agg []) true (.t 5)⟩,
  ⟨(some 9), none, .extract (.t 8) 1⟩,
  ⟨(some 10), none, .extract (.t 8) 0⟩])
 (.cond (.t 9) (.seq (.reg [⟨(some 3), none, .alloc 81 []⟩,
  ⟨none, none, .store 0 (.t 3) (.t 10)⟩])
 (.reg [⟨none, none, .store 1 (.t 0) (.k .nilslice)⟩,
  ⟨none, none, .store 1 (.t 1) (.k (.int .i64 160))⟩]))
 (.seq (.reg [⟨(some 4), none, .move (.t 5)⟩])
 (.reg [⟨(some 6), none, .move (.t 4)⟩,
  ⟨none, none, .panic (.t 6)⟩]))))))))
def af23 : AFun := .body 63 [.tmp 2] false (.seq (.reg [⟨(some 2), none, .move (.k .nilslice)⟩])
 (.seq (.reg [⟨(some 3), none, .move (.k .nilslice)⟩])
 (.seq (.reg [⟨(some 4), none, .move (.k .nilslice)⟩])
 (.seq (.seq (.reg [⟨(some 8), none, .move (.t 0)⟩,
  ⟨(some 9), none, .callv (.k (.func 51 [] [])) [(.t 8)]⟩,
  ⟨(some 10), none, .move (.k (.int .i64 0))⟩])
 (.block 0 (.loop (.seq (.reg [⟨(some 11), none, .bin .lss .num (.t 10) (.t 9)⟩])
 (.seq (.cond (.t 11) (.skip)
 (.exit 0))
 (.seq (.block 1 (.seq (.reg [⟨(some 12), none, .move (.t 0)⟩,
  ⟨(some 13), none, .callv (.k (.func 52 [] [])) [(.t 12)]⟩,
  ⟨(some 5), none, .move (.t 13)⟩])
 (.seq (.reg [⟨(some 14), none, .move (.t 0)⟩,
  ⟨(some 15), none, .callv (.k (.func 52 [] [])) [(.t 14)]⟩,
  ⟨(some 6), none, .move (.t 15)⟩])
 (.seq (.reg [⟨(some 16), none, .move (.t 6)⟩,
  ⟨(some 17), none, .bin .geq .num (.t 16) (.k (.int .i64 0))⟩,
  ⟨(some 18), none, .move (.t 17)⟩,
  ⟨(some 19), some (18, true), .move (.t 6)⟩,
  ⟨(some 20), some (18, true), .move (.t 5)⟩,
  ⟨(some 21), some (18, true), .bin .leq .num (.t 19) (.t 20)⟩,
  ⟨(some 22), none, .pick (.t 18) (.t 21) (.k (.bool false))⟩,
  ⟨(some 23), none, .move (.t 22)⟩,
  ⟨(some 24), some (23, true), .move (.t 6)⟩,
  ⟨(some 25), some (23, true), .move (.t 4)⟩,
  ⟨(some 26), some (23, true), .len false (.t 25)⟩,
  ⟨(some 27), some (23, true), .bin .leq .num (.t 24) (.t 26)⟩,
  ⟨(some 28), none, .pick (.t 23) (.t 27) (.k (.bool false))⟩,
  ⟨(some 29), none, .move (.t 28)⟩,
  ⟨(some 30), some (29, true), .move (.t 5)⟩,
  ⟨(some 31), some (29, true), .move (.t 6)⟩,
  ⟨(some 32), some (29, true), .bin .sub .num (.t 30) (.t 31)⟩,
  ⟨(some 33), some (29, true), .move (.t 0)⟩,
  ⟨(some 34), some (29, true), .nilCheck (.t 33)⟩,
  ⟨(some 35), some (29, true), .fieldAddr 0 (.t 34)⟩,
  ⟨(some 36), some (29, true), .load false 1 (.t 35)⟩,
  ⟨(some 37), some (29, true), .len false (.t 36)⟩,
  ⟨(some 38), some (29, true), .bin .leq .num (.t 32) (.t 37)⟩,
  ⟨(some 39), none, .pick (.t 29) (.t 38) (.k (.bool false))⟩,
  ⟨(some 40), none, .callv (.k (.func 24 [] [])) [(.t 39)]⟩])
 (.seq (.reg [⟨(some 41), none, .move (.t 4)⟩,
  ⟨(some 42), none, .move (.t 6)⟩,
  ⟨(some 43), none, .sliceSl 18 (.t 41) none (some (.t 42)) none⟩,
  ⟨(some 44), none, .callv (.k (.func 53 [] [])) [(.t 43)]⟩,
  ⟨(some 7), none, .move (.t 44)⟩])
 (.seq (.seq (.reg [⟨(some 45), none, .move (.t 5)⟩,
  ⟨(some 46), none, .move (.t 6)⟩,
  ⟨(some 47), none, .bin .sub .num (.t 45) (.t 46)⟩,
  ⟨(some 48), none, .move (.k (.int .i64 0))⟩])
 (.block 2 (.loop (.seq (.reg [⟨(some 49), none, .bin .lss .num (.t 48) (.t 47)⟩])
 (.seq (.cond (.t 49) (.skip)
 (.exit 2))
 (.seq (.block 3 (.reg [⟨(some 50), none, .move (.t 7)⟩,
  ⟨(some 51), none, .move (.t 0)⟩,
  ⟨(some 52), none, .callv (.k (.func 54 [] [])) [(.t 51)]⟩,
  ⟨(some 53), none, .buildSlice 64 [(.int .i64 0), (.int .i64 0), (.int .i64 0), (.int .i64 0), (.int .i64 0), (.int .i64 0), (.int .i64 0), (.str []), (.int .i64 0), (.int .i64 0), (.int .i64 0), (.int .i64 0), (.int .i64 0), (.str []), .nilslice, .nilslice, (.int .i64 0), (.int .i64 0)] 18 1 [(0, (.t 52))]⟩,
  ⟨(some 54), none, .append .slice 64 18 192 [(.int .i64 0), (.int .i64 0), (.int .i64 0), (.int .i64 0), (.int .i64 0), (.int .i64 0), (.int .i64 0), (.str []), (.int .i64 0), (.int .i64 0), (.int .i64 0), (.int .i64 0), (.int .i64 0), (.str []), .nilslice, .nilslice, (.int .i64 0), (.int .i64 0)] (.t 50) (.t 53)⟩,
  ⟨(some 7), none, .move (.t 54)⟩]))
 (.reg [⟨(some 55), none, .bin .add .num (.t 48) (.k (.int .i64 1))⟩,
  ⟨(some 48), none, .move (.t 55)⟩])))))))
 (.seq (.reg [⟨(some 56), none, .move (.t 3)⟩,
  ⟨(some 57), none, .move (.t 7)⟩,
  ⟨(some 58), none, .buildSlice 32 [.nilslice] 1 1 [(0, (.t 57))]⟩,
  ⟨(some 59), none, .append .slice 32 1 24 [.nilslice] (.t 56) (.t 58)⟩,
  ⟨(some 3), none, .move (.t 59)⟩])
 (.reg [⟨(some 60), none, .move (.t 7)⟩,
  ⟨(some 4), none, .move (.t 60)⟩]))))))))
 (.reg [⟨(some 61), none, .bin .add .num (.t 10) (.k (.int .i64 1))⟩,
  ⟨(some 10), none, .move (.t 61)⟩])))))))
 (.seq (.reg [⟨(some 62), none, .move (.t 3)⟩,
  ⟨(some 2), none, .move (.t 62)⟩])
 (.ret))))))
def af24 : AFun := .body 6 [] false (.seq (.reg [⟨(some 2), none, .move (.t 0)⟩,
  ⟨(some 3), none, .un .not (.t 2)⟩])
 (.cond (.t 3) (.reg [⟨(some 4), none, .build [] []⟩,
  ⟨(some 5), none, .mkIface 81 (.t 4)⟩,
  ⟨none, none, .panic (.t 5)⟩])
 (.skip)))
def af25 : AFun := .body 10 [.tmp 4] false (.seq (.reg [⟨(some 4), none, .move (.k (.bool false))⟩])
 (.seq (.reg [⟨(some 5), none, .move (.t 0)⟩,
  ⟨(some 6), none, .conv .b2s (.t 5)⟩,
  ⟨(some 7), none, .move (.t 1)⟩,
  ⟨(some 8), none, .conv .b2s (.t 7)⟩,
  ⟨(some 9), none, .bin .eql .num (.t 6) (.t 8)⟩,
  ⟨(some 4), none, .move (.t 9)⟩])
 (.ret)))
def af26 : AFun := .body 26 [.tmp 4] false (.seq (.reg [⟨(some 4), none, .move (.k (.bool false))⟩])
 (.seq (.seq (.reg [⟨(some 6), none, .move (.t 0)⟩,
  ⟨(some 7), none, .len false (.t 6)⟩,
  ⟨(some 8), none, .move (.t 1)⟩,
  ⟨(some 9), none, .len false (.t 8)⟩,
  ⟨(some 10), none, .bin .neq .num (.t 7) (.t 9)⟩])
 (.cond (.t 10) (.seq (.reg [⟨(some 4), none, .move (.k (.bool false))⟩])
 (.ret))
 (.skip)))
 (.seq (.seq (.reg [⟨(some 5), none, .move (.k (.int .i64 0))⟩])
 (.block 0 (.loop (.seq (.seq (.reg [⟨(some 11), none, .move (.t 5)⟩,
  ⟨(some 12), none, .move (.t 0)⟩,
  ⟨(some 13), none, .len false (.t 12)⟩,
  ⟨(some 14), none, .bin .lss .num (.t 11) (.t 13)⟩])
 (.cond (.t 14) (.skip)
 (.exit 0)))
 (.seq (.block 1 (.seq (.draw [(⟨(some 17), none, .move (.t 0)⟩, []),
  (⟨(some 18), none, .move (.t 5)⟩, []),
  (⟨(some 19), none, .idxAddrS 6 (.t 17) (.t 18)⟩, []),
  (⟨(some 20), none, .load true 6 (.t 19)⟩, []),
  (⟨(some 21), none, .move (.t 1)⟩, []),
  (⟨(some 22), none, .move (.t 5)⟩, []),
  (⟨(some 23), none, .idxAddrS 6 (.t 21) (.t 22)⟩, []),
  (⟨(some 24), none, .load true 6 (.t 23)⟩, []),
  (⟨(some 25), none, .bin .neq (.flat [.int, .int, .int, .int, .int, .str]) (.t 20) (.t 24)⟩, [])])
 (.cond (.t 25) (.seq (.reg [⟨(some 4), none, .move (.k (.bool false))⟩])
 (.ret))
 (.skip))))
 (.reg [⟨(some 15), none, .move (.t 5)⟩,
  ⟨(some 16), none, .bin .add .num (.t 15) (.k (.int .i64 1))⟩,
  ⟨(some 5), none, .move (.t 16)⟩]))))))
 (.seq (.reg [⟨(some 4), none, .move (.k (.bool true))⟩])
 (.ret)))))
def af46 : AFun := .body 59 [.tmp 4] false (.seq (.reg [⟨(some 2), none, .box 64 (.t 0)⟩,
  ⟨(some 3), none, .box 64 (.t 1)⟩,
  ⟨(some 4), none, .move (.k (.bool false))⟩])
 (.seq (.reg [⟨(some 5), none, .fieldAddr 0 (.t 2)⟩,
  ⟨(some 6), none, .load false 1 (.t 5)⟩,
  ⟨(some 7), none, .fieldAddr 0 (.t 3)⟩,
  ⟨(some 8), none, .load false 1 (.t 7)⟩,
  ⟨(some 9), none, .bin .eql .num (.t 6) (.t 8)⟩,
  ⟨(some 10), none, .move (.t 9)⟩,
  ⟨(some 11), some (10, true), .fieldAddr 1 (.t 2)⟩,
  ⟨(some 12), some (10, true), .load false 1 (.t 11)⟩,
  ⟨(some 13), some (10, true), .fieldAddr 1 (.t 3)⟩,
  ⟨(some 14), some (10, true), .load false 1 (.t 13)⟩,
  ⟨(some 15), some (10, true), .bin .eql .num (.t 12) (.t 14)⟩,
  ⟨(some 16), none, .pick (.t 10) (.t 15) (.k (.bool false))⟩,
  ⟨(some 17), none, .move (.t 16)⟩,
  ⟨(some 18), some (17, true), .fieldAddr 2 (.t 2)⟩,
  ⟨(some 19), some (17, true), .load true 6 (.t 18)⟩,
  ⟨(some 20), some (17, true), .fieldAddr 2 (.t 3)⟩,
  ⟨(some 21), some (17, true), .load true 6 (.t 20)⟩,
  ⟨(some 22), some (17, true), .bin .eql (.flat [.int, .int, .int, .int, .int, .str]) (.t 19) (.t 21)⟩,
  ⟨(some 23), none, .pick (.t 17) (.t 22) (.k (.bool false))⟩,
  ⟨(some 24), none, .move (.t 23)⟩,
  ⟨(some 25), some (24, true), .fieldAddr 8 (.t 2)⟩,
  ⟨(some 26), some (24, true), .load true 6 (.t 25)⟩,
  ⟨(some 27), some (24, true), .fieldAddr 8 (.t 3)⟩,
  ⟨(some 28), some (24, true), .load true 6 (.t 27)⟩,
  ⟨(some 29), some (24, true), .bin .eql (.flat [.int, .int, .int, .int, .int, .str]) (.t 26) (.t 28)⟩,
  ⟨(some 30), none, .pick (.t 24) (.t 29) (.k (.bool false))⟩,
  ⟨(some 31), none, .move (.t 30)⟩,
  ⟨(some 32), some (31, true), .fieldAddr 16 (.t 2)⟩,
  ⟨(some 33), some (31, true), .load false 1 (.t 32)⟩,
  ⟨(some 34), some (31, true), .fieldAddr 16 (.t 3)⟩,
  ⟨(some 35), some (31, true), .load false 1 (.t 34)⟩,
  ⟨(some 36), some (31, true), .bin .eql .num (.t 33) (.t 35)⟩,
  ⟨(some 37), none, .pick (.t 31) (.t 36) (.k (.bool false))⟩,
  ⟨(some 38), none, .move (.t 37)⟩,
  ⟨(some 39), some (38, true), .fieldAddr 17 (.t 2)⟩,
  ⟨(some 40), some (38, true), .load false 1 (.t 39)⟩,
  ⟨(some 41), some (38, true), .fieldAddr 17 (.t 3)⟩,
  ⟨(some 42), some (38, true), .load false 1 (.t 41)⟩,
  ⟨(some 43), some (38, true), .bin .eql .num (.t 40) (.t 42)⟩,
  ⟨(some 44), none, .pick (.t 38) (.t 43) (.k (.bool false))⟩,
  ⟨(some 45), none, .move (.t 44)⟩,
  ⟨(some 46), some (45, true), .fieldAddr 14 (.t 2)⟩,
  ⟨(some 47), some (45, true), .load false 1 (.t 46)⟩,
  ⟨(some 48), some (45, true), .fieldAddr 14 (.t 3)⟩,
  ⟨(some 49), some (45, true), .load false 1 (.t 48)⟩,
  ⟨(some 50), some (45, true), .callv (.k (.func 86 [] [])) [(.t 47), (.t 49)]⟩,
  ⟨(some 51), none, .pick (.t 45) (.t 50) (.k (.bool false))⟩,
  ⟨(some 52), none, .move (.t 51)⟩,
  ⟨(some 53), some (52, true), .fieldAddr 15 (.t 2)⟩,
  ⟨(some 54), some (52, true), .load false 1 (.t 53)⟩,
  ⟨(some 55), some (52, true), .fieldAddr 15 (.t 3)⟩,
  ⟨(some 56), some (52, true), .load false 1 (.t 55)⟩,
  ⟨(some 57), some (52, true), .callv (.k (.func 86 [] [])) [(.t 54), (.t 56)]⟩,
  ⟨(some 58), none, .pick (.t 52) (.t 57) (.k (.bool false))⟩,
  ⟨(some 4), none, .move (.t 58)⟩])
 (.ret)))
def af47 : AFun := .body 32 [.tmp 4, .tmp 5] false (.seq (.reg [⟨(some 4), none, .move (.k (.int .i64 0))⟩,
  ⟨(some 5), none, .move (.k .niliface)⟩])
 (.seq (.reg [⟨(some 8), none, .move (.t 0)⟩,
  ⟨(some 9), none, .nilCheck (.t 8)⟩,
  ⟨(some 10), none, .fieldAddr 2 (.t 9)⟩,
  ⟨none, none, .store 1 (.t 10) (.k (.int .i8 0))⟩])
 (.seq (.reg [⟨(some 12), none, .move (.t 0)⟩,
  ⟨(some 13), none, .move (.t 1)⟩,
  ⟨(some 14), none, .len true (.t 13)⟩,
  ⟨(some 15), none, .callv (.k (.func 87 [] [])) [(.t 12), (.t 14)]⟩,
  ⟨(some 11), none, .move (.t 15)⟩,
  ⟨(some 16), none, .extract (.t 11) 0⟩,
  ⟨(some 17), none, .extract (.t 11) 1⟩,
  ⟨(some 6), none, .move (.t 16)⟩,
  ⟨(some 7), none, .move (.t 17)⟩])
 (.seq (.seq (.reg [⟨(some 18), none, .move (.t 7)⟩,
  ⟨(some 19), none, .un .not (.t 18)⟩])
 (.cond (.t 19) (.reg [⟨(some 20), none, .move (.t 0)⟩,
  ⟨(some 21), none, .move (.t 1)⟩,
  ⟨(some 22), none, .len true (.t 21)⟩,
  ⟨(some 23), none, .callv (.k (.func 88 [] [])) [(.t 20), (.t 22)]⟩,
  ⟨(some 6), none, .move (.t 23)⟩])
 (.skip)))
 (.seq (.reg [⟨(some 24), none, .move (.t 0)⟩,
  ⟨(some 25), none, .nilCheck (.t 24)⟩,
  ⟨(some 26), none, .fieldAddr 0 (.t 25)⟩,
  ⟨(some 27), none, .load false 1 (.t 26)⟩,
  ⟨(some 28), none, .move (.t 6)⟩,
  ⟨(some 29), none, .sliceSl 1 (.t 27) (some (.t 28)) none none⟩,
  ⟨(some 30), none, .move (.t 1)⟩,
  ⟨(some 31), none, .copy 1 (.t 29) (.t 30)⟩,
  ⟨(some 4), none, .move (.t 31)⟩,
  ⟨(some 5), none, .move (.k .niliface)⟩])
 (.ret))))))
def af48 : AFun := .body 26 [.tmp 4] false (.seq (.reg [⟨(some 4), none, .move (.k .niliface)⟩])
 (.seq (.reg [⟨(some 7), none, .move (.t 0)⟩,
  ⟨(some 8), none, .nilCheck (.t 7)⟩,
  ⟨(some 9), none, .fieldAddr 2 (.t 8)⟩,
  ⟨none, none, .store 1 (.t 9) (.k (.int .i8 0))⟩])
 (.seq (.reg [⟨(some 11), none, .move (.t 0)⟩,
  ⟨(some 12), none, .callv (.k (.func 87 [] [])) [(.t 11), (.k (.int .i64 1))]⟩,
  ⟨(some 10), none, .move (.t 12)⟩,
  ⟨(some 13), none, .extract (.t 10) 0⟩,
  ⟨(some 14), none, .extract (.t 10) 1⟩,
  ⟨(some 5), none, .move (.t 13)⟩,
  ⟨(some 6), none, .move (.t 14)⟩])
 (.seq (.seq (.reg [⟨(some 15), none, .move (.t 6)⟩,
  ⟨(some 16), none, .un .not (.t 15)⟩])
 (.cond (.t 16) (.reg [⟨(some 17), none, .move (.t 0)⟩,
  ⟨(some 18), none, .callv (.k (.func 88 [] [])) [(.t 17), (.k (.int .i64 1))]⟩,
  ⟨(some 5), none, .move (.t 18)⟩])
 (.skip)))
 (.seq (.reg [⟨(some 19), none, .move (.t 0)⟩,
  ⟨(some 20), none, .nilCheck (.t 19)⟩,
  ⟨(some 21), none, .fieldAddr 0 (.t 20)⟩,
  ⟨(some 22), none, .load false 1 (.t 21)⟩,
  ⟨(some 23), none, .move (.t 5)⟩,
  ⟨(some 24), none, .move (.t 1)⟩,
  ⟨(some 25), none, .idxAddrS 1 (.t 22) (.t 23)⟩,
  ⟨none, none, .store 1 (.t 25) (.t 24)⟩])
 (.seq (.reg [⟨(some 4), none, .move (.k .niliface)⟩])
 (.ret)))))))
def af49 : AFun := .body 30 [] false (.seq (.reg [⟨(some 3), none, .box 61 (.t 1)⟩])
 (.seq (.reg [⟨(some 4), none, .move (.t 0)⟩,
  ⟨(some 5), none, .fieldAddr 0 (.t 3)⟩,
  ⟨(some 6), none, .load false 1 (.t 5)⟩,
  ⟨(some 7), none, .fieldAddr 1 (.t 3)⟩,
  ⟨(some 8), none, .load false 1 (.t 7)⟩,
  ⟨(some 9), none, .fieldAddr 2 (.t 3)⟩,
  ⟨(some 10), none, .load false 1 (.t 9)⟩,
  ⟨(some 11), none, .fieldAddr 3 (.t 3)⟩,
  ⟨(some 12), none, .fieldAddr 0 (.t 11)⟩,
  ⟨(some 13), none, .load false 1 (.t 12)⟩,
  ⟨(some 14), none, .fieldAddr 3 (.t 3)⟩,
  ⟨(some 15), none, .fieldAddr 1 (.t 14)⟩,
  ⟨(some 16), none, .load false 1 (.t 15)⟩,
  ⟨(some 17), none, .fieldAddr 3 (.t 3)⟩,
  ⟨(some 18), none, .fieldAddr 2 (.t 17)⟩,
  ⟨(some 19), none, .load false 1 (.t 18)⟩,
  ⟨(some 20), none, .len true (.t 19)⟩,
  ⟨(some 21), none, .buildSlice 3 [(.int .i64 0), (.int .i64 0), (.int .i64 0), (.int .i64 0), (.int .i64 0), (.int .i64 0)] 1 6 [(0, (.t 6)), (1, (.t 8)), (2, (.t 10)), (3, (.t 13)), (4, (.t 16)), (5, (.t 20))]⟩,
  ⟨(some 22), none, .callv (.k (.func 18 [] [])) [(.t 4), (.t 21)]⟩])
 (.draw [(⟨(some 23), none, .move (.t 0)⟩, []),
  (⟨(some 24), none, .nilCheck (.t 23)⟩, []),
  (⟨(some 25), none, .fieldAddr 0 (.t 24)⟩, []),
  (⟨(some 26), none, .fieldAddr 3 (.t 3)⟩, []),
  (⟨(some 27), none, .fieldAddr 2 (.t 26)⟩, []),
  (⟨(some 28), none, .load false 1 (.t 27)⟩, []),
  (⟨(some 29), none, .callv (.k (.func 47 [] [])) [(.t 25), (.t 28)]⟩, [])])))
def af50 : AFun := .body 23 [] false (.seq (.reg [⟨(some 8), none, .move (.t 0)⟩,
  ⟨(some 9), none, .move (.t 1)⟩,
  ⟨(some 10), none, .len false (.t 9)⟩,
  ⟨(some 11), none, .buildSlice 3 [(.int .i64 0)] 1 1 [(0, (.t 10))]⟩,
  ⟨(some 12), none, .callv (.k (.func 18 [] [])) [(.t 8), (.t 11)]⟩])
 (.seq (.reg [⟨(some 13), none, .move (.t 1)⟩,
  ⟨(some 14), none, .len false (.t 13)⟩,
  ⟨(some 15), none, .move (.k (.int .i64 0))⟩])
 (.block 0 (.loop (.seq (.reg [⟨(some 16), none, .bin .lss .num (.t 15) (.t 14)⟩])
 (.seq (.cond (.t 16) (.skip)
 (.exit 0))
 (.seq (.block 1 (.seq (.reg [⟨(some 17), none, .idxAddrS 6 (.t 13) (.t 15)⟩,
  ⟨(some 18), none, .load true 6 (.t 17)⟩,
  ⟨(some 7), none, .alloc 61 [(.int .i64 0), (.int .i64 0), (.int .i64 0), (.int .i64 0), (.int .i64 0), (.str [])]⟩,
  ⟨none, none, .store 6 (.t 7) (.t 18)⟩])
 (.reg [⟨(some 19), none, .move (.t 2)⟩,
  ⟨(some 20), none, .load true 6 (.t 7)⟩,
  ⟨(some 21), none, .callv (.t 19) [(.t 20)]⟩])))
 (.reg [⟨(some 22), none, .bin .add .num (.t 15) (.k (.int .i64 1))⟩,
  ⟨(some 15), none, .move (.t 22)⟩]))))))))
def af51 : AFun := .body 19 [.tmp 2] false (.seq (.reg [⟨(some 2), none, .move (.k (.int .i64 0))⟩])
 (.seq (.reg [⟨(some 4), none, .move (.t 0)⟩,
  ⟨(some 5), none, .callv (.k (.func 52 [] [])) [(.t 4)]⟩,
  ⟨(some 3), none, .move (.t 5)⟩])
 (.seq (.reg [⟨(some 6), none, .move (.t 3)⟩,
  ⟨(some 7), none, .bin .geq .num (.t 6) (.k (.int .i64 0))⟩,
  ⟨(some 8), none, .move (.t 7)⟩,
  ⟨(some 9), some (8, true), .move (.t 3)⟩,
  ⟨(some 10), some (8, true), .move (.t 0)⟩,
  ⟨(some 11), some (8, true), .nilCheck (.t 10)⟩,
  ⟨(some 12), some (8, true), .fieldAddr 0 (.t 11)⟩,
  ⟨(some 13), some (8, true), .load false 1 (.t 12)⟩,
  ⟨(some 14), some (8, true), .len false (.t 13)⟩,
  ⟨(some 15), some (8, true), .bin .leq .num (.t 9) (.t 14)⟩,
  ⟨(some 16), none, .pick (.t 8) (.t 15) (.k (.bool false))⟩,
  ⟨(some 17), none, .callv (.k (.func 24 [] [])) [(.t 16)]⟩])
 (.seq (.reg [⟨(some 18), none, .move (.t 3)⟩,
  ⟨(some 2), none, .move (.t 18)⟩])
 (.ret)))))
def af52 : AFun := .body 43 [.tmp 2] false (.seq (.reg [⟨(some 2), none, .move (.k (.int .i64 0))⟩])
 (.seq (.reg [⟨(some 6), none, .move (.t 0)⟩,
  ⟨(some 7), none, .nilCheck (.t 6)⟩,
  ⟨(some 8), none, .fieldAddr 0 (.t 7)⟩,
  ⟨(some 9), none, .load false 1 (.t 8)⟩,
  ⟨(some 10), none, .callv (.k (.func 89 [] [])) [(.t 9), (.k (.int .u8 59))]⟩,
  ⟨(some 3), none, .move (.t 10)⟩])
 (.seq (.reg [⟨(some 11), none, .move (.t 3)⟩,
  ⟨(some 12), none, .bin .geq .num (.t 11) (.k (.int .i64 0))⟩,
  ⟨(some 13), none, .move (.t 12)⟩,
  ⟨(some 14), some (13, true), .move (.t 3)⟩,
  ⟨(some 15), some (13, true), .bin .leq .num (.t 14) (.k (.int .i64 20))⟩,
  ⟨(some 16), none, .pick (.t 13) (.t 15) (.k (.bool false))⟩,
  ⟨(some 17), none, .callv (.k (.func 24 [] [])) [(.t 16)]⟩])
 (.seq (.reg [⟨(some 19), none, .move (.t 0)⟩,
  ⟨(some 20), none, .nilCheck (.t 19)⟩,
  ⟨(some 21), none, .fieldAddr 0 (.t 20)⟩,
  ⟨(some 22), none, .load false 1 (.t 21)⟩,
  ⟨(some 23), none, .move (.t 3)⟩,
  ⟨(some 24), none, .sliceSl 1 (.t 22) none (some (.t 23)) none⟩,
  ⟨(some 25), none, .conv .b2s (.t 24)⟩,
  ⟨(some 26), none, .callv (.k (.func 90 [] [])) [(.t 25)]⟩,
  ⟨(some 18), none, .move (.t 26)⟩,
  ⟨(some 27), none, .extract (.t 18) 0⟩,
  ⟨(some 28), none, .extract (.t 18) 1⟩,
  ⟨(some 4), none, .move (.t 27)⟩,
  ⟨(some 5), none, .move (.t 28)⟩])
 (.seq (.reg [⟨(some 29), none, .move (.t 5)⟩,
  ⟨(some 30), none, .bin .eql (.iface true oksT) (.t 29) (.k .niliface)⟩,
  ⟨(some 31), none, .callv (.k (.func 24 [] [])) [(.t 30)]⟩])
 (.seq (.reg [⟨(some 32), none, .move (.t 0)⟩,
  ⟨(some 33), none, .move (.t 0)⟩,
  ⟨(some 34), none, .nilCheck (.t 33)⟩,
  ⟨(some 35), none, .fieldAddr 0 (.t 34)⟩,
  ⟨(some 36), none, .load false 1 (.t 35)⟩,
  ⟨(some 37), none, .move (.t 3)⟩,
  ⟨(some 38), none, .bin .add .num (.t 37) (.k (.int .i64 1))⟩,
  ⟨(some 39), none, .sliceSl 1 (.t 36) (some (.t 38)) none none⟩,
  ⟨(some 40), none, .nilCheck (.t 32)⟩,
  ⟨(some 41), none, .fieldAddr 0 (.t 40)⟩,
  ⟨none, none, .store 1 (.t 41) (.t 39)⟩])
 (.seq (.reg [⟨(some 42), none, .move (.t 4)⟩,
  ⟨(some 2), none, .move (.t 42)⟩])
 (.ret))))))))
def af53 : AFun := .body 5 [.tmp 2] false (.seq (.reg [⟨(some 2), none, .move (.k .nilslice)⟩])
 (.seq (.reg [⟨(some 3), none, .move (.t 0)⟩,
  ⟨(some 4), none, .callv (.k (.func 91 [] [])) [(.t 3), (.k (.func 92 [] []))]⟩,
  ⟨(some 2), none, .move (.t 4)⟩])
 (.ret)))
def af54 : AFun := .body 29 [.cell 2 true 18] false (.seq (.reg [⟨(some 2), none, .alloc 64 [(.int .i64 0), (.int .i64 0), (.int .i64 0), (.int .i64 0), (.int .i64 0), (.int .i64 0), (.int .i64 0), (.str []), (.int .i64 0), (.int .i64 0), (.int .i64 0), (.int .i64 0), (.int .i64 0), (.str []), .nilslice, .nilslice, (.int .i64 0), (.int .i64 0)]⟩])
 (.seq (.reg [⟨(some 4), none, .move (.t 0)⟩,
  ⟨(some 5), none, .callv (.k (.func 52 [] [])) [(.t 4)]⟩,
  ⟨(some 6), none, .build [(.int .i64 0), (.int .i64 0), (.int .i64 0), (.int .i64 0), (.int .i64 0), (.int .i64 0), (.int .i64 0), (.str []), (.int .i64 0), (.int .i64 0), (.int .i64 0), (.int .i64 0), (.int .i64 0), (.str []), .nilslice, .nilslice, (.int .i64 0), (.int .i64 0)] [(0, 1, (.t 5))]⟩,
  ⟨(some 3), none, .alloc 64 [(.int .i64 0), (.int .i64 0), (.int .i64 0), (.int .i64 0), (.int .i64 0), (.int .i64 0), (.int .i64 0), (.str []), (.int .i64 0), (.int .i64 0), (.int .i64 0), (.int .i64 0), (.int .i64 0), (.str []), .nilslice, .nilslice, (.int .i64 0), (.int .i64 0)]⟩,
  ⟨none, none, .store 18 (.t 3) (.t 6)⟩])
 (.seq (.reg [⟨(some 7), none, .move (.t 0)⟩,
  ⟨(some 8), none, .callv (.k (.func 52 [] [])) [(.t 7)]⟩,
  ⟨(some 9), none, .fieldAddr 1 (.t 3)⟩,
  ⟨none, none, .store 1 (.t 9) (.t 8)⟩])
 (.seq (.reg [⟨(some 10), none, .move (.t 0)⟩,
  ⟨(some 11), none, .callv (.k (.func 94 [] [])) [(.t 10)]⟩,
  ⟨(some 12), none, .fieldAddr 2 (.t 3)⟩,
  ⟨none, none, .store 6 (.t 12) (.t 11)⟩])
 (.seq (.reg [⟨(some 13), none, .move (.t 0)⟩,
  ⟨(some 14), none, .callv (.k (.func 94 [] [])) [(.t 13)]⟩,
  ⟨(some 15), none, .fieldAddr 8 (.t 3)⟩,
  ⟨none, none, .store 6 (.t 15) (.t 14)⟩])
 (.seq (.reg [⟨(some 16), none, .move (.t 0)⟩,
  ⟨(some 17), none, .callv (.k (.func 95 [] [])) [(.t 16)]⟩,
  ⟨(some 18), none, .fieldAddr 14 (.t 3)⟩,
  ⟨none, none, .store 1 (.t 18) (.t 17)⟩])
 (.seq (.reg [⟨(some 19), none, .move (.t 0)⟩,
  ⟨(some 20), none, .callv (.k (.func 95 [] [])) [(.t 19)]⟩,
  ⟨(some 21), none, .fieldAddr 15 (.t 3)⟩,
  ⟨none, none, .store 1 (.t 21) (.t 20)⟩])
 (.seq (.reg [⟨(some 22), none, .move (.t 0)⟩,
  ⟨(some 23), none, .callv (.k (.func 52 [] [])) [(.t 22)]⟩,
  ⟨(some 24), none, .fieldAddr 16 (.t 3)⟩,
  ⟨none, none, .store 1 (.t 24) (.t 23)⟩])
 (.seq (.reg [⟨(some 25), none, .move (.t 0)⟩,
  ⟨(some 26), none, .callv (.k (.func 52 [] [])) [(.t 25)]⟩,
  ⟨(some 27), none, .fieldAddr 17 (.t 3)⟩,
  ⟨none, none, .store 1 (.t 27) (.t 26)⟩])
 (.seq (.reg [⟨(some 28), none, .load true 18 (.t 3)⟩,
  ⟨none, none, .store 18 (.t 2) (.t 28)⟩])
 (.ret)))))))))))
def af86 : AFun := .body 26 [.tmp 4] false (.seq (.reg [⟨(some 4), none, .move (.k (.bool false))⟩])
 (.seq (.seq (.reg [⟨(some 6), none, .move (.t 0)⟩,
  ⟨(some 7), none, .len false (.t 6)⟩,
  ⟨(some 8), none, .move (.t 1)⟩,
  ⟨(some 9), none, .len false (.t 8)⟩,
  ⟨(some 10), none, .bin .neq .num (.t 7) (.t 9)⟩])
 (.cond (.t 10) (.seq (.reg [⟨(some 4), none, .move (.k (.bool false))⟩])
 (.ret))
 (.skip)))
 (.seq (.seq (.reg [⟨(some 11), none, .move (.t 0)⟩,
  ⟨(some 12), none, .len false (.t 11)⟩,
  ⟨(some 13), none, .move (.k (.int .i64 0))⟩])
 (.block 0 (.loop (.seq (.reg [⟨(some 14), none, .bin .lss .num (.t 13) (.t 12)⟩])
 (.seq (.cond (.t 14) (.skip)
 (.exit 0))
 (.seq (.block 1 (.seq (.reg [⟨(some 15), none, .move (.t 13)⟩,
  ⟨(some 5), none, .move (.t 15)⟩])
 (.seq (.draw [(⟨(some 16), none, .move (.t 0)⟩, []),
  (⟨(some 17), none, .move (.t 5)⟩, []),
  (⟨(some 18), none, .idxAddrS 6 (.t 16) (.t 17)⟩, []),
  (⟨(some 19), none, .load true 6 (.t 18)⟩, []),
  (⟨(some 20), none, .move (.t 1)⟩, []),
  (⟨(some 21), none, .move (.t 5)⟩, []),
  (⟨(some 22), none, .idxAddrS 6 (.t 20) (.t 21)⟩, []),
  (⟨(some 23), none, .load true 6 (.t 22)⟩, []),
  (⟨(some 24), none, .bin .neq (.flat [.int, .int, .int, .int, .int, .str]) (.t 19) (.t 23)⟩, [])])
 (.cond (.t 24) (.seq (.reg [⟨(some 4), none, .move (.k (.bool false))⟩])
 (.ret))
 (.skip)))))
 (.reg [⟨(some 25), none, .bin .add .num (.t 13) (.k (.int .i64 1))⟩,
  ⟨(some 13), none, .move (.t 25)⟩])))))))
 (.seq (.reg [⟨(some 4), none, .move (.k (.bool true))⟩])
 (.ret)))))
def af87 : AFun := .body 33 [.tmp 4, .tmp 5] false (.seq (.reg [⟨(some 4), none, .move (.k (.int .i64 0))⟩,
  ⟨(some 5), none, .move (.k (.bool false))⟩])
 (.seq (.seq (.reg [⟨(some 7), none, .move (.t 0)⟩,
  ⟨(some 8), none, .nilCheck (.t 7)⟩,
  ⟨(some 9), none, .fieldAddr 0 (.t 8)⟩,
  ⟨(some 10), none, .load false 1 (.t 9)⟩,
  ⟨(some 11), none, .len false (.t 10)⟩,
  ⟨(some 6), none, .move (.t 11)⟩])
 (.seq (.reg [⟨(some 12), none, .move (.t 1)⟩,
  ⟨(some 13), none, .move (.t 0)⟩,
  ⟨(some 14), none, .nilCheck (.t 13)⟩,
  ⟨(some 15), none, .fieldAddr 0 (.t 14)⟩,
  ⟨(some 16), none, .load false 1 (.t 15)⟩,
  ⟨(some 17), none, .cap (.t 16)⟩,
  ⟨(some 18), none, .move (.t 6)⟩,
  ⟨(some 19), none, .bin .sub .num (.t 17) (.t 18)⟩,
  ⟨(some 20), none, .bin .leq .num (.t 12) (.t 19)⟩])
 (.cond (.t 20) (.seq (.reg [⟨(some 21), none, .move (.t 0)⟩,
  ⟨(some 22), none, .move (.t 0)⟩,
  ⟨(some 23), none, .nilCheck (.t 22)⟩,
  ⟨(some 24), none, .fieldAddr 0 (.t 23)⟩,
  ⟨(some 25), none, .load false 1 (.t 24)⟩,
  ⟨(some 26), none, .move (.t 6)⟩,
  ⟨(some 27), none, .move (.t 1)⟩,
  ⟨(some 28), none, .bin .add .num (.t 26) (.t 27)⟩,
  ⟨(some 29), none, .sliceSl 1 (.t 25) none (some (.t 28)) none⟩,
  ⟨(some 30), none, .nilCheck (.t 21)⟩,
  ⟨(some 31), none, .fieldAddr 0 (.t 30)⟩,
  ⟨none, none, .store 1 (.t 31) (.t 29)⟩])
 (.seq (.reg [⟨(some 32), none, .move (.t 6)⟩,
  ⟨(some 4), none, .move (.t 32)⟩,
  ⟨(some 5), none, .move (.k (.bool true))⟩])
 (.ret)))
 (.skip))))
 (.seq (.reg [⟨(some 4), none, .move (.k (.int .i64 0))⟩,
  ⟨(some 5), none, .move (.k (.bool false))⟩])
 (.ret))))
def af88 : AFun := .body 110 [.tmp 4] false (.seq (.reg [⟨(some 4), none, .move (.k (.int .i64 0))⟩])
 (.seq (.reg [⟨(some 9), none, .move (.t 0)⟩,
  ⟨(some 10), none, .callv (.k (.func 20 [] [])) [(.t 9)]⟩,
  ⟨(some 5), none, .move (.t 10)⟩])
 (.seq (.seq (.reg [⟨(some 11), none, .move (.t 5)⟩,
  ⟨(some 12), none, .bin .eql .num (.t 11) (.k (.int .i64 0))⟩,
  ⟨(some 13), none, .move (.t 12)⟩,
  ⟨(some 14), some (13, true), .move (.t 0)⟩,
  ⟨(some 15), some (13, true), .nilCheck (.t 14)⟩,
  ⟨(some 16), some (13, true), .fieldAddr 1 (.t 15)⟩,
  ⟨(some 17), some (13, true), .load false 1 (.t 16)⟩,
  ⟨(some 18), some (13, true), .bin .neq .num (.t 17) (.k (.int .i64 0))⟩,
  ⟨(some 19), none, .pick (.t 13) (.t 18) (.k (.bool false))⟩])
 (.cond (.t 19) (.reg [⟨(some 20), none, .move (.t 0)⟩,
  ⟨(some 21), none, .callv (.k (.func 114 [] [])) [(.t 20)]⟩])
 (.skip)))
 (.seq (.seq (.reg [⟨(some 23), none, .move (.t 0)⟩,
  ⟨(some 24), none, .move (.t 1)⟩,
  ⟨(some 25), none, .callv (.k (.func 87 [] [])) [(.t 23), (.t 24)]⟩,
  ⟨(some 22), none, .move (.t 25)⟩,
  ⟨(some 26), none, .extract (.t 22) 0⟩,
  ⟨(some 27), none, .extract (.t 22) 1⟩,
  ⟨(some 6), none, .move (.t 26)⟩,
  ⟨(some 7), none, .move (.t 27)⟩])
 (.seq (.reg [⟨(some 28), none, .move (.t 7)⟩])
 (.cond (.t 28) (.seq (.reg [⟨(some 29), none, .move (.t 6)⟩,
  ⟨(some 4), none, .move (.t 29)⟩])
 (.ret))
 (.skip))))
 (.seq (.seq (.reg [⟨(some 30), none, .move (.t 0)⟩,
  ⟨(some 31), none, .nilCheck (.t 30)⟩,
  ⟨(some 32), none, .fieldAddr 0 (.t 31)⟩,
  ⟨(some 33), none, .load false 1 (.t 32)⟩,
  ⟨(some 34), none, .bin .eql .slice (.t 33) (.k .nilslice)⟩,
  ⟨(some 35), none, .move (.t 34)⟩,
  ⟨(some 36), some (35, true), .move (.t 1)⟩,
  ⟨(some 37), some (35, true), .bin .leq .num (.t 36) (.k (.int .i64 64))⟩,
  ⟨(some 38), none, .pick (.t 35) (.t 37) (.k (.bool false))⟩])
 (.cond (.t 38) (.seq (.reg [⟨(some 39), none, .move (.t 0)⟩,
  ⟨(some 40), none, .move (.t 1)⟩,
  ⟨(some 41), none, .makeSlice 5 1 1 [(.int .u8 0)] (.t 40) (.k (.int .i64 64))⟩,
  ⟨(some 42), none, .nilCheck (.t 39)⟩,
  ⟨(some 43), none, .fieldAddr 0 (.t 42)⟩,
  ⟨none, none, .store 1 (.t 43) (.t 41)⟩])
 (.seq (.reg [⟨(some 4), none, .move (.k (.int .i64 0))⟩])
 (.ret)))
 (.skip)))
 (.seq (.reg [⟨(some 44), none, .move (.t 0)⟩,
  ⟨(some 45), none, .nilCheck (.t 44)⟩,
  ⟨(some 46), none, .fieldAddr 0 (.t 45)⟩,
  ⟨(some 47), none, .load false 1 (.t 46)⟩,
  ⟨(some 48), none, .cap (.t 47)⟩,
  ⟨(some 8), none, .move (.t 48)⟩])
 (.seq (.seq (.reg [⟨(some 49), none, .move (.t 1)⟩,
  ⟨(some 50), none, .move (.t 8)⟩,
  ⟨(some 51), none, .bin .quo .num (.t 50) (.k (.int .i64 2))⟩,
  ⟨(some 52), none, .move (.t 5)⟩,
  ⟨(some 53), none, .bin .sub .num (.t 51) (.t 52)⟩,
  ⟨(some 54), none, .bin .leq .num (.t 49) (.t 53)⟩])
 (.cond (.t 54) (.draw [(⟨(some 55), none, .move (.t 0)⟩, []),
  (⟨(some 56), none, .nilCheck (.t 55)⟩, []),
  (⟨(some 57), none, .fieldAddr 0 (.t 56)⟩, []),
  (⟨(some 58), none, .load false 1 (.t 57)⟩, []),
  (⟨(some 59), none, .move (.t 0)⟩, []),
  (⟨(some 60), none, .nilCheck (.t 59)⟩, []),
  (⟨(some 61), none, .fieldAddr 0 (.t 60)⟩, []),
  (⟨(some 62), none, .load false 1 (.t 61)⟩, []),
  (⟨(some 63), none, .move (.t 0)⟩, []),
  (⟨(some 64), none, .nilCheck (.t 63)⟩, []),
  (⟨(some 65), none, .fieldAddr 1 (.t 64)⟩, []),
  (⟨(some 66), none, .load false 1 (.t 65)⟩, []),
  (⟨(some 67), none, .sliceSl 1 (.t 62) (some (.t 66)) none none⟩, []),
  (⟨(some 68), none, .copy 1 (.t 58) (.t 67)⟩, [])])
 (.seq (.reg [⟨(some 69), none, .move (.t 8)⟩,
  ⟨(some 70), none, .move (.t 8)⟩,
  ⟨(some 71), none, .bin .sub .num (.k (.int .i64 9223372036854775807)) (.t 70)⟩,
  ⟨(some 72), none, .move (.t 1)⟩,
  ⟨(some 73), none, .bin .sub .num (.t 71) (.t 72)⟩,
  ⟨(some 74), none, .bin .gtr .num (.t 69) (.t 73)⟩])
 (.cond (.t 74) (.reg [⟨(some 75), none, .load false 1 (.k (.pptr gl0 0))⟩,
  ⟨none, none, .panic (.t 75)⟩])
 (.draw [(⟨(some 76), none, .move (.t 0)⟩, []),
  (⟨(some 77), none, .move (.t 0)⟩, []),
  (⟨(some 78), none, .nilCheck (.t 77)⟩, []),
  (⟨(some 79), none, .fieldAddr 0 (.t 78)⟩, []),
  (⟨(some 80), none, .load false 1 (.t 79)⟩, []),
  (⟨(some 81), none, .move (.t 0)⟩, []),
  (⟨(some 82), none, .nilCheck (.t 81)⟩, []),
  (⟨(some 83), none, .fieldAddr 1 (.t 82)⟩, []),
  (⟨(some 84), none, .load false 1 (.t 83)⟩, []),
  (⟨(some 85), none, .sliceSl 1 (.t 80) (some (.t 84)) none none⟩, []),
  (⟨(some 86), none, .move (.t 0)⟩, []),
  (⟨(some 87), none, .nilCheck (.t 86)⟩, []),
  (⟨(some 88), none, .fieldAddr 1 (.t 87)⟩, []),
  (⟨(some 89), none, .load false 1 (.t 88)⟩, []),
  (⟨(some 90), none, .move (.t 1)⟩, []),
  (⟨(some 91), none, .bin .add .num (.t 89) (.t 90)⟩, []),
  (⟨(some 92), none, .callv (.k (.func 115 [] [])) [(.t 85), (.t 91)]⟩, []),
  (⟨(some 93), none, .nilCheck (.t 76)⟩, []),
  (⟨(some 94), none, .fieldAddr 0 (.t 93)⟩, []),
  (⟨none, none, .store 1 (.t 94) (.t 92)⟩, [])])))))
 (.seq (.reg [⟨(some 95), none, .move (.t 0)⟩,
  ⟨(some 96), none, .nilCheck (.t 95)⟩,
  ⟨(some 97), none, .fieldAddr 1 (.t 96)⟩,
  ⟨none, none, .store 1 (.t 97) (.k (.int .i64 0))⟩])
 (.seq (.reg [⟨(some 98), none, .move (.t 0)⟩,
  ⟨(some 99), none, .move (.t 0)⟩,
  ⟨(some 100), none, .nilCheck (.t 99)⟩,
  ⟨(some 101), none, .fieldAddr 0 (.t 100)⟩,
  ⟨(some 102), none, .load false 1 (.t 101)⟩,
  ⟨(some 103), none, .move (.t 5)⟩,
  ⟨(some 104), none, .move (.t 1)⟩,
  ⟨(some 105), none, .bin .add .num (.t 103) (.t 104)⟩,
  ⟨(some 106), none, .sliceSl 1 (.t 102) none (some (.t 105)) none⟩,
  ⟨(some 107), none, .nilCheck (.t 98)⟩,
  ⟨(some 108), none, .fieldAddr 0 (.t 107)⟩,
  ⟨none, none, .store 1 (.t 108) (.t 106)⟩])
 (.seq (.reg [⟨(some 109), none, .move (.t 5)⟩,
  ⟨(some 4), none, .move (.t 109)⟩])
 (.ret)))))))))))
def af89 : AFun := .body 8 [.tmp 4] false (.seq (.reg [⟨(some 4), none, .move (.k (.int .i64 0))⟩])
 (.seq (.reg [⟨(some 5), none, .move (.t 0)⟩,
  ⟨(some 6), none, .move (.t 1)⟩,
  ⟨(some 7), none, .callv (.k (.func 116 [] [])) [(.t 5), (.t 6)]⟩,
  ⟨(some 4), none, .move (.t 7)⟩])
 (.ret)))
def af91 : AFun := .body 22 [.tmp 4] false (.seq (.reg [⟨(some 4), none, .move (.k .nilslice)⟩])
 (.seq (.reg [⟨(some 5), none, .move (.k .nilslice)⟩])
 (.seq (.seq (.reg [⟨(some 8), none, .move (.t 0)⟩,
  ⟨(some 9), none, .len false (.t 8)⟩,
  ⟨(some 10), none, .move (.k (.int .i64 0))⟩])
 (.block 0 (.loop (.seq (.reg [⟨(some 11), none, .bin .lss .num (.t 10) (.t 9)⟩])
 (.seq (.cond (.t 11) (.skip)
 (.exit 0))
 (.seq (.block 1 (.seq (.reg [⟨(some 12), none, .idxAddrS 18 (.t 8) (.t 10)⟩,
  ⟨(some 13), none, .load true 18 (.t 12)⟩,
  ⟨(some 7), none, .alloc 64 [(.int .i64 0), (.int .i64 0), (.int .i64 0), (.int .i64 0), (.int .i64 0), (.int .i64 0), (.int .i64 0), (.str []), (.int .i64 0), (.int .i64 0), (.int .i64 0), (.int .i64 0), (.int .i64 0), (.str []), .nilslice, .nilslice, (.int .i64 0), (.int .i64 0)]⟩,
  ⟨none, none, .store 18 (.t 7) (.t 13)⟩])
 (.reg [⟨(some 14), none, .move (.t 5)⟩,
  ⟨(some 15), none, .move (.t 1)⟩,
  ⟨(some 16), none, .load true 18 (.t 7)⟩,
  ⟨(some 17), none, .callv (.t 15) [(.t 16)]⟩,
  ⟨(some 18), none, .buildSlice 64 [(.int .i64 0), (.int .i64 0), (.int .i64 0), (.int .i64 0), (.int .i64 0), (.int .i64 0), (.int .i64 0), (.str []), (.int .i64 0), (.int .i64 0), (.int .i64 0), (.int .i64 0), (.int .i64 0), (.str []), .nilslice, .nilslice, (.int .i64 0), (.int .i64 0)] 18 1 [(0, (.t 17))]⟩,
  ⟨(some 19), none, .append .slice 64 18 192 [(.int .i64 0), (.int .i64 0), (.int .i64 0), (.int .i64 0), (.int .i64 0), (.int .i64 0), (.int .i64 0), (.str []), (.int .i64 0), (.int .i64 0), (.int .i64 0), (.int .i64 0), (.int .i64 0), (.str []), .nilslice, .nilslice, (.int .i64 0), (.int .i64 0)] (.t 14) (.t 18)⟩,
  ⟨(some 5), none, .move (.t 19)⟩])))
 (.reg [⟨(some 20), none, .bin .add .num (.t 10) (.k (.int .i64 1))⟩,
  ⟨(some 10), none, .move (.t 20)⟩])))))))
 (.seq (.reg [⟨(some 21), none, .move (.t 5)⟩,
  ⟨(some 4), none, .move (.t 21)⟩])
 (.ret)))))
def af92 : AFun := .body 12 [.cell 2 true 18] false (.seq (.reg [⟨(some 1), none, .box 64 (.t 0)⟩,
  ⟨(some 2), none, .alloc 64 [(.int .i64 0), (.int .i64 0), (.int .i64 0), (.int .i64 0), (.int .i64 0), (.int .i64 0), (.int .i64 0), (.str []), (.int .i64 0), (.int .i64 0), (.int .i64 0), (.int .i64 0), (.int .i64 0), (.str []), .nilslice, .nilslice, (.int .i64 0), (.int .i64 0)]⟩])
 (.seq (.draw [(⟨(some 3), none, .fieldAddr 14 (.t 1)⟩, []),
  (⟨(some 4), none, .load false 1 (.t 3)⟩, []),
  (⟨(some 6), none, .fieldAddr 15 (.t 1)⟩, []),
  (⟨(some 7), none, .load false 1 (.t 6)⟩, []),
  (⟨(some 5), none, .callv (.k (.func 93 [] [])) [(.t 4)]⟩, [⟨(some 7), none, .load false 1 (.t 6)⟩]),
  (⟨(some 9), none, .fieldAddr 14 (.t 1)⟩, []),
  (⟨(some 8), none, .callv (.k (.func 93 [] [])) [(.t 7)]⟩, []),
  (⟨none, none, .store 1 (.t 9) (.t 5)⟩, []),
  (⟨(some 10), none, .fieldAddr 15 (.t 1)⟩, []),
  (⟨none, none, .store 1 (.t 10) (.t 8)⟩, [])])
 (.seq (.reg [⟨(some 11), none, .load true 18 (.t 1)⟩,
  ⟨none, none, .store 18 (.t 2) (.t 11)⟩])
 (.ret))))
def af93 : AFun := .body 8 [.tmp 2] false (.seq (.reg [⟨(some 2), none, .move (.k .nilslice)⟩])
 (.seq (.seq (.reg [⟨(some 3), none, .move (.t 0)⟩,
  ⟨(some 4), none, .bin .eql .slice (.t 3) (.k .nilslice)⟩])
 (.cond (.t 4) (.seq (.reg [⟨(some 2), none, .move (.k .nilslice)⟩])
 (.ret))
 (.skip)))
 (.seq (.reg [⟨(some 5), none, .buildSlice 61 [] 6 0 []⟩,
  ⟨(some 6), none, .move (.t 0)⟩,
  ⟨(some 7), none, .append .slice 61 6 56 [(.int .i64 0), (.int .i64 0), (.int .i64 0), (.int .i64 0), (.int .i64 0), (.str [])] (.t 5) (.t 6)⟩,
  ⟨(some 2), none, .move (.t 7)⟩])
 (.ret))))
def af94 : AFun := .body 43 [.cell 2 true 6] false (.seq (.reg [⟨(some 2), none, .alloc 61 [(.int .i64 0), (.int .i64 0), (.int .i64 0), (.int .i64 0), (.int .i64 0), (.str [])]⟩])
 (.seq (.reg [⟨(some 5), none, .move (.t 0)⟩,
  ⟨(some 6), none, .callv (.k (.func 52 [] [])) [(.t 5)]⟩,
  ⟨(some 7), none, .build [(.int .i64 0), (.int .i64 0), (.int .i64 0), (.int .i64 0), (.int .i64 0), (.str [])] [(0, 1, (.t 6))]⟩,
  ⟨(some 3), none, .alloc 61 [(.int .i64 0), (.int .i64 0), (.int .i64 0), (.int .i64 0), (.int .i64 0), (.str [])]⟩,
  ⟨none, none, .store 6 (.t 3) (.t 7)⟩])
 (.seq (.reg [⟨(some 8), none, .move (.t 0)⟩,
  ⟨(some 9), none, .callv (.k (.func 52 [] [])) [(.t 8)]⟩,
  ⟨(some 10), none, .fieldAddr 1 (.t 3)⟩,
  ⟨none, none, .store 1 (.t 10) (.t 9)⟩])
 (.seq (.reg [⟨(some 11), none, .move (.t 0)⟩,
  ⟨(some 12), none, .callv (.k (.func 52 [] [])) [(.t 11)]⟩,
  ⟨(some 13), none, .fieldAddr 2 (.t 3)⟩,
  ⟨none, none, .store 1 (.t 13) (.t 12)⟩])
 (.seq (.reg [⟨(some 14), none, .move (.t 0)⟩,
  ⟨(some 15), none, .callv (.k (.func 52 [] [])) [(.t 14)]⟩,
  ⟨(some 16), none, .fieldAddr 3 (.t 3)⟩,
  ⟨(some 17), none, .fieldAddr 0 (.t 16)⟩,
  ⟨none, none, .store 1 (.t 17) (.t 15)⟩])
 (.seq (.reg [⟨(some 18), none, .move (.t 0)⟩,
  ⟨(some 19), none, .callv (.k (.func 52 [] [])) [(.t 18)]⟩,
  ⟨(some 20), none, .fieldAddr 3 (.t 3)⟩,
  ⟨(some 21), none, .fieldAddr 1 (.t 20)⟩,
  ⟨none, none, .store 1 (.t 21) (.t 19)⟩])
 (.seq (.reg [⟨(some 22), none, .move (.t 0)⟩,
  ⟨(some 23), none, .callv (.k (.func 51 [] [])) [(.t 22)]⟩,
  ⟨(some 4), none, .move (.t 23)⟩])
 (.seq (.reg [⟨(some 24), none, .move (.t 0)⟩,
  ⟨(some 25), none, .nilCheck (.t 24)⟩,
  ⟨(some 26), none, .fieldAddr 0 (.t 25)⟩,
  ⟨(some 27), none, .load false 1 (.t 26)⟩,
  ⟨(some 28), none, .move (.t 4)⟩,
  ⟨(some 29), none, .sliceSl 1 (.t 27) none (some (.t 28)) none⟩,
  ⟨(some 30), none, .conv .b2s (.t 29)⟩,
  ⟨(some 31), none, .fieldAddr 3 (.t 3)⟩,
  ⟨(some 32), none, .fieldAddr 2 (.t 31)⟩,
  ⟨none, none, .store 1 (.t 32) (.t 30)⟩])
 (.seq (.reg [⟨(some 33), none, .move (.t 0)⟩,
  ⟨(some 34), none, .move (.t 0)⟩,
  ⟨(some 35), none, .nilCheck (.t 34)⟩,
  ⟨(some 36), none, .fieldAddr 0 (.t 35)⟩,
  ⟨(some 37), none, .load false 1 (.t 36)⟩,
  ⟨(some 38), none, .move (.t 4)⟩,
  ⟨(some 39), none, .sliceSl 1 (.t 37) (some (.t 38)) none none⟩,
  ⟨(some 40), none, .nilCheck (.t 33)⟩,
  ⟨(some 41), none, .fieldAddr 0 (.t 40)⟩,
  ⟨none, none, .store 1 (.t 41) (.t 39)⟩])
 (.seq (.reg [⟨(some 42), none, .load true 6 (.t 3)⟩,
  ⟨none, none, .store 6 (.t 2) (.t 42)⟩])
 (.ret)))))))))))
def af95 : AFun := .body 15 [.tmp 2] false (.seq (.reg [⟨(some 2), none, .move (.k .nilslice)⟩])
 (.seq (.reg [⟨(some 3), none, .move (.k .nilslice)⟩])
 (.seq (.seq (.reg [⟨(some 4), none, .move (.t 0)⟩,
  ⟨(some 5), none, .callv (.k (.func 51 [] [])) [(.t 4)]⟩,
  ⟨(some 6), none, .move (.k (.int .i64 0))⟩])
 (.block 0 (.loop (.seq (.reg [⟨(some 7), none, .bin .lss .num (.t 6) (.t 5)⟩])
 (.seq (.cond (.t 7) (.skip)
 (.exit 0))
 (.seq (.block 1 (.reg [⟨(some 8), none, .move (.t 3)⟩,
  ⟨(some 9), none, .move (.t 0)⟩,
  ⟨(some 10), none, .callv (.k (.func 94 [] [])) [(.t 9)]⟩,
  ⟨(some 11), none, .buildSlice 61 [(.int .i64 0), (.int .i64 0), (.int .i64 0), (.int .i64 0), (.int .i64 0), (.str [])] 6 1 [(0, (.t 10))]⟩,
  ⟨(some 12), none, .append .slice 61 6 56 [(.int .i64 0), (.int .i64 0), (.int .i64 0), (.int .i64 0), (.int .i64 0), (.str [])] (.t 8) (.t 11)⟩,
  ⟨(some 3), none, .move (.t 12)⟩]))
 (.reg [⟨(some 13), none, .bin .add .num (.t 6) (.k (.int .i64 1))⟩,
  ⟨(some 6), none, .move (.t 13)⟩])))))))
 (.seq (.reg [⟨(some 14), none, .move (.t 3)⟩,
  ⟨(some 2), none, .move (.t 14)⟩])
 (.ret)))))
def af115 : AFun := .body 28 [.tmp 4] false (.seq (.reg [⟨(some 4), none, .move (.k .nilslice)⟩])
 (.seq (.reg [⟨none, none, .deferv (.k (.func 181 [] [])) []⟩])
 (.seq (.reg [⟨(some 8), none, .move (.t 0)⟩,
  ⟨(some 9), none, .len false (.t 8)⟩,
  ⟨(some 10), none, .move (.t 1)⟩,
  ⟨(some 11), none, .bin .add .num (.t 9) (.t 10)⟩,
  ⟨(some 5), none, .move (.t 11)⟩])
 (.seq (.seq (.reg [⟨(some 12), none, .move (.t 5)⟩,
  ⟨(some 13), none, .move (.t 0)⟩,
  ⟨(some 14), none, .cap (.t 13)⟩,
  ⟨(some 15), none, .bin .mul .num (.k (.int .i64 2)) (.t 14)⟩,
  ⟨(some 16), none, .bin .lss .num (.t 12) (.t 15)⟩])
 (.cond (.t 16) (.reg [⟨(some 17), none, .move (.t 0)⟩,
  ⟨(some 18), none, .cap (.t 17)⟩,
  ⟨(some 19), none, .bin .mul .num (.k (.int .i64 2)) (.t 18)⟩,
  ⟨(some 5), none, .move (.t 19)⟩])
 (.skip)))
 (.seq (.reg [⟨(some 20), none, .move (.t 5)⟩,
  ⟨(some 21), none, .append .zeros 5 1 1 [(.int .u8 0)] (.k .nilslice) (.t 20)⟩,
  ⟨(some 6), none, .move (.t 21)⟩])
 (.seq (.reg [⟨(some 22), none, .move (.t 6)⟩,
  ⟨(some 23), none, .move (.t 0)⟩,
  ⟨(some 24), none, .copy 1 (.t 22) (.t 23)⟩,
  ⟨(some 7), none, .move (.t 24)⟩])
 (.seq (.reg [⟨(some 25), none, .move (.t 6)⟩,
  ⟨(some 26), none, .move (.t 7)⟩,
  ⟨(some 27), none, .sliceSl 1 (.t 25) none (some (.t 26)) none⟩,
  ⟨(some 4), none, .move (.t 27)⟩])
 (.ret))))))))
def af116 : AFun := .intr .indexByte
def af181 : AFun := .body 3 [] true (.seq (.reg [⟨(some 0), none, .recover⟩,
  ⟨(some 1), none, .bin .neq (.iface true oksT) (.t 0) (.k .niliface)⟩])
 (.cond (.t 1) (.reg [⟨(some 2), none, .load false 1 (.k (.pptr gl0 0))⟩,
  ⟨none, none, .panic (.t 2)⟩])
 (.skip)))
end Go.AM
