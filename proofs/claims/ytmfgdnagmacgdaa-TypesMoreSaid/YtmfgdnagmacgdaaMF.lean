/- Parts of a proof, put together. No condition. -/
import Derived.Test.YtmfgdnagmacgdaaEe
section
/- Trees of questions of functions of the program (printed by a program of this session, wip/dv/sym.txt). No condition. -/
set_option maxRecDepth 100000
set_option linter.unusedVariables false
namespace Go.Proofs.Ytmfgdnagmacgdaa.Dv
/-! 147 147 -/
noncomputable def T147 (K : Nat) (a1 : ByteArray) : Option DV :=
  bif a1.toList == (ByteArray.mk #[]).toList then some (DV.bool false)
  else bif decide ((↑a1.size : Int) > 32) then some (DV.bool false)
  else need ((0 : Int) ≤ (0 : Int)) <|
  (Option.map (fun b => DV.int IntKind.u8 (↑b.toNat : Int)) a1[Int.toNat 0]?).bind fun x1 =>
  need (x1 = .int .u8 (getI x1)) <|
  (lm K 204 [.int .u8 (getI x1)]).bind fun d2 =>
  need (d2 = .int .i64 (getI d2)) <|
  bif getI d2 != 3 then some (DV.bool false)
  else (lm K 205 [.str a1]).bind fun d3 =>
  need (d3 = .bool (getB d3)) <|
  bif getB d3 then some (DV.bool false)
  else (lm K 206 [.str a1, .int .i64 0, .fn 207 [] []]).bind fun d4 =>
  need (d4 = .int .i64 (getI d4)) <|
  some (DV.bool (getI d4 == (↑a1.size : Int)))
theorem t147 {K : Nat} (a1 : ByteArray) {r : DV} (h : T147 K a1 = some r) : lm K 147 [.str a1] = some r := fn_run (Eq.trans (by kernel_rfl) h)
/-! 204 204 -/
noncomputable def T204 (K : Nat) (a1 : Int) : Option DV :=
  bif a1 == 32 then some (DV.int .i64 1)
  else bif a1 == 9 then some (DV.int .i64 1)
  else bif a1 == 13 then some (DV.int .i64 1)
  else bif a1 == 10 then some (DV.int .i64 1)
  else bif a1 == 35 then some (DV.int .i64 2)
  else bif decide (a1 ≥ 97) then bif decide (a1 ≤ 122) then some (DV.int .i64 3)
   else bif decide (a1 ≥ 65) then bif decide (a1 ≤ 90) then some (DV.int .i64 3)
    else bif decide (a1 ≥ 48) then bif decide (a1 ≤ 57) then some (DV.int .i64 4)
     else (lm K 233 [.str (ByteArray.mk #[123, 125, 40, 41, 59, 58, 61, 60, 62, 43, 45, 42, 33, 46, 38, 124]), .int .u8 a1]).bind fun d1 =>
     need (d1 = .int .i64 (getI d1)) <|
     bif decide (getI d1 ≥ 0) then some (DV.int .i64 5)
     else some (DV.int .i64 0)
    else (lm K 233 [.str (ByteArray.mk #[123, 125, 40, 41, 59, 58, 61, 60, 62, 43, 45, 42, 33, 46, 38, 124]), .int .u8 a1]).bind fun d2 =>
    need (d2 = .int .i64 (getI d2)) <|
    bif decide (getI d2 ≥ 0) then some (DV.int .i64 5)
    else some (DV.int .i64 0)
   else bif decide (a1 ≥ 48) then bif decide (a1 ≤ 57) then some (DV.int .i64 4)
    else (lm K 233 [.str (ByteArray.mk #[123, 125, 40, 41, 59, 58, 61, 60, 62, 43, 45, 42, 33, 46, 38, 124]), .int .u8 a1]).bind fun d3 =>
    need (d3 = .int .i64 (getI d3)) <|
    bif decide (getI d3 ≥ 0) then some (DV.int .i64 5)
    else some (DV.int .i64 0)
   else (lm K 233 [.str (ByteArray.mk #[123, 125, 40, 41, 59, 58, 61, 60, 62, 43, 45, 42, 33, 46, 38, 124]), .int .u8 a1]).bind fun d4 =>
   need (d4 = .int .i64 (getI d4)) <|
   bif decide (getI d4 ≥ 0) then some (DV.int .i64 5)
   else some (DV.int .i64 0)
  else bif decide (a1 ≥ 65) then bif decide (a1 ≤ 90) then some (DV.int .i64 3)
   else bif decide (a1 ≥ 48) then bif decide (a1 ≤ 57) then some (DV.int .i64 4)
    else (lm K 233 [.str (ByteArray.mk #[123, 125, 40, 41, 59, 58, 61, 60, 62, 43, 45, 42, 33, 46, 38, 124]), .int .u8 a1]).bind fun d5 =>
    need (d5 = .int .i64 (getI d5)) <|
    bif decide (getI d5 ≥ 0) then some (DV.int .i64 5)
    else some (DV.int .i64 0)
   else (lm K 233 [.str (ByteArray.mk #[123, 125, 40, 41, 59, 58, 61, 60, 62, 43, 45, 42, 33, 46, 38, 124]), .int .u8 a1]).bind fun d6 =>
   need (d6 = .int .i64 (getI d6)) <|
   bif decide (getI d6 ≥ 0) then some (DV.int .i64 5)
   else some (DV.int .i64 0)
  else bif decide (a1 ≥ 48) then bif decide (a1 ≤ 57) then some (DV.int .i64 4)
   else (lm K 233 [.str (ByteArray.mk #[123, 125, 40, 41, 59, 58, 61, 60, 62, 43, 45, 42, 33, 46, 38, 124]), .int .u8 a1]).bind fun d7 =>
   need (d7 = .int .i64 (getI d7)) <|
   bif decide (getI d7 ≥ 0) then some (DV.int .i64 5)
   else some (DV.int .i64 0)
  else (lm K 233 [.str (ByteArray.mk #[123, 125, 40, 41, 59, 58, 61, 60, 62, 43, 45, 42, 33, 46, 38, 124]), .int .u8 a1]).bind fun d8 =>
  need (d8 = .int .i64 (getI d8)) <|
  bif decide (getI d8 ≥ 0) then some (DV.int .i64 5)
  else some (DV.int .i64 0)
theorem t204 {K : Nat} (a1 : Int) {r : DV} (h : T204 K a1 = some r) : lm K 204 [.int .u8 a1] = some r := fn_run (Eq.trans (by kernel_rfl) h)
/-! 205 205 -/
noncomputable def T205 (K : Nat) (a1 : ByteArray) : Option DV :=
  bif a1.toList == (ByteArray.mk #[109, 111, 110, 105, 116, 111, 114]).toList then some (DV.bool true)
  else bif a1.toList == (ByteArray.mk #[118, 97, 114]).toList then some (DV.bool true)
  else bif a1.toList == (ByteArray.mk #[109, 101, 116, 104, 111, 100]).toList then some (DV.bool true)
  else bif a1.toList == (ByteArray.mk #[116, 104, 114, 101, 97, 100]).toList then some (DV.bool true)
  else bif a1.toList == (ByteArray.mk #[98, 111, 111, 108]).toList then some (DV.bool true)
  else bif a1.toList == (ByteArray.mk #[105, 110, 116]).toList then some (DV.bool true)
  else bif a1.toList == (ByteArray.mk #[116, 114, 117, 101]).toList then some (DV.bool true)
  else bif a1.toList == (ByteArray.mk #[102, 97, 108, 115, 101]).toList then some (DV.bool true)
  else bif a1.toList == (ByteArray.mk #[115, 107, 105, 112]).toList then some (DV.bool true)
  else bif a1.toList == (ByteArray.mk #[105, 102]).toList then some (DV.bool true)
  else bif a1.toList == (ByteArray.mk #[101, 108, 115, 101]).toList then some (DV.bool true)
  else bif a1.toList == (ByteArray.mk #[119, 104, 105, 108, 101]).toList then some (DV.bool true)
  else bif a1.toList == (ByteArray.mk #[108, 111, 111, 112]).toList then some (DV.bool true)
  else bif a1.toList == (ByteArray.mk #[99, 104, 111, 111, 115, 101]).toList then some (DV.bool true)
  else bif a1.toList == (ByteArray.mk #[111, 114]).toList then some (DV.bool true)
  else bif a1.toList == (ByteArray.mk #[115, 121, 110, 99]).toList then some (DV.bool true)
  else bif a1.toList == (ByteArray.mk #[99, 97, 108, 108]).toList then some (DV.bool true)
  else bif a1.toList == (ByteArray.mk #[119, 97, 105, 116]).toList then some (DV.bool true)
  else bif a1.toList == (ByteArray.mk #[110, 111, 116, 105, 102, 121]).toList then some (DV.bool true)
  else bif a1.toList == (ByteArray.mk #[110, 111, 116, 105, 102, 121, 97, 108, 108]).toList then some (DV.bool true)
  else some (DV.bool false)
theorem t205 {K : Nat} (a1 : ByteArray) {r : DV} (h : T205 K a1 = some r) : lm K 205 [.str a1] = some r := fn_run (Eq.trans (by kernel_rfl) h)
/-! 206 206 -/
noncomputable def H206_0 (a1 : ByteArray) (a2 : Int) (v3 : Int) : St := ⟨[.str a1, .int .i64 v3, .fn 207 [] []] ++ (un 18), []⟩
def P206_0 : List Dir := [.c, .l, .r]
noncomputable def hd206_0 (K : Nat) (a1 : ByteArray) (a2 : Int) (v3 : Int) : Option DV := hdL Try.prog (C0 K) 206 P206_0 (bits 21 7) 0 (H206_0 a1 a2 v3)
noncomputable def T206 (K : Nat) (a1 : ByteArray) (a2 : Int) : Option DV :=
  hd206_0 K a1 a2 a2
theorem t206 {K : Nat} (a1 : ByteArray) (a2 : Int) {r : DV} (h : T206 K a1 a2 = some r) : lm K 206 [.str a1, .int .i64 a2, .fn 207 [] []] = some r := fn_run (Eq.trans (by kernel_rfl) h)
noncomputable def L206_0 (K : Nat) (a1 : ByteArray) (a2 : Int) (v3 : Int) : Option DV :=
  bif decide (v3 < (↑a1.size : Int)) then need ((0 : Int) ≤ v3) <|
   (Option.map (fun b => DV.int IntKind.u8 (↑b.toNat : Int)) a1[v3.toNat]?).bind fun x1 =>
   need (x1 = .int .u8 (getI x1)) <|
   (lm K 207 [.int .u8 (getI x1)]).bind fun d2 =>
   need (d2 = .bool (getB d2)) <|
   bif getB d2 then hd206_0 K a1 a2 (IntKind.i64.wrap (v3 + 1))
   else some (DV.int .i64 v3)
  else some (DV.int .i64 v3)
theorem l206_0 {K : Nat} (a1 : ByteArray) (a2 : Int) (v3 : Int) {r : DV} (h : L206_0 K a1 a2 v3 = some r) : hd206_0 K a1 a2 v3 = some r := hd_run (Eq.trans (by kernel_rfl) h)
/-! 207 207 -/
noncomputable def T207 (K : Nat) (a1 : Int) : Option DV :=
  (lm K 204 [.int .u8 a1]).bind fun d1 =>
  need (d1 = .int .i64 (getI d1)) <|
  bif getI d1 == 3 then some (DV.bool true)
  else bif getI d1 == 4 then some (DV.bool true)
  else some (DV.bool (a1 == 95))
theorem t207 {K : Nat} (a1 : Int) {r : DV} (h : T207 K a1 = some r) : lm K 207 [.int .u8 a1] = some r := fn_run (Eq.trans (by kernel_rfl) h)
/-! 88 88 -/
/-! 154 154 -/
/-! 155 155 -/
/-! 156 156 -/
/-! 211 211 -/
end Go.Proofs.Ytmfgdnagmacgdaa.Dv
end
section
/- Trees of questions of functions of the program (printed by a program of this session, wip/dv/sym.txt). No condition. -/
set_option maxRecDepth 100000
set_option linter.unusedVariables false
namespace Go.Proofs.Ytmfgdnagmacgdaa.Dv
/-! 212 212 -/
/-! 158 158 -/
/-! 157 157 -/
/-! 159 159 -/
/-! 165 165 -/
/-! 235 235 -/
/-! 236 236 -/
/-! 209 209 -/
/-! 234 234 -/
/-! 208 208 -/
/-! 149 149 -/
/-! 210 210 -/
end Go.Proofs.Ytmfgdnagmacgdaa.Dv
end
section
/- Trees of questions of functions of the program (printed by a program of this session, wip/dv/sym.txt). No condition. -/
set_option maxRecDepth 100000
set_option linter.unusedVariables false
namespace Go.Proofs.Ytmfgdnagmacgdaa.Dv
/-! 152 152 -/
/-! 148 148 -/
/-! 151 151 -/
/-! 113 113 -/
/-! 150 150 -/
/-! 167 167 -/
/-! 153 153 -/
/-! 86 86 -/
/-! 87 87 -/
/-! 27 27 -/
end Go.Proofs.Ytmfgdnagmacgdaa.Dv
end
section
/- Trees of questions of functions of the program (printed by a program of this session, wip/dv/sym.txt). No condition. -/
set_option maxRecDepth 100000
set_option linter.unusedVariables false
namespace Go.Proofs.Ytmfgdnagmacgdaa.Dv
/-! 89 89 -/
/-! 40 40 -/
noncomputable def H40_0 (a1 : DV) (a2 : Int) (v3 : Int) (v4 : Int) : St := ⟨[.undef] ++ [.int .i64 v3, .ptr 0 0] ++ [.undef, .undef] ++ [.int .i64 v4] ++ (un 38), [.box ((R 51 a1).cells)]⟩
def P40_0 : List Dir := [.c, .r, .l, .r, .r, .r]
noncomputable def hd40_0 (K : Nat) (a1 : DV) (a2 : Int) (v3 : Int) (v4 : Int) : Option DV := hdL Try.prog (C0 K) 40 P40_0 (bits 44 38) 1 (H40_0 a1 a2 v3 v4)
noncomputable def T40 (K : Nat) (a1 : DV) (a2 : Int) : Option DV :=
  bif decide ((↑(gS a1 1).size : Int) > 200) then some (DV.int .i64 (-1))
  else bif decide ((↑(gS a1 2).size : Int) > 200) then some (DV.int .i64 (-1))
  else bif decide ((↑(gL a1 4).length : Int) > a2) then some (DV.int .i64 (-1))
  else hd40_0 K a1 a2 (IntKind.i64.wrap (a2 - 1)) 0
theorem t40 {K : Nat} (a1 : DV) (a2 : Int) {r : DV} (h : T40 K a1 a2 = some r) : lm K 40 [R 51 a1, .int .i64 a2] = some r := fn_run (Eq.trans (by kernel_rfl) h)
noncomputable def L40_0 (K : Nat) (a1 : DV) (a2 : Int) (v3 : Int) (v4 : Int) : Option DV :=
  bif decide (v4 < (↑(gL a1 4).length : Int)) then bif decide (v3 ≥ 0) then need ((0 : Int) ≤ v4) <|
    ((gL a1 4)[v4.toNat]?).bind fun x1 =>
    need (x1 = R 51 x1) <|
    (lm K 40 [R 51 x1, .int .i64 v3]).bind fun d2 =>
    need (d2 = .int .i64 (getI d2)) <|
    hd40_0 K a1 a2 (getI d2) (IntKind.i64.wrap (v4 + 1))
   else some (DV.int .i64 v3)
  else some (DV.int .i64 v3)
theorem l40_0 {K : Nat} (a1 : DV) (a2 : Int) (v3 : Int) (v4 : Int) {r : DV} (h : L40_0 K a1 a2 v3 v4 = some r) : hd40_0 K a1 a2 v3 v4 = some r := hd_run (Eq.trans (by kernel_rfl) h)
/-! 76 76 -/
noncomputable def H76_0 (a1 : List DV) (a2 : Int) (v11 : Int) (v12 : Int) : St := ⟨[.sl .no 12 a1, .int .i64 v11] ++ [.undef, .undef, .undef] ++ [.int .i64 v12] ++ (un 74), []⟩
def P76_0 : List Dir := [.c, .r, .l, .r, .r]
noncomputable def hd76_0 (K : Nat) (a1 : List DV) (a2 : Int) (v11 : Int) (v12 : Int) : Option DV := hdL Try.prog (C0 K) 76 P76_0 (bits 80 35) 0 (H76_0 a1 a2 v11 v12)
noncomputable def H76_1 (a1 : List DV) (a2 : Int) (d5 : DV) (v6 : Int) (v10 : Int) : St := ⟨[.sl .no 12 a1, .int .i64 (getI d5)] ++ [.undef, .undef, .undef] ++ [.int .i64 v6, .int .i64 v10] ++ (un 73), []⟩
def P76_1 : List Dir := [.c, .r, .r, .r, .c, .l, .r, .loop (bits 80 35) 0, .c, .r, .l, .r, .r]
noncomputable def hd76_1 (K : Nat) (a1 : List DV) (a2 : Int) (d5 : DV) (v6 : Int) (v10 : Int) : Option DV := hdL Try.prog (C0 K) 76 P76_1 (bits 80 99) 0 (H76_1 a1 a2 d5 v6 v10)
noncomputable def T76 (K : Nat) (a1 : List DV) (a2 : Int) : Option DV :=
  bif decide ((↑a1.length : Int) > a2) then some (DV.int .i64 (-1))
  else hd76_0 K a1 a2 a2 0
theorem t76 {K : Nat} (a1 : List DV) (a2 : Int) {r : DV} (h : T76 K a1 a2 = some r) : lm K 76 [.sl .no 12 a1, .int .i64 a2] = some r := fn_run (Eq.trans (by kernel_rfl) h)
noncomputable def L76_0 (K : Nat) (a1 : List DV) (a2 : Int) (v11 : Int) (v12 : Int) : Option DV :=
  bif decide (v12 < (↑a1.length : Int)) then bif decide (v11 ≥ 0) then need ((0 : Int) ≤ v12) <|
    (a1[v12.toNat]?).bind fun x1 =>
    need (x1 = R 56 x1) <|
    bif decide ((↑(gS x1 1).size : Int) > 200) then some (DV.int .i64 (-1))
    else need ((0 : Int) ≤ v12) <|
    (a1[v12.toNat]?).bind fun x2 =>
    need (x2 = R 56 x2) <|
    bif decide ((↑(gS x2 2).size : Int) > 200) then some (DV.int .i64 (-1))
    else need ((0 : Int) ≤ v12) <|
    (a1[v12.toNat]?).bind fun x3 =>
    need (x3 = R 56 x3) <|
    bif decide ((↑(gL x3 10).length : Int) > 40) then some (DV.int .i64 (-1))
    else need ((0 : Int) ≤ v12) <|
    (a1[v12.toNat]?).bind fun x4 =>
    need (x4 = R 56 x4) <|
    (lm K 40 [.agg [.int .i64 (gI x4 4), .str (gS x4 5), .str (gS x4 6), .int .i64 (gI x4 7), .sl .no 6 (gL x4 8), .int .i64 (gI x4 9)], .int .i64 (IntKind.i64.wrap (v11 - 1))]).bind fun d5 =>
    need (d5 = .int .i64 (getI d5)) <|
    hd76_1 K a1 a2 d5 v12 0
   else some (DV.int .i64 v11)
  else some (DV.int .i64 v11)
theorem l76_0 {K : Nat} (a1 : List DV) (a2 : Int) (v11 : Int) (v12 : Int) {r : DV} (h : L76_0 K a1 a2 v11 v12 = some r) : hd76_0 K a1 a2 v11 v12 = some r := hd_run (Eq.trans (by kernel_rfl) h)
noncomputable def L76_1 (K : Nat) (a1 : List DV) (a2 : Int) (d5 : DV) (v6 : Int) (v10 : Int) : Option DV :=
  need ((0 : Int) ≤ v6) <|
  (a1[v6.toNat]?).bind fun x6 =>
  need (x6 = R 56 x6) <|
  bif decide (v10 < (↑(gL x6 10).length : Int)) then bif decide (getI d5 ≥ 0) then need ((0 : Int) ≤ v6) <|
    (a1[v6.toNat]?).bind fun x7 =>
    need (x7 = R 56 x7) <|
    need ((0 : Int) ≤ v10) <|
    ((gL x7 10)[v10.toNat]?).bind fun x8 =>
    need (x8 = .sl .no 12 (getL x8)) <|
    (lm K 76 [.sl .no 12 (getL x8), .int .i64 (IntKind.i64.wrap (getI d5 - 1))]).bind fun d9 =>
    need (d9 = .int .i64 (getI d9)) <|
    hd76_1 K a1 a2 d9 v6 (IntKind.i64.wrap (v10 + 1))
   else hd76_0 K a1 a2 (getI d5) (IntKind.i64.wrap (v6 + 1))
  else hd76_0 K a1 a2 (getI d5) (IntKind.i64.wrap (v6 + 1))
theorem l76_1 {K : Nat} (a1 : List DV) (a2 : Int) (d5 : DV) (v6 : Int) (v10 : Int) {r : DV} (h : L76_1 K a1 a2 d5 v6 v10 = some r) : hd76_1 K a1 a2 d5 v6 v10 = some r := hd_run (Eq.trans (by kernel_rfl) h)
/-! 25 25 -/
noncomputable def H25_0 (a1 : DV) (a2 : Int) (v11 : Int) (v1 : Int) : St := ⟨[.undef, .undef] ++ [.ptr 0 0] ++ [.undef, .undef] ++ [.int .i64 v11, .int .i64 v1] ++ (un 106), [.box ((R 25 a1).cells)]⟩
def P25_0 : List Dir := [.c, .r, .l, .r, .r, .r]
noncomputable def hd25_0 (K : Nat) (a1 : DV) (a2 : Int) (v11 : Int) (v1 : Int) : Option DV := hdL Try.prog (C0 K) 25 P25_0 (bits 113 100) 1 (H25_0 a1 a2 v11 v1)
noncomputable def H25_1 (a1 : DV) (a2 : Int) (v3 : Int) (v2 : Int) (v5 : Int) (x1 : DV) : St := ⟨[.undef, .undef] ++ [.ptr 0 0] ++ [.undef, .undef] ++ [.int .i64 v3, .int .i64 v2, .ptr 1 0, .int .i64 v5] ++ (un 104), [.box ((R 25 a1).cells), .box ((R 45 x1).cells)]⟩
def P25_1 : List Dir := [.c, .r, .l, .r, .r, .c, .l, .r, .loop (bits 113 100) 1, .c, .r, .l, .r, .r, .r]
noncomputable def hd25_1 (K : Nat) (a1 : DV) (a2 : Int) (v3 : Int) (v2 : Int) (v5 : Int) (x1 : DV) : Option DV := hdL Try.prog (C0 K) 25 P25_1 (bits 113 484) 2 (H25_1 a1 a2 v3 v2 v5 x1)
noncomputable def H25_2 (a1 : DV) (a2 : Int) (v7 : Int) (v8 : Int) : St := ⟨[.undef, .undef] ++ [.ptr 0 0] ++ [.undef, .undef] ++ [.int .i64 v7] ++ (un 4) ++ [.int .i64 v8] ++ (un 102), [.box ((R 25 a1).cells)]⟩
def P25_2 : List Dir := [.c, .r, .l, .r, .r, .r, .r]
noncomputable def hd25_2 (K : Nat) (a1 : DV) (a2 : Int) (v7 : Int) (v8 : Int) : Option DV := hdL Try.prog (C0 K) 25 P25_2 (bits 113 1060) 1 (H25_2 a1 a2 v7 v8)
noncomputable def H25_3 (a1 : DV) (a2 : Int) (v9 : Int) (v4 : Int) (v10 : Int) (x1 : DV) : St := ⟨[.undef, .undef] ++ [.ptr 0 0] ++ [.undef, .undef] ++ [.int .i64 v9, .int .i64 v4, .ptr 1 0] ++ [.undef] ++ [.int .i64 v10] ++ (un 103), [.box ((R 25 a1).cells), .box ((R 45 x1).cells)]⟩
def P25_3 : List Dir := [.c, .r, .r, .r, .r, .c, .l, .r, .loop (bits 113 100) 1, .c, .r, .l, .r, .r, .r]
noncomputable def hd25_3 (K : Nat) (a1 : DV) (a2 : Int) (v9 : Int) (v4 : Int) (v10 : Int) (x1 : DV) : Option DV := hdL Try.prog (C0 K) 25 P25_3 (bits 113 740) 2 (H25_3 a1 a2 v9 v4 v10 x1)
noncomputable def T25 (K : Nat) (a1 : DV) (a2 : Int) : Option DV :=
  bif decide ((↑(gL a1 0).length : Int) > 20) then some (DV.bool false)
  else bif decide ((↑(gL a1 1).length : Int) > 20) then some (DV.bool false)
  else hd25_0 K a1 a2 a2 0
theorem t25 {K : Nat} (a1 : DV) (a2 : Int) {r : DV} (h : T25 K a1 a2 = some r) : lm K 25 [R 25 a1, .int .i64 a2] = some r := fn_run (Eq.trans (by kernel_rfl) h)
noncomputable def L25_0 (K : Nat) (a1 : DV) (a2 : Int) (v11 : Int) (v1 : Int) : Option DV :=
  bif decide (v1 < (↑(gL a1 0).length : Int)) then need ((0 : Int) ≤ v1) <|
   ((gL a1 0)[v1.toNat]?).bind fun x1 =>
   need (x1 = R 45 x1) <|
   bif decide ((↑(gL x1 1).length : Int) > 40) then some (DV.bool false)
   else bif decide ((↑(gL x1 2).length : Int) > 40) then some (DV.bool false)
   else bif decide ((↑(gS x1 0).size : Int) > 200) then some (DV.bool false)
   else hd25_1 K a1 a2 v11 v1 0 x1
  else hd25_2 K a1 a2 v11 0
theorem l25_0 {K : Nat} (a1 : DV) (a2 : Int) (v11 : Int) (v1 : Int) {r : DV} (h : L25_0 K a1 a2 v11 v1 = some r) : hd25_0 K a1 a2 v11 v1 = some r := hd_run (Eq.trans (by kernel_rfl) h)
noncomputable def L25_1 (K : Nat) (a1 : DV) (a2 : Int) (v3 : Int) (v2 : Int) (v5 : Int) (x1 : DV) : Option DV :=
  bif decide (v5 < (↑(gL x1 1).length : Int)) then need ((0 : Int) ≤ v5) <|
   ((gL x1 1)[v5.toNat]?).bind fun x2 =>
   need (x2 = R 61 x2) <|
   bif decide ((↑(gS x2 0).size : Int) > 200) then some (DV.bool false)
   else hd25_1 K a1 a2 v3 v2 (IntKind.i64.wrap (v5 + 1)) x1
  else hd25_3 K a1 a2 v3 v2 0 x1
theorem l25_1 {K : Nat} (a1 : DV) (a2 : Int) (v3 : Int) (v2 : Int) (v5 : Int) (x1 : DV) {r : DV} (h : L25_1 K a1 a2 v3 v2 v5 x1 = some r) : hd25_1 K a1 a2 v3 v2 v5 x1 = some r := hd_run (Eq.trans (by kernel_rfl) h)
noncomputable def L25_2 (K : Nat) (a1 : DV) (a2 : Int) (v7 : Int) (v8 : Int) : Option DV :=
  bif decide (v8 < (↑(gL a1 1).length : Int)) then need ((0 : Int) ≤ v8) <|
   ((gL a1 1)[v8.toNat]?).bind fun x3 =>
   need (x3 = R 35 x3) <|
   bif decide ((↑(gS x3 0).size : Int) > 200) then some (DV.bool false)
   else need ((0 : Int) ≤ v8) <|
   ((gL a1 1)[v8.toNat]?).bind fun x4 =>
   need (x4 = R 35 x4) <|
   (lm K 76 [.sl .no 12 (gL x4 3), .int .i64 v7]).bind fun d5 =>
   need (d5 = .int .i64 (getI d5)) <|
   hd25_2 K a1 a2 (getI d5) (IntKind.i64.wrap (v8 + 1))
  else some (DV.bool (decide (v7 ≥ 0)))
theorem l25_2 {K : Nat} (a1 : DV) (a2 : Int) (v7 : Int) (v8 : Int) {r : DV} (h : L25_2 K a1 a2 v7 v8 = some r) : hd25_2 K a1 a2 v7 v8 = some r := hd_run (Eq.trans (by kernel_rfl) h)
noncomputable def L25_3 (K : Nat) (a1 : DV) (a2 : Int) (v9 : Int) (v4 : Int) (v10 : Int) (x1 : DV) : Option DV :=
  bif decide (v10 < (↑(gL x1 2).length : Int)) then need ((0 : Int) ≤ v10) <|
   ((gL x1 2)[v10.toNat]?).bind fun x6 =>
   need (x6 = R 102 x6) <|
   bif decide ((↑(gS x6 0).size : Int) > 200) then some (DV.bool false)
   else need ((0 : Int) ≤ v10) <|
   ((gL x1 2)[v10.toNat]?).bind fun x7 =>
   need (x7 = R 102 x7) <|
   (lm K 76 [.sl .no 12 (gL x7 1), .int .i64 v9]).bind fun d8 =>
   need (d8 = .int .i64 (getI d8)) <|
   hd25_3 K a1 a2 (getI d8) v4 (IntKind.i64.wrap (v10 + 1)) x1
  else hd25_0 K a1 a2 v9 (IntKind.i64.wrap (v4 + 1))
theorem l25_3 {K : Nat} (a1 : DV) (a2 : Int) (v9 : Int) (v4 : Int) (v10 : Int) (x1 : DV) {r : DV} (h : L25_3 K a1 a2 v9 v4 v10 x1 = some r) : hd25_3 K a1 a2 v9 v4 v10 x1 = some r := hd_run (Eq.trans (by kernel_rfl) h)
/-! 28 28 -/
/-! 3 3 -/
end Go.Proofs.Ytmfgdnagmacgdaa.Dv
end
section
/- Trees of questions of functions of the program (printed by a program of this session, wip/dv/sym.txt). No condition. -/
set_option maxRecDepth 100000
set_option linter.unusedVariables false
namespace Go.Proofs.Ytmfgdnagmacgdaa.Dv
/-! 4 4 -/
/-! 33 33 -/
/-! 34 34 -/
/-! 99 99 -/
/-! 166 166 -/
/-! 30 30 -/
/-! 95 95 -/
end Go.Proofs.Ytmfgdnagmacgdaa.Dv
end
section
/- Trees of questions of functions of the program (printed by a program of this session, wip/dv/sym.txt). No condition. -/
set_option maxRecDepth 100000
set_option linter.unusedVariables false
namespace Go.Proofs.Ytmfgdnagmacgdaa.Dv
/-! 108 108 -/
noncomputable def H108_0 (a1 : List DV) (a2 : ByteArray) (v2 : Int) : St := ⟨[.sl .no 4 a1, .fn 109 [] [.ptr 0 0]] ++ (un 5) ++ [.int .i64 ((↑a1.length : Int)), .int .i64 v2] ++ (un 10), [.box [.str a2]]⟩
def P108_0 : List Dir := [.c, .r, .l, .r]
noncomputable def hd108_0 (K : Nat) (a1 : List DV) (a2 : ByteArray) (v2 : Int) : Option DV := hdLH Try.prog (C0 K) 108 1 P108_0 (bits 19 387) 1 (H108_0 a1 a2 v2)
noncomputable def T108 (K : Nat) (a1 : List DV) (a2 : ByteArray) : Option DV :=
  hd108_0 K a1 a2 0
theorem t108 {K : Nat} (a1 : List DV) (a2 : ByteArray) {r : DV} (h : T108 K a1 a2 = some r) : lmH K 108 [.sl .no 4 a1, .fn 109 [] [.ptr 0 0]] [.box [.str a2]] = some r := fnH_run (Eq.trans (by kernel_rfl) h)
noncomputable def L108_0 (K : Nat) (a1 : List DV) (a2 : ByteArray) (v2 : Int) : Option DV :=
  bif decide (v2 < (↑a1.length : Int)) then need ((0 : Int) ≤ v2) <|
   (a1[v2.toNat]?).bind fun x3 =>
   need (x3 = R 45 x3) <|
   bif (gS x3 0).toList == a2.toList then some (DV.tup [.int .i64 v2, .agg [.str a2]])
   else hd108_0 K a1 a2 (IntKind.i64.wrap (v2 + 1))
  else some (DV.tup [.int .i64 (-1), .agg [.str a2]])
theorem l108_0 {K : Nat} (a1 : List DV) (a2 : ByteArray) (v2 : Int) {r : DV} (h : L108_0 K a1 a2 v2 = some r) : hd108_0 K a1 a2 v2 = some r := hdH_run (Eq.trans (by kernel_rfl) h)
/-! 113 113s -/
noncomputable def H113s_0 (a1 : List DV) (a2 : ByteArray) (v2 : Int) : St := ⟨[.sl .no 6 a1, .fn 114 [] [.ptr 0 0]] ++ (un 5) ++ [.int .i64 ((↑a1.length : Int)), .int .i64 v2] ++ (un 10), [.box [.str a2]]⟩
def P113s_0 : List Dir := [.c, .r, .l, .r]
noncomputable def hd113s_0 (K : Nat) (a1 : List DV) (a2 : ByteArray) (v2 : Int) : Option DV := hdLH Try.prog (C0 K) 113 1 P113s_0 (bits 19 387) 1 (H113s_0 a1 a2 v2)
noncomputable def T113s (K : Nat) (a1 : List DV) (a2 : ByteArray) : Option DV :=
  hd113s_0 K a1 a2 0
theorem t113s {K : Nat} (a1 : List DV) (a2 : ByteArray) {r : DV} (h : T113s K a1 a2 = some r) : lmH K 113 [.sl .no 6 a1, .fn 114 [] [.ptr 0 0]] [.box [.str a2]] = some r := fnH_run (Eq.trans (by kernel_rfl) h)
noncomputable def L113s_0 (K : Nat) (a1 : List DV) (a2 : ByteArray) (v2 : Int) : Option DV :=
  bif decide (v2 < (↑a1.length : Int)) then need ((0 : Int) ≤ v2) <|
   (a1[v2.toNat]?).bind fun x3 =>
   need (x3 = R 61 x3) <|
   bif (gS x3 0).toList == a2.toList then some (DV.tup [.int .i64 v2, .agg [.str a2]])
   else hd113s_0 K a1 a2 (IntKind.i64.wrap (v2 + 1))
  else some (DV.tup [.int .i64 (-1), .agg [.str a2]])
theorem l113s_0 {K : Nat} (a1 : List DV) (a2 : ByteArray) (v2 : Int) {r : DV} (h : L113s_0 K a1 a2 v2 = some r) : hd113s_0 K a1 a2 v2 = some r := hdH_run (Eq.trans (by kernel_rfl) h)
/-! 39 39 -/
noncomputable def T39 (K : Nat) (a1 : DV) (a2 : ByteArray) : Option DV :=
  (lmH K 108 [.sl .no 4 (gL a1 0), .fn 109 [] [.ptr 0 0]] [.box [.str a2]]).bind fun d1 =>
  need (d1 = .tup [.int .i64 (getI (getT d1 0)), .agg [.str (gS (getT d1 1) 0)]]) <|
  some (DV.tup [.int .i64 (if 0 > getI (getT d1 0) then 0 else getI (getT d1 0)), .bool (decide (getI (getT d1 0) ≥ 0))])
theorem t39 {K : Nat} (a1 : DV) (a2 : ByteArray) {r : DV} (h : T39 K a1 a2 = some r) : lm K 39 [R 25 a1, .str a2] = some r := fn_run (Eq.trans (by kernel_rfl) h)
/-! 43 43 -/
noncomputable def H43_0 (a1 : DV) (a2 : ByteArray) (a3 : ByteArray) (v5 : Int) (d1 : DV) (v6 : Int) (d3 : DV) : St := ⟨(un 10) ++ [.int .i64 v5] ++ (un 23) ++ [.sl .no 4 (List.take (getI (getT d1 0)).toNat (gL a1 0)), .int .i64 ((↑(List.take (getI (getT d1 0)).toNat (gL a1 0)).length : Int)), .int .i64 v6] ++ (un 10), [.box ((R 25 a1).cells), .box [.str (gS (getT d3 1) 0)]]⟩
def P43_0 : List Dir := [.c, .r, .l, .r, .r, .r, .r, .r]
noncomputable def hd43_0 (K : Nat) (a1 : DV) (a2 : ByteArray) (a3 : ByteArray) (v5 : Int) (d1 : DV) (v6 : Int) (d3 : DV) : Option DV := hdL Try.prog (C0 K) 43 P43_0 (bits 47 120259085312) 2 (H43_0 a1 a2 a3 v5 d1 v6 d3)
noncomputable def T43 (K : Nat) (a1 : DV) (a2 : ByteArray) (a3 : ByteArray) : Option DV :=
  (lm K 39 [R 25 a1, .str a2]).bind fun d7 =>
  need (d7 = .tup [.int .i64 (getI (getT d7 0)), .bool (getB (getT d7 1))]) <|
  bif !getB (getT d7 1) then some (DV.tup [.int .i64 0, .bool false])
  else need ((0 : Int) ≤ getI (getT d7 (0 : Nat))) <|
  ((gL a1 0)[(getI (getT d7 0)).toNat]?).bind fun x8 =>
  need (x8 = R 45 x8) <|
  (lmH K 113 [.sl .no 6 (gL x8 1), .fn 114 [] [.ptr 0 0]] [.box [.str a3]]).bind fun d9 =>
  need (d9 = .tup [.int .i64 (getI (getT d9 0)), .agg [.str (gS (getT d9 1) 0)]]) <|
  bif decide (getI (getT d9 0) < 0) then some (DV.tup [.int .i64 0, .bool false])
  else need ((0 : Int) ≤ getI (getT d7 (0 : Nat)) ∧ (getI (getT d7 (0 : Nat))).toNat ≤ (gL a1 (0 : Nat)).length) <|
  hd43_0 K a1 a2 a3 (getI (getT d9 0)) d7 0 d9
theorem t43 {K : Nat} (a1 : DV) (a2 : ByteArray) (a3 : ByteArray) {r : DV} (h : T43 K a1 a2 a3 = some r) : lm K 43 [R 25 a1, .str a2, .str a3] = some r := fn_run (Eq.trans (by kernel_rfl) h)
noncomputable def L43_0 (K : Nat) (a1 : DV) (a2 : ByteArray) (a3 : ByteArray) (v5 : Int) (d1 : DV) (v6 : Int) (d3 : DV) : Option DV :=
  bif decide (v6 < (↑(List.take (getI (getT d1 0)).toNat (gL a1 0)).length : Int)) then need ((0 : Int) ≤ v6) <|
   ((List.take (getI (getT d1 0)).toNat (gL a1 0))[v6.toNat]?).bind fun x10 =>
   need (x10 = R 45 x10) <|
   hd43_0 K a1 a2 a3 (IntKind.i64.wrap (v5 + (↑(gL x10 1).length : Int))) d1 (IntKind.i64.wrap (v6 + 1)) d3
  else some (DV.tup [.int .i64 v5, .bool true])
theorem l43_0 {K : Nat} (a1 : DV) (a2 : ByteArray) (a3 : ByteArray) (v5 : Int) (d1 : DV) (v6 : Int) (d3 : DV) {r : DV} (h : L43_0 K a1 a2 a3 v5 d1 v6 d3 = some r) : hd43_0 K a1 a2 a3 v5 d1 v6 d3 = some r := hd_run (Eq.trans (by kernel_rfl) h)
/-! 102 102 -/
noncomputable def H102_0 (a1 : DV) (v3 : List DV) (v2 : Int) (z4 : Nat) (v5 : Nat) : St := ⟨[.undef, .undef] ++ [.sl (.tok 1) 6 v3] ++ [.undef, .undef, .undef] ++ [.sl .no 4 (gL a1 0), .int .i64 ((↑(gL a1 0).length : Int)), .int .i64 v2] ++ (un 9), [.box ((R 25 a1).cells), .tok z4 v5]⟩
def P102_0 : List Dir := [.c, .r, .l, .r]
noncomputable def hd102_0 (K : Nat) (a1 : DV) (v3 : List DV) (v2 : Int) (z4 : Nat) (v5 : Nat) : Option DV := hdL Try.prog (C0 K) 102 P102_0 (bits 18 452) 2 (H102_0 a1 v3 v2 z4 v5)
noncomputable def T102 (K : Nat) (a1 : DV) : Option DV :=
  hd102_0 K a1 [] 0 0 0
theorem t102 {K : Nat} (a1 : DV) {r : DV} (h : T102 K a1 = some r) : lm K 102 [R 25 a1] = some r := fn_run (Eq.trans (by kernel_rfl) h)
noncomputable def L102_0 (K : Nat) (a1 : DV) (v3 : List DV) (v2 : Int) (z4 : Nat) (v5 : Nat) : Option DV :=
  bif decide (v2 < (↑(gL a1 0).length : Int)) then need ((0 : Int) ≤ v2) <|
   ((gL a1 0)[v2.toNat]?).bind fun x6 =>
   need (x6 = R 45 x6) <|
   need ((v3.length + (gL x6 (1 : Nat)).length) * (56 : Nat) ≤ (140737488355328 : Nat) ∧ v3.length = v5 ∧ ((6 : Nat) = (6 : Nat) ∧ z4 = (6 : Nat) ∨ v3 = [] ∧ z4 = (0 : Nat))) <|
   bif (gL x6 1).isEmpty then hd102_0 K a1 v3 (IntKind.i64.wrap (v2 + 1)) z4 v5
   else hd102_0 K a1 (v3 ++ gL x6 1) (IntKind.i64.wrap (v2 + 1)) 6 (v3.length + (gL x6 1).length)
  else some (DV.sl .no 6 v3)
theorem l102_0 {K : Nat} (a1 : DV) (v3 : List DV) (v2 : Int) (z4 : Nat) (v5 : Nat) {r : DV} (h : L102_0 K a1 v3 v2 z4 v5 = some r) : hd102_0 K a1 v3 v2 z4 v5 = some r := hd_run (Eq.trans (by kernel_rfl) h)
/-! 56 56 -/
noncomputable def H56_0 (a1 : DV) (v3 : List DV) (v2 : Int) (z4 : Nat) (v5 : Nat) : St := ⟨[.undef] ++ [.ptr 0 0] ++ [.undef] ++ [.sl (.tok 1) 6 v3, .int .i64 v2] ++ (un 16), [.box ((R 25 a1).cells), .tok z4 v5]⟩
def P56_0 : List Dir := [.c, .r, .l, .r, .r]
noncomputable def hd56_0 (K : Nat) (a1 : DV) (v3 : List DV) (v2 : Int) (z4 : Nat) (v5 : Nat) : Option DV := hdL Try.prog (C0 K) 56 P56_0 (bits 21 26) 2 (H56_0 a1 v3 v2 z4 v5)
noncomputable def T56 (K : Nat) (a1 : DV) : Option DV :=
  hd56_0 K a1 [] 0 0 0
theorem t56 {K : Nat} (a1 : DV) {r : DV} (h : T56 K a1 = some r) : lm K 56 [R 25 a1] = some r := fn_run (Eq.trans (by kernel_rfl) h)
noncomputable def L56_0 (K : Nat) (a1 : DV) (v3 : List DV) (v2 : Int) (z4 : Nat) (v5 : Nat) : Option DV :=
  bif decide (v2 < (↑(gL a1 0).length : Int)) then need ((0 : Int) ≤ v2) <|
   ((gL a1 0)[v2.toNat]?).bind fun x6 =>
   need (x6 = R 45 x6) <|
   need ((v3.length + (gL x6 (1 : Nat)).length) * (56 : Nat) ≤ (140737488355328 : Nat) ∧ v3.length = v5 ∧ ((6 : Nat) = (6 : Nat) ∧ z4 = (6 : Nat) ∨ v3 = [] ∧ z4 = (0 : Nat))) <|
   bif (gL x6 1).isEmpty then hd56_0 K a1 v3 (IntKind.i64.wrap (v2 + 1)) z4 v5
   else hd56_0 K a1 (v3 ++ gL x6 1) (IntKind.i64.wrap (v2 + 1)) 6 (v3.length + (gL x6 1).length)
  else some (DV.sl .no 6 v3)
theorem l56_0 {K : Nat} (a1 : DV) (v3 : List DV) (v2 : Int) (z4 : Nat) (v5 : Nat) {r : DV} (h : L56_0 K a1 v3 v2 z4 v5 = some r) : hd56_0 K a1 v3 v2 z4 v5 = some r := hd_run (Eq.trans (by kernel_rfl) h)
/-! 120 120 -/
/-! 118 118 -/
/-! 121 121 -/
/-! 50 50 -/
/-! 51 51 -/
/-! 52 52 -/
/-! 53 53 -/
/-! 54 54 -/
/-! 9 9 -/
/-! 47 47 -/
noncomputable def T47 (K : Nat) (a1 : Int) : Option DV :=
  some (DV.int .i64 a1)
theorem t47 {K : Nat} (a1 : Int) {r : DV} (h : T47 K a1 = some r) : lm K 47 [.int .i64 a1] = some r := fn_run (Eq.trans (by kernel_rfl) h)
end Go.Proofs.Ytmfgdnagmacgdaa.Dv
end
section
/- Trees of questions of functions of the program (printed by a program of this session, wip/dv/sym.txt). No condition. -/
set_option maxRecDepth 100000
set_option linter.unusedVariables false
namespace Go.Proofs.Ytmfgdnagmacgdaa.Dv
/-! 187 187 -/
noncomputable def T187 (K : Nat) (a1 : Int) : Option DV :=
  need ((0 : Int) ≤ a1 ∧ a1 < (18 : Int)) <|
  bif a1 == 0 then some (DV.agg [.int .i64 0, .int .i64 0])
  else bif a1 == 1 then some (DV.agg [.int .i64 2, .int .i64 0])
  else bif a1 == 2 then some (DV.agg [.int .i64 1, .int .i64 0])
  else bif a1 == 3 then some (DV.agg [.int .i64 1, .int .i64 0])
  else bif a1 == 4 then some (DV.agg [.int .i64 0, .int .i64 0])
  else bif a1 == 5 then some (DV.agg [.int .i64 1, .int .i64 1])
  else bif a1 == 6 then some (DV.agg [.int .i64 2, .int .i64 2])
  else bif a1 == 7 then some (DV.agg [.int .i64 2, .int .i64 2])
  else bif a1 == 8 then some (DV.agg [.int .i64 2, .int .i64 2])
  else bif a1 == 9 then some (DV.agg [.int .i64 2, .int .i64 2])
  else bif a1 == 10 then some (DV.agg [.int .i64 1, .int .i64 0])
  else bif a1 == 11 then some (DV.agg [.int .i64 1, .int .i64 0])
  else bif a1 == 12 then some (DV.agg [.int .i64 1, .int .i64 2])
  else bif a1 == 13 then some (DV.agg [.int .i64 1, .int .i64 2])
  else bif a1 == 14 then some (DV.agg [.int .i64 1, .int .i64 2])
  else bif a1 == 15 then some (DV.agg [.int .i64 1, .int .i64 2])
  else bif a1 == 16 then some (DV.agg [.int .i64 1, .int .i64 1])
  else bif a1 == 17 then some (DV.agg [.int .i64 1, .int .i64 1])
  else none
theorem t187 {K : Nat} (a1 : Int) {r : DV} (h : T187 K a1 = some r) : lm K 187 [.int .i64 a1] = some r := fn_run (Eq.trans (by kernel_rfl) h)
/-! 123 123 -/
noncomputable def H123_0 (a5 : DV) (a1 : DV) (a2 : List DV) (a3 : Int) (a4 : Int) (v7 : Int) (v8 : List DV) (v9 : List DV) (v10 : List DV) (v11 : Int) (v12 : Int) (d3 : DV) (v13 : List DV) : St := ⟨[.ptr 0 0] ++ [.undef, .undef] ++ [.ptr 1 0] ++ [.undef, .undef, .undef] ++ [.ptr 2 0, .osl 3 1 ((↑(gL a5 4).length : Int).toNat)] ++ (un 31) ++ [.sl .no 6 (gL a5 4), .int .i64 ((↑(gL a5 4).length : Int)), .int .i64 v7] ++ (un 38), [.box [.sl .no 4 v8, .sl .no 5 v9, .sl .no 6 v10, .int .i64 v11, .int .i64 v12], .box ((R 51 a5).cells), .box ((R 90 d3).cells), .arr 1 v13]⟩
def P123_0 : List Dir := [.c, .r, .l, .r, .r, .r, .r]
noncomputable def hd123_0 (K : Nat) (a5 : DV) (a1 : DV) (a2 : List DV) (a3 : Int) (a4 : Int) (v7 : Int) (v8 : List DV) (v9 : List DV) (v10 : List DV) (v11 : Int) (v12 : Int) (d3 : DV) (v13 : List DV) : Option DV := hdLH Try.prog (C0 K) 123 1 P123_0 (bits 81 7696581394825) 4 (H123_0 a5 a1 a2 a3 a4 v7 v8 v9 v10 v11 v12 d3 v13)
noncomputable def H123_1 (a5 : DV) (a1 : DV) (a2 : List DV) (a3 : Int) (a4 : Int) (v28 : Int) (v20 : List DV) (v21 : List DV) (v22 : List DV) (v23 : Int) (v24 : Int) (d3 : DV) (v29 : Int) (v25 : List DV) : St := ⟨[.ptr 0 0] ++ [.undef, .undef] ++ [.ptr 1 0] ++ [.undef, .undef, .undef] ++ [.ptr 2 0] ++ (un 46) ++ [.osl 3 1 ((↑(gL a5 4).length : Int).toNat), .int .i64 ((↑(↑(gL a5 4).length : Int).toNat : Int)), .int .i64 v28] ++ (un 24), [.box [.sl .no 4 v20, .sl .no 5 v21, .sl .no 6 v22, .int .i64 v23, .int .i64 v24], .box ((R 51 a5).cells), .box [.int .i64 (gI d3 0), .int .i64 v29], .arr 1 v25]⟩
def P123_1 : List Dir := [.c, .r, .l, .r, .r, .r, .r, .r]
noncomputable def hd123_1 (K : Nat) (a5 : DV) (a1 : DV) (a2 : List DV) (a3 : Int) (a4 : Int) (v28 : Int) (v20 : List DV) (v21 : List DV) (v22 : List DV) (v23 : Int) (v24 : Int) (d3 : DV) (v29 : Int) (v25 : List DV) : Option DV := hdLH Try.prog (C0 K) 123 1 P123_1 (bits 81 126100789566374025) 4 (H123_1 a5 a1 a2 a3 a4 v28 v20 v21 v22 v23 v24 d3 v29 v25)
noncomputable def T123 (K : Nat) (a5 : DV) (a1 : DV) (a2 : List DV) (a3 : Int) (a4 : Int) : Option DV :=
  bif gI a5 0 == 4 then (lm K 43 [R 25 a1, .str (gS a5 1), .str (gS a5 2)]).bind fun d14 =>
   need (d14 = .tup [.int .i64 (getI (getT d14 0)), .bool (getB (getT d14 1))]) <|
   bif !getB (getT d14 1) then bif a3 == 0 then some (DV.tup [.int .i64 0, .agg [.sl .no 4 (gL a1 0), .sl .no 5 (gL a1 1), .sl .no 6 a2, .int .i64 61, .int .i64 (gI a5 5)]])
    else some (DV.tup [.int .i64 0, .agg [.sl .no 4 (gL a1 0), .sl .no 5 (gL a1 1), .sl .no 6 a2, .int .i64 a3, .int .i64 a4]])
   else need ((0 : Int) ≤ getI (getT d14 (0 : Nat))) <|
   (a2[(getI (getT d14 0)).toNat]?).bind fun x15 =>
   need (x15 = R 61 x15) <|
   bif gI x15 1 == 1 then some (DV.tup [.int .i64 1, .agg [.sl .no 4 (gL a1 0), .sl .no 5 (gL a1 1), .sl .no 6 a2, .int .i64 a3, .int .i64 a4]])
   else some (DV.tup [.int .i64 2, .agg [.sl .no 4 (gL a1 0), .sl .no 5 (gL a1 1), .sl .no 6 a2, .int .i64 a3, .int .i64 a4]])
  else (lm K 187 [.int .i64 (gI a5 0)]).bind fun d16 =>
  need (d16 = R 90 d16) <|
  need ((↑(gL a5 (4 : Nat)).length : Int) = (↑(gL a5 (4 : Nat)).length : Int) ∧ (0 : Int) ≤ (↑(gL a5 (4 : Nat)).length : Int) ∧ (8 : Int) * (↑(gL a5 (4 : Nat)).length : Int) ≤ (1099511627776 : Int) ∧ (↑(gL a5 (4 : Nat)).length : Int) ≤ (1099511627776 : Int)) <|
  hd123_0 K a5 a1 a2 a3 a4 0 (gL a1 0) (gL a1 1) a2 a3 a4 d16 (List.replicate (↑(gL a5 4).length : Int).toNat (ofVal (Value.int IntKind.i64 0)))
theorem t123 {K : Nat} (a5 : DV) (a1 : DV) (a2 : List DV) (a3 : Int) (a4 : Int) {r : DV} (h : T123 K a5 a1 a2 a3 a4 = some r) : lmH K 123 [.ptr 0 0, R 51 a5] [.box [.sl .no 4 (gL a1 0), .sl .no 5 (gL a1 1), .sl .no 6 a2, .int .i64 a3, .int .i64 a4]] = some r := fnH_run (Eq.trans (by kernel_rfl) h)
noncomputable def L123_0 (K : Nat) (a5 : DV) (a1 : DV) (a2 : List DV) (a3 : Int) (a4 : Int) (v7 : Int) (v8 : List DV) (v9 : List DV) (v10 : List DV) (v11 : Int) (v12 : Int) (d3 : DV) (v13 : List DV) : Option DV :=
  bif decide (v7 < (↑(gL a5 4).length : Int)) then need ((0 : Int) ≤ v7) <|
   ((gL a5 4)[v7.toNat]?).bind fun x31 =>
   need (x31 = R 51 x31) <|
   (lmH K 123 [.ptr 0 0, R 51 x31] [.box [.sl .no 4 v8, .sl .no 5 v9, .sl .no 6 v10, .int .i64 v11, .int .i64 v12]]).bind fun d32 =>
   need (d32 = .tup [.int .i64 (getI (getT d32 0)), .agg [.sl .no 4 (gL (getT d32 1) 0), .sl .no 5 (gL (getT d32 1) 1), .sl .no 6 (gL (getT d32 1) 2), .int .i64 (gI (getT d32 1) 3), .int .i64 (gI (getT d32 1) 4)]]) <|
   need ((0 : Int) ≤ v7 ∧ v7 < (↑(↑(gL a5 (4 : Nat)).length : Int).toNat : Int)) <|
   (v13[v7.toNat]?).bind fun x33 =>
   need ((1 : Nat) ≤ x33.cells.length) <|
   hd123_0 K a5 a1 a2 a3 a4 (IntKind.i64.wrap (v7 + 1)) (gL (getT d32 1) 0) (gL (getT d32 1) 1) (gL (getT d32 1) 2) (gI (getT d32 1) 3) (gI (getT d32 1) 4) d3 (v13.set v7.toNat (DV.int IntKind.i64 (getI (getT d32 0))))
  else hd123_1 K a5 a1 a2 a3 a4 0 v8 v9 v10 v11 v12 d3 (gI d3 1) v13
theorem l123_0 {K : Nat} (a5 : DV) (a1 : DV) (a2 : List DV) (a3 : Int) (a4 : Int) (v7 : Int) (v8 : List DV) (v9 : List DV) (v10 : List DV) (v11 : Int) (v12 : Int) (d3 : DV) (v13 : List DV) {r : DV} (h : L123_0 K a5 a1 a2 a3 a4 v7 v8 v9 v10 v11 v12 d3 v13 = some r) : hd123_0 K a5 a1 a2 a3 a4 v7 v8 v9 v10 v11 v12 d3 v13 = some r := hdH_run (Eq.trans (by kernel_rfl) h)
noncomputable def L123_1 (K : Nat) (a5 : DV) (a1 : DV) (a2 : List DV) (a3 : Int) (a4 : Int) (v28 : Int) (v20 : List DV) (v21 : List DV) (v22 : List DV) (v23 : Int) (v24 : Int) (d3 : DV) (v29 : Int) (v25 : List DV) : Option DV :=
  bif decide (v28 < (↑(↑(gL a5 4).length : Int).toNat : Int)) then need ((0 : Int) ≤ v28 ∧ v28 < (↑(↑(gL a5 (4 : Nat)).length : Int).toNat : Int)) <|
   (v25[v28.toNat]?).bind fun x34 =>
   need (x34 = .int .i64 (getI x34)) <|
   bif v29 == 0 then bif getI x34 != getI x34 then need ((0 : Int) ≤ v28) <|
     ((gL a5 4)[v28.toNat]?).bind fun x35 =>
     need (x35 = R 51 x35) <|
     bif v23 == 0 then hd123_1 K a5 a1 a2 a3 a4 (IntKind.i64.wrap (v28 + 1)) v20 v21 v22 70 (gI x35 5) d3 (getI x34) v25
     else hd123_1 K a5 a1 a2 a3 a4 (IntKind.i64.wrap (v28 + 1)) v20 v21 v22 v23 v24 d3 (getI x34) v25
    else hd123_1 K a5 a1 a2 a3 a4 (IntKind.i64.wrap (v28 + 1)) v20 v21 v22 v23 v24 d3 (getI x34) v25
   else bif getI x34 != v29 then need ((0 : Int) ≤ v28) <|
    ((gL a5 4)[v28.toNat]?).bind fun x36 =>
    need (x36 = R 51 x36) <|
    bif v23 == 0 then hd123_1 K a5 a1 a2 a3 a4 (IntKind.i64.wrap (v28 + 1)) v20 v21 v22 70 (gI x36 5) d3 v29 v25
    else hd123_1 K a5 a1 a2 a3 a4 (IntKind.i64.wrap (v28 + 1)) v20 v21 v22 v23 v24 d3 v29 v25
   else hd123_1 K a5 a1 a2 a3 a4 (IntKind.i64.wrap (v28 + 1)) v20 v21 v22 v23 v24 d3 v29 v25
  else some (DV.tup [.int .i64 (gI d3 0), .agg [.sl .no 4 v20, .sl .no 5 v21, .sl .no 6 v22, .int .i64 v23, .int .i64 v24]])
theorem l123_1 {K : Nat} (a5 : DV) (a1 : DV) (a2 : List DV) (a3 : Int) (a4 : Int) (v28 : Int) (v20 : List DV) (v21 : List DV) (v22 : List DV) (v23 : Int) (v24 : Int) (d3 : DV) (v29 : Int) (v25 : List DV) {r : DV} (h : L123_1 K a5 a1 a2 a3 a4 v28 v20 v21 v22 v23 v24 d3 v29 v25 = some r) : hd123_1 K a5 a1 a2 a3 a4 v28 v20 v21 v22 v23 v24 d3 v29 v25 = some r := hdH_run (Eq.trans (by kernel_rfl) h)
/-! 55 55 -/
noncomputable def T55 (K : Nat) (a1 : DV) (a2 : DV) : Option DV :=
  (lm K 41 [R 51 a2]).bind fun d1 =>
  need (d1 = .int .i64 (getI d1)) <|
  bif getI d1 != 0 then some (DV.tup [.int .i64 0, .int .i64 (getI d1), .int .i64 0])
  else (lm K 102 [R 25 a1]).bind fun d2 =>
  need (d2 = .sl .no 6 (getL d2)) <|
  (lmH K 123 [.ptr 0 0, R 51 a2] [.box [.sl .no 4 (gL a1 0), .sl .no 5 (gL a1 1), .sl .no 6 (getL d2), .int .i64 0, .int .i64 0]]).bind fun d3 =>
  need (d3 = .tup [.int .i64 (getI (getT d3 0)), .agg [.sl .no 4 (gL (getT d3 1) 0), .sl .no 5 (gL (getT d3 1) 1), .sl .no 6 (gL (getT d3 1) 2), .int .i64 (gI (getT d3 1) 3), .int .i64 (gI (getT d3 1) 4)]]) <|
  bif gI (getT d3 1) 3 != 0 then some (DV.tup [.int .i64 0, .int .i64 (gI (getT d3 1) 3), .int .i64 (gI (getT d3 1) 4)])
  else some (DV.tup [.int .i64 (getI (getT d3 0)), .int .i64 0, .int .i64 0])
theorem t55 {K : Nat} (a1 : DV) (a2 : DV) {r : DV} (h : T55 K a1 a2 = some r) : lm K 55 [R 25 a1, R 51 a2] = some r := fn_run (Eq.trans (by kernel_rfl) h)
/-! 194 194 -/
noncomputable def T194 (K : Nat) (a1 : Int) : Option DV :=
  bif a1 == -9223372036854775808 then some (DV.tup [.int .i64 0, .bool false])
  else some (DV.tup [.int .i64 (IntKind.i64.wrap (0 - a1)), .bool true])
theorem t194 {K : Nat} (a1 : Int) {r : DV} (h : T194 K a1 = some r) : lm K 194 [.int .i64 a1] = some r := fn_run (Eq.trans (by kernel_rfl) h)
/-! 195 195 -/
noncomputable def T195 (K : Nat) (a1 : Int) (a2 : Int) : Option DV :=
  (lm K 224 [.int .i64 a1]).bind fun d1 =>
  need (d1 = .int .u64 (getI d1)) <|
  (lm K 224 [.int .i64 a2]).bind fun d2 =>
  need (d2 = .int .u64 (getI d2)) <|
  (lm K 223 [.int .u64 (getI d1), .int .u64 (getI d2)]).bind fun d3 =>
  need (d3 = .tup [.int .u64 (getI (getT d3 0)), .int .u64 (getI (getT d3 1))]) <|
  bif getI (getT d3 0) != 0 then some (DV.tup [.int .i64 0, .bool false])
  else bif decide (getI (getT d3 1) > 9223372036854775808) then some (DV.tup [.int .i64 0, .bool false])
  else bif getI (getT d3 1) == 9223372036854775808 then bif !!decide (a1 < 0) == decide (a2 < 0) then some (DV.tup [.int .i64 0, .bool false])
   else bif !decide (a1 < 0) == decide (a2 < 0) then some (DV.tup [.int .i64 (IntKind.i64.wrap (IntKind.u64.wrap (0 - getI (getT d3 1)))), .bool true])
   else some (DV.tup [.int .i64 (IntKind.i64.wrap (getI (getT d3 1))), .bool true])
  else bif !decide (a1 < 0) == decide (a2 < 0) then some (DV.tup [.int .i64 (IntKind.i64.wrap (IntKind.u64.wrap (0 - getI (getT d3 1)))), .bool true])
  else some (DV.tup [.int .i64 (IntKind.i64.wrap (getI (getT d3 1))), .bool true])
theorem t195 {K : Nat} (a1 : Int) (a2 : Int) {r : DV} (h : T195 K a1 a2 = some r) : lm K 195 [.int .i64 a1, .int .i64 a2] = some r := fn_run (Eq.trans (by kernel_rfl) h)
/-! 196 196 -/
noncomputable def T196 (K : Nat) (a1 : Int) (a2 : Int) : Option DV :=
  bif decide (IntKind.i64.wrap (↑(BitVec.ofInt IntKind.i64.bits (IntKind.i64.wrap (↑(BitVec.ofInt IntKind.i64.bits a1 ^^^ BitVec.ofInt IntKind.i64.bits (IntKind.i64.wrap (a1 + a2))).toNat : Int)) &&& BitVec.ofInt IntKind.i64.bits (IntKind.i64.wrap (↑(BitVec.ofInt IntKind.i64.bits a2 ^^^ BitVec.ofInt IntKind.i64.bits (IntKind.i64.wrap (a1 + a2))).toNat : Int))).toNat : Int) < 0) then some (DV.tup [.int .i64 0, .bool false])
  else some (DV.tup [.int .i64 (IntKind.i64.wrap (a1 + a2)), .bool true])
theorem t196 {K : Nat} (a1 : Int) (a2 : Int) {r : DV} (h : T196 K a1 a2 = some r) : lm K 196 [.int .i64 a1, .int .i64 a2] = some r := fn_run (Eq.trans (by kernel_rfl) h)
/-! 197 197 -/
noncomputable def T197 (K : Nat) (a1 : Int) (a2 : Int) : Option DV :=
  bif decide (IntKind.i64.wrap (↑(BitVec.ofInt IntKind.i64.bits (IntKind.i64.wrap (↑(BitVec.ofInt IntKind.i64.bits a1 ^^^ BitVec.ofInt IntKind.i64.bits a2).toNat : Int)) &&& BitVec.ofInt IntKind.i64.bits (IntKind.i64.wrap (↑(BitVec.ofInt IntKind.i64.bits a1 ^^^ BitVec.ofInt IntKind.i64.bits (IntKind.i64.wrap (a1 - a2))).toNat : Int))).toNat : Int) < 0) then some (DV.tup [.int .i64 0, .bool false])
  else some (DV.tup [.int .i64 (IntKind.i64.wrap (a1 - a2)), .bool true])
theorem t197 {K : Nat} (a1 : Int) (a2 : Int) {r : DV} (h : T197 K a1 a2 = some r) : lm K 197 [.int .i64 a1, .int .i64 a2] = some r := fn_run (Eq.trans (by kernel_rfl) h)
/-! 223 223 -/
noncomputable def T223 (K : Nat) (a1 : Int) (a2 : Int) : Option DV :=
  some (DV.tup [.int .u64 (IntKind.u64.wrap (IntKind.u64.wrap (IntKind.u64.wrap (a1.fdiv (2 ^ min (Int.toNat 32) IntKind.u64.bits) * a2.fdiv (2 ^ min (Int.toNat 32) IntKind.u64.bits)) + (IntKind.u64.wrap (IntKind.u64.wrap (a1.fdiv (2 ^ min (Int.toNat 32) IntKind.u64.bits) * IntKind.u64.wrap (↑(BitVec.ofInt IntKind.u64.bits a2 &&& BitVec.ofInt IntKind.u64.bits 4294967295).toNat : Int)) + (IntKind.u64.wrap (IntKind.u64.wrap (↑(BitVec.ofInt IntKind.u64.bits a1 &&& BitVec.ofInt IntKind.u64.bits 4294967295).toNat : Int) * IntKind.u64.wrap (↑(BitVec.ofInt IntKind.u64.bits a2 &&& BitVec.ofInt IntKind.u64.bits 4294967295).toNat : Int))).fdiv (2 ^ min (Int.toNat 32) IntKind.u64.bits))).fdiv (2 ^ min (Int.toNat 32) IntKind.u64.bits)) + (IntKind.u64.wrap (IntKind.u64.wrap (↑(BitVec.ofInt IntKind.u64.bits (IntKind.u64.wrap (IntKind.u64.wrap (a1.fdiv (2 ^ min (Int.toNat 32) IntKind.u64.bits) * IntKind.u64.wrap (↑(BitVec.ofInt IntKind.u64.bits a2 &&& BitVec.ofInt IntKind.u64.bits 4294967295).toNat : Int)) + (IntKind.u64.wrap (IntKind.u64.wrap (↑(BitVec.ofInt IntKind.u64.bits a1 &&& BitVec.ofInt IntKind.u64.bits 4294967295).toNat : Int) * IntKind.u64.wrap (↑(BitVec.ofInt IntKind.u64.bits a2 &&& BitVec.ofInt IntKind.u64.bits 4294967295).toNat : Int))).fdiv (2 ^ min (Int.toNat 32) IntKind.u64.bits))) &&& BitVec.ofInt IntKind.u64.bits 4294967295).toNat : Int) + IntKind.u64.wrap (IntKind.u64.wrap (↑(BitVec.ofInt IntKind.u64.bits a1 &&& BitVec.ofInt IntKind.u64.bits 4294967295).toNat : Int) * a2.fdiv (2 ^ min (Int.toNat 32) IntKind.u64.bits)))).fdiv (2 ^ min (Int.toNat 32) IntKind.u64.bits))), .int .u64 (IntKind.u64.wrap (a1 * a2))])
theorem t223 {K : Nat} (a1 : Int) (a2 : Int) {r : DV} (h : T223 K a1 a2 = some r) : lm K 223 [.int .u64 a1, .int .u64 a2] = some r := fn_run (Eq.trans (by kernel_rfl) h)
/-! 224 224 -/
noncomputable def T224 (K : Nat) (a1 : Int) : Option DV :=
  bif decide (a1 < 0) then some (DV.int .u64 (IntKind.u64.wrap (0 - IntKind.u64.wrap a1)))
  else some (DV.int .u64 (IntKind.u64.wrap a1))
theorem t224 {K : Nat} (a1 : Int) {r : DV} (h : T224 K a1 = some r) : lm K 224 [.int .i64 a1] = some r := fn_run (Eq.trans (by kernel_rfl) h)
/-! 214 214 -/
noncomputable def T214 (K : Nat) (a1 : Bool) : Option DV :=
  bif a1 then some (DV.int .i64 1)
  else some (DV.int .i64 0)
theorem t214 {K : Nat} (a1 : Bool) {r : DV} (h : T214 K a1 = some r) : lm K 214 [.bool a1] = some r := fn_run (Eq.trans (by kernel_rfl) h)
/-! 217 217 -/
noncomputable def T217 (K : Nat) (a1 : Int) (a2 : Int) (a3 : Int) : Option DV :=
  bif a1 == 8 then (lm K 196 [.int .i64 a2, .int .i64 a3]).bind fun d1 =>
   need (d1 = .tup [.int .i64 (getI (getT d1 0)), .bool (getB (getT d1 1))]) <|
   some (DV.tup [.int .i64 (getI (getT d1 0)), .bool (getB (getT d1 1))])
  else bif a1 == 9 then (lm K 197 [.int .i64 a2, .int .i64 a3]).bind fun d2 =>
   need (d2 = .tup [.int .i64 (getI (getT d2 0)), .bool (getB (getT d2 1))]) <|
   some (DV.tup [.int .i64 (getI (getT d2 0)), .bool (getB (getT d2 1))])
  else bif a1 == 10 then (lm K 214 [.bool (a2 == a3)]).bind fun d3 =>
   need (d3 = .int .i64 (getI d3)) <|
   some (DV.tup [.int .i64 (getI d3), .bool true])
  else bif a1 == 11 then (lm K 214 [.bool (a2 != a3)]).bind fun d4 =>
   need (d4 = .int .i64 (getI d4)) <|
   some (DV.tup [.int .i64 (getI d4), .bool true])
  else bif a1 == 12 then (lm K 214 [.bool (decide (a2 < a3))]).bind fun d5 =>
   need (d5 = .int .i64 (getI d5)) <|
   some (DV.tup [.int .i64 (getI d5), .bool true])
  else bif a1 == 13 then (lm K 214 [.bool (decide (a2 ≤ a3))]).bind fun d6 =>
   need (d6 = .int .i64 (getI d6)) <|
   some (DV.tup [.int .i64 (getI d6), .bool true])
  else bif a1 == 14 then (lm K 214 [.bool (decide (a2 > a3))]).bind fun d7 =>
   need (d7 = .int .i64 (getI d7)) <|
   some (DV.tup [.int .i64 (getI d7), .bool true])
  else (lm K 214 [.bool (decide (a2 ≥ a3))]).bind fun d8 =>
  need (d8 = .int .i64 (getI d8)) <|
  some (DV.tup [.int .i64 (getI d8), .bool true])
theorem t217 {K : Nat} (a1 : Int) (a2 : Int) (a3 : Int) {r : DV} (h : T217 K a1 a2 a3 = some r) : lm K 217 [.int .i64 a1, .int .i64 a2, .int .i64 a3] = some r := fn_run (Eq.trans (by kernel_rfl) h)
/-! 115 115 -/
noncomputable def T115 (K : Nat) (a4 : DV) (a1 : DV) (a2 : List DV) (a3 : Bool) : Option DV :=
  bif gI a4 0 == 1 then some (DV.tup [.int .i64 (gI a4 3), .agg [.sl .no 4 (gL a1 0), .sl .no 5 (gL a1 1), .sl .no 1 a2, .bool a3]])
  else bif gI a4 0 == 2 then some (DV.tup [.int .i64 1, .agg [.sl .no 4 (gL a1 0), .sl .no 5 (gL a1 1), .sl .no 1 a2, .bool a3]])
  else bif gI a4 0 == 3 then some (DV.tup [.int .i64 0, .agg [.sl .no 4 (gL a1 0), .sl .no 5 (gL a1 1), .sl .no 1 a2, .bool a3]])
  else bif gI a4 0 == 4 then (lm K 43 [R 25 a1, .str (gS a4 1), .str (gS a4 2)]).bind fun d1 =>
   need (d1 = .tup [.int .i64 (getI (getT d1 0)), .bool (getB (getT d1 1))]) <|
   need ((0 : Int) ≤ getI (getT d1 (0 : Nat))) <|
   (a2[(getI (getT d1 0)).toNat]?).bind fun x2 =>
   need (x2 = .int .i64 (getI x2)) <|
   some (DV.tup [.int .i64 (getI x2), .agg [.sl .no 4 (gL a1 0), .sl .no 5 (gL a1 1), .sl .no 1 a2, .bool a3]])
  else bif gI a4 0 == 5 then (lmH K 179 [.ptr 0 0, R 51 a4] [.box [.sl .no 4 (gL a1 0), .sl .no 5 (gL a1 1), .sl .no 1 a2, .bool a3]]).bind fun d3 =>
   need (d3 = .tup [.int .i64 (getI (getT d3 0)), .agg [.sl .no 4 (gL (getT d3 1) 0), .sl .no 5 (gL (getT d3 1) 1), .sl .no 1 (gL (getT d3 1) 2), .bool (gB (getT d3 1) 3)]]) <|
   some (DV.tup [.int .i64 (getI (getT d3 0)), .agg [.sl .no 4 (gL (getT d3 1) 0), .sl .no 5 (gL (getT d3 1) 1), .sl .no 1 (gL (getT d3 1) 2), .bool (gB (getT d3 1) 3)]])
  else bif gI a4 0 == 6 then (lmH K 179 [.ptr 0 0, R 51 a4] [.box [.sl .no 4 (gL a1 0), .sl .no 5 (gL a1 1), .sl .no 1 a2, .bool a3]]).bind fun d4 =>
   need (d4 = .tup [.int .i64 (getI (getT d4 0)), .agg [.sl .no 4 (gL (getT d4 1) 0), .sl .no 5 (gL (getT d4 1) 1), .sl .no 1 (gL (getT d4 1) 2), .bool (gB (getT d4 1) 3)]]) <|
   some (DV.tup [.int .i64 (getI (getT d4 0)), .agg [.sl .no 4 (gL (getT d4 1) 0), .sl .no 5 (gL (getT d4 1) 1), .sl .no 1 (gL (getT d4 1) 2), .bool (gB (getT d4 1) 3)]])
  else bif gI a4 0 == 7 then (lmH K 179 [.ptr 0 0, R 51 a4] [.box [.sl .no 4 (gL a1 0), .sl .no 5 (gL a1 1), .sl .no 1 a2, .bool a3]]).bind fun d5 =>
   need (d5 = .tup [.int .i64 (getI (getT d5 0)), .agg [.sl .no 4 (gL (getT d5 1) 0), .sl .no 5 (gL (getT d5 1) 1), .sl .no 1 (gL (getT d5 1) 2), .bool (gB (getT d5 1) 3)]]) <|
   some (DV.tup [.int .i64 (getI (getT d5 0)), .agg [.sl .no 4 (gL (getT d5 1) 0), .sl .no 5 (gL (getT d5 1) 1), .sl .no 1 (gL (getT d5 1) 2), .bool (gB (getT d5 1) 3)]])
  else (lmH K 180 [.ptr 0 0, R 51 a4] [.box [.sl .no 4 (gL a1 0), .sl .no 5 (gL a1 1), .sl .no 1 a2, .bool a3]]).bind fun d6 =>
  need (d6 = .tup [.int .i64 (getI (getT d6 0)), .agg [.sl .no 4 (gL (getT d6 1) 0), .sl .no 5 (gL (getT d6 1) 1), .sl .no 1 (gL (getT d6 1) 2), .bool (gB (getT d6 1) 3)]]) <|
  some (DV.tup [.int .i64 (getI (getT d6 0)), .agg [.sl .no 4 (gL (getT d6 1) 0), .sl .no 5 (gL (getT d6 1) 1), .sl .no 1 (gL (getT d6 1) 2), .bool (gB (getT d6 1) 3)]])
theorem t115 {K : Nat} (a4 : DV) (a1 : DV) (a2 : List DV) (a3 : Bool) {r : DV} (h : T115 K a4 a1 a2 a3 = some r) : lmH K 115 [.ptr 0 0, R 51 a4] [.box [.sl .no 4 (gL a1 0), .sl .no 5 (gL a1 1), .sl .no 1 a2, .bool a3]] = some r := fnH_run (Eq.trans (by kernel_rfl) h)
/-! 179 179 -/
noncomputable def T179 (K : Nat) (a4 : DV) (a1 : DV) (a2 : List DV) (a3 : Bool) : Option DV :=
  need ((0 : Int) ≤ (0 : Int)) <|
  ((gL a4 4)[Int.toNat 0]?).bind fun x1 =>
  need (x1 = R 51 x1) <|
  (lmH K 115 [.ptr 0 0, R 51 x1] [.box [.sl .no 4 (gL a1 0), .sl .no 5 (gL a1 1), .sl .no 1 a2, .bool a3]]).bind fun d2 =>
  need (d2 = .tup [.int .i64 (getI (getT d2 0)), .agg [.sl .no 4 (gL (getT d2 1) 0), .sl .no 5 (gL (getT d2 1) 1), .sl .no 1 (gL (getT d2 1) 2), .bool (gB (getT d2 1) 3)]]) <|
  bif gB (getT d2 1) 3 then some (DV.tup [.int .i64 0, .agg [.sl .no 4 (gL (getT d2 1) 0), .sl .no 5 (gL (getT d2 1) 1), .sl .no 1 (gL (getT d2 1) 2), .bool (gB (getT d2 1) 3)]])
  else bif gI a4 0 == 5 then (lm K 214 [.bool (getI (getT d2 0) == 0)]).bind fun d3 =>
   need (d3 = .int .i64 (getI d3)) <|
   some (DV.tup [.int .i64 (getI d3), .agg [.sl .no 4 (gL (getT d2 1) 0), .sl .no 5 (gL (getT d2 1) 1), .sl .no 1 (gL (getT d2 1) 2), .bool (gB (getT d2 1) 3)]])
  else bif gI a4 0 == 6 then (lm K 194 [.int .i64 (getI (getT d2 0))]).bind fun d4 =>
   need (d4 = .tup [.int .i64 (getI (getT d4 0)), .bool (getB (getT d4 1))]) <|
   bif !getB (getT d4 1) then some (DV.tup [.int .i64 0, .agg [.sl .no 4 (gL (getT d2 1) 0), .sl .no 5 (gL (getT d2 1) 1), .sl .no 1 (gL (getT d2 1) 2), .bool true]])
   else some (DV.tup [.int .i64 (getI (getT d4 0)), .agg [.sl .no 4 (gL (getT d2 1) 0), .sl .no 5 (gL (getT d2 1) 1), .sl .no 1 (gL (getT d2 1) 2), .bool (gB (getT d2 1) 3)]])
  else (lm K 195 [.int .i64 (gI a4 3), .int .i64 (getI (getT d2 0))]).bind fun d5 =>
  need (d5 = .tup [.int .i64 (getI (getT d5 0)), .bool (getB (getT d5 1))]) <|
  bif !getB (getT d5 1) then some (DV.tup [.int .i64 0, .agg [.sl .no 4 (gL (getT d2 1) 0), .sl .no 5 (gL (getT d2 1) 1), .sl .no 1 (gL (getT d2 1) 2), .bool true]])
  else some (DV.tup [.int .i64 (getI (getT d5 0)), .agg [.sl .no 4 (gL (getT d2 1) 0), .sl .no 5 (gL (getT d2 1) 1), .sl .no 1 (gL (getT d2 1) 2), .bool (gB (getT d2 1) 3)]])
theorem t179 {K : Nat} (a4 : DV) (a1 : DV) (a2 : List DV) (a3 : Bool) {r : DV} (h : T179 K a4 a1 a2 a3 = some r) : lmH K 179 [.ptr 0 0, R 51 a4] [.box [.sl .no 4 (gL a1 0), .sl .no 5 (gL a1 1), .sl .no 1 a2, .bool a3]] = some r := fnH_run (Eq.trans (by kernel_rfl) h)
/-! 180 180 -/
noncomputable def T180 (K : Nat) (a4 : DV) (a1 : DV) (a2 : List DV) (a3 : Bool) : Option DV :=
  need ((0 : Int) ≤ (0 : Int)) <|
  ((gL a4 4)[Int.toNat 0]?).bind fun x1 =>
  need (x1 = R 51 x1) <|
  (lmH K 115 [.ptr 0 0, R 51 x1] [.box [.sl .no 4 (gL a1 0), .sl .no 5 (gL a1 1), .sl .no 1 a2, .bool a3]]).bind fun d2 =>
  need (d2 = .tup [.int .i64 (getI (getT d2 0)), .agg [.sl .no 4 (gL (getT d2 1) 0), .sl .no 5 (gL (getT d2 1) 1), .sl .no 1 (gL (getT d2 1) 2), .bool (gB (getT d2 1) 3)]]) <|
  bif gB (getT d2 1) 3 then some (DV.tup [.int .i64 0, .agg [.sl .no 4 (gL (getT d2 1) 0), .sl .no 5 (gL (getT d2 1) 1), .sl .no 1 (gL (getT d2 1) 2), .bool (gB (getT d2 1) 3)]])
  else bif gI a4 0 == 16 then bif getI (getT d2 0) == 0 then some (DV.tup [.int .i64 0, .agg [.sl .no 4 (gL (getT d2 1) 0), .sl .no 5 (gL (getT d2 1) 1), .sl .no 1 (gL (getT d2 1) 2), .bool (gB (getT d2 1) 3)]])
   else bif gI a4 0 == 17 then bif getI (getT d2 0) != 0 then some (DV.tup [.int .i64 1, .agg [.sl .no 4 (gL (getT d2 1) 0), .sl .no 5 (gL (getT d2 1) 1), .sl .no 1 (gL (getT d2 1) 2), .bool (gB (getT d2 1) 3)]])
    else bif gI a4 0 == 16 then need ((0 : Int) ≤ (1 : Int)) <|
     ((gL a4 4)[Int.toNat 1]?).bind fun x3 =>
     need (x3 = R 51 x3) <|
     (lmH K 115 [.ptr 0 0, R 51 x3] [.box [.sl .no 4 (gL (getT d2 1) 0), .sl .no 5 (gL (getT d2 1) 1), .sl .no 1 (gL (getT d2 1) 2), .bool (gB (getT d2 1) 3)]]).bind fun d4 =>
     need (d4 = .tup [.int .i64 (getI (getT d4 0)), .agg [.sl .no 4 (gL (getT d4 1) 0), .sl .no 5 (gL (getT d4 1) 1), .sl .no 1 (gL (getT d4 1) 2), .bool (gB (getT d4 1) 3)]]) <|
     some (DV.tup [.int .i64 (getI (getT d4 0)), .agg [.sl .no 4 (gL (getT d4 1) 0), .sl .no 5 (gL (getT d4 1) 1), .sl .no 1 (gL (getT d4 1) 2), .bool (gB (getT d4 1) 3)]])
    else bif gI a4 0 == 17 then need ((0 : Int) ≤ (1 : Int)) <|
     ((gL a4 4)[Int.toNat 1]?).bind fun x5 =>
     need (x5 = R 51 x5) <|
     (lmH K 115 [.ptr 0 0, R 51 x5] [.box [.sl .no 4 (gL (getT d2 1) 0), .sl .no 5 (gL (getT d2 1) 1), .sl .no 1 (gL (getT d2 1) 2), .bool (gB (getT d2 1) 3)]]).bind fun d6 =>
     need (d6 = .tup [.int .i64 (getI (getT d6 0)), .agg [.sl .no 4 (gL (getT d6 1) 0), .sl .no 5 (gL (getT d6 1) 1), .sl .no 1 (gL (getT d6 1) 2), .bool (gB (getT d6 1) 3)]]) <|
     some (DV.tup [.int .i64 (getI (getT d6 0)), .agg [.sl .no 4 (gL (getT d6 1) 0), .sl .no 5 (gL (getT d6 1) 1), .sl .no 1 (gL (getT d6 1) 2), .bool (gB (getT d6 1) 3)]])
    else need ((0 : Int) ≤ (1 : Int)) <|
    ((gL a4 4)[Int.toNat 1]?).bind fun x7 =>
    need (x7 = R 51 x7) <|
    (lmH K 115 [.ptr 0 0, R 51 x7] [.box [.sl .no 4 (gL (getT d2 1) 0), .sl .no 5 (gL (getT d2 1) 1), .sl .no 1 (gL (getT d2 1) 2), .bool (gB (getT d2 1) 3)]]).bind fun d8 =>
    need (d8 = .tup [.int .i64 (getI (getT d8 0)), .agg [.sl .no 4 (gL (getT d8 1) 0), .sl .no 5 (gL (getT d8 1) 1), .sl .no 1 (gL (getT d8 1) 2), .bool (gB (getT d8 1) 3)]]) <|
    bif gB (getT d8 1) 3 then some (DV.tup [.int .i64 0, .agg [.sl .no 4 (gL (getT d8 1) 0), .sl .no 5 (gL (getT d8 1) 1), .sl .no 1 (gL (getT d8 1) 2), .bool (gB (getT d8 1) 3)]])
    else (lm K 217 [.int .i64 (gI a4 0), .int .i64 (getI (getT d2 0)), .int .i64 (getI (getT d8 0))]).bind fun d9 =>
    need (d9 = .tup [.int .i64 (getI (getT d9 0)), .bool (getB (getT d9 1))]) <|
    bif !getB (getT d9 1) then some (DV.tup [.int .i64 0, .agg [.sl .no 4 (gL (getT d8 1) 0), .sl .no 5 (gL (getT d8 1) 1), .sl .no 1 (gL (getT d8 1) 2), .bool true]])
    else some (DV.tup [.int .i64 (getI (getT d9 0)), .agg [.sl .no 4 (gL (getT d8 1) 0), .sl .no 5 (gL (getT d8 1) 1), .sl .no 1 (gL (getT d8 1) 2), .bool (gB (getT d8 1) 3)]])
   else bif gI a4 0 == 16 then need ((0 : Int) ≤ (1 : Int)) <|
    ((gL a4 4)[Int.toNat 1]?).bind fun x10 =>
    need (x10 = R 51 x10) <|
    (lmH K 115 [.ptr 0 0, R 51 x10] [.box [.sl .no 4 (gL (getT d2 1) 0), .sl .no 5 (gL (getT d2 1) 1), .sl .no 1 (gL (getT d2 1) 2), .bool (gB (getT d2 1) 3)]]).bind fun d11 =>
    need (d11 = .tup [.int .i64 (getI (getT d11 0)), .agg [.sl .no 4 (gL (getT d11 1) 0), .sl .no 5 (gL (getT d11 1) 1), .sl .no 1 (gL (getT d11 1) 2), .bool (gB (getT d11 1) 3)]]) <|
    some (DV.tup [.int .i64 (getI (getT d11 0)), .agg [.sl .no 4 (gL (getT d11 1) 0), .sl .no 5 (gL (getT d11 1) 1), .sl .no 1 (gL (getT d11 1) 2), .bool (gB (getT d11 1) 3)]])
   else bif gI a4 0 == 17 then need ((0 : Int) ≤ (1 : Int)) <|
    ((gL a4 4)[Int.toNat 1]?).bind fun x12 =>
    need (x12 = R 51 x12) <|
    (lmH K 115 [.ptr 0 0, R 51 x12] [.box [.sl .no 4 (gL (getT d2 1) 0), .sl .no 5 (gL (getT d2 1) 1), .sl .no 1 (gL (getT d2 1) 2), .bool (gB (getT d2 1) 3)]]).bind fun d13 =>
    need (d13 = .tup [.int .i64 (getI (getT d13 0)), .agg [.sl .no 4 (gL (getT d13 1) 0), .sl .no 5 (gL (getT d13 1) 1), .sl .no 1 (gL (getT d13 1) 2), .bool (gB (getT d13 1) 3)]]) <|
    some (DV.tup [.int .i64 (getI (getT d13 0)), .agg [.sl .no 4 (gL (getT d13 1) 0), .sl .no 5 (gL (getT d13 1) 1), .sl .no 1 (gL (getT d13 1) 2), .bool (gB (getT d13 1) 3)]])
   else need ((0 : Int) ≤ (1 : Int)) <|
   ((gL a4 4)[Int.toNat 1]?).bind fun x14 =>
   need (x14 = R 51 x14) <|
   (lmH K 115 [.ptr 0 0, R 51 x14] [.box [.sl .no 4 (gL (getT d2 1) 0), .sl .no 5 (gL (getT d2 1) 1), .sl .no 1 (gL (getT d2 1) 2), .bool (gB (getT d2 1) 3)]]).bind fun d15 =>
   need (d15 = .tup [.int .i64 (getI (getT d15 0)), .agg [.sl .no 4 (gL (getT d15 1) 0), .sl .no 5 (gL (getT d15 1) 1), .sl .no 1 (gL (getT d15 1) 2), .bool (gB (getT d15 1) 3)]]) <|
   bif gB (getT d15 1) 3 then some (DV.tup [.int .i64 0, .agg [.sl .no 4 (gL (getT d15 1) 0), .sl .no 5 (gL (getT d15 1) 1), .sl .no 1 (gL (getT d15 1) 2), .bool (gB (getT d15 1) 3)]])
   else (lm K 217 [.int .i64 (gI a4 0), .int .i64 (getI (getT d2 0)), .int .i64 (getI (getT d15 0))]).bind fun d16 =>
   need (d16 = .tup [.int .i64 (getI (getT d16 0)), .bool (getB (getT d16 1))]) <|
   bif !getB (getT d16 1) then some (DV.tup [.int .i64 0, .agg [.sl .no 4 (gL (getT d15 1) 0), .sl .no 5 (gL (getT d15 1) 1), .sl .no 1 (gL (getT d15 1) 2), .bool true]])
   else some (DV.tup [.int .i64 (getI (getT d16 0)), .agg [.sl .no 4 (gL (getT d15 1) 0), .sl .no 5 (gL (getT d15 1) 1), .sl .no 1 (gL (getT d15 1) 2), .bool (gB (getT d15 1) 3)]])
  else bif gI a4 0 == 17 then bif getI (getT d2 0) != 0 then some (DV.tup [.int .i64 1, .agg [.sl .no 4 (gL (getT d2 1) 0), .sl .no 5 (gL (getT d2 1) 1), .sl .no 1 (gL (getT d2 1) 2), .bool (gB (getT d2 1) 3)]])
   else bif gI a4 0 == 16 then need ((0 : Int) ≤ (1 : Int)) <|
    ((gL a4 4)[Int.toNat 1]?).bind fun x17 =>
    need (x17 = R 51 x17) <|
    (lmH K 115 [.ptr 0 0, R 51 x17] [.box [.sl .no 4 (gL (getT d2 1) 0), .sl .no 5 (gL (getT d2 1) 1), .sl .no 1 (gL (getT d2 1) 2), .bool (gB (getT d2 1) 3)]]).bind fun d18 =>
    need (d18 = .tup [.int .i64 (getI (getT d18 0)), .agg [.sl .no 4 (gL (getT d18 1) 0), .sl .no 5 (gL (getT d18 1) 1), .sl .no 1 (gL (getT d18 1) 2), .bool (gB (getT d18 1) 3)]]) <|
    some (DV.tup [.int .i64 (getI (getT d18 0)), .agg [.sl .no 4 (gL (getT d18 1) 0), .sl .no 5 (gL (getT d18 1) 1), .sl .no 1 (gL (getT d18 1) 2), .bool (gB (getT d18 1) 3)]])
   else bif gI a4 0 == 17 then need ((0 : Int) ≤ (1 : Int)) <|
    ((gL a4 4)[Int.toNat 1]?).bind fun x19 =>
    need (x19 = R 51 x19) <|
    (lmH K 115 [.ptr 0 0, R 51 x19] [.box [.sl .no 4 (gL (getT d2 1) 0), .sl .no 5 (gL (getT d2 1) 1), .sl .no 1 (gL (getT d2 1) 2), .bool (gB (getT d2 1) 3)]]).bind fun d20 =>
    need (d20 = .tup [.int .i64 (getI (getT d20 0)), .agg [.sl .no 4 (gL (getT d20 1) 0), .sl .no 5 (gL (getT d20 1) 1), .sl .no 1 (gL (getT d20 1) 2), .bool (gB (getT d20 1) 3)]]) <|
    some (DV.tup [.int .i64 (getI (getT d20 0)), .agg [.sl .no 4 (gL (getT d20 1) 0), .sl .no 5 (gL (getT d20 1) 1), .sl .no 1 (gL (getT d20 1) 2), .bool (gB (getT d20 1) 3)]])
   else need ((0 : Int) ≤ (1 : Int)) <|
   ((gL a4 4)[Int.toNat 1]?).bind fun x21 =>
   need (x21 = R 51 x21) <|
   (lmH K 115 [.ptr 0 0, R 51 x21] [.box [.sl .no 4 (gL (getT d2 1) 0), .sl .no 5 (gL (getT d2 1) 1), .sl .no 1 (gL (getT d2 1) 2), .bool (gB (getT d2 1) 3)]]).bind fun d22 =>
   need (d22 = .tup [.int .i64 (getI (getT d22 0)), .agg [.sl .no 4 (gL (getT d22 1) 0), .sl .no 5 (gL (getT d22 1) 1), .sl .no 1 (gL (getT d22 1) 2), .bool (gB (getT d22 1) 3)]]) <|
   bif gB (getT d22 1) 3 then some (DV.tup [.int .i64 0, .agg [.sl .no 4 (gL (getT d22 1) 0), .sl .no 5 (gL (getT d22 1) 1), .sl .no 1 (gL (getT d22 1) 2), .bool (gB (getT d22 1) 3)]])
   else (lm K 217 [.int .i64 (gI a4 0), .int .i64 (getI (getT d2 0)), .int .i64 (getI (getT d22 0))]).bind fun d23 =>
   need (d23 = .tup [.int .i64 (getI (getT d23 0)), .bool (getB (getT d23 1))]) <|
   bif !getB (getT d23 1) then some (DV.tup [.int .i64 0, .agg [.sl .no 4 (gL (getT d22 1) 0), .sl .no 5 (gL (getT d22 1) 1), .sl .no 1 (gL (getT d22 1) 2), .bool true]])
   else some (DV.tup [.int .i64 (getI (getT d23 0)), .agg [.sl .no 4 (gL (getT d22 1) 0), .sl .no 5 (gL (getT d22 1) 1), .sl .no 1 (gL (getT d22 1) 2), .bool (gB (getT d22 1) 3)]])
  else bif gI a4 0 == 16 then need ((0 : Int) ≤ (1 : Int)) <|
   ((gL a4 4)[Int.toNat 1]?).bind fun x24 =>
   need (x24 = R 51 x24) <|
   (lmH K 115 [.ptr 0 0, R 51 x24] [.box [.sl .no 4 (gL (getT d2 1) 0), .sl .no 5 (gL (getT d2 1) 1), .sl .no 1 (gL (getT d2 1) 2), .bool (gB (getT d2 1) 3)]]).bind fun d25 =>
   need (d25 = .tup [.int .i64 (getI (getT d25 0)), .agg [.sl .no 4 (gL (getT d25 1) 0), .sl .no 5 (gL (getT d25 1) 1), .sl .no 1 (gL (getT d25 1) 2), .bool (gB (getT d25 1) 3)]]) <|
   some (DV.tup [.int .i64 (getI (getT d25 0)), .agg [.sl .no 4 (gL (getT d25 1) 0), .sl .no 5 (gL (getT d25 1) 1), .sl .no 1 (gL (getT d25 1) 2), .bool (gB (getT d25 1) 3)]])
  else bif gI a4 0 == 17 then need ((0 : Int) ≤ (1 : Int)) <|
   ((gL a4 4)[Int.toNat 1]?).bind fun x26 =>
   need (x26 = R 51 x26) <|
   (lmH K 115 [.ptr 0 0, R 51 x26] [.box [.sl .no 4 (gL (getT d2 1) 0), .sl .no 5 (gL (getT d2 1) 1), .sl .no 1 (gL (getT d2 1) 2), .bool (gB (getT d2 1) 3)]]).bind fun d27 =>
   need (d27 = .tup [.int .i64 (getI (getT d27 0)), .agg [.sl .no 4 (gL (getT d27 1) 0), .sl .no 5 (gL (getT d27 1) 1), .sl .no 1 (gL (getT d27 1) 2), .bool (gB (getT d27 1) 3)]]) <|
   some (DV.tup [.int .i64 (getI (getT d27 0)), .agg [.sl .no 4 (gL (getT d27 1) 0), .sl .no 5 (gL (getT d27 1) 1), .sl .no 1 (gL (getT d27 1) 2), .bool (gB (getT d27 1) 3)]])
  else need ((0 : Int) ≤ (1 : Int)) <|
  ((gL a4 4)[Int.toNat 1]?).bind fun x28 =>
  need (x28 = R 51 x28) <|
  (lmH K 115 [.ptr 0 0, R 51 x28] [.box [.sl .no 4 (gL (getT d2 1) 0), .sl .no 5 (gL (getT d2 1) 1), .sl .no 1 (gL (getT d2 1) 2), .bool (gB (getT d2 1) 3)]]).bind fun d29 =>
  need (d29 = .tup [.int .i64 (getI (getT d29 0)), .agg [.sl .no 4 (gL (getT d29 1) 0), .sl .no 5 (gL (getT d29 1) 1), .sl .no 1 (gL (getT d29 1) 2), .bool (gB (getT d29 1) 3)]]) <|
  bif gB (getT d29 1) 3 then some (DV.tup [.int .i64 0, .agg [.sl .no 4 (gL (getT d29 1) 0), .sl .no 5 (gL (getT d29 1) 1), .sl .no 1 (gL (getT d29 1) 2), .bool (gB (getT d29 1) 3)]])
  else (lm K 217 [.int .i64 (gI a4 0), .int .i64 (getI (getT d2 0)), .int .i64 (getI (getT d29 0))]).bind fun d30 =>
  need (d30 = .tup [.int .i64 (getI (getT d30 0)), .bool (getB (getT d30 1))]) <|
  bif !getB (getT d30 1) then some (DV.tup [.int .i64 0, .agg [.sl .no 4 (gL (getT d29 1) 0), .sl .no 5 (gL (getT d29 1) 1), .sl .no 1 (gL (getT d29 1) 2), .bool true]])
  else some (DV.tup [.int .i64 (getI (getT d30 0)), .agg [.sl .no 4 (gL (getT d29 1) 0), .sl .no 5 (gL (getT d29 1) 1), .sl .no 1 (gL (getT d29 1) 2), .bool (gB (getT d29 1) 3)]])
theorem t180 {K : Nat} (a4 : DV) (a1 : DV) (a2 : List DV) (a3 : Bool) {r : DV} (h : T180 K a4 a1 a2 a3 = some r) : lmH K 180 [.ptr 0 0, R 51 a4] [.box [.sl .no 4 (gL a1 0), .sl .no 5 (gL a1 1), .sl .no 1 a2, .bool a3]] = some r := fnH_run (Eq.trans (by kernel_rfl) h)
/-! 45 45 -/
noncomputable def T45 (K : Nat) (a1 : DV) (a2 : DV) (a3 : List DV) : Option DV :=
  (lm K 55 [R 25 a1, R 51 a2]).bind fun d1 =>
  need (d1 = .tup [.int .i64 (getI (getT d1 0)), .int .i64 (getI (getT d1 1)), .int .i64 (getI (getT d1 2))]) <|
  bif getI (getT d1 1) != 0 then some (DV.tup [.int .i64 0, .int .i64 (getI (getT d1 1))])
  else (lm K 102 [R 25 a1]).bind fun d2 =>
  need (d2 = .sl .no 6 (getL d2)) <|
  bif (↑a3.length : Int) != (↑(getL d2).length : Int) then some (DV.tup [.int .i64 0, .int .i64 2])
  else (lmH K 115 [.ptr 0 0, R 51 a2] [.box [.sl .no 4 (gL a1 0), .sl .no 5 (gL a1 1), .sl .no 1 a3, .bool false]]).bind fun d3 =>
  need (d3 = .tup [.int .i64 (getI (getT d3 0)), .agg [.sl .no 4 (gL (getT d3 1) 0), .sl .no 5 (gL (getT d3 1) 1), .sl .no 1 (gL (getT d3 1) 2), .bool (gB (getT d3 1) 3)]]) <|
  bif gB (getT d3 1) 3 then some (DV.tup [.int .i64 0, .int .i64 110])
  else some (DV.tup [.int .i64 (getI (getT d3 0)), .int .i64 0])
theorem t45 {K : Nat} (a1 : DV) (a2 : DV) (a3 : List DV) {r : DV} (h : T45 K a1 a2 a3 = some r) : lm K 45 [R 25 a1, R 51 a2, .sl .no 1 a3] = some r := fn_run (Eq.trans (by kernel_rfl) h)
/-! 48 48 -/
end Go.Proofs.Ytmfgdnagmacgdaa.Dv
end
section
/- Trees of questions of functions of the program (printed by a program of this session, wip/dv/sym.txt). No condition. -/
set_option maxRecDepth 100000
set_option linter.unusedVariables false
namespace Go.Proofs.Ytmfgdnagmacgdaa.Dv
/-! 181 181 -/
/-! 116 116 -/
/-! 117 117 -/
/-! 46 46 -/
/-! 49 49 -/
/-! 182 182 -/
/-! 183 183 -/
/-! 184 184 -/
/-! 185 185 -/
/-! 218 218 -/
/-! 219 219 -/
/-! 220 220 -/
/-! 221 221 -/
/-! 222 222 -/
end Go.Proofs.Ytmfgdnagmacgdaa.Dv
end
section
/- Trees of questions of functions of the program (printed by a program of this session, wip/dv/sym.txt). No condition. -/
set_option maxRecDepth 100000
set_option linter.unusedVariables false
namespace Go.Proofs.Ytmfgdnagmacgdaa.Dv
/-! 8 8 -/
/-! 10 10 -/
/-! 11 11 -/
end Go.Proofs.Ytmfgdnagmacgdaa.Dv
end
section
/- Trees of questions of functions of the program (printed by a program of this session, wip/dv/sym.txt). No condition. -/
set_option maxRecDepth 100000
set_option linter.unusedVariables false
namespace Go.Proofs.Ytmfgdnagmacgdaa.Dv
/-! 12 12 -/
noncomputable def H12_0 (a1 : DV) (a2 : DV) (a3 : List DV) (a4 : List DV) (d9 : DV) (v100 : Int) (v40 : Int) : St := ⟨[.undef, .undef] ++ [.sl .no 1 a3] ++ [.undef] ++ [.ptr 0 0, .ptr 1 0] ++ [.undef, .undef, .undef] ++ [.sl .no 1 (getL d9), .sl (.tok 2) 1 [], .int .i64 v100, .int .i64 v40] ++ (un 123), [.box ((R 25 a1).cells), .box ((R 51 a2).cells), .tok 0 0]⟩
def P12_0 : List Dir := [.c, .r, .l, .r, .r, .r, .r, .r]
noncomputable def hd12_0 (K : Nat) (a1 : DV) (a2 : DV) (a3 : List DV) (a4 : List DV) (d9 : DV) (v100 : Int) (v40 : Int) : Option DV := hdL Try.prog (C0 K) 12 P12_0 (bits 136 7732) 3 (H12_0 a1 a2 a3 a4 d9 v100 v40)
noncomputable def H12_1 (a1 : DV) (a2 : DV) (a3 : List DV) (a4 : List DV) (d9 : DV) (v104 : Int) (v42 : Int) (v139 : List DV) : St := ⟨[.undef, .undef] ++ [.sl .no 1 a3] ++ [.undef] ++ [.ptr 0 0, .ptr 1 0] ++ [.undef, .undef, .undef] ++ [.sl .no 1 (getL d9), .osl 2 1 (([] : List DV).length + a4.length), .int .i64 v104, .int .i64 v42] ++ (un 123), [.box ((R 25 a1).cells), .box ((R 51 a2).cells), .arr 1 v139]⟩
def P12_1 : List Dir := [.c, .r, .l, .r, .r, .r, .r, .r]
noncomputable def hd12_1 (K : Nat) (a1 : DV) (a2 : DV) (a3 : List DV) (a4 : List DV) (d9 : DV) (v104 : Int) (v42 : Int) (v139 : List DV) : Option DV := hdL Try.prog (C0 K) 12 P12_1 (bits 136 7732) 3 (H12_1 a1 a2 a3 a4 d9 v104 v42 v139)
noncomputable def H12_2 (a1 : DV) (a2 : DV) (a3 : List DV) (a4 : List DV) (d9 : DV) (v75 : Int) (v52 : Int) (v76 : Int) : St := ⟨[.undef, .undef] ++ [.sl .no 1 a3] ++ [.undef] ++ [.ptr 0 0, .ptr 1 0] ++ [.undef, .undef, .undef] ++ [.sl .no 1 (getL d9), .sl (.tok 2) 1 [], .int .i64 v75, .int .i64 v52, .int .i64 v76] ++ (un 122), [.box ((R 25 a1).cells), .box ((R 51 a2).cells), .tok 0 0]⟩
def P12_2 : List Dir := [.c, .r, .c, .l, .r, .loop (bits 136 7732) 3, .c, .r, .l, .r, .r, .r, .r, .r]
noncomputable def hd12_2 (K : Nat) (a1 : DV) (a2 : DV) (a3 : List DV) (a4 : List DV) (d9 : DV) (v75 : Int) (v52 : Int) (v76 : Int) : Option DV := hdL Try.prog (C0 K) 12 P12_2 (bits 136 15924) 3 (H12_2 a1 a2 a3 a4 d9 v75 v52 v76)
noncomputable def H12_3 (a1 : DV) (a2 : DV) (a3 : List DV) (a4 : List DV) (d9 : DV) (v85 : Int) (v58 : Int) (v86 : Int) (v117 : List DV) : St := ⟨[.undef, .undef] ++ [.sl .no 1 a3] ++ [.undef] ++ [.ptr 0 0, .ptr 1 0] ++ [.undef, .undef, .undef] ++ [.sl .no 1 (getL d9), .osl 2 1 (([] : List DV).length + a4.length), .int .i64 v85, .int .i64 v58, .int .i64 v86] ++ (un 122), [.box ((R 25 a1).cells), .box ((R 51 a2).cells), .arr 1 v117]⟩
def P12_3 : List Dir := [.c, .r, .c, .l, .r, .loop (bits 136 7732) 3, .c, .r, .l, .r, .r, .r, .r, .r]
noncomputable def hd12_3 (K : Nat) (a1 : DV) (a2 : DV) (a3 : List DV) (a4 : List DV) (d9 : DV) (v85 : Int) (v58 : Int) (v86 : Int) (v117 : List DV) : Option DV := hdL Try.prog (C0 K) 12 P12_3 (bits 136 15924) 3 (H12_3 a1 a2 a3 a4 d9 v85 v58 v86 v117)
noncomputable def H12_4 (a1 : DV) (a2 : DV) (a3 : List DV) (a4 : List DV) (d9 : DV) (v98 : Int) (v65 : Int) (v99 : Int) (v74 : Int) : St := ⟨[.undef, .undef] ++ [.sl .no 1 a3] ++ [.undef] ++ [.ptr 0 0, .ptr 1 0] ++ [.undef, .undef, .undef] ++ [.sl .no 1 (getL d9), .sl (.tok 2) 1 [], .int .i64 v98, .int .i64 v65, .int .i64 v99, .int .i64 v74] ++ (un 121), [.box ((R 25 a1).cells), .box ((R 51 a2).cells), .tok 0 0]⟩
def P12_4 : List Dir := [.c, .r, .l, .c, .l, .r, .loop (bits 136 15924) 3, .c, .r, .c, .l, .r, .loop (bits 136 7732) 3, .c, .r, .l, .r, .r, .r, .r, .r]
noncomputable def hd12_4 (K : Nat) (a1 : DV) (a2 : DV) (a3 : List DV) (a4 : List DV) (d9 : DV) (v98 : Int) (v65 : Int) (v99 : Int) (v74 : Int) : Option DV := hdL Try.prog (C0 K) 12 P12_4 (bits 136 32308) 3 (H12_4 a1 a2 a3 a4 d9 v98 v65 v99 v74)
noncomputable def H12_5 (a1 : DV) (a2 : DV) (a3 : List DV) (a4 : List DV) (d9 : DV) (v102 : Int) (v67 : Int) (v103 : Int) (v83 : Int) (v84 : List DV) : St := ⟨[.undef, .undef] ++ [.sl .no 1 a3] ++ [.undef] ++ [.ptr 0 0, .ptr 1 0] ++ [.undef, .undef, .undef] ++ [.sl .no 1 (getL d9), .osl 2 1 (([] : List DV).length + a4.length), .int .i64 v102, .int .i64 v67, .int .i64 v103, .int .i64 v83] ++ (un 121), [.box ((R 25 a1).cells), .box ((R 51 a2).cells), .arr 1 v84]⟩
def P12_5 : List Dir := [.c, .r, .l, .c, .l, .r, .loop (bits 136 15924) 3, .c, .r, .c, .l, .r, .loop (bits 136 7732) 3, .c, .r, .l, .r, .r, .r, .r, .r]
noncomputable def hd12_5 (K : Nat) (a1 : DV) (a2 : DV) (a3 : List DV) (a4 : List DV) (d9 : DV) (v102 : Int) (v67 : Int) (v103 : Int) (v83 : Int) (v84 : List DV) : Option DV := hdL Try.prog (C0 K) 12 P12_5 (bits 136 32308) 3 (H12_5 a1 a2 a3 a4 d9 v102 v67 v103 v83 v84)
noncomputable def T12 (K : Nat) (a1 : DV) (a2 : DV) (a3 : List DV) (a4 : List DV) : Option DV :=
  (lm K 25 [R 25 a1, .int .i64 300]).bind fun d146 =>
  need (d146 = .bool (getB d146)) <|
  bif !getB d146 then (lm K 44 []).bind fun d147 =>
   need (d147 = .bool (getB d147)) <|
   some (DV.bool (getB d147))
  else (lm K 40 [R 51 a2, .int .i64 300]).bind fun d148 =>
  need (d148 = .int .i64 (getI d148)) <|
  bif decide (getI d148 < 0) then (lm K 44 []).bind fun d149 =>
   need (d149 = .bool (getB d149)) <|
   some (DV.bool (getB d149))
  else bif decide ((↑a3.length : Int) > 400) then (lm K 44 []).bind fun d150 =>
   need (d150 = .bool (getB d150)) <|
   some (DV.bool (getB d150))
  else bif (↑a4.length : Int) != (↑a3.length : Int) then (lm K 44 []).bind fun d151 =>
   need (d151 = .bool (getB d151)) <|
   some (DV.bool (getB d151))
  else (lm K 56 [R 25 a1]).bind fun d152 =>
  need (d152 = .sl .no 6 (getL d152)) <|
  bif (↑a3.length : Int) != (↑(getL d152).length : Int) then (lm K 44 []).bind fun d153 =>
   need (d153 = .bool (getB d153)) <|
   some (DV.bool (getB d153))
  else (lm K 42 [R 51 a2]).bind fun d154 =>
  need (d154 = .sl .no 1 (getL d154)) <|
  need ((([] : List DV).length + a4.length) * (8 : Nat) ≤ (140737488355328 : Nat) ∧ (([] : List DV) = [] ∨ (1 : Nat) = (1 : Nat))) <|
  bif a4.isEmpty then hd12_0 K a1 a2 a3 a4 d154 0 0
  else hd12_1 K a1 a2 a3 a4 d154 0 0 ([] ++ a4)
theorem t12 {K : Nat} (a1 : DV) (a2 : DV) (a3 : List DV) (a4 : List DV) {r : DV} (h : T12 K a1 a2 a3 a4 = some r) : lm K 12 [R 25 a1, R 51 a2, .sl .no 1 a3, .sl .no 1 a4] = some r := fn_run (Eq.trans (by kernel_rfl) h)
noncomputable def L12_0 (K : Nat) (a1 : DV) (a2 : DV) (a3 : List DV) (a4 : List DV) (d9 : DV) (v100 : Int) (v40 : Int) : Option DV :=
  bif decide (v40 < (↑(gL a1 0).length : Int)) then hd12_2 K a1 a2 a3 a4 d9 v100 v40 0
  else (lm K 45 [R 25 a1, R 51 a2, .sl .no 1 a3]).bind fun d127 =>
  need (d127 = .tup [.int .i64 (getI (getT d127 0)), .int .i64 (getI (getT d127 1))]) <|
  (lm K 45 [R 25 a1, R 51 a2, .sl .no 1 []]).bind fun d128 =>
  need (d128 = .tup [.int .i64 (getI (getT d128 0)), .int .i64 (getI (getT d128 1))]) <|
  bif getI (getT d127 0) == getI (getT d128 0) then (lm K 47 [.int .i64 (getI (getT d127 1))]).bind fun d129 =>
   need (d129 = .int .i64 (getI d129)) <|
   (lm K 47 [.int .i64 (getI (getT d128 1))]).bind fun d130 =>
   need (d130 = .int .i64 (getI d130)) <|
   bif getI d129 == getI d130 then (lm K 44 []).bind fun d131 =>
    need (d131 = .bool (getB d131)) <|
    some (DV.bool (getB d131))
   else some (DV.bool false)
  else some (DV.bool false)
theorem l12_0 {K : Nat} (a1 : DV) (a2 : DV) (a3 : List DV) (a4 : List DV) (d9 : DV) (v100 : Int) (v40 : Int) {r : DV} (h : L12_0 K a1 a2 a3 a4 d9 v100 v40 = some r) : hd12_0 K a1 a2 a3 a4 d9 v100 v40 = some r := hd_run (Eq.trans (by kernel_rfl) h)
noncomputable def L12_1 (K : Nat) (a1 : DV) (a2 : DV) (a3 : List DV) (a4 : List DV) (d9 : DV) (v104 : Int) (v42 : Int) (v139 : List DV) : Option DV :=
  bif decide (v42 < (↑(gL a1 0).length : Int)) then hd12_3 K a1 a2 a3 a4 d9 v104 v42 0 v139
  else (lm K 45 [R 25 a1, R 51 a2, .sl .no 1 a3]).bind fun d155 =>
  need (d155 = .tup [.int .i64 (getI (getT d155 0)), .int .i64 (getI (getT d155 1))]) <|
  need (v139.length = ([] : List DV).length + a4.length) <|
  (lm K 45 [R 25 a1, R 51 a2, .sl .no 1 v139]).bind fun d156 =>
  need (d156 = .tup [.int .i64 (getI (getT d156 0)), .int .i64 (getI (getT d156 1))]) <|
  bif getI (getT d155 0) == getI (getT d156 0) then (lm K 47 [.int .i64 (getI (getT d155 1))]).bind fun d157 =>
   need (d157 = .int .i64 (getI d157)) <|
   (lm K 47 [.int .i64 (getI (getT d156 1))]).bind fun d158 =>
   need (d158 = .int .i64 (getI d158)) <|
   bif getI d157 == getI d158 then (lm K 44 []).bind fun d159 =>
    need (d159 = .bool (getB d159)) <|
    some (DV.bool (getB d159))
   else some (DV.bool false)
  else some (DV.bool false)
theorem l12_1 {K : Nat} (a1 : DV) (a2 : DV) (a3 : List DV) (a4 : List DV) (d9 : DV) (v104 : Int) (v42 : Int) (v139 : List DV) {r : DV} (h : L12_1 K a1 a2 a3 a4 d9 v104 v42 v139 = some r) : hd12_1 K a1 a2 a3 a4 d9 v104 v42 v139 = some r := hd_run (Eq.trans (by kernel_rfl) h)
noncomputable def L12_2 (K : Nat) (a1 : DV) (a2 : DV) (a3 : List DV) (a4 : List DV) (d9 : DV) (v75 : Int) (v52 : Int) (v76 : Int) : Option DV :=
  need ((0 : Int) ≤ v52) <|
  ((gL a1 0)[v52.toNat]?).bind fun x137 =>
  need (x137 = R 45 x137) <|
  bif decide (v76 < (↑(gL x137 1).length : Int)) then hd12_4 K a1 a2 a3 a4 d9 v75 v52 v76 0
  else hd12_0 K a1 a2 a3 a4 d9 v75 (IntKind.i64.wrap (v52 + 1))
theorem l12_2 {K : Nat} (a1 : DV) (a2 : DV) (a3 : List DV) (a4 : List DV) (d9 : DV) (v75 : Int) (v52 : Int) (v76 : Int) {r : DV} (h : L12_2 K a1 a2 a3 a4 d9 v75 v52 v76 = some r) : hd12_2 K a1 a2 a3 a4 d9 v75 v52 v76 = some r := hd_run (Eq.trans (by kernel_rfl) h)
noncomputable def L12_3 (K : Nat) (a1 : DV) (a2 : DV) (a3 : List DV) (a4 : List DV) (d9 : DV) (v85 : Int) (v58 : Int) (v86 : Int) (v117 : List DV) : Option DV :=
  need ((0 : Int) ≤ v58) <|
  ((gL a1 0)[v58.toNat]?).bind fun x160 =>
  need (x160 = R 45 x160) <|
  bif decide (v86 < (↑(gL x160 1).length : Int)) then hd12_5 K a1 a2 a3 a4 d9 v85 v58 v86 0 v117
  else hd12_1 K a1 a2 a3 a4 d9 v85 (IntKind.i64.wrap (v58 + 1)) v117
theorem l12_3 {K : Nat} (a1 : DV) (a2 : DV) (a3 : List DV) (a4 : List DV) (d9 : DV) (v85 : Int) (v58 : Int) (v86 : Int) (v117 : List DV) {r : DV} (h : L12_3 K a1 a2 a3 a4 d9 v85 v58 v86 v117 = some r) : hd12_3 K a1 a2 a3 a4 d9 v85 v58 v86 v117 = some r := hd_run (Eq.trans (by kernel_rfl) h)
noncomputable def L12_5 (K : Nat) (a1 : DV) (a2 : DV) (a3 : List DV) (a4 : List DV) (d9 : DV) (v102 : Int) (v67 : Int) (v103 : Int) (v83 : Int) (v84 : List DV) : Option DV :=
  bif decide (v83 < (↑(getL d9).length : Int)) then need ((0 : Int) ≤ v83) <|
   ((getL d9)[v83.toNat]?).bind fun x140 =>
   need (x140 = .str (getS x140)) <|
   need ((0 : Int) ≤ v67) <|
   ((gL a1 0)[v67.toNat]?).bind fun x141 =>
   need (x141 = R 45 x141) <|
   need ((gS x141 (0 : Nat)).size + (ByteArray.mk #[(46 : UInt8)]).size ≤ (1099511627776 : Nat)) <|
   need ((0 : Int) ≤ v67) <|
   ((gL a1 0)[v67.toNat]?).bind fun x142 =>
   need (x142 = R 45 x142) <|
   need ((0 : Int) ≤ v103) <|
   ((gL x142 1)[v103.toNat]?).bind fun x143 =>
   need (x143 = R 61 x143) <|
   need ((gS x141 (0 : Nat) ++ ByteArray.mk #[(46 : UInt8)]).size + (gS x143 (0 : Nat)).size ≤ (1099511627776 : Nat)) <|
   bif (getS x140).toList == (gS x141 0 ++ ByteArray.mk #[46] ++ gS x143 0).toList then need ((0 : Int) ≤ v102) <|
    (a3[v102.toNat]?).bind fun x144 =>
    need (x144 = .int .i64 (getI x144)) <|
    need ((0 : Int) ≤ v102 ∧ v102 < (↑(([] : List DV).length + a4.length) : Int)) <|
    (v84[v102.toNat]?).bind fun x145 =>
    need ((1 : Nat) ≤ x145.cells.length) <|
    hd12_5 K a1 a2 a3 a4 d9 v102 v67 v103 (IntKind.i64.wrap (v83 + 1)) (v84.set v102.toNat (DV.int IntKind.i64 (getI x144)))
   else hd12_5 K a1 a2 a3 a4 d9 v102 v67 v103 (IntKind.i64.wrap (v83 + 1)) v84
  else hd12_3 K a1 a2 a3 a4 d9 (IntKind.i64.wrap (v102 + 1)) v67 (IntKind.i64.wrap (v103 + 1)) v84
theorem l12_5 {K : Nat} (a1 : DV) (a2 : DV) (a3 : List DV) (a4 : List DV) (d9 : DV) (v102 : Int) (v67 : Int) (v103 : Int) (v83 : Int) (v84 : List DV) {r : DV} (h : L12_5 K a1 a2 a3 a4 d9 v102 v67 v103 v83 v84 = some r) : hd12_5 K a1 a2 a3 a4 d9 v102 v67 v103 v83 v84 = some r := hd_run (Eq.trans (by kernel_rfl) h)

end Go.Proofs.Ytmfgdnagmacgdaa.Dv
end
section
/- Trees of questions of functions of the program (printed by a program of this session, wip/dv/sym.txt). No condition. -/
set_option maxRecDepth 100000
set_option linter.unusedVariables false
namespace Go.Proofs.Ytmfgdnagmacgdaa.Dv
/-! 60 60 -/
noncomputable def T60 (K : Nat) (a1 : Int) : Option DV :=
  some (DV.int .i64 a1)
theorem t60 {K : Nat} (a1 : Int) {r : DV} (h : T60 K a1 = some r) : lm K 60 [.int .i64 a1] = some r := fn_run (Eq.trans (by kernel_rfl) h)

/-! 61 61 -/
noncomputable def H61_0 (a1 : DV) (a2 : ByteArray) (v2 : Int) : St := ⟨[.undef] ++ [.str a2, .ptr 0 0] ++ [.undef, .undef, .undef] ++ [.int .i64 v2] ++ (un 16), [.box ((R 25 a1).cells)]⟩
def P61_0 : List Dir := [.c, .r, .l, .r]
noncomputable def hd61_0 (K : Nat) (a1 : DV) (a2 : ByteArray) (v2 : Int) : Option DV := hdL Try.prog (C0 K) 61 P61_0 (bits 23 70) 1 (H61_0 a1 a2 v2)
noncomputable def T61 (K : Nat) (a1 : DV) (a2 : ByteArray) : Option DV :=
  hd61_0 K a1 a2 0
theorem t61 {K : Nat} (a1 : DV) (a2 : ByteArray) {r : DV} (h : T61 K a1 a2 = some r) : lm K 61 [R 25 a1, .str a2] = some r := fn_run (Eq.trans (by kernel_rfl) h)
noncomputable def L61_0 (K : Nat) (a1 : DV) (a2 : ByteArray) (v2 : Int) : Option DV :=
  bif decide (v2 < (↑(gL a1 0).length : Int)) then need ((0 : Int) ≤ v2) <|
   ((gL a1 0)[v2.toNat]?).bind fun x3 =>
   need (x3 = R 45 x3) <|
   bif (gS x3 0).toList == a2.toList then some (DV.tup [.int .i64 v2, .bool true])
   else hd61_0 K a1 a2 (IntKind.i64.wrap (v2 + 1))
  else some (DV.tup [.int .i64 0, .bool false])
theorem l61_0 {K : Nat} (a1 : DV) (a2 : ByteArray) (v2 : Int) {r : DV} (h : L61_0 K a1 a2 v2 = some r) : hd61_0 K a1 a2 v2 = some r := hd_run (Eq.trans (by kernel_rfl) h)

/-! 15 15 -/
noncomputable def T15 (K : Nat) (a1 : DV) (a2 : DV) (a3 : DV) : Option DV :=
  need ((([] : List DV).length + (gL a1 (0 : Nat)).length) * (72 : Nat) ≤ (140737488355328 : Nat) ∧ (([] : List DV) = [] ∨ (4 : Nat) = (4 : Nat))) <|
  bif (gL a1 0).isEmpty then need ((([] : List DV).length + [R 45 a3].length) * (72 : Nat) ≤ (140737488355328 : Nat) ∧ (([] : List DV) = [] ∨ (4 : Nat) = (4 : Nat))) <|
   (lm K 25 [.agg [.sl .no 4 [R 45 a3], .sl .no 5 (gL a1 1)], .int .i64 300]).bind fun d1 =>
   need (d1 = .bool (getB d1)) <|
   bif !getB d1 then (lm K 57 []).bind fun d2 =>
    need (d2 = .bool (getB d2)) <|
    some (DV.bool (getB d2))
   else (lm K 40 [R 51 a2, .int .i64 300]).bind fun d3 =>
   need (d3 = .int .i64 (getI d3)) <|
   bif decide (getI d3 < 0) then (lm K 57 []).bind fun d4 =>
    need (d4 = .bool (getB d4)) <|
    some (DV.bool (getB d4))
   else (lm K 55 [R 25 a1, R 51 a2]).bind fun d5 =>
   need (d5 = .tup [.int .i64 (getI (getT d5 0)), .int .i64 (getI (getT d5 1)), .int .i64 (getI (getT d5 2))]) <|
   (lm K 55 [.agg [.sl .no 4 [R 45 a3], .sl .no 5 (gL a1 1)], R 51 a2]).bind fun d6 =>
   need (d6 = .tup [.int .i64 (getI (getT d6 0)), .int .i64 (getI (getT d6 1)), .int .i64 (getI (getT d6 2))]) <|
   (lm K 60 [.int .i64 (getI (getT d5 1))]).bind fun d7 =>
   need (d7 = .int .i64 (getI d7)) <|
   bif getI d7 == 0 then (lm K 60 [.int .i64 (getI (getT d6 1))]).bind fun d8 =>
    need (d8 = .int .i64 (getI d8)) <|
    bif getI d8 == 0 then bif getI (getT d5 0) == getI (getT d6 0) then (lm K 57 []).bind fun d9 =>
      need (d9 = .bool (getB d9)) <|
      some (DV.bool (getB d9))
     else some (DV.bool false)
    else some (DV.bool false)
   else (lm K 61 [R 25 a1, .str (gS a3 0)]).bind fun d10 =>
   need (d10 = .tup [.int .i64 (getI (getT d10 0)), .bool (getB (getT d10 1))]) <|
   bif getB (getT d10 1) then (lm K 60 [.int .i64 (getI (getT d6 1))]).bind fun d11 =>
    need (d11 = .int .i64 (getI d11)) <|
    (lm K 60 [.int .i64 (getI (getT d5 1))]).bind fun d12 =>
    need (d12 = .int .i64 (getI d12)) <|
    bif getI d11 == getI d12 then bif getI (getT d5 2) == getI (getT d6 2) then (lm K 57 []).bind fun d13 =>
      need (d13 = .bool (getB d13)) <|
      some (DV.bool (getB d13))
     else some (DV.bool false)
    else some (DV.bool false)
   else (lm K 60 [.int .i64 (getI (getT d6 1))]).bind fun d14 =>
   need (d14 = .int .i64 (getI d14)) <|
   bif getI d14 != 0 then (lm K 57 []).bind fun d15 =>
    need (d15 = .bool (getB d15)) <|
    some (DV.bool (getB d15))
   else (lm K 60 [.int .i64 (getI (getT d5 1))]).bind fun d16 =>
   need (d16 = .int .i64 (getI d16)) <|
   bif getI d16 == 61 then (lm K 57 []).bind fun d17 =>
    need (d17 = .bool (getB d17)) <|
    some (DV.bool (getB d17))
   else some (DV.bool false)
  else need ((([] ++ gL a1 (0 : Nat)).length + [R 45 a3].length) * (72 : Nat) ≤ (140737488355328 : Nat) ∧ ([] ++ gL a1 (0 : Nat)).length = ([] : List DV).length + (gL a1 (0 : Nat)).length ∧ ((4 : Nat) = (4 : Nat) ∧ (4 : Nat) = (4 : Nat) ∨ [] ++ gL a1 (0 : Nat) = [] ∧ (4 : Nat) = (0 : Nat))) <|
  (lm K 25 [.agg ([.sl .no 4 ([] ++ gL a1 0 ++ [R 45 a3]), .sl .no 5 (gL a1 1)]), .int .i64 300]).bind fun d18 =>
  need (d18 = .bool (getB d18)) <|
  bif !getB d18 then (lm K 57 []).bind fun d19 =>
   need (d19 = .bool (getB d19)) <|
   some (DV.bool (getB d19))
  else (lm K 40 [R 51 a2, .int .i64 300]).bind fun d20 =>
  need (d20 = .int .i64 (getI d20)) <|
  bif decide (getI d20 < 0) then (lm K 57 []).bind fun d21 =>
   need (d21 = .bool (getB d21)) <|
   some (DV.bool (getB d21))
  else (lm K 55 [R 25 a1, R 51 a2]).bind fun d22 =>
  need (d22 = .tup [.int .i64 (getI (getT d22 0)), .int .i64 (getI (getT d22 1)), .int .i64 (getI (getT d22 2))]) <|
  (lm K 55 [.agg ([.sl .no 4 ([] ++ gL a1 0 ++ [R 45 a3]), .sl .no 5 (gL a1 1)]), R 51 a2]).bind fun d23 =>
  need (d23 = .tup [.int .i64 (getI (getT d23 0)), .int .i64 (getI (getT d23 1)), .int .i64 (getI (getT d23 2))]) <|
  (lm K 60 [.int .i64 (getI (getT d22 1))]).bind fun d24 =>
  need (d24 = .int .i64 (getI d24)) <|
  bif getI d24 == 0 then (lm K 60 [.int .i64 (getI (getT d23 1))]).bind fun d25 =>
   need (d25 = .int .i64 (getI d25)) <|
   bif getI d25 == 0 then bif getI (getT d22 0) == getI (getT d23 0) then (lm K 57 []).bind fun d26 =>
     need (d26 = .bool (getB d26)) <|
     some (DV.bool (getB d26))
    else some (DV.bool false)
   else some (DV.bool false)
  else (lm K 61 [R 25 a1, .str (gS a3 0)]).bind fun d27 =>
  need (d27 = .tup [.int .i64 (getI (getT d27 0)), .bool (getB (getT d27 1))]) <|
  bif getB (getT d27 1) then (lm K 60 [.int .i64 (getI (getT d23 1))]).bind fun d28 =>
   need (d28 = .int .i64 (getI d28)) <|
   (lm K 60 [.int .i64 (getI (getT d22 1))]).bind fun d29 =>
   need (d29 = .int .i64 (getI d29)) <|
   bif getI d28 == getI d29 then bif getI (getT d22 2) == getI (getT d23 2) then (lm K 57 []).bind fun d30 =>
     need (d30 = .bool (getB d30)) <|
     some (DV.bool (getB d30))
    else some (DV.bool false)
   else some (DV.bool false)
  else (lm K 60 [.int .i64 (getI (getT d23 1))]).bind fun d31 =>
  need (d31 = .int .i64 (getI d31)) <|
  bif getI d31 != 0 then (lm K 57 []).bind fun d32 =>
   need (d32 = .bool (getB d32)) <|
   some (DV.bool (getB d32))
  else (lm K 60 [.int .i64 (getI (getT d22 1))]).bind fun d33 =>
  need (d33 = .int .i64 (getI d33)) <|
  bif getI d33 == 61 then (lm K 57 []).bind fun d34 =>
   need (d34 = .bool (getB d34)) <|
   some (DV.bool (getB d34))
  else some (DV.bool false)
theorem t15 {K : Nat} (a1 : DV) (a2 : DV) (a3 : DV) {r : DV} (h : T15 K a1 a2 a3 = some r) : lm K 15 [R 25 a1, R 51 a2, R 45 a3] = some r := fn_run (Eq.trans (by kernel_rfl) h)

end Go.Proofs.Ytmfgdnagmacgdaa.Dv
end
section
/- Trees of questions of functions of the program (printed by a program of this session, wip/dv/sym.txt). No condition. -/
set_option maxRecDepth 100000
set_option linter.unusedVariables false
namespace Go.Proofs.Ytmfgdnagmacgdaa.Dv
/-! 14 14 -/
noncomputable def H14_0 (a1 : DV) (a2 : DV) (a3 : DV) (d9 : DV) (d10 : DV) (d11 : DV) (v30 : Bool) : St := ⟨[.undef, .undef, .undef] ++ [.ptr 0 0, .ptr 1 0] ++ (un 9) ++ [.int .i64 (getI (getT d9 0)), .int .i64 (getI (getT d9 1))] ++ [.undef] ++ [.int .i64 (getI (getT d10 0)), .int .i64 (getI (getT d10 1))] ++ [.undef] ++ [.int .i64 (getI (getT d11 0)), .int .i64 (getI (getT d11 1))] ++ [.undef] ++ [.bool v30] ++ (un 157), [.box ((R 25 a1).cells), .box ((R 51 a2).cells), .box ((R 51 a3).cells)]⟩
def P14_0 : List Dir := [.r, .r, .r, .r, .r, .r, .r, .r, .r, .r]
noncomputable def hd14_0 (K : Nat) (a1 : DV) (a2 : DV) (a3 : DV) (d9 : DV) (d10 : DV) (d11 : DV) (v30 : Bool) : Option DV := hdL Try.prog (C0 K) 14 P14_0 (bits 0 0) 0 (H14_0 a1 a2 a3 d9 d10 d11 v30)
noncomputable def H14_1 (a1 : DV) (a2 : DV) (a3 : DV) (v30 : Bool) : St := ⟨[.undef, .undef, .undef] ++ [.ptr 0 0, .ptr 1 0] ++ (un 18) ++ [.bool v30] ++ (un 157), [.box ((R 25 a1).cells), .box ((R 51 a2).cells), .box ((R 51 a3).cells)]⟩
def P14_1 : List Dir := [.r, .r, .r, .r, .r, .r, .r, .r, .r, .r, .r]
noncomputable def hd14_1 (K : Nat) (a1 : DV) (a2 : DV) (a3 : DV) (v30 : Bool) : Option DV := hdL Try.prog (C0 K) 14 P14_1 (bits 0 0) 0 (H14_1 a1 a2 a3 v30)
noncomputable def H14_2 (a1 : DV) (a2 : DV) (a3 : DV) (v30 : Bool) (v77 : Int) : St := ⟨[.undef, .undef, .undef] ++ [.ptr 0 0, .ptr 1 0] ++ (un 18) ++ [.bool v30, .int .i64 v77] ++ (un 156), [.box ((R 25 a1).cells), .box ((R 51 a2).cells), .box ((R 51 a3).cells)]⟩
def P14_2 : List Dir := [.c, .r, .l, .r, .r, .r, .r, .r, .r, .r, .r, .r, .r, .r]
noncomputable def hd14_2 (K : Nat) (a1 : DV) (a2 : DV) (a3 : DV) (v30 : Bool) (v77 : Int) : Option DV := hdL Try.prog (C0 K) 14 P14_2 (bits 181 25165848) 3 (H14_2 a1 a2 a3 v30 v77)
noncomputable def T14 (K : Nat) (a1 : DV) (a2 : DV) (a3 : DV) : Option DV :=
  (lm K 25 [R 25 a1, .int .i64 300]).bind fun d38 =>
  need (d38 = .bool (getB d38)) <|
  bif !getB d38 then (lm K 57 []).bind fun d39 =>
   need (d39 = .bool (getB d39)) <|
   some (DV.bool (getB d39))
  else (lm K 40 [R 51 a2, .int .i64 300]).bind fun d40 =>
  need (d40 = .int .i64 (getI d40)) <|
  bif decide (getI d40 < 0) then (lm K 57 []).bind fun d41 =>
   need (d41 = .bool (getB d41)) <|
   some (DV.bool (getB d41))
  else (lm K 40 [R 51 a3, .int .i64 300]).bind fun d42 =>
  need (d42 = .int .i64 (getI d42)) <|
  bif decide (getI d42 < 0) then (lm K 57 []).bind fun d43 =>
   need (d43 = .bool (getB d43)) <|
   some (DV.bool (getB d43))
  else (lm K 55 [R 25 a1, R 51 a2]).bind fun d44 =>
  need (d44 = .tup [.int .i64 (getI (getT d44 0)), .int .i64 (getI (getT d44 1)), .int .i64 (getI (getT d44 2))]) <|
  (lm K 55 [R 25 a1, R 51 a3]).bind fun d45 =>
  need (d45 = .tup [.int .i64 (getI (getT d45 0)), .int .i64 (getI (getT d45 1)), .int .i64 (getI (getT d45 2))]) <|
  (lm K 55 [R 25 a1, .agg [.int .i64 16, .str (ByteArray.mk #[]), .str (ByteArray.mk #[]), .int .i64 0, .sl .no 6 [R 51 a2, R 51 a3], .int .i64 0]]).bind fun d46 =>
  need (d46 = .tup [.int .i64 (getI (getT d46 0)), .int .i64 (getI (getT d46 1)), .int .i64 (getI (getT d46 2))]) <|
  (lm K 55 [R 25 a1, .agg [.int .i64 8, .str (ByteArray.mk #[]), .str (ByteArray.mk #[]), .int .i64 0, .sl .no 6 [R 51 a2, R 51 a3], .int .i64 0]]).bind fun d47 =>
  need (d47 = .tup [.int .i64 (getI (getT d47 0)), .int .i64 (getI (getT d47 1)), .int .i64 (getI (getT d47 2))]) <|
  (lm K 55 [R 25 a1, .agg [.int .i64 10, .str (ByteArray.mk #[]), .str (ByteArray.mk #[]), .int .i64 0, .sl .no 6 [R 51 a2, R 51 a3], .int .i64 0]]).bind fun d48 =>
  need (d48 = .tup [.int .i64 (getI (getT d48 0)), .int .i64 (getI (getT d48 1)), .int .i64 (getI (getT d48 2))]) <|
  (lm K 60 [.int .i64 (getI (getT d44 1))]).bind fun d49 =>
  need (d49 = .int .i64 (getI d49)) <|
  bif getI d49 == 0 then (lm K 60 [.int .i64 (getI (getT d45 1))]).bind fun d50 =>
   need (d50 = .int .i64 (getI d50)) <|
   (lm K 60 [.int .i64 (getI (getT d46 1))]).bind fun d51 =>
   need (d51 = .int .i64 (getI d51)) <|
   bif getI d50 == 0 then bif getI (getT d44 0) == 1 then bif !(getI d51 == 0) == (getI (getT d45 0) == 1) then some (DV.bool false)
     else (lm K 60 [.int .i64 (getI (getT d47 1))]).bind fun d52 =>
     need (d52 = .int .i64 (getI d52)) <|
     bif getI d50 == 0 then bif getI (getT d44 0) == 2 then bif !(getI d52 == 0) == (getI (getT d45 0) == 2) then some (DV.bool false)
       else (lm K 60 [.int .i64 (getI (getT d48 1))]).bind fun d53 =>
       need (d53 = .int .i64 (getI d53)) <|
       bif getI d50 == 0 then bif !(getI d53 == 0) == (getI (getT d44 0) == getI (getT d45 0)) then some (DV.bool false)
        else hd14_0 K a1 a2 a3 d46 d47 d48 (getI d50 == 0)
       else bif !(getI d53 == 0) == false then some (DV.bool false)
       else hd14_0 K a1 a2 a3 d46 d47 d48 (getI d50 == 0)
      else bif !(getI d52 == 0) == false then some (DV.bool false)
      else (lm K 60 [.int .i64 (getI (getT d48 1))]).bind fun d54 =>
      need (d54 = .int .i64 (getI d54)) <|
      bif getI d50 == 0 then bif !(getI d54 == 0) == (getI (getT d44 0) == getI (getT d45 0)) then some (DV.bool false)
       else hd14_0 K a1 a2 a3 d46 d47 d48 (getI d50 == 0)
      else bif !(getI d54 == 0) == false then some (DV.bool false)
      else hd14_0 K a1 a2 a3 d46 d47 d48 (getI d50 == 0)
     else bif !(getI d52 == 0) == false then some (DV.bool false)
     else (lm K 60 [.int .i64 (getI (getT d48 1))]).bind fun d55 =>
     need (d55 = .int .i64 (getI d55)) <|
     bif getI d50 == 0 then bif !(getI d55 == 0) == (getI (getT d44 0) == getI (getT d45 0)) then some (DV.bool false)
      else hd14_0 K a1 a2 a3 d46 d47 d48 (getI d50 == 0)
     else bif !(getI d55 == 0) == false then some (DV.bool false)
     else hd14_0 K a1 a2 a3 d46 d47 d48 (getI d50 == 0)
    else bif !(getI d51 == 0) == false then some (DV.bool false)
    else (lm K 60 [.int .i64 (getI (getT d47 1))]).bind fun d56 =>
    need (d56 = .int .i64 (getI d56)) <|
    bif getI d50 == 0 then bif getI (getT d44 0) == 2 then bif !(getI d56 == 0) == (getI (getT d45 0) == 2) then some (DV.bool false)
      else (lm K 60 [.int .i64 (getI (getT d48 1))]).bind fun d57 =>
      need (d57 = .int .i64 (getI d57)) <|
      bif getI d50 == 0 then bif !(getI d57 == 0) == (getI (getT d44 0) == getI (getT d45 0)) then some (DV.bool false)
       else hd14_0 K a1 a2 a3 d46 d47 d48 (getI d50 == 0)
      else bif !(getI d57 == 0) == false then some (DV.bool false)
      else hd14_0 K a1 a2 a3 d46 d47 d48 (getI d50 == 0)
     else bif !(getI d56 == 0) == false then some (DV.bool false)
     else (lm K 60 [.int .i64 (getI (getT d48 1))]).bind fun d58 =>
     need (d58 = .int .i64 (getI d58)) <|
     bif getI d50 == 0 then bif !(getI d58 == 0) == (getI (getT d44 0) == getI (getT d45 0)) then some (DV.bool false)
      else hd14_0 K a1 a2 a3 d46 d47 d48 (getI d50 == 0)
     else bif !(getI d58 == 0) == false then some (DV.bool false)
     else hd14_0 K a1 a2 a3 d46 d47 d48 (getI d50 == 0)
    else bif !(getI d56 == 0) == false then some (DV.bool false)
    else (lm K 60 [.int .i64 (getI (getT d48 1))]).bind fun d59 =>
    need (d59 = .int .i64 (getI d59)) <|
    bif getI d50 == 0 then bif !(getI d59 == 0) == (getI (getT d44 0) == getI (getT d45 0)) then some (DV.bool false)
     else hd14_0 K a1 a2 a3 d46 d47 d48 (getI d50 == 0)
    else bif !(getI d59 == 0) == false then some (DV.bool false)
    else hd14_0 K a1 a2 a3 d46 d47 d48 (getI d50 == 0)
   else bif !(getI d51 == 0) == false then some (DV.bool false)
   else (lm K 60 [.int .i64 (getI (getT d47 1))]).bind fun d60 =>
   need (d60 = .int .i64 (getI d60)) <|
   bif getI d50 == 0 then bif getI (getT d44 0) == 2 then bif !(getI d60 == 0) == (getI (getT d45 0) == 2) then some (DV.bool false)
     else (lm K 60 [.int .i64 (getI (getT d48 1))]).bind fun d61 =>
     need (d61 = .int .i64 (getI d61)) <|
     bif getI d50 == 0 then bif !(getI d61 == 0) == (getI (getT d44 0) == getI (getT d45 0)) then some (DV.bool false)
      else hd14_0 K a1 a2 a3 d46 d47 d48 (getI d50 == 0)
     else bif !(getI d61 == 0) == false then some (DV.bool false)
     else hd14_0 K a1 a2 a3 d46 d47 d48 (getI d50 == 0)
    else bif !(getI d60 == 0) == false then some (DV.bool false)
    else (lm K 60 [.int .i64 (getI (getT d48 1))]).bind fun d62 =>
    need (d62 = .int .i64 (getI d62)) <|
    bif getI d50 == 0 then bif !(getI d62 == 0) == (getI (getT d44 0) == getI (getT d45 0)) then some (DV.bool false)
     else hd14_0 K a1 a2 a3 d46 d47 d48 (getI d50 == 0)
    else bif !(getI d62 == 0) == false then some (DV.bool false)
    else hd14_0 K a1 a2 a3 d46 d47 d48 (getI d50 == 0)
   else bif !(getI d60 == 0) == false then some (DV.bool false)
   else (lm K 60 [.int .i64 (getI (getT d48 1))]).bind fun d63 =>
   need (d63 = .int .i64 (getI d63)) <|
   bif getI d50 == 0 then bif !(getI d63 == 0) == (getI (getT d44 0) == getI (getT d45 0)) then some (DV.bool false)
    else hd14_0 K a1 a2 a3 d46 d47 d48 (getI d50 == 0)
   else bif !(getI d63 == 0) == false then some (DV.bool false)
   else hd14_0 K a1 a2 a3 d46 d47 d48 (getI d50 == 0)
  else (lm K 60 [.int .i64 (getI (getT d46 1))]).bind fun d64 =>
  need (d64 = .int .i64 (getI d64)) <|
  bif !(getI d64 == 0) == false then some (DV.bool false)
  else (lm K 60 [.int .i64 (getI (getT d47 1))]).bind fun d65 =>
  need (d65 = .int .i64 (getI d65)) <|
  bif !(getI d65 == 0) == false then some (DV.bool false)
  else (lm K 60 [.int .i64 (getI (getT d48 1))]).bind fun d66 =>
  need (d66 = .int .i64 (getI d66)) <|
  bif !(getI d66 == 0) == false then some (DV.bool false)
  else hd14_0 K a1 a2 a3 d46 d47 d48 false
theorem t14 {K : Nat} (a1 : DV) (a2 : DV) (a3 : DV) {r : DV} (h : T14 K a1 a2 a3 = some r) : lm K 14 [R 25 a1, R 51 a2, R 51 a3] = some r := fn_run (Eq.trans (by kernel_rfl) h)
noncomputable def L14_0 (K : Nat) (a1 : DV) (a2 : DV) (a3 : DV) (d9 : DV) (d10 : DV) (d11 : DV) (v30 : Bool) : Option DV :=
  (lm K 60 [.int .i64 (getI (getT d9 1))]).bind fun d67 =>
  need (d67 = .int .i64 (getI d67)) <|
  bif getI d67 == 0 then bif getI (getT d9 0) != 1 then some (DV.bool false)
   else (lm K 60 [.int .i64 (getI (getT d10 1))]).bind fun d68 =>
   need (d68 = .int .i64 (getI d68)) <|
   bif getI d68 == 0 then bif getI (getT d10 0) != 2 then some (DV.bool false)
    else (lm K 60 [.int .i64 (getI (getT d11 1))]).bind fun d69 =>
    need (d69 = .int .i64 (getI d69)) <|
    bif getI d69 == 0 then bif getI (getT d11 0) != 1 then some (DV.bool false)
     else hd14_1 K a1 a2 a3 v30
    else hd14_1 K a1 a2 a3 v30
   else (lm K 60 [.int .i64 (getI (getT d11 1))]).bind fun d70 =>
   need (d70 = .int .i64 (getI d70)) <|
   bif getI d70 == 0 then bif getI (getT d11 0) != 1 then some (DV.bool false)
    else hd14_1 K a1 a2 a3 v30
   else hd14_1 K a1 a2 a3 v30
  else (lm K 60 [.int .i64 (getI (getT d10 1))]).bind fun d71 =>
  need (d71 = .int .i64 (getI d71)) <|
  bif getI d71 == 0 then bif getI (getT d10 0) != 2 then some (DV.bool false)
   else (lm K 60 [.int .i64 (getI (getT d11 1))]).bind fun d72 =>
   need (d72 = .int .i64 (getI d72)) <|
   bif getI d72 == 0 then bif getI (getT d11 0) != 1 then some (DV.bool false)
    else hd14_1 K a1 a2 a3 v30
   else hd14_1 K a1 a2 a3 v30
  else (lm K 60 [.int .i64 (getI (getT d11 1))]).bind fun d73 =>
  need (d73 = .int .i64 (getI d73)) <|
  bif getI d73 == 0 then bif getI (getT d11 0) != 1 then some (DV.bool false)
   else hd14_1 K a1 a2 a3 v30
  else hd14_1 K a1 a2 a3 v30
theorem l14_0 {K : Nat} (a1 : DV) (a2 : DV) (a3 : DV) (d9 : DV) (d10 : DV) (d11 : DV) (v30 : Bool) {r : DV} (h : L14_0 K a1 a2 a3 d9 d10 d11 v30 = some r) : hd14_0 K a1 a2 a3 d9 d10 d11 v30 = some r := hd_run (Eq.trans (by kernel_rfl) h)
noncomputable def L14_1 (K : Nat) (a1 : DV) (a2 : DV) (a3 : DV) (v30 : Bool) : Option DV :=
  hd14_2 K a1 a2 a3 v30 0
theorem l14_1 {K : Nat} (a1 : DV) (a2 : DV) (a3 : DV) (v30 : Bool) {r : DV} (h : L14_1 K a1 a2 a3 v30 = some r) : hd14_1 K a1 a2 a3 v30 = some r := hd_run (Eq.trans (by kernel_rfl) h)
noncomputable def L14_2 (K : Nat) (a1 : DV) (a2 : DV) (a3 : DV) (v30 : Bool) (v77 : Int) : Option DV :=
  bif v30 then bif decide (v77 < (↑(gL a2 4).length : Int)) then need ((0 : Int) ≤ v77) <|
    ((gL a2 4)[v77.toNat]?).bind fun x80 =>
    need (x80 = R 51 x80) <|
    (lm K 55 [R 25 a1, R 51 x80]).bind fun d81 =>
    need (d81 = .tup [.int .i64 (getI (getT d81 0)), .int .i64 (getI (getT d81 1)), .int .i64 (getI (getT d81 2))]) <|
    (lm K 60 [.int .i64 (getI (getT d81 1))]).bind fun d82 =>
    need (d82 = .int .i64 (getI d82)) <|
    bif getI d82 != 0 then some (DV.bool false)
    else hd14_2 K a1 a2 a3 v30 (IntKind.i64.wrap (v77 + 1))
   else (lm K 57 []).bind fun d83 =>
   need (d83 = .bool (getB d83)) <|
   some (DV.bool (getB d83))
  else (lm K 57 []).bind fun d84 =>
  need (d84 = .bool (getB d84)) <|
  some (DV.bool (getB d84))
theorem l14_2 {K : Nat} (a1 : DV) (a2 : DV) (a3 : DV) (v30 : Bool) (v77 : Int) {r : DV} (h : L14_2 K a1 a2 a3 v30 v77 = some r) : hd14_2 K a1 a2 a3 v30 v77 = some r := hd_run (Eq.trans (by kernel_rfl) h)

end Go.Proofs.Ytmfgdnagmacgdaa.Dv
end
