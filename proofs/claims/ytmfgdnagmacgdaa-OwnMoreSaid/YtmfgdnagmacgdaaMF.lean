/- Parts of a proof, put together. No condition. -/
import Derived.Test.YtmfgdnagmacgdaaEe
section
/- Trees of questions of functions of the program (printed by a program of this session, wip/dv/sym.txt). No condition. -/
set_option maxRecDepth 100000
set_option linter.unusedVariables false
namespace Go.Proofs.Ytmfgdnagmacgdaa.Dv
/-! 147 147 -/
noncomputable def T147 (K : Nat) (a1 : ByteArray) : Option DV :=
  bif a1.toList == (ByteArray.mk #[]).toList then some (DV.bool false)
  else bif decide ((↑a1.size : Int) > 32) then some (DV.bool false)
  else need ((0 : Int) ≤ (0 : Int)) <|
  (Option.map (fun b => DV.int IntKind.u8 (↑b.toNat : Int)) a1[Int.toNat 0]?).bind fun x1 =>
  need (x1 = .int .u8 (getI x1)) <|
  (lm K 204 [.int .u8 (getI x1)]).bind fun d2 =>
  need (d2 = .int .i64 (getI d2)) <|
  bif getI d2 != 3 then some (DV.bool false)
  else (lm K 205 [.str a1]).bind fun d3 =>
  need (d3 = .bool (getB d3)) <|
  bif getB d3 then some (DV.bool false)
  else (lm K 206 [.str a1, .int .i64 0, .fn 207 [] []]).bind fun d4 =>
  need (d4 = .int .i64 (getI d4)) <|
  some (DV.bool (getI d4 == (↑a1.size : Int)))
theorem t147 {K : Nat} (a1 : ByteArray) {r : DV} (h : T147 K a1 = some r) : lm K 147 [.str a1] = some r := fn_run (Eq.trans (by kernel_rfl) h)
/-! 204 204 -/
noncomputable def T204 (K : Nat) (a1 : Int) : Option DV :=
  bif a1 == 32 then some (DV.int .i64 1)
  else bif a1 == 9 then some (DV.int .i64 1)
  else bif a1 == 13 then some (DV.int .i64 1)
  else bif a1 == 10 then some (DV.int .i64 1)
  else bif a1 == 35 then some (DV.int .i64 2)
  else bif decide (a1 ≥ 97) then bif decide (a1 ≤ 122) then some (DV.int .i64 3)
   else bif decide (a1 ≥ 65) then bif decide (a1 ≤ 90) then some (DV.int .i64 3)
    else bif decide (a1 ≥ 48) then bif decide (a1 ≤ 57) then some (DV.int .i64 4)
     else (lm K 233 [.str (ByteArray.mk #[123, 125, 40, 41, 59, 58, 61, 60, 62, 43, 45, 42, 33, 46, 38, 124]), .int .u8 a1]).bind fun d1 =>
     need (d1 = .int .i64 (getI d1)) <|
     bif decide (getI d1 ≥ 0) then some (DV.int .i64 5)
     else some (DV.int .i64 0)
    else (lm K 233 [.str (ByteArray.mk #[123, 125, 40, 41, 59, 58, 61, 60, 62, 43, 45, 42, 33, 46, 38, 124]), .int .u8 a1]).bind fun d2 =>
    need (d2 = .int .i64 (getI d2)) <|
    bif decide (getI d2 ≥ 0) then some (DV.int .i64 5)
    else some (DV.int .i64 0)
   else bif decide (a1 ≥ 48) then bif decide (a1 ≤ 57) then some (DV.int .i64 4)
    else (lm K 233 [.str (ByteArray.mk #[123, 125, 40, 41, 59, 58, 61, 60, 62, 43, 45, 42, 33, 46, 38, 124]), .int .u8 a1]).bind fun d3 =>
    need (d3 = .int .i64 (getI d3)) <|
    bif decide (getI d3 ≥ 0) then some (DV.int .i64 5)
    else some (DV.int .i64 0)
   else (lm K 233 [.str (ByteArray.mk #[123, 125, 40, 41, 59, 58, 61, 60, 62, 43, 45, 42, 33, 46, 38, 124]), .int .u8 a1]).bind fun d4 =>
   need (d4 = .int .i64 (getI d4)) <|
   bif decide (getI d4 ≥ 0) then some (DV.int .i64 5)
   else some (DV.int .i64 0)
  else bif decide (a1 ≥ 65) then bif decide (a1 ≤ 90) then some (DV.int .i64 3)
   else bif decide (a1 ≥ 48) then bif decide (a1 ≤ 57) then some (DV.int .i64 4)
    else (lm K 233 [.str (ByteArray.mk #[123, 125, 40, 41, 59, 58, 61, 60, 62, 43, 45, 42, 33, 46, 38, 124]), .int .u8 a1]).bind fun d5 =>
    need (d5 = .int .i64 (getI d5)) <|
    bif decide (getI d5 ≥ 0) then some (DV.int .i64 5)
    else some (DV.int .i64 0)
   else (lm K 233 [.str (ByteArray.mk #[123, 125, 40, 41, 59, 58, 61, 60, 62, 43, 45, 42, 33, 46, 38, 124]), .int .u8 a1]).bind fun d6 =>
   need (d6 = .int .i64 (getI d6)) <|
   bif decide (getI d6 ≥ 0) then some (DV.int .i64 5)
   else some (DV.int .i64 0)
  else bif decide (a1 ≥ 48) then bif decide (a1 ≤ 57) then some (DV.int .i64 4)
   else (lm K 233 [.str (ByteArray.mk #[123, 125, 40, 41, 59, 58, 61, 60, 62, 43, 45, 42, 33, 46, 38, 124]), .int .u8 a1]).bind fun d7 =>
   need (d7 = .int .i64 (getI d7)) <|
   bif decide (getI d7 ≥ 0) then some (DV.int .i64 5)
   else some (DV.int .i64 0)
  else (lm K 233 [.str (ByteArray.mk #[123, 125, 40, 41, 59, 58, 61, 60, 62, 43, 45, 42, 33, 46, 38, 124]), .int .u8 a1]).bind fun d8 =>
  need (d8 = .int .i64 (getI d8)) <|
  bif decide (getI d8 ≥ 0) then some (DV.int .i64 5)
  else some (DV.int .i64 0)
theorem t204 {K : Nat} (a1 : Int) {r : DV} (h : T204 K a1 = some r) : lm K 204 [.int .u8 a1] = some r := fn_run (Eq.trans (by kernel_rfl) h)
/-! 205 205 -/
noncomputable def T205 (K : Nat) (a1 : ByteArray) : Option DV :=
  bif a1.toList == (ByteArray.mk #[109, 111, 110, 105, 116, 111, 114]).toList then some (DV.bool true)
  else bif a1.toList == (ByteArray.mk #[118, 97, 114]).toList then some (DV.bool true)
  else bif a1.toList == (ByteArray.mk #[109, 101, 116, 104, 111, 100]).toList then some (DV.bool true)
  else bif a1.toList == (ByteArray.mk #[116, 104, 114, 101, 97, 100]).toList then some (DV.bool true)
  else bif a1.toList == (ByteArray.mk #[98, 111, 111, 108]).toList then some (DV.bool true)
  else bif a1.toList == (ByteArray.mk #[105, 110, 116]).toList then some (DV.bool true)
  else bif a1.toList == (ByteArray.mk #[116, 114, 117, 101]).toList then some (DV.bool true)
  else bif a1.toList == (ByteArray.mk #[102, 97, 108, 115, 101]).toList then some (DV.bool true)
  else bif a1.toList == (ByteArray.mk #[115, 107, 105, 112]).toList then some (DV.bool true)
  else bif a1.toList == (ByteArray.mk #[105, 102]).toList then some (DV.bool true)
  else bif a1.toList == (ByteArray.mk #[101, 108, 115, 101]).toList then some (DV.bool true)
  else bif a1.toList == (ByteArray.mk #[119, 104, 105, 108, 101]).toList then some (DV.bool true)
  else bif a1.toList == (ByteArray.mk #[108, 111, 111, 112]).toList then some (DV.bool true)
  else bif a1.toList == (ByteArray.mk #[99, 104, 111, 111, 115, 101]).toList then some (DV.bool true)
  else bif a1.toList == (ByteArray.mk #[111, 114]).toList then some (DV.bool true)
  else bif a1.toList == (ByteArray.mk #[115, 121, 110, 99]).toList then some (DV.bool true)
  else bif a1.toList == (ByteArray.mk #[99, 97, 108, 108]).toList then some (DV.bool true)
  else bif a1.toList == (ByteArray.mk #[119, 97, 105, 116]).toList then some (DV.bool true)
  else bif a1.toList == (ByteArray.mk #[110, 111, 116, 105, 102, 121]).toList then some (DV.bool true)
  else bif a1.toList == (ByteArray.mk #[110, 111, 116, 105, 102, 121, 97, 108, 108]).toList then some (DV.bool true)
  else some (DV.bool false)
theorem t205 {K : Nat} (a1 : ByteArray) {r : DV} (h : T205 K a1 = some r) : lm K 205 [.str a1] = some r := fn_run (Eq.trans (by kernel_rfl) h)
/-! 206 206 -/
noncomputable def H206_0 (a1 : ByteArray) (a2 : Int) (v3 : Int) : St := ⟨[.str a1, .int .i64 v3, .fn 207 [] []] ++ (un 18), []⟩
def P206_0 : List Dir := [.c, .l, .r]
noncomputable def hd206_0 (K : Nat) (a1 : ByteArray) (a2 : Int) (v3 : Int) : Option DV := hdL Try.prog (C0 K) 206 P206_0 (bits 21 7) 0 (H206_0 a1 a2 v3)
noncomputable def T206 (K : Nat) (a1 : ByteArray) (a2 : Int) : Option DV :=
  hd206_0 K a1 a2 a2
theorem t206 {K : Nat} (a1 : ByteArray) (a2 : Int) {r : DV} (h : T206 K a1 a2 = some r) : lm K 206 [.str a1, .int .i64 a2, .fn 207 [] []] = some r := fn_run (Eq.trans (by kernel_rfl) h)
noncomputable def L206_0 (K : Nat) (a1 : ByteArray) (a2 : Int) (v3 : Int) : Option DV :=
  bif decide (v3 < (↑a1.size : Int)) then need ((0 : Int) ≤ v3) <|
   (Option.map (fun b => DV.int IntKind.u8 (↑b.toNat : Int)) a1[v3.toNat]?).bind fun x1 =>
   need (x1 = .int .u8 (getI x1)) <|
   (lm K 207 [.int .u8 (getI x1)]).bind fun d2 =>
   need (d2 = .bool (getB d2)) <|
   bif getB d2 then hd206_0 K a1 a2 (IntKind.i64.wrap (v3 + 1))
   else some (DV.int .i64 v3)
  else some (DV.int .i64 v3)
theorem l206_0 {K : Nat} (a1 : ByteArray) (a2 : Int) (v3 : Int) {r : DV} (h : L206_0 K a1 a2 v3 = some r) : hd206_0 K a1 a2 v3 = some r := hd_run (Eq.trans (by kernel_rfl) h)
/-! 207 207 -/
noncomputable def T207 (K : Nat) (a1 : Int) : Option DV :=
  (lm K 204 [.int .u8 a1]).bind fun d1 =>
  need (d1 = .int .i64 (getI d1)) <|
  bif getI d1 == 3 then some (DV.bool true)
  else bif getI d1 == 4 then some (DV.bool true)
  else some (DV.bool (a1 == 95))
theorem t207 {K : Nat} (a1 : Int) {r : DV} (h : T207 K a1 = some r) : lm K 207 [.int .u8 a1] = some r := fn_run (Eq.trans (by kernel_rfl) h)
/-! 88 88 -/
/-! 154 154 -/
/-! 155 155 -/
/-! 156 156 -/
/-! 211 211 -/
end Go.Proofs.Ytmfgdnagmacgdaa.Dv
end
section
/- Trees of questions of functions of the program (printed by a program of this session, wip/dv/sym.txt). No condition. -/
set_option maxRecDepth 100000
set_option linter.unusedVariables false
namespace Go.Proofs.Ytmfgdnagmacgdaa.Dv
/-! 212 212 -/
/-! 158 158 -/
/-! 157 157 -/
/-! 159 159 -/
/-! 165 165 -/
/-! 235 235 -/
/-! 236 236 -/
/-! 209 209 -/
/-! 234 234 -/
/-! 208 208 -/
/-! 149 149 -/
/-! 210 210 -/
end Go.Proofs.Ytmfgdnagmacgdaa.Dv
end
section
/- Trees of questions of functions of the program (printed by a program of this session, wip/dv/sym.txt). No condition. -/
set_option maxRecDepth 100000
set_option linter.unusedVariables false
namespace Go.Proofs.Ytmfgdnagmacgdaa.Dv
/-! 152 152 -/
/-! 148 148 -/
/-! 151 151 -/
/-! 113 113 -/
/-! 150 150 -/
/-! 167 167 -/
/-! 153 153 -/
/-! 86 86 -/
/-! 87 87 -/
/-! 27 27 -/
end Go.Proofs.Ytmfgdnagmacgdaa.Dv
end
section
/- Trees of questions of functions of the program (printed by a program of this session, wip/dv/sym.txt). No condition. -/
set_option maxRecDepth 100000
set_option linter.unusedVariables false
namespace Go.Proofs.Ytmfgdnagmacgdaa.Dv
/-! 89 89 -/
/-! 40 40 -/
noncomputable def H40_0 (a1 : DV) (a2 : Int) (v3 : Int) (v4 : Int) : St := ⟨[.undef] ++ [.int .i64 v3, .ptr 0 0] ++ [.undef, .undef] ++ [.int .i64 v4] ++ (un 38), [.box ((R 51 a1).cells)]⟩
def P40_0 : List Dir := [.c, .r, .l, .r, .r, .r]
noncomputable def hd40_0 (K : Nat) (a1 : DV) (a2 : Int) (v3 : Int) (v4 : Int) : Option DV := hdL Try.prog (C0 K) 40 P40_0 (bits 44 38) 1 (H40_0 a1 a2 v3 v4)
noncomputable def T40 (K : Nat) (a1 : DV) (a2 : Int) : Option DV :=
  bif decide ((↑(gS a1 1).size : Int) > 200) then some (DV.int .i64 (-1))
  else bif decide ((↑(gS a1 2).size : Int) > 200) then some (DV.int .i64 (-1))
  else bif decide ((↑(gL a1 4).length : Int) > a2) then some (DV.int .i64 (-1))
  else hd40_0 K a1 a2 (IntKind.i64.wrap (a2 - 1)) 0
theorem t40 {K : Nat} (a1 : DV) (a2 : Int) {r : DV} (h : T40 K a1 a2 = some r) : lm K 40 [R 51 a1, .int .i64 a2] = some r := fn_run (Eq.trans (by kernel_rfl) h)
noncomputable def L40_0 (K : Nat) (a1 : DV) (a2 : Int) (v3 : Int) (v4 : Int) : Option DV :=
  bif decide (v4 < (↑(gL a1 4).length : Int)) then bif decide (v3 ≥ 0) then need ((0 : Int) ≤ v4) <|
    ((gL a1 4)[v4.toNat]?).bind fun x1 =>
    need (x1 = R 51 x1) <|
    (lm K 40 [R 51 x1, .int .i64 v3]).bind fun d2 =>
    need (d2 = .int .i64 (getI d2)) <|
    hd40_0 K a1 a2 (getI d2) (IntKind.i64.wrap (v4 + 1))
   else some (DV.int .i64 v3)
  else some (DV.int .i64 v3)
theorem l40_0 {K : Nat} (a1 : DV) (a2 : Int) (v3 : Int) (v4 : Int) {r : DV} (h : L40_0 K a1 a2 v3 v4 = some r) : hd40_0 K a1 a2 v3 v4 = some r := hd_run (Eq.trans (by kernel_rfl) h)
/-! 76 76 -/
noncomputable def H76_0 (a1 : List DV) (a2 : Int) (v11 : Int) (v12 : Int) : St := ⟨[.sl .no 12 a1, .int .i64 v11] ++ [.undef, .undef, .undef] ++ [.int .i64 v12] ++ (un 74), []⟩
def P76_0 : List Dir := [.c, .r, .l, .r, .r]
noncomputable def hd76_0 (K : Nat) (a1 : List DV) (a2 : Int) (v11 : Int) (v12 : Int) : Option DV := hdL Try.prog (C0 K) 76 P76_0 (bits 80 35) 0 (H76_0 a1 a2 v11 v12)
noncomputable def H76_1 (a1 : List DV) (a2 : Int) (d5 : DV) (v6 : Int) (v10 : Int) : St := ⟨[.sl .no 12 a1, .int .i64 (getI d5)] ++ [.undef, .undef, .undef] ++ [.int .i64 v6, .int .i64 v10] ++ (un 73), []⟩
def P76_1 : List Dir := [.c, .r, .r, .r, .c, .l, .r, .loop (bits 80 35) 0, .c, .r, .l, .r, .r]
noncomputable def hd76_1 (K : Nat) (a1 : List DV) (a2 : Int) (d5 : DV) (v6 : Int) (v10 : Int) : Option DV := hdL Try.prog (C0 K) 76 P76_1 (bits 80 99) 0 (H76_1 a1 a2 d5 v6 v10)
noncomputable def T76 (K : Nat) (a1 : List DV) (a2 : Int) : Option DV :=
  bif decide ((↑a1.length : Int) > a2) then some (DV.int .i64 (-1))
  else hd76_0 K a1 a2 a2 0
theorem t76 {K : Nat} (a1 : List DV) (a2 : Int) {r : DV} (h : T76 K a1 a2 = some r) : lm K 76 [.sl .no 12 a1, .int .i64 a2] = some r := fn_run (Eq.trans (by kernel_rfl) h)
noncomputable def L76_0 (K : Nat) (a1 : List DV) (a2 : Int) (v11 : Int) (v12 : Int) : Option DV :=
  bif decide (v12 < (↑a1.length : Int)) then bif decide (v11 ≥ 0) then need ((0 : Int) ≤ v12) <|
    (a1[v12.toNat]?).bind fun x1 =>
    need (x1 = R 56 x1) <|
    bif decide ((↑(gS x1 1).size : Int) > 200) then some (DV.int .i64 (-1))
    else need ((0 : Int) ≤ v12) <|
    (a1[v12.toNat]?).bind fun x2 =>
    need (x2 = R 56 x2) <|
    bif decide ((↑(gS x2 2).size : Int) > 200) then some (DV.int .i64 (-1))
    else need ((0 : Int) ≤ v12) <|
    (a1[v12.toNat]?).bind fun x3 =>
    need (x3 = R 56 x3) <|
    bif decide ((↑(gL x3 10).length : Int) > 40) then some (DV.int .i64 (-1))
    else need ((0 : Int) ≤ v12) <|
    (a1[v12.toNat]?).bind fun x4 =>
    need (x4 = R 56 x4) <|
    (lm K 40 [.agg [.int .i64 (gI x4 4), .str (gS x4 5), .str (gS x4 6), .int .i64 (gI x4 7), .sl .no 6 (gL x4 8), .int .i64 (gI x4 9)], .int .i64 (IntKind.i64.wrap (v11 - 1))]).bind fun d5 =>
    need (d5 = .int .i64 (getI d5)) <|
    hd76_1 K a1 a2 d5 v12 0
   else some (DV.int .i64 v11)
  else some (DV.int .i64 v11)
theorem l76_0 {K : Nat} (a1 : List DV) (a2 : Int) (v11 : Int) (v12 : Int) {r : DV} (h : L76_0 K a1 a2 v11 v12 = some r) : hd76_0 K a1 a2 v11 v12 = some r := hd_run (Eq.trans (by kernel_rfl) h)
noncomputable def L76_1 (K : Nat) (a1 : List DV) (a2 : Int) (d5 : DV) (v6 : Int) (v10 : Int) : Option DV :=
  need ((0 : Int) ≤ v6) <|
  (a1[v6.toNat]?).bind fun x6 =>
  need (x6 = R 56 x6) <|
  bif decide (v10 < (↑(gL x6 10).length : Int)) then bif decide (getI d5 ≥ 0) then need ((0 : Int) ≤ v6) <|
    (a1[v6.toNat]?).bind fun x7 =>
    need (x7 = R 56 x7) <|
    need ((0 : Int) ≤ v10) <|
    ((gL x7 10)[v10.toNat]?).bind fun x8 =>
    need (x8 = .sl .no 12 (getL x8)) <|
    (lm K 76 [.sl .no 12 (getL x8), .int .i64 (IntKind.i64.wrap (getI d5 - 1))]).bind fun d9 =>
    need (d9 = .int .i64 (getI d9)) <|
    hd76_1 K a1 a2 d9 v6 (IntKind.i64.wrap (v10 + 1))
   else hd76_0 K a1 a2 (getI d5) (IntKind.i64.wrap (v6 + 1))
  else hd76_0 K a1 a2 (getI d5) (IntKind.i64.wrap (v6 + 1))
theorem l76_1 {K : Nat} (a1 : List DV) (a2 : Int) (d5 : DV) (v6 : Int) (v10 : Int) {r : DV} (h : L76_1 K a1 a2 d5 v6 v10 = some r) : hd76_1 K a1 a2 d5 v6 v10 = some r := hd_run (Eq.trans (by kernel_rfl) h)
/-! 25 25 -/
/-! 28 28 -/
/-! 3 3 -/
end Go.Proofs.Ytmfgdnagmacgdaa.Dv
end
section
/- Trees of questions of functions of the program (printed by a program of this session, wip/dv/sym.txt). No condition. -/
set_option maxRecDepth 100000
set_option linter.unusedVariables false
namespace Go.Proofs.Ytmfgdnagmacgdaa.Dv
/-! 4 4 -/
/-! 33 33 -/
/-! 34 34 -/
/-! 99 99 -/
/-! 166 166 -/
/-! 30 30 -/
/-! 95 95 -/
end Go.Proofs.Ytmfgdnagmacgdaa.Dv
end
section
/- Trees of questions of functions of the program (printed by a program of this session, wip/dv/sym.txt). No condition. -/
set_option maxRecDepth 100000
set_option linter.unusedVariables false
namespace Go.Proofs.Ytmfgdnagmacgdaa.Dv
/-! 108 108 -/
/-! 113 113s -/
/-! 39 39 -/
/-! 43 43 -/
/-! 102 102 -/
/-! 56 56 -/
/-! 120 120 -/
/-! 118 118 -/
/-! 121 121 -/
/-! 50 50 -/
/-! 51 51 -/
/-! 52 52 -/
/-! 53 53 -/
/-! 54 54 -/
/-! 9 9 -/
/-! 47 47 -/
end Go.Proofs.Ytmfgdnagmacgdaa.Dv
end
section
/- Trees of questions of functions of the program (printed by a program of this session, wip/dv/sym.txt). No condition. -/
set_option maxRecDepth 100000
set_option linter.unusedVariables false
namespace Go.Proofs.Ytmfgdnagmacgdaa.Dv
/-! 187 187 -/
/-! 123 123 -/
/-! 55 55 -/
/-! 194 194 -/
/-! 195 195 -/
/-! 196 196 -/
/-! 197 197 -/
/-! 223 223 -/
/-! 224 224 -/
/-! 214 214 -/
/-! 217 217 -/
/-! 115 115 -/
/-! 179 179 -/
/-! 180 180 -/
/-! 45 45 -/
/-! 48 48 -/
end Go.Proofs.Ytmfgdnagmacgdaa.Dv
end
section
/- Trees of questions of functions of the program (printed by a program of this session, wip/dv/sym.txt). No condition. -/
set_option maxRecDepth 100000
set_option linter.unusedVariables false
namespace Go.Proofs.Ytmfgdnagmacgdaa.Dv
/-! 8 8 -/
/-! 10 10 -/
/-! 11 11 -/
end Go.Proofs.Ytmfgdnagmacgdaa.Dv
end
section
/- Trees of questions of functions of the program (printed by a program of this session, wip/dv/sym.txt). No condition. -/
set_option maxRecDepth 100000
set_option linter.unusedVariables false
namespace Go.Proofs.Ytmfgdnagmacgdaa.Dv
/-! 22 22 -/
noncomputable def T22 (K : Nat) (a1 : List DV) (a2 : List DV) (a3 : ByteArray) : Option DV :=
  (lm K 76 [.sl .no 12 a1, .int .i64 300]).bind fun d1 =>
  need (d1 = .int .i64 (getI d1)) <|
  bif decide (getI d1 < 0) then (lm K 81 []).bind fun d2 =>
   need (d2 = .bool (getB d2)) <|
   some (DV.bool (getB d2))
  else (lm K 80 [.sl .no 1 a2]).bind fun d3 =>
  need (d3 = .bool (getB d3)) <|
  bif !getB d3 then (lm K 81 []).bind fun d4 =>
   need (d4 = .bool (getB d4)) <|
   some (DV.bool (getB d4))
  else bif decide ((↑a3.size : Int) > 200) then (lm K 81 []).bind fun d5 =>
   need (d5 = .bool (getB d5)) <|
   some (DV.bool (getB d5))
  else (lm K 82 [.sl .no 12 a1, .sl .no 1 a2]).bind fun d6 =>
  need (d6 = .tup [.int .i64 (getI (getT d6 0)), .int .i64 (getI (getT d6 1))]) <|
  need ((([] : List DV).length + a2.length) * (16 : Nat) ≤ (140737488355328 : Nat) ∧ (([] : List DV) = [] ∨ (1 : Nat) = (1 : Nat))) <|
  bif a2.isEmpty then need ((([] : List DV).length + [DV.str a3].length) * (16 : Nat) ≤ (140737488355328 : Nat) ∧ (([] : List DV) = [] ∨ (1 : Nat) = (1 : Nat))) <|
   (lm K 82 [.sl .no 12 a1, .sl .no 1 [.str a3]]).bind fun d7 =>
   need (d7 = .tup [.int .i64 (getI (getT d7 0)), .int .i64 (getI (getT d7 1))]) <|
   (lm K 82 [.sl .full 12 [.agg [.int .i64 7, .str a3, .str (ByteArray.mk #[]), .int .i64 0, .int .i64 0, .str (ByteArray.mk #[]), .str (ByteArray.mk #[]), .int .i64 0, .sl .no 6 [], .int .i64 0, .sl .no 1 [.sl .no 12 a1], .int .i64 0]], .sl .no 1 a2]).bind fun d8 =>
   need (d8 = .tup [.int .i64 (getI (getT d8 0)), .int .i64 (getI (getT d8 1))]) <|
   (lm K 83 [.int .i64 (getI (getT d7 0))]).bind fun d9 =>
   need (d9 = .int .i64 (getI d9)) <|
   (lm K 83 [.int .i64 (getI (getT d8 0))]).bind fun d10 =>
   need (d10 = .int .i64 (getI d10)) <|
   bif getI d9 != getI d10 then some (DV.bool false)
   else bif getI (getT d7 1) != getI (getT d8 1) then some (DV.bool false)
   else (lm K 83 [.int .i64 (getI (getT d6 0))]).bind fun d11 =>
   need (d11 = .int .i64 (getI d11)) <|
   bif getI d11 == 0 then (lm K 83 [.int .i64 (getI (getT d7 0))]).bind fun d12 =>
    need (d12 = .int .i64 (getI d12)) <|
    bif getI d12 != 0 then some (DV.bool false)
    else (lm K 83 [.int .i64 (getI (getT d6 0))]).bind fun d13 =>
    need (d13 = .int .i64 (getI d13)) <|
    bif getI d13 == 91 then (lm K 83 [.int .i64 (getI (getT d7 0))]).bind fun d14 =>
     need (d14 = .int .i64 (getI d14)) <|
     bif getI d14 != 91 then some (DV.bool false)
     else (lm K 83 [.int .i64 (getI (getT d6 0))]).bind fun d15 =>
     need (d15 = .int .i64 (getI d15)) <|
     (lm K 83 [.int .i64 (getI (getT d7 0))]).bind fun d16 =>
     need (d16 = .int .i64 (getI d16)) <|
     bif getI d15 != getI d16 then (lm K 81 []).bind fun d17 =>
      need (d17 = .bool (getB d17)) <|
      some (DV.bool (getB d17))
     else (lm K 83 [.int .i64 (getI (getT d6 0))]).bind fun d18 =>
     need (d18 = .int .i64 (getI d18)) <|
     bif getI d18 != 91 then (lm K 81 []).bind fun d19 =>
      need (d19 = .bool (getB d19)) <|
      some (DV.bool (getB d19))
     else bif getI (getT d6 1) == getI (getT d7 1) then (lm K 81 []).bind fun d20 =>
      need (d20 = .bool (getB d20)) <|
      some (DV.bool (getB d20))
     else some (DV.bool false)
    else (lm K 83 [.int .i64 (getI (getT d6 0))]).bind fun d21 =>
    need (d21 = .int .i64 (getI d21)) <|
    (lm K 83 [.int .i64 (getI (getT d7 0))]).bind fun d22 =>
    need (d22 = .int .i64 (getI d22)) <|
    bif getI d21 != getI d22 then (lm K 81 []).bind fun d23 =>
     need (d23 = .bool (getB d23)) <|
     some (DV.bool (getB d23))
    else (lm K 83 [.int .i64 (getI (getT d6 0))]).bind fun d24 =>
    need (d24 = .int .i64 (getI d24)) <|
    bif getI d24 != 91 then (lm K 81 []).bind fun d25 =>
     need (d25 = .bool (getB d25)) <|
     some (DV.bool (getB d25))
    else bif getI (getT d6 1) == getI (getT d7 1) then (lm K 81 []).bind fun d26 =>
     need (d26 = .bool (getB d26)) <|
     some (DV.bool (getB d26))
    else some (DV.bool false)
   else (lm K 83 [.int .i64 (getI (getT d6 0))]).bind fun d27 =>
   need (d27 = .int .i64 (getI d27)) <|
   bif getI d27 == 91 then (lm K 83 [.int .i64 (getI (getT d7 0))]).bind fun d28 =>
    need (d28 = .int .i64 (getI d28)) <|
    bif getI d28 != 91 then some (DV.bool false)
    else (lm K 83 [.int .i64 (getI (getT d6 0))]).bind fun d29 =>
    need (d29 = .int .i64 (getI d29)) <|
    (lm K 83 [.int .i64 (getI (getT d7 0))]).bind fun d30 =>
    need (d30 = .int .i64 (getI d30)) <|
    bif getI d29 != getI d30 then (lm K 81 []).bind fun d31 =>
     need (d31 = .bool (getB d31)) <|
     some (DV.bool (getB d31))
    else (lm K 83 [.int .i64 (getI (getT d6 0))]).bind fun d32 =>
    need (d32 = .int .i64 (getI d32)) <|
    bif getI d32 != 91 then (lm K 81 []).bind fun d33 =>
     need (d33 = .bool (getB d33)) <|
     some (DV.bool (getB d33))
    else bif getI (getT d6 1) == getI (getT d7 1) then (lm K 81 []).bind fun d34 =>
     need (d34 = .bool (getB d34)) <|
     some (DV.bool (getB d34))
    else some (DV.bool false)
   else (lm K 83 [.int .i64 (getI (getT d6 0))]).bind fun d35 =>
   need (d35 = .int .i64 (getI d35)) <|
   (lm K 83 [.int .i64 (getI (getT d7 0))]).bind fun d36 =>
   need (d36 = .int .i64 (getI d36)) <|
   bif getI d35 != getI d36 then (lm K 81 []).bind fun d37 =>
    need (d37 = .bool (getB d37)) <|
    some (DV.bool (getB d37))
   else (lm K 83 [.int .i64 (getI (getT d6 0))]).bind fun d38 =>
   need (d38 = .int .i64 (getI d38)) <|
   bif getI d38 != 91 then (lm K 81 []).bind fun d39 =>
    need (d39 = .bool (getB d39)) <|
    some (DV.bool (getB d39))
   else bif getI (getT d6 1) == getI (getT d7 1) then (lm K 81 []).bind fun d40 =>
    need (d40 = .bool (getB d40)) <|
    some (DV.bool (getB d40))
   else some (DV.bool false)
  else need ((([] ++ a2).length + [DV.str a3].length) * (16 : Nat) ≤ (140737488355328 : Nat) ∧ ([] ++ a2).length = ([] : List DV).length + a2.length ∧ ((1 : Nat) = (1 : Nat) ∧ (1 : Nat) = (1 : Nat) ∨ [] ++ a2 = [] ∧ (1 : Nat) = (0 : Nat))) <|
  (lm K 82 [.sl .no 12 a1, .sl .no 1 ([] ++ a2 ++ [DV.str a3])]).bind fun d41 =>
  need (d41 = .tup [.int .i64 (getI (getT d41 0)), .int .i64 (getI (getT d41 1))]) <|
  (lm K 82 [.sl .full 12 [.agg [.int .i64 7, .str a3, .str (ByteArray.mk #[]), .int .i64 0, .int .i64 0, .str (ByteArray.mk #[]), .str (ByteArray.mk #[]), .int .i64 0, .sl .no 6 [], .int .i64 0, .sl .no 1 [.sl .no 12 a1], .int .i64 0]], .sl .no 1 a2]).bind fun d42 =>
  need (d42 = .tup [.int .i64 (getI (getT d42 0)), .int .i64 (getI (getT d42 1))]) <|
  (lm K 83 [.int .i64 (getI (getT d41 0))]).bind fun d43 =>
  need (d43 = .int .i64 (getI d43)) <|
  (lm K 83 [.int .i64 (getI (getT d42 0))]).bind fun d44 =>
  need (d44 = .int .i64 (getI d44)) <|
  bif getI d43 != getI d44 then some (DV.bool false)
  else bif getI (getT d41 1) != getI (getT d42 1) then some (DV.bool false)
  else (lm K 83 [.int .i64 (getI (getT d6 0))]).bind fun d45 =>
  need (d45 = .int .i64 (getI d45)) <|
  bif getI d45 == 0 then (lm K 83 [.int .i64 (getI (getT d41 0))]).bind fun d46 =>
   need (d46 = .int .i64 (getI d46)) <|
   bif getI d46 != 0 then some (DV.bool false)
   else (lm K 83 [.int .i64 (getI (getT d6 0))]).bind fun d47 =>
   need (d47 = .int .i64 (getI d47)) <|
   bif getI d47 == 91 then (lm K 83 [.int .i64 (getI (getT d41 0))]).bind fun d48 =>
    need (d48 = .int .i64 (getI d48)) <|
    bif getI d48 != 91 then some (DV.bool false)
    else (lm K 83 [.int .i64 (getI (getT d6 0))]).bind fun d49 =>
    need (d49 = .int .i64 (getI d49)) <|
    (lm K 83 [.int .i64 (getI (getT d41 0))]).bind fun d50 =>
    need (d50 = .int .i64 (getI d50)) <|
    bif getI d49 != getI d50 then (lm K 81 []).bind fun d51 =>
     need (d51 = .bool (getB d51)) <|
     some (DV.bool (getB d51))
    else (lm K 83 [.int .i64 (getI (getT d6 0))]).bind fun d52 =>
    need (d52 = .int .i64 (getI d52)) <|
    bif getI d52 != 91 then (lm K 81 []).bind fun d53 =>
     need (d53 = .bool (getB d53)) <|
     some (DV.bool (getB d53))
    else bif getI (getT d6 1) == getI (getT d41 1) then (lm K 81 []).bind fun d54 =>
     need (d54 = .bool (getB d54)) <|
     some (DV.bool (getB d54))
    else some (DV.bool false)
   else (lm K 83 [.int .i64 (getI (getT d6 0))]).bind fun d55 =>
   need (d55 = .int .i64 (getI d55)) <|
   (lm K 83 [.int .i64 (getI (getT d41 0))]).bind fun d56 =>
   need (d56 = .int .i64 (getI d56)) <|
   bif getI d55 != getI d56 then (lm K 81 []).bind fun d57 =>
    need (d57 = .bool (getB d57)) <|
    some (DV.bool (getB d57))
   else (lm K 83 [.int .i64 (getI (getT d6 0))]).bind fun d58 =>
   need (d58 = .int .i64 (getI d58)) <|
   bif getI d58 != 91 then (lm K 81 []).bind fun d59 =>
    need (d59 = .bool (getB d59)) <|
    some (DV.bool (getB d59))
   else bif getI (getT d6 1) == getI (getT d41 1) then (lm K 81 []).bind fun d60 =>
    need (d60 = .bool (getB d60)) <|
    some (DV.bool (getB d60))
   else some (DV.bool false)
  else (lm K 83 [.int .i64 (getI (getT d6 0))]).bind fun d61 =>
  need (d61 = .int .i64 (getI d61)) <|
  bif getI d61 == 91 then (lm K 83 [.int .i64 (getI (getT d41 0))]).bind fun d62 =>
   need (d62 = .int .i64 (getI d62)) <|
   bif getI d62 != 91 then some (DV.bool false)
   else (lm K 83 [.int .i64 (getI (getT d6 0))]).bind fun d63 =>
   need (d63 = .int .i64 (getI d63)) <|
   (lm K 83 [.int .i64 (getI (getT d41 0))]).bind fun d64 =>
   need (d64 = .int .i64 (getI d64)) <|
   bif getI d63 != getI d64 then (lm K 81 []).bind fun d65 =>
    need (d65 = .bool (getB d65)) <|
    some (DV.bool (getB d65))
   else (lm K 83 [.int .i64 (getI (getT d6 0))]).bind fun d66 =>
   need (d66 = .int .i64 (getI d66)) <|
   bif getI d66 != 91 then (lm K 81 []).bind fun d67 =>
    need (d67 = .bool (getB d67)) <|
    some (DV.bool (getB d67))
   else bif getI (getT d6 1) == getI (getT d41 1) then (lm K 81 []).bind fun d68 =>
    need (d68 = .bool (getB d68)) <|
    some (DV.bool (getB d68))
   else some (DV.bool false)
  else (lm K 83 [.int .i64 (getI (getT d6 0))]).bind fun d69 =>
  need (d69 = .int .i64 (getI d69)) <|
  (lm K 83 [.int .i64 (getI (getT d41 0))]).bind fun d70 =>
  need (d70 = .int .i64 (getI d70)) <|
  bif getI d69 != getI d70 then (lm K 81 []).bind fun d71 =>
   need (d71 = .bool (getB d71)) <|
   some (DV.bool (getB d71))
  else (lm K 83 [.int .i64 (getI (getT d6 0))]).bind fun d72 =>
  need (d72 = .int .i64 (getI d72)) <|
  bif getI d72 != 91 then (lm K 81 []).bind fun d73 =>
   need (d73 = .bool (getB d73)) <|
   some (DV.bool (getB d73))
  else bif getI (getT d6 1) == getI (getT d41 1) then (lm K 81 []).bind fun d74 =>
   need (d74 = .bool (getB d74)) <|
   some (DV.bool (getB d74))
  else some (DV.bool false)
theorem t22 {K : Nat} (a1 : List DV) (a2 : List DV) (a3 : ByteArray) {r : DV} (h : T22 K a1 a2 a3 = some r) : lm K 22 [.sl .no 12 a1, .sl .no 1 a2, .str a3] = some r := fn_run (Eq.trans (by kernel_rfl) h)

/-! 23 23 -/
noncomputable def T23 (K : Nat) (a1 : List DV) (a2 : List DV) (a3 : List DV) : Option DV :=
  (lm K 76 [.sl .no 12 a1, .int .i64 300]).bind fun d1 =>
  need (d1 = .int .i64 (getI d1)) <|
  bif decide (getI d1 < 0) then (lm K 81 []).bind fun d2 =>
   need (d2 = .bool (getB d2)) <|
   some (DV.bool (getB d2))
  else (lm K 76 [.sl .no 12 a2, .int .i64 300]).bind fun d3 =>
  need (d3 = .int .i64 (getI d3)) <|
  bif decide (getI d3 < 0) then (lm K 81 []).bind fun d4 =>
   need (d4 = .bool (getB d4)) <|
   some (DV.bool (getB d4))
  else (lm K 80 [.sl .no 1 a3]).bind fun d5 =>
  need (d5 = .bool (getB d5)) <|
  bif !getB d5 then (lm K 81 []).bind fun d6 =>
   need (d6 = .bool (getB d6)) <|
   some (DV.bool (getB d6))
  else (lm K 82 [.sl .no 12 a1, .sl .no 1 a3]).bind fun d7 =>
  need (d7 = .tup [.int .i64 (getI (getT d7 0)), .int .i64 (getI (getT d7 1))]) <|
  (lm K 82 [.sl .no 12 a2, .sl .no 1 a3]).bind fun d8 =>
  need (d8 = .tup [.int .i64 (getI (getT d8 0)), .int .i64 (getI (getT d8 1))]) <|
  need ((([] : List DV).length + a1.length) * (160 : Nat) ≤ (140737488355328 : Nat) ∧ (([] : List DV) = [] ∨ (12 : Nat) = (12 : Nat))) <|
  bif a1.isEmpty then need ((([] : List DV).length + a2.length) * (160 : Nat) ≤ (140737488355328 : Nat) ∧ (([] : List DV) = [] ∨ (12 : Nat) = (12 : Nat))) <|
   bif a2.isEmpty then (lm K 82 [.sl .full 12 [], .sl .no 1 a3]).bind fun d9 =>
    need (d9 = .tup [.int .i64 (getI (getT d9 0)), .int .i64 (getI (getT d9 1))]) <|
    (lm K 83 [.int .i64 (getI (getT d7 0))]).bind fun d10 =>
    need (d10 = .int .i64 (getI d10)) <|
    bif getI d10 != 0 then (lm K 83 [.int .i64 (getI (getT d9 0))]).bind fun d11 =>
     need (d11 = .int .i64 (getI d11)) <|
     (lm K 83 [.int .i64 (getI (getT d7 0))]).bind fun d12 =>
     need (d12 = .int .i64 (getI d12)) <|
     bif getI d11 == getI d12 then bif getI (getT d9 1) == getI (getT d7 1) then (lm K 81 []).bind fun d13 =>
       need (d13 = .bool (getB d13)) <|
       some (DV.bool (getB d13))
      else some (DV.bool false)
     else some (DV.bool false)
    else (lm K 83 [.int .i64 (getI (getT d9 0))]).bind fun d14 =>
    need (d14 = .int .i64 (getI d14)) <|
    (lm K 83 [.int .i64 (getI (getT d8 0))]).bind fun d15 =>
    need (d15 = .int .i64 (getI d15)) <|
    bif getI d14 == getI d15 then bif getI (getT d9 1) == getI (getT d8 1) then (lm K 81 []).bind fun d16 =>
      need (d16 = .bool (getB d16)) <|
      some (DV.bool (getB d16))
     else some (DV.bool false)
    else some (DV.bool false)
   else (lm K 82 [.sl .no 12 ([] ++ a2), .sl .no 1 a3]).bind fun d17 =>
   need (d17 = .tup [.int .i64 (getI (getT d17 0)), .int .i64 (getI (getT d17 1))]) <|
   (lm K 83 [.int .i64 (getI (getT d7 0))]).bind fun d18 =>
   need (d18 = .int .i64 (getI d18)) <|
   bif getI d18 != 0 then (lm K 83 [.int .i64 (getI (getT d17 0))]).bind fun d19 =>
    need (d19 = .int .i64 (getI d19)) <|
    (lm K 83 [.int .i64 (getI (getT d7 0))]).bind fun d20 =>
    need (d20 = .int .i64 (getI d20)) <|
    bif getI d19 == getI d20 then bif getI (getT d17 1) == getI (getT d7 1) then (lm K 81 []).bind fun d21 =>
      need (d21 = .bool (getB d21)) <|
      some (DV.bool (getB d21))
     else some (DV.bool false)
    else some (DV.bool false)
   else (lm K 83 [.int .i64 (getI (getT d17 0))]).bind fun d22 =>
   need (d22 = .int .i64 (getI d22)) <|
   (lm K 83 [.int .i64 (getI (getT d8 0))]).bind fun d23 =>
   need (d23 = .int .i64 (getI d23)) <|
   bif getI d22 == getI d23 then bif getI (getT d17 1) == getI (getT d8 1) then (lm K 81 []).bind fun d24 =>
     need (d24 = .bool (getB d24)) <|
     some (DV.bool (getB d24))
    else some (DV.bool false)
   else some (DV.bool false)
  else need ((([] ++ a1).length + a2.length) * (160 : Nat) ≤ (140737488355328 : Nat) ∧ ([] ++ a1).length = ([] : List DV).length + a1.length ∧ ((12 : Nat) = (12 : Nat) ∧ (12 : Nat) = (12 : Nat) ∨ [] ++ a1 = [] ∧ (12 : Nat) = (0 : Nat))) <|
  bif a2.isEmpty then (lm K 82 [.sl .no 12 ([] ++ a1), .sl .no 1 a3]).bind fun d25 =>
   need (d25 = .tup [.int .i64 (getI (getT d25 0)), .int .i64 (getI (getT d25 1))]) <|
   (lm K 83 [.int .i64 (getI (getT d7 0))]).bind fun d26 =>
   need (d26 = .int .i64 (getI d26)) <|
   bif getI d26 != 0 then (lm K 83 [.int .i64 (getI (getT d25 0))]).bind fun d27 =>
    need (d27 = .int .i64 (getI d27)) <|
    (lm K 83 [.int .i64 (getI (getT d7 0))]).bind fun d28 =>
    need (d28 = .int .i64 (getI d28)) <|
    bif getI d27 == getI d28 then bif getI (getT d25 1) == getI (getT d7 1) then (lm K 81 []).bind fun d29 =>
      need (d29 = .bool (getB d29)) <|
      some (DV.bool (getB d29))
     else some (DV.bool false)
    else some (DV.bool false)
   else (lm K 83 [.int .i64 (getI (getT d25 0))]).bind fun d30 =>
   need (d30 = .int .i64 (getI d30)) <|
   (lm K 83 [.int .i64 (getI (getT d8 0))]).bind fun d31 =>
   need (d31 = .int .i64 (getI d31)) <|
   bif getI d30 == getI d31 then bif getI (getT d25 1) == getI (getT d8 1) then (lm K 81 []).bind fun d32 =>
     need (d32 = .bool (getB d32)) <|
     some (DV.bool (getB d32))
    else some (DV.bool false)
   else some (DV.bool false)
  else (lm K 82 [.sl .no 12 ([] ++ a1 ++ a2), .sl .no 1 a3]).bind fun d33 =>
  need (d33 = .tup [.int .i64 (getI (getT d33 0)), .int .i64 (getI (getT d33 1))]) <|
  (lm K 83 [.int .i64 (getI (getT d7 0))]).bind fun d34 =>
  need (d34 = .int .i64 (getI d34)) <|
  bif getI d34 != 0 then (lm K 83 [.int .i64 (getI (getT d33 0))]).bind fun d35 =>
   need (d35 = .int .i64 (getI d35)) <|
   (lm K 83 [.int .i64 (getI (getT d7 0))]).bind fun d36 =>
   need (d36 = .int .i64 (getI d36)) <|
   bif getI d35 == getI d36 then bif getI (getT d33 1) == getI (getT d7 1) then (lm K 81 []).bind fun d37 =>
     need (d37 = .bool (getB d37)) <|
     some (DV.bool (getB d37))
    else some (DV.bool false)
   else some (DV.bool false)
  else (lm K 83 [.int .i64 (getI (getT d33 0))]).bind fun d38 =>
  need (d38 = .int .i64 (getI d38)) <|
  (lm K 83 [.int .i64 (getI (getT d8 0))]).bind fun d39 =>
  need (d39 = .int .i64 (getI d39)) <|
  bif getI d38 == getI d39 then bif getI (getT d33 1) == getI (getT d8 1) then (lm K 81 []).bind fun d40 =>
    need (d40 = .bool (getB d40)) <|
    some (DV.bool (getB d40))
   else some (DV.bool false)
  else some (DV.bool false)
theorem t23 {K : Nat} (a1 : List DV) (a2 : List DV) (a3 : List DV) {r : DV} (h : T23 K a1 a2 a3 = some r) : lm K 23 [.sl .no 12 a1, .sl .no 12 a2, .sl .no 1 a3] = some r := fn_run (Eq.trans (by kernel_rfl) h)

/-! 80 80 -/
noncomputable def H80_0 (a1 : List DV) (v2 : Int) : St := ⟨[.sl .no 1 a1] ++ [.undef, .undef] ++ [.int .i64 v2] ++ (un 19), []⟩
def P80_0 : List Dir := [.c, .r, .l, .r]
noncomputable def hd80_0 (K : Nat) (a1 : List DV) (v2 : Int) : Option DV := hdL Try.prog (C0 K) 80 P80_0 (bits 23 9) 0 (H80_0 a1 v2)
noncomputable def T80 (K : Nat) (a1 : List DV) : Option DV :=
  hd80_0 K a1 0
theorem t80 {K : Nat} (a1 : List DV) {r : DV} (h : T80 K a1 = some r) : lm K 80 [.sl .no 1 a1] = some r := fn_run (Eq.trans (by kernel_rfl) h)
noncomputable def L80_0 (K : Nat) (a1 : List DV) (v2 : Int) : Option DV :=
  bif decide (v2 < (↑a1.length : Int)) then bif decide (v2 ≤ 20) then need ((0 : Int) ≤ v2) <|
    (a1[v2.toNat]?).bind fun x3 =>
    need (x3 = .str (getS x3)) <|
    bif decide ((↑(getS x3).size : Int) > 200) then some (DV.bool false)
    else hd80_0 K a1 (IntKind.i64.wrap (v2 + 1))
   else some (DV.bool (decide ((↑a1.length : Int) ≤ 20)))
  else some (DV.bool (decide ((↑a1.length : Int) ≤ 20)))
theorem l80_0 {K : Nat} (a1 : List DV) (v2 : Int) {r : DV} (h : L80_0 K a1 v2 = some r) : hd80_0 K a1 v2 = some r := hd_run (Eq.trans (by kernel_rfl) h)

/-! 82 82 -/
noncomputable def T82 (K : Nat) (a1 : List DV) (a2 : List DV) : Option DV :=
  (lm K 145 [.sl .no 12 a1, .sl .no 1 a2]).bind fun d1 =>
  need (d1 = R 90 d1) <|
  some (DV.tup ((R 90 d1).cells))
theorem t82 {K : Nat} (a1 : List DV) (a2 : List DV) {r : DV} (h : T82 K a1 a2 = some r) : lm K 82 [.sl .no 12 a1, .sl .no 1 a2] = some r := fn_run (Eq.trans (by kernel_rfl) h)

/-! 83 83 -/
noncomputable def T83 (K : Nat) (a1 : Int) : Option DV :=
  some (DV.int .i64 a1)
theorem t83 {K : Nat} (a1 : Int) {r : DV} (h : T83 K a1 = some r) : lm K 83 [.int .i64 a1] = some r := fn_run (Eq.trans (by kernel_rfl) h)

/-! 112 112 -/
noncomputable def T112 (K : Nat) (a1 : List DV) (a2 : ByteArray) : Option DV :=
  (lm K 178 [.sl .no 1 a1, .str a2]).bind fun d1 =>
  need (d1 = .int .i64 (getI d1)) <|
  some (DV.bool (decide (getI d1 ≥ 0)))
theorem t112 {K : Nat} (a1 : List DV) (a2 : ByteArray) {r : DV} (h : T112 K a1 a2 = some r) : lm K 112 [.sl .no 1 a1, .str a2] = some r := fn_run (Eq.trans (by kernel_rfl) h)

/-! 178 178 -/
noncomputable def H178_0 (a1 : List DV) (a2 : ByteArray) (v2 : Int) : St := ⟨[.sl .no 1 a1, .str a2] ++ (un 5) ++ [.int .i64 ((↑a1.length : Int)), .int .i64 v2] ++ (un 10), []⟩
def P178_0 : List Dir := [.c, .r, .l, .r]
noncomputable def hd178_0 (K : Nat) (a1 : List DV) (a2 : ByteArray) (v2 : Int) : Option DV := hdL Try.prog (C0 K) 178 P178_0 (bits 19 387) 0 (H178_0 a1 a2 v2)
noncomputable def T178 (K : Nat) (a1 : List DV) (a2 : ByteArray) : Option DV :=
  hd178_0 K a1 a2 0
theorem t178 {K : Nat} (a1 : List DV) (a2 : ByteArray) {r : DV} (h : T178 K a1 a2 = some r) : lm K 178 [.sl .no 1 a1, .str a2] = some r := fn_run (Eq.trans (by kernel_rfl) h)
noncomputable def L178_0 (K : Nat) (a1 : List DV) (a2 : ByteArray) (v2 : Int) : Option DV :=
  bif decide (v2 < (↑a1.length : Int)) then need ((0 : Int) ≤ v2) <|
   (a1[v2.toNat]?).bind fun x3 =>
   need (x3 = .str (getS x3)) <|
   bif a2.toList == (getS x3).toList then some (DV.int .i64 v2)
   else hd178_0 K a1 a2 (IntKind.i64.wrap (v2 + 1))
  else some (DV.int .i64 (-1))
theorem l178_0 {K : Nat} (a1 : List DV) (a2 : ByteArray) (v2 : Int) {r : DV} (h : L178_0 K a1 a2 v2 = some r) : hd178_0 K a1 a2 v2 = some r := hd_run (Eq.trans (by kernel_rfl) h)

/-! 203 203 -/
noncomputable def T203 (K : Nat) (a1 : DV) (a2 : List DV) : Option DV :=
  (lm K 226 [.int .i64 (gI a1 0)]).bind fun d1 =>
  need (d1 = .bool (getB d1)) <|
  bif getB d1 then (lm K 112 [.sl .no 1 a2, .str (gS a1 1)]).bind fun d2 =>
   need (d2 = .bool (getB d2)) <|
   bif !getB d2 then some (DV.agg [.int .i64 90, .int .i64 (gI a1 11)])
   else (lmH K 227 [.agg [.int .i64 (gI a1 4), .str (gS a1 5), .str (gS a1 6), .int .i64 (gI a1 7), .sl .no 6 (gL a1 8), .int .i64 (gI a1 9)], .fn 228 [] [.ptr 0 0]] [.box [.sl .no 1 a2]]).bind fun d3 =>
   need (d3 = .tup [.tup [.agg [.int .i64 (gI (getT (getT d3 0) 0) 0), .str (gS (getT (getT d3 0) 0) 1), .str (gS (getT (getT d3 0) 0) 2), .int .i64 (gI (getT (getT d3 0) 0) 3), .sl .no 6 (gL (getT (getT d3 0) 0) 4), .int .i64 (gI (getT (getT d3 0) 0) 5)], .bool (getB (getT (getT d3 0) 1))], .agg [.sl .no 1 (gL (getT d3 1) 0)]]) <|
   bif getB (getT (getT d3 0) 1) then some (DV.agg [.int .i64 90, .int .i64 (gI (getT (getT d3 0) 0) 5)])
   else (lm K 229 [R 56 a1]).bind fun d4 =>
   need (d4 = .sl .no 1 (getL d4)) <|
   (lmH K 227 [.agg [.int .i64 (gI a1 4), .str (gS a1 5), .str (gS a1 6), .int .i64 (gI a1 7), .sl .no 6 (gL a1 8), .int .i64 (gI a1 9)], .fn 230 [] [.ptr 0 0]] [.box [.sl .no 1 (getL d4)]]).bind fun d5 =>
   need (d5 = .tup [.tup [.agg [.int .i64 (gI (getT (getT d5 0) 0) 0), .str (gS (getT (getT d5 0) 0) 1), .str (gS (getT (getT d5 0) 0) 2), .int .i64 (gI (getT (getT d5 0) 0) 3), .sl .no 6 (gL (getT (getT d5 0) 0) 4), .int .i64 (gI (getT (getT d5 0) 0) 5)], .bool (getB (getT (getT d5 0) 1))], .agg [.sl .no 1 (gL (getT d5 1) 0)]]) <|
   bif getB (getT (getT d5 0) 1) then some (DV.agg [.int .i64 91, .int .i64 (gI (getT (getT d5 0) 0) 5)])
   else some (DV.agg [.int .i64 0, .int .i64 0])
  else (lmH K 227 [.agg [.int .i64 (gI a1 4), .str (gS a1 5), .str (gS a1 6), .int .i64 (gI a1 7), .sl .no 6 (gL a1 8), .int .i64 (gI a1 9)], .fn 228 [] [.ptr 0 0]] [.box [.sl .no 1 a2]]).bind fun d6 =>
  need (d6 = .tup [.tup [.agg [.int .i64 (gI (getT (getT d6 0) 0) 0), .str (gS (getT (getT d6 0) 0) 1), .str (gS (getT (getT d6 0) 0) 2), .int .i64 (gI (getT (getT d6 0) 0) 3), .sl .no 6 (gL (getT (getT d6 0) 0) 4), .int .i64 (gI (getT (getT d6 0) 0) 5)], .bool (getB (getT (getT d6 0) 1))], .agg [.sl .no 1 (gL (getT d6 1) 0)]]) <|
  bif getB (getT (getT d6 0) 1) then some (DV.agg [.int .i64 90, .int .i64 (gI (getT (getT d6 0) 0) 5)])
  else (lm K 229 [R 56 a1]).bind fun d7 =>
  need (d7 = .sl .no 1 (getL d7)) <|
  (lmH K 227 [.agg [.int .i64 (gI a1 4), .str (gS a1 5), .str (gS a1 6), .int .i64 (gI a1 7), .sl .no 6 (gL a1 8), .int .i64 (gI a1 9)], .fn 230 [] [.ptr 0 0]] [.box [.sl .no 1 (getL d7)]]).bind fun d8 =>
  need (d8 = .tup [.tup [.agg [.int .i64 (gI (getT (getT d8 0) 0) 0), .str (gS (getT (getT d8 0) 0) 1), .str (gS (getT (getT d8 0) 0) 2), .int .i64 (gI (getT (getT d8 0) 0) 3), .sl .no 6 (gL (getT (getT d8 0) 0) 4), .int .i64 (gI (getT (getT d8 0) 0) 5)], .bool (getB (getT (getT d8 0) 1))], .agg [.sl .no 1 (gL (getT d8 1) 0)]]) <|
  bif getB (getT (getT d8 0) 1) then some (DV.agg [.int .i64 91, .int .i64 (gI (getT (getT d8 0) 0) 5)])
  else some (DV.agg [.int .i64 0, .int .i64 0])
theorem t203 {K : Nat} (a1 : DV) (a2 : List DV) {r : DV} (h : T203 K a1 a2 = some r) : lm K 203 [R 56 a1, .sl .no 1 a2] = some r := fn_run (Eq.trans (by kernel_rfl) h)

/-! 226 226 -/
noncomputable def T226 (K : Nat) (a1 : Int) : Option DV :=
  bif a1 == 2 then some (DV.bool true)
  else bif a1 == 9 then some (DV.bool true)
  else bif a1 == 10 then some (DV.bool true)
  else some (DV.bool (a1 == 11))
theorem t226 {K : Nat} (a1 : Int) {r : DV} (h : T226 K a1 = some r) : lm K 226 [.int .i64 a1] = some r := fn_run (Eq.trans (by kernel_rfl) h)

/-! 229 229 -/
noncomputable def H229_0 (a1 : DV) (v12 : List DV) (v8 : Int) (z13 : Nat) (v14 : Nat) : St := ⟨[.undef, .undef] ++ [.sl (.tok 1) 1 v12] ++ (un 13) ++ [.sl .no 1 (gL a1 10), .int .i64 ((↑(gL a1 10).length : Int)), .int .i64 v8] ++ (un 20), [.box ((R 56 a1).cells), .tok z13 v14]⟩
def P229_0 : List Dir := [.c, .r, .l, .r, .r]
noncomputable def hd229_0 (K : Nat) (a1 : DV) (v12 : List DV) (v8 : Int) (z13 : Nat) (v14 : Nat) : Option DV := hdL Try.prog (C0 K) 229 P229_0 (bits 39 458756) 2 (H229_0 a1 v12 v8 z13 v14)
noncomputable def H229_1 (a1 : DV) (v4 : List DV) (v10 : Int) (x1 : DV) (v5 : Int) (z6 : Nat) (v7 : Nat) : St := ⟨[.undef, .undef] ++ [.sl (.tok 1) 1 v4] ++ (un 13) ++ [.sl .no 1 (gL a1 10), .int .i64 ((↑(gL a1 10).length : Int)), .int .i64 v10] ++ [.undef, .undef, .undef] ++ [.sl .no 12 (getL x1), .int .i64 ((↑(getL x1).length : Int)), .int .i64 v5] ++ (un 14), [.box ((R 56 a1).cells), .tok z6 v7]⟩
def P229_1 : List Dir := [.c, .r, .r, .c, .l, .r, .r, .loop (bits 39 458756) 2, .c, .r, .l, .r, .r]
noncomputable def hd229_1 (K : Nat) (a1 : DV) (v4 : List DV) (v10 : Int) (x1 : DV) (v5 : Int) (z6 : Nat) (v7 : Nat) : Option DV := hdL Try.prog (C0 K) 229 P229_1 (bits 39 29818884) 2 (H229_1 a1 v4 v10 x1 v5 z6 v7)
noncomputable def T229 (K : Nat) (a1 : DV) : Option DV :=
  bif gI a1 0 != 3 then bif gI a1 0 != 4 then some (DV.sl .no 1 [])
   else hd229_0 K a1 [] 0 0 0
  else hd229_0 K a1 [] 0 0 0
theorem t229 {K : Nat} (a1 : DV) {r : DV} (h : T229 K a1 = some r) : lm K 229 [R 56 a1] = some r := fn_run (Eq.trans (by kernel_rfl) h)
noncomputable def L229_0 (K : Nat) (a1 : DV) (v12 : List DV) (v8 : Int) (z13 : Nat) (v14 : Nat) : Option DV :=
  bif decide (v8 < (↑(gL a1 10).length : Int)) then need ((0 : Int) ≤ v8) <|
   ((gL a1 10)[v8.toNat]?).bind fun x15 =>
   need (x15 = .sl .no 12 (getL x15)) <|
   hd229_1 K a1 v12 v8 x15 0 z13 v14
  else some (DV.sl .no 1 v12)
theorem l229_0 {K : Nat} (a1 : DV) (v12 : List DV) (v8 : Int) (z13 : Nat) (v14 : Nat) {r : DV} (h : L229_0 K a1 v12 v8 z13 v14 = some r) : hd229_0 K a1 v12 v8 z13 v14 = some r := hd_run (Eq.trans (by kernel_rfl) h)
noncomputable def L229_1 (K : Nat) (a1 : DV) (v4 : List DV) (v10 : Int) (x1 : DV) (v5 : Int) (z6 : Nat) (v7 : Nat) : Option DV :=
  bif decide (v5 < (↑(getL x1).length : Int)) then need ((0 : Int) ≤ v5) <|
   ((getL x1)[v5.toNat]?).bind fun x16 =>
   need (x16 = R 56 x16) <|
   bif gI x16 0 == 9 then need ((v4.length + [DV.str (gS x16 (1 : Nat))].length) * (16 : Nat) ≤ (140737488355328 : Nat) ∧ v4.length = v7 ∧ ((1 : Nat) = (1 : Nat) ∧ z6 = (1 : Nat) ∨ v4 = [] ∧ z6 = (0 : Nat))) <|
    hd229_1 K a1 (v4 ++ [DV.str (gS x16 1)]) v10 x1 (IntKind.i64.wrap (v5 + 1)) 1 (v4.length + [DV.str (gS x16 1)].length)
   else hd229_1 K a1 v4 v10 x1 (IntKind.i64.wrap (v5 + 1)) z6 v7
  else hd229_0 K a1 v4 (IntKind.i64.wrap (v10 + 1)) z6 v7
theorem l229_1 {K : Nat} (a1 : DV) (v4 : List DV) (v10 : Int) (x1 : DV) (v5 : Int) (z6 : Nat) (v7 : Nat) {r : DV} (h : L229_1 K a1 v4 v10 x1 v5 z6 v7 = some r) : hd229_1 K a1 v4 v10 x1 v5 z6 v7 = some r := hd_run (Eq.trans (by kernel_rfl) h)

end Go.Proofs.Ytmfgdnagmacgdaa.Dv
end
section
/- Trees of questions of functions of the program (printed by a program of this session, wip/dv/sym.txt). No condition. -/
set_option maxRecDepth 100000
set_option linter.unusedVariables false
namespace Go.Proofs.Ytmfgdnagmacgdaa.Dv
/-! 227 227a -/
noncomputable def H227a_0 (a1 : DV) (a2 : List DV) (v4 : Int) (v5 : List DV) : St := ⟨[.undef] ++ [.fn 228 [] [.ptr 0 0]] ++ [.undef, .undef] ++ [.ptr 2 0] ++ (un 15) ++ [.sl .no 6 (gL a1 4), .int .i64 ((↑(gL a1 4).length : Int)), .int .i64 v4] ++ (un 13), [.box [.sl .no 1 v5], .box ((R 51 a1).cells), .box [.int .i64 0, .str (ByteArray.mk #[]), .str (ByteArray.mk #[]), .int .i64 0, .sl (.tok 4) 0 [], .int .i64 0], .box ((R 51 a1).cells), .tok 0 0]⟩
def P227a_0 : List Dir := [.c, .r, .l, .r, .r]
noncomputable def hd227a_0 (K : Nat) (a1 : DV) (a2 : List DV) (v4 : Int) (v5 : List DV) : Option DV := hdLH Try.prog (C0 K) 227 1 P227a_0 (bits 36 7340050) 5 (H227a_0 a1 a2 v4 v5)
noncomputable def H227a_1 (a1 : DV) (a2 : List DV) (v8 : Int) (v9 : List DV) : St := ⟨[.undef] ++ [.fn 228 [] [.ptr 0 0]] ++ [.undef, .undef] ++ [.ptr 2 0] ++ (un 15) ++ [.sl .no 6 (gL a1 4), .int .i64 ((↑(gL a1 4).length : Int)), .int .i64 v8] ++ (un 13), [.box [.sl .no 1 v9], .box ((R 51 a1).cells), .box [.int .i64 0, .str (ByteArray.mk #[]), .str (ByteArray.mk #[]), .int .i64 0, .sl (.tok 3) 0 [], .int .i64 0], .tok 0 0]⟩
def P227a_1 : List Dir := [.c, .r, .l, .r, .r]
noncomputable def hd227a_1 (K : Nat) (a1 : DV) (a2 : List DV) (v8 : Int) (v9 : List DV) : Option DV := hdLH Try.prog (C0 K) 227 1 P227a_1 (bits 36 7340050) 4 (H227a_1 a1 a2 v8 v9)
noncomputable def T227a (K : Nat) (a1 : DV) (a2 : List DV) : Option DV :=
  bif gI a1 0 == 4 then (lm K 112 [.sl .no 1 a2, .str (gS a1 1)]).bind fun d10 =>
   need (d10 = .bool (getB d10)) <|
   bif !getB d10 then some (DV.tup [.tup [R 51 a1, .bool true], .agg [.sl .no 1 a2]])
   else hd227a_0 K a1 a2 0 a2
  else hd227a_1 K a1 a2 0 a2
theorem t227a {K : Nat} (a1 : DV) (a2 : List DV) {r : DV} (h : T227a K a1 a2 = some r) : lmH K 227 [R 51 a1, .fn 228 [] [.ptr 0 0]] [.box [.sl .no 1 a2]] = some r := fnH_run (Eq.trans (by kernel_rfl) h)
noncomputable def L227a_0 (K : Nat) (a1 : DV) (a2 : List DV) (v4 : Int) (v5 : List DV) : Option DV :=
  bif decide (v4 < (↑(gL a1 4).length : Int)) then need ((0 : Int) ≤ v4) <|
   ((gL a1 4)[v4.toNat]?).bind fun x11 =>
   need (x11 = R 51 x11) <|
   (lmH K 227 [R 51 x11, .fn 228 [] [.ptr 0 0]] [.box [.sl .no 1 v5]]).bind fun d12 =>
   need (d12 = .tup [.tup [.agg [.int .i64 (gI (getT (getT d12 0) 0) 0), .str (gS (getT (getT d12 0) 0) 1), .str (gS (getT (getT d12 0) 0) 2), .int .i64 (gI (getT (getT d12 0) 0) 3), .sl .no 6 (gL (getT (getT d12 0) 0) 4), .int .i64 (gI (getT (getT d12 0) 0) 5)], .bool (getB (getT (getT d12 0) 1))], .agg [.sl .no 1 (gL (getT d12 1) 0)]]) <|
   bif getB (getT (getT d12 0) 1) then some (DV.tup [.tup [.agg [.int .i64 (gI (getT (getT d12 0) 0) 0), .str (gS (getT (getT d12 0) 0) 1), .str (gS (getT (getT d12 0) 0) 2), .int .i64 (gI (getT (getT d12 0) 0) 3), .sl .no 6 (gL (getT (getT d12 0) 0) 4), .int .i64 (gI (getT (getT d12 0) 0) 5)], .bool true], .agg [.sl .no 1 (gL (getT d12 1) 0)]])
   else hd227a_0 K a1 a2 (IntKind.i64.wrap (v4 + 1)) (gL (getT d12 1) 0)
  else some (DV.tup [.tup [.agg [.int .i64 0, .str (ByteArray.mk #[]), .str (ByteArray.mk #[]), .int .i64 0, .sl .no 6 [], .int .i64 0], .bool false], .agg [.sl .no 1 v5]])
theorem l227a_0 {K : Nat} (a1 : DV) (a2 : List DV) (v4 : Int) (v5 : List DV) {r : DV} (h : L227a_0 K a1 a2 v4 v5 = some r) : hd227a_0 K a1 a2 v4 v5 = some r := hdH_run (Eq.trans (by kernel_rfl) h)
noncomputable def L227a_1 (K : Nat) (a1 : DV) (a2 : List DV) (v8 : Int) (v9 : List DV) : Option DV :=
  bif decide (v8 < (↑(gL a1 4).length : Int)) then need ((0 : Int) ≤ v8) <|
   ((gL a1 4)[v8.toNat]?).bind fun x13 =>
   need (x13 = R 51 x13) <|
   (lmH K 227 [R 51 x13, .fn 228 [] [.ptr 0 0]] [.box [.sl .no 1 v9]]).bind fun d14 =>
   need (d14 = .tup [.tup [.agg [.int .i64 (gI (getT (getT d14 0) 0) 0), .str (gS (getT (getT d14 0) 0) 1), .str (gS (getT (getT d14 0) 0) 2), .int .i64 (gI (getT (getT d14 0) 0) 3), .sl .no 6 (gL (getT (getT d14 0) 0) 4), .int .i64 (gI (getT (getT d14 0) 0) 5)], .bool (getB (getT (getT d14 0) 1))], .agg [.sl .no 1 (gL (getT d14 1) 0)]]) <|
   bif getB (getT (getT d14 0) 1) then some (DV.tup [.tup [.agg [.int .i64 (gI (getT (getT d14 0) 0) 0), .str (gS (getT (getT d14 0) 0) 1), .str (gS (getT (getT d14 0) 0) 2), .int .i64 (gI (getT (getT d14 0) 0) 3), .sl .no 6 (gL (getT (getT d14 0) 0) 4), .int .i64 (gI (getT (getT d14 0) 0) 5)], .bool true], .agg [.sl .no 1 (gL (getT d14 1) 0)]])
   else hd227a_1 K a1 a2 (IntKind.i64.wrap (v8 + 1)) (gL (getT d14 1) 0)
  else some (DV.tup [.tup [.agg [.int .i64 0, .str (ByteArray.mk #[]), .str (ByteArray.mk #[]), .int .i64 0, .sl .no 6 [], .int .i64 0], .bool false], .agg [.sl .no 1 v9]])
theorem l227a_1 {K : Nat} (a1 : DV) (a2 : List DV) (v8 : Int) (v9 : List DV) {r : DV} (h : L227a_1 K a1 a2 v8 v9 = some r) : hd227a_1 K a1 a2 v8 v9 = some r := hdH_run (Eq.trans (by kernel_rfl) h)

/-! 227 227b -/
noncomputable def H227b_0 (a1 : DV) (a2 : List DV) (v4 : Int) (v5 : List DV) (d1 : DV) : St := ⟨[.undef] ++ [.fn 230 [] [.ptr 0 0]] ++ [.undef, .undef] ++ [.ptr 2 0] ++ (un 15) ++ [.sl .no 6 (gL a1 4), .int .i64 ((↑(gL a1 4).length : Int)), .int .i64 v4] ++ (un 13), [.box [.sl .no 1 v5], .box ((R 51 a1).cells), .box [.int .i64 0, .str (ByteArray.mk #[]), .str (ByteArray.mk #[]), .int .i64 0, .sl (.tok 4) 0 [], .int .i64 0], .box [.int .i64 (gI (getT d1 1) 0), .str (gS (getT d1 1) 1), .str (gS (getT d1 1) 2), .int .i64 (gI (getT d1 1) 3), .sl .no 6 (gL (getT d1 1) 4), .int .i64 (gI (getT d1 1) 5)], .tok 0 0]⟩
def P227b_0 : List Dir := [.c, .r, .l, .r, .r]
noncomputable def hd227b_0 (K : Nat) (a1 : DV) (a2 : List DV) (v4 : Int) (v5 : List DV) (d1 : DV) : Option DV := hdLH Try.prog (C0 K) 227 1 P227b_0 (bits 36 7340050) 5 (H227b_0 a1 a2 v4 v5 d1)
noncomputable def H227b_1 (a1 : DV) (a2 : List DV) (v8 : Int) (v9 : List DV) : St := ⟨[.undef] ++ [.fn 230 [] [.ptr 0 0]] ++ [.undef, .undef] ++ [.ptr 2 0] ++ (un 15) ++ [.sl .no 6 (gL a1 4), .int .i64 ((↑(gL a1 4).length : Int)), .int .i64 v8] ++ (un 13), [.box [.sl .no 1 v9], .box ((R 51 a1).cells), .box [.int .i64 0, .str (ByteArray.mk #[]), .str (ByteArray.mk #[]), .int .i64 0, .sl (.tok 3) 0 [], .int .i64 0], .tok 0 0]⟩
def P227b_1 : List Dir := [.c, .r, .l, .r, .r]
noncomputable def hd227b_1 (K : Nat) (a1 : DV) (a2 : List DV) (v8 : Int) (v9 : List DV) : Option DV := hdLH Try.prog (C0 K) 227 1 P227b_1 (bits 36 7340050) 4 (H227b_1 a1 a2 v8 v9)
noncomputable def T227b (K : Nat) (a1 : DV) (a2 : List DV) : Option DV :=
  bif gI a1 0 == 4 then (lmH K 231 [.sl .no 1 a2, .fn 232 [] [.ptr 0 0]] [.box ((R 51 a1).cells)]).bind fun d10 =>
   need (d10 = .tup [.bool (getB (getT d10 0)), .agg [.int .i64 (gI (getT d10 1) 0), .str (gS (getT d10 1) 1), .str (gS (getT d10 1) 2), .int .i64 (gI (getT d10 1) 3), .sl .no 6 (gL (getT d10 1) 4), .int .i64 (gI (getT d10 1) 5)]]) <|
   bif getB (getT d10 0) then some (DV.tup [.tup [R 51 a1, .bool true], .agg [.sl .no 1 a2]])
   else hd227b_0 K a1 a2 0 a2 d10
  else hd227b_1 K a1 a2 0 a2
theorem t227b {K : Nat} (a1 : DV) (a2 : List DV) {r : DV} (h : T227b K a1 a2 = some r) : lmH K 227 [R 51 a1, .fn 230 [] [.ptr 0 0]] [.box [.sl .no 1 a2]] = some r := fnH_run (Eq.trans (by kernel_rfl) h)
noncomputable def L227b_0 (K : Nat) (a1 : DV) (a2 : List DV) (v4 : Int) (v5 : List DV) (d1 : DV) : Option DV :=
  bif decide (v4 < (↑(gL a1 4).length : Int)) then need ((0 : Int) ≤ v4) <|
   ((gL a1 4)[v4.toNat]?).bind fun x11 =>
   need (x11 = R 51 x11) <|
   (lmH K 227 [R 51 x11, .fn 230 [] [.ptr 0 0]] [.box [.sl .no 1 v5]]).bind fun d12 =>
   need (d12 = .tup [.tup [.agg [.int .i64 (gI (getT (getT d12 0) 0) 0), .str (gS (getT (getT d12 0) 0) 1), .str (gS (getT (getT d12 0) 0) 2), .int .i64 (gI (getT (getT d12 0) 0) 3), .sl .no 6 (gL (getT (getT d12 0) 0) 4), .int .i64 (gI (getT (getT d12 0) 0) 5)], .bool (getB (getT (getT d12 0) 1))], .agg [.sl .no 1 (gL (getT d12 1) 0)]]) <|
   bif getB (getT (getT d12 0) 1) then some (DV.tup [.tup [.agg [.int .i64 (gI (getT (getT d12 0) 0) 0), .str (gS (getT (getT d12 0) 0) 1), .str (gS (getT (getT d12 0) 0) 2), .int .i64 (gI (getT (getT d12 0) 0) 3), .sl .no 6 (gL (getT (getT d12 0) 0) 4), .int .i64 (gI (getT (getT d12 0) 0) 5)], .bool true], .agg [.sl .no 1 (gL (getT d12 1) 0)]])
   else hd227b_0 K a1 a2 (IntKind.i64.wrap (v4 + 1)) (gL (getT d12 1) 0) d1
  else some (DV.tup [.tup [.agg [.int .i64 0, .str (ByteArray.mk #[]), .str (ByteArray.mk #[]), .int .i64 0, .sl .no 6 [], .int .i64 0], .bool false], .agg [.sl .no 1 v5]])
theorem l227b_0 {K : Nat} (a1 : DV) (a2 : List DV) (v4 : Int) (v5 : List DV) (d1 : DV) {r : DV} (h : L227b_0 K a1 a2 v4 v5 d1 = some r) : hd227b_0 K a1 a2 v4 v5 d1 = some r := hdH_run (Eq.trans (by kernel_rfl) h)
noncomputable def L227b_1 (K : Nat) (a1 : DV) (a2 : List DV) (v8 : Int) (v9 : List DV) : Option DV :=
  bif decide (v8 < (↑(gL a1 4).length : Int)) then need ((0 : Int) ≤ v8) <|
   ((gL a1 4)[v8.toNat]?).bind fun x13 =>
   need (x13 = R 51 x13) <|
   (lmH K 227 [R 51 x13, .fn 230 [] [.ptr 0 0]] [.box [.sl .no 1 v9]]).bind fun d14 =>
   need (d14 = .tup [.tup [.agg [.int .i64 (gI (getT (getT d14 0) 0) 0), .str (gS (getT (getT d14 0) 0) 1), .str (gS (getT (getT d14 0) 0) 2), .int .i64 (gI (getT (getT d14 0) 0) 3), .sl .no 6 (gL (getT (getT d14 0) 0) 4), .int .i64 (gI (getT (getT d14 0) 0) 5)], .bool (getB (getT (getT d14 0) 1))], .agg [.sl .no 1 (gL (getT d14 1) 0)]]) <|
   bif getB (getT (getT d14 0) 1) then some (DV.tup [.tup [.agg [.int .i64 (gI (getT (getT d14 0) 0) 0), .str (gS (getT (getT d14 0) 0) 1), .str (gS (getT (getT d14 0) 0) 2), .int .i64 (gI (getT (getT d14 0) 0) 3), .sl .no 6 (gL (getT (getT d14 0) 0) 4), .int .i64 (gI (getT (getT d14 0) 0) 5)], .bool true], .agg [.sl .no 1 (gL (getT d14 1) 0)]])
   else hd227b_1 K a1 a2 (IntKind.i64.wrap (v8 + 1)) (gL (getT d14 1) 0)
  else some (DV.tup [.tup [.agg [.int .i64 0, .str (ByteArray.mk #[]), .str (ByteArray.mk #[]), .int .i64 0, .sl .no 6 [], .int .i64 0], .bool false], .agg [.sl .no 1 v9]])
theorem l227b_1 {K : Nat} (a1 : DV) (a2 : List DV) (v8 : Int) (v9 : List DV) {r : DV} (h : L227b_1 K a1 a2 v8 v9 = some r) : hd227b_1 K a1 a2 v8 v9 = some r := hdH_run (Eq.trans (by kernel_rfl) h)

/-! 231 231 -/
noncomputable def T231 (K : Nat) (a1 : List DV) (a2 : DV) : Option DV :=
  (lmH K 237 [.sl .no 1 a1, .fn 232 [] [.ptr 0 0]] [.box ((R 51 a2).cells)]).bind fun d1 =>
  need (d1 = .tup [.int .i64 (getI (getT d1 0)), .agg [.int .i64 (gI (getT d1 1) 0), .str (gS (getT d1 1) 1), .str (gS (getT d1 1) 2), .int .i64 (gI (getT d1 1) 3), .sl .no 6 (gL (getT d1 1) 4), .int .i64 (gI (getT d1 1) 5)]]) <|
  some (DV.tup [.bool (decide (getI (getT d1 0) ≥ 0)), .agg [.int .i64 (gI (getT d1 1) 0), .str (gS (getT d1 1) 1), .str (gS (getT d1 1) 2), .int .i64 (gI (getT d1 1) 3), .sl .no 6 (gL (getT d1 1) 4), .int .i64 (gI (getT d1 1) 5)]])
theorem t231 {K : Nat} (a1 : List DV) (a2 : DV) {r : DV} (h : T231 K a1 a2 = some r) : lmH K 231 [.sl .no 1 a1, .fn 232 [] [.ptr 0 0]] [.box ((R 51 a2).cells)] = some r := fnH_run (Eq.trans (by kernel_rfl) h)

/-! 237 237 -/
noncomputable def H237_0 (a1 : List DV) (a2 : DV) (v2 : Int) : St := ⟨[.sl .no 1 a1, .fn 232 [] [.ptr 0 0]] ++ (un 5) ++ [.int .i64 ((↑a1.length : Int)), .int .i64 v2] ++ (un 10), [.box ((R 51 a2).cells)]⟩
def P237_0 : List Dir := [.c, .r, .l, .r]
noncomputable def hd237_0 (K : Nat) (a1 : List DV) (a2 : DV) (v2 : Int) : Option DV := hdLH Try.prog (C0 K) 237 1 P237_0 (bits 19 387) 1 (H237_0 a1 a2 v2)
noncomputable def T237 (K : Nat) (a1 : List DV) (a2 : DV) : Option DV :=
  hd237_0 K a1 a2 0
theorem t237 {K : Nat} (a1 : List DV) (a2 : DV) {r : DV} (h : T237 K a1 a2 = some r) : lmH K 237 [.sl .no 1 a1, .fn 232 [] [.ptr 0 0]] [.box ((R 51 a2).cells)] = some r := fnH_run (Eq.trans (by kernel_rfl) h)
noncomputable def L237_0 (K : Nat) (a1 : List DV) (a2 : DV) (v2 : Int) : Option DV :=
  bif decide (v2 < (↑a1.length : Int)) then need ((0 : Int) ≤ v2) <|
   (a1[v2.toNat]?).bind fun x3 =>
   need (x3 = .str (getS x3)) <|
   bif !(getS x3).toList == (gS a2 1).toList then some (DV.tup [.int .i64 v2, R 51 a2])
   else hd237_0 K a1 a2 (IntKind.i64.wrap (v2 + 1))
  else some (DV.tup [.int .i64 (-1), R 51 a2])
theorem l237_0 {K : Nat} (a1 : List DV) (a2 : DV) (v2 : Int) {r : DV} (h : L237_0 K a1 a2 v2 = some r) : hd237_0 K a1 a2 v2 = some r := hdH_run (Eq.trans (by kernel_rfl) h)

/-! 145 145 -/
noncomputable def H145_0 (a1 : List DV) (a2 : List DV) (v8 : Int) : St := ⟨[.undef] ++ [.sl .no 1 a2] ++ [.undef, .undef] ++ [.ptr 0 0] ++ (un 7) ++ [.sl .no 12 a1, .int .i64 ((↑a1.length : Int)), .int .i64 v8] ++ (un 41), [.box [.int .i64 0, .int .i64 0]]⟩
def P145_0 : List Dir := [.c, .r, .l, .r]
noncomputable def hd145_0 (K : Nat) (a1 : List DV) (a2 : List DV) (v8 : Int) : Option DV := hdL Try.prog (C0 K) 145 P145_0 (bits 56 28690) 1 (H145_0 a1 a2 v8)
noncomputable def H145_1 (a1 : List DV) (a2 : List DV) (x1 : DV) (v14 : Int) (v7 : Int) (d2 : DV) : St := ⟨[.undef] ++ [.sl .no 1 a2] ++ [.undef, .undef] ++ [.ptr 0 0] ++ [.undef, .undef, .undef] ++ [.sl (.tok 4) 1 (List.take (↑a2.length : Int).toNat a2 ++ [DV.str (gS x1 1)])] ++ [.undef, .undef, .undef] ++ [.sl .no 12 a1, .int .i64 ((↑a1.length : Int)), .int .i64 v14] ++ (un 25) ++ [.sl .no 1 (gL x1 10), .int .i64 ((↑(gL x1 10).length : Int)), .int .i64 v7] ++ (un 13), [.box [.int .i64 0, .int .i64 0], .box ((R 56 x1).cells), .box ((R 90 d2).cells), .kept, .tok 1 ((List.take (↑a2.length : Int).toNat a2).length + [DV.str (gS x1 1)].length)]⟩
def P145_1 : List Dir := [.c, .r, .r, .r, .r, .r, .c, .l, .r, .r, .loop (bits 56 28690) 1, .c, .r, .l, .r]
noncomputable def hd145_1 (K : Nat) (a1 : List DV) (a2 : List DV) (x1 : DV) (v14 : Int) (v7 : Int) (d2 : DV) : Option DV := hdL Try.prog (C0 K) 145 P145_1 (bits 56 7696581423378) 5 (H145_1 a1 a2 x1 v14 v7 d2)
noncomputable def H145_2 (a1 : List DV) (a2 : List DV) (v15 : Int) (x1 : DV) (v11 : Int) (d2 : DV) : St := ⟨[.undef] ++ [.sl .no 1 a2] ++ [.undef, .undef] ++ [.ptr 0 0] ++ [.undef, .undef, .undef] ++ [.sl .no 1 a2] ++ [.undef, .undef, .undef] ++ [.sl .no 12 a1, .int .i64 ((↑a1.length : Int)), .int .i64 v15] ++ (un 25) ++ [.sl .no 1 (gL x1 10), .int .i64 ((↑(gL x1 10).length : Int)), .int .i64 v11] ++ (un 13), [.box [.int .i64 0, .int .i64 0], .box ((R 56 x1).cells), .box ((R 90 d2).cells)]⟩
def P145_2 : List Dir := [.c, .r, .r, .r, .r, .r, .c, .l, .r, .r, .loop (bits 56 28690) 1, .c, .r, .l, .r]
noncomputable def hd145_2 (K : Nat) (a1 : List DV) (a2 : List DV) (v15 : Int) (x1 : DV) (v11 : Int) (d2 : DV) : Option DV := hdL Try.prog (C0 K) 145 P145_2 (bits 56 7696581423378) 3 (H145_2 a1 a2 v15 x1 v11 d2)
noncomputable def T145 (K : Nat) (a1 : List DV) (a2 : List DV) : Option DV :=
  hd145_0 K a1 a2 0
theorem t145 {K : Nat} (a1 : List DV) (a2 : List DV) {r : DV} (h : T145 K a1 a2 = some r) : lm K 145 [.sl .no 12 a1, .sl .no 1 a2] = some r := fn_run (Eq.trans (by kernel_rfl) h)
noncomputable def L145_0 (K : Nat) (a1 : List DV) (a2 : List DV) (v8 : Int) : Option DV :=
  bif decide (v8 < (↑a1.length : Int)) then need ((0 : Int) ≤ v8) <|
   (a1[v8.toNat]?).bind fun x20 =>
   need (x20 = R 56 x20) <|
   (lm K 203 [R 56 x20, .sl .no 1 a2]).bind fun d21 =>
   need (d21 = R 90 d21) <|
   bif gI d21 0 != 0 then some (R 90 d21)
   else bif gI x20 0 == 7 then need ((0 : Int) ≤ (↑a2.length : Int) ∧ (↑a2.length : Int) = (↑a2.length : Int) ∧ (↑a2.length : Int).toNat ≤ a2.length) <|
    need (((List.take (↑a2.length : Int).toNat a2).length + [DV.str (gS x20 (1 : Nat))].length) * (16 : Nat) ≤ (140737488355328 : Nat) ∧ (List.take (↑a2.length : Int).toNat a2 = [] ∨ (1 : Nat) = (1 : Nat))) <|
    hd145_1 K a1 a2 x20 v8 0 d21
   else hd145_2 K a1 a2 v8 x20 0 d21
  else some (DV.agg [.int .i64 0, .int .i64 0])
theorem l145_0 {K : Nat} (a1 : List DV) (a2 : List DV) (v8 : Int) {r : DV} (h : L145_0 K a1 a2 v8 = some r) : hd145_0 K a1 a2 v8 = some r := hd_run (Eq.trans (by kernel_rfl) h)
noncomputable def L145_1 (K : Nat) (a1 : List DV) (a2 : List DV) (x1 : DV) (v14 : Int) (v7 : Int) (d2 : DV) : Option DV :=
  bif decide (v7 < (↑(gL x1 10).length : Int)) then need ((0 : Int) ≤ v7) <|
   ((gL x1 10)[v7.toNat]?).bind fun x16 =>
   need (x16 = .sl .no 12 (getL x16)) <|
   (lm K 145 [.sl .no 12 (getL x16), .sl .no 1 (List.take (↑a2.length : Int).toNat a2 ++ [DV.str (gS x1 1)])]).bind fun d17 =>
   need (d17 = R 90 d17) <|
   bif gI d17 0 != 0 then some (R 90 d17)
   else hd145_1 K a1 a2 x1 v14 (IntKind.i64.wrap (v7 + 1)) d2
  else hd145_0 K a1 a2 (IntKind.i64.wrap (v14 + 1))
theorem l145_1 {K : Nat} (a1 : List DV) (a2 : List DV) (x1 : DV) (v14 : Int) (v7 : Int) (d2 : DV) {r : DV} (h : L145_1 K a1 a2 x1 v14 v7 d2 = some r) : hd145_1 K a1 a2 x1 v14 v7 d2 = some r := hd_run (Eq.trans (by kernel_rfl) h)
noncomputable def L145_2 (K : Nat) (a1 : List DV) (a2 : List DV) (v15 : Int) (x1 : DV) (v11 : Int) (d2 : DV) : Option DV :=
  bif decide (v11 < (↑(gL x1 10).length : Int)) then need ((0 : Int) ≤ v11) <|
   ((gL x1 10)[v11.toNat]?).bind fun x18 =>
   need (x18 = .sl .no 12 (getL x18)) <|
   (lm K 145 [.sl .no 12 (getL x18), .sl .no 1 a2]).bind fun d19 =>
   need (d19 = R 90 d19) <|
   bif gI d19 0 != 0 then some (R 90 d19)
   else hd145_2 K a1 a2 v15 x1 (IntKind.i64.wrap (v11 + 1)) d2
  else hd145_0 K a1 a2 (IntKind.i64.wrap (v15 + 1))
theorem l145_2 {K : Nat} (a1 : List DV) (a2 : List DV) (v15 : Int) (x1 : DV) (v11 : Int) (d2 : DV) {r : DV} (h : L145_2 K a1 a2 v15 x1 v11 d2 = some r) : hd145_2 K a1 a2 v15 x1 v11 d2 = some r := hd_run (Eq.trans (by kernel_rfl) h)

/-! 82 82f -/
noncomputable def T82f (K : Nat) (a1 : DV) (a2 : List DV) : Option DV :=
  (lm K 145 [.sl .full 12 [R 56 a1], .sl .no 1 a2]).bind fun d1 =>
  need (d1 = R 90 d1) <|
  some (DV.tup ((R 90 d1).cells))
theorem t82f {K : Nat} (a1 : DV) (a2 : List DV) {r : DV} (h : T82f K a1 a2 = some r) : lm K 82 [.sl .full 12 [R 56 a1], .sl .no 1 a2] = some r := fn_run (Eq.trans (by kernel_rfl) h)

/-! 82 82e -/
noncomputable def T82e (K : Nat) (a2 : List DV) : Option DV :=
  (lm K 145 [.sl .full 12 [], .sl .no 1 a2]).bind fun d1 =>
  need (d1 = R 90 d1) <|
  some (DV.tup ((R 90 d1).cells))
theorem t82e {K : Nat} (a2 : List DV) {r : DV} (h : T82e K a2 = some r) : lm K 82 [.sl .full 12 [], .sl .no 1 a2] = some r := fn_run (Eq.trans (by kernel_rfl) h)

/-! 145 145f -/
noncomputable def H145f_0 (a1 : DV) (a2 : List DV) (v8 : Int) : St := ⟨[.undef] ++ [.sl .no 1 a2] ++ [.undef, .undef] ++ [.ptr 0 0] ++ (un 7) ++ [.sl .full 12 [R 56 a1], .int .i64 ((↑[R 56 a1].length : Int)), .int .i64 v8] ++ (un 41), [.box [.int .i64 0, .int .i64 0]]⟩
def P145f_0 : List Dir := [.c, .r, .l, .r]
noncomputable def hd145f_0 (K : Nat) (a1 : DV) (a2 : List DV) (v8 : Int) : Option DV := hdL Try.prog (C0 K) 145 P145f_0 (bits 56 28690) 1 (H145f_0 a1 a2 v8)
noncomputable def H145f_1 (a1 : DV) (a2 : List DV) (x1 : DV) (v14 : Int) (v7 : Int) (d2 : DV) : St := ⟨[.undef] ++ [.sl .no 1 a2] ++ [.undef, .undef] ++ [.ptr 0 0] ++ [.undef, .undef, .undef] ++ [.sl (.tok 4) 1 (List.take (↑a2.length : Int).toNat a2 ++ [DV.str (gS x1 1)])] ++ [.undef, .undef, .undef] ++ [.sl .full 12 [R 56 a1], .int .i64 ((↑[R 56 a1].length : Int)), .int .i64 v14] ++ (un 25) ++ [.sl .no 1 (gL x1 10), .int .i64 ((↑(gL x1 10).length : Int)), .int .i64 v7] ++ (un 13), [.box [.int .i64 0, .int .i64 0], .box ((R 56 x1).cells), .box ((R 90 d2).cells), .kept, .tok 1 ((List.take (↑a2.length : Int).toNat a2).length + [DV.str (gS x1 1)].length)]⟩
def P145f_1 : List Dir := [.c, .r, .r, .r, .r, .r, .c, .l, .r, .r, .loop (bits 56 28690) 1, .c, .r, .l, .r]
noncomputable def hd145f_1 (K : Nat) (a1 : DV) (a2 : List DV) (x1 : DV) (v14 : Int) (v7 : Int) (d2 : DV) : Option DV := hdL Try.prog (C0 K) 145 P145f_1 (bits 56 7696581423378) 5 (H145f_1 a1 a2 x1 v14 v7 d2)
noncomputable def H145f_2 (a1 : DV) (a2 : List DV) (v15 : Int) (x1 : DV) (v11 : Int) (d2 : DV) : St := ⟨[.undef] ++ [.sl .no 1 a2] ++ [.undef, .undef] ++ [.ptr 0 0] ++ [.undef, .undef, .undef] ++ [.sl .no 1 a2] ++ [.undef, .undef, .undef] ++ [.sl .full 12 [R 56 a1], .int .i64 ((↑[R 56 a1].length : Int)), .int .i64 v15] ++ (un 25) ++ [.sl .no 1 (gL x1 10), .int .i64 ((↑(gL x1 10).length : Int)), .int .i64 v11] ++ (un 13), [.box [.int .i64 0, .int .i64 0], .box ((R 56 x1).cells), .box ((R 90 d2).cells)]⟩
def P145f_2 : List Dir := [.c, .r, .r, .r, .r, .r, .c, .l, .r, .r, .loop (bits 56 28690) 1, .c, .r, .l, .r]
noncomputable def hd145f_2 (K : Nat) (a1 : DV) (a2 : List DV) (v15 : Int) (x1 : DV) (v11 : Int) (d2 : DV) : Option DV := hdL Try.prog (C0 K) 145 P145f_2 (bits 56 7696581423378) 3 (H145f_2 a1 a2 v15 x1 v11 d2)
noncomputable def T145f (K : Nat) (a1 : DV) (a2 : List DV) : Option DV :=
  hd145f_0 K a1 a2 0
theorem t145f {K : Nat} (a1 : DV) (a2 : List DV) {r : DV} (h : T145f K a1 a2 = some r) : lm K 145 [.sl .full 12 [R 56 a1], .sl .no 1 a2] = some r := fn_run (Eq.trans (by kernel_rfl) h)
noncomputable def L145f_0 (K : Nat) (a1 : DV) (a2 : List DV) (v8 : Int) : Option DV :=
  bif decide (v8 < (↑[R 56 a1].length : Int)) then need ((0 : Int) ≤ v8) <|
   ([DV.agg [DV.int IntKind.i64 (gI a1 0), DV.str (gS a1 1), DV.str (gS a1 2), DV.int IntKind.i64 (gI a1 3), DV.int IntKind.i64 (gI a1 4), DV.str (gS a1 5), DV.str (gS a1 6), DV.int IntKind.i64 (gI a1 7), DV.sl Grow.no 6 (gL a1 8), DV.int IntKind.i64 (gI a1 9), DV.sl Grow.no 1 (gL a1 10), DV.int IntKind.i64 (gI a1 11)]][v8.toNat]?).bind fun x20 =>
   need (x20 = R 56 x20) <|
   (lm K 203 [R 56 x20, .sl .no 1 a2]).bind fun d21 =>
   need (d21 = R 90 d21) <|
   bif gI d21 0 != 0 then some (R 90 d21)
   else bif gI x20 0 == 7 then need ((0 : Int) ≤ (↑a2.length : Int) ∧ (↑a2.length : Int) = (↑a2.length : Int) ∧ (↑a2.length : Int).toNat ≤ a2.length) <|
    need (((List.take (↑a2.length : Int).toNat a2).length + [DV.str (gS x20 (1 : Nat))].length) * (16 : Nat) ≤ (140737488355328 : Nat) ∧ (List.take (↑a2.length : Int).toNat a2 = [] ∨ (1 : Nat) = (1 : Nat))) <|
    hd145f_1 K a1 a2 x20 v8 0 d21
   else hd145f_2 K a1 a2 v8 x20 0 d21
  else some (DV.agg [.int .i64 0, .int .i64 0])
theorem l145f_0 {K : Nat} (a1 : DV) (a2 : List DV) (v8 : Int) {r : DV} (h : L145f_0 K a1 a2 v8 = some r) : hd145f_0 K a1 a2 v8 = some r := hd_run (Eq.trans (by kernel_rfl) h)
noncomputable def L145f_1 (K : Nat) (a1 : DV) (a2 : List DV) (x1 : DV) (v14 : Int) (v7 : Int) (d2 : DV) : Option DV :=
  bif decide (v7 < (↑(gL x1 10).length : Int)) then need ((0 : Int) ≤ v7) <|
   ((gL x1 10)[v7.toNat]?).bind fun x16 =>
   need (x16 = .sl .no 12 (getL x16)) <|
   (lm K 145 [.sl .no 12 (getL x16), .sl .no 1 (List.take (↑a2.length : Int).toNat a2 ++ [DV.str (gS x1 1)])]).bind fun d17 =>
   need (d17 = R 90 d17) <|
   bif gI d17 0 != 0 then some (R 90 d17)
   else hd145f_1 K a1 a2 x1 v14 (IntKind.i64.wrap (v7 + 1)) d2
  else hd145f_0 K a1 a2 (IntKind.i64.wrap (v14 + 1))
theorem l145f_1 {K : Nat} (a1 : DV) (a2 : List DV) (x1 : DV) (v14 : Int) (v7 : Int) (d2 : DV) {r : DV} (h : L145f_1 K a1 a2 x1 v14 v7 d2 = some r) : hd145f_1 K a1 a2 x1 v14 v7 d2 = some r := hd_run (Eq.trans (by kernel_rfl) h)
noncomputable def L145f_2 (K : Nat) (a1 : DV) (a2 : List DV) (v15 : Int) (x1 : DV) (v11 : Int) (d2 : DV) : Option DV :=
  bif decide (v11 < (↑(gL x1 10).length : Int)) then need ((0 : Int) ≤ v11) <|
   ((gL x1 10)[v11.toNat]?).bind fun x18 =>
   need (x18 = .sl .no 12 (getL x18)) <|
   (lm K 145 [.sl .no 12 (getL x18), .sl .no 1 a2]).bind fun d19 =>
   need (d19 = R 90 d19) <|
   bif gI d19 0 != 0 then some (R 90 d19)
   else hd145f_2 K a1 a2 v15 x1 (IntKind.i64.wrap (v11 + 1)) d2
  else hd145f_0 K a1 a2 (IntKind.i64.wrap (v15 + 1))
theorem l145f_2 {K : Nat} (a1 : DV) (a2 : List DV) (v15 : Int) (x1 : DV) (v11 : Int) (d2 : DV) {r : DV} (h : L145f_2 K a1 a2 v15 x1 v11 d2 = some r) : hd145f_2 K a1 a2 v15 x1 v11 d2 = some r := hd_run (Eq.trans (by kernel_rfl) h)

/-! 145 145e -/
noncomputable def H145e_0 (a2 : List DV) : St := ⟨[.undef] ++ [.sl .no 1 a2] ++ [.undef, .undef] ++ [.ptr 0 0] ++ (un 7) ++ [.sl (.tok 1) 12 [], .int .i64 0, .int .i64 0] ++ (un 41), [.box [.int .i64 0, .int .i64 0], .tok 0 0]⟩
def P145e_0 : List Dir := [.c, .r, .l, .r]
noncomputable def hd145e_0 (K : Nat) (a2 : List DV) : Option DV := hdL Try.prog (C0 K) 145 P145e_0 (bits 56 28690) 2 (H145e_0 a2)
noncomputable def T145e (K : Nat) (a2 : List DV) : Option DV :=
  hd145e_0 K a2
theorem t145e {K : Nat} (a2 : List DV) {r : DV} (h : T145e K a2 = some r) : lm K 145 [.sl .full 12 [], .sl .no 1 a2] = some r := fn_run (Eq.trans (by kernel_rfl) h)
noncomputable def L145e_0 (K : Nat) (a2 : List DV) : Option DV :=
  some (DV.agg [.int .i64 0, .int .i64 0])
theorem l145e_0 {K : Nat} (a2 : List DV) {r : DV} (h : L145e_0 K a2 = some r) : hd145e_0 K a2 = some r := hd_run (Eq.trans (by kernel_rfl) h)

end Go.Proofs.Ytmfgdnagmacgdaa.Dv
end
