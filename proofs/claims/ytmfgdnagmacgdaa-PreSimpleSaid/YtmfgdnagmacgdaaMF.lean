/- Parts of a proof, put together. No condition. -/
import Derived.Test.YtmfgdnagmacgdaaEe
section
/- Trees of questions of functions of the program (printed by a program of this session, wip/dv/sym.txt). No condition. -/
set_option maxRecDepth 100000
set_option linter.unusedVariables false
namespace Go.Proofs.Ytmfgdnagmacgdaa.Dv
/-! 147 147 -/
noncomputable def T147 (K : Nat) (a1 : ByteArray) : Option DV :=
  bif a1.toList == (ByteArray.mk #[]).toList then some (DV.bool false)
  else bif decide ((↑a1.size : Int) > 32) then some (DV.bool false)
  else need ((0 : Int) ≤ (0 : Int)) <|
  (Option.map (fun b => DV.int IntKind.u8 (↑b.toNat : Int)) a1[Int.toNat 0]?).bind fun x1 =>
  need (x1 = .int .u8 (getI x1)) <|
  (lm K 204 [.int .u8 (getI x1)]).bind fun d2 =>
  need (d2 = .int .i64 (getI d2)) <|
  bif getI d2 != 3 then some (DV.bool false)
  else (lm K 205 [.str a1]).bind fun d3 =>
  need (d3 = .bool (getB d3)) <|
  bif getB d3 then some (DV.bool false)
  else (lm K 206 [.str a1, .int .i64 0, .fn 207 [] []]).bind fun d4 =>
  need (d4 = .int .i64 (getI d4)) <|
  some (DV.bool (getI d4 == (↑a1.size : Int)))
theorem t147 {K : Nat} (a1 : ByteArray) {r : DV} (h : T147 K a1 = some r) : lm K 147 [.str a1] = some r := fn_run (Eq.trans (by kernel_rfl) h)
/-! 204 204 -/
noncomputable def T204 (K : Nat) (a1 : Int) : Option DV :=
  bif a1 == 32 then some (DV.int .i64 1)
  else bif a1 == 9 then some (DV.int .i64 1)
  else bif a1 == 13 then some (DV.int .i64 1)
  else bif a1 == 10 then some (DV.int .i64 1)
  else bif a1 == 35 then some (DV.int .i64 2)
  else bif decide (a1 ≥ 97) then bif decide (a1 ≤ 122) then some (DV.int .i64 3)
   else bif decide (a1 ≥ 65) then bif decide (a1 ≤ 90) then some (DV.int .i64 3)
    else bif decide (a1 ≥ 48) then bif decide (a1 ≤ 57) then some (DV.int .i64 4)
     else (lm K 233 [.str (ByteArray.mk #[123, 125, 40, 41, 59, 58, 61, 60, 62, 43, 45, 42, 33, 46, 38, 124]), .int .u8 a1]).bind fun d1 =>
     need (d1 = .int .i64 (getI d1)) <|
     bif decide (getI d1 ≥ 0) then some (DV.int .i64 5)
     else some (DV.int .i64 0)
    else (lm K 233 [.str (ByteArray.mk #[123, 125, 40, 41, 59, 58, 61, 60, 62, 43, 45, 42, 33, 46, 38, 124]), .int .u8 a1]).bind fun d2 =>
    need (d2 = .int .i64 (getI d2)) <|
    bif decide (getI d2 ≥ 0) then some (DV.int .i64 5)
    else some (DV.int .i64 0)
   else bif decide (a1 ≥ 48) then bif decide (a1 ≤ 57) then some (DV.int .i64 4)
    else (lm K 233 [.str (ByteArray.mk #[123, 125, 40, 41, 59, 58, 61, 60, 62, 43, 45, 42, 33, 46, 38, 124]), .int .u8 a1]).bind fun d3 =>
    need (d3 = .int .i64 (getI d3)) <|
    bif decide (getI d3 ≥ 0) then some (DV.int .i64 5)
    else some (DV.int .i64 0)
   else (lm K 233 [.str (ByteArray.mk #[123, 125, 40, 41, 59, 58, 61, 60, 62, 43, 45, 42, 33, 46, 38, 124]), .int .u8 a1]).bind fun d4 =>
   need (d4 = .int .i64 (getI d4)) <|
   bif decide (getI d4 ≥ 0) then some (DV.int .i64 5)
   else some (DV.int .i64 0)
  else bif decide (a1 ≥ 65) then bif decide (a1 ≤ 90) then some (DV.int .i64 3)
   else bif decide (a1 ≥ 48) then bif decide (a1 ≤ 57) then some (DV.int .i64 4)
    else (lm K 233 [.str (ByteArray.mk #[123, 125, 40, 41, 59, 58, 61, 60, 62, 43, 45, 42, 33, 46, 38, 124]), .int .u8 a1]).bind fun d5 =>
    need (d5 = .int .i64 (getI d5)) <|
    bif decide (getI d5 ≥ 0) then some (DV.int .i64 5)
    else some (DV.int .i64 0)
   else (lm K 233 [.str (ByteArray.mk #[123, 125, 40, 41, 59, 58, 61, 60, 62, 43, 45, 42, 33, 46, 38, 124]), .int .u8 a1]).bind fun d6 =>
   need (d6 = .int .i64 (getI d6)) <|
   bif decide (getI d6 ≥ 0) then some (DV.int .i64 5)
   else some (DV.int .i64 0)
  else bif decide (a1 ≥ 48) then bif decide (a1 ≤ 57) then some (DV.int .i64 4)
   else (lm K 233 [.str (ByteArray.mk #[123, 125, 40, 41, 59, 58, 61, 60, 62, 43, 45, 42, 33, 46, 38, 124]), .int .u8 a1]).bind fun d7 =>
   need (d7 = .int .i64 (getI d7)) <|
   bif decide (getI d7 ≥ 0) then some (DV.int .i64 5)
   else some (DV.int .i64 0)
  else (lm K 233 [.str (ByteArray.mk #[123, 125, 40, 41, 59, 58, 61, 60, 62, 43, 45, 42, 33, 46, 38, 124]), .int .u8 a1]).bind fun d8 =>
  need (d8 = .int .i64 (getI d8)) <|
  bif decide (getI d8 ≥ 0) then some (DV.int .i64 5)
  else some (DV.int .i64 0)
theorem t204 {K : Nat} (a1 : Int) {r : DV} (h : T204 K a1 = some r) : lm K 204 [.int .u8 a1] = some r := fn_run (Eq.trans (by kernel_rfl) h)
/-! 205 205 -/
noncomputable def T205 (K : Nat) (a1 : ByteArray) : Option DV :=
  bif a1.toList == (ByteArray.mk #[109, 111, 110, 105, 116, 111, 114]).toList then some (DV.bool true)
  else bif a1.toList == (ByteArray.mk #[118, 97, 114]).toList then some (DV.bool true)
  else bif a1.toList == (ByteArray.mk #[109, 101, 116, 104, 111, 100]).toList then some (DV.bool true)
  else bif a1.toList == (ByteArray.mk #[116, 104, 114, 101, 97, 100]).toList then some (DV.bool true)
  else bif a1.toList == (ByteArray.mk #[98, 111, 111, 108]).toList then some (DV.bool true)
  else bif a1.toList == (ByteArray.mk #[105, 110, 116]).toList then some (DV.bool true)
  else bif a1.toList == (ByteArray.mk #[116, 114, 117, 101]).toList then some (DV.bool true)
  else bif a1.toList == (ByteArray.mk #[102, 97, 108, 115, 101]).toList then some (DV.bool true)
  else bif a1.toList == (ByteArray.mk #[115, 107, 105, 112]).toList then some (DV.bool true)
  else bif a1.toList == (ByteArray.mk #[105, 102]).toList then some (DV.bool true)
  else bif a1.toList == (ByteArray.mk #[101, 108, 115, 101]).toList then some (DV.bool true)
  else bif a1.toList == (ByteArray.mk #[119, 104, 105, 108, 101]).toList then some (DV.bool true)
  else bif a1.toList == (ByteArray.mk #[108, 111, 111, 112]).toList then some (DV.bool true)
  else bif a1.toList == (ByteArray.mk #[99, 104, 111, 111, 115, 101]).toList then some (DV.bool true)
  else bif a1.toList == (ByteArray.mk #[111, 114]).toList then some (DV.bool true)
  else bif a1.toList == (ByteArray.mk #[115, 121, 110, 99]).toList then some (DV.bool true)
  else bif a1.toList == (ByteArray.mk #[99, 97, 108, 108]).toList then some (DV.bool true)
  else bif a1.toList == (ByteArray.mk #[119, 97, 105, 116]).toList then some (DV.bool true)
  else bif a1.toList == (ByteArray.mk #[110, 111, 116, 105, 102, 121]).toList then some (DV.bool true)
  else bif a1.toList == (ByteArray.mk #[110, 111, 116, 105, 102, 121, 97, 108, 108]).toList then some (DV.bool true)
  else some (DV.bool false)
theorem t205 {K : Nat} (a1 : ByteArray) {r : DV} (h : T205 K a1 = some r) : lm K 205 [.str a1] = some r := fn_run (Eq.trans (by kernel_rfl) h)
/-! 206 206 -/
noncomputable def H206_0 (a1 : ByteArray) (a2 : Int) (v3 : Int) : St := ⟨[.str a1, .int .i64 v3, .fn 207 [] []] ++ (un 18), []⟩
def P206_0 : List Dir := [.c, .l, .r]
noncomputable def hd206_0 (K : Nat) (a1 : ByteArray) (a2 : Int) (v3 : Int) : Option DV := hdL Try.prog (C0 K) 206 P206_0 (bits 21 7) 0 (H206_0 a1 a2 v3)
noncomputable def T206 (K : Nat) (a1 : ByteArray) (a2 : Int) : Option DV :=
  hd206_0 K a1 a2 a2
theorem t206 {K : Nat} (a1 : ByteArray) (a2 : Int) {r : DV} (h : T206 K a1 a2 = some r) : lm K 206 [.str a1, .int .i64 a2, .fn 207 [] []] = some r := fn_run (Eq.trans (by kernel_rfl) h)
noncomputable def L206_0 (K : Nat) (a1 : ByteArray) (a2 : Int) (v3 : Int) : Option DV :=
  bif decide (v3 < (↑a1.size : Int)) then need ((0 : Int) ≤ v3) <|
   (Option.map (fun b => DV.int IntKind.u8 (↑b.toNat : Int)) a1[v3.toNat]?).bind fun x1 =>
   need (x1 = .int .u8 (getI x1)) <|
   (lm K 207 [.int .u8 (getI x1)]).bind fun d2 =>
   need (d2 = .bool (getB d2)) <|
   bif getB d2 then hd206_0 K a1 a2 (IntKind.i64.wrap (v3 + 1))
   else some (DV.int .i64 v3)
  else some (DV.int .i64 v3)
theorem l206_0 {K : Nat} (a1 : ByteArray) (a2 : Int) (v3 : Int) {r : DV} (h : L206_0 K a1 a2 v3 = some r) : hd206_0 K a1 a2 v3 = some r := hd_run (Eq.trans (by kernel_rfl) h)
/-! 207 207 -/
noncomputable def T207 (K : Nat) (a1 : Int) : Option DV :=
  (lm K 204 [.int .u8 a1]).bind fun d1 =>
  need (d1 = .int .i64 (getI d1)) <|
  bif getI d1 == 3 then some (DV.bool true)
  else bif getI d1 == 4 then some (DV.bool true)
  else some (DV.bool (a1 == 95))
theorem t207 {K : Nat} (a1 : Int) {r : DV} (h : T207 K a1 = some r) : lm K 207 [.int .u8 a1] = some r := fn_run (Eq.trans (by kernel_rfl) h)
/-! 88 88 -/
noncomputable def H88_0 (a1 : ByteArray) (v8 : Int) : St := ⟨[.str a1] ++ [.undef, .undef] ++ [.int .i64 v8] ++ (un 41), []⟩
def P88_0 : List Dir := [.c, .r, .l, .r, .r]
noncomputable def hd88_0 (K : Nat) (a1 : ByteArray) (v8 : Int) : Option DV := hdL Try.prog (C0 K) 88 P88_0 (bits 45 9) 0 (H88_0 a1 v8)
noncomputable def T88 (K : Nat) (a1 : ByteArray) : Option DV :=
  bif decide ((↑a1.size : Int) < 1) then some (DV.bool false)
  else bif decide ((↑a1.size : Int) > 32) then some (DV.bool false)
  else need ((0 : Int) ≤ (0 : Int)) <|
  (Option.map (fun b => DV.int IntKind.u8 (↑b.toNat : Int)) a1[Int.toNat 0]?).bind fun x1 =>
  need (x1 = .int .u8 (getI x1)) <|
  (lm K 154 [.int .u8 (getI x1)]).bind fun d2 =>
  need (d2 = .bool (getB d2)) <|
  bif !getB d2 then some (DV.bool false)
  else hd88_0 K a1 0
theorem t88 {K : Nat} (a1 : ByteArray) {r : DV} (h : T88 K a1 = some r) : lm K 88 [.str a1] = some r := fn_run (Eq.trans (by kernel_rfl) h)
noncomputable def L88_0 (K : Nat) (a1 : ByteArray) (v8 : Int) : Option DV :=
  bif decide (v8 < (↑a1.size : Int)) then need ((0 : Int) ≤ v8) <|
   (Option.map (fun b => DV.int IntKind.u8 (↑b.toNat : Int)) a1[v8.toNat]?).bind fun x3 =>
   need (x3 = .int .u8 (getI x3)) <|
   (lm K 154 [.int .u8 (getI x3)]).bind fun d4 =>
   need (d4 = .bool (getB d4)) <|
   bif !getB d4 then need ((0 : Int) ≤ v8) <|
    (Option.map (fun b => DV.int IntKind.u8 (↑b.toNat : Int)) a1[v8.toNat]?).bind fun x5 =>
    need (x5 = .int .u8 (getI x5)) <|
    (lm K 155 [.int .u8 (getI x5)]).bind fun d6 =>
    need (d6 = .bool (getB d6)) <|
    bif !getB d6 then need ((0 : Int) ≤ v8) <|
     (Option.map (fun b => DV.int IntKind.u8 (↑b.toNat : Int)) a1[v8.toNat]?).bind fun x7 =>
     need (x7 = .int .u8 (getI x7)) <|
     bif getI x7 != 95 then some (DV.bool false)
     else hd88_0 K a1 (IntKind.i64.wrap (v8 + 1))
    else hd88_0 K a1 (IntKind.i64.wrap (v8 + 1))
   else hd88_0 K a1 (IntKind.i64.wrap (v8 + 1))
  else (lm K 156 [.str a1]).bind fun d8 =>
  need (d8 = .bool (getB d8)) <|
  some (DV.bool (!getB d8))
theorem l88_0 {K : Nat} (a1 : ByteArray) (v8 : Int) {r : DV} (h : L88_0 K a1 v8 = some r) : hd88_0 K a1 v8 = some r := hd_run (Eq.trans (by kernel_rfl) h)
/-! 154 154 -/
noncomputable def T154 (K : Nat) (a1 : Int) : Option DV :=
  bif decide (a1 ≥ 97) then bif decide (a1 ≤ 122) then some (DV.bool true)
   else bif decide (a1 ≥ 65) then some (DV.bool (decide (a1 ≤ 90)))
   else some (DV.bool false)
  else bif decide (a1 ≥ 65) then some (DV.bool (decide (a1 ≤ 90)))
  else some (DV.bool false)
theorem t154 {K : Nat} (a1 : Int) {r : DV} (h : T154 K a1 = some r) : lm K 154 [.int .u8 a1] = some r := fn_run (Eq.trans (by kernel_rfl) h)
/-! 155 155 -/
noncomputable def T155 (K : Nat) (a1 : Int) : Option DV :=
  bif decide (a1 ≥ 48) then some (DV.bool (decide (a1 ≤ 57)))
  else some (DV.bool false)
theorem t155 {K : Nat} (a1 : Int) {r : DV} (h : T155 K a1 = some r) : lm K 155 [.int .u8 a1] = some r := fn_run (Eq.trans (by kernel_rfl) h)
/-! 156 156 -/
noncomputable def H156_0 (a1 : ByteArray) (d1 : DV) (v3 : Int) : St := ⟨[.str a1] ++ [.undef, .undef] ++ [.sl .no 1 (getL d1), .int .i64 v3] ++ (un 13), []⟩
def P156_0 : List Dir := [.c, .r, .l, .r, .r]
noncomputable def hd156_0 (K : Nat) (a1 : ByteArray) (d1 : DV) (v3 : Int) : Option DV := hdL Try.prog (C0 K) 156 P156_0 (bits 18 25) 0 (H156_0 a1 d1 v3)
noncomputable def T156 (K : Nat) (a1 : ByteArray) : Option DV :=
  (lm K 211 []).bind fun d1 =>
  need (d1 = .sl .no 1 (getL d1)) <|
  hd156_0 K a1 d1 0
theorem t156 {K : Nat} (a1 : ByteArray) {r : DV} (h : T156 K a1 = some r) : lm K 156 [.str a1] = some r := fn_run (Eq.trans (by kernel_rfl) h)
noncomputable def L156_0 (K : Nat) (a1 : ByteArray) (d1 : DV) (v3 : Int) : Option DV :=
  bif decide (v3 < (↑(getL d1).length : Int)) then need ((0 : Int) ≤ v3) <|
   ((getL d1)[v3.toNat]?).bind fun x2 =>
   need (x2 = .str (getS x2)) <|
   bif (getS x2).toList == a1.toList then some (DV.bool true)
   else hd156_0 K a1 d1 (IntKind.i64.wrap (v3 + 1))
  else some (DV.bool false)
theorem l156_0 {K : Nat} (a1 : ByteArray) (d1 : DV) (v3 : Int) {r : DV} (h : L156_0 K a1 d1 v3 = some r) : hd156_0 K a1 d1 v3 = some r := hd_run (Eq.trans (by kernel_rfl) h)
/-! 211 211 -/
noncomputable def T211 (K : Nat) : Option DV :=
  some (DV.sl .no 1 [.str (ByteArray.mk #[109, 111, 110, 105, 116, 111, 114]), .str (ByteArray.mk #[118, 97, 114]), .str (ByteArray.mk #[109, 101, 116, 104, 111, 100]), .str (ByteArray.mk #[116, 104, 114, 101, 97, 100]), .str (ByteArray.mk #[98, 111, 111, 108]), .str (ByteArray.mk #[105, 110, 116]), .str (ByteArray.mk #[116, 114, 117, 101]), .str (ByteArray.mk #[102, 97, 108, 115, 101]), .str (ByteArray.mk #[115, 107, 105, 112]), .str (ByteArray.mk #[105, 102]), .str (ByteArray.mk #[101, 108, 115, 101]), .str (ByteArray.mk #[119, 104, 105, 108, 101]), .str (ByteArray.mk #[108, 111, 111, 112]), .str (ByteArray.mk #[99, 104, 111, 111, 115, 101]), .str (ByteArray.mk #[111, 114]), .str (ByteArray.mk #[115, 121, 110, 99]), .str (ByteArray.mk #[99, 97, 108, 108]), .str (ByteArray.mk #[119, 97, 105, 116]), .str (ByteArray.mk #[110, 111, 116, 105, 102, 121]), .str (ByteArray.mk #[110, 111, 116, 105, 102, 121, 97, 108, 108])])
theorem t211 {K : Nat} {r : DV} (h : T211 K = some r) : lm K 211 [] = some r := fn_run (Eq.trans (by kernel_rfl) h)
end Go.Proofs.Ytmfgdnagmacgdaa.Dv
end
section
/- Trees of questions of functions of the program (printed by a program of this session, wip/dv/sym.txt). No condition. -/
set_option maxRecDepth 100000
set_option linter.unusedVariables false
namespace Go.Proofs.Ytmfgdnagmacgdaa.Dv
/-! 212 212 -/
noncomputable def T212 (K : Nat) (a1 : Int) : Option DV :=
  bif decide (a1 ≥ 1) then bif decide (a1 ≤ 4) then some (DV.int .i64 0)
   else bif decide (a1 ≥ 5) then bif decide (a1 ≤ 7) then some (DV.int .i64 1)
    else bif decide (a1 ≥ 8) then bif decide (a1 ≤ 17) then some (DV.int .i64 2)
     else some (DV.int .i64 (-1))
    else some (DV.int .i64 (-1))
   else bif decide (a1 ≥ 8) then bif decide (a1 ≤ 17) then some (DV.int .i64 2)
    else some (DV.int .i64 (-1))
   else some (DV.int .i64 (-1))
  else bif decide (a1 ≥ 5) then bif decide (a1 ≤ 7) then some (DV.int .i64 1)
   else bif decide (a1 ≥ 8) then bif decide (a1 ≤ 17) then some (DV.int .i64 2)
    else some (DV.int .i64 (-1))
   else some (DV.int .i64 (-1))
  else bif decide (a1 ≥ 8) then bif decide (a1 ≤ 17) then some (DV.int .i64 2)
   else some (DV.int .i64 (-1))
  else some (DV.int .i64 (-1))
theorem t212 {K : Nat} (a1 : Int) {r : DV} (h : T212 K a1 = some r) : lm K 212 [.int .i64 a1] = some r := fn_run (Eq.trans (by kernel_rfl) h)
/-! 158 158 -/
noncomputable def H158_0 (a1 : DV) (v10 : Int) : St := ⟨[.undef] ++ [.ptr 0 0] ++ [.undef] ++ [.int .i64 v10] ++ (un 62), [.box ((R 51 a1).cells)]⟩
def P158_0 : List Dir := [.c, .r, .l, .r, .r, .r]
noncomputable def hd158_0 (K : Nat) (a1 : DV) (v10 : Int) : Option DV := hdL Try.prog (C0 K) 158 P158_0 (bits 66 10) 1 (H158_0 a1 v10)
noncomputable def T158 (K : Nat) (a1 : DV) : Option DV :=
  (lm K 212 [.int .i64 (gI a1 0)]).bind fun d1 =>
  need (d1 = .int .i64 (getI d1)) <|
  bif (↑(gL a1 4).length : Int) != getI d1 then some (DV.bool false)
  else bif decide (gI a1 3 < 0) then some (DV.bool false)
  else bif gI a1 3 != 0 then bif gI a1 0 != 1 then bif gI a1 0 != 7 then some (DV.bool false)
    else bif gI a1 0 == 4 then (lm K 88 [.str (gS a1 1)]).bind fun d2 =>
     need (d2 = .bool (getB d2)) <|
     bif !getB d2 then some (DV.bool false)
     else (lm K 88 [.str (gS a1 2)]).bind fun d3 =>
     need (d3 = .bool (getB d3)) <|
     bif !getB d3 then some (DV.bool false)
     else hd158_0 K a1 0
    else bif !(gS a1 1).toList == (ByteArray.mk #[]).toList then some (DV.bool false)
    else bif !(gS a1 2).toList == (ByteArray.mk #[]).toList then some (DV.bool false)
    else hd158_0 K a1 0
   else bif gI a1 0 == 4 then (lm K 88 [.str (gS a1 1)]).bind fun d4 =>
    need (d4 = .bool (getB d4)) <|
    bif !getB d4 then some (DV.bool false)
    else (lm K 88 [.str (gS a1 2)]).bind fun d5 =>
    need (d5 = .bool (getB d5)) <|
    bif !getB d5 then some (DV.bool false)
    else hd158_0 K a1 0
   else bif !(gS a1 1).toList == (ByteArray.mk #[]).toList then some (DV.bool false)
   else bif !(gS a1 2).toList == (ByteArray.mk #[]).toList then some (DV.bool false)
   else hd158_0 K a1 0
  else bif gI a1 0 == 4 then (lm K 88 [.str (gS a1 1)]).bind fun d6 =>
   need (d6 = .bool (getB d6)) <|
   bif !getB d6 then some (DV.bool false)
   else (lm K 88 [.str (gS a1 2)]).bind fun d7 =>
   need (d7 = .bool (getB d7)) <|
   bif !getB d7 then some (DV.bool false)
   else hd158_0 K a1 0
  else bif !(gS a1 1).toList == (ByteArray.mk #[]).toList then some (DV.bool false)
  else bif !(gS a1 2).toList == (ByteArray.mk #[]).toList then some (DV.bool false)
  else hd158_0 K a1 0
theorem t158 {K : Nat} (a1 : DV) {r : DV} (h : T158 K a1 = some r) : lm K 158 [R 51 a1] = some r := fn_run (Eq.trans (by kernel_rfl) h)
noncomputable def L158_0 (K : Nat) (a1 : DV) (v10 : Int) : Option DV :=
  bif decide (v10 < (↑(gL a1 4).length : Int)) then need ((0 : Int) ≤ v10) <|
   ((gL a1 4)[v10.toNat]?).bind fun x8 =>
   need (x8 = R 51 x8) <|
   (lm K 158 [R 51 x8]).bind fun d9 =>
   need (d9 = .bool (getB d9)) <|
   bif !getB d9 then some (DV.bool false)
   else hd158_0 K a1 (IntKind.i64.wrap (v10 + 1))
  else some (DV.bool true)
theorem l158_0 {K : Nat} (a1 : DV) (v10 : Int) {r : DV} (h : L158_0 K a1 v10 = some r) : hd158_0 K a1 v10 = some r := hd_run (Eq.trans (by kernel_rfl) h)
/-! 157 157 -/
/-! 159 159 -/
/-! 165 165 -/
/-! 235 235 -/
/-! 236 236 -/
/-! 209 209 -/
/-! 234 234 -/
/-! 208 208 -/
/-! 149 149 -/
/-! 210 210 -/
end Go.Proofs.Ytmfgdnagmacgdaa.Dv
end
section
/- Trees of questions of functions of the program (printed by a program of this session, wip/dv/sym.txt). No condition. -/
set_option maxRecDepth 100000
set_option linter.unusedVariables false
namespace Go.Proofs.Ytmfgdnagmacgdaa.Dv
/-! 152 152 -/
/-! 148 148 -/
/-! 151 151 -/
/-! 113 113 -/
/-! 150 150 -/
/-! 167 167 -/
/-! 153 153 -/
/-! 86 86 -/
/-! 87 87 -/
/-! 27 27 -/
end Go.Proofs.Ytmfgdnagmacgdaa.Dv
end
section
/- Trees of questions of functions of the program (printed by a program of this session, wip/dv/sym.txt). No condition. -/
set_option maxRecDepth 100000
set_option linter.unusedVariables false
namespace Go.Proofs.Ytmfgdnagmacgdaa.Dv
/-! 89 89 -/
/-! 40 40 -/
noncomputable def H40_0 (a1 : DV) (a2 : Int) (v3 : Int) (v4 : Int) : St := ⟨[.undef] ++ [.int .i64 v3, .ptr 0 0] ++ [.undef, .undef] ++ [.int .i64 v4] ++ (un 38), [.box ((R 51 a1).cells)]⟩
def P40_0 : List Dir := [.c, .r, .l, .r, .r, .r]
noncomputable def hd40_0 (K : Nat) (a1 : DV) (a2 : Int) (v3 : Int) (v4 : Int) : Option DV := hdL Try.prog (C0 K) 40 P40_0 (bits 44 38) 1 (H40_0 a1 a2 v3 v4)
noncomputable def T40 (K : Nat) (a1 : DV) (a2 : Int) : Option DV :=
  bif decide ((↑(gS a1 1).size : Int) > 200) then some (DV.int .i64 (-1))
  else bif decide ((↑(gS a1 2).size : Int) > 200) then some (DV.int .i64 (-1))
  else bif decide ((↑(gL a1 4).length : Int) > a2) then some (DV.int .i64 (-1))
  else hd40_0 K a1 a2 (IntKind.i64.wrap (a2 - 1)) 0
theorem t40 {K : Nat} (a1 : DV) (a2 : Int) {r : DV} (h : T40 K a1 a2 = some r) : lm K 40 [R 51 a1, .int .i64 a2] = some r := fn_run (Eq.trans (by kernel_rfl) h)
noncomputable def L40_0 (K : Nat) (a1 : DV) (a2 : Int) (v3 : Int) (v4 : Int) : Option DV :=
  bif decide (v4 < (↑(gL a1 4).length : Int)) then bif decide (v3 ≥ 0) then need ((0 : Int) ≤ v4) <|
    ((gL a1 4)[v4.toNat]?).bind fun x1 =>
    need (x1 = R 51 x1) <|
    (lm K 40 [R 51 x1, .int .i64 v3]).bind fun d2 =>
    need (d2 = .int .i64 (getI d2)) <|
    hd40_0 K a1 a2 (getI d2) (IntKind.i64.wrap (v4 + 1))
   else some (DV.int .i64 v3)
  else some (DV.int .i64 v3)
theorem l40_0 {K : Nat} (a1 : DV) (a2 : Int) (v3 : Int) (v4 : Int) {r : DV} (h : L40_0 K a1 a2 v3 v4 = some r) : hd40_0 K a1 a2 v3 v4 = some r := hd_run (Eq.trans (by kernel_rfl) h)
/-! 76 76 -/
noncomputable def H76_0 (a1 : List DV) (a2 : Int) (v11 : Int) (v12 : Int) : St := ⟨[.sl .no 12 a1, .int .i64 v11] ++ [.undef, .undef, .undef] ++ [.int .i64 v12] ++ (un 74), []⟩
def P76_0 : List Dir := [.c, .r, .l, .r, .r]
noncomputable def hd76_0 (K : Nat) (a1 : List DV) (a2 : Int) (v11 : Int) (v12 : Int) : Option DV := hdL Try.prog (C0 K) 76 P76_0 (bits 80 35) 0 (H76_0 a1 a2 v11 v12)
noncomputable def H76_1 (a1 : List DV) (a2 : Int) (d5 : DV) (v6 : Int) (v10 : Int) : St := ⟨[.sl .no 12 a1, .int .i64 (getI d5)] ++ [.undef, .undef, .undef] ++ [.int .i64 v6, .int .i64 v10] ++ (un 73), []⟩
def P76_1 : List Dir := [.c, .r, .r, .r, .c, .l, .r, .loop (bits 80 35) 0, .c, .r, .l, .r, .r]
noncomputable def hd76_1 (K : Nat) (a1 : List DV) (a2 : Int) (d5 : DV) (v6 : Int) (v10 : Int) : Option DV := hdL Try.prog (C0 K) 76 P76_1 (bits 80 99) 0 (H76_1 a1 a2 d5 v6 v10)
noncomputable def T76 (K : Nat) (a1 : List DV) (a2 : Int) : Option DV :=
  bif decide ((↑a1.length : Int) > a2) then some (DV.int .i64 (-1))
  else hd76_0 K a1 a2 a2 0
theorem t76 {K : Nat} (a1 : List DV) (a2 : Int) {r : DV} (h : T76 K a1 a2 = some r) : lm K 76 [.sl .no 12 a1, .int .i64 a2] = some r := fn_run (Eq.trans (by kernel_rfl) h)
noncomputable def L76_0 (K : Nat) (a1 : List DV) (a2 : Int) (v11 : Int) (v12 : Int) : Option DV :=
  bif decide (v12 < (↑a1.length : Int)) then bif decide (v11 ≥ 0) then need ((0 : Int) ≤ v12) <|
    (a1[v12.toNat]?).bind fun x1 =>
    need (x1 = R 56 x1) <|
    bif decide ((↑(gS x1 1).size : Int) > 200) then some (DV.int .i64 (-1))
    else need ((0 : Int) ≤ v12) <|
    (a1[v12.toNat]?).bind fun x2 =>
    need (x2 = R 56 x2) <|
    bif decide ((↑(gS x2 2).size : Int) > 200) then some (DV.int .i64 (-1))
    else need ((0 : Int) ≤ v12) <|
    (a1[v12.toNat]?).bind fun x3 =>
    need (x3 = R 56 x3) <|
    bif decide ((↑(gL x3 10).length : Int) > 40) then some (DV.int .i64 (-1))
    else need ((0 : Int) ≤ v12) <|
    (a1[v12.toNat]?).bind fun x4 =>
    need (x4 = R 56 x4) <|
    (lm K 40 [.agg [.int .i64 (gI x4 4), .str (gS x4 5), .str (gS x4 6), .int .i64 (gI x4 7), .sl .no 6 (gL x4 8), .int .i64 (gI x4 9)], .int .i64 (IntKind.i64.wrap (v11 - 1))]).bind fun d5 =>
    need (d5 = .int .i64 (getI d5)) <|
    hd76_1 K a1 a2 d5 v12 0
   else some (DV.int .i64 v11)
  else some (DV.int .i64 v11)
theorem l76_0 {K : Nat} (a1 : List DV) (a2 : Int) (v11 : Int) (v12 : Int) {r : DV} (h : L76_0 K a1 a2 v11 v12 = some r) : hd76_0 K a1 a2 v11 v12 = some r := hd_run (Eq.trans (by kernel_rfl) h)
noncomputable def L76_1 (K : Nat) (a1 : List DV) (a2 : Int) (d5 : DV) (v6 : Int) (v10 : Int) : Option DV :=
  need ((0 : Int) ≤ v6) <|
  (a1[v6.toNat]?).bind fun x6 =>
  need (x6 = R 56 x6) <|
  bif decide (v10 < (↑(gL x6 10).length : Int)) then bif decide (getI d5 ≥ 0) then need ((0 : Int) ≤ v6) <|
    (a1[v6.toNat]?).bind fun x7 =>
    need (x7 = R 56 x7) <|
    need ((0 : Int) ≤ v10) <|
    ((gL x7 10)[v10.toNat]?).bind fun x8 =>
    need (x8 = .sl .no 12 (getL x8)) <|
    (lm K 76 [.sl .no 12 (getL x8), .int .i64 (IntKind.i64.wrap (getI d5 - 1))]).bind fun d9 =>
    need (d9 = .int .i64 (getI d9)) <|
    hd76_1 K a1 a2 d9 v6 (IntKind.i64.wrap (v10 + 1))
   else hd76_0 K a1 a2 (getI d5) (IntKind.i64.wrap (v6 + 1))
  else hd76_0 K a1 a2 (getI d5) (IntKind.i64.wrap (v6 + 1))
theorem l76_1 {K : Nat} (a1 : List DV) (a2 : Int) (d5 : DV) (v6 : Int) (v10 : Int) {r : DV} (h : L76_1 K a1 a2 d5 v6 v10 = some r) : hd76_1 K a1 a2 d5 v6 v10 = some r := hd_run (Eq.trans (by kernel_rfl) h)
/-! 25 25 -/
noncomputable def H25_0 (a1 : DV) (a2 : Int) (v11 : Int) (v1 : Int) : St := ⟨[.undef, .undef] ++ [.ptr 0 0] ++ [.undef, .undef] ++ [.int .i64 v11, .int .i64 v1] ++ (un 106), [.box ((R 25 a1).cells)]⟩
def P25_0 : List Dir := [.c, .r, .l, .r, .r, .r]
noncomputable def hd25_0 (K : Nat) (a1 : DV) (a2 : Int) (v11 : Int) (v1 : Int) : Option DV := hdL Try.prog (C0 K) 25 P25_0 (bits 113 100) 1 (H25_0 a1 a2 v11 v1)
noncomputable def H25_1 (a1 : DV) (a2 : Int) (v3 : Int) (v2 : Int) (v5 : Int) (x1 : DV) : St := ⟨[.undef, .undef] ++ [.ptr 0 0] ++ [.undef, .undef] ++ [.int .i64 v3, .int .i64 v2, .ptr 1 0, .int .i64 v5] ++ (un 104), [.box ((R 25 a1).cells), .box ((R 45 x1).cells)]⟩
def P25_1 : List Dir := [.c, .r, .l, .r, .r, .c, .l, .r, .loop (bits 113 100) 1, .c, .r, .l, .r, .r, .r]
noncomputable def hd25_1 (K : Nat) (a1 : DV) (a2 : Int) (v3 : Int) (v2 : Int) (v5 : Int) (x1 : DV) : Option DV := hdL Try.prog (C0 K) 25 P25_1 (bits 113 484) 2 (H25_1 a1 a2 v3 v2 v5 x1)
noncomputable def H25_2 (a1 : DV) (a2 : Int) (v7 : Int) (v8 : Int) : St := ⟨[.undef, .undef] ++ [.ptr 0 0] ++ [.undef, .undef] ++ [.int .i64 v7] ++ (un 4) ++ [.int .i64 v8] ++ (un 102), [.box ((R 25 a1).cells)]⟩
def P25_2 : List Dir := [.c, .r, .l, .r, .r, .r, .r]
noncomputable def hd25_2 (K : Nat) (a1 : DV) (a2 : Int) (v7 : Int) (v8 : Int) : Option DV := hdL Try.prog (C0 K) 25 P25_2 (bits 113 1060) 1 (H25_2 a1 a2 v7 v8)
noncomputable def H25_3 (a1 : DV) (a2 : Int) (v9 : Int) (v4 : Int) (v10 : Int) (x1 : DV) : St := ⟨[.undef, .undef] ++ [.ptr 0 0] ++ [.undef, .undef] ++ [.int .i64 v9, .int .i64 v4, .ptr 1 0] ++ [.undef] ++ [.int .i64 v10] ++ (un 103), [.box ((R 25 a1).cells), .box ((R 45 x1).cells)]⟩
def P25_3 : List Dir := [.c, .r, .r, .r, .r, .c, .l, .r, .loop (bits 113 100) 1, .c, .r, .l, .r, .r, .r]
noncomputable def hd25_3 (K : Nat) (a1 : DV) (a2 : Int) (v9 : Int) (v4 : Int) (v10 : Int) (x1 : DV) : Option DV := hdL Try.prog (C0 K) 25 P25_3 (bits 113 740) 2 (H25_3 a1 a2 v9 v4 v10 x1)
noncomputable def T25 (K : Nat) (a1 : DV) (a2 : Int) : Option DV :=
  bif decide ((↑(gL a1 0).length : Int) > 20) then some (DV.bool false)
  else bif decide ((↑(gL a1 1).length : Int) > 20) then some (DV.bool false)
  else hd25_0 K a1 a2 a2 0
theorem t25 {K : Nat} (a1 : DV) (a2 : Int) {r : DV} (h : T25 K a1 a2 = some r) : lm K 25 [R 25 a1, .int .i64 a2] = some r := fn_run (Eq.trans (by kernel_rfl) h)
noncomputable def L25_0 (K : Nat) (a1 : DV) (a2 : Int) (v11 : Int) (v1 : Int) : Option DV :=
  bif decide (v1 < (↑(gL a1 0).length : Int)) then need ((0 : Int) ≤ v1) <|
   ((gL a1 0)[v1.toNat]?).bind fun x1 =>
   need (x1 = R 45 x1) <|
   bif decide ((↑(gL x1 1).length : Int) > 40) then some (DV.bool false)
   else bif decide ((↑(gL x1 2).length : Int) > 40) then some (DV.bool false)
   else bif decide ((↑(gS x1 0).size : Int) > 200) then some (DV.bool false)
   else hd25_1 K a1 a2 v11 v1 0 x1
  else hd25_2 K a1 a2 v11 0
theorem l25_0 {K : Nat} (a1 : DV) (a2 : Int) (v11 : Int) (v1 : Int) {r : DV} (h : L25_0 K a1 a2 v11 v1 = some r) : hd25_0 K a1 a2 v11 v1 = some r := hd_run (Eq.trans (by kernel_rfl) h)
noncomputable def L25_1 (K : Nat) (a1 : DV) (a2 : Int) (v3 : Int) (v2 : Int) (v5 : Int) (x1 : DV) : Option DV :=
  bif decide (v5 < (↑(gL x1 1).length : Int)) then need ((0 : Int) ≤ v5) <|
   ((gL x1 1)[v5.toNat]?).bind fun x2 =>
   need (x2 = R 61 x2) <|
   bif decide ((↑(gS x2 0).size : Int) > 200) then some (DV.bool false)
   else hd25_1 K a1 a2 v3 v2 (IntKind.i64.wrap (v5 + 1)) x1
  else hd25_3 K a1 a2 v3 v2 0 x1
theorem l25_1 {K : Nat} (a1 : DV) (a2 : Int) (v3 : Int) (v2 : Int) (v5 : Int) (x1 : DV) {r : DV} (h : L25_1 K a1 a2 v3 v2 v5 x1 = some r) : hd25_1 K a1 a2 v3 v2 v5 x1 = some r := hd_run (Eq.trans (by kernel_rfl) h)
noncomputable def L25_2 (K : Nat) (a1 : DV) (a2 : Int) (v7 : Int) (v8 : Int) : Option DV :=
  bif decide (v8 < (↑(gL a1 1).length : Int)) then need ((0 : Int) ≤ v8) <|
   ((gL a1 1)[v8.toNat]?).bind fun x3 =>
   need (x3 = R 35 x3) <|
   bif decide ((↑(gS x3 0).size : Int) > 200) then some (DV.bool false)
   else need ((0 : Int) ≤ v8) <|
   ((gL a1 1)[v8.toNat]?).bind fun x4 =>
   need (x4 = R 35 x4) <|
   (lm K 76 [.sl .no 12 (gL x4 3), .int .i64 v7]).bind fun d5 =>
   need (d5 = .int .i64 (getI d5)) <|
   hd25_2 K a1 a2 (getI d5) (IntKind.i64.wrap (v8 + 1))
  else some (DV.bool (decide (v7 ≥ 0)))
theorem l25_2 {K : Nat} (a1 : DV) (a2 : Int) (v7 : Int) (v8 : Int) {r : DV} (h : L25_2 K a1 a2 v7 v8 = some r) : hd25_2 K a1 a2 v7 v8 = some r := hd_run (Eq.trans (by kernel_rfl) h)
noncomputable def L25_3 (K : Nat) (a1 : DV) (a2 : Int) (v9 : Int) (v4 : Int) (v10 : Int) (x1 : DV) : Option DV :=
  bif decide (v10 < (↑(gL x1 2).length : Int)) then need ((0 : Int) ≤ v10) <|
   ((gL x1 2)[v10.toNat]?).bind fun x6 =>
   need (x6 = R 102 x6) <|
   bif decide ((↑(gS x6 0).size : Int) > 200) then some (DV.bool false)
   else need ((0 : Int) ≤ v10) <|
   ((gL x1 2)[v10.toNat]?).bind fun x7 =>
   need (x7 = R 102 x7) <|
   (lm K 76 [.sl .no 12 (gL x7 1), .int .i64 v9]).bind fun d8 =>
   need (d8 = .int .i64 (getI d8)) <|
   hd25_3 K a1 a2 (getI d8) v4 (IntKind.i64.wrap (v10 + 1)) x1
  else hd25_0 K a1 a2 v9 (IntKind.i64.wrap (v4 + 1))
theorem l25_3 {K : Nat} (a1 : DV) (a2 : Int) (v9 : Int) (v4 : Int) (v10 : Int) (x1 : DV) {r : DV} (h : L25_3 K a1 a2 v9 v4 v10 x1 = some r) : hd25_3 K a1 a2 v9 v4 v10 x1 = some r := hd_run (Eq.trans (by kernel_rfl) h)
/-! 28 28 -/
/-! 3 3 -/
end Go.Proofs.Ytmfgdnagmacgdaa.Dv
end
section
/- Trees of questions of functions of the program (printed by a program of this session, wip/dv/sym.txt). No condition. -/
set_option maxRecDepth 100000
set_option linter.unusedVariables false
namespace Go.Proofs.Ytmfgdnagmacgdaa.Dv
/-! 4 4 -/
/-! 33 33 -/
/-! 34 34 -/
/-! 99 99 -/
/-! 166 166 -/
/-! 30 30 -/
/-! 95 95 -/
end Go.Proofs.Ytmfgdnagmacgdaa.Dv
end
section
/- Trees of questions of functions of the program (printed by a program of this session, wip/dv/sym.txt). No condition. -/
set_option maxRecDepth 100000
set_option linter.unusedVariables false
namespace Go.Proofs.Ytmfgdnagmacgdaa.Dv
/-! 108 108 -/
noncomputable def H108_0 (a1 : List DV) (a2 : ByteArray) (v2 : Int) : St := ⟨[.sl .no 4 a1, .fn 109 [] [.ptr 0 0]] ++ (un 5) ++ [.int .i64 ((↑a1.length : Int)), .int .i64 v2] ++ (un 10), [.box [.str a2]]⟩
def P108_0 : List Dir := [.c, .r, .l, .r]
noncomputable def hd108_0 (K : Nat) (a1 : List DV) (a2 : ByteArray) (v2 : Int) : Option DV := hdLH Try.prog (C0 K) 108 1 P108_0 (bits 19 387) 1 (H108_0 a1 a2 v2)
noncomputable def T108 (K : Nat) (a1 : List DV) (a2 : ByteArray) : Option DV :=
  hd108_0 K a1 a2 0
theorem t108 {K : Nat} (a1 : List DV) (a2 : ByteArray) {r : DV} (h : T108 K a1 a2 = some r) : lmH K 108 [.sl .no 4 a1, .fn 109 [] [.ptr 0 0]] [.box [.str a2]] = some r := fnH_run (Eq.trans (by kernel_rfl) h)
noncomputable def L108_0 (K : Nat) (a1 : List DV) (a2 : ByteArray) (v2 : Int) : Option DV :=
  bif decide (v2 < (↑a1.length : Int)) then need ((0 : Int) ≤ v2) <|
   (a1[v2.toNat]?).bind fun x3 =>
   need (x3 = R 45 x3) <|
   bif (gS x3 0).toList == a2.toList then some (DV.tup [.int .i64 v2, .agg [.str a2]])
   else hd108_0 K a1 a2 (IntKind.i64.wrap (v2 + 1))
  else some (DV.tup [.int .i64 (-1), .agg [.str a2]])
theorem l108_0 {K : Nat} (a1 : List DV) (a2 : ByteArray) (v2 : Int) {r : DV} (h : L108_0 K a1 a2 v2 = some r) : hd108_0 K a1 a2 v2 = some r := hdH_run (Eq.trans (by kernel_rfl) h)
/-! 113 113s -/
noncomputable def H113s_0 (a1 : List DV) (a2 : ByteArray) (v2 : Int) : St := ⟨[.sl .no 6 a1, .fn 114 [] [.ptr 0 0]] ++ (un 5) ++ [.int .i64 ((↑a1.length : Int)), .int .i64 v2] ++ (un 10), [.box [.str a2]]⟩
def P113s_0 : List Dir := [.c, .r, .l, .r]
noncomputable def hd113s_0 (K : Nat) (a1 : List DV) (a2 : ByteArray) (v2 : Int) : Option DV := hdLH Try.prog (C0 K) 113 1 P113s_0 (bits 19 387) 1 (H113s_0 a1 a2 v2)
noncomputable def T113s (K : Nat) (a1 : List DV) (a2 : ByteArray) : Option DV :=
  hd113s_0 K a1 a2 0
theorem t113s {K : Nat} (a1 : List DV) (a2 : ByteArray) {r : DV} (h : T113s K a1 a2 = some r) : lmH K 113 [.sl .no 6 a1, .fn 114 [] [.ptr 0 0]] [.box [.str a2]] = some r := fnH_run (Eq.trans (by kernel_rfl) h)
noncomputable def L113s_0 (K : Nat) (a1 : List DV) (a2 : ByteArray) (v2 : Int) : Option DV :=
  bif decide (v2 < (↑a1.length : Int)) then need ((0 : Int) ≤ v2) <|
   (a1[v2.toNat]?).bind fun x3 =>
   need (x3 = R 61 x3) <|
   bif (gS x3 0).toList == a2.toList then some (DV.tup [.int .i64 v2, .agg [.str a2]])
   else hd113s_0 K a1 a2 (IntKind.i64.wrap (v2 + 1))
  else some (DV.tup [.int .i64 (-1), .agg [.str a2]])
theorem l113s_0 {K : Nat} (a1 : List DV) (a2 : ByteArray) (v2 : Int) {r : DV} (h : L113s_0 K a1 a2 v2 = some r) : hd113s_0 K a1 a2 v2 = some r := hdH_run (Eq.trans (by kernel_rfl) h)
/-! 39 39 -/
noncomputable def T39 (K : Nat) (a1 : DV) (a2 : ByteArray) : Option DV :=
  (lmH K 108 [.sl .no 4 (gL a1 0), .fn 109 [] [.ptr 0 0]] [.box [.str a2]]).bind fun d1 =>
  need (d1 = .tup [.int .i64 (getI (getT d1 0)), .agg [.str (gS (getT d1 1) 0)]]) <|
  some (DV.tup [.int .i64 (if 0 > getI (getT d1 0) then 0 else getI (getT d1 0)), .bool (decide (getI (getT d1 0) ≥ 0))])
theorem t39 {K : Nat} (a1 : DV) (a2 : ByteArray) {r : DV} (h : T39 K a1 a2 = some r) : lm K 39 [R 25 a1, .str a2] = some r := fn_run (Eq.trans (by kernel_rfl) h)
/-! 43 43 -/
noncomputable def H43_0 (a1 : DV) (a2 : ByteArray) (a3 : ByteArray) (v5 : Int) (d1 : DV) (v6 : Int) (d3 : DV) : St := ⟨(un 10) ++ [.int .i64 v5] ++ (un 23) ++ [.sl .no 4 (List.take (getI (getT d1 0)).toNat (gL a1 0)), .int .i64 ((↑(List.take (getI (getT d1 0)).toNat (gL a1 0)).length : Int)), .int .i64 v6] ++ (un 10), [.box ((R 25 a1).cells), .box [.str (gS (getT d3 1) 0)]]⟩
def P43_0 : List Dir := [.c, .r, .l, .r, .r, .r, .r, .r]
noncomputable def hd43_0 (K : Nat) (a1 : DV) (a2 : ByteArray) (a3 : ByteArray) (v5 : Int) (d1 : DV) (v6 : Int) (d3 : DV) : Option DV := hdL Try.prog (C0 K) 43 P43_0 (bits 47 120259085312) 2 (H43_0 a1 a2 a3 v5 d1 v6 d3)
noncomputable def T43 (K : Nat) (a1 : DV) (a2 : ByteArray) (a3 : ByteArray) : Option DV :=
  (lm K 39 [R 25 a1, .str a2]).bind fun d7 =>
  need (d7 = .tup [.int .i64 (getI (getT d7 0)), .bool (getB (getT d7 1))]) <|
  bif !getB (getT d7 1) then some (DV.tup [.int .i64 0, .bool false])
  else need ((0 : Int) ≤ getI (getT d7 (0 : Nat))) <|
  ((gL a1 0)[(getI (getT d7 0)).toNat]?).bind fun x8 =>
  need (x8 = R 45 x8) <|
  (lmH K 113 [.sl .no 6 (gL x8 1), .fn 114 [] [.ptr 0 0]] [.box [.str a3]]).bind fun d9 =>
  need (d9 = .tup [.int .i64 (getI (getT d9 0)), .agg [.str (gS (getT d9 1) 0)]]) <|
  bif decide (getI (getT d9 0) < 0) then some (DV.tup [.int .i64 0, .bool false])
  else need ((0 : Int) ≤ getI (getT d7 (0 : Nat)) ∧ (getI (getT d7 (0 : Nat))).toNat ≤ (gL a1 (0 : Nat)).length) <|
  hd43_0 K a1 a2 a3 (getI (getT d9 0)) d7 0 d9
theorem t43 {K : Nat} (a1 : DV) (a2 : ByteArray) (a3 : ByteArray) {r : DV} (h : T43 K a1 a2 a3 = some r) : lm K 43 [R 25 a1, .str a2, .str a3] = some r := fn_run (Eq.trans (by kernel_rfl) h)
noncomputable def L43_0 (K : Nat) (a1 : DV) (a2 : ByteArray) (a3 : ByteArray) (v5 : Int) (d1 : DV) (v6 : Int) (d3 : DV) : Option DV :=
  bif decide (v6 < (↑(List.take (getI (getT d1 0)).toNat (gL a1 0)).length : Int)) then need ((0 : Int) ≤ v6) <|
   ((List.take (getI (getT d1 0)).toNat (gL a1 0))[v6.toNat]?).bind fun x10 =>
   need (x10 = R 45 x10) <|
   hd43_0 K a1 a2 a3 (IntKind.i64.wrap (v5 + (↑(gL x10 1).length : Int))) d1 (IntKind.i64.wrap (v6 + 1)) d3
  else some (DV.tup [.int .i64 v5, .bool true])
theorem l43_0 {K : Nat} (a1 : DV) (a2 : ByteArray) (a3 : ByteArray) (v5 : Int) (d1 : DV) (v6 : Int) (d3 : DV) {r : DV} (h : L43_0 K a1 a2 a3 v5 d1 v6 d3 = some r) : hd43_0 K a1 a2 a3 v5 d1 v6 d3 = some r := hd_run (Eq.trans (by kernel_rfl) h)
/-! 102 102 -/
noncomputable def H102_0 (a1 : DV) (v3 : List DV) (v2 : Int) (z4 : Nat) (v5 : Nat) : St := ⟨[.undef, .undef] ++ [.sl (.tok 1) 6 v3] ++ [.undef, .undef, .undef] ++ [.sl .no 4 (gL a1 0), .int .i64 ((↑(gL a1 0).length : Int)), .int .i64 v2] ++ (un 9), [.box ((R 25 a1).cells), .tok z4 v5]⟩
def P102_0 : List Dir := [.c, .r, .l, .r]
noncomputable def hd102_0 (K : Nat) (a1 : DV) (v3 : List DV) (v2 : Int) (z4 : Nat) (v5 : Nat) : Option DV := hdL Try.prog (C0 K) 102 P102_0 (bits 18 452) 2 (H102_0 a1 v3 v2 z4 v5)
noncomputable def T102 (K : Nat) (a1 : DV) : Option DV :=
  hd102_0 K a1 [] 0 0 0
theorem t102 {K : Nat} (a1 : DV) {r : DV} (h : T102 K a1 = some r) : lm K 102 [R 25 a1] = some r := fn_run (Eq.trans (by kernel_rfl) h)
noncomputable def L102_0 (K : Nat) (a1 : DV) (v3 : List DV) (v2 : Int) (z4 : Nat) (v5 : Nat) : Option DV :=
  bif decide (v2 < (↑(gL a1 0).length : Int)) then need ((0 : Int) ≤ v2) <|
   ((gL a1 0)[v2.toNat]?).bind fun x6 =>
   need (x6 = R 45 x6) <|
   need ((v3.length + (gL x6 (1 : Nat)).length) * (56 : Nat) ≤ (140737488355328 : Nat) ∧ v3.length = v5 ∧ ((6 : Nat) = (6 : Nat) ∧ z4 = (6 : Nat) ∨ v3 = [] ∧ z4 = (0 : Nat))) <|
   bif (gL x6 1).isEmpty then hd102_0 K a1 v3 (IntKind.i64.wrap (v2 + 1)) z4 v5
   else hd102_0 K a1 (v3 ++ gL x6 1) (IntKind.i64.wrap (v2 + 1)) 6 (v3.length + (gL x6 1).length)
  else some (DV.sl .no 6 v3)
theorem l102_0 {K : Nat} (a1 : DV) (v3 : List DV) (v2 : Int) (z4 : Nat) (v5 : Nat) {r : DV} (h : L102_0 K a1 v3 v2 z4 v5 = some r) : hd102_0 K a1 v3 v2 z4 v5 = some r := hd_run (Eq.trans (by kernel_rfl) h)
/-! 56 56 -/
noncomputable def H56_0 (a1 : DV) (v3 : List DV) (v2 : Int) (z4 : Nat) (v5 : Nat) : St := ⟨[.undef] ++ [.ptr 0 0] ++ [.undef] ++ [.sl (.tok 1) 6 v3, .int .i64 v2] ++ (un 16), [.box ((R 25 a1).cells), .tok z4 v5]⟩
def P56_0 : List Dir := [.c, .r, .l, .r, .r]
noncomputable def hd56_0 (K : Nat) (a1 : DV) (v3 : List DV) (v2 : Int) (z4 : Nat) (v5 : Nat) : Option DV := hdL Try.prog (C0 K) 56 P56_0 (bits 21 26) 2 (H56_0 a1 v3 v2 z4 v5)
noncomputable def T56 (K : Nat) (a1 : DV) : Option DV :=
  hd56_0 K a1 [] 0 0 0
theorem t56 {K : Nat} (a1 : DV) {r : DV} (h : T56 K a1 = some r) : lm K 56 [R 25 a1] = some r := fn_run (Eq.trans (by kernel_rfl) h)
noncomputable def L56_0 (K : Nat) (a1 : DV) (v3 : List DV) (v2 : Int) (z4 : Nat) (v5 : Nat) : Option DV :=
  bif decide (v2 < (↑(gL a1 0).length : Int)) then need ((0 : Int) ≤ v2) <|
   ((gL a1 0)[v2.toNat]?).bind fun x6 =>
   need (x6 = R 45 x6) <|
   need ((v3.length + (gL x6 (1 : Nat)).length) * (56 : Nat) ≤ (140737488355328 : Nat) ∧ v3.length = v5 ∧ ((6 : Nat) = (6 : Nat) ∧ z4 = (6 : Nat) ∨ v3 = [] ∧ z4 = (0 : Nat))) <|
   bif (gL x6 1).isEmpty then hd56_0 K a1 v3 (IntKind.i64.wrap (v2 + 1)) z4 v5
   else hd56_0 K a1 (v3 ++ gL x6 1) (IntKind.i64.wrap (v2 + 1)) 6 (v3.length + (gL x6 1).length)
  else some (DV.sl .no 6 v3)
theorem l56_0 {K : Nat} (a1 : DV) (v3 : List DV) (v2 : Int) (z4 : Nat) (v5 : Nat) {r : DV} (h : L56_0 K a1 v3 v2 z4 v5 = some r) : hd56_0 K a1 v3 v2 z4 v5 = some r := hd_run (Eq.trans (by kernel_rfl) h)
/-! 120 120 -/
noncomputable def H120_0 (a1 : DV) (a2 : ByteArray) (a3 : ByteArray) (v15 : Int) (v8 : Int) : St := ⟨[.undef] ++ [.str a2, .str a3, .ptr 0 0] ++ (un 4) ++ [.int .i64 v15, .int .i64 v8] ++ (un 52), [.box ((R 25 a1).cells)]⟩
def P120_0 : List Dir := [.c, .r, .l, .r, .r]
noncomputable def hd120_0 (K : Nat) (a1 : DV) (a2 : ByteArray) (a3 : ByteArray) (v15 : Int) (v8 : Int) : Option DV := hdL Try.prog (C0 K) 120 P120_0 (bits 62 782) 1 (H120_0 a1 a2 a3 v15 v8)
noncomputable def H120_1 (a1 : DV) (a2 : ByteArray) (a3 : ByteArray) (v5 : Int) (v9 : Int) (v6 : Int) : St := ⟨[.undef] ++ [.str a2, .str a3, .ptr 0 0] ++ (un 4) ++ [.int .i64 v5, .int .i64 v9, .int .i64 v6] ++ (un 51), [.box ((R 25 a1).cells)]⟩
def P120_1 : List Dir := [.c, .r, .l, .c, .l, .r, .loop (bits 62 782) 1, .c, .r, .l, .r, .r]
noncomputable def hd120_1 (K : Nat) (a1 : DV) (a2 : ByteArray) (a3 : ByteArray) (v5 : Int) (v9 : Int) (v6 : Int) : Option DV := hdL Try.prog (C0 K) 120 P120_1 (bits 62 1806) 1 (H120_1 a1 a2 a3 v5 v9 v6)
noncomputable def T120 (K : Nat) (a1 : DV) (a2 : ByteArray) (a3 : ByteArray) : Option DV :=
  hd120_0 K a1 a2 a3 0 0
theorem t120 {K : Nat} (a1 : DV) (a2 : ByteArray) (a3 : ByteArray) {r : DV} (h : T120 K a1 a2 a3 = some r) : lm K 120 [R 25 a1, .str a2, .str a3] = some r := fn_run (Eq.trans (by kernel_rfl) h)
noncomputable def L120_0 (K : Nat) (a1 : DV) (a2 : ByteArray) (a3 : ByteArray) (v15 : Int) (v8 : Int) : Option DV :=
  bif decide (v8 < (↑(gL a1 0).length : Int)) then hd120_1 K a1 a2 a3 v15 v8 0
  else some (DV.tup [.int .i64 0, .bool false])
theorem l120_0 {K : Nat} (a1 : DV) (a2 : ByteArray) (a3 : ByteArray) (v15 : Int) (v8 : Int) {r : DV} (h : L120_0 K a1 a2 a3 v15 v8 = some r) : hd120_0 K a1 a2 a3 v15 v8 = some r := hd_run (Eq.trans (by kernel_rfl) h)
noncomputable def L120_1 (K : Nat) (a1 : DV) (a2 : ByteArray) (a3 : ByteArray) (v5 : Int) (v9 : Int) (v6 : Int) : Option DV :=
  need ((0 : Int) ≤ v9) <|
  ((gL a1 0)[v9.toNat]?).bind fun x16 =>
  need (x16 = R 45 x16) <|
  bif decide (v6 < (↑(gL x16 1).length : Int)) then need ((0 : Int) ≤ v9) <|
   ((gL a1 0)[v9.toNat]?).bind fun x17 =>
   need (x17 = R 45 x17) <|
   bif (gS x17 0).toList == a2.toList then need ((0 : Int) ≤ v9) <|
    ((gL a1 0)[v9.toNat]?).bind fun x18 =>
    need (x18 = R 45 x18) <|
    need ((0 : Int) ≤ v6) <|
    ((gL x18 1)[v6.toNat]?).bind fun x19 =>
    need (x19 = R 61 x19) <|
    bif (gS x19 0).toList == a3.toList then some (DV.tup [.int .i64 v5, .bool true])
    else hd120_1 K a1 a2 a3 (IntKind.i64.wrap (v5 + 1)) v9 (IntKind.i64.wrap (v6 + 1))
   else hd120_1 K a1 a2 a3 (IntKind.i64.wrap (v5 + 1)) v9 (IntKind.i64.wrap (v6 + 1))
  else need ((0 : Int) ≤ v9) <|
  ((gL a1 0)[v9.toNat]?).bind fun x20 =>
  need (x20 = R 45 x20) <|
  bif (gS x20 0).toList == a2.toList then some (DV.tup [.int .i64 0, .bool false])
  else hd120_0 K a1 a2 a3 v5 (IntKind.i64.wrap (v9 + 1))
theorem l120_1 {K : Nat} (a1 : DV) (a2 : ByteArray) (a3 : ByteArray) (v5 : Int) (v9 : Int) (v6 : Int) {r : DV} (h : L120_1 K a1 a2 a3 v5 v9 v6 = some r) : hd120_1 K a1 a2 a3 v5 v9 v6 = some r := hd_run (Eq.trans (by kernel_rfl) h)
/-! 118 118 -/
/-! 121 121 -/
noncomputable def T121 (K : Nat) (a1 : DV) (a2 : Int) : Option DV :=
  bif gI a1 1 == 1 then bif a2 == 0 then some (DV.bool true)
   else some (DV.bool (a2 == 1))
  else bif gI a1 1 == 2 then some (DV.bool true)
  else bif gI a1 1 == 3 then bif decide (a2 ≥ gI a1 2) then some (DV.bool (decide (a2 ≤ gI a1 3)))
   else some (DV.bool false)
  else some (DV.bool false)
theorem t121 {K : Nat} (a1 : DV) (a2 : Int) {r : DV} (h : T121 K a1 a2 = some r) : lm K 121 [R 61 a1, .int .i64 a2] = some r := fn_run (Eq.trans (by kernel_rfl) h)
/-! 50 50 -/
/-! 51 51 -/
/-! 52 52 -/
/-! 53 53 -/
/-! 54 54 -/
/-! 9 9 -/
/-! 47 47 -/
noncomputable def T47 (K : Nat) (a1 : Int) : Option DV :=
  some (DV.int .i64 a1)
theorem t47 {K : Nat} (a1 : Int) {r : DV} (h : T47 K a1 = some r) : lm K 47 [.int .i64 a1] = some r := fn_run (Eq.trans (by kernel_rfl) h)
end Go.Proofs.Ytmfgdnagmacgdaa.Dv
end
section
/- Trees of questions of functions of the program (printed by a program of this session, wip/dv/sym.txt). No condition. -/
set_option maxRecDepth 100000
set_option linter.unusedVariables false
namespace Go.Proofs.Ytmfgdnagmacgdaa.Dv
/-! 187 187 -/
noncomputable def T187 (K : Nat) (a1 : Int) : Option DV :=
  need ((0 : Int) ≤ a1 ∧ a1 < (18 : Int)) <|
  bif a1 == 0 then some (DV.agg [.int .i64 0, .int .i64 0])
  else bif a1 == 1 then some (DV.agg [.int .i64 2, .int .i64 0])
  else bif a1 == 2 then some (DV.agg [.int .i64 1, .int .i64 0])
  else bif a1 == 3 then some (DV.agg [.int .i64 1, .int .i64 0])
  else bif a1 == 4 then some (DV.agg [.int .i64 0, .int .i64 0])
  else bif a1 == 5 then some (DV.agg [.int .i64 1, .int .i64 1])
  else bif a1 == 6 then some (DV.agg [.int .i64 2, .int .i64 2])
  else bif a1 == 7 then some (DV.agg [.int .i64 2, .int .i64 2])
  else bif a1 == 8 then some (DV.agg [.int .i64 2, .int .i64 2])
  else bif a1 == 9 then some (DV.agg [.int .i64 2, .int .i64 2])
  else bif a1 == 10 then some (DV.agg [.int .i64 1, .int .i64 0])
  else bif a1 == 11 then some (DV.agg [.int .i64 1, .int .i64 0])
  else bif a1 == 12 then some (DV.agg [.int .i64 1, .int .i64 2])
  else bif a1 == 13 then some (DV.agg [.int .i64 1, .int .i64 2])
  else bif a1 == 14 then some (DV.agg [.int .i64 1, .int .i64 2])
  else bif a1 == 15 then some (DV.agg [.int .i64 1, .int .i64 2])
  else bif a1 == 16 then some (DV.agg [.int .i64 1, .int .i64 1])
  else bif a1 == 17 then some (DV.agg [.int .i64 1, .int .i64 1])
  else none
theorem t187 {K : Nat} (a1 : Int) {r : DV} (h : T187 K a1 = some r) : lm K 187 [.int .i64 a1] = some r := fn_run (Eq.trans (by kernel_rfl) h)
/-! 123 123 -/
noncomputable def H123_0 (a5 : DV) (a1 : DV) (a2 : List DV) (a3 : Int) (a4 : Int) (v7 : Int) (v8 : List DV) (v9 : List DV) (v10 : List DV) (v11 : Int) (v12 : Int) (d3 : DV) (v13 : List DV) : St := ⟨[.ptr 0 0] ++ [.undef, .undef] ++ [.ptr 1 0] ++ [.undef, .undef, .undef] ++ [.ptr 2 0, .osl 3 1 ((↑(gL a5 4).length : Int).toNat)] ++ (un 31) ++ [.sl .no 6 (gL a5 4), .int .i64 ((↑(gL a5 4).length : Int)), .int .i64 v7] ++ (un 38), [.box [.sl .no 4 v8, .sl .no 5 v9, .sl .no 6 v10, .int .i64 v11, .int .i64 v12], .box ((R 51 a5).cells), .box ((R 90 d3).cells), .arr 1 v13]⟩
def P123_0 : List Dir := [.c, .r, .l, .r, .r, .r, .r]
noncomputable def hd123_0 (K : Nat) (a5 : DV) (a1 : DV) (a2 : List DV) (a3 : Int) (a4 : Int) (v7 : Int) (v8 : List DV) (v9 : List DV) (v10 : List DV) (v11 : Int) (v12 : Int) (d3 : DV) (v13 : List DV) : Option DV := hdLH Try.prog (C0 K) 123 1 P123_0 (bits 81 7696581394825) 4 (H123_0 a5 a1 a2 a3 a4 v7 v8 v9 v10 v11 v12 d3 v13)
noncomputable def H123_1 (a5 : DV) (a1 : DV) (a2 : List DV) (a3 : Int) (a4 : Int) (v28 : Int) (v20 : List DV) (v21 : List DV) (v22 : List DV) (v23 : Int) (v24 : Int) (d3 : DV) (v29 : Int) (v25 : List DV) : St := ⟨[.ptr 0 0] ++ [.undef, .undef] ++ [.ptr 1 0] ++ [.undef, .undef, .undef] ++ [.ptr 2 0] ++ (un 46) ++ [.osl 3 1 ((↑(gL a5 4).length : Int).toNat), .int .i64 ((↑(↑(gL a5 4).length : Int).toNat : Int)), .int .i64 v28] ++ (un 24), [.box [.sl .no 4 v20, .sl .no 5 v21, .sl .no 6 v22, .int .i64 v23, .int .i64 v24], .box ((R 51 a5).cells), .box [.int .i64 (gI d3 0), .int .i64 v29], .arr 1 v25]⟩
def P123_1 : List Dir := [.c, .r, .l, .r, .r, .r, .r, .r]
noncomputable def hd123_1 (K : Nat) (a5 : DV) (a1 : DV) (a2 : List DV) (a3 : Int) (a4 : Int) (v28 : Int) (v20 : List DV) (v21 : List DV) (v22 : List DV) (v23 : Int) (v24 : Int) (d3 : DV) (v29 : Int) (v25 : List DV) : Option DV := hdLH Try.prog (C0 K) 123 1 P123_1 (bits 81 126100789566374025) 4 (H123_1 a5 a1 a2 a3 a4 v28 v20 v21 v22 v23 v24 d3 v29 v25)
noncomputable def T123 (K : Nat) (a5 : DV) (a1 : DV) (a2 : List DV) (a3 : Int) (a4 : Int) : Option DV :=
  bif gI a5 0 == 4 then (lm K 43 [R 25 a1, .str (gS a5 1), .str (gS a5 2)]).bind fun d14 =>
   need (d14 = .tup [.int .i64 (getI (getT d14 0)), .bool (getB (getT d14 1))]) <|
   bif !getB (getT d14 1) then bif a3 == 0 then some (DV.tup [.int .i64 0, .agg [.sl .no 4 (gL a1 0), .sl .no 5 (gL a1 1), .sl .no 6 a2, .int .i64 61, .int .i64 (gI a5 5)]])
    else some (DV.tup [.int .i64 0, .agg [.sl .no 4 (gL a1 0), .sl .no 5 (gL a1 1), .sl .no 6 a2, .int .i64 a3, .int .i64 a4]])
   else need ((0 : Int) ≤ getI (getT d14 (0 : Nat))) <|
   (a2[(getI (getT d14 0)).toNat]?).bind fun x15 =>
   need (x15 = R 61 x15) <|
   bif gI x15 1 == 1 then some (DV.tup [.int .i64 1, .agg [.sl .no 4 (gL a1 0), .sl .no 5 (gL a1 1), .sl .no 6 a2, .int .i64 a3, .int .i64 a4]])
   else some (DV.tup [.int .i64 2, .agg [.sl .no 4 (gL a1 0), .sl .no 5 (gL a1 1), .sl .no 6 a2, .int .i64 a3, .int .i64 a4]])
  else (lm K 187 [.int .i64 (gI a5 0)]).bind fun d16 =>
  need (d16 = R 90 d16) <|
  need ((↑(gL a5 (4 : Nat)).length : Int) = (↑(gL a5 (4 : Nat)).length : Int) ∧ (0 : Int) ≤ (↑(gL a5 (4 : Nat)).length : Int) ∧ (8 : Int) * (↑(gL a5 (4 : Nat)).length : Int) ≤ (1099511627776 : Int) ∧ (↑(gL a5 (4 : Nat)).length : Int) ≤ (1099511627776 : Int)) <|
  hd123_0 K a5 a1 a2 a3 a4 0 (gL a1 0) (gL a1 1) a2 a3 a4 d16 (List.replicate (↑(gL a5 4).length : Int).toNat (ofVal (Value.int IntKind.i64 0)))
theorem t123 {K : Nat} (a5 : DV) (a1 : DV) (a2 : List DV) (a3 : Int) (a4 : Int) {r : DV} (h : T123 K a5 a1 a2 a3 a4 = some r) : lmH K 123 [.ptr 0 0, R 51 a5] [.box [.sl .no 4 (gL a1 0), .sl .no 5 (gL a1 1), .sl .no 6 a2, .int .i64 a3, .int .i64 a4]] = some r := fnH_run (Eq.trans (by kernel_rfl) h)
noncomputable def L123_0 (K : Nat) (a5 : DV) (a1 : DV) (a2 : List DV) (a3 : Int) (a4 : Int) (v7 : Int) (v8 : List DV) (v9 : List DV) (v10 : List DV) (v11 : Int) (v12 : Int) (d3 : DV) (v13 : List DV) : Option DV :=
  bif decide (v7 < (↑(gL a5 4).length : Int)) then need ((0 : Int) ≤ v7) <|
   ((gL a5 4)[v7.toNat]?).bind fun x31 =>
   need (x31 = R 51 x31) <|
   (lmH K 123 [.ptr 0 0, R 51 x31] [.box [.sl .no 4 v8, .sl .no 5 v9, .sl .no 6 v10, .int .i64 v11, .int .i64 v12]]).bind fun d32 =>
   need (d32 = .tup [.int .i64 (getI (getT d32 0)), .agg [.sl .no 4 (gL (getT d32 1) 0), .sl .no 5 (gL (getT d32 1) 1), .sl .no 6 (gL (getT d32 1) 2), .int .i64 (gI (getT d32 1) 3), .int .i64 (gI (getT d32 1) 4)]]) <|
   need ((0 : Int) ≤ v7 ∧ v7 < (↑(↑(gL a5 (4 : Nat)).length : Int).toNat : Int)) <|
   (v13[v7.toNat]?).bind fun x33 =>
   need ((1 : Nat) ≤ x33.cells.length) <|
   hd123_0 K a5 a1 a2 a3 a4 (IntKind.i64.wrap (v7 + 1)) (gL (getT d32 1) 0) (gL (getT d32 1) 1) (gL (getT d32 1) 2) (gI (getT d32 1) 3) (gI (getT d32 1) 4) d3 (v13.set v7.toNat (DV.int IntKind.i64 (getI (getT d32 0))))
  else hd123_1 K a5 a1 a2 a3 a4 0 v8 v9 v10 v11 v12 d3 (gI d3 1) v13
theorem l123_0 {K : Nat} (a5 : DV) (a1 : DV) (a2 : List DV) (a3 : Int) (a4 : Int) (v7 : Int) (v8 : List DV) (v9 : List DV) (v10 : List DV) (v11 : Int) (v12 : Int) (d3 : DV) (v13 : List DV) {r : DV} (h : L123_0 K a5 a1 a2 a3 a4 v7 v8 v9 v10 v11 v12 d3 v13 = some r) : hd123_0 K a5 a1 a2 a3 a4 v7 v8 v9 v10 v11 v12 d3 v13 = some r := hdH_run (Eq.trans (by kernel_rfl) h)
noncomputable def L123_1 (K : Nat) (a5 : DV) (a1 : DV) (a2 : List DV) (a3 : Int) (a4 : Int) (v28 : Int) (v20 : List DV) (v21 : List DV) (v22 : List DV) (v23 : Int) (v24 : Int) (d3 : DV) (v29 : Int) (v25 : List DV) : Option DV :=
  bif decide (v28 < (↑(↑(gL a5 4).length : Int).toNat : Int)) then need ((0 : Int) ≤ v28 ∧ v28 < (↑(↑(gL a5 (4 : Nat)).length : Int).toNat : Int)) <|
   (v25[v28.toNat]?).bind fun x34 =>
   need (x34 = .int .i64 (getI x34)) <|
   bif v29 == 0 then bif getI x34 != getI x34 then need ((0 : Int) ≤ v28) <|
     ((gL a5 4)[v28.toNat]?).bind fun x35 =>
     need (x35 = R 51 x35) <|
     bif v23 == 0 then hd123_1 K a5 a1 a2 a3 a4 (IntKind.i64.wrap (v28 + 1)) v20 v21 v22 70 (gI x35 5) d3 (getI x34) v25
     else hd123_1 K a5 a1 a2 a3 a4 (IntKind.i64.wrap (v28 + 1)) v20 v21 v22 v23 v24 d3 (getI x34) v25
    else hd123_1 K a5 a1 a2 a3 a4 (IntKind.i64.wrap (v28 + 1)) v20 v21 v22 v23 v24 d3 (getI x34) v25
   else bif getI x34 != v29 then need ((0 : Int) ≤ v28) <|
    ((gL a5 4)[v28.toNat]?).bind fun x36 =>
    need (x36 = R 51 x36) <|
    bif v23 == 0 then hd123_1 K a5 a1 a2 a3 a4 (IntKind.i64.wrap (v28 + 1)) v20 v21 v22 70 (gI x36 5) d3 v29 v25
    else hd123_1 K a5 a1 a2 a3 a4 (IntKind.i64.wrap (v28 + 1)) v20 v21 v22 v23 v24 d3 v29 v25
   else hd123_1 K a5 a1 a2 a3 a4 (IntKind.i64.wrap (v28 + 1)) v20 v21 v22 v23 v24 d3 v29 v25
  else some (DV.tup [.int .i64 (gI d3 0), .agg [.sl .no 4 v20, .sl .no 5 v21, .sl .no 6 v22, .int .i64 v23, .int .i64 v24]])
theorem l123_1 {K : Nat} (a5 : DV) (a1 : DV) (a2 : List DV) (a3 : Int) (a4 : Int) (v28 : Int) (v20 : List DV) (v21 : List DV) (v22 : List DV) (v23 : Int) (v24 : Int) (d3 : DV) (v29 : Int) (v25 : List DV) {r : DV} (h : L123_1 K a5 a1 a2 a3 a4 v28 v20 v21 v22 v23 v24 d3 v29 v25 = some r) : hd123_1 K a5 a1 a2 a3 a4 v28 v20 v21 v22 v23 v24 d3 v29 v25 = some r := hdH_run (Eq.trans (by kernel_rfl) h)
/-! 55 55 -/
noncomputable def T55 (K : Nat) (a1 : DV) (a2 : DV) : Option DV :=
  (lm K 41 [R 51 a2]).bind fun d1 =>
  need (d1 = .int .i64 (getI d1)) <|
  bif getI d1 != 0 then some (DV.tup [.int .i64 0, .int .i64 (getI d1), .int .i64 0])
  else (lm K 102 [R 25 a1]).bind fun d2 =>
  need (d2 = .sl .no 6 (getL d2)) <|
  (lmH K 123 [.ptr 0 0, R 51 a2] [.box [.sl .no 4 (gL a1 0), .sl .no 5 (gL a1 1), .sl .no 6 (getL d2), .int .i64 0, .int .i64 0]]).bind fun d3 =>
  need (d3 = .tup [.int .i64 (getI (getT d3 0)), .agg [.sl .no 4 (gL (getT d3 1) 0), .sl .no 5 (gL (getT d3 1) 1), .sl .no 6 (gL (getT d3 1) 2), .int .i64 (gI (getT d3 1) 3), .int .i64 (gI (getT d3 1) 4)]]) <|
  bif gI (getT d3 1) 3 != 0 then some (DV.tup [.int .i64 0, .int .i64 (gI (getT d3 1) 3), .int .i64 (gI (getT d3 1) 4)])
  else some (DV.tup [.int .i64 (getI (getT d3 0)), .int .i64 0, .int .i64 0])
theorem t55 {K : Nat} (a1 : DV) (a2 : DV) {r : DV} (h : T55 K a1 a2 = some r) : lm K 55 [R 25 a1, R 51 a2] = some r := fn_run (Eq.trans (by kernel_rfl) h)
/-! 194 194 -/
noncomputable def T194 (K : Nat) (a1 : Int) : Option DV :=
  bif a1 == -9223372036854775808 then some (DV.tup [.int .i64 0, .bool false])
  else some (DV.tup [.int .i64 (IntKind.i64.wrap (0 - a1)), .bool true])
theorem t194 {K : Nat} (a1 : Int) {r : DV} (h : T194 K a1 = some r) : lm K 194 [.int .i64 a1] = some r := fn_run (Eq.trans (by kernel_rfl) h)
/-! 195 195 -/
noncomputable def T195 (K : Nat) (a1 : Int) (a2 : Int) : Option DV :=
  (lm K 224 [.int .i64 a1]).bind fun d1 =>
  need (d1 = .int .u64 (getI d1)) <|
  (lm K 224 [.int .i64 a2]).bind fun d2 =>
  need (d2 = .int .u64 (getI d2)) <|
  (lm K 223 [.int .u64 (getI d1), .int .u64 (getI d2)]).bind fun d3 =>
  need (d3 = .tup [.int .u64 (getI (getT d3 0)), .int .u64 (getI (getT d3 1))]) <|
  bif getI (getT d3 0) != 0 then some (DV.tup [.int .i64 0, .bool false])
  else bif decide (getI (getT d3 1) > 9223372036854775808) then some (DV.tup [.int .i64 0, .bool false])
  else bif getI (getT d3 1) == 9223372036854775808 then bif !!decide (a1 < 0) == decide (a2 < 0) then some (DV.tup [.int .i64 0, .bool false])
   else bif !decide (a1 < 0) == decide (a2 < 0) then some (DV.tup [.int .i64 (IntKind.i64.wrap (IntKind.u64.wrap (0 - getI (getT d3 1)))), .bool true])
   else some (DV.tup [.int .i64 (IntKind.i64.wrap (getI (getT d3 1))), .bool true])
  else bif !decide (a1 < 0) == decide (a2 < 0) then some (DV.tup [.int .i64 (IntKind.i64.wrap (IntKind.u64.wrap (0 - getI (getT d3 1)))), .bool true])
  else some (DV.tup [.int .i64 (IntKind.i64.wrap (getI (getT d3 1))), .bool true])
theorem t195 {K : Nat} (a1 : Int) (a2 : Int) {r : DV} (h : T195 K a1 a2 = some r) : lm K 195 [.int .i64 a1, .int .i64 a2] = some r := fn_run (Eq.trans (by kernel_rfl) h)
/-! 196 196 -/
noncomputable def T196 (K : Nat) (a1 : Int) (a2 : Int) : Option DV :=
  bif decide (IntKind.i64.wrap (↑(BitVec.ofInt IntKind.i64.bits (IntKind.i64.wrap (↑(BitVec.ofInt IntKind.i64.bits a1 ^^^ BitVec.ofInt IntKind.i64.bits (IntKind.i64.wrap (a1 + a2))).toNat : Int)) &&& BitVec.ofInt IntKind.i64.bits (IntKind.i64.wrap (↑(BitVec.ofInt IntKind.i64.bits a2 ^^^ BitVec.ofInt IntKind.i64.bits (IntKind.i64.wrap (a1 + a2))).toNat : Int))).toNat : Int) < 0) then some (DV.tup [.int .i64 0, .bool false])
  else some (DV.tup [.int .i64 (IntKind.i64.wrap (a1 + a2)), .bool true])
theorem t196 {K : Nat} (a1 : Int) (a2 : Int) {r : DV} (h : T196 K a1 a2 = some r) : lm K 196 [.int .i64 a1, .int .i64 a2] = some r := fn_run (Eq.trans (by kernel_rfl) h)
/-! 197 197 -/
noncomputable def T197 (K : Nat) (a1 : Int) (a2 : Int) : Option DV :=
  bif decide (IntKind.i64.wrap (↑(BitVec.ofInt IntKind.i64.bits (IntKind.i64.wrap (↑(BitVec.ofInt IntKind.i64.bits a1 ^^^ BitVec.ofInt IntKind.i64.bits a2).toNat : Int)) &&& BitVec.ofInt IntKind.i64.bits (IntKind.i64.wrap (↑(BitVec.ofInt IntKind.i64.bits a1 ^^^ BitVec.ofInt IntKind.i64.bits (IntKind.i64.wrap (a1 - a2))).toNat : Int))).toNat : Int) < 0) then some (DV.tup [.int .i64 0, .bool false])
  else some (DV.tup [.int .i64 (IntKind.i64.wrap (a1 - a2)), .bool true])
theorem t197 {K : Nat} (a1 : Int) (a2 : Int) {r : DV} (h : T197 K a1 a2 = some r) : lm K 197 [.int .i64 a1, .int .i64 a2] = some r := fn_run (Eq.trans (by kernel_rfl) h)
/-! 223 223 -/
noncomputable def T223 (K : Nat) (a1 : Int) (a2 : Int) : Option DV :=
  some (DV.tup [.int .u64 (IntKind.u64.wrap (IntKind.u64.wrap (IntKind.u64.wrap (a1.fdiv (2 ^ min (Int.toNat 32) IntKind.u64.bits) * a2.fdiv (2 ^ min (Int.toNat 32) IntKind.u64.bits)) + (IntKind.u64.wrap (IntKind.u64.wrap (a1.fdiv (2 ^ min (Int.toNat 32) IntKind.u64.bits) * IntKind.u64.wrap (↑(BitVec.ofInt IntKind.u64.bits a2 &&& BitVec.ofInt IntKind.u64.bits 4294967295).toNat : Int)) + (IntKind.u64.wrap (IntKind.u64.wrap (↑(BitVec.ofInt IntKind.u64.bits a1 &&& BitVec.ofInt IntKind.u64.bits 4294967295).toNat : Int) * IntKind.u64.wrap (↑(BitVec.ofInt IntKind.u64.bits a2 &&& BitVec.ofInt IntKind.u64.bits 4294967295).toNat : Int))).fdiv (2 ^ min (Int.toNat 32) IntKind.u64.bits))).fdiv (2 ^ min (Int.toNat 32) IntKind.u64.bits)) + (IntKind.u64.wrap (IntKind.u64.wrap (↑(BitVec.ofInt IntKind.u64.bits (IntKind.u64.wrap (IntKind.u64.wrap (a1.fdiv (2 ^ min (Int.toNat 32) IntKind.u64.bits) * IntKind.u64.wrap (↑(BitVec.ofInt IntKind.u64.bits a2 &&& BitVec.ofInt IntKind.u64.bits 4294967295).toNat : Int)) + (IntKind.u64.wrap (IntKind.u64.wrap (↑(BitVec.ofInt IntKind.u64.bits a1 &&& BitVec.ofInt IntKind.u64.bits 4294967295).toNat : Int) * IntKind.u64.wrap (↑(BitVec.ofInt IntKind.u64.bits a2 &&& BitVec.ofInt IntKind.u64.bits 4294967295).toNat : Int))).fdiv (2 ^ min (Int.toNat 32) IntKind.u64.bits))) &&& BitVec.ofInt IntKind.u64.bits 4294967295).toNat : Int) + IntKind.u64.wrap (IntKind.u64.wrap (↑(BitVec.ofInt IntKind.u64.bits a1 &&& BitVec.ofInt IntKind.u64.bits 4294967295).toNat : Int) * a2.fdiv (2 ^ min (Int.toNat 32) IntKind.u64.bits)))).fdiv (2 ^ min (Int.toNat 32) IntKind.u64.bits))), .int .u64 (IntKind.u64.wrap (a1 * a2))])
theorem t223 {K : Nat} (a1 : Int) (a2 : Int) {r : DV} (h : T223 K a1 a2 = some r) : lm K 223 [.int .u64 a1, .int .u64 a2] = some r := fn_run (Eq.trans (by kernel_rfl) h)
/-! 224 224 -/
noncomputable def T224 (K : Nat) (a1 : Int) : Option DV :=
  bif decide (a1 < 0) then some (DV.int .u64 (IntKind.u64.wrap (0 - IntKind.u64.wrap a1)))
  else some (DV.int .u64 (IntKind.u64.wrap a1))
theorem t224 {K : Nat} (a1 : Int) {r : DV} (h : T224 K a1 = some r) : lm K 224 [.int .i64 a1] = some r := fn_run (Eq.trans (by kernel_rfl) h)
/-! 214 214 -/
noncomputable def T214 (K : Nat) (a1 : Bool) : Option DV :=
  bif a1 then some (DV.int .i64 1)
  else some (DV.int .i64 0)
theorem t214 {K : Nat} (a1 : Bool) {r : DV} (h : T214 K a1 = some r) : lm K 214 [.bool a1] = some r := fn_run (Eq.trans (by kernel_rfl) h)
/-! 217 217 -/
noncomputable def T217 (K : Nat) (a1 : Int) (a2 : Int) (a3 : Int) : Option DV :=
  bif a1 == 8 then (lm K 196 [.int .i64 a2, .int .i64 a3]).bind fun d1 =>
   need (d1 = .tup [.int .i64 (getI (getT d1 0)), .bool (getB (getT d1 1))]) <|
   some (DV.tup [.int .i64 (getI (getT d1 0)), .bool (getB (getT d1 1))])
  else bif a1 == 9 then (lm K 197 [.int .i64 a2, .int .i64 a3]).bind fun d2 =>
   need (d2 = .tup [.int .i64 (getI (getT d2 0)), .bool (getB (getT d2 1))]) <|
   some (DV.tup [.int .i64 (getI (getT d2 0)), .bool (getB (getT d2 1))])
  else bif a1 == 10 then (lm K 214 [.bool (a2 == a3)]).bind fun d3 =>
   need (d3 = .int .i64 (getI d3)) <|
   some (DV.tup [.int .i64 (getI d3), .bool true])
  else bif a1 == 11 then (lm K 214 [.bool (a2 != a3)]).bind fun d4 =>
   need (d4 = .int .i64 (getI d4)) <|
   some (DV.tup [.int .i64 (getI d4), .bool true])
  else bif a1 == 12 then (lm K 214 [.bool (decide (a2 < a3))]).bind fun d5 =>
   need (d5 = .int .i64 (getI d5)) <|
   some (DV.tup [.int .i64 (getI d5), .bool true])
  else bif a1 == 13 then (lm K 214 [.bool (decide (a2 ≤ a3))]).bind fun d6 =>
   need (d6 = .int .i64 (getI d6)) <|
   some (DV.tup [.int .i64 (getI d6), .bool true])
  else bif a1 == 14 then (lm K 214 [.bool (decide (a2 > a3))]).bind fun d7 =>
   need (d7 = .int .i64 (getI d7)) <|
   some (DV.tup [.int .i64 (getI d7), .bool true])
  else (lm K 214 [.bool (decide (a2 ≥ a3))]).bind fun d8 =>
  need (d8 = .int .i64 (getI d8)) <|
  some (DV.tup [.int .i64 (getI d8), .bool true])
theorem t217 {K : Nat} (a1 : Int) (a2 : Int) (a3 : Int) {r : DV} (h : T217 K a1 a2 a3 = some r) : lm K 217 [.int .i64 a1, .int .i64 a2, .int .i64 a3] = some r := fn_run (Eq.trans (by kernel_rfl) h)
/-! 115 115 -/
noncomputable def T115 (K : Nat) (a4 : DV) (a1 : DV) (a2 : List DV) (a3 : Bool) : Option DV :=
  bif gI a4 0 == 1 then some (DV.tup [.int .i64 (gI a4 3), .agg [.sl .no 4 (gL a1 0), .sl .no 5 (gL a1 1), .sl .no 1 a2, .bool a3]])
  else bif gI a4 0 == 2 then some (DV.tup [.int .i64 1, .agg [.sl .no 4 (gL a1 0), .sl .no 5 (gL a1 1), .sl .no 1 a2, .bool a3]])
  else bif gI a4 0 == 3 then some (DV.tup [.int .i64 0, .agg [.sl .no 4 (gL a1 0), .sl .no 5 (gL a1 1), .sl .no 1 a2, .bool a3]])
  else bif gI a4 0 == 4 then (lm K 43 [R 25 a1, .str (gS a4 1), .str (gS a4 2)]).bind fun d1 =>
   need (d1 = .tup [.int .i64 (getI (getT d1 0)), .bool (getB (getT d1 1))]) <|
   need ((0 : Int) ≤ getI (getT d1 (0 : Nat))) <|
   (a2[(getI (getT d1 0)).toNat]?).bind fun x2 =>
   need (x2 = .int .i64 (getI x2)) <|
   some (DV.tup [.int .i64 (getI x2), .agg [.sl .no 4 (gL a1 0), .sl .no 5 (gL a1 1), .sl .no 1 a2, .bool a3]])
  else bif gI a4 0 == 5 then (lmH K 179 [.ptr 0 0, R 51 a4] [.box [.sl .no 4 (gL a1 0), .sl .no 5 (gL a1 1), .sl .no 1 a2, .bool a3]]).bind fun d3 =>
   need (d3 = .tup [.int .i64 (getI (getT d3 0)), .agg [.sl .no 4 (gL (getT d3 1) 0), .sl .no 5 (gL (getT d3 1) 1), .sl .no 1 (gL (getT d3 1) 2), .bool (gB (getT d3 1) 3)]]) <|
   some (DV.tup [.int .i64 (getI (getT d3 0)), .agg [.sl .no 4 (gL (getT d3 1) 0), .sl .no 5 (gL (getT d3 1) 1), .sl .no 1 (gL (getT d3 1) 2), .bool (gB (getT d3 1) 3)]])
  else bif gI a4 0 == 6 then (lmH K 179 [.ptr 0 0, R 51 a4] [.box [.sl .no 4 (gL a1 0), .sl .no 5 (gL a1 1), .sl .no 1 a2, .bool a3]]).bind fun d4 =>
   need (d4 = .tup [.int .i64 (getI (getT d4 0)), .agg [.sl .no 4 (gL (getT d4 1) 0), .sl .no 5 (gL (getT d4 1) 1), .sl .no 1 (gL (getT d4 1) 2), .bool (gB (getT d4 1) 3)]]) <|
   some (DV.tup [.int .i64 (getI (getT d4 0)), .agg [.sl .no 4 (gL (getT d4 1) 0), .sl .no 5 (gL (getT d4 1) 1), .sl .no 1 (gL (getT d4 1) 2), .bool (gB (getT d4 1) 3)]])
  else bif gI a4 0 == 7 then (lmH K 179 [.ptr 0 0, R 51 a4] [.box [.sl .no 4 (gL a1 0), .sl .no 5 (gL a1 1), .sl .no 1 a2, .bool a3]]).bind fun d5 =>
   need (d5 = .tup [.int .i64 (getI (getT d5 0)), .agg [.sl .no 4 (gL (getT d5 1) 0), .sl .no 5 (gL (getT d5 1) 1), .sl .no 1 (gL (getT d5 1) 2), .bool (gB (getT d5 1) 3)]]) <|
   some (DV.tup [.int .i64 (getI (getT d5 0)), .agg [.sl .no 4 (gL (getT d5 1) 0), .sl .no 5 (gL (getT d5 1) 1), .sl .no 1 (gL (getT d5 1) 2), .bool (gB (getT d5 1) 3)]])
  else (lmH K 180 [.ptr 0 0, R 51 a4] [.box [.sl .no 4 (gL a1 0), .sl .no 5 (gL a1 1), .sl .no 1 a2, .bool a3]]).bind fun d6 =>
  need (d6 = .tup [.int .i64 (getI (getT d6 0)), .agg [.sl .no 4 (gL (getT d6 1) 0), .sl .no 5 (gL (getT d6 1) 1), .sl .no 1 (gL (getT d6 1) 2), .bool (gB (getT d6 1) 3)]]) <|
  some (DV.tup [.int .i64 (getI (getT d6 0)), .agg [.sl .no 4 (gL (getT d6 1) 0), .sl .no 5 (gL (getT d6 1) 1), .sl .no 1 (gL (getT d6 1) 2), .bool (gB (getT d6 1) 3)]])
theorem t115 {K : Nat} (a4 : DV) (a1 : DV) (a2 : List DV) (a3 : Bool) {r : DV} (h : T115 K a4 a1 a2 a3 = some r) : lmH K 115 [.ptr 0 0, R 51 a4] [.box [.sl .no 4 (gL a1 0), .sl .no 5 (gL a1 1), .sl .no 1 a2, .bool a3]] = some r := fnH_run (Eq.trans (by kernel_rfl) h)
/-! 179 179 -/
noncomputable def T179 (K : Nat) (a4 : DV) (a1 : DV) (a2 : List DV) (a3 : Bool) : Option DV :=
  need ((0 : Int) ≤ (0 : Int)) <|
  ((gL a4 4)[Int.toNat 0]?).bind fun x1 =>
  need (x1 = R 51 x1) <|
  (lmH K 115 [.ptr 0 0, R 51 x1] [.box [.sl .no 4 (gL a1 0), .sl .no 5 (gL a1 1), .sl .no 1 a2, .bool a3]]).bind fun d2 =>
  need (d2 = .tup [.int .i64 (getI (getT d2 0)), .agg [.sl .no 4 (gL (getT d2 1) 0), .sl .no 5 (gL (getT d2 1) 1), .sl .no 1 (gL (getT d2 1) 2), .bool (gB (getT d2 1) 3)]]) <|
  bif gB (getT d2 1) 3 then some (DV.tup [.int .i64 0, .agg [.sl .no 4 (gL (getT d2 1) 0), .sl .no 5 (gL (getT d2 1) 1), .sl .no 1 (gL (getT d2 1) 2), .bool (gB (getT d2 1) 3)]])
  else bif gI a4 0 == 5 then (lm K 214 [.bool (getI (getT d2 0) == 0)]).bind fun d3 =>
   need (d3 = .int .i64 (getI d3)) <|
   some (DV.tup [.int .i64 (getI d3), .agg [.sl .no 4 (gL (getT d2 1) 0), .sl .no 5 (gL (getT d2 1) 1), .sl .no 1 (gL (getT d2 1) 2), .bool (gB (getT d2 1) 3)]])
  else bif gI a4 0 == 6 then (lm K 194 [.int .i64 (getI (getT d2 0))]).bind fun d4 =>
   need (d4 = .tup [.int .i64 (getI (getT d4 0)), .bool (getB (getT d4 1))]) <|
   bif !getB (getT d4 1) then some (DV.tup [.int .i64 0, .agg [.sl .no 4 (gL (getT d2 1) 0), .sl .no 5 (gL (getT d2 1) 1), .sl .no 1 (gL (getT d2 1) 2), .bool true]])
   else some (DV.tup [.int .i64 (getI (getT d4 0)), .agg [.sl .no 4 (gL (getT d2 1) 0), .sl .no 5 (gL (getT d2 1) 1), .sl .no 1 (gL (getT d2 1) 2), .bool (gB (getT d2 1) 3)]])
  else (lm K 195 [.int .i64 (gI a4 3), .int .i64 (getI (getT d2 0))]).bind fun d5 =>
  need (d5 = .tup [.int .i64 (getI (getT d5 0)), .bool (getB (getT d5 1))]) <|
  bif !getB (getT d5 1) then some (DV.tup [.int .i64 0, .agg [.sl .no 4 (gL (getT d2 1) 0), .sl .no 5 (gL (getT d2 1) 1), .sl .no 1 (gL (getT d2 1) 2), .bool true]])
  else some (DV.tup [.int .i64 (getI (getT d5 0)), .agg [.sl .no 4 (gL (getT d2 1) 0), .sl .no 5 (gL (getT d2 1) 1), .sl .no 1 (gL (getT d2 1) 2), .bool (gB (getT d2 1) 3)]])
theorem t179 {K : Nat} (a4 : DV) (a1 : DV) (a2 : List DV) (a3 : Bool) {r : DV} (h : T179 K a4 a1 a2 a3 = some r) : lmH K 179 [.ptr 0 0, R 51 a4] [.box [.sl .no 4 (gL a1 0), .sl .no 5 (gL a1 1), .sl .no 1 a2, .bool a3]] = some r := fnH_run (Eq.trans (by kernel_rfl) h)
/-! 180 180 -/
noncomputable def T180 (K : Nat) (a4 : DV) (a1 : DV) (a2 : List DV) (a3 : Bool) : Option DV :=
  need ((0 : Int) ≤ (0 : Int)) <|
  ((gL a4 4)[Int.toNat 0]?).bind fun x1 =>
  need (x1 = R 51 x1) <|
  (lmH K 115 [.ptr 0 0, R 51 x1] [.box [.sl .no 4 (gL a1 0), .sl .no 5 (gL a1 1), .sl .no 1 a2, .bool a3]]).bind fun d2 =>
  need (d2 = .tup [.int .i64 (getI (getT d2 0)), .agg [.sl .no 4 (gL (getT d2 1) 0), .sl .no 5 (gL (getT d2 1) 1), .sl .no 1 (gL (getT d2 1) 2), .bool (gB (getT d2 1) 3)]]) <|
  bif gB (getT d2 1) 3 then some (DV.tup [.int .i64 0, .agg [.sl .no 4 (gL (getT d2 1) 0), .sl .no 5 (gL (getT d2 1) 1), .sl .no 1 (gL (getT d2 1) 2), .bool (gB (getT d2 1) 3)]])
  else bif gI a4 0 == 16 then bif getI (getT d2 0) == 0 then some (DV.tup [.int .i64 0, .agg [.sl .no 4 (gL (getT d2 1) 0), .sl .no 5 (gL (getT d2 1) 1), .sl .no 1 (gL (getT d2 1) 2), .bool (gB (getT d2 1) 3)]])
   else bif gI a4 0 == 17 then bif getI (getT d2 0) != 0 then some (DV.tup [.int .i64 1, .agg [.sl .no 4 (gL (getT d2 1) 0), .sl .no 5 (gL (getT d2 1) 1), .sl .no 1 (gL (getT d2 1) 2), .bool (gB (getT d2 1) 3)]])
    else bif gI a4 0 == 16 then need ((0 : Int) ≤ (1 : Int)) <|
     ((gL a4 4)[Int.toNat 1]?).bind fun x3 =>
     need (x3 = R 51 x3) <|
     (lmH K 115 [.ptr 0 0, R 51 x3] [.box [.sl .no 4 (gL (getT d2 1) 0), .sl .no 5 (gL (getT d2 1) 1), .sl .no 1 (gL (getT d2 1) 2), .bool (gB (getT d2 1) 3)]]).bind fun d4 =>
     need (d4 = .tup [.int .i64 (getI (getT d4 0)), .agg [.sl .no 4 (gL (getT d4 1) 0), .sl .no 5 (gL (getT d4 1) 1), .sl .no 1 (gL (getT d4 1) 2), .bool (gB (getT d4 1) 3)]]) <|
     some (DV.tup [.int .i64 (getI (getT d4 0)), .agg [.sl .no 4 (gL (getT d4 1) 0), .sl .no 5 (gL (getT d4 1) 1), .sl .no 1 (gL (getT d4 1) 2), .bool (gB (getT d4 1) 3)]])
    else bif gI a4 0 == 17 then need ((0 : Int) ≤ (1 : Int)) <|
     ((gL a4 4)[Int.toNat 1]?).bind fun x5 =>
     need (x5 = R 51 x5) <|
     (lmH K 115 [.ptr 0 0, R 51 x5] [.box [.sl .no 4 (gL (getT d2 1) 0), .sl .no 5 (gL (getT d2 1) 1), .sl .no 1 (gL (getT d2 1) 2), .bool (gB (getT d2 1) 3)]]).bind fun d6 =>
     need (d6 = .tup [.int .i64 (getI (getT d6 0)), .agg [.sl .no 4 (gL (getT d6 1) 0), .sl .no 5 (gL (getT d6 1) 1), .sl .no 1 (gL (getT d6 1) 2), .bool (gB (getT d6 1) 3)]]) <|
     some (DV.tup [.int .i64 (getI (getT d6 0)), .agg [.sl .no 4 (gL (getT d6 1) 0), .sl .no 5 (gL (getT d6 1) 1), .sl .no 1 (gL (getT d6 1) 2), .bool (gB (getT d6 1) 3)]])
    else need ((0 : Int) ≤ (1 : Int)) <|
    ((gL a4 4)[Int.toNat 1]?).bind fun x7 =>
    need (x7 = R 51 x7) <|
    (lmH K 115 [.ptr 0 0, R 51 x7] [.box [.sl .no 4 (gL (getT d2 1) 0), .sl .no 5 (gL (getT d2 1) 1), .sl .no 1 (gL (getT d2 1) 2), .bool (gB (getT d2 1) 3)]]).bind fun d8 =>
    need (d8 = .tup [.int .i64 (getI (getT d8 0)), .agg [.sl .no 4 (gL (getT d8 1) 0), .sl .no 5 (gL (getT d8 1) 1), .sl .no 1 (gL (getT d8 1) 2), .bool (gB (getT d8 1) 3)]]) <|
    bif gB (getT d8 1) 3 then some (DV.tup [.int .i64 0, .agg [.sl .no 4 (gL (getT d8 1) 0), .sl .no 5 (gL (getT d8 1) 1), .sl .no 1 (gL (getT d8 1) 2), .bool (gB (getT d8 1) 3)]])
    else (lm K 217 [.int .i64 (gI a4 0), .int .i64 (getI (getT d2 0)), .int .i64 (getI (getT d8 0))]).bind fun d9 =>
    need (d9 = .tup [.int .i64 (getI (getT d9 0)), .bool (getB (getT d9 1))]) <|
    bif !getB (getT d9 1) then some (DV.tup [.int .i64 0, .agg [.sl .no 4 (gL (getT d8 1) 0), .sl .no 5 (gL (getT d8 1) 1), .sl .no 1 (gL (getT d8 1) 2), .bool true]])
    else some (DV.tup [.int .i64 (getI (getT d9 0)), .agg [.sl .no 4 (gL (getT d8 1) 0), .sl .no 5 (gL (getT d8 1) 1), .sl .no 1 (gL (getT d8 1) 2), .bool (gB (getT d8 1) 3)]])
   else bif gI a4 0 == 16 then need ((0 : Int) ≤ (1 : Int)) <|
    ((gL a4 4)[Int.toNat 1]?).bind fun x10 =>
    need (x10 = R 51 x10) <|
    (lmH K 115 [.ptr 0 0, R 51 x10] [.box [.sl .no 4 (gL (getT d2 1) 0), .sl .no 5 (gL (getT d2 1) 1), .sl .no 1 (gL (getT d2 1) 2), .bool (gB (getT d2 1) 3)]]).bind fun d11 =>
    need (d11 = .tup [.int .i64 (getI (getT d11 0)), .agg [.sl .no 4 (gL (getT d11 1) 0), .sl .no 5 (gL (getT d11 1) 1), .sl .no 1 (gL (getT d11 1) 2), .bool (gB (getT d11 1) 3)]]) <|
    some (DV.tup [.int .i64 (getI (getT d11 0)), .agg [.sl .no 4 (gL (getT d11 1) 0), .sl .no 5 (gL (getT d11 1) 1), .sl .no 1 (gL (getT d11 1) 2), .bool (gB (getT d11 1) 3)]])
   else bif gI a4 0 == 17 then need ((0 : Int) ≤ (1 : Int)) <|
    ((gL a4 4)[Int.toNat 1]?).bind fun x12 =>
    need (x12 = R 51 x12) <|
    (lmH K 115 [.ptr 0 0, R 51 x12] [.box [.sl .no 4 (gL (getT d2 1) 0), .sl .no 5 (gL (getT d2 1) 1), .sl .no 1 (gL (getT d2 1) 2), .bool (gB (getT d2 1) 3)]]).bind fun d13 =>
    need (d13 = .tup [.int .i64 (getI (getT d13 0)), .agg [.sl .no 4 (gL (getT d13 1) 0), .sl .no 5 (gL (getT d13 1) 1), .sl .no 1 (gL (getT d13 1) 2), .bool (gB (getT d13 1) 3)]]) <|
    some (DV.tup [.int .i64 (getI (getT d13 0)), .agg [.sl .no 4 (gL (getT d13 1) 0), .sl .no 5 (gL (getT d13 1) 1), .sl .no 1 (gL (getT d13 1) 2), .bool (gB (getT d13 1) 3)]])
   else need ((0 : Int) ≤ (1 : Int)) <|
   ((gL a4 4)[Int.toNat 1]?).bind fun x14 =>
   need (x14 = R 51 x14) <|
   (lmH K 115 [.ptr 0 0, R 51 x14] [.box [.sl .no 4 (gL (getT d2 1) 0), .sl .no 5 (gL (getT d2 1) 1), .sl .no 1 (gL (getT d2 1) 2), .bool (gB (getT d2 1) 3)]]).bind fun d15 =>
   need (d15 = .tup [.int .i64 (getI (getT d15 0)), .agg [.sl .no 4 (gL (getT d15 1) 0), .sl .no 5 (gL (getT d15 1) 1), .sl .no 1 (gL (getT d15 1) 2), .bool (gB (getT d15 1) 3)]]) <|
   bif gB (getT d15 1) 3 then some (DV.tup [.int .i64 0, .agg [.sl .no 4 (gL (getT d15 1) 0), .sl .no 5 (gL (getT d15 1) 1), .sl .no 1 (gL (getT d15 1) 2), .bool (gB (getT d15 1) 3)]])
   else (lm K 217 [.int .i64 (gI a4 0), .int .i64 (getI (getT d2 0)), .int .i64 (getI (getT d15 0))]).bind fun d16 =>
   need (d16 = .tup [.int .i64 (getI (getT d16 0)), .bool (getB (getT d16 1))]) <|
   bif !getB (getT d16 1) then some (DV.tup [.int .i64 0, .agg [.sl .no 4 (gL (getT d15 1) 0), .sl .no 5 (gL (getT d15 1) 1), .sl .no 1 (gL (getT d15 1) 2), .bool true]])
   else some (DV.tup [.int .i64 (getI (getT d16 0)), .agg [.sl .no 4 (gL (getT d15 1) 0), .sl .no 5 (gL (getT d15 1) 1), .sl .no 1 (gL (getT d15 1) 2), .bool (gB (getT d15 1) 3)]])
  else bif gI a4 0 == 17 then bif getI (getT d2 0) != 0 then some (DV.tup [.int .i64 1, .agg [.sl .no 4 (gL (getT d2 1) 0), .sl .no 5 (gL (getT d2 1) 1), .sl .no 1 (gL (getT d2 1) 2), .bool (gB (getT d2 1) 3)]])
   else bif gI a4 0 == 16 then need ((0 : Int) ≤ (1 : Int)) <|
    ((gL a4 4)[Int.toNat 1]?).bind fun x17 =>
    need (x17 = R 51 x17) <|
    (lmH K 115 [.ptr 0 0, R 51 x17] [.box [.sl .no 4 (gL (getT d2 1) 0), .sl .no 5 (gL (getT d2 1) 1), .sl .no 1 (gL (getT d2 1) 2), .bool (gB (getT d2 1) 3)]]).bind fun d18 =>
    need (d18 = .tup [.int .i64 (getI (getT d18 0)), .agg [.sl .no 4 (gL (getT d18 1) 0), .sl .no 5 (gL (getT d18 1) 1), .sl .no 1 (gL (getT d18 1) 2), .bool (gB (getT d18 1) 3)]]) <|
    some (DV.tup [.int .i64 (getI (getT d18 0)), .agg [.sl .no 4 (gL (getT d18 1) 0), .sl .no 5 (gL (getT d18 1) 1), .sl .no 1 (gL (getT d18 1) 2), .bool (gB (getT d18 1) 3)]])
   else bif gI a4 0 == 17 then need ((0 : Int) ≤ (1 : Int)) <|
    ((gL a4 4)[Int.toNat 1]?).bind fun x19 =>
    need (x19 = R 51 x19) <|
    (lmH K 115 [.ptr 0 0, R 51 x19] [.box [.sl .no 4 (gL (getT d2 1) 0), .sl .no 5 (gL (getT d2 1) 1), .sl .no 1 (gL (getT d2 1) 2), .bool (gB (getT d2 1) 3)]]).bind fun d20 =>
    need (d20 = .tup [.int .i64 (getI (getT d20 0)), .agg [.sl .no 4 (gL (getT d20 1) 0), .sl .no 5 (gL (getT d20 1) 1), .sl .no 1 (gL (getT d20 1) 2), .bool (gB (getT d20 1) 3)]]) <|
    some (DV.tup [.int .i64 (getI (getT d20 0)), .agg [.sl .no 4 (gL (getT d20 1) 0), .sl .no 5 (gL (getT d20 1) 1), .sl .no 1 (gL (getT d20 1) 2), .bool (gB (getT d20 1) 3)]])
   else need ((0 : Int) ≤ (1 : Int)) <|
   ((gL a4 4)[Int.toNat 1]?).bind fun x21 =>
   need (x21 = R 51 x21) <|
   (lmH K 115 [.ptr 0 0, R 51 x21] [.box [.sl .no 4 (gL (getT d2 1) 0), .sl .no 5 (gL (getT d2 1) 1), .sl .no 1 (gL (getT d2 1) 2), .bool (gB (getT d2 1) 3)]]).bind fun d22 =>
   need (d22 = .tup [.int .i64 (getI (getT d22 0)), .agg [.sl .no 4 (gL (getT d22 1) 0), .sl .no 5 (gL (getT d22 1) 1), .sl .no 1 (gL (getT d22 1) 2), .bool (gB (getT d22 1) 3)]]) <|
   bif gB (getT d22 1) 3 then some (DV.tup [.int .i64 0, .agg [.sl .no 4 (gL (getT d22 1) 0), .sl .no 5 (gL (getT d22 1) 1), .sl .no 1 (gL (getT d22 1) 2), .bool (gB (getT d22 1) 3)]])
   else (lm K 217 [.int .i64 (gI a4 0), .int .i64 (getI (getT d2 0)), .int .i64 (getI (getT d22 0))]).bind fun d23 =>
   need (d23 = .tup [.int .i64 (getI (getT d23 0)), .bool (getB (getT d23 1))]) <|
   bif !getB (getT d23 1) then some (DV.tup [.int .i64 0, .agg [.sl .no 4 (gL (getT d22 1) 0), .sl .no 5 (gL (getT d22 1) 1), .sl .no 1 (gL (getT d22 1) 2), .bool true]])
   else some (DV.tup [.int .i64 (getI (getT d23 0)), .agg [.sl .no 4 (gL (getT d22 1) 0), .sl .no 5 (gL (getT d22 1) 1), .sl .no 1 (gL (getT d22 1) 2), .bool (gB (getT d22 1) 3)]])
  else bif gI a4 0 == 16 then need ((0 : Int) ≤ (1 : Int)) <|
   ((gL a4 4)[Int.toNat 1]?).bind fun x24 =>
   need (x24 = R 51 x24) <|
   (lmH K 115 [.ptr 0 0, R 51 x24] [.box [.sl .no 4 (gL (getT d2 1) 0), .sl .no 5 (gL (getT d2 1) 1), .sl .no 1 (gL (getT d2 1) 2), .bool (gB (getT d2 1) 3)]]).bind fun d25 =>
   need (d25 = .tup [.int .i64 (getI (getT d25 0)), .agg [.sl .no 4 (gL (getT d25 1) 0), .sl .no 5 (gL (getT d25 1) 1), .sl .no 1 (gL (getT d25 1) 2), .bool (gB (getT d25 1) 3)]]) <|
   some (DV.tup [.int .i64 (getI (getT d25 0)), .agg [.sl .no 4 (gL (getT d25 1) 0), .sl .no 5 (gL (getT d25 1) 1), .sl .no 1 (gL (getT d25 1) 2), .bool (gB (getT d25 1) 3)]])
  else bif gI a4 0 == 17 then need ((0 : Int) ≤ (1 : Int)) <|
   ((gL a4 4)[Int.toNat 1]?).bind fun x26 =>
   need (x26 = R 51 x26) <|
   (lmH K 115 [.ptr 0 0, R 51 x26] [.box [.sl .no 4 (gL (getT d2 1) 0), .sl .no 5 (gL (getT d2 1) 1), .sl .no 1 (gL (getT d2 1) 2), .bool (gB (getT d2 1) 3)]]).bind fun d27 =>
   need (d27 = .tup [.int .i64 (getI (getT d27 0)), .agg [.sl .no 4 (gL (getT d27 1) 0), .sl .no 5 (gL (getT d27 1) 1), .sl .no 1 (gL (getT d27 1) 2), .bool (gB (getT d27 1) 3)]]) <|
   some (DV.tup [.int .i64 (getI (getT d27 0)), .agg [.sl .no 4 (gL (getT d27 1) 0), .sl .no 5 (gL (getT d27 1) 1), .sl .no 1 (gL (getT d27 1) 2), .bool (gB (getT d27 1) 3)]])
  else need ((0 : Int) ≤ (1 : Int)) <|
  ((gL a4 4)[Int.toNat 1]?).bind fun x28 =>
  need (x28 = R 51 x28) <|
  (lmH K 115 [.ptr 0 0, R 51 x28] [.box [.sl .no 4 (gL (getT d2 1) 0), .sl .no 5 (gL (getT d2 1) 1), .sl .no 1 (gL (getT d2 1) 2), .bool (gB (getT d2 1) 3)]]).bind fun d29 =>
  need (d29 = .tup [.int .i64 (getI (getT d29 0)), .agg [.sl .no 4 (gL (getT d29 1) 0), .sl .no 5 (gL (getT d29 1) 1), .sl .no 1 (gL (getT d29 1) 2), .bool (gB (getT d29 1) 3)]]) <|
  bif gB (getT d29 1) 3 then some (DV.tup [.int .i64 0, .agg [.sl .no 4 (gL (getT d29 1) 0), .sl .no 5 (gL (getT d29 1) 1), .sl .no 1 (gL (getT d29 1) 2), .bool (gB (getT d29 1) 3)]])
  else (lm K 217 [.int .i64 (gI a4 0), .int .i64 (getI (getT d2 0)), .int .i64 (getI (getT d29 0))]).bind fun d30 =>
  need (d30 = .tup [.int .i64 (getI (getT d30 0)), .bool (getB (getT d30 1))]) <|
  bif !getB (getT d30 1) then some (DV.tup [.int .i64 0, .agg [.sl .no 4 (gL (getT d29 1) 0), .sl .no 5 (gL (getT d29 1) 1), .sl .no 1 (gL (getT d29 1) 2), .bool true]])
  else some (DV.tup [.int .i64 (getI (getT d30 0)), .agg [.sl .no 4 (gL (getT d29 1) 0), .sl .no 5 (gL (getT d29 1) 1), .sl .no 1 (gL (getT d29 1) 2), .bool (gB (getT d29 1) 3)]])
theorem t180 {K : Nat} (a4 : DV) (a1 : DV) (a2 : List DV) (a3 : Bool) {r : DV} (h : T180 K a4 a1 a2 a3 = some r) : lmH K 180 [.ptr 0 0, R 51 a4] [.box [.sl .no 4 (gL a1 0), .sl .no 5 (gL a1 1), .sl .no 1 a2, .bool a3]] = some r := fnH_run (Eq.trans (by kernel_rfl) h)
/-! 45 45 -/
noncomputable def T45 (K : Nat) (a1 : DV) (a2 : DV) (a3 : List DV) : Option DV :=
  (lm K 55 [R 25 a1, R 51 a2]).bind fun d1 =>
  need (d1 = .tup [.int .i64 (getI (getT d1 0)), .int .i64 (getI (getT d1 1)), .int .i64 (getI (getT d1 2))]) <|
  bif getI (getT d1 1) != 0 then some (DV.tup [.int .i64 0, .int .i64 (getI (getT d1 1))])
  else (lm K 102 [R 25 a1]).bind fun d2 =>
  need (d2 = .sl .no 6 (getL d2)) <|
  bif (↑a3.length : Int) != (↑(getL d2).length : Int) then some (DV.tup [.int .i64 0, .int .i64 2])
  else (lmH K 115 [.ptr 0 0, R 51 a2] [.box [.sl .no 4 (gL a1 0), .sl .no 5 (gL a1 1), .sl .no 1 a3, .bool false]]).bind fun d3 =>
  need (d3 = .tup [.int .i64 (getI (getT d3 0)), .agg [.sl .no 4 (gL (getT d3 1) 0), .sl .no 5 (gL (getT d3 1) 1), .sl .no 1 (gL (getT d3 1) 2), .bool (gB (getT d3 1) 3)]]) <|
  bif gB (getT d3 1) 3 then some (DV.tup [.int .i64 0, .int .i64 110])
  else some (DV.tup [.int .i64 (getI (getT d3 0)), .int .i64 0])
theorem t45 {K : Nat} (a1 : DV) (a2 : DV) (a3 : List DV) {r : DV} (h : T45 K a1 a2 a3 = some r) : lm K 45 [R 25 a1, R 51 a2, .sl .no 1 a3] = some r := fn_run (Eq.trans (by kernel_rfl) h)
/-! 48 48 -/
end Go.Proofs.Ytmfgdnagmacgdaa.Dv
end
section
/- Trees of questions of functions of the program (printed by a program of this session, wip/dv/sym.txt). No condition. -/
set_option maxRecDepth 100000
set_option linter.unusedVariables false
namespace Go.Proofs.Ytmfgdnagmacgdaa.Dv
/-! 181 181 -/
noncomputable def H181_0 (a1 : DV) (a2 : DV) (d4 : DV) (v7 : List DV) (v8 : Int) (z9 : Nat) (v10 : Nat) : St := ⟨[.undef, .undef] ++ [.ptr 0 0, .ptr 1 0] ++ (un 5) ++ [.int .i64 (getI d4), .sl (.tok 2) 1 v7, .int .i64 v8] ++ (un 82), [.box ((R 25 a1).cells), .box ((R 51 a2).cells), .tok z9 v10]⟩
def P181_0 : List Dir := [.c, .r, .l, .r, .r, .r, .r]
noncomputable def hd181_0 (K : Nat) (a1 : DV) (a2 : DV) (d4 : DV) (v7 : List DV) (v8 : Int) (z9 : Nat) (v10 : Nat) : Option DV := hdL Try.prog (C0 K) 181 P181_0 (bits 94 3596) 3 (H181_0 a1 a2 d4 v7 v8 z9 v10)
noncomputable def H181_1 (a1 : DV) (a2 : DV) (d4 : DV) (v17 : List DV) (v23 : Int) (z18 : Nat) (v19 : Nat) : St := ⟨[.undef, .undef, .undef] ++ [.ptr 1 0] ++ (un 5) ++ [.int .i64 (getI d4), .sl (.tok 2) 1 v17] ++ (un 4) ++ [.int .i64 v23] ++ (un 78), [.box ((R 25 a1).cells), .box ((R 51 a2).cells), .tok z18 v19]⟩
def P181_1 : List Dir := [.c, .r, .l, .r, .r, .r, .r, .r]
noncomputable def hd181_1 (K : Nat) (a1 : DV) (a2 : DV) (d4 : DV) (v17 : List DV) (v23 : Int) (z18 : Nat) (v19 : Nat) : Option DV := hdL Try.prog (C0 K) 181 P181_1 (bits 94 34312) 3 (H181_1 a1 a2 d4 v17 v23 z18 v19)
noncomputable def T181 (K : Nat) (a1 : DV) (a2 : DV) : Option DV :=
  bif gI a2 0 == 4 then (lm K 120 [R 25 a1, .str (gS a2 1), .str (gS a2 2)]).bind fun d11 =>
   need (d11 = .tup [.int .i64 (getI (getT d11 0)), .bool (getB (getT d11 1))]) <|
   bif !getB (getT d11 1) then some (DV.tup [.int .i64 0, .int .i64 61, .int .i64 (gI a2 5)])
   else (lm K 56 [R 25 a1]).bind fun d12 =>
   need (d12 = .sl .no 6 (getL d12)) <|
   need ((0 : Int) ≤ getI (getT d11 (0 : Nat))) <|
   ((getL d12)[(getI (getT d11 0)).toNat]?).bind fun x13 =>
   need (x13 = R 61 x13) <|
   bif gI x13 1 == 1 then some (DV.tup [.int .i64 1, .int .i64 0, .int .i64 0])
   else some (DV.tup [.int .i64 2, .int .i64 0, .int .i64 0])
  else (lm K 218 [.int .i64 (gI a2 0)]).bind fun d14 =>
  need (d14 = .int .i64 (getI d14)) <|
  hd181_0 K a1 a2 d14 [] 0 0 0
theorem t181 {K : Nat} (a1 : DV) (a2 : DV) {r : DV} (h : T181 K a1 a2 = some r) : lm K 181 [R 25 a1, R 51 a2] = some r := fn_run (Eq.trans (by kernel_rfl) h)
noncomputable def L181_0 (K : Nat) (a1 : DV) (a2 : DV) (d4 : DV) (v7 : List DV) (v8 : Int) (z9 : Nat) (v10 : Nat) : Option DV :=
  bif decide (v8 < (↑(gL a2 4).length : Int)) then need ((0 : Int) ≤ v8) <|
   ((gL a2 4)[v8.toNat]?).bind fun x27 =>
   need (x27 = R 51 x27) <|
   (lm K 181 [R 25 a1, R 51 x27]).bind fun d28 =>
   need (d28 = .tup [.int .i64 (getI (getT d28 0)), .int .i64 (getI (getT d28 1)), .int .i64 (getI (getT d28 2))]) <|
   bif getI (getT d28 1) != 0 then some (DV.tup [.int .i64 0, .int .i64 (getI (getT d28 1)), .int .i64 (getI (getT d28 2))])
   else need ((v7.length + [DV.int IntKind.i64 (getI (getT d28 (0 : Nat)))].length) * (8 : Nat) ≤ (140737488355328 : Nat) ∧ v7.length = v10 ∧ ((1 : Nat) = (1 : Nat) ∧ z9 = (1 : Nat) ∨ v7 = [] ∧ z9 = (0 : Nat))) <|
   hd181_0 K a1 a2 d4 (v7 ++ [DV.int IntKind.i64 (getI (getT d28 0))]) (IntKind.i64.wrap (v8 + 1)) 1 (v7.length + [DV.int IntKind.i64 (getI (getT d28 0))].length)
  else hd181_1 K a1 a2 d4 v7 0 z9 v10
theorem l181_0 {K : Nat} (a1 : DV) (a2 : DV) (d4 : DV) (v7 : List DV) (v8 : Int) (z9 : Nat) (v10 : Nat) {r : DV} (h : L181_0 K a1 a2 d4 v7 v8 z9 v10 = some r) : hd181_0 K a1 a2 d4 v7 v8 z9 v10 = some r := hd_run (Eq.trans (by kernel_rfl) h)
noncomputable def L181_1 (K : Nat) (a1 : DV) (a2 : DV) (d4 : DV) (v17 : List DV) (v23 : Int) (z18 : Nat) (v19 : Nat) : Option DV :=
  bif decide (v23 < (↑v17.length : Int)) then bif getI d4 == 0 then need ((0 : Int) ≤ (0 : Int)) <|
    (v17[Int.toNat 0]?).bind fun x29 =>
    need (x29 = .int .i64 (getI x29)) <|
    need ((0 : Int) ≤ v23) <|
    (v17[v23.toNat]?).bind fun x30 =>
    need (x30 = .int .i64 (getI x30)) <|
    bif getI x30 != getI x29 then need ((0 : Int) ≤ v23) <|
     ((gL a2 4)[v23.toNat]?).bind fun x31 =>
     need (x31 = R 51 x31) <|
     some (DV.tup [.int .i64 0, .int .i64 70, .int .i64 (gI x31 5)])
    else hd181_1 K a1 a2 x29 v17 (IntKind.i64.wrap (v23 + 1)) z18 v19
   else need ((0 : Int) ≤ v23) <|
   (v17[v23.toNat]?).bind fun x32 =>
   need (x32 = .int .i64 (getI x32)) <|
   bif getI x32 != getI d4 then need ((0 : Int) ≤ v23) <|
    ((gL a2 4)[v23.toNat]?).bind fun x33 =>
    need (x33 = R 51 x33) <|
    some (DV.tup [.int .i64 0, .int .i64 70, .int .i64 (gI x33 5)])
   else hd181_1 K a1 a2 d4 v17 (IntKind.i64.wrap (v23 + 1)) z18 v19
  else (lm K 219 [.int .i64 (gI a2 0)]).bind fun d34 =>
  need (d34 = .int .i64 (getI d34)) <|
  some (DV.tup [.int .i64 (getI d34), .int .i64 0, .int .i64 0])
theorem l181_1 {K : Nat} (a1 : DV) (a2 : DV) (d4 : DV) (v17 : List DV) (v23 : Int) (z18 : Nat) (v19 : Nat) {r : DV} (h : L181_1 K a1 a2 d4 v17 v23 z18 v19 = some r) : hd181_1 K a1 a2 d4 v17 v23 z18 v19 = some r := hd_run (Eq.trans (by kernel_rfl) h)
/-! 116 116 -/
noncomputable def T116 (K : Nat) (a1 : DV) (a2 : DV) : Option DV :=
  (lm K 158 [R 51 a2]).bind fun d1 =>
  need (d1 = .bool (getB d1)) <|
  bif !getB d1 then some (DV.tup [.int .i64 0, .int .i64 20, .int .i64 0])
  else (lm K 181 [R 25 a1, R 51 a2]).bind fun d2 =>
  need (d2 = .tup [.int .i64 (getI (getT d2 0)), .int .i64 (getI (getT d2 1)), .int .i64 (getI (getT d2 2))]) <|
  some (DV.tup [.int .i64 (getI (getT d2 0)), .int .i64 (getI (getT d2 1)), .int .i64 (getI (getT d2 2))])
theorem t116 {K : Nat} (a1 : DV) (a2 : DV) {r : DV} (h : T116 K a1 a2 = some r) : lm K 116 [R 25 a1, R 51 a2] = some r := fn_run (Eq.trans (by kernel_rfl) h)
/-! 117 117 -/
noncomputable def T117 (K : Nat) (a1 : DV) (a2 : DV) (a3 : List DV) : Option DV :=
  bif gI a2 0 == 1 then some (DV.tup [.int .i64 (gI a2 3), .bool true])
  else bif gI a2 0 == 2 then some (DV.tup [.int .i64 1, .bool true])
  else bif gI a2 0 == 3 then some (DV.tup [.int .i64 0, .bool true])
  else bif gI a2 0 == 4 then (lm K 120 [R 25 a1, .str (gS a2 1), .str (gS a2 2)]).bind fun d1 =>
   need (d1 = .tup [.int .i64 (getI (getT d1 0)), .bool (getB (getT d1 1))]) <|
   need ((0 : Int) ≤ getI (getT d1 (0 : Nat))) <|
   (a3[(getI (getT d1 0)).toNat]?).bind fun x2 =>
   need (x2 = .int .i64 (getI x2)) <|
   some (DV.tup [.int .i64 (getI x2), .bool true])
  else need ((0 : Int) ≤ (0 : Int)) <|
  ((gL a2 4)[Int.toNat 0]?).bind fun x3 =>
  need (x3 = R 51 x3) <|
  (lm K 117 [R 25 a1, R 51 x3, .sl .no 1 a3]).bind fun d4 =>
  need (d4 = .tup [.int .i64 (getI (getT d4 0)), .bool (getB (getT d4 1))]) <|
  bif !getB (getT d4 1) then some (DV.tup [.int .i64 0, .bool false])
  else bif gI a2 0 == 5 then (lm K 182 [.bool (getI (getT d4 0) == 0)]).bind fun d5 =>
   need (d5 = .int .i64 (getI d5)) <|
   some (DV.tup [.int .i64 (getI d5), .bool true])
  else bif gI a2 0 == 6 then (lm K 183 [.int .i64 (getI (getT d4 0))]).bind fun d6 =>
   need (d6 = .tup [.int .i64 (getI (getT d6 0)), .bool (getB (getT d6 1))]) <|
   some (DV.tup [.int .i64 (getI (getT d6 0)), .bool (getB (getT d6 1))])
  else bif gI a2 0 == 7 then (lm K 184 [.int .i64 (gI a2 3), .int .i64 (getI (getT d4 0))]).bind fun d7 =>
   need (d7 = .tup [.int .i64 (getI (getT d7 0)), .bool (getB (getT d7 1))]) <|
   some (DV.tup [.int .i64 (getI (getT d7 0)), .bool (getB (getT d7 1))])
  else bif gI a2 0 == 16 then bif getI (getT d4 0) == 0 then (lm K 182 [.bool (gI a2 0 == 17)]).bind fun d8 =>
    need (d8 = .int .i64 (getI d8)) <|
    some (DV.tup [.int .i64 (getI d8), .bool true])
   else bif gI a2 0 == 17 then bif getI (getT d4 0) != 0 then (lm K 182 [.bool (gI a2 0 == 17)]).bind fun d9 =>
     need (d9 = .int .i64 (getI d9)) <|
     some (DV.tup [.int .i64 (getI d9), .bool true])
    else need ((0 : Int) ≤ (1 : Int)) <|
    ((gL a2 4)[Int.toNat 1]?).bind fun x10 =>
    need (x10 = R 51 x10) <|
    (lm K 117 [R 25 a1, R 51 x10, .sl .no 1 a3]).bind fun d11 =>
    need (d11 = .tup [.int .i64 (getI (getT d11 0)), .bool (getB (getT d11 1))]) <|
    bif !getB (getT d11 1) then some (DV.tup [.int .i64 0, .bool false])
    else bif gI a2 0 == 16 then some (DV.tup [.int .i64 (getI (getT d11 0)), .bool true])
    else bif gI a2 0 == 17 then some (DV.tup [.int .i64 (getI (getT d11 0)), .bool true])
    else (lm K 185 [.int .i64 (gI a2 0), .int .i64 (getI (getT d4 0)), .int .i64 (getI (getT d11 0))]).bind fun d12 =>
    need (d12 = .tup [.int .i64 (getI (getT d12 0)), .bool (getB (getT d12 1))]) <|
    some (DV.tup [.int .i64 (getI (getT d12 0)), .bool (getB (getT d12 1))])
   else need ((0 : Int) ≤ (1 : Int)) <|
   ((gL a2 4)[Int.toNat 1]?).bind fun x13 =>
   need (x13 = R 51 x13) <|
   (lm K 117 [R 25 a1, R 51 x13, .sl .no 1 a3]).bind fun d14 =>
   need (d14 = .tup [.int .i64 (getI (getT d14 0)), .bool (getB (getT d14 1))]) <|
   bif !getB (getT d14 1) then some (DV.tup [.int .i64 0, .bool false])
   else bif gI a2 0 == 16 then some (DV.tup [.int .i64 (getI (getT d14 0)), .bool true])
   else bif gI a2 0 == 17 then some (DV.tup [.int .i64 (getI (getT d14 0)), .bool true])
   else (lm K 185 [.int .i64 (gI a2 0), .int .i64 (getI (getT d4 0)), .int .i64 (getI (getT d14 0))]).bind fun d15 =>
   need (d15 = .tup [.int .i64 (getI (getT d15 0)), .bool (getB (getT d15 1))]) <|
   some (DV.tup [.int .i64 (getI (getT d15 0)), .bool (getB (getT d15 1))])
  else bif gI a2 0 == 17 then bif getI (getT d4 0) != 0 then (lm K 182 [.bool (gI a2 0 == 17)]).bind fun d16 =>
    need (d16 = .int .i64 (getI d16)) <|
    some (DV.tup [.int .i64 (getI d16), .bool true])
   else need ((0 : Int) ≤ (1 : Int)) <|
   ((gL a2 4)[Int.toNat 1]?).bind fun x17 =>
   need (x17 = R 51 x17) <|
   (lm K 117 [R 25 a1, R 51 x17, .sl .no 1 a3]).bind fun d18 =>
   need (d18 = .tup [.int .i64 (getI (getT d18 0)), .bool (getB (getT d18 1))]) <|
   bif !getB (getT d18 1) then some (DV.tup [.int .i64 0, .bool false])
   else bif gI a2 0 == 16 then some (DV.tup [.int .i64 (getI (getT d18 0)), .bool true])
   else bif gI a2 0 == 17 then some (DV.tup [.int .i64 (getI (getT d18 0)), .bool true])
   else (lm K 185 [.int .i64 (gI a2 0), .int .i64 (getI (getT d4 0)), .int .i64 (getI (getT d18 0))]).bind fun d19 =>
   need (d19 = .tup [.int .i64 (getI (getT d19 0)), .bool (getB (getT d19 1))]) <|
   some (DV.tup [.int .i64 (getI (getT d19 0)), .bool (getB (getT d19 1))])
  else need ((0 : Int) ≤ (1 : Int)) <|
  ((gL a2 4)[Int.toNat 1]?).bind fun x20 =>
  need (x20 = R 51 x20) <|
  (lm K 117 [R 25 a1, R 51 x20, .sl .no 1 a3]).bind fun d21 =>
  need (d21 = .tup [.int .i64 (getI (getT d21 0)), .bool (getB (getT d21 1))]) <|
  bif !getB (getT d21 1) then some (DV.tup [.int .i64 0, .bool false])
  else bif gI a2 0 == 16 then some (DV.tup [.int .i64 (getI (getT d21 0)), .bool true])
  else bif gI a2 0 == 17 then some (DV.tup [.int .i64 (getI (getT d21 0)), .bool true])
  else (lm K 185 [.int .i64 (gI a2 0), .int .i64 (getI (getT d4 0)), .int .i64 (getI (getT d21 0))]).bind fun d22 =>
  need (d22 = .tup [.int .i64 (getI (getT d22 0)), .bool (getB (getT d22 1))]) <|
  some (DV.tup [.int .i64 (getI (getT d22 0)), .bool (getB (getT d22 1))])
theorem t117 {K : Nat} (a1 : DV) (a2 : DV) (a3 : List DV) {r : DV} (h : T117 K a1 a2 a3 = some r) : lm K 117 [R 25 a1, R 51 a2, .sl .no 1 a3] = some r := fn_run (Eq.trans (by kernel_rfl) h)
/-! 46 46 -/
noncomputable def T46 (K : Nat) (a1 : DV) (a2 : DV) (a3 : List DV) : Option DV :=
  (lm K 116 [R 25 a1, R 51 a2]).bind fun d1 =>
  need (d1 = .tup [.int .i64 (getI (getT d1 0)), .int .i64 (getI (getT d1 1)), .int .i64 (getI (getT d1 2))]) <|
  bif getI (getT d1 1) != 0 then some (DV.tup [.int .i64 0, .int .i64 (getI (getT d1 1))])
  else (lm K 56 [R 25 a1]).bind fun d2 =>
  need (d2 = .sl .no 6 (getL d2)) <|
  bif (↑a3.length : Int) != (↑(getL d2).length : Int) then some (DV.tup [.int .i64 0, .int .i64 2])
  else (lm K 117 [R 25 a1, R 51 a2, .sl .no 1 a3]).bind fun d3 =>
  need (d3 = .tup [.int .i64 (getI (getT d3 0)), .bool (getB (getT d3 1))]) <|
  bif !getB (getT d3 1) then some (DV.tup [.int .i64 0, .int .i64 110])
  else some (DV.tup [.int .i64 (getI (getT d3 0)), .int .i64 0])
theorem t46 {K : Nat} (a1 : DV) (a2 : DV) (a3 : List DV) {r : DV} (h : T46 K a1 a2 a3 = some r) : lm K 46 [R 25 a1, R 51 a2, .sl .no 1 a3] = some r := fn_run (Eq.trans (by kernel_rfl) h)
/-! 49 49 -/
/-! 182 182 -/
noncomputable def T182 (K : Nat) (a1 : Bool) : Option DV :=
  bif a1 then some (DV.int .i64 1)
  else some (DV.int .i64 0)
theorem t182 {K : Nat} (a1 : Bool) {r : DV} (h : T182 K a1 = some r) : lm K 182 [.bool a1] = some r := fn_run (Eq.trans (by kernel_rfl) h)
/-! 183 183 -/
noncomputable def T183 (K : Nat) (a1 : Int) : Option DV :=
  bif a1 == -9223372036854775808 then some (DV.tup [.int .i64 0, .bool false])
  else some (DV.tup [.int .i64 (IntKind.i64.wrap (0 - a1)), .bool true])
theorem t183 {K : Nat} (a1 : Int) {r : DV} (h : T183 K a1 = some r) : lm K 183 [.int .i64 a1] = some r := fn_run (Eq.trans (by kernel_rfl) h)
/-! 184 184 -/
noncomputable def T184 (K : Nat) (a1 : Int) (a2 : Int) : Option DV :=
  (lm K 220 [.int .i64 a1]).bind fun d1 =>
  need (d1 = .int .u64 (getI d1)) <|
  (lm K 220 [.int .i64 a2]).bind fun d2 =>
  need (d2 = .int .u64 (getI d2)) <|
  bif (getI d1).fdiv (2 ^ min (Int.toNat 32) IntKind.u64.bits) != 0 then bif (getI d2).fdiv (2 ^ min (Int.toNat 32) IntKind.u64.bits) != 0 then some (DV.tup [.int .i64 0, .bool false])
   else bif decide (IntKind.u64.wrap (IntKind.u64.wrap ((getI d1).fdiv (2 ^ min (Int.toNat 32) IntKind.u64.bits) * IntKind.u64.wrap (↑(BitVec.ofInt IntKind.u64.bits (getI d2) &&& BitVec.ofInt IntKind.u64.bits 4294967295).toNat : Int)) + IntKind.u64.wrap ((getI d2).fdiv (2 ^ min (Int.toNat 32) IntKind.u64.bits) * IntKind.u64.wrap (↑(BitVec.ofInt IntKind.u64.bits (getI d1) &&& BitVec.ofInt IntKind.u64.bits 4294967295).toNat : Int))) ≥ 4294967296) then some (DV.tup [.int .i64 0, .bool false])
   else bif decide (IntKind.u64.wrap (IntKind.u64.wrap (IntKind.u64.wrap (IntKind.u64.wrap ((getI d1).fdiv (2 ^ min (Int.toNat 32) IntKind.u64.bits) * IntKind.u64.wrap (↑(BitVec.ofInt IntKind.u64.bits (getI d2) &&& BitVec.ofInt IntKind.u64.bits 4294967295).toNat : Int)) + IntKind.u64.wrap ((getI d2).fdiv (2 ^ min (Int.toNat 32) IntKind.u64.bits) * IntKind.u64.wrap (↑(BitVec.ofInt IntKind.u64.bits (getI d1) &&& BitVec.ofInt IntKind.u64.bits 4294967295).toNat : Int))) * 2 ^ min (Int.toNat 32) IntKind.u64.bits) + IntKind.u64.wrap (IntKind.u64.wrap (↑(BitVec.ofInt IntKind.u64.bits (getI d1) &&& BitVec.ofInt IntKind.u64.bits 4294967295).toNat : Int) * IntKind.u64.wrap (↑(BitVec.ofInt IntKind.u64.bits (getI d2) &&& BitVec.ofInt IntKind.u64.bits 4294967295).toNat : Int))) < IntKind.u64.wrap (IntKind.u64.wrap (↑(BitVec.ofInt IntKind.u64.bits (getI d1) &&& BitVec.ofInt IntKind.u64.bits 4294967295).toNat : Int) * IntKind.u64.wrap (↑(BitVec.ofInt IntKind.u64.bits (getI d2) &&& BitVec.ofInt IntKind.u64.bits 4294967295).toNat : Int))) then some (DV.tup [.int .i64 0, .bool false])
   else bif !decide (a1 < 0) == decide (a2 < 0) then bif decide (IntKind.u64.wrap (IntKind.u64.wrap (IntKind.u64.wrap (IntKind.u64.wrap ((getI d1).fdiv (2 ^ min (Int.toNat 32) IntKind.u64.bits) * IntKind.u64.wrap (↑(BitVec.ofInt IntKind.u64.bits (getI d2) &&& BitVec.ofInt IntKind.u64.bits 4294967295).toNat : Int)) + IntKind.u64.wrap ((getI d2).fdiv (2 ^ min (Int.toNat 32) IntKind.u64.bits) * IntKind.u64.wrap (↑(BitVec.ofInt IntKind.u64.bits (getI d1) &&& BitVec.ofInt IntKind.u64.bits 4294967295).toNat : Int))) * 2 ^ min (Int.toNat 32) IntKind.u64.bits) + IntKind.u64.wrap (IntKind.u64.wrap (↑(BitVec.ofInt IntKind.u64.bits (getI d1) &&& BitVec.ofInt IntKind.u64.bits 4294967295).toNat : Int) * IntKind.u64.wrap (↑(BitVec.ofInt IntKind.u64.bits (getI d2) &&& BitVec.ofInt IntKind.u64.bits 4294967295).toNat : Int))) > 9223372036854775808) then some (DV.tup [.int .i64 0, .bool false])
    else some (DV.tup [.int .i64 (IntKind.i64.wrap (IntKind.u64.wrap (0 - IntKind.u64.wrap (IntKind.u64.wrap (IntKind.u64.wrap (IntKind.u64.wrap ((getI d1).fdiv (2 ^ min (Int.toNat 32) IntKind.u64.bits) * IntKind.u64.wrap (↑(BitVec.ofInt IntKind.u64.bits (getI d2) &&& BitVec.ofInt IntKind.u64.bits 4294967295).toNat : Int)) + IntKind.u64.wrap ((getI d2).fdiv (2 ^ min (Int.toNat 32) IntKind.u64.bits) * IntKind.u64.wrap (↑(BitVec.ofInt IntKind.u64.bits (getI d1) &&& BitVec.ofInt IntKind.u64.bits 4294967295).toNat : Int))) * 2 ^ min (Int.toNat 32) IntKind.u64.bits) + IntKind.u64.wrap (IntKind.u64.wrap (↑(BitVec.ofInt IntKind.u64.bits (getI d1) &&& BitVec.ofInt IntKind.u64.bits 4294967295).toNat : Int) * IntKind.u64.wrap (↑(BitVec.ofInt IntKind.u64.bits (getI d2) &&& BitVec.ofInt IntKind.u64.bits 4294967295).toNat : Int)))))), .bool true])
   else bif decide (IntKind.u64.wrap (IntKind.u64.wrap (IntKind.u64.wrap (IntKind.u64.wrap ((getI d1).fdiv (2 ^ min (Int.toNat 32) IntKind.u64.bits) * IntKind.u64.wrap (↑(BitVec.ofInt IntKind.u64.bits (getI d2) &&& BitVec.ofInt IntKind.u64.bits 4294967295).toNat : Int)) + IntKind.u64.wrap ((getI d2).fdiv (2 ^ min (Int.toNat 32) IntKind.u64.bits) * IntKind.u64.wrap (↑(BitVec.ofInt IntKind.u64.bits (getI d1) &&& BitVec.ofInt IntKind.u64.bits 4294967295).toNat : Int))) * 2 ^ min (Int.toNat 32) IntKind.u64.bits) + IntKind.u64.wrap (IntKind.u64.wrap (↑(BitVec.ofInt IntKind.u64.bits (getI d1) &&& BitVec.ofInt IntKind.u64.bits 4294967295).toNat : Int) * IntKind.u64.wrap (↑(BitVec.ofInt IntKind.u64.bits (getI d2) &&& BitVec.ofInt IntKind.u64.bits 4294967295).toNat : Int))) > 9223372036854775807) then some (DV.tup [.int .i64 0, .bool false])
   else some (DV.tup [.int .i64 (IntKind.i64.wrap (IntKind.u64.wrap (IntKind.u64.wrap (IntKind.u64.wrap (IntKind.u64.wrap ((getI d1).fdiv (2 ^ min (Int.toNat 32) IntKind.u64.bits) * IntKind.u64.wrap (↑(BitVec.ofInt IntKind.u64.bits (getI d2) &&& BitVec.ofInt IntKind.u64.bits 4294967295).toNat : Int)) + IntKind.u64.wrap ((getI d2).fdiv (2 ^ min (Int.toNat 32) IntKind.u64.bits) * IntKind.u64.wrap (↑(BitVec.ofInt IntKind.u64.bits (getI d1) &&& BitVec.ofInt IntKind.u64.bits 4294967295).toNat : Int))) * 2 ^ min (Int.toNat 32) IntKind.u64.bits) + IntKind.u64.wrap (IntKind.u64.wrap (↑(BitVec.ofInt IntKind.u64.bits (getI d1) &&& BitVec.ofInt IntKind.u64.bits 4294967295).toNat : Int) * IntKind.u64.wrap (↑(BitVec.ofInt IntKind.u64.bits (getI d2) &&& BitVec.ofInt IntKind.u64.bits 4294967295).toNat : Int))))), .bool true])
  else bif decide (IntKind.u64.wrap (IntKind.u64.wrap ((getI d1).fdiv (2 ^ min (Int.toNat 32) IntKind.u64.bits) * IntKind.u64.wrap (↑(BitVec.ofInt IntKind.u64.bits (getI d2) &&& BitVec.ofInt IntKind.u64.bits 4294967295).toNat : Int)) + IntKind.u64.wrap ((getI d2).fdiv (2 ^ min (Int.toNat 32) IntKind.u64.bits) * IntKind.u64.wrap (↑(BitVec.ofInt IntKind.u64.bits (getI d1) &&& BitVec.ofInt IntKind.u64.bits 4294967295).toNat : Int))) ≥ 4294967296) then some (DV.tup [.int .i64 0, .bool false])
  else bif decide (IntKind.u64.wrap (IntKind.u64.wrap (IntKind.u64.wrap (IntKind.u64.wrap ((getI d1).fdiv (2 ^ min (Int.toNat 32) IntKind.u64.bits) * IntKind.u64.wrap (↑(BitVec.ofInt IntKind.u64.bits (getI d2) &&& BitVec.ofInt IntKind.u64.bits 4294967295).toNat : Int)) + IntKind.u64.wrap ((getI d2).fdiv (2 ^ min (Int.toNat 32) IntKind.u64.bits) * IntKind.u64.wrap (↑(BitVec.ofInt IntKind.u64.bits (getI d1) &&& BitVec.ofInt IntKind.u64.bits 4294967295).toNat : Int))) * 2 ^ min (Int.toNat 32) IntKind.u64.bits) + IntKind.u64.wrap (IntKind.u64.wrap (↑(BitVec.ofInt IntKind.u64.bits (getI d1) &&& BitVec.ofInt IntKind.u64.bits 4294967295).toNat : Int) * IntKind.u64.wrap (↑(BitVec.ofInt IntKind.u64.bits (getI d2) &&& BitVec.ofInt IntKind.u64.bits 4294967295).toNat : Int))) < IntKind.u64.wrap (IntKind.u64.wrap (↑(BitVec.ofInt IntKind.u64.bits (getI d1) &&& BitVec.ofInt IntKind.u64.bits 4294967295).toNat : Int) * IntKind.u64.wrap (↑(BitVec.ofInt IntKind.u64.bits (getI d2) &&& BitVec.ofInt IntKind.u64.bits 4294967295).toNat : Int))) then some (DV.tup [.int .i64 0, .bool false])
  else bif !decide (a1 < 0) == decide (a2 < 0) then bif decide (IntKind.u64.wrap (IntKind.u64.wrap (IntKind.u64.wrap (IntKind.u64.wrap ((getI d1).fdiv (2 ^ min (Int.toNat 32) IntKind.u64.bits) * IntKind.u64.wrap (↑(BitVec.ofInt IntKind.u64.bits (getI d2) &&& BitVec.ofInt IntKind.u64.bits 4294967295).toNat : Int)) + IntKind.u64.wrap ((getI d2).fdiv (2 ^ min (Int.toNat 32) IntKind.u64.bits) * IntKind.u64.wrap (↑(BitVec.ofInt IntKind.u64.bits (getI d1) &&& BitVec.ofInt IntKind.u64.bits 4294967295).toNat : Int))) * 2 ^ min (Int.toNat 32) IntKind.u64.bits) + IntKind.u64.wrap (IntKind.u64.wrap (↑(BitVec.ofInt IntKind.u64.bits (getI d1) &&& BitVec.ofInt IntKind.u64.bits 4294967295).toNat : Int) * IntKind.u64.wrap (↑(BitVec.ofInt IntKind.u64.bits (getI d2) &&& BitVec.ofInt IntKind.u64.bits 4294967295).toNat : Int))) > 9223372036854775808) then some (DV.tup [.int .i64 0, .bool false])
   else some (DV.tup [.int .i64 (IntKind.i64.wrap (IntKind.u64.wrap (0 - IntKind.u64.wrap (IntKind.u64.wrap (IntKind.u64.wrap (IntKind.u64.wrap ((getI d1).fdiv (2 ^ min (Int.toNat 32) IntKind.u64.bits) * IntKind.u64.wrap (↑(BitVec.ofInt IntKind.u64.bits (getI d2) &&& BitVec.ofInt IntKind.u64.bits 4294967295).toNat : Int)) + IntKind.u64.wrap ((getI d2).fdiv (2 ^ min (Int.toNat 32) IntKind.u64.bits) * IntKind.u64.wrap (↑(BitVec.ofInt IntKind.u64.bits (getI d1) &&& BitVec.ofInt IntKind.u64.bits 4294967295).toNat : Int))) * 2 ^ min (Int.toNat 32) IntKind.u64.bits) + IntKind.u64.wrap (IntKind.u64.wrap (↑(BitVec.ofInt IntKind.u64.bits (getI d1) &&& BitVec.ofInt IntKind.u64.bits 4294967295).toNat : Int) * IntKind.u64.wrap (↑(BitVec.ofInt IntKind.u64.bits (getI d2) &&& BitVec.ofInt IntKind.u64.bits 4294967295).toNat : Int)))))), .bool true])
  else bif decide (IntKind.u64.wrap (IntKind.u64.wrap (IntKind.u64.wrap (IntKind.u64.wrap ((getI d1).fdiv (2 ^ min (Int.toNat 32) IntKind.u64.bits) * IntKind.u64.wrap (↑(BitVec.ofInt IntKind.u64.bits (getI d2) &&& BitVec.ofInt IntKind.u64.bits 4294967295).toNat : Int)) + IntKind.u64.wrap ((getI d2).fdiv (2 ^ min (Int.toNat 32) IntKind.u64.bits) * IntKind.u64.wrap (↑(BitVec.ofInt IntKind.u64.bits (getI d1) &&& BitVec.ofInt IntKind.u64.bits 4294967295).toNat : Int))) * 2 ^ min (Int.toNat 32) IntKind.u64.bits) + IntKind.u64.wrap (IntKind.u64.wrap (↑(BitVec.ofInt IntKind.u64.bits (getI d1) &&& BitVec.ofInt IntKind.u64.bits 4294967295).toNat : Int) * IntKind.u64.wrap (↑(BitVec.ofInt IntKind.u64.bits (getI d2) &&& BitVec.ofInt IntKind.u64.bits 4294967295).toNat : Int))) > 9223372036854775807) then some (DV.tup [.int .i64 0, .bool false])
  else some (DV.tup [.int .i64 (IntKind.i64.wrap (IntKind.u64.wrap (IntKind.u64.wrap (IntKind.u64.wrap (IntKind.u64.wrap ((getI d1).fdiv (2 ^ min (Int.toNat 32) IntKind.u64.bits) * IntKind.u64.wrap (↑(BitVec.ofInt IntKind.u64.bits (getI d2) &&& BitVec.ofInt IntKind.u64.bits 4294967295).toNat : Int)) + IntKind.u64.wrap ((getI d2).fdiv (2 ^ min (Int.toNat 32) IntKind.u64.bits) * IntKind.u64.wrap (↑(BitVec.ofInt IntKind.u64.bits (getI d1) &&& BitVec.ofInt IntKind.u64.bits 4294967295).toNat : Int))) * 2 ^ min (Int.toNat 32) IntKind.u64.bits) + IntKind.u64.wrap (IntKind.u64.wrap (↑(BitVec.ofInt IntKind.u64.bits (getI d1) &&& BitVec.ofInt IntKind.u64.bits 4294967295).toNat : Int) * IntKind.u64.wrap (↑(BitVec.ofInt IntKind.u64.bits (getI d2) &&& BitVec.ofInt IntKind.u64.bits 4294967295).toNat : Int))))), .bool true])
theorem t184 {K : Nat} (a1 : Int) (a2 : Int) {r : DV} (h : T184 K a1 a2 = some r) : lm K 184 [.int .i64 a1, .int .i64 a2] = some r := fn_run (Eq.trans (by kernel_rfl) h)
/-! 185 185 -/
noncomputable def T185 (K : Nat) (a1 : Int) (a2 : Int) (a3 : Int) : Option DV :=
  bif a1 == 8 then (lm K 221 [.int .i64 a2, .int .i64 a3]).bind fun d1 =>
   need (d1 = .tup [.int .i64 (getI (getT d1 0)), .bool (getB (getT d1 1))]) <|
   some (DV.tup [.int .i64 (getI (getT d1 0)), .bool (getB (getT d1 1))])
  else bif a1 == 9 then (lm K 222 [.int .i64 a2, .int .i64 a3]).bind fun d2 =>
   need (d2 = .tup [.int .i64 (getI (getT d2 0)), .bool (getB (getT d2 1))]) <|
   some (DV.tup [.int .i64 (getI (getT d2 0)), .bool (getB (getT d2 1))])
  else bif a1 == 10 then (lm K 182 [.bool (a2 == a3)]).bind fun d3 =>
   need (d3 = .int .i64 (getI d3)) <|
   some (DV.tup [.int .i64 (getI d3), .bool true])
  else bif a1 == 11 then (lm K 182 [.bool (a2 != a3)]).bind fun d4 =>
   need (d4 = .int .i64 (getI d4)) <|
   some (DV.tup [.int .i64 (getI d4), .bool true])
  else bif a1 == 12 then (lm K 182 [.bool (decide (a2 < a3))]).bind fun d5 =>
   need (d5 = .int .i64 (getI d5)) <|
   some (DV.tup [.int .i64 (getI d5), .bool true])
  else bif a1 == 13 then (lm K 182 [.bool (decide (a2 ≤ a3))]).bind fun d6 =>
   need (d6 = .int .i64 (getI d6)) <|
   some (DV.tup [.int .i64 (getI d6), .bool true])
  else bif a1 == 14 then (lm K 182 [.bool (decide (a2 > a3))]).bind fun d7 =>
   need (d7 = .int .i64 (getI d7)) <|
   some (DV.tup [.int .i64 (getI d7), .bool true])
  else (lm K 182 [.bool (decide (a2 ≥ a3))]).bind fun d8 =>
  need (d8 = .int .i64 (getI d8)) <|
  some (DV.tup [.int .i64 (getI d8), .bool true])
theorem t185 {K : Nat} (a1 : Int) (a2 : Int) (a3 : Int) {r : DV} (h : T185 K a1 a2 a3 = some r) : lm K 185 [.int .i64 a1, .int .i64 a2, .int .i64 a3] = some r := fn_run (Eq.trans (by kernel_rfl) h)
/-! 218 218 -/
noncomputable def T218 (K : Nat) (a1 : Int) : Option DV :=
  bif a1 == 5 then some (DV.int .i64 1)
  else bif a1 == 16 then some (DV.int .i64 1)
  else bif a1 == 17 then some (DV.int .i64 1)
  else bif a1 == 10 then some (DV.int .i64 0)
  else bif a1 == 11 then some (DV.int .i64 0)
  else some (DV.int .i64 2)
theorem t218 {K : Nat} (a1 : Int) {r : DV} (h : T218 K a1 = some r) : lm K 218 [.int .i64 a1] = some r := fn_run (Eq.trans (by kernel_rfl) h)
/-! 219 219 -/
noncomputable def T219 (K : Nat) (a1 : Int) : Option DV :=
  bif a1 == 1 then some (DV.int .i64 2)
  else bif decide (a1 ≥ 6) then bif decide (a1 ≤ 9) then some (DV.int .i64 2)
   else some (DV.int .i64 1)
  else some (DV.int .i64 1)
theorem t219 {K : Nat} (a1 : Int) {r : DV} (h : T219 K a1 = some r) : lm K 219 [.int .i64 a1] = some r := fn_run (Eq.trans (by kernel_rfl) h)
/-! 220 220 -/
noncomputable def T220 (K : Nat) (a1 : Int) : Option DV :=
  bif decide (a1 < 0) then some (DV.int .u64 (IntKind.u64.wrap (IntKind.u64.wrap (IntKind.i64.wrap (0 - IntKind.i64.wrap (a1 + 1))) + 1)))
  else some (DV.int .u64 (IntKind.u64.wrap a1))
theorem t220 {K : Nat} (a1 : Int) {r : DV} (h : T220 K a1 = some r) : lm K 220 [.int .i64 a1] = some r := fn_run (Eq.trans (by kernel_rfl) h)
/-! 221 221 -/
noncomputable def T221 (K : Nat) (a1 : Int) (a2 : Int) : Option DV :=
  bif decide (a2 > 0) then bif decide (a1 > IntKind.i64.wrap (9223372036854775807 - a2)) then some (DV.tup [.int .i64 0, .bool false])
   else bif decide (a2 < 0) then bif decide (a1 < IntKind.i64.wrap (-9223372036854775808 - a2)) then some (DV.tup [.int .i64 0, .bool false])
    else some (DV.tup [.int .i64 (IntKind.i64.wrap (a1 + a2)), .bool true])
   else some (DV.tup [.int .i64 (IntKind.i64.wrap (a1 + a2)), .bool true])
  else bif decide (a2 < 0) then bif decide (a1 < IntKind.i64.wrap (-9223372036854775808 - a2)) then some (DV.tup [.int .i64 0, .bool false])
   else some (DV.tup [.int .i64 (IntKind.i64.wrap (a1 + a2)), .bool true])
  else some (DV.tup [.int .i64 (IntKind.i64.wrap (a1 + a2)), .bool true])
theorem t221 {K : Nat} (a1 : Int) (a2 : Int) {r : DV} (h : T221 K a1 a2 = some r) : lm K 221 [.int .i64 a1, .int .i64 a2] = some r := fn_run (Eq.trans (by kernel_rfl) h)
/-! 222 222 -/
noncomputable def T222 (K : Nat) (a1 : Int) (a2 : Int) : Option DV :=
  bif decide (a2 < 0) then bif decide (a1 > IntKind.i64.wrap (9223372036854775807 + a2)) then some (DV.tup [.int .i64 0, .bool false])
   else bif decide (a2 > 0) then bif decide (a1 < IntKind.i64.wrap (-9223372036854775808 + a2)) then some (DV.tup [.int .i64 0, .bool false])
    else some (DV.tup [.int .i64 (IntKind.i64.wrap (a1 - a2)), .bool true])
   else some (DV.tup [.int .i64 (IntKind.i64.wrap (a1 - a2)), .bool true])
  else bif decide (a2 > 0) then bif decide (a1 < IntKind.i64.wrap (-9223372036854775808 + a2)) then some (DV.tup [.int .i64 0, .bool false])
   else some (DV.tup [.int .i64 (IntKind.i64.wrap (a1 - a2)), .bool true])
  else some (DV.tup [.int .i64 (IntKind.i64.wrap (a1 - a2)), .bool true])
theorem t222 {K : Nat} (a1 : Int) (a2 : Int) {r : DV} (h : T222 K a1 a2 = some r) : lm K 222 [.int .i64 a1, .int .i64 a2] = some r := fn_run (Eq.trans (by kernel_rfl) h)
end Go.Proofs.Ytmfgdnagmacgdaa.Dv
end
section
/- Trees of questions of functions of the program (printed by a program of this session, wip/dv/sym.txt). No condition. -/
set_option maxRecDepth 100000
set_option linter.unusedVariables false
namespace Go.Proofs.Ytmfgdnagmacgdaa.Dv
/-! 8 8 -/
/-! 10 10 -/
/-! 11 11 -/
end Go.Proofs.Ytmfgdnagmacgdaa.Dv
end
section
/- Trees of questions of functions of the program (printed by a program of this session, wip/dv/sym.txt). No condition. -/
set_option maxRecDepth 100000
set_option linter.unusedVariables false
namespace Go.Proofs.Ytmfgdnagmacgdaa.Dv
/-! 131 131 -/
noncomputable def T131 (K : Nat) (a1 : DV) (a2 : DV) (a3 : Int) : Option DV :=
  (lm K 55 [R 25 a1, R 51 a2]).bind fun d1 =>
  need (d1 = .tup [.int .i64 (getI (getT d1 0)), .int .i64 (getI (getT d1 1)), .int .i64 (getI (getT d1 2))]) <|
  bif getI (getT d1 1) == 0 then some (DV.bool (getI (getT d1 0) == a3))
  else some (DV.bool false)
theorem t131 {K : Nat} (a1 : DV) (a2 : DV) (a3 : Int) {r : DV} (h : T131 K a1 a2 a3 = some r) : lm K 131 [R 25 a1, R 51 a2, .int .i64 a3] = some r := fn_run (Eq.trans (by kernel_rfl) h)

/-! 132 132 -/
noncomputable def T132 (K : Nat) (a1 : DV) (a2 : DV) : Option DV :=
  bif gI a2 0 == 1 then (lm K 193 [.int .i64 (gI a2 3), .bool true, .int .i64 (gI a2 3), .bool true]).bind fun d1 =>
   need (d1 = R 169 d1) <|
   some (R 169 d1)
  else bif gI a2 0 == 4 then (lm K 43 [R 25 a1, .str (gS a2 1), .str (gS a2 2)]).bind fun d2 =>
   need (d2 = .tup [.int .i64 (getI (getT d2 0)), .bool (getB (getT d2 1))]) <|
   (lm K 134 [R 25 a1, .int .i64 (getI (getT d2 0))]).bind fun d3 =>
   need (d3 = .tup [.agg [.str (gS (getT d3 0) 0), .int .i64 (gI (getT d3 0) 1), .int .i64 (gI (getT d3 0) 2), .int .i64 (gI (getT d3 0) 3), .int .i64 (gI (getT d3 0) 4), .int .i64 (gI (getT d3 0) 5)], .bool (getB (getT d3 1))]) <|
   bif gI (getT d3 0) 1 == 3 then (lm K 193 [.int .i64 (gI (getT d3 0) 2), .bool (getB (getT d3 1)), .int .i64 (gI (getT d3 0) 3), .bool (getB (getT d3 1))]).bind fun d4 =>
    need (d4 = R 169 d4) <|
    some (R 169 d4)
   else (lm K 193 [.int .i64 (-9223372036854775808), .bool (getB (getT d3 1)), .int .i64 9223372036854775807, .bool (getB (getT d3 1))]).bind fun d5 =>
   need (d5 = R 169 d5) <|
   some (R 169 d5)
  else need ((0 : Int) ≤ (0 : Int)) <|
  ((gL a2 4)[Int.toNat 0]?).bind fun x6 =>
  need (x6 = R 51 x6) <|
  (lm K 132 [R 25 a1, R 51 x6]).bind fun d7 =>
  need (d7 = R 169 d7) <|
  bif !gB d7 2 then some (R 169 d7)
  else bif gI a2 0 == 6 then (lm K 194 [.int .i64 (gI d7 1)]).bind fun d8 =>
   need (d8 = .tup [.int .i64 (getI (getT d8 0)), .bool (getB (getT d8 1))]) <|
   (lm K 194 [.int .i64 (gI d7 0)]).bind fun d9 =>
   need (d9 = .tup [.int .i64 (getI (getT d9 0)), .bool (getB (getT d9 1))]) <|
   (lm K 193 [.int .i64 (getI (getT d8 0)), .bool (getB (getT d8 1)), .int .i64 (getI (getT d9 0)), .bool (getB (getT d9 1))]).bind fun d10 =>
   need (d10 = R 169 d10) <|
   some (R 169 d10)
  else bif gI a2 0 == 7 then (lm K 195 [.int .i64 (gI a2 3), .int .i64 (gI d7 0)]).bind fun d11 =>
   need (d11 = .tup [.int .i64 (getI (getT d11 0)), .bool (getB (getT d11 1))]) <|
   (lm K 195 [.int .i64 (gI a2 3), .int .i64 (gI d7 1)]).bind fun d12 =>
   need (d12 = .tup [.int .i64 (getI (getT d12 0)), .bool (getB (getT d12 1))]) <|
   (lm K 193 [.int .i64 (getI (getT d11 0)), .bool (getB (getT d11 1)), .int .i64 (getI (getT d12 0)), .bool (getB (getT d12 1))]).bind fun d13 =>
   need (d13 = R 169 d13) <|
   some (R 169 d13)
  else need ((0 : Int) ≤ (1 : Int)) <|
  ((gL a2 4)[Int.toNat 1]?).bind fun x14 =>
  need (x14 = R 51 x14) <|
  (lm K 132 [R 25 a1, R 51 x14]).bind fun d15 =>
  need (d15 = R 169 d15) <|
  bif !gB d15 2 then some (R 169 d15)
  else bif gI a2 0 == 8 then (lm K 196 [.int .i64 (gI d7 0), .int .i64 (gI d15 0)]).bind fun d16 =>
   need (d16 = .tup [.int .i64 (getI (getT d16 0)), .bool (getB (getT d16 1))]) <|
   (lm K 196 [.int .i64 (gI d7 1), .int .i64 (gI d15 1)]).bind fun d17 =>
   need (d17 = .tup [.int .i64 (getI (getT d17 0)), .bool (getB (getT d17 1))]) <|
   (lm K 193 [.int .i64 (getI (getT d16 0)), .bool (getB (getT d16 1)), .int .i64 (getI (getT d17 0)), .bool (getB (getT d17 1))]).bind fun d18 =>
   need (d18 = R 169 d18) <|
   some (R 169 d18)
  else (lm K 197 [.int .i64 (gI d7 0), .int .i64 (gI d15 1)]).bind fun d19 =>
  need (d19 = .tup [.int .i64 (getI (getT d19 0)), .bool (getB (getT d19 1))]) <|
  (lm K 197 [.int .i64 (gI d7 1), .int .i64 (gI d15 0)]).bind fun d20 =>
  need (d20 = .tup [.int .i64 (getI (getT d20 0)), .bool (getB (getT d20 1))]) <|
  (lm K 193 [.int .i64 (getI (getT d19 0)), .bool (getB (getT d19 1)), .int .i64 (getI (getT d20 0)), .bool (getB (getT d20 1))]).bind fun d21 =>
  need (d21 = R 169 d21) <|
  some (R 169 d21)
theorem t132 {K : Nat} (a1 : DV) (a2 : DV) {r : DV} (h : T132 K a1 a2 = some r) : lm K 132 [R 25 a1, R 51 a2] = some r := fn_run (Eq.trans (by kernel_rfl) h)

/-! 133 133 -/
noncomputable def H133_0 (a1 : DV) (a2 : DV) (v5 : Int) : St := ⟨[.undef, .undef] ++ [.ptr 0 0] ++ (un 12) ++ [.sl .no 6 (gL a2 4), .int .i64 ((↑(gL a2 4).length : Int)), .int .i64 v5] ++ (un 8), [.box ((R 25 a1).cells), .box ((R 51 a2).cells)]⟩
def P133_0 : List Dir := [.c, .r, .l, .r, .r]
noncomputable def hd133_0 (K : Nat) (a1 : DV) (a2 : DV) (v5 : Int) : Option DV := hdL Try.prog (C0 K) 133 P133_0 (bits 26 229380) 2 (H133_0 a1 a2 v5)
noncomputable def T133 (K : Nat) (a1 : DV) (a2 : DV) : Option DV :=
  (lm K 131 [R 25 a1, R 51 a2, .int .i64 2]).bind fun d6 =>
  need (d6 = .bool (getB d6)) <|
  bif getB d6 then (lm K 132 [R 25 a1, R 51 a2]).bind fun d7 =>
   need (d7 = R 169 d7) <|
   some (DV.bool (gB d7 2))
  else hd133_0 K a1 a2 0
theorem t133 {K : Nat} (a1 : DV) (a2 : DV) {r : DV} (h : T133 K a1 a2 = some r) : lm K 133 [R 25 a1, R 51 a2] = some r := fn_run (Eq.trans (by kernel_rfl) h)
noncomputable def L133_0 (K : Nat) (a1 : DV) (a2 : DV) (v5 : Int) : Option DV :=
  bif decide (v5 < (↑(gL a2 4).length : Int)) then need ((0 : Int) ≤ v5) <|
   ((gL a2 4)[v5.toNat]?).bind fun x8 =>
   need (x8 = R 51 x8) <|
   (lm K 133 [R 25 a1, R 51 x8]).bind fun d9 =>
   need (d9 = .bool (getB d9)) <|
   bif !getB d9 then some (DV.bool false)
   else hd133_0 K a1 a2 (IntKind.i64.wrap (v5 + 1))
  else some (DV.bool true)
theorem l133_0 {K : Nat} (a1 : DV) (a2 : DV) (v5 : Int) {r : DV} (h : L133_0 K a1 a2 v5 = some r) : hd133_0 K a1 a2 v5 = some r := hd_run (Eq.trans (by kernel_rfl) h)

/-! 134 134 -/
noncomputable def T134 (K : Nat) (a1 : DV) (a2 : Int) : Option DV :=
  (lm K 102 [R 25 a1]).bind fun d1 =>
  need (d1 = .sl .no 6 (getL d1)) <|
  bif decide (a2 < 0) then some (DV.tup [.agg [.str (ByteArray.mk #[]), .int .i64 0, .int .i64 0, .int .i64 0, .int .i64 0, .int .i64 0], .bool false])
  else bif decide (a2 ≥ (↑(getL d1).length : Int)) then some (DV.tup [.agg [.str (ByteArray.mk #[]), .int .i64 0, .int .i64 0, .int .i64 0, .int .i64 0, .int .i64 0], .bool false])
  else need ((0 : Int) ≤ a2) <|
  ((getL d1)[a2.toNat]?).bind fun x2 =>
  need (x2 = R 61 x2) <|
  some (DV.tup [R 61 x2, .bool true])
theorem t134 {K : Nat} (a1 : DV) (a2 : Int) {r : DV} (h : T134 K a1 a2 = some r) : lm K 134 [R 25 a1, .int .i64 a2] = some r := fn_run (Eq.trans (by kernel_rfl) h)

/-! 193 193 -/
noncomputable def T193 (K : Nat) (a1 : Int) (a2 : Bool) (a3 : Int) (a4 : Bool) : Option DV :=
  bif !a2 then some (DV.agg [.int .i64 0, .int .i64 0, .bool false])
  else bif !a4 then some (DV.agg [.int .i64 0, .int .i64 0, .bool false])
  else some (DV.agg [.int .i64 a1, .int .i64 a3, .bool true])
theorem t193 {K : Nat} (a1 : Int) (a2 : Bool) (a3 : Int) (a4 : Bool) {r : DV} (h : T193 K a1 a2 a3 a4 = some r) : lm K 193 [.int .i64 a1, .bool a2, .int .i64 a3, .bool a4] = some r := fn_run (Eq.trans (by kernel_rfl) h)

/-! 66 66 -/
noncomputable def T66 (K : Nat) (a1 : DV) (a2 : DV) : Option DV :=
  (lm K 131 [R 25 a1, R 51 a2, .int .i64 2]).bind fun d1 =>
  need (d1 = .bool (getB d1)) <|
  bif !getB d1 then some (DV.tup [.agg [.int .i64 0, .int .i64 0], .bool false])
  else (lm K 132 [R 25 a1, R 51 a2]).bind fun d2 =>
  need (d2 = R 169 d2) <|
  some (DV.tup [.agg [.int .i64 (gI d2 0), .int .i64 (gI d2 1)], .bool (gB d2 2)])
theorem t66 {K : Nat} (a1 : DV) (a2 : DV) {r : DV} (h : T66 K a1 a2 = some r) : lm K 66 [R 25 a1, R 51 a2] = some r := fn_run (Eq.trans (by kernel_rfl) h)

/-! 64 64 -/
noncomputable def H64_0 (a1 : DV) (a2 : List DV) (d1 : DV) (v5 : Int) : St := ⟨[.undef] ++ [.sl .no 1 a2] ++ [.undef, .undef, .undef] ++ [.sl .no 6 (getL d1), .int .i64 v5] ++ (un 23), [.box ((R 25 a1).cells)]⟩
def P64_0 : List Dir := [.c, .r, .l, .r, .r, .r]
noncomputable def hd64_0 (K : Nat) (a1 : DV) (a2 : List DV) (d1 : DV) (v5 : Int) : Option DV := hdL Try.prog (C0 K) 64 P64_0 (bits 30 98) 1 (H64_0 a1 a2 d1 v5)
noncomputable def T64 (K : Nat) (a1 : DV) (a2 : List DV) : Option DV :=
  (lm K 56 [R 25 a1]).bind fun d6 =>
  need (d6 = .sl .no 6 (getL d6)) <|
  bif (↑(getL d6).length : Int) != (↑a2.length : Int) then some (DV.bool false)
  else hd64_0 K a1 a2 d6 0
theorem t64 {K : Nat} (a1 : DV) (a2 : List DV) {r : DV} (h : T64 K a1 a2 = some r) : lm K 64 [R 25 a1, .sl .no 1 a2] = some r := fn_run (Eq.trans (by kernel_rfl) h)
noncomputable def L64_0 (K : Nat) (a1 : DV) (a2 : List DV) (d1 : DV) (v5 : Int) : Option DV :=
  bif decide (v5 < (↑(getL d1).length : Int)) then need ((0 : Int) ≤ v5) <|
   ((getL d1)[v5.toNat]?).bind fun x7 =>
   need (x7 = R 61 x7) <|
   need ((0 : Int) ≤ v5) <|
   (a2[v5.toNat]?).bind fun x8 =>
   need (x8 = .int .i64 (getI x8)) <|
   (lm K 121 [R 61 x7, .int .i64 (getI x8)]).bind fun d9 =>
   need (d9 = .bool (getB d9)) <|
   bif !getB d9 then some (DV.bool false)
   else hd64_0 K a1 a2 d1 (IntKind.i64.wrap (v5 + 1))
  else some (DV.bool true)
theorem l64_0 {K : Nat} (a1 : DV) (a2 : List DV) (d1 : DV) (v5 : Int) {r : DV} (h : L64_0 K a1 a2 d1 v5 = some r) : hd64_0 K a1 a2 d1 v5 = some r := hd_run (Eq.trans (by kernel_rfl) h)

/-! 67 67 -/
noncomputable def T67 (K : Nat) (a1 : DV) (a2 : DV) : Option DV :=
  bif gI a2 2 == 2 then (lm K 131 [R 25 a1, .agg [.int .i64 (gI a2 5), .str (gS a2 6), .str (gS a2 7), .int .i64 (gI a2 8), .sl .no 6 (gL a2 9), .int .i64 (gI a2 10)], .int .i64 1]).bind fun d1 =>
   need (d1 = .bool (getB d1)) <|
   bif getB d1 then (lm K 133 [R 25 a1, .agg [.int .i64 (gI a2 5), .str (gS a2 6), .str (gS a2 7), .int .i64 (gI a2 8), .sl .no 6 (gL a2 9), .int .i64 (gI a2 10)]]).bind fun d2 =>
    need (d2 = .bool (getB d2)) <|
    some (DV.bool (getB d2))
   else some (DV.bool false)
  else bif gI a2 2 == 3 then (lm K 134 [R 25 a1, .int .i64 (gI a2 4)]).bind fun d3 =>
   need (d3 = .tup [.agg [.str (gS (getT d3 0) 0), .int .i64 (gI (getT d3 0) 1), .int .i64 (gI (getT d3 0) 2), .int .i64 (gI (getT d3 0) 3), .int .i64 (gI (getT d3 0) 4), .int .i64 (gI (getT d3 0) 5)], .bool (getB (getT d3 1))]) <|
   bif !getB (getT d3 1) then some (DV.bool false)
   else (lm K 131 [R 25 a1, .agg [.int .i64 (gI a2 5), .str (gS a2 6), .str (gS a2 7), .int .i64 (gI a2 8), .sl .no 6 (gL a2 9), .int .i64 (gI a2 10)], .int .i64 1]).bind fun d4 =>
   need (d4 = .bool (getB d4)) <|
   bif getB d4 then bif gI (getT d3 0) 1 != 3 then (lm K 133 [R 25 a1, .agg [.int .i64 (gI a2 5), .str (gS a2 6), .str (gS a2 7), .int .i64 (gI a2 8), .sl .no 6 (gL a2 9), .int .i64 (gI a2 10)]]).bind fun d5 =>
     need (d5 = .bool (getB d5)) <|
     some (DV.bool (getB d5))
    else some (DV.bool false)
   else (lm K 66 [R 25 a1, .agg [.int .i64 (gI a2 5), .str (gS a2 6), .str (gS a2 7), .int .i64 (gI a2 8), .sl .no 6 (gL a2 9), .int .i64 (gI a2 10)]]).bind fun d6 =>
   need (d6 = .tup [.agg [.int .i64 (gI (getT d6 0) 0), .int .i64 (gI (getT d6 0) 1)], .bool (getB (getT d6 1))]) <|
   bif getB (getT d6 1) then bif gI (getT d3 0) 1 != 3 then some (DV.bool true)
    else bif decide (gI (getT d3 0) 2 ≤ gI (getT d6 0) 0) then some (DV.bool (decide (gI (getT d6 0) 1 ≤ gI (getT d3 0) 3)))
    else some (DV.bool false)
   else some (DV.bool false)
  else some (DV.bool true)
theorem t67 {K : Nat} (a1 : DV) (a2 : DV) {r : DV} (h : T67 K a1 a2 = some r) : lm K 67 [R 25 a1, R 86 a2] = some r := fn_run (Eq.trans (by kernel_rfl) h)

end Go.Proofs.Ytmfgdnagmacgdaa.Dv
end
section
/- Trees of questions of functions of the program (printed by a program of this session, wip/dv/sym.txt). No condition. -/
set_option maxRecDepth 100000
set_option linter.unusedVariables false
namespace Go.Proofs.Ytmfgdnagmacgdaa.Dv
/-! 17 17 -/
noncomputable def T17 (K : Nat) (a1 : DV) (a2 : DV) (a3 : List DV) : Option DV :=
  (lm K 63 [R 25 a1, .sl .full 6 [.agg [.int .i64 (gI a2 5), .str (gS a2 6), .str (gS a2 7), .int .i64 (gI a2 8), .sl .no 6 (gL a2 9), .int .i64 (gI a2 10)]]]).bind fun d1 =>
  need (d1 = .bool (getB d1)) <|
  bif !getB d1 then (lm K 65 []).bind fun d2 =>
   need (d2 = .bool (getB d2)) <|
   some (DV.bool (getB d2))
  else bif decide ((↑a3.length : Int) > 120) then (lm K 65 []).bind fun d3 =>
   need (d3 = .bool (getB d3)) <|
   some (DV.bool (getB d3))
  else (lm K 64 [R 25 a1, .sl .no 1 a3]).bind fun d4 =>
  need (d4 = .bool (getB d4)) <|
  bif !getB d4 then (lm K 65 []).bind fun d5 =>
   need (d5 = .bool (getB d5)) <|
   some (DV.bool (getB d5))
  else (lm K 66 [R 25 a1, .agg [.int .i64 (gI a2 5), .str (gS a2 6), .str (gS a2 7), .int .i64 (gI a2 8), .sl .no 6 (gL a2 9), .int .i64 (gI a2 10)]]).bind fun d6 =>
  need (d6 = .tup [.agg [.int .i64 (gI (getT d6 0) 0), .int .i64 (gI (getT d6 0) 1)], .bool (getB (getT d6 1))]) <|
  (lm K 46 [R 25 a1, .agg [.int .i64 (gI a2 5), .str (gS a2 6), .str (gS a2 7), .int .i64 (gI a2 8), .sl .no 6 (gL a2 9), .int .i64 (gI a2 10)], .sl .no 1 a3]).bind fun d7 =>
  need (d7 = .tup [.int .i64 (getI (getT d7 0)), .int .i64 (getI (getT d7 1))]) <|
  bif getB (getT d6 1) then bif getI (getT d7 1) != 0 then some (DV.bool false)
   else bif decide (getI (getT d7 0) < gI (getT d6 0) 0) then some (DV.bool false)
   else bif decide (getI (getT d7 0) > gI (getT d6 0) 1) then some (DV.bool false)
   else (lm K 67 [R 25 a1, R 86 a2]).bind fun d8 =>
   need (d8 = .bool (getB d8)) <|
   bif getB d8 then (lm K 68 [R 25 a1, .sl .full 15 [R 86 a2]]).bind fun d9 =>
    need (d9 = .bool (getB d9)) <|
    bif getB d9 then bif gI a2 2 == 2 then bif getI (getT d7 1) != 0 then some (DV.bool false)
      else bif gI a2 2 == 3 then (lm K 69 [R 25 a1, .int .i64 (gI a2 4), .agg [.int .i64 (gI a2 5), .str (gS a2 6), .str (gS a2 7), .int .i64 (gI a2 8), .sl .no 6 (gL a2 9), .int .i64 (gI a2 10)], .sl .no 1 a3]).bind fun d10 =>
       need (d10 = .tup [.sl .no 1 (getL (getT d10 0)), .bool (getB (getT d10 1))]) <|
       bif !getB (getT d10 1) then some (DV.bool false)
       else (lm K 65 []).bind fun d11 =>
       need (d11 = .bool (getB d11)) <|
       some (DV.bool (getB d11))
      else (lm K 65 []).bind fun d12 =>
      need (d12 = .bool (getB d12)) <|
      some (DV.bool (getB d12))
     else bif gI a2 2 == 3 then (lm K 69 [R 25 a1, .int .i64 (gI a2 4), .agg [.int .i64 (gI a2 5), .str (gS a2 6), .str (gS a2 7), .int .i64 (gI a2 8), .sl .no 6 (gL a2 9), .int .i64 (gI a2 10)], .sl .no 1 a3]).bind fun d13 =>
      need (d13 = .tup [.sl .no 1 (getL (getT d13 0)), .bool (getB (getT d13 1))]) <|
      bif !getB (getT d13 1) then some (DV.bool false)
      else (lm K 65 []).bind fun d14 =>
      need (d14 = .bool (getB d14)) <|
      some (DV.bool (getB d14))
     else (lm K 65 []).bind fun d15 =>
     need (d15 = .bool (getB d15)) <|
     some (DV.bool (getB d15))
    else (lm K 65 []).bind fun d16 =>
    need (d16 = .bool (getB d16)) <|
    some (DV.bool (getB d16))
   else (lm K 65 []).bind fun d17 =>
   need (d17 = .bool (getB d17)) <|
   some (DV.bool (getB d17))
  else (lm K 67 [R 25 a1, R 86 a2]).bind fun d18 =>
  need (d18 = .bool (getB d18)) <|
  bif getB d18 then (lm K 68 [R 25 a1, .sl .full 15 [R 86 a2]]).bind fun d19 =>
   need (d19 = .bool (getB d19)) <|
   bif getB d19 then bif gI a2 2 == 2 then bif getI (getT d7 1) != 0 then some (DV.bool false)
     else bif gI a2 2 == 3 then (lm K 69 [R 25 a1, .int .i64 (gI a2 4), .agg [.int .i64 (gI a2 5), .str (gS a2 6), .str (gS a2 7), .int .i64 (gI a2 8), .sl .no 6 (gL a2 9), .int .i64 (gI a2 10)], .sl .no 1 a3]).bind fun d20 =>
      need (d20 = .tup [.sl .no 1 (getL (getT d20 0)), .bool (getB (getT d20 1))]) <|
      bif !getB (getT d20 1) then some (DV.bool false)
      else (lm K 65 []).bind fun d21 =>
      need (d21 = .bool (getB d21)) <|
      some (DV.bool (getB d21))
     else (lm K 65 []).bind fun d22 =>
     need (d22 = .bool (getB d22)) <|
     some (DV.bool (getB d22))
    else bif gI a2 2 == 3 then (lm K 69 [R 25 a1, .int .i64 (gI a2 4), .agg [.int .i64 (gI a2 5), .str (gS a2 6), .str (gS a2 7), .int .i64 (gI a2 8), .sl .no 6 (gL a2 9), .int .i64 (gI a2 10)], .sl .no 1 a3]).bind fun d23 =>
     need (d23 = .tup [.sl .no 1 (getL (getT d23 0)), .bool (getB (getT d23 1))]) <|
     bif !getB (getT d23 1) then some (DV.bool false)
     else (lm K 65 []).bind fun d24 =>
     need (d24 = .bool (getB d24)) <|
     some (DV.bool (getB d24))
    else (lm K 65 []).bind fun d25 =>
    need (d25 = .bool (getB d25)) <|
    some (DV.bool (getB d25))
   else (lm K 65 []).bind fun d26 =>
   need (d26 = .bool (getB d26)) <|
   some (DV.bool (getB d26))
  else (lm K 65 []).bind fun d27 =>
  need (d27 = .bool (getB d27)) <|
  some (DV.bool (getB d27))
theorem t17 {K : Nat} (a1 : DV) (a2 : DV) (a3 : List DV) {r : DV} (h : T17 K a1 a2 a3 = some r) : lm K 17 [R 25 a1, R 86 a2, .sl .no 1 a3] = some r := fn_run (Eq.trans (by kernel_rfl) h)

/-! 69 69 -/
noncomputable def T69 (K : Nat) (a1 : DV) (a2 : Int) (a3 : DV) (a4 : List DV) : Option DV :=
  (lm K 46 [R 25 a1, R 51 a3, .sl .no 1 a4]).bind fun d1 =>
  need (d1 = .tup [.int .i64 (getI (getT d1 0)), .int .i64 (getI (getT d1 1))]) <|
  (lm K 56 [R 25 a1]).bind fun d2 =>
  need (d2 = .sl .no 6 (getL d2)) <|
  bif getI (getT d1 1) != 0 then some (DV.tup [.sl .no 1 a4, .bool false])
  else bif decide (a2 < 0) then some (DV.tup [.sl .no 1 a4, .bool false])
  else bif decide (a2 ≥ (↑(getL d2).length : Int)) then some (DV.tup [.sl .no 1 a4, .bool false])
  else need ((0 : Int) ≤ a2) <|
  ((getL d2)[a2.toNat]?).bind fun x3 =>
  need (x3 = R 61 x3) <|
  (lm K 121 [R 61 x3, .int .i64 (getI (getT d1 0))]).bind fun d4 =>
  need (d4 = .bool (getB d4)) <|
  bif !getB d4 then some (DV.tup [.sl .no 1 a4, .bool false])
  else need ((([] : List DV).length + a4.length) * (8 : Nat) ≤ (140737488355328 : Nat) ∧ (([] : List DV) = [] ∨ (1 : Nat) = (1 : Nat))) <|
  bif a4.isEmpty then need ((0 : Int) ≤ a2) <|
   (([] : List DV)[a2.toNat]?).bind fun x5 =>
   need (x5 = .int .i64 (getI x5)) <|
   none
  else need ((0 : Int) ≤ a2 ∧ a2 < (↑(([] : List DV).length + a4.length) : Int)) <|
  (([] ++ a4)[a2.toNat]?).bind fun x6 =>
  need ((1 : Nat) ≤ x6.cells.length) <|
  need ((([] ++ a4).set a2.toNat (DV.int IntKind.i64 (getI (getT d1 (0 : Nat))))).length = ([] : List DV).length + a4.length) <|
  some (DV.tup ([.sl .no 1 (([] ++ a4).set a2.toNat (DV.int IntKind.i64 (getI (getT d1 0)))), .bool true]))
theorem t69 {K : Nat} (a1 : DV) (a2 : Int) (a3 : DV) (a4 : List DV) {r : DV} (h : T69 K a1 a2 a3 a4 = some r) : lm K 69 [R 25 a1, .int .i64 a2, R 51 a3, .sl .no 1 a4] = some r := fn_run (Eq.trans (by kernel_rfl) h)

/-! 68 68f -/
noncomputable def H68f_0 (a1 : DV) (a2 : DV) (d1 : DV) (v10 : Int) : St := ⟨[.undef] ++ [.sl .full 15 [R 86 a2], .ptr 0 0] ++ [.undef, .undef] ++ [.sl .no 6 (getL d1), .int .i64 v10] ++ (un 79), [.box ((R 25 a1).cells)]⟩
def P68f_0 : List Dir := [.c, .r, .l, .r, .r]
noncomputable def hd68f_0 (K : Nat) (a1 : DV) (a2 : DV) (d1 : DV) (v10 : Int) : Option DV := hdL Try.prog (C0 K) 68 P68f_0 (bits 86 102) 1 (H68f_0 a1 a2 d1 v10)
noncomputable def T68f (K : Nat) (a1 : DV) (a2 : DV) : Option DV :=
  (lm K 56 [R 25 a1]).bind fun d16 =>
  need (d16 = .sl .no 6 (getL d16)) <|
  hd68f_0 K a1 a2 d16 0
theorem t68f {K : Nat} (a1 : DV) (a2 : DV) {r : DV} (h : T68f K a1 a2 = some r) : lm K 68 [R 25 a1, .sl .full 15 [R 86 a2]] = some r := fn_run (Eq.trans (by kernel_rfl) h)
noncomputable def L68f_0 (K : Nat) (a1 : DV) (a2 : DV) (d1 : DV) (v10 : Int) : Option DV :=
  bif decide (v10 < (↑[DV.agg [DV.int IntKind.i64 (gI a2 0), DV.int IntKind.i64 (gI a2 1), DV.int IntKind.i64 (gI a2 2), DV.int IntKind.i64 (gI a2 3), DV.int IntKind.i64 (gI a2 4), DV.int IntKind.i64 (gI a2 5), DV.str (gS a2 6), DV.str (gS a2 7), DV.int IntKind.i64 (gI a2 8), DV.sl Grow.no 6 (gL a2 9), DV.int IntKind.i64 (gI a2 10), DV.int IntKind.i64 (gI a2 11), DV.int IntKind.i64 (gI a2 12), DV.int IntKind.i64 (gI a2 13), DV.int IntKind.i64 (gI a2 14)]].length : Int)) then need ((0 : Int) ≤ v10) <|
   ([DV.agg [DV.int IntKind.i64 (gI a2 0), DV.int IntKind.i64 (gI a2 1), DV.int IntKind.i64 (gI a2 2), DV.int IntKind.i64 (gI a2 3), DV.int IntKind.i64 (gI a2 4), DV.int IntKind.i64 (gI a2 5), DV.str (gS a2 6), DV.str (gS a2 7), DV.int IntKind.i64 (gI a2 8), DV.sl Grow.no 6 (gL a2 9), DV.int IntKind.i64 (gI a2 10), DV.int IntKind.i64 (gI a2 11), DV.int IntKind.i64 (gI a2 12), DV.int IntKind.i64 (gI a2 13), DV.int IntKind.i64 (gI a2 14)]][v10.toNat]?).bind fun x17 =>
   need (x17 = R 86 x17) <|
   (lm K 116 [R 25 a1, .agg [.int .i64 (gI x17 5), .str (gS x17 6), .str (gS x17 7), .int .i64 (gI x17 8), .sl .no 6 (gL x17 9), .int .i64 (gI x17 10)]]).bind fun d18 =>
   need (d18 = .tup [.int .i64 (getI (getT d18 0)), .int .i64 (getI (getT d18 1)), .int .i64 (getI (getT d18 2))]) <|
   need ((0 : Int) ≤ v10) <|
   ([DV.agg [DV.int IntKind.i64 (gI a2 0), DV.int IntKind.i64 (gI a2 1), DV.int IntKind.i64 (gI a2 2), DV.int IntKind.i64 (gI a2 3), DV.int IntKind.i64 (gI a2 4), DV.int IntKind.i64 (gI a2 5), DV.str (gS a2 6), DV.str (gS a2 7), DV.int IntKind.i64 (gI a2 8), DV.sl Grow.no 6 (gL a2 9), DV.int IntKind.i64 (gI a2 10), DV.int IntKind.i64 (gI a2 11), DV.int IntKind.i64 (gI a2 12), DV.int IntKind.i64 (gI a2 13), DV.int IntKind.i64 (gI a2 14)]][v10.toNat]?).bind fun x19 =>
   need (x19 = R 86 x19) <|
   bif gI x19 2 == 2 then bif getI (getT d18 1) != 0 then some (DV.bool false)
    else bif getI (getT d18 0) != 1 then some (DV.bool false)
    else need ((0 : Int) ≤ v10) <|
    ([DV.agg [DV.int IntKind.i64 (gI a2 0), DV.int IntKind.i64 (gI a2 1), DV.int IntKind.i64 (gI a2 2), DV.int IntKind.i64 (gI a2 3), DV.int IntKind.i64 (gI a2 4), DV.int IntKind.i64 (gI a2 5), DV.str (gS a2 6), DV.str (gS a2 7), DV.int IntKind.i64 (gI a2 8), DV.sl Grow.no 6 (gL a2 9), DV.int IntKind.i64 (gI a2 10), DV.int IntKind.i64 (gI a2 11), DV.int IntKind.i64 (gI a2 12), DV.int IntKind.i64 (gI a2 13), DV.int IntKind.i64 (gI a2 14)]][v10.toNat]?).bind fun x20 =>
    need (x20 = R 86 x20) <|
    bif gI x20 2 == 3 then bif getI (getT d18 1) != 0 then some (DV.bool false)
     else need ((0 : Int) ≤ v10) <|
     ([DV.agg [DV.int IntKind.i64 (gI a2 0), DV.int IntKind.i64 (gI a2 1), DV.int IntKind.i64 (gI a2 2), DV.int IntKind.i64 (gI a2 3), DV.int IntKind.i64 (gI a2 4), DV.int IntKind.i64 (gI a2 5), DV.str (gS a2 6), DV.str (gS a2 7), DV.int IntKind.i64 (gI a2 8), DV.sl Grow.no 6 (gL a2 9), DV.int IntKind.i64 (gI a2 10), DV.int IntKind.i64 (gI a2 11), DV.int IntKind.i64 (gI a2 12), DV.int IntKind.i64 (gI a2 13), DV.int IntKind.i64 (gI a2 14)]][v10.toNat]?).bind fun x21 =>
     need (x21 = R 86 x21) <|
     bif decide (gI x21 4 < 0) then some (DV.bool false)
     else need ((0 : Int) ≤ v10) <|
     ([DV.agg [DV.int IntKind.i64 (gI a2 0), DV.int IntKind.i64 (gI a2 1), DV.int IntKind.i64 (gI a2 2), DV.int IntKind.i64 (gI a2 3), DV.int IntKind.i64 (gI a2 4), DV.int IntKind.i64 (gI a2 5), DV.str (gS a2 6), DV.str (gS a2 7), DV.int IntKind.i64 (gI a2 8), DV.sl Grow.no 6 (gL a2 9), DV.int IntKind.i64 (gI a2 10), DV.int IntKind.i64 (gI a2 11), DV.int IntKind.i64 (gI a2 12), DV.int IntKind.i64 (gI a2 13), DV.int IntKind.i64 (gI a2 14)]][v10.toNat]?).bind fun x22 =>
     need (x22 = R 86 x22) <|
     bif decide (gI x22 4 ≥ (↑(getL d1).length : Int)) then some (DV.bool false)
     else need ((0 : Int) ≤ v10) <|
     ([DV.agg [DV.int IntKind.i64 (gI a2 0), DV.int IntKind.i64 (gI a2 1), DV.int IntKind.i64 (gI a2 2), DV.int IntKind.i64 (gI a2 3), DV.int IntKind.i64 (gI a2 4), DV.int IntKind.i64 (gI a2 5), DV.str (gS a2 6), DV.str (gS a2 7), DV.int IntKind.i64 (gI a2 8), DV.sl Grow.no 6 (gL a2 9), DV.int IntKind.i64 (gI a2 10), DV.int IntKind.i64 (gI a2 11), DV.int IntKind.i64 (gI a2 12), DV.int IntKind.i64 (gI a2 13), DV.int IntKind.i64 (gI a2 14)]][v10.toNat]?).bind fun x23 =>
     need (x23 = R 86 x23) <|
     need ((0 : Int) ≤ gI x23 (4 : Nat)) <|
     ((getL d1)[(gI x23 4).toNat]?).bind fun x24 =>
     need (x24 = R 61 x24) <|
     bif !(getI (getT d18 0) == 1) == (gI x24 1 == 1) then some (DV.bool false)
     else hd68f_0 K a1 a2 d1 (IntKind.i64.wrap (v10 + 1))
    else hd68f_0 K a1 a2 d1 (IntKind.i64.wrap (v10 + 1))
   else need ((0 : Int) ≤ v10) <|
   ([DV.agg [DV.int IntKind.i64 (gI a2 0), DV.int IntKind.i64 (gI a2 1), DV.int IntKind.i64 (gI a2 2), DV.int IntKind.i64 (gI a2 3), DV.int IntKind.i64 (gI a2 4), DV.int IntKind.i64 (gI a2 5), DV.str (gS a2 6), DV.str (gS a2 7), DV.int IntKind.i64 (gI a2 8), DV.sl Grow.no 6 (gL a2 9), DV.int IntKind.i64 (gI a2 10), DV.int IntKind.i64 (gI a2 11), DV.int IntKind.i64 (gI a2 12), DV.int IntKind.i64 (gI a2 13), DV.int IntKind.i64 (gI a2 14)]][v10.toNat]?).bind fun x25 =>
   need (x25 = R 86 x25) <|
   bif gI x25 2 == 3 then bif getI (getT d18 1) != 0 then some (DV.bool false)
    else need ((0 : Int) ≤ v10) <|
    ([DV.agg [DV.int IntKind.i64 (gI a2 0), DV.int IntKind.i64 (gI a2 1), DV.int IntKind.i64 (gI a2 2), DV.int IntKind.i64 (gI a2 3), DV.int IntKind.i64 (gI a2 4), DV.int IntKind.i64 (gI a2 5), DV.str (gS a2 6), DV.str (gS a2 7), DV.int IntKind.i64 (gI a2 8), DV.sl Grow.no 6 (gL a2 9), DV.int IntKind.i64 (gI a2 10), DV.int IntKind.i64 (gI a2 11), DV.int IntKind.i64 (gI a2 12), DV.int IntKind.i64 (gI a2 13), DV.int IntKind.i64 (gI a2 14)]][v10.toNat]?).bind fun x26 =>
    need (x26 = R 86 x26) <|
    bif decide (gI x26 4 < 0) then some (DV.bool false)
    else need ((0 : Int) ≤ v10) <|
    ([DV.agg [DV.int IntKind.i64 (gI a2 0), DV.int IntKind.i64 (gI a2 1), DV.int IntKind.i64 (gI a2 2), DV.int IntKind.i64 (gI a2 3), DV.int IntKind.i64 (gI a2 4), DV.int IntKind.i64 (gI a2 5), DV.str (gS a2 6), DV.str (gS a2 7), DV.int IntKind.i64 (gI a2 8), DV.sl Grow.no 6 (gL a2 9), DV.int IntKind.i64 (gI a2 10), DV.int IntKind.i64 (gI a2 11), DV.int IntKind.i64 (gI a2 12), DV.int IntKind.i64 (gI a2 13), DV.int IntKind.i64 (gI a2 14)]][v10.toNat]?).bind fun x27 =>
    need (x27 = R 86 x27) <|
    bif decide (gI x27 4 ≥ (↑(getL d1).length : Int)) then some (DV.bool false)
    else need ((0 : Int) ≤ v10) <|
    ([DV.agg [DV.int IntKind.i64 (gI a2 0), DV.int IntKind.i64 (gI a2 1), DV.int IntKind.i64 (gI a2 2), DV.int IntKind.i64 (gI a2 3), DV.int IntKind.i64 (gI a2 4), DV.int IntKind.i64 (gI a2 5), DV.str (gS a2 6), DV.str (gS a2 7), DV.int IntKind.i64 (gI a2 8), DV.sl Grow.no 6 (gL a2 9), DV.int IntKind.i64 (gI a2 10), DV.int IntKind.i64 (gI a2 11), DV.int IntKind.i64 (gI a2 12), DV.int IntKind.i64 (gI a2 13), DV.int IntKind.i64 (gI a2 14)]][v10.toNat]?).bind fun x28 =>
    need (x28 = R 86 x28) <|
    need ((0 : Int) ≤ gI x28 (4 : Nat)) <|
    ((getL d1)[(gI x28 4).toNat]?).bind fun x29 =>
    need (x29 = R 61 x29) <|
    bif !(getI (getT d18 0) == 1) == (gI x29 1 == 1) then some (DV.bool false)
    else hd68f_0 K a1 a2 d1 (IntKind.i64.wrap (v10 + 1))
   else hd68f_0 K a1 a2 d1 (IntKind.i64.wrap (v10 + 1))
  else some (DV.bool true)
theorem l68f_0 {K : Nat} (a1 : DV) (a2 : DV) (d1 : DV) (v10 : Int) {r : DV} (h : L68f_0 K a1 a2 d1 v10 = some r) : hd68f_0 K a1 a2 d1 v10 = some r := hd_run (Eq.trans (by kernel_rfl) h)

/-! 63 63f -/
noncomputable def H63f_0 (a1 : DV) (a2 : DV) (v3 : Int) (v4 : Int) : St := ⟨[.undef] ++ [.sl .full 6 [R 51 a2], .ptr 0 0] ++ [.undef, .undef] ++ [.int .i64 v3, .int .i64 v4] ++ (un 22), [.box ((R 25 a1).cells)]⟩
def P63f_0 : List Dir := [.c, .r, .l, .r, .r]
noncomputable def hd63f_0 (K : Nat) (a1 : DV) (a2 : DV) (v3 : Int) (v4 : Int) : Option DV := hdL Try.prog (C0 K) 63 P63f_0 (bits 29 102) 1 (H63f_0 a1 a2 v3 v4)
noncomputable def T63f (K : Nat) (a1 : DV) (a2 : DV) : Option DV :=
  hd63f_0 K a1 a2 120 0
theorem t63f {K : Nat} (a1 : DV) (a2 : DV) {r : DV} (h : T63f K a1 a2 = some r) : lm K 63 [R 25 a1, .sl .full 6 [R 51 a2]] = some r := fn_run (Eq.trans (by kernel_rfl) h)
noncomputable def L63f_0 (K : Nat) (a1 : DV) (a2 : DV) (v3 : Int) (v4 : Int) : Option DV :=
  bif decide (v4 < (↑[DV.agg [DV.int IntKind.i64 (gI a2 0), DV.str (gS a2 1), DV.str (gS a2 2), DV.int IntKind.i64 (gI a2 3), DV.sl Grow.no 6 (gL a2 4), DV.int IntKind.i64 (gI a2 5)]].length : Int)) then bif decide (v3 ≥ 0) then need ((0 : Int) ≤ v4) <|
    ([DV.agg [DV.int IntKind.i64 (gI a2 0), DV.str (gS a2 1), DV.str (gS a2 2), DV.int IntKind.i64 (gI a2 3), DV.sl Grow.no 6 (gL a2 4), DV.int IntKind.i64 (gI a2 5)]][v4.toNat]?).bind fun x5 =>
    need (x5 = R 51 x5) <|
    (lm K 40 [R 51 x5, .int .i64 v3]).bind fun d6 =>
    need (d6 = .int .i64 (getI d6)) <|
    hd63f_0 K a1 a2 (getI d6) (IntKind.i64.wrap (v4 + 1))
   else bif decide (v3 ≥ 0) then (lm K 25 [R 25 a1, .int .i64 300]).bind fun d7 =>
    need (d7 = .bool (getB d7)) <|
    some (DV.bool (getB d7))
   else some (DV.bool false)
  else bif decide (v3 ≥ 0) then (lm K 25 [R 25 a1, .int .i64 300]).bind fun d8 =>
   need (d8 = .bool (getB d8)) <|
   some (DV.bool (getB d8))
  else some (DV.bool false)
theorem l63f_0 {K : Nat} (a1 : DV) (a2 : DV) (v3 : Int) (v4 : Int) {r : DV} (h : L63f_0 K a1 a2 v3 v4 = some r) : hd63f_0 K a1 a2 v3 v4 = some r := hd_run (Eq.trans (by kernel_rfl) h)

end Go.Proofs.Ytmfgdnagmacgdaa.Dv
end
section
/- Trees of questions of functions of the program (printed by a program of this session, wip/dv/sym.txt). No condition. -/
set_option maxRecDepth 100000
set_option linter.unusedVariables false
namespace Go.Proofs.Ytmfgdnagmacgdaa.Dv
/-! 18 18 -/
noncomputable def T18 (K : Nat) (a1 : DV) (a2 : DV) (a3 : List DV) : Option DV :=
  (lm K 63 [R 25 a1, .sl .full 6 [R 51 a2]]).bind fun d1 =>
  need (d1 = .bool (getB d1)) <|
  bif !getB d1 then (lm K 65 []).bind fun d2 =>
   need (d2 = .bool (getB d2)) <|
   some (DV.bool (getB d2))
  else bif decide ((↑a3.length : Int) > 120) then (lm K 65 []).bind fun d3 =>
   need (d3 = .bool (getB d3)) <|
   some (DV.bool (getB d3))
  else (lm K 64 [R 25 a1, .sl .no 1 a3]).bind fun d4 =>
  need (d4 = .bool (getB d4)) <|
  bif !getB d4 then (lm K 65 []).bind fun d5 =>
   need (d5 = .bool (getB d5)) <|
   some (DV.bool (getB d5))
  else (lm K 70 [R 51 a2]).bind fun d6 =>
  need (d6 = R 51 d6) <|
  (lm K 45 [R 25 a1, R 51 a2, .sl .no 1 a3]).bind fun d7 =>
  need (d7 = .tup [.int .i64 (getI (getT d7 0)), .int .i64 (getI (getT d7 1))]) <|
  (lm K 71 [.int .i64 (getI (getT d7 1))]).bind fun d8 =>
  need (d8 = .int .i64 (getI d8)) <|
  bif getI d8 != 0 then (lm K 71 [.int .i64 (getI (getT d7 1))]).bind fun d9 =>
   need (d9 = .int .i64 (getI d9)) <|
   bif getI d9 != 110 then (lm K 65 []).bind fun d10 =>
    need (d10 = .bool (getB d10)) <|
    some (DV.bool (getB d10))
   else (lm K 45 [R 25 a1, R 51 d6, .sl .no 1 a3]).bind fun d11 =>
   need (d11 = .tup [.int .i64 (getI (getT d11 0)), .int .i64 (getI (getT d11 1))]) <|
   bif getI (getT d7 0) == getI (getT d11 0) then (lm K 71 [.int .i64 (getI (getT d7 1))]).bind fun d12 =>
    need (d12 = .int .i64 (getI d12)) <|
    (lm K 71 [.int .i64 (getI (getT d11 1))]).bind fun d13 =>
    need (d13 = .int .i64 (getI d13)) <|
    bif getI d12 == getI d13 then (lm K 70 [R 51 d6]).bind fun d14 =>
     need (d14 = R 51 d14) <|
     (lm K 72 [R 51 d14, R 51 d6]).bind fun d15 =>
     need (d15 = .bool (getB d15)) <|
     bif getB d15 then (lm K 65 []).bind fun d16 =>
      need (d16 = .bool (getB d16)) <|
      some (DV.bool (getB d16))
     else some (DV.bool false)
    else some (DV.bool false)
   else some (DV.bool false)
  else (lm K 45 [R 25 a1, R 51 d6, .sl .no 1 a3]).bind fun d17 =>
  need (d17 = .tup [.int .i64 (getI (getT d17 0)), .int .i64 (getI (getT d17 1))]) <|
  bif getI (getT d7 0) == getI (getT d17 0) then (lm K 71 [.int .i64 (getI (getT d7 1))]).bind fun d18 =>
   need (d18 = .int .i64 (getI d18)) <|
   (lm K 71 [.int .i64 (getI (getT d17 1))]).bind fun d19 =>
   need (d19 = .int .i64 (getI d19)) <|
   bif getI d18 == getI d19 then (lm K 70 [R 51 d6]).bind fun d20 =>
    need (d20 = R 51 d20) <|
    (lm K 72 [R 51 d20, R 51 d6]).bind fun d21 =>
    need (d21 = .bool (getB d21)) <|
    bif getB d21 then (lm K 65 []).bind fun d22 =>
     need (d22 = .bool (getB d22)) <|
     some (DV.bool (getB d22))
    else some (DV.bool false)
   else some (DV.bool false)
  else some (DV.bool false)
theorem t18 {K : Nat} (a1 : DV) (a2 : DV) (a3 : List DV) {r : DV} (h : T18 K a1 a2 a3 = some r) : lm K 18 [R 25 a1, R 51 a2, .sl .no 1 a3] = some r := fn_run (Eq.trans (by kernel_rfl) h)

/-! 70 70 -/
noncomputable def T70 (K : Nat) (a1 : DV) : Option DV :=
  (lm K 41 [R 51 a1]).bind fun d1 =>
  need (d1 = .int .i64 (getI d1)) <|
  bif getI d1 != 0 then some (R 51 a1)
  else (lm K 135 [R 51 a1]).bind fun d2 =>
  need (d2 = R 51 d2) <|
  some (R 51 d2)
theorem t70 {K : Nat} (a1 : DV) {r : DV} (h : T70 K a1 = some r) : lm K 70 [R 51 a1] = some r := fn_run (Eq.trans (by kernel_rfl) h)

/-! 71 71 -/
noncomputable def T71 (K : Nat) (a1 : Int) : Option DV :=
  some (DV.int .i64 a1)
theorem t71 {K : Nat} (a1 : Int) {r : DV} (h : T71 K a1 = some r) : lm K 71 [.int .i64 a1] = some r := fn_run (Eq.trans (by kernel_rfl) h)

/-! 135 135 -/
noncomputable def H135_0 (a1 : DV) (v4 : Int) (v5 : List DV) : St := ⟨[R 51 a1, .ptr 0 0, .ptr 1 0, .osl 2 6 ((↑(gL a1 4).length : Int).toNat)] ++ [.undef, .undef, .undef] ++ [.ptr 0 4, .sl .no 6 (gL a1 4), .int .i64 ((↑(gL a1 4).length : Int)), .osl 2 6 ((↑(gL a1 4).length : Int).toNat), .ptr 0 4, .sl .no 6 (gL a1 4), .int .i64 ((↑(gL a1 4).length : Int)), .int .i64 v4] ++ (un 52), [.box ((R 51 a1).cells), .box [.int .i64 0, .str (ByteArray.mk #[]), .str (ByteArray.mk #[]), .int .i64 0, .sl (.tok 3) 0 [], .int .i64 0], .arr 6 v5, .tok 0 0]⟩
def P135_0 : List Dir := [.c, .r, .l, .r, .c, .r]
noncomputable def hd135_0 (K : Nat) (a1 : DV) (v4 : Int) (v5 : List DV) : Option DV := hdL Try.prog (C0 K) 135 P135_0 (bits 67 32655) 4 (H135_0 a1 v4 v5)
noncomputable def H135_1 (a1 : DV) (v9 : Int) (v10 : List DV) : St := ⟨[R 51 a1, .ptr 0 0, .ptr 1 0, .osl 2 6 ((↑(gL a1 4).length : Int).toNat)] ++ [.undef, .undef, .undef] ++ [.ptr 0 4, .sl .no 6 (gL a1 4), .int .i64 ((↑(gL a1 4).length : Int)), .osl 2 6 ((↑(gL a1 4).length : Int).toNat), .ptr 0 4, .sl .no 6 (gL a1 4), .int .i64 ((↑(gL a1 4).length : Int)), .int .i64 v9, .bool false] ++ (un 9) ++ [.osl 2 6 ((↑(gL a1 4).length : Int).toNat), .ptr 0 4] ++ (un 40), [.box [.int .i64 (gI a1 0), .str (gS a1 1), .str (gS a1 2), .int .i64 (gI a1 3), .osl 2 6 ((↑(gL a1 4).length : Int).toNat), .int .i64 (gI a1 5)], .box [.int .i64 0, .str (ByteArray.mk #[]), .str (ByteArray.mk #[]), .int .i64 0, .sl (.tok 3) 0 [], .int .i64 0], .arr 6 v10, .tok 0 0]⟩
def P135_1 : List Dir := [.c, .l, .r, .r, .r, .r, .c, .r]
noncomputable def hd135_1 (K : Nat) (a1 : DV) (v9 : Int) (v10 : List DV) : Option DV := hdL Try.prog (C0 K) 135 P135_1 (bits 67 100728719) 4 (H135_1 a1 v9 v10)
noncomputable def H135_2 (a1 : DV) (v9 : Int) (d11 : DV) : St := ⟨[R 51 a1, .ptr 0 0, .ptr 1 0, .osl 2 6 ((↑(gL a1 4).length : Int).toNat)] ++ [.undef, .undef, .undef] ++ [.ptr 0 4, .sl .no 6 (gL a1 4), .int .i64 ((↑(gL a1 4).length : Int)), .osl 2 6 ((↑(gL a1 4).length : Int).toNat), .ptr 0 4, .sl .no 6 (gL a1 4), .int .i64 ((↑(gL a1 4).length : Int)), .int .i64 v9, .bool false] ++ (un 9) ++ [.osl 2 6 ((↑(gL a1 4).length : Int).toNat), .ptr 0 4] ++ (un 40), [.box [.int .i64 (gI (getT d11 0) 0), .str (gS (getT d11 0) 1), .str (gS (getT d11 0) 2), .int .i64 (gI (getT d11 0) 3), .sl .no 6 (gL (getT d11 0) 4), .int .i64 (gI (getT d11 0) 5)], .box [.int .i64 0, .str (ByteArray.mk #[]), .str (ByteArray.mk #[]), .int .i64 0, .sl (.tok 3) 0 [], .int .i64 0], .dead, .tok 0 0]⟩
def P135_2 : List Dir := [.c, .l, .r, .r, .r, .r, .c, .r]
noncomputable def hd135_2 (K : Nat) (a1 : DV) (v9 : Int) (d11 : DV) : Option DV := hdL Try.prog (C0 K) 135 P135_2 (bits 67 100728719) 4 (H135_2 a1 v9 d11)
noncomputable def T135 (K : Nat) (a1 : DV) : Option DV :=
  need ((↑(gL a1 (4 : Nat)).length : Int) = (↑(gL a1 (4 : Nat)).length : Int) ∧ (0 : Int) ≤ (↑(gL a1 (4 : Nat)).length : Int) ∧ (80 : Int) * (↑(gL a1 (4 : Nat)).length : Int) ≤ (1099511627776 : Int) ∧ (↑(gL a1 (4 : Nat)).length : Int) ≤ (1099511627776 : Int)) <|
  hd135_0 K a1 0 (List.replicate (↑(gL a1 4).length : Int).toNat (ofVal (Value.agg #[Value.int IntKind.i64 0, Value.string (ByteArray.mk #[]), Value.string (ByteArray.mk #[]), Value.int IntKind.i64 0, Value.slice none 0 0, Value.int IntKind.i64 0])))
theorem t135 {K : Nat} (a1 : DV) {r : DV} (h : T135 K a1 = some r) : lm K 135 [R 51 a1] = some r := fn_run (Eq.trans (by kernel_rfl) h)
noncomputable def L135_0 (K : Nat) (a1 : DV) (v4 : Int) (v5 : List DV) : Option DV :=
  bif decide (v4 < (↑(gL a1 4).length : Int)) then need ((0 : Int) ≤ v4) <|
   ((gL a1 4)[v4.toNat]?).bind fun x31 =>
   need (x31 = R 51 x31) <|
   (lm K 135 [R 51 x31]).bind fun d32 =>
   need (d32 = R 51 d32) <|
   need ((0 : Int) ≤ v4 ∧ v4 < (↑(↑(gL a1 (4 : Nat)).length : Int).toNat : Int)) <|
   (v5[v4.toNat]?).bind fun x33 =>
   need ((6 : Nat) ≤ x33.cells.length) <|
   hd135_0 K a1 (IntKind.i64.wrap (v4 + 1)) (v5.set v4.toNat (DV.agg [DV.int IntKind.i64 (gI d32 0), DV.str (gS d32 1), DV.str (gS d32 2), DV.int IntKind.i64 (gI d32 3), DV.sl Grow.no ((sizeT Try.prog 51).getD 0) (gL d32 4), DV.int IntKind.i64 (gI d32 5)]))
  else hd135_1 K a1 v4 v5
theorem l135_0 {K : Nat} (a1 : DV) (v4 : Int) (v5 : List DV) {r : DV} (h : L135_0 K a1 v4 v5 = some r) : hd135_0 K a1 v4 v5 = some r := hd_run (Eq.trans (by kernel_rfl) h)
noncomputable def L135_1 (K : Nat) (a1 : DV) (v9 : Int) (v10 : List DV) : Option DV :=
  bif gI a1 0 == 5 then need (v10.length = (↑(gL a1 (4 : Nat)).length : Int).toNat) <|
   (lm K 198 [.agg [.int .i64 (gI a1 0), .str (gS a1 1), .str (gS a1 2), .int .i64 (gI a1 3), .sl .no 6 v10, .int .i64 (gI a1 5)]]).bind fun d34 =>
   need (d34 = .tup [.agg [.int .i64 (gI (getT d34 0) 0), .str (gS (getT d34 0) 1), .str (gS (getT d34 0) 2), .int .i64 (gI (getT d34 0) 3), .sl .no 6 (gL (getT d34 0) 4), .int .i64 (gI (getT d34 0) 5)], .bool (getB (getT d34 1))]) <|
   bif !getB (getT d34 1) then some (DV.agg [.int .i64 (gI (getT d34 0) 0), .str (gS (getT d34 0) 1), .str (gS (getT d34 0) 2), .int .i64 (gI (getT d34 0) 3), .sl .no 6 (gL (getT d34 0) 4), .int .i64 (gI (getT d34 0) 5)])
   else hd135_2 K a1 v9 d34
  else bif gI a1 0 == 16 then need (v10.length = (↑(gL a1 (4 : Nat)).length : Int).toNat) <|
   (lm K 199 [.agg [.int .i64 (gI a1 0), .str (gS a1 1), .str (gS a1 2), .int .i64 (gI a1 3), .sl .no 6 v10, .int .i64 (gI a1 5)]]).bind fun d39 =>
   need (d39 = .tup [.agg [.int .i64 (gI (getT d39 0) 0), .str (gS (getT d39 0) 1), .str (gS (getT d39 0) 2), .int .i64 (gI (getT d39 0) 3), .sl .no 6 (gL (getT d39 0) 4), .int .i64 (gI (getT d39 0) 5)], .bool (getB (getT d39 1))]) <|
   bif !getB (getT d39 1) then some (DV.agg [.int .i64 (gI (getT d39 0) 0), .str (gS (getT d39 0) 1), .str (gS (getT d39 0) 2), .int .i64 (gI (getT d39 0) 3), .sl .no 6 (gL (getT d39 0) 4), .int .i64 (gI (getT d39 0) 5)])
   else hd135_2 K a1 v9 d39
  else bif gI a1 0 == 17 then need (v10.length = (↑(gL a1 (4 : Nat)).length : Int).toNat) <|
   (lm K 199 [.agg [.int .i64 (gI a1 0), .str (gS a1 1), .str (gS a1 2), .int .i64 (gI a1 3), .sl .no 6 v10, .int .i64 (gI a1 5)]]).bind fun d44 =>
   need (d44 = .tup [.agg [.int .i64 (gI (getT d44 0) 0), .str (gS (getT d44 0) 1), .str (gS (getT d44 0) 2), .int .i64 (gI (getT d44 0) 3), .sl .no 6 (gL (getT d44 0) 4), .int .i64 (gI (getT d44 0) 5)], .bool (getB (getT d44 1))]) <|
   bif !getB (getT d44 1) then some (DV.agg [.int .i64 (gI (getT d44 0) 0), .str (gS (getT d44 0) 1), .str (gS (getT d44 0) 2), .int .i64 (gI (getT d44 0) 3), .sl .no 6 (gL (getT d44 0) 4), .int .i64 (gI (getT d44 0) 5)])
   else hd135_2 K a1 v9 d44
  else bif decide (gI a1 0 ≥ 10) then bif decide (gI a1 0 ≤ 15) then need (v10.length = (↑(gL a1 (4 : Nat)).length : Int).toNat) <|
    (lm K 200 [.agg [.int .i64 (gI a1 0), .str (gS a1 1), .str (gS a1 2), .int .i64 (gI a1 3), .sl .no 6 v10, .int .i64 (gI a1 5)]]).bind fun d49 =>
    need (d49 = .tup [.agg [.int .i64 (gI (getT d49 0) 0), .str (gS (getT d49 0) 1), .str (gS (getT d49 0) 2), .int .i64 (gI (getT d49 0) 3), .sl .no 6 (gL (getT d49 0) 4), .int .i64 (gI (getT d49 0) 5)], .bool (getB (getT d49 1))]) <|
    bif !getB (getT d49 1) then some (DV.agg [.int .i64 (gI (getT d49 0) 0), .str (gS (getT d49 0) 1), .str (gS (getT d49 0) 2), .int .i64 (gI (getT d49 0) 3), .sl .no 6 (gL (getT d49 0) 4), .int .i64 (gI (getT d49 0) 5)])
    else hd135_2 K a1 v9 d49
   else need (v10.length = (↑(gL a1 (4 : Nat)).length : Int).toNat) <|
   some (DV.agg [.int .i64 (gI a1 0), .str (gS a1 1), .str (gS a1 2), .int .i64 (gI a1 3), .sl .no 6 v10, .int .i64 (gI a1 5)])
  else need (v10.length = (↑(gL a1 (4 : Nat)).length : Int).toNat) <|
  some (DV.agg [.int .i64 (gI a1 0), .str (gS a1 1), .str (gS a1 2), .int .i64 (gI a1 3), .sl .no 6 v10, .int .i64 (gI a1 5)])
theorem l135_1 {K : Nat} (a1 : DV) (v9 : Int) (v10 : List DV) {r : DV} (h : L135_1 K a1 v9 v10 = some r) : hd135_1 K a1 v9 v10 = some r := hd_run (Eq.trans (by kernel_rfl) h)
noncomputable def L135_2 (K : Nat) (a1 : DV) (v9 : Int) (d11 : DV) : Option DV :=
  bif gI (getT d11 0) 0 == 5 then (lm K 198 [.agg [.int .i64 (gI (getT d11 0) 0), .str (gS (getT d11 0) 1), .str (gS (getT d11 0) 2), .int .i64 (gI (getT d11 0) 3), .sl .no 6 (gL (getT d11 0) 4), .int .i64 (gI (getT d11 0) 5)]]).bind fun d54 =>
   need (d54 = .tup [.agg [.int .i64 (gI (getT d54 0) 0), .str (gS (getT d54 0) 1), .str (gS (getT d54 0) 2), .int .i64 (gI (getT d54 0) 3), .sl .no 6 (gL (getT d54 0) 4), .int .i64 (gI (getT d54 0) 5)], .bool (getB (getT d54 1))]) <|
   bif !getB (getT d54 1) then some (DV.agg [.int .i64 (gI (getT d54 0) 0), .str (gS (getT d54 0) 1), .str (gS (getT d54 0) 2), .int .i64 (gI (getT d54 0) 3), .sl .no 6 (gL (getT d54 0) 4), .int .i64 (gI (getT d54 0) 5)])
   else hd135_2 K a1 v9 d54
  else bif gI (getT d11 0) 0 == 16 then (lm K 199 [.agg [.int .i64 (gI (getT d11 0) 0), .str (gS (getT d11 0) 1), .str (gS (getT d11 0) 2), .int .i64 (gI (getT d11 0) 3), .sl .no 6 (gL (getT d11 0) 4), .int .i64 (gI (getT d11 0) 5)]]).bind fun d59 =>
   need (d59 = .tup [.agg [.int .i64 (gI (getT d59 0) 0), .str (gS (getT d59 0) 1), .str (gS (getT d59 0) 2), .int .i64 (gI (getT d59 0) 3), .sl .no 6 (gL (getT d59 0) 4), .int .i64 (gI (getT d59 0) 5)], .bool (getB (getT d59 1))]) <|
   bif !getB (getT d59 1) then some (DV.agg [.int .i64 (gI (getT d59 0) 0), .str (gS (getT d59 0) 1), .str (gS (getT d59 0) 2), .int .i64 (gI (getT d59 0) 3), .sl .no 6 (gL (getT d59 0) 4), .int .i64 (gI (getT d59 0) 5)])
   else hd135_2 K a1 v9 d59
  else bif gI (getT d11 0) 0 == 17 then (lm K 199 [.agg [.int .i64 (gI (getT d11 0) 0), .str (gS (getT d11 0) 1), .str (gS (getT d11 0) 2), .int .i64 (gI (getT d11 0) 3), .sl .no 6 (gL (getT d11 0) 4), .int .i64 (gI (getT d11 0) 5)]]).bind fun d64 =>
   need (d64 = .tup [.agg [.int .i64 (gI (getT d64 0) 0), .str (gS (getT d64 0) 1), .str (gS (getT d64 0) 2), .int .i64 (gI (getT d64 0) 3), .sl .no 6 (gL (getT d64 0) 4), .int .i64 (gI (getT d64 0) 5)], .bool (getB (getT d64 1))]) <|
   bif !getB (getT d64 1) then some (DV.agg [.int .i64 (gI (getT d64 0) 0), .str (gS (getT d64 0) 1), .str (gS (getT d64 0) 2), .int .i64 (gI (getT d64 0) 3), .sl .no 6 (gL (getT d64 0) 4), .int .i64 (gI (getT d64 0) 5)])
   else hd135_2 K a1 v9 d64
  else bif decide (gI (getT d11 0) 0 ≥ 10) then bif decide (gI (getT d11 0) 0 ≤ 15) then (lm K 200 [.agg [.int .i64 (gI (getT d11 0) 0), .str (gS (getT d11 0) 1), .str (gS (getT d11 0) 2), .int .i64 (gI (getT d11 0) 3), .sl .no 6 (gL (getT d11 0) 4), .int .i64 (gI (getT d11 0) 5)]]).bind fun d69 =>
    need (d69 = .tup [.agg [.int .i64 (gI (getT d69 0) 0), .str (gS (getT d69 0) 1), .str (gS (getT d69 0) 2), .int .i64 (gI (getT d69 0) 3), .sl .no 6 (gL (getT d69 0) 4), .int .i64 (gI (getT d69 0) 5)], .bool (getB (getT d69 1))]) <|
    bif !getB (getT d69 1) then some (DV.agg [.int .i64 (gI (getT d69 0) 0), .str (gS (getT d69 0) 1), .str (gS (getT d69 0) 2), .int .i64 (gI (getT d69 0) 3), .sl .no 6 (gL (getT d69 0) 4), .int .i64 (gI (getT d69 0) 5)])
    else hd135_2 K a1 v9 d69
   else some (DV.agg [.int .i64 (gI (getT d11 0) 0), .str (gS (getT d11 0) 1), .str (gS (getT d11 0) 2), .int .i64 (gI (getT d11 0) 3), .sl .no 6 (gL (getT d11 0) 4), .int .i64 (gI (getT d11 0) 5)])
  else some (DV.agg [.int .i64 (gI (getT d11 0) 0), .str (gS (getT d11 0) 1), .str (gS (getT d11 0) 2), .int .i64 (gI (getT d11 0) 3), .sl .no 6 (gL (getT d11 0) 4), .int .i64 (gI (getT d11 0) 5)])
theorem l135_2 {K : Nat} (a1 : DV) (v9 : Int) (d11 : DV) {r : DV} (h : L135_2 K a1 v9 d11 = some r) : hd135_2 K a1 v9 d11 = some r := hd_run (Eq.trans (by kernel_rfl) h)

/-! 198 198 -/
noncomputable def T198 (K : Nat) (a1 : DV) : Option DV :=
  need ((0 : Int) ≤ (0 : Int)) <|
  ((gL a1 4)[Int.toNat 0]?).bind fun x1 =>
  need (x1 = R 51 x1) <|
  bif gI x1 0 == 2 then (lm K 225 [.bool (gI x1 0 == 3)]).bind fun d2 =>
   need (d2 = R 51 d2) <|
   some (DV.tup [R 51 d2, .bool true])
  else bif gI x1 0 == 3 then (lm K 225 [.bool (gI x1 0 == 3)]).bind fun d3 =>
   need (d3 = R 51 d3) <|
   some (DV.tup [R 51 d3, .bool true])
  else bif gI x1 0 == 5 then need ((0 : Int) ≤ (0 : Int)) <|
   ((gL x1 4)[Int.toNat 0]?).bind fun x4 =>
   need (x4 = R 51 x4) <|
   some (DV.tup [R 51 x4, .bool true])
  else some (DV.tup [R 51 a1, .bool false])
theorem t198 {K : Nat} (a1 : DV) {r : DV} (h : T198 K a1 = some r) : lm K 198 [R 51 a1] = some r := fn_run (Eq.trans (by kernel_rfl) h)

/-! 199 199 -/
noncomputable def T199 (K : Nat) (a1 : DV) : Option DV :=
  need ((0 : Int) ≤ (0 : Int)) <|
  ((gL a1 4)[Int.toNat 0]?).bind fun x1 =>
  need (x1 = R 51 x1) <|
  need ((0 : Int) ≤ (1 : Int)) <|
  ((gL a1 4)[Int.toNat 1]?).bind fun x2 =>
  need (x2 = R 51 x2) <|
  bif gI a1 0 == 17 then bif gI x1 0 == 2 then (lm K 225 [.bool true]).bind fun d3 =>
    need (d3 = R 51 d3) <|
    some (DV.tup [R 51 d3, .bool true])
   else bif gI x2 0 == 3 then some (DV.tup [R 51 x1, .bool true])
   else bif gI x1 0 == 3 then some (DV.tup [R 51 x2, .bool true])
   else some (DV.tup [R 51 a1, .bool false])
  else bif gI x1 0 == 3 then (lm K 225 [.bool false]).bind fun d4 =>
   need (d4 = R 51 d4) <|
   some (DV.tup [R 51 d4, .bool true])
  else bif gI x2 0 == 2 then some (DV.tup [R 51 x1, .bool true])
  else bif gI x1 0 == 2 then some (DV.tup [R 51 x2, .bool true])
  else some (DV.tup [R 51 a1, .bool false])
theorem t199 {K : Nat} (a1 : DV) {r : DV} (h : T199 K a1 = some r) : lm K 199 [R 51 a1] = some r := fn_run (Eq.trans (by kernel_rfl) h)

/-! 200 200 -/
noncomputable def T200 (K : Nat) (a1 : DV) : Option DV :=
  need ((0 : Int) ≤ (0 : Int)) <|
  ((gL a1 4)[Int.toNat 0]?).bind fun x1 =>
  need (x1 = R 51 x1) <|
  need ((0 : Int) ≤ (1 : Int)) <|
  ((gL a1 4)[Int.toNat 1]?).bind fun x2 =>
  need (x2 = R 51 x2) <|
  bif gI x1 0 != 1 then some (DV.tup [R 51 a1, .bool false])
  else bif gI x2 0 != 1 then some (DV.tup [R 51 a1, .bool false])
  else bif gI a1 0 == 10 then (lm K 225 [.bool (gI x1 3 == gI x2 3)]).bind fun d3 =>
   need (d3 = R 51 d3) <|
   some (DV.tup [R 51 d3, .bool true])
  else bif gI a1 0 == 11 then (lm K 225 [.bool (gI x1 3 != gI x2 3)]).bind fun d4 =>
   need (d4 = R 51 d4) <|
   some (DV.tup [R 51 d4, .bool true])
  else bif gI a1 0 == 12 then (lm K 225 [.bool (decide (gI x1 3 < gI x2 3))]).bind fun d5 =>
   need (d5 = R 51 d5) <|
   some (DV.tup [R 51 d5, .bool true])
  else bif gI a1 0 == 13 then (lm K 225 [.bool (decide (gI x1 3 ≤ gI x2 3))]).bind fun d6 =>
   need (d6 = R 51 d6) <|
   some (DV.tup [R 51 d6, .bool true])
  else bif gI a1 0 == 14 then (lm K 225 [.bool (decide (gI x1 3 > gI x2 3))]).bind fun d7 =>
   need (d7 = R 51 d7) <|
   some (DV.tup [R 51 d7, .bool true])
  else bif gI a1 0 == 15 then (lm K 225 [.bool (decide (gI x1 3 ≥ gI x2 3))]).bind fun d8 =>
   need (d8 = R 51 d8) <|
   some (DV.tup [R 51 d8, .bool true])
  else (lm K 225 [.bool false]).bind fun d9 =>
  need (d9 = R 51 d9) <|
  some (DV.tup [R 51 d9, .bool true])
theorem t200 {K : Nat} (a1 : DV) {r : DV} (h : T200 K a1 = some r) : lm K 200 [R 51 a1] = some r := fn_run (Eq.trans (by kernel_rfl) h)

/-! 225 225 -/
noncomputable def T225 (K : Nat) (a1 : Bool) : Option DV :=
  bif a1 then some (DV.agg [.int .i64 2, .str (ByteArray.mk #[]), .str (ByteArray.mk #[]), .int .i64 0, .sl .no 6 [], .int .i64 0])
  else some (DV.agg [.int .i64 3, .str (ByteArray.mk #[]), .str (ByteArray.mk #[]), .int .i64 0, .sl .no 6 [], .int .i64 0])
theorem t225 {K : Nat} (a1 : Bool) {r : DV} (h : T225 K a1 = some r) : lm K 225 [.bool a1] = some r := fn_run (Eq.trans (by kernel_rfl) h)

end Go.Proofs.Ytmfgdnagmacgdaa.Dv
end
section
/- Trees of questions of functions of the program (printed by a program of this session, wip/dv/sym.txt). No condition. -/
set_option maxRecDepth 100000
set_option linter.unusedVariables false
namespace Go.Proofs.Ytmfgdnagmacgdaa.Dv
/-! 29 29 -/
/-! 31 31 -/
/-! 85 85 -/
/-! 92 92 -/
/-! 94 94 -/
/-! 97 97 -/
/-! 91 91 -/
/-! 93 93 -/
/-! 96 96 -/
/-! 146 146 -/
/-! 160 160 -/
/-! 161 161 -/
/-! 162 162 -/
/-! 163 163 -/
/-! 164 164 -/
/-! 72 72 -/
noncomputable def H72_0 (a1 : DV) (a2 : DV) (v4 : Int) : St := ⟨[.undef, .undef] ++ [.ptr 0 0, .ptr 1 0] ++ [.undef] ++ [.int .i64 v4] ++ (un 54), [.box ((R 51 a1).cells), .box ((R 51 a2).cells)]⟩
def P72_0 : List Dir := [.c, .r, .l, .r, .r]
noncomputable def hd72_0 (K : Nat) (a1 : DV) (a2 : DV) (v4 : Int) : Option DV := hdL Try.prog (C0 K) 72 P72_0 (bits 60 44) 2 (H72_0 a1 a2 v4)
noncomputable def T72 (K : Nat) (a1 : DV) (a2 : DV) : Option DV :=
  bif gI a1 0 != gI a2 0 then some (DV.bool false)
  else bif !(gS a1 1).toList == (gS a2 1).toList then some (DV.bool false)
  else bif !(gS a1 2).toList == (gS a2 2).toList then some (DV.bool false)
  else bif gI a1 3 != gI a2 3 then some (DV.bool false)
  else bif (↑(gL a1 4).length : Int) != (↑(gL a2 4).length : Int) then some (DV.bool false)
  else hd72_0 K a1 a2 0
theorem t72 {K : Nat} (a1 : DV) (a2 : DV) {r : DV} (h : T72 K a1 a2 = some r) : lm K 72 [R 51 a1, R 51 a2] = some r := fn_run (Eq.trans (by kernel_rfl) h)
noncomputable def L72_0 (K : Nat) (a1 : DV) (a2 : DV) (v4 : Int) : Option DV :=
  bif decide (v4 < (↑(gL a1 4).length : Int)) then need ((0 : Int) ≤ v4) <|
   ((gL a1 4)[v4.toNat]?).bind fun x5 =>
   need (x5 = R 51 x5) <|
   need ((0 : Int) ≤ v4) <|
   ((gL a2 4)[v4.toNat]?).bind fun x6 =>
   need (x6 = R 51 x6) <|
   (lm K 72 [R 51 x5, R 51 x6]).bind fun d7 =>
   need (d7 = .bool (getB d7)) <|
   bif !getB d7 then some (DV.bool false)
   else hd72_0 K a1 a2 (IntKind.i64.wrap (v4 + 1))
  else some (DV.bool true)
theorem l72_0 {K : Nat} (a1 : DV) (a2 : DV) (v4 : Int) {r : DV} (h : L72_0 K a1 a2 v4 = some r) : hd72_0 K a1 a2 v4 = some r := hd_run (Eq.trans (by kernel_rfl) h)
/-! 32 32 -/
end Go.Proofs.Ytmfgdnagmacgdaa.Dv
end
