/- Parts of a proof, put together. No condition. -/
import Derived.Test.YtmfgdnagmacgdaaEe
section
/- Trees of questions of functions of the program (printed by a program of this session, wip/dv/sym.txt). No condition. -/
set_option maxRecDepth 100000
set_option linter.unusedVariables false
namespace Go.Proofs.Ytmfgdnagmacgdaa.Dv
/-! 147 147 -/
noncomputable def T147 (K : Nat) (a1 : ByteArray) : Option DV :=
  bif a1.toList == (ByteArray.mk #[]).toList then some (DV.bool false)
  else bif decide ((↑a1.size : Int) > 32) then some (DV.bool false)
  else need ((0 : Int) ≤ (0 : Int)) <|
  (Option.map (fun b => DV.int IntKind.u8 (↑b.toNat : Int)) a1[Int.toNat 0]?).bind fun x1 =>
  need (x1 = .int .u8 (getI x1)) <|
  (lm K 204 [.int .u8 (getI x1)]).bind fun d2 =>
  need (d2 = .int .i64 (getI d2)) <|
  bif getI d2 != 3 then some (DV.bool false)
  else (lm K 205 [.str a1]).bind fun d3 =>
  need (d3 = .bool (getB d3)) <|
  bif getB d3 then some (DV.bool false)
  else (lm K 206 [.str a1, .int .i64 0, .fn 207 [] []]).bind fun d4 =>
  need (d4 = .int .i64 (getI d4)) <|
  some (DV.bool (getI d4 == (↑a1.size : Int)))
theorem t147 {K : Nat} (a1 : ByteArray) {r : DV} (h : T147 K a1 = some r) : lm K 147 [.str a1] = some r := fn_run (Eq.trans (by kernel_rfl) h)
/-! 204 204 -/
noncomputable def T204 (K : Nat) (a1 : Int) : Option DV :=
  bif a1 == 32 then some (DV.int .i64 1)
  else bif a1 == 9 then some (DV.int .i64 1)
  else bif a1 == 13 then some (DV.int .i64 1)
  else bif a1 == 10 then some (DV.int .i64 1)
  else bif a1 == 35 then some (DV.int .i64 2)
  else bif decide (a1 ≥ 97) then bif decide (a1 ≤ 122) then some (DV.int .i64 3)
   else bif decide (a1 ≥ 65) then bif decide (a1 ≤ 90) then some (DV.int .i64 3)
    else bif decide (a1 ≥ 48) then bif decide (a1 ≤ 57) then some (DV.int .i64 4)
     else (lm K 233 [.str (ByteArray.mk #[123, 125, 40, 41, 59, 58, 61, 60, 62, 43, 45, 42, 33, 46, 38, 124]), .int .u8 a1]).bind fun d1 =>
     need (d1 = .int .i64 (getI d1)) <|
     bif decide (getI d1 ≥ 0) then some (DV.int .i64 5)
     else some (DV.int .i64 0)
    else (lm K 233 [.str (ByteArray.mk #[123, 125, 40, 41, 59, 58, 61, 60, 62, 43, 45, 42, 33, 46, 38, 124]), .int .u8 a1]).bind fun d2 =>
    need (d2 = .int .i64 (getI d2)) <|
    bif decide (getI d2 ≥ 0) then some (DV.int .i64 5)
    else some (DV.int .i64 0)
   else bif decide (a1 ≥ 48) then bif decide (a1 ≤ 57) then some (DV.int .i64 4)
    else (lm K 233 [.str (ByteArray.mk #[123, 125, 40, 41, 59, 58, 61, 60, 62, 43, 45, 42, 33, 46, 38, 124]), .int .u8 a1]).bind fun d3 =>
    need (d3 = .int .i64 (getI d3)) <|
    bif decide (getI d3 ≥ 0) then some (DV.int .i64 5)
    else some (DV.int .i64 0)
   else (lm K 233 [.str (ByteArray.mk #[123, 125, 40, 41, 59, 58, 61, 60, 62, 43, 45, 42, 33, 46, 38, 124]), .int .u8 a1]).bind fun d4 =>
   need (d4 = .int .i64 (getI d4)) <|
   bif decide (getI d4 ≥ 0) then some (DV.int .i64 5)
   else some (DV.int .i64 0)
  else bif decide (a1 ≥ 65) then bif decide (a1 ≤ 90) then some (DV.int .i64 3)
   else bif decide (a1 ≥ 48) then bif decide (a1 ≤ 57) then some (DV.int .i64 4)
    else (lm K 233 [.str (ByteArray.mk #[123, 125, 40, 41, 59, 58, 61, 60, 62, 43, 45, 42, 33, 46, 38, 124]), .int .u8 a1]).bind fun d5 =>
    need (d5 = .int .i64 (getI d5)) <|
    bif decide (getI d5 ≥ 0) then some (DV.int .i64 5)
    else some (DV.int .i64 0)
   else (lm K 233 [.str (ByteArray.mk #[123, 125, 40, 41, 59, 58, 61, 60, 62, 43, 45, 42, 33, 46, 38, 124]), .int .u8 a1]).bind fun d6 =>
   need (d6 = .int .i64 (getI d6)) <|
   bif decide (getI d6 ≥ 0) then some (DV.int .i64 5)
   else some (DV.int .i64 0)
  else bif decide (a1 ≥ 48) then bif decide (a1 ≤ 57) then some (DV.int .i64 4)
   else (lm K 233 [.str (ByteArray.mk #[123, 125, 40, 41, 59, 58, 61, 60, 62, 43, 45, 42, 33, 46, 38, 124]), .int .u8 a1]).bind fun d7 =>
   need (d7 = .int .i64 (getI d7)) <|
   bif decide (getI d7 ≥ 0) then some (DV.int .i64 5)
   else some (DV.int .i64 0)
  else (lm K 233 [.str (ByteArray.mk #[123, 125, 40, 41, 59, 58, 61, 60, 62, 43, 45, 42, 33, 46, 38, 124]), .int .u8 a1]).bind fun d8 =>
  need (d8 = .int .i64 (getI d8)) <|
  bif decide (getI d8 ≥ 0) then some (DV.int .i64 5)
  else some (DV.int .i64 0)
theorem t204 {K : Nat} (a1 : Int) {r : DV} (h : T204 K a1 = some r) : lm K 204 [.int .u8 a1] = some r := fn_run (Eq.trans (by kernel_rfl) h)
/-! 205 205 -/
noncomputable def T205 (K : Nat) (a1 : ByteArray) : Option DV :=
  bif a1.toList == (ByteArray.mk #[109, 111, 110, 105, 116, 111, 114]).toList then some (DV.bool true)
  else bif a1.toList == (ByteArray.mk #[118, 97, 114]).toList then some (DV.bool true)
  else bif a1.toList == (ByteArray.mk #[109, 101, 116, 104, 111, 100]).toList then some (DV.bool true)
  else bif a1.toList == (ByteArray.mk #[116, 104, 114, 101, 97, 100]).toList then some (DV.bool true)
  else bif a1.toList == (ByteArray.mk #[98, 111, 111, 108]).toList then some (DV.bool true)
  else bif a1.toList == (ByteArray.mk #[105, 110, 116]).toList then some (DV.bool true)
  else bif a1.toList == (ByteArray.mk #[116, 114, 117, 101]).toList then some (DV.bool true)
  else bif a1.toList == (ByteArray.mk #[102, 97, 108, 115, 101]).toList then some (DV.bool true)
  else bif a1.toList == (ByteArray.mk #[115, 107, 105, 112]).toList then some (DV.bool true)
  else bif a1.toList == (ByteArray.mk #[105, 102]).toList then some (DV.bool true)
  else bif a1.toList == (ByteArray.mk #[101, 108, 115, 101]).toList then some (DV.bool true)
  else bif a1.toList == (ByteArray.mk #[119, 104, 105, 108, 101]).toList then some (DV.bool true)
  else bif a1.toList == (ByteArray.mk #[108, 111, 111, 112]).toList then some (DV.bool true)
  else bif a1.toList == (ByteArray.mk #[99, 104, 111, 111, 115, 101]).toList then some (DV.bool true)
  else bif a1.toList == (ByteArray.mk #[111, 114]).toList then some (DV.bool true)
  else bif a1.toList == (ByteArray.mk #[115, 121, 110, 99]).toList then some (DV.bool true)
  else bif a1.toList == (ByteArray.mk #[99, 97, 108, 108]).toList then some (DV.bool true)
  else bif a1.toList == (ByteArray.mk #[119, 97, 105, 116]).toList then some (DV.bool true)
  else bif a1.toList == (ByteArray.mk #[110, 111, 116, 105, 102, 121]).toList then some (DV.bool true)
  else bif a1.toList == (ByteArray.mk #[110, 111, 116, 105, 102, 121, 97, 108, 108]).toList then some (DV.bool true)
  else some (DV.bool false)
theorem t205 {K : Nat} (a1 : ByteArray) {r : DV} (h : T205 K a1 = some r) : lm K 205 [.str a1] = some r := fn_run (Eq.trans (by kernel_rfl) h)
/-! 206 206 -/
noncomputable def H206_0 (a1 : ByteArray) (a2 : Int) (v3 : Int) : St := ⟨[.str a1, .int .i64 v3, .fn 207 [] []] ++ (un 18), []⟩
def P206_0 : List Dir := [.c, .l, .r]
noncomputable def hd206_0 (K : Nat) (a1 : ByteArray) (a2 : Int) (v3 : Int) : Option DV := hdL Try.prog (C0 K) 206 P206_0 (bits 21 7) 0 (H206_0 a1 a2 v3)
noncomputable def T206 (K : Nat) (a1 : ByteArray) (a2 : Int) : Option DV :=
  hd206_0 K a1 a2 a2
theorem t206 {K : Nat} (a1 : ByteArray) (a2 : Int) {r : DV} (h : T206 K a1 a2 = some r) : lm K 206 [.str a1, .int .i64 a2, .fn 207 [] []] = some r := fn_run (Eq.trans (by kernel_rfl) h)
noncomputable def L206_0 (K : Nat) (a1 : ByteArray) (a2 : Int) (v3 : Int) : Option DV :=
  bif decide (v3 < (↑a1.size : Int)) then need ((0 : Int) ≤ v3) <|
   (Option.map (fun b => DV.int IntKind.u8 (↑b.toNat : Int)) a1[v3.toNat]?).bind fun x1 =>
   need (x1 = .int .u8 (getI x1)) <|
   (lm K 207 [.int .u8 (getI x1)]).bind fun d2 =>
   need (d2 = .bool (getB d2)) <|
   bif getB d2 then hd206_0 K a1 a2 (IntKind.i64.wrap (v3 + 1))
   else some (DV.int .i64 v3)
  else some (DV.int .i64 v3)
theorem l206_0 {K : Nat} (a1 : ByteArray) (a2 : Int) (v3 : Int) {r : DV} (h : L206_0 K a1 a2 v3 = some r) : hd206_0 K a1 a2 v3 = some r := hd_run (Eq.trans (by kernel_rfl) h)
/-! 207 207 -/
noncomputable def T207 (K : Nat) (a1 : Int) : Option DV :=
  (lm K 204 [.int .u8 a1]).bind fun d1 =>
  need (d1 = .int .i64 (getI d1)) <|
  bif getI d1 == 3 then some (DV.bool true)
  else bif getI d1 == 4 then some (DV.bool true)
  else some (DV.bool (a1 == 95))
theorem t207 {K : Nat} (a1 : Int) {r : DV} (h : T207 K a1 = some r) : lm K 207 [.int .u8 a1] = some r := fn_run (Eq.trans (by kernel_rfl) h)
/-! 88 88 -/
noncomputable def H88_0 (a1 : ByteArray) (v8 : Int) : St := ⟨[.str a1] ++ [.undef, .undef] ++ [.int .i64 v8] ++ (un 41), []⟩
def P88_0 : List Dir := [.c, .r, .l, .r, .r]
noncomputable def hd88_0 (K : Nat) (a1 : ByteArray) (v8 : Int) : Option DV := hdL Try.prog (C0 K) 88 P88_0 (bits 45 9) 0 (H88_0 a1 v8)
noncomputable def T88 (K : Nat) (a1 : ByteArray) : Option DV :=
  bif decide ((↑a1.size : Int) < 1) then some (DV.bool false)
  else bif decide ((↑a1.size : Int) > 32) then some (DV.bool false)
  else need ((0 : Int) ≤ (0 : Int)) <|
  (Option.map (fun b => DV.int IntKind.u8 (↑b.toNat : Int)) a1[Int.toNat 0]?).bind fun x1 =>
  need (x1 = .int .u8 (getI x1)) <|
  (lm K 154 [.int .u8 (getI x1)]).bind fun d2 =>
  need (d2 = .bool (getB d2)) <|
  bif !getB d2 then some (DV.bool false)
  else hd88_0 K a1 0
theorem t88 {K : Nat} (a1 : ByteArray) {r : DV} (h : T88 K a1 = some r) : lm K 88 [.str a1] = some r := fn_run (Eq.trans (by kernel_rfl) h)
noncomputable def L88_0 (K : Nat) (a1 : ByteArray) (v8 : Int) : Option DV :=
  bif decide (v8 < (↑a1.size : Int)) then need ((0 : Int) ≤ v8) <|
   (Option.map (fun b => DV.int IntKind.u8 (↑b.toNat : Int)) a1[v8.toNat]?).bind fun x3 =>
   need (x3 = .int .u8 (getI x3)) <|
   (lm K 154 [.int .u8 (getI x3)]).bind fun d4 =>
   need (d4 = .bool (getB d4)) <|
   bif !getB d4 then need ((0 : Int) ≤ v8) <|
    (Option.map (fun b => DV.int IntKind.u8 (↑b.toNat : Int)) a1[v8.toNat]?).bind fun x5 =>
    need (x5 = .int .u8 (getI x5)) <|
    (lm K 155 [.int .u8 (getI x5)]).bind fun d6 =>
    need (d6 = .bool (getB d6)) <|
    bif !getB d6 then need ((0 : Int) ≤ v8) <|
     (Option.map (fun b => DV.int IntKind.u8 (↑b.toNat : Int)) a1[v8.toNat]?).bind fun x7 =>
     need (x7 = .int .u8 (getI x7)) <|
     bif getI x7 != 95 then some (DV.bool false)
     else hd88_0 K a1 (IntKind.i64.wrap (v8 + 1))
    else hd88_0 K a1 (IntKind.i64.wrap (v8 + 1))
   else hd88_0 K a1 (IntKind.i64.wrap (v8 + 1))
  else (lm K 156 [.str a1]).bind fun d8 =>
  need (d8 = .bool (getB d8)) <|
  some (DV.bool (!getB d8))
theorem l88_0 {K : Nat} (a1 : ByteArray) (v8 : Int) {r : DV} (h : L88_0 K a1 v8 = some r) : hd88_0 K a1 v8 = some r := hd_run (Eq.trans (by kernel_rfl) h)
/-! 154 154 -/
noncomputable def T154 (K : Nat) (a1 : Int) : Option DV :=
  bif decide (a1 ≥ 97) then bif decide (a1 ≤ 122) then some (DV.bool true)
   else bif decide (a1 ≥ 65) then some (DV.bool (decide (a1 ≤ 90)))
   else some (DV.bool false)
  else bif decide (a1 ≥ 65) then some (DV.bool (decide (a1 ≤ 90)))
  else some (DV.bool false)
theorem t154 {K : Nat} (a1 : Int) {r : DV} (h : T154 K a1 = some r) : lm K 154 [.int .u8 a1] = some r := fn_run (Eq.trans (by kernel_rfl) h)
/-! 155 155 -/
noncomputable def T155 (K : Nat) (a1 : Int) : Option DV :=
  bif decide (a1 ≥ 48) then some (DV.bool (decide (a1 ≤ 57)))
  else some (DV.bool false)
theorem t155 {K : Nat} (a1 : Int) {r : DV} (h : T155 K a1 = some r) : lm K 155 [.int .u8 a1] = some r := fn_run (Eq.trans (by kernel_rfl) h)
/-! 156 156 -/
noncomputable def H156_0 (a1 : ByteArray) (d1 : DV) (v3 : Int) : St := ⟨[.str a1] ++ [.undef, .undef] ++ [.sl .no 1 (getL d1), .int .i64 v3] ++ (un 13), []⟩
def P156_0 : List Dir := [.c, .r, .l, .r, .r]
noncomputable def hd156_0 (K : Nat) (a1 : ByteArray) (d1 : DV) (v3 : Int) : Option DV := hdL Try.prog (C0 K) 156 P156_0 (bits 18 25) 0 (H156_0 a1 d1 v3)
noncomputable def T156 (K : Nat) (a1 : ByteArray) : Option DV :=
  (lm K 211 []).bind fun d1 =>
  need (d1 = .sl .no 1 (getL d1)) <|
  hd156_0 K a1 d1 0
theorem t156 {K : Nat} (a1 : ByteArray) {r : DV} (h : T156 K a1 = some r) : lm K 156 [.str a1] = some r := fn_run (Eq.trans (by kernel_rfl) h)
noncomputable def L156_0 (K : Nat) (a1 : ByteArray) (d1 : DV) (v3 : Int) : Option DV :=
  bif decide (v3 < (↑(getL d1).length : Int)) then need ((0 : Int) ≤ v3) <|
   ((getL d1)[v3.toNat]?).bind fun x2 =>
   need (x2 = .str (getS x2)) <|
   bif (getS x2).toList == a1.toList then some (DV.bool true)
   else hd156_0 K a1 d1 (IntKind.i64.wrap (v3 + 1))
  else some (DV.bool false)
theorem l156_0 {K : Nat} (a1 : ByteArray) (d1 : DV) (v3 : Int) {r : DV} (h : L156_0 K a1 d1 v3 = some r) : hd156_0 K a1 d1 v3 = some r := hd_run (Eq.trans (by kernel_rfl) h)
/-! 211 211 -/
noncomputable def T211 (K : Nat) : Option DV :=
  some (DV.sl .no 1 [.str (ByteArray.mk #[109, 111, 110, 105, 116, 111, 114]), .str (ByteArray.mk #[118, 97, 114]), .str (ByteArray.mk #[109, 101, 116, 104, 111, 100]), .str (ByteArray.mk #[116, 104, 114, 101, 97, 100]), .str (ByteArray.mk #[98, 111, 111, 108]), .str (ByteArray.mk #[105, 110, 116]), .str (ByteArray.mk #[116, 114, 117, 101]), .str (ByteArray.mk #[102, 97, 108, 115, 101]), .str (ByteArray.mk #[115, 107, 105, 112]), .str (ByteArray.mk #[105, 102]), .str (ByteArray.mk #[101, 108, 115, 101]), .str (ByteArray.mk #[119, 104, 105, 108, 101]), .str (ByteArray.mk #[108, 111, 111, 112]), .str (ByteArray.mk #[99, 104, 111, 111, 115, 101]), .str (ByteArray.mk #[111, 114]), .str (ByteArray.mk #[115, 121, 110, 99]), .str (ByteArray.mk #[99, 97, 108, 108]), .str (ByteArray.mk #[119, 97, 105, 116]), .str (ByteArray.mk #[110, 111, 116, 105, 102, 121]), .str (ByteArray.mk #[110, 111, 116, 105, 102, 121, 97, 108, 108])])
theorem t211 {K : Nat} {r : DV} (h : T211 K = some r) : lm K 211 [] = some r := fn_run (Eq.trans (by kernel_rfl) h)
end Go.Proofs.Ytmfgdnagmacgdaa.Dv
end
section
/- Trees of questions of functions of the program (printed by a program of this session, wip/dv/sym.txt). No condition. -/
set_option maxRecDepth 100000
set_option linter.unusedVariables false
namespace Go.Proofs.Ytmfgdnagmacgdaa.Dv
/-! 212 212 -/
noncomputable def T212 (K : Nat) (a1 : Int) : Option DV :=
  bif decide (a1 ≥ 1) then bif decide (a1 ≤ 4) then some (DV.int .i64 0)
   else bif decide (a1 ≥ 5) then bif decide (a1 ≤ 7) then some (DV.int .i64 1)
    else bif decide (a1 ≥ 8) then bif decide (a1 ≤ 17) then some (DV.int .i64 2)
     else some (DV.int .i64 (-1))
    else some (DV.int .i64 (-1))
   else bif decide (a1 ≥ 8) then bif decide (a1 ≤ 17) then some (DV.int .i64 2)
    else some (DV.int .i64 (-1))
   else some (DV.int .i64 (-1))
  else bif decide (a1 ≥ 5) then bif decide (a1 ≤ 7) then some (DV.int .i64 1)
   else bif decide (a1 ≥ 8) then bif decide (a1 ≤ 17) then some (DV.int .i64 2)
    else some (DV.int .i64 (-1))
   else some (DV.int .i64 (-1))
  else bif decide (a1 ≥ 8) then bif decide (a1 ≤ 17) then some (DV.int .i64 2)
   else some (DV.int .i64 (-1))
  else some (DV.int .i64 (-1))
theorem t212 {K : Nat} (a1 : Int) {r : DV} (h : T212 K a1 = some r) : lm K 212 [.int .i64 a1] = some r := fn_run (Eq.trans (by kernel_rfl) h)
/-! 158 158 -/
noncomputable def H158_0 (a1 : DV) (v10 : Int) : St := ⟨[.undef] ++ [.ptr 0 0] ++ [.undef] ++ [.int .i64 v10] ++ (un 62), [.box ((R 51 a1).cells)]⟩
def P158_0 : List Dir := [.c, .r, .l, .r, .r, .r]
noncomputable def hd158_0 (K : Nat) (a1 : DV) (v10 : Int) : Option DV := hdL Try.prog (C0 K) 158 P158_0 (bits 66 10) 1 (H158_0 a1 v10)
noncomputable def T158 (K : Nat) (a1 : DV) : Option DV :=
  (lm K 212 [.int .i64 (gI a1 0)]).bind fun d1 =>
  need (d1 = .int .i64 (getI d1)) <|
  bif (↑(gL a1 4).length : Int) != getI d1 then some (DV.bool false)
  else bif decide (gI a1 3 < 0) then some (DV.bool false)
  else bif gI a1 3 != 0 then bif gI a1 0 != 1 then bif gI a1 0 != 7 then some (DV.bool false)
    else bif gI a1 0 == 4 then (lm K 88 [.str (gS a1 1)]).bind fun d2 =>
     need (d2 = .bool (getB d2)) <|
     bif !getB d2 then some (DV.bool false)
     else (lm K 88 [.str (gS a1 2)]).bind fun d3 =>
     need (d3 = .bool (getB d3)) <|
     bif !getB d3 then some (DV.bool false)
     else hd158_0 K a1 0
    else bif !(gS a1 1).toList == (ByteArray.mk #[]).toList then some (DV.bool false)
    else bif !(gS a1 2).toList == (ByteArray.mk #[]).toList then some (DV.bool false)
    else hd158_0 K a1 0
   else bif gI a1 0 == 4 then (lm K 88 [.str (gS a1 1)]).bind fun d4 =>
    need (d4 = .bool (getB d4)) <|
    bif !getB d4 then some (DV.bool false)
    else (lm K 88 [.str (gS a1 2)]).bind fun d5 =>
    need (d5 = .bool (getB d5)) <|
    bif !getB d5 then some (DV.bool false)
    else hd158_0 K a1 0
   else bif !(gS a1 1).toList == (ByteArray.mk #[]).toList then some (DV.bool false)
   else bif !(gS a1 2).toList == (ByteArray.mk #[]).toList then some (DV.bool false)
   else hd158_0 K a1 0
  else bif gI a1 0 == 4 then (lm K 88 [.str (gS a1 1)]).bind fun d6 =>
   need (d6 = .bool (getB d6)) <|
   bif !getB d6 then some (DV.bool false)
   else (lm K 88 [.str (gS a1 2)]).bind fun d7 =>
   need (d7 = .bool (getB d7)) <|
   bif !getB d7 then some (DV.bool false)
   else hd158_0 K a1 0
  else bif !(gS a1 1).toList == (ByteArray.mk #[]).toList then some (DV.bool false)
  else bif !(gS a1 2).toList == (ByteArray.mk #[]).toList then some (DV.bool false)
  else hd158_0 K a1 0
theorem t158 {K : Nat} (a1 : DV) {r : DV} (h : T158 K a1 = some r) : lm K 158 [R 51 a1] = some r := fn_run (Eq.trans (by kernel_rfl) h)
noncomputable def L158_0 (K : Nat) (a1 : DV) (v10 : Int) : Option DV :=
  bif decide (v10 < (↑(gL a1 4).length : Int)) then need ((0 : Int) ≤ v10) <|
   ((gL a1 4)[v10.toNat]?).bind fun x8 =>
   need (x8 = R 51 x8) <|
   (lm K 158 [R 51 x8]).bind fun d9 =>
   need (d9 = .bool (getB d9)) <|
   bif !getB d9 then some (DV.bool false)
   else hd158_0 K a1 (IntKind.i64.wrap (v10 + 1))
  else some (DV.bool true)
theorem l158_0 {K : Nat} (a1 : DV) (v10 : Int) {r : DV} (h : L158_0 K a1 v10 = some r) : hd158_0 K a1 v10 = some r := hd_run (Eq.trans (by kernel_rfl) h)
/-! 157 157 -/
noncomputable def T157 (K : Nat) (a1 : Int) : Option DV :=
  bif a1 == 1 then some (DV.tup [.sl .no 1 [.bool false, .bool false, .bool false, .bool false], .int .i64 0, .int .i64 0, .bool true])
  else bif a1 == 2 then some (DV.tup [.sl .no 1 [.bool true, .bool true, .bool false, .bool true], .int .i64 0, .int .i64 0, .bool true])
  else bif a1 == 3 then some (DV.tup [.sl .no 1 [.bool false, .bool false, .bool false, .bool true], .int .i64 1, .int .i64 2, .bool true])
  else bif a1 == 4 then some (DV.tup [.sl .no 1 [.bool false, .bool false, .bool false, .bool true], .int .i64 1, .int .i64 1, .bool true])
  else bif a1 == 5 then some (DV.tup [.sl .no 1 [.bool false, .bool false, .bool false, .bool false], .int .i64 1, .int .i64 1, .bool true])
  else bif a1 == 6 then some (DV.tup [.sl .no 1 [.bool false, .bool false, .bool false, .bool false], .int .i64 1, .int .i64 8, .bool true])
  else bif a1 == 7 then some (DV.tup [.sl .no 1 [.bool true, .bool false, .bool false, .bool false], .int .i64 1, .int .i64 1, .bool true])
  else bif a1 == 8 then some (DV.tup [.sl .no 1 [.bool true, .bool true, .bool false, .bool false], .int .i64 0, .int .i64 0, .bool true])
  else bif a1 == 9 then some (DV.tup [.sl .no 1 [.bool true, .bool false, .bool true, .bool false], .int .i64 0, .int .i64 0, .bool true])
  else bif a1 == 10 then some (DV.tup [.sl .no 1 [.bool true, .bool false, .bool false, .bool false], .int .i64 0, .int .i64 0, .bool true])
  else bif a1 == 11 then some (DV.tup [.sl .no 1 [.bool true, .bool false, .bool false, .bool false], .int .i64 0, .int .i64 0, .bool true])
  else some (DV.tup [.sl .no 1 [], .int .i64 0, .int .i64 0, .bool false])
theorem t157 {K : Nat} (a1 : Int) {r : DV} (h : T157 K a1 = some r) : lm K 157 [.int .i64 a1] = some r := fn_run (Eq.trans (by kernel_rfl) h)
/-! 159 159 -/
noncomputable def T159 (K : Nat) (a1 : DV) : Option DV :=
  bif gI a1 0 == 0 then bif (gS a1 1).toList == (ByteArray.mk #[]).toList then bif (gS a1 2).toList == (ByteArray.mk #[]).toList then bif gI a1 3 == 0 then some (DV.bool ((↑(gL a1 4).length : Int) == 0))
     else some (DV.bool false)
    else some (DV.bool false)
   else some (DV.bool false)
  else some (DV.bool false)
theorem t159 {K : Nat} (a1 : DV) {r : DV} (h : T159 K a1 = some r) : lm K 159 [R 51 a1] = some r := fn_run (Eq.trans (by kernel_rfl) h)
/-! 165 165 -/
noncomputable def T165 (K : Nat) (a1 : DV) : Option DV :=
  bif gI a1 0 == 0 then bif (gS a1 1).toList == (ByteArray.mk #[]).toList then bif (gS a1 2).toList == (ByteArray.mk #[]).toList then bif gI a1 3 == 0 then some (DV.bool ((↑(gL a1 4).length : Int) == 0))
     else some (DV.bool false)
    else some (DV.bool false)
   else some (DV.bool false)
  else some (DV.bool false)
theorem t165 {K : Nat} (a1 : DV) {r : DV} (h : T165 K a1 = some r) : lm K 165 [R 51 a1] = some r := fn_run (Eq.trans (by kernel_rfl) h)
/-! 235 235 -/
noncomputable def T235 (K : Nat) (a1 : Int) : Option DV :=
  bif decide (a1 < 1) then some (DV.tup [.agg [.bool false, .bool false, .bool false, .bool false, .int .i64 0, .int .i64 0], .bool false])
  else bif decide (a1 ≥ 12) then some (DV.tup [.agg [.bool false, .bool false, .bool false, .bool false, .int .i64 0, .int .i64 0], .bool false])
  else need ((0 : Int) ≤ a1 ∧ a1 < (12 : Int)) <|
  bif a1 == 0 then some (DV.tup [.agg [.bool false, .bool false, .bool false, .bool false, .int .i64 0, .int .i64 0], .bool true])
  else bif a1 == 1 then some (DV.tup [.agg [.bool false, .bool false, .bool false, .bool false, .int .i64 0, .int .i64 0], .bool true])
  else bif a1 == 2 then some (DV.tup [.agg [.bool true, .bool true, .bool false, .bool true, .int .i64 0, .int .i64 0], .bool true])
  else bif a1 == 3 then some (DV.tup [.agg [.bool false, .bool false, .bool false, .bool true, .int .i64 1, .int .i64 2], .bool true])
  else bif a1 == 4 then some (DV.tup [.agg [.bool false, .bool false, .bool false, .bool true, .int .i64 1, .int .i64 1], .bool true])
  else bif a1 == 5 then some (DV.tup [.agg [.bool false, .bool false, .bool false, .bool false, .int .i64 1, .int .i64 1], .bool true])
  else bif a1 == 6 then some (DV.tup [.agg [.bool false, .bool false, .bool false, .bool false, .int .i64 1, .int .i64 8], .bool true])
  else bif a1 == 7 then some (DV.tup [.agg [.bool true, .bool false, .bool false, .bool false, .int .i64 1, .int .i64 1], .bool true])
  else bif a1 == 8 then some (DV.tup [.agg [.bool true, .bool true, .bool false, .bool false, .int .i64 0, .int .i64 0], .bool true])
  else bif a1 == 9 then some (DV.tup [.agg [.bool true, .bool false, .bool true, .bool false, .int .i64 0, .int .i64 0], .bool true])
  else bif a1 == 10 then some (DV.tup [.agg [.bool true, .bool false, .bool false, .bool false, .int .i64 0, .int .i64 0], .bool true])
  else bif a1 == 11 then some (DV.tup [.agg [.bool true, .bool false, .bool false, .bool false, .int .i64 0, .int .i64 0], .bool true])
  else none
theorem t235 {K : Nat} (a1 : Int) {r : DV} (h : T235 K a1 = some r) : lm K 235 [.int .i64 a1] = some r := fn_run (Eq.trans (by kernel_rfl) h)
/-! 236 236 -/
noncomputable def T236 (K : Nat) (a1 : ByteArray) (a2 : Bool) : Option DV :=
  bif !a2 then some (DV.bool (a1.toList == (ByteArray.mk #[]).toList))
  else (lm K 147 [.str a1]).bind fun d1 =>
  need (d1 = .bool (getB d1)) <|
  some (DV.bool (getB d1))
theorem t236 {K : Nat} (a1 : ByteArray) (a2 : Bool) {r : DV} (h : T236 K a1 a2 = some r) : lm K 236 [.str a1, .bool a2] = some r := fn_run (Eq.trans (by kernel_rfl) h)
/-! 209 209 -/
noncomputable def T209 (K : Nat) (a1 : DV) : Option DV :=
  (lm K 210 [R 56 a1]).bind fun d1 =>
  need (d1 = .bool (getB d1)) <|
  some (DV.bool (!getB d1))
theorem t209 {K : Nat} (a1 : DV) {r : DV} (h : T209 K a1 = some r) : lm K 209 [R 56 a1] = some r := fn_run (Eq.trans (by kernel_rfl) h)
/-! 234 234 -/
noncomputable def H234_0 (a1 : List DV) (v3 : Int) : St := ⟨[.sl .no 12 a1, .fn 209 [] []] ++ (un 5) ++ [.int .i64 ((↑a1.length : Int)), .int .i64 v3] ++ (un 10), []⟩
def P234_0 : List Dir := [.c, .r, .l, .r]
noncomputable def hd234_0 (K : Nat) (a1 : List DV) (v3 : Int) : Option DV := hdL Try.prog (C0 K) 234 P234_0 (bits 19 387) 0 (H234_0 a1 v3)
noncomputable def T234 (K : Nat) (a1 : List DV) : Option DV :=
  hd234_0 K a1 0
theorem t234 {K : Nat} (a1 : List DV) {r : DV} (h : T234 K a1 = some r) : lm K 234 [.sl .no 12 a1, .fn 209 [] []] = some r := fn_run (Eq.trans (by kernel_rfl) h)
noncomputable def L234_0 (K : Nat) (a1 : List DV) (v3 : Int) : Option DV :=
  bif decide (v3 < (↑a1.length : Int)) then need ((0 : Int) ≤ v3) <|
   (a1[v3.toNat]?).bind fun x1 =>
   need (x1 = R 56 x1) <|
   (lm K 209 [R 56 x1]).bind fun d2 =>
   need (d2 = .bool (getB d2)) <|
   bif getB d2 then some (DV.int .i64 v3)
   else hd234_0 K a1 (IntKind.i64.wrap (v3 + 1))
  else some (DV.int .i64 (-1))
theorem l234_0 {K : Nat} (a1 : List DV) (v3 : Int) {r : DV} (h : L234_0 K a1 v3 = some r) : hd234_0 K a1 v3 = some r := hd_run (Eq.trans (by kernel_rfl) h)
/-! 208 208 -/
noncomputable def T208 (K : Nat) (a1 : List DV) : Option DV :=
  (lm K 234 [.sl .no 12 a1, .fn 209 [] []]).bind fun d1 =>
  need (d1 = .int .i64 (getI d1)) <|
  some (DV.bool (decide (getI d1 ≥ 0)))
theorem t208 {K : Nat} (a1 : List DV) {r : DV} (h : T208 K a1 = some r) : lm K 208 [.sl .no 12 a1, .fn 209 [] []] = some r := fn_run (Eq.trans (by kernel_rfl) h)
/-! 149 149 -/
noncomputable def T149 (K : Nat) (a1 : List DV) : Option DV :=
  (lm K 208 [.sl .no 12 a1, .fn 209 [] []]).bind fun d1 =>
  need (d1 = .bool (getB d1)) <|
  some (DV.bool (!getB d1))
theorem t149 {K : Nat} (a1 : List DV) {r : DV} (h : T149 K a1 = some r) : lm K 149 [.sl .no 12 a1] = some r := fn_run (Eq.trans (by kernel_rfl) h)
/-! 210 210 -/
noncomputable def H210_0 (a1 : DV) (v12 : Int) (d1 : DV) : St := ⟨(un 85) ++ [.sl .no 1 (gL a1 10), .int .i64 ((↑(gL a1 10).length : Int)), .int .i64 v12] ++ (un 7), [.box ((R 56 a1).cells), .box [.bool (gB (getT d1 0) 0), .bool (gB (getT d1 0) 1), .bool (gB (getT d1 0) 2), .bool (gB (getT d1 0) 3), .int .i64 (gI (getT d1 0) 4), .int .i64 (gI (getT d1 0) 5)]]⟩
def P210_0 : List Dir := [.c, .r, .l, .r, .r, .r, .r, .r]
noncomputable def hd210_0 (K : Nat) (a1 : DV) (v12 : Int) (d1 : DV) : Option DV := hdL Try.prog (C0 K) 210 P210_0 (bits 95 270799383593676935134183424) 2 (H210_0 a1 v12 d1)
noncomputable def T210 (K : Nat) (a1 : DV) : Option DV :=
  (lm K 235 [.int .i64 (gI a1 0)]).bind fun d1 =>
  need (d1 = .tup [.agg [.bool (gB (getT d1 0) 0), .bool (gB (getT d1 0) 1), .bool (gB (getT d1 0) 2), .bool (gB (getT d1 0) 3), .int .i64 (gI (getT d1 0) 4), .int .i64 (gI (getT d1 0) 5)], .bool (getB (getT d1 1))]) <|
  bif !getB (getT d1 1) then some (DV.bool false)
  else bif decide ((↑(gL a1 10).length : Int) < gI (getT d1 0) 4) then some (DV.bool false)
  else bif decide ((↑(gL a1 10).length : Int) > gI (getT d1 0) 5) then some (DV.bool false)
  else (lm K 236 [.str (gS a1 1), .bool (gB (getT d1 0) 0)]).bind fun d2 =>
  need (d2 = .bool (getB d2)) <|
  bif !getB d2 then some (DV.bool false)
  else (lm K 236 [.str (gS a1 2), .bool (gB (getT d1 0) 1)]).bind fun d3 =>
  need (d3 = .bool (getB d3)) <|
  bif !getB d3 then some (DV.bool false)
  else bif decide (gI a1 3 < 0) then some (DV.bool false)
  else bif !gB (getT d1 0) 2 then bif gI a1 3 != 0 then some (DV.bool false)
   else bif gB (getT d1 0) 3 then (lm K 41 [.agg [.int .i64 (gI a1 4), .str (gS a1 5), .str (gS a1 6), .int .i64 (gI a1 7), .sl .no 6 (gL a1 8), .int .i64 (gI a1 9)]]).bind fun d4 =>
    need (d4 = .int .i64 (getI d4)) <|
    bif getI d4 != 0 then some (DV.bool false)
    else bif !gB (getT d1 0) 3 then (lm K 165 [.agg [.int .i64 (gI a1 4), .str (gS a1 5), .str (gS a1 6), .int .i64 (gI a1 7), .sl .no 6 (gL a1 8), .int .i64 (gI a1 9)]]).bind fun d5 =>
     need (d5 = .bool (getB d5)) <|
     bif !getB d5 then some (DV.bool false)
     else hd210_0 K a1 0 d1
    else hd210_0 K a1 0 d1
   else bif !gB (getT d1 0) 3 then (lm K 165 [.agg [.int .i64 (gI a1 4), .str (gS a1 5), .str (gS a1 6), .int .i64 (gI a1 7), .sl .no 6 (gL a1 8), .int .i64 (gI a1 9)]]).bind fun d6 =>
    need (d6 = .bool (getB d6)) <|
    bif !getB d6 then some (DV.bool false)
    else hd210_0 K a1 0 d1
   else hd210_0 K a1 0 d1
  else bif gB (getT d1 0) 3 then (lm K 41 [.agg [.int .i64 (gI a1 4), .str (gS a1 5), .str (gS a1 6), .int .i64 (gI a1 7), .sl .no 6 (gL a1 8), .int .i64 (gI a1 9)]]).bind fun d7 =>
   need (d7 = .int .i64 (getI d7)) <|
   bif getI d7 != 0 then some (DV.bool false)
   else bif !gB (getT d1 0) 3 then (lm K 165 [.agg [.int .i64 (gI a1 4), .str (gS a1 5), .str (gS a1 6), .int .i64 (gI a1 7), .sl .no 6 (gL a1 8), .int .i64 (gI a1 9)]]).bind fun d8 =>
    need (d8 = .bool (getB d8)) <|
    bif !getB d8 then some (DV.bool false)
    else hd210_0 K a1 0 d1
   else hd210_0 K a1 0 d1
  else bif !gB (getT d1 0) 3 then (lm K 165 [.agg [.int .i64 (gI a1 4), .str (gS a1 5), .str (gS a1 6), .int .i64 (gI a1 7), .sl .no 6 (gL a1 8), .int .i64 (gI a1 9)]]).bind fun d9 =>
   need (d9 = .bool (getB d9)) <|
   bif !getB d9 then some (DV.bool false)
   else hd210_0 K a1 0 d1
  else hd210_0 K a1 0 d1
theorem t210 {K : Nat} (a1 : DV) {r : DV} (h : T210 K a1 = some r) : lm K 210 [R 56 a1] = some r := fn_run (Eq.trans (by kernel_rfl) h)
noncomputable def L210_0 (K : Nat) (a1 : DV) (v12 : Int) (d1 : DV) : Option DV :=
  bif decide (v12 < (↑(gL a1 10).length : Int)) then need ((0 : Int) ≤ v12) <|
   ((gL a1 10)[v12.toNat]?).bind fun x10 =>
   need (x10 = .sl .no 12 (getL x10)) <|
   (lm K 149 [.sl .no 12 (getL x10)]).bind fun d11 =>
   need (d11 = .bool (getB d11)) <|
   bif !getB d11 then some (DV.bool false)
   else hd210_0 K a1 (IntKind.i64.wrap (v12 + 1)) d1
  else some (DV.bool true)
theorem l210_0 {K : Nat} (a1 : DV) (v12 : Int) (d1 : DV) {r : DV} (h : L210_0 K a1 v12 d1 = some r) : hd210_0 K a1 v12 d1 = some r := hd_run (Eq.trans (by kernel_rfl) h)
end Go.Proofs.Ytmfgdnagmacgdaa.Dv
end
section
/- Trees of questions of functions of the program (printed by a program of this session, wip/dv/sym.txt). No condition. -/
set_option maxRecDepth 100000
set_option linter.unusedVariables false
namespace Go.Proofs.Ytmfgdnagmacgdaa.Dv
/-! 152 152 -/
noncomputable def T152 (K : Nat) (a1 : DV) : Option DV :=
  (lm K 147 [.str (gS a1 0)]).bind fun d1 =>
  need (d1 = .bool (getB d1)) <|
  bif !getB d1 then some (DV.bool false)
  else bif (if gI a1 4 < if gI a1 3 < gI a1 2 then gI a1 3 else gI a1 2 then gI a1 4 else if gI a1 3 < gI a1 2 then gI a1 3 else gI a1 2) == -9223372036854775808 then some (DV.bool false)
  else bif gI a1 2 == 0 then bif gI a1 1 == 1 then bif gI a1 3 == 0 then bif gI a1 4 == 0 then some (DV.bool true)
     else some (DV.bool (gI a1 4 == 1))
    else some (DV.bool false)
   else bif gI a1 1 == 2 then some (DV.bool (gI a1 3 == 0))
   else bif gI a1 1 == 3 then some (DV.bool (decide (gI a1 2 ≤ gI a1 3)))
   else some (DV.bool false)
  else bif gI a1 1 == 1 then some (DV.bool false)
  else bif gI a1 1 == 2 then some (DV.bool false)
  else bif gI a1 1 == 3 then some (DV.bool (decide (gI a1 2 ≤ gI a1 3)))
  else some (DV.bool false)
theorem t152 {K : Nat} (a1 : DV) {r : DV} (h : T152 K a1 = some r) : lm K 152 [R 61 a1] = some r := fn_run (Eq.trans (by kernel_rfl) h)
/-! 148 148 -/
noncomputable def T148 (K : Nat) (a1 : DV) : Option DV :=
  (lm K 147 [.str (gS a1 0)]).bind fun d1 =>
  need (d1 = .bool (getB d1)) <|
  bif !getB d1 then some (DV.bool true)
  else (lm K 149 [.sl .no 12 (gL a1 1)]).bind fun d2 =>
  need (d2 = .bool (getB d2)) <|
  some (DV.bool (!getB d2))
theorem t148 {K : Nat} (a1 : DV) {r : DV} (h : T148 K a1 = some r) : lm K 148 [R 102 a1] = some r := fn_run (Eq.trans (by kernel_rfl) h)
/-! 151 151 -/
noncomputable def T151 (K : Nat) (a1 : DV) : Option DV :=
  (lm K 152 [R 61 a1]).bind fun d1 =>
  need (d1 = .bool (getB d1)) <|
  some (DV.bool (!getB d1))
theorem t151 {K : Nat} (a1 : DV) {r : DV} (h : T151 K a1 = some r) : lm K 151 [R 61 a1] = some r := fn_run (Eq.trans (by kernel_rfl) h)
/-! 113 113 -/
noncomputable def H113_0 (a1 : List DV) (v3 : Int) : St := ⟨[.sl .no 6 a1, .fn 151 [] []] ++ (un 5) ++ [.int .i64 ((↑a1.length : Int)), .int .i64 v3] ++ (un 10), []⟩
def P113_0 : List Dir := [.c, .r, .l, .r]
noncomputable def hd113_0 (K : Nat) (a1 : List DV) (v3 : Int) : Option DV := hdL Try.prog (C0 K) 113 P113_0 (bits 19 387) 0 (H113_0 a1 v3)
noncomputable def T113 (K : Nat) (a1 : List DV) : Option DV :=
  hd113_0 K a1 0
theorem t113 {K : Nat} (a1 : List DV) {r : DV} (h : T113 K a1 = some r) : lm K 113 [.sl .no 6 a1, .fn 151 [] []] = some r := fn_run (Eq.trans (by kernel_rfl) h)
noncomputable def L113_0 (K : Nat) (a1 : List DV) (v3 : Int) : Option DV :=
  bif decide (v3 < (↑a1.length : Int)) then need ((0 : Int) ≤ v3) <|
   (a1[v3.toNat]?).bind fun x1 =>
   need (x1 = R 61 x1) <|
   (lm K 151 [R 61 x1]).bind fun d2 =>
   need (d2 = .bool (getB d2)) <|
   bif getB d2 then some (DV.int .i64 v3)
   else hd113_0 K a1 (IntKind.i64.wrap (v3 + 1))
  else some (DV.int .i64 (-1))
theorem l113_0 {K : Nat} (a1 : List DV) (v3 : Int) {r : DV} (h : L113_0 K a1 v3 = some r) : hd113_0 K a1 v3 = some r := hd_run (Eq.trans (by kernel_rfl) h)
/-! 150 150 -/
noncomputable def T150 (K : Nat) (a1 : List DV) : Option DV :=
  (lm K 113 [.sl .no 6 a1, .fn 151 [] []]).bind fun d1 =>
  need (d1 = .int .i64 (getI d1)) <|
  some (DV.bool (decide (getI d1 ≥ 0)))
theorem t150 {K : Nat} (a1 : List DV) {r : DV} (h : T150 K a1 = some r) : lm K 150 [.sl .no 6 a1, .fn 151 [] []] = some r := fn_run (Eq.trans (by kernel_rfl) h)
/-! 167 167 -/
noncomputable def H167_0 (a1 : List DV) (v3 : Int) : St := ⟨[.sl .no 3 a1, .fn 148 [] []] ++ (un 5) ++ [.int .i64 ((↑a1.length : Int)), .int .i64 v3] ++ (un 10), []⟩
def P167_0 : List Dir := [.c, .r, .l, .r]
noncomputable def hd167_0 (K : Nat) (a1 : List DV) (v3 : Int) : Option DV := hdL Try.prog (C0 K) 167 P167_0 (bits 19 387) 0 (H167_0 a1 v3)
noncomputable def T167 (K : Nat) (a1 : List DV) : Option DV :=
  hd167_0 K a1 0
theorem t167 {K : Nat} (a1 : List DV) {r : DV} (h : T167 K a1 = some r) : lm K 167 [.sl .no 3 a1, .fn 148 [] []] = some r := fn_run (Eq.trans (by kernel_rfl) h)
noncomputable def L167_0 (K : Nat) (a1 : List DV) (v3 : Int) : Option DV :=
  bif decide (v3 < (↑a1.length : Int)) then need ((0 : Int) ≤ v3) <|
   (a1[v3.toNat]?).bind fun x1 =>
   need (x1 = R 102 x1) <|
   (lm K 148 [R 102 x1]).bind fun d2 =>
   need (d2 = .bool (getB d2)) <|
   bif getB d2 then some (DV.int .i64 v3)
   else hd167_0 K a1 (IntKind.i64.wrap (v3 + 1))
  else some (DV.int .i64 (-1))
theorem l167_0 {K : Nat} (a1 : List DV) (v3 : Int) {r : DV} (h : L167_0 K a1 v3 = some r) : hd167_0 K a1 v3 = some r := hd_run (Eq.trans (by kernel_rfl) h)
/-! 153 153 -/
noncomputable def T153 (K : Nat) (a1 : List DV) : Option DV :=
  (lm K 167 [.sl .no 3 a1, .fn 148 [] []]).bind fun d1 =>
  need (d1 = .int .i64 (getI d1)) <|
  some (DV.bool (decide (getI d1 ≥ 0)))
theorem t153 {K : Nat} (a1 : List DV) {r : DV} (h : T153 K a1 = some r) : lm K 153 [.sl .no 3 a1, .fn 148 [] []] = some r := fn_run (Eq.trans (by kernel_rfl) h)
/-! 86 86 -/
noncomputable def T86 (K : Nat) (a1 : DV) : Option DV :=
  (lm K 147 [.str (gS a1 0)]).bind fun d1 =>
  need (d1 = .bool (getB d1)) <|
  bif !getB d1 then some (DV.bool false)
  else bif decide ((↑(gL a1 1).length : Int) > 16) then some (DV.bool false)
  else bif decide ((↑(gL a1 2).length : Int) > 16) then some (DV.bool false)
  else (lm K 150 [.sl .no 6 (gL a1 1), .fn 151 [] []]).bind fun d2 =>
  need (d2 = .bool (getB d2)) <|
  bif !getB d2 then (lm K 153 [.sl .no 3 (gL a1 2), .fn 148 [] []]).bind fun d3 =>
   need (d3 = .bool (getB d3)) <|
   some (DV.bool (!getB d3))
  else some (DV.bool false)
theorem t86 {K : Nat} (a1 : DV) {r : DV} (h : T86 K a1 = some r) : lm K 86 [R 45 a1] = some r := fn_run (Eq.trans (by kernel_rfl) h)
/-! 87 87 -/
noncomputable def T87 (K : Nat) (a1 : DV) : Option DV :=
  (lm K 147 [.str (gS a1 0)]).bind fun d1 =>
  need (d1 = .bool (getB d1)) <|
  bif getB d1 then bif decide (gI a1 2 ≥ 0) then bif gB a1 1 then bif !gI a1 2 != 0 then (lm K 149 [.sl .no 12 (gL a1 3)]).bind fun d2 =>
      need (d2 = .bool (getB d2)) <|
      some (DV.bool (getB d2))
     else some (DV.bool false)
    else (lm K 149 [.sl .no 12 (gL a1 3)]).bind fun d3 =>
    need (d3 = .bool (getB d3)) <|
    some (DV.bool (getB d3))
   else some (DV.bool false)
  else some (DV.bool false)
theorem t87 {K : Nat} (a1 : DV) {r : DV} (h : T87 K a1 = some r) : lm K 87 [R 35 a1] = some r := fn_run (Eq.trans (by kernel_rfl) h)
/-! 27 27 -/
noncomputable def H27_0 (a1 : DV) (v3 : Int) : St := ⟨[.undef] ++ [.ptr 0 0] ++ (un 16) ++ [.sl .no 4 (gL a1 0), .int .i64 ((↑(gL a1 0).length : Int)), .int .i64 v3] ++ (un 18), [.box ((R 25 a1).cells)]⟩
def P27_0 : List Dir := [.c, .r, .l, .r, .r]
noncomputable def hd27_0 (K : Nat) (a1 : DV) (v3 : Int) : Option DV := hdL Try.prog (C0 K) 27 P27_0 (bits 39 1835010) 1 (H27_0 a1 v3)
noncomputable def H27_1 (a1 : DV) (v5 : Int) : St := ⟨(un 29) ++ [.sl .no 5 (gL a1 1), .int .i64 ((↑(gL a1 1).length : Int)), .int .i64 v5] ++ (un 7), [.box ((R 25 a1).cells)]⟩
def P27_1 : List Dir := [.c, .r, .l, .r, .r, .r]
noncomputable def hd27_1 (K : Nat) (a1 : DV) (v5 : Int) : Option DV := hdL Try.prog (C0 K) 27 P27_1 (bits 39 3758096384) 1 (H27_1 a1 v5)
noncomputable def T27 (K : Nat) (a1 : DV) : Option DV :=
  bif decide ((↑(gL a1 0).length : Int) > 8) then some (DV.int .i64 20)
  else bif decide ((↑(gL a1 1).length : Int) > 8) then some (DV.int .i64 20)
  else hd27_0 K a1 0
theorem t27 {K : Nat} (a1 : DV) {r : DV} (h : T27 K a1 = some r) : lm K 27 [R 25 a1] = some r := fn_run (Eq.trans (by kernel_rfl) h)
noncomputable def L27_0 (K : Nat) (a1 : DV) (v3 : Int) : Option DV :=
  bif decide (v3 < (↑(gL a1 0).length : Int)) then need ((0 : Int) ≤ v3) <|
   ((gL a1 0)[v3.toNat]?).bind fun x1 =>
   need (x1 = R 45 x1) <|
   (lm K 86 [R 45 x1]).bind fun d2 =>
   need (d2 = .bool (getB d2)) <|
   bif !getB d2 then some (DV.int .i64 20)
   else hd27_0 K a1 (IntKind.i64.wrap (v3 + 1))
  else hd27_1 K a1 0
theorem l27_0 {K : Nat} (a1 : DV) (v3 : Int) {r : DV} (h : L27_0 K a1 v3 = some r) : hd27_0 K a1 v3 = some r := hd_run (Eq.trans (by kernel_rfl) h)
noncomputable def L27_1 (K : Nat) (a1 : DV) (v5 : Int) : Option DV :=
  bif decide (v5 < (↑(gL a1 1).length : Int)) then need ((0 : Int) ≤ v5) <|
   ((gL a1 1)[v5.toNat]?).bind fun x3 =>
   need (x3 = R 35 x3) <|
   (lm K 87 [R 35 x3]).bind fun d4 =>
   need (d4 = .bool (getB d4)) <|
   bif !getB d4 then some (DV.int .i64 20)
   else hd27_1 K a1 (IntKind.i64.wrap (v5 + 1))
  else some (DV.int .i64 0)
theorem l27_1 {K : Nat} (a1 : DV) (v5 : Int) {r : DV} (h : L27_1 K a1 v5 = some r) : hd27_1 K a1 v5 = some r := hd_run (Eq.trans (by kernel_rfl) h)
end Go.Proofs.Ytmfgdnagmacgdaa.Dv
end
section
/- Trees of questions of functions of the program (printed by a program of this session, wip/dv/sym.txt). No condition. -/
set_option maxRecDepth 100000
set_option linter.unusedVariables false
namespace Go.Proofs.Ytmfgdnagmacgdaa.Dv
/-! 89 89 -/
noncomputable def T89 (K : Nat) (a1 : DV) : Option DV :=
  (lm K 88 [.str (gS a1 0)]).bind fun d1 =>
  need (d1 = .bool (getB d1)) <|
  bif !getB d1 then some (DV.bool false)
  else bif gI a1 2 == -9223372036854775808 then some (DV.bool false)
  else bif gI a1 3 == -9223372036854775808 then some (DV.bool false)
  else bif gI a1 4 == -9223372036854775808 then some (DV.bool false)
  else bif gI a1 1 == 1 then bif gI a1 2 == 0 then bif gI a1 3 == 0 then bif gI a1 4 == 0 then some (DV.bool true)
     else some (DV.bool (gI a1 4 == 1))
    else some (DV.bool false)
   else some (DV.bool false)
  else bif gI a1 1 == 2 then bif gI a1 2 == 0 then some (DV.bool (gI a1 3 == 0))
   else some (DV.bool false)
  else bif gI a1 1 == 3 then some (DV.bool (decide (gI a1 2 ≤ gI a1 3)))
  else some (DV.bool false)
theorem t89 {K : Nat} (a1 : DV) {r : DV} (h : T89 K a1 = some r) : lm K 89 [R 61 a1] = some r := fn_run (Eq.trans (by kernel_rfl) h)
/-! 40 40 -/
noncomputable def H40_0 (a1 : DV) (a2 : Int) (v3 : Int) (v4 : Int) : St := ⟨[.undef] ++ [.int .i64 v3, .ptr 0 0] ++ [.undef, .undef] ++ [.int .i64 v4] ++ (un 38), [.box ((R 51 a1).cells)]⟩
def P40_0 : List Dir := [.c, .r, .l, .r, .r, .r]
noncomputable def hd40_0 (K : Nat) (a1 : DV) (a2 : Int) (v3 : Int) (v4 : Int) : Option DV := hdL Try.prog (C0 K) 40 P40_0 (bits 44 38) 1 (H40_0 a1 a2 v3 v4)
noncomputable def T40 (K : Nat) (a1 : DV) (a2 : Int) : Option DV :=
  bif decide ((↑(gS a1 1).size : Int) > 200) then some (DV.int .i64 (-1))
  else bif decide ((↑(gS a1 2).size : Int) > 200) then some (DV.int .i64 (-1))
  else bif decide ((↑(gL a1 4).length : Int) > a2) then some (DV.int .i64 (-1))
  else hd40_0 K a1 a2 (IntKind.i64.wrap (a2 - 1)) 0
theorem t40 {K : Nat} (a1 : DV) (a2 : Int) {r : DV} (h : T40 K a1 a2 = some r) : lm K 40 [R 51 a1, .int .i64 a2] = some r := fn_run (Eq.trans (by kernel_rfl) h)
noncomputable def L40_0 (K : Nat) (a1 : DV) (a2 : Int) (v3 : Int) (v4 : Int) : Option DV :=
  bif decide (v4 < (↑(gL a1 4).length : Int)) then bif decide (v3 ≥ 0) then need ((0 : Int) ≤ v4) <|
    ((gL a1 4)[v4.toNat]?).bind fun x1 =>
    need (x1 = R 51 x1) <|
    (lm K 40 [R 51 x1, .int .i64 v3]).bind fun d2 =>
    need (d2 = .int .i64 (getI d2)) <|
    hd40_0 K a1 a2 (getI d2) (IntKind.i64.wrap (v4 + 1))
   else some (DV.int .i64 v3)
  else some (DV.int .i64 v3)
theorem l40_0 {K : Nat} (a1 : DV) (a2 : Int) (v3 : Int) (v4 : Int) {r : DV} (h : L40_0 K a1 a2 v3 v4 = some r) : hd40_0 K a1 a2 v3 v4 = some r := hd_run (Eq.trans (by kernel_rfl) h)
/-! 76 76 -/
noncomputable def H76_0 (a1 : List DV) (a2 : Int) (v11 : Int) (v12 : Int) : St := ⟨[.sl .no 12 a1, .int .i64 v11] ++ [.undef, .undef, .undef] ++ [.int .i64 v12] ++ (un 74), []⟩
def P76_0 : List Dir := [.c, .r, .l, .r, .r]
noncomputable def hd76_0 (K : Nat) (a1 : List DV) (a2 : Int) (v11 : Int) (v12 : Int) : Option DV := hdL Try.prog (C0 K) 76 P76_0 (bits 80 35) 0 (H76_0 a1 a2 v11 v12)
noncomputable def H76_1 (a1 : List DV) (a2 : Int) (d5 : DV) (v6 : Int) (v10 : Int) : St := ⟨[.sl .no 12 a1, .int .i64 (getI d5)] ++ [.undef, .undef, .undef] ++ [.int .i64 v6, .int .i64 v10] ++ (un 73), []⟩
def P76_1 : List Dir := [.c, .r, .r, .r, .c, .l, .r, .loop (bits 80 35) 0, .c, .r, .l, .r, .r]
noncomputable def hd76_1 (K : Nat) (a1 : List DV) (a2 : Int) (d5 : DV) (v6 : Int) (v10 : Int) : Option DV := hdL Try.prog (C0 K) 76 P76_1 (bits 80 99) 0 (H76_1 a1 a2 d5 v6 v10)
noncomputable def T76 (K : Nat) (a1 : List DV) (a2 : Int) : Option DV :=
  bif decide ((↑a1.length : Int) > a2) then some (DV.int .i64 (-1))
  else hd76_0 K a1 a2 a2 0
theorem t76 {K : Nat} (a1 : List DV) (a2 : Int) {r : DV} (h : T76 K a1 a2 = some r) : lm K 76 [.sl .no 12 a1, .int .i64 a2] = some r := fn_run (Eq.trans (by kernel_rfl) h)
noncomputable def L76_0 (K : Nat) (a1 : List DV) (a2 : Int) (v11 : Int) (v12 : Int) : Option DV :=
  bif decide (v12 < (↑a1.length : Int)) then bif decide (v11 ≥ 0) then need ((0 : Int) ≤ v12) <|
    (a1[v12.toNat]?).bind fun x1 =>
    need (x1 = R 56 x1) <|
    bif decide ((↑(gS x1 1).size : Int) > 200) then some (DV.int .i64 (-1))
    else need ((0 : Int) ≤ v12) <|
    (a1[v12.toNat]?).bind fun x2 =>
    need (x2 = R 56 x2) <|
    bif decide ((↑(gS x2 2).size : Int) > 200) then some (DV.int .i64 (-1))
    else need ((0 : Int) ≤ v12) <|
    (a1[v12.toNat]?).bind fun x3 =>
    need (x3 = R 56 x3) <|
    bif decide ((↑(gL x3 10).length : Int) > 40) then some (DV.int .i64 (-1))
    else need ((0 : Int) ≤ v12) <|
    (a1[v12.toNat]?).bind fun x4 =>
    need (x4 = R 56 x4) <|
    (lm K 40 [.agg [.int .i64 (gI x4 4), .str (gS x4 5), .str (gS x4 6), .int .i64 (gI x4 7), .sl .no 6 (gL x4 8), .int .i64 (gI x4 9)], .int .i64 (IntKind.i64.wrap (v11 - 1))]).bind fun d5 =>
    need (d5 = .int .i64 (getI d5)) <|
    hd76_1 K a1 a2 d5 v12 0
   else some (DV.int .i64 v11)
  else some (DV.int .i64 v11)
theorem l76_0 {K : Nat} (a1 : List DV) (a2 : Int) (v11 : Int) (v12 : Int) {r : DV} (h : L76_0 K a1 a2 v11 v12 = some r) : hd76_0 K a1 a2 v11 v12 = some r := hd_run (Eq.trans (by kernel_rfl) h)
noncomputable def L76_1 (K : Nat) (a1 : List DV) (a2 : Int) (d5 : DV) (v6 : Int) (v10 : Int) : Option DV :=
  need ((0 : Int) ≤ v6) <|
  (a1[v6.toNat]?).bind fun x6 =>
  need (x6 = R 56 x6) <|
  bif decide (v10 < (↑(gL x6 10).length : Int)) then bif decide (getI d5 ≥ 0) then need ((0 : Int) ≤ v6) <|
    (a1[v6.toNat]?).bind fun x7 =>
    need (x7 = R 56 x7) <|
    need ((0 : Int) ≤ v10) <|
    ((gL x7 10)[v10.toNat]?).bind fun x8 =>
    need (x8 = .sl .no 12 (getL x8)) <|
    (lm K 76 [.sl .no 12 (getL x8), .int .i64 (IntKind.i64.wrap (getI d5 - 1))]).bind fun d9 =>
    need (d9 = .int .i64 (getI d9)) <|
    hd76_1 K a1 a2 d9 v6 (IntKind.i64.wrap (v10 + 1))
   else hd76_0 K a1 a2 (getI d5) (IntKind.i64.wrap (v6 + 1))
  else hd76_0 K a1 a2 (getI d5) (IntKind.i64.wrap (v6 + 1))
theorem l76_1 {K : Nat} (a1 : List DV) (a2 : Int) (d5 : DV) (v6 : Int) (v10 : Int) {r : DV} (h : L76_1 K a1 a2 d5 v6 v10 = some r) : hd76_1 K a1 a2 d5 v6 v10 = some r := hd_run (Eq.trans (by kernel_rfl) h)
/-! 25 25 -/
noncomputable def H25_0 (a1 : DV) (a2 : Int) (v11 : Int) (v1 : Int) : St := ⟨[.undef, .undef] ++ [.ptr 0 0] ++ [.undef, .undef] ++ [.int .i64 v11, .int .i64 v1] ++ (un 106), [.box ((R 25 a1).cells)]⟩
def P25_0 : List Dir := [.c, .r, .l, .r, .r, .r]
noncomputable def hd25_0 (K : Nat) (a1 : DV) (a2 : Int) (v11 : Int) (v1 : Int) : Option DV := hdL Try.prog (C0 K) 25 P25_0 (bits 113 100) 1 (H25_0 a1 a2 v11 v1)
noncomputable def H25_1 (a1 : DV) (a2 : Int) (v3 : Int) (v2 : Int) (v5 : Int) (x1 : DV) : St := ⟨[.undef, .undef] ++ [.ptr 0 0] ++ [.undef, .undef] ++ [.int .i64 v3, .int .i64 v2, .ptr 1 0, .int .i64 v5] ++ (un 104), [.box ((R 25 a1).cells), .box ((R 45 x1).cells)]⟩
def P25_1 : List Dir := [.c, .r, .l, .r, .r, .c, .l, .r, .loop (bits 113 100) 1, .c, .r, .l, .r, .r, .r]
noncomputable def hd25_1 (K : Nat) (a1 : DV) (a2 : Int) (v3 : Int) (v2 : Int) (v5 : Int) (x1 : DV) : Option DV := hdL Try.prog (C0 K) 25 P25_1 (bits 113 484) 2 (H25_1 a1 a2 v3 v2 v5 x1)
noncomputable def H25_2 (a1 : DV) (a2 : Int) (v7 : Int) (v8 : Int) : St := ⟨[.undef, .undef] ++ [.ptr 0 0] ++ [.undef, .undef] ++ [.int .i64 v7] ++ (un 4) ++ [.int .i64 v8] ++ (un 102), [.box ((R 25 a1).cells)]⟩
def P25_2 : List Dir := [.c, .r, .l, .r, .r, .r, .r]
noncomputable def hd25_2 (K : Nat) (a1 : DV) (a2 : Int) (v7 : Int) (v8 : Int) : Option DV := hdL Try.prog (C0 K) 25 P25_2 (bits 113 1060) 1 (H25_2 a1 a2 v7 v8)
noncomputable def H25_3 (a1 : DV) (a2 : Int) (v9 : Int) (v4 : Int) (v10 : Int) (x1 : DV) : St := ⟨[.undef, .undef] ++ [.ptr 0 0] ++ [.undef, .undef] ++ [.int .i64 v9, .int .i64 v4, .ptr 1 0] ++ [.undef] ++ [.int .i64 v10] ++ (un 103), [.box ((R 25 a1).cells), .box ((R 45 x1).cells)]⟩
def P25_3 : List Dir := [.c, .r, .r, .r, .r, .c, .l, .r, .loop (bits 113 100) 1, .c, .r, .l, .r, .r, .r]
noncomputable def hd25_3 (K : Nat) (a1 : DV) (a2 : Int) (v9 : Int) (v4 : Int) (v10 : Int) (x1 : DV) : Option DV := hdL Try.prog (C0 K) 25 P25_3 (bits 113 740) 2 (H25_3 a1 a2 v9 v4 v10 x1)
noncomputable def T25 (K : Nat) (a1 : DV) (a2 : Int) : Option DV :=
  bif decide ((↑(gL a1 0).length : Int) > 20) then some (DV.bool false)
  else bif decide ((↑(gL a1 1).length : Int) > 20) then some (DV.bool false)
  else hd25_0 K a1 a2 a2 0
theorem t25 {K : Nat} (a1 : DV) (a2 : Int) {r : DV} (h : T25 K a1 a2 = some r) : lm K 25 [R 25 a1, .int .i64 a2] = some r := fn_run (Eq.trans (by kernel_rfl) h)
noncomputable def L25_0 (K : Nat) (a1 : DV) (a2 : Int) (v11 : Int) (v1 : Int) : Option DV :=
  bif decide (v1 < (↑(gL a1 0).length : Int)) then need ((0 : Int) ≤ v1) <|
   ((gL a1 0)[v1.toNat]?).bind fun x1 =>
   need (x1 = R 45 x1) <|
   bif decide ((↑(gL x1 1).length : Int) > 40) then some (DV.bool false)
   else bif decide ((↑(gL x1 2).length : Int) > 40) then some (DV.bool false)
   else bif decide ((↑(gS x1 0).size : Int) > 200) then some (DV.bool false)
   else hd25_1 K a1 a2 v11 v1 0 x1
  else hd25_2 K a1 a2 v11 0
theorem l25_0 {K : Nat} (a1 : DV) (a2 : Int) (v11 : Int) (v1 : Int) {r : DV} (h : L25_0 K a1 a2 v11 v1 = some r) : hd25_0 K a1 a2 v11 v1 = some r := hd_run (Eq.trans (by kernel_rfl) h)
noncomputable def L25_1 (K : Nat) (a1 : DV) (a2 : Int) (v3 : Int) (v2 : Int) (v5 : Int) (x1 : DV) : Option DV :=
  bif decide (v5 < (↑(gL x1 1).length : Int)) then need ((0 : Int) ≤ v5) <|
   ((gL x1 1)[v5.toNat]?).bind fun x2 =>
   need (x2 = R 61 x2) <|
   bif decide ((↑(gS x2 0).size : Int) > 200) then some (DV.bool false)
   else hd25_1 K a1 a2 v3 v2 (IntKind.i64.wrap (v5 + 1)) x1
  else hd25_3 K a1 a2 v3 v2 0 x1
theorem l25_1 {K : Nat} (a1 : DV) (a2 : Int) (v3 : Int) (v2 : Int) (v5 : Int) (x1 : DV) {r : DV} (h : L25_1 K a1 a2 v3 v2 v5 x1 = some r) : hd25_1 K a1 a2 v3 v2 v5 x1 = some r := hd_run (Eq.trans (by kernel_rfl) h)
noncomputable def L25_2 (K : Nat) (a1 : DV) (a2 : Int) (v7 : Int) (v8 : Int) : Option DV :=
  bif decide (v8 < (↑(gL a1 1).length : Int)) then need ((0 : Int) ≤ v8) <|
   ((gL a1 1)[v8.toNat]?).bind fun x3 =>
   need (x3 = R 35 x3) <|
   bif decide ((↑(gS x3 0).size : Int) > 200) then some (DV.bool false)
   else need ((0 : Int) ≤ v8) <|
   ((gL a1 1)[v8.toNat]?).bind fun x4 =>
   need (x4 = R 35 x4) <|
   (lm K 76 [.sl .no 12 (gL x4 3), .int .i64 v7]).bind fun d5 =>
   need (d5 = .int .i64 (getI d5)) <|
   hd25_2 K a1 a2 (getI d5) (IntKind.i64.wrap (v8 + 1))
  else some (DV.bool (decide (v7 ≥ 0)))
theorem l25_2 {K : Nat} (a1 : DV) (a2 : Int) (v7 : Int) (v8 : Int) {r : DV} (h : L25_2 K a1 a2 v7 v8 = some r) : hd25_2 K a1 a2 v7 v8 = some r := hd_run (Eq.trans (by kernel_rfl) h)
noncomputable def L25_3 (K : Nat) (a1 : DV) (a2 : Int) (v9 : Int) (v4 : Int) (v10 : Int) (x1 : DV) : Option DV :=
  bif decide (v10 < (↑(gL x1 2).length : Int)) then need ((0 : Int) ≤ v10) <|
   ((gL x1 2)[v10.toNat]?).bind fun x6 =>
   need (x6 = R 102 x6) <|
   bif decide ((↑(gS x6 0).size : Int) > 200) then some (DV.bool false)
   else need ((0 : Int) ≤ v10) <|
   ((gL x1 2)[v10.toNat]?).bind fun x7 =>
   need (x7 = R 102 x7) <|
   (lm K 76 [.sl .no 12 (gL x7 1), .int .i64 v9]).bind fun d8 =>
   need (d8 = .int .i64 (getI d8)) <|
   hd25_3 K a1 a2 (getI d8) v4 (IntKind.i64.wrap (v10 + 1)) x1
  else hd25_0 K a1 a2 v9 (IntKind.i64.wrap (v4 + 1))
theorem l25_3 {K : Nat} (a1 : DV) (a2 : Int) (v9 : Int) (v4 : Int) (v10 : Int) (x1 : DV) {r : DV} (h : L25_3 K a1 a2 v9 v4 v10 x1 = some r) : hd25_3 K a1 a2 v9 v4 v10 x1 = some r := hd_run (Eq.trans (by kernel_rfl) h)
/-! 28 28 -/
noncomputable def H28_0 (a1 : DV) (v14 : Int) : St := ⟨[.undef] ++ [.ptr 0 0] ++ [.undef] ++ [.int .i64 v14] ++ (un 118), [.box ((R 25 a1).cells)]⟩
def P28_0 : List Dir := [.c, .r, .l, .r, .r]
noncomputable def hd28_0 (K : Nat) (a1 : DV) (v14 : Int) : Option DV := hdL Try.prog (C0 K) 28 P28_0 (bits 122 10) 1 (H28_0 a1 v14)
noncomputable def H28_1 (a1 : DV) (v3 : Int) (v5 : Int) (x1 : DV) : St := ⟨[.undef] ++ [.ptr 0 0] ++ [.undef] ++ [.int .i64 v3, .ptr 1 0, .int .i64 v5] ++ (un 116), [.box ((R 25 a1).cells), .box ((R 45 x1).cells)]⟩
def P28_1 : List Dir := [.c, .r, .l, .r, .r, .c, .l, .r, .loop (bits 122 10) 1, .c, .r, .l, .r, .r]
noncomputable def hd28_1 (K : Nat) (a1 : DV) (v3 : Int) (v5 : Int) (x1 : DV) : Option DV := hdL Try.prog (C0 K) 28 P28_1 (bits 122 58) 2 (H28_1 a1 v3 v5 x1)
noncomputable def H28_2 (a1 : DV) (v9 : Int) : St := ⟨[.undef] ++ [.ptr 0 0] ++ (un 5) ++ [.int .i64 v9] ++ (un 114), [.box ((R 25 a1).cells)]⟩
def P28_2 : List Dir := [.c, .r, .l, .r, .r, .r]
noncomputable def hd28_2 (K : Nat) (a1 : DV) (v9 : Int) : Option DV := hdL Try.prog (C0 K) 28 P28_2 (bits 122 130) 1 (H28_2 a1 v9)
noncomputable def H28_3 (a1 : DV) (v6 : Int) (v13 : Int) (x1 : DV) : St := ⟨[.undef] ++ [.ptr 0 0] ++ [.undef] ++ [.int .i64 v6, .ptr 1 0] ++ [.undef] ++ [.int .i64 v13] ++ (un 115), [.box ((R 25 a1).cells), .box ((R 45 x1).cells)]⟩
def P28_3 : List Dir := [.c, .r, .r, .r, .r, .c, .l, .r, .loop (bits 122 10) 1, .c, .r, .l, .r, .r]
noncomputable def hd28_3 (K : Nat) (a1 : DV) (v6 : Int) (v13 : Int) (x1 : DV) : Option DV := hdL Try.prog (C0 K) 28 P28_3 (bits 122 90) 2 (H28_3 a1 v6 v13 x1)
noncomputable def T28 (K : Nat) (a1 : DV) : Option DV :=
  bif decide ((↑(gL a1 0).length : Int) > 8) then some (DV.bool false)
  else bif decide ((↑(gL a1 1).length : Int) > 8) then some (DV.bool false)
  else hd28_0 K a1 0
theorem t28 {K : Nat} (a1 : DV) {r : DV} (h : T28 K a1 = some r) : lm K 28 [R 25 a1] = some r := fn_run (Eq.trans (by kernel_rfl) h)
noncomputable def L28_0 (K : Nat) (a1 : DV) (v14 : Int) : Option DV :=
  bif decide (v14 < (↑(gL a1 0).length : Int)) then need ((0 : Int) ≤ v14) <|
   ((gL a1 0)[v14.toNat]?).bind fun x1 =>
   need (x1 = R 45 x1) <|
   (lm K 88 [.str (gS x1 0)]).bind fun d2 =>
   need (d2 = .bool (getB d2)) <|
   bif !getB d2 then some (DV.bool false)
   else bif decide ((↑(gL x1 1).length : Int) > 16) then some (DV.bool false)
   else bif decide ((↑(gL x1 2).length : Int) > 16) then some (DV.bool false)
   else hd28_1 K a1 v14 0 x1
  else hd28_2 K a1 0
theorem l28_0 {K : Nat} (a1 : DV) (v14 : Int) {r : DV} (h : L28_0 K a1 v14 = some r) : hd28_0 K a1 v14 = some r := hd_run (Eq.trans (by kernel_rfl) h)
noncomputable def L28_1 (K : Nat) (a1 : DV) (v3 : Int) (v5 : Int) (x1 : DV) : Option DV :=
  bif decide (v5 < (↑(gL x1 1).length : Int)) then need ((0 : Int) ≤ v5) <|
   ((gL x1 1)[v5.toNat]?).bind fun x3 =>
   need (x3 = R 61 x3) <|
   (lm K 89 [R 61 x3]).bind fun d4 =>
   need (d4 = .bool (getB d4)) <|
   bif !getB d4 then some (DV.bool false)
   else hd28_1 K a1 v3 (IntKind.i64.wrap (v5 + 1)) x1
  else hd28_3 K a1 v3 0 x1
theorem l28_1 {K : Nat} (a1 : DV) (v3 : Int) (v5 : Int) (x1 : DV) {r : DV} (h : L28_1 K a1 v3 v5 x1 = some r) : hd28_1 K a1 v3 v5 x1 = some r := hd_run (Eq.trans (by kernel_rfl) h)
noncomputable def L28_2 (K : Nat) (a1 : DV) (v9 : Int) : Option DV :=
  bif decide (v9 < (↑(gL a1 1).length : Int)) then need ((0 : Int) ≤ v9) <|
   ((gL a1 1)[v9.toNat]?).bind fun x5 =>
   need (x5 = R 35 x5) <|
   (lm K 88 [.str (gS x5 0)]).bind fun d6 =>
   need (d6 = .bool (getB d6)) <|
   bif !getB d6 then some (DV.bool false)
   else bif decide (gI x5 2 < 0) then some (DV.bool false)
   else bif gB x5 1 then bif gI x5 2 != 0 then some (DV.bool false)
    else (lm K 90 [.sl .no 12 (gL x5 3)]).bind fun d7 =>
    need (d7 = .bool (getB d7)) <|
    bif !getB d7 then some (DV.bool false)
    else hd28_2 K a1 (IntKind.i64.wrap (v9 + 1))
   else (lm K 90 [.sl .no 12 (gL x5 3)]).bind fun d8 =>
   need (d8 = .bool (getB d8)) <|
   bif !getB d8 then some (DV.bool false)
   else hd28_2 K a1 (IntKind.i64.wrap (v9 + 1))
  else some (DV.bool true)
theorem l28_2 {K : Nat} (a1 : DV) (v9 : Int) {r : DV} (h : L28_2 K a1 v9 = some r) : hd28_2 K a1 v9 = some r := hd_run (Eq.trans (by kernel_rfl) h)
noncomputable def L28_3 (K : Nat) (a1 : DV) (v6 : Int) (v13 : Int) (x1 : DV) : Option DV :=
  bif decide (v13 < (↑(gL x1 2).length : Int)) then need ((0 : Int) ≤ v13) <|
   ((gL x1 2)[v13.toNat]?).bind fun x9 =>
   need (x9 = R 102 x9) <|
   (lm K 88 [.str (gS x9 0)]).bind fun d10 =>
   need (d10 = .bool (getB d10)) <|
   bif !getB d10 then some (DV.bool false)
   else need ((0 : Int) ≤ v13) <|
   ((gL x1 2)[v13.toNat]?).bind fun x11 =>
   need (x11 = R 102 x11) <|
   (lm K 90 [.sl .no 12 (gL x11 1)]).bind fun d12 =>
   need (d12 = .bool (getB d12)) <|
   bif !getB d12 then some (DV.bool false)
   else hd28_3 K a1 v6 (IntKind.i64.wrap (v13 + 1)) x1
  else hd28_0 K a1 (IntKind.i64.wrap (v6 + 1))
theorem l28_3 {K : Nat} (a1 : DV) (v6 : Int) (v13 : Int) (x1 : DV) {r : DV} (h : L28_3 K a1 v6 v13 x1 = some r) : hd28_3 K a1 v6 v13 x1 = some r := hd_run (Eq.trans (by kernel_rfl) h)
/-! 3 3 -/
noncomputable def T3 (K : Nat) (a1 : DV) : Option DV :=
  (lm K 25 [R 25 a1, .int .i64 400]).bind fun d1 =>
  need (d1 = .bool (getB d1)) <|
  bif !getB d1 then (lm K 26 []).bind fun d2 =>
   need (d2 = .bool (getB d2)) <|
   some (DV.bool (getB d2))
  else (lm K 27 [R 25 a1]).bind fun d3 =>
  need (d3 = .int .i64 (getI d3)) <|
  (lm K 28 [R 25 a1]).bind fun d4 =>
  need (d4 = .bool (getB d4)) <|
  bif (getI d3 == 0) == getB d4 then (lm K 26 []).bind fun d5 =>
   need (d5 = .bool (getB d5)) <|
   some (DV.bool (getB d5))
  else some (DV.bool false)
theorem t3 {K : Nat} (a1 : DV) {r : DV} (h : T3 K a1 = some r) : lm K 3 [R 25 a1] = some r := fn_run (Eq.trans (by kernel_rfl) h)
end Go.Proofs.Ytmfgdnagmacgdaa.Dv
end
section
/- Trees of questions of functions of the program (printed by a program of this session, wip/dv/sym.txt). No condition. -/
set_option maxRecDepth 100000
set_option linter.unusedVariables false
namespace Go.Proofs.Ytmfgdnagmacgdaa.Dv
/-! 90 90 -/
noncomputable def H90_0 (a1 : List DV) (v44 : Int) : St := ⟨[.sl .no 12 a1] ++ [.undef, .undef] ++ [.int .i64 v44] ++ (un 131), []⟩
def P90_0 : List Dir := [.c, .r, .l, .r]
noncomputable def hd90_0 (K : Nat) (a1 : List DV) (v44 : Int) : Option DV := hdL Try.prog (C0 K) 90 P90_0 (bits 135 9) 0 (H90_0 a1 v44)
noncomputable def H90_1 (a1 : List DV) (v54 : Int) (d2 : DV) (x1 : DV) : St := ⟨[.sl .no 12 a1] ++ [.undef, .undef] ++ [.int .i64 v54, .ptr 0 0, .sl .no 1 (getL (getT d2 0))] ++ (un 129), [.box ((R 56 x1).cells)]⟩
def P90_1 : List Dir := [.r, .r, .r, .c, .l, .r, .loop (bits 135 9) 0, .c, .r, .l, .r]
noncomputable def hd90_1 (K : Nat) (a1 : List DV) (v54 : Int) (d2 : DV) (x1 : DV) : Option DV := hdL Try.prog (C0 K) 90 P90_1 (bits 0 0) 0 (H90_1 a1 v54 d2 x1)
noncomputable def H90_2 (a1 : List DV) (v64 : Int) (x1 : DV) : St := ⟨[.sl .no 12 a1] ++ [.undef, .undef] ++ [.int .i64 v64, .ptr 0 0] ++ (un 130), [.box ((R 56 x1).cells)]⟩
def P90_2 : List Dir := [.r, .r, .r, .r, .c, .l, .r, .loop (bits 135 9) 0, .c, .r, .l, .r]
noncomputable def hd90_2 (K : Nat) (a1 : List DV) (v64 : Int) (x1 : DV) : Option DV := hdL Try.prog (C0 K) 90 P90_2 (bits 0 0) 0 (H90_2 a1 v64 x1)
noncomputable def H90_3 (a1 : List DV) (v67 : Int) (v43 : Int) (x1 : DV) : St := ⟨[.sl .no 12 a1] ++ [.undef, .undef] ++ [.int .i64 v67, .ptr 0 0] ++ (un 4) ++ [.int .i64 v43] ++ (un 125), [.box ((R 56 x1).cells)]⟩
def P90_3 : List Dir := [.c, .r, .r, .r, .r, .r, .c, .l, .r, .loop (bits 135 9) 0, .c, .r, .l, .r]
noncomputable def hd90_3 (K : Nat) (a1 : List DV) (v67 : Int) (v43 : Int) (x1 : DV) : Option DV := hdL Try.prog (C0 K) 90 P90_3 (bits 135 537) 1 (H90_3 a1 v67 v43 x1)
noncomputable def T90 (K : Nat) (a1 : List DV) : Option DV :=
  hd90_0 K a1 0
theorem t90 {K : Nat} (a1 : List DV) {r : DV} (h : T90 K a1 = some r) : lm K 90 [.sl .no 12 a1] = some r := fn_run (Eq.trans (by kernel_rfl) h)
noncomputable def L90_0 (K : Nat) (a1 : List DV) (v44 : Int) : Option DV :=
  bif decide (v44 < (↑a1.length : Int)) then need ((0 : Int) ≤ v44) <|
   (a1[v44.toNat]?).bind fun x70 =>
   need (x70 = R 56 x70) <|
   (lm K 157 [.int .i64 (gI x70 0)]).bind fun d71 =>
   need (d71 = .tup [.sl .no 1 (getL (getT d71 0)), .int .i64 (getI (getT d71 1)), .int .i64 (getI (getT d71 2)), .bool (getB (getT d71 3))]) <|
   bif !getB (getT d71 3) then some (DV.bool false)
   else bif decide ((↑(gL x70 10).length : Int) < getI (getT d71 1)) then some (DV.bool false)
   else bif decide ((↑(gL x70 10).length : Int) > getI (getT d71 2)) then some (DV.bool false)
   else need ((0 : Int) ≤ (0 : Int)) <|
   ((getL (getT d71 0))[Int.toNat 0]?).bind fun x72 =>
   need (x72 = .bool (getB x72)) <|
   bif !getB x72 == !(gS x70 1).toList == (ByteArray.mk #[]).toList then some (DV.bool false)
   else need ((0 : Int) ≤ (1 : Int)) <|
   ((getL (getT d71 0))[Int.toNat 1]?).bind fun x73 =>
   need (x73 = .bool (getB x73)) <|
   bif !getB x73 == !(gS x70 2).toList == (ByteArray.mk #[]).toList then some (DV.bool false)
   else need ((0 : Int) ≤ (0 : Int)) <|
   ((getL (getT d71 0))[Int.toNat 0]?).bind fun x74 =>
   need (x74 = .bool (getB x74)) <|
   bif getB x74 then (lm K 88 [.str (gS x70 1)]).bind fun d75 =>
    need (d75 = .bool (getB d75)) <|
    bif !getB d75 then some (DV.bool false)
    else need ((0 : Int) ≤ (1 : Int)) <|
    ((getL (getT d71 0))[Int.toNat 1]?).bind fun x76 =>
    need (x76 = .bool (getB x76)) <|
    bif getB x76 then (lm K 88 [.str (gS x70 2)]).bind fun d77 =>
     need (d77 = .bool (getB d77)) <|
     bif !getB d77 then some (DV.bool false)
     else bif decide (gI x70 3 < 0) then some (DV.bool false)
     else need ((0 : Int) ≤ (2 : Int)) <|
     ((getL (getT d71 0))[Int.toNat 2]?).bind fun x78 =>
     need (x78 = .bool (getB x78)) <|
     bif !getB x78 then bif gI x70 3 != 0 then some (DV.bool false)
      else hd90_1 K a1 v44 d71 x70
     else hd90_1 K a1 v44 d71 x70
    else bif decide (gI x70 3 < 0) then some (DV.bool false)
    else need ((0 : Int) ≤ (2 : Int)) <|
    ((getL (getT d71 0))[Int.toNat 2]?).bind fun x79 =>
    need (x79 = .bool (getB x79)) <|
    bif !getB x79 then bif gI x70 3 != 0 then some (DV.bool false)
     else hd90_1 K a1 v44 d71 x70
    else hd90_1 K a1 v44 d71 x70
   else need ((0 : Int) ≤ (1 : Int)) <|
   ((getL (getT d71 0))[Int.toNat 1]?).bind fun x80 =>
   need (x80 = .bool (getB x80)) <|
   bif getB x80 then (lm K 88 [.str (gS x70 2)]).bind fun d81 =>
    need (d81 = .bool (getB d81)) <|
    bif !getB d81 then some (DV.bool false)
    else bif decide (gI x70 3 < 0) then some (DV.bool false)
    else need ((0 : Int) ≤ (2 : Int)) <|
    ((getL (getT d71 0))[Int.toNat 2]?).bind fun x82 =>
    need (x82 = .bool (getB x82)) <|
    bif !getB x82 then bif gI x70 3 != 0 then some (DV.bool false)
     else hd90_1 K a1 v44 d71 x70
    else hd90_1 K a1 v44 d71 x70
   else bif decide (gI x70 3 < 0) then some (DV.bool false)
   else need ((0 : Int) ≤ (2 : Int)) <|
   ((getL (getT d71 0))[Int.toNat 2]?).bind fun x83 =>
   need (x83 = .bool (getB x83)) <|
   bif !getB x83 then bif gI x70 3 != 0 then some (DV.bool false)
    else hd90_1 K a1 v44 d71 x70
   else hd90_1 K a1 v44 d71 x70
  else some (DV.bool true)
theorem l90_0 {K : Nat} (a1 : List DV) (v44 : Int) {r : DV} (h : L90_0 K a1 v44 = some r) : hd90_0 K a1 v44 = some r := hd_run (Eq.trans (by kernel_rfl) h)
noncomputable def L90_1 (K : Nat) (a1 : List DV) (v54 : Int) (d2 : DV) (x1 : DV) : Option DV :=
  need ((0 : Int) ≤ (3 : Int)) <|
  ((getL (getT d2 0))[Int.toNat 3]?).bind fun x84 =>
  need (x84 = .bool (getB x84)) <|
  bif getB x84 then (lm K 158 [.agg [.int .i64 (gI x1 4), .str (gS x1 5), .str (gS x1 6), .int .i64 (gI x1 7), .sl .no 6 (gL x1 8), .int .i64 (gI x1 9)]]).bind fun d85 =>
   need (d85 = .bool (getB d85)) <|
   bif !getB d85 then some (DV.bool false)
   else need ((0 : Int) ≤ (3 : Int)) <|
   ((getL (getT d2 0))[Int.toNat 3]?).bind fun x86 =>
   need (x86 = .bool (getB x86)) <|
   bif !getB x86 then (lm K 159 [.agg [.int .i64 (gI x1 4), .str (gS x1 5), .str (gS x1 6), .int .i64 (gI x1 7), .sl .no 6 (gL x1 8), .int .i64 (gI x1 9)]]).bind fun d87 =>
    need (d87 = .bool (getB d87)) <|
    bif !getB d87 then some (DV.bool false)
    else hd90_2 K a1 v54 x1
   else hd90_2 K a1 v54 x1
  else need ((0 : Int) ≤ (3 : Int)) <|
  ((getL (getT d2 0))[Int.toNat 3]?).bind fun x88 =>
  need (x88 = .bool (getB x88)) <|
  bif !getB x88 then (lm K 159 [.agg [.int .i64 (gI x1 4), .str (gS x1 5), .str (gS x1 6), .int .i64 (gI x1 7), .sl .no 6 (gL x1 8), .int .i64 (gI x1 9)]]).bind fun d89 =>
   need (d89 = .bool (getB d89)) <|
   bif !getB d89 then some (DV.bool false)
   else hd90_2 K a1 v54 x1
  else hd90_2 K a1 v54 x1
theorem l90_1 {K : Nat} (a1 : List DV) (v54 : Int) (d2 : DV) (x1 : DV) {r : DV} (h : L90_1 K a1 v54 d2 x1 = some r) : hd90_1 K a1 v54 d2 x1 = some r := hd_run (Eq.trans (by kernel_rfl) h)
noncomputable def L90_2 (K : Nat) (a1 : List DV) (v64 : Int) (x1 : DV) : Option DV :=
  hd90_3 K a1 v64 0 x1
theorem l90_2 {K : Nat} (a1 : List DV) (v64 : Int) (x1 : DV) {r : DV} (h : L90_2 K a1 v64 x1 = some r) : hd90_2 K a1 v64 x1 = some r := hd_run (Eq.trans (by kernel_rfl) h)
noncomputable def L90_3 (K : Nat) (a1 : List DV) (v67 : Int) (v43 : Int) (x1 : DV) : Option DV :=
  bif decide (v43 < (↑(gL x1 10).length : Int)) then need ((0 : Int) ≤ v43) <|
   ((gL x1 10)[v43.toNat]?).bind fun x68 =>
   need (x68 = .sl .no 12 (getL x68)) <|
   (lm K 90 [.sl .no 12 (getL x68)]).bind fun d69 =>
   need (d69 = .bool (getB d69)) <|
   bif !getB d69 then some (DV.bool false)
   else hd90_3 K a1 v67 (IntKind.i64.wrap (v43 + 1)) x1
  else hd90_0 K a1 (IntKind.i64.wrap (v67 + 1))
theorem l90_3 {K : Nat} (a1 : List DV) (v67 : Int) (v43 : Int) (x1 : DV) {r : DV} (h : L90_3 K a1 v67 v43 x1 = some r) : hd90_3 K a1 v67 v43 x1 = some r := hd_run (Eq.trans (by kernel_rfl) h)
end Go.Proofs.Ytmfgdnagmacgdaa.Dv
end
section
/- Trees of questions of functions of the program (printed by a program of this session, wip/dv/sym.txt). No condition. -/
set_option maxRecDepth 100000
set_option linter.unusedVariables false
namespace Go.Proofs.Ytmfgdnagmacgdaa.Dv
/-! 4 4 -/
noncomputable def T4 (K : Nat) (a1 : DV) (a2 : DV) : Option DV :=
  (lm K 25 [R 25 a1, .int .i64 400]).bind fun d1 =>
  need (d1 = .bool (getB d1)) <|
  bif !getB d1 then (lm K 26 []).bind fun d2 =>
   need (d2 = .bool (getB d2)) <|
   some (DV.bool (getB d2))
  else (lm K 25 [R 25 a2, .int .i64 400]).bind fun d3 =>
  need (d3 = .bool (getB d3)) <|
  bif !getB d3 then (lm K 26 []).bind fun d4 =>
   need (d4 = .bool (getB d4)) <|
   some (DV.bool (getB d4))
  else (lm K 29 [R 25 a1, R 25 a2]).bind fun d5 =>
  need (d5 = .bool (getB d5)) <|
  (lm K 30 [R 25 a1, R 25 a2]).bind fun d6 =>
  need (d6 = .bool (getB d6)) <|
  bif !getB d5 == getB d6 then some (DV.bool false)
  else bif decide ((↑(gL a1 1).length : Int) > 0) then bif decide ((↑(gL a2 1).length : Int) > 0) then need ((0 : Int) ≤ (0 : Int)) <|
    ((gL a1 1)[Int.toNat 0]?).bind fun x7 =>
    need (x7 = R 35 x7) <|
    need ((0 : Int) ≤ (0 : Int)) <|
    ((gL a2 1)[Int.toNat 0]?).bind fun x8 =>
    need (x8 = R 35 x8) <|
    (lm K 31 [.sl .no 12 (gL x7 3), .sl .no 12 (gL x8 3)]).bind fun d9 =>
    need (d9 = .bool (getB d9)) <|
    need ((0 : Int) ≤ (0 : Int)) <|
    ((gL a1 1)[Int.toNat 0]?).bind fun x10 =>
    need (x10 = R 35 x10) <|
    need ((0 : Int) ≤ (0 : Int)) <|
    ((gL a2 1)[Int.toNat 0]?).bind fun x11 =>
    need (x11 = R 35 x11) <|
    (lm K 32 [.sl .no 12 (gL x10 3), .sl .no 12 (gL x11 3)]).bind fun d12 =>
    need (d12 = .bool (getB d12)) <|
    bif !getB d9 == getB d12 then some (DV.bool false)
    else (lm K 28 [R 25 a1]).bind fun d13 =>
    need (d13 = .bool (getB d13)) <|
    bif !getB d13 then (lm K 26 []).bind fun d14 =>
     need (d14 = .bool (getB d14)) <|
     some (DV.bool (getB d14))
    else (lm K 33 [R 25 a1]).bind fun d15 =>
    need (d15 = .int .i64 (getI d15)) <|
    (lm K 34 [R 25 a1]).bind fun d16 =>
    need (d16 = .int .i64 (getI d16)) <|
    bif getI d15 == getI d16 then (lm K 26 []).bind fun d17 =>
     need (d17 = .bool (getB d17)) <|
     some (DV.bool (getB d17))
    else some (DV.bool false)
   else (lm K 28 [R 25 a1]).bind fun d18 =>
   need (d18 = .bool (getB d18)) <|
   bif !getB d18 then (lm K 26 []).bind fun d19 =>
    need (d19 = .bool (getB d19)) <|
    some (DV.bool (getB d19))
   else (lm K 33 [R 25 a1]).bind fun d20 =>
   need (d20 = .int .i64 (getI d20)) <|
   (lm K 34 [R 25 a1]).bind fun d21 =>
   need (d21 = .int .i64 (getI d21)) <|
   bif getI d20 == getI d21 then (lm K 26 []).bind fun d22 =>
    need (d22 = .bool (getB d22)) <|
    some (DV.bool (getB d22))
   else some (DV.bool false)
  else (lm K 28 [R 25 a1]).bind fun d23 =>
  need (d23 = .bool (getB d23)) <|
  bif !getB d23 then (lm K 26 []).bind fun d24 =>
   need (d24 = .bool (getB d24)) <|
   some (DV.bool (getB d24))
  else (lm K 33 [R 25 a1]).bind fun d25 =>
  need (d25 = .int .i64 (getI d25)) <|
  (lm K 34 [R 25 a1]).bind fun d26 =>
  need (d26 = .int .i64 (getI d26)) <|
  bif getI d25 == getI d26 then (lm K 26 []).bind fun d27 =>
   need (d27 = .bool (getB d27)) <|
   some (DV.bool (getB d27))
  else some (DV.bool false)
theorem t4 {K : Nat} (a1 : DV) (a2 : DV) {r : DV} (h : T4 K a1 a2 = some r) : lm K 4 [R 25 a1, R 25 a2] = some r := fn_run (Eq.trans (by kernel_rfl) h)
/-! 33 33 -/
noncomputable def H33_0 (a1 : DV) (v16 : Int) (v7 : Int) : St := ⟨[.undef] ++ [.ptr 0 0, .int .i64 v16] ++ (un 7) ++ [.sl .no 4 (gL a1 0), .int .i64 ((↑(gL a1 0).length : Int)), .int .i64 v7] ++ (un 31), [.box ((R 25 a1).cells)]⟩
def P33_0 : List Dir := [.c, .r, .l, .r]
noncomputable def hd33_0 (K : Nat) (a1 : DV) (v16 : Int) (v7 : Int) : Option DV := hdL Try.prog (C0 K) 33 P33_0 (bits 44 7174) 1 (H33_0 a1 v16 v7)
noncomputable def H33_1 (a1 : DV) (v5 : Int) (v13 : Int) (x1 : DV) (v6 : Int) : St := ⟨[.undef] ++ [.ptr 0 0, .int .i64 v5] ++ (un 7) ++ [.sl .no 4 (gL a1 0), .int .i64 ((↑(gL a1 0).length : Int)), .int .i64 v13] ++ (un 4) ++ [.sl .no 3 (gL x1 2), .int .i64 ((↑(gL x1 2).length : Int)), .int .i64 v6] ++ (un 24), [.box ((R 25 a1).cells), .box ((R 45 x1).cells)]⟩
def P33_1 : List Dir := [.c, .r, .r, .c, .l, .r, .r, .loop (bits 44 7174) 1, .c, .r, .l, .r]
noncomputable def hd33_1 (K : Nat) (a1 : DV) (v5 : Int) (v13 : Int) (x1 : DV) (v6 : Int) : Option DV := hdL Try.prog (C0 K) 33 P33_1 (bits 44 924678) 2 (H33_1 a1 v5 v13 x1 v6)
noncomputable def H33_2 (a1 : DV) (v10 : Int) (v11 : Int) : St := ⟨[.undef, .undef] ++ [.int .i64 v10] ++ (un 28) ++ [.sl .no 5 (gL a1 1), .int .i64 ((↑(gL a1 1).length : Int)), .int .i64 v11] ++ (un 10), [.box ((R 25 a1).cells)]⟩
def P33_2 : List Dir := [.c, .r, .l, .r, .r]
noncomputable def hd33_2 (K : Nat) (a1 : DV) (v10 : Int) (v11 : Int) : Option DV := hdL Try.prog (C0 K) 33 P33_2 (bits 44 15032385540) 1 (H33_2 a1 v10 v11)
noncomputable def T33 (K : Nat) (a1 : DV) : Option DV :=
  hd33_0 K a1 0 0
theorem t33 {K : Nat} (a1 : DV) {r : DV} (h : T33 K a1 = some r) : lm K 33 [R 25 a1] = some r := fn_run (Eq.trans (by kernel_rfl) h)
noncomputable def L33_0 (K : Nat) (a1 : DV) (v16 : Int) (v7 : Int) : Option DV :=
  bif decide (v7 < (↑(gL a1 0).length : Int)) then need ((0 : Int) ≤ v7) <|
   ((gL a1 0)[v7.toNat]?).bind fun x19 =>
   need (x19 = R 45 x19) <|
   hd33_1 K a1 v16 v7 x19 0
  else hd33_2 K a1 v16 0
theorem l33_0 {K : Nat} (a1 : DV) (v16 : Int) (v7 : Int) {r : DV} (h : L33_0 K a1 v16 v7 = some r) : hd33_0 K a1 v16 v7 = some r := hd_run (Eq.trans (by kernel_rfl) h)
noncomputable def L33_1 (K : Nat) (a1 : DV) (v5 : Int) (v13 : Int) (x1 : DV) (v6 : Int) : Option DV :=
  bif decide (v6 < (↑(gL x1 2).length : Int)) then need ((0 : Int) ≤ v6) <|
   ((gL x1 2)[v6.toNat]?).bind fun x20 =>
   need (x20 = R 102 x20) <|
   (lm K 98 [.sl .no 12 (gL x20 1)]).bind fun d21 =>
   need (d21 = .int .i64 (getI d21)) <|
   hd33_1 K a1 (IntKind.i64.wrap (v5 + getI d21)) v13 x1 (IntKind.i64.wrap (v6 + 1))
  else hd33_0 K a1 v5 (IntKind.i64.wrap (v13 + 1))
theorem l33_1 {K : Nat} (a1 : DV) (v5 : Int) (v13 : Int) (x1 : DV) (v6 : Int) {r : DV} (h : L33_1 K a1 v5 v13 x1 v6 = some r) : hd33_1 K a1 v5 v13 x1 v6 = some r := hd_run (Eq.trans (by kernel_rfl) h)
noncomputable def L33_2 (K : Nat) (a1 : DV) (v10 : Int) (v11 : Int) : Option DV :=
  bif decide (v11 < (↑(gL a1 1).length : Int)) then need ((0 : Int) ≤ v11) <|
   ((gL a1 1)[v11.toNat]?).bind fun x17 =>
   need (x17 = R 35 x17) <|
   (lm K 98 [.sl .no 12 (gL x17 3)]).bind fun d18 =>
   need (d18 = .int .i64 (getI d18)) <|
   hd33_2 K a1 (IntKind.i64.wrap (v10 + getI d18)) (IntKind.i64.wrap (v11 + 1))
  else some (DV.int .i64 v10)
theorem l33_2 {K : Nat} (a1 : DV) (v10 : Int) (v11 : Int) {r : DV} (h : L33_2 K a1 v10 v11 = some r) : hd33_2 K a1 v10 v11 = some r := hd_run (Eq.trans (by kernel_rfl) h)
/-! 34 34 -/
noncomputable def H34_0 (a1 : DV) (v17 : Int) (v7 : Int) : St := ⟨[.undef] ++ [.ptr 0 0] ++ [.undef] ++ [.int .i64 v17, .int .i64 v7] ++ (un 50), [.box ((R 25 a1).cells)]⟩
def P34_0 : List Dir := [.c, .r, .l, .r, .r]
noncomputable def hd34_0 (K : Nat) (a1 : DV) (v17 : Int) (v7 : Int) : Option DV := hdL Try.prog (C0 K) 34 P34_0 (bits 55 26) 1 (H34_0 a1 v17 v7)
noncomputable def H34_1 (a1 : DV) (v5 : Int) (v12 : Int) (v6 : Int) : St := ⟨[.undef] ++ [.ptr 0 0] ++ [.undef] ++ [.int .i64 v5, .int .i64 v12, .int .i64 v6] ++ (un 49), [.box ((R 25 a1).cells)]⟩
def P34_1 : List Dir := [.c, .r, .c, .l, .r, .loop (bits 55 26) 1, .c, .r, .l, .r, .r]
noncomputable def hd34_1 (K : Nat) (a1 : DV) (v5 : Int) (v12 : Int) (v6 : Int) : Option DV := hdL Try.prog (C0 K) 34 P34_1 (bits 55 58) 1 (H34_1 a1 v5 v12 v6)
noncomputable def H34_2 (a1 : DV) (v10 : Int) (v11 : Int) : St := ⟨[.undef] ++ [.ptr 0 0] ++ [.undef] ++ [.int .i64 v10] ++ [.undef, .undef] ++ [.int .i64 v11] ++ (un 48), [.box ((R 25 a1).cells)]⟩
def P34_2 : List Dir := [.c, .r, .l, .r, .r, .r]
noncomputable def hd34_2 (K : Nat) (a1 : DV) (v10 : Int) (v11 : Int) : Option DV := hdL Try.prog (C0 K) 34 P34_2 (bits 55 74) 1 (H34_2 a1 v10 v11)
noncomputable def T34 (K : Nat) (a1 : DV) : Option DV :=
  hd34_0 K a1 0 0
theorem t34 {K : Nat} (a1 : DV) {r : DV} (h : T34 K a1 = some r) : lm K 34 [R 25 a1] = some r := fn_run (Eq.trans (by kernel_rfl) h)
noncomputable def L34_0 (K : Nat) (a1 : DV) (v17 : Int) (v7 : Int) : Option DV :=
  bif decide (v7 < (↑(gL a1 0).length : Int)) then hd34_1 K a1 v17 v7 0
  else hd34_2 K a1 v17 0
theorem l34_0 {K : Nat} (a1 : DV) (v17 : Int) (v7 : Int) {r : DV} (h : L34_0 K a1 v17 v7 = some r) : hd34_0 K a1 v17 v7 = some r := hd_run (Eq.trans (by kernel_rfl) h)
noncomputable def L34_1 (K : Nat) (a1 : DV) (v5 : Int) (v12 : Int) (v6 : Int) : Option DV :=
  need ((0 : Int) ≤ v12) <|
  ((gL a1 0)[v12.toNat]?).bind fun x20 =>
  need (x20 = R 45 x20) <|
  bif decide (v6 < (↑(gL x20 2).length : Int)) then need ((0 : Int) ≤ v12) <|
   ((gL a1 0)[v12.toNat]?).bind fun x21 =>
   need (x21 = R 45 x21) <|
   need ((0 : Int) ≤ v6) <|
   ((gL x21 2)[v6.toNat]?).bind fun x22 =>
   need (x22 = R 102 x22) <|
   (lm K 99 [.sl .no 12 (gL x22 1)]).bind fun d23 =>
   need (d23 = .int .i64 (getI d23)) <|
   hd34_1 K a1 (IntKind.i64.wrap (v5 + getI d23)) v12 (IntKind.i64.wrap (v6 + 1))
  else hd34_0 K a1 v5 (IntKind.i64.wrap (v12 + 1))
theorem l34_1 {K : Nat} (a1 : DV) (v5 : Int) (v12 : Int) (v6 : Int) {r : DV} (h : L34_1 K a1 v5 v12 v6 = some r) : hd34_1 K a1 v5 v12 v6 = some r := hd_run (Eq.trans (by kernel_rfl) h)
noncomputable def L34_2 (K : Nat) (a1 : DV) (v10 : Int) (v11 : Int) : Option DV :=
  bif decide (v11 < (↑(gL a1 1).length : Int)) then need ((0 : Int) ≤ v11) <|
   ((gL a1 1)[v11.toNat]?).bind fun x18 =>
   need (x18 = R 35 x18) <|
   (lm K 99 [.sl .no 12 (gL x18 3)]).bind fun d19 =>
   need (d19 = .int .i64 (getI d19)) <|
   hd34_2 K a1 (IntKind.i64.wrap (v10 + getI d19)) (IntKind.i64.wrap (v11 + 1))
  else some (DV.int .i64 v10)
theorem l34_2 {K : Nat} (a1 : DV) (v10 : Int) (v11 : Int) {r : DV} (h : L34_2 K a1 v10 v11 = some r) : hd34_2 K a1 v10 v11 = some r := hd_run (Eq.trans (by kernel_rfl) h)
/-! 99 99 -/
noncomputable def H99_0 (a1 : List DV) (v15 : Int) (v16 : Int) : St := ⟨[.sl .no 12 a1] ++ [.undef, .undef] ++ [.int .i64 v15, .int .i64 v16] ++ (un 46), []⟩
def P99_0 : List Dir := [.c, .r, .l, .r, .r]
noncomputable def hd99_0 (K : Nat) (a1 : List DV) (v15 : Int) (v16 : Int) : Option DV := hdL Try.prog (C0 K) 99 P99_0 (bits 51 25) 0 (H99_0 a1 v15 v16)
noncomputable def H99_1 (a1 : List DV) (v5 : Int) (v21 : Int) (v14 : Int) : St := ⟨[.sl .no 12 a1] ++ [.undef, .undef] ++ [.int .i64 v5, .int .i64 v21, .int .i64 v14] ++ (un 45), []⟩
def P99_1 : List Dir := [.c, .r, .r, .r, .c, .l, .r, .loop (bits 51 25) 0, .c, .r, .l, .r, .r]
noncomputable def hd99_1 (K : Nat) (a1 : List DV) (v5 : Int) (v21 : Int) (v14 : Int) : Option DV := hdL Try.prog (C0 K) 99 P99_1 (bits 51 57) 0 (H99_1 a1 v5 v21 v14)
noncomputable def T99 (K : Nat) (a1 : List DV) : Option DV :=
  hd99_0 K a1 0 0
theorem t99 {K : Nat} (a1 : List DV) {r : DV} (h : T99 K a1 = some r) : lm K 99 [.sl .no 12 a1] = some r := fn_run (Eq.trans (by kernel_rfl) h)
noncomputable def L99_0 (K : Nat) (a1 : List DV) (v15 : Int) (v16 : Int) : Option DV :=
  bif decide (v16 < (↑a1.length : Int)) then need ((0 : Int) ≤ v16) <|
   (a1[v16.toNat]?).bind fun x26 =>
   need (x26 = R 56 x26) <|
   (lm K 159 [.agg [.int .i64 (gI x26 4), .str (gS x26 5), .str (gS x26 6), .int .i64 (gI x26 7), .sl .no 6 (gL x26 8), .int .i64 (gI x26 9)]]).bind fun d27 =>
   need (d27 = .bool (getB d27)) <|
   bif !getB d27 then need ((0 : Int) ≤ v16) <|
    (a1[v16.toNat]?).bind fun x28 =>
    need (x28 = R 56 x28) <|
    (lm K 166 [.agg [.int .i64 (gI x28 4), .str (gS x28 5), .str (gS x28 6), .int .i64 (gI x28 7), .sl .no 6 (gL x28 8), .int .i64 (gI x28 9)]]).bind fun d29 =>
    need (d29 = .int .i64 (getI d29)) <|
    hd99_1 K a1 (IntKind.i64.wrap (IntKind.i64.wrap (v15 + 1) + getI d29)) v16 0
   else hd99_1 K a1 (IntKind.i64.wrap (v15 + 1)) v16 0
  else some (DV.int .i64 v15)
theorem l99_0 {K : Nat} (a1 : List DV) (v15 : Int) (v16 : Int) {r : DV} (h : L99_0 K a1 v15 v16 = some r) : hd99_0 K a1 v15 v16 = some r := hd_run (Eq.trans (by kernel_rfl) h)
noncomputable def L99_1 (K : Nat) (a1 : List DV) (v5 : Int) (v21 : Int) (v14 : Int) : Option DV :=
  need ((0 : Int) ≤ v21) <|
  (a1[v21.toNat]?).bind fun x22 =>
  need (x22 = R 56 x22) <|
  bif decide (v14 < (↑(gL x22 10).length : Int)) then need ((0 : Int) ≤ v21) <|
   (a1[v21.toNat]?).bind fun x23 =>
   need (x23 = R 56 x23) <|
   need ((0 : Int) ≤ v14) <|
   ((gL x23 10)[v14.toNat]?).bind fun x24 =>
   need (x24 = .sl .no 12 (getL x24)) <|
   (lm K 99 [.sl .no 12 (getL x24)]).bind fun d25 =>
   need (d25 = .int .i64 (getI d25)) <|
   hd99_1 K a1 (IntKind.i64.wrap (v5 + getI d25)) v21 (IntKind.i64.wrap (v14 + 1))
  else hd99_0 K a1 v5 (IntKind.i64.wrap (v21 + 1))
theorem l99_1 {K : Nat} (a1 : List DV) (v5 : Int) (v21 : Int) (v14 : Int) {r : DV} (h : L99_1 K a1 v5 v21 v14 = some r) : hd99_1 K a1 v5 v21 v14 = some r := hd_run (Eq.trans (by kernel_rfl) h)
/-! 166 166 -/
noncomputable def H166_0 (a1 : DV) (v3 : Int) (v4 : Int) : St := ⟨[.undef] ++ [.ptr 0 0] ++ [.undef] ++ [.int .i64 v3, .int .i64 v4] ++ (un 16), [.box ((R 51 a1).cells)]⟩
def P166_0 : List Dir := [.c, .r, .l, .r, .r]
noncomputable def hd166_0 (K : Nat) (a1 : DV) (v3 : Int) (v4 : Int) : Option DV := hdL Try.prog (C0 K) 166 P166_0 (bits 21 26) 1 (H166_0 a1 v3 v4)
noncomputable def T166 (K : Nat) (a1 : DV) : Option DV :=
  hd166_0 K a1 1 0
theorem t166 {K : Nat} (a1 : DV) {r : DV} (h : T166 K a1 = some r) : lm K 166 [R 51 a1] = some r := fn_run (Eq.trans (by kernel_rfl) h)
noncomputable def L166_0 (K : Nat) (a1 : DV) (v3 : Int) (v4 : Int) : Option DV :=
  bif decide (v4 < (↑(gL a1 4).length : Int)) then need ((0 : Int) ≤ v4) <|
   ((gL a1 4)[v4.toNat]?).bind fun x5 =>
   need (x5 = R 51 x5) <|
   (lm K 166 [R 51 x5]).bind fun d6 =>
   need (d6 = .int .i64 (getI d6)) <|
   hd166_0 K a1 (IntKind.i64.wrap (v3 + getI d6)) (IntKind.i64.wrap (v4 + 1))
  else some (DV.int .i64 v3)
theorem l166_0 {K : Nat} (a1 : DV) (v3 : Int) (v4 : Int) {r : DV} (h : L166_0 K a1 v3 v4 = some r) : hd166_0 K a1 v3 v4 = some r := hd_run (Eq.trans (by kernel_rfl) h)
/-! 30 30 -/
noncomputable def H30_0 (a1 : DV) (a2 : DV) (v4 : Int) : St := ⟨[.undef, .undef] ++ [.ptr 0 0, .ptr 1 0] ++ [.undef] ++ [.int .i64 v4] ++ (un 82), [.box ((R 25 a1).cells), .box ((R 25 a2).cells)]⟩
def P30_0 : List Dir := [.c, .r, .l, .r, .r]
noncomputable def hd30_0 (K : Nat) (a1 : DV) (a2 : DV) (v4 : Int) : Option DV := hdL Try.prog (C0 K) 30 P30_0 (bits 88 44) 2 (H30_0 a1 a2 v4)
noncomputable def H30_1 (a1 : DV) (a2 : DV) (v11 : Int) : St := ⟨[.undef, .undef] ++ [.ptr 0 0, .ptr 1 0] ++ [.undef, .undef] ++ [.int .i64 v11] ++ (un 81), [.box ((R 25 a1).cells), .box ((R 25 a2).cells)]⟩
def P30_1 : List Dir := [.c, .r, .l, .r, .r, .r]
noncomputable def hd30_1 (K : Nat) (a1 : DV) (a2 : DV) (v11 : Int) : Option DV := hdL Try.prog (C0 K) 30 P30_1 (bits 88 76) 2 (H30_1 a1 a2 v11)
noncomputable def T30 (K : Nat) (a1 : DV) (a2 : DV) : Option DV :=
  bif (↑(gL a1 0).length : Int) != (↑(gL a2 0).length : Int) then some (DV.bool false)
  else bif (↑(gL a1 1).length : Int) != (↑(gL a2 1).length : Int) then some (DV.bool false)
  else hd30_0 K a1 a2 0
theorem t30 {K : Nat} (a1 : DV) (a2 : DV) {r : DV} (h : T30 K a1 a2 = some r) : lm K 30 [R 25 a1, R 25 a2] = some r := fn_run (Eq.trans (by kernel_rfl) h)
noncomputable def L30_0 (K : Nat) (a1 : DV) (a2 : DV) (v4 : Int) : Option DV :=
  bif decide (v4 < (↑(gL a1 0).length : Int)) then need ((0 : Int) ≤ v4) <|
   ((gL a1 0)[v4.toNat]?).bind fun x12 =>
   need (x12 = R 45 x12) <|
   need ((0 : Int) ≤ v4) <|
   ((gL a2 0)[v4.toNat]?).bind fun x13 =>
   need (x13 = R 45 x13) <|
   (lm K 95 [R 45 x12, R 45 x13]).bind fun d14 =>
   need (d14 = .bool (getB d14)) <|
   bif !getB d14 then some (DV.bool false)
   else hd30_0 K a1 a2 (IntKind.i64.wrap (v4 + 1))
  else hd30_1 K a1 a2 0
theorem l30_0 {K : Nat} (a1 : DV) (a2 : DV) (v4 : Int) {r : DV} (h : L30_0 K a1 a2 v4 = some r) : hd30_0 K a1 a2 v4 = some r := hd_run (Eq.trans (by kernel_rfl) h)
noncomputable def L30_1 (K : Nat) (a1 : DV) (a2 : DV) (v11 : Int) : Option DV :=
  bif decide (v11 < (↑(gL a1 1).length : Int)) then need ((0 : Int) ≤ v11) <|
   ((gL a1 1)[v11.toNat]?).bind fun x15 =>
   need (x15 = R 35 x15) <|
   need ((0 : Int) ≤ v11) <|
   ((gL a2 1)[v11.toNat]?).bind fun x16 =>
   need (x16 = R 35 x16) <|
   bif !(gS x15 0).toList == (gS x16 0).toList then some (DV.bool false)
   else bif !gB x15 1 == gB x16 1 then some (DV.bool false)
   else bif gI x15 2 != gI x16 2 then some (DV.bool false)
   else (lm K 32 [.sl .no 12 (gL x15 3), .sl .no 12 (gL x16 3)]).bind fun d17 =>
   need (d17 = .bool (getB d17)) <|
   bif !getB d17 then some (DV.bool false)
   else hd30_1 K a1 a2 (IntKind.i64.wrap (v11 + 1))
  else some (DV.bool true)
theorem l30_1 {K : Nat} (a1 : DV) (a2 : DV) (v11 : Int) {r : DV} (h : L30_1 K a1 a2 v11 = some r) : hd30_1 K a1 a2 v11 = some r := hd_run (Eq.trans (by kernel_rfl) h)
/-! 95 95 -/
noncomputable def H95_0 (a1 : DV) (a2 : DV) (v3 : Int) : St := ⟨[.undef, .undef] ++ [.ptr 0 0, .ptr 1 0] ++ [.undef] ++ [.int .i64 v3] ++ (un 112), [.box ((R 45 a1).cells), .box ((R 45 a2).cells)]⟩
def P95_0 : List Dir := [.c, .r, .l, .r, .r]
noncomputable def hd95_0 (K : Nat) (a1 : DV) (a2 : DV) (v3 : Int) : Option DV := hdL Try.prog (C0 K) 95 P95_0 (bits 118 44) 2 (H95_0 a1 a2 v3)
noncomputable def H95_1 (a1 : DV) (a2 : DV) (v11 : Int) : St := ⟨[.undef, .undef] ++ [.ptr 0 0, .ptr 1 0] ++ (un 4) ++ [.int .i64 v11] ++ (un 109), [.box ((R 45 a1).cells), .box ((R 45 a2).cells)]⟩
def P95_1 : List Dir := [.c, .r, .l, .r, .r, .r]
noncomputable def hd95_1 (K : Nat) (a1 : DV) (a2 : DV) (v11 : Int) : Option DV := hdL Try.prog (C0 K) 95 P95_1 (bits 118 268) 2 (H95_1 a1 a2 v11)
noncomputable def T95 (K : Nat) (a1 : DV) (a2 : DV) : Option DV :=
  bif !(gS a1 0).toList == (gS a2 0).toList then some (DV.bool false)
  else bif (↑(gL a1 1).length : Int) != (↑(gL a2 1).length : Int) then some (DV.bool false)
  else bif (↑(gL a1 2).length : Int) != (↑(gL a2 2).length : Int) then some (DV.bool false)
  else hd95_0 K a1 a2 0
theorem t95 {K : Nat} (a1 : DV) (a2 : DV) {r : DV} (h : T95 K a1 a2 = some r) : lm K 95 [R 45 a1, R 45 a2] = some r := fn_run (Eq.trans (by kernel_rfl) h)
noncomputable def L95_0 (K : Nat) (a1 : DV) (a2 : DV) (v3 : Int) : Option DV :=
  bif decide (v3 < (↑(gL a1 1).length : Int)) then need ((0 : Int) ≤ v3) <|
   ((gL a1 1)[v3.toNat]?).bind fun x12 =>
   need (x12 = R 61 x12) <|
   need ((0 : Int) ≤ v3) <|
   ((gL a2 1)[v3.toNat]?).bind fun x13 =>
   need (x13 = R 61 x13) <|
   bif !(gS x12 0).toList == (gS x13 0).toList then some (DV.bool false)
   else bif gI x12 1 != gI x13 1 then some (DV.bool false)
   else bif gI x12 2 != gI x13 2 then some (DV.bool false)
   else bif gI x12 3 != gI x13 3 then some (DV.bool false)
   else bif gI x12 4 != gI x13 4 then some (DV.bool false)
   else hd95_0 K a1 a2 (IntKind.i64.wrap (v3 + 1))
  else hd95_1 K a1 a2 0
theorem l95_0 {K : Nat} (a1 : DV) (a2 : DV) (v3 : Int) {r : DV} (h : L95_0 K a1 a2 v3 = some r) : hd95_0 K a1 a2 v3 = some r := hd_run (Eq.trans (by kernel_rfl) h)
noncomputable def L95_1 (K : Nat) (a1 : DV) (a2 : DV) (v11 : Int) : Option DV :=
  bif decide (v11 < (↑(gL a1 2).length : Int)) then need ((0 : Int) ≤ v11) <|
   ((gL a1 2)[v11.toNat]?).bind fun x14 =>
   need (x14 = R 102 x14) <|
   need ((0 : Int) ≤ v11) <|
   ((gL a2 2)[v11.toNat]?).bind fun x15 =>
   need (x15 = R 102 x15) <|
   bif !(gS x14 0).toList == (gS x15 0).toList then some (DV.bool false)
   else need ((0 : Int) ≤ v11) <|
   ((gL a1 2)[v11.toNat]?).bind fun x16 =>
   need (x16 = R 102 x16) <|
   need ((0 : Int) ≤ v11) <|
   ((gL a2 2)[v11.toNat]?).bind fun x17 =>
   need (x17 = R 102 x17) <|
   (lm K 32 [.sl .no 12 (gL x16 1), .sl .no 12 (gL x17 1)]).bind fun d18 =>
   need (d18 = .bool (getB d18)) <|
   bif !getB d18 then some (DV.bool false)
   else hd95_1 K a1 a2 (IntKind.i64.wrap (v11 + 1))
  else some (DV.bool true)
theorem l95_1 {K : Nat} (a1 : DV) (a2 : DV) (v11 : Int) {r : DV} (h : L95_1 K a1 a2 v11 = some r) : hd95_1 K a1 a2 v11 = some r := hd_run (Eq.trans (by kernel_rfl) h)
end Go.Proofs.Ytmfgdnagmacgdaa.Dv
end
section
/- Trees of questions of functions of the program (printed by a program of this session, wip/dv/sym.txt). No condition. -/
set_option maxRecDepth 100000
set_option linter.unusedVariables false
namespace Go.Proofs.Ytmfgdnagmacgdaa.Dv
/-! 29 29 -/
noncomputable def T29 (K : Nat) (a1 : DV) (a2 : DV) : Option DV :=
  (lm K 91 [.sl .no 4 (gL a1 0), .sl .no 4 (gL a2 0), .fn 92 [] []]).bind fun d1 =>
  need (d1 = .bool (getB d1)) <|
  bif getB d1 then (lm K 93 [.sl .no 5 (gL a1 1), .sl .no 5 (gL a2 1), .fn 94 [] []]).bind fun d2 =>
   need (d2 = .bool (getB d2)) <|
   some (DV.bool (getB d2))
  else some (DV.bool false)
theorem t29 {K : Nat} (a1 : DV) (a2 : DV) {r : DV} (h : T29 K a1 a2 = some r) : lm K 29 [R 25 a1, R 25 a2] = some r := fn_run (Eq.trans (by kernel_rfl) h)
/-! 31 31 -/
noncomputable def T31 (K : Nat) (a1 : List DV) (a2 : List DV) : Option DV :=
  (lm K 96 [.sl .no 12 a1, .sl .no 12 a2, .fn 97 [] []]).bind fun d1 =>
  need (d1 = .bool (getB d1)) <|
  some (DV.bool (getB d1))
theorem t31 {K : Nat} (a1 : List DV) (a2 : List DV) {r : DV} (h : T31 K a1 a2 = some r) : lm K 31 [.sl .no 12 a1, .sl .no 12 a2] = some r := fn_run (Eq.trans (by kernel_rfl) h)
/-! 85 85 -/
noncomputable def T85 (K : Nat) (a1 : DV) (a2 : DV) : Option DV :=
  bif gI a1 0 == gI a2 0 then bif (gS a1 1).toList == (gS a2 1).toList then bif (gS a1 2).toList == (gS a2 2).toList then bif gI a1 3 == gI a2 3 then (lm K 146 [.sl .no 6 (gL a1 4), .sl .no 6 (gL a2 4), .fn 85 [] []]).bind fun d1 =>
      need (d1 = .bool (getB d1)) <|
      some (DV.bool (getB d1))
     else some (DV.bool false)
    else some (DV.bool false)
   else some (DV.bool false)
  else some (DV.bool false)
theorem t85 {K : Nat} (a1 : DV) (a2 : DV) {r : DV} (h : T85 K a1 a2 = some r) : lm K 85 [R 51 a1, R 51 a2] = some r := fn_run (Eq.trans (by kernel_rfl) h)
/-! 92 92 -/
noncomputable def T92 (K : Nat) (a1 : DV) (a2 : DV) : Option DV :=
  bif (gS a1 0).toList == (gS a2 0).toList then (lm K 160 [.sl .no 6 (gL a1 1), .sl .no 6 (gL a2 1), .fn 161 [] []]).bind fun d1 =>
   need (d1 = .bool (getB d1)) <|
   bif getB d1 then (lm K 162 [.sl .no 3 (gL a1 2), .sl .no 3 (gL a2 2), .fn 163 [] []]).bind fun d2 =>
    need (d2 = .bool (getB d2)) <|
    some (DV.bool (getB d2))
   else some (DV.bool false)
  else some (DV.bool false)
theorem t92 {K : Nat} (a1 : DV) (a2 : DV) {r : DV} (h : T92 K a1 a2 = some r) : lm K 92 [R 45 a1, R 45 a2] = some r := fn_run (Eq.trans (by kernel_rfl) h)
/-! 94 94 -/
noncomputable def T94 (K : Nat) (a1 : DV) (a2 : DV) : Option DV :=
  bif (gS a1 0).toList == (gS a2 0).toList then bif gB a1 1 == gB a2 1 then bif gI a1 2 == gI a2 2 then (lm K 31 [.sl .no 12 (gL a1 3), .sl .no 12 (gL a2 3)]).bind fun d1 =>
     need (d1 = .bool (getB d1)) <|
     some (DV.bool (getB d1))
    else some (DV.bool false)
   else some (DV.bool false)
  else some (DV.bool false)
theorem t94 {K : Nat} (a1 : DV) (a2 : DV) {r : DV} (h : T94 K a1 a2 = some r) : lm K 94 [R 35 a1, R 35 a2] = some r := fn_run (Eq.trans (by kernel_rfl) h)
/-! 97 97 -/
noncomputable def T97 (K : Nat) (a1 : DV) (a2 : DV) : Option DV :=
  bif gI a1 0 == gI a2 0 then bif (gS a1 1).toList == (gS a2 1).toList then bif (gS a1 2).toList == (gS a2 2).toList then bif gI a1 3 == gI a2 3 then (lm K 85 [.agg [.int .i64 (gI a1 4), .str (gS a1 5), .str (gS a1 6), .int .i64 (gI a1 7), .sl .no 6 (gL a1 8), .int .i64 (gI a1 9)], .agg [.int .i64 (gI a2 4), .str (gS a2 5), .str (gS a2 6), .int .i64 (gI a2 7), .sl .no 6 (gL a2 8), .int .i64 (gI a2 9)]]).bind fun d1 =>
      need (d1 = .bool (getB d1)) <|
      bif getB d1 then (lm K 164 [.sl .no 1 (gL a1 10), .sl .no 1 (gL a2 10), .fn 31 [] []]).bind fun d2 =>
       need (d2 = .bool (getB d2)) <|
       some (DV.bool (getB d2))
      else some (DV.bool false)
     else some (DV.bool false)
    else some (DV.bool false)
   else some (DV.bool false)
  else some (DV.bool false)
theorem t97 {K : Nat} (a1 : DV) (a2 : DV) {r : DV} (h : T97 K a1 a2 = some r) : lm K 97 [R 56 a1, R 56 a2] = some r := fn_run (Eq.trans (by kernel_rfl) h)
/-! 91 91 -/
noncomputable def H91_0 (a1 : List DV) (a2 : List DV) (v4 : Int) : St := ⟨[.undef] ++ [.sl .no 4 a2, .fn 92 [] []] ++ (un 12) ++ [.sl .no 4 a1, .int .i64 ((↑a1.length : Int)), .int .i64 v4] ++ (un 14), []⟩
def P91_0 : List Dir := [.c, .r, .l, .r, .r]
noncomputable def hd91_0 (K : Nat) (a1 : List DV) (a2 : List DV) (v4 : Int) : Option DV := hdL Try.prog (C0 K) 91 P91_0 (bits 32 229382) 0 (H91_0 a1 a2 v4)
noncomputable def T91 (K : Nat) (a1 : List DV) (a2 : List DV) : Option DV :=
  bif (↑a1.length : Int) != (↑a2.length : Int) then some (DV.bool false)
  else hd91_0 K a1 a2 0
theorem t91 {K : Nat} (a1 : List DV) (a2 : List DV) {r : DV} (h : T91 K a1 a2 = some r) : lm K 91 [.sl .no 4 a1, .sl .no 4 a2, .fn 92 [] []] = some r := fn_run (Eq.trans (by kernel_rfl) h)
noncomputable def L91_0 (K : Nat) (a1 : List DV) (a2 : List DV) (v4 : Int) : Option DV :=
  bif decide (v4 < (↑a1.length : Int)) then need ((0 : Int) ≤ v4) <|
   (a1[v4.toNat]?).bind fun x5 =>
   need (x5 = R 45 x5) <|
   need ((0 : Int) ≤ v4) <|
   (a2[v4.toNat]?).bind fun x6 =>
   need (x6 = R 45 x6) <|
   (lm K 92 [R 45 x5, R 45 x6]).bind fun d7 =>
   need (d7 = .bool (getB d7)) <|
   bif !getB d7 then some (DV.bool false)
   else hd91_0 K a1 a2 (IntKind.i64.wrap (v4 + 1))
  else some (DV.bool true)
theorem l91_0 {K : Nat} (a1 : List DV) (a2 : List DV) (v4 : Int) {r : DV} (h : L91_0 K a1 a2 v4 = some r) : hd91_0 K a1 a2 v4 = some r := hd_run (Eq.trans (by kernel_rfl) h)
/-! 93 93 -/
noncomputable def H93_0 (a1 : List DV) (a2 : List DV) (v4 : Int) : St := ⟨[.undef] ++ [.sl .no 5 a2, .fn 94 [] []] ++ (un 12) ++ [.sl .no 5 a1, .int .i64 ((↑a1.length : Int)), .int .i64 v4] ++ (un 14), []⟩
def P93_0 : List Dir := [.c, .r, .l, .r, .r]
noncomputable def hd93_0 (K : Nat) (a1 : List DV) (a2 : List DV) (v4 : Int) : Option DV := hdL Try.prog (C0 K) 93 P93_0 (bits 32 229382) 0 (H93_0 a1 a2 v4)
noncomputable def T93 (K : Nat) (a1 : List DV) (a2 : List DV) : Option DV :=
  bif (↑a1.length : Int) != (↑a2.length : Int) then some (DV.bool false)
  else hd93_0 K a1 a2 0
theorem t93 {K : Nat} (a1 : List DV) (a2 : List DV) {r : DV} (h : T93 K a1 a2 = some r) : lm K 93 [.sl .no 5 a1, .sl .no 5 a2, .fn 94 [] []] = some r := fn_run (Eq.trans (by kernel_rfl) h)
noncomputable def L93_0 (K : Nat) (a1 : List DV) (a2 : List DV) (v4 : Int) : Option DV :=
  bif decide (v4 < (↑a1.length : Int)) then need ((0 : Int) ≤ v4) <|
   (a1[v4.toNat]?).bind fun x5 =>
   need (x5 = R 35 x5) <|
   need ((0 : Int) ≤ v4) <|
   (a2[v4.toNat]?).bind fun x6 =>
   need (x6 = R 35 x6) <|
   (lm K 94 [R 35 x5, R 35 x6]).bind fun d7 =>
   need (d7 = .bool (getB d7)) <|
   bif !getB d7 then some (DV.bool false)
   else hd93_0 K a1 a2 (IntKind.i64.wrap (v4 + 1))
  else some (DV.bool true)
theorem l93_0 {K : Nat} (a1 : List DV) (a2 : List DV) (v4 : Int) {r : DV} (h : L93_0 K a1 a2 v4 = some r) : hd93_0 K a1 a2 v4 = some r := hd_run (Eq.trans (by kernel_rfl) h)
/-! 96 96 -/
noncomputable def H96_0 (a1 : List DV) (a2 : List DV) (v4 : Int) : St := ⟨[.undef] ++ [.sl .no 12 a2, .fn 97 [] []] ++ (un 12) ++ [.sl .no 12 a1, .int .i64 ((↑a1.length : Int)), .int .i64 v4] ++ (un 14), []⟩
def P96_0 : List Dir := [.c, .r, .l, .r, .r]
noncomputable def hd96_0 (K : Nat) (a1 : List DV) (a2 : List DV) (v4 : Int) : Option DV := hdL Try.prog (C0 K) 96 P96_0 (bits 32 229382) 0 (H96_0 a1 a2 v4)
noncomputable def T96 (K : Nat) (a1 : List DV) (a2 : List DV) : Option DV :=
  bif (↑a1.length : Int) != (↑a2.length : Int) then some (DV.bool false)
  else hd96_0 K a1 a2 0
theorem t96 {K : Nat} (a1 : List DV) (a2 : List DV) {r : DV} (h : T96 K a1 a2 = some r) : lm K 96 [.sl .no 12 a1, .sl .no 12 a2, .fn 97 [] []] = some r := fn_run (Eq.trans (by kernel_rfl) h)
noncomputable def L96_0 (K : Nat) (a1 : List DV) (a2 : List DV) (v4 : Int) : Option DV :=
  bif decide (v4 < (↑a1.length : Int)) then need ((0 : Int) ≤ v4) <|
   (a1[v4.toNat]?).bind fun x5 =>
   need (x5 = R 56 x5) <|
   need ((0 : Int) ≤ v4) <|
   (a2[v4.toNat]?).bind fun x6 =>
   need (x6 = R 56 x6) <|
   (lm K 97 [R 56 x5, R 56 x6]).bind fun d7 =>
   need (d7 = .bool (getB d7)) <|
   bif !getB d7 then some (DV.bool false)
   else hd96_0 K a1 a2 (IntKind.i64.wrap (v4 + 1))
  else some (DV.bool true)
theorem l96_0 {K : Nat} (a1 : List DV) (a2 : List DV) (v4 : Int) {r : DV} (h : L96_0 K a1 a2 v4 = some r) : hd96_0 K a1 a2 v4 = some r := hd_run (Eq.trans (by kernel_rfl) h)
/-! 146 146 -/
noncomputable def H146_0 (a1 : List DV) (a2 : List DV) (v4 : Int) : St := ⟨[.undef] ++ [.sl .no 6 a2, .fn 85 [] []] ++ (un 12) ++ [.sl .no 6 a1, .int .i64 ((↑a1.length : Int)), .int .i64 v4] ++ (un 14), []⟩
def P146_0 : List Dir := [.c, .r, .l, .r, .r]
noncomputable def hd146_0 (K : Nat) (a1 : List DV) (a2 : List DV) (v4 : Int) : Option DV := hdL Try.prog (C0 K) 146 P146_0 (bits 32 229382) 0 (H146_0 a1 a2 v4)
noncomputable def T146 (K : Nat) (a1 : List DV) (a2 : List DV) : Option DV :=
  bif (↑a1.length : Int) != (↑a2.length : Int) then some (DV.bool false)
  else hd146_0 K a1 a2 0
theorem t146 {K : Nat} (a1 : List DV) (a2 : List DV) {r : DV} (h : T146 K a1 a2 = some r) : lm K 146 [.sl .no 6 a1, .sl .no 6 a2, .fn 85 [] []] = some r := fn_run (Eq.trans (by kernel_rfl) h)
noncomputable def L146_0 (K : Nat) (a1 : List DV) (a2 : List DV) (v4 : Int) : Option DV :=
  bif decide (v4 < (↑a1.length : Int)) then need ((0 : Int) ≤ v4) <|
   (a1[v4.toNat]?).bind fun x5 =>
   need (x5 = R 51 x5) <|
   need ((0 : Int) ≤ v4) <|
   (a2[v4.toNat]?).bind fun x6 =>
   need (x6 = R 51 x6) <|
   (lm K 85 [R 51 x5, R 51 x6]).bind fun d7 =>
   need (d7 = .bool (getB d7)) <|
   bif !getB d7 then some (DV.bool false)
   else hd146_0 K a1 a2 (IntKind.i64.wrap (v4 + 1))
  else some (DV.bool true)
theorem l146_0 {K : Nat} (a1 : List DV) (a2 : List DV) (v4 : Int) {r : DV} (h : L146_0 K a1 a2 v4 = some r) : hd146_0 K a1 a2 v4 = some r := hd_run (Eq.trans (by kernel_rfl) h)
/-! 160 160 -/
noncomputable def H160_0 (a1 : List DV) (a2 : List DV) (v4 : Int) : St := ⟨[.undef] ++ [.sl .no 6 a2, .fn 161 [] []] ++ (un 12) ++ [.sl .no 6 a1, .int .i64 ((↑a1.length : Int)), .int .i64 v4] ++ (un 14), []⟩
def P160_0 : List Dir := [.c, .r, .l, .r, .r]
noncomputable def hd160_0 (K : Nat) (a1 : List DV) (a2 : List DV) (v4 : Int) : Option DV := hdL Try.prog (C0 K) 160 P160_0 (bits 32 229382) 0 (H160_0 a1 a2 v4)
noncomputable def T160 (K : Nat) (a1 : List DV) (a2 : List DV) : Option DV :=
  bif (↑a1.length : Int) != (↑a2.length : Int) then some (DV.bool false)
  else hd160_0 K a1 a2 0
theorem t160 {K : Nat} (a1 : List DV) (a2 : List DV) {r : DV} (h : T160 K a1 a2 = some r) : lm K 160 [.sl .no 6 a1, .sl .no 6 a2, .fn 161 [] []] = some r := fn_run (Eq.trans (by kernel_rfl) h)
noncomputable def L160_0 (K : Nat) (a1 : List DV) (a2 : List DV) (v4 : Int) : Option DV :=
  bif decide (v4 < (↑a1.length : Int)) then need ((0 : Int) ≤ v4) <|
   (a1[v4.toNat]?).bind fun x5 =>
   need (x5 = R 61 x5) <|
   need ((0 : Int) ≤ v4) <|
   (a2[v4.toNat]?).bind fun x6 =>
   need (x6 = R 61 x6) <|
   (lm K 161 [R 61 x5, R 61 x6]).bind fun d7 =>
   need (d7 = .bool (getB d7)) <|
   bif !getB d7 then some (DV.bool false)
   else hd160_0 K a1 a2 (IntKind.i64.wrap (v4 + 1))
  else some (DV.bool true)
theorem l160_0 {K : Nat} (a1 : List DV) (a2 : List DV) (v4 : Int) {r : DV} (h : L160_0 K a1 a2 v4 = some r) : hd160_0 K a1 a2 v4 = some r := hd_run (Eq.trans (by kernel_rfl) h)
/-! 161 161 -/
noncomputable def T161 (K : Nat) (a1 : DV) (a2 : DV) : Option DV :=
  bif (gS a1 0).toList == (gS a2 0).toList then bif gI a1 1 == gI a2 1 then bif gI a1 2 == gI a2 2 then bif gI a1 3 == gI a2 3 then bif gI a1 4 == gI a2 4 then some (DV.bool true)
      else some (DV.bool false)
     else some (DV.bool false)
    else some (DV.bool false)
   else some (DV.bool false)
  else some (DV.bool false)
theorem t161 {K : Nat} (a1 : DV) (a2 : DV) {r : DV} (h : T161 K a1 a2 = some r) : lm K 161 [R 61 a1, R 61 a2] = some r := fn_run (Eq.trans (by kernel_rfl) h)
/-! 162 162 -/
noncomputable def H162_0 (a1 : List DV) (a2 : List DV) (v4 : Int) : St := ⟨[.undef] ++ [.sl .no 3 a2, .fn 163 [] []] ++ (un 12) ++ [.sl .no 3 a1, .int .i64 ((↑a1.length : Int)), .int .i64 v4] ++ (un 14), []⟩
def P162_0 : List Dir := [.c, .r, .l, .r, .r]
noncomputable def hd162_0 (K : Nat) (a1 : List DV) (a2 : List DV) (v4 : Int) : Option DV := hdL Try.prog (C0 K) 162 P162_0 (bits 32 229382) 0 (H162_0 a1 a2 v4)
noncomputable def T162 (K : Nat) (a1 : List DV) (a2 : List DV) : Option DV :=
  bif (↑a1.length : Int) != (↑a2.length : Int) then some (DV.bool false)
  else hd162_0 K a1 a2 0
theorem t162 {K : Nat} (a1 : List DV) (a2 : List DV) {r : DV} (h : T162 K a1 a2 = some r) : lm K 162 [.sl .no 3 a1, .sl .no 3 a2, .fn 163 [] []] = some r := fn_run (Eq.trans (by kernel_rfl) h)
noncomputable def L162_0 (K : Nat) (a1 : List DV) (a2 : List DV) (v4 : Int) : Option DV :=
  bif decide (v4 < (↑a1.length : Int)) then need ((0 : Int) ≤ v4) <|
   (a1[v4.toNat]?).bind fun x5 =>
   need (x5 = R 102 x5) <|
   need ((0 : Int) ≤ v4) <|
   (a2[v4.toNat]?).bind fun x6 =>
   need (x6 = R 102 x6) <|
   (lm K 163 [R 102 x5, R 102 x6]).bind fun d7 =>
   need (d7 = .bool (getB d7)) <|
   bif !getB d7 then some (DV.bool false)
   else hd162_0 K a1 a2 (IntKind.i64.wrap (v4 + 1))
  else some (DV.bool true)
theorem l162_0 {K : Nat} (a1 : List DV) (a2 : List DV) (v4 : Int) {r : DV} (h : L162_0 K a1 a2 v4 = some r) : hd162_0 K a1 a2 v4 = some r := hd_run (Eq.trans (by kernel_rfl) h)
/-! 163 163 -/
noncomputable def T163 (K : Nat) (a1 : DV) (a2 : DV) : Option DV :=
  bif (gS a1 0).toList == (gS a2 0).toList then (lm K 31 [.sl .no 12 (gL a1 1), .sl .no 12 (gL a2 1)]).bind fun d1 =>
   need (d1 = .bool (getB d1)) <|
   some (DV.bool (getB d1))
  else some (DV.bool false)
theorem t163 {K : Nat} (a1 : DV) (a2 : DV) {r : DV} (h : T163 K a1 a2 = some r) : lm K 163 [R 102 a1, R 102 a2] = some r := fn_run (Eq.trans (by kernel_rfl) h)
/-! 164 164 -/
noncomputable def H164_0 (a1 : List DV) (a2 : List DV) (v4 : Int) : St := ⟨[.undef] ++ [.sl .no 1 a2, .fn 31 [] []] ++ (un 12) ++ [.sl .no 1 a1, .int .i64 ((↑a1.length : Int)), .int .i64 v4] ++ (un 14), []⟩
def P164_0 : List Dir := [.c, .r, .l, .r, .r]
noncomputable def hd164_0 (K : Nat) (a1 : List DV) (a2 : List DV) (v4 : Int) : Option DV := hdL Try.prog (C0 K) 164 P164_0 (bits 32 229382) 0 (H164_0 a1 a2 v4)
noncomputable def T164 (K : Nat) (a1 : List DV) (a2 : List DV) : Option DV :=
  bif (↑a1.length : Int) != (↑a2.length : Int) then some (DV.bool false)
  else hd164_0 K a1 a2 0
theorem t164 {K : Nat} (a1 : List DV) (a2 : List DV) {r : DV} (h : T164 K a1 a2 = some r) : lm K 164 [.sl .no 1 a1, .sl .no 1 a2, .fn 31 [] []] = some r := fn_run (Eq.trans (by kernel_rfl) h)
noncomputable def L164_0 (K : Nat) (a1 : List DV) (a2 : List DV) (v4 : Int) : Option DV :=
  bif decide (v4 < (↑a1.length : Int)) then need ((0 : Int) ≤ v4) <|
   (a1[v4.toNat]?).bind fun x5 =>
   need (x5 = .sl .no 12 (getL x5)) <|
   need ((0 : Int) ≤ v4) <|
   (a2[v4.toNat]?).bind fun x6 =>
   need (x6 = .sl .no 12 (getL x6)) <|
   (lm K 31 [.sl .no 12 (getL x5), .sl .no 12 (getL x6)]).bind fun d7 =>
   need (d7 = .bool (getB d7)) <|
   bif !getB d7 then some (DV.bool false)
   else hd164_0 K a1 a2 (IntKind.i64.wrap (v4 + 1))
  else some (DV.bool true)
theorem l164_0 {K : Nat} (a1 : List DV) (a2 : List DV) (v4 : Int) {r : DV} (h : L164_0 K a1 a2 v4 = some r) : hd164_0 K a1 a2 v4 = some r := hd_run (Eq.trans (by kernel_rfl) h)
/-! 72 72 -/
noncomputable def H72_0 (a1 : DV) (a2 : DV) (v4 : Int) : St := ⟨[.undef, .undef] ++ [.ptr 0 0, .ptr 1 0] ++ [.undef] ++ [.int .i64 v4] ++ (un 54), [.box ((R 51 a1).cells), .box ((R 51 a2).cells)]⟩
def P72_0 : List Dir := [.c, .r, .l, .r, .r]
noncomputable def hd72_0 (K : Nat) (a1 : DV) (a2 : DV) (v4 : Int) : Option DV := hdL Try.prog (C0 K) 72 P72_0 (bits 60 44) 2 (H72_0 a1 a2 v4)
noncomputable def T72 (K : Nat) (a1 : DV) (a2 : DV) : Option DV :=
  bif gI a1 0 != gI a2 0 then some (DV.bool false)
  else bif !(gS a1 1).toList == (gS a2 1).toList then some (DV.bool false)
  else bif !(gS a1 2).toList == (gS a2 2).toList then some (DV.bool false)
  else bif gI a1 3 != gI a2 3 then some (DV.bool false)
  else bif (↑(gL a1 4).length : Int) != (↑(gL a2 4).length : Int) then some (DV.bool false)
  else hd72_0 K a1 a2 0
theorem t72 {K : Nat} (a1 : DV) (a2 : DV) {r : DV} (h : T72 K a1 a2 = some r) : lm K 72 [R 51 a1, R 51 a2] = some r := fn_run (Eq.trans (by kernel_rfl) h)
noncomputable def L72_0 (K : Nat) (a1 : DV) (a2 : DV) (v4 : Int) : Option DV :=
  bif decide (v4 < (↑(gL a1 4).length : Int)) then need ((0 : Int) ≤ v4) <|
   ((gL a1 4)[v4.toNat]?).bind fun x5 =>
   need (x5 = R 51 x5) <|
   need ((0 : Int) ≤ v4) <|
   ((gL a2 4)[v4.toNat]?).bind fun x6 =>
   need (x6 = R 51 x6) <|
   (lm K 72 [R 51 x5, R 51 x6]).bind fun d7 =>
   need (d7 = .bool (getB d7)) <|
   bif !getB d7 then some (DV.bool false)
   else hd72_0 K a1 a2 (IntKind.i64.wrap (v4 + 1))
  else some (DV.bool true)
theorem l72_0 {K : Nat} (a1 : DV) (a2 : DV) (v4 : Int) {r : DV} (h : L72_0 K a1 a2 v4 = some r) : hd72_0 K a1 a2 v4 = some r := hd_run (Eq.trans (by kernel_rfl) h)
/-! 32 32 -/
noncomputable def H32_0 (a1 : List DV) (a2 : List DV) (v11 : Int) : St := ⟨[.sl .no 12 a1, .sl .no 12 a2] ++ [.undef, .undef, .undef] ++ [.int .i64 v11] ++ (un 84), []⟩
def P32_0 : List Dir := [.c, .r, .l, .r, .r]
noncomputable def hd32_0 (K : Nat) (a1 : List DV) (a2 : List DV) (v11 : Int) : Option DV := hdL Try.prog (C0 K) 32 P32_0 (bits 90 35) 0 (H32_0 a1 a2 v11)
noncomputable def H32_1 (a1 : List DV) (a2 : List DV) (v15 : Int) (v10 : Int) (x1 : DV) (x2 : DV) : St := ⟨[.sl .no 12 a1, .sl .no 12 a2] ++ [.undef, .undef, .undef] ++ [.int .i64 v15, .ptr 0 0, .ptr 1 0, .int .i64 v10] ++ (un 81), [.box ((R 56 x1).cells), .box ((R 56 x2).cells)]⟩
def P32_1 : List Dir := [.c, .r, .r, .r, .c, .l, .r, .loop (bits 90 35) 0, .c, .r, .l, .r, .r]
noncomputable def hd32_1 (K : Nat) (a1 : List DV) (a2 : List DV) (v15 : Int) (v10 : Int) (x1 : DV) (x2 : DV) : Option DV := hdL Try.prog (C0 K) 32 P32_1 (bits 90 483) 2 (H32_1 a1 a2 v15 v10 x1 x2)
noncomputable def T32 (K : Nat) (a1 : List DV) (a2 : List DV) : Option DV :=
  bif (↑a1.length : Int) != (↑a2.length : Int) then some (DV.bool false)
  else hd32_0 K a1 a2 0
theorem t32 {K : Nat} (a1 : List DV) (a2 : List DV) {r : DV} (h : T32 K a1 a2 = some r) : lm K 32 [.sl .no 12 a1, .sl .no 12 a2] = some r := fn_run (Eq.trans (by kernel_rfl) h)
noncomputable def L32_0 (K : Nat) (a1 : List DV) (a2 : List DV) (v11 : Int) : Option DV :=
  bif decide (v11 < (↑a1.length : Int)) then need ((0 : Int) ≤ v11) <|
   (a1[v11.toNat]?).bind fun x19 =>
   need (x19 = R 56 x19) <|
   need ((0 : Int) ≤ v11) <|
   (a2[v11.toNat]?).bind fun x20 =>
   need (x20 = R 56 x20) <|
   bif gI x19 0 != gI x20 0 then some (DV.bool false)
   else bif !(gS x19 1).toList == (gS x20 1).toList then some (DV.bool false)
   else bif !(gS x19 2).toList == (gS x20 2).toList then some (DV.bool false)
   else bif gI x19 3 != gI x20 3 then some (DV.bool false)
   else (lm K 72 [.agg [.int .i64 (gI x19 4), .str (gS x19 5), .str (gS x19 6), .int .i64 (gI x19 7), .sl .no 6 (gL x19 8), .int .i64 (gI x19 9)], .agg [.int .i64 (gI x20 4), .str (gS x20 5), .str (gS x20 6), .int .i64 (gI x20 7), .sl .no 6 (gL x20 8), .int .i64 (gI x20 9)]]).bind fun d21 =>
   need (d21 = .bool (getB d21)) <|
   bif !getB d21 then some (DV.bool false)
   else bif (↑(gL x19 10).length : Int) != (↑(gL x20 10).length : Int) then some (DV.bool false)
   else hd32_1 K a1 a2 v11 0 x19 x20
  else some (DV.bool true)
theorem l32_0 {K : Nat} (a1 : List DV) (a2 : List DV) (v11 : Int) {r : DV} (h : L32_0 K a1 a2 v11 = some r) : hd32_0 K a1 a2 v11 = some r := hd_run (Eq.trans (by kernel_rfl) h)
noncomputable def L32_1 (K : Nat) (a1 : List DV) (a2 : List DV) (v15 : Int) (v10 : Int) (x1 : DV) (x2 : DV) : Option DV :=
  bif decide (v10 < (↑(gL x1 10).length : Int)) then need ((0 : Int) ≤ v10) <|
   ((gL x1 10)[v10.toNat]?).bind fun x16 =>
   need (x16 = .sl .no 12 (getL x16)) <|
   need ((0 : Int) ≤ v10) <|
   ((gL x2 10)[v10.toNat]?).bind fun x17 =>
   need (x17 = .sl .no 12 (getL x17)) <|
   (lm K 32 [.sl .no 12 (getL x16), .sl .no 12 (getL x17)]).bind fun d18 =>
   need (d18 = .bool (getB d18)) <|
   bif !getB d18 then some (DV.bool false)
   else hd32_1 K a1 a2 v15 (IntKind.i64.wrap (v10 + 1)) x1 x2
  else hd32_0 K a1 a2 (IntKind.i64.wrap (v15 + 1))
theorem l32_1 {K : Nat} (a1 : List DV) (a2 : List DV) (v15 : Int) (v10 : Int) (x1 : DV) (x2 : DV) {r : DV} (h : L32_1 K a1 a2 v15 v10 x1 x2 = some r) : hd32_1 K a1 a2 v15 v10 x1 x2 = some r := hd_run (Eq.trans (by kernel_rfl) h)
end Go.Proofs.Ytmfgdnagmacgdaa.Dv
end
