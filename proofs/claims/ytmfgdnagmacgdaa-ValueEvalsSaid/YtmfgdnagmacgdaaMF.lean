/- Parts of a proof, put together. No condition. -/
import Derived.Test.YtmfgdnagmacgdaaEe
section
/- Trees of questions of functions of the program (printed by a program of this session, wip/dv/sym.txt). No condition. -/
set_option maxRecDepth 100000
set_option linter.unusedVariables false
namespace Go.Proofs.Ytmfgdnagmacgdaa.Dv
/-! 147 147 -/
noncomputable def T147 (K : Nat) (a1 : ByteArray) : Option DV :=
  bif a1.toList == (ByteArray.mk #[]).toList then some (DV.bool false)
  else bif decide ((↑a1.size : Int) > 32) then some (DV.bool false)
  else need ((0 : Int) ≤ (0 : Int)) <|
  (Option.map (fun b => DV.int IntKind.u8 (↑b.toNat : Int)) a1[Int.toNat 0]?).bind fun x1 =>
  need (x1 = .int .u8 (getI x1)) <|
  (lm K 204 [.int .u8 (getI x1)]).bind fun d2 =>
  need (d2 = .int .i64 (getI d2)) <|
  bif getI d2 != 3 then some (DV.bool false)
  else (lm K 205 [.str a1]).bind fun d3 =>
  need (d3 = .bool (getB d3)) <|
  bif getB d3 then some (DV.bool false)
  else (lm K 206 [.str a1, .int .i64 0, .fn 207 [] []]).bind fun d4 =>
  need (d4 = .int .i64 (getI d4)) <|
  some (DV.bool (getI d4 == (↑a1.size : Int)))
theorem t147 {K : Nat} (a1 : ByteArray) {r : DV} (h : T147 K a1 = some r) : lm K 147 [.str a1] = some r := fn_run (Eq.trans (by kernel_rfl) h)
/-! 204 204 -/
noncomputable def T204 (K : Nat) (a1 : Int) : Option DV :=
  bif a1 == 32 then some (DV.int .i64 1)
  else bif a1 == 9 then some (DV.int .i64 1)
  else bif a1 == 13 then some (DV.int .i64 1)
  else bif a1 == 10 then some (DV.int .i64 1)
  else bif a1 == 35 then some (DV.int .i64 2)
  else bif decide (a1 ≥ 97) then bif decide (a1 ≤ 122) then some (DV.int .i64 3)
   else bif decide (a1 ≥ 65) then bif decide (a1 ≤ 90) then some (DV.int .i64 3)
    else bif decide (a1 ≥ 48) then bif decide (a1 ≤ 57) then some (DV.int .i64 4)
     else (lm K 233 [.str (ByteArray.mk #[123, 125, 40, 41, 59, 58, 61, 60, 62, 43, 45, 42, 33, 46, 38, 124]), .int .u8 a1]).bind fun d1 =>
     need (d1 = .int .i64 (getI d1)) <|
     bif decide (getI d1 ≥ 0) then some (DV.int .i64 5)
     else some (DV.int .i64 0)
    else (lm K 233 [.str (ByteArray.mk #[123, 125, 40, 41, 59, 58, 61, 60, 62, 43, 45, 42, 33, 46, 38, 124]), .int .u8 a1]).bind fun d2 =>
    need (d2 = .int .i64 (getI d2)) <|
    bif decide (getI d2 ≥ 0) then some (DV.int .i64 5)
    else some (DV.int .i64 0)
   else bif decide (a1 ≥ 48) then bif decide (a1 ≤ 57) then some (DV.int .i64 4)
    else (lm K 233 [.str (ByteArray.mk #[123, 125, 40, 41, 59, 58, 61, 60, 62, 43, 45, 42, 33, 46, 38, 124]), .int .u8 a1]).bind fun d3 =>
    need (d3 = .int .i64 (getI d3)) <|
    bif decide (getI d3 ≥ 0) then some (DV.int .i64 5)
    else some (DV.int .i64 0)
   else (lm K 233 [.str (ByteArray.mk #[123, 125, 40, 41, 59, 58, 61, 60, 62, 43, 45, 42, 33, 46, 38, 124]), .int .u8 a1]).bind fun d4 =>
   need (d4 = .int .i64 (getI d4)) <|
   bif decide (getI d4 ≥ 0) then some (DV.int .i64 5)
   else some (DV.int .i64 0)
  else bif decide (a1 ≥ 65) then bif decide (a1 ≤ 90) then some (DV.int .i64 3)
   else bif decide (a1 ≥ 48) then bif decide (a1 ≤ 57) then some (DV.int .i64 4)
    else (lm K 233 [.str (ByteArray.mk #[123, 125, 40, 41, 59, 58, 61, 60, 62, 43, 45, 42, 33, 46, 38, 124]), .int .u8 a1]).bind fun d5 =>
    need (d5 = .int .i64 (getI d5)) <|
    bif decide (getI d5 ≥ 0) then some (DV.int .i64 5)
    else some (DV.int .i64 0)
   else (lm K 233 [.str (ByteArray.mk #[123, 125, 40, 41, 59, 58, 61, 60, 62, 43, 45, 42, 33, 46, 38, 124]), .int .u8 a1]).bind fun d6 =>
   need (d6 = .int .i64 (getI d6)) <|
   bif decide (getI d6 ≥ 0) then some (DV.int .i64 5)
   else some (DV.int .i64 0)
  else bif decide (a1 ≥ 48) then bif decide (a1 ≤ 57) then some (DV.int .i64 4)
   else (lm K 233 [.str (ByteArray.mk #[123, 125, 40, 41, 59, 58, 61, 60, 62, 43, 45, 42, 33, 46, 38, 124]), .int .u8 a1]).bind fun d7 =>
   need (d7 = .int .i64 (getI d7)) <|
   bif decide (getI d7 ≥ 0) then some (DV.int .i64 5)
   else some (DV.int .i64 0)
  else (lm K 233 [.str (ByteArray.mk #[123, 125, 40, 41, 59, 58, 61, 60, 62, 43, 45, 42, 33, 46, 38, 124]), .int .u8 a1]).bind fun d8 =>
  need (d8 = .int .i64 (getI d8)) <|
  bif decide (getI d8 ≥ 0) then some (DV.int .i64 5)
  else some (DV.int .i64 0)
theorem t204 {K : Nat} (a1 : Int) {r : DV} (h : T204 K a1 = some r) : lm K 204 [.int .u8 a1] = some r := fn_run (Eq.trans (by kernel_rfl) h)
/-! 205 205 -/
noncomputable def T205 (K : Nat) (a1 : ByteArray) : Option DV :=
  bif a1.toList == (ByteArray.mk #[109, 111, 110, 105, 116, 111, 114]).toList then some (DV.bool true)
  else bif a1.toList == (ByteArray.mk #[118, 97, 114]).toList then some (DV.bool true)
  else bif a1.toList == (ByteArray.mk #[109, 101, 116, 104, 111, 100]).toList then some (DV.bool true)
  else bif a1.toList == (ByteArray.mk #[116, 104, 114, 101, 97, 100]).toList then some (DV.bool true)
  else bif a1.toList == (ByteArray.mk #[98, 111, 111, 108]).toList then some (DV.bool true)
  else bif a1.toList == (ByteArray.mk #[105, 110, 116]).toList then some (DV.bool true)
  else bif a1.toList == (ByteArray.mk #[116, 114, 117, 101]).toList then some (DV.bool true)
  else bif a1.toList == (ByteArray.mk #[102, 97, 108, 115, 101]).toList then some (DV.bool true)
  else bif a1.toList == (ByteArray.mk #[115, 107, 105, 112]).toList then some (DV.bool true)
  else bif a1.toList == (ByteArray.mk #[105, 102]).toList then some (DV.bool true)
  else bif a1.toList == (ByteArray.mk #[101, 108, 115, 101]).toList then some (DV.bool true)
  else bif a1.toList == (ByteArray.mk #[119, 104, 105, 108, 101]).toList then some (DV.bool true)
  else bif a1.toList == (ByteArray.mk #[108, 111, 111, 112]).toList then some (DV.bool true)
  else bif a1.toList == (ByteArray.mk #[99, 104, 111, 111, 115, 101]).toList then some (DV.bool true)
  else bif a1.toList == (ByteArray.mk #[111, 114]).toList then some (DV.bool true)
  else bif a1.toList == (ByteArray.mk #[115, 121, 110, 99]).toList then some (DV.bool true)
  else bif a1.toList == (ByteArray.mk #[99, 97, 108, 108]).toList then some (DV.bool true)
  else bif a1.toList == (ByteArray.mk #[119, 97, 105, 116]).toList then some (DV.bool true)
  else bif a1.toList == (ByteArray.mk #[110, 111, 116, 105, 102, 121]).toList then some (DV.bool true)
  else bif a1.toList == (ByteArray.mk #[110, 111, 116, 105, 102, 121, 97, 108, 108]).toList then some (DV.bool true)
  else some (DV.bool false)
theorem t205 {K : Nat} (a1 : ByteArray) {r : DV} (h : T205 K a1 = some r) : lm K 205 [.str a1] = some r := fn_run (Eq.trans (by kernel_rfl) h)
/-! 206 206 -/
noncomputable def H206_0 (a1 : ByteArray) (a2 : Int) (v3 : Int) : St := ⟨[.str a1, .int .i64 v3, .fn 207 [] []] ++ (un 18), []⟩
def P206_0 : List Dir := [.c, .l, .r]
noncomputable def hd206_0 (K : Nat) (a1 : ByteArray) (a2 : Int) (v3 : Int) : Option DV := hdL Try.prog (C0 K) 206 P206_0 (bits 21 7) 0 (H206_0 a1 a2 v3)
noncomputable def T206 (K : Nat) (a1 : ByteArray) (a2 : Int) : Option DV :=
  hd206_0 K a1 a2 a2
theorem t206 {K : Nat} (a1 : ByteArray) (a2 : Int) {r : DV} (h : T206 K a1 a2 = some r) : lm K 206 [.str a1, .int .i64 a2, .fn 207 [] []] = some r := fn_run (Eq.trans (by kernel_rfl) h)
noncomputable def L206_0 (K : Nat) (a1 : ByteArray) (a2 : Int) (v3 : Int) : Option DV :=
  bif decide (v3 < (↑a1.size : Int)) then need ((0 : Int) ≤ v3) <|
   (Option.map (fun b => DV.int IntKind.u8 (↑b.toNat : Int)) a1[v3.toNat]?).bind fun x1 =>
   need (x1 = .int .u8 (getI x1)) <|
   (lm K 207 [.int .u8 (getI x1)]).bind fun d2 =>
   need (d2 = .bool (getB d2)) <|
   bif getB d2 then hd206_0 K a1 a2 (IntKind.i64.wrap (v3 + 1))
   else some (DV.int .i64 v3)
  else some (DV.int .i64 v3)
theorem l206_0 {K : Nat} (a1 : ByteArray) (a2 : Int) (v3 : Int) {r : DV} (h : L206_0 K a1 a2 v3 = some r) : hd206_0 K a1 a2 v3 = some r := hd_run (Eq.trans (by kernel_rfl) h)
/-! 207 207 -/
noncomputable def T207 (K : Nat) (a1 : Int) : Option DV :=
  (lm K 204 [.int .u8 a1]).bind fun d1 =>
  need (d1 = .int .i64 (getI d1)) <|
  bif getI d1 == 3 then some (DV.bool true)
  else bif getI d1 == 4 then some (DV.bool true)
  else some (DV.bool (a1 == 95))
theorem t207 {K : Nat} (a1 : Int) {r : DV} (h : T207 K a1 = some r) : lm K 207 [.int .u8 a1] = some r := fn_run (Eq.trans (by kernel_rfl) h)
/-! 88 88 -/
noncomputable def H88_0 (a1 : ByteArray) (v8 : Int) : St := ⟨[.str a1] ++ [.undef, .undef] ++ [.int .i64 v8] ++ (un 41), []⟩
def P88_0 : List Dir := [.c, .r, .l, .r, .r]
noncomputable def hd88_0 (K : Nat) (a1 : ByteArray) (v8 : Int) : Option DV := hdL Try.prog (C0 K) 88 P88_0 (bits 45 9) 0 (H88_0 a1 v8)
noncomputable def T88 (K : Nat) (a1 : ByteArray) : Option DV :=
  bif decide ((↑a1.size : Int) < 1) then some (DV.bool false)
  else bif decide ((↑a1.size : Int) > 32) then some (DV.bool false)
  else need ((0 : Int) ≤ (0 : Int)) <|
  (Option.map (fun b => DV.int IntKind.u8 (↑b.toNat : Int)) a1[Int.toNat 0]?).bind fun x1 =>
  need (x1 = .int .u8 (getI x1)) <|
  (lm K 154 [.int .u8 (getI x1)]).bind fun d2 =>
  need (d2 = .bool (getB d2)) <|
  bif !getB d2 then some (DV.bool false)
  else hd88_0 K a1 0
theorem t88 {K : Nat} (a1 : ByteArray) {r : DV} (h : T88 K a1 = some r) : lm K 88 [.str a1] = some r := fn_run (Eq.trans (by kernel_rfl) h)
noncomputable def L88_0 (K : Nat) (a1 : ByteArray) (v8 : Int) : Option DV :=
  bif decide (v8 < (↑a1.size : Int)) then need ((0 : Int) ≤ v8) <|
   (Option.map (fun b => DV.int IntKind.u8 (↑b.toNat : Int)) a1[v8.toNat]?).bind fun x3 =>
   need (x3 = .int .u8 (getI x3)) <|
   (lm K 154 [.int .u8 (getI x3)]).bind fun d4 =>
   need (d4 = .bool (getB d4)) <|
   bif !getB d4 then need ((0 : Int) ≤ v8) <|
    (Option.map (fun b => DV.int IntKind.u8 (↑b.toNat : Int)) a1[v8.toNat]?).bind fun x5 =>
    need (x5 = .int .u8 (getI x5)) <|
    (lm K 155 [.int .u8 (getI x5)]).bind fun d6 =>
    need (d6 = .bool (getB d6)) <|
    bif !getB d6 then need ((0 : Int) ≤ v8) <|
     (Option.map (fun b => DV.int IntKind.u8 (↑b.toNat : Int)) a1[v8.toNat]?).bind fun x7 =>
     need (x7 = .int .u8 (getI x7)) <|
     bif getI x7 != 95 then some (DV.bool false)
     else hd88_0 K a1 (IntKind.i64.wrap (v8 + 1))
    else hd88_0 K a1 (IntKind.i64.wrap (v8 + 1))
   else hd88_0 K a1 (IntKind.i64.wrap (v8 + 1))
  else (lm K 156 [.str a1]).bind fun d8 =>
  need (d8 = .bool (getB d8)) <|
  some (DV.bool (!getB d8))
theorem l88_0 {K : Nat} (a1 : ByteArray) (v8 : Int) {r : DV} (h : L88_0 K a1 v8 = some r) : hd88_0 K a1 v8 = some r := hd_run (Eq.trans (by kernel_rfl) h)
/-! 154 154 -/
noncomputable def T154 (K : Nat) (a1 : Int) : Option DV :=
  bif decide (a1 ≥ 97) then bif decide (a1 ≤ 122) then some (DV.bool true)
   else bif decide (a1 ≥ 65) then some (DV.bool (decide (a1 ≤ 90)))
   else some (DV.bool false)
  else bif decide (a1 ≥ 65) then some (DV.bool (decide (a1 ≤ 90)))
  else some (DV.bool false)
theorem t154 {K : Nat} (a1 : Int) {r : DV} (h : T154 K a1 = some r) : lm K 154 [.int .u8 a1] = some r := fn_run (Eq.trans (by kernel_rfl) h)
/-! 155 155 -/
noncomputable def T155 (K : Nat) (a1 : Int) : Option DV :=
  bif decide (a1 ≥ 48) then some (DV.bool (decide (a1 ≤ 57)))
  else some (DV.bool false)
theorem t155 {K : Nat} (a1 : Int) {r : DV} (h : T155 K a1 = some r) : lm K 155 [.int .u8 a1] = some r := fn_run (Eq.trans (by kernel_rfl) h)
/-! 156 156 -/
noncomputable def H156_0 (a1 : ByteArray) (d1 : DV) (v3 : Int) : St := ⟨[.str a1] ++ [.undef, .undef] ++ [.sl .no 1 (getL d1), .int .i64 v3] ++ (un 13), []⟩
def P156_0 : List Dir := [.c, .r, .l, .r, .r]
noncomputable def hd156_0 (K : Nat) (a1 : ByteArray) (d1 : DV) (v3 : Int) : Option DV := hdL Try.prog (C0 K) 156 P156_0 (bits 18 25) 0 (H156_0 a1 d1 v3)
noncomputable def T156 (K : Nat) (a1 : ByteArray) : Option DV :=
  (lm K 211 []).bind fun d1 =>
  need (d1 = .sl .no 1 (getL d1)) <|
  hd156_0 K a1 d1 0
theorem t156 {K : Nat} (a1 : ByteArray) {r : DV} (h : T156 K a1 = some r) : lm K 156 [.str a1] = some r := fn_run (Eq.trans (by kernel_rfl) h)
noncomputable def L156_0 (K : Nat) (a1 : ByteArray) (d1 : DV) (v3 : Int) : Option DV :=
  bif decide (v3 < (↑(getL d1).length : Int)) then need ((0 : Int) ≤ v3) <|
   ((getL d1)[v3.toNat]?).bind fun x2 =>
   need (x2 = .str (getS x2)) <|
   bif (getS x2).toList == a1.toList then some (DV.bool true)
   else hd156_0 K a1 d1 (IntKind.i64.wrap (v3 + 1))
  else some (DV.bool false)
theorem l156_0 {K : Nat} (a1 : ByteArray) (d1 : DV) (v3 : Int) {r : DV} (h : L156_0 K a1 d1 v3 = some r) : hd156_0 K a1 d1 v3 = some r := hd_run (Eq.trans (by kernel_rfl) h)
/-! 211 211 -/
noncomputable def T211 (K : Nat) : Option DV :=
  some (DV.sl .no 1 [.str (ByteArray.mk #[109, 111, 110, 105, 116, 111, 114]), .str (ByteArray.mk #[118, 97, 114]), .str (ByteArray.mk #[109, 101, 116, 104, 111, 100]), .str (ByteArray.mk #[116, 104, 114, 101, 97, 100]), .str (ByteArray.mk #[98, 111, 111, 108]), .str (ByteArray.mk #[105, 110, 116]), .str (ByteArray.mk #[116, 114, 117, 101]), .str (ByteArray.mk #[102, 97, 108, 115, 101]), .str (ByteArray.mk #[115, 107, 105, 112]), .str (ByteArray.mk #[105, 102]), .str (ByteArray.mk #[101, 108, 115, 101]), .str (ByteArray.mk #[119, 104, 105, 108, 101]), .str (ByteArray.mk #[108, 111, 111, 112]), .str (ByteArray.mk #[99, 104, 111, 111, 115, 101]), .str (ByteArray.mk #[111, 114]), .str (ByteArray.mk #[115, 121, 110, 99]), .str (ByteArray.mk #[99, 97, 108, 108]), .str (ByteArray.mk #[119, 97, 105, 116]), .str (ByteArray.mk #[110, 111, 116, 105, 102, 121]), .str (ByteArray.mk #[110, 111, 116, 105, 102, 121, 97, 108, 108])])
theorem t211 {K : Nat} {r : DV} (h : T211 K = some r) : lm K 211 [] = some r := fn_run (Eq.trans (by kernel_rfl) h)
end Go.Proofs.Ytmfgdnagmacgdaa.Dv
end
section
/- Trees of questions of functions of the program (printed by a program of this session, wip/dv/sym.txt). No condition. -/
set_option maxRecDepth 100000
set_option linter.unusedVariables false
namespace Go.Proofs.Ytmfgdnagmacgdaa.Dv
/-! 212 212 -/
noncomputable def T212 (K : Nat) (a1 : Int) : Option DV :=
  bif decide (a1 ≥ 1) then bif decide (a1 ≤ 4) then some (DV.int .i64 0)
   else bif decide (a1 ≥ 5) then bif decide (a1 ≤ 7) then some (DV.int .i64 1)
    else bif decide (a1 ≥ 8) then bif decide (a1 ≤ 17) then some (DV.int .i64 2)
     else some (DV.int .i64 (-1))
    else some (DV.int .i64 (-1))
   else bif decide (a1 ≥ 8) then bif decide (a1 ≤ 17) then some (DV.int .i64 2)
    else some (DV.int .i64 (-1))
   else some (DV.int .i64 (-1))
  else bif decide (a1 ≥ 5) then bif decide (a1 ≤ 7) then some (DV.int .i64 1)
   else bif decide (a1 ≥ 8) then bif decide (a1 ≤ 17) then some (DV.int .i64 2)
    else some (DV.int .i64 (-1))
   else some (DV.int .i64 (-1))
  else bif decide (a1 ≥ 8) then bif decide (a1 ≤ 17) then some (DV.int .i64 2)
   else some (DV.int .i64 (-1))
  else some (DV.int .i64 (-1))
theorem t212 {K : Nat} (a1 : Int) {r : DV} (h : T212 K a1 = some r) : lm K 212 [.int .i64 a1] = some r := fn_run (Eq.trans (by kernel_rfl) h)
/-! 158 158 -/
noncomputable def H158_0 (a1 : DV) (v10 : Int) : St := ⟨[.undef] ++ [.ptr 0 0] ++ [.undef] ++ [.int .i64 v10] ++ (un 62), [.box ((R 51 a1).cells)]⟩
def P158_0 : List Dir := [.c, .r, .l, .r, .r, .r]
noncomputable def hd158_0 (K : Nat) (a1 : DV) (v10 : Int) : Option DV := hdL Try.prog (C0 K) 158 P158_0 (bits 66 10) 1 (H158_0 a1 v10)
noncomputable def T158 (K : Nat) (a1 : DV) : Option DV :=
  (lm K 212 [.int .i64 (gI a1 0)]).bind fun d1 =>
  need (d1 = .int .i64 (getI d1)) <|
  bif (↑(gL a1 4).length : Int) != getI d1 then some (DV.bool false)
  else bif decide (gI a1 3 < 0) then some (DV.bool false)
  else bif gI a1 3 != 0 then bif gI a1 0 != 1 then bif gI a1 0 != 7 then some (DV.bool false)
    else bif gI a1 0 == 4 then (lm K 88 [.str (gS a1 1)]).bind fun d2 =>
     need (d2 = .bool (getB d2)) <|
     bif !getB d2 then some (DV.bool false)
     else (lm K 88 [.str (gS a1 2)]).bind fun d3 =>
     need (d3 = .bool (getB d3)) <|
     bif !getB d3 then some (DV.bool false)
     else hd158_0 K a1 0
    else bif !(gS a1 1).toList == (ByteArray.mk #[]).toList then some (DV.bool false)
    else bif !(gS a1 2).toList == (ByteArray.mk #[]).toList then some (DV.bool false)
    else hd158_0 K a1 0
   else bif gI a1 0 == 4 then (lm K 88 [.str (gS a1 1)]).bind fun d4 =>
    need (d4 = .bool (getB d4)) <|
    bif !getB d4 then some (DV.bool false)
    else (lm K 88 [.str (gS a1 2)]).bind fun d5 =>
    need (d5 = .bool (getB d5)) <|
    bif !getB d5 then some (DV.bool false)
    else hd158_0 K a1 0
   else bif !(gS a1 1).toList == (ByteArray.mk #[]).toList then some (DV.bool false)
   else bif !(gS a1 2).toList == (ByteArray.mk #[]).toList then some (DV.bool false)
   else hd158_0 K a1 0
  else bif gI a1 0 == 4 then (lm K 88 [.str (gS a1 1)]).bind fun d6 =>
   need (d6 = .bool (getB d6)) <|
   bif !getB d6 then some (DV.bool false)
   else (lm K 88 [.str (gS a1 2)]).bind fun d7 =>
   need (d7 = .bool (getB d7)) <|
   bif !getB d7 then some (DV.bool false)
   else hd158_0 K a1 0
  else bif !(gS a1 1).toList == (ByteArray.mk #[]).toList then some (DV.bool false)
  else bif !(gS a1 2).toList == (ByteArray.mk #[]).toList then some (DV.bool false)
  else hd158_0 K a1 0
theorem t158 {K : Nat} (a1 : DV) {r : DV} (h : T158 K a1 = some r) : lm K 158 [R 51 a1] = some r := fn_run (Eq.trans (by kernel_rfl) h)
noncomputable def L158_0 (K : Nat) (a1 : DV) (v10 : Int) : Option DV :=
  bif decide (v10 < (↑(gL a1 4).length : Int)) then need ((0 : Int) ≤ v10) <|
   ((gL a1 4)[v10.toNat]?).bind fun x8 =>
   need (x8 = R 51 x8) <|
   (lm K 158 [R 51 x8]).bind fun d9 =>
   need (d9 = .bool (getB d9)) <|
   bif !getB d9 then some (DV.bool false)
   else hd158_0 K a1 (IntKind.i64.wrap (v10 + 1))
  else some (DV.bool true)
theorem l158_0 {K : Nat} (a1 : DV) (v10 : Int) {r : DV} (h : L158_0 K a1 v10 = some r) : hd158_0 K a1 v10 = some r := hd_run (Eq.trans (by kernel_rfl) h)
/-! 157 157 -/
/-! 159 159 -/
/-! 165 165 -/
/-! 235 235 -/
/-! 236 236 -/
/-! 209 209 -/
/-! 234 234 -/
/-! 208 208 -/
/-! 149 149 -/
/-! 210 210 -/
end Go.Proofs.Ytmfgdnagmacgdaa.Dv
end
section
/- Trees of questions of functions of the program (printed by a program of this session, wip/dv/sym.txt). No condition. -/
set_option maxRecDepth 100000
set_option linter.unusedVariables false
namespace Go.Proofs.Ytmfgdnagmacgdaa.Dv
/-! 152 152 -/
/-! 148 148 -/
/-! 151 151 -/
/-! 113 113 -/
/-! 150 150 -/
/-! 167 167 -/
/-! 153 153 -/
/-! 86 86 -/
/-! 87 87 -/
/-! 27 27 -/
end Go.Proofs.Ytmfgdnagmacgdaa.Dv
end
section
/- Trees of questions of functions of the program (printed by a program of this session, wip/dv/sym.txt). No condition. -/
set_option maxRecDepth 100000
set_option linter.unusedVariables false
namespace Go.Proofs.Ytmfgdnagmacgdaa.Dv
/-! 89 89 -/
/-! 40 40 -/
noncomputable def H40_0 (a1 : DV) (a2 : Int) (v3 : Int) (v4 : Int) : St := ⟨[.undef] ++ [.int .i64 v3, .ptr 0 0] ++ [.undef, .undef] ++ [.int .i64 v4] ++ (un 38), [.box ((R 51 a1).cells)]⟩
def P40_0 : List Dir := [.c, .r, .l, .r, .r, .r]
noncomputable def hd40_0 (K : Nat) (a1 : DV) (a2 : Int) (v3 : Int) (v4 : Int) : Option DV := hdL Try.prog (C0 K) 40 P40_0 (bits 44 38) 1 (H40_0 a1 a2 v3 v4)
noncomputable def T40 (K : Nat) (a1 : DV) (a2 : Int) : Option DV :=
  bif decide ((↑(gS a1 1).size : Int) > 200) then some (DV.int .i64 (-1))
  else bif decide ((↑(gS a1 2).size : Int) > 200) then some (DV.int .i64 (-1))
  else bif decide ((↑(gL a1 4).length : Int) > a2) then some (DV.int .i64 (-1))
  else hd40_0 K a1 a2 (IntKind.i64.wrap (a2 - 1)) 0
theorem t40 {K : Nat} (a1 : DV) (a2 : Int) {r : DV} (h : T40 K a1 a2 = some r) : lm K 40 [R 51 a1, .int .i64 a2] = some r := fn_run (Eq.trans (by kernel_rfl) h)
noncomputable def L40_0 (K : Nat) (a1 : DV) (a2 : Int) (v3 : Int) (v4 : Int) : Option DV :=
  bif decide (v4 < (↑(gL a1 4).length : Int)) then bif decide (v3 ≥ 0) then need ((0 : Int) ≤ v4) <|
    ((gL a1 4)[v4.toNat]?).bind fun x1 =>
    need (x1 = R 51 x1) <|
    (lm K 40 [R 51 x1, .int .i64 v3]).bind fun d2 =>
    need (d2 = .int .i64 (getI d2)) <|
    hd40_0 K a1 a2 (getI d2) (IntKind.i64.wrap (v4 + 1))
   else some (DV.int .i64 v3)
  else some (DV.int .i64 v3)
theorem l40_0 {K : Nat} (a1 : DV) (a2 : Int) (v3 : Int) (v4 : Int) {r : DV} (h : L40_0 K a1 a2 v3 v4 = some r) : hd40_0 K a1 a2 v3 v4 = some r := hd_run (Eq.trans (by kernel_rfl) h)
/-! 76 76 -/
noncomputable def H76_0 (a1 : List DV) (a2 : Int) (v11 : Int) (v12 : Int) : St := ⟨[.sl .no 12 a1, .int .i64 v11] ++ [.undef, .undef, .undef] ++ [.int .i64 v12] ++ (un 74), []⟩
def P76_0 : List Dir := [.c, .r, .l, .r, .r]
noncomputable def hd76_0 (K : Nat) (a1 : List DV) (a2 : Int) (v11 : Int) (v12 : Int) : Option DV := hdL Try.prog (C0 K) 76 P76_0 (bits 80 35) 0 (H76_0 a1 a2 v11 v12)
noncomputable def H76_1 (a1 : List DV) (a2 : Int) (d5 : DV) (v6 : Int) (v10 : Int) : St := ⟨[.sl .no 12 a1, .int .i64 (getI d5)] ++ [.undef, .undef, .undef] ++ [.int .i64 v6, .int .i64 v10] ++ (un 73), []⟩
def P76_1 : List Dir := [.c, .r, .r, .r, .c, .l, .r, .loop (bits 80 35) 0, .c, .r, .l, .r, .r]
noncomputable def hd76_1 (K : Nat) (a1 : List DV) (a2 : Int) (d5 : DV) (v6 : Int) (v10 : Int) : Option DV := hdL Try.prog (C0 K) 76 P76_1 (bits 80 99) 0 (H76_1 a1 a2 d5 v6 v10)
noncomputable def T76 (K : Nat) (a1 : List DV) (a2 : Int) : Option DV :=
  bif decide ((↑a1.length : Int) > a2) then some (DV.int .i64 (-1))
  else hd76_0 K a1 a2 a2 0
theorem t76 {K : Nat} (a1 : List DV) (a2 : Int) {r : DV} (h : T76 K a1 a2 = some r) : lm K 76 [.sl .no 12 a1, .int .i64 a2] = some r := fn_run (Eq.trans (by kernel_rfl) h)
noncomputable def L76_0 (K : Nat) (a1 : List DV) (a2 : Int) (v11 : Int) (v12 : Int) : Option DV :=
  bif decide (v12 < (↑a1.length : Int)) then bif decide (v11 ≥ 0) then need ((0 : Int) ≤ v12) <|
    (a1[v12.toNat]?).bind fun x1 =>
    need (x1 = R 56 x1) <|
    bif decide ((↑(gS x1 1).size : Int) > 200) then some (DV.int .i64 (-1))
    else need ((0 : Int) ≤ v12) <|
    (a1[v12.toNat]?).bind fun x2 =>
    need (x2 = R 56 x2) <|
    bif decide ((↑(gS x2 2).size : Int) > 200) then some (DV.int .i64 (-1))
    else need ((0 : Int) ≤ v12) <|
    (a1[v12.toNat]?).bind fun x3 =>
    need (x3 = R 56 x3) <|
    bif decide ((↑(gL x3 10).length : Int) > 40) then some (DV.int .i64 (-1))
    else need ((0 : Int) ≤ v12) <|
    (a1[v12.toNat]?).bind fun x4 =>
    need (x4 = R 56 x4) <|
    (lm K 40 [.agg [.int .i64 (gI x4 4), .str (gS x4 5), .str (gS x4 6), .int .i64 (gI x4 7), .sl .no 6 (gL x4 8), .int .i64 (gI x4 9)], .int .i64 (IntKind.i64.wrap (v11 - 1))]).bind fun d5 =>
    need (d5 = .int .i64 (getI d5)) <|
    hd76_1 K a1 a2 d5 v12 0
   else some (DV.int .i64 v11)
  else some (DV.int .i64 v11)
theorem l76_0 {K : Nat} (a1 : List DV) (a2 : Int) (v11 : Int) (v12 : Int) {r : DV} (h : L76_0 K a1 a2 v11 v12 = some r) : hd76_0 K a1 a2 v11 v12 = some r := hd_run (Eq.trans (by kernel_rfl) h)
noncomputable def L76_1 (K : Nat) (a1 : List DV) (a2 : Int) (d5 : DV) (v6 : Int) (v10 : Int) : Option DV :=
  need ((0 : Int) ≤ v6) <|
  (a1[v6.toNat]?).bind fun x6 =>
  need (x6 = R 56 x6) <|
  bif decide (v10 < (↑(gL x6 10).length : Int)) then bif decide (getI d5 ≥ 0) then need ((0 : Int) ≤ v6) <|
    (a1[v6.toNat]?).bind fun x7 =>
    need (x7 = R 56 x7) <|
    need ((0 : Int) ≤ v10) <|
    ((gL x7 10)[v10.toNat]?).bind fun x8 =>
    need (x8 = .sl .no 12 (getL x8)) <|
    (lm K 76 [.sl .no 12 (getL x8), .int .i64 (IntKind.i64.wrap (getI d5 - 1))]).bind fun d9 =>
    need (d9 = .int .i64 (getI d9)) <|
    hd76_1 K a1 a2 d9 v6 (IntKind.i64.wrap (v10 + 1))
   else hd76_0 K a1 a2 (getI d5) (IntKind.i64.wrap (v6 + 1))
  else hd76_0 K a1 a2 (getI d5) (IntKind.i64.wrap (v6 + 1))
theorem l76_1 {K : Nat} (a1 : List DV) (a2 : Int) (d5 : DV) (v6 : Int) (v10 : Int) {r : DV} (h : L76_1 K a1 a2 d5 v6 v10 = some r) : hd76_1 K a1 a2 d5 v6 v10 = some r := hd_run (Eq.trans (by kernel_rfl) h)
/-! 25 25 -/
noncomputable def H25_0 (a1 : DV) (a2 : Int) (v11 : Int) (v1 : Int) : St := ⟨[.undef, .undef] ++ [.ptr 0 0] ++ [.undef, .undef] ++ [.int .i64 v11, .int .i64 v1] ++ (un 106), [.box ((R 25 a1).cells)]⟩
def P25_0 : List Dir := [.c, .r, .l, .r, .r, .r]
noncomputable def hd25_0 (K : Nat) (a1 : DV) (a2 : Int) (v11 : Int) (v1 : Int) : Option DV := hdL Try.prog (C0 K) 25 P25_0 (bits 113 100) 1 (H25_0 a1 a2 v11 v1)
noncomputable def H25_1 (a1 : DV) (a2 : Int) (v3 : Int) (v2 : Int) (v5 : Int) (x1 : DV) : St := ⟨[.undef, .undef] ++ [.ptr 0 0] ++ [.undef, .undef] ++ [.int .i64 v3, .int .i64 v2, .ptr 1 0, .int .i64 v5] ++ (un 104), [.box ((R 25 a1).cells), .box ((R 45 x1).cells)]⟩
def P25_1 : List Dir := [.c, .r, .l, .r, .r, .c, .l, .r, .loop (bits 113 100) 1, .c, .r, .l, .r, .r, .r]
noncomputable def hd25_1 (K : Nat) (a1 : DV) (a2 : Int) (v3 : Int) (v2 : Int) (v5 : Int) (x1 : DV) : Option DV := hdL Try.prog (C0 K) 25 P25_1 (bits 113 484) 2 (H25_1 a1 a2 v3 v2 v5 x1)
noncomputable def H25_2 (a1 : DV) (a2 : Int) (v7 : Int) (v8 : Int) : St := ⟨[.undef, .undef] ++ [.ptr 0 0] ++ [.undef, .undef] ++ [.int .i64 v7] ++ (un 4) ++ [.int .i64 v8] ++ (un 102), [.box ((R 25 a1).cells)]⟩
def P25_2 : List Dir := [.c, .r, .l, .r, .r, .r, .r]
noncomputable def hd25_2 (K : Nat) (a1 : DV) (a2 : Int) (v7 : Int) (v8 : Int) : Option DV := hdL Try.prog (C0 K) 25 P25_2 (bits 113 1060) 1 (H25_2 a1 a2 v7 v8)
noncomputable def H25_3 (a1 : DV) (a2 : Int) (v9 : Int) (v4 : Int) (v10 : Int) (x1 : DV) : St := ⟨[.undef, .undef] ++ [.ptr 0 0] ++ [.undef, .undef] ++ [.int .i64 v9, .int .i64 v4, .ptr 1 0] ++ [.undef] ++ [.int .i64 v10] ++ (un 103), [.box ((R 25 a1).cells), .box ((R 45 x1).cells)]⟩
def P25_3 : List Dir := [.c, .r, .r, .r, .r, .c, .l, .r, .loop (bits 113 100) 1, .c, .r, .l, .r, .r, .r]
noncomputable def hd25_3 (K : Nat) (a1 : DV) (a2 : Int) (v9 : Int) (v4 : Int) (v10 : Int) (x1 : DV) : Option DV := hdL Try.prog (C0 K) 25 P25_3 (bits 113 740) 2 (H25_3 a1 a2 v9 v4 v10 x1)
noncomputable def T25 (K : Nat) (a1 : DV) (a2 : Int) : Option DV :=
  bif decide ((↑(gL a1 0).length : Int) > 20) then some (DV.bool false)
  else bif decide ((↑(gL a1 1).length : Int) > 20) then some (DV.bool false)
  else hd25_0 K a1 a2 a2 0
theorem t25 {K : Nat} (a1 : DV) (a2 : Int) {r : DV} (h : T25 K a1 a2 = some r) : lm K 25 [R 25 a1, .int .i64 a2] = some r := fn_run (Eq.trans (by kernel_rfl) h)
noncomputable def L25_0 (K : Nat) (a1 : DV) (a2 : Int) (v11 : Int) (v1 : Int) : Option DV :=
  bif decide (v1 < (↑(gL a1 0).length : Int)) then need ((0 : Int) ≤ v1) <|
   ((gL a1 0)[v1.toNat]?).bind fun x1 =>
   need (x1 = R 45 x1) <|
   bif decide ((↑(gL x1 1).length : Int) > 40) then some (DV.bool false)
   else bif decide ((↑(gL x1 2).length : Int) > 40) then some (DV.bool false)
   else bif decide ((↑(gS x1 0).size : Int) > 200) then some (DV.bool false)
   else hd25_1 K a1 a2 v11 v1 0 x1
  else hd25_2 K a1 a2 v11 0
theorem l25_0 {K : Nat} (a1 : DV) (a2 : Int) (v11 : Int) (v1 : Int) {r : DV} (h : L25_0 K a1 a2 v11 v1 = some r) : hd25_0 K a1 a2 v11 v1 = some r := hd_run (Eq.trans (by kernel_rfl) h)
noncomputable def L25_1 (K : Nat) (a1 : DV) (a2 : Int) (v3 : Int) (v2 : Int) (v5 : Int) (x1 : DV) : Option DV :=
  bif decide (v5 < (↑(gL x1 1).length : Int)) then need ((0 : Int) ≤ v5) <|
   ((gL x1 1)[v5.toNat]?).bind fun x2 =>
   need (x2 = R 61 x2) <|
   bif decide ((↑(gS x2 0).size : Int) > 200) then some (DV.bool false)
   else hd25_1 K a1 a2 v3 v2 (IntKind.i64.wrap (v5 + 1)) x1
  else hd25_3 K a1 a2 v3 v2 0 x1
theorem l25_1 {K : Nat} (a1 : DV) (a2 : Int) (v3 : Int) (v2 : Int) (v5 : Int) (x1 : DV) {r : DV} (h : L25_1 K a1 a2 v3 v2 v5 x1 = some r) : hd25_1 K a1 a2 v3 v2 v5 x1 = some r := hd_run (Eq.trans (by kernel_rfl) h)
noncomputable def L25_2 (K : Nat) (a1 : DV) (a2 : Int) (v7 : Int) (v8 : Int) : Option DV :=
  bif decide (v8 < (↑(gL a1 1).length : Int)) then need ((0 : Int) ≤ v8) <|
   ((gL a1 1)[v8.toNat]?).bind fun x3 =>
   need (x3 = R 35 x3) <|
   bif decide ((↑(gS x3 0).size : Int) > 200) then some (DV.bool false)
   else need ((0 : Int) ≤ v8) <|
   ((gL a1 1)[v8.toNat]?).bind fun x4 =>
   need (x4 = R 35 x4) <|
   (lm K 76 [.sl .no 12 (gL x4 3), .int .i64 v7]).bind fun d5 =>
   need (d5 = .int .i64 (getI d5)) <|
   hd25_2 K a1 a2 (getI d5) (IntKind.i64.wrap (v8 + 1))
  else some (DV.bool (decide (v7 ≥ 0)))
theorem l25_2 {K : Nat} (a1 : DV) (a2 : Int) (v7 : Int) (v8 : Int) {r : DV} (h : L25_2 K a1 a2 v7 v8 = some r) : hd25_2 K a1 a2 v7 v8 = some r := hd_run (Eq.trans (by kernel_rfl) h)
noncomputable def L25_3 (K : Nat) (a1 : DV) (a2 : Int) (v9 : Int) (v4 : Int) (v10 : Int) (x1 : DV) : Option DV :=
  bif decide (v10 < (↑(gL x1 2).length : Int)) then need ((0 : Int) ≤ v10) <|
   ((gL x1 2)[v10.toNat]?).bind fun x6 =>
   need (x6 = R 102 x6) <|
   bif decide ((↑(gS x6 0).size : Int) > 200) then some (DV.bool false)
   else need ((0 : Int) ≤ v10) <|
   ((gL x1 2)[v10.toNat]?).bind fun x7 =>
   need (x7 = R 102 x7) <|
   (lm K 76 [.sl .no 12 (gL x7 1), .int .i64 v9]).bind fun d8 =>
   need (d8 = .int .i64 (getI d8)) <|
   hd25_3 K a1 a2 (getI d8) v4 (IntKind.i64.wrap (v10 + 1)) x1
  else hd25_0 K a1 a2 v9 (IntKind.i64.wrap (v4 + 1))
theorem l25_3 {K : Nat} (a1 : DV) (a2 : Int) (v9 : Int) (v4 : Int) (v10 : Int) (x1 : DV) {r : DV} (h : L25_3 K a1 a2 v9 v4 v10 x1 = some r) : hd25_3 K a1 a2 v9 v4 v10 x1 = some r := hd_run (Eq.trans (by kernel_rfl) h)
/-! 28 28 -/
/-! 3 3 -/
end Go.Proofs.Ytmfgdnagmacgdaa.Dv
end
section
/- Trees of questions of functions of the program (printed by a program of this session, wip/dv/sym.txt). No condition. -/
set_option maxRecDepth 100000
set_option linter.unusedVariables false
namespace Go.Proofs.Ytmfgdnagmacgdaa.Dv
/-! 4 4 -/
/-! 33 33 -/
/-! 34 34 -/
/-! 99 99 -/
/-! 166 166 -/
/-! 30 30 -/
/-! 95 95 -/
end Go.Proofs.Ytmfgdnagmacgdaa.Dv
end
section
/- Trees of questions of functions of the program (printed by a program of this session, wip/dv/sym.txt). No condition. -/
set_option maxRecDepth 100000
set_option linter.unusedVariables false
namespace Go.Proofs.Ytmfgdnagmacgdaa.Dv
/-! 108 108 -/
noncomputable def H108_0 (a1 : List DV) (a2 : ByteArray) (v2 : Int) : St := ⟨[.sl .no 4 a1, .fn 109 [] [.ptr 0 0]] ++ (un 5) ++ [.int .i64 ((↑a1.length : Int)), .int .i64 v2] ++ (un 10), [.box [.str a2]]⟩
def P108_0 : List Dir := [.c, .r, .l, .r]
noncomputable def hd108_0 (K : Nat) (a1 : List DV) (a2 : ByteArray) (v2 : Int) : Option DV := hdLH Try.prog (C0 K) 108 1 P108_0 (bits 19 387) 1 (H108_0 a1 a2 v2)
noncomputable def T108 (K : Nat) (a1 : List DV) (a2 : ByteArray) : Option DV :=
  hd108_0 K a1 a2 0
theorem t108 {K : Nat} (a1 : List DV) (a2 : ByteArray) {r : DV} (h : T108 K a1 a2 = some r) : lmH K 108 [.sl .no 4 a1, .fn 109 [] [.ptr 0 0]] [.box [.str a2]] = some r := fnH_run (Eq.trans (by kernel_rfl) h)
noncomputable def L108_0 (K : Nat) (a1 : List DV) (a2 : ByteArray) (v2 : Int) : Option DV :=
  bif decide (v2 < (↑a1.length : Int)) then need ((0 : Int) ≤ v2) <|
   (a1[v2.toNat]?).bind fun x3 =>
   need (x3 = R 45 x3) <|
   bif (gS x3 0).toList == a2.toList then some (DV.tup [.int .i64 v2, .agg [.str a2]])
   else hd108_0 K a1 a2 (IntKind.i64.wrap (v2 + 1))
  else some (DV.tup [.int .i64 (-1), .agg [.str a2]])
theorem l108_0 {K : Nat} (a1 : List DV) (a2 : ByteArray) (v2 : Int) {r : DV} (h : L108_0 K a1 a2 v2 = some r) : hd108_0 K a1 a2 v2 = some r := hdH_run (Eq.trans (by kernel_rfl) h)
/-! 113 113s -/
noncomputable def H113s_0 (a1 : List DV) (a2 : ByteArray) (v2 : Int) : St := ⟨[.sl .no 6 a1, .fn 114 [] [.ptr 0 0]] ++ (un 5) ++ [.int .i64 ((↑a1.length : Int)), .int .i64 v2] ++ (un 10), [.box [.str a2]]⟩
def P113s_0 : List Dir := [.c, .r, .l, .r]
noncomputable def hd113s_0 (K : Nat) (a1 : List DV) (a2 : ByteArray) (v2 : Int) : Option DV := hdLH Try.prog (C0 K) 113 1 P113s_0 (bits 19 387) 1 (H113s_0 a1 a2 v2)
noncomputable def T113s (K : Nat) (a1 : List DV) (a2 : ByteArray) : Option DV :=
  hd113s_0 K a1 a2 0
theorem t113s {K : Nat} (a1 : List DV) (a2 : ByteArray) {r : DV} (h : T113s K a1 a2 = some r) : lmH K 113 [.sl .no 6 a1, .fn 114 [] [.ptr 0 0]] [.box [.str a2]] = some r := fnH_run (Eq.trans (by kernel_rfl) h)
noncomputable def L113s_0 (K : Nat) (a1 : List DV) (a2 : ByteArray) (v2 : Int) : Option DV :=
  bif decide (v2 < (↑a1.length : Int)) then need ((0 : Int) ≤ v2) <|
   (a1[v2.toNat]?).bind fun x3 =>
   need (x3 = R 61 x3) <|
   bif (gS x3 0).toList == a2.toList then some (DV.tup [.int .i64 v2, .agg [.str a2]])
   else hd113s_0 K a1 a2 (IntKind.i64.wrap (v2 + 1))
  else some (DV.tup [.int .i64 (-1), .agg [.str a2]])
theorem l113s_0 {K : Nat} (a1 : List DV) (a2 : ByteArray) (v2 : Int) {r : DV} (h : L113s_0 K a1 a2 v2 = some r) : hd113s_0 K a1 a2 v2 = some r := hdH_run (Eq.trans (by kernel_rfl) h)
/-! 39 39 -/
noncomputable def T39 (K : Nat) (a1 : DV) (a2 : ByteArray) : Option DV :=
  (lmH K 108 [.sl .no 4 (gL a1 0), .fn 109 [] [.ptr 0 0]] [.box [.str a2]]).bind fun d1 =>
  need (d1 = .tup [.int .i64 (getI (getT d1 0)), .agg [.str (gS (getT d1 1) 0)]]) <|
  some (DV.tup [.int .i64 (if 0 > getI (getT d1 0) then 0 else getI (getT d1 0)), .bool (decide (getI (getT d1 0) ≥ 0))])
theorem t39 {K : Nat} (a1 : DV) (a2 : ByteArray) {r : DV} (h : T39 K a1 a2 = some r) : lm K 39 [R 25 a1, .str a2] = some r := fn_run (Eq.trans (by kernel_rfl) h)
/-! 43 43 -/
noncomputable def H43_0 (a1 : DV) (a2 : ByteArray) (a3 : ByteArray) (v5 : Int) (d1 : DV) (v6 : Int) (d3 : DV) : St := ⟨(un 10) ++ [.int .i64 v5] ++ (un 23) ++ [.sl .no 4 (List.take (getI (getT d1 0)).toNat (gL a1 0)), .int .i64 ((↑(List.take (getI (getT d1 0)).toNat (gL a1 0)).length : Int)), .int .i64 v6] ++ (un 10), [.box ((R 25 a1).cells), .box [.str (gS (getT d3 1) 0)]]⟩
def P43_0 : List Dir := [.c, .r, .l, .r, .r, .r, .r, .r]
noncomputable def hd43_0 (K : Nat) (a1 : DV) (a2 : ByteArray) (a3 : ByteArray) (v5 : Int) (d1 : DV) (v6 : Int) (d3 : DV) : Option DV := hdL Try.prog (C0 K) 43 P43_0 (bits 47 120259085312) 2 (H43_0 a1 a2 a3 v5 d1 v6 d3)
noncomputable def T43 (K : Nat) (a1 : DV) (a2 : ByteArray) (a3 : ByteArray) : Option DV :=
  (lm K 39 [R 25 a1, .str a2]).bind fun d7 =>
  need (d7 = .tup [.int .i64 (getI (getT d7 0)), .bool (getB (getT d7 1))]) <|
  bif !getB (getT d7 1) then some (DV.tup [.int .i64 0, .bool false])
  else need ((0 : Int) ≤ getI (getT d7 (0 : Nat))) <|
  ((gL a1 0)[(getI (getT d7 0)).toNat]?).bind fun x8 =>
  need (x8 = R 45 x8) <|
  (lmH K 113 [.sl .no 6 (gL x8 1), .fn 114 [] [.ptr 0 0]] [.box [.str a3]]).bind fun d9 =>
  need (d9 = .tup [.int .i64 (getI (getT d9 0)), .agg [.str (gS (getT d9 1) 0)]]) <|
  bif decide (getI (getT d9 0) < 0) then some (DV.tup [.int .i64 0, .bool false])
  else need ((0 : Int) ≤ getI (getT d7 (0 : Nat)) ∧ (getI (getT d7 (0 : Nat))).toNat ≤ (gL a1 (0 : Nat)).length) <|
  hd43_0 K a1 a2 a3 (getI (getT d9 0)) d7 0 d9
theorem t43 {K : Nat} (a1 : DV) (a2 : ByteArray) (a3 : ByteArray) {r : DV} (h : T43 K a1 a2 a3 = some r) : lm K 43 [R 25 a1, .str a2, .str a3] = some r := fn_run (Eq.trans (by kernel_rfl) h)
noncomputable def L43_0 (K : Nat) (a1 : DV) (a2 : ByteArray) (a3 : ByteArray) (v5 : Int) (d1 : DV) (v6 : Int) (d3 : DV) : Option DV :=
  bif decide (v6 < (↑(List.take (getI (getT d1 0)).toNat (gL a1 0)).length : Int)) then need ((0 : Int) ≤ v6) <|
   ((List.take (getI (getT d1 0)).toNat (gL a1 0))[v6.toNat]?).bind fun x10 =>
   need (x10 = R 45 x10) <|
   hd43_0 K a1 a2 a3 (IntKind.i64.wrap (v5 + (↑(gL x10 1).length : Int))) d1 (IntKind.i64.wrap (v6 + 1)) d3
  else some (DV.tup [.int .i64 v5, .bool true])
theorem l43_0 {K : Nat} (a1 : DV) (a2 : ByteArray) (a3 : ByteArray) (v5 : Int) (d1 : DV) (v6 : Int) (d3 : DV) {r : DV} (h : L43_0 K a1 a2 a3 v5 d1 v6 d3 = some r) : hd43_0 K a1 a2 a3 v5 d1 v6 d3 = some r := hd_run (Eq.trans (by kernel_rfl) h)
/-! 102 102 -/
noncomputable def H102_0 (a1 : DV) (v3 : List DV) (v2 : Int) (z4 : Nat) (v5 : Nat) : St := ⟨[.undef, .undef] ++ [.sl (.tok 1) 6 v3] ++ [.undef, .undef, .undef] ++ [.sl .no 4 (gL a1 0), .int .i64 ((↑(gL a1 0).length : Int)), .int .i64 v2] ++ (un 9), [.box ((R 25 a1).cells), .tok z4 v5]⟩
def P102_0 : List Dir := [.c, .r, .l, .r]
noncomputable def hd102_0 (K : Nat) (a1 : DV) (v3 : List DV) (v2 : Int) (z4 : Nat) (v5 : Nat) : Option DV := hdL Try.prog (C0 K) 102 P102_0 (bits 18 452) 2 (H102_0 a1 v3 v2 z4 v5)
noncomputable def T102 (K : Nat) (a1 : DV) : Option DV :=
  hd102_0 K a1 [] 0 0 0
theorem t102 {K : Nat} (a1 : DV) {r : DV} (h : T102 K a1 = some r) : lm K 102 [R 25 a1] = some r := fn_run (Eq.trans (by kernel_rfl) h)
noncomputable def L102_0 (K : Nat) (a1 : DV) (v3 : List DV) (v2 : Int) (z4 : Nat) (v5 : Nat) : Option DV :=
  bif decide (v2 < (↑(gL a1 0).length : Int)) then need ((0 : Int) ≤ v2) <|
   ((gL a1 0)[v2.toNat]?).bind fun x6 =>
   need (x6 = R 45 x6) <|
   need ((v3.length + (gL x6 (1 : Nat)).length) * (56 : Nat) ≤ (1099511627776 : Nat) ∧ v3.length = v5 ∧ ((6 : Nat) = (6 : Nat) ∧ z4 = (6 : Nat) ∨ v3 = [] ∧ z4 = (0 : Nat))) <|
   bif (gL x6 1).isEmpty then hd102_0 K a1 v3 (IntKind.i64.wrap (v2 + 1)) z4 v5
   else hd102_0 K a1 (v3 ++ gL x6 1) (IntKind.i64.wrap (v2 + 1)) 6 (v3.length + (gL x6 1).length)
  else some (DV.sl .no 6 v3)
theorem l102_0 {K : Nat} (a1 : DV) (v3 : List DV) (v2 : Int) (z4 : Nat) (v5 : Nat) {r : DV} (h : L102_0 K a1 v3 v2 z4 v5 = some r) : hd102_0 K a1 v3 v2 z4 v5 = some r := hd_run (Eq.trans (by kernel_rfl) h)
/-! 56 56 -/
noncomputable def H56_0 (a1 : DV) (v3 : List DV) (v2 : Int) (z4 : Nat) (v5 : Nat) : St := ⟨[.undef] ++ [.ptr 0 0] ++ [.undef] ++ [.sl (.tok 1) 6 v3, .int .i64 v2] ++ (un 16), [.box ((R 25 a1).cells), .tok z4 v5]⟩
def P56_0 : List Dir := [.c, .r, .l, .r, .r]
noncomputable def hd56_0 (K : Nat) (a1 : DV) (v3 : List DV) (v2 : Int) (z4 : Nat) (v5 : Nat) : Option DV := hdL Try.prog (C0 K) 56 P56_0 (bits 21 26) 2 (H56_0 a1 v3 v2 z4 v5)
noncomputable def T56 (K : Nat) (a1 : DV) : Option DV :=
  hd56_0 K a1 [] 0 0 0
theorem t56 {K : Nat} (a1 : DV) {r : DV} (h : T56 K a1 = some r) : lm K 56 [R 25 a1] = some r := fn_run (Eq.trans (by kernel_rfl) h)
noncomputable def L56_0 (K : Nat) (a1 : DV) (v3 : List DV) (v2 : Int) (z4 : Nat) (v5 : Nat) : Option DV :=
  bif decide (v2 < (↑(gL a1 0).length : Int)) then need ((0 : Int) ≤ v2) <|
   ((gL a1 0)[v2.toNat]?).bind fun x6 =>
   need (x6 = R 45 x6) <|
   need ((v3.length + (gL x6 (1 : Nat)).length) * (56 : Nat) ≤ (1099511627776 : Nat) ∧ v3.length = v5 ∧ ((6 : Nat) = (6 : Nat) ∧ z4 = (6 : Nat) ∨ v3 = [] ∧ z4 = (0 : Nat))) <|
   bif (gL x6 1).isEmpty then hd56_0 K a1 v3 (IntKind.i64.wrap (v2 + 1)) z4 v5
   else hd56_0 K a1 (v3 ++ gL x6 1) (IntKind.i64.wrap (v2 + 1)) 6 (v3.length + (gL x6 1).length)
  else some (DV.sl .no 6 v3)
theorem l56_0 {K : Nat} (a1 : DV) (v3 : List DV) (v2 : Int) (z4 : Nat) (v5 : Nat) {r : DV} (h : L56_0 K a1 v3 v2 z4 v5 = some r) : hd56_0 K a1 v3 v2 z4 v5 = some r := hd_run (Eq.trans (by kernel_rfl) h)
/-! 120 120 -/
noncomputable def H120_0 (a1 : DV) (a2 : ByteArray) (a3 : ByteArray) (v15 : Int) (v8 : Int) : St := ⟨[.undef] ++ [.str a2, .str a3, .ptr 0 0] ++ (un 4) ++ [.int .i64 v15, .int .i64 v8] ++ (un 52), [.box ((R 25 a1).cells)]⟩
def P120_0 : List Dir := [.c, .r, .l, .r, .r]
noncomputable def hd120_0 (K : Nat) (a1 : DV) (a2 : ByteArray) (a3 : ByteArray) (v15 : Int) (v8 : Int) : Option DV := hdL Try.prog (C0 K) 120 P120_0 (bits 62 782) 1 (H120_0 a1 a2 a3 v15 v8)
noncomputable def H120_1 (a1 : DV) (a2 : ByteArray) (a3 : ByteArray) (v5 : Int) (v9 : Int) (v6 : Int) : St := ⟨[.undef] ++ [.str a2, .str a3, .ptr 0 0] ++ (un 4) ++ [.int .i64 v5, .int .i64 v9, .int .i64 v6] ++ (un 51), [.box ((R 25 a1).cells)]⟩
def P120_1 : List Dir := [.c, .r, .l, .c, .l, .r, .loop (bits 62 782) 1, .c, .r, .l, .r, .r]
noncomputable def hd120_1 (K : Nat) (a1 : DV) (a2 : ByteArray) (a3 : ByteArray) (v5 : Int) (v9 : Int) (v6 : Int) : Option DV := hdL Try.prog (C0 K) 120 P120_1 (bits 62 1806) 1 (H120_1 a1 a2 a3 v5 v9 v6)
noncomputable def T120 (K : Nat) (a1 : DV) (a2 : ByteArray) (a3 : ByteArray) : Option DV :=
  hd120_0 K a1 a2 a3 0 0
theorem t120 {K : Nat} (a1 : DV) (a2 : ByteArray) (a3 : ByteArray) {r : DV} (h : T120 K a1 a2 a3 = some r) : lm K 120 [R 25 a1, .str a2, .str a3] = some r := fn_run (Eq.trans (by kernel_rfl) h)
noncomputable def L120_0 (K : Nat) (a1 : DV) (a2 : ByteArray) (a3 : ByteArray) (v15 : Int) (v8 : Int) : Option DV :=
  bif decide (v8 < (↑(gL a1 0).length : Int)) then hd120_1 K a1 a2 a3 v15 v8 0
  else some (DV.tup [.int .i64 0, .bool false])
theorem l120_0 {K : Nat} (a1 : DV) (a2 : ByteArray) (a3 : ByteArray) (v15 : Int) (v8 : Int) {r : DV} (h : L120_0 K a1 a2 a3 v15 v8 = some r) : hd120_0 K a1 a2 a3 v15 v8 = some r := hd_run (Eq.trans (by kernel_rfl) h)
noncomputable def L120_1 (K : Nat) (a1 : DV) (a2 : ByteArray) (a3 : ByteArray) (v5 : Int) (v9 : Int) (v6 : Int) : Option DV :=
  need ((0 : Int) ≤ v9) <|
  ((gL a1 0)[v9.toNat]?).bind fun x16 =>
  need (x16 = R 45 x16) <|
  bif decide (v6 < (↑(gL x16 1).length : Int)) then need ((0 : Int) ≤ v9) <|
   ((gL a1 0)[v9.toNat]?).bind fun x17 =>
   need (x17 = R 45 x17) <|
   bif (gS x17 0).toList == a2.toList then need ((0 : Int) ≤ v9) <|
    ((gL a1 0)[v9.toNat]?).bind fun x18 =>
    need (x18 = R 45 x18) <|
    need ((0 : Int) ≤ v6) <|
    ((gL x18 1)[v6.toNat]?).bind fun x19 =>
    need (x19 = R 61 x19) <|
    bif (gS x19 0).toList == a3.toList then some (DV.tup [.int .i64 v5, .bool true])
    else hd120_1 K a1 a2 a3 (IntKind.i64.wrap (v5 + 1)) v9 (IntKind.i64.wrap (v6 + 1))
   else hd120_1 K a1 a2 a3 (IntKind.i64.wrap (v5 + 1)) v9 (IntKind.i64.wrap (v6 + 1))
  else need ((0 : Int) ≤ v9) <|
  ((gL a1 0)[v9.toNat]?).bind fun x20 =>
  need (x20 = R 45 x20) <|
  bif (gS x20 0).toList == a2.toList then some (DV.tup [.int .i64 0, .bool false])
  else hd120_0 K a1 a2 a3 v5 (IntKind.i64.wrap (v9 + 1))
theorem l120_1 {K : Nat} (a1 : DV) (a2 : ByteArray) (a3 : ByteArray) (v5 : Int) (v9 : Int) (v6 : Int) {r : DV} (h : L120_1 K a1 a2 a3 v5 v9 v6 = some r) : hd120_1 K a1 a2 a3 v5 v9 v6 = some r := hd_run (Eq.trans (by kernel_rfl) h)
/-! 118 118 -/
noncomputable def T118 (K : Nat) (a1 : DV) (a2 : Int) : Option DV :=
  bif gI a1 1 == 1 then bif decide (0 ≤ a2) then some (DV.bool (decide (a2 ≤ 1)))
   else some (DV.bool false)
  else bif gI a1 1 == 2 then bif decide (-9223372036854775808 ≤ a2) then some (DV.bool (decide (a2 ≤ 9223372036854775807)))
   else some (DV.bool false)
  else bif gI a1 1 == 3 then bif decide (gI a1 2 ≤ a2) then some (DV.bool (decide (a2 ≤ gI a1 3)))
   else some (DV.bool false)
  else bif decide (1 ≤ a2) then some (DV.bool (decide (a2 ≤ 0)))
  else some (DV.bool false)
theorem t118 {K : Nat} (a1 : DV) (a2 : Int) {r : DV} (h : T118 K a1 a2 = some r) : lm K 118 [R 61 a1, .int .i64 a2] = some r := fn_run (Eq.trans (by kernel_rfl) h)
/-! 121 121 -/
noncomputable def T121 (K : Nat) (a1 : DV) (a2 : Int) : Option DV :=
  bif gI a1 1 == 1 then bif a2 == 0 then some (DV.bool true)
   else some (DV.bool (a2 == 1))
  else bif gI a1 1 == 2 then some (DV.bool true)
  else bif gI a1 1 == 3 then bif decide (a2 ≥ gI a1 2) then some (DV.bool (decide (a2 ≤ gI a1 3)))
   else some (DV.bool false)
  else some (DV.bool false)
theorem t121 {K : Nat} (a1 : DV) (a2 : Int) {r : DV} (h : T121 K a1 a2 = some r) : lm K 121 [R 61 a1, .int .i64 a2] = some r := fn_run (Eq.trans (by kernel_rfl) h)
/-! 50 50 -/
noncomputable def T50 (K : Nat) (a1 : DV) (a2 : ByteArray) (a3 : ByteArray) (a4 : Int) (a5 : List DV) : Option DV :=
  (lm K 43 [R 25 a1, .str a2, .str a3]).bind fun d1 =>
  need (d1 = .tup [.int .i64 (getI (getT d1 0)), .bool (getB (getT d1 1))]) <|
  (lm K 102 [R 25 a1]).bind fun d2 =>
  need (d2 = .sl .no 6 (getL d2)) <|
  bif !getB (getT d1 1) then some (DV.tup [.sl .no 1 [], .int .i64 61])
  else bif (↑a5.length : Int) != (↑(getL d2).length : Int) then some (DV.tup [.sl .no 1 [], .int .i64 2])
  else need ((0 : Int) ≤ getI (getT d1 (0 : Nat))) <|
  ((getL d2)[(getI (getT d1 0)).toNat]?).bind fun x3 =>
  need (x3 = R 61 x3) <|
  (lm K 118 [R 61 x3, .int .i64 a4]).bind fun d4 =>
  need (d4 = .bool (getB d4)) <|
  bif !getB d4 then some (DV.tup [.sl .no 1 [], .int .i64 110])
  else need (a5 ≠ []) <|
  need ((([] : List DV).length + a5.length) * (8 : Nat) ≤ (1099511627776 : Nat) ∧ (([] : List DV) = [] ∨ (1 : Nat) = (1 : Nat))) <|
  bif a5.isEmpty then need ((0 : Int) ≤ getI (getT d1 (0 : Nat))) <|
   (([] : List DV)[(getI (getT d1 0)).toNat]?).bind fun x5 =>
   need (x5 = .int .i64 (getI x5)) <|
   none
  else need ((0 : Int) ≤ getI (getT d1 (0 : Nat)) ∧ getI (getT d1 (0 : Nat)) < (↑(([] : List DV).length + a5.length) : Int)) <|
  (([] ++ a5)[(getI (getT d1 0)).toNat]?).bind fun x6 =>
  need ((1 : Nat) ≤ x6.cells.length) <|
  need ((([] ++ a5).set (getI (getT d1 (0 : Nat))).toNat (DV.int IntKind.i64 a4)).length = ([] : List DV).length + a5.length) <|
  some (DV.tup ([.sl .no 1 (([] ++ a5).set (getI (getT d1 0)).toNat (DV.int IntKind.i64 a4)), .int .i64 0]))
theorem t50 {K : Nat} (a1 : DV) (a2 : ByteArray) (a3 : ByteArray) (a4 : Int) (a5 : List DV) {r : DV} (h : T50 K a1 a2 a3 a4 a5 = some r) : lm K 50 [R 25 a1, .str a2, .str a3, .int .i64 a4, .sl .no 1 a5] = some r := fn_run (Eq.trans (by kernel_rfl) h)
/-! 51 51 -/
noncomputable def T51 (K : Nat) (a1 : DV) (a2 : ByteArray) (a3 : ByteArray) (a4 : Int) (a5 : List DV) : Option DV :=
  (lm K 120 [R 25 a1, .str a2, .str a3]).bind fun d1 =>
  need (d1 = .tup [.int .i64 (getI (getT d1 0)), .bool (getB (getT d1 1))]) <|
  bif !getB (getT d1 1) then some (DV.tup [.sl .no 1 [], .int .i64 61])
  else (lm K 56 [R 25 a1]).bind fun d2 =>
  need (d2 = .sl .no 6 (getL d2)) <|
  bif (↑a5.length : Int) != (↑(getL d2).length : Int) then some (DV.tup [.sl .no 1 [], .int .i64 2])
  else need ((0 : Int) ≤ getI (getT d1 (0 : Nat))) <|
  ((getL d2)[(getI (getT d1 0)).toNat]?).bind fun x3 =>
  need (x3 = R 61 x3) <|
  (lm K 121 [R 61 x3, .int .i64 a4]).bind fun d4 =>
  need (d4 = .bool (getB d4)) <|
  bif !getB d4 then some (DV.tup [.sl .no 1 [], .int .i64 110])
  else need ((([] : List DV).length + a5.length) * (8 : Nat) ≤ (1099511627776 : Nat) ∧ (([] : List DV) = [] ∨ (1 : Nat) = (1 : Nat))) <|
  bif a5.isEmpty then need ((0 : Int) ≤ getI (getT d1 (0 : Nat))) <|
   (([] : List DV)[(getI (getT d1 0)).toNat]?).bind fun x5 =>
   need (x5 = .int .i64 (getI x5)) <|
   none
  else need ((0 : Int) ≤ getI (getT d1 (0 : Nat)) ∧ getI (getT d1 (0 : Nat)) < (↑(([] : List DV).length + a5.length) : Int)) <|
  (([] ++ a5)[(getI (getT d1 0)).toNat]?).bind fun x6 =>
  need ((1 : Nat) ≤ x6.cells.length) <|
  need ((([] ++ a5).set (getI (getT d1 (0 : Nat))).toNat (DV.int IntKind.i64 a4)).length = ([] : List DV).length + a5.length) <|
  some (DV.tup ([.sl .no 1 (([] ++ a5).set (getI (getT d1 0)).toNat (DV.int IntKind.i64 a4)), .int .i64 0]))
theorem t51 {K : Nat} (a1 : DV) (a2 : ByteArray) (a3 : ByteArray) (a4 : Int) (a5 : List DV) {r : DV} (h : T51 K a1 a2 a3 a4 a5 = some r) : lm K 51 [R 25 a1, .str a2, .str a3, .int .i64 a4, .sl .no 1 a5] = some r := fn_run (Eq.trans (by kernel_rfl) h)
/-! 52 52 -/
noncomputable def H52_0 (a1 : List DV) (a2 : List DV) (v3 : Int) : St := ⟨[.sl .no 1 a1, .sl .no 1 a2] ++ [.undef, .undef, .undef] ++ [.int .i64 v3] ++ (un 20), []⟩
def P52_0 : List Dir := [.c, .r, .l, .r, .r]
noncomputable def hd52_0 (K : Nat) (a1 : List DV) (a2 : List DV) (v3 : Int) : Option DV := hdL Try.prog (C0 K) 52 P52_0 (bits 26 35) 0 (H52_0 a1 a2 v3)
noncomputable def T52 (K : Nat) (a1 : List DV) (a2 : List DV) : Option DV :=
  bif (↑a1.length : Int) != (↑a2.length : Int) then some (DV.bool false)
  else hd52_0 K a1 a2 0
theorem t52 {K : Nat} (a1 : List DV) (a2 : List DV) {r : DV} (h : T52 K a1 a2 = some r) : lm K 52 [.sl .no 1 a1, .sl .no 1 a2] = some r := fn_run (Eq.trans (by kernel_rfl) h)
noncomputable def L52_0 (K : Nat) (a1 : List DV) (a2 : List DV) (v3 : Int) : Option DV :=
  bif decide (v3 < (↑a1.length : Int)) then need ((0 : Int) ≤ v3) <|
   (a1[v3.toNat]?).bind fun x4 =>
   need (x4 = .int .i64 (getI x4)) <|
   need ((0 : Int) ≤ v3) <|
   (a2[v3.toNat]?).bind fun x5 =>
   need (x5 = .int .i64 (getI x5)) <|
   bif getI x4 != getI x5 then some (DV.bool false)
   else hd52_0 K a1 a2 (IntKind.i64.wrap (v3 + 1))
  else some (DV.bool true)
theorem l52_0 {K : Nat} (a1 : List DV) (a2 : List DV) (v3 : Int) {r : DV} (h : L52_0 K a1 a2 v3 = some r) : hd52_0 K a1 a2 v3 = some r := hd_run (Eq.trans (by kernel_rfl) h)
/-! 53 53 -/
noncomputable def H53_0 (a1 : DV) (v3 : List DV) (d1 : DV) (v4 : Int) (z5 : Nat) (v6 : Nat) : St := ⟨[.undef, .undef, .undef] ++ [.sl (.tok 1) 1 v3] ++ [.undef, .undef, .undef] ++ [.sl .no 6 (getL d1), .int .i64 ((↑(getL d1).length : Int)), .int .i64 v4] ++ (un 10), [.box ((R 25 a1).cells), .tok z5 v6]⟩
def P53_0 : List Dir := [.c, .r, .l, .r, .r]
noncomputable def hd53_0 (K : Nat) (a1 : DV) (v3 : List DV) (d1 : DV) (v4 : Int) (z5 : Nat) (v6 : Nat) : Option DV := hdL Try.prog (C0 K) 53 P53_0 (bits 20 904) 2 (H53_0 a1 v3 d1 v4 z5 v6)
noncomputable def T53 (K : Nat) (a1 : DV) : Option DV :=
  (lm K 102 [R 25 a1]).bind fun d7 =>
  need (d7 = .sl .no 6 (getL d7)) <|
  hd53_0 K a1 [] d7 0 0 0
theorem t53 {K : Nat} (a1 : DV) {r : DV} (h : T53 K a1 = some r) : lm K 53 [R 25 a1] = some r := fn_run (Eq.trans (by kernel_rfl) h)
noncomputable def L53_0 (K : Nat) (a1 : DV) (v3 : List DV) (d1 : DV) (v4 : Int) (z5 : Nat) (v6 : Nat) : Option DV :=
  bif decide (v4 < (↑(getL d1).length : Int)) then need ((0 : Int) ≤ v4) <|
   ((getL d1)[v4.toNat]?).bind fun x8 =>
   need (x8 = R 61 x8) <|
   need ((v3.length + [DV.int IntKind.i64 (gI x8 (4 : Nat))].length) * (8 : Nat) ≤ (1099511627776 : Nat) ∧ v3.length = v6 ∧ ((1 : Nat) = (1 : Nat) ∧ z5 = (1 : Nat) ∨ v3 = [] ∧ z5 = (0 : Nat))) <|
   hd53_0 K a1 (v3 ++ [DV.int IntKind.i64 (gI x8 4)]) d1 (IntKind.i64.wrap (v4 + 1)) 1 (v3.length + [DV.int IntKind.i64 (gI x8 4)].length)
  else some (DV.sl .no 1 v3)
theorem l53_0 {K : Nat} (a1 : DV) (v3 : List DV) (d1 : DV) (v4 : Int) (z5 : Nat) (v6 : Nat) {r : DV} (h : L53_0 K a1 v3 d1 v4 z5 v6 = some r) : hd53_0 K a1 v3 d1 v4 z5 v6 = some r := hd_run (Eq.trans (by kernel_rfl) h)
/-! 54 54 -/
noncomputable def H54_0 (a1 : DV) (v3 : List DV) (d1 : DV) (v4 : Int) (z5 : Nat) (v6 : Nat) : St := ⟨[.undef, .undef, .undef] ++ [.sl (.tok 1) 1 v3, .sl .no 6 (getL d1), .int .i64 v4] ++ (un 17), [.box ((R 25 a1).cells), .tok z5 v6]⟩
def P54_0 : List Dir := [.c, .r, .l, .r, .r, .r]
noncomputable def hd54_0 (K : Nat) (a1 : DV) (v3 : List DV) (d1 : DV) (v4 : Int) (z5 : Nat) (v6 : Nat) : Option DV := hdL Try.prog (C0 K) 54 P54_0 (bits 23 56) 2 (H54_0 a1 v3 d1 v4 z5 v6)
noncomputable def T54 (K : Nat) (a1 : DV) : Option DV :=
  (lm K 56 [R 25 a1]).bind fun d7 =>
  need (d7 = .sl .no 6 (getL d7)) <|
  hd54_0 K a1 [] d7 0 0 0
theorem t54 {K : Nat} (a1 : DV) {r : DV} (h : T54 K a1 = some r) : lm K 54 [R 25 a1] = some r := fn_run (Eq.trans (by kernel_rfl) h)
noncomputable def L54_0 (K : Nat) (a1 : DV) (v3 : List DV) (d1 : DV) (v4 : Int) (z5 : Nat) (v6 : Nat) : Option DV :=
  bif decide (v4 < (↑(getL d1).length : Int)) then need ((0 : Int) ≤ v4) <|
   ((getL d1)[v4.toNat]?).bind fun x8 =>
   need (x8 = R 61 x8) <|
   need ((v3.length + [DV.int IntKind.i64 (gI x8 (4 : Nat))].length) * (8 : Nat) ≤ (1099511627776 : Nat) ∧ v3.length = v6 ∧ ((1 : Nat) = (1 : Nat) ∧ z5 = (1 : Nat) ∨ v3 = [] ∧ z5 = (0 : Nat))) <|
   hd54_0 K a1 (v3 ++ [DV.int IntKind.i64 (gI x8 4)]) d1 (IntKind.i64.wrap (v4 + 1)) 1 (v3.length + [DV.int IntKind.i64 (gI x8 4)].length)
  else some (DV.sl .no 1 v3)
theorem l54_0 {K : Nat} (a1 : DV) (v3 : List DV) (d1 : DV) (v4 : Int) (z5 : Nat) (v6 : Nat) {r : DV} (h : L54_0 K a1 v3 d1 v4 z5 v6 = some r) : hd54_0 K a1 v3 d1 v4 z5 v6 = some r := hd_run (Eq.trans (by kernel_rfl) h)
/-! 9 9 -/
noncomputable def T9 (K : Nat) (a1 : DV) (a2 : ByteArray) (a3 : ByteArray) (a4 : Int) (a5 : List DV) : Option DV :=
  (lm K 25 [R 25 a1, .int .i64 300]).bind fun d1 =>
  need (d1 = .bool (getB d1)) <|
  bif !getB d1 then (lm K 44 []).bind fun d2 =>
   need (d2 = .bool (getB d2)) <|
   some (DV.bool (getB d2))
  else bif decide (IntKind.i64.wrap ((↑a2.size : Int) + (↑a3.size : Int)) > 300) then (lm K 44 []).bind fun d3 =>
   need (d3 = .bool (getB d3)) <|
   some (DV.bool (getB d3))
  else bif decide ((↑a5.length : Int) > 400) then (lm K 44 []).bind fun d4 =>
   need (d4 = .bool (getB d4)) <|
   some (DV.bool (getB d4))
  else (lm K 50 [R 25 a1, .str a2, .str a3, .int .i64 a4, .sl .no 1 a5]).bind fun d5 =>
  need (d5 = .tup [.sl .no 1 (getL (getT d5 0)), .int .i64 (getI (getT d5 1))]) <|
  (lm K 51 [R 25 a1, .str a2, .str a3, .int .i64 a4, .sl .no 1 a5]).bind fun d6 =>
  need (d6 = .tup [.sl .no 1 (getL (getT d6 0)), .int .i64 (getI (getT d6 1))]) <|
  (lm K 52 [.sl .no 1 (getL (getT d5 0)), .sl .no 1 (getL (getT d6 0))]).bind fun d7 =>
  need (d7 = .bool (getB d7)) <|
  bif getB d7 then (lm K 47 [.int .i64 (getI (getT d5 1))]).bind fun d8 =>
   need (d8 = .int .i64 (getI d8)) <|
   bif getI d8 == getI (getT d6 1) then (lm K 53 [R 25 a1]).bind fun d9 =>
    need (d9 = .sl .no 1 (getL d9)) <|
    (lm K 54 [R 25 a1]).bind fun d10 =>
    need (d10 = .sl .no 1 (getL d10)) <|
    (lm K 52 [.sl .no 1 (getL d9), .sl .no 1 (getL d10)]).bind fun d11 =>
    need (d11 = .bool (getB d11)) <|
    bif getB d11 then (lm K 44 []).bind fun d12 =>
     need (d12 = .bool (getB d12)) <|
     some (DV.bool (getB d12))
    else some (DV.bool false)
   else some (DV.bool false)
  else some (DV.bool false)
theorem t9 {K : Nat} (a1 : DV) (a2 : ByteArray) (a3 : ByteArray) (a4 : Int) (a5 : List DV) {r : DV} (h : T9 K a1 a2 a3 a4 a5 = some r) : lm K 9 [R 25 a1, .str a2, .str a3, .int .i64 a4, .sl .no 1 a5] = some r := fn_run (Eq.trans (by kernel_rfl) h)
/-! 47 47 -/
noncomputable def T47 (K : Nat) (a1 : Int) : Option DV :=
  some (DV.int .i64 a1)
theorem t47 {K : Nat} (a1 : Int) {r : DV} (h : T47 K a1 = some r) : lm K 47 [.int .i64 a1] = some r := fn_run (Eq.trans (by kernel_rfl) h)
end Go.Proofs.Ytmfgdnagmacgdaa.Dv
end
section
/- Trees of questions of functions of the program (printed by a program of this session, wip/dv/sym.txt). No condition. -/
set_option maxRecDepth 100000
set_option linter.unusedVariables false
namespace Go.Proofs.Ytmfgdnagmacgdaa.Dv
/-! 187 187 -/
noncomputable def T187 (K : Nat) (a1 : Int) : Option DV :=
  need ((0 : Int) ≤ a1 ∧ a1 < (18 : Int)) <|
  bif a1 == 0 then some (DV.agg [.int .i64 0, .int .i64 0])
  else bif a1 == 1 then some (DV.agg [.int .i64 2, .int .i64 0])
  else bif a1 == 2 then some (DV.agg [.int .i64 1, .int .i64 0])
  else bif a1 == 3 then some (DV.agg [.int .i64 1, .int .i64 0])
  else bif a1 == 4 then some (DV.agg [.int .i64 0, .int .i64 0])
  else bif a1 == 5 then some (DV.agg [.int .i64 1, .int .i64 1])
  else bif a1 == 6 then some (DV.agg [.int .i64 2, .int .i64 2])
  else bif a1 == 7 then some (DV.agg [.int .i64 2, .int .i64 2])
  else bif a1 == 8 then some (DV.agg [.int .i64 2, .int .i64 2])
  else bif a1 == 9 then some (DV.agg [.int .i64 2, .int .i64 2])
  else bif a1 == 10 then some (DV.agg [.int .i64 1, .int .i64 0])
  else bif a1 == 11 then some (DV.agg [.int .i64 1, .int .i64 0])
  else bif a1 == 12 then some (DV.agg [.int .i64 1, .int .i64 2])
  else bif a1 == 13 then some (DV.agg [.int .i64 1, .int .i64 2])
  else bif a1 == 14 then some (DV.agg [.int .i64 1, .int .i64 2])
  else bif a1 == 15 then some (DV.agg [.int .i64 1, .int .i64 2])
  else bif a1 == 16 then some (DV.agg [.int .i64 1, .int .i64 1])
  else bif a1 == 17 then some (DV.agg [.int .i64 1, .int .i64 1])
  else none
theorem t187 {K : Nat} (a1 : Int) {r : DV} (h : T187 K a1 = some r) : lm K 187 [.int .i64 a1] = some r := fn_run (Eq.trans (by kernel_rfl) h)
/-! 123 123 -/
noncomputable def H123_0 (a5 : DV) (a1 : DV) (a2 : List DV) (a3 : Int) (a4 : Int) (v7 : Int) (v8 : List DV) (v9 : List DV) (v10 : List DV) (v11 : Int) (v12 : Int) (d3 : DV) (v13 : List DV) : St := ⟨[.ptr 0 0] ++ [.undef, .undef] ++ [.ptr 1 0] ++ [.undef, .undef, .undef] ++ [.ptr 2 0, .osl 3 1 ((↑(gL a5 4).length : Int).toNat)] ++ (un 31) ++ [.sl .no 6 (gL a5 4), .int .i64 ((↑(gL a5 4).length : Int)), .int .i64 v7] ++ (un 38), [.box [.sl .no 4 v8, .sl .no 5 v9, .sl .no 6 v10, .int .i64 v11, .int .i64 v12], .box ((R 51 a5).cells), .box ((R 90 d3).cells), .arr 1 v13]⟩
def P123_0 : List Dir := [.c, .r, .l, .r, .r, .r, .r]
noncomputable def hd123_0 (K : Nat) (a5 : DV) (a1 : DV) (a2 : List DV) (a3 : Int) (a4 : Int) (v7 : Int) (v8 : List DV) (v9 : List DV) (v10 : List DV) (v11 : Int) (v12 : Int) (d3 : DV) (v13 : List DV) : Option DV := hdLH Try.prog (C0 K) 123 1 P123_0 (bits 81 7696581394825) 4 (H123_0 a5 a1 a2 a3 a4 v7 v8 v9 v10 v11 v12 d3 v13)
noncomputable def H123_1 (a5 : DV) (a1 : DV) (a2 : List DV) (a3 : Int) (a4 : Int) (v28 : Int) (v20 : List DV) (v21 : List DV) (v22 : List DV) (v23 : Int) (v24 : Int) (d3 : DV) (v29 : Int) (v25 : List DV) : St := ⟨[.ptr 0 0] ++ [.undef, .undef] ++ [.ptr 1 0] ++ [.undef, .undef, .undef] ++ [.ptr 2 0] ++ (un 46) ++ [.osl 3 1 ((↑(gL a5 4).length : Int).toNat), .int .i64 ((↑(↑(gL a5 4).length : Int).toNat : Int)), .int .i64 v28] ++ (un 24), [.box [.sl .no 4 v20, .sl .no 5 v21, .sl .no 6 v22, .int .i64 v23, .int .i64 v24], .box ((R 51 a5).cells), .box [.int .i64 (gI d3 0), .int .i64 v29], .arr 1 v25]⟩
def P123_1 : List Dir := [.c, .r, .l, .r, .r, .r, .r, .r]
noncomputable def hd123_1 (K : Nat) (a5 : DV) (a1 : DV) (a2 : List DV) (a3 : Int) (a4 : Int) (v28 : Int) (v20 : List DV) (v21 : List DV) (v22 : List DV) (v23 : Int) (v24 : Int) (d3 : DV) (v29 : Int) (v25 : List DV) : Option DV := hdLH Try.prog (C0 K) 123 1 P123_1 (bits 81 126100789566374025) 4 (H123_1 a5 a1 a2 a3 a4 v28 v20 v21 v22 v23 v24 d3 v29 v25)
noncomputable def T123 (K : Nat) (a5 : DV) (a1 : DV) (a2 : List DV) (a3 : Int) (a4 : Int) : Option DV :=
  bif gI a5 0 == 4 then (lm K 43 [R 25 a1, .str (gS a5 1), .str (gS a5 2)]).bind fun d14 =>
   need (d14 = .tup [.int .i64 (getI (getT d14 0)), .bool (getB (getT d14 1))]) <|
   bif !getB (getT d14 1) then bif a3 == 0 then some (DV.tup [.int .i64 0, .agg [.sl .no 4 (gL a1 0), .sl .no 5 (gL a1 1), .sl .no 6 a2, .int .i64 61, .int .i64 (gI a5 5)]])
    else some (DV.tup [.int .i64 0, .agg [.sl .no 4 (gL a1 0), .sl .no 5 (gL a1 1), .sl .no 6 a2, .int .i64 a3, .int .i64 a4]])
   else need ((0 : Int) ≤ getI (getT d14 (0 : Nat))) <|
   (a2[(getI (getT d14 0)).toNat]?).bind fun x15 =>
   need (x15 = R 61 x15) <|
   bif gI x15 1 == 1 then some (DV.tup [.int .i64 1, .agg [.sl .no 4 (gL a1 0), .sl .no 5 (gL a1 1), .sl .no 6 a2, .int .i64 a3, .int .i64 a4]])
   else some (DV.tup [.int .i64 2, .agg [.sl .no 4 (gL a1 0), .sl .no 5 (gL a1 1), .sl .no 6 a2, .int .i64 a3, .int .i64 a4]])
  else (lm K 187 [.int .i64 (gI a5 0)]).bind fun d16 =>
  need (d16 = R 90 d16) <|
  need ((↑(gL a5 (4 : Nat)).length : Int) = (↑(gL a5 (4 : Nat)).length : Int) ∧ (0 : Int) ≤ (↑(gL a5 (4 : Nat)).length : Int) ∧ (8 : Int) * (↑(gL a5 (4 : Nat)).length : Int) ≤ (1099511627776 : Int) ∧ (↑(gL a5 (4 : Nat)).length : Int) ≤ (1099511627776 : Int)) <|
  hd123_0 K a5 a1 a2 a3 a4 0 (gL a1 0) (gL a1 1) a2 a3 a4 d16 (List.replicate (↑(gL a5 4).length : Int).toNat (ofVal (Value.int IntKind.i64 0)))
theorem t123 {K : Nat} (a5 : DV) (a1 : DV) (a2 : List DV) (a3 : Int) (a4 : Int) {r : DV} (h : T123 K a5 a1 a2 a3 a4 = some r) : lmH K 123 [.ptr 0 0, R 51 a5] [.box [.sl .no 4 (gL a1 0), .sl .no 5 (gL a1 1), .sl .no 6 a2, .int .i64 a3, .int .i64 a4]] = some r := fnH_run (Eq.trans (by kernel_rfl) h)
noncomputable def L123_0 (K : Nat) (a5 : DV) (a1 : DV) (a2 : List DV) (a3 : Int) (a4 : Int) (v7 : Int) (v8 : List DV) (v9 : List DV) (v10 : List DV) (v11 : Int) (v12 : Int) (d3 : DV) (v13 : List DV) : Option DV :=
  bif decide (v7 < (↑(gL a5 4).length : Int)) then need ((0 : Int) ≤ v7) <|
   ((gL a5 4)[v7.toNat]?).bind fun x31 =>
   need (x31 = R 51 x31) <|
   (lmH K 123 [.ptr 0 0, R 51 x31] [.box [.sl .no 4 v8, .sl .no 5 v9, .sl .no 6 v10, .int .i64 v11, .int .i64 v12]]).bind fun d32 =>
   need (d32 = .tup [.int .i64 (getI (getT d32 0)), .agg [.sl .no 4 (gL (getT d32 1) 0), .sl .no 5 (gL (getT d32 1) 1), .sl .no 6 (gL (getT d32 1) 2), .int .i64 (gI (getT d32 1) 3), .int .i64 (gI (getT d32 1) 4)]]) <|
   need ((0 : Int) ≤ v7 ∧ v7 < (↑(↑(gL a5 (4 : Nat)).length : Int).toNat : Int)) <|
   (v13[v7.toNat]?).bind fun x33 =>
   need ((1 : Nat) ≤ x33.cells.length) <|
   hd123_0 K a5 a1 a2 a3 a4 (IntKind.i64.wrap (v7 + 1)) (gL (getT d32 1) 0) (gL (getT d32 1) 1) (gL (getT d32 1) 2) (gI (getT d32 1) 3) (gI (getT d32 1) 4) d3 (v13.set v7.toNat (DV.int IntKind.i64 (getI (getT d32 0))))
  else hd123_1 K a5 a1 a2 a3 a4 0 v8 v9 v10 v11 v12 d3 (gI d3 1) v13
theorem l123_0 {K : Nat} (a5 : DV) (a1 : DV) (a2 : List DV) (a3 : Int) (a4 : Int) (v7 : Int) (v8 : List DV) (v9 : List DV) (v10 : List DV) (v11 : Int) (v12 : Int) (d3 : DV) (v13 : List DV) {r : DV} (h : L123_0 K a5 a1 a2 a3 a4 v7 v8 v9 v10 v11 v12 d3 v13 = some r) : hd123_0 K a5 a1 a2 a3 a4 v7 v8 v9 v10 v11 v12 d3 v13 = some r := hdH_run (Eq.trans (by kernel_rfl) h)
noncomputable def L123_1 (K : Nat) (a5 : DV) (a1 : DV) (a2 : List DV) (a3 : Int) (a4 : Int) (v28 : Int) (v20 : List DV) (v21 : List DV) (v22 : List DV) (v23 : Int) (v24 : Int) (d3 : DV) (v29 : Int) (v25 : List DV) : Option DV :=
  bif decide (v28 < (↑(↑(gL a5 4).length : Int).toNat : Int)) then need ((0 : Int) ≤ v28 ∧ v28 < (↑(↑(gL a5 (4 : Nat)).length : Int).toNat : Int)) <|
   (v25[v28.toNat]?).bind fun x34 =>
   need (x34 = .int .i64 (getI x34)) <|
   bif v29 == 0 then bif getI x34 != getI x34 then need ((0 : Int) ≤ v28) <|
     ((gL a5 4)[v28.toNat]?).bind fun x35 =>
     need (x35 = R 51 x35) <|
     bif v23 == 0 then hd123_1 K a5 a1 a2 a3 a4 (IntKind.i64.wrap (v28 + 1)) v20 v21 v22 70 (gI x35 5) d3 (getI x34) v25
     else hd123_1 K a5 a1 a2 a3 a4 (IntKind.i64.wrap (v28 + 1)) v20 v21 v22 v23 v24 d3 (getI x34) v25
    else hd123_1 K a5 a1 a2 a3 a4 (IntKind.i64.wrap (v28 + 1)) v20 v21 v22 v23 v24 d3 (getI x34) v25
   else bif getI x34 != v29 then need ((0 : Int) ≤ v28) <|
    ((gL a5 4)[v28.toNat]?).bind fun x36 =>
    need (x36 = R 51 x36) <|
    bif v23 == 0 then hd123_1 K a5 a1 a2 a3 a4 (IntKind.i64.wrap (v28 + 1)) v20 v21 v22 70 (gI x36 5) d3 v29 v25
    else hd123_1 K a5 a1 a2 a3 a4 (IntKind.i64.wrap (v28 + 1)) v20 v21 v22 v23 v24 d3 v29 v25
   else hd123_1 K a5 a1 a2 a3 a4 (IntKind.i64.wrap (v28 + 1)) v20 v21 v22 v23 v24 d3 v29 v25
  else some (DV.tup [.int .i64 (gI d3 0), .agg [.sl .no 4 v20, .sl .no 5 v21, .sl .no 6 v22, .int .i64 v23, .int .i64 v24]])
theorem l123_1 {K : Nat} (a5 : DV) (a1 : DV) (a2 : List DV) (a3 : Int) (a4 : Int) (v28 : Int) (v20 : List DV) (v21 : List DV) (v22 : List DV) (v23 : Int) (v24 : Int) (d3 : DV) (v29 : Int) (v25 : List DV) {r : DV} (h : L123_1 K a5 a1 a2 a3 a4 v28 v20 v21 v22 v23 v24 d3 v29 v25 = some r) : hd123_1 K a5 a1 a2 a3 a4 v28 v20 v21 v22 v23 v24 d3 v29 v25 = some r := hdH_run (Eq.trans (by kernel_rfl) h)
/-! 55 55 -/
noncomputable def T55 (K : Nat) (a1 : DV) (a2 : DV) : Option DV :=
  (lm K 41 [R 51 a2]).bind fun d1 =>
  need (d1 = .int .i64 (getI d1)) <|
  bif getI d1 != 0 then some (DV.tup [.int .i64 0, .int .i64 (getI d1), .int .i64 0])
  else (lm K 102 [R 25 a1]).bind fun d2 =>
  need (d2 = .sl .no 6 (getL d2)) <|
  (lmH K 123 [.ptr 0 0, R 51 a2] [.box [.sl .no 4 (gL a1 0), .sl .no 5 (gL a1 1), .sl .no 6 (getL d2), .int .i64 0, .int .i64 0]]).bind fun d3 =>
  need (d3 = .tup [.int .i64 (getI (getT d3 0)), .agg [.sl .no 4 (gL (getT d3 1) 0), .sl .no 5 (gL (getT d3 1) 1), .sl .no 6 (gL (getT d3 1) 2), .int .i64 (gI (getT d3 1) 3), .int .i64 (gI (getT d3 1) 4)]]) <|
  bif gI (getT d3 1) 3 != 0 then some (DV.tup [.int .i64 0, .int .i64 (gI (getT d3 1) 3), .int .i64 (gI (getT d3 1) 4)])
  else some (DV.tup [.int .i64 (getI (getT d3 0)), .int .i64 0, .int .i64 0])
theorem t55 {K : Nat} (a1 : DV) (a2 : DV) {r : DV} (h : T55 K a1 a2 = some r) : lm K 55 [R 25 a1, R 51 a2] = some r := fn_run (Eq.trans (by kernel_rfl) h)
/-! 194 194 -/
noncomputable def T194 (K : Nat) (a1 : Int) : Option DV :=
  bif a1 == -9223372036854775808 then some (DV.tup [.int .i64 0, .bool false])
  else some (DV.tup [.int .i64 (IntKind.i64.wrap (0 - a1)), .bool true])
theorem t194 {K : Nat} (a1 : Int) {r : DV} (h : T194 K a1 = some r) : lm K 194 [.int .i64 a1] = some r := fn_run (Eq.trans (by kernel_rfl) h)
/-! 195 195 -/
noncomputable def T195 (K : Nat) (a1 : Int) (a2 : Int) : Option DV :=
  (lm K 224 [.int .i64 a1]).bind fun d1 =>
  need (d1 = .int .u64 (getI d1)) <|
  (lm K 224 [.int .i64 a2]).bind fun d2 =>
  need (d2 = .int .u64 (getI d2)) <|
  (lm K 223 [.int .u64 (getI d1), .int .u64 (getI d2)]).bind fun d3 =>
  need (d3 = .tup [.int .u64 (getI (getT d3 0)), .int .u64 (getI (getT d3 1))]) <|
  bif getI (getT d3 0) != 0 then some (DV.tup [.int .i64 0, .bool false])
  else bif decide (getI (getT d3 1) > 9223372036854775808) then some (DV.tup [.int .i64 0, .bool false])
  else bif getI (getT d3 1) == 9223372036854775808 then bif !!decide (a1 < 0) == decide (a2 < 0) then some (DV.tup [.int .i64 0, .bool false])
   else bif !decide (a1 < 0) == decide (a2 < 0) then some (DV.tup [.int .i64 (IntKind.i64.wrap (IntKind.u64.wrap (0 - getI (getT d3 1)))), .bool true])
   else some (DV.tup [.int .i64 (IntKind.i64.wrap (getI (getT d3 1))), .bool true])
  else bif !decide (a1 < 0) == decide (a2 < 0) then some (DV.tup [.int .i64 (IntKind.i64.wrap (IntKind.u64.wrap (0 - getI (getT d3 1)))), .bool true])
  else some (DV.tup [.int .i64 (IntKind.i64.wrap (getI (getT d3 1))), .bool true])
theorem t195 {K : Nat} (a1 : Int) (a2 : Int) {r : DV} (h : T195 K a1 a2 = some r) : lm K 195 [.int .i64 a1, .int .i64 a2] = some r := fn_run (Eq.trans (by kernel_rfl) h)
/-! 196 196 -/
noncomputable def T196 (K : Nat) (a1 : Int) (a2 : Int) : Option DV :=
  bif decide (IntKind.i64.wrap (↑(BitVec.ofInt IntKind.i64.bits (IntKind.i64.wrap (↑(BitVec.ofInt IntKind.i64.bits a1 ^^^ BitVec.ofInt IntKind.i64.bits (IntKind.i64.wrap (a1 + a2))).toNat : Int)) &&& BitVec.ofInt IntKind.i64.bits (IntKind.i64.wrap (↑(BitVec.ofInt IntKind.i64.bits a2 ^^^ BitVec.ofInt IntKind.i64.bits (IntKind.i64.wrap (a1 + a2))).toNat : Int))).toNat : Int) < 0) then some (DV.tup [.int .i64 0, .bool false])
  else some (DV.tup [.int .i64 (IntKind.i64.wrap (a1 + a2)), .bool true])
theorem t196 {K : Nat} (a1 : Int) (a2 : Int) {r : DV} (h : T196 K a1 a2 = some r) : lm K 196 [.int .i64 a1, .int .i64 a2] = some r := fn_run (Eq.trans (by kernel_rfl) h)
/-! 197 197 -/
noncomputable def T197 (K : Nat) (a1 : Int) (a2 : Int) : Option DV :=
  bif decide (IntKind.i64.wrap (↑(BitVec.ofInt IntKind.i64.bits (IntKind.i64.wrap (↑(BitVec.ofInt IntKind.i64.bits a1 ^^^ BitVec.ofInt IntKind.i64.bits a2).toNat : Int)) &&& BitVec.ofInt IntKind.i64.bits (IntKind.i64.wrap (↑(BitVec.ofInt IntKind.i64.bits a1 ^^^ BitVec.ofInt IntKind.i64.bits (IntKind.i64.wrap (a1 - a2))).toNat : Int))).toNat : Int) < 0) then some (DV.tup [.int .i64 0, .bool false])
  else some (DV.tup [.int .i64 (IntKind.i64.wrap (a1 - a2)), .bool true])
theorem t197 {K : Nat} (a1 : Int) (a2 : Int) {r : DV} (h : T197 K a1 a2 = some r) : lm K 197 [.int .i64 a1, .int .i64 a2] = some r := fn_run (Eq.trans (by kernel_rfl) h)
/-! 223 223 -/
noncomputable def T223 (K : Nat) (a1 : Int) (a2 : Int) : Option DV :=
  some (DV.tup [.int .u64 (IntKind.u64.wrap (IntKind.u64.wrap (IntKind.u64.wrap (a1.fdiv (2 ^ min (Int.toNat 32) IntKind.u64.bits) * a2.fdiv (2 ^ min (Int.toNat 32) IntKind.u64.bits)) + (IntKind.u64.wrap (IntKind.u64.wrap (a1.fdiv (2 ^ min (Int.toNat 32) IntKind.u64.bits) * IntKind.u64.wrap (↑(BitVec.ofInt IntKind.u64.bits a2 &&& BitVec.ofInt IntKind.u64.bits 4294967295).toNat : Int)) + (IntKind.u64.wrap (IntKind.u64.wrap (↑(BitVec.ofInt IntKind.u64.bits a1 &&& BitVec.ofInt IntKind.u64.bits 4294967295).toNat : Int) * IntKind.u64.wrap (↑(BitVec.ofInt IntKind.u64.bits a2 &&& BitVec.ofInt IntKind.u64.bits 4294967295).toNat : Int))).fdiv (2 ^ min (Int.toNat 32) IntKind.u64.bits))).fdiv (2 ^ min (Int.toNat 32) IntKind.u64.bits)) + (IntKind.u64.wrap (IntKind.u64.wrap (↑(BitVec.ofInt IntKind.u64.bits (IntKind.u64.wrap (IntKind.u64.wrap (a1.fdiv (2 ^ min (Int.toNat 32) IntKind.u64.bits) * IntKind.u64.wrap (↑(BitVec.ofInt IntKind.u64.bits a2 &&& BitVec.ofInt IntKind.u64.bits 4294967295).toNat : Int)) + (IntKind.u64.wrap (IntKind.u64.wrap (↑(BitVec.ofInt IntKind.u64.bits a1 &&& BitVec.ofInt IntKind.u64.bits 4294967295).toNat : Int) * IntKind.u64.wrap (↑(BitVec.ofInt IntKind.u64.bits a2 &&& BitVec.ofInt IntKind.u64.bits 4294967295).toNat : Int))).fdiv (2 ^ min (Int.toNat 32) IntKind.u64.bits))) &&& BitVec.ofInt IntKind.u64.bits 4294967295).toNat : Int) + IntKind.u64.wrap (IntKind.u64.wrap (↑(BitVec.ofInt IntKind.u64.bits a1 &&& BitVec.ofInt IntKind.u64.bits 4294967295).toNat : Int) * a2.fdiv (2 ^ min (Int.toNat 32) IntKind.u64.bits)))).fdiv (2 ^ min (Int.toNat 32) IntKind.u64.bits))), .int .u64 (IntKind.u64.wrap (a1 * a2))])
theorem t223 {K : Nat} (a1 : Int) (a2 : Int) {r : DV} (h : T223 K a1 a2 = some r) : lm K 223 [.int .u64 a1, .int .u64 a2] = some r := fn_run (Eq.trans (by kernel_rfl) h)
/-! 224 224 -/
noncomputable def T224 (K : Nat) (a1 : Int) : Option DV :=
  bif decide (a1 < 0) then some (DV.int .u64 (IntKind.u64.wrap (0 - IntKind.u64.wrap a1)))
  else some (DV.int .u64 (IntKind.u64.wrap a1))
theorem t224 {K : Nat} (a1 : Int) {r : DV} (h : T224 K a1 = some r) : lm K 224 [.int .i64 a1] = some r := fn_run (Eq.trans (by kernel_rfl) h)
/-! 214 214 -/
noncomputable def T214 (K : Nat) (a1 : Bool) : Option DV :=
  bif a1 then some (DV.int .i64 1)
  else some (DV.int .i64 0)
theorem t214 {K : Nat} (a1 : Bool) {r : DV} (h : T214 K a1 = some r) : lm K 214 [.bool a1] = some r := fn_run (Eq.trans (by kernel_rfl) h)
/-! 217 217 -/
noncomputable def T217 (K : Nat) (a1 : Int) (a2 : Int) (a3 : Int) : Option DV :=
  bif a1 == 8 then (lm K 196 [.int .i64 a2, .int .i64 a3]).bind fun d1 =>
   need (d1 = .tup [.int .i64 (getI (getT d1 0)), .bool (getB (getT d1 1))]) <|
   some (DV.tup [.int .i64 (getI (getT d1 0)), .bool (getB (getT d1 1))])
  else bif a1 == 9 then (lm K 197 [.int .i64 a2, .int .i64 a3]).bind fun d2 =>
   need (d2 = .tup [.int .i64 (getI (getT d2 0)), .bool (getB (getT d2 1))]) <|
   some (DV.tup [.int .i64 (getI (getT d2 0)), .bool (getB (getT d2 1))])
  else bif a1 == 10 then (lm K 214 [.bool (a2 == a3)]).bind fun d3 =>
   need (d3 = .int .i64 (getI d3)) <|
   some (DV.tup [.int .i64 (getI d3), .bool true])
  else bif a1 == 11 then (lm K 214 [.bool (a2 != a3)]).bind fun d4 =>
   need (d4 = .int .i64 (getI d4)) <|
   some (DV.tup [.int .i64 (getI d4), .bool true])
  else bif a1 == 12 then (lm K 214 [.bool (decide (a2 < a3))]).bind fun d5 =>
   need (d5 = .int .i64 (getI d5)) <|
   some (DV.tup [.int .i64 (getI d5), .bool true])
  else bif a1 == 13 then (lm K 214 [.bool (decide (a2 ≤ a3))]).bind fun d6 =>
   need (d6 = .int .i64 (getI d6)) <|
   some (DV.tup [.int .i64 (getI d6), .bool true])
  else bif a1 == 14 then (lm K 214 [.bool (decide (a2 > a3))]).bind fun d7 =>
   need (d7 = .int .i64 (getI d7)) <|
   some (DV.tup [.int .i64 (getI d7), .bool true])
  else (lm K 214 [.bool (decide (a2 ≥ a3))]).bind fun d8 =>
  need (d8 = .int .i64 (getI d8)) <|
  some (DV.tup [.int .i64 (getI d8), .bool true])
theorem t217 {K : Nat} (a1 : Int) (a2 : Int) (a3 : Int) {r : DV} (h : T217 K a1 a2 a3 = some r) : lm K 217 [.int .i64 a1, .int .i64 a2, .int .i64 a3] = some r := fn_run (Eq.trans (by kernel_rfl) h)
/-! 115 115 -/
noncomputable def T115 (K : Nat) (a4 : DV) (a1 : DV) (a2 : List DV) (a3 : Bool) : Option DV :=
  bif gI a4 0 == 1 then some (DV.tup [.int .i64 (gI a4 3), .agg [.sl .no 4 (gL a1 0), .sl .no 5 (gL a1 1), .sl .no 1 a2, .bool a3]])
  else bif gI a4 0 == 2 then some (DV.tup [.int .i64 1, .agg [.sl .no 4 (gL a1 0), .sl .no 5 (gL a1 1), .sl .no 1 a2, .bool a3]])
  else bif gI a4 0 == 3 then some (DV.tup [.int .i64 0, .agg [.sl .no 4 (gL a1 0), .sl .no 5 (gL a1 1), .sl .no 1 a2, .bool a3]])
  else bif gI a4 0 == 4 then (lm K 43 [R 25 a1, .str (gS a4 1), .str (gS a4 2)]).bind fun d1 =>
   need (d1 = .tup [.int .i64 (getI (getT d1 0)), .bool (getB (getT d1 1))]) <|
   need ((0 : Int) ≤ getI (getT d1 (0 : Nat))) <|
   (a2[(getI (getT d1 0)).toNat]?).bind fun x2 =>
   need (x2 = .int .i64 (getI x2)) <|
   some (DV.tup [.int .i64 (getI x2), .agg [.sl .no 4 (gL a1 0), .sl .no 5 (gL a1 1), .sl .no 1 a2, .bool a3]])
  else bif gI a4 0 == 5 then (lmH K 179 [.ptr 0 0, R 51 a4] [.box [.sl .no 4 (gL a1 0), .sl .no 5 (gL a1 1), .sl .no 1 a2, .bool a3]]).bind fun d3 =>
   need (d3 = .tup [.int .i64 (getI (getT d3 0)), .agg [.sl .no 4 (gL (getT d3 1) 0), .sl .no 5 (gL (getT d3 1) 1), .sl .no 1 (gL (getT d3 1) 2), .bool (gB (getT d3 1) 3)]]) <|
   some (DV.tup [.int .i64 (getI (getT d3 0)), .agg [.sl .no 4 (gL (getT d3 1) 0), .sl .no 5 (gL (getT d3 1) 1), .sl .no 1 (gL (getT d3 1) 2), .bool (gB (getT d3 1) 3)]])
  else bif gI a4 0 == 6 then (lmH K 179 [.ptr 0 0, R 51 a4] [.box [.sl .no 4 (gL a1 0), .sl .no 5 (gL a1 1), .sl .no 1 a2, .bool a3]]).bind fun d4 =>
   need (d4 = .tup [.int .i64 (getI (getT d4 0)), .agg [.sl .no 4 (gL (getT d4 1) 0), .sl .no 5 (gL (getT d4 1) 1), .sl .no 1 (gL (getT d4 1) 2), .bool (gB (getT d4 1) 3)]]) <|
   some (DV.tup [.int .i64 (getI (getT d4 0)), .agg [.sl .no 4 (gL (getT d4 1) 0), .sl .no 5 (gL (getT d4 1) 1), .sl .no 1 (gL (getT d4 1) 2), .bool (gB (getT d4 1) 3)]])
  else bif gI a4 0 == 7 then (lmH K 179 [.ptr 0 0, R 51 a4] [.box [.sl .no 4 (gL a1 0), .sl .no 5 (gL a1 1), .sl .no 1 a2, .bool a3]]).bind fun d5 =>
   need (d5 = .tup [.int .i64 (getI (getT d5 0)), .agg [.sl .no 4 (gL (getT d5 1) 0), .sl .no 5 (gL (getT d5 1) 1), .sl .no 1 (gL (getT d5 1) 2), .bool (gB (getT d5 1) 3)]]) <|
   some (DV.tup [.int .i64 (getI (getT d5 0)), .agg [.sl .no 4 (gL (getT d5 1) 0), .sl .no 5 (gL (getT d5 1) 1), .sl .no 1 (gL (getT d5 1) 2), .bool (gB (getT d5 1) 3)]])
  else (lmH K 180 [.ptr 0 0, R 51 a4] [.box [.sl .no 4 (gL a1 0), .sl .no 5 (gL a1 1), .sl .no 1 a2, .bool a3]]).bind fun d6 =>
  need (d6 = .tup [.int .i64 (getI (getT d6 0)), .agg [.sl .no 4 (gL (getT d6 1) 0), .sl .no 5 (gL (getT d6 1) 1), .sl .no 1 (gL (getT d6 1) 2), .bool (gB (getT d6 1) 3)]]) <|
  some (DV.tup [.int .i64 (getI (getT d6 0)), .agg [.sl .no 4 (gL (getT d6 1) 0), .sl .no 5 (gL (getT d6 1) 1), .sl .no 1 (gL (getT d6 1) 2), .bool (gB (getT d6 1) 3)]])
theorem t115 {K : Nat} (a4 : DV) (a1 : DV) (a2 : List DV) (a3 : Bool) {r : DV} (h : T115 K a4 a1 a2 a3 = some r) : lmH K 115 [.ptr 0 0, R 51 a4] [.box [.sl .no 4 (gL a1 0), .sl .no 5 (gL a1 1), .sl .no 1 a2, .bool a3]] = some r := fnH_run (Eq.trans (by kernel_rfl) h)
/-! 179 179 -/
noncomputable def T179 (K : Nat) (a4 : DV) (a1 : DV) (a2 : List DV) (a3 : Bool) : Option DV :=
  need ((0 : Int) ≤ (0 : Int)) <|
  ((gL a4 4)[Int.toNat 0]?).bind fun x1 =>
  need (x1 = R 51 x1) <|
  (lmH K 115 [.ptr 0 0, R 51 x1] [.box [.sl .no 4 (gL a1 0), .sl .no 5 (gL a1 1), .sl .no 1 a2, .bool a3]]).bind fun d2 =>
  need (d2 = .tup [.int .i64 (getI (getT d2 0)), .agg [.sl .no 4 (gL (getT d2 1) 0), .sl .no 5 (gL (getT d2 1) 1), .sl .no 1 (gL (getT d2 1) 2), .bool (gB (getT d2 1) 3)]]) <|
  bif gB (getT d2 1) 3 then some (DV.tup [.int .i64 0, .agg [.sl .no 4 (gL (getT d2 1) 0), .sl .no 5 (gL (getT d2 1) 1), .sl .no 1 (gL (getT d2 1) 2), .bool (gB (getT d2 1) 3)]])
  else bif gI a4 0 == 5 then (lm K 214 [.bool (getI (getT d2 0) == 0)]).bind fun d3 =>
   need (d3 = .int .i64 (getI d3)) <|
   some (DV.tup [.int .i64 (getI d3), .agg [.sl .no 4 (gL (getT d2 1) 0), .sl .no 5 (gL (getT d2 1) 1), .sl .no 1 (gL (getT d2 1) 2), .bool (gB (getT d2 1) 3)]])
  else bif gI a4 0 == 6 then (lm K 194 [.int .i64 (getI (getT d2 0))]).bind fun d4 =>
   need (d4 = .tup [.int .i64 (getI (getT d4 0)), .bool (getB (getT d4 1))]) <|
   bif !getB (getT d4 1) then some (DV.tup [.int .i64 0, .agg [.sl .no 4 (gL (getT d2 1) 0), .sl .no 5 (gL (getT d2 1) 1), .sl .no 1 (gL (getT d2 1) 2), .bool true]])
   else some (DV.tup [.int .i64 (getI (getT d4 0)), .agg [.sl .no 4 (gL (getT d2 1) 0), .sl .no 5 (gL (getT d2 1) 1), .sl .no 1 (gL (getT d2 1) 2), .bool (gB (getT d2 1) 3)]])
  else (lm K 195 [.int .i64 (gI a4 3), .int .i64 (getI (getT d2 0))]).bind fun d5 =>
  need (d5 = .tup [.int .i64 (getI (getT d5 0)), .bool (getB (getT d5 1))]) <|
  bif !getB (getT d5 1) then some (DV.tup [.int .i64 0, .agg [.sl .no 4 (gL (getT d2 1) 0), .sl .no 5 (gL (getT d2 1) 1), .sl .no 1 (gL (getT d2 1) 2), .bool true]])
  else some (DV.tup [.int .i64 (getI (getT d5 0)), .agg [.sl .no 4 (gL (getT d2 1) 0), .sl .no 5 (gL (getT d2 1) 1), .sl .no 1 (gL (getT d2 1) 2), .bool (gB (getT d2 1) 3)]])
theorem t179 {K : Nat} (a4 : DV) (a1 : DV) (a2 : List DV) (a3 : Bool) {r : DV} (h : T179 K a4 a1 a2 a3 = some r) : lmH K 179 [.ptr 0 0, R 51 a4] [.box [.sl .no 4 (gL a1 0), .sl .no 5 (gL a1 1), .sl .no 1 a2, .bool a3]] = some r := fnH_run (Eq.trans (by kernel_rfl) h)
/-! 180 180 -/
noncomputable def T180 (K : Nat) (a4 : DV) (a1 : DV) (a2 : List DV) (a3 : Bool) : Option DV :=
  need ((0 : Int) ≤ (0 : Int)) <|
  ((gL a4 4)[Int.toNat 0]?).bind fun x1 =>
  need (x1 = R 51 x1) <|
  (lmH K 115 [.ptr 0 0, R 51 x1] [.box [.sl .no 4 (gL a1 0), .sl .no 5 (gL a1 1), .sl .no 1 a2, .bool a3]]).bind fun d2 =>
  need (d2 = .tup [.int .i64 (getI (getT d2 0)), .agg [.sl .no 4 (gL (getT d2 1) 0), .sl .no 5 (gL (getT d2 1) 1), .sl .no 1 (gL (getT d2 1) 2), .bool (gB (getT d2 1) 3)]]) <|
  bif gB (getT d2 1) 3 then some (DV.tup [.int .i64 0, .agg [.sl .no 4 (gL (getT d2 1) 0), .sl .no 5 (gL (getT d2 1) 1), .sl .no 1 (gL (getT d2 1) 2), .bool (gB (getT d2 1) 3)]])
  else bif gI a4 0 == 16 then bif getI (getT d2 0) == 0 then some (DV.tup [.int .i64 0, .agg [.sl .no 4 (gL (getT d2 1) 0), .sl .no 5 (gL (getT d2 1) 1), .sl .no 1 (gL (getT d2 1) 2), .bool (gB (getT d2 1) 3)]])
   else bif gI a4 0 == 17 then bif getI (getT d2 0) != 0 then some (DV.tup [.int .i64 1, .agg [.sl .no 4 (gL (getT d2 1) 0), .sl .no 5 (gL (getT d2 1) 1), .sl .no 1 (gL (getT d2 1) 2), .bool (gB (getT d2 1) 3)]])
    else bif gI a4 0 == 16 then need ((0 : Int) ≤ (1 : Int)) <|
     ((gL a4 4)[Int.toNat 1]?).bind fun x3 =>
     need (x3 = R 51 x3) <|
     (lmH K 115 [.ptr 0 0, R 51 x3] [.box [.sl .no 4 (gL (getT d2 1) 0), .sl .no 5 (gL (getT d2 1) 1), .sl .no 1 (gL (getT d2 1) 2), .bool (gB (getT d2 1) 3)]]).bind fun d4 =>
     need (d4 = .tup [.int .i64 (getI (getT d4 0)), .agg [.sl .no 4 (gL (getT d4 1) 0), .sl .no 5 (gL (getT d4 1) 1), .sl .no 1 (gL (getT d4 1) 2), .bool (gB (getT d4 1) 3)]]) <|
     some (DV.tup [.int .i64 (getI (getT d4 0)), .agg [.sl .no 4 (gL (getT d4 1) 0), .sl .no 5 (gL (getT d4 1) 1), .sl .no 1 (gL (getT d4 1) 2), .bool (gB (getT d4 1) 3)]])
    else bif gI a4 0 == 17 then need ((0 : Int) ≤ (1 : Int)) <|
     ((gL a4 4)[Int.toNat 1]?).bind fun x5 =>
     need (x5 = R 51 x5) <|
     (lmH K 115 [.ptr 0 0, R 51 x5] [.box [.sl .no 4 (gL (getT d2 1) 0), .sl .no 5 (gL (getT d2 1) 1), .sl .no 1 (gL (getT d2 1) 2), .bool (gB (getT d2 1) 3)]]).bind fun d6 =>
     need (d6 = .tup [.int .i64 (getI (getT d6 0)), .agg [.sl .no 4 (gL (getT d6 1) 0), .sl .no 5 (gL (getT d6 1) 1), .sl .no 1 (gL (getT d6 1) 2), .bool (gB (getT d6 1) 3)]]) <|
     some (DV.tup [.int .i64 (getI (getT d6 0)), .agg [.sl .no 4 (gL (getT d6 1) 0), .sl .no 5 (gL (getT d6 1) 1), .sl .no 1 (gL (getT d6 1) 2), .bool (gB (getT d6 1) 3)]])
    else need ((0 : Int) ≤ (1 : Int)) <|
    ((gL a4 4)[Int.toNat 1]?).bind fun x7 =>
    need (x7 = R 51 x7) <|
    (lmH K 115 [.ptr 0 0, R 51 x7] [.box [.sl .no 4 (gL (getT d2 1) 0), .sl .no 5 (gL (getT d2 1) 1), .sl .no 1 (gL (getT d2 1) 2), .bool (gB (getT d2 1) 3)]]).bind fun d8 =>
    need (d8 = .tup [.int .i64 (getI (getT d8 0)), .agg [.sl .no 4 (gL (getT d8 1) 0), .sl .no 5 (gL (getT d8 1) 1), .sl .no 1 (gL (getT d8 1) 2), .bool (gB (getT d8 1) 3)]]) <|
    bif gB (getT d8 1) 3 then some (DV.tup [.int .i64 0, .agg [.sl .no 4 (gL (getT d8 1) 0), .sl .no 5 (gL (getT d8 1) 1), .sl .no 1 (gL (getT d8 1) 2), .bool (gB (getT d8 1) 3)]])
    else (lm K 217 [.int .i64 (gI a4 0), .int .i64 (getI (getT d2 0)), .int .i64 (getI (getT d8 0))]).bind fun d9 =>
    need (d9 = .tup [.int .i64 (getI (getT d9 0)), .bool (getB (getT d9 1))]) <|
    bif !getB (getT d9 1) then some (DV.tup [.int .i64 0, .agg [.sl .no 4 (gL (getT d8 1) 0), .sl .no 5 (gL (getT d8 1) 1), .sl .no 1 (gL (getT d8 1) 2), .bool true]])
    else some (DV.tup [.int .i64 (getI (getT d9 0)), .agg [.sl .no 4 (gL (getT d8 1) 0), .sl .no 5 (gL (getT d8 1) 1), .sl .no 1 (gL (getT d8 1) 2), .bool (gB (getT d8 1) 3)]])
   else bif gI a4 0 == 16 then need ((0 : Int) ≤ (1 : Int)) <|
    ((gL a4 4)[Int.toNat 1]?).bind fun x10 =>
    need (x10 = R 51 x10) <|
    (lmH K 115 [.ptr 0 0, R 51 x10] [.box [.sl .no 4 (gL (getT d2 1) 0), .sl .no 5 (gL (getT d2 1) 1), .sl .no 1 (gL (getT d2 1) 2), .bool (gB (getT d2 1) 3)]]).bind fun d11 =>
    need (d11 = .tup [.int .i64 (getI (getT d11 0)), .agg [.sl .no 4 (gL (getT d11 1) 0), .sl .no 5 (gL (getT d11 1) 1), .sl .no 1 (gL (getT d11 1) 2), .bool (gB (getT d11 1) 3)]]) <|
    some (DV.tup [.int .i64 (getI (getT d11 0)), .agg [.sl .no 4 (gL (getT d11 1) 0), .sl .no 5 (gL (getT d11 1) 1), .sl .no 1 (gL (getT d11 1) 2), .bool (gB (getT d11 1) 3)]])
   else bif gI a4 0 == 17 then need ((0 : Int) ≤ (1 : Int)) <|
    ((gL a4 4)[Int.toNat 1]?).bind fun x12 =>
    need (x12 = R 51 x12) <|
    (lmH K 115 [.ptr 0 0, R 51 x12] [.box [.sl .no 4 (gL (getT d2 1) 0), .sl .no 5 (gL (getT d2 1) 1), .sl .no 1 (gL (getT d2 1) 2), .bool (gB (getT d2 1) 3)]]).bind fun d13 =>
    need (d13 = .tup [.int .i64 (getI (getT d13 0)), .agg [.sl .no 4 (gL (getT d13 1) 0), .sl .no 5 (gL (getT d13 1) 1), .sl .no 1 (gL (getT d13 1) 2), .bool (gB (getT d13 1) 3)]]) <|
    some (DV.tup [.int .i64 (getI (getT d13 0)), .agg [.sl .no 4 (gL (getT d13 1) 0), .sl .no 5 (gL (getT d13 1) 1), .sl .no 1 (gL (getT d13 1) 2), .bool (gB (getT d13 1) 3)]])
   else need ((0 : Int) ≤ (1 : Int)) <|
   ((gL a4 4)[Int.toNat 1]?).bind fun x14 =>
   need (x14 = R 51 x14) <|
   (lmH K 115 [.ptr 0 0, R 51 x14] [.box [.sl .no 4 (gL (getT d2 1) 0), .sl .no 5 (gL (getT d2 1) 1), .sl .no 1 (gL (getT d2 1) 2), .bool (gB (getT d2 1) 3)]]).bind fun d15 =>
   need (d15 = .tup [.int .i64 (getI (getT d15 0)), .agg [.sl .no 4 (gL (getT d15 1) 0), .sl .no 5 (gL (getT d15 1) 1), .sl .no 1 (gL (getT d15 1) 2), .bool (gB (getT d15 1) 3)]]) <|
   bif gB (getT d15 1) 3 then some (DV.tup [.int .i64 0, .agg [.sl .no 4 (gL (getT d15 1) 0), .sl .no 5 (gL (getT d15 1) 1), .sl .no 1 (gL (getT d15 1) 2), .bool (gB (getT d15 1) 3)]])
   else (lm K 217 [.int .i64 (gI a4 0), .int .i64 (getI (getT d2 0)), .int .i64 (getI (getT d15 0))]).bind fun d16 =>
   need (d16 = .tup [.int .i64 (getI (getT d16 0)), .bool (getB (getT d16 1))]) <|
   bif !getB (getT d16 1) then some (DV.tup [.int .i64 0, .agg [.sl .no 4 (gL (getT d15 1) 0), .sl .no 5 (gL (getT d15 1) 1), .sl .no 1 (gL (getT d15 1) 2), .bool true]])
   else some (DV.tup [.int .i64 (getI (getT d16 0)), .agg [.sl .no 4 (gL (getT d15 1) 0), .sl .no 5 (gL (getT d15 1) 1), .sl .no 1 (gL (getT d15 1) 2), .bool (gB (getT d15 1) 3)]])
  else bif gI a4 0 == 17 then bif getI (getT d2 0) != 0 then some (DV.tup [.int .i64 1, .agg [.sl .no 4 (gL (getT d2 1) 0), .sl .no 5 (gL (getT d2 1) 1), .sl .no 1 (gL (getT d2 1) 2), .bool (gB (getT d2 1) 3)]])
   else bif gI a4 0 == 16 then need ((0 : Int) ≤ (1 : Int)) <|
    ((gL a4 4)[Int.toNat 1]?).bind fun x17 =>
    need (x17 = R 51 x17) <|
    (lmH K 115 [.ptr 0 0, R 51 x17] [.box [.sl .no 4 (gL (getT d2 1) 0), .sl .no 5 (gL (getT d2 1) 1), .sl .no 1 (gL (getT d2 1) 2), .bool (gB (getT d2 1) 3)]]).bind fun d18 =>
    need (d18 = .tup [.int .i64 (getI (getT d18 0)), .agg [.sl .no 4 (gL (getT d18 1) 0), .sl .no 5 (gL (getT d18 1) 1), .sl .no 1 (gL (getT d18 1) 2), .bool (gB (getT d18 1) 3)]]) <|
    some (DV.tup [.int .i64 (getI (getT d18 0)), .agg [.sl .no 4 (gL (getT d18 1) 0), .sl .no 5 (gL (getT d18 1) 1), .sl .no 1 (gL (getT d18 1) 2), .bool (gB (getT d18 1) 3)]])
   else bif gI a4 0 == 17 then need ((0 : Int) ≤ (1 : Int)) <|
    ((gL a4 4)[Int.toNat 1]?).bind fun x19 =>
    need (x19 = R 51 x19) <|
    (lmH K 115 [.ptr 0 0, R 51 x19] [.box [.sl .no 4 (gL (getT d2 1) 0), .sl .no 5 (gL (getT d2 1) 1), .sl .no 1 (gL (getT d2 1) 2), .bool (gB (getT d2 1) 3)]]).bind fun d20 =>
    need (d20 = .tup [.int .i64 (getI (getT d20 0)), .agg [.sl .no 4 (gL (getT d20 1) 0), .sl .no 5 (gL (getT d20 1) 1), .sl .no 1 (gL (getT d20 1) 2), .bool (gB (getT d20 1) 3)]]) <|
    some (DV.tup [.int .i64 (getI (getT d20 0)), .agg [.sl .no 4 (gL (getT d20 1) 0), .sl .no 5 (gL (getT d20 1) 1), .sl .no 1 (gL (getT d20 1) 2), .bool (gB (getT d20 1) 3)]])
   else need ((0 : Int) ≤ (1 : Int)) <|
   ((gL a4 4)[Int.toNat 1]?).bind fun x21 =>
   need (x21 = R 51 x21) <|
   (lmH K 115 [.ptr 0 0, R 51 x21] [.box [.sl .no 4 (gL (getT d2 1) 0), .sl .no 5 (gL (getT d2 1) 1), .sl .no 1 (gL (getT d2 1) 2), .bool (gB (getT d2 1) 3)]]).bind fun d22 =>
   need (d22 = .tup [.int .i64 (getI (getT d22 0)), .agg [.sl .no 4 (gL (getT d22 1) 0), .sl .no 5 (gL (getT d22 1) 1), .sl .no 1 (gL (getT d22 1) 2), .bool (gB (getT d22 1) 3)]]) <|
   bif gB (getT d22 1) 3 then some (DV.tup [.int .i64 0, .agg [.sl .no 4 (gL (getT d22 1) 0), .sl .no 5 (gL (getT d22 1) 1), .sl .no 1 (gL (getT d22 1) 2), .bool (gB (getT d22 1) 3)]])
   else (lm K 217 [.int .i64 (gI a4 0), .int .i64 (getI (getT d2 0)), .int .i64 (getI (getT d22 0))]).bind fun d23 =>
   need (d23 = .tup [.int .i64 (getI (getT d23 0)), .bool (getB (getT d23 1))]) <|
   bif !getB (getT d23 1) then some (DV.tup [.int .i64 0, .agg [.sl .no 4 (gL (getT d22 1) 0), .sl .no 5 (gL (getT d22 1) 1), .sl .no 1 (gL (getT d22 1) 2), .bool true]])
   else some (DV.tup [.int .i64 (getI (getT d23 0)), .agg [.sl .no 4 (gL (getT d22 1) 0), .sl .no 5 (gL (getT d22 1) 1), .sl .no 1 (gL (getT d22 1) 2), .bool (gB (getT d22 1) 3)]])
  else bif gI a4 0 == 16 then need ((0 : Int) ≤ (1 : Int)) <|
   ((gL a4 4)[Int.toNat 1]?).bind fun x24 =>
   need (x24 = R 51 x24) <|
   (lmH K 115 [.ptr 0 0, R 51 x24] [.box [.sl .no 4 (gL (getT d2 1) 0), .sl .no 5 (gL (getT d2 1) 1), .sl .no 1 (gL (getT d2 1) 2), .bool (gB (getT d2 1) 3)]]).bind fun d25 =>
   need (d25 = .tup [.int .i64 (getI (getT d25 0)), .agg [.sl .no 4 (gL (getT d25 1) 0), .sl .no 5 (gL (getT d25 1) 1), .sl .no 1 (gL (getT d25 1) 2), .bool (gB (getT d25 1) 3)]]) <|
   some (DV.tup [.int .i64 (getI (getT d25 0)), .agg [.sl .no 4 (gL (getT d25 1) 0), .sl .no 5 (gL (getT d25 1) 1), .sl .no 1 (gL (getT d25 1) 2), .bool (gB (getT d25 1) 3)]])
  else bif gI a4 0 == 17 then need ((0 : Int) ≤ (1 : Int)) <|
   ((gL a4 4)[Int.toNat 1]?).bind fun x26 =>
   need (x26 = R 51 x26) <|
   (lmH K 115 [.ptr 0 0, R 51 x26] [.box [.sl .no 4 (gL (getT d2 1) 0), .sl .no 5 (gL (getT d2 1) 1), .sl .no 1 (gL (getT d2 1) 2), .bool (gB (getT d2 1) 3)]]).bind fun d27 =>
   need (d27 = .tup [.int .i64 (getI (getT d27 0)), .agg [.sl .no 4 (gL (getT d27 1) 0), .sl .no 5 (gL (getT d27 1) 1), .sl .no 1 (gL (getT d27 1) 2), .bool (gB (getT d27 1) 3)]]) <|
   some (DV.tup [.int .i64 (getI (getT d27 0)), .agg [.sl .no 4 (gL (getT d27 1) 0), .sl .no 5 (gL (getT d27 1) 1), .sl .no 1 (gL (getT d27 1) 2), .bool (gB (getT d27 1) 3)]])
  else need ((0 : Int) ≤ (1 : Int)) <|
  ((gL a4 4)[Int.toNat 1]?).bind fun x28 =>
  need (x28 = R 51 x28) <|
  (lmH K 115 [.ptr 0 0, R 51 x28] [.box [.sl .no 4 (gL (getT d2 1) 0), .sl .no 5 (gL (getT d2 1) 1), .sl .no 1 (gL (getT d2 1) 2), .bool (gB (getT d2 1) 3)]]).bind fun d29 =>
  need (d29 = .tup [.int .i64 (getI (getT d29 0)), .agg [.sl .no 4 (gL (getT d29 1) 0), .sl .no 5 (gL (getT d29 1) 1), .sl .no 1 (gL (getT d29 1) 2), .bool (gB (getT d29 1) 3)]]) <|
  bif gB (getT d29 1) 3 then some (DV.tup [.int .i64 0, .agg [.sl .no 4 (gL (getT d29 1) 0), .sl .no 5 (gL (getT d29 1) 1), .sl .no 1 (gL (getT d29 1) 2), .bool (gB (getT d29 1) 3)]])
  else (lm K 217 [.int .i64 (gI a4 0), .int .i64 (getI (getT d2 0)), .int .i64 (getI (getT d29 0))]).bind fun d30 =>
  need (d30 = .tup [.int .i64 (getI (getT d30 0)), .bool (getB (getT d30 1))]) <|
  bif !getB (getT d30 1) then some (DV.tup [.int .i64 0, .agg [.sl .no 4 (gL (getT d29 1) 0), .sl .no 5 (gL (getT d29 1) 1), .sl .no 1 (gL (getT d29 1) 2), .bool true]])
  else some (DV.tup [.int .i64 (getI (getT d30 0)), .agg [.sl .no 4 (gL (getT d29 1) 0), .sl .no 5 (gL (getT d29 1) 1), .sl .no 1 (gL (getT d29 1) 2), .bool (gB (getT d29 1) 3)]])
theorem t180 {K : Nat} (a4 : DV) (a1 : DV) (a2 : List DV) (a3 : Bool) {r : DV} (h : T180 K a4 a1 a2 a3 = some r) : lmH K 180 [.ptr 0 0, R 51 a4] [.box [.sl .no 4 (gL a1 0), .sl .no 5 (gL a1 1), .sl .no 1 a2, .bool a3]] = some r := fnH_run (Eq.trans (by kernel_rfl) h)
/-! 45 45 -/
noncomputable def T45 (K : Nat) (a1 : DV) (a2 : DV) (a3 : List DV) : Option DV :=
  (lm K 55 [R 25 a1, R 51 a2]).bind fun d1 =>
  need (d1 = .tup [.int .i64 (getI (getT d1 0)), .int .i64 (getI (getT d1 1)), .int .i64 (getI (getT d1 2))]) <|
  bif getI (getT d1 1) != 0 then some (DV.tup [.int .i64 0, .int .i64 (getI (getT d1 1))])
  else (lm K 102 [R 25 a1]).bind fun d2 =>
  need (d2 = .sl .no 6 (getL d2)) <|
  bif (↑a3.length : Int) != (↑(getL d2).length : Int) then some (DV.tup [.int .i64 0, .int .i64 2])
  else (lmH K 115 [.ptr 0 0, R 51 a2] [.box [.sl .no 4 (gL a1 0), .sl .no 5 (gL a1 1), .sl .no 1 a3, .bool false]]).bind fun d3 =>
  need (d3 = .tup [.int .i64 (getI (getT d3 0)), .agg [.sl .no 4 (gL (getT d3 1) 0), .sl .no 5 (gL (getT d3 1) 1), .sl .no 1 (gL (getT d3 1) 2), .bool (gB (getT d3 1) 3)]]) <|
  bif gB (getT d3 1) 3 then some (DV.tup [.int .i64 0, .int .i64 110])
  else some (DV.tup [.int .i64 (getI (getT d3 0)), .int .i64 0])
theorem t45 {K : Nat} (a1 : DV) (a2 : DV) (a3 : List DV) {r : DV} (h : T45 K a1 a2 a3 = some r) : lm K 45 [R 25 a1, R 51 a2, .sl .no 1 a3] = some r := fn_run (Eq.trans (by kernel_rfl) h)
/-! 48 48 -/
noncomputable def T48 (K : Nat) (a1 : DV) (a2 : DV) (a3 : List DV) : Option DV :=
  (lm K 45 [R 25 a1, R 51 a2, .sl .no 1 a3]).bind fun d1 =>
  need (d1 = .tup [.int .i64 (getI (getT d1 0)), .int .i64 (getI (getT d1 1))]) <|
  bif getI (getT d1 1) == 0 then some (DV.bool (getI (getT d1 0) != 0))
  else some (DV.bool false)
theorem t48 {K : Nat} (a1 : DV) (a2 : DV) (a3 : List DV) {r : DV} (h : T48 K a1 a2 a3 = some r) : lm K 48 [R 25 a1, R 51 a2, .sl .no 1 a3] = some r := fn_run (Eq.trans (by kernel_rfl) h)
end Go.Proofs.Ytmfgdnagmacgdaa.Dv
end
section
/- Trees of questions of functions of the program (printed by a program of this session, wip/dv/sym.txt). No condition. -/
set_option maxRecDepth 100000
set_option linter.unusedVariables false
namespace Go.Proofs.Ytmfgdnagmacgdaa.Dv
/-! 181 181 -/
noncomputable def H181_0 (a1 : DV) (a2 : DV) (d4 : DV) (v7 : List DV) (v8 : Int) (z9 : Nat) (v10 : Nat) : St := ⟨[.undef, .undef] ++ [.ptr 0 0, .ptr 1 0] ++ (un 5) ++ [.int .i64 (getI d4), .sl (.tok 2) 1 v7, .int .i64 v8] ++ (un 82), [.box ((R 25 a1).cells), .box ((R 51 a2).cells), .tok z9 v10]⟩
def P181_0 : List Dir := [.c, .r, .l, .r, .r, .r, .r]
noncomputable def hd181_0 (K : Nat) (a1 : DV) (a2 : DV) (d4 : DV) (v7 : List DV) (v8 : Int) (z9 : Nat) (v10 : Nat) : Option DV := hdL Try.prog (C0 K) 181 P181_0 (bits 94 3596) 3 (H181_0 a1 a2 d4 v7 v8 z9 v10)
noncomputable def H181_1 (a1 : DV) (a2 : DV) (d4 : DV) (v17 : List DV) (v23 : Int) (z18 : Nat) (v19 : Nat) : St := ⟨[.undef, .undef, .undef] ++ [.ptr 1 0] ++ (un 5) ++ [.int .i64 (getI d4), .sl (.tok 2) 1 v17] ++ (un 4) ++ [.int .i64 v23] ++ (un 78), [.box ((R 25 a1).cells), .box ((R 51 a2).cells), .tok z18 v19]⟩
def P181_1 : List Dir := [.c, .r, .l, .r, .r, .r, .r, .r]
noncomputable def hd181_1 (K : Nat) (a1 : DV) (a2 : DV) (d4 : DV) (v17 : List DV) (v23 : Int) (z18 : Nat) (v19 : Nat) : Option DV := hdL Try.prog (C0 K) 181 P181_1 (bits 94 34312) 3 (H181_1 a1 a2 d4 v17 v23 z18 v19)
noncomputable def T181 (K : Nat) (a1 : DV) (a2 : DV) : Option DV :=
  bif gI a2 0 == 4 then (lm K 120 [R 25 a1, .str (gS a2 1), .str (gS a2 2)]).bind fun d11 =>
   need (d11 = .tup [.int .i64 (getI (getT d11 0)), .bool (getB (getT d11 1))]) <|
   bif !getB (getT d11 1) then some (DV.tup [.int .i64 0, .int .i64 61, .int .i64 (gI a2 5)])
   else (lm K 56 [R 25 a1]).bind fun d12 =>
   need (d12 = .sl .no 6 (getL d12)) <|
   need ((0 : Int) ≤ getI (getT d11 (0 : Nat))) <|
   ((getL d12)[(getI (getT d11 0)).toNat]?).bind fun x13 =>
   need (x13 = R 61 x13) <|
   bif gI x13 1 == 1 then some (DV.tup [.int .i64 1, .int .i64 0, .int .i64 0])
   else some (DV.tup [.int .i64 2, .int .i64 0, .int .i64 0])
  else (lm K 218 [.int .i64 (gI a2 0)]).bind fun d14 =>
  need (d14 = .int .i64 (getI d14)) <|
  hd181_0 K a1 a2 d14 [] 0 0 0
theorem t181 {K : Nat} (a1 : DV) (a2 : DV) {r : DV} (h : T181 K a1 a2 = some r) : lm K 181 [R 25 a1, R 51 a2] = some r := fn_run (Eq.trans (by kernel_rfl) h)
noncomputable def L181_0 (K : Nat) (a1 : DV) (a2 : DV) (d4 : DV) (v7 : List DV) (v8 : Int) (z9 : Nat) (v10 : Nat) : Option DV :=
  bif decide (v8 < (↑(gL a2 4).length : Int)) then need ((0 : Int) ≤ v8) <|
   ((gL a2 4)[v8.toNat]?).bind fun x27 =>
   need (x27 = R 51 x27) <|
   (lm K 181 [R 25 a1, R 51 x27]).bind fun d28 =>
   need (d28 = .tup [.int .i64 (getI (getT d28 0)), .int .i64 (getI (getT d28 1)), .int .i64 (getI (getT d28 2))]) <|
   bif getI (getT d28 1) != 0 then some (DV.tup [.int .i64 0, .int .i64 (getI (getT d28 1)), .int .i64 (getI (getT d28 2))])
   else need ((v7.length + [DV.int IntKind.i64 (getI (getT d28 (0 : Nat)))].length) * (8 : Nat) ≤ (1099511627776 : Nat) ∧ v7.length = v10 ∧ ((1 : Nat) = (1 : Nat) ∧ z9 = (1 : Nat) ∨ v7 = [] ∧ z9 = (0 : Nat))) <|
   hd181_0 K a1 a2 d4 (v7 ++ [DV.int IntKind.i64 (getI (getT d28 0))]) (IntKind.i64.wrap (v8 + 1)) 1 (v7.length + [DV.int IntKind.i64 (getI (getT d28 0))].length)
  else hd181_1 K a1 a2 d4 v7 0 z9 v10
theorem l181_0 {K : Nat} (a1 : DV) (a2 : DV) (d4 : DV) (v7 : List DV) (v8 : Int) (z9 : Nat) (v10 : Nat) {r : DV} (h : L181_0 K a1 a2 d4 v7 v8 z9 v10 = some r) : hd181_0 K a1 a2 d4 v7 v8 z9 v10 = some r := hd_run (Eq.trans (by kernel_rfl) h)
noncomputable def L181_1 (K : Nat) (a1 : DV) (a2 : DV) (d4 : DV) (v17 : List DV) (v23 : Int) (z18 : Nat) (v19 : Nat) : Option DV :=
  bif decide (v23 < (↑v17.length : Int)) then bif getI d4 == 0 then need ((0 : Int) ≤ (0 : Int)) <|
    (v17[Int.toNat 0]?).bind fun x29 =>
    need (x29 = .int .i64 (getI x29)) <|
    need ((0 : Int) ≤ v23) <|
    (v17[v23.toNat]?).bind fun x30 =>
    need (x30 = .int .i64 (getI x30)) <|
    bif getI x30 != getI x29 then need ((0 : Int) ≤ v23) <|
     ((gL a2 4)[v23.toNat]?).bind fun x31 =>
     need (x31 = R 51 x31) <|
     some (DV.tup [.int .i64 0, .int .i64 70, .int .i64 (gI x31 5)])
    else hd181_1 K a1 a2 x29 v17 (IntKind.i64.wrap (v23 + 1)) z18 v19
   else need ((0 : Int) ≤ v23) <|
   (v17[v23.toNat]?).bind fun x32 =>
   need (x32 = .int .i64 (getI x32)) <|
   bif getI x32 != getI d4 then need ((0 : Int) ≤ v23) <|
    ((gL a2 4)[v23.toNat]?).bind fun x33 =>
    need (x33 = R 51 x33) <|
    some (DV.tup [.int .i64 0, .int .i64 70, .int .i64 (gI x33 5)])
   else hd181_1 K a1 a2 d4 v17 (IntKind.i64.wrap (v23 + 1)) z18 v19
  else (lm K 219 [.int .i64 (gI a2 0)]).bind fun d34 =>
  need (d34 = .int .i64 (getI d34)) <|
  some (DV.tup [.int .i64 (getI d34), .int .i64 0, .int .i64 0])
theorem l181_1 {K : Nat} (a1 : DV) (a2 : DV) (d4 : DV) (v17 : List DV) (v23 : Int) (z18 : Nat) (v19 : Nat) {r : DV} (h : L181_1 K a1 a2 d4 v17 v23 z18 v19 = some r) : hd181_1 K a1 a2 d4 v17 v23 z18 v19 = some r := hd_run (Eq.trans (by kernel_rfl) h)
/-! 116 116 -/
noncomputable def T116 (K : Nat) (a1 : DV) (a2 : DV) : Option DV :=
  (lm K 158 [R 51 a2]).bind fun d1 =>
  need (d1 = .bool (getB d1)) <|
  bif !getB d1 then some (DV.tup [.int .i64 0, .int .i64 20, .int .i64 0])
  else (lm K 181 [R 25 a1, R 51 a2]).bind fun d2 =>
  need (d2 = .tup [.int .i64 (getI (getT d2 0)), .int .i64 (getI (getT d2 1)), .int .i64 (getI (getT d2 2))]) <|
  some (DV.tup [.int .i64 (getI (getT d2 0)), .int .i64 (getI (getT d2 1)), .int .i64 (getI (getT d2 2))])
theorem t116 {K : Nat} (a1 : DV) (a2 : DV) {r : DV} (h : T116 K a1 a2 = some r) : lm K 116 [R 25 a1, R 51 a2] = some r := fn_run (Eq.trans (by kernel_rfl) h)
/-! 117 117 -/
noncomputable def T117 (K : Nat) (a1 : DV) (a2 : DV) (a3 : List DV) : Option DV :=
  bif gI a2 0 == 1 then some (DV.tup [.int .i64 (gI a2 3), .bool true])
  else bif gI a2 0 == 2 then some (DV.tup [.int .i64 1, .bool true])
  else bif gI a2 0 == 3 then some (DV.tup [.int .i64 0, .bool true])
  else bif gI a2 0 == 4 then (lm K 120 [R 25 a1, .str (gS a2 1), .str (gS a2 2)]).bind fun d1 =>
   need (d1 = .tup [.int .i64 (getI (getT d1 0)), .bool (getB (getT d1 1))]) <|
   need ((0 : Int) ≤ getI (getT d1 (0 : Nat))) <|
   (a3[(getI (getT d1 0)).toNat]?).bind fun x2 =>
   need (x2 = .int .i64 (getI x2)) <|
   some (DV.tup [.int .i64 (getI x2), .bool true])
  else need ((0 : Int) ≤ (0 : Int)) <|
  ((gL a2 4)[Int.toNat 0]?).bind fun x3 =>
  need (x3 = R 51 x3) <|
  (lm K 117 [R 25 a1, R 51 x3, .sl .no 1 a3]).bind fun d4 =>
  need (d4 = .tup [.int .i64 (getI (getT d4 0)), .bool (getB (getT d4 1))]) <|
  bif !getB (getT d4 1) then some (DV.tup [.int .i64 0, .bool false])
  else bif gI a2 0 == 5 then (lm K 182 [.bool (getI (getT d4 0) == 0)]).bind fun d5 =>
   need (d5 = .int .i64 (getI d5)) <|
   some (DV.tup [.int .i64 (getI d5), .bool true])
  else bif gI a2 0 == 6 then (lm K 183 [.int .i64 (getI (getT d4 0))]).bind fun d6 =>
   need (d6 = .tup [.int .i64 (getI (getT d6 0)), .bool (getB (getT d6 1))]) <|
   some (DV.tup [.int .i64 (getI (getT d6 0)), .bool (getB (getT d6 1))])
  else bif gI a2 0 == 7 then (lm K 184 [.int .i64 (gI a2 3), .int .i64 (getI (getT d4 0))]).bind fun d7 =>
   need (d7 = .tup [.int .i64 (getI (getT d7 0)), .bool (getB (getT d7 1))]) <|
   some (DV.tup [.int .i64 (getI (getT d7 0)), .bool (getB (getT d7 1))])
  else bif gI a2 0 == 16 then bif getI (getT d4 0) == 0 then (lm K 182 [.bool (gI a2 0 == 17)]).bind fun d8 =>
    need (d8 = .int .i64 (getI d8)) <|
    some (DV.tup [.int .i64 (getI d8), .bool true])
   else bif gI a2 0 == 17 then bif getI (getT d4 0) != 0 then (lm K 182 [.bool (gI a2 0 == 17)]).bind fun d9 =>
     need (d9 = .int .i64 (getI d9)) <|
     some (DV.tup [.int .i64 (getI d9), .bool true])
    else need ((0 : Int) ≤ (1 : Int)) <|
    ((gL a2 4)[Int.toNat 1]?).bind fun x10 =>
    need (x10 = R 51 x10) <|
    (lm K 117 [R 25 a1, R 51 x10, .sl .no 1 a3]).bind fun d11 =>
    need (d11 = .tup [.int .i64 (getI (getT d11 0)), .bool (getB (getT d11 1))]) <|
    bif !getB (getT d11 1) then some (DV.tup [.int .i64 0, .bool false])
    else bif gI a2 0 == 16 then some (DV.tup [.int .i64 (getI (getT d11 0)), .bool true])
    else bif gI a2 0 == 17 then some (DV.tup [.int .i64 (getI (getT d11 0)), .bool true])
    else (lm K 185 [.int .i64 (gI a2 0), .int .i64 (getI (getT d4 0)), .int .i64 (getI (getT d11 0))]).bind fun d12 =>
    need (d12 = .tup [.int .i64 (getI (getT d12 0)), .bool (getB (getT d12 1))]) <|
    some (DV.tup [.int .i64 (getI (getT d12 0)), .bool (getB (getT d12 1))])
   else need ((0 : Int) ≤ (1 : Int)) <|
   ((gL a2 4)[Int.toNat 1]?).bind fun x13 =>
   need (x13 = R 51 x13) <|
   (lm K 117 [R 25 a1, R 51 x13, .sl .no 1 a3]).bind fun d14 =>
   need (d14 = .tup [.int .i64 (getI (getT d14 0)), .bool (getB (getT d14 1))]) <|
   bif !getB (getT d14 1) then some (DV.tup [.int .i64 0, .bool false])
   else bif gI a2 0 == 16 then some (DV.tup [.int .i64 (getI (getT d14 0)), .bool true])
   else bif gI a2 0 == 17 then some (DV.tup [.int .i64 (getI (getT d14 0)), .bool true])
   else (lm K 185 [.int .i64 (gI a2 0), .int .i64 (getI (getT d4 0)), .int .i64 (getI (getT d14 0))]).bind fun d15 =>
   need (d15 = .tup [.int .i64 (getI (getT d15 0)), .bool (getB (getT d15 1))]) <|
   some (DV.tup [.int .i64 (getI (getT d15 0)), .bool (getB (getT d15 1))])
  else bif gI a2 0 == 17 then bif getI (getT d4 0) != 0 then (lm K 182 [.bool (gI a2 0 == 17)]).bind fun d16 =>
    need (d16 = .int .i64 (getI d16)) <|
    some (DV.tup [.int .i64 (getI d16), .bool true])
   else need ((0 : Int) ≤ (1 : Int)) <|
   ((gL a2 4)[Int.toNat 1]?).bind fun x17 =>
   need (x17 = R 51 x17) <|
   (lm K 117 [R 25 a1, R 51 x17, .sl .no 1 a3]).bind fun d18 =>
   need (d18 = .tup [.int .i64 (getI (getT d18 0)), .bool (getB (getT d18 1))]) <|
   bif !getB (getT d18 1) then some (DV.tup [.int .i64 0, .bool false])
   else bif gI a2 0 == 16 then some (DV.tup [.int .i64 (getI (getT d18 0)), .bool true])
   else bif gI a2 0 == 17 then some (DV.tup [.int .i64 (getI (getT d18 0)), .bool true])
   else (lm K 185 [.int .i64 (gI a2 0), .int .i64 (getI (getT d4 0)), .int .i64 (getI (getT d18 0))]).bind fun d19 =>
   need (d19 = .tup [.int .i64 (getI (getT d19 0)), .bool (getB (getT d19 1))]) <|
   some (DV.tup [.int .i64 (getI (getT d19 0)), .bool (getB (getT d19 1))])
  else need ((0 : Int) ≤ (1 : Int)) <|
  ((gL a2 4)[Int.toNat 1]?).bind fun x20 =>
  need (x20 = R 51 x20) <|
  (lm K 117 [R 25 a1, R 51 x20, .sl .no 1 a3]).bind fun d21 =>
  need (d21 = .tup [.int .i64 (getI (getT d21 0)), .bool (getB (getT d21 1))]) <|
  bif !getB (getT d21 1) then some (DV.tup [.int .i64 0, .bool false])
  else bif gI a2 0 == 16 then some (DV.tup [.int .i64 (getI (getT d21 0)), .bool true])
  else bif gI a2 0 == 17 then some (DV.tup [.int .i64 (getI (getT d21 0)), .bool true])
  else (lm K 185 [.int .i64 (gI a2 0), .int .i64 (getI (getT d4 0)), .int .i64 (getI (getT d21 0))]).bind fun d22 =>
  need (d22 = .tup [.int .i64 (getI (getT d22 0)), .bool (getB (getT d22 1))]) <|
  some (DV.tup [.int .i64 (getI (getT d22 0)), .bool (getB (getT d22 1))])
theorem t117 {K : Nat} (a1 : DV) (a2 : DV) (a3 : List DV) {r : DV} (h : T117 K a1 a2 a3 = some r) : lm K 117 [R 25 a1, R 51 a2, .sl .no 1 a3] = some r := fn_run (Eq.trans (by kernel_rfl) h)
/-! 46 46 -/
noncomputable def T46 (K : Nat) (a1 : DV) (a2 : DV) (a3 : List DV) : Option DV :=
  (lm K 116 [R 25 a1, R 51 a2]).bind fun d1 =>
  need (d1 = .tup [.int .i64 (getI (getT d1 0)), .int .i64 (getI (getT d1 1)), .int .i64 (getI (getT d1 2))]) <|
  bif getI (getT d1 1) != 0 then some (DV.tup [.int .i64 0, .int .i64 (getI (getT d1 1))])
  else (lm K 56 [R 25 a1]).bind fun d2 =>
  need (d2 = .sl .no 6 (getL d2)) <|
  bif (↑a3.length : Int) != (↑(getL d2).length : Int) then some (DV.tup [.int .i64 0, .int .i64 2])
  else (lm K 117 [R 25 a1, R 51 a2, .sl .no 1 a3]).bind fun d3 =>
  need (d3 = .tup [.int .i64 (getI (getT d3 0)), .bool (getB (getT d3 1))]) <|
  bif !getB (getT d3 1) then some (DV.tup [.int .i64 0, .int .i64 110])
  else some (DV.tup [.int .i64 (getI (getT d3 0)), .int .i64 0])
theorem t46 {K : Nat} (a1 : DV) (a2 : DV) (a3 : List DV) {r : DV} (h : T46 K a1 a2 a3 = some r) : lm K 46 [R 25 a1, R 51 a2, .sl .no 1 a3] = some r := fn_run (Eq.trans (by kernel_rfl) h)
/-! 49 49 -/
noncomputable def T49 (K : Nat) (a1 : DV) (a2 : DV) (a3 : List DV) : Option DV :=
  (lm K 46 [R 25 a1, R 51 a2, .sl .no 1 a3]).bind fun d1 =>
  need (d1 = .tup [.int .i64 (getI (getT d1 0)), .int .i64 (getI (getT d1 1))]) <|
  bif getI (getT d1 1) == 0 then some (DV.bool (getI (getT d1 0) != 0))
  else some (DV.bool false)
theorem t49 {K : Nat} (a1 : DV) (a2 : DV) (a3 : List DV) {r : DV} (h : T49 K a1 a2 a3 = some r) : lm K 49 [R 25 a1, R 51 a2, .sl .no 1 a3] = some r := fn_run (Eq.trans (by kernel_rfl) h)
/-! 182 182 -/
noncomputable def T182 (K : Nat) (a1 : Bool) : Option DV :=
  bif a1 then some (DV.int .i64 1)
  else some (DV.int .i64 0)
theorem t182 {K : Nat} (a1 : Bool) {r : DV} (h : T182 K a1 = some r) : lm K 182 [.bool a1] = some r := fn_run (Eq.trans (by kernel_rfl) h)
/-! 183 183 -/
noncomputable def T183 (K : Nat) (a1 : Int) : Option DV :=
  bif a1 == -9223372036854775808 then some (DV.tup [.int .i64 0, .bool false])
  else some (DV.tup [.int .i64 (IntKind.i64.wrap (0 - a1)), .bool true])
theorem t183 {K : Nat} (a1 : Int) {r : DV} (h : T183 K a1 = some r) : lm K 183 [.int .i64 a1] = some r := fn_run (Eq.trans (by kernel_rfl) h)
/-! 184 184 -/
noncomputable def T184 (K : Nat) (a1 : Int) (a2 : Int) : Option DV :=
  (lm K 220 [.int .i64 a1]).bind fun d1 =>
  need (d1 = .int .u64 (getI d1)) <|
  (lm K 220 [.int .i64 a2]).bind fun d2 =>
  need (d2 = .int .u64 (getI d2)) <|
  bif (getI d1).fdiv (2 ^ min (Int.toNat 32) IntKind.u64.bits) != 0 then bif (getI d2).fdiv (2 ^ min (Int.toNat 32) IntKind.u64.bits) != 0 then some (DV.tup [.int .i64 0, .bool false])
   else bif decide (IntKind.u64.wrap (IntKind.u64.wrap ((getI d1).fdiv (2 ^ min (Int.toNat 32) IntKind.u64.bits) * IntKind.u64.wrap (↑(BitVec.ofInt IntKind.u64.bits (getI d2) &&& BitVec.ofInt IntKind.u64.bits 4294967295).toNat : Int)) + IntKind.u64.wrap ((getI d2).fdiv (2 ^ min (Int.toNat 32) IntKind.u64.bits) * IntKind.u64.wrap (↑(BitVec.ofInt IntKind.u64.bits (getI d1) &&& BitVec.ofInt IntKind.u64.bits 4294967295).toNat : Int))) ≥ 4294967296) then some (DV.tup [.int .i64 0, .bool false])
   else bif decide (IntKind.u64.wrap (IntKind.u64.wrap (IntKind.u64.wrap (IntKind.u64.wrap ((getI d1).fdiv (2 ^ min (Int.toNat 32) IntKind.u64.bits) * IntKind.u64.wrap (↑(BitVec.ofInt IntKind.u64.bits (getI d2) &&& BitVec.ofInt IntKind.u64.bits 4294967295).toNat : Int)) + IntKind.u64.wrap ((getI d2).fdiv (2 ^ min (Int.toNat 32) IntKind.u64.bits) * IntKind.u64.wrap (↑(BitVec.ofInt IntKind.u64.bits (getI d1) &&& BitVec.ofInt IntKind.u64.bits 4294967295).toNat : Int))) * 2 ^ min (Int.toNat 32) IntKind.u64.bits) + IntKind.u64.wrap (IntKind.u64.wrap (↑(BitVec.ofInt IntKind.u64.bits (getI d1) &&& BitVec.ofInt IntKind.u64.bits 4294967295).toNat : Int) * IntKind.u64.wrap (↑(BitVec.ofInt IntKind.u64.bits (getI d2) &&& BitVec.ofInt IntKind.u64.bits 4294967295).toNat : Int))) < IntKind.u64.wrap (IntKind.u64.wrap (↑(BitVec.ofInt IntKind.u64.bits (getI d1) &&& BitVec.ofInt IntKind.u64.bits 4294967295).toNat : Int) * IntKind.u64.wrap (↑(BitVec.ofInt IntKind.u64.bits (getI d2) &&& BitVec.ofInt IntKind.u64.bits 4294967295).toNat : Int))) then some (DV.tup [.int .i64 0, .bool false])
   else bif !decide (a1 < 0) == decide (a2 < 0) then bif decide (IntKind.u64.wrap (IntKind.u64.wrap (IntKind.u64.wrap (IntKind.u64.wrap ((getI d1).fdiv (2 ^ min (Int.toNat 32) IntKind.u64.bits) * IntKind.u64.wrap (↑(BitVec.ofInt IntKind.u64.bits (getI d2) &&& BitVec.ofInt IntKind.u64.bits 4294967295).toNat : Int)) + IntKind.u64.wrap ((getI d2).fdiv (2 ^ min (Int.toNat 32) IntKind.u64.bits) * IntKind.u64.wrap (↑(BitVec.ofInt IntKind.u64.bits (getI d1) &&& BitVec.ofInt IntKind.u64.bits 4294967295).toNat : Int))) * 2 ^ min (Int.toNat 32) IntKind.u64.bits) + IntKind.u64.wrap (IntKind.u64.wrap (↑(BitVec.ofInt IntKind.u64.bits (getI d1) &&& BitVec.ofInt IntKind.u64.bits 4294967295).toNat : Int) * IntKind.u64.wrap (↑(BitVec.ofInt IntKind.u64.bits (getI d2) &&& BitVec.ofInt IntKind.u64.bits 4294967295).toNat : Int))) > 9223372036854775808) then some (DV.tup [.int .i64 0, .bool false])
    else some (DV.tup [.int .i64 (IntKind.i64.wrap (IntKind.u64.wrap (0 - IntKind.u64.wrap (IntKind.u64.wrap (IntKind.u64.wrap (IntKind.u64.wrap ((getI d1).fdiv (2 ^ min (Int.toNat 32) IntKind.u64.bits) * IntKind.u64.wrap (↑(BitVec.ofInt IntKind.u64.bits (getI d2) &&& BitVec.ofInt IntKind.u64.bits 4294967295).toNat : Int)) + IntKind.u64.wrap ((getI d2).fdiv (2 ^ min (Int.toNat 32) IntKind.u64.bits) * IntKind.u64.wrap (↑(BitVec.ofInt IntKind.u64.bits (getI d1) &&& BitVec.ofInt IntKind.u64.bits 4294967295).toNat : Int))) * 2 ^ min (Int.toNat 32) IntKind.u64.bits) + IntKind.u64.wrap (IntKind.u64.wrap (↑(BitVec.ofInt IntKind.u64.bits (getI d1) &&& BitVec.ofInt IntKind.u64.bits 4294967295).toNat : Int) * IntKind.u64.wrap (↑(BitVec.ofInt IntKind.u64.bits (getI d2) &&& BitVec.ofInt IntKind.u64.bits 4294967295).toNat : Int)))))), .bool true])
   else bif decide (IntKind.u64.wrap (IntKind.u64.wrap (IntKind.u64.wrap (IntKind.u64.wrap ((getI d1).fdiv (2 ^ min (Int.toNat 32) IntKind.u64.bits) * IntKind.u64.wrap (↑(BitVec.ofInt IntKind.u64.bits (getI d2) &&& BitVec.ofInt IntKind.u64.bits 4294967295).toNat : Int)) + IntKind.u64.wrap ((getI d2).fdiv (2 ^ min (Int.toNat 32) IntKind.u64.bits) * IntKind.u64.wrap (↑(BitVec.ofInt IntKind.u64.bits (getI d1) &&& BitVec.ofInt IntKind.u64.bits 4294967295).toNat : Int))) * 2 ^ min (Int.toNat 32) IntKind.u64.bits) + IntKind.u64.wrap (IntKind.u64.wrap (↑(BitVec.ofInt IntKind.u64.bits (getI d1) &&& BitVec.ofInt IntKind.u64.bits 4294967295).toNat : Int) * IntKind.u64.wrap (↑(BitVec.ofInt IntKind.u64.bits (getI d2) &&& BitVec.ofInt IntKind.u64.bits 4294967295).toNat : Int))) > 9223372036854775807) then some (DV.tup [.int .i64 0, .bool false])
   else some (DV.tup [.int .i64 (IntKind.i64.wrap (IntKind.u64.wrap (IntKind.u64.wrap (IntKind.u64.wrap (IntKind.u64.wrap ((getI d1).fdiv (2 ^ min (Int.toNat 32) IntKind.u64.bits) * IntKind.u64.wrap (↑(BitVec.ofInt IntKind.u64.bits (getI d2) &&& BitVec.ofInt IntKind.u64.bits 4294967295).toNat : Int)) + IntKind.u64.wrap ((getI d2).fdiv (2 ^ min (Int.toNat 32) IntKind.u64.bits) * IntKind.u64.wrap (↑(BitVec.ofInt IntKind.u64.bits (getI d1) &&& BitVec.ofInt IntKind.u64.bits 4294967295).toNat : Int))) * 2 ^ min (Int.toNat 32) IntKind.u64.bits) + IntKind.u64.wrap (IntKind.u64.wrap (↑(BitVec.ofInt IntKind.u64.bits (getI d1) &&& BitVec.ofInt IntKind.u64.bits 4294967295).toNat : Int) * IntKind.u64.wrap (↑(BitVec.ofInt IntKind.u64.bits (getI d2) &&& BitVec.ofInt IntKind.u64.bits 4294967295).toNat : Int))))), .bool true])
  else bif decide (IntKind.u64.wrap (IntKind.u64.wrap ((getI d1).fdiv (2 ^ min (Int.toNat 32) IntKind.u64.bits) * IntKind.u64.wrap (↑(BitVec.ofInt IntKind.u64.bits (getI d2) &&& BitVec.ofInt IntKind.u64.bits 4294967295).toNat : Int)) + IntKind.u64.wrap ((getI d2).fdiv (2 ^ min (Int.toNat 32) IntKind.u64.bits) * IntKind.u64.wrap (↑(BitVec.ofInt IntKind.u64.bits (getI d1) &&& BitVec.ofInt IntKind.u64.bits 4294967295).toNat : Int))) ≥ 4294967296) then some (DV.tup [.int .i64 0, .bool false])
  else bif decide (IntKind.u64.wrap (IntKind.u64.wrap (IntKind.u64.wrap (IntKind.u64.wrap ((getI d1).fdiv (2 ^ min (Int.toNat 32) IntKind.u64.bits) * IntKind.u64.wrap (↑(BitVec.ofInt IntKind.u64.bits (getI d2) &&& BitVec.ofInt IntKind.u64.bits 4294967295).toNat : Int)) + IntKind.u64.wrap ((getI d2).fdiv (2 ^ min (Int.toNat 32) IntKind.u64.bits) * IntKind.u64.wrap (↑(BitVec.ofInt IntKind.u64.bits (getI d1) &&& BitVec.ofInt IntKind.u64.bits 4294967295).toNat : Int))) * 2 ^ min (Int.toNat 32) IntKind.u64.bits) + IntKind.u64.wrap (IntKind.u64.wrap (↑(BitVec.ofInt IntKind.u64.bits (getI d1) &&& BitVec.ofInt IntKind.u64.bits 4294967295).toNat : Int) * IntKind.u64.wrap (↑(BitVec.ofInt IntKind.u64.bits (getI d2) &&& BitVec.ofInt IntKind.u64.bits 4294967295).toNat : Int))) < IntKind.u64.wrap (IntKind.u64.wrap (↑(BitVec.ofInt IntKind.u64.bits (getI d1) &&& BitVec.ofInt IntKind.u64.bits 4294967295).toNat : Int) * IntKind.u64.wrap (↑(BitVec.ofInt IntKind.u64.bits (getI d2) &&& BitVec.ofInt IntKind.u64.bits 4294967295).toNat : Int))) then some (DV.tup [.int .i64 0, .bool false])
  else bif !decide (a1 < 0) == decide (a2 < 0) then bif decide (IntKind.u64.wrap (IntKind.u64.wrap (IntKind.u64.wrap (IntKind.u64.wrap ((getI d1).fdiv (2 ^ min (Int.toNat 32) IntKind.u64.bits) * IntKind.u64.wrap (↑(BitVec.ofInt IntKind.u64.bits (getI d2) &&& BitVec.ofInt IntKind.u64.bits 4294967295).toNat : Int)) + IntKind.u64.wrap ((getI d2).fdiv (2 ^ min (Int.toNat 32) IntKind.u64.bits) * IntKind.u64.wrap (↑(BitVec.ofInt IntKind.u64.bits (getI d1) &&& BitVec.ofInt IntKind.u64.bits 4294967295).toNat : Int))) * 2 ^ min (Int.toNat 32) IntKind.u64.bits) + IntKind.u64.wrap (IntKind.u64.wrap (↑(BitVec.ofInt IntKind.u64.bits (getI d1) &&& BitVec.ofInt IntKind.u64.bits 4294967295).toNat : Int) * IntKind.u64.wrap (↑(BitVec.ofInt IntKind.u64.bits (getI d2) &&& BitVec.ofInt IntKind.u64.bits 4294967295).toNat : Int))) > 9223372036854775808) then some (DV.tup [.int .i64 0, .bool false])
   else some (DV.tup [.int .i64 (IntKind.i64.wrap (IntKind.u64.wrap (0 - IntKind.u64.wrap (IntKind.u64.wrap (IntKind.u64.wrap (IntKind.u64.wrap ((getI d1).fdiv (2 ^ min (Int.toNat 32) IntKind.u64.bits) * IntKind.u64.wrap (↑(BitVec.ofInt IntKind.u64.bits (getI d2) &&& BitVec.ofInt IntKind.u64.bits 4294967295).toNat : Int)) + IntKind.u64.wrap ((getI d2).fdiv (2 ^ min (Int.toNat 32) IntKind.u64.bits) * IntKind.u64.wrap (↑(BitVec.ofInt IntKind.u64.bits (getI d1) &&& BitVec.ofInt IntKind.u64.bits 4294967295).toNat : Int))) * 2 ^ min (Int.toNat 32) IntKind.u64.bits) + IntKind.u64.wrap (IntKind.u64.wrap (↑(BitVec.ofInt IntKind.u64.bits (getI d1) &&& BitVec.ofInt IntKind.u64.bits 4294967295).toNat : Int) * IntKind.u64.wrap (↑(BitVec.ofInt IntKind.u64.bits (getI d2) &&& BitVec.ofInt IntKind.u64.bits 4294967295).toNat : Int)))))), .bool true])
  else bif decide (IntKind.u64.wrap (IntKind.u64.wrap (IntKind.u64.wrap (IntKind.u64.wrap ((getI d1).fdiv (2 ^ min (Int.toNat 32) IntKind.u64.bits) * IntKind.u64.wrap (↑(BitVec.ofInt IntKind.u64.bits (getI d2) &&& BitVec.ofInt IntKind.u64.bits 4294967295).toNat : Int)) + IntKind.u64.wrap ((getI d2).fdiv (2 ^ min (Int.toNat 32) IntKind.u64.bits) * IntKind.u64.wrap (↑(BitVec.ofInt IntKind.u64.bits (getI d1) &&& BitVec.ofInt IntKind.u64.bits 4294967295).toNat : Int))) * 2 ^ min (Int.toNat 32) IntKind.u64.bits) + IntKind.u64.wrap (IntKind.u64.wrap (↑(BitVec.ofInt IntKind.u64.bits (getI d1) &&& BitVec.ofInt IntKind.u64.bits 4294967295).toNat : Int) * IntKind.u64.wrap (↑(BitVec.ofInt IntKind.u64.bits (getI d2) &&& BitVec.ofInt IntKind.u64.bits 4294967295).toNat : Int))) > 9223372036854775807) then some (DV.tup [.int .i64 0, .bool false])
  else some (DV.tup [.int .i64 (IntKind.i64.wrap (IntKind.u64.wrap (IntKind.u64.wrap (IntKind.u64.wrap (IntKind.u64.wrap ((getI d1).fdiv (2 ^ min (Int.toNat 32) IntKind.u64.bits) * IntKind.u64.wrap (↑(BitVec.ofInt IntKind.u64.bits (getI d2) &&& BitVec.ofInt IntKind.u64.bits 4294967295).toNat : Int)) + IntKind.u64.wrap ((getI d2).fdiv (2 ^ min (Int.toNat 32) IntKind.u64.bits) * IntKind.u64.wrap (↑(BitVec.ofInt IntKind.u64.bits (getI d1) &&& BitVec.ofInt IntKind.u64.bits 4294967295).toNat : Int))) * 2 ^ min (Int.toNat 32) IntKind.u64.bits) + IntKind.u64.wrap (IntKind.u64.wrap (↑(BitVec.ofInt IntKind.u64.bits (getI d1) &&& BitVec.ofInt IntKind.u64.bits 4294967295).toNat : Int) * IntKind.u64.wrap (↑(BitVec.ofInt IntKind.u64.bits (getI d2) &&& BitVec.ofInt IntKind.u64.bits 4294967295).toNat : Int))))), .bool true])
theorem t184 {K : Nat} (a1 : Int) (a2 : Int) {r : DV} (h : T184 K a1 a2 = some r) : lm K 184 [.int .i64 a1, .int .i64 a2] = some r := fn_run (Eq.trans (by kernel_rfl) h)
/-! 185 185 -/
noncomputable def T185 (K : Nat) (a1 : Int) (a2 : Int) (a3 : Int) : Option DV :=
  bif a1 == 8 then (lm K 221 [.int .i64 a2, .int .i64 a3]).bind fun d1 =>
   need (d1 = .tup [.int .i64 (getI (getT d1 0)), .bool (getB (getT d1 1))]) <|
   some (DV.tup [.int .i64 (getI (getT d1 0)), .bool (getB (getT d1 1))])
  else bif a1 == 9 then (lm K 222 [.int .i64 a2, .int .i64 a3]).bind fun d2 =>
   need (d2 = .tup [.int .i64 (getI (getT d2 0)), .bool (getB (getT d2 1))]) <|
   some (DV.tup [.int .i64 (getI (getT d2 0)), .bool (getB (getT d2 1))])
  else bif a1 == 10 then (lm K 182 [.bool (a2 == a3)]).bind fun d3 =>
   need (d3 = .int .i64 (getI d3)) <|
   some (DV.tup [.int .i64 (getI d3), .bool true])
  else bif a1 == 11 then (lm K 182 [.bool (a2 != a3)]).bind fun d4 =>
   need (d4 = .int .i64 (getI d4)) <|
   some (DV.tup [.int .i64 (getI d4), .bool true])
  else bif a1 == 12 then (lm K 182 [.bool (decide (a2 < a3))]).bind fun d5 =>
   need (d5 = .int .i64 (getI d5)) <|
   some (DV.tup [.int .i64 (getI d5), .bool true])
  else bif a1 == 13 then (lm K 182 [.bool (decide (a2 ≤ a3))]).bind fun d6 =>
   need (d6 = .int .i64 (getI d6)) <|
   some (DV.tup [.int .i64 (getI d6), .bool true])
  else bif a1 == 14 then (lm K 182 [.bool (decide (a2 > a3))]).bind fun d7 =>
   need (d7 = .int .i64 (getI d7)) <|
   some (DV.tup [.int .i64 (getI d7), .bool true])
  else (lm K 182 [.bool (decide (a2 ≥ a3))]).bind fun d8 =>
  need (d8 = .int .i64 (getI d8)) <|
  some (DV.tup [.int .i64 (getI d8), .bool true])
theorem t185 {K : Nat} (a1 : Int) (a2 : Int) (a3 : Int) {r : DV} (h : T185 K a1 a2 a3 = some r) : lm K 185 [.int .i64 a1, .int .i64 a2, .int .i64 a3] = some r := fn_run (Eq.trans (by kernel_rfl) h)
/-! 218 218 -/
noncomputable def T218 (K : Nat) (a1 : Int) : Option DV :=
  bif a1 == 5 then some (DV.int .i64 1)
  else bif a1 == 16 then some (DV.int .i64 1)
  else bif a1 == 17 then some (DV.int .i64 1)
  else bif a1 == 10 then some (DV.int .i64 0)
  else bif a1 == 11 then some (DV.int .i64 0)
  else some (DV.int .i64 2)
theorem t218 {K : Nat} (a1 : Int) {r : DV} (h : T218 K a1 = some r) : lm K 218 [.int .i64 a1] = some r := fn_run (Eq.trans (by kernel_rfl) h)
/-! 219 219 -/
noncomputable def T219 (K : Nat) (a1 : Int) : Option DV :=
  bif a1 == 1 then some (DV.int .i64 2)
  else bif decide (a1 ≥ 6) then bif decide (a1 ≤ 9) then some (DV.int .i64 2)
   else some (DV.int .i64 1)
  else some (DV.int .i64 1)
theorem t219 {K : Nat} (a1 : Int) {r : DV} (h : T219 K a1 = some r) : lm K 219 [.int .i64 a1] = some r := fn_run (Eq.trans (by kernel_rfl) h)
/-! 220 220 -/
noncomputable def T220 (K : Nat) (a1 : Int) : Option DV :=
  bif decide (a1 < 0) then some (DV.int .u64 (IntKind.u64.wrap (IntKind.u64.wrap (IntKind.i64.wrap (0 - IntKind.i64.wrap (a1 + 1))) + 1)))
  else some (DV.int .u64 (IntKind.u64.wrap a1))
theorem t220 {K : Nat} (a1 : Int) {r : DV} (h : T220 K a1 = some r) : lm K 220 [.int .i64 a1] = some r := fn_run (Eq.trans (by kernel_rfl) h)
/-! 221 221 -/
noncomputable def T221 (K : Nat) (a1 : Int) (a2 : Int) : Option DV :=
  bif decide (a2 > 0) then bif decide (a1 > IntKind.i64.wrap (9223372036854775807 - a2)) then some (DV.tup [.int .i64 0, .bool false])
   else bif decide (a2 < 0) then bif decide (a1 < IntKind.i64.wrap (-9223372036854775808 - a2)) then some (DV.tup [.int .i64 0, .bool false])
    else some (DV.tup [.int .i64 (IntKind.i64.wrap (a1 + a2)), .bool true])
   else some (DV.tup [.int .i64 (IntKind.i64.wrap (a1 + a2)), .bool true])
  else bif decide (a2 < 0) then bif decide (a1 < IntKind.i64.wrap (-9223372036854775808 - a2)) then some (DV.tup [.int .i64 0, .bool false])
   else some (DV.tup [.int .i64 (IntKind.i64.wrap (a1 + a2)), .bool true])
  else some (DV.tup [.int .i64 (IntKind.i64.wrap (a1 + a2)), .bool true])
theorem t221 {K : Nat} (a1 : Int) (a2 : Int) {r : DV} (h : T221 K a1 a2 = some r) : lm K 221 [.int .i64 a1, .int .i64 a2] = some r := fn_run (Eq.trans (by kernel_rfl) h)
/-! 222 222 -/
noncomputable def T222 (K : Nat) (a1 : Int) (a2 : Int) : Option DV :=
  bif decide (a2 < 0) then bif decide (a1 > IntKind.i64.wrap (9223372036854775807 + a2)) then some (DV.tup [.int .i64 0, .bool false])
   else bif decide (a2 > 0) then bif decide (a1 < IntKind.i64.wrap (-9223372036854775808 + a2)) then some (DV.tup [.int .i64 0, .bool false])
    else some (DV.tup [.int .i64 (IntKind.i64.wrap (a1 - a2)), .bool true])
   else some (DV.tup [.int .i64 (IntKind.i64.wrap (a1 - a2)), .bool true])
  else bif decide (a2 > 0) then bif decide (a1 < IntKind.i64.wrap (-9223372036854775808 + a2)) then some (DV.tup [.int .i64 0, .bool false])
   else some (DV.tup [.int .i64 (IntKind.i64.wrap (a1 - a2)), .bool true])
  else some (DV.tup [.int .i64 (IntKind.i64.wrap (a1 - a2)), .bool true])
theorem t222 {K : Nat} (a1 : Int) (a2 : Int) {r : DV} (h : T222 K a1 a2 = some r) : lm K 222 [.int .i64 a1, .int .i64 a2] = some r := fn_run (Eq.trans (by kernel_rfl) h)
end Go.Proofs.Ytmfgdnagmacgdaa.Dv
end
section
/- Trees of questions of functions of the program (printed by a program of this session, wip/dv/sym.txt). No condition. -/
set_option maxRecDepth 100000
set_option linter.unusedVariables false
namespace Go.Proofs.Ytmfgdnagmacgdaa.Dv
/-! 8 8 -/
noncomputable def T8 (K : Nat) (a1 : DV) (a2 : DV) (a3 : List DV) : Option DV :=
  (lm K 25 [R 25 a1, .int .i64 300]).bind fun d1 =>
  need (d1 = .bool (getB d1)) <|
  bif !getB d1 then (lm K 44 []).bind fun d2 =>
   need (d2 = .bool (getB d2)) <|
   some (DV.bool (getB d2))
  else (lm K 40 [R 51 a2, .int .i64 300]).bind fun d3 =>
  need (d3 = .int .i64 (getI d3)) <|
  bif decide (getI d3 < 0) then (lm K 44 []).bind fun d4 =>
   need (d4 = .bool (getB d4)) <|
   some (DV.bool (getB d4))
  else bif decide ((↑a3.length : Int) > 400) then (lm K 44 []).bind fun d5 =>
   need (d5 = .bool (getB d5)) <|
   some (DV.bool (getB d5))
  else need ((([] : List DV).length + a3.length) * (8 : Nat) ≤ (1099511627776 : Nat) ∧ (([] : List DV) = [] ∨ (1 : Nat) = (1 : Nat))) <|
  bif a3.isEmpty then (lm K 45 [R 25 a1, R 51 a2, .sl .full 1 []]).bind fun d6 =>
   need (d6 = .tup [.int .i64 (getI (getT d6 0)), .int .i64 (getI (getT d6 1))]) <|
   (lm K 46 [R 25 a1, R 51 a2, .sl .no 1 a3]).bind fun d7 =>
   need (d7 = .tup [.int .i64 (getI (getT d7 0)), .int .i64 (getI (getT d7 1))]) <|
   bif getI (getT d6 0) == getI (getT d7 0) then (lm K 47 [.int .i64 (getI (getT d6 1))]).bind fun d8 =>
    need (d8 = .int .i64 (getI d8)) <|
    bif getI d8 == getI (getT d7 1) then (lm K 48 [R 25 a1, R 51 a2, .sl .no 1 a3]).bind fun d9 =>
     need (d9 = .bool (getB d9)) <|
     (lm K 49 [R 25 a1, R 51 a2, .sl .no 1 a3]).bind fun d10 =>
     need (d10 = .bool (getB d10)) <|
     bif getB d9 == getB d10 then (lm K 44 []).bind fun d11 =>
      need (d11 = .bool (getB d11)) <|
      some (DV.bool (getB d11))
     else some (DV.bool false)
    else some (DV.bool false)
   else some (DV.bool false)
  else (lm K 45 [R 25 a1, R 51 a2, .sl .no 1 ([] ++ a3)]).bind fun d12 =>
  need (d12 = .tup [.int .i64 (getI (getT d12 0)), .int .i64 (getI (getT d12 1))]) <|
  (lm K 46 [R 25 a1, R 51 a2, .sl .no 1 a3]).bind fun d13 =>
  need (d13 = .tup [.int .i64 (getI (getT d13 0)), .int .i64 (getI (getT d13 1))]) <|
  bif getI (getT d12 0) == getI (getT d13 0) then (lm K 47 [.int .i64 (getI (getT d12 1))]).bind fun d14 =>
   need (d14 = .int .i64 (getI d14)) <|
   bif getI d14 == getI (getT d13 1) then (lm K 48 [R 25 a1, R 51 a2, .sl .no 1 a3]).bind fun d15 =>
    need (d15 = .bool (getB d15)) <|
    (lm K 49 [R 25 a1, R 51 a2, .sl .no 1 a3]).bind fun d16 =>
    need (d16 = .bool (getB d16)) <|
    bif getB d15 == getB d16 then (lm K 44 []).bind fun d17 =>
     need (d17 = .bool (getB d17)) <|
     some (DV.bool (getB d17))
    else some (DV.bool false)
   else some (DV.bool false)
  else some (DV.bool false)
theorem t8 {K : Nat} (a1 : DV) (a2 : DV) (a3 : List DV) {r : DV} (h : T8 K a1 a2 a3 = some r) : lm K 8 [R 25 a1, R 51 a2, .sl .no 1 a3] = some r := fn_run (Eq.trans (by kernel_rfl) h)
/-! 10 10 -/
noncomputable def H10_0 (a1 : DV) (a2 : DV) (a3 : DV) (a4 : List DV) (d8 : DV) (d9 : DV) (v27 : Int) : St := ⟨[.undef, .undef, .undef] ++ [.sl .no 1 a4, .ptr 0 0] ++ (un 4) ++ [.int .i64 (getI (getT d8 0))] ++ [.undef] ++ [.int .i64 (getI (getT d9 0))] ++ (un 7) ++ [.sl .full 6 [R 51 a2, R 51 a3], .sl .full 1 [.int .i64 10, .int .i64 11, .int .i64 12, .int .i64 15, .int .i64 13, .int .i64 14], .int .i64 v27] ++ (un 149), [.box ((R 25 a1).cells), .box ((R 51 a2).cells), .box ((R 51 a3).cells)]⟩
def P10_0 : List Dir := [.c, .r, .l, .r, .l, .r, .l, .r, .r, .r, .r, .r, .r, .r, .r]
noncomputable def hd10_0 (K : Nat) (a1 : DV) (a2 : DV) (a3 : DV) (a4 : List DV) (d8 : DV) (d9 : DV) (v27 : Int) : Option DV := hdL Try.prog (C0 K) 10 P10_0 (bits 171 3672600) 3 (H10_0 a1 a2 a3 a4 d8 d9 v27)
noncomputable def T10 (K : Nat) (a1 : DV) (a2 : DV) (a3 : DV) (a4 : List DV) : Option DV :=
  (lm K 25 [R 25 a1, .int .i64 300]).bind fun d28 =>
  need (d28 = .bool (getB d28)) <|
  bif !getB d28 then (lm K 44 []).bind fun d29 =>
   need (d29 = .bool (getB d29)) <|
   some (DV.bool (getB d29))
  else (lm K 40 [R 51 a2, .int .i64 300]).bind fun d30 =>
  need (d30 = .int .i64 (getI d30)) <|
  bif decide (getI d30 < 0) then (lm K 44 []).bind fun d31 =>
   need (d31 = .bool (getB d31)) <|
   some (DV.bool (getB d31))
  else (lm K 40 [R 51 a3, .int .i64 300]).bind fun d32 =>
  need (d32 = .int .i64 (getI d32)) <|
  bif decide (getI d32 < 0) then (lm K 44 []).bind fun d33 =>
   need (d33 = .bool (getB d33)) <|
   some (DV.bool (getB d33))
  else bif decide ((↑a4.length : Int) > 400) then (lm K 44 []).bind fun d34 =>
   need (d34 = .bool (getB d34)) <|
   some (DV.bool (getB d34))
  else (lm K 45 [R 25 a1, R 51 a2, .sl .no 1 a4]).bind fun d35 =>
  need (d35 = .tup [.int .i64 (getI (getT d35 0)), .int .i64 (getI (getT d35 1))]) <|
  (lm K 45 [R 25 a1, R 51 a3, .sl .no 1 a4]).bind fun d36 =>
  need (d36 = .tup [.int .i64 (getI (getT d36 0)), .int .i64 (getI (getT d36 1))]) <|
  (lm K 55 [R 25 a1, R 51 a2]).bind fun d37 =>
  need (d37 = .tup [.int .i64 (getI (getT d37 0)), .int .i64 (getI (getT d37 1)), .int .i64 (getI (getT d37 2))]) <|
  (lm K 55 [R 25 a1, R 51 a3]).bind fun d38 =>
  need (d38 = .tup [.int .i64 (getI (getT d38 0)), .int .i64 (getI (getT d38 1)), .int .i64 (getI (getT d38 2))]) <|
  (lm K 47 [.int .i64 (getI (getT d35 1))]).bind fun d39 =>
  need (d39 = .int .i64 (getI d39)) <|
  (lm K 47 [.int .i64 (getI (getT d36 1))]).bind fun d40 =>
  need (d40 = .int .i64 (getI d40)) <|
  bif IntKind.i64.wrap (getI d39 + getI d40) != 0 then (lm K 44 []).bind fun d41 =>
   need (d41 = .bool (getB d41)) <|
   some (DV.bool (getB d41))
  else bif getI (getT d37 0) != getI (getT d38 0) then (lm K 44 []).bind fun d42 =>
   need (d42 = .bool (getB d42)) <|
   some (DV.bool (getB d42))
  else bif getI (getT d37 0) == 2 then hd10_0 K a1 a2 a3 a4 d35 d36 0
  else (lm K 48 [R 25 a1, .agg [.int .i64 16, .str (ByteArray.mk #[]), .str (ByteArray.mk #[]), .int .i64 0, .sl .no 6 [R 51 a2, R 51 a3], .int .i64 0], .sl .no 1 a4]).bind fun d43 =>
  need (d43 = .bool (getB d43)) <|
  (lm K 48 [R 25 a1, .agg [.int .i64 17, .str (ByteArray.mk #[]), .str (ByteArray.mk #[]), .int .i64 0, .sl .no 6 [R 51 a2, R 51 a3], .int .i64 0], .sl .no 1 a4]).bind fun d44 =>
  need (d44 = .bool (getB d44)) <|
  (lm K 48 [R 25 a1, .agg [.int .i64 5, .str (ByteArray.mk #[]), .str (ByteArray.mk #[]), .int .i64 0, .sl .no 6 [R 51 a2], .int .i64 0], .sl .no 1 a4]).bind fun d45 =>
  need (d45 = .bool (getB d45)) <|
  bif getI (getT d35 0) != 0 then bif getB d43 == (getI (getT d36 0) != 0) then bif getI (getT d35 0) != 0 then bif getB d44 == true then bif getB d45 == (getI (getT d35 0) == 0) then (lm K 44 []).bind fun d46 =>
       need (d46 = .bool (getB d46)) <|
       some (DV.bool (getB d46))
      else some (DV.bool false)
     else some (DV.bool false)
    else bif getB d44 == (getI (getT d36 0) != 0) then bif getB d45 == (getI (getT d35 0) == 0) then (lm K 44 []).bind fun d47 =>
      need (d47 = .bool (getB d47)) <|
      some (DV.bool (getB d47))
     else some (DV.bool false)
    else some (DV.bool false)
   else some (DV.bool false)
  else bif getB d43 == false then bif getI (getT d35 0) != 0 then bif getB d44 == true then bif getB d45 == (getI (getT d35 0) == 0) then (lm K 44 []).bind fun d48 =>
      need (d48 = .bool (getB d48)) <|
      some (DV.bool (getB d48))
     else some (DV.bool false)
    else some (DV.bool false)
   else bif getB d44 == (getI (getT d36 0) != 0) then bif getB d45 == (getI (getT d35 0) == 0) then (lm K 44 []).bind fun d49 =>
     need (d49 = .bool (getB d49)) <|
     some (DV.bool (getB d49))
    else some (DV.bool false)
   else some (DV.bool false)
  else some (DV.bool false)
theorem t10 {K : Nat} (a1 : DV) (a2 : DV) (a3 : DV) (a4 : List DV) {r : DV} (h : T10 K a1 a2 a3 a4 = some r) : lm K 10 [R 25 a1, R 51 a2, R 51 a3, .sl .no 1 a4] = some r := fn_run (Eq.trans (by kernel_rfl) h)
noncomputable def L10_0 (K : Nat) (a1 : DV) (a2 : DV) (a3 : DV) (a4 : List DV) (d8 : DV) (d9 : DV) (v27 : Int) : Option DV :=
  bif decide (v27 < 6) then need ((0 : Int) ≤ v27) <|
   ([DV.int IntKind.i64 10, DV.int IntKind.i64 11, DV.int IntKind.i64 12, DV.int IntKind.i64 15, DV.int IntKind.i64 13, DV.int IntKind.i64 14][v27.toNat]?).bind fun x50 =>
   need (x50 = .int .i64 (getI x50)) <|
   (lm K 48 [R 25 a1, .agg [.int .i64 (getI x50), .str (ByteArray.mk #[]), .str (ByteArray.mk #[]), .int .i64 0, .sl .no 6 [R 51 a2, R 51 a3], .int .i64 0], .sl .no 1 a4]).bind fun d51 =>
   need (d51 = .bool (getB d51)) <|
   need ((0 : Int) ≤ IntKind.i64.wrap (v27 + (1 : Int))) <|
   ([DV.int IntKind.i64 10, DV.int IntKind.i64 11, DV.int IntKind.i64 12, DV.int IntKind.i64 15, DV.int IntKind.i64 13, DV.int IntKind.i64 14][(IntKind.i64.wrap (v27 + 1)).toNat]?).bind fun x52 =>
   need (x52 = .int .i64 (getI x52)) <|
   (lm K 48 [R 25 a1, .agg [.int .i64 (getI x52), .str (ByteArray.mk #[]), .str (ByteArray.mk #[]), .int .i64 0, .sl .no 6 [R 51 a2, R 51 a3], .int .i64 0], .sl .no 1 a4]).bind fun d53 =>
   need (d53 = .bool (getB d53)) <|
   bif getB d51 == getB d53 then some (DV.bool false)
   else hd10_0 K a1 a2 a3 a4 d8 d9 (IntKind.i64.wrap (v27 + 2))
  else (lm K 48 [R 25 a1, .agg [.int .i64 12, .str (ByteArray.mk #[]), .str (ByteArray.mk #[]), .int .i64 0, .sl .no 6 [R 51 a2, R 51 a3], .int .i64 0], .sl .no 1 a4]).bind fun d54 =>
  need (d54 = .bool (getB d54)) <|
  bif getB d54 == decide (getI (getT d8 0) < getI (getT d9 0)) then (lm K 44 []).bind fun d55 =>
   need (d55 = .bool (getB d55)) <|
   some (DV.bool (getB d55))
  else some (DV.bool false)
theorem l10_0 {K : Nat} (a1 : DV) (a2 : DV) (a3 : DV) (a4 : List DV) (d8 : DV) (d9 : DV) (v27 : Int) {r : DV} (h : L10_0 K a1 a2 a3 a4 d8 d9 v27 = some r) : hd10_0 K a1 a2 a3 a4 d8 d9 v27 = some r := hd_run (Eq.trans (by kernel_rfl) h)
/-! 11 11 -/
noncomputable def T11 (K : Nat) (a1 : DV) (a2 : DV) (a3 : List DV) : Option DV :=
  (lm K 25 [R 25 a1, .int .i64 300]).bind fun d1 =>
  need (d1 = .bool (getB d1)) <|
  bif !getB d1 then (lm K 44 []).bind fun d2 =>
   need (d2 = .bool (getB d2)) <|
   some (DV.bool (getB d2))
  else (lm K 40 [R 51 a2, .int .i64 20]).bind fun d3 =>
  need (d3 = .int .i64 (getI d3)) <|
  bif decide (getI d3 < 0) then (lm K 44 []).bind fun d4 =>
   need (d4 = .bool (getB d4)) <|
   some (DV.bool (getB d4))
  else bif decide ((↑a3.length : Int) > 400) then (lm K 44 []).bind fun d5 =>
   need (d5 = .bool (getB d5)) <|
   some (DV.bool (getB d5))
  else (lm K 45 [R 25 a1, R 51 a2, .sl .no 1 a3]).bind fun d6 =>
  need (d6 = .tup [.int .i64 (getI (getT d6 0)), .int .i64 (getI (getT d6 1))]) <|
  (lm K 55 [R 25 a1, R 51 a2]).bind fun d7 =>
  need (d7 = .tup [.int .i64 (getI (getT d7 0)), .int .i64 (getI (getT d7 1)), .int .i64 (getI (getT d7 2))]) <|
  (lm K 47 [.int .i64 (getI (getT d6 1))]).bind fun d8 =>
  need (d8 = .int .i64 (getI d8)) <|
  bif getI d8 == 110 then bif getI (getT d7 0) == 2 then (lm K 45 [R 25 a1, .agg [.int .i64 10, .str (ByteArray.mk #[]), .str (ByteArray.mk #[]), .int .i64 0, .sl .no 6 [R 51 a2, .agg [.int .i64 1, .str (ByteArray.mk #[]), .str (ByteArray.mk #[]), .int .i64 0, .sl .no 6 [], .int .i64 0]], .int .i64 0], .sl .no 1 a3]).bind fun d9 =>
    need (d9 = .tup [.int .i64 (getI (getT d9 0)), .int .i64 (getI (getT d9 1))]) <|
    bif getI (getT d6 0) == 0 then (lm K 47 [.int .i64 (getI (getT d9 1))]).bind fun d10 =>
     need (d10 = .int .i64 (getI d10)) <|
     bif getI d10 == 110 then (lm K 48 [R 25 a1, .agg [.int .i64 10, .str (ByteArray.mk #[]), .str (ByteArray.mk #[]), .int .i64 0, .sl .no 6 [R 51 a2, .agg [.int .i64 1, .str (ByteArray.mk #[]), .str (ByteArray.mk #[]), .int .i64 0, .sl .no 6 [], .int .i64 0]], .int .i64 0], .sl .no 1 a3]).bind fun d11 =>
      need (d11 = .bool (getB d11)) <|
      bif !getB d11 then (lm K 44 []).bind fun d12 =>
       need (d12 = .bool (getB d12)) <|
       some (DV.bool (getB d12))
      else some (DV.bool false)
     else some (DV.bool false)
    else some (DV.bool false)
   else (lm K 45 [R 25 a1, .agg [.int .i64 5, .str (ByteArray.mk #[]), .str (ByteArray.mk #[]), .int .i64 0, .sl .no 6 [R 51 a2], .int .i64 0], .sl .no 1 a3]).bind fun d13 =>
   need (d13 = .tup [.int .i64 (getI (getT d13 0)), .int .i64 (getI (getT d13 1))]) <|
   bif getI (getT d6 0) == 0 then (lm K 47 [.int .i64 (getI (getT d13 1))]).bind fun d14 =>
    need (d14 = .int .i64 (getI d14)) <|
    bif getI d14 == 110 then (lm K 48 [R 25 a1, .agg [.int .i64 5, .str (ByteArray.mk #[]), .str (ByteArray.mk #[]), .int .i64 0, .sl .no 6 [R 51 a2], .int .i64 0], .sl .no 1 a3]).bind fun d15 =>
     need (d15 = .bool (getB d15)) <|
     bif !getB d15 then (lm K 44 []).bind fun d16 =>
      need (d16 = .bool (getB d16)) <|
      some (DV.bool (getB d16))
     else some (DV.bool false)
    else some (DV.bool false)
   else some (DV.bool false)
  else (lm K 44 []).bind fun d17 =>
  need (d17 = .bool (getB d17)) <|
  some (DV.bool (getB d17))
theorem t11 {K : Nat} (a1 : DV) (a2 : DV) (a3 : List DV) {r : DV} (h : T11 K a1 a2 a3 = some r) : lm K 11 [R 25 a1, R 51 a2, .sl .no 1 a3] = some r := fn_run (Eq.trans (by kernel_rfl) h)
end Go.Proofs.Ytmfgdnagmacgdaa.Dv
end
