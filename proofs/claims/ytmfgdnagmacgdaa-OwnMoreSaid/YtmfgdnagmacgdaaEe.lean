/- The value machine for the program: which struct types are compared, what is known beforehand; words for trees of questions. No condition. -/
import Derived.Test.YtmfgdnagmacgdaaEd
import Derived.Test.YtmfgdnagmacgdaaDx
import Derived.Test.YtmfgdnagmacgdaaProg
import Derived.KernelRfl
namespace Go.Proofs.Ytmfgdnagmacgdaa.Dv
/-- Which slots are of use at a loop's head: function, first region, slots. -/
def liveT : List (Nat × Nat × Nat) := [(7, 11, 1824), (7, 15, 7968), (7, 18, 16160), (7, 26, 98080), (10, 13, 3672600), (12, 7, 7732), (12, 10, 15924), (12, 13, 32308), (14, 15, 25165848), (16, 7, 34), (19, 6, 57), (24, 7, 34), (25, 5, 100), (25, 11, 484), (25, 16, 740), (25, 22, 1060), (27, 4, 1835010), (27, 10, 3758096384), (28, 4, 10), (28, 10, 58), (28, 15, 90), (28, 20, 130), (30, 4, 44), (30, 9, 76), (32, 4, 35), (32, 10, 483), (33, 2, 7174), (33, 5, 924678), (33, 11, 15032385540), (34, 3, 26), (34, 6, 58), (34, 10, 74), (36, 7, 58720354), (36, 10, 7574913122), (36, 17, 492581209243744), (37, 4, 18), (37, 13, 514), (37, 17, 3586), (37, 24, 4098), (37, 27, 12290), (37, 33, 65538), (40, 5, 38), (43, 8, 120259085312), (52, 4, 35), (53, 3, 904), (54, 4, 56), (56, 3, 26), (58, 6, 3758096450), (58, 12, 2017612633061982274), (58, 15, 260272029664995704898), (58, 21, 2115620184325601055735872), (59, 6, 194), (59, 11, 258), (59, 14, 770), (59, 20, 4098), (61, 2, 70), (62, 2, 38), (62, 9, 550), (63, 3, 102), (64, 5, 98), (68, 3, 102), (72, 4, 44), (74, 6, 2147483846), (74, 12, 35184372088902), (76, 4, 35), (76, 10, 99), (79, 3, 25), (79, 6, 57), (80, 2, 9), (84, 5, 469762050), (84, 8, 60599304322), (84, 16, 252201579132747776), (88, 4, 9), (90, 2, 9), (90, 11, 537), (91, 4, 229382), (93, 4, 229382), (95, 4, 44), (95, 10, 268), (96, 4, 229382), (98, 2, 900), (98, 9, 469762948), (99, 3, 25), (99, 9, 57), (102, 2, 452), (103, 4, 3670078), (103, 9, 240521839038), (103, 14, 15762598699467070), (103, 20, 2066035336255469781036), (104, 3, 114700), (104, 7, 15032500268), (104, 12, 492581209358380), (105, 2, 14356), (105, 10, 60129556500), (106, 4, 114), (106, 8, 178), (106, 12, 304), (106, 15, 816), (107, 2, 70), (107, 21, 3782), (108, 2, 387), (113, 2, 387), (120, 3, 782), (120, 6, 1806), (123, 9, 7696581394825), (123, 14, 126100789566374025), (125, 1, 7169), (125, 11, 30786325584897), (126, 2, 70), (126, 17, 16582), (130, 2, 234), (133, 4, 229380), (136, 6, 939524162), (136, 9, 121198608706), (136, 16, 31525197391593474), (137, 3, 28682), (137, 6, 3698730), (140, 1, 7169), (140, 9, 1970324836981761), (141, 3, 458788), (141, 12, 1970324837433508), (142, 1, 1794), (142, 5, 1836802), (145, 2, 28690), (145, 11, 7696581423378), (146, 4, 229382), (156, 3, 25), (158, 9, 10), (160, 4, 229382), (162, 4, 229382), (164, 4, 229382), (166, 3, 26), (167, 2, 387), (172, 4, 469762068), (173, 5, 1356), (174, 6, 268), (176, 4, 28676), (178, 2, 387), (181, 11, 3596), (181, 18, 34312), (191, 6, 58720406), (201, 1, 910), (202, 2, 393), (206, 1, 7), (210, 9, 270799383593676935134183424), (227, 4, 7340050), (229, 4, 458756), (229, 7, 29818884), (234, 2, 387), (237, 2, 387)]
/-- Places told for themselves: function, first region, slots. -/
def joinT : List (Nat × Nat × Nat) := [(90, 8, 57), (90, 10, 25), (14, 12, 11976728), (14, 14, 8388632)]
def look : List (Nat × Nat × Nat) → Nat → Nat → Option Nat
  | [], _, _ => none
  | (a, b, c) :: r, f, i => bif a.beq f && b.beq i then some c else look r f i
/-- Functions that are told where they are called. -/
def inlT : List Nat := [104, 109, 114, 119, 122, 124, 137, 138, 168, 169, 170, 186, 188, 213, 215, 216, 228, 230, 232]
def hasN : List Nat → Nat → Bool
  | [], _ => false
  | a :: r, n => bif a.beq n then true else hasN r n
/-- Rows that are written to: function, slot. -/
def wrT : List (Nat × Nat) := [(119, 7), (51, 41), (12, 52), (69, 47)]
def hasP : List (Nat × Nat) → Nat → Nat → Bool
  | [], _, _ => false
  | (a, b) :: r, f, i => bif a.beq f && b.beq i then true else hasP r f i
def C0 (K : Nat) : Cfg := { eqT := fun t => if t = 61 then some [.str, .int, .int, .int, .int, .int] else if t = 90 then some [.int, .int] else if t = 179 then some [.str, .str] else none, keep := hasN inlT, wr := hasP wrT, kn := fun f args => if args.all pureV then knT K f args else none, fg := look liveT, jn := look joinT }
noncomputable abbrev lm (K : Nat) : FuncId → List DV → Option DV := lim Try.prog (C0 K)
noncomputable abbrev lmH (K : Nat) : FuncId → List DV → List Blk → Option DV := limH Try.prog (C0 K)
noncomputable def R (t : TypeId) (d : DV) : DV := resh1 Try.prog t d
def gI (d : DV) (i : Nat) : Int := getI (getC d i)
def gS (d : DV) (i : Nat) : ByteArray := getS (getC d i)
def gL (d : DV) (i : Nat) : List DV := getL (getC d i)
def bits : Nat → Nat → List Bool
  | 0, _ => []
  | n + 1, m => (m % 2).beq 1 :: bits n (m / 2)
def un (n : Nat) : List DV := List.replicate n .undef
open Classical in
noncomputable def need (p : Prop) (k : Option DV) : Option DV := if p then k else none
end Go.Proofs.Ytmfgdnagmacgdaa.Dv
