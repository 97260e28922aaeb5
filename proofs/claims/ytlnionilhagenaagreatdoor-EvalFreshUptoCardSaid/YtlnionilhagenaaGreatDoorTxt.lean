/- Printed by gen.py (my own program): Lean functions with the answers of the Go functions, and the proofs that the code comes to them. -/
import Derived.Test.YtlnionilhagenaaGreatDoorDerr
namespace Go.Proofs.YtlnionilhagenaaGreatDoor
open Go.RowKit
set_option linter.all false
set_option maxRecDepth 100000
set_option maxHeartbeats 4000000
theorem Tryz.mixedTxt : Tryz.prog.follows .mixedOrders = true := by kernel_rfl

/- internal/stringslite.HasPrefix -/
def s_stringslite_HasPrefix (s : ByteArray) (prefix_ : ByteArray) : Option (Bool) :=
  (opt (decide ((prefix_.size : Int) ≤ (s.size : Int))) (subS s 0 (prefix_.size : Int)) (ByteArray.mk #[])).bind fun x5 =>
  some ((decide ((prefix_.size : Int) ≤ (s.size : Int))) && (x5.toList == prefix_.toList))
theorem t_stringslite_HasPrefix {s : ByteArray} {prefix_ : ByteArray} {r : Bool}
    (hs : s_stringslite_HasPrefix s prefix_ = some r) :
    TriV Tryz.prog 121 [.string s, .string prefix_] [] (.bool r) [] := by
  unfold s_stringslite_HasPrefix at hs
  refine TriL.of Tryz.func121 rfl Tryz.ntmps121 Tryz.results121 rfl (fun w0 F => ?_)
  refine WP.seq ?_
  refine WP.region ?_
  refine WO.val (PO.assign rfl) rfl ?_
  refine WO.nil ?_
  refine WP.seq ?_
  refine WP.regionG (D := [some 5, some 6, some 7, some 8, some 9, some 10, some 11, some 12, some 13, some 14, some 15, some 16, some 17, some 4]) rfl ?_
  refine WO.val (PO.move rfl) rfl ?_
  refine WO.val (PO.lenS rfl Tryz.runUnderlying9) rfl ?_
  refine WO.val (PO.move rfl) rfl ?_
  refine WO.val (PO.lenS rfl Tryz.runUnderlying9) rfl ?_
  refine WO.val (PO.geq rfl rfl) rfl ?_
  refine WO.val (PO.move rfl) rfl ?_
  refine WO.guardT rfl rfl (fun hg1 => (PO.move rfl).vo) rfl ?_
  refine WO.guardT rfl rfl (fun hg2 => (PO.move rfl).vo) rfl ?_
  refine WO.guardT rfl rfl (fun hg3 => (PO.lenS (evg hg3 rfl) Tryz.runUnderlying9).vo) rfl ?_
  obtain ⟨x5, hx5, hs⟩ := bind_elim hs
  refine WO.guardT rfl rfl (fun hg4 => (PO.strHo (evg hg4 rfl) (evg hg4 rfl) Tryz.underlying9 (opt_t hx5 hg4)).vo) rfl ?_
  refine WO.guardT rfl rfl (fun hg6 => (PO.move rfl).vo) rfl ?_
  refine WO.guardT rfl rfl (fun hg7 => (PO.seql (evg hg7 rfl) (evg hg7 rfl)).vo) rfl ?_
  refine WO.val (PO.pickA rfl rfl rfl) rfl ?_
  refine WO.val (PO.assign rfl) rfl ?_
  refine WO.nil ?_
  refine WP.ret ?_
  obtain rfl := Option.some.inj hs
  exact ⟨_, _, _, Res.one (RV.tmp rfl), ⟨rfl, rfl⟩, fun _ s => s⟩
attribute [irreducible] s_stringslite_HasPrefix

/- internal/stringslite.CutPrefix -/
def s_stringslite_CutPrefix (s : ByteArray) (prefix_ : ByteArray) : Option (ByteArray × Bool) :=
  (s_stringslite_HasPrefix s prefix_).bind fun x1 =>
  cond (!x1)
    (some (s, false))
    ((subS s (prefix_.size : Int) (s.size : Int)).bind fun x3 =>
    some (x3, true))
theorem t_stringslite_CutPrefix {s : ByteArray} {prefix_ : ByteArray} {r : ByteArray × Bool}
    (hs : s_stringslite_CutPrefix s prefix_ = some r) :
    TriV Tryz.prog 106 [.string s, .string prefix_] [] (.tuple #[.string r.1, .bool r.2]) [] := by
  unfold s_stringslite_CutPrefix at hs
  refine TriL.of Tryz.func106 rfl Tryz.ntmps106 Tryz.results106 rfl (fun w0 F => ?_)
  refine WP.seq ?_
  refine WP.region ?_
  refine WO.val (PO.assign rfl) rfl ?_
  refine WO.val (PO.assign rfl) rfl ?_
  refine WO.nil ?_
  refine WP.seq ?_
  refine WP.seq ?_
  refine WP.region ?_
  refine WO.val (PO.move rfl) rfl ?_
  refine WO.val (PO.move rfl) rfl ?_
  obtain ⟨x1, hx1, hs⟩ := bind_elim hs
  refine WO.vo (VO.call0 Tryz.call121 rfl (t_stringslite_HasPrefix hx1)) rfl ?_
  refine WO.val (PO.not rfl) rfl ?_
  refine WO.nil ?_
  refine WP.cond rfl (fun h2 => ?_) (fun h2 => ?_)
  · replace hs := cond_t h2 hs
    refine WP.seq ?_
    refine WP.region ?_
    refine WO.val (PO.move rfl) rfl ?_
    refine WO.val (PO.assign rfl) rfl ?_
    refine WO.val (PO.assign rfl) rfl ?_
    refine WO.nil ?_
    refine WP.ret ?_
    obtain rfl := Option.some.inj hs
    exact ⟨_, _, _, Res.two (RV.tmp rfl) (RV.tmp rfl), ⟨rfl, rfl⟩, fun _ s => s⟩
  · replace hs := cond_f h2 hs
    refine WP.skip ?_
    refine WP.seq ?_
    refine WP.region ?_
    refine WO.val (PO.move rfl) rfl ?_
    refine WO.val (PO.move rfl) rfl ?_
    refine WO.val (PO.lenS rfl Tryz.runUnderlying9) rfl ?_
    obtain ⟨x3, hx3, hs⟩ := bind_elim hs
    refine WO.val (PO.strLo rfl rfl Tryz.underlying9 hx3) rfl ?_
    refine WO.val (PO.assign rfl) rfl ?_
    refine WO.val (PO.assign rfl) rfl ?_
    refine WO.nil ?_
    refine WP.ret ?_
    obtain rfl := Option.some.inj hs
    exact ⟨_, _, _, Res.two (RV.tmp rfl) (RV.tmp rfl), ⟨rfl, rfl⟩, fun _ s => s⟩
attribute [irreducible] s_stringslite_CutPrefix

/- strings.CutPrefix -/
def s_strings_CutPrefix (s : ByteArray) (prefix_ : ByteArray) : Option (ByteArray × Bool) :=
  (s_stringslite_CutPrefix s prefix_).bind fun x1 =>
  some (x1.1, x1.2)
theorem t_strings_CutPrefix {s : ByteArray} {prefix_ : ByteArray} {r : ByteArray × Bool}
    (hs : s_strings_CutPrefix s prefix_ = some r) :
    TriV Tryz.prog 90 [.string s, .string prefix_] [] (.tuple #[.string r.1, .bool r.2]) [] := by
  unfold s_strings_CutPrefix at hs
  refine TriL.of Tryz.func90 rfl Tryz.ntmps90 Tryz.results90 rfl (fun w0 F => ?_)
  refine WP.seq ?_
  refine WP.region ?_
  refine WO.val (PO.assign rfl) rfl ?_
  refine WO.val (PO.assign rfl) rfl ?_
  refine WO.nil ?_
  refine WP.seq ?_
  refine WP.region ?_
  refine WO.val (PO.move rfl) rfl ?_
  refine WO.val (PO.move rfl) rfl ?_
  obtain ⟨x1, hx1, hs⟩ := bind_elim hs
  refine WO.vo (VO.call0 Tryz.call106 rfl (t_stringslite_CutPrefix hx1)) rfl ?_
  refine WO.val (PO.extract rfl rfl) rfl ?_
  refine WO.val (PO.extract rfl rfl) rfl ?_
  refine WO.val (PO.assign rfl) rfl ?_
  refine WO.val (PO.assign rfl) rfl ?_
  refine WO.nil ?_
  refine WP.ret ?_
  obtain rfl := Option.some.inj hs
  exact ⟨_, _, _, Res.two (RV.tmp rfl) (RV.tmp rfl), ⟨rfl, rfl⟩, fun _ s => s⟩
attribute [irreducible] s_strings_CutPrefix

/- internal/strconv.lower -/
def s_strconv_lower (c : Int) : Int :=
  (bits .or .u8 c 32)
theorem t_strconv_lower {c : Int} {r : Int}
    (hs : s_strconv_lower c = r) :
    TriV Tryz.prog 122 [.int .u8 c] [] (.int .u8 r) [] := by
  unfold s_strconv_lower at hs
  refine TriL.of Tryz.func122 rfl Tryz.ntmps122 Tryz.results122 rfl (fun w0 F => ?_)
  refine WP.seq ?_
  refine WP.region ?_
  refine WO.val (PO.assign rfl) rfl ?_
  refine WO.nil ?_
  refine WP.seq ?_
  refine WP.region ?_
  refine WO.val (PO.move rfl) rfl ?_
  refine WO.val (PO.or rfl rfl) rfl ?_
  refine WO.val (PO.assign rfl) rfl ?_
  refine WO.nil ?_
  refine WP.ret ?_
  cases hs
  exact ⟨_, _, _, Res.one (RV.tmp rfl), ⟨rfl, rfl⟩, fun _ s => s⟩
attribute [irreducible] s_strconv_lower

/- internal/strconv.underscoreOK -/
def s_strconv_underscoreOK_l0 (x12 : ByteArray) (x41 : Int) : Nat → Int → Int → Option (Bool)
  | 0, _, _ => none
  | c42_k + 1, c42_0, c42_1 =>
    cond (decide (c42_0 < (x12.size : Int)))
      ((byteAt x12 c42_0).bind fun x44 =>
      (byteAt x12 c42_0).bind fun x48 =>
      (byteAt x12 c42_0).bind fun x55 =>
      lt (s_strconv_lower x55) fun x57 =>
      (byteAt x12 c42_0).bind fun x64 =>
      lt (s_strconv_lower x64) fun x66 =>
      cond (((decide (48 ≤ x44)) && (decide (x48 ≤ 57))) || (((x41 == 120) && (decide (97 ≤ x57))) && (decide (x66 ≤ 102))))
        (s_strconv_underscoreOK_l0 x12 x41 c42_k (IntKind.i64.wrap (c42_0 + 1)) 48)
        ((byteAt x12 c42_0).bind fun x70 =>
        cond (x70 == 95)
          (cond (c42_1 != 48)
            (some false)
            (s_strconv_underscoreOK_l0 x12 x41 c42_k (IntKind.i64.wrap (c42_0 + 1)) 95))
          (cond (c42_1 == 95)
            (some false)
            (s_strconv_underscoreOK_l0 x12 x41 c42_k (IntKind.i64.wrap (c42_0 + 1)) 33))))
      (some (c42_1 != 95))
def s_strconv_underscoreOK_l1 (x12 : ByteArray) : Nat → Int → Int → Option (Bool)
  | 0, _, _ => none
  | c74_k + 1, c74_0, c74_1 =>
    cond (decide (c74_1 < (x12.size : Int)))
      ((byteAt x12 c74_1).bind fun x76 =>
      (byteAt x12 c74_1).bind fun x80 =>
      (byteAt x12 c74_1).bind fun x87 =>
      lt (s_strconv_lower x87) fun x89 =>
      (byteAt x12 c74_1).bind fun x96 =>
      lt (s_strconv_lower x96) fun x98 =>
      cond (((decide (48 ≤ x76)) && (decide (x80 ≤ 57))) || false)
        (s_strconv_underscoreOK_l1 x12 c74_k 48 (IntKind.i64.wrap (c74_1 + 1)))
        ((byteAt x12 c74_1).bind fun x102 =>
        cond (x102 == 95)
          (cond (c74_0 != 48)
            (some false)
            (s_strconv_underscoreOK_l1 x12 c74_k 95 (IntKind.i64.wrap (c74_1 + 1))))
          (cond (c74_0 == 95)
            (some false)
            (s_strconv_underscoreOK_l1 x12 c74_k 33 (IntKind.i64.wrap (c74_1 + 1))))))
      (some (c74_0 != 95))
def s_strconv_underscoreOK_l2 (String : ByteArray) (x134 : Int) : Nat → Int → Int → Option (Bool)
  | 0, _, _ => none
  | c135_k + 1, c135_0, c135_1 =>
    cond (decide (c135_0 < (String.size : Int)))
      ((byteAt String c135_0).bind fun x137 =>
      (byteAt String c135_0).bind fun x141 =>
      (byteAt String c135_0).bind fun x148 =>
      lt (s_strconv_lower x148) fun x150 =>
      (byteAt String c135_0).bind fun x157 =>
      lt (s_strconv_lower x157) fun x159 =>
      cond (((decide (48 ≤ x137)) && (decide (x141 ≤ 57))) || (((x134 == 120) && (decide (97 ≤ x150))) && (decide (x159 ≤ 102))))
        (s_strconv_underscoreOK_l2 String x134 c135_k (IntKind.i64.wrap (c135_0 + 1)) 48)
        ((byteAt String c135_0).bind fun x163 =>
        cond (x163 == 95)
          (cond (c135_1 != 48)
            (some false)
            (s_strconv_underscoreOK_l2 String x134 c135_k (IntKind.i64.wrap (c135_0 + 1)) 95))
          (cond (c135_1 == 95)
            (some false)
            (s_strconv_underscoreOK_l2 String x134 c135_k (IntKind.i64.wrap (c135_0 + 1)) 33))))
      (some (c135_1 != 95))
def s_strconv_underscoreOK_l3 (String : ByteArray) : Nat → Int → Int → Option (Bool)
  | 0, _, _ => none
  | c167_k + 1, c167_0, c167_1 =>
    cond (decide (c167_1 < (String.size : Int)))
      ((byteAt String c167_1).bind fun x169 =>
      (byteAt String c167_1).bind fun x173 =>
      (byteAt String c167_1).bind fun x180 =>
      lt (s_strconv_lower x180) fun x182 =>
      (byteAt String c167_1).bind fun x189 =>
      lt (s_strconv_lower x189) fun x191 =>
      cond (((decide (48 ≤ x169)) && (decide (x173 ≤ 57))) || false)
        (s_strconv_underscoreOK_l3 String c167_k 48 (IntKind.i64.wrap (c167_1 + 1)))
        ((byteAt String c167_1).bind fun x195 =>
        cond (x195 == 95)
          (cond (c167_0 != 48)
            (some false)
            (s_strconv_underscoreOK_l3 String c167_k 95 (IntKind.i64.wrap (c167_1 + 1))))
          (cond (c167_0 == 95)
            (some false)
            (s_strconv_underscoreOK_l3 String c167_k 33 (IntKind.i64.wrap (c167_1 + 1))))))
      (some (c167_0 != 95))
def s_strconv_underscoreOK (k : Nat) (String : ByteArray) : Option (Bool) :=
  (byteAt String 0).bind fun x3 =>
  (byteAt String 0).bind fun x8 =>
  cond ((decide (1 ≤ (String.size : Int))) && ((x3 == 45) || (x8 == 43)))
    ((subS String 1 (String.size : Int)).bind fun x12 =>
    (byteAt x12 0).bind fun x15 =>
    (byteAt x12 1).bind fun x19 =>
    lt (s_strconv_lower x19) fun x21 =>
    (byteAt x12 1).bind fun x26 =>
    lt (s_strconv_lower x26) fun x28 =>
    (byteAt x12 1).bind fun x34 =>
    lt (s_strconv_lower x34) fun x36 =>
    cond (((decide (2 ≤ (x12.size : Int))) && (x15 == 48)) && (((x21 == 98) || (x28 == 111)) || (x36 == 120)))
      ((byteAt x12 1).bind fun x40 =>
      lt (s_strconv_lower x40) fun x41 =>
      s_strconv_underscoreOK_l0 x12 x41 k 2 48)
      (s_strconv_underscoreOK_l1 x12 k 94 0))
    ((byteAt String 0).bind fun x108 =>
    (byteAt String 1).bind fun x112 =>
    lt (s_strconv_lower x112) fun x114 =>
    (byteAt String 1).bind fun x119 =>
    lt (s_strconv_lower x119) fun x121 =>
    (byteAt String 1).bind fun x127 =>
    lt (s_strconv_lower x127) fun x129 =>
    cond (((decide (2 ≤ (String.size : Int))) && (x108 == 48)) && (((x114 == 98) || (x121 == 111)) || (x129 == 120)))
      ((byteAt String 1).bind fun x133 =>
      lt (s_strconv_lower x133) fun x134 =>
      s_strconv_underscoreOK_l2 String x134 k 2 48)
      (s_strconv_underscoreOK_l3 String k 94 0))
theorem t_strconv_underscoreOK {k : Nat} {String : ByteArray} {r : Bool}
    (hs : s_strconv_underscoreOK k String = some r) :
    TriV Tryz.prog 123 [.string String] [] (.bool r) [] := by
  unfold s_strconv_underscoreOK at hs
  refine TriL.of Tryz.func123 rfl Tryz.ntmps123 Tryz.results123 rfl (fun w0 F => ?_)
  refine WP.seq ?_
  refine WP.region ?_
  refine WO.val (PO.assign rfl) rfl ?_
  refine WO.nil ?_
  refine WP.seq ?_
  refine WP.region ?_
  refine WO.val (PO.assign rfl) rfl ?_
  refine WO.nil ?_
  refine WP.seq ?_
  refine WP.region ?_
  refine WO.val (PO.assign rfl) rfl ?_
  refine WO.nil ?_
  refine WP.seq ?_
  refine WP.seq ?_
  refine WP.regionG (D := [some 6, some 7, some 8, some 9, some 10, some 11, some 12, some 13, some 14, some 15, some 16, some 17, some 18]) rfl ?_
  refine WO.val (PO.move rfl) rfl ?_
  refine WO.val (PO.lenS rfl Tryz.runUnderlying9) rfl ?_
  refine WO.val (PO.geq rfl rfl) rfl ?_
  refine WO.val (PO.move rfl) rfl ?_
  refine WO.guardT rfl rfl (fun hg1 => (PO.move rfl).vo) rfl ?_
  obtain ⟨x3, hx3, hs⟩ := bind_elim hs
  refine WO.guardT rfl rfl (fun hg2 => (PO.idxStr (evg hg2 rfl) rfl Tryz.runUnderlying9 hx3).vo) rfl ?_
  refine WO.guardT rfl rfl (fun hg4 => (PO.eql (evg hg4 rfl) rfl).vo) rfl ?_
  refine WO.guardT rfl rfl (fun hg5 => (PO.move (evg hg5 rfl)).vo) rfl ?_
  refine WO.guardGF rfl rfl (fun hg6 => (PO.move rfl).vo) rfl ?_
  obtain ⟨x8, hx8, hs⟩ := bind_elim hs
  refine WO.guardGF rfl rfl (fun hg7 => (PO.idxStr (evg hg7 rfl) rfl Tryz.runUnderlying9 hx8).vo) rfl ?_
  refine WO.guardGF rfl rfl (fun hg9 => (PO.eql (evg hg9 rfl) rfl).vo) rfl ?_
  refine WO.guardT rfl rfl (fun hg10 => (PO.pickOG hg10 (evg hg10 rfl) rfl rfl).vo) rfl ?_
  refine WO.val (PO.pickA rfl rfl rfl) rfl ?_
  refine WO.nil ?_
  refine WP.cond rfl (fun h11 => ?_) (fun h11 => ?_)
  · replace hs := cond_t h11 hs
    refine WP.region ?_
    refine WO.val (PO.move rfl) rfl ?_
    obtain ⟨x12, hx12, hs⟩ := bind_elim hs
    refine WO.val (PO.strLo rfl rfl Tryz.underlying9 hx12) rfl ?_
    refine WO.val (PO.assign rfl) rfl ?_
    refine WO.nil ?_
    refine WP.seq ?_
    refine WP.region ?_
    refine WO.val (PO.assign rfl) rfl ?_
    refine WO.nil ?_
    refine WP.seq ?_
    refine WP.seq ?_
    refine WP.regionG (D := [some 21, some 22, some 23, some 24, some 25, some 26, some 27, some 28, some 29, some 30, some 31, some 32, some 33, some 34, some 35, some 36, some 37, some 38, some 39, some 40, some 41, some 42, some 43, some 44, some 45, some 46]) rfl ?_
    refine WO.val (PO.move rfl) rfl ?_
    refine WO.val (PO.lenS rfl Tryz.runUnderlying9) rfl ?_
    refine WO.val (PO.geq rfl rfl) rfl ?_
    refine WO.val (PO.move rfl) rfl ?_
    refine WO.guardT rfl rfl (fun hg13 => (PO.move rfl).vo) rfl ?_
    obtain ⟨x15, hx15, hs⟩ := bind_elim hs
    refine WO.guardT rfl rfl (fun hg14 => (PO.idxStr (evg hg14 rfl) rfl Tryz.runUnderlying9 hx15).vo) rfl ?_
    refine WO.guardT rfl rfl (fun hg16 => (PO.eql (evg hg16 rfl) rfl).vo) rfl ?_
    refine WO.val (PO.pickA rfl rfl rfl) rfl ?_
    refine WO.val (PO.move rfl) rfl ?_
    refine WO.guardT rfl rfl (fun hg17 => (PO.move rfl).vo) rfl ?_
    obtain ⟨x19, hx19, hs⟩ := bind_elim hs
    refine WO.guardT rfl rfl (fun hg18 => (PO.idxStr (evg hg18 rfl) rfl Tryz.runUnderlying9 hx19).vo) rfl ?_
    obtain ⟨x21, hx21, hs⟩ := lt_elim hs
    refine WO.guardT rfl rfl (fun hg20 => VO.call0 Tryz.call122 (evs_cons (evg hg20 rfl) evs_nil) (t_strconv_lower hx21)) rfl ?_
    refine WO.guardT rfl rfl (fun hg22 => (PO.eql (evg hg22 rfl) rfl).vo) rfl ?_
    refine WO.guardT rfl rfl (fun hg23 => (PO.move (evg hg23 rfl)).vo) rfl ?_
    refine WO.guardGF rfl rfl (fun hg24 => (PO.move rfl).vo) rfl ?_
    obtain ⟨x26, hx26, hs⟩ := bind_elim hs
    refine WO.guardGF rfl rfl (fun hg25 => (PO.idxStr (evg hg25 rfl) rfl Tryz.runUnderlying9 hx26).vo) rfl ?_
    obtain ⟨x28, hx28, hs⟩ := lt_elim hs
    refine WO.guardGF rfl rfl (fun hg27 => VO.call0 Tryz.call122 (evs_cons (evg hg27 rfl) evs_nil) (t_strconv_lower hx28)) rfl ?_
    refine WO.guardGF rfl rfl (fun hg29 => (PO.eql (evg hg29 rfl) rfl).vo) rfl ?_
    refine WO.guardT rfl rfl (fun hg30 => (PO.pickOG hg30 (evg hg30 rfl) rfl rfl).vo) rfl ?_
    refine WO.guardT rfl rfl (fun hg31 => (PO.move (evg hg31 rfl)).vo) rfl ?_
    refine WO.guardGF rfl rfl (fun hg32 => (PO.move rfl).vo) rfl ?_
    obtain ⟨x34, hx34, hs⟩ := bind_elim hs
    refine WO.guardGF rfl rfl (fun hg33 => (PO.idxStr (evg hg33 rfl) rfl Tryz.runUnderlying9 hx34).vo) rfl ?_
    obtain ⟨x36, hx36, hs⟩ := lt_elim hs
    refine WO.guardGF rfl rfl (fun hg35 => VO.call0 Tryz.call122 (evs_cons (evg hg35 rfl) evs_nil) (t_strconv_lower hx36)) rfl ?_
    refine WO.guardGF rfl rfl (fun hg37 => (PO.eql (evg hg37 rfl) rfl).vo) rfl ?_
    refine WO.guardT rfl rfl (fun hg38 => (PO.pickOG hg38 (evg hg38 rfl) rfl rfl).vo) rfl ?_
    refine WO.val (PO.pickA rfl rfl rfl) rfl ?_
    refine WO.nil ?_
    refine WP.cond rfl (fun h39 => ?_) (fun h39 => ?_)
    · replace hs := cond_t h39 hs
      refine WP.seq ?_
      refine WP.region ?_
      refine WO.val (PO.assign rfl) rfl ?_
      refine WO.nil ?_
      refine WP.seq ?_
      refine WP.region ?_
      refine WO.val (PO.assign rfl) rfl ?_
      refine WO.nil ?_
      refine WP.region ?_
      refine WO.val (PO.move rfl) rfl ?_
      obtain ⟨x40, hx40, hs⟩ := bind_elim hs
      refine WO.val (PO.idxStr rfl rfl Tryz.runUnderlying9 hx40) rfl ?_
      obtain ⟨x41, hx41, hs⟩ := lt_elim hs
      refine WO.vo (VO.call0 Tryz.call122 rfl (t_strconv_lower hx41)) rfl ?_
      refine WO.val (PO.eql rfl rfl) rfl ?_
      refine WO.val (PO.assign rfl) rfl ?_
      refine WO.nil ?_
      refine WP.seq ?_
      refine WP.block ?_
      refine WP.loopG (fun c42_k f_ L_ => ∃ (c42_0 : Int) (c42_1 : Int), Holds f_ [(0, .string x12), (2, .bool false), (3, .int .i32 c42_1), (4, .int .i64 c42_0), (5, .bool (x41 == 120))] ∧ L_ = [F] ∧ s_strconv_underscoreOK_l0 x12 x41 c42_k c42_0 c42_1 = some r) k ⟨2, 48, ⟨rfl, rfl, rfl, rfl, rfl, trivial⟩, rfl, hs⟩ ?_
      rintro c42_k f_ L_ ⟨c42_0, c42_1, hf_, rfl, hs⟩
      refine WP.keep [(0, .string x12), (2, .bool false), (3, .int .i32 c42_1), (4, .int .i64 c42_0), (5, .bool (x41 == 120))] hf_ ?_
      cases c42_k with
      | zero => exact nomatch (show none = some r from hs)
      | succ c42_k =>
        rw [s_strconv_underscoreOK_l0.eq_2] at hs
        refine WP.seq ?_
        refine WP.seq ?_
        refine WP.region ?_
        refine WO.val (PO.move rfl) rfl ?_
        refine WO.val (PO.move rfl) rfl ?_
        refine WO.val (PO.lenS rfl Tryz.runUnderlying9) rfl ?_
        refine WO.val (PO.lss rfl rfl) rfl ?_
        refine WO.nil ?_
        refine WP.cond rfl (fun h43 => ?_) (fun h43 => ?_)
        · replace hs := cond_t h43 hs
          refine WP.skip ?_
          refine WP.seq ?_
          refine WP.block ?_
          refine WP.seq ?_
          refine WP.seq ?_
          refine WP.regionG (D := [some 57, some 58, some 59, some 60, some 61, some 62, some 63, some 64, some 65, some 66, some 67, some 68, some 69, some 70, some 71, some 72, some 73, some 74, some 75, some 76, some 77, some 78, some 79, some 80, some 81, some 82, some 83]) rfl ?_
          refine WO.val (PO.move rfl) rfl ?_
          refine WO.val (PO.move rfl) rfl ?_
          obtain ⟨x44, hx44, hs⟩ := bind_elim hs
          refine WO.val (PO.idxStr rfl rfl Tryz.runUnderlying9 hx44) rfl ?_
          refine WO.val (PO.leq rfl rfl) rfl ?_
          refine WO.val (PO.move rfl) rfl ?_
          refine WO.guardT rfl rfl (fun hg45 => (PO.move rfl).vo) rfl ?_
          refine WO.guardT rfl rfl (fun hg46 => (PO.move rfl).vo) rfl ?_
          obtain ⟨x48, hx48, hs⟩ := bind_elim hs
          refine WO.guardT rfl rfl (fun hg47 => (PO.idxStr (evg hg47 rfl) (evg hg47 rfl) Tryz.runUnderlying9 hx48).vo) rfl ?_
          refine WO.guardT rfl rfl (fun hg49 => (PO.leq (evg hg49 rfl) rfl).vo) rfl ?_
          refine WO.val (PO.pickA rfl rfl rfl) rfl ?_
          refine WO.val (PO.move rfl) rfl ?_
          refine WO.guardF rfl rfl (fun hg50 => (PO.move rfl).vo) rfl ?_
          refine WO.guardF rfl rfl (fun hg51 => (PO.move (evg hg51 rfl)).vo) rfl ?_
          refine WO.guardGT rfl rfl (fun hg52 => (PO.move rfl).vo) rfl ?_
          refine WO.guardGT rfl rfl (fun hg53 => (PO.move rfl).vo) rfl ?_
          obtain ⟨x55, hx55, hs⟩ := bind_elim hs
          refine WO.guardGT rfl rfl (fun hg54 => (PO.idxStr (evg hg54 rfl) (evg hg54 rfl) Tryz.runUnderlying9 hx55).vo) rfl ?_
          obtain ⟨x57, hx57, hs⟩ := lt_elim hs
          refine WO.guardGT rfl rfl (fun hg56 => VO.call0 Tryz.call122 (evs_cons (evg hg56 rfl) evs_nil) (t_strconv_lower hx57)) rfl ?_
          refine WO.guardGT rfl rfl (fun hg58 => (PO.leq rfl (evg hg58 rfl)).vo) rfl ?_
          refine WO.guardF rfl rfl (fun hg59 => (PO.pickAG hg59 (evg hg59 rfl) rfl rfl).vo) rfl ?_
          refine WO.guardF rfl rfl (fun hg60 => (PO.move (evg hg60 rfl)).vo) rfl ?_
          refine WO.guardGT rfl rfl (fun hg61 => (PO.move rfl).vo) rfl ?_
          refine WO.guardGT rfl rfl (fun hg62 => (PO.move rfl).vo) rfl ?_
          obtain ⟨x64, hx64, hs⟩ := bind_elim hs
          refine WO.guardGT rfl rfl (fun hg63 => (PO.idxStr (evg hg63 rfl) (evg hg63 rfl) Tryz.runUnderlying9 hx64).vo) rfl ?_
          obtain ⟨x66, hx66, hs⟩ := lt_elim hs
          refine WO.guardGT rfl rfl (fun hg65 => VO.call0 Tryz.call122 (evs_cons (evg hg65 rfl) evs_nil) (t_strconv_lower hx66)) rfl ?_
          refine WO.guardGT rfl rfl (fun hg67 => (PO.leq (evg hg67 rfl) rfl).vo) rfl ?_
          refine WO.guardF rfl rfl (fun hg68 => (PO.pickAG hg68 (evg hg68 rfl) rfl rfl).vo) rfl ?_
          refine WO.val (PO.pickO rfl rfl rfl) rfl ?_
          refine WO.nil ?_
          refine WP.cond rfl (fun h69 => ?_) (fun h69 => ?_)
          · replace hs := cond_t h69 hs
            refine WP.seq ?_
            refine WP.region ?_
            refine WO.val (PO.assign rfl) rfl ?_
            refine WO.nil ?_
            refine WP.exit (inX.hit ?_)
            refine WP.region ?_
            refine WO.val (PO.move rfl) rfl ?_
            refine WO.val (PO.add rfl rfl) rfl ?_
            refine WO.val (PO.assign rfl) rfl ?_
            refine WO.nil ?_
            exact ⟨c42_k, _, Nat.lt_succ_self _, ⟨(IntKind.i64.wrap (c42_0 + 1)), 48, ⟨rfl, rfl, rfl, rfl, rfl, trivial⟩, rfl, hs⟩, fun _ s => s.pre⟩
          · replace hs := cond_f h69 hs
            refine WP.skip ?_
            refine WP.seq ?_
            refine WP.seq ?_
            refine WP.region ?_
            refine WO.val (PO.move rfl) rfl ?_
            refine WO.val (PO.move rfl) rfl ?_
            obtain ⟨x70, hx70, hs⟩ := bind_elim hs
            refine WO.val (PO.idxStr rfl rfl Tryz.runUnderlying9 hx70) rfl ?_
            refine WO.val (PO.eql rfl rfl) rfl ?_
            refine WO.nil ?_
            refine WP.cond rfl (fun h71 => ?_) (fun h71 => ?_)
            · replace hs := cond_t h71 hs
              refine WP.seq ?_
              refine WP.seq ?_
              refine WP.region ?_
              refine WO.val (PO.move rfl) rfl ?_
              refine WO.val (PO.neq rfl rfl) rfl ?_
              refine WO.nil ?_
              refine WP.cond rfl (fun h72 => ?_) (fun h72 => ?_)
              · replace hs := cond_t h72 hs
                refine WP.seq ?_
                refine WP.region ?_
                refine WO.val (PO.assign rfl) rfl ?_
                refine WO.nil ?_
                refine WP.ret ?_
                obtain rfl := Option.some.inj hs
                exact ⟨_, _, _, Res.one (RV.tmp rfl), ⟨rfl, rfl⟩, fun _ s => s⟩
              · replace hs := cond_f h72 hs
                refine WP.skip ?_
                refine WP.seq ?_
                refine WP.region ?_
                refine WO.val (PO.assign rfl) rfl ?_
                refine WO.nil ?_
                refine WP.exit (inX.hit ?_)
                refine WP.region ?_
                refine WO.val (PO.move rfl) rfl ?_
                refine WO.val (PO.add rfl rfl) rfl ?_
                refine WO.val (PO.assign rfl) rfl ?_
                refine WO.nil ?_
                exact ⟨c42_k, _, Nat.lt_succ_self _, ⟨(IntKind.i64.wrap (c42_0 + 1)), 95, ⟨rfl, rfl, rfl, rfl, rfl, trivial⟩, rfl, hs⟩, fun _ s => s.pre⟩
            · replace hs := cond_f h71 hs
              refine WP.skip ?_
              refine WP.seq ?_
              refine WP.seq ?_
              refine WP.region ?_
              refine WO.val (PO.move rfl) rfl ?_
              refine WO.val (PO.eql rfl rfl) rfl ?_
              refine WO.nil ?_
              refine WP.cond rfl (fun h73 => ?_) (fun h73 => ?_)
              · replace hs := cond_t h73 hs
                refine WP.seq ?_
                refine WP.region ?_
                refine WO.val (PO.assign rfl) rfl ?_
                refine WO.nil ?_
                refine WP.ret ?_
                obtain rfl := Option.some.inj hs
                exact ⟨_, _, _, Res.one (RV.tmp rfl), ⟨rfl, rfl⟩, fun _ s => s⟩
              · replace hs := cond_f h73 hs
                refine WP.skip ?_
                refine WP.region ?_
                refine WO.val (PO.assign rfl) rfl ?_
                refine WO.nil ?_
                refine WP.region ?_
                refine WO.val (PO.move rfl) rfl ?_
                refine WO.val (PO.add rfl rfl) rfl ?_
                refine WO.val (PO.assign rfl) rfl ?_
                refine WO.nil ?_
                exact ⟨c42_k, _, Nat.lt_succ_self _, ⟨(IntKind.i64.wrap (c42_0 + 1)), 33, ⟨rfl, rfl, rfl, rfl, rfl, trivial⟩, rfl, hs⟩, fun _ s => s.pre⟩
        · replace hs := cond_f h43 hs
          refine WP.exit (inX.hit ?_)
          refine WP.seq ?_
          refine WP.region ?_
          refine WO.val (PO.move rfl) rfl ?_
          refine WO.val (PO.neq rfl rfl) rfl ?_
          refine WO.val (PO.assign rfl) rfl ?_
          refine WO.nil ?_
          refine WP.ret ?_
          obtain rfl := Option.some.inj hs
          exact ⟨_, _, _, Res.one (RV.tmp rfl), ⟨rfl, rfl⟩, fun _ s => s⟩
    · replace hs := cond_f h39 hs
      refine WP.skip ?_
      refine WP.seq ?_
      refine WP.block ?_
      refine WP.loopG (fun c74_k f_ L_ => ∃ (c74_0 : Int) (c74_1 : Int), Holds f_ [(0, .string x12), (2, .bool false), (3, .int .i32 c74_0), (4, .int .i64 c74_1), (5, .bool false)] ∧ L_ = [F] ∧ s_strconv_underscoreOK_l1 x12 c74_k c74_0 c74_1 = some r) k ⟨94, 0, ⟨rfl, rfl, rfl, rfl, rfl, trivial⟩, rfl, hs⟩ ?_
      rintro c74_k f_ L_ ⟨c74_0, c74_1, hf_, rfl, hs⟩
      refine WP.keep [(0, .string x12), (2, .bool false), (3, .int .i32 c74_0), (4, .int .i64 c74_1), (5, .bool false)] hf_ ?_
      cases c74_k with
      | zero => exact nomatch (show none = some r from hs)
      | succ c74_k =>
        rw [s_strconv_underscoreOK_l1.eq_2] at hs
        refine WP.seq ?_
        refine WP.seq ?_
        refine WP.region ?_
        refine WO.val (PO.move rfl) rfl ?_
        refine WO.val (PO.move rfl) rfl ?_
        refine WO.val (PO.lenS rfl Tryz.runUnderlying9) rfl ?_
        refine WO.val (PO.lss rfl rfl) rfl ?_
        refine WO.nil ?_
        refine WP.cond rfl (fun h75 => ?_) (fun h75 => ?_)
        · replace hs := cond_t h75 hs
          refine WP.skip ?_
          refine WP.seq ?_
          refine WP.block ?_
          refine WP.seq ?_
          refine WP.seq ?_
          refine WP.regionG (D := [some 57, some 58, some 59, some 60, some 61, some 62, some 63, some 64, some 65, some 66, some 67, some 68, some 69, some 70, some 71, some 72, some 73, some 74, some 75, some 76, some 77, some 78, some 79, some 80, some 81, some 82, some 83]) rfl ?_
          refine WO.val (PO.move rfl) rfl ?_
          refine WO.val (PO.move rfl) rfl ?_
          obtain ⟨x76, hx76, hs⟩ := bind_elim hs
          refine WO.val (PO.idxStr rfl rfl Tryz.runUnderlying9 hx76) rfl ?_
          refine WO.val (PO.leq rfl rfl) rfl ?_
          refine WO.val (PO.move rfl) rfl ?_
          refine WO.guardT rfl rfl (fun hg77 => (PO.move rfl).vo) rfl ?_
          refine WO.guardT rfl rfl (fun hg78 => (PO.move rfl).vo) rfl ?_
          obtain ⟨x80, hx80, hs⟩ := bind_elim hs
          refine WO.guardT rfl rfl (fun hg79 => (PO.idxStr (evg hg79 rfl) (evg hg79 rfl) Tryz.runUnderlying9 hx80).vo) rfl ?_
          refine WO.guardT rfl rfl (fun hg81 => (PO.leq (evg hg81 rfl) rfl).vo) rfl ?_
          refine WO.val (PO.pickA rfl rfl rfl) rfl ?_
          refine WO.val (PO.move rfl) rfl ?_
          refine WO.guardF rfl rfl (fun hg82 => (PO.move rfl).vo) rfl ?_
          refine WO.guardF rfl rfl (fun hg83 => (PO.move (evg hg83 rfl)).vo) rfl ?_
          refine WO.guardGT rfl rfl (fun hg84 => (PO.move rfl).vo) rfl ?_
          refine WO.guardGT rfl rfl (fun hg85 => (PO.move rfl).vo) rfl ?_
          obtain ⟨x87, hx87, hs⟩ := bind_elim hs
          refine WO.guardGT rfl rfl (fun hg86 => (PO.idxStr (evg hg86 rfl) (evg hg86 rfl) Tryz.runUnderlying9 hx87).vo) rfl ?_
          obtain ⟨x89, hx89, hs⟩ := lt_elim hs
          refine WO.guardGT rfl rfl (fun hg88 => VO.call0 Tryz.call122 (evs_cons (evg hg88 rfl) evs_nil) (t_strconv_lower hx89)) rfl ?_
          refine WO.guardGT rfl rfl (fun hg90 => (PO.leq rfl (evg hg90 rfl)).vo) rfl ?_
          refine WO.guardF rfl rfl (fun hg91 => (PO.pickF (evg hg91 rfl) rfl).vo) rfl ?_
          refine WO.guardF rfl rfl (fun hg92 => (PO.move (evg hg92 rfl)).vo) rfl ?_
          refine WO.guardGT rfl rfl (fun hg93 => (PO.move rfl).vo) rfl ?_
          refine WO.guardGT rfl rfl (fun hg94 => (PO.move rfl).vo) rfl ?_
          obtain ⟨x96, hx96, hs⟩ := bind_elim hs
          refine WO.guardGT rfl rfl (fun hg95 => (PO.idxStr (evg hg95 rfl) (evg hg95 rfl) Tryz.runUnderlying9 hx96).vo) rfl ?_
          obtain ⟨x98, hx98, hs⟩ := lt_elim hs
          refine WO.guardGT rfl rfl (fun hg97 => VO.call0 Tryz.call122 (evs_cons (evg hg97 rfl) evs_nil) (t_strconv_lower hx98)) rfl ?_
          refine WO.guardGT rfl rfl (fun hg99 => (PO.leq (evg hg99 rfl) rfl).vo) rfl ?_
          refine WO.guardF rfl rfl (fun hg100 => (PO.pickF (evg hg100 rfl) rfl).vo) rfl ?_
          refine WO.val (PO.pickO rfl rfl rfl) rfl ?_
          refine WO.nil ?_
          refine WP.cond rfl (fun h101 => ?_) (fun h101 => ?_)
          · replace hs := cond_t h101 hs
            refine WP.seq ?_
            refine WP.region ?_
            refine WO.val (PO.assign rfl) rfl ?_
            refine WO.nil ?_
            refine WP.exit (inX.hit ?_)
            refine WP.region ?_
            refine WO.val (PO.move rfl) rfl ?_
            refine WO.val (PO.add rfl rfl) rfl ?_
            refine WO.val (PO.assign rfl) rfl ?_
            refine WO.nil ?_
            exact ⟨c74_k, _, Nat.lt_succ_self _, ⟨48, (IntKind.i64.wrap (c74_1 + 1)), ⟨rfl, rfl, rfl, rfl, rfl, trivial⟩, rfl, hs⟩, fun _ s => s.pre⟩
          · replace hs := cond_f h101 hs
            refine WP.skip ?_
            refine WP.seq ?_
            refine WP.seq ?_
            refine WP.region ?_
            refine WO.val (PO.move rfl) rfl ?_
            refine WO.val (PO.move rfl) rfl ?_
            obtain ⟨x102, hx102, hs⟩ := bind_elim hs
            refine WO.val (PO.idxStr rfl rfl Tryz.runUnderlying9 hx102) rfl ?_
            refine WO.val (PO.eql rfl rfl) rfl ?_
            refine WO.nil ?_
            refine WP.cond rfl (fun h103 => ?_) (fun h103 => ?_)
            · replace hs := cond_t h103 hs
              refine WP.seq ?_
              refine WP.seq ?_
              refine WP.region ?_
              refine WO.val (PO.move rfl) rfl ?_
              refine WO.val (PO.neq rfl rfl) rfl ?_
              refine WO.nil ?_
              refine WP.cond rfl (fun h104 => ?_) (fun h104 => ?_)
              · replace hs := cond_t h104 hs
                refine WP.seq ?_
                refine WP.region ?_
                refine WO.val (PO.assign rfl) rfl ?_
                refine WO.nil ?_
                refine WP.ret ?_
                obtain rfl := Option.some.inj hs
                exact ⟨_, _, _, Res.one (RV.tmp rfl), ⟨rfl, rfl⟩, fun _ s => s⟩
              · replace hs := cond_f h104 hs
                refine WP.skip ?_
                refine WP.seq ?_
                refine WP.region ?_
                refine WO.val (PO.assign rfl) rfl ?_
                refine WO.nil ?_
                refine WP.exit (inX.hit ?_)
                refine WP.region ?_
                refine WO.val (PO.move rfl) rfl ?_
                refine WO.val (PO.add rfl rfl) rfl ?_
                refine WO.val (PO.assign rfl) rfl ?_
                refine WO.nil ?_
                exact ⟨c74_k, _, Nat.lt_succ_self _, ⟨95, (IntKind.i64.wrap (c74_1 + 1)), ⟨rfl, rfl, rfl, rfl, rfl, trivial⟩, rfl, hs⟩, fun _ s => s.pre⟩
            · replace hs := cond_f h103 hs
              refine WP.skip ?_
              refine WP.seq ?_
              refine WP.seq ?_
              refine WP.region ?_
              refine WO.val (PO.move rfl) rfl ?_
              refine WO.val (PO.eql rfl rfl) rfl ?_
              refine WO.nil ?_
              refine WP.cond rfl (fun h105 => ?_) (fun h105 => ?_)
              · replace hs := cond_t h105 hs
                refine WP.seq ?_
                refine WP.region ?_
                refine WO.val (PO.assign rfl) rfl ?_
                refine WO.nil ?_
                refine WP.ret ?_
                obtain rfl := Option.some.inj hs
                exact ⟨_, _, _, Res.one (RV.tmp rfl), ⟨rfl, rfl⟩, fun _ s => s⟩
              · replace hs := cond_f h105 hs
                refine WP.skip ?_
                refine WP.region ?_
                refine WO.val (PO.assign rfl) rfl ?_
                refine WO.nil ?_
                refine WP.region ?_
                refine WO.val (PO.move rfl) rfl ?_
                refine WO.val (PO.add rfl rfl) rfl ?_
                refine WO.val (PO.assign rfl) rfl ?_
                refine WO.nil ?_
                exact ⟨c74_k, _, Nat.lt_succ_self _, ⟨33, (IntKind.i64.wrap (c74_1 + 1)), ⟨rfl, rfl, rfl, rfl, rfl, trivial⟩, rfl, hs⟩, fun _ s => s.pre⟩
        · replace hs := cond_f h75 hs
          refine WP.exit (inX.hit ?_)
          refine WP.seq ?_
          refine WP.region ?_
          refine WO.val (PO.move rfl) rfl ?_
          refine WO.val (PO.neq rfl rfl) rfl ?_
          refine WO.val (PO.assign rfl) rfl ?_
          refine WO.nil ?_
          refine WP.ret ?_
          obtain rfl := Option.some.inj hs
          exact ⟨_, _, _, Res.one (RV.tmp rfl), ⟨rfl, rfl⟩, fun _ s => s⟩
  · replace hs := cond_f h11 hs
    refine WP.skip ?_
    refine WP.seq ?_
    refine WP.region ?_
    refine WO.val (PO.assign rfl) rfl ?_
    refine WO.nil ?_
    refine WP.seq ?_
    refine WP.seq ?_
    refine WP.regionG (D := [some 21, some 22, some 23, some 24, some 25, some 26, some 27, some 28, some 29, some 30, some 31, some 32, some 33, some 34, some 35, some 36, some 37, some 38, some 39, some 40, some 41, some 42, some 43, some 44, some 45, some 46]) rfl ?_
    refine WO.val (PO.move rfl) rfl ?_
    refine WO.val (PO.lenS rfl Tryz.runUnderlying9) rfl ?_
    refine WO.val (PO.geq rfl rfl) rfl ?_
    refine WO.val (PO.move rfl) rfl ?_
    refine WO.guardT rfl rfl (fun hg106 => (PO.move rfl).vo) rfl ?_
    obtain ⟨x108, hx108, hs⟩ := bind_elim hs
    refine WO.guardT rfl rfl (fun hg107 => (PO.idxStr (evg hg107 rfl) rfl Tryz.runUnderlying9 hx108).vo) rfl ?_
    refine WO.guardT rfl rfl (fun hg109 => (PO.eql (evg hg109 rfl) rfl).vo) rfl ?_
    refine WO.val (PO.pickA rfl rfl rfl) rfl ?_
    refine WO.val (PO.move rfl) rfl ?_
    refine WO.guardT rfl rfl (fun hg110 => (PO.move rfl).vo) rfl ?_
    obtain ⟨x112, hx112, hs⟩ := bind_elim hs
    refine WO.guardT rfl rfl (fun hg111 => (PO.idxStr (evg hg111 rfl) rfl Tryz.runUnderlying9 hx112).vo) rfl ?_
    obtain ⟨x114, hx114, hs⟩ := lt_elim hs
    refine WO.guardT rfl rfl (fun hg113 => VO.call0 Tryz.call122 (evs_cons (evg hg113 rfl) evs_nil) (t_strconv_lower hx114)) rfl ?_
    refine WO.guardT rfl rfl (fun hg115 => (PO.eql (evg hg115 rfl) rfl).vo) rfl ?_
    refine WO.guardT rfl rfl (fun hg116 => (PO.move (evg hg116 rfl)).vo) rfl ?_
    refine WO.guardGF rfl rfl (fun hg117 => (PO.move rfl).vo) rfl ?_
    obtain ⟨x119, hx119, hs⟩ := bind_elim hs
    refine WO.guardGF rfl rfl (fun hg118 => (PO.idxStr (evg hg118 rfl) rfl Tryz.runUnderlying9 hx119).vo) rfl ?_
    obtain ⟨x121, hx121, hs⟩ := lt_elim hs
    refine WO.guardGF rfl rfl (fun hg120 => VO.call0 Tryz.call122 (evs_cons (evg hg120 rfl) evs_nil) (t_strconv_lower hx121)) rfl ?_
    refine WO.guardGF rfl rfl (fun hg122 => (PO.eql (evg hg122 rfl) rfl).vo) rfl ?_
    refine WO.guardT rfl rfl (fun hg123 => (PO.pickOG hg123 (evg hg123 rfl) rfl rfl).vo) rfl ?_
    refine WO.guardT rfl rfl (fun hg124 => (PO.move (evg hg124 rfl)).vo) rfl ?_
    refine WO.guardGF rfl rfl (fun hg125 => (PO.move rfl).vo) rfl ?_
    obtain ⟨x127, hx127, hs⟩ := bind_elim hs
    refine WO.guardGF rfl rfl (fun hg126 => (PO.idxStr (evg hg126 rfl) rfl Tryz.runUnderlying9 hx127).vo) rfl ?_
    obtain ⟨x129, hx129, hs⟩ := lt_elim hs
    refine WO.guardGF rfl rfl (fun hg128 => VO.call0 Tryz.call122 (evs_cons (evg hg128 rfl) evs_nil) (t_strconv_lower hx129)) rfl ?_
    refine WO.guardGF rfl rfl (fun hg130 => (PO.eql (evg hg130 rfl) rfl).vo) rfl ?_
    refine WO.guardT rfl rfl (fun hg131 => (PO.pickOG hg131 (evg hg131 rfl) rfl rfl).vo) rfl ?_
    refine WO.val (PO.pickA rfl rfl rfl) rfl ?_
    refine WO.nil ?_
    refine WP.cond rfl (fun h132 => ?_) (fun h132 => ?_)
    · replace hs := cond_t h132 hs
      refine WP.seq ?_
      refine WP.region ?_
      refine WO.val (PO.assign rfl) rfl ?_
      refine WO.nil ?_
      refine WP.seq ?_
      refine WP.region ?_
      refine WO.val (PO.assign rfl) rfl ?_
      refine WO.nil ?_
      refine WP.region ?_
      refine WO.val (PO.move rfl) rfl ?_
      obtain ⟨x133, hx133, hs⟩ := bind_elim hs
      refine WO.val (PO.idxStr rfl rfl Tryz.runUnderlying9 hx133) rfl ?_
      obtain ⟨x134, hx134, hs⟩ := lt_elim hs
      refine WO.vo (VO.call0 Tryz.call122 rfl (t_strconv_lower hx134)) rfl ?_
      refine WO.val (PO.eql rfl rfl) rfl ?_
      refine WO.val (PO.assign rfl) rfl ?_
      refine WO.nil ?_
      refine WP.seq ?_
      refine WP.block ?_
      refine WP.loopG (fun c135_k f_ L_ => ∃ (c135_0 : Int) (c135_1 : Int), Holds f_ [(0, .string String), (2, .bool false), (3, .int .i32 c135_1), (4, .int .i64 c135_0), (5, .bool (x134 == 120))] ∧ L_ = [F] ∧ s_strconv_underscoreOK_l2 String x134 c135_k c135_0 c135_1 = some r) k ⟨2, 48, ⟨rfl, rfl, rfl, rfl, rfl, trivial⟩, rfl, hs⟩ ?_
      rintro c135_k f_ L_ ⟨c135_0, c135_1, hf_, rfl, hs⟩
      refine WP.keep [(0, .string String), (2, .bool false), (3, .int .i32 c135_1), (4, .int .i64 c135_0), (5, .bool (x134 == 120))] hf_ ?_
      cases c135_k with
      | zero => exact nomatch (show none = some r from hs)
      | succ c135_k =>
        rw [s_strconv_underscoreOK_l2.eq_2] at hs
        refine WP.seq ?_
        refine WP.seq ?_
        refine WP.region ?_
        refine WO.val (PO.move rfl) rfl ?_
        refine WO.val (PO.move rfl) rfl ?_
        refine WO.val (PO.lenS rfl Tryz.runUnderlying9) rfl ?_
        refine WO.val (PO.lss rfl rfl) rfl ?_
        refine WO.nil ?_
        refine WP.cond rfl (fun h136 => ?_) (fun h136 => ?_)
        · replace hs := cond_t h136 hs
          refine WP.skip ?_
          refine WP.seq ?_
          refine WP.block ?_
          refine WP.seq ?_
          refine WP.seq ?_
          refine WP.regionG (D := [some 57, some 58, some 59, some 60, some 61, some 62, some 63, some 64, some 65, some 66, some 67, some 68, some 69, some 70, some 71, some 72, some 73, some 74, some 75, some 76, some 77, some 78, some 79, some 80, some 81, some 82, some 83]) rfl ?_
          refine WO.val (PO.move rfl) rfl ?_
          refine WO.val (PO.move rfl) rfl ?_
          obtain ⟨x137, hx137, hs⟩ := bind_elim hs
          refine WO.val (PO.idxStr rfl rfl Tryz.runUnderlying9 hx137) rfl ?_
          refine WO.val (PO.leq rfl rfl) rfl ?_
          refine WO.val (PO.move rfl) rfl ?_
          refine WO.guardT rfl rfl (fun hg138 => (PO.move rfl).vo) rfl ?_
          refine WO.guardT rfl rfl (fun hg139 => (PO.move rfl).vo) rfl ?_
          obtain ⟨x141, hx141, hs⟩ := bind_elim hs
          refine WO.guardT rfl rfl (fun hg140 => (PO.idxStr (evg hg140 rfl) (evg hg140 rfl) Tryz.runUnderlying9 hx141).vo) rfl ?_
          refine WO.guardT rfl rfl (fun hg142 => (PO.leq (evg hg142 rfl) rfl).vo) rfl ?_
          refine WO.val (PO.pickA rfl rfl rfl) rfl ?_
          refine WO.val (PO.move rfl) rfl ?_
          refine WO.guardF rfl rfl (fun hg143 => (PO.move rfl).vo) rfl ?_
          refine WO.guardF rfl rfl (fun hg144 => (PO.move (evg hg144 rfl)).vo) rfl ?_
          refine WO.guardGT rfl rfl (fun hg145 => (PO.move rfl).vo) rfl ?_
          refine WO.guardGT rfl rfl (fun hg146 => (PO.move rfl).vo) rfl ?_
          obtain ⟨x148, hx148, hs⟩ := bind_elim hs
          refine WO.guardGT rfl rfl (fun hg147 => (PO.idxStr (evg hg147 rfl) (evg hg147 rfl) Tryz.runUnderlying9 hx148).vo) rfl ?_
          obtain ⟨x150, hx150, hs⟩ := lt_elim hs
          refine WO.guardGT rfl rfl (fun hg149 => VO.call0 Tryz.call122 (evs_cons (evg hg149 rfl) evs_nil) (t_strconv_lower hx150)) rfl ?_
          refine WO.guardGT rfl rfl (fun hg151 => (PO.leq rfl (evg hg151 rfl)).vo) rfl ?_
          refine WO.guardF rfl rfl (fun hg152 => (PO.pickAG hg152 (evg hg152 rfl) rfl rfl).vo) rfl ?_
          refine WO.guardF rfl rfl (fun hg153 => (PO.move (evg hg153 rfl)).vo) rfl ?_
          refine WO.guardGT rfl rfl (fun hg154 => (PO.move rfl).vo) rfl ?_
          refine WO.guardGT rfl rfl (fun hg155 => (PO.move rfl).vo) rfl ?_
          obtain ⟨x157, hx157, hs⟩ := bind_elim hs
          refine WO.guardGT rfl rfl (fun hg156 => (PO.idxStr (evg hg156 rfl) (evg hg156 rfl) Tryz.runUnderlying9 hx157).vo) rfl ?_
          obtain ⟨x159, hx159, hs⟩ := lt_elim hs
          refine WO.guardGT rfl rfl (fun hg158 => VO.call0 Tryz.call122 (evs_cons (evg hg158 rfl) evs_nil) (t_strconv_lower hx159)) rfl ?_
          refine WO.guardGT rfl rfl (fun hg160 => (PO.leq (evg hg160 rfl) rfl).vo) rfl ?_
          refine WO.guardF rfl rfl (fun hg161 => (PO.pickAG hg161 (evg hg161 rfl) rfl rfl).vo) rfl ?_
          refine WO.val (PO.pickO rfl rfl rfl) rfl ?_
          refine WO.nil ?_
          refine WP.cond rfl (fun h162 => ?_) (fun h162 => ?_)
          · replace hs := cond_t h162 hs
            refine WP.seq ?_
            refine WP.region ?_
            refine WO.val (PO.assign rfl) rfl ?_
            refine WO.nil ?_
            refine WP.exit (inX.hit ?_)
            refine WP.region ?_
            refine WO.val (PO.move rfl) rfl ?_
            refine WO.val (PO.add rfl rfl) rfl ?_
            refine WO.val (PO.assign rfl) rfl ?_
            refine WO.nil ?_
            exact ⟨c135_k, _, Nat.lt_succ_self _, ⟨(IntKind.i64.wrap (c135_0 + 1)), 48, ⟨rfl, rfl, rfl, rfl, rfl, trivial⟩, rfl, hs⟩, fun _ s => s.pre⟩
          · replace hs := cond_f h162 hs
            refine WP.skip ?_
            refine WP.seq ?_
            refine WP.seq ?_
            refine WP.region ?_
            refine WO.val (PO.move rfl) rfl ?_
            refine WO.val (PO.move rfl) rfl ?_
            obtain ⟨x163, hx163, hs⟩ := bind_elim hs
            refine WO.val (PO.idxStr rfl rfl Tryz.runUnderlying9 hx163) rfl ?_
            refine WO.val (PO.eql rfl rfl) rfl ?_
            refine WO.nil ?_
            refine WP.cond rfl (fun h164 => ?_) (fun h164 => ?_)
            · replace hs := cond_t h164 hs
              refine WP.seq ?_
              refine WP.seq ?_
              refine WP.region ?_
              refine WO.val (PO.move rfl) rfl ?_
              refine WO.val (PO.neq rfl rfl) rfl ?_
              refine WO.nil ?_
              refine WP.cond rfl (fun h165 => ?_) (fun h165 => ?_)
              · replace hs := cond_t h165 hs
                refine WP.seq ?_
                refine WP.region ?_
                refine WO.val (PO.assign rfl) rfl ?_
                refine WO.nil ?_
                refine WP.ret ?_
                obtain rfl := Option.some.inj hs
                exact ⟨_, _, _, Res.one (RV.tmp rfl), ⟨rfl, rfl⟩, fun _ s => s⟩
              · replace hs := cond_f h165 hs
                refine WP.skip ?_
                refine WP.seq ?_
                refine WP.region ?_
                refine WO.val (PO.assign rfl) rfl ?_
                refine WO.nil ?_
                refine WP.exit (inX.hit ?_)
                refine WP.region ?_
                refine WO.val (PO.move rfl) rfl ?_
                refine WO.val (PO.add rfl rfl) rfl ?_
                refine WO.val (PO.assign rfl) rfl ?_
                refine WO.nil ?_
                exact ⟨c135_k, _, Nat.lt_succ_self _, ⟨(IntKind.i64.wrap (c135_0 + 1)), 95, ⟨rfl, rfl, rfl, rfl, rfl, trivial⟩, rfl, hs⟩, fun _ s => s.pre⟩
            · replace hs := cond_f h164 hs
              refine WP.skip ?_
              refine WP.seq ?_
              refine WP.seq ?_
              refine WP.region ?_
              refine WO.val (PO.move rfl) rfl ?_
              refine WO.val (PO.eql rfl rfl) rfl ?_
              refine WO.nil ?_
              refine WP.cond rfl (fun h166 => ?_) (fun h166 => ?_)
              · replace hs := cond_t h166 hs
                refine WP.seq ?_
                refine WP.region ?_
                refine WO.val (PO.assign rfl) rfl ?_
                refine WO.nil ?_
                refine WP.ret ?_
                obtain rfl := Option.some.inj hs
                exact ⟨_, _, _, Res.one (RV.tmp rfl), ⟨rfl, rfl⟩, fun _ s => s⟩
              · replace hs := cond_f h166 hs
                refine WP.skip ?_
                refine WP.region ?_
                refine WO.val (PO.assign rfl) rfl ?_
                refine WO.nil ?_
                refine WP.region ?_
                refine WO.val (PO.move rfl) rfl ?_
                refine WO.val (PO.add rfl rfl) rfl ?_
                refine WO.val (PO.assign rfl) rfl ?_
                refine WO.nil ?_
                exact ⟨c135_k, _, Nat.lt_succ_self _, ⟨(IntKind.i64.wrap (c135_0 + 1)), 33, ⟨rfl, rfl, rfl, rfl, rfl, trivial⟩, rfl, hs⟩, fun _ s => s.pre⟩
        · replace hs := cond_f h136 hs
          refine WP.exit (inX.hit ?_)
          refine WP.seq ?_
          refine WP.region ?_
          refine WO.val (PO.move rfl) rfl ?_
          refine WO.val (PO.neq rfl rfl) rfl ?_
          refine WO.val (PO.assign rfl) rfl ?_
          refine WO.nil ?_
          refine WP.ret ?_
          obtain rfl := Option.some.inj hs
          exact ⟨_, _, _, Res.one (RV.tmp rfl), ⟨rfl, rfl⟩, fun _ s => s⟩
    · replace hs := cond_f h132 hs
      refine WP.skip ?_
      refine WP.seq ?_
      refine WP.block ?_
      refine WP.loopG (fun c167_k f_ L_ => ∃ (c167_0 : Int) (c167_1 : Int), Holds f_ [(0, .string String), (2, .bool false), (3, .int .i32 c167_0), (4, .int .i64 c167_1), (5, .bool false)] ∧ L_ = [F] ∧ s_strconv_underscoreOK_l3 String c167_k c167_0 c167_1 = some r) k ⟨94, 0, ⟨rfl, rfl, rfl, rfl, rfl, trivial⟩, rfl, hs⟩ ?_
      rintro c167_k f_ L_ ⟨c167_0, c167_1, hf_, rfl, hs⟩
      refine WP.keep [(0, .string String), (2, .bool false), (3, .int .i32 c167_0), (4, .int .i64 c167_1), (5, .bool false)] hf_ ?_
      cases c167_k with
      | zero => exact nomatch (show none = some r from hs)
      | succ c167_k =>
        rw [s_strconv_underscoreOK_l3.eq_2] at hs
        refine WP.seq ?_
        refine WP.seq ?_
        refine WP.region ?_
        refine WO.val (PO.move rfl) rfl ?_
        refine WO.val (PO.move rfl) rfl ?_
        refine WO.val (PO.lenS rfl Tryz.runUnderlying9) rfl ?_
        refine WO.val (PO.lss rfl rfl) rfl ?_
        refine WO.nil ?_
        refine WP.cond rfl (fun h168 => ?_) (fun h168 => ?_)
        · replace hs := cond_t h168 hs
          refine WP.skip ?_
          refine WP.seq ?_
          refine WP.block ?_
          refine WP.seq ?_
          refine WP.seq ?_
          refine WP.regionG (D := [some 57, some 58, some 59, some 60, some 61, some 62, some 63, some 64, some 65, some 66, some 67, some 68, some 69, some 70, some 71, some 72, some 73, some 74, some 75, some 76, some 77, some 78, some 79, some 80, some 81, some 82, some 83]) rfl ?_
          refine WO.val (PO.move rfl) rfl ?_
          refine WO.val (PO.move rfl) rfl ?_
          obtain ⟨x169, hx169, hs⟩ := bind_elim hs
          refine WO.val (PO.idxStr rfl rfl Tryz.runUnderlying9 hx169) rfl ?_
          refine WO.val (PO.leq rfl rfl) rfl ?_
          refine WO.val (PO.move rfl) rfl ?_
          refine WO.guardT rfl rfl (fun hg170 => (PO.move rfl).vo) rfl ?_
          refine WO.guardT rfl rfl (fun hg171 => (PO.move rfl).vo) rfl ?_
          obtain ⟨x173, hx173, hs⟩ := bind_elim hs
          refine WO.guardT rfl rfl (fun hg172 => (PO.idxStr (evg hg172 rfl) (evg hg172 rfl) Tryz.runUnderlying9 hx173).vo) rfl ?_
          refine WO.guardT rfl rfl (fun hg174 => (PO.leq (evg hg174 rfl) rfl).vo) rfl ?_
          refine WO.val (PO.pickA rfl rfl rfl) rfl ?_
          refine WO.val (PO.move rfl) rfl ?_
          refine WO.guardF rfl rfl (fun hg175 => (PO.move rfl).vo) rfl ?_
          refine WO.guardF rfl rfl (fun hg176 => (PO.move (evg hg176 rfl)).vo) rfl ?_
          refine WO.guardGT rfl rfl (fun hg177 => (PO.move rfl).vo) rfl ?_
          refine WO.guardGT rfl rfl (fun hg178 => (PO.move rfl).vo) rfl ?_
          obtain ⟨x180, hx180, hs⟩ := bind_elim hs
          refine WO.guardGT rfl rfl (fun hg179 => (PO.idxStr (evg hg179 rfl) (evg hg179 rfl) Tryz.runUnderlying9 hx180).vo) rfl ?_
          obtain ⟨x182, hx182, hs⟩ := lt_elim hs
          refine WO.guardGT rfl rfl (fun hg181 => VO.call0 Tryz.call122 (evs_cons (evg hg181 rfl) evs_nil) (t_strconv_lower hx182)) rfl ?_
          refine WO.guardGT rfl rfl (fun hg183 => (PO.leq rfl (evg hg183 rfl)).vo) rfl ?_
          refine WO.guardF rfl rfl (fun hg184 => (PO.pickF (evg hg184 rfl) rfl).vo) rfl ?_
          refine WO.guardF rfl rfl (fun hg185 => (PO.move (evg hg185 rfl)).vo) rfl ?_
          refine WO.guardGT rfl rfl (fun hg186 => (PO.move rfl).vo) rfl ?_
          refine WO.guardGT rfl rfl (fun hg187 => (PO.move rfl).vo) rfl ?_
          obtain ⟨x189, hx189, hs⟩ := bind_elim hs
          refine WO.guardGT rfl rfl (fun hg188 => (PO.idxStr (evg hg188 rfl) (evg hg188 rfl) Tryz.runUnderlying9 hx189).vo) rfl ?_
          obtain ⟨x191, hx191, hs⟩ := lt_elim hs
          refine WO.guardGT rfl rfl (fun hg190 => VO.call0 Tryz.call122 (evs_cons (evg hg190 rfl) evs_nil) (t_strconv_lower hx191)) rfl ?_
          refine WO.guardGT rfl rfl (fun hg192 => (PO.leq (evg hg192 rfl) rfl).vo) rfl ?_
          refine WO.guardF rfl rfl (fun hg193 => (PO.pickF (evg hg193 rfl) rfl).vo) rfl ?_
          refine WO.val (PO.pickO rfl rfl rfl) rfl ?_
          refine WO.nil ?_
          refine WP.cond rfl (fun h194 => ?_) (fun h194 => ?_)
          · replace hs := cond_t h194 hs
            refine WP.seq ?_
            refine WP.region ?_
            refine WO.val (PO.assign rfl) rfl ?_
            refine WO.nil ?_
            refine WP.exit (inX.hit ?_)
            refine WP.region ?_
            refine WO.val (PO.move rfl) rfl ?_
            refine WO.val (PO.add rfl rfl) rfl ?_
            refine WO.val (PO.assign rfl) rfl ?_
            refine WO.nil ?_
            exact ⟨c167_k, _, Nat.lt_succ_self _, ⟨48, (IntKind.i64.wrap (c167_1 + 1)), ⟨rfl, rfl, rfl, rfl, rfl, trivial⟩, rfl, hs⟩, fun _ s => s.pre⟩
          · replace hs := cond_f h194 hs
            refine WP.skip ?_
            refine WP.seq ?_
            refine WP.seq ?_
            refine WP.region ?_
            refine WO.val (PO.move rfl) rfl ?_
            refine WO.val (PO.move rfl) rfl ?_
            obtain ⟨x195, hx195, hs⟩ := bind_elim hs
            refine WO.val (PO.idxStr rfl rfl Tryz.runUnderlying9 hx195) rfl ?_
            refine WO.val (PO.eql rfl rfl) rfl ?_
            refine WO.nil ?_
            refine WP.cond rfl (fun h196 => ?_) (fun h196 => ?_)
            · replace hs := cond_t h196 hs
              refine WP.seq ?_
              refine WP.seq ?_
              refine WP.region ?_
              refine WO.val (PO.move rfl) rfl ?_
              refine WO.val (PO.neq rfl rfl) rfl ?_
              refine WO.nil ?_
              refine WP.cond rfl (fun h197 => ?_) (fun h197 => ?_)
              · replace hs := cond_t h197 hs
                refine WP.seq ?_
                refine WP.region ?_
                refine WO.val (PO.assign rfl) rfl ?_
                refine WO.nil ?_
                refine WP.ret ?_
                obtain rfl := Option.some.inj hs
                exact ⟨_, _, _, Res.one (RV.tmp rfl), ⟨rfl, rfl⟩, fun _ s => s⟩
              · replace hs := cond_f h197 hs
                refine WP.skip ?_
                refine WP.seq ?_
                refine WP.region ?_
                refine WO.val (PO.assign rfl) rfl ?_
                refine WO.nil ?_
                refine WP.exit (inX.hit ?_)
                refine WP.region ?_
                refine WO.val (PO.move rfl) rfl ?_
                refine WO.val (PO.add rfl rfl) rfl ?_
                refine WO.val (PO.assign rfl) rfl ?_
                refine WO.nil ?_
                exact ⟨c167_k, _, Nat.lt_succ_self _, ⟨95, (IntKind.i64.wrap (c167_1 + 1)), ⟨rfl, rfl, rfl, rfl, rfl, trivial⟩, rfl, hs⟩, fun _ s => s.pre⟩
            · replace hs := cond_f h196 hs
              refine WP.skip ?_
              refine WP.seq ?_
              refine WP.seq ?_
              refine WP.region ?_
              refine WO.val (PO.move rfl) rfl ?_
              refine WO.val (PO.eql rfl rfl) rfl ?_
              refine WO.nil ?_
              refine WP.cond rfl (fun h198 => ?_) (fun h198 => ?_)
              · replace hs := cond_t h198 hs
                refine WP.seq ?_
                refine WP.region ?_
                refine WO.val (PO.assign rfl) rfl ?_
                refine WO.nil ?_
                refine WP.ret ?_
                obtain rfl := Option.some.inj hs
                exact ⟨_, _, _, Res.one (RV.tmp rfl), ⟨rfl, rfl⟩, fun _ s => s⟩
              · replace hs := cond_f h198 hs
                refine WP.skip ?_
                refine WP.region ?_
                refine WO.val (PO.assign rfl) rfl ?_
                refine WO.nil ?_
                refine WP.region ?_
                refine WO.val (PO.move rfl) rfl ?_
                refine WO.val (PO.add rfl rfl) rfl ?_
                refine WO.val (PO.assign rfl) rfl ?_
                refine WO.nil ?_
                exact ⟨c167_k, _, Nat.lt_succ_self _, ⟨33, (IntKind.i64.wrap (c167_1 + 1)), ⟨rfl, rfl, rfl, rfl, rfl, trivial⟩, rfl, hs⟩, fun _ s => s.pre⟩
        · replace hs := cond_f h168 hs
          refine WP.exit (inX.hit ?_)
          refine WP.seq ?_
          refine WP.region ?_
          refine WO.val (PO.move rfl) rfl ?_
          refine WO.val (PO.neq rfl rfl) rfl ?_
          refine WO.val (PO.assign rfl) rfl ?_
          refine WO.nil ?_
          refine WP.ret ?_
          obtain rfl := Option.some.inj hs
          exact ⟨_, _, _, Res.one (RV.tmp rfl), ⟨rfl, rfl⟩, fun _ s => s⟩
attribute [irreducible] s_strconv_underscoreOK

/- internal/strconv.ParseUint -/
def s_iParseUint_j19 (c6_2 : Int) (rec_s_iParseUint_l1 : Bool → Int → Int → Option (Int × Int)) (j8_0 : Bool) (j8_1 : Int) : Option (Int × Int) :=
  rec_s_iParseUint_l1 j8_0 j8_1 (IntKind.i64.wrap (c6_2 + 1))
def s_iParseUint_j20 (j2_1 : Int) (j3_0 : Int) (j4_0 : Int) (c6_0 : Bool) (c6_1 : Int) (c6_2 : Int) (rec_s_iParseUint_l1 : Bool → Int → Int → Option (Int × Int)) (j10_0 : Int) : Option (Int × Int) :=
  cond (decide ((IntKind.u8.wrap j2_1) ≤ j10_0))
    (some (0, 2))
    (cond (decide (j4_0 ≤ c6_1))
      (some ((IntKind.u64.wrap ((shlI .u64 1 (IntKind.u64.wrap j3_0)) - 1)), 1))
      (cond ((decide ((IntKind.u64.wrap ((IntKind.u64.wrap (c6_1 * (IntKind.u64.wrap j2_1))) + (IntKind.u64.wrap j10_0))) < (IntKind.u64.wrap (c6_1 * (IntKind.u64.wrap j2_1))))) || (decide ((IntKind.u64.wrap ((shlI .u64 1 (IntKind.u64.wrap j3_0)) - 1)) < (IntKind.u64.wrap ((IntKind.u64.wrap (c6_1 * (IntKind.u64.wrap j2_1))) + (IntKind.u64.wrap j10_0))))))
        (some ((IntKind.u64.wrap ((shlI .u64 1 (IntKind.u64.wrap j3_0)) - 1)), 1))
        (s_iParseUint_j19 c6_2 (rec_s_iParseUint_l1) c6_0 (IntKind.u64.wrap ((IntKind.u64.wrap (c6_1 * (IntKind.u64.wrap j2_1))) + (IntKind.u64.wrap j10_0))))))
def s_iParseUint_l1 (String : ByteArray) (String' : Int) (k : Nat) (j2_0 : ByteArray) (j2_1 : Int) (j3_0 : Int) (j4_0 : Int) : Nat → Bool → Int → Int → Option (Int × Int)
  | 0, _, _, _ => none
  | c6_k + 1, c6_0, c6_1, c6_2 =>
    cond (decide (c6_2 < ((bytesL j2_0).length : Int)))
      ((getI (bytesL j2_0) c6_2).bind fun x9 =>
      cond ((x9 == 95) && (String' == 0))
        (s_iParseUint_j19 c6_2 (s_iParseUint_l1 String String' k j2_0 j2_1 j3_0 j4_0 c6_k) true c6_1)
        (cond ((decide (48 ≤ x9)) && (decide (x9 ≤ 57)))
          (s_iParseUint_j20 j2_1 j3_0 j4_0 c6_0 c6_1 c6_2 (s_iParseUint_l1 String String' k j2_0 j2_1 j3_0 j4_0 c6_k) (IntKind.u8.wrap (x9 - 48)))
          (lt (s_strconv_lower x9) fun x22 =>
          lt (s_strconv_lower x9) fun x25 =>
          cond ((decide (97 ≤ x22)) && (decide (x25 ≤ 122)))
            (lt (s_strconv_lower x9) fun x28 =>
            s_iParseUint_j20 j2_1 j3_0 j4_0 c6_0 c6_1 c6_2 (s_iParseUint_l1 String String' k j2_0 j2_1 j3_0 j4_0 c6_k) (IntKind.u8.wrap ((IntKind.u8.wrap (x28 - 97)) + 10)))
            (some (0, 2)))))
      ((opt c6_0 (s_strconv_underscoreOK k String) false).bind fun x31 =>
      cond (c6_0 && (!x31))
        (some (0, 2))
        (some (c6_1, 0)))
def s_iParseUint_j2 (String : ByteArray) (String' : Int) (k : Nat) (j2_0 : ByteArray) (j2_1 : Int) (j3_0 : Int) (j4_0 : Int) : Option (Int × Int) :=
  s_iParseUint_l1 String String' k j2_0 j2_1 j3_0 j4_0 k false 0 0
def s_iParseUint_j1 (String : ByteArray) (String' : Int) (k : Nat) (j2_0 : ByteArray) (j2_1 : Int) (j3_0 : Int) : Option (Int × Int) :=
  cond (j2_1 == 10)
    (s_iParseUint_j2 String String' k j2_0 j2_1 j3_0 1844674407370955162)
    (cond (j2_1 == 16)
      (s_iParseUint_j2 String String' k j2_0 j2_1 j3_0 1152921504606846976)
      (if (IntKind.u64.wrap j2_1) ≠ 0 then (s_iParseUint_j2 String String' k j2_0 j2_1 j3_0 (IntKind.u64.wrap ((IntKind.u64.wrap ((18446744073709551615 : Int).tdiv (IntKind.u64.wrap j2_1))) + 1))) else none))
def s_iParseUint_j0 (String : ByteArray) (String' : Int) (s : Int) (k : Nat) (j2_0 : ByteArray) (j2_1 : Int) : Option (Int × Int) :=
  cond (s == 0)
    (s_iParseUint_j1 String String' k j2_0 j2_1 64)
    (cond ((decide (s < 0)) || (decide (64 < s)))
      (some (0, 4))
      (s_iParseUint_j1 String String' k j2_0 j2_1 s))
def s_iParseUint (k : Nat) (String : ByteArray) (String' : Int) (s : Int) : Option (Int × Int) :=
  cond (String.toList == (ByteArray.mk #[]).toList)
    (some (0, 2))
    (cond ((decide (2 ≤ String')) && (decide (String' ≤ 36)))
      (s_iParseUint_j0 String String' s k String String')
      (cond (String' == 0)
        ((byteAt String 0).bind fun x49 =>
        cond (x49 == 48)
          ((byteAt String 1).bind fun x53 =>
          lt (s_strconv_lower x53) fun x55 =>
          cond ((decide (3 ≤ (String.size : Int))) && (x55 == 98))
            ((subS String 2 (String.size : Int)).bind fun x58 =>
            s_iParseUint_j0 String String' s k x58 2)
            ((byteAt String 1).bind fun x61 =>
            lt (s_strconv_lower x61) fun x63 =>
            cond ((decide (3 ≤ (String.size : Int))) && (x63 == 111))
              ((subS String 2 (String.size : Int)).bind fun x66 =>
              s_iParseUint_j0 String String' s k x66 8)
              ((byteAt String 1).bind fun x69 =>
              lt (s_strconv_lower x69) fun x71 =>
              cond ((decide (3 ≤ (String.size : Int))) && (x71 == 120))
                ((subS String 2 (String.size : Int)).bind fun x74 =>
                s_iParseUint_j0 String String' s k x74 16)
                ((subS String 1 (String.size : Int)).bind fun x75 =>
                s_iParseUint_j0 String String' s k x75 8))))
          (s_iParseUint_j0 String String' s k String 10))
        (some (0, 3))))
theorem t_iParseUint {k : Nat} {String : ByteArray} {String' : Int} {s : Int} {r : Int × Int}
    (hs : s_iParseUint k String String' s = some r) :
    TriV Tryz.prog 107 [.string String, .int .i64 String', .int .i64 s] [] (.tuple #[.int .u64 r.1, errI r.2]) [] := by
  unfold s_iParseUint at hs
  refine TriL.of Tryz.func107 rfl Tryz.ntmps107 Tryz.results107 rfl (fun w0 F => ?_)
  refine WP.seq ?_
  refine WP.region ?_
  refine WO.val (PO.assign rfl) rfl ?_
  refine WO.val (PO.assign rfl) rfl ?_
  refine WO.nil ?_
  refine WP.seq ?_
  refine WP.seq ?_
  refine WP.region ?_
  refine WO.val (PO.move rfl) rfl ?_
  refine WO.val (PO.seql rfl rfl) rfl ?_
  refine WO.nil ?_
  refine WP.cond rfl (fun h1 => ?_) (fun h1 => ?_)
  · replace hs := cond_t h1 hs
    refine WP.seq ?_
    refine WP.region ?_
    refine WO.val (PO.makeIface rfl Tryz.runUnderlying210 rfl) rfl ?_
    refine WO.val (PO.assign rfl) rfl ?_
    refine WO.val (PO.assign rfl) rfl ?_
    refine WO.nil ?_
    refine WP.ret ?_
    obtain rfl := Option.some.inj hs
    exact ⟨_, _, _, Res.two (RV.tmp rfl) (RV.tmp rfl), ⟨rfl, rfl⟩, fun _ s => s⟩
  · replace hs := cond_f h1 hs
    refine WP.skip ?_
    refine WP.seq ?_
    refine WP.region ?_
    refine WO.val (PO.move rfl) rfl ?_
    refine WO.val (PO.eql rfl rfl) rfl ?_
    refine WO.val (PO.assign rfl) rfl ?_
    refine WO.nil ?_
    refine WP.seq ?_
    refine WP.region ?_
    refine WO.val (PO.move rfl) rfl ?_
    refine WO.val (PO.assign rfl) rfl ?_
    refine WO.nil ?_
    refine WP.seq ?_
    refine WP.join (fun f_ L_ => ∃ (j2_0 : ByteArray) (j2_1 : Int), Holds f_ [(0, .string j2_0), (1, .int .i64 j2_1), (2, .int .i64 s), (6, .int .u64 0), (7, .nilIface), (8, .bool (String' == 0)), (9, .string String)] ∧ L_ = [F] ∧ s_iParseUint_j0 String String' s k j2_0 j2_1 = some r) ?_ ?_
    · refine WP.block ?_
      refine WP.seq ?_
      refine WP.regionG (D := [some 26, some 27, some 28, some 29, some 30, some 31, some 25]) rfl ?_
      refine WO.val (PO.move rfl) rfl ?_
      refine WO.val (PO.leq rfl rfl) rfl ?_
      refine WO.val (PO.move rfl) rfl ?_
      refine WO.guardT rfl rfl (fun hg45 => (PO.move rfl).vo) rfl ?_
      refine WO.guardT rfl rfl (fun hg46 => (PO.leq (evg hg46 rfl) rfl).vo) rfl ?_
      refine WO.val (PO.pickA rfl rfl rfl) rfl ?_
      refine WO.val (PO.assign rfl) rfl ?_
      refine WO.nil ?_
      refine WP.cond rfl (fun h47 => ?_) (fun h47 => ?_)
      · replace hs := cond_t h47 hs
        refine WP.skip ?_
        exact ⟨_, ⟨String, String', ⟨rfl, rfl, rfl, rfl, rfl, rfl, rfl, trivial⟩, rfl, hs⟩, fun _ s => s⟩
      · replace hs := cond_f h47 hs
        refine WP.seq ?_
        refine WP.region ?_
        refine WO.val (PO.move rfl) rfl ?_
        refine WO.val (PO.eql rfl rfl) rfl ?_
        refine WO.val (PO.assign rfl) rfl ?_
        refine WO.nil ?_
        refine WP.cond rfl (fun h48 => ?_) (fun h48 => ?_)
        · replace hs := cond_t h48 hs
          refine WP.seq ?_
          refine WP.region ?_
          refine WO.val (PO.assign rfl) rfl ?_
          refine WO.nil ?_
          refine WP.seq ?_
          refine WP.region ?_
          refine WO.val (PO.move rfl) rfl ?_
          obtain ⟨x49, hx49, hs⟩ := bind_elim hs
          refine WO.val (PO.idxStr rfl rfl Tryz.runUnderlying9 hx49) rfl ?_
          refine WO.val (PO.eql rfl rfl) rfl ?_
          refine WO.nil ?_
          refine WP.cond rfl (fun h50 => ?_) (fun h50 => ?_)
          · replace hs := cond_t h50 hs
            refine WP.block ?_
            refine WP.seq ?_
            refine WP.regionG (D := [some 41, some 42, some 43, some 44, some 45, some 46, some 47, some 48, some 49, some 40]) rfl ?_
            refine WO.val (PO.move rfl) rfl ?_
            refine WO.val (PO.lenS rfl Tryz.runUnderlying9) rfl ?_
            refine WO.val (PO.geq rfl rfl) rfl ?_
            refine WO.val (PO.move rfl) rfl ?_
            refine WO.guardT rfl rfl (fun hg51 => (PO.move rfl).vo) rfl ?_
            obtain ⟨x53, hx53, hs⟩ := bind_elim hs
            refine WO.guardT rfl rfl (fun hg52 => (PO.idxStr (evg hg52 rfl) rfl Tryz.runUnderlying9 hx53).vo) rfl ?_
            obtain ⟨x55, hx55, hs⟩ := lt_elim hs
            refine WO.guardT rfl rfl (fun hg54 => VO.call0 Tryz.call122 (evs_cons (evg hg54 rfl) evs_nil) (t_strconv_lower hx55)) rfl ?_
            refine WO.guardT rfl rfl (fun hg56 => (PO.eql (evg hg56 rfl) rfl).vo) rfl ?_
            refine WO.val (PO.pickA rfl rfl rfl) rfl ?_
            refine WO.val (PO.assign rfl) rfl ?_
            refine WO.nil ?_
            refine WP.cond rfl (fun h57 => ?_) (fun h57 => ?_)
            · replace hs := cond_t h57 hs
              refine WP.seq ?_
              refine WP.region ?_
              refine WO.val (PO.assign rfl) rfl ?_
              refine WO.nil ?_
              refine WP.region ?_
              refine WO.val (PO.move rfl) rfl ?_
              obtain ⟨x58, hx58, hs⟩ := bind_elim hs
              refine WO.val (PO.strLo rfl rfl Tryz.underlying9 hx58) rfl ?_
              refine WO.val (PO.assign rfl) rfl ?_
              refine WO.nil ?_
              exact ⟨_, ⟨x58, 2, ⟨rfl, rfl, rfl, rfl, rfl, rfl, rfl, trivial⟩, rfl, hs⟩, fun _ s => s⟩
            · replace hs := cond_f h57 hs
              refine WP.seq ?_
              refine WP.regionG (D := [some 53, some 54, some 55, some 56, some 57, some 58, some 59, some 60, some 61, some 52]) rfl ?_
              refine WO.val (PO.move rfl) rfl ?_
              refine WO.val (PO.lenS rfl Tryz.runUnderlying9) rfl ?_
              refine WO.val (PO.geq rfl rfl) rfl ?_
              refine WO.val (PO.move rfl) rfl ?_
              refine WO.guardT rfl rfl (fun hg59 => (PO.move rfl).vo) rfl ?_
              obtain ⟨x61, hx61, hs⟩ := bind_elim hs
              refine WO.guardT rfl rfl (fun hg60 => (PO.idxStr (evg hg60 rfl) rfl Tryz.runUnderlying9 hx61).vo) rfl ?_
              obtain ⟨x63, hx63, hs⟩ := lt_elim hs
              refine WO.guardT rfl rfl (fun hg62 => VO.call0 Tryz.call122 (evs_cons (evg hg62 rfl) evs_nil) (t_strconv_lower hx63)) rfl ?_
              refine WO.guardT rfl rfl (fun hg64 => (PO.eql (evg hg64 rfl) rfl).vo) rfl ?_
              refine WO.val (PO.pickA rfl rfl rfl) rfl ?_
              refine WO.val (PO.assign rfl) rfl ?_
              refine WO.nil ?_
              refine WP.cond rfl (fun h65 => ?_) (fun h65 => ?_)
              · replace hs := cond_t h65 hs
                refine WP.seq ?_
                refine WP.region ?_
                refine WO.val (PO.assign rfl) rfl ?_
                refine WO.nil ?_
                refine WP.region ?_
                refine WO.val (PO.move rfl) rfl ?_
                obtain ⟨x66, hx66, hs⟩ := bind_elim hs
                refine WO.val (PO.strLo rfl rfl Tryz.underlying9 hx66) rfl ?_
                refine WO.val (PO.assign rfl) rfl ?_
                refine WO.nil ?_
                exact ⟨_, ⟨x66, 8, ⟨rfl, rfl, rfl, rfl, rfl, rfl, rfl, trivial⟩, rfl, hs⟩, fun _ s => s⟩
              · replace hs := cond_f h65 hs
                refine WP.seq ?_
                refine WP.regionG (D := [some 65, some 66, some 67, some 68, some 69, some 70, some 71, some 72, some 73, some 64]) rfl ?_
                refine WO.val (PO.move rfl) rfl ?_
                refine WO.val (PO.lenS rfl Tryz.runUnderlying9) rfl ?_
                refine WO.val (PO.geq rfl rfl) rfl ?_
                refine WO.val (PO.move rfl) rfl ?_
                refine WO.guardT rfl rfl (fun hg67 => (PO.move rfl).vo) rfl ?_
                obtain ⟨x69, hx69, hs⟩ := bind_elim hs
                refine WO.guardT rfl rfl (fun hg68 => (PO.idxStr (evg hg68 rfl) rfl Tryz.runUnderlying9 hx69).vo) rfl ?_
                obtain ⟨x71, hx71, hs⟩ := lt_elim hs
                refine WO.guardT rfl rfl (fun hg70 => VO.call0 Tryz.call122 (evs_cons (evg hg70 rfl) evs_nil) (t_strconv_lower hx71)) rfl ?_
                refine WO.guardT rfl rfl (fun hg72 => (PO.eql (evg hg72 rfl) rfl).vo) rfl ?_
                refine WO.val (PO.pickA rfl rfl rfl) rfl ?_
                refine WO.val (PO.assign rfl) rfl ?_
                refine WO.nil ?_
                refine WP.cond rfl (fun h73 => ?_) (fun h73 => ?_)
                · replace hs := cond_t h73 hs
                  refine WP.seq ?_
                  refine WP.region ?_
                  refine WO.val (PO.assign rfl) rfl ?_
                  refine WO.nil ?_
                  refine WP.region ?_
                  refine WO.val (PO.move rfl) rfl ?_
                  obtain ⟨x74, hx74, hs⟩ := bind_elim hs
                  refine WO.val (PO.strLo rfl rfl Tryz.underlying9 hx74) rfl ?_
                  refine WO.val (PO.assign rfl) rfl ?_
                  refine WO.nil ?_
                  exact ⟨_, ⟨x74, 16, ⟨rfl, rfl, rfl, rfl, rfl, rfl, rfl, trivial⟩, rfl, hs⟩, fun _ s => s⟩
                · replace hs := cond_f h73 hs
                  refine WP.seq ?_
                  refine WP.region ?_
                  refine WO.val (PO.assign rfl) rfl ?_
                  refine WO.nil ?_
                  refine WP.region ?_
                  refine WO.val (PO.move rfl) rfl ?_
                  obtain ⟨x75, hx75, hs⟩ := bind_elim hs
                  refine WO.val (PO.strLo rfl rfl Tryz.underlying9 hx75) rfl ?_
                  refine WO.val (PO.assign rfl) rfl ?_
                  refine WO.nil ?_
                  exact ⟨_, ⟨x75, 8, ⟨rfl, rfl, rfl, rfl, rfl, rfl, rfl, trivial⟩, rfl, hs⟩, fun _ s => s⟩
          · replace hs := cond_f h50 hs
            refine WP.skip ?_
            exact ⟨_, ⟨String, 10, ⟨rfl, rfl, rfl, rfl, rfl, rfl, rfl, trivial⟩, rfl, hs⟩, fun _ s => s⟩
        · replace hs := cond_f h48 hs
          refine WP.seq ?_
          refine WP.region ?_
          refine WO.val (PO.makeIface rfl Tryz.runUnderlying210 rfl) rfl ?_
          refine WO.val (PO.assign rfl) rfl ?_
          refine WO.val (PO.assign rfl) rfl ?_
          refine WO.nil ?_
          refine WP.ret ?_
          obtain rfl := Option.some.inj hs
          exact ⟨_, _, _, Res.two (RV.tmp rfl) (RV.tmp rfl), ⟨rfl, rfl⟩, fun _ s => s⟩
    · rintro f_ L_ ⟨j2_0, j2_1, hf_, rfl, hs⟩
      refine WP.keep [(0, .string j2_0), (1, .int .i64 j2_1), (2, .int .i64 s), (6, .int .u64 0), (7, .nilIface), (8, .bool (String' == 0)), (9, .string String)] hf_ ?_
      unfold s_iParseUint_j0 at hs
      refine WP.seq ?_
      refine WP.join (fun f_ L_ => ∃ (j3_0 : Int), Holds f_ [(0, .string j2_0), (1, .int .i64 j2_1), (2, .int .i64 j3_0), (6, .int .u64 0), (7, .nilIface), (8, .bool (String' == 0)), (9, .string String)] ∧ L_ = [F] ∧ s_iParseUint_j1 String String' k j2_0 j2_1 j3_0 = some r) ?_ ?_
      · refine WP.seq ?_
        refine WP.region ?_
        refine WO.val (PO.move rfl) rfl ?_
        refine WO.val (PO.eql rfl rfl) rfl ?_
        refine WO.nil ?_
        refine WP.cond rfl (fun h41 => ?_) (fun h41 => ?_)
        · replace hs := cond_t h41 hs
          refine WP.region ?_
          refine WO.val (PO.assign rfl) rfl ?_
          refine WO.nil ?_
          exact ⟨_, ⟨64, ⟨rfl, rfl, rfl, rfl, rfl, rfl, rfl, trivial⟩, rfl, hs⟩, fun _ s => s⟩
        · replace hs := cond_f h41 hs
          refine WP.seq ?_
          refine WP.regionG (D := [some 78, some 79, some 80, some 81, some 82, some 83]) rfl ?_
          refine WO.val (PO.move rfl) rfl ?_
          refine WO.val (PO.lss rfl rfl) rfl ?_
          refine WO.val (PO.move rfl) rfl ?_
          refine WO.guardF rfl rfl (fun hg42 => (PO.move rfl).vo) rfl ?_
          refine WO.guardF rfl rfl (fun hg43 => (PO.gtr (evg hg43 rfl) rfl).vo) rfl ?_
          refine WO.val (PO.pickO rfl rfl rfl) rfl ?_
          refine WO.nil ?_
          refine WP.cond rfl (fun h44 => ?_) (fun h44 => ?_)
          · replace hs := cond_t h44 hs
            refine WP.seq ?_
            refine WP.region ?_
            refine WO.val (PO.makeIface rfl Tryz.runUnderlying210 rfl) rfl ?_
            refine WO.val (PO.assign rfl) rfl ?_
            refine WO.val (PO.assign rfl) rfl ?_
            refine WO.nil ?_
            refine WP.ret ?_
            obtain rfl := Option.some.inj hs
            exact ⟨_, _, _, Res.two (RV.tmp rfl) (RV.tmp rfl), ⟨rfl, rfl⟩, fun _ s => s⟩
          · replace hs := cond_f h44 hs
            refine WP.skip ?_
            exact ⟨_, ⟨s, ⟨rfl, rfl, rfl, rfl, rfl, rfl, rfl, trivial⟩, rfl, hs⟩, fun _ s => s⟩
      · rintro f_ L_ ⟨j3_0, hf_, rfl, hs⟩
        refine WP.keep [(0, .string j2_0), (1, .int .i64 j2_1), (2, .int .i64 j3_0), (6, .int .u64 0), (7, .nilIface), (8, .bool (String' == 0)), (9, .string String)] hf_ ?_
        unfold s_iParseUint_j1 at hs
        refine WP.seq ?_
        refine WP.region ?_
        refine WO.val (PO.assign rfl) rfl ?_
        refine WO.nil ?_
        refine WP.seq ?_
        refine WP.join (fun f_ L_ => ∃ (j4_0 : Int), Holds f_ [(0, .string j2_0), (1, .int .i64 j2_1), (2, .int .i64 j3_0), (6, .int .u64 0), (7, .nilIface), (8, .bool (String' == 0)), (9, .string String), (10, .int .u64 j4_0)] ∧ L_ = [F] ∧ s_iParseUint_j2 String String' k j2_0 j2_1 j3_0 j4_0 = some r) ?_ ?_
        · refine WP.seq ?_
          refine WP.region ?_
          refine WO.val (PO.move rfl) rfl ?_
          refine WO.nil ?_
          refine WP.block ?_
          refine WP.seq ?_
          refine WP.region ?_
          refine WO.val (PO.eql rfl rfl) rfl ?_
          refine WO.val (PO.assign rfl) rfl ?_
          refine WO.nil ?_
          refine WP.cond rfl (fun h34 => ?_) (fun h34 => ?_)
          · replace hs := cond_t h34 hs
            refine WP.region ?_
            refine WO.val (PO.assign rfl) rfl ?_
            refine WO.nil ?_
            exact ⟨_, ⟨1844674407370955162, ⟨rfl, rfl, rfl, rfl, rfl, rfl, rfl, rfl, trivial⟩, rfl, hs⟩, fun _ s => s⟩
          · replace hs := cond_f h34 hs
            refine WP.seq ?_
            refine WP.region ?_
            refine WO.val (PO.eql rfl rfl) rfl ?_
            refine WO.val (PO.assign rfl) rfl ?_
            refine WO.nil ?_
            refine WP.cond rfl (fun h38 => ?_) (fun h38 => ?_)
            · replace hs := cond_t h38 hs
              refine WP.region ?_
              refine WO.val (PO.assign rfl) rfl ?_
              refine WO.nil ?_
              exact ⟨_, ⟨1152921504606846976, ⟨rfl, rfl, rfl, rfl, rfl, rfl, rfl, rfl, trivial⟩, rfl, hs⟩, fun _ s => s⟩
            · replace hs := cond_f h38 hs
              refine WP.region ?_
              refine WO.val (PO.move rfl) rfl ?_
              refine WO.val (PO.conv rfl Tryz.runUnderlying3 Tryz.runUnderlying33) rfl ?_
              obtain ⟨hc40, hs⟩ := check_elim hs
              refine WO.val (PO.quo rfl rfl hc40) rfl ?_
              refine WO.val (PO.add rfl rfl) rfl ?_
              refine WO.val (PO.assign rfl) rfl ?_
              refine WO.nil ?_
              exact ⟨_, ⟨(IntKind.u64.wrap ((IntKind.u64.wrap ((18446744073709551615 : Int).tdiv (IntKind.u64.wrap j2_1))) + 1)), ⟨rfl, rfl, rfl, rfl, rfl, rfl, rfl, rfl, trivial⟩, rfl, hs⟩, fun _ s => s⟩
        · rintro f_ L_ ⟨j4_0, hf_, rfl, hs⟩
          refine WP.keep [(0, .string j2_0), (1, .int .i64 j2_1), (2, .int .i64 j3_0), (6, .int .u64 0), (7, .nilIface), (8, .bool (String' == 0)), (9, .string String), (10, .int .u64 j4_0)] hf_ ?_
          unfold s_iParseUint_j2 at hs
          refine WP.seq ?_
          refine WP.region ?_
          refine WO.val (PO.move rfl) rfl ?_
          refine WO.val (PO.conv rfl Tryz.runUnderlying3 Tryz.runUnderlying81) rfl ?_
          refine WO.val (PO.shl rfl rfl (wrap_nn_u64 _)) rfl ?_
          refine WO.val (PO.sub rfl rfl) rfl ?_
          refine WO.val (PO.assign rfl) rfl ?_
          refine WO.nil ?_
          refine WP.seq ?_
          refine WP.region ?_
          refine WO.val (PO.assign rfl) rfl ?_
          refine WO.nil ?_
          refine WP.seq ?_
          refine WP.region ?_
          refine WO.val (PO.assign rfl) rfl ?_
          refine WO.nil ?_
          refine WP.seq ?_
          refine WP.seq ?_
          refine WP.region ?_
          refine WO.val (PO.move rfl) rfl ?_
          refine WO.step (SO.of rfl (EO.bytes rfl Tryz.underlying9 Tryz.underlying90 Tryz.underlying5)) rfl ?_
          rintro v5 _ rfl
          refine WO.toL [F, slw 5 1 v5 (bytesL j2_0).length (fl u8c (bytesL j2_0))] rfl ?_
          refine WO.val (PO.lenW 1 rfl Tryz.runUnderlying90 rfl) rfl ?_
          refine WO.val (PO.move rfl) rfl ?_
          refine WO.nil ?_
          refine WP.block ?_
          refine WP.loopG (fun c6_k f_ L_ => ∃ (c6_0 : Bool) (c6_1 : Int) (c6_2 : Int), Holds f_ [(1, .int .i64 j2_1), (6, .int .u64 0), (7, .nilIface), (8, .bool (String' == 0)), (9, .string String), (10, .int .u64 j4_0), (11, .int .u64 (IntKind.u64.wrap ((shlI .u64 1 (IntKind.u64.wrap j3_0)) - 1))), (12, .bool c6_0), (13, .int .u64 c6_1), (99, v5), (100, .int .i64 ((bytesL j2_0).length : Int)), (101, .int .i64 c6_2)] ∧ L_ = [F, slw 5 1 v5 (bytesL j2_0).length (fl u8c (bytesL j2_0))] ∧ s_iParseUint_l1 String String' k j2_0 j2_1 j3_0 j4_0 c6_k c6_0 c6_1 c6_2 = some r) k ⟨false, 0, 0, ⟨rfl, rfl, rfl, rfl, rfl, rfl, rfl, rfl, rfl, rfl, rfl, rfl, trivial⟩, rfl, hs⟩ ?_
          rintro c6_k f_ L_ ⟨c6_0, c6_1, c6_2, hf_, rfl, hs⟩
          refine WP.keep [(1, .int .i64 j2_1), (6, .int .u64 0), (7, .nilIface), (8, .bool (String' == 0)), (9, .string String), (10, .int .u64 j4_0), (11, .int .u64 (IntKind.u64.wrap ((shlI .u64 1 (IntKind.u64.wrap j3_0)) - 1))), (12, .bool c6_0), (13, .int .u64 c6_1), (99, v5), (100, .int .i64 ((bytesL j2_0).length : Int)), (101, .int .i64 c6_2)] hf_ ?_
          cases c6_k with
          | zero => exact nomatch (show none = some r from hs)
          | succ c6_k =>
            rw [s_iParseUint_l1.eq_2] at hs
            refine WP.seq ?_
            refine WP.region ?_
            refine WO.val (PO.lss rfl rfl) rfl ?_
            refine WO.nil ?_
            refine WP.seq ?_
            refine WP.cond rfl (fun h7 => ?_) (fun h7 => ?_)
            · replace hs := cond_t h7 hs
              refine WP.skip ?_
              refine WP.seq ?_
              refine WP.join (fun f_ L_ => ∃ (j8_0 : Bool) (j8_1 : Int), Holds f_ [(1, .int .i64 j2_1), (6, .int .u64 0), (7, .nilIface), (8, .bool (String' == 0)), (9, .string String), (10, .int .u64 j4_0), (11, .int .u64 (IntKind.u64.wrap ((shlI .u64 1 (IntKind.u64.wrap j3_0)) - 1))), (12, .bool j8_0), (13, .int .u64 j8_1), (99, v5), (100, .int .i64 ((bytesL j2_0).length : Int)), (101, .int .i64 c6_2)] ∧ L_ = [F, slw 5 1 v5 (bytesL j2_0).length (fl u8c (bytesL j2_0))] ∧ s_iParseUint_j19 c6_2 (s_iParseUint_l1 String String' k j2_0 j2_1 j3_0 j4_0 c6_k) j8_0 j8_1 = some r) ?_ ?_
              · refine WP.block ?_
                refine WP.seq ?_
                refine WP.region ?_
                obtain ⟨x9, hx9, hs⟩ := bind_elim hs
                refine WO.val (PO.idxW 1 rfl rfl Tryz.runUnderlying90 Tryz.sizeOf5 rfl hx9) rfl ?_
                refine WO.val (PO.loadW 1 rfl Tryz.isAgg5 rfl (fl_at (c := u8c) (k := 1) (j := 0) (fun _ => rfl) hx9 rfl)) rfl ?_
                refine WO.val (PO.assign rfl) rfl ?_
                refine WO.nil ?_
                refine WP.seq ?_
                refine WP.region ?_
                refine WO.val (PO.assign rfl) rfl ?_
                refine WO.nil ?_
                refine WP.seq ?_
                refine WP.join (fun f_ L_ => ∃ (j10_0 : Int), Holds f_ [(1, .int .i64 j2_1), (6, .int .u64 0), (7, .nilIface), (8, .bool (String' == 0)), (9, .string String), (10, .int .u64 j4_0), (11, .int .u64 (IntKind.u64.wrap ((shlI .u64 1 (IntKind.u64.wrap j3_0)) - 1))), (12, .bool c6_0), (13, .int .u64 c6_1), (99, v5), (100, .int .i64 ((bytesL j2_0).length : Int)), (101, .int .i64 c6_2), (16, .int .u8 j10_0)] ∧ L_ = [F, slw 5 1 v5 (bytesL j2_0).length (fl u8c (bytesL j2_0))] ∧ s_iParseUint_j20 j2_1 j3_0 j4_0 c6_0 c6_1 c6_2 (s_iParseUint_l1 String String' k j2_0 j2_1 j3_0 j4_0 c6_k) j10_0 = some r) ?_ ?_
                · refine WP.block ?_
                  refine WP.seq ?_
                  refine WP.regionG (D := [some 107, some 108, some 109, some 110, some 111, some 106]) rfl ?_
                  refine WO.val (PO.move rfl) rfl ?_
                  refine WO.val (PO.eql rfl rfl) rfl ?_
                  refine WO.val (PO.move rfl) rfl ?_
                  refine WO.guardT rfl rfl (fun hg17 => (PO.move rfl).vo) rfl ?_
                  refine WO.val (PO.pickA rfl rfl rfl) rfl ?_
                  refine WO.val (PO.assign rfl) rfl ?_
                  refine WO.nil ?_
                  refine WP.cond rfl (fun h18 => ?_) (fun h18 => ?_)
                  · replace hs := cond_t h18 hs
                    refine WP.seq ?_
                    refine WP.region ?_
                    refine WO.val (PO.assign rfl) rfl ?_
                    refine WO.nil ?_
                    refine WP.exit (inX.miss rfl (inX.hit ?_))
                    exact ⟨_, ⟨true, c6_1, ⟨rfl, rfl, rfl, rfl, rfl, rfl, rfl, rfl, rfl, rfl, rfl, rfl, trivial⟩, rfl, hs⟩, fun _ s => s⟩
                  · replace hs := cond_f h18 hs
                    refine WP.seq ?_
                    refine WP.regionG (D := [some 113, some 114, some 115, some 116, some 117, some 118, some 112]) rfl ?_
                    refine WO.val (PO.move rfl) rfl ?_
                    refine WO.val (PO.leq rfl rfl) rfl ?_
                    refine WO.val (PO.move rfl) rfl ?_
                    refine WO.guardT rfl rfl (fun hg19 => (PO.move rfl).vo) rfl ?_
                    refine WO.guardT rfl rfl (fun hg20 => (PO.leq (evg hg20 rfl) rfl).vo) rfl ?_
                    refine WO.val (PO.pickA rfl rfl rfl) rfl ?_
                    refine WO.val (PO.assign rfl) rfl ?_
                    refine WO.nil ?_
                    refine WP.cond rfl (fun h21 => ?_) (fun h21 => ?_)
                    · replace hs := cond_t h21 hs
                      refine WP.region ?_
                      refine WO.val (PO.move rfl) rfl ?_
                      refine WO.val (PO.sub rfl rfl) rfl ?_
                      refine WO.val (PO.assign rfl) rfl ?_
                      refine WO.nil ?_
                      exact ⟨_, ⟨(IntKind.u8.wrap (x9 - 48)), ⟨rfl, rfl, rfl, rfl, rfl, rfl, rfl, rfl, rfl, rfl, rfl, rfl, rfl, trivial⟩, rfl, hs⟩, fun _ s => s⟩
                    · replace hs := cond_f h21 hs
                      refine WP.seq ?_
                      refine WP.regionG (D := [some 122, some 123, some 124, some 125, some 126, some 127, some 128, some 129, some 121]) rfl ?_
                      refine WO.val (PO.move rfl) rfl ?_
                      obtain ⟨x22, hx22, hs⟩ := lt_elim hs
                      refine WO.vo (VO.call0 Tryz.call122 rfl (t_strconv_lower hx22)) rfl ?_
                      refine WO.val (PO.leq rfl rfl) rfl ?_
                      refine WO.val (PO.move rfl) rfl ?_
                      refine WO.guardT rfl rfl (fun hg23 => (PO.move rfl).vo) rfl ?_
                      obtain ⟨x25, hx25, hs⟩ := lt_elim hs
                      refine WO.guardT rfl rfl (fun hg24 => VO.call0 Tryz.call122 (evs_cons (evg hg24 rfl) evs_nil) (t_strconv_lower hx25)) rfl ?_
                      refine WO.guardT rfl rfl (fun hg26 => (PO.leq (evg hg26 rfl) rfl).vo) rfl ?_
                      refine WO.val (PO.pickA rfl rfl rfl) rfl ?_
                      refine WO.val (PO.assign rfl) rfl ?_
                      refine WO.nil ?_
                      refine WP.cond rfl (fun h27 => ?_) (fun h27 => ?_)
                      · replace hs := cond_t h27 hs
                        refine WP.region ?_
                        refine WO.val (PO.move rfl) rfl ?_
                        obtain ⟨x28, hx28, hs⟩ := lt_elim hs
                        refine WO.vo (VO.call0 Tryz.call122 rfl (t_strconv_lower hx28)) rfl ?_
                        refine WO.val (PO.sub rfl rfl) rfl ?_
                        refine WO.val (PO.add rfl rfl) rfl ?_
                        refine WO.val (PO.assign rfl) rfl ?_
                        refine WO.nil ?_
                        exact ⟨_, ⟨(IntKind.u8.wrap ((IntKind.u8.wrap (x28 - 97)) + 10)), ⟨rfl, rfl, rfl, rfl, rfl, rfl, rfl, rfl, rfl, rfl, rfl, rfl, rfl, trivial⟩, rfl, hs⟩, fun _ s => s⟩
                      · replace hs := cond_f h27 hs
                        refine WP.seq ?_
                        refine WP.region ?_
                        refine WO.val (PO.makeIface rfl Tryz.runUnderlying210 rfl) rfl ?_
                        refine WO.val (PO.assign rfl) rfl ?_
                        refine WO.val (PO.assign rfl) rfl ?_
                        refine WO.nil ?_
                        refine WP.ret ?_
                        obtain rfl := Option.some.inj hs
                        exact ⟨_, _, _, Res.two (RV.tmp rfl) (RV.tmp rfl), ⟨rfl, rfl⟩, fun _ s => s⟩
                · rintro f_ L_ ⟨j10_0, hf_, rfl, hs⟩
                  refine WP.keep [(1, .int .i64 j2_1), (6, .int .u64 0), (7, .nilIface), (8, .bool (String' == 0)), (9, .string String), (10, .int .u64 j4_0), (11, .int .u64 (IntKind.u64.wrap ((shlI .u64 1 (IntKind.u64.wrap j3_0)) - 1))), (12, .bool c6_0), (13, .int .u64 c6_1), (99, v5), (100, .int .i64 ((bytesL j2_0).length : Int)), (101, .int .i64 c6_2), (16, .int .u8 j10_0)] hf_ ?_
                  unfold s_iParseUint_j20 at hs
                  refine WP.seq ?_
                  refine WP.seq ?_
                  refine WP.region ?_
                  refine WO.val (PO.move rfl) rfl ?_
                  refine WO.val (PO.move rfl) rfl ?_
                  refine WO.val (PO.conv rfl Tryz.runUnderlying3 Tryz.runUnderlying5) rfl ?_
                  refine WO.val (PO.geq rfl rfl) rfl ?_
                  refine WO.nil ?_
                  refine WP.cond rfl (fun h11 => ?_) (fun h11 => ?_)
                  · replace hs := cond_t h11 hs
                    refine WP.seq ?_
                    refine WP.region ?_
                    refine WO.val (PO.makeIface rfl Tryz.runUnderlying210 rfl) rfl ?_
                    refine WO.val (PO.assign rfl) rfl ?_
                    refine WO.val (PO.assign rfl) rfl ?_
                    refine WO.nil ?_
                    refine WP.ret ?_
                    obtain rfl := Option.some.inj hs
                    exact ⟨_, _, _, Res.two (RV.tmp rfl) (RV.tmp rfl), ⟨rfl, rfl⟩, fun _ s => s⟩
                  · replace hs := cond_f h11 hs
                    refine WP.skip ?_
                    refine WP.seq ?_
                    refine WP.seq ?_
                    refine WP.region ?_
                    refine WO.val (PO.move rfl) rfl ?_
                    refine WO.val (PO.move rfl) rfl ?_
                    refine WO.val (PO.geq rfl rfl) rfl ?_
                    refine WO.nil ?_
                    refine WP.cond rfl (fun h12 => ?_) (fun h12 => ?_)
                    · replace hs := cond_t h12 hs
                      refine WP.seq ?_
                      refine WP.region ?_
                      refine WO.val (PO.move rfl) rfl ?_
                      refine WO.val (PO.makeIface rfl Tryz.runUnderlying210 rfl) rfl ?_
                      refine WO.val (PO.assign rfl) rfl ?_
                      refine WO.val (PO.assign rfl) rfl ?_
                      refine WO.nil ?_
                      refine WP.ret ?_
                      obtain rfl := Option.some.inj hs
                      exact ⟨_, _, _, Res.two (RV.tmp rfl) (RV.tmp rfl), ⟨rfl, rfl⟩, fun _ s => s⟩
                    · replace hs := cond_f h12 hs
                      refine WP.skip ?_
                      refine WP.seq ?_
                      refine WP.region ?_
                      refine WO.val (PO.move rfl) rfl ?_
                      refine WO.val (PO.move rfl) rfl ?_
                      refine WO.val (PO.conv rfl Tryz.runUnderlying3 Tryz.runUnderlying33) rfl ?_
                      refine WO.val (PO.mul rfl rfl) rfl ?_
                      refine WO.val (PO.assign rfl) rfl ?_
                      refine WO.nil ?_
                      refine WP.seq ?_
                      refine WP.region ?_
                      refine WO.val (PO.move rfl) rfl ?_
                      refine WO.val (PO.move rfl) rfl ?_
                      refine WO.val (PO.conv rfl Tryz.runUnderlying5 Tryz.runUnderlying33) rfl ?_
                      refine WO.val (PO.add rfl rfl) rfl ?_
                      refine WO.val (PO.assign rfl) rfl ?_
                      refine WO.nil ?_
                      refine WP.seq ?_
                      refine WP.seq ?_
                      refine WP.regionG (D := [some 152, some 153, some 154, some 155, some 156, some 157, some 158, some 159]) rfl ?_
                      refine WO.val (PO.move rfl) rfl ?_
                      refine WO.val (PO.move rfl) rfl ?_
                      refine WO.val (PO.lss rfl rfl) rfl ?_
                      refine WO.val (PO.move rfl) rfl ?_
                      refine WO.guardF rfl rfl (fun hg13 => (PO.move rfl).vo) rfl ?_
                      refine WO.guardF rfl rfl (fun hg14 => (PO.move rfl).vo) rfl ?_
                      refine WO.guardF rfl rfl (fun hg15 => (PO.gtr (evg hg15 rfl) (evg hg15 rfl)).vo) rfl ?_
                      refine WO.val (PO.pickO rfl rfl rfl) rfl ?_
                      refine WO.nil ?_
                      refine WP.cond rfl (fun h16 => ?_) (fun h16 => ?_)
                      · replace hs := cond_t h16 hs
                        refine WP.seq ?_
                        refine WP.region ?_
                        refine WO.val (PO.move rfl) rfl ?_
                        refine WO.val (PO.makeIface rfl Tryz.runUnderlying210 rfl) rfl ?_
                        refine WO.val (PO.assign rfl) rfl ?_
                        refine WO.val (PO.assign rfl) rfl ?_
                        refine WO.nil ?_
                        refine WP.ret ?_
                        obtain rfl := Option.some.inj hs
                        exact ⟨_, _, _, Res.two (RV.tmp rfl) (RV.tmp rfl), ⟨rfl, rfl⟩, fun _ s => s⟩
                      · replace hs := cond_f h16 hs
                        refine WP.skip ?_
                        refine WP.region ?_
                        refine WO.val (PO.move rfl) rfl ?_
                        refine WO.val (PO.assign rfl) rfl ?_
                        refine WO.nil ?_
                        exact ⟨_, ⟨c6_0, (IntKind.u64.wrap ((IntKind.u64.wrap (c6_1 * (IntKind.u64.wrap j2_1))) + (IntKind.u64.wrap j10_0))), ⟨rfl, rfl, rfl, rfl, rfl, rfl, rfl, rfl, rfl, rfl, rfl, rfl, trivial⟩, rfl, hs⟩, fun _ s => s⟩
              · rintro f_ L_ ⟨j8_0, j8_1, hf_, rfl, hs⟩
                refine WP.keep [(1, .int .i64 j2_1), (6, .int .u64 0), (7, .nilIface), (8, .bool (String' == 0)), (9, .string String), (10, .int .u64 j4_0), (11, .int .u64 (IntKind.u64.wrap ((shlI .u64 1 (IntKind.u64.wrap j3_0)) - 1))), (12, .bool j8_0), (13, .int .u64 j8_1), (99, v5), (100, .int .i64 ((bytesL j2_0).length : Int)), (101, .int .i64 c6_2)] hf_ ?_
                unfold s_iParseUint_j19 at hs
                refine WP.region ?_
                refine WO.val (PO.add rfl rfl) rfl ?_
                refine WO.val (PO.move rfl) rfl ?_
                refine WO.nil ?_
                exact ⟨c6_k, _, Nat.lt_succ_self _, ⟨j8_0, j8_1, (IntKind.i64.wrap (c6_2 + 1)), ⟨rfl, rfl, rfl, rfl, rfl, rfl, rfl, rfl, rfl, rfl, rfl, rfl, trivial⟩, rfl, hs⟩, fun _ s => s.pre⟩
            · replace hs := cond_f h7 hs
              refine WP.exit (inX.hit ?_)
              refine WP.seq ?_
              refine WP.seq ?_
              refine WP.regionG (D := [some 164, some 165, some 166, some 167, some 168, some 169]) rfl ?_
              refine WO.val (PO.move rfl) rfl ?_
              refine WO.val (PO.move rfl) rfl ?_
              refine WO.guardT rfl rfl (fun hg29 => (PO.move rfl).vo) rfl ?_
              obtain ⟨x31, hx31, hs⟩ := bind_elim hs
              refine WO.guardT rfl rfl (fun hg30 => VO.call0 Tryz.call123 (evs_cons (evg hg30 rfl) evs_nil) (t_strconv_underscoreOK (opt_t hx31 hg30))) rfl ?_
              refine WO.guardT rfl rfl (fun hg32 => (PO.not (evg hg32 rfl)).vo) rfl ?_
              refine WO.val (PO.pickA rfl rfl rfl) rfl ?_
              refine WO.nil ?_
              refine WP.cond rfl (fun h33 => ?_) (fun h33 => ?_)
              · replace hs := cond_t h33 hs
                refine WP.seq ?_
                refine WP.region ?_
                refine WO.val (PO.makeIface rfl Tryz.runUnderlying210 rfl) rfl ?_
                refine WO.val (PO.assign rfl) rfl ?_
                refine WO.val (PO.assign rfl) rfl ?_
                refine WO.nil ?_
                refine WP.ret ?_
                obtain rfl := Option.some.inj hs
                exact ⟨_, _, _, Res.two (RV.tmp rfl) (RV.tmp rfl), ⟨rfl, rfl⟩, fun _ s => s⟩
              · replace hs := cond_f h33 hs
                refine WP.skip ?_
                refine WP.seq ?_
                refine WP.region ?_
                refine WO.val (PO.move rfl) rfl ?_
                refine WO.val (PO.assign rfl) rfl ?_
                refine WO.val (PO.assign rfl) rfl ?_
                refine WO.nil ?_
                refine WP.ret ?_
                obtain rfl := Option.some.inj hs
                exact ⟨_, _, _, Res.two (RV.tmp rfl) (RV.tmp rfl), ⟨rfl, rfl⟩, fun _ s => s⟩
attribute [irreducible] s_iParseUint

end Go.Proofs.YtlnionilhagenaaGreatDoor
