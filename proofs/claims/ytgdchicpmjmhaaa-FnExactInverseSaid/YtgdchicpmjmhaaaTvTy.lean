/-
  The program's table of types, as facts. Conditions: none.
-/
import Derived.Test.YtgdchicpmjmhaaaTvCn
import Derived.Test.YtgdchicpmjmhaaaProg
namespace Go.Tv
open Go.Proofs
abbrev ty2 : Ty := (.int .i64)
abbrev ty3 : Ty := (.int .i64)
abbrev ty4 : Ty := .bool
abbrev ty5 : Ty := (.int .u8)
abbrev ty9 : Ty := .str
abbrev ty22 : Ty := (.slice (.prod (.int .i64) (.prod (.int .i64) (.prod (.slice (.prod (.int .i64) (.prod (.int .i64) (.prod .str .unit)))) (.prod (.slice (.prod (.int .i64) (.prod (.int .i64) (.prod .str .unit)))) .unit)))))
abbrev ty24 : Ty := (.slice (.prod (.int .i64) (.prod (.int .i64) (.prod (.slice (.prod (.int .i64) (.prod (.int .i64) (.prod .str .unit)))) (.prod (.slice (.prod (.int .i64) (.prod (.int .i64) (.prod .str .unit)))) .unit)))))
abbrev ty30 : Ty := (.slice (.int .u8))
abbrev ty32 : Ty := (.slice (.prod .str (.prod .str .unit)))
abbrev ty33 : Ty := (.slice (.prod (.int .i64) (.prod .str (.prod .str (.prod .str .unit)))))
abbrev ty38 : Ty := (.slice (.int .i64))
abbrev ty44 : Ty := (.prod (.int .i64) (.prod .str (.prod .str (.prod .str .unit))))
abbrev ty56 : Ty := (.slice (.prod (.int .i64) (.prod (.int .i64) (.prod .str .unit))))
abbrev ty58 : Ty := (.prod (.int .i64) (.prod (.int .i64) (.prod (.slice (.prod (.int .i64) (.prod (.int .i64) (.prod .str .unit)))) (.prod (.slice (.prod (.int .i64) (.prod (.int .i64) (.prod .str .unit)))) .unit))))
abbrev ty59 : Ty := (.slice (.prod (.int .i64) (.prod (.int .i64) (.prod .str .unit))))
abbrev ty61 : Ty := (.prod (.int .i64) (.prod (.int .i64) (.prod (.slice (.prod (.int .i64) (.prod (.int .i64) (.prod .str .unit)))) (.prod (.slice (.prod (.int .i64) (.prod (.int .i64) (.prod .str .unit)))) .unit))))
abbrev ty68 : Ty := (.prod (.int .i64) (.prod (.int .i64) (.prod .str .unit)))
abbrev ty79 : Ty := (.prod .str (.prod .str .unit))
abbrev ty35 : Ty := (.prod (.slice (.prod .str (.prod .str .unit))) (.prod (.slice (.prod .str (.prod .str .unit))) (.prod (.slice (.prod (.int .i64) (.prod .str (.prod .str (.prod .str .unit))))) .unit)))
abbrev ty88 : Ty := (.slice .str)
abbrev ty99 : Ty := (.prod (.slice (.int .u8)) (.prod (.int .i64) .unit))
abbrev ty112 : Ty := (.prod (.int .i64) (.prod (.int .i64) (.prod .str .unit)))
/-- what a variable of each type holds: rows of one's own, of shared parts -/
def tyOf (t : TypeId) : Option Ty :=
  match t with
  | 2 => some (.int .i64)
  | 3 => some (.int .i64)
  | 4 => some .bool
  | 5 => some (.int .u8)
  | 9 => some .str
  | 22 => some (.own 58 (.prod (.int .i64) (.prod (.int .i64) (.prod (.slice (.prod (.int .i64) (.prod (.int .i64) (.prod .str .unit)))) (.prod (.slice (.prod (.int .i64) (.prod (.int .i64) (.prod .str .unit)))) .unit)))))
  | 24 => some (.own 61 (.prod (.int .i64) (.prod (.int .i64) (.prod (.slice (.prod (.int .i64) (.prod (.int .i64) (.prod .str .unit)))) (.prod (.slice (.prod (.int .i64) (.prod (.int .i64) (.prod .str .unit)))) .unit)))))
  | 30 => some (.own 5 (.int .u8))
  | 32 => some (.own 79 (.prod .str (.prod .str .unit)))
  | 33 => some (.own 44 (.prod (.int .i64) (.prod .str (.prod .str (.prod .str .unit)))))
  | 38 => some (.own 2 (.int .i64))
  | 44 => some (.prod (.int .i64) (.prod .str (.prod .str (.prod .str .unit))))
  | 56 => some (.own 112 (.prod (.int .i64) (.prod (.int .i64) (.prod .str .unit))))
  | 58 => some (.prod (.int .i64) (.prod (.int .i64) (.prod (.slice (.prod (.int .i64) (.prod (.int .i64) (.prod .str .unit)))) (.prod (.slice (.prod (.int .i64) (.prod (.int .i64) (.prod .str .unit)))) .unit))))
  | 59 => some (.own 68 (.prod (.int .i64) (.prod (.int .i64) (.prod .str .unit))))
  | 61 => some (.prod (.int .i64) (.prod (.int .i64) (.prod (.slice (.prod (.int .i64) (.prod (.int .i64) (.prod .str .unit)))) (.prod (.slice (.prod (.int .i64) (.prod (.int .i64) (.prod .str .unit)))) .unit))))
  | 68 => some (.prod (.int .i64) (.prod (.int .i64) (.prod .str .unit)))
  | 79 => some (.prod .str (.prod .str .unit))
  | 35 => some (.prod (.slice (.prod .str (.prod .str .unit))) (.prod (.slice (.prod .str (.prod .str .unit))) (.prod (.slice (.prod (.int .i64) (.prod .str (.prod .str (.prod .str .unit))))) .unit)))
  | 88 => some (.own 9 .str)
  | 99 => some (.prod (.slice (.int .u8)) (.prod (.int .i64) .unit))
  | 112 => some (.prod (.int .i64) (.prod (.int .i64) (.prod .str .unit)))
  | _ => none
@[go_sem] theorem fSz_2 : pSize Try.prog 2 = some 1 := by kernel_rfl
@[go_sem] theorem fBy_2 : pBytes Try.prog 2 = some 8 := by kernel_rfl
@[go_sem] theorem fRow_2 : pRow Try.prog 2 = some false := by kernel_rfl
@[go_sem] theorem fZero_2 : pZero Try.prog 2 = some (.int .i64 0) := by kernel_rfl
@[go_sem] theorem fInt_2 : pInt Try.prog 2 = some .i64 := by kernel_rfl
@[go_sem] theorem fUn_2 : (Program.underlying Try.prog 2).isSome = true := by kernel_rfl
@[go_sem] theorem fSz_3 : pSize Try.prog 3 = some 1 := by kernel_rfl
@[go_sem] theorem fBy_3 : pBytes Try.prog 3 = some 8 := by kernel_rfl
@[go_sem] theorem fRow_3 : pRow Try.prog 3 = some false := by kernel_rfl
@[go_sem] theorem fZero_3 : pZero Try.prog 3 = some (.int .i64 0) := by kernel_rfl
@[go_sem] theorem fInt_3 : pInt Try.prog 3 = some .i64 := by kernel_rfl
@[go_sem] theorem fUn_3 : (Program.underlying Try.prog 3).isSome = true := by kernel_rfl
@[go_sem] theorem fSz_4 : pSize Try.prog 4 = some 1 := by kernel_rfl
@[go_sem] theorem fBy_4 : pBytes Try.prog 4 = some 1 := by kernel_rfl
@[go_sem] theorem fRow_4 : pRow Try.prog 4 = some false := by kernel_rfl
@[go_sem] theorem fZero_4 : pZero Try.prog 4 = some (.bool false) := by kernel_rfl
@[go_sem] theorem fBool_4 : pBool Try.prog 4 = true := by kernel_rfl
@[go_sem] theorem fUn_4 : (Program.underlying Try.prog 4).isSome = true := by kernel_rfl
@[go_sem] theorem fSz_5 : pSize Try.prog 5 = some 1 := by kernel_rfl
@[go_sem] theorem fBy_5 : pBytes Try.prog 5 = some 1 := by kernel_rfl
@[go_sem] theorem fRow_5 : pRow Try.prog 5 = some false := by kernel_rfl
@[go_sem] theorem fZero_5 : pZero Try.prog 5 = some (.int .u8 0) := by kernel_rfl
@[go_sem] theorem fInt_5 : pInt Try.prog 5 = some .u8 := by kernel_rfl
@[go_sem] theorem fUn_5 : (Program.underlying Try.prog 5).isSome = true := by kernel_rfl
@[go_sem] theorem fSz_9 : pSize Try.prog 9 = some 1 := by kernel_rfl
@[go_sem] theorem fBy_9 : pBytes Try.prog 9 = some 16 := by kernel_rfl
@[go_sem] theorem fRow_9 : pRow Try.prog 9 = some false := by kernel_rfl
@[go_sem] theorem fZero_9 : pZero Try.prog 9 = some (.string ⟨#[]⟩) := by kernel_rfl
@[go_sem] theorem fStr_9 : pStr Try.prog 9 = true := by kernel_rfl
@[go_sem] theorem fKind_9 : pKind Try.prog 9 = true := by kernel_rfl
@[go_sem] theorem fUn_9 : (Program.underlying Try.prog 9).isSome = true := by kernel_rfl
@[go_sem] theorem fSz_22 : pSize Try.prog 22 = some 1 := by kernel_rfl
@[go_sem] theorem fBy_22 : pBytes Try.prog 22 = some 24 := by kernel_rfl
@[go_sem] theorem fRow_22 : pRow Try.prog 22 = some false := by kernel_rfl
@[go_sem] theorem fZero_22 : pZero Try.prog 22 = some (.slice none 0 0) := by kernel_rfl
@[go_sem] theorem fEl_22 : pElem Try.prog 22 = some 58 := by kernel_rfl
@[go_sem] theorem fElSz_22 : pElSz Try.prog 22 = some 4 := by kernel_rfl
@[go_sem] theorem fKind_22 : pKind Try.prog 22 = true := by kernel_rfl
@[go_sem] theorem fUn_22 : (Program.underlying Try.prog 22).isSome = true := by kernel_rfl
@[go_sem] theorem fSz_24 : pSize Try.prog 24 = some 1 := by kernel_rfl
@[go_sem] theorem fBy_24 : pBytes Try.prog 24 = some 24 := by kernel_rfl
@[go_sem] theorem fRow_24 : pRow Try.prog 24 = some false := by kernel_rfl
@[go_sem] theorem fZero_24 : pZero Try.prog 24 = some (.slice none 0 0) := by kernel_rfl
@[go_sem] theorem fEl_24 : pElem Try.prog 24 = some 61 := by kernel_rfl
@[go_sem] theorem fElSz_24 : pElSz Try.prog 24 = some 4 := by kernel_rfl
@[go_sem] theorem fKind_24 : pKind Try.prog 24 = true := by kernel_rfl
@[go_sem] theorem fUn_24 : (Program.underlying Try.prog 24).isSome = true := by kernel_rfl
@[go_sem] theorem fSz_30 : pSize Try.prog 30 = some 1 := by kernel_rfl
@[go_sem] theorem fBy_30 : pBytes Try.prog 30 = some 24 := by kernel_rfl
@[go_sem] theorem fRow_30 : pRow Try.prog 30 = some false := by kernel_rfl
@[go_sem] theorem fZero_30 : pZero Try.prog 30 = some (.slice none 0 0) := by kernel_rfl
@[go_sem] theorem fEl_30 : pElem Try.prog 30 = some 5 := by kernel_rfl
@[go_sem] theorem fElSz_30 : pElSz Try.prog 30 = some 1 := by kernel_rfl
@[go_sem] theorem fKind_30 : pKind Try.prog 30 = true := by kernel_rfl
@[go_sem] theorem fUn_30 : (Program.underlying Try.prog 30).isSome = true := by kernel_rfl
@[go_sem] theorem fSz_32 : pSize Try.prog 32 = some 1 := by kernel_rfl
@[go_sem] theorem fBy_32 : pBytes Try.prog 32 = some 24 := by kernel_rfl
@[go_sem] theorem fRow_32 : pRow Try.prog 32 = some false := by kernel_rfl
@[go_sem] theorem fZero_32 : pZero Try.prog 32 = some (.slice none 0 0) := by kernel_rfl
@[go_sem] theorem fEl_32 : pElem Try.prog 32 = some 79 := by kernel_rfl
@[go_sem] theorem fElSz_32 : pElSz Try.prog 32 = some 2 := by kernel_rfl
@[go_sem] theorem fKind_32 : pKind Try.prog 32 = true := by kernel_rfl
@[go_sem] theorem fUn_32 : (Program.underlying Try.prog 32).isSome = true := by kernel_rfl
@[go_sem] theorem fSz_33 : pSize Try.prog 33 = some 1 := by kernel_rfl
@[go_sem] theorem fBy_33 : pBytes Try.prog 33 = some 24 := by kernel_rfl
@[go_sem] theorem fRow_33 : pRow Try.prog 33 = some false := by kernel_rfl
@[go_sem] theorem fZero_33 : pZero Try.prog 33 = some (.slice none 0 0) := by kernel_rfl
@[go_sem] theorem fEl_33 : pElem Try.prog 33 = some 44 := by kernel_rfl
@[go_sem] theorem fElSz_33 : pElSz Try.prog 33 = some 4 := by kernel_rfl
@[go_sem] theorem fKind_33 : pKind Try.prog 33 = true := by kernel_rfl
@[go_sem] theorem fUn_33 : (Program.underlying Try.prog 33).isSome = true := by kernel_rfl
@[go_sem] theorem fSz_38 : pSize Try.prog 38 = some 1 := by kernel_rfl
@[go_sem] theorem fBy_38 : pBytes Try.prog 38 = some 24 := by kernel_rfl
@[go_sem] theorem fRow_38 : pRow Try.prog 38 = some false := by kernel_rfl
@[go_sem] theorem fZero_38 : pZero Try.prog 38 = some (.slice none 0 0) := by kernel_rfl
@[go_sem] theorem fEl_38 : pElem Try.prog 38 = some 2 := by kernel_rfl
@[go_sem] theorem fElSz_38 : pElSz Try.prog 38 = some 1 := by kernel_rfl
@[go_sem] theorem fKind_38 : pKind Try.prog 38 = true := by kernel_rfl
@[go_sem] theorem fUn_38 : (Program.underlying Try.prog 38).isSome = true := by kernel_rfl
@[go_sem] theorem fSz_44 : pSize Try.prog 44 = some 4 := by kernel_rfl
@[go_sem] theorem fBy_44 : pBytes Try.prog 44 = some 56 := by kernel_rfl
@[go_sem] theorem fRow_44 : pRow Try.prog 44 = some true := by kernel_rfl
@[go_sem] theorem fZero_44 : pZero Try.prog 44 = some (.agg #[.int .i64 0, .string ⟨#[]⟩, .string ⟨#[]⟩, .string ⟨#[]⟩]) := by kernel_rfl
@[go_sem] theorem fUn_44 : (Program.underlying Try.prog 44).isSome = true := by kernel_rfl
@[go_sem] theorem fFld_44_0 : pFld Try.prog 44 0 = some 0 := by kernel_rfl
@[go_sem] theorem fFld_44_1 : pFld Try.prog 44 1 = some 1 := by kernel_rfl
@[go_sem] theorem fFld_44_2 : pFld Try.prog 44 2 = some 2 := by kernel_rfl
@[go_sem] theorem fFld_44_3 : pFld Try.prog 44 3 = some 3 := by kernel_rfl
@[go_sem] theorem fPl_44 : pPlaces Try.prog 44 = some [(0, 1), (1, 1), (2, 1), (3, 1)] := by kernel_rfl
@[go_sem] theorem fSz_56 : pSize Try.prog 56 = some 1 := by kernel_rfl
@[go_sem] theorem fBy_56 : pBytes Try.prog 56 = some 24 := by kernel_rfl
@[go_sem] theorem fRow_56 : pRow Try.prog 56 = some false := by kernel_rfl
@[go_sem] theorem fZero_56 : pZero Try.prog 56 = some (.slice none 0 0) := by kernel_rfl
@[go_sem] theorem fEl_56 : pElem Try.prog 56 = some 112 := by kernel_rfl
@[go_sem] theorem fElSz_56 : pElSz Try.prog 56 = some 3 := by kernel_rfl
@[go_sem] theorem fKind_56 : pKind Try.prog 56 = true := by kernel_rfl
@[go_sem] theorem fUn_56 : (Program.underlying Try.prog 56).isSome = true := by kernel_rfl
@[go_sem] theorem fSz_58 : pSize Try.prog 58 = some 4 := by kernel_rfl
@[go_sem] theorem fBy_58 : pBytes Try.prog 58 = some 64 := by kernel_rfl
@[go_sem] theorem fRow_58 : pRow Try.prog 58 = some true := by kernel_rfl
@[go_sem] theorem fZero_58 : pZero Try.prog 58 = some (.agg #[.int .i64 0, .int .i64 0, .slice none 0 0, .slice none 0 0]) := by kernel_rfl
@[go_sem] theorem fUn_58 : (Program.underlying Try.prog 58).isSome = true := by kernel_rfl
@[go_sem] theorem fFld_58_0 : pFld Try.prog 58 0 = some 0 := by kernel_rfl
@[go_sem] theorem fFld_58_1 : pFld Try.prog 58 1 = some 1 := by kernel_rfl
@[go_sem] theorem fFld_58_2 : pFld Try.prog 58 2 = some 2 := by kernel_rfl
@[go_sem] theorem fFld_58_3 : pFld Try.prog 58 3 = some 3 := by kernel_rfl
@[go_sem] theorem fPl_58 : pPlaces Try.prog 58 = some [(0, 1), (1, 1), (2, 1), (3, 1)] := by kernel_rfl
@[go_sem] theorem fSz_59 : pSize Try.prog 59 = some 1 := by kernel_rfl
@[go_sem] theorem fBy_59 : pBytes Try.prog 59 = some 24 := by kernel_rfl
@[go_sem] theorem fRow_59 : pRow Try.prog 59 = some false := by kernel_rfl
@[go_sem] theorem fZero_59 : pZero Try.prog 59 = some (.slice none 0 0) := by kernel_rfl
@[go_sem] theorem fEl_59 : pElem Try.prog 59 = some 68 := by kernel_rfl
@[go_sem] theorem fElSz_59 : pElSz Try.prog 59 = some 3 := by kernel_rfl
@[go_sem] theorem fKind_59 : pKind Try.prog 59 = true := by kernel_rfl
@[go_sem] theorem fUn_59 : (Program.underlying Try.prog 59).isSome = true := by kernel_rfl
@[go_sem] theorem fSz_61 : pSize Try.prog 61 = some 4 := by kernel_rfl
@[go_sem] theorem fBy_61 : pBytes Try.prog 61 = some 64 := by kernel_rfl
@[go_sem] theorem fRow_61 : pRow Try.prog 61 = some true := by kernel_rfl
@[go_sem] theorem fZero_61 : pZero Try.prog 61 = some (.agg #[.int .i64 0, .int .i64 0, .slice none 0 0, .slice none 0 0]) := by kernel_rfl
@[go_sem] theorem fUn_61 : (Program.underlying Try.prog 61).isSome = true := by kernel_rfl
@[go_sem] theorem fFld_61_0 : pFld Try.prog 61 0 = some 0 := by kernel_rfl
@[go_sem] theorem fFld_61_1 : pFld Try.prog 61 1 = some 1 := by kernel_rfl
@[go_sem] theorem fFld_61_2 : pFld Try.prog 61 2 = some 2 := by kernel_rfl
@[go_sem] theorem fFld_61_3 : pFld Try.prog 61 3 = some 3 := by kernel_rfl
@[go_sem] theorem fPl_61 : pPlaces Try.prog 61 = some [(0, 1), (1, 1), (2, 1), (3, 1)] := by kernel_rfl
@[go_sem] theorem fSz_68 : pSize Try.prog 68 = some 3 := by kernel_rfl
@[go_sem] theorem fBy_68 : pBytes Try.prog 68 = some 32 := by kernel_rfl
@[go_sem] theorem fRow_68 : pRow Try.prog 68 = some true := by kernel_rfl
@[go_sem] theorem fZero_68 : pZero Try.prog 68 = some (.agg #[.int .i64 0, .int .i64 0, .string ⟨#[]⟩]) := by kernel_rfl
@[go_sem] theorem fUn_68 : (Program.underlying Try.prog 68).isSome = true := by kernel_rfl
@[go_sem] theorem fFld_68_0 : pFld Try.prog 68 0 = some 0 := by kernel_rfl
@[go_sem] theorem fFld_68_1 : pFld Try.prog 68 1 = some 1 := by kernel_rfl
@[go_sem] theorem fFld_68_2 : pFld Try.prog 68 2 = some 2 := by kernel_rfl
@[go_sem] theorem fPl_68 : pPlaces Try.prog 68 = some [(0, 1), (1, 1), (2, 1)] := by kernel_rfl
@[go_sem] theorem fSz_79 : pSize Try.prog 79 = some 2 := by kernel_rfl
@[go_sem] theorem fBy_79 : pBytes Try.prog 79 = some 32 := by kernel_rfl
@[go_sem] theorem fRow_79 : pRow Try.prog 79 = some true := by kernel_rfl
@[go_sem] theorem fZero_79 : pZero Try.prog 79 = some (.agg #[.string ⟨#[]⟩, .string ⟨#[]⟩]) := by kernel_rfl
@[go_sem] theorem fUn_79 : (Program.underlying Try.prog 79).isSome = true := by kernel_rfl
@[go_sem] theorem fFld_79_0 : pFld Try.prog 79 0 = some 0 := by kernel_rfl
@[go_sem] theorem fFld_79_1 : pFld Try.prog 79 1 = some 1 := by kernel_rfl
@[go_sem] theorem fPl_79 : pPlaces Try.prog 79 = some [(0, 1), (1, 1)] := by kernel_rfl
@[go_sem] theorem fSz_35 : pSize Try.prog 35 = some 3 := by kernel_rfl
@[go_sem] theorem fBy_35 : pBytes Try.prog 35 = some 72 := by kernel_rfl
@[go_sem] theorem fRow_35 : pRow Try.prog 35 = some true := by kernel_rfl
@[go_sem] theorem fZero_35 : pZero Try.prog 35 = some (.agg #[.slice none 0 0, .slice none 0 0, .slice none 0 0]) := by kernel_rfl
@[go_sem] theorem fUn_35 : (Program.underlying Try.prog 35).isSome = true := by kernel_rfl
@[go_sem] theorem fFld_35_0 : pFld Try.prog 35 0 = some 0 := by kernel_rfl
@[go_sem] theorem fFld_35_1 : pFld Try.prog 35 1 = some 1 := by kernel_rfl
@[go_sem] theorem fFld_35_2 : pFld Try.prog 35 2 = some 2 := by kernel_rfl
@[go_sem] theorem fPl_35 : pPlaces Try.prog 35 = some [(0, 1), (1, 1), (2, 1)] := by kernel_rfl
@[go_sem] theorem fSz_88 : pSize Try.prog 88 = some 1 := by kernel_rfl
@[go_sem] theorem fBy_88 : pBytes Try.prog 88 = some 24 := by kernel_rfl
@[go_sem] theorem fRow_88 : pRow Try.prog 88 = some false := by kernel_rfl
@[go_sem] theorem fZero_88 : pZero Try.prog 88 = some (.slice none 0 0) := by kernel_rfl
@[go_sem] theorem fEl_88 : pElem Try.prog 88 = some 9 := by kernel_rfl
@[go_sem] theorem fElSz_88 : pElSz Try.prog 88 = some 1 := by kernel_rfl
@[go_sem] theorem fKind_88 : pKind Try.prog 88 = true := by kernel_rfl
@[go_sem] theorem fUn_88 : (Program.underlying Try.prog 88).isSome = true := by kernel_rfl
@[go_sem] theorem fSz_99 : pSize Try.prog 99 = some 2 := by kernel_rfl
@[go_sem] theorem fBy_99 : pBytes Try.prog 99 = some 32 := by kernel_rfl
@[go_sem] theorem fRow_99 : pRow Try.prog 99 = some true := by kernel_rfl
@[go_sem] theorem fZero_99 : pZero Try.prog 99 = some (.agg #[.slice none 0 0, .int .i64 0]) := by kernel_rfl
@[go_sem] theorem fUn_99 : (Program.underlying Try.prog 99).isSome = true := by kernel_rfl
@[go_sem] theorem fFld_99_0 : pFld Try.prog 99 0 = some 0 := by kernel_rfl
@[go_sem] theorem fFld_99_1 : pFld Try.prog 99 1 = some 1 := by kernel_rfl
@[go_sem] theorem fPl_99 : pPlaces Try.prog 99 = some [(0, 1), (1, 1)] := by kernel_rfl
@[go_sem] theorem fSz_112 : pSize Try.prog 112 = some 3 := by kernel_rfl
@[go_sem] theorem fBy_112 : pBytes Try.prog 112 = some 32 := by kernel_rfl
@[go_sem] theorem fRow_112 : pRow Try.prog 112 = some true := by kernel_rfl
@[go_sem] theorem fZero_112 : pZero Try.prog 112 = some (.agg #[.int .i64 0, .int .i64 0, .string ⟨#[]⟩]) := by kernel_rfl
@[go_sem] theorem fUn_112 : (Program.underlying Try.prog 112).isSome = true := by kernel_rfl
@[go_sem] theorem fFld_112_0 : pFld Try.prog 112 0 = some 0 := by kernel_rfl
@[go_sem] theorem fFld_112_1 : pFld Try.prog 112 1 = some 1 := by kernel_rfl
@[go_sem] theorem fFld_112_2 : pFld Try.prog 112 2 = some 2 := by kernel_rfl
@[go_sem] theorem fPl_112 : pPlaces Try.prog 112 = some [(0, 1), (1, 1), (2, 1)] := by kernel_rfl
end Go.Tv
