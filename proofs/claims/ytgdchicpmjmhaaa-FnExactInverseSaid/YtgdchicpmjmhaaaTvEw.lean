/-
  The rewriting rules that go through code. Conditions: none; plain definitions and lemmas.
-/
import Derived.Test.YtgdchicpmjmhaaaTvRg
namespace Go.Tv
theorem constSlot_i64 (n : Int) (h1 : -9223372036854775808 ≤ n) (h2 : n ≤ 9223372036854775807) : constSlot (.int .i64 n) = .val ⟨.int .i64, n⟩ := by
  have : IntKind.i64.wrap n = n := by simp [IntKind.wrap, IntKind.bits, IntKind.signed]; omega
  simp [constSlot, this]
theorem constSlot_u8 (n : Int) (h1 : 0 ≤ n) (h2 : n ≤ 255) : constSlot (.int .u8 n) = .val ⟨.int .u8, n⟩ := by
  have : IntKind.u8.wrap n = n := by simp [IntKind.wrap, IntKind.bits, IntKind.signed]; omega
  simp [constSlot, this]
theorem constSlot_str (l : List UInt8) (h : l.length ≤ 4096) : constSlot (.string ⟨l.toArray⟩) = .val ⟨.str, l⟩ := by
  have : (⟨l.toArray⟩ : ByteArray).size ≤ maxLen := by simp only [maxLen]; simp [ByteArray.size]; omega
  simp [constSlot, this]
theorem constSlot_bool (b : Bool) : constSlot (.bool b) = .val ⟨.bool, b⟩ := rfl
theorem constSlot_nil : constSlot (.slice none 0 0) = .nil := rfl
theorem constSlot_nilf : constSlot .nilFunc = .val ⟨.hole, ()⟩ := rfl
theorem constSlot_err : constSlot .nilIface = .val ⟨.err, true⟩ := rfl
attribute [go_sem] qI_nil qI_blk qI_rnd qI_skip qI_seq qI_block qI_exit qI_ret qI_cond qI_text qI_draw qI_loop qI_rangeFunc qI_ops_nil qI_ops_none qI_ops_some qI_opsD_nil qI_opsD_none qI_opsD_some pCnd_true pCnd_false
attribute [go_sem] fin_some fin_none Go1 GoD slotG slotOf pG pOD pGD pCnd pE exitIt qOperT pNil rOper rOp rCall rCallF rCallB rCallS rCallX rCallFn rMakeFunc Con.up Con.upE upAll upV lookC packV argsOf rBinB skipP readsO readsG readsL andR
attribute [go_sem] rMove rAssign rAlloc rBox rBuild rBuildSlice rLoad rFieldAddr rStore rIndexAddr rBin rLen rIndex rUn rConv rMakeSlice rExtract rPick rAppend
attribute [go_sem] rdO constSlot_i64 constSlot_u8 constSlot_str constSlot_bool constSlot_nil constSlot_err constSlot_nilf takeV shareV peekV peekAll nilV gotV manyV keysApart noKey Slot.bumpOf Slot.rget Slot.rset refOf intS boolS strS sliS ownV ownS rowAt rowLen tmpO bytesS iBin sCmp srcV putAll plT coeAll inOut Mode.bump argSlot resSlot look
attribute [go_sem] slotWf Wf rdF
attribute [go_sem] Fr.get Fr.app Fr.only bump getAt setAt coe_self fldOnly offT
attribute [go_sem] Ty.free Ty.isAg Ty.sz Ty.zOk Ty.zeroC Ty.dflt Ty.toV Ty.alone Ty.shp Ty.frz
attribute [go_sem] FinOk resFits resFit1 slotFit valFit outFits SlotFits Fits initF
attribute [go_sem] List.append_eq List.nil_append List.cons_append List.append_nil List.map_cons List.map_nil List.zip_cons_cons List.zip_nil_left List.zip_nil_right List.all_cons List.all_nil Option.bind_some Option.bind_none Option.map_some Option.map_none Option.bind_eq_bind List.isEmpty_nil List.isEmpty_cons List.getElem?_cons_zero List.getElem?_cons_succ List.length_cons List.length_nil List.getElem?_nil
attribute [go_sem] or_self or_true true_or or_false false_or and_false false_and Bool.not_eq_true Bool.not_eq_false List.toList_toArray List.size_toArray Option.isSome_some
attribute [go_sem] Op.operands Call.operands Array.toList_append List.append_toArray List.mem_cons List.not_mem_nil List.mem_append bne_eq_false_iff_eq
attribute [go_sem] beq_self_eq_true Int.toNat_natCast
attribute [go_sem] decide_eq_false_iff_not Int.not_lt Int.not_le
attribute [go_sem] Bool.and_true Bool.true_and Bool.and_false Bool.false_and Bool.and_self Bool.not_true Bool.not_false and_true true_and and_self if_true if_false ite_true ite_false Bool.false_eq_true bne_iff_ne ne_eq not_false_eq_true not_true_eq_false Option.some.injEq Prod.mk.injEq eq_self decide_eq_true_eq true_implies false_implies implies_true Bool.true_eq_false
end Go.Tv
