/- LayoutKnown takes no argument: the call returns true, whatever the world, the listed tables lying as the row says. -/
import Derived.Test.YtennhanlcbibaaaGreatDoorRows
import Derived.Test.YtennhanlcbibaaaGreatDoorTie
import Derived.Test.YtennhanlcbibaaaGreatDoorCards
import Derived.ProofKit
import Derived.OpenShut
import Derived.LaidMore
import Derived.Lay
import Derived.SevenTiedAt
import Derived.Stop.Joined
import Derived.LaidHandle
import Derived.Test.YtennhanlcbibaaaGreatDoorJ
import Derived.Test.YtennhanlcbibaaaGreatDoorKE
namespace Go.Proofs.YtennhanlcbibaaaGreatDoor
open Go Go.Proofs.YtennhanlcbibaaaGreatDoor.Lb Go.ChangeShapes Go.WideShapes Go.ChangeAt Go.RowKit

theorem own : ownKnob Tryz.prog.godebug = none := by kernel_rfl
theorem outB : laidOutB Tryz.prog = true := by kernel_rfl
/-- What the row lists, without the handle. -/
def datas : List (String × DataW Unit) := [("math/bits.deBruijn32tab", Rows.laid_math_bits_deBruijn32tab), ("math/bits.deBruijn64tab", Rows.laid_math_bits_deBruijn64tab), ("internal/strconv.uint64pow10", Rows.laid_internal_strconv_uint64pow10), ("unicode/utf8.acceptRanges", Rows.laid_unicode_utf8_acceptRanges), ("unicode/utf8.first", Rows.laid_unicode_utf8_first)]
theorem datas_eq : (Rows.layoutKnownRow.laid.filter fun x => x.2.handleName?.isNone) = datas := by kernel_rfl
/-- The start, with the handle of the type 'error' in its cell. -/
noncomputable def handled (os : Os) : World :=
  { World.holding Tryz.prog os ⟨#[], #[], []⟩ with heap := (World.holding Tryz.prog os ⟨#[], #[], []⟩).heap.modify 0 fun
      | .cells _ t frozen => .cells #[.iface 178 (.agg #[.pointer (some ⟨7, 96, none⟩)])] t frozen
      | o => o }
noncomputable def laidWorld (os : Os) : World := (handled os).layVars Tryz.prog datas
theorem laidWorld_os (os : Os) : (laidWorld os).os = os := World.layVars_os _ _ _
theorem laidWorld_met (os : Os) : laidMetH Tryz.prog Rows.layoutKnownRow.laid ((laidWorld os).forCall (fun _ _ => 0) ⟨#[], #[], []⟩).memory := by
  refine laidMetH_of_parts ?_ (by kernel_rfl)
  rw [datas_eq]
  have e1 : (datas.filter fun x => (datas.map (·.1)).contains x.1) = datas := by kernel_rfl
  have e2 : (datas.filter fun x => !(datas.map (·.1)).contains x.1) = [] := by kernel_rfl
  have h : laidMet Tryz.prog datas (laidWorld os) := laidMet_layVars (w0 := handled os) (datas.map (·.1)) [] (by rw [e1]; rfl) (by rw [e1]; kernel_rfl) (by rw [e1]; kernel_rfl) (by rw [e2]; exact LaidIn.none)
  exact h.of_heap (by simp [World.memory, World.forCall, Input.heap])

set_option maxRecDepth 100000 in
theorem lifted (os : Os) (started : os.Started) (H : Type) (enc : TypeId × Value → H) :
    ReturnsInHanded {} Tryz.checked os 3 .any (fun w args => (Rows.layoutKnownSpec.pre enc Tryz.prog Tryz.f3 Rows.layoutKnownRow.domain false w args ∧ laidMetH Tryz.prog Rows.layoutKnownRow.laid w) ∧ sizedMet enc Tryz.prog Tryz.f3 (OpenSpec.ofChange Rows.layoutKnownSpec) false w args)
      (Rows.layoutKnownSpec.post enc Tryz.prog Tryz.f3 false true false false) := by
  refine returnsInHanded_of_change_and (C := Tryz.checked) (X := fun w _ => laidMetH Tryz.prog Rows.layoutKnownRow.laid w) (fun _ _ _ hh h => h.of_heap hh) own started (by kernel_rfl) Tryz.func3
    (ChangeSpec.witness_shaped (enc := enc) (C := Tryz.checked) (os := os) (X := fun w _ => laidMetH Tryz.prog Rows.layoutKnownRow.laid w) false (laidWorld os) #[] 8 (laidWorld_os _)
      (World.shaped_of_ZipB (by kernel_rfl) (by kernel_rfl)) (by kernel_rfl) (by kernel_rfl) (by kernel_rfl)
      (laidWorld_met os)) ?_
  intro W base args ds gs before hval0 hW hc _ hL _
  have hW' := hW
  obtain ⟨p, q, hA, hV, rfl, _, _⟩ := hW
  have he : args = #[] := by
    have h1 := (trodAll_length hA).2
    have h2 : Tryz.f3.params.toList.length = 0 := by kernel_rfl
    rw [h2] at h1
    exact Array.eq_empty_of_size_eq_zero (by simpa using h1)
  subst he
  refine law_contract outB (by kernel_rfl) rfl (by kernel_rfl) (tb := 4) (by kernel_rfl) ?_ hW' (calls_of_fn kroot.2.1 ⟨rfl, fun i c hc => by cases hc⟩)
  intro ds hd
  have h2 : Tryz.f3.params.size = 0 := by kernel_rfl
  rw [h2] at hd
  have : ds = [] := List.length_eq_zero_iff.1 hd
  subst this
  rfl

theorem holds : Rows.LayoutKnownSaid :=
  OpenClaim.holds_of_wide 3 Tryz.f3 rfl rfl rfl rfl rfl rfl rfl ⟨rfl, rfl, rfl, rfl, rfl⟩ rfl rfl rfl rfl rfl (by kernel_rfl) Tryz.func3 closed
    (of_decide_eq_true (by kernel_rfl)) (by unfold Func.isWrapper; first | (rw [if_pos (by decide +kernel)]; kernel_rfl) | (rw [if_neg (by decide +kernel)]; exact ⟨rfl, rfl⟩))
    (fun os started H enc _ => lifted os started H enc)
theorem card_holds : Rows.LayoutKnownCardSaid :=
  Claim7.holds_tied_plain_at .later [] [.data, .data, .data, .data, .handle, .pinned] true (true, "82f098d0d1162cf69b9ebfaef0b286164fa37f9ecbe6bd5b4152ccb819290f87") true holds (fun _ h => by cases h) (by kernel_rfl) (fun _ h => by cases h) layoutKnown_row_tie rfl ⟨rfl, rfl⟩ (by kernel_rfl) rfl
    (fun f fn hf hfn => by
      obtain rfl : f = 3 := Option.some.inj ((show Tryz.prog.funcNamed "linkboy/linkboylaw05.LayoutKnown" = some 3 by kernel_rfl).symm.trans hf) |>.symm
      obtain rfl : fn = Tryz.f3 := (Option.some.inj (Tryz.func3.symm.trans hfn)).symm
      exact ⟨by kernel_rfl, fun j t ht => by
        have h2 : Tryz.f3.params.size = 0 := by kernel_rfl
        rw [Array.getElem?_eq_none (by omega)] at ht
        cases ht⟩)
    (by kernel_rfl)
#print axioms card_holds
end Go.Proofs.YtennhanlcbibaaaGreatDoor
