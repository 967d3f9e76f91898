/- What a run of the program in an abstract memory says of the machine: part 5. -/
import Derived.Test.YtennhanlcbibaaaGreatDoorL4
import Derived.Laws.BytesString
import Derived.WideKeyRuns
import Derived.Deep.AppendSrc
import Derived.Laws.AppendOwn
/- Each operation does what the list of operations says: slices, elements, lengths, the least and the greatest. -/
namespace Go.Proofs.YtennhanlcbibaaaGreatDoor.Lb
open Go

section
variable {P : Program} {nt : Nat} {o : Oper} {T : Nat → AVal}

/-- A bound that the operation gives, or leaves out. -/
theorem natOf_eval {g : G} {a : Act} {d n : Nat} {x : Option Operand} (hr : ∀ y, x = some y → VRel g (aeval nt T y) (a.eval y)) (h : natOf d (aeval nt T) x = some n) : (x = none ∧ n = d) ∨ ∃ k, x.map a.eval = some (.int k n) := by
  cases x with
  | none => simp only [natOf, Option.some.injEq] at h; exact .inl ⟨rfl, h.symm⟩
  | some y =>
    simp only [natOf] at h
    split at h
    · rename_i k m e
      injection h with h
      subst h
      have h1 := hr y rfl
      rw [e] at h1
      generalize hv : a.eval y = v at h1
      cases h1
      exact .inr ⟨k, by simp [hv]⟩
    · cases h

theorem run_sliceBound {k : IntKind} {n y : Nat} {code : BoundsCode} {w : World} (h : n ≤ y) : (Instr.sliceBound (.int k n) y code).run P w = .ok n w := by
  have h1 : (0 : Int) ≤ n ∧ (n : Int) ≤ y := ⟨Int.natCast_nonneg n, by omega⟩
  simp [Instr.sliceBound, asIntOf, h1]

theorem run_bounds2 {isS : Bool} {len cap l h : Nat} {lo hi : Option Value} {w : World} (hlo : (lo = none ∧ l = 0) ∨ ∃ k, lo = some (.int k l)) (hhi : (hi = none ∧ h = len) ∨ ∃ k, hi = some (.int k h)) (h1 : l ≤ h) (h2 : h ≤ cap) :
    (Instr.sliceBounds isS len cap lo hi none).run P w = .ok (l, h, cap) w := by
  rcases hlo with ⟨rfl, rfl⟩ | ⟨k, rfl⟩ <;> rcases hhi with ⟨rfl, rfl⟩ | ⟨k', rfl⟩ <;> simp [Instr.sliceBounds, run_sliceBound h1, run_sliceBound h2]

theorem run_bounds3 {isS : Bool} {len cap l h m : Nat} {lo hi : Option Value} {km : IntKind} {w : World} (hlo : (lo = none ∧ l = 0) ∨ ∃ k, lo = some (.int k l)) (hhi : ∃ k, hi = some (.int k h)) (h1 : l ≤ h) (h2 : h ≤ m) (h3 : m ≤ cap) :
    (Instr.sliceBounds isS len cap lo hi (some (.int km m))).run P w = .ok (l, h, m) w := by
  obtain ⟨k', rfl⟩ := hhi
  rcases hlo with ⟨rfl, rfl⟩ | ⟨k, rfl⟩ <;> simp [Instr.sliceBounds, run_sliceBound h1, run_sliceBound h2, run_sliceBound h3]

theorem VRel.immCut {g : G} {sz : Nat} {xs : List AVal} {full : Bool} {base : Option Addr} {n cap l h m size : Nat} (hv : VRel g (.imm sz xs full) (.slice base n cap)) (hsz : sz = size ∨ xs = []) (h1 : l ≤ h) (h2 : h ≤ xs.length) (h3 : h ≤ m) (h4 : m ≤ cap) (full' : Bool) (hf : full' = true → m = h) :
    VRel g (.imm sz ((xs.drop l).take (h - l)) full') (.slice (if m = l then base else base.map (·.add (l * size))) (h - l) (m - l)) := by
  cases hv with
  | immNil =>
    simp only [List.length_nil] at h2
    obtain rfl : h = 0 := by omega
    obtain rfl : l = 0 := by omega
    obtain rfl : m = 0 := by omega
    simp
    exact .immNil _ _
  | imm _ _ _ b off _ vals k1 k2 k3 k4 k5 k6 =>
    have hlen : ((xs.drop l).take (h - l)).length = h - l := by simp; omega
    have hget : ∀ j x, ((xs.drop l).take (h - l))[j]? = some x → xs[l + j]? = some x := fun j x e => by
      rw [List.getElem?_take] at e
      split at e
      · rwa [List.getElem?_drop] at e
      · cases e
    have hmax : m - l ≤ maxLen := by omega
    by_cases hml : m = l
    · have hnil : (xs.drop l).take (h - l) = [] := by rw [show h - l = 0 from by omega]; simp
      rw [if_pos hml, hnil]
      have := VRel.imm (g := g) sz [] full' b off (m - l) (fun _ _ => undef) (by simp) hmax (fun e => by have := hf e; simp; omega) (fun j x e => by simp at e) (fun j x i c e => by simp at e) (fun j x i c e => by simp at e)
      rw [show h - l = 0 from by omega]
      exact this
    · rw [if_neg hml]
      simp only [Option.map_some, addr_add]
      have := VRel.imm (g := g) sz ((xs.drop l).take (h - l)) full' b (off + l * size) (m - l) (fun j i => vals (l + j) i) (by rw [hlen]; omega) hmax (fun e => by have := hf e; rw [hlen]; omega) (fun j x e => k4 _ x (hget j x e)) (fun j x i c e f => by
        have := k5 _ x i c (hget j x e) f
        refine ⟨this.1, ?_⟩
        rcases hsz with rfl | rfl
        · rw [← this.2, Nat.add_mul]; congr 1; omega
        · simp at e) (fun j x i c e f => k6 _ x i c (hget j x e) f)
      rw [hlen] at this
      exact this

theorem VRel.rowCut {g : G} {n k sz off len l h : Nat} {base : Option Addr} {ln cap : Nat} (hv : VRel g (.row n k sz off len) (.slice base ln cap)) (h1 : l ≤ h) (h2 : h ≤ len) :
    ln = len ∧ len ≤ cap ∧ VRel g (.row n k sz (off + l) (h - l)) (.slice (if cap = l then base else base.map (·.add (l * sz))) (h - l) (cap - l)) := by
  cases hv with
  | rowNil _ _ _ hio =>
    obtain rfl : h = 0 := by omega
    obtain rfl : l = 0 := by omega
    refine ⟨rfl, Nat.le_refl _, ?_⟩
    simp
    exact .rowNil n k sz hio
  | rowEmpty _ _ _ _ b oo t hio =>
    obtain rfl : h = 0 := by omega
    obtain rfl : l = 0 := by omega
    refine ⟨rfl, Nat.le_refl _, ?_⟩
    simp
    exact .rowEmpty n k sz off b oo t hio
  | row _ _ _ _ _ b N _ hio k1 k2 k3 =>
    refine ⟨rfl, k1, ?_⟩
    by_cases hc : cap = l
    · rw [if_pos hc, show h - l = 0 from by omega, show cap - l = 0 from by omega]
      exact .rowEmpty n k sz (off + l) b (off * sz) _ hio
    · rw [if_neg hc]
      simp only [Option.map_some, addr_add]
      rw [← Nat.add_mul]
      exact .row n k sz (off + l) (h - l) b N (cap - l) hio (by omega) (by omega) k3

theorem VRel.browCut {g : G} {n sz off len l h : Nat} {base : Option Addr} {ln cap : Nat} (hv : VRel g (.brow n sz off len) (.slice base ln cap)) (h1 : l ≤ h) (h2 : h ≤ len) :
    ln = len ∧ len ≤ cap ∧ VRel g (.brow n sz (off + l) (h - l)) (.slice (if cap = l then base else base.map (·.add (l * sz))) (h - l) (cap - l)) := by
  cases hv with
  | browE _ _ _ b oo N hio =>
    obtain rfl : h = 0 := by omega
    obtain rfl : l = 0 := by omega
    refine ⟨rfl, Nat.le_refl _, ?_⟩
    simp
    exact .browE n sz off b oo N hio
  | brow _ _ _ _ b N _ hio k1 k2 =>
    refine ⟨rfl, k1, ?_⟩
    by_cases hc : cap = l
    · rw [if_pos hc, show h - l = 0 from by omega, show cap - l = 0 from by omega]
      exact .browE n sz (off + l) b (off * sz) N hio
    · rw [if_neg hc]
      simp only [Option.map_some, addr_add]
      rw [← Nat.add_mul]
      exact .brow n sz (off + l) (h - l) b N (cap - l) hio (by omega) (by omega)

theorem sn_slS {t : TypeId} {x : Operand} {l h m : Option Operand} {e : TypeId} {s b : Nat} {ag : Bool} {v : AVal} (ho : o.op = .slice t x l h m) (ht : elA P t = some (e, s, ag, b)) (hs : stepN (aeval nt T) (.slS s x l h m) = some v) : OpN P nt o T v := by
  refine ⟨(fun c e => by rw [ho] at e; cases e), fun g a w he => ?_⟩
  have hx := he x (by rw [ho]; simp [Op.operands])
  have hol : ∀ y, l = some y → VRel g (aeval nt T y) (a.eval y) := fun y e => he y (by rw [ho, e]; simp [Op.operands])
  have hoh : ∀ y, h = some y → VRel g (aeval nt T y) (a.eval y) := fun y e => he y (by rw [ho, e]; simp [Op.operands])
  have hom : ∀ y, m = some y → VRel g (aeval nt T y) (a.eval y) := fun y e => he y (by rw [ho, e]; simp [Op.operands])
  obtain ⟨i, k1, k2, k3, k4, k5⟩ := elA_spec ht
  have hrun : ∀ (base : Option Addr) (ln cap l' h' m' : Nat), a.eval x = .slice base ln cap → (Instr.sliceBounds true ln cap (l.map a.eval) (h.map a.eval) (m.map a.eval)).run P w = .ok (l', h', m') w →
      (execOp a.eval o).run P w = .ok (.value (.slice (if m' = l' then base else base.map (·.add (l' * s))) (h' - l') (m' - l'))) w := by
    intro base ln cap l' h' m' hv hb
    simp [execOp, ho, hv, Instr.sliceAt, Instr.slice, run_underlying k1, hb, (run_tyA k5 w).2]
  simp only [stepN] at hs
  generalize hax : aeval nt T x = ax at hs hx
  generalize hvx : a.eval x = vx at hx
  split at hs
  · rename_i sz' xs full
    split at hs
    · rename_i l' h' hl' hh'
      have el := natOf_eval hol hl'
      have eh := natOf_eval hoh hh'
      have elo : (l.map a.eval = none ∧ l' = 0) ∨ ∃ k, l.map a.eval = some (.int k l') := by
        rcases el with ⟨e1, e2⟩ | e1
        · exact .inl ⟨by simp [e1], e2⟩
        · exact .inr e1
      obtain ⟨base, ln, cap, rfl, hlen, hcap⟩ : ∃ base ln cap, vx = .slice base ln cap ∧ ln = xs.length ∧ xs.length ≤ cap ∧ (full = true → cap = xs.length) := by
        cases hx with
        | immNil => exact ⟨_, _, _, rfl, rfl, Nat.le_refl _, fun _ => rfl⟩
        | imm _ _ _ b off cap vals q1 q2 q3 q4 q5 q6 => exact ⟨_, _, _, rfl, rfl, q1, q3⟩
      subst hlen
      have ehi : (h.map a.eval = none ∧ h' = xs.length) ∨ ∃ k, h.map a.eval = some (.int k h') := by
        rcases eh with ⟨e1, e2⟩ | e1
        · exact .inl ⟨by simp [e1], e2⟩
        · exact .inr e1
      cases m with
      | none =>
        simp only at hs
        cases hc : ((Nat.beq s sz' || xs.isEmpty) && Nat.ble l' h' && Nat.ble h' xs.length) with
        | false => rw [hc] at hs; cases hs
        | true =>
          rw [hc] at hs
          simp only [cond_true, Option.some.injEq] at hs
          subst hs
          simp only [Bool.and_eq_true, Bool.or_eq_true] at hc
          obtain ⟨⟨c0, c1⟩, c2⟩ := hc
          have c1 := Nat.le_of_ble_eq_true c1
          have c2 := Nat.le_of_ble_eq_true c2
          refine ⟨_, ?_, hrun base _ cap l' h' cap hvx (run_bounds2 elo ehi c1 (by omega))⟩
          refine VRel.immCut hx ?_ c1 c2 (by omega) (Nat.le_refl _) _ (fun e => ?_)
          · rcases c0 with c0 | c0
            · exact .inl (Nat.eq_of_beq_eq_true c0).symm
            · exact .inr (by simpa using c0)
          · simp only [Bool.and_eq_true] at e
            rw [hcap.2 e.1]; exact (Nat.eq_of_beq_eq_true e.2).symm
      | some mo =>
        simp only at hs
        split at hs
        · rename_i m' hm'
          cases hc : (h.isSome && (Nat.beq s sz' || xs.isEmpty) && Nat.ble l' h' && Nat.ble h' m' && Nat.ble m' xs.length) with
          | false => rw [hc] at hs; cases hs
          | true =>
            rw [hc] at hs
            simp only [cond_true, Option.some.injEq] at hs
            subst hs
            simp only [Bool.and_eq_true, Bool.or_eq_true] at hc
            obtain ⟨⟨⟨⟨cS, c0⟩, c1⟩, c2⟩, c3⟩ := hc
            have c1 := Nat.le_of_ble_eq_true c1
            have c2 := Nat.le_of_ble_eq_true c2
            have c3 := Nat.le_of_ble_eq_true c3
            obtain ⟨km, hmv⟩ : ∃ k, (some mo).map a.eval = some (.int k m') := by
              rcases natOf_eval hom hm' with ⟨e1, _⟩ | e1
              · cases e1
              · exact e1
            cases h with
            | none =>
              -- a maximum without a high bound does not occur
              cases cS
            | some hv =>
              obtain ⟨k, e1⟩ : ∃ k, (some hv).map a.eval = some (.int k h') := by
                rcases ehi with ⟨e1, e2⟩ | e1
                · simp at e1
                · exact e1
              refine ⟨_, ?_, hrun base _ cap l' h' m' hvx (by rw [hmv]; exact run_bounds3 elo ⟨k, e1⟩ c1 c2 (by omega))⟩
              refine VRel.immCut hx ?_ c1 (by omega) c2 (by omega) _ (fun e => (Nat.eq_of_beq_eq_true e).symm)
              rcases c0 with c0 | c0
              · exact .inl (Nat.eq_of_beq_eq_true c0).symm
              · exact .inr (by simpa using c0)
        · cases hs
    · cases hs
  · rename_i n k sz' off len
    split at hs
    · rename_i l' h' hl' hh'
      have el := natOf_eval hol hl'
      have eh := natOf_eval hoh hh'
      cases m with
      | some mo => simp at hs
      | none =>
        simp only at hs
        cases hc : (Nat.ble l' h' && Nat.ble h' len && Nat.beq s sz') with
        | false => rw [hc] at hs; cases hs
        | true =>
          rw [hc] at hs
          simp only [cond_true, Option.some.injEq] at hs
          subst hs
          simp only [Bool.and_eq_true] at hc
          obtain ⟨⟨c1, c2⟩, c3⟩ := hc
          have c1 := Nat.le_of_ble_eq_true c1
          have c2 := Nat.le_of_ble_eq_true c2
          obtain rfl := Nat.eq_of_beq_eq_true c3
          obtain ⟨base, ln, cap, rfl⟩ : ∃ base ln cap, vx = .slice base ln cap := by cases hx <;> exact ⟨_, _, _, rfl⟩
          obtain ⟨rfl, q1, q2⟩ := hx.rowCut c1 c2
          refine ⟨_, q2, hrun base _ cap l' h' cap hvx (run_bounds2 ?_ ?_ c1 (by omega))⟩
          · rcases el with ⟨e1, e2⟩ | e1
            · exact .inl ⟨by simp [e1], e2⟩
            · exact .inr e1
          · rcases eh with ⟨e1, e2⟩ | e1
            · exact .inl ⟨by simp [e1], e2⟩
            · exact .inr e1
    · cases hs
  · rename_i n sz' off len
    split at hs
    · rename_i l' h' hl' hh'
      have el := natOf_eval hol hl'
      have eh := natOf_eval hoh hh'
      cases hc : (Nat.ble l' h' && Nat.ble h' len && Nat.beq s sz') with
      | false => rw [hc] at hs; cases hs
      | true =>
        rw [hc] at hs
        simp only [cond_true, Option.some.injEq] at hs
        subst hs
        simp only [Bool.and_eq_true] at hc
        obtain ⟨⟨c1, c2⟩, c3⟩ := hc
        have c1 := Nat.le_of_ble_eq_true c1
        have c2 := Nat.le_of_ble_eq_true c2
        obtain rfl := Nat.eq_of_beq_eq_true c3
        obtain ⟨base, ln, cap, rfl⟩ : ∃ base ln cap, vx = .slice base ln cap := by cases hx <;> exact ⟨_, _, _, rfl⟩
        obtain ⟨rfl, q1, q2⟩ := hx.browCut c1 c2
        refine ⟨_, q2, hrun base _ cap l' h' cap hvx (run_bounds2 ?_ ?_ c1 (by omega))⟩
        · rcases el with ⟨e1, e2⟩ | e1
          · exact .inl ⟨by simp [e1], e2⟩
          · exact .inr e1
        · rcases eh with ⟨e1, e2⟩ | e1
          · exact .inl ⟨by simp [e1], e2⟩
          · exact .inr e1
    · cases hs
  · split at hs
    · rename_i hl' hh'
      injection hs with hs
      subst hs
      have el := natOf_eval hol hl'
      have eh := natOf_eval hoh hh'
      cases hx
      refine ⟨_, .nilS, ?_⟩
      rw [hrun none 0 0 0 0 0 hvx (run_bounds2 (by
        rcases el with ⟨e1, e2⟩ | e1
        · exact .inl ⟨by simp [e1], rfl⟩
        · exact .inr e1) (by
        rcases eh with ⟨e1, e2⟩ | e1
        · exact .inl ⟨by simp [e1], rfl⟩
        · exact .inr e1) (Nat.le_refl _) (Nat.le_refl _))]
      rfl
    · cases hs
  · cases hs
end
end Go.Proofs.YtennhanlcbibaaaGreatDoor.Lb

/- Each operation does what the list of operations says: elements, lengths, the least and the greatest; all that ask nothing of memory. -/
namespace Go.Proofs.YtennhanlcbibaaaGreatDoor.Lb
open Go

section
variable {P : Program} {nt : Nat} {o : Oper} {T : Nat → AVal}

theorem sn_slA {t : TypeId} {x : Operand} {l h m : Option Operand} {n s : Nat} {ag : Bool} {v : AVal} (ho : o.op = .slice t x l h m) (ht : arA P t = some (n, s, ag)) (hs : stepN (aeval nt T) (.slA n s x l h m) = some v) : OpN P nt o T v := by
  refine ⟨(fun c e => by rw [ho] at e; cases e), fun g a w he => ?_⟩
  have hx := he x (by rw [ho]; simp [Op.operands])
  have hol : ∀ y, l = some y → VRel g (aeval nt T y) (a.eval y) := fun y e => he y (by rw [ho, e]; simp [Op.operands])
  have hoh : ∀ y, h = some y → VRel g (aeval nt T y) (a.eval y) := fun y e => he y (by rw [ho, e]; simp [Op.operands])
  obtain ⟨e, k1, k5⟩ := arA_spec ht
  cases m with
  | some mo => simp only [stepN] at hs; split at hs <;> simp_all
  | none =>
  simp only [stepN] at hs
  split at hs
  · rename_i bn l' h' hax hl' hh' _
    cases hc : (Nat.ble l' h' && Nat.ble h' n && Nat.ble n maxLen) with
    | false => rw [hc] at hs; cases hs
    | true =>
      rw [hc] at hs
      simp only [cond_true, Option.some.injEq] at hs
      subst hs
      simp only [Bool.and_eq_true] at hc
      obtain ⟨⟨c1, c2⟩, c3⟩ := hc
      have c1 := Nat.le_of_ble_eq_true c1
      have c2 := Nat.le_of_ble_eq_true c2
      have c3 := Nat.le_of_ble_eq_true c3
      have el := natOf_eval hol hl'
      have eh := natOf_eval hoh hh'
      rw [hax] at hx
      generalize hvx : a.eval x = vx at hx
      cases hx with
      | ptr _ _ _ b N hio =>
        have hb := run_bounds2 (P := P) (w := w) (isS := false) (len := n) (cap := n) (l := l') (h := h') (lo := l.map a.eval) (hi := h.map a.eval) (by
          rcases el with ⟨e1, e2⟩ | e1
          · exact .inl ⟨by simp [e1], e2⟩
          · exact .inr e1) (by
          rcases eh with ⟨e1, e2⟩ | e1
          · exact .inl ⟨by simp [e1], e2⟩
          · exact .inr e1) c1 c2
        refine ⟨.slice (some (if n = l' then ⟨b, 0, none⟩ else (⟨b, 0, none⟩ : Addr).add (l' * s))) (h' - l') (n - l'), ?_, ?_⟩
        · by_cases hml : n = l'
          · rw [if_pos hml, show h' - l' = 0 from by omega, show n - l' = 0 from by omega]
            exact .browE _ _ _ _ _ _ hio
          · rw [if_neg hml, addr_add, Nat.zero_add]
            exact .brow bn s l' (h' - l') b N (n - l') hio (by omega) (by omega)
        · simp [execOp, ho, hvx, Instr.sliceAt, Instr.sureAddr, run_underlying k1, hb, (run_tyA k5 w).2]
  · cases hs

theorem sn_slT {t : TypeId} {x : Operand} {l h : Option Operand} {v : AVal} (ho : o.op = .slice t x l h none) (ht : P.underlying t = some .string) (hs : stepN (aeval nt T) (.slT x l h) = some v) : OpN P nt o T v := by
  refine ⟨(fun c e => by rw [ho] at e; cases e), fun g a w he => ?_⟩
  have hx := he x (by rw [ho]; simp [Op.operands])
  have hol : ∀ y, l = some y → VRel g (aeval nt T y) (a.eval y) := fun y e => he y (by rw [ho, e]; simp [Op.operands])
  have hoh : ∀ y, h = some y → VRel g (aeval nt T y) (a.eval y) := fun y e => he y (by rw [ho, e]; simp [Op.operands])
  simp only [stepN] at hs
  split at hs
  · rename_i s hax
    split at hs
    · rename_i l' h' hl' hh'
      cases hc : (Nat.ble l' h' && Nat.ble h' s.size) with
      | false => rw [hc] at hs; cases hs
      | true =>
        rw [hc] at hs
        simp only [cond_true, Option.some.injEq] at hs
        subst hs
        simp only [Bool.and_eq_true] at hc
        have c1 := Nat.le_of_ble_eq_true hc.1
        have c2 := Nat.le_of_ble_eq_true hc.2
        have el := natOf_eval hol hl'
        have eh := natOf_eval hoh hh'
        rw [hax] at hx
        generalize hvx : a.eval x = vx at hx
        cases hx
        have hb := run_bounds2 (P := P) (w := w) (isS := false) (len := s.size) (cap := s.size) (l := l') (h := h') (lo := l.map a.eval) (hi := h.map a.eval) (by
          rcases el with ⟨e1, e2⟩ | e1
          · exact .inl ⟨by simp [e1], e2⟩
          · exact .inr e1) (by
          rcases eh with ⟨e1, e2⟩ | e1
          · exact .inl ⟨by simp [e1], e2⟩
          · exact .inr e1) c1 c2
        exact ⟨_, .str _, by simp [execOp, ho, hvx, Instr.sliceAt, Instr.slice, run_underlying ht, hb]⟩
    · cases hs
  · cases hs

theorem sn_iaS {t : TypeId} {x i : Operand} {e : TypeId} {s b : Nat} {ag : Bool} {v : AVal} (ho : o.op = .indexAddr t x i) (ht : elA P t = some (e, s, ag, b)) (hs : stepN (aeval nt T) (.iaS s x i) = some v) : OpN P nt o T v := by
  refine ⟨(fun c e => by rw [ho] at e; cases e), fun g a w he => ?_⟩
  have hx := he x (by rw [ho]; simp [Op.operands])
  have hi := he i (by rw [ho]; simp [Op.operands])
  obtain ⟨ii, k1, k2, k3, k4, k5⟩ := elA_spec ht
  have hrun : ∀ (ad : Addr) (ln cap j : Nat) (k : IntKind), a.eval x = .slice (some ad) ln cap → a.eval i = .int k j → j < ln → (execOp a.eval o).run P w = .ok (.value (.pointer (some (ad.add (j * s))))) w := by
    intro ad ln cap j k h1 h2 h3
    have h4 : (0 : Int) ≤ j ∧ (j : Int) < ln := ⟨Int.natCast_nonneg j, by omega⟩
    simp [execOp, ho, h1, h2, Instr.indexAt, asIntOf, run_underlying k1, (run_tyA k5 w).2, h4]
    omega
  simp only [stepN] at hs
  split at hs
  · rename_i sz' xs full k j hax hai
    cases hc : Nat.beq s sz' with
    | false => rw [hc] at hs; cases hs
    | true =>
      rw [hc] at hs
      simp only [cond_true] at hs
      obtain rfl := Nat.eq_of_beq_eq_true hc
      obtain ⟨y, hy, rfl⟩ := Option.map_eq_some_iff.1 hs
      rw [hax] at hx
      rw [hai] at hi
      generalize hvx : a.eval x = vx at hx
      generalize hvi : a.eval i = vi at hi
      cases hi
      have hj := lt_of_getElem?_some hy
      cases hx with
      | immNil => simp at hj
      | imm _ _ _ bb off cap vals q1 q2 q3 q4 q5 q6 =>
        refine ⟨_, ?_, hrun _ _ _ j _ hvx hvi hj⟩
        rw [addr_add]
        exact .iptr y 0 bb (off + j * s) (vals j) (fun i c e => q5 j y i c hy e) (fun i c e => q6 j y i c hy e)
  · rename_i n k sz' off len k' j hax hai
    cases hc : (Nat.blt j len && Nat.beq s sz') with
    | false => rw [hc] at hs; cases hs
    | true =>
      rw [hc] at hs
      simp only [cond_true, Option.some.injEq] at hs
      subst hs
      simp only [Bool.and_eq_true] at hc
      have c1 : j < len := Nat.le_of_ble_eq_true hc.1
      obtain rfl := Nat.eq_of_beq_eq_true hc.2
      rw [hax] at hx
      rw [hai] at hi
      generalize hvx : a.eval x = vx at hx
      generalize hvi : a.eval i = vi at hi
      cases hi
      cases hx with
      | rowNil => omega
      | rowEmpty => omega
      | row _ _ _ _ _ b N cap hio q1 q2 q3 =>
        refine ⟨_, ?_, hrun _ _ _ j _ hvx hvi c1⟩
        rw [addr_add, ← Nat.add_mul]
        exact .rptr n k s (off + j) 0 b N hio
  · rename_i n sz' off len k' j hax hai
    cases hc : (Nat.blt j len && Nat.beq s sz') with
    | false => rw [hc] at hs; cases hs
    | true =>
      rw [hc] at hs
      simp only [cond_true, Option.some.injEq] at hs
      subst hs
      simp only [Bool.and_eq_true] at hc
      have c1 : j < len := Nat.le_of_ble_eq_true hc.1
      obtain rfl := Nat.eq_of_beq_eq_true hc.2
      rw [hax] at hx
      rw [hai] at hi
      generalize hvx : a.eval x = vx at hx
      generalize hvi : a.eval i = vi at hi
      cases hi
      cases hx with
      | browE => omega
      | brow _ _ _ _ b N cap hio q1 q2 =>
        refine ⟨_, ?_, hrun _ _ _ j _ hvx hvi c1⟩
        rw [addr_add, ← Nat.add_mul]
        exact .ptr n 0 _ b N hio
  · cases hs

theorem ptrA_ex {x v : AVal} {d : Nat} (h : ptrA x d = some v) {g : G} {u : Value} (hu : VRel g x u) : ∃ ad, u = .pointer (some ad) ∧ VRel g v (.pointer (some (ad.add d))) := by
  obtain ⟨b, oo, rfl, hr⟩ := ptrA_rel h hu
  exact ⟨_, rfl, by rw [addr_add]; exact hr⟩

theorem sn_iaA {t : TypeId} {x i : Operand} {n s : Nat} {ag : Bool} {v : AVal} (ho : o.op = .indexAddr t x i) (ht : arA P t = some (n, s, ag)) (hs : stepN (aeval nt T) (.iaA n s x i) = some v) : OpN P nt o T v := by
  refine ⟨(fun c e => by rw [ho] at e; cases e), fun g a w he => ?_⟩
  have hx := he x (by rw [ho]; simp [Op.operands])
  have hi := he i (by rw [ho]; simp [Op.operands])
  obtain ⟨e, k1, k5⟩ := arA_spec ht
  simp only [stepN] at hs
  split at hs
  · rename_i k j hai
    cases hc : Nat.blt j n with
    | false => rw [hc] at hs; cases hs
    | true =>
      rw [hc] at hs
      simp only [cond_true] at hs
      have c1 : j < n := Nat.le_of_ble_eq_true hc
      rw [hai] at hi
      generalize hvi : a.eval i = vi at hi
      cases hi
      obtain ⟨ad, hvx, hr⟩ := ptrA_ex hs hx
      refine ⟨_, hr, ?_⟩
      have h4 : (0 : Int) ≤ j ∧ (j : Int) < n := ⟨Int.natCast_nonneg j, by omega⟩
      simp [execOp, ho, hvx, hvi, Instr.indexAt, asIntOf, Instr.sureAddr, run_underlying k1, (run_tyA k5 w).2, h4]
      omega
  · cases hs

/-- A part of a struct, as it is handed on. -/
theorem seg_rel {g : G} {cs : List AVal} {arr : Array Value} {off s : Nat} {ag : Bool} (h1 : arr.size = cs.length) (hs : ∀ (i : Nat) (c : AVal), cs[i]? = some c → c.scalar = true) (hc : ∀ (i : Nat) (c : AVal), cs[i]? = some c → VRel g c (arr.getD i undef)) (hl : off + s ≤ cs.length) (h1s : ag = true ∨ s = 1) :
    VRel g (getL cs off s ag) (seg ag arr off s) := by
  cases ag with
  | true =>
    refine .agg _ _ (by simp [h1]; omega) (fun i c e => ?_) (fun i c e => ?_)
    · rw [List.getElem?_take] at e
      split at e
      · rw [List.getElem?_drop] at e; exact hs _ c e
      · cases e
    · rw [List.getElem?_take] at e
      split at e
      · rw [List.getElem?_drop] at e
        have := hc _ c e
        have hlt : off + i < arr.size := by rw [h1]; exact lt_of_getElem?_some e
        have hlt2 : i < min (off + s) arr.size - off := by omega
        simpa [Array.getD, hlt, hlt2] using this
      · cases e
  | false =>
    have hs1 : s = 1 := by rcases h1s with h | h; cases h; exact h
    have hlt' : off < cs.length := by omega
    have := hc off cs[off] (List.getElem?_eq_getElem hlt')
    simpa [getL, seg, List.getD_eq_getElem?_getD, List.getElem?_eq_getElem hlt'] using this

theorem sn_ixA {t : TypeId} {x i : Operand} {n s : Nat} {ag : Bool} {v : AVal} (ho : o.op = .index t x i) (ht : arA P t = some (n, s, ag)) (h1 : ag = true ∨ s = 1) (hs : stepN (aeval nt T) (.ixA n s ag x i) = some v) : OpN P nt o T v := by
  refine ⟨(fun c e => by rw [ho] at e; cases e), fun g a w he => ?_⟩
  have hx := he x (by rw [ho]; simp [Op.operands])
  have hi := he i (by rw [ho]; simp [Op.operands])
  obtain ⟨e, k1, k5⟩ := arA_spec ht
  simp only [stepN] at hs
  split at hs
  · rename_i cs k j hax hai
    cases hc : (Nat.blt j n && Nat.ble (j * s + s) cs.length) with
    | false => rw [hc] at hs; cases hs
    | true =>
      rw [hc] at hs
      simp only [cond_true, Option.some.injEq] at hs
      subst hs
      simp only [Bool.and_eq_true] at hc
      have c1 : j < n := Nat.le_of_ble_eq_true hc.1
      have c2 := Nat.le_of_ble_eq_true hc.2
      rw [hax] at hx
      rw [hai] at hi
      generalize hvx : a.eval x = vx at hx
      generalize hvi : a.eval i = vi at hi
      cases hi
      cases hx with
      | agg _ cs' q1 q2 q3 =>
        refine ⟨seg ag cs' (j * s) s, seg_rel q1 q2 q3 c2 h1, ?_⟩
        have h4 : (0 : Int) ≤ j ∧ (j : Int) < n := ⟨Int.natCast_nonneg j, by omega⟩
        have hp := run_part (P := P) k5 cs' (j * s) (by omega) h1 w
        simp [execOp, ho, hvx, hvi, Instr.index, asIntOf, run_underlying k1, (run_tyA k5 w).2, h4, hp]
        omega
  · cases hs

theorem sn_ixT {t : TypeId} {x i : Operand} {v : AVal} (ho : o.op = .index t x i) (ht : P.underlying t = some .string) (hs : stepN (aeval nt T) (.ixT x i) = some v) : OpN P nt o T v := by
  refine ⟨(fun c e => by rw [ho] at e; cases e), fun g a w he => ?_⟩
  have hx := he x (by rw [ho]; simp [Op.operands])
  have hi := he i (by rw [ho]; simp [Op.operands])
  simp only [stepN] at hs
  split at hs
  · rename_i s k j hax hai
    obtain ⟨b, hb, rfl⟩ := Option.map_eq_some_iff.1 hs
    rw [hax] at hx
    rw [hai] at hi
    generalize hvx : a.eval x = vx at hx
    generalize hvi : a.eval i = vi at hi
    cases hi
    cases hx
    refine ⟨_, .int .u8 _, ?_⟩
    have hj : j < s.size := by have := lt_of_getElem?_some hb; simpa using this
    have hb' : s[j]? = some b := by
      rw [getElem?_pos s j hj]
      have : s.data.toList[j]? = some s.data[j] := by simp
      rw [this] at hb
      injection hb with hb
      rw [← hb]; rfl
    simp [execOp, ho, hvx, hvi, Instr.index, asIntOf, run_underlying ht, hb']
  · cases hs

theorem run_call_builtin {b : Builtin} {as : Array Operand} {ts : Array TypeId} {a : Act} {w : World} (ho : o.op = .call { callee := .builtin b, args := as, argTypes := ts }) :
    ∃ cs, (execOp a.eval o).run P w = (builtin b ts o.type cs (as.map a.eval)).run P w := by
  refine ⟨as.map fun | .const _ => true | _ => false, ?_⟩
  simp only [execOp, ho, resolve, invoke, Sem.run_bind, Sem.run_pure, Result.andThen_ok]
  rfl

theorem lenOf_rel {g : G} {x : AVal} {n : Nat} {u : Value} (h : lenOf x = some n) (hu : VRel g x u) : ∃ b c, u = .slice b n c := by
  unfold lenOf at h
  split at h <;> first | (cases h; done) | (injection h with h; subst h)
  all_goals cases hu
  all_goals first | exact ⟨_, _, rfl⟩ | omega

theorem sn_lenS {x : Operand} {t e : TypeId} {ts : Array TypeId} {v : AVal} (ho : o.op = .call { callee := .builtin .len, args := #[x], argTypes := ts }) (hts : ts[0]? = some t) (ht : P.underlying t = some (.slice e)) (hs : stepN (aeval nt T) (.lenS x) = some v) : OpN P nt o T v := by
  refine ⟨(fun c e => by rw [ho] at e; cases e), fun g a w he => ?_⟩
  have hx := he x (by rw [ho]; simp [Op.operands, Call.operands])
  simp only [stepN] at hs
  obtain ⟨n, hn, rfl⟩ := Option.map_eq_some_iff.1 hs
  obtain ⟨b, c, hu⟩ := lenOf_rel hn hx
  refine ⟨_, .int .i64 n, ?_⟩
  obtain ⟨kk, hkk⟩ := run_call_builtin (P := P) (a := a) (w := w) ho
  rw [hkk]
  simp [builtin, Builtin.len_, hts, hu, run_underlying ht, goInt]

theorem sn_lenT {x : Operand} {t : TypeId} {ts : Array TypeId} {v : AVal} (ho : o.op = .call { callee := .builtin .len, args := #[x], argTypes := ts }) (hts : ts[0]? = some t) (ht : P.underlying t = some .string) (hs : stepN (aeval nt T) (.lenT x) = some v) : OpN P nt o T v := by
  refine ⟨(fun c e => by rw [ho] at e; cases e), fun g a w he => ?_⟩
  have hx := he x (by rw [ho]; simp [Op.operands, Call.operands])
  simp only [stepN] at hs
  split at hs
  · rename_i s hax
    injection hs with hs
    subst hs
    rw [hax] at hx
    generalize hvx : a.eval x = vx at hx
    cases hx
    refine ⟨_, .int .i64 _, ?_⟩
    obtain ⟨kk, hkk⟩ := run_call_builtin (P := P) (a := a) (w := w) ho
    rw [hkk]
    simp [builtin, Builtin.len_, hts, hvx, run_underlying ht, goInt]
  · cases hs

theorem sn_lenA {x : Operand} {t e : TypeId} {n : Nat} {ts : Array TypeId} {v : AVal} (ho : o.op = .call { callee := .builtin .len, args := #[x], argTypes := ts }) (hts : ts[0]? = some t) (ht : P.underlying t = some (.array n e)) (hs : stepN (aeval nt T) (.lenA n) = some v) : OpN P nt o T v := by
  refine ⟨(fun c e => by rw [ho] at e; cases e), fun g a w he => ?_⟩
  simp only [stepN, Option.some.injEq] at hs
  subst hs
  refine ⟨_, .int .i64 _, ?_⟩
  obtain ⟨kk, hkk⟩ := run_call_builtin (P := P) (a := a) (w := w) ho
  rw [hkk]
  simp [builtin, Builtin.len_, hts, run_underlying ht, goInt]

theorem min_run {w : World} : ∀ (xs : List AVal) (vs : List Value) (g : G) (k : IntKind) (n : Int) (v : AVal), (∀ (i : Nat) (c : AVal), xs[i]? = some c → VRel g c ((vs[i]?).getD undef)) → vs.length = xs.length →
    xs.foldl (fun acc x => match acc, x with | some (AVal.int k a), AVal.int _ b => some (.int k (if b < a then b else a)) | _, _ => none) (some (.int k n)) = some v → ∃ m, v = .int k m ∧ (vs.foldlM Builtin.min2 (.int k n)).run P w = .ok (.int k m) w
  | [], vs, g, k, n, v, _, hl, h => by
    simp only [List.foldl_nil, Option.some.injEq] at h
    have : vs = [] := by simpa using hl
    subst this
    exact ⟨n, h.symm, by simp⟩
  | x :: xs, [], g, k, n, v, _, hl, _ => by simp at hl
  | x :: xs, u :: vs, g, k, n, v, hv, hl, h => by
    have hx := hv 0 x rfl
    simp only [List.getElem?_cons_zero, Option.getD_some] at hx
    simp only [List.foldl_cons] at h
    have none_stays : ∀ (l : List AVal), l.foldl (fun acc x => match acc, x with | some (AVal.int k a), AVal.int _ b => some (.int k (if b < a then b else a)) | _, _ => none) (none : Option AVal) = none := fun l => by
      induction l with
      | nil => rfl
      | cons y l ih => simpa using ih
    cases x with
    | int k' m =>
      cases hx
      obtain ⟨m', h1, h2⟩ := min_run (w := w) xs vs g k (if m < n then m else n) v (fun i c e => by simpa using hv (i + 1) c (by simpa using e)) (by simpa using hl) h
      exact ⟨m', h1, by simp [Builtin.min2, h2]⟩
    | _ => simp only [none_stays] at h; cases h

theorem max_run {w : World} : ∀ (xs : List AVal) (vs : List Value) (g : G) (k : IntKind) (n : Int) (v : AVal), (∀ (i : Nat) (c : AVal), xs[i]? = some c → VRel g c ((vs[i]?).getD undef)) → vs.length = xs.length →
    xs.foldl (fun acc x => match acc, x with | some (AVal.int k a), AVal.int _ b => some (.int k (if b > a then b else a)) | _, _ => none) (some (.int k n)) = some v → ∃ m, v = .int k m ∧ (vs.foldlM Builtin.max2 (.int k n)).run P w = .ok (.int k m) w
  | [], vs, g, k, n, v, _, hl, h => by
    simp only [List.foldl_nil, Option.some.injEq] at h
    have : vs = [] := by simpa using hl
    subst this
    exact ⟨n, h.symm, by simp⟩
  | x :: xs, [], g, k, n, v, _, hl, _ => by simp at hl
  | x :: xs, u :: vs, g, k, n, v, hv, hl, h => by
    have hx := hv 0 x rfl
    simp only [List.getElem?_cons_zero, Option.getD_some] at hx
    simp only [List.foldl_cons] at h
    have none_stays : ∀ (l : List AVal), l.foldl (fun acc x => match acc, x with | some (AVal.int k a), AVal.int _ b => some (.int k (if b > a then b else a)) | _, _ => none) (none : Option AVal) = none := fun l => by
      induction l with
      | nil => rfl
      | cons y l ih => simpa using ih
    cases x with
    | int k' m =>
      cases hx
      obtain ⟨m', h1, h2⟩ := max_run (w := w) xs vs g k (if m > n then m else n) v (fun i c e => by simpa using hv (i + 1) c (by simpa using e)) (by simpa using hl) h
      exact ⟨m', h1, by simp [Builtin.max2, h2]⟩
    | _ => simp only [none_stays] at h; cases h

theorem args_rel {g : G} {a : Act} {as : Array Operand} (he : ∀ x ∈ as, VRel g (aeval nt T x) (a.eval x)) : ∀ (i : Nat) (c : AVal), (as.toList.map (aeval nt T))[i]? = some c → VRel g c (((as.map a.eval).toList[i]?).getD undef) := fun i c e => by
  rw [List.getElem?_map] at e
  obtain ⟨x, hx, rfl⟩ := Option.map_eq_some_iff.1 e
  have hi : i < as.size := by simpa using lt_of_getElem?_some hx
  have hxx : as[i] = x := by rw [Array.getElem?_toList, Array.getElem?_eq_getElem hi] at hx; injection hx
  have := he x (by rw [← hxx]; exact Array.getElem_mem hi)
  simpa [hi, hxx] using this

theorem sn_mn {as : Array Operand} {ts : Array TypeId} {v : AVal} (ho : o.op = .call { callee := .builtin .min, args := as, argTypes := ts }) (hs : stepN (aeval nt T) (.mn as.toList) = some v) : OpN P nt o T v := by
  refine ⟨(fun c e => by rw [ho] at e; cases e), fun g a w he => ?_⟩
  have hr := args_rel (nt := nt) (T := T) (g := g) (a := a) (as := as) (fun x hx => he x (by rw [ho]; simpa [Op.operands, Call.operands] using hx))
  simp only [stepN, minL] at hs
  split at hs
  · rename_i k n rest hl
    rw [hl] at hr
    have hlen : (as.map a.eval).toList.length = (AVal.int k n :: rest).length := by rw [← hl]; simp
    cases hvs : (as.map a.eval).toList with
    | nil => rw [hvs] at hlen; simp at hlen
    | cons u vs =>
      rw [hvs] at hr hlen
      have h0 := hr 0 _ rfl
      simp only [List.getElem?_cons_zero, Option.getD_some] at h0
      cases h0
      obtain ⟨m, rfl, h2⟩ := min_run (P := P) (w := w) rest vs g k n v (fun i c e => by simpa using hr (i + 1) c (by simpa using e)) (by simpa using hlen) hs
      refine ⟨_, .int k m, ?_⟩
      obtain ⟨kk, hkk⟩ := run_call_builtin (P := P) (a := a) (w := w) ho
      rw [hkk]
      have hvs' : List.map a.eval as.toList = Value.int k n :: vs := by rw [← hvs]; simp
      simp [builtin, Builtin.min_, hvs', h2]
  · cases hs

theorem sn_mx {as : Array Operand} {ts : Array TypeId} {v : AVal} (ho : o.op = .call { callee := .builtin .max, args := as, argTypes := ts }) (hs : stepN (aeval nt T) (.mx as.toList) = some v) : OpN P nt o T v := by
  refine ⟨(fun c e => by rw [ho] at e; cases e), fun g a w he => ?_⟩
  have hr := args_rel (nt := nt) (T := T) (g := g) (a := a) (as := as) (fun x hx => he x (by rw [ho]; simpa [Op.operands, Call.operands] using hx))
  simp only [stepN, maxL] at hs
  split at hs
  · rename_i k n rest hl
    rw [hl] at hr
    have hlen : (as.map a.eval).toList.length = (AVal.int k n :: rest).length := by rw [← hl]; simp
    cases hvs : (as.map a.eval).toList with
    | nil => rw [hvs] at hlen; simp at hlen
    | cons u vs =>
      rw [hvs] at hr hlen
      have h0 := hr 0 _ rfl
      simp only [List.getElem?_cons_zero, Option.getD_some] at h0
      cases h0
      obtain ⟨m, rfl, h2⟩ := max_run (P := P) (w := w) rest vs g k n v (fun i c e => by simpa using hr (i + 1) c (by simpa using e)) (by simpa using hlen) hs
      refine ⟨_, .int k m, ?_⟩
      obtain ⟨kk, hkk⟩ := run_call_builtin (P := P) (a := a) (w := w) ho
      rw [hkk]
      have hvs' : List.map a.eval as.toList = Value.int k n :: vs := by rw [← hvs]; simp
      simp [builtin, Builtin.max_, hvs', h2]
  · cases hs
end
end Go.Proofs.YtennhanlcbibaaaGreatDoor.Lb

/- All operations that ask nothing of memory. -/
namespace Go.Proofs.YtennhanlcbibaaaGreatDoor.Lb
open Go

section
variable {P : Program} {nt : Nat} {o : Oper} {T : Nat → AVal}

theorem cmpOp_sound {b : BinOp} {t yt : TypeId} {x y : Operand} {a : AOp} {v : AVal} (ho : o.op = .binOp b t x y yt) (hb : b = .eql ∨ b = .neq) (hc : cmpOp P b t x y = some a) (h : stepN (aeval nt T) a = some v) : OpN P nt o T v := by
  unfold cmpOp at hc
  split at hc
  · rename_i e hu; injection hc with hc; subst hc; exact sn_isS ho hb hu h
  · rename_i ms hu; injection hc with hc; subst hc; exact sn_isI ho hb hu h
  · injection hc with hc; subst hc; exact sn_bin ho h
  · injection hc with hc; subst hc; exact sn_bin ho h
  · rename_i hu; injection hc with hc; subst hc; exact sn_eqb ho hb hu h
  · obtain ⟨ks, hks, hc⟩ := Option.bind_eq_some_iff.1 hc
    split at hc
    · rename_i hcc; injection hc with hc; subst hc; exact sn_eqk ho hb hks hcc.1 hcc.2 h
    · cases hc
  · cases hc

theorem stepN_sound {a : AOp} {v : AVal} (hc : compOp P o = some a) (hk : a.kd = .n) (h : stepN (aeval nt T) a = some v) : OpN P nt o T v := by
  unfold compOp at hc
  split at hc
  · rename_i x ho; injection hc with hc; subst hc; exact sn_mv (.inl ho) h
  · rename_i x ho; injection hc with hc; subst hc; exact sn_mv (.inr ho) h
  · rename_i c x y ho; injection hc with hc; subst hc; exact sn_pick ho h
  · obtain ⟨z, _, rfl⟩ := Option.map_eq_some_iff.1 hc; cases hk
  · injection hc with hc; subst hc; cases hk
  · rename_i t parts ho
    split at hc
    · rename_i z fs hz hfs
      obtain ⟨ps, hps, hc⟩ := Option.bind_eq_some_iff.1 hc
      obtain ⟨q, hq, rfl⟩ := Option.map_eq_some_iff.1 hc
      exact sn_build ho hz hps hq h
    · rename_i z n e hz he
      obtain ⟨⟨n', s, ag⟩, har, rfl⟩ := Option.map_eq_some_iff.1 hc
      exact sn_buildArr ho hz har h
    · cases hc
  · obtain ⟨_, _, hc⟩ := Option.bind_eq_some_iff.1 hc
    obtain ⟨_, _, hc⟩ := Option.bind_eq_some_iff.1 hc
    split at hc
    · injection hc with hc; subst hc; cases hk
    · cases hc
  · obtain ⟨_, _, hc⟩ := Option.bind_eq_some_iff.1 hc
    simp only at hc
    split at hc
    · injection hc with hc; subst hc; cases hk
    · cases hc
  · obtain ⟨_, _, rfl⟩ := Option.map_eq_some_iff.1 hc; cases hk
  · rename_i x ho; injection hc with hc; subst hc; exact sn_nilck ho h
  · rename_i b t x y yt ho
    split at hc
    · exact cmpOp_sound ho (.inl rfl) hc h
    · exact cmpOp_sound ho (.inr rfl) hc h
    · split at hc
      · injection hc with hc; subst hc; exact sn_cat ho h
      · injection hc with hc; subst hc; exact sn_bin ho h
    · injection hc with hc; subst hc; exact sn_div ho h
    · injection hc with hc; subst hc; exact sn_div ho h
    · injection hc with hc; subst hc; exact sn_shift ho h
    · injection hc with hc; subst hc; exact sn_shift ho h
    · injection hc with hc; subst hc; exact sn_bin ho h
  · rename_i u t x ho; injection hc with hc; subst hc; exact sn_un ho h
  · rename_i s d x ho
    split at hc
    · rename_i k0 k h1 h2; injection hc with hc; subst hc; exact sn_conv ho h1 h2 h
    · rename_i h1 h2
      injection hc with hc
      subst hc
      simp only [stepN] at h
      split at h
      · rename_i b hx; injection h with h; subst h; exact sn_str (v := .any) ho h1 h2 hx
      · cases h
    · split at hc
      · split at hc
        · injection hc with hc; subst hc; cases hk
        · cases hc
      · cases hc
    · split at hc
      · injection hc with hc; subst hc; cases hk
      · cases hc
    · cases hc
  · rename_i t x ho
    split at hc
    · cases hc
    · rename_i d hd ht; injection hc with hc; subst hc; exact sn_mkI ho ht (fun ms e => by subst e; exact hd ms rfl) h
    · cases hc
  · rename_i fn first cap ho; injection hc with hc; subst hc; exact sn_mkF ho h
  · injection hc with hc; subst hc; cases hk
  · obtain ⟨_, _, hc⟩ := Option.bind_eq_some_iff.1 hc
    obtain ⟨_, _, hc⟩ := Option.bind_eq_some_iff.1 hc
    split at hc
    · injection hc with hc; subst hc; cases hk
    · cases hc
  · rename_i t x l hh m ho
    split at hc
    · rename_i hu
      split at hc
      · injection hc with hc; subst hc; exact sn_slT ho hu h
      · cases hc
    · rename_i e hu
      obtain ⟨⟨e', s, ag, b⟩, hel, rfl⟩ := Option.map_eq_some_iff.1 hc
      exact sn_slS ho hel h
    · obtain ⟨⟨n, s, ag⟩, har, rfl⟩ := Option.map_eq_some_iff.1 hc
      exact sn_slA ho har h
    · cases hc
  · rename_i t x f ho
    obtain ⟨⟨off, s, ag⟩, hf, hc⟩ := Option.bind_eq_some_iff.1 hc
    simp only at hc
    split at hc
    · rename_i hs; injection hc with hc; subst hc; exact sn_fa ho hf hs h
    · cases hc
  · rename_i t x f ho
    obtain ⟨⟨off, s, ag⟩, hf, hc⟩ := Option.bind_eq_some_iff.1 hc
    simp only at hc
    split at hc
    · rename_i hs; injection hc with hc; subst hc; exact sn_fld ho hf (by simpa using hs) h
    · cases hc
  · rename_i t x i ho
    split at hc
    · obtain ⟨⟨e', s, ag, b⟩, hel, rfl⟩ := Option.map_eq_some_iff.1 hc
      exact sn_iaS ho hel h
    · obtain ⟨⟨n, s, ag⟩, har, rfl⟩ := Option.map_eq_some_iff.1 hc
      exact sn_iaA ho har h
    · cases hc
  · rename_i t x i ho
    split at hc
    · rename_i hu; injection hc with hc; subst hc; exact sn_ixT ho hu h
    · obtain ⟨⟨n, s, ag⟩, har, hc⟩ := Option.bind_eq_some_iff.1 hc
      simp only at hc
      split at hc
      · rename_i hs; injection hc with hc; subst hc; exact sn_ixA ho har (by simpa using hs) h
      · cases hc
    · cases hc
  · split at hc
    · obtain ⟨_, _, hc⟩ := Option.bind_eq_some_iff.1 hc
      split at hc
      · obtain ⟨_, _, rfl⟩ := Option.map_eq_some_iff.1 hc
        cases hk
      · cases hc
    · cases hc
  · split at hc
    · obtain ⟨_, _, hc⟩ := Option.bind_eq_some_iff.1 hc
      split at hc
      · injection hc with hc; subst hc; cases hk
      · cases hc
    · cases hc
  · rename_i x i ho; injection hc with hc; subst hc; exact sn_ext ho h
  · rename_i c ho
    obtain ⟨callee, args, argTypes⟩ := c
    simp only at hc
    split at hc
    · injection hc with hc; subst hc; cases hk
    · cases hc
    · rename_i b
      split at hc
      · split at hc
        · split at hc
          · obtain ⟨_, _, hc⟩ := Option.bind_eq_some_iff.1 hc
            obtain ⟨_, _, hc⟩ := Option.bind_eq_some_iff.1 hc
            split at hc
            · injection hc with hc; subst hc; cases hk
            · cases hc
          · cases hc
        · cases hc
      · rename_i x hargs
        have hargs' : args = #[x] := by rw [← Array.toArray_toList (xs := args), hargs]
        subst hargs'
        split at hc
        · rename_i t ht
          split at hc
          · rename_i hu; injection hc with hc; subst hc; exact sn_lenT ho ht hu h
          · rename_i e hu; injection hc with hc; subst hc; exact sn_lenS ho ht hu h
          · rename_i n e hu; injection hc with hc; subst hc; exact sn_lenA ho ht hu h
          · injection hc with hc; subst hc; cases hk
          · cases hc
        · cases hc
      · injection hc with hc; subst hc; exact sn_mn ho h
      · injection hc with hc; subst hc; exact sn_mx ho h
      · split at hc
        · obtain ⟨_, _, hc⟩ := Option.bind_eq_some_iff.1 hc
          obtain ⟨_, _, hc⟩ := Option.bind_eq_some_iff.1 hc
          split at hc
          · injection hc with hc; subst hc; cases hk
          · cases hc
        · cases hc
      · cases hc
  · cases hc
end
end Go.Proofs.YtennhanlcbibaaaGreatDoor.Lb

/- Operations that read memory. -/
namespace Go.Proofs.YtennhanlcbibaaaGreatDoor.Lb
open Go

section
variable {P : Program} {nt : Nat} {o : Oper} {T : Nat → AVal} {H : AHeap}

theorem stepR_load {t : TypeId} {ad : Operand} {s : Nat} {ag : Bool} {v : AVal} (ho : o.op = .load t ad) (hty : tyA P t = some (s, ag)) (h1 : ag = true ∨ s = 1) (h : stepR (aeval nt T) H (.load s ag ad) = some v) :
    ∀ H2 : AHeap, (∀ n ∈ (nameOf (aeval nt T ad)).toList, H2[n]? = H[n]?) → OpS P nt o T H2 v H2 := by
  intro H2 hag
  simp only [stepR] at h
  split at h
  · rename_i n off hax
    split at h
    · rename_i x hH
      cases hl : Nat.ble (off + s) x.cells.length with
      | false => rw [hl] at h; cases h
      | true =>
        rw [hl] at h
        simp only [cond_true, Option.some.injEq] at h
        have := op_load_ptr ho hax (H := H2) (by rw [hag n (by rw [hax]; simp [nameOf])]; exact hH) hty (Nat.le_of_ble_eq_true hl) h1 h []
        simpa using this
    · cases h
  · rename_i x off hax
    cases hl : Nat.ble (off + s) x.cells.length with
    | false => rw [hl] at h; cases h
    | true =>
      rw [hl] at h
      simp only [cond_true, Option.some.injEq] at h
      have := op_load_iptr (H := H2) ho hax hty (Nat.le_of_ble_eq_true hl) h1 h []
      simpa using this
  · rename_i n k sz j off hax
    split at h
    · rename_i sz' k' xs hH
      cases hc : (Nat.beq sz sz' && Nat.beq k k') with
      | false => rw [hc] at h; cases h
      | true =>
        rw [hc] at h
        simp only [cond_true] at h
        simp only [Bool.and_eq_true] at hc
        obtain rfl := Nat.eq_of_beq_eq_true hc.1
        obtain rfl := Nat.eq_of_beq_eq_true hc.2
        split at h
        · rename_i x hj
          cases hl : Nat.ble (off + s) x.cells.length with
          | false => rw [hl] at h; cases h
          | true =>
            rw [hl] at h
            simp only [cond_true, Option.some.injEq] at h
            have := op_load_rptr ho hax (H := H2) (by rw [hag n (by rw [hax]; simp [nameOf])]; exact hH) hj hty (Nat.le_of_ble_eq_true hl) h1 h []
            simpa using this
        · cases h
    · cases h
  · cases h

theorem chunks_get {sz : Nat} : ∀ (n : Nat) (cs : List AVal), n * sz ≤ cs.length → (chunks sz n cs).length = n ∧ ∀ (j : Nat) (x : AVal), (chunks sz n cs)[j]? = some x → x.cells.length = sz ∧ ∀ (i : Nat) (c : AVal), x.cells[i]? = some c → cs[j * sz + i]? = some c
  | 0, cs, _ => ⟨rfl, fun j x e => by simp [chunks] at e⟩
  | n + 1, cs, h => by
    have hle : sz ≤ cs.length := by rw [Nat.add_mul, Nat.one_mul] at h; omega
    obtain ⟨h1, h2⟩ := chunks_get (sz := sz) n (cs.drop sz) (by rw [Nat.add_mul, Nat.one_mul] at h; simp; omega)
    refine ⟨by simp [chunks, h1], fun j x e => ?_⟩
    cases j with
    | zero =>
      simp only [chunks, List.getElem?_cons_zero, Option.some.injEq] at e
      subst e
      refine ⟨by simp [AVal.cells]; omega, fun i c e => ?_⟩
      simp only [AVal.cells, List.getElem?_take] at e
      split at e
      · simpa using e
      · cases e
    | succ j =>
      simp only [chunks, List.getElem?_cons_succ] at e
      obtain ⟨k1, k2⟩ := h2 j x e
      refine ⟨k1, fun i c e => ?_⟩
      have := k2 i c e
      rw [List.getElem?_drop] at this
      rw [← this]; congr 1
      rw [Nat.add_mul, Nat.one_mul]; omega

def szOf : AVal → Nat
  | .imm sz _ _ | .row _ _ sz _ _ | .brow _ sz _ _ => sz
  | _ => 0

/-- What stands behind a slice. -/
theorem elems_rel {g : G} {w : World} {x : AVal} {xs : List AVal} {u : Value} (hi : Inv g w H) (he : elems H x = some xs) (hu : VRel g x u) :
    ∃ base cap, u = .slice base xs.length cap ∧ xs.length ≤ cap ∧ (base = none → xs = []) ∧ (∀ ad, base = some ad → ad.spot = none) ∧ (∀ (j : Nat) (y : AVal), xs[j]? = some y → y.cells.length = szOf x) ∧
      ∀ ad, base = some ad → ∀ (j : Nat) (y : AVal) (i : Nat) (c : AVal), xs[j]? = some y → y.cells[i]? = some c → c.scalar = true ∧ ∃ v, w.cell? ⟨ad.block, ad.off + (j * szOf x + i), none⟩ = some v ∧ VRel g c v := by
  unfold elems at he
  split at he
  · rename_i sz ys full
    injection he with he
    subst he
    cases hu with
    | immNil => exact ⟨none, 0, rfl, Nat.le_refl _, fun _ => rfl, (fun ad e => by cases e), (fun j y e => by simp at e), (fun ad e => by cases e)⟩
    | imm _ _ _ b off cap vals q1 q2 q3 q4 q5 q6 =>
      refine ⟨some ⟨b, off, none⟩, cap, rfl, q1, (fun e => by cases e), (fun ad e => by cases e; rfl), fun j y e => q4 j y e, fun ad e j y i c hy hc => ?_⟩
      cases e
      refine ⟨(q5 j y i c hy hc).1, vals j i, ?_, q6 j y i c hy hc⟩
      have := hi.imm _ _ _ (q5 j y i c hy hc).2
      simp only [szOf]
      rw [← Nat.add_assoc]; exact this
  · injection he with he
    subst he
    cases hu
    exact ⟨none, 0, rfl, Nat.le_refl _, fun _ => rfl, (fun ad e => by cases e), (fun j y e => by simp at e), (fun ad e => by cases e)⟩
  · injection he with he
    subst he
    cases hu with
    | empS b oo cap hc => exact ⟨some ⟨b, oo, none⟩, cap, rfl, Nat.zero_le _, fun _ => rfl, (fun ad e => by cases e; rfl), (fun j y e => by simp at e), (fun ad e j y i c hy => by simp at hy)⟩
  · rename_i n k sz off len
    split at he
    · rename_i sz' k' ys hH
      cases hc : (Nat.beq sz sz' && Nat.beq k k' && Nat.ble (off + len) ys.length) with
      | false => rw [hc] at he; cases he
      | true =>
        rw [hc] at he
        simp only [cond_true, Option.some.injEq] at he
        simp only [Bool.and_eq_true] at hc
        obtain ⟨⟨c1, c2⟩, c3⟩ := hc
        obtain rfl := Nat.eq_of_beq_eq_true c1
        obtain rfl := Nat.eq_of_beq_eq_true c2
        have c3 := Nat.le_of_ble_eq_true c3
        have hlen : xs.length = len := by rw [← he]; simp; omega
        have hget : ∀ j y, xs[j]? = some y → ys[off + j]? = some y := fun j y e => by
          rw [← he, List.getElem?_take] at e
          split at e
          · rwa [List.getElem?_drop] at e
          · cases e
        cases hu with
        | rowNil _ _ _ hio =>
          refine ⟨none, 0, by rw [hlen], by omega, fun _ => List.eq_nil_of_length_eq_zero hlen, (fun ad e => by cases e), fun j y e => ?_, (fun ad e => by cases e)⟩
          have := lt_of_getElem?_some e; omega
        | rowEmpty _ _ _ _ b oo t hio =>
          refine ⟨some ⟨b, oo, none⟩, 0, by rw [hlen], by omega, fun _ => List.eq_nil_of_length_eq_zero hlen, (fun ad e => by cases e; rfl), fun j y e => ?_, fun ad e j y i c hy => ?_⟩
          · have := lt_of_getElem?_some e; omega
          · have := lt_of_getElem?_some hy; omega
        | row _ _ _ _ _ b N cap hio q1 q2 q3 =>
          obtain ⟨arr, t', h2, h3, h4, h5⟩ := row_cells hi hio hH
          refine ⟨some ⟨b, off * sz, none⟩, cap, by rw [hlen], by omega, (fun e => by cases e), (fun ad e => by cases e; rfl), fun j y e => (h5 _ y (hget j y e)).1, fun ad e j y i c hy hc => ?_⟩
          cases e
          obtain ⟨h6, h7⟩ := h5 _ y (hget j y hy)
          obtain ⟨h8, h9⟩ := h7 i c hc
          have hlt : (off + j) * sz + i < arr.size := by
            rw [h3]
            exact mul_add_lt (Nat.lt_of_lt_of_le (lt_of_getElem?_some (hget j y hy)) h4) (by rw [← h6]; exact lt_of_getElem?_some hc)
          refine ⟨h8, arr[(off + j) * sz + i], ?_, by simpa [Array.getD, hlt] using h9⟩
          rw [cell_of_heap h2]
          simp only [szOf]
          rw [show off * sz + (j * sz + i) = (off + j) * sz + i from by rw [Nat.add_mul]; omega, Array.getElem?_eq_getElem hlt]
    · cases he
  · rename_i n sz off len
    split at he
    · rename_i x' hH
      cases hc : Nat.ble ((off + len) * sz) x'.cells.length with
      | false => rw [hc] at he; cases he
      | true =>
        rw [hc] at he
        simp only [cond_true, Option.some.injEq] at he
        have c3 := Nat.le_of_ble_eq_true hc
        obtain ⟨k1, k2⟩ := chunks_get (sz := sz) len (x'.cells.drop (off * sz)) (by rw [Nat.add_mul] at c3; simp; omega)
        rw [he] at k1 k2
        cases hu with
        | browE _ _ _ b oo N hio =>
          refine ⟨some ⟨b, oo, none⟩, 0, by rw [k1], by omega, fun _ => List.eq_nil_of_length_eq_zero k1, (fun ad e => by cases e; rfl), fun j y e => ?_, fun ad e j y i c hy => ?_⟩
          · have := lt_of_getElem?_some e; omega
          · have := lt_of_getElem?_some hy; omega
        | brow _ _ _ _ b N cap hio q1 q2 =>
          obtain ⟨arr, t', h2, h3, h4⟩ := box_cells hi hio hH
          refine ⟨some ⟨b, off * sz, none⟩, cap, by rw [k1], by omega, (fun e => by cases e), (fun ad e => by cases e; rfl), fun j y e => (k2 j y e).1, fun ad e j y i c hy hc => ?_⟩
          cases e
          have hcc := (k2 j y hy).2 i c hc
          rw [List.getElem?_drop] at hcc
          obtain ⟨h5, h6⟩ := h4 _ c hcc
          have hlt : off * sz + (j * sz + i) < arr.size := by rw [h3]; exact lt_of_getElem?_some hcc
          refine ⟨h5, arr[off * sz + (j * sz + i)], ?_, by simpa [Array.getD, hlt] using h6⟩
          rw [cell_of_heap h2]
          simp only [szOf]
          rw [Array.getElem?_eq_getElem hlt]
    · cases he
  · cases he

theorem bytesOf_spec : ∀ (xs : List AVal) (l : List UInt8), bytesOf xs = some l → ∃ ns : List Int, ns.length = xs.length ∧ l = ns.map (fun n => UInt8.ofNat n.toNat) ∧ ∀ (j : Nat) (x : AVal), xs[j]? = some x → ∃ n, ns[j]? = some n ∧ x.cells = [.int .u8 n]
  | [], l, h => by simp only [bytesOf, Option.some.injEq] at h; subst h; exact ⟨[], rfl, rfl, fun j x e => by simp at e⟩
  | x :: xs, l, h => by
    simp only [bytesOf] at h
    split at h
    · rename_i n r h1 h2
      injection h with h
      subst h
      obtain ⟨ns, k1, k2, k3⟩ := bytesOf_spec xs r h2
      refine ⟨n :: ns, by simp [k1], by simp [k2], fun j y e => ?_⟩
      cases j with
      | zero => simp at e; subst e; exact ⟨n, rfl, h1⟩
      | succ j => exact k3 j y (by simpa using e)
    · cases h

theorem pushes (ns : List Int) : ∀ (s : ByteArray), (ns.foldl (fun r n => r.push (UInt8.ofNat n.toNat)) s) = ⟨s.data ++ (ns.map (fun n => UInt8.ofNat n.toNat)).toArray⟩ := by
  induction ns with
  | nil => intro s; simp
  | cons n ns ih =>
    intro s
    rw [List.foldl_cons, ih, List.map_cons]
    congr 1
    apply Array.ext'
    simp [ByteArray.push]

theorem elems_foot {x : AVal} {xs : List AVal} (h : elems H x = some xs) {H2 : AHeap} (hag : ∀ n ∈ (nameOf x).toList, H2[n]? = H[n]?) : elems H2 x = some xs := by
  unfold elems at *
  split at h
  · exact h
  · exact h
  · exact h
  · rename_i n k sz off len
    rw [hag n (by simp [nameOf])]; exact h
  · rename_i n sz off len
    rw [hag n (by simp [nameOf])]; exact h
  · cases h

theorem stepR_b2s {s d e : TypeId} {x : Operand} {v : AVal} (ho : o.op = .convert s d x) (hs : P.underlying s = some (.slice e)) (hd : P.underlying d = some .string) (he : P.underlying e = some (.int .u8)) (h : stepR (aeval nt T) H (.b2s x) = some v) :
    ∀ H2 : AHeap, (∀ n ∈ (nameOf (aeval nt T x)).toList, H2[n]? = H[n]?) → OpS P nt o T H2 v H2 := by
  intro H2 hag
  simp only [stepR] at h
  split at h
  · rename_i xs hxs
    obtain ⟨l, hl, rfl⟩ := Option.map_eq_some_iff.1 h
    have hxs2 := elems_foot hxs hag
    refine op_of_value (fun c e => by rw [ho] at e; cases e) fun g a w hi her => ?_
    have hx := her x (by rw [ho]; simp [Op.operands])
    obtain ⟨base, cap, hu, _, hnone, hsp, hsz, hcell⟩ := elems_rel hi hxs2 hx
    obtain ⟨ns, k1, k2, k3⟩ := bytesOf_spec xs l hl
    refine ⟨g, .string ⟨l.toArray⟩, w, hi, .refl _ _ _, .str _, .inl ?_⟩
    have hconv : (execOp a.eval o).run P w = ((Conv.bytesToString (.slice base xs.length cap)).run P w).andThen fun v w => .ok (.value v) w := by
      simp only [execOp, ho, hu, Sem.run_bind, run_convert_bytes_string w s d e base _ _ hs he hd]
      cases (Conv.bytesToString (.slice base xs.length cap)).run P w <;> rfl
    rw [hconv]
    cases base with
    | none =>
      have := hnone rfl
      subst this
      simp only [bytesOf, Option.some.injEq] at hl
      subst hl
      simp [Conv.bytesToString]
      rfl
    | some ad =>
      obtain ⟨b, off, sp⟩ := ad
      have := hsp _ rfl
      simp only at this
      subst this
      have hload : (loadCells ⟨b, off, none⟩ xs.length).run P w = .ok (ns.map (Value.int .u8)).toArray w := by
        have := run_loadCells_list (P := P) (w := w) ⟨b, off, none⟩ (ns.map (Value.int .u8)) (fun j v hv => by
          rw [List.getElem?_map] at hv
          obtain ⟨n, hn, rfl⟩ := Option.map_eq_some_iff.1 hv
          obtain ⟨y, hy⟩ := getElem?_some_of_lt (l := xs) (i := j) (by rw [← k1]; exact lt_of_getElem?_some hn)
          obtain ⟨n', hn', hyc⟩ := k3 j y hy
          rw [hn] at hn'
          injection hn' with hn'
          subst hn'
          obtain ⟨_, v, hv, hr⟩ := hcell _ rfl j y 0 (.int .u8 n) hy (by rw [hyc]; rfl)
          have hs1 := hsz j y hy
          rw [hyc] at hs1
          simp only [List.length_cons, List.length_nil] at hs1
          rw [← hs1] at hv
          rw [addr_add]
          simp only [Nat.zero_add, Nat.mul_one, Nat.add_zero] at hv
          rw [hv]
          cases hr; rfl)
        rw [List.length_map, k1] at this
        exact this
      rw [run_bytesToString w ⟨b, off, none⟩ xs.length cap ns hload, pushes, ← k2]
      simp
  · cases h

theorem run_checkFlat {t : TypeId} {n : Nat} {arr : Array Value} {em : Bool} {w : World} (h : flatKey P t n = true) (hn : arr.size = n) : (Instr.checkKey em 10000 t (.agg arr)).run P w = .ok () w := by
  unfold flatKey at h
  split at h
  · rename_i fs hfs
    rw [List.all_eq_true] at h
    have gen : ∀ d, (Instr.checkKey em (d + 2) t (.agg arr)).run P w = .ok () w := fun d => by
      rw [Instr.checkKey]
      simp only [Sem.run_bind, run_underlying hfs, Result.andThen_ok]
      rw [← Array.forIn_toList]
      have each : ∀ f ∈ fs.toList, ∃ u, (part f.type arr f.offset).run P w = .ok u w ∧ (Instr.checkKey em (d + 1) f.type u).run P w = .ok () w := fun f hf => by
        have h1 := h f hf
        simp only [Bool.and_eq_true, beq_iff_eq] at h1
        obtain ⟨⟨h1, h2⟩, h3⟩ := h1
        have h3 : f.offset < n := Nat.le_of_ble_eq_true h3
        refine ⟨_, run_part h2 arr f.offset (by omega) (.inr rfl) w, ?_⟩
        rw [Instr.checkKey]
        split at h1
        · rename_i hu; simp [run_underlying hu]
        · rename_i k hu; simp [run_underlying hu]
        · rename_i hu; simp [run_underlying hu]
        · cases h1
      generalize fs.toList = L at each
      clear h hfs
      induction L with
      | nil => simp
      | cons f L ih =>
        obtain ⟨u, p1, p2⟩ := each f (by simp)
        have ih' := ih (fun y hy => each y (by simp [hy]))
        rw [List.forIn_cons]
        by_cases hname : f.name = "_"
        · simp only [hname, ne_eq, not_true_eq_false, if_false, Sem.run_bind, Sem.run_pure, Result.andThen_ok]
          exact ih'
        · simp only [hname, ne_eq, not_false_eq_true, if_true, Sem.run_bind, p1, p2, Sem.run_pure, Result.andThen_ok]
          exact ih'
    exact gen 9998
  · cases h

/-- A key sought among the entries. -/
theorem find_run {g : G} {w : World} {t : TypeId} {ks : List CK} {k : AVal} {u : Value} (hk : eqK P 8 t = some ks) (hag : tyA P t = some (ks.length, true)) (hu : VRel g k u) : ∀ (es : List (AVal × AVal)) (ents : List MapEntry) (i : Nat) (r : Option (Nat × AVal)), ents.length = es.length →
    (∀ (j : Nat) (a b : AVal), es[j]? = some (a, b) → ∃ e, ents[j]? = some e ∧ VRel g a e.key ∧ VRel g b e.val) → (es ≠ [] → ∃ cs, k = .agg cs) → findA ks k es i = some r →
    ∃ r', (Instr.findAsking t u ents i).run P w = .ok r' w ∧ (match r, r' with | none, none => True | some (j, v), some (j', v') => j' = j ∧ i ≤ j ∧ j < i + es.length ∧ VRel g v v' ∧ ∃ k', es[j - i]? = some (k', v) ∧ ∃ ds, k' = .agg ds ∧ eqL ks k.cells ds = some true | _, _ => False)
  | [], ents, i, r, hl, _, _, h => by
    simp only [findA, Option.some.injEq] at h
    subst h
    have : ents = [] := by simpa using hl
    subst this
    exact ⟨none, by simp [Instr.findAsking], trivial⟩
  | (k', v) :: es, [], i, r, hl, _, _, _ => by simp at hl
  | (k', v) :: es, e :: ents, i, r, hl, he, hka, h => by
    obtain ⟨cs, rfl⟩ := hka (by simp)
    obtain ⟨e', he', hkr, hvr⟩ := he 0 k' v rfl
    simp only [List.getElem?_cons_zero, Option.some.injEq] at he'
    subst he'
    simp only [findA, AVal.cells] at h
    have eqrun : ∀ ds b, k' = .agg ds → eqL ks cs ds = some b → (Op.equal t u e.key).run P w = .ok b w := by
      rintro ds b rfl hr
      obtain ⟨l1, l2⟩ := eqL_length _ _ _ _ hr
      cases hu with
      | agg _ cs' k1 k2 k3 =>
        generalize e.key = ek at hkr
        cases hkr with
        | agg _ ds' m1 m2 m3 =>
          obtain ⟨ag, ht, h1, hrun⟩ := eq_run (P := P) (g := g) w 8 t ks cs ds cs' ds' 0 0 b 9992 hk ⟨by omega, fun i c e => by rw [Nat.zero_add]; exact k3 i c e⟩ ⟨by omega, fun i c e => by rw [Nat.zero_add]; exact m3 i c e⟩ hr
          rw [hag] at ht
          injection ht with ht
          injection ht with _ ht
          subst ht
          have e1 : seg true cs' 0 ks.length = .agg cs' := by simp [seg, ← l1, ← k1]
          have e2 : seg true ds' 0 ks.length = .agg ds' := by simp [seg, ← l2, ← m1]
          rw [e1, e2] at hrun
          exact hrun
    cases k' with
    | agg ds =>
      simp only at h
      cases hq : eqL ks cs ds with
      | none => rw [hq] at h; cases h
      | some b =>
        rw [hq] at h
        have hrun := eqrun ds b rfl hq
        cases b with
        | true =>
          simp only [Option.some.injEq] at h
          subst h
          refine ⟨some (i, e.val), by simp [Instr.findAsking, hrun], rfl, Nat.le_refl _, by simp, hvr, .agg ds, by simp, ds, rfl, hq⟩
        | false =>
          simp only at h
          obtain ⟨r', h1, h2⟩ := find_run (w := w) hk hag hu es ents (i + 1) r (by simpa using hl) (fun j a b e => by simpa using he (j + 1) a b (by simpa using e)) (fun _ => ⟨cs, rfl⟩) h
          refine ⟨r', by simp [Instr.findAsking, hrun, h1], ?_⟩
          cases r with
          | none => cases r' <;> simp_all
          | some p =>
            obtain ⟨j, v2⟩ := p
            cases r' with
            | none => exact h2
            | some p' =>
              obtain ⟨j', v'⟩ := p'
              obtain ⟨q1, q2, q3, q4, k2, q5, q6⟩ := h2
              refine ⟨q1, by omega, by simp; omega, q4, k2, ?_, q6⟩
              rw [show j - i = (j - (i + 1)) + 1 from by omega, List.getElem?_cons_succ]
              exact q5
    | _ => simp at h

theorem stepR_look {t kt et : TypeId} {m k : Operand} {ok : Bool} {ks : List CK} {z v : AVal} (ho : o.op = .lookup t m k ok) (ht : P.underlying t = some (.map kt et)) (hk : eqK P 8 kt = some ks) (hag : tyA P kt = some (ks.length, true)) (hfl : flatKey P kt ks.length = true) (hz : zeroA P et = some z)
    (h : stepR (aeval nt T) H (.look ks z ok m k) = some v) :
    ∀ H2 : AHeap, (∀ n ∈ (nameOf (aeval nt T m)).toList, H2[n]? = H[n]?) → OpS P nt o T H2 v H2 := by
  intro H2 hft
  simp only [stepR] at h
  split at h
  · rename_i n hax
    split at h
    · rename_i es hH
      have hH2 : H2[n]? = some (.map es) := by rw [hft n (by rw [hax]; simp [nameOf])]; exact hH
      have hkey : ∃ r, findA ks (aeval nt T k) es 0 = some r ∧ v = (match r with | some (_, v) => (bif ok then .tuple [v, .bool true] else v) | none => (bif ok then .tuple [z, .bool false] else z)) ∧ ∃ cs, aeval nt T k = .agg cs ∧ cs.length = ks.length := by
        split at h
        · rename_i cs hkk
          cases hl : Nat.beq cs.length ks.length with
          | false => rw [hl] at h; cases h
          | true =>
            rw [hl] at h
            simp only [cond_true] at h
            split at h
            · rename_i i v' hf; injection h with h; exact ⟨some (i, v'), by rw [hkk]; exact hf, h.symm, cs, hkk, Nat.eq_of_beq_eq_true hl⟩
            · rename_i hf; injection h with h; exact ⟨none, by rw [hkk]; exact hf, h.symm, cs, hkk, Nat.eq_of_beq_eq_true hl⟩
            · cases h
        · cases h
      obtain ⟨r, hf, rfl, cs, hcs, hcl⟩ := hkey
      refine op_of_value (fun c e => by rw [ho] at e; cases e) fun g a w hi her => ?_
      have hm := her m (by rw [ho]; simp [Op.operands])
      have hkr := her k (by rw [ho]; simp [Op.operands])
      rw [hax] at hm
      generalize hmv : a.eval m = mv at hm
      cases hm with
      | map _ b N hio =>
        obtain ⟨ents, clock, h2, h3, h4⟩ := hi.obj n 0 _ _ hio hH2 rfl
        obtain ⟨r', hrun, hrel⟩ := find_run (w := w) hk hag hkr es ents.toList 0 r (by simpa using h3) (fun j a b e => by simpa using h4 j a b e) (fun _ => ⟨cs, hcs⟩) hf
        have hchk : (Instr.checkKey ents.isEmpty 10000 kt (a.eval k)).run P w = .ok () w := by
          rw [hcs] at hkr
          generalize a.eval k = kv at hkr
          cases hkr with
          | agg _ cs' k1 k2 k3 => exact run_checkFlat hfl (by omega)
        have hfk : (Instr.findKey kt (a.eval k) ents.toList).run P w = .ok r' w := by
          rw [run_findKey_eq w (by
            unfold flatKey at hfl
            split at hfl
            · rename_i fs hfs; rw [hfs]
            · cases hfl)]
          exact hrun
        have hgo : (getObj b).run P w = .ok (.map ents clock) w := by simp [getObj, Sem.run, h2]
        obtain ⟨i, zv, hi', hzz, hb, hzr⟩ := zeroA_spec hz
        cases r with
        | none =>
          cases r' with
          | some p => exact hrel.elim
          | none =>
            refine ⟨g, if ok then .tuple #[zv, .bool false] else zv, w, hi, .refl _ _ _, ?_, .inl ?_⟩
            · cases ok
              · exact hzr g
              · refine .tuple _ _ rfl (fun i c e => ?_)
                match i, e with
                | 0, e => simp at e; subst e; exact hzr g
                | 1, e => simp at e; subst e; exact .bool false
            · simp only [execOp, ho, Instr.lookup, Sem.run_bind, run_underlying ht, Result.andThen_ok, hmv, hgo, Sem.run_pure, hchk, hfk, zeroValue, typeInfo]
              simp only [program, Sem.run, hi', hzz, Sem.run_pure, Result.andThen_ok, Sem.run_bind]
        | some p =>
          obtain ⟨j, v0⟩ := p
          cases r' with
          | none => exact hrel.elim
          | some p' =>
            obtain ⟨j', v'⟩ := p'
            obtain ⟨_, _, _, hvr, _⟩ := hrel
            refine ⟨g, if ok then .tuple #[v', .bool true] else v', w, hi, .refl _ _ _, ?_, .inl ?_⟩
            · cases ok
              · exact hvr
              · refine .tuple _ _ rfl (fun i c e => ?_)
                match i, e with
                | 0, e => simp at e; subst e; exact hvr
                | 1, e => simp at e; subst e; exact .bool true
            · simp only [execOp, ho, Instr.lookup, Sem.run_bind, run_underlying ht, Result.andThen_ok, hmv, hgo, Sem.run_pure, hchk, hfk]
    · cases h
  · cases h

theorem stepR_lenM {x : Operand} {t kt et : TypeId} {ts : Array TypeId} {v : AVal} (ho : o.op = .call { callee := .builtin .len, args := #[x], argTypes := ts }) (hts : ts[0]? = some t) (ht : P.underlying t = some (.map kt et)) (h : stepR (aeval nt T) H (.lenM x) = some v) :
    ∀ H2 : AHeap, (∀ n ∈ (nameOf (aeval nt T x)).toList, H2[n]? = H[n]?) → OpS P nt o T H2 v H2 := by
  intro H2 hft
  simp only [stepR] at h
  refine op_of_value (fun c e => by rw [ho] at e; cases e) fun g a w hi her => ?_
  have hx := her x (by rw [ho]; simp [Op.operands, Call.operands])
  obtain ⟨kk, hkk⟩ := run_call_builtin (P := P) (a := a) (w := w) ho
  split at h
  · rename_i n hax
    split at h
    · rename_i es hH
      injection h with h
      subst h
      rw [hax] at hx
      generalize hmv : a.eval x = mv at hx
      cases hx with
      | map _ b N hio =>
        obtain ⟨ents, clock, h2, h3, h4⟩ := hi.obj n 0 _ _ hio (by rw [hft n (by rw [hax]; simp [nameOf])]; exact hH) rfl
        refine ⟨g, .int .i64 es.length, w, hi, .refl _ _ _, .int _ _, .inl ?_⟩
        rw [hkk]
        have hgo : (getObj b).run P w = .ok (.map ents clock) w := by simp [getObj, Sem.run, h2]
        simp [builtin, Builtin.len_, hts, hmv, run_underlying ht, goInt, hgo, h3]
    · cases h
  · rename_i hax
    injection h with h
    subst h
    rw [hax] at hx
    generalize hmv : a.eval x = mv at hx
    cases hx
    refine ⟨g, .int .i64 0, w, hi, .refl _ _ _, .int _ _, .inl ?_⟩
    rw [hkk]
    simp [builtin, Builtin.len_, hts, hmv, run_underlying ht, goInt]
  · cases h
end
end Go.Proofs.YtennhanlcbibaaaGreatDoor.Lb

/- Rows: their cells as lists; rows that get a new place. -/
namespace Go.Proofs.YtennhanlcbibaaaGreatDoor.Lb
open Go

/-- A row's elements, cell by cell. -/
def RowL (g : G) (sz : Nat) (xs : List AVal) (l : List Value) : Prop :=
  l.length = xs.length * sz ∧ ∀ (j : Nat) (x : AVal), xs[j]? = some x → x.cells.length = sz ∧ ∀ (i : Nat) (c : AVal), x.cells[i]? = some c → c.scalar = true ∧ VRel g c ((l[j * sz + i]?).getD undef)

theorem RowL.mono {g g' : G} (hg : g.le g') {sz : Nat} {xs : List AVal} {l : List Value} (h : RowL g sz xs l) : RowL g' sz xs l :=
  ⟨h.1, fun j x e => ⟨(h.2 j x e).1, fun i c f => ⟨((h.2 j x e).2 i c f).1, ((h.2 j x e).2 i c f).2.mono hg⟩⟩⟩

theorem RowL.nil (g : G) (sz : Nat) : RowL g sz [] [] := ⟨by simp, fun j x e => by simp at e⟩

theorem RowL.append {g : G} {sz : Nat} {xs ys : List AVal} {l m : List Value} (h : RowL g sz xs l) (k : RowL g sz ys m) : RowL g sz (xs ++ ys) (l ++ m) := by
  refine ⟨by simp [h.1, k.1, Nat.add_mul], fun j x e => ?_⟩
  rcases Nat.lt_or_ge j xs.length with hj | hj
  · rw [List.getElem?_append_left hj] at e
    obtain ⟨h1, h2⟩ := h.2 j x e
    refine ⟨h1, fun i c f => ?_⟩
    have : j * sz + i < l.length := by rw [h.1]; exact mul_add_lt hj (by rw [← h1]; exact lt_of_getElem?_some f)
    rw [List.getElem?_append_left this]
    exact h2 i c f
  · rw [List.getElem?_append_right hj] at e
    obtain ⟨h1, h2⟩ := k.2 _ x e
    refine ⟨h1, fun i c f => ?_⟩
    have : l.length ≤ j * sz + i := by rw [h.1]; exact Nat.le_trans (Nat.mul_le_mul_right _ hj) (Nat.le_add_right _ _)
    rw [List.getElem?_append_right this, h.1, show j * sz + i - xs.length * sz = (j - xs.length) * sz + i from by rw [Nat.sub_mul]; have := Nat.mul_le_mul_right sz hj; omega]
    exact h2 i c f

theorem RowL.take {g : G} {sz : Nat} {xs : List AVal} {l : List Value} (h : RowL g sz xs l) (n : Nat) : RowL g sz (xs.take n) (l.take (n * sz)) := by
  refine ⟨?_, fun j x e => ?_⟩
  · simp only [List.length_take, h.1]
    rcases Nat.le_total n xs.length with hn | hn
    · rw [Nat.min_eq_left hn, Nat.min_eq_left (Nat.mul_le_mul_right _ hn)]
    · rw [Nat.min_eq_right hn, Nat.min_eq_right (Nat.mul_le_mul_right _ hn)]
  · rw [List.getElem?_take] at e
    split at e
    · rename_i hj
      obtain ⟨h1, h2⟩ := h.2 j x e
      refine ⟨h1, fun i c f => ?_⟩
      have : j * sz + i < n * sz := mul_add_lt hj (by rw [← h1]; exact lt_of_getElem?_some f)
      rw [List.getElem?_take, if_pos this]
      exact h2 i c f
    · cases e

/-- A row in memory. -/
theorem RowL.orel {g : G} {w : World} {sz k b N : Nat} {xs : List AVal} {l : List Value} {arr : Array Value} {t : TypeId} (h : RowL g sz xs l) (hb : w.heap[b]? = some (.cells arr t (0, 0))) (hsz : arr.size = N * sz) (hN : xs.length ≤ N) (hl : ∀ q, q < l.length → arr.toList[q]? = l[q]?) :
    ORel g w (.row sz k xs) (some b, N) := by
  refine ⟨arr, t, hb, hsz, hN, fun j x e => ?_⟩
  obtain ⟨h1, h2⟩ := h.2 j x e
  refine ⟨h1, fun i c f => ?_⟩
  obtain ⟨h3, h4⟩ := h2 i c f
  have : j * sz + i < l.length := by rw [h.1]; exact mul_add_lt (lt_of_getElem?_some e) (by rw [← h1]; exact lt_of_getElem?_some f)
  rw [arr_getD, hl _ this]
  exact ⟨h3, h4⟩

theorem RowL.one {g : G} {sz : Nat} {xs : List AVal} {l : List Value} (h : RowL g sz xs l) : ∀ u ∈ l, u.oneCell' = true := by
  intro u hu
  obtain ⟨q, hq, rfl⟩ := List.getElem_of_mem hu
  have hq' : q < xs.length * sz := by rw [← h.1]; exact hq
  have hsz : 0 < sz := by
    rcases Nat.eq_zero_or_pos sz with h0 | h0
    · rw [h0] at hq'; omega
    · exact h0
  have hj : q / sz < xs.length := (Nat.div_lt_iff_lt_mul hsz).2 hq'
  obtain ⟨x, hx⟩ := getElem?_some_of_lt hj
  obtain ⟨h1, h2⟩ := h.2 _ x hx
  obtain ⟨c, hc⟩ := getElem?_some_of_lt (l := x.cells) (i := q % sz) (by rw [h1]; exact Nat.mod_lt _ hsz)
  obtain ⟨h3, h4⟩ := h2 _ c hc
  have he : q / sz * sz + q % sz = q := by rw [Nat.mul_comm]; exact Nat.div_add_mod q sz
  rw [he, List.getElem?_eq_getElem hq] at h4
  exact (h4.one h3).1

/-- What a slice shows, as a list of cells. -/
theorem elems_list {g : G} {w : World} {H : AHeap} {x : AVal} {xs : List AVal} {u : Value} {sz : Nat} (hi : Inv g w H) (he : elems H x = some xs) (hu : VRel g x u) (hsz : ∀ y ∈ xs, y.cells.length = sz) :
    ∃ base cap l, u = .slice base xs.length cap ∧ xs.length ≤ cap ∧ (base = none → xs = []) ∧ RowL g sz xs l ∧ ∀ ad, base = some ad → ∀ j v, l[j]? = some v → w.cell? (ad.add j) = some v := by
  obtain ⟨base, cap, h1, h2, h3, h4, h5, h6⟩ := elems_rel hi he hu
  cases base with
  | none =>
    have := h3 rfl
    subst this
    exact ⟨none, cap, [], h1, h2, h3, .nil g sz, fun ad e => by cases e⟩
  | some ad =>
    obtain ⟨b, off, sp⟩ := ad
    have hsp := h4 _ rfl
    simp only at hsp
    subst hsp
    refine ⟨_, cap, (List.range (xs.length * sz)).map fun q => (w.cell? ⟨b, off + q, none⟩).getD undef, h1, h2, h3, ⟨by simp, fun j x hx => ⟨hsz x (List.mem_of_getElem? hx), fun i c hc => ?_⟩⟩, fun ad e j v hv => ?_⟩
    · have hxs := hsz x (List.mem_of_getElem? hx)
      obtain ⟨k1, v, k2, k3⟩ := h6 _ rfl j x i c hx hc
      rw [← h5 j x hx, hxs] at k2
      have : j * sz + i < xs.length * sz := mul_add_lt (lt_of_getElem?_some hx) (by rw [← hxs]; exact lt_of_getElem?_some hc)
      refine ⟨k1, ?_⟩
      simp only at k2
      simp [this, k2]
      exact k3
    · cases e
      rw [List.getElem?_map] at hv
      obtain ⟨q, hq, rfl⟩ := Option.map_eq_some_iff.1 hv
      have hql := lt_of_getElem?_some hq
      simp only [List.length_range] at hql
      rw [List.getElem?_range hql] at hq
      injection hq with hq
      subst hq
      have hszp : 0 < sz := by
        rcases Nat.eq_zero_or_pos sz with h0 | h0
        · rw [h0] at hql; omega
        · exact h0
      obtain ⟨x, hx⟩ := getElem?_some_of_lt (l := xs) (i := j / sz) ((Nat.div_lt_iff_lt_mul hszp).2 hql)
      have hxs := hsz x (List.mem_of_getElem? hx)
      obtain ⟨c, hc⟩ := getElem?_some_of_lt (l := x.cells) (i := j % sz) (by rw [hxs]; exact Nat.mod_lt _ hszp)
      obtain ⟨_, v, k2, _⟩ := h6 _ rfl _ x _ c hx hc
      rw [← h5 _ x hx, hxs] at k2
      have he : j / sz * sz + j % sz = j := by rw [Nat.mul_comm]; exact Nat.div_add_mod j sz
      rw [he] at k2
      rw [addr_add, k2]
      rfl

/-- A row gets a new place, or is written to in its own: its generation goes on. -/
theorem inv_regen {g : G} {w w' : World} {H : AHeap} {n k sz b N : Nat} {t0 : Option Nat × Nat} {xs ys : List AVal} (hi : Inv g w H) (hio : g.io n k = some t0) (hH : H[n]? = some (.row sz k xs)) (hb : t0.1 = some b ∨ b = w.heap.size)
    (hne : ∀ c, c ≠ b → c < w.heap.size → w'.heap[c]? = w.heap[c]?) (hbl : b < w'.heap.size) (hsz : w.heap.size ≤ w'.heap.size) (hos : w'.os = w.os) (htp : w'.tape = w.tape) (hout : w'.output = w.output)
    (hnew : ORel (g.add n (k + 1) (some b, N)) w' (.row sz (k + 1) ys) (some b, N)) :
    Inv (g.add n (k + 1) (some b, N)) w' (H.set n (.row sz (k + 1) ys)) ∧ Ext g w H (g.add n (k + 1) (some b, N)) w' (H.set n (.row sz (k + 1) ys)) := by
  have hgen : H.gen n = some k := gen_of hH rfl
  have hnl := lt_of_getElem?_some hH
  have hnone : g.io n (k + 1) = none := by
    cases e : g.io n (k + 1) with
    | none => rfl
    | some t => have := hi.genle _ _ _ _ e hgen; omega
  have hle : g.le (g.add n (k + 1) (some b, N)) := G.le_add hnone
  have hioc : ∀ {m l t}, (g.add n (k + 1) (some b, N)).io m l = some t → (m = n ∧ l = k + 1 ∧ t = (some b, N)) ∨ g.io m l = some t := by
    intro m l t h
    simp only [G.add] at h
    split at h
    · rename_i e; injection h with h; exact .inl ⟨e.1, e.2, h.symm⟩
    · exact .inr h
  have hown : ∀ m l c M, g.io m l = some (some c, M) → m ≠ n → c ≠ b := fun m l c M h hm e => by
    subst e
    rcases hb with hb | hb
    · obtain ⟨b0, N0⟩ := t0
      simp only at hb
      subst hb
      exact hm (hi.inj m n l k c M N0 h hio)
    · have := hi.lt _ _ _ _ h; omega
  have himb : ∀ o, g.im b o = none := fun o => by
    rcases hb with hb | hb
    · obtain ⟨b0, N0⟩ := t0
      simp only at hb
      subst hb
      exact hi.disj n k b N0 o hio hgen
    · cases e : g.im b o with
      | none => rfl
      | some v => have := World.block_lt_of_cell? w _ (hi.imm b o v e); simp only at this; omega
  refine ⟨⟨fun m l t h => ?_, fun m l t l' h hl => ?_, fun m l t l' h hl => ?_, fun m l o t h hm hl => ?_, fun m l c M h => ?_, fun m m' l l' c M M' h h' => ?_, fun c o v h => ?_, fun m l c M o h hl => ?_⟩,
    ⟨hle, hsz, hos, htp, hout, fun c hc hn => ?_, fun m l c M h => ?_, fun c o v h => .inl h, by simp, fun m l t h hm => ?_⟩⟩
  · rcases hioc h with ⟨rfl, _, _⟩ | h
    · simpa using hnl
    · simpa using hi.dom m l t h
  · by_cases hmn : m = n
    · subst hmn
      rw [gen_set_self hnl] at hl
      simp only [AObj.gen, Option.some.injEq] at hl
      subst hl
      exact ⟨_, G.add_self⟩
    · rw [gen_set_ne (fun e => hmn e.symm)] at hl
      rcases hioc h with ⟨e, _, _⟩ | h
      · exact absurd e hmn
      · obtain ⟨u, hu⟩ := hi.live m l t l' h hl; exact ⟨u, hle.io _ _ _ hu⟩
  · by_cases hmn : m = n
    · subst hmn
      rw [gen_set_self hnl] at hl
      simp only [AObj.gen, Option.some.injEq] at hl
      rcases hioc h with ⟨_, e, _⟩ | h
      · omega
      · have := hi.genle _ _ _ _ h hgen; omega
    · rw [gen_set_ne (fun e => hmn e.symm)] at hl
      rcases hioc h with ⟨e, _, _⟩ | h
      · exact absurd e hmn
      · exact hi.genle _ _ _ _ h hl
  · by_cases hmn : m = n
    · subst hmn
      rw [List.getElem?_set_self hnl] at hm
      injection hm with hm
      subst hm
      simp only [AObj.gen, Option.some.injEq] at hl
      subst hl
      rw [G.add_self] at h
      injection h with h
      subst h
      exact hnew
    · rw [List.getElem?_set_ne (fun e => hmn e.symm)] at hm
      rcases hioc h with ⟨e, _, _⟩ | h
      · exact absurd e hmn
      · have := hi.obj m l o t h hm hl
        refine (this.same_block (fun c hc => ?_)).mono hle
        obtain ⟨c0, M⟩ := t
        simp only at hc
        subst hc
        exact hne c (hown m l c M h hmn) (hi.lt _ _ _ _ h)
  · rcases hioc h with ⟨_, _, e⟩ | h
    · injection e with e _; injection e with e; subst e; exact hbl
    · have := hi.lt _ _ _ _ h; omega
  · rcases hioc h with ⟨e1, _, e2⟩ | h1 <;> rcases hioc h' with ⟨e1', _, e2'⟩ | h1'
    · rw [e1, e1']
    · injection e2 with e2 _; injection e2 with e2
      by_cases hmn : m' = n
      · rw [e1, hmn]
      · exact absurd e2 (hown m' l' c M' h1' hmn)
    · injection e2' with e2' _; injection e2' with e2'
      by_cases hmn : m = n
      · rw [e1', hmn]
      · exact absurd e2' (hown m l c M h1 hmn)
    · exact hi.inj m m' l l' c M M' h1 h1'
  · have hcb : c ≠ b := fun e => by subst e; rw [show (g.add n (k + 1) (some c, N)).im c o = g.im c o from rfl, himb] at h; cases h
    have hc := hi.imm c o v h
    have hlt := World.block_lt_of_cell? w _ hc
    rw [World.cell?_of_block (w := w) (hne c hcb hlt)]
    exact hc
  · rcases hioc h with ⟨_, _, e⟩ | h1
    · injection e with e _; injection e with e
      subst e; exact himb o
    · by_cases hmn : m = n
      · subst hmn
        by_cases hcb : c = b
        · subst hcb; exact himb o
        · rw [gen_set_self hnl] at hl
          simp only [AObj.gen, Option.some.injEq] at hl
          subst hl
          rw [hnone] at h1; cases h1
      · rw [gen_set_ne (fun e => hmn e.symm)] at hl
        exact hi.disj m l c M o h1 hl
  · rcases hb with hb | hb
    · obtain ⟨b0, N0⟩ := t0
      simp only at hb
      subst hb
      exact hne c (fun e => by subst e; exact hn _ _ _ hio) hc
    · exact hne c (by omega) hc
  · rcases hioc h with ⟨_, _, e⟩ | h1
    · injection e with e _; injection e with e
      subst e
      rcases hb with hb | hb
      · obtain ⟨b0, N0⟩ := t0
        simp only at hb
        subst hb
        exact .inr ⟨n, k, N0, hio⟩
      · exact .inl (by omega)
    · exact .inr ⟨m, l, M, h1⟩
  · rcases hioc h with ⟨e, _, _⟩ | h1
    · subst e; exact ⟨k, _, hio⟩
    · exact ⟨l, t, h1⟩
end Go.Proofs.YtennhanlcbibaaaGreatDoor.Lb

