/- What a run of the program in an abstract memory says of the machine: part 8. -/
import Derived.Test.YtennhanlcbibaaaGreatDoorL7
import Derived.ProofKit
import Derived.OpenShut
import Derived.Carry
import Derived.ChangeSame
import Derived.WideKeyArgs
/- Soundness of the interpreter: drawn operations. -/
namespace Go.Proofs.YtennhanlcbibaaaGreatDoor.Lb
open Go

section
variable {P : Program} {K : Cfg} {n : Nat}

theorem same_heap {H H1 : AHeap} {lo : Nat} (h : Sh H H1 lo) (hl : H.length ≤ lo) (he : H1.length = H.length) : H1 = H := by
  apply List.ext_getElem?
  intro i
  rcases Nat.lt_or_ge i H.length with hi | hi
  · exact h.2.2 i (by omega)
  · rw [List.getElem?_eq_none (by omega), List.getElem?_eq_none hi]

theorem kdOk_foot {e : Operand → AVal} {H : AHeap} {o : AOp} {c : Cls} (h : footA e H o = some c) : kdOk o c := by
  unfold footA at h
  unfold kdOk
  cases hk : o.kd with
  | n => rw [hk] at h; simp only [Option.some.injEq] at h; exact .inr h.symm
  | r =>
    rw [hk] at h
    simp only at h
    refine .inr ?_
    split at h <;> first | (simp only [Option.some.injEq] at h; exact ⟨_, h.symm⟩) | (cases h)
  | a => exact .inr trivial
  | w => exact .inr trivial

theorem good_d (hI : GoodI P K n) (hD : GoodD P K n) : GoodD P K (n + 1) := by
  intro nt es T H lo0 acc T' H' lo acc' h
  cases es with
  | nil =>
    simp only [run] at h
    injection h with h1 h2 h3 h4
    subst h1 h2 h3 h4
    exact ⟨fun H0 hs => hs, ⟨[], by simp, trivial⟩, fun ops l hl => ⟨[], by rw [compEnts_nil hl]; exact .nil _ _, by simp⟩⟩
  | cons en es =>
    simp only [run] at h
    -- one operation and the rest
    have step : ∀ (v : AVal) (H1 : AHeap) (lo1 : Nat) (c : Cls), kdOk en.op c → run P K n (.entsD nt es (T.setO en.dst v) H1 lo1 (c :: acc)) = .draw T' H' lo acc' → (∀ H0, Sh H0 H lo0 → Sh H0 H1 lo1) → ∀ (X : Array Oper → Oper → Prop), (∀ ops o, compEnt P ops o = some en → X ops o → RecOk P nt ops o ⟨T.get, H, v, c, H1⟩) →
        (∀ H0, Sh H0 H lo0 → Sh H0 H' lo) ∧ (∃ cls, acc' = acc.reverse ++ cls ∧ KdL (en :: es) cls) ∧ ∀ ops l, compEnts P ops l = some (en :: es) → (∀ o, compEnt P ops o = some en → X ops o) → ∃ tr, Canon P nt ops l T.get H tr T'.get H' ∧ acc' = acc.reverse ++ tr.map (·.c) := by
      intro v H1 lo1 c hkd hrun hsh X hrec
      obtain ⟨e1, ⟨cls, hcls, hkl⟩, e2⟩ := hD _ _ _ _ _ _ _ _ _ _ hrun
      refine ⟨fun H0 hs => e1 H0 (hsh H0 hs), ⟨c :: cls, by rw [hcls]; simp, hkd, hkl⟩, fun ops l hl hX => ?_⟩
      obtain ⟨o, os, rfl, h1, h2⟩ := compEnts_cons hl
      obtain ⟨d1, _, _⟩ := compEnt_spec h1
      obtain ⟨tr, k1, k2⟩ := e2 ops os h2
      rw [Tr.get_setO, d1] at k1
      exact ⟨⟨T.get, H, v, c, H1⟩ :: tr, .cons o os _ tr _ _ (hrec ops o h1 (hX o h1)) k1, by rw [k2]; simp⟩
    have wanted : ∀ (hc : (match en.op with
        | .call f args => match run P K n (.call (evO nt T f) (args.map (evO nt T)) H) with
          | .val v H1 lo1 free => bif free then run P K n (.entsD nt es (T.setO en.dst v) H lo0 (.r [] :: acc))
            else bif needR es acc && Nat.ble H.length lo1 && Nat.beq H1.length H.length && H.all (belowO H.length 40) && below H.length 40 (evO nt T f) && args.all (fun x => below H.length 40 (evO nt T x)) then run P K n (.entsD nt es (T.setO en.dst v) H lo0 (.r (List.range H.length) :: acc))
            else bif Nat.ble H.length H1.length then run P K n (.entsD nt es (T.setO en.dst v) H1 (Nat.min lo0 lo1) (.w (.set (changed lo1 (H.drop lo1) (H1.drop lo1)) H.length) :: acc)) else .fail "shrunk"
          | .fail w => .fail w
          | _ => .fail "call"
        | op => match stepA (evO nt T) H op with
          | some (v, H1, lo1) => match footA (evO nt T) H op with
            | some c => run P K n (.entsD nt es (T.setO en.dst v) H1 (stepLo op lo0 lo1) (c :: acc))
            | none => .fail "foot"
          | none => .fail "op") = .draw T' H' lo acc'), (∀ H0, Sh H0 H lo0 → Sh H0 H' lo) ∧ (∃ cls, acc' = acc.reverse ++ cls ∧ KdL (en :: es) cls) ∧ ∀ ops l, compEnts P ops l = some (en :: es) → (∀ o, compEnt P ops o = some en → AWanted nt ops T.get o true) → ∃ tr, Canon P nt ops l T.get H tr T'.get H' ∧ acc' = acc.reverse ++ tr.map (·.c) := by
      intro hc
      split at hc
      · rename_i f args hop
        split at hc
        · rename_i v H1 lo1 free hr
          obtain ⟨k1, k2, k3, k4⟩ := hI _ _ _ _ _ _ _ hr
          have call : ∀ (ops : Array Oper) (o : Oper) (H2 : AHeap) (H3 : AHeap), compEnt P ops o = some en → InvS P (evO nt T f) (args.map (evO nt T)) H2 v H3 → OpS P nt o T.get H2 v H3 := fun ops o H2 H3 ho hinv => by
            obtain ⟨_, d2, _⟩ := compEnt_spec ho
            obtain ⟨as, ts, h1, h2⟩ := compOp_call (getD_bad (hop.symm.trans d2) (by simp))
            subst h2
            rw [evO_eq] at hinv
            exact op_call h1 hinv
          cases hfr : free with
          | true =>
            rw [hfr] at hc
            simp only [cond_true] at hc
            obtain ⟨e1, e2⟩ := k3 hfr
            exact step v H lo0 (.r []) (.inr (by rw [show en.op = .call f args from hop]; trivial)) hc (fun H0 hs => hs) (fun ops o => AWanted nt ops T.get o true) (fun ops o ho hw => ⟨hw, (fun n hn => by cases hn), (fun H2 _ => call ops o H2 H2 ho (e2 H2)), rfl⟩)
          | false =>
            rw [hfr] at hc
            simp only [cond_false] at hc
            cases hcc : (needR es acc && Nat.ble H.length lo1 && Nat.beq H1.length H.length && H.all (belowO H.length 40) && below H.length 40 (evO nt T f) && args.all (fun x => below H.length 40 (evO nt T x))) with
            | true =>
              rw [hcc] at hc
              simp only [cond_true] at hc
              simp only [Bool.and_eq_true] at hcc
              obtain ⟨⟨⟨⟨⟨_, c1⟩, c2⟩, c3⟩, c4⟩, c5⟩ := hcc
              have c1 := Nat.le_of_ble_eq_true c1
              have c2 := Nat.eq_of_beq_eq_true c2
              have hk := k4 c1 c2 (fun n o ho => belowO_sound (List.all_eq_true.1 c3 o (List.mem_of_getElem? ho))) (below_sound 40 _ c4) (fun i c e => by
                rw [List.getElem?_map] at e
                obtain ⟨x, hx, rfl⟩ := Option.map_eq_some_iff.1 e
                exact below_sound 40 _ (List.all_eq_true.1 c5 x (List.mem_of_getElem? hx)))
              exact step v H lo0 (.r (List.range H.length)) (.inr (by rw [show en.op = .call f args from hop]; trivial)) hc (fun H0 hs => hs) (fun ops o => AWanted nt ops T.get o true) (fun ops o ho hw => ⟨hw, (fun n hn => List.mem_range.1 hn), (fun H2 hag => by
                obtain ⟨L, rfl⟩ := list_all_same hag
                exact call ops o _ _ ho (hk L)), rfl⟩)
            | false =>
              rw [hcc] at hc
              simp only [cond_false] at hc
              cases hl : Nat.ble H.length H1.length with
              | false => rw [hl] at hc; cases hc
              | true =>
                rw [hl] at hc
                simp only [cond_true] at hc
                exact step v H1 (Nat.min lo0 lo1) _ (.inr (by rw [show en.op = .call f args from hop]; trivial)) hc (fun H0 hs => hs.trans k2) (fun ops o => AWanted nt ops T.get o true) (fun ops o ho hw => ⟨hw, call ops o H H1 ho k1, k2.2.1, fun m hm hh => by
                  have hh : ((changed lo1 (H.drop lo1) (H1.drop lo1)).any (Nat.beq m) || Nat.ble H.length m) = false := hh
                  simp only [Bool.or_eq_false_iff] at hh
                  have hlt : m < H.length := by
                    rcases Nat.lt_or_ge m H.length with h5 | h5
                    · exact h5
                    · rw [Nat.ble_eq_true_of_le h5] at hh; cases hh.2
                  refine ⟨hlt, ?_⟩
                  rcases Nat.lt_or_ge m lo1 with h5 | h5
                  · exact k2.2.2 m h5
                  · have := changed_same (H.drop lo1) (H1.drop lo1) lo1 m h5 (by simp; omega) hh.1
                    rwa [List.getElem?_drop, List.getElem?_drop, show lo1 + (m - lo1) = m from by omega] at this⟩)
        · cases hc
        · cases hc
      · rename_i hnc
        split at hc
        · rename_i v H1 lo1 hs
          split at hc
          · rename_i c hf
            exact step v H1 _ c (kdOk_foot hf) hc (stepLo_sh (P := P) hs) (fun ops o => AWanted nt ops T.get o true) (fun ops o ho hw => by
              obtain ⟨_, d2, _⟩ := compEnt_spec ho
              rw [evO_eq] at hs hf
              exact stepA_rec (getD_bad d2 (fun hb => by rw [hb] at hs; rw [stepA_bad] at hs; cases hs)) (fun f as e => hnc f as e) hs hf hw)
          · cases hc
        · cases hc
    split at h
    · rename_i hg
      obtain ⟨k1, k3, k2⟩ := wanted h
      exact ⟨k1, k3, fun ops l hl => k2 ops l hl (fun o ho => (wanted_spec ho).1 hg)⟩
    · rename_i t w hg
      split at h
      · rename_i y hy
        cases hyw : (y == some w) with
        | true =>
          rw [hyw] at h
          simp only [cond_true] at h
          obtain ⟨k1, k3, k2⟩ := wanted h
          exact ⟨k1, k3, fun ops l hl => k2 ops l hl (fun o ho => by rw [← hyw]; exact (wanted_spec ho).2 t w y hg hy)⟩
        | false =>
          rw [hyw] at h
          simp only [cond_false] at h
          obtain ⟨k1, k3, k2⟩ := step _ _ _ _ (.inl rfl) h (fun H0 hs => hs) (fun ops o => AWanted nt ops T.get o false) (fun ops o ho hw => ⟨hw, rfl, rfl⟩)
          exact ⟨k1, k3, fun ops l hl => k2 ops l hl (fun o ho => by rw [← hyw]; exact (wanted_spec ho).2 t w y hg hy)⟩
      · cases h
end
end Go.Proofs.YtennhanlcbibaaaGreatDoor.Lb

/- Soundness of the interpreter: calls that only read what their arguments name. -/
namespace Go.Proofs.YtennhanlcbibaaaGreatDoor.Lb
open Go

/-- All that is in memory, and no object of its own. -/
def gAll (w : World) : G := { io := fun _ _ => none, im := fun b o => w.cell? ⟨b, o, none⟩ }

theorem gAll_inv (w : World) : Inv (gAll w) w [] := by
  refine ⟨?_, ?_, ?_, ?_, ?_, ?_, fun b o v h => h, ?_⟩
  · intro n k t h; cases h
  · intro n k t l h; cases h
  · intro n k t l h; cases h
  · intro n k o t h; cases h
  · intro n k b N h; cases h
  · intro n m k l b N M h; cases h
  · intro n k b N o h; cases h

theorem oneB_cells {ds : List AVal} (h : ds.all (·.scalar) = true) : (oneB ds).cells = ds := by
  unfold oneB
  split
  · rename_i d
    simp only [List.all_cons, List.all_nil, Bool.and_true] at h
    cases d <;> first | rfl | (simp [AVal.scalar] at h)
  · rfl

theorem elemB_spec {p : AVal → Option AVal} {cs : List AVal} {x : AVal} (h : elemB p cs = some x) : x.cells.length = cs.length ∧ (∀ (i : Nat) (d : AVal), x.cells[i]? = some d → d.scalar = true) ∧ ∀ (i : Nat) (c d : AVal), cs[i]? = some c → x.cells[i]? = some d → p c = some d := by
  unfold elemB at h
  split at h
  · rename_i ds hds
    cases hs : ds.all (·.scalar) with
    | false => rw [hs] at h; cases h
    | true =>
      rw [hs] at h
      simp only [cond_true, Option.some.injEq] at h
      subst h
      rw [oneB_cells hs]
      obtain ⟨k1, k2⟩ := mapO_spec _ _ hds
      exact ⟨k1, fun i d e => List.all_eq_true.1 hs d (List.mem_of_getElem? e), k2⟩
  · cases h

theorem chunksL_spec {sz : Nat} : ∀ (n : Nat) (cs : List AVal), n * sz ≤ cs.length → (chunksL sz n cs).length = n ∧ ∀ (j : Nat) (c : List AVal), (chunksL sz n cs)[j]? = some c → c.length = sz ∧ ∀ (i : Nat), i < sz → c[i]? = cs[j * sz + i]?
  | 0, cs, h => ⟨rfl, fun j c e => by simp [chunksL] at e⟩
  | n + 1, cs, h => by
    rw [Nat.add_mul, Nat.one_mul] at h
    obtain ⟨k1, k2⟩ := chunksL_spec (sz := sz) n (cs.drop sz) (by simp; omega)
    refine ⟨by simp [chunksL, k1], fun j c e => ?_⟩
    cases j with
    | zero =>
      simp only [chunksL, List.getElem?_cons_zero, Option.some.injEq] at e
      subst e
      refine ⟨by simp; omega, fun i hi => ?_⟩
      rw [List.getElem?_take, if_pos hi]; simp
    | succ j =>
      simp only [chunksL, List.getElem?_cons_succ] at e
      obtain ⟨e1, e2⟩ := k2 j c e
      refine ⟨e1, fun i hi => ?_⟩
      rw [e2 i hi, List.getElem?_drop]
      congr 1
      rw [Nat.add_mul, Nat.one_mul]; omega

theorem below_gAll {g : G} {w : World} {H : AHeap} (hi : Inv g w H) {a : AVal} {v : Value} {f : Nat} (hb : below 0 f a = true) (h : VRel g a v) : VRel (gAll w) a v :=
  h.of_below (m := 0) (fun n k t _ hn => absurd hn (Nat.not_lt_zero _)) (fun b o v e => hi.imm b o v e) (below_sound f a hb)

theorem frzB_sound {g : G} {w : World} {H : AHeap} (hi : Inv g w H) : ∀ (f : Nat) (a a' : AVal), frzB H f a = some a' → ∀ (v : Value), VRel g a v → VRel (gAll w) a' v := by
  intro f
  induction f with
  | zero => intro a a' h; cases h
  | succ f ih =>
    intro a a' h v hv
    have same : (bif below 0 f a then some a else none) = some a' → VRel (gAll w) a' v := fun h => by
      cases hb : below 0 f a with
      | false => rw [hb] at h; cases h
      | true =>
        rw [hb] at h
        simp only [cond_true, Option.some.injEq] at h
        subst h
        exact below_gAll hi hb hv
    unfold frzB at h
    split at h
    · -- a row
      rename_i n k sz off len
      split at h
      · rename_i sz' k' xs hH
        cases hc : (Nat.beq sz sz' && Nat.beq k k' && Nat.ble (off + len) xs.length) with
        | false => rw [hc] at h; cases h
        | true =>
          rw [hc] at h
          simp only [cond_true] at h
          simp only [Bool.and_eq_true] at hc
          obtain ⟨⟨c1, c2⟩, c3⟩ := hc
          have c1 := Nat.eq_of_beq_eq_true c1
          have c2 := Nat.eq_of_beq_eq_true c2
          have c3 := Nat.le_of_ble_eq_true c3
          subst c1 c2
          obtain ⟨zs, hzs, rfl⟩ := Option.map_eq_some_iff.1 h
          obtain ⟨m1, m2⟩ := mapO_spec _ _ hzs
          have hlen : zs.length = len := by rw [m1]; simp; omega
          cases hv with
          | rowNil _ _ _ h =>
            obtain rfl : zs = [] := List.eq_nil_of_length_eq_zero hlen
            exact .immNil _ _
          | rowEmpty _ _ _ _ b o t h =>
            obtain rfl : zs = [] := List.eq_nil_of_length_eq_zero hlen
            exact .imm sz [] false b o 0 (fun _ _ => undef) (Nat.le_refl _) (Nat.zero_le _) (by simp) (by simp) (by simp) (by simp)
          | row _ _ _ _ _ b N cap hio h1 h2 h3 =>
            obtain ⟨arr, t, r1, r2, r3, r4⟩ := row_cells hi hio hH
            have key : ∀ (j : Nat) (z : AVal), zs[j]? = some z → z.cells.length = sz ∧ ∀ (i : Nat) (d : AVal), z.cells[i]? = some d → d.scalar = true ∧ w.cell? ⟨b, off * sz + j * sz + i, none⟩ = some (arr.getD (off * sz + j * sz + i) undef) ∧ VRel (gAll w) d (arr.getD (off * sz + j * sz + i) undef) := by
              intro j z hz
              have hj : j < len := by rw [← hlen]; exact lt_of_getElem?_some hz
              obtain ⟨x, hx⟩ := getElem?_some_of_lt (l := (xs.drop off).take len) (i := j) (by simp; omega)
              have e := m2 j x z hx hz
              obtain ⟨q1, q2, q3⟩ := elemB_spec e
              rw [List.getElem?_take, if_pos hj, List.getElem?_drop] at hx
              obtain ⟨s1, s2⟩ := r4 _ x hx
              refine ⟨by rw [q1, s1], fun i d hd => ⟨q2 i d hd, ?_, ?_⟩⟩
              · have hi' : i < sz := by rw [← s1, ← q1]; exact lt_of_getElem?_some hd
                have : off * sz + j * sz + i < arr.size := by
                  rw [r2, ← Nat.add_mul]
                  exact mul_add_lt (by omega) hi'
                rw [cell_of_heap r1, Array.getElem?_eq_getElem this]
                simp [Array.getD, this]
              · have hi' : i < x.cells.length := by rw [← q1]; exact lt_of_getElem?_some hd
                obtain ⟨c, hc⟩ := getElem?_some_of_lt hi'
                have := ih c d (q3 i c d hc hd) _ (s2 i c hc).2
                rwa [Nat.add_mul] at this
            have := VRel.imm (g := gAll w) sz zs false b (off * sz) cap (fun j i => arr.getD (off * sz + j * sz + i) undef) (by omega) (by omega) (by simp) (fun j z hz => (key j z hz).1)
              (fun j z i d hz hd => ⟨((key j z hz).2 i d hd).1, ((key j z hz).2 i d hd).2.1⟩) (fun j z i d hz hd => ((key j z hz).2 i d hd).2.2)
            rwa [hlen] at this
      · cases h
    · -- a slice of a boxed array
      rename_i n sz off len
      split at h
      · rename_i x hH
        cases hc : Nat.ble ((off + len) * sz) x.cells.length with
        | false => rw [hc] at h; cases h
        | true =>
          rw [hc] at h
          simp only [cond_true] at h
          have hc := Nat.le_of_ble_eq_true hc
          obtain ⟨zs, hzs, rfl⟩ := Option.map_eq_some_iff.1 h
          obtain ⟨m1, m2⟩ := mapO_spec _ _ hzs
          rw [Nat.add_mul] at hc
          obtain ⟨p1, p2⟩ := chunksL_spec (sz := sz) len (x.cells.drop (off * sz)) (by simp; omega)
          have hlen : zs.length = len := by rw [m1, p1]
          cases hv with
          | browE _ _ _ b o N hio =>
            obtain rfl : zs = [] := List.eq_nil_of_length_eq_zero hlen
            exact .imm sz [] false b o 0 (fun _ _ => undef) (Nat.le_refl _) (Nat.zero_le _) (by simp) (by simp) (by simp) (by simp)
          | brow _ _ _ _ b N cap hio h1 h2 =>
            obtain ⟨arr, t, r1, r2, r3⟩ := box_cells hi hio hH
            have key : ∀ (j : Nat) (z : AVal), zs[j]? = some z → z.cells.length = sz ∧ ∀ (i : Nat) (d : AVal), z.cells[i]? = some d → d.scalar = true ∧ w.cell? ⟨b, off * sz + j * sz + i, none⟩ = some (arr.getD (off * sz + j * sz + i) undef) ∧ VRel (gAll w) d (arr.getD (off * sz + j * sz + i) undef) := by
              intro j z hz
              have hj : j < len := by rw [← hlen]; exact lt_of_getElem?_some hz
              obtain ⟨cs, hx⟩ := getElem?_some_of_lt (l := chunksL sz len (x.cells.drop (off * sz))) (i := j) (by rw [p1]; exact hj)
              have e := m2 j cs z hx hz
              obtain ⟨q1, q2, q3⟩ := elemB_spec e
              obtain ⟨s1, s2⟩ := p2 j cs hx
              refine ⟨by rw [q1, s1], fun i d hd => ?_⟩
              have hi' : i < sz := by rw [← s1, ← q1]; exact lt_of_getElem?_some hd
              obtain ⟨c, hc'⟩ := getElem?_some_of_lt (l := cs) (i := i) (by omega)
              have hxc := s2 i hi'
              rw [hc', List.getElem?_drop, ← Nat.add_assoc] at hxc
              obtain ⟨_, t2⟩ := r3 _ c hxc.symm
              refine ⟨q2 i d hd, ?_, ih c d (q3 i c d hc' hd) _ t2⟩
              have : off * sz + j * sz + i < arr.size := by rw [r2]; exact lt_of_getElem?_some hxc.symm
              rw [cell_of_heap r1, Array.getElem?_eq_getElem this]
              simp [Array.getD, this]
            have := VRel.imm (g := gAll w) sz zs false b (off * sz) cap (fun j i => arr.getD (off * sz + j * sz + i) undef) (by omega) h2 (by simp) (fun j z hz => (key j z hz).1)
              (fun j z i d hz hd => ⟨((key j z hz).2 i d hd).1, ((key j z hz).2 i d hd).2.1⟩) (fun j z i d hz hd => ((key j z hz).2 i d hd).2.2)
            rwa [hlen] at this
      · cases h
    · -- a box
      rename_i n off
      split at h
      · rename_i x hH
        obtain ⟨y, hy, rfl⟩ := Option.map_eq_some_iff.1 h
        obtain ⟨q1, q2, q3⟩ := elemB_spec hy
        cases hv with
        | ptr _ _ _ b N hio =>
          obtain ⟨arr, t, r1, r2, r3⟩ := box_cells hi hio hH
          have := VRel.iptr (g := gAll w) y off b 0 (fun i => arr.getD i undef) (fun i d hd => ⟨q2 i d hd, by
            have : i < arr.size := by rw [r2, ← q1]; exact lt_of_getElem?_some hd
            show w.cell? ⟨b, 0 + i, none⟩ = _
            rw [Nat.zero_add, cell_of_heap r1, Array.getElem?_eq_getElem this]
            simp [Array.getD, this]⟩) (fun i d hd => by
            obtain ⟨c, hc⟩ := getElem?_some_of_lt (l := x.cells) (i := i) (by rw [← q1]; exact lt_of_getElem?_some hd)
            exact ih c d (q3 i c d hc hd) _ (r3 i c hc).2)
          rwa [Nat.zero_add] at this
      · cases h
    · rename_i cs
      split at h
      · rename_i ds hds
        cases hs : ds.all (·.scalar) with
        | false => rw [hs] at h; cases h
        | true =>
          rw [hs] at h
          simp only [cond_true, Option.some.injEq] at h
          subst h
          obtain ⟨k1, k2⟩ := mapO_spec _ _ hds
          cases hv with
          | agg _ cs' h1 h2 h3 =>
            refine .agg ds cs' (h1.trans k1.symm) (fun i d e => List.all_eq_true.1 hs d (List.mem_of_getElem? e)) (fun i d e => ?_)
            obtain ⟨c, hc⟩ := getElem?_some_of_lt (l := cs) (i := i) (by rw [← k1]; exact lt_of_getElem?_some e)
            exact ih c d (k2 i c d hc e) _ (h3 i c hc)
      · cases h
    · rename_i g' a b
      split at h
      · rename_i a' b' ha hb
        injection h with h
        subst h
        obtain ⟨k1, k2⟩ := mapO_spec _ _ ha
        obtain ⟨l1, l2⟩ := mapO_spec _ _ hb
        cases hv with
        | fn _ _ _ fs cs h1 h2 h3 h4 =>
          refine .fn _ a' b' fs cs (h1.trans k1.symm) (h2.trans l1.symm) (fun i d e => ?_) (fun i d e => ?_)
          · obtain ⟨c, hc⟩ := getElem?_some_of_lt (l := a) (i := i) (by rw [← k1]; exact lt_of_getElem?_some e)
            exact ih c d (k2 i c d hc e) _ (h3 i c hc)
          · obtain ⟨c, hc⟩ := getElem?_some_of_lt (l := b) (i := i) (by rw [← l1]; exact lt_of_getElem?_some e)
            exact ih c d (l2 i c d hc e) _ (h4 i c hc)
      · cases h
    · rename_i t x
      obtain ⟨y, hy, rfl⟩ := Option.map_eq_some_iff.1 h
      cases hv with
      | iface _ _ v' h => exact .iface t y v' (ih x y hy _ h)
    · exact same h

theorem flatV_sound : ∀ (f : Nat) (a : AVal), flatV f a = true → ∀ (g g' : G) (v : Value), VRel g a v → VRel g' a v := by
  intro f
  induction f with
  | zero => intro a h; cases h
  | succ f ih =>
    intro a h g g' v hv
    have all : ∀ (l : List AVal), l.all (flatV f) = true → ∀ (i : Nat) (c : AVal) (u : Value), l[i]? = some c → VRel g c u → VRel g' c u := fun l hl i c u e hu => ih c (List.all_eq_true.1 hl c (List.mem_of_getElem? e)) g g' u hu
    unfold flatV at h
    split at h
    · cases hv; exact .bool _
    · cases hv; exact .int _ _
    · cases hv; exact .flt _ _
    · cases hv; exact .str _
    · cases hv; exact .nilPtr
    · cases hv; exact .nilS
    · cases hv with | empS b o cap h => exact .empS b o cap h
    · cases hv; exact .nilMap
    · cases hv; exact .nilFn
    · cases hv; exact .nilIface
    · exact .any v
    · cases hv with
      | immNil => exact .immNil _ _
      | imm _ _ _ b off cap vals h1 h2 h3 h4 h5 h6 => exact .imm _ _ _ b off cap vals h1 h2 h3 (by simp) (by simp) (by simp)
    · cases hv with | iface t x v' hx => exact .iface _ _ _ (ih _ h g g' _ hx)
    · cases hv with | agg cs cs' h1 h2 h3 => exact .agg _ _ h1 h2 (fun i c e => all _ h i c _ e (h3 i c e))
    · cases hv with | tuple cs cs' h1 h3 => exact .tuple _ _ h1 (fun i c e => all _ h i c _ e (h3 i c e))
    · cases h

/-- A call that reads what its arguments name, and hands back plain numbers. -/
theorem fn_borrow {P : Program} {f : FuncId} {args args' : List AVal} {v : AVal} {H : AHeap} (h : FnS P f args' [] v []) (ha : mapO (frzB H 40) args = some args') (hv : flatV 40 v = true) : FnS P f args H v H := by
  intro g w vs hi har cs
  obtain ⟨k1, k2⟩ := mapO_spec _ _ ha
  have har' : ARel (gAll w) args' vs := ⟨har.1.trans k1.symm, fun i d e => by
    obtain ⟨c, hc⟩ := getElem?_some_of_lt (l := args) (i := i) (by rw [← k1]; exact lt_of_getElem?_some e)
    exact frzB_sound hi 40 c d (k2 i c d hc e) _ (har.2 i c hc)⟩
  obtain ⟨g1, v', w', fr, i1, x1, r1, s1, hfr, hlv⟩ := h (gAll w) w vs (gAll_inv w) har' cs
  have old : ∀ b, b < w.heap.size → w'.heap[b]? = w.heap[b]? := fun b hb => x1.frame b hb (fun n k N e => by cases e)
  refine ⟨g, v', w', fr, ⟨hi.dom, hi.live, hi.genle, fun n k o t e ho hg => (hi.obj n k o t e ho hg).same_block (fun b hb => ?_), fun n k b N e => Nat.lt_of_lt_of_le (hi.lt n k b N e) x1.size, hi.inj, fun b o u e => ?_, hi.disj⟩,
    ⟨G.le.refl g, x1.size, x1.os, x1.tape, x1.output, fun b hb _ => old b hb, fun n k b N e => .inr ⟨n, k, N, e⟩, fun b o u e => .inl e, Nat.le_refl _, fun n k t e _ => ⟨k, t, e⟩⟩, flatV_sound 40 v hv g1 g v' r1, s1, hfr, hlv⟩
  · obtain ⟨b0, N⟩ := t
    simp only at hb
    subst hb
    exact old b (hi.lt n k b N e)
  · have h1 := hi.imm b o u e
    have hb : b < w.heap.size := by
      rcases Nat.lt_or_ge b w.heap.size with h | h
      · exact h
      · exfalso
        simp [World.cell?, Array.getElem?_eq_none h] at h1
    have h2 := old b hb
    simp only [World.cell?] at h1 ⊢
    rw [h2]; exact h1

theorem mapO_mono {p q : AVal → Option AVal} (hp : ∀ a b, p a = some b → q a = some b) : ∀ (l r : List AVal), mapO p l = some r → mapO q l = some r
  | [], r, h => h
  | a :: as, r, h => by
    simp only [mapO] at h ⊢
    split at h
    · rename_i b bs h1 h2
      rw [hp a b h1, mapO_mono hp as bs h2]; exact h
    · cases h

theorem mapO_mono' {α : Type} {p q : α → Option AVal} (hp : ∀ a b, p a = some b → q a = some b) : ∀ (l : List α) (r : List AVal), mapO p l = some r → mapO q l = some r
  | [], r, h => h
  | a :: as, r, h => by
    simp only [mapO] at h ⊢
    split at h
    · rename_i b bs h1 h2
      rw [hp a b h1, mapO_mono' hp as bs h2]; exact h
    · cases h

theorem elemB_mono {p q : AVal → Option AVal} (hp : ∀ a b, p a = some b → q a = some b) (cs : List AVal) (x : AVal) (h : elemB p cs = some x) : elemB q cs = some x := by
  unfold elemB at h ⊢
  split at h
  · rename_i ds hds; rw [mapO_mono hp _ _ hds]; exact h
  · cases h

theorem frzB_mono {H : AHeap} (L : AHeap) : ∀ (f : Nat) (a b : AVal), frzB H f a = some b → frzB (H ++ L) f a = some b := by
  intro f
  induction f with
  | zero => intro a b h; cases h
  | succ f ih =>
    intro a b h
    have get : ∀ (n : Nat) (o : AObj), H[n]? = some o → (H ++ L)[n]? = some o := fun n o e => by rw [List.getElem?_append_left (lt_of_getElem?_some e)]; exact e
    unfold frzB at h ⊢
    split at h
    · split at h
      · rename_i hH
        rw [get _ _ hH]
        simp only
        rename_i sz' k' xs _
        generalize (Nat.beq _ _ && Nat.beq _ _ && Nat.ble _ _) = c at h ⊢
        cases c with
        | false => cases h
        | true =>
          simp only [cond_true] at h ⊢
          obtain ⟨zs, hzs, e⟩ := Option.map_eq_some_iff.1 h
          rw [mapO_mono' (fun x y => elemB_mono ih x.cells y) _ _ hzs]
          exact congrArg some e
      · cases h
    · split at h
      · rename_i hH
        rw [get _ _ hH]
        simp only
        rename_i x _
        generalize Nat.ble _ _ = c at h ⊢
        cases c with
        | false => cases h
        | true =>
          simp only [cond_true] at h ⊢
          obtain ⟨zs, hzs, e⟩ := Option.map_eq_some_iff.1 h
          rw [mapO_mono' (fun x y => elemB_mono ih x y) _ _ hzs]
          exact congrArg some e
      · cases h
    · split at h
      · rename_i hH
        rw [get _ _ hH]
        simp only
        obtain ⟨y, hy, e⟩ := Option.map_eq_some_iff.1 h
        rw [elemB_mono ih _ _ hy]
        exact congrArg some e
      · cases h
    · split at h
      · rename_i ds hds
        rw [mapO_mono ih _ _ hds]; exact h
      · cases h
    · split at h
      · rename_i a' b' ha hb
        rw [mapO_mono ih _ _ ha, mapO_mono ih _ _ hb]; exact h
      · cases h
    · obtain ⟨y, hy, e⟩ := Option.map_eq_some_iff.1 h
      rw [ih _ _ hy]; exact congrArg some e
    · exact h

theorem fn_borrow_more {P : Program} {f : FuncId} {args args' : List AVal} {v : AVal} {H : AHeap} (h : FnS P f args' [] v []) (ha : mapO (frzB H 40) args = some args') (hv : flatV 40 v = true) (L : AHeap) : FnS P f args (H ++ L) v (H ++ L) :=
  fn_borrow h (mapO_mono (frzB_mono L 40) _ _ ha) hv
end Go.Proofs.YtennhanlcbibaaaGreatDoor.Lb

/- Soundness of the interpreter: functions, calls. -/
namespace Go.Proofs.YtennhanlcbibaaaGreatDoor.Lb
open Go

section
variable {P : Program} {K : Cfg} {n : Nat}

theorem Sh.kill {H H1 : AHeap} {lo : Nat} {D : List Nat} (h : Sh H H1 lo) (hd : DOk H [] D) : Sh H (killAll D H1) lo := by
  refine ⟨h.1, by rw [killAll_len]; exact h.2.1, fun m hm => ?_⟩
  rw [killAll_get D H1 m (fun d hd' => ?_)]
  · exact h.2.2 m hm
  · rcases hd d hd' with h1 | h1
    · cases h1
    · have := h.1; omega

theorem good_f (hC : GoodC P K n) : GoodF P K (n + 1) := by
  intro f args H v H' lo free h
  simp only [run] at h
  split at h
  · cases h
  · rename_i fn hfn
    split at h
    · rename_i c hok hbody hble
      obtain ⟨c0, hc0, hcomp⟩ := Option.bind_eq_some_iff.1 hbody
      have hlen : args.length ≤ fn.ntmps := Nat.le_of_ble_eq_true hble
      split at h
      · rename_i e T1 H1 D1 lo1 hrun
        obtain ⟨k1, k2, k3⟩ := hC _ _ _ _ _ _ _ _ _ _ _ hrun c0 hcomp
        rw [ofArgs_argT] at k1
        have main : ∀ (hne : ∀ id, e ≠ .exit id), (bif marks H1 D1 then
              let H2 := killAll D1 H1
              match resA fn T1 H2 P with
              | some v0 => bif K.keep.contains f then .val v0 H2 lo1 false else bif K.gc.contains f then compact H.length v0 H2 lo1 else fin H.length v0 H2 lo1
              | none => .fail "results"
            else .fail "marks") = Out.val v H' lo free → okFn P f = true ∧ FnS P f args H v H' ∧ Sh H H' lo ∧ free = false := by
          intro hne h
          cases hm : marks H1 D1 with
          | false => rw [hm] at h; cases h
          | true =>
            rw [hm] at h
            simp only [cond_true] at h
            split at h
            · rename_i v0 hres
              have hfin : Fin H v0 (killAll D1 H1) v H' ∧ Sh H H' lo ∧ free = false := by
                cases hk : K.keep.contains f with
                | true =>
                  rw [hk] at h
                  simp only [cond_true] at h
                  injection h with h1 h2 h3 h4
                  subst h1 h2 h3
                  exact ⟨.inl ⟨rfl, rfl⟩, k2.kill k3, h4.symm⟩
                | false =>
                  rw [hk] at h
                  simp only [cond_false] at h
                  cases hgc : K.gc.contains f with
                  | true => rw [hgc] at h; exact compact_sound (k2.kill k3) h
                  | false => rw [hgc] at h; exact fin_sound (k2.kill k3) h
              refine ⟨hok, fn_of_code hfn hc0 rfl hlen (code_mono k1 ?_), hfin.2⟩
              rintro e' T' H2 D' ⟨rfl, rfl, rfl, rfl⟩
              cases e' with
              | exit id => exact absurd rfl (hne id)
              | normal => exact ⟨v0, resA_sound hres, marks_sound _ hm, hfin.1⟩
              | ret => exact ⟨v0, resA_sound hres, marks_sound _ hm, hfin.1⟩
            · cases h
        cases e with
        | exit id => cases h
        | normal => exact main (fun id => by simp) h
        | ret => exact main (fun id => by simp) h
      · cases h
      · cases h
    · cases h

theorem fin_lo {m : Nat} {v0 v : AVal} {H1 H2 : AHeap} {lo lo' : Nat} {fr : Bool} (h : fin m v0 H1 lo = .val v H2 lo' fr) : lo' = lo := by
  unfold fin at h
  split at h
  · cases hb : ((H1.take m).drop lo).all (belowO m 40) <;> rw [hb] at h
    · simp only [cond_false] at h; injection h with _ _ h3 _; exact h3.symm
    · simp only [cond_true] at h; injection h with _ _ h3 _; exact h3.symm
  · injection h with _ _ h3 _; exact h3.symm

theorem ABelow.fn_args {m : Nat} {fn : Fn} {first cap args : List AVal} (hf : ABelow m (.fn fn first cap)) (ha : ∀ (i : Nat) (c : AVal), args[i]? = some c → ABelow m c) : ∀ (i : Nat) (c : AVal), (first ++ args ++ cap)[i]? = some c → ABelow m c := by
  intro i c e
  have hm := List.mem_of_getElem? e
  cases hf with
  | fn _ _ _ h1 h2 =>
    simp only [List.mem_append] at hm
    rcases hm with (hm | hm) | hm <;> obtain ⟨j, hj⟩ := List.getElem?_of_mem hm
    · exact h1 j c hj
    · exact ha j c hj
    · exact h2 j c hj

theorem Sh.set {H H1 : AHeap} {lo m : Nat} {o : AObj} (h : Sh H H1 lo) : Sh H (H1.set m o) (Nat.min m lo) :=
  ⟨Nat.le_trans (Nat.min_le_right _ _) h.1, by simp [h.2.1], fun k hk => by
    have h1 : k < m := Nat.lt_of_lt_of_le hk (Nat.min_le_left _ _)
    rw [List.getElem?_set_ne (by omega)]
    exact h.2.2 k (Nat.lt_of_lt_of_le hk (Nat.min_le_right _ _))⟩

theorem jump_eq (e : Ex) : jumpOf e = jump e := by cases e <;> rfl

/-- What is known of a closed call. -/
def Known (P : Program) (f : FuncId) (as : List AVal) (v : AVal) : Prop := okFn P f = true ∧ FnS P f as [] v [] ∧ ∀ (i : Nat) (c : AVal), as[i]? = some c → ABelow 0 c

def MemoOk (P : Program) (M : List (FuncId × List AVal × AVal)) : Prop := ∀ f as v, (f, as, v) ∈ M → Known P f as v

theorem findMemo_known {P : Program} {f : FuncId} {args : List AVal} {v : AVal} : ∀ (M : List (FuncId × List AVal × AVal)), MemoOk P M → findMemo f args M = some v → Known P f args v
  | [], _, h => by cases h
  | (g, as, u) :: M, hM, h => by
    simp only [findMemo] at h
    cases he : (Nat.beq g f && eqvL (eqv 40) as args) with
    | true =>
      rw [he] at h
      simp only [cond_true, Option.some.injEq] at h
      simp only [Bool.and_eq_true] at he
      have := hM g as u (by simp)
      rwa [Nat.eq_of_beq_eq_true he.1, eqvL_eq (eqv_eq 40) _ _ he.2, h] at this
    | false => rw [he] at h; exact findMemo_known M (fun f l v hm => hM f l v (List.mem_cons_of_mem _ hm)) h

theorem good_i (hM : MemoOk P K.memo) (hC : GoodC P K n) (hF : GoodF P K n) : GoodI P K (n + 1) := by
  intro fv args H v H' lo free h
  simp only [run] at h
  split at h
  · rename_i f first cap
    have plain : run P K n (.fn f (first ++ args ++ cap) H) = .val v H' lo free → InvS P (.fn (.func f) first cap) args H v H' ∧ Sh H H' lo ∧ (free = true → H' = H ∧ ∀ H2, InvS P (.fn (.func f) first cap) args H2 v H2) ∧
        (H.length ≤ lo → H'.length = H.length → (∀ (n : Nat) (o : AObj), H[n]? = some o → OBelow H.length o) → ABelow H.length (.fn (.func f) first cap) → (∀ (i : Nat) (c : AVal), args[i]? = some c → ABelow H.length c) → ∀ L, InvS P (.fn (.func f) first cap) args (H ++ L) v (H ++ L)) := by
      intro h
      obtain ⟨k1, k2, k3, rfl⟩ := hF _ _ _ _ _ _ _ h
      refine ⟨inv_of_fn k1 k2, k3, (fun e => by cases e), fun hlo hl hO hf ha L => ?_⟩
      have hHH := same_heap k3 hlo hl
      have := fn_frame k2 hl hO (ABelow.fn_args hf ha) L
      rw [hHH] at this
      exact inv_of_fn k1 this
    cases ho : K.opn.contains f with
    | true => rw [ho] at h; exact plain h
    | false =>
      rw [ho] at h
      simp only [cond_false] at h
      split at h
      · rename_i v1 hmemo
        injection h with h1 h2 h3 h4
        subst h1 h2 h3 h4
        obtain ⟨k1, k2, hA⟩ := findMemo_known _ hM hmemo
        have all : ∀ H2, InvS P (.fn (.func f) first cap) args H2 v1 H2 := fun H2 => inv_of_fn k1 (fn_closed k2 hA H2)
        exact ⟨all H, Sh.refl H, fun _ => ⟨rfl, all⟩, fun _ _ _ _ _ L => all (H ++ L)⟩
      · cases hcl : (first ++ args ++ cap).all (below 0 40) with
        | false =>
          rw [hcl] at h
          simp only [cond_false] at h
          have borrow : ∀ (args' : List AVal) (v1 : AVal), mapO (frzB H 40) (first ++ args ++ cap) = some args' → okFn P f = true → FnS P f args' [] v1 [] → flatV 40 v1 = true → Out.val v1 H H.length false = .val v H' lo free →
              InvS P (.fn (.func f) first cap) args H v H' ∧ Sh H H' lo ∧ (free = true → H' = H ∧ ∀ H2, InvS P (.fn (.func f) first cap) args H2 v H2) ∧
              (H.length ≤ lo → H'.length = H.length → (∀ (n : Nat) (o : AObj), H[n]? = some o → OBelow H.length o) → ABelow H.length (.fn (.func f) first cap) → (∀ (i : Nat) (c : AVal), args[i]? = some c → ABelow H.length c) → ∀ L, InvS P (.fn (.func f) first cap) args (H ++ L) v (H ++ L)) := by
            intro args' v1 ha hok hfn hfl h
            injection h with h1 h2 h3 h4
            subst h1 h2 h3 h4
            exact ⟨inv_of_fn hok (fn_borrow hfn ha hfl), Sh.refl H, (fun e => by cases e), fun _ _ _ _ _ L => inv_of_fn hok (fn_borrow_more hfn ha hfl L)⟩
          split at h
          · exact plain h
          · rename_i args' ha
            split at h
            · rename_i v1 hmemo
              obtain ⟨k1, k2, _⟩ := findMemo_known _ hM hmemo
              cases hfl : flatV 40 v1 with
              | false => rw [hfl] at h; exact plain h
              | true => rw [hfl] at h; exact borrow args' v1 ha k1 k2 hfl h
            · split at h
              · rename_i v1 lo1 fr1 hr
                obtain ⟨k1, k2, _, _⟩ := hF _ _ _ _ _ _ _ hr
                cases hfl : flatV 40 v1 with
                | false => rw [hfl] at h; exact plain h
                | true => rw [hfl] at h; exact borrow args' v1 ha k1 k2 hfl h
              · exact plain h
        | true =>
          rw [hcl] at h
          simp only [cond_true] at h
          have hA : ∀ (i : Nat) (c : AVal), (first ++ args ++ cap)[i]? = some c → ABelow 0 c := fun i c e => below_sound 40 c (List.all_eq_true.1 hcl c (List.mem_of_getElem? e))
          split at h
          · rename_i v1 lo1 fr1 hr
            injection h with h1 h2 h3 h4
            subst h1 h2 h3 h4
            obtain ⟨k1, k2, k3, _⟩ := hF _ _ _ _ _ _ _ hr
            have all : ∀ H2, InvS P (.fn (.func f) first cap) args H2 v1 H2 := fun H2 => inv_of_fn k1 (fn_closed k2 hA H2)
            exact ⟨all H, Sh.refl H, fun _ => ⟨rfl, all⟩, fun _ _ _ _ _ L => all (H ++ L)⟩
          · exact plain h
          · rename_i h1 h2
            exact absurd h (h2 _ _ _ _)
  · rename_i m
    split at h
    · rename_i L hL
      have hm := lt_of_getElem?_some hL
      split at h
      · rename_i ca cb hst hca hcb
        cases hp : Nat.beq L.params.size args.length with
        | false => rw [hp] at h; cases h
        | true =>
          rw [hp] at h
          simp only [cond_true] at h
          have hp := Nat.eq_of_beq_eq_true hp
          split at h
          · rename_i T1 H1 lo1 hr1
            obtain ⟨a1, a2, _⟩ := hC _ _ _ _ _ _ _ _ _ _ _ hr1 _ hca
            split at h
            · rename_i L1 hL1
              split at h
              · rename_i hst1
                split at h
                · rename_i e2 T2 H2 lo2 hr2
                  obtain ⟨b1, b2, _⟩ := hC _ _ _ _ _ _ _ _ _ _ _ hr2 _ hcb
                  split at h
                  · rename_i L2 hL2
                    have sh0 : Sh H H2 (Nat.min m (Nat.min lo1 lo2)) := by
                      refine ((a2.set (m := m) (o := .loop { L1 with st := .busy })).trans b2).weaken ?_
                      refine Nat.le_min.2 ⟨Nat.le_min.2 ⟨Nat.min_le_left _ _, ?_⟩, ?_⟩
                      · exact Nat.le_trans (Nat.min_le_right _ _) (Nat.min_le_left _ _)
                      · exact Nat.le_trans (Nat.min_le_right _ _) (Nat.min_le_right _ _)
                    have main : ∀ (hx : fin H.length (.bool (jump e2).isNone) (H2.set m (.loop { L2 with st := if (jump e2).isNone then .ready else .done, pending := jump e2 })) (Nat.min m (Nat.min lo1 lo2)) = .val v H' lo free), InvS P (.yld m) args H v H' ∧ Sh H H' lo ∧ (free = true → H' = H ∧ ∀ H2, InvS P (.yld m) args H2 v H2) ∧
                        (H.length ≤ lo → H'.length = H.length → (∀ (n : Nat) (o : AObj), H[n]? = some o → OBelow H.length o) → ABelow H.length (.yld m) → (∀ (i : Nat) (c : AVal), args[i]? = some c → ABelow H.length c) → ∀ L, InvS P (.yld m) args (H ++ L) v (H ++ L)) := by
                      intro hx
                      have sh1 : Sh H (H2.set m (.loop { L2 with st := if (jump e2).isNone then .ready else .done, pending := jump e2 })) (Nat.min m (Nat.min lo1 lo2)) := by
                        refine (sh0.set (m := m)).weaken ?_
                        exact Nat.le_min.2 ⟨Nat.min_le_left _ _, Nat.le_refl _⟩
                      obtain ⟨f1, f2, rfl⟩ := fin_sound sh1 hx
                      have flo := fin_lo hx
                      rw [roundTr_get] at a1
                      refine ⟨inv_yield hL hp (code_mono (Q := QE .normal T1 H1 []) a1 ?_), f2, (fun e => by cases e), fun hlo => ?_⟩
                      · rintro e T H0 D ⟨rfl, rfl, rfl, rfl⟩
                        refine ⟨trivial, rfl, L1, hL1, hst1, code_mono b1 ?_⟩
                        rintro e T H0 D ⟨rfl, rfl, rfl, rfl⟩
                        exact ⟨rfl, L2, hL2, f1⟩
                      · exfalso
                        have : lo ≤ m := by rw [flo]; exact Nat.min_le_left _ _
                        omega
                    cases e2 with
                    | normal => exact main h
                    | exit id => exact main h
                    | ret => exact main h
                  · cases h
                · cases h
                · cases h
              · cases h
            · cases h
          · cases h
          · cases h
      · cases h
    · cases h
  · cases h
end
end Go.Proofs.YtennhanlcbibaaaGreatDoor.Lb

/- Soundness of the interpreter: compiled code. -/
namespace Go.Proofs.YtennhanlcbibaaaGreatDoor.Lb
open Go

section
variable {P : Program} {K : Cfg} {n : Nat}

theorem comp_region {ops : Array Oper} {draw : Bool} {x : ACode} (h : (match compEnts P ops ops.toList with
    | some es => bif !draw then some (.reg es) else bif regS ops (masks ops) then some (.regD ((unord ops (masks ops)).filter fun p => mayHot es p.1 p.2) es) else none
    | none => none) = some x) : (∃ es, x = .reg es ∧ draw = false ∧ compEnts P ops ops.toList = some es) ∨ (∃ es, x = .regD ((unord ops (masks ops)).filter fun p => mayHot es p.1 p.2) es ∧ draw = true ∧ compEnts P ops ops.toList = some es ∧ regS ops (masks ops) = true) := by
  split at h
  · rename_i es he
    cases draw with
    | false => simp only [Bool.not_false, cond_true, Option.some.injEq] at h; exact .inl ⟨es, h.symm, rfl, he⟩
    | true =>
      simp only [Bool.not_true, cond_false] at h
      cases hr : regS ops (masks ops) with
      | false => rw [hr] at h; cases h
      | true => rw [hr] at h; simp only [cond_true, Option.some.injEq] at h; exact .inr ⟨es, h.symm, rfl, he, rfl⟩
  · cases h

theorem comp_seq {c0 : Code} {a b : ACode} (h : compile P c0 = some (.seq a b)) : ∃ x y, c0 = .seq x y ∧ compile P x = some a ∧ compile P y = some b := by
  cases c0
  case seq =>
    simp only [compile] at h
    split at h
    · rename_i h1 h2
      injection h with h; injection h with h3 h4; subst h3 h4
      exact ⟨_, _, rfl, h1, h2⟩
    · cases h
  case cond => simp only [compile] at h; split at h <;> cases h
  case block => simp only [compile] at h; obtain ⟨_, _, h⟩ := Option.map_eq_some_iff.1 h; cases h
  case scope => simp only [compile] at h; obtain ⟨_, _, h⟩ := Option.map_eq_some_iff.1 h; cases h
  case loop => simp only [compile] at h; obtain ⟨_, _, h⟩ := Option.map_eq_some_iff.1 h; cases h
  case region => simp only [compile] at h; rcases comp_region h with ⟨_, h, _⟩ | ⟨_, h, _⟩ <;> cases h
  all_goals (simp only [compile, Option.some.injEq, reduceCtorEq] at h)

theorem comp_cond {c0 : Code} {x : Operand} {a b : ACode} (h : compile P c0 = some (.cond x a b)) : ∃ u v, c0 = .cond x u v ∧ compile P u = some a ∧ compile P v = some b := by
  cases c0
  case seq => simp only [compile] at h; split at h <;> cases h
  case cond =>
    simp only [compile] at h
    split at h
    · rename_i h1 h2
      injection h with h; injection h with h3 h4 h5; subst h3 h4 h5
      exact ⟨_, _, rfl, h1, h2⟩
    · cases h
  case block => simp only [compile] at h; obtain ⟨_, _, h⟩ := Option.map_eq_some_iff.1 h; cases h
  case scope => simp only [compile] at h; obtain ⟨_, _, h⟩ := Option.map_eq_some_iff.1 h; cases h
  case loop => simp only [compile] at h; obtain ⟨_, _, h⟩ := Option.map_eq_some_iff.1 h; cases h
  case region => simp only [compile] at h; rcases comp_region h with ⟨_, h, _⟩ | ⟨_, h, _⟩ <;> cases h
  all_goals (simp only [compile, Option.some.injEq, reduceCtorEq] at h)

theorem comp_block {c0 : Code} {id : Nat} {a : ACode} (h : compile P c0 = some (.block id a)) : ∃ x, c0 = .block id x ∧ compile P x = some a := by
  cases c0
  case seq => simp only [compile] at h; split at h <;> cases h
  case cond => simp only [compile] at h; split at h <;> cases h
  case block => simp only [compile] at h; obtain ⟨_, h1, h⟩ := Option.map_eq_some_iff.1 h; injection h with h2 h3; subst h2 h3; exact ⟨_, rfl, h1⟩
  case scope => simp only [compile] at h; obtain ⟨_, _, h⟩ := Option.map_eq_some_iff.1 h; cases h
  case loop => simp only [compile] at h; obtain ⟨_, _, h⟩ := Option.map_eq_some_iff.1 h; cases h
  case region => simp only [compile] at h; rcases comp_region h with ⟨_, h, _⟩ | ⟨_, h, _⟩ <;> cases h
  all_goals (simp only [compile, Option.some.injEq, reduceCtorEq] at h)

theorem comp_scope {c0 : Code} {a : ACode} (h : compile P c0 = some (.scope a)) : ∃ x, c0 = .scope x ∧ compile P x = some a := by
  cases c0
  case seq => simp only [compile] at h; split at h <;> cases h
  case cond => simp only [compile] at h; split at h <;> cases h
  case block => simp only [compile] at h; obtain ⟨_, _, h⟩ := Option.map_eq_some_iff.1 h; cases h
  case scope => simp only [compile] at h; obtain ⟨_, h1, h⟩ := Option.map_eq_some_iff.1 h; injection h with h2; subst h2; exact ⟨_, rfl, h1⟩
  case loop => simp only [compile] at h; obtain ⟨_, _, h⟩ := Option.map_eq_some_iff.1 h; cases h
  case region => simp only [compile] at h; rcases comp_region h with ⟨_, h, _⟩ | ⟨_, h, _⟩ <;> cases h
  all_goals (simp only [compile, Option.some.injEq, reduceCtorEq] at h)

theorem comp_loop {c0 : Code} {a : ACode} (h : compile P c0 = some (.loop a)) : ∃ x, c0 = .loop x ∧ compile P x = some a := by
  cases c0
  case seq => simp only [compile] at h; split at h <;> cases h
  case cond => simp only [compile] at h; split at h <;> cases h
  case block => simp only [compile] at h; obtain ⟨_, _, h⟩ := Option.map_eq_some_iff.1 h; cases h
  case scope => simp only [compile] at h; obtain ⟨_, _, h⟩ := Option.map_eq_some_iff.1 h; cases h
  case loop => simp only [compile] at h; obtain ⟨_, h1, h⟩ := Option.map_eq_some_iff.1 h; injection h with h2; subst h2; exact ⟨_, rfl, h1⟩
  case region => simp only [compile] at h; rcases comp_region h with ⟨_, h, _⟩ | ⟨_, h, _⟩ <;> cases h
  all_goals (simp only [compile, Option.some.injEq, reduceCtorEq] at h)

theorem comp_reg {c0 : Code} {es : List AEnt} (h : compile P c0 = some (.reg es)) : ∃ id ops, c0 = .region id ops false ∧ compEnts P ops ops.toList = some es := by
  cases c0
  case seq => simp only [compile] at h; split at h <;> cases h
  case cond => simp only [compile] at h; split at h <;> cases h
  case block => simp only [compile] at h; obtain ⟨_, _, h⟩ := Option.map_eq_some_iff.1 h; cases h
  case scope => simp only [compile] at h; obtain ⟨_, _, h⟩ := Option.map_eq_some_iff.1 h; cases h
  case loop => simp only [compile] at h; obtain ⟨_, _, h⟩ := Option.map_eq_some_iff.1 h; cases h
  case region =>
    simp only [compile] at h
    rcases comp_region h with ⟨_, h, hd, he⟩ | ⟨_, h, _⟩
    · injection h with h; subst h hd; exact ⟨_, _, rfl, he⟩
    · cases h
  all_goals (simp only [compile, Option.some.injEq, reduceCtorEq] at h)

theorem comp_regD {c0 : Code} {ps : List (Nat × Nat)} {es : List AEnt} (h : compile P c0 = some (.regD ps es)) : ∃ id ops, c0 = .region id ops true ∧ compEnts P ops ops.toList = some es ∧ regS ops (masks ops) = true ∧ ps = (unord ops (masks ops)).filter fun p => mayHot es p.1 p.2 := by
  cases c0
  case seq => simp only [compile] at h; split at h <;> cases h
  case cond => simp only [compile] at h; split at h <;> cases h
  case block => simp only [compile] at h; obtain ⟨_, _, h⟩ := Option.map_eq_some_iff.1 h; cases h
  case scope => simp only [compile] at h; obtain ⟨_, _, h⟩ := Option.map_eq_some_iff.1 h; cases h
  case loop => simp only [compile] at h; obtain ⟨_, _, h⟩ := Option.map_eq_some_iff.1 h; cases h
  case region =>
    simp only [compile] at h
    rcases comp_region h with ⟨_, h, _⟩ | ⟨_, h, hd, he, hr⟩
    · cases h
    · injection h with h1 h2; subst h1 h2 hd; exact ⟨_, _, rfl, he, hr, rfl⟩
  all_goals (simp only [compile, Option.some.injEq, reduceCtorEq] at h)

theorem comp_range {c0 : Code} {f : Operand} {params : Array Tmp} {as body : Code} (h : compile P c0 = some (.range f params as body)) : c0 = .rangeFunc f params as body := by
  cases c0
  case seq => simp only [compile] at h; split at h <;> cases h
  case cond => simp only [compile] at h; split at h <;> cases h
  case block => simp only [compile] at h; obtain ⟨_, _, h⟩ := Option.map_eq_some_iff.1 h; cases h
  case scope => simp only [compile] at h; obtain ⟨_, _, h⟩ := Option.map_eq_some_iff.1 h; cases h
  case loop => simp only [compile] at h; obtain ⟨_, _, h⟩ := Option.map_eq_some_iff.1 h; cases h
  case region => simp only [compile] at h; rcases comp_region h with ⟨_, h, _⟩ | ⟨_, h, _⟩ <;> cases h
  case rangeFunc => simp only [compile] at h; injection h with h; injection h with h1 h2 h3 h4; subst h1 h2 h3 h4; rfl
  all_goals (simp only [compile, Option.some.injEq, reduceCtorEq] at h)

theorem comp_exit {c0 : Code} {id : Nat} (h : compile P c0 = some (.exit id)) : c0 = .exit id := by
  cases c0
  case seq => simp only [compile] at h; split at h <;> cases h
  case cond => simp only [compile] at h; split at h <;> cases h
  case block => simp only [compile] at h; obtain ⟨_, _, h⟩ := Option.map_eq_some_iff.1 h; cases h
  case scope => simp only [compile] at h; obtain ⟨_, _, h⟩ := Option.map_eq_some_iff.1 h; cases h
  case loop => simp only [compile] at h; obtain ⟨_, _, h⟩ := Option.map_eq_some_iff.1 h; cases h
  case region => simp only [compile] at h; rcases comp_region h with ⟨_, h, _⟩ | ⟨_, h, _⟩ <;> cases h
  case exit => simp only [compile] at h; injection h with h; injection h with h; subst h; rfl
  all_goals (simp only [compile, Option.some.injEq, reduceCtorEq] at h)

theorem comp_ret {c0 : Code} (h : compile P c0 = some .ret) : c0 = .ret := by
  cases c0
  case seq => simp only [compile] at h; split at h <;> cases h
  case cond => simp only [compile] at h; split at h <;> cases h
  case block => simp only [compile] at h; obtain ⟨_, _, h⟩ := Option.map_eq_some_iff.1 h; cases h
  case scope => simp only [compile] at h; obtain ⟨_, _, h⟩ := Option.map_eq_some_iff.1 h; cases h
  case loop => simp only [compile] at h; obtain ⟨_, _, h⟩ := Option.map_eq_some_iff.1 h; cases h
  case region => simp only [compile] at h; rcases comp_region h with ⟨_, h, _⟩ | ⟨_, h, _⟩ <;> cases h
  case ret => rfl
  all_goals (simp only [compile, Option.some.injEq, reduceCtorEq] at h)

theorem comp_skip {c0 : Code} (h : compile P c0 = some .skip) : c0 = .skip ∨ ∃ l, c0 = .label l := by
  cases c0
  case seq => simp only [compile] at h; split at h <;> cases h
  case cond => simp only [compile] at h; split at h <;> cases h
  case block => simp only [compile] at h; obtain ⟨_, _, h⟩ := Option.map_eq_some_iff.1 h; cases h
  case scope => simp only [compile] at h; obtain ⟨_, _, h⟩ := Option.map_eq_some_iff.1 h; cases h
  case loop => simp only [compile] at h; obtain ⟨_, _, h⟩ := Option.map_eq_some_iff.1 h; cases h
  case region => simp only [compile] at h; rcases comp_region h with ⟨_, h, _⟩ | ⟨_, h, _⟩ <;> cases h
  case skip => exact .inl rfl
  case label => exact .inr ⟨_, rfl⟩
  all_goals (simp only [compile, Option.some.injEq, reduceCtorEq] at h)

end
end Go.Proofs.YtennhanlcbibaaaGreatDoor.Lb

/- Soundness of the interpreter: code, and all of it. -/
namespace Go.Proofs.YtennhanlcbibaaaGreatDoor.Lb
open Go

section
variable {P : Program} {K : Cfg} {n : Nat}

theorem good_l (hC : GoodC P K n) (hL : GoodL P K n) : GoodL P K (n + 1) := by
  intro nt r c T H D e T' H' D' lo h c0 hc
  simp only [run] at h
  split at h
  · rename_i T1 H1 D1 lo1 h1
    obtain ⟨a1, a2, a3⟩ := hC _ _ _ _ _ _ _ _ _ _ _ h1 c0 hc
    split at h
    · rename_i e2 T2 H2 D2 lo2 h2
      injection h with e1 e3 e4 e5 e6
      subst e1 e3 e4 e5 e6
      obtain ⟨b1, b2, b3⟩ := hL _ _ _ _ _ _ _ _ _ _ _ h2 c0 hc
      refine ⟨loop_round (code_mono a1 ?_), a2.trans b2, a3.trans b3 a2.2.1⟩
      rintro e T H D ⟨rfl, rfl, rfl, rfl⟩
      exact b1
    · rename_i hne
      exact absurd h (hne _ _ _ _ _)
  · rename_i hne
    obtain ⟨a1, a2, a3⟩ := hC _ _ _ _ _ _ _ _ _ _ _ h c0 hc
    refine ⟨loop_round (code_mono a1 ?_), a2, a3⟩
    rintro e0 T0 H0 D0 ⟨rfl, rfl, rfl, rfl⟩
    cases e0 with
    | normal => exact absurd h (hne _ _ _ _)
    | exit id => exact ⟨rfl, rfl, rfl, rfl⟩
    | ret => exact ⟨rfl, rfl, rfl, rfl⟩

theorem KdL_get : ∀ {es : List AEnt} {cs : List Cls}, KdL es cs → ∀ (i : Nat) (e : AEnt), es[i]? = some e → kdOk e.op (cs.getD i .skip)
  | [], [], _, i, e, h => by simp at h
  | [], _ :: _, hk, i, e, h => hk.elim
  | _ :: _, [], hk, i, e, h => hk.elim
  | e0 :: es, c :: cs, hk, i, e, h => by
    cases i with
    | zero => simp at h; subst h; exact hk.1
    | succ i => simpa using KdL_get hk.2 i e (by simpa using h)

theorem hot_cold {o o' : AOp} {c c' : Cls} (h : kdOk o c) (h' : kdOk o' c') (k : o.hotK = false) (k' : o'.hotK = false) : hot c c' = false := by
  unfold kdOk at h h'
  unfold AOp.hotK at k k'
  have cold : ∀ {o : AOp} {c : Cls}, (c = .skip ∨ match o.kd with
      | .n => c = .n
      | .r => ∃ R, c = .r R
      | _ => True) → (match o.kd with
      | .a | .w => true
      | _ => false) = false → c = .skip ∨ c = .n ∨ ∃ R, c = .r R := fun {o c} h k => by
    rcases h with h | h
    · exact .inl h
    · cases hk : o.kd <;> rw [hk] at h k
      · exact .inr (.inl h)
      · exact .inr (.inr h)
      · cases k
      · cases k
  rcases cold h k with rfl | rfl | ⟨R, rfl⟩ <;> rcases cold h' k' with rfl | rfl | ⟨R', rfl⟩ <;> rfl

theorem regC_all {es : List AEnt} {cs : List Cls} {ps : List (Nat × Nat)} (hk : KdL es cs) (h : regC (ps.filter fun p => mayHot es p.1 p.2) cs = true) : regC ps cs = true := by
  unfold regC at h ⊢
  rw [List.all_eq_true] at h ⊢
  intro p hp
  cases hm : mayHot es p.1 p.2 with
  | true => exact h p (List.mem_filter.2 ⟨hp, hm⟩)
  | false =>
    obtain ⟨j, i⟩ := p
    simp only [mayHot, Bool.or_eq_false_iff] at hm
    obtain ⟨h1, h2⟩ := hm
    split at h1
    · rename_i ej hj
      split at h2
      · rename_i ei hi
        simp only
        rw [hot_cold (KdL_get hk j ej hj) (KdL_get hk i ei hi) h1 h2]; rfl
      · cases h2
    · cases h1

theorem good_c (hm : P.follows .mixedOrders = true) (hC : GoodC P K n) (hL : GoodL P K (n + 1)) (hE : GoodE P K n) (hD : GoodD P K n) (hI : GoodI P K n) : GoodC P K (n + 1) := by
  intro nt r c T H D e T' H' D' lo h c0 hc
  cases c with
  | skip =>
    simp only [run] at h
    injection h with e1 e2 e3 e4 e5
    subst e1 e2 e3 e4 e5
    refine ⟨?_, Sh.refl H, DOk.refl H D⟩
    rcases comp_skip hc with rfl | ⟨l, rfl⟩
    · exact code_skip ⟨rfl, rfl, rfl, rfl⟩
    · exact code_label ⟨rfl, rfl, rfl, rfl⟩
  | exit id =>
    simp only [run] at h
    injection h with e1 e2 e3 e4 e5
    subst e1 e2 e3 e4 e5
    rw [comp_exit hc]
    exact ⟨code_exit ⟨rfl, rfl, rfl, rfl⟩, Sh.refl H, DOk.refl H D⟩
  | ret =>
    simp only [run] at h
    injection h with e1 e2 e3 e4 e5
    subst e1 e2 e3 e4 e5
    rw [comp_ret hc]
    exact ⟨code_ret ⟨rfl, rfl, rfl, rfl⟩, Sh.refl H, DOk.refl H D⟩
  | seq a b =>
    obtain ⟨x, y, rfl, hx, hy⟩ := comp_seq hc
    simp only [run] at h
    split at h
    · rename_i T1 H1 D1 lo1 h1
      obtain ⟨a1, a2, a3⟩ := hC _ _ _ _ _ _ _ _ _ _ _ h1 _ hx
      split at h
      · rename_i e2 T2 H2 D2 lo2 h2
        injection h with e1 e3 e4 e5 e6
        subst e1 e3 e4 e5 e6
        obtain ⟨b1, b2, b3⟩ := hC _ _ _ _ _ _ _ _ _ _ _ h2 _ hy
        refine ⟨code_seq (code_mono a1 ?_), a2.trans b2, a3.trans b3 a2.2.1⟩
        rintro e T H D ⟨rfl, rfl, rfl, rfl⟩
        exact b1
      · rename_i hne
        exact absurd h (hne _ _ _ _ _)
    · rename_i hne
      obtain ⟨a1, a2, a3⟩ := hC _ _ _ _ _ _ _ _ _ _ _ h _ hx
      refine ⟨code_seq (code_mono a1 ?_), a2, a3⟩
      rintro e0 T0 H0 D0 ⟨rfl, rfl, rfl, rfl⟩
      cases e0 with
      | normal => exact absurd h (hne _ _ _ _)
      | exit id => exact ⟨rfl, rfl, rfl, rfl⟩
      | ret => exact ⟨rfl, rfl, rfl, rfl⟩
  | cond x a b =>
    obtain ⟨u, v, rfl, hu, hv⟩ := comp_cond hc
    simp only [run] at h
    split at h
    · rename_i hx
      rw [evO_eq] at hx
      obtain ⟨a1, a2, a3⟩ := hC _ _ _ _ _ _ _ _ _ _ _ h _ hu
      exact ⟨code_cond hx (fun _ => a1) (fun e => by cases e), a2, a3⟩
    · rename_i hx
      rw [evO_eq] at hx
      obtain ⟨a1, a2, a3⟩ := hC _ _ _ _ _ _ _ _ _ _ _ h _ hv
      exact ⟨code_cond hx (fun e => by cases e) (fun _ => a1), a2, a3⟩
    · cases h
  | block id a =>
    obtain ⟨x, rfl, hx⟩ := comp_block hc
    simp only [run] at h
    split at h
    · rename_i i T1 H1 D1 lo1 h1
      obtain ⟨a1, a2, a3⟩ := hC _ _ _ _ _ _ _ _ _ _ _ h1 _ hx
      cases hi : Nat.beq i id with
      | true =>
        rw [hi] at h
        simp only [cond_true] at h
        injection h with e1 e3 e4 e5 e6
        subst e1 e3 e4 e5 e6
        refine ⟨code_block (code_mono a1 ?_), a2, a3⟩
        rintro e T H D ⟨rfl, rfl, rfl, rfl⟩
        simp only [InBlock, if_pos (Nat.eq_of_beq_eq_true hi)]
        exact ⟨rfl, rfl, rfl, rfl⟩
      | false =>
        rw [hi] at h
        simp only [cond_false] at h
        injection h with e1 e3 e4 e5 e6
        subst e1 e3 e4 e5 e6
        refine ⟨code_block (code_mono a1 ?_), a2, a3⟩
        rintro e T H D ⟨rfl, rfl, rfl, rfl⟩
        have : i ≠ id := fun e => by rw [e, Nat.beq_refl] at hi; cases hi
        simp only [InBlock, if_neg this]
        exact ⟨rfl, rfl, rfl, rfl⟩
    · rename_i hne
      obtain ⟨a1, a2, a3⟩ := hC _ _ _ _ _ _ _ _ _ _ _ h _ hx
      refine ⟨code_block (code_mono a1 ?_), a2, a3⟩
      rintro e0 T0 H0 D0 ⟨rfl, rfl, rfl, rfl⟩
      cases e0 with
      | normal => exact ⟨rfl, rfl, rfl, rfl⟩
      | exit id => exact absurd h (hne _ _ _ _ _)
      | ret => exact ⟨rfl, rfl, rfl, rfl⟩
  | scope a =>
    obtain ⟨x, rfl, hx⟩ := comp_scope hc
    simp only [run] at h
    obtain ⟨a1, a2, a3⟩ := hC _ _ _ _ _ _ _ _ _ _ _ h _ hx
    exact ⟨code_scope a1, a2, a3⟩
  | loop a =>
    obtain ⟨x, rfl, hx⟩ := comp_loop hc
    obtain ⟨a1, a2, a3⟩ := hL _ _ _ _ _ _ _ _ _ _ _ h _ hx
    exact ⟨code_loop a1, a2, a3⟩
  | reg es =>
    obtain ⟨id, ops, rfl, hes⟩ := comp_reg hc
    simp only [run] at h
    split at h
    · rename_i e1 T1 H1 D1 lo1 h1
      injection h with f1 f3 f4 f5 f6
      subst f1 f3 f4 f5 f6
      obtain ⟨k1, k2⟩ := hE _ _ _ _ _ _ _ _ _ _ h1
      have k := k2 ops ops.toList r hes
      have ho : ops = ops.toList.toArray := by simp
      refine ⟨?_, k1 H (Sh.refl H), DOk.refl H D⟩
      have : OpsL P nt r ops.toList.toArray ops.toList T.get H (fun T H => QE .normal T1 H1 D .normal T H D) := by
        rw [← ho]
        intro k0 hk g a w hi ht b k' cs hr
        obtain ⟨T2, H2, g2, a2, w2, ⟨rfl, rfl⟩, rest⟩ := k k0 hk g a w hi ht b k' cs hr
        exact ⟨_, _, g2, a2, w2, ⟨rfl, rfl, rfl, rfl⟩, rest⟩
      have := code_region (id := id) (Q := QE .normal T1 H1 D) this
      rwa [← ho] at this
    · rename_i hne
      cases es <;> exact absurd h (hne _ _ _ _ _)
  | regD ps es =>
    obtain ⟨id, ops, rfl, hes, hrs, rfl⟩ := comp_regD hc
    simp only [run] at h
    split at h
    · rename_i T1 H1 lo1 acc h1
      cases hrc : regC ((unord ops (masks ops)).filter fun p => mayHot es p.1 p.2) acc with
      | false => rw [hrc] at h; cases h
      | true =>
        rw [hrc] at h
        simp only [cond_true] at h
        injection h with f1 f3 f4 f5 f6
        subst f1 f3 f4 f5 f6
        obtain ⟨k1, ⟨cls, hcls, hkl⟩, k2⟩ := hD _ _ _ _ _ _ _ _ _ _ h1
        simp only [List.reverse_nil, List.nil_append] at hcls
        subst hcls
        have hrc := regC_all hkl hrc
        obtain ⟨tr, t1, t2⟩ := k2 ops ops.toList hes
        simp only [List.reverse_nil, List.nil_append] at t2
        subst t2
        exact ⟨code_draw hm t1 (regB_of hrs hrc) ⟨rfl, rfl, rfl, rfl⟩, k1 H (Sh.refl H), DOk.refl H D⟩
    · cases h
    · cases h
  | bad => simp only [run] at h; cases h
  | range f params asg body =>
    have hcr := comp_range hc
    subst hcr
    cases r with
    | none =>
      simp only [run, cond_true] at h
      split at h
      · rename_i rv H2 lo1 free h1
        obtain ⟨k1, k2, _, _⟩ := hI _ _ _ _ _ _ _ h1
        split at h
        · rename_i L2 hL2
          have sh : Sh H (H2.set (H.length + 1) .dead) (Nat.min H.length lo1) := by
            refine ⟨Nat.min_le_left _ _, ?_, fun m hm => ?_⟩
            · have := k2.2.1; simp at this ⊢; omega
            · have h1 : m < H.length := Nat.lt_of_lt_of_le hm (Nat.min_le_left _ _)
              rw [List.getElem?_set_ne (by omega), k2.2.2 m (Nat.lt_of_lt_of_le hm (Nat.min_le_right _ _)), List.getElem?_append_left h1]
          have dok : DOk H D (H.length :: D) := fun d hd => by
            rcases List.mem_cons.1 hd with rfl | hd
            · exact .inr (Nat.le_refl _)
            · exact .inl hd
          rw [evO_eq] at k1
          have k1' : InvS P (aeval nt T.get f) [.yld (H.length + 1)] (H ++ [.defd] ++ [.loop { st := .ready, pending := none, tr := T, nt := nt, params := params, assign := asg, body := body }]) rv H2 := by
            simpa [List.append_assoc] using k1
          split at h
          · cases h
          · rename_i hst
            split at h
            · rename_i hp
              injection h with f1 f3 f4 f5 f6
              subst f1 f3 f4 f5 f6
              exact ⟨code_range rfl k1' hL2 ⟨hst, by rw [hp]; exact ⟨rfl, rfl, rfl, rfl⟩⟩, sh, dok⟩
            · rename_i hp
              injection h with f1 f3 f4 f5 f6
              subst f1 f3 f4 f5 f6
              exact ⟨code_range rfl k1' hL2 ⟨hst, by rw [hp]; exact ⟨rfl, rfl, rfl, rfl⟩⟩, sh, dok⟩
            · rename_i id hp
              injection h with f1 f3 f4 f5 f6
              subst f1 f3 f4 f5 f6
              exact ⟨code_range rfl k1' hL2 ⟨hst, by rw [hp]; exact ⟨rfl, rfl, rfl, rfl⟩⟩, sh, dok⟩
            · cases h
        · cases h
      · cases h
      · cases h
    | some n0 =>
      simp only [run] at h
      split at h
      · rename_i L0 hL0
        simp only [cond_true] at h
        split at h
        · rename_i rv H2 lo1 free h1
          obtain ⟨k1, k2, _, _⟩ := hI _ _ _ _ _ _ _ h1
          split at h
          · rename_i L2 hL2
            have sh : Sh H (H2.set H.length .dead) (Nat.min H.length lo1) := by
              refine ⟨Nat.min_le_left _ _, ?_, fun m hm => ?_⟩
              · have := k2.2.1; simp at this ⊢; omega
              · have h1 : m < H.length := Nat.lt_of_lt_of_le hm (Nat.min_le_left _ _)
                rw [List.getElem?_set_ne (by omega), k2.2.2 m (Nat.lt_of_lt_of_le hm (Nat.min_le_right _ _)), List.getElem?_append_left h1]
            rw [evO_eq] at k1
            split at h
            · cases h
            · rename_i hst
              split at h
              · rename_i hp
                injection h with f1 f3 f4 f5 f6
                subst f1 f3 f4 f5 f6
                exact ⟨code_range_in rfl hL0 k1 hL2 ⟨hst, by rw [hp]; exact ⟨rfl, rfl, rfl, rfl⟩⟩, sh, DOk.refl H D⟩
              · rename_i hp
                injection h with f1 f3 f4 f5 f6
                subst f1 f3 f4 f5 f6
                exact ⟨code_range_in rfl hL0 k1 hL2 ⟨hst, by rw [hp]; exact ⟨rfl, rfl, rfl, rfl⟩⟩, sh, DOk.refl H D⟩
              · rename_i id hp
                injection h with f1 f3 f4 f5 f6
                subst f1 f3 f4 f5 f6
                exact ⟨code_range_in rfl hL0 k1 hL2 ⟨hst, by rw [hp]; exact ⟨rfl, rfl, rfl, rfl⟩⟩, sh, DOk.refl H D⟩
              · cases h
          · cases h
        · cases h
        · cases h
      · cases h

structure Good (P : Program) (K : Cfg) (n : Nat) : Prop where
  c : GoodC P K n
  l : GoodL P K n
  e : GoodE P K n
  d : GoodD P K n
  i : GoodI P K n
  f : GoodF P K n

theorem good (hm : P.follows .mixedOrders = true) (hM : MemoOk P K.memo) : ∀ n, Good P K n
  | 0 => ⟨(fun _ _ _ _ _ _ _ _ _ _ _ h => by simp only [run] at h; cases h), (fun _ _ _ _ _ _ _ _ _ _ _ h => by simp only [run] at h; cases h), (fun _ _ _ _ _ _ _ _ _ _ h => by simp only [run] at h; cases h), (fun _ _ _ _ _ _ _ _ _ _ h => by simp only [run] at h; cases h), (fun _ _ _ _ _ _ _ h => by simp only [run] at h; cases h), (fun _ _ _ _ _ _ _ h => by simp only [run] at h; cases h)⟩
  | n + 1 => by
    have ih := good hm hM n
    have hl := good_l ih.c ih.l
    exact ⟨good_c hm ih.c hl ih.e ih.d ih.i, hl, good_e ih.i ih.e, good_d ih.i ih.d, good_i hM ih.c ih.f, good_f ih.c⟩

/-- What the interpreter finds of a function holds. -/
theorem run_fn (hm : P.follows .mixedOrders = true) (hM : MemoOk P K.memo) {m : Nat} {f : FuncId} {args : List AVal} {H : AHeap} {v : AVal} {H' : AHeap} {lo : Nat} {free : Bool} (h : run P K m (.fn f args H) = .val v H' lo free) : FnS P f args H v H' :=
  ((good hm hM m).f _ _ _ _ _ _ _ h).2.1

/-- A closed call comes to a value, and this is checked by running it. -/
def isCall (P : Program) (K : Cfg) (m : Nat) (f : FuncId) (args : List AVal) (v : AVal) : Bool :=
  args.all (below 0 40) && (match run P K m (.fn f args []) with
    | .val u [] _ _ => eqv 40 u v
    | _ => false)

theorem known_of (hm : P.follows .mixedOrders = true) (hM : MemoOk P K.memo) {m : Nat} {f : FuncId} {args : List AVal} {v : AVal} (h : isCall P K m f args v = true) : Known P f args v := by
  unfold isCall at h
  simp only [Bool.and_eq_true] at h
  obtain ⟨h1, h2⟩ := h
  split at h2
  · rename_i u lo fr hr
    have := eqv_eq _ _ _ h2
    subst this
    obtain ⟨k1, k2, _⟩ := (good hm hM m).f _ _ _ _ _ _ _ hr
    exact ⟨k1, k2, fun i c e => below_sound 40 c (List.all_eq_true.1 h1 c (List.mem_of_getElem? e))⟩
  · cases h2

theorem memoOk_nil : MemoOk P [] := fun f as v h => by cases h
theorem memoOk_cons {f : FuncId} {as : List AVal} {v : AVal} {M : List (FuncId × List AVal × AVal)} (h : Known P f as v) (hM : MemoOk P M) : MemoOk P ((f, as, v) :: M) := fun g bs u hm => by
  rcases List.mem_cons.1 hm with e | hm
  · injection e with e1 e2; injection e2 with e2 e3; subst e1 e2 e3; exact h
  · exact hM g bs u hm
end
end Go.Proofs.YtennhanlcbibaaaGreatDoor.Lb

/- From what the interpreter says of a law's function to the row's contract. -/
namespace Go.Proofs.YtennhanlcbibaaaGreatDoor.Lb
open Go Go.ChangeShapes Go.WideShapes Go.ChangeAt Go.RowKit

/-- A law that comes back with true, seen by whoever calls it. -/
theorem calls_of_fn {P : Program} {f : FuncId} {as : List AVal} {W : World} {vs : Array Value} {b : Bool} (h : FnS P f as [] (.bool b) []) (ha : ARel (gAll W) as vs) :
    Calls P f vs W fun e W' => e = .returned (.bool b) ∧ Below W.heap.size W W' := by
  intro cs
  obtain ⟨g', v', w', fr, i, x, r, s, hf, hl⟩ := h (gAll W) W vs (gAll_inv W) ha cs
  cases r
  exact ⟨.returned (.bool b), w', fr, ⟨rfl, x.os, x.tape, x.output, x.size, fun k hk => x.frame k hk (fun n l N e => by cases e)⟩, s, hf, hl⟩

theorem trodAll_stays {H : Type} {enc : TypeId × Value → H} {P : Program} (hl : laidOutB P = true) {W W' : World} (hb : Below W.heap.size W W') {sp : Nat → Bool} : ∀ {ts : List TypeId} {vs : List Value} {ds : List (DataW H)} {ps : List MemPlace},
    (∀ t ∈ ts, P.readableRec t = true ∧ t < P.types.size) → DataW.TrodAll enc P W 0 (fun _ => true) true ts vs ds ps → (∀ p ∈ ps, p.block < W.heap.size) → (∀ p ∈ ps, sp p.block = true) → DataW.TrodAll enc P W' 0 sp true ts vs ds ps
  | [], [], [], ps, _, h, _, _ => h
  | [], _ :: _, _, _, _, h, _, _ => h.elim
  | [], [], _ :: _, _, _, h, _, _ => h.elim
  | _ :: _, [], _, _, _, h, _, _ => h.elim
  | _ :: _, _ :: _, [], _, _, h, _, _ => h.elim
  | t :: ts, v :: vs, d :: ds, ps, ht, h, hlt, hs => by
    obtain ⟨p, q, h1, h2, rfl⟩ := h
    exact ⟨p, q, WideElems.Trod_stays hl (ht t (by simp)).1 (ht t (by simp)).2 h1 (fun x hx => hb.same (hlt x (by simp [hx]))) (fun x hx => hs x (by simp [hx])),
      trodAll_stays hl hb (fun u hu => ht u (by simp [hu])) h2 (fun x hx => hlt x (by simp [hx])) (fun x hx => hs x (by simp [hx])), rfl⟩

theorem trodAll_length {H : Type} {enc : TypeId × Value → H} {P : Program} {W : World} {sp : Nat → Bool} : ∀ {ts : List TypeId} {vs : List Value} {ds : List (DataW H)} {ps : List MemPlace}, DataW.TrodAll enc P W 0 sp true ts vs ds ps → ds.length = ts.length ∧ vs.length = ts.length
  | [], [], [], ps, h => ⟨rfl, rfl⟩
  | [], _ :: _, _, _, h => h.elim
  | [], [], _ :: _, _, h => h.elim
  | _ :: _, [], _, _, h => h.elim
  | _ :: _, _ :: _, [], _, h => h.elim
  | t :: ts, v :: vs, d :: ds, ps, h => by
    obtain ⟨p, q, h1, h2, rfl⟩ := h
    obtain ⟨a, b⟩ := trodAll_length h2
    exact ⟨by simp [a], by simp [b]⟩

/-- The contract of a law's row. -/
theorem law_contract {H : Type} {enc : TypeId × Value → H} {P : Program} {f : FuncId} {fn : Func} {s : ChangeSpec} {tb : TypeId} {apart : Bool} (hl : laidOutB P = true) (hp : (fn.params.toList.all fun t => P.readableRec t && decide (t < P.types.size)) = true) (hvars : s.vars = [])
    (hres : fn.resultTypes = #[tb]) (hb : P.underlying tb = some .bool) (hspec : ∀ ds : List (DataW H), ds.length = fn.params.size → s.fn H ds = { results := [.lit (.bool true)], args := ds })
    {W : World} {args : Array Value} {ds gs : List (DataW H)} {before : List MemPlace} (hW : DataW.Whole enc P fn.params.toList s.vars apart W args.toList ds gs before)
    (hc : Calls P f args W fun e W' => e = .returned (.bool true) ∧ Below W.heap.size W W') :
    Calls P f args W fun e W' => ∃ v, e = .returned v ∧ s.post enc P fn apart true false false W args v W' := by
  refine hc.mono fun e W' ⟨he, hbel⟩ => ⟨_, he, ?_⟩
  have hlt := hW.lt
  have hW0 := hW
  obtain ⟨p, q, hA, hV, rfl, hfz, hnd⟩ := hW
  rw [hvars] at hV
  obtain ⟨rfl, rfl⟩ : gs = [] ∧ q = [] := by
    cases gs with
    | nil => exact ⟨rfl, hV⟩
    | cons g r => exact hV.elim
  have hlen := (trodAll_length hA).1
  have hsp : s.fn H (ds ++ []) = { results := [.lit (.bool true)], args := ds } := by
    rw [List.append_nil]; exact hspec ds (by simpa using hlen)
  have hpar : ∀ t ∈ fn.params.toList, P.readableRec t = true ∧ t < P.types.size := fun t ht => by
    have := List.all_eq_true.1 hp t ht
    simp only [Bool.and_eq_true, decide_eq_true_eq] at this
    exact this
  refine ⟨ds, [], p ++ [], [], p, [], hW0, ?_, ?_, ?_, hbel.frame _, fun h => by cases h⟩
  · rw [hsp, hres]
    exact trodAll_mk1 (shut_bool hb _)
  · rw [hsp]
    exact trodAll_stays hl hbel hpar hA (fun x hx => hlt x (by simp [hx])) (fun x hx => by simpa using hlt x (by simp [hx]))
  · rw [hvars, hsp]; exact rfl
end Go.Proofs.YtennhanlcbibaaaGreatDoor.Lb

