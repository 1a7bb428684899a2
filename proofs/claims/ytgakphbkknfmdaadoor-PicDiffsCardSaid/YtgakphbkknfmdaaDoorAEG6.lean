import Derived.Test.YtgakphbkknfmdaaDoorAEG5
set_option linter.all false
set_option linter.unusedSimpArgs false
set_option linter.unusedVariables false
set_option autoImplicit false
namespace Go.AE
variable {P : Program}
theorem Tells.pair {ok : Nat → Code → Bool} {G : Nat} {s s1 s' : AS} {v1 v w : Value} (h : Tells P ok G s v1 s1 v s') (hw : flatV w = true) : Tells P ok G s (.tuple ⟨[v1, w]⟩) s1 (.tuple ⟨[v, w]⟩) s' := by
  intro ι W ι1 W1 v' hr hp hv
  cases hv with
  | @tuple _ a' ha ha' =>
  obtain ⟨l⟩ := a'
  have hl : l.length = 2 := ha.symm
  match l, hl with
  | [x, y], _ =>
  have h0 : VRel ι1 v1 x := ha' 0 (by simp)
  have h1 : VRel ι1 w y := ha' 1 (by simp)
  obtain ⟨ι', p, q⟩ := h ι W ι1 W1 x hr hp h0
  refine ⟨ι', p, .tuple rfl fun i hi => ?_⟩
  have hy : y = w := VRel.flat h1 hw
  subst hy
  match i, hi with
  | 0, _ => exact q
  | 1, _ => exact VRel.ofFlat _ _ hw
theorem wrap_fits {n : Int} (h1 : -9223372036854775808 ≤ n) (h2 : n < 9223372036854775808) : IntKind.i64.wrap n = n := by rw [IntKind.wrap_i64]; omega
theorem wrap_up {n : Nat} {m : Nat} (h1 : n < m) (h2 : m < 9223372036854775808) : IntKind.i64.wrap ((n : Int) + 1) = ((n + 1 : Nat) : Int) := by rw [wrap_fits (by omega) (by omega)]; omega
theorem IntsAt.det {s : AS} {L : Value} {zs zs' : List Int} (h : IntsAt s L zs) (h' : IntsAt s L zs') : zs' = zs := by
  have hlen : zs'.length = zs.length := by
    have := h.len
    rw [h'.len] at this
    simp only [Option.some.injEq, Value.int.injEq, true_and] at this
    omega
  rcases h with ⟨_, rfl⟩ | ⟨b, o, c, own, e, cells, lo, hi', rfl, h2, h3⟩
  · exact List.length_eq_zero_iff.1 hlen
  · rcases h' with ⟨_, rfl⟩ | ⟨b', o', c', own', e', cells', lo', hi'', q, p2, p3⟩
    · exact (List.length_eq_zero_iff.1 hlen.symm).symm
    · simp only [Value.slice.injEq, Option.some.injEq, Addr.mk.injEq] at q
      obtain ⟨⟨rfl, rfl, _⟩, _, _⟩ := q
      rw [h2] at p2
      cases p2
      refine List.ext_getElem hlen fun i h1 h2 => ?_
      have q1 := p3 i _ (List.getElem?_eq_getElem h1)
      have q2 := h3 i _ (List.getElem?_eq_getElem h2)
      rw [q1] at q2
      simpa using q2
theorem Meets.use {C : Calls} {f : FuncId} {Z : List Value → AS → Value → AS → Prop} (h : Meets C f Z) (hfun : ∀ {args s v s' w t}, Z args s v s' → Z args s w t → w = v ∧ t = s')
    {args : List Value} {s : AS} {v : Value} {s' : AS} {k : Value → AS → Prop} (hz : Z args s v s') (hk : k v s'.flat) : ofE (C.call f args s) k := by
  refine h args s k ⟨v, s', hz⟩ fun w t hw => ?_
  obtain ⟨rfl, rfl⟩ := hfun hz hw
  exact hk

/-! ### append -/
theorem app_nil {E : Env} {s : AS} {t elem size bytes n c lo hi : Nat} {z : Value} {own : Bool} {e : TypeId} {cells : List Value} (hd : E.und t = some (.slice elem)) (hn : E.size elem = some (size + 1)) (hb : E.bytes elem = some (bytes + 1)) (hz : E.zero elem = some z) (hzl : (vcells z).length = size + 1)
    (hp : s.pick = none) (hr : s.get n = some (.row own e cells lo hi)) (hl : cells.length = size + 1) (ho : cells.all one = true) (hroom : bytes + 1 ≤ room) :
    aappend E s t t (.slice none 0 0) (.slice (some ⟨n, 0, none⟩) 1 c) = some (.slice (some ⟨s.next, 0, none⟩) 1 0, s.new (.row true elem cells 0 0)) := by
  have hc : cut cells 0 (1 * (size + 1)) = some cells := by
    unfold cut
    simp only [List.drop_zero, Nat.one_mul, ← hl, List.take_length, if_true]
  have hf : firstA s (size + 1) 1 (.slice (some ⟨n, 0, none⟩) 1 c) = some cells := by
    unfold firstA
    simp [hr]
    simpa using hc
  have hid : s.id = s.next := by unfold AS.id; rw [hp]
  unfold aappend
  simp only [hd, hn, hb, hz, hzl, Option.bind_eq_bind, Option.bind_some, isSeq, lenOfA]
  rw [if_neg (by simp), if_neg (by simp), hf]
  simp only [Option.bind_some]
  rw [if_neg (by simp [ho]), if_neg (by simp), if_neg (by omega), hid]
theorem app_own {E : Env} {s : AS} {t elem size bytes n c lo hi k len : Nat} {z : Value} {own : Bool} {e : TypeId} {cells old : List Value} (hd : E.und t = some (.slice elem)) (hn : E.size elem = some (size + 1)) (hb : E.bytes elem = some (bytes + 1)) (hz : E.zero elem = some z) (hzl : (vcells z).length = size + 1)
    (hp : s.pick = none) (hr : s.get n = some (.row own e cells lo hi)) (hl : cells.length = size + 1) (ho : cells.all one = true) (hk : s.get k = some (.row true elem old 0 0)) (hol : old.length = len * (size + 1)) (hroom : (len + 1) * (bytes + 1) ≤ room) :
    aappend E s t t (.slice (some ⟨k, 0, none⟩) len 0) (.slice (some ⟨n, 0, none⟩) 1 c) = some (.slice (some ⟨s.next, 0, none⟩) (len + 1) 0, (s.set k none).new (.row true elem (old ++ cells) 0 0)) := by
  have hc : cut cells 0 (1 * (size + 1)) = some cells := by
    unfold cut
    simp only [List.drop_zero, Nat.one_mul, ← hl, List.take_length, if_true]
  have hf : firstA s (size + 1) 1 (.slice (some ⟨n, 0, none⟩) 1 c) = some cells := by
    unfold firstA
    simp [hr]
    simpa using hc
  have hid : s.id = s.next := by unfold AS.id; rw [hp]
  have h1 : ¬ (0 + (len + 1) * (size + 1) ≤ old.length) := by rw [hol, Nat.zero_add]; intro h; have := Nat.le_of_mul_le_mul_right h (by omega); omega
  unfold aappend
  simp only [hd, hn, hb, hz, hzl, Option.bind_eq_bind, Option.bind_some, isSeq, lenOfA]
  rw [if_neg (by simp), if_neg (by simp), hf]
  simp only [Option.bind_some, hk]
  rw [if_neg (by simp [ho]), if_neg (by simp), if_neg (by simp; omega), if_pos trivial, if_neg (by simp), if_neg h1, if_pos ⟨trivial, hol.symm, by omega⟩, hid]
theorem Std.swap {s : AS} (h : Std s) (k : Nat) {o : AObj} (ho : calmO o) : Std ((s.set k none).new o).flat where
  pick := by rw [pick_flat, AS.pick_new]
  log := rfl
  calm := fun j o' hk => by
    rw [AS.get_flat, get_new' (s := s.set k none) h.pick] at hk
    split at hk
    · cases hk; exact ho
    · rw [AS.get_set] at hk
      split at hk
      · cases hk
      · exact h.calm j o' hk
  low := fun j hj => by
    rw [AS.next_flat, next_new' (s := s.set k none) h.pick] at hj
    have hj : s.next + 1 ≤ j := hj
    rw [AS.get_flat, get_new' (s := s.set k none) h.pick, if_neg (by show j ≠ s.next; omega), AS.get_set]
    split
    · rfl
    · exact h.low j (by omega)
theorem get_swap {s : AS} (h : s.pick = none) (k j : Nat) (o : AObj) : ((s.set k none).new o).flat.get j = if j = s.next then some o else if j = k then none else s.get j := by
  rw [AS.get_flat, get_new' (s := s.set k none) h, AS.get_set]
  rfl
theorem next_swap {s : AS} (h : s.pick = none) (k : Nat) (o : AObj) : ((s.set k none).new o).flat.next = s.next + 1 := by
  rw [AS.next_flat, next_new' (s := s.set k none) h]
  rfl
end Go.AE
