import Derived.Test.YtgakphbkknfmdaaDoorAEG8
import Derived.ChangeSlices
import Derived.WideShapes
import Derived.Below
import Derived.CallsIn
set_option linter.all false
set_option linter.unusedSimpArgs false
set_option linter.unusedVariables false
set_option autoImplicit false
namespace Go.AE
open Go Go.ChangeShapes Go.WideShapes
variable {P : Program}
/-! ### What is handed in -/
noncomputable def inS (G : Nat) (os : List (Option AObj)) : AS :=
  os.foldl (fun p o => ⟨p.next + 1, (p.set p.next o).heap, (p.set p.next o).log, none⟩) (s0 G)
theorem inS_go (os : List (Option AObj)) : ∀ p : AS, p.pick = none →
    let q := os.foldl (fun p o => (⟨p.next + 1, (p.set p.next o).heap, (p.set p.next o).log, none⟩ : AS)) p
    q.next = p.next + os.length ∧ q.pick = none ∧ ∀ k, q.get k = if p.next ≤ k ∧ k < p.next + os.length then (os[k - p.next]?).join else p.get k := by
  induction os with
  | nil => intro p hp; exact ⟨rfl, hp, fun k => by simp; intro h1 h2; omega⟩
  | cons o os ih =>
    intro p hp
    obtain ⟨h1, h2, h3⟩ := ih ⟨p.next + 1, (p.set p.next o).heap, (p.set p.next o).log, none⟩ rfl
    refine ⟨by simp only [List.foldl_cons, h1, List.length_cons]; omega, h2, fun k => ?_⟩
    have hk := h3 k
    simp only [List.foldl_cons]
    rw [hk]
    have hg : (⟨p.next + 1, (p.set p.next o).heap, (p.set p.next o).log, none⟩ : AS).get k = if k = p.next then o else p.get k := AS.get_set p p.next k o
    rw [hg]
    simp only [List.length_cons]
    by_cases e : k = p.next
    · subst e
      rw [if_neg (by omega), if_pos rfl, if_pos (by omega)]
      simp
    · by_cases c : p.next + 1 ≤ k ∧ k < p.next + 1 + os.length
      · rw [if_pos c, if_pos (by omega), show k - p.next = (k - (p.next + 1)) + 1 by omega]
        simp
      · rw [if_neg c, if_neg e, if_neg (by omega)]
theorem s0_get (G k : Nat) : (s0 G).get k = none := by
  show seek k (Tr.get (bits k) .leaf) [] = none
  rw [Tr.get_nilLeaf]
  rfl
theorem inS_next (G : Nat) (os : List (Option AObj)) : (inS G os).flat.next = G + os.length := (inS_go os (s0 G) rfl).1
theorem inS_pick (G : Nat) (os : List (Option AObj)) : (inS G os).flat.pick = none := (inS_go os (s0 G) rfl).2.1
theorem inS_get (G : Nat) (os : List (Option AObj)) (k : Nat) : (inS G os).flat.get k = if G ≤ k then (os[k - G]?).join else none := by
  rw [AS.get_flat]
  have h := (inS_go os (s0 G) rfl).2.2 k
  show (inS G os).get k = _
  unfold inS
  rw [h, s0_get]
  by_cases c : G ≤ k
  · rw [if_pos c]
    by_cases d : k < G + os.length
    · rw [if_pos ⟨c, d⟩]; rfl
    · rw [if_neg (by intro h; exact d h.2), List.getElem?_eq_none (by omega)]; rfl
  · rw [if_neg c, if_neg (by intro h; exact c h.1)]
theorem inS_std {G : Nat} {os : List (Option AObj)} (h : ∀ o, some o ∈ os → calmO o) : Std (inS G os).flat where
  pick := inS_pick G os
  log := rfl
  calm := fun k o hk => by
    rw [inS_get] at hk
    split at hk
    · refine h o ?_
      cases hq : os[k - G]? with
      | none => rw [hq] at hk; cases hk
      | some x => rw [hq] at hk; cases x with
        | none => cases hk
        | some y => cases hk; exact List.mem_of_getElem? hq
    · cases hk
  low := fun k hk => by
    rw [inS_next] at hk
    rw [inS_get, if_pos (by omega), List.getElem?_eq_none (by omega)]
    rfl
def inI (G : Nat) (ls : List Slot) : Iota := fun k => if k < G then .dead else (ls[k - G]?).getD .free
/-- What is known of an object that comes from outside. -/
def InOk (P : Program) (W : World) (x : Slot) (o : Option AObj) : Prop :=
  (x = .dead ∧ o = none) ∨ ∃ l ob, x = .live l ∧ o = some ob ∧ l.own = false ∧ calmO ob ∧ ∀ ok ι, ORel P ok ι l ob W
theorem inRel {ok : Nat → Code → Bool} {G : Nat} {W : World} {ls : List (Slot × Option AObj)} (h : ∀ x ∈ ls, InOk P W x.1 x.2) : Rel P ok G (inI G (ls.map (·.1))) (inS G (ls.map (·.2))).flat W where
  next := fun k hk => by
    rw [inS_next] at hk
    simp only [List.length_map] at hk
    unfold inI
    rw [if_neg (by omega), List.getElem?_eq_none (by simp; omega)]
    rfl
  pick := fun k hk => by rw [inS_pick] at hk; cases hk
  live := fun k l hk => by
    unfold inI at hk
    split at hk
    · cases hk
    · rename_i hG
      rw [inS_get, if_pos (by omega)]
      simp only [List.getElem?_map] at hk ⊢
      cases hq : ls[k - G]? with
      | none => rw [hq] at hk; cases hk
      | some x =>
        rw [hq] at hk
        rcases h x (List.mem_of_getElem? hq) with ⟨h1, _⟩ | ⟨l', ob, h1, h2, _, _, h3⟩
        · have hk : x.1 = .live l := hk
          rw [h1] at hk; cases hk
        · have hk : x.1 = .live l := hk
          rw [h1] at hk; cases hk
          exact ⟨ob, by show (some x.2).join = _; rw [h2]; rfl, h3 _ _⟩
  dead := fun k hk => by
    unfold inI at hk
    rw [inS_get]
    split at hk
    · rename_i hG
      rw [if_neg (by omega)]
    · rename_i hG
      rw [if_pos (by omega)]
      simp only [List.getElem?_map] at hk ⊢
      cases hq : ls[k - G]? with
      | none => rfl
      | some x =>
        rw [hq] at hk
        have hk : x.1 = .dead := hk
        rcases h x (List.mem_of_getElem? hq) with ⟨_, h2⟩ | ⟨l', ob, h1, _⟩
        · show (some x.2).join = _; rw [h2]; rfl
        · rw [h1] at hk; cases hk
  inj := fun k k' l l' hk _ hown _ => by
    unfold inI at hk
    split at hk
    · cases hk
    · simp only [List.getElem?_map] at hk
      cases hq : ls[k - G]? with
      | none => rw [hq] at hk; cases hk
      | some x =>
        rw [hq] at hk
        have hk : x.1 = .live l := hk
        rcases h x (List.mem_of_getElem? hq) with ⟨h1, _⟩ | ⟨l', ob, h1, h2, h3, _⟩
        · rw [h1] at hk; cases hk
        · rw [h1] at hk; cases hk
          rw [h3] at hown; cases hown
  glob := fun g hg => .inl (by unfold inI; rw [if_pos hg])
  gnext := by rw [inS_next]; omega
theorem inOwn {G : Nat} {W : World} {ls : List (Slot × Option AObj)} (h : ∀ x ∈ ls, InOk P W x.1 x.2) {k : Nat} {l : Loc} (hk : inI G (ls.map (·.1)) k = .live l) : l.own = false := by
  unfold inI at hk
  split at hk
  · cases hk
  · simp only [List.getElem?_map] at hk
    cases hq : ls[k - G]? with
    | none => rw [hq] at hk; cases hk
    | some x =>
      rw [hq] at hk
      have hk : x.1 = .live l := hk
      rcases h x (List.mem_of_getElem? hq) with ⟨h1, _⟩ | ⟨l', ob, h1, h2, h3, _⟩
      · rw [h1] at hk; cases hk
      · rw [h1] at hk; cases hk
        exact h3

/-- A slice of numbers that is handed in. -/
theorem in_ints {e t : TypeId} {W : World} {base : Nat} {spare : Nat → Bool} {held : Bool} {H : Type} {enc : TypeId × Value → H} {fuel : Nat} {v : Value} {x : DataW H × List MemPlace} (ht : P.underlying t = some (.slice e)) (he : P.underlying e = some (.int .i64)) (hc : P.cellsOf e = 1) (hsz : (P.info? e).map (·.size) = some 1)
    (h : DataW.trod enc P W base spare held fuel t [v] = some x) (k : Nat) :
    ∃ (A : Value) (zs : List Int) (y : Slot) (o : Option AObj), InOk P W y o ∧ zs.length ≤ maxLen ∧ (∀ s : AS, s.get k = o → IntsAt s A zs) ∧ ∀ ι : Iota, ι k = y → VRel ι A v := by
  rcases open_ints ht he hc h with ⟨h0, _⟩ | ⟨a, len, cap, zs, h0, _, hl, hm, hz, _, hcell, _⟩
  · cases h0
    exact ⟨.slice none 0 0, [], .dead, none, .inl ⟨rfl, rfl⟩, Nat.zero_le _, fun s _ => .inl ⟨.inl rfl, rfl⟩, fun ι _ => .sliceNil 0 0⟩
  · cases h0
    have hzl : len ≤ zs.length := by rw [hz]; split <;> omega
    by_cases h1 : len = 0
    · subst h1
      exact ⟨.slice (some ⟨k, 0, none⟩) 0 (cap + 1), [], .dead, none, .inl ⟨rfl, rfl⟩, Nat.zero_le _, fun s _ => .inl ⟨.inr ⟨k, _, rfl⟩, rfl⟩, fun ι hι => .slice ⟨rfl, Nat.zero_le _, .inl hι⟩⟩
    · have hsp : a.spot = none := World.cell?_spot (hcell 0 (by omega)) |> fun h => by
        have := h
        unfold Addr.add at this
        split at this <;> simp_all
      obtain ⟨blk, off, spot⟩ := a
      have hsp : spot = none := hsp
      subst hsp
      have hb : blk < W.heap.size := by
        have := hcell 0 (by omega)
        rw [Go.WideShapes.add_plain] at this
        unfold World.cell? at this
        rcases Nat.lt_or_ge blk W.heap.size with h | h
        · exact h
        · simp [Array.getElem?_eq_none h] at this
      refine ⟨.slice (some ⟨k, 0, none⟩) len (cap + 1), zs.take len, .live ⟨blk, off, cap, 1, false, true⟩, some (.row false e ((zs.take len).map fun z => .int .i64 z) 0 0), .inr ⟨_, _, rfl, rfl, rfl, trivial, fun ok ι => ⟨rfl, rfl, Nat.one_pos, hsz, by simp; omega, hb, fun i hi => ?_⟩⟩, by simp; omega, fun s hs => .inr ⟨k, 0, cap + 1, false, e, _, 0, 0, by simp [Nat.min_eq_left hzl], hs, fun i z hi => ?_⟩, fun ι hι => .slice ⟨rfl, by omega, .inr ⟨_, hι, fun h => by omega, fun _ => by omega, .inl rfl⟩⟩⟩
      · simp at hi
        have := hcell i (by omega)
        rw [Go.WideShapes.add_plain] at this
        refine ⟨_, this, ?_⟩
        have e1 : ((zs.take len).map fun z => Value.int .i64 z).getD i undef = .int .i64 (zs.getD i 0) := by
          have : i < zs.length := by omega
          have hi2 : i < len := by omega
          simp [List.getD, List.getElem?_take, hi2, this]
        rw [e1]
        exact .int _ _
      · rw [Nat.zero_add, List.getElem?_map, hi]
        rfl

/-- What a call leaves behind. -/
theorem post_below {ok : Nat → Code → Bool} {G : Nat} {ι ι' : Iota} {W W' : World} {s' : AS} (h : Post P ok G ι W ι' s' W') (ho : ∀ k l, ι k = .live l → l.own = false) : Go.RowKit.Below W.heap.size W W' :=
  ⟨h.os, h.tape, h.output, h.grow, fun b hb => h.frame b hb fun k l hk hown => by rw [ho k l hk] at hown; cases hown⟩
end Go.AE
