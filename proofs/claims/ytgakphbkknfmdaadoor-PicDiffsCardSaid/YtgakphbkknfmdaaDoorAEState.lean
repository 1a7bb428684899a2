import Derived.Test.YtgakphbkknfmdaaDoorAERel
set_option linter.all false
set_option linter.unusedSimpArgs false
set_option linter.unusedVariables false
set_option autoImplicit false
namespace Go.AE

def kid {α : Type} (t : Tr α) (d : D8) : Tr α :=
  match t, d with
  | .leaf, _ => .leaf
  | .node _ c _ _ _ _ _ _ _, .d0 => c
  | .node _ _ c _ _ _ _ _ _, .d1 => c
  | .node _ _ _ c _ _ _ _ _, .d2 => c
  | .node _ _ _ _ c _ _ _ _, .d3 => c
  | .node _ _ _ _ _ c _ _ _, .d4 => c
  | .node _ _ _ _ _ _ c _ _, .d5 => c
  | .node _ _ _ _ _ _ _ c _, .d6 => c
  | .node _ _ _ _ _ _ _ _ c, .d7 => c
def top {α : Type} : Tr α → Option α
  | .leaf => none
  | .node v _ _ _ _ _ _ _ _ => v
theorem Tr.get_nilLeaf {α : Type} (bs : List D8) : Tr.get bs (.leaf : Tr α) = none := by cases bs <;> rfl
theorem Tr.get_nil {α : Type} (t : Tr α) : Tr.get [] t = top t := by cases t <;> rfl
theorem Tr.get_cons {α : Type} (d : D8) (p : List D8) (t : Tr α) : Tr.get (d :: p) t = Tr.get p (kid t d) := by
  cases t
  · simp only [kid, Tr.get_nilLeaf]
  · cases d <;> rfl
def putKid {α : Type} (t : Tr α) (d : D8) (x : Tr α) : Tr α :=
  match t, d with
  | .leaf, .d0 => .node none x .leaf .leaf .leaf .leaf .leaf .leaf .leaf
  | .leaf, .d1 => .node none .leaf x .leaf .leaf .leaf .leaf .leaf .leaf
  | .leaf, .d2 => .node none .leaf .leaf x .leaf .leaf .leaf .leaf .leaf
  | .leaf, .d3 => .node none .leaf .leaf .leaf x .leaf .leaf .leaf .leaf
  | .leaf, .d4 => .node none .leaf .leaf .leaf .leaf x .leaf .leaf .leaf
  | .leaf, .d5 => .node none .leaf .leaf .leaf .leaf .leaf x .leaf .leaf
  | .leaf, .d6 => .node none .leaf .leaf .leaf .leaf .leaf .leaf x .leaf
  | .leaf, .d7 => .node none .leaf .leaf .leaf .leaf .leaf .leaf .leaf x
  | .node v c0 c1 c2 c3 c4 c5 c6 c7, .d0 => .node v x c1 c2 c3 c4 c5 c6 c7
  | .node v c0 c1 c2 c3 c4 c5 c6 c7, .d1 => .node v c0 x c2 c3 c4 c5 c6 c7
  | .node v c0 c1 c2 c3 c4 c5 c6 c7, .d2 => .node v c0 c1 x c3 c4 c5 c6 c7
  | .node v c0 c1 c2 c3 c4 c5 c6 c7, .d3 => .node v c0 c1 c2 x c4 c5 c6 c7
  | .node v c0 c1 c2 c3 c4 c5 c6 c7, .d4 => .node v c0 c1 c2 c3 x c5 c6 c7
  | .node v c0 c1 c2 c3 c4 c5 c6 c7, .d5 => .node v c0 c1 c2 c3 c4 x c6 c7
  | .node v c0 c1 c2 c3 c4 c5 c6 c7, .d6 => .node v c0 c1 c2 c3 c4 c5 x c7
  | .node v c0 c1 c2 c3 c4 c5 c6 c7, .d7 => .node v c0 c1 c2 c3 c4 c5 c6 x
def putTop {α : Type} (t : Tr α) (o : Option α) : Tr α :=
  match t with
  | .leaf => .node o .leaf .leaf .leaf .leaf .leaf .leaf .leaf .leaf
  | .node _ c0 c1 c2 c3 c4 c5 c6 c7 => .node o c0 c1 c2 c3 c4 c5 c6 c7
/-- A slot of a tree is written. -/
def Tr.set {α : Type} (o : Option α) : List D8 → Tr α → Tr α
  | [], t => putTop t o
  | d :: p, t => putKid t d (Tr.set o p (kid t d))
theorem Tr.setK_nil {α R : Type} (o : Option α) (t : Tr α) (k : Tr α → R) : Tr.setK o [] t k = k (putTop t o) := by cases t <;> rfl
theorem Tr.setK_cons {α R : Type} (o : Option α) (d : D8) (p : List D8) (t : Tr α) (k : Tr α → R) : Tr.setK o (d :: p) t k = Tr.setK o p (kid t d) fun x => k (putKid t d x) := by
  cases t <;> cases d <;> rfl
theorem Tr.setK_eq {α R : Type} (o : Option α) : ∀ (p : List D8) (t : Tr α) (k : Tr α → R), Tr.setK o p t k = k (Tr.set o p t)
  | [], t, k => Tr.setK_nil o t k
  | d :: p, t, k => by rw [Tr.setK_cons, Tr.setK_eq o p]; rfl
theorem top_set_nil {α : Type} (o : Option α) (t : Tr α) : top (Tr.set o [] t) = o := by cases t <;> rfl
theorem kid_set_nil {α : Type} (o : Option α) (t : Tr α) (d : D8) : kid (Tr.set o [] t) d = kid t d := by cases t <;> cases d <;> rfl
theorem top_put {α : Type} (t x : Tr α) (d : D8) : top (putKid t d x) = top t := by cases t <;> cases d <;> rfl
theorem kid_put {α : Type} (t x : Tr α) (d e : D8) : kid (putKid t d x) e = if e = d then x else kid t e := by cases t <;> cases d <;> cases e <;> rfl
theorem top_set_cons {α : Type} (o : Option α) (t : Tr α) (d : D8) (p : List D8) : top (Tr.set o (d :: p) t) = top t := top_put _ _ _
theorem kid_set_cons {α : Type} (o : Option α) (t : Tr α) (d e : D8) (p : List D8) : kid (Tr.set o (d :: p) t) e = if e = d then Tr.set o p (kid t d) else kid t e := kid_put _ _ _ _
theorem Tr.get_set_same {α : Type} (o : Option α) : ∀ (bs : List D8) (t : Tr α), (Tr.set o bs t).get bs = o
  | [], t => by rw [Tr.get_nil, top_set_nil]
  | d :: p, t => by rw [Tr.get_cons, kid_set_cons, if_pos rfl]; exact Tr.get_set_same o p _
theorem Tr.get_set_other {α : Type} (o : Option α) : ∀ (bs cs : List D8) (t : Tr α), cs ≠ bs → (Tr.set o bs t).get cs = t.get cs
  | [], [], _, h => absurd rfl h
  | [], c :: cs, t, _ => by rw [Tr.get_cons, Tr.get_cons, kid_set_nil]
  | b :: bs, [], t, _ => by rw [Tr.get_nil, Tr.get_nil, top_set_cons]
  | b :: bs, c :: cs, t, h => by
    rw [Tr.get_cons, Tr.get_cons, kid_set_cons]
    by_cases e : c = b
    · subst e
      rw [if_pos rfl]
      exact Tr.get_set_other o bs cs _ (by simpa using h)
    · rw [if_neg e]

theorem bitsF_zero (n : Nat) : bitsF 0 n = [] := rfl
theorem bitsF_succ (f n : Nat) : bitsF (f + 1) n = if n = 0 then [] else digit (n % 8) :: bitsF f (n / 8) := by
  show Bool.rec (motive := fun _ => List D8) (digit (Nat.mod n 8) :: bitsF f (Nat.div n 8)) [] (Nat.beq n 0) = _
  cases n with
  | zero => rfl
  | succ n => rfl
theorem digit_inj : ∀ (m n : Nat), m < 8 → n < 8 → digit m = digit n → m = n := by
  intro m n hm hn
  rcases m with _ | _ | _ | _ | _ | _ | _ | _ | m <;> first | omega | skip
  all_goals rcases n with _ | _ | _ | _ | _ | _ | _ | _ | n <;> first | omega | (intro h; first | rfl | (revert h; decide)) | skip
theorem bitsF_inj : ∀ (f g n m : Nat), n ≤ f → m ≤ g → bitsF f n = bitsF g m → n = m
  | 0, 0, n, m, hn, hm, _ => by omega
  | 0, g + 1, n, m, hn, hm, h => by
    rw [bitsF_zero, bitsF_succ] at h
    split at h
    · omega
    · cases h
  | f + 1, 0, n, m, hn, hm, h => by
    rw [bitsF_zero, bitsF_succ] at h
    split at h
    · omega
    · cases h
  | f + 1, g + 1, n, m, hn, hm, h => by
    rw [bitsF_succ, bitsF_succ] at h
    split at h <;> split at h
    · omega
    · cases h
    · cases h
    · simp only [List.cons.injEq] at h
      have := bitsF_inj f g (n / 8) (m / 8) (by omega) (by omega) h.2
      have := digit_inj (n % 8) (m % 8) (by omega) (by omega) h.1
      omega
theorem bits_inj {n m : Nat} (h : bits n = bits m) : n = m := bitsF_inj n m n m (Nat.le_refl _) (Nat.le_refl _) h

theorem AS.get_set (s : AS) (k j : Nat) (o : Option AObj) : (s.set k o).get j = if j = k then o else s.get j := by
  unfold AS.get AS.set
  simp only [seek]
  by_cases h : j = k
  · rw [if_pos h, show Nat.beq j k = true by rw [h]; exact Nat.beq_refl k]
  · rw [if_neg h, show Nat.beq j k = false by rw [Bool.eq_false_iff]; exact fun e => h (Nat.eq_of_beq_eq_true e)]
theorem AS.get_new (s : AS) (j : Nat) (o : AObj) : (s.new o).get j = if j = s.id then some o else s.get j := by
  have key : ∀ k n p, AS.get ⟨n, s.heap, (k, some o) :: s.log, p⟩ j = if j = k then some o else s.get j := fun k n p => by
    unfold AS.get
    simp only [seek]
    by_cases h : j = k
    · rw [if_pos h, show Nat.beq j k = true by rw [h]; exact Nat.beq_refl _]
    · rw [if_neg h, show Nat.beq j k = false by rw [Bool.eq_false_iff]; exact fun e => h (Nat.eq_of_beq_eq_true e)]
  unfold AS.new AS.id
  cases s.pick with
  | none => exact key _ _ _
  | some k => exact key _ _ _
@[simp] theorem AS.next_set (s : AS) (k : Nat) (o : Option AObj) : (s.set k o).next = s.next := rfl
@[simp] theorem AS.id_set (s : AS) (k : Nat) (o : Option AObj) : (s.set k o).id = s.id := rfl
@[simp] theorem AS.pick_new (s : AS) (o : AObj) : (s.new o).pick = none := by unfold AS.new; cases s.pick <;> rfl
theorem AS.next_new (s : AS) (o : AObj) : s.next ≤ (s.new o).next ∧ (s.pick = none → (s.new o).next = s.next + 1) := by
  unfold AS.new
  cases s.pick with
  | none => exact ⟨Nat.le_succ _, fun _ => rfl⟩
  | some k => exact ⟨Nat.le_refl _, fun h => by cases h⟩
theorem AS.id_new (s : AS) (o : AObj) : (s.new o).id = (s.new o).next := by unfold AS.id; rw [AS.pick_new]

/-- Which cells are frozen. -/
def FrRel (ext lo hi : Nat) (fr : Nat × Nat) : Prop :=
  (lo ≤ hi → fr.1 = fr.2 ∨ (lo ≤ fr.1 ∧ fr.1 < fr.2 ∧ fr.2 ≤ hi)) ∧ (hi < lo → ∀ j, j < ext → ¬ (fr.1 ≤ j ∧ j < fr.2))

def ERel (ι : Iota) (e e' : MapEntry) : Prop := e'.key = e.key ∧ e'.born = e.born ∧ VRel ι e.val e'.val

/-- What lies in the slots. -/
noncomputable def T.at (t : Tr Value) (p : List D8) : Value := Option.rec (motive := fun _ => Value) undef (fun v => v) (Tr.get p t)
def TRel (ι : Iota) (t : Tr Value) (a : Array Value) : Prop := ∀ i, i < a.size → VRel ι (T.at t (bits i)) (a.getD i undef)

/-- What the code of a loop must be: asked of all code that is run. -/
def ORel (P : Program) (ok : Nat → Code → Bool) (ι : Iota) (l : Loc) (o : AObj) (W : World) : Prop :=
  match o with
  | .row true e cells lo hi => l.own = true ∧ l.row = true ∧ l.off = 0 ∧ 0 < l.size ∧ (P.info? e).map (·.size) = some l.size ∧ cells.length ≤ l.ext ∧
      ∃ c' fr, W.heap[l.block]? = some (.cells c' e fr) ∧ l.ext ≤ c'.size ∧ FrRel l.ext lo hi fr ∧ ∀ i, i < cells.length → VRel ι (cells.getD i undef) (c'.getD i undef)
  | .row false e cells _ _ => l.own = false ∧ l.row = true ∧ 0 < l.size ∧ (P.info? e).map (·.size) = some l.size ∧ cells.length ≤ l.ext ∧ l.block < W.heap.size ∧
      ∀ i, i < cells.length → ∃ v', W.cell? ⟨l.block, l.off + i, none⟩ = some v' ∧ VRel ι (cells.getD i undef) v'
  | .map es clock => l.own = true ∧ l.row = false ∧ l.off = 0 ∧ ∃ es', W.heap[l.block]? = some (.map es' clock) ∧ es.length = es'.size ∧
      ∀ (i : Nat) (e : MapEntry), es[i]? = some e → ∃ e', es'[i]? = some e' ∧ ERel ι e e'
  | .iter x pos => l.own = true ∧ l.row = false ∧ l.off = 0 ∧ W.heap[l.block]? = some (.stringIter x pos)
  | .loop st pending t params assign body defers => l.own = true ∧ l.row = false ∧ l.off = 0 ∧
      ∃ r : Loop, W.heap[l.block]? = some (.loop r) ∧ ok r.tmps.size assign = true ∧ ok r.tmps.size body = true ∧ (∀ p ∈ params, p < r.tmps.size) ∧ r.state = st ∧ r.pending = pending ∧
      TRel ι t r.tmps ∧ r.params = params ∧ r.assign = assign ∧ r.body = body ∧ ∃ ld, ι defers = .live ld ∧ ld.row = false ∧ ld.block = r.defers
  | .deferred isOpen => l.own = true ∧ l.row = false ∧ l.off = 0 ∧ W.heap[l.block]? = some (.deferred (if isOpen then some [] else none))

theorem ORel.mono {P : Program} {ok : Nat → Code → Bool} {ι ι' : Iota} {l : Loc} {o : AObj} {W W' : World} (h : Le ι ι') (hb : W'.heap[l.block]? = W.heap[l.block]?) (p : ORel P ok ι l o W) : ORel P ok ι' l o W' := by
  have hlt : l.block < W.heap.size → l.block < W'.heap.size := fun h1 => by
    have : W'.heap[l.block]? = some (W.heap[l.block]) := by rw [hb]; exact Array.getElem?_eq_getElem h1
    exact (Array.getElem?_eq_some_iff.1 this).1
  match o, p with
  | .row true e cells lo hi, ⟨h1, h2, h3, h4, h5, h6, c', fr, hc, h7, h8, h9⟩ => exact ⟨h1, h2, h3, h4, h5, h6, c', fr, hb.trans hc, h7, h8, fun i hi => (h9 i hi).mono h⟩
  | .row false e cells lo hi, ⟨h1, h2, h3, h4, h5, h6, h7⟩ =>
    refine ⟨h1, h2, h3, h4, h5, hlt h6, fun i hi => ?_⟩
    obtain ⟨v', hv, hr⟩ := h7 i hi
    exact ⟨v', by simpa [World.cell?, hb] using hv, hr.mono h⟩
  | .map es clock, ⟨h1, h2, h3, es', hc, h4, h5⟩ =>
    refine ⟨h1, h2, h3, es', hb.trans hc, h4, fun i e he => ?_⟩
    obtain ⟨e', h6, h7, h8, h9⟩ := h5 i e he
    exact ⟨e', h6, h7, h8, h9.mono h⟩
  | .iter x pos, ⟨h1, h2, h3, h4⟩ => exact ⟨h1, h2, h3, hb.trans h4⟩
  | .loop st pending t params assign body defers, ⟨h1, h2, h3, r, hc, a1, a2, a3, a4, a5, a6, a7, a8, a9, ld, d1, d2, d3⟩ =>
    exact ⟨h1, h2, h3, r, hb.trans hc, a1, a2, a3, a4, a5, fun i hi => (a6 i hi).mono h, a7, a8, a9, ld, h.keep d1 d2, d2, d3⟩
  | .deferred _, ⟨h1, h2, h3, h4⟩ => exact ⟨h1, h2, h3, hb.trans h4⟩

theorem ORel.lt {P : Program} {ok : Nat → Code → Bool} {ι : Iota} {l : Loc} {o : AObj} {W : World} (p : ORel P ok ι l o W) : l.block < W.heap.size := by
  match o, p with
  | .row true e cells lo hi, ⟨_, _, _, _, _, _, c', fr, hc, _⟩ => exact (Array.getElem?_eq_some_iff.1 hc).1
  | .row false e cells lo hi, ⟨_, _, _, _, _, h, _⟩ => exact h
  | .map es clock, ⟨_, _, _, es', hc, _⟩ => exact (Array.getElem?_eq_some_iff.1 hc).1
  | .iter x pos, ⟨_, _, _, hc⟩ => exact (Array.getElem?_eq_some_iff.1 hc).1
  | .loop .., ⟨_, _, _, r, hc, _⟩ => exact (Array.getElem?_eq_some_iff.1 hc).1
  | .deferred _, ⟨_, _, _, hc⟩ => exact (Array.getElem?_eq_some_iff.1 hc).1

/-- The abstract state and the world. G: how many package-level variables there are. -/
structure Rel (P : Program) (ok : Nat → Code → Bool) (G : Nat) (ι : Iota) (s : AS) (W : World) : Prop where
  next : ∀ k, s.next ≤ k → ι k = .free
  pick : ∀ k, s.pick = some k → ι k = .free ∧ k < s.next ∧ G ≤ k
  live : ∀ k l, ι k = .live l → ∃ o, s.get k = some o ∧ ORel P ok ι l o W
  dead : ∀ k, ι k = .dead → s.get k = none
  inj : ∀ k k' l l', ι k = .live l → ι k' = .live l' → l.own = true → l.block = l'.block → k = k'
  glob : ∀ g, g < G → ι g = .dead ∨ ∃ l, ι g = .live l ∧ l.block = g ∧ l.off = 0
  gnext : G ≤ s.next

structure Post (P : Program) (ok : Nat → Code → Bool) (G : Nat) (ι : Iota) (W : World) (ι' : Iota) (s' : AS) (W' : World) : Prop where
  le : Le ι ι'
  rel : Rel P ok G ι' s' W'
  frame : ∀ b, b < W.heap.size → (∀ k l, ι k = .live l → l.own = true → l.block ≠ b) → W'.heap[b]? = W.heap[b]?
  grow : W.heap.size ≤ W'.heap.size
  os : W'.os = W.os
  tape : W'.tape = W.tape
  output : W'.output = W.output
  own : ∀ k l, ι' k = .live l → l.own = true → (∃ k0 l0, ι k0 = .live l0 ∧ l0.own = true ∧ l0.block = l.block) ∨ W.heap.size ≤ l.block

variable {P : Program} {ok : Nat → Code → Bool} {G : Nat}

theorem Rel.free {ι : Iota} {s : AS} {W : World} (h : Rel P ok G ι s W) : ι s.id = .free := by
  unfold AS.id
  cases hp : s.pick with
  | none => exact h.next _ (Nat.le_refl _)
  | some k => exact (h.pick k hp).1
theorem Rel.low {ι : Iota} {s : AS} {W : World} (h : Rel P ok G ι s W) : G ≤ s.id := by
  unfold AS.id
  cases hp : s.pick with
  | none => exact h.gnext
  | some k => exact (h.pick k hp).2.2
theorem Rel.idlt {ι : Iota} {s : AS} {W : World} (h : Rel P ok G ι s W) (o : AObj) : s.id < (s.new o).next := by
  unfold AS.id AS.new
  cases hp : s.pick with
  | none => exact Nat.lt_succ_self _
  | some k => exact (h.pick k hp).2.1

theorem Post.refl {ι : Iota} {s : AS} {W : World} (h : Rel P ok G ι s W) : Post P ok G ι W ι s W :=
  ⟨.refl ι, h, fun _ _ _ => rfl, Nat.le_refl _, rfl, rfl, rfl, fun k l hk ho => .inl ⟨k, l, hk, ho, rfl⟩⟩

theorem Post.trans {ι ι1 ι2 : Iota} {s1 s2 : AS} {W W1 W2 : World} (h : Post P ok G ι W ι1 s1 W1) (h' : Post P ok G ι1 W1 ι2 s2 W2) : Post P ok G ι W ι2 s2 W2 where
  le := h.le.trans h'.le
  rel := h'.rel
  frame := fun b hb hn => by
    rw [h'.frame b (Nat.lt_of_lt_of_le hb h.grow) fun k l hk ho e => ?_, h.frame b hb hn]
    rcases h.own k l hk ho with ⟨k0, l0, h1, h2, h3⟩ | h1
    · exact hn k0 l0 h1 h2 (h3.trans e)
    · omega
  grow := Nat.le_trans h.grow h'.grow
  os := h'.os.trans h.os
  tape := h'.tape.trans h.tape
  output := h'.output.trans h.output
  own := fun k l hk ho => by
    rcases h'.own k l hk ho with ⟨k0, l0, h1, h2, h3⟩ | h1
    · rcases h.own k0 l0 h1 h2 with ⟨k1, l1, g1, g2, g3⟩ | h4
      · exact .inl ⟨k1, l1, g1, g2, g3.trans h3⟩
      · exact .inr (h3 ▸ h4)
    · exact .inr (Nat.le_trans h.grow h1)

/-- The world drew. -/
theorem Rel.drew {ι : Iota} {s : AS} {W W' : World} (h : Rel P ok G ι s W) (hh : W'.heap = W.heap) : Rel P ok G ι s W' where
  next := h.next
  pick := h.pick
  live := fun k l hk => let ⟨o, h1, h2⟩ := h.live k l hk; ⟨o, h1, h2.mono (.refl ι) (by rw [hh])⟩
  dead := h.dead
  inj := h.inj
  glob := h.glob
  gnext := h.gnext
theorem Post.drew {ι ι' : Iota} {s' : AS} {W W1 W' : World} (hh : W1.heap = W.heap) (h1 : W1.os = W.os) (h2 : W1.tape = W.tape) (h3 : W1.output = W.output) (h : Post P ok G ι W1 ι' s' W') : Post P ok G ι W ι' s' W' where
  le := h.le
  rel := h.rel
  frame := fun b hb hn => by rw [h.frame b (hh ▸ hb) hn, hh]
  grow := hh ▸ h.grow
  os := h.os.trans h1
  tape := h.tape.trans h2
  output := h.output.trans h3
  own := fun k l hk ho => by rw [← hh]; exact h.own k l hk ho

def upd (ι : Iota) (k : Nat) (x : Slot) : Iota := fun j => if j = k then x else ι j
theorem upd_same (ι : Iota) (k : Nat) (x : Slot) : upd ι k x k = x := by simp [upd]
theorem upd_other {ι : Iota} {k j : Nat} (x : Slot) (h : j ≠ k) : upd ι k x j = ι j := by simp [upd, h]
theorem Le.upd_free {ι : Iota} {k : Nat} (x : Slot) (h : ι k = .free) : Le ι (upd ι k x) := fun j => by
  by_cases hj : j = k
  · subst hj; simp [h]
  · rw [upd_other x hj]; cases ι j <;> simp

theorem heap_push_lt (W : World) (o : Obj) {b : Nat} (h : b < W.heap.size) : (W.alloc o).heap[b]? = W.heap[b]? := by
  show (W.heap.push o)[b]? = W.heap[b]?
  rw [Array.getElem?_push, if_neg (Nat.ne_of_lt h)]
theorem heap_push_new (W : World) (o : Obj) : (W.alloc o).heap[W.heap.size]? = some o := by
  show (W.heap.push o)[W.heap.size]? = some o
  rw [Array.getElem?_push, if_pos rfl]
theorem size_push (W : World) (o : Obj) : (W.alloc o).heap.size = W.heap.size + 1 := by
  show (W.heap.push o).size = W.heap.size + 1
  simp

/-- A new object. -/
theorem post_new' {ι : Iota} {s : AS} {W W' : World} (h : Rel P ok G ι s W) (o : AObj) (l : Loc) (hl : W.heap.size ≤ l.block)
    (hold : ∀ b, b < W.heap.size → W'.heap[b]? = W.heap[b]?) (hsize : W.heap.size ≤ W'.heap.size) (hos : W'.os = W.os) (ht : W'.tape = W.tape) (hout : W'.output = W.output)
    (hO : ORel P ok (upd ι s.id (.live l)) l o W') : Post P ok G ι W (upd ι s.id (.live l)) (s.new o) W' := by
  have hfree : ι s.id = .free := h.free
  have hle : Le ι (upd ι s.id (.live l)) := .upd_free _ hfree
  have hne : ∀ k l0, ι k = .live l0 → k ≠ s.id := fun k l0 hk e => by rw [e, hfree] at hk; cases hk
  refine ⟨hle, ⟨?_, ?_, ?_, ?_, ?_, ?_, ?_⟩, ?_, hsize, hos, ht, hout, ?_⟩
  · intro k hk
    have h1 := h.idlt o
    have h2 := (AS.next_new s o).1
    rw [upd_other _ (by omega)]
    exact h.next k (by omega)
  · intro k hk
    rw [AS.pick_new] at hk
    cases hk
  · intro k l1 hk
    by_cases e : k = s.id
    · subst e
      rw [upd_same] at hk
      cases hk
      exact ⟨o, by rw [AS.get_new, if_pos rfl], hO⟩
    · rw [upd_other _ e] at hk
      obtain ⟨o1, h1, h2⟩ := h.live k l1 hk
      exact ⟨o1, by rw [AS.get_new, if_neg e]; exact h1, h2.mono hle (hold _ h2.lt)⟩
  · intro k hk
    by_cases e : k = s.id
    · subst e; rw [upd_same] at hk; cases hk
    · rw [upd_other _ e] at hk
      rw [AS.get_new, if_neg e]
      exact h.dead k hk
  · intro k k' l1 l2 hk hk' ho1 hb
    by_cases e : k = s.id <;> by_cases e' : k' = s.id
    · omega
    · subst e
      rw [upd_same] at hk; cases hk
      rw [upd_other _ e'] at hk'
      obtain ⟨o1, _, h2⟩ := h.live k' l2 hk'
      have := h2.lt
      omega
    · subst e'
      rw [upd_same] at hk'; cases hk'
      rw [upd_other _ e] at hk
      obtain ⟨o1, _, h2⟩ := h.live k l1 hk
      have := h2.lt
      omega
    · rw [upd_other _ e] at hk
      rw [upd_other _ e'] at hk'
      exact h.inj k k' l1 l2 hk hk' ho1 hb
  · intro g hg
    have e : g ≠ s.id := by have := h.low; omega
    rw [upd_other _ e]
    exact h.glob g hg
  · have := h.gnext; have := (AS.next_new s o).1; omega
  · intro b hb _
    exact hold b hb
  · intro k l1 hk ho1
    by_cases e : k = s.id
    · subst e; rw [upd_same] at hk; cases hk
      exact .inr (by omega)
    · rw [upd_other _ e] at hk
      exact .inl ⟨k, l1, hk, ho1, rfl⟩

theorem post_new {ι : Iota} {s : AS} {W : World} (h : Rel P ok G ι s W) (o : AObj) (o' : Obj) (l : Loc) (hl : l.block = W.heap.size) (ho : l.own = true)
    (hO : ORel P ok (upd ι s.id (.live l)) l o (W.alloc o')) : Post P ok G ι W (upd ι s.id (.live l)) (s.new o) (W.alloc o') :=
  post_new' h o l (by omega) (fun b hb => heap_push_lt W o' hb) (by rw [size_push]; omega) rfl rfl rfl hO

/-- An object of the call's own is written. -/
theorem post_set {ι : Iota} {s : AS} {W W' : World} (h : Rel P ok G ι s W) {k : Nat} {l : Loc} (hk : ι k = .live l) (hown : l.own = true) (o : AObj)
    (hheap : ∀ b, b ≠ l.block → W'.heap[b]? = W.heap[b]?) (hsize : W'.heap.size = W.heap.size) (hos : W'.os = W.os) (ht : W'.tape = W.tape) (hout : W'.output = W.output)
    (hO : ORel P ok ι l o W') : Post P ok G ι W ι (s.set k (some o)) W' := by
  refine ⟨.refl ι, ⟨?_, h.pick, ?_, ?_, h.inj, h.glob, h.gnext⟩, ?_, by omega, hos, ht, hout, fun k l hk ho => .inl ⟨k, l, hk, ho, rfl⟩⟩
  · intro j hj; exact h.next j hj
  · intro j l1 hj
    by_cases e : j = k
    · subst e
      rw [hk] at hj; cases hj
      exact ⟨o, by rw [AS.get_set, if_pos rfl], hO⟩
    · obtain ⟨o1, h1, h2⟩ := h.live j l1 hj
      refine ⟨o1, by rw [AS.get_set, if_neg e]; exact h1, h2.mono (.refl ι) (hheap _ fun eb => e ?_)⟩
      exact (h.inj k j l l1 hk hj hown eb.symm).symm
  · intro j hj
    have e : j ≠ k := fun e => by rw [e, hk] at hj; cases hj
    rw [AS.get_set, if_neg e]
    exact h.dead j hj
  · intro b _ hn
    exact hheap b fun e => hn k l hk hown e.symm

/-- A row is given up: its number is dead. -/
theorem rel_kill {ι : Iota} {s : AS} {W : World} (h : Rel P ok G ι s W) {k : Nat} {l : Loc} (hk : ι k = .live l) (hown : l.own = true) (hrow : l.row = true) :
    Post P ok G ι W (upd ι k .dead) (s.set k none) W := by
  have hle : Le ι (upd ι k .dead) := fun j => by
    by_cases e : j = k
    · subst e; rw [hk]; exact .inr ⟨hrow, upd_same _ _ _⟩
    · rw [upd_other _ e]; cases ι j <;> simp
  have other : ∀ j l1, upd ι k .dead j = .live l1 → ι j = .live l1 ∧ j ≠ k := fun j l1 hj => by
    by_cases e : j = k
    · subst e; rw [upd_same] at hj; cases hj
    · rw [upd_other _ e] at hj; exact ⟨hj, e⟩
  refine ⟨hle, ⟨?_, ?_, ?_, ?_, ?_, ?_, h.gnext⟩, fun _ _ _ => rfl, Nat.le_refl _, rfl, rfl, rfl, fun j l1 hj ho => .inl ⟨j, l1, (other j l1 hj).1, ho, rfl⟩⟩
  · intro j hj
    have e : j ≠ k := fun e => by rw [e, ] at hj; rw [h.next k hj] at hk; cases hk
    rw [upd_other _ e]
    exact h.next j hj
  · intro j hj
    obtain ⟨h1, h2, h3⟩ := h.pick j hj
    have e : j ≠ k := fun e => by rw [e, hk] at h1; cases h1
    rw [upd_other _ e]
    exact ⟨h1, h2, h3⟩
  · intro j l1 hj
    obtain ⟨h1, e⟩ := other j l1 hj
    obtain ⟨o1, h2, h3⟩ := h.live j l1 h1
    exact ⟨o1, by rw [AS.get_set, if_neg e]; exact h2, h3.mono hle rfl⟩
  · intro j hj
    by_cases e : j = k
    · subst e; rw [AS.get_set, if_pos rfl]
    · rw [upd_other _ e] at hj
      rw [AS.get_set, if_neg e]
      exact h.dead j hj
  · intro j j' l1 l2 hj hj' ho hb
    exact h.inj j j' l1 l2 (other j l1 hj).1 (other j' l2 hj').1 ho hb
  · intro g hg
    by_cases e : g = k
    · subst e; exact .inl (upd_same _ _ _)
    · rw [upd_other _ e]; exact h.glob g hg

/-- A block that nobody speaks of any more gets a new number, and is written. -/
theorem post_adopt {ι : Iota} {s : AS} {W W' : World} (h : Rel P ok G ι s W) (o : AObj) (l : Loc) (hfresh : ∀ k l0, ι k = .live l0 → l0.block ≠ l.block) (hown : l.own = true)
    (hheap : ∀ b, b ≠ l.block → W'.heap[b]? = W.heap[b]?) (hsize : W'.heap.size = W.heap.size) (hos : W'.os = W.os) (ht : W'.tape = W.tape) (hout : W'.output = W.output)
    (hO : ORel P ok (upd ι s.id (.live l)) l o W') : Le ι (upd ι s.id (.live l)) ∧ Rel P ok G (upd ι s.id (.live l)) (s.new o) W' := by
  have hfree : ι s.id = .free := h.free
  have hle : Le ι (upd ι s.id (.live l)) := .upd_free _ hfree
  refine ⟨hle, ⟨?_, ?_, ?_, ?_, ?_, ?_, ?_⟩⟩
  · intro k hk
    have h1 := h.idlt o
    have h2 := (AS.next_new s o).1
    rw [upd_other _ (by omega)]
    exact h.next k (by omega)
  · intro k hk
    rw [AS.pick_new] at hk
    cases hk
  · intro k l1 hk
    by_cases e : k = s.id
    · subst e; rw [upd_same] at hk; cases hk
      exact ⟨o, by rw [AS.get_new, if_pos rfl], hO⟩
    · rw [upd_other _ e] at hk
      obtain ⟨o1, h1, h2⟩ := h.live k l1 hk
      exact ⟨o1, by rw [AS.get_new, if_neg e]; exact h1, h2.mono hle (hheap _ (hfresh k l1 hk))⟩
  · intro k hk
    by_cases e : k = s.id
    · subst e; rw [upd_same] at hk; cases hk
    · rw [upd_other _ e] at hk
      rw [AS.get_new, if_neg e]
      exact h.dead k hk
  · intro k k' l1 l2 hk hk' ho1 hb
    by_cases e : k = s.id <;> by_cases e' : k' = s.id
    · omega
    · subst e; rw [upd_same] at hk; cases hk
      rw [upd_other _ e'] at hk'
      exact absurd hb.symm (hfresh k' l2 hk')
    · subst e'; rw [upd_same] at hk'; cases hk'
      rw [upd_other _ e] at hk
      exact absurd hb (hfresh k l1 hk)
    · rw [upd_other _ e] at hk
      rw [upd_other _ e'] at hk'
      exact h.inj k k' l1 l2 hk hk' ho1 hb
  · intro g hg
    have e : g ≠ s.id := by have := h.low; omega
    rw [upd_other _ e]
    exact h.glob g hg
  · have := h.gnext; have := (AS.next_new s o).1; omega
end Go.AE
