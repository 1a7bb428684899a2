import Derived.Test.YtgakphbkknfmdaaDoorPD5
import Derived.Test.YtgakphbkknfmdaaDoorAEGA
import Derived.Test.YtgakphbkknfmdaaDoorCards
import Derived.Test.YtgakphbkknfmdaaDoorTie
import Derived.Lib.SmallJoins
import Derived.Lib.LaidTab
set_option linter.all false
set_option linter.unusedSimpArgs false
set_option linter.unusedVariables false
set_option maxRecDepth 100000
namespace Go.AE.D
open Go Go.Proofs Go.AE Go.ChangeShapes Go.WideShapes Go.RowKit Go.Joins Go.Deep Go.WideElems Go.Proofs.YtgakphbkknfmdaaDoor
theorem par5 : Tryd.f5.params.toList = [48, 48] := by kernel_rfl
theorem fun5 : Tryd.prog.funcs[5]? = some Tryd.f5 := by kernel_rfl
def fW : Field := { name := "W", type := 3, offset := 0, embedded := false, tag := "", pkgPath := "", byteOffset := 0 }
def fH : Field := { name := "H", type := 3, offset := 1, embedded := false, tag := "", pkgPath := "", byteOffset := 8 }
def fP : Field := { name := "L", type := 22, offset := 2, embedded := false, tag := "", pkgPath := "", byteOffset := 16 }
theorem u48 : Tryd.prog.underlying 48 = some (.struct #[fW, fH, fP]) := by kernel_rfl
theorem one48 : oneCellFields Tryd.prog #[fW, fH, fP] = true := by kernel_rfl
theorem cells48 : Tryd.prog.cellsOf 48 = 3 := by kernel_rfl
theorem u3 : Tryd.prog.underlying 3 = some (.int .i64) := by kernel_rfl
theorem u22 : Tryd.prog.underlying 22 = some (.slice 3) := by kernel_rfl
theorem cells3 : Tryd.prog.cellsOf 3 = 1 := by kernel_rfl
theorem info3 : (Tryd.prog.info? 3).map (·.size) = some 1 := by kernel_rfl
theorem laidOut : laidOutB Tryd.prog = true := by kernel_rfl
theorem read48 : Tryd.prog.readableRec 48 = true := by kernel_rfl
theorem lt48 : 48 < Tryd.prog.types.size := of_decide_eq_true (by kernel_rfl)

/-- An image that is handed in: its cells, and what stands for it. -/
theorem in_img {H : Type} {enc : TypeId × Value → H} {W : World} {base : Nat} {v : Value} {d : DataW H} {p : List MemPlace} (hv : Value.okWide Tryd.prog W .any base 48 v) (h : DataW.Trod enc Tryd.prog W 0 (fun _ => true) true 48 v d p) (k : Nat) :
    ∃ (w h : Int) (L A : Value) (zs : List Int) (y : Slot) (o : Option AObj), v = .agg #[.int .i64 w, .int .i64 h, L] ∧ InOk Tryd.prog W y o ∧ zs.length ≤ maxLen ∧ (∀ s : AS, s.get k = o → IntsAt s A zs) ∧ ∀ ι : Iota, ι k = y → VRel ι A L := by
  obtain ⟨v0, v1, v2, y0, y1, y2, n, rfl, _, _, h0, h1, h2⟩ := open_agg3 u48 one48 cells48 hv h
  obtain ⟨a, e0, _⟩ := DataW.trod_int u3 h0
  obtain ⟨b, e1, _⟩ := DataW.trod_int u3 h1
  cases e0
  cases e1
  obtain ⟨A, zs, y, o, q1, q2, q3, q4⟩ := in_ints u22 u3 cells3 info3 h2 k
  exact ⟨a, b, v2, A, zs, y, o, rfl, q1, q2, q3, q4⟩
theorem img_rel {ι : Iota} {w h : Int} {A L : Value} (q : VRel ι A L) : VRel ι (img w h A) (.agg #[.int .i64 w, .int .i64 h, L]) :=
  .agg rfl fun i hi => match i, hi with
    | 0, _ => .int _ _
    | 1, _ => .int _ _
    | 2, _ => q

theorem contract (H : Type) (enc : TypeId × Value → H) (W : World) (base : Nat) (args : Array Value) (ds gs : List (DataW H)) (before : List MemPlace)
    (hval : ∀ (j : Nat) t v, Tryd.f5.params[j]? = some t → args[j]? = some v → Value.okWide Tryd.prog W .any base t v)
    (hW : DataW.Whole enc Tryd.prog Tryd.f5.params.toList Rows.picDiffsSpec.vars false W args.toList ds gs before) :
    Go.Calls Tryd.prog 5 args W fun e W' => ∃ v, e = .returned v ∧ Rows.picDiffsSpec.post enc Tryd.prog Tryd.f5 false true false false W args v W' := by
  have hW' := hW
  obtain ⟨p, q, hA0, hV, rfl, hfz, hnd⟩ := hW
  have hA : DataW.TrodAll enc Tryd.prog W 0 (fun _ => true) true Tryd.f5.params.toList args.toList ds p := hA0
  have hpar : Tryd.f5.params = #[48, 48] := by kernel_rfl
  rw [hpar] at hA hval
  obtain ⟨v0, vs0, d0, ds0, p0, q0, hargs, rfl, rfl, h0, r0⟩ := trodAll_cons hA
  obtain ⟨v1, vs1, d1, ds1, p1, q1, rfl, rfl, rfl, h1, r1⟩ := trodAll_cons r0
  obtain ⟨rfl, rfl, rfl⟩ := trodAll_nil r1
  obtain rfl : args = #[v0, v1] := by cases args; simp_all
  obtain ⟨rfl, rfl⟩ := trodVars_none hV
  obtain ⟨w, h, L, A, zs, y, o, rfl, i1, i2, i3, i4⟩ := in_img (hval 0 48 v0 rfl rfl) h0 8
  obtain ⟨w', h', L', A', zs', y', o', rfl, j1, j2, j3, j4⟩ := in_img (hval 1 48 v1 rfl rfl) h1 9
  clear hA0
  have hmax : maxLen < 9223372036854775808 := by decide
  have hls : ∀ x ∈ [(y, o), (y', o')], InOk Tryd.prog W x.1 x.2 := fun x hx => by
    simp only [List.mem_cons, List.mem_nil_iff, or_false] at hx
    rcases hx with rfl | rfl
    · exact i1
    · exact j1
  have std : Std (inS 8 [o, o']).flat := inS_std fun ob hob => by
    simp only [List.mem_cons, List.mem_nil_iff, or_false] at hob
    rcases hob with e | e
    · rcases i1 with ⟨_, e'⟩ | ⟨_, _, _, e', _, c, _⟩ <;> rw [e'] at e <;> cases e
      exact c
    · rcases j1 with ⟨_, e'⟩ | ⟨_, _, _, e', _, c, _⟩ <;> rw [e'] at e <;> cases e
      exact c
  have g8 : (inS 8 [o, o']).flat.get 8 = o := by rw [inS_get]; rfl
  have g9 : (inS 8 [o, o']).flat.get 9 = o' := by rw [inS_get]; rfl
  have walk := calls_true hE hF C7_ok (f := 5) (args := [img w h A, img w' h' A']) (ls := [(y, o), (y', o')]) (W := W) (args' := #[.agg #[.int .i64 w, .int .i64 h, L], .agg #[.int .i64 w', .int .i64 h', L']]) hls
    (law5' (i3 _ g8) (j3 _ g9) (by omega) (by omega) std) ⟨rfl, fun i hi => match i, hi with
      | 0, _ => img_rel (i4 _ rfl)
      | 1, _ => img_rel (j4 _ rfl)⟩
  refine walk.mono fun e W' ⟨he, hb⟩ => ?_
  subst he
  refine ⟨_, rfl, post_below_mk (pa := p0 ++ (p1 ++ [])) (pv := []) hW' hb (fun _ _ _ => trodAll_cons_mk (shut_bool (by kernel_rfl) _) trodAll_mk0) (fun sp hsp => ?_) (fun _ _ => rfl) rfl (ok_one (t := 4) (by kernel_rfl) rfl (okWide_bool_mk (by kernel_rfl) _))⟩
  have lt : ∀ x ∈ p0 ++ (p1 ++ []), x.block < W.heap.size := fun x hx => hW'.lt x (by simpa using hx)
  have hsp' : ∀ x ∈ p0 ++ (p1 ++ []), sp x.block = true := fun x hx => hsp x (by simpa using hx)
  exact trodAll_cons_mk (WideElems.Trod_stays laidOut read48 lt48 h0 (fun x hx => hb.same (lt x (by simp [hx]))) (fun x hx => hsp' x (by simp [hx])))
    (trodAll_cons_mk (WideElems.Trod_stays laidOut read48 lt48 h1 (fun x hx => hb.same (lt x (by simp [hx]))) (fun x hx => hsp' x (by simp [hx]))) trodAll_mk0)
end Go.AE.D
