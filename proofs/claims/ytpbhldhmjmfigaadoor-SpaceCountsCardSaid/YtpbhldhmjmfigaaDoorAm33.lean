/- The abstract machine, part 33: parts of slices that may change, copies. -/
import Derived.Test.YtpbhldhmjmfigaaDoorAm32
set_option linter.unusedSimpArgs false
set_option linter.unusedVariables false
namespace Go.AM
section
variable {P : Program} {u e : TypeId} {g : Get}
theorem cut_from (hu : P.underlying u = some (.slice e)) {q : Nat} (hs : sz P e = some q) {f s o len c : Nat} {w : Nat} {k : IntKind} (h : w ≤ len) (hc : len ≤ c) :
    ∀ g, sliceV P g u (.mslice f s o len (some c) q) (some (.int k w)) none none = some (.mslice f s (if c = w then o else o + w * q) (len - w) (some (c - w)) q) := by
  intro g
  simp only [sliceV, optInt, hu, hs, if_true, cutM, cuts, Option.getD_none, Option.getD_some]
  rw [if_pos ⟨by omega, by omega, by omega, by omega, by omega, by omega, by simp⟩]
  simp
theorem cut_to (hu : P.underlying u = some (.slice e)) {q : Nat} (hs : sz P e = some q) {f s o len c : Nat} {w : Nat} {k k' : IntKind} (h : w ≤ len) (hc : len ≤ c) (hp : 0 < c) :
    ∀ g, sliceV P g u (.mslice f s o len (some c) q) (some (.int k' 0)) (some (.int k w)) none = some (.mslice f s o w (some c) q) := by
  intro g
  simp only [sliceV, optInt, hu, hs, if_true, cutM, cuts, Option.getD_none, Option.getD_some]
  rw [if_pos ⟨by omega, by omega, by omega, by omega, by omega, by omega, by simp⟩]
  simp

theorem splice_bytes (xs m : List UInt8) (o : Nat) : splice (ofBytes xs) o (ofBytes m) = ofBytes (xs.take o ++ m ++ xs.drop (o + m.length)) := by
  simp [splice, ofBytes]
/-- Bytes are copied over those of an object. -/
theorem copy_bytes (hu : P.underlying u = some (.slice e)) (hs : sz P e = some 1) {f s o n : Nat} {cap : Option Nat} {xs m : List UInt8} {v : V} (hg : g f s = some (.cells (ofBytes xs))) (ho : o + n ≤ xs.length) (hv : sliceCells g 1 v = some (ofBytes m, m.length)) (hns : ∀ l, v ≠ .str l) :
    copyV P g u (.mslice f s o n cap 1) v = some (.val (.int .i64 (min m.length n : Nat)) (some (f, s, .cells (ofBytes (xs.take o ++ m.take (min m.length n) ++ xs.drop (o + min m.length n)))))) := by
  have e1 : copySrc g 1 v = some (ofBytes m, m.length) := by
    cases v with
    | str l => exact absurd rfl (hns l)
    | _ => exact hv
  have e2 : ((ofBytes m).take (min m.length n * 1)).all V.scalar = true := by rw [ofBytes_take]; exact scalar_ofBytes _
  simp only [copyV, hu, hs, e1, copyTo, if_true, hg, Nat.mul_one, ofBytes_length]
  rw [Nat.mul_one] at e2
  rw [if_pos ⟨ho, e2⟩, ofBytes_take, splice_bytes]
  simp only [List.length_take]
  rw [show min (min m.length n) m.length = min m.length n by omega]
end
/-- How loud an operation is: not at all, it asks alone, more. -/
def FP.kind : FP → Nat
  | .quiet => 0
  | .ids _ [] => 1
  | _ => 2
def okK (bef : Array Nat) : List (Nat × Nat) → Bool
  | [] => true
  | (a, i) :: r => r.all (fun (b, j) => (bef.getD j 0).testBit i || (Nat.ble a 1 && Nat.ble b 1)) && okK bef r
theorem indep_kind : ∀ a b : FP, Nat.ble a.kind 1 = true → Nat.ble b.kind 1 = true → a.indep b = true
  | .quiet, _, _, _ => rfl
  | .ids _ [], .quiet, _, _ => rfl
  | .ids _ (_ :: _), .quiet, _, _ => rfl
  | .all, .quiet, _, _ => rfl
  | .ids _ [], .ids _ [], _, _ => rfl
  | .ids _ (_ :: _), _, h, _ => by cases h
  | .all, _, h, _ => by cases h
  | _, .ids _ (_ :: _), _, h => by cases h
  | _, .all, _, h => by cases h
theorem okT_of_okK (bef : Array Nat) : ∀ T : List (FP × Nat), okK bef (T.map fun x => (x.1.kind, x.2)) = true → okT bef T = true
  | [], _ => rfl
  | (a, i) :: r, h => by
    simp only [List.map_cons, okK, Bool.and_eq_true, List.all_eq_true] at h
    simp only [okT, Bool.and_eq_true, List.all_eq_true]
    refine ⟨fun x hx => ?_, okT_of_okK bef r h.2⟩
    have := h.1 (x.1.kind, x.2) (List.mem_map.2 ⟨x, hx, rfl⟩)
    simp only [Bool.or_eq_true, Bool.and_eq_true] at this ⊢
    exact this.imp id fun ⟨p, q⟩ => indep_kind _ _ p q
theorem W.opsK {P : Program} {pol : Pol} {C : Call} {L : Body → Body} {fn fr : Nat} {t : List V} {H : Heap} {a : Array Oper} {T : List FP} {k : List It} {Q : Ex → List V → Heap → Prop}
    (h : okK (Region.before a) ((loud T.reverse).map fun x => (x.1.kind, x.2)) = true) (h2 : W (U P pol C L fn fr k .normal t H) Q) : W (U P pol C L fn fr (.opsT a [] T :: k) .normal t H) Q :=
  W.opsT (okT_of_okK _ _ h) h2
theorem IsSl.notStr {esz n : Nat} {v : V} {cells : List V} (h : IsSl esz v cells n) (l : List UInt8) : v ≠ .str l := by
  obtain ⟨_, ⟨rfl, _⟩ | ⟨f, rfl⟩⟩ := h <;> simp
end Go.AM
