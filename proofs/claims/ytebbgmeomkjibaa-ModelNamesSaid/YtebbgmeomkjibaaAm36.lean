/- The abstract machine, part 36: maps.clone. -/
import Derived.Test.YtebbgmeomkjibaaAm24
set_option linter.unusedSimpArgs false
set_option linter.unusedVariables false
namespace Go.AM
section
variable {P : Program} {E : Env} {B : Nat} {F : Nat → Nat → Prop} {H : Heap}

/-- maps.clone: the same entries in a new map. -/
def primClone : Prim := fun fr dst g as => match as, dst with
  | [.face t (.map f s)], some d => (match g fr d, g f s with
    | none, some (.map es bs clk) => some (.face t (.map fr d), some (fr, d, .map es bs clk))
    | _, _ => none)
  | _, _ => none

def Env.newMapOf (E : Env) (f0 s0 : Nat) (ces : Array MapEntry) (clk d : Nat) : Env :=
  { w := E.push (.map ces clk) d, mu := upd E.mu f0 s0 (some E.w.heap.size), reg := E.reg, mod := E.mod }

theorem Sim.newMapOf (S : Sim B F H E) {f0 s0 : Nat} (hf : f0 < H.length) (hn : hget H f0 s0 = none) {es : List (V × V)} {ces : Array MapEntry} (clk d : Nat) (hr : RelM E es ces.toList) :
    Ext H.length B E (E.newMapOf f0 s0 ces clk d) ∧ Sim B F (hset H f0 s0 (.map es (ces.toList.map (·.born)) clk)) (E.newMapOf f0 s0 ces clk d) := by
  have hmn := S.mu_none hn
  have X : Ext H.length B E (E.newMapOf f0 s0 ces clk d) := by
    refine ext_push S.bsz _ d _ _ _ ?_ ?_ ?_
    · intro f s b h
      by_cases e : f = f0 ∧ s = s0
      · rw [e.1, e.2, hmn] at h; cases h
      · rw [upd_other _ _ e]; exact h
    · exact fun f s n b lo hi _ h => ⟨n, b, lo, hi, h, .inr ⟨rfl, rfl, rfl, rfl⟩⟩
    · exact fun b i hb hm h => hm h
  refine ⟨X, S.step f0 s0 _ hf X (fun f s e => upd_other _ _ e) (by simp [Env.newMapOf, upd_same]) (fun f s e => rfl) ?_ ?_ ?_ ?_ ?_ ?_⟩
  · intro n x h
    have := S.reg_none hn
    simp only [Env.newMapOf] at h
    rw [this] at h; cases h
  · intro f s o b e ho hb
    exact ⟨push_old E _ d b (S.blk_lt ho hb), fun i h => h⟩
  · exact fun b i h => S.fmod b i h
  · intro b i h
    simp only [Env.newMapOf, Env.push, Array.size_push] at h ⊢
    exact Nat.lt_succ_of_lt (S.modsz b i h)
  · exact ⟨E.w.heap.size, ces, upd_same _ _ _ _, S.bsz, push_new E _ d, RelM.mono X S.lt _ _ hr, rfl⟩
  · intro f s o b e ho hb h
    simp only [blk, Env.newMapOf, upd_same, Option.some.injEq] at h
    have := S.blk_lt ho hb
    omega

theorem sound_clone {f : FuncId} (hx : IsExtern P f Extern.MapsClone.clone) (S : Sim B F H E) {fr : Nat} (hlt : fr < H.length) {dst : Option Nat} {args : List V} {cargs : List Value} {v : V} {x : Option (Nat × Nat × O)}
    (hr : RelL E args cargs) (h : primClone fr dst (hget H) args = some (v, x)) : Invokes P f ⟨cargs⟩ E.w (Answer B F H E (.ret v) (wr H x)) := by
  unfold primClone at h
  split at h
  case h_2 => cases h
  rename_i t f1 s1 d
  split at h
  case h_2 => cases h
  rename_i es bs clk hn hm
  cases h
  obtain ⟨c, r, rfl, h1, h2⟩ := RelL.cons_iff.1 hr
  rw [RelL.nil_iff] at h2; subst h2
  simp only [Rel] at h1
  obtain ⟨c, rfl, b, hb, rfl⟩ := h1
  obtain ⟨b', ces, g1, g2, g3, g4, g5⟩ := S.obj f1 s1 _ hm
  rw [hb] at g1; cases g1
  subst g5
  obtain ⟨X, S'⟩ := S.newMapOf hlt hn clk E.w.drawn g4
  refine .inl ⟨.iface t (.map (some E.w.heap.size)), (E.newMapOf fr d ces clk E.w.drawn).w, hx.run ?_, E.newMapOf fr d ces clk E.w.drawn, rfl, ⟨_, rfl, ?_⟩, S', X, by rw [wr_length]; exact Nat.le_refl _⟩
  · have hdef : Extern.MapsClone.clone #[.iface t (.map (some b))] = (do
      let .map entries clock ← getObj b | stuck "maps.clone: a map expected"
      pure (.iface t (.map (some (← newObj (.map entries clock)))))) := rfl
    show Sem.run P (Extern.MapsClone.clone #[.iface t (.map (some b))]) E.w = _
    rw [hdef]
    simp [run_getMap g3, Env.newMapOf, Env.push]
  · simp only [Rel]
    exact ⟨_, rfl, E.w.heap.size, upd_same _ _ _ _, rfl⟩
end
end Go.AM
