/- This file holds in one the texts DZ, DX; each says at its head what it proves. -/
import Derived.Test.YtafhcdagifopeaaGreatDoorT34
import Derived.Test.YtafhcdagifopeaaGreatDoorT35
import Derived.Test.YtafhcdagifopeaaGreatDoorT38
import Derived.Test.YtafhcdagifopeaaGreatDoorT39
import Derived.Test.YtafhcdagifopeaaGreatDoorT42
import Derived.Test.YtafhcdagifopeaaGreatDoorT43
import Derived.Lib.AppendZeros
set_option linter.unusedSimpArgs false
set_option linter.unusedVariables false
section
/- slices.Insert of one change: what the program's own does, by its roads: room, none; in the middle, at the end. -/
set_option maxRecDepth 100000
namespace Go.AM
open Go.RowKit Go.Lib
section
variable {P : Program}
theorem wp_copy_runI (w : World) {o : Oper} {a : Act} {K : Act → World → Prop} {Q : Exit → Act → World → Prop} (d s : Operand) (t t' : TypeId)
    (ho : o.op = .call { callee := .builtin .copy, args := #[d, s], argTypes := #[t, t'] }) (v u : Value) (hd : a.eval d = v) (hs : a.eval s = u) {v' : Value} {w' : World}
    (hr : (Builtin.copy_ #[t, t'] o.type #[v, u]).run P w = .ok v' w') (h : K (a.put o.dst v') w') : o.wp P a w K Q := by
  unfold Oper.wp execOp
  simp only [ho, resolve, invoke, builtin, Sem.run_bind, Sem.run_pure, Result.andThen_ok, List.map_toArray, List.map_cons, List.map_nil, hd, hs, hr]
  exact h
theorem wpList_copy_runI (w : World) {ops : Array Oper} {rest : List Oper} {o : Oper} {a : Act} {Q : Exit → Act → World → Prop} (hgd : o.guard = none) (d s : Operand) (t t' : TypeId)
    (ho : o.op = .call { callee := .builtin .copy, args := #[d, s], argTypes := #[t, t'] }) (v u : Value) (hd : a.eval d = v) (hs : a.eval s = u) {v' : Value} {w' : World}
    (hr : (Builtin.copy_ #[t, t'] o.type #[v, u]).run P w = .ok v' w') (h : wpList P ops Q rest (a.put o.dst v') w') : wpList P ops Q (o :: rest) a w :=
  wpList_plain hgd fun _ hK => wp_copy_runI w d s t t' ho v u hd hs hr (hK _ _ h)
theorem step_copy_runI {ops : Array Oper} {o : Oper} {a : Act} {w : World} {K : Act → World → Prop} {Q : Exit → Act → World → Prop} {E : Prop}
    (hg : o.guard = none) (d x : Operand) (dT sT : TypeId) (hop : o.op = Op.call { callee := Callee.builtin Builtin.copy, args := #[d, x], argTypes := #[dT, sT] })
    (v u : Value) (hd : a.eval d = v) (hx : a.eval x = u) {v' : Value} {w' : World} (hr : (Builtin.copy_ #[dT, sT] o.type #[v, u]).run P w = .ok v' w') (hK : K (a.put o.dst v') w') :
    if Region.wanted o (yielded ops a.tmps) = true then Oper.wp P o a w K Q else E := by
  have hw : Region.wanted o (yielded ops a.tmps) = true := by simp [Region.wanted, hg]
  rw [if_pos hw]
  exact wp_copy_runI w d x dT sT hop v u hd hx hr hK


end
end Go.AM
namespace Go.Proofs.YtafhcdagifopeaaGreatDoor
open Go.AM Go.AM.BM Go.RowKit Go.Lib
theorem uS : Tryz.prog.underlying 34 = some (.slice 107) := by kernel_rfl
theorem uI : Tryz.prog.underlying 3 = some (.int .i64) := by kernel_rfl
theorem uB : Tryz.prog.underlying 4 = some .bool := by kernel_rfl
theorem zE : sz Tryz.prog 107 = some 12 := by kernel_rfl
theorem byE : byt Tryz.prog 107 = some 96 := by kernel_rfl
theorem zcE : (zer Tryz.prog 107).map (fun z => z.cells.size) = some 12 := by kernel_rfl
set_option maxHeartbeats 4000000 in
theorem room_mid 
    (w : World) (b n c i m vb voff vc : Nat) (hm : 0 < m) (hi : i < n) (hroom : n + m ≤ c) (hn63 : n + m ≤ 35184372088832) (hov : ∀ lb cb, (callFunc 197 #[.slice (some ⟨vb, voff, none⟩) m vc, .slice (some ⟨b, (i + m) * 12, none⟩) lb cb]).run Tryz.prog w = .ok (.value (.bool false)) w)
    (w1 w2 : World) (hcp1 : ∀ ty dc sc, (Builtin.copy_ #[34, 34] ty #[.slice (some ⟨b, (i + m) * 12, none⟩) (n + m - (i + m)) dc, .slice (some ⟨b, i * 12, none⟩) (n + m - i) sc]).run Tryz.prog w.drew = .ok (goInt ((n - i : Nat) : Int)) w1)
    (hcp2 : ∀ ty dc, (Builtin.copy_ #[34, 34] ty #[.slice (some ⟨b, i * 12, none⟩) (n + m - i) dc, .slice (some ⟨vb, voff, none⟩) m vc]).run Tryz.prog w1 = .ok (goInt m) w2) :
    Calls Tryz.prog 152 #[.slice (some ⟨b, 0, none⟩) n c, .int .i64 i, .slice (some ⟨vb, voff, none⟩) m vc] w fun e w' => e = .returned (.slice (some ⟨b, 0, none⟩) (n + m) c) ∧ w' = w2 := by
  have mixed := Tryz.checked.mixed
  have r34 := run_und (P := Tryz.prog) uS; have r3 := run_und (P := Tryz.prog) uI; have r4 := run_und (P := Tryz.prog) uB
  have z129 : ∀ w, (Go.sizeOf 107).run Tryz.prog w = .ok 12 w := run_sz zE
  have hz1 : ¬ ((m : Int) = 0) := by omega
  have hz2 : ¬ ((i : Int) = (n : Int)) := by omega
  have hz3 : ¬ ((c : Int) < (n : Int) + (m : Int)) := by omega
  have hw0 : IntKind.i64.wrap ((n : Int) + (m : Int)) = (n : Int) + (m : Int) := by rw [IntKind.wrap_i64]; omega
  have hw1 : IntKind.i64.wrap ((i : Int) + (m : Int)) = (i : Int) + (m : Int) := by rw [IntKind.wrap_i64]; omega
  have hb0 : (0 : Int) ≤ (n : Int) + (m : Int) := by omega
  have hb1 : (0 : Int) ≤ (i : Int) + (m : Int) := by omega
  have hin : i ≤ n := by omega
  have htn0 : ((n : Int) + (m : Int)).toNat = n + m := by omega
  have htn : ((i : Int) + (m : Int)).toNat = i + m := by omega
  have hb2 : ¬ (c = i + m) := by omega
  have hb3 : (i : Int) ≤ (n : Int) + (m : Int) := by omega
  have hb4 : ¬ (c = i) := by omega
  have hb5 : (n : Int) + (m : Int) ≤ (c : Int) := by omega
  go_enter Tryz.func152, Tryz.ntmps152
  go_wp2_with (simp only [hov])
  go_region_law_o (refine step_copy_runI rfl _ _ 34 34 rfl _ _ (by simp [Act.eval, Act.put]) (by simp [Act.eval, Act.put]) (hcp1 _ _ _) ?_)
  go_wp2_with (at_builtin; refine wpList_copy_runI _ rfl _ _ 34 34 rfl _ _ rfl rfl (hcp2 _ _) ?_)
  go_ret
  exact ⟨rfl, rfl⟩

set_option maxHeartbeats 4000000 in
theorem end_any 
    (w : World) (base : Option Addr) (n c m : Nat) (v : Value) (hm : 0 < m) (hv : ∀ w, (Builtin.lenOf v).run Tryz.prog w = .ok m w) (hsl : ∃ a k, v = .slice a m k) (hn63 : n + m ≤ 35184372088832) (hnc : n ≤ c) (hbase : base = none → c = 0) (v1 : Value)
    (w1 : World) (hap : ∀ ty, (Builtin.append_ #[34, 34] ty #[.slice base n c, v]).run Tryz.prog w = .ok v1 w1) :
    Calls Tryz.prog 152 #[.slice base n c, .int .i64 n, v] w fun e w' => e = .returned v1 ∧ w' = w1 := by
  have mixed := Tryz.checked.mixed
  have r34 := run_und (P := Tryz.prog) uS; have r3 := run_und (P := Tryz.prog) uI; have r4 := run_und (P := Tryz.prog) uB
  have z129 : ∀ w, (Go.sizeOf 107).run Tryz.prog w = .ok 12 w := run_sz zE
  obtain ⟨va, vk, rfl⟩ := hsl
  have hz1 : ¬ ((m : Int) = 0) := by omega
  have hin : n ≤ c := hnc
  have hnc' : (n : Int) ≤ (c : Int) := by omega
  go_enter Tryz.func152, Tryz.ntmps152
  cases base with
  | none =>
    have h0 := hbase rfl
    have hn0 : n = 0 := by omega
    subst h0
    subst hn0
    go_wp2_with (at_builtin; refine Lib.wpList_append_run _ rfl _ _ _ _ rfl _ _ rfl rfl _ _ (hap _) ?_)
    go_ret
    exact ⟨rfl, rfl⟩
  | some a =>
    go_wp2_with (at_builtin; refine Lib.wpList_append_run _ rfl _ _ _ _ rfl _ _ rfl rfl _ _ (hap _) ?_)
    all_goals (go_ret; exact ⟨rfl, rfl⟩)

set_option maxHeartbeats 4000000 in
theorem grow_mid 
    (w : World) (b N n c i m G vb voff vc : Nat) (hm : 0 < m) (hi : i < n) (hnc : n ≤ c) (hroom : c < n + m) (hG : n + m ≤ G) (hn63 : n + m ≤ 35184372088832)
    (w1 w2 w3 : World) (hap : ∀ ty, (Builtin.append_ #[34, 3] ty #[.slice (some ⟨b, 0, none⟩) i c, .int .i64 ((n : Int) + (m : Int) - (i : Int))]).run Tryz.prog w = .ok (.slice (some ⟨N, 0, none⟩) (n + m) G) w1)
    (hcp1 : ∀ ty dc, (Builtin.copy_ #[34, 34] ty #[.slice (some ⟨N, i * 12, none⟩) (n + m - i) dc, .slice (some ⟨vb, voff, none⟩) m vc]).run Tryz.prog w1 = .ok (goInt m) w2)
    (hcp2 : ∀ ty dc sc, (Builtin.copy_ #[34, 34] ty #[.slice (some ⟨N, (i + m) * 12, none⟩) (n + m - (i + m)) dc, .slice (some ⟨b, i * 12, none⟩) (n - i) sc]).run Tryz.prog w2.drew = .ok (goInt ((n - i : Nat) : Int)) w3) :
    Calls Tryz.prog 152 #[.slice (some ⟨b, 0, none⟩) n c, .int .i64 i, .slice (some ⟨vb, voff, none⟩) m vc] w fun e w' => e = .returned (.slice (some ⟨N, 0, none⟩) (n + m) G) ∧ w' = w3 := by
  have mixed := Tryz.checked.mixed
  have r34 := run_und (P := Tryz.prog) uS; have r3 := run_und (P := Tryz.prog) uI; have r4 := run_und (P := Tryz.prog) uB
  have z129 : ∀ w, (Go.sizeOf 107).run Tryz.prog w = .ok 12 w := run_sz zE
  have hz1 : ¬ ((m : Int) = 0) := by omega
  have hz2 : ¬ ((i : Int) = (n : Int)) := by omega
  have hz3 : (c : Int) < (n : Int) + (m : Int) := by omega
  have hw0 : IntKind.i64.wrap ((n : Int) + (m : Int)) = (n : Int) + (m : Int) := by rw [IntKind.wrap_i64]; omega
  have hw1 : IntKind.i64.wrap ((i : Int) + (m : Int)) = (i : Int) + (m : Int) := by rw [IntKind.wrap_i64]; omega
  have hw2 : IntKind.i64.wrap ((n : Int) + (m : Int) - (i : Int)) = (n : Int) + (m : Int) - (i : Int) := by rw [IntKind.wrap_i64]; omega
  have hb0 : (0 : Int) ≤ (n : Int) + (m : Int) := by omega
  have hb1 : (0 : Int) ≤ (i : Int) + (m : Int) := by omega
  have hin : i ≤ n := by omega
  have hic : i ≤ c := by omega
  have htn0 : ((n : Int) + (m : Int)).toNat = n + m := by omega
  have htn : ((i : Int) + (m : Int)).toNat = i + m := by omega
  have hGi : ¬ (G = i) := by omega
  have hGim : ¬ (G = i + m) := by omega
  have hci : ¬ (c = i) := by omega
  have hb3 : (i : Int) ≤ (n : Int) := by omega
  have hb5 : (i : Int) + (m : Int) ≤ (n : Int) + (m : Int) := by omega
  have hb6 : (i : Int) ≤ (n : Int) + (m : Int) := by omega
  have hb7 : (i : Int) ≤ (c : Int) := by omega
  have hb8 : (n : Int) ≤ (c : Int) := by omega
  go_enter Tryz.func152, Tryz.ntmps152
  go_wp2_with (first
    | (at_builtin; refine Lib.wpList_append_run _ rfl _ _ _ _ rfl _ _ rfl rfl _ _ (hap _) ?_)
    | (at_builtin; refine wpList_copy_runI _ rfl _ _ 34 34 rfl _ _ rfl rfl (hcp1 _ _) ?_))
  go_region_law_o (refine step_copy_runI rfl _ _ 34 34 rfl _ _ (by simp [Act.eval, Act.put]) (by simp [Act.eval, Act.put]) (hcp2 _ _ _) ?_)
  go_wp2
  go_ret
  exact ⟨rfl, rfl⟩

theorem ins_src {w : World} {b2 o2 c2 : Nat} {cur2 : Array Value} {T2 : TypeId} {us rest2 : List Value} (hb2 : w.heap[b2]? = some (.cells cur2 T2 (0, 0))) (hc2 : cur2.toList = us ++ rest2) (hol : o2 + 12 ≤ us.length) (w' : World) (hw : w'.heap[b2]? = w.heap[b2]?) :
    (Builtin.firstCells 12 1 (.slice (some ⟨b2, o2, none⟩) 1 c2)).run Tryz.prog w' = .ok ⟨(us.drop o2).take 12⟩ w' := by
  have h1 := (lies_heap hw (lies_of hb2 hc2)).take o2 12
  rw [Nat.zero_add] at h1
  have := run_firstCells_lies (P := Tryz.prog) (esz := 12) (k := 1) (n := 1) (cap := c2) h1 (by simp only [List.length_take, List.length_drop]; omega) (Nat.le_refl _) 1
  rw [this, Nat.one_mul, List.take_take, Nat.min_self]

theorem ins_spec : InsSpec Tryz.prog 152 12 96 where
  body := ⟨_, _, Tryz.func152, rfl⟩
  num := fun F hF => by rw [Tryz.func152] at hF; cases hF; rfl
  room := fun w b len c i cur T vs rest b2 o2 c2 cur2 T2 us rest2 hb hcur hvl hb2 hcur2 hol hbb hi hfit hcsz h1v h1u hroomy => by
    have hle := (roomy_le hroomy).2
    have hnew1 : ∀ v ∈ (us.drop o2).take 12, v.oneCell' = true := fun v hv => h1u v (List.mem_of_mem_drop (List.mem_of_mem_take hv))
    have hnl : ((us.drop o2).take 12).length = 12 := by simp only [List.length_take, List.length_drop]; omega
    have hcs : cur.size = vs.length + rest.length := by
      have := congrArg List.length hcur
      simpa using this
    rcases Nat.lt_or_ge i len with hlt | hge
    · have hov : ∀ lb cb, (callFunc 197 #[.slice (some ⟨b2, o2, none⟩) 1 c2, .slice (some ⟨b, (i + 1) * 12, none⟩) lb cb]).run Tryz.prog w = .ok (.value (.bool false)) w := fun lb cb => by
        rw [run_callFunc_extern Tryz.func197 (by kernel_rfl) (by kernel_rfl) (by kernel_rfl) (e := Extern.SlicesOverlaps.overlaps Tryz.f197.params Tryz.f197.resultTypes) (by kernel_rfl)]
        have := Lib.run_overlaps_apart (P := Tryz.prog) w 34 4 107 uS 12 (run_sz zE) ⟨b2, o2, none⟩ ⟨b, (i + 1) * 12, none⟩ 1 c2 lb cb (fun e => hbb e.symm) T2 T cur2.size cur.size
          (by simp [World.shape?, hb2]) (by simp [World.shape?, hb]) (by omega) (by simp [World.frozen?, hb2]) (by simp [World.frozen?, hb2])
        change ((Extern.SlicesOverlaps.overlaps #[34, 34] #[4] _).run _ _).andThen _ = _
        rw [this]; rfl
      have hLv := lies_of hb hcur
      have htl : (vs.drop (i * 12)).length = (len - i) * 12 := by rw [List.length_drop, hvl, Nat.sub_mul]
      have hsrc1 : ∀ sc, (Builtin.firstCells 12 (len - i) (.slice (some ⟨b, i * 12, none⟩) (len + 1 - i) sc)).run Tryz.prog w.drew = .ok ⟨vs.drop (i * 12)⟩ w.drew := fun sc => by
        have h1 := (lies_heap (w' := w.drew) rfl hLv).take (i * 12) ((len - i) * 12)
        rw [Nat.zero_add, ← htl, List.take_length] at h1
        have := run_firstCells_lies (P := Tryz.prog) (esz := 12) (k := len - i) (n := len - i) (cap := sc) h1 htl (Nat.le_refl _) (len + 1 - i)
        rw [this, ← htl, List.take_length]
      have hcp1 : ∀ ty dc sc, (Builtin.copy_ #[34, 34] ty #[.slice (some ⟨b, (i + 1) * 12, none⟩) (len + 1 - (i + 1)) dc, .slice (some ⟨b, i * 12, none⟩) (len + 1 - i) sc]).run Tryz.prog w.drew = .ok (goInt ((len - i : Nat) : Int)) (w.drew.setRow b ⟨splice cur.toList ((i + 1) * 12) (vs.drop (i * 12))⟩) := fun ty dc sc =>
        run_copyB (t := 34) (ts := #[34, 34]) rfl uS zE (w := w.drew) hb (fun _ => rfl) (by simp only [Nat.min_def]; split <;> omega) (hsrc1 sc) (by rw [htl]; omega) (fun v hv => h1v v (List.mem_of_mem_drop hv))
      have hb' : (w.drew.setRow b ⟨splice cur.toList ((i + 1) * 12) (vs.drop (i * 12))⟩).heap[b]? = some (.cells ⟨splice cur.toList ((i + 1) * 12) (vs.drop (i * 12))⟩ T (0, 0)) := setRow_heap w.drew b cur _ T (0, 0) hb
      have hsl : (splice cur.toList ((i + 1) * 12) (vs.drop (i * 12))).length = cur.size := by
        rw [splice_length _ _ _ (by rw [htl, Array.length_toList]; omega), Array.length_toList]
      have hcp2 : ∀ ty dc, (Builtin.copy_ #[34, 34] ty #[.slice (some ⟨b, i * 12, none⟩) (len + 1 - i) dc, .slice (some ⟨b2, o2, none⟩) 1 c2]).run Tryz.prog (w.drew.setRow b ⟨splice cur.toList ((i + 1) * 12) (vs.drop (i * 12))⟩) =
          .ok (goInt (1 : Nat)) ((w.drew.setRow b ⟨splice cur.toList ((i + 1) * 12) (vs.drop (i * 12))⟩).setRow b ⟨splice (splice cur.toList ((i + 1) * 12) (vs.drop (i * 12))) (i * 12) ((us.drop o2).take 12)⟩) := fun ty dc =>
        run_copyB (t := 34) (ts := #[34, 34]) rfl uS zE hb' (fun _ => rfl) (by simp only [Nat.min_def]; split <;> omega)
          (ins_src hb2 hcur2 hol _ (by rw [setRow_other _ _ _ _ (fun e => hbb e.symm)]; rfl)) (by rw [hnl]; show i * 12 + 12 ≤ (splice cur.toList ((i + 1) * 12) (vs.drop (i * 12))).length; rw [hsl]; omega) hnew1
      refine (room_mid w b len c i 1 b2 o2 c2 (by omega) hlt hfit hle hov _ _ hcp1 hcp2).mono ?_
      rintro e w' ⟨rfl, rfl⟩
      refine ⟨rfl, w.drawn + 1, ?_⟩
      rw [setRow_setRow, hcur, show (i + 1) * 12 = i * 12 + 12 by omega, ins_room_list vs rest _ (i * 12) 12 (by omega) hnl (by omega)]
      rfl
    · have hie : i = len := by omega
      subst hie
      have hap : ∀ ty, (Builtin.append_ #[34, 34] ty #[.slice (some ⟨b, 0, none⟩) i c, .slice (some ⟨b2, o2, none⟩) 1 c2]).run Tryz.prog w = .ok (.slice (some ⟨b, 0, none⟩) (i + 1) c) (w.setRow b ⟨splice cur.toList (0 + i * 12) ((us.drop o2).take 12)⟩) := fun ty =>
        AM.run_append_room (t := 34) (t2 := 34) (ts := #[34, 34]) rfl rfl uS zE byE (.other _ 1 _ _ uS (fun k e => by cases e) (fun _ => rfl) (fun w' hw => ins_src hb2 hcur2 hol w' (by rw [hw]))) hfit hb (by rw [hnl]; omega) hnew1
      refine (end_any w (some ⟨b, 0, none⟩) i c 1 _ (by omega) (fun _ => rfl) ⟨_, _, rfl⟩ hle (by omega) (fun h => by cases h) _ _ hap).mono ?_
      rintro e w' ⟨rfl, rfl⟩
      refine ⟨rfl, w.drawn, ?_⟩
      have e1 : splice cur.toList (0 + i * 12) ((us.drop o2).take 12) = (vs.take (i * 12) ++ (us.drop o2).take 12 ++ vs.drop (i * 12)) ++ rest.drop 12 := by
        have h2 : vs.take (i * 12) = vs := List.take_of_length_le (by omega)
        have h3 : vs.drop (i * 12) = [] := List.drop_of_length_le (by omega)
        rw [h2, h3, hcur, Nat.zero_add, ins_end_list vs rest _ _ (by omega), hnl, List.append_nil]
      rw [e1]
      rfl
  grow := fun w base len c i vs b2 o2 c2 cur2 T2 us rest2 hnil hlies hvl hb2 hcur2 hol hi hc h1v h1u hroomy => by
    subst hc
    have hle := (roomy_le hroomy).2
    have hnew1 : ∀ v ∈ (us.drop o2).take 12, v.oneCell' = true := fun v hv => h1u v (List.mem_of_mem_drop (List.mem_of_mem_take hv))
    have hnl : ((us.drop o2).take 12).length = 12 := by simp only [List.length_take, List.length_drop]; omega
    obtain ⟨zv, hzv, hzs⟩ : ∃ zv, zer Tryz.prog 107 = some zv ∧ zv.cells.size = 12 := by
      have := zcE
      cases hq : zer Tryz.prog 107 with
      | none => rw [hq] at this; cases this
      | some z => rw [hq] at this; exact ⟨z, rfl, by simpa using this⟩
    have hzl : ∀ k, (zerosN zv.cells.toList k).length = k * 12 := fun k => by rw [zerosN_length, Array.length_toList, hzs]
    have hb2s : b2 < w.heap.size := (Array.getElem?_eq_some_iff.1 hb2).1
    rcases Nat.lt_or_ge i c with hlt | hge
    · cases base with
      | none => exact absurd (hnil rfl).1 (by omega)
      | some a =>
        obtain ⟨ab, ao, asp⟩ := a
        obtain ⟨h1, h2, hL⟩ := hlies _ rfl
        simp only at h1 h2 hL
        subst h1
        subst h2
        have habs : ab < w.heap.size := block_lt_of_cell (hL 0 _ (List.getElem?_eq_getElem (by omega)))
        have hold : ∀ w' : World, w'.heap = w.heap → (Builtin.firstCells 12 i (.slice (some ⟨ab, 0, none⟩) i c)).run Tryz.prog w' = .ok ⟨vs.take (i * 12)⟩ w' := fun w' hw => by
          have h1 := (lies_heap (w' := w') (by rw [hw]) hL)
          exact run_firstCells_lies (P := Tryz.prog) (esz := 12) (k := i) (n := c) (cap := c) h1 hvl hi i
        have hk : ((c : Int) + ((1 : Nat) : Int) - (i : Int)) = ((c + 1 - i : Nat) : Int) := by omega
        have htot : i + (c + 1 - i) = c + 1 := by omega
        have hgrow := fun ty => AM.run_append_grow (P := Tryz.prog) (w := w) (ty := ty) (ts := #[34, 3]) (t := 34) (t2 := 3) rfl rfl uS zE byE hzv (base := some ⟨ab, 0, none⟩) (sLen := i) (sCap := c) rfl
          (.zeros ((c + 1 - i : Nat) : Int) .i64 zv uI (by omega) (by
            rw [Int.toNat_natCast]
            unfold roomy at hroomy ⊢
            have h96 : (c + 1 - i) * 96 ≤ (c + 1) * 96 := Nat.mul_le_mul_right _ (by omega)
            simp only [Bool.and_eq_true, decide_eq_true_eq] at hroomy ⊢
            omega) hzv hzs) hold (by rw [Int.toNat_natCast]; omega) (by rw [Int.toNat_natCast, htot]; exact hroomy)
        obtain ⟨G, hG, hap0⟩ := hgrow 0
        simp only [Int.toNat_natCast, htot] at hG hap0
        obtain ⟨row0, hrow0⟩ : ∃ row0, row0 = vs.take (i * 12) ++ zerosN zv.cells.toList (c + 1 - i) ++ zerosN zv.cells.toList (G - (c + 1)) := ⟨_, rfl⟩
        rw [← hrow0] at hap0
        have hap : ∀ ty, (Builtin.append_ #[34, 3] ty #[.slice (some ⟨ab, 0, none⟩) i c, .int .i64 ((c : Int) + ((1 : Nat) : Int) - (i : Int))]).run Tryz.prog w = .ok (.slice (some ⟨w.heap.size, 0, none⟩) (c + 1) G) { w with heap := w.heap.push (.cells ⟨row0⟩ 107), drawn := w.drawn + 1 } := fun ty => by
          rw [hk]; exact hap0
        obtain ⟨w1, hw1⟩ : ∃ w1 : World, w1 = { w with heap := w.heap.push (.cells ⟨row0⟩ 107), drawn := w.drawn + 1 } := ⟨_, rfl⟩
        rw [← hw1] at hap
        have hN : w1.heap[w.heap.size]? = some (.cells ⟨row0⟩ 107 (0, 0)) := by rw [hw1]; simp
        have hO : ∀ k, k < w.heap.size → w1.heap[k]? = w.heap[k]? := fun k hk => by
          rw [hw1]; simp only [Array.getElem?_push, if_neg (show ¬ k = w.heap.size by omega)]
        have hr0l : row0.length = G * 12 := by
          rw [hrow0]; simp only [List.length_append, hzl, List.length_take]; omega
        have htl : (vs.drop (i * 12)).length = (c - i) * 12 := by rw [List.length_drop, hvl, Nat.sub_mul]
        have hcp1 : ∀ ty dc, (Builtin.copy_ #[34, 34] ty #[.slice (some ⟨w.heap.size, i * 12, none⟩) (c + 1 - i) dc, .slice (some ⟨b2, o2, none⟩) 1 c2]).run Tryz.prog w1 = .ok (goInt (1 : Nat)) (w1.setRow w.heap.size ⟨splice row0 (i * 12) ((us.drop o2).take 12)⟩) := fun ty dc =>
          run_copyB (t := 34) (ts := #[34, 34]) rfl uS zE hN (fun _ => rfl) (by simp only [Nat.min_def]; split <;> omega) (ins_src hb2 hcur2 hol _ (hO _ hb2s)) (by rw [hnl]; show i * 12 + 12 ≤ row0.length; rw [hr0l]; omega) hnew1
        obtain ⟨w2, hw2⟩ : ∃ w2 : World, w2 = w1.setRow w.heap.size ⟨splice row0 (i * 12) ((us.drop o2).take 12)⟩ := ⟨_, rfl⟩
        rw [← hw2] at hcp1
        have hs1 : (splice row0 (i * 12) ((us.drop o2).take 12)).length = G * 12 := by
          rw [splice_length _ _ _ (by rw [hnl, hr0l]; omega), hr0l]
        have hN2 : w2.drew.heap[w.heap.size]? = some (.cells ⟨splice row0 (i * 12) ((us.drop o2).take 12)⟩ 107 (0, 0)) := by
          rw [hw2]; exact setRow_heap w1 w.heap.size _ _ _ (0, 0) hN
        have hsrc2 : ∀ sc, (Builtin.firstCells 12 (c - i) (.slice (some ⟨ab, i * 12, none⟩) (c - i) sc)).run Tryz.prog w2.drew = .ok ⟨vs.drop (i * 12)⟩ w2.drew := fun sc => by
          have hh : w2.drew.heap[ab]? = w.heap[ab]? := by
            rw [hw2]
            change (w1.setRow w.heap.size _).heap[ab]? = _
            rw [setRow_other _ _ _ _ (by omega), hO _ habs]
          have h1 := (lies_heap hh hL).take (i * 12) ((c - i) * 12)
          rw [Nat.zero_add, ← htl, List.take_length] at h1
          have := run_firstCells_lies (P := Tryz.prog) (esz := 12) (k := c - i) (n := c - i) (cap := sc) h1 htl (Nat.le_refl _) (c - i)
          rw [this, ← htl, List.take_length]
        have hcp2 : ∀ ty dc sc, (Builtin.copy_ #[34, 34] ty #[.slice (some ⟨w.heap.size, (i + 1) * 12, none⟩) (c + 1 - (i + 1)) dc, .slice (some ⟨ab, i * 12, none⟩) (c - i) sc]).run Tryz.prog w2.drew =
            .ok (goInt ((c - i : Nat) : Int)) (w2.drew.setRow w.heap.size ⟨splice (splice row0 (i * 12) ((us.drop o2).take 12)) ((i + 1) * 12) (vs.drop (i * 12))⟩) := fun ty dc sc =>
          run_copyB (t := 34) (ts := #[34, 34]) rfl uS zE hN2 (fun _ => rfl) (by simp only [Nat.min_def]; split <;> omega) (hsrc2 sc) (by rw [htl]; show (i + 1) * 12 + (c - i) * 12 ≤ (splice row0 (i * 12) ((us.drop o2).take 12)).length; rw [hs1]; omega) (fun v hv => h1v v (List.mem_of_mem_drop hv))
        refine (grow_mid w ab w.heap.size c c i 1 G b2 o2 c2 (by omega) hlt (Nat.le_refl _) (by omega) hG hle w1 w2 _ hap hcp1 hcp2).mono ?_
        rintro e w' ⟨rfl, rfl⟩
        refine ⟨G, w.drawn + 2, 107, zerosN zv.cells.toList (G - (c + 1)), hG, hzl _, rfl, ?_⟩
        have e1 : splice (splice row0 (i * 12) ((us.drop o2).take 12)) ((i + 1) * 12) (vs.drop (i * 12)) = (vs.take (i * 12) ++ (us.drop o2).take 12 ++ vs.drop (i * 12)) ++ zerosN zv.cells.toList (G - (c + 1)) := by
          rw [hrow0, show (i + 1) * 12 = i * 12 + 12 by omega]
          exact ins_grow_list _ _ _ _ _ (i * 12) 12 (by rw [List.length_take]; omega) hnl (by rw [hzl, htl]; omega)
        rw [e1, hw2, hw1]
        change ((({ w with heap := w.heap.push (.cells ⟨row0⟩ 107), drawn := w.drawn + 2 } : World).setRow w.heap.size _).setRow w.heap.size _) = _
        rw [setRow_setRow]
        exact setRow_push { w with drawn := w.drawn + 2 } ⟨row0⟩ _ 107 w.heap
    · have hie : i = c := by omega
      subst hie
      have hold : ∀ w' : World, w'.heap = w.heap → (Builtin.firstCells 12 i (.slice base i i)).run Tryz.prog w' = .ok ⟨vs⟩ w' := fun w' hw => by
        cases base with
        | none =>
          obtain ⟨h0, _⟩ := hnil rfl
          subst h0
          have : vs = [] := List.eq_nil_of_length_eq_zero (by omega)
          subst this
          simp [Builtin.firstCells]
        | some a =>
          obtain ⟨ab, ao, asp⟩ := a
          obtain ⟨h1, h2, hL⟩ := hlies _ rfl
          simp only at h1 h2 hL
          subst h1
          subst h2
          have := run_firstCells_lies (P := Tryz.prog) (esz := 12) (k := i) (n := i) (cap := i) (lies_heap (w' := w') (by rw [hw]) hL) hvl (Nat.le_refl _) i
          rw [this, ← hvl, List.take_length]
      have hgrow := fun ty => AM.run_append_grow (P := Tryz.prog) (w := w) (ty := ty) (ts := #[34, 34]) (t := 34) (t2 := 34) rfl rfl uS zE byE hzv (base := base) (sLen := i) (sCap := i) (m := 1) (x := .slice (some ⟨b2, o2, none⟩) 1 c2) rfl
        (.other _ 1 _ _ uS (fun k e => by cases e) (fun _ => rfl) (fun w' hw => ins_src hb2 hcur2 hol w' (by rw [hw]))) hold (by omega) hroomy
      obtain ⟨G, hG, hap0⟩ := hgrow 0
      refine (end_any w base i i 1 _ (by omega) (fun _ => rfl) ⟨_, _, rfl⟩ hle (Nat.le_refl _) (fun h => (hnil h).2) _ _ (fun ty => hap0)).mono ?_
      rintro e w' ⟨rfl, rfl⟩
      refine ⟨G, w.drawn + 1, 107, zerosN zv.cells.toList (G - (i + 1)), hG, hzl _, rfl, ?_⟩
      have h2 : vs.take (i * 12) = vs := List.take_of_length_le (by omega)
      have h3 : vs.drop (i * 12) = [] := List.drop_of_length_le (by omega)
      rw [h2, h3, List.append_nil]
end Go.Proofs.YtafhcdagifopeaaGreatDoor
end
section
/- the machine for closed laws: what it knows of the program, and that it is sound. -/
namespace Go.Proofs.YtafhcdagifopeaaGreatDoor
open Go.AM Go.AM.BM

noncomputable def polC (K : FuncId → Option PrimL) : BM.Pol where
  prim := fun f => match f with
    | 141 => some (conP kTwin)
    | 126 => some (lookP kCheck)
    | 117 => some (conP kNew)
    | 177 => some (conP (kLeft 178))
    | 185 => some (lookP kMax)
    | 146 => some (lookP kSum)
    | 223 => some (lookP kGet)
    | 136 => some (lookP kKey)
    | 200 => some primMake
    | 196 => some primCompare
    | 217 => some primCount
    | 269 => some primIndexByte
    | _ => none
  fix := fun f => f == 182
  fixA := fun f => match f with
    | 258 => some 2
    | 180 => some 2
    | _ => none
  prims := fun f => match K f with
    | some g => some g
    | none => (match f with
      | 152 => some (insP 12 96)
      | _ => none)
theorem xMake : IsExtern Tryz.prog 200 (Extern.BytealgMakeNoZero.makeNoZero Tryz.f200.params Tryz.f200.resultTypes) := ⟨Tryz.f200, Tryz.func200, by kernel_rfl, by kernel_rfl, by kernel_rfl, by kernel_rfl⟩
theorem xCmpS : IsExtern Tryz.prog 196 Extern.BytealgCompare.compare := ⟨Tryz.f196, Tryz.func196, by kernel_rfl, by kernel_rfl, by kernel_rfl, by kernel_rfl⟩
theorem xCount : IsExtern Tryz.prog 217 Extern.BytealgCount.count := ⟨Tryz.f217, Tryz.func217, by kernel_rfl, by kernel_rfl, by kernel_rfl, by kernel_rfl⟩
theorem xIndex : IsExtern Tryz.prog 269 Extern.BytealgIndexByte.indexByte := ⟨Tryz.f269, Tryz.func269, by kernel_rfl, by kernel_rfl, by kernel_rfl, by kernel_rfl⟩
theorem polX_cases {K : FuncId → Option PrimL} {f : FuncId} {g : BM.Prim} (h : (polC K).prim f = some g) :
    (f = 141 ∧ g = conP kTwin) ∨ (f = 126 ∧ g = lookP kCheck) ∨ (f = 117 ∧ g = conP kNew) ∨ (f = 177 ∧ g = conP (kLeft 178)) ∨ (f = 185 ∧ g = lookP kMax) ∨ (f = 146 ∧ g = lookP kSum) ∨ (f = 223 ∧ g = lookP kGet) ∨ (f = 136 ∧ g = lookP kKey) ∨ (f = 200 ∧ g = primMake) ∨ (f = 196 ∧ g = primCompare) ∨ (f = 217 ∧ g = primCount) ∨ (f = 269 ∧ g = primIndexByte) := by
  simp only [polC] at h
  split at h <;> cases h <;> simp

theorem polX_prims {K : FuncId → Option PrimL} (hK : ∀ f g, K f = some g → PrimOk Tryz.prog f g) {f : FuncId} {g : PrimL} (h : (polC K).prims f = some g) : PrimOk Tryz.prog f g := by
  simp only [polC] at h
  split at h
  · cases h; exact hK _ _ (by assumption)
  · split at h
    · cases h; exact ins_ok ins_spec
    · cases h
theorem okC {K : FuncId → Option PrimL} (hK : ∀ f g, K f = some g → PrimOk Tryz.prog f g) : BM.Okay Tryz.prog (polC K) where
  mixed := Tryz.checked.mixed
  draws := fun f F c hF hc => by
    rw [drawsC_eq]; exact okD.draws f F c hF hc
  loops := fun f F c hF hc => by
    rw [flatC_eq]; exact okD.loops f F c hF hc
  num := okD.num
  prim := fun f g hg B F H E fr dst args cargs v x S one h0 htab hr h => by
    rcases polX_cases hg with ⟨rfl, rfl⟩ | ⟨rfl, rfl⟩ | ⟨rfl, rfl⟩ | ⟨rfl, rfl⟩ | ⟨rfl, rfl⟩ | ⟨rfl, rfl⟩ | ⟨rfl, rfl⟩ | ⟨rfl, rfl⟩ | ⟨rfl, rfl⟩ | ⟨rfl, rfl⟩ | ⟨rfl, rfl⟩ | ⟨rfl, rfl⟩
    · exact conP_sound okD kTwin_fz B F H E fr dst args cargs v x S one h0 htab hr h
    · exact lookP_sound okD kCheck_fz B F H E fr dst args cargs v x S one h0 htab hr h
    · exact conP_sound okD kNew_fz B F H E fr dst args cargs v x S one h0 htab hr h
    · exact conP_sound okD kLeft_fz B F H E fr dst args cargs v x S one h0 htab hr h
    · exact lookP_sound okD kMax_fz B F H E fr dst args cargs v x S one h0 htab hr h
    · exact lookP_sound okD kSum_fz B F H E fr dst args cargs v x S one h0 htab hr h
    · exact lookP_sound okD kGet_fz B F H E fr dst args cargs v x S one h0 htab hr h
    · exact lookP_sound okD kKey_fz B F H E fr dst args cargs v x S one h0 htab hr h
    · exact invokes_am one (AM.sound_make xMake (e := 5) (by kernel_rfl) S (by omega) hr h)
    · exact invokes_am one (AM.sound_compare xCmpS S hr h)
    · exact invokes_am one (AM.sound_count xCount S hr h)
    · exact invokes_am one (AM.sound_indexByte xIndex S hr h)
  loop := fun f F c _ _ => loopOk_none (fun _ => rfl) c
  tame := {
    prim := fun f g hg nm G G' args v w hle hn h => by
      rcases polX_cases hg with ⟨rfl, rfl⟩ | ⟨rfl, rfl⟩ | ⟨rfl, rfl⟩ | ⟨rfl, rfl⟩ | ⟨rfl, rfl⟩ | ⟨rfl, rfl⟩ | ⟨rfl, rfl⟩ | ⟨rfl, rfl⟩ | ⟨rfl, rfl⟩ | ⟨rfl, rfl⟩ | ⟨rfl, rfl⟩ | ⟨rfl, rfl⟩
      · exact conP_tame _ nm G G' args v w hle h
      · exact lookP_tame _ nm G G' args v w hle h
      · exact conP_tame _ nm G G' args v w hle h
      · exact conP_tame _ nm G G' args v w hle h
      · exact lookP_tame _ nm G G' args v w hle h
      · exact lookP_tame _ nm G G' args v w hle h
      · exact lookP_tame _ nm G G' args v w hle h
      · exact lookP_tame _ nm G G' args v w hle h
      · exact primMake_tame nm G G' args v w hle hn h
      · exact primCompare_tame nm G G' args v w hle h
      · exact primCount_tame nm G G' args v w hle h
      · exact primIndexByte_tame nm G G' args v w hle h
    loop := fun fn r g hg => by cases hg
    prims := fun f g hg => (polX_prims hK hg).tame }
  prims := fun f g hg => (polX_prims hK hg).sound
theorem nlC (K : FuncId → Option PrimL) : NoLoops (polC K) := fun _ _ => rfl
end Go.Proofs.YtafhcdagifopeaaGreatDoor
end
