/-
  The program logic, part 8: conversions and append.
  Conditions: none (a library of definitions and lemmas over any program).
-/
import Derived.Test.YthdfpankebjleaaAvOps6
set_option linter.unusedVariables false
set_option linter.unusedSimpArgs false
namespace Go.Av
open Go Go.RowKit

section
variable {P : Program} {o : Oper} {n : Nat} {fr : Fr} {a : Act} {F : Froz} {w : World} {σ : St} {k : AV → St → Prop}

theorem td_int {d : TypeDesc} {ik : IntKind} (h : tdOf P d = .int ik) : d = .int ik := by
  cases d with
  | array n e => simp only [tdOf] at h; (repeat' split at h) <;> cases h
  | struct e => simp only [tdOf] at h; (repeat' split at h) <;> cases h
  | slice e => simp only [tdOf] at h; (repeat' split at h) <;> cases h
  | int kk => simp [tdOf] at h; rw [h]
  | _ => simp [tdOf] at h

/-- A world that differs in draws alone, and has one block more. -/
theorem rel_alloc_drew (h : Rel F w σ) (o : Obj) (t : AObj) (ht : Holds F (w.drew.alloc o) w.heap.size t) : Rel F (w.drew.alloc o) (σ.set w.heap.size t) ∧ Ext F w σ F (w.drew.alloc o) (σ.set w.heap.size t) := by
  obtain ⟨r1, r2⟩ := rel_alloc h.drew o t ht
  exact ⟨r1, (Ext.drew (Ext.refl F w σ)).trans r2⟩

theorem strOf_nums : ∀ (es : List (List AV)), es.all isByte = true → ∃ xs : List Int, es = xs.map (fun m => [AV.v (.int .u8 m)]) ∧ strOf es = strOfNums xs
  | [], _ => ⟨[], rfl, rfl⟩
  | e :: es, h => by
    simp only [List.all_cons, Bool.and_eq_true] at h
    obtain ⟨xs, h1, h2⟩ := strOf_nums es h.2
    have he := h.1
    unfold isByte at he
    split at he
    · rename_i m
      refine ⟨m :: xs, by rw [h1]; rfl, ?_⟩
      subst h1
      simp [strOf, strOfNums, byteOf] at h2 ⊢
    · cases he

theorem sound_conv {s d : TypeId} {x : Operand} (ho : o.op = .convert s d x) (hx : opdIn n x = true) (hf : FrRel F w n fr a) (hs : Rel F w σ) (h : aConv (tk P s) (tk P d) σ (fr.ev x) k) : OpOk P o a F w σ k := by
  cases h1 : tk P s with
  | none => simp [h1, aConv] at h
  | some i =>
    cases h2 : tk P d with
    | none => simp [h1, h2, aConv] at h
    | some j =>
      obtain ⟨i1, d1, z1, a1, a2, a3, a4, a5, a6, a7, a8⟩ := tk_info h1
      obtain ⟨i2, d2, z2, b1, b2, b3, b4, b5, b6, b7, b8⟩ := tk_info h2
      simp only [h1, h2, aConv] at h
      have hv := hf.ev x hx
      have hgo : ∀ y w', (convert s d (a.eval x)).run P w = .ok y w' → (execOp a.eval o).run P w = .ok (.value y) w' := fun y w' hy => by
        simp [execOp, ho, hy]
      generalize hti : i.td = ti at h
      generalize htj : j.td = tj at h
      rw [hti] at a7
      rw [htj] at b7
      revert h hv
      generalize fr.ev x = p
      intro hv h
      split at h
      · rename_i ik' ik _ m
        have e1 := td_int (P := P) (d := d1) a7.symm
        have e2 := td_int (P := P) (d := d2) b7.symm
        subst e1
        subst e2
        have ex := hv.eq
        refine opOk_pure hs (hgo _ _ ?_) (.v _) h
        simp [ex, convert, run_underlying a2, run_underlying b2, Conv.intToInt]
      · have e1 := td_str (P := P) (d := d1) a7.symm
        have e2 := td_str (P := P) (d := d2) b7.symm
        subst e1
        subst e2
        have ex := hv.eq
        refine opOk_pure hs (hgo _ _ ?_) (.v _) h
        simp [ex, convert, run_underlying a2, run_underlying b2]
      · rename_i _ _ str
        have e1 := td_str (P := P) (d := d1) a7.symm
        subst e1
        obtain ⟨e, ie, ze, rfl, k1, k2, k3, k4, k5, k6, k7⟩ := td_sl (P := P) b7.symm
        have hu8 : P.underlying e = some (.int .u8) := k7 rfl
        have ex := hv.eq
        have hrun := Lib.run_convert_string_bytes w s d e str a2 b2 hu8
        have hkp : Keeps F w F (Lib.bytesWorld w e str) := ⟨fun _ => Nat.le_refl _, fun b off hb => by
          have hlt : b < w.heap.size := by
            rcases Nat.lt_or_ge b w.heap.size with h' | h'
            · exact h'
            · have := hs.lt b h'; omega
          exact Lib.bytesWorld_old w e str _ hlt⟩
        have hcap : str.size ≤ grownCap w str.size 0 e := grownCap_ge w _ _ _
        have hsz : (Lib.bytesCells w e str).size = grownCap w str.size 0 e := by
          have hds : str.data.size = str.size := rfl
          simp only [Lib.bytesCells, Array.size_append, Array.size_map, Array.size_replicate]
          omega
        have hlen : (str.data.toList.map byteEl).length = str.size := by rw [List.length_map, Array.length_toList]; rfl
        refine opOk_value (σ' := σ.set w.heap.size (.rows 1 (str.data.toList.map byteEl) false (grownCap w str.size 0 e))) (hgo _ _ (by rw [ex]; exact hrun)) (F' := F) ⟨hkp, rfl, rfl, rfl, by rw [Lib.bytesWorld_size]; omega, fun b hb hn => ⟨Lib.bytesWorld_at_old w e str b hb, ?_, rfl⟩⟩ ⟨fun b t hb => ?_, fun b hb => hs.lt b (by rw [Lib.bytesWorld_size] at hb; omega)⟩ (.v _) (h _ _ (fresh_none hs (Nat.le_refl _)) hcap)
        · simp only [St.set]
          rw [if_neg (by omega)]
          exact hn
        · simp only [St.set] at hb
          by_cases hbb : b = w.heap.size
          · rw [if_pos hbb] at hb
            injection hb with hb
            subst hb
            subst hbb
            refine ⟨_, _, _, Lib.bytesWorld_at_new w e str, by rw [hsz]; omega, by rw [hlen]; exact hcap, fun q hq => ?_, fun i hi => by simp only; omega, by rw [hs.lt _ (Nat.le_refl _)]; rfl, fun i j hi hj => ?_⟩
            · obtain ⟨q', _, rfl⟩ := List.mem_map.1 hq
              exact ⟨rfl, rfl⟩
            · obtain rfl : j = 0 := by omega
              rw [hlen] at hi
              have hi' : i < str.data.toList.length := by rw [Array.length_toList]; exact hi
              have e1 := bytes_getD str.data.toList i hi'
              have e2 : (Lib.bytesCells w e str).getD (i * 1 + 0) undef = .int .u8 ((str.data.toList.getD i 0).toNat : Int) := by
                have := vals_getD str.data.toList i hi'
                rw [← this, Array.getD_eq_getD_getElem?, Lib.bytesCells, Array.getElem?_append_left (by rw [Array.size_map]; rw [Array.length_toList] at hi'; omega), List.getD_eq_getElem?_getD, Nat.mul_one, Nat.add_zero, ← Array.toList_map, Array.getElem?_toList]
              rw [e1, e2]
              exact .v _
          · rw [if_neg hbb] at hb
            exact (hs.obj b t hb).mono hkp (Lib.bytesWorld_at_old w e str b (hs.lt_size hb)) rfl
      · have e2 := td_str (P := P) (d := d2) b7.symm
        subst e2
        obtain ⟨e, ie, ze, rfl, k1, k2, k3, k4, k5, k6, k7⟩ := td_sl (P := P) a7.symm
        have hu8 : P.underlying e = some (.int .u8) := k7 rfl
        obtain ⟨es, hview, hb, hk⟩ := h
        obtain ⟨F', hsl⟩ := vlook_ok hs hview hv
        obtain ⟨xs, rfl, hstr⟩ := strOf_nums es hb
        rw [hstr] at hk
        refine opOk_pure hs (hgo _ _ ?_) (.v _) hk
        generalize a.eval x = X at hsl
        generalize hes : xs.map (fun m => [AV.v (.int .u8 m)]) = es at hsl
        cases hsl with
        | sl0 _ ad cap =>
          obtain rfl : xs = [] := by simpa using hes
          cases ad with
          | none => exact run_convert_bytes_nil w s e a2 hu8 0 cap d b2
          | some ad =>
            have := run_convert_bytes_arg w s e a2 hu8 ad.block ad.off 0 cap [] rfl (fun i hi => by omega) d b2
            rw [run_convert_bytes_string w s d e _ 0 cap a2 hu8 b2]
            simp [Conv.bytesToString, loadCells, loadCellsFrom]
            rfl
        | sl _ _ b p c nn cap hn hk hcap hF hc hr =>
          have hl : es.length = xs.length := by rw [← hes]; simp
          refine run_convert_bytes_arg w s e a2 hu8 b p nn cap xs (by omega) (fun i hi => ?_) d b2
          have h1 := hc i (by omega)
          have h2 := hr i 0 (by omega) (by omega)
          have e1 : (es.getD i []).getD 0 (.v undef) = .v (.int .u8 (xs.getD i 0)) := by
            rw [← hes]
            have hi' : i < xs.length := by omega
            simp [List.getD_eq_getElem?_getD, hi']
          rw [e1] at h2
          rw [h1, ← h2.eq]
          simp
      · exact h.elim
end
end Go.Av
