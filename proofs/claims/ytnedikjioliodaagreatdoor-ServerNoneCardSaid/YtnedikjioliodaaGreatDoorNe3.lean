/- Errors.As at the two kinds; the builder; a count. -/
import Derived.Test.YtnedikjioliodaaGreatDoorNe2
import Derived.Lib.Hide
import Derived.Lib.Builder
import Derived.Lib.UnsafeStr
import Derived.Lib.Walk
set_option linter.all false
namespace Go.Proofs.Ea
open Go Go.RowKit Go.Extern Go.AM
theorem wraps_junk {w w' : World} {kT fT T : TypeId} {ev : Value} {x : Option Value} (j : Junk w w') (h : Wraps w kT fT T ev x) : Wraps w' kT fT T ev x := by
  induction h with
  | hit v => exact .hit v
  | miss v h => exact .miss v h
  | wrapNil a h hs hc => exact .wrapNil a h hs (by rw [j.cell (World.block_lt_of_cell? _ _ hc)]; exact hc)
  | wrap a t v x h hs hc hw ih => exact .wrap a t v x h hs (by rw [j.cell (World.block_lt_of_cell? _ _ hc)]; exact hc) ih
theorem wraps_iface {w : World} {kT fT T : TypeId} {ev : Value} {x : Option Value} (h : Wraps w kT fT T ev x) : ∃ t v, ev = .iface t v := by
  cases h <;> exact ⟨_, _, rfl⟩
theorem Junk.trans {a b c : World} (h : Junk a b) (h' : Junk b c) : Junk a c :=
  ⟨Nat.le_trans h.size h'.size, fun i hi => (h'.same i (Nat.lt_of_lt_of_le hi h.size)).trans (h.same i hi), h'.tape.trans h.tape, h'.os.trans h.os, h'.output.trans h.output⟩
set_option maxRecDepth 100000 in
set_option maxHeartbeats 4000000 in
theorem asOk_K : AsOk Tryz.prog 49 310 4 25 94 93 130 94 := by
  intro ev t x w hg hw hs hx
  obtain ⟨tt, vv, rfl⟩ := wraps_iface hw
  have h94 := @run_callFunc_extern Tryz.prog 94 _ (fun args => ReflectliteValue.unpack (args.getD 0 (.tuple #[]))) Tryz.func94 (by kernel_rfl) (by kernel_rfl) (by kernel_rfl) (by kernel_rfl)
  have h95 := @run_callFunc_extern Tryz.prog 95 _ (ReflectliteValue.methodAny (ReflectliteValue.valueError "reflectlite.Value.Type" 0) (fun t _ _ _ => ReflectliteType.toType t)) Tryz.func95 (by kernel_rfl) (by kernel_rfl) (by kernel_rfl) (by kernel_rfl)
  have h96 := @run_callFunc_extern Tryz.prog 96 _ (ReflectliteValue.method (ReflectliteValue.valueError "reflectlite.Value.IsNil" 0) ReflectliteValue.isNil) Tryz.func96 (by kernel_rfl) (by kernel_rfl) (by kernel_rfl) (by kernel_rfl)
  have h456 := @run_callFunc_extern Tryz.prog 456 _ (ReflectliteType.abiMethod fun t => do pure (.int .u8 (← Rtype.kind t))) Tryz.func456 (by kernel_rfl) (by kernel_rfl) (by kernel_rfl) (by kernel_rfl)
  have h493 := @run_callFunc_extern Tryz.prog 493 _ (ReflectliteType.method ReflectliteType.elem) Tryz.func493 (by kernel_rfl) (by kernel_rfl) (by kernel_rfl) (by kernel_rfl)
  have h494 := @run_callFunc_extern Tryz.prog 494 _ (ReflectliteType.relation "Implements" ReflectliteType.implements_) Tryz.func494 (by kernel_rfl) (by kernel_rfl) (by kernel_rfl) (by kernel_rfl)
  have vK := valueOfK t
  have tK := typeK
  have mK := methodKind
  have mE := methodElem
  have mI := methodImplements
  have kP := kindPK
  have kK := kindK
  have eP := elemPK
  have iK := implK
  have hlt : 0 < w.heap.size := World.block_lt_of_cell? (a := ⟨0, 0, none⟩) _ hg
  have n8 := isNilPK ⟨w.heap.size, 0, none⟩ t ((w.alloc (.cells #[.pointer (some t)] 130)).alloc (.cells #[.pointer (some ⟨4, 130, none⟩), .pointer (some ⟨w.heap.size, 0, none⟩), .int .u64 150] 208)) (by rw [World.cell?_alloc_lt _ _ ⟨w.heap.size, 0, none⟩ (by simp)]; rw [World.cell?_alloc_at _ _ _ _ (by simp)]; rfl)
  have hg2 : ((w.alloc (.cells #[.pointer (some t)] 130)).alloc (.cells #[.pointer (some ⟨4, 130, none⟩), .pointer (some ⟨w.heap.size, 0, none⟩), .int .u64 150] 208)).cell? ⟨0, 0, none⟩ = some (.iface 310 (.agg #[.pointer (some ⟨4, 25, none⟩)])) := by
    rw [World.cell?_alloc_lt _ _ ⟨0, 0, none⟩ (by simp), World.cell?_alloc_lt _ _ ⟨0, 0, none⟩ hlt]; exact hg
  have hj : Junk w ((w.alloc (.cells #[.pointer (some t)] 130)).alloc (.cells #[.pointer (some ⟨4, 130, none⟩), .pointer (some ⟨w.heap.size, 0, none⟩), .int .u64 150] 208)) := ((Junk.refl w).alloc _).alloc _
  obtain ⟨n, hn⟩ := wn_of (wraps_junk hj hw)
  have hcall := loop_K (.iface tt vv) x _ ⟨w.heap.size, 0, none⟩ t n hn (by rw [World.cell?_alloc_lt _ _ ⟨w.heap.size, 0, none⟩ (by simp)]; rw [World.cell?_alloc_at _ _ _ _ (by simp)]; rfl) (by
    intro v hv
    obtain ⟨q1, ⟨old, q2⟩, q3⟩ := hx v hv
    have := World.block_lt_of_cell? _ _ q2
    exact ⟨q1, ⟨old, by rw [hj.cell this]; exact q2⟩, by rw [hj.frozen this]; exact q3⟩)
  have HC := Lib.hid hcall
  have HJ := Lib.hid hj
  clear hcall hx hw hg hj hn
  go_enter Tryz.func49, Tryz.ntmps49
  go_wp2_with (first | (go_at_call 97; refine HC.out.mono ?_; rintro e w' ⟨rfl, w1, hj1, rfl⟩) | go_in)
  all_goals
    go_ret
    first | exact ⟨rfl, _, Junk.trans HJ.out hj1, rfl⟩ | exact ⟨rfl, Junk.trans HJ.out hj1⟩
set_option maxRecDepth 100000 in
set_option maxHeartbeats 4000000 in
theorem asOk_F : AsOk Tryz.prog 49 310 4 25 94 93 555 93 := by
  intro ev t x w hg hw hs hx
  obtain ⟨tt, vv, rfl⟩ := wraps_iface hw
  have h94 := @run_callFunc_extern Tryz.prog 94 _ (fun args => ReflectliteValue.unpack (args.getD 0 (.tuple #[]))) Tryz.func94 (by kernel_rfl) (by kernel_rfl) (by kernel_rfl) (by kernel_rfl)
  have h95 := @run_callFunc_extern Tryz.prog 95 _ (ReflectliteValue.methodAny (ReflectliteValue.valueError "reflectlite.Value.Type" 0) (fun t _ _ _ => ReflectliteType.toType t)) Tryz.func95 (by kernel_rfl) (by kernel_rfl) (by kernel_rfl) (by kernel_rfl)
  have h96 := @run_callFunc_extern Tryz.prog 96 _ (ReflectliteValue.method (ReflectliteValue.valueError "reflectlite.Value.IsNil" 0) ReflectliteValue.isNil) Tryz.func96 (by kernel_rfl) (by kernel_rfl) (by kernel_rfl) (by kernel_rfl)
  have h456 := @run_callFunc_extern Tryz.prog 456 _ (ReflectliteType.abiMethod fun t => do pure (.int .u8 (← Rtype.kind t))) Tryz.func456 (by kernel_rfl) (by kernel_rfl) (by kernel_rfl) (by kernel_rfl)
  have h493 := @run_callFunc_extern Tryz.prog 493 _ (ReflectliteType.method ReflectliteType.elem) Tryz.func493 (by kernel_rfl) (by kernel_rfl) (by kernel_rfl) (by kernel_rfl)
  have h494 := @run_callFunc_extern Tryz.prog 494 _ (ReflectliteType.relation "Implements" ReflectliteType.implements_) Tryz.func494 (by kernel_rfl) (by kernel_rfl) (by kernel_rfl) (by kernel_rfl)
  have vK := valueOfF t
  have tK := typeF
  have mK := methodKind
  have mE := methodElem
  have mI := methodImplements
  have kP := kindPF
  have kK := kindF
  have eP := elemPF
  have iK := implF
  have hlt : 0 < w.heap.size := World.block_lt_of_cell? (a := ⟨0, 0, none⟩) _ hg
  have n8 := isNilPF ⟨w.heap.size, 0, none⟩ t ((w.alloc (.cells #[.pointer (some t)] 555)).alloc (.cells #[.pointer (some ⟨4, 555, none⟩), .pointer (some ⟨w.heap.size, 0, none⟩), .int .u64 150] 208)) (by rw [World.cell?_alloc_lt _ _ ⟨w.heap.size, 0, none⟩ (by simp)]; rw [World.cell?_alloc_at _ _ _ _ (by simp)]; rfl)
  have hg2 : ((w.alloc (.cells #[.pointer (some t)] 555)).alloc (.cells #[.pointer (some ⟨4, 555, none⟩), .pointer (some ⟨w.heap.size, 0, none⟩), .int .u64 150] 208)).cell? ⟨0, 0, none⟩ = some (.iface 310 (.agg #[.pointer (some ⟨4, 25, none⟩)])) := by
    rw [World.cell?_alloc_lt _ _ ⟨0, 0, none⟩ (by simp), World.cell?_alloc_lt _ _ ⟨0, 0, none⟩ hlt]; exact hg
  have hj : Junk w ((w.alloc (.cells #[.pointer (some t)] 555)).alloc (.cells #[.pointer (some ⟨4, 555, none⟩), .pointer (some ⟨w.heap.size, 0, none⟩), .int .u64 150] 208)) := ((Junk.refl w).alloc _).alloc _
  obtain ⟨n, hn⟩ := wn_of (wraps_junk hj hw)
  have hcall := loop_F (.iface tt vv) x _ ⟨w.heap.size, 0, none⟩ t n hn (by rw [World.cell?_alloc_lt _ _ ⟨w.heap.size, 0, none⟩ (by simp)]; rw [World.cell?_alloc_at _ _ _ _ (by simp)]; rfl) (by
    intro v hv
    obtain ⟨q1, ⟨old, q2⟩, q3⟩ := hx v hv
    have := World.block_lt_of_cell? _ _ q2
    exact ⟨q1, ⟨old, by rw [hj.cell this]; exact q2⟩, by rw [hj.frozen this]; exact q3⟩)
  have HC := Lib.hid hcall
  have HJ := Lib.hid hj
  clear hcall hx hw hg hj hn
  go_enter Tryz.func49, Tryz.ntmps49
  go_wp2_with (first | (go_at_call 97; refine HC.out.mono ?_; rintro e w' ⟨rfl, w1, hj1, rfl⟩) | go_in)
  all_goals
    go_ret
    first | exact ⟨rfl, _, Junk.trans HJ.out hj1, rfl⟩ | exact ⟨rfl, Junk.trans HJ.out hj1⟩
end Go.Proofs.Ea
namespace Go.Proofs.Ea
open Go Go.RowKit Go.Extern Go.AM
theorem infoB : ∃ j, Tryz.prog.info? 260 = some j ∧ j.size = 2 := by
  have h : (Tryz.prog.info? 260).map (·.size) = some 2 := by kernel_rfl
  exact Option.map_eq_some_iff.1 h
theorem liesB : liesAt Tryz.prog Tryz.prog.depth 260 (2 / Tryz.prog.cellsOf 260) 0 260 1 = true := by kernel_rfl
theorem cellsU8 : Tryz.prog.cellsOf 5 = 1 := by kernel_rfl
set_option maxHeartbeats 1000000 in
set_option maxRecDepth 100000 in
theorem cc_used (b : Nat) (w : World) (h0 : w.cell? ⟨b, 0, none⟩ = some (.pointer (some ⟨b, 0, none⟩))) :
    Calls Tryz.prog 196 #[.pointer (some ⟨b, 0, none⟩)] w fun e w' => e = .returned (.tuple #[]) ∧ w' = w := by
  obtain ⟨j, hj, _⟩ := infoB
  go_enter Tryz.func196, Tryz.ntmps196
  go_wp2
  rw [Lib.run_neq_ptr_same w _ Tryz.underlying258 hj]
  go_wp2
  go_end0
  exact ⟨rfl, rfl⟩
set_option maxHeartbeats 1000000 in
set_option maxRecDepth 100000 in
theorem cc_fresh (b : Nat) (w : World) (h0 : w.cell? ⟨b, 0, none⟩ = some (.pointer none)) (hsh : w.shape? b = some (260, 2)) (hfz : w.frozen? ⟨b, 0, none⟩ = false) :
    Calls Tryz.prog 196 #[.pointer (some ⟨b, 0, none⟩)] w fun e w' => e = .returned (.tuple #[]) ∧ w' = w.setCell ⟨b, 0, none⟩ (.pointer (some ⟨b, 0, none⟩)) := by
  obtain ⟨j, hj, hjs⟩ := infoB
  go_enter Tryz.func196, Tryz.ntmps196
  go_wp2
  rw [Lib.run_to_unsafe w ⟨b, 0, none⟩ Tryz.underlying258 Tryz.underlying205 hj (by rw [hjs]; decide) hsh (Nat.zero_lt_succ 1)]
  simp only [Result.andThen]
  rw [Oper.upon_value]
  go_wp2
  rw [run_callFunc_extern Tryz.func272 (by kernel_rfl) (by kernel_rfl) (by kernel_rfl) (e := Extern.AbiNoEscape.same) (by kernel_rfl)]
  rw [Lib.run_noEscape]
  simp only [Result.andThen]
  rw [Oper.upon_value]
  go_wp2
  rw [Lib.run_from_unsafe w ⟨b, 0, none⟩ Tryz.underlying205 Tryz.underlying258 hj hsh liesB]
  simp only [Result.andThen]
  rw [Oper.upon_value]
  go_wp2
  go_end0
  exact ⟨rfl, rfl⟩
set_option maxHeartbeats 1000000 in
set_option maxRecDepth 100000 in
theorem str_nil (b : Nat) (w : World) (h1 : w.cell? ⟨b, 1, none⟩ = some (.slice none 0 0)) :
    Calls Tryz.prog 133 #[.pointer (some ⟨b, 0, none⟩)] w fun e w' => e = .returned (.string ⟨#[]⟩) ∧ w' = w.drew := by
  have hUS : ∀ (W : World) (q : Option Addr), (Builtin.unsafeString_ #[375, 3] 9 #[.pointer q, .int .i64 0]).run Tryz.prog W = .ok (.string .empty) W := fun W q => Lib.run_unsafeString_none W _ _ _ q
  have c1 : w.drew.cell? ⟨b, 1, none⟩ = some (.slice none 0 0) := h1
  have hSD : (Builtin.unsafeSliceData_ #[127] 375 #[.slice none 0 0]).run Tryz.prog w.drew = .ok (.pointer none) w.drew := rfl
  clear h1
  go_enter Tryz.func133, Tryz.ntmps133
  go_wp2
  go_region
  all_goals (go_wp2; go_ret; exact ⟨rfl, rfl⟩)
set_option maxHeartbeats 1000000 in
set_option maxRecDepth 100000 in
theorem str_some (b g cap n : Nat) (l : List UInt8) (w : World) (h0 : l ≠ []) (h1 : w.cell? ⟨b, 1, none⟩ = some (.slice (some ⟨g, 0, none⟩) l.length cap)) (hcap : l.length ≤ cap) (hsh : w.shape? g = some (5, n)) (hn : l.length ≤ n) (hbig : l.length ≤ 1099511627776)
    (hcell : ∀ j x, l[j]? = some x → w.cell? ⟨g, j, none⟩ = some (.int .u8 x.toNat)) :
    Calls Tryz.prog 133 #[.pointer (some ⟨b, 0, none⟩)] w fun e w' => e = .returned (.string ⟨l.toArray⟩) ∧ w' = w.drew.freeze ⟨g, 0, none⟩ l.length := by
  have hl0 : l.length ≠ 0 := by simpa using h0
  have c1 : w.drew.cell? ⟨b, 1, none⟩ = some (.slice (some ⟨g, 0, none⟩) l.length cap) := h1
  have hSD : (Builtin.unsafeSliceData_ #[127] 375 #[.slice (some ⟨g, 0, none⟩) l.length cap]).run Tryz.prog w.drew = .ok (.pointer (some ⟨g, 0, none⟩)) w.drew :=
    Lib.run_unsafeSliceData_row _ _ _ _ _ _ (by omega)
  have hUS : (Builtin.unsafeString_ #[375, 3] 9 #[.pointer (some ⟨g, 0, none⟩), .int .i64 l.length]).run Tryz.prog w.drew = .ok (.string ⟨l.toArray⟩) (w.drew.freeze ⟨g, 0, none⟩ l.length) := by
    refine Lib.run_unsafeString_row w.drew 375 3 9 5 Tryz.underlying375 cellsU8 g n hsh l h0 hn (by omega) ?_
    intro j x hx
    have := hcell j x hx
    unfold Addr.add
    simp only [Nat.zero_add]
    split
    · rename_i e; subst e; exact this
    · exact this
  clear h0 h1 hcap hsh hn hbig hcell hl0
  go_enter Tryz.func133, Tryz.ntmps133
  go_wp2
  go_region
  all_goals (go_wp2; go_ret; exact ⟨rfl, rfl⟩)
theorem count_ext (s : ByteArray) (c : Int) (w : World) : (callFunc 356 #[.string s, .int .u8 c]).run Tryz.prog w = .ok (.value (.int .i64 (Lib.countByte s.data.toList c.toNat.toUInt8))) w := by
  rw [run_callFunc_extern Tryz.func356 (by kernel_rfl) (by kernel_rfl) (by kernel_rfl) (e := Extern.BytealgCount.count) (by kernel_rfl), Lib.run_countString]
  rfl
end Go.Proofs.Ea
