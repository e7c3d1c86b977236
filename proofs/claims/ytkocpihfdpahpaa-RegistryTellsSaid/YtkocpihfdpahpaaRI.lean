/- Texts of this proof, one behind the other: Tells. -/
import Derived.Test.YtkocpihfdpahpaaRH
import Derived.Test.YtkocpihfdpahpaaRC
import Derived.Test.YtkocpihfdpahpaaRE
import Derived.Deep.RegionHeld3
import Derived.Deep.CutRange
import Derived.Deep.QuietTactic
import Derived.BigQuiet
set_option linter.unusedVariables false
set_option linter.unusedSimpArgs false
/- The walk of landmarklaw11.RegistryTells. -/
namespace Go.Proofs.Ytkocpihfdpahpaa
open Go.RowKit

section
variable {P : Program} (w : World)
theorem eqVal_run (d : Nat) {t th tu e : TypeId} {i : TypeInfo} {n0 n1 : String} (hf : (P.fieldsOf t).toList.map (fun f => (f.name, f.type, f.offset)) = [(n0, th, 0), (n1, tu, 32)]) (hu : P.underlying t = some (.struct (P.fieldsOf t))) (hp : P.stoodInHeld t = false)
    (h0 : n0 ≠ "_") (h1 : n1 ≠ "_") (hu0 : P.underlying tu = some (.int .u64))
    (hA : ∀ w, (isAgg th).run P w = .ok true w) (hS : ∀ w, (Go.sizeOf th).run P w = .ok 32 w) (huh : P.underlying th = some (.array 32 e)) (hi : P.info? e = some i) (hc : P.cellsOf e = 1) (he : P.underlying e = some (.int .u8)) (a b : Val) :
    (Op.equalIn (d + 3) t (.agg (valA a)) (.agg (valA b))).run P w = .ok (decide (a = b)) w := by
  obtain ⟨f0, f1, hf, m0, m1, t0, t1, o0, o1⟩ := fields2 hf
  rw [run_equalIn_struct w (d + 2) t _ _ hu hp, hf]
  have a1 : ∀ w, (isAgg tu).run P w = .ok false w := fun _ => by simp [isAgg, run_underlying hu0]
  have p0 := fun p : Val => part_agg (P := P) w hA hS (valA p) (off := 0) (by simp)
  have p1 := fun p : Val => part_one (P := P) w a1 (valA p) 32 (.int .u64 (p.stake.toNat : Int)) (by rw [valA, Array.getElem?_append_right (by simp)]; simp)
  simp only [Nat.zero_add, valA_key] at p0
  have q0 := eqHash_run (P := P) w d huh hi hc he a.key b.key
  have q1 := run_equalIn_int (P := P) w (d + 1) tu .u64 .u64 (a.stake.toNat : Int) (b.stake.toNat : Int) hu0
  have e1 : ((a.stake.toNat : Int) == (b.stake.toNat : Int)) = decide (a.stake = b.stake) := by
    rw [Bool.eq_iff_iff]
    simp only [beq_iff_eq, decide_eq_true_eq]
    exact ⟨fun h => UInt64.toNat_inj.1 (by omega), fun h => by rw [h]⟩
  rw [e1] at q1
  have e4 : decide (a = b) = (decide (a.key = b.key) && decide (a.stake = b.stake)) := by
    rw [Bool.eq_iff_iff]
    cases a; cases b
    simp
  rw [e4]
  generalize decide (a.key = b.key) = k0 at *
  generalize decide (a.stake = b.stake) = k1 at *
  simp only [Op.eqFields, m0, m1, t0, t1, o0, o1, h0, h1, ne_eq, not_false_eq_true, if_true, Sem.run_bind, p0, Result.andThen_ok, q0]
  cases k0
  · rfl
  simp only [Bool.not_true, Bool.false_eq_true, if_false, Bool.true_and, Sem.run_bind, p1, q1, Result.andThen_ok]
  cases k1 <;> rfl
end
theorem val_fields2 : (Try.prog.fieldsOf 125).toList.map (fun f => (f.name, f.type, f.offset)) = [("Key", 24, 0), ("Stake", 22, 32)] := by kernel_rfl
theorem eq_val (w : World) (a b : Val) : (Op.equalIn 10000 125 (.agg (valA a)) (.agg (valA b))).run Try.prog w = .ok (decide (a = b)) w := by
  obtain ⟨i, hi⟩ := u8_info
  exact eqVal_run w 9997 val_fields2 (by kernel_rfl) (by kernel_rfl) (by decide) (by decide) Try.underlying22 Try.isAgg24 Try.sizeOf24 Try.underlying24 hi u8_cells Try.underlying5 a b
attribute [local go_sem ↓] eq_val
attribute [local go_sem ↓] fold_bldA fold_bsV fold_appV fold_bldV
attribute [local go_sem] regA_size
/-- what the law reads all along -/
structure TM (W : World) (b : Nat) (g : GReg) (r : Reg) (p : Pt) (k : Hash) : Prop where
  reg : RBox W b g r
  pt : row? W (b + 1) 0 33 = some (pointA p)
  key : row? W (b + 2) 0 32 = some (hashA k)
theorem TM.keep {W W' : World} {b : Nat} {g : GReg} {r : Reg} {p : Pt} {k : Hash} (h : TM W b g r p k) (hb : Below W.heap.size W W') : TM W' b g r p k :=
  ⟨h.reg.keep hb, (row?_below _ _ _ hb (lt_of_row h.pt)).trans h.pt, (row?_below _ _ _ hb (lt_of_row h.key)).trans h.key⟩
theorem TM.far {W W' : World} {B b : Nat} {g : GReg} {r : Reg} {p : Pt} {k : Hash} (h : TM W b g r p k) (hb : Below B W W') (hB : b + 2 < B) (hr : RegR W' g r) : TM W' b g r p k :=
  ⟨⟨(row?_below _ _ _ hb (by omega)).trans h.reg.row, hr⟩, (row?_below _ _ _ hb (by omega)).trans h.pt, (row?_below _ _ _ hb hB).trans h.key⟩
set_option maxRecDepth 100000 in
set_option maxHeartbeats 6400000 in
theorem tells_walk (g : GReg) (r : Reg) (p : Pt) (d : UInt64) (key : Hash) (w : World) (hr : RegR w g r) :
    Calls Try.prog 15 #[.agg (regA g), .agg (pointA p), .int .u64 (d.toNat : Int), .agg (hashA key)] w fun e w' => e = .returned (.bool true) ∧ Below w.heap.size w w' := by
  have hB0 : Below w.heap.size w (((w.alloc (.cells (regA g) 103)).alloc (.cells (pointA p) 26)).alloc (.cells (hashA key) 24)) := by (repeat' (first | (with_reducible exact Below.refl _ _) | (with_reducible assumption) | (with_reducible refine bel_trans (by assumption) ?_ ?_) | (with_reducible refine bel_grown (by assumption) ?_ ?_ ?_) | (with_reducible refine Below.alloc ?_ ?_ _) | (with_reducible refine Below.drew ?_) | (with_reducible refine below_drewN ?_ _) | (with_reducible refine Below.setCell ?_ ?_ _) | (with_reducible refine below_put ?_ ?_ _ _) | (with_reducible exact Nat.le_refl _) | omega | (with_reducible refine Nat.le_trans ?_ (Below.size (by assumption))) | (with_reducible refine Nat.le_trans ?_ (World.grownBy.size (by assumption))) | (simp only [World.size_alloc, World.size_setCell, World.size_drew, size_drewN]; omega) | (simp only [World.size_alloc, World.size_setCell, World.size_drew, size_drewN, size_put]; omega) | (intro k hk; simp [Value.ownBlock] at hk; done) | (intro k hk; simp [Value.ownBlock] at hk; omega) | (simp [size_drewN] at *; omega)))
  have hz0 : (((w.alloc (.cells (regA g) 103)).alloc (.cells (pointA p) 26)).alloc (.cells (hashA key) 24)).heap.size = w.heap.size + 3 := by simp
  have hT0 : TM (((w.alloc (.cells (regA g) 103)).alloc (.cells (pointA p) 26)).alloc (.cells (hashA key) 24)) w.heap.size g r p key := by
    refine ⟨⟨?_, hr.keep hB0⟩, ?_, ?_⟩
    · rw [row?_old _ _ _ _ _ (by simp; omega), row?_old _ _ _ _ _ (by simp), row?_new]; exact if_pos (by simp [regA])
    · rw [row?_old _ _ _ _ _ (by simp), row?_new_at _ _ _ _ _ _ (by simp)]; simp
    · rw [row?_new_at _ _ _ _ _ _ (by simp)]; simp
  have n2 := hr.1.1
  have hch := hr.2.2.2
  have HF := few_c hr
  have hrI := Lib.hid hr
  clear hr
  have HK := fun W => known11_c W
  obtain ⟨⟨ma, mn, mc⟩, gc, gg, gch⟩ := g
  simp only at n2 hch
  subst n2 hch
  go_enter Try.func15, Try.ntmps15
  go_upto_region 1 with fail
  have HF := few_c hT0.reg.reg
  have hrow0 := hT0.reg.row
  generalize ((w.alloc (.cells (regA ⟨⟨ma, r.members.length, mc⟩, gc, gg, r.churn⟩) 103)).alloc (.cells (pointA p) 26)).alloc (.cells (hashA key) 24) = W0 at *
  replace hT0 := Lib.hid hT0
  cases hfw : fewB r
  · rw [hfw] at HF
    clear hfw
    go_wp2_with fail
    refine HF.mono ?_
    clear HF
    rintro e w1 ⟨rfl, hb1⟩
    have hz1 := hb1.size
    go_wp2_with (go_at_call 55; (with_reducible refine (HK _).mono ?_); rintro e W4 ⟨rfl, hb4⟩)
    go_ret
    exact ⟨rfl, hB0.trans ((hb1.mono (by omega)).trans (hb4.mono (by omega)))⟩
  rw [hfw] at HF
  obtain ⟨hm, hc, hgo⟩ := fewB_out hfw
  clear hfw
  go_wp2_with fail
  refine HF.mono ?_
  clear HF
  rintro e w1 ⟨rfl, hb1⟩
  have hT1 := Lib.hid (hT0.out.keep hb1)
  have hB1 := Lib.hid (hB0.trans (hb1.mono (by omega)))
  clear hT0 hb1 hB0 hrow0
  replace hz0 := Lib.hid hz0
  have hw11 := Lib.hid (Below.refl w1.heap.size w1)
  go_upto_region 4 with fail
  go_loopw [9] (fun i W' => ∃ k : Nat, k ≤ r.members.length + 3 ∧ i = .int .i64 ((k : Int) - 1) ∧ Hid (Below w1.heap.size w1 W')) (fun i _ => (r.members.length + 3 - (intOf i + 1)).toNat)
  case atStart => exact ⟨0, Nat.zero_le _, rfl, hw11⟩
  case round =>
    clear hw11
    obtain ⟨k, hk, rfl, hB2⟩ := hrel
    have hT2 := Lib.hid (hT1.out.keep hB2.out)
    have hrow := hT2.out.reg.row
    obtain ⟨c0, -, -, -, hbl⟩ := hT2.out.reg.cells
    simp only at c0
    dsimp only [Sl.v] at c0
    have y1 : IntKind.i64.wrap ((r.members.length : Int) + 1) = (r.members.length : Int) + 1 := IntWalk.i64_in _ (by omega)
    by_cases hkx : k < r.members.length + 3
    · obtain ⟨n, hn⟩ : ∃ n : Int, n = (k : Int) - 1 := ⟨_, rfl⟩
      rw [← hn]
      have n0 : -1 ≤ n := by omega
      have n1 : n ≤ (r.members.length : Int) + 1 := by omega
      have x1 : IntKind.i64.wrap (n + 1) = n + 1 := IntWalk.i64_in _ (by omega)
      have HS := fun W (hb : Below wr.heap.size wr W) => regStake_c (hT2.out.reg.keep hb).reg (by omega) n
      have HR := fun W (hb : Below wr.heap.size wr W) => rstake_c (hT2.out.reg.keep hb).reg (by omega) n
      have HA := fun W (hb : Below wr.heap.size wr W) => regActive_c (hT2.out.reg.keep hb).reg (by omega) n
      have hs64 := stakeI_lt r n
      generalize stakeI r n = sI at *
      have Hac := Lib.hid (show actI r n = (decide (1 ≤ n) && decide (n ≤ (r.members.length : Int)) && votes (r.members.getD (n - 1).toNat zeroMbr).status) from rfl)
      generalize actI r n = ac at *
      replace hn := Lib.hid hn
      by_cases s1 : n < 1
      · have h0 : ac = false := by rw [Hac.out, decide_eq_false (by omega)]; rfl
        subst h0
        have b1 : decide (1 ≤ n) = false := decide_eq_false (by omega)
        clear Hac
        go_upto_region 6 with fail
        refine wp_region_freeG_l (fun W W' => Below W.heap.size W W') (by kernel_rfl) [28, 29, 30, 31, 32, 33, 34, 35, 36, 37, 38, 39, 40, 41, 42, 43, 44, 45, 46, 47, 48, 49, 50, 51, 52, 53, 54, 55, 56, 57, 58]
          [Is (.agg (regA ⟨⟨ma, r.members.length, mc⟩, gc, gg, r.churn⟩)), Is (.int .i64 n), Is (.int .u64 (sI : Int)), Is (.agg (regA ⟨⟨ma, r.members.length, mc⟩, gc, gg, r.churn⟩)), Is (.int .i64 n), Is (.int .u64 (sI : Int)), Is (.bool false), Is (.bool false), Is (.agg (regA ⟨⟨ma, r.members.length, mc⟩, gc, gg, r.churn⟩)), Is (.int .i64 n), Is (.bool false), Is (.int .i64 n), Is (.bool false), Is (.bool false), Is (undef), Is (undef), Is (undef), Is (undef), Is (undef), Is (.bool false), Is (.bool false), Is (undef), Is (undef), Is (undef), Is (undef), Is (undef), Is (undef), Is (undef), Is (.bool false), Is (.bool false), Is (.bool false)]
          (by kernel_rfl) (fun W W' h hb => hb.trans (h.mono hb.size)) ?_ ?_ ?_
        · intro f hf
          simp only [List.mem_cons, List.not_mem_nil, or_false] at hf
          rcases hf with rfl | rfl | rfl | rfl | rfl | rfl | rfl | rfl | rfl | rfl | rfl | rfl | rfl | rfl | rfl | rfl | rfl | rfl | rfl | rfl | rfl | rfl | rfl | rfl | rfl | rfl | rfl | rfl | rfl | rfl | rfl <;> intro x W W' h hr <;> first | exact h
        · refine ⟨?_, ?_, ?_, ?_, ?_, ?_, ?_, ?_, ?_, ?_, ?_, ?_, ?_, ?_, ?_, ?_, ?_, ?_, ?_, ?_, ?_, ?_, ?_, ?_, ?_, ?_, ?_, ?_, ?_, ?_, ?_, trivial⟩
          · intro L ax W hf hd
            try simp [Region.binds] at hd
            have e4 : ax.tmps[4]?.getD undef = .pointer (some ⟨w.heap.size, 0, none⟩) := hf.out 4 (by decide) rfl
            refine ⟨fun _ => ?_, fun h => absurd trivial h⟩
            have h1 := (row?_below _ _ _ hf.below hbl).trans hrow
            refine free_run (v := .agg (regA ⟨⟨ma, r.members.length, mc⟩, gc, gg, r.churn⟩)) (W' := W) rfl ?_ rfl (Below.refl _ _)
            go_simp
          · intro L ax W hf hd
            try simp [Region.binds] at hd
            have e9 : ax.tmps[9]?.getD undef = .int .i64 n := hf.out 9 (by decide) rfl
            refine ⟨fun _ => ?_, fun h => absurd trivial h⟩
            refine free_run (v := .int .i64 n) (W' := W) rfl ?_ rfl (Below.refl _ _)
            go_simp
          · intro L ax W hf hd
            simp [Region.binds] at hd
            have e28 : ax.tmps[28]?.getD undef = .agg (regA ⟨⟨ma, r.members.length, mc⟩, gc, gg, r.churn⟩) := slv (hf.got 0 (by decide) (by simp [hd]))
            have e29 : ax.tmps[29]?.getD undef = .int .i64 n := slv (hf.got 1 (by decide) (by simp [hd]))
            refine ⟨fun _ => ?_, fun h => absurd trivial h⟩
            refine free_call (f := 71) (args := #[.agg (regA ⟨⟨ma, r.members.length, mc⟩, gc, gg, r.churn⟩), .int .i64 n]) rfl (by go_simp) ?_
            refine (HS W hf.below).mono ?_
            rintro e w' ⟨rfl, hb⟩
            exact ⟨_, rfl, rfl, hb⟩
          · intro L ax W hf hd
            try simp [Region.binds] at hd
            have e4 : ax.tmps[4]?.getD undef = .pointer (some ⟨w.heap.size, 0, none⟩) := hf.out 4 (by decide) rfl
            refine ⟨fun _ => ?_, fun h => absurd trivial h⟩
            have h1 := (row?_below _ _ _ hf.below hbl).trans hrow
            refine free_run (v := .agg (regA ⟨⟨ma, r.members.length, mc⟩, gc, gg, r.churn⟩)) (W' := W) rfl ?_ rfl (Below.refl _ _)
            go_simp
          · intro L ax W hf hd
            try simp [Region.binds] at hd
            have e9 : ax.tmps[9]?.getD undef = .int .i64 n := hf.out 9 (by decide) rfl
            refine ⟨fun _ => ?_, fun h => absurd trivial h⟩
            refine free_run (v := .int .i64 n) (W' := W) rfl ?_ rfl (Below.refl _ _)
            go_simp
          · intro L ax W hf hd
            simp [Region.binds] at hd
            have e31 : ax.tmps[31]?.getD undef = .agg (regA ⟨⟨ma, r.members.length, mc⟩, gc, gg, r.churn⟩) := slv (hf.got 3 (by decide) (by simp [hd]))
            have e32 : ax.tmps[32]?.getD undef = .int .i64 n := slv (hf.got 4 (by decide) (by simp [hd]))
            refine ⟨fun _ => ?_, fun h => absurd trivial h⟩
            refine free_call (f := 72) (args := #[.agg (regA ⟨⟨ma, r.members.length, mc⟩, gc, gg, r.churn⟩), .int .i64 n]) rfl (by go_simp) ?_
            refine (HR W hf.below).mono ?_
            rintro e w' ⟨rfl, hb⟩
            exact ⟨_, rfl, rfl, hb⟩
          · intro L ax W hf hd
            simp [Region.binds] at hd
            have e30 : ax.tmps[30]?.getD undef = .int .u64 (sI : Int) := slv (hf.got 2 (by decide) (by simp [hd]))
            have e33 : ax.tmps[33]?.getD undef = .int .u64 (sI : Int) := slv (hf.got 5 (by decide) (by simp [hd]))
            refine ⟨fun _ => ?_, fun h => absurd trivial h⟩
            have hqq : ((sI : Int) != (sI : Int)) = false := by simp
            refine free_run (v := .bool false) (W' := W) rfl ?_ rfl (Below.refl _ _)
            go_simp
          · intro L ax W hf hd
            simp [Region.binds] at hd
            have e34 : ax.tmps[34]?.getD undef = .bool false := slv (hf.got 6 (by decide) (by simp [hd]))
            refine ⟨fun _ => ?_, fun h => absurd trivial h⟩
            refine free_run (v := .bool false) (W' := W) rfl ?_ rfl (Below.refl _ _)
            go_simp
          · intro L ax W hf hd
            simp [Region.binds] at hd
            have e4 : ax.tmps[4]?.getD undef = .pointer (some ⟨w.heap.size, 0, none⟩) := hf.out 4 (by decide) rfl
            have g0 : sl ax 35 = .bool false := hf.got 7 (by decide) (by simp [hd])
            refine ⟨fun hh => ?_, fun hh => ?_⟩
            · first
                | (exact absurd (g0.symm.trans hh) (undef_ne _))
                | (exact absurd (g0.symm.trans hh) (bool_ne (by decide)))
                | (exfalso; revert hh; simp [Held, g0, *]; done)
                | ((have h1 := (row?_below _ _ _ hf.below hbl).trans hrow); refine free_run (v := .agg (regA ⟨⟨ma, r.members.length, mc⟩, gc, gg, r.churn⟩)) (W' := W) rfl ?_ rfl (Below.refl _ _); go_simp)
            · first
                | (exact absurd g0 hh)
                | (exfalso; revert hh; simp [Held, g0, *]; done)
                | (show undef = _; first | rfl | (simp [*]; done))
          · intro L ax W hf hd
            simp [Region.binds] at hd
            have e9 : ax.tmps[9]?.getD undef = .int .i64 n := hf.out 9 (by decide) rfl
            have g0 : sl ax 35 = .bool false := hf.got 7 (by decide) (by simp [hd])
            refine ⟨fun hh => ?_, fun hh => ?_⟩
            · first
                | (exact absurd (g0.symm.trans hh) (undef_ne _))
                | (exact absurd (g0.symm.trans hh) (bool_ne (by decide)))
                | (exfalso; revert hh; simp [Held, g0, *]; done)
                | (refine free_run (v := .int .i64 n) (W' := W) rfl ?_ rfl (Below.refl _ _); go_simp)
            · first
                | (exact absurd g0 hh)
                | (exfalso; revert hh; simp [Held, g0, *]; done)
                | (show undef = _; first | rfl | (simp [*]; done))
          · intro L ax W hf hd
            simp [Region.binds] at hd
            have e36 : ax.tmps[36]?.getD undef = .agg (regA ⟨⟨ma, r.members.length, mc⟩, gc, gg, r.churn⟩) := slv (hf.got 8 (by decide) (by simp [hd]))
            have e37 : ax.tmps[37]?.getD undef = .int .i64 n := slv (hf.got 9 (by decide) (by simp [hd]))
            have g0 : sl ax 35 = .bool false := hf.got 7 (by decide) (by simp [hd])
            refine ⟨fun hh => ?_, fun hh => ?_⟩
            · first
                | (exact absurd (g0.symm.trans hh) (undef_ne _))
                | (exact absurd (g0.symm.trans hh) (bool_ne (by decide)))
                | (exfalso; revert hh; simp [Held, g0, *]; done)
                | (refine free_call (f := 66) (args := #[.agg (regA ⟨⟨ma, r.members.length, mc⟩, gc, gg, r.churn⟩), .int .i64 n]) rfl (by go_simp) ?_; refine (HA W hf.below).mono ?_; rintro e w' ⟨rfl, hb⟩; exact ⟨_, rfl, rfl, hb⟩)
            · first
                | (exact absurd g0 hh)
                | (exfalso; revert hh; simp [Held, g0, *]; done)
                | (show undef = _; first | rfl | (simp [*]; done))
          · intro L ax W hf hd
            simp [Region.binds] at hd
            have e9 : ax.tmps[9]?.getD undef = .int .i64 n := hf.out 9 (by decide) rfl
            have g0 : sl ax 35 = .bool false := hf.got 7 (by decide) (by simp [hd])
            refine ⟨fun hh => ?_, fun hh => ?_⟩
            · first
                | (exact absurd (g0.symm.trans hh) (undef_ne _))
                | (exact absurd (g0.symm.trans hh) (bool_ne (by decide)))
                | (exfalso; revert hh; simp [Held, g0, *]; done)
                | (refine free_run (v := .int .i64 n) (W' := W) rfl ?_ rfl (Below.refl _ _); go_simp)
            · first
                | (exact absurd g0 hh)
                | (exfalso; revert hh; simp [Held, g0, *]; done)
                | (show undef = _; first | rfl | (simp [*]; done))
          · intro L ax W hf hd
            simp [Region.binds] at hd
            have e39 : ax.tmps[39]?.getD undef = .int .i64 n := slv (hf.got 11 (by decide) (by simp [hd]))
            have g0 : sl ax 35 = .bool false := hf.got 7 (by decide) (by simp [hd])
            refine ⟨fun hh => ?_, fun hh => ?_⟩
            · first
                | (exact absurd (g0.symm.trans hh) (undef_ne _))
                | (exact absurd (g0.symm.trans hh) (bool_ne (by decide)))
                | (exfalso; revert hh; simp [Held, g0, *]; done)
                | (refine free_run (v := .bool false) (W' := W) rfl ?_ rfl (Below.refl _ _); go_simp)
            · first
                | (exact absurd g0 hh)
                | (exfalso; revert hh; simp [Held, g0, *]; done)
                | (show undef = _; first | rfl | (simp [*]; done))
          · intro L ax W hf hd
            simp [Region.binds] at hd
            have e40 : ax.tmps[40]?.getD undef = .bool false := slv (hf.got 12 (by decide) (by simp [hd]))
            have g0 : sl ax 35 = .bool false := hf.got 7 (by decide) (by simp [hd])
            refine ⟨fun hh => ?_, fun hh => ?_⟩
            · first
                | (exact absurd (g0.symm.trans hh) (undef_ne _))
                | (exact absurd (g0.symm.trans hh) (bool_ne (by decide)))
                | (exfalso; revert hh; simp [Held, g0, *]; done)
                | (refine free_run (v := .bool false) (W' := W) rfl ?_ rfl (Below.refl _ _); go_simp)
            · first
                | (exact absurd g0 hh)
                | (exfalso; revert hh; simp [Held, g0, *]; done)
                | (show undef = _; first | rfl | (simp [*]; done))
          · intro L ax W hf hd
            simp [Region.binds] at hd
            have e9 : ax.tmps[9]?.getD undef = .int .i64 n := hf.out 9 (by decide) rfl
            have g0 : sl ax 41 = .bool false := hf.got 13 (by decide) (by simp [hd])
            refine ⟨fun hh => ?_, fun hh => ?_⟩
            · first
                | (exact absurd (g0.symm.trans hh) (undef_ne _))
                | (exact absurd (g0.symm.trans hh) (bool_ne (by decide)))
                | (exfalso; revert hh; simp [Held, g0, *]; done)
                | (refine free_run (v := undef) (W' := W) rfl ?_ rfl (Below.refl _ _); go_simp)
            · first
                | (exact absurd g0 hh)
                | (exfalso; revert hh; simp [Held, g0, *]; done)
                | (show undef = _; first | rfl | (simp [*]; done))
          · intro L ax W hf hd
            simp [Region.binds] at hd
            have e4 : ax.tmps[4]?.getD undef = .pointer (some ⟨w.heap.size, 0, none⟩) := hf.out 4 (by decide) rfl
            have g0 : sl ax 41 = .bool false := hf.got 13 (by decide) (by simp [hd])
            refine ⟨fun hh => ?_, fun hh => ?_⟩
            · first
                | (exact absurd (g0.symm.trans hh) (undef_ne _))
                | (exact absurd (g0.symm.trans hh) (bool_ne (by decide)))
                | (exfalso; revert hh; simp [Held, g0, *]; done)
                | (refine free_run (v := undef) (W' := W) rfl ?_ rfl (Below.refl _ _); go_simp)
            · first
                | (exact absurd g0 hh)
                | (exfalso; revert hh; simp [Held, g0, *]; done)
                | (show undef = _; first | rfl | (simp [*]; done))
          · intro L ax W hf hd
            simp [Region.binds] at hd
            have e43 : ax.tmps[43]?.getD undef = undef := slv (hf.got 15 (by decide) (by simp [hd]))
            have g0 : sl ax 41 = .bool false := hf.got 13 (by decide) (by simp [hd])
            refine ⟨fun hh => ?_, fun hh => ?_⟩
            · first
                | (exact absurd (g0.symm.trans hh) (undef_ne _))
                | (exact absurd (g0.symm.trans hh) (bool_ne (by decide)))
                | (exfalso; revert hh; simp [Held, g0, *]; done)
                | (refine free_run (v := undef) (W' := W) rfl ?_ rfl (Below.refl _ _); go_simp)
            · first
                | (exact absurd g0 hh)
                | (exfalso; revert hh; simp [Held, g0, *]; done)
                | (show undef = _; first | rfl | (simp [*]; done))
          · intro L ax W hf hd
            simp [Region.binds] at hd
            have e44 : ax.tmps[44]?.getD undef = undef := slv (hf.got 16 (by decide) (by simp [hd]))
            have g0 : sl ax 41 = .bool false := hf.got 13 (by decide) (by simp [hd])
            refine ⟨fun hh => ?_, fun hh => ?_⟩
            · first
                | (exact absurd (g0.symm.trans hh) (undef_ne _))
                | (exact absurd (g0.symm.trans hh) (bool_ne (by decide)))
                | (exfalso; revert hh; simp [Held, g0, *]; done)
                | (refine free_run (v := undef) (W' := W) rfl ?_ rfl (Below.refl _ _); go_simp)
            · first
                | (exact absurd g0 hh)
                | (exfalso; revert hh; simp [Held, g0, *]; done)
                | (show undef = _; first | rfl | (simp [*]; done))
          · intro L ax W hf hd
            simp [Region.binds] at hd
            have e42 : ax.tmps[42]?.getD undef = undef := slv (hf.got 14 (by decide) (by simp [hd]))
            have e45 : ax.tmps[45]?.getD undef = undef := slv (hf.got 17 (by decide) (by simp [hd]))
            have g0 : sl ax 41 = .bool false := hf.got 13 (by decide) (by simp [hd])
            refine ⟨fun hh => ?_, fun hh => ?_⟩
            · first
                | (exact absurd (g0.symm.trans hh) (undef_ne _))
                | (exact absurd (g0.symm.trans hh) (bool_ne (by decide)))
                | (exfalso; revert hh; simp [Held, g0, *]; done)
                | (refine free_run (v := undef) (W' := W) rfl ?_ rfl (Below.refl _ _); go_simp)
            · first
                | (exact absurd g0 hh)
                | (exfalso; revert hh; simp [Held, g0, *]; done)
                | (show undef = _; first | rfl | (simp [*]; done))
          · intro L ax W hf hd
            simp [Region.binds] at hd
            have e41 : ax.tmps[41]?.getD undef = .bool false := slv (hf.got 13 (by decide) (by simp [hd]))
            have e46 : ax.tmps[46]?.getD undef = undef := slv (hf.got 18 (by decide) (by simp [hd]))
            have g0 : sl ax 35 = .bool false := hf.got 7 (by decide) (by simp [hd])
            refine ⟨fun hh => ?_, fun hh => ?_⟩
            · first
                | (exact absurd (g0.symm.trans hh) (undef_ne _))
                | (exact absurd (g0.symm.trans hh) (bool_ne (by decide)))
                | (exfalso; revert hh; simp [Held, g0, *]; done)
                | (refine free_run (v := .bool false) (W' := W) rfl ?_ rfl (Below.refl _ _); go_simp)
            · first
                | (exact absurd g0 hh)
                | (exfalso; revert hh; simp [Held, g0, *]; done)
                | (show undef = _; first | rfl | (simp [*]; done))
          · intro L ax W hf hd
            simp [Region.binds] at hd
            have e47 : ax.tmps[47]?.getD undef = .bool false := slv (hf.got 19 (by decide) (by simp [hd]))
            have g0 : sl ax 35 = .bool false := hf.got 7 (by decide) (by simp [hd])
            refine ⟨fun hh => ?_, fun hh => ?_⟩
            · first
                | (exact absurd (g0.symm.trans hh) (undef_ne _))
                | (exact absurd (g0.symm.trans hh) (bool_ne (by decide)))
                | (exfalso; revert hh; simp [Held, g0, *]; done)
                | (refine free_run (v := .bool false) (W' := W) rfl ?_ rfl (Below.refl _ _); go_simp)
            · first
                | (exact absurd g0 hh)
                | (exfalso; revert hh; simp [Held, g0, *]; done)
                | (show undef = _; first | rfl | (simp [*]; done))
          · intro L ax W hf hd
            simp [Region.binds] at hd
            have e4 : ax.tmps[4]?.getD undef = .pointer (some ⟨w.heap.size, 0, none⟩) := hf.out 4 (by decide) rfl
            have g0 : sl ax 48 = .bool false := hf.got 20 (by decide) (by simp [hd])
            refine ⟨fun hh => ?_, fun hh => ?_⟩
            · first
                | (exact absurd (g0.symm.trans hh) (undef_ne _))
                | (exact absurd (g0.symm.trans hh) (bool_ne (by decide)))
                | (exfalso; revert hh; simp [Held, g0, *]; done)
                | (refine free_run (v := undef) (W' := W) rfl ?_ rfl (Below.refl _ _); go_simp)
            · first
                | (exact absurd g0 hh)
                | (exfalso; revert hh; simp [Held, g0, *]; done)
                | (show undef = _; first | rfl | (simp [*]; done))
          · intro L ax W hf hd
            simp [Region.binds] at hd
            have e49 : ax.tmps[49]?.getD undef = undef := slv (hf.got 21 (by decide) (by simp [hd]))
            have g0 : sl ax 48 = .bool false := hf.got 20 (by decide) (by simp [hd])
            refine ⟨fun hh => ?_, fun hh => ?_⟩
            · first
                | (exact absurd (g0.symm.trans hh) (undef_ne _))
                | (exact absurd (g0.symm.trans hh) (bool_ne (by decide)))
                | (exfalso; revert hh; simp [Held, g0, *]; done)
                | (refine free_run (v := undef) (W' := W) rfl ?_ rfl (Below.refl _ _); go_simp)
            · first
                | (exact absurd g0 hh)
                | (exfalso; revert hh; simp [Held, g0, *]; done)
                | (show undef = _; first | rfl | (simp [*]; done))
          · intro L ax W hf hd
            simp [Region.binds] at hd
            have e9 : ax.tmps[9]?.getD undef = .int .i64 n := hf.out 9 (by decide) rfl
            have g0 : sl ax 48 = .bool false := hf.got 20 (by decide) (by simp [hd])
            refine ⟨fun hh => ?_, fun hh => ?_⟩
            · first
                | (exact absurd (g0.symm.trans hh) (undef_ne _))
                | (exact absurd (g0.symm.trans hh) (bool_ne (by decide)))
                | (exfalso; revert hh; simp [Held, g0, *]; done)
                | (refine free_run (v := undef) (W' := W) rfl ?_ rfl (Below.refl _ _); go_simp)
            · first
                | (exact absurd g0 hh)
                | (exfalso; revert hh; simp [Held, g0, *]; done)
                | (show undef = _; first | rfl | (simp [*]; done))
          · intro L ax W hf hd
            simp [Region.binds] at hd
            have e51 : ax.tmps[51]?.getD undef = undef := slv (hf.got 23 (by decide) (by simp [hd]))
            have g0 : sl ax 48 = .bool false := hf.got 20 (by decide) (by simp [hd])
            refine ⟨fun hh => ?_, fun hh => ?_⟩
            · first
                | (exact absurd (g0.symm.trans hh) (undef_ne _))
                | (exact absurd (g0.symm.trans hh) (bool_ne (by decide)))
                | (exfalso; revert hh; simp [Held, g0, *]; done)
                | (refine free_run (v := undef) (W' := W) rfl ?_ rfl (Below.refl _ _); go_simp)
            · first
                | (exact absurd g0 hh)
                | (exfalso; revert hh; simp [Held, g0, *]; done)
                | (show undef = _; first | rfl | (simp [*]; done))
          · intro L ax W hf hd
            simp [Region.binds] at hd
            have e50 : ax.tmps[50]?.getD undef = undef := slv (hf.got 22 (by decide) (by simp [hd]))
            have e52 : ax.tmps[52]?.getD undef = undef := slv (hf.got 24 (by decide) (by simp [hd]))
            have g0 : sl ax 48 = .bool false := hf.got 20 (by decide) (by simp [hd])
            refine ⟨fun hh => ?_, fun hh => ?_⟩
            · first
                | (exact absurd (g0.symm.trans hh) (undef_ne _))
                | (exact absurd (g0.symm.trans hh) (bool_ne (by decide)))
                | (exfalso; revert hh; simp [Held, g0, *]; done)
                | (refine free_run (v := undef) (W' := W) rfl ?_ rfl (Below.refl _ _); go_simp)
            · first
                | (exact absurd g0 hh)
                | (exfalso; revert hh; simp [Held, g0, *]; done)
                | (show undef = _; first | rfl | (simp [*]; done))
          · intro L ax W hf hd
            simp [Region.binds] at hd
            have e53 : ax.tmps[53]?.getD undef = undef := slv (hf.got 25 (by decide) (by simp [hd]))
            have g0 : sl ax 48 = .bool false := hf.got 20 (by decide) (by simp [hd])
            refine ⟨fun hh => ?_, fun hh => ?_⟩
            · first
                | (exact absurd (g0.symm.trans hh) (undef_ne _))
                | (exact absurd (g0.symm.trans hh) (bool_ne (by decide)))
                | (exfalso; revert hh; simp [Held, g0, *]; done)
                | (refine free_run (v := undef) (W' := W) rfl ?_ rfl (Below.refl _ _); go_simp)
            · first
                | (exact absurd g0 hh)
                | (exfalso; revert hh; simp [Held, g0, *]; done)
                | (show undef = _; first | rfl | (simp [*]; done))
          · intro L ax W hf hd
            simp [Region.binds] at hd
            have e54 : ax.tmps[54]?.getD undef = undef := slv (hf.got 26 (by decide) (by simp [hd]))
            have g0 : sl ax 48 = .bool false := hf.got 20 (by decide) (by simp [hd])
            refine ⟨fun hh => ?_, fun hh => ?_⟩
            · first
                | (exact absurd (g0.symm.trans hh) (undef_ne _))
                | (exact absurd (g0.symm.trans hh) (bool_ne (by decide)))
                | (exfalso; revert hh; simp [Held, g0, *]; done)
                | (refine free_run (v := undef) (W' := W) rfl ?_ rfl (Below.refl _ _); go_simp)
            · first
                | (exact absurd g0 hh)
                | (exfalso; revert hh; simp [Held, g0, *]; done)
                | (show undef = _; first | rfl | (simp [*]; done))
          · intro L ax W hf hd
            simp [Region.binds] at hd
            have e48 : ax.tmps[48]?.getD undef = .bool false := slv (hf.got 20 (by decide) (by simp [hd]))
            have e55 : ax.tmps[55]?.getD undef = undef := slv (hf.got 27 (by decide) (by simp [hd]))
            have g0 : sl ax 35 = .bool false := hf.got 7 (by decide) (by simp [hd])
            refine ⟨fun hh => ?_, fun hh => ?_⟩
            · first
                | (exact absurd (g0.symm.trans hh) (undef_ne _))
                | (exact absurd (g0.symm.trans hh) (bool_ne (by decide)))
                | (exfalso; revert hh; simp [Held, g0, *]; done)
                | (refine free_run (v := .bool false) (W' := W) rfl ?_ rfl (Below.refl _ _); go_simp)
            · first
                | (exact absurd g0 hh)
                | (exfalso; revert hh; simp [Held, g0, *]; done)
                | (show undef = _; first | rfl | (simp [*]; done))
          · intro L ax W hf hd
            simp [Region.binds] at hd
            have e38 : ax.tmps[38]?.getD undef = .bool false := slv (hf.got 10 (by decide) (by simp [hd]))
            have e56 : ax.tmps[56]?.getD undef = .bool false := slv (hf.got 28 (by decide) (by simp [hd]))
            have g0 : sl ax 35 = .bool false := hf.got 7 (by decide) (by simp [hd])
            refine ⟨fun hh => ?_, fun hh => ?_⟩
            · first
                | (exact absurd (g0.symm.trans hh) (undef_ne _))
                | (exact absurd (g0.symm.trans hh) (bool_ne (by decide)))
                | (exfalso; revert hh; simp [Held, g0, *]; done)
                | (refine free_run (v := .bool false) (W' := W) rfl ?_ rfl (Below.refl _ _); go_simp)
            · first
                | (exact absurd g0 hh)
                | (exfalso; revert hh; simp [Held, g0, *]; done)
                | (show undef = _; first | rfl | (simp [*]; done))
          · intro L ax W hf hd
            simp [Region.binds] at hd
            have e35 : ax.tmps[35]?.getD undef = .bool false := slv (hf.got 7 (by decide) (by simp [hd]))
            have e57 : ax.tmps[57]?.getD undef = .bool false := slv (hf.got 29 (by decide) (by simp [hd]))
            refine ⟨fun _ => ?_, fun h => absurd trivial h⟩
            refine free_run (v := .bool false) (W' := W) rfl ?_ rfl (Below.refl _ _)
            go_simp
        · intro vs W' hl' hF hb
          obtain ⟨g', hg1, hg2⟩ := vs_lit vs hl' hF
          have e58 : g' 30 = .bool false := hg2 30 (by decide)
          rw [hg1]
          have hB3 := Lib.hid (hB2.out.trans (hb.mono hB2.out.size))
          clear hF hg1 hg2 hl' hb HS HR HA hrow c0
          simp only [List.length_cons, List.length_nil, Nat.reduceAdd, show List.range 31 = [0, 1, 2, 3, 4, 5, 6, 7, 8, 9, 10, 11, 12, 13, 14, 15, 16, 17, 18, 19, 20, 21, 22, 23, 24, 25, 26, 27, 28, 29, 30] from rfl, List.map_cons, List.map_nil, putL, List.zip_cons_cons, List.zip_nil_right, List.setIfInBounds_toArray, List.set_cons_succ, List.set_cons_zero, e58]
          go_wp2_with fail
          go_roundw
          case rel => exact ⟨k + 1, by omega, by rw [show ((k + 1 : Nat) : Int) - 1 = (k : Int) - 1 + 1 by omega, ← hn.out], hB3⟩
          case measure => simp [intOf]; omega
      by_cases s2 : (r.members.length : Int) < n
      · have h0 : ac = false := by rw [Hac.out, decide_eq_false (p := n ≤ _) (by omega)]; simp
        subst h0
        have b1 : decide (1 ≤ n) = true := decide_eq_true (by omega)
        have b2 : decide (n ≤ (r.members.length : Int)) = false := decide_eq_false (by omega)
        clear Hac
        go_upto_region 6 with fail
        refine wp_region_freeG_l (fun W W' => Below W.heap.size W W') (by kernel_rfl) [28, 29, 30, 31, 32, 33, 34, 35, 36, 37, 38, 39, 40, 41, 42, 43, 44, 45, 46, 47, 48, 49, 50, 51, 52, 53, 54, 55, 56, 57, 58]
          [Is (.agg (regA ⟨⟨ma, r.members.length, mc⟩, gc, gg, r.churn⟩)), Is (.int .i64 n), Is (.int .u64 (sI : Int)), Is (.agg (regA ⟨⟨ma, r.members.length, mc⟩, gc, gg, r.churn⟩)), Is (.int .i64 n), Is (.int .u64 (sI : Int)), Is (.bool false), Is (.bool false), Is (.agg (regA ⟨⟨ma, r.members.length, mc⟩, gc, gg, r.churn⟩)), Is (.int .i64 n), Is (.bool false), Is (.int .i64 n), Is (.bool true), Is (.bool true), Is (.int .i64 n), Is (.pointer (some ⟨w.heap.size, 0, none⟩)), Is (.slice (ma) r.members.length mc), Is (.int .i64 (r.members.length : Int)), Is (.bool false), Is (.bool false), Is (.bool false), Is (undef), Is (undef), Is (undef), Is (undef), Is (undef), Is (undef), Is (undef), Is (.bool false), Is (.bool false), Is (.bool false)]
          (by kernel_rfl) (fun W W' h hb => hb.trans (h.mono hb.size)) ?_ ?_ ?_
        · intro f hf
          simp only [List.mem_cons, List.not_mem_nil, or_false] at hf
          rcases hf with rfl | rfl | rfl | rfl | rfl | rfl | rfl | rfl | rfl | rfl | rfl | rfl | rfl | rfl | rfl | rfl | rfl | rfl | rfl | rfl | rfl | rfl | rfl | rfl | rfl | rfl | rfl | rfl | rfl | rfl | rfl <;> intro x W W' h hr <;> first | exact h
        · refine ⟨?_, ?_, ?_, ?_, ?_, ?_, ?_, ?_, ?_, ?_, ?_, ?_, ?_, ?_, ?_, ?_, ?_, ?_, ?_, ?_, ?_, ?_, ?_, ?_, ?_, ?_, ?_, ?_, ?_, ?_, ?_, trivial⟩
          · intro L ax W hf hd
            try simp [Region.binds] at hd
            have e4 : ax.tmps[4]?.getD undef = .pointer (some ⟨w.heap.size, 0, none⟩) := hf.out 4 (by decide) rfl
            refine ⟨fun _ => ?_, fun h => absurd trivial h⟩
            have h1 := (row?_below _ _ _ hf.below hbl).trans hrow
            refine free_run (v := .agg (regA ⟨⟨ma, r.members.length, mc⟩, gc, gg, r.churn⟩)) (W' := W) rfl ?_ rfl (Below.refl _ _)
            go_simp
          · intro L ax W hf hd
            try simp [Region.binds] at hd
            have e9 : ax.tmps[9]?.getD undef = .int .i64 n := hf.out 9 (by decide) rfl
            refine ⟨fun _ => ?_, fun h => absurd trivial h⟩
            refine free_run (v := .int .i64 n) (W' := W) rfl ?_ rfl (Below.refl _ _)
            go_simp
          · intro L ax W hf hd
            simp [Region.binds] at hd
            have e28 : ax.tmps[28]?.getD undef = .agg (regA ⟨⟨ma, r.members.length, mc⟩, gc, gg, r.churn⟩) := slv (hf.got 0 (by decide) (by simp [hd]))
            have e29 : ax.tmps[29]?.getD undef = .int .i64 n := slv (hf.got 1 (by decide) (by simp [hd]))
            refine ⟨fun _ => ?_, fun h => absurd trivial h⟩
            refine free_call (f := 71) (args := #[.agg (regA ⟨⟨ma, r.members.length, mc⟩, gc, gg, r.churn⟩), .int .i64 n]) rfl (by go_simp) ?_
            refine (HS W hf.below).mono ?_
            rintro e w' ⟨rfl, hb⟩
            exact ⟨_, rfl, rfl, hb⟩
          · intro L ax W hf hd
            try simp [Region.binds] at hd
            have e4 : ax.tmps[4]?.getD undef = .pointer (some ⟨w.heap.size, 0, none⟩) := hf.out 4 (by decide) rfl
            refine ⟨fun _ => ?_, fun h => absurd trivial h⟩
            have h1 := (row?_below _ _ _ hf.below hbl).trans hrow
            refine free_run (v := .agg (regA ⟨⟨ma, r.members.length, mc⟩, gc, gg, r.churn⟩)) (W' := W) rfl ?_ rfl (Below.refl _ _)
            go_simp
          · intro L ax W hf hd
            try simp [Region.binds] at hd
            have e9 : ax.tmps[9]?.getD undef = .int .i64 n := hf.out 9 (by decide) rfl
            refine ⟨fun _ => ?_, fun h => absurd trivial h⟩
            refine free_run (v := .int .i64 n) (W' := W) rfl ?_ rfl (Below.refl _ _)
            go_simp
          · intro L ax W hf hd
            simp [Region.binds] at hd
            have e31 : ax.tmps[31]?.getD undef = .agg (regA ⟨⟨ma, r.members.length, mc⟩, gc, gg, r.churn⟩) := slv (hf.got 3 (by decide) (by simp [hd]))
            have e32 : ax.tmps[32]?.getD undef = .int .i64 n := slv (hf.got 4 (by decide) (by simp [hd]))
            refine ⟨fun _ => ?_, fun h => absurd trivial h⟩
            refine free_call (f := 72) (args := #[.agg (regA ⟨⟨ma, r.members.length, mc⟩, gc, gg, r.churn⟩), .int .i64 n]) rfl (by go_simp) ?_
            refine (HR W hf.below).mono ?_
            rintro e w' ⟨rfl, hb⟩
            exact ⟨_, rfl, rfl, hb⟩
          · intro L ax W hf hd
            simp [Region.binds] at hd
            have e30 : ax.tmps[30]?.getD undef = .int .u64 (sI : Int) := slv (hf.got 2 (by decide) (by simp [hd]))
            have e33 : ax.tmps[33]?.getD undef = .int .u64 (sI : Int) := slv (hf.got 5 (by decide) (by simp [hd]))
            refine ⟨fun _ => ?_, fun h => absurd trivial h⟩
            have hqq : ((sI : Int) != (sI : Int)) = false := by simp
            refine free_run (v := .bool false) (W' := W) rfl ?_ rfl (Below.refl _ _)
            go_simp
          · intro L ax W hf hd
            simp [Region.binds] at hd
            have e34 : ax.tmps[34]?.getD undef = .bool false := slv (hf.got 6 (by decide) (by simp [hd]))
            refine ⟨fun _ => ?_, fun h => absurd trivial h⟩
            refine free_run (v := .bool false) (W' := W) rfl ?_ rfl (Below.refl _ _)
            go_simp
          · intro L ax W hf hd
            simp [Region.binds] at hd
            have e4 : ax.tmps[4]?.getD undef = .pointer (some ⟨w.heap.size, 0, none⟩) := hf.out 4 (by decide) rfl
            have g0 : sl ax 35 = .bool false := hf.got 7 (by decide) (by simp [hd])
            refine ⟨fun hh => ?_, fun hh => ?_⟩
            · first
                | (exact absurd (g0.symm.trans hh) (undef_ne _))
                | (exact absurd (g0.symm.trans hh) (bool_ne (by decide)))
                | (exfalso; revert hh; simp [Held, g0, *]; done)
                | ((have h1 := (row?_below _ _ _ hf.below hbl).trans hrow); refine free_run (v := .agg (regA ⟨⟨ma, r.members.length, mc⟩, gc, gg, r.churn⟩)) (W' := W) rfl ?_ rfl (Below.refl _ _); go_simp)
            · first
                | (exact absurd g0 hh)
                | (exfalso; revert hh; simp [Held, g0, *]; done)
                | (show undef = _; first | rfl | (simp [*]; done))
          · intro L ax W hf hd
            simp [Region.binds] at hd
            have e9 : ax.tmps[9]?.getD undef = .int .i64 n := hf.out 9 (by decide) rfl
            have g0 : sl ax 35 = .bool false := hf.got 7 (by decide) (by simp [hd])
            refine ⟨fun hh => ?_, fun hh => ?_⟩
            · first
                | (exact absurd (g0.symm.trans hh) (undef_ne _))
                | (exact absurd (g0.symm.trans hh) (bool_ne (by decide)))
                | (exfalso; revert hh; simp [Held, g0, *]; done)
                | (refine free_run (v := .int .i64 n) (W' := W) rfl ?_ rfl (Below.refl _ _); go_simp)
            · first
                | (exact absurd g0 hh)
                | (exfalso; revert hh; simp [Held, g0, *]; done)
                | (show undef = _; first | rfl | (simp [*]; done))
          · intro L ax W hf hd
            simp [Region.binds] at hd
            have e36 : ax.tmps[36]?.getD undef = .agg (regA ⟨⟨ma, r.members.length, mc⟩, gc, gg, r.churn⟩) := slv (hf.got 8 (by decide) (by simp [hd]))
            have e37 : ax.tmps[37]?.getD undef = .int .i64 n := slv (hf.got 9 (by decide) (by simp [hd]))
            have g0 : sl ax 35 = .bool false := hf.got 7 (by decide) (by simp [hd])
            refine ⟨fun hh => ?_, fun hh => ?_⟩
            · first
                | (exact absurd (g0.symm.trans hh) (undef_ne _))
                | (exact absurd (g0.symm.trans hh) (bool_ne (by decide)))
                | (exfalso; revert hh; simp [Held, g0, *]; done)
                | (refine free_call (f := 66) (args := #[.agg (regA ⟨⟨ma, r.members.length, mc⟩, gc, gg, r.churn⟩), .int .i64 n]) rfl (by go_simp) ?_; refine (HA W hf.below).mono ?_; rintro e w' ⟨rfl, hb⟩; exact ⟨_, rfl, rfl, hb⟩)
            · first
                | (exact absurd g0 hh)
                | (exfalso; revert hh; simp [Held, g0, *]; done)
                | (show undef = _; first | rfl | (simp [*]; done))
          · intro L ax W hf hd
            simp [Region.binds] at hd
            have e9 : ax.tmps[9]?.getD undef = .int .i64 n := hf.out 9 (by decide) rfl
            have g0 : sl ax 35 = .bool false := hf.got 7 (by decide) (by simp [hd])
            refine ⟨fun hh => ?_, fun hh => ?_⟩
            · first
                | (exact absurd (g0.symm.trans hh) (undef_ne _))
                | (exact absurd (g0.symm.trans hh) (bool_ne (by decide)))
                | (exfalso; revert hh; simp [Held, g0, *]; done)
                | (refine free_run (v := .int .i64 n) (W' := W) rfl ?_ rfl (Below.refl _ _); go_simp)
            · first
                | (exact absurd g0 hh)
                | (exfalso; revert hh; simp [Held, g0, *]; done)
                | (show undef = _; first | rfl | (simp [*]; done))
          · intro L ax W hf hd
            simp [Region.binds] at hd
            have e39 : ax.tmps[39]?.getD undef = .int .i64 n := slv (hf.got 11 (by decide) (by simp [hd]))
            have g0 : sl ax 35 = .bool false := hf.got 7 (by decide) (by simp [hd])
            refine ⟨fun hh => ?_, fun hh => ?_⟩
            · first
                | (exact absurd (g0.symm.trans hh) (undef_ne _))
                | (exact absurd (g0.symm.trans hh) (bool_ne (by decide)))
                | (exfalso; revert hh; simp [Held, g0, *]; done)
                | (refine free_run (v := .bool true) (W' := W) rfl ?_ rfl (Below.refl _ _); go_simp)
            · first
                | (exact absurd g0 hh)
                | (exfalso; revert hh; simp [Held, g0, *]; done)
                | (show undef = _; first | rfl | (simp [*]; done))
          · intro L ax W hf hd
            simp [Region.binds] at hd
            have e40 : ax.tmps[40]?.getD undef = .bool true := slv (hf.got 12 (by decide) (by simp [hd]))
            have g0 : sl ax 35 = .bool false := hf.got 7 (by decide) (by simp [hd])
            refine ⟨fun hh => ?_, fun hh => ?_⟩
            · first
                | (exact absurd (g0.symm.trans hh) (undef_ne _))
                | (exact absurd (g0.symm.trans hh) (bool_ne (by decide)))
                | (exfalso; revert hh; simp [Held, g0, *]; done)
                | (refine free_run (v := .bool true) (W' := W) rfl ?_ rfl (Below.refl _ _); go_simp)
            · first
                | (exact absurd g0 hh)
                | (exfalso; revert hh; simp [Held, g0, *]; done)
                | (show undef = _; first | rfl | (simp [*]; done))
          · intro L ax W hf hd
            simp [Region.binds] at hd
            have e9 : ax.tmps[9]?.getD undef = .int .i64 n := hf.out 9 (by decide) rfl
            have g0 : sl ax 41 = .bool true := hf.got 13 (by decide) (by simp [hd])
            refine ⟨fun hh => ?_, fun hh => ?_⟩
            · first
                | (exact absurd (g0.symm.trans hh) (undef_ne _))
                | (exact absurd (g0.symm.trans hh) (bool_ne (by decide)))
                | (exfalso; revert hh; simp [Held, g0, *]; done)
                | (refine free_run (v := .int .i64 n) (W' := W) rfl ?_ rfl (Below.refl _ _); go_simp)
            · first
                | (exact absurd g0 hh)
                | (exfalso; revert hh; simp [Held, g0, *]; done)
                | (show undef = _; first | rfl | (simp [*]; done))
          · intro L ax W hf hd
            simp [Region.binds] at hd
            have e4 : ax.tmps[4]?.getD undef = .pointer (some ⟨w.heap.size, 0, none⟩) := hf.out 4 (by decide) rfl
            have g0 : sl ax 41 = .bool true := hf.got 13 (by decide) (by simp [hd])
            refine ⟨fun hh => ?_, fun hh => ?_⟩
            · first
                | (exact absurd (g0.symm.trans hh) (undef_ne _))
                | (exact absurd (g0.symm.trans hh) (bool_ne (by decide)))
                | (exfalso; revert hh; simp [Held, g0, *]; done)
                | (refine free_run (v := .pointer (some ⟨w.heap.size, 0, none⟩)) (W' := W) rfl ?_ rfl (Below.refl _ _); go_simp)
            · first
                | (exact absurd g0 hh)
                | (exfalso; revert hh; simp [Held, g0, *]; done)
                | (show undef = _; first | rfl | (simp [*]; done))
          · intro L ax W hf hd
            simp [Region.binds] at hd
            have e43 : ax.tmps[43]?.getD undef = .pointer (some ⟨w.heap.size, 0, none⟩) := slv (hf.got 15 (by decide) (by simp [hd]))
            have g0 : sl ax 41 = .bool true := hf.got 13 (by decide) (by simp [hd])
            refine ⟨fun hh => ?_, fun hh => ?_⟩
            · first
                | (exact absurd (g0.symm.trans hh) (undef_ne _))
                | (exact absurd (g0.symm.trans hh) (bool_ne (by decide)))
                | (exfalso; revert hh; simp [Held, g0, *]; done)
                | ((have h1 := (hf.below.cell (p := ⟨w.heap.size, 0, none⟩) hbl).trans c0); refine free_run (v := .slice (ma) r.members.length mc) (W' := W) rfl ?_ rfl (Below.refl _ _); go_simp)
            · first
                | (exact absurd g0 hh)
                | (exfalso; revert hh; simp [Held, g0, *]; done)
                | (show undef = _; first | rfl | (simp [*]; done))
          · intro L ax W hf hd
            simp [Region.binds] at hd
            have e44 : ax.tmps[44]?.getD undef = .slice (ma) r.members.length mc := slv (hf.got 16 (by decide) (by simp [hd]))
            have g0 : sl ax 41 = .bool true := hf.got 13 (by decide) (by simp [hd])
            refine ⟨fun hh => ?_, fun hh => ?_⟩
            · first
                | (exact absurd (g0.symm.trans hh) (undef_ne _))
                | (exact absurd (g0.symm.trans hh) (bool_ne (by decide)))
                | (exfalso; revert hh; simp [Held, g0, *]; done)
                | (refine free_run (v := .int .i64 (r.members.length : Int)) (W' := W) rfl ?_ rfl (Below.refl _ _); go_simp)
            · first
                | (exact absurd g0 hh)
                | (exfalso; revert hh; simp [Held, g0, *]; done)
                | (show undef = _; first | rfl | (simp [*]; done))
          · intro L ax W hf hd
            simp [Region.binds] at hd
            have e42 : ax.tmps[42]?.getD undef = .int .i64 n := slv (hf.got 14 (by decide) (by simp [hd]))
            have e45 : ax.tmps[45]?.getD undef = .int .i64 (r.members.length : Int) := slv (hf.got 17 (by decide) (by simp [hd]))
            have g0 : sl ax 41 = .bool true := hf.got 13 (by decide) (by simp [hd])
            refine ⟨fun hh => ?_, fun hh => ?_⟩
            · first
                | (exact absurd (g0.symm.trans hh) (undef_ne _))
                | (exact absurd (g0.symm.trans hh) (bool_ne (by decide)))
                | (exfalso; revert hh; simp [Held, g0, *]; done)
                | (refine free_run (v := .bool false) (W' := W) rfl ?_ rfl (Below.refl _ _); go_simp)
            · first
                | (exact absurd g0 hh)
                | (exfalso; revert hh; simp [Held, g0, *]; done)
                | (show undef = _; first | rfl | (simp [*]; done))
          · intro L ax W hf hd
            simp [Region.binds] at hd
            have e41 : ax.tmps[41]?.getD undef = .bool true := slv (hf.got 13 (by decide) (by simp [hd]))
            have e46 : ax.tmps[46]?.getD undef = .bool false := slv (hf.got 18 (by decide) (by simp [hd]))
            have g0 : sl ax 35 = .bool false := hf.got 7 (by decide) (by simp [hd])
            refine ⟨fun hh => ?_, fun hh => ?_⟩
            · first
                | (exact absurd (g0.symm.trans hh) (undef_ne _))
                | (exact absurd (g0.symm.trans hh) (bool_ne (by decide)))
                | (exfalso; revert hh; simp [Held, g0, *]; done)
                | (refine free_run (v := .bool false) (W' := W) rfl ?_ rfl (Below.refl _ _); go_simp)
            · first
                | (exact absurd g0 hh)
                | (exfalso; revert hh; simp [Held, g0, *]; done)
                | (show undef = _; first | rfl | (simp [*]; done))
          · intro L ax W hf hd
            simp [Region.binds] at hd
            have e47 : ax.tmps[47]?.getD undef = .bool false := slv (hf.got 19 (by decide) (by simp [hd]))
            have g0 : sl ax 35 = .bool false := hf.got 7 (by decide) (by simp [hd])
            refine ⟨fun hh => ?_, fun hh => ?_⟩
            · first
                | (exact absurd (g0.symm.trans hh) (undef_ne _))
                | (exact absurd (g0.symm.trans hh) (bool_ne (by decide)))
                | (exfalso; revert hh; simp [Held, g0, *]; done)
                | (refine free_run (v := .bool false) (W' := W) rfl ?_ rfl (Below.refl _ _); go_simp)
            · first
                | (exact absurd g0 hh)
                | (exfalso; revert hh; simp [Held, g0, *]; done)
                | (show undef = _; first | rfl | (simp [*]; done))
          · intro L ax W hf hd
            simp [Region.binds] at hd
            have e4 : ax.tmps[4]?.getD undef = .pointer (some ⟨w.heap.size, 0, none⟩) := hf.out 4 (by decide) rfl
            have g0 : sl ax 48 = .bool false := hf.got 20 (by decide) (by simp [hd])
            refine ⟨fun hh => ?_, fun hh => ?_⟩
            · first
                | (exact absurd (g0.symm.trans hh) (undef_ne _))
                | (exact absurd (g0.symm.trans hh) (bool_ne (by decide)))
                | (exfalso; revert hh; simp [Held, g0, *]; done)
                | (refine free_run (v := undef) (W' := W) rfl ?_ rfl (Below.refl _ _); go_simp)
            · first
                | (exact absurd g0 hh)
                | (exfalso; revert hh; simp [Held, g0, *]; done)
                | (show undef = _; first | rfl | (simp [*]; done))
          · intro L ax W hf hd
            simp [Region.binds] at hd
            have e49 : ax.tmps[49]?.getD undef = undef := slv (hf.got 21 (by decide) (by simp [hd]))
            have g0 : sl ax 48 = .bool false := hf.got 20 (by decide) (by simp [hd])
            refine ⟨fun hh => ?_, fun hh => ?_⟩
            · first
                | (exact absurd (g0.symm.trans hh) (undef_ne _))
                | (exact absurd (g0.symm.trans hh) (bool_ne (by decide)))
                | (exfalso; revert hh; simp [Held, g0, *]; done)
                | (refine free_run (v := undef) (W' := W) rfl ?_ rfl (Below.refl _ _); go_simp)
            · first
                | (exact absurd g0 hh)
                | (exfalso; revert hh; simp [Held, g0, *]; done)
                | (show undef = _; first | rfl | (simp [*]; done))
          · intro L ax W hf hd
            simp [Region.binds] at hd
            have e9 : ax.tmps[9]?.getD undef = .int .i64 n := hf.out 9 (by decide) rfl
            have g0 : sl ax 48 = .bool false := hf.got 20 (by decide) (by simp [hd])
            refine ⟨fun hh => ?_, fun hh => ?_⟩
            · first
                | (exact absurd (g0.symm.trans hh) (undef_ne _))
                | (exact absurd (g0.symm.trans hh) (bool_ne (by decide)))
                | (exfalso; revert hh; simp [Held, g0, *]; done)
                | (refine free_run (v := undef) (W' := W) rfl ?_ rfl (Below.refl _ _); go_simp)
            · first
                | (exact absurd g0 hh)
                | (exfalso; revert hh; simp [Held, g0, *]; done)
                | (show undef = _; first | rfl | (simp [*]; done))
          · intro L ax W hf hd
            simp [Region.binds] at hd
            have e51 : ax.tmps[51]?.getD undef = undef := slv (hf.got 23 (by decide) (by simp [hd]))
            have g0 : sl ax 48 = .bool false := hf.got 20 (by decide) (by simp [hd])
            refine ⟨fun hh => ?_, fun hh => ?_⟩
            · first
                | (exact absurd (g0.symm.trans hh) (undef_ne _))
                | (exact absurd (g0.symm.trans hh) (bool_ne (by decide)))
                | (exfalso; revert hh; simp [Held, g0, *]; done)
                | (refine free_run (v := undef) (W' := W) rfl ?_ rfl (Below.refl _ _); go_simp)
            · first
                | (exact absurd g0 hh)
                | (exfalso; revert hh; simp [Held, g0, *]; done)
                | (show undef = _; first | rfl | (simp [*]; done))
          · intro L ax W hf hd
            simp [Region.binds] at hd
            have e50 : ax.tmps[50]?.getD undef = undef := slv (hf.got 22 (by decide) (by simp [hd]))
            have e52 : ax.tmps[52]?.getD undef = undef := slv (hf.got 24 (by decide) (by simp [hd]))
            have g0 : sl ax 48 = .bool false := hf.got 20 (by decide) (by simp [hd])
            refine ⟨fun hh => ?_, fun hh => ?_⟩
            · first
                | (exact absurd (g0.symm.trans hh) (undef_ne _))
                | (exact absurd (g0.symm.trans hh) (bool_ne (by decide)))
                | (exfalso; revert hh; simp [Held, g0, *]; done)
                | (refine free_run (v := undef) (W' := W) rfl ?_ rfl (Below.refl _ _); go_simp)
            · first
                | (exact absurd g0 hh)
                | (exfalso; revert hh; simp [Held, g0, *]; done)
                | (show undef = _; first | rfl | (simp [*]; done))
          · intro L ax W hf hd
            simp [Region.binds] at hd
            have e53 : ax.tmps[53]?.getD undef = undef := slv (hf.got 25 (by decide) (by simp [hd]))
            have g0 : sl ax 48 = .bool false := hf.got 20 (by decide) (by simp [hd])
            refine ⟨fun hh => ?_, fun hh => ?_⟩
            · first
                | (exact absurd (g0.symm.trans hh) (undef_ne _))
                | (exact absurd (g0.symm.trans hh) (bool_ne (by decide)))
                | (exfalso; revert hh; simp [Held, g0, *]; done)
                | (refine free_run (v := undef) (W' := W) rfl ?_ rfl (Below.refl _ _); go_simp)
            · first
                | (exact absurd g0 hh)
                | (exfalso; revert hh; simp [Held, g0, *]; done)
                | (show undef = _; first | rfl | (simp [*]; done))
          · intro L ax W hf hd
            simp [Region.binds] at hd
            have e54 : ax.tmps[54]?.getD undef = undef := slv (hf.got 26 (by decide) (by simp [hd]))
            have g0 : sl ax 48 = .bool false := hf.got 20 (by decide) (by simp [hd])
            refine ⟨fun hh => ?_, fun hh => ?_⟩
            · first
                | (exact absurd (g0.symm.trans hh) (undef_ne _))
                | (exact absurd (g0.symm.trans hh) (bool_ne (by decide)))
                | (exfalso; revert hh; simp [Held, g0, *]; done)
                | (refine free_run (v := undef) (W' := W) rfl ?_ rfl (Below.refl _ _); go_simp)
            · first
                | (exact absurd g0 hh)
                | (exfalso; revert hh; simp [Held, g0, *]; done)
                | (show undef = _; first | rfl | (simp [*]; done))
          · intro L ax W hf hd
            simp [Region.binds] at hd
            have e48 : ax.tmps[48]?.getD undef = .bool false := slv (hf.got 20 (by decide) (by simp [hd]))
            have e55 : ax.tmps[55]?.getD undef = undef := slv (hf.got 27 (by decide) (by simp [hd]))
            have g0 : sl ax 35 = .bool false := hf.got 7 (by decide) (by simp [hd])
            refine ⟨fun hh => ?_, fun hh => ?_⟩
            · first
                | (exact absurd (g0.symm.trans hh) (undef_ne _))
                | (exact absurd (g0.symm.trans hh) (bool_ne (by decide)))
                | (exfalso; revert hh; simp [Held, g0, *]; done)
                | (refine free_run (v := .bool false) (W' := W) rfl ?_ rfl (Below.refl _ _); go_simp)
            · first
                | (exact absurd g0 hh)
                | (exfalso; revert hh; simp [Held, g0, *]; done)
                | (show undef = _; first | rfl | (simp [*]; done))
          · intro L ax W hf hd
            simp [Region.binds] at hd
            have e38 : ax.tmps[38]?.getD undef = .bool false := slv (hf.got 10 (by decide) (by simp [hd]))
            have e56 : ax.tmps[56]?.getD undef = .bool false := slv (hf.got 28 (by decide) (by simp [hd]))
            have g0 : sl ax 35 = .bool false := hf.got 7 (by decide) (by simp [hd])
            refine ⟨fun hh => ?_, fun hh => ?_⟩
            · first
                | (exact absurd (g0.symm.trans hh) (undef_ne _))
                | (exact absurd (g0.symm.trans hh) (bool_ne (by decide)))
                | (exfalso; revert hh; simp [Held, g0, *]; done)
                | (refine free_run (v := .bool false) (W' := W) rfl ?_ rfl (Below.refl _ _); go_simp)
            · first
                | (exact absurd g0 hh)
                | (exfalso; revert hh; simp [Held, g0, *]; done)
                | (show undef = _; first | rfl | (simp [*]; done))
          · intro L ax W hf hd
            simp [Region.binds] at hd
            have e35 : ax.tmps[35]?.getD undef = .bool false := slv (hf.got 7 (by decide) (by simp [hd]))
            have e57 : ax.tmps[57]?.getD undef = .bool false := slv (hf.got 29 (by decide) (by simp [hd]))
            refine ⟨fun _ => ?_, fun h => absurd trivial h⟩
            refine free_run (v := .bool false) (W' := W) rfl ?_ rfl (Below.refl _ _)
            go_simp
        · intro vs W' hl' hF hb
          obtain ⟨g', hg1, hg2⟩ := vs_lit vs hl' hF
          have e58 : g' 30 = .bool false := hg2 30 (by decide)
          rw [hg1]
          have hB3 := Lib.hid (hB2.out.trans (hb.mono hB2.out.size))
          clear hF hg1 hg2 hl' hb HS HR HA hrow c0
          simp only [List.length_cons, List.length_nil, Nat.reduceAdd, show List.range 31 = [0, 1, 2, 3, 4, 5, 6, 7, 8, 9, 10, 11, 12, 13, 14, 15, 16, 17, 18, 19, 20, 21, 22, 23, 24, 25, 26, 27, 28, 29, 30] from rfl, List.map_cons, List.map_nil, putL, List.zip_cons_cons, List.zip_nil_right, List.setIfInBounds_toArray, List.set_cons_succ, List.set_cons_zero, e58]
          go_wp2_with fail
          go_roundw
          case rel => exact ⟨k + 1, by omega, by rw [show ((k + 1 : Nat) : Int) - 1 = (k : Int) - 1 + 1 by omega, ← hn.out], hB3⟩
          case measure => simp [intOf]; omega
      obtain ⟨i, hi⟩ : ∃ i : Nat, n = (i : Int) + 1 := ⟨(n - 1).toNat, by omega⟩
      have hil : i < r.members.length := by omega
      obtain ⟨bm, om, em, hbmm, hrm, -⟩ := mbrs_at hT2.out.reg.reg.1 (by omega)
      have e1 := congrArg Sl.a em
      simp only at e1
      subst e1
      clear em
      have hmrow := hrm i hil
      clear hrm
      have h0 : ac = votes (r.members[i]).status := by
        rw [Hac.out, decide_eq_true (by omega), decide_eq_true (p := n ≤ _) (by omega), Bool.true_and, Bool.true_and, show (n - 1).toNat = i by omega, getD_of (List.getElem?_eq_getElem hil)]
      have HV := fun W => rvotes_c (r.members[i]) W
      rw [← h0] at HV
      generalize r.members[i] = m at *
      replace h0 := Lib.hid h0
      have b1 : decide (1 ≤ n) = true := decide_eq_true (by omega)
      have b2 : decide (n ≤ (r.members.length : Int)) = true := decide_eq_true (by omega)
      have x2 : IntKind.i64.wrap (n - 1) = (i : Int) := by rw [hi, show (i : Int) + 1 - 1 = i by omega]; exact IntWalk.i64_in _ (by omega)
      have i0 : (0 : Int) ≤ (i : Int) := by omega
      have i1 : (i : Int) < (r.members.length : Int) := by omega
      replace hi := Lib.hid hi
      clear Hac
      go_upto_region 6 with fail
      refine wp_region_freeG_l (fun W W' => Below W.heap.size W W') (by kernel_rfl) [28, 29, 30, 31, 32, 33, 34, 35, 36, 37, 38, 39, 40, 41, 42, 43, 44, 45, 46, 47, 48, 49, 50, 51, 52, 53, 54, 55, 56, 57, 58]
        [Is (.agg (regA ⟨⟨some ⟨bm, om, none⟩, r.members.length, mc⟩, gc, gg, r.churn⟩)), Is (.int .i64 n), Is (.int .u64 (sI : Int)), Is (.agg (regA ⟨⟨some ⟨bm, om, none⟩, r.members.length, mc⟩, gc, gg, r.churn⟩)), Is (.int .i64 n), Is (.int .u64 (sI : Int)), Is (.bool false), Is (.bool false), Is (.agg (regA ⟨⟨some ⟨bm, om, none⟩, r.members.length, mc⟩, gc, gg, r.churn⟩)), Is (.int .i64 n), Is (.bool ac), Is (.int .i64 n), Is (.bool true), Is (.bool true), Is (.int .i64 n), Is (.pointer (some ⟨w.heap.size, 0, none⟩)), Is (.slice (some ⟨bm, om, none⟩) r.members.length mc), Is (.int .i64 (r.members.length : Int)), Is (.bool true), Is (.bool true), Is (.bool true), Is (.pointer (some ⟨w.heap.size, 0, none⟩)), Is (.slice (some ⟨bm, om, none⟩) r.members.length mc), Is (.int .i64 n), Is (.int .i64 (i : Int)), Is (.pointer (some ⟨bm, om + i * 35, none⟩)), Is (.agg (mbrA m)), Is (.bool ac), Is (.bool ac), Is (.bool false), Is (.bool false)]
        (by kernel_rfl) (fun W W' h hb => hb.trans (h.mono hb.size)) ?_ ?_ ?_
      · intro f hf
        simp only [List.mem_cons, List.not_mem_nil, or_false] at hf
        rcases hf with rfl | rfl | rfl | rfl | rfl | rfl | rfl | rfl | rfl | rfl | rfl | rfl | rfl | rfl | rfl | rfl | rfl | rfl | rfl | rfl | rfl | rfl | rfl | rfl | rfl | rfl | rfl | rfl | rfl | rfl | rfl <;> intro x W W' h hr <;> first | exact h
      · refine ⟨?_, ?_, ?_, ?_, ?_, ?_, ?_, ?_, ?_, ?_, ?_, ?_, ?_, ?_, ?_, ?_, ?_, ?_, ?_, ?_, ?_, ?_, ?_, ?_, ?_, ?_, ?_, ?_, ?_, ?_, ?_, trivial⟩
        · intro L ax W hf hd
          try simp [Region.binds] at hd
          have e4 : ax.tmps[4]?.getD undef = .pointer (some ⟨w.heap.size, 0, none⟩) := hf.out 4 (by decide) rfl
          refine ⟨fun _ => ?_, fun h => absurd trivial h⟩
          have h1 := (row?_below _ _ _ hf.below hbl).trans hrow
          refine free_run (v := .agg (regA ⟨⟨some ⟨bm, om, none⟩, r.members.length, mc⟩, gc, gg, r.churn⟩)) (W' := W) rfl ?_ rfl (Below.refl _ _)
          go_simp
        · intro L ax W hf hd
          try simp [Region.binds] at hd
          have e9 : ax.tmps[9]?.getD undef = .int .i64 n := hf.out 9 (by decide) rfl
          refine ⟨fun _ => ?_, fun h => absurd trivial h⟩
          refine free_run (v := .int .i64 n) (W' := W) rfl ?_ rfl (Below.refl _ _)
          go_simp
        · intro L ax W hf hd
          simp [Region.binds] at hd
          have e28 : ax.tmps[28]?.getD undef = .agg (regA ⟨⟨some ⟨bm, om, none⟩, r.members.length, mc⟩, gc, gg, r.churn⟩) := slv (hf.got 0 (by decide) (by simp [hd]))
          have e29 : ax.tmps[29]?.getD undef = .int .i64 n := slv (hf.got 1 (by decide) (by simp [hd]))
          refine ⟨fun _ => ?_, fun h => absurd trivial h⟩
          refine free_call (f := 71) (args := #[.agg (regA ⟨⟨some ⟨bm, om, none⟩, r.members.length, mc⟩, gc, gg, r.churn⟩), .int .i64 n]) rfl (by go_simp) ?_
          refine (HS W hf.below).mono ?_
          rintro e w' ⟨rfl, hb⟩
          exact ⟨_, rfl, rfl, hb⟩
        · intro L ax W hf hd
          try simp [Region.binds] at hd
          have e4 : ax.tmps[4]?.getD undef = .pointer (some ⟨w.heap.size, 0, none⟩) := hf.out 4 (by decide) rfl
          refine ⟨fun _ => ?_, fun h => absurd trivial h⟩
          have h1 := (row?_below _ _ _ hf.below hbl).trans hrow
          refine free_run (v := .agg (regA ⟨⟨some ⟨bm, om, none⟩, r.members.length, mc⟩, gc, gg, r.churn⟩)) (W' := W) rfl ?_ rfl (Below.refl _ _)
          go_simp
        · intro L ax W hf hd
          try simp [Region.binds] at hd
          have e9 : ax.tmps[9]?.getD undef = .int .i64 n := hf.out 9 (by decide) rfl
          refine ⟨fun _ => ?_, fun h => absurd trivial h⟩
          refine free_run (v := .int .i64 n) (W' := W) rfl ?_ rfl (Below.refl _ _)
          go_simp
        · intro L ax W hf hd
          simp [Region.binds] at hd
          have e31 : ax.tmps[31]?.getD undef = .agg (regA ⟨⟨some ⟨bm, om, none⟩, r.members.length, mc⟩, gc, gg, r.churn⟩) := slv (hf.got 3 (by decide) (by simp [hd]))
          have e32 : ax.tmps[32]?.getD undef = .int .i64 n := slv (hf.got 4 (by decide) (by simp [hd]))
          refine ⟨fun _ => ?_, fun h => absurd trivial h⟩
          refine free_call (f := 72) (args := #[.agg (regA ⟨⟨some ⟨bm, om, none⟩, r.members.length, mc⟩, gc, gg, r.churn⟩), .int .i64 n]) rfl (by go_simp) ?_
          refine (HR W hf.below).mono ?_
          rintro e w' ⟨rfl, hb⟩
          exact ⟨_, rfl, rfl, hb⟩
        · intro L ax W hf hd
          simp [Region.binds] at hd
          have e30 : ax.tmps[30]?.getD undef = .int .u64 (sI : Int) := slv (hf.got 2 (by decide) (by simp [hd]))
          have e33 : ax.tmps[33]?.getD undef = .int .u64 (sI : Int) := slv (hf.got 5 (by decide) (by simp [hd]))
          refine ⟨fun _ => ?_, fun h => absurd trivial h⟩
          have hqq : ((sI : Int) != (sI : Int)) = false := by simp
          refine free_run (v := .bool false) (W' := W) rfl ?_ rfl (Below.refl _ _)
          go_simp
        · intro L ax W hf hd
          simp [Region.binds] at hd
          have e34 : ax.tmps[34]?.getD undef = .bool false := slv (hf.got 6 (by decide) (by simp [hd]))
          refine ⟨fun _ => ?_, fun h => absurd trivial h⟩
          refine free_run (v := .bool false) (W' := W) rfl ?_ rfl (Below.refl _ _)
          go_simp
        · intro L ax W hf hd
          simp [Region.binds] at hd
          have e4 : ax.tmps[4]?.getD undef = .pointer (some ⟨w.heap.size, 0, none⟩) := hf.out 4 (by decide) rfl
          have g0 : sl ax 35 = .bool false := hf.got 7 (by decide) (by simp [hd])
          refine ⟨fun hh => ?_, fun hh => ?_⟩
          · first
              | (exact absurd (g0.symm.trans hh) (undef_ne _))
              | (exact absurd (g0.symm.trans hh) (bool_ne (by decide)))
              | (exfalso; revert hh; simp [Held, g0, *]; done)
              | ((have h1 := (row?_below _ _ _ hf.below hbl).trans hrow); refine free_run (v := .agg (regA ⟨⟨some ⟨bm, om, none⟩, r.members.length, mc⟩, gc, gg, r.churn⟩)) (W' := W) rfl ?_ rfl (Below.refl _ _); go_simp)
          · first
              | (exact absurd g0 hh)
              | (exfalso; revert hh; simp [Held, g0, *]; done)
              | (show undef = _; first | rfl | (simp [*]; done))
        · intro L ax W hf hd
          simp [Region.binds] at hd
          have e9 : ax.tmps[9]?.getD undef = .int .i64 n := hf.out 9 (by decide) rfl
          have g0 : sl ax 35 = .bool false := hf.got 7 (by decide) (by simp [hd])
          refine ⟨fun hh => ?_, fun hh => ?_⟩
          · first
              | (exact absurd (g0.symm.trans hh) (undef_ne _))
              | (exact absurd (g0.symm.trans hh) (bool_ne (by decide)))
              | (exfalso; revert hh; simp [Held, g0, *]; done)
              | (refine free_run (v := .int .i64 n) (W' := W) rfl ?_ rfl (Below.refl _ _); go_simp)
          · first
              | (exact absurd g0 hh)
              | (exfalso; revert hh; simp [Held, g0, *]; done)
              | (show undef = _; first | rfl | (simp [*]; done))
        · intro L ax W hf hd
          simp [Region.binds] at hd
          have e36 : ax.tmps[36]?.getD undef = .agg (regA ⟨⟨some ⟨bm, om, none⟩, r.members.length, mc⟩, gc, gg, r.churn⟩) := slv (hf.got 8 (by decide) (by simp [hd]))
          have e37 : ax.tmps[37]?.getD undef = .int .i64 n := slv (hf.got 9 (by decide) (by simp [hd]))
          have g0 : sl ax 35 = .bool false := hf.got 7 (by decide) (by simp [hd])
          refine ⟨fun hh => ?_, fun hh => ?_⟩
          · first
              | (exact absurd (g0.symm.trans hh) (undef_ne _))
              | (exact absurd (g0.symm.trans hh) (bool_ne (by decide)))
              | (exfalso; revert hh; simp [Held, g0, *]; done)
              | (refine free_call (f := 66) (args := #[.agg (regA ⟨⟨some ⟨bm, om, none⟩, r.members.length, mc⟩, gc, gg, r.churn⟩), .int .i64 n]) rfl (by go_simp) ?_; refine (HA W hf.below).mono ?_; rintro e w' ⟨rfl, hb⟩; exact ⟨_, rfl, rfl, hb⟩)
          · first
              | (exact absurd g0 hh)
              | (exfalso; revert hh; simp [Held, g0, *]; done)
              | (show undef = _; first | rfl | (simp [*]; done))
        · intro L ax W hf hd
          simp [Region.binds] at hd
          have e9 : ax.tmps[9]?.getD undef = .int .i64 n := hf.out 9 (by decide) rfl
          have g0 : sl ax 35 = .bool false := hf.got 7 (by decide) (by simp [hd])
          refine ⟨fun hh => ?_, fun hh => ?_⟩
          · first
              | (exact absurd (g0.symm.trans hh) (undef_ne _))
              | (exact absurd (g0.symm.trans hh) (bool_ne (by decide)))
              | (exfalso; revert hh; simp [Held, g0, *]; done)
              | (refine free_run (v := .int .i64 n) (W' := W) rfl ?_ rfl (Below.refl _ _); go_simp)
          · first
              | (exact absurd g0 hh)
              | (exfalso; revert hh; simp [Held, g0, *]; done)
              | (show undef = _; first | rfl | (simp [*]; done))
        · intro L ax W hf hd
          simp [Region.binds] at hd
          have e39 : ax.tmps[39]?.getD undef = .int .i64 n := slv (hf.got 11 (by decide) (by simp [hd]))
          have g0 : sl ax 35 = .bool false := hf.got 7 (by decide) (by simp [hd])
          refine ⟨fun hh => ?_, fun hh => ?_⟩
          · first
              | (exact absurd (g0.symm.trans hh) (undef_ne _))
              | (exact absurd (g0.symm.trans hh) (bool_ne (by decide)))
              | (exfalso; revert hh; simp [Held, g0, *]; done)
              | (refine free_run (v := .bool true) (W' := W) rfl ?_ rfl (Below.refl _ _); go_simp)
          · first
              | (exact absurd g0 hh)
              | (exfalso; revert hh; simp [Held, g0, *]; done)
              | (show undef = _; first | rfl | (simp [*]; done))
        · intro L ax W hf hd
          simp [Region.binds] at hd
          have e40 : ax.tmps[40]?.getD undef = .bool true := slv (hf.got 12 (by decide) (by simp [hd]))
          have g0 : sl ax 35 = .bool false := hf.got 7 (by decide) (by simp [hd])
          refine ⟨fun hh => ?_, fun hh => ?_⟩
          · first
              | (exact absurd (g0.symm.trans hh) (undef_ne _))
              | (exact absurd (g0.symm.trans hh) (bool_ne (by decide)))
              | (exfalso; revert hh; simp [Held, g0, *]; done)
              | (refine free_run (v := .bool true) (W' := W) rfl ?_ rfl (Below.refl _ _); go_simp)
          · first
              | (exact absurd g0 hh)
              | (exfalso; revert hh; simp [Held, g0, *]; done)
              | (show undef = _; first | rfl | (simp [*]; done))
        · intro L ax W hf hd
          simp [Region.binds] at hd
          have e9 : ax.tmps[9]?.getD undef = .int .i64 n := hf.out 9 (by decide) rfl
          have g0 : sl ax 41 = .bool true := hf.got 13 (by decide) (by simp [hd])
          refine ⟨fun hh => ?_, fun hh => ?_⟩
          · first
              | (exact absurd (g0.symm.trans hh) (undef_ne _))
              | (exact absurd (g0.symm.trans hh) (bool_ne (by decide)))
              | (exfalso; revert hh; simp [Held, g0, *]; done)
              | (refine free_run (v := .int .i64 n) (W' := W) rfl ?_ rfl (Below.refl _ _); go_simp)
          · first
              | (exact absurd g0 hh)
              | (exfalso; revert hh; simp [Held, g0, *]; done)
              | (show undef = _; first | rfl | (simp [*]; done))
        · intro L ax W hf hd
          simp [Region.binds] at hd
          have e4 : ax.tmps[4]?.getD undef = .pointer (some ⟨w.heap.size, 0, none⟩) := hf.out 4 (by decide) rfl
          have g0 : sl ax 41 = .bool true := hf.got 13 (by decide) (by simp [hd])
          refine ⟨fun hh => ?_, fun hh => ?_⟩
          · first
              | (exact absurd (g0.symm.trans hh) (undef_ne _))
              | (exact absurd (g0.symm.trans hh) (bool_ne (by decide)))
              | (exfalso; revert hh; simp [Held, g0, *]; done)
              | (refine free_run (v := .pointer (some ⟨w.heap.size, 0, none⟩)) (W' := W) rfl ?_ rfl (Below.refl _ _); go_simp)
          · first
              | (exact absurd g0 hh)
              | (exfalso; revert hh; simp [Held, g0, *]; done)
              | (show undef = _; first | rfl | (simp [*]; done))
        · intro L ax W hf hd
          simp [Region.binds] at hd
          have e43 : ax.tmps[43]?.getD undef = .pointer (some ⟨w.heap.size, 0, none⟩) := slv (hf.got 15 (by decide) (by simp [hd]))
          have g0 : sl ax 41 = .bool true := hf.got 13 (by decide) (by simp [hd])
          refine ⟨fun hh => ?_, fun hh => ?_⟩
          · first
              | (exact absurd (g0.symm.trans hh) (undef_ne _))
              | (exact absurd (g0.symm.trans hh) (bool_ne (by decide)))
              | (exfalso; revert hh; simp [Held, g0, *]; done)
              | ((have h1 := (hf.below.cell (p := ⟨w.heap.size, 0, none⟩) hbl).trans c0); refine free_run (v := .slice (some ⟨bm, om, none⟩) r.members.length mc) (W' := W) rfl ?_ rfl (Below.refl _ _); go_simp)
          · first
              | (exact absurd g0 hh)
              | (exfalso; revert hh; simp [Held, g0, *]; done)
              | (show undef = _; first | rfl | (simp [*]; done))
        · intro L ax W hf hd
          simp [Region.binds] at hd
          have e44 : ax.tmps[44]?.getD undef = .slice (some ⟨bm, om, none⟩) r.members.length mc := slv (hf.got 16 (by decide) (by simp [hd]))
          have g0 : sl ax 41 = .bool true := hf.got 13 (by decide) (by simp [hd])
          refine ⟨fun hh => ?_, fun hh => ?_⟩
          · first
              | (exact absurd (g0.symm.trans hh) (undef_ne _))
              | (exact absurd (g0.symm.trans hh) (bool_ne (by decide)))
              | (exfalso; revert hh; simp [Held, g0, *]; done)
              | (refine free_run (v := .int .i64 (r.members.length : Int)) (W' := W) rfl ?_ rfl (Below.refl _ _); go_simp)
          · first
              | (exact absurd g0 hh)
              | (exfalso; revert hh; simp [Held, g0, *]; done)
              | (show undef = _; first | rfl | (simp [*]; done))
        · intro L ax W hf hd
          simp [Region.binds] at hd
          have e42 : ax.tmps[42]?.getD undef = .int .i64 n := slv (hf.got 14 (by decide) (by simp [hd]))
          have e45 : ax.tmps[45]?.getD undef = .int .i64 (r.members.length : Int) := slv (hf.got 17 (by decide) (by simp [hd]))
          have g0 : sl ax 41 = .bool true := hf.got 13 (by decide) (by simp [hd])
          refine ⟨fun hh => ?_, fun hh => ?_⟩
          · first
              | (exact absurd (g0.symm.trans hh) (undef_ne _))
              | (exact absurd (g0.symm.trans hh) (bool_ne (by decide)))
              | (exfalso; revert hh; simp [Held, g0, *]; done)
              | (refine free_run (v := .bool true) (W' := W) rfl ?_ rfl (Below.refl _ _); go_simp)
          · first
              | (exact absurd g0 hh)
              | (exfalso; revert hh; simp [Held, g0, *]; done)
              | (show undef = _; first | rfl | (simp [*]; done))
        · intro L ax W hf hd
          simp [Region.binds] at hd
          have e41 : ax.tmps[41]?.getD undef = .bool true := slv (hf.got 13 (by decide) (by simp [hd]))
          have e46 : ax.tmps[46]?.getD undef = .bool true := slv (hf.got 18 (by decide) (by simp [hd]))
          have g0 : sl ax 35 = .bool false := hf.got 7 (by decide) (by simp [hd])
          refine ⟨fun hh => ?_, fun hh => ?_⟩
          · first
              | (exact absurd (g0.symm.trans hh) (undef_ne _))
              | (exact absurd (g0.symm.trans hh) (bool_ne (by decide)))
              | (exfalso; revert hh; simp [Held, g0, *]; done)
              | (refine free_run (v := .bool true) (W' := W) rfl ?_ rfl (Below.refl _ _); go_simp)
          · first
              | (exact absurd g0 hh)
              | (exfalso; revert hh; simp [Held, g0, *]; done)
              | (show undef = _; first | rfl | (simp [*]; done))
        · intro L ax W hf hd
          simp [Region.binds] at hd
          have e47 : ax.tmps[47]?.getD undef = .bool true := slv (hf.got 19 (by decide) (by simp [hd]))
          have g0 : sl ax 35 = .bool false := hf.got 7 (by decide) (by simp [hd])
          refine ⟨fun hh => ?_, fun hh => ?_⟩
          · first
              | (exact absurd (g0.symm.trans hh) (undef_ne _))
              | (exact absurd (g0.symm.trans hh) (bool_ne (by decide)))
              | (exfalso; revert hh; simp [Held, g0, *]; done)
              | (refine free_run (v := .bool true) (W' := W) rfl ?_ rfl (Below.refl _ _); go_simp)
          · first
              | (exact absurd g0 hh)
              | (exfalso; revert hh; simp [Held, g0, *]; done)
              | (show undef = _; first | rfl | (simp [*]; done))
        · intro L ax W hf hd
          simp [Region.binds] at hd
          have e4 : ax.tmps[4]?.getD undef = .pointer (some ⟨w.heap.size, 0, none⟩) := hf.out 4 (by decide) rfl
          have g0 : sl ax 48 = .bool true := hf.got 20 (by decide) (by simp [hd])
          refine ⟨fun hh => ?_, fun hh => ?_⟩
          · first
              | (exact absurd (g0.symm.trans hh) (undef_ne _))
              | (exact absurd (g0.symm.trans hh) (bool_ne (by decide)))
              | (exfalso; revert hh; simp [Held, g0, *]; done)
              | (refine free_run (v := .pointer (some ⟨w.heap.size, 0, none⟩)) (W' := W) rfl ?_ rfl (Below.refl _ _); go_simp)
          · first
              | (exact absurd g0 hh)
              | (exfalso; revert hh; simp [Held, g0, *]; done)
              | (show undef = _; first | rfl | (simp [*]; done))
        · intro L ax W hf hd
          simp [Region.binds] at hd
          have e49 : ax.tmps[49]?.getD undef = .pointer (some ⟨w.heap.size, 0, none⟩) := slv (hf.got 21 (by decide) (by simp [hd]))
          have g0 : sl ax 48 = .bool true := hf.got 20 (by decide) (by simp [hd])
          refine ⟨fun hh => ?_, fun hh => ?_⟩
          · first
              | (exact absurd (g0.symm.trans hh) (undef_ne _))
              | (exact absurd (g0.symm.trans hh) (bool_ne (by decide)))
              | (exfalso; revert hh; simp [Held, g0, *]; done)
              | ((have h1 := (hf.below.cell (p := ⟨w.heap.size, 0, none⟩) hbl).trans c0); refine free_run (v := .slice (some ⟨bm, om, none⟩) r.members.length mc) (W' := W) rfl ?_ rfl (Below.refl _ _); go_simp)
          · first
              | (exact absurd g0 hh)
              | (exfalso; revert hh; simp [Held, g0, *]; done)
              | (show undef = _; first | rfl | (simp [*]; done))
        · intro L ax W hf hd
          simp [Region.binds] at hd
          have e9 : ax.tmps[9]?.getD undef = .int .i64 n := hf.out 9 (by decide) rfl
          have g0 : sl ax 48 = .bool true := hf.got 20 (by decide) (by simp [hd])
          refine ⟨fun hh => ?_, fun hh => ?_⟩
          · first
              | (exact absurd (g0.symm.trans hh) (undef_ne _))
              | (exact absurd (g0.symm.trans hh) (bool_ne (by decide)))
              | (exfalso; revert hh; simp [Held, g0, *]; done)
              | (refine free_run (v := .int .i64 n) (W' := W) rfl ?_ rfl (Below.refl _ _); go_simp)
          · first
              | (exact absurd g0 hh)
              | (exfalso; revert hh; simp [Held, g0, *]; done)
              | (show undef = _; first | rfl | (simp [*]; done))
        · intro L ax W hf hd
          simp [Region.binds] at hd
          have e51 : ax.tmps[51]?.getD undef = .int .i64 n := slv (hf.got 23 (by decide) (by simp [hd]))
          have g0 : sl ax 48 = .bool true := hf.got 20 (by decide) (by simp [hd])
          refine ⟨fun hh => ?_, fun hh => ?_⟩
          · first
              | (exact absurd (g0.symm.trans hh) (undef_ne _))
              | (exact absurd (g0.symm.trans hh) (bool_ne (by decide)))
              | (exfalso; revert hh; simp [Held, g0, *]; done)
              | (refine free_run (v := .int .i64 (i : Int)) (W' := W) rfl ?_ rfl (Below.refl _ _); go_simp)
          · first
              | (exact absurd g0 hh)
              | (exfalso; revert hh; simp [Held, g0, *]; done)
              | (show undef = _; first | rfl | (simp [*]; done))
        · intro L ax W hf hd
          simp [Region.binds] at hd
          have e50 : ax.tmps[50]?.getD undef = .slice (some ⟨bm, om, none⟩) r.members.length mc := slv (hf.got 22 (by decide) (by simp [hd]))
          have e52 : ax.tmps[52]?.getD undef = .int .i64 (i : Int) := slv (hf.got 24 (by decide) (by simp [hd]))
          have g0 : sl ax 48 = .bool true := hf.got 20 (by decide) (by simp [hd])
          refine ⟨fun hh => ?_, fun hh => ?_⟩
          · first
              | (exact absurd (g0.symm.trans hh) (undef_ne _))
              | (exact absurd (g0.symm.trans hh) (bool_ne (by decide)))
              | (exfalso; revert hh; simp [Held, g0, *]; done)
              | (refine free_run (v := .pointer (some ⟨bm, om + i * 35, none⟩)) (W' := W) rfl ?_ rfl (Below.refl _ _); go_simp)
          · first
              | (exact absurd g0 hh)
              | (exfalso; revert hh; simp [Held, g0, *]; done)
              | (show undef = _; first | rfl | (simp [*]; done))
        · intro L ax W hf hd
          simp [Region.binds] at hd
          have e53 : ax.tmps[53]?.getD undef = .pointer (some ⟨bm, om + i * 35, none⟩) := slv (hf.got 25 (by decide) (by simp [hd]))
          have g0 : sl ax 48 = .bool true := hf.got 20 (by decide) (by simp [hd])
          refine ⟨fun hh => ?_, fun hh => ?_⟩
          · first
              | (exact absurd (g0.symm.trans hh) (undef_ne _))
              | (exact absurd (g0.symm.trans hh) (bool_ne (by decide)))
              | (exfalso; revert hh; simp [Held, g0, *]; done)
              | ((have h1 := (row?_below _ _ _ hf.below hbmm).trans hmrow); refine free_run (v := .agg (mbrA m)) (W' := W) rfl ?_ rfl (Below.refl _ _); go_simp)
          · first
              | (exact absurd g0 hh)
              | (exfalso; revert hh; simp [Held, g0, *]; done)
              | (show undef = _; first | rfl | (simp [*]; done))
        · intro L ax W hf hd
          simp [Region.binds] at hd
          have e54 : ax.tmps[54]?.getD undef = .agg (mbrA m) := slv (hf.got 26 (by decide) (by simp [hd]))
          have g0 : sl ax 48 = .bool true := hf.got 20 (by decide) (by simp [hd])
          refine ⟨fun hh => ?_, fun hh => ?_⟩
          · first
              | (exact absurd (g0.symm.trans hh) (undef_ne _))
              | (exact absurd (g0.symm.trans hh) (bool_ne (by decide)))
              | (exfalso; revert hh; simp [Held, g0, *]; done)
              | (refine free_call (f := 73) (args := #[.agg (mbrA m)]) rfl (by go_simp) ?_; refine (HV W).mono ?_; rintro e w' ⟨rfl, hb⟩; exact ⟨_, rfl, rfl, hb⟩)
          · first
              | (exact absurd g0 hh)
              | (exfalso; revert hh; simp [Held, g0, *]; done)
              | (show undef = _; first | rfl | (simp [*]; done))
        · intro L ax W hf hd
          simp [Region.binds] at hd
          have e48 : ax.tmps[48]?.getD undef = .bool true := slv (hf.got 20 (by decide) (by simp [hd]))
          have e55 : ax.tmps[55]?.getD undef = .bool ac := slv (hf.got 27 (by decide) (by simp [hd]))
          have g0 : sl ax 35 = .bool false := hf.got 7 (by decide) (by simp [hd])
          refine ⟨fun hh => ?_, fun hh => ?_⟩
          · first
              | (exact absurd (g0.symm.trans hh) (undef_ne _))
              | (exact absurd (g0.symm.trans hh) (bool_ne (by decide)))
              | (exfalso; revert hh; simp [Held, g0, *]; done)
              | (refine free_run (v := .bool ac) (W' := W) rfl ?_ rfl (Below.refl _ _); go_simp)
          · first
              | (exact absurd g0 hh)
              | (exfalso; revert hh; simp [Held, g0, *]; done)
              | (show undef = _; first | rfl | (simp [*]; done))
        · intro L ax W hf hd
          simp [Region.binds] at hd
          have e38 : ax.tmps[38]?.getD undef = .bool ac := slv (hf.got 10 (by decide) (by simp [hd]))
          have e56 : ax.tmps[56]?.getD undef = .bool ac := slv (hf.got 28 (by decide) (by simp [hd]))
          have g0 : sl ax 35 = .bool false := hf.got 7 (by decide) (by simp [hd])
          refine ⟨fun hh => ?_, fun hh => ?_⟩
          · first
              | (exact absurd (g0.symm.trans hh) (undef_ne _))
              | (exact absurd (g0.symm.trans hh) (bool_ne (by decide)))
              | (exfalso; revert hh; simp [Held, g0, *]; done)
              | ((have hqq : (ac != ac) = false := by simp); refine free_run (v := .bool false) (W' := W) rfl ?_ rfl (Below.refl _ _); go_simp)
          · first
              | (exact absurd g0 hh)
              | (exfalso; revert hh; simp [Held, g0, *]; done)
              | (show undef = _; first | rfl | (simp [*]; done))
        · intro L ax W hf hd
          simp [Region.binds] at hd
          have e35 : ax.tmps[35]?.getD undef = .bool false := slv (hf.got 7 (by decide) (by simp [hd]))
          have e57 : ax.tmps[57]?.getD undef = .bool false := slv (hf.got 29 (by decide) (by simp [hd]))
          refine ⟨fun _ => ?_, fun h => absurd trivial h⟩
          refine free_run (v := .bool false) (W' := W) rfl ?_ rfl (Below.refl _ _)
          go_simp
      · intro vs W' hl' hF hb
        obtain ⟨g', hg1, hg2⟩ := vs_lit vs hl' hF
        have e58 : g' 30 = .bool false := hg2 30 (by decide)
        rw [hg1]
        have hB3 := Lib.hid (hB2.out.trans (hb.mono hB2.out.size))
        clear hF hg1 hg2 hl' hb HS HR HA hrow c0
        simp only [List.length_cons, List.length_nil, Nat.reduceAdd, show List.range 31 = [0, 1, 2, 3, 4, 5, 6, 7, 8, 9, 10, 11, 12, 13, 14, 15, 16, 17, 18, 19, 20, 21, 22, 23, 24, 25, 26, 27, 28, 29, 30] from rfl, List.map_cons, List.map_nil, putL, List.zip_cons_cons, List.zip_nil_right, List.setIfInBounds_toArray, List.set_cons_succ, List.set_cons_zero, e58]
        go_wp2_with fail
        go_roundw
        case rel => exact ⟨k + 1, by omega, by rw [show ((k + 1 : Nat) : Int) - 1 = (k : Int) - 1 + 1 by omega, ← hn.out], hB3⟩
        case measure => simp [intOf]; omega
    · obtain rfl : k = r.members.length + 3 := by omega
      have knl : ¬ ((r.members.length + 3 : Nat) : Int) - 1 ≤ (r.members.length : Int) + 1 := by omega
      have kb := Lib.hid knl
      have knl : decide ((r.members.length : Int) + 2 ≤ (r.members.length : Int) + 1) = false := decide_eq_false (by omega)
      rw [show ((r.members.length + 3 : Nat) : Int) - 1 = (r.members.length : Int) + 2 by omega]
      have hbk := lt_of_row hT2.out.key
      have hkrow := hT2.out.key
      have HT1 := fun W (hb : Below wr.heap.size wr W) => regTotal_c (hT2.out.reg.keep hb).reg (by omega)
      have HT2 := fun W (hb : Below wr.heap.size wr W) => rtotal_c (hT2.out.reg.keep hb).reg (by omega)
      have HF1 := fun W (hb : Below wr.heap.size wr W) => find_c (hT2.out.reg.keep hb).reg.1 (by omega) key
      have HF2 := fun W (hb : Below wr.heap.size wr W) => rfind_c (hT2.out.reg.keep hb).reg.1 (by omega) key
      generalize totW r r.members.length = T at *
      generalize findI key r.members = fi at *
      clear hkx hk
      go_upto_region 8 with fail
      refine wp_region_freeG_l (fun W W' => Below W.heap.size W W') (by kernel_rfl) [59, 60, 61, 62, 63, 64, 65, 66, 67, 68, 69, 70, 71, 72]
        [Is (.agg (regA ⟨⟨ma, r.members.length, mc⟩, gc, gg, r.churn⟩)), Is (.int .u64 (T : Int)), Is (.agg (regA ⟨⟨ma, r.members.length, mc⟩, gc, gg, r.churn⟩)), Is (.int .u64 (T : Int)), Is (.bool false), Is (.bool false), Is (.agg (regA ⟨⟨ma, r.members.length, mc⟩, gc, gg, r.churn⟩)), Is (.agg (hashA key)), Is (.int .i64 fi), Is (.agg (regA ⟨⟨ma, r.members.length, mc⟩, gc, gg, r.churn⟩)), Is (.agg (hashA key)), Is (.int .i64 fi), Is (.bool false), Is (.bool false)]
        (by kernel_rfl) (fun W W' h hb => hb.trans (h.mono hb.size)) ?_ ?_ ?_
      · intro f hf
        simp only [List.mem_cons, List.not_mem_nil, or_false] at hf
        rcases hf with rfl | rfl | rfl | rfl | rfl | rfl | rfl | rfl | rfl | rfl | rfl | rfl | rfl | rfl <;> intro x W W' h hr <;> first | exact h
      · refine ⟨?_, ?_, ?_, ?_, ?_, ?_, ?_, ?_, ?_, ?_, ?_, ?_, ?_, ?_, trivial⟩
        · intro L ax W hf hd
          try simp [Region.binds] at hd
          have e4 : ax.tmps[4]?.getD undef = .pointer (some ⟨w.heap.size, 0, none⟩) := hf.out 4 (by decide) rfl
          refine ⟨fun _ => ?_, fun h => absurd trivial h⟩
          have h1 := (row?_below _ _ _ hf.below hbl).trans hrow
          refine free_run (v := .agg (regA ⟨⟨ma, r.members.length, mc⟩, gc, gg, r.churn⟩)) (W' := W) rfl ?_ rfl (Below.refl _ _)
          go_simp
        · intro L ax W hf hd
          simp [Region.binds] at hd
          have e59 : ax.tmps[59]?.getD undef = .agg (regA ⟨⟨ma, r.members.length, mc⟩, gc, gg, r.churn⟩) := slv (hf.got 0 (by decide) (by simp [hd]))
          refine ⟨fun _ => ?_, fun h => absurd trivial h⟩
          refine free_call (f := 65) (args := #[.agg (regA ⟨⟨ma, r.members.length, mc⟩, gc, gg, r.churn⟩)]) rfl (by go_simp) ?_
          refine (HT1 W hf.below).mono ?_
          rintro e w' ⟨rfl, hb⟩
          exact ⟨_, rfl, rfl, hb⟩
        · intro L ax W hf hd
          try simp [Region.binds] at hd
          have e4 : ax.tmps[4]?.getD undef = .pointer (some ⟨w.heap.size, 0, none⟩) := hf.out 4 (by decide) rfl
          refine ⟨fun _ => ?_, fun h => absurd trivial h⟩
          have h1 := (row?_below _ _ _ hf.below hbl).trans hrow
          refine free_run (v := .agg (regA ⟨⟨ma, r.members.length, mc⟩, gc, gg, r.churn⟩)) (W' := W) rfl ?_ rfl (Below.refl _ _)
          go_simp
        · intro L ax W hf hd
          simp [Region.binds] at hd
          have e61 : ax.tmps[61]?.getD undef = .agg (regA ⟨⟨ma, r.members.length, mc⟩, gc, gg, r.churn⟩) := slv (hf.got 2 (by decide) (by simp [hd]))
          refine ⟨fun _ => ?_, fun h => absurd trivial h⟩
          refine free_call (f := 74) (args := #[.agg (regA ⟨⟨ma, r.members.length, mc⟩, gc, gg, r.churn⟩)]) rfl (by go_simp) ?_
          refine (HT2 W hf.below).mono ?_
          rintro e w' ⟨rfl, hb⟩
          exact ⟨_, rfl, rfl, hb⟩
        · intro L ax W hf hd
          simp [Region.binds] at hd
          have e60 : ax.tmps[60]?.getD undef = .int .u64 (T : Int) := slv (hf.got 1 (by decide) (by simp [hd]))
          have e62 : ax.tmps[62]?.getD undef = .int .u64 (T : Int) := slv (hf.got 3 (by decide) (by simp [hd]))
          refine ⟨fun _ => ?_, fun h => absurd trivial h⟩
          have hqq : ((T : Int) != (T : Int)) = false := by simp
          refine free_run (v := .bool false) (W' := W) rfl ?_ rfl (Below.refl _ _)
          go_simp
        · intro L ax W hf hd
          simp [Region.binds] at hd
          have e63 : ax.tmps[63]?.getD undef = .bool false := slv (hf.got 4 (by decide) (by simp [hd]))
          refine ⟨fun _ => ?_, fun h => absurd trivial h⟩
          refine free_run (v := .bool false) (W' := W) rfl ?_ rfl (Below.refl _ _)
          go_simp
        · intro L ax W hf hd
          simp [Region.binds] at hd
          have e4 : ax.tmps[4]?.getD undef = .pointer (some ⟨w.heap.size, 0, none⟩) := hf.out 4 (by decide) rfl
          have g0 : sl ax 64 = .bool false := hf.got 5 (by decide) (by simp [hd])
          refine ⟨fun hh => ?_, fun hh => ?_⟩
          · first
              | (exact absurd (g0.symm.trans hh) (undef_ne _))
              | (exact absurd (g0.symm.trans hh) (bool_ne (by decide)))
              | (exfalso; revert hh; simp [Held, g0, *]; done)
              | ((have h1 := (row?_below _ _ _ hf.below hbl).trans hrow); refine free_run (v := .agg (regA ⟨⟨ma, r.members.length, mc⟩, gc, gg, r.churn⟩)) (W' := W) rfl ?_ rfl (Below.refl _ _); go_simp)
          · first
              | (exact absurd g0 hh)
              | (exfalso; revert hh; simp [Held, g0, *]; done)
              | (show undef = _; first | rfl | (simp [*]; done))
        · intro L ax W hf hd
          simp [Region.binds] at hd
          have e7 : ax.tmps[7]?.getD undef = .pointer (some ⟨w.heap.size + 1 + 1, 0, none⟩) := hf.out 7 (by decide) rfl
          have g0 : sl ax 64 = .bool false := hf.got 5 (by decide) (by simp [hd])
          refine ⟨fun hh => ?_, fun hh => ?_⟩
          · first
              | (exact absurd (g0.symm.trans hh) (undef_ne _))
              | (exact absurd (g0.symm.trans hh) (bool_ne (by decide)))
              | (exfalso; revert hh; simp [Held, g0, *]; done)
              | ((have h1 := (row?_below _ _ _ hf.below hbk).trans hkrow); refine free_run (v := .agg (hashA key)) (W' := W) rfl ?_ rfl (Below.refl _ _); go_simp)
          · first
              | (exact absurd g0 hh)
              | (exfalso; revert hh; simp [Held, g0, *]; done)
              | (show undef = _; first | rfl | (simp [*]; done))
        · intro L ax W hf hd
          simp [Region.binds] at hd
          have e65 : ax.tmps[65]?.getD undef = .agg (regA ⟨⟨ma, r.members.length, mc⟩, gc, gg, r.churn⟩) := slv (hf.got 6 (by decide) (by simp [hd]))
          have e66 : ax.tmps[66]?.getD undef = .agg (hashA key) := slv (hf.got 7 (by decide) (by simp [hd]))
          have g0 : sl ax 64 = .bool false := hf.got 5 (by decide) (by simp [hd])
          refine ⟨fun hh => ?_, fun hh => ?_⟩
          · first
              | (exact absurd (g0.symm.trans hh) (undef_ne _))
              | (exact absurd (g0.symm.trans hh) (bool_ne (by decide)))
              | (exfalso; revert hh; simp [Held, g0, *]; done)
              | (refine free_call (f := 75) (args := #[.agg (regA ⟨⟨ma, r.members.length, mc⟩, gc, gg, r.churn⟩), .agg (hashA key)]) rfl (by go_simp) ?_; refine (HF1 W hf.below).mono ?_; rintro e w' ⟨rfl, hb⟩; exact ⟨_, rfl, rfl, hb⟩)
          · first
              | (exact absurd g0 hh)
              | (exfalso; revert hh; simp [Held, g0, *]; done)
              | (show undef = _; first | rfl | (simp [*]; done))
        · intro L ax W hf hd
          simp [Region.binds] at hd
          have e4 : ax.tmps[4]?.getD undef = .pointer (some ⟨w.heap.size, 0, none⟩) := hf.out 4 (by decide) rfl
          have g0 : sl ax 64 = .bool false := hf.got 5 (by decide) (by simp [hd])
          refine ⟨fun hh => ?_, fun hh => ?_⟩
          · first
              | (exact absurd (g0.symm.trans hh) (undef_ne _))
              | (exact absurd (g0.symm.trans hh) (bool_ne (by decide)))
              | (exfalso; revert hh; simp [Held, g0, *]; done)
              | ((have h1 := (row?_below _ _ _ hf.below hbl).trans hrow); refine free_run (v := .agg (regA ⟨⟨ma, r.members.length, mc⟩, gc, gg, r.churn⟩)) (W' := W) rfl ?_ rfl (Below.refl _ _); go_simp)
          · first
              | (exact absurd g0 hh)
              | (exfalso; revert hh; simp [Held, g0, *]; done)
              | (show undef = _; first | rfl | (simp [*]; done))
        · intro L ax W hf hd
          simp [Region.binds] at hd
          have e7 : ax.tmps[7]?.getD undef = .pointer (some ⟨w.heap.size + 1 + 1, 0, none⟩) := hf.out 7 (by decide) rfl
          have g0 : sl ax 64 = .bool false := hf.got 5 (by decide) (by simp [hd])
          refine ⟨fun hh => ?_, fun hh => ?_⟩
          · first
              | (exact absurd (g0.symm.trans hh) (undef_ne _))
              | (exact absurd (g0.symm.trans hh) (bool_ne (by decide)))
              | (exfalso; revert hh; simp [Held, g0, *]; done)
              | ((have h1 := (row?_below _ _ _ hf.below hbk).trans hkrow); refine free_run (v := .agg (hashA key)) (W' := W) rfl ?_ rfl (Below.refl _ _); go_simp)
          · first
              | (exact absurd g0 hh)
              | (exfalso; revert hh; simp [Held, g0, *]; done)
              | (show undef = _; first | rfl | (simp [*]; done))
        · intro L ax W hf hd
          simp [Region.binds] at hd
          have e68 : ax.tmps[68]?.getD undef = .agg (regA ⟨⟨ma, r.members.length, mc⟩, gc, gg, r.churn⟩) := slv (hf.got 9 (by decide) (by simp [hd]))
          have e69 : ax.tmps[69]?.getD undef = .agg (hashA key) := slv (hf.got 10 (by decide) (by simp [hd]))
          have g0 : sl ax 64 = .bool false := hf.got 5 (by decide) (by simp [hd])
          refine ⟨fun hh => ?_, fun hh => ?_⟩
          · first
              | (exact absurd (g0.symm.trans hh) (undef_ne _))
              | (exact absurd (g0.symm.trans hh) (bool_ne (by decide)))
              | (exfalso; revert hh; simp [Held, g0, *]; done)
              | (refine free_call (f := 76) (args := #[.agg (regA ⟨⟨ma, r.members.length, mc⟩, gc, gg, r.churn⟩), .agg (hashA key)]) rfl (by go_simp) ?_; refine (HF2 W hf.below).mono ?_; rintro e w' ⟨rfl, hb⟩; exact ⟨_, rfl, rfl, hb⟩)
          · first
              | (exact absurd g0 hh)
              | (exfalso; revert hh; simp [Held, g0, *]; done)
              | (show undef = _; first | rfl | (simp [*]; done))
        · intro L ax W hf hd
          simp [Region.binds] at hd
          have e67 : ax.tmps[67]?.getD undef = .int .i64 fi := slv (hf.got 8 (by decide) (by simp [hd]))
          have e70 : ax.tmps[70]?.getD undef = .int .i64 fi := slv (hf.got 11 (by decide) (by simp [hd]))
          have g0 : sl ax 64 = .bool false := hf.got 5 (by decide) (by simp [hd])
          refine ⟨fun hh => ?_, fun hh => ?_⟩
          · first
              | (exact absurd (g0.symm.trans hh) (undef_ne _))
              | (exact absurd (g0.symm.trans hh) (bool_ne (by decide)))
              | (exfalso; revert hh; simp [Held, g0, *]; done)
              | ((have hqq : (fi != fi) = false := by simp); refine free_run (v := .bool false) (W' := W) rfl ?_ rfl (Below.refl _ _); go_simp)
          · first
              | (exact absurd g0 hh)
              | (exfalso; revert hh; simp [Held, g0, *]; done)
              | (show undef = _; first | rfl | (simp [*]; done))
        · intro L ax W hf hd
          simp [Region.binds] at hd
          have e64 : ax.tmps[64]?.getD undef = .bool false := slv (hf.got 5 (by decide) (by simp [hd]))
          have e71 : ax.tmps[71]?.getD undef = .bool false := slv (hf.got 12 (by decide) (by simp [hd]))
          refine ⟨fun _ => ?_, fun h => absurd trivial h⟩
          refine free_run (v := .bool false) (W' := W) rfl ?_ rfl (Below.refl _ _)
          go_simp
      · intro vs W' hl' hF hb
        obtain ⟨g', hg1, hg2⟩ := vs_lit vs hl' hF
        have e72 : g' 13 = .bool false := hg2 13 (by decide)
        rw [hg1]
        have hT3 := Lib.hid (hT2.out.keep hb)
        have hB3 := Lib.hid (hB1.out.trans ((hB2.out.trans (hb.mono hB2.out.size)).mono hB1.out.size))
        clear hF hg1 hg2 hl' hb HT1 HT2 HF1 HF2 hrow c0 hkrow hT2 hbl hbk hT1 hB1 hB2 kb knl y1
        simp only [List.length_cons, List.length_nil, Nat.reduceAdd, show List.range 14 = [0, 1, 2, 3, 4, 5, 6, 7, 8, 9, 10, 11, 12, 13] from rfl, List.map_cons, List.map_nil, putL, List.zip_cons_cons, List.zip_nil_right, List.setIfInBounds_toArray, List.set_cons_succ, List.set_cons_zero, e72]
        rename World => w2
        have hw22 := Lib.hid (Below.refl w2.heap.size w2)
        go_upto_region 11 with fail
        go_loopw [10] (fun i W' => ∃ k : Nat, k ≤ r.members.length ∧ i = .int .i64 k ∧ Hid (Below w2.heap.size w2 W')) (fun i _ => r.members.length - (intOf i).toNat)
        case atStart => exact ⟨0, Nat.zero_le _, rfl, hw22⟩
        case round =>
          clear hw22
          obtain ⟨i, hk, rfl, hB4⟩ := hrel
          have hT4 := Lib.hid (hT3.out.keep hB4.out)
          have hrow := hT4.out.reg.row
          obtain ⟨c0, -, -, c3, hbl⟩ := hT4.out.reg.cells
          simp only at c0 c3
          dsimp only [Sl.v] at c0
          by_cases hkx : i < r.members.length
          · obtain ⟨bm, om, em, hbmm, hrm, -⟩ := mbrs_at hT4.out.reg.reg.1 (by omega)
            have e1 := congrArg Sl.a em
            simp only at e1
            subst e1
            clear em c3
            have hmrow := hrm i hkx
            clear hrm
            generalize r.members[i] = m at *
            obtain ⟨hkrow, -, -, -⟩ := mbr_cells hmrow
            clear hmrow
            have HF1 := fun W (hb : Below wr.heap.size wr W) => find_c (hT4.out.reg.keep hb).reg.1 (by omega) m.key
            have HF2 := fun W (hb : Below wr.heap.size wr W) => rfind_c (hT4.out.reg.keep hb).reg.1 (by omega) m.key
            generalize findI m.key r.members = fi at *
            have i1 : (i : Int) < (r.members.length : Int) := by omega
            have i0 : (0 : Int) ≤ (i : Int) := by omega
            have hks := Lib.hid (show i + 1 ≤ r.members.length from hkx)
            go_upto_region 13 with fail
            refine wp_region_freeG_l (fun W W' => Below W.heap.size W W') (by kernel_rfl) [80, 81, 82, 83, 84, 85, 86, 87, 88, 89, 90, 91, 92, 93, 94, 95, 96]
              [Is (.agg (regA ⟨⟨some ⟨bm, om, none⟩, r.members.length, mc⟩, gc, gg, r.churn⟩)), Is (.pointer (some ⟨w.heap.size, 0, none⟩)), Is (.slice (some ⟨bm, om, none⟩) r.members.length mc), Is (.int .i64 (i : Int)), Is (.pointer (some ⟨bm, om + i * 35, none⟩)), Is (.pointer (some ⟨bm, om + i * 35, none⟩)), Is (.agg (hashA m.key)), Is (.int .i64 fi), Is (.agg (regA ⟨⟨some ⟨bm, om, none⟩, r.members.length, mc⟩, gc, gg, r.churn⟩)), Is (.pointer (some ⟨w.heap.size, 0, none⟩)), Is (.slice (some ⟨bm, om, none⟩) r.members.length mc), Is (.int .i64 (i : Int)), Is (.pointer (some ⟨bm, om + i * 35, none⟩)), Is (.pointer (some ⟨bm, om + i * 35, none⟩)), Is (.agg (hashA m.key)), Is (.int .i64 fi), Is (.bool false)]
              (by kernel_rfl) (fun W W' h hb => hb.trans (h.mono hb.size)) ?_ ?_ ?_
            · intro f hf
              simp only [List.mem_cons, List.not_mem_nil, or_false] at hf
              rcases hf with rfl | rfl | rfl | rfl | rfl | rfl | rfl | rfl | rfl | rfl | rfl | rfl | rfl | rfl | rfl | rfl | rfl <;> intro x W W' h hr <;> first | exact h
            · refine ⟨?_, ?_, ?_, ?_, ?_, ?_, ?_, ?_, ?_, ?_, ?_, ?_, ?_, ?_, ?_, ?_, ?_, trivial⟩
              · intro L ax W hf hd
                try simp [Region.binds] at hd
                have e4 : ax.tmps[4]?.getD undef = .pointer (some ⟨w.heap.size, 0, none⟩) := hf.out 4 (by decide) rfl
                refine ⟨fun _ => ?_, fun h => absurd trivial h⟩
                have h1 := (row?_below _ _ _ hf.below hbl).trans hrow
                refine free_run (v := .agg (regA ⟨⟨some ⟨bm, om, none⟩, r.members.length, mc⟩, gc, gg, r.churn⟩)) (W' := W) rfl ?_ rfl (Below.refl _ _)
                go_simp
              · intro L ax W hf hd
                try simp [Region.binds] at hd
                have e4 : ax.tmps[4]?.getD undef = .pointer (some ⟨w.heap.size, 0, none⟩) := hf.out 4 (by decide) rfl
                refine ⟨fun _ => ?_, fun h => absurd trivial h⟩
                refine free_run (v := .pointer (some ⟨w.heap.size, 0, none⟩)) (W' := W) rfl ?_ rfl (Below.refl _ _)
                go_simp
              · intro L ax W hf hd
                simp [Region.binds] at hd
                have e81 : ax.tmps[81]?.getD undef = .pointer (some ⟨w.heap.size, 0, none⟩) := slv (hf.got 1 (by decide) (by simp [hd]))
                refine ⟨fun _ => ?_, fun h => absurd trivial h⟩
                have h1 := (hf.below.cell (p := ⟨w.heap.size, 0, none⟩) hbl).trans c0
                refine free_run (v := .slice (some ⟨bm, om, none⟩) r.members.length mc) (W' := W) rfl ?_ rfl (Below.refl _ _)
                go_simp
              · intro L ax W hf hd
                try simp [Region.binds] at hd
                have e10 : ax.tmps[10]?.getD undef = .int .i64 (i : Int) := hf.out 10 (by decide) rfl
                refine ⟨fun _ => ?_, fun h => absurd trivial h⟩
                refine free_run (v := .int .i64 (i : Int)) (W' := W) rfl ?_ rfl (Below.refl _ _)
                go_simp
              · intro L ax W hf hd
                simp [Region.binds] at hd
                have e82 : ax.tmps[82]?.getD undef = .slice (some ⟨bm, om, none⟩) r.members.length mc := slv (hf.got 2 (by decide) (by simp [hd]))
                have e83 : ax.tmps[83]?.getD undef = .int .i64 (i : Int) := slv (hf.got 3 (by decide) (by simp [hd]))
                refine ⟨fun _ => ?_, fun h => absurd trivial h⟩
                refine free_run (v := .pointer (some ⟨bm, om + i * 35, none⟩)) (W' := W) rfl ?_ rfl (Below.refl _ _)
                go_simp
              · intro L ax W hf hd
                simp [Region.binds] at hd
                have e84 : ax.tmps[84]?.getD undef = .pointer (some ⟨bm, om + i * 35, none⟩) := slv (hf.got 4 (by decide) (by simp [hd]))
                refine ⟨fun _ => ?_, fun h => absurd trivial h⟩
                refine free_run (v := .pointer (some ⟨bm, om + i * 35, none⟩)) (W' := W) rfl ?_ rfl (Below.refl _ _)
                go_simp
              · intro L ax W hf hd
                simp [Region.binds] at hd
                have e85 : ax.tmps[85]?.getD undef = .pointer (some ⟨bm, om + i * 35, none⟩) := slv (hf.got 5 (by decide) (by simp [hd]))
                refine ⟨fun _ => ?_, fun h => absurd trivial h⟩
                have h1 := (row?_below _ _ _ hf.below hbmm).trans hkrow
                refine free_run (v := .agg (hashA m.key)) (W' := W) rfl ?_ rfl (Below.refl _ _)
                go_simp
              · intro L ax W hf hd
                simp [Region.binds] at hd
                have e80 : ax.tmps[80]?.getD undef = .agg (regA ⟨⟨some ⟨bm, om, none⟩, r.members.length, mc⟩, gc, gg, r.churn⟩) := slv (hf.got 0 (by decide) (by simp [hd]))
                have e86 : ax.tmps[86]?.getD undef = .agg (hashA m.key) := slv (hf.got 6 (by decide) (by simp [hd]))
                refine ⟨fun _ => ?_, fun h => absurd trivial h⟩
                refine free_call (f := 75) (args := #[.agg (regA ⟨⟨some ⟨bm, om, none⟩, r.members.length, mc⟩, gc, gg, r.churn⟩), .agg (hashA m.key)]) rfl (by go_simp) ?_
                refine (HF1 W hf.below).mono ?_
                rintro e w' ⟨rfl, hb⟩
                exact ⟨_, rfl, rfl, hb⟩
              · intro L ax W hf hd
                try simp [Region.binds] at hd
                have e4 : ax.tmps[4]?.getD undef = .pointer (some ⟨w.heap.size, 0, none⟩) := hf.out 4 (by decide) rfl
                refine ⟨fun _ => ?_, fun h => absurd trivial h⟩
                have h1 := (row?_below _ _ _ hf.below hbl).trans hrow
                refine free_run (v := .agg (regA ⟨⟨some ⟨bm, om, none⟩, r.members.length, mc⟩, gc, gg, r.churn⟩)) (W' := W) rfl ?_ rfl (Below.refl _ _)
                go_simp
              · intro L ax W hf hd
                try simp [Region.binds] at hd
                have e4 : ax.tmps[4]?.getD undef = .pointer (some ⟨w.heap.size, 0, none⟩) := hf.out 4 (by decide) rfl
                refine ⟨fun _ => ?_, fun h => absurd trivial h⟩
                refine free_run (v := .pointer (some ⟨w.heap.size, 0, none⟩)) (W' := W) rfl ?_ rfl (Below.refl _ _)
                go_simp
              · intro L ax W hf hd
                simp [Region.binds] at hd
                have e89 : ax.tmps[89]?.getD undef = .pointer (some ⟨w.heap.size, 0, none⟩) := slv (hf.got 9 (by decide) (by simp [hd]))
                refine ⟨fun _ => ?_, fun h => absurd trivial h⟩
                have h1 := (hf.below.cell (p := ⟨w.heap.size, 0, none⟩) hbl).trans c0
                refine free_run (v := .slice (some ⟨bm, om, none⟩) r.members.length mc) (W' := W) rfl ?_ rfl (Below.refl _ _)
                go_simp
              · intro L ax W hf hd
                try simp [Region.binds] at hd
                have e10 : ax.tmps[10]?.getD undef = .int .i64 (i : Int) := hf.out 10 (by decide) rfl
                refine ⟨fun _ => ?_, fun h => absurd trivial h⟩
                refine free_run (v := .int .i64 (i : Int)) (W' := W) rfl ?_ rfl (Below.refl _ _)
                go_simp
              · intro L ax W hf hd
                simp [Region.binds] at hd
                have e90 : ax.tmps[90]?.getD undef = .slice (some ⟨bm, om, none⟩) r.members.length mc := slv (hf.got 10 (by decide) (by simp [hd]))
                have e91 : ax.tmps[91]?.getD undef = .int .i64 (i : Int) := slv (hf.got 11 (by decide) (by simp [hd]))
                refine ⟨fun _ => ?_, fun h => absurd trivial h⟩
                refine free_run (v := .pointer (some ⟨bm, om + i * 35, none⟩)) (W' := W) rfl ?_ rfl (Below.refl _ _)
                go_simp
              · intro L ax W hf hd
                simp [Region.binds] at hd
                have e92 : ax.tmps[92]?.getD undef = .pointer (some ⟨bm, om + i * 35, none⟩) := slv (hf.got 12 (by decide) (by simp [hd]))
                refine ⟨fun _ => ?_, fun h => absurd trivial h⟩
                refine free_run (v := .pointer (some ⟨bm, om + i * 35, none⟩)) (W' := W) rfl ?_ rfl (Below.refl _ _)
                go_simp
              · intro L ax W hf hd
                simp [Region.binds] at hd
                have e93 : ax.tmps[93]?.getD undef = .pointer (some ⟨bm, om + i * 35, none⟩) := slv (hf.got 13 (by decide) (by simp [hd]))
                refine ⟨fun _ => ?_, fun h => absurd trivial h⟩
                have h1 := (row?_below _ _ _ hf.below hbmm).trans hkrow
                refine free_run (v := .agg (hashA m.key)) (W' := W) rfl ?_ rfl (Below.refl _ _)
                go_simp
              · intro L ax W hf hd
                simp [Region.binds] at hd
                have e88 : ax.tmps[88]?.getD undef = .agg (regA ⟨⟨some ⟨bm, om, none⟩, r.members.length, mc⟩, gc, gg, r.churn⟩) := slv (hf.got 8 (by decide) (by simp [hd]))
                have e94 : ax.tmps[94]?.getD undef = .agg (hashA m.key) := slv (hf.got 14 (by decide) (by simp [hd]))
                refine ⟨fun _ => ?_, fun h => absurd trivial h⟩
                refine free_call (f := 76) (args := #[.agg (regA ⟨⟨some ⟨bm, om, none⟩, r.members.length, mc⟩, gc, gg, r.churn⟩), .agg (hashA m.key)]) rfl (by go_simp) ?_
                refine (HF2 W hf.below).mono ?_
                rintro e w' ⟨rfl, hb⟩
                exact ⟨_, rfl, rfl, hb⟩
              · intro L ax W hf hd
                simp [Region.binds] at hd
                have e87 : ax.tmps[87]?.getD undef = .int .i64 fi := slv (hf.got 7 (by decide) (by simp [hd]))
                have e95 : ax.tmps[95]?.getD undef = .int .i64 fi := slv (hf.got 15 (by decide) (by simp [hd]))
                refine ⟨fun _ => ?_, fun h => absurd trivial h⟩
                have hqq : (fi != fi) = false := by simp
                refine free_run (v := .bool false) (W' := W) rfl ?_ rfl (Below.refl _ _)
                go_simp
            · intro vs W' hl' hF hb
              obtain ⟨g', hg1, hg2⟩ := vs_lit vs hl' hF
              have e96 : g' 16 = .bool false := hg2 16 (by decide)
              rw [hg1]
              have hB5 := Lib.hid (hB4.out.trans (hb.mono hB4.out.size))
              clear hF hg1 hg2 hl' hb HF1 HF2 hrow c0 hkrow hT4 hB4
              simp only [List.length_cons, List.length_nil, Nat.reduceAdd, show List.range 17 = [0, 1, 2, 3, 4, 5, 6, 7, 8, 9, 10, 11, 12, 13, 14, 15, 16] from rfl, List.map_cons, List.map_nil, putL, List.zip_cons_cons, List.zip_nil_right, List.setIfInBounds_toArray, List.set_cons_succ, List.set_cons_zero, e96]
              go_wp2_with fail
              go_roundw
              case rel => exact ⟨i + 1, hks.out, by go_num, hB5⟩
              case measure =>
                have := hks.out
                simp [intOf]
                omega
          · obtain rfl : i = r.members.length := by omega
            have knl : ¬ (r.members.length : Int) < (r.members.length : Int) := by omega
            have hprow := hT4.out.pt
            have hB5 := Lib.hid (hB3.out.trans (hB4.out.mono hB3.out.size))
            have hbl3 := fun W => run_bldA3 p r.churn d W
            have hzr := zero_ancA
            clear hkx hk hB3 hB4
            rename World => w4
            go_upto_region 16 with fail
            obtain ⟨pa, hpa⟩ : ∃ x, x = w4.heap.size := ⟨_, rfl⟩
            obtain ⟨w5, hw5⟩ : ∃ x, x = putRow (w4.alloc (.cells (ancA zeroGA) 113)) w4.heap.size 0 (ancA ⟨p, ⟨none, 0, 0⟩, r.churn, d⟩) := ⟨_, rfl⟩
            have hb45 : Below w4.heap.size w4 w5 := by rw [hw5]; exact below_put (bel_a w4 _) (Nat.le_refl _) _ _
            have hz5 : w5.heap.size = w4.heap.size + 1 := by rw [hw5, size_put]; simp
            have hAV5 : AV w5 (pa + 1) pa p ⟨none, 0, 0⟩ [] r.churn d := by
              have ht := there_new w4 (ancA zeroGA) 113 0 36 (by simp)
              rw [hw5, hpa]
              exact ⟨row?_put_same _ _ _ _ _ (by simp) (by omega) ht, there_put _ _ _ _ _ _ _ ht, OwnC.nil _ _ _, Nat.lt_succ_self _, by rw [size_put]; simp⟩
            rw [← hw5, ← hpa]
            have hT5 := Lib.hid (hT4.out.keep hb45)
            have hB6 := Lib.hid (hB5.out.trans (hb45.mono hB5.out.size))
            have hTl : w.heap.size + 2 < pa := by
              have := lt_of_row hT4.out.key
              omega
            replace hAV5 := Lib.hid hAV5
            clear hw5 hb45 hT4 hB5 hrow c0 c3 hprow hbl3 hbl knl
            have h45 : w4.heap.size + 1 = w5.heap.size := hz5.symm
            replace hz5 := Lib.hid hz5
            replace hpa := Lib.hid hpa
            replace h45 := Lib.hid h45
            have hb55 := Lib.hid (Below.refl pa w5)
            go_upto_region 17 with fail
            go_loopw [12] (fun i W' => ∃ (k : Nat) (s : Sl), k ≤ r.members.length ∧ i = .int .i64 k ∧ Hid (AV W' (pa + 1) pa p s (((r.members.take k).filter fun m => votes m.status).map valOf) r.churn d) ∧ Hid (TM W' w.heap.size ⟨⟨ma, r.members.length, mc⟩, gc, gg, r.churn⟩ r p key) ∧ Hid (Below w.heap.size w W')) (fun i _ => r.members.length - (intOf i).toNat)
            case atStart => exact ⟨0, ⟨none, 0, 0⟩, Nat.zero_le _, rfl, hAV5, hT5, hB6⟩
            case round =>
              clear hAV5 hT5 hB6 hb55
              obtain ⟨k, ⟨sa, sn, sc⟩, hk, rfl, hAV, hT, hB⟩ := hrel
              have hpl := hAV.out.lt
              have hpw := Nat.lt_of_lt_of_le hpl hAV.out.hB
              obtain ⟨c0, -, -, -, hbl⟩ := hT.out.reg.cells
              simp only at c0
              dsimp only [Sl.v] at c0
              by_cases hkx : k < r.members.length
              · obtain ⟨bm, om, e, hbm, hrm, -⟩ := mbrs_at hrI.out.1 (by omega)
                have e1 := congrArg Sl.a e
                simp only at e1
                subst e1
                clear e
                have hmrow := (row?_below _ _ _ hB.out hbm).trans (hrm k hkx)
                clear hrm
                have Hs := Lib.hid (act_snoc r.members k hkx)
                generalize r.members[k] = m at *
                have HV := rvotes_c m wr
                obtain ⟨vt, hvt⟩ : ∃ x, x = votes m.status := ⟨_, rfl⟩
                rw [← hvt] at HV Hs
                replace hvt := Lib.hid hvt
                have i1 : (k : Int) < (r.members.length : Int) := by omega
                have i0 : (0 : Int) ≤ (k : Int) := by omega
                have hks := Lib.hid (show k + 1 ≤ r.members.length from hkx)
                go_upto_region 19 with fail
                go_wp2_with fail
                refine HV.mono ?_
                clear HV
                rintro e w7 ⟨rfl, hb7⟩
                have hAV7 := Lib.hid (hAV.out.keep hb7)
                have hT7 := Lib.hid (hT.out.keep hb7)
                have hB7 := Lib.hid (hB.out.trans (hb7.mono hB.out.size))
                have hmr7 := (row?_below _ _ _ hb7 (Nat.lt_of_lt_of_le hbm hB.out.size)).trans hmrow
                have c07 := (hb7.cell (p := ⟨w.heap.size, 0, none⟩) hbl).trans c0
                clear hb7 hAV hT hB hmrow c0 hpw hbl
                cases vt
                · have Hs2 := Lib.hid (show ((r.members.take (k + 1)).filter fun m => votes m.status).map valOf = ((r.members.take k).filter fun m => votes m.status).map valOf by rw [Hs.out]; simp)
                  clear Hs
                  go_wp2_with fail
                  go_roundw
                  case rel => exact ⟨k + 1, ⟨sa, sn, sc⟩, hks.out, by go_num, by rw [Hs2.out]; exact hAV7, hT7, hB7⟩
                  case measure =>
                    have := hks.out
                    simp [intOf]
                    omega
                · have Hs2 := Lib.hid (show ((r.members.take (k + 1)).filter fun m => votes m.status).map valOf = ((r.members.take k).filter fun m => votes m.status).map valOf ++ [valOf m] by rw [Hs.out]; rfl)
                  clear Hs
                  have hlv : (((r.members.take k).filter fun m => votes m.status).map valOf).length ≤ 1000000 := by
                    rw [List.length_map]
                    exact Nat.le_trans (List.length_filter_le _ _) (by rw [List.length_take]; omega)
                  have hown := hAV7.out.own
                  obtain ⟨vls, hvls⟩ : ∃ x, x = ((r.members.take k).filter fun m => votes m.status).map valOf := ⟨_, rfl⟩
                  have hAVf := Lib.hid hAV7.out
                  rw [← hvls] at hown hlv hAVf Hs2
                  clear hvls
                  have c33 := hAV7.out.cell
                  obtain ⟨qk, qs, -, -⟩ := mbr_cells hmr7
                  have hbv : ∀ W, (bldV #[(0, .agg (hashA m.key)), (1, .int .u64 (m.stake.toNat : Int))]).run Try.prog W = .ok (.agg (valA (valOf m))) W := fun W => run_bldV m.key m.stake W
                  have hbs := fun W => bsV_one' (valOf m) W
                  have hpw7 : pa + 1 ≤ w7.heap.size := hAV7.out.hB
                  have hwB : w.heap.size < pa + 1 := by omega
                  have hbB : bm < pa + 1 := by omega
                  obtain ⟨i0, hi0, hy0, hy1, hy2⟩ := info_parts info_vals
                  dsimp only [Sl.v] at c33 hown
                  generalize valOf m = vm at *
                  clear hmr7
                  go_upto_region 20 with fail
                  refine wp_region_freeB_l 16 (pa + 1) (fun i j => !(j == 16 && i == 15)) (fun i W W' => if i = 16 then Below (pa + 1) W W' else Below W.heap.size W W') (by kernel_rfl) [115, 116, 117, 118, 119, 120, 121, 122, 123, 124, 125, 126, 127, 128, 129, 130, 131, 132]
                    [Is (.pointer (some ⟨pa, 33, none⟩)), Is (.slice sa sn sc), Is (.pointer (some ⟨w.heap.size, 0, none⟩)), Is (.slice (some ⟨bm, om, none⟩) r.members.length mc), Is (.int .i64 (k : Int)), Is (.pointer (some ⟨bm, om + k * 35, none⟩)), Is (.pointer (some ⟨bm, om + k * 35, none⟩)), Is (.agg (hashA m.key)), Is (.pointer (some ⟨w.heap.size, 0, none⟩)), Is (.slice (some ⟨bm, om, none⟩) r.members.length mc), Is (.int .i64 (k : Int)), Is (.pointer (some ⟨bm, om + k * 35, none⟩)), Is (.pointer (some ⟨bm, om + k * 35 + 32, none⟩)), Is (.int .u64 (m.stake.toNat : Int)), Is (.agg (valA vm)), LitV vm, OwnV (pa + 1) (vls ++ [vm]), Is (.pointer (some ⟨pa, 33, none⟩))]
                    (by kernel_rfl) (fun i W W' h hb => by (split at h <;> first | exact hb.trans h | exact hb.trans (h.mono (Nat.le_trans (by assumption) hb.size)))) (fun i W W' hi h hb => by (rw [if_neg hi] at h; exact hb.trans (h.mono hb.size))) ?_ ?_
                  · intro i j hi hij hlv x W W' h hr
                    have hi : i < 18 := hi
                    try dsimp only at hlv hr
                    have hi : i = 0 ∨ i = 1 ∨ i = 2 ∨ i = 3 ∨ i = 4 ∨ i = 5 ∨ i = 6 ∨ i = 7 ∨ i = 8 ∨ i = 9 ∨ i = 10 ∨ i = 11 ∨ i = 12 ∨ i = 13 ∨ i = 14 ∨ i = 15 ∨ i = 16 ∨ i = 17 := by omega
                    rcases hi with rfl | rfl | rfl | rfl | rfl | rfl | rfl | rfl | rfl | rfl | rfl | rfl | rfl | rfl | rfl | rfl | rfl | rfl <;> first | exact h | (have hj : j ≠ 16 := by first | (intro e; subst e; simp at hlv; done) | (exact fun e => hij e.symm)) <;> (rw [if_neg hj] at hr; first | exact OwnV.keep h hr | exact LitV.keep h hr)
                  · refine ⟨?_, ?_, ?_, ?_, ?_, ?_, ?_, ?_, ?_, ?_, ?_, ?_, ?_, ?_, ?_, ?_, ?_, ?_, ?_⟩
                    · intro L ax W hf hL hd
                      try simp [Region.binds] at hd
                      have e11 : ax.tmps[11]?.getD undef = .pointer (some ⟨pa, 0, none⟩) := hf.out 11 (by decide) rfl
                      refine ⟨fun _ => ?_, fun h => absurd trivial h⟩
                      refine free_run (v := .pointer (some ⟨pa, 33, none⟩)) (W' := W) rfl ?_ rfl (Below.refl _ _)
                      go_simp
                    · intro L ax W hf hL hd
                      simp [Region.binds] at hd
                      have e115 : ax.tmps[115]?.getD undef = .pointer (some ⟨pa, 33, none⟩) := slv (hf.got 0 (by decide) (by simp [hd]) (fun j _ => by simp))
                      refine ⟨fun _ => ?_, fun h => absurd trivial h⟩
                      have h1 := (hf.below.cell (p := ⟨pa, 33, none⟩) (Nat.lt_succ_self _)).trans c33
                      refine free_run (v := .slice sa sn sc) (W' := W) rfl ?_ rfl (Below.refl _ _)
                      go_simp
                    · intro L ax W hf hL hd
                      try simp [Region.binds] at hd
                      have e4 : ax.tmps[4]?.getD undef = .pointer (some ⟨w.heap.size, 0, none⟩) := hf.out 4 (by decide) rfl
                      refine ⟨fun _ => ?_, fun h => absurd trivial h⟩
                      refine free_run (v := .pointer (some ⟨w.heap.size, 0, none⟩)) (W' := W) rfl ?_ rfl (Below.refl _ _)
                      go_simp
                    · intro L ax W hf hL hd
                      simp [Region.binds] at hd
                      have e117 : ax.tmps[117]?.getD undef = .pointer (some ⟨w.heap.size, 0, none⟩) := slv (hf.got 2 (by decide) (by simp [hd]) (fun j _ => by simp))
                      refine ⟨fun _ => ?_, fun h => absurd trivial h⟩
                      have h1 := (hf.below.cell (p := ⟨w.heap.size, 0, none⟩) hwB).trans c07
                      refine free_run (v := .slice (some ⟨bm, om, none⟩) r.members.length mc) (W' := W) rfl ?_ rfl (Below.refl _ _)
                      go_simp
                    · intro L ax W hf hL hd
                      try simp [Region.binds] at hd
                      have e12 : ax.tmps[12]?.getD undef = .int .i64 (k : Int) := hf.out 12 (by decide) rfl
                      refine ⟨fun _ => ?_, fun h => absurd trivial h⟩
                      refine free_run (v := .int .i64 (k : Int)) (W' := W) rfl ?_ rfl (Below.refl _ _)
                      go_simp
                    · intro L ax W hf hL hd
                      simp [Region.binds] at hd
                      have e118 : ax.tmps[118]?.getD undef = .slice (some ⟨bm, om, none⟩) r.members.length mc := slv (hf.got 3 (by decide) (by simp [hd]) (fun j _ => by simp))
                      have e119 : ax.tmps[119]?.getD undef = .int .i64 (k : Int) := slv (hf.got 4 (by decide) (by simp [hd]) (fun j _ => by simp))
                      refine ⟨fun _ => ?_, fun h => absurd trivial h⟩
                      refine free_run (v := .pointer (some ⟨bm, om + k * 35, none⟩)) (W' := W) rfl ?_ rfl (Below.refl _ _)
                      go_simp
                    · intro L ax W hf hL hd
                      simp [Region.binds] at hd
                      have e120 : ax.tmps[120]?.getD undef = .pointer (some ⟨bm, om + k * 35, none⟩) := slv (hf.got 5 (by decide) (by simp [hd]) (fun j _ => by simp))
                      refine ⟨fun _ => ?_, fun h => absurd trivial h⟩
                      refine free_run (v := .pointer (some ⟨bm, om + k * 35, none⟩)) (W' := W) rfl ?_ rfl (Below.refl _ _)
                      go_simp
                    · intro L ax W hf hL hd
                      simp [Region.binds] at hd
                      have e121 : ax.tmps[121]?.getD undef = .pointer (some ⟨bm, om + k * 35, none⟩) := slv (hf.got 6 (by decide) (by simp [hd]) (fun j _ => by simp))
                      refine ⟨fun _ => ?_, fun h => absurd trivial h⟩
                      have h1 := (row?_below _ _ _ hf.below hbB).trans qk
                      refine free_run (v := .agg (hashA m.key)) (W' := W) rfl ?_ rfl (Below.refl _ _)
                      go_simp
                    · intro L ax W hf hL hd
                      try simp [Region.binds] at hd
                      have e4 : ax.tmps[4]?.getD undef = .pointer (some ⟨w.heap.size, 0, none⟩) := hf.out 4 (by decide) rfl
                      refine ⟨fun _ => ?_, fun h => absurd trivial h⟩
                      refine free_run (v := .pointer (some ⟨w.heap.size, 0, none⟩)) (W' := W) rfl ?_ rfl (Below.refl _ _)
                      go_simp
                    · intro L ax W hf hL hd
                      simp [Region.binds] at hd
                      have e123 : ax.tmps[123]?.getD undef = .pointer (some ⟨w.heap.size, 0, none⟩) := slv (hf.got 8 (by decide) (by simp [hd]) (fun j _ => by simp))
                      refine ⟨fun _ => ?_, fun h => absurd trivial h⟩
                      have h1 := (hf.below.cell (p := ⟨w.heap.size, 0, none⟩) hwB).trans c07
                      refine free_run (v := .slice (some ⟨bm, om, none⟩) r.members.length mc) (W' := W) rfl ?_ rfl (Below.refl _ _)
                      go_simp
                    · intro L ax W hf hL hd
                      try simp [Region.binds] at hd
                      have e12 : ax.tmps[12]?.getD undef = .int .i64 (k : Int) := hf.out 12 (by decide) rfl
                      refine ⟨fun _ => ?_, fun h => absurd trivial h⟩
                      refine free_run (v := .int .i64 (k : Int)) (W' := W) rfl ?_ rfl (Below.refl _ _)
                      go_simp
                    · intro L ax W hf hL hd
                      simp [Region.binds] at hd
                      have e124 : ax.tmps[124]?.getD undef = .slice (some ⟨bm, om, none⟩) r.members.length mc := slv (hf.got 9 (by decide) (by simp [hd]) (fun j _ => by simp))
                      have e125 : ax.tmps[125]?.getD undef = .int .i64 (k : Int) := slv (hf.got 10 (by decide) (by simp [hd]) (fun j _ => by simp))
                      refine ⟨fun _ => ?_, fun h => absurd trivial h⟩
                      refine free_run (v := .pointer (some ⟨bm, om + k * 35, none⟩)) (W' := W) rfl ?_ rfl (Below.refl _ _)
                      go_simp
                    · intro L ax W hf hL hd
                      simp [Region.binds] at hd
                      have e126 : ax.tmps[126]?.getD undef = .pointer (some ⟨bm, om + k * 35, none⟩) := slv (hf.got 11 (by decide) (by simp [hd]) (fun j _ => by simp))
                      refine ⟨fun _ => ?_, fun h => absurd trivial h⟩
                      refine free_run (v := .pointer (some ⟨bm, om + k * 35 + 32, none⟩)) (W' := W) rfl ?_ rfl (Below.refl _ _)
                      go_simp
                    · intro L ax W hf hL hd
                      simp [Region.binds] at hd
                      have e127 : ax.tmps[127]?.getD undef = .pointer (some ⟨bm, om + k * 35 + 32, none⟩) := slv (hf.got 12 (by decide) (by simp [hd]) (fun j _ => by simp))
                      refine ⟨fun _ => ?_, fun h => absurd trivial h⟩
                      have h1 := (hf.below.cell (p := ⟨bm, om + k * 35 + 32, none⟩) hbB).trans qs
                      refine free_run (v := .int .u64 (m.stake.toNat : Int)) (W' := W) rfl ?_ rfl (Below.refl _ _)
                      go_simp
                    · intro L ax W hf hL hd
                      simp [Region.binds] at hd
                      have e122 : ax.tmps[122]?.getD undef = .agg (hashA m.key) := slv (hf.got 7 (by decide) (by simp [hd]) (fun j _ => by simp))
                      have e128 : ax.tmps[128]?.getD undef = .int .u64 (m.stake.toNat : Int) := slv (hf.got 13 (by decide) (by simp [hd]) (fun j _ => by simp))
                      refine ⟨fun _ => ?_, fun h => absurd trivial h⟩
                      refine free_run (v := .agg (valA vm)) (W' := W) rfl ?_ rfl (Below.refl _ _)
                      go_simp
                    · intro L ax W hf hL hd
                      simp [Region.binds] at hd
                      have e129 : ax.tmps[129]?.getD undef = .agg (valA vm) := slv (hf.got 14 (by decide) (by simp [hd]) (fun j _ => by simp))
                      refine ⟨fun _ => ?_, fun h => absurd trivial h⟩
                      refine free_run (v := .slice (some ⟨W.heap.size, 0, none⟩) 1 1) (W' := W.alloc (.cells (valA vm) 125)) rfl ?_ ⟨W.heap.size, rfl, _, _, heap_alloc_new W _⟩ (bel_a _ _)
                      go_simp
                    · intro L ax W hf hL hd
                      simp [Region.binds] at hd
                      have e116 : ax.tmps[116]?.getD undef = .slice sa sn sc := slv (hf.got 1 (by decide) (by simp [hd]) (fun j _ => by simp))
                      have f130 : LitV vm (sl ax 130) W := hf.got 15 (by decide) (by simp [hd]) (fun j hj => by by_cases e : j = 16 <;> first | (subst e; rw [hL] at hj; cases hj; done) | (simp [e]; done))
                      refine ⟨fun _ => ?_, fun h => absurd trivial h⟩
                      obtain ⟨bl, e130, ty, fr, hrl⟩ := f130
                      have e130 := slv e130
                      have hfu := hf.full hL
                      refine wp_append_ownC W (.tmp 116) (.tmp 130) _ _ (by rfl) (pa + 1) 125 i0 _ 33 40 Try.underlying111 hi0 hy0 hy1 hy2 (by simp [Value.cells]) (.slice sa sn sc) vls.length (flatC valA vls) (by simp [Act.eval, e116]) (OwnC.keep hown hfu) (.slice (some ⟨bl, 0, none⟩) 1 1) 1 (flatC valA [vm]) (by simp [Act.eval, e130]) (src_one valA valA_size33 Try.underlying111 valA_one hrl) (by simp only [maxLen]; omega) (by omega) (Nat.le_trans hpw7 hfu.size) ?_
                      intro v' W' ho hg _
                      refine ⟨v', rfl, ?_, ?_⟩
                      · unfold OwnV
                        rw [flatC_append, List.length_append]
                        exact ho
                      · show Below (pa + 1) W W'
                        exact bel_grown hg (Below.refl _ _) (Nat.le_trans hpw7 hfu.size) (fun k hk => (OwnC.lt (OwnC.keep hown hfu) k hk).1)
                    · intro L ax W hf hL hd
                      try simp [Region.binds] at hd
                      have e11 : ax.tmps[11]?.getD undef = .pointer (some ⟨pa, 0, none⟩) := hf.out 11 (by decide) rfl
                      refine ⟨fun _ => ?_, fun h => absurd trivial h⟩
                      refine free_run (v := .pointer (some ⟨pa, 33, none⟩)) (W' := W) rfl ?_ rfl (Below.refl _ _)
                      go_simp
                    · intro vs W hl' hF hb
                      obtain ⟨g', hg1, hg2⟩ := vs_litE vs hl' hF
                      have ho16 : OwnV (pa + 1) (vls ++ [vm]) (g' 16) W := hg2 16 (by decide) (fun j => by simp)
                      have e17 : g' 17 = .pointer (some ⟨pa, 33, none⟩) := hg2 17 (by decide) (fun j => by simp)
                      obtain ⟨⟨ta, tn, tc⟩, hs16⟩ := ho16.slice
                      rw [hs16] at ho16
                      rw [hg1]
                      simp only [List.length_cons, List.length_nil, Nat.reduceAdd, show List.range 18 = [0, 1, 2, 3, 4, 5, 6, 7, 8, 9, 10, 11, 12, 13, 14, 15, 16, 17] from rfl, List.map_cons, List.map_nil, putL, List.zip_cons_cons, List.zip_nil_right, List.setIfInBounds_toArray, List.set_cons_succ, List.set_cons_zero, hs16, e17]
                      have c33W := (hb.cell (p := ⟨pa, 33, none⟩) (Nat.lt_succ_self _)).trans c33
                      obtain ⟨hcell, hfz, hAV9, hbW⟩ := hAVf.out.set hb ho16
                      dsimp only [Sl.v] at hAV9 hbW
                      have hB9 := Lib.hid (hB7.out.trans (hbW.mono (show w.heap.size ≤ pa by omega)))
                      have hT9 := Lib.hid (hT7.out.far hbW hTl (hrI.out.keep hB9.out))
                      replace hAV9 := Lib.hid hAV9
                      clear hg1 hg2 hs16 e17 ho16 hb hbW hl' hF c33 c07 qk qs hAVf hAV7 hB7 hT7 hown
                      go_wp2_with fail
                      go_roundw
                      case rel => exact ⟨k + 1, ⟨ta, tn, tc⟩, hks.out, by go_num, by rw [Hs2.out]; exact hAV9, hT9, hB9⟩
                      case measure =>
                        have := hks.out
                        simp [intOf]
                        omega
              · obtain rfl : k = r.members.length := by omega
                rw [List.take_length] at hAV
                have knl : ¬ (r.members.length : Int) < (r.members.length : Int) := by omega
                have hrow := hT.out.reg.row
                have hprow := hT.out.pt
                have HAn := anchor_c p d hT.out.reg.reg (by omega) (by omega) (by omega)
                have HP := Lib.hid (show anchorP r p d = if regMay r && ancMay (ancOf r p d) then (ancOf r p d, 0) else (zeroAnc, 2) from rfl)
                have hval : (actVals r).length ≤ 100 := by
                  rw [actVals, List.length_map]
                  exact Nat.le_trans (List.length_filter_le _ _) hm
                change Hid (AV wr (pa + 1) pa p ⟨sa, sn, sc⟩ (actVals r) r.churn d) at hAV
                go_wp2_with fail
                refine HAn.mono ?_
                clear HAn
                rintro e w7 ⟨g9, rfl, hR9, hb7⟩
                have hAV7 := Lib.hid (hAV.out.keep hb7)
                have hT7 := Lib.hid (hT.out.keep hb7)
                have hB7 := Lib.hid (hB.out.trans (hb7.mono hB.out.size))
                clear hb7 hAV hT hB c0 hbl hrow hprow hkx hk knl hpw
                obtain ⟨a9, ha9⟩ : ∃ x, x = (anchorP r p d).1 := ⟨_, rfl⟩
                obtain ⟨e9, he9⟩ : ∃ x, x = (anchorP r p d).2 := ⟨_, rfl⟩
                rw [← ha9] at hR9
                rw [← he9]
                replace ha9 := Lib.hid ha9
                replace he9 := Lib.hid he9
                go_upto_region 22 with fail
                obtain ⟨p9, hp9⟩ : ∃ x, x = w7.heap.size := ⟨_, rfl⟩
                obtain ⟨w9, hw9⟩ : ∃ x, x = putRow (w7.alloc (.cells (ancA zeroGA) 113)) w7.heap.size 0 (ancA g9) := ⟨_, rfl⟩
                have hb79 : Below w7.heap.size w7 w9 := by rw [hw9]; exact below_put (bel_a w7 _) (Nat.le_refl _) _ _
                have hX9 : ABox w9 p9 g9 a9 := by
                  refine ⟨?_, hR9.keep hb79⟩
                  rw [hw9, hp9]
                  exact row?_put_same _ _ _ _ _ (by simp) (by omega) (there_new w7 (ancA zeroGA) 113 0 36 (by simp))
                rw [← hw9, ← hp9]
                have hAV9 := Lib.hid (hAV7.out.keep hb79)
                have hT9 := Lib.hid (hT7.out.keep hb79)
                have hB9 := Lib.hid (hB7.out.trans (hb79.mono hB7.out.size))
                clear hw9 hp9 hb79 hAV7 hT7 hB7 hR9
                replace hX9 := Lib.hid hX9
                have HMy := rMay_c hT9.out.reg.reg (by omega) (by omega) (by omega)
                rw [refMay_eq] at HMy
                have hrow := hT9.out.reg.row
                obtain ⟨rm, hrm⟩ : ∃ x, x = regMay r := ⟨_, rfl⟩
                rw [← hrm] at HMy HP
                replace hrm := Lib.hid hrm
                go_wp2_with fail
                refine HMy.mono ?_
                clear HMy
                rintro e wa ⟨rfl, hba⟩
                have hAVa := Lib.hid (hAV9.out.keep hba)
                have hTa := Lib.hid (hT9.out.keep hba)
                have hXa := Lib.hid (hX9.out.keep hba)
                have hBa := Lib.hid (hB9.out.trans (hba.mono hB9.out.size))
                clear hba hAV9 hT9 hX9 hB9 hrow
                cases rm
                · have h2 : e9 = 2 := by rw [he9.out, HP.out]; rfl
                  have hv0 := hXa.out.anc.2.1.1
                  rw [ha9.out, HP.out] at hv0
                  replace hv0 : g9.vals.n = 0 := hv0
                  obtain ⟨-, -, c33, -, -, -⟩ := hXa.out.cells
                  obtain ⟨gp, ⟨va, vn, vc⟩, gch9, gde9⟩ := g9
                  simp only at hv0 c33
                  subst hv0 h2
                  dsimp only [Sl.v] at c33
                  go_wp2_with (go_at_call 55; (with_reducible refine (HK _).mono ?_); rintro e W4 ⟨rfl, hb4⟩)
                  go_ret
                  exact ⟨rfl, hBa.out.trans (hb4.mono hBa.out.size)⟩
                have hAR := hAVa.out.anc
                have HMA := fmayAnchor_c hAR (show (actVals r).length ≤ 1000000 by omega)
                have hrowA := hAVa.out.row
                change Calls Try.prog 63 #[.agg (ancA ⟨p, ⟨sa, sn, sc⟩, r.churn, d⟩)] wa (fun e w' => e = .returned (.bool (ancMay (ancOf r p d))) ∧ Below wa.heap.size wa w') at HMA
                obtain ⟨am, ham⟩ : ∃ x, x = ancMay (ancOf r p d) := ⟨_, rfl⟩
                rw [← ham] at HMA HP
                replace ham := Lib.hid ham
                clear hAR
                go_wp2_with fail
                refine HMA.mono ?_
                clear HMA
                rintro e wb ⟨rfl, hbb⟩
                have hAVb := Lib.hid (hAVa.out.keep hbb)
                have hTb := Lib.hid (hTa.out.keep hbb)
                have hXb := Lib.hid (hXa.out.keep hbb)
                have hBb := Lib.hid (hBa.out.trans (hbb.mono hBa.out.size))
                clear hbb hAVa hTa hXa hBa hrowA
                cases am
                · have h2 : e9 = 2 := by rw [he9.out, HP.out]; rfl
                  have hv0 := hXb.out.anc.2.1.1
                  rw [ha9.out, HP.out] at hv0
                  replace hv0 : g9.vals.n = 0 := hv0
                  obtain ⟨-, -, c33, -, -, -⟩ := hXb.out.cells
                  obtain ⟨gp, ⟨va, vn, vc⟩, gch9, gde9⟩ := g9
                  simp only at hv0 c33
                  subst hv0 h2
                  dsimp only [Sl.v] at c33
                  go_wp2_with (go_at_call 55; (with_reducible refine (HK _).mono ?_); rintro e W4 ⟨rfl, hb4⟩)
                  go_ret
                  exact ⟨rfl, hBb.out.trans (hb4.mono hBb.out.size)⟩
                have h0 : e9 = 0 := by rw [he9.out, HP.out]; rfl
                have hanc := hXb.out.anc
                have ha : a9 = ancOf r p d := by rw [ha9.out, HP.out]; rfl
                rw [ha] at hanc
                obtain ⟨pr9, -, c33, c34, c35, -⟩ := hXb.out.cells
                have dA := hAVb.out.cell
                have nA := hAVb.out.anc.2.1.1
                obtain ⟨-, -, -, c3, -⟩ := hTb.out.reg.cells
                have hprow := hTb.out.pt
                obtain ⟨gp, ⟨va, vn, vc⟩, gch9, gde9⟩ := g9
                obtain ⟨k1, hvs, k3, k4⟩ := hanc
                have k2 := hvs.1
                change gp = p at k1
                change gch9 = r.churn at k3
                change gde9 = d at k4
                change vn = (actVals r).length at k2
                change sn = (actVals r).length at nA
                subst k1 k2 k3 k4 nA h0
                dsimp only [Sl.v] at c33 dA
                simp only at pr9 c34 c35 c3
                have hvsI := Lib.hid hvs
                clear hvs ha
                have hbz : ∀ x : Int, (x != x) = false := fun x => by simp
                go_upto_region 27 with fail
                have hAVs := Lib.hid hAVb.out.anc.2.1
                have hbr := lt_of_cell c33
                have hbA := lt_of_cell dA
                have hwf := Lib.hid (Below.refl wb.heap.size wb)
                clear pr9 c34 c35 c3 hprow hbz hAVb hTb hXb
                go_loopw [15] (fun i W' => ∃ k : Nat, k ≤ (actVals r).length ∧ i = .int .i64 k ∧ Hid (Below wb.heap.size wb W')) (fun i _ => (actVals r).length - (intOf i).toNat)
                case atStart => exact ⟨0, Nat.zero_le _, rfl, hwf⟩
                case round =>
                  clear hwf
                  obtain ⟨k, hk, rfl, hBc⟩ := hrel
                  have c33r := (hBc.out.cell (p := ⟨p9, 33, none⟩) hbr).trans c33
                  have dAr := (hBc.out.cell (p := ⟨pa, 33, none⟩) hbA).trans dA
                  by_cases hkx : k < (actVals r).length
                  · obtain ⟨b1, o1, e, hb1, hr1⟩ := vals_at hvsI.out (by exact Nat.lt_of_le_of_lt (Nat.zero_le _) hkx)
                    have e1 := congrArg Sl.a e
                    simp only at e1
                    subst e1
                    clear e
                    obtain ⟨b2', o2, e, hb2, hr2⟩ := vals_at hAVs.out (Nat.lt_of_le_of_lt (Nat.zero_le _) hkx)
                    have e1 := congrArg Sl.a e
                    simp only at e1
                    subst e1
                    clear e
                    have q1 := (row?_below _ _ _ hBc.out hb1).trans (hr1 k hkx)
                    have q2 := (row?_below _ _ _ hBc.out hb2).trans (hr2 k hkx)
                    clear hr1 hr2
                    change row? wr b1 (o1 + k * 33) 33 = some (valA ((actVals r)[k])) at q1
                    generalize (actVals r)[k] = vx at *
                    have R1 := fun n => (show (wr.drewN n).cell? ⟨p9, 33, none⟩ = _ from c33r)
                    have R2 := fun n => (show (wr.drewN n).cell? ⟨pa, 33, none⟩ = _ from dAr)
                    have R3 := fun n => (show row? (wr.drewN n) b1 (o1 + k * 33) 33 = _ from q1)
                    have R4 := fun n => (show row? (wr.drewN n) b2' (o2 + k * 33) 33 = _ from q2)
                    have i1 : (k : Int) < ((actVals r).length : Int) := by omega
                    have i0 : (0 : Int) ≤ (k : Int) := by omega
                    have hks := Lib.hid (show k + 1 ≤ (actVals r).length from hkx)
                    have hxx : decide (vx = vx) = true := decide_eq_true rfl
                    go_upto_region 29 with fail
                    go_quiet (fail)
                    go_wp2_with fail
                    go_roundw
                    case rel => exact ⟨k + 1, hks.out, by go_num, Lib.hid (below_drewN hBc.out _)⟩
                    case measure =>
                      have := hks.out
                      simp [intOf]
                      omega
                  · obtain rfl : k = (actVals r).length := by omega
                    have knl : ¬ ((actVals r).length : Int) < ((actVals r).length : Int) := by omega
                    go_wp2_with (go_at_call 55; (with_reducible refine (HK _).mono ?_); rintro e W4 ⟨rfl, hb4⟩)
                    go_ret
                    have hBd := hBb.out.trans (hBc.out.mono hBb.out.size)
                    exact ⟨rfl, hBd.trans (hb4.mono hBd.size)⟩
end Go.Proofs.Ytkocpihfdpahpaa
