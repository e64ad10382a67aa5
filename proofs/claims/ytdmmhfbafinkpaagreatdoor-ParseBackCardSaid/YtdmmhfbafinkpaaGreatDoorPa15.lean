import Derived.Test.YtdmmhfbafinkpaaGreatDoorPa14
import Derived.Test.YtdmmhfbafinkpaaGreatDoorPa4
/- Parse: all contracts of the parser. -/
namespace Go.Proofs.YtdmmhfbafinkpaaGreatDoor
open Go.RowKit Go.Emb

theorem allC (lo pb : Nat) : ∀ m, AllC lo pb m
  | 0 => by
    constructor <;> intros <;> omega
  | m + 1 => by
    have ih := allC lo pb m
    constructor
    · intro w s d h hlo hd hm; exact w_expr (ih.le (by omega)) h hlo hd
    · intro w s v d h hlo hd hv hm
      by_cases h5 : v = 5
      · subst h5
        exact w_binary5 (ih.le (by omega)) h hlo hd
      · exact w_binary (ih.le (by omega)) h hlo hd (by omega)
    · intro w s d h hlo hd hm; exact w_unary (ih.le (by omega)) h hlo hd
    · intro w s d h hlo hd hm; exact w_call (ih.le (by omega)) h hlo hd
    · intro w s d h hlo hd hm; exact w_prim (ih.le (by omega)) h hlo hd
    · intro w s d h hlo hd hm; exact w_some (ih.le (by omega)) h hlo hd
    · intro w s d x h hlo hd hm; exact w_until (ih.le (by omega)) h hlo hd
    · intro w s d cb pv nm at_ h hlo hd hm hcb hb; exact w_body (ih.le (by omega)) h hlo hd hcb hb
    · intro w s d cb nm at_ h hlo hd hm hcb hb; exact w_head (ih.le (by omega)) h hlo hd hcb hb
    · intro w s d h hlo hd hm; exact w_arms (ih.le (by omega)) h hlo hd
    · intro w s d at_ h hlo hd hm; exact w_list (ih.le (by omega)) h hlo hd
end Go.Proofs.YtdmmhfbafinkpaaGreatDoor
