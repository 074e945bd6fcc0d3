/-
  The words that the walk over data turns. No condition.
-/
import Derived.Test.YtjdeehcbhpakhaaTy
import Derived.Test.YtjdeehcbhpakhaaL1
namespace Go.Proofs.Ytjdeehcbhpakhaa
open Go.Fw
attribute [go_sem] vcK_eq opsK_eq opsQK_eq opK_eq opQK_eq outK_eq vc_skip vc_region vc_draw vc_seq vc_cond vc_block vc_loop vc_exit vc_ret ops_nil ops_cons ops_guard opsQ_nil opsQ_cons opsQ_guard then_normal then_exit then_ret block_normal block_ret block_exit st_put st_put_none putK_some memK_some stoK_some skipK_eq vcOp vcOpQ guardK_tt guardK_ff guardK_tf guardK_ft guardK_tup condK_tt condK_ff stepP stepPure stepMem stepStore binV unV loadD partD lenD indexAddrD fieldAddrD indexD sliceD bndD cellsD oneD newOb movOb upd setR newsD fillD Value.cells Value.oneCell' st0 St.ev setE envOf noOb guardD dsts List.map_cons List.map_nil List.getElem?_cons_succ List.getElem?_cons_zero List.getElem?_nil if_true if_false Bool.false_eq_true Bool.true_eq_false Bool.not_true Bool.not_false List.getD_cons_zero List.getD_cons_succ List.drop_succ_cons List.drop_zero List.drop_nil List.take_succ_cons List.take_zero List.head?_cons List.length_cons List.length_nil List.nil_append List.cons_append List.append_nil Nat.zero_add Nat.add_zero Option.map_some Option.map_none Option.some.injEq and_true true_and and_self List.toList_toArray Nat.zero_mul List.all_cons List.all_nil Bool.and_true Bool.true_and Bool.and_self List.mem_cons List.not_mem_nil or_false false_or or_self Nat.le_refl decide_true decide_false eq_self nn Int.toNat_natCast List.length_map Int.toNat_zero tf0 tf1 tf2 tf3 tf4 tf5 tf6 tf7 tf8 tf9 tf10 tf11 tf12 tf13 tf14 tf15 tf16 tf17
attribute [go_sem] ints strs bools Core.sl CacheEntry.sl Cache.sl retQ_ret_eq retQ_normal_eq resK_some resD_one resD_two resD_three resD_four resOne
end Go.Proofs.Ytjdeehcbhpakhaa
