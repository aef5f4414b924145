/- Turned functions, run. No statement is proved here. -/
import Derived.Test.YtjfnncdafiiffaaGreatDoorK3
import Derived.Test.YtjfnncdafiiffaaGreatDoorProg

namespace Go.Proofs.YtjfnncdafiiffaaGreatDoor
open Go Tr

abbrev F.law24_ClientNew : Nat := 3
abbrev F.law24_awake : Nat := 4
abbrev F.client_New : Nat := 5
abbrev F.ref24_May : Nat := 6
abbrev F.ref24_Same : Nat := 7
abbrev F.client_Begin : Nat := 8
abbrev F.client_Tick : Nat := 9
abbrev F.slices_Contains_int : Nat := 10
abbrev F.ballot_New : Nat := 11
abbrev F.slices_Clone_int : Nat := 12
abbrev F.ref18_Masters : Nat := 13
abbrev F.ref16_SameRequest : Nat := 14
abbrev F.ref16_Ints : Nat := 15
abbrev F.ref19_Same : Nat := 16
abbrev F.ref12_Same : Nat := 17
abbrev F.client_own : Nat := 18
abbrev F.wire_Request : Nat := 19
abbrev F.client_request : Nat := 20
abbrev F.client_ask : Nat := 21
abbrev F.slices_Index_int : Nat := 22
abbrev F.ballot_Restore : Nat := 23
abbrev F.ref16_sameOp : Nat := 24
abbrev F.ref16_Confs : Nat := 25
abbrev F.ref04_Same : Nat := 26
abbrev F.ref12_Docs : Nat := 27
abbrev F.ref12_News : Nat := 28
abbrev F.ref08_Same : Nat := 29
abbrev F.client_op : Nat := 30
abbrev F.client_answer : Nat := 31
abbrev F.slices_Clone_Chain : Nat := 32
abbrev F.wire_nested : Nat := 33
abbrev F.wire_encode : Nat := 34
abbrev F.wire_good : Nat := 35
abbrev F.wire_maker_request : Nat := 36
abbrev F.conf_Chain : Nat := 37
abbrev F.ballot_peers : Nat := 38
abbrev F.ballot_records : Nat := 39
abbrev F.ref16_sameConf : Nat := 40
abbrev F.slices_Clone_Doc_Field : Nat := 41
abbrev F.client_docs : Nat := 42
abbrev F.client_news : Nat := 43
abbrev F.slices_Clone_Op : Nat := 44
abbrev F.slices_Clone_Pair : Nat := 45
abbrev F.cell_Encode : Nat := 46
abbrev F.wire_good_1 : Nat := 47
abbrev F.paper_Cell : Nat := 48
abbrev F.cell_List : Nat := 49
abbrev F.cell_Num : Nat := 50
abbrev F.wire_maker_op : Nat := 51
abbrev F.conf_at : Nat := 52
abbrev F.conf_own : Nat := 53
abbrev F.slices_Clone_Log : Nat := 54
abbrev F.slices_Clone_byte : Nat := 55
abbrev F.slices_Clone_Named : Nat := 56
abbrev F.slices_Clone_Change : Nat := 57
abbrev F.cell_Check : Nat := 58
abbrev F.cell_put : Nat := 59
abbrev F.paper_Check : Nat := 60
abbrev F.cell_Text : Nat := 61
abbrev F.paper_value : Nat := 62
abbrev F.wire_truth : Nat := 63
abbrev F.wire_each_Op : Nat := 64
abbrev F.wire_each_Named : Nat := 65
abbrev F.wire_maker_named : Nat := 66
abbrev F.wire_each_Change : Nat := 67
abbrev F.wire_maker_change : Nat := 68
abbrev F.slices_IndexFunc_Chain : Nat := 69
abbrev F.conf_at_1 : Nat := 70
abbrev F.cell_deep : Nat := 71
abbrev F.cell_pure : Nat := 72
abbrev F.cell_count : Nat := 73
abbrev F.cell_number : Nat := 74
abbrev F.paper_Path : Nat := 75
abbrev F.rank_Check : Nat := 76
abbrev F.slices_ContainsFunc_Cell : Nat := 77
abbrev F.cell_pure_1 : Nat := 78
abbrev F.paper_Key : Nat := 79
abbrev F.slices_ContainsFunc_string : Nat := 80
abbrev F.strings_Split : Nat := 81
abbrev F.paper_Path_1 : Nat := 82
abbrev F.rank_Num : Nat := 84
abbrev F.rank_Point : Nat := 85
abbrev F.rank_part : Nat := 86
abbrev F.rank_Text : Nat := 87
abbrev F.slices_IndexFunc_Cell : Nat := 88
abbrev F.slices_IndexFunc_string : Nat := 89
abbrev F.x83 : Nat := 83
abbrev F.x90 : Nat := 90

def hn3 : Hn := ⟨[(6003, 2), (5003, 2)], [], false⟩
def hn4 : Hn := ⟨[(8017, 2), (8012, 2), (8008, 2), (7000, 2), (6000, 2), (2000, 2)], [[(5, (.one ⟨0, .v⟩)), (2, (.one ⟨0, .v⟩)), (4, (.one ⟨0, .v⟩)), (1, (.box [⟨0, .v⟩, ⟨0, .v⟩, ⟨0, .v⟩, ⟨0, .v⟩, ⟨0, .v⟩, ⟨0, .v⟩, ⟨0, .v⟩, ⟨0, .v⟩, ⟨0, .v⟩, ⟨0, .v⟩, ⟨0, .v⟩, ⟨0, .v⟩, ⟨0, .v⟩, ⟨0, .v⟩, ⟨0, .v⟩, ⟨0, .v⟩, ⟨0, .v⟩, ⟨0, .v⟩, ⟨0, .v⟩, ⟨0, .v⟩, ⟨0, .v⟩, ⟨0, .v⟩, ⟨0, .v⟩, ⟨0, .v⟩, ⟨0, .v⟩, ⟨0, .v⟩, ⟨0, .v⟩, ⟨0, .v⟩, ⟨0, .v⟩, ⟨0, .v⟩]))]], false⟩
def hn5 : Hn := ⟨[(6004, 1), (6003, 1), (5002, 1), (5000, 1), (3002, 2), (2001, 1), (2000, 1)], [], false⟩
def hn6 : Hn := ⟨[(8002, 2)], [[(5, (.one ⟨0, .v⟩)), (0, (.one ⟨0, .v⟩)), (1, (.one ⟨0, .v⟩))]], false⟩
def hn7 : Hn := ⟨[(2054, 2), (2052, 2), (2012, 2), (2010, 2), (2005, 2), (2003, 2), (1012, 2), (1010, 2), (1008, 2), (1005, 2), (1003, 2), (1001, 2)], [], false⟩
def hn8 : Hn := ⟨[(10001, 2), (10000, 2), (9000, 2), (8000, 2), (6000, 2), (4000, 2), (3019, 1), (3005, 1), (3004, 2), (2000, 2), (1000, 2)], [], false⟩
def hn9 : Hn := ⟨[(14003, 1), (14001, 1), (14000, 2), (13004, 1), (13001, 2), (13000, 1), (8003, 1), (8001, 1), (8000, 2), (7001, 2), (5014, 1), (5009, 2), (5000, 1), (2000, 75), (1000, 2)], [[(1, (.box [⟨0, .v⟩, ⟨0, .v⟩, ⟨0, .v⟩, ⟨0, .v⟩, ⟨0, .v⟩, ⟨0, .v⟩, ⟨0, .v⟩, ⟨0, .v⟩, ⟨0, .v⟩, ⟨0, .v⟩, ⟨0, .v⟩, ⟨0, .v⟩, ⟨0, .v⟩, ⟨0, .v⟩, ⟨0, .v⟩, ⟨0, .v⟩, ⟨0, .v⟩, ⟨0, .v⟩, ⟨0, .v⟩, ⟨0, .v⟩, ⟨0, .v⟩, ⟨0, .v⟩, ⟨0, .v⟩, ⟨0, .v⟩, ⟨0, .v⟩, ⟨0, .v⟩, ⟨0, .v⟩, ⟨0, .v⟩, ⟨0, .v⟩, ⟨0, .v⟩])), (2, (.box [⟨0, .v⟩, ⟨0, (.own 3 1)⟩, ⟨0, .v⟩, ⟨0, .v⟩, ⟨0, (.own 86 5)⟩, ⟨0, .v⟩, ⟨0, .v⟩, ⟨0, .v⟩, ⟨0, .v⟩, ⟨0, .v⟩, ⟨0, .v⟩, ⟨0, (.own 107 6)⟩, ⟨0, (.own 107 6)⟩, ⟨0, .v⟩, ⟨0, .v⟩, ⟨0, .v⟩, ⟨0, (.own 33 11)⟩, ⟨0, (.own 109 2)⟩, ⟨0, (.own 111 4)⟩, ⟨0, .v⟩, ⟨0, .v⟩, ⟨0, .v⟩, ⟨0, .v⟩, ⟨0, .v⟩, ⟨0, (.own 107 6)⟩, ⟨0, (.own 109 2)⟩, ⟨0, (.own 111 4)⟩, ⟨0, .v⟩, ⟨0, .v⟩, ⟨0, (.own 113 2)⟩])), (4, (.one ⟨0, (.own 74 42)⟩))], [(1, (.box [⟨0, .v⟩, ⟨0, .v⟩, ⟨0, .v⟩, ⟨0, .v⟩, ⟨0, .v⟩, ⟨0, .v⟩, ⟨0, .v⟩, ⟨0, .v⟩, ⟨0, .v⟩, ⟨0, .v⟩, ⟨0, .v⟩, ⟨0, .v⟩, ⟨0, .v⟩, ⟨0, .v⟩, ⟨0, .v⟩, ⟨0, .v⟩, ⟨0, .v⟩, ⟨0, .v⟩, ⟨0, .v⟩, ⟨0, .v⟩, ⟨0, .v⟩, ⟨0, .v⟩, ⟨0, .v⟩, ⟨0, .v⟩, ⟨0, .v⟩, ⟨0, .v⟩, ⟨0, .v⟩, ⟨0, .v⟩, ⟨0, .v⟩, ⟨0, .v⟩])), (2, (.box [⟨0, .v⟩, ⟨0, (.own 3 1)⟩, ⟨0, .v⟩, ⟨0, .v⟩, ⟨0, (.own 86 5)⟩, ⟨0, .v⟩, ⟨0, .v⟩, ⟨0, .v⟩, ⟨0, .v⟩, ⟨0, .v⟩, ⟨0, .v⟩, ⟨0, (.own 107 6)⟩, ⟨0, (.own 107 6)⟩, ⟨0, .v⟩, ⟨0, .v⟩, ⟨0, .v⟩, ⟨0, (.own 33 11)⟩, ⟨0, (.own 109 2)⟩, ⟨0, (.own 111 4)⟩, ⟨0, .v⟩, ⟨0, .v⟩, ⟨0, .v⟩, ⟨0, .v⟩, ⟨0, .v⟩, ⟨0, (.own 107 6)⟩, ⟨0, (.own 109 2)⟩, ⟨0, (.own 111 4)⟩, ⟨0, .v⟩, ⟨0, .v⟩, ⟨0, (.own 113 2)⟩])), (4, (.one ⟨0, (.own 74 42)⟩))]], false⟩
def hn10 : Hn := ⟨[], [], false⟩
def hn11 : Hn := ⟨[], [], false⟩
def hn12 : Hn := ⟨[(3003, 1)], [], false⟩
def hn13 : Hn := ⟨[], [[(6, (.one ⟨0, .v⟩)), (5, (.one ⟨0, .v⟩)), (0, (.one ⟨0, .v⟩)), (1, (.one ⟨0, .v⟩))]], false⟩
def hn14 : Hn := ⟨[(1016, 2), (1014, 2)], [], false⟩
def hn15 : Hn := ⟨[], [[(5, (.one ⟨0, .v⟩)), (1, (.one ⟨0, .v⟩)), (0, (.one ⟨0, .v⟩))]], false⟩
def hn16 : Hn := ⟨[(1001, 2), (1000, 2)], [], false⟩
def hn17 : Hn := ⟨[(1051, 2), (1049, 2), (1044, 2), (1042, 2), (1037, 2), (1035, 2), (1030, 2), (1028, 2)], [], false⟩
def hn18 : Hn := ⟨[(9000, 2), (7005, 2), (6002, 2), (3002, 2), (2004, 2), (2001, 2), (1001, 2)], [[(27, (.one ⟨0, .v⟩)), (26, (.one ⟨0, .v⟩)), (25, (.one ⟨0, .v⟩)), (1, (.box [⟨0, .v⟩, ⟨0, .v⟩, ⟨0, .v⟩, ⟨0, .v⟩, ⟨0, .v⟩, ⟨0, .v⟩, ⟨0, .v⟩, ⟨0, .v⟩, ⟨0, .v⟩, ⟨0, .v⟩, ⟨0, .v⟩, ⟨0, .v⟩, ⟨0, .v⟩, ⟨0, .v⟩, ⟨0, .v⟩, ⟨0, .v⟩, ⟨0, .v⟩, ⟨0, .v⟩, ⟨0, .v⟩, ⟨0, .v⟩, ⟨0, .v⟩, ⟨0, .v⟩, ⟨0, .v⟩, ⟨0, .v⟩, ⟨0, .v⟩, ⟨0, .v⟩, ⟨0, .v⟩, ⟨0, .v⟩, ⟨0, .v⟩, ⟨0, .v⟩])), (2, (.box [⟨0, .v⟩, ⟨0, (.own 3 1)⟩, ⟨0, .v⟩, ⟨0, .v⟩, ⟨0, (.own 86 5)⟩, ⟨0, .v⟩, ⟨0, .v⟩, ⟨0, .v⟩, ⟨0, .v⟩, ⟨0, .v⟩, ⟨0, .v⟩, ⟨0, (.own 107 6)⟩, ⟨0, (.own 107 6)⟩, ⟨0, .v⟩, ⟨0, .v⟩, ⟨0, .v⟩, ⟨0, (.own 33 11)⟩, ⟨0, (.own 109 2)⟩, ⟨0, (.own 111 4)⟩, ⟨0, .v⟩, ⟨0, .v⟩, ⟨0, .v⟩, ⟨0, .v⟩, ⟨0, .v⟩, ⟨0, (.own 107 6)⟩, ⟨0, (.own 109 2)⟩, ⟨0, (.own 111 4)⟩, ⟨0, .v⟩, ⟨0, .v⟩, ⟨0, (.own 113 2)⟩]))]], false⟩
def hn19 : Hn := ⟨[(3001, 2), (1001, 2)], [], false⟩
def hn20 : Hn := ⟨[(1007, 1), (1006, 1), (1005, 2), (1003, 2), (1001, 2)], [], false⟩
def hn21 : Hn := ⟨[(4012, 1), (4006, 2), (4005, 2), (4003, 2), (1003, 2), (1001, 2)], [], false⟩
def hn22 : Hn := ⟨[], [[(8, (.one ⟨0, .v⟩)), (7, (.one ⟨0, .v⟩)), (0, (.one ⟨0, .v⟩)), (1, (.one ⟨0, .v⟩))]], false⟩
def hn23 : Hn := ⟨[(9008, 1), (9007, 1), (8001, 1), (8000, 1), (4002, 2)], [[(44, (.one ⟨0, .v⟩)), (43, (.one ⟨0, .v⟩)), (42, (.one ⟨0, .v⟩)), (2, (.one ⟨0, .v⟩)), (4, (.one ⟨0, .v⟩)), (12, (.one ⟨0, .v⟩)), (0, (.one ⟨0, .v⟩)), (3, (.one ⟨0, .v⟩)), (1, (.one ⟨0, .v⟩)), (10, (.box [⟨0, .v⟩, ⟨0, (.own 3 1)⟩, ⟨0, .v⟩, ⟨0, .v⟩, ⟨0, (.own 100 2)⟩, ⟨0, .v⟩, ⟨0, .v⟩, ⟨0, .v⟩, ⟨0, (.own 3 1)⟩, ⟨0, .v⟩, ⟨0, (.own 3 1)⟩, ⟨0, (.own 3 1)⟩]))]], false⟩
def hn24 : Hn := ⟨[(8023, 2), (8021, 2), (8016, 2), (8014, 2), (8009, 2), (8007, 2), (8003, 2), (8001, 2), (6009, 2), (6004, 2)], [[(5, (.one ⟨0, .v⟩)), (3, (.box [⟨0, .v⟩, ⟨0, .v⟩, ⟨0, .v⟩, ⟨0, .v⟩, ⟨0, .v⟩, ⟨0, .v⟩, ⟨0, .v⟩, ⟨0, .v⟩, ⟨0, .v⟩, ⟨0, .v⟩, ⟨0, .v⟩])), (2, (.box [⟨0, .v⟩, ⟨0, .v⟩, ⟨0, .v⟩, ⟨0, .v⟩, ⟨0, .v⟩, ⟨0, .v⟩, ⟨0, .v⟩, ⟨0, .v⟩, ⟨0, .v⟩, ⟨0, .v⟩, ⟨0, .v⟩]))]], false⟩
def hn25 : Hn := ⟨[(1001, 2), (1000, 2)], [], false⟩
def hn26 : Hn := ⟨[], [[(5, (.one ⟨0, .v⟩)), (1, (.one ⟨0, .v⟩)), (0, (.one ⟨0, .v⟩))]], false⟩
def hn27 : Hn := ⟨[(6021, 2), (6016, 2)], [[(5, (.one ⟨0, .v⟩)), (1, (.one ⟨0, .v⟩)), (0, (.one ⟨0, .v⟩))]], false⟩
def hn28 : Hn := ⟨[(6047, 2), (6042, 2)], [[(5, (.one ⟨0, .v⟩)), (1, (.one ⟨0, .v⟩)), (0, (.one ⟨0, .v⟩))]], false⟩
def hn29 : Hn := ⟨[], [[(5, (.one ⟨0, .v⟩)), (1, (.one ⟨0, .v⟩)), (0, (.one ⟨0, .v⟩))]], false⟩
def hn30 : Hn := ⟨[(7000, 2), (5003, 2), (4002, 2), (1013, 2), (1010, 2), (1007, 2), (1004, 2), (1001, 2)], [[(28, (.one ⟨0, .v⟩)), (27, (.one ⟨0, .v⟩)), (26, (.one ⟨0, .v⟩)), (1, (.box [⟨0, .v⟩, ⟨0, .v⟩, ⟨0, .v⟩, ⟨0, .v⟩, ⟨0, .v⟩, ⟨0, .v⟩, ⟨0, .v⟩, ⟨0, .v⟩, ⟨0, .v⟩, ⟨0, .v⟩, ⟨0, .v⟩])), (2, (.box [⟨0, .v⟩, ⟨0, .v⟩, ⟨0, .v⟩, ⟨0, (.own 107 6)⟩, ⟨0, (.own 107 6)⟩, ⟨0, .v⟩, ⟨0, .v⟩, ⟨0, .v⟩, ⟨0, (.own 33 11)⟩, ⟨0, (.own 109 2)⟩, ⟨0, (.own 111 4)⟩]))]], false⟩
def hn31 : Hn := ⟨[(2000, 2), (1010, 2), (1007, 2), (1004, 2), (1001, 2)], [], false⟩
def hn32 : Hn := ⟨[(3003, 1)], [], false⟩
def hn33 : Hn := ⟨[(3001, 2)], [[(8, (.one ⟨0, .v⟩)), (7, (.one ⟨0, .v⟩)), (6, (.one ⟨0, .v⟩))]], false⟩
def hn34 : Hn := ⟨[(1000, 2)], [], false⟩
def hn35 : Hn := ⟨[(1001, 1), (1000, 1)], [], false⟩
def hn36 : Hn := ⟨[(1008, 2), (1006, 2), (1004, 2), (1001, 2)], [], false⟩
def hn37 : Hn := ⟨[(4005, 2), (4000, 2), (3001, 1), (3000, 1), (1000, 2)], [], false⟩
def hn38 : Hn := ⟨[(3002, 2)], [[(9, (.one ⟨0, .v⟩)), (8, (.one ⟨0, .v⟩)), (7, (.one ⟨0, .v⟩)), (1, (.one ⟨0, .v⟩)), (0, (.one ⟨0, .v⟩))]], false⟩
def hn39 : Hn := ⟨[(5003, 2), (4002, 2)], [[(9, (.one ⟨0, .v⟩)), (8, (.one ⟨0, .v⟩)), (7, (.one ⟨0, .v⟩)), (0, (.one ⟨0, .v⟩))]], false⟩
def hn40 : Hn := ⟨[(7030, 2), (7028, 2), (6009, 2), (6004, 2)], [[(5, (.one ⟨0, .v⟩)), (3, (.box [⟨0, .v⟩, ⟨0, .v⟩, ⟨0, .v⟩])), (2, (.box [⟨0, .v⟩, ⟨0, .v⟩, ⟨0, .v⟩]))]], false⟩
def hn41 : Hn := ⟨[(3003, 1)], [], false⟩
def hn42 : Hn := ⟨[(5003, 2), (4002, 2)], [[(9, (.one ⟨0, .v⟩)), (8, (.one ⟨0, .v⟩)), (7, (.one ⟨0, .v⟩)), (0, (.one ⟨0, .v⟩))]], false⟩
def hn43 : Hn := ⟨[(5003, 2), (4002, 2)], [[(9, (.one ⟨0, .v⟩)), (8, (.one ⟨0, .v⟩)), (7, (.one ⟨0, .v⟩)), (0, (.one ⟨0, .v⟩))]], false⟩
def hn44 : Hn := ⟨[(3003, 1)], [], false⟩
def hn45 : Hn := ⟨[(3003, 1)], [], false⟩
def hn46 : Hn := ⟨[(7001, 1), (7000, 1), (4002, 1), (4000, 2), (1000, 2)], [], false⟩
def hn47 : Hn := ⟨[(2000, 2)], [], false⟩
def hn48 : Hn := ⟨[(8011, 1), (8005, 2), (8002, 2), (8000, 1), (7001, 2), (4000, 92), (3002, 1), (3000, 1)], [[(16, (.one ⟨0, .v⟩)), (15, (.one ⟨0, .v⟩)), (5, (.one ⟨0, (.own 91 4)⟩)), (14, (.one ⟨0, .v⟩)), (2, (.box [⟨0, .v⟩, ⟨0, .v⟩, ⟨0, .v⟩, ⟨0, (.own 91 4)⟩]))]], false⟩
def hn49 : Hn := ⟨[(1004, 1), (1003, 1)], [], false⟩
def hn50 : Hn := ⟨[(1002, 1), (1001, 1)], [], false⟩
def hn51 : Hn := ⟨[(1040, 2), (1039, 2), (1035, 2), (1034, 2), (1030, 2), (1029, 2), (1026, 2), (1023, 2), (1020, 2), (1017, 2), (1015, 2), (1012, 2), (1010, 2), (1007, 2), (1004, 2), (1001, 2)], [], false⟩
def hn52 : Hn := ⟨[(1001, 2)], [], false⟩
def hn53 : Hn := ⟨[(7000, 2), (5004, 2), (4002, 2), (1001, 2)], [[(12, (.one ⟨0, .v⟩)), (11, (.one ⟨0, .v⟩)), (10, (.one ⟨0, .v⟩)), (1, (.box [⟨0, .v⟩, ⟨0, .v⟩, ⟨0, .v⟩])), (2, (.box [⟨0, .v⟩, ⟨0, .v⟩, ⟨0, (.own 86 5)⟩]))]], false⟩
def hn54 : Hn := ⟨[(3003, 1)], [], false⟩
def hn55 : Hn := ⟨[(3003, 1)], [], false⟩
def hn56 : Hn := ⟨[(3003, 1)], [], false⟩
def hn57 : Hn := ⟨[(3003, 1)], [], false⟩
def hn58 : Hn := ⟨[(5000, 2), (3000, 2), (1000, 2)], [], false⟩
def hn59 : Hn := ⟨[(20001, 1), (20000, 1), (19000, 6), (9000, 6), (7003, 1), (7001, 2), (7000, 1), (6001, 2), (3005, 1), (3000, 1), (17008, 1), (17006, 2), (17000, 1), (15003, 1), (15000, 1), (1006, 1), (1000, 1), (1, 6)], [[(0, (.one ⟨0, (.own 5 1)⟩)), (5, (.one ⟨0, .v⟩))], [(24, (.one ⟨0, .v⟩)), (23, (.one ⟨0, .v⟩)), (0, (.one ⟨0, (.own 5 1)⟩)), (22, (.one ⟨0, .v⟩))], [(0, (.one ⟨0, (.own 5 1)⟩))]], false⟩
def hn60 : Hn := ⟨[(4010, 2), (4004, 2), (3002, 2)], [[(7, (.one ⟨0, .v⟩)), (6, (.one ⟨0, .v⟩)), (5, (.one ⟨0, .v⟩)), (0, (.one ⟨0, .v⟩))]], false⟩
def hn61 : Hn := ⟨[(1002, 1), (1001, 1)], [], false⟩
def hn62 : Hn := ⟨[(6006, 2), (6002, 2), (5001, 2), (3001, 2)], [], false⟩
def hn63 : Hn := ⟨[], [], false⟩
def hn64 : Hn := ⟨[(5006, 1), (5002, 2), (5000, 1), (4001, 2), (1000, 92)], [[(10, (.one ⟨0, .v⟩)), (9, (.one ⟨0, .v⟩)), (1, (.one ⟨0, .v⟩)), (5, (.one ⟨0, (.own 91 4)⟩)), (8, (.one ⟨0, .v⟩)), (4, (.box [⟨0, .v⟩, ⟨0, .v⟩, ⟨0, .v⟩, ⟨0, (.own 91 4)⟩]))]], false⟩
def hn65 : Hn := ⟨[(5006, 1), (5002, 2), (5000, 1), (4001, 2), (1000, 92)], [[(10, (.one ⟨0, .v⟩)), (9, (.one ⟨0, .v⟩)), (1, (.one ⟨0, .v⟩)), (5, (.one ⟨0, (.own 91 4)⟩)), (8, (.one ⟨0, .v⟩)), (4, (.box [⟨0, .v⟩, ⟨0, .v⟩, ⟨0, .v⟩, ⟨0, (.own 91 4)⟩]))]], false⟩
def hn66 : Hn := ⟨[(1006, 2), (1004, 2), (1001, 2)], [], false⟩
def hn67 : Hn := ⟨[(5006, 1), (5002, 2), (5000, 1), (4001, 2), (1000, 92)], [[(10, (.one ⟨0, .v⟩)), (9, (.one ⟨0, .v⟩)), (1, (.one ⟨0, .v⟩)), (5, (.one ⟨0, (.own 91 4)⟩)), (8, (.one ⟨0, .v⟩)), (4, (.box [⟨0, .v⟩, ⟨0, .v⟩, ⟨0, .v⟩, ⟨0, (.own 91 4)⟩]))]], false⟩
def hn68 : Hn := ⟨[(1012, 2), (1010, 2), (1007, 2), (1004, 2), (1001, 2)], [], false⟩
def hn69 : Hn := ⟨[(4004, 2)], [[(8, (.one ⟨0, .v⟩)), (7, (.one ⟨0, .v⟩)), (0, (.one ⟨0, .v⟩)), (1, (.one ⟨0, .v⟩))]], false⟩
def hn70 : Hn := ⟨[], [], false⟩
def hn71 : Hn := ⟨[(6000, 2), (5001, 2)], [[(12, (.one ⟨0, .v⟩)), (11, (.one ⟨0, .v⟩)), (1, (.one ⟨0, .v⟩)), (10, (.one ⟨0, .v⟩))]], false⟩
def hn72 : Hn := ⟨[(7010, 2)], [], false⟩
def hn73 : Hn := ⟨[(9000, 2), (6001, 2)], [[(16, (.one ⟨0, .v⟩)), (15, (.one ⟨0, .v⟩)), (1, (.one ⟨0, .v⟩)), (14, (.one ⟨0, .v⟩))]], false⟩
def hn74 : Hn := ⟨[(3005, 1), (3000, 1), (2008, 1), (2000, 1), (0, 6)], [[(1, (.one ⟨0, .v⟩)), (0, (.one ⟨0, (.own 5 1)⟩))]], false⟩
def hn75 : Hn := ⟨[], [], false⟩
def hn76 : Hn := ⟨[(8002, 2), (6018, 2), (6012, 2), (6006, 2), (6003, 2), (4002, 2)], [[(3, (.one ⟨0, .v⟩))]], false⟩
def hn77 : Hn := ⟨[], [], false⟩
def hn78 : Hn := ⟨[(1000, 2)], [], false⟩
def hn79 : Hn := ⟨[], [], false⟩
def hn80 : Hn := ⟨[], [], false⟩
def hn81 : Hn := ⟨[], [], false⟩
def hn82 : Hn := ⟨[], [], false⟩
def hn84 : Hn := ⟨[(1002, 1), (1001, 1)], [], false⟩
def hn85 : Hn := ⟨[(1004, 1), (1003, 1)], [], false⟩
def hn86 : Hn := ⟨[], [], false⟩
def hn87 : Hn := ⟨[(1002, 1), (1001, 1)], [], false⟩
def hn88 : Hn := ⟨[(4004, 2)], [[(8, (.one ⟨0, .v⟩)), (7, (.one ⟨0, .v⟩)), (0, (.one ⟨0, .v⟩)), (1, (.one ⟨0, .v⟩))]], false⟩
def hn89 : Hn := ⟨[(4004, 2)], [[(8, (.one ⟨0, .v⟩)), (7, (.one ⟨0, .v⟩)), (0, (.one ⟨0, .v⟩)), (1, (.one ⟨0, .v⟩))]], false⟩
def tb : Tb := { l := [3, 4, 5, 6, 7, 8, 9, 10, 11, 12, 13, 14, 15, 16, 17, 18, 19, 20, 21, 22, 23, 24, 25, 26, 27, 28, 29, 30, 31, 32, 33, 34, 35, 36, 37, 38, 39, 40, 41, 42, 43, 44, 45, 46, 47, 48, 49, 50, 51, 52, 53, 54, 55, 56, 57, 58, 59, 60, 61, 62, 63, 64, 65, 66, 67, 68, 69, 70, 71, 72, 73, 74, 75, 76, 77, 78, 79, 80, 81, 82, 84, 85, 86, 87, 88, 89, 83, 90], ov := [(59, ⟨0, [.own 5 1, .v], [.own 5 1]⟩), (74, ⟨0, [.own 5 1, .v], [.own 5 1]⟩)], hs := [(3, hn3), (4, hn4), (5, hn5), (6, hn6), (7, hn7), (8, hn8), (9, hn9), (10, hn10), (11, hn11), (12, hn12), (13, hn13), (14, hn14), (15, hn15), (16, hn16), (17, hn17), (18, hn18), (19, hn19), (20, hn20), (21, hn21), (22, hn22), (23, hn23), (24, hn24), (25, hn25), (26, hn26), (27, hn27), (28, hn28), (29, hn29), (30, hn30), (31, hn31), (32, hn32), (33, hn33), (34, hn34), (35, hn35), (36, hn36), (37, hn37), (38, hn38), (39, hn39), (40, hn40), (41, hn41), (42, hn42), (43, hn43), (44, hn44), (45, hn45), (46, hn46), (47, hn47), (48, hn48), (49, hn49), (50, hn50), (51, hn51), (52, hn52), (53, hn53), (54, hn54), (55, hn55), (56, hn56), (57, hn57), (58, hn58), (59, hn59), (60, hn60), (61, hn61), (62, hn62), (63, hn63), (64, hn64), (65, hn65), (66, hn66), (67, hn67), (68, hn68), (69, hn69), (70, hn70), (71, hn71), (72, hn72), (73, hn73), (74, hn74), (75, hn75), (76, hn76), (77, hn77), (78, hn78), (79, hn79), (80, hn80), (81, hn81), (82, hn82), (84, hn84), (85, hn85), (86, hn86), (87, hn87), (88, hn88), (89, hn89)] }
noncomputable abbrev SX : Fns := Sl (pgOf Tryz.prog tb)
theorem chk : pgChk Tryz.prog tb = true := by kernel_rfl
theorem pg : PgOk Tryz.prog (sigL Tryz.prog tb.l tb.ov) (pgOf Tryz.prog tb) := pgOk (by kernel_rfl) chk
end Go.Proofs.YtjfnncdafiiffaaGreatDoor

namespace Go.Proofs.YtjfnncdafiiffaaGreatDoor
open Go Tr

noncomputable def law24_ClientNew (S : Fns) (_L : LoopOp) (a0 : AV) (a1 : AV) : Option AV :=
    (A.len false a1).bind fun x1 => (A.bin .gtr x1 (.int .i64 20)).bind fun x2 => (A.asB x2).bind fun t3 => if t3 then
    ((S.f F.law24_awake []).bind fun x4 => some x4) else
    (S.f F.client_New [a0, a1]).bind fun x5 => (A.ext 0 x5).bind fun x6 => (A.ext 1 x5).bind fun x7 => let _m8 : List AV := [(.int .i64 0), .nil, (.int .i64 0), (.int .i64 0), .nil, (.int .i64 0), (.bool false), (.int .i64 0), (.int .i64 0), (.str []), (.str []), .nil, .nil, (.bool false), (.int .i64 0), (.int .i64 0), .nil, .nil, .nil, (.int .i64 0), (.int .i64 0), (.bool false), (.int .i64 0), (.bool false), .nil, .nil, .nil, (.int .i64 0), (.int .i64 0), .nil]; (A.csn true 30 x6).bind fun m9 => (S.f F.ref24_May [a0, a1]).bind fun x10 => (A.un .not x10).bind fun x11 => (A.asB x11).bind fun t12 => if t12 then
    ((A.bin .eql x7 (.int .i64 1)).bind fun x13 => (A.isB true x13).bind fun t14 => (if t14 then (A.bld [(.int .i64 0), .nil, (.int .i64 0), (.int .i64 0), .nil, (.int .i64 0), (.bool false), (.int .i64 0), (.int .i64 0), (.str []), (.str []), .nil, .nil, (.bool false), (.int .i64 0), (.int .i64 0), .nil, .nil, .nil, (.int .i64 0), (.int .i64 0), (.bool false), (.int .i64 0), (.bool false), .nil, .nil, .nil, (.int .i64 0), (.int .i64 0), .nil] []).bind fun x15 => (S.f F.ref24_Same [(.agg m9), x15]).bind fun x16 => some x16 else some .undef).bind fun o17 =>
    (A.pick x13 o17 (.bool false)).bind fun x18 => (A.isB true x18).bind fun t19 => (if t19 then (S.f F.law24_awake []).bind fun x20 => some x20 else some .undef).bind fun o21 =>
    (A.pick x18 o21 (.bool false)).bind fun x22 => some x22) else
    (A.bin .eql x7 (.int .i64 0)).bind fun x23 => (A.isB true x23).bind fun t24 => (if t24 then (A.bld [(.int .i64 0), .nil, (.int .i64 0), (.int .i64 0), .nil, (.int .i64 0), (.bool false), (.int .i64 0), (.int .i64 0), (.str []), (.str []), .nil, .nil, (.bool false), (.int .i64 0), (.int .i64 0), .nil, .nil, .nil, (.int .i64 0), (.int .i64 0), (.bool false), (.int .i64 0), (.bool false), .nil, .nil, .nil, (.int .i64 0), (.int .i64 0), .nil] [(0, false, 1, a0), (1, false, 1, a1)]).bind fun x25 => (S.f F.ref24_Same [(.agg m9), x25]).bind fun x26 => some x26 else some .undef).bind fun o27 =>
    (A.pick x23 o27 (.bool false)).bind fun x28 => (A.isB true x28).bind fun t29 => (if t29 then (S.f F.law24_awake []).bind fun x30 => some x30 else some .undef).bind fun o31 =>
    (A.pick x28 o31 (.bool false)).bind fun x32 => some x32
theorem law24_ClientNew.le : LeF Tryz.prog tb F.law24_ClientNew (ap2 law24_ClientNew) := le2 (fun S L a0 a1 => by kernel_rfl) (by kernel_rfl)
theorem law24_ClientNew.st {a0 a1 r : AV} (h : law24_ClientNew SX loopLim a0 a1 = some r) : SX.f F.law24_ClientNew [a0, a1] = some r := st1 law24_ClientNew.le h

noncomputable def law24_awake.l1b (S : Fns) (_L : LoopOp) (self : List (List AV) → Option AV) (x5_ : AV) (x2_ : AV) (x4_ : AV) (m1_ : List AV) : Option AV :=
    (A.bin .lss x5_ (.int .i64 79)).bind fun x13 => (A.asB x13).bind fun t14 => if t14 then
    ((S.f F.client_Tick [(.agg m1_)]).bind fun x15 => (A.ext 0 x15).bind fun x16 => (A.ext 1 x15).bind fun _x17 => (A.csn true 30 x16).bind fun m18 => (A.bin .add x5_ (.int .i64 1)).bind fun x19 => self [[x19], [x2_], [x4_], m18]) else
    (S.f F.client_Tick [(.agg m1_)]).bind fun x20 => (A.ext 0 x20).bind fun x21 => (A.ext 1 x20).bind fun _x22 => let _m23 : List AV := [(.int .i64 0), .nil, (.int .i64 0), (.int .i64 0), .nil, (.int .i64 0), (.bool false), (.int .i64 0), (.int .i64 0), (.str []), (.str []), .nil, .nil, (.bool false), (.int .i64 0), (.int .i64 0), .nil, .nil, .nil, (.int .i64 0), (.int .i64 0), (.bool false), (.int .i64 0), (.bool false), .nil, .nil, .nil, (.int .i64 0), (.int .i64 0), .nil]; (A.csn true 30 x21).bind fun m24 => (A.bin .eql x2_ (.int .i64 0)).bind fun x25 => (A.isB true x25).bind fun t26 => (if t26 then (A.bin .eql x4_ (.int .i64 0)).bind fun x27 => some x27 else some .undef).bind fun o28 =>
    (A.pick x25 o28 (.bool false)).bind fun x29 => (A.isB true x29).bind fun t30 => (if t30 then (m1_[6]?).bind fun x31 => some x31 else some .undef).bind fun o32 =>
    (A.pick x29 o32 (.bool false)).bind fun x33 => (A.isB true x33).bind fun t34 => (if t34 then (m24[6]?).bind fun x35 => (A.un .not x35).bind fun x36 => some x36 else some .undef).bind fun o37 =>
    (A.pick x33 o37 (.bool false)).bind fun x38 => (A.isB true x38).bind fun t39 => (if t39 then (m24[21]?).bind fun x40 => (A.un .not x40).bind fun x41 => some x41 else some .undef).bind fun o42 =>
    (A.pick x38 o42 (.bool false)).bind fun x43 => some x43
noncomputable def law24_awake.l1 (S : Fns) (L : LoopOp) (self : List (List AV) → Option AV) : List (List AV) → Option AV := fun vs => law24_awake.l1b S L self ((vs.headD []).headD .junk) ((vs.tail.headD []).headD .junk) ((vs.tail.tail.headD []).headD .junk) (vs.tail.tail.tail.headD [])
noncomputable def law24_awake (S : Fns) (L : LoopOp)  : Option AV :=
    (A.mksl 1 [(.int .i64 101)]).bind fun x1 => (S.f F.client_New [(.int .i64 201), x1]).bind fun x2 => (A.ext 0 x2).bind fun x3 => (A.ext 1 x2).bind fun x4 => let _m5 : List AV := [(.int .i64 0), .nil, (.int .i64 0), (.int .i64 0), .nil, (.int .i64 0), (.bool false), (.int .i64 0), (.int .i64 0), (.str []), (.str []), .nil, .nil, (.bool false), (.int .i64 0), (.int .i64 0), .nil, .nil, .nil, (.int .i64 0), (.int .i64 0), (.bool false), (.int .i64 0), (.bool false), .nil, .nil, .nil, (.int .i64 0), (.int .i64 0), .nil]; (A.csn true 30 x3).bind fun m6 => (A.bld [(.int .i64 0), (.str []), (.str []), .nil, .nil, (.bool false), (.int .i64 0), (.int .i64 0), .nil, .nil, .nil] [(0, false, 1, (.int .i64 4)), (1, false, 1, (.str [120]))]).bind fun x7 => (S.f F.client_Begin [(.agg m6), (.int .i64 1), x7]).bind fun x8 => (A.ext 0 x8).bind fun x9 => (A.ext 1 x8).bind fun _x10 => (A.ext 2 x8).bind fun x11 => (A.csn true 30 x9).bind fun m12 => L (law24_awake.l1 S L) [[(.int .i64 0)], [x4], [x11], m12]
theorem law24_awake.le : LeF Tryz.prog tb F.law24_awake (ap0 law24_awake) := le0 (fun S L => by kernel_rfl) (by kernel_rfl)
theorem law24_awake.st {r : AV} (h : law24_awake SX loopLim = some r) : SX.f F.law24_awake [] = some r := st1 law24_awake.le h

noncomputable def client_New (S : Fns) (_L : LoopOp) (a0 : AV) (a1 : AV) : Option AV :=
    let _m1 : List AV := [(.int .i64 0), .nil, (.int .i64 0), (.int .i64 0), .nil, (.int .i64 0), (.bool false), (.int .i64 0), (.int .i64 0), (.str []), (.str []), .nil, .nil, (.bool false), (.int .i64 0), (.int .i64 0), .nil, .nil, .nil, (.int .i64 0), (.int .i64 0), (.bool false), (.int .i64 0), (.bool false), .nil, .nil, .nil, (.int .i64 0), (.int .i64 0), .nil]; (A.bin .lss a0 (.int .i64 201)).bind fun x2 => (A.isB false x2).bind fun t3 => (if t3 then (A.bin .gtr a0 (.int .i64 999)).bind fun x4 => some x4 else some .undef).bind fun o5 =>
    (A.pick x2 (.bool true) o5).bind fun x6 => (A.isB false x6).bind fun t7 => (if t7 then (A.len false a1).bind fun x8 => (A.bin .eql x8 (.int .i64 0)).bind fun x9 => some x9 else some .undef).bind fun o10 =>
    (A.pick x6 (.bool true) o10).bind fun x11 => (A.isB false x11).bind fun t12 => (if t12 then (S.f F.slices_Contains_int [a1, a0]).bind fun x13 => some x13 else some .undef).bind fun o14 =>
    (A.pick x11 (.bool true) o14).bind fun x15 => (A.asB x15).bind fun t16 => if t16 then
    ((A.bld [(.int .i64 0), .nil, (.int .i64 0), (.int .i64 0), .nil, (.int .i64 0), (.bool false), (.int .i64 0), (.int .i64 0), (.str []), (.str []), .nil, .nil, (.bool false), (.int .i64 0), (.int .i64 0), .nil, .nil, .nil, (.int .i64 0), (.int .i64 0), (.bool false), (.int .i64 0), (.bool false), .nil, .nil, .nil, (.int .i64 0), (.int .i64 0), .nil] []).bind fun x17 => (A.cs true x17).bind fun m18 => some (.tup [(.agg m18), (.int .i64 1)])) else
    (A.elp 1 a1 (.int .i64 0)).bind fun x19 => (A.ld .junk false 1 x19).bind fun x20 => (S.f F.ballot_New [x20, a1]).bind fun x21 => (A.ext 0 x21).bind fun x22 => (A.ext 1 x21).bind fun x23 => let _m24 : List AV := [(.int .i64 0), .nil, (.int .i64 0), (.int .i64 0), .nil, (.int .i64 0), (.int .i64 0), (.int .i64 0), .nil, (.int .i64 0), .nil, .nil]; (A.csn true 12 x22).bind fun _m25 => (A.bin .neq x23 (.int .i64 0)).bind fun x26 => (A.asB x26).bind fun t27 => if t27 then
    ((A.bld [(.int .i64 0), .nil, (.int .i64 0), (.int .i64 0), .nil, (.int .i64 0), (.bool false), (.int .i64 0), (.int .i64 0), (.str []), (.str []), .nil, .nil, (.bool false), (.int .i64 0), (.int .i64 0), .nil, .nil, .nil, (.int .i64 0), (.int .i64 0), (.bool false), (.int .i64 0), (.bool false), .nil, .nil, .nil, (.int .i64 0), (.int .i64 0), .nil] []).bind fun x28 => (A.cs true x28).bind fun m29 => some (.tup [(.agg m29), x23])) else
    (S.f F.slices_Clone_int [a1]).bind fun x30 => (A.bld [(.int .i64 0), .nil, (.int .i64 0), (.int .i64 0), .nil, (.int .i64 0), (.bool false), (.int .i64 0), (.int .i64 0), (.str []), (.str []), .nil, .nil, (.bool false), (.int .i64 0), (.int .i64 0), .nil, .nil, .nil, (.int .i64 0), (.int .i64 0), (.bool false), (.int .i64 0), (.bool false), .nil, .nil, .nil, (.int .i64 0), (.int .i64 0), .nil] [(0, false, 1, a0), (1, false, 1, x30)]).bind fun x31 => (A.cs true x31).bind fun m32 => some (.tup [(.agg m32), (.int .i64 0)])
theorem client_New.le : LeF Tryz.prog tb F.client_New (ap2 client_New) := le2 (fun S L a0 a1 => by kernel_rfl) (by kernel_rfl)
theorem client_New.st {a0 a1 r : AV} (h : client_New SX loopLim a0 a1 = some r) : SX.f F.client_New [a0, a1] = some r := st1 client_New.le h

noncomputable def ref24_May.l1b (S : Fns) (_L : LoopOp) (self : List (List AV) → Option AV) (x5_ : AV) (x0_ : AV) (x1_ : AV) : Option AV :=
    (A.len false x1_).bind fun x12 => (A.bin .lss x5_ x12).bind fun x13 => (A.asB x13).bind fun t14 => if t14 then
    ((A.elp 1 x1_ x5_).bind fun x15 => (A.ld .junk false 1 x15).bind fun x16 => (A.bin .eql x16 x0_).bind fun x17 => (A.asB x17).bind fun t18 => if t18 then
    (some (.bool false)) else
    (A.bin .add x5_ (.int .i64 1)).bind fun x19 => self [[x19], [x0_], [x1_]]) else
    (A.elp 1 x1_ (.int .i64 0)).bind fun x20 => (A.ld .junk false 1 x20).bind fun x21 => (S.f F.ref18_Masters [x21, x1_]).bind fun x22 => some x22
noncomputable def ref24_May.l1 (S : Fns) (L : LoopOp) (self : List (List AV) → Option AV) : List (List AV) → Option AV := fun vs => ref24_May.l1b S L self ((vs.headD []).headD .junk) ((vs.tail.headD []).headD .junk) ((vs.tail.tail.headD []).headD .junk)
noncomputable def ref24_May (S : Fns) (L : LoopOp) (a0 : AV) (a1 : AV) : Option AV :=
    (A.len false a1).bind fun x1 => (A.bin .eql x1 (.int .i64 0)).bind fun x2 => (A.isB false x2).bind fun t3 => (if t3 then (A.bin .lss a0 (.int .i64 201)).bind fun x4 => some x4 else some .undef).bind fun o5 =>
    (A.pick x2 (.bool true) o5).bind fun x6 => (A.isB false x6).bind fun t7 => (if t7 then (A.bin .gtr a0 (.int .i64 999)).bind fun x8 => some x8 else some .undef).bind fun o9 =>
    (A.pick x6 (.bool true) o9).bind fun x10 => (A.asB x10).bind fun t11 => if t11 then
    (some (.bool false)) else
    L (ref24_May.l1 S L) [[(.int .i64 0)], [a0], [a1]]
theorem ref24_May.le : LeF Tryz.prog tb F.ref24_May (ap2 ref24_May) := le2 (fun S L a0 a1 => by kernel_rfl) (by kernel_rfl)
theorem ref24_May.st {a0 a1 r : AV} (h : ref24_May SX loopLim a0 a1 = some r) : SX.f F.ref24_May [a0, a1] = some r := st1 ref24_May.le h

noncomputable def ref24_Same (S : Fns) (_L : LoopOp) (a0 : AV) (a1 : AV) : Option AV :=
    (A.csn true 30 a0).bind fun m1 => (A.csn true 30 a1).bind fun m2 => (m1[0]?).bind fun x3 => (m1[5]?).bind fun x4 => (A.bld [(.int .i64 0), (.int .i64 0), (.int .i64 0), (.str []), (.str []), .nil, .nil, (.bool false), (.int .i64 0), (.int .i64 0), .nil, .nil, .nil] [(0, false, 1, x3), (1, false, 1, x4), (2, true, 11, (.agg ((m1.drop 8).take 11)))]).bind fun x5 => (m2[0]?).bind fun x6 => (m2[5]?).bind fun x7 => (A.bld [(.int .i64 0), (.int .i64 0), (.int .i64 0), (.str []), (.str []), .nil, .nil, (.bool false), (.int .i64 0), (.int .i64 0), .nil, .nil, .nil] [(0, false, 1, x6), (1, false, 1, x7), (2, true, 11, (.agg ((m2.drop 8).take 11)))]).bind fun x8 => (S.f F.ref16_SameRequest [x5, x8]).bind fun x9 => (A.isB true x9).bind fun t10 => (if t10 then (m1[1]?).bind fun x11 => (m2[1]?).bind fun x12 => (S.f F.ref16_Ints [x11, x12]).bind fun x13 => some x13 else some .undef).bind fun o14 =>
    (A.pick x9 o14 (.bool false)).bind fun x15 => (A.isB true x15).bind fun t16 => (if t16 then (S.f F.ref19_Same [(.agg ((m1.drop 2).take 3)), (.agg ((m2.drop 2).take 3))]).bind fun x17 => some x17 else some .undef).bind fun o18 =>
    (A.pick x15 o18 (.bool false)).bind fun x19 => (A.isB true x19).bind fun t20 => (if t20 then (m1[6]?).bind fun x21 => (m2[6]?).bind fun x22 => (A.eq false 1 [] x21 x22).bind fun x23 => some x23 else some .undef).bind fun o24 =>
    (A.pick x19 o24 (.bool false)).bind fun x25 => (A.isB true x25).bind fun t26 => (if t26 then (m1[7]?).bind fun x27 => (m2[7]?).bind fun x28 => (A.bin .eql x27 x28).bind fun x29 => some x29 else some .undef).bind fun o30 =>
    (A.pick x25 o30 (.bool false)).bind fun x31 => (A.isB true x31).bind fun t32 => (if t32 then (m1[19]?).bind fun x33 => (m2[19]?).bind fun x34 => (A.bin .eql x33 x34).bind fun x35 => some x35 else some .undef).bind fun o36 =>
    (A.pick x31 o36 (.bool false)).bind fun x37 => (A.isB true x37).bind fun t38 => (if t38 then (m1[20]?).bind fun x39 => (m2[20]?).bind fun x40 => (A.bin .eql x39 x40).bind fun x41 => some x41 else some .undef).bind fun o42 =>
    (A.pick x37 o42 (.bool false)).bind fun x43 => (A.isB true x43).bind fun t44 => (if t44 then (m1[21]?).bind fun x45 => (m2[21]?).bind fun x46 => (A.eq false 1 [] x45 x46).bind fun x47 => some x47 else some .undef).bind fun o48 =>
    (A.pick x43 o48 (.bool false)).bind fun x49 => (A.isB true x49).bind fun t50 => (if t50 then (S.f F.ref12_Same [(.agg ((m1.drop 22).take 8)), (.agg ((m2.drop 22).take 8))]).bind fun x51 => some x51 else some .undef).bind fun o52 =>
    (A.pick x49 o52 (.bool false)).bind fun x53 => some x53
theorem ref24_Same.le : LeF Tryz.prog tb F.ref24_Same (ap2 ref24_Same) := le2 (fun S L a0 a1 => by kernel_rfl) (by kernel_rfl)
theorem ref24_Same.st {a0 a1 r : AV} (h : ref24_Same SX loopLim a0 a1 = some r) : SX.f F.ref24_Same [a0, a1] = some r := st1 ref24_Same.le h

noncomputable def client_Begin (S : Fns) (_L : LoopOp) (a0 : AV) (a1 : AV) (a2 : AV) : Option AV :=
    (A.csn true 30 a0).bind fun m1 => (A.csn true 11 a2).bind fun m2 => let _m3 : List AV := [(.int .i64 0), .nil, (.int .i64 0), (.int .i64 0), .nil, (.int .i64 0), (.bool false), (.int .i64 0), (.int .i64 0), (.str []), (.str []), .nil, .nil, (.bool false), (.int .i64 0), (.int .i64 0), .nil, .nil, .nil, (.int .i64 0), (.int .i64 0), (.bool false), (.int .i64 0), (.bool false), .nil, .nil, .nil, (.int .i64 0), (.int .i64 0), .nil]; (S.f F.client_own [(.agg m1)]).bind fun x4 => (A.csn true 30 x4).bind fun m5 => let _m6 : List AV := [(.int .i64 0), .nil, (.int .i64 0), (.int .i64 0), .nil, (.int .i64 0), (.bool false), (.int .i64 0), (.int .i64 0), (.str []), (.str []), .nil, .nil, (.bool false), (.int .i64 0), (.int .i64 0), .nil, .nil, .nil, (.int .i64 0), (.int .i64 0), (.bool false), (.int .i64 0), (.bool false), .nil, .nil, .nil, (.int .i64 0), (.int .i64 0), .nil]; (A.csn true 30 (.agg m5)).bind fun m7 => (m5[5]?).bind fun x8 => (A.bin .add x8 (.int .i64 1)).bind fun x9 => (A.bld [(.int .i64 0), (.bool false), .nil, .nil, .nil, (.int .i64 0), (.int .i64 0), .nil] []).bind fun x10 => (A.cs true x10).bind fun m11 => (A.one x9).bind fun x12 => let m13 : List AV := m7.set 5 x12; (A.one (.bool true)).bind fun x14 => let m15 : List AV := m13.set 6 x14; (A.one a1).bind fun x16 => let m17 : List AV := m15.set 7 x16; (A.csn true 11 (.agg m2)).bind fun m18 => let m19 : List AV := A.splice m17 8 m18; (A.one (.int .i64 0)).bind fun x20 => let m21 : List AV := m19.set 19 x20; (A.one (.bool false)).bind fun x22 => let m23 : List AV := m21.set 21 x22; let m24 : List AV := A.splice m23 22 m11; (S.f F.client_request [(.agg m24)]).bind fun x25 => (S.f F.wire_Request [x25]).bind fun x26 => (A.ext 0 x26).bind fun _x27 => (A.ext 1 x26).bind fun x28 => (m5[6]?).bind fun x29 => (A.isB false x29).bind fun t30 => (if t30 then (m5[5]?).bind fun x31 => (A.bin .geq x31 (.int .i64 2147483647)).bind fun x32 => some x32 else some .undef).bind fun o33 =>
    (A.pick x29 (.bool true) o33).bind fun x34 => (A.asB x34).bind fun t35 => if t35 then
    ((A.csn true 30 (.agg m5)).bind fun m36 => some (.tup [(.agg m36), .nil, (.int .i64 2)])) else
    (A.bin .neq x28 (.int .i64 0)).bind fun x37 => (A.isB false x37).bind fun t38 => (if t38 then (A.bin .neq a1 (.int .i64 1)).bind fun x39 => some x39 else some .undef).bind fun o40 =>
    (A.isB true o40).bind fun t41 => (if t41 then (m2[0]?).bind fun x42 => (A.bin .neq x42 (.int .i64 104)).bind fun x43 => some x43 else some .undef).bind fun o44 =>
    (A.isB false x37).bind fun t45 => (if t45 then (A.pick o40 o44 (.bool false)).bind fun x46 => some x46 else some .undef).bind fun o47 =>
    (A.pick x37 (.bool true) o47).bind fun x48 => (A.asB x48).bind fun t49 => if t49 then
    ((A.csn true 30 (.agg m5)).bind fun m50 => some (.tup [(.agg m50), .nil, (.int .i64 1)])) else
    (S.f F.client_own [(.agg m24)]).bind fun x51 => (A.csn true 30 x51).bind fun m52 => (S.f F.client_ask [(.agg m52)]).bind fun x53 => (A.csn true 30 (.agg m52)).bind fun m54 => some (.tup [(.agg m54), x53, (.int .i64 0)])
theorem client_Begin.le : LeF Tryz.prog tb F.client_Begin (ap3 client_Begin) := le3 (fun S L a0 a1 a2 => by kernel_rfl) (by kernel_rfl)
theorem client_Begin.st {a0 a1 a2 r : AV} (h : client_Begin SX loopLim a0 a1 a2 = some r) : SX.f F.client_Begin [a0, a1, a2] = some r := st1 client_Begin.le h

noncomputable def client_Tick.j2b (_S : Fns) (_L : LoopOp) (m1_ : List AV) (_m2_ : List AV) (x4_ : AV) : Option AV :=
    (A.csn true 30 (.agg m1_)).bind fun m17 => some (.tup [(.agg m17), x4_])
noncomputable def client_Tick.j2 (S : Fns) (L : LoopOp) : List (List AV) → Option AV := fun vs => client_Tick.j2b S L (vs.headD []) (vs.tail.headD []) ((vs.tail.tail.headD []).headD .junk)
noncomputable def client_Tick.j1b (S : Fns) (L : LoopOp) (m1_ : List AV) (m2_ : List AV) (x4_ : AV) : Option AV :=
    (m1_[20]?).bind fun x5 => (A.bin .add x5 (.int .i64 1)).bind fun x6 => (A.one x6).bind fun x7 => let m8 : List AV := m1_.set 20 x7; (m8[6]?).bind fun x9 => (A.un .not x9).bind fun x10 => (A.asB x10).bind fun t11 => if t11 then
    ((A.csn true 30 (.agg m8)).bind fun m12 => some (.tup [(.agg m12), x4_])) else
    (m8[19]?).bind fun x13 => (A.bin .add x13 (.int .i64 1)).bind fun x14 => (A.one x14).bind fun x15 => let m16 : List AV := m8.set 19 x15; (m16[19]?).bind fun x18 => (A.bin .geq x18 (.int .i64 80)).bind fun x19 => (A.asB x19).bind fun t20 => if t20 then
    ((A.one (.bool false)).bind fun x21 => let m22 : List AV := m16.set 6 x21; Lab (client_Tick.j2 S L) [m22, m2_, [x4_]]) else
    (m16[19]?).bind fun x23 => (A.bin .rem x23 (.int .i64 4)).bind fun x24 => (A.bin .eql x24 (.int .i64 0)).bind fun x25 => (A.asB x25).bind fun t26 => if t26 then
    ((S.f F.client_ask [(.agg m16)]).bind fun x27 => (A.app 42 568 x4_ x27).bind fun x28 => Lab (client_Tick.j2 S L) [m16, m2_, [x28]]) else
    Lab (client_Tick.j2 S L) [m16, m2_, [x4_]]
noncomputable def client_Tick.j1 (S : Fns) (L : LoopOp) : List (List AV) → Option AV := fun vs => client_Tick.j1b S L (vs.headD []) (vs.tail.headD []) ((vs.tail.tail.headD []).headD .junk)
noncomputable def client_Tick (S : Fns) (L : LoopOp) (a0 : AV) : Option AV :=
    (A.csn true 30 a0).bind fun m1 => let m2 : List AV := [(.int .i64 0), .nil, (.int .i64 0), (.int .i64 0), .nil, (.int .i64 0), (.bool false), (.int .i64 0), (.int .i64 0), (.str []), (.str []), .nil, .nil, (.bool false), (.int .i64 0), (.int .i64 0), .nil, .nil, .nil, (.int .i64 0), (.int .i64 0), (.bool false), (.int .i64 0), (.bool false), .nil, .nil, .nil, (.int .i64 0), (.int .i64 0), .nil]; (S.f F.client_own [(.agg m1)]).bind fun x3 => (A.csn true 30 x3).bind fun m4 => (m4[1]?).bind fun x29 => (A.len false x29).bind fun x30 => (m4[20]?).bind fun x31 => (A.bin .geq x31 (.int .i64 0)).bind fun x32 => (A.isB true x32).bind fun t33 => (if t33 then (m4[20]?).bind fun x34 => (A.bin .rem x34 (.int .i64 4)).bind fun x35 => (A.bin .eql x35 (.int .i64 0)).bind fun x36 => some x36 else some .undef).bind fun o37 =>
    (A.pick x32 o37 (.bool false)).bind fun x38 => (A.isB true x38).bind fun t39 => (if t39 then (A.bin .gtr x30 (.int .i64 0)).bind fun x40 => some x40 else some .undef).bind fun o41 =>
    (A.pick x38 o41 (.bool false)).bind fun x42 => (A.asB x42).bind fun t43 => if t43 then
    ((m4[1]?).bind fun x44 => (m4[20]?).bind fun x45 => (A.bin .quo x45 (.int .i64 4)).bind fun x46 => (A.bin .rem x46 x30).bind fun x47 => (A.elp 1 x44 x47).bind fun x48 => (A.ld .junk false 1 x48).bind fun x49 => (A.bld [(.int .i64 0), (.int .i64 0), (.int .i64 0), (.int .i64 0), (.int .i64 0), (.int .i64 0), (.int .i64 0), (.int .i64 0), (.bool false), .nil, .nil, (.int .i64 0), (.int .i64 0), .nil, (.int .i64 0), (.int .i64 0), (.int .i64 0), (.int .i64 0), (.str []), .nil, (.int .i64 0), (.int .i64 0), (.int .i64 0), (.str []), (.str []), .nil, .nil, (.bool false), (.int .i64 0), (.int .i64 0), .nil, .nil, .nil, (.int .i64 0), (.bool false), .nil, .nil, .nil, (.int .i64 0), (.int .i64 0), .nil] [(0, false, 1, (.int .i64 4))]).bind fun x50 => (A.bld [(.int .i64 0), (.int .i64 0), (.int .i64 0), (.int .i64 0), (.int .i64 0), (.int .i64 0), (.int .i64 0), (.int .i64 0), (.int .i64 0), (.bool false), .nil, .nil, (.int .i64 0), (.int .i64 0), .nil, (.int .i64 0), (.int .i64 0), (.int .i64 0), (.int .i64 0), (.str []), .nil, (.int .i64 0), (.int .i64 0), (.int .i64 0), (.str []), (.str []), .nil, .nil, (.bool false), (.int .i64 0), (.int .i64 0), .nil, .nil, .nil, (.int .i64 0), (.bool false), .nil, .nil, .nil, (.int .i64 0), (.int .i64 0), .nil] [(0, false, 1, x49), (1, true, 41, x50)]).bind fun x51 => (A.mksl 42 [x51]).bind fun x52 => (A.app 42 568 .nil x52).bind fun x53 => Lab (client_Tick.j1 S L) [m4, m2, [x53]]) else
    Lab (client_Tick.j1 S L) [m4, m2, [.nil]]
theorem client_Tick.le : LeF Tryz.prog tb F.client_Tick (ap1 client_Tick) := le1 (fun S L a0 => by kernel_rfl) (by kernel_rfl)
theorem client_Tick.st {a0 r : AV} (h : client_Tick SX loopLim a0 = some r) : SX.f F.client_Tick [a0] = some r := st1 client_Tick.le h

noncomputable def slices_Contains_int (S : Fns) (_L : LoopOp) (a0 : AV) (a1 : AV) : Option AV :=
    (S.f F.slices_Index_int [a0, a1]).bind fun x1 => (A.bin .geq x1 (.int .i64 0)).bind fun x2 => some x2
theorem slices_Contains_int.le : LeF Tryz.prog tb F.slices_Contains_int (ap2 slices_Contains_int) := le2 (fun S L a0 a1 => by kernel_rfl) (by kernel_rfl)
theorem slices_Contains_int.st {a0 a1 r : AV} (h : slices_Contains_int SX loopLim a0 a1 = some r) : SX.f F.slices_Contains_int [a0, a1] = some r := st1 slices_Contains_int.le h

noncomputable def ballot_New (S : Fns) (_L : LoopOp) (a0 : AV) (a1 : AV) : Option AV :=
    let _m1 : List AV := [(.int .i64 0), .nil, (.int .i64 0), (.int .i64 0), .nil, (.int .i64 0), (.int .i64 0), (.int .i64 0), .nil, (.int .i64 0), .nil, .nil]; (S.f F.ballot_Restore [a0, a1, (.int .i64 0), (.int .i64 0), .nil]).bind fun x2 => (A.ext 0 x2).bind fun x3 => (A.ext 1 x2).bind fun x4 => (A.csn true 12 x3).bind fun m5 => some (.tup [(.agg m5), x4])
theorem ballot_New.le : LeF Tryz.prog tb F.ballot_New (ap2 ballot_New) := le2 (fun S L a0 a1 => by kernel_rfl) (by kernel_rfl)
theorem ballot_New.st {a0 a1 r : AV} (h : ballot_New SX loopLim a0 a1 = some r) : SX.f F.ballot_New [a0, a1] = some r := st1 ballot_New.le h

noncomputable def slices_Clone_int (_S : Fns) (_L : LoopOp) (a0 : AV) : Option AV :=
    (A.eq false 3 [] a0 .nil).bind fun x1 => (A.asB x1).bind fun t2 => if t2 then
    (some .nil) else
    (A.mksl 1 []).bind fun x3 => (A.app 1 8 x3 a0).bind fun x4 => some x4
theorem slices_Clone_int.le : LeF Tryz.prog tb F.slices_Clone_int (ap1 slices_Clone_int) := le1 (fun S L a0 => by kernel_rfl) (by kernel_rfl)
theorem slices_Clone_int.st {a0 r : AV} (h : slices_Clone_int SX loopLim a0 = some r) : SX.f F.slices_Clone_int [a0] = some r := st1 slices_Clone_int.le h

noncomputable def ref18_Masters.l1b (_S : Fns) (_L : LoopOp) (self : List (List AV) → Option AV) (x6_ : AV) (x5_ : AV) (x0_ : AV) (x1_ : AV) : Option AV :=
    (A.len false x1_).bind fun x1 => (A.bin .lss x6_ x1).bind fun x2 => (A.asB x2).bind fun t3 => if t3 then
    ((A.elp 1 x1_ x6_).bind fun x4 => (A.ld .junk false 1 x4).bind fun x5 => (A.bin .lss x5 (.int .i64 1)).bind fun x6 => (A.isB false x6).bind fun t7 => (if t7 then (A.elp 1 x1_ x6_).bind fun x8 => (A.ld .junk false 1 x8).bind fun x9 => (A.bin .gtr x9 (.int .i64 999)).bind fun x10 => some x10 else some .undef).bind fun o11 =>
    (A.pick x6 (.bool true) o11).bind fun x12 => (A.isB false x12).bind fun t13 => (if t13 then (A.bin .gtr x6_ (.int .i64 0)).bind fun x14 => some x14 else some .undef).bind fun o15 =>
    (A.isB true o15).bind fun t16 => (if t16 then (A.bin .sub x6_ (.int .i64 1)).bind fun x17 => (A.elp 1 x1_ x17).bind fun x18 => (A.ld .junk false 1 x18).bind fun x19 => (A.elp 1 x1_ x6_).bind fun x20 => (A.ld .junk false 1 x20).bind fun x21 => (A.bin .geq x19 x21).bind fun x22 => some x22 else some .undef).bind fun o23 =>
    (A.isB false x12).bind fun t24 => (if t24 then (A.pick o15 o23 (.bool false)).bind fun x25 => some x25 else some .undef).bind fun o26 =>
    (A.pick x12 (.bool true) o26).bind fun x27 => (A.asB x27).bind fun t28 => if t28 then
    (some (.bool false)) else
    (A.isB false x5_).bind fun t29 => (if t29 then (A.elp 1 x1_ x6_).bind fun x30 => (A.ld .junk false 1 x30).bind fun x31 => (A.bin .eql x31 x0_).bind fun x32 => some x32 else some .undef).bind fun o33 =>
    (A.pick x5_ (.bool true) o33).bind fun x34 => (A.bin .add x6_ (.int .i64 1)).bind fun x35 => self [[x35], [x34], [x0_], [x1_]]) else
    (A.isB true x5_).bind fun t36 => (if t36 then (A.len false x1_).bind fun x37 => (A.bin .leq x37 (.int .i64 5)).bind fun x38 => some x38 else some .undef).bind fun o39 =>
    (A.pick x5_ o39 (.bool false)).bind fun x40 => some x40
noncomputable def ref18_Masters.l1 (S : Fns) (L : LoopOp) (self : List (List AV) → Option AV) : List (List AV) → Option AV := fun vs => ref18_Masters.l1b S L self ((vs.headD []).headD .junk) ((vs.tail.headD []).headD .junk) ((vs.tail.tail.headD []).headD .junk) ((vs.tail.tail.tail.headD []).headD .junk)
noncomputable def ref18_Masters (S : Fns) (L : LoopOp) (a0 : AV) (a1 : AV) : Option AV :=
    L (ref18_Masters.l1 S L) [[(.int .i64 0)], [(.bool false)], [a0], [a1]]
theorem ref18_Masters.le : LeF Tryz.prog tb F.ref18_Masters (ap2 ref18_Masters) := le2 (fun S L a0 a1 => by kernel_rfl) (by kernel_rfl)
theorem ref18_Masters.st {a0 a1 r : AV} (h : ref18_Masters SX loopLim a0 a1 = some r) : SX.f F.ref18_Masters [a0, a1] = some r := st1 ref18_Masters.le h

noncomputable def ref16_SameRequest (S : Fns) (_L : LoopOp) (a0 : AV) (a1 : AV) : Option AV :=
    (A.csn true 13 a0).bind fun m1 => (A.csn true 13 a1).bind fun m2 => (m1[0]?).bind fun x3 => (m2[0]?).bind fun x4 => (A.bin .eql x3 x4).bind fun x5 => (A.isB true x5).bind fun t6 => (if t6 then (m1[1]?).bind fun x7 => (m2[1]?).bind fun x8 => (A.bin .eql x7 x8).bind fun x9 => some x9 else some .undef).bind fun o10 =>
    (A.pick x5 o10 (.bool false)).bind fun x11 => (A.isB true x11).bind fun t12 => (if t12 then (S.f F.ref16_sameOp [(.agg ((m1.drop 2).take 11)), (.agg ((m2.drop 2).take 11))]).bind fun x13 => some x13 else some .undef).bind fun o14 =>
    (A.pick x11 o14 (.bool false)).bind fun x15 => some x15
theorem ref16_SameRequest.le : LeF Tryz.prog tb F.ref16_SameRequest (ap2 ref16_SameRequest) := le2 (fun S L a0 a1 => by kernel_rfl) (by kernel_rfl)
theorem ref16_SameRequest.st {a0 a1 r : AV} (h : ref16_SameRequest SX loopLim a0 a1 = some r) : SX.f F.ref16_SameRequest [a0, a1] = some r := st1 ref16_SameRequest.le h

noncomputable def ref16_Ints.l1b (_S : Fns) (_L : LoopOp) (self : List (List AV) → Option AV) (x5_ : AV) (x1_ : AV) (x0_ : AV) : Option AV :=
    (A.len false x0_).bind fun x5 => (A.bin .lss x5_ x5).bind fun x6 => (A.asB x6).bind fun t7 => if t7 then
    ((A.elp 1 x0_ x5_).bind fun x8 => (A.ld .junk false 1 x8).bind fun x9 => (A.elp 1 x1_ x5_).bind fun x10 => (A.ld .junk false 1 x10).bind fun x11 => (A.bin .neq x9 x11).bind fun x12 => (A.asB x12).bind fun t13 => if t13 then
    (some (.bool false)) else
    (A.bin .add x5_ (.int .i64 1)).bind fun x14 => self [[x14], [x1_], [x0_]]) else
    some (.bool true)
noncomputable def ref16_Ints.l1 (S : Fns) (L : LoopOp) (self : List (List AV) → Option AV) : List (List AV) → Option AV := fun vs => ref16_Ints.l1b S L self ((vs.headD []).headD .junk) ((vs.tail.headD []).headD .junk) ((vs.tail.tail.headD []).headD .junk)
noncomputable def ref16_Ints (S : Fns) (L : LoopOp) (a0 : AV) (a1 : AV) : Option AV :=
    (A.len false a0).bind fun x1 => (A.len false a1).bind fun x2 => (A.bin .neq x1 x2).bind fun x3 => (A.asB x3).bind fun t4 => if t4 then
    (some (.bool false)) else
    L (ref16_Ints.l1 S L) [[(.int .i64 0)], [a1], [a0]]
theorem ref16_Ints.le : LeF Tryz.prog tb F.ref16_Ints (ap2 ref16_Ints) := le2 (fun S L a0 a1 => by kernel_rfl) (by kernel_rfl)
theorem ref16_Ints.st {a0 a1 r : AV} (h : ref16_Ints SX loopLim a0 a1 = some r) : SX.f F.ref16_Ints [a0, a1] = some r := st1 ref16_Ints.le h

noncomputable def ref19_Same (S : Fns) (_L : LoopOp) (a0 : AV) (a1 : AV) : Option AV :=
    (A.csn true 3 a0).bind fun m1 => (A.csn true 3 a1).bind fun m2 => (S.f F.ref16_Confs [(.agg m1), (.agg m2)]).bind fun x3 => some x3
theorem ref19_Same.le : LeF Tryz.prog tb F.ref19_Same (ap2 ref19_Same) := le2 (fun S L a0 a1 => by kernel_rfl) (by kernel_rfl)
theorem ref19_Same.st {a0 a1 r : AV} (h : ref19_Same SX loopLim a0 a1 = some r) : SX.f F.ref19_Same [a0, a1] = some r := st1 ref19_Same.le h

noncomputable def ref12_Same (S : Fns) (_L : LoopOp) (a0 : AV) (a1 : AV) : Option AV :=
    (A.csn true 8 a0).bind fun m1 => (A.csn true 8 a1).bind fun m2 => (m1[0]?).bind fun x3 => (m2[0]?).bind fun x4 => (A.bin .eql x3 x4).bind fun x5 => (A.isB true x5).bind fun t6 => (if t6 then (m1[1]?).bind fun x7 => (m2[1]?).bind fun x8 => (A.eq false 1 [] x7 x8).bind fun x9 => some x9 else some .undef).bind fun o10 =>
    (A.pick x5 o10 (.bool false)).bind fun x11 => (A.isB true x11).bind fun t12 => (if t12 then (m1[5]?).bind fun x13 => (m2[5]?).bind fun x14 => (A.bin .eql x13 x14).bind fun x15 => some x15 else some .undef).bind fun o16 =>
    (A.pick x11 o16 (.bool false)).bind fun x17 => (A.isB true x17).bind fun t18 => (if t18 then (m1[6]?).bind fun x19 => (m2[6]?).bind fun x20 => (A.bin .eql x19 x20).bind fun x21 => some x21 else some .undef).bind fun o22 =>
    (A.pick x17 o22 (.bool false)).bind fun x23 => (A.isB true x23).bind fun t24 => (if t24 then (m1[2]?).bind fun x25 => (m2[2]?).bind fun x26 => (S.f F.ref04_Same [x25, x26]).bind fun x27 => some x27 else some .undef).bind fun o28 =>
    (A.pick x23 o28 (.bool false)).bind fun x29 => (A.isB true x29).bind fun t30 => (if t30 then (m1[3]?).bind fun x31 => (m2[3]?).bind fun x32 => (S.f F.ref12_Docs [x31, x32]).bind fun x33 => some x33 else some .undef).bind fun o34 =>
    (A.pick x29 o34 (.bool false)).bind fun x35 => (A.isB true x35).bind fun t36 => (if t36 then (m1[4]?).bind fun x37 => (m2[4]?).bind fun x38 => (S.f F.ref12_News [x37, x38]).bind fun x39 => some x39 else some .undef).bind fun o40 =>
    (A.pick x35 o40 (.bool false)).bind fun x41 => (A.isB true x41).bind fun t42 => (if t42 then (m1[7]?).bind fun x43 => (m2[7]?).bind fun x44 => (S.f F.ref08_Same [x43, x44]).bind fun x45 => some x45 else some .undef).bind fun o46 =>
    (A.pick x41 o46 (.bool false)).bind fun x47 => some x47
theorem ref12_Same.le : LeF Tryz.prog tb F.ref12_Same (ap2 ref12_Same) := le2 (fun S L a0 a1 => by kernel_rfl) (by kernel_rfl)
theorem ref12_Same.st {a0 a1 r : AV} (h : ref12_Same SX loopLim a0 a1 = some r) : SX.f F.ref12_Same [a0, a1] = some r := st1 ref12_Same.le h

noncomputable def client_own.l1b (S : Fns) (_L : LoopOp) (self : List (List AV) → Option AV) (x27_ : AV) (x26_ : AV) (x25_ : AV) (m1_ : List AV) (m2_ : List AV) : Option AV :=
    (A.bin .lss x27_ x26_).bind fun x19 => (A.asB x19).bind fun t20 => if t20 then
    ((A.elp 5 x25_ x27_).bind fun x21 => (A.ld .junk true 5 x21).bind fun x22 => let _m23 : List AV := [(.int .i64 0), (.str []), (.int .i64 0), .nil, (.int .i64 0)]; (A.csn true 5 x22).bind fun m24 => (m1_[4]?).bind fun x25 => (m24[3]?).bind fun x26 => (S.f F.slices_Clone_int [x26]).bind fun x27 => (A.elp 5 x25 x27_).bind fun x28 => (A.fa 3 x28).bind fun x29 => (A.st .junk false 1 x29 x27).bind fun _h30 => (A.bin .add x27_ (.int .i64 1)).bind fun x31 => self [[x31], [x26_], [x25_], m1_, m2_]) else
    (A.csn true 30 (.agg m1_)).bind fun m32 => some (.agg m32)
noncomputable def client_own.l1 (S : Fns) (L : LoopOp) (self : List (List AV) → Option AV) : List (List AV) → Option AV := fun vs => client_own.l1b S L self ((vs.headD []).headD .junk) ((vs.tail.headD []).headD .junk) ((vs.tail.tail.headD []).headD .junk) (vs.tail.tail.tail.headD []) (vs.tail.tail.tail.tail.headD [])
noncomputable def client_own (S : Fns) (L : LoopOp) (a0 : AV) : Option AV :=
    (A.csn true 30 a0).bind fun m1 => let m2 : List AV := [(.int .i64 0), .nil, (.int .i64 0), (.int .i64 0), .nil, (.int .i64 0), (.bool false), (.int .i64 0), (.int .i64 0), (.str []), (.str []), .nil, .nil, (.bool false), (.int .i64 0), (.int .i64 0), .nil, .nil, .nil, (.int .i64 0), (.int .i64 0), (.bool false), (.int .i64 0), (.bool false), .nil, .nil, .nil, (.int .i64 0), (.int .i64 0), .nil]; (m1[1]?).bind fun x3 => (S.f F.slices_Clone_int [x3]).bind fun x4 => (A.one x4).bind fun x5 => let m6 : List AV := m1.set 1 x5; (S.f F.client_op [(.agg ((m6.drop 8).take 11))]).bind fun x7 => (S.f F.client_answer [(.agg ((m6.drop 22).take 8))]).bind fun x8 => (A.csn true 11 x7).bind fun m9 => let m10 : List AV := A.splice m6 8 m9; (A.csn true 8 x8).bind fun m11 => let m12 : List AV := A.splice m10 22 m11; (m12[4]?).bind fun x13 => (S.f F.slices_Clone_Chain [x13]).bind fun x14 => (A.one x14).bind fun x15 => let m16 : List AV := m12.set 4 x15; (m16[4]?).bind fun x17 => (A.len false x17).bind fun x18 => L (client_own.l1 S L) [[(.int .i64 0)], [x18], [x17], m16, m2]
theorem client_own.le : LeF Tryz.prog tb F.client_own (ap1 client_own) := le1 (fun S L a0 => by kernel_rfl) (by kernel_rfl)
theorem client_own.st {a0 r : AV} (h : client_own SX loopLim a0 = some r) : SX.f F.client_own [a0] = some r := st1 client_own.le h

noncomputable def wire_Request (S : Fns) (_L : LoopOp) (a0 : AV) : Option AV :=
    (A.csn true 13 a0).bind fun m1 => (S.f F.wire_nested [(.agg ((m1.drop 2).take 11))]).bind fun x2 => (A.asB x2).bind fun t3 => if t3 then
    (some (.tup [.nil, (.int .i64 1)])) else
    (S.f F.wire_good []).bind fun x4 => (S.f F.wire_maker_request [x4, (.agg m1)]).bind fun x5 => (S.f F.wire_encode [x5]).bind fun x6 => (A.ext 0 x6).bind fun x7 => (A.ext 1 x6).bind fun x8 => some (.tup [x7, x8])
theorem wire_Request.le : LeF Tryz.prog tb F.wire_Request (ap1 wire_Request) := le1 (fun S L a0 => by kernel_rfl) (by kernel_rfl)
theorem wire_Request.st {a0 r : AV} (h : wire_Request SX loopLim a0 = some r) : SX.f F.wire_Request [a0] = some r := st1 wire_Request.le h

noncomputable def client_request (_S : Fns) (_L : LoopOp) (a0 : AV) : Option AV :=
    (A.csn true 30 a0).bind fun m1 => let _m2 : List AV := [(.int .i64 0), (.int .i64 0), (.int .i64 0), (.str []), (.str []), .nil, .nil, (.bool false), (.int .i64 0), (.int .i64 0), .nil, .nil, .nil]; (m1[0]?).bind fun x3 => (m1[5]?).bind fun x4 => (A.bld [(.int .i64 0), (.int .i64 0), (.int .i64 0), (.str []), (.str []), .nil, .nil, (.bool false), (.int .i64 0), (.int .i64 0), .nil, .nil, .nil] [(0, false, 1, x3), (1, false, 1, x4), (2, true, 11, (.agg ((m1.drop 8).take 11)))]).bind fun x5 => (A.cs true x5).bind fun m6 => some (.agg m6)
theorem client_request.le : LeF Tryz.prog tb F.client_request (ap1 client_request) := le1 (fun S L a0 => by kernel_rfl) (by kernel_rfl)
theorem client_request.st {a0 r : AV} (h : client_request SX loopLim a0 = some r) : SX.f F.client_request [a0] = some r := st1 client_request.le h

noncomputable def client_ask (S : Fns) (_L : LoopOp) (a0 : AV) : Option AV :=
    (A.csn true 30 a0).bind fun m1 => (m1[7]?).bind fun x2 => (S.f F.conf_Chain [(.agg ((m1.drop 2).take 3)), x2]).bind fun x3 => (A.ext 0 x3).bind fun x4 => (A.ext 1 x3).bind fun x5 => let _m6 : List AV := [(.int .i64 0), (.str []), (.int .i64 0), .nil, (.int .i64 0)]; (A.csn true 5 x4).bind fun m7 => (A.un .not x5).bind fun x8 => (A.isB false x8).bind fun t9 => (if t9 then (m7[3]?).bind fun x10 => (A.len false x10).bind fun x11 => (A.bin .eql x11 (.int .i64 0)).bind fun x12 => some x12 else some .undef).bind fun o13 =>
    (A.pick x8 (.bool true) o13).bind fun x14 => (A.asB x14).bind fun t15 => if t15 then
    (some .nil) else
    (m7[3]?).bind fun x16 => (A.elp 1 x16 (.int .i64 0)).bind fun x17 => (A.ld .junk false 1 x17).bind fun x18 => (m1[7]?).bind fun x19 => (S.f F.client_own [(.agg m1)]).bind fun x20 => (S.f F.client_request [x20]).bind fun x21 => (A.bld [(.int .i64 0), (.int .i64 0), (.int .i64 0), (.int .i64 0), (.int .i64 0), (.int .i64 0), (.int .i64 0), (.int .i64 0), (.bool false), .nil, .nil, (.int .i64 0), (.int .i64 0), .nil, (.int .i64 0), (.int .i64 0), (.int .i64 0), (.int .i64 0), (.str []), .nil, (.int .i64 0), (.int .i64 0), (.int .i64 0), (.str []), (.str []), .nil, .nil, (.bool false), (.int .i64 0), (.int .i64 0), .nil, .nil, .nil, (.int .i64 0), (.bool false), .nil, .nil, .nil, (.int .i64 0), (.int .i64 0), .nil] [(0, false, 1, (.int .i64 5)), (1, false, 1, x19), (20, true, 13, x21)]).bind fun x22 => (A.bld [(.int .i64 0), (.int .i64 0), (.int .i64 0), (.int .i64 0), (.int .i64 0), (.int .i64 0), (.int .i64 0), (.int .i64 0), (.int .i64 0), (.bool false), .nil, .nil, (.int .i64 0), (.int .i64 0), .nil, (.int .i64 0), (.int .i64 0), (.int .i64 0), (.int .i64 0), (.str []), .nil, (.int .i64 0), (.int .i64 0), (.int .i64 0), (.str []), (.str []), .nil, .nil, (.bool false), (.int .i64 0), (.int .i64 0), .nil, .nil, .nil, (.int .i64 0), (.bool false), .nil, .nil, .nil, (.int .i64 0), (.int .i64 0), .nil] [(0, false, 1, x18), (1, true, 41, x22)]).bind fun x23 => (A.mksl 42 [x23]).bind fun x24 => some x24
theorem client_ask.le : LeF Tryz.prog tb F.client_ask (ap1 client_ask) := le1 (fun S L a0 => by kernel_rfl) (by kernel_rfl)
theorem client_ask.st {a0 r : AV} (h : client_ask SX loopLim a0 = some r) : SX.f F.client_ask [a0] = some r := st1 client_ask.le h

noncomputable def slices_Index_int.l1b (_S : Fns) (_L : LoopOp) (self : List (List AV) → Option AV) (x8_ : AV) (x7_ : AV) (x0_ : AV) (x1_ : AV) : Option AV :=
    (A.bin .lss x8_ x7_).bind fun x2 => (A.asB x2).bind fun t3 => if t3 then
    ((A.elp 1 x0_ x8_).bind fun x4 => (A.ld .junk false 1 x4).bind fun x5 => (A.bin .eql x1_ x5).bind fun x6 => (A.asB x6).bind fun t7 => if t7 then
    (some x8_) else
    (A.bin .add x8_ (.int .i64 1)).bind fun x8 => self [[x8], [x7_], [x0_], [x1_]]) else
    some (.int .i64 (-1))
noncomputable def slices_Index_int.l1 (S : Fns) (L : LoopOp) (self : List (List AV) → Option AV) : List (List AV) → Option AV := fun vs => slices_Index_int.l1b S L self ((vs.headD []).headD .junk) ((vs.tail.headD []).headD .junk) ((vs.tail.tail.headD []).headD .junk) ((vs.tail.tail.tail.headD []).headD .junk)
noncomputable def slices_Index_int (S : Fns) (L : LoopOp) (a0 : AV) (a1 : AV) : Option AV :=
    (A.len false a0).bind fun x1 => L (slices_Index_int.l1 S L) [[(.int .i64 0)], [x1], [a0], [a1]]
theorem slices_Index_int.le : LeF Tryz.prog tb F.slices_Index_int (ap2 slices_Index_int) := le2 (fun S L a0 a1 => by kernel_rfl) (by kernel_rfl)
theorem slices_Index_int.st {a0 a1 r : AV} (h : slices_Index_int SX loopLim a0 a1 = some r) : SX.f F.slices_Index_int [a0, a1] = some r := st1 slices_Index_int.le h

noncomputable def ballot_Restore.l1b (S : Fns) (_L : LoopOp) (self : List (List AV) → Option AV) (x44_ : AV) (x43_ : AV) (x42_ : AV) (x2_ : AV) (x4_ : AV) (x12_ : AV) (x0_ : AV) (x3_ : AV) (x1_ : AV) (m10_ : List AV) : Option AV :=
    (A.bin .lss x44_ x43_).bind fun x29 => (A.asB x29).bind fun t30 => if t30 then
    ((A.elp 2 x42_ x44_).bind fun x31 => (A.ld .junk true 2 x31).bind fun x32 => let _m33 : List AV := [(.int .i64 0), .nil]; (A.csn true 2 x32).bind fun m34 => (A.isB false x12_).bind fun t35 => (if t35 then (m34[0]?).bind fun x36 => (A.bin .lss x36 (.int .i64 1)).bind fun x37 => some x37 else some .undef).bind fun o38 =>
    (A.pick x12_ (.bool true) o38).bind fun x39 => (A.isB false x39).bind fun t40 => (if t40 then (m34[0]?).bind fun x41 => (A.bin .gtr x41 x2_).bind fun x42 => some x42 else some .undef).bind fun o43 =>
    (A.pick x39 (.bool true) o43).bind fun x44 => (A.isB false x44).bind fun t45 => (if t45 then (A.bin .gtr x44_ (.int .i64 0)).bind fun x46 => some x46 else some .undef).bind fun o47 =>
    (A.isB true o47).bind fun t48 => (if t48 then (m34[0]?).bind fun x49 => (A.bin .sub x44_ (.int .i64 1)).bind fun x50 => (A.elp 2 x4_ x50).bind fun x51 => (A.fa 0 x51).bind fun x52 => (A.ld .junk false 1 x52).bind fun x53 => (A.bin .lss x49 x53).bind fun x54 => some x54 else some .undef).bind fun o55 =>
    (A.isB false x44).bind fun t56 => (if t56 then (A.pick o47 o55 (.bool false)).bind fun x57 => some x57 else some .undef).bind fun o58 =>
    (A.pick x44 (.bool true) o58).bind fun x59 => (A.bin .add x44_ (.int .i64 1)).bind fun x60 => self [[x60], [x43_], [x42_], [x2_], [x4_], [x59], [x0_], [x3_], [x1_], m10_]) else
    (A.asB x12_).bind fun t61 => if t61 then
    ((A.bld [(.int .i64 0), .nil, (.int .i64 0), (.int .i64 0), .nil, (.int .i64 0), (.int .i64 0), (.int .i64 0), .nil, (.int .i64 0), .nil, .nil] []).bind fun x62 => (A.cs true x62).bind fun m63 => some (.tup [(.agg m63), (.int .i64 1)])) else
    (S.f F.slices_Clone_int [x1_]).bind fun x64 => (S.f F.ballot_records [x4_]).bind fun x65 => (A.bld [(.int .i64 0), .nil, (.int .i64 0), (.int .i64 0), .nil, (.int .i64 0), (.int .i64 0), (.int .i64 0), .nil, (.int .i64 0), .nil, .nil] [(0, false, 1, x0_), (1, false, 1, x64), (2, false, 1, x2_), (3, false, 1, x3_), (4, false, 1, x65), (6, false, 1, (.int .i64 1))]).bind fun x66 => (A.cs true x66).bind fun m67 => some (.tup [(.agg m67), (.int .i64 0)])
noncomputable def ballot_Restore.l1 (S : Fns) (L : LoopOp) (self : List (List AV) → Option AV) : List (List AV) → Option AV := fun vs => ballot_Restore.l1b S L self ((vs.headD []).headD .junk) ((vs.tail.headD []).headD .junk) ((vs.tail.tail.headD []).headD .junk) ((vs.tail.tail.tail.headD []).headD .junk) ((vs.tail.tail.tail.tail.headD []).headD .junk) ((vs.tail.tail.tail.tail.tail.headD []).headD .junk) ((vs.tail.tail.tail.tail.tail.tail.headD []).headD .junk) ((vs.tail.tail.tail.tail.tail.tail.tail.headD []).headD .junk) ((vs.tail.tail.tail.tail.tail.tail.tail.tail.headD []).headD .junk) (vs.tail.tail.tail.tail.tail.tail.tail.tail.tail.headD [])
noncomputable def ballot_Restore (S : Fns) (L : LoopOp) (a0 : AV) (a1 : AV) (a2 : AV) (a3 : AV) (a4 : AV) : Option AV :=
    let m1 : List AV := [(.int .i64 0), .nil, (.int .i64 0), (.int .i64 0), .nil, (.int .i64 0), (.int .i64 0), (.int .i64 0), .nil, (.int .i64 0), .nil, .nil]; (S.f F.ballot_peers [a0, a1]).bind fun x2 => (A.un .not x2).bind fun x3 => (A.isB false x3).bind fun t4 => (if t4 then (A.bin .lss a2 (.int .i64 0)).bind fun x5 => some x5 else some .undef).bind fun o6 =>
    (A.pick x3 (.bool true) o6).bind fun x7 => (A.isB false x7).bind fun t8 => (if t8 then (A.bin .gtr a2 (.int .i64 2147483647)).bind fun x9 => some x9 else some .undef).bind fun o10 =>
    (A.pick x7 (.bool true) o10).bind fun x11 => (A.isB false x11).bind fun t12 => (if t12 then (A.bin .neq a3 (.int .i64 0)).bind fun x13 => some x13 else some .undef).bind fun o14 =>
    (A.isB true o14).bind fun t15 => (if t15 then (S.f F.slices_Contains_int [a1, a3]).bind fun x16 => (A.un .not x16).bind fun x17 => some x17 else some .undef).bind fun o18 =>
    (A.isB false x11).bind fun t19 => (if t19 then (A.pick o14 o18 (.bool false)).bind fun x20 => some x20 else some .undef).bind fun o21 =>
    (A.pick x11 (.bool true) o21).bind fun x22 => (A.isB false x22).bind fun t23 => (if t23 then (A.len false a4).bind fun x24 => (A.bin .gtr x24 (.int .i64 512)).bind fun x25 => some x25 else some .undef).bind fun o26 =>
    (A.pick x22 (.bool true) o26).bind fun x27 => (A.len false a4).bind fun x28 => L (ballot_Restore.l1 S L) [[(.int .i64 0)], [x28], [a4], [a2], [a4], [x27], [a0], [a3], [a1], m1]
theorem ballot_Restore.le : LeF Tryz.prog tb F.ballot_Restore (ap5 ballot_Restore) := le5 (fun S L a0 a1 a2 a3 a4 => by kernel_rfl) (by kernel_rfl)
theorem ballot_Restore.st {a0 a1 a2 a3 a4 r : AV} (h : ballot_Restore SX loopLim a0 a1 a2 a3 a4 = some r) : SX.f F.ballot_Restore [a0, a1, a2, a3, a4] = some r := st1 ballot_Restore.le h

noncomputable def ref16_sameOp.l1b (S : Fns) (_L : LoopOp) (self : List (List AV) → Option AV) (x5_ : AV) (m3_ : List AV) (m2_ : List AV) : Option AV :=
    (m2_[8]?).bind fun x45 => (A.len false x45).bind fun x46 => (A.bin .lss x5_ x46).bind fun x47 => (A.asB x47).bind fun t48 => if t48 then
    ((m2_[8]?).bind fun x49 => (A.elp 11 x49 x5_).bind fun x50 => (A.ld .junk true 11 x50).bind fun x51 => (m3_[8]?).bind fun x52 => (A.elp 11 x52 x5_).bind fun x53 => (A.ld .junk true 11 x53).bind fun x54 => (S.f F.ref16_sameOp [x51, x54]).bind fun x55 => (A.un .not x55).bind fun x56 => (A.asB x56).bind fun t57 => if t57 then
    (some (.bool false)) else
    (A.bin .add x5_ (.int .i64 1)).bind fun x58 => self [[x58], m3_, m2_]) else
    (m2_[3]?).bind fun x59 => (m3_[3]?).bind fun x60 => (S.f F.ref04_Same [x59, x60]).bind fun x61 => (A.isB true x61).bind fun t62 => (if t62 then (m2_[4]?).bind fun x63 => (m3_[4]?).bind fun x64 => (S.f F.ref04_Same [x63, x64]).bind fun x65 => some x65 else some .undef).bind fun o66 =>
    (A.pick x61 o66 (.bool false)).bind fun x67 => (A.isB true x67).bind fun t68 => (if t68 then (m2_[9]?).bind fun x69 => (m3_[9]?).bind fun x70 => (S.f F.ref12_Docs [x69, x70]).bind fun x71 => some x71 else some .undef).bind fun o72 =>
    (A.pick x67 o72 (.bool false)).bind fun x73 => (A.isB true x73).bind fun t74 => (if t74 then (m2_[10]?).bind fun x75 => (m3_[10]?).bind fun x76 => (S.f F.ref12_News [x75, x76]).bind fun x77 => some x77 else some .undef).bind fun o78 =>
    (A.pick x73 o78 (.bool false)).bind fun x79 => some x79
noncomputable def ref16_sameOp.l1 (S : Fns) (L : LoopOp) (self : List (List AV) → Option AV) : List (List AV) → Option AV := fun vs => ref16_sameOp.l1b S L self ((vs.headD []).headD .junk) (vs.tail.headD []) (vs.tail.tail.headD [])
noncomputable def ref16_sameOp (S : Fns) (L : LoopOp) (a0 : AV) (a1 : AV) : Option AV :=
    (A.csn true 11 a0).bind fun m1 => (A.csn true 11 a1).bind fun m2 => (m1[0]?).bind fun x3 => (m2[0]?).bind fun x4 => (A.bin .neq x3 x4).bind fun x5 => (A.isB false x5).bind fun t6 => (if t6 then (m1[1]?).bind fun x7 => (m2[1]?).bind fun x8 => (A.bin .neq x7 x8).bind fun x9 => some x9 else some .undef).bind fun o10 =>
    (A.pick x5 (.bool true) o10).bind fun x11 => (A.isB false x11).bind fun t12 => (if t12 then (m1[2]?).bind fun x13 => (m2[2]?).bind fun x14 => (A.bin .neq x13 x14).bind fun x15 => some x15 else some .undef).bind fun o16 =>
    (A.pick x11 (.bool true) o16).bind fun x17 => (A.isB false x17).bind fun t18 => (if t18 then (m1[5]?).bind fun x19 => (m2[5]?).bind fun x20 => (A.eq true 1 [] x19 x20).bind fun x21 => some x21 else some .undef).bind fun o22 =>
    (A.pick x17 (.bool true) o22).bind fun x23 => (A.isB false x23).bind fun t24 => (if t24 then (m1[6]?).bind fun x25 => (m2[6]?).bind fun x26 => (A.bin .neq x25 x26).bind fun x27 => some x27 else some .undef).bind fun o28 =>
    (A.pick x23 (.bool true) o28).bind fun x29 => (A.isB false x29).bind fun t30 => (if t30 then (m1[7]?).bind fun x31 => (m2[7]?).bind fun x32 => (A.bin .neq x31 x32).bind fun x33 => some x33 else some .undef).bind fun o34 =>
    (A.pick x29 (.bool true) o34).bind fun x35 => (A.isB false x35).bind fun t36 => (if t36 then (m1[8]?).bind fun x37 => (A.len false x37).bind fun x38 => (m2[8]?).bind fun x39 => (A.len false x39).bind fun x40 => (A.bin .neq x38 x40).bind fun x41 => some x41 else some .undef).bind fun o42 =>
    (A.pick x35 (.bool true) o42).bind fun x43 => (A.asB x43).bind fun t44 => if t44 then
    (some (.bool false)) else
    L (ref16_sameOp.l1 S L) [[(.int .i64 0)], m2, m1]
theorem ref16_sameOp.le : LeF Tryz.prog tb F.ref16_sameOp (ap2 ref16_sameOp) := le2 (fun S L a0 a1 => by kernel_rfl) (by kernel_rfl)
theorem ref16_sameOp.st {a0 a1 r : AV} (h : ref16_sameOp SX loopLim a0 a1 = some r) : SX.f F.ref16_sameOp [a0, a1] = some r := st1 ref16_sameOp.le h

noncomputable def ref16_Confs (S : Fns) (_L : LoopOp) (a0 : AV) (a1 : AV) : Option AV :=
    (A.csn true 3 a0).bind fun m1 => (A.csn true 3 a1).bind fun m2 => (S.f F.ref16_sameConf [(.agg m1), (.agg m2)]).bind fun x3 => some x3
theorem ref16_Confs.le : LeF Tryz.prog tb F.ref16_Confs (ap2 ref16_Confs) := le2 (fun S L a0 a1 => by kernel_rfl) (by kernel_rfl)
theorem ref16_Confs.st {a0 a1 r : AV} (h : ref16_Confs SX loopLim a0 a1 = some r) : SX.f F.ref16_Confs [a0, a1] = some r := st1 ref16_Confs.le h

noncomputable def ref04_Same.l1b (_S : Fns) (_L : LoopOp) (self : List (List AV) → Option AV) (x5_ : AV) (x1_ : AV) (x0_ : AV) : Option AV :=
    (A.len false x0_).bind fun x5 => (A.bin .lss x5_ x5).bind fun x6 => (A.asB x6).bind fun t7 => if t7 then
    ((A.elp 6 x0_ x5_).bind fun x8 => (A.ld .junk true 6 x8).bind fun x9 => (A.elp 6 x1_ x5_).bind fun x10 => (A.ld .junk true 6 x10).bind fun x11 => (A.eq true 2 [2, 1, 1, 2, 1, 1] x9 x11).bind fun x12 => (A.asB x12).bind fun t13 => if t13 then
    (some (.bool false)) else
    (A.bin .add x5_ (.int .i64 1)).bind fun x14 => self [[x14], [x1_], [x0_]]) else
    some (.bool true)
noncomputable def ref04_Same.l1 (S : Fns) (L : LoopOp) (self : List (List AV) → Option AV) : List (List AV) → Option AV := fun vs => ref04_Same.l1b S L self ((vs.headD []).headD .junk) ((vs.tail.headD []).headD .junk) ((vs.tail.tail.headD []).headD .junk)
noncomputable def ref04_Same (S : Fns) (L : LoopOp) (a0 : AV) (a1 : AV) : Option AV :=
    (A.len false a0).bind fun x1 => (A.len false a1).bind fun x2 => (A.bin .neq x1 x2).bind fun x3 => (A.asB x3).bind fun t4 => if t4 then
    (some (.bool false)) else
    L (ref04_Same.l1 S L) [[(.int .i64 0)], [a1], [a0]]
theorem ref04_Same.le : LeF Tryz.prog tb F.ref04_Same (ap2 ref04_Same) := le2 (fun S L a0 a1 => by kernel_rfl) (by kernel_rfl)
theorem ref04_Same.st {a0 a1 r : AV} (h : ref04_Same SX loopLim a0 a1 = some r) : SX.f F.ref04_Same [a0, a1] = some r := st1 ref04_Same.le h

noncomputable def ref12_Docs.l1b (S : Fns) (_L : LoopOp) (self : List (List AV) → Option AV) (x5_ : AV) (x1_ : AV) (x0_ : AV) : Option AV :=
    (A.len false x0_).bind fun x5 => (A.bin .lss x5_ x5).bind fun x6 => (A.asB x6).bind fun t7 => if t7 then
    ((A.elp 2 x0_ x5_).bind fun x8 => (A.fa 0 x8).bind fun x9 => (A.ld .junk false 1 x9).bind fun x10 => (A.elp 2 x1_ x5_).bind fun x11 => (A.fa 0 x11).bind fun x12 => (A.ld .junk false 1 x12).bind fun x13 => (A.bin .neq x10 x13).bind fun x14 => (A.isB false x14).bind fun t15 => (if t15 then (A.elp 2 x0_ x5_).bind fun x16 => (A.fa 1 x16).bind fun x17 => (A.ld .junk false 1 x17).bind fun x18 => (A.elp 2 x1_ x5_).bind fun x19 => (A.fa 1 x19).bind fun x20 => (A.ld .junk false 1 x20).bind fun x21 => (S.f F.ref04_Same [x18, x21]).bind fun x22 => (A.un .not x22).bind fun x23 => some x23 else some .undef).bind fun o24 =>
    (A.pick x14 (.bool true) o24).bind fun x25 => (A.asB x25).bind fun t26 => if t26 then
    (some (.bool false)) else
    (A.bin .add x5_ (.int .i64 1)).bind fun x27 => self [[x27], [x1_], [x0_]]) else
    some (.bool true)
noncomputable def ref12_Docs.l1 (S : Fns) (L : LoopOp) (self : List (List AV) → Option AV) : List (List AV) → Option AV := fun vs => ref12_Docs.l1b S L self ((vs.headD []).headD .junk) ((vs.tail.headD []).headD .junk) ((vs.tail.tail.headD []).headD .junk)
noncomputable def ref12_Docs (S : Fns) (L : LoopOp) (a0 : AV) (a1 : AV) : Option AV :=
    (A.len false a0).bind fun x1 => (A.len false a1).bind fun x2 => (A.bin .neq x1 x2).bind fun x3 => (A.asB x3).bind fun t4 => if t4 then
    (some (.bool false)) else
    L (ref12_Docs.l1 S L) [[(.int .i64 0)], [a1], [a0]]
theorem ref12_Docs.le : LeF Tryz.prog tb F.ref12_Docs (ap2 ref12_Docs) := le2 (fun S L a0 a1 => by kernel_rfl) (by kernel_rfl)
theorem ref12_Docs.st {a0 a1 r : AV} (h : ref12_Docs SX loopLim a0 a1 = some r) : SX.f F.ref12_Docs [a0, a1] = some r := st1 ref12_Docs.le h

noncomputable def ref12_News.l1b (S : Fns) (_L : LoopOp) (self : List (List AV) → Option AV) (x5_ : AV) (x1_ : AV) (x0_ : AV) : Option AV :=
    (A.len false x0_).bind fun x5 => (A.bin .lss x5_ x5).bind fun x6 => (A.asB x6).bind fun t7 => if t7 then
    ((A.elp 4 x0_ x5_).bind fun x8 => (A.fa 0 x8).bind fun x9 => (A.ld .junk false 1 x9).bind fun x10 => (A.elp 4 x1_ x5_).bind fun x11 => (A.fa 0 x11).bind fun x12 => (A.ld .junk false 1 x12).bind fun x13 => (A.bin .neq x10 x13).bind fun x14 => (A.isB false x14).bind fun t15 => (if t15 then (A.elp 4 x0_ x5_).bind fun x16 => (A.fa 1 x16).bind fun x17 => (A.ld .junk false 1 x17).bind fun x18 => (A.elp 4 x1_ x5_).bind fun x19 => (A.fa 1 x19).bind fun x20 => (A.ld .junk false 1 x20).bind fun x21 => (A.bin .neq x18 x21).bind fun x22 => some x22 else some .undef).bind fun o23 =>
    (A.pick x14 (.bool true) o23).bind fun x24 => (A.isB false x24).bind fun t25 => (if t25 then (A.elp 4 x0_ x5_).bind fun x26 => (A.fa 2 x26).bind fun x27 => (A.ld .junk false 1 x27).bind fun x28 => (A.elp 4 x1_ x5_).bind fun x29 => (A.fa 2 x29).bind fun x30 => (A.ld .junk false 1 x30).bind fun x31 => (A.eq true 1 [] x28 x31).bind fun x32 => some x32 else some .undef).bind fun o33 =>
    (A.pick x24 (.bool true) o33).bind fun x34 => (A.isB false x34).bind fun t35 => (if t35 then (A.elp 4 x0_ x5_).bind fun x36 => (A.fa 3 x36).bind fun x37 => (A.ld .junk false 1 x37).bind fun x38 => (A.elp 4 x1_ x5_).bind fun x39 => (A.fa 3 x39).bind fun x40 => (A.ld .junk false 1 x40).bind fun x41 => (S.f F.ref04_Same [x38, x41]).bind fun x42 => (A.un .not x42).bind fun x43 => some x43 else some .undef).bind fun o44 =>
    (A.pick x34 (.bool true) o44).bind fun x45 => (A.asB x45).bind fun t46 => if t46 then
    (some (.bool false)) else
    (A.bin .add x5_ (.int .i64 1)).bind fun x47 => self [[x47], [x1_], [x0_]]) else
    some (.bool true)
noncomputable def ref12_News.l1 (S : Fns) (L : LoopOp) (self : List (List AV) → Option AV) : List (List AV) → Option AV := fun vs => ref12_News.l1b S L self ((vs.headD []).headD .junk) ((vs.tail.headD []).headD .junk) ((vs.tail.tail.headD []).headD .junk)
noncomputable def ref12_News (S : Fns) (L : LoopOp) (a0 : AV) (a1 : AV) : Option AV :=
    (A.len false a0).bind fun x1 => (A.len false a1).bind fun x2 => (A.bin .neq x1 x2).bind fun x3 => (A.asB x3).bind fun t4 => if t4 then
    (some (.bool false)) else
    L (ref12_News.l1 S L) [[(.int .i64 0)], [a1], [a0]]
theorem ref12_News.le : LeF Tryz.prog tb F.ref12_News (ap2 ref12_News) := le2 (fun S L a0 a1 => by kernel_rfl) (by kernel_rfl)
theorem ref12_News.st {a0 a1 r : AV} (h : ref12_News SX loopLim a0 a1 = some r) : SX.f F.ref12_News [a0, a1] = some r := st1 ref12_News.le h

noncomputable def ref08_Same.l1b (_S : Fns) (_L : LoopOp) (self : List (List AV) → Option AV) (x5_ : AV) (x1_ : AV) (x0_ : AV) : Option AV :=
    (A.len false x0_).bind fun x5 => (A.bin .lss x5_ x5).bind fun x6 => (A.asB x6).bind fun t7 => if t7 then
    ((A.elp 2 x0_ x5_).bind fun x8 => (A.ld .junk true 2 x8).bind fun x9 => (A.elp 2 x1_ x5_).bind fun x10 => (A.ld .junk true 2 x10).bind fun x11 => (A.eq true 2 [2, 2] x9 x11).bind fun x12 => (A.asB x12).bind fun t13 => if t13 then
    (some (.bool false)) else
    (A.bin .add x5_ (.int .i64 1)).bind fun x14 => self [[x14], [x1_], [x0_]]) else
    some (.bool true)
noncomputable def ref08_Same.l1 (S : Fns) (L : LoopOp) (self : List (List AV) → Option AV) : List (List AV) → Option AV := fun vs => ref08_Same.l1b S L self ((vs.headD []).headD .junk) ((vs.tail.headD []).headD .junk) ((vs.tail.tail.headD []).headD .junk)
noncomputable def ref08_Same (S : Fns) (L : LoopOp) (a0 : AV) (a1 : AV) : Option AV :=
    (A.len false a0).bind fun x1 => (A.len false a1).bind fun x2 => (A.bin .neq x1 x2).bind fun x3 => (A.asB x3).bind fun t4 => if t4 then
    (some (.bool false)) else
    L (ref08_Same.l1 S L) [[(.int .i64 0)], [a1], [a0]]
theorem ref08_Same.le : LeF Tryz.prog tb F.ref08_Same (ap2 ref08_Same) := le2 (fun S L a0 a1 => by kernel_rfl) (by kernel_rfl)
theorem ref08_Same.st {a0 a1 r : AV} (h : ref08_Same SX loopLim a0 a1 = some r) : SX.f F.ref08_Same [a0, a1] = some r := st1 ref08_Same.le h

noncomputable def client_op.l1b (S : Fns) (_L : LoopOp) (self : List (List AV) → Option AV) (x28_ : AV) (x27_ : AV) (x26_ : AV) (m1_ : List AV) (m2_ : List AV) : Option AV :=
    (A.bin .lss x28_ x27_).bind fun x25 => (A.asB x25).bind fun t26 => if t26 then
    ((A.elp 11 x26_ x28_).bind fun x27 => (A.ld .junk true 11 x27).bind fun x28 => let _m29 : List AV := [(.int .i64 0), (.str []), (.str []), .nil, .nil, (.bool false), (.int .i64 0), (.int .i64 0), .nil, .nil, .nil]; (A.csn true 11 x28).bind fun m30 => (m1_[8]?).bind fun x31 => (S.f F.client_op [(.agg m30)]).bind fun x32 => (A.elp 11 x31 x28_).bind fun x33 => (A.st .junk true 11 x33 x32).bind fun _h34 => (A.bin .add x28_ (.int .i64 1)).bind fun x35 => self [[x35], [x27_], [x26_], m1_, m2_]) else
    (A.csn true 11 (.agg m1_)).bind fun m36 => some (.agg m36)
noncomputable def client_op.l1 (S : Fns) (L : LoopOp) (self : List (List AV) → Option AV) : List (List AV) → Option AV := fun vs => client_op.l1b S L self ((vs.headD []).headD .junk) ((vs.tail.headD []).headD .junk) ((vs.tail.tail.headD []).headD .junk) (vs.tail.tail.tail.headD []) (vs.tail.tail.tail.tail.headD [])
noncomputable def client_op (S : Fns) (L : LoopOp) (a0 : AV) : Option AV :=
    (A.csn true 11 a0).bind fun m1 => let m2 : List AV := [(.int .i64 0), (.str []), (.str []), .nil, .nil, (.bool false), (.int .i64 0), (.int .i64 0), .nil, .nil, .nil]; (m1[3]?).bind fun x3 => (S.f F.slices_Clone_Doc_Field [x3]).bind fun x4 => (m1[4]?).bind fun x5 => (S.f F.slices_Clone_Doc_Field [x5]).bind fun x6 => (m1[9]?).bind fun x7 => (S.f F.client_docs [x7]).bind fun x8 => (m1[10]?).bind fun x9 => (S.f F.client_news [x9]).bind fun x10 => (m1[8]?).bind fun x11 => (S.f F.slices_Clone_Op [x11]).bind fun x12 => (A.one x4).bind fun x13 => let m14 : List AV := m1.set 3 x13; (A.one x6).bind fun x15 => let m16 : List AV := m14.set 4 x15; (A.one x8).bind fun x17 => let m18 : List AV := m16.set 9 x17; (A.one x10).bind fun x19 => let m20 : List AV := m18.set 10 x19; (A.one x12).bind fun x21 => let m22 : List AV := m20.set 8 x21; (m22[8]?).bind fun x23 => (A.len false x23).bind fun x24 => L (client_op.l1 S L) [[(.int .i64 0)], [x24], [x23], m22, m2]
theorem client_op.le : LeF Tryz.prog tb F.client_op (ap1 client_op) := le1 (fun S L a0 => by kernel_rfl) (by kernel_rfl)
theorem client_op.st {a0 r : AV} (h : client_op SX loopLim a0 = some r) : SX.f F.client_op [a0] = some r := st1 client_op.le h

noncomputable def client_answer (S : Fns) (_L : LoopOp) (a0 : AV) : Option AV :=
    (A.csn true 8 a0).bind fun m1 => let _m2 : List AV := [(.int .i64 0), (.bool false), .nil, .nil, .nil, (.int .i64 0), (.int .i64 0), .nil]; (m1[2]?).bind fun x3 => (S.f F.slices_Clone_Doc_Field [x3]).bind fun x4 => (m1[3]?).bind fun x5 => (S.f F.client_docs [x5]).bind fun x6 => (m1[4]?).bind fun x7 => (S.f F.client_news [x7]).bind fun x8 => (m1[7]?).bind fun x9 => (S.f F.slices_Clone_Pair [x9]).bind fun x10 => (A.one x4).bind fun x11 => let m12 : List AV := m1.set 2 x11; (A.one x6).bind fun x13 => let m14 : List AV := m12.set 3 x13; (A.one x8).bind fun x15 => let m16 : List AV := m14.set 4 x15; (A.one x10).bind fun x17 => let m18 : List AV := m16.set 7 x17; (A.csn true 8 (.agg m18)).bind fun m19 => some (.agg m19)
theorem client_answer.le : LeF Tryz.prog tb F.client_answer (ap1 client_answer) := le1 (fun S L a0 => by kernel_rfl) (by kernel_rfl)
theorem client_answer.st {a0 r : AV} (h : client_answer SX loopLim a0 = some r) : SX.f F.client_answer [a0] = some r := st1 client_answer.le h

noncomputable def slices_Clone_Chain (_S : Fns) (_L : LoopOp) (a0 : AV) : Option AV :=
    (A.eq false 3 [] a0 .nil).bind fun x1 => (A.asB x1).bind fun t2 => if t2 then
    (some .nil) else
    (A.mksl 5 []).bind fun x3 => (A.app 5 64 x3 a0).bind fun x4 => some x4
theorem slices_Clone_Chain.le : LeF Tryz.prog tb F.slices_Clone_Chain (ap1 slices_Clone_Chain) := le1 (fun S L a0 => by kernel_rfl) (by kernel_rfl)
theorem slices_Clone_Chain.st {a0 r : AV} (h : slices_Clone_Chain SX loopLim a0 = some r) : SX.f F.slices_Clone_Chain [a0] = some r := st1 slices_Clone_Chain.le h

noncomputable def wire_nested.l1b (_S : Fns) (_L : LoopOp) (self : List (List AV) → Option AV) (x8_ : AV) (x7_ : AV) (x6_ : AV) : Option AV :=
    (A.bin .lss x8_ x7_).bind fun x4 => (A.asB x4).bind fun t5 => if t5 then
    ((A.elp 11 x6_ x8_).bind fun x6 => (A.ld .junk true 11 x6).bind fun x7 => let _m8 : List AV := [(.int .i64 0), (.str []), (.str []), .nil, .nil, (.bool false), (.int .i64 0), (.int .i64 0), .nil, .nil, .nil]; (A.csn true 11 x7).bind fun m9 => (m9[8]?).bind fun x10 => (A.len false x10).bind fun x11 => (A.bin .gtr x11 (.int .i64 0)).bind fun x12 => (A.asB x12).bind fun t13 => if t13 then
    (some (.bool true)) else
    (A.bin .add x8_ (.int .i64 1)).bind fun x14 => self [[x14], [x7_], [x6_]]) else
    some (.bool false)
noncomputable def wire_nested.l1 (S : Fns) (L : LoopOp) (self : List (List AV) → Option AV) : List (List AV) → Option AV := fun vs => wire_nested.l1b S L self ((vs.headD []).headD .junk) ((vs.tail.headD []).headD .junk) ((vs.tail.tail.headD []).headD .junk)
noncomputable def wire_nested (S : Fns) (L : LoopOp) (a0 : AV) : Option AV :=
    (A.csn true 11 a0).bind fun m1 => (m1[8]?).bind fun x2 => (A.len false x2).bind fun x3 => L (wire_nested.l1 S L) [[(.int .i64 0)], [x3], [x2]]
theorem wire_nested.le : LeF Tryz.prog tb F.wire_nested (ap1 wire_nested) := le1 (fun S L a0 => by kernel_rfl) (by kernel_rfl)
theorem wire_nested.st {a0 r : AV} (h : wire_nested SX loopLim a0 = some r) : SX.f F.wire_nested [a0] = some r := st1 wire_nested.le h

noncomputable def wire_encode (S : Fns) (_L : LoopOp) (a0 : AV) : Option AV :=
    (A.csn true 4 a0).bind fun m1 => (S.f F.cell_Encode [(.agg m1)]).bind fun x2 => (A.ext 0 x2).bind fun x3 => (A.ext 1 x2).bind fun x4 => (A.bin .neq x4 (.int .i64 0)).bind fun x5 => (A.isB false x5).bind fun t6 => (if t6 then (A.len false x3).bind fun x7 => (A.bin .gtr x7 (.int .i64 16384)).bind fun x8 => some x8 else some .undef).bind fun o9 =>
    (A.pick x5 (.bool true) o9).bind fun x10 => (A.asB x10).bind fun t11 => if t11 then
    (some (.tup [.nil, (.int .i64 1)])) else
    some (.tup [x3, (.int .i64 0)])
theorem wire_encode.le : LeF Tryz.prog tb F.wire_encode (ap1 wire_encode) := le1 (fun S L a0 => by kernel_rfl) (by kernel_rfl)
theorem wire_encode.st {a0 r : AV} (h : wire_encode SX loopLim a0 = some r) : SX.f F.wire_encode [a0] = some r := st1 wire_encode.le h

noncomputable def wire_good (_S : Fns) (_L : LoopOp)  : Option AV :=
    let _m1 : List AV := [.nilf]; (A.bld [.nilf] [(0, false, 1, (.fn F.wire_good_1 [] []))]).bind fun x2 => (A.cs true x2).bind fun m3 => some (.agg m3)
theorem wire_good.le : LeF Tryz.prog tb F.wire_good (ap0 wire_good) := le0 (fun S L => by kernel_rfl) (by kernel_rfl)
theorem wire_good.st {r : AV} (h : wire_good SX loopLim = some r) : SX.f F.wire_good [] = some r := st1 wire_good.le h

noncomputable def wire_maker_request (S : Fns) (_L : LoopOp) (a0 : AV) (a1 : AV) : Option AV :=
    (A.csn true 1 a0).bind fun m1 => (A.csn true 13 a1).bind fun m2 => let _m3 : List AV := [(.int .i64 0), (.int .i64 0), (.str []), .nil]; (m2[0]?).bind fun x4 => (S.f F.cell_Num [x4]).bind fun x5 => (m2[1]?).bind fun x6 => (S.f F.cell_Num [x6]).bind fun x7 => (S.f F.wire_maker_op [(.agg m1), (.agg ((m2.drop 2).take 11))]).bind fun x8 => (A.mksl 4 [x5, x7, x8]).bind fun x9 => (S.f F.cell_List [x9]).bind fun x10 => (A.csn true 4 x10).bind fun m11 => some (.agg m11)
theorem wire_maker_request.le : LeF Tryz.prog tb F.wire_maker_request (ap2 wire_maker_request) := le2 (fun S L a0 a1 => by kernel_rfl) (by kernel_rfl)
theorem wire_maker_request.st {a0 a1 r : AV} (h : wire_maker_request SX loopLim a0 a1 = some r) : SX.f F.wire_maker_request [a0, a1] = some r := st1 wire_maker_request.le h

noncomputable def conf_Chain (S : Fns) (_L : LoopOp) (a0 : AV) (a1 : AV) : Option AV :=
    (A.csn true 3 a0).bind fun m1 => let _m2 : List AV := [(.int .i64 0), (.str []), (.int .i64 0), .nil, (.int .i64 0)]; (S.f F.conf_at [(.agg m1), a1]).bind fun x3 => (A.bin .lss x3 (.int .i64 0)).bind fun x4 => (A.asB x4).bind fun t5 => if t5 then
    ((A.bld [(.int .i64 0), (.str []), (.int .i64 0), .nil, (.int .i64 0)] []).bind fun x6 => (A.cs true x6).bind fun m7 => some (.tup [(.agg m7), (.bool false)])) else
    (S.f F.conf_own [(.agg m1)]).bind fun x8 => (A.fld false 2 1 x8).bind fun x9 => (A.elp 5 x9 x3).bind fun x10 => (A.ld .junk true 5 x10).bind fun x11 => (A.csn true 5 x11).bind fun m12 => some (.tup [(.agg m12), (.bool true)])
theorem conf_Chain.le : LeF Tryz.prog tb F.conf_Chain (ap2 conf_Chain) := le2 (fun S L a0 a1 => by kernel_rfl) (by kernel_rfl)
theorem conf_Chain.st {a0 a1 r : AV} (h : conf_Chain SX loopLim a0 a1 = some r) : SX.f F.conf_Chain [a0, a1] = some r := st1 conf_Chain.le h

noncomputable def ballot_peers.l1b (S : Fns) (_L : LoopOp) (self : List (List AV) → Option AV) (x9_ : AV) (x8_ : AV) (x7_ : AV) (x1_ : AV) (x0_ : AV) : Option AV :=
    (A.bin .lss x9_ x8_).bind fun x2 => (A.asB x2).bind fun t3 => if t3 then
    ((A.elp 1 x7_ x9_).bind fun x4 => (A.ld .junk false 1 x4).bind fun x5 => (A.bin .lss x5 (.int .i64 1)).bind fun x6 => (A.isB false x6).bind fun t7 => (if t7 then (A.bin .gtr x5 (.int .i64 999)).bind fun x8 => some x8 else some .undef).bind fun o9 =>
    (A.pick x6 (.bool true) o9).bind fun x10 => (A.isB false x10).bind fun t11 => (if t11 then (A.bin .gtr x9_ (.int .i64 0)).bind fun x12 => some x12 else some .undef).bind fun o13 =>
    (A.isB true o13).bind fun t14 => (if t14 then (A.bin .sub x9_ (.int .i64 1)).bind fun x15 => (A.elp 1 x1_ x15).bind fun x16 => (A.ld .junk false 1 x16).bind fun x17 => (A.bin .leq x5 x17).bind fun x18 => some x18 else some .undef).bind fun o19 =>
    (A.isB false x10).bind fun t20 => (if t20 then (A.pick o13 o19 (.bool false)).bind fun x21 => some x21 else some .undef).bind fun o22 =>
    (A.pick x10 (.bool true) o22).bind fun x23 => (A.asB x23).bind fun t24 => if t24 then
    (some (.bool false)) else
    (A.bin .add x9_ (.int .i64 1)).bind fun x25 => self [[x25], [x8_], [x7_], [x1_], [x0_]]) else
    (A.len false x1_).bind fun x26 => (A.bin .leq x26 (.int .i64 5)).bind fun x27 => (A.isB true x27).bind fun t28 => (if t28 then (S.f F.slices_Contains_int [x1_, x0_]).bind fun x29 => some x29 else some .undef).bind fun o30 =>
    (A.pick x27 o30 (.bool false)).bind fun x31 => some x31
noncomputable def ballot_peers.l1 (S : Fns) (L : LoopOp) (self : List (List AV) → Option AV) : List (List AV) → Option AV := fun vs => ballot_peers.l1b S L self ((vs.headD []).headD .junk) ((vs.tail.headD []).headD .junk) ((vs.tail.tail.headD []).headD .junk) ((vs.tail.tail.tail.headD []).headD .junk) ((vs.tail.tail.tail.tail.headD []).headD .junk)
noncomputable def ballot_peers (S : Fns) (L : LoopOp) (a0 : AV) (a1 : AV) : Option AV :=
    (A.len false a1).bind fun x1 => L (ballot_peers.l1 S L) [[(.int .i64 0)], [x1], [a1], [a1], [a0]]
theorem ballot_peers.le : LeF Tryz.prog tb F.ballot_peers (ap2 ballot_peers) := le2 (fun S L a0 a1 => by kernel_rfl) (by kernel_rfl)
theorem ballot_peers.st {a0 a1 r : AV} (h : ballot_peers SX loopLim a0 a1 = some r) : SX.f F.ballot_peers [a0, a1] = some r := st1 ballot_peers.le h

noncomputable def ballot_records.l1b (S : Fns) (_L : LoopOp) (self : List (List AV) → Option AV) (x9_ : AV) (x8_ : AV) (x7_ : AV) (x0_ : AV) : Option AV :=
    (A.bin .lss x9_ x8_).bind fun x3 => (A.asB x3).bind fun t4 => if t4 then
    ((A.elp 2 x7_ x9_).bind fun x5 => (A.ld .junk true 2 x5).bind fun x6 => let _m7 : List AV := [(.int .i64 0), .nil]; (A.csn true 2 x6).bind fun m8 => (m8[1]?).bind fun x9 => (S.f F.slices_Clone_byte [x9]).bind fun x10 => (A.elp 2 x0_ x9_).bind fun x11 => (A.fa 1 x11).bind fun x12 => (A.st .junk false 1 x12 x10).bind fun _h13 => (A.bin .add x9_ (.int .i64 1)).bind fun x14 => self [[x14], [x8_], [x7_], [x0_]]) else
    some x0_
noncomputable def ballot_records.l1 (S : Fns) (L : LoopOp) (self : List (List AV) → Option AV) : List (List AV) → Option AV := fun vs => ballot_records.l1b S L self ((vs.headD []).headD .junk) ((vs.tail.headD []).headD .junk) ((vs.tail.tail.headD []).headD .junk) ((vs.tail.tail.tail.headD []).headD .junk)
noncomputable def ballot_records (S : Fns) (L : LoopOp) (a0 : AV) : Option AV :=
    (S.f F.slices_Clone_Log [a0]).bind fun x1 => (A.len false x1).bind fun x2 => L (ballot_records.l1 S L) [[(.int .i64 0)], [x2], [x1], [x1]]
theorem ballot_records.le : LeF Tryz.prog tb F.ballot_records (ap1 ballot_records) := le1 (fun S L a0 => by kernel_rfl) (by kernel_rfl)
theorem ballot_records.st {a0 r : AV} (h : ballot_records SX loopLim a0 = some r) : SX.f F.ballot_records [a0] = some r := st1 ballot_records.le h

noncomputable def ref16_sameConf.l1b (S : Fns) (_L : LoopOp) (self : List (List AV) → Option AV) (x5_ : AV) (m3_ : List AV) (m2_ : List AV) : Option AV :=
    (m2_[2]?).bind fun x21 => (A.len false x21).bind fun x22 => (A.bin .lss x5_ x22).bind fun x23 => (A.asB x23).bind fun t24 => if t24 then
    ((m2_[2]?).bind fun x25 => (A.elp 5 x25 x5_).bind fun x26 => (A.ld .junk true 5 x26).bind fun x27 => (m3_[2]?).bind fun x28 => (A.elp 5 x28 x5_).bind fun x29 => (A.ld .junk true 5 x29).bind fun x30 => let _m31 : List AV := [(.int .i64 0), (.str []), (.int .i64 0), .nil, (.int .i64 0)]; let _m32 : List AV := [(.int .i64 0), (.str []), (.int .i64 0), .nil, (.int .i64 0)]; (A.csn true 5 x27).bind fun m33 => (A.csn true 5 x30).bind fun m34 => (m33[0]?).bind fun x35 => (m34[0]?).bind fun x36 => (A.bin .neq x35 x36).bind fun x37 => (A.isB false x37).bind fun t38 => (if t38 then (m33[1]?).bind fun x39 => (m34[1]?).bind fun x40 => (A.bin .neq x39 x40).bind fun x41 => some x41 else some .undef).bind fun o42 =>
    (A.pick x37 (.bool true) o42).bind fun x43 => (A.isB false x43).bind fun t44 => (if t44 then (m33[2]?).bind fun x45 => (m34[2]?).bind fun x46 => (A.bin .neq x45 x46).bind fun x47 => some x47 else some .undef).bind fun o48 =>
    (A.pick x43 (.bool true) o48).bind fun x49 => (A.isB false x49).bind fun t50 => (if t50 then (m33[4]?).bind fun x51 => (m34[4]?).bind fun x52 => (A.bin .neq x51 x52).bind fun x53 => some x53 else some .undef).bind fun o54 =>
    (A.pick x49 (.bool true) o54).bind fun x55 => (A.isB false x55).bind fun t56 => (if t56 then (m33[3]?).bind fun x57 => (m34[3]?).bind fun x58 => (S.f F.ref16_Ints [x57, x58]).bind fun x59 => (A.un .not x59).bind fun x60 => some x60 else some .undef).bind fun o61 =>
    (A.pick x55 (.bool true) o61).bind fun x62 => (A.asB x62).bind fun t63 => if t63 then
    (some (.bool false)) else
    (A.bin .add x5_ (.int .i64 1)).bind fun x64 => self [[x64], m3_, m2_]) else
    some (.bool true)
noncomputable def ref16_sameConf.l1 (S : Fns) (L : LoopOp) (self : List (List AV) → Option AV) : List (List AV) → Option AV := fun vs => ref16_sameConf.l1b S L self ((vs.headD []).headD .junk) (vs.tail.headD []) (vs.tail.tail.headD [])
noncomputable def ref16_sameConf (S : Fns) (L : LoopOp) (a0 : AV) (a1 : AV) : Option AV :=
    (A.csn true 3 a0).bind fun m1 => (A.csn true 3 a1).bind fun m2 => (m1[0]?).bind fun x3 => (m2[0]?).bind fun x4 => (A.bin .neq x3 x4).bind fun x5 => (A.isB false x5).bind fun t6 => (if t6 then (m1[1]?).bind fun x7 => (m2[1]?).bind fun x8 => (A.bin .neq x7 x8).bind fun x9 => some x9 else some .undef).bind fun o10 =>
    (A.pick x5 (.bool true) o10).bind fun x11 => (A.isB false x11).bind fun t12 => (if t12 then (m1[2]?).bind fun x13 => (A.len false x13).bind fun x14 => (m2[2]?).bind fun x15 => (A.len false x15).bind fun x16 => (A.bin .neq x14 x16).bind fun x17 => some x17 else some .undef).bind fun o18 =>
    (A.pick x11 (.bool true) o18).bind fun x19 => (A.asB x19).bind fun t20 => if t20 then
    (some (.bool false)) else
    L (ref16_sameConf.l1 S L) [[(.int .i64 0)], m2, m1]
theorem ref16_sameConf.le : LeF Tryz.prog tb F.ref16_sameConf (ap2 ref16_sameConf) := le2 (fun S L a0 a1 => by kernel_rfl) (by kernel_rfl)
theorem ref16_sameConf.st {a0 a1 r : AV} (h : ref16_sameConf SX loopLim a0 a1 = some r) : SX.f F.ref16_sameConf [a0, a1] = some r := st1 ref16_sameConf.le h

noncomputable def slices_Clone_Doc_Field (_S : Fns) (_L : LoopOp) (a0 : AV) : Option AV :=
    (A.eq false 3 [] a0 .nil).bind fun x1 => (A.asB x1).bind fun t2 => if t2 then
    (some .nil) else
    (A.mksl 6 []).bind fun x3 => (A.app 6 64 x3 a0).bind fun x4 => some x4
theorem slices_Clone_Doc_Field.le : LeF Tryz.prog tb F.slices_Clone_Doc_Field (ap1 slices_Clone_Doc_Field) := le1 (fun S L a0 => by kernel_rfl) (by kernel_rfl)
theorem slices_Clone_Doc_Field.st {a0 r : AV} (h : slices_Clone_Doc_Field SX loopLim a0 = some r) : SX.f F.slices_Clone_Doc_Field [a0] = some r := st1 slices_Clone_Doc_Field.le h

noncomputable def client_docs.l1b (S : Fns) (_L : LoopOp) (self : List (List AV) → Option AV) (x9_ : AV) (x8_ : AV) (x7_ : AV) (x0_ : AV) : Option AV :=
    (A.bin .lss x9_ x8_).bind fun x3 => (A.asB x3).bind fun t4 => if t4 then
    ((A.elp 2 x7_ x9_).bind fun x5 => (A.ld .junk true 2 x5).bind fun x6 => let _m7 : List AV := [(.str []), .nil]; (A.csn true 2 x6).bind fun m8 => (m8[1]?).bind fun x9 => (S.f F.slices_Clone_Doc_Field [x9]).bind fun x10 => (A.elp 2 x0_ x9_).bind fun x11 => (A.fa 1 x11).bind fun x12 => (A.st .junk false 1 x12 x10).bind fun _h13 => (A.bin .add x9_ (.int .i64 1)).bind fun x14 => self [[x14], [x8_], [x7_], [x0_]]) else
    some x0_
noncomputable def client_docs.l1 (S : Fns) (L : LoopOp) (self : List (List AV) → Option AV) : List (List AV) → Option AV := fun vs => client_docs.l1b S L self ((vs.headD []).headD .junk) ((vs.tail.headD []).headD .junk) ((vs.tail.tail.headD []).headD .junk) ((vs.tail.tail.tail.headD []).headD .junk)
noncomputable def client_docs (S : Fns) (L : LoopOp) (a0 : AV) : Option AV :=
    (S.f F.slices_Clone_Named [a0]).bind fun x1 => (A.len false x1).bind fun x2 => L (client_docs.l1 S L) [[(.int .i64 0)], [x2], [x1], [x1]]
theorem client_docs.le : LeF Tryz.prog tb F.client_docs (ap1 client_docs) := le1 (fun S L a0 => by kernel_rfl) (by kernel_rfl)
theorem client_docs.st {a0 r : AV} (h : client_docs SX loopLim a0 = some r) : SX.f F.client_docs [a0] = some r := st1 client_docs.le h

end Go.Proofs.YtjfnncdafiiffaaGreatDoor

namespace Go.Proofs.YtjfnncdafiiffaaGreatDoor
open Go Tr

noncomputable def client_news.l1b (S : Fns) (_L : LoopOp) (self : List (List AV) → Option AV) (x9_ : AV) (x8_ : AV) (x7_ : AV) (x0_ : AV) : Option AV :=
    (A.bin .lss x9_ x8_).bind fun x3 => (A.asB x3).bind fun t4 => if t4 then
    ((A.elp 4 x7_ x9_).bind fun x5 => (A.ld .junk true 4 x5).bind fun x6 => let _m7 : List AV := [(.int .i64 0), (.str []), (.bool false), .nil]; (A.csn true 4 x6).bind fun m8 => (m8[3]?).bind fun x9 => (S.f F.slices_Clone_Doc_Field [x9]).bind fun x10 => (A.elp 4 x0_ x9_).bind fun x11 => (A.fa 3 x11).bind fun x12 => (A.st .junk false 1 x12 x10).bind fun _h13 => (A.bin .add x9_ (.int .i64 1)).bind fun x14 => self [[x14], [x8_], [x7_], [x0_]]) else
    some x0_
noncomputable def client_news.l1 (S : Fns) (L : LoopOp) (self : List (List AV) → Option AV) : List (List AV) → Option AV := fun vs => client_news.l1b S L self ((vs.headD []).headD .junk) ((vs.tail.headD []).headD .junk) ((vs.tail.tail.headD []).headD .junk) ((vs.tail.tail.tail.headD []).headD .junk)
noncomputable def client_news (S : Fns) (L : LoopOp) (a0 : AV) : Option AV :=
    (S.f F.slices_Clone_Change [a0]).bind fun x1 => (A.len false x1).bind fun x2 => L (client_news.l1 S L) [[(.int .i64 0)], [x2], [x1], [x1]]
theorem client_news.le : LeF Tryz.prog tb F.client_news (ap1 client_news) := le1 (fun S L a0 => by kernel_rfl) (by kernel_rfl)
theorem client_news.st {a0 r : AV} (h : client_news SX loopLim a0 = some r) : SX.f F.client_news [a0] = some r := st1 client_news.le h

noncomputable def slices_Clone_Op (_S : Fns) (_L : LoopOp) (a0 : AV) : Option AV :=
    (A.eq false 3 [] a0 .nil).bind fun x1 => (A.asB x1).bind fun t2 => if t2 then
    (some .nil) else
    (A.mksl 11 []).bind fun x3 => (A.app 11 184 x3 a0).bind fun x4 => some x4
theorem slices_Clone_Op.le : LeF Tryz.prog tb F.slices_Clone_Op (ap1 slices_Clone_Op) := le1 (fun S L a0 => by kernel_rfl) (by kernel_rfl)
theorem slices_Clone_Op.st {a0 r : AV} (h : slices_Clone_Op SX loopLim a0 = some r) : SX.f F.slices_Clone_Op [a0] = some r := st1 slices_Clone_Op.le h

noncomputable def slices_Clone_Pair (_S : Fns) (_L : LoopOp) (a0 : AV) : Option AV :=
    (A.eq false 3 [] a0 .nil).bind fun x1 => (A.asB x1).bind fun t2 => if t2 then
    (some .nil) else
    (A.mksl 2 []).bind fun x3 => (A.app 2 32 x3 a0).bind fun x4 => some x4
theorem slices_Clone_Pair.le : LeF Tryz.prog tb F.slices_Clone_Pair (ap1 slices_Clone_Pair) := le1 (fun S L a0 => by kernel_rfl) (by kernel_rfl)
theorem slices_Clone_Pair.st {a0 r : AV} (h : slices_Clone_Pair SX loopLim a0 = some r) : SX.f F.slices_Clone_Pair [a0] = some r := st1 slices_Clone_Pair.le h

noncomputable def cell_Encode (S : Fns) (_L : LoopOp) (a0 : AV) : Option AV :=
    (A.csn true 4 a0).bind fun m1 => (S.f F.cell_Check [(.agg m1)]).bind fun x2 => (A.bin .neq x2 (.int .i64 0)).bind fun x3 => (A.asB x3).bind fun t4 => if t4 then
    (some (.tup [.nil, x2])) else
    (S.f F.cell_put [.nil, (.agg m1)]).bind fun x5 => (A.eq false 3 [] x5 .nil).bind fun x6 => (A.asB x6).bind fun t7 => if t7 then
    (some (.tup [.nil, (.int .i64 3)])) else
    some (.tup [x5, (.int .i64 0)])
theorem cell_Encode.le : LeF Tryz.prog tb F.cell_Encode (ap1 cell_Encode) := le1 (fun S L a0 => by kernel_rfl) (by kernel_rfl)
theorem cell_Encode.st {a0 r : AV} (h : cell_Encode SX loopLim a0 = some r) : SX.f F.cell_Encode [a0] = some r := st1 cell_Encode.le h

noncomputable def wire_good_1 (S : Fns) (_L : LoopOp) (a0 : AV) : Option AV :=
    let _m1 : List AV := [(.int .i64 0), (.int .i64 0), (.str []), .nil]; (S.f F.paper_Cell [a0]).bind fun x2 => (A.ext 0 x2).bind fun x3 => (A.ext 1 x2).bind fun _x4 => let _m5 : List AV := [(.int .i64 0), (.int .i64 0), (.str []), .nil]; (A.csn true 4 x3).bind fun m6 => (A.csn true 4 (.agg m6)).bind fun m7 => some (.agg m7)
theorem wire_good_1.le : LeF Tryz.prog tb F.wire_good_1 (ap1 wire_good_1) := le1 (fun S L a0 => by kernel_rfl) (by kernel_rfl)
theorem wire_good_1.st {a0 r : AV} (h : wire_good_1 SX loopLim a0 = some r) : SX.f F.wire_good_1 [a0] = some r := st1 wire_good_1.le h

noncomputable def paper_Cell.l1b (S : Fns) (_L : LoopOp) (self : List (List AV) → Option AV) (x16_ : AV) (x15_ : AV) (x5_ : AV) (x14_ : AV) (m2_ : List AV) : Option AV :=
    (A.bin .lss x16_ x15_).bind fun x8 => (A.asB x8).bind fun t9 => if t9 then
    ((A.elp 6 x14_ x16_).bind fun x10 => (A.ld .junk true 6 x10).bind fun x11 => let _m12 : List AV := [(.str []), (.int .i64 0), (.int .i64 0), (.str []), (.int .i64 0), (.int .i64 0)]; (A.csn true 6 x11).bind fun m13 => (m13[0]?).bind fun x14 => (S.f F.cell_Text [x14]).bind fun x15 => (S.f F.paper_value [(.agg ((m13.drop 1).take 5))]).bind fun x16 => (A.mksl 4 [x15, x16]).bind fun x17 => (S.f F.cell_List [x17]).bind fun x18 => (A.mksl 4 [x18]).bind fun x19 => (A.app 4 56 x5_ x19).bind fun x20 => (A.bin .add x16_ (.int .i64 1)).bind fun x21 => self [[x21], [x15_], [x20], [x14_], m2_]) else
    (S.f F.cell_List [x5_]).bind fun x22 => (A.csn true 4 x22).bind fun m23 => some (.tup [(.agg m23), (.int .i64 0)])
noncomputable def paper_Cell.l1 (S : Fns) (L : LoopOp) (self : List (List AV) → Option AV) : List (List AV) → Option AV := fun vs => paper_Cell.l1b S L self ((vs.headD []).headD .junk) ((vs.tail.headD []).headD .junk) ((vs.tail.tail.headD []).headD .junk) ((vs.tail.tail.tail.headD []).headD .junk) (vs.tail.tail.tail.tail.headD [])
noncomputable def paper_Cell (S : Fns) (L : LoopOp) (a0 : AV) : Option AV :=
    let m1 : List AV := [(.int .i64 0), (.int .i64 0), (.str []), .nil]; (S.f F.paper_Check [a0]).bind fun x2 => (A.bin .neq x2 (.int .i64 0)).bind fun x3 => (A.asB x3).bind fun t4 => if t4 then
    ((A.bld [(.int .i64 0), (.int .i64 0), (.str []), .nil] []).bind fun x5 => (A.cs true x5).bind fun m6 => some (.tup [(.agg m6), x2])) else
    (A.len false a0).bind fun x7 => L (paper_Cell.l1 S L) [[(.int .i64 0)], [x7], [.nil], [a0], m1]
theorem paper_Cell.le : LeF Tryz.prog tb F.paper_Cell (ap1 paper_Cell) := le1 (fun S L a0 => by kernel_rfl) (by kernel_rfl)
theorem paper_Cell.st {a0 r : AV} (h : paper_Cell SX loopLim a0 = some r) : SX.f F.paper_Cell [a0] = some r := st1 paper_Cell.le h

noncomputable def cell_List (_S : Fns) (_L : LoopOp) (a0 : AV) : Option AV :=
    let _m1 : List AV := [(.int .i64 0), (.int .i64 0), (.str []), .nil]; (A.mksl 4 []).bind fun x2 => (A.app 4 56 x2 a0).bind fun x3 => (A.bld [(.int .i64 0), (.int .i64 0), (.str []), .nil] [(0, false, 1, (.int .i64 3)), (3, false, 1, x3)]).bind fun x4 => (A.cs true x4).bind fun m5 => some (.agg m5)
theorem cell_List.le : LeF Tryz.prog tb F.cell_List (ap1 cell_List) := le1 (fun S L a0 => by kernel_rfl) (by kernel_rfl)
theorem cell_List.st {a0 r : AV} (h : cell_List SX loopLim a0 = some r) : SX.f F.cell_List [a0] = some r := st1 cell_List.le h

noncomputable def cell_Num (_S : Fns) (_L : LoopOp) (a0 : AV) : Option AV :=
    let _m1 : List AV := [(.int .i64 0), (.int .i64 0), (.str []), .nil]; (A.bld [(.int .i64 0), (.int .i64 0), (.str []), .nil] [(0, false, 1, (.int .i64 1)), (1, false, 1, a0)]).bind fun x2 => (A.cs true x2).bind fun m3 => some (.agg m3)
theorem cell_Num.le : LeF Tryz.prog tb F.cell_Num (ap1 cell_Num) := le1 (fun S L a0 => by kernel_rfl) (by kernel_rfl)
theorem cell_Num.st {a0 r : AV} (h : cell_Num SX loopLim a0 = some r) : SX.f F.cell_Num [a0] = some r := st1 cell_Num.le h

noncomputable def wire_maker_op (S : Fns) (_L : LoopOp) (a0 : AV) (a1 : AV) : Option AV :=
    (A.csn true 1 a0).bind fun m1 => (A.csn true 11 a1).bind fun m2 => let _m3 : List AV := [(.int .i64 0), (.int .i64 0), (.str []), .nil]; (m2[0]?).bind fun x4 => (S.f F.cell_Num [x4]).bind fun x5 => (m2[1]?).bind fun x6 => (S.f F.cell_Text [x6]).bind fun x7 => (m2[2]?).bind fun x8 => (S.f F.cell_Text [x8]).bind fun x9 => (m1[0]?).bind fun x10 => (m2[3]?).bind fun x11 => (A.callv S x10 [x11]).bind fun x12 => (m1[0]?).bind fun x13 => (m2[4]?).bind fun x14 => (A.callv S x13 [x14]).bind fun x15 => (m2[5]?).bind fun x16 => (S.f F.wire_truth [x16]).bind fun x17 => (m2[6]?).bind fun x18 => (S.f F.cell_Num [x18]).bind fun x19 => (m2[7]?).bind fun x20 => (S.f F.cell_Num [x20]).bind fun x21 => (m2[8]?).bind fun x22 => (S.f F.wire_each_Op [x22, (.fn F.wire_maker_op [(.agg m1)] [])]).bind fun x23 => (m2[9]?).bind fun x24 => (S.f F.wire_each_Named [x24, (.fn F.wire_maker_named [(.agg m1)] [])]).bind fun x25 => (m2[10]?).bind fun x26 => (S.f F.wire_each_Change [x26, (.fn F.wire_maker_change [(.agg m1)] [])]).bind fun x27 => (A.mksl 4 [x5, x7, x9, x12, x15, x17, x19, x21, x23, x25, x27]).bind fun x28 => (S.f F.cell_List [x28]).bind fun x29 => (A.csn true 4 x29).bind fun m30 => some (.agg m30)
theorem wire_maker_op.le : LeF Tryz.prog tb F.wire_maker_op (ap2 wire_maker_op) := le2 (fun S L a0 a1 => by kernel_rfl) (by kernel_rfl)
theorem wire_maker_op.st {a0 a1 r : AV} (h : wire_maker_op SX loopLim a0 a1 = some r) : SX.f F.wire_maker_op [a0, a1] = some r := st1 wire_maker_op.le h

noncomputable def conf_at (S : Fns) (_L : LoopOp) (a0 : AV) (a1 : AV) : Option AV :=
    (A.csn true 3 a0).bind fun m1 => (A.csn false 1 a1).bind fun m2 => (m1[2]?).bind fun x3 => (S.f F.slices_IndexFunc_Chain [x3, (.fn F.conf_at_1 [] [(.ip m2)])]).bind fun x4 => some x4
theorem conf_at.le : LeF Tryz.prog tb F.conf_at (ap2 conf_at) := le2 (fun S L a0 a1 => by kernel_rfl) (by kernel_rfl)
theorem conf_at.st {a0 a1 r : AV} (h : conf_at SX loopLim a0 a1 = some r) : SX.f F.conf_at [a0, a1] = some r := st1 conf_at.le h

noncomputable def conf_own.l1b (S : Fns) (_L : LoopOp) (self : List (List AV) → Option AV) (x12_ : AV) (x11_ : AV) (x10_ : AV) (m1_ : List AV) (m2_ : List AV) : Option AV :=
    (A.bin .lss x12_ x11_).bind fun x9 => (A.asB x9).bind fun t10 => if t10 then
    ((A.elp 5 x10_ x12_).bind fun x11 => (A.ld .junk true 5 x11).bind fun x12 => let _m13 : List AV := [(.int .i64 0), (.str []), (.int .i64 0), .nil, (.int .i64 0)]; (A.csn true 5 x12).bind fun m14 => (m1_[2]?).bind fun x15 => (m14[3]?).bind fun x16 => (S.f F.slices_Clone_int [x16]).bind fun x17 => (A.elp 5 x15 x12_).bind fun x18 => (A.fa 3 x18).bind fun x19 => (A.st .junk false 1 x19 x17).bind fun _h20 => (A.bin .add x12_ (.int .i64 1)).bind fun x21 => self [[x21], [x11_], [x10_], m1_, m2_]) else
    (A.csn true 3 (.agg m1_)).bind fun m22 => some (.agg m22)
noncomputable def conf_own.l1 (S : Fns) (L : LoopOp) (self : List (List AV) → Option AV) : List (List AV) → Option AV := fun vs => conf_own.l1b S L self ((vs.headD []).headD .junk) ((vs.tail.headD []).headD .junk) ((vs.tail.tail.headD []).headD .junk) (vs.tail.tail.tail.headD []) (vs.tail.tail.tail.tail.headD [])
noncomputable def conf_own (S : Fns) (L : LoopOp) (a0 : AV) : Option AV :=
    (A.csn true 3 a0).bind fun m1 => let m2 : List AV := [(.int .i64 0), (.int .i64 0), .nil]; (m1[2]?).bind fun x3 => (S.f F.slices_Clone_Chain [x3]).bind fun x4 => (A.one x4).bind fun x5 => let m6 : List AV := m1.set 2 x5; (m6[2]?).bind fun x7 => (A.len false x7).bind fun x8 => L (conf_own.l1 S L) [[(.int .i64 0)], [x8], [x7], m6, m2]
theorem conf_own.le : LeF Tryz.prog tb F.conf_own (ap1 conf_own) := le1 (fun S L a0 => by kernel_rfl) (by kernel_rfl)
theorem conf_own.st {a0 r : AV} (h : conf_own SX loopLim a0 = some r) : SX.f F.conf_own [a0] = some r := st1 conf_own.le h

noncomputable def slices_Clone_Log (_S : Fns) (_L : LoopOp) (a0 : AV) : Option AV :=
    (A.eq false 3 [] a0 .nil).bind fun x1 => (A.asB x1).bind fun t2 => if t2 then
    (some .nil) else
    (A.mksl 2 []).bind fun x3 => (A.app 2 32 x3 a0).bind fun x4 => some x4
theorem slices_Clone_Log.le : LeF Tryz.prog tb F.slices_Clone_Log (ap1 slices_Clone_Log) := le1 (fun S L a0 => by kernel_rfl) (by kernel_rfl)
theorem slices_Clone_Log.st {a0 r : AV} (h : slices_Clone_Log SX loopLim a0 = some r) : SX.f F.slices_Clone_Log [a0] = some r := st1 slices_Clone_Log.le h

noncomputable def slices_Clone_byte (_S : Fns) (_L : LoopOp) (a0 : AV) : Option AV :=
    (A.eq false 3 [] a0 .nil).bind fun x1 => (A.asB x1).bind fun t2 => if t2 then
    (some .nil) else
    (A.mksl 1 []).bind fun x3 => (A.app 1 1 x3 a0).bind fun x4 => some x4
theorem slices_Clone_byte.le : LeF Tryz.prog tb F.slices_Clone_byte (ap1 slices_Clone_byte) := le1 (fun S L a0 => by kernel_rfl) (by kernel_rfl)
theorem slices_Clone_byte.st {a0 r : AV} (h : slices_Clone_byte SX loopLim a0 = some r) : SX.f F.slices_Clone_byte [a0] = some r := st1 slices_Clone_byte.le h

noncomputable def slices_Clone_Named (_S : Fns) (_L : LoopOp) (a0 : AV) : Option AV :=
    (A.eq false 3 [] a0 .nil).bind fun x1 => (A.asB x1).bind fun t2 => if t2 then
    (some .nil) else
    (A.mksl 2 []).bind fun x3 => (A.app 2 40 x3 a0).bind fun x4 => some x4
theorem slices_Clone_Named.le : LeF Tryz.prog tb F.slices_Clone_Named (ap1 slices_Clone_Named) := le1 (fun S L a0 => by kernel_rfl) (by kernel_rfl)
theorem slices_Clone_Named.st {a0 r : AV} (h : slices_Clone_Named SX loopLim a0 = some r) : SX.f F.slices_Clone_Named [a0] = some r := st1 slices_Clone_Named.le h

noncomputable def slices_Clone_Change (_S : Fns) (_L : LoopOp) (a0 : AV) : Option AV :=
    (A.eq false 3 [] a0 .nil).bind fun x1 => (A.asB x1).bind fun t2 => if t2 then
    (some .nil) else
    (A.mksl 4 []).bind fun x3 => (A.app 4 56 x3 a0).bind fun x4 => some x4
theorem slices_Clone_Change.le : LeF Tryz.prog tb F.slices_Clone_Change (ap1 slices_Clone_Change) := le1 (fun S L a0 => by kernel_rfl) (by kernel_rfl)
theorem slices_Clone_Change.st {a0 r : AV} (h : slices_Clone_Change SX loopLim a0 = some r) : SX.f F.slices_Clone_Change [a0] = some r := st1 slices_Clone_Change.le h

noncomputable def cell_Check (S : Fns) (_L : LoopOp) (a0 : AV) : Option AV :=
    (A.csn true 4 a0).bind fun m1 => (S.f F.cell_deep [(.agg m1), (.int .i64 12)]).bind fun x2 => (A.asB x2).bind fun t3 => if t3 then
    (some (.int .i64 13)) else
    (S.f F.cell_pure [(.agg m1)]).bind fun x4 => (A.un .not x4).bind fun x5 => (A.asB x5).bind fun t6 => if t6 then
    (some (.int .i64 1)) else
    (S.f F.cell_count [(.agg m1), (.int .i64 4096)]).bind fun x7 => (A.bin .lss x7 (.int .i64 0)).bind fun x8 => (A.asB x8).bind fun t9 => if t9 then
    (some (.int .i64 3)) else
    some (.int .i64 0)
theorem cell_Check.le : LeF Tryz.prog tb F.cell_Check (ap1 cell_Check) := le1 (fun S L a0 => by kernel_rfl) (by kernel_rfl)
theorem cell_Check.st {a0 r : AV} (h : cell_Check SX loopLim a0 = some r) : SX.f F.cell_Check [a0] = some r := st1 cell_Check.le h

noncomputable def cell_put.j1b (_S : Fns) (_L : LoopOp) (x0_ : AV) : Option AV :=
    (A.len false x0_).bind fun x6 => (A.bin .gtr x6 (.int .i64 65536)).bind fun x7 => (A.asB x7).bind fun t8 => if t8 then
    (some .nil) else
    some x0_
noncomputable def cell_put.j1 (S : Fns) (L : LoopOp) : List (List AV) → Option AV := fun vs => cell_put.j1b S L ((vs.headD []).headD .junk)
noncomputable def cell_put.j2b (S : Fns) (L : LoopOp) (x0_ : AV) (x5_ : AV) : Option AV :=
    (S.f F.cell_number [x0_, x5_]).bind fun x14 => Lab (cell_put.j1 S L) [[x14]]
noncomputable def cell_put.j2 (S : Fns) (L : LoopOp) : List (List AV) → Option AV := fun vs => cell_put.j2b S L ((vs.headD []).headD .junk) ((vs.tail.headD []).headD .junk)
noncomputable def cell_put.l3b (S : Fns) (L : LoopOp) (self : List (List AV) → Option AV) (x24_ : AV) (x23_ : AV) (x0_ : AV) (x22_ : AV) : Option AV :=
    (A.bin .lss x24_ x23_).bind fun x32 => (A.asB x32).bind fun t33 => if t33 then
    ((A.elp 4 x22_ x24_).bind fun x34 => (A.ld .junk true 4 x34).bind fun x35 => let _m36 : List AV := [(.int .i64 0), (.int .i64 0), (.str []), .nil]; (A.csn true 4 x35).bind fun m37 => (S.f F.cell_put [x0_, (.agg m37)]).bind fun x38 => (A.eq false 3 [] x38 .nil).bind fun x39 => (A.asB x39).bind fun t40 => if t40 then
    (some .nil) else
    (A.bin .add x24_ (.int .i64 1)).bind fun x41 => self [[x41], [x23_], [x38], [x22_]]) else
    Lab (cell_put.j1 S L) [[x0_]]
noncomputable def cell_put.l3 (S : Fns) (L : LoopOp) (self : List (List AV) → Option AV) : List (List AV) → Option AV := fun vs => cell_put.l3b S L self ((vs.headD []).headD .junk) ((vs.tail.headD []).headD .junk) ((vs.tail.tail.headD []).headD .junk) ((vs.tail.tail.tail.headD []).headD .junk)
noncomputable def cell_put (S : Fns) (L : LoopOp) (a0 : AV) (a1 : AV) : Option AV :=
    (A.csn true 4 a1).bind fun m1 => (m1[0]?).bind fun x2 => (A.cvi .u8 x2).bind fun x3 => (A.mksl 1 [x3]).bind fun x4 => (A.app 1 1 a0 x4).bind fun x5 => (m1[0]?).bind fun x9 => (A.bin .eql x9 (.int .i64 1)).bind fun x10 => (A.asB x10).bind fun t11 => if t11 then
    ((m1[1]?).bind fun x12 => (A.bin .mul (.int .i64 2) x12).bind fun x13 => (m1[1]?).bind fun x15 => (A.bin .lss x15 (.int .i64 0)).bind fun x16 => (A.asB x16).bind fun t17 => if t17 then
    ((A.un .neg x13).bind fun x18 => (A.bin .sub x18 (.int .i64 1)).bind fun x19 => Lab (cell_put.j2 S L) [[x5], [x19]]) else
    Lab (cell_put.j2 S L) [[x5], [x13]]) else
    (A.bin .eql x9 (.int .i64 2)).bind fun x20 => (A.asB x20).bind fun t21 => if t21 then
    ((m1[2]?).bind fun x22 => (A.len true x22).bind fun x23 => (S.f F.cell_number [x5, x23]).bind fun x24 => (m1[2]?).bind fun x25 => (A.app 1 1 x24 x25).bind fun x26 => Lab (cell_put.j1 S L) [[x26]]) else
    (m1[3]?).bind fun x27 => (A.len false x27).bind fun x28 => (S.f F.cell_number [x5, x28]).bind fun x29 => (m1[3]?).bind fun x30 => (A.len false x30).bind fun x31 => L (cell_put.l3 S L) [[(.int .i64 0)], [x31], [x29], [x30]]
theorem cell_put.le : LeF Tryz.prog tb F.cell_put (ap2 cell_put) := le2 (fun S L a0 a1 => by kernel_rfl) (by kernel_rfl)
theorem cell_put.st {a0 a1 r : AV} (h : cell_put SX loopLim a0 a1 = some r) : SX.f F.cell_put [a0, a1] = some r := st1 cell_put.le h

noncomputable def paper_Check.l1b (S : Fns) (_L : LoopOp) (self : List (List AV) → Option AV) (x7_ : AV) (x6_ : AV) (x5_ : AV) (x0_ : AV) : Option AV :=
    (A.bin .lss x7_ x6_).bind fun x2 => (A.asB x2).bind fun t3 => if t3 then
    ((A.elp 6 x5_ x7_).bind fun x4 => (A.ld .junk true 6 x4).bind fun x5 => let _m6 : List AV := [(.str []), (.int .i64 0), (.int .i64 0), (.str []), (.int .i64 0), (.int .i64 0)]; (A.csn true 6 x5).bind fun m7 => (A.bin .eql x7_ (.int .i64 16)).bind fun x8 => (A.isB false x8).bind fun t9 => (if t9 then (m7[0]?).bind fun x10 => (S.f F.paper_Path [x10]).bind fun x11 => (A.un .not x11).bind fun x12 => some x12 else some .undef).bind fun o13 =>
    (A.pick x8 (.bool true) o13).bind fun x14 => (A.isB false x14).bind fun t15 => (if t15 then (S.f F.rank_Check [(.agg ((m7.drop 1).take 5))]).bind fun x16 => (A.bin .neq x16 (.int .i64 0)).bind fun x17 => some x17 else some .undef).bind fun o18 =>
    (A.pick x14 (.bool true) o18).bind fun x19 => (A.isB false x19).bind fun t20 => (if t20 then (A.bin .gtr x7_ (.int .i64 0)).bind fun x21 => some x21 else some .undef).bind fun o22 =>
    (A.isB true o22).bind fun t23 => (if t23 then (m7[0]?).bind fun x24 => (A.bin .sub x7_ (.int .i64 1)).bind fun x25 => (A.elp 6 x0_ x25).bind fun x26 => (A.fa 0 x26).bind fun x27 => (A.ld .junk false 1 x27).bind fun x28 => (A.bin .leq x24 x28).bind fun x29 => some x29 else some .undef).bind fun o30 =>
    (A.isB false x19).bind fun t31 => (if t31 then (A.pick o22 o30 (.bool false)).bind fun x32 => some x32 else some .undef).bind fun o33 =>
    (A.pick x19 (.bool true) o33).bind fun x34 => (A.asB x34).bind fun t35 => if t35 then
    (some (.int .i64 1)) else
    (A.bin .add x7_ (.int .i64 1)).bind fun x36 => self [[x36], [x6_], [x5_], [x0_]]) else
    some (.int .i64 0)
noncomputable def paper_Check.l1 (S : Fns) (L : LoopOp) (self : List (List AV) → Option AV) : List (List AV) → Option AV := fun vs => paper_Check.l1b S L self ((vs.headD []).headD .junk) ((vs.tail.headD []).headD .junk) ((vs.tail.tail.headD []).headD .junk) ((vs.tail.tail.tail.headD []).headD .junk)
noncomputable def paper_Check (S : Fns) (L : LoopOp) (a0 : AV) : Option AV :=
    (A.len false a0).bind fun x1 => L (paper_Check.l1 S L) [[(.int .i64 0)], [x1], [a0], [a0]]
theorem paper_Check.le : LeF Tryz.prog tb F.paper_Check (ap1 paper_Check) := le1 (fun S L a0 => by kernel_rfl) (by kernel_rfl)
theorem paper_Check.st {a0 r : AV} (h : paper_Check SX loopLim a0 = some r) : SX.f F.paper_Check [a0] = some r := st1 paper_Check.le h

noncomputable def cell_Text (_S : Fns) (_L : LoopOp) (a0 : AV) : Option AV :=
    let _m1 : List AV := [(.int .i64 0), (.int .i64 0), (.str []), .nil]; (A.bld [(.int .i64 0), (.int .i64 0), (.str []), .nil] [(0, false, 1, (.int .i64 2)), (2, false, 1, a0)]).bind fun x2 => (A.cs true x2).bind fun m3 => some (.agg m3)
theorem cell_Text.le : LeF Tryz.prog tb F.cell_Text (ap1 cell_Text) := le1 (fun S L a0 => by kernel_rfl) (by kernel_rfl)
theorem cell_Text.st {a0 r : AV} (h : cell_Text SX loopLim a0 = some r) : SX.f F.cell_Text [a0] = some r := st1 cell_Text.le h

noncomputable def paper_value (S : Fns) (_L : LoopOp) (a0 : AV) : Option AV :=
    (A.csn true 5 a0).bind fun m1 => let _m2 : List AV := [(.int .i64 0), (.int .i64 0), (.str []), .nil]; (m1[0]?).bind fun x3 => (A.bin .eql x3 (.int .i64 1)).bind fun x4 => (A.asB x4).bind fun t5 => if t5 then
    ((m1[1]?).bind fun x6 => (S.f F.cell_Num [x6]).bind fun x7 => (A.csn true 4 x7).bind fun m8 => some (.agg m8)) else
    (A.bin .eql x3 (.int .i64 2)).bind fun x9 => (A.asB x9).bind fun t10 => if t10 then
    ((m1[2]?).bind fun x11 => (S.f F.cell_Text [x11]).bind fun x12 => (A.csn true 4 x12).bind fun m13 => some (.agg m13)) else
    (m1[3]?).bind fun x14 => (S.f F.cell_Num [x14]).bind fun x15 => (m1[4]?).bind fun x16 => (S.f F.cell_Num [x16]).bind fun x17 => (A.mksl 4 [x15, x17]).bind fun x18 => (S.f F.cell_List [x18]).bind fun x19 => (A.csn true 4 x19).bind fun m20 => some (.agg m20)
theorem paper_value.le : LeF Tryz.prog tb F.paper_value (ap1 paper_value) := le1 (fun S L a0 => by kernel_rfl) (by kernel_rfl)
theorem paper_value.st {a0 r : AV} (h : paper_value SX loopLim a0 = some r) : SX.f F.paper_value [a0] = some r := st1 paper_value.le h

noncomputable def wire_truth (S : Fns) (_L : LoopOp) (a0 : AV) : Option AV :=
    let _m1 : List AV := [(.int .i64 0), (.int .i64 0), (.str []), .nil]; (A.asB a0).bind fun t2 => if t2 then
    ((S.f F.cell_Num [(.int .i64 1)]).bind fun x3 => (A.csn true 4 x3).bind fun m4 => some (.agg m4)) else
    (S.f F.cell_Num [(.int .i64 0)]).bind fun x5 => (A.csn true 4 x5).bind fun m6 => some (.agg m6)
theorem wire_truth.le : LeF Tryz.prog tb F.wire_truth (ap1 wire_truth) := le1 (fun S L a0 => by kernel_rfl) (by kernel_rfl)
theorem wire_truth.st {a0 r : AV} (h : wire_truth SX loopLim a0 = some r) : SX.f F.wire_truth [a0] = some r := st1 wire_truth.le h

noncomputable def wire_each_Op.l1b (S : Fns) (_L : LoopOp) (self : List (List AV) → Option AV) (x10_ : AV) (x9_ : AV) (x1_ : AV) (x5_ : AV) (x8_ : AV) (m4_ : List AV) : Option AV :=
    (A.bin .lss x10_ x9_).bind fun x3 => (A.asB x3).bind fun t4 => if t4 then
    ((A.elp 11 x8_ x10_).bind fun x5 => (A.ld .junk true 11 x5).bind fun x6 => let _m7 : List AV := [(.int .i64 0), (.str []), (.str []), .nil, .nil, (.bool false), (.int .i64 0), (.int .i64 0), .nil, .nil, .nil]; (A.csn true 11 x6).bind fun m8 => (A.callv S x1_ [(.agg m8)]).bind fun x9 => (A.mksl 4 [x9]).bind fun x10 => (A.app 4 56 x5_ x10).bind fun x11 => (A.bin .add x10_ (.int .i64 1)).bind fun x12 => self [[x12], [x9_], [x1_], [x11], [x8_], m4_]) else
    (S.f F.cell_List [x5_]).bind fun x13 => (A.csn true 4 x13).bind fun m14 => some (.agg m14)
noncomputable def wire_each_Op.l1 (S : Fns) (L : LoopOp) (self : List (List AV) → Option AV) : List (List AV) → Option AV := fun vs => wire_each_Op.l1b S L self ((vs.headD []).headD .junk) ((vs.tail.headD []).headD .junk) ((vs.tail.tail.headD []).headD .junk) ((vs.tail.tail.tail.headD []).headD .junk) ((vs.tail.tail.tail.tail.headD []).headD .junk) (vs.tail.tail.tail.tail.tail.headD [])
noncomputable def wire_each_Op (S : Fns) (L : LoopOp) (a0 : AV) (a1 : AV) : Option AV :=
    let m1 : List AV := [(.int .i64 0), (.int .i64 0), (.str []), .nil]; (A.len false a0).bind fun x2 => L (wire_each_Op.l1 S L) [[(.int .i64 0)], [x2], [a1], [.nil], [a0], m1]
theorem wire_each_Op.le : LeF Tryz.prog tb F.wire_each_Op (ap2 wire_each_Op) := le2 (fun S L a0 a1 => by kernel_rfl) (by kernel_rfl)
theorem wire_each_Op.st {a0 a1 r : AV} (h : wire_each_Op SX loopLim a0 a1 = some r) : SX.f F.wire_each_Op [a0, a1] = some r := st1 wire_each_Op.le h

noncomputable def wire_each_Named.l1b (S : Fns) (_L : LoopOp) (self : List (List AV) → Option AV) (x10_ : AV) (x9_ : AV) (x1_ : AV) (x5_ : AV) (x8_ : AV) (m4_ : List AV) : Option AV :=
    (A.bin .lss x10_ x9_).bind fun x3 => (A.asB x3).bind fun t4 => if t4 then
    ((A.elp 2 x8_ x10_).bind fun x5 => (A.ld .junk true 2 x5).bind fun x6 => let _m7 : List AV := [(.str []), .nil]; (A.csn true 2 x6).bind fun m8 => (A.callv S x1_ [(.agg m8)]).bind fun x9 => (A.mksl 4 [x9]).bind fun x10 => (A.app 4 56 x5_ x10).bind fun x11 => (A.bin .add x10_ (.int .i64 1)).bind fun x12 => self [[x12], [x9_], [x1_], [x11], [x8_], m4_]) else
    (S.f F.cell_List [x5_]).bind fun x13 => (A.csn true 4 x13).bind fun m14 => some (.agg m14)
noncomputable def wire_each_Named.l1 (S : Fns) (L : LoopOp) (self : List (List AV) → Option AV) : List (List AV) → Option AV := fun vs => wire_each_Named.l1b S L self ((vs.headD []).headD .junk) ((vs.tail.headD []).headD .junk) ((vs.tail.tail.headD []).headD .junk) ((vs.tail.tail.tail.headD []).headD .junk) ((vs.tail.tail.tail.tail.headD []).headD .junk) (vs.tail.tail.tail.tail.tail.headD [])
noncomputable def wire_each_Named (S : Fns) (L : LoopOp) (a0 : AV) (a1 : AV) : Option AV :=
    let m1 : List AV := [(.int .i64 0), (.int .i64 0), (.str []), .nil]; (A.len false a0).bind fun x2 => L (wire_each_Named.l1 S L) [[(.int .i64 0)], [x2], [a1], [.nil], [a0], m1]
theorem wire_each_Named.le : LeF Tryz.prog tb F.wire_each_Named (ap2 wire_each_Named) := le2 (fun S L a0 a1 => by kernel_rfl) (by kernel_rfl)
theorem wire_each_Named.st {a0 a1 r : AV} (h : wire_each_Named SX loopLim a0 a1 = some r) : SX.f F.wire_each_Named [a0, a1] = some r := st1 wire_each_Named.le h

noncomputable def wire_maker_named (S : Fns) (_L : LoopOp) (a0 : AV) (a1 : AV) : Option AV :=
    (A.csn true 1 a0).bind fun m1 => (A.csn true 2 a1).bind fun m2 => let _m3 : List AV := [(.int .i64 0), (.int .i64 0), (.str []), .nil]; (m2[0]?).bind fun x4 => (S.f F.cell_Text [x4]).bind fun x5 => (m1[0]?).bind fun x6 => (m2[1]?).bind fun x7 => (A.callv S x6 [x7]).bind fun x8 => (A.mksl 4 [x5, x8]).bind fun x9 => (S.f F.cell_List [x9]).bind fun x10 => (A.csn true 4 x10).bind fun m11 => some (.agg m11)
theorem wire_maker_named.le : LeF Tryz.prog tb F.wire_maker_named (ap2 wire_maker_named) := le2 (fun S L a0 a1 => by kernel_rfl) (by kernel_rfl)
theorem wire_maker_named.st {a0 a1 r : AV} (h : wire_maker_named SX loopLim a0 a1 = some r) : SX.f F.wire_maker_named [a0, a1] = some r := st1 wire_maker_named.le h

noncomputable def wire_each_Change.l1b (S : Fns) (_L : LoopOp) (self : List (List AV) → Option AV) (x10_ : AV) (x9_ : AV) (x1_ : AV) (x5_ : AV) (x8_ : AV) (m4_ : List AV) : Option AV :=
    (A.bin .lss x10_ x9_).bind fun x3 => (A.asB x3).bind fun t4 => if t4 then
    ((A.elp 4 x8_ x10_).bind fun x5 => (A.ld .junk true 4 x5).bind fun x6 => let _m7 : List AV := [(.int .i64 0), (.str []), (.bool false), .nil]; (A.csn true 4 x6).bind fun m8 => (A.callv S x1_ [(.agg m8)]).bind fun x9 => (A.mksl 4 [x9]).bind fun x10 => (A.app 4 56 x5_ x10).bind fun x11 => (A.bin .add x10_ (.int .i64 1)).bind fun x12 => self [[x12], [x9_], [x1_], [x11], [x8_], m4_]) else
    (S.f F.cell_List [x5_]).bind fun x13 => (A.csn true 4 x13).bind fun m14 => some (.agg m14)
noncomputable def wire_each_Change.l1 (S : Fns) (L : LoopOp) (self : List (List AV) → Option AV) : List (List AV) → Option AV := fun vs => wire_each_Change.l1b S L self ((vs.headD []).headD .junk) ((vs.tail.headD []).headD .junk) ((vs.tail.tail.headD []).headD .junk) ((vs.tail.tail.tail.headD []).headD .junk) ((vs.tail.tail.tail.tail.headD []).headD .junk) (vs.tail.tail.tail.tail.tail.headD [])
noncomputable def wire_each_Change (S : Fns) (L : LoopOp) (a0 : AV) (a1 : AV) : Option AV :=
    let m1 : List AV := [(.int .i64 0), (.int .i64 0), (.str []), .nil]; (A.len false a0).bind fun x2 => L (wire_each_Change.l1 S L) [[(.int .i64 0)], [x2], [a1], [.nil], [a0], m1]
theorem wire_each_Change.le : LeF Tryz.prog tb F.wire_each_Change (ap2 wire_each_Change) := le2 (fun S L a0 a1 => by kernel_rfl) (by kernel_rfl)
theorem wire_each_Change.st {a0 a1 r : AV} (h : wire_each_Change SX loopLim a0 a1 = some r) : SX.f F.wire_each_Change [a0, a1] = some r := st1 wire_each_Change.le h

noncomputable def wire_maker_change (S : Fns) (_L : LoopOp) (a0 : AV) (a1 : AV) : Option AV :=
    (A.csn true 1 a0).bind fun m1 => (A.csn true 4 a1).bind fun m2 => let _m3 : List AV := [(.int .i64 0), (.int .i64 0), (.str []), .nil]; (m2[0]?).bind fun x4 => (S.f F.cell_Num [x4]).bind fun x5 => (m2[1]?).bind fun x6 => (S.f F.cell_Text [x6]).bind fun x7 => (m2[2]?).bind fun x8 => (S.f F.wire_truth [x8]).bind fun x9 => (m1[0]?).bind fun x10 => (m2[3]?).bind fun x11 => (A.callv S x10 [x11]).bind fun x12 => (A.mksl 4 [x5, x7, x9, x12]).bind fun x13 => (S.f F.cell_List [x13]).bind fun x14 => (A.csn true 4 x14).bind fun m15 => some (.agg m15)
theorem wire_maker_change.le : LeF Tryz.prog tb F.wire_maker_change (ap2 wire_maker_change) := le2 (fun S L a0 a1 => by kernel_rfl) (by kernel_rfl)
theorem wire_maker_change.st {a0 a1 r : AV} (h : wire_maker_change SX loopLim a0 a1 = some r) : SX.f F.wire_maker_change [a0, a1] = some r := st1 wire_maker_change.le h

noncomputable def slices_IndexFunc_Chain.l1b (S : Fns) (_L : LoopOp) (self : List (List AV) → Option AV) (x8_ : AV) (x7_ : AV) (x0_ : AV) (x1_ : AV) : Option AV :=
    (A.bin .lss x8_ x7_).bind fun x2 => (A.asB x2).bind fun t3 => if t3 then
    ((A.elp 5 x0_ x8_).bind fun x4 => (A.ld .junk true 5 x4).bind fun x5 => (A.callv S x1_ [x5]).bind fun x6 => (A.asB x6).bind fun t7 => if t7 then
    (some x8_) else
    (A.bin .add x8_ (.int .i64 1)).bind fun x8 => self [[x8], [x7_], [x0_], [x1_]]) else
    some (.int .i64 (-1))
noncomputable def slices_IndexFunc_Chain.l1 (S : Fns) (L : LoopOp) (self : List (List AV) → Option AV) : List (List AV) → Option AV := fun vs => slices_IndexFunc_Chain.l1b S L self ((vs.headD []).headD .junk) ((vs.tail.headD []).headD .junk) ((vs.tail.tail.headD []).headD .junk) ((vs.tail.tail.tail.headD []).headD .junk)
noncomputable def slices_IndexFunc_Chain (S : Fns) (L : LoopOp) (a0 : AV) (a1 : AV) : Option AV :=
    (A.len false a0).bind fun x1 => L (slices_IndexFunc_Chain.l1 S L) [[(.int .i64 0)], [x1], [a0], [a1]]
theorem slices_IndexFunc_Chain.le : LeF Tryz.prog tb F.slices_IndexFunc_Chain (ap2 slices_IndexFunc_Chain) := le2 (fun S L a0 a1 => by kernel_rfl) (by kernel_rfl)
theorem slices_IndexFunc_Chain.st {a0 a1 r : AV} (h : slices_IndexFunc_Chain SX loopLim a0 a1 = some r) : SX.f F.slices_IndexFunc_Chain [a0, a1] = some r := st1 slices_IndexFunc_Chain.le h

noncomputable def conf_at_1 (_S : Fns) (_L : LoopOp) (a0 : AV) (a1 : AV) : Option AV :=
    (A.csn true 5 a0).bind fun m1 => (m1[0]?).bind fun x2 => (A.ld .junk false 1 a1).bind fun x3 => (A.bin .eql x2 x3).bind fun x4 => some x4
theorem conf_at_1.le : LeF Tryz.prog tb F.conf_at_1 (ap2 conf_at_1) := le2 (fun S L a0 a1 => by kernel_rfl) (by kernel_rfl)
theorem conf_at_1.st {a0 a1 r : AV} (h : conf_at_1 SX loopLim a0 a1 = some r) : SX.f F.conf_at_1 [a0, a1] = some r := st1 conf_at_1.le h

noncomputable def cell_deep.l1b (S : Fns) (_L : LoopOp) (self : List (List AV) → Option AV) (x12_ : AV) (x11_ : AV) (x1_ : AV) (x10_ : AV) : Option AV :=
    (A.bin .lss x12_ x11_).bind fun x6 => (A.asB x6).bind fun t7 => if t7 then
    ((A.elp 4 x10_ x12_).bind fun x8 => (A.ld .junk true 4 x8).bind fun x9 => let _m10 : List AV := [(.int .i64 0), (.int .i64 0), (.str []), .nil]; (A.csn true 4 x9).bind fun m11 => (A.bin .sub x1_ (.int .i64 1)).bind fun x12 => (S.f F.cell_deep [(.agg m11), x12]).bind fun x13 => (A.asB x13).bind fun t14 => if t14 then
    (some (.bool true)) else
    (A.bin .add x12_ (.int .i64 1)).bind fun x15 => self [[x15], [x11_], [x1_], [x10_]]) else
    some (.bool false)
noncomputable def cell_deep.l1 (S : Fns) (L : LoopOp) (self : List (List AV) → Option AV) : List (List AV) → Option AV := fun vs => cell_deep.l1b S L self ((vs.headD []).headD .junk) ((vs.tail.headD []).headD .junk) ((vs.tail.tail.headD []).headD .junk) ((vs.tail.tail.tail.headD []).headD .junk)
noncomputable def cell_deep (S : Fns) (L : LoopOp) (a0 : AV) (a1 : AV) : Option AV :=
    (A.csn true 4 a0).bind fun m1 => (A.bin .eql a1 (.int .i64 0)).bind fun x2 => (A.asB x2).bind fun t3 => if t3 then
    (some (.bool true)) else
    (m1[3]?).bind fun x4 => (A.len false x4).bind fun x5 => L (cell_deep.l1 S L) [[(.int .i64 0)], [x5], [a1], [x4]]
theorem cell_deep.le : LeF Tryz.prog tb F.cell_deep (ap2 cell_deep) := le2 (fun S L a0 a1 => by kernel_rfl) (by kernel_rfl)
theorem cell_deep.st {a0 a1 r : AV} (h : cell_deep SX loopLim a0 a1 = some r) : SX.f F.cell_deep [a0, a1] = some r := st1 cell_deep.le h

noncomputable def cell_pure (S : Fns) (_L : LoopOp) (a0 : AV) : Option AV :=
    (A.csn true 4 a0).bind fun m1 => (m1[0]?).bind fun x2 => (A.bin .eql x2 (.int .i64 1)).bind fun x3 => (A.asB x3).bind fun t4 => if t4 then
    ((m1[1]?).bind fun x5 => (A.bin .geq x5 (.int .i64 (-9007199254740992))).bind fun x6 => (A.isB true x6).bind fun t7 => (if t7 then (m1[1]?).bind fun x8 => (A.bin .leq x8 (.int .i64 9007199254740992)).bind fun x9 => some x9 else some .undef).bind fun o10 =>
    (A.pick x6 o10 (.bool false)).bind fun x11 => (A.isB true x11).bind fun t12 => (if t12 then (m1[2]?).bind fun x13 => (A.bin .eql x13 (.str [])).bind fun x14 => some x14 else some .undef).bind fun o15 =>
    (A.pick x11 o15 (.bool false)).bind fun x16 => (A.isB true x16).bind fun t17 => (if t17 then (m1[3]?).bind fun x18 => (A.len false x18).bind fun x19 => (A.bin .eql x19 (.int .i64 0)).bind fun x20 => some x20 else some .undef).bind fun o21 =>
    (A.pick x16 o21 (.bool false)).bind fun x22 => some x22) else
    (A.bin .eql x2 (.int .i64 2)).bind fun x23 => (A.asB x23).bind fun t24 => if t24 then
    ((m1[1]?).bind fun x25 => (A.bin .eql x25 (.int .i64 0)).bind fun x26 => (A.isB true x26).bind fun t27 => (if t27 then (m1[3]?).bind fun x28 => (A.len false x28).bind fun x29 => (A.bin .eql x29 (.int .i64 0)).bind fun x30 => some x30 else some .undef).bind fun o31 =>
    (A.pick x26 o31 (.bool false)).bind fun x32 => some x32) else
    (A.bin .eql x2 (.int .i64 3)).bind fun x33 => (A.asB x33).bind fun t34 => if t34 then
    ((m1[1]?).bind fun x35 => (A.bin .eql x35 (.int .i64 0)).bind fun x36 => (A.isB true x36).bind fun t37 => (if t37 then (m1[2]?).bind fun x38 => (A.bin .eql x38 (.str [])).bind fun x39 => some x39 else some .undef).bind fun o40 =>
    (A.pick x36 o40 (.bool false)).bind fun x41 => (A.isB true x41).bind fun t42 => (if t42 then (m1[3]?).bind fun x43 => (S.f F.slices_ContainsFunc_Cell [x43, (.fn F.cell_pure_1 [] [])]).bind fun x44 => (A.un .not x44).bind fun x45 => some x45 else some .undef).bind fun o46 =>
    (A.pick x41 o46 (.bool false)).bind fun x47 => some x47) else
    some (.bool false)
theorem cell_pure.le : LeF Tryz.prog tb F.cell_pure (ap1 cell_pure) := le1 (fun S L a0 => by kernel_rfl) (by kernel_rfl)
theorem cell_pure.st {a0 r : AV} (h : cell_pure SX loopLim a0 = some r) : SX.f F.cell_pure [a0] = some r := st1 cell_pure.le h

noncomputable def cell_count.l1b (S : Fns) (_L : LoopOp) (self : List (List AV) → Option AV) (x16_ : AV) (x15_ : AV) (x1_ : AV) (x14_ : AV) : Option AV :=
    (A.bin .lss x16_ x15_).bind fun x9 => (A.asB x9).bind fun t10 => if t10 then
    ((A.elp 4 x14_ x16_).bind fun x11 => (A.ld .junk true 4 x11).bind fun x12 => let _m13 : List AV := [(.int .i64 0), (.int .i64 0), (.str []), .nil]; (A.csn true 4 x12).bind fun m14 => (A.bin .lss x1_ (.int .i64 0)).bind fun x15 => (A.asB x15).bind fun t16 => if t16 then
    (some (.int .i64 (-1))) else
    (S.f F.cell_count [(.agg m14), x1_]).bind fun x17 => (A.bin .add x16_ (.int .i64 1)).bind fun x18 => self [[x18], [x15_], [x17], [x14_]]) else
    some x1_
noncomputable def cell_count.l1 (S : Fns) (L : LoopOp) (self : List (List AV) → Option AV) : List (List AV) → Option AV := fun vs => cell_count.l1b S L self ((vs.headD []).headD .junk) ((vs.tail.headD []).headD .junk) ((vs.tail.tail.headD []).headD .junk) ((vs.tail.tail.tail.headD []).headD .junk)
noncomputable def cell_count (S : Fns) (L : LoopOp) (a0 : AV) (a1 : AV) : Option AV :=
    (A.csn true 4 a0).bind fun m1 => (m1[2]?).bind fun x2 => (A.len true x2).bind fun x3 => (A.bin .gtr x3 (.int .i64 65536)).bind fun x4 => (A.asB x4).bind fun t5 => if t5 then
    (some (.int .i64 (-1))) else
    (A.bin .sub a1 (.int .i64 1)).bind fun x6 => (m1[3]?).bind fun x7 => (A.len false x7).bind fun x8 => L (cell_count.l1 S L) [[(.int .i64 0)], [x8], [x6], [x7]]
theorem cell_count.le : LeF Tryz.prog tb F.cell_count (ap2 cell_count) := le2 (fun S L a0 a1 => by kernel_rfl) (by kernel_rfl)
theorem cell_count.st {a0 a1 r : AV} (h : cell_count SX loopLim a0 a1 = some r) : SX.f F.cell_count [a0, a1] = some r := st1 cell_count.le h

noncomputable def cell_number.l1b (_S : Fns) (_L : LoopOp) (self : List (List AV) → Option AV) (x1_ : AV) (x0_ : AV) : Option AV :=
    (A.bin .geq x1_ (.int .i64 128)).bind fun x1 => (A.asB x1).bind fun t2 => if t2 then
    ((A.cvi .u8 x1_).bind fun x3 => (A.bin .or x3 (.int .u8 128)).bind fun x4 => (A.mksl 1 [x4]).bind fun x5 => (A.app 1 1 x0_ x5).bind fun x6 => (A.bin .shr x1_ (.int .u64 7)).bind fun x7 => self [[x7], [x6]]) else
    (A.cvi .u8 x1_).bind fun x8 => (A.mksl 1 [x8]).bind fun x9 => (A.app 1 1 x0_ x9).bind fun x10 => some x10
noncomputable def cell_number.l1 (S : Fns) (L : LoopOp) (self : List (List AV) → Option AV) : List (List AV) → Option AV := fun vs => cell_number.l1b S L self ((vs.headD []).headD .junk) ((vs.tail.headD []).headD .junk)
noncomputable def cell_number (S : Fns) (L : LoopOp) (a0 : AV) (a1 : AV) : Option AV :=
    L (cell_number.l1 S L) [[a1], [a0]]
theorem cell_number.le : LeF Tryz.prog tb F.cell_number (ap2 cell_number) := le2 (fun S L a0 a1 => by kernel_rfl) (by kernel_rfl)
theorem cell_number.st {a0 a1 r : AV} (h : cell_number SX loopLim a0 a1 = some r) : SX.f F.cell_number [a0, a1] = some r := st1 cell_number.le h

noncomputable def paper_Path (S : Fns) (_L : LoopOp) (a0 : AV) : Option AV :=
    (S.f F.paper_Key [a0]).bind fun x1 => (A.isB true x1).bind fun t2 => (if t2 then (S.f F.strings_Split [a0, (.str [46])]).bind fun x3 => (S.f F.slices_ContainsFunc_string [x3, (.fn F.paper_Path_1 [] [])]).bind fun x4 => (A.un .not x4).bind fun x5 => some x5 else some .undef).bind fun o6 =>
    (A.pick x1 o6 (.bool false)).bind fun x7 => some x7
theorem paper_Path.le : LeF Tryz.prog tb F.paper_Path (ap1 paper_Path) := le1 (fun S L a0 => by kernel_rfl) (by kernel_rfl)
theorem paper_Path.st {a0 r : AV} (h : paper_Path SX loopLim a0 = some r) : SX.f F.paper_Path [a0] = some r := st1 paper_Path.le h

noncomputable def rank_Check.j1b (_S : Fns) (_L : LoopOp) (x3_ : AV) : Option AV :=
    (A.un .not x3_).bind fun x2 => (A.asB x2).bind fun t3 => if t3 then
    (some (.int .i64 1)) else
    some (.int .i64 0)
noncomputable def rank_Check.j1 (S : Fns) (L : LoopOp) : List (List AV) → Option AV := fun vs => rank_Check.j1b S L ((vs.headD []).headD .junk)
noncomputable def rank_Check (S : Fns) (L : LoopOp) (a0 : AV) : Option AV :=
    (A.csn true 5 a0).bind fun m1 => (m1[0]?).bind fun x4 => (A.bin .eql x4 (.int .i64 1)).bind fun x5 => (A.asB x5).bind fun t6 => if t6 then
    ((m1[1]?).bind fun x7 => (S.f F.rank_Num [x7]).bind fun x8 => (A.eq false 2 [1, 1, 2, 1, 1] (.agg m1) x8).bind fun x9 => (A.isB true x9).bind fun t10 => (if t10 then (m1[1]?).bind fun x11 => (A.bin .geq x11 (.int .i64 (-9007199254740992))).bind fun x12 => some x12 else some .undef).bind fun o13 =>
    (A.pick x9 o13 (.bool false)).bind fun x14 => (A.isB true x14).bind fun t15 => (if t15 then (m1[1]?).bind fun x16 => (A.bin .leq x16 (.int .i64 9007199254740992)).bind fun x17 => some x17 else some .undef).bind fun o18 =>
    (A.pick x14 o18 (.bool false)).bind fun x19 => Lab (rank_Check.j1 S L) [[x19]]) else
    (A.bin .eql x4 (.int .i64 3)).bind fun x20 => (A.asB x20).bind fun t21 => if t21 then
    ((m1[3]?).bind fun x22 => (m1[4]?).bind fun x23 => (S.f F.rank_Point [x22, x23]).bind fun x24 => (A.eq false 2 [1, 1, 2, 1, 1] (.agg m1) x24).bind fun x25 => (A.isB true x25).bind fun t26 => (if t26 then (m1[3]?).bind fun x27 => (S.f F.rank_part [x27]).bind fun x28 => some x28 else some .undef).bind fun o29 =>
    (A.pick x25 o29 (.bool false)).bind fun x30 => (A.isB true x30).bind fun t31 => (if t31 then (m1[4]?).bind fun x32 => (S.f F.rank_part [x32]).bind fun x33 => some x33 else some .undef).bind fun o34 =>
    (A.pick x30 o34 (.bool false)).bind fun x35 => Lab (rank_Check.j1 S L) [[x35]]) else
    (A.bin .eql x4 (.int .i64 2)).bind fun x36 => (A.asB x36).bind fun t37 => if t37 then
    ((m1[2]?).bind fun x38 => (S.f F.rank_Text [x38]).bind fun x39 => (A.eq false 2 [1, 1, 2, 1, 1] (.agg m1) x39).bind fun x40 => (m1[2]?).bind fun x41 => (A.len true x41).bind fun x42 => (A.bin .gtr x42 (.int .i64 256)).bind fun x43 => (A.asB x43).bind fun t44 => if t44 then
    (some (.int .i64 3)) else
    Lab (rank_Check.j1 S L) [[x40]]) else
    Lab (rank_Check.j1 S L) [[(.bool false)]]
theorem rank_Check.le : LeF Tryz.prog tb F.rank_Check (ap1 rank_Check) := le1 (fun S L a0 => by kernel_rfl) (by kernel_rfl)
theorem rank_Check.st {a0 r : AV} (h : rank_Check SX loopLim a0 = some r) : SX.f F.rank_Check [a0] = some r := st1 rank_Check.le h

noncomputable def slices_ContainsFunc_Cell (S : Fns) (_L : LoopOp) (a0 : AV) (a1 : AV) : Option AV :=
    (S.f F.slices_IndexFunc_Cell [a0, a1]).bind fun x1 => (A.bin .geq x1 (.int .i64 0)).bind fun x2 => some x2
theorem slices_ContainsFunc_Cell.le : LeF Tryz.prog tb F.slices_ContainsFunc_Cell (ap2 slices_ContainsFunc_Cell) := le2 (fun S L a0 a1 => by kernel_rfl) (by kernel_rfl)
theorem slices_ContainsFunc_Cell.st {a0 a1 r : AV} (h : slices_ContainsFunc_Cell SX loopLim a0 a1 = some r) : SX.f F.slices_ContainsFunc_Cell [a0, a1] = some r := st1 slices_ContainsFunc_Cell.le h

noncomputable def cell_pure_1 (S : Fns) (_L : LoopOp) (a0 : AV) : Option AV :=
    (A.csn true 4 a0).bind fun m1 => (S.f F.cell_pure [(.agg m1)]).bind fun x2 => (A.un .not x2).bind fun x3 => some x3
theorem cell_pure_1.le : LeF Tryz.prog tb F.cell_pure_1 (ap1 cell_pure_1) := le1 (fun S L a0 => by kernel_rfl) (by kernel_rfl)
theorem cell_pure_1.st {a0 r : AV} (h : cell_pure_1 SX loopLim a0 = some r) : SX.f F.cell_pure_1 [a0] = some r := st1 cell_pure_1.le h

noncomputable def paper_Key (_S : Fns) (_L : LoopOp) (a0 : AV) : Option AV :=
    (A.len true a0).bind fun x1 => (A.bin .geq x1 (.int .i64 1)).bind fun x2 => (A.isB true x2).bind fun t3 => (if t3 then (A.len true a0).bind fun x4 => (A.bin .leq x4 (.int .i64 64)).bind fun x5 => some x5 else some .undef).bind fun o6 =>
    (A.pick x2 o6 (.bool false)).bind fun x7 => some x7
theorem paper_Key.le : LeF Tryz.prog tb F.paper_Key (ap1 paper_Key) := le1 (fun S L a0 => by kernel_rfl) (by kernel_rfl)
theorem paper_Key.st {a0 r : AV} (h : paper_Key SX loopLim a0 = some r) : SX.f F.paper_Key [a0] = some r := st1 paper_Key.le h

noncomputable def slices_ContainsFunc_string (S : Fns) (_L : LoopOp) (a0 : AV) (a1 : AV) : Option AV :=
    (S.f F.slices_IndexFunc_string [a0, a1]).bind fun x1 => (A.bin .geq x1 (.int .i64 0)).bind fun x2 => some x2
theorem slices_ContainsFunc_string.le : LeF Tryz.prog tb F.slices_ContainsFunc_string (ap2 slices_ContainsFunc_string) := le2 (fun S L a0 a1 => by kernel_rfl) (by kernel_rfl)
theorem slices_ContainsFunc_string.st {a0 a1 r : AV} (h : slices_ContainsFunc_string SX loopLim a0 a1 = some r) : SX.f F.slices_ContainsFunc_string [a0, a1] = some r := st1 slices_ContainsFunc_string.le h

noncomputable def strings_Split (S : Fns) (_L : LoopOp) (a0 : AV) (a1 : AV) : Option AV :=
    (S.f F.x90 [a0, a1, (.int .i64 0), (.int .i64 (-1))]).bind fun x1 => some x1
theorem strings_Split.le : LeF Tryz.prog tb F.strings_Split (ap2 strings_Split) := le2 (fun S L a0 a1 => by kernel_rfl) (by kernel_rfl)
theorem strings_Split.st {a0 a1 r : AV} (h : strings_Split SX loopLim a0 a1 = some r) : SX.f F.strings_Split [a0, a1] = some r := st1 strings_Split.le h

noncomputable def paper_Path_1 (S : Fns) (_L : LoopOp) (a0 : AV) : Option AV :=
    (A.bin .eql a0 (.str [])).bind fun x1 => (A.isB false x1).bind fun t2 => (if t2 then (S.f F.x83 [a0, (.str [97, 98, 99, 100, 101, 102, 103, 104, 105, 106, 107, 108, 109, 110, 111, 112, 113, 114, 115, 116, 117, 118, 119, 120, 121, 122, 48, 49, 50, 51, 52, 53, 54, 55, 56, 57])]).bind fun x3 => (A.bin .neq x3 (.str [])).bind fun x4 => some x4 else some .undef).bind fun o5 =>
    (A.pick x1 (.bool true) o5).bind fun x6 => some x6
theorem paper_Path_1.le : LeF Tryz.prog tb F.paper_Path_1 (ap1 paper_Path_1) := le1 (fun S L a0 => by kernel_rfl) (by kernel_rfl)
theorem paper_Path_1.st {a0 r : AV} (h : paper_Path_1 SX loopLim a0 = some r) : SX.f F.paper_Path_1 [a0] = some r := st1 paper_Path_1.le h

end Go.Proofs.YtjfnncdafiiffaaGreatDoor

namespace Go.Proofs.YtjfnncdafiiffaaGreatDoor
open Go Tr

noncomputable def rank_Num (_S : Fns) (_L : LoopOp) (a0 : AV) : Option AV :=
    let _m1 : List AV := [(.int .i64 0), (.int .i64 0), (.str []), (.int .i64 0), (.int .i64 0)]; (A.bld [(.int .i64 0), (.int .i64 0), (.str []), (.int .i64 0), (.int .i64 0)] [(0, false, 1, (.int .i64 1)), (1, false, 1, a0)]).bind fun x2 => (A.cs true x2).bind fun m3 => some (.agg m3)
theorem rank_Num.le : LeF Tryz.prog tb F.rank_Num (ap1 rank_Num) := le1 (fun S L a0 => by kernel_rfl) (by kernel_rfl)
theorem rank_Num.st {a0 r : AV} (h : rank_Num SX loopLim a0 = some r) : SX.f F.rank_Num [a0] = some r := st1 rank_Num.le h

noncomputable def rank_Point (_S : Fns) (_L : LoopOp) (a0 : AV) (a1 : AV) : Option AV :=
    let _m1 : List AV := [(.int .i64 0), (.int .i64 0), (.str []), (.int .i64 0), (.int .i64 0)]; (A.bld [(.int .i64 0), (.int .i64 0)] [(0, false, 1, a0), (1, false, 1, a1)]).bind fun x2 => (A.bld [(.int .i64 0), (.int .i64 0), (.str []), (.int .i64 0), (.int .i64 0)] [(0, false, 1, (.int .i64 3)), (3, true, 2, x2)]).bind fun x3 => (A.cs true x3).bind fun m4 => some (.agg m4)
theorem rank_Point.le : LeF Tryz.prog tb F.rank_Point (ap2 rank_Point) := le2 (fun S L a0 a1 => by kernel_rfl) (by kernel_rfl)
theorem rank_Point.st {a0 a1 r : AV} (h : rank_Point SX loopLim a0 a1 = some r) : SX.f F.rank_Point [a0, a1] = some r := st1 rank_Point.le h

noncomputable def rank_part (_S : Fns) (_L : LoopOp) (a0 : AV) : Option AV :=
    (A.bin .geq a0 (.int .i64 (-1048576))).bind fun x1 => (A.isB true x1).bind fun t2 => (if t2 then (A.bin .leq a0 (.int .i64 1048576)).bind fun x3 => some x3 else some .undef).bind fun o4 =>
    (A.pick x1 o4 (.bool false)).bind fun x5 => some x5
theorem rank_part.le : LeF Tryz.prog tb F.rank_part (ap1 rank_part) := le1 (fun S L a0 => by kernel_rfl) (by kernel_rfl)
theorem rank_part.st {a0 r : AV} (h : rank_part SX loopLim a0 = some r) : SX.f F.rank_part [a0] = some r := st1 rank_part.le h

noncomputable def rank_Text (_S : Fns) (_L : LoopOp) (a0 : AV) : Option AV :=
    let _m1 : List AV := [(.int .i64 0), (.int .i64 0), (.str []), (.int .i64 0), (.int .i64 0)]; (A.bld [(.int .i64 0), (.int .i64 0), (.str []), (.int .i64 0), (.int .i64 0)] [(0, false, 1, (.int .i64 2)), (2, false, 1, a0)]).bind fun x2 => (A.cs true x2).bind fun m3 => some (.agg m3)
theorem rank_Text.le : LeF Tryz.prog tb F.rank_Text (ap1 rank_Text) := le1 (fun S L a0 => by kernel_rfl) (by kernel_rfl)
theorem rank_Text.st {a0 r : AV} (h : rank_Text SX loopLim a0 = some r) : SX.f F.rank_Text [a0] = some r := st1 rank_Text.le h

noncomputable def slices_IndexFunc_Cell.l1b (S : Fns) (_L : LoopOp) (self : List (List AV) → Option AV) (x8_ : AV) (x7_ : AV) (x0_ : AV) (x1_ : AV) : Option AV :=
    (A.bin .lss x8_ x7_).bind fun x2 => (A.asB x2).bind fun t3 => if t3 then
    ((A.elp 4 x0_ x8_).bind fun x4 => (A.ld .junk true 4 x4).bind fun x5 => (A.callv S x1_ [x5]).bind fun x6 => (A.asB x6).bind fun t7 => if t7 then
    (some x8_) else
    (A.bin .add x8_ (.int .i64 1)).bind fun x8 => self [[x8], [x7_], [x0_], [x1_]]) else
    some (.int .i64 (-1))
noncomputable def slices_IndexFunc_Cell.l1 (S : Fns) (L : LoopOp) (self : List (List AV) → Option AV) : List (List AV) → Option AV := fun vs => slices_IndexFunc_Cell.l1b S L self ((vs.headD []).headD .junk) ((vs.tail.headD []).headD .junk) ((vs.tail.tail.headD []).headD .junk) ((vs.tail.tail.tail.headD []).headD .junk)
noncomputable def slices_IndexFunc_Cell (S : Fns) (L : LoopOp) (a0 : AV) (a1 : AV) : Option AV :=
    (A.len false a0).bind fun x1 => L (slices_IndexFunc_Cell.l1 S L) [[(.int .i64 0)], [x1], [a0], [a1]]
theorem slices_IndexFunc_Cell.le : LeF Tryz.prog tb F.slices_IndexFunc_Cell (ap2 slices_IndexFunc_Cell) := le2 (fun S L a0 a1 => by kernel_rfl) (by kernel_rfl)
theorem slices_IndexFunc_Cell.st {a0 a1 r : AV} (h : slices_IndexFunc_Cell SX loopLim a0 a1 = some r) : SX.f F.slices_IndexFunc_Cell [a0, a1] = some r := st1 slices_IndexFunc_Cell.le h

noncomputable def slices_IndexFunc_string.l1b (S : Fns) (_L : LoopOp) (self : List (List AV) → Option AV) (x8_ : AV) (x7_ : AV) (x0_ : AV) (x1_ : AV) : Option AV :=
    (A.bin .lss x8_ x7_).bind fun x2 => (A.asB x2).bind fun t3 => if t3 then
    ((A.elp 1 x0_ x8_).bind fun x4 => (A.ld .junk false 1 x4).bind fun x5 => (A.callv S x1_ [x5]).bind fun x6 => (A.asB x6).bind fun t7 => if t7 then
    (some x8_) else
    (A.bin .add x8_ (.int .i64 1)).bind fun x8 => self [[x8], [x7_], [x0_], [x1_]]) else
    some (.int .i64 (-1))
noncomputable def slices_IndexFunc_string.l1 (S : Fns) (L : LoopOp) (self : List (List AV) → Option AV) : List (List AV) → Option AV := fun vs => slices_IndexFunc_string.l1b S L self ((vs.headD []).headD .junk) ((vs.tail.headD []).headD .junk) ((vs.tail.tail.headD []).headD .junk) ((vs.tail.tail.tail.headD []).headD .junk)
noncomputable def slices_IndexFunc_string (S : Fns) (L : LoopOp) (a0 : AV) (a1 : AV) : Option AV :=
    (A.len false a0).bind fun x1 => L (slices_IndexFunc_string.l1 S L) [[(.int .i64 0)], [x1], [a0], [a1]]
theorem slices_IndexFunc_string.le : LeF Tryz.prog tb F.slices_IndexFunc_string (ap2 slices_IndexFunc_string) := le2 (fun S L a0 a1 => by kernel_rfl) (by kernel_rfl)
theorem slices_IndexFunc_string.st {a0 a1 r : AV} (h : slices_IndexFunc_string SX loopLim a0 a1 = some r) : SX.f F.slices_IndexFunc_string [a0, a1] = some r := st1 slices_IndexFunc_string.le h

end Go.Proofs.YtjfnncdafiiffaaGreatDoor

namespace Go.Proofs.YtjfnncdafiiffaaGreatDoor
open Go Tr
noncomputable def shT : List (Nat × ShF) := [(F.law24_ClientNew, ap2 law24_ClientNew), (F.law24_awake, ap0 law24_awake), (F.client_New, ap2 client_New), (F.ref24_May, ap2 ref24_May), (F.ref24_Same, ap2 ref24_Same), (F.client_Begin, ap3 client_Begin), (F.client_Tick, ap1 client_Tick), (F.slices_Contains_int, ap2 slices_Contains_int), (F.ballot_New, ap2 ballot_New), (F.slices_Clone_int, ap1 slices_Clone_int), (F.ref18_Masters, ap2 ref18_Masters), (F.ref16_SameRequest, ap2 ref16_SameRequest), (F.ref16_Ints, ap2 ref16_Ints), (F.ref19_Same, ap2 ref19_Same), (F.ref12_Same, ap2 ref12_Same), (F.client_own, ap1 client_own), (F.wire_Request, ap1 wire_Request), (F.client_request, ap1 client_request), (F.client_ask, ap1 client_ask), (F.slices_Index_int, ap2 slices_Index_int), (F.ballot_Restore, ap5 ballot_Restore), (F.ref16_sameOp, ap2 ref16_sameOp), (F.ref16_Confs, ap2 ref16_Confs), (F.ref04_Same, ap2 ref04_Same), (F.ref12_Docs, ap2 ref12_Docs), (F.ref12_News, ap2 ref12_News), (F.ref08_Same, ap2 ref08_Same), (F.client_op, ap1 client_op), (F.client_answer, ap1 client_answer), (F.slices_Clone_Chain, ap1 slices_Clone_Chain), (F.wire_nested, ap1 wire_nested), (F.wire_encode, ap1 wire_encode), (F.wire_good, ap0 wire_good), (F.wire_maker_request, ap2 wire_maker_request), (F.conf_Chain, ap2 conf_Chain), (F.ballot_peers, ap2 ballot_peers), (F.ballot_records, ap1 ballot_records), (F.ref16_sameConf, ap2 ref16_sameConf), (F.slices_Clone_Doc_Field, ap1 slices_Clone_Doc_Field), (F.client_docs, ap1 client_docs), (F.client_news, ap1 client_news), (F.slices_Clone_Op, ap1 slices_Clone_Op), (F.slices_Clone_Pair, ap1 slices_Clone_Pair), (F.cell_Encode, ap1 cell_Encode), (F.wire_good_1, ap1 wire_good_1), (F.paper_Cell, ap1 paper_Cell), (F.cell_List, ap1 cell_List), (F.cell_Num, ap1 cell_Num), (F.wire_maker_op, ap2 wire_maker_op), (F.conf_at, ap2 conf_at), (F.conf_own, ap1 conf_own), (F.slices_Clone_Log, ap1 slices_Clone_Log), (F.slices_Clone_byte, ap1 slices_Clone_byte), (F.slices_Clone_Named, ap1 slices_Clone_Named), (F.slices_Clone_Change, ap1 slices_Clone_Change), (F.cell_Check, ap1 cell_Check), (F.cell_put, ap2 cell_put), (F.paper_Check, ap1 paper_Check), (F.cell_Text, ap1 cell_Text), (F.paper_value, ap1 paper_value), (F.wire_truth, ap1 wire_truth), (F.wire_each_Op, ap2 wire_each_Op), (F.wire_each_Named, ap2 wire_each_Named), (F.wire_maker_named, ap2 wire_maker_named), (F.wire_each_Change, ap2 wire_each_Change), (F.wire_maker_change, ap2 wire_maker_change), (F.slices_IndexFunc_Chain, ap2 slices_IndexFunc_Chain), (F.conf_at_1, ap2 conf_at_1), (F.cell_deep, ap2 cell_deep), (F.cell_pure, ap1 cell_pure), (F.cell_count, ap2 cell_count), (F.cell_number, ap2 cell_number), (F.paper_Path, ap1 paper_Path), (F.rank_Check, ap1 rank_Check), (F.slices_ContainsFunc_Cell, ap2 slices_ContainsFunc_Cell), (F.cell_pure_1, ap1 cell_pure_1), (F.paper_Key, ap1 paper_Key), (F.slices_ContainsFunc_string, ap2 slices_ContainsFunc_string), (F.strings_Split, ap2 strings_Split), (F.paper_Path_1, ap1 paper_Path_1), (F.rank_Num, ap1 rank_Num), (F.rank_Point, ap2 rank_Point), (F.rank_part, ap1 rank_part), (F.rank_Text, ap1 rank_Text), (F.slices_IndexFunc_Cell, ap2 slices_IndexFunc_Cell), (F.slices_IndexFunc_string, ap2 slices_IndexFunc_string)]
theorem shT_le : ShLe Tryz.prog tb (shl shT) := shl_cons law24_ClientNew.le (shl_cons law24_awake.le (shl_cons client_New.le (shl_cons ref24_May.le (shl_cons ref24_Same.le (shl_cons client_Begin.le (shl_cons client_Tick.le (shl_cons slices_Contains_int.le (shl_cons ballot_New.le (shl_cons slices_Clone_int.le (shl_cons ref18_Masters.le (shl_cons ref16_SameRequest.le (shl_cons ref16_Ints.le (shl_cons ref19_Same.le (shl_cons ref12_Same.le (shl_cons client_own.le (shl_cons wire_Request.le (shl_cons client_request.le (shl_cons client_ask.le (shl_cons slices_Index_int.le (shl_cons ballot_Restore.le (shl_cons ref16_sameOp.le (shl_cons ref16_Confs.le (shl_cons ref04_Same.le (shl_cons ref12_Docs.le (shl_cons ref12_News.le (shl_cons ref08_Same.le (shl_cons client_op.le (shl_cons client_answer.le (shl_cons slices_Clone_Chain.le (shl_cons wire_nested.le (shl_cons wire_encode.le (shl_cons wire_good.le (shl_cons wire_maker_request.le (shl_cons conf_Chain.le (shl_cons ballot_peers.le (shl_cons ballot_records.le (shl_cons ref16_sameConf.le (shl_cons slices_Clone_Doc_Field.le (shl_cons client_docs.le (shl_cons client_news.le (shl_cons slices_Clone_Op.le (shl_cons slices_Clone_Pair.le (shl_cons cell_Encode.le (shl_cons wire_good_1.le (shl_cons paper_Cell.le (shl_cons cell_List.le (shl_cons cell_Num.le (shl_cons wire_maker_op.le (shl_cons conf_at.le (shl_cons conf_own.le (shl_cons slices_Clone_Log.le (shl_cons slices_Clone_byte.le (shl_cons slices_Clone_Named.le (shl_cons slices_Clone_Change.le (shl_cons cell_Check.le (shl_cons cell_put.le (shl_cons paper_Check.le (shl_cons cell_Text.le (shl_cons paper_value.le (shl_cons wire_truth.le (shl_cons wire_each_Op.le (shl_cons wire_each_Named.le (shl_cons wire_maker_named.le (shl_cons wire_each_Change.le (shl_cons wire_maker_change.le (shl_cons slices_IndexFunc_Chain.le (shl_cons conf_at_1.le (shl_cons cell_deep.le (shl_cons cell_pure.le (shl_cons cell_count.le (shl_cons cell_number.le (shl_cons paper_Path.le (shl_cons rank_Check.le (shl_cons slices_ContainsFunc_Cell.le (shl_cons cell_pure_1.le (shl_cons paper_Key.le (shl_cons slices_ContainsFunc_string.le (shl_cons strings_Split.le (shl_cons paper_Path_1.le (shl_cons rank_Num.le (shl_cons rank_Point.le (shl_cons rank_part.le (shl_cons rank_Text.le (shl_cons slices_IndexFunc_Cell.le (shl_cons slices_IndexFunc_string.le (shl_nil))))))))))))))))))))))))))))))))))))))))))))))))))))))))))))))))))))))))))))))))))))))
/-- What a function comes to, by running it. -/
theorem run (n : Nat) {f : Nat} {args : List AV} {r : AV} (h : (ShN (shl shT) (pgOf Tryz.prog tb).pl n).f f args = some r) : SX.f f args = some r := sh_run shT_le n h
end Go.Proofs.YtjfnncdafiiffaaGreatDoor

